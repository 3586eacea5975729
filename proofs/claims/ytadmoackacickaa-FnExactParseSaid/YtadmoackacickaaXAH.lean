import Derived.Test.YtadmoackacickaaXAG
import Derived.Test.YtadmoackacickaaXAD
import Derived.KernelRfl
import Derived.Test.YtadmoackacickaaProg
import Derived.Test.YtadmoackacickaaXAF
/- The parser: what begins with an expression. -/
set_option linter.unusedSimpArgs false
namespace Go.Proofs.Ytadmoackacickaa
open Go Go.AH

/-- A node of the function's own. -/
def NB (h : AHeap) (i : Nat) (n : Kn) (kv : Value) (rn : Option Nat) : Prop := OwnR h i i 73 (knCells n kv) ∧ KidH h kv n.ks ∧ rn ≠ some i
theorem NB.pk {h h' : AHeap} {i : Nat} {n : Kn} {kv : Value} {rn rn' : Option Nat} (x : NB h i n kv rn) (k : PK rn h h') (r : PRN rn rn' h) : NB h' i n kv rn' := by
  obtain ⟨a, b, e⟩ := x
  have hl := a.lt
  obtain ⟨ep, a⟩ := a
  refine ⟨⟨ep, k.2.1 i _ a (by show (73 : TypeId) ≠ 81; decide) (fun _ => e)⟩, b.pk k, ?_⟩
  rcases r with rfl | ⟨q, rfl, hq⟩
  · exact e
  · intro he
    have : q = i := by simpa using he
    omega
theorem nodes_root {h : AHeap} {nv : Value} {ns : List Kn} {rn : Option Nat} (x : NodesH h nv ns rn) : rn ≠ some h.size := by
  rcases x with ⟨_, _, rfl⟩ | ⟨i, root, cells, _, rfl, o, _⟩
  · simp
  · intro he
    have : root = h.size := by simpa using he
    have := o.lt
    omega
theorem NB.new {h : AHeap} {nv : Value} {ns : List Kn} {rn : Option Nat} {n : Kn} {kv : Value} (x : NodesH h nv ns rn) (k : KidH h kv n.ks) :
    ∃ h', aSt (h.new 73 [.int .i64 0, .string ⟨#[]⟩, .int .i64 0, .slice none 0 0]) (ptr h.size 0) (knVal n kv) 4 = some h' ∧ Ext h.size h h' ∧ NB h' h.size n kv rn := by
  have o1 := Own.new (h := h) (b := h.size) (Nat.le_refl _) 73 [.int .i64 0, .string ⟨#[]⟩, .int .i64 0, .slice none 0 0]
  obtain ⟨h', a, b, e, s⟩ := Own.stN (n := 4) (v := knVal n kv) o1 (kn_cells k.cell n) rfl rfl
  have E := (Ext.new (Nat.le_refl h.size) 73 [.int .i64 0, .string ⟨#[]⟩, .int .i64 0, .slice none 0 0]).trans b
  refine ⟨h', a, E, ?_, k.ext E, nodes_root x⟩
  obtain ⟨root, ep, e1, e2⟩ := e
  have := (at?_obj e1).2.2.1
  have hr : root = h.size := Nat.le_antisymm this e2
  subst hr
  exact ⟨ep, e1⟩
theorem NB.ld {h : AHeap} {i : Nat} {n : Kn} {kv : Value} {rn : Option Nat} (x : NB h i n kv rn) : aLd1 h (ptr i 0) = some (.int .i64 n.k) ∧ aLd1 h (ptr i 1) = some (.string n.t) ∧ aLd1 h (ptr i 3) = some kv :=
  ⟨x.1.row.ld1 rfl, x.1.row.ld1 rfl, x.1.row.ld1 rfl⟩
/-- A node is read. -/
theorem NodesH.at {h : AHeap} {nv : Value} {ns : List Kn} {rn : Option Nat} (x : NodesH h nv ns rn) {e : Int} (h0 : 0 ≤ e) {n : Kn} (hn : ns[e.toNat]? = some n) :
    ∃ p kv, aIdx nv (.int .i64 e) 4 = some p ∧ aLdN h p 4 = some (knVal n kv) ∧ KidH h kv n.ks := by
  rcases x with ⟨_, rfl, _⟩ | ⟨i, root, cells, rfl, rfl, o, hl, hx⟩
  · simp at hn
  · have hlt := (List.getElem?_eq_some_iff.1 hn).1
    obtain ⟨kv, y, z⟩ := hx _ _ hn
    refine ⟨ptr i (e.toNat * 4), kv, ?_, ?_, z⟩
    · have : 0 ≤ e ∧ e < (ns.length : Int) := by omega
      simp [aIdx, slc, this]
    · rw [o.row.ldN (by omega), y]; rfl
theorem NodesH.cut {h : AHeap} {nv : Value} {ns : List Kn} {rn : Option Nat} (x : NodesH h nv ns rn) {e : Int} (he : 0 ≤ e ∧ e ≤ ns.length) :
    ∃ nv', aSub h 73 nv none (some (.int .i64 e)) 4 = some nv' ∧ NodesH h nv' (ns.take e.toNat) rn := by
  rcases x with ⟨rfl, rfl, rfl⟩ | ⟨i, root, cells, rfl, rfl, o, hl, hx⟩
  · have : e = 0 := by have := he.2; simp at this; omega
    subst this
    exact ⟨.slice none 0 0, rfl, .inl ⟨rfl, rfl, rfl⟩⟩
  · obtain ⟨ep, ha⟩ := o
    refine ⟨slc i 0 e.toNat, ?_, .inr ⟨i, root, cells, ?_, rfl, ⟨ep, ha⟩, ?_, ?_⟩⟩
    · simp [aSub, slc, ha, aBound, he]
    · rw [List.length_take, Nat.min_eq_left (by omega)]
    · rw [List.length_take, Nat.min_eq_left (by omega)]; omega
    · intro j n hn
      rw [List.getElem?_take] at hn
      by_cases hj : j < e.toNat
      · rw [if_pos hj] at hn; exact hx j n hn
      · rw [if_neg hj] at hn; cases hn
section
variable (c : PC) (whole : PI) (e : Int) (n : Kn)
def tail2 (b : Bool) : PI := fun st => if b = true then
      (match n.ks with
      | [a, b] => (cutP e st).bind fun s => (whole s).bind fun x => (wantP c ⟨#[59]⟩ x.2).bind fun s => nodeP 16 E0 0 [a, b, x.1] s
      | _ => none)
    else some (0, failP c st 2)
def tail1 (b : Bool) : PI := fun st => if b = true then (cutP e st).bind fun s => (whole s).bind fun x => (wantP c ⟨#[59]⟩ x.2).bind fun s => nodeP 15 n.t 0 [x.1] s else
    (if n.k = 8 then takesP c ⟨#[61]⟩ st else some (false, st)).bind fun r => tail2 c whole e n r.1 r.2
def tail0 (b : Bool) : PI := fun st => if b = true then nodeP 20 E0 0 [e] st else
    (if n.k = 5 then takesP c ⟨#[61]⟩ st else some (false, st)).bind fun r => tail1 c whole e n r.1 r.2
end
theorem begun_eq (c : PC) (whole : PI) (st : PSt) : begunP c whole st = (whole st).bind fun e => if e.2.code ≠ 0 then some (0, e.2) else
    match e.2.nodes[e.1.toNat]? with
    | none => none
    | some n => if e.1 < 0 then none else (if n.k = 9 then takesP c ⟨#[59]⟩ e.2 else some (false, e.2)).bind fun r => tail0 c whole e.1 n r.1 r.2 := rfl
section
variable {d : Nat} {c : PC} {whole : PI} (hw : Sim c (d + 21) 110 whole) {i : Nat} {n : Kn} {kv : Value} {e q : Int} {st st' : PSt} {h : AHeap} {rn : Option Nat}
include hw
end
end Go.Proofs.Ytadmoackacickaa
/- The parser does as its plain form says, whatever the fuel. -/
set_option linter.unusedSimpArgs false
namespace Go.Proofs.Ytadmoackacickaa
open Go Go.AH

theorem un_ret (m : PI) (st : PSt) : un (ret m) st = m st := by
  unfold un ret
  cases m st with
  | none => rfl
  | some r => rfl
theorem parse_out (c : PC) {D k : Nat} (h : D < 30 ∨ D > 2000000) (st : PSt) : parse c (D + 1) k st = none := by rw [parse, if_pos h]
section
variable (c : PC) {D : Nat} (h : ¬ (D < 30 ∨ D > 2000000)) (st : PSt)
include h
theorem parse_110 : parse c (D + 1) 110 st = ret (wholeP c (un (parse c D 158))) st := by rw [parse, if_neg h]; rfl
theorem parse_158 : parse c (D + 1) 158 st = ret (binP c ⟨#[111, 114]⟩ 13 (un (parse c D 188)) D) st := by rw [parse, if_neg h]; rfl
theorem parse_188 : parse c (D + 1) 188 st = ret (binP c ⟨#[97, 110, 100]⟩ 12 (un (parse c D 203)) D) st := by rw [parse, if_neg h]; rfl
theorem parse_203 : parse c (D + 1) 203 st = ret (compareP c (un (parse c D 220))) st := by rw [parse, if_neg h]; rfl
theorem parse_2310 : parse c (D + 1) 2310 st = ret (rowP c [⟨#[46, 46]⟩] (un (parse c D 232)) D) st := by rw [parse, if_neg h]; rfl
theorem parse_2311 : parse c (D + 1) 2311 st = ret (rowP c [⟨#[43]⟩, ⟨#[45]⟩] (un (parse c D 238)) D) st := by rw [parse, if_neg h]; rfl
theorem parse_2312 : parse c (D + 1) 2312 st = ret (rowP c [⟨#[42]⟩, ⟨#[47]⟩, ⟨#[37]⟩] (un (parse c D 241)) D) st := by rw [parse, if_neg h]; rfl
theorem parse_220 : parse c (D + 1) 220 st = parse c D 2310 st := by rw [parse, if_neg h]; rfl
theorem parse_232 : parse c (D + 1) 232 st = parse c D 2311 st := by rw [parse, if_neg h]; rfl
theorem parse_238 : parse c (D + 1) 238 st = parse c D 2312 st := by rw [parse, if_neg h]; rfl
theorem parse_241 : parse c (D + 1) 241 st = ret (unaryP c (un (parse c D 241)) (un (parse c D 242))) st := by rw [parse, if_neg h]; rfl
theorem parse_242 : parse c (D + 1) 242 st = ret (behindP c (un (parse c D 243)) (un (parse c D 110)) (parse c D 244) D) st := by rw [parse, if_neg h]; rfl
theorem parse_243 : parse c (D + 1) 243 st = ret (primaryP c (un (parse c D 110)) (un (parse c D 245)) (un (parse c D 246))) st := by rw [parse, if_neg h]; rfl
theorem parse_244 : parse c (D + 1) 244 st = argsP c (un (parse c D 110)) D st := by rw [parse, if_neg h]; rfl
theorem parse_245 : parse c (D + 1) 245 st = ret (fnP c (un (parse c D 111)) D) st := by rw [parse, if_neg h]; rfl
theorem parse_246 : parse c (D + 1) 246 st = ret (tableP c (un (parse c D 247)) D) st := by rw [parse, if_neg h]; rfl
theorem parse_247 : parse c (D + 1) 247 st = ret (fieldP c (un (parse c D 110))) st := by rw [parse, if_neg h]; rfl
theorem parse_111 : parse c (D + 1) 111 st = ret (blockP c (un (parse c D 63)) D) st := by rw [parse, if_neg h]; rfl
theorem parse_112 : parse c (D + 1) 112 st = ret (begunP c (un (parse c D 110))) st := by rw [parse, if_neg h]; rfl
theorem parse_63 : parse c (D + 1) 63 st = ret (stmtP c (un (parse c D 110)) (un (parse c D 111)) (un (parse c D 112))) st := by rw [parse, if_neg h]; rfl
end
theorem un_none {m : PM} {st : PSt} (h : m st = none) : un m st = none := by unfold un; rw [h]; rfl
theorem un_eq {m m' : PM} {st : PSt} (h : m st = m' st) : un m st = un m' st := by unfold un; rw [h]
end Go.Proofs.Ytadmoackacickaa
/- impl.Parse. -/
set_option linter.unusedSimpArgs false
namespace Go.Proofs.Ytadmoackacickaa
open Go Go.AH

/-- What Parse returns: nodes, root, code, place. -/
abbrev PRes := List Kn × Int × Int × Int
def finP (l : List Int) (st : PSt) : Option PRes := if st.code ≠ 0 then some ([], 0, st.code, st.place) else (nodeP 21 E0 0 l st).map fun x => (x.2.nodes, x.1, 0, 0)
def st0 : PSt := ⟨0, 0, [], 0, 0⟩
def parseC (c : PC) (D : Nat) : Option PRes := (topLoop c (un (parse c D 63)) D [] st0).bind fun l => finP l.1 l.2
def tval (nv : Value) (r : PRes) : Value := .tuple (List.toArray [.agg (List.toArray [nv, .int .i64 r.2.1]), .int .i64 r.2.2.1, .int .i64 r.2.2.2])
theorem stE {h : AHeap} {i n : Nat} {e : TypeId} {cells vs : List Value} (o : OwnR h i i e cells) {v : Value} (hv : aCells v = some vs) (hl : vs.length = n) (hc : cells.length = n) (he : ¬ 3 = e) :
    ∃ h', aSt h (ptr i 0) v n = some h' ∧ OwnR h' i i e vs ∧ h'.size = h.size ∧ (∀ j o, h.at? j = some o → o.elem ≠ e ∨ o.root ≠ i → h'.at? j = some o) ∧ (∀ r, h'.tip 3 r = h.tip 3 r) := by
  obtain ⟨ep, h1⟩ := o
  have hsp : splice cells 0 vs = vs := by
    unfold splice
    simp [hl, hc]
  refine ⟨h.put i ⟨i, ep, false, e, cells⟩ (splice cells 0 vs), by simp [aSt, ptr, h1, hv, hl, hc], ⟨h.ep e i + 1, ?_⟩, rfl, fun k o ho hk => at?_put_other ho (fun ee => by subst ee; rw [h1] at ho; cases ho; rcases hk with hk | hk <;> exact hk rfl) _ (fun hh => by
    rcases hk with hk | hk
    · exact hk hh.1
    · exact hk hh.2), fun r => by simp [AHeap.put, he]⟩
  have := at?_put_same h1 (splice cells 0 vs)
  rw [hsp] at this ⊢
  exact this
theorem PK.st35 {h0 h h' : AHeap} {i1 : Nat} (k : PK none h0 h) (hi : h0.size ≤ i1) (hs : h'.size = h.size) (hk : ∀ j o, h.at? j = some o → o.elem ≠ 35 ∨ o.root ≠ i1 → h'.at? j = some o) (ht : ∀ r, h'.tip 3 r = h.tip 3 r) : PK none h0 h' :=
  ⟨by rw [hs]; exact k.1, fun j o a b c => hk j o (k.2.1 j o a b c) (.inr (by have := at?_obj a; omega)), fun r hr => (ht r).trans (k.2.2 r hr)⟩
theorem NodesH.keep' {h h' : AHeap} {v : Value} {ns : List Kn} {rn : Option Nat} (x : NodesH h v ns rn) {e : TypeId} (h1 : e ≠ 73) (h2 : e ≠ 3) (k : ∀ j o, h.at? j = some o → o.elem ≠ e → h'.at? j = some o) : NodesH h' v ns rn := by
  rcases x with a | ⟨i, rt, cs, a, b, ⟨ep, c⟩, d, f⟩
  · exact .inl a
  · refine .inr ⟨i, rt, cs, a, b, ⟨ep, k i _ c (fun h => h1 h.symm)⟩, d, fun j n hn => ?_⟩
    obtain ⟨kv, y, z⟩ := f j n hn
    refine ⟨kv, y, ?_⟩
    rcases z with z | ⟨i', rt', z1, ep', z2⟩
    · exact .inl z
    · exact .inr ⟨i', rt', z1, ep', k i' _ z2 (fun h => h2 h.symm)⟩
theorem two35 {nv : Value} (h : isCell nv = true) (r : Int) : aCells (.agg (List.toArray [nv, .int .i64 r])) = some [nv, .int .i64 r] := by
  show (if (List.all [nv, .int .i64 r] isCell) = true then _ else _) = _
  rw [if_pos (by show (isCell nv && (true && true)) = true; rw [h]; rfl)]
theorem fill35 {nv : Value} (h : isCell nv = true) (r : Int) : aFill [.slice none 0 0, .int .i64 0] [(0, 1, nv), (1, 1, .int .i64 r)] = some [nv, .int .i64 r] := by
  simp [aFill, aCells_int, aCells_one h, splice]
def parseR (D : Nat) (s : ByteArray) : Option PRes := if (lexR s).2.1 ≠ 0 then some ([], 0, 1, ((lexR s).2.2 : Int)) else parseC ⟨0, .slice none 0 0, (lexR s).1, s.size⟩ D
theorem parse_indep (p p' : Nat) (tv tv' : Value) (toks : List Tok) (en : Int) (D : Nat) : parseC ⟨p, tv, toks, en⟩ D = parseC ⟨p', tv', toks, en⟩ D := by kernel_rfl
end Go.Proofs.Ytadmoackacickaa
/- impl.Parse (2). -/
set_option linter.unusedSimpArgs false
namespace Go.Proofs.Ytadmoackacickaa
open Go Go.AH

theorem OS.tok {b : Nat} {h : AHeap} {v : Value} {ts : List Tok} (x : OS b h v ts) : TokH h v ts := by
  rcases x with a | ⟨i, a, b⟩
  · exact .inl a
  · exact .inr ⟨i, a, Own.rowE b⟩
theorem TokH.cell {h : AHeap} {v : Value} {ts : List Tok} (x : TokH h v ts) : isCell v = true := by
  rcases x with ⟨rfl, _⟩ | ⟨i, rfl, _⟩ <;> rfl
theorem fill81 {tv : Value} (h : isCell tv = true) (en : Int) : aFill [.slice none 0 0, .int .i64 0, .int .i64 0, .int .i64 0, .slice none 0 0, .int .i64 0, .int .i64 0] [(0, 1, tv), (2, 1, .int .i64 en)] = some [tv, .int .i64 0, .int .i64 en, .int .i64 0, .slice none 0 0, .int .i64 0, .int .i64 0] := by
  simp [aFill, aCells_int, aCells_one h, splice]
theorem cells81 {tv : Value} (h : isCell tv = true) (en : Int) : aCells (.agg (List.toArray [tv, .int .i64 0, .int .i64 en, .int .i64 0, .slice none 0 0, .int .i64 0, .int .i64 0])) = some [tv, .int .i64 0, .int .i64 en, .int .i64 0, .slice none 0 0, .int .i64 0, .int .i64 0] := by
  show (if (List.all [tv, .int .i64 0, .int .i64 en, .int .i64 0, .slice none 0 0, .int .i64 0, .int .i64 0] isCell) = true then _ else _) = _
  rw [if_pos (by show (isCell tv && (true && (true && (true && (true && (true && (true && true))))))) = true; rw [h]; rfl)]
end Go.Proofs.Ytadmoackacickaa
set_option linter.unusedVariables false
namespace Go.Proofs.Ytadmoackacickaa
open Go Go.AH
/-! 132 (*loop.example/g00101/impl.printer).inner -/
/-! 133 (*loop.example/g00101/impl.printer).statement -/
/-! 169 loop.example/g00101/spec.l9Digits -/
/-! 170 loop.example/g00101/spec.l9Commas -/
/-! 171 loop.example/g00101/spec.l9Ops -/
theorem e171 (hk : Hk (Value × AHeap)) (C : ACall) (N : Nat) (h : AHeap) : evFn hk Try.prog C M171 N Try.f171 [] h =
    aNewS h 9 [.string ⟨#[]⟩, .string (⟨#[43]⟩), .string (⟨#[45]⟩), .string (⟨#[42]⟩), .string (⟨#[47]⟩), .string (⟨#[37]⟩), .string (⟨#[46, 46]⟩), .string (⟨#[61, 61]⟩), .string (⟨#[126, 61]⟩), .string (⟨#[60]⟩), .string (⟨#[60, 61]⟩)] 11 fun p1 h2 => some (p1, h2) := by kernel_rfl
theorem c171 (d : Nat) (args : List Value) (h : AHeap) : call Try.prog Ms (d + 1) 171 args h = evFn hk0 Try.prog (call Try.prog Ms d) M171 d Try.f171 args h := by kernel_rfl

/-! 9 loop.example/g00101/laws.FnExactFreeNames -/
/-! 37 loop.example/g00101/spec.FreeNames -/
/-! 38 loop.example/g00101/impl.FreeNames -/
/-! 39 loop.example/g00101/laws.eqStringS -/
/-! 40 loop.example/g00101/laws.markStringS -/
/-! 41 loop.example/g00101/laws.heldStringS -/
/-! 73 loop.example/g00101/spec.l19Free -/
end Go.Proofs.Ytadmoackacickaa
/- Frames by kinds of rows; rows of strings; steps of a walk. -/
set_option linter.unusedSimpArgs false
namespace Go.Proofs.Ytadmoackacickaa
open Go Go.AH

/-! ### strings -/
def strs (xs : List ByteArray) : List Value := xs.map Value.string
/-! ### steps of a walk -/
theorem eb {α R : Type} {o : Option α} {k : α → Option R} {v : α} {r : Option R} (e : o = some v) (hk : k v = r) : o.bind k = r := by rw [e]; exact hk
theorem ecf {R : Type} {c : Bool} {a b r : Option R} (e : c = false) (hk : b = r) : (bif c then a else b) = r := by rw [e]; exact hk
theorem ect {R : Type} {c : Bool} {a b r : Option R} (e : c = true) (hk : a = r) : (bif c then a else b) = r := by rw [e]; exact hk

section
variable {P : Option (Value × AHeap) → Prop}
end
theorem Ext.tr {h g k : AHeap} (x : Ext h.size h g) (y : Ext g.size g k) : Ext h.size h k := x.trans (y.mono x.size)
end Go.Proofs.Ytadmoackacickaa
/- What is printed of a node, plainly; small steps. -/
set_option linter.unusedSimpArgs false
namespace Go.Proofs.Ytadmoackacickaa
open Go Go.AH

abbrev BA := ByteArray
def dgt (n : Int) : BA := ⟨#[UInt8.ofNat (48 + n).toNat]⟩
/-- Decimal digits of a number that is not below 0, ahead of a text. -/
def dg : Nat → Int → BA → BA
  | 0, _, t => t
  | f + 1, n, t => if n < 10 then dgt n ++ t else dg f (n / 10) (dgt (n % 10) ++ t)
def digs (n : Int) : BA := dg 20 n ⟨#[]⟩
/-- Nodes with commas between. -/
def cm (F : Int → List BA) : Nat → List Int → List BA
  | _, [] => []
  | 0, k :: ks => F k ++ cm F 1 ks
  | j + 1, k :: ks => [(⟨#[44]⟩ : BA)] ++ F k ++ cm F (j + 2) ks
def opW : List BA := [⟨#[]⟩, ⟨#[43]⟩, ⟨#[45]⟩, ⟨#[42]⟩, ⟨#[47]⟩, ⟨#[37]⟩, ⟨#[46, 46]⟩, ⟨#[61, 61]⟩, ⟨#[126, 61]⟩, ⟨#[60]⟩, ⟨#[60, 61]⟩]
def turnW : List BA := [⟨#[]⟩, ⟨#[45]⟩, ⟨#[110, 111, 116]⟩, ⟨#[35]⟩]
def boolW : List BA := [⟨#[102, 97, 108, 115, 101]⟩, ⟨#[116, 114, 117, 101]⟩]
def Kn.kd (n : Kn) (j : Nat) : Int := n.ks.getD j 0
/-- The tokens of a node. -/
def ntoks (F : Int → List BA) (n : Kn) : List BA :=
  if n.k = 1 then [⟨#[110, 105, 108]⟩]
  else if n.k = 2 then [boolW.getD n.i.toNat ⟨#[]⟩]
  else if n.k = 3 then [digs n.i]
  else if n.k = 4 then [(⟨#[34]⟩ : BA) ++ n.t ++ ⟨#[34]⟩]
  else if n.k = 6 then [⟨#[40]⟩, ⟨#[102, 110]⟩, ⟨#[40]⟩] ++ cm F 0 n.ks.dropLast ++ [⟨#[41]⟩] ++ F (n.kd (n.ks.length - 1)) ++ [⟨#[41]⟩]
  else if n.k = 7 then [⟨#[40]⟩, ⟨#[123]⟩] ++ cm F 0 n.ks ++ [⟨#[125]⟩, ⟨#[41]⟩]
  else if n.k = 8 then F (n.kd 0) ++ [⟨#[91]⟩] ++ F (n.kd 1) ++ [⟨#[93]⟩]
  else if n.k = 9 then F (n.kd 0) ++ [⟨#[40]⟩] ++ cm F 0 n.ks.tail ++ [⟨#[41]⟩]
  else if n.k = 10 then [⟨#[40]⟩] ++ F (n.kd 0) ++ [opW.getD n.i.toNat ⟨#[]⟩] ++ F (n.kd 1) ++ [⟨#[41]⟩]
  else if n.k = 11 then [⟨#[40]⟩, turnW.getD n.i.toNat ⟨#[]⟩] ++ F (n.kd 0) ++ [⟨#[41]⟩]
  else if n.k = 12 then [⟨#[40]⟩] ++ F (n.kd 0) ++ [⟨#[97, 110, 100]⟩] ++ F (n.kd 1) ++ [⟨#[41]⟩]
  else if n.k = 13 then [⟨#[40]⟩] ++ F (n.kd 0) ++ [⟨#[111, 114]⟩] ++ F (n.kd 1) ++ [⟨#[41]⟩]
  else if n.k = 14 then [⟨#[108, 111, 99, 97, 108]⟩, n.t, ⟨#[61]⟩] ++ F (n.kd 0) ++ [⟨#[59]⟩]
  else if n.k = 15 then [n.t, ⟨#[61]⟩] ++ F (n.kd 0) ++ [⟨#[59]⟩]
  else if n.k = 16 then F (n.kd 0) ++ [⟨#[91]⟩] ++ F (n.kd 1) ++ [⟨#[93]⟩, ⟨#[61]⟩] ++ F (n.kd 2) ++ [⟨#[59]⟩]
  else if n.k = 17 then [⟨#[105, 102]⟩] ++ F (n.kd 0) ++ F (n.kd 1) ++ (if n.ks.length = 3 then [⟨#[101, 108, 115, 101]⟩] ++ F (n.kd 2) else [])
  else if n.k = 18 then [⟨#[119, 104, 105, 108, 101]⟩] ++ F (n.kd 0) ++ F (n.kd 1)
  else if n.k = 19 then [⟨#[114, 101, 116, 117, 114, 110]⟩] ++ F (n.kd 0) ++ [⟨#[59]⟩]
  else if n.k = 20 then F (n.kd 0) ++ [⟨#[59]⟩]
  else if n.k = 21 then [⟨#[123]⟩] ++ n.ks.flatMap F ++ [⟨#[125]⟩]
  else if n.k = 23 then F (n.kd 0)
  else if n.k = 24 then [⟨#[91]⟩] ++ F (n.kd 0) ++ [⟨#[93]⟩, ⟨#[61]⟩] ++ F (n.kd 1)
  else [n.t]
/-! ### kids that can be read -/
section
variable {g : AHeap} {p2 p5 : Nat} {nv : Value} {top : Int} {T : List Kn} {n : Kn} {kv : Value}
end
theorem ag2s {o : Option Value} {n m : ByteArray} (e : o = some (.string n)) : (o.bind fun x => (asS x).bind fun q => some (vbeq (.string q) (.string m))) = some (vbeq (.string n) (.string m)) := by rw [e]; rfl
/-! ### cuts of kids -/
section
variable {h : AHeap} {T : List BA}
end
end Go.Proofs.Ytadmoackacickaa
/- Right trees; nodes in the heap. -/
set_option linter.unusedSimpArgs false
namespace Go.Proofs.Ytadmoackacickaa
open Go Go.AH

theorem RowE.ext' {h g : AHeap} {i : Nat} {e : TypeId} {cs : List Value} (x : RowE h i e cs) (k : Ext h.size h g) : RowE g i e cs := let ⟨o, a, b, c⟩ := x; ⟨o, k.at? (at?_obj a).2.1 a, b, c⟩
end Go.Proofs.Ytadmoackacickaa
/- Fold: the model of the folded nodes. -/
set_option linter.unusedSimpArgs false
namespace Go.Proofs.Ytadmoackacickaa
open Go Go.AH

section
variable {T : List Kn}
/-! ### the nodes, one behind the other -/
end
end Go.Proofs.Ytadmoackacickaa
set_option linter.unusedVariables false
namespace Go.Proofs.Ytadmoackacickaa
open Go Go.AH
/-! 74 loop.example/g00101/impl.bound -/
/-! 75 slices.Contains[[]string,string] -/
/-! 119 (*loop.example/g00101/impl.binder).walk -/
/-! 163 (*loop.example/g00101/impl.binder).names -/
/-! 10 loop.example/g00101/laws.FnExactFold -/
/-! 42 loop.example/g00101/spec.Fold -/
/-! 43 loop.example/g00101/impl.Fold -/
/-! 44 loop.example/g00101/laws.heldTree -/
theorem e44 (hk : Hk (Value × AHeap)) (C : ACall) (N : Nat) (x0 : Value) (x1 : Int) (h : AHeap) : evFn hk Try.prog C M44 N Try.f44 [x0, .int .i64 x1] h =
    (aCells x0).bind fun c1 => aNew h 35 c1 fun p2 h3 => (aOff p2 0).bind fun v4 => (aLd1 h3 v4).bind fun v5 => (C 79 [v5, .int .i64 x1] h3).bind fun r6 => (asI .i64 r6.1).bind fun n7 => bif decide (n7 < 0) then some (.int .i64 (-1), r6.2) else some (.int .i64 n7, r6.2) := by kernel_rfl
theorem c44 (d : Nat) (args : List Value) (h : AHeap) : call Try.prog Ms (d + 1) 44 args h = evFn hk0 Try.prog (call Try.prog Ms d) M44 d Try.f44 args h := by kernel_rfl

/-! 76 loop.example/g00101/spec.l19Fold -/
/-! 77 (*loop.example/g00101/impl.Tree).lay -/
/-! 78 (*loop.example/g00101/impl.Tree).twigOf -/
/-! 79 loop.example/g00101/laws.heldKnotS -/
noncomputable def F79_0 (hk : Hk (Value × AHeap)) (C : ACall) (N : Nat) (n1 : Nat) : Nx (Value × AHeap) := evSt hk Try.prog C M79 N Try.f79 [1, 0, 1, 2, 6] [n1]
noncomputable def s79_0 (hk : Hk (Value × AHeap)) (C : ACall) (N : Nat) (n1 : Nat) (x0 : Value) (x1 : Int) (x5 : Int) (h : AHeap) := F79_0 hk C N n1 (⟨50, [(0, x0), (1, .int .i64 x1), (5, .int .i64 x5)]⟩) h
theorem e79 (hk : Hk (Value × AHeap)) (C : ACall) (N : Nat) (x0 : Value) (x1 : Int) (h : AHeap) : evFn hk Try.prog C M79 N Try.f79 [x0, .int .i64 x1] h =
    s79_0 hk C N N x0 x1 0 h := by kernel_rfl
theorem s79_0_eq (hk : Hk (Value × AHeap)) (C : ACall) (N : Nat) (n1 : Nat) (x0 : Value) (x1 : Int) (x5 : Int) (h : AHeap) : s79_0 hk C N (n1 + 1) x0 x1 x5 h =
    (aLen x0).bind fun v1 => (asI .i64 v1).bind fun n2 => bif decide (x5 < n2) then (aIdx x0 (.int .i64 x5) 4).bind fun v3 => (aOff v3 0).bind fun v4 => (aLd1 h v4).bind fun v5 => (asI .i64 v5).bind fun n6 => bif n6 != x1 then some (.int .i64 (-1), h) else (aIdx x0 (.int .i64 x5) 4).bind fun v7 => (aOff v7 1).bind fun v8 => (aLd1 h v8).bind fun v9 => (asS v9).bind fun t10 => (C 55 [.int .i64 (IntKind.i64.wrap (x1 + 1))] h).bind fun r11 => (asS r11.1).bind fun t12 => ((aLd1 r11.2 v8).bind fun v13 => (asS v13).bind fun t14 => some (vbeq (.string t14) (.string t10))).bind fun b15 => bif b15 then bif !(t10.toList == t12.toList) then some (.int .i64 (-1), r11.2) else (aIdx x0 (.int .i64 x5) 4).bind fun v16 => (aOff v16 2).bind fun v17 => (aLd1 r11.2 v17).bind fun v18 => (asI .i64 v18).bind fun n19 => bif n19 != (IntKind.i64.wrap ((IntKind.i64.wrap (x1 + 1)) + 1)) then some (.int .i64 (-1), r11.2) else (aIdx x0 (.int .i64 x5) 4).bind fun v20 => (aOff v20 3).bind fun v21 => (aLd1 r11.2 v21).bind fun v22 => (C 35 [v22, .int .i64 (IntKind.i64.wrap ((IntKind.i64.wrap ((IntKind.i64.wrap (x1 + 1)) + 1)) + 1))] r11.2).bind fun r23 => (asI .i64 r23.1).bind fun n24 => bif decide (n24 < 0) then some (.int .i64 (-1), r23.2) else s79_0 hk C N n1 x0 n24 (IntKind.i64.wrap (x5 + 1)) r23.2 else none else some (.int .i64 x1, h) := by kernel_rfl
theorem c79 (d : Nat) (args : List Value) (h : AHeap) : call Try.prog Ms (d + 1) 79 args h = evFn hk0 Try.prog (call Try.prog Ms d) M79 d Try.f79 args h := by kernel_rfl
end Go.Proofs.Ytadmoackacickaa
/- Slices of strings that stay; what looks for a string; marks on strings. -/
set_option linter.unusedSimpArgs false
namespace Go.Proofs.Ytadmoackacickaa
open Go Go.AH

section
variable {c d : Nat} {h g : AHeap} {v : Value} {xs : List BA}
end
/-! ### alike -/
/-! ### marks -/
/-- Rows of strings of one family turn, all else stays. -/
def Ks (e : TypeId) (root : Nat) (h h' : AHeap) : Prop := ∀ j o, h.at? j = some o → (o.elem ≠ e ∨ o.root ≠ root) → h'.at? j = some o
/-- A cell of a row of one's own is written. -/
theorem stOwn {b : Nat} {h : AHeap} {r rt j : Nat} {e : TypeId} {cs : List Value} {v : Value} (o : OwnR h r rt e cs) (hb : b ≤ rt) (hj : j < cs.length) (hv : isCell v = true) :
    ∃ h', aSt h (ptr r j) v 1 = some h' ∧ Ext b h h' ∧ Ks e rt h h' ∧ OwnR h' r rt e (cs.set j v) ∧ h'.size = h.size := by
  obtain ⟨ep, ha⟩ := o
  have hsp : splice cs j [v] = cs.set j v := by
    unfold splice
    rw [List.set_eq_take_append_cons_drop, if_pos hj]; simp
  refine ⟨h.put r ⟨rt, ep, false, e, cs⟩ (cs.set j v), ?_, Ext.put (Nat.le_trans hb (at?_obj ha).2.2.1) hb _, fun k o hk hf => ?_, ⟨_, at?_put_same ha _⟩, rfl⟩
  · have : j + 1 ≤ cs.length := hj
    simp [aSt, ptr, ha, aCells_one hv, this, hsp]
  · refine at?_put_other hk (fun e' => ?_) _ (fun x => hf.elim (fun f => f x.1) fun f => f x.2)
    subst e'; rw [ha] at hk; cases hk
    exact hf.elim (fun f => f rfl) fun f => f rfl
end Go.Proofs.Ytadmoackacickaa
/- Fold: nodes that are put one behind the other. -/
set_option linter.unusedSimpArgs false
namespace Go.Proofs.Ytadmoackacickaa
open Go Go.AH

/-- A node's kids: none, or a row of their own. -/
def KZ (h : AHeap) (kv : Value) (ks : List Int) (rt : Nat) : Prop := (kv = .slice none 0 0 ∧ ks = []) ∨ ∃ id, kv = slc id 0 ks.length ∧ OwnR h id rt 3 (ints ks)
theorem KZ.isl {h : AHeap} {kv : Value} {ks : List Int} {rt : Nat} (x : KZ h kv ks rt) : ISl h.size h kv ks := by
  rcases x with x | ⟨id, rfl, ep, a⟩
  · exact .inl x
  · exact .inr (.inr ⟨id, _, rfl, a, rfl, rfl, (at?_obj a).2.1⟩)
theorem KZ.keep {h g : AHeap} {kv : Value} {ks : List Int} {rt : Nat} (x : KZ h kv ks rt) (k : ∀ j o, h.at? j = some o → o.elem = 3 → o.root = rt → g.at? j = some o) : KZ g kv ks rt := by
  rcases x with x | ⟨id, rfl, ep, a⟩
  · exact .inl x
  · exact .inr ⟨id, rfl, ep, k id _ a rfl rfl⟩
theorem getD_mem {xs : List Nat} {i : Nat} (h : i < xs.length) : xs.getD i 0 ∈ xs := by simp [h]
/-- Nodes in a row of their own. -/
def NS (b p : Nat) (h : AHeap) (v : Value) (ns : List Kn) (rts : List Nat) (rn : Nat) : Prop :=
  (v = .slice none 0 0 ∧ ns = [] ∧ rts = [] ∧ rn = p) ∨
  (b ≤ rn ∧ rn < h.size ∧ rts.length = ns.length ∧ rts.Nodup ∧ (∀ q ∈ rts, b ≤ q ∧ q < h.size) ∧ ∃ r cells, v = slc r 0 ns.length ∧ OwnR h r rn 73 cells ∧ ns.length * 4 ≤ cells.length ∧
    ∀ (i : Nat) (n : Kn), ns[i]? = some n → ∃ kv, (cells.drop (i * 4)).take 4 = knCells n kv ∧ KZ h kv n.ks (rts.getD i 0))
section
variable {b p : Nat} {h g : AHeap} {v : Value} {ns : List Kn} {rts : List Nat} {rn : Nat}
theorem NS.keep (x : NS b p h v ns rts rn) (hs : h.size ≤ g.size) (k : ∀ j o, h.at? j = some o → (o.elem = 73 ∧ o.root = rn) ∨ (o.elem = 3 ∧ o.root ∈ rts) → g.at? j = some o) : NS b p g v ns rts rn := by
  rcases x with x | ⟨h1, h2, h3, h4, h5, r, cells, h6, ⟨ep, a⟩, h8, h9⟩
  · exact .inl x
  · exact .inr ⟨h1, by omega, h3, h4, fun q hq => by have := h5 q hq; omega, r, cells, h6, ⟨ep, k r _ a (.inl ⟨rfl, rfl⟩)⟩, h8, fun i n hn => let ⟨kv, a, z⟩ := h9 i n hn; ⟨kv, a, z.keep fun j o ho he hr => k j o ho (.inr ⟨he, hr ▸ getD_mem (by rw [h3]; exact (List.getElem?_eq_some_iff.1 hn).1)⟩)⟩⟩
theorem NS.ext (x : NS b p h v ns rts rn) (e : Ext h.size h g) : NS b p g v ns rts rn := x.keep e.size fun j o a _ => e.at? (at?_obj a).2.1 a
theorem NS.cell (x : NS b p h v ns rts rn) : isCell v = true := by
  rcases x with ⟨rfl, rfl, _⟩ | ⟨_, _, _, _, _, r, cells, rfl, _⟩ <;> rfl
theorem drop4 {cells : List Value} {i : Nat} {n : Kn} {kv : Value} (h : (cells.drop (i * 4)).take 4 = knCells n kv) : cells[i * 4]? = some (.int .i64 n.k) ∧ cells[i * 4 + 1]? = some (.string n.t) ∧ cells[i * 4 + 2]? = some (.int .i64 n.i) ∧ cells[i * 4 + 3]? = some kv := by
  have q : ∀ c, c < 4 → cells[i * 4 + c]? = (knCells n kv)[c]? := fun c hc => by
    rw [← h, List.getElem?_take, if_pos hc, List.getElem?_drop]
  exact ⟨q 0 (by decide), q 1 (by decide), q 2 (by decide), q 3 (by decide)⟩
end
end Go.Proofs.Ytadmoackacickaa
set_option linter.unusedVariables false
namespace Go.Proofs.Ytadmoackacickaa
open Go Go.AH
/-! 121 loop.example/g00101/spec.l19Plain -/
/-! 122 loop.example/g00101/spec.l19True -/
/-! 123 loop.example/g00101/spec.l19Two -/
/-! 124 loop.example/g00101/spec.l19Bool -/
/-! 125 (*loop.example/g00101/impl.twig).folded -/
/-! 164 loop.example/g00101/spec.l19Number -/
/-! 165 loop.example/g00101/impl.numbers -/
/-! 166 (*loop.example/g00101/impl.twig).isLit -/
/-! 167 loop.example/g00101/impl.boolTwig -/
/-! 168 (*loop.example/g00101/impl.twig).truth -/
/-! 196 loop.example/g00101/impl.whole -/
/-! 8 loop.example/g00101/laws.FnLexAgain -/
end Go.Proofs.Ytadmoackacickaa
/- Fold: the reference's reckoning of two nodes. -/
set_option linter.unusedSimpArgs false
namespace Go.Proofs.Ytadmoackacickaa
open Go Go.AH

section
variable {P : Option (Value × AHeap) → Prop}
theorem pb {α : Type} {o : Option α} {k : α → Option (Value × AHeap)} {v : α} (e : o = some v) (hk : P (k v)) : P (o.bind k) := by rw [e]; exact hk
theorem pcf {c : Bool} {x y : Option (Value × AHeap)} (e : c = false) (hk : P y) : P (bif c then x else y) := by rw [e]; exact hk
theorem pct {c : Bool} {x y : Option (Value × AHeap)} (e : c = true) (hk : P x) : P (bif c then x else y) := by rw [e]; exact hk
end
end Go.Proofs.Ytadmoackacickaa
set_option linter.unusedVariables false
namespace Go.Proofs.Ytadmoackacickaa
open Go Go.AH
/-! 83 loop.example/g00101/spec.l9Node -/
theorem e83 (hk : Hk (Value × AHeap)) (C : ACall) (N : Nat) (x0 : Value) (x1 : Value) (h : AHeap) : evFn hk Try.prog C M83 N Try.f83 [x0, x1] h =
    (aCells x1).bind fun c1 => aNew h 73 c1 fun p2 h3 => (aNil x0).bind fun v4 => (aOff v4 3).bind fun v5 => (aLd1 h3 v5).bind fun v6 => (asI .i64 v6).bind fun n7 => bif n7 != 0 then some (.int .i64 (-1), h3) else (aNil x0).bind fun v8 => (aOff v8 2).bind fun v9 => (aLd1 h3 v9).bind fun v10 => (aLdN h3 p2 4).bind fun v11 => (aFill [.int .i64 0, .string ⟨#[]⟩, .int .i64 0, .slice none 0 0] [(0, 4, v11)]).bind fun c12 => aNewS h3 73 c12 1 fun p13 h14 => ((aLd1 h14 v9).bind fun v15 => some (vbeq v15 v10)).bind fun b16 => bif b16 then (aApp h14 73 4 56 v10 p13).bind fun r17 => (aNil x0).bind fun v18 => (aOff v18 2).bind fun v19 => (aSt r17.2 v19 r17.1 1).bind fun h20 => (aNil x0).bind fun v21 => (aOff v21 2).bind fun v22 => (aLd1 h20 v22).bind fun v23 => (aLen v23).bind fun v24 => (asI .i64 v24).bind fun n25 => some (.int .i64 (IntKind.i64.wrap (n25 - 1)), h20) else none := by kernel_rfl
theorem c83 (d : Nat) (args : List Value) (h : AHeap) : call Try.prog Ms (d + 1) 83 args h = evFn hk0 Try.prog (call Try.prog Ms d) M83 d Try.f83 args h := by kernel_rfl

/-! 134 loop.example/g00101/spec.l9Is -/
noncomputable def F134_0 (hk : Hk (Value × AHeap)) (C : ACall) (N : Nat) : Nx (Value × AHeap) := evSt hk Try.prog C M134 N Try.f134 [1, 0, 1] []
noncomputable def s134_0 (hk : Hk (Value × AHeap)) (C : ACall) (N : Nat) (x0 : Value) (x1 : ByteArray) (x22 : Bool) (h : AHeap) := hk 100002 (⟨47, [(0, x0), (1, .string x1), (22, .bool x22)]⟩) h (F134_0 hk C N)
noncomputable def F134_1 (hk : Hk (Value × AHeap)) (C : ACall) (N : Nat) : Nx (Value × AHeap) := evSt hk Try.prog C M134 N Try.f134 [1, 1] []
noncomputable def s134_1 (hk : Hk (Value × AHeap)) (C : ACall) (N : Nat) (x0 : Value) (x1 : ByteArray) (h : AHeap) := hk 3 (⟨47, [(0, x0), (1, .string x1)]⟩) h (F134_1 hk C N)
theorem e134 (hk : Hk (Value × AHeap)) (C : ACall) (N : Nat) (x0 : Value) (x1 : ByteArray) (h : AHeap) : evFn hk Try.prog C M134 N Try.f134 [x0, .string x1] h =
    (aNil x0).bind fun v1 => (aOff v1 3).bind fun v2 => (aLd1 h v2).bind fun v3 => (asI .i64 v3).bind fun n4 => bif n4 != 0 then s134_0 hk C N x0 x1 true h else (aNil x0).bind fun v5 => (aOff v5 1).bind fun v6 => (aLd1 h v6).bind fun v7 => (asI .i64 v7).bind fun n8 => (aNil x0).bind fun v9 => (aOff v9 0).bind fun v10 => (aLd1 h v10).bind fun v11 => (aLen v11).bind fun v12 => (asI .i64 v12).bind fun n13 => s134_0 hk C N x0 x1 (decide (n8 ≥ n13)) h := by kernel_rfl
theorem s134_0_j (C : ACall) (N : Nat) (x0 : Value) (x1 : ByteArray) (x22 : Bool) (h : AHeap) : s134_0 hk0 C N x0 x1 x22 h = F134_0 hk0 C N (⟨47, [(0, x0), (1, .string x1), (22, .bool x22)]⟩) h := by delta s134_0; exact hk0_app _ _ _ _
theorem s134_0_eq (hk : Hk (Value × AHeap)) (C : ACall) (N : Nat) (x0 : Value) (x1 : ByteArray) (x22 : Bool) (h : AHeap) : F134_0 hk C N (⟨47, [(0, x0), (1, .string x1), (22, .bool x22)]⟩) h =
    bif x22 then some (.bool false, h) else s134_1 hk C N x0 x1 h := by kernel_rfl
theorem s134_1_j (C : ACall) (N : Nat) (x0 : Value) (x1 : ByteArray) (h : AHeap) : s134_1 hk0 C N x0 x1 h = F134_1 hk0 C N (⟨47, [(0, x0), (1, .string x1)]⟩) h := by delta s134_1; exact hk0_app _ _ _ _
theorem s134_1_eq (hk : Hk (Value × AHeap)) (C : ACall) (N : Nat) (x0 : Value) (x1 : ByteArray) (h : AHeap) : F134_1 hk C N (⟨47, [(0, x0), (1, .string x1)]⟩) h =
    (aNil x0).bind fun v14 => (aOff v14 0).bind fun v15 => (aLd1 h v15).bind fun v16 => (aNil x0).bind fun v17 => (aOff v17 1).bind fun v18 => (aLd1 h v18).bind fun v19 => (asI .i64 v19).bind fun n20 => (aIdx v16 (.int .i64 n20) 4).bind fun v21 => (aLdN h v21 4).bind fun v22 => aNew h 53 [.int .i64 0, .int .i64 0, .string ⟨#[]⟩, .int .i64 0] fun p23 h24 => ((aLd1 h24 v15).bind fun v25 => some (vbeq v25 v16)).bind fun b26 => bif b26 then ((aLd1 h24 v18).bind fun v27 => (asI .i64 v27).bind fun n28 => some (vbeq (.int .i64 n28) (.int .i64 n20))).bind fun b29 => bif b29 then ((aLdN h24 v21 4).bind fun v30 => some (vbeq v30 v22)).bind fun b31 => bif b31 then (aSt h24 p23 v22 4).bind fun h32 => (aOff p23 0).bind fun v33 => (aLd1 h32 v33).bind fun v34 => (asI .i64 v34).bind fun n35 => bif n35 == 2 then (aOff p23 2).bind fun v36 => (aLd1 h32 v36).bind fun v37 => (asS v37).bind fun t38 => some (.bool (t38.toList == x1.toList), h32) else (aOff p23 0).bind fun v39 => (aLd1 h32 v39).bind fun v40 => (asI .i64 v40).bind fun n41 => bif n41 == 5 then (aOff p23 2).bind fun v42 => (aLd1 h32 v42).bind fun v43 => (asS v43).bind fun t44 => some (.bool (t44.toList == x1.toList), h32) else some (.bool false, h32) else none else none else none := by kernel_rfl
theorem c134 (d : Nat) (args : List Value) (h : AHeap) : call Try.prog Ms (d + 1) 134 args h = evFn hk0 Try.prog (call Try.prog Ms d) M134 d Try.f134 args h := by kernel_rfl

/-! 135 loop.example/g00101/spec.l9Name -/
theorem e135 (hk : Hk (Value × AHeap)) (C : ACall) (N : Nat) (x0 : Value) (h : AHeap) : evFn hk Try.prog C M135 N Try.f135 [x0] h =
    (C 173 [x0] h).bind fun r1 => (asI .i64 r1.1).bind fun n2 => bif n2 != 1 then (C 174 [x0, .int .i64 2] r1.2).bind fun r3 => (asI .i64 r3.1).bind fun n4 => some (.string ⟨#[]⟩, r3.2) else (aNil x0).bind fun v5 => (aOff v5 1).bind fun v6 => (aLd1 r1.2 v6).bind fun v7 => (asI .i64 v7).bind fun n8 => (aNil x0).bind fun v9 => (aOff v9 1).bind fun v10 => (aSt r1.2 v10 (.int .i64 (IntKind.i64.wrap (n8 + 1))) 1).bind fun h11 => (aNil x0).bind fun v12 => (aOff v12 0).bind fun v13 => (aLd1 h11 v13).bind fun v14 => (aNil x0).bind fun v15 => (aOff v15 1).bind fun v16 => (aLd1 h11 v16).bind fun v17 => (asI .i64 v17).bind fun n18 => (aIdx v14 (.int .i64 (IntKind.i64.wrap (n18 - 1))) 4).bind fun v19 => (aOff v19 2).bind fun v20 => (aLd1 h11 v20).bind fun v21 => (asS v21).bind fun t22 => some (.string t22, h11) := by kernel_rfl
theorem c135 (d : Nat) (args : List Value) (h : AHeap) : call Try.prog Ms (d + 1) 135 args h = evFn hk0 Try.prog (call Try.prog Ms d) M135 d Try.f135 args h := by kernel_rfl

/-! 136 loop.example/g00101/spec.l9Want -/
theorem e136 (hk : Hk (Value × AHeap)) (C : ACall) (N : Nat) (x0 : Value) (x1 : ByteArray) (h : AHeap) : evFn hk Try.prog C M136 N Try.f136 [x0, .string x1] h =
    (C 134 [x0, .string x1] h).bind fun r1 => (asB r1.1).bind fun b2 => bif !b2 then (C 174 [x0, .int .i64 2] r1.2).bind fun r3 => (asI .i64 r3.1).bind fun n4 => some (.tuple (List.toArray []), r3.2) else (aNil x0).bind fun v5 => (aOff v5 1).bind fun v6 => (aLd1 r1.2 v6).bind fun v7 => (asI .i64 v7).bind fun n8 => (aNil x0).bind fun v9 => (aOff v9 1).bind fun v10 => (aSt r1.2 v10 (.int .i64 (IntKind.i64.wrap (n8 + 1))) 1).bind fun h11 => some (.tuple (List.toArray []), h11) := by kernel_rfl
theorem c136 (d : Nat) (args : List Value) (h : AHeap) : call Try.prog Ms (d + 1) 136 args h = evFn hk0 Try.prog (call Try.prog Ms d) M136 d Try.f136 args h := by kernel_rfl

/-! 137 loop.example/g00101/spec.l9Expr -/
theorem e137 (hk : Hk (Value × AHeap)) (C : ACall) (N : Nat) (x0 : Value) (h : AHeap) : evFn hk Try.prog C M137 N Try.f137 [x0] h =
    (C 175 [x0] h).bind fun r1 => (asB r1.1).bind fun b2 => bif !b2 then some (.int .i64 (-1), r1.2) else (C 176 [x0, .int .i64 1] r1.2).bind fun r3 => (asI .i64 r3.1).bind fun n4 => (aNil x0).bind fun v5 => (aOff v5 5).bind fun v6 => (aLd1 r3.2 v6).bind fun v7 => (asI .i64 v7).bind fun n8 => (aNil x0).bind fun v9 => (aOff v9 5).bind fun v10 => (aSt r3.2 v10 (.int .i64 (IntKind.i64.wrap (n8 - 1))) 1).bind fun h11 => some (.int .i64 n4, h11) := by kernel_rfl
theorem c137 (d : Nat) (args : List Value) (h : AHeap) : call Try.prog Ms (d + 1) 137 args h = evFn hk0 Try.prog (call Try.prog Ms d) M137 d Try.f137 args h := by kernel_rfl

/-! 138 loop.example/g00101/spec.l9Block -/
noncomputable def F138_0 (hk : Hk (Value × AHeap)) (C : ACall) (N : Nat) (n1 : Nat) : Nx (Value × AHeap) := evSt hk Try.prog C M138 N Try.f138 [1, 1, 1, 1, 0, 2, 6] [n1]
noncomputable def s138_0 (hk : Hk (Value × AHeap)) (C : ACall) (N : Nat) (n1 : Nat) (x0 : Value) (x3 : Value) (h : AHeap) := F138_0 hk C N n1 (⟨38, [(0, x0), (3, x3)]⟩) h
noncomputable def F138_1 (hk : Hk (Value × AHeap)) (C : ACall) (N : Nat) (n1 : Nat) : Nx (Value × AHeap) := evSt hk Try.prog C M138 N Try.f138 [1, 1, 1, 1, 0, 2, 3, 1] [n1]
noncomputable def s138_1 (hk : Hk (Value × AHeap)) (C : ACall) (N : Nat) (n1 : Nat) (x0 : Value) (x3 : Value) (h : AHeap) := hk 6 (⟨38, [(0, x0), (3, x3)]⟩) h (F138_1 hk C N n1)
theorem e138 (hk : Hk (Value × AHeap)) (C : ACall) (N : Nat) (x0 : Value) (h : AHeap) : evFn hk Try.prog C M138 N Try.f138 [x0] h =
    (C 175 [x0] h).bind fun r1 => (asB r1.1).bind fun b2 => bif !b2 then some (.int .i64 (-1), r1.2) else (C 136 [x0, .string (⟨#[123]⟩)] r1.2).bind fun r3 => aNewS r3.2 3 [] 0 fun p4 h5 => s138_0 hk C N N x0 p4 h5 := by kernel_rfl
theorem s138_0_eq (hk : Hk (Value × AHeap)) (C : ACall) (N : Nat) (n1 : Nat) (x0 : Value) (x3 : Value) (h : AHeap) : s138_0 hk C N (n1 + 1) x0 x3 h =
    (aNil x0).bind fun v6 => (aOff v6 3).bind fun v7 => (aLd1 h v7).bind fun v8 => (asI .i64 v8).bind fun n9 => bif n9 == 0 then (C 134 [x0, .string (⟨#[125]⟩)] h).bind fun r10 => (asB r10.1).bind fun b11 => bif !b11 then s138_1 hk C N n1 x0 x3 r10.2 else (C 136 [x0, .string (⟨#[125]⟩)] r10.2).bind fun r12 => (aNil x0).bind fun v13 => (aOff v13 5).bind fun v14 => (aLd1 r12.2 v14).bind fun v15 => (asI .i64 v15).bind fun n16 => (aNil x0).bind fun v17 => (aOff v17 5).bind fun v18 => (aSt r12.2 v18 (.int .i64 (IntKind.i64.wrap (n16 - 1))) 1).bind fun h19 => (aFill [.int .i64 0, .string ⟨#[]⟩, .int .i64 0, .slice none 0 0] [(0, 1, .int .i64 21), (3, 1, x3)]).bind fun c20 => (C 83 [x0, (.agg (List.toArray c20))] h19).bind fun r21 => (asI .i64 r21.1).bind fun n22 => some (.int .i64 n22, r21.2) else (C 136 [x0, .string (⟨#[125]⟩)] h).bind fun r23 => (aNil x0).bind fun v24 => (aOff v24 5).bind fun v25 => (aLd1 r23.2 v25).bind fun v26 => (asI .i64 v26).bind fun n27 => (aNil x0).bind fun v28 => (aOff v28 5).bind fun v29 => (aSt r23.2 v29 (.int .i64 (IntKind.i64.wrap (n27 - 1))) 1).bind fun h30 => (aFill [.int .i64 0, .string ⟨#[]⟩, .int .i64 0, .slice none 0 0] [(0, 1, .int .i64 21), (3, 1, x3)]).bind fun c31 => (C 83 [x0, (.agg (List.toArray c31))] h30).bind fun r32 => (asI .i64 r32.1).bind fun n33 => some (.int .i64 n33, r32.2) := by kernel_rfl
theorem s138_1_j (C : ACall) (N : Nat) (n1 : Nat) (x0 : Value) (x3 : Value) (h : AHeap) : s138_1 hk0 C N n1 x0 x3 h = F138_1 hk0 C N n1 (⟨38, [(0, x0), (3, x3)]⟩) h := by delta s138_1; exact hk0_app _ _ _ _
theorem s138_1_eq (hk : Hk (Value × AHeap)) (C : ACall) (N : Nat) (n1 : Nat) (x0 : Value) (x3 : Value) (h : AHeap) : F138_1 hk C N n1 (⟨38, [(0, x0), (3, x3)]⟩) h =
    (C 82 [x0] h).bind fun r34 => (asI .i64 r34.1).bind fun n35 => aNewS r34.2 3 [.int .i64 n35] 1 fun p36 h37 => (aApp h37 3 1 8 x3 p36).bind fun r38 => s138_0 hk C N n1 x0 r38.1 r38.2 := by kernel_rfl
theorem c138 (d : Nat) (args : List Value) (h : AHeap) : call Try.prog Ms (d + 1) 138 args h = evFn hk0 Try.prog (call Try.prog Ms d) M138 d Try.f138 args h := by kernel_rfl

/-! 139 loop.example/g00101/spec.l9Assign -/
noncomputable def F139_0 (hk : Hk (Value × AHeap)) (C : ACall) (N : Nat) : Nx (Value × AHeap) := evSt hk Try.prog C M139 N Try.f139 [1, 1, 1, 1, 0, 2, 1] []
noncomputable def s139_0 (hk : Hk (Value × AHeap)) (C : ACall) (N : Nat) (x0 : Value) (x3 : Int) (x4 : Value) (x21 : Bool) (h : AHeap) := hk 100006 (⟨119, [(0, x0), (3, .int .i64 x3), (4, x4), (21, .bool x21)]⟩) h (F139_0 hk C N)
noncomputable def F139_1 (hk : Hk (Value × AHeap)) (C : ACall) (N : Nat) : Nx (Value × AHeap) := evSt hk Try.prog C M139 N Try.f139 [1, 1, 1, 1, 0, 2, 1, 5, 1] []
noncomputable def s139_1 (hk : Hk (Value × AHeap)) (C : ACall) (N : Nat) (x0 : Value) (x3 : Int) (x4 : Value) (x41 : Bool) (h : AHeap) := hk 100009 (⟨119, [(0, x0), (3, .int .i64 x3), (4, x4), (41, .bool x41)]⟩) h (F139_1 hk C N)
noncomputable def F139_2 (hk : Hk (Value × AHeap)) (C : ACall) (N : Nat) : Nx (Value × AHeap) := evSt hk Try.prog C M139 N Try.f139 [1, 1, 1, 1, 0, 2, 1, 5, 1, 5, 1] []
noncomputable def s139_2 (hk : Hk (Value × AHeap)) (C : ACall) (N : Nat) (x0 : Value) (x3 : Int) (x4 : Value) (x76 : Bool) (h : AHeap) := hk 100015 (⟨119, [(0, x0), (3, .int .i64 x3), (4, x4), (76, .bool x76)]⟩) h (F139_2 hk C N)
theorem e139 (hk : Hk (Value × AHeap)) (C : ACall) (N : Nat) (x0 : Value) (h : AHeap) : evFn hk Try.prog C M139 N Try.f139 [x0] h =
    (C 137 [x0] h).bind fun r1 => (asI .i64 r1.1).bind fun n2 => (aNil x0).bind fun v3 => (aOff v3 3).bind fun v4 => (aLd1 r1.2 v4).bind fun v5 => (asI .i64 v5).bind fun n6 => bif n6 != 0 then some (.int .i64 (-1), r1.2) else (aNil x0).bind fun v7 => (aOff v7 2).bind fun v8 => (aLd1 r1.2 v8).bind fun v9 => (aIdx v9 (.int .i64 n2) 4).bind fun v10 => (aLdN r1.2 v10 4).bind fun v11 => aNew r1.2 73 [.int .i64 0, .string ⟨#[]⟩, .int .i64 0, .slice none 0 0] fun p12 h13 => (aSt h13 p12 v11 4).bind fun h14 => (C 134 [x0, .string (⟨#[59]⟩)] h14).bind fun r15 => (asB r15.1).bind fun b16 => bif b16 then (aOff p12 0).bind fun v17 => (aLd1 r15.2 v17).bind fun v18 => (asI .i64 v18).bind fun n19 => s139_0 hk C N x0 n2 p12 (n19 == 9) r15.2 else s139_0 hk C N x0 n2 p12 false r15.2 := by kernel_rfl
theorem s139_0_j (C : ACall) (N : Nat) (x0 : Value) (x3 : Int) (x4 : Value) (x21 : Bool) (h : AHeap) : s139_0 hk0 C N x0 x3 x4 x21 h = F139_0 hk0 C N (⟨119, [(0, x0), (3, .int .i64 x3), (4, x4), (21, .bool x21)]⟩) h := by delta s139_0; exact hk0_app _ _ _ _
theorem s139_0_eq (hk : Hk (Value × AHeap)) (C : ACall) (N : Nat) (x0 : Value) (x3 : Int) (x4 : Value) (x21 : Bool) (h : AHeap) : F139_0 hk C N (⟨119, [(0, x0), (3, .int .i64 x3), (4, x4), (21, .bool x21)]⟩) h =
    bif x21 then (aNil x0).bind fun v20 => (aOff v20 1).bind fun v21 => (aLd1 h v21).bind fun v22 => (asI .i64 v22).bind fun n23 => (aNil x0).bind fun v24 => (aOff v24 1).bind fun v25 => (aSt h v25 (.int .i64 (IntKind.i64.wrap (n23 + 1))) 1).bind fun h26 => aNewS h26 3 [.int .i64 x3] 1 fun p27 h28 => (aFill [.int .i64 0, .string ⟨#[]⟩, .int .i64 0, .slice none 0 0] [(0, 1, .int .i64 20), (3, 1, p27)]).bind fun c29 => (C 83 [x0, (.agg (List.toArray c29))] h28).bind fun r30 => (asI .i64 r30.1).bind fun n31 => some (.int .i64 n31, r30.2) else (C 134 [x0, .string (⟨#[61]⟩)] h).bind fun r32 => (asB r32.1).bind fun b33 => bif b33 then (aOff x4 0).bind fun v34 => (aLd1 r32.2 v34).bind fun v35 => (asI .i64 v35).bind fun n36 => s139_1 hk C N x0 x3 x4 (n36 == 5) r32.2 else s139_1 hk C N x0 x3 x4 false r32.2 := by kernel_rfl
theorem s139_1_j (C : ACall) (N : Nat) (x0 : Value) (x3 : Int) (x4 : Value) (x41 : Bool) (h : AHeap) : s139_1 hk0 C N x0 x3 x4 x41 h = F139_1 hk0 C N (⟨119, [(0, x0), (3, .int .i64 x3), (4, x4), (41, .bool x41)]⟩) h := by delta s139_1; exact hk0_app _ _ _ _
theorem s139_1_eq (hk : Hk (Value × AHeap)) (C : ACall) (N : Nat) (x0 : Value) (x3 : Int) (x4 : Value) (x41 : Bool) (h : AHeap) : F139_1 hk C N (⟨119, [(0, x0), (3, .int .i64 x3), (4, x4), (41, .bool x41)]⟩) h =
    bif x41 then (aNil x0).bind fun v37 => (aOff v37 1).bind fun v38 => (aLd1 h v38).bind fun v39 => (asI .i64 v39).bind fun n40 => (aNil x0).bind fun v41 => (aOff v41 1).bind fun v42 => (aSt h v42 (.int .i64 (IntKind.i64.wrap (n40 + 1))) 1).bind fun h43 => (aNil x0).bind fun v44 => (aOff v44 2).bind fun v45 => (aLd1 h43 v45).bind fun v46 => (aSub h43 73 v46 none (some (.int .i64 x3)) 4).bind fun v47 => (aNil x0).bind fun v48 => (aOff v48 2).bind fun v49 => (aSt h43 v49 v47 1).bind fun h50 => (C 137 [x0] h50).bind fun r51 => (asI .i64 r51.1).bind fun n52 => (C 136 [x0, .string (⟨#[59]⟩)] r51.2).bind fun r53 => (aOff x4 1).bind fun v54 => (aLd1 r53.2 v54).bind fun v55 => (asS v55).bind fun t56 => aNewS r53.2 3 [.int .i64 n52] 1 fun p57 h58 => (aFill [.int .i64 0, .string ⟨#[]⟩, .int .i64 0, .slice none 0 0] [(0, 1, .int .i64 15), (1, 1, .string t56), (3, 1, p57)]).bind fun c59 => (C 83 [x0, (.agg (List.toArray c59))] h58).bind fun r60 => (asI .i64 r60.1).bind fun n61 => some (.int .i64 n61, r60.2) else (C 134 [x0, .string (⟨#[61]⟩)] h).bind fun r62 => (asB r62.1).bind fun b63 => bif b63 then (aOff x4 0).bind fun v64 => (aLd1 r62.2 v64).bind fun v65 => (asI .i64 v65).bind fun n66 => s139_2 hk C N x0 x3 x4 (n66 == 8) r62.2 else s139_2 hk C N x0 x3 x4 false r62.2 := by kernel_rfl
theorem s139_2_j (C : ACall) (N : Nat) (x0 : Value) (x3 : Int) (x4 : Value) (x76 : Bool) (h : AHeap) : s139_2 hk0 C N x0 x3 x4 x76 h = F139_2 hk0 C N (⟨119, [(0, x0), (3, .int .i64 x3), (4, x4), (76, .bool x76)]⟩) h := by delta s139_2; exact hk0_app _ _ _ _
theorem s139_2_eq (hk : Hk (Value × AHeap)) (C : ACall) (N : Nat) (x0 : Value) (x3 : Int) (x4 : Value) (x76 : Bool) (h : AHeap) : F139_2 hk C N (⟨119, [(0, x0), (3, .int .i64 x3), (4, x4), (76, .bool x76)]⟩) h =
    bif x76 then (aNil x0).bind fun v67 => (aOff v67 1).bind fun v68 => (aLd1 h v68).bind fun v69 => (asI .i64 v69).bind fun n70 => (aNil x0).bind fun v71 => (aOff v71 1).bind fun v72 => (aSt h v72 (.int .i64 (IntKind.i64.wrap (n70 + 1))) 1).bind fun h73 => (aNil x0).bind fun v74 => (aOff v74 2).bind fun v75 => (aLd1 h73 v75).bind fun v76 => (aSub h73 73 v76 none (some (.int .i64 x3)) 4).bind fun v77 => (aNil x0).bind fun v78 => (aOff v78 2).bind fun v79 => (aSt h73 v79 v77 1).bind fun h80 => (C 137 [x0] h80).bind fun r81 => (asI .i64 r81.1).bind fun n82 => (C 136 [x0, .string (⟨#[59]⟩)] r81.2).bind fun r83 => (aOff x4 3).bind fun v84 => (aLd1 r83.2 v84).bind fun v85 => (aIdx v85 (.int .i64 0) 1).bind fun v86 => (aLd1 r83.2 v86).bind fun v87 => (asI .i64 v87).bind fun n88 => (aOff x4 3).bind fun v89 => (aLd1 r83.2 v89).bind fun v90 => (aIdx v90 (.int .i64 1) 1).bind fun v91 => (aLd1 r83.2 v91).bind fun v92 => (asI .i64 v92).bind fun n93 => aNewS r83.2 3 [.int .i64 n88, .int .i64 n93, .int .i64 n82] 3 fun p94 h95 => (aFill [.int .i64 0, .string ⟨#[]⟩, .int .i64 0, .slice none 0 0] [(0, 1, .int .i64 16), (3, 1, p94)]).bind fun c96 => (C 83 [x0, (.agg (List.toArray c96))] h95).bind fun r97 => (asI .i64 r97.1).bind fun n98 => some (.int .i64 n98, r97.2) else (C 174 [x0, .int .i64 2] h).bind fun r99 => (asI .i64 r99.1).bind fun n100 => some (.int .i64 n100, r99.2) := by kernel_rfl
theorem c139 (d : Nat) (args : List Value) (h : AHeap) : call Try.prog Ms (d + 1) 139 args h = evFn hk0 Try.prog (call Try.prog Ms d) M139 d Try.f139 args h := by kernel_rfl

/-! 173 loop.example/g00101/spec.l9Kind -/
noncomputable def F173_0 (hk : Hk (Value × AHeap)) (C : ACall) (N : Nat) : Nx (Value × AHeap) := evSt hk Try.prog C M173 N Try.f173 [1, 0, 1] []
noncomputable def s173_0 (hk : Hk (Value × AHeap)) (C : ACall) (N : Nat) (x0 : Value) (x19 : Bool) (h : AHeap) := hk 100002 (⟨31, [(0, x0), (19, .bool x19)]⟩) h (F173_0 hk C N)
noncomputable def F173_1 (hk : Hk (Value × AHeap)) (C : ACall) (N : Nat) : Nx (Value × AHeap) := evSt hk Try.prog C M173 N Try.f173 [1, 1] []
noncomputable def s173_1 (hk : Hk (Value × AHeap)) (C : ACall) (N : Nat) (x0 : Value) (h : AHeap) := hk 3 (⟨31, [(0, x0)]⟩) h (F173_1 hk C N)
theorem e173 (hk : Hk (Value × AHeap)) (C : ACall) (N : Nat) (x0 : Value) (h : AHeap) : evFn hk Try.prog C M173 N Try.f173 [x0] h =
    (aNil x0).bind fun v1 => (aOff v1 3).bind fun v2 => (aLd1 h v2).bind fun v3 => (asI .i64 v3).bind fun n4 => bif n4 != 0 then s173_0 hk C N x0 true h else (aNil x0).bind fun v5 => (aOff v5 1).bind fun v6 => (aLd1 h v6).bind fun v7 => (asI .i64 v7).bind fun n8 => (aNil x0).bind fun v9 => (aOff v9 0).bind fun v10 => (aLd1 h v10).bind fun v11 => (aLen v11).bind fun v12 => (asI .i64 v12).bind fun n13 => s173_0 hk C N x0 (decide (n8 ≥ n13)) h := by kernel_rfl
theorem s173_0_j (C : ACall) (N : Nat) (x0 : Value) (x19 : Bool) (h : AHeap) : s173_0 hk0 C N x0 x19 h = F173_0 hk0 C N (⟨31, [(0, x0), (19, .bool x19)]⟩) h := by delta s173_0; exact hk0_app _ _ _ _
theorem s173_0_eq (hk : Hk (Value × AHeap)) (C : ACall) (N : Nat) (x0 : Value) (x19 : Bool) (h : AHeap) : F173_0 hk C N (⟨31, [(0, x0), (19, .bool x19)]⟩) h =
    bif x19 then some (.int .i64 0, h) else s173_1 hk C N x0 h := by kernel_rfl
theorem s173_1_j (C : ACall) (N : Nat) (x0 : Value) (h : AHeap) : s173_1 hk0 C N x0 h = F173_1 hk0 C N (⟨31, [(0, x0)]⟩) h := by delta s173_1; exact hk0_app _ _ _ _
theorem s173_1_eq (hk : Hk (Value × AHeap)) (C : ACall) (N : Nat) (x0 : Value) (h : AHeap) : F173_1 hk C N (⟨31, [(0, x0)]⟩) h =
    (aNil x0).bind fun v14 => (aOff v14 0).bind fun v15 => (aLd1 h v15).bind fun v16 => (aNil x0).bind fun v17 => (aOff v17 1).bind fun v18 => (aLd1 h v18).bind fun v19 => (asI .i64 v19).bind fun n20 => (aIdx v16 (.int .i64 n20) 4).bind fun v21 => (aOff v21 0).bind fun v22 => (aLd1 h v22).bind fun v23 => (asI .i64 v23).bind fun n24 => some (.int .i64 n24, h) := by kernel_rfl
theorem c173 (d : Nat) (args : List Value) (h : AHeap) : call Try.prog Ms (d + 1) 173 args h = evFn hk0 Try.prog (call Try.prog Ms d) M173 d Try.f173 args h := by kernel_rfl

/-! 174 loop.example/g00101/spec.l9Fail -/
theorem e174 (hk : Hk (Value × AHeap)) (C : ACall) (N : Nat) (x0 : Value) (x1 : Int) (h : AHeap) : evFn hk Try.prog C M174 N Try.f174 [x0, .int .i64 x1] h =
    (aNil x0).bind fun v1 => (aOff v1 3).bind fun v2 => (aLd1 h v2).bind fun v3 => (asI .i64 v3).bind fun n4 => bif n4 == 0 then (aNil x0).bind fun v5 => (aOff v5 3).bind fun v6 => (aSt h v6 (.int .i64 x1) 1).bind fun h7 => (aNil x0).bind fun v8 => (aOff v8 6).bind fun v9 => (aLd1 h7 v9).bind fun v10 => (asI .i64 v10).bind fun n11 => (aNil x0).bind fun v12 => (aOff v12 4).bind fun v13 => (aSt h7 v13 (.int .i64 n11) 1).bind fun h14 => (aNil x0).bind fun v15 => (aOff v15 1).bind fun v16 => (aLd1 h14 v16).bind fun v17 => (asI .i64 v17).bind fun n18 => (aNil x0).bind fun v19 => (aOff v19 0).bind fun v20 => (aLd1 h14 v20).bind fun v21 => (aLen v21).bind fun v22 => (asI .i64 v22).bind fun n23 => bif decide (n18 < n23) then (aNil x0).bind fun v24 => (aOff v24 0).bind fun v25 => (aLd1 h14 v25).bind fun v26 => (aNil x0).bind fun v27 => (aOff v27 1).bind fun v28 => (aLd1 h14 v28).bind fun v29 => (asI .i64 v29).bind fun n30 => (aIdx v26 (.int .i64 n30) 4).bind fun v31 => (aOff v31 1).bind fun v32 => (aLd1 h14 v32).bind fun v33 => (asI .i64 v33).bind fun n34 => (aNil x0).bind fun v35 => (aOff v35 4).bind fun v36 => (aSt h14 v36 (.int .i64 n34) 1).bind fun h37 => some (.int .i64 (-1), h37) else some (.int .i64 (-1), h14) else some (.int .i64 (-1), h) := by kernel_rfl
theorem c174 (d : Nat) (args : List Value) (h : AHeap) : call Try.prog Ms (d + 1) 174 args h = evFn hk0 Try.prog (call Try.prog Ms d) M174 d Try.f174 args h := by kernel_rfl

/-! 175 loop.example/g00101/spec.l9Open -/
theorem e175 (hk : Hk (Value × AHeap)) (C : ACall) (N : Nat) (x0 : Value) (h : AHeap) : evFn hk Try.prog C M175 N Try.f175 [x0] h =
    (aNil x0).bind fun v1 => (aOff v1 3).bind fun v2 => (aLd1 h v2).bind fun v3 => (asI .i64 v3).bind fun n4 => bif n4 != 0 then some (.bool false, h) else (aNil x0).bind fun v5 => (aOff v5 1).bind fun v6 => (aLd1 h v6).bind fun v7 => (asI .i64 v7).bind fun n8 => (aNil x0).bind fun v9 => (aOff v9 0).bind fun v10 => (aLd1 h v10).bind fun v11 => (aLen v11).bind fun v12 => (asI .i64 v12).bind fun n13 => bif decide (n8 ≥ n13) then (C 174 [x0, .int .i64 2] h).bind fun r14 => (asI .i64 r14.1).bind fun n15 => some (.bool false, r14.2) else (aNil x0).bind fun v16 => (aOff v16 5).bind fun v17 => (aLd1 h v17).bind fun v18 => (asI .i64 v18).bind fun n19 => bif decide (n19 ≥ 30) then (C 174 [x0, .int .i64 3] h).bind fun r20 => (asI .i64 r20.1).bind fun n21 => some (.bool false, r20.2) else (aNil x0).bind fun v22 => (aOff v22 5).bind fun v23 => (aLd1 h v23).bind fun v24 => (asI .i64 v24).bind fun n25 => (aNil x0).bind fun v26 => (aOff v26 5).bind fun v27 => (aSt h v27 (.int .i64 (IntKind.i64.wrap (n25 + 1))) 1).bind fun h28 => some (.bool true, h28) := by kernel_rfl
theorem c175 (d : Nat) (args : List Value) (h : AHeap) : call Try.prog Ms (d + 1) 175 args h = evFn hk0 Try.prog (call Try.prog Ms d) M175 d Try.f175 args h := by kernel_rfl

/-! 176 loop.example/g00101/spec.l9Level -/
noncomputable def F176_0 (hk : Hk (Value × AHeap)) (C : ACall) (N : Nat) (n1 : Nat) : Nx (Value × AHeap) := evSt hk Try.prog C M176 N Try.f176 [1, 1, 1, 0, 2, 6] [n1]
noncomputable def s176_0 (hk : Hk (Value × AHeap)) (C : ACall) (N : Nat) (n1 : Nat) (x0 : Value) (x1 : Int) (x5 : Int) (h : AHeap) := F176_0 hk C N n1 (⟨65, [(0, x0), (1, .int .i64 x1), (5, .int .i64 x5)]⟩) h
noncomputable def F176_1 (hk : Hk (Value × AHeap)) (C : ACall) (N : Nat) (n1 : Nat) : Nx (Value × AHeap) := evSt hk Try.prog C M176 N Try.f176 [1, 1, 1, 0, 2, 3, 1, 2, 1, 0, 2, 1] [n1]
noncomputable def s176_1 (hk : Hk (Value × AHeap)) (C : ACall) (N : Nat) (n1 : Nat) (x0 : Value) (x1 : Int) (x5 : Int) (x6 : Int) (x7 : Int) (x28 : Bool) (h : AHeap) := hk 100010 (⟨65, [(0, x0), (1, .int .i64 x1), (5, .int .i64 x5), (6, .int .i64 x6), (7, .int .i64 x7), (28, .bool x28)]⟩) h (F176_1 hk C N n1)
noncomputable def F176_3 (hk : Hk (Value × AHeap)) (C : ACall) (N : Nat) (n1 : Nat) : Nx (Value × AHeap) := evSt hk Try.prog C M176 N Try.f176 [1, 1, 1, 0, 2, 3, 1, 2, 1, 1] [n1]
noncomputable def s176_3 (hk : Hk (Value × AHeap)) (C : ACall) (N : Nat) (n1 : Nat) (x0 : Value) (x1 : Int) (x5 : Int) (x6 : Int) (x7 : Int) (h : AHeap) := hk 13 (⟨65, [(0, x0), (1, .int .i64 x1), (5, .int .i64 x5), (6, .int .i64 x6), (7, .int .i64 x7)]⟩) h (F176_3 hk C N n1)
noncomputable def F176_2 (hk : Hk (Value × AHeap)) (C : ACall) (N : Nat) (n1 : Nat) : Nx (Value × AHeap) := evSt hk Try.prog C M176 N Try.f176 [1, 1, 1, 0, 2, 3, 1, 2, 1, 0, 2, 1, 5, 1] [n1]
noncomputable def s176_2 (hk : Hk (Value × AHeap)) (C : ACall) (N : Nat) (n1 : Nat) (x0 : Value) (x1 : Int) (x5 : Int) (x6 : Int) (x7 : Int) (x35 : Bool) (h : AHeap) := hk 100012 (⟨65, [(0, x0), (1, .int .i64 x1), (5, .int .i64 x5), (6, .int .i64 x6), (7, .int .i64 x7), (35, .bool x35)]⟩) h (F176_2 hk C N n1)
theorem e176 (hk : Hk (Value × AHeap)) (C : ACall) (N : Nat) (x0 : Value) (x1 : Int) (h : AHeap) : evFn hk Try.prog C M176 N Try.f176 [x0, .int .i64 x1] h =
    bif x1 == 7 then (C 197 [x0] h).bind fun r1 => (asI .i64 r1.1).bind fun n2 => some (.int .i64 n2, r1.2) else (C 176 [x0, .int .i64 (IntKind.i64.wrap (x1 + 1))] h).bind fun r3 => (asI .i64 r3.1).bind fun n4 => s176_0 hk C N N x0 x1 n4 r3.2 := by kernel_rfl
theorem s176_0_eq (hk : Hk (Value × AHeap)) (C : ACall) (N : Nat) (n1 : Nat) (x0 : Value) (x1 : Int) (x5 : Int) (h : AHeap) : s176_0 hk C N (n1 + 1) x0 x1 x5 h =
    (aNil x0).bind fun v5 => (aOff v5 3).bind fun v6 => (aLd1 h v6).bind fun v7 => (asI .i64 v7).bind fun n8 => bif n8 == 0 then bif x1 == 1 then (C 134 [x0, .string (⟨#[111, 114]⟩)] h).bind fun r9 => (asB r9.1).bind fun b10 => s176_1 hk C N n1 x0 x1 x5 10 0 b10 r9.2 else s176_1 hk C N n1 x0 x1 x5 10 0 false h else some (.int .i64 x5, h) := by kernel_rfl
theorem s176_1_j (C : ACall) (N : Nat) (n1 : Nat) (x0 : Value) (x1 : Int) (x5 : Int) (x6 : Int) (x7 : Int) (x28 : Bool) (h : AHeap) : s176_1 hk0 C N n1 x0 x1 x5 x6 x7 x28 h = F176_1 hk0 C N n1 (⟨65, [(0, x0), (1, .int .i64 x1), (5, .int .i64 x5), (6, .int .i64 x6), (7, .int .i64 x7), (28, .bool x28)]⟩) h := by delta s176_1; exact hk0_app _ _ _ _
theorem s176_1_eq (hk : Hk (Value × AHeap)) (C : ACall) (N : Nat) (n1 : Nat) (x0 : Value) (x1 : Int) (x5 : Int) (x6 : Int) (x7 : Int) (x28 : Bool) (h : AHeap) : F176_1 hk C N n1 (⟨65, [(0, x0), (1, .int .i64 x1), (5, .int .i64 x5), (6, .int .i64 x6), (7, .int .i64 x7), (28, .bool x28)]⟩) h =
    bif x28 then s176_3 hk C N n1 x0 x1 x5 13 x7 h else bif x1 == 2 then (C 134 [x0, .string (⟨#[97, 110, 100]⟩)] h).bind fun r11 => (asB r11.1).bind fun b12 => s176_2 hk C N n1 x0 x1 x5 x6 x7 b12 r11.2 else s176_2 hk C N n1 x0 x1 x5 x6 x7 false h := by kernel_rfl
theorem s176_3_j (C : ACall) (N : Nat) (n1 : Nat) (x0 : Value) (x1 : Int) (x5 : Int) (x6 : Int) (x7 : Int) (h : AHeap) : s176_3 hk0 C N n1 x0 x1 x5 x6 x7 h = F176_3 hk0 C N n1 (⟨65, [(0, x0), (1, .int .i64 x1), (5, .int .i64 x5), (6, .int .i64 x6), (7, .int .i64 x7)]⟩) h := by delta s176_3; exact hk0_app _ _ _ _
theorem s176_3_eq (hk : Hk (Value × AHeap)) (C : ACall) (N : Nat) (n1 : Nat) (x0 : Value) (x1 : Int) (x5 : Int) (x6 : Int) (x7 : Int) (h : AHeap) : F176_3 hk C N n1 (⟨65, [(0, x0), (1, .int .i64 x1), (5, .int .i64 x5), (6, .int .i64 x6), (7, .int .i64 x7)]⟩) h =
    (aNil x0).bind fun v13 => (aOff v13 1).bind fun v14 => (aLd1 h v14).bind fun v15 => (asI .i64 v15).bind fun n16 => (aNil x0).bind fun v17 => (aOff v17 1).bind fun v18 => (aSt h v18 (.int .i64 (IntKind.i64.wrap (n16 + 1))) 1).bind fun h19 => (C 176 [x0, .int .i64 (IntKind.i64.wrap (x1 + 1))] h19).bind fun r20 => (asI .i64 r20.1).bind fun n21 => aNewS r20.2 3 [.int .i64 x5, .int .i64 n21] 2 fun p22 h23 => (aFill [.int .i64 0, .string ⟨#[]⟩, .int .i64 0, .slice none 0 0] [(0, 1, .int .i64 x6), (2, 1, .int .i64 x7), (3, 1, p22)]).bind fun c24 => (C 83 [x0, (.agg (List.toArray c24))] h23).bind fun r25 => (asI .i64 r25.1).bind fun n26 => bif x1 == 3 then some (.int .i64 n26, r25.2) else s176_0 hk C N n1 x0 x1 n26 r25.2 := by kernel_rfl
theorem s176_2_j (C : ACall) (N : Nat) (n1 : Nat) (x0 : Value) (x1 : Int) (x5 : Int) (x6 : Int) (x7 : Int) (x35 : Bool) (h : AHeap) : s176_2 hk0 C N n1 x0 x1 x5 x6 x7 x35 h = F176_2 hk0 C N n1 (⟨65, [(0, x0), (1, .int .i64 x1), (5, .int .i64 x5), (6, .int .i64 x6), (7, .int .i64 x7), (35, .bool x35)]⟩) h := by delta s176_2; exact hk0_app _ _ _ _
theorem s176_2_eq (hk : Hk (Value × AHeap)) (C : ACall) (N : Nat) (n1 : Nat) (x0 : Value) (x1 : Int) (x5 : Int) (x6 : Int) (x7 : Int) (x35 : Bool) (h : AHeap) : F176_2 hk C N n1 (⟨65, [(0, x0), (1, .int .i64 x1), (5, .int .i64 x5), (6, .int .i64 x6), (7, .int .i64 x7), (35, .bool x35)]⟩) h =
    bif x35 then s176_3 hk C N n1 x0 x1 x5 12 x7 h else (C 198 [x0, .int .i64 x1] h).bind fun r27 => (asI .i64 r27.1).bind fun n28 => bif n28 == 0 then some (.int .i64 x5, r27.2) else s176_3 hk C N n1 x0 x1 x5 x6 n28 r27.2 := by kernel_rfl
theorem c176 (d : Nat) (args : List Value) (h : AHeap) : call Try.prog Ms (d + 1) 176 args h = evFn hk0 Try.prog (call Try.prog Ms d) M176 d Try.f176 args h := by kernel_rfl

/-! 197 loop.example/g00101/spec.l9Turn -/
noncomputable def F197_0 (hk : Hk (Value × AHeap)) (C : ACall) (N : Nat) : Nx (Value × AHeap) := evSt hk Try.prog C M197 N Try.f197 [1, 1, 1] []
noncomputable def s197_0 (hk : Hk (Value × AHeap)) (C : ACall) (N : Nat) (x0 : Value) (x3 : Int) (h : AHeap) := hk 9 (⟨41, [(0, x0), (3, .int .i64 x3)]⟩) h (F197_0 hk C N)
theorem e197 (hk : Hk (Value × AHeap)) (C : ACall) (N : Nat) (x0 : Value) (h : AHeap) : evFn hk Try.prog C M197 N Try.f197 [x0] h =
    (C 134 [x0, .string (⟨#[45]⟩)] h).bind fun r1 => (asB r1.1).bind fun b2 => bif b2 then s197_0 hk C N x0 1 r1.2 else (C 134 [x0, .string (⟨#[110, 111, 116]⟩)] r1.2).bind fun r3 => (asB r3.1).bind fun b4 => bif b4 then s197_0 hk C N x0 2 r3.2 else (C 134 [x0, .string (⟨#[35]⟩)] r3.2).bind fun r5 => (asB r5.1).bind fun b6 => bif b6 then s197_0 hk C N x0 3 r5.2 else (C 204 [x0] r5.2).bind fun r7 => (asI .i64 r7.1).bind fun n8 => some (.int .i64 n8, r7.2) := by kernel_rfl
theorem s197_0_j (C : ACall) (N : Nat) (x0 : Value) (x3 : Int) (h : AHeap) : s197_0 hk0 C N x0 x3 h = F197_0 hk0 C N (⟨41, [(0, x0), (3, .int .i64 x3)]⟩) h := by delta s197_0; exact hk0_app _ _ _ _
theorem s197_0_eq (hk : Hk (Value × AHeap)) (C : ACall) (N : Nat) (x0 : Value) (x3 : Int) (h : AHeap) : F197_0 hk C N (⟨41, [(0, x0), (3, .int .i64 x3)]⟩) h =
    (C 175 [x0] h).bind fun r9 => (asB r9.1).bind fun b10 => bif !b10 then some (.int .i64 (-1), r9.2) else (aNil x0).bind fun v11 => (aOff v11 1).bind fun v12 => (aLd1 r9.2 v12).bind fun v13 => (asI .i64 v13).bind fun n14 => (aNil x0).bind fun v15 => (aOff v15 1).bind fun v16 => (aSt r9.2 v16 (.int .i64 (IntKind.i64.wrap (n14 + 1))) 1).bind fun h17 => (C 197 [x0] h17).bind fun r18 => (asI .i64 r18.1).bind fun n19 => (aNil x0).bind fun v20 => (aOff v20 5).bind fun v21 => (aLd1 r18.2 v21).bind fun v22 => (asI .i64 v22).bind fun n23 => (aNil x0).bind fun v24 => (aOff v24 5).bind fun v25 => (aSt r18.2 v25 (.int .i64 (IntKind.i64.wrap (n23 - 1))) 1).bind fun h26 => aNewS h26 3 [.int .i64 n19] 1 fun p27 h28 => (aFill [.int .i64 0, .string ⟨#[]⟩, .int .i64 0, .slice none 0 0] [(0, 1, .int .i64 11), (2, 1, .int .i64 x3), (3, 1, p27)]).bind fun c29 => (C 83 [x0, (.agg (List.toArray c29))] h28).bind fun r30 => (asI .i64 r30.1).bind fun n31 => some (.int .i64 n31, r30.2) := by kernel_rfl
theorem c197 (d : Nat) (args : List Value) (h : AHeap) : call Try.prog Ms (d + 1) 197 args h = evFn hk0 Try.prog (call Try.prog Ms d) M197 d Try.f197 args h := by kernel_rfl
end Go.Proofs.Ytadmoackacickaa
set_option linter.unusedVariables false
namespace Go.Proofs.Ytadmoackacickaa
open Go Go.AH
/-! 198 loop.example/g00101/spec.l9Op -/
noncomputable def F198_0 (hk : Hk (Value × AHeap)) (C : ACall) (N : Nat) (n1 : Nat) : Nx (Value × AHeap) := evSt hk Try.prog C M198 N Try.f198 [1, 1, 0, 1, 2, 6] [n1]
noncomputable def s198_0 (hk : Hk (Value × AHeap)) (C : ACall) (N : Nat) (n1 : Nat) (x0 : Value) (x1 : Int) (x5 : Value) (x6 : Value) (x7 : Int) (h : AHeap) := F198_0 hk C N n1 (⟨29, [(0, x0), (1, .int .i64 x1), (5, x5), (6, x6), (7, .int .i64 x7)]⟩) h
noncomputable def F198_1 (hk : Hk (Value × AHeap)) (C : ACall) (N : Nat) (n1 : Nat) : Nx (Value × AHeap) := evSt hk Try.prog C M198 N Try.f198 [1, 1, 0, 1, 2, 3, 1, 0, 2, 1] [n1]
noncomputable def s198_1 (hk : Hk (Value × AHeap)) (C : ACall) (N : Nat) (n1 : Nat) (x0 : Value) (x1 : Int) (x5 : Value) (x6 : Value) (x7 : Int) (x27 : Bool) (h : AHeap) := hk 100006 (⟨29, [(0, x0), (1, .int .i64 x1), (5, x5), (6, x6), (7, .int .i64 x7), (27, .bool x27)]⟩) h (F198_1 hk C N n1)
theorem e198 (hk : Hk (Value × AHeap)) (C : ACall) (N : Nat) (x0 : Value) (x1 : Int) (h : AHeap) : evFn hk Try.prog C M198 N Try.f198 [x0, .int .i64 x1] h =
    (C 171 [] h).bind fun r1 => (C 205 [] r1.2).bind fun r2 => s198_0 hk C N N x0 x1 r1.1 r2.1 1 r2.2 := by kernel_rfl
theorem s198_0_eq (hk : Hk (Value × AHeap)) (C : ACall) (N : Nat) (n1 : Nat) (x0 : Value) (x1 : Int) (x5 : Value) (x6 : Value) (x7 : Int) (h : AHeap) : s198_0 hk C N (n1 + 1) x0 x1 x5 x6 x7 h =
    bif decide (x7 ≤ 10) then (aIdx x6 (.int .i64 x7) 1).bind fun v3 => (aLd1 h v3).bind fun v4 => (asI .i64 v4).bind fun n5 => bif n5 == x1 then (aIdx x5 (.int .i64 x7) 1).bind fun v6 => (aLd1 h v6).bind fun v7 => (asS v7).bind fun t8 => (C 134 [x0, .string t8] h).bind fun r9 => (asB r9.1).bind fun b10 => s198_1 hk C N n1 x0 x1 x5 x6 x7 b10 r9.2 else s198_1 hk C N n1 x0 x1 x5 x6 x7 false h else some (.int .i64 0, h) := by kernel_rfl
theorem s198_1_j (C : ACall) (N : Nat) (n1 : Nat) (x0 : Value) (x1 : Int) (x5 : Value) (x6 : Value) (x7 : Int) (x27 : Bool) (h : AHeap) : s198_1 hk0 C N n1 x0 x1 x5 x6 x7 x27 h = F198_1 hk0 C N n1 (⟨29, [(0, x0), (1, .int .i64 x1), (5, x5), (6, x6), (7, .int .i64 x7), (27, .bool x27)]⟩) h := by delta s198_1; exact hk0_app _ _ _ _
theorem s198_1_eq (hk : Hk (Value × AHeap)) (C : ACall) (N : Nat) (n1 : Nat) (x0 : Value) (x1 : Int) (x5 : Value) (x6 : Value) (x7 : Int) (x27 : Bool) (h : AHeap) : F198_1 hk C N n1 (⟨29, [(0, x0), (1, .int .i64 x1), (5, x5), (6, x6), (7, .int .i64 x7), (27, .bool x27)]⟩) h =
    bif x27 then some (.int .i64 x7, h) else s198_0 hk C N n1 x0 x1 x5 x6 (IntKind.i64.wrap (x7 + 1)) h := by kernel_rfl
theorem c198 (d : Nat) (args : List Value) (h : AHeap) : call Try.prog Ms (d + 1) 198 args h = evFn hk0 Try.prog (call Try.prog Ms d) M198 d Try.f198 args h := by kernel_rfl

/-! 204 loop.example/g00101/spec.l9Suffix -/
noncomputable def F204_0 (hk : Hk (Value × AHeap)) (C : ACall) (N : Nat) (n1 : Nat) : Nx (Value × AHeap) := evSt hk Try.prog C M204 N Try.f204 [1, 1, 0, 2, 6] [n1]
noncomputable def s204_0 (hk : Hk (Value × AHeap)) (C : ACall) (N : Nat) (n1 : Nat) (x0 : Value) (x3 : Int) (h : AHeap) := F204_0 hk C N n1 (⟨97, [(0, x0), (3, .int .i64 x3)]⟩) h
noncomputable def F204_1 (hk : Hk (Value × AHeap)) (C : ACall) (N : Nat) (n1 n2 : Nat) : Nx (Value × AHeap) := evSt hk Try.prog C M204 N Try.f204 [1, 1, 0, 2, 3, 1, 2, 2, 1, 4, 1, 1, 0, 2, 6] [n1, n2]
noncomputable def s204_1 (hk : Hk (Value × AHeap)) (C : ACall) (N : Nat) (n1 n2 : Nat) (x0 : Value) (x4 : Value) (h : AHeap) := F204_1 hk C N n1 n2 (⟨97, [(0, x0), (4, x4)]⟩) h
noncomputable def F204_2 (hk : Hk (Value × AHeap)) (C : ACall) (N : Nat) (n1 n2 : Nat) : Nx (Value × AHeap) := evSt hk Try.prog C M204 N Try.f204 [1, 1, 0, 2, 3, 1, 2, 2, 1, 4, 1, 1, 0, 2, 3, 1] [n1, n2]
noncomputable def s204_2 (hk : Hk (Value × AHeap)) (C : ACall) (N : Nat) (n1 n2 : Nat) (x0 : Value) (x4 : Value) (h : AHeap) := hk 8 (⟨97, [(0, x0), (4, x4)]⟩) h (F204_2 hk C N n1 n2)
noncomputable def F204_3 (hk : Hk (Value × AHeap)) (C : ACall) (N : Nat) (n1 n2 : Nat) : Nx (Value × AHeap) := evSt hk Try.prog C M204 N Try.f204 [1, 1, 0, 2, 3, 1, 2, 2, 1, 4, 1, 1, 0, 2, 3, 1, 2, 1] [n1, n2]
noncomputable def s204_3 (hk : Hk (Value × AHeap)) (C : ACall) (N : Nat) (n1 n2 : Nat) (x0 : Value) (x4 : Value) (h : AHeap) := hk 10 (⟨97, [(0, x0), (4, x4)]⟩) h (F204_3 hk C N n1 n2)
theorem e204 (hk : Hk (Value × AHeap)) (C : ACall) (N : Nat) (x0 : Value) (h : AHeap) : evFn hk Try.prog C M204 N Try.f204 [x0] h =
    (C 222 [x0] h).bind fun r1 => (asI .i64 r1.1).bind fun n2 => s204_0 hk C N N x0 n2 r1.2 := by kernel_rfl
theorem s204_0_eq (hk : Hk (Value × AHeap)) (C : ACall) (N : Nat) (n1 : Nat) (x0 : Value) (x3 : Int) (h : AHeap) : s204_0 hk C N (n1 + 1) x0 x3 h =
    (aNil x0).bind fun v3 => (aOff v3 3).bind fun v4 => (aLd1 h v4).bind fun v5 => (asI .i64 v5).bind fun n6 => bif n6 == 0 then (C 134 [x0, .string (⟨#[40]⟩)] h).bind fun r7 => (asB r7.1).bind fun b8 => bif b8 then (aNil x0).bind fun v9 => (aOff v9 1).bind fun v10 => (aLd1 r7.2 v10).bind fun v11 => (asI .i64 v11).bind fun n12 => (aNil x0).bind fun v13 => (aOff v13 1).bind fun v14 => (aSt r7.2 v14 (.int .i64 (IntKind.i64.wrap (n12 + 1))) 1).bind fun h15 => aNewS h15 3 [.int .i64 x3] 1 fun p16 h17 => s204_1 hk C N n1 N x0 p16 h17 else (C 134 [x0, .string (⟨#[91]⟩)] r7.2).bind fun r18 => (asB r18.1).bind fun b19 => bif b19 then (aNil x0).bind fun v20 => (aOff v20 1).bind fun v21 => (aLd1 r18.2 v21).bind fun v22 => (asI .i64 v22).bind fun n23 => (aNil x0).bind fun v24 => (aOff v24 1).bind fun v25 => (aSt r18.2 v25 (.int .i64 (IntKind.i64.wrap (n23 + 1))) 1).bind fun h26 => (C 137 [x0] h26).bind fun r27 => (asI .i64 r27.1).bind fun n28 => (C 136 [x0, .string (⟨#[93]⟩)] r27.2).bind fun r29 => aNewS r29.2 3 [.int .i64 x3, .int .i64 n28] 2 fun p30 h31 => (aFill [.int .i64 0, .string ⟨#[]⟩, .int .i64 0, .slice none 0 0] [(0, 1, .int .i64 8), (3, 1, p30)]).bind fun c32 => (C 83 [x0, (.agg (List.toArray c32))] h31).bind fun r33 => (asI .i64 r33.1).bind fun n34 => s204_0 hk C N n1 x0 n34 r33.2 else (C 134 [x0, .string (⟨#[46]⟩)] r18.2).bind fun r35 => (asB r35.1).bind fun b36 => bif b36 then (aNil x0).bind fun v37 => (aOff v37 1).bind fun v38 => (aLd1 r35.2 v38).bind fun v39 => (asI .i64 v39).bind fun n40 => (aNil x0).bind fun v41 => (aOff v41 1).bind fun v42 => (aSt r35.2 v42 (.int .i64 (IntKind.i64.wrap (n40 + 1))) 1).bind fun h43 => (C 135 [x0] h43).bind fun r44 => (asS r44.1).bind fun t45 => (C 83 [x0, (.agg (List.toArray [.int .i64 4, .string t45, .int .i64 0, .slice none 0 0]))] r44.2).bind fun r46 => (asI .i64 r46.1).bind fun n47 => aNewS r46.2 3 [.int .i64 x3, .int .i64 n47] 2 fun p48 h49 => (aFill [.int .i64 0, .string ⟨#[]⟩, .int .i64 0, .slice none 0 0] [(0, 1, .int .i64 8), (3, 1, p48)]).bind fun c50 => (C 83 [x0, (.agg (List.toArray c50))] h49).bind fun r51 => (asI .i64 r51.1).bind fun n52 => s204_0 hk C N n1 x0 n52 r51.2 else some (.int .i64 x3, r35.2) else some (.int .i64 x3, h) := by kernel_rfl
theorem s204_1_eq (hk : Hk (Value × AHeap)) (C : ACall) (N : Nat) (n1 n2 : Nat) (x0 : Value) (x4 : Value) (h : AHeap) : s204_1 hk C N n1 (n2 + 1) x0 x4 h =
    (aNil x0).bind fun v53 => (aOff v53 3).bind fun v54 => (aLd1 h v54).bind fun v55 => (asI .i64 v55).bind fun n56 => bif n56 == 0 then (C 134 [x0, .string (⟨#[41]⟩)] h).bind fun r57 => (asB r57.1).bind fun b58 => bif !b58 then s204_2 hk C N n1 n2 x0 x4 r57.2 else (C 136 [x0, .string (⟨#[41]⟩)] r57.2).bind fun r59 => (aFill [.int .i64 0, .string ⟨#[]⟩, .int .i64 0, .slice none 0 0] [(0, 1, .int .i64 9), (3, 1, x4)]).bind fun c60 => (C 83 [x0, (.agg (List.toArray c60))] r59.2).bind fun r61 => (asI .i64 r61.1).bind fun n62 => s204_0 hk C N n1 x0 n62 r61.2 else (C 136 [x0, .string (⟨#[41]⟩)] h).bind fun r63 => (aFill [.int .i64 0, .string ⟨#[]⟩, .int .i64 0, .slice none 0 0] [(0, 1, .int .i64 9), (3, 1, x4)]).bind fun c64 => (C 83 [x0, (.agg (List.toArray c64))] r63.2).bind fun r65 => (asI .i64 r65.1).bind fun n66 => s204_0 hk C N n1 x0 n66 r65.2 := by kernel_rfl
theorem s204_2_j (C : ACall) (N : Nat) (n1 n2 : Nat) (x0 : Value) (x4 : Value) (h : AHeap) : s204_2 hk0 C N n1 n2 x0 x4 h = F204_2 hk0 C N n1 n2 (⟨97, [(0, x0), (4, x4)]⟩) h := by delta s204_2; exact hk0_app _ _ _ _
theorem s204_2_eq (hk : Hk (Value × AHeap)) (C : ACall) (N : Nat) (n1 n2 : Nat) (x0 : Value) (x4 : Value) (h : AHeap) : F204_2 hk C N n1 n2 (⟨97, [(0, x0), (4, x4)]⟩) h =
    (aLen x4).bind fun v67 => (asI .i64 v67).bind fun n68 => bif decide (n68 > 1) then (C 136 [x0, .string (⟨#[44]⟩)] h).bind fun r69 => s204_3 hk C N n1 n2 x0 x4 r69.2 else s204_3 hk C N n1 n2 x0 x4 h := by kernel_rfl
theorem s204_3_j (C : ACall) (N : Nat) (n1 n2 : Nat) (x0 : Value) (x4 : Value) (h : AHeap) : s204_3 hk0 C N n1 n2 x0 x4 h = F204_3 hk0 C N n1 n2 (⟨97, [(0, x0), (4, x4)]⟩) h := by delta s204_3; exact hk0_app _ _ _ _
theorem s204_3_eq (hk : Hk (Value × AHeap)) (C : ACall) (N : Nat) (n1 n2 : Nat) (x0 : Value) (x4 : Value) (h : AHeap) : F204_3 hk C N n1 n2 (⟨97, [(0, x0), (4, x4)]⟩) h =
    (C 137 [x0] h).bind fun r70 => (asI .i64 r70.1).bind fun n71 => aNewS r70.2 3 [.int .i64 n71] 1 fun p72 h73 => (aApp h73 3 1 8 x4 p72).bind fun r74 => s204_1 hk C N n1 n2 x0 r74.1 r74.2 := by kernel_rfl
theorem c204 (d : Nat) (args : List Value) (h : AHeap) : call Try.prog Ms (d + 1) 204 args h = evFn hk0 Try.prog (call Try.prog Ms d) M204 d Try.f204 args h := by kernel_rfl

/-! 205 loop.example/g00101/spec.l9Levels -/
theorem e205 (hk : Hk (Value × AHeap)) (C : ACall) (N : Nat) (h : AHeap) : evFn hk Try.prog C M205 N Try.f205 [] h =
    aNewS h 3 [.int .i64 0, .int .i64 5, .int .i64 5, .int .i64 6, .int .i64 6, .int .i64 6, .int .i64 4, .int .i64 3, .int .i64 3, .int .i64 3, .int .i64 3] 11 fun p1 h2 => some (p1, h2) := by kernel_rfl
theorem c205 (d : Nat) (args : List Value) (h : AHeap) : call Try.prog Ms (d + 1) 205 args h = evFn hk0 Try.prog (call Try.prog Ms d) M205 d Try.f205 args h := by kernel_rfl

/-! 222 loop.example/g00101/spec.l9Primary -/
theorem e222 (hk : Hk (Value × AHeap)) (C : ACall) (N : Nat) (x0 : Value) (h : AHeap) : evFn hk Try.prog C M222 N Try.f222 [x0] h =
    (C 173 [x0] h).bind fun r1 => (asI .i64 r1.1).bind fun n2 => bif n2 == 3 then (aNil x0).bind fun v3 => (aOff v3 1).bind fun v4 => (aLd1 r1.2 v4).bind fun v5 => (asI .i64 v5).bind fun n6 => (aNil x0).bind fun v7 => (aOff v7 1).bind fun v8 => (aSt r1.2 v8 (.int .i64 (IntKind.i64.wrap (n6 + 1))) 1).bind fun h9 => (aNil x0).bind fun v10 => (aOff v10 0).bind fun v11 => (aLd1 h9 v11).bind fun v12 => (aNil x0).bind fun v13 => (aOff v13 1).bind fun v14 => (aLd1 h9 v14).bind fun v15 => (asI .i64 v15).bind fun n16 => (aIdx v12 (.int .i64 (IntKind.i64.wrap (n16 - 1))) 4).bind fun v17 => (aOff v17 3).bind fun v18 => (aLd1 h9 v18).bind fun v19 => (asI .i64 v19).bind fun n20 => (C 83 [x0, (.agg (List.toArray [.int .i64 3, .string ⟨#[]⟩, .int .i64 n20, .slice none 0 0]))] h9).bind fun r21 => (asI .i64 r21.1).bind fun n22 => some (.int .i64 n22, r21.2) else bif n2 == 4 then (aNil x0).bind fun v23 => (aOff v23 1).bind fun v24 => (aLd1 r1.2 v24).bind fun v25 => (asI .i64 v25).bind fun n26 => (aNil x0).bind fun v27 => (aOff v27 1).bind fun v28 => (aSt r1.2 v28 (.int .i64 (IntKind.i64.wrap (n26 + 1))) 1).bind fun h29 => (aNil x0).bind fun v30 => (aOff v30 0).bind fun v31 => (aLd1 h29 v31).bind fun v32 => (aNil x0).bind fun v33 => (aOff v33 1).bind fun v34 => (aLd1 h29 v34).bind fun v35 => (asI .i64 v35).bind fun n36 => (aIdx v32 (.int .i64 (IntKind.i64.wrap (n36 - 1))) 4).bind fun v37 => (aOff v37 2).bind fun v38 => (aLd1 h29 v38).bind fun v39 => (asS v39).bind fun t40 => (C 83 [x0, (.agg (List.toArray [.int .i64 4, .string t40, .int .i64 0, .slice none 0 0]))] h29).bind fun r41 => (asI .i64 r41.1).bind fun n42 => some (.int .i64 n42, r41.2) else bif n2 == 1 then (C 135 [x0] r1.2).bind fun r43 => (asS r43.1).bind fun t44 => (C 83 [x0, (.agg (List.toArray [.int .i64 5, .string t44, .int .i64 0, .slice none 0 0]))] r43.2).bind fun r45 => (asI .i64 r45.1).bind fun n46 => some (.int .i64 n46, r45.2) else (C 134 [x0, .string (⟨#[110, 105, 108]⟩)] r1.2).bind fun r47 => (asB r47.1).bind fun b48 => bif b48 then (aNil x0).bind fun v49 => (aOff v49 1).bind fun v50 => (aLd1 r47.2 v50).bind fun v51 => (asI .i64 v51).bind fun n52 => (aNil x0).bind fun v53 => (aOff v53 1).bind fun v54 => (aSt r47.2 v54 (.int .i64 (IntKind.i64.wrap (n52 + 1))) 1).bind fun h55 => (C 83 [x0, (.agg (List.toArray [.int .i64 1, .string ⟨#[]⟩, .int .i64 0, .slice none 0 0]))] h55).bind fun r56 => (asI .i64 r56.1).bind fun n57 => some (.int .i64 n57, r56.2) else (C 134 [x0, .string (⟨#[116, 114, 117, 101]⟩)] r47.2).bind fun r58 => (asB r58.1).bind fun b59 => bif b59 then (aNil x0).bind fun v60 => (aOff v60 1).bind fun v61 => (aLd1 r58.2 v61).bind fun v62 => (asI .i64 v62).bind fun n63 => (aNil x0).bind fun v64 => (aOff v64 1).bind fun v65 => (aSt r58.2 v65 (.int .i64 (IntKind.i64.wrap (n63 + 1))) 1).bind fun h66 => (C 83 [x0, (.agg (List.toArray [.int .i64 2, .string ⟨#[]⟩, .int .i64 1, .slice none 0 0]))] h66).bind fun r67 => (asI .i64 r67.1).bind fun n68 => some (.int .i64 n68, r67.2) else (C 134 [x0, .string (⟨#[102, 97, 108, 115, 101]⟩)] r58.2).bind fun r69 => (asB r69.1).bind fun b70 => bif b70 then (aNil x0).bind fun v71 => (aOff v71 1).bind fun v72 => (aLd1 r69.2 v72).bind fun v73 => (asI .i64 v73).bind fun n74 => (aNil x0).bind fun v75 => (aOff v75 1).bind fun v76 => (aSt r69.2 v76 (.int .i64 (IntKind.i64.wrap (n74 + 1))) 1).bind fun h77 => (C 83 [x0, (.agg (List.toArray [.int .i64 2, .string ⟨#[]⟩, .int .i64 0, .slice none 0 0]))] h77).bind fun r78 => (asI .i64 r78.1).bind fun n79 => some (.int .i64 n79, r78.2) else (C 134 [x0, .string (⟨#[102, 110]⟩)] r69.2).bind fun r80 => (asB r80.1).bind fun b81 => bif b81 then (aNil x0).bind fun v82 => (aOff v82 1).bind fun v83 => (aLd1 r80.2 v83).bind fun v84 => (asI .i64 v84).bind fun n85 => (aNil x0).bind fun v86 => (aOff v86 1).bind fun v87 => (aSt r80.2 v87 (.int .i64 (IntKind.i64.wrap (n85 + 1))) 1).bind fun h88 => (C 233 [x0] h88).bind fun r89 => (asI .i64 r89.1).bind fun n90 => some (.int .i64 n90, r89.2) else (C 134 [x0, .string (⟨#[123]⟩)] r80.2).bind fun r91 => (asB r91.1).bind fun b92 => bif b92 then (aNil x0).bind fun v93 => (aOff v93 1).bind fun v94 => (aLd1 r91.2 v94).bind fun v95 => (asI .i64 v95).bind fun n96 => (aNil x0).bind fun v97 => (aOff v97 1).bind fun v98 => (aSt r91.2 v98 (.int .i64 (IntKind.i64.wrap (n96 + 1))) 1).bind fun h99 => (C 234 [x0] h99).bind fun r100 => (asI .i64 r100.1).bind fun n101 => some (.int .i64 n101, r100.2) else (C 134 [x0, .string (⟨#[40]⟩)] r91.2).bind fun r102 => (asB r102.1).bind fun b103 => bif b103 then (aNil x0).bind fun v104 => (aOff v104 1).bind fun v105 => (aLd1 r102.2 v105).bind fun v106 => (asI .i64 v106).bind fun n107 => (aNil x0).bind fun v108 => (aOff v108 1).bind fun v109 => (aSt r102.2 v109 (.int .i64 (IntKind.i64.wrap (n107 + 1))) 1).bind fun h110 => (C 137 [x0] h110).bind fun r111 => (asI .i64 r111.1).bind fun n112 => (C 136 [x0, .string (⟨#[41]⟩)] r111.2).bind fun r113 => some (.int .i64 n112, r113.2) else (C 174 [x0, .int .i64 2] r102.2).bind fun r114 => (asI .i64 r114.1).bind fun n115 => some (.int .i64 n115, r114.2) := by kernel_rfl
theorem c222 (d : Nat) (args : List Value) (h : AHeap) : call Try.prog Ms (d + 1) 222 args h = evFn hk0 Try.prog (call Try.prog Ms d) M222 d Try.f222 args h := by kernel_rfl

/-! 233 loop.example/g00101/spec.l9Fn -/
noncomputable def F233_0 (hk : Hk (Value × AHeap)) (C : ACall) (N : Nat) (n1 : Nat) : Nx (Value × AHeap) := evSt hk Try.prog C M233 N Try.f233 [1, 1, 1, 0, 2, 6] [n1]
noncomputable def s233_0 (hk : Hk (Value × AHeap)) (C : ACall) (N : Nat) (n1 : Nat) (x0 : Value) (x3 : Value) (h : AHeap) := F233_0 hk C N n1 (⟨43, [(0, x0), (3, x3)]⟩) h
noncomputable def F233_1 (hk : Hk (Value × AHeap)) (C : ACall) (N : Nat) (n1 : Nat) : Nx (Value × AHeap) := evSt hk Try.prog C M233 N Try.f233 [1, 1, 1, 0, 2, 3, 1] [n1]
noncomputable def s233_1 (hk : Hk (Value × AHeap)) (C : ACall) (N : Nat) (n1 : Nat) (x0 : Value) (x3 : Value) (h : AHeap) := hk 4 (⟨43, [(0, x0), (3, x3)]⟩) h (F233_1 hk C N n1)
noncomputable def F233_2 (hk : Hk (Value × AHeap)) (C : ACall) (N : Nat) (n1 : Nat) : Nx (Value × AHeap) := evSt hk Try.prog C M233 N Try.f233 [1, 1, 1, 0, 2, 3, 1, 2, 1] [n1]
noncomputable def s233_2 (hk : Hk (Value × AHeap)) (C : ACall) (N : Nat) (n1 : Nat) (x0 : Value) (x3 : Value) (h : AHeap) := hk 6 (⟨43, [(0, x0), (3, x3)]⟩) h (F233_2 hk C N n1)
theorem e233 (hk : Hk (Value × AHeap)) (C : ACall) (N : Nat) (x0 : Value) (h : AHeap) : evFn hk Try.prog C M233 N Try.f233 [x0] h =
    aNewS h 3 [] 0 fun p1 h2 => (C 136 [x0, .string (⟨#[40]⟩)] h2).bind fun r3 => s233_0 hk C N N x0 p1 r3.2 := by kernel_rfl
theorem s233_0_eq (hk : Hk (Value × AHeap)) (C : ACall) (N : Nat) (n1 : Nat) (x0 : Value) (x3 : Value) (h : AHeap) : s233_0 hk C N (n1 + 1) x0 x3 h =
    (aNil x0).bind fun v4 => (aOff v4 3).bind fun v5 => (aLd1 h v5).bind fun v6 => (asI .i64 v6).bind fun n7 => bif n7 == 0 then (C 134 [x0, .string (⟨#[41]⟩)] h).bind fun r8 => (asB r8.1).bind fun b9 => bif !b9 then s233_1 hk C N n1 x0 x3 r8.2 else (C 136 [x0, .string (⟨#[41]⟩)] r8.2).bind fun r10 => (C 138 [x0] r10.2).bind fun r11 => (asI .i64 r11.1).bind fun n12 => aNewS r11.2 3 [.int .i64 n12] 1 fun p13 h14 => (aApp h14 3 1 8 x3 p13).bind fun r15 => (aFill [.int .i64 0, .string ⟨#[]⟩, .int .i64 0, .slice none 0 0] [(0, 1, .int .i64 6), (3, 1, r15.1)]).bind fun c16 => (C 83 [x0, (.agg (List.toArray c16))] r15.2).bind fun r17 => (asI .i64 r17.1).bind fun n18 => some (.int .i64 n18, r17.2) else (C 136 [x0, .string (⟨#[41]⟩)] h).bind fun r19 => (C 138 [x0] r19.2).bind fun r20 => (asI .i64 r20.1).bind fun n21 => aNewS r20.2 3 [.int .i64 n21] 1 fun p22 h23 => (aApp h23 3 1 8 x3 p22).bind fun r24 => (aFill [.int .i64 0, .string ⟨#[]⟩, .int .i64 0, .slice none 0 0] [(0, 1, .int .i64 6), (3, 1, r24.1)]).bind fun c25 => (C 83 [x0, (.agg (List.toArray c25))] r24.2).bind fun r26 => (asI .i64 r26.1).bind fun n27 => some (.int .i64 n27, r26.2) := by kernel_rfl
theorem s233_1_j (C : ACall) (N : Nat) (n1 : Nat) (x0 : Value) (x3 : Value) (h : AHeap) : s233_1 hk0 C N n1 x0 x3 h = F233_1 hk0 C N n1 (⟨43, [(0, x0), (3, x3)]⟩) h := by delta s233_1; exact hk0_app _ _ _ _
theorem s233_1_eq (hk : Hk (Value × AHeap)) (C : ACall) (N : Nat) (n1 : Nat) (x0 : Value) (x3 : Value) (h : AHeap) : F233_1 hk C N n1 (⟨43, [(0, x0), (3, x3)]⟩) h =
    (aLen x3).bind fun v28 => (asI .i64 v28).bind fun n29 => bif decide (n29 > 0) then (C 136 [x0, .string (⟨#[44]⟩)] h).bind fun r30 => s233_2 hk C N n1 x0 x3 r30.2 else s233_2 hk C N n1 x0 x3 h := by kernel_rfl
theorem s233_2_j (C : ACall) (N : Nat) (n1 : Nat) (x0 : Value) (x3 : Value) (h : AHeap) : s233_2 hk0 C N n1 x0 x3 h = F233_2 hk0 C N n1 (⟨43, [(0, x0), (3, x3)]⟩) h := by delta s233_2; exact hk0_app _ _ _ _
theorem s233_2_eq (hk : Hk (Value × AHeap)) (C : ACall) (N : Nat) (n1 : Nat) (x0 : Value) (x3 : Value) (h : AHeap) : F233_2 hk C N n1 (⟨43, [(0, x0), (3, x3)]⟩) h =
    (C 135 [x0] h).bind fun r31 => (asS r31.1).bind fun t32 => (C 83 [x0, (.agg (List.toArray [.int .i64 22, .string t32, .int .i64 0, .slice none 0 0]))] r31.2).bind fun r33 => (asI .i64 r33.1).bind fun n34 => aNewS r33.2 3 [.int .i64 n34] 1 fun p35 h36 => (aApp h36 3 1 8 x3 p35).bind fun r37 => s233_0 hk C N n1 x0 r37.1 r37.2 := by kernel_rfl
theorem c233 (d : Nat) (args : List Value) (h : AHeap) : call Try.prog Ms (d + 1) 233 args h = evFn hk0 Try.prog (call Try.prog Ms d) M233 d Try.f233 args h := by kernel_rfl

/-! 234 loop.example/g00101/spec.l9Table -/
noncomputable def F234_0 (hk : Hk (Value × AHeap)) (C : ACall) (N : Nat) (n1 : Nat) : Nx (Value × AHeap) := evSt hk Try.prog C M234 N Try.f234 [1, 1, 0, 2, 6] [n1]
noncomputable def s234_0 (hk : Hk (Value × AHeap)) (C : ACall) (N : Nat) (n1 : Nat) (x0 : Value) (x3 : Value) (h : AHeap) := F234_0 hk C N n1 (⟨31, [(0, x0), (3, x3)]⟩) h
noncomputable def F234_1 (hk : Hk (Value × AHeap)) (C : ACall) (N : Nat) (n1 : Nat) : Nx (Value × AHeap) := evSt hk Try.prog C M234 N Try.f234 [1, 1, 0, 2, 3, 1] [n1]
noncomputable def s234_1 (hk : Hk (Value × AHeap)) (C : ACall) (N : Nat) (n1 : Nat) (x0 : Value) (x3 : Value) (h : AHeap) := hk 3 (⟨31, [(0, x0), (3, x3)]⟩) h (F234_1 hk C N n1)
noncomputable def F234_2 (hk : Hk (Value × AHeap)) (C : ACall) (N : Nat) (n1 : Nat) : Nx (Value × AHeap) := evSt hk Try.prog C M234 N Try.f234 [1, 1, 0, 2, 3, 1, 2, 1] [n1]
noncomputable def s234_2 (hk : Hk (Value × AHeap)) (C : ACall) (N : Nat) (n1 : Nat) (x0 : Value) (x3 : Value) (h : AHeap) := hk 5 (⟨31, [(0, x0), (3, x3)]⟩) h (F234_2 hk C N n1)
theorem e234 (hk : Hk (Value × AHeap)) (C : ACall) (N : Nat) (x0 : Value) (h : AHeap) : evFn hk Try.prog C M234 N Try.f234 [x0] h =
    aNewS h 3 [] 0 fun p1 h2 => s234_0 hk C N N x0 p1 h2 := by kernel_rfl
theorem s234_0_eq (hk : Hk (Value × AHeap)) (C : ACall) (N : Nat) (n1 : Nat) (x0 : Value) (x3 : Value) (h : AHeap) : s234_0 hk C N (n1 + 1) x0 x3 h =
    (aNil x0).bind fun v3 => (aOff v3 3).bind fun v4 => (aLd1 h v4).bind fun v5 => (asI .i64 v5).bind fun n6 => bif n6 == 0 then (C 134 [x0, .string (⟨#[125]⟩)] h).bind fun r7 => (asB r7.1).bind fun b8 => bif !b8 then s234_1 hk C N n1 x0 x3 r7.2 else (C 136 [x0, .string (⟨#[125]⟩)] r7.2).bind fun r9 => (aFill [.int .i64 0, .string ⟨#[]⟩, .int .i64 0, .slice none 0 0] [(0, 1, .int .i64 7), (3, 1, x3)]).bind fun c10 => (C 83 [x0, (.agg (List.toArray c10))] r9.2).bind fun r11 => (asI .i64 r11.1).bind fun n12 => some (.int .i64 n12, r11.2) else (C 136 [x0, .string (⟨#[125]⟩)] h).bind fun r13 => (aFill [.int .i64 0, .string ⟨#[]⟩, .int .i64 0, .slice none 0 0] [(0, 1, .int .i64 7), (3, 1, x3)]).bind fun c14 => (C 83 [x0, (.agg (List.toArray c14))] r13.2).bind fun r15 => (asI .i64 r15.1).bind fun n16 => some (.int .i64 n16, r15.2) := by kernel_rfl
theorem s234_1_j (C : ACall) (N : Nat) (n1 : Nat) (x0 : Value) (x3 : Value) (h : AHeap) : s234_1 hk0 C N n1 x0 x3 h = F234_1 hk0 C N n1 (⟨31, [(0, x0), (3, x3)]⟩) h := by delta s234_1; exact hk0_app _ _ _ _
theorem s234_1_eq (hk : Hk (Value × AHeap)) (C : ACall) (N : Nat) (n1 : Nat) (x0 : Value) (x3 : Value) (h : AHeap) : F234_1 hk C N n1 (⟨31, [(0, x0), (3, x3)]⟩) h =
    (aLen x3).bind fun v17 => (asI .i64 v17).bind fun n18 => bif decide (n18 > 0) then (C 136 [x0, .string (⟨#[44]⟩)] h).bind fun r19 => s234_2 hk C N n1 x0 x3 r19.2 else s234_2 hk C N n1 x0 x3 h := by kernel_rfl
theorem s234_2_j (C : ACall) (N : Nat) (n1 : Nat) (x0 : Value) (x3 : Value) (h : AHeap) : s234_2 hk0 C N n1 x0 x3 h = F234_2 hk0 C N n1 (⟨31, [(0, x0), (3, x3)]⟩) h := by delta s234_2; exact hk0_app _ _ _ _
theorem s234_2_eq (hk : Hk (Value × AHeap)) (C : ACall) (N : Nat) (n1 : Nat) (x0 : Value) (x3 : Value) (h : AHeap) : F234_2 hk C N n1 (⟨31, [(0, x0), (3, x3)]⟩) h =
    (C 239 [x0] h).bind fun r20 => (asI .i64 r20.1).bind fun n21 => aNewS r20.2 3 [.int .i64 n21] 1 fun p22 h23 => (aApp h23 3 1 8 x3 p22).bind fun r24 => s234_0 hk C N n1 x0 r24.1 r24.2 := by kernel_rfl
theorem c234 (d : Nat) (args : List Value) (h : AHeap) : call Try.prog Ms (d + 1) 234 args h = evFn hk0 Try.prog (call Try.prog Ms d) M234 d Try.f234 args h := by kernel_rfl

/-! 239 loop.example/g00101/spec.l9Field -/
noncomputable def F239_0 (hk : Hk (Value × AHeap)) (C : ACall) (N : Nat) : Nx (Value × AHeap) := evSt hk Try.prog C M239 N Try.f239 [1, 1, 0, 1] []
noncomputable def s239_0 (hk : Hk (Value × AHeap)) (C : ACall) (N : Nat) (x0 : Value) (x77 : Bool) (h : AHeap) := hk 100009 (⟨106, [(0, x0), (77, .bool x77)]⟩) h (F239_0 hk C N)
noncomputable def F239_1 (hk : Hk (Value × AHeap)) (C : ACall) (N : Nat) : Nx (Value × AHeap) := evSt hk Try.prog C M239 N Try.f239 [1, 1, 1] []
noncomputable def s239_1 (hk : Hk (Value × AHeap)) (C : ACall) (N : Nat) (x0 : Value) (h : AHeap) := hk 14 (⟨106, [(0, x0)]⟩) h (F239_1 hk C N)
theorem e239 (hk : Hk (Value × AHeap)) (C : ACall) (N : Nat) (x0 : Value) (h : AHeap) : evFn hk Try.prog C M239 N Try.f239 [x0] h =
    (C 134 [x0, .string (⟨#[91]⟩)] h).bind fun r1 => (asB r1.1).bind fun b2 => bif b2 then (aNil x0).bind fun v3 => (aOff v3 1).bind fun v4 => (aLd1 r1.2 v4).bind fun v5 => (asI .i64 v5).bind fun n6 => (aNil x0).bind fun v7 => (aOff v7 1).bind fun v8 => (aSt r1.2 v8 (.int .i64 (IntKind.i64.wrap (n6 + 1))) 1).bind fun h9 => (C 137 [x0] h9).bind fun r10 => (asI .i64 r10.1).bind fun n11 => (C 136 [x0, .string (⟨#[93]⟩)] r10.2).bind fun r12 => (C 136 [x0, .string (⟨#[61]⟩)] r12.2).bind fun r13 => (C 137 [x0] r13.2).bind fun r14 => (asI .i64 r14.1).bind fun n15 => aNewS r14.2 3 [.int .i64 n11, .int .i64 n15] 2 fun p16 h17 => (aFill [.int .i64 0, .string ⟨#[]⟩, .int .i64 0, .slice none 0 0] [(0, 1, .int .i64 24), (3, 1, p16)]).bind fun c18 => (C 83 [x0, (.agg (List.toArray c18))] h17).bind fun r19 => (asI .i64 r19.1).bind fun n20 => some (.int .i64 n20, r19.2) else (C 173 [x0] r1.2).bind fun r21 => (asI .i64 r21.1).bind fun n22 => bif n22 == 1 then (aNil x0).bind fun v23 => (aOff v23 1).bind fun v24 => (aLd1 r21.2 v24).bind fun v25 => (asI .i64 v25).bind fun n26 => (aNil x0).bind fun v27 => (aOff v27 0).bind fun v28 => (aLd1 r21.2 v28).bind fun v29 => (aLen v29).bind fun v30 => (asI .i64 v30).bind fun n31 => bif decide ((IntKind.i64.wrap (n26 + 1)) < n31) then (aNil x0).bind fun v32 => (aOff v32 0).bind fun v33 => (aLd1 r21.2 v33).bind fun v34 => (aNil x0).bind fun v35 => (aOff v35 1).bind fun v36 => (aLd1 r21.2 v36).bind fun v37 => (asI .i64 v37).bind fun n38 => (aIdx v34 (.int .i64 (IntKind.i64.wrap (n38 + 1))) 4).bind fun v39 => (aOff v39 0).bind fun v40 => (aLd1 r21.2 v40).bind fun v41 => (asI .i64 v41).bind fun n42 => bif n42 == 5 then (aNil x0).bind fun v43 => (aOff v43 0).bind fun v44 => (aLd1 r21.2 v44).bind fun v45 => (aNil x0).bind fun v46 => (aOff v46 1).bind fun v47 => (aLd1 r21.2 v47).bind fun v48 => (asI .i64 v48).bind fun n49 => (aIdx v45 (.int .i64 (IntKind.i64.wrap (n49 + 1))) 4).bind fun v50 => (aOff v50 2).bind fun v51 => (aLd1 r21.2 v51).bind fun v52 => (asS v52).bind fun t53 => s239_0 hk C N x0 (t53.toList == (⟨#[61]⟩ : ByteArray).toList) r21.2 else s239_0 hk C N x0 false r21.2 else s239_0 hk C N x0 false r21.2 else s239_0 hk C N x0 false r21.2 := by kernel_rfl
theorem s239_0_j (C : ACall) (N : Nat) (x0 : Value) (x77 : Bool) (h : AHeap) : s239_0 hk0 C N x0 x77 h = F239_0 hk0 C N (⟨106, [(0, x0), (77, .bool x77)]⟩) h := by delta s239_0; exact hk0_app _ _ _ _
theorem s239_0_eq (hk : Hk (Value × AHeap)) (C : ACall) (N : Nat) (x0 : Value) (x77 : Bool) (h : AHeap) : F239_0 hk C N (⟨106, [(0, x0), (77, .bool x77)]⟩) h =
    bif x77 then (C 135 [x0] h).bind fun r54 => (asS r54.1).bind fun t55 => (aNil x0).bind fun v56 => (aOff v56 1).bind fun v57 => (aLd1 r54.2 v57).bind fun v58 => (asI .i64 v58).bind fun n59 => (aNil x0).bind fun v60 => (aOff v60 1).bind fun v61 => (aSt r54.2 v61 (.int .i64 (IntKind.i64.wrap (n59 + 1))) 1).bind fun h62 => (C 83 [x0, (.agg (List.toArray [.int .i64 4, .string t55, .int .i64 0, .slice none 0 0]))] h62).bind fun r63 => (asI .i64 r63.1).bind fun n64 => (C 137 [x0] r63.2).bind fun r65 => (asI .i64 r65.1).bind fun n66 => aNewS r65.2 3 [.int .i64 n64, .int .i64 n66] 2 fun p67 h68 => (aFill [.int .i64 0, .string ⟨#[]⟩, .int .i64 0, .slice none 0 0] [(0, 1, .int .i64 24), (3, 1, p67)]).bind fun c69 => (C 83 [x0, (.agg (List.toArray c69))] h68).bind fun r70 => (asI .i64 r70.1).bind fun n71 => some (.int .i64 n71, r70.2) else s239_1 hk C N x0 h := by kernel_rfl
theorem s239_1_j (C : ACall) (N : Nat) (x0 : Value) (h : AHeap) : s239_1 hk0 C N x0 h = F239_1 hk0 C N (⟨106, [(0, x0)]⟩) h := by delta s239_1; exact hk0_app _ _ _ _
theorem s239_1_eq (hk : Hk (Value × AHeap)) (C : ACall) (N : Nat) (x0 : Value) (h : AHeap) : F239_1 hk C N (⟨106, [(0, x0)]⟩) h =
    (C 137 [x0] h).bind fun r72 => (asI .i64 r72.1).bind fun n73 => aNewS r72.2 3 [.int .i64 n73] 1 fun p74 h75 => (aFill [.int .i64 0, .string ⟨#[]⟩, .int .i64 0, .slice none 0 0] [(0, 1, .int .i64 23), (3, 1, p74)]).bind fun c76 => (C 83 [x0, (.agg (List.toArray c76))] h75).bind fun r77 => (asI .i64 r77.1).bind fun n78 => some (.int .i64 n78, r77.2) := by kernel_rfl
theorem c239 (d : Nat) (args : List Value) (h : AHeap) : call Try.prog Ms (d + 1) 239 args h = evFn hk0 Try.prog (call Try.prog Ms d) M239 d Try.f239 args h := by kernel_rfl
end Go.Proofs.Ytadmoackacickaa
/- The reference's parser: its state in the small evaluator's heap. -/
set_option linter.unusedSimpArgs false
namespace Go.Proofs.Ytadmoackacickaa
open Go Go.AH

def qcells (c : PC) (nv : Value) (st : PSt) : List Value := [c.tv, .int .i64 st.at', nv, .int .i64 st.code, .int .i64 st.place, .int .i64 st.nest, .int .i64 c.en]
def QH (c : PC) (h : AHeap) (st : PSt) (rn : Option Nat) : Prop := ∃ nv, OwnR h c.p c.p 114 (qcells c nv st) ∧ TokH h c.tv c.toks ∧ NodesH h nv st.nodes rn
def QK (rn : Option Nat) (h h' : AHeap) : Prop := h.size ≤ h'.size ∧ (∀ j o, h.at? j = some o → o.elem ≠ 114 → (o.elem = 73 → rn ≠ some o.root) → h'.at? j = some o) ∧ ∀ r, r < h.size → h'.tip 3 r = h.tip 3 r
theorem QK.refl (rn : Option Nat) (h : AHeap) : QK rn h h := ⟨Nat.le_refl _, fun _ _ a _ _ => a, fun _ _ => rfl⟩
theorem QK.trans {rn rn1 : Option Nat} {h h1 h2 : AHeap} (x : QK rn h h1) (r : PRN rn rn1 h) (y : QK rn1 h1 h2) : QK rn h h2 :=
  ⟨Nat.le_trans x.1 y.1, fun j o a b c => y.2.1 j o (x.2.1 j o a b c) b (fun e => by
    rcases r with rfl | ⟨q, rfl, hq⟩
    · exact c e
    · have := at?_obj a
      intro hh
      have : q = o.root := by simpa using hh
      omega), fun q hq => (y.2.2 q (Nat.lt_of_lt_of_le hq x.1)).trans (x.2.2 q hq)⟩
theorem QK.ext {rn : Option Nat} {h h' : AHeap} (x : Ext h.size h h') : QK rn h h' := ⟨x.size, fun j o a _ _ => x.at? (at?_obj a).2.1 a, fun r hr => x.tip 3 r hr⟩
theorem RowE.qk {rn : Option Nat} {h h' : AHeap} {i : Nat} {e : TypeId} {cs : List Value} (x : RowE h i e cs) (k : QK rn h h') (h1 : e ≠ 114) (h2 : e ≠ 73) : RowE h' i e cs :=
  let ⟨o, a, b, c⟩ := x; ⟨o, k.2.1 i o a (by rw [b]; exact h1) (fun e' => absurd (b.symm.trans e') h2), b, c⟩
theorem OwnR.qk {rn : Option Nat} {h h' : AHeap} {i rt : Nat} {e : TypeId} {cs : List Value} (x : OwnR h i rt e cs) (k : QK rn h h') (h1 : e ≠ 114) (h2 : e ≠ 73) : OwnR h' i rt e cs :=
  let ⟨ep, a⟩ := x; ⟨ep, k.2.1 i _ a h1 (fun e' => absurd e' h2)⟩
theorem TokH.qk {rn : Option Nat} {h h' : AHeap} {v : Value} {ts : List Tok} (x : TokH h v ts) (k : QK rn h h') : TokH h' v ts := by
  rcases x with a | ⟨i, a, b⟩
  · exact .inl a
  · exact .inr ⟨i, a, b.qk k (by decide) (by decide)⟩
theorem KidH.qk {rn : Option Nat} {h h' : AHeap} {v : Value} {ks : List Int} (x : KidH h v ks) (k : QK rn h h') : KidH h' v ks := by
  rcases x with a | ⟨i, rt, a, b⟩
  · exact .inl a
  · exact .inr ⟨i, rt, a, b.qk k (by decide) (by decide)⟩
theorem QH.ext {c : PC} {h h' : AHeap} {st : PSt} {rn : Option Nat} (x : QH c h st rn) (e : Ext h.size h h') : QH c h' st rn :=
  let ⟨nv, a, b, d⟩ := x; ⟨nv, a.ext e, b.qk (QK.ext e (rn := none)), d.ext e⟩
theorem stQ {h : AHeap} {p i : Nat} {cells : List Value} (o : OwnR h p p 114 cells) (hi : i < cells.length) {v : Value} (hv : aCells v = some [v]) :
    ∃ h', aSt h (ptr p i) v 1 = some h' ∧ OwnR h' p p 114 (cells.set i v) ∧ h'.size = h.size ∧ (∀ j o, h.at? j = some o → o.elem ≠ 114 → h'.at? j = some o) ∧ (∀ r, h'.tip 3 r = h.tip 3 r) := by
  obtain ⟨ep, h1⟩ := o
  have hsp : splice cells i [v] = cells.set i v := by
    unfold splice
    rw [List.set_eq_take_append_cons_drop, if_pos hi]; simp
  refine ⟨h.put p ⟨p, ep, false, 114, cells⟩ (splice cells i [v]), by simp [aSt, ptr, h1, hv]; omega, ⟨h.ep 114 p + 1, ?_⟩, rfl, fun k o ho hk => at?_put_other ho (fun e => by subst e; rw [h1] at ho; cases ho; exact hk rfl) _ (fun hh => hk hh.1), fun r => by simp [AHeap.put]⟩
  rw [← hsp]; exact at?_put_same h1 _
theorem NodesH.keepq {h h' : AHeap} {v : Value} {ns : List Kn} {rn : Option Nat} (x : NodesH h v ns rn) (k : ∀ j o, h.at? j = some o → o.elem ≠ 114 → h'.at? j = some o) : NodesH h' v ns rn := by
  rcases x with a | ⟨i, rt, cs, a, b, ⟨ep, c⟩, d, f⟩
  · exact .inl a
  · refine .inr ⟨i, rt, cs, a, b, ⟨ep, k i _ c (by show (73 : TypeId) ≠ 114; decide)⟩, d, fun j n hn => ?_⟩
    obtain ⟨kv, y, z⟩ := f j n hn
    refine ⟨kv, y, ?_⟩
    rcases z with z | ⟨i', rt', z1, ep', z2⟩
    · exact .inl z
    · exact .inr ⟨i', rt', z1, ep', k i' _ z2 (by show (3 : TypeId) ≠ 114; decide)⟩
theorem QH.st {c : PC} {h : AHeap} {st st' : PSt} {rn : Option Nat} (x : QH c h st rn) {i : Nat} (hi : i < 7) {v : Value} (hv : aCells v = some [v]) (hn : st'.nodes = st.nodes) (hc : ∀ nv, (qcells c nv st).set i v = qcells c nv st') :
    ∃ h', aSt h (ptr c.p i) v 1 = some h' ∧ QH c h' st' rn ∧ QK rn h h' ∧ h'.size = h.size ∧ (∀ j o, h.at? j = some o → o.elem ≠ 114 → h'.at? j = some o) := by
  obtain ⟨nv, a, b, d⟩ := x
  obtain ⟨h', t, o', s, k, tp⟩ := stQ a (i := i) hi hv
  rw [hc] at o'
  have pk : QK rn h h' := ⟨by omega, fun j o hj h114 _ => k j o hj h114, fun r _ => tp r⟩
  exact ⟨h', t, ⟨nv, o', b.qk pk, by rw [hn]; exact d.keepq k⟩, pk, s, k⟩
theorem QH.ld {c : PC} {h : AHeap} {st : PSt} {rn : Option Nat} (x : QH c h st rn) : ∃ nv, NodesH h nv st.nodes rn ∧ aLd1 h (ptr c.p 0) = some c.tv ∧ aLd1 h (ptr c.p 1) = some (.int .i64 st.at') ∧ aLd1 h (ptr c.p 2) = some nv ∧ aLd1 h (ptr c.p 3) = some (.int .i64 st.code) ∧ aLd1 h (ptr c.p 4) = some (.int .i64 st.place) ∧ aLd1 h (ptr c.p 5) = some (.int .i64 st.nest) ∧ aLd1 h (ptr c.p 6) = some (.int .i64 c.en) := by
  obtain ⟨nv, a, b, d⟩ := x
  have r := a.row
  exact ⟨nv, d, r.ld1 rfl, r.ld1 rfl, r.ld1 rfl, r.ld1 rfl, r.ld1 rfl, r.ld1 rfl, r.ld1 rfl⟩
theorem PLI.qk {h h' : AHeap} {v : Value} {xs : List Int} {rt : Nat} {rn : Option Nat} (x : PLI h v xs rt) (k : QK rn h h') : PLI h' v xs rt := by
  have hl := x.lt
  obtain ⟨⟨i, e, o⟩, t⟩ := x
  exact ⟨⟨i, e, o.qk k (by decide) (by decide)⟩, (k.2.2 rt hl).trans t⟩
/-- A walk's state. -/
structure QS (c : PC) (rn0 : Option Nat) (h0 : AHeap) (st : PSt) (rn : Option Nat) (h : AHeap) : Prop where
  ph : QH c h st rn
  fr : QK rn0 h0 h
  rr : PRN rn0 rn h0
/-- An answer and the state behind it. -/
def Qp (c : PC) (h : AHeap) (rn : Option Nat) (o : Option (Value × AHeap)) (v : Value) (st' : PSt) : Prop := ∃ h' rn', o = some (v, h') ∧ QS c rn h st' rn' h'
theorem QS.next {c : PC} {rn0 rn rn' : Option Nat} {h0 h g : AHeap} {st st' : PSt} (w : QS c rn0 h0 st rn h) (x : QS c rn h st' rn' g) : QS c rn0 h0 st' rn' g :=
  ⟨x.ph, w.fr.trans w.rr x.fr, PRN.trans w.fr.1 w.rr x.rr⟩
theorem QS.ext {c : PC} {rn0 rn : Option Nat} {h0 h g : AHeap} {st : PSt} (w : QS c rn0 h0 st rn h) (e : Ext h.size h g) : QS c rn0 h0 st rn g := w.next ⟨w.ph.ext e, QK.ext e, PRN.refl rn h⟩
theorem QS.st {c : PC} {rn0 rn : Option Nat} {h0 h : AHeap} {st st' : PSt} (w : QS c rn0 h0 st rn h) {i : Nat} (hi : i < 7) {v : Value} (hv : aCells v = some [v]) (hn : st'.nodes = st.nodes) (hc : ∀ nv, (qcells c nv st).set i v = qcells c nv st') :
    ∃ g, aSt h (ptr c.p i) v 1 = some g ∧ QS c rn0 h0 st' rn g ∧ QK rn h g := by
  obtain ⟨g, a, b, d, _, _⟩ := w.ph.st hi hv hn hc
  exact ⟨g, a, w.next ⟨b, d, PRN.refl rn h⟩, d⟩
section
variable {P : Option (Value × AHeap) → Prop} {c : PC} {rn0 rn : Option Nat} {h0 h : AHeap} {st st' : PSt}
/-- The next token is taken. -/
theorem incS {K : AHeap → Option (Value × AHeap)} (w : QS c rn0 h0 st rn h) (ha : adv 1 st = some st') (hk : ∀ g, QS c rn0 h0 st' rn g → QK rn h g → P (K g)) :
    P ((aNil (ptr c.p 0)).bind fun v3 => (aOff v3 1).bind fun v4 => (aLd1 h v4).bind fun v5 => (asI .i64 v5).bind fun n6 => (aNil (ptr c.p 0)).bind fun v7 => (aOff v7 1).bind fun v8 => (aSt h v8 (.int .i64 (IntKind.i64.wrap (n6 + 1))) 1).bind fun h9 => K h9) := by
  unfold adv at ha
  by_cases hl : st.at' + 1 ≤ 1000000
  · rw [if_pos hl] at ha; cases ha
    obtain ⟨nv, _, _, f1, _⟩ := w.ph.ld
    have w1 : IntKind.i64.wrap ((st.at' : Int) + 1) = ((st.at' + 1 : Nat) : Int) := by rw [wr (by omega) (by omega)]; omega
    obtain ⟨g, a, b, d⟩ := w.st (i := 1) (st' := { st with at' := st.at' + 1 }) (v := .int .i64 ((st.at' + 1 : Nat) : Int)) (by omega) rfl rfl (fun _ => rfl)
    refine pb rfl (pb rfl (pb f1 (pb rfl (pb rfl (pb rfl ?_)))))
    rw [w1]
    exact pb a (hk g b d)
  · rw [if_neg hl] at ha; cases ha
/-- One fewer within others. -/
theorem decS {K : AHeap → Option (Value × AHeap)} (w : QS c rn0 h0 st rn h) (ha : nestTo (-1) st = some st') (hk : ∀ g, QS c rn0 h0 st' rn g → QK rn h g → P (K g)) :
    P ((aNil (ptr c.p 0)).bind fun v3 => (aOff v3 5).bind fun v4 => (aLd1 h v4).bind fun v5 => (asI .i64 v5).bind fun n6 => (aNil (ptr c.p 0)).bind fun v7 => (aOff v7 5).bind fun v8 => (aSt h v8 (.int .i64 (IntKind.i64.wrap (n6 - 1))) 1).bind fun h9 => K h9) := by
  unfold nestTo at ha
  by_cases hl : -1000 ≤ st.nest + (-1) ∧ st.nest + (-1) ≤ 1000
  · rw [if_pos hl] at ha; cases ha
    obtain ⟨nv, _, _, _, _, _, _, f5, _⟩ := w.ph.ld
    have w1 : IntKind.i64.wrap (st.nest - 1) = st.nest + (-1) := by rw [wr (by omega) (by omega)]; omega
    obtain ⟨g, a, b, d⟩ := w.st (i := 5) (st' := { st with nest := st.nest + (-1) }) (v := .int .i64 (st.nest + (-1))) (by omega) rfl rfl (fun _ => rfl)
    refine pb rfl (pb rfl (pb f5 (pb rfl (pb rfl (pb rfl ?_)))))
    rw [w1]
    exact pb a (hk g b d)
  · rw [if_neg hl] at ha; cases ha
/-- The fault so far. -/
theorem codS {K : Int → Option (Value × AHeap)} (w : QS c rn0 h0 st rn h) (hk : P (K st.code)) : P ((aNil (ptr c.p 0)).bind fun v3 => (aOff v3 3).bind fun v4 => (aLd1 h v4).bind fun v5 => (asI .i64 v5).bind fun n6 => K n6) := by
  obtain ⟨nv, _, _, _, _, f3, _⟩ := w.ph.ld
  exact pb rfl (pb rfl (pb f3 (pb rfl hk)))
/-- A call that tells a number. -/
theorem calS {o : Option (Value × AHeap)} {K : Value × AHeap → Int → Option (Value × AHeap)} {a : Int} (w : QS c rn0 h0 st rn h) (x : Qp c h rn o (.int .i64 a) st') (hk : ∀ g rn', QS c rn0 h0 st' rn' g → QK rn h g → PRN rn rn' h → P (K (.int .i64 a, g) a)) :
    P (o.bind fun r => (asI .i64 r.1).bind fun n => K r n) := by
  obtain ⟨g, rn', rfl, y⟩ := x
  exact hk g rn' (w.next y) y.fr y.rr
/-- A call that tells nothing. -/
theorem calU {o : Option (Value × AHeap)} {K : Value × AHeap → Option (Value × AHeap)} {v : Value} (w : QS c rn0 h0 st rn h) (x : Qp c h rn o v st') (hk : ∀ g rn', QS c rn0 h0 st' rn' g → QK rn h g → PRN rn rn' h → P (K (v, g))) : P (o.bind fun r => K r) := by
  obtain ⟨g, rn', rfl, y⟩ := x
  exact hk g rn' (w.next y) y.fr y.rr
theorem calT {o : Option (Value × AHeap)} {K : Value × AHeap → ByteArray → Option (Value × AHeap)} {a : ByteArray} (w : QS c rn0 h0 st rn h) (x : Qp c h rn o (.string a) st') (hk : ∀ g rn', QS c rn0 h0 st' rn' g → QK rn h g → PRN rn rn' h → P (K (.string a, g) a)) :
    P (o.bind fun r => (asS r.1).bind fun n => K r n) := by
  obtain ⟨g, rn', rfl, y⟩ := x
  exact hk g rn' (w.next y) y.fr y.rr
theorem calB {o : Option (Value × AHeap)} {K : Value × AHeap → Bool → Option (Value × AHeap)} {a : Bool} (w : QS c rn0 h0 st rn h) (x : Qp c h rn o (.bool a) st') (hk : ∀ g rn', QS c rn0 h0 st' rn' g → QK rn h g → PRN rn rn' h → P (K (.bool a, g) a)) :
    P (o.bind fun r => (asB r.1).bind fun n => K r n) := by
  obtain ⟨g, rn', rfl, y⟩ := x
  exact hk g rn' (w.next y) y.fr y.rr
/-- A row of kids is made. -/
theorem rowS {cells : List Value} {n : Nat} {K : Value → AHeap → Option (Value × AHeap)} (xs : List Int) (w : QS c rn0 h0 st rn h) (hc : cells = ints xs) (hn : n = xs.length)
    (hk : ∀ g v rt, QS c rn0 h0 st rn g → PLI g v xs rt → QK rn h g → h.size ≤ rt → P (K v g)) : P (aNewS h 3 cells n K) := by
  subst hc; subst hn
  have e := Ext.new (Nat.le_refl h.size) 3 (ints xs)
  exact hk _ _ h.size (w.ext e) (PLI.new h xs) (QK.ext e) (Nat.le_refl _)
/-- A kid is put behind the others. -/
theorem pushS {v : Value} {xs : List Int} {rt : Nat} {y : Int} {K : Value × AHeap → Option (Value × AHeap)} (w : QS c rn0 h0 st rn h) (l : PLI h v xs rt) (hrt : h0.size ≤ rt) (hl : xs.length ≤ 9000000)
    (hk : ∀ g v', QS c rn0 h0 st rn g → PLI g v' (xs ++ [y]) rt → AK rt h g → P (K (v', g))) : P (aNewS h 3 [.int .i64 y] 1 fun p g => (aApp g 3 1 8 v p).bind fun r => K r) := by
  obtain ⟨v', g, a, b, k⟩ := l.push hl y
  show P ((aApp (h.new 3 [.int .i64 y]) 3 1 8 v (slc h.size 0 1)).bind fun r => K r)
  refine pb a (hk g v' ⟨?_, ?_, w.rr⟩ b k)
  · obtain ⟨nv, ⟨ep, a⟩, b, d⟩ := w.ph
    refine ⟨nv, ⟨ep, k.2.1 _ _ a⟩, ?_, d.keepq fun j o y _ => k.2.1 j o y⟩
    rcases b with b | ⟨i, z, o, e1, e2, e3⟩
    · exact .inl b
    · exact .inr ⟨i, z, o, k.2.1 _ _ e1, e2, e3⟩
  · refine ⟨Nat.le_trans w.fr.1 k.1, fun j o a b d => k.2.1 j o (w.fr.2.1 j o a b d), fun r hr => ?_⟩
    rw [k.2.2 r (Nat.lt_of_lt_of_le hr w.fr.1) (by omega)]
    exact w.fr.2.2 r hr
end
end Go.Proofs.Ytadmoackacickaa
/- Fold: the reference's walk, the ends of a node. -/
set_option linter.unusedSimpArgs false
namespace Go.Proofs.Ytadmoackacickaa
open Go Go.AH

section
variable {b p p2 p8 rn0 : Nat} {nv : Value} {top : Int} {T : List Kn} {n : Kn} {kv : Value} {rts0 : List Nat} {h0 h g : AHeap} {v : Value} {cur : List Kn} {id rt : Nat} {ix : List Int} {rts : List Nat} {rn : Nat}
end
end Go.Proofs.Ytadmoackacickaa
/- Fold: the reference's walk. -/
set_option linter.unusedSimpArgs false
namespace Go.Proofs.Ytadmoackacickaa
open Go Go.AH

theorem ldX {h g : AHeap} {i off n : Nat} {v : Value} (a : aLdN h (ptr i off) n = some v) (e : Ext h.size h g) : aLdN g (ptr i off) n = some v := by
  simp only [aLdN, ptr, AHeap.rd] at a ⊢
  cases q : h.at? i with
  | none => rw [q] at a; cases a
  | some o => rw [q] at a; rw [e.at? (at?_obj q).2.1 q]; exact a
theorem ldX1 {h g : AHeap} {i off : Nat} {v : Value} (a : aLd1 h (ptr i off) = some v) (e : Ext h.size h g) : aLd1 g (ptr i off) = some v := by
  simp only [aLd1, ptr, AHeap.rd] at a ⊢
  cases q : h.at? i with
  | none => rw [q] at a; cases a
  | some o => rw [q] at a; rw [e.at? (at?_obj q).2.1 q]; exact a
section
variable {b p p2 p8 rn0 : Nat} {nv : Value} {top : Int} {T : List Kn} {n : Kn} {kv : Value} {rts0 : List Nat} {h0 h : AHeap} {v : Value} {cur : List Kn} {id rt : Nat} {ix : List Int} {rts : List Nat} {rn : Nat}
end
end Go.Proofs.Ytadmoackacickaa
