import Derived.Tactics
/- A small deterministic evaluator over the loaded code ('AH'): an append makes a new abstract row, there are no capacities and no draws. Definitions alone. -/
namespace Go.AH

/-! ### values -/
/-- Slots: how many there are; what is told of them, the newest first. -/
structure Tm where
  n : Nat
  l : List (Nat × Value)
def lk (d : Value) (i : Nat) : List (Nat × Value) → Value
  | [] => d
  | (j, v) :: l => bif Nat.beq j i then v else lk d i l
def Tm.getD (t : Tm) (i : Nat) (d : Value) : Value := bif Nat.blt i t.n then lk d i t.l else d
def Tm.set (t : Tm) (d : Nat) (v : Value) : Tm := bif Nat.blt d t.n then ⟨t.n, (d, v) :: t.l⟩ else t
/-- A slot of which nothing is known. -/
def junk : Value := .complex .f32 0 0
def ptr (i o : Nat) : Value := .pointer (some ⟨i, o, none⟩)
def slc (i o n : Nat) : Value := .slice (some ⟨i, o, none⟩) n n
def isCell : Value → Bool
  | .int _ _ | .bool _ | .string _ | .pointer _ | .slice _ _ _ | .map _ | .func _ _ _ | .nilFunc => true
  | _ => false

/-! ### the heap -/
structure AObj where
  root : Nat
  ep : Nat
  ro : Bool
  elem : TypeId
  cells : List Value

structure AHeap where
  size : Nat
  obj : Nat → Option AObj
  ep : TypeId → Nat → Nat
  tip : TypeId → Nat → Nat
  map : Nat → Option (List (Value × Value))

def AHeap.at? (h : AHeap) (i : Nat) : Option AObj :=
  match h.obj i with
  | some o => if i < h.size ∧ o.root ≤ i ∧ h.ep o.elem o.root = o.ep then some o else none
  | none => none
def AHeap.rd (h : AHeap) (i off n : Nat) : Option (List Value) :=
  match h.at? i with
  | some o => if off + n ≤ o.cells.length then some ((o.cells.drop off).take n) else none
  | none => none
/-- A new row. -/
def AHeap.new (h : AHeap) (e : TypeId) (cs : List Value) : AHeap :=
  { h with
    size := h.size + 1
    obj := fun j => if j = h.size then some ⟨h.size, h.ep e h.size, false, e, cs⟩ else h.obj j
    tip := fun e' r => if e' = e ∧ r = h.size then cs.length else h.tip e' r }
/-- A row's cells turn: whatever else may lie in its family is told no more. -/
def AHeap.put (h : AHeap) (i : Nat) (o : AObj) (cs : List Value) : AHeap :=
  { h with
    obj := fun j => if j = i then some { o with ep := h.ep o.elem o.root + 1, cells := cs } else h.obj j
    ep := fun e r => if e = o.elem ∧ r = o.root then h.ep o.elem o.root + 1 else h.ep e r
    tip := fun e r => if e = o.elem ∧ r = o.root then cs.length else h.tip e r }
/-- A row is appended to behind k cells: a new row of the family. -/
def AHeap.app (h : AHeap) (o : AObj) (k : Nat) (cs : List Value) : AHeap :=
  { h with
    size := h.size + 1
    obj := fun j => if j = h.size then some ⟨o.root, if k < h.tip o.elem o.root then h.ep o.elem o.root + 1 else h.ep o.elem o.root, false, o.elem, cs⟩ else h.obj j
    ep := fun e r => if e = o.elem ∧ r = o.root then (if k < h.tip o.elem o.root then h.ep o.elem o.root + 1 else h.ep o.elem o.root) else h.ep e r
    tip := fun e r => if e = o.elem ∧ r = o.root then cs.length else h.tip e r }
def AHeap.newMap (h : AHeap) : AHeap := { h with size := h.size + 1, map := fun j => if j = h.size then some [] else h.map j }
def AHeap.putMap (h : AHeap) (i : Nat) (l : List (Value × Value)) : AHeap := { h with map := fun j => if j = i then some l else h.map j }

/-! ### operations -/
def aCells : Value → Option (List Value)
  | .agg cs => if cs.toList.all isCell then some cs.toList else none
  | v => if isCell v then some [v] else none
def splice (cs : List Value) (off : Nat) (vs : List Value) : List Value := cs.take off ++ vs ++ cs.drop (off + vs.length)
def aFill : List Value → List (Nat × Nat × Value) → Option (List Value)
  | cs, [] => some cs
  | cs, (off, n, v) :: ps => (aCells v).bind fun vs => if vs.length = n ∧ off + n ≤ cs.length then aFill (splice cs off vs) ps else none
def aLd1 (h : AHeap) : Value → Option Value
  | .pointer (some ⟨i, off, none⟩) => (h.rd i off 1).bind fun cs => cs.head?
  | _ => none
def aLdN (h : AHeap) (p : Value) (n : Nat) : Option Value :=
  match p with
  | .pointer (some ⟨i, off, none⟩) => (h.rd i off n).map fun cs => .agg cs.toArray
  | _ => none
def aSt (h : AHeap) (p v : Value) (n : Nat) : Option AHeap :=
  match p with
  | .pointer (some ⟨i, off, none⟩) =>
    match h.at? i, aCells v with
    | some o, some vs => if o.ro = false ∧ vs.length = n ∧ off + n ≤ o.cells.length then some (h.put i o (splice o.cells off vs)) else none
    | _, _ => none
  | _ => none
def aOff (p : Value) (n : Nat) : Option Value :=
  match p with
  | .pointer (some ⟨i, off, none⟩) => some (ptr i (off + n))
  | _ => none
def aIdx (s i : Value) (esz : Nat) : Option Value :=
  match s, i with
  | .slice (some ⟨b, off, none⟩) n _, .int _ j => if 0 ≤ j ∧ j < n then some (ptr b (off + j.toNat * esz)) else none
  | _, _ => none
def aStrIx (s i : Value) : Option Value :=
  match s, i with
  | .string s, .int _ j => if 0 ≤ j then (s[j.toNat]?).map fun b => .int .u8 b.toNat else none
  | _, _ => none
def aLen : Value → Option Value
  | .slice _ n _ => some (.int .i64 n)
  | _ => none
def aBound (v : Value) (most : Nat) : Option Nat :=
  match v with
  | .int _ j => if 0 ≤ j ∧ j ≤ most then some j.toNat else none
  | _ => none
def aSub (hp : AHeap) (e : TypeId) (s : Value) (lo hi : Option Value) (esz : Nat) : Option Value :=
  match s with
  | .slice (some ⟨b, off, none⟩) n _ => if (hp.at? b).map (·.elem) = some e then (match hi with | some v => aBound v n | none => some n).bind fun h => (match lo with | some v => aBound v h | none => some 0).bind fun l => some (.slice (some ⟨b, off + l * esz, none⟩) (h - l) (h - l)) else none
  | .slice none 0 _ => (match hi with | some v => aBound v 0 | none => some 0).bind fun h => (match lo with | some v => aBound v h | none => some 0).bind fun _ => some (.slice none 0 0)
  | _ => none
def aSubS (s : Value) (lo hi : Option Value) : Option Value :=
  match s with
  | .string s => (match hi with | some v => aBound v s.size | none => some s.size).bind fun h => (match lo with | some v => aBound v h | none => some 0).bind fun l => some (.string (s.extract l h))
  | _ => none
def aSrc (h : AHeap) (esz : Nat) : Value → Option (Nat × List Value)
  | .slice (some ⟨i, off, none⟩) n _ => (h.rd i off (n * esz)).map fun cs => (n, cs)
  | .slice none _ _ => some (0, [])
  | _ => none
def aSrcS : Value → Option (Nat × List Value)
  | .string s => some (s.size, s.data.toList.map fun b => .int .u8 b.toNat)
  | _ => none
/-- 2^47 -/
def most : Nat := 140737488355328
def aAppG (h : AHeap) (e : TypeId) (esz bytes : Nat) (s : Value) (src : Option (Nat × List Value)) : Option (Value × AHeap) :=
  match s with
  | .slice none 0 _ => src.bind fun my => if my.1 = 0 then some (.slice none 0 0, h) else if my.1 ≤ most ∧ my.1 * bytes ≤ most then some (slc h.size 0 my.1, h.new e my.2) else none
  | .slice (some ⟨i, 0, none⟩) n _ =>
    match h.at? i with
    | some o => src.bind fun my => if o.ro = false ∧ o.elem = e ∧ n * esz ≤ o.cells.length ∧ n + my.1 ≤ most ∧ (n + my.1) * bytes ≤ most then some (slc h.size 0 (n + my.1), h.app o (n * esz) (o.cells.take (n * esz) ++ my.2)) else none
    | none => none
  | _ => none
def aApp (h : AHeap) (e : TypeId) (esz bytes : Nat) (s x : Value) : Option (Value × AHeap) := aAppG h e esz bytes s (aSrc h esz x)
def aAppS (h : AHeap) (e : TypeId) (bytes : Nat) (s x : Value) : Option (Value × AHeap) := aAppG h e 1 bytes s (aSrcS x)
def aMk (h : AHeap) (e : TypeId) (z : List Value) (bytes : Nat) (l c : Value) : Option (Value × AHeap) :=
  match l, c with
  | .int .i64 l, .int .i64 c => if 0 ≤ l ∧ l ≤ c ∧ c ≤ most ∧ c.toNat * bytes ≤ most then some (slc h.size 0 l.toNat, h.new e (List.replicate l.toNat z).flatten) else none
  | _, _ => none
def aNil : Value → Option Value
  | .pointer (some a) => some (.pointer (some a))
  | .func (.func f) a b => some (.func (.func f) a b)
  | _ => none
def aBin (op : BinOp) (x y : Value) : Option Value :=
  match x, y with
  | .int k a, .int k' b =>
    match op with
    | .shl => if 0 ≤ b then some (.int k (k.wrap (a * 2 ^ (min b.toNat k.bits)))) else none
    | .shr => if 0 ≤ b then some (.int k (a.fdiv (2 ^ (min b.toNat k.bits)))) else none
    | op =>
      if k = k' then
        match op with
        | .add => some (.int k (k.wrap (a + b)))
        | .sub => some (.int k (k.wrap (a - b)))
        | .mul => some (.int k (k.wrap (a * b)))
        | .quo => if b = 0 then none else some (.int k (k.wrap (a.tdiv b)))
        | .rem => if b = 0 then none else some (.int k (a.tmod b))
        | .and => some (.int k (k.wrap (BitVec.ofInt k.bits a &&& BitVec.ofInt k.bits b).toNat))
        | .or => some (.int k (k.wrap (BitVec.ofInt k.bits a ||| BitVec.ofInt k.bits b).toNat))
        | .xor => some (.int k (k.wrap (BitVec.ofInt k.bits a ^^^ BitVec.ofInt k.bits b).toNat))
        | .andNot => some (.int k (k.wrap (BitVec.ofInt k.bits a &&& ~~~BitVec.ofInt k.bits b).toNat))
        | .eql => some (.bool (a == b))
        | .neq => some (.bool (a != b))
        | .lss => some (.bool (a < b))
        | .leq => some (.bool (a ≤ b))
        | .gtr => some (.bool (a > b))
        | .geq => some (.bool (a ≥ b))
        | _ => none
      else none
  | .string a, .string b =>
    match op with
    | .add => if a.size + b.size ≤ most then some (.string (a ++ b)) else none
    | .eql => some (.bool (a.toList == b.toList))
    | .neq => some (.bool !(a.toList == b.toList))
    | .lss => some (.bool (Op.bytesLess a.toList b.toList))
    | .leq => some (.bool (Op.bytesLess a.toList b.toList || a.toList == b.toList))
    | .gtr => some (.bool !(Op.bytesLess a.toList b.toList || a.toList == b.toList))
    | .geq => some (.bool !(Op.bytesLess a.toList b.toList))
    | _ => none
  | _, _ => none
def aBinB (op : BinOp) (x y : Value) : Option Value :=
  match x, y with
  | .bool a, .bool b =>
    match op with
    | .eql => some (.bool (a == b))
    | .neq => some (.bool (!(a == b)))
    | _ => none
  | _, _ => none
def aBinP (op : BinOp) (x y : Value) : Option Value :=
  match x, y with
  | .pointer a, .pointer none =>
    match op with
    | .eql => some (.bool a.isNone)
    | .neq => some (.bool (!a.isNone))
    | _ => none
  | _, _ => none
def aUn (op : UnOp) (x : Value) : Option Value :=
  match op, x with
  | .neg, .int k n => some (.int k (k.wrap (0 - n)))
  | .not, .bool b => some (.bool !b)
  | _, _ => none
def aCvInt (k : IntKind) (x : Value) : Option Value :=
  match x with
  | .int _ n => some (.int k (k.wrap n))
  | _ => none
def bytesOf : List Value → Option (List UInt8)
  | [] => some []
  | .int .u8 n :: l => (bytesOf l).map fun r => UInt8.ofNat n.toNat :: r
  | _ => none
def aCvStr (h : AHeap) (x : Value) : Option Value :=
  match x with
  | .slice none _ _ => some (.string .empty)
  | .slice (some ⟨i, off, none⟩) n _ => (h.rd i off n).bind fun cs => (bytesOf cs).map fun l => .string ⟨l.toArray⟩
  | _ => none
def aExt (x : Value) (i : Nat) : Option Value :=
  match x with
  | .tuple vs => vs[i]?
  | _ => none
/-- The part of n cells of a struct's value; 'one': a plain cell. -/
def aPart (x : Value) (off n : Nat) (agg : Bool) : Option Value :=
  match x with
  | .agg cs => if agg then (if off + n ≤ cs.size then some (.agg (cs.extract off (off + n))) else none) else cs[off]?
  | _ => none
def aMm (mx : Bool) (x y : Value) : Option Value :=
  match x, y with
  | .int k a, .int k' b => if k = k' then some (.int k (if mx then (if b > a then b else a) else (if b < a then b else a))) else none
  | _, _ => none
def keyEq : Value → Value → Option Bool
  | .int k a, .int k' b => if k = k' then some (a == b) else none
  | .string a, .string b => some (a == b)
  | .bool a, .bool b => some (a == b)
  | _, _ => none
def mfind (key : Value) : List (Value × Value) → Option (Option Value)
  | [] => some none
  | (k, v) :: l => match keyEq key k with
    | some true => some (some v)
    | some false => mfind key l
    | none => none
def mset (key v : Value) : List (Value × Value) → Option (List (Value × Value))
  | [] => some [(key, v)]
  | (k, u) :: l => match keyEq key k with
    | some true => some ((key, v) :: l)
    | some false => (mset key v l).map ((k, u) :: ·)
    | none => none
def aMget (h : AHeap) (m key z : Value) (ok : Bool) : Option Value :=
  match m with
  | .map none => some (if ok then .tuple #[z, .bool false] else z)
  | .map (some i) => (h.map i).bind fun l => (mfind key l).map fun r =>
    match r with
    | some v => if ok then .tuple #[v, .bool true] else v
    | none => if ok then .tuple #[z, .bool false] else z
  | _ => none
def aMset (h : AHeap) (m key v : Value) : Option AHeap :=
  match m with
  | .map (some i) => if isCell v then (h.map i).bind fun l => (mset key v l).map fun l => h.putMap i l else none
  | _ => none
/-- Two loads are alike: plain cells alone. -/
def vbeq1 : Value → Value → Bool
  | .int k a, .int k' b => k == k' && a == b
  | .bool a, .bool b => a == b
  | .string a, .string b => a == b
  | .pointer a, .pointer b => a == b
  | .slice a n c, .slice b m d => a == b && n == m && c == d
  | .map a, .map b => a == b
  | .nilFunc, .nilFunc => true
  | _, _ => false
def vbeqL : List Value → List Value → Bool
  | [], [] => true
  | x :: l, y :: m => vbeq1 x y && vbeqL l m
  | _, _ => false
def vbeq (x y : Value) : Bool :=
  match x, y with
  | .agg a, .agg b => vbeqL a.toList b.toList
  | x, y => vbeq1 x y
def chk (a : Option Value) (v : Value) : Bool :=
  match a with
  | some u => vbeq u v
  | none => false

def asI (k : IntKind) : Value → Option Int
  | .int k' n => if k' = k then some n else none
  | _ => none
def asB : Value → Option Bool
  | .bool b => some b
  | _ => none
def asS : Value → Option ByteArray
  | .string s => some s
  | _ => none

/-! ### calls, in continuation's form -/
section
variable {R : Type}
def aNew (h : AHeap) (e : TypeId) (cs : List Value) (k : Value → AHeap → Option R) : Option R := k (ptr h.size 0) (h.new e cs)
def aNewS (h : AHeap) (e : TypeId) (cs : List Value) (n : Nat) (k : Value → AHeap → Option R) : Option R := k (slc h.size 0 n) (h.new e cs)
def aNewM (h : AHeap) (k : Value → AHeap → Option R) : Option R := k (.map (some h.size)) h.newMap
end

def isS0 : Value → Bool
  | .int _ _ | .bool _ | .string _ | .pointer _ | .slice _ _ _ | .map _ | .nilFunc => true
  | _ => false
def aFn (f : FuncId) (first captured : List Value) : Option Value :=
  if first.all isS0 && captured.all isS0 then some (.func (.func f) first.toArray captured.toArray) else none
abbrev ACall := FuncId → List Value → AHeap → Option (Value × AHeap)
def aCallV (C : ACall) (f : Value) (args : List Value) (h : AHeap) : Option (Value × AHeap) :=
  match f with
  | .func (.func g) first captured => C g (first.toList ++ args ++ captured.toList) h
  | _ => none

/-! ### types -/
def tSize (P : Program) (t : TypeId) : Option Nat := (P.info? t).map (·.size)
def tBytes (P : Program) (t : TypeId) : Option Nat := (P.info? t).map (·.bytes)
def plain1 : Value → Bool
  | .int _ _ | .bool _ | .string _ | .pointer none | .slice none 0 0 | .map none | .nilFunc => true
  | _ => false
def tZero (P : Program) (t : TypeId) : Option (List Value) := (P.info? t).bind fun i => i.zero.bind fun z => bif z.cells.toList.all plain1 then some z.cells.toList else none
def tAgg (P : Program) (t : TypeId) : Option Bool :=
  match P.underlying t with
  | some (.struct _) | some (.array _ _) => some true
  | some _ => some false
  | none => none
def fieldsOf (P : Program) (t : TypeId) : Option (Array Field) :=
  match P.underlying t with
  | some (.struct fs) => some fs
  | _ => none
/-- A value of a plain type is taken as what it is. -/
def nrm {R : Type} (P : Program) (ty : TypeId) (v : Value) (k : Value → Option R) : Option R :=
  match P.underlying ty with
  | some .bool => (asB v).bind fun b => k (.bool b)
  | some (.int kd) => (asI kd v).bind fun n => k (.int kd n)
  | some .string => (asS v).bind fun s => k (.string s)
  | _ => k v
def elemOf? (P : Program) (t : TypeId) : Option TypeId :=
  match P.underlying t with
  | some (.slice e) => some e
  | _ => none

/-! ### an operation -/
def constOk : Value → Bool
  | .agg cs => cs.toList.all plain1
  | v => plain1 v
def evX (t : Tm) : Operand → Value
  | .tmp i => t.getD i junk
  | .const v => bif constOk v then v else junk
  | .global _ => junk
  | .func f => .func (.func f) #[] #[]
def placesOf (P : Program) (fs : Array Field) : Option (List (Nat × Nat)) := fs.toList.mapM fun f => (P.info? f.type).map fun i => (f.offset, i.size)
def partsOf (places : List (Nat × Nat)) (t : Tm) : List (Nat × Operand) → Option (List (Nat × Nat × Value))
  | [] => some []
  | (i, x) :: l => (places[i]?).bind fun p => (partsOf places t l).map fun r => (p.1, p.2, evX t x) :: r
def oAlloc {R : Type} (P : Program) (e : TypeId) (t : Tm) (h : AHeap) (k : Value → AHeap → Option R) : Option R :=
  match tZero P e, tSize P e with
  | some z, some _ => aNew h e z k
  | _, _ => none
def oBox {R : Type} (P : Program) (e : TypeId) (x : Operand) (t : Tm) (h : AHeap) (k : Value → AHeap → Option R) : Option R :=
  match tSize P e with
  | some _ => (aCells (evX t x)).bind fun cs => aNew h e cs k
  | none => none
def oBuild {R : Type} (P : Program) (ty : TypeId) (parts : Array (Nat × Operand)) (t : Tm) (h : AHeap) (k : Value → AHeap → Option R) : Option R :=
  match fieldsOf P ty with
  | some fs =>
    match tZero P ty, (placesOf P fs).bind fun pl => partsOf pl t parts.toList with
    | some z, some ps => (aFill z ps).bind fun cs => k (.agg cs.toArray) h
    | _, _ => none
  | none => none
def oBuildSlice {R : Type} (P : Program) (ty : TypeId) (len : Nat) (parts : Array (Nat × Operand)) (t : Tm) (h : AHeap) (k : Value → AHeap → Option R) : Option R :=
  match elemOf? P ty with
  | some e =>
    match tZero P e, tSize P e with
    | some z, some n => if len * n ≤ 16777216 ∧ 0 < n ∧ z.length = n then (aFill (List.replicate len z).flatten (parts.toList.map fun p => (p.1 * n, n, evX t p.2))).bind fun cs => aNewS h e cs len k else none
    | _, _ => none
  | none => none
def oLoad {R : Type} (P : Program) (ty : TypeId) (a : Operand) (t : Tm) (h : AHeap) (k : Value → AHeap → Option R) : Option R :=
  match tAgg P ty, tSize P ty with
  | some true, some n => (aLdN h (evX t a) n).bind fun v => k v h
  | some false, _ => (aLd1 h (evX t a)).bind fun v => k v h
  | _, _ => none
def oStore {R : Type} (P : Program) (ty : TypeId) (a x : Operand) (t : Tm) (h : AHeap) (k : Value → AHeap → Option R) : Option R :=
  match tSize P ty with
  | some n => (aSt h (evX t a) (evX t x) n).bind fun h => k undef h
  | none => none
def oBinOp {R : Type} (P : Program) (op : BinOp) (ty : TypeId) (x y : Operand) (t : Tm) (h : AHeap) (k : Value → AHeap → Option R) : Option R :=
  match P.underlying ty with
  | some .bool => (aBinB op (evX t x) (evX t y)).bind fun v => k v h
  | some (.pointer _) => (aBinP op (evX t x) (evX t y)).bind fun v => k v h
  | _ => (aBin op (evX t x) (evX t y)).bind fun v => k v h
def oConvert {R : Type} (P : Program) (src dst : TypeId) (x : Operand) (t : Tm) (h : AHeap) (k : Value → AHeap → Option R) : Option R :=
  match P.underlying src, P.underlying dst with
  | some (.int _), some (.int kd) => (aCvInt kd (evX t x)).bind fun v => k v h
  | some (.slice e), some .string =>
    match P.underlying e with
    | some (.int .u8) => (aCvStr h (evX t x)).bind fun v => k v h
    | _ => none
  | _, _ => none
def oMakeSlice {R : Type} (P : Program) (ty : TypeId) (l c : Operand) (t : Tm) (h : AHeap) (k : Value → AHeap → Option R) : Option R :=
  match elemOf? P ty with
  | some e =>
    match tZero P e, tBytes P e, tSize P e with
    | some z, some b, some n => if 0 < n ∧ z.length = n then (aMk h e z b (evX t l) (evX t c)).bind fun r => k r.1 r.2 else none
    | _, _, _ => none
  | none => none
def oSlice {R : Type} (P : Program) (ty : TypeId) (x : Operand) (lo hi : Option Operand) (t : Tm) (h : AHeap) (k : Value → AHeap → Option R) : Option R :=
  match P.underlying ty with
  | some .string => (aSubS (evX t x) (lo.map (evX t)) (hi.map (evX t))).bind fun v => k v h
  | some (.slice e) =>
    match tSize P e with
    | some n => (aSub h e (evX t x) (lo.map (evX t)) (hi.map (evX t)) n).bind fun v => k v h
    | none => none
  | _ => none
def oFieldAddr {R : Type} (P : Program) (s : TypeId) (x : Operand) (f : Nat) (t : Tm) (h : AHeap) (k : Value → AHeap → Option R) : Option R :=
  match (fieldsOf P s).bind (·[f]?) with
  | some f =>
    match tSize P f.type with
    | some (_ + 1) => (aOff (evX t x) f.offset).bind fun v => k v h
    | _ => none
  | none => none
def oField {R : Type} (P : Program) (s : TypeId) (x : Operand) (f : Nat) (t : Tm) (h : AHeap) (k : Value → AHeap → Option R) : Option R :=
  match (fieldsOf P s).bind (·[f]?) with
  | some f =>
    match tAgg P f.type, tSize P f.type with
    | some g, some n => (aPart (evX t x) f.offset n g).bind fun v => k v h
    | _, _ => none
  | none => none
def oIndexAddr {R : Type} (P : Program) (ty : TypeId) (x i : Operand) (t : Tm) (h : AHeap) (k : Value → AHeap → Option R) : Option R :=
  match elemOf? P ty with
  | some e =>
    match tSize P e with
    | some n => (aIdx (evX t x) (evX t i) n).bind fun v => k v h
    | none => none
  | none => none
def oIndex {R : Type} (P : Program) (ty : TypeId) (x i : Operand) (t : Tm) (h : AHeap) (k : Value → AHeap → Option R) : Option R :=
  match P.underlying ty with
  | some .string => (aStrIx (evX t x) (evX t i)).bind fun v => k v h
  | _ => none
def oLen {R : Type} (P : Program) (args : Array Operand) (argTypes : Array TypeId) (t : Tm) (h : AHeap) (k : Value → AHeap → Option R) : Option R :=
  match args.toList, argTypes.toList with
  | [x], [ty] =>
    match P.underlying ty with
    | some .string => (asS (evX t x)).bind fun s => k (.int .i64 s.size) h
    | some (.slice _) => (aLen (evX t x)).bind fun v => k v h
    | _ => none
  | _, _ => none
def oAppend {R : Type} (P : Program) (args : Array Operand) (argTypes : Array TypeId) (t : Tm) (h : AHeap) (k : Value → AHeap → Option R) : Option R :=
  match args.toList, argTypes.toList with
  | [s, x], [ts, tx] =>
    match elemOf? P ts, P.underlying tx with
    | some e, some (.slice _) =>
      if ts = tx then
        match tSize P e, tBytes P e, tZero P e with
        | some n, some b, some z => if 0 < n ∧ z.length = n then (aApp h e n b (evX t s) (evX t x)).bind fun r => k r.1 r.2 else none
        | _, _, _ => none
      else none
    | some e, some .string =>
      match tSize P e, tBytes P e, tZero P e with
      | some 1, some b, some [_] => (aAppS h e b (evX t s) (evX t x)).bind fun r => k r.1 r.2
      | _, _, _ => none
    | _, _ => none
  | _, _ => none
def oMax {R : Type} (P : Program) (args : Array Operand) (t : Tm) (h : AHeap) (k : Value → AHeap → Option R) : Option R :=
  match args.toList with
  | [x, y] => (aMm true (evX t x) (evX t y)).bind fun v => k v h
  | _ => none
def oMin {R : Type} (P : Program) (args : Array Operand) (t : Tm) (h : AHeap) (k : Value → AHeap → Option R) : Option R :=
  match args.toList with
  | [x, y] => (aMm false (evX t x) (evX t y)).bind fun v => k v h
  | _ => none
def evOp {R : Type} (P : Program) (C : ACall) (o : Oper) (t : Tm) (h : AHeap) (k : Value → AHeap → Option R) : Option R :=
  match o.op with
  | .move x => k (evX t x) h
  | .assign x => k (evX t x) h
  | .pick c a b => (asB (evX t c)).bind fun c => bif c then k (evX t a) h else k (evX t b) h
  | .alloc e => oAlloc P e t h k
  | .box e x => oBox P e x t h k
  | .build ty parts => oBuild P ty parts t h k
  | .buildSlice ty len parts => oBuildSlice P ty len parts t h k
  | .load ty a => oLoad P ty a t h k
  | .store ty a x => oStore P ty a x t h k
  | .nilCheck x => (aNil (evX t x)).bind fun v => k v h
  | .binOp op ty x y _ => oBinOp P op ty x y t h k
  | .unOp op _ x => (aUn op (evX t x)).bind fun v => k v h
  | .convert src dst x => oConvert P src dst x t h k
  | .makeFunc (.func f) first captured => (aFn f (first.toList.map (evX t)) (captured.toList.map (evX t))).bind fun v => k v h
  | .makeSlice ty l c => oMakeSlice P ty l c t h k
  | .slice ty x lo hi none => oSlice P ty x lo hi t h k
  | .fieldAddr s x f => oFieldAddr P s x f t h k
  | .field s x f => oField P s x f t h k
  | .indexAddr ty x i => oIndexAddr P ty x i t h k
  | .index ty x i => oIndex P ty x i t h k
  | .extract x i => (aExt (evX t x) i).bind fun v => k v h
  | .call { callee := .builtin .len, args, argTypes } => oLen P args argTypes t h k
  | .call { callee := .builtin .append, args, argTypes } => oAppend P args argTypes t h k
  | .call { callee := .builtin .max, args, .. } => oMax P args t h k
  | .call { callee := .builtin .min, args, .. } => oMin P args t h k
  | .call { callee := .value f, args, .. } => (aCallV C (evX t f) (args.toList.map (evX t)) h).bind fun r => k r.1 r.2
  | _ => none

/-! ### a region -/
def put (t : Tm) (d : Option Tmp) (v : Value) : Tm :=
  match d with
  | some d => t.set d v
  | none => t
def isEff : Op → Bool
  | .store _ _ _ | .mapUpdate _ _ _ _ | .assign _ | .alloc _ | .box _ _ | .buildSlice _ _ _ | .makeSlice _ _ _ => true
  | .call { callee := .value _, .. } => true
  | .call { callee := .builtin .append, .. } => true
  | _ => false
/-- Behind a guard: its slot is known on each way. -/
def evG {R : Type} (ops : Array Oper) (o : Oper) (t : Tm) (run : Tm → Option R) (skip : Tm → Option R) : Option R :=
  match o.guard with
  | none => run t
  | some (j, want) =>
    match (ops[j]?).bind (·.dst) with
    | some d =>
      match t.getD d junk with
      | .bool b => bif b then (bif want then run (t.set d (.bool true)) else skip (t.set d (.bool true))) else (bif want then skip (t.set d (.bool false)) else run (t.set d (.bool false)))
      | .tuple ⟨[]⟩ => skip t
      | _ => none
    | none => none
def evOps {R : Type} (P : Program) (C : ACall) (ops : Array Oper) : List Oper → Tm → AHeap → (Tm → AHeap → Option R) → Option R
  | [], t, h, k => k t h
  | o :: os, t, h, k =>
    evG ops o t (fun t => evOp P C o t h fun v h => nrm P o.type v fun v => evOps P C ops os (put t o.dst v) h k) (fun t => evOps P C ops os (put t o.dst undef) h k)

/-- Is its outcome another one once memory has changed? -/
def isRd : Op → Bool
  | .load _ _ => true
  | .convert _ _ _ => true
  | .slice _ _ _ _ _ => true
  | _ => false
def slotOk (t : Tm) (d : Option Tmp) (v : Value) : Bool :=
  match d with
  | some d => vbeq v (t.getD d junk)
  | none => true
/-- Carried out now, does it give what was told? -/
def reOk (P : Program) (C : ACall) (ops : Array Oper) (t : Tm) (h : AHeap) (j : Nat) : Option Bool :=
  match ops[j]? with
  | none => none
  | some o => evG ops o t (fun t => evOp P C o t h fun v _ => nrm P o.type v fun v => some (slotOk t o.dst v)) (fun _ => some true)
def again {R : Type} (P : Program) (C : ACall) (ops : Array Oper) (t : Tm) (h : AHeap) (k : Option R) : List Nat → Option R
  | [] => k
  | j :: js => (reOk P C ops t h j).bind fun b => bif b then again P C ops t h k js else none
/-- A region that draws its order, gone through in one order of its own. -/
def evDraw {R : Type} (P : Program) (C : ACall) (ops : Array Oper) (pre : List Nat) : List Nat → List Nat → Tm → AHeap → (Tm → AHeap → Option R) → Option R
  | [], _, t, h, k => k t h
  | j :: js, rs, t, h, k =>
    match ops[j]? with
    | none => none
    | some o =>
      bif isEff o.op then
        evG ops o t
          (fun t => evOp P C o t h fun v h' => nrm P o.type v fun v =>
            again P C ops (put t o.dst v) h' (evDraw P C ops pre js (rs.filter fun i => !(pre.getD j 0).testBit i) (put t o.dst v) h' k) (rs.filter fun i => !(pre.getD j 0).testBit i))
          (fun t => evDraw P C ops pre js rs (put t o.dst undef) h k)
      else
        evG ops o t
          (fun t => evOp P C o t h fun v h => nrm P o.type v fun v => evDraw P C ops pre js (if isRd o.op then rs ++ [j] else rs) (put t o.dst v) h k)
          (fun t => evDraw P C ops pre js rs (put t o.dst undef) h k)
/-- What binds an operation to be later than which. -/
def preOf (o : Oper) (acc : List Nat) : Nat := o.after.toList.foldl (fun s e => bif Region.binds .any e then s ||| (2 ^ e.on ||| acc.getD e.on 0) else s) 0
def presGo : List Oper → List Nat → List Nat
  | [], acc => acc
  | o :: os, acc => presGo os (acc ++ [preOf o acc])
def pres (ops : Array Oper) : List Nat := presGo ops.toList []
def eff (ops : Array Oper) (j : Nat) : Bool :=
  match ops[j]? with
  | some o => isEff o.op
  | none => false
def sched (ops : Array Oper) (pre : List Nat) : List Nat :=
  let all := List.range ops.size
  let es := all.filter (eff ops)
  let ns := all.filter fun j => !eff ops j
  let lo := fun j => (es.filter fun e => (pre.getD j 0).testBit e).length
  (ns.filter fun j => lo j = 0) ++ (es.zipIdx.map fun (e, i) => e :: ns.filter fun j => lo j = i + 1).flatten
def looks (ops : Array Oper) (j : Nat) : List Nat :=
  match ops[j]? with
  | some o => (o.op.operands.toList.filterMap fun | .tmp t => some t | _ => none) ++ (match o.guard with | some (g, _) => ((ops[g]?).bind (·.dst)).toList | none => [])
  | none => []
def dstOf (ops : Array Oper) (j : Nat) : Option Tmp := (ops[j]?).bind (·.dst)
/-- Ahead of none of these does it write what they look at, nor what they write; and where it is an effect, they all come behind it. -/
def drawRow (ops : Array Oper) (pre : List Nat) : List Nat → Bool
  | [] => true
  | j :: js => !js.contains j && js.all (fun i => (match dstOf ops i with | some d => (!(looks ops j).contains d || (eff ops i && (pre.getD i 0).testBit j)) && !(dstOf ops j == some d) | none => true) && (!eff ops j || (pre.getD i 0).testBit j)) && drawRow ops pre js
def drawOk (ops : Array Oper) (pre : List Nat) (l : List Nat) : Bool :=
  l.length == ops.size && l.all (· < ops.size) && (List.range ops.size).all l.contains && drawRow ops pre l &&
  (ops.zipIdx.toList.all fun (o, j) => o.after.all fun e => !Region.binds .any e || decide (e.on < j)) &&
  (l.all fun i => eff ops i || (match dstOf ops i with | some d => l.all fun j => !(looks ops j).contains d || (pre.getD j 0).testBit i | none => true))

/-! ### code -/
inductive Ex where
  | norm
  | exit (id : Nat)
  | ret
/-- What is kept at which place: the first list at the places that have a name, the second at the heads of loops. -/
structure Masks where
  pts : List (Nat × List Nat)
  loops : List (Nat × List Nat)
def firstId : Code → Option Nat
  | .region id _ _ => some id
  | .seq a _ => firstId a
  | .block _ c => firstId c
  | .loop c => firstId c
  | .cond _ a b => match firstId a with
    | some i => some (i + 100000)
    | none => (firstId b).map (· + 200000)
  | _ => none
def maskL (keep : List Nat) (_ : Nat) (t : Tm) : Tm := ⟨t.n, keep.map fun i => (i, t.getD i junk)⟩
def maskLoop (M : Masks) (c : Code) (t : Tm) : Tm :=
  match (firstId c).bind fun i => M.loops.lookup i with
  | some keep => maskL keep 0 t
  | none => t
abbrev Nx (R : Type) := Tm → AHeap → Option R
abbrev Kt (R : Type) := Ex → Tm → AHeap → Option R
/-- What a place with a name does: a variable, so that such a place can be looked at as a whole. -/
abbrev Hk (R : Type) := Nat → Tm → AHeap → Nx R → Option R
def hk0 {R : Type} : Hk R := fun _ t h x => x t h
def bnd {R : Type} (hk : Hk R) (M : Masks) (c : Code) (nx : Nx R) : Nx R := fun t h =>
  match firstId c with
  | some i => match M.pts.lookup i with
    | some keep => hk i (maskL keep 0 t) h nx
    | none => nx t h
  | none => nx t h
/-- What stands behind: goes on where the first part ends normally. -/
def kSeq {R : Type} (nx : Nx R) (k : Kt R) : Kt R := fun e t h =>
  match e with
  | .norm => nx t h
  | e => k e t h
def kBlock {R : Type} (id : Nat) (k : Kt R) : Kt R := fun e t h =>
  match e with
  | .exit j => if j = id then k .norm t h else k (.exit j) t h
  | e => k e t h
def evIter {R : Type} (step : Tm → AHeap → Kt R → Option R) (mk : Tm → Tm) (k : Kt R) : Nat → Nx R
  | 0, _, _ => none
  | n + 1, t, h => step t h (kSeq (fun t h => evIter step mk k n (mk t) h) k)
def evRegion {R : Type} (P : Program) (C : ACall) (ops : Array Oper) (draw : Bool) (t : Tm) (h : AHeap) (k : Tm → AHeap → Option R) : Option R :=
  bif draw then
    (bif drawOk ops (pres ops) (sched ops (pres ops)) then evDraw P C ops (pres ops) (sched ops (pres ops)) [] t h k else none)
  else evOps P C ops ops.toList t h k
section
variable {R : Type} (hk : Hk R) (P : Program) (C : ACall) (M : Masks) (N : Nat)
def evCode : Code → Tm → AHeap → Kt R → Option R
  | .skip, t, h, k => k .norm t h
  | .region _ ops draw, t, h, k => evRegion P C ops draw t h (k .norm)
  | .seq a b, t, h, k => evCode a t h (kSeq (bnd hk M b (fun t h => evCode b t h k)) k)
  | .cond c a b, t, h, k => (asB (evX t c)).bind fun x => bif x then bnd hk M a (fun t h => evCode a t h k) t h else bnd hk M b (fun t h => evCode b t h k) t h
  | .block id c, t, h, k => evCode c t h (kBlock id k)
  | .loop c, t, h, k => evIter (evCode c) (maskLoop M c) k N (maskLoop M c t) h
  | .exit id, t, h, k => k (.exit id) t h
  | .ret, t, h, k => k .ret t h
  | _, _, _, _ => none
/-- The same, at a place within a function's code: 0, 1 a row's parts, 2 a block's, 3 within a round of a loop (so many are left), 6 at a loop's head, 4, 5 a test's ways. -/
def evAt : List Nat → List Nat → Code → Kt R → Nx R
  | 0 :: p, ns, .seq a b, k => evAt p ns a (kSeq (bnd hk M b (fun t h => evCode hk P C M N b t h k)) k)
  | 1 :: p, ns, .seq _ b, k => evAt p ns b k
  | 2 :: p, ns, .block id c, k => evAt p ns c (kBlock id k)
  | 3 :: p, n :: ns, .loop c, k => evAt p ns c (kSeq (fun t h => evIter (evCode hk P C M N c) (maskLoop M c) k n (maskLoop M c t) h) k)
  | 4 :: p, ns, .cond _ a _, k => evAt p ns a k
  | 5 :: p, ns, .cond _ _ b, k => evAt p ns b k
  | 6 :: _, n :: _, .loop c, k => evIter (evCode hk P C M N c) (maskLoop M c) k n
  | _, _, c, k => fun t h => evCode hk P C M N c t h k
end

/-! ### a function -/
def isS2 : Value → Bool
  | .int _ _ | .bool _ | .string _ | .pointer _ | .slice _ _ _ | .map _ | .nilFunc | .func _ _ _ | .agg _ => true
  | _ => false
def resK (P : Program) (t : Tm) (h : AHeap) : List ResultVar → List Value → Option (Value × AHeap)
  | [], acc => match acc with
    | [v] => some (v, h)
    | vs => bif vs.all isS2 then some (.tuple vs.toArray, h) else none
  | .tmp i :: l, acc => resK P t h l (acc ++ [t.getD i junk])
  | .cell a ty :: l, acc =>
    match tAgg P ty, tSize P ty with
    | some true, some n => (aLdN h (t.getD a junk) n).bind fun v => resK P t h l (acc ++ [v])
    | some false, _ => (aLd1 h (t.getD a junk)).bind fun v => resK P t h l (acc ++ [v])
    | _, _ => none
def kBody (P : Program) (fn : Func) : Kt (Value × AHeap)
  | .norm, t, h => resK P t h fn.results.toList []
  | .ret, t, h => resK P t h fn.results.toList []
  | _, _, _ => none
def number : Nat → List Value → List (Nat × Value)
  | _, [] => []
  | i, v :: l => (i, v) :: number (i + 1) l
def init (fn : Func) (args : List Value) : Tm := bif Nat.ble args.length fn.ntmps then ⟨fn.ntmps, number 0 args⟩ else ⟨args.length, number 0 args⟩
def evFn (hk : Hk (Value × AHeap)) (P : Program) (C : ACall) (M : Masks) (N : Nat) (fn : Func) (args : List Value) (h : AHeap) : Option (Value × AHeap) :=
  match fn.body with
  | some c => evCode hk P C M N c (init fn args) h (kBody P fn)
  | none => none
/-- A state of a function: a place in its body. -/
def evSt (hk : Hk (Value × AHeap)) (P : Program) (C : ACall) (M : Masks) (N : Nat) (fn : Func) (p ns : List Nat) : Nx (Value × AHeap) :=
  match fn.body with
  | some c => evAt hk P C M N p ns c (kBody P fn)
  | none => fun _ _ => none
def call (P : Program) (Ms : FuncId → Masks) : Nat → ACall
  | 0, _, _, _ => none
  | d + 1, f, args, h =>
    match P.funcs[f]? with
    | some fn => evFn hk0 P (call P Ms d) (Ms f) d fn args h
    | none => none

end Go.AH
