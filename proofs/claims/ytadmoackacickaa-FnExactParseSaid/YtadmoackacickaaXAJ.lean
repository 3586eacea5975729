import Derived.Test.YtadmoackacickaaXAI
import Derived.Test.YtadmoackacickaaXAD
import Derived.KernelRfl
import Derived.Test.YtadmoackacickaaProg
/- The reference's parser, plainly; expressions. -/
set_option linter.unusedSimpArgs false
namespace Go.Proofs.Ytadmoackacickaa
open Go Go.AH

section
variable (c : PC)
def exprS (lv : PI) : PI := fun st => (openS c st).bind fun r => bif r.1 then (lv r.2).bind fun a => (nestTo (-1) a.2).bind fun s => some (a.1, s) else some (-1, r.2)
def opsL : List (Int × ByteArray) := [(5, ⟨#[43]⟩), (5, ⟨#[45]⟩), (6, ⟨#[42]⟩), (6, ⟨#[47]⟩), (6, ⟨#[37]⟩), (4, ⟨#[46, 46]⟩), (3, ⟨#[61, 61]⟩), (3, ⟨#[126, 61]⟩), (3, ⟨#[60]⟩), (3, ⟨#[60, 61]⟩)]
def opGo (L : Int) : List (Int × ByteArray) → Nat → PSt → Int
  | [], _, _ => 0
  | p :: r, i, st => if p.1 = L ∧ isP c st p.2 = true then (i : Int) else opGo L r (i + 1) st
def kindS (L : Int) (st : PSt) : Int × Int :=
  if L = 1 ∧ isP c st ⟨#[111, 114]⟩ = true then (13, 0) else if L = 2 ∧ isP c st ⟨#[97, 110, 100]⟩ = true then (12, 0) else if opGo c L opsL 1 st = 0 then (0, 0) else (10, opGo c L opsL 1 st)
def levLoop (L : Int) (sub : PI) : Nat → Int → PI
  | 0, _, _ => none
  | n + 1, a, st => if st.code = 0 then (if (kindS c L st).1 = 0 then some (a, st) else (adv 1 st).bind fun s1 => (sub s1).bind fun b => (nodeS (kindS c L st).1 E0 (kindS c L st).2 [a, b.1] b.2).bind fun x => if L = 3 then some x else levLoop L sub n x.1 x.2) else some (a, st)
def levelS (L : Int) (sub : PI) (n : Nat) : PI := fun st => (sub st).bind fun a => levLoop c L sub n a.1 a.2
def turnT (t : Int) (self : PI) : PI := fun st => (openS c st).bind fun r => bif r.1 then (adv 1 r.2).bind fun s => (self s).bind fun e => (nestTo (-1) e.2).bind fun s => nodeS 11 E0 t [e.1] s else some (-1, r.2)
def turnS (self suf : PI) : PI := fun st => if isP c st ⟨#[45]⟩ = true then turnT c 1 self st else if isP c st ⟨#[110, 111, 116]⟩ = true then turnT c 2 self st else if isP c st ⟨#[35]⟩ = true then turnT c 3 self st else suf st
def callLoop (ex : PI) : Nat → List Int → PM
  | 0, _, _ => none
  | n + 1, ks, st => if st.code = 0 ∧ isP c st ⟨#[41]⟩ = false then (if ks.length > 1 then wantP c ⟨#[44]⟩ st else some st).bind fun s => (ex s).bind fun e => if ks.length > 1000000 then none else callLoop ex n (ks ++ [e.1]) e.2 else some (ks, st)
def sufLoop (ex : PI) (N : Nat) : Nat → Int → PI
  | 0, _, _ => none
  | n + 1, a, st => if st.code = 0 then
      (if isP c st ⟨#[40]⟩ = true then (adv 1 st).bind fun s => (callLoop c ex N [a] s).bind fun l => (wantP c ⟨#[41]⟩ l.2).bind fun s => (nodeS 9 E0 0 l.1 s).bind fun x => sufLoop ex N n x.1 x.2
      else if isP c st ⟨#[91]⟩ = true then (adv 1 st).bind fun s => (ex s).bind fun k => (wantP c ⟨#[93]⟩ k.2).bind fun s => (nodeS 8 E0 0 [a, k.1] s).bind fun x => sufLoop ex N n x.1 x.2
      else if isP c st ⟨#[46]⟩ = true then (adv 1 st).bind fun s => (nameN c s).bind fun m => (nodeS 4 m.1 0 [] m.2).bind fun k => (nodeS 8 E0 0 [a, k.1] k.2).bind fun x => sufLoop ex N n x.1 x.2
      else some (a, st)) else some (a, st)
def suffixS (prim ex : PI) (n : Nat) : PI := fun st => (prim st).bind fun a => sufLoop c ex n n a.1 a.2
def parLoop : Nat → List Int → PM
  | 0, _, _ => none
  | n + 1, ks, st => if st.code = 0 ∧ isP c st ⟨#[41]⟩ = false then (if ks.length > 0 then wantP c ⟨#[44]⟩ st else some st).bind fun s => (nameN c s).bind fun m => (nodeS 22 m.1 0 [] m.2).bind fun x => if ks.length > 1000000 then none else parLoop n (ks ++ [x.1]) x.2 else some (ks, st)
def fnS (block : PI) (n : Nat) : PI := fun st => (wantP c ⟨#[40]⟩ st).bind fun s => (parLoop c n [] s).bind fun l => (wantP c ⟨#[41]⟩ l.2).bind fun s => (block s).bind fun b => if l.1.length > 1000000 then none else nodeS 6 E0 0 (l.1 ++ [b.1]) b.2
def tabLoop (field : PI) : Nat → List Int → PM
  | 0, _, _ => none
  | n + 1, ks, st => if st.code = 0 ∧ isP c st ⟨#[125]⟩ = false then (if ks.length > 0 then wantP c ⟨#[44]⟩ st else some st).bind fun s => (field s).bind fun x => if ks.length > 1000000 then none else tabLoop field n (ks ++ [x.1]) x.2 else some (ks, st)
def tableS (field : PI) (n : Nat) : PI := fun st => (tabLoop c field n [] st).bind fun l => (wantP c ⟨#[125]⟩ l.2).bind fun s => nodeS 7 E0 0 l.1 s
def fieldS (ex : PI) : PI := fun st =>
  if isP c st ⟨#[91]⟩ = true then (adv 1 st).bind fun s => (ex s).bind fun k => (wantP c ⟨#[93]⟩ k.2).bind fun s => (wantP c ⟨#[61]⟩ s).bind fun s => (ex s).bind fun e => nodeS 24 E0 0 [k.1, e.1] e.2
  else if (pk c st).k = 1 ∧ st.at' > 1000000 then none
  else if (pk c st).k = 1 ∧ eqNext c st = true then (nameN c st).bind fun m => (adv 1 m.2).bind fun s => (nodeS 4 m.1 0 [] s).bind fun k => (ex k.2).bind fun e => nodeS 24 E0 0 [k.1, e.1] e.2
  else (ex st).bind fun e => nodeS 23 E0 0 [e.1] e.2
def primaryS (ex fn table : PI) : PI := fun st =>
  if (pk c st).k = 3 then (adv 1 st).bind fun s => nodeS 3 E0 (pk c st).i [] s
  else if (pk c st).k = 4 then (adv 1 st).bind fun s => nodeS 4 (pk c st).text 0 [] s
  else if (pk c st).k = 1 then (nameN c st).bind fun m => nodeS 5 m.1 0 [] m.2
  else if isP c st ⟨#[110, 105, 108]⟩ = true then (adv 1 st).bind fun s => nodeS 1 E0 0 [] s
  else if isP c st ⟨#[116, 114, 117, 101]⟩ = true then (adv 1 st).bind fun s => nodeS 2 E0 1 [] s
  else if isP c st ⟨#[102, 97, 108, 115, 101]⟩ = true then (adv 1 st).bind fun s => nodeS 2 E0 0 [] s
  else if isP c st ⟨#[102, 110]⟩ = true then (adv 1 st).bind fun s => fn s
  else if isP c st ⟨#[123]⟩ = true then (adv 1 st).bind fun s => table s
  else if isP c st ⟨#[40]⟩ = true then (adv 1 st).bind fun s => (ex s).bind fun e => (wantP c ⟨#[41]⟩ e.2).bind fun s => some (e.1, s)
  else some (-1, failP c st 2)
def blkLoop (stmt : PI) : Nat → List Int → PM
  | 0, _, _ => none
  | n + 1, ks, st => if st.code = 0 ∧ isP c st ⟨#[125]⟩ = false then (stmt st).bind fun x => if ks.length > 1000000 then none else blkLoop stmt n (ks ++ [x.1]) x.2 else some (ks, st)
def blockS (stmt : PI) (n : Nat) : PI := fun st => (openS c st).bind fun r => bif r.1 then (wantP c ⟨#[123]⟩ r.2).bind fun s => (blkLoop c stmt n [] s).bind fun l => (wantP c ⟨#[125]⟩ l.2).bind fun s => (nestTo (-1) s).bind fun s => nodeS 21 E0 0 l.1 s else some (-1, r.2)
def assignS (ex : PI) : PI := fun st => (ex st).bind fun e => if e.2.code = 0 then
    (match e.2.nodes[e.1.toNat]? with
    | none => none
    | some n => if e.1 < 0 then none else
      if isP c e.2 ⟨#[59]⟩ = true ∧ n.k = 9 then (adv 1 e.2).bind fun s => nodeS 20 E0 0 [e.1] s
      else if isP c e.2 ⟨#[61]⟩ = true ∧ n.k = 5 then (adv 1 e.2).bind fun s => (cutP e.1 s).bind fun s => (ex s).bind fun v => (wantP c ⟨#[59]⟩ v.2).bind fun s => nodeS 15 n.t 0 [v.1] s
      else if isP c e.2 ⟨#[61]⟩ = true ∧ n.k = 8 then (match n.ks with
        | [a, b] => (adv 1 e.2).bind fun s => (cutP e.1 s).bind fun s => (ex s).bind fun v => (wantP c ⟨#[59]⟩ v.2).bind fun s => nodeS 16 E0 0 [a, b, v.1] s
        | _ => none)
      else some (-1, failP c e.2 2)) else some (-1, e.2)
def stmtS (ex block asg : PI) : PI := fun st =>
  if isP c st ⟨#[108, 111, 99, 97, 108]⟩ = true then (adv 1 st).bind fun s => (nameN c s).bind fun m => (wantP c ⟨#[61]⟩ m.2).bind fun s => (ex s).bind fun e => (wantP c ⟨#[59]⟩ e.2).bind fun s => nodeS 14 m.1 0 [e.1] s
  else if isP c st ⟨#[105, 102]⟩ = true then (adv 1 st).bind fun s => (ex s).bind fun e => (block e.2).bind fun b =>
    if isP c b.2 ⟨#[101, 108, 115, 101]⟩ = true then (adv 1 b.2).bind fun s => (block s).bind fun d => nodeS 17 E0 0 [e.1, b.1, d.1] d.2 else nodeS 17 E0 0 [e.1, b.1] b.2
  else if isP c st ⟨#[119, 104, 105, 108, 101]⟩ = true then (adv 1 st).bind fun s => (ex s).bind fun e => (block e.2).bind fun b => nodeS 18 E0 0 [e.1, b.1] b.2
  else if isP c st ⟨#[114, 101, 116, 117, 114, 110]⟩ = true then (adv 1 st).bind fun s => (ex s).bind fun e => (wantP c ⟨#[59]⟩ e.2).bind fun s => nodeS 19 E0 0 [e.1] s
  else asg st
/-- The reference's parser's functions by their numbers; 1760 and a level: expressions of that level. -/
def sp : Nat → Nat → PI
  | 0, _, _ => none
  | D + 1, k, st => if D < 30 then none else
    if k = 137 then exprS c (sp D 1761) st
    else if k = 1767 then sp D 197 st
    else if k = 197 then turnS c (sp D 197) (sp D 204) st
    else if k = 204 then suffixS c (sp D 222) (sp D 137) D st
    else if k = 222 then primaryS c (sp D 137) (sp D 233) (sp D 234) st
    else if k = 233 then fnS c (sp D 138) D st
    else if k = 234 then tableS c (sp D 239) D st
    else if k = 239 then fieldS c (sp D 137) st
    else if k = 138 then blockS c (sp D 82) D st
    else if k = 139 then assignS c (sp D 137) st
    else if k = 82 then stmtS c (sp D 137) (sp D 138) (sp D 139) st
    else if 1761 ≤ k ∧ k ≤ 1766 then levelS c ((k : Int) - 1760) (sp D (k + 1)) D st
    else none
def topS (stmt : PI) : Nat → List Int → PM
  | 0, _, _ => none
  | n + 1, ks, st => if st.code = 0 ∧ st.at' < c.toks.length then (stmt st).bind fun x => if ks.length > 1000000 then none else topS stmt n (ks ++ [x.1]) x.2 else some (ks, st)
end

/-- An answer and the state behind it. -/
def QA (c : PC) (h : AHeap) (rn : Option Nat) (v : Value) (st' : PSt) (o : Option (Value × AHeap)) : Prop := Qp c h rn o v st'
def Simq (c : PC) (D f : Nat) (m : PI) : Prop := ∀ (h : AHeap) (st : PSt) (rn : Option Nat) (a : Int) (st' : PSt), QH c h st rn → m st = some (a, st') → QA c h rn (.int .i64 a) st' (call Try.prog Ms D f [ptr c.p 0] h)
def Simv (c : PC) (D : Nat) (L : Int) (m : PI) : Prop := ∀ (h : AHeap) (st : PSt) (rn : Option Nat) (a : Int) (st' : PSt), QH c h st rn → m st = some (a, st') → QA c h rn (.int .i64 a) st' (call Try.prog Ms D 176 [ptr c.p 0, .int .i64 L] h)
theorem QS.new {c : PC} {h : AHeap} {st : PSt} {rn : Option Nat} (x : QH c h st rn) : QS c rn h st rn h := ⟨x, QK.refl rn h, PRN.refl rn h⟩
theorem fillA {kv : Value} (h : isCell kv = true) (k : Int) (ks : List Int) : aFill [.int .i64 0, .string ⟨#[]⟩, .int .i64 0, .slice none 0 0] [(0, 1, .int .i64 k), (3, 1, kv)] = some (knCells ⟨k, ⟨#[]⟩, 0, ks⟩ kv) := by
  simp [aFill, aCells_int, aCells_str, aCells_one h, splice, knCells]
theorem fillB {kv : Value} (h : isCell kv = true) (k i : Int) (ks : List Int) : aFill [.int .i64 0, .string ⟨#[]⟩, .int .i64 0, .slice none 0 0] [(0, 1, .int .i64 k), (2, 1, .int .i64 i), (3, 1, kv)] = some (knCells ⟨k, ⟨#[]⟩, i, ks⟩ kv) := by
  simp [aFill, aCells_int, aCells_str, aCells_one h, splice, knCells]
theorem fillC {kv : Value} (h : isCell kv = true) (k : Int) (t : ByteArray) (ks : List Int) : aFill [.int .i64 0, .string ⟨#[]⟩, .int .i64 0, .slice none 0 0] [(0, 1, .int .i64 k), (1, 1, .string t), (3, 1, kv)] = some (knCells ⟨k, t, 0, ks⟩ kv) := by
  simp [aFill, aCells_int, aCells_str, aCells_one h, splice, knCells]
section
variable {P : Option (Value × AHeap) → Prop} {c : PC} {rn0 rn : Option Nat} {h0 h : AHeap} {st st' : PSt} {D : Nat} {k i r : Int} {t : ByteArray} {ks : List Int} {kv : Value} {K : Value × AHeap → Int → Option (Value × AHeap)}
theorem nodA (w : QS c rn0 h0 st rn h) (hD : 1 ≤ D) (l : KidH h kv ks) (e : nodeS k E0 0 ks st = some (r, st')) (hk : ∀ g rn', QS c rn0 h0 st' rn' g → QK rn h g → PRN rn rn' h → P (K (.int .i64 r, g) r)) :
    P ((aFill [.int .i64 0, .string ⟨#[]⟩, .int .i64 0, .slice none 0 0] [(0, 1, .int .i64 k), (3, 1, kv)]).bind fun cs => (call Try.prog Ms D 83 [ptr c.p 0, .agg (List.toArray cs)] h).bind fun r => (asI .i64 r.1).bind fun n => K r n) :=
  pb (fillA l.cell k ks) (calS w (q83 hD w.ph l e) hk)
theorem nodB (w : QS c rn0 h0 st rn h) (hD : 1 ≤ D) (l : KidH h kv ks) (e : nodeS k E0 i ks st = some (r, st')) (hk : ∀ g rn', QS c rn0 h0 st' rn' g → QK rn h g → PRN rn rn' h → P (K (.int .i64 r, g) r)) :
    P ((aFill [.int .i64 0, .string ⟨#[]⟩, .int .i64 0, .slice none 0 0] [(0, 1, .int .i64 k), (2, 1, .int .i64 i), (3, 1, kv)]).bind fun cs => (call Try.prog Ms D 83 [ptr c.p 0, .agg (List.toArray cs)] h).bind fun r => (asI .i64 r.1).bind fun n => K r n) :=
  pb (fillB l.cell k i ks) (calS w (q83 hD w.ph l e) hk)
theorem nodC (w : QS c rn0 h0 st rn h) (hD : 1 ≤ D) (l : KidH h kv ks) (e : nodeS k t 0 ks st = some (r, st')) (hk : ∀ g rn', QS c rn0 h0 st' rn' g → QK rn h g → PRN rn rn' h → P (K (.int .i64 r, g) r)) :
    P ((aFill [.int .i64 0, .string ⟨#[]⟩, .int .i64 0, .slice none 0 0] [(0, 1, .int .i64 k), (1, 1, .string t), (3, 1, kv)]).bind fun cs => (call Try.prog Ms D 83 [ptr c.p 0, .agg (List.toArray cs)] h).bind fun r => (asI .i64 r.1).bind fun n => K r n) :=
  pb (fillC l.cell k t ks) (calS w (q83 hD w.ph l e) hk)
theorem nodL (w : QS c rn0 h0 st rn h) (hD : 1 ≤ D) (e : nodeS k t i [] st = some (r, st')) (hk : ∀ g rn', QS c rn0 h0 st' rn' g → QK rn h g → PRN rn rn' h → P (K (.int .i64 r, g) r)) :
    P ((call Try.prog Ms D 83 [ptr c.p 0, .agg (List.toArray [.int .i64 k, .string t, .int .i64 i, .slice none 0 0])] h).bind fun r => (asI .i64 r.1).bind fun n => K r n) :=
  calS w (q83 (ks := []) (kv := .slice none 0 0) hD w.ph (.inl ⟨rfl, rfl⟩) e) hk
/-- The end. -/
theorem QA.fin {c : PC} {h g : AHeap} {rn r1 : Option Nat} {v : Value} {st' : PSt} (w : QS c rn h st' r1 g) : QA c h rn v st' (some (v, g)) := ⟨g, r1, rfl, w⟩
end
section
variable {c : PC} {D : Nat}
theorem s137 {lv : PI} (hD : 2 ≤ D) (hs : Simv c D 1 lv) : Simq c (D + 1) 137 (exprS c lv) := by
  intro h st rn a st' x hp
  have w := QS.new x
  rw [c137, e137]
  unfold exprS at hp
  obtain ⟨⟨b, s1⟩, e1, hp⟩ := bnd hp
  refine calB w (q175 hD x e1) fun g1 r1 w1 k1 n1 => ?_
  cases b with
  | false => cases hp; exact pct rfl (QA.fin w1)
  | true =>
    obtain ⟨⟨a1, s2⟩, e2, hp⟩ := bnd hp
    obtain ⟨s3, e3, hp⟩ := bnd hp
    cases hp
    refine pcf rfl (calS w1 (hs _ _ _ _ _ w1.ph e2) fun g2 r2 w2 k2 n2 => ?_)
    exact decS w2 e3 fun g3 w3 k3 => QA.fin w3
theorem turn_t {t : Int} {self : PI} (hD : 2 ≤ D) (hs : Simq c D 197 self) {h0 h : AHeap} {st st' : PSt} {rn0 rn : Option Nat} {a : Int} (w : QS c rn0 h0 st rn h) (hp : turnT c t self st = some (a, st')) :
    QA c h0 rn0 (.int .i64 a) st' (s197_0 hk0 (call Try.prog Ms D) D (ptr c.p 0) t h) := by
  rw [s197_0_j, s197_0_eq]
  unfold turnT at hp
  obtain ⟨⟨b, s1⟩, e1, hp⟩ := bnd hp
  refine calB w (q175 hD w.ph e1) fun g1 r1 w1 k1 n1 => ?_
  cases b with
  | false => cases hp; exact pct rfl (QA.fin w1)
  | true =>
    obtain ⟨s2, e2, hp⟩ := bnd hp
    obtain ⟨⟨a3, s3⟩, e3, hp⟩ := bnd hp
    obtain ⟨s4, e4, hp⟩ := bnd hp
    refine pcf rfl (incS w1 e2 fun g2 w2 k2 => ?_)
    refine calS w2 (hs _ _ _ _ _ w2.ph e3) fun g3 r3 w3 k3 n3 => ?_
    refine decS w3 e4 fun g4 w4 k4 => ?_
    refine rowS [a3] w4 rfl rfl fun g5 v5 rt w5 l5 k5 _ => ?_
    exact nodB w5 (by omega) l5.kid hp fun g6 r6 w6 _ _ => QA.fin w6
theorem s197 {self suf : PI} (hD : 2 ≤ D) (hs : Simq c D 197 self) (hf : Simq c D 204 suf) : Simq c (D + 1) 197 (turnS c self suf) := by
  intro h st rn a st' x hp
  have w := QS.new x
  rw [c197, e197]
  unfold turnS at hp
  refine calB w (q134 (by omega) x) fun g1 r1 w1 k1 n1 => ?_
  by_cases i1 : isP c st ⟨#[45]⟩ = true
  · rw [if_pos i1] at hp; exact pct i1 (turn_t hD hs w1 hp)
  rw [if_neg i1] at hp
  refine pcf (by simpa using i1) (calB w1 (q134 (by omega) w1.ph) fun g2 r2 w2 k2 n2 => ?_)
  by_cases i2 : isP c st ⟨#[110, 111, 116]⟩ = true
  · rw [if_pos i2] at hp; exact pct i2 (turn_t hD hs w2 hp)
  rw [if_neg i2] at hp
  refine pcf (by simpa using i2) (calB w2 (q134 (by omega) w2.ph) fun g3 r3 w3 k3 n3 => ?_)
  by_cases i3 : isP c st ⟨#[35]⟩ = true
  · rw [if_pos i3] at hp; exact pct i3 (turn_t hD hs w3 hp)
  rw [if_neg i3] at hp
  exact pcf (by simpa using i3) (calS w3 (hf _ _ _ _ _ w3.ph hp) fun g4 r4 w4 _ _ => QA.fin w4)
theorem call_loop {ex : PI} {N n1 : Nat} (hD : 2 ≤ D) (hs : Simq c D 137 ex) {h0 : AHeap} {rn0 : Option Nat} {rt : Nat} (hrt : h0.size ≤ rt) {P : Option (Value × AHeap) → Prop} :
    ∀ (n m : Nat) (ks : List Int) (v : Value) (h : AHeap) (st : PSt) (rn : Option Nat) (l : List Int) (st' : PSt), n ≤ m → QS c rn0 h0 st rn h → PLI h v ks rt → callLoop c ex n ks st = some (l, st') →
    (∀ g rn' v' s2, wantP c ⟨#[41]⟩ st' = some s2 → QS c rn0 h0 s2 rn' g → PLI g v' l rt → P ((aFill [.int .i64 0, .string ⟨#[]⟩, .int .i64 0, .slice none 0 0] [(0, 1, .int .i64 9), (3, 1, v')]).bind fun c60 => (call Try.prog Ms D 83 [ptr c.p 0, .agg (List.toArray c60)] g).bind fun r61 => (asI .i64 r61.1).bind fun n62 => s204_0 hk0 (call Try.prog Ms D) N n1 (ptr c.p 0) n62 r61.2)) →
    (∃ s2, wantP c ⟨#[41]⟩ st' = some s2) → P (s204_1 hk0 (call Try.prog Ms D) N n1 m (ptr c.p 0) v h) := by
  intro n
  induction n with
  | zero => intro m ks v h st rn l st' hm w li hp; cases hp
  | succ n ih =>
    intro m ks v h st rn l st' hm w li hp hk hw
    obtain ⟨m, rfl⟩ : ∃ q, m = q + 1 := ⟨m - 1, by omega⟩
    rw [s204_1_eq]
    rw [callLoop] at hp
    refine codS w ?_
    by_cases hc : st.code = 0
    · refine pct (by simp [hc]) (calB w (q134 (by omega) w.ph) fun g1 r1 w1 k1 n1' => ?_)
      by_cases hi : isP c st ⟨#[41]⟩ = false
      · rw [if_pos ⟨hc, hi⟩] at hp
        obtain ⟨s2, e2, hp⟩ := bnd hp
        obtain ⟨⟨a3, s3⟩, e3, hp⟩ := bnd hp
        by_cases hb : ks.length > 1000000
        · rw [if_pos hb] at hp; cases hp
        rw [if_neg hb] at hp
        have fin : ∀ g r, QS c rn0 h0 s2 r g → PLI g v ks rt → P (s204_3 hk0 (call Try.prog Ms D) N n1 m (ptr c.p 0) v g) := fun g r w2 l2 => by
          rw [s204_3_j, s204_3_eq]
          refine calS w2 (hs _ _ _ _ _ w2.ph e3) fun g3 r3 w3 k3 n3 => ?_
          refine pushS w3 (l2.qk k3) hrt (by omega) fun g4 v4 w4 l4 _ => ?_
          exact ih m (ks ++ [a3]) v4 g4 s3 r3 l st' (by omega) w4 l4 hp hk hw
        refine pct (by simp [hi]) ?_
        rw [s204_2_j, s204_2_eq]
        refine pb li.kid.len (pb rfl ?_)
        by_cases h1 : ks.length > 1
        · rw [if_pos h1] at e2
          refine pct (decide_eq_true (by omega)) (calU w1 (q136 hD w1.ph e2) fun g2 r2 w2 k2 _ => ?_)
          exact fin g2 r2 w2 ((li.qk k1).qk k2)
        · rw [if_neg h1] at e2; cases e2
          exact pcf (decide_eq_false (by omega)) (fin g1 r1 w1 (li.qk k1))
      · rw [if_neg (fun z => hi z.2)] at hp
        cases hp
        obtain ⟨s2, e2⟩ := hw
        refine pcf (by simpa using hi) (calU w1 (q136 hD w1.ph e2) fun g2 r2 w2 k2 _ => ?_)
        exact hk g2 r2 v s2 e2 w2 ((li.qk k1).qk k2)
    · rw [if_neg (fun z => hc z.1)] at hp
      cases hp
      obtain ⟨s2, e2⟩ := hw
      refine pcf (by simpa using hc) (calU w (q136 hD w.ph e2) fun g2 r2 w2 k2 _ => ?_)
      exact hk g2 r2 v s2 e2 w2 (li.qk k2)
theorem suf_loop {ex : PI} {N : Nat} (hD : 2 ≤ D) (hs : Simq c D 137 ex) {h0 : AHeap} {rn0 : Option Nat} : ∀ (n m : Nat) (a : Int) (h : AHeap) (st : PSt) (rn : Option Nat) (q : Int) (st' : PSt), n ≤ m → QS c rn0 h0 st rn h → sufLoop c ex N n a st = some (q, st') →
    QA c h0 rn0 (.int .i64 q) st' (s204_0 hk0 (call Try.prog Ms D) N m (ptr c.p 0) a h) := by
  intro n
  induction n with
  | zero => intro m a h st rn q st' hm w hp; cases hp
  | succ n ih =>
    intro m a h st rn q st' hm w hp
    obtain ⟨m, rfl⟩ : ∃ q, m = q + 1 := ⟨m - 1, by omega⟩
    rw [s204_0_eq]
    rw [sufLoop] at hp
    refine codS w ?_
    by_cases hc : st.code = 0
    · rw [if_pos hc] at hp
      refine pct (by simp [hc]) (calB w (q134 (by omega) w.ph) fun g1 r1 w1 k1 _ => ?_)
      by_cases i1 : isP c st ⟨#[40]⟩ = true
      · rw [if_pos i1] at hp
        obtain ⟨s2, e2, hp⟩ := bnd hp
        obtain ⟨⟨l3, s3⟩, e3, hp⟩ := bnd hp
        obtain ⟨s4, e4, hp⟩ := bnd hp
        obtain ⟨⟨a5, s5⟩, e5, hp⟩ := bnd hp
        refine pct i1 (incS w1 e2 fun g2 w2 k2 => ?_)
        refine rowS [a] w2 rfl rfl fun g3 v3 rt w3 l3' k3 hr => ?_
        refine call_loop hD hs (Nat.le_trans w2.fr.1 hr) N N [a] v3 g3 s2 r1 l3 s3 (Nat.le_refl _) w3 l3' e3 (fun g r v' s2' e' w' l' => ?_) ⟨s4, e4⟩
        obtain rfl : s4 = s2' := by rw [e4] at e'; exact Option.some.inj e'
        exact nodA w' (by omega) l'.kid e5 fun g6 r6 w6 _ _ => ih m a5 g6 s5 r6 q st' (by omega) w6 hp
      rw [if_neg i1] at hp
      refine pcf (by simpa using i1) (calB w1 (q134 (by omega) w1.ph) fun g2 r2 w2 k2 _ => ?_)
      by_cases i2 : isP c st ⟨#[91]⟩ = true
      · rw [if_pos i2] at hp
        obtain ⟨s3, e3, hp⟩ := bnd hp
        obtain ⟨⟨a4, s4⟩, e4, hp⟩ := bnd hp
        obtain ⟨s5, e5, hp⟩ := bnd hp
        obtain ⟨⟨a6, s6⟩, e6, hp⟩ := bnd hp
        refine pct i2 (incS w2 e3 fun g3 w3 k3 => ?_)
        refine calS w3 (hs _ _ _ _ _ w3.ph e4) fun g4 r4 w4 _ _ => ?_
        refine calU w4 (q136 hD w4.ph e5) fun g5 r5 w5 _ _ => ?_
        refine rowS [a, a4] w5 rfl rfl fun g6 v6 rt w6 l6 _ _ => ?_
        exact nodA w6 (by omega) l6.kid e6 fun g7 r7 w7 _ _ => ih m a6 g7 s6 r7 q st' (by omega) w7 hp
      rw [if_neg i2] at hp
      refine pcf (by simpa using i2) (calB w2 (q134 (by omega) w2.ph) fun g3 r3 w3 k3 _ => ?_)
      by_cases i3 : isP c st ⟨#[46]⟩ = true
      · rw [if_pos i3] at hp
        obtain ⟨s4, e4, hp⟩ := bnd hp
        obtain ⟨⟨t5, s5⟩, e5, hp⟩ := bnd hp
        obtain ⟨⟨a6, s6⟩, e6, hp⟩ := bnd hp
        obtain ⟨⟨a7, s7⟩, e7, hp⟩ := bnd hp
        refine pct i3 (incS w3 e4 fun g4 w4 k4 => ?_)
        refine calT w4 (q135 hD w4.ph e5) fun g5 r5 w5 _ _ => ?_
        refine nodL w5 (by omega) e6 fun g6 r6 w6 _ _ => ?_
        refine rowS [a, a6] w6 rfl rfl fun g7 v7 rt w7 l7 _ _ => ?_
        exact nodA w7 (by omega) l7.kid e7 fun g8 r8 w8 _ _ => ih m a7 g8 s7 r8 q st' (by omega) w8 hp
      rw [if_neg i3] at hp
      cases hp
      exact pcf (by simpa using i3) (QA.fin w3)
    · rw [if_neg hc] at hp; cases hp
      exact pcf (by simpa using hc) (QA.fin w)
theorem s204 {prim ex : PI} (hD : 2 ≤ D) (hr : Simq c D 222 prim) (hs : Simq c D 137 ex) : Simq c (D + 1) 204 (suffixS c prim ex D) := by
  intro h st rn a st' x hp
  have w := QS.new x
  rw [c204, e204]
  unfold suffixS at hp
  obtain ⟨⟨a1, s1⟩, e1, hp⟩ := bnd hp
  refine calS w (hr _ _ _ _ _ x e1) fun g1 r1 w1 _ _ => ?_
  exact suf_loop hD hs D D a1 g1 s1 r1 a st' (Nat.le_refl _) w1 hp
end
end Go.Proofs.Ytadmoackacickaa
/- The reference's parser: levels, primaries, functions, tables. -/
set_option linter.unusedSimpArgs false
namespace Go.Proofs.Ytadmoackacickaa
open Go Go.AH

section
variable {c : PC} {D : Nat}
def opNames : List ByteArray := [⟨#[]⟩, ⟨#[43]⟩, ⟨#[45]⟩, ⟨#[42]⟩, ⟨#[47]⟩, ⟨#[37]⟩, ⟨#[46, 46]⟩, ⟨#[61, 61]⟩, ⟨#[126, 61]⟩, ⟨#[60]⟩, ⟨#[60, 61]⟩]
def opLevels : List Int := [0, 5, 5, 6, 6, 6, 4, 3, 3, 3, 3]
theorem q171 (hD : 1 ≤ D) (h : AHeap) : call Try.prog Ms D 171 [] h = some (slc h.size 0 11, h.new 9 (strs opNames)) := by
  obtain ⟨D, rfl⟩ : ∃ d, D = d + 1 := ⟨D - 1, by omega⟩
  rw [c171, e171]; rfl
theorem q205 (hD : 1 ≤ D) (h : AHeap) : call Try.prog Ms D 205 [] h = some (slc h.size 0 11, h.new 3 (ints opLevels)) := by
  obtain ⟨D, rfl⟩ : ∃ d, D = d + 1 := ⟨D - 1, by omega⟩
  rw [c205, e205]; rfl
theorem ops_at : ∀ j, j < 10 → (opLevels[j + 1]?).getD 0 = ((opsL[j]?).getD (0, ⟨#[]⟩)).1 ∧ (opNames[j + 1]?).getD ⟨#[]⟩ = ((opsL[j]?).getD (0, ⟨#[]⟩)).2 := by decide
theorem op_loop2 {N i1 i2 : Nat} {L : Int} (hD : 1 ≤ D) {h0 : AHeap} {rn0 : Option Nat} {st : PSt} : ∀ (n j m : Nat) (h : AHeap) (rn : Option Nat), 10 - j = n → j ≤ 10 → n < m → QS c rn0 h0 st rn h → RowE h i1 9 (strs opNames) → RowE h i2 3 (ints opLevels) →
    QA c h0 rn0 (.int .i64 (opGo c L (opsL.drop j) (j + 1) st)) st (s198_0 hk0 (call Try.prog Ms D) N m (ptr c.p 0) L (slc i1 0 11) (slc i2 0 11) ((j + 1 : Nat) : Int) h) := by
  intro n
  induction n with
  | zero =>
    intro j m h rn hn hj hm w r1 r2
    obtain ⟨m, rfl⟩ : ∃ q, m = q + 1 := ⟨m - 1, by omega⟩
    obtain rfl : j = 10 := by omega
    rw [s198_0_eq]
    exact pcf (decide_eq_false (by omega)) (QA.fin w)
  | succ n ih =>
    intro j m h rn hn hj hm w r1 r2
    obtain ⟨m, rfl⟩ : ∃ q, m = q + 1 := ⟨m - 1, by omega⟩
    have wj : IntKind.i64.wrap (((j + 1 : Nat) : Int) + 1) = ((j + 1 + 1 : Nat) : Int) := by rw [wr (by omega) (by omega)]; omega
    have hlt : j < opsL.length := by show j < 10; omega
    obtain ⟨o1, o2⟩ := ops_at j (by omega)
    have l1 : j + 1 < opLevels.length := by show j + 1 < 11; omega
    have l2 : j + 1 < opNames.length := by show j + 1 < 11; omega
    rw [List.getElem?_eq_getElem l1, List.getElem?_eq_getElem hlt] at o1
    rw [List.getElem?_eq_getElem l2, List.getElem?_eq_getElem hlt] at o2
    have o1' : opLevels[j + 1] = opsL[j].1 := o1
    have o2' : opNames[j + 1] = opsL[j].2 := o2
    have a1 : aIdx (slc i2 0 11) (.int .i64 ((j + 1 : Nat) : Int)) 1 = some (ptr i2 (j + 1)) := by simp [aIdx, slc]; omega
    have a2 : aIdx (slc i1 0 11) (.int .i64 ((j + 1 : Nat) : Int)) 1 = some (ptr i1 (j + 1)) := by simp [aIdx, slc]; omega
    have b1 : aLd1 h (ptr i2 (j + 1)) = some (.int .i64 opsL[j].1) := r2.row.ld1 (by rw [← o1', ints, List.getElem?_map, List.getElem?_eq_getElem l1]; rfl)
    have b2 : aLd1 h (ptr i1 (j + 1)) = some (.string opsL[j].2) := r1.row.ld1 (by rw [← o2', strs, List.getElem?_map, List.getElem?_eq_getElem l2]; rfl)
    rw [List.drop_eq_getElem_cons hlt, opGo, s198_0_eq]
    refine pct (decide_eq_true (by omega)) (pb a1 (pb b1 (pb rfl ?_)))
    by_cases hL : opsL[j].1 = L
    · refine pct (by simp [hL]) (pb a2 (pb b2 (pb rfl (calB w (q134 hD w.ph) fun g r w1 k1 n1 => ?_))))
      rw [s198_1_j, s198_1_eq, wj]
      by_cases hi : isP c st opsL[j].2 = true
      · rw [if_pos ⟨hL, hi⟩]
        exact pct hi (QA.fin w1)
      · rw [if_neg (fun z => hi z.2)]
        exact pcf (by simpa using hi) (ih (j + 1) m g r (by omega) (by omega) (by omega) w1 (r1.qk k1 (by decide) (by decide)) (r2.qk k1 (by decide) (by decide)))
    · rw [if_neg (fun z => hL z.1)]
      refine pcf (by simpa using hL) ?_
      rw [s198_1_j, s198_1_eq, wj]
      exact pcf rfl (ih (j + 1) m h rn (by omega) (by omega) (by omega) w r1 r2)
theorem q198 {L : Int} (hD : 20 ≤ D) {h : AHeap} {st : PSt} {rn : Option Nat} (x : QH c h st rn) : Qp c h rn (call Try.prog Ms D 198 [ptr c.p 0, .int .i64 L] h) (.int .i64 (opGo c L opsL 1 st)) st := by
  obtain ⟨D, rfl⟩ : ∃ d, D = d + 1 := ⟨D - 1, by omega⟩
  rw [c198, e198]
  have e1 := Ext.new (Nat.le_refl h.size) 9 (strs opNames)
  have r1 := RowE.new h 9 (strs opNames)
  have e2 := Ext.new (Nat.le_refl (h.new 9 (strs opNames)).size) 3 (ints opLevels)
  have r2 := RowE.new (h.new 9 (strs opNames)) 3 (ints opLevels)
  have w := ((QS.new x).ext e1).ext e2
  show QA c h rn _ st _
  refine pb (q171 (by omega) h) (pb (q205 (by omega) _) ?_)
  exact op_loop2 (by omega) 10 0 D _ rn (by omega) (by omega) (by omega) w (r1.ext' e2) r2
theorem lev_loop {L : Int} {sub : PI} (hD : 20 ≤ D) (hw : IntKind.i64.wrap (L + 1) = L + 1) (hs : Simv c D (L + 1) sub) {h0 : AHeap} {rn0 : Option Nat} : ∀ (n m : Nat) (a : Int) (h : AHeap) (st : PSt) (rn : Option Nat) (q : Int) (st' : PSt), n ≤ m → QS c rn0 h0 st rn h → levLoop c L sub n a st = some (q, st') →
    QA c h0 rn0 (.int .i64 q) st' (s176_0 hk0 (call Try.prog Ms D) D m (ptr c.p 0) L a h) := by
  intro n
  induction n with
  | zero => intro m a h st rn q st' hm w hp; cases hp
  | succ n ih =>
    intro m a h st rn q st' hm w hp
    obtain ⟨m, rfl⟩ : ∃ q, m = q + 1 := ⟨m - 1, by omega⟩
    rw [s176_0_eq]
    rw [levLoop] at hp
    refine codS w ?_
    by_cases hc : st.code = 0
    · rw [if_pos hc] at hp
      refine pct (by simp [hc]) ?_
      -- a node of a kind
      have fin : ∀ g r (k o : Int), k ≠ 0 → kindS c L st = (k, o) → QS c rn0 h0 st r g → QA c h0 rn0 (.int .i64 q) st' (s176_3 hk0 (call Try.prog Ms D) D m (ptr c.p 0) L a k o g) := fun g r k o hk0' hk w1 => by
        rw [hk] at hp
        dsimp only at hp
        rw [if_neg hk0'] at hp
        obtain ⟨s2, e2, hp⟩ := bnd hp
        obtain ⟨⟨a3, s3⟩, e3, hp⟩ := bnd hp
        obtain ⟨⟨a4, s4⟩, e4, hp⟩ := bnd hp
        rw [s176_3_j, s176_3_eq, hw]
        refine incS w1 e2 fun g2 w2 k2 => ?_
        refine calS w2 (hs _ _ _ _ _ w2.ph e3) fun g3 r3 w3 _ _ => ?_
        refine rowS [a, a3] w3 rfl rfl fun g4 v4 rt w4 l4 _ _ => ?_
        refine nodB w4 (by omega) l4.kid e4 fun g5 r5 w5 _ _ => ?_
        by_cases h3 : L = 3
        · rw [if_pos h3] at hp; cases hp
          exact pct (by simp [h3]) (QA.fin w5)
        · rw [if_neg h3] at hp
          exact pcf (by simpa using h3) (ih m a4 g5 s4 r5 q st' (by omega) w5 hp)
      have two : ∀ g r, (L = 1 → isP c st ⟨#[111, 114]⟩ = false) → QS c rn0 h0 st r g → QA c h0 rn0 (.int .i64 q) st' (s176_1 hk0 (call Try.prog Ms D) D m (ptr c.p 0) L a 10 0 false g) := fun g r n1 w1 => by
        rw [s176_1_j, s176_1_eq]
        refine pcf rfl ?_
        have three : ∀ g r, (L = 2 → isP c st ⟨#[97, 110, 100]⟩ = false) → QS c rn0 h0 st r g → QA c h0 rn0 (.int .i64 q) st' (s176_2 hk0 (call Try.prog Ms D) D m (ptr c.p 0) L a 10 0 false g) := fun g r n2 w2 => by
          rw [s176_2_j, s176_2_eq]
          refine pcf rfl (calS w2 (q198 (by omega) w2.ph) fun g3 r3 w3 _ _ => ?_)
          have hk : kindS c L st = if opGo c L opsL 1 st = 0 then (0, 0) else (10, opGo c L opsL 1 st) := by
            unfold kindS
            rw [if_neg (fun z => by rw [n1 z.1] at z; cases z.2), if_neg (fun z => by rw [n2 z.1] at z; cases z.2)]
          by_cases ho : opGo c L opsL 1 st = 0
          · rw [if_pos ho] at hk
            rw [hk] at hp
            rw [if_pos rfl] at hp; cases hp
            exact pct (by simp [ho]) (QA.fin w3)
          · rw [if_neg ho] at hk
            exact pcf (by simpa using ho) (fin g3 r3 10 _ (by decide) hk w3)
        by_cases h2 : L = 2
        · refine pct (by simp [h2]) (calB w1 (q134 (by omega) w1.ph) fun g2 r2 w2 _ _ => ?_)
          by_cases i2 : isP c st ⟨#[97, 110, 100]⟩ = true
          · rw [i2, s176_2_j, s176_2_eq]
            exact pct rfl (fin g2 r2 12 0 (by decide) (by unfold kindS; rw [if_neg (fun z => by omega), if_pos ⟨h2, i2⟩]) w2)
          · have i2' : isP c st ⟨#[97, 110, 100]⟩ = false := by simpa using i2
            rw [i2']; exact three g2 r2 (fun _ => i2') w2
        · exact pcf (by simpa using h2) (three g r (fun z => absurd z h2) w1)
      by_cases h1 : L = 1
      · refine pct (by simp [h1]) (calB w (q134 (by omega) w.ph) fun g1 r1 w1 _ _ => ?_)
        by_cases i1 : isP c st ⟨#[111, 114]⟩ = true
        · rw [i1, s176_1_j, s176_1_eq]
          exact pct rfl (fin g1 r1 13 0 (by decide) (by unfold kindS; rw [if_pos ⟨h1, i1⟩]) w1)
        · have i1' : isP c st ⟨#[111, 114]⟩ = false := by simpa using i1
          rw [i1']; exact two g1 r1 (fun _ => i1') w1
      · exact pcf (by simpa using h1) (two h rn (fun z => absurd z h1) w)
    · rw [if_neg hc] at hp; cases hp
      exact pcf (by simpa using hc) (QA.fin w)
theorem s176 {L : Int} {sub : PI} (hD : 20 ≤ D) (h7 : L ≠ 7) (hw : IntKind.i64.wrap (L + 1) = L + 1) (hs : Simv c D (L + 1) sub) : Simv c (D + 1) L (levelS c L sub D) := by
  intro h st rn a st' x hp
  have w := QS.new x
  rw [c176, e176, hw]
  unfold levelS at hp
  obtain ⟨⟨a1, s1⟩, e1, hp⟩ := bnd hp
  refine pcf (by simpa using h7) (calS w (hs _ _ _ _ _ x e1) fun g1 r1 w1 _ _ => ?_)
  exact lev_loop hD hw hs D D a1 g1 s1 r1 a st' (Nat.le_refl _) w1 hp
theorem s1767 {t : PI} (hs : Simq c D 197 t) : Simv c (D + 1) 7 t := by
  intro h st rn a st' x hp
  rw [c176, e176]
  exact pct rfl (calS (QS.new x) (hs _ _ _ _ _ x hp) fun g1 r1 w1 _ _ => QA.fin w1)
/-- The token that was taken. -/
theorem tokS {P : Option (Value × AHeap) → Prop} {rn0 rn : Option Nat} {h0 h g : AHeap} {st s2 : PSt} (w : QS c rn0 h0 s2 rn g) (hc : st.code = 0) (hl : st.at' < c.toks.length) (ha : adv 1 st = some s2) :
    ∃ i o, aLd1 g (ptr c.p 0) = some c.tv ∧ aLd1 g (ptr c.p 1) = some (.int .i64 s2.at') ∧ IntKind.i64.wrap ((s2.at' : Int) - 1) = (st.at' : Int) ∧ aIdx c.tv (.int .i64 (st.at' : Int)) 4 = some (ptr i o) ∧ aLd1 g (ptr i (o + 2)) = some (.string (pk c st).text) ∧ aLd1 g (ptr i (o + 3)) = some (.int .i64 (pk c st).i) := by
  obtain ⟨nv, _, f0, f1, _⟩ := w.ph.ld
  obtain ⟨_, _, tk, _⟩ := w.ph
  obtain ⟨i, o, b1, _, _, _, b2, b3⟩ := tk.fld hl
  unfold adv at ha
  by_cases hb : st.at' + 1 ≤ 1000000
  · rw [if_pos hb] at ha
    obtain rfl := Option.some.inj ha
    rw [pk_at hc hl]
    exact ⟨i, o, f0, f1, by show IntKind.i64.wrap (((st.at' + 1 : Nat) : Int) - 1) = _; rw [wr (by omega) (by omega)]; omega, b1, b2, b3⟩
  · rw [if_neg hb] at ha; cases ha
theorem pk_live {st : PSt} (h : (pk c st).k ≠ 0) : st.code = 0 ∧ st.at' < c.toks.length := by
  have hc : st.code = 0 := by
    apply Decidable.byContradiction
    intro h0; exact h (pk_dead h0)
  refine ⟨hc, ?_⟩
  apply Decidable.byContradiction
  intro h0; exact h (by rw [pk_end hc (by omega)])
theorem s222 {ex fn table : PI} (hD : 2 ≤ D) (hs : Simq c D 137 ex) (hf : Simq c D 233 fn) (ht : Simq c D 234 table) : Simq c (D + 1) 222 (primaryS c ex fn table) := by
  intro h st rn a st' x hp
  have w := QS.new x
  rw [c222, e222]
  unfold primaryS at hp
  refine calS w (q173 (by omega) x) fun g1 r1 w1 _ _ => ?_
  by_cases k3 : (pk c st).k = 3
  · rw [if_pos k3] at hp
    obtain ⟨hc, hl⟩ := pk_live (c := c) (st := st) (by omega)
    obtain ⟨s2, e2, hp⟩ := bnd hp
    refine pct (by simp [k3]) (incS w1 e2 fun g2 w2 _ => ?_)
    obtain ⟨i, o, f0, f1, wj, b1, _, b3⟩ := tokS (P := QA c h rn (.int .i64 a) st') (h := h) w2 hc hl e2
    refine pb rfl (pb rfl (pb f0 (pb rfl (pb rfl (pb f1 (pb rfl (pb (v := ptr i o) (by rw [wj]; exact b1) (pb rfl (pb b3 (pb rfl ?_))))))))))
    exact nodL w2 (by omega) hp fun g3 r3 w3 _ _ => QA.fin w3
  rw [if_neg k3] at hp
  refine pcf (by simpa using k3) ?_
  by_cases k4 : (pk c st).k = 4
  · rw [if_pos k4] at hp
    obtain ⟨hc, hl⟩ := pk_live (c := c) (st := st) (by omega)
    obtain ⟨s2, e2, hp⟩ := bnd hp
    refine pct (by simp [k4]) (incS w1 e2 fun g2 w2 _ => ?_)
    obtain ⟨i, o, f0, f1, wj, b1, b2, _⟩ := tokS (P := QA c h rn (.int .i64 a) st') (h := h) w2 hc hl e2
    refine pb rfl (pb rfl (pb f0 (pb rfl (pb rfl (pb f1 (pb rfl (pb (v := ptr i o) (by rw [wj]; exact b1) (pb rfl (pb b2 (pb rfl ?_))))))))))
    exact nodL w2 (by omega) hp fun g3 r3 w3 _ _ => QA.fin w3
  rw [if_neg k4] at hp
  refine pcf (by simpa using k4) ?_
  by_cases k1 : (pk c st).k = 1
  · rw [if_pos k1] at hp
    obtain ⟨⟨t2, s2⟩, e2, hp⟩ := bnd hp
    refine pct (by simp [k1]) (calT w1 (q135 hD w1.ph e2) fun g2 r2 w2 _ _ => ?_)
    exact nodL w2 (by omega) hp fun g3 r3 w3 _ _ => QA.fin w3
  rw [if_neg k1] at hp
  refine pcf (by simpa using k1) (calB w1 (q134 (by omega) w1.ph) fun g2 r2 w2 _ _ => ?_)
  by_cases i1 : isP c st ⟨#[110, 105, 108]⟩ = true
  · rw [if_pos i1] at hp
    obtain ⟨s3, e3, hp⟩ := bnd hp
    exact pct i1 (incS w2 e3 fun g3 w3 _ => nodL w3 (by omega) hp fun g4 r4 w4 _ _ => QA.fin w4)
  rw [if_neg i1] at hp
  refine pcf (by simpa using i1) (calB w2 (q134 (by omega) w2.ph) fun g3 r3 w3 _ _ => ?_)
  by_cases i2 : isP c st ⟨#[116, 114, 117, 101]⟩ = true
  · rw [if_pos i2] at hp
    obtain ⟨s3, e3, hp⟩ := bnd hp
    exact pct i2 (incS w3 e3 fun g3 w3 _ => nodL w3 (by omega) hp fun g4 r4 w4 _ _ => QA.fin w4)
  rw [if_neg i2] at hp
  refine pcf (by simpa using i2) (calB w3 (q134 (by omega) w3.ph) fun g4 r4 w4 _ _ => ?_)
  by_cases i3 : isP c st ⟨#[102, 97, 108, 115, 101]⟩ = true
  · rw [if_pos i3] at hp
    obtain ⟨s3, e3, hp⟩ := bnd hp
    exact pct i3 (incS w4 e3 fun g3 w3 _ => nodL w3 (by omega) hp fun g4 r4 w4 _ _ => QA.fin w4)
  rw [if_neg i3] at hp
  refine pcf (by simpa using i3) (calB w4 (q134 (by omega) w4.ph) fun g5 r5 w5 _ _ => ?_)
  by_cases i4 : isP c st ⟨#[102, 110]⟩ = true
  · rw [if_pos i4] at hp
    obtain ⟨s3, e3, hp⟩ := bnd hp
    exact pct i4 (incS w5 e3 fun g3 w3 _ => calS w3 (hf _ _ _ _ _ w3.ph hp) fun g4 r4 w4 _ _ => QA.fin w4)
  rw [if_neg i4] at hp
  refine pcf (by simpa using i4) (calB w5 (q134 (by omega) w5.ph) fun g6 r6 w6 _ _ => ?_)
  by_cases i5 : isP c st ⟨#[123]⟩ = true
  · rw [if_pos i5] at hp
    obtain ⟨s3, e3, hp⟩ := bnd hp
    exact pct i5 (incS w6 e3 fun g3 w3 _ => calS w3 (ht _ _ _ _ _ w3.ph hp) fun g4 r4 w4 _ _ => QA.fin w4)
  rw [if_neg i5] at hp
  refine pcf (by simpa using i5) (calB w6 (q134 (by omega) w6.ph) fun g7 r7 w7 _ _ => ?_)
  by_cases i6 : isP c st ⟨#[40]⟩ = true
  · rw [if_pos i6] at hp
    obtain ⟨s3, e3, hp⟩ := bnd hp
    obtain ⟨⟨a4, s4⟩, e4, hp⟩ := bnd hp
    obtain ⟨s5, e5, hp⟩ := bnd hp
    cases hp
    exact pct i6 (incS w7 e3 fun g3 w3 _ => calS w3 (hs _ _ _ _ _ w3.ph e4) fun g4 r4 w4 _ _ => calU w4 (q136 hD w4.ph e5) fun g5 r5 w5 _ _ => QA.fin w5)
  rw [if_neg i6] at hp
  cases hp
  exact pcf (by simpa using i6) (calS w7 (q174 (by omega) w7.ph) fun g8 r8 w8 _ _ => QA.fin w8)
end
end Go.Proofs.Ytadmoackacickaa
set_option linter.unusedVariables false
namespace Go.Proofs.Ytadmoackacickaa
open Go Go.AH
/-! 161 loop.example/g00101/spec.l10Num -/
/-! 162 loop.example/g00101/spec.l1Byte -/
/-! 189 loop.example/g00101/spec.l10New -/
/-! 190 loop.example/g00101/spec.l10Str -/
/-! 191 loop.example/g00101/spec.l10Tab -/
/-! 192 loop.example/g00101/spec.l10Of -/
/-! 193 loop.example/g00101/spec.l10Any -/
/-! 194 loop.example/g00101/spec.l10Bool -/
/-! 195 loop.example/g00101/spec.l10BlockText -/
/-! 12 loop.example/g00101/laws.FnExactParse -/
noncomputable def F12_0 (hk : Hk (Value × AHeap)) (C : ACall) (N : Nat) : Nx (Value × AHeap) := evSt hk Try.prog C M12 N Try.f12 [1, 1, 1, 1, 0, 1] []
noncomputable def s12_0 (hk : Hk (Value × AHeap)) (C : ACall) (N : Nat) (x0 : ByteArray) (x3 : Value) (x4 : Int) (x5 : Int) (x6 : Value) (x42 : Bool) (h : AHeap) := hk 100006 (⟨82, [(0, .string x0), (3, x3), (4, .int .i64 x4), (5, .int .i64 x5), (6, x6), (42, .bool x42)]⟩) h (F12_0 hk C N)
noncomputable def F12_1 (hk : Hk (Value × AHeap)) (C : ACall) (N : Nat) : Nx (Value × AHeap) := evSt hk Try.prog C M12 N Try.f12 [1, 1, 1, 1, 1] []
noncomputable def s12_1 (hk : Hk (Value × AHeap)) (C : ACall) (N : Nat) (x0 : ByteArray) (x3 : Value) (x4 : Int) (x5 : Int) (x6 : Value) (h : AHeap) := hk 7 (⟨82, [(0, .string x0), (3, x3), (4, .int .i64 x4), (5, .int .i64 x5), (6, x6)]⟩) h (F12_1 hk C N)
noncomputable def F12_2 (hk : Hk (Value × AHeap)) (C : ACall) (N : Nat) : Nx (Value × AHeap) := evSt hk Try.prog C M12 N Try.f12 [1, 1, 1, 1, 1, 1, 1, 1, 1, 1, 1, 1, 0, 1] []
noncomputable def s12_2 (hk : Hk (Value × AHeap)) (C : ACall) (N : Nat) (x6 : Value) (x9 : Int) (x73 : Bool) (h : AHeap) := hk 100017 (⟨82, [(6, x6), (9, .int .i64 x9), (73, .bool x73)]⟩) h (F12_2 hk C N)
noncomputable def F12_3 (hk : Hk (Value × AHeap)) (C : ACall) (N : Nat) : Nx (Value × AHeap) := evSt hk Try.prog C M12 N Try.f12 [1, 1, 1, 1, 1, 1, 1, 1, 1, 1, 1, 1, 1] []
noncomputable def s12_3 (hk : Hk (Value × AHeap)) (C : ACall) (N : Nat) (x6 : Value) (x9 : Int) (h : AHeap) := hk 18 (⟨82, [(6, x6), (9, .int .i64 x9)]⟩) h (F12_3 hk C N)
theorem e12 (hk : Hk (Value × AHeap)) (C : ACall) (N : Nat) (x0 : ByteArray) (h : AHeap) : evFn hk Try.prog C M12 N Try.f12 [.string x0] h =
    bif decide ((ByteArray.size x0 : Int) > 1048576) then some (.bool true, h) else (C 47 [.string x0] h).bind fun r1 => (aExt r1.1 0).bind fun v2 => (aExt r1.1 1).bind fun v3 => (asI .i64 v3).bind fun n4 => (aExt r1.1 2).bind fun v5 => (asI .i64 v5).bind fun n6 => aNew r1.2 35 [.slice none 0 0, .int .i64 0] fun p7 h8 => (aSt h8 p7 v2 2).bind fun h9 => (C 28 [.string x0] h9).bind fun r10 => (aExt r10.1 0).bind fun v11 => (aExt r10.1 1).bind fun v12 => (asI .i64 v12).bind fun n13 => (aExt r10.1 2).bind fun v14 => (asI .i64 v14).bind fun n15 => aNew r10.2 35 [.slice none 0 0, .int .i64 0] fun p16 h17 => (aSt h17 p16 v11 2).bind fun h18 => (aLdN h18 p16 2).bind fun v19 => (aLdN h18 p7 2).bind fun v20 => (C 23 [v19, v20] h18).bind fun r21 => (asB r21.1).bind fun b22 => bif !b22 then s12_0 hk C N x0 p7 n4 n6 p16 true r21.2 else bif n13 != n4 then s12_0 hk C N x0 p7 n4 n6 p16 true r21.2 else s12_0 hk C N x0 p7 n4 n6 p16 (n15 != n6) r21.2 := by kernel_rfl
theorem s12_0_j (C : ACall) (N : Nat) (x0 : ByteArray) (x3 : Value) (x4 : Int) (x5 : Int) (x6 : Value) (x42 : Bool) (h : AHeap) : s12_0 hk0 C N x0 x3 x4 x5 x6 x42 h = F12_0 hk0 C N (⟨82, [(0, .string x0), (3, x3), (4, .int .i64 x4), (5, .int .i64 x5), (6, x6), (42, .bool x42)]⟩) h := by delta s12_0; exact hk0_app _ _ _ _
theorem s12_0_eq (hk : Hk (Value × AHeap)) (C : ACall) (N : Nat) (x0 : ByteArray) (x3 : Value) (x4 : Int) (x5 : Int) (x6 : Value) (x42 : Bool) (h : AHeap) : F12_0 hk C N (⟨82, [(0, .string x0), (3, x3), (4, .int .i64 x4), (5, .int .i64 x5), (6, x6), (42, .bool x42)]⟩) h =
    bif x42 then some (.bool false, h) else s12_1 hk C N x0 x3 x4 x5 x6 h := by kernel_rfl
theorem s12_1_j (C : ACall) (N : Nat) (x0 : ByteArray) (x3 : Value) (x4 : Int) (x5 : Int) (x6 : Value) (h : AHeap) : s12_1 hk0 C N x0 x3 x4 x5 x6 h = F12_1 hk0 C N (⟨82, [(0, .string x0), (3, x3), (4, .int .i64 x4), (5, .int .i64 x5), (6, x6)]⟩) h := by delta s12_1; exact hk0_app _ _ _ _
theorem s12_1_eq (hk : Hk (Value × AHeap)) (C : ACall) (N : Nat) (x0 : ByteArray) (x3 : Value) (x4 : Int) (x5 : Int) (x6 : Value) (h : AHeap) : F12_1 hk C N (⟨82, [(0, .string x0), (3, x3), (4, .int .i64 x4), (5, .int .i64 x5), (6, x6)]⟩) h =
    (aLdN h x6 2).bind fun v23 => (C 33 [v23, .int .i64 1] h).bind fun r24 => (asI .i64 r24.1).bind fun n25 => (aLdN r24.2 x6 2).bind fun v26 => (C 44 [v26, .int .i64 1] r24.2).bind fun r27 => (asI .i64 r27.1).bind fun n28 => bif decide (n28 < 0) then some (.bool false, r27.2) else bif n28 != n25 then some (.bool false, r27.2) else (C 28 [.string x0] r27.2).bind fun r29 => (aExt r29.1 0).bind fun v30 => (aExt r29.1 1).bind fun v31 => (asI .i64 v31).bind fun n32 => (aExt r29.1 2).bind fun v33 => (asI .i64 v33).bind fun n34 => aNew r29.2 35 [.slice none 0 0, .int .i64 0] fun p35 h36 => (aSt h36 p35 v30 2).bind fun h37 => (aLdN h37 p35 2).bind fun v38 => (aLdN h37 x3 2).bind fun v39 => (C 23 [v38, v39] h37).bind fun r40 => (asB r40.1).bind fun b41 => bif !b41 then s12_2 hk C N x6 n25 true r40.2 else bif n32 != x4 then s12_2 hk C N x6 n25 true r40.2 else s12_2 hk C N x6 n25 (n34 != x5) r40.2 := by kernel_rfl
theorem s12_2_j (C : ACall) (N : Nat) (x6 : Value) (x9 : Int) (x73 : Bool) (h : AHeap) : s12_2 hk0 C N x6 x9 x73 h = F12_2 hk0 C N (⟨82, [(6, x6), (9, .int .i64 x9), (73, .bool x73)]⟩) h := by delta s12_2; exact hk0_app _ _ _ _
theorem s12_2_eq (hk : Hk (Value × AHeap)) (C : ACall) (N : Nat) (x6 : Value) (x9 : Int) (x73 : Bool) (h : AHeap) : F12_2 hk C N (⟨82, [(6, x6), (9, .int .i64 x9), (73, .bool x73)]⟩) h =
    bif x73 then some (.bool false, h) else s12_3 hk C N x6 x9 h := by kernel_rfl
theorem s12_3_j (C : ACall) (N : Nat) (x6 : Value) (x9 : Int) (h : AHeap) : s12_3 hk0 C N x6 x9 h = F12_3 hk0 C N (⟨82, [(6, x6), (9, .int .i64 x9)]⟩) h := by delta s12_3; exact hk0_app _ _ _ _
theorem s12_3_eq (hk : Hk (Value × AHeap)) (C : ACall) (N : Nat) (x6 : Value) (x9 : Int) (h : AHeap) : F12_3 hk C N (⟨82, [(6, x6), (9, .int .i64 x9)]⟩) h =
    (aLdN h x6 2).bind fun v42 => (C 44 [v42, .int .i64 1] h).bind fun r43 => (asI .i64 r43.1).bind fun n44 => bif decide (n44 < 0) then some (.bool false, r43.2) else bif n44 != x9 then some (.bool false, r43.2) else some (.bool true, r43.2) := by kernel_rfl
theorem c12 (d : Nat) (args : List Value) (h : AHeap) : call Try.prog Ms (d + 1) 12 args h = evFn hk0 Try.prog (call Try.prog Ms d) M12 d Try.f12 args h := by kernel_rfl

/-! 47 loop.example/g00101/spec.Parse -/
noncomputable def F47_0 (hk : Hk (Value × AHeap)) (C : ACall) (N : Nat) (n1 : Nat) : Nx (Value × AHeap) := evSt hk Try.prog C M47 N Try.f47 [1, 1, 1, 1, 1, 0, 2, 6] [n1]
noncomputable def s47_0 (hk : Hk (Value × AHeap)) (C : ACall) (N : Nat) (n1 : Nat) (x2 : Value) (x5 : Value) (x8 : Value) (x9 : Value) (h : AHeap) := F47_0 hk C N n1 (⟨70, [(2, x2), (5, x5), (8, x8), (9, x9)]⟩) h
noncomputable def F47_1 (hk : Hk (Value × AHeap)) (C : ACall) (N : Nat) (n1 : Nat) : Nx (Value × AHeap) := evSt hk Try.prog C M47 N Try.f47 [1, 1, 1, 1, 1, 0, 2, 3, 1] [n1]
noncomputable def s47_1 (hk : Hk (Value × AHeap)) (C : ACall) (N : Nat) (n1 : Nat) (x2 : Value) (x5 : Value) (x8 : Value) (x9 : Value) (h : AHeap) := hk 7 (⟨70, [(2, x2), (5, x5), (8, x8), (9, x9)]⟩) h (F47_1 hk C N n1)
theorem e47 (hk : Hk (Value × AHeap)) (C : ACall) (N : Nat) (x0 : ByteArray) (h : AHeap) : evFn hk Try.prog C M47 N Try.f47 [.string x0] h =
    aNew h 35 [.slice none 0 0, .int .i64 0] fun p1 h2 => (C 14 [.string x0] h2).bind fun r3 => (aExt r3.1 0).bind fun v4 => (aExt r3.1 1).bind fun v5 => (asI .i64 v5).bind fun n6 => (aExt r3.1 2).bind fun v7 => (asI .i64 v7).bind fun n8 => bif n6 != 0 then (aSt r3.2 p1 (.agg (List.toArray [.slice none 0 0, .int .i64 0])) 2).bind fun h9 => (aLdN h9 p1 2).bind fun v10 => bif List.all [v10, .int .i64 1, .int .i64 n8] isS2 then some (.tuple (List.toArray [v10, .int .i64 1, .int .i64 n8]), h9) else none else (aFill [.slice none 0 0, .int .i64 0, .slice none 0 0, .int .i64 0, .int .i64 0, .int .i64 0, .int .i64 0] [(0, 1, v4), (6, 1, .int .i64 (ByteArray.size x0 : Int))]).bind fun c11 => (aCells (.agg (List.toArray c11))).bind fun c12 => aNew r3.2 114 c12 fun p13 h14 => aNewS h14 3 [] 0 fun p15 h16 => s47_0 hk C N N p1 v4 p13 p15 h16 := by kernel_rfl
theorem s47_0_eq (hk : Hk (Value × AHeap)) (C : ACall) (N : Nat) (n1 : Nat) (x2 : Value) (x5 : Value) (x8 : Value) (x9 : Value) (h : AHeap) : s47_0 hk C N (n1 + 1) x2 x5 x8 x9 h =
    (aNil x8).bind fun v17 => (aOff v17 3).bind fun v18 => (aLd1 h v18).bind fun v19 => (asI .i64 v19).bind fun n20 => bif n20 == 0 then (aNil x8).bind fun v21 => (aOff v21 1).bind fun v22 => (aLd1 h v22).bind fun v23 => (asI .i64 v23).bind fun n24 => (aLen x5).bind fun v25 => (asI .i64 v25).bind fun n26 => bif decide (n24 < n26) then s47_1 hk C N n1 x2 x5 x8 x9 h else (aFill [.int .i64 0, .string ⟨#[]⟩, .int .i64 0, .slice none 0 0] [(0, 1, .int .i64 21), (3, 1, x9)]).bind fun c27 => (C 83 [x8, (.agg (List.toArray c27))] h).bind fun r28 => (asI .i64 r28.1).bind fun n29 => (aNil x8).bind fun v30 => (aOff v30 3).bind fun v31 => (aLd1 r28.2 v31).bind fun v32 => (asI .i64 v32).bind fun n33 => bif n33 != 0 then (aNil x8).bind fun v34 => (aOff v34 3).bind fun v35 => (aLd1 r28.2 v35).bind fun v36 => (asI .i64 v36).bind fun n37 => (aNil x8).bind fun v38 => (aOff v38 4).bind fun v39 => (aLd1 r28.2 v39).bind fun v40 => (asI .i64 v40).bind fun n41 => (aSt r28.2 x2 (.agg (List.toArray [.slice none 0 0, .int .i64 0])) 2).bind fun h42 => ((aLd1 h42 v35).bind fun v43 => (asI .i64 v43).bind fun n44 => some (vbeq (.int .i64 n44) (.int .i64 n37))).bind fun b45 => bif b45 then ((aLd1 h42 v39).bind fun v46 => (asI .i64 v46).bind fun n47 => some (vbeq (.int .i64 n47) (.int .i64 n41))).bind fun b48 => bif b48 then ((aLd1 h42 v39).bind fun v49 => (asI .i64 v49).bind fun n50 => some (vbeq (.int .i64 n50) (.int .i64 n41))).bind fun b51 => bif b51 then (aLdN h42 x2 2).bind fun v52 => bif List.all [v52, .int .i64 n37, .int .i64 n41] isS2 then some (.tuple (List.toArray [v52, .int .i64 n37, .int .i64 n41]), h42) else none else none else none else none else (aNil x8).bind fun v53 => (aOff v53 2).bind fun v54 => (aLd1 r28.2 v54).bind fun v55 => (aFill [.slice none 0 0, .int .i64 0] [(0, 1, v55), (1, 1, .int .i64 n29)]).bind fun c56 => (aSt r28.2 x2 (.agg (List.toArray c56)) 2).bind fun h57 => (aLdN h57 x2 2).bind fun v58 => bif List.all [v58, .int .i64 0, .int .i64 0] isS2 then some (.tuple (List.toArray [v58, .int .i64 0, .int .i64 0]), h57) else none else (aFill [.int .i64 0, .string ⟨#[]⟩, .int .i64 0, .slice none 0 0] [(0, 1, .int .i64 21), (3, 1, x9)]).bind fun c59 => (C 83 [x8, (.agg (List.toArray c59))] h).bind fun r60 => (asI .i64 r60.1).bind fun n61 => (aNil x8).bind fun v62 => (aOff v62 3).bind fun v63 => (aLd1 r60.2 v63).bind fun v64 => (asI .i64 v64).bind fun n65 => bif n65 != 0 then (aNil x8).bind fun v66 => (aOff v66 3).bind fun v67 => (aLd1 r60.2 v67).bind fun v68 => (asI .i64 v68).bind fun n69 => (aNil x8).bind fun v70 => (aOff v70 4).bind fun v71 => (aLd1 r60.2 v71).bind fun v72 => (asI .i64 v72).bind fun n73 => (aSt r60.2 x2 (.agg (List.toArray [.slice none 0 0, .int .i64 0])) 2).bind fun h74 => ((aLd1 h74 v67).bind fun v75 => (asI .i64 v75).bind fun n76 => some (vbeq (.int .i64 n76) (.int .i64 n69))).bind fun b77 => bif b77 then ((aLd1 h74 v71).bind fun v78 => (asI .i64 v78).bind fun n79 => some (vbeq (.int .i64 n79) (.int .i64 n73))).bind fun b80 => bif b80 then ((aLd1 h74 v71).bind fun v81 => (asI .i64 v81).bind fun n82 => some (vbeq (.int .i64 n82) (.int .i64 n73))).bind fun b83 => bif b83 then (aLdN h74 x2 2).bind fun v84 => bif List.all [v84, .int .i64 n69, .int .i64 n73] isS2 then some (.tuple (List.toArray [v84, .int .i64 n69, .int .i64 n73]), h74) else none else none else none else none else (aNil x8).bind fun v85 => (aOff v85 2).bind fun v86 => (aLd1 r60.2 v86).bind fun v87 => (aFill [.slice none 0 0, .int .i64 0] [(0, 1, v87), (1, 1, .int .i64 n61)]).bind fun c88 => (aSt r60.2 x2 (.agg (List.toArray c88)) 2).bind fun h89 => (aLdN h89 x2 2).bind fun v90 => bif List.all [v90, .int .i64 0, .int .i64 0] isS2 then some (.tuple (List.toArray [v90, .int .i64 0, .int .i64 0]), h89) else none := by kernel_rfl
theorem s47_1_j (C : ACall) (N : Nat) (n1 : Nat) (x2 : Value) (x5 : Value) (x8 : Value) (x9 : Value) (h : AHeap) : s47_1 hk0 C N n1 x2 x5 x8 x9 h = F47_1 hk0 C N n1 (⟨70, [(2, x2), (5, x5), (8, x8), (9, x9)]⟩) h := by delta s47_1; exact hk0_app _ _ _ _
theorem s47_1_eq (hk : Hk (Value × AHeap)) (C : ACall) (N : Nat) (n1 : Nat) (x2 : Value) (x5 : Value) (x8 : Value) (x9 : Value) (h : AHeap) : F47_1 hk C N n1 (⟨70, [(2, x2), (5, x5), (8, x8), (9, x9)]⟩) h =
    (C 82 [x8] h).bind fun r91 => (asI .i64 r91.1).bind fun n92 => aNewS r91.2 3 [.int .i64 n92] 1 fun p93 h94 => (aApp h94 3 1 8 x9 p93).bind fun r95 => s47_0 hk C N n1 x2 x5 x8 r95.1 r95.2 := by kernel_rfl
theorem c47 (d : Nat) (args : List Value) (h : AHeap) : call Try.prog Ms (d + 1) 47 args h = evFn hk0 Try.prog (call Try.prog Ms d) M47 d Try.f47 args h := by kernel_rfl

/-! 82 loop.example/g00101/spec.l9Stmt -/
noncomputable def F82_0 (hk : Hk (Value × AHeap)) (C : ACall) (N : Nat) : Nx (Value × AHeap) := evSt hk Try.prog C M82 N Try.f82 [1, 0, 2, 1, 5, 1, 4, 1, 1, 1, 1] []
noncomputable def s82_0 (hk : Hk (Value × AHeap)) (C : ACall) (N : Nat) (x0 : Value) (x6 : Value) (h : AHeap) := hk 15 (⟨109, [(0, x0), (6, x6)]⟩) h (F82_0 hk C N)
theorem e82 (hk : Hk (Value × AHeap)) (C : ACall) (N : Nat) (x0 : Value) (h : AHeap) : evFn hk Try.prog C M82 N Try.f82 [x0] h =
    (C 134 [x0, .string (⟨#[108, 111, 99, 97, 108]⟩)] h).bind fun r1 => (asB r1.1).bind fun b2 => bif b2 then (aNil x0).bind fun v3 => (aOff v3 1).bind fun v4 => (aLd1 r1.2 v4).bind fun v5 => (asI .i64 v5).bind fun n6 => (aNil x0).bind fun v7 => (aOff v7 1).bind fun v8 => (aSt r1.2 v8 (.int .i64 (IntKind.i64.wrap (n6 + 1))) 1).bind fun h9 => (C 135 [x0] h9).bind fun r10 => (asS r10.1).bind fun t11 => (C 136 [x0, .string (⟨#[61]⟩)] r10.2).bind fun r12 => (C 137 [x0] r12.2).bind fun r13 => (asI .i64 r13.1).bind fun n14 => (C 136 [x0, .string (⟨#[59]⟩)] r13.2).bind fun r15 => aNewS r15.2 3 [.int .i64 n14] 1 fun p16 h17 => (aFill [.int .i64 0, .string ⟨#[]⟩, .int .i64 0, .slice none 0 0] [(0, 1, .int .i64 14), (1, 1, .string t11), (3, 1, p16)]).bind fun c18 => (C 83 [x0, (.agg (List.toArray c18))] h17).bind fun r19 => (asI .i64 r19.1).bind fun n20 => some (.int .i64 n20, r19.2) else (C 134 [x0, .string (⟨#[105, 102]⟩)] r1.2).bind fun r21 => (asB r21.1).bind fun b22 => bif b22 then (aNil x0).bind fun v23 => (aOff v23 1).bind fun v24 => (aLd1 r21.2 v24).bind fun v25 => (asI .i64 v25).bind fun n26 => (aNil x0).bind fun v27 => (aOff v27 1).bind fun v28 => (aSt r21.2 v28 (.int .i64 (IntKind.i64.wrap (n26 + 1))) 1).bind fun h29 => (C 137 [x0] h29).bind fun r30 => (asI .i64 r30.1).bind fun n31 => (C 138 [x0] r30.2).bind fun r32 => (asI .i64 r32.1).bind fun n33 => aNewS r32.2 3 [.int .i64 n31, .int .i64 n33] 2 fun p34 h35 => (C 134 [x0, .string (⟨#[101, 108, 115, 101]⟩)] h35).bind fun r36 => (asB r36.1).bind fun b37 => bif b37 then (aNil x0).bind fun v38 => (aOff v38 1).bind fun v39 => (aLd1 r36.2 v39).bind fun v40 => (asI .i64 v40).bind fun n41 => (aNil x0).bind fun v42 => (aOff v42 1).bind fun v43 => (aSt r36.2 v43 (.int .i64 (IntKind.i64.wrap (n41 + 1))) 1).bind fun h44 => (C 138 [x0] h44).bind fun r45 => (asI .i64 r45.1).bind fun n46 => aNewS r45.2 3 [.int .i64 n46] 1 fun p47 h48 => (aApp h48 3 1 8 p34 p47).bind fun r49 => s82_0 hk C N x0 r49.1 r49.2 else s82_0 hk C N x0 p34 r36.2 else (C 134 [x0, .string (⟨#[119, 104, 105, 108, 101]⟩)] r21.2).bind fun r50 => (asB r50.1).bind fun b51 => bif b51 then (aNil x0).bind fun v52 => (aOff v52 1).bind fun v53 => (aLd1 r50.2 v53).bind fun v54 => (asI .i64 v54).bind fun n55 => (aNil x0).bind fun v56 => (aOff v56 1).bind fun v57 => (aSt r50.2 v57 (.int .i64 (IntKind.i64.wrap (n55 + 1))) 1).bind fun h58 => (C 137 [x0] h58).bind fun r59 => (asI .i64 r59.1).bind fun n60 => (C 138 [x0] r59.2).bind fun r61 => (asI .i64 r61.1).bind fun n62 => aNewS r61.2 3 [.int .i64 n60, .int .i64 n62] 2 fun p63 h64 => (aFill [.int .i64 0, .string ⟨#[]⟩, .int .i64 0, .slice none 0 0] [(0, 1, .int .i64 18), (3, 1, p63)]).bind fun c65 => (C 83 [x0, (.agg (List.toArray c65))] h64).bind fun r66 => (asI .i64 r66.1).bind fun n67 => some (.int .i64 n67, r66.2) else (C 134 [x0, .string (⟨#[114, 101, 116, 117, 114, 110]⟩)] r50.2).bind fun r68 => (asB r68.1).bind fun b69 => bif b69 then (aNil x0).bind fun v70 => (aOff v70 1).bind fun v71 => (aLd1 r68.2 v71).bind fun v72 => (asI .i64 v72).bind fun n73 => (aNil x0).bind fun v74 => (aOff v74 1).bind fun v75 => (aSt r68.2 v75 (.int .i64 (IntKind.i64.wrap (n73 + 1))) 1).bind fun h76 => (C 137 [x0] h76).bind fun r77 => (asI .i64 r77.1).bind fun n78 => (C 136 [x0, .string (⟨#[59]⟩)] r77.2).bind fun r79 => aNewS r79.2 3 [.int .i64 n78] 1 fun p80 h81 => (aFill [.int .i64 0, .string ⟨#[]⟩, .int .i64 0, .slice none 0 0] [(0, 1, .int .i64 19), (3, 1, p80)]).bind fun c82 => (C 83 [x0, (.agg (List.toArray c82))] h81).bind fun r83 => (asI .i64 r83.1).bind fun n84 => some (.int .i64 n84, r83.2) else (C 139 [x0] r68.2).bind fun r85 => (asI .i64 r85.1).bind fun n86 => some (.int .i64 n86, r85.2) := by kernel_rfl
theorem s82_0_j (C : ACall) (N : Nat) (x0 : Value) (x6 : Value) (h : AHeap) : s82_0 hk0 C N x0 x6 h = F82_0 hk0 C N (⟨109, [(0, x0), (6, x6)]⟩) h := by delta s82_0; exact hk0_app _ _ _ _
theorem s82_0_eq (hk : Hk (Value × AHeap)) (C : ACall) (N : Nat) (x0 : Value) (x6 : Value) (h : AHeap) : F82_0 hk C N (⟨109, [(0, x0), (6, x6)]⟩) h =
    (aFill [.int .i64 0, .string ⟨#[]⟩, .int .i64 0, .slice none 0 0] [(0, 1, .int .i64 17), (3, 1, x6)]).bind fun c87 => (C 83 [x0, (.agg (List.toArray c87))] h).bind fun r88 => (asI .i64 r88.1).bind fun n89 => some (.int .i64 n89, r88.2) := by kernel_rfl
theorem c82 (d : Nat) (args : List Value) (h : AHeap) : call Try.prog Ms (d + 1) 82 args h = evFn hk0 Try.prog (call Try.prog Ms d) M82 d Try.f82 args h := by kernel_rfl
end Go.Proofs.Ytadmoackacickaa
/- The reference's parser: functions, tables, blocks, statements. -/
set_option linter.unusedSimpArgs false
namespace Go.Proofs.Ytadmoackacickaa
open Go Go.AH

section
variable {c : PC} {D : Nat}
theorem par_loop {blk : PI} (hD : 2 ≤ D) (hb : Simq c D 138 blk) {h0 : AHeap} {rn0 : Option Nat} {rt : Nat} (hrt : h0.size ≤ rt) {a : Int} {st' : PSt} :
    ∀ (n m : Nat) (ks : List Int) (v : Value) (h : AHeap) (st : PSt) (rn : Option Nat), n ≤ m → QS c rn0 h0 st rn h → PLI h v ks rt →
    ((parLoop c n ks st).bind fun l => (wantP c ⟨#[41]⟩ l.2).bind fun s => (blk s).bind fun b => if l.1.length > 1000000 then none else nodeS 6 E0 0 (l.1 ++ [b.1]) b.2) = some (a, st') →
    QA c h0 rn0 (.int .i64 a) st' (s233_0 hk0 (call Try.prog Ms D) D m (ptr c.p 0) v h) := by
  intro n
  induction n with
  | zero => intro m ks v h st rn hm w li hp; cases hp
  | succ n ih =>
    intro m ks v h st rn hm w li hp
    obtain ⟨m, rfl⟩ : ∃ q, m = q + 1 := ⟨m - 1, by omega⟩
    rw [s233_0_eq]
    rw [parLoop] at hp
    refine codS w ?_
    by_cases hc : st.code = 0
    · refine pct (by simp [hc]) (calB w (q134 (by omega) w.ph) fun g1 r1 w1 k1 _ => ?_)
      by_cases hi : isP c st ⟨#[41]⟩ = false
      · rw [if_pos ⟨hc, hi⟩] at hp
        obtain ⟨l, e0, hp⟩ := bnd hp
        obtain ⟨s2, e2, e0⟩ := bnd e0
        obtain ⟨⟨t3, s3⟩, e3, e0⟩ := bnd e0
        obtain ⟨⟨a4, s4⟩, e4, e0⟩ := bnd e0
        by_cases hb2 : ks.length > 1000000
        · rw [if_pos hb2] at e0; cases e0
        rw [if_neg hb2] at e0
        have hp' : ((parLoop c n (ks ++ [a4]) s4).bind fun l => (wantP c ⟨#[41]⟩ l.2).bind fun s => (blk s).bind fun b => if l.1.length > 1000000 then none else nodeS 6 E0 0 (l.1 ++ [b.1]) b.2) = some (a, st') := by
          dsimp only at e0; rw [e0]; exact hp
        have fin : ∀ g r, QS c rn0 h0 s2 r g → PLI g v ks rt → QA c h0 rn0 (.int .i64 a) st' (s233_2 hk0 (call Try.prog Ms D) D m (ptr c.p 0) v g) := fun g r w2 l2 => by
          rw [s233_2_j, s233_2_eq]
          refine calT w2 (q135 hD w2.ph e3) fun g3 r3 w3 k3 _ => ?_
          refine nodL w3 (by omega) e4 fun g4 r4 w4 k4 _ => ?_
          refine pushS w4 ((l2.qk k3).qk k4) hrt (by omega) fun g5 v5 w5 l5 _ => ?_
          exact ih m (ks ++ [a4]) v5 g5 s4 r4 (by omega) w5 l5 hp'
        refine pct (by simp [hi]) ?_
        rw [s233_1_j, s233_1_eq]
        refine pb li.kid.len (pb rfl ?_)
        by_cases h1 : ks.length > 0
        · rw [if_pos h1] at e2
          refine pct (decide_eq_true (by omega)) (calU w1 (q136 hD w1.ph e2) fun g2 r2 w2 k2 _ => ?_)
          exact fin g2 r2 w2 ((li.qk k1).qk k2)
        · rw [if_neg h1] at e2; cases e2
          exact pcf (decide_eq_false (by omega)) (fin g1 r1 w1 (li.qk k1))
      · rw [if_neg (fun z => hi z.2), Option.bind_some] at hp
        dsimp only at hp
        obtain ⟨s2, e2, hp⟩ := bnd hp
        obtain ⟨⟨a3, s3⟩, e3, hp⟩ := bnd hp
        by_cases hb2 : ks.length > 1000000
        · rw [if_pos hb2] at hp; cases hp
        rw [if_neg hb2] at hp
        refine pcf (by simpa using hi) (calU w1 (q136 hD w1.ph e2) fun g2 r2 w2 k2 _ => ?_)
        refine calS w2 (hb _ _ _ _ _ w2.ph e3) fun g3 r3 w3 k3 _ => ?_
        refine pushS w3 (((li.qk k1).qk k2).qk k3) hrt (by omega) fun g4 v4 w4 l4 _ => ?_
        exact nodA w4 (by omega) l4.kid hp fun g5 r5 w5 _ _ => QA.fin w5
    · rw [if_neg (fun z => hc z.1), Option.bind_some] at hp
      dsimp only at hp
      obtain ⟨s2, e2, hp⟩ := bnd hp
      obtain ⟨⟨a3, s3⟩, e3, hp⟩ := bnd hp
      by_cases hb2 : ks.length > 1000000
      · rw [if_pos hb2] at hp; cases hp
      rw [if_neg hb2] at hp
      refine pcf (by simpa using hc) (calU w (q136 hD w.ph e2) fun g2 r2 w2 k2 _ => ?_)
      refine calS w2 (hb _ _ _ _ _ w2.ph e3) fun g3 r3 w3 k3 _ => ?_
      refine pushS w3 ((li.qk k2).qk k3) hrt (by omega) fun g4 v4 w4 l4 _ => ?_
      exact nodA w4 (by omega) l4.kid hp fun g5 r5 w5 _ _ => QA.fin w5
theorem s233 {blk : PI} (hD : 2 ≤ D) (hb : Simq c D 138 blk) : Simq c (D + 1) 233 (fnS c blk D) := by
  intro h st rn a st' x hp
  have w := QS.new x
  rw [c233, e233]
  unfold fnS at hp
  obtain ⟨s1, e1, hp⟩ := bnd hp
  refine rowS [] w rfl rfl fun g1 v1 rt w1 l1 _ hr => ?_
  refine calU w1 (q136 hD w1.ph e1) fun g2 r2 w2 k2 _ => ?_
  exact par_loop hD hb hr D D [] v1 g2 s1 r2 (Nat.le_refl _) w2 (l1.qk k2) hp
theorem tab_loop2 {fld : PI} (hD : 2 ≤ D) (hf : Simq c D 239 fld) {h0 : AHeap} {rn0 : Option Nat} {rt : Nat} (hrt : h0.size ≤ rt) {a : Int} {st' : PSt} :
    ∀ (n m : Nat) (ks : List Int) (v : Value) (h : AHeap) (st : PSt) (rn : Option Nat), n ≤ m → QS c rn0 h0 st rn h → PLI h v ks rt →
    ((tabLoop c fld n ks st).bind fun l => (wantP c ⟨#[125]⟩ l.2).bind fun s => nodeS 7 E0 0 l.1 s) = some (a, st') →
    QA c h0 rn0 (.int .i64 a) st' (s234_0 hk0 (call Try.prog Ms D) D m (ptr c.p 0) v h) := by
  intro n
  induction n with
  | zero => intro m ks v h st rn hm w li hp; cases hp
  | succ n ih =>
    intro m ks v h st rn hm w li hp
    obtain ⟨m, rfl⟩ : ∃ q, m = q + 1 := ⟨m - 1, by omega⟩
    rw [s234_0_eq]
    rw [tabLoop] at hp
    refine codS w ?_
    by_cases hc : st.code = 0
    · refine pct (by simp [hc]) (calB w (q134 (by omega) w.ph) fun g1 r1 w1 k1 _ => ?_)
      by_cases hi : isP c st ⟨#[125]⟩ = false
      · rw [if_pos ⟨hc, hi⟩] at hp
        obtain ⟨l, e0, hp⟩ := bnd hp
        obtain ⟨s2, e2, e0⟩ := bnd e0
        obtain ⟨⟨a4, s4⟩, e4, e0⟩ := bnd e0
        by_cases hb2 : ks.length > 1000000
        · rw [if_pos hb2] at e0; cases e0
        rw [if_neg hb2] at e0
        have hp' : ((tabLoop c fld n (ks ++ [a4]) s4).bind fun l => (wantP c ⟨#[125]⟩ l.2).bind fun s => nodeS 7 E0 0 l.1 s) = some (a, st') := by
          dsimp only at e0; rw [e0]; exact hp
        have fin : ∀ g r, QS c rn0 h0 s2 r g → PLI g v ks rt → QA c h0 rn0 (.int .i64 a) st' (s234_2 hk0 (call Try.prog Ms D) D m (ptr c.p 0) v g) := fun g r w2 l2 => by
          rw [s234_2_j, s234_2_eq]
          refine calS w2 (hf _ _ _ _ _ w2.ph e4) fun g4 r4 w4 k4 _ => ?_
          refine pushS w4 (l2.qk k4) hrt (by omega) fun g5 v5 w5 l5 _ => ?_
          exact ih m (ks ++ [a4]) v5 g5 s4 r4 (by omega) w5 l5 hp'
        refine pct (by simp [hi]) ?_
        rw [s234_1_j, s234_1_eq]
        refine pb li.kid.len (pb rfl ?_)
        by_cases h1 : ks.length > 0
        · rw [if_pos h1] at e2
          refine pct (decide_eq_true (by omega)) (calU w1 (q136 hD w1.ph e2) fun g2 r2 w2 k2 _ => ?_)
          exact fin g2 r2 w2 ((li.qk k1).qk k2)
        · rw [if_neg h1] at e2; cases e2
          exact pcf (decide_eq_false (by omega)) (fin g1 r1 w1 (li.qk k1))
      · rw [if_neg (fun z => hi z.2), Option.bind_some] at hp
        dsimp only at hp
        obtain ⟨s2, e2, hp⟩ := bnd hp
        refine pcf (by simpa using hi) (calU w1 (q136 hD w1.ph e2) fun g2 r2 w2 k2 _ => ?_)
        exact nodA w2 (by omega) ((li.qk k1).qk k2).kid hp fun g5 r5 w5 _ _ => QA.fin w5
    · rw [if_neg (fun z => hc z.1), Option.bind_some] at hp
      dsimp only at hp
      obtain ⟨s2, e2, hp⟩ := bnd hp
      refine pcf (by simpa using hc) (calU w (q136 hD w.ph e2) fun g2 r2 w2 k2 _ => ?_)
      exact nodA w2 (by omega) (li.qk k2).kid hp fun g5 r5 w5 _ _ => QA.fin w5
theorem s234 {fld : PI} (hD : 2 ≤ D) (hf : Simq c D 239 fld) : Simq c (D + 1) 234 (tableS c fld D) := by
  intro h st rn a st' x hp
  have w := QS.new x
  rw [c234, e234]
  refine rowS [] w rfl rfl fun g1 v1 rt w1 l1 _ hr => ?_
  exact tab_loop2 hD hf hr D D [] v1 g1 st rn (Nat.le_refl _) w1 l1 hp
theorem s239 {ex : PI} (hD : 2 ≤ D) (hs : Simq c D 137 ex) : Simq c (D + 1) 239 (fieldS c ex) := by
  intro h st rn a st' x hp
  have w := QS.new x
  rw [c239, e239]
  unfold fieldS at hp
  refine calB w (q134 (by omega) x) fun g1 r1 w1 _ _ => ?_
  by_cases i1 : isP c st ⟨#[91]⟩ = true
  · rw [if_pos i1] at hp
    obtain ⟨s2, e2, hp⟩ := bnd hp
    obtain ⟨⟨a3, s3⟩, e3, hp⟩ := bnd hp
    obtain ⟨s4, e4, hp⟩ := bnd hp
    obtain ⟨s5, e5, hp⟩ := bnd hp
    obtain ⟨⟨a6, s6⟩, e6, hp⟩ := bnd hp
    refine pct i1 (incS w1 e2 fun g2 w2 _ => ?_)
    refine calS w2 (hs _ _ _ _ _ w2.ph e3) fun g3 r3 w3 _ _ => ?_
    refine calU w3 (q136 hD w3.ph e4) fun g4 r4 w4 _ _ => ?_
    refine calU w4 (q136 hD w4.ph e5) fun g5 r5 w5 _ _ => ?_
    refine calS w5 (hs _ _ _ _ _ w5.ph e6) fun g6 r6 w6 _ _ => ?_
    refine rowS [a3, a6] w6 rfl rfl fun g7 v7 rt w7 l7 _ _ => ?_
    exact nodA w7 (by omega) l7.kid hp fun g8 r8 w8 _ _ => QA.fin w8
  rw [if_neg i1] at hp
  by_cases hbig : (pk c st).k = 1 ∧ st.at' > 1000000
  · rw [if_pos hbig] at hp; cases hp
  rw [if_neg hbig] at hp
  refine pcf (by simpa using i1) (calS w1 (q173 (by omega) w1.ph) fun g2 r2 w2 _ _ => ?_)
  have no : ¬ ((pk c st).k = 1 ∧ eqNext c st = true) → QA c h rn (.int .i64 a) st' (s239_0 hk0 (call Try.prog Ms D) D (ptr c.p 0) false g2) := fun hno => by
    rw [if_neg hno] at hp
    obtain ⟨⟨a3, s3⟩, e3, hp⟩ := bnd hp
    rw [s239_0_j, s239_0_eq]
    refine pcf rfl ?_
    rw [s239_1_j, s239_1_eq]
    refine calS w2 (hs _ _ _ _ _ w2.ph e3) fun g3 r3 w3 _ _ => ?_
    refine rowS [a3] w3 rfl rfl fun g4 v4 rt w4 l4 _ _ => ?_
    exact nodA w4 (by omega) l4.kid hp fun g5 r5 w5 _ _ => QA.fin w5
  by_cases k1 : (pk c st).k = 1
  · obtain ⟨nv, _, f0, f1, _⟩ := w2.ph.ld
    have tk : TokH g2 c.tv c.toks := let ⟨_, _, a, _⟩ := w2.ph; a
    have hnb : ¬ st.at' > 1000000 := fun z => hbig ⟨k1, z⟩
    have wj : IntKind.i64.wrap ((st.at' : Int) + 1) = ((st.at' + 1 : Nat) : Int) := by rw [wr (by omega) (by omega)]; omega
    refine pct (by simp [k1]) (pb rfl (pb rfl (pb f1 (pb rfl (pb rfl (pb rfl (pb f0 (pb tk.len (pb rfl ?_)))))))))
    rw [wj]
    by_cases hl : st.at' + 1 < c.toks.length
    · obtain ⟨i, o, b1, _, b2, _, b3, _⟩ := tk.fld hl
      have en : eqNext c st = (c.toks[st.at' + 1].k == 5 && c.toks[st.at' + 1].text.toList == (⟨#[61]⟩ : ByteArray).toList) := by
        unfold eqNext; rw [List.getElem?_eq_getElem hl]
      refine pct (decide_eq_true (by omega)) (pb rfl (pb rfl (pb f0 (pb rfl (pb rfl (pb f1 (pb rfl (pb (v := ptr i o) (by rw [wj]; exact b1) (pb rfl (pb b2 (pb rfl ?_)))))))))))
      by_cases h5 : c.toks[st.at' + 1].k = 5
      · refine pct (by simp [h5]) (pb rfl (pb rfl (pb f0 (pb rfl (pb rfl (pb f1 (pb rfl (pb (v := ptr i o) (by rw [wj]; exact b1) (pb rfl (pb b3 (pb rfl ?_)))))))))))
        rw [h5] at en
        by_cases ht : (c.toks[st.at' + 1].text.toList == (⟨#[61]⟩ : ByteArray).toList) = true
        · have en' : eqNext c st = true := by rw [en, ht]; rfl
          rw [if_pos ⟨k1, en'⟩] at hp
          obtain ⟨⟨t3, s3⟩, e3, hp⟩ := bnd hp
          obtain ⟨s4, e4, hp⟩ := bnd hp
          obtain ⟨⟨a5, s5⟩, e5, hp⟩ := bnd hp
          obtain ⟨⟨a6, s6⟩, e6, hp⟩ := bnd hp
          rw [ht, s239_0_j, s239_0_eq]
          refine pct rfl (calT w2 (q135 hD w2.ph e3) fun g3 r3 w3 _ _ => ?_)
          refine incS w3 e4 fun g4 w4 _ => ?_
          refine nodL w4 (by omega) e5 fun g5 r5 w5 _ _ => ?_
          refine calS w5 (hs _ _ _ _ _ w5.ph e6) fun g6 r6 w6 _ _ => ?_
          refine rowS [a5, a6] w6 rfl rfl fun g7 v7 rt w7 l7 _ _ => ?_
          exact nodA w7 (by omega) l7.kid hp fun g8 r8 w8 _ _ => QA.fin w8
        · have ht' : (c.toks[st.at' + 1].text.toList == (⟨#[61]⟩ : ByteArray).toList) = false := by simpa using ht
          rw [ht'] at en
          rw [ht']
          exact no (fun z => by rw [en] at z; exact absurd z.2 (by decide))
      · have h5' : (c.toks[st.at' + 1].k == 5) = false := by simpa using h5
        rw [h5', Bool.false_and] at en
        exact pcf (by simpa using h5) (no (fun z => by rw [en] at z; exact absurd z.2 (by decide)))
    · have en : eqNext c st = false := by unfold eqNext; rw [List.getElem?_eq_none (by omega)]
      exact pcf (decide_eq_false (by omega)) (no (fun z => by rw [en] at z; exact absurd z.2 (by decide)))
  · exact pcf (by simpa using k1) (no (fun z => k1 z.1))
theorem blk_loop2 {stm : PI} (hD : 2 ≤ D) (hs : Simq c D 82 stm) {h0 : AHeap} {rn0 : Option Nat} {rt : Nat} (hrt : h0.size ≤ rt) {a : Int} {st' : PSt} :
    ∀ (n m : Nat) (ks : List Int) (v : Value) (h : AHeap) (st : PSt) (rn : Option Nat), n ≤ m → QS c rn0 h0 st rn h → PLI h v ks rt →
    ((blkLoop c stm n ks st).bind fun l => (wantP c ⟨#[125]⟩ l.2).bind fun s => (nestTo (-1) s).bind fun s => nodeS 21 E0 0 l.1 s) = some (a, st') →
    QA c h0 rn0 (.int .i64 a) st' (s138_0 hk0 (call Try.prog Ms D) D m (ptr c.p 0) v h) := by
  intro n
  induction n with
  | zero => intro m ks v h st rn hm w li hp; cases hp
  | succ n ih =>
    intro m ks v h st rn hm w li hp
    obtain ⟨m, rfl⟩ : ∃ q, m = q + 1 := ⟨m - 1, by omega⟩
    rw [s138_0_eq]
    rw [blkLoop] at hp
    refine codS w ?_
    by_cases hc : st.code = 0
    · refine pct (by simp [hc]) (calB w (q134 (by omega) w.ph) fun g1 r1 w1 k1 _ => ?_)
      by_cases hi : isP c st ⟨#[125]⟩ = false
      · rw [if_pos ⟨hc, hi⟩] at hp
        obtain ⟨l, e0, hp⟩ := bnd hp
        obtain ⟨⟨a4, s4⟩, e4, e0⟩ := bnd e0
        by_cases hb2 : ks.length > 1000000
        · rw [if_pos hb2] at e0; cases e0
        rw [if_neg hb2] at e0
        have hp' : ((blkLoop c stm n (ks ++ [a4]) s4).bind fun l => (wantP c ⟨#[125]⟩ l.2).bind fun s => (nestTo (-1) s).bind fun s => nodeS 21 E0 0 l.1 s) = some (a, st') := by
          dsimp only at e0; rw [e0]; exact hp
        refine pct (by simp [hi]) ?_
        rw [s138_1_j, s138_1_eq]
        refine calS w1 (hs _ _ _ _ _ w1.ph e4) fun g4 r4 w4 k4 _ => ?_
        refine pushS w4 ((li.qk k1).qk k4) hrt (by omega) fun g5 v5 w5 l5 _ => ?_
        exact ih m (ks ++ [a4]) v5 g5 s4 r4 (by omega) w5 l5 hp'
      · rw [if_neg (fun z => hi z.2), Option.bind_some] at hp
        dsimp only at hp
        obtain ⟨s2, e2, hp⟩ := bnd hp
        obtain ⟨s3, e3, hp⟩ := bnd hp
        refine pcf (by simpa using hi) (calU w1 (q136 hD w1.ph e2) fun g2 r2 w2 k2 _ => ?_)
        refine decS w2 e3 fun g3 w3 k3 => ?_
        exact nodA w3 (by omega) (((li.qk k1).qk k2).qk k3).kid hp fun g5 r5 w5 _ _ => QA.fin w5
    · rw [if_neg (fun z => hc z.1), Option.bind_some] at hp
      dsimp only at hp
      obtain ⟨s2, e2, hp⟩ := bnd hp
      obtain ⟨s3, e3, hp⟩ := bnd hp
      refine pcf (by simpa using hc) (calU w (q136 hD w.ph e2) fun g2 r2 w2 k2 _ => ?_)
      refine decS w2 e3 fun g3 w3 k3 => ?_
      exact nodA w3 (by omega) ((li.qk k2).qk k3).kid hp fun g5 r5 w5 _ _ => QA.fin w5
theorem s138 {stm : PI} (hD : 2 ≤ D) (hs : Simq c D 82 stm) : Simq c (D + 1) 138 (blockS c stm D) := by
  intro h st rn a st' x hp
  have w := QS.new x
  rw [c138, e138]
  unfold blockS at hp
  obtain ⟨⟨b, s1⟩, e1, hp⟩ := bnd hp
  refine calB w (q175 hD x e1) fun g1 r1 w1 k1 n1 => ?_
  cases b with
  | false => cases hp; exact pct rfl (QA.fin w1)
  | true =>
    obtain ⟨s2, e2, hp⟩ := bnd hp
    refine pcf rfl (calU w1 (q136 hD w1.ph e2) fun g2 r2 w2 k2 _ => ?_)
    refine rowS [] w2 rfl rfl fun g3 v3 rt w3 l3 _ hr => ?_
    exact blk_loop2 hD hs (Nat.le_trans w2.fr.1 hr) D D [] v3 g3 s2 r2 (Nat.le_refl _) w3 l3 hp
theorem s82 {ex blk asg : PI} (hD : 2 ≤ D) (hs : Simq c D 137 ex) (hb : Simq c D 138 blk) (ha : Simq c D 139 asg) : Simq c (D + 1) 82 (stmtS c ex blk asg) := by
  intro h st rn a st' x hp
  have w := QS.new x
  rw [c82, e82]
  unfold stmtS at hp
  refine calB w (q134 (by omega) x) fun g1 r1 w1 _ _ => ?_
  by_cases i1 : isP c st ⟨#[108, 111, 99, 97, 108]⟩ = true
  · rw [if_pos i1] at hp
    obtain ⟨s2, e2, hp⟩ := bnd hp
    obtain ⟨⟨t3, s3⟩, e3, hp⟩ := bnd hp
    obtain ⟨s4, e4, hp⟩ := bnd hp
    obtain ⟨⟨a5, s5⟩, e5, hp⟩ := bnd hp
    obtain ⟨s6, e6, hp⟩ := bnd hp
    refine pct i1 (incS w1 e2 fun g2 w2 _ => ?_)
    refine calT w2 (q135 hD w2.ph e3) fun g3 r3 w3 _ _ => ?_
    refine calU w3 (q136 hD w3.ph e4) fun g4 r4 w4 _ _ => ?_
    refine calS w4 (hs _ _ _ _ _ w4.ph e5) fun g5 r5 w5 _ _ => ?_
    refine calU w5 (q136 hD w5.ph e6) fun g6 r6 w6 _ _ => ?_
    refine rowS [a5] w6 rfl rfl fun g7 v7 rt w7 l7 _ _ => ?_
    exact nodC w7 (by omega) l7.kid hp fun g8 r8 w8 _ _ => QA.fin w8
  rw [if_neg i1] at hp
  refine pcf (by simpa using i1) (calB w1 (q134 (by omega) w1.ph) fun g2 r2 w2 _ _ => ?_)
  by_cases i2 : isP c st ⟨#[105, 102]⟩ = true
  · rw [if_pos i2] at hp
    obtain ⟨s3, e3, hp⟩ := bnd hp
    obtain ⟨⟨a4, s4⟩, e4, hp⟩ := bnd hp
    obtain ⟨⟨a5, s5⟩, e5, hp⟩ := bnd hp
    refine pct i2 (incS w2 e3 fun g3 w3 _ => ?_)
    refine calS w3 (hs _ _ _ _ _ w3.ph e4) fun g4 r4 w4 _ _ => ?_
    refine calS w4 (hb _ _ _ _ _ w4.ph e5) fun g5 r5 w5 _ _ => ?_
    refine rowS [a4, a5] w5 rfl rfl fun g6 v6 rt w6 l6 _ hr => ?_
    refine calB w6 (q134 (by omega) w6.ph) fun g7 r7 w7 k7 _ => ?_
    by_cases i3 : isP c s5 ⟨#[101, 108, 115, 101]⟩ = true
    · rw [if_pos i3] at hp
      obtain ⟨s8, e8, hp⟩ := bnd hp
      obtain ⟨⟨a9, s9⟩, e9, hp⟩ := bnd hp
      refine pct i3 (incS w7 e8 fun g8 w8 k8 => ?_)
      refine calS w8 (hb _ _ _ _ _ w8.ph e9) fun g9 r9 w9 k9 _ => ?_
      refine pushS w9 (((l6.qk k7).qk k8).qk k9) (Nat.le_trans w5.fr.1 hr) (by show 2 ≤ 9000000; omega) fun g10 v10 w10 l10 _ => ?_
      rw [s82_0_j, s82_0_eq]
      exact nodA (ks := [a4, a5, a9]) w10 (by omega) l10.kid hp fun g11 r11 w11 _ _ => QA.fin w11
    · rw [if_neg i3] at hp
      refine pcf (by simpa using i3) ?_
      rw [s82_0_j, s82_0_eq]
      exact nodA w7 (by omega) (l6.qk k7).kid hp fun g11 r11 w11 _ _ => QA.fin w11
  rw [if_neg i2] at hp
  refine pcf (by simpa using i2) (calB w2 (q134 (by omega) w2.ph) fun g3 r3 w3 _ _ => ?_)
  by_cases i3 : isP c st ⟨#[119, 104, 105, 108, 101]⟩ = true
  · rw [if_pos i3] at hp
    obtain ⟨s4, e4, hp⟩ := bnd hp
    obtain ⟨⟨a5, s5⟩, e5, hp⟩ := bnd hp
    obtain ⟨⟨a6, s6⟩, e6, hp⟩ := bnd hp
    refine pct i3 (incS w3 e4 fun g4 w4 _ => ?_)
    refine calS w4 (hs _ _ _ _ _ w4.ph e5) fun g5 r5 w5 _ _ => ?_
    refine calS w5 (hb _ _ _ _ _ w5.ph e6) fun g6 r6 w6 _ _ => ?_
    refine rowS [a5, a6] w6 rfl rfl fun g7 v7 rt w7 l7 _ _ => ?_
    exact nodA w7 (by omega) l7.kid hp fun g8 r8 w8 _ _ => QA.fin w8
  rw [if_neg i3] at hp
  refine pcf (by simpa using i3) (calB w3 (q134 (by omega) w3.ph) fun g4 r4 w4 _ _ => ?_)
  by_cases i4 : isP c st ⟨#[114, 101, 116, 117, 114, 110]⟩ = true
  · rw [if_pos i4] at hp
    obtain ⟨s5, e5, hp⟩ := bnd hp
    obtain ⟨⟨a6, s6⟩, e6, hp⟩ := bnd hp
    obtain ⟨s7, e7, hp⟩ := bnd hp
    refine pct i4 (incS w4 e5 fun g5 w5 _ => ?_)
    refine calS w5 (hs _ _ _ _ _ w5.ph e6) fun g6 r6 w6 _ _ => ?_
    refine calU w6 (q136 hD w6.ph e7) fun g7 r7 w7 _ _ => ?_
    refine rowS [a6] w7 rfl rfl fun g8 v8 rt w8 l8 _ _ => ?_
    exact nodA w8 (by omega) l8.kid hp fun g9 r9 w9 _ _ => QA.fin w9
  rw [if_neg i4] at hp
  exact pcf (by simpa using i4) (calS w4 (ha _ _ _ _ _ w4.ph hp) fun g5 r5 w5 _ _ => QA.fin w5)
end
end Go.Proofs.Ytadmoackacickaa
/- The reference's parser: a statement that begins with an expression; all of it. -/
set_option linter.unusedSimpArgs false
namespace Go.Proofs.Ytadmoackacickaa
open Go Go.AH

section
variable {c : PC} {D : Nat}
theorem OwnR.q73 {h g : AHeap} {q : Nat} {cs : List Value} {rn : Option Nat} (x : OwnR h q q 73 cs) (k : QK rn h g) (hn : rn ≠ some q) : OwnR g q q 73 cs :=
  let ⟨ep, a⟩ := x; ⟨ep, k.2.1 q _ a (by show (73 : TypeId) ≠ 114; decide) (fun _ => hn)⟩
theorem PRN.ne {rn rn' : Option Nat} {h : AHeap} {q : Nat} (x : PRN rn rn' h) (hq : q < h.size) (hn : rn ≠ some q) : rn' ≠ some q := by
  rcases x with rfl | ⟨r, rfl, hr⟩
  · exact hn
  · intro e; have : r = q := by simpa using e
    omega
theorem NodesH.rn_lt {h : AHeap} {nv : Value} {ns : List Kn} {rn : Option Nat} (x : NodesH h nv ns rn) : rn ≠ some h.size := by
  rcases x with ⟨_, _, rfl⟩ | ⟨i, root, cells, _, rfl, o, _⟩
  · simp
  · have := o.lt
    intro e; have : root = h.size := by simpa using e
    omega
/-- A copy of a node in a row of one's own. -/
theorem ownKr (h : AHeap) (n : Kn) {kv : Value} (k : KidH h kv n.ks) :
    ∃ g, aSt (h.new 73 [.int .i64 0, .string ⟨#[]⟩, .int .i64 0, .slice none 0 0]) (ptr h.size 0) (knVal n kv) 4 = some g ∧ Ext h.size h g ∧ OwnR g h.size h.size 73 (knCells n kv) := by
  obtain ⟨ep, a⟩ := OwnR.new h 73 [.int .i64 0, .string ⟨#[]⟩, .int .i64 0, .slice none 0 0]
  have hi := at?_obj a
  refine ⟨(h.new 73 [.int .i64 0, .string ⟨#[]⟩, .int .i64 0, .slice none 0 0]).put h.size ⟨h.size, ep, false, 73, [.int .i64 0, .string ⟨#[]⟩, .int .i64 0, .slice none 0 0]⟩ (knCells n kv), ?_, (Ext.new (Nat.le_refl h.size) 73 _).trans (Ext.put (i := h.size) (o := ⟨h.size, ep, false, 73, [.int .i64 0, .string ⟨#[]⟩, .int .i64 0, .slice none 0 0]⟩) (Nat.le_refl h.size) (Nat.le_refl h.size) _), ⟨_, at?_put_same a _⟩⟩
  have kc := kn_cells (kv := kv) k.cell n
  simp [aSt, ptr, a, kc, knCells, splice]
/-- A node's copy is at hand. -/
def Cp (g : AHeap) (rn : Option Nat) (q : Nat) (n : Kn) (kv : Value) : Prop := OwnR g q q 73 (knCells n kv) ∧ KidH g kv n.ks ∧ rn ≠ some q
theorem Cp.next {h g : AHeap} {rn rn' : Option Nat} {q : Nat} {n : Kn} {kv : Value} (x : Cp h rn q n kv) (k : QK rn h g) (r : PRN rn rn' h) : Cp g rn' q n kv :=
  ⟨x.1.q73 k x.2.2, x.2.1.qk k, r.ne x.1.lt.2 x.2.2⟩
theorem KidH.ab {h : AHeap} {kv : Value} {a b : Int} (x : KidH h kv [a, b]) : ∃ p1 p2, aIdx kv (.int .i64 0) 1 = some p1 ∧ aLd1 h p1 = some (.int .i64 a) ∧ aIdx kv (.int .i64 1) 1 = some p2 ∧ aLd1 h p2 = some (.int .i64 b) := by
  obtain ⟨p, p1, p2⟩ := x.at (j := 0) (by show 0 < 2; omega)
  obtain ⟨q, q1, q2⟩ := x.at (j := 1) (by show 1 < 2; omega)
  exact ⟨p, q, p1, p2, q1, q2⟩
/-- The nodes are cut. -/
theorem cutS {P : Option (Value × AHeap) → Prop} {K : AHeap → Option (Value × AHeap)} {rn0 rn : Option Nat} {h0 h : AHeap} {st st' : PSt} {e : Int} (w : QS c rn0 h0 st rn h) (he : cutP e st = some st') (hk : ∀ g, QS c rn0 h0 st' rn g → QK rn h g → P (K g)) :
    P ((aNil (ptr c.p 0)).bind fun v44 => (aOff v44 2).bind fun v45 => (aLd1 h v45).bind fun v46 => (aSub h 73 v46 none (some (.int .i64 e)) 4).bind fun v47 => (aNil (ptr c.p 0)).bind fun v48 => (aOff v48 2).bind fun v49 => (aSt h v49 v47 1).bind fun h50 => K h50) := by
  unfold cutP at he
  by_cases hc : 0 ≤ e ∧ e ≤ st.nodes.length
  · rw [if_pos hc] at he; cases he
    obtain ⟨nv, a, b, d⟩ := w.ph
    obtain ⟨nv', u, d'⟩ := d.cut hc
    obtain ⟨g, t, o', s, k, tp⟩ := stQ a (i := 2) (by show 2 < 7; omega) (v := nv') (aCells_one d'.cell)
    have pk : QK rn h g := ⟨by omega, fun j o hj h81 _ => k j o hj h81, fun r _ => tp r⟩
    have f2 : aLd1 h (ptr c.p 2) = some nv := a.row.ld1 rfl
    exact pb rfl (pb rfl (pb f2 (pb u (pb rfl (pb rfl (pb t (hk g (w.next ⟨⟨nv', o', b.qk pk, d'.keepq k⟩, pk, PRN.refl rn h⟩) pk)))))))
  · rw [if_neg hc] at he; cases he
theorem ld73 {h : AHeap} {q : Nat} {n : Kn} {kv : Value} (x : OwnR h q q 73 (knCells n kv)) : aLd1 h (ptr q 0) = some (.int .i64 n.k) ∧ aLd1 h (ptr q 1) = some (.string n.t) ∧ aLd1 h (ptr q 3) = some kv := ⟨x.row.ld1 rfl, x.row.ld1 rfl, x.row.ld1 rfl⟩
theorem asg2 {ex : PI} (hD : 2 ≤ D) (hs : Simq c D 137 ex) {h0 h : AHeap} {rn0 rn : Option Nat} {st st' : PSt} {e a : Int} {q : Nat} {n : Kn} {kv : Value} {b : Bool} (w : QS c rn0 h0 st rn h) (cp : Cp h rn q n kv)
    (hp : (if b = true then (match n.ks with
        | [x, y] => (adv 1 st).bind fun s => (cutP e s).bind fun s => (ex s).bind fun v => (wantP c ⟨#[59]⟩ v.2).bind fun s => nodeS 16 E0 0 [x, y, v.1] s
        | _ => none) else some (-1, failP c st 2)) = some (a, st')) :
    QA c h0 rn0 (.int .i64 a) st' (s139_2 hk0 (call Try.prog Ms D) D (ptr c.p 0) e (ptr q 0) b h) := by
  rw [s139_2_j, s139_2_eq]
  cases b with
  | false =>
    rw [if_neg (by simp)] at hp; cases hp
    exact pcf rfl (calS w (q174 (by omega) w.ph) fun g r w1 _ _ => QA.fin w1)
  | true =>
    rw [if_pos rfl] at hp
    obtain ⟨ck, ct, ci, cks⟩ := n
    dsimp only at hp
    match cks, hp with
    | [x, y], hp =>
      obtain ⟨s1, e1, hp⟩ := bnd hp
      obtain ⟨s2, e2, hp⟩ := bnd hp
      obtain ⟨⟨a3, s3⟩, e3, hp⟩ := bnd hp
      obtain ⟨s4, e4, hp⟩ := bnd hp
      refine pct rfl (incS w e1 fun g1 w1 k1 => ?_)
      have cp1 := cp.next k1 (PRN.refl _ _)
      refine cutS w1 e2 fun g2 w2 k2 => ?_
      have cp2 := cp1.next k2 (PRN.refl _ _)
      refine calS w2 (hs _ _ _ _ _ w2.ph e3) fun g3 r3 w3 k3 n3 => ?_
      have cp3 := cp2.next k3 n3
      refine calU w3 (q136 hD w3.ph e4) fun g4 r4 w4 k4 n4 => ?_
      have cp4 := cp3.next k4 n4
      obtain ⟨p1, p2, b1, b2, b3, b4⟩ := cp4.2.1.ab
      obtain ⟨_, _, l3⟩ := ld73 cp4.1
      refine pb rfl (pb l3 (pb b1 (pb b2 (pb rfl (pb rfl (pb l3 (pb b3 (pb b4 (pb rfl ?_)))))))))
      refine rowS [x, y, a3] w4 rfl rfl fun g5 v5 rt w5 l5 _ _ => ?_
      exact nodA w5 (by omega) l5.kid hp fun g6 r6 w6 _ _ => QA.fin w6
theorem asg1 {ex : PI} (hD : 2 ≤ D) (hs : Simq c D 137 ex) {h0 h : AHeap} {rn0 rn : Option Nat} {st st' : PSt} {e a : Int} {q : Nat} {n : Kn} {kv : Value} {b : Bool} (w : QS c rn0 h0 st rn h) (cp : Cp h rn q n kv)
    (hp : (if b = true then (adv 1 st).bind fun s => (cutP e s).bind fun s => (ex s).bind fun v => (wantP c ⟨#[59]⟩ v.2).bind fun s => nodeS 15 n.t 0 [v.1] s
      else if isP c st ⟨#[61]⟩ = true ∧ n.k = 8 then (match n.ks with
        | [x, y] => (adv 1 st).bind fun s => (cutP e s).bind fun s => (ex s).bind fun v => (wantP c ⟨#[59]⟩ v.2).bind fun s => nodeS 16 E0 0 [x, y, v.1] s
        | _ => none) else some (-1, failP c st 2)) = some (a, st')) :
    QA c h0 rn0 (.int .i64 a) st' (s139_1 hk0 (call Try.prog Ms D) D (ptr c.p 0) e (ptr q 0) b h) := by
  rw [s139_1_j, s139_1_eq]
  cases b with
  | true =>
    rw [if_pos rfl] at hp
    obtain ⟨s1, e1, hp⟩ := bnd hp
    obtain ⟨s2, e2, hp⟩ := bnd hp
    obtain ⟨⟨a3, s3⟩, e3, hp⟩ := bnd hp
    obtain ⟨s4, e4, hp⟩ := bnd hp
    refine pct rfl (incS w e1 fun g1 w1 k1 => ?_)
    have cp1 := cp.next k1 (PRN.refl _ _)
    refine cutS w1 e2 fun g2 w2 k2 => ?_
    have cp2 := cp1.next k2 (PRN.refl _ _)
    refine calS w2 (hs _ _ _ _ _ w2.ph e3) fun g3 r3 w3 k3 n3 => ?_
    have cp3 := cp2.next k3 n3
    refine calU w3 (q136 hD w3.ph e4) fun g4 r4 w4 k4 n4 => ?_
    have cp4 := cp3.next k4 n4
    obtain ⟨_, l1, _⟩ := ld73 cp4.1
    refine pb rfl (pb l1 (pb rfl ?_))
    refine rowS [a3] w4 rfl rfl fun g5 v5 rt w5 l5 _ _ => ?_
    exact nodC w5 (by omega) l5.kid hp fun g6 r6 w6 _ _ => QA.fin w6
  | false =>
    rw [if_neg (by simp)] at hp
    refine pcf rfl (calB w (q134 (by omega) w.ph) fun g1 r1 w1 k1 n1 => ?_)
    have cp1 := cp.next k1 n1
    by_cases i1 : isP c st ⟨#[61]⟩ = true
    · obtain ⟨l0, _, _⟩ := ld73 cp1.1
      refine pct i1 (pb rfl (pb l0 (pb rfl ?_)))
      refine asg2 hD hs w1 cp1 ?_
      rw [← hp]
      by_cases h8 : n.k = 8
      · rw [if_pos (c := (n.k == 8) = true) (by simp [h8]), if_pos ⟨i1, h8⟩]
      · rw [if_neg (c := (n.k == 8) = true) (by simp [h8]), if_neg (fun z => h8 z.2)]
    · rw [if_neg (fun z => i1 z.1)] at hp
      refine pcf (by simpa using i1) (asg2 hD hs w1 cp1 (b := false) ?_)
      rw [if_neg (by simp)]; exact hp
theorem asg0 {ex : PI} (hD : 2 ≤ D) (hs : Simq c D 137 ex) {h0 h : AHeap} {rn0 rn : Option Nat} {st st' : PSt} {e a : Int} {q : Nat} {n : Kn} {kv : Value} {b : Bool} (w : QS c rn0 h0 st rn h) (cp : Cp h rn q n kv)
    (hp : (if b = true then (adv 1 st).bind fun s => nodeS 20 E0 0 [e] s
      else if isP c st ⟨#[61]⟩ = true ∧ n.k = 5 then (adv 1 st).bind fun s => (cutP e s).bind fun s => (ex s).bind fun v => (wantP c ⟨#[59]⟩ v.2).bind fun s => nodeS 15 n.t 0 [v.1] s
      else if isP c st ⟨#[61]⟩ = true ∧ n.k = 8 then (match n.ks with
        | [x, y] => (adv 1 st).bind fun s => (cutP e s).bind fun s => (ex s).bind fun v => (wantP c ⟨#[59]⟩ v.2).bind fun s => nodeS 16 E0 0 [x, y, v.1] s
        | _ => none) else some (-1, failP c st 2)) = some (a, st')) :
    QA c h0 rn0 (.int .i64 a) st' (s139_0 hk0 (call Try.prog Ms D) D (ptr c.p 0) e (ptr q 0) b h) := by
  rw [s139_0_j, s139_0_eq]
  cases b with
  | true =>
    rw [if_pos rfl] at hp
    obtain ⟨s1, e1, hp⟩ := bnd hp
    refine pct rfl (incS w e1 fun g1 w1 k1 => ?_)
    refine rowS [e] w1 rfl rfl fun g5 v5 rt w5 l5 _ _ => ?_
    exact nodA w5 (by omega) l5.kid hp fun g6 r6 w6 _ _ => QA.fin w6
  | false =>
    rw [if_neg (by simp)] at hp
    refine pcf rfl (calB w (q134 (by omega) w.ph) fun g1 r1 w1 k1 n1 => ?_)
    have cp1 := cp.next k1 n1
    by_cases i1 : isP c st ⟨#[61]⟩ = true
    · obtain ⟨l0, _, _⟩ := ld73 cp1.1
      refine pct i1 (pb rfl (pb l0 (pb rfl ?_)))
      refine asg1 hD hs w1 cp1 ?_
      rw [← hp]
      by_cases h5 : n.k = 5
      · rw [if_pos (c := (n.k == 5) = true) (by simp [h5]), if_pos ⟨i1, h5⟩]
      · rw [if_neg (c := (n.k == 5) = true) (by simp [h5]), if_neg (c := isP c st ⟨#[61]⟩ = true ∧ n.k = 5) (fun z => h5 z.2)]
    · rw [if_neg (fun z => i1 z.1)] at hp
      refine pcf (by simpa using i1) (asg1 hD hs w1 cp1 (b := false) ?_)
      rw [if_neg (by simp)]; exact hp
theorem s139 {ex : PI} (hD : 2 ≤ D) (hs : Simq c D 137 ex) : Simq c (D + 1) 139 (assignS c ex) := by
  intro h st rn a st' x hp
  have w := QS.new x
  rw [c139, e139]
  unfold assignS at hp
  obtain ⟨⟨e, s1⟩, e1, hp⟩ := bnd hp
  refine calS w (hs _ _ _ _ _ x e1) fun g1 r1 w1 k1 n1 => ?_
  dsimp only at hp
  refine codS w1 ?_
  by_cases hc : s1.code = 0
  · rw [if_pos hc] at hp
    refine pcf (by simp [hc]) ?_
    match hn : s1.nodes[e.toNat]?, hp with
    | some n, hp =>
      dsimp only at hp
      by_cases he : e < 0
      · rw [if_pos he] at hp; cases hp
      rw [if_neg he] at hp
      obtain ⟨nv, nd, f0, f1, f2, _⟩ := w1.ph.ld
      obtain ⟨p, kv, b1, b2, kd⟩ := nd.at (e := e) (by omega) hn
      obtain ⟨g2, t2, e2, o2⟩ := ownKr g1 n kd
      have w2 := w1.ext e2
      have cp2 : Cp g2 r1 g1.size n kv := ⟨o2, kd.ext e2, nd.rn_lt⟩
      refine pb rfl (pb rfl (pb f2 (pb b1 (pb b2 (nN (pb t2 ?_))))))
      refine calB w2 (q134 (by omega) w2.ph) fun g3 r3 w3 k3 n3 => ?_
      have cp3 := cp2.next k3 n3
      by_cases i1 : isP c s1 ⟨#[59]⟩ = true
      · obtain ⟨l0, _, _⟩ := ld73 cp3.1
        refine pct i1 (pb rfl (pb l0 (pb rfl ?_)))
        refine asg0 hD hs w3 cp3 ?_
        rw [← hp]
        by_cases h9 : n.k = 9
        · rw [if_pos (c := (n.k == 9) = true) (by simp [h9]), if_pos ⟨i1, h9⟩]
        · rw [if_neg (c := (n.k == 9) = true) (by simp [h9]), if_neg (c := isP c s1 ⟨#[59]⟩ = true ∧ n.k = 9) (fun z => h9 z.2)]
          all_goals rfl
      · rw [if_neg (fun z => i1 z.1)] at hp
        refine pcf (by simpa using i1) (asg0 hD hs w3 cp3 (b := false) ?_)
        rw [if_neg (by simp)]; exact hp
  · rw [if_neg hc] at hp; cases hp
    exact pct (by simpa using hc) (QA.fin w1)
end
section
variable {c : PC} {D : Nat} {st : PSt} (h : ¬ D < 30)
include h
theorem sp_137 : sp c (D + 1) 137 st = exprS c (sp c D 1761) st := by rw [sp, if_neg h]; rfl
theorem sp_1767 : sp c (D + 1) 1767 st = sp c D 197 st := by rw [sp, if_neg h]; rfl
theorem sp_197 : sp c (D + 1) 197 st = turnS c (sp c D 197) (sp c D 204) st := by rw [sp, if_neg h]; rfl
theorem sp_204 : sp c (D + 1) 204 st = suffixS c (sp c D 222) (sp c D 137) D st := by rw [sp, if_neg h]; rfl
theorem sp_222 : sp c (D + 1) 222 st = primaryS c (sp c D 137) (sp c D 233) (sp c D 234) st := by rw [sp, if_neg h]; rfl
theorem sp_233 : sp c (D + 1) 233 st = fnS c (sp c D 138) D st := by rw [sp, if_neg h]; rfl
theorem sp_234 : sp c (D + 1) 234 st = tableS c (sp c D 239) D st := by rw [sp, if_neg h]; rfl
theorem sp_239 : sp c (D + 1) 239 st = fieldS c (sp c D 137) st := by rw [sp, if_neg h]; rfl
theorem sp_138 : sp c (D + 1) 138 st = blockS c (sp c D 82) D st := by rw [sp, if_neg h]; rfl
theorem sp_139 : sp c (D + 1) 139 st = assignS c (sp c D 137) st := by rw [sp, if_neg h]; rfl
theorem sp_82 : sp c (D + 1) 82 st = stmtS c (sp c D 137) (sp c D 138) (sp c D 139) st := by rw [sp, if_neg h]; rfl
theorem sp_1761 : sp c (D + 1) 1761 st = levelS c 1 (sp c D 1762) D st := by rw [sp, if_neg h]; rfl
theorem sp_1762 : sp c (D + 1) 1762 st = levelS c 2 (sp c D 1763) D st := by rw [sp, if_neg h]; rfl
theorem sp_1763 : sp c (D + 1) 1763 st = levelS c 3 (sp c D 1764) D st := by rw [sp, if_neg h]; rfl
theorem sp_1764 : sp c (D + 1) 1764 st = levelS c 4 (sp c D 1765) D st := by rw [sp, if_neg h]; rfl
theorem sp_1765 : sp c (D + 1) 1765 st = levelS c 5 (sp c D 1766) D st := by rw [sp, if_neg h]; rfl
theorem sp_1766 : sp c (D + 1) 1766 st = levelS c 6 (sp c D 1767) D st := by rw [sp, if_neg h]; rfl
end
structure AllSq (c : PC) (D : Nat) : Prop where
  s137 : Simq c D 137 (sp c D 137)
  s197 : Simq c D 197 (sp c D 197)
  s204 : Simq c D 204 (sp c D 204)
  s222 : Simq c D 222 (sp c D 222)
  s233 : Simq c D 233 (sp c D 233)
  s234 : Simq c D 234 (sp c D 234)
  s239 : Simq c D 239 (sp c D 239)
  s138 : Simq c D 138 (sp c D 138)
  s139 : Simq c D 139 (sp c D 139)
  s82 : Simq c D 82 (sp c D 82)
  v1 : Simv c D 1 (sp c D 1761)
  v2 : Simv c D 2 (sp c D 1762)
  v3 : Simv c D 3 (sp c D 1763)
  v4 : Simv c D 4 (sp c D 1764)
  v5 : Simv c D 5 (sp c D 1765)
  v6 : Simv c D 6 (sp c D 1766)
  v7 : Simv c D 7 (sp c D 1767)
theorem Simq.of {c : PC} {D k : Nat} {m m' : PI} (x : Simq c D k m) (e : ∀ st, m' st = m st) : Simq c D k m' := fun h st rn a st' p hp => x h st rn a st' p (by rw [← e]; exact hp)
theorem Simq.none {c : PC} {D k : Nat} {m : PI} (e : ∀ st, m st = none) : Simq c D k m := fun h st rn a st' p hp => by rw [e] at hp; cases hp
theorem Simv.of {c : PC} {D : Nat} {L : Int} {m m' : PI} (x : Simv c D L m) (e : ∀ st, m' st = m st) : Simv c D L m' := fun h st rn a st' p hp => x h st rn a st' p (by rw [← e]; exact hp)
theorem Simv.none {c : PC} {D : Nat} {L : Int} {m : PI} (e : ∀ st, m st = none) : Simv c D L m := fun h st rn a st' p hp => by rw [e] at hp; cases hp
theorem allSq (c : PC) : ∀ D, AllSq c D := by
  intro D
  induction D with
  | zero => exact ⟨Simq.none (fun _ => rfl), Simq.none (fun _ => rfl), Simq.none (fun _ => rfl), Simq.none (fun _ => rfl), Simq.none (fun _ => rfl), Simq.none (fun _ => rfl), Simq.none (fun _ => rfl), Simq.none (fun _ => rfl), Simq.none (fun _ => rfl), Simq.none (fun _ => rfl),
      Simv.none (fun _ => rfl), Simv.none (fun _ => rfl), Simv.none (fun _ => rfl), Simv.none (fun _ => rfl), Simv.none (fun _ => rfl), Simv.none (fun _ => rfl), Simv.none (fun _ => rfl)⟩
  | succ D H =>
    by_cases h : D < 30
    · have e : ∀ k st, sp c (D + 1) k st = none := fun k st => by rw [sp, if_pos h]
      exact ⟨Simq.none (e 137), Simq.none (e 197), Simq.none (e 204), Simq.none (e 222), Simq.none (e 233), Simq.none (e 234), Simq.none (e 239), Simq.none (e 138), Simq.none (e 139), Simq.none (e 82),
        Simv.none (e 1761), Simv.none (e 1762), Simv.none (e 1763), Simv.none (e 1764), Simv.none (e 1765), Simv.none (e 1766), Simv.none (e 1767)⟩
    · constructor
      · exact Simq.of (Ytadmoackacickaa.s137 (by omega) H.v1) (fun _ => sp_137 h)
      · exact Simq.of (Ytadmoackacickaa.s197 (by omega) H.s197 H.s204) (fun _ => sp_197 h)
      · exact Simq.of (Ytadmoackacickaa.s204 (by omega) H.s222 H.s137) (fun _ => sp_204 h)
      · exact Simq.of (Ytadmoackacickaa.s222 (by omega) H.s137 H.s233 H.s234) (fun _ => sp_222 h)
      · exact Simq.of (Ytadmoackacickaa.s233 (by omega) H.s138) (fun _ => sp_233 h)
      · exact Simq.of (Ytadmoackacickaa.s234 (by omega) H.s239) (fun _ => sp_234 h)
      · exact Simq.of (Ytadmoackacickaa.s239 (by omega) H.s137) (fun _ => sp_239 h)
      · exact Simq.of (Ytadmoackacickaa.s138 (by omega) H.s82) (fun _ => sp_138 h)
      · exact Simq.of (Ytadmoackacickaa.s139 (by omega) H.s137) (fun _ => sp_139 h)
      · exact Simq.of (Ytadmoackacickaa.s82 (by omega) H.s137 H.s138 H.s139) (fun _ => sp_82 h)
      · exact Simv.of (s176 (L := 1) (by omega) (by decide) (by decide) H.v2) (fun _ => sp_1761 h)
      · exact Simv.of (s176 (L := 2) (by omega) (by decide) (by decide) H.v3) (fun _ => sp_1762 h)
      · exact Simv.of (s176 (L := 3) (by omega) (by decide) (by decide) H.v4) (fun _ => sp_1763 h)
      · exact Simv.of (s176 (L := 4) (by omega) (by decide) (by decide) H.v5) (fun _ => sp_1764 h)
      · exact Simv.of (s176 (L := 5) (by omega) (by decide) (by decide) H.v6) (fun _ => sp_1765 h)
      · exact Simv.of (s176 (L := 6) (by omega) (by decide) (by decide) H.v7) (fun _ => sp_1766 h)
      · exact Simv.of (s1767 H.s197) (fun _ => sp_1767 h)
end Go.Proofs.Ytadmoackacickaa
/- impl's parser, once more: what begins with an expression; all of it. -/
set_option linter.unusedSimpArgs false
namespace Go.Proofs.Ytadmoackacickaa
open Go Go.AH

theorem NodesG.cut {h : AHeap} {nv : Value} {ns : List Kn} {g : GR} (x : NodesG h nv ns g) {e : Int} (he : 0 ≤ e ∧ e ≤ ns.length) :
    ∃ nv' g', aSub h 73 nv none (some (.int .i64 e)) 4 = some nv' ∧ NodesG h nv' (ns.take e.toNat) g' ∧ gRoot g' = gRoot g ∧ ∀ q ∈ gKids g', q ∈ gKids g := by
  rcases x with ⟨rfl, rfl, rfl⟩ | ⟨i, root, cells, rts, rfl, rfl, o, hl, h1, h2, h3, hx⟩
  · have : e = 0 := by have := he.2; simp at this; omega
    subst this
    exact ⟨.slice none 0 0, none, rfl, .inl ⟨rfl, rfl, rfl⟩, rfl, fun q hq => hq⟩
  · obtain ⟨ep, ha⟩ := o
    refine ⟨slc i 0 e.toNat, some (root, rts.take e.toNat), ?_, .inr ⟨i, root, cells, rts.take e.toNat, ?_, rfl, ⟨ep, ha⟩, ?_, ?_, ?_, fun q hq => h3 q (List.mem_of_mem_take hq), ?_⟩, rfl, fun q hq => List.mem_of_mem_take hq⟩
    · simp [aSub, slc, ha, aBound, he]
    · rw [List.length_take, Nat.min_eq_left (by omega)]
    · rw [List.length_take, Nat.min_eq_left (by omega)]; omega
    · rw [List.length_take, List.length_take, h1]
    · exact h2.sublist (List.take_sublist _ _)
    · intro j n hn
      rw [List.getElem?_take] at hn
      by_cases hj : j < e.toNat
      · rw [if_pos hj] at hn
        obtain ⟨kv, y, z⟩ := hx j n hn
        refine ⟨kv, y, ?_⟩
        rw [List.getD_eq_getElem?_getD, List.getElem?_take, if_pos hj, ← List.getD_eq_getElem?_getD]
        exact z
      · rw [if_neg hj] at hn; cases hn
/-- The nodes are cut. -/
theorem cutG {P : Option (Value × AHeap) → Prop} {K : AHeap → Option (Value × AHeap)} {c : PC} {g0 g : GR} {h0 h : AHeap} {st st' : PSt} {e : Int} (w : GS c g0 h0 st g h) (he : cutP e st = some st') (hk : ∀ h' g', GS c g0 h0 st' g' h' → GF g h g' h' → P (K h')) :
    P ((aNil (ptr c.p 0)).bind fun v44 => (aOff v44 4).bind fun v45 => (aLd1 h v45).bind fun v46 => (aSub h 73 v46 none (some (.int .i64 e)) 4).bind fun v47 => (aNil (ptr c.p 0)).bind fun v48 => (aOff v48 4).bind fun v49 => (aSt h v49 v47 1).bind fun h50 => K h50) := by
  unfold cutP at he
  by_cases hc : 0 ≤ e ∧ e ≤ st.nodes.length
  · rw [if_pos hc] at he; cases he
    obtain ⟨nv, a, b, d⟩ := w.ph
    obtain ⟨nv', g', u, d', gr, gk⟩ := d.cut hc
    obtain ⟨h', t, o', s, k, tp⟩ := stP a (i := 4) (by show 4 < 7; omega) (v := nv') (aCells_one d'.old.cell)
    have pk : PK (gRoot g) h h' := ⟨by omega, fun j o hj h81 _ => k j o hj h81, fun r _ => tp r⟩
    have f2 : aLd1 h (ptr c.p 4) = some nv := a.row.ld1 rfl
    have gf : GF g h g' h' := ⟨pk, .inl gr, fun q hq => .inl (gk q hq)⟩
    exact pb rfl (pb rfl (pb f2 (pb u (pb rfl (pb rfl (pb t (hk h' g' (w.next ⟨⟨nv', o', b.pk pk, d'.keep (by omega) fun j o y z => k j o y (by rcases z with z | z <;> rw [z] <;> decide)⟩, gf⟩) gf)))))))
  · rw [if_neg hc] at he; cases he
theorem NB.gf {h h' : AHeap} {q : Nat} {n : Kn} {kv : Value} {g g' : GR} (x : NB h q n kv (gRoot g)) (f : GF g h g' h') : NB h' q n kv (gRoot g') := x.pk f.1 f.2.1
section
variable {c : PC} {D : Nat} {whole : PI} (hD : 4 ≤ D) (hw : Simg c D 110 whole) {q : Nat} {n : Kn} {kv : Value} {e a : Int} {st st' : PSt} {h0 h : AHeap} {g0 g : GR}
include hD hw
theorem bg2 {b : Bool} (w : GS c g0 h0 st g h) (nb : NB h q n kv (gRoot g)) (hp : tail2 c whole e n b st = some (a, st')) :
    Gp c h0 g0 (.int .i64 a) st' (s112_2 hk0 (call Try.prog Ms D) D (ptr c.p 0) e (ptr q 0) b h) := by
  rw [s112_2_j, s112_2_eq]
  unfold tail2 at hp
  cases b with
  | false =>
    rw [if_neg (by simp)] at hp; cases hp
    refine pcf rfl ?_
    rw [s112_3_j, s112_3_eq]
    exact gU w (g156 (by omega) w.ph 2) fun h1 g1 w1 _ => Gp.fin w1
  | true =>
    rw [if_pos rfl] at hp
    obtain ⟨ck, ct, ci, cks⟩ := n
    dsimp only at hp
    match cks, hp with
    | [x, y], hp =>
      obtain ⟨s1, e1, hp⟩ := bnd hp
      obtain ⟨⟨a2, s2⟩, e2, hp⟩ := bnd hp
      obtain ⟨s3, e3, hp⟩ := bnd hp
      refine pct rfl (cutG w e1 fun h1 g1 w1 f1 => ?_)
      refine gS w1 (hw _ _ _ _ _ w1.ph e2) fun h2 g2 w2 f2 => ?_
      refine gU w2 (g109 hD w2.ph e3) fun h3 g3 w3 f3 => ?_
      have nb3 := ((nb.gf f1).gf f2).gf f3
      obtain ⟨p1, p2, b1, b2, b3, b4⟩ := nb3.2.1.ab
      obtain ⟨_, _, l3⟩ := nb3.ld
      refine pb rfl (pb l3 (pb b1 (pb b2 (pb rfl (pb rfl (pb l3 (pb b3 (pb b4 (pb rfl ?_)))))))))
      refine rowG [x, y, a2] w3 rfl rfl fun h5 v5 rt w5 l5 _ hr => ?_
      exact nodG w5 (by omega) l5 (Nat.le_trans w3.fr.1.1 hr) hp fun h6 g6 w6 => Gp.fin w6
theorem bg1 {b : Bool} (w : GS c g0 h0 st g h) (nb : NB h q n kv (gRoot g)) (hp : tail1 c whole e n b st = some (a, st')) :
    Gp c h0 g0 (.int .i64 a) st' (s112_1 hk0 (call Try.prog Ms D) D (ptr c.p 0) e (ptr q 0) b h) := by
  rw [s112_1_j, s112_1_eq]
  unfold tail1 at hp
  cases b with
  | true =>
    rw [if_pos rfl] at hp
    obtain ⟨s1, e1, hp⟩ := bnd hp
    obtain ⟨⟨a2, s2⟩, e2, hp⟩ := bnd hp
    obtain ⟨s3, e3, hp⟩ := bnd hp
    refine pct rfl (cutG w e1 fun h1 g1 w1 f1 => ?_)
    refine gS w1 (hw _ _ _ _ _ w1.ph e2) fun h2 g2 w2 f2 => ?_
    refine gU w2 (g109 hD w2.ph e3) fun h3 g3 w3 f3 => ?_
    have nb3 := ((nb.gf f1).gf f2).gf f3
    obtain ⟨_, l1, _⟩ := nb3.ld
    refine pb rfl (pb l1 (pb rfl ?_))
    refine rowG [a2] w3 rfl rfl fun h5 v5 rt w5 l5 _ hr => ?_
    exact nodG w5 (by omega) l5 (Nat.le_trans w3.fr.1.1 hr) hp fun h6 g6 w6 => Gp.fin w6
  | false =>
    rw [if_neg (by simp)] at hp
    obtain ⟨l0, _, _⟩ := nb.ld
    refine pcf rfl (pb rfl (pb l0 (pb rfl ?_)))
    by_cases h8 : n.k = 8
    · rw [if_pos h8] at hp
      obtain ⟨⟨b1, s1⟩, e1, hp⟩ := bnd hp
      exact pct (by simp [h8]) (gB w (g107 (by omega) w.ph e1) fun h1 g1 w1 f1 => bg2 hD hw w1 (nb.gf f1) hp)
    · rw [if_neg h8] at hp
      exact pcf (by simpa using h8) (bg2 hD hw w nb hp)
theorem bg0 {b : Bool} (w : GS c g0 h0 st g h) (nb : NB h q n kv (gRoot g)) (hp : tail0 c whole e n b st = some (a, st')) :
    Gp c h0 g0 (.int .i64 a) st' (s112_0 hk0 (call Try.prog Ms D) D (ptr c.p 0) e (ptr q 0) b h) := by
  rw [s112_0_j, s112_0_eq]
  unfold tail0 at hp
  cases b with
  | true =>
    rw [if_pos rfl] at hp
    refine pct rfl (rowG [e] w rfl rfl fun h5 v5 rt w5 l5 _ hr => ?_)
    exact nodG w5 (by omega) l5 (Nat.le_trans w.fr.1.1 hr) hp fun h6 g6 w6 => Gp.fin w6
  | false =>
    rw [if_neg (by simp)] at hp
    obtain ⟨l0, _, _⟩ := nb.ld
    refine pcf rfl (pb rfl (pb l0 (pb rfl ?_)))
    by_cases h5 : n.k = 5
    · rw [if_pos h5] at hp
      obtain ⟨⟨b1, s1⟩, e1, hp⟩ := bnd hp
      exact pct (by simp [h5]) (gB w (g107 (by omega) w.ph e1) fun h1 g1 w1 f1 => bg1 hD hw w1 (nb.gf f1) hp)
    · rw [if_neg h5] at hp
      exact pcf (by simpa using h5) (bg1 hD hw w nb hp)
theorem i112 : Simg c (D + 1) 112 (begunP c whole) := by
  intro h st g a st' x hp
  rw [c112, e112]
  rw [begun_eq] at hp
  obtain ⟨⟨e, s1⟩, e1, hp⟩ := bnd hp
  refine gS (GS.new x) (hw _ _ _ _ _ x e1) fun h1 g1 w1 _ => ?_
  dsimp only at hp
  refine codG w1 ?_
  by_cases hc : s1.code ≠ 0
  · rw [if_pos hc] at hp; cases hp
    exact pct (by simpa using hc) (Gp.fin w1)
  rw [if_neg hc] at hp
  refine pcf (by simpa using hc) ?_
  match hn : s1.nodes[e.toNat]?, hp with
  | some n, hp =>
    dsimp only at hp
    by_cases he : e < 0
    · rw [if_pos he] at hp; cases hp
    rw [if_neg he] at hp
    obtain ⟨nv, o, _, nd⟩ := id w1.ph
    obtain ⟨p, kv, b1, b2, kd⟩ := nd.old.at (e := e) (by omega) hn
    obtain ⟨h2, t2, e2, nb2⟩ := NB.new nd.old kd
    have w2 := w1.ext e2
    have a4 : aLd1 h1 (ptr c.p 4) = some nv := o.row.ld1 rfl
    obtain ⟨l0, _, _⟩ := nb2.ld
    refine pb rfl (pb rfl (pb a4 (pb b1 (pb b2 (nN (pb t2 (pb rfl (pb l0 (pb rfl ?_)))))))))
    by_cases h9 : n.k = 9
    · rw [if_pos h9] at hp
      obtain ⟨⟨b3, s3⟩, e3, hp⟩ := bnd hp
      exact pct (by simp [h9]) (gB w2 (g107 (by omega) w2.ph e3) fun h3 g3 w3 f3 => bg0 hD hw w3 (nb2.gf f3) hp)
    · rw [if_neg h9] at hp
      exact pcf (by simpa using h9) (bg0 hD hw w2 nb2 hp)
end
structure AllG (c : PC) (D : Nat) : Prop where
  s110 : Simg c D 110 (un (parse c D 110))
  s158 : Simg c D 158 (un (parse c D 158))
  s188 : Simg c D 188 (un (parse c D 188))
  s203 : Simg c D 203 (un (parse c D 203))
  s220 : Simg c D 220 (un (parse c D 220))
  s232 : Simg c D 232 (un (parse c D 232))
  s238 : Simg c D 238 (un (parse c D 238))
  s241 : Simg c D 241 (un (parse c D 241))
  s242 : Simg c D 242 (un (parse c D 242))
  s243 : Simg c D 243 (un (parse c D 243))
  s244 : SimgL c D 244 (parse c D 244)
  s245 : Simg c D 245 (un (parse c D 245))
  s246 : Simg c D 246 (un (parse c D 246))
  s247 : Simg c D 247 (un (parse c D 247))
  s111 : Simg c D 111 (un (parse c D 111))
  s112 : Simg c D 112 (un (parse c D 112))
  s63 : Simg c D 63 (un (parse c D 63))
theorem Simg.of {c : PC} {D k : Nat} {m m' : PI} (x : Simg c D k m) (e : ∀ st, m' st = m st) : Simg c D k m' := fun h st rn a st' p hp => x h st rn a st' p (by rw [← e]; exact hp)
theorem Simg.none {c : PC} {D k : Nat} {m : PI} (e : ∀ st, m st = none) : Simg c D k m := fun h st rn a st' p hp => by rw [e] at hp; cases hp
theorem allG (c : PC) : ∀ D, AllG c D := by
  intro D
  induction D using Nat.strongRecOn with
  | _ D ih =>
  match D, ih with
  | 0, _ => exact ⟨Simg.none (fun _ => rfl), Simg.none (fun _ => rfl), Simg.none (fun _ => rfl), Simg.none (fun _ => rfl), Simg.none (fun _ => rfl), Simg.none (fun _ => rfl), Simg.none (fun _ => rfl), Simg.none (fun _ => rfl), Simg.none (fun _ => rfl), Simg.none (fun _ => rfl), (fun _ _ _ _ _ _ hp => by cases hp), Simg.none (fun _ => rfl), Simg.none (fun _ => rfl), Simg.none (fun _ => rfl), Simg.none (fun _ => rfl), Simg.none (fun _ => rfl), Simg.none (fun _ => rfl)⟩
  | D + 1, ih =>
  by_cases hD : D < 30 ∨ D > 2000000
  · exact ⟨Simg.none (fun st => un_none (parse_out c hD st)), Simg.none (fun st => un_none (parse_out c hD st)), Simg.none (fun st => un_none (parse_out c hD st)), Simg.none (fun st => un_none (parse_out c hD st)), Simg.none (fun st => un_none (parse_out c hD st)), Simg.none (fun st => un_none (parse_out c hD st)), Simg.none (fun st => un_none (parse_out c hD st)), Simg.none (fun st => un_none (parse_out c hD st)), Simg.none (fun st => un_none (parse_out c hD st)), Simg.none (fun st => un_none (parse_out c hD st)), (fun _ st _ _ _ _ hp => by rw [parse_out c hD st] at hp; cases hp), Simg.none (fun st => un_none (parse_out c hD st)), Simg.none (fun st => un_none (parse_out c hD st)), Simg.none (fun st => un_none (parse_out c hD st)), Simg.none (fun st => un_none (parse_out c hD st)), Simg.none (fun st => un_none (parse_out c hD st)), Simg.none (fun st => un_none (parse_out c hD st))⟩
  have z := ih D (by omega)
  have h4 : 4 ≤ D := by omega
  have h6 : D ≤ 2000000 := by omega
  refine ⟨?_, ?_, ?_, ?_, ?_, ?_, ?_, ?_, ?_, ?_, ?_, ?_, ?_, ?_, ?_, ?_, ?_⟩
  · exact (i110 h4 z.s158).of fun st => (un_eq (parse_110 c hD st)).trans (un_ret _ st)
  · exact (i158 h4 z.s188).of fun st => (un_eq (parse_158 c hD st)).trans (un_ret _ st)
  · exact (i188 h4 z.s203).of fun st => (un_eq (parse_188 c hD st)).trans (un_ret _ st)
  · exact (i203 (by omega) z.s220).of fun st => (un_eq (parse_203 c hD st)).trans (un_ret _ st)
  · obtain ⟨d, rfl⟩ : ∃ d, D = d + 1 := ⟨D - 1, by omega⟩
    by_cases h2 : d < 30 ∨ d > 2000000
    · exact Simg.none fun st => un_none ((parse_220 c hD st).trans (parse_out c h2 st))
    · exact (i220 (by omega) (ih d (by omega)).s232).of fun st => (un_eq ((parse_220 c hD st).trans (parse_2310 c h2 st))).trans (un_ret _ st)
  · obtain ⟨d, rfl⟩ : ∃ d, D = d + 1 := ⟨D - 1, by omega⟩
    by_cases h2 : d < 30 ∨ d > 2000000
    · exact Simg.none fun st => un_none ((parse_232 c hD st).trans (parse_out c h2 st))
    · exact (i232 (by omega) (ih d (by omega)).s238).of fun st => (un_eq ((parse_232 c hD st).trans (parse_2311 c h2 st))).trans (un_ret _ st)
  · obtain ⟨d, rfl⟩ : ∃ d, D = d + 1 := ⟨D - 1, by omega⟩
    by_cases h2 : d < 30 ∨ d > 2000000
    · exact Simg.none fun st => un_none ((parse_238 c hD st).trans (parse_out c h2 st))
    · exact (i238 (by omega) (ih d (by omega)).s241).of fun st => (un_eq ((parse_238 c hD st).trans (parse_2312 c h2 st))).trans (un_ret _ st)
  · exact (i241 h4 z.s241 z.s242).of fun st => (un_eq (parse_241 c hD st)).trans (un_ret _ st)
  · exact (i242 h4 z.s243 z.s110 z.s244).of fun st => (un_eq (parse_242 c hD st)).trans (un_ret _ st)
  · exact (i243 h4 z.s110 z.s245 z.s246).of fun st => (un_eq (parse_243 c hD st)).trans (un_ret _ st)
  · intro h st g l st' x hp
    rw [parse_244 c hD st] at hp
    exact i244 h4 h6 z.s110 h st g l st' x hp
  · exact (i245 h4 h6 z.s111).of fun st => (un_eq (parse_245 c hD st)).trans (un_ret _ st)
  · exact (i246 h4 h6 z.s247).of fun st => (un_eq (parse_246 c hD st)).trans (un_ret _ st)
  · exact (i247 h4 z.s110).of fun st => (un_eq (parse_247 c hD st)).trans (un_ret _ st)
  · exact (i111 h4 h6 z.s63).of fun st => (un_eq (parse_111 c hD st)).trans (un_ret _ st)
  · exact (i112 h4 z.s110).of fun st => (un_eq (parse_112 c hD st)).trans (un_ret _ st)
  · exact (i63 h4 z.s110 z.s111 z.s112).of fun st => (un_eq (parse_63 c hD st)).trans (un_ret _ st)
end Go.Proofs.Ytadmoackacickaa
