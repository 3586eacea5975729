import Derived.Test.YtajpnemfppaafaaGreatXAP
import Derived.Test.YtajpnemfppaafaaGreatXAH
import Derived.Test.YtajpnemfppaafaaGreatXAF
set_option linter.unusedSimpArgs false
set_option linter.unusedVariables false
/- The reference's parser, plainly; expressions. -/
namespace Go.Proofs.YtajpnemfppaafaaGreat
open Go Go.AH
section
variable (c : PC)
def exprS (lv : PI) : PI := fun st => (openS c st).bind fun r => bif r.1 then (lv r.2).bind fun a => (nestTo (-1) a.2).bind fun s => some (a.1, s) else some (-1, r.2)
def opsL : List (Int × ByteArray) := [(5, ⟨#[43]⟩), (5, ⟨#[45]⟩), (6, ⟨#[42]⟩), (6, ⟨#[47]⟩), (6, ⟨#[37]⟩), (4, ⟨#[46, 46]⟩), (3, ⟨#[61, 61]⟩), (3, ⟨#[126, 61]⟩), (3, ⟨#[60]⟩), (3, ⟨#[60, 61]⟩)]
def opGo (L : Int) : List (Int × ByteArray) → Nat → PSt → Int
 | [], _, _ => 0
 | p :: r, i, st => if p.1 = L ∧ isP c st p.2 = true then (i : Int) else opGo L r (i + 1) st
def kindS (L : Int) (st : PSt) : Int × Int :=
 if L = 1 ∧ isP c st ⟨#[111, 114]⟩ = true then (13, 0) else if L = 2 ∧ isP c st ⟨#[97, 110, 100]⟩ = true then (12, 0) else if opGo c L opsL 1 st = 0 then (0, 0) else (10, opGo c L opsL 1 st)
def levLoop (L : Int) (sub : PI) : Nat → Int → PI
 | 0, _, _ => none
 | n + 1, a, st => if st.code = 0 then (if (kindS c L st).1 = 0 then some (a, st) else (adv 1 st).bind fun s1 => (sub s1).bind fun b => (nodeS (kindS c L st).1 E0 (kindS c L st).2 [a, b.1] b.2).bind fun x => if L = 3 then some x else levLoop L sub n x.1 x.2) else some (a, st)
def levelS (L : Int) (sub : PI) (n : Nat) : PI := fun st => (sub st).bind fun a => levLoop c L sub n a.1 a.2
def turnT (t : Int) (self : PI) : PI := fun st => (openS c st).bind fun r => bif r.1 then (adv 1 r.2).bind fun s => (self s).bind fun e => (nestTo (-1) e.2).bind fun s => nodeS 11 E0 t [e.1] s else some (-1, r.2)
def turnS (self suf : PI) : PI := fun st => if isP c st ⟨#[45]⟩ = true then turnT c 1 self st else if isP c st ⟨#[110, 111, 116]⟩ = true then turnT c 2 self st else if isP c st ⟨#[35]⟩ = true then turnT c 3 self st else suf st
def callLoop (ex : PI) : Nat → List Int → PM
 | 0, _, _ => none
 | n + 1, ks, st => if st.code = 0 ∧ isP c st ⟨#[41]⟩ = false then (if ks.length > 1 then wantP c ⟨#[44]⟩ st else some st).bind fun s => (ex s).bind fun e => if ks.length > 1000000 then none else callLoop ex n (ks ++ [e.1]) e.2 else some (ks, st)
def sufLoop (ex : PI) (N : Nat) : Nat → Int → PI
 | 0, _, _ => none
 | n + 1, a, st => if st.code = 0 then
   (if isP c st ⟨#[40]⟩ = true then (adv 1 st).bind fun s => (callLoop c ex N [a] s).bind fun l => (wantP c ⟨#[41]⟩ l.2).bind fun s => (nodeS 9 E0 0 l.1 s).bind fun x => sufLoop ex N n x.1 x.2
   else if isP c st ⟨#[91]⟩ = true then (adv 1 st).bind fun s => (ex s).bind fun k => (wantP c ⟨#[93]⟩ k.2).bind fun s => (nodeS 8 E0 0 [a, k.1] s).bind fun x => sufLoop ex N n x.1 x.2
   else if isP c st ⟨#[46]⟩ = true then (adv 1 st).bind fun s => (nameN c s).bind fun m => (nodeS 4 m.1 0 [] m.2).bind fun k => (nodeS 8 E0 0 [a, k.1] k.2).bind fun x => sufLoop ex N n x.1 x.2
   else some (a, st)) else some (a, st)
def suffixS (prim ex : PI) (n : Nat) : PI := fun st => (prim st).bind fun a => sufLoop c ex n n a.1 a.2
def parLoop : Nat → List Int → PM
 | 0, _, _ => none
 | n + 1, ks, st => if st.code = 0 ∧ isP c st ⟨#[41]⟩ = false then (if ks.length > 0 then wantP c ⟨#[44]⟩ st else some st).bind fun s => (nameN c s).bind fun m => (nodeS 22 m.1 0 [] m.2).bind fun x => if ks.length > 1000000 then none else parLoop n (ks ++ [x.1]) x.2 else some (ks, st)
def fnS (block : PI) (n : Nat) : PI := fun st => (wantP c ⟨#[40]⟩ st).bind fun s => (parLoop c n [] s).bind fun l => (wantP c ⟨#[41]⟩ l.2).bind fun s => (block s).bind fun b => if l.1.length > 1000000 then none else nodeS 6 E0 0 (l.1 ++ [b.1]) b.2
def tabLoop (field : PI) : Nat → List Int → PM
 | 0, _, _ => none
 | n + 1, ks, st => if st.code = 0 ∧ isP c st ⟨#[125]⟩ = false then (if ks.length > 0 then wantP c ⟨#[44]⟩ st else some st).bind fun s => (field s).bind fun x => if ks.length > 1000000 then none else tabLoop field n (ks ++ [x.1]) x.2 else some (ks, st)
def tableS (field : PI) (n : Nat) : PI := fun st => (tabLoop c field n [] st).bind fun l => (wantP c ⟨#[125]⟩ l.2).bind fun s => nodeS 7 E0 0 l.1 s
def fieldS (ex : PI) : PI := fun st =>
 if isP c st ⟨#[91]⟩ = true then (adv 1 st).bind fun s => (ex s).bind fun k => (wantP c ⟨#[93]⟩ k.2).bind fun s => (wantP c ⟨#[61]⟩ s).bind fun s => (ex s).bind fun e => nodeS 24 E0 0 [k.1, e.1] e.2
 else if (pk c st).k = 1 ∧ st.at' > 1000000 then none
 else if (pk c st).k = 1 ∧ eqNext c st = true then (nameN c st).bind fun m => (adv 1 m.2).bind fun s => (nodeS 4 m.1 0 [] s).bind fun k => (ex k.2).bind fun e => nodeS 24 E0 0 [k.1, e.1] e.2
 else (ex st).bind fun e => nodeS 23 E0 0 [e.1] e.2
def primaryS (ex fn table : PI) : PI := fun st =>
 if (pk c st).k = 3 then (adv 1 st).bind fun s => nodeS 3 E0 (pk c st).i [] s
 else if (pk c st).k = 4 then (adv 1 st).bind fun s => nodeS 4 (pk c st).text 0 [] s
 else if (pk c st).k = 1 then (nameN c st).bind fun m => nodeS 5 m.1 0 [] m.2
 else if isP c st ⟨#[110, 105, 108]⟩ = true then (adv 1 st).bind fun s => nodeS 1 E0 0 [] s
 else if isP c st ⟨#[116, 114, 117, 101]⟩ = true then (adv 1 st).bind fun s => nodeS 2 E0 1 [] s
 else if isP c st ⟨#[102, 97, 108, 115, 101]⟩ = true then (adv 1 st).bind fun s => nodeS 2 E0 0 [] s
 else if isP c st ⟨#[102, 110]⟩ = true then (adv 1 st).bind fun s => fn s
 else if isP c st ⟨#[123]⟩ = true then (adv 1 st).bind fun s => table s
 else if isP c st ⟨#[40]⟩ = true then (adv 1 st).bind fun s => (ex s).bind fun e => (wantP c ⟨#[41]⟩ e.2).bind fun s => some (e.1, s)
 else some (-1, failP c st 2)
def blkLoop (stmt : PI) : Nat → List Int → PM
 | 0, _, _ => none
 | n + 1, ks, st => if st.code = 0 ∧ isP c st ⟨#[125]⟩ = false then (stmt st).bind fun x => if ks.length > 1000000 then none else blkLoop stmt n (ks ++ [x.1]) x.2 else some (ks, st)
def blockS (stmt : PI) (n : Nat) : PI := fun st => (openS c st).bind fun r => bif r.1 then (wantP c ⟨#[123]⟩ r.2).bind fun s => (blkLoop c stmt n [] s).bind fun l => (wantP c ⟨#[125]⟩ l.2).bind fun s => (nestTo (-1) s).bind fun s => nodeS 21 E0 0 l.1 s else some (-1, r.2)
def assignS (ex : PI) : PI := fun st => (ex st).bind fun e => if e.2.code = 0 then
  (match e.2.nodes[e.1.toNat]? with
  | none => none
  | some n => if e.1 < 0 then none else
   if isP c e.2 ⟨#[59]⟩ = true ∧ n.k = 9 then (adv 1 e.2).bind fun s => nodeS 20 E0 0 [e.1] s
   else if isP c e.2 ⟨#[61]⟩ = true ∧ n.k = 5 then (adv 1 e.2).bind fun s => (cutP e.1 s).bind fun s => (ex s).bind fun v => (wantP c ⟨#[59]⟩ v.2).bind fun s => nodeS 15 n.t 0 [v.1] s
   else if isP c e.2 ⟨#[61]⟩ = true ∧ n.k = 8 then (match n.ks with
    | [a, b] => (adv 1 e.2).bind fun s => (cutP e.1 s).bind fun s => (ex s).bind fun v => (wantP c ⟨#[59]⟩ v.2).bind fun s => nodeS 16 E0 0 [a, b, v.1] s
    | _ => none)
   else some (-1, failP c e.2 2)) else some (-1, e.2)
def stmtS (ex block asg : PI) : PI := fun st =>
 if isP c st ⟨#[108, 111, 99, 97, 108]⟩ = true then (adv 1 st).bind fun s => (nameN c s).bind fun m => (wantP c ⟨#[61]⟩ m.2).bind fun s => (ex s).bind fun e => (wantP c ⟨#[59]⟩ e.2).bind fun s => nodeS 14 m.1 0 [e.1] s
 else if isP c st ⟨#[105, 102]⟩ = true then (adv 1 st).bind fun s => (ex s).bind fun e => (block e.2).bind fun b =>
  if isP c b.2 ⟨#[101, 108, 115, 101]⟩ = true then (adv 1 b.2).bind fun s => (block s).bind fun d => nodeS 17 E0 0 [e.1, b.1, d.1] d.2 else nodeS 17 E0 0 [e.1, b.1] b.2
 else if isP c st ⟨#[119, 104, 105, 108, 101]⟩ = true then (adv 1 st).bind fun s => (ex s).bind fun e => (block e.2).bind fun b => nodeS 18 E0 0 [e.1, b.1] b.2
 else if isP c st ⟨#[114, 101, 116, 117, 114, 110]⟩ = true then (adv 1 st).bind fun s => (ex s).bind fun e => (wantP c ⟨#[59]⟩ e.2).bind fun s => nodeS 19 E0 0 [e.1] s
 else asg st
def sp : Nat → Nat → PI
 | 0, _, _ => none
 | D + 1, k, st => if D < 30 then none else
  if k = 137 then exprS c (sp D 1761) st
  else if k = 1767 then sp D 197 st
  else if k = 197 then turnS c (sp D 197) (sp D 204) st
  else if k = 204 then suffixS c (sp D 222) (sp D 137) D st
  else if k = 222 then primaryS c (sp D 137) (sp D 233) (sp D 234) st
  else if k = 233 then fnS c (sp D 138) D st
  else if k = 234 then tableS c (sp D 239) D st
  else if k = 239 then fieldS c (sp D 137) st
  else if k = 138 then blockS c (sp D 82) D st
  else if k = 139 then assignS c (sp D 137) st
  else if k = 82 then stmtS c (sp D 137) (sp D 138) (sp D 139) st
  else if 1761 ≤ k ∧ k ≤ 1766 then levelS c ((k : Int) - 1760) (sp D (k + 1)) D st
  else none
def topS (stmt : PI) : Nat → List Int → PM
 | 0, _, _ => none
 | n + 1, ks, st => if st.code = 0 ∧ st.at' < c.toks.length then (stmt st).bind fun x => if ks.length > 1000000 then none else topS stmt n (ks ++ [x.1]) x.2 else some (ks, st)
end
def QA (c : PC) (h : AHeap) (rn : Option Nat) (v : Value) (st' : PSt) (o : Option (Value × AHeap)) : Prop := Qp c h rn o v st'
def Simq (c : PC) (D : Nat) (f : FuncId) (m : PI) : Prop := ∀ (h : AHeap) (st : PSt) (rn : Option Nat) (a : Int) (st' : PSt), QH c h st rn → m st = some (a, st') → QA c h rn (.int .i64 a) st' (call Tp Ms D f [ptr c.p 0] h)
def Simv (c : PC) (D : Nat) (L : Int) (m : PI) : Prop := ∀ (h : AHeap) (st : PSt) (rn : Option Nat) (a : Int) (st' : PSt), QH c h st rn → m st = some (a, st') → QA c h rn (.int .i64 a) st' (call Tp Ms D 293 [ptr c.p 0, .int .i64 L] h)
theorem QS.new {c : PC} {h : AHeap} {st : PSt} {rn : Option Nat} (x : QH c h st rn) : QS c rn h st rn h := ⟨x, QK.refl rn h, PRN.refl rn h⟩
theorem fillA {kv : Value} (h : isCell kv = true) (k : Int) (ks : List Int) : aFill [.int .i64 0, .string ⟨#[]⟩, .int .i64 0, .slice none 0 0] [(0, 1, .int .i64 k), (3, 1, kv)] = some (knCells ⟨k, ⟨#[]⟩, 0, ks⟩ kv) := by
 simp [aFill, aCells_int, aCells_str, aCells_one h, splice, knCells]
theorem fillB {kv : Value} (h : isCell kv = true) (k i : Int) (ks : List Int) : aFill [.int .i64 0, .string ⟨#[]⟩, .int .i64 0, .slice none 0 0] [(0, 1, .int .i64 k), (2, 1, .int .i64 i), (3, 1, kv)] = some (knCells ⟨k, ⟨#[]⟩, i, ks⟩ kv) := by
 simp [aFill, aCells_int, aCells_str, aCells_one h, splice, knCells]
theorem fillC {kv : Value} (h : isCell kv = true) (k : Int) (t : ByteArray) (ks : List Int) : aFill [.int .i64 0, .string ⟨#[]⟩, .int .i64 0, .slice none 0 0] [(0, 1, .int .i64 k), (1, 1, .string t), (3, 1, kv)] = some (knCells ⟨k, t, 0, ks⟩ kv) := by
 simp [aFill, aCells_int, aCells_str, aCells_one h, splice, knCells]
section
variable {P : Option (Value × AHeap) → Prop} {c : PC} {rn0 rn : Option Nat} {h0 h : AHeap} {st st' : PSt} {D : Nat} {k i r : Int} {t : ByteArray} {ks : List Int} {kv : Value} {K : Value × AHeap → Int → Option (Value × AHeap)}
theorem nodA (w : QS c rn0 h0 st rn h) (hD : 1 ≤ D) (l : KidH h kv ks) (e : nodeS k E0 0 ks st = some (r, st')) (hk : ∀ g rn', QS c rn0 h0 st' rn' g → QK rn h g → PRN rn rn' h → P (K (.int .i64 r, g) r)) :
  P ((aFill [.int .i64 0, .string ⟨#[]⟩, .int .i64 0, .slice none 0 0] [(0, 1, .int .i64 k), (3, 1, kv)]).bind fun cs => (call Tp Ms D 105 [ptr c.p 0, .agg (List.toArray cs)] h).bind fun r => (asI .i64 r.1).bind fun n => K r n) :=
 pb (fillA l.cell k ks) (calS w (q83 hD w.ph l e) hk)
theorem nodB (w : QS c rn0 h0 st rn h) (hD : 1 ≤ D) (l : KidH h kv ks) (e : nodeS k E0 i ks st = some (r, st')) (hk : ∀ g rn', QS c rn0 h0 st' rn' g → QK rn h g → PRN rn rn' h → P (K (.int .i64 r, g) r)) :
  P ((aFill [.int .i64 0, .string ⟨#[]⟩, .int .i64 0, .slice none 0 0] [(0, 1, .int .i64 k), (2, 1, .int .i64 i), (3, 1, kv)]).bind fun cs => (call Tp Ms D 105 [ptr c.p 0, .agg (List.toArray cs)] h).bind fun r => (asI .i64 r.1).bind fun n => K r n) :=
 pb (fillB l.cell k i ks) (calS w (q83 hD w.ph l e) hk)
theorem nodC (w : QS c rn0 h0 st rn h) (hD : 1 ≤ D) (l : KidH h kv ks) (e : nodeS k t 0 ks st = some (r, st')) (hk : ∀ g rn', QS c rn0 h0 st' rn' g → QK rn h g → PRN rn rn' h → P (K (.int .i64 r, g) r)) :
  P ((aFill [.int .i64 0, .string ⟨#[]⟩, .int .i64 0, .slice none 0 0] [(0, 1, .int .i64 k), (1, 1, .string t), (3, 1, kv)]).bind fun cs => (call Tp Ms D 105 [ptr c.p 0, .agg (List.toArray cs)] h).bind fun r => (asI .i64 r.1).bind fun n => K r n) :=
 pb (fillC l.cell k t ks) (calS w (q83 hD w.ph l e) hk)
theorem nodL (w : QS c rn0 h0 st rn h) (hD : 1 ≤ D) (e : nodeS k t i [] st = some (r, st')) (hk : ∀ g rn', QS c rn0 h0 st' rn' g → QK rn h g → PRN rn rn' h → P (K (.int .i64 r, g) r)) :
  P ((call Tp Ms D 105 [ptr c.p 0, .agg (List.toArray [.int .i64 k, .string t, .int .i64 i, .slice none 0 0])] h).bind fun r => (asI .i64 r.1).bind fun n => K r n) :=
 calS w (q83 (ks := []) (kv := .slice none 0 0) hD w.ph (.inl ⟨rfl, rfl⟩) e) hk
theorem QA.fin {c : PC} {h g : AHeap} {rn r1 : Option Nat} {v : Value} {st' : PSt} (w : QS c rn h st' r1 g) : QA c h rn v st' (some (v, g)) := ⟨g, r1, rfl, w⟩
end
section
variable {c : PC} {D : Nat}
theorem s137 {lv : PI} (hD : 2 ≤ D) (hs : Simv c D 1 lv) : Simq c (D + 1) 204 (exprS c lv) := by
 intro h st rn a st' x hp
 have w := QS.new x
 rw [c204, e204]
 unfold exprS at hp
 obtain ⟨⟨b, s1⟩, e1, hp⟩ := bnd hp
 refine calB w (q175 hD x e1) fun g1 r1 w1 k1 n1 => ?_
 cases b with
 | false => cases hp; exact pct rfl (QA.fin w1)
 | true =>
  obtain ⟨⟨a1, s2⟩, e2, hp⟩ := bnd hp
  obtain ⟨s3, e1003, hp⟩ := bnd hp
  cases hp
  refine pcf rfl (calS w1 (hs _ _ _ _ _ w1.ph e2) fun g2 r2 w2 k2 n2 => ?_)
  exact decS w2 e1003 fun g3 w3 k3 => QA.fin w3
theorem turn_t {t : Int} {self : PI} (hD : 2 ≤ D) (hs : Simq c D 358 self) {h0 h : AHeap} {st st' : PSt} {rn0 rn : Option Nat} {a : Int} (w : QS c rn0 h0 st rn h) (hp : turnT c t self st = some (a, st')) :
  QA c h0 rn0 (.int .i64 a) st' (s358_0 hk0 (call Tp Ms D) D (ptr c.p 0) t h) := by
 rw [s358_0_j, s358_0_eq]
 unfold turnT at hp
 obtain ⟨⟨b, s1⟩, e1, hp⟩ := bnd hp
 refine calB w (q175 hD w.ph e1) fun g1 r1 w1 k1 n1 => ?_
 cases b with
 | false => cases hp; exact pct rfl (QA.fin w1)
 | true =>
  obtain ⟨s2, e2, hp⟩ := bnd hp
  obtain ⟨⟨a3, s3⟩, e1003, hp⟩ := bnd hp
  obtain ⟨s4, e1004, hp⟩ := bnd hp
  refine pcf rfl (incS w1 e2 fun g2 w2 k2 => ?_)
  refine calS w2 (hs _ _ _ _ _ w2.ph e1003) fun g3 r3 w3 k3 n3 => ?_
  refine decS w3 e1004 fun g4 w4 k4 => ?_
  refine rowS [a3] w4 rfl rfl fun g5 v5 rt w5 l5 k5 _ => ?_
  exact nodB w5 (by omega) l5.kid hp fun g6 r6 w6 _ _ => QA.fin w6
theorem s197 {self suf : PI} (hD : 2 ≤ D) (hs : Simq c D 358 self) (hf : Simq c D 383 suf) : Simq c (D + 1) 358 (turnS c self suf) := by
 intro h st rn a st' x hp
 have w := QS.new x
 rw [c358, e358]
 unfold turnS at hp
 refine calB w (q134 (by omega) x) fun g1 r1 w1 k1 n1 => ?_
 by_cases i1 : isP c st ⟨#[45]⟩ = true
 ·rw [if_pos i1] at hp; exact pct i1 (turn_t hD hs w1 hp)
 rw [if_neg i1] at hp
 refine pcf (by simpa using i1) (calB w1 (q134 (by omega) w1.ph) fun g2 r2 w2 k2 n2 => ?_)
 by_cases i2 : isP c st ⟨#[110, 111, 116]⟩ = true
 ·rw [if_pos i2] at hp; exact pct i2 (turn_t hD hs w2 hp)
 rw [if_neg i2] at hp
 refine pcf (by simpa using i2) (calB w2 (q134 (by omega) w2.ph) fun g3 r3 w3 k3 n3 => ?_)
 by_cases i3 : isP c st ⟨#[35]⟩ = true
 ·rw [if_pos i3] at hp; exact pct i3 (turn_t hD hs w3 hp)
 rw [if_neg i3] at hp
 exact pcf (by simpa using i3) (calS w3 (hf _ _ _ _ _ w3.ph hp) fun g4 r4 w4 _ _ => QA.fin w4)
theorem call_loop {ex : PI} {N n1 : Nat} (hD : 2 ≤ D) (hs : Simq c D 204 ex) {h0 : AHeap} {rn0 : Option Nat} {rt : Nat} (hrt : h0.size ≤ rt) {P : Option (Value × AHeap) → Prop} :
  ∀ (n m : Nat) (ks : List Int) (v : Value) (h : AHeap) (st : PSt) (rn : Option Nat) (l : List Int) (st' : PSt), n ≤ m → QS c rn0 h0 st rn h → PLI h v ks rt → callLoop c ex n ks st = some (l, st') →
  (∀ g rn' v' s2, wantP c ⟨#[41]⟩ st' = some s2 → QS c rn0 h0 s2 rn' g → PLI g v' l rt → P ((aFill [.int .i64 0, .string ⟨#[]⟩, .int .i64 0, .slice none 0 0] [(0, 1, .int .i64 9), (3, 1, v')]).bind fun c107 => (call Tp Ms D 105 [ptr c.p 0, .agg (List.toArray c107)] g).bind fun r61 => (asI .i64 r61.1).bind fun n62 => s383_0 hk0 (call Tp Ms D) N n1 (ptr c.p 0) n62 r61.2)) →
  (∃ s2, wantP c ⟨#[41]⟩ st' = some s2) → P (s383_1 hk0 (call Tp Ms D) N n1 m (ptr c.p 0) v h) := by
 intro n
 induction n with
 | zero => intro m ks v h st rn l st' hm w li hp; cases hp
 | succ n ih =>
  intro m ks v h st rn l st' hm w li hp hk hw
  obtain ⟨m, rfl⟩ : ∃ q, m = q + 1 := ⟨m - 1, by omega⟩
  rw [s383_1_eq]
  rw [callLoop] at hp
  refine codS w ?_
  by_cases hc : st.code = 0
  ·refine pct (by simp [hc]) (calB w (q134 (by omega) w.ph) fun g1 r1 w1 k1 n1' => ?_)
   by_cases hi : isP c st ⟨#[41]⟩ = false
   ·rw [if_pos ⟨hc, hi⟩] at hp
    obtain ⟨s2, e2, hp⟩ := bnd hp
    obtain ⟨⟨a3, s3⟩, e1003, hp⟩ := bnd hp
    by_cases hb : ks.length > 1000000
    ·rw [if_pos hb] at hp; cases hp
    rw [if_neg hb] at hp
    have fin : ∀ g r, QS c rn0 h0 s2 r g → PLI g v ks rt → P (s383_3 hk0 (call Tp Ms D) N n1 m (ptr c.p 0) v g) := fun g r w2 l2 => by
     rw [s383_3_j, s383_3_eq]
     refine calS w2 (hs _ _ _ _ _ w2.ph e1003) fun g3 r3 w3 k3 n3 => ?_
     refine pushS w3 (l2.qk k3) hrt (by omega) fun g4 v4 w4 l4 _ => ?_
     exact ih m (ks ++ [a3]) v4 g4 s3 r3 l st' (by omega) w4 l4 hp hk hw
    refine pct (by simp [hi]) ?_
    rw [s383_2_j, s383_2_eq]
    refine pb li.kid.len (pb rfl ?_)
    by_cases h1 : ks.length > 1
    ·rw [if_pos h1] at e2
     refine pct (decide_eq_true (by omega)) (calU w1 (q136 hD w1.ph e2) fun g2 r2 w2 k2 _ => ?_)
     exact fin g2 r2 w2 ((li.qk k1).qk k2)
    ·rw [if_neg h1] at e2; cases e2
     exact pcf (decide_eq_false (by omega)) (fin g1 r1 w1 (li.qk k1))
   ·rw [if_neg (fun z => hi z.2)] at hp
    cases hp
    obtain ⟨s2, e2⟩ := hw
    refine pcf (by simpa using hi) (calU w1 (q136 hD w1.ph e2) fun g2 r2 w2 k2 _ => ?_)
    exact hk g2 r2 v s2 e2 w2 ((li.qk k1).qk k2)
  ·rw [if_neg (fun z => hc z.1)] at hp
   cases hp
   obtain ⟨s2, e2⟩ := hw
   refine pcf (by simpa using hc) (calU w (q136 hD w.ph e2) fun g2 r2 w2 k2 _ => ?_)
   exact hk g2 r2 v s2 e2 w2 (li.qk k2)
theorem suf_loop {ex : PI} {N : Nat} (hD : 2 ≤ D) (hs : Simq c D 204 ex) {h0 : AHeap} {rn0 : Option Nat} : ∀ (n m : Nat) (a : Int) (h : AHeap) (st : PSt) (rn : Option Nat) (q : Int) (st' : PSt), n ≤ m → QS c rn0 h0 st rn h → sufLoop c ex N n a st = some (q, st') →
  QA c h0 rn0 (.int .i64 q) st' (s383_0 hk0 (call Tp Ms D) N m (ptr c.p 0) a h) := by
 intro n
 induction n with
 | zero => intro m a h st rn q st' hm w hp; cases hp
 | succ n ih =>
  intro m a h st rn q st' hm w hp
  obtain ⟨m, rfl⟩ : ∃ q, m = q + 1 := ⟨m - 1, by omega⟩
  rw [s383_0_eq]
  rw [sufLoop] at hp
  refine codS w ?_
  by_cases hc : st.code = 0
  ·rw [if_pos hc] at hp
   refine pct (by simp [hc]) (calB w (q134 (by omega) w.ph) fun g1 r1 w1 k1 _ => ?_)
   by_cases i1 : isP c st ⟨#[40]⟩ = true
   ·rw [if_pos i1] at hp
    obtain ⟨s2, e2, hp⟩ := bnd hp
    obtain ⟨⟨l3, s3⟩, e1003, hp⟩ := bnd hp
    obtain ⟨s4, e1004, hp⟩ := bnd hp
    obtain ⟨⟨a5, s5⟩, e1005, hp⟩ := bnd hp
    refine pct i1 (incS w1 e2 fun g2 w2 k2 => ?_)
    refine rowS [a] w2 rfl rfl fun g3 v3 rt w3 l3' k3 hr => ?_
    refine call_loop hD hs (Nat.le_trans w2.fr.1 hr) N N [a] v3 g3 s2 r1 l3 s3 (Nat.le_refl _) w3 l3' e1003 (fun g r v' s2' e' w' l' => ?_) ⟨s4, e1004⟩
    obtain rfl : s4 = s2' := by rw [e1004] at e'; exact Option.some.inj e'
    exact nodA w' (by omega) l'.kid e1005 fun g6 r6 w6 _ _ => ih m a5 g6 s5 r6 q st' (by omega) w6 hp
   rw [if_neg i1] at hp
   refine pcf (by simpa using i1) (calB w1 (q134 (by omega) w1.ph) fun g2 r2 w2 k2 _ => ?_)
   by_cases i2 : isP c st ⟨#[91]⟩ = true
   ·rw [if_pos i2] at hp
    obtain ⟨s3, e1003, hp⟩ := bnd hp
    obtain ⟨⟨a4, s4⟩, e1004, hp⟩ := bnd hp
    obtain ⟨s5, e1005, hp⟩ := bnd hp
    obtain ⟨⟨a6, s6⟩, e1006, hp⟩ := bnd hp
    refine pct i2 (incS w2 e1003 fun g3 w3 k3 => ?_)
    refine calS w3 (hs _ _ _ _ _ w3.ph e1004) fun g4 r4 w4 _ _ => ?_
    refine calU w4 (q136 hD w4.ph e1005) fun g5 r5 w5 _ _ => ?_
    refine rowS [a, a4] w5 rfl rfl fun g6 v6 rt w6 l6 _ _ => ?_
    exact nodA w6 (by omega) l6.kid e1006 fun g7 r7 w7 _ _ => ih m a6 g7 s6 r7 q st' (by omega) w7 hp
   rw [if_neg i2] at hp
   refine pcf (by simpa using i2) (calB w2 (q134 (by omega) w2.ph) fun g3 r3 w3 k3 _ => ?_)
   by_cases i3 : isP c st ⟨#[46]⟩ = true
   ·rw [if_pos i3] at hp
    obtain ⟨s4, e1004, hp⟩ := bnd hp
    obtain ⟨⟨t5, s5⟩, e1005, hp⟩ := bnd hp
    obtain ⟨⟨a6, s6⟩, e1006, hp⟩ := bnd hp
    obtain ⟨⟨a7, s7⟩, e1007, hp⟩ := bnd hp
    refine pct i3 (incS w3 e1004 fun g4 w4 k4 => ?_)
    refine calT w4 (q135 hD w4.ph e1005) fun g5 r5 w5 _ _ => ?_
    refine nodL w5 (by omega) e1006 fun g6 r6 w6 _ _ => ?_
    refine rowS [a, a6] w6 rfl rfl fun g7 v7 rt w7 l7 _ _ => ?_
    exact nodA w7 (by omega) l7.kid e1007 fun g8 r8 w8 _ _ => ih m a7 g8 s7 r8 q st' (by omega) w8 hp
   rw [if_neg i3] at hp
   cases hp
   exact pcf (by simpa using i3) (QA.fin w3)
  ·rw [if_neg hc] at hp; cases hp
   exact pcf (by simpa using hc) (QA.fin w)
theorem s204 {prim ex : PI} (hD : 2 ≤ D) (hr : Simq c D 407 prim) (hs : Simq c D 204 ex) : Simq c (D + 1) 383 (suffixS c prim ex D) := by
 intro h st rn a st' x hp
 have w := QS.new x
 rw [c383, e383]
 unfold suffixS at hp
 obtain ⟨⟨a1, s1⟩, e1, hp⟩ := bnd hp
 refine calS w (hr _ _ _ _ _ x e1) fun g1 r1 w1 _ _ => ?_
 exact suf_loop hD hs D D a1 g1 s1 r1 a st' (Nat.le_refl _) w1 hp
end
section
variable {c : PC} {D : Nat}
def opNames : List ByteArray := [⟨#[]⟩, ⟨#[43]⟩, ⟨#[45]⟩, ⟨#[42]⟩, ⟨#[47]⟩, ⟨#[37]⟩, ⟨#[46, 46]⟩, ⟨#[61, 61]⟩, ⟨#[126, 61]⟩, ⟨#[60]⟩, ⟨#[60, 61]⟩]
def opLevels : List Int := [0, 5, 5, 6, 6, 6, 4, 3, 3, 3, 3]
theorem q171 (hD : 1 ≤ D) (h : AHeap) : call Tp Ms D 343 [] h = some (slc h.size 0 11, h.new 9 (strs opNames)) := by
 obtain ⟨D, rfl⟩ : ∃ d, D = d + 1 := ⟨D - 1, by omega⟩
 rw [c343, e343]; rfl
theorem q205 (hD : 1 ≤ D) (h : AHeap) : call Tp Ms D 384 [] h = some (slc h.size 0 11, h.new 3 (ints opLevels)) := by
 obtain ⟨D, rfl⟩ : ∃ d, D = d + 1 := ⟨D - 1, by omega⟩
 rw [c384, e384]; rfl
theorem ops_at : ∀ j, j < 10 → (opLevels[j + 1]?).getD 0 = ((opsL[j]?).getD (0, ⟨#[]⟩)).1 ∧ (opNames[j + 1]?).getD ⟨#[]⟩ = ((opsL[j]?).getD (0, ⟨#[]⟩)).2 := by decide
theorem op_loop2 {N i1 i2 : Nat} {L : Int} (hD : 1 ≤ D) {h0 : AHeap} {rn0 : Option Nat} {st : PSt} : ∀ (n j m : Nat) (h : AHeap) (rn : Option Nat), 10 - j = n → j ≤ 10 → n < m → QS c rn0 h0 st rn h → RowE h i1 9 (strs opNames) → RowE h i2 3 (ints opLevels) →
  QA c h0 rn0 (.int .i64 (opGo c L (opsL.drop j) (j + 1) st)) st (s359_0 hk0 (call Tp Ms D) N m (ptr c.p 0) L (slc i1 0 11) (slc i2 0 11) ((j + 1 : Nat) : Int) h) := by
 intro n
 induction n with
 | zero =>
  intro j m h rn hn hj hm w r1 r2
  obtain ⟨m, rfl⟩ : ∃ q, m = q + 1 := ⟨m - 1, by omega⟩
  obtain rfl : j = 10 := by omega
  rw [s359_0_eq]
  exact pcf (decide_eq_false (by omega)) (QA.fin w)
 | succ n ih =>
  intro j m h rn hn hj hm w r1 r2
  obtain ⟨m, rfl⟩ : ∃ q, m = q + 1 := ⟨m - 1, by omega⟩
  have wj : IntKind.i64.wrap (((j + 1 : Nat) : Int) + 1) = ((j + 1 + 1 : Nat) : Int) := by rw [wr (by omega) (by omega)]; omega
  have hlt : j < opsL.length := by show j < 10; omega
  obtain ⟨o1, o2⟩ := ops_at j (by omega)
  have l1 : j + 1 < opLevels.length := by show j + 1 < 11; omega
  have l2 : j + 1 < opNames.length := by show j + 1 < 11; omega
  rw [List.getElem?_eq_getElem l1, List.getElem?_eq_getElem hlt] at o1
  rw [List.getElem?_eq_getElem l2, List.getElem?_eq_getElem hlt] at o2
  have o1' : opLevels[j + 1] = opsL[j].1 := o1
  have o2' : opNames[j + 1] = opsL[j].2 := o2
  have a1 : aIdx (slc i2 0 11) (.int .i64 ((j + 1 : Nat) : Int)) 1 = some (ptr i2 (j + 1)) := by simp [aIdx, slc]; omega
  have a2 : aIdx (slc i1 0 11) (.int .i64 ((j + 1 : Nat) : Int)) 1 = some (ptr i1 (j + 1)) := by simp [aIdx, slc]; omega
  have b1 : aLd1 h (ptr i2 (j + 1)) = some (.int .i64 opsL[j].1) := r2.row.ld1 (by rw [← o1', ints, List.getElem?_map, List.getElem?_eq_getElem l1]; rfl)
  have b2 : aLd1 h (ptr i1 (j + 1)) = some (.string opsL[j].2) := r1.row.ld1 (by rw [← o2', strs, List.getElem?_map, List.getElem?_eq_getElem l2]; rfl)
  rw [List.drop_eq_getElem_cons hlt, opGo, s359_0_eq]
  refine pct (decide_eq_true (by omega)) (pb a1 (pb b1 (pb rfl ?_)))
  by_cases hL : opsL[j].1 = L
  ·refine pct (by simp [hL]) (pb a2 (pb b2 (pb rfl (calB w (q134 hD w.ph) fun g r w1 k1 n1 => ?_))))
   rw [s359_1_j, s359_1_eq, wj]
   by_cases hi : isP c st opsL[j].2 = true
   ·rw [if_pos ⟨hL, hi⟩]
    exact pct hi (QA.fin w1)
   ·rw [if_neg (fun z => hi z.2)]
    exact pcf (by simpa using hi) (ih (j + 1) m g r (by omega) (by omega) (by omega) w1 (r1.qk k1 (by decide) (by decide)) (r2.qk k1 (by decide) (by decide)))
  ·rw [if_neg (fun z => hL z.1)]
   refine pcf (by simpa using hL) ?_
   rw [s359_1_j, s359_1_eq, wj]
   exact pcf rfl (ih (j + 1) m h rn (by omega) (by omega) (by omega) w r1 r2)
theorem q198 {L : Int} (hD : 20 ≤ D) {h : AHeap} {st : PSt} {rn : Option Nat} (x : QH c h st rn) : Qp c h rn (call Tp Ms D 359 [ptr c.p 0, .int .i64 L] h) (.int .i64 (opGo c L opsL 1 st)) st := by
 obtain ⟨D, rfl⟩ : ∃ d, D = d + 1 := ⟨D - 1, by omega⟩
 rw [c359, e359]
 have e1 := Ext.new (Nat.le_refl h.size) 9 (strs opNames)
 have r1 := RowE.new h 9 (strs opNames)
 have e2 := Ext.new (Nat.le_refl (h.new 9 (strs opNames)).size) 3 (ints opLevels)
 have r2 := RowE.new (h.new 9 (strs opNames)) 3 (ints opLevels)
 have w := ((QS.new x).ext e1).ext e2
 show QA c h rn _ st _
 refine pb (q171 (by omega) h) (pb (q205 (by omega) _) ?_)
 exact op_loop2 (by omega) 10 0 D _ rn (by omega) (by omega) (by omega) w (r1.ext' e2) r2
theorem lev_loop {L : Int} {sub : PI} (hD : 20 ≤ D) (hw : IntKind.i64.wrap (L + 1) = L + 1) (hs : Simv c D (L + 1) sub) {h0 : AHeap} {rn0 : Option Nat} : ∀ (n m : Nat) (a : Int) (h : AHeap) (st : PSt) (rn : Option Nat) (q : Int) (st' : PSt), n ≤ m → QS c rn0 h0 st rn h → levLoop c L sub n a st = some (q, st') →
  QA c h0 rn0 (.int .i64 q) st' (s293_0 hk0 (call Tp Ms D) D m (ptr c.p 0) L a h) := by
 intro n
 induction n with
 | zero => intro m a h st rn q st' hm w hp; cases hp
 | succ n ih =>
  intro m a h st rn q st' hm w hp
  obtain ⟨m, rfl⟩ : ∃ q, m = q + 1 := ⟨m - 1, by omega⟩
  rw [s293_0_eq]
  rw [levLoop] at hp
  refine codS w ?_
  by_cases hc : st.code = 0
  ·rw [if_pos hc] at hp
   refine pct (by simp [hc]) ?_
   -- a node of a kind
   have fin : ∀ g r (k o : Int), k ≠ 0 → kindS c L st = (k, o) → QS c rn0 h0 st r g → QA c h0 rn0 (.int .i64 q) st' (s293_3 hk0 (call Tp Ms D) D m (ptr c.p 0) L a k o g) := fun g r k o hk0' hk w1 => by
    rw [hk] at hp
    dsimp only at hp
    rw [if_neg hk0'] at hp
    obtain ⟨s2, e2, hp⟩ := bnd hp
    obtain ⟨⟨a3, s3⟩, e1003, hp⟩ := bnd hp
    obtain ⟨⟨a4, s4⟩, e1004, hp⟩ := bnd hp
    rw [s293_3_j, s293_3_eq, hw]
    refine incS w1 e2 fun g2 w2 k2 => ?_
    refine calS w2 (hs _ _ _ _ _ w2.ph e1003) fun g3 r3 w3 _ _ => ?_
    refine rowS [a, a3] w3 rfl rfl fun g4 v4 rt w4 l4 _ _ => ?_
    refine nodB w4 (by omega) l4.kid e1004 fun g5 r5 w5 _ _ => ?_
    by_cases h3 : L = 3
    ·rw [if_pos h3] at hp; cases hp
     exact pct (by simp [h3]) (QA.fin w5)
    ·rw [if_neg h3] at hp
     exact pcf (by simpa using h3) (ih m a4 g5 s4 r5 q st' (by omega) w5 hp)
   have two : ∀ g r, (L = 1 → isP c st ⟨#[111, 114]⟩ = false) → QS c rn0 h0 st r g → QA c h0 rn0 (.int .i64 q) st' (s293_1 hk0 (call Tp Ms D) D m (ptr c.p 0) L a 10 0 false g) := fun g r n1 w1 => by
    rw [s293_1_j, s293_1_eq]
    refine pcf rfl ?_
    have three : ∀ g r, (L = 2 → isP c st ⟨#[97, 110, 100]⟩ = false) → QS c rn0 h0 st r g → QA c h0 rn0 (.int .i64 q) st' (s293_2 hk0 (call Tp Ms D) D m (ptr c.p 0) L a 10 0 false g) := fun g r n2 w2 => by
     rw [s293_2_j, s293_2_eq]
     refine pcf rfl (calS w2 (q198 (by omega) w2.ph) fun g3 r3 w3 _ _ => ?_)
     have hk : kindS c L st = if opGo c L opsL 1 st = 0 then (0, 0) else (10, opGo c L opsL 1 st) := by
      unfold kindS
      rw [if_neg (fun z => by rw [n1 z.1] at z; cases z.2), if_neg (fun z => by rw [n2 z.1] at z; cases z.2)]
     by_cases ho : opGo c L opsL 1 st = 0
     ·rw [if_pos ho] at hk
      rw [hk] at hp
      rw [if_pos rfl] at hp; cases hp
      exact pct (by simp [ho]) (QA.fin w3)
     ·rw [if_neg ho] at hk
      exact pcf (by simpa using ho) (fin g3 r3 10 _ (by decide) hk w3)
    by_cases h2 : L = 2
    ·refine pct (by simp [h2]) (calB w1 (q134 (by omega) w1.ph) fun g2 r2 w2 _ _ => ?_)
     by_cases i2 : isP c st ⟨#[97, 110, 100]⟩ = true
     ·rw [i2, s293_2_j, s293_2_eq]
      exact pct rfl (fin g2 r2 12 0 (by decide) (by unfold kindS; rw [if_neg (fun z => by omega), if_pos ⟨h2, i2⟩]) w2)
     ·have i2' : isP c st ⟨#[97, 110, 100]⟩ = false := by simpa using i2
      rw [i2']; exact three g2 r2 (fun _ => i2') w2
    ·exact pcf (by simpa using h2) (three g r (fun z => absurd z h2) w1)
   by_cases h1 : L = 1
   ·refine pct (by simp [h1]) (calB w (q134 (by omega) w.ph) fun g1 r1 w1 _ _ => ?_)
    by_cases i1 : isP c st ⟨#[111, 114]⟩ = true
    ·rw [i1, s293_1_j, s293_1_eq]
     exact pct rfl (fin g1 r1 13 0 (by decide) (by unfold kindS; rw [if_pos ⟨h1, i1⟩]) w1)
    ·have i1' : isP c st ⟨#[111, 114]⟩ = false := by simpa using i1
     rw [i1']; exact two g1 r1 (fun _ => i1') w1
   ·exact pcf (by simpa using h1) (two h rn (fun z => absurd z h1) w)
  ·rw [if_neg hc] at hp; cases hp
   exact pcf (by simpa using hc) (QA.fin w)
theorem s176 {L : Int} {sub : PI} (hD : 20 ≤ D) (h7 : L ≠ 7) (hw : IntKind.i64.wrap (L + 1) = L + 1) (hs : Simv c D (L + 1) sub) : Simv c (D + 1) L (levelS c L sub D) := by
 intro h st rn a st' x hp
 have w := QS.new x
 rw [c293, e293, hw]
 unfold levelS at hp
 obtain ⟨⟨a1, s1⟩, e1, hp⟩ := bnd hp
 refine pcf (by simpa using h7) (calS w (hs _ _ _ _ _ x e1) fun g1 r1 w1 _ _ => ?_)
 exact lev_loop hD hw hs D D a1 g1 s1 r1 a st' (Nat.le_refl _) w1 hp
theorem s1767 {t : PI} (hs : Simq c D 358 t) : Simv c (D + 1) 7 t := by
 intro h st rn a st' x hp
 rw [c293, e293]
 exact pct rfl (calS (QS.new x) (hs _ _ _ _ _ x hp) fun g1 r1 w1 _ _ => QA.fin w1)
theorem tokS {P : Option (Value × AHeap) → Prop} {rn0 rn : Option Nat} {h0 h g : AHeap} {st s2 : PSt} (w : QS c rn0 h0 s2 rn g) (hc : st.code = 0) (hl : st.at' < c.toks.length) (ha : adv 1 st = some s2) :
  ∃ i o, aLd1 g (ptr c.p 0) = some c.tv ∧ aLd1 g (ptr c.p 1) = some (.int .i64 s2.at') ∧ IntKind.i64.wrap ((s2.at' : Int) - 1) = (st.at' : Int) ∧ aIdx c.tv (.int .i64 (st.at' : Int)) 4 = some (ptr i o) ∧ aLd1 g (ptr i (o + 2)) = some (.string (pk c st).text) ∧ aLd1 g (ptr i (o + 3)) = some (.int .i64 (pk c st).i) := by
 obtain ⟨nv, _, f0, f1, _⟩ := w.ph.ld
 obtain ⟨_, _, tk, _⟩ := w.ph
 obtain ⟨i, o, b1, _, _, _, b2, b3⟩ := tk.fld hl
 unfold adv at ha
 by_cases hb : st.at' + 1 ≤ 1000000
 ·rw [if_pos hb] at ha
  obtain rfl := Option.some.inj ha
  rw [pk_at hc hl]
  exact ⟨i, o, f0, f1, by show IntKind.i64.wrap (((st.at' + 1 : Nat) : Int) - 1) = _; rw [wr (by omega) (by omega)]; omega, b1, b2, b3⟩
 ·rw [if_neg hb] at ha; cases ha
theorem pk_live {st : PSt} (h : (pk c st).k ≠ 0) : st.code = 0 ∧ st.at' < c.toks.length := by
 have hc : st.code = 0 := by
  apply Decidable.byContradiction
  intro h0; exact h (pk_dead h0)
 refine ⟨hc, ?_⟩
 apply Decidable.byContradiction
 intro h0; exact h (by rw [pk_end hc (by omega)])
theorem s222 {ex fn table : PI} (hD : 2 ≤ D) (hs : Simq c D 204 ex) (hf : Simq c D 417 fn) (ht : Simq c D 418 table) : Simq c (D + 1) 407 (primaryS c ex fn table) := by
 intro h st rn a st' x hp
 have w := QS.new x
 rw [c407, e407]
 unfold primaryS at hp
 refine calS w (q173 (by omega) x) fun g1 r1 w1 _ _ => ?_
 by_cases k3 : (pk c st).k = 3
 ·rw [if_pos k3] at hp
  obtain ⟨hc, hl⟩ := pk_live (c := c) (st := st) (by omega)
  obtain ⟨s2, e2, hp⟩ := bnd hp
  refine pct (by simp [k3]) (incS w1 e2 fun g2 w2 _ => ?_)
  obtain ⟨i, o, f0, f1, wj, b1, _, b3⟩ := tokS (P := QA c h rn (.int .i64 a) st') (h := h) w2 hc hl e2
  refine pb rfl (pb rfl (pb f0 (pb rfl (pb rfl (pb f1 (pb rfl (pb (v := ptr i o) (by rw [wj]; exact b1) (pb rfl (pb b3 (pb rfl ?_))))))))))
  exact nodL w2 (by omega) hp fun g3 r3 w3 _ _ => QA.fin w3
 rw [if_neg k3] at hp
 refine pcf (by simpa using k3) ?_
 by_cases k4 : (pk c st).k = 4
 ·rw [if_pos k4] at hp
  obtain ⟨hc, hl⟩ := pk_live (c := c) (st := st) (by omega)
  obtain ⟨s2, e2, hp⟩ := bnd hp
  refine pct (by simp [k4]) (incS w1 e2 fun g2 w2 _ => ?_)
  obtain ⟨i, o, f0, f1, wj, b1, b2, _⟩ := tokS (P := QA c h rn (.int .i64 a) st') (h := h) w2 hc hl e2
  refine pb rfl (pb rfl (pb f0 (pb rfl (pb rfl (pb f1 (pb rfl (pb (v := ptr i o) (by rw [wj]; exact b1) (pb rfl (pb b2 (pb rfl ?_))))))))))
  exact nodL w2 (by omega) hp fun g3 r3 w3 _ _ => QA.fin w3
 rw [if_neg k4] at hp
 refine pcf (by simpa using k4) ?_
 by_cases k1 : (pk c st).k = 1
 ·rw [if_pos k1] at hp
  obtain ⟨⟨t2, s2⟩, e2, hp⟩ := bnd hp
  refine pct (by simp [k1]) (calT w1 (q135 hD w1.ph e2) fun g2 r2 w2 _ _ => ?_)
  exact nodL w2 (by omega) hp fun g3 r3 w3 _ _ => QA.fin w3
 rw [if_neg k1] at hp
 refine pcf (by simpa using k1) (calB w1 (q134 (by omega) w1.ph) fun g2 r2 w2 _ _ => ?_)
 by_cases i1 : isP c st ⟨#[110, 105, 108]⟩ = true
 ·rw [if_pos i1] at hp
  obtain ⟨s3, e1003, hp⟩ := bnd hp
  exact pct i1 (incS w2 e1003 fun g3 w3 _ => nodL w3 (by omega) hp fun g4 r4 w4 _ _ => QA.fin w4)
 rw [if_neg i1] at hp
 refine pcf (by simpa using i1) (calB w2 (q134 (by omega) w2.ph) fun g3 r3 w3 _ _ => ?_)
 by_cases i2 : isP c st ⟨#[116, 114, 117, 101]⟩ = true
 ·rw [if_pos i2] at hp
  obtain ⟨s3, e1003, hp⟩ := bnd hp
  exact pct i2 (incS w3 e1003 fun g3 w3 _ => nodL w3 (by omega) hp fun g4 r4 w4 _ _ => QA.fin w4)
 rw [if_neg i2] at hp
 refine pcf (by simpa using i2) (calB w3 (q134 (by omega) w3.ph) fun g4 r4 w4 _ _ => ?_)
 by_cases i3 : isP c st ⟨#[102, 97, 108, 115, 101]⟩ = true
 ·rw [if_pos i3] at hp
  obtain ⟨s3, e1003, hp⟩ := bnd hp
  exact pct i3 (incS w4 e1003 fun g3 w3 _ => nodL w3 (by omega) hp fun g4 r4 w4 _ _ => QA.fin w4)
 rw [if_neg i3] at hp
 refine pcf (by simpa using i3) (calB w4 (q134 (by omega) w4.ph) fun g5 r5 w5 _ _ => ?_)
 by_cases i4 : isP c st ⟨#[102, 110]⟩ = true
 ·rw [if_pos i4] at hp
  obtain ⟨s3, e1003, hp⟩ := bnd hp
  exact pct i4 (incS w5 e1003 fun g3 w3 _ => calS w3 (hf _ _ _ _ _ w3.ph hp) fun g4 r4 w4 _ _ => QA.fin w4)
 rw [if_neg i4] at hp
 refine pcf (by simpa using i4) (calB w5 (q134 (by omega) w5.ph) fun g6 r6 w6 _ _ => ?_)
 by_cases i5 : isP c st ⟨#[123]⟩ = true
 ·rw [if_pos i5] at hp
  obtain ⟨s3, e1003, hp⟩ := bnd hp
  exact pct i5 (incS w6 e1003 fun g3 w3 _ => calS w3 (ht _ _ _ _ _ w3.ph hp) fun g4 r4 w4 _ _ => QA.fin w4)
 rw [if_neg i5] at hp
 refine pcf (by simpa using i5) (calB w6 (q134 (by omega) w6.ph) fun g7 r7 w7 _ _ => ?_)
 by_cases i6 : isP c st ⟨#[40]⟩ = true
 ·rw [if_pos i6] at hp
  obtain ⟨s3, e1003, hp⟩ := bnd hp
  obtain ⟨⟨a4, s4⟩, e1004, hp⟩ := bnd hp
  obtain ⟨s5, e1005, hp⟩ := bnd hp
  cases hp
  exact pct i6 (incS w7 e1003 fun g3 w3 _ => calS w3 (hs _ _ _ _ _ w3.ph e1004) fun g4 r4 w4 _ _ => calU w4 (q136 hD w4.ph e1005) fun g5 r5 w5 _ _ => QA.fin w5)
 rw [if_neg i6] at hp
 cases hp
 exact pcf (by simpa using i6) (calS w7 (q174 (by omega) w7.ph) fun g8 r8 w8 _ _ => QA.fin w8)
end
section
variable {c : PC} {D : Nat}
theorem par_loop {blk : PI} (hD : 2 ≤ D) (hb : Simq c D 205 blk) {h0 : AHeap} {rn0 : Option Nat} {rt : Nat} (hrt : h0.size ≤ rt) {a : Int} {st' : PSt} :
  ∀ (n m : Nat) (ks : List Int) (v : Value) (h : AHeap) (st : PSt) (rn : Option Nat), n ≤ m → QS c rn0 h0 st rn h → PLI h v ks rt →
  ((parLoop c n ks st).bind fun l => (wantP c ⟨#[41]⟩ l.2).bind fun s => (blk s).bind fun b => if l.1.length > 1000000 then none else nodeS 6 E0 0 (l.1 ++ [b.1]) b.2) = some (a, st') →
  QA c h0 rn0 (.int .i64 a) st' (s417_0 hk0 (call Tp Ms D) D m (ptr c.p 0) v h) := by
 intro n
 induction n with
 | zero => intro m ks v h st rn hm w li hp; cases hp
 | succ n ih =>
  intro m ks v h st rn hm w li hp
  obtain ⟨m, rfl⟩ : ∃ q, m = q + 1 := ⟨m - 1, by omega⟩
  rw [s417_0_eq]
  rw [parLoop] at hp
  refine codS w ?_
  by_cases hc : st.code = 0
  ·refine pct (by simp [hc]) (calB w (q134 (by omega) w.ph) fun g1 r1 w1 k1 _ => ?_)
   by_cases hi : isP c st ⟨#[41]⟩ = false
   ·rw [if_pos ⟨hc, hi⟩] at hp
    obtain ⟨l, e0, hp⟩ := bnd hp
    obtain ⟨s2, e2, e0⟩ := bnd e0
    obtain ⟨⟨t3, s3⟩, e1003, e0⟩ := bnd e0
    obtain ⟨⟨a4, s4⟩, e1004, e0⟩ := bnd e0
    by_cases hb2 : ks.length > 1000000
    ·rw [if_pos hb2] at e0; cases e0
    rw [if_neg hb2] at e0
    have hp' : ((parLoop c n (ks ++ [a4]) s4).bind fun l => (wantP c ⟨#[41]⟩ l.2).bind fun s => (blk s).bind fun b => if l.1.length > 1000000 then none else nodeS 6 E0 0 (l.1 ++ [b.1]) b.2) = some (a, st') := by
     dsimp only at e0; rw [e0]; exact hp
    have fin : ∀ g r, QS c rn0 h0 s2 r g → PLI g v ks rt → QA c h0 rn0 (.int .i64 a) st' (s417_2 hk0 (call Tp Ms D) D m (ptr c.p 0) v g) := fun g r w2 l2 => by
     rw [s417_2_j, s417_2_eq]
     refine calT w2 (q135 hD w2.ph e1003) fun g3 r3 w3 k3 _ => ?_
     refine nodL w3 (by omega) e1004 fun g4 r4 w4 k4 _ => ?_
     refine pushS w4 ((l2.qk k3).qk k4) hrt (by omega) fun g5 v5 w5 l5 _ => ?_
     exact ih m (ks ++ [a4]) v5 g5 s4 r4 (by omega) w5 l5 hp'
    refine pct (by simp [hi]) ?_
    rw [s417_1_j, s417_1_eq]
    refine pb li.kid.len (pb rfl ?_)
    by_cases h1 : ks.length > 0
    ·rw [if_pos h1] at e2
     refine pct (decide_eq_true (by omega)) (calU w1 (q136 hD w1.ph e2) fun g2 r2 w2 k2 _ => ?_)
     exact fin g2 r2 w2 ((li.qk k1).qk k2)
    ·rw [if_neg h1] at e2; cases e2
     exact pcf (decide_eq_false (by omega)) (fin g1 r1 w1 (li.qk k1))
   ·rw [if_neg (fun z => hi z.2), oBs] at hp
    dsimp only at hp
    obtain ⟨s2, e2, hp⟩ := bnd hp
    obtain ⟨⟨a3, s3⟩, e1003, hp⟩ := bnd hp
    by_cases hb2 : ks.length > 1000000
    ·rw [if_pos hb2] at hp; cases hp
    rw [if_neg hb2] at hp
    refine pcf (by simpa using hi) (calU w1 (q136 hD w1.ph e2) fun g2 r2 w2 k2 _ => ?_)
    refine calS w2 (hb _ _ _ _ _ w2.ph e1003) fun g3 r3 w3 k3 _ => ?_
    refine pushS w3 (((li.qk k1).qk k2).qk k3) hrt (by omega) fun g4 v4 w4 l4 _ => ?_
    exact nodA w4 (by omega) l4.kid hp fun g5 r5 w5 _ _ => QA.fin w5
  ·rw [if_neg (fun z => hc z.1), oBs] at hp
   dsimp only at hp
   obtain ⟨s2, e2, hp⟩ := bnd hp
   obtain ⟨⟨a3, s3⟩, e1003, hp⟩ := bnd hp
   by_cases hb2 : ks.length > 1000000
   ·rw [if_pos hb2] at hp; cases hp
   rw [if_neg hb2] at hp
   refine pcf (by simpa using hc) (calU w (q136 hD w.ph e2) fun g2 r2 w2 k2 _ => ?_)
   refine calS w2 (hb _ _ _ _ _ w2.ph e1003) fun g3 r3 w3 k3 _ => ?_
   refine pushS w3 ((li.qk k2).qk k3) hrt (by omega) fun g4 v4 w4 l4 _ => ?_
   exact nodA w4 (by omega) l4.kid hp fun g5 r5 w5 _ _ => QA.fin w5
theorem s233 {blk : PI} (hD : 2 ≤ D) (hb : Simq c D 205 blk) : Simq c (D + 1) 417 (fnS c blk D) := by
 intro h st rn a st' x hp
 have w := QS.new x
 rw [c417, e417]
 unfold fnS at hp
 obtain ⟨s1, e1, hp⟩ := bnd hp
 refine rowS [] w rfl rfl fun g1 v1 rt w1 l1 _ hr => ?_
 refine calU w1 (q136 hD w1.ph e1) fun g2 r2 w2 k2 _ => ?_
 exact par_loop hD hb hr D D [] v1 g2 s1 r2 (Nat.le_refl _) w2 (l1.qk k2) hp
theorem tab_loop2 {fld : PI} (hD : 2 ≤ D) (hf : Simq c D 422 fld) {h0 : AHeap} {rn0 : Option Nat} {rt : Nat} (hrt : h0.size ≤ rt) {a : Int} {st' : PSt} :
  ∀ (n m : Nat) (ks : List Int) (v : Value) (h : AHeap) (st : PSt) (rn : Option Nat), n ≤ m → QS c rn0 h0 st rn h → PLI h v ks rt →
  ((tabLoop c fld n ks st).bind fun l => (wantP c ⟨#[125]⟩ l.2).bind fun s => nodeS 7 E0 0 l.1 s) = some (a, st') →
  QA c h0 rn0 (.int .i64 a) st' (s418_0 hk0 (call Tp Ms D) D m (ptr c.p 0) v h) := by
 intro n
 induction n with
 | zero => intro m ks v h st rn hm w li hp; cases hp
 | succ n ih =>
  intro m ks v h st rn hm w li hp
  obtain ⟨m, rfl⟩ : ∃ q, m = q + 1 := ⟨m - 1, by omega⟩
  rw [s418_0_eq]
  rw [tabLoop] at hp
  refine codS w ?_
  by_cases hc : st.code = 0
  ·refine pct (by simp [hc]) (calB w (q134 (by omega) w.ph) fun g1 r1 w1 k1 _ => ?_)
   by_cases hi : isP c st ⟨#[125]⟩ = false
   ·rw [if_pos ⟨hc, hi⟩] at hp
    obtain ⟨l, e0, hp⟩ := bnd hp
    obtain ⟨s2, e2, e0⟩ := bnd e0
    obtain ⟨⟨a4, s4⟩, e1004, e0⟩ := bnd e0
    by_cases hb2 : ks.length > 1000000
    ·rw [if_pos hb2] at e0; cases e0
    rw [if_neg hb2] at e0
    have hp' : ((tabLoop c fld n (ks ++ [a4]) s4).bind fun l => (wantP c ⟨#[125]⟩ l.2).bind fun s => nodeS 7 E0 0 l.1 s) = some (a, st') := by
     dsimp only at e0; rw [e0]; exact hp
    have fin : ∀ g r, QS c rn0 h0 s2 r g → PLI g v ks rt → QA c h0 rn0 (.int .i64 a) st' (s418_2 hk0 (call Tp Ms D) D m (ptr c.p 0) v g) := fun g r w2 l2 => by
     rw [s418_2_j, s418_2_eq]
     refine calS w2 (hf _ _ _ _ _ w2.ph e1004) fun g4 r4 w4 k4 _ => ?_
     refine pushS w4 (l2.qk k4) hrt (by omega) fun g5 v5 w5 l5 _ => ?_
     exact ih m (ks ++ [a4]) v5 g5 s4 r4 (by omega) w5 l5 hp'
    refine pct (by simp [hi]) ?_
    rw [s418_1_j, s418_1_eq]
    refine pb li.kid.len (pb rfl ?_)
    by_cases h1 : ks.length > 0
    ·rw [if_pos h1] at e2
     refine pct (decide_eq_true (by omega)) (calU w1 (q136 hD w1.ph e2) fun g2 r2 w2 k2 _ => ?_)
     exact fin g2 r2 w2 ((li.qk k1).qk k2)
    ·rw [if_neg h1] at e2; cases e2
     exact pcf (decide_eq_false (by omega)) (fin g1 r1 w1 (li.qk k1))
   ·rw [if_neg (fun z => hi z.2), oBs] at hp
    dsimp only at hp
    obtain ⟨s2, e2, hp⟩ := bnd hp
    refine pcf (by simpa using hi) (calU w1 (q136 hD w1.ph e2) fun g2 r2 w2 k2 _ => ?_)
    exact nodA w2 (by omega) ((li.qk k1).qk k2).kid hp fun g5 r5 w5 _ _ => QA.fin w5
  ·rw [if_neg (fun z => hc z.1), oBs] at hp
   dsimp only at hp
   obtain ⟨s2, e2, hp⟩ := bnd hp
   refine pcf (by simpa using hc) (calU w (q136 hD w.ph e2) fun g2 r2 w2 k2 _ => ?_)
   exact nodA w2 (by omega) (li.qk k2).kid hp fun g5 r5 w5 _ _ => QA.fin w5
theorem s234 {fld : PI} (hD : 2 ≤ D) (hf : Simq c D 422 fld) : Simq c (D + 1) 418 (tableS c fld D) := by
 intro h st rn a st' x hp
 have w := QS.new x
 rw [c418, e418]
 refine rowS [] w rfl rfl fun g1 v1 rt w1 l1 _ hr => ?_
 exact tab_loop2 hD hf hr D D [] v1 g1 st rn (Nat.le_refl _) w1 l1 hp
theorem s239 {ex : PI} (hD : 2 ≤ D) (hs : Simq c D 204 ex) : Simq c (D + 1) 422 (fieldS c ex) := by
 intro h st rn a st' x hp
 have w := QS.new x
 rw [c422, e422]
 unfold fieldS at hp
 refine calB w (q134 (by omega) x) fun g1 r1 w1 _ _ => ?_
 by_cases i1 : isP c st ⟨#[91]⟩ = true
 ·rw [if_pos i1] at hp
  obtain ⟨s2, e2, hp⟩ := bnd hp
  obtain ⟨⟨a3, s3⟩, e1003, hp⟩ := bnd hp
  obtain ⟨s4, e1004, hp⟩ := bnd hp
  obtain ⟨s5, e1005, hp⟩ := bnd hp
  obtain ⟨⟨a6, s6⟩, e1006, hp⟩ := bnd hp
  refine pct i1 (incS w1 e2 fun g2 w2 _ => ?_)
  refine calS w2 (hs _ _ _ _ _ w2.ph e1003) fun g3 r3 w3 _ _ => ?_
  refine calU w3 (q136 hD w3.ph e1004) fun g4 r4 w4 _ _ => ?_
  refine calU w4 (q136 hD w4.ph e1005) fun g5 r5 w5 _ _ => ?_
  refine calS w5 (hs _ _ _ _ _ w5.ph e1006) fun g6 r6 w6 _ _ => ?_
  refine rowS [a3, a6] w6 rfl rfl fun g7 v7 rt w7 l7 _ _ => ?_
  exact nodA w7 (by omega) l7.kid hp fun g8 r8 w8 _ _ => QA.fin w8
 rw [if_neg i1] at hp
 by_cases hbig : (pk c st).k = 1 ∧ st.at' > 1000000
 ·rw [if_pos hbig] at hp; cases hp
 rw [if_neg hbig] at hp
 refine pcf (by simpa using i1) (calS w1 (q173 (by omega) w1.ph) fun g2 r2 w2 _ _ => ?_)
 have no : ¬ ((pk c st).k = 1 ∧ eqNext c st = true) → QA c h rn (.int .i64 a) st' (s422_0 hk0 (call Tp Ms D) D (ptr c.p 0) false g2) := fun hno => by
  rw [if_neg hno] at hp
  obtain ⟨⟨a3, s3⟩, e1003, hp⟩ := bnd hp
  rw [s422_0_j, s422_0_eq]
  refine pcf rfl ?_
  rw [s422_1_j, s422_1_eq]
  refine calS w2 (hs _ _ _ _ _ w2.ph e1003) fun g3 r3 w3 _ _ => ?_
  refine rowS [a3] w3 rfl rfl fun g4 v4 rt w4 l4 _ _ => ?_
  exact nodA w4 (by omega) l4.kid hp fun g5 r5 w5 _ _ => QA.fin w5
 by_cases k1 : (pk c st).k = 1
 ·obtain ⟨nv, _, f0, f1, _⟩ := w2.ph.ld
  have tk : TokH g2 c.tv c.toks := let ⟨_, _, a, _⟩ := w2.ph; a
  have hnb : ¬ st.at' > 1000000 := fun z => hbig ⟨k1, z⟩
  have wj : IntKind.i64.wrap ((st.at' : Int) + 1) = ((st.at' + 1 : Nat) : Int) := by rw [wr (by omega) (by omega)]; omega
  refine pct (by simp [k1]) (pb rfl (pb rfl (pb f1 (pb rfl (pb rfl (pb rfl (pb f0 (pb tk.len (pb rfl ?_)))))))))
  rw [wj]
  by_cases hl : st.at' + 1 < c.toks.length
  ·obtain ⟨i, o, b1, _, b2, _, b3, _⟩ := tk.fld hl
   have en : eqNext c st = (c.toks[st.at' + 1].k == 5 && c.toks[st.at' + 1].text.toList == (⟨#[61]⟩ : ByteArray).toList) := by
    unfold eqNext; rw [List.getElem?_eq_getElem hl]
   refine pct (decide_eq_true (by omega)) (pb rfl (pb rfl (pb f0 (pb rfl (pb rfl (pb f1 (pb rfl (pb (v := ptr i o) (by rw [wj]; exact b1) (pb rfl (pb b2 (pb rfl ?_)))))))))))
   by_cases h5 : c.toks[st.at' + 1].k = 5
   ·refine pct (by simp [h5]) (pb rfl (pb rfl (pb f0 (pb rfl (pb rfl (pb f1 (pb rfl (pb (v := ptr i o) (by rw [wj]; exact b1) (pb rfl (pb b3 (pb rfl ?_)))))))))))
    rw [h5] at en
    by_cases ht : (c.toks[st.at' + 1].text.toList == (⟨#[61]⟩ : ByteArray).toList) = true
    ·have en' : eqNext c st = true := by rw [en, ht]; rfl
     rw [if_pos ⟨k1, en'⟩] at hp
     obtain ⟨⟨t3, s3⟩, e1003, hp⟩ := bnd hp
     obtain ⟨s4, e1004, hp⟩ := bnd hp
     obtain ⟨⟨a5, s5⟩, e1005, hp⟩ := bnd hp
     obtain ⟨⟨a6, s6⟩, e1006, hp⟩ := bnd hp
     rw [ht, s422_0_j, s422_0_eq]
     refine pct rfl (calT w2 (q135 hD w2.ph e1003) fun g3 r3 w3 _ _ => ?_)
     refine incS w3 e1004 fun g4 w4 _ => ?_
     refine nodL w4 (by omega) e1005 fun g5 r5 w5 _ _ => ?_
     refine calS w5 (hs _ _ _ _ _ w5.ph e1006) fun g6 r6 w6 _ _ => ?_
     refine rowS [a5, a6] w6 rfl rfl fun g7 v7 rt w7 l7 _ _ => ?_
     exact nodA w7 (by omega) l7.kid hp fun g8 r8 w8 _ _ => QA.fin w8
    ·have ht' : (c.toks[st.at' + 1].text.toList == (⟨#[61]⟩ : ByteArray).toList) = false := by simpa using ht
     rw [ht'] at en
     rw [ht']
     exact no (fun z => by rw [en] at z; exact absurd z.2 (by decide))
   ·have h5' : (c.toks[st.at' + 1].k == 5) = false := by simpa using h5
    rw [h5', Bool.false_and] at en
    exact pcf (by simpa using h5) (no (fun z => by rw [en] at z; exact absurd z.2 (by decide)))
  ·have en : eqNext c st = false := by unfold eqNext; rw [List.getElem?_eq_none (by omega)]
   exact pcf (decide_eq_false (by omega)) (no (fun z => by rw [en] at z; exact absurd z.2 (by decide)))
 ·exact pcf (by simpa using k1) (no (fun z => k1 z.1))
theorem blk_loop2 {stm : PI} (hD : 2 ≤ D) (hs : Simq c D 104 stm) {h0 : AHeap} {rn0 : Option Nat} {rt : Nat} (hrt : h0.size ≤ rt) {a : Int} {st' : PSt} :
  ∀ (n m : Nat) (ks : List Int) (v : Value) (h : AHeap) (st : PSt) (rn : Option Nat), n ≤ m → QS c rn0 h0 st rn h → PLI h v ks rt →
  ((blkLoop c stm n ks st).bind fun l => (wantP c ⟨#[125]⟩ l.2).bind fun s => (nestTo (-1) s).bind fun s => nodeS 21 E0 0 l.1 s) = some (a, st') →
  QA c h0 rn0 (.int .i64 a) st' (s205_0 hk0 (call Tp Ms D) D m (ptr c.p 0) v h) := by
 intro n
 induction n with
 | zero => intro m ks v h st rn hm w li hp; cases hp
 | succ n ih =>
  intro m ks v h st rn hm w li hp
  obtain ⟨m, rfl⟩ : ∃ q, m = q + 1 := ⟨m - 1, by omega⟩
  rw [s205_0_eq]
  rw [blkLoop] at hp
  refine codS w ?_
  by_cases hc : st.code = 0
  ·refine pct (by simp [hc]) (calB w (q134 (by omega) w.ph) fun g1 r1 w1 k1 _ => ?_)
   by_cases hi : isP c st ⟨#[125]⟩ = false
   ·rw [if_pos ⟨hc, hi⟩] at hp
    obtain ⟨l, e0, hp⟩ := bnd hp
    obtain ⟨⟨a4, s4⟩, e1004, e0⟩ := bnd e0
    by_cases hb2 : ks.length > 1000000
    ·rw [if_pos hb2] at e0; cases e0
    rw [if_neg hb2] at e0
    have hp' : ((blkLoop c stm n (ks ++ [a4]) s4).bind fun l => (wantP c ⟨#[125]⟩ l.2).bind fun s => (nestTo (-1) s).bind fun s => nodeS 21 E0 0 l.1 s) = some (a, st') := by
     dsimp only at e0; rw [e0]; exact hp
    refine pct (by simp [hi]) ?_
    rw [s205_1_j, s205_1_eq]
    refine calS w1 (hs _ _ _ _ _ w1.ph e1004) fun g4 r4 w4 k4 _ => ?_
    refine pushS w4 ((li.qk k1).qk k4) hrt (by omega) fun g5 v5 w5 l5 _ => ?_
    exact ih m (ks ++ [a4]) v5 g5 s4 r4 (by omega) w5 l5 hp'
   ·rw [if_neg (fun z => hi z.2), oBs] at hp
    dsimp only at hp
    obtain ⟨s2, e2, hp⟩ := bnd hp
    obtain ⟨s3, e1003, hp⟩ := bnd hp
    refine pcf (by simpa using hi) (calU w1 (q136 hD w1.ph e2) fun g2 r2 w2 k2 _ => ?_)
    refine decS w2 e1003 fun g3 w3 k3 => ?_
    exact nodA w3 (by omega) (((li.qk k1).qk k2).qk k3).kid hp fun g5 r5 w5 _ _ => QA.fin w5
  ·rw [if_neg (fun z => hc z.1), oBs] at hp
   dsimp only at hp
   obtain ⟨s2, e2, hp⟩ := bnd hp
   obtain ⟨s3, e1003, hp⟩ := bnd hp
   refine pcf (by simpa using hc) (calU w (q136 hD w.ph e2) fun g2 r2 w2 k2 _ => ?_)
   refine decS w2 e1003 fun g3 w3 k3 => ?_
   exact nodA w3 (by omega) ((li.qk k2).qk k3).kid hp fun g5 r5 w5 _ _ => QA.fin w5
theorem s138 {stm : PI} (hD : 2 ≤ D) (hs : Simq c D 104 stm) : Simq c (D + 1) 205 (blockS c stm D) := by
 intro h st rn a st' x hp
 have w := QS.new x
 rw [c205, e205]
 unfold blockS at hp
 obtain ⟨⟨b, s1⟩, e1, hp⟩ := bnd hp
 refine calB w (q175 hD x e1) fun g1 r1 w1 k1 n1 => ?_
 cases b with
 | false => cases hp; exact pct rfl (QA.fin w1)
 | true =>
  obtain ⟨s2, e2, hp⟩ := bnd hp
  refine pcf rfl (calU w1 (q136 hD w1.ph e2) fun g2 r2 w2 k2 _ => ?_)
  refine rowS [] w2 rfl rfl fun g3 v3 rt w3 l3 _ hr => ?_
  exact blk_loop2 hD hs (Nat.le_trans w2.fr.1 hr) D D [] v3 g3 s2 r2 (Nat.le_refl _) w3 l3 hp
theorem s82 {ex blk asg : PI} (hD : 2 ≤ D) (hs : Simq c D 204 ex) (hb : Simq c D 205 blk) (ha : Simq c D 206 asg) : Simq c (D + 1) 104 (stmtS c ex blk asg) := by
 intro h st rn a st' x hp
 have w := QS.new x
 rw [c104, e104]
 unfold stmtS at hp
 refine calB w (q134 (by omega) x) fun g1 r1 w1 _ _ => ?_
 by_cases i1 : isP c st ⟨#[108, 111, 99, 97, 108]⟩ = true
 ·rw [if_pos i1] at hp
  obtain ⟨s2, e2, hp⟩ := bnd hp
  obtain ⟨⟨t3, s3⟩, e1003, hp⟩ := bnd hp
  obtain ⟨s4, e1004, hp⟩ := bnd hp
  obtain ⟨⟨a5, s5⟩, e1005, hp⟩ := bnd hp
  obtain ⟨s6, e1006, hp⟩ := bnd hp
  refine pct i1 (incS w1 e2 fun g2 w2 _ => ?_)
  refine calT w2 (q135 hD w2.ph e1003) fun g3 r3 w3 _ _ => ?_
  refine calU w3 (q136 hD w3.ph e1004) fun g4 r4 w4 _ _ => ?_
  refine calS w4 (hs _ _ _ _ _ w4.ph e1005) fun g5 r5 w5 _ _ => ?_
  refine calU w5 (q136 hD w5.ph e1006) fun g6 r6 w6 _ _ => ?_
  refine rowS [a5] w6 rfl rfl fun g7 v7 rt w7 l7 _ _ => ?_
  exact nodC w7 (by omega) l7.kid hp fun g8 r8 w8 _ _ => QA.fin w8
 rw [if_neg i1] at hp
 refine pcf (by simpa using i1) (calB w1 (q134 (by omega) w1.ph) fun g2 r2 w2 _ _ => ?_)
 by_cases i2 : isP c st ⟨#[105, 102]⟩ = true
 ·rw [if_pos i2] at hp
  obtain ⟨s3, e1003, hp⟩ := bnd hp
  obtain ⟨⟨a4, s4⟩, e1004, hp⟩ := bnd hp
  obtain ⟨⟨a5, s5⟩, e1005, hp⟩ := bnd hp
  refine pct i2 (incS w2 e1003 fun g3 w3 _ => ?_)
  refine calS w3 (hs _ _ _ _ _ w3.ph e1004) fun g4 r4 w4 _ _ => ?_
  refine calS w4 (hb _ _ _ _ _ w4.ph e1005) fun g5 r5 w5 _ _ => ?_
  refine rowS [a4, a5] w5 rfl rfl fun g6 v6 rt w6 l6 _ hr => ?_
  refine calB w6 (q134 (by omega) w6.ph) fun g7 r7 w7 k7 _ => ?_
  by_cases i3 : isP c s5 ⟨#[101, 108, 115, 101]⟩ = true
  ·rw [if_pos i3] at hp
   obtain ⟨s8, e1008, hp⟩ := bnd hp
   obtain ⟨⟨a9, s9⟩, e1009, hp⟩ := bnd hp
   refine pct i3 (incS w7 e1008 fun g8 w8 k8 => ?_)
   refine calS w8 (hb _ _ _ _ _ w8.ph e1009) fun g9 r9 w9 k9 _ => ?_
   refine pushS w9 (((l6.qk k7).qk k8).qk k9) (Nat.le_trans w5.fr.1 hr) (by show 2 ≤ 9000000; omega) fun g10 v10 w10 l10 _ => ?_
   rw [s104_0_j, s104_0_eq]
   exact nodA (ks := [a4, a5, a9]) w10 (by omega) l10.kid hp fun g11 r11 w11 _ _ => QA.fin w11
  ·rw [if_neg i3] at hp
   refine pcf (by simpa using i3) ?_
   rw [s104_0_j, s104_0_eq]
   exact nodA w7 (by omega) (l6.qk k7).kid hp fun g11 r11 w11 _ _ => QA.fin w11
 rw [if_neg i2] at hp
 refine pcf (by simpa using i2) (calB w2 (q134 (by omega) w2.ph) fun g3 r3 w3 _ _ => ?_)
 by_cases i3 : isP c st ⟨#[119, 104, 105, 108, 101]⟩ = true
 ·rw [if_pos i3] at hp
  obtain ⟨s4, e1004, hp⟩ := bnd hp
  obtain ⟨⟨a5, s5⟩, e1005, hp⟩ := bnd hp
  obtain ⟨⟨a6, s6⟩, e1006, hp⟩ := bnd hp
  refine pct i3 (incS w3 e1004 fun g4 w4 _ => ?_)
  refine calS w4 (hs _ _ _ _ _ w4.ph e1005) fun g5 r5 w5 _ _ => ?_
  refine calS w5 (hb _ _ _ _ _ w5.ph e1006) fun g6 r6 w6 _ _ => ?_
  refine rowS [a5, a6] w6 rfl rfl fun g7 v7 rt w7 l7 _ _ => ?_
  exact nodA w7 (by omega) l7.kid hp fun g8 r8 w8 _ _ => QA.fin w8
 rw [if_neg i3] at hp
 refine pcf (by simpa using i3) (calB w3 (q134 (by omega) w3.ph) fun g4 r4 w4 _ _ => ?_)
 by_cases i4 : isP c st ⟨#[114, 101, 116, 117, 114, 110]⟩ = true
 ·rw [if_pos i4] at hp
  obtain ⟨s5, e1005, hp⟩ := bnd hp
  obtain ⟨⟨a6, s6⟩, e1006, hp⟩ := bnd hp
  obtain ⟨s7, e1007, hp⟩ := bnd hp
  refine pct i4 (incS w4 e1005 fun g5 w5 _ => ?_)
  refine calS w5 (hs _ _ _ _ _ w5.ph e1006) fun g6 r6 w6 _ _ => ?_
  refine calU w6 (q136 hD w6.ph e1007) fun g7 r7 w7 _ _ => ?_
  refine rowS [a6] w7 rfl rfl fun g8 v8 rt w8 l8 _ _ => ?_
  exact nodA w8 (by omega) l8.kid hp fun g9 r9 w9 _ _ => QA.fin w9
 rw [if_neg i4] at hp
 exact pcf (by simpa using i4) (calS w4 (ha _ _ _ _ _ w4.ph hp) fun g5 r5 w5 _ _ => QA.fin w5)
end
section
variable {c : PC} {D : Nat}
theorem OwnR.q73 {h g : AHeap} {q : Nat} {cs : List Value} {rn : Option Nat} (x : OwnR h q q 48 cs) (k : QK rn h g) (hn : rn ≠ some q) : OwnR g q q 48 cs :=
 let ⟨ep, a⟩ := x; ⟨ep, k.2.1 q _ a (by show (48 : TypeId) ≠ 128; decide) (fun _ => hn)⟩
theorem PRN.ne {rn rn' : Option Nat} {h : AHeap} {q : Nat} (x : PRN rn rn' h) (hq : q < h.size) (hn : rn ≠ some q) : rn' ≠ some q := by
 rcases x with rfl | ⟨r, rfl, hr⟩
 ·exact hn
 ·intro e; have : r = q := by simpa using e
  omega
theorem NodesH.rn_lt {h : AHeap} {nv : Value} {ns : List Kn} {rn : Option Nat} (x : NodesH h nv ns rn) : rn ≠ some h.size := by
 rcases x with ⟨_, _, rfl⟩ | ⟨i, root, cells, _, rfl, o, _⟩
 ·simp
 ·have := o.lt
  intro e; have : root = h.size := by simpa using e
  omega
theorem ownKr (h : AHeap) (n : Kn) {kv : Value} (k : KidH h kv n.ks) :
  ∃ g, aSt (h.new 48 [.int .i64 0, .string ⟨#[]⟩, .int .i64 0, .slice none 0 0]) (ptr h.size 0) (knVal n kv) 4 = some g ∧ Ext h.size h g ∧ OwnR g h.size h.size 48 (knCells n kv) := by
 obtain ⟨ep, a⟩ := OwnR.new h 48 [.int .i64 0, .string ⟨#[]⟩, .int .i64 0, .slice none 0 0]
 have hi := at?_obj a
 refine ⟨(h.new 48 [.int .i64 0, .string ⟨#[]⟩, .int .i64 0, .slice none 0 0]).put h.size ⟨h.size, ep, false, 48, [.int .i64 0, .string ⟨#[]⟩, .int .i64 0, .slice none 0 0]⟩ (knCells n kv), ?_, (Ext.new (Nat.le_refl h.size) 48 _).trans (Ext.put (i := h.size) (o := ⟨h.size, ep, false, 48, [.int .i64 0, .string ⟨#[]⟩, .int .i64 0, .slice none 0 0]⟩) (Nat.le_refl h.size) (Nat.le_refl h.size) _), ⟨_, at?_put_same a _⟩⟩
 have kc := kn_cells (kv := kv) k.cell n
 simp [aSt, ptr, a, kc, knCells, splice]
def Cp (g : AHeap) (rn : Option Nat) (q : Nat) (n : Kn) (kv : Value) : Prop := OwnR g q q 48 (knCells n kv) ∧ KidH g kv n.ks ∧ rn ≠ some q
theorem Cp.next {h g : AHeap} {rn rn' : Option Nat} {q : Nat} {n : Kn} {kv : Value} (x : Cp h rn q n kv) (k : QK rn h g) (r : PRN rn rn' h) : Cp g rn' q n kv :=
 ⟨x.1.q73 k x.2.2, x.2.1.qk k, r.ne x.1.lt.2 x.2.2⟩
theorem KidH.ab {h : AHeap} {kv : Value} {a b : Int} (x : KidH h kv [a, b]) : ∃ p1 p2, aIdx kv (.int .i64 0) 1 = some p1 ∧ aLd1 h p1 = some (.int .i64 a) ∧ aIdx kv (.int .i64 1) 1 = some p2 ∧ aLd1 h p2 = some (.int .i64 b) := by
 obtain ⟨p, p1, p2⟩ := x.at (j := 0) (by show 0 < 2; omega)
 obtain ⟨q, q1, q2⟩ := x.at (j := 1) (by show 1 < 2; omega)
 exact ⟨p, q, p1, p2, q1, q2⟩
theorem cutS {P : Option (Value × AHeap) → Prop} {K : AHeap → Option (Value × AHeap)} {rn0 rn : Option Nat} {h0 h : AHeap} {st st' : PSt} {e : Int} (w : QS c rn0 h0 st rn h) (he : cutP e st = some st') (hk : ∀ g, QS c rn0 h0 st' rn g → QK rn h g → P (K g)) :
  P ((aNil (ptr c.p 0)).bind fun v44 => (aOff v44 2).bind fun v45 => (aLd1 h v45).bind fun v46 => (aSub h 48 v46 none (some (.int .i64 e)) 4).bind fun v47 => (aNil (ptr c.p 0)).bind fun v48 => (aOff v48 2).bind fun v49 => (aSt h v49 v47 1).bind fun h50 => K h50) := by
 unfold cutP at he
 by_cases hc : 0 ≤ e ∧ e ≤ st.nodes.length
 ·rw [if_pos hc] at he; cases he
  obtain ⟨nv, a, b, d⟩ := w.ph
  obtain ⟨nv', u, d'⟩ := d.cut hc
  obtain ⟨g, t, o', s, k, tp⟩ := stQ a (i := 2) (by show 2 < 7; omega) (v := nv') (aCells_one d'.cell)
  have pk : QK rn h g := ⟨by omega, fun j o hj h81 _ => k j o hj h81, fun r _ => tp r⟩
  have f2 : aLd1 h (ptr c.p 2) = some nv := a.row.ld1 rfl
  exact pb rfl (pb rfl (pb f2 (pb u (pb rfl (pb rfl (pb t (hk g (w.next ⟨⟨nv', o', b.qk pk, d'.keepq k⟩, pk, PRN.refl rn h⟩) pk)))))))
 ·rw [if_neg hc] at he; cases he
theorem ld73 {h : AHeap} {q : Nat} {n : Kn} {kv : Value} (x : OwnR h q q 48 (knCells n kv)) : aLd1 h (ptr q 0) = some (.int .i64 n.k) ∧ aLd1 h (ptr q 1) = some (.string n.t) ∧ aLd1 h (ptr q 3) = some kv := ⟨x.row.ld1 rfl, x.row.ld1 rfl, x.row.ld1 rfl⟩
theorem asg2 {ex : PI} (hD : 2 ≤ D) (hs : Simq c D 204 ex) {h0 h : AHeap} {rn0 rn : Option Nat} {st st' : PSt} {e a : Int} {q : Nat} {n : Kn} {kv : Value} {b : Bool} (w : QS c rn0 h0 st rn h) (cp : Cp h rn q n kv)
  (hp : (if b = true then (match n.ks with
    | [x, y] => (adv 1 st).bind fun s => (cutP e s).bind fun s => (ex s).bind fun v => (wantP c ⟨#[59]⟩ v.2).bind fun s => nodeS 16 E0 0 [x, y, v.1] s
    | _ => none) else some (-1, failP c st 2)) = some (a, st')) :
  QA c h0 rn0 (.int .i64 a) st' (s206_2 hk0 (call Tp Ms D) D (ptr c.p 0) e (ptr q 0) b h) := by
 rw [s206_2_j, s206_2_eq]
 cases b with
 | false =>
  rw [if_neg (by simp)] at hp; cases hp
  exact pcf rfl (calS w (q174 (by omega) w.ph) fun g r w1 _ _ => QA.fin w1)
 | true =>
  rw [if_pos rfl] at hp
  obtain ⟨ck, ct, ci, cks⟩ := n
  dsimp only at hp
  match cks, hp with
  | [x, y], hp =>
   obtain ⟨s1, e1, hp⟩ := bnd hp
   obtain ⟨s2, e2, hp⟩ := bnd hp
   obtain ⟨⟨a3, s3⟩, e1003, hp⟩ := bnd hp
   obtain ⟨s4, e1004, hp⟩ := bnd hp
   refine pct rfl (incS w e1 fun g1 w1 k1 => ?_)
   have cp1 := cp.next k1 (PRN.refl _ _)
   refine cutS w1 e2 fun g2 w2 k2 => ?_
   have cp2 := cp1.next k2 (PRN.refl _ _)
   refine calS w2 (hs _ _ _ _ _ w2.ph e1003) fun g3 r3 w3 k3 n3 => ?_
   have cp3 := cp2.next k3 n3
   refine calU w3 (q136 hD w3.ph e1004) fun g4 r4 w4 k4 n4 => ?_
   have cp4 := cp3.next k4 n4
   obtain ⟨p1, p2, b1, b2, b3, b4⟩ := cp4.2.1.ab
   obtain ⟨_, _, l3⟩ := ld73 cp4.1
   refine pb rfl (pb l3 (pb b1 (pb b2 (pb rfl (pb rfl (pb l3 (pb b3 (pb b4 (pb rfl ?_)))))))))
   refine rowS [x, y, a3] w4 rfl rfl fun g5 v5 rt w5 l5 _ _ => ?_
   exact nodA w5 (by omega) l5.kid hp fun g6 r6 w6 _ _ => QA.fin w6
theorem asg1 {ex : PI} (hD : 2 ≤ D) (hs : Simq c D 204 ex) {h0 h : AHeap} {rn0 rn : Option Nat} {st st' : PSt} {e a : Int} {q : Nat} {n : Kn} {kv : Value} {b : Bool} (w : QS c rn0 h0 st rn h) (cp : Cp h rn q n kv)
  (hp : (if b = true then (adv 1 st).bind fun s => (cutP e s).bind fun s => (ex s).bind fun v => (wantP c ⟨#[59]⟩ v.2).bind fun s => nodeS 15 n.t 0 [v.1] s
   else if isP c st ⟨#[61]⟩ = true ∧ n.k = 8 then (match n.ks with
    | [x, y] => (adv 1 st).bind fun s => (cutP e s).bind fun s => (ex s).bind fun v => (wantP c ⟨#[59]⟩ v.2).bind fun s => nodeS 16 E0 0 [x, y, v.1] s
    | _ => none) else some (-1, failP c st 2)) = some (a, st')) :
  QA c h0 rn0 (.int .i64 a) st' (s206_1 hk0 (call Tp Ms D) D (ptr c.p 0) e (ptr q 0) b h) := by
 rw [s206_1_j, s206_1_eq]
 cases b with
 | true =>
  rw [if_pos rfl] at hp
  obtain ⟨s1, e1, hp⟩ := bnd hp
  obtain ⟨s2, e2, hp⟩ := bnd hp
  obtain ⟨⟨a3, s3⟩, e1003, hp⟩ := bnd hp
  obtain ⟨s4, e1004, hp⟩ := bnd hp
  refine pct rfl (incS w e1 fun g1 w1 k1 => ?_)
  have cp1 := cp.next k1 (PRN.refl _ _)
  refine cutS w1 e2 fun g2 w2 k2 => ?_
  have cp2 := cp1.next k2 (PRN.refl _ _)
  refine calS w2 (hs _ _ _ _ _ w2.ph e1003) fun g3 r3 w3 k3 n3 => ?_
  have cp3 := cp2.next k3 n3
  refine calU w3 (q136 hD w3.ph e1004) fun g4 r4 w4 k4 n4 => ?_
  have cp4 := cp3.next k4 n4
  obtain ⟨_, l1, _⟩ := ld73 cp4.1
  refine pb rfl (pb l1 (pb rfl ?_))
  refine rowS [a3] w4 rfl rfl fun g5 v5 rt w5 l5 _ _ => ?_
  exact nodC w5 (by omega) l5.kid hp fun g6 r6 w6 _ _ => QA.fin w6
 | false =>
  rw [if_neg (by simp)] at hp
  refine pcf rfl (calB w (q134 (by omega) w.ph) fun g1 r1 w1 k1 n1 => ?_)
  have cp1 := cp.next k1 n1
  by_cases i1 : isP c st ⟨#[61]⟩ = true
  ·obtain ⟨l0, _, _⟩ := ld73 cp1.1
   refine pct i1 (pb rfl (pb l0 (pb rfl ?_)))
   refine asg2 hD hs w1 cp1 ?_
   rw [← hp]
   by_cases h8 : n.k = 8
   ·rw [if_pos (c := (n.k == 8) = true) (by simp [h8]), if_pos ⟨i1, h8⟩]
   ·rw [if_neg (c := (n.k == 8) = true) (by simp [h8]), if_neg (fun z => h8 z.2)]
  ·rw [if_neg (fun z => i1 z.1)] at hp
   refine pcf (by simpa using i1) (asg2 hD hs w1 cp1 (b := false) ?_)
   rw [if_neg (by simp)]; exact hp
theorem asg0 {ex : PI} (hD : 2 ≤ D) (hs : Simq c D 204 ex) {h0 h : AHeap} {rn0 rn : Option Nat} {st st' : PSt} {e a : Int} {q : Nat} {n : Kn} {kv : Value} {b : Bool} (w : QS c rn0 h0 st rn h) (cp : Cp h rn q n kv)
  (hp : (if b = true then (adv 1 st).bind fun s => nodeS 20 E0 0 [e] s
   else if isP c st ⟨#[61]⟩ = true ∧ n.k = 5 then (adv 1 st).bind fun s => (cutP e s).bind fun s => (ex s).bind fun v => (wantP c ⟨#[59]⟩ v.2).bind fun s => nodeS 15 n.t 0 [v.1] s
   else if isP c st ⟨#[61]⟩ = true ∧ n.k = 8 then (match n.ks with
    | [x, y] => (adv 1 st).bind fun s => (cutP e s).bind fun s => (ex s).bind fun v => (wantP c ⟨#[59]⟩ v.2).bind fun s => nodeS 16 E0 0 [x, y, v.1] s
    | _ => none) else some (-1, failP c st 2)) = some (a, st')) :
  QA c h0 rn0 (.int .i64 a) st' (s206_0 hk0 (call Tp Ms D) D (ptr c.p 0) e (ptr q 0) b h) := by
 rw [s206_0_j, s206_0_eq]
 cases b with
 | true =>
  rw [if_pos rfl] at hp
  obtain ⟨s1, e1, hp⟩ := bnd hp
  refine pct rfl (incS w e1 fun g1 w1 k1 => ?_)
  refine rowS [e] w1 rfl rfl fun g5 v5 rt w5 l5 _ _ => ?_
  exact nodA w5 (by omega) l5.kid hp fun g6 r6 w6 _ _ => QA.fin w6
 | false =>
  rw [if_neg (by simp)] at hp
  refine pcf rfl (calB w (q134 (by omega) w.ph) fun g1 r1 w1 k1 n1 => ?_)
  have cp1 := cp.next k1 n1
  by_cases i1 : isP c st ⟨#[61]⟩ = true
  ·obtain ⟨l0, _, _⟩ := ld73 cp1.1
   refine pct i1 (pb rfl (pb l0 (pb rfl ?_)))
   refine asg1 hD hs w1 cp1 ?_
   rw [← hp]
   by_cases h5 : n.k = 5
   ·rw [if_pos (c := (n.k == 5) = true) (by simp [h5]), if_pos ⟨i1, h5⟩]
   ·rw [if_neg (c := (n.k == 5) = true) (by simp [h5]), if_neg (c := isP c st ⟨#[61]⟩ = true ∧ n.k = 5) (fun z => h5 z.2)]
  ·rw [if_neg (fun z => i1 z.1)] at hp
   refine pcf (by simpa using i1) (asg1 hD hs w1 cp1 (b := false) ?_)
   rw [if_neg (by simp)]; exact hp
theorem s139 {ex : PI} (hD : 2 ≤ D) (hs : Simq c D 204 ex) : Simq c (D + 1) 206 (assignS c ex) := by
 intro h st rn a st' x hp
 have w := QS.new x
 rw [c206, e206]
 unfold assignS at hp
 obtain ⟨⟨e, s1⟩, e1, hp⟩ := bnd hp
 refine calS w (hs _ _ _ _ _ x e1) fun g1 r1 w1 k1 n1 => ?_
 dsimp only at hp
 refine codS w1 ?_
 by_cases hc : s1.code = 0
 ·rw [if_pos hc] at hp
  refine pcf (by simp [hc]) ?_
  match hn : s1.nodes[e.toNat]?, hp with
  | some n, hp =>
   dsimp only at hp
   by_cases he : e < 0
   ·rw [if_pos he] at hp; cases hp
   rw [if_neg he] at hp
   obtain ⟨nv, nd, f0, f1, f2, _⟩ := w1.ph.ld
   obtain ⟨p, kv, b1, b2, kd⟩ := nd.at (e := e) (by omega) hn
   obtain ⟨g2, t2, e2, o2⟩ := ownKr g1 n kd
   have w2 := w1.ext e2
   have cp2 : Cp g2 r1 g1.size n kv := ⟨o2, kd.ext e2, nd.rn_lt⟩
   refine pb rfl (pb rfl (pb f2 (pb b1 (pb b2 (nN (pb t2 ?_))))))
   refine calB w2 (q134 (by omega) w2.ph) fun g3 r3 w3 k3 n3 => ?_
   have cp3 := cp2.next k3 n3
   by_cases i1 : isP c s1 ⟨#[59]⟩ = true
   ·obtain ⟨l0, _, _⟩ := ld73 cp3.1
    refine pct i1 (pb rfl (pb l0 (pb rfl ?_)))
    refine asg0 hD hs w3 cp3 ?_
    rw [← hp]
    by_cases h9 : n.k = 9
    ·rw [if_pos (c := (n.k == 9) = true) (by simp [h9]), if_pos ⟨i1, h9⟩]
    ·rw [if_neg (c := (n.k == 9) = true) (by simp [h9]), if_neg (c := isP c s1 ⟨#[59]⟩ = true ∧ n.k = 9) (fun z => h9 z.2)]
     all_goals rfl
   ·rw [if_neg (fun z => i1 z.1)] at hp
    refine pcf (by simpa using i1) (asg0 hD hs w3 cp3 (b := false) ?_)
    rw [if_neg (by simp)]; exact hp
 ·rw [if_neg hc] at hp; cases hp
  exact pct (by simpa using hc) (QA.fin w1)
end
section
variable {c : PC} {D : Nat} {st : PSt} (h : ¬ D < 30)
include h
theorem sp_137 : sp c (D + 1) 137 st = exprS c (sp c D 1761) st := by rw [sp, if_neg h]; rfl
theorem sp_1767 : sp c (D + 1) 1767 st = sp c D 197 st := by rw [sp, if_neg h]; rfl
theorem sp_197 : sp c (D + 1) 197 st = turnS c (sp c D 197) (sp c D 204) st := by rw [sp, if_neg h]; rfl
theorem sp_204 : sp c (D + 1) 204 st = suffixS c (sp c D 222) (sp c D 137) D st := by rw [sp, if_neg h]; rfl
theorem sp_222 : sp c (D + 1) 222 st = primaryS c (sp c D 137) (sp c D 233) (sp c D 234) st := by rw [sp, if_neg h]; rfl
theorem sp_233 : sp c (D + 1) 233 st = fnS c (sp c D 138) D st := by rw [sp, if_neg h]; rfl
theorem sp_234 : sp c (D + 1) 234 st = tableS c (sp c D 239) D st := by rw [sp, if_neg h]; rfl
theorem sp_239 : sp c (D + 1) 239 st = fieldS c (sp c D 137) st := by rw [sp, if_neg h]; rfl
theorem sp_138 : sp c (D + 1) 138 st = blockS c (sp c D 82) D st := by rw [sp, if_neg h]; rfl
theorem sp_139 : sp c (D + 1) 139 st = assignS c (sp c D 137) st := by rw [sp, if_neg h]; rfl
theorem sp_82 : sp c (D + 1) 82 st = stmtS c (sp c D 137) (sp c D 138) (sp c D 139) st := by rw [sp, if_neg h]; rfl
theorem sp_1761 : sp c (D + 1) 1761 st = levelS c 1 (sp c D 1762) D st := by rw [sp, if_neg h]; rfl
theorem sp_1762 : sp c (D + 1) 1762 st = levelS c 2 (sp c D 1763) D st := by rw [sp, if_neg h]; rfl
theorem sp_1763 : sp c (D + 1) 1763 st = levelS c 3 (sp c D 1764) D st := by rw [sp, if_neg h]; rfl
theorem sp_1764 : sp c (D + 1) 1764 st = levelS c 4 (sp c D 1765) D st := by rw [sp, if_neg h]; rfl
theorem sp_1765 : sp c (D + 1) 1765 st = levelS c 5 (sp c D 1766) D st := by rw [sp, if_neg h]; rfl
theorem sp_1766 : sp c (D + 1) 1766 st = levelS c 6 (sp c D 1767) D st := by rw [sp, if_neg h]; rfl
end
structure AllSq (c : PC) (D : Nat) : Prop where
 s137 : Simq c D 204 (sp c D 137)
 s197 : Simq c D 358 (sp c D 197)
 s204 : Simq c D 383 (sp c D 204)
 s222 : Simq c D 407 (sp c D 222)
 s233 : Simq c D 417 (sp c D 233)
 s234 : Simq c D 418 (sp c D 234)
 s239 : Simq c D 422 (sp c D 239)
 s138 : Simq c D 205 (sp c D 138)
 s139 : Simq c D 206 (sp c D 139)
 s82 : Simq c D 104 (sp c D 82)
 v1 : Simv c D 1 (sp c D 1761)
 v2 : Simv c D 2 (sp c D 1762)
 v3 : Simv c D 3 (sp c D 1763)
 v4 : Simv c D 4 (sp c D 1764)
 v5 : Simv c D 5 (sp c D 1765)
 v6 : Simv c D 6 (sp c D 1766)
 v7 : Simv c D 7 (sp c D 1767)
theorem Simq.of {c : PC} {D k : Nat} {m m' : PI} (x : Simq c D k m) (e : ∀ st, m' st = m st) : Simq c D k m' := fun h st rn a st' p hp => x h st rn a st' p (by rw [← e]; exact hp)
theorem Simq.none {c : PC} {D k : Nat} {m : PI} (e : ∀ st, m st = none) : Simq c D k m := fun h st rn a st' p hp => by rw [e] at hp; cases hp
theorem Simv.of {c : PC} {D : Nat} {L : Int} {m m' : PI} (x : Simv c D L m) (e : ∀ st, m' st = m st) : Simv c D L m' := fun h st rn a st' p hp => x h st rn a st' p (by rw [← e]; exact hp)
theorem Simv.none {c : PC} {D : Nat} {L : Int} {m : PI} (e : ∀ st, m st = none) : Simv c D L m := fun h st rn a st' p hp => by rw [e] at hp; cases hp
theorem allSq (c : PC) : ∀ D, AllSq c D := by
 intro D
 induction D with
 | zero => exact ⟨Simq.none (fun _ => rfl), Simq.none (fun _ => rfl), Simq.none (fun _ => rfl), Simq.none (fun _ => rfl), Simq.none (fun _ => rfl), Simq.none (fun _ => rfl), Simq.none (fun _ => rfl), Simq.none (fun _ => rfl), Simq.none (fun _ => rfl), Simq.none (fun _ => rfl),
   Simv.none (fun _ => rfl), Simv.none (fun _ => rfl), Simv.none (fun _ => rfl), Simv.none (fun _ => rfl), Simv.none (fun _ => rfl), Simv.none (fun _ => rfl), Simv.none (fun _ => rfl)⟩
 | succ D H =>
  by_cases h : D < 30
  ·have e : ∀ k st, sp c (D + 1) k st = none := fun k st => by rw [sp, if_pos h]
   exact ⟨Simq.none (e 137), Simq.none (e 197), Simq.none (e 204), Simq.none (e 222), Simq.none (e 233), Simq.none (e 234), Simq.none (e 239), Simq.none (e 138), Simq.none (e 139), Simq.none (e 82),
    Simv.none (e 1761), Simv.none (e 1762), Simv.none (e 1763), Simv.none (e 1764), Simv.none (e 1765), Simv.none (e 1766), Simv.none (e 1767)⟩
  ·constructor
   ·exact Simq.of (YtajpnemfppaafaaGreat.s137 (by omega) H.v1) (fun _ => sp_137 h)
   ·exact Simq.of (YtajpnemfppaafaaGreat.s197 (by omega) H.s197 H.s204) (fun _ => sp_197 h)
   ·exact Simq.of (YtajpnemfppaafaaGreat.s204 (by omega) H.s222 H.s137) (fun _ => sp_204 h)
   ·exact Simq.of (YtajpnemfppaafaaGreat.s222 (by omega) H.s137 H.s233 H.s234) (fun _ => sp_222 h)
   ·exact Simq.of (YtajpnemfppaafaaGreat.s233 (by omega) H.s138) (fun _ => sp_233 h)
   ·exact Simq.of (YtajpnemfppaafaaGreat.s234 (by omega) H.s239) (fun _ => sp_234 h)
   ·exact Simq.of (YtajpnemfppaafaaGreat.s239 (by omega) H.s137) (fun _ => sp_239 h)
   ·exact Simq.of (YtajpnemfppaafaaGreat.s138 (by omega) H.s82) (fun _ => sp_138 h)
   ·exact Simq.of (YtajpnemfppaafaaGreat.s139 (by omega) H.s137) (fun _ => sp_139 h)
   ·exact Simq.of (YtajpnemfppaafaaGreat.s82 (by omega) H.s137 H.s138 H.s139) (fun _ => sp_82 h)
   ·exact Simv.of (s176 (L := 1) (by omega) (by decide) (by decide) H.v2) (fun _ => sp_1761 h)
   ·exact Simv.of (s176 (L := 2) (by omega) (by decide) (by decide) H.v3) (fun _ => sp_1762 h)
   ·exact Simv.of (s176 (L := 3) (by omega) (by decide) (by decide) H.v4) (fun _ => sp_1763 h)
   ·exact Simv.of (s176 (L := 4) (by omega) (by decide) (by decide) H.v5) (fun _ => sp_1764 h)
   ·exact Simv.of (s176 (L := 5) (by omega) (by decide) (by decide) H.v6) (fun _ => sp_1765 h)
   ·exact Simv.of (s176 (L := 6) (by omega) (by decide) (by decide) H.v7) (fun _ => sp_1766 h)
   ·exact Simv.of (s1767 H.s197) (fun _ => sp_1767 h)
def finS (l : List Int) (st : PSt) : Option PRes := (nodeS 21 E0 0 l st).bind fun x => if x.2.code ≠ 0 then some ([], 0, x.2.code, x.2.place) else some (x.2.nodes, x.1, 0, 0)
def sparseC (c : PC) (D : Nat) : Option PRes := (topS c (sp c D 82) D [] st0).bind fun l => finS l.1 l.2
def sparseR (D : Nat) (s : ByteArray) : Option PRes := if (lexR s).2.1 ≠ 0 then some ([], 0, 1, ((lexR s).2.2 : Int)) else sparseC ⟨0, .slice none 0 0, (lexR s).1, s.size⟩ D
theorem sparse_indep (p p' : Nat) (tv tv' : Value) (toks : List Tok) (en : Int) (D : Nat) : sparseC ⟨p, tv, toks, en⟩ D = sparseC ⟨p', tv', toks, en⟩ D := by kernel_rfl
def IsSp (h0 : AHeap) (r : PRes) (o : Option (Value × AHeap)) : Prop := ∃ h' nv rn', o = some (tval nv r, h') ∧ NodesH h' nv r.1 rn' ∧ QK none h0 h' ∧ PRN none rn' h0
theorem QK.st35 {h0 h h' : AHeap} {rn : Option Nat} {i1 : Nat} (k : QK rn h0 h) (hi : h0.size ≤ i1) (hs : h'.size = h.size) (hk : ∀ j o, h.at? j = some o → o.elem ≠ 41 ∨ o.root ≠ i1 → h'.at? j = some o) (ht : ∀ r, h'.tip 3 r = h.tip 3 r) : QK rn h0 h' :=
 ⟨by rw [hs]; exact k.1, fun j o a b c => hk j o (k.2.1 j o a b c) (.inr (by have := at?_obj a; omega)), fun r hr => (ht r).trans (k.2.2 r hr)⟩
section
variable {c : PC} {D N : Nat}
theorem sparse_loop {stm : PI} (hD : 2 ≤ D) (hs : Simq c D 104 stm) {h0 : AHeap} {i1 rt : Nat} (hi : h0.size ≤ i1) (hrt : h0.size ≤ rt) {r : PRes} : ∀ (n m : Nat) (out : List Int) (v : Value) (h : AHeap) (st : PSt) (rn : Option Nat), n ≤ m → QS c none h0 st rn h → PLI h v out rt →
  OwnR h i1 i1 41 [.slice none 0 0, .int .i64 0] → ((topS c stm n out st).bind fun l => finS l.1 l.2) = some r → IsSp h0 r (s22_0 hk0 (call Tp Ms D) N m (ptr i1 0) c.tv (ptr c.p 0) v h) := by
 intro n
 induction n with
 | zero => intro m out v h st rn hm w li o hp; cases hp
 | succ n ih =>
  intro m out v h st rn hm w li o hp
  obtain ⟨m, rfl⟩ : ∃ q, m = q + 1 := ⟨m - 1, by omega⟩
  rw [s22_0_eq]
  rw [topS] at hp
  refine codS w ?_
  by_cases hc : st.code = 0
  ·obtain ⟨nv0, _, g0, g1', _⟩ := w.ph.ld
   have tk : TokH h c.tv c.toks := let ⟨_, _, a, _⟩ := w.ph; a
   refine pct (by simp [hc]) (pb rfl (pb rfl (pb g1' (pb rfl (pb tk.len (pb rfl ?_))))))
   by_cases hl : st.at' < c.toks.length
   ·rw [if_pos ⟨hc, hl⟩] at hp
    obtain ⟨l, e0, hp⟩ := bnd hp
    obtain ⟨⟨a4, s4⟩, e1004, e0⟩ := bnd e0
    by_cases hb2 : out.length > 1000000
    ·rw [if_pos hb2] at e0; cases e0
    rw [if_neg hb2] at e0
    have hp' : ((topS c stm n (out ++ [a4]) s4).bind fun l => finS l.1 l.2) = some r := by
     dsimp only at e0; rw [e0]; exact hp
    refine pct (decide_eq_true (by omega)) ?_
    rw [s22_1_j, s22_1_eq]
    refine calS w (hs _ _ _ _ _ w.ph e1004) fun g4 r4 w4 k4 _ => ?_
    have o4 := o.qk k4 (by decide) (by decide)
    refine pushS w4 (li.qk k4) hrt (by omega) fun g5 v5 w5 l5 k5 => ?_
    exact ih m (out ++ [a4]) v5 g5 s4 r4 (by omega) w5 l5 (let ⟨ep, z⟩ := o4; ⟨ep, k5.2.1 _ _ z⟩) hp'
   ·rw [if_neg (fun z => hl z.2), oBs] at hp
    dsimp only [finS] at hp
    obtain ⟨⟨a, s1⟩, e1, hp⟩ := bnd hp
    dsimp only at hp
    refine pcf (decide_eq_false (by omega)) ?_
    refine nodA w (by omega) li.kid e1 fun g1 r1 w1 k1 n1 => ?_
    have o1 := o.qk k1 (by decide) (by decide)
    refine codS w1 ?_
    by_cases hc1 : s1.code = 0
    ·rw [if_neg (by simp [hc1])] at hp; cases hp
     obtain ⟨nv, nd, _, _, f2, _⟩ := w1.ph.ld
     obtain ⟨g2, a1, a2, a3, a4, a5⟩ := stE o1 (n := 2) (two35 nd.cell a) rfl rfl (by decide)
     refine pcf (by simp [hc1]) (pb rfl (pb rfl (pb f2 (pb (fill35 nd.cell a) (pb a1 (pb (v := .agg (List.toArray [nv, .int .i64 a])) (by rw [a2.row.ldN (by show 0 + 2 ≤ 2; omega)]; rfl) (pct rfl ?_)))))))
     exact ⟨g2, nv, r1, rfl, nd.keep' (e := 41) (by decide) (by decide) (fun j o a b => a4 j o a (.inl b)), w1.fr.st35 hi a3 a4 a5, w1.rr⟩
    ·rw [if_pos hc1] at hp; cases hp
     obtain ⟨nv, _, _, _, _, f3, f4, _⟩ := w1.ph.ld
     obtain ⟨g2, a1, a2, a3, a4, a5⟩ := stE o1 (n := 2) (two35 (nv := .slice none 0 0) rfl 0) rfl rfl (by decide)
     obtain ⟨nv2, ⟨ep, q⟩, _⟩ := w1.ph
     have o2 : OwnR g2 c.p c.p 128 (qcells c nv2 s1) := ⟨ep, a4 _ _ q (.inl (by show (128 : TypeId) ≠ 41; decide))⟩
     have m3 : aLd1 g2 (ptr c.p 3) = some (.int .i64 s1.code) := o2.row.ld1 rfl
     have m4 : aLd1 g2 (ptr c.p 4) = some (.int .i64 s1.place) := o2.row.ld1 rfl
     have v3 : ((aLd1 g2 (ptr c.p 3)).bind fun v43 => (asI .i64 v43).bind fun n44 => some (vbeq (.int .i64 n44) (.int .i64 s1.code))) = some true := by
      rw [m3]; show some (vbeq (.int .i64 s1.code) (.int .i64 s1.code)) = _; simp [vbeq, vbeq1]
     have v4 : ((aLd1 g2 (ptr c.p 4)).bind fun v43 => (asI .i64 v43).bind fun n44 => some (vbeq (.int .i64 n44) (.int .i64 s1.place))) = some true := by
      rw [m4]; show some (vbeq (.int .i64 s1.place) (.int .i64 s1.place)) = _; simp [vbeq, vbeq1]
     refine pct (by simpa using hc1) (pb rfl (pb rfl (pb f3 (pb rfl (pb rfl (pb rfl (pb f4 (pb rfl (pb a1 (pb v3 (pct rfl (pb v4 (pct rfl (pb v4 (pct rfl ?_)))))))))))))))
     refine pb (v := .agg (List.toArray [.slice none 0 0, .int .i64 0])) (by rw [a2.row.ldN (by show 0 + 2 ≤ 2; omega)]; rfl) (pct rfl ?_)
     exact ⟨g2, .slice none 0 0, none, rfl, .inl ⟨rfl, rfl, rfl⟩, w1.fr.st35 hi a3 a4 a5, .inl rfl⟩
  ·rw [if_neg (fun z => hc z.1), oBs] at hp
   dsimp only [finS] at hp
   obtain ⟨⟨a, s1⟩, e1, hp⟩ := bnd hp
   dsimp only at hp
   refine pcf (by simpa using hc) ?_
   refine nodA w (by omega) li.kid e1 fun g1 r1 w1 k1 n1 => ?_
   have o1 := o.qk k1 (by decide) (by decide)
   refine codS w1 ?_
   by_cases hc1 : s1.code = 0
   ·rw [if_neg (by simp [hc1])] at hp; cases hp
    obtain ⟨nv, nd, _, _, f2, _⟩ := w1.ph.ld
    obtain ⟨g2, a1, a2, a3, a4, a5⟩ := stE o1 (n := 2) (two35 nd.cell a) rfl rfl (by decide)
    refine pcf (by simp [hc1]) (pb rfl (pb rfl (pb f2 (pb (fill35 nd.cell a) (pb a1 (pb (v := .agg (List.toArray [nv, .int .i64 a])) (by rw [a2.row.ldN (by show 0 + 2 ≤ 2; omega)]; rfl) (pct rfl ?_)))))))
    exact ⟨g2, nv, r1, rfl, nd.keep' (e := 41) (by decide) (by decide) (fun j o a b => a4 j o a (.inl b)), w1.fr.st35 hi a3 a4 a5, w1.rr⟩
   ·rw [if_pos hc1] at hp; cases hp
    obtain ⟨nv, _, _, _, _, f3, f4, _⟩ := w1.ph.ld
    obtain ⟨g2, a1, a2, a3, a4, a5⟩ := stE o1 (n := 2) (two35 (nv := .slice none 0 0) rfl 0) rfl rfl (by decide)
    obtain ⟨nv2, ⟨ep, q⟩, _⟩ := w1.ph
    have o2 : OwnR g2 c.p c.p 128 (qcells c nv2 s1) := ⟨ep, a4 _ _ q (.inl (by show (128 : TypeId) ≠ 41; decide))⟩
    have m3 : aLd1 g2 (ptr c.p 3) = some (.int .i64 s1.code) := o2.row.ld1 rfl
    have m4 : aLd1 g2 (ptr c.p 4) = some (.int .i64 s1.place) := o2.row.ld1 rfl
    have v3 : ((aLd1 g2 (ptr c.p 3)).bind fun v43 => (asI .i64 v43).bind fun n44 => some (vbeq (.int .i64 n44) (.int .i64 s1.code))) = some true := by
     rw [m3]; show some (vbeq (.int .i64 s1.code) (.int .i64 s1.code)) = _; simp [vbeq, vbeq1]
    have v4 : ((aLd1 g2 (ptr c.p 4)).bind fun v43 => (asI .i64 v43).bind fun n44 => some (vbeq (.int .i64 n44) (.int .i64 s1.place))) = some true := by
     rw [m4]; show some (vbeq (.int .i64 s1.place) (.int .i64 s1.place)) = _; simp [vbeq, vbeq1]
    refine pct (by simpa using hc1) (pb rfl (pb rfl (pb f3 (pb rfl (pb rfl (pb rfl (pb f4 (pb rfl (pb a1 (pb v3 (pct rfl (pb v4 (pct rfl (pb v4 (pct rfl ?_)))))))))))))))
    refine pb (v := .agg (List.toArray [.slice none 0 0, .int .i64 0])) (by rw [a2.row.ldN (by show 0 + 2 ≤ 2; omega)]; rfl) (pct rfl ?_)
    exact ⟨g2, .slice none 0 0, none, rfl, .inl ⟨rfl, rfl, rfl⟩, w1.fr.st35 hi a3 a4 a5, .inl rfl⟩
end
theorem fill114 {tv : Value} (h : isCell tv = true) (en : Int) : aFill [.slice none 0 0, .int .i64 0, .slice none 0 0, .int .i64 0, .int .i64 0, .int .i64 0, .int .i64 0] [(0, 1, tv), (6, 1, .int .i64 en)] = some [tv, .int .i64 0, .slice none 0 0, .int .i64 0, .int .i64 0, .int .i64 0, .int .i64 en] := by
 simp [aFill, aCells_int, aCells_one h, splice]
theorem cells114 {tv : Value} (h : isCell tv = true) (en : Int) : aCells (.agg (List.toArray [tv, .int .i64 0, .slice none 0 0, .int .i64 0, .int .i64 0, .int .i64 0, .int .i64 en])) = some [tv, .int .i64 0, .slice none 0 0, .int .i64 0, .int .i64 0, .int .i64 0, .int .i64 en] := by
 show (if (List.all [tv, .int .i64 0, .slice none 0 0, .int .i64 0, .int .i64 0, .int .i64 0, .int .i64 en] isCell) = true then _ else _) = _
 rw [if_pos (by show (isCell tv && (true && (true && (true && (true && (true && (true && true))))))) = true; rw [h]; rfl)]
theorem q47 {d : Nat} (hd : 3010 < d) {s : ByteArray} {h : AHeap} {r : PRes} (hp : sparseR (d + 4) s = some r) : IsSp h r (call Tp Ms (d + 5) 22 [.string s] h) := by
 have e1 := Ext.new (Nat.le_refl h.size) 41 [.slice none 0 0, .int .i64 0]
 have o1 := OwnR.new h 41 [.slice none 0 0, .int .i64 0]
 rw [show call Tp Ms (d + 5) 22 [.string s] h = evFn hk0 Tp (call Tp Ms (d + 4)) M22 (d + 4) Tryz.f22 [.string s] h from c22 (d + 4) _ _, e22]
 refine nN (P := IsSp h r) ?_
 obtain ⟨h2, v, c2, x2, os, _⟩ := l14 (d := d) (by omega) s (h.new 41 [.slice none 0 0, .int .i64 0])
 have o2 := o1.ext x2
 have k2 : QK none h h2 := QK.ext (e1.trans (x2.mono e1.size))
 refine pb (P := IsSp h r) c2 (pb rfl (pb rfl (pb rfl (pb rfl (pb rfl ?_)))))
 unfold sparseR at hp
 by_cases hc : (lexR s).2.1 = 0
 ·rw [if_neg (by simp [hc])] at hp
  have e1003 := Ext.new (Nat.le_refl h2.size) 128 [v, .int .i64 0, .slice none 0 0, .int .i64 0, .int .i64 0, .int .i64 0, .int .i64 (s.size : Int)]
  have o3 := OwnR.new h2 128 [v, .int .i64 0, .slice none 0 0, .int .i64 0, .int .i64 0, .int .i64 0, .int .i64 (s.size : Int)]
  have hq : QH ⟨h2.size, v, (lexR s).1, s.size⟩ (h2.new 128 [v, .int .i64 0, .slice none 0 0, .int .i64 0, .int .i64 0, .int .i64 0, .int .i64 (s.size : Int)]) st0 none :=
   ⟨.slice none 0 0, o3, os.tok.qk (QK.ext e1003 (rn := none)), .inl ⟨rfl, rfl, rfl⟩⟩
  have k3 : QK none h (h2.new 128 [v, .int .i64 0, .slice none 0 0, .int .i64 0, .int .i64 0, .int .i64 0, .int .i64 (s.size : Int)]) := k2.trans (.inl rfl) (QK.ext e1003)
  have w3 : QS ⟨h2.size, v, (lexR s).1, s.size⟩ none h st0 none _ := ⟨hq, k3, .inl rfl⟩
  refine pcf (P := IsSp h r) (by simp [hc]) (pb (fill114 os.tok.cell _) (pb (cells114 os.tok.cell _) (nN ?_)))
  refine rowS (P := IsSp h r) [] w3 rfl rfl fun g4 v4 rt w4 l4 k4 hr => ?_
  rw [sparse_indep 0 h2.size (.slice none 0 0) v] at hp
  have z := sparse_loop (N := d + 4) (by omega) (allSq ⟨h2.size, v, (lexR s).1, s.size⟩ (d + 4)).s82 (Nat.le_refl _) (Nat.le_trans k3.1 hr) (d + 4) (d + 4) [] v4 g4 st0 none (Nat.le_refl _) w4 l4 ((o2.ext e1003).qk k4 (by decide) (by decide)) hp
  exact z
 ·rw [if_pos hc] at hp; cases hp
  obtain ⟨g2, a1, a2, a3, a4, a5⟩ := stE o2 (n := 2) (two35 (nv := .slice none 0 0) rfl 0) rfl rfl (by decide)
  refine pct (P := IsSp h _) (by simp [hc]) (pb a1 (pb (v := .agg (List.toArray [.slice none 0 0, .int .i64 0])) (by rw [a2.row.ldN (by show 0 + 2 ≤ 2; omega)]; rfl) (pct rfl ?_)))
  exact ⟨g2, .slice none 0 0, none, rfl, .inl ⟨rfl, rfl, rfl⟩, k2.st35 (Nat.le_refl _) a3 a4 a5, .inl rfl⟩
section
variable {c : PC} {st : PSt}
theorem isP_d (h : st.code ≠ 0) (t : ByteArray) : isP c st t = false := isP_zero (pk_dead h)
theorem failP_d (h : st.code ≠ 0) (k : Int) : failP c st k = st := by unfold failP; rw [if_neg h]
theorem takesP_d (h : st.code ≠ 0) (t : ByteArray) : takesP c t st = some (false, st) := by unfold takesP; rw [isP_d h]; rfl
theorem wantP_d (h : st.code ≠ 0) (t : ByteArray) : wantP c t st = some st := by unfold wantP; rw [takesP_d h]; simp [failP_d h]
theorem nameN_d (h : st.code ≠ 0) : nameN c st = some (E0, st) := by unfold nameN; rw [pk_dead h, if_pos (by decide), failP_d h]
theorem nodeS_d (h : st.code ≠ 0) (k : Int) (t : ByteArray) (i : Int) (ks : List Int) : nodeS k t i ks st = some (-1, st) := by unfold nodeS; rw [if_pos h]
theorem openS_d (h : st.code ≠ 0) : openS c st = some (false, st) := by unfold openS; rw [if_pos h]
theorem opOf_d (h : st.code ≠ 0) : ∀ ts, opOfP c ts st = 0 := by
 intro ts
 induction ts with
 | nil => rfl
 | cons t ts ih => rw [opOfP, isP_d h, if_neg (by simp), ih]
def AtEnd (c : PC) (st : PSt) : Prop := st.code = 0 ∧ c.toks.length ≤ st.at'
theorem isP_e (h : AtEnd c st) (t : ByteArray) : isP c st t = false := isP_zero (by rw [pk_end h.1 h.2])
theorem takesP_e (h : AtEnd c st) (t : ByteArray) : takesP c t st = some (false, st) := by unfold takesP; rw [isP_e h]; rfl
def Gone (c : PC) (st : PSt) : Prop := st.code ≠ 0 ∨ AtEnd c st
theorem Gone.is (h : Gone c st) (t : ByteArray) : isP c st t = false := h.elim (fun h => isP_d h t) (fun h => isP_e h t)
theorem Gone.pk (h : Gone c st) : (pk c st).k = 0 := h.elim pk_dead (fun h => by rw [pk_end h.1 h.2])
theorem Gone.takes (h : Gone c st) (t : ByteArray) : takesP c t st = some (false, st) := h.elim (fun h => takesP_d h t) (fun h => takesP_e h t)
theorem failP_code (k : Int) (hk : k ≠ 0) : (failP c st k).code ≠ 0 := by
 unfold failP
 by_cases h : st.code = 0
 ·rw [if_pos h]; exact hk
 ·rw [if_neg h]; exact h
theorem failP_nest (k : Int) : (failP c st k).nest = st.nest := by unfold failP; split <;> rfl
theorem failP_at (k : Int) : (failP c st k).at' = st.at' := by unfold failP; split <;> rfl
theorem failP_nodes (k : Int) : (failP c st k).nodes = st.nodes := by unfold failP; split <;> rfl
end
def GoneF (c : PC) (m : PI) : Prop := ∀ st, Gone c st → -500 ≤ st.nest → st.nest ≤ 500 → m st = some (0, failP c st 2)
section
variable {c : PC}
theorem gone_bin {w : ByteArray} {k : Int} {sub : PI} {n : Nat} (h : GoneF c sub) : GoneF c (binP c w k sub (n + 1)) := fun st g a b => by
 unfold binP
 rw [h st g a b, oBs, binLoop, takesP_d (failP_code 2 (by decide))]
 rfl
theorem gone_row {ts : List ByteArray} {sub : PI} {n : Nat} (h : GoneF c sub) : GoneF c (rowP c ts sub (n + 1)) := fun st g a b => by
 unfold rowP
 rw [h st g a b, oBs, rowLoop, if_pos (opOf_d (failP_code 2 (by decide)) _)]
theorem gone_cmp {sub : PI} (h : GoneF c sub) : GoneF c (compareP c sub) := fun st g a b => by
 unfold compareP
 rw [h st g a b, oBs, if_pos (opOf_d (failP_code 2 (by decide)) _)]
theorem gone_unary {self beh : PI} (h : GoneF c beh) : GoneF c (unaryP c self beh) := fun st g a b => by
 unfold unaryP
 rw [g.is, g.is, g.is, if_neg (by simp), if_neg (by simp), if_neg (by simp), h st g a b]
theorem gone_behind {prim whole : PI} {args : PM} {n : Nat} (h : GoneF c prim) : GoneF c (behindP c prim whole args (n + 1)) := fun st g a b => by
 have d := failP_code (c := c) (st := st) 2 (by decide)
 unfold behindP
 rw [h st g a b, oBs, behindLoop, takesP_d d]
 simp only [oBs]
 rw [if_neg (by simp), takesP_d d]
 simp only [oBs]
 rw [if_neg (by simp), isP_d d, if_neg (by simp)]
theorem gone_primary {whole fn table : PI} : GoneF c (primaryP c whole fn table) := fun st g a b => by
 unfold primaryP
 rw [g.pk, if_neg (by decide), if_neg (by decide), if_neg (by decide)]
 simp only [g.takes, oBs]
 rw [if_neg (by simp), if_neg (by simp), if_neg (by simp), if_neg (by simp), if_neg (by simp), g.is, if_neg (by simp)]
theorem gone_whole {sub : PI} (h : GoneF c sub) {st : PSt} (g : Gone c st) (a : -400 ≤ st.nest) (b : st.nest ≤ 400) : wholeP c sub st = some (0, failP c st 2) := by
 have ho : openP c st = some { st with nest := st.nest + 1 } := by
  unfold openP
  rw [g.pk, if_neg (c := (0 : Int) ≠ 0 ∧ st.nest = 30) (fun z => z.1 rfl)]
  unfold nestTo
  rw [if_pos (by omega)]
 have g1 : Gone c { st with nest := st.nest + 1 } := g
 unfold wholeP
 rw [ho, oBs, h _ g1 (by show -500 ≤ st.nest + 1; omega) (by show st.nest + 1 ≤ 500; omega), oBs]
 unfold nestTo
 have e : (failP c { st with nest := st.nest + 1 } 2).nest + -1 = st.nest := by rw [failP_nest]; show st.nest + 1 + -1 = st.nest; omega
 rw [if_pos (by rw [e]; omega), e]
 show some (0, _) = some (0, _)
 congr 2
 unfold failP
 split
 ·rfl
 ·rfl
theorem parse_gone : ∀ D, 60 ≤ D → D ≤ 2000000 →
  GoneF c (un (parse c D 158)) ∧ GoneF c (un (parse c D 188)) ∧ GoneF c (un (parse c D 203)) ∧ GoneF c (un (parse c D 220)) ∧ GoneF c (un (parse c D 232)) ∧ GoneF c (un (parse c D 238)) ∧ GoneF c (un (parse c D 241)) ∧ GoneF c (un (parse c D 242)) ∧ GoneF c (un (parse c D 243)) := by
 have s243 : ∀ D, 31 ≤ D → D ≤ 2000000 → GoneF c (un (parse c D 243)) := fun D h1 h2 st g a b => by
  obtain ⟨D, rfl⟩ : ∃ d, D = d + 1 := ⟨D - 1, by omega⟩
  rw [un_eq (parse_243 c (by omega) _), un_ret]; exact gone_primary st g a b
 have s242 : ∀ D, 33 ≤ D → D ≤ 2000000 → GoneF c (un (parse c D 242)) := fun D h1 h2 st g a b => by
  obtain ⟨D, rfl⟩ : ∃ d, D = d + 1 + 1 := ⟨D - 2, by omega⟩
  rw [un_eq (parse_242 c (by omega) _), un_ret]; exact gone_behind (s243 _ (by omega) (by omega)) st g a b
 have s241 : ∀ D, 34 ≤ D → D ≤ 2000000 → GoneF c (un (parse c D 241)) := fun D h1 h2 st g a b => by
  obtain ⟨D, rfl⟩ : ∃ d, D = d + 1 := ⟨D - 1, by omega⟩
  rw [un_eq (parse_241 c (by omega) _), un_ret]; exact gone_unary (s242 _ (by omega) (by omega)) st g a b
 have s238 : ∀ D, 37 ≤ D → D ≤ 2000000 → GoneF c (un (parse c D 238)) := fun D h1 h2 st g a b => by
  obtain ⟨D, rfl⟩ : ∃ d, D = d + 1 + 1 + 1 := ⟨D - 3, by omega⟩
  rw [un_eq (parse_238 c (by omega) _), un_eq (parse_2312 c (by omega) _), un_ret]; exact gone_row (s241 _ (by omega) (by omega)) st g a b
 have s232 : ∀ D, 40 ≤ D → D ≤ 2000000 → GoneF c (un (parse c D 232)) := fun D h1 h2 st g a b => by
  obtain ⟨D, rfl⟩ : ∃ d, D = d + 1 + 1 + 1 := ⟨D - 3, by omega⟩
  rw [un_eq (parse_232 c (by omega) _), un_eq (parse_2311 c (by omega) _), un_ret]; exact gone_row (s238 _ (by omega) (by omega)) st g a b
 have s220 : ∀ D, 43 ≤ D → D ≤ 2000000 → GoneF c (un (parse c D 220)) := fun D h1 h2 st g a b => by
  obtain ⟨D, rfl⟩ : ∃ d, D = d + 1 + 1 + 1 := ⟨D - 3, by omega⟩
  rw [un_eq (parse_220 c (by omega) _), un_eq (parse_2310 c (by omega) _), un_ret]; exact gone_row (s232 _ (by omega) (by omega)) st g a b
 have s203 : ∀ D, 44 ≤ D → D ≤ 2000000 → GoneF c (un (parse c D 203)) := fun D h1 h2 st g a b => by
  obtain ⟨D, rfl⟩ : ∃ d, D = d + 1 := ⟨D - 1, by omega⟩
  rw [un_eq (parse_203 c (by omega) _), un_ret]; exact gone_cmp (s220 _ (by omega) (by omega)) st g a b
 have s188 : ∀ D, 46 ≤ D → D ≤ 2000000 → GoneF c (un (parse c D 188)) := fun D h1 h2 st g a b => by
  obtain ⟨D, rfl⟩ : ∃ d, D = d + 1 + 1 := ⟨D - 2, by omega⟩
  rw [un_eq (parse_188 c (by omega) _), un_ret]; exact gone_bin (s203 _ (by omega) (by omega)) st g a b
 have s158 : ∀ D, 48 ≤ D → D ≤ 2000000 → GoneF c (un (parse c D 158)) := fun D h1 h2 st g a b => by
  obtain ⟨D, rfl⟩ : ∃ d, D = d + 1 + 1 := ⟨D - 2, by omega⟩
  rw [un_eq (parse_158 c (by omega) _), un_ret]; exact gone_bin (s188 _ (by omega) (by omega)) st g a b
 intro D h1 h2
 exact ⟨s158 D (by omega) h2, s188 D (by omega) h2, s203 D (by omega) h2, s220 D (by omega) h2, s232 D (by omega) h2, s238 D (by omega) h2, s241 D (by omega) h2, s242 D (by omega) h2, s243 D (by omega) h2⟩
theorem whole_gone {D : Nat} (h1 : 61 ≤ D) (h2 : D ≤ 2000000) {st : PSt} (g : Gone c st) (a : -400 ≤ st.nest) (b : st.nest ≤ 400) : un (parse c D 110) st = some (0, failP c st 2) := by
 obtain ⟨D, rfl⟩ : ∃ d, D = d + 1 := ⟨D - 1, by omega⟩
 rw [un_eq (parse_110 c (by omega) _), un_ret]
 exact gone_whole (parse_gone D (by omega) (by omega)).1 g a b
def putN (k : Int) (t : ByteArray) (i : Int) (ks : List Int) (st : PSt) : PSt := { st with nodes := st.nodes ++ [⟨k, t, i, ks⟩] }
theorem nodeP_ok {k i : Int} {t : ByteArray} {ks : List Int} {st : PSt} (h : st.nodes.length ≤ 1000000) : nodeP k t i ks st = some ((st.nodes.length : Int), putN k t i ks st) := by unfold nodeP; rw [if_pos h]; rfl
theorem nodeS_ok {k i : Int} {t : ByteArray} {ks : List Int} {st : PSt} (hc : st.code = 0) (h : st.nodes.length ≤ 1000000) : nodeS k t i ks st = some ((st.nodes.length : Int), putN k t i ks st) := by unfold nodeS; rw [if_neg (by simp [hc]), nodeP_ok h]
theorem block_dead {D : Nat} (h1 : 61 ≤ D) (h2 : D ≤ 2000000) {st : PSt} (d : st.code ≠ 0) (a : -400 ≤ st.nest) (b : st.nest ≤ 400) (hl : st.nodes.length ≤ 100000) : ∃ v, un (parse c D 111) st = some (v, putN 21 E0 0 [] st) := by
 obtain ⟨D, rfl⟩ : ∃ d, D = d + 1 + 1 := ⟨D - 2, by omega⟩
 refine ⟨(st.nodes.length : Int), ?_⟩
 rw [un_eq (parse_111 c (by omega) _), un_ret]
 have ho : openP c st = some { st with nest := st.nest + 1 } := by
  unfold openP
  rw [pk_dead d, if_neg (c := (0 : Int) ≠ 0 ∧ st.nest = 30) (fun z => z.1 rfl)]
  unfold nestTo
  rw [if_pos (by omega)]
 have d1 : ({ st with nest := st.nest + 1 } : PSt).code ≠ 0 := d
 unfold blockP
 rw [ho, oBs, wantP_d d1, oBs, blockLoop, if_neg (fun z => d z.1), oBs]
 dsimp only
 rw [wantP_d d1, oBs]
 unfold nestTo
 have e : ({ st with nest := st.nest + 1 } : PSt).nest + -1 = st.nest := by show st.nest + 1 + -1 = st.nest; omega
 rw [if_pos (by rw [e]; omega), e, oBs]
 exact nodeP_ok (by show st.nodes.length ≤ 1000000; omega)
end
end Go.Proofs.YtajpnemfppaafaaGreat
