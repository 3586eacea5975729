import Derived.Test.YtadmoackacickaaXParB
/- The parser: what begins with an expression. -/
set_option linter.unusedSimpArgs false
namespace Go.Proofs.Ytadmoackacickaa
open Go Go.AH

/-- A node of the function's own. -/
def NB (h : AHeap) (i : Nat) (n : Kn) (kv : Value) (rn : Option Nat) : Prop := OwnR h i i 73 (knCells n kv) ∧ KidH h kv n.ks ∧ rn ≠ some i
theorem NB.pk {h h' : AHeap} {i : Nat} {n : Kn} {kv : Value} {rn rn' : Option Nat} (x : NB h i n kv rn) (k : PK rn h h') (r : RN rn rn' h) : NB h' i n kv rn' := by
  obtain ⟨a, b, e⟩ := x
  have hl := a.lt
  obtain ⟨ep, a⟩ := a
  refine ⟨⟨ep, k.2.1 i _ a (by show (73 : TypeId) ≠ 81; decide) (fun _ => e)⟩, b.pk k, ?_⟩
  rcases r with rfl | ⟨q, rfl, hq⟩
  · exact e
  · intro he
    have : q = i := by simpa using he
    omega
theorem nodes_root {h : AHeap} {nv : Value} {ns : List Kn} {rn : Option Nat} (x : NodesH h nv ns rn) : rn ≠ some h.size := by
  rcases x with ⟨_, _, rfl⟩ | ⟨i, root, cells, _, rfl, o, _⟩
  · simp
  · intro he
    have : root = h.size := by simpa using he
    have := o.lt
    omega
theorem NB.new {h : AHeap} {nv : Value} {ns : List Kn} {rn : Option Nat} {n : Kn} {kv : Value} (x : NodesH h nv ns rn) (k : KidH h kv n.ks) :
    ∃ h', aSt (h.new 73 [.int .i64 0, .string ⟨#[]⟩, .int .i64 0, .slice none 0 0]) (ptr h.size 0) (knVal n kv) 4 = some h' ∧ Ext h.size h h' ∧ NB h' h.size n kv rn := by
  have o1 := Own.new (h := h) (b := h.size) (Nat.le_refl _) 73 [.int .i64 0, .string ⟨#[]⟩, .int .i64 0, .slice none 0 0]
  obtain ⟨h', a, b, e, s⟩ := Own.stN (n := 4) (v := knVal n kv) o1 (kn_cells k.cell n) rfl rfl
  have E := (Ext.new (Nat.le_refl h.size) 73 [.int .i64 0, .string ⟨#[]⟩, .int .i64 0, .slice none 0 0]).trans b
  refine ⟨h', a, E, ?_, k.ext E, nodes_root x⟩
  obtain ⟨root, ep, e1, e2⟩ := e
  have := (at?_obj e1).2.2.1
  have hr : root = h.size := Nat.le_antisymm this e2
  subst hr
  exact ⟨ep, e1⟩
theorem NB.ld {h : AHeap} {i : Nat} {n : Kn} {kv : Value} {rn : Option Nat} (x : NB h i n kv rn) : aLd1 h (ptr i 0) = some (.int .i64 n.k) ∧ aLd1 h (ptr i 1) = some (.string n.t) ∧ aLd1 h (ptr i 3) = some kv :=
  ⟨x.1.row.ld1 rfl, x.1.row.ld1 rfl, x.1.row.ld1 rfl⟩
/-- A node is read. -/
theorem NodesH.at {h : AHeap} {nv : Value} {ns : List Kn} {rn : Option Nat} (x : NodesH h nv ns rn) {e : Int} (h0 : 0 ≤ e) {n : Kn} (hn : ns[e.toNat]? = some n) :
    ∃ p kv, aIdx nv (.int .i64 e) 4 = some p ∧ aLdN h p 4 = some (knVal n kv) ∧ KidH h kv n.ks := by
  rcases x with ⟨_, rfl, _⟩ | ⟨i, root, cells, rfl, rfl, o, hl, hx⟩
  · simp at hn
  · have hlt := (List.getElem?_eq_some_iff.1 hn).1
    obtain ⟨kv, y, z⟩ := hx _ _ hn
    refine ⟨ptr i (e.toNat * 4), kv, ?_, ?_, z⟩
    · have : 0 ≤ e ∧ e < (ns.length : Int) := by omega
      simp [aIdx, slc, this]
    · rw [o.row.ldN (by omega), y]; rfl
theorem NodesH.cut {h : AHeap} {nv : Value} {ns : List Kn} {rn : Option Nat} (x : NodesH h nv ns rn) {e : Int} (he : 0 ≤ e ∧ e ≤ ns.length) :
    ∃ nv', aSub h 73 nv none (some (.int .i64 e)) 4 = some nv' ∧ NodesH h nv' (ns.take e.toNat) rn := by
  rcases x with ⟨rfl, rfl, rfl⟩ | ⟨i, root, cells, rfl, rfl, o, hl, hx⟩
  · have : e = 0 := by have := he.2; simp at this; omega
    subst this
    exact ⟨.slice none 0 0, rfl, .inl ⟨rfl, rfl, rfl⟩⟩
  · obtain ⟨ep, ha⟩ := o
    refine ⟨slc i 0 e.toNat, ?_, .inr ⟨i, root, cells, ?_, rfl, ⟨ep, ha⟩, ?_, ?_⟩⟩
    · simp [aSub, slc, ha, aBound, he]
    · rw [List.length_take, Nat.min_eq_left (by omega)]
    · rw [List.length_take, Nat.min_eq_left (by omega)]; omega
    · intro j n hn
      rw [List.getElem?_take] at hn
      by_cases hj : j < e.toNat
      · rw [if_pos hj] at hn; exact hx j n hn
      · rw [if_neg hj] at hn; cases hn
theorem PH.cut {c : PC} {h : AHeap} {st st' : PSt} {rn : Option Nat} (x : PH c h st rn) {e : Int} (he : cutP e st = some st') :
    ∃ nv nv' h', aLd1 h (ptr c.p 4) = some nv ∧ aSub h 73 nv none (some (.int .i64 e)) 4 = some nv' ∧ aSt h (ptr c.p 4) nv' 1 = some h' ∧ PH c h' st' rn ∧ PK rn h h' := by
  unfold cutP at he
  by_cases hc : 0 ≤ e ∧ e ≤ st.nodes.length
  · rw [if_pos hc] at he; cases he
    obtain ⟨nv, a, b, d⟩ := x
    obtain ⟨nv', u, w⟩ := d.cut hc
    obtain ⟨h', t, o', s, k, tp⟩ := stP a (i := 4) (by show 4 < 7; omega) (v := nv') (aCells_one w.cell)
    have pk : PK rn h h' := ⟨by omega, fun j o hj h81 _ => k j o hj h81, fun r _ => tp r⟩
    exact ⟨nv, nv', h', a.row.ld1 rfl, u, t, ⟨nv', o', b.pk pk, w.keep k⟩, pk⟩
  · rw [if_neg hc] at he; cases he
section
variable (c : PC) (whole : PI) (e : Int) (n : Kn)
def tail2 (b : Bool) : PI := fun st => if b = true then
      (match n.ks with
      | [a, b] => (cutP e st).bind fun s => (whole s).bind fun x => (wantP c ⟨#[59]⟩ x.2).bind fun s => nodeP 16 E0 0 [a, b, x.1] s
      | _ => none)
    else some (0, failP c st 2)
def tail1 (b : Bool) : PI := fun st => if b = true then (cutP e st).bind fun s => (whole s).bind fun x => (wantP c ⟨#[59]⟩ x.2).bind fun s => nodeP 15 n.t 0 [x.1] s else
    (if n.k = 8 then takesP c ⟨#[61]⟩ st else some (false, st)).bind fun r => tail2 c whole e n r.1 r.2
def tail0 (b : Bool) : PI := fun st => if b = true then nodeP 20 E0 0 [e] st else
    (if n.k = 5 then takesP c ⟨#[61]⟩ st else some (false, st)).bind fun r => tail1 c whole e n r.1 r.2
end
theorem begun_eq (c : PC) (whole : PI) (st : PSt) : begunP c whole st = (whole st).bind fun e => if e.2.code ≠ 0 then some (0, e.2) else
    match e.2.nodes[e.1.toNat]? with
    | none => none
    | some n => if e.1 < 0 then none else (if n.k = 9 then takesP c ⟨#[59]⟩ e.2 else some (false, e.2)).bind fun r => tail0 c whole e.1 n r.1 r.2 := rfl
section
variable {d : Nat} {c : PC} {whole : PI} (hw : Sim c (d + 21) 110 whole) {i : Nat} {n : Kn} {kv : Value} {e q : Int} {st st' : PSt} {h : AHeap} {rn : Option Nat}
include hw
theorem t112_2 (b : Bool) (x : PH c h st rn) (nb : NB h i n kv rn) (hp : tail2 c whole e n b st = some (q, st')) :
    Pp c h rn (s112_2 hk0 (call Try.prog Ms (d + 21)) (d + 21) (ptr c.p 0) e (ptr i 0) b h) (.int .i64 q) st' := by
  unfold tail2 at hp
  rw [s112_2_j, s112_2_eq]
  cases b with
  | false =>
    rw [if_neg (by simp)] at hp; cases hp
    obtain ⟨g1, r1, c1, y1, k1, n1⟩ := q156 (d := d) x 2
    refine ⟨g1, r1, ?_, y1, k1, n1⟩
    rw [cond_false, s112_3_j, s112_3_eq, c1, Option.bind_some]
  | true =>
    rw [if_pos rfl] at hp
    match hks : n.ks, hp with
    | [], hp => cases hp
    | [_], hp => cases hp
    | _ :: _ :: _ :: _, hp => cases hp
    | [a, b], hp =>
      simp only at hp
      obtain ⟨s1, h1, hp⟩ := bnd hp
      obtain ⟨⟨v, s2⟩, h2, hp⟩ := bnd hp
      obtain ⟨s3, h3, hp⟩ := bnd hp
      obtain ⟨nv, nv', g1, a1, b1, t1, y1, k1⟩ := x.cut h1
      obtain ⟨g2, r2, c2, y2, k2, n2⟩ := hw _ _ _ _ _ y1 h2
      obtain ⟨g3, r3, c3, y3, k3, n3⟩ := q109 (d := d) y2 h3
      have nb3 := (((nb.pk k1 (.inl rfl)).pk k2 n2).pk k3 n3)
      obtain ⟨_, _, u3⟩ := nb3.ld
      obtain ⟨g4, r4, c4, y4, k4, n4⟩ := q64three (d := d) y3 hp
      refine Pp.of k1 (.inl rfl) (Pp.of k2 n2 (Pp.of k3 n3 ⟨g4, r4, ?_, y4, k4, n4⟩))
      rw [cond_true]
      simp only [nil_ptr, aOff_ptr, Nat.zero_add, Option.bind_some, a1, b1, t1]
      rw [c2, Option.bind_some]
      simp only [asI, if_true, Option.bind_some]
      rw [c3, Option.bind_some]
      have kh := nb3.2.1
      rw [hks] at kh
      rcases kh with ⟨_, h0⟩ | ⟨j, rt, rfl, o⟩
      · cases h0
      · have i0 : aIdx (slc j 0 2) (.int .i64 0) 1 = some (ptr j 0) := rfl
        have i1 : aIdx (slc j 0 2) (.int .i64 1) 1 = some (ptr j 1) := rfl
        have l0 : aLd1 g3 (ptr j 0) = some (.int .i64 a) := o.row.ld1 rfl
        have l1 : aLd1 g3 (ptr j 1) = some (.int .i64 b) := o.row.ld1 rfl
        have u3' : aLd1 g3 (ptr i 3) = some (slc j 0 2) := u3
        simp only [u3', i0, i1, l0, l1, if_true, Option.bind_some, aNewS]
        rw [c4, Option.bind_some]
        simp only [if_true, Option.bind_some]
theorem t112_1 (b : Bool) (x : PH c h st rn) (nb : NB h i n kv rn) (hp : tail1 c whole e n b st = some (q, st')) :
    Pp c h rn (s112_1 hk0 (call Try.prog Ms (d + 21)) (d + 21) (ptr c.p 0) e (ptr i 0) b h) (.int .i64 q) st' := by
  unfold tail1 at hp
  rw [s112_1_j, s112_1_eq]
  cases b with
  | true =>
    rw [if_pos rfl] at hp
    obtain ⟨s1, h1, hp⟩ := bnd hp
    obtain ⟨⟨v, s2⟩, h2, hp⟩ := bnd hp
    obtain ⟨s3, h3, hp⟩ := bnd hp
    obtain ⟨nv, nv', g1, a1, b1, t1, y1, k1⟩ := x.cut h1
    obtain ⟨g2, r2, c2, y2, k2, n2⟩ := hw _ _ _ _ _ y1 h2
    obtain ⟨g3, r3, c3, y3, k3, n3⟩ := q109 (d := d) y2 h3
    have nb3 := (((nb.pk k1 (.inl rfl)).pk k2 n2).pk k3 n3)
    obtain ⟨_, u2, _⟩ := nb3.ld
    obtain ⟨g4, r4, c4, y4, k4, n4⟩ := q64one (d := d) y3 hp
    refine Pp.of k1 (.inl rfl) (Pp.of k2 n2 (Pp.of k3 n3 ⟨g4, r4, ?_, y4, k4, n4⟩))
    rw [cond_true]
    simp only [nil_ptr, aOff_ptr, Nat.zero_add, Option.bind_some, a1, b1, t1]
    rw [c2, Option.bind_some]
    simp only [asI, if_true, Option.bind_some]
    rw [c3, Option.bind_some]
    simp only [u2, asS, Option.bind_some, aNewS]
    rw [c4, Option.bind_some]
    simp only [if_true, Option.bind_some]
  | false =>
    rw [if_neg (by simp)] at hp
    obtain ⟨⟨b1, s1⟩, h1, hp⟩ := bnd hp
    obtain ⟨u1, _, _⟩ := nb.ld
    rw [cond_false]
    simp only [aOff_ptr, Nat.zero_add, Option.bind_some, u1]
    rw [show asI .i64 (Value.int .i64 n.k) = some n.k from rfl, Option.bind_some]
    by_cases hk : n.k = 8
    · rw [if_pos hk] at h1
      obtain ⟨g1, r1, c1, y1, k1, n1⟩ := q107 (d := d) x h1
      have : (n.k == 8) = true := by rw [hk]; rfl
      rw [this, cond_true, c1, Option.bind_some]
      simp only [asB, Option.bind_some]
      exact Pp.of k1 n1 (t112_2 hw b1 y1 (nb.pk k1 n1) hp)
    · rw [if_neg hk] at h1; cases h1
      rw [beq_eq_false_iff_ne.2 hk, cond_false]
      exact t112_2 hw false x nb hp
theorem t112_0 (b : Bool) (x : PH c h st rn) (nb : NB h i n kv rn) (hp : tail0 c whole e n b st = some (q, st')) :
    Pp c h rn (s112_0 hk0 (call Try.prog Ms (d + 21)) (d + 21) (ptr c.p 0) e (ptr i 0) b h) (.int .i64 q) st' := by
  unfold tail0 at hp
  rw [s112_0_j, s112_0_eq]
  cases b with
  | true =>
    rw [if_pos rfl] at hp
    obtain ⟨g4, r4, c4, y4, k4, n4⟩ := q64one (d := d) x hp
    refine ⟨g4, r4, ?_, y4, k4, n4⟩
    rw [cond_true]
    simp only [aNewS]
    rw [c4, Option.bind_some]
    simp only [asI, if_true, Option.bind_some]
  | false =>
    rw [if_neg (by simp)] at hp
    obtain ⟨⟨b1, s1⟩, h1, hp⟩ := bnd hp
    obtain ⟨u1, _, _⟩ := nb.ld
    rw [cond_false]
    simp only [aOff_ptr, Nat.zero_add, Option.bind_some, u1]
    rw [show asI .i64 (Value.int .i64 n.k) = some n.k from rfl, Option.bind_some]
    by_cases hk : n.k = 5
    · rw [if_pos hk] at h1
      obtain ⟨g1, r1, c1, y1, k1, n1⟩ := q107 (d := d) x h1
      have : (n.k == 5) = true := by rw [hk]; rfl
      rw [this, cond_true, c1, Option.bind_some]
      simp only [asB, Option.bind_some]
      exact Pp.of k1 n1 (t112_1 hw b1 y1 (nb.pk k1 n1) hp)
    · rw [if_neg hk] at h1; cases h1
      rw [beq_eq_false_iff_ne.2 hk, cond_false]
      exact t112_1 hw false x nb hp
theorem l112 : Sim c (d + 22) 112 (begunP c whole) := by
  intro h st rn q st' x hp
  have hcall : call Try.prog Ms (d + 22) 112 [ptr c.p 0] h = evFn hk0 Try.prog (call Try.prog Ms (d + 21)) M112 (d + 21) Try.f112 [ptr c.p 0] h := c112 (d + 21) _ _
  rw [begun_eq] at hp
  obtain ⟨⟨e, s1⟩, h1, hp⟩ := bnd hp
  obtain ⟨g1, r1, c1, y1, k1, n1⟩ := hw _ _ _ _ _ x h1
  obtain ⟨nv, nd, _, _, _, _, a4, a5, _⟩ := y1.ld
  refine Pp.of k1 n1 ?_
  rw [hcall, e112, c1, Option.bind_some, show asI .i64 (Value.int .i64 e) = some e from rfl, Option.bind_some]
  simp only [nil_ptr, aOff_ptr, Nat.zero_add, Option.bind_some, a5]
  rw [show asI .i64 (Value.int .i64 s1.code) = some s1.code from rfl, Option.bind_some]
  simp only at hp
  by_cases hc : s1.code = 0
  · rw [if_neg (by simp [hc])] at hp
    have : (s1.code != 0) = false := by rw [hc]; rfl
    rw [this, cond_false]
    match hn : s1.nodes[e.toNat]?, hp with
    | none, hp => cases hp
    | some n, hp =>
      simp only at hp
      by_cases h0 : e < 0
      · rw [if_pos h0] at hp; cases hp
      · rw [if_neg h0] at hp
        obtain ⟨⟨b2, s2⟩, h2, hp⟩ := bnd hp
        obtain ⟨p, kv, i1, l1, kh⟩ := nd.at (by omega) hn
        obtain ⟨g2, t2, x2, nb⟩ := NB.new (n := n) nd kh
        have y2 := y1.ext x2
        obtain ⟨u1, _, _⟩ := nb.ld
        refine Pp.ext x2 ?_
        simp only [a4, i1, l1, Option.bind_some, aNew, t2, aOff_ptr, Nat.zero_add, u1]
        rw [show asI .i64 (Value.int .i64 n.k) = some n.k from rfl, Option.bind_some]
        by_cases hk : n.k = 9
        · rw [if_pos hk] at h2
          obtain ⟨g3, r3, c3, y3, k3, n3⟩ := q107 (d := d) y2 h2
          have : (n.k == 9) = true := by rw [hk]; rfl
          rw [this, cond_true, c3, Option.bind_some]
          simp only [asB, Option.bind_some]
          exact Pp.of k3 n3 (t112_0 hw b2 y3 (nb.pk k3 n3) hp)
        · rw [if_neg hk] at h2; cases h2
          rw [beq_eq_false_iff_ne.2 hk, cond_false]
          exact t112_0 hw false y2 nb hp
  · have : (s1.code != 0) = true := by simp [hc]
    rw [this, cond_true]
    rw [if_pos hc] at hp; cases hp
    exact ⟨g1, r1, rfl, y1, PK.refl _ _, .inl rfl⟩
end
end Go.Proofs.Ytadmoackacickaa
/- The parser does as its plain form says, whatever the fuel. -/
set_option linter.unusedSimpArgs false
namespace Go.Proofs.Ytadmoackacickaa
open Go Go.AH

theorem un_ret (m : PI) (st : PSt) : un (ret m) st = m st := by
  unfold un ret
  cases m st with
  | none => rfl
  | some r => rfl
theorem parse_out (c : PC) {D k : Nat} (h : D < 30 ∨ D > 1000000) (st : PSt) : parse c (D + 1) k st = none := by rw [parse, if_pos h]
section
variable (c : PC) {D : Nat} (h : ¬ (D < 30 ∨ D > 1000000)) (st : PSt)
include h
theorem parse_110 : parse c (D + 1) 110 st = ret (wholeP c (un (parse c D 158))) st := by rw [parse, if_neg h]; rfl
theorem parse_158 : parse c (D + 1) 158 st = ret (binP c ⟨#[111, 114]⟩ 13 (un (parse c D 188)) D) st := by rw [parse, if_neg h]; rfl
theorem parse_188 : parse c (D + 1) 188 st = ret (binP c ⟨#[97, 110, 100]⟩ 12 (un (parse c D 203)) D) st := by rw [parse, if_neg h]; rfl
theorem parse_203 : parse c (D + 1) 203 st = ret (compareP c (un (parse c D 220))) st := by rw [parse, if_neg h]; rfl
theorem parse_2310 : parse c (D + 1) 2310 st = ret (rowP c [⟨#[46, 46]⟩] (un (parse c D 232)) D) st := by rw [parse, if_neg h]; rfl
theorem parse_2311 : parse c (D + 1) 2311 st = ret (rowP c [⟨#[43]⟩, ⟨#[45]⟩] (un (parse c D 238)) D) st := by rw [parse, if_neg h]; rfl
theorem parse_2312 : parse c (D + 1) 2312 st = ret (rowP c [⟨#[42]⟩, ⟨#[47]⟩, ⟨#[37]⟩] (un (parse c D 241)) D) st := by rw [parse, if_neg h]; rfl
theorem parse_220 : parse c (D + 1) 220 st = parse c D 2310 st := by rw [parse, if_neg h]; rfl
theorem parse_232 : parse c (D + 1) 232 st = parse c D 2311 st := by rw [parse, if_neg h]; rfl
theorem parse_238 : parse c (D + 1) 238 st = parse c D 2312 st := by rw [parse, if_neg h]; rfl
theorem parse_241 : parse c (D + 1) 241 st = ret (unaryP c (un (parse c D 241)) (un (parse c D 242))) st := by rw [parse, if_neg h]; rfl
theorem parse_242 : parse c (D + 1) 242 st = ret (behindP c (un (parse c D 243)) (un (parse c D 110)) (parse c D 244) D) st := by rw [parse, if_neg h]; rfl
theorem parse_243 : parse c (D + 1) 243 st = ret (primaryP c (un (parse c D 110)) (un (parse c D 245)) (un (parse c D 246))) st := by rw [parse, if_neg h]; rfl
theorem parse_244 : parse c (D + 1) 244 st = argsP c (un (parse c D 110)) D st := by rw [parse, if_neg h]; rfl
theorem parse_245 : parse c (D + 1) 245 st = ret (fnP c (un (parse c D 111)) D) st := by rw [parse, if_neg h]; rfl
theorem parse_246 : parse c (D + 1) 246 st = ret (tableP c (un (parse c D 247)) D) st := by rw [parse, if_neg h]; rfl
theorem parse_247 : parse c (D + 1) 247 st = ret (fieldP c (un (parse c D 110))) st := by rw [parse, if_neg h]; rfl
theorem parse_111 : parse c (D + 1) 111 st = ret (blockP c (un (parse c D 63)) D) st := by rw [parse, if_neg h]; rfl
theorem parse_112 : parse c (D + 1) 112 st = ret (begunP c (un (parse c D 110))) st := by rw [parse, if_neg h]; rfl
theorem parse_63 : parse c (D + 1) 63 st = ret (stmtP c (un (parse c D 110)) (un (parse c D 111)) (un (parse c D 112))) st := by rw [parse, if_neg h]; rfl
end
structure AllSim (c : PC) (D : Nat) : Prop where
  s110 : Sim c D 110 (un (parse c D 110))
  s158 : Sim c D 158 (un (parse c D 158))
  s188 : Sim c D 188 (un (parse c D 188))
  s203 : Sim c D 203 (un (parse c D 203))
  s220 : Sim c D 220 (un (parse c D 220))
  s232 : Sim c D 232 (un (parse c D 232))
  s238 : Sim c D 238 (un (parse c D 238))
  s241 : Sim c D 241 (un (parse c D 241))
  s242 : Sim c D 242 (un (parse c D 242))
  s243 : Sim c D 243 (un (parse c D 243))
  s245 : Sim c D 245 (un (parse c D 245))
  s246 : Sim c D 246 (un (parse c D 246))
  s247 : Sim c D 247 (un (parse c D 247))
  s111 : Sim c D 111 (un (parse c D 111))
  s112 : Sim c D 112 (un (parse c D 112))
  s63 : Sim c D 63 (un (parse c D 63))
  sL : SimL c D 244 (parse c D 244)
theorem Sim.of {c : PC} {D k : Nat} {m m' : PI} (x : Sim c D k m) (e : ∀ st, m' st = m st) : Sim c D k m' := fun h st rn a st' p hp => x h st rn a st' p (by rw [← e]; exact hp)
theorem Sim.none {c : PC} {D k : Nat} {m : PI} (e : ∀ st, m st = none) : Sim c D k m := fun h st rn a st' p hp => by rw [e] at hp; cases hp
theorem un_none {m : PM} {st : PSt} (h : m st = none) : un m st = none := by unfold un; rw [h]; rfl
theorem un_eq {m m' : PM} {st : PSt} (h : m st = m' st) : un m st = un m' st := by unfold un; rw [h]
theorem allSim (c : PC) : ∀ D, AllSim c D := by
  intro D
  induction D using Nat.strongRecOn with
  | _ D ih =>
  match D, ih with
  | 0, _ => exact ⟨Sim.none fun _ => rfl, Sim.none fun _ => rfl, Sim.none fun _ => rfl, Sim.none fun _ => rfl, Sim.none fun _ => rfl, Sim.none fun _ => rfl, Sim.none fun _ => rfl, Sim.none fun _ => rfl, Sim.none fun _ => rfl, Sim.none fun _ => rfl, Sim.none fun _ => rfl, Sim.none fun _ => rfl, Sim.none fun _ => rfl, Sim.none fun _ => rfl, Sim.none fun _ => rfl, Sim.none fun _ => rfl, fun _ _ _ _ _ _ hp => by cases hp⟩
  | D + 1, ih =>
  by_cases hD : D < 30 ∨ D > 1000000
  · exact ⟨Sim.none fun st => un_none (parse_out c hD st), Sim.none fun st => un_none (parse_out c hD st), Sim.none fun st => un_none (parse_out c hD st), Sim.none fun st => un_none (parse_out c hD st), Sim.none fun st => un_none (parse_out c hD st), Sim.none fun st => un_none (parse_out c hD st), Sim.none fun st => un_none (parse_out c hD st), Sim.none fun st => un_none (parse_out c hD st), Sim.none fun st => un_none (parse_out c hD st), Sim.none fun st => un_none (parse_out c hD st), Sim.none fun st => un_none (parse_out c hD st), Sim.none fun st => un_none (parse_out c hD st), Sim.none fun st => un_none (parse_out c hD st), Sim.none fun st => un_none (parse_out c hD st), Sim.none fun st => un_none (parse_out c hD st), Sim.none fun st => un_none (parse_out c hD st), fun _ st _ _ _ _ hp => by rw [parse_out c hD st] at hp; cases hp⟩
  obtain ⟨d, rfl⟩ : ∃ d, D = d + 21 := ⟨D - 21, by omega⟩
  have z := ih (d + 21) (by omega)
  refine ⟨?_, ?_, ?_, ?_, ?_, ?_, ?_, ?_, ?_, ?_, ?_, ?_, ?_, ?_, ?_, ?_, ?_⟩
  · exact (l110 (D := d + 18) z.s158).of fun st => (un_eq (parse_110 c hD st)).trans (un_ret _ st)
  · exact (l158 (D := d + 17) (by omega) z.s188).of fun st => (un_eq (parse_158 c hD st)).trans (un_ret _ st)
  · exact (l188 (D := d + 17) (by omega) z.s203).of fun st => (un_eq (parse_188 c hD st)).trans (un_ret _ st)
  · exact (l203 (d := d) z.s220).of fun st => (un_eq (parse_203 c hD st)).trans (un_ret _ st)
  · obtain ⟨d', rfl⟩ : ∃ d', d = d' + 1 := ⟨d - 1, by omega⟩
    by_cases h2 : d' + 21 < 30 ∨ d' + 21 > 1000000
    · exact Sim.none fun st => un_none ((parse_220 c hD st).trans (parse_out c h2 st))
    · exact (l220 (d := d') (n := d' + 21) (Nat.le_refl _) (ih (d' + 21) (by omega)).s232).of fun st => (un_eq ((parse_220 c hD st).trans (parse_2310 c h2 st))).trans (un_ret _ st)
  · obtain ⟨d', rfl⟩ : ∃ d', d = d' + 1 := ⟨d - 1, by omega⟩
    by_cases h2 : d' + 21 < 30 ∨ d' + 21 > 1000000
    · exact Sim.none fun st => un_none ((parse_232 c hD st).trans (parse_out c h2 st))
    · exact (l232 (d := d') (n := d' + 21) (Nat.le_refl _) (ih (d' + 21) (by omega)).s238).of fun st => (un_eq ((parse_232 c hD st).trans (parse_2311 c h2 st))).trans (un_ret _ st)
  · obtain ⟨d', rfl⟩ : ∃ d', d = d' + 1 := ⟨d - 1, by omega⟩
    by_cases h2 : d' + 21 < 30 ∨ d' + 21 > 1000000
    · exact Sim.none fun st => un_none ((parse_238 c hD st).trans (parse_out c h2 st))
    · exact (l238 (d := d') (n := d' + 21) (Nat.le_refl _) (ih (d' + 21) (by omega)).s241).of fun st => (un_eq ((parse_238 c hD st).trans (parse_2312 c h2 st))).trans (un_ret _ st)
  · exact (l241 (d := d) z.s241 z.s242).of fun st => (un_eq (parse_241 c hD st)).trans (un_ret _ st)
  · exact (l242 (d := d) (by omega) z.s243 z.s110 z.sL).of fun st => (un_eq (parse_242 c hD st)).trans (un_ret _ st)
  · exact (l243 (d := d) z.s110 z.s245 z.s246).of fun st => (un_eq (parse_243 c hD st)).trans (un_ret _ st)
  · exact (l245 (d := d) (by omega) (by omega) z.s111).of fun st => (un_eq (parse_245 c hD st)).trans (un_ret _ st)
  · exact (l246 (d := d) (by omega) (by omega) z.s247).of fun st => (un_eq (parse_246 c hD st)).trans (un_ret _ st)
  · exact (l247 (d := d) z.s110).of fun st => (un_eq (parse_247 c hD st)).trans (un_ret _ st)
  · exact (l111 (d := d) (by omega) (by omega) z.s63).of fun st => (un_eq (parse_111 c hD st)).trans (un_ret _ st)
  · exact (l112 (d := d) z.s110).of fun st => (un_eq (parse_112 c hD st)).trans (un_ret _ st)
  · exact (l63 (d := d) z.s110 z.s111 z.s112).of fun st => (un_eq (parse_63 c hD st)).trans (un_ret _ st)
  · intro h st rn l st' x hp
    rw [parse_244 c hD st] at hp
    exact l244 (d := d) (by omega) (by omega) z.s110 h st rn l st' x hp
end Go.Proofs.Ytadmoackacickaa
/- impl.Parse. -/
set_option linter.unusedSimpArgs false
namespace Go.Proofs.Ytadmoackacickaa
open Go Go.AH

/-- What Parse returns: nodes, root, code, place. -/
abbrev PRes := List Kn × Int × Int × Int
def finP (l : List Int) (st : PSt) : Option PRes := if st.code ≠ 0 then some ([], 0, st.code, st.place) else (nodeP 21 E0 0 l st).map fun x => (x.2.nodes, x.1, 0, 0)
def st0 : PSt := ⟨0, 0, [], 0, 0⟩
def parseC (c : PC) (D : Nat) : Option PRes := (topLoop c (un (parse c D 63)) D [] st0).bind fun l => finP l.1 l.2
def tval (nv : Value) (r : PRes) : Value := .tuple (List.toArray [.agg (List.toArray [nv, .int .i64 r.2.1]), .int .i64 r.2.2.1, .int .i64 r.2.2.2])
def IsParse (h0 : AHeap) (o : Option (Value × AHeap)) (r : PRes) : Prop := ∃ h' nv rn', o = some (tval nv r, h') ∧ NodesH h' nv r.1 rn' ∧ PK none h0 h' ∧ RN none rn' h0
theorem stE {h : AHeap} {i n : Nat} {e : TypeId} {cells vs : List Value} (o : OwnR h i i e cells) {v : Value} (hv : aCells v = some vs) (hl : vs.length = n) (hc : cells.length = n) (he : ¬ 3 = e) :
    ∃ h', aSt h (ptr i 0) v n = some h' ∧ OwnR h' i i e vs ∧ h'.size = h.size ∧ (∀ j o, h.at? j = some o → o.elem ≠ e ∨ o.root ≠ i → h'.at? j = some o) ∧ (∀ r, h'.tip 3 r = h.tip 3 r) := by
  obtain ⟨ep, h1⟩ := o
  have hsp : splice cells 0 vs = vs := by
    unfold splice
    simp [hl, hc]
  refine ⟨h.put i ⟨i, ep, false, e, cells⟩ (splice cells 0 vs), by simp [aSt, ptr, h1, hv, hl, hc], ⟨h.ep e i + 1, ?_⟩, rfl, fun k o ho hk => at?_put_other ho (fun ee => by subst ee; rw [h1] at ho; cases ho; rcases hk with hk | hk <;> exact hk rfl) _ (fun hh => by
    rcases hk with hk | hk
    · exact hk hh.1
    · exact hk hh.2), fun r => by simp [AHeap.put, he]⟩
  have := at?_put_same h1 (splice cells 0 vs)
  rw [hsp] at this ⊢
  exact this
theorem PK.st35 {h0 h h' : AHeap} {i1 : Nat} (k : PK none h0 h) (hi : h0.size ≤ i1) (hs : h'.size = h.size) (hk : ∀ j o, h.at? j = some o → o.elem ≠ 35 ∨ o.root ≠ i1 → h'.at? j = some o) (ht : ∀ r, h'.tip 3 r = h.tip 3 r) : PK none h0 h' :=
  ⟨by rw [hs]; exact k.1, fun j o a b c => hk j o (k.2.1 j o a b c) (.inr (by have := at?_obj a; omega)), fun r hr => (ht r).trans (k.2.2 r hr)⟩
theorem NodesH.keep' {h h' : AHeap} {v : Value} {ns : List Kn} {rn : Option Nat} (x : NodesH h v ns rn) {e : TypeId} (h1 : e ≠ 73) (h2 : e ≠ 3) (k : ∀ j o, h.at? j = some o → o.elem ≠ e → h'.at? j = some o) : NodesH h' v ns rn := by
  rcases x with a | ⟨i, rt, cs, a, b, ⟨ep, c⟩, d, f⟩
  · exact .inl a
  · refine .inr ⟨i, rt, cs, a, b, ⟨ep, k i _ c (fun h => h1 h.symm)⟩, d, fun j n hn => ?_⟩
    obtain ⟨kv, y, z⟩ := f j n hn
    refine ⟨kv, y, ?_⟩
    rcases z with z | ⟨i', rt', z1, ep', z2⟩
    · exact .inl z
    · exact .inr ⟨i', rt', z1, ep', k i' _ z2 (fun h => h2 h.symm)⟩
theorem two35 {nv : Value} (h : isCell nv = true) (r : Int) : aCells (.agg (List.toArray [nv, .int .i64 r])) = some [nv, .int .i64 r] := by
  show (if (List.all [nv, .int .i64 r] isCell) = true then _ else _) = _
  rw [if_pos (by show (isCell nv && (true && true)) = true; rw [h]; rfl)]
theorem fill35 {nv : Value} (h : isCell nv = true) (r : Int) : aFill [.slice none 0 0, .int .i64 0] [(0, 1, nv), (1, 1, .int .i64 r)] = some [nv, .int .i64 r] := by
  simp [aFill, aCells_int, aCells_one h, splice]
/-- The end of Parse, with an error or without. -/
theorem parse_fin {d i1 rt : Nat} {h0 h : AHeap} {c : PC} {v : Value} {out : List Int} {st : PSt} {rn : Option Nat} {r : PRes} (hi : h0.size ≤ i1) (hrt : h0.size ≤ rt) (x : PH c h st rn) (li : LI h v out rt) (o : OwnR h i1 i1 35 [.slice none 0 0, .int .i64 0]) (k : PK none h0 h) (n : RN none rn h0) (hp : finP out st = some r) :
    (st.code ≠ 0 → ∃ h', aSt h (ptr i1 0) (.agg (List.toArray [.slice none 0 0, .int .i64 0])) 2 = some h' ∧ aLd1 h' (ptr c.p 5) = some (.int .i64 st.code) ∧ aLd1 h' (ptr c.p 6) = some (.int .i64 st.place) ∧ aLdN h' (ptr i1 0) 2 = some (.agg (List.toArray [.slice none 0 0, .int .i64 0])) ∧ PK none h0 h' ∧ r = ([], 0, st.code, st.place)) ∧
    (st.code = 0 → ∃ (h1 h' : AHeap) (nv : Value) (rn' : Option Nat), call Try.prog Ms (d + 21) 64 [ptr c.p 0, .int .i64 21, .string ⟨#[]⟩, .int .i64 0, v] h = some (.int .i64 r.2.1, h1) ∧ aLd1 h1 (ptr c.p 4) = some nv ∧ isCell nv = true ∧ aSt h1 (ptr i1 0) (.agg (List.toArray [nv, .int .i64 r.2.1])) 2 = some h' ∧ aLdN h' (ptr i1 0) 2 = some (.agg (List.toArray [nv, .int .i64 r.2.1])) ∧ r.2.2 = (0, 0) ∧ NodesH h' nv r.1 rn' ∧ PK none h0 h' ∧ RN none rn' h0) := by
  unfold finP at hp
  constructor
  · intro hc
    rw [if_pos hc] at hp; cases hp
    obtain ⟨h', a1, a2, a3, a4, a5⟩ := stE o (n := 2) (two35 (nv := .slice none 0 0) rfl 0) rfl rfl (by decide)
    obtain ⟨nv, o', _⟩ := x
    have o2 : OwnR h' c.p c.p 81 (pcells c nv st) := let ⟨ep, q⟩ := o'; ⟨ep, a4 _ _ q (.inl (by show (81 : TypeId) ≠ 35; decide))⟩
    refine ⟨h', a1, o2.row.ld1 rfl, o2.row.ld1 rfl, ?_, k.st35 hi a3 a4 a5, rfl⟩
    rw [a2.row.ldN (by show 0 + 2 ≤ 2; omega)]; rfl
  · intro hc
    rw [if_neg (by simp [hc]), Option.map_eq_some_iff] at hp
    obtain ⟨⟨q, s1⟩, h1, he⟩ := hp
    cases he
    obtain ⟨g1, r1, c1, y1, k1, n1⟩ := q64 (d := d) x li.kid h1
    obtain ⟨nv, nd, _, _, _, _, b4, _⟩ := y1.ld
    have K1 : PK none h0 g1 := k.trans n k1
    have o1 := o.pk k1 (by decide) (by decide)
    obtain ⟨h', a1, a2, a3, a4, a5⟩ := stE o1 (n := 2) (two35 nd.cell q) rfl rfl (by decide)
    refine ⟨g1, h', nv, r1, c1, b4, nd.cell, a1, ?_, rfl, nd.keep' (e := 35) (by decide) (by decide) (fun j o a b => a4 j o a (.inl b)), K1.st35 hi a3 a4 a5, RN.trans k.1 n n1⟩
    rw [a2.row.ldN (by show 0 + 2 ≤ 2; omega)]; rfl
theorem parse_loop {d i1 rt N : Nat} {h0 : AHeap} {c : PC} {stmt : PI} (hb : Sim c (d + 21) 63 stmt) (hi : h0.size ≤ i1) (hrt : h0.size ≤ rt) {r : PRes} : ∀ (n m : Nat) (out : List Int) (v : Value) (h : AHeap) (st : PSt) (rn : Option Nat), n ≤ m → out.length + n ≤ 1000000 → PH c h st rn → LI h v out rt →
    OwnR h i1 i1 35 [.slice none 0 0, .int .i64 0] → PK none h0 h → RN none rn h0 → ((topLoop c stmt n out st).bind fun l => finP l.1 l.2) = some r →
    IsParse h0 (s28_0 hk0 (call Try.prog Ms (d + 21)) N m (ptr i1 0) c.tv (ptr c.p 0) v h) r := by
  intro n
  induction n with
  | zero => intro m out v h st rn _ _ _ _ _ _ _ hp; cases hp
  | succ n ih =>
    intro m out v h st rn hm hlen x li o k nr hp
    obtain ⟨m, rfl⟩ : ∃ q, m = q + 1 := ⟨m - 1, by omega⟩
    obtain ⟨⟨l, sl⟩, hl, hq⟩ := bnd hp
    clear hp
    rw [topLoop] at hl
    have x' := x
    obtain ⟨nv0, _, tk, _⟩ := x'
    obtain ⟨_, _, a0, a1, _, _, _, a5, a6⟩ := x.ld
    rw [s28_0_eq]
    simp only [nil_ptr, aOff_ptr, Nat.zero_add, Option.bind_some, a1, tk.len]
    rw [show asI .i64 (Value.int .i64 (st.at' : Int)) = some (st.at' : Int) from rfl, Option.bind_some, show asI .i64 (Value.int .i64 (c.toks.length : Int)) = some (c.toks.length : Int) from rfl, Option.bind_some]
    by_cases hlt : st.at' < c.toks.length ∧ st.code = 0
    · rw [if_pos hlt] at hl
      have hI : (st.at' : Int) < (c.toks.length : Int) := by omega
      obtain ⟨⟨e, s1⟩, h1, hl⟩ := bnd hl
      obtain ⟨g1, r1, c1, y1, k1, n1⟩ := hb _ _ _ _ _ x h1
      obtain ⟨v2, g2, c2, l2, a2⟩ := (li.pk k1).push (by omega) e
      have K1 : PK none h0 g1 := k.trans nr k1
      have N1 : RN none r1 h0 := RN.trans k.1 nr n1
      have K2 : PK none h0 g2 := K1.behind N1 hrt a2.pkr
      have z := ih m (out ++ [e]) v2 g2 s1 r1 (by omega) (by simp; omega) (y1.ak a2) l2 (let ⟨ep, q⟩ := o.pk k1 (by decide) (by decide); ⟨ep, a2.2.1 _ _ q⟩) K2 N1 (by rw [hl]; exact hq)
      rw [decide_eq_true hI, cond_true, a5, Option.bind_some, show asI .i64 (Value.int .i64 st.code) = some st.code from rfl, Option.bind_some, hlt.2, show ((0 : Int) == 0) = true from rfl, cond_true, s28_1_j, s28_1_eq, c1, Option.bind_some]
      simp only [asI, if_true, Option.bind_some, aNewS]
      rw [c2, Option.bind_some]
      exact z
    · rw [if_neg hlt] at hl; cases hl
      obtain ⟨f1, f2⟩ := parse_fin (d := d) hi hrt x li o k nr hq
      by_cases hc : st.code = 0
      · have hI : ¬ ((st.at' : Int) < (c.toks.length : Int)) := fun h => hlt ⟨by omega, hc⟩
        obtain ⟨g1, g2, nv, rn', b1, b2, b3, b4, b5, b6, b7, b8, b9⟩ := f2 hc
        have hc' : (st.code != 0) = false := by rw [hc]; rfl
        refine ⟨g2, nv, rn', ?_, b7, b8, b9⟩
        rw [decide_eq_false hI, cond_false, a5, Option.bind_some, show asI .i64 (Value.int .i64 st.code) = some st.code from rfl, Option.bind_some, hc', cond_false, b1, Option.bind_some]
        simp only [asI, if_true, Option.bind_some, b2, fill35 b3, b4, b5]
        have e2 : tval nv r = .tuple (List.toArray [.agg (List.toArray [nv, .int .i64 r.2.1]), .int .i64 0, .int .i64 0]) := by
          unfold tval; rw [b6]
        rw [e2]; rfl
      · obtain ⟨g1, b1, b2, b3, b4, b5, rfl⟩ := f1 hc
        have hc' : (st.code != 0) = true := by simp [hc]
        have hc2 : (st.code == 0) = false := beq_eq_false_iff_ne.2 hc
        refine ⟨g1, .slice none 0 0, none, ?_, .inl ⟨rfl, rfl, rfl⟩, b5, .inl rfl⟩
        by_cases hI : ((st.at' : Int) < (c.toks.length : Int))
        · rw [decide_eq_true hI, cond_true, a5, Option.bind_some, show asI .i64 (Value.int .i64 st.code) = some st.code from rfl, Option.bind_some, hc2, cond_false]
          rw [Option.bind_some, show asI .i64 (Value.int .i64 st.code) = some st.code from rfl, Option.bind_some, hc', cond_true]
          simp only [asI, if_true, Option.bind_some, a6, b1, b2, b3, b4, vbeq, vbeq1, beq_self_eq_true, Bool.and_self, cond_true]
          rfl
        · rw [decide_eq_false hI, cond_false, a5, Option.bind_some, show asI .i64 (Value.int .i64 st.code) = some st.code from rfl, Option.bind_some, hc', cond_true]
          simp only [asI, if_true, Option.bind_some, a6, b1, b2, b3, b4, vbeq, vbeq1, beq_self_eq_true, Bool.and_self, cond_true]
          rfl
def parseR (D : Nat) (s : ByteArray) : Option PRes := if (lexR s).2.1 ≠ 0 then some ([], 0, 1, ((lexR s).2.2 : Int)) else parseC ⟨0, .slice none 0 0, (lexR s).1, s.size⟩ D
theorem parse_indep (p p' : Nat) (tv tv' : Value) (toks : List Tok) (en : Int) (D : Nat) : parseC ⟨p, tv, toks, en⟩ D = parseC ⟨p', tv', toks, en⟩ D := by kernel_rfl
end Go.Proofs.Ytadmoackacickaa
/- impl.Parse (2). -/
set_option linter.unusedSimpArgs false
namespace Go.Proofs.Ytadmoackacickaa
open Go Go.AH

theorem OS.tok {b : Nat} {h : AHeap} {v : Value} {ts : List Tok} (x : OS b h v ts) : TokH h v ts := by
  rcases x with a | ⟨i, a, b⟩
  · exact .inl a
  · exact .inr ⟨i, a, Own.rowE b⟩
theorem TokH.cell {h : AHeap} {v : Value} {ts : List Tok} (x : TokH h v ts) : isCell v = true := by
  rcases x with ⟨rfl, _⟩ | ⟨i, rfl, _⟩ <;> rfl
theorem fill81 {tv : Value} (h : isCell tv = true) (en : Int) : aFill [.slice none 0 0, .int .i64 0, .int .i64 0, .int .i64 0, .slice none 0 0, .int .i64 0, .int .i64 0] [(0, 1, tv), (2, 1, .int .i64 en)] = some [tv, .int .i64 0, .int .i64 en, .int .i64 0, .slice none 0 0, .int .i64 0, .int .i64 0] := by
  simp [aFill, aCells_int, aCells_one h, splice]
theorem cells81 {tv : Value} (h : isCell tv = true) (en : Int) : aCells (.agg (List.toArray [tv, .int .i64 0, .int .i64 en, .int .i64 0, .slice none 0 0, .int .i64 0, .int .i64 0])) = some [tv, .int .i64 0, .int .i64 en, .int .i64 0, .slice none 0 0, .int .i64 0, .int .i64 0] := by
  show (if (List.all [tv, .int .i64 0, .int .i64 en, .int .i64 0, .slice none 0 0, .int .i64 0, .int .i64 0] isCell) = true then _ else _) = _
  rw [if_pos (by show (isCell tv && (true && (true && (true && (true && (true && (true && true))))))) = true; rw [h]; rfl)]
theorem l28 {d : Nat} (hd : 3000 < d) {s : ByteArray} {h : AHeap} {r : PRes} (hD : d + 21 ≤ 1000000) (hp : parseR (d + 21) s = some r) : IsParse h (call Try.prog Ms (d + 22) 28 [.string s] h) r := by
  have e1 := Ext.new (Nat.le_refl h.size) 35 [.slice none 0 0, .int .i64 0]
  have o1 := OwnR.new h 35 [.slice none 0 0, .int .i64 0]
  obtain ⟨h2, v, c2, x2, os, _⟩ := l15 (d := d + 17) (by omega) s (h.new 35 [.slice none 0 0, .int .i64 0])
  have c2' : call Try.prog Ms (d + 21) 15 [.string s] (h.new 35 [.slice none 0 0, .int .i64 0]) = _ := c2
  have o2 := o1.ext x2
  have k2 : PK none h h2 := PK.ext (e1.trans (x2.mono e1.size))
  have hcall : call Try.prog Ms (d + 22) 28 [.string s] h = evFn hk0 Try.prog (call Try.prog Ms (d + 21)) M28 (d + 21) Try.f28 [.string s] h := c28 (d + 21) _ _
  rw [hcall, e28]
  simp only [aNew]
  rw [c2', Option.bind_some]
  have t0 : aExt (.tuple (List.toArray [v, .int .i64 ((lexR s).2.1 : Int), .int .i64 ((lexR s).2.2 : Int)])) 0 = some v := rfl
  have t1 : aExt (.tuple (List.toArray [v, .int .i64 ((lexR s).2.1 : Int), .int .i64 ((lexR s).2.2 : Int)])) 1 = some (.int .i64 ((lexR s).2.1 : Int)) := rfl
  have t2 : aExt (.tuple (List.toArray [v, .int .i64 ((lexR s).2.1 : Int), .int .i64 ((lexR s).2.2 : Int)])) 2 = some (.int .i64 ((lexR s).2.2 : Int)) := rfl
  simp only [t0, t1, t2, Option.bind_some]
  rw [show asI .i64 (Value.int .i64 ((lexR s).2.1 : Int)) = some ((lexR s).2.1 : Int) from rfl, Option.bind_some, show asI .i64 (Value.int .i64 ((lexR s).2.2 : Int)) = some ((lexR s).2.2 : Int) from rfl, Option.bind_some]
  unfold parseR at hp
  by_cases hc : (lexR s).2.1 = 0
  · rw [if_neg (by simp [hc])] at hp
    have hc' : (((lexR s).2.1 : Int) != 0) = false := by rw [hc]; rfl
    rw [hc', cond_false, fill81 os.tok.cell, Option.bind_some, cells81 os.tok.cell, Option.bind_some]
    have e3 := Ext.new (Nat.le_refl h2.size) 81 [v, .int .i64 0, .int .i64 (s.size : Int), .int .i64 0, .slice none 0 0, .int .i64 0, .int .i64 0]
    have o3 := OwnR.new h2 81 [v, .int .i64 0, .int .i64 (s.size : Int), .int .i64 0, .slice none 0 0, .int .i64 0, .int .i64 0]
    have hc : PH ⟨h2.size, v, (lexR s).1, s.size⟩ (h2.new 81 [v, .int .i64 0, .int .i64 (s.size : Int), .int .i64 0, .slice none 0 0, .int .i64 0, .int .i64 0]) st0 none :=
      ⟨.slice none 0 0, o3, os.tok.pk (PK.ext e3 (rn := none)), .inl ⟨rfl, rfl, rfl⟩⟩
    have k3 : PK none h (h2.new 81 [v, .int .i64 0, .int .i64 (s.size : Int), .int .i64 0, .slice none 0 0, .int .i64 0, .int .i64 0]) := k2.trans (.inl rfl) (PK.ext e3)
    have o3' := o2.ext e3
    simp only [aNew, aNewS]
    generalize h2.new 81 [v, .int .i64 0, .int .i64 (s.size : Int), .int .i64 0, .slice none 0 0, .int .i64 0, .int .i64 0] = h3 at hc k3 o3' ⊢
    have e4 := Ext.new (Nat.le_refl h3.size) 3 (ints [])
    have l4 := LI.new h3 []
    rw [parse_indep 0 h2.size (.slice none 0 0) v] at hp
    have z := parse_loop (N := d + 21) (allSim _ (d + 21)).s63 (Nat.le_refl _) k3.1 (d + 21) (d + 21) [] _ _ st0 none (Nat.le_refl _) (by simpa using hD) (hc.ext e4) l4 (o3'.ext e4) (k3.trans (.inl rfl) (PK.ext e4)) (.inl rfl) hp
    exact z
  · rw [if_pos hc] at hp; cases hp
    have hc' : (((lexR s).2.1 : Int) != 0) = true := by simp [hc]
    rw [hc', cond_true]
    obtain ⟨h', a1, a2, a3, a4, a5⟩ := stE o2 (n := 2) (two35 (nv := .slice none 0 0) rfl 0) rfl rfl (by decide)
    refine ⟨h', .slice none 0 0, none, ?_, .inl ⟨rfl, rfl, rfl⟩, k2.st35 (Nat.le_refl _) a3 a4 a5, .inl rfl⟩
    have a6 : aLdN h' (ptr h.size 0) 2 = some (.agg (List.toArray [.slice none 0 0, .int .i64 0])) := by
      rw [a2.row.ldN (by show 0 + 2 ≤ 2; omega)]; rfl
    rw [a1, Option.bind_some, a6, Option.bind_some]
    rfl
end Go.Proofs.Ytadmoackacickaa
/- TreeSame. -/
set_option linter.unusedSimpArgs false
namespace Go.Proofs.Ytadmoackacickaa
open Go Go.AH

theorem KidH.len {h : AHeap} {v : Value} {ks : List Int} (x : KidH h v ks) : aLen v = some (.int .i64 (ks.length : Int)) := by
  rcases x with ⟨rfl, rfl⟩ | ⟨i, rt, rfl, _⟩ <;> rfl
theorem KidH.at {h : AHeap} {v : Value} {ks : List Int} (x : KidH h v ks) {j : Nat} (hj : j < ks.length) : ∃ p, aIdx v (.int .i64 (j : Int)) 1 = some p ∧ aLd1 h p = some (.int .i64 ks[j]) := by
  rcases x with ⟨rfl, rfl⟩ | ⟨i, rt, rfl, o⟩
  · simp at hj
  · exact ⟨ptr i j, by simp [aIdx, slc, hj], o.row.ld1 (by simp [ints, hj])⟩
theorem NodesH.len {h : AHeap} {v : Value} {ns : List Kn} {rn : Option Nat} (x : NodesH h v ns rn) : aLen v = some (.int .i64 (ns.length : Int)) := by
  rcases x with ⟨rfl, rfl, _⟩ | ⟨i, rt, cs, rfl, _⟩ <;> rfl
theorem eq67_loop {C : ACall} {N : Nat} {h : AHeap} {v w : Value} {ks ls : List Int} (x : KidH h v ks) (y : KidH h w ls) (hl : ks.length = ls.length) (hb : ks.length ≤ 1000000) : ∀ (n j m : Nat), ks.length - j = n → j ≤ ks.length → n < m →
    s67_0 hk0 C N m v w (ks.length : Int) (j : Int) h = some (.bool (ks.drop j == ls.drop j), h) := by
  intro n
  induction n with
  | zero =>
    intro j m hn hj hm
    obtain ⟨m, rfl⟩ : ∃ q, m = q + 1 := ⟨m - 1, by omega⟩
    have : ¬ ((j : Int) < (ks.length : Int)) := by omega
    rw [s67_0_eq, decide_eq_false this, cond_false, List.drop_eq_nil_of_le (by omega), List.drop_eq_nil_of_le (by omega)]
    rfl
  | succ n ih =>
    intro j m hn hj hm
    obtain ⟨m, rfl⟩ : ∃ q, m = q + 1 := ⟨m - 1, by omega⟩
    have hI : ((j : Int) < (ks.length : Int)) := by omega
    have h1 : j < ks.length := by omega
    have h2 : j < ls.length := by omega
    obtain ⟨p, a1, a2⟩ := x.at h1
    obtain ⟨q, b1, b2⟩ := y.at h2
    have w1 : IntKind.i64.wrap ((j : Int) + 1) = ((j + 1 : Nat) : Int) := by rw [wr (by omega) (by omega)]; omega
    rw [s67_0_eq, decide_eq_true hI, cond_true, List.drop_eq_getElem_cons h1, List.drop_eq_getElem_cons h2, List.cons_beq_cons]
    simp only [a1, a2, b1, b2, asI, if_true, Option.bind_some, w1]
    cases he : (ks[j] == ls[j]) with
    | true =>
      have : (ks[j] != ls[j]) = false := by simp [bne, he]
      rw [this, cond_false, Bool.true_and]
      exact ih (j + 1) m (by omega) (by omega) (by omega)
    | false =>
      have : (ks[j] != ls[j]) = true := by simp [bne, he]
      rw [this, cond_true, Bool.false_and]
theorem l67 {d : Nat} {h : AHeap} {v w : Value} {ks ls : List Int} (x : KidH h v ks) (y : KidH h w ls) (hb : ks.length ≤ 1000000) (hd : ks.length < d) : call Try.prog Ms (d + 1) 67 [v, w] h = some (.bool (ks == ls), h) := by
  rw [c67, e67, x.len, Option.bind_some, y.len]
  rw [show asI .i64 (Value.int .i64 (ks.length : Int)) = some (ks.length : Int) from rfl, Option.bind_some, Option.bind_some, show asI .i64 (Value.int .i64 (ls.length : Int)) = some (ls.length : Int) from rfl, Option.bind_some]
  by_cases hl : ks.length = ls.length
  · have : ((ks.length : Int) != (ls.length : Int)) = false := by rw [hl]; simp
    have z := eq67_loop (C := call Try.prog Ms d) (N := d) x y hl hb ks.length 0 d (by omega) (by omega) hd
    rw [List.drop_zero, List.drop_zero, show (((0 : Nat) : Int)) = 0 from rfl] at z
    rw [this, cond_false, Option.bind_some, show asI .i64 (Value.int .i64 (ks.length : Int)) = some (ks.length : Int) from rfl, Option.bind_some, z]
  · have : ((ks.length : Int) != (ls.length : Int)) = true := by rw [bne_iff_ne]; omega
    have e : (ks == ls) = false := by
      rw [beq_eq_false_iff_ne]; exact fun h => hl (by rw [h])
    rw [this, cond_true, e]
def knEq (a b : Kn) : Bool := a.k == b.k && (a.t.toList == b.t.toList && (a.i == b.i && a.ks == b.ks))
theorem l66 {d : Nat} {h : AHeap} {a b : Kn} {v w : Value} (x : KidH h v a.ks) (y : KidH h w b.ks) (hb : a.ks.length ≤ 1000000) (hd : a.ks.length < d) : ∃ h', call Try.prog Ms (d + 2) 66 [knVal a v, knVal b w] h = some (.bool (knEq a b), h') ∧ Ext h.size h h' := by
  have e1 := Ext.new (Nat.le_refl h.size) 73 (knCells a v)
  have r1 := RowE.new h 73 (knCells a v)
  have x1 := x.ext e1
  have y1 := y.ext e1
  rw [c66, e66, kn_cells x.cell a, Option.bind_some]
  simp only [aNew]
  generalize h.new 73 (knCells a v) = h1 at e1 r1 x1 y1 ⊢
  have e2 := Ext.new (Nat.le_refl h1.size) 73 (knCells b w)
  have r2 := RowE.new h1 73 (knCells b w)
  have r1' : RowE (h1.new 73 (knCells b w)) h.size 73 (knCells a v) := let ⟨o, p, q, r⟩ := r1; ⟨o, e2.at? (at?_obj p).2.1 p, q, r⟩
  have x2 := x1.ext e2
  have y2 := y1.ext e2
  rw [kn_cells y.cell b, Option.bind_some]
  generalize h1.new 73 (knCells b w) = h2 at e2 r1' r2 x2 y2 ⊢
  have E : Ext h.size h h2 := e1.trans (e2.mono e1.size)
  have u0 : aLd1 h2 (ptr h.size 0) = some (.int .i64 a.k) := r1'.row.ld1 rfl
  have u1 : aLd1 h2 (ptr h.size 1) = some (.string a.t) := r1'.row.ld1 rfl
  have u2 : aLd1 h2 (ptr h.size 2) = some (.int .i64 a.i) := r1'.row.ld1 rfl
  have u3 : aLd1 h2 (ptr h.size 3) = some v := r1'.row.ld1 rfl
  have v0 : aLd1 h2 (ptr h1.size 0) = some (.int .i64 b.k) := r2.row.ld1 rfl
  have v1 : aLd1 h2 (ptr h1.size 1) = some (.string b.t) := r2.row.ld1 rfl
  have v2 : aLd1 h2 (ptr h1.size 2) = some (.int .i64 b.i) := r2.row.ld1 rfl
  have v3 : aLd1 h2 (ptr h1.size 3) = some w := r2.row.ld1 rfl
  simp only [aOff_ptr, Nat.zero_add, Option.bind_some, u0, v0, asI, if_true]
  unfold knEq
  refine ⟨h2, ?_, E⟩
  cases (a.k == b.k) with
  | false => rw [cond_false, Bool.false_and]
  | true =>
  rw [cond_true, Bool.true_and]
  simp only [u1, v1, asS, Option.bind_some]
  cases (a.t.toList == b.t.toList) with
  | false => rw [cond_false, Bool.false_and]
  | true =>
  rw [cond_true, Bool.true_and]
  simp only [u2, v2, asS, if_true, Option.bind_some]
  cases (a.i == b.i) with
  | false => rw [cond_false, Bool.false_and]
  | true =>
  rw [cond_true, Bool.true_and]
  simp only [u3, v3, Option.bind_some]
  rw [l67 x2 y2 hb hd, Option.bind_some]
  rfl
theorem NodesH.at' {h : AHeap} {nv : Value} {ns : List Kn} {rn : Option Nat} (x : NodesH h nv ns rn) {j : Nat} (hj : j < ns.length) :
    ∃ p kv, aIdx nv (.int .i64 (j : Int)) 4 = some p ∧ aLdN h p 4 = some (knVal ns[j] kv) ∧ KidH h kv ns[j].ks :=
  x.at (e := (j : Int)) (by omega) (by simp [hj])
def nodesEq : List Kn → List Kn → Bool
  | [], [] => true
  | a :: l, b :: m => if knEq a b = true then nodesEq l m else false
  | _, _ => false
/-- A row of a function's own, in which a node is put. -/
theorem ownKn (h : AHeap) (n : Kn) {kv : Value} (k : KidH h kv n.ks) :
    ∃ h', aSt (h.new 73 [.int .i64 0, .string ⟨#[]⟩, .int .i64 0, .slice none 0 0]) (ptr h.size 0) (knVal n kv) 4 = some h' ∧ Ext h.size h h' ∧ RowE h' h.size 73 (knCells n kv) ∧ h'.size = h.size + 1 := by
  have o1 := Own.new (h := h) (b := h.size) (Nat.le_refl _) 73 [.int .i64 0, .string ⟨#[]⟩, .int .i64 0, .slice none 0 0]
  obtain ⟨h', a, b, e, s⟩ := Own.stN (n := 4) (v := knVal n kv) o1 (kn_cells k.cell n) rfl rfl
  exact ⟨h', a, (Ext.new (Nat.le_refl h.size) 73 [.int .i64 0, .string ⟨#[]⟩, .int .i64 0, .slice none 0 0]).trans b, Own.rowE e, s⟩
theorem callF (C : ACall) (g : Nat) (a b : Value) (h : AHeap) : aCallV C (.func (.func g) #[] #[]) [a, b] h = C g [a, b] h := by
  show C g (([] : List Value) ++ [a, b] ++ []) h = _
  rw [List.nil_append, List.append_nil]
theorem eq65_loop {d N : Nat} {v w : Value} {ns ms : List Kn} {r1 r2 : Option Nat} (hl : ns.length = ms.length) (hb : ns.length ≤ 1000000) (hk : ∀ n, n ∈ ns → n.ks.length ≤ 1000000 ∧ n.ks.length < d) : ∀ (n j m : Nat) (h : AHeap), ns.length - j = n → j ≤ ns.length → n < m → NodesH h v ns r1 → NodesH h w ms r2 →
    ∃ h', s65_0 hk0 (call Try.prog Ms (d + 2)) N m w (.func (.func 66) #[] #[]) v (ns.length : Int) (j : Int) h = some (.bool (nodesEq (ns.drop j) (ms.drop j)), h') ∧ Ext h.size h h' := by
  intro n
  induction n with
  | zero =>
    intro j m h hn hj hm x y
    obtain ⟨m, rfl⟩ : ∃ q, m = q + 1 := ⟨m - 1, by omega⟩
    have : ¬ ((j : Int) < (ns.length : Int)) := by omega
    refine ⟨h, ?_, Ext.refl _ _⟩
    rw [s65_0_eq, decide_eq_false this, cond_false, List.drop_eq_nil_of_le (by omega), List.drop_eq_nil_of_le (by omega)]
    rfl
  | succ n ih =>
    intro j m h hn hj hm x y
    obtain ⟨m, rfl⟩ : ∃ q, m = q + 1 := ⟨m - 1, by omega⟩
    have hI : ((j : Int) < (ns.length : Int)) := by omega
    have h1 : j < ns.length := by omega
    have h2 : j < ms.length := by omega
    obtain ⟨p, kv, a1, a2, a3⟩ := x.at' h1
    obtain ⟨g1, t1, x1, q1, s1⟩ := ownKn h ns[j] a3
    have y1 := y.ext x1
    obtain ⟨p', kw, b1, b2, b3⟩ := y1.at' h2
    obtain ⟨g2, t2, x2, q2, s2⟩ := ownKn g1 ms[j] b3
    have E2 : Ext h.size h g2 := x1.trans (x2.mono x1.size)
    have q1' : RowE g2 h.size 73 (knCells ns[j] kv) := let ⟨o, p, q, r⟩ := q1; ⟨o, x2.at? (at?_obj p).2.1 p, q, r⟩
    have w1 : IntKind.i64.wrap ((j : Int) + 1) = ((j + 1 : Nat) : Int) := by rw [wr (by omega) (by omega)]; omega
    obtain ⟨hk1, hk2⟩ := hk ns[j] (List.getElem_mem h1)
    obtain ⟨g3, c3, x3⟩ := l66 (d := d) (a3.ext E2) (b3.ext x2) hk1 hk2
    have L1 : aLdN g2 (ptr h.size 0) 4 = some (knVal ns[j] kv) := by rw [q1'.row.ldN (by show 0 + 4 ≤ 4; omega)]; rfl
    have L2 : aLdN g2 (ptr g1.size 0) 4 = some (knVal ms[j] kw) := by rw [q2.row.ldN (by show 0 + 4 ≤ 4; omega)]; rfl
    have c3' : aCallV (call Try.prog Ms (d + 2)) (.func (.func 66) #[] #[]) [knVal ns[j] kv, knVal ms[j] kw] g2 = some (.bool (knEq ns[j] ms[j]), g3) := by
      rw [callF, c3]
    have E3 : Ext h.size h g3 := E2.trans (x3.mono E2.size)
    rw [s65_0_eq, decide_eq_true hI, cond_true, List.drop_eq_getElem_cons h1, List.drop_eq_getElem_cons h2, nodesEq]
    simp only [a1, a2, t1, b1, b2, t2, L1, L2, Option.bind_some, aNew]
    rw [c3', Option.bind_some]
    simp only [asB, Option.bind_some]
    cases knEq ns[j] ms[j] with
    | false =>
      refine ⟨g3, ?_, E3⟩
      rw [Bool.not_false, cond_true, if_neg (by simp)]
    | true =>
      obtain ⟨g4, c4, x4⟩ := ih (j + 1) m g3 (by omega) (by omega) (by omega) (x.ext E3) (y.ext E3)
      refine ⟨g4, ?_, E3.trans (x4.mono E3.size)⟩
      rw [Bool.not_true, cond_false, if_pos rfl, w1]
      exact c4
theorem nodesEq_len : ∀ (a b : List Kn), a.length ≠ b.length → nodesEq a b = false
  | [], [], h => absurd rfl h
  | [], _ :: _, _ => rfl
  | _ :: _, [], _ => rfl
  | a :: l, b :: m, h => by
    rw [nodesEq]
    split
    · exact nodesEq_len l m (fun e => h (by simp [e]))
    · rfl
def treeEq (a b : PRes) : Bool := a.2.1 == b.2.1 && nodesEq a.1 b.1
theorem l29 {d : Nat} {h : AHeap} {v w : Value} {a b : PRes} {r1 r2 : Option Nat} (x : NodesH h v a.1 r1) (y : NodesH h w b.1 r2) (hb : a.1.length ≤ 1000000) (hd : a.1.length < d) (hk : ∀ n, n ∈ a.1 → n.ks.length ≤ 1000000 ∧ n.ks.length < d) :
    ∃ h', call Try.prog Ms (d + 4) 29 [.agg (List.toArray [v, .int .i64 a.2.1]), .agg (List.toArray [w, .int .i64 b.2.1])] h = some (.bool (treeEq a b), h') ∧ Ext h.size h h' := by
  have e1 := Ext.new (Nat.le_refl h.size) 35 [v, .int .i64 a.2.1]
  have r1 := RowE.new h 35 [v, .int .i64 a.2.1]
  have x1 := x.ext e1
  have y1 := y.ext e1
  rw [c29, e29, two35 x.cell, Option.bind_some]
  simp only [aNew]
  generalize h.new 35 [v, .int .i64 a.2.1] = h1 at e1 r1 x1 y1 ⊢
  have e2 := Ext.new (Nat.le_refl h1.size) 35 [w, .int .i64 b.2.1]
  have r2 := RowE.new h1 35 [w, .int .i64 b.2.1]
  have r1' : RowE (h1.new 35 [w, .int .i64 b.2.1]) h.size 35 [v, .int .i64 a.2.1] := let ⟨o, p, q, r⟩ := r1; ⟨o, e2.at? (at?_obj p).2.1 p, q, r⟩
  have x2 := x1.ext e2
  have y2 := y1.ext e2
  rw [two35 y.cell, Option.bind_some]
  generalize h1.new 35 [w, .int .i64 b.2.1] = h2 at e2 r1' r2 x2 y2 ⊢
  have E : Ext h.size h h2 := e1.trans (e2.mono e1.size)
  have u0 : aLd1 h2 (ptr h.size 0) = some v := r1'.row.ld1 rfl
  have u1 : aLd1 h2 (ptr h.size 1) = some (.int .i64 a.2.1) := r1'.row.ld1 rfl
  have v0 : aLd1 h2 (ptr h1.size 0) = some w := r2.row.ld1 rfl
  have v1 : aLd1 h2 (ptr h1.size 1) = some (.int .i64 b.2.1) := r2.row.ld1 rfl
  simp only [aOff_ptr, Nat.zero_add, Option.bind_some, u1, v1, asI, if_true]
  unfold treeEq
  cases (a.2.1 == b.2.1) with
  | false =>
    refine ⟨h2, ?_, E⟩
    rw [cond_false, Bool.false_and]
  | true =>
    rw [cond_true, Bool.true_and]
    simp only [u0, v0, Option.bind_some]
    have fin : ∃ h', call Try.prog Ms (d + 3) 65 [v, w, .func (.func 66) #[] #[]] h2 = some (.bool (nodesEq a.1 b.1), h') ∧ Ext h2.size h2 h' := by
      rw [c65, e65, x.len, Option.bind_some, y.len]
      rw [show asI .i64 (Value.int .i64 (a.1.length : Int)) = some (a.1.length : Int) from rfl, Option.bind_some, Option.bind_some, show asI .i64 (Value.int .i64 (b.1.length : Int)) = some (b.1.length : Int) from rfl, Option.bind_some]
      by_cases hl : a.1.length = b.1.length
      · have : ((a.1.length : Int) != (b.1.length : Int)) = false := by rw [hl]; simp
        obtain ⟨h', z, z'⟩ := eq65_loop (d := d) (N := d + 2) hl hb hk a.1.length 0 (d + 2) h2 (by omega) (by omega) (by omega) x2 y2
        rw [List.drop_zero, List.drop_zero, show (((0 : Nat) : Int)) = 0 from rfl] at z
        refine ⟨h', ?_, z'⟩
        rw [this, cond_false, Option.bind_some, show asI .i64 (Value.int .i64 (a.1.length : Int)) = some (a.1.length : Int) from rfl, Option.bind_some, z]
      · have : ((a.1.length : Int) != (b.1.length : Int)) = true := by rw [bne_iff_ne]; omega
        refine ⟨h2, ?_, Ext.refl _ _⟩
        rw [this, cond_true, nodesEq_len _ _ hl]
    obtain ⟨h', z, z'⟩ := fin
    refine ⟨h', ?_, E.trans (z'.mono E.size)⟩
    rw [z, Option.bind_some]
    rfl
end Go.Proofs.Ytadmoackacickaa
