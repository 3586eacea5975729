import Derived.Test.YtajpnemfppaafaaGreatXAR
import Derived.Test.YtajpnemfppaafaaGreatXAQ
import Derived.Test.YtajpnemfppaafaaGreatXAI
import Derived.Test.YtajpnemfppaafaaGreatXAG
set_option linter.unusedSimpArgs false
set_option linter.unusedVariables false
/- The two parsers are alike: all of them. -/
namespace Go.Proofs.YtajpnemfppaafaaGreat
open Go Go.AH
structure HN (c : PC) (n : Int) (w F : Nat) : Prop where
 lev : ∀ D D', F ≤ D → F ≤ D' → D' ≤ 2000000 → ∀ st, LvS c n st → Out c w 2 st (sp c D 1761 st) (un (parse c D' 158) st)
 trn : ∀ D D', F ≤ D → F ≤ D' → D' ≤ 2000000 → ∀ st, LvS c n st → Out c w 2 st (sp c D 197 st) (un (parse c D' 241) st)
 stm : ∀ D D', F ≤ D → F ≤ D' → D' ≤ 2000000 → ∀ st, LvS c n st → Out c w 1 st (sp c D 82 st) (un (parse c D' 63) st)
section
variable {c : PC}
theorem sp_dead_137 {D : Nat} (h : 31 ≤ D) {st : PSt} (d : st.code ≠ 0) : ∃ v, sp c D 137 st = some (v, st) := by
 obtain ⟨D, rfl⟩ : ∃ d, D = d + 1 := ⟨D - 1, by omega⟩
 exact ⟨-1, by rw [sp_137 (by omega)]; unfold exprS; rw [openS_d d]; rfl⟩
theorem sp_dead_138 {D : Nat} (h : 31 ≤ D) {st : PSt} (d : st.code ≠ 0) : ∃ v, sp c D 138 st = some (v, st) := by
 obtain ⟨D, rfl⟩ : ∃ d, D = d + 1 := ⟨D - 1, by omega⟩
 exact ⟨-1, by rw [sp_138 (by omega)]; unfold blockS; rw [openS_d d]; rfl⟩
theorem sp_dead_239 {D : Nat} (h : 40 ≤ D) {st : PSt} (d : st.code ≠ 0) : ∃ v, sp c D 239 st = some (v, st) := by
 obtain ⟨D, rfl⟩ : ∃ d, D = d + 1 := ⟨D - 1, by omega⟩
 obtain ⟨v, hv⟩ := sp_dead_137 (c := c) (D := D) (by omega) d
 exact ⟨-1, by rw [sp_239 (by omega)]; unfold fieldS; rw [isP_d d, if_neg (by simp), if_neg (fun z => by rw [pk_dead d] at z; exact absurd z.1 (by decide)), if_neg (fun z => by rw [pk_dead d] at z; exact absurd z.1 (by decide)), hv, oBs, nodeS_d d]⟩
theorem hn_step {n : Int} {w F : Nat} (hx : Cx c) (hw : 9000 ≤ w) (hw2 : w ≤ 80000) (h0 : 0 ≤ n) (h1 : n ≤ 30) (hF : 3200 ≤ F) (H : n < 30 → HN c (n + 1) w F) : HN c n (w + 15) (F + 40) := by
 have E : ∀ k D D', F + 1 ≤ D → F + 1 ≤ D' → D' ≤ 2000000 → Pa c (w + k) n 2 (sp c D 137) (un (parse c D' 110)) := fun k D D' a b e => by
  refine ⟨fun st l => ?_, fun st d => sp_dead_137 (by omega) d⟩
  obtain ⟨D, rfl⟩ : ∃ d, D = d + 1 := ⟨D - 1, by omega⟩
  obtain ⟨D', rfl⟩ : ∃ d, D' = d + 1 := ⟨D' - 1, by omega⟩
  rw [sp_137 (by omega), un_eq (parse_110 c (by omega) _), un_ret]
  exact (pair_expr hx hw h0 h1 (parse_gone D' (by omega) (by omega)).1 (fun hn st l => (H hn).lev D D' (by omega) (by omega) (by omega) st l) l).mono (by omega)
 have EW : ∀ D', 100 ≤ D' → D' ≤ 2000000 → Wd c n (un (parse c D' 110)) := fun D' b e st d hn => by
  rw [whole_gone (by omega) e (.inl d) (by omega) (by omega), failP_d d]
 have B : ∀ k D D', F + 1 ≤ D → F + 1 ≤ D' → D' ≤ 2000000 → Pa c (w + 1 + k) n 1 (sp c D 138) (un (parse c D' 111)) := fun k D D' a b e => by
  refine ⟨fun st l => ?_, fun st d => sp_dead_138 (by omega) d⟩
  obtain ⟨D, rfl⟩ : ∃ d, D = d + 1 := ⟨D - 1, by omega⟩
  obtain ⟨D', rfl⟩ : ∃ d, D' = d + 1 := ⟨D' - 1, by omega⟩
  rw [sp_138 (by omega), un_eq (parse_111 c (by omega) _), un_ret]
  exact (pair_block hx hw (by omega) h0 h1 (by omega) (by omega) (fun hn st l => (H hn).stm D D' (by omega) (by omega) (by omega) st l) l).mono (by omega)
 have BW : ∀ D', 100 ≤ D' → D' ≤ 2000000 → Bd c n (un (parse c D' 111)) := fun D' b e st d hn hl => block_dead (by omega) e d (by omega) (by omega) hl
 have Fi : ∀ D D', F + 2 ≤ D → F + 2 ≤ D' → D' ≤ 2000000 → Pa c (w + 3) n 1 (sp c D 239) (un (parse c D' 247)) := fun D D' a b e => by
  refine ⟨fun st l => ?_, fun st d => sp_dead_239 (by omega) d⟩
  obtain ⟨D, rfl⟩ : ∃ d, D = d + 1 := ⟨D - 1, by omega⟩
  obtain ⟨D', rfl⟩ : ∃ d, D' = d + 1 := ⟨D' - 1, by omega⟩
  rw [sp_239 (by omega), un_eq (parse_247 c (by omega) _), un_ret]
  exact pair_field hx hw (by omega) (E 0 D D' (by omega) (by omega) (by omega)) (EW D' (by omega) (by omega)) l
 have T : ∀ D D', F + 3 ≤ D → F + 3 ≤ D' → D' ≤ 2000000 → ∀ st, LvS c n st → isP c st ⟨#[123]⟩ = true → Out c (w + 5) 2 st (sp c D 234 (stp st)) (un (parse c D' 246) st) := fun D D' a b e st l hi => by
  obtain ⟨D, rfl⟩ : ∃ d, D = d + 1 := ⟨D - 1, by omega⟩
  obtain ⟨D', rfl⟩ : ∃ d, D' = d + 1 := ⟨D' - 1, by omega⟩
  rw [sp_234 (by omega), un_eq (parse_246 c (by omega) _), un_ret]
  exact (pair_table (w := w + 3) hx (by omega) (by omega) (by omega) (by omega) (Fi D D' (by omega) (by omega) (by omega)) l hi).mono (by omega)
 have Fn : ∀ D D', F + 3 ≤ D → F + 3 ≤ D' → D' ≤ 2000000 → ∀ st, LvS c n st → Out c (w + 5) 2 st (sp c D 233 st) (un (parse c D' 245) st) := fun D D' a b e st l => by
  obtain ⟨D, rfl⟩ : ∃ d, D = d + 1 := ⟨D - 1, by omega⟩
  obtain ⟨D', rfl⟩ : ∃ d, D' = d + 1 := ⟨D' - 1, by omega⟩
  rw [sp_233 (by omega), un_eq (parse_245 c (by omega) _), un_ret]
  exact pair_fn hx hw (by omega) (by omega) (by omega) (B 0 D D' (by omega) (by omega) (by omega)) ((BW D' (by omega) (by omega)).g (by omega)) l
 have Pm : ∀ D D', F + 4 ≤ D → F + 4 ≤ D' → D' ≤ 2000000 → ∀ st, LvS c n st → Out c (w + 6) 2 st (sp c D 222 st) (un (parse c D' 243) st) := fun D D' a b e st l => by
  obtain ⟨D, rfl⟩ : ∃ d, D = d + 1 := ⟨D - 1, by omega⟩
  obtain ⟨D', rfl⟩ : ∃ d, D' = d + 1 := ⟨D' - 1, by omega⟩
  rw [sp_222 (by omega), un_eq (parse_243 c (by omega) _), un_ret]
  exact pair_primary (w := w + 5) hx (by omega) (by omega) (E 5 D D' (by omega) (by omega) (by omega)) (EW D' (by omega) (by omega)) (Fn D D' (by omega) (by omega) (by omega)) (T D D' (by omega) (by omega) (by omega)) l
 have Sf : ∀ D D', F + 6 ≤ D → F + 6 ≤ D' → D' ≤ 2000000 → ∀ st, LvS c n st → Out c (w + 8) 2 st (sp c D 204 st) (un (parse c D' 242) st) := fun D D' a b e st l => by
  obtain ⟨D, rfl⟩ : ∃ d, D = d + 1 := ⟨D - 1, by omega⟩
  obtain ⟨D', rfl⟩ : ∃ d, D' = d + 1 + 1 := ⟨D' - 2, by omega⟩
  rw [sp_204 (by omega), un_eq (parse_242 c (by omega) _), un_ret]
  have e427 : parse c (D' + 1) 244 = argsP c (un (parse c D' 110)) D' := by funext q; exact parse_244 c (by omega) q
  rw [e427]
  exact (pair_suffix (w := w + 6) hx (by omega) (by omega) (by omega) (by omega) (by omega) (Pm D (D' + 1) (by omega) (by omega) (by omega)) (E 6 D (D' + 1) (by omega) (by omega) (by omega)).live (E 6 D D' (by omega) (by omega) (by omega)).live (fun st d => sp_dead_137 (by omega) d) l).mono (by omega)
 have Tn : ∀ D D', F + 7 ≤ D → F + 7 ≤ D' → D' ≤ 2000000 → ∀ st, LvS c n st → Out c (w + 9) 2 st (sp c D 197 st) (un (parse c D' 241) st) := fun D D' a b e st l => by
  obtain ⟨D, rfl⟩ : ∃ d, D = d + 1 := ⟨D - 1, by omega⟩
  obtain ⟨D', rfl⟩ : ∃ d, D' = d + 1 := ⟨D' - 1, by omega⟩
  rw [sp_197 (by omega), un_eq (parse_241 c (by omega) _), un_ret]
  exact pair_turn (w := w + 8) hx (by omega) (by omega) h0 h1 (parse_gone D' (by omega) (by omega)).2.2.2.2.2.2.1 (fun hn st l => ((H hn).trn D D' (by omega) (by omega) (by omega) st l).mono (by omega)) (Sf D D' (by omega) (by omega) (by omega)) l
 have L6 : ∀ D D', F + 10 ≤ D → F + 10 ≤ D' → D' ≤ 2000000 → ∀ st, LvS c n st → Out c (w + 10) 2 st (sp c D 1766 st) (un (parse c D' 238) st) := fun D D' a b e st l => by
  obtain ⟨D, rfl⟩ : ∃ d, D = d + 1 + 1 := ⟨D - 2, by omega⟩
  obtain ⟨D', rfl⟩ : ∃ d, D' = d + 1 + 1 := ⟨D' - 2, by omega⟩
  rw [sp_1766 (by omega), un_eq (parse_238 c (by omega) _), un_eq (parse_2312 c (by omega) _), un_ret]
  refine pair_row (w := w + 9) hx (by omega) (by decide) op6 (by omega) (by omega) (fun q lq => ?_) l
  rw [sp_1767 (by omega)]
  exact Tn D D' (by omega) (by omega) (by omega) q lq
 have L5 : ∀ D D', F + 13 ≤ D → F + 13 ≤ D' → D' ≤ 2000000 → ∀ st, LvS c n st → Out c (w + 11) 2 st (sp c D 1765 st) (un (parse c D' 232) st) := fun D D' a b e st l => by
  obtain ⟨D, rfl⟩ : ∃ d, D = d + 1 := ⟨D - 1, by omega⟩
  obtain ⟨D', rfl⟩ : ∃ d, D' = d + 1 + 1 := ⟨D' - 2, by omega⟩
  rw [sp_1765 (by omega), un_eq (parse_232 c (by omega) _), un_eq (parse_2311 c (by omega) _), un_ret]
  exact pair_row (w := w + 10) hx (by omega) (by decide) op5 (by omega) (by omega) (L6 D D' (by omega) (by omega) (by omega)) l
 have L4 : ∀ D D', F + 16 ≤ D → F + 16 ≤ D' → D' ≤ 2000000 → ∀ st, LvS c n st → Out c (w + 12) 2 st (sp c D 1764 st) (un (parse c D' 220) st) := fun D D' a b e st l => by
  obtain ⟨D, rfl⟩ : ∃ d, D = d + 1 := ⟨D - 1, by omega⟩
  obtain ⟨D', rfl⟩ : ∃ d, D' = d + 1 + 1 := ⟨D' - 2, by omega⟩
  rw [sp_1764 (by omega), un_eq (parse_220 c (by omega) _), un_eq (parse_2310 c (by omega) _), un_ret]
  exact pair_row (w := w + 11) hx (by omega) (by decide) op4 (by omega) (by omega) (L5 D D' (by omega) (by omega) (by omega)) l
 have L3 : ∀ D D', F + 18 ≤ D → F + 18 ≤ D' → D' ≤ 2000000 → ∀ st, LvS c n st → Out c (w + 13) 2 st (sp c D 1763 st) (un (parse c D' 203) st) := fun D D' a b e st l => by
  obtain ⟨D, rfl⟩ : ∃ d, D = d + 1 := ⟨D - 1, by omega⟩
  obtain ⟨D', rfl⟩ : ∃ d, D' = d + 1 := ⟨D' - 1, by omega⟩
  rw [sp_1763 (by omega), un_eq (parse_203 c (by omega) _), un_ret]
  exact pair_cmp (w := w + 12) hx (by omega) op3 (by omega) (L4 D D' (by omega) (by omega) (by omega)) l
 have L2 : ∀ D D', F + 20 ≤ D → F + 20 ≤ D' → D' ≤ 2000000 → ∀ st, LvS c n st → Out c (w + 14) 2 st (sp c D 1762 st) (un (parse c D' 188) st) := fun D D' a b e st l => by
  obtain ⟨D, rfl⟩ : ∃ d, D = d + 1 := ⟨D - 1, by omega⟩
  obtain ⟨D', rfl⟩ : ∃ d, D' = d + 1 := ⟨D' - 1, by omega⟩
  rw [sp_1762 (by omega), un_eq (parse_188 c (by omega) _), un_ret]
  exact pair_bin (w := w + 13) hx (by omega) (by decide) (by decide) (by decide) kind2 (by omega) (by omega) (L3 D D' (by omega) (by omega) (by omega)) l
 have L1 : ∀ D D', F + 22 ≤ D → F + 22 ≤ D' → D' ≤ 2000000 → ∀ st, LvS c n st → Out c (w + 15) 2 st (sp c D 1761 st) (un (parse c D' 158) st) := fun D D' a b e st l => by
  obtain ⟨D, rfl⟩ : ∃ d, D = d + 1 := ⟨D - 1, by omega⟩
  obtain ⟨D', rfl⟩ : ∃ d, D' = d + 1 := ⟨D' - 1, by omega⟩
  rw [sp_1761 (by omega), un_eq (parse_158 c (by omega) _), un_ret]
  exact pair_bin (w := w + 14) hx (by omega) (by decide) (by decide) (by decide) kind1 (by omega) (by omega) (L2 D D' (by omega) (by omega) (by omega)) l
 have As : ∀ D D', F + 3 ≤ D → F + 3 ≤ D' → D' ≤ 2000000 → ∀ st, LvS c n st → Out c (w + 3) 1 st (sp c D 139 st) (un (parse c D' 112) st) := fun D D' a b e st l => by
  obtain ⟨D, rfl⟩ : ∃ d, D = d + 1 := ⟨D - 1, by omega⟩
  obtain ⟨D', rfl⟩ : ∃ d, D' = d + 1 := ⟨D' - 1, by omega⟩
  rw [sp_139 (by omega), un_eq (parse_112 c (by omega) _), un_ret]
  exact pair_assign hx hw (by omega) (E 0 D D' (by omega) (by omega) (by omega)) (EW D' (by omega) (by omega)) l
 refine ⟨fun D D' a b e st l => L1 D D' (by omega) (by omega) e st l, fun D D' a b e st l => (Tn D D' (by omega) (by omega) e st l).mono (by omega), fun D D' a b e st l => ?_⟩
 obtain ⟨D, rfl⟩ : ∃ d, D = d + 1 := ⟨D - 1, by omega⟩
 obtain ⟨D', rfl⟩ : ∃ d, D' = d + 1 := ⟨D' - 1, by omega⟩
 rw [sp_82 (by omega), un_eq (parse_63 c (by omega) _), un_ret]
 exact (pair_stmt (w := w + 3) hx (by omega) (by omega) (E 3 D D' (by omega) (by omega) (by omega)) (EW D' (by omega) (by omega)) (B 2 D D' (by omega) (by omega) (by omega)) (BW D' (by omega) (by omega)) (As D D' (by omega) (by omega) (by omega)) l).mono (by omega)
theorem hn_all (hx : Cx c) : ∀ b : Nat, b ≤ 30 → HN c (30 - b) (9015 + 15 * b) (3240 + 40 * b) := by
 intro b
 induction b with
 | zero => intro _; exact hn_step (w := 9000) (F := 3200) hx (by omega) (by omega) (by omega) (by omega) (by omega) (fun h => by omega)
 | succ b ih =>
  intro hb
  have := ih (by omega)
  have e : (30 : Int) - ((b + 1 : Nat) : Int) + 1 = 30 - (b : Int) := by omega
  exact hn_step (w := 9015 + 15 * b) (F := 3240 + 40 * b) hx (by omega) (by omega) (by omega) (by omega) (by omega) (fun _ => by rw [e]; exact this)
theorem top_pair {stm1 stm2 : PI} {w : Nat} (hx : Cx c) (hw : 9000 ≤ w) (hw2 : w ≤ 100000) (hs : ∀ st, LvS c 0 st → Out c w 1 st (stm1 st) (stm2 st)) :
  ∀ (k : Nat) (ks : List Int) (s : PSt) (m1 m2 : Nat), c.toks.length - s.at' ≤ k → k < m1 → k < m2 → LvS c 0 s → ks.length ≤ s.at' →
  ∃ r, ((topS c stm1 m1 ks s).bind fun l => finS l.1 l.2) = some r ∧ ((topLoop c stm2 m2 ks s).bind fun l => finP l.1 l.2) = some r ∧ r.1.length ≤ 9001 := by
 intro k
 induction k with
 | zero =>
  intro ks s m1 m2 hk h1 h2 ls hks
  obtain ⟨m1, rfl⟩ : ∃ q, m1 = q + 1 := ⟨m1 - 1, by omega⟩
  obtain ⟨m2, rfl⟩ : ∃ q, m2 = q + 1 := ⟨m2 - 1, by omega⟩
  have sz := ls.sz hx
  rw [topS, if_neg (fun z => by omega), topLoop, if_neg (fun z => by omega), oBs, oBs]
  dsimp only [finS, finP]
  rw [nodeS_ok ls.1 (by omega), if_neg (by simp [ls.1]), nodeP_ok (by omega), oBs]
  dsimp only
  rw [if_neg (by show ¬ s.code ≠ 0; simp [ls.1])]
  exact ⟨_, rfl, rfl, by show (s.nodes ++ [_]).length ≤ 9001; simp; omega⟩
 | succ k ih =>
  intro ks s m1 m2 hk h1 h2 ls hks
  obtain ⟨m1, rfl⟩ : ∃ q, m1 = q + 1 := ⟨m1 - 1, by omega⟩
  obtain ⟨m2, rfl⟩ : ∃ q, m2 = q + 1 := ⟨m2 - 1, by omega⟩
  have sz := ls.sz hx
  rw [topS, topLoop]
  by_cases hl : s.at' < c.toks.length
  ·rw [if_pos ⟨ls.1, hl⟩, if_pos ⟨hl, ls.1⟩]
   rcases hs s ls with ⟨v, q, e1, e2, p⟩ | ⟨v, q, v2, q2, e1, e2, d⟩
   ·rw [e1, e2, oBs, oBs]
    dsimp only
    rw [if_neg (by omega)]
    have lq := p.lvs ls
    exact ih (ks ++ [v]) q m1 m2 (by have := p.2.2.1; omega) (by omega) (by omega) lq (by have := p.2.2.1; simp; omega)
   ·rw [e1, e2, oBs, oBs]
    dsimp only
    rw [if_neg (by omega)]
    obtain ⟨m1, rfl⟩ : ∃ q, m1 = q + 1 := ⟨m1 - 1, by omega⟩
    obtain ⟨m2, rfl⟩ : ∃ q, m2 = q + 1 := ⟨m2 - 1, by omega⟩
    rw [topS, if_neg (fun z => d.1 z.1), topLoop, if_neg (fun z => d.d2 z.2), oBs, oBs]
    dsimp only [finS, finP]
    rw [nodeS_d d.1, oBs, if_pos d.d2]
    dsimp only
    rw [if_pos d.1, d.2.2.2.1, d.2.2.2.2.1]
    exact ⟨_, rfl, rfl, by simp⟩
  ·rw [if_neg (fun z => hl z.2), if_neg (fun z => hl z.1), oBs, oBs]
   dsimp only [finS, finP]
   rw [nodeS_ok ls.1 (by omega), if_neg (by simp [ls.1]), nodeP_ok (by omega), oBs]
   dsimp only
   rw [if_neg (by show ¬ s.code ≠ 0; simp [ls.1])]
   exact ⟨_, rfl, rfl, by show (s.nodes ++ [_]).length ≤ 9001; simp; omega⟩
end
theorem gtok_k {t : Tok} (g : GTok t) : t.k ≠ 0 := by
 cases g with
 | word => show (2 : Int) ≠ 0; decide
 | name => show (1 : Int) ≠ 0; decide
 | num => show (3 : Int) ≠ 0; decide
 | text => show (4 : Int) ≠ 0; decide
 | mark => show (5 : Int) ≠ 0; decide
theorem lex_len (s : ByteArray) : ∀ (f i : Nat) (acc : List Tok), i ≤ s.size → acc.length ≤ i → (lexGo s f i acc).1.length ≤ s.size := by
 intro f
 induction f with
 | zero => intro i acc a b; show acc.length ≤ _; omega
 | succ f ih =>
  intro i acc a b
  unfold lexGo
  by_cases h1 : s.size ≤ i
  ·rw [if_pos h1]; show acc.length ≤ _; omega
  rw [if_neg h1]
  by_cases h2 : bt s i = 9 ∨ bt s i = 10 ∨ bt s i = 32
  ·rw [if_pos h2]; exact ih _ _ (by omega) (by omega)
  rw [if_neg h2]
  by_cases h3 : bt s i = 45 ∧ i + 1 < s.size ∧ bt s (i + 1) = 45
  ·rw [if_pos h3]
   have := endOf_bd (p := fun b => b != 10) (s := s) _ i rfl (by omega)
   exact ih _ _ (by omega) (by omega)
  rw [if_neg h3]
  by_cases h4 : (tokR s i).2.1 ≠ 0
  ·rw [if_pos h4]; exact Nat.zero_le _
  rw [if_neg h4]
  have bd := tokR_bd (s := s) (i := i) (by omega) (by omega)
  exact ih _ _ (by omega) (by simp; omega)
theorem lexR_len (s : ByteArray) : (lexR s).1.length ≤ 3000 := by
 unfold lexR
 by_cases h : s.size > 3000
 ·rw [if_pos h]; exact Nat.zero_le _
 ·rw [if_neg h]; have := lex_len s (s.size + 1) 0 [] (by omega) (by simp); omega
theorem parse_same (s : ByteArray) {D D' : Nat} (h1 : 4500 ≤ D) (h2 : 4500 ≤ D') (h3 : D' ≤ 2000000) : ∃ r, sparseR D s = some r ∧ parseR D' s = some r ∧ r.1.length ≤ 9001 := by
 unfold sparseR parseR
 by_cases hc : (lexR s).2.1 ≠ 0
 ·rw [if_pos hc, if_pos hc]; exact ⟨_, rfl, rfl, Nat.zero_le _⟩
 ·rw [if_neg hc, if_neg hc]
  have hx : Cx ⟨0, .slice none 0 0, (lexR s).1, s.size⟩ := ⟨lexR_len s, fun t ht => gtok_k ((lexR_inv s).1 t ht)⟩
  have H := hn_all hx 30 (by omega)
  have e : (30 : Int) - ((30 : Nat) : Int) = 0 := by omega
  rw [e] at H
  unfold sparseC parseC
  exact top_pair hx (by omega) (by omega) (H.stm D D' (by omega) (by omega) h3) (lexR s).1.length [] st0 D D' (by show (lexR s).1.length - 0 ≤ _; omega) (by have := hx.1; show (lexR s).1.length < _; have h : (lexR s).1.length ≤ 3000 := hx.1; omega) (by have h : (lexR s).1.length ≤ 3000 := hx.1; omega) ⟨rfl, rfl, Nat.zero_le _, Nat.zero_le _⟩ (Nat.zero_le _)
structure Std (t : ByteArray) (q : Nat) (s : ByteArray) : Prop where
 le : q + s.size ≤ t.size
 eq : ∀ j, j < s.size → bt t (q + j) = bt s j
 nl : q + s.size = t.size ∨ bt t (q + s.size) = 10
section
variable {s t : ByteArray} {q : Nat} (x : Std t q s)
include x
theorem Std.endOf {p : Int → Bool} (hp : p 10 = false) {i : Nat} (hi : i ≤ s.size) : YtajpnemfppaafaaGreat.endOf p t (q + i) = q + YtajpnemfppaafaaGreat.endOf p s i := by
 have bd := endOf_bd (p := p) (s := s) _ i rfl hi
 obtain ⟨a, b⟩ := endOf_all (p := p) (s := s) _ i rfl hi
 have := x.le
 refine endOf_is _ _ _ rfl (by omega) (by omega) (fun j h1 h2 => ?_) (fun h => ?_)
 ·have e := x.eq (j - q) (by omega)
  rw [show q + (j - q) = j by omega] at e
  rw [e]; exact a _ (by omega) (by omega)
 ·by_cases he : YtajpnemfppaafaaGreat.endOf p s i < s.size
  ·rw [x.eq _ he] at h; exact b ⟨he, h.2⟩
  ·have he' : YtajpnemfppaafaaGreat.endOf p s i = s.size := by omega
   rw [he'] at h
   rcases x.nl with n | n
   ·omega
   ·rw [n, hp] at h; cases h.2
theorem Std.ex {i e : Nat} (hi : i ≤ e) (he : e ≤ s.size) : t.extract (q + i) (q + e) = s.extract i e := by
 have := x.le
 apply ba_ext
 ·rw [exSize (by omega), exSize he]; omega
 ·intro j hj
  rw [exSize (by omega)] at hj
  rw [bt_ext (by omega) (by omega), bt_ext (by omega) he, Nat.add_assoc, x.eq _ (by omega)]
theorem Std.hit {i : Nat} (hi : i < s.size) {m : ByteArray} (hm : m ∈ marksL) : hitM t (q + i) m = hitM s i m := by
 have := x.le
 have m10 : ∀ m, m ∈ marksL → ∀ j, j < m.size → bt m j ≠ 10 := by decide +kernel
 have hz := mark_sz m hm
 rw [Bool.eq_iff_iff, hit_iff, hit_iff]
 constructor
 ·intro a
  have h1 := a.1
  have hle : i + m.size ≤ s.size := by
   apply Decidable.byContradiction
   intro hn
   have e : i + 1 = s.size := by omega
   have e2 := a.2 1 (by omega)
   rw [Nat.add_assoc, e] at e2
   rcases x.nl with n | n
   ·omega
   ·rw [n] at e2; exact m10 m hm 1 (by omega) e2.symm
  exact ⟨hle, fun j hj => by rw [← x.eq _ (by omega), ← Nat.add_assoc]; exact a.2 j hj⟩
 ·intro a
  have h1 := a.1
  exact ⟨by omega, fun j hj => by rw [Nat.add_assoc, x.eq _ (by omega)]; exact a.2 j hj⟩
theorem Std.mark {i : Nat} (hi : i < s.size) : markOf t (q + i) = markOf s i := by
 unfold markOf
 have key : ∀ m, m ∈ marksL → hitM t (q + i) m = hitM s i m := fun m hm => x.hit hi hm
 generalize marksL = L at key
 induction L with
 | nil => rfl
 | cons a L ih =>
  rw [List.find?_cons, List.find?_cons, key a (by simp)]
  split
  ·rfl
  ·exact ih (fun m' h => key m' (by simp [h]))
theorem Std.num {i : Nat} (hi : i < s.size) (hd : isDig (bt s i) = true) : numBad t (q + i) = numBad s i ∧ numTok t (q + i) = { numTok s i with at' := ((q + i : Nat) : Int) } := by
 have st := endOf_step hi hd
 have bd := endOf_bd (p := isDig) (s := s) _ (i + 1) rfl (by omega)
 have e := x.endOf (p := isDig) (by decide) (show i ≤ s.size by omega)
 have := x.le
 constructor
 ·unfold numBad
  simp only [e, x.eq i hi, show q + YtajpnemfppaafaaGreat.endOf isDig s i - (q + i) = YtajpnemfppaafaaGreat.endOf isDig s i - i by omega]
  congr 1
  by_cases h : YtajpnemfppaafaaGreat.endOf isDig s i < s.size
  ·rw [x.eq _ h, decide_eq_true h, decide_eq_true (show q + YtajpnemfppaafaaGreat.endOf isDig s i < t.size by omega)]
  ·have h' : YtajpnemfppaafaaGreat.endOf isDig s i = s.size := by omega
   rw [h', decide_eq_false (show ¬ s.size < s.size by omega)]
   rcases x.nl with n | n
   ·rw [decide_eq_false (show ¬ q + s.size < t.size by omega)]; rfl
   ·rw [n, show isLet 10 = false from by decide, Bool.and_false]; rfl
 ·unfold numTok
  rw [e, x.ex (by omega) (by omega), show q + YtajpnemfppaafaaGreat.endOf isDig s i - (q + i) = YtajpnemfppaafaaGreat.endOf isDig s i - i by omega]
  rw [numGo_eq _ (q + i) i 0 (fun k hk => by rw [Nat.add_assoc]; exact x.eq _ (by omega))]
theorem Std.tok {i : Nat} (hi : i < s.size) (h0 : (tokR s i).2.1 = 0) : tokR t (q + i) = ({ (tokR s i).1 with at' := ((q + i : Nat) : Int) }, 0, q + (tokR s i).2.2) := by
 have := x.le
 unfold tokR at h0 ⊢
 rw [x.eq i hi]
 by_cases hL : isLet (bt s i) = true
 ·have st := endOf_step hi hL
  have bd := endOf_bd (p := isLet) (s := s) _ (i + 1) rfl (by omega)
  have e := x.endOf (p := isLet) (by decide) (show i ≤ s.size by omega)
  rw [if_pos hL] at h0 ⊢
  rw [if_pos hL, e, x.ex (by omega) (by omega)]
  by_cases hW : isWd (s.extract i (YtajpnemfppaafaaGreat.endOf isLet s i)) = true
  ·rw [if_pos hW, if_pos hW]
  ·rw [if_neg hW] at h0 ⊢
   rw [if_neg hW]
   by_cases hn : YtajpnemfppaafaaGreat.endOf isLet s i - i > 12
   ·rw [if_pos hn] at h0; cases h0
   ·rw [if_neg hn, if_neg (show ¬ q + YtajpnemfppaafaaGreat.endOf isLet s i - (q + i) > 12 by omega)]
 ·rw [if_neg hL] at h0 ⊢
  rw [if_neg hL]
  by_cases hD : isDig (bt s i) = true
  ·rw [if_pos hD] at h0 ⊢
   rw [if_pos hD]
   obtain ⟨n1, n2⟩ := x.num hi hD
   rw [n1, n2, x.endOf (p := isDig) (by decide) (show i ≤ s.size by omega)]
   by_cases hN : numBad s i = true
   ·rw [if_pos hN] at h0; cases h0
   ·rw [if_neg hN, if_neg hN]
  ·rw [if_neg hD] at h0 ⊢
   rw [if_neg hD]
   by_cases h34 : bt s i = 34
   ·rw [if_pos h34] at h0 ⊢
    rw [if_pos h34]
    have bd := endOf_bd (p := isPln) (s := s) _ (i + 1) rfl (by omega)
    have e := x.endOf (p := isPln) (by decide) (show i + 1 ≤ s.size by omega)
    rw [← Nat.add_assoc] at e
    by_cases hc : YtajpnemfppaafaaGreat.endOf isPln s (i + 1) ≥ s.size ∨ bt s (YtajpnemfppaafaaGreat.endOf isPln s (i + 1)) ≠ 34 ∨ YtajpnemfppaafaaGreat.endOf isPln s (i + 1) - i - 1 > 160
    ·rw [if_pos hc] at h0; cases h0
    ·have e1 : bt t (q + YtajpnemfppaafaaGreat.endOf isPln s (i + 1)) = bt s (YtajpnemfppaafaaGreat.endOf isPln s (i + 1)) := x.eq _ (by omega)
     rw [if_neg hc, e, e1, if_neg (by omega), Nat.add_assoc, x.ex (by omega) (by omega)]
     rfl
   ·rw [if_neg h34] at h0 ⊢
    rw [if_neg h34, x.mark hi]
    cases hm : markOf s i with
    | none => rw [hm] at h0; cases h0
    | some m =>
     show ((⟨5, ((q + i : Nat) : Int), m, 0⟩ : Tok), 0, q + i + m.size) = (_, 0, q + (i + m.size))
     rw [Nat.add_assoc]; rfl
theorem Std.go : ∀ (n i f f' : Nat) (acc acc' : List Tok), s.size - i ≤ n → i ≤ s.size → s.size - i < f → t.size - (q + i) < f' → (lexGo s f i acc).2.1 = 0 →
  ∃ ts ts2 f'', (lexGo s f i acc).1 = acc ++ ts ∧ ts2.map strip = ts.map strip ∧ t.size - (q + s.size) < f'' ∧ lexGo t f' (q + i) acc' = lexGo t f'' (q + s.size) (acc' ++ ts2) := by
 have hle := x.le
 intro n
 induction n with
 | zero =>
  intro i f f' acc acc' hn hi hf hf' h0
  obtain ⟨f, rfl⟩ : ∃ k, f = k + 1 := ⟨f - 1, by omega⟩
  refine ⟨[], [], f', ?_, rfl, by omega, ?_⟩
  ·rw [lexGo, if_pos (by omega), List.append_nil]
  ·rw [List.append_nil, show i = s.size by omega]
 | succ n ih =>
  intro i f f' acc acc' hn hi hf hf' h0
  obtain ⟨f, rfl⟩ : ∃ k, f = k + 1 := ⟨f - 1, by omega⟩
  obtain ⟨f', rfl⟩ : ∃ k, f' = k + 1 := ⟨f' - 1, by omega⟩
  by_cases h1 : s.size ≤ i
  ·refine ⟨[], [], f' + 1, ?_, rfl, by omega, ?_⟩
   ·rw [lexGo, if_pos (by omega), List.append_nil]
   ·rw [List.append_nil, show i = s.size by omega]
  rw [lexGo, if_neg h1] at h0 ⊢
  rw [lexGo, if_neg (show ¬ t.size ≤ q + i by omega), x.eq i (by omega)]
  by_cases h2 : bt s i = 9 ∨ bt s i = 10 ∨ bt s i = 32
  ·rw [if_pos h2] at h0 ⊢
   rw [if_pos h2, Nat.add_assoc]
   exact ih (i + 1) f f' acc acc' (by omega) (by omega) (by omega) (by omega) h0
  rw [if_neg h2] at h0 ⊢
  rw [if_neg h2]
  have e1003 : (bt s i = 45 ∧ q + i + 1 < t.size ∧ bt t (q + i + 1) = 45) ↔ (bt s i = 45 ∧ i + 1 < s.size ∧ bt s (i + 1) = 45) := by
   rw [Nat.add_assoc]
   by_cases hb : i + 1 < s.size
   ·rw [x.eq _ hb]
    exact ⟨fun a => ⟨a.1, hb, a.2.2⟩, fun a => ⟨a.1, by omega, a.2.2⟩⟩
   ·rw [show i + 1 = s.size by omega]
    refine ⟨fun a => ?_, fun a => by omega⟩
    rcases x.nl with n | n
    ·omega
    ·rw [n] at a; exact absurd a.2.2 (by decide)
  by_cases h3 : bt s i = 45 ∧ i + 1 < s.size ∧ bt s (i + 1) = 45
  ·rw [if_pos h3] at h0 ⊢
   rw [if_pos (e1003.2 h3), x.endOf (p := fun b => b != 10) (by decide) (show i ≤ s.size by omega)]
   have bd := endOf_bd (p := fun b => b != 10) (s := s) _ (i + 1) rfl (by omega)
   have st := endOf_step (p := fun b => b != 10) (s := s) (i := i) (by omega) (by rw [h3.1]; decide)
   exact ih _ f f' acc acc' (by omega) (by omega) (by omega) (by omega) h0
  rw [if_neg h3] at h0 ⊢
  rw [if_neg (fun a => h3 (e1003.1 a))]
  by_cases h4 : (tokR s i).2.1 ≠ 0
  ·rw [if_pos h4] at h0; exact absurd h0 h4
  rw [if_neg h4] at h0 ⊢
  have h4' : (tokR s i).2.1 = 0 := by omega
  have bd := tokR_bd (s := s) (i := i) (by omega) h4'
  rw [x.tok (by omega) h4']
  dsimp only
  rw [if_neg (by simp)]
  obtain ⟨ts, ts2, f'', r1, r2, r3, r4⟩ := ih (tokR s i).2.2 f f' (acc ++ [(tokR s i).1]) (acc' ++ [{ (tokR s i).1 with at' := ((q + i : Nat) : Int) }]) (by omega) (by omega) (by omega) (by omega) h0
  refine ⟨(tokR s i).1 :: ts, { (tokR s i).1 with at' := ((q + i : Nat) : Int) } :: ts2, f'', ?_, ?_, r3, ?_⟩
  ·rw [r1, List.append_assoc]; rfl
  ·rw [List.map_cons, List.map_cons, r2]; rfl
  ·rw [r4, List.append_assoc]; rfl
end
def nlB : ByteArray := ⟨#[10]⟩
theorem lex_twice {s : ByteArray} (h0 : (lexR s).2.1 = 0) (hs : 2 * s.size + 1 ≤ 3000) :
  ∃ a b, lexR ((s ++ nlB) ++ s) = (a ++ b, 0, 0) ∧ a.map strip = (lexR s).1.map strip ∧ b.map strip = (lexR s).1.map strip := by
 have sz : ((s ++ nlB) ++ s).size = s.size + 1 + s.size := by rw [ByteArray.size_append, ByteArray.size_append]; rfl
 have z1 : (s ++ nlB).size = s.size + 1 := by rw [ByteArray.size_append]; rfl
 have n1 : bt ((s ++ nlB) ++ s) s.size = 10 := by rw [bt_left (by omega), bt_right (by omega), Nat.sub_self]; rfl
 have x1 : Std ((s ++ nlB) ++ s) 0 s := ⟨by omega, fun j hj => by rw [Nat.zero_add, bt_left (by omega), bt_left hj], .inr (by rw [Nat.zero_add]; exact n1)⟩
 have x2 : Std ((s ++ nlB) ++ s) (s.size + 1) s := ⟨by omega, fun j hj => by rw [bt_right (by omega), z1]; congr 1; omega, .inl (by omega)⟩
 unfold lexR at h0 ⊢
 rw [if_neg (by omega)] at h0 ⊢
 rw [if_neg (by omega)]
 obtain ⟨ts, a, f1, e1, e2, e1003, e1004⟩ := x1.go _ 0 (s.size + 1) (((s ++ nlB) ++ s).size + 1) [] [] (Nat.le_refl _) (by omega) (by omega) (by omega) h0
 obtain ⟨f1, rfl⟩ : ∃ k, f1 = k + 1 := ⟨f1 - 1, by omega⟩
 have e1005 : lexGo ((s ++ nlB) ++ s) (f1 + 1) s.size a = lexGo ((s ++ nlB) ++ s) f1 (s.size + 1) a := by
  rw [lexGo, if_neg (by omega), if_pos (.inr (.inl n1))]
 obtain ⟨ts', b, f2, g1, g2, g3, g4⟩ := x2.go _ 0 (s.size + 1) f1 [] a (Nat.le_refl _) (by omega) (by omega) (by omega) h0
 obtain ⟨f2, rfl⟩ : ∃ k, f2 = k + 1 := ⟨f2 - 1, by omega⟩
 rw [Nat.zero_add, Nat.zero_add, List.nil_append] at e1004
 rw [Nat.add_zero] at g4
 refine ⟨a, b, ?_, by rw [e2, e1]; rfl, by rw [g2, g1]; rfl⟩
 rw [show (0 : Nat) = 0 + 0 from rfl] at e1004
 rw [e1004, e1005, g4, lexGo, if_pos (by omega)]
def SmK (n : Kn) : Prop := n.t.size ≤ 1048576 ∧ n.ks.length ≤ 1048576
def Iv (st : PSt) : Prop := ∀ n ∈ st.nodes, SmK n
def Wn {α : Type} (Q : α → Prop) (o : Option α) : Prop := ∀ r, o = some r → Q r
theorem wB {α β : Type} {Q : α → Prop} {R : β → Prop} {o : Option α} {K : α → Option β} (x : Wn Q o) (k : ∀ r, Q r → Wn R (K r)) : Wn R (o.bind K) := fun r e => by
 rw [Option.bind_eq_some_iff] at e
 obtain ⟨a, ha, hb⟩ := e
 exact k a (x a ha) r hb
theorem wI {α : Type} {R : α → Prop} {p : Prop} [Decidable p] {a b : Option α} (x : p → Wn R a) (y : ¬ p → Wn R b) : Wn R (if p then a else b) := by
 by_cases h : p
 ·rw [if_pos h]; exact x h
 ·rw [if_neg h]; exact y h
theorem wF {α : Type} {R : α → Prop} {p : Bool} {a b : Option α} (x : Wn R a) (y : Wn R b) : Wn R (bif p then a else b) := by
 cases p
 ·exact y
 ·exact x
theorem wS {α : Type} {R : α → Prop} {a : α} (x : R a) : Wn R (some a) := fun r e => by cases e; exact x
theorem wN {α : Type} {R : α → Prop} : Wn R (none : Option α) := fun r e => by cases e
def I2 {α : Type} (r : α × PSt) : Prop := Iv r.2
theorem iv_st {st st' : PSt} (h : Iv st) (e : st'.nodes = st.nodes) : Iv st' := fun n hn => h n (e ▸ hn)
section
variable {c : PC} {st : PSt} (h : Iv st)
include h
theorem wAdv (n : Nat) : Wn Iv (adv n st) := wI (fun _ => wS (iv_st h rfl)) fun _ => wN
theorem wNest (n : Int) : Wn Iv (nestTo n st) := wI (fun _ => wS (iv_st h rfl)) fun _ => wN
theorem ivFail (k : Int) : Iv (failP c st k) := by
 unfold failP; split
 ·exact iv_st h rfl
 ·exact h
theorem wWant (t : ByteArray) : Wn Iv (wantP c t st) := by
 intro s e
 unfold wantP takesP at e
 rw [Option.map_eq_some_iff] at e
 obtain ⟨⟨b, s1⟩, e1, e2⟩ := e
 by_cases hi : isP c st t = true
 ·rw [if_pos hi, Option.map_eq_some_iff] at e1
  obtain ⟨s3, e1003, e1004⟩ := e1
  cases e1004
  rw [if_pos rfl] at e2; cases e2
  exact wAdv h 1 _ e1003
 ·rw [if_neg hi] at e1; cases e1
  rw [if_neg (by simp)] at e2; cases e2
  exact ivFail h 2
theorem wOpen : Wn I2 (openS c st) := by
 unfold openS
 refine wI (fun _ => wS h) fun _ => wI (fun _ => wS (ivFail h 2)) fun _ => wI (fun _ => wS (ivFail h 3)) fun _ r e => ?_
 rw [Option.map_eq_some_iff] at e
 obtain ⟨s, e, rfl⟩ := e
 exact wNest h 1 s e
theorem wNodeP {k i : Int} {t : ByteArray} {ks : List Int} (ht : t.size ≤ 1048576) (hk : ks.length ≤ 1048576) : Wn I2 (nodeP k t i ks st) :=
 wI (fun _ => wS fun n hn => by
  rcases List.mem_append.1 hn with hn | hn
  ·exact h n hn
  ·have : n = ⟨k, t, i, ks⟩ := by simpa using hn
   rw [this]; exact ⟨ht, hk⟩) fun _ => wN
theorem wNode {k i : Int} {t : ByteArray} {ks : List Int} (ht : t.size ≤ 1048576) (hk : ks.length ≤ 1048576) : Wn I2 (nodeS k t i ks st) :=
 wI (fun _ => wS h) fun _ => wNodeP h ht hk
theorem wCut (e : Int) : Wn Iv (cutP e st) := wI (fun _ => wS fun n hn => h n (List.mem_of_mem_take hn)) fun _ => wN
end
def PIv (m : PI) : Prop := ∀ st, Iv st → Wn I2 (m st)
def Tk (c : PC) : Prop := ∀ t ∈ c.toks, t.text.size ≤ 1048576
def IN (r : ByteArray × PSt) : Prop := Iv r.2 ∧ r.1.size ≤ 1048576
def ILp (r : List Int × PSt) : Prop := Iv r.2 ∧ r.1.length ≤ 1000002
section
variable {c : PC} (T : Tk c)
include T
theorem pk_size (st : PSt) : (pk c st).text.size ≤ 1048576 := by
 unfold pk
 split
 ·exact Nat.zero_le _
 ·cases e : c.toks[st.at']? with
  | none => exact Nat.zero_le _
  | some t => exact T t (List.mem_of_getElem? e)
theorem wName {st : PSt} (h : Iv st) : Wn IN (nameN c st) := by
 unfold nameN
 refine wI (fun _ => wS ⟨ivFail h 2, Nat.zero_le _⟩) fun _ r e => ?_
 rw [Option.map_eq_some_iff] at e
 obtain ⟨s, e, rfl⟩ := e
 exact ⟨wAdv h 1 s e, pk_size T st⟩
omit T
theorem vExpr {lv : PI} (h1 : PIv lv) : PIv (exprS c lv) := fun st h =>
 wB (wOpen h) fun r hr => wF (wB (h1 _ hr) fun a ha => wB (wNest ha _) fun s hs => wS hs) (wS hr)
theorem vLev {L : Int} {sub : PI} (h1 : PIv sub) : ∀ (n : Nat) (a : Int), PIv (levLoop c L sub n a)
 | 0, _ => fun st h => wN
 | n + 1, a => fun st h => by
  rw [levLoop]
  exact wI (fun _ => wI (fun _ => wS h) fun _ => wB (wAdv h 1) fun s1 hs => wB (h1 _ hs) fun b hb => wB (wNode hb (Nat.zero_le _) (by show 2 ≤ _; decide)) fun x hx => wI (fun _ => wS hx) fun _ => vLev h1 n _ _ hx) fun _ => wS h
theorem vLevel {L : Int} {sub : PI} {n : Nat} (h1 : PIv sub) : PIv (levelS c L sub n) := fun st h => wB (h1 _ h) fun a ha => vLev h1 n _ _ ha
theorem vTurnT {t : Int} {self : PI} (h1 : PIv self) : PIv (turnT c t self) := fun st h =>
 wB (wOpen h) fun r hr => wF (wB (wAdv hr 1) fun s hs => wB (h1 _ hs) fun e he => wB (wNest he _) fun s hs => wNode hs (Nat.zero_le _) (by show 1 ≤ _; decide)) (wS hr)
theorem vTurn {self suf : PI} (h1 : PIv self) (h2 : PIv suf) : PIv (turnS c self suf) := fun st h =>
 wI (fun _ => vTurnT h1 _ h) fun _ => wI (fun _ => vTurnT h1 _ h) fun _ => wI (fun _ => vTurnT h1 _ h) fun _ => h2 _ h
theorem vCall {ex : PI} (h1 : PIv ex) : ∀ (n : Nat) (ks : List Int) (st : PSt), Iv st → ks.length ≤ 1000001 → Wn ILp (callLoop c ex n ks st)
 | 0, _, _ => fun h _ => wN
 | n + 1, ks, st => fun h hk => by
  rw [callLoop]
  exact wI (fun _ => wB (Q := Iv) (wI (fun _ => wWant h _) fun _ => wS h) fun s hs => wB (h1 _ hs) fun e he => wI (fun _ => wN) fun hl => vCall h1 n _ _ he (by simp; omega)) fun _ => wS ⟨h, by show ks.length ≤ _; omega⟩
include T
theorem vSuf {ex : PI} {N : Nat} (h1 : PIv ex) : ∀ (n : Nat) (a : Int), PIv (sufLoop c ex N n a)
 | 0, _ => fun st h => wN
 | n + 1, a => fun st h => by
  rw [sufLoop]
  exact wI (fun _ => wI (fun _ => wB (wAdv h 1) fun s hs => wB (vCall h1 N [a] s hs (by show 1 ≤ _; decide)) fun l hl => wB (wWant hl.1 _) fun s hs => wB (wNode hs (Nat.zero_le _) (by have := hl.2; omega)) fun x hx => vSuf h1 n _ _ hx)
   fun _ => wI (fun _ => wB (wAdv h 1) fun s hs => wB (h1 _ hs) fun k hk => wB (wWant hk _) fun s hs => wB (wNode hs (Nat.zero_le _) (by show 2 ≤ _; decide)) fun x hx => vSuf h1 n _ _ hx)
   fun _ => wI (fun _ => wB (wAdv h 1) fun s hs => wB (wName T hs) fun m hm => wB (wNode hm.1 hm.2 (Nat.zero_le _)) fun k hk => wB (wNode hk (Nat.zero_le _) (by show 2 ≤ _; decide)) fun x hx => vSuf h1 n _ _ hx)
   fun _ => wS h) fun _ => wS h
theorem vSuffix {prim ex : PI} {n : Nat} (h1 : PIv prim) (h2 : PIv ex) : PIv (suffixS c prim ex n) := fun st h => wB (h1 _ h) fun a ha => vSuf T h2 n _ _ ha
theorem vPar : ∀ (n : Nat) (ks : List Int) (st : PSt), Iv st → ks.length ≤ 1000001 → Wn ILp (parLoop c n ks st)
 | 0, _, _ => fun h _ => wN
 | n + 1, ks, st => fun h hk => by
  rw [parLoop]
  exact wI (fun _ => wB (Q := Iv) (wI (fun _ => wWant h _) fun _ => wS h) fun s hs => wB (wName T hs) fun m hm => wB (wNode hm.1 hm.2 (Nat.zero_le _)) fun e he => wI (fun _ => wN) fun hl => vPar n _ _ he (by simp; omega)) fun _ => wS ⟨h, by show ks.length ≤ _; omega⟩
theorem vFn {block : PI} {n : Nat} (h1 : PIv block) : PIv (fnS c block n) := fun st h =>
 wB (wWant h _) fun s hs => wB (vPar T n [] s hs (Nat.zero_le _)) fun l hl => wB (wWant hl.1 _) fun s hs => wB (h1 _ hs) fun b hb => wI (fun _ => wN) fun hle => wNode hb (Nat.zero_le _) (by simp; omega)
omit T
theorem vTab {field : PI} (h1 : PIv field) : ∀ (n : Nat) (ks : List Int) (st : PSt), Iv st → ks.length ≤ 1000001 → Wn ILp (tabLoop c field n ks st)
 | 0, _, _ => fun h _ => wN
 | n + 1, ks, st => fun h hk => by
  rw [tabLoop]
  exact wI (fun _ => wB (Q := Iv) (wI (fun _ => wWant h _) fun _ => wS h) fun s hs => wB (h1 _ hs) fun e he => wI (fun _ => wN) fun hl => vTab h1 n _ _ he (by simp; omega)) fun _ => wS ⟨h, by show ks.length ≤ _; omega⟩
theorem vTable {field : PI} {n : Nat} (h1 : PIv field) : PIv (tableS c field n) := fun st h =>
 wB (vTab h1 n [] st h (Nat.zero_le _)) fun l hl => wB (wWant hl.1 _) fun s hs => wNode hs (Nat.zero_le _) (by have := hl.2; omega)
include T
theorem vField {ex : PI} (h1 : PIv ex) : PIv (fieldS c ex) := fun st h =>
 wI (fun _ => wB (wAdv h 1) fun s hs => wB (h1 _ hs) fun k hk => wB (wWant hk _) fun s hs => wB (wWant hs _) fun s hs => wB (h1 _ hs) fun e he => wNode he (Nat.zero_le _) (by show 2 ≤ _; decide))
 fun _ => wI (fun _ => wN) fun _ => wI (fun _ => wB (wName T h) fun m hm => wB (wAdv hm.1 1) fun s hs => wB (wNode hs hm.2 (Nat.zero_le _)) fun k hk => wB (h1 _ hk) fun e he => wNode he (Nat.zero_le _) (by show 2 ≤ _; decide))
 fun _ => wB (h1 _ h) fun e he => wNode he (Nat.zero_le _) (by show 1 ≤ _; decide)
theorem vPrimary {ex fn table : PI} (h1 : PIv ex) (h2 : PIv fn) (h3 : PIv table) : PIv (primaryS c ex fn table) := fun st h =>
 wI (fun _ => wB (wAdv h 1) fun s hs => wNode hs (Nat.zero_le _) (Nat.zero_le _))
 fun _ => wI (fun _ => wB (wAdv h 1) fun s hs => wNode hs (pk_size T st) (Nat.zero_le _))
 fun _ => wI (fun _ => wB (wName T h) fun m hm => wNode hm.1 hm.2 (Nat.zero_le _))
 fun _ => wI (fun _ => wB (wAdv h 1) fun s hs => wNode hs (Nat.zero_le _) (Nat.zero_le _))
 fun _ => wI (fun _ => wB (wAdv h 1) fun s hs => wNode hs (Nat.zero_le _) (Nat.zero_le _))
 fun _ => wI (fun _ => wB (wAdv h 1) fun s hs => wNode hs (Nat.zero_le _) (Nat.zero_le _))
 fun _ => wI (fun _ => wB (wAdv h 1) fun s hs => h2 _ hs)
 fun _ => wI (fun _ => wB (wAdv h 1) fun s hs => h3 _ hs)
 fun _ => wI (fun _ => wB (wAdv h 1) fun s hs => wB (h1 _ hs) fun e he => wB (wWant he _) fun s hs => wS hs)
 fun _ => wS (ivFail h 2)
omit T
theorem vBlk {stmt : PI} (h1 : PIv stmt) : ∀ (n : Nat) (ks : List Int) (st : PSt), Iv st → ks.length ≤ 1000001 → Wn ILp (blkLoop c stmt n ks st)
 | 0, _, _ => fun h _ => wN
 | n + 1, ks, st => fun h hk => by
  rw [blkLoop]
  exact wI (fun _ => wB (h1 _ h) fun e he => wI (fun _ => wN) fun hl => vBlk h1 n _ _ he (by simp; omega)) fun _ => wS ⟨h, by show ks.length ≤ _; omega⟩
theorem vBlock {stmt : PI} {n : Nat} (h1 : PIv stmt) : PIv (blockS c stmt n) := fun st h =>
 wB (wOpen h) fun r hr => wF (wB (wWant hr _) fun s hs => wB (vBlk h1 n [] s hs (Nat.zero_le _)) fun l hl => wB (wWant hl.1 _) fun s hs => wB (wNest hs _) fun s hs => wNode hs (Nat.zero_le _) (by have := hl.2; omega)) (wS hr)
theorem vAssign {ex : PI} (h1 : PIv ex) : PIv (assignS c ex) := fun st h =>
 wB (h1 _ h) fun e he => wI (fun _ => by
  cases hn : e.2.nodes[e.1.toNat]? with
  | none => exact wN
  | some n =>
   have sm : SmK n := he n (List.mem_of_getElem? hn)
   refine wI (fun _ => wN) fun _ => wI (fun _ => wB (wAdv he 1) fun s hs => wNode hs (Nat.zero_le _) (by show 1 ≤ _; decide))
    fun _ => wI (fun _ => wB (wAdv he 1) fun s hs => wB (wCut hs _) fun s hs => wB (h1 _ hs) fun v hv => wB (wWant hv _) fun s hs => wNode hs sm.1 (by show 1 ≤ _; decide))
    fun _ => wI (fun _ => ?_) fun _ => wS (ivFail he 2)
   split
   ·exact wB (wAdv he 1) fun s hs => wB (wCut hs _) fun s hs => wB (h1 _ hs) fun v hv => wB (wWant hv _) fun s hs => wNode hs (Nat.zero_le _) (by show 3 ≤ _; decide)
   ·exact wN) fun _ => wS he
include T
theorem vStmt {ex block asg : PI} (h1 : PIv ex) (h2 : PIv block) (h3 : PIv asg) : PIv (stmtS c ex block asg) := fun st h =>
 wI (fun _ => wB (wAdv h 1) fun s hs => wB (wName T hs) fun m hm => wB (wWant hm.1 _) fun s hs => wB (h1 _ hs) fun e he => wB (wWant he _) fun s hs => wNode hs hm.2 (by show 1 ≤ _; decide))
 fun _ => wI (fun _ => wB (wAdv h 1) fun s hs => wB (h1 _ hs) fun e he => wB (h2 _ he) fun b hb => wI (fun _ => wB (wAdv hb 1) fun s hs => wB (h2 _ hs) fun d hd => wNode hd (Nat.zero_le _) (by show 3 ≤ _; decide)) fun _ => wNode hb (Nat.zero_le _) (by show 2 ≤ _; decide))
 fun _ => wI (fun _ => wB (wAdv h 1) fun s hs => wB (h1 _ hs) fun e he => wB (h2 _ he) fun b hb => wNode hb (Nat.zero_le _) (by show 2 ≤ _; decide))
 fun _ => wI (fun _ => wB (wAdv h 1) fun s hs => wB (h1 _ hs) fun e he => wB (wWant he _) fun s hs => wNode hs (Nat.zero_le _) (by show 1 ≤ _; decide))
 fun _ => h3 _ h
theorem vAll : ∀ (D k : Nat), PIv (sp c D k)
 | 0, k => fun st h => by rw [sp]; exact wN
 | D + 1, k => fun st h => by
  have ih := vAll D
  rw [sp]
  exact wI (fun _ => wN) fun _ => wI (fun _ => vExpr (ih _) _ h) fun _ => wI (fun _ => ih _ _ h) fun _ => wI (fun _ => vTurn (ih _) (ih _) _ h)
   fun _ => wI (fun _ => vSuffix T (ih _) (ih _) _ h) fun _ => wI (fun _ => vPrimary T (ih _) (ih _) (ih _) _ h) fun _ => wI (fun _ => vFn T (ih _) _ h)
   fun _ => wI (fun _ => vTable (ih _) _ h) fun _ => wI (fun _ => vField T (ih _) _ h) fun _ => wI (fun _ => vBlock (ih _) _ h) fun _ => wI (fun _ => vAssign (ih _) _ h)
   fun _ => wI (fun _ => vStmt T (ih _) (ih _) (ih _) _ h) fun _ => wI (fun _ => vLevel (ih _) _ h) fun _ => wN
omit T
theorem vTop {stmt : PI} (h1 : PIv stmt) : ∀ (n : Nat) (ks : List Int) (st : PSt), Iv st → ks.length ≤ 1000001 → Wn ILp (topS c stmt n ks st)
 | 0, _, _ => fun h _ => wN
 | n + 1, ks, st => fun h hk => by
  rw [topS]
  exact wI (fun _ => wB (h1 _ h) fun e he => wI (fun _ => wN) fun hl => vTop h1 n _ _ he (by simp; omega)) fun _ => wS ⟨h, by show ks.length ≤ _; omega⟩
end
def ParR (s : ByteArray) (D D' : Nat) (r : PRes) : Prop := sparseR D s = some r ∧ parseR D' s = some r ∧ r.1.length ≤ 9001 ∧ ∀ n ∈ r.1, SmK n
theorem parse_both (s : ByteArray) {D D' : Nat} (h1 : 4500 ≤ D) (h2 : 4500 ≤ D') (h3 : D' ≤ 2000000) : ∃ r, ParR s D D' r := by
 obtain ⟨r, e1, e2, e1003⟩ := parse_same s h1 h2 h3
 refine ⟨r, e1, e2, e1003, ?_⟩
 have T : Tk ⟨0, .slice none 0 0, (lexR s).1, s.size⟩ := fun t ht => Nat.le_trans ((lexR_inv s).1 t ht).sz (by decide)
 have W : Wn (fun r : PRes => ∀ n ∈ r.1, SmK n) (sparseR D s) := by
  unfold sparseR sparseC
  refine wI (fun _ => wS fun n hn => by cases hn) fun _ => wB (vTop (vAll T D 82) D [] st0 (fun n hn => by cases hn) (Nat.zero_le _)) fun l hl => ?_
  exact wB (wNode hl.1 (Nat.zero_le _) (by have := hl.2; omega)) fun x hx => wI (fun _ => wS fun n hn => by cases hn) fun _ => wS hx
 exact W r e1
inductive Tl (ns : List Kn) : Nat → List Int → Nat → Prop where
  | nil (lo : Nat) : Tl ns lo [] lo
  | cons (lo k : Nat) (n : Kn) (ks : List Int) (hi : Nat) : ns[k]? = some n → Tl ns lo n.ks k → Tl ns (k + 1) ks hi → Tl ns lo ((k : Int) :: ks) hi
section
variable {ns ms : List Kn} {lo mid hi : Nat} {ks ls : List Int}
theorem Tl.le (x : Tl ns lo ks hi) : lo ≤ hi := by
  induction x with
  | nil => exact Nat.le_refl _
  | cons lo k n ks hi h1 h2 h3 i1 i2 => omega
theorem Tl.mem (x : Tl ns lo ks hi) : ∀ k ∈ ks, (lo : Int) ≤ k ∧ k < hi := by
  induction x with
  | nil => intro k hk; cases hk
  | cons lo k n ks hi h1 h2 h3 i1 i2 =>
    have := h2.le; have := h3.le
    intro j hj
    rcases List.mem_cons.1 hj with rfl | hj
    · omega
    · have := i2 j hj; omega
theorem Tl.append (x : Tl ns lo ks mid) (y : Tl ns mid ls hi) : Tl ns lo (ks ++ ls) hi := by
  induction x with
  | nil => exact y
  | cons lo k n ks mid h1 h2 h3 i1 i2 => exact .cons lo k n _ hi h1 h2 (i2 y)
theorem Tl.agree (x : Tl ns lo ks hi) (h : ∀ j, j < hi → ms[j]? = ns[j]?) : Tl ms lo ks hi := by
  induction x with
  | nil => exact .nil _
  | cons lo k n ks hi h1 h2 h3 i1 i2 =>
    have := h3.le
    exact .cons lo k n ks hi (by rw [h k (by omega)]; exact h1) (i1 (fun j hj => h j (by omega))) (i2 h)
theorem Tl.one {v : Int} (x : Tl ns lo [v] hi) : ∃ (k : Nat) (n : Kn), v = k ∧ hi = k + 1 ∧ ns[k]? = some n ∧ Tl ns lo n.ks k := by
  cases x with
  | cons _ k n _ _ h1 h2 h3 => cases h3; exact ⟨k, n, rfl, rfl, h1, h2⟩
theorem Tl.nil_eq (x : Tl ns lo [] hi) : lo = hi := by cases x; rfl
theorem Tl.num (x : Tl ns lo ks hi) : ∀ (f : Nat) (i : Int) (rest : List Int), hi - lo < f → numGo' (numP ns f) i (ks ++ rest) lo = numGo' (numP ns f) i rest hi := by
  induction x with
  | nil => intro f i rest _; rfl
  | cons lo k n ks hi h1 h2 h3 i1 i2 =>
    intro f i rest hf
    have := h2.le; have := h3.le
    obtain ⟨f, rfl⟩ : ∃ g, f = g + 1 := ⟨f - 1, by omega⟩
    have e : numP ns (f + 1) (k : Int) lo = (k : Int) + 1 := by
      unfold numP
      rw [show ((k : Int)).toNat = k by omega, h1]
      have := i1 f k [] (by omega)
      rw [List.append_nil] at this
      show numGo' (numP ns f) (k : Int) n.ks lo = _
      rw [this, numGo', if_pos rfl]
    rw [List.cons_append, numGo', e, if_neg (by omega)]
    have := i2 (f + 1) i rest (by omega)
    rw [show ((k + 1 : Nat) : Int) = (k : Int) + 1 by omega] at this
    exact this
def AllG (ns : List Kn) : Prop := ∀ (j : Nat) (n : Kn), ns[j]? = some n → Good ns j n
theorem kd_same {k : Int} (h0 : 0 ≤ k) {hi : Nat} (hk : k < hi) (h : ∀ j, j < hi → ms[j]? = ns[j]?) : kd ms k = kd ns k := by
  unfold kd; rw [h k.toNat (by omega)]
theorem Good.agree {j : Nat} {n : Kn} (x : Good ns j n) (h : ∀ i, i < j → ms[i]? = ns[i]?) : Good ms j n := by
  refine ⟨x.rng, x.has, x.knd, ?_⟩
  have : n.ks.map (kd ms) = n.ks.map (kd ns) := List.map_congr_left fun k hk => kd_same (x.rng k hk).1 (x.rng k hk).2 h
  rw [this]; exact x.shp
theorem AllG.put (x : AllG ns) {n : Kn} (g : Good ns ns.length n) : AllG (ns ++ [n]) := fun j m hm => by
  by_cases hj : j < ns.length
  · rw [List.getElem?_append_left hj] at hm
    exact (x j m hm).agree fun i hi => List.getElem?_append_left (by omega)
  · have hl := (List.getElem?_eq_some_iff.1 hm).1
    have : j = ns.length := by simp at hl; omega
    subst this
    rw [List.getElem?_append_right (Nat.le_refl _), Nat.sub_self] at hm
    have : m = n := by simpa using hm.symm
    subst this
    exact g.agree fun i hi => List.getElem?_append_left hi
theorem AllG.take (x : AllG ns) (e : Nat) : AllG (ns.take e) := fun j m hm => by
  have hj : j < e := by
    have := (List.getElem?_eq_some_iff.1 hm).1
    rw [List.length_take] at this; omega
  rw [List.getElem?_take_of_lt hj] at hm
  exact (x j m hm).agree fun i hi => List.getElem?_take_of_lt (by omega)
theorem tree_ok {T : List Kn} {top : Int} (g : AllG T) (t : Tl T 0 [top] T.length) (h21 : kd T top = 21) (hl : T.length ≤ 3000) : implOk T top = true := by
  have tn := t.num (T.length + 1) top [] (by omega)
  obtain ⟨k, n, rfl, hk, h1, h2⟩ := t.one
  have e1 : (T.length : Int) - 1 = (k : Int) := by omega
  have num : numP T (T.length + 1) (k : Int) 0 = (T.length : Int) := by
    have := h2.num T.length (k : Int) [] (by omega)
    rw [List.append_nil] at this
    unfold numP
    rw [show ((k : Int)).toNat = k by omega, h1]
    show numGo' (numP T T.length) (k : Int) n.ks ((0 : Nat) : Int) = _
    rw [this, numGo', if_pos rfl]; omega
  unfold implOk
  rw [e1, if_neg (by rintro (a | a | a | a)
                     · omega
                     · omega
                     · exact a rfl
                     · exact a h21), num, beq_self_eq_true, Bool.and_true]
  refine (okFrom_all _ _).2 fun i _ hi => ?_
  have hi' : i < T.length := by omega
  unfold nodeOkI
  rw [List.getElem?_eq_getElem hi']
  exact good_iff.2 (g i _ (List.getElem?_eq_getElem hi'))
end
theorem w8 {x : Int} (h0 : 0 ≤ x) (h1 : x < 256) : IntKind.u8.wrap x = x := by
  show x % 256 = x
  exact Int.emod_eq_of_lt h0 h1
theorem numGo_bd {w : ByteArray} : ∀ (n i : Nat) (x : Int), n ≤ 15 → 0 ≤ x → x * (10 : Int) ^ n + (10 : Int) ^ n ≤ 1000000000000000 → (∀ k, k < n → isDig (bt w (i + k)) = true) → 0 ≤ numGo w n i x ∧ numGo w n i x ≤ 999999999999999
  | 0, i, x, _, h0, h1, _ => by
    rw [numGo]
    rw [Int.pow_zero] at h1
    omega
  | n + 1, i, x, hn, h0, h1, hd => by
    rw [numGo]
    have hdi := hd 0 (by omega)
    rw [Nat.add_zero] at hdi
    have h48 : 48 ≤ bt w i ∧ bt w i ≤ 57 := by unfold isDig at hdi; simpa using hdi
    have hP : (1 : Int) ≤ (10 : Int) ^ n := by
      have : (0 : Int) < (10 : Int) ^ n := Int.pow_pos (by decide)
      omega
    rw [Int.pow_succ] at h1
    have e1 : x * ((10 : Int) ^ n * 10) = 10 * (x * (10 : Int) ^ n) := by rw [← Int.mul_assoc, Int.mul_comm]
    have hx : x ≤ x * (10 : Int) ^ n := by
      have := Int.mul_le_mul_of_nonneg_left hP h0
      omega
    have hxb : x ≤ 100000000000000 := by omega
    rw [w8 (x := bt w i - 48) (by omega) (by omega), wr (x := bt w i - 48) (by omega) (by omega), wr (x := 10 * x) (by omega) (by omega), wr (x := 10 * x + (bt w i - 48)) (by omega) (by omega)]
    refine numGo_bd n (i + 1) _ (by omega) (by omega) ?_ (fun k hk => by have := hd (k + 1) (by omega); rw [show i + 1 + k = i + (k + 1) by omega]; exact this)
    have e2 : (10 * x + (bt w i - 48)) * (10 : Int) ^ n = 10 * (x * (10 : Int) ^ n) + (bt w i - 48) * (10 : Int) ^ n := by rw [Int.add_mul, Int.mul_assoc]
    have e1003 : (bt w i - 48) * (10 : Int) ^ n ≤ 9 * (10 : Int) ^ n := Int.mul_le_mul_of_nonneg_right (by omega) (by omega)
    rw [e2]
    omega
theorem allB_end {p : Int → Bool} {w : ByteArray} (h : AllB p w) : endOf p w 0 = w.size :=
  endOf_is _ _ _ rfl (by omega) (by omega) (fun j _ hj => h j hj) (fun h => by omega)
theorem let_pln {x : Int} (h : isLet x = true) : isPln x = true := by
  unfold isLet at h; unfold isPln; simp at h ⊢; omega
theorem nameP_of {w : ByteArray} (h1 : 0 < w.size) (h2 : AllB isLet w) (h3 : isWd w = false) (h4 : w.size ≤ 12) : nameP w = true := by
  unfold nameP
  rw [allB_end h2, h3, decide_eq_true rfl]
  unfold inR
  simp; omega
theorem textP_of {w : ByteArray} (h1 : AllB isPln w) (h2 : w.size ≤ 160) : textP w = true := by
  unfold textP
  rw [allB_end h1, decide_eq_true rfl]
  simp; omega
theorem gt1 {t : Tok} (g : GTok t) (h : t.k = 1) : nameP t.text = true ∧ textP t.text = true := by
  cases g with
  | name a w h1 h2 h3 h4 => exact ⟨nameP_of h1 h2 h3 h4, textP_of (fun j hj => let_pln (h2 j hj)) (Nat.le_trans h4 (by decide))⟩
  | word => exact absurd (show (2 : Int) = 1 from h) (by decide)
  | num => exact absurd (show (3 : Int) = 1 from h) (by decide)
  | text => exact absurd (show (4 : Int) = 1 from h) (by decide)
  | mark => exact absurd (show (5 : Int) = 1 from h) (by decide)
theorem gt4 {t : Tok} (g : GTok t) (h : t.k = 4) : textP t.text = true := by
  cases g with
  | text a w h1 h2 => exact textP_of h1 h2
  | word => exact absurd (show (2 : Int) = 4 from h) (by decide)
  | num => exact absurd (show (3 : Int) = 4 from h) (by decide)
  | name => exact absurd (show (1 : Int) = 4 from h) (by decide)
  | mark => exact absurd (show (5 : Int) = 4 from h) (by decide)
theorem gt3 {t : Tok} (g : GTok t) (h : t.k = 3) : inR t.i 0 999999999999999 = true := by
  cases g with
  | num a w h1 h2 h3 h4 =>
    have hp : (10 : Int) ^ w.size ≤ 1000000000000000 := by
      have : (10 : Nat) ^ w.size ≤ 10 ^ 15 := Nat.pow_le_pow_right (by decide) h3
      have h := Int.ofNat_le.2 this
      rw [Int.natCast_pow] at h
      exact h
    have := numGo_bd (w := w) w.size 0 0 h3 (Int.le_refl _) (by rw [Int.zero_mul, Int.zero_add]; exact hp) (fun k hk => by rw [Nat.zero_add]; exact h2 k hk)
    show inR (numGo w w.size 0 0) 0 999999999999999 = true
    unfold inR
    simp; omega
  | word => exact absurd (show (2 : Int) = 3 from h) (by decide)
  | text => exact absurd (show (4 : Int) = 3 from h) (by decide)
  | name => exact absurd (show (1 : Int) = 3 from h) (by decide)
  | mark => exact absurd (show (5 : Int) = 3 from h) (by decide)
def Dc (st : PSt) : Prop := st.code ≠ 0
def D2 {α : Type} (r : α × PSt) : Prop := Dc r.2
def Dd (m : PI) : Prop := ∀ st, Dc st → Wn D2 (m st)
section
variable {c : PC} {st : PSt} (h : Dc st)
include h
theorem dAdv (n : Nat) : Wn Dc (adv n st) := wI (fun _ => wS h) fun _ => wN
theorem dNest (n : Int) : Wn Dc (nestTo n st) := wI (fun _ => wS h) fun _ => wN
theorem dWant (t : ByteArray) : Wn Dc (wantP c t st) := by rw [wantP_d h]; exact wS h
theorem dOpen : Wn D2 (openS c st) := by rw [openS_d h]; exact wS h
theorem dNode {k i : Int} {t : ByteArray} {ks : List Int} : Wn D2 (nodeS k t i ks st) := by rw [nodeS_d h]; exact wS h
theorem dName : Wn D2 (nameN c st) := by rw [nameN_d h]; exact wS h
theorem dFail (k : Int) : Dc (failP c st k) := by rw [failP_d h]; exact h
theorem dLev {L : Int} {sub : PI} : ∀ (n : Nat) (a : Int), Wn D2 (levLoop c L sub n a st)
 | 0, _ => wN
 | n + 1, a => by rw [levLoop]; exact wI (fun z => absurd z h) fun _ => wS h
theorem dSuf {ex : PI} {N : Nat} : ∀ (n : Nat) (a : Int), Wn D2 (sufLoop c ex N n a st)
 | 0, _ => wN
 | n + 1, a => by rw [sufLoop]; exact wI (fun z => absurd z h) fun _ => wS h
theorem dPar : ∀ (n : Nat) (ks : List Int), Wn D2 (parLoop c n ks st)
 | 0, _ => wN
 | n + 1, ks => by rw [parLoop]; exact wI (fun z => absurd z.1 h) fun _ => wS h
theorem dTab {field : PI} : ∀ (n : Nat) (ks : List Int), Wn D2 (tabLoop c field n ks st)
 | 0, _ => wN
 | n + 1, ks => by rw [tabLoop]; exact wI (fun z => absurd z.1 h) fun _ => wS h
theorem dBlk {stmt : PI} : ∀ (n : Nat) (ks : List Int), Wn D2 (blkLoop c stmt n ks st)
 | 0, _ => wN
 | n + 1, ks => by rw [blkLoop]; exact wI (fun z => absurd z.1 h) fun _ => wS h
theorem dTop {stmt : PI} : ∀ (n : Nat) (ks : List Int), Wn D2 (topS c stmt n ks st)
 | 0, _ => wN
 | n + 1, ks => by rw [topS]; exact wI (fun z => absurd z.1 h) fun _ => wS h
end
section
variable {c : PC}
theorem dExpr {lv : PI} (h1 : Dd lv) : Dd (exprS c lv) := fun st h =>
 wB (dOpen h) fun r hr => wF (wB (h1 _ hr) fun a ha => wB (dNest ha _) fun s hs => wS hs) (wS hr)
theorem dLevel {L : Int} {sub : PI} {n : Nat} (h1 : Dd sub) : Dd (levelS c L sub n) := fun st h => wB (h1 _ h) fun a ha => dLev ha n _
theorem dTurnT {t : Int} {self : PI} (h1 : Dd self) : Dd (turnT c t self) := fun st h =>
 wB (dOpen h) fun r hr => wF (wB (dAdv hr 1) fun s hs => wB (h1 _ hs) fun e he => wB (dNest he _) fun s hs => dNode hs) (wS hr)
theorem dTurn {self suf : PI} (h1 : Dd self) (h2 : Dd suf) : Dd (turnS c self suf) := fun st h =>
 wI (fun _ => dTurnT h1 _ h) fun _ => wI (fun _ => dTurnT h1 _ h) fun _ => wI (fun _ => dTurnT h1 _ h) fun _ => h2 _ h
theorem dSuffix {prim ex : PI} {n : Nat} (h1 : Dd prim) : Dd (suffixS c prim ex n) := fun st h => wB (h1 _ h) fun a ha => dSuf ha n _
theorem dFn {block : PI} {n : Nat} (h1 : Dd block) : Dd (fnS c block n) := fun st h =>
 wB (dWant h _) fun s hs => wB (dPar hs n []) fun l hl => wB (dWant hl _) fun s hs => wB (h1 _ hs) fun b hb => wI (fun _ => wN) fun _ => dNode hb
theorem dTable {field : PI} {n : Nat} : Dd (tableS c field n) := fun st h =>
 wB (dTab h n []) fun l hl => wB (dWant hl _) fun s hs => dNode hs
theorem dField {ex : PI} (h1 : Dd ex) : Dd (fieldS c ex) := fun st h =>
 wI (fun _ => wB (dAdv h 1) fun s hs => wB (h1 _ hs) fun k hk => wB (dWant hk _) fun s hs => wB (dWant hs _) fun s hs => wB (h1 _ hs) fun e he => dNode he)
 fun _ => wI (fun _ => wN) fun _ => wI (fun _ => wB (dName h) fun m hm => wB (dAdv hm 1) fun s hs => wB (dNode hs) fun k hk => wB (h1 _ hk) fun e he => dNode he)
 fun _ => wB (h1 _ h) fun e he => dNode he
theorem dPrimary {ex fn table : PI} (h1 : Dd ex) (h2 : Dd fn) (h3 : Dd table) : Dd (primaryS c ex fn table) := fun st h =>
 wI (fun _ => wB (dAdv h 1) fun s hs => dNode hs)
 fun _ => wI (fun _ => wB (dAdv h 1) fun s hs => dNode hs)
 fun _ => wI (fun _ => wB (dName h) fun m hm => dNode hm)
 fun _ => wI (fun _ => wB (dAdv h 1) fun s hs => dNode hs)
 fun _ => wI (fun _ => wB (dAdv h 1) fun s hs => dNode hs)
 fun _ => wI (fun _ => wB (dAdv h 1) fun s hs => dNode hs)
 fun _ => wI (fun _ => wB (dAdv h 1) fun s hs => h2 _ hs)
 fun _ => wI (fun _ => wB (dAdv h 1) fun s hs => h3 _ hs)
 fun _ => wI (fun _ => wB (dAdv h 1) fun s hs => wB (h1 _ hs) fun e he => wB (dWant he _) fun s hs => wS hs)
 fun _ => wS (dFail h 2)
theorem dBlock {stmt : PI} {n : Nat} : Dd (blockS c stmt n) := fun st h =>
 wB (dOpen h) fun r hr => wF (wB (dWant hr _) fun s hs => wB (dBlk hs n []) fun l hl => wB (dWant hl _) fun s hs => wB (dNest hs _) fun s hs => dNode hs) (wS hr)
theorem dAssign {ex : PI} (h1 : Dd ex) : Dd (assignS c ex) := fun st h =>
 wB (h1 _ h) fun e he => wI (fun z => absurd z he) fun _ => wS he
theorem dStmt {ex block asg : PI} (h1 : Dd ex) (h2 : Dd block) (h3 : Dd asg) : Dd (stmtS c ex block asg) := fun st h =>
 wI (fun _ => wB (dAdv h 1) fun s hs => wB (dName hs) fun m hm => wB (dWant hm _) fun s hs => wB (h1 _ hs) fun e he => wB (dWant he _) fun s hs => dNode hs)
 fun _ => wI (fun _ => wB (dAdv h 1) fun s hs => wB (h1 _ hs) fun e he => wB (h2 _ he) fun b hb => wI (fun _ => wB (dAdv hb 1) fun s hs => wB (h2 _ hs) fun d hd => dNode hd) fun _ => dNode hb)
 fun _ => wI (fun _ => wB (dAdv h 1) fun s hs => wB (h1 _ hs) fun e he => wB (h2 _ he) fun b hb => dNode hb)
 fun _ => wI (fun _ => wB (dAdv h 1) fun s hs => wB (h1 _ hs) fun e he => wB (dWant he _) fun s hs => dNode hs)
 fun _ => h3 _ h
theorem dAll : ∀ (D k : Nat), Dd (sp c D k)
 | 0, k => fun st h => by rw [sp]; exact wN
 | D + 1, k => fun st h => by
  have ih := dAll D
  rw [sp]
  exact wI (fun _ => wN) fun _ => wI (fun _ => dExpr (ih _) _ h) fun _ => wI (fun _ => ih _ _ h) fun _ => wI (fun _ => dTurn (ih _) (ih _) _ h)
   fun _ => wI (fun _ => dSuffix (ih _) _ h) fun _ => wI (fun _ => dPrimary (ih _) (ih _) (ih _) _ h) fun _ => wI (fun _ => dFn (ih _) _ h)
   fun _ => wI (fun _ => dTable _ h) fun _ => wI (fun _ => dField (ih _) _ h) fun _ => wI (fun _ => dBlock _ h) fun _ => wI (fun _ => dAssign (ih _) _ h)
   fun _ => wI (fun _ => dStmt (ih _) (ih _) (ih _) _ h) fun _ => wI (fun _ => dLevel (ih _) _ h) fun _ => wN
end
structure Tw (c c' : PC) (q : Nat) (bs : List Kn) : Prop where
 n : c.toks.length ≤ 3000
 good : ∀ t, t ∈ c.toks → GTok t
 eq : ∀ (j : Nat) (t : Tok), c.toks[j]? = some t → ∃ t', c'.toks[q + j]? = some t' ∧ strip t' = strip t
 q : q ≤ 5000
 b : bs.length ≤ 5000
def shK (B : Nat) (n : Kn) : Kn := { n with ks := n.ks.map (· + (B : Int)) }
def shS (q : Nat) (bs : List Kn) (st : PSt) : PSt := { st with at' := q + st.at', nodes := bs ++ st.nodes.map (shK bs.length) }
structure Ls (c : PC) (st : PSt) : Prop where
 code : st.code = 0
 le : st.at' ≤ c.toks.length
 good : AllG st.nodes
 cnt : st.nodes.length ≤ 3 * st.at'
structure Lr (c : PC) (st : PSt) (lo : Nat) (ks : List Int) (s : PSt) : Prop where
 ls : Ls c s
 nest : s.nest = st.nest
 at_ : st.at' ≤ s.at'
 pre : ∀ j, j < lo → s.nodes[j]? = st.nodes[j]?
 tl : Tl s.nodes lo ks s.nodes.length
 plc : s.place = st.place
structure RI (c : PC) (cl : Int) (d e : Nat) (st : PSt) (r : Int × PSt) : Prop where
 lr : Lr c st st.nodes.length [r.1] r.2
 cls : clsOk cl (kd r.2.nodes r.1) = true
 lt : st.at' < r.2.at'
 ct : r.2.nodes.length + st.at' + d ≤ st.nodes.length + r.2.at' + e
 call : kd r.2.nodes r.1 = 9 → r.2.nodes.length + st.at' + 1 ≤ st.nodes.length + r.2.at'
section
variable {c : PC} {st s s' : PSt} {lo d e : Nat} {ks ls : List Int} {k i cl : Int} {t : ByteArray}
theorem Ls.stp (l : Ls c st) (h : st.at' < c.toks.length) : Ls c (YtajpnemfppaafaaGreat.stp st) :=
 ⟨l.code, h, l.good, by have := l.cnt; show st.nodes.length ≤ 3 * (st.at' + 1); omega⟩
theorem Ls.nested (l : Ls c st) (n : Int) : Ls c { st with nest := n } := ⟨l.code, l.le, l.good, l.cnt⟩
theorem Lr.start (l : Ls c st) : Lr c st st.nodes.length [] st := ⟨l, rfl, Nat.le_refl _, fun _ _ => rfl, .nil _, rfl⟩
theorem Lr.stp (x : Lr c st lo ks s) (h : s.at' < c.toks.length) : Lr c st lo ks (YtajpnemfppaafaaGreat.stp s) :=
 ⟨x.ls.stp h, x.nest, by have := x.at_; show st.at' ≤ s.at' + 1; omega, x.pre, x.tl, x.plc⟩
theorem Lr.snoc (x : Lr c st lo ks s) (y : Lr c s s.nodes.length ls s') : Lr c st lo (ks ++ ls) s' := by
 have hl := x.tl.le
 refine ⟨y.ls, y.nest.trans x.nest, Nat.le_trans x.at_ y.at_, fun j hj => (y.pre j (by omega)).trans (x.pre j hj), ?_, y.plc.trans x.plc⟩
 exact (x.tl.agree (fun j hj => y.pre j hj)).append y.tl
theorem Lr.kd (x : Lr c st lo ks s) (y : Lr c s s.nodes.length ls s') : ∀ k ∈ ks, YtajpnemfppaafaaGreat.kd s'.nodes k = YtajpnemfppaafaaGreat.kd s.nodes k := fun k hk => by
 have := x.tl.mem k hk
 exact kd_same (by omega) this.2 (fun j hj => y.pre j hj)
theorem Lr.back {s1 : PSt} {n : Int} (x : Lr c s1 lo ks s) (hn : s.nest + n = st.nest) (ha : st.at' ≤ s1.at') (hd : s1.nodes = st.nodes) (hp : s1.place = st.place) : Lr c st lo ks { s with nest := s.nest + n } :=
 ⟨x.ls.nested _, hn, Nat.le_trans ha x.at_, fun j hj => by rw [← hd]; exact x.pre j hj, x.tl, x.plc.trans hp⟩
theorem put_len : (putN k t i ks s).nodes.length = s.nodes.length + 1 := by show (s.nodes ++ [_]).length = _; simp
theorem put_at : (putN k t i ks s).nodes[s.nodes.length]? = some ⟨k, t, i, ks⟩ := by
 show (s.nodes ++ [_])[s.nodes.length]? = _
 rw [List.getElem?_append_right (Nat.le_refl _), Nat.sub_self]; rfl
theorem put_kd : YtajpnemfppaafaaGreat.kd (putN k t i ks s).nodes (s.nodes.length : Int) = k := by
 show (((putN k t i ks s).nodes[((s.nodes.length : Int)).toNat]?).map Kn.k).getD 0 = k
 rw [show ((s.nodes.length : Int)).toNat = s.nodes.length by omega, put_at]; rfl
theorem RI.put (x : Lr c st st.nodes.length ks s) (has : hasP ⟨k, t, i, ks⟩ = true) (knd : 1 ≤ k ∧ k ≤ 24) (shp : shP k (ks.map (YtajpnemfppaafaaGreat.kd s.nodes)) = true) (hc : clsOk cl k = true)
  (lt : st.at' < s.at') (ct : s.nodes.length + 1 + st.at' + d ≤ st.nodes.length + s.at' + e) (he : e ≤ 1) (call : k = 9 → s.nodes.length + 1 + st.at' + 1 ≤ st.nodes.length + s.at') (l : Ls c st) :
  RI c cl d e st ((s.nodes.length : Int), putN k t i ks s) := by
 have hl := x.tl.le
 have cn := l.cnt
 have g : Good s.nodes s.nodes.length ⟨k, t, i, ks⟩ := ⟨fun j hj => by have := x.tl.mem j hj; omega, has, knd, shp⟩
 have ag : ∀ j, j < s.nodes.length → (putN k t i ks s).nodes[j]? = s.nodes[j]? := fun j hj => by
  show (s.nodes ++ [_])[j]? = _
  exact List.getElem?_append_left hj
 refine ⟨⟨⟨x.ls.code, x.ls.le, x.ls.good.put g, ?_⟩, x.nest, x.at_, fun j hj => (ag j (by omega)).trans (x.pre j hj), ?_, x.plc⟩, ?_, lt, ?_, fun h => ?_⟩
 ·rw [put_len]; show s.nodes.length + 1 ≤ 3 * s.at'; omega
 ·rw [put_len]
  exact .cons _ _ ⟨k, t, i, ks⟩ _ _ put_at (x.tl.agree ag) (.nil _)
 ·show clsOk cl (YtajpnemfppaafaaGreat.kd (putN k t i ks s).nodes (s.nodes.length : Int)) = true
  rw [put_kd]; exact hc
 ·show (putN k t i ks s).nodes.length + st.at' + d ≤ st.nodes.length + s.at' + e
  rw [put_len]; exact ct
 ·show (putN k t i ks s).nodes.length + st.at' + 1 ≤ st.nodes.length + s.at'
  have h' : YtajpnemfppaafaaGreat.kd (putN k t i ks s).nodes (s.nodes.length : Int) = 9 := h
  rw [put_kd] at h'
  rw [put_len]; exact call h'
end
section
variable {c c' : PC} {q : Nat} {bs : List Kn} (w : Tw c c' q bs) {st s : PSt}
theorem pk_at' (l : Ls c st) (h : st.at' < c.toks.length) : pk c st = c.toks[st.at'] := by
 unfold pk; rw [if_neg (by simp [l.code]), List.getElem?_eq_getElem h]; rfl
theorem pk_out (l : Ls c st) (h : (pk c st).k ≠ 0) : st.at' < c.toks.length := (pk_live h).2
include w
theorem pk_good (l : Ls c st) (h : st.at' < c.toks.length) : GTok (pk c st) := by
 rw [pk_at' l h]; exact w.good _ (List.getElem_mem h)
theorem pk_sh (l : Ls c st) (h : st.at' < c.toks.length) : strip (pk c' (shS q bs st)) = strip (pk c st) := by
 obtain ⟨t', e1, e2⟩ := w.eq st.at' _ (List.getElem?_eq_getElem h)
 rw [pk_at' l h]
 unfold pk
 rw [if_neg (by show ¬ st.code ≠ 0; simp [l.code])]
 show strip ((c'.toks[q + st.at']?).getD _) = _
 rw [e1]; exact e2
theorem pk_k (l : Ls c st) (h : st.at' < c.toks.length) : (pk c' (shS q bs st)).k = (pk c st).k := congrArg (·.1) (pk_sh w l h)
theorem pk_text (l : Ls c st) (h : st.at' < c.toks.length) : (pk c' (shS q bs st)).text = (pk c st).text := congrArg (·.2.1) (pk_sh w l h)
theorem pk_i (l : Ls c st) (h : st.at' < c.toks.length) : (pk c' (shS q bs st)).i = (pk c st).i := congrArg (·.2.2) (pk_sh w l h)
theorem isP_sh (l : Ls c st) (h : st.at' < c.toks.length) (t : ByteArray) : isP c' (shS q bs st) t = isP c st t := by
 unfold isP; rw [pk_k w l h, pk_text w l h]
theorem adv_sh (l : Ls c st) (e : adv 1 st = some s) : s = stp st ∧ adv 1 (shS q bs st) = some (shS q bs (stp st)) := by
 have := l.le; have := w.n; have := w.q
 rw [adv_ok (by omega)] at e
 cases e
 exact ⟨rfl, adv_ok (show q + st.at' ≤ 100000 by omega)⟩
theorem want_sh {t : ByteArray} (l : Ls c st) (e : wantP c t st = some s) : Dc s ∨ (st.at' < c.toks.length ∧ s = stp st ∧ wantP c' t (shS q bs st) = some (shS q bs s)) := by
 have := l.le; have := w.n; have := w.q
 cases h : isP c st t with
 | false => rw [wantP_no h] at e; cases e; exact .inl (failP_code 2 (by decide))
 | true =>
  have lt := (isP_live h).2
  rw [wantP_ok h (by omega)] at e; cases e
  exact .inr ⟨lt, rfl, wantP_ok (by rw [isP_sh w l lt]; exact h) (show q + st.at' ≤ 100000 by omega)⟩
theorem name_sh {t : ByteArray} (l : Ls c st) (e : nameN c st = some (t, s)) : Dc s ∨ (st.at' < c.toks.length ∧ s = stp st ∧ nameP t = true ∧ textP t = true ∧ nameN c' (shS q bs st) = some (t, shS q bs s)) := by
 have := l.le; have := w.n; have := w.q
 unfold nameN at e ⊢
 by_cases h : (pk c st).k = 1
 ·have lt := pk_out l (by omega)
  rw [if_neg (by simp [h]), adv_ok (by omega)] at e
  cases e
  have g := gt1 (pk_good w l lt) h
  refine .inr ⟨lt, rfl, g.1, g.2, ?_⟩
  rw [pk_k w l lt, pk_text w l lt, if_neg (by simp [h]), adv_ok (show q + st.at' ≤ 100000 by omega)]
  rfl
 ·rw [if_pos h] at e; cases e; exact .inl (failP_code 2 (by decide))
theorem open_sh {b : Bool} (l : Ls c st) (e : openS c st = some (b, s)) : (b = false ∧ Dc s) ∨ (b = true ∧ st.at' < c.toks.length ∧ s = { st with nest := st.nest + 1 } ∧ openS c' (shS q bs st) = some (true, shS q bs s)) := by
 unfold openS at e ⊢
 rw [if_neg (by simp [l.code])] at e
 by_cases h1 : st.at' ≥ c.toks.length
 ·rw [if_pos h1] at e; cases e; exact .inl ⟨rfl, failP_code 2 (by decide)⟩
 rw [if_neg h1] at e
 by_cases h2 : st.nest ≥ 30
 ·rw [if_pos h2] at e; cases e; exact .inl ⟨rfl, failP_code 3 (by decide)⟩
 rw [if_neg h2] at e
 have lt : st.at' < c.toks.length := by omega
 unfold nestTo at e ⊢
 by_cases h3 : -1000 ≤ st.nest + 1 ∧ st.nest + 1 ≤ 1000
 ·rw [if_pos h3] at e; cases e
  refine .inr ⟨rfl, lt, rfl, ?_⟩
  obtain ⟨t', e1, _⟩ := w.eq st.at' _ (List.getElem?_eq_getElem lt)
  have := (List.getElem?_eq_some_iff.1 e1).1
  rw [if_neg (by show ¬ st.code ≠ 0; simp [l.code]), if_neg (by show ¬ (q + st.at' ≥ c'.toks.length); omega), if_neg (show ¬ ((shS q bs st).nest ≥ 30) from h2), if_pos (show -1000 ≤ (shS q bs st).nest + 1 ∧ (shS q bs st).nest + 1 ≤ 1000 from h3)]
  rfl
 ·rw [if_neg h3] at e; cases e
omit w
theorem nest_sh {n : Int} (e : nestTo n st = some s) : s = { st with nest := st.nest + n } ∧ nestTo n (shS q bs st) = some (shS q bs s) := by
 unfold nestTo at e ⊢
 by_cases h : -1000 ≤ st.nest + n ∧ st.nest + n ≤ 1000
 ·rw [if_pos h] at e; cases e
  exact ⟨rfl, by rw [if_pos (show -1000 ≤ (shS q bs st).nest + n ∧ (shS q bs st).nest + n ≤ 1000 from h)]; rfl⟩
 ·rw [if_neg h] at e; cases e
include w
theorem node_sh {k i : Int} {t : ByteArray} {ks : List Int} {r : Int × PSt} (l : Ls c st) (e : nodeS k t i ks st = some r) :
  r = ((st.nodes.length : Int), putN k t i ks st) ∧ nodeS k t i (ks.map (· + (bs.length : Int))) (shS q bs st) = some (r.1 + (bs.length : Int), shS q bs r.2) := by
 have := l.le; have := w.n; have := w.b; have := l.cnt
 rw [nodeS_ok l.code (by omega)] at e
 cases e
 refine ⟨rfl, ?_⟩
 have hl : (shS q bs st).nodes.length = bs.length + st.nodes.length := by show (bs ++ st.nodes.map _).length = _; simp
 rw [nodeS_ok (show (shS q bs st).code = 0 from l.code) (by rw [hl]; omega), hl]
 have e1 : ((bs.length + st.nodes.length : Nat) : Int) = (st.nodes.length : Int) + (bs.length : Int) := by omega
 have e2 : putN k t i (ks.map (· + (bs.length : Int))) (shS q bs st) = shS q bs (putN k t i ks st) := by
  unfold putN shS
  simp [shK]
 rw [e1, e2]
theorem eqNext_sh (h : st.at' + 1 < c.toks.length) : eqNext c' (shS q bs st) = eqNext c st := by
 obtain ⟨t', e1, e2⟩ := w.eq (st.at' + 1) _ (List.getElem?_eq_getElem h)
 have ek : t'.k = (c.toks[st.at' + 1]).k := congrArg (·.1) e2
 have et : t'.text = (c.toks[st.at' + 1]).text := congrArg (·.2.1) e2
 unfold eqNext
 rw [List.getElem?_eq_getElem h, show (shS q bs st).at' + 1 = q + (st.at' + 1) from rfl, e1]
 show (t'.k == 5 && t'.text.toList == _) = _
 rw [ek, et]
end
theorem eqNext_lt {c : PC} {st : PSt} (h : eqNext c st = true) : st.at' + 1 < c.toks.length := by
 unfold eqNext at h
 cases e : c.toks[st.at' + 1]? with
 | none => rw [e] at h; cases h
 | some t => exact (List.getElem?_eq_some_iff.1 e).1
def Hp (c c' : PC) (q : Nat) (bs : List Kn) (z : Bool) (cl : Int) (d e : Nat) (m m' : PI) : Prop :=
 ∀ (st : PSt) (r : Int × PSt), Ls c st → m st = some r → Dc r.2 ∨ (RI c cl d e st r ∧ ((z = true ∨ r.2.at' < c.toks.length) → m' (shS q bs st) = some (r.1 + (bs.length : Int), shS q bs r.2)))
section
variable {c c' : PC} {q : Nat} {bs : List Kn} (w : Tw c c' q bs)
theorem emp0 : emp E0 = true := by unfold emp; simp [ByteArray.toList_eq]
theorem has0 {k : Int} {ks : List Int} (h : hasP ⟨k, E0, 0, ks⟩ = (emp E0 && ((0 : Int) == 0))) : hasP ⟨k, E0, 0, ks⟩ = true := by rw [h, emp0]; rfl
theorem sh2 {k x y : Int} (hk : k = 8 ∨ k = 10 ∨ k = 12 ∨ k = 13 ∨ k = 24) (h1 : clsOk 1 x = true) (h2 : clsOk 1 y = true) : shP k [x, y] = true := by
 have : shP k [x, y] = (clsOk 1 x && (clsOk 1 y && true)) := by rcases hk with rfl | rfl | rfl | rfl | rfl <;> rfl
 rw [this, h1, h2]; rfl
theorem sh1 {k x : Int} (hk : k = 11 ∨ k = 14 ∨ k = 15 ∨ k = 19 ∨ k = 23) (h1 : clsOk 1 x = true) : shP k [x] = true := by
 have : shP k [x] = (clsOk 1 x && true) := by rcases hk with rfl | rfl | rfl | rfl | rfl <;> rfl
 rw [this, h1]; rfl
include w
theorem hExpr {lv lv' : PI} (h : Hp c c' q bs false 1 0 0 lv lv') : Hp c c' q bs false 1 0 0 (exprS c lv) (exprS c' lv') := by
 intro st r l e
 unfold exprS at e
 obtain ⟨⟨b, s1⟩, e1, e⟩ := bnd e
 rcases open_sh w l e1 with ⟨rfl, dd⟩ | ⟨rfl, lt, rfl, o1⟩
 ·cases e; exact .inl dd
 ·obtain ⟨a, e2, e⟩ := bnd (show (lv _).bind _ = some r from e)
  obtain ⟨s3, e1003, e⟩ := bnd e
  cases e
  obtain ⟨rfl, n3⟩ := nest_sh (q := q) (bs := bs) e1003
  rcases h _ _ (l.nested _) e2 with dd | ⟨R, E⟩
  ·exact .inl dd
  ·refine .inr ⟨⟨R.lr.back (by rw [R.lr.nest]; show st.nest + 1 + -1 = st.nest; omega) (Nat.le_refl _) rfl rfl, R.cls, R.lt, R.ct, R.call⟩, fun hz => ?_⟩
   unfold exprS
   rw [o1, oBs]
   show (lv' _).bind _ = _
   rw [E hz, oBs, n3, oBs]
theorem hTurnT {t : Int} (ht : inR t 1 3 = true) {self self' : PI} (h : Hp c c' q bs false 1 0 0 self self') : Hp c c' q bs false 1 0 0 (turnT c t self) (turnT c' t self') := by
 intro st r l e
 unfold turnT at e
 obtain ⟨⟨b, s1⟩, e1, e⟩ := bnd e
 rcases open_sh w l e1 with ⟨rfl, dd⟩ | ⟨rfl, lt, rfl, o1⟩
 ·cases e; exact .inl dd
 ·obtain ⟨s2, e2, e⟩ := bnd (show (adv 1 _).bind _ = some r from e)
  obtain ⟨rfl, a2⟩ := adv_sh w (l.nested _) e2
  obtain ⟨a, e1003, e⟩ := bnd e
  obtain ⟨s4, e1004, e⟩ := bnd e
  obtain ⟨rfl, n4⟩ := nest_sh (q := q) (bs := bs) e1004
  rcases h _ _ ((l.nested (st.nest + 1)).stp lt) e1003 with dd | ⟨R, E⟩
  ·exact .inl (dNode (st := { a.2 with nest := a.2.nest + -1 }) dd r e)
  ·have hs : (YtajpnemfppaafaaGreat.stp { st with nest := st.nest + 1 }).at' = st.at' + 1 := rfl
   have hn : (YtajpnemfppaafaaGreat.stp { st with nest := st.nest + 1 }).nodes = st.nodes := rfl
   have X : Lr c st st.nodes.length [a.1] { a.2 with nest := a.2.nest + -1 } := R.lr.back (by rw [R.lr.nest]; show st.nest + 1 + -1 = st.nest; omega) (by rw [hs]; omega) rfl rfl
   obtain ⟨rfl, n5⟩ := node_sh w X.ls e
   have lt' := R.lt; have ct := R.ct
   rw [hs] at lt' ct; rw [hn] at ct
   refine .inr ⟨RI.put X ?_ (by decide) (sh1 (.inl rfl) R.cls) (by decide) (by show st.at' < a.2.at'; omega) (by show a.2.nodes.length + 1 + st.at' + 0 ≤ st.nodes.length + a.2.at' + 0; omega) (by decide) (fun z => absurd z (by decide)) l, fun hz => ?_⟩
   ·show (emp E0 && inR t 1 3) = true
    rw [emp0, ht]; rfl
   ·unfold turnT
    rw [o1, oBs]
    show (adv 1 _).bind _ = _
    rw [a2, oBs, E hz, oBs, n4, oBs]
    exact n5
theorem hTurn {self self' suf suf' : PI} (h1 : Hp c c' q bs false 1 0 0 self self') (h2 : Hp c c' q bs false 1 0 0 suf suf') : Hp c c' q bs false 1 0 0 (turnS c self suf) (turnS c' self' suf') := by
 intro st r l e
 unfold turnS at e
 by_cases i1 : isP c st ⟨#[45]⟩ = true
 ·rw [if_pos i1] at e
  rcases hTurnT w (by decide) h1 st r l e with d | ⟨R, E⟩
  ·exact .inl d
  ·refine .inr ⟨R, fun hz => ?_⟩
   unfold turnS
   rw [isP_sh w l (isP_live i1).2, if_pos i1]; exact E hz
 rw [if_neg i1] at e
 by_cases i2 : isP c st ⟨#[110, 111, 116]⟩ = true
 ·rw [if_pos i2] at e
  rcases hTurnT w (by decide) h1 st r l e with d | ⟨R, E⟩
  ·exact .inl d
  ·refine .inr ⟨R, fun hz => ?_⟩
   have lt := (isP_live i2).2
   unfold turnS
   rw [isP_sh w l lt, isP_sh w l lt, if_neg i1, if_pos i2]; exact E hz
 rw [if_neg i2] at e
 by_cases i3 : isP c st ⟨#[35]⟩ = true
 ·rw [if_pos i3] at e
  rcases hTurnT w (by decide) h1 st r l e with d | ⟨R, E⟩
  ·exact .inl d
  ·refine .inr ⟨R, fun hz => ?_⟩
   have lt := (isP_live i3).2
   unfold turnS
   rw [isP_sh w l lt, isP_sh w l lt, isP_sh w l lt, if_neg i1, if_neg i2, if_pos i3]; exact E hz
 rw [if_neg i3] at e
 rcases h2 st r l e with d | ⟨R, E⟩
 ·exact .inl d
 ·refine .inr ⟨R, fun hz => ?_⟩
  have lt : st.at' < c.toks.length := by have := R.lt; have := R.lr.ls.le; omega
  unfold turnS
  rw [isP_sh w l lt, isP_sh w l lt, isP_sh w l lt, if_neg i1, if_neg i2, if_neg i3]; exact E hz
theorem opGo_sh {L : Int} {st : PSt} (l : Ls c st) (h : st.at' < c.toks.length) : ∀ (ps : List (Int × ByteArray)) (i : Nat), opGo c' L ps i (shS q bs st) = opGo c L ps i st
 | [], _ => rfl
 | p :: ps, i => by rw [opGo, opGo, isP_sh w l h, opGo_sh l h ps (i + 1)]
theorem kindS_sh {L : Int} {st : PSt} (l : Ls c st) (h : st.at' < c.toks.length) : kindS c' L (shS q bs st) = kindS c L st := by
 unfold kindS
 rw [isP_sh w l h, isP_sh w l h, opGo_sh w l h]
omit w
theorem opGo_bd {L : Int} {st : PSt} : ∀ (ps : List (Int × ByteArray)) (i : Nat), 1 ≤ i → opGo c L ps i st = 0 ∨ (1 ≤ opGo c L ps i st ∧ opGo c L ps i st < (i : Int) + ps.length)
 | [], _, _ => .inl rfl
 | p :: ps, i, hi => by
  rw [opGo]
  by_cases h : p.1 = L ∧ isP c st p.2 = true
  ·rw [if_pos h]; exact .inr ⟨by omega, by simp; omega⟩
  ·rw [if_neg h]
   rcases opGo_bd ps (i + 1) (by omega) with a | a
   ·exact .inl a
   ·refine .inr ⟨a.1, ?_⟩
    have := a.2
    rw [List.length_cons]; omega
theorem kindS_cases {L : Int} {st : PSt} (h : (kindS c L st).1 ≠ 0) : st.at' < c.toks.length ∧ (((kindS c L st).1 = 13 ∨ (kindS c L st).1 = 12) ∧ (kindS c L st).2 = 0 ∨ (kindS c L st).1 = 10 ∧ inR (kindS c L st).2 1 10 = true) := by
 unfold kindS at h ⊢
 by_cases h1 : L = 1 ∧ isP c st ⟨#[111, 114]⟩ = true
 ·rw [if_pos h1]; exact ⟨(isP_live h1.2).2, .inl ⟨.inl rfl, rfl⟩⟩
 rw [if_neg h1] at h ⊢
 by_cases h2 : L = 2 ∧ isP c st ⟨#[97, 110, 100]⟩ = true
 ·rw [if_pos h2]; exact ⟨(isP_live h2.2).2, .inl ⟨.inr rfl, rfl⟩⟩
 rw [if_neg h2] at h ⊢
 by_cases h3 : opGo c L opsL 1 st = 0
 ·rw [if_pos h3] at h; exact absurd rfl h
 rw [if_neg h3]
 refine ⟨(opGo_live _ _ h3).2, .inr ⟨rfl, ?_⟩⟩
 rcases opGo_bd (c := c) (L := L) (st := st) opsL 1 (by decide) with a | a
 ·exact absurd a h3
 ·have := a.2
  rw [show (opsL.length : Int) = 10 from rfl] at this
  show inR (opGo c L opsL 1 st) 1 10 = true
  unfold inR; simp; omega
include w
theorem hLev {L : Int} {sub sub' : PI} (h : Hp c c' q bs false 1 0 0 sub sub') {st : PSt} (l : Ls c st) :
  ∀ (n : Nat) (a : Int) (s : PSt) (r : Int × PSt), RI c 1 0 0 st (a, s) → levLoop c L sub n a s = some r →
   Dc r.2 ∨ (RI c 1 0 0 st r ∧ s.at' ≤ r.2.at' ∧ (r.2.at' < c.toks.length → levLoop c' L sub' n (a + (bs.length : Int)) (shS q bs s) = some (r.1 + (bs.length : Int), shS q bs r.2)))
 | 0, _, _, _, _, e => by cases e
 | n + 1, a, s, r, R, e => by
  have ls : Ls c s := R.lr.ls
  rw [levLoop, if_pos ls.code] at e
  by_cases kz : (kindS c L s).1 = 0
  ·rw [if_pos kz] at e
   cases e
   exact .inr ⟨R, Nat.le_refl _, fun hz => by rw [levLoop, if_pos (show (shS q bs s).code = 0 from ls.code), kindS_sh w ls hz, if_pos kz]⟩
  ·rw [if_neg kz] at e
   obtain ⟨lt, kc⟩ := kindS_cases kz
   obtain ⟨s1, e1, e⟩ := bnd e
   obtain ⟨rfl, a1⟩ := adv_sh w ls e1
   obtain ⟨b, e2, e⟩ := bnd e
   rcases h _ _ (ls.stp lt) e2 with dd | ⟨R2, E2⟩
   ·exact .inl (wB (dNode (st := b.2) dd) (fun x hx => wI (fun _ => wS hx) fun _ => dLev hx n _) r e)
   ·obtain ⟨x, e1003, e⟩ := bnd e
    have hs : (YtajpnemfppaafaaGreat.stp s).at' = s.at' + 1 := rfl
    have hn : (YtajpnemfppaafaaGreat.stp s).nodes = s.nodes := rfl
    have lt2 := R2.lt; have ct2 := R2.ct; have lt1 := R.lt; have ct1 := R.ct
    rw [hs] at lt2 ct2; rw [hn] at ct2
    have X := (R.lr.stp lt).snoc R2.lr
    have ka : YtajpnemfppaafaaGreat.kd b.2.nodes a = YtajpnemfppaafaaGreat.kd s.nodes a := (R.lr.stp lt).kd R2.lr a (by simp)
    obtain ⟨rfl, n3⟩ := node_sh w X.ls e1003
    have NR : RI c 1 0 0 st ((b.2.nodes.length : Int), putN (kindS c L s).1 E0 (kindS c L s).2 [a, b.1] b.2) := by
     have c1 : clsOk 1 (YtajpnemfppaafaaGreat.kd s.nodes a) = true := R.cls
     refine RI.put X ?_ (by rcases kc with ⟨a | a, _⟩ | ⟨a, _⟩ <;> rw [a] <;> decide) (sh2 (by rcases kc with ⟨a | a, _⟩ | ⟨a, _⟩ <;> rw [a] <;> decide) (by rw [ka]; exact c1) R2.cls)
      (by rcases kc with ⟨a | a, _⟩ | ⟨a, _⟩ <;> rw [a] <;> decide) (by have : st.at' < s.at' := lt1; omega) ?_ (by decide) (fun z => by rcases kc with ⟨a | a, _⟩ | ⟨a, _⟩ <;> rw [a] at z <;> exact absurd z (by decide)) l
     ·rcases kc with ⟨a | a, b⟩ | ⟨a, b⟩
      ·rw [a, b]; exact has0 rfl
      ·rw [a, b]; exact has0 rfl
      ·rw [a]
       show (emp E0 && inR (kindS c L s).2 1 10) = true
       rw [emp0, b]; rfl
     ·have : s.nodes.length + st.at' + 0 ≤ st.nodes.length + s.at' + 0 := ct1
      omega
    by_cases h3 : L = 3
    ·rw [if_pos h3] at e
     cases e
     refine .inr ⟨NR, by show s.at' ≤ b.2.at'; omega, fun hz => ?_⟩
     rw [levLoop, if_pos (show (shS q bs s).code = 0 from ls.code), kindS_sh w ls lt, if_neg kz, a1, oBs, E2 (.inr hz), oBs]
     show ((nodeS (kindS c L s).1 E0 (kindS c L s).2 [a + (bs.length : Int), b.1 + (bs.length : Int)] (shS q bs b.2)).bind _) = _
     have n3' : nodeS (kindS c L s).1 E0 (kindS c L s).2 [a + (bs.length : Int), b.1 + (bs.length : Int)] (shS q bs b.2) = _ := n3
     rw [n3', oBs, if_pos h3]
    ·rw [if_neg h3] at e
     rcases hLev h l n _ _ r NR e with dd | ⟨R4, m4, E4⟩
     ·exact .inl dd
     ·have m4' : b.2.at' ≤ r.2.at' := m4
      refine .inr ⟨R4, by omega, fun hz => ?_⟩
      rw [levLoop, if_pos (show (shS q bs s).code = 0 from ls.code), kindS_sh w ls lt, if_neg kz, a1, oBs, E2 (.inr (by omega)), oBs]
      have n3' : nodeS (kindS c L s).1 E0 (kindS c L s).2 [a + (bs.length : Int), b.1 + (bs.length : Int)] (shS q bs b.2) = _ := n3
      show ((nodeS (kindS c L s).1 E0 (kindS c L s).2 [a + (bs.length : Int), b.1 + (bs.length : Int)] (shS q bs b.2)).bind _) = _
      rw [n3', oBs, if_neg h3]
      exact E4 hz
theorem hLevel {L : Int} {n : Nat} {sub sub' : PI} (h : Hp c c' q bs false 1 0 0 sub sub') : Hp c c' q bs false 1 0 0 (levelS c L sub n) (levelS c' L sub' n) := by
 intro st r l e
 unfold levelS at e
 obtain ⟨a, e1, e⟩ := bnd e
 rcases h _ _ l e1 with dd | ⟨R, E⟩
 ·exact .inl (dLev (st := a.2) dd n _ r e)
 ·rcases hLev w h l n _ _ r R e with dd | ⟨R2, m2, E2⟩
  ·exact .inl dd
  ·refine .inr ⟨R2, fun hz => ?_⟩
   have hz' : r.2.at' < c.toks.length := hz.resolve_left (by decide)
   unfold levelS
   rw [E (.inr (by omega)), oBs]
   exact E2 hz'
end
end Go.Proofs.YtajpnemfppaafaaGreat
