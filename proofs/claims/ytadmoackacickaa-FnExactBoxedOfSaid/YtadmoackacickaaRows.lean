/-
  No cell of these rows narrows 'for every input' (looked for: loops, veiled, ifaces, maps, wideKeys, modest, calm, conditions, laid).
  DERIVED. THE GIVEN ROWS OF THIS SEAT. 11 by the template 'for every input the law returns true; each argument reads behind the call as it read before'; 0 by the template 'total and deterministic' (their statements: YtadmoackacickaaTotals.lean).
  GIVEN WITH THE SEED: the statements are not yours to turn. If you find one false, say at which input.
  Laid BY PROGRAM, IN A SANDBOX (cutbox-rows.mjs): the forced cells as the released guide's own fill.sh prints them over the translation c33f56c15ec01e97… (all of the seat's roots in one cut). By AI agents, Wed Nov 11 2026. No macro, syntax, notation, axiom, sorry.
-/
import Derived.Test.YtadmoackacickaaChecked
import GoSem.Claim
import GoSem.ClaimJoined
import GoSem.ClaimMapViews
import Derived.JoinedTies
import Derived.KernelRfl
namespace Go.Proofs.Ytadmoackacickaa
/- THE CELL 'sum', in the pinned program and in every row, IS THE sha256 OF THE DUMP (.gsa) THAT YtadmoackacickaaProg.lean LOADS. Nothing in Lean hashes anything: it is a label: what it is worth is what the hold of that sum in a sandbox is worth. -/
noncomputable def Try.pinned : Pinned := { name := "ytadmoackacickaa", sum := "c33f56c15ec01e97c249d25b75584d1b7a66a9e469fb89780680a607980d6930", checked := Try.checked }
namespace Rows
def none {H : Type} : Left H := { results := [], args := [] }

/-- 'laws.FnExactLex': WHATEVER THE INPUT: true; the input reads as it did. -/
def fnExactLexSpec : ChangeSpec := { name := "fnExactLex", fn := fun _ => fun
  | [d] => { results := [.lit (.bool true)], args := [d] }
  | _ => none }
def fnExactLexRow : OpenClaim := { program := "ytadmoackacickaa", sum := "c33f56c15ec01e97c249d25b75584d1b7a66a9e469fb89780680a607980d6930", func := "loop.example/g00101/laws.FnExactLex", spec := "fnExactLex", unfollowed := true, recurses := true, apart := false }
def FnExactLexSaid : Prop := fnExactLexRow.holds Try.pinned (OpenSpec.ofChange fnExactLexSpec)

/-- ITS FALSE NEIGHBOUR: 'it returns false'. Refute it at one input. -/
def fnExactLexWrong : ChangeSpec := { name := "fnExactLex", fn := fun _ => fun
  | [d] => { results := [.lit (.bool false)], args := [d] }
  | _ => none }
def FnExactLexWrongFalsely : Prop := fnExactLexRow.holds Try.pinned (OpenSpec.ofChange fnExactLexWrong)

/-- 'laws.FnExactTreeOk': WHATEVER THE INPUT: true; the input reads as it did. -/
def fnExactTreeOkSpec : ChangeSpec := { name := "fnExactTreeOk", fn := fun _ => fun
  | [d] => { results := [.lit (.bool true)], args := [d] }
  | _ => none }
def fnExactTreeOkRow : OpenClaim := { program := "ytadmoackacickaa", sum := "c33f56c15ec01e97c249d25b75584d1b7a66a9e469fb89780680a607980d6930", func := "loop.example/g00101/laws.FnExactTreeOk", spec := "fnExactTreeOk", unfollowed := true, recurses := true, apart := false }
def FnExactTreeOkSaid : Prop := fnExactTreeOkRow.holds Try.pinned (OpenSpec.ofChange fnExactTreeOkSpec)

/-- ITS FALSE NEIGHBOUR: 'it returns false'. Refute it at one input. -/
def fnExactTreeOkWrong : ChangeSpec := { name := "fnExactTreeOk", fn := fun _ => fun
  | [d] => { results := [.lit (.bool false)], args := [d] }
  | _ => none }
def FnExactTreeOkWrongFalsely : Prop := fnExactTreeOkRow.holds Try.pinned (OpenSpec.ofChange fnExactTreeOkWrong)

/-- 'laws.FnExactNestOf': WHATEVER THE INPUT: true; the input reads as it did. -/
def fnExactNestOfSpec : ChangeSpec := { name := "fnExactNestOf", fn := fun _ => fun
  | [d] => { results := [.lit (.bool true)], args := [d] }
  | _ => none }
def fnExactNestOfRow : OpenClaim := { program := "ytadmoackacickaa", sum := "c33f56c15ec01e97c249d25b75584d1b7a66a9e469fb89780680a607980d6930", func := "loop.example/g00101/laws.FnExactNestOf", spec := "fnExactNestOf", unfollowed := true, recurses := true, apart := false }
def FnExactNestOfSaid : Prop := fnExactNestOfRow.holds Try.pinned (OpenSpec.ofChange fnExactNestOfSpec)

/-- ITS FALSE NEIGHBOUR: 'it returns false'. Refute it at one input. -/
def fnExactNestOfWrong : ChangeSpec := { name := "fnExactNestOf", fn := fun _ => fun
  | [d] => { results := [.lit (.bool false)], args := [d] }
  | _ => none }
def FnExactNestOfWrongFalsely : Prop := fnExactNestOfRow.holds Try.pinned (OpenSpec.ofChange fnExactNestOfWrong)

/-- 'laws.FnBinds': WHATEVER THE INPUT: true; the input reads as it did. -/
def fnBindsSpec : ChangeSpec := { name := "fnBinds", fn := fun _ => fun
  | [d] => { results := [.lit (.bool true)], args := [d] }
  | _ => none }
def fnBindsRow : OpenClaim := { program := "ytadmoackacickaa", sum := "c33f56c15ec01e97c249d25b75584d1b7a66a9e469fb89780680a607980d6930", func := "loop.example/g00101/laws.FnBinds", spec := "fnBinds", unfollowed := true, recurses := true, apart := false }
def FnBindsSaid : Prop := fnBindsRow.holds Try.pinned (OpenSpec.ofChange fnBindsSpec)

/-- ITS FALSE NEIGHBOUR: 'it returns false'. Refute it at one input. -/
def fnBindsWrong : ChangeSpec := { name := "fnBinds", fn := fun _ => fun
  | [d] => { results := [.lit (.bool false)], args := [d] }
  | _ => none }
def FnBindsWrongFalsely : Prop := fnBindsRow.holds Try.pinned (OpenSpec.ofChange fnBindsWrong)

/-- 'laws.FnExactSizesOf': WHATEVER THE INPUT: true; the input reads as it did. -/
def fnExactSizesOfSpec : ChangeSpec := { name := "fnExactSizesOf", fn := fun _ => fun
  | [d] => { results := [.lit (.bool true)], args := [d] }
  | _ => none }
def fnExactSizesOfRow : OpenClaim := { program := "ytadmoackacickaa", sum := "c33f56c15ec01e97c249d25b75584d1b7a66a9e469fb89780680a607980d6930", func := "loop.example/g00101/laws.FnExactSizesOf", spec := "fnExactSizesOf", unfollowed := true, recurses := true, apart := false }
def FnExactSizesOfSaid : Prop := fnExactSizesOfRow.holds Try.pinned (OpenSpec.ofChange fnExactSizesOfSpec)

/-- ITS FALSE NEIGHBOUR: 'it returns false'. Refute it at one input. -/
def fnExactSizesOfWrong : ChangeSpec := { name := "fnExactSizesOf", fn := fun _ => fun
  | [d] => { results := [.lit (.bool false)], args := [d] }
  | _ => none }
def FnExactSizesOfWrongFalsely : Prop := fnExactSizesOfRow.holds Try.pinned (OpenSpec.ofChange fnExactSizesOfWrong)

/-- 'laws.FnLexAgain': WHATEVER THE INPUT: true; the input reads as it did. -/
def fnLexAgainSpec : ChangeSpec := { name := "fnLexAgain", fn := fun _ => fun
  | [d] => { results := [.lit (.bool true)], args := [d] }
  | _ => none }
def fnLexAgainRow : OpenClaim := { program := "ytadmoackacickaa", sum := "c33f56c15ec01e97c249d25b75584d1b7a66a9e469fb89780680a607980d6930", func := "loop.example/g00101/laws.FnLexAgain", spec := "fnLexAgain", unfollowed := true, recurses := true, apart := false }
def FnLexAgainSaid : Prop := fnLexAgainRow.holds Try.pinned (OpenSpec.ofChange fnLexAgainSpec)

/-- ITS FALSE NEIGHBOUR: 'it returns false'. Refute it at one input. -/
def fnLexAgainWrong : ChangeSpec := { name := "fnLexAgain", fn := fun _ => fun
  | [d] => { results := [.lit (.bool false)], args := [d] }
  | _ => none }
def FnLexAgainWrongFalsely : Prop := fnLexAgainRow.holds Try.pinned (OpenSpec.ofChange fnLexAgainWrong)

/-- 'laws.FnExactFreeNames': WHATEVER THE INPUT: true; the input reads as it did. -/
def fnExactFreeNamesSpec : ChangeSpec := { name := "fnExactFreeNames", fn := fun _ => fun
  | [d] => { results := [.lit (.bool true)], args := [d] }
  | _ => none }
def fnExactFreeNamesRow : OpenClaim := { program := "ytadmoackacickaa", sum := "c33f56c15ec01e97c249d25b75584d1b7a66a9e469fb89780680a607980d6930", func := "loop.example/g00101/laws.FnExactFreeNames", spec := "fnExactFreeNames", unfollowed := true, recurses := true, apart := false }
def FnExactFreeNamesSaid : Prop := fnExactFreeNamesRow.holds Try.pinned (OpenSpec.ofChange fnExactFreeNamesSpec)

/-- ITS FALSE NEIGHBOUR: 'it returns false'. Refute it at one input. -/
def fnExactFreeNamesWrong : ChangeSpec := { name := "fnExactFreeNames", fn := fun _ => fun
  | [d] => { results := [.lit (.bool false)], args := [d] }
  | _ => none }
def FnExactFreeNamesWrongFalsely : Prop := fnExactFreeNamesRow.holds Try.pinned (OpenSpec.ofChange fnExactFreeNamesWrong)

/-- 'laws.FnExactFold': WHATEVER THE INPUT: true; the input reads as it did. -/
def fnExactFoldSpec : ChangeSpec := { name := "fnExactFold", fn := fun _ => fun
  | [d] => { results := [.lit (.bool true)], args := [d] }
  | _ => none }
def fnExactFoldRow : OpenClaim := { program := "ytadmoackacickaa", sum := "c33f56c15ec01e97c249d25b75584d1b7a66a9e469fb89780680a607980d6930", func := "loop.example/g00101/laws.FnExactFold", spec := "fnExactFold", unfollowed := true, recurses := true, apart := false }
def FnExactFoldSaid : Prop := fnExactFoldRow.holds Try.pinned (OpenSpec.ofChange fnExactFoldSpec)

/-- ITS FALSE NEIGHBOUR: 'it returns false'. Refute it at one input. -/
def fnExactFoldWrong : ChangeSpec := { name := "fnExactFold", fn := fun _ => fun
  | [d] => { results := [.lit (.bool false)], args := [d] }
  | _ => none }
def FnExactFoldWrongFalsely : Prop := fnExactFoldRow.holds Try.pinned (OpenSpec.ofChange fnExactFoldWrong)

/-- 'laws.FnExactPrint': WHATEVER THE INPUT: true; the input reads as it did. -/
def fnExactPrintSpec : ChangeSpec := { name := "fnExactPrint", fn := fun _ => fun
  | [d] => { results := [.lit (.bool true)], args := [d] }
  | _ => none }
def fnExactPrintRow : OpenClaim := { program := "ytadmoackacickaa", sum := "c33f56c15ec01e97c249d25b75584d1b7a66a9e469fb89780680a607980d6930", func := "loop.example/g00101/laws.FnExactPrint", spec := "fnExactPrint", unfollowed := true, recurses := true, apart := false }
def FnExactPrintSaid : Prop := fnExactPrintRow.holds Try.pinned (OpenSpec.ofChange fnExactPrintSpec)

/-- ITS FALSE NEIGHBOUR: 'it returns false'. Refute it at one input. -/
def fnExactPrintWrong : ChangeSpec := { name := "fnExactPrint", fn := fun _ => fun
  | [d] => { results := [.lit (.bool false)], args := [d] }
  | _ => none }
def FnExactPrintWrongFalsely : Prop := fnExactPrintRow.holds Try.pinned (OpenSpec.ofChange fnExactPrintWrong)

/-- 'laws.FnExactParse': WHATEVER THE INPUT: true; the input reads as it did. -/
def fnExactParseSpec : ChangeSpec := { name := "fnExactParse", fn := fun _ => fun
  | [d] => { results := [.lit (.bool true)], args := [d] }
  | _ => none }
def fnExactParseRow : OpenClaim := { program := "ytadmoackacickaa", sum := "c33f56c15ec01e97c249d25b75584d1b7a66a9e469fb89780680a607980d6930", func := "loop.example/g00101/laws.FnExactParse", spec := "fnExactParse", unfollowed := true, recurses := true, apart := false }
def FnExactParseSaid : Prop := fnExactParseRow.holds Try.pinned (OpenSpec.ofChange fnExactParseSpec)

/-- ITS FALSE NEIGHBOUR: 'it returns false'. Refute it at one input. -/
def fnExactParseWrong : ChangeSpec := { name := "fnExactParse", fn := fun _ => fun
  | [d] => { results := [.lit (.bool false)], args := [d] }
  | _ => none }
def FnExactParseWrongFalsely : Prop := fnExactParseRow.holds Try.pinned (OpenSpec.ofChange fnExactParseWrong)

/-- 'laws.FnExactBoxedOf': WHATEVER THE INPUT: true; the input reads as it did. -/
def fnExactBoxedOfSpec : ChangeSpec := { name := "fnExactBoxedOf", fn := fun _ => fun
  | [d] => { results := [.lit (.bool true)], args := [d] }
  | _ => none }
def fnExactBoxedOfRow : OpenClaim := { program := "ytadmoackacickaa", sum := "c33f56c15ec01e97c249d25b75584d1b7a66a9e469fb89780680a607980d6930", func := "loop.example/g00101/laws.FnExactBoxedOf", spec := "fnExactBoxedOf", unfollowed := true, recurses := true, apart := false }
def FnExactBoxedOfSaid : Prop := fnExactBoxedOfRow.holds Try.pinned (OpenSpec.ofChange fnExactBoxedOfSpec)

/-- ITS FALSE NEIGHBOUR: 'it returns false'. Refute it at one input. -/
def fnExactBoxedOfWrong : ChangeSpec := { name := "fnExactBoxedOf", fn := fun _ => fun
  | [d] => { results := [.lit (.bool false)], args := [d] }
  | _ => none }
def FnExactBoxedOfWrongFalsely : Prop := fnExactBoxedOfRow.holds Try.pinned (OpenSpec.ofChange fnExactBoxedOfWrong)

/- THE SECOND FORM. 'bulk': how many values and letters a reading holds, each counted each time it is reached (what is shared counts as often as it is met; a slice's spare places count too). A statement '..UptoSaid' is the law's where the arguments, and the package variables that the reading takes, are together of bulk at most 1048576: NARROWER than '..Said'. Prove '..Said' where nothing that the law and all that it calls make is longer than what came in: it says more and counts as full. Else prove '..UptoSaid'. A law counts once. -/
mutual
def uptoBulk {H : Type} : DataW H → Nat
  | .lit (.string bytes) => bytes.length + 1
  | .lit _ => 1
  | .nil => 1
  | .ptr d => uptoBulk d + 1
  | .slice elems spare => uptoBulkAll elems + uptoBulkAll spare + 1
  | .agg parts => uptoBulkAll parts + 1
  | .iface _ d => uptoBulk d + 1
  | .map entries => uptoBulkEntries entries + 1
  | .held _ => 1
def uptoBulkAll {H : Type} : List (DataW H) → Nat
  | [] => 0
  | d :: r => uptoBulk d + uptoBulkAll r
def uptoBulkEntries {H : Type} : List (Lit × DataW H) → Nat
  | [] => 0
  | x :: r => uptoBulkEntry x + uptoBulkEntries r
def uptoBulkEntry {H : Type} : Lit × DataW H → Nat
  | (.string bytes, d) => bytes.length + uptoBulk d + 1
  | (_, d) => uptoBulk d + 1
 end
def uptoSmall : (H : Type) → List (DataW H) → Bool := fun _ ds => decide (uptoBulkAll ds ≤ 1048576)
def OpenSpec.upto (s : _root_.Go.ChangeSpec) : _root_.Go.OpenSpec := { _root_.Go.OpenSpec.ofChange s with cond := some uptoSmall }

/-- 'laws.FnExactLex', WHERE WHAT IT READS IS OF BULK AT MOST 1048576: true; the input reads as it did. -/
def fnExactLexUptoRow : OpenClaim := { program := "ytadmoackacickaa", sum := "c33f56c15ec01e97c249d25b75584d1b7a66a9e469fb89780680a607980d6930", func := "loop.example/g00101/laws.FnExactLex", spec := "fnExactLex", unfollowed := true, recurses := true, apart := false, narrowed := true }
def FnExactLexUptoSaid : Prop := fnExactLexUptoRow.holds Try.pinned (OpenSpec.upto fnExactLexSpec)

/-- 'laws.FnExactTreeOk', WHERE WHAT IT READS IS OF BULK AT MOST 1048576: true; the input reads as it did. -/
def fnExactTreeOkUptoRow : OpenClaim := { program := "ytadmoackacickaa", sum := "c33f56c15ec01e97c249d25b75584d1b7a66a9e469fb89780680a607980d6930", func := "loop.example/g00101/laws.FnExactTreeOk", spec := "fnExactTreeOk", unfollowed := true, recurses := true, apart := false, narrowed := true }
def FnExactTreeOkUptoSaid : Prop := fnExactTreeOkUptoRow.holds Try.pinned (OpenSpec.upto fnExactTreeOkSpec)

/-- 'laws.FnExactNestOf', WHERE WHAT IT READS IS OF BULK AT MOST 1048576: true; the input reads as it did. -/
def fnExactNestOfUptoRow : OpenClaim := { program := "ytadmoackacickaa", sum := "c33f56c15ec01e97c249d25b75584d1b7a66a9e469fb89780680a607980d6930", func := "loop.example/g00101/laws.FnExactNestOf", spec := "fnExactNestOf", unfollowed := true, recurses := true, apart := false, narrowed := true }
def FnExactNestOfUptoSaid : Prop := fnExactNestOfUptoRow.holds Try.pinned (OpenSpec.upto fnExactNestOfSpec)

/-- 'laws.FnBinds', WHERE WHAT IT READS IS OF BULK AT MOST 1048576: true; the input reads as it did. -/
def fnBindsUptoRow : OpenClaim := { program := "ytadmoackacickaa", sum := "c33f56c15ec01e97c249d25b75584d1b7a66a9e469fb89780680a607980d6930", func := "loop.example/g00101/laws.FnBinds", spec := "fnBinds", unfollowed := true, recurses := true, apart := false, narrowed := true }
def FnBindsUptoSaid : Prop := fnBindsUptoRow.holds Try.pinned (OpenSpec.upto fnBindsSpec)

/-- 'laws.FnExactSizesOf', WHERE WHAT IT READS IS OF BULK AT MOST 1048576: true; the input reads as it did. -/
def fnExactSizesOfUptoRow : OpenClaim := { program := "ytadmoackacickaa", sum := "c33f56c15ec01e97c249d25b75584d1b7a66a9e469fb89780680a607980d6930", func := "loop.example/g00101/laws.FnExactSizesOf", spec := "fnExactSizesOf", unfollowed := true, recurses := true, apart := false, narrowed := true }
def FnExactSizesOfUptoSaid : Prop := fnExactSizesOfUptoRow.holds Try.pinned (OpenSpec.upto fnExactSizesOfSpec)

/-- 'laws.FnLexAgain', WHERE WHAT IT READS IS OF BULK AT MOST 1048576: true; the input reads as it did. -/
def fnLexAgainUptoRow : OpenClaim := { program := "ytadmoackacickaa", sum := "c33f56c15ec01e97c249d25b75584d1b7a66a9e469fb89780680a607980d6930", func := "loop.example/g00101/laws.FnLexAgain", spec := "fnLexAgain", unfollowed := true, recurses := true, apart := false, narrowed := true }
def FnLexAgainUptoSaid : Prop := fnLexAgainUptoRow.holds Try.pinned (OpenSpec.upto fnLexAgainSpec)

/-- 'laws.FnExactFreeNames', WHERE WHAT IT READS IS OF BULK AT MOST 1048576: true; the input reads as it did. -/
def fnExactFreeNamesUptoRow : OpenClaim := { program := "ytadmoackacickaa", sum := "c33f56c15ec01e97c249d25b75584d1b7a66a9e469fb89780680a607980d6930", func := "loop.example/g00101/laws.FnExactFreeNames", spec := "fnExactFreeNames", unfollowed := true, recurses := true, apart := false, narrowed := true }
def FnExactFreeNamesUptoSaid : Prop := fnExactFreeNamesUptoRow.holds Try.pinned (OpenSpec.upto fnExactFreeNamesSpec)

/-- 'laws.FnExactFold', WHERE WHAT IT READS IS OF BULK AT MOST 1048576: true; the input reads as it did. -/
def fnExactFoldUptoRow : OpenClaim := { program := "ytadmoackacickaa", sum := "c33f56c15ec01e97c249d25b75584d1b7a66a9e469fb89780680a607980d6930", func := "loop.example/g00101/laws.FnExactFold", spec := "fnExactFold", unfollowed := true, recurses := true, apart := false, narrowed := true }
def FnExactFoldUptoSaid : Prop := fnExactFoldUptoRow.holds Try.pinned (OpenSpec.upto fnExactFoldSpec)

/-- 'laws.FnExactPrint', WHERE WHAT IT READS IS OF BULK AT MOST 1048576: true; the input reads as it did. -/
def fnExactPrintUptoRow : OpenClaim := { program := "ytadmoackacickaa", sum := "c33f56c15ec01e97c249d25b75584d1b7a66a9e469fb89780680a607980d6930", func := "loop.example/g00101/laws.FnExactPrint", spec := "fnExactPrint", unfollowed := true, recurses := true, apart := false, narrowed := true }
def FnExactPrintUptoSaid : Prop := fnExactPrintUptoRow.holds Try.pinned (OpenSpec.upto fnExactPrintSpec)

/-- 'laws.FnExactParse', WHERE WHAT IT READS IS OF BULK AT MOST 1048576: true; the input reads as it did. -/
def fnExactParseUptoRow : OpenClaim := { program := "ytadmoackacickaa", sum := "c33f56c15ec01e97c249d25b75584d1b7a66a9e469fb89780680a607980d6930", func := "loop.example/g00101/laws.FnExactParse", spec := "fnExactParse", unfollowed := true, recurses := true, apart := false, narrowed := true }
def FnExactParseUptoSaid : Prop := fnExactParseUptoRow.holds Try.pinned (OpenSpec.upto fnExactParseSpec)

/-- 'laws.FnExactBoxedOf', WHERE WHAT IT READS IS OF BULK AT MOST 1048576: true; the input reads as it did. -/
def fnExactBoxedOfUptoRow : OpenClaim := { program := "ytadmoackacickaa", sum := "c33f56c15ec01e97c249d25b75584d1b7a66a9e469fb89780680a607980d6930", func := "loop.example/g00101/laws.FnExactBoxedOf", spec := "fnExactBoxedOf", unfollowed := true, recurses := true, apart := false, narrowed := true }
def FnExactBoxedOfUptoSaid : Prop := fnExactBoxedOfUptoRow.holds Try.pinned (OpenSpec.upto fnExactBoxedOfSpec)

end Rows
end Go.Proofs.Ytadmoackacickaa
