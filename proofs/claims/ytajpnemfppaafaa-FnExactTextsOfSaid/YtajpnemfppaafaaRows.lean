/-
  No cell of these rows narrows 'for every input' (looked for: loops, veiled, ifaces, maps, wideKeys, modest, calm, conditions, laid).
  DERIVED. THE GIVEN ROWS OF THIS SEAT. 3 by the template 'for every input the law returns true; each argument reads behind the call as it read before'; 0 by the template 'total and deterministic' (their statements: YtajpnemfppaafaaTotals.lean).
  GIVEN WITH THE SEED: the statements are not yours to turn. If you find one false, say at which input.
  Laid BY PROGRAM, IN A SANDBOX (cutbox-rows.mjs): the forced cells as the released guide's own fill.sh prints them over the translation ade29a73807d185e… (all of the seat's roots in one cut). By AI agents, Wed Nov 11 2026. No macro, syntax, notation, axiom, sorry.
-/
import Derived.Test.YtajpnemfppaafaaChecked
import GoSem.Claim
import GoSem.ClaimJoined
import GoSem.ClaimMapViews
import Derived.JoinedTies
import Derived.KernelRfl
namespace Go.Proofs.Ytajpnemfppaafaa
/- THE CELL 'sum', in the pinned program and in every row, IS THE sha256 OF THE DUMP (.gsa) THAT YtajpnemfppaafaaProg.lean LOADS. Nothing in Lean hashes anything: it is a label: what it is worth is what the hold of that sum in a sandbox is worth. -/
noncomputable def Try.pinned : Pinned := { name := "ytajpnemfppaafaa", sum := "ade29a73807d185e6af2bfe9c00d8c9ed1318810d10faf4c6ff6b7dcea72c4e8", checked := Try.checked }
namespace Rows
def none {H : Type} : Left H := { results := [], args := [] }

/-- 'laws.FnExactHashOf': WHATEVER THE INPUT: true; the input reads as it did. -/
def fnExactHashOfSpec : ChangeSpec := { name := "fnExactHashOf", fn := fun _ => fun
  | [d1, d2] => { results := [.lit (.bool true)], args := [d1, d2] }
  | _ => none }
def fnExactHashOfRow : OpenClaim := { program := "ytajpnemfppaafaa", sum := "ade29a73807d185e6af2bfe9c00d8c9ed1318810d10faf4c6ff6b7dcea72c4e8", func := "loop.example/g00101/laws.FnExactHashOf", spec := "fnExactHashOf", unfollowed := true, recurses := true, apart := false }
def FnExactHashOfSaid : Prop := fnExactHashOfRow.holds Try.pinned (OpenSpec.ofChange fnExactHashOfSpec)

/-- ITS FALSE NEIGHBOUR: 'it returns false'. Refute it at one input. -/
def fnExactHashOfWrong : ChangeSpec := { name := "fnExactHashOf", fn := fun _ => fun
  | [d1, d2] => { results := [.lit (.bool false)], args := [d1, d2] }
  | _ => none }
def FnExactHashOfWrongFalsely : Prop := fnExactHashOfRow.holds Try.pinned (OpenSpec.ofChange fnExactHashOfWrong)

/-- 'laws.FnExactTextsOf': WHATEVER THE INPUT: true; the input reads as it did. -/
def fnExactTextsOfSpec : ChangeSpec := { name := "fnExactTextsOf", fn := fun _ => fun
  | [d] => { results := [.lit (.bool true)], args := [d] }
  | _ => none }
def fnExactTextsOfRow : OpenClaim := { program := "ytajpnemfppaafaa", sum := "ade29a73807d185e6af2bfe9c00d8c9ed1318810d10faf4c6ff6b7dcea72c4e8", func := "loop.example/g00101/laws.FnExactTextsOf", spec := "fnExactTextsOf", unfollowed := true, recurses := true, apart := false }
def FnExactTextsOfSaid : Prop := fnExactTextsOfRow.holds Try.pinned (OpenSpec.ofChange fnExactTextsOfSpec)

/-- ITS FALSE NEIGHBOUR: 'it returns false'. Refute it at one input. -/
def fnExactTextsOfWrong : ChangeSpec := { name := "fnExactTextsOf", fn := fun _ => fun
  | [d] => { results := [.lit (.bool false)], args := [d] }
  | _ => none }
def FnExactTextsOfWrongFalsely : Prop := fnExactTextsOfRow.holds Try.pinned (OpenSpec.ofChange fnExactTextsOfWrong)

/-- 'laws.FnExactBoxedOf': WHATEVER THE INPUT: true; the input reads as it did. -/
def fnExactBoxedOfSpec : ChangeSpec := { name := "fnExactBoxedOf", fn := fun _ => fun
  | [d] => { results := [.lit (.bool true)], args := [d] }
  | _ => none }
def fnExactBoxedOfRow : OpenClaim := { program := "ytajpnemfppaafaa", sum := "ade29a73807d185e6af2bfe9c00d8c9ed1318810d10faf4c6ff6b7dcea72c4e8", func := "loop.example/g00101/laws.FnExactBoxedOf", spec := "fnExactBoxedOf", unfollowed := true, recurses := true, apart := false }
def FnExactBoxedOfSaid : Prop := fnExactBoxedOfRow.holds Try.pinned (OpenSpec.ofChange fnExactBoxedOfSpec)

/-- ITS FALSE NEIGHBOUR: 'it returns false'. Refute it at one input. -/
def fnExactBoxedOfWrong : ChangeSpec := { name := "fnExactBoxedOf", fn := fun _ => fun
  | [d] => { results := [.lit (.bool false)], args := [d] }
  | _ => none }
def FnExactBoxedOfWrongFalsely : Prop := fnExactBoxedOfRow.holds Try.pinned (OpenSpec.ofChange fnExactBoxedOfWrong)

/- THE SECOND FORM. 'bulk': how many values and letters a reading holds, each counted each time it is reached (what is shared counts as often as it is met; a slice's spare places count too). A statement '..UptoSaid' is the law's where the arguments, and the package variables that the reading takes, are together of bulk at most 1048576: NARROWER than '..Said'. Prove '..Said' where nothing that the law and all that it calls make is longer than what came in: it says more and counts as full. Else prove '..UptoSaid'. A law counts once. -/
mutual
def uptoBulk {H : Type} : DataW H → Nat
  | .lit (.string bytes) => bytes.length + 1
  | .lit _ => 1
  | .nil => 1
  | .ptr d => uptoBulk d + 1
  | .slice elems spare => uptoBulkAll elems + uptoBulkAll spare + 1
  | .agg parts => uptoBulkAll parts + 1
  | .iface _ d => uptoBulk d + 1
  | .map entries => uptoBulkEntries entries + 1
  | .held _ => 1
def uptoBulkAll {H : Type} : List (DataW H) → Nat
  | [] => 0
  | d :: r => uptoBulk d + uptoBulkAll r
def uptoBulkEntries {H : Type} : List (Lit × DataW H) → Nat
  | [] => 0
  | x :: r => uptoBulkEntry x + uptoBulkEntries r
def uptoBulkEntry {H : Type} : Lit × DataW H → Nat
  | (.string bytes, d) => bytes.length + uptoBulk d + 1
  | (_, d) => uptoBulk d + 1
 end
def uptoSmall : (H : Type) → List (DataW H) → Bool := fun _ ds => decide (uptoBulkAll ds ≤ 1048576)
def OpenSpec.upto (s : _root_.Go.ChangeSpec) : _root_.Go.OpenSpec := { _root_.Go.OpenSpec.ofChange s with cond := some uptoSmall }

/-- 'laws.FnExactHashOf', WHERE WHAT IT READS IS OF BULK AT MOST 1048576: true; the input reads as it did. -/
def fnExactHashOfUptoRow : OpenClaim := { program := "ytajpnemfppaafaa", sum := "ade29a73807d185e6af2bfe9c00d8c9ed1318810d10faf4c6ff6b7dcea72c4e8", func := "loop.example/g00101/laws.FnExactHashOf", spec := "fnExactHashOf", unfollowed := true, recurses := true, apart := false, narrowed := true }
def FnExactHashOfUptoSaid : Prop := fnExactHashOfUptoRow.holds Try.pinned (OpenSpec.upto fnExactHashOfSpec)

/-- 'laws.FnExactTextsOf', WHERE WHAT IT READS IS OF BULK AT MOST 1048576: true; the input reads as it did. -/
def fnExactTextsOfUptoRow : OpenClaim := { program := "ytajpnemfppaafaa", sum := "ade29a73807d185e6af2bfe9c00d8c9ed1318810d10faf4c6ff6b7dcea72c4e8", func := "loop.example/g00101/laws.FnExactTextsOf", spec := "fnExactTextsOf", unfollowed := true, recurses := true, apart := false, narrowed := true }
def FnExactTextsOfUptoSaid : Prop := fnExactTextsOfUptoRow.holds Try.pinned (OpenSpec.upto fnExactTextsOfSpec)

/-- 'laws.FnExactBoxedOf', WHERE WHAT IT READS IS OF BULK AT MOST 1048576: true; the input reads as it did. -/
def fnExactBoxedOfUptoRow : OpenClaim := { program := "ytajpnemfppaafaa", sum := "ade29a73807d185e6af2bfe9c00d8c9ed1318810d10faf4c6ff6b7dcea72c4e8", func := "loop.example/g00101/laws.FnExactBoxedOf", spec := "fnExactBoxedOf", unfollowed := true, recurses := true, apart := false, narrowed := true }
def FnExactBoxedOfUptoSaid : Prop := fnExactBoxedOfUptoRow.holds Try.pinned (OpenSpec.upto fnExactBoxedOfSpec)

end Rows
end Go.Proofs.Ytajpnemfppaafaa
