/-
  No cell of these rows narrows 'for every input' (looked for: loops, veiled, ifaces, maps, wideKeys, modest, calm, conditions, laid).
  DERIVED. THE GIVEN ROWS OF THIS SEAT. 9 by the template 'for every input the law returns true; each argument reads behind the call as it read before'; 0 by the template 'total and deterministic' (their statements: YtajpnemfppaafaaGreatTotals.lean).
  GIVEN WITH THE SEED: the statements are not yours to turn. If you find one false, say at which input.
  Laid BY PROGRAM, IN A SANDBOX (cutbox-rows.mjs): the forced cells as the released guide's own fill.sh prints them over the translation 82f5d355606478e3… (all of the seat's roots in one cut). By AI agents, Wed Nov 11 2026. No macro, syntax, notation, axiom, sorry.
-/
import Derived.Test.YtajpnemfppaafaaGreatChecked
import GoSem.Claim
import GoSem.ClaimJoined
import GoSem.ClaimMapViews
import Derived.JoinedTies
import Derived.KernelRfl
namespace Go.Proofs.YtajpnemfppaafaaGreat
/- THE CELL 'sum', in the pinned program and in every row, IS THE sha256 OF THE DUMP (.gsa) THAT YtajpnemfppaafaaGreatProg.lean LOADS. Nothing in Lean hashes anything: it is a label: what it is worth is what the hold of that sum in a sandbox is worth. -/
noncomputable def Tryz.pinned : Pinned := { name := "ytajpnemfppaafaagreat", sum := "82f5d355606478e30e325d2356d367d7a4639640a49bf9eba1aff8359c4b5089", checked := Tryz.checked }
namespace Rows
def none {H : Type} : Left H := { results := [], args := [] }

/-- 'laws.FnExactShare': WHATEVER THE INPUT: true; the input reads as it did. -/
def fnExactShareSpec : ChangeSpec := { name := "fnExactShare", fn := fun _ => fun
  | [d] => { results := [.lit (.bool true)], args := [d] }
  | _ => none }
def fnExactShareRow : OpenClaim := { program := "ytajpnemfppaafaagreat", sum := "82f5d355606478e30e325d2356d367d7a4639640a49bf9eba1aff8359c4b5089", func := "loop.example/g00101/laws.FnExactShare", spec := "fnExactShare", unfollowed := true, recurses := true, apart := false }
def FnExactShareSaid : Prop := fnExactShareRow.holds Tryz.pinned (OpenSpec.ofChange fnExactShareSpec)

/-- ITS FALSE NEIGHBOUR: 'it returns false'. Refute it at one input. -/
def fnExactShareWrong : ChangeSpec := { name := "fnExactShare", fn := fun _ => fun
  | [d] => { results := [.lit (.bool false)], args := [d] }
  | _ => none }
def FnExactShareWrongFalsely : Prop := fnExactShareRow.holds Tryz.pinned (OpenSpec.ofChange fnExactShareWrong)

/-- 'laws.FnParseOk': WHATEVER THE INPUT: true; the input reads as it did. -/
def fnParseOkSpec : ChangeSpec := { name := "fnParseOk", fn := fun _ => fun
  | [d] => { results := [.lit (.bool true)], args := [d] }
  | _ => none }
def fnParseOkRow : OpenClaim := { program := "ytajpnemfppaafaagreat", sum := "82f5d355606478e30e325d2356d367d7a4639640a49bf9eba1aff8359c4b5089", func := "loop.example/g00101/laws.FnParseOk", spec := "fnParseOk", unfollowed := true, recurses := true, apart := false }
def FnParseOkSaid : Prop := fnParseOkRow.holds Tryz.pinned (OpenSpec.ofChange fnParseOkSpec)

/-- ITS FALSE NEIGHBOUR: 'it returns false'. Refute it at one input. -/
def fnParseOkWrong : ChangeSpec := { name := "fnParseOk", fn := fun _ => fun
  | [d] => { results := [.lit (.bool false)], args := [d] }
  | _ => none }
def FnParseOkWrongFalsely : Prop := fnParseOkRow.holds Tryz.pinned (OpenSpec.ofChange fnParseOkWrong)

/-- 'laws.FnHash': WHATEVER THE INPUT: true; the input reads as it did. -/
def fnHashSpec : ChangeSpec := { name := "fnHash", fn := fun _ => fun
  | [d] => { results := [.lit (.bool true)], args := [d] }
  | _ => none }
def fnHashRow : OpenClaim := { program := "ytajpnemfppaafaagreat", sum := "82f5d355606478e30e325d2356d367d7a4639640a49bf9eba1aff8359c4b5089", func := "loop.example/g00101/laws.FnHash", spec := "fnHash", unfollowed := true, recurses := true, apart := false }
def FnHashSaid : Prop := fnHashRow.holds Tryz.pinned (OpenSpec.ofChange fnHashSpec)

/-- ITS FALSE NEIGHBOUR: 'it returns false'. Refute it at one input. -/
def fnHashWrong : ChangeSpec := { name := "fnHash", fn := fun _ => fun
  | [d] => { results := [.lit (.bool false)], args := [d] }
  | _ => none }
def FnHashWrongFalsely : Prop := fnHashRow.holds Tryz.pinned (OpenSpec.ofChange fnHashWrong)

/-- 'laws.FnExactHolders': WHATEVER THE INPUT: true; the input reads as it did. -/
def fnExactHoldersSpec : ChangeSpec := { name := "fnExactHolders", fn := fun _ => fun
  | [d1, d2] => { results := [.lit (.bool true)], args := [d1, d2] }
  | _ => none }
def fnExactHoldersRow : OpenClaim := { program := "ytajpnemfppaafaagreat", sum := "82f5d355606478e30e325d2356d367d7a4639640a49bf9eba1aff8359c4b5089", func := "loop.example/g00101/laws.FnExactHolders", spec := "fnExactHolders", unfollowed := true, recurses := true, apart := false }
def FnExactHoldersSaid : Prop := fnExactHoldersRow.holds Tryz.pinned (OpenSpec.ofChange fnExactHoldersSpec)

/-- ITS FALSE NEIGHBOUR: 'it returns false'. Refute it at one input. -/
def fnExactHoldersWrong : ChangeSpec := { name := "fnExactHolders", fn := fun _ => fun
  | [d1, d2] => { results := [.lit (.bool false)], args := [d1, d2] }
  | _ => none }
def FnExactHoldersWrongFalsely : Prop := fnExactHoldersRow.holds Tryz.pinned (OpenSpec.ofChange fnExactHoldersWrong)

/-- 'laws.FnFree': WHATEVER THE INPUT: true; the input reads as it did. -/
def fnFreeSpec : ChangeSpec := { name := "fnFree", fn := fun _ => fun
  | [d] => { results := [.lit (.bool true)], args := [d] }
  | _ => none }
def fnFreeRow : OpenClaim := { program := "ytajpnemfppaafaagreat", sum := "82f5d355606478e30e325d2356d367d7a4639640a49bf9eba1aff8359c4b5089", func := "loop.example/g00101/laws.FnFree", spec := "fnFree", unfollowed := true, recurses := true, apart := false }
def FnFreeSaid : Prop := fnFreeRow.holds Tryz.pinned (OpenSpec.ofChange fnFreeSpec)

/-- ITS FALSE NEIGHBOUR: 'it returns false'. Refute it at one input. -/
def fnFreeWrong : ChangeSpec := { name := "fnFree", fn := fun _ => fun
  | [d] => { results := [.lit (.bool false)], args := [d] }
  | _ => none }
def FnFreeWrongFalsely : Prop := fnFreeRow.holds Tryz.pinned (OpenSpec.ofChange fnFreeWrong)

/-- 'laws.FnSet': WHATEVER THE INPUT: true; the input reads as it did. -/
def fnSetSpec : ChangeSpec := { name := "fnSet", fn := fun _ => fun
  | [d] => { results := [.lit (.bool true)], args := [d] }
  | _ => none }
def fnSetRow : OpenClaim := { program := "ytajpnemfppaafaagreat", sum := "82f5d355606478e30e325d2356d367d7a4639640a49bf9eba1aff8359c4b5089", func := "loop.example/g00101/laws.FnSet", spec := "fnSet", unfollowed := true, recurses := true, apart := false }
def FnSetSaid : Prop := fnSetRow.holds Tryz.pinned (OpenSpec.ofChange fnSetSpec)

/-- ITS FALSE NEIGHBOUR: 'it returns false'. Refute it at one input. -/
def fnSetWrong : ChangeSpec := { name := "fnSet", fn := fun _ => fun
  | [d] => { results := [.lit (.bool false)], args := [d] }
  | _ => none }
def FnSetWrongFalsely : Prop := fnSetRow.holds Tryz.pinned (OpenSpec.ofChange fnSetWrong)

/-- 'laws.FnPrintParse': WHATEVER THE INPUT: true; the input reads as it did. -/
def fnPrintParseSpec : ChangeSpec := { name := "fnPrintParse", fn := fun _ => fun
  | [d] => { results := [.lit (.bool true)], args := [d] }
  | _ => none }
def fnPrintParseRow : OpenClaim := { program := "ytajpnemfppaafaagreat", sum := "82f5d355606478e30e325d2356d367d7a4639640a49bf9eba1aff8359c4b5089", func := "loop.example/g00101/laws.FnPrintParse", spec := "fnPrintParse", unfollowed := true, recurses := true, apart := false }
def FnPrintParseSaid : Prop := fnPrintParseRow.holds Tryz.pinned (OpenSpec.ofChange fnPrintParseSpec)

/-- ITS FALSE NEIGHBOUR: 'it returns false'. Refute it at one input. -/
def fnPrintParseWrong : ChangeSpec := { name := "fnPrintParse", fn := fun _ => fun
  | [d] => { results := [.lit (.bool false)], args := [d] }
  | _ => none }
def FnPrintParseWrongFalsely : Prop := fnPrintParseRow.holds Tryz.pinned (OpenSpec.ofChange fnPrintParseWrong)

/-- 'laws.FnBoxes': WHATEVER THE INPUT: true; the input reads as it did. -/
def fnBoxesSpec : ChangeSpec := { name := "fnBoxes", fn := fun _ => fun
  | [d] => { results := [.lit (.bool true)], args := [d] }
  | _ => none }
def fnBoxesRow : OpenClaim := { program := "ytajpnemfppaafaagreat", sum := "82f5d355606478e30e325d2356d367d7a4639640a49bf9eba1aff8359c4b5089", func := "loop.example/g00101/laws.FnBoxes", spec := "fnBoxes", unfollowed := true, recurses := true, apart := false }
def FnBoxesSaid : Prop := fnBoxesRow.holds Tryz.pinned (OpenSpec.ofChange fnBoxesSpec)

/-- ITS FALSE NEIGHBOUR: 'it returns false'. Refute it at one input. -/
def fnBoxesWrong : ChangeSpec := { name := "fnBoxes", fn := fun _ => fun
  | [d] => { results := [.lit (.bool false)], args := [d] }
  | _ => none }
def FnBoxesWrongFalsely : Prop := fnBoxesRow.holds Tryz.pinned (OpenSpec.ofChange fnBoxesWrong)

/-- 'laws.FnCode': WHATEVER THE INPUT: true; the input reads as it did. -/
def fnCodeSpec : ChangeSpec := { name := "fnCode", fn := fun _ => fun
  | [d] => { results := [.lit (.bool true)], args := [d] }
  | _ => none }
def fnCodeRow : OpenClaim := { program := "ytajpnemfppaafaagreat", sum := "82f5d355606478e30e325d2356d367d7a4639640a49bf9eba1aff8359c4b5089", func := "loop.example/g00101/laws.FnCode", spec := "fnCode", unfollowed := true, recurses := true, apart := false }
def FnCodeSaid : Prop := fnCodeRow.holds Tryz.pinned (OpenSpec.ofChange fnCodeSpec)

/-- ITS FALSE NEIGHBOUR: 'it returns false'. Refute it at one input. -/
def fnCodeWrong : ChangeSpec := { name := "fnCode", fn := fun _ => fun
  | [d] => { results := [.lit (.bool false)], args := [d] }
  | _ => none }
def FnCodeWrongFalsely : Prop := fnCodeRow.holds Tryz.pinned (OpenSpec.ofChange fnCodeWrong)

/- THE SECOND FORM. 'bulk': how many values and letters a reading holds, each counted each time it is reached (what is shared counts as often as it is met; a slice's spare places count too). A statement '..UptoSaid' is the law's where the arguments, and the package variables that the reading takes, are together of bulk at most 1048576: NARROWER than '..Said'. Prove '..Said' where nothing that the law and all that it calls make is longer than what came in: it says more and counts as full. Else prove '..UptoSaid'. A law counts once. -/
mutual
def uptoBulk {H : Type} : DataW H → Nat
  | .lit (.string bytes) => bytes.length + 1
  | .lit _ => 1
  | .nil => 1
  | .ptr d => uptoBulk d + 1
  | .slice elems spare => uptoBulkAll elems + uptoBulkAll spare + 1
  | .agg parts => uptoBulkAll parts + 1
  | .iface _ d => uptoBulk d + 1
  | .map entries => uptoBulkEntries entries + 1
  | .held _ => 1
def uptoBulkAll {H : Type} : List (DataW H) → Nat
  | [] => 0
  | d :: r => uptoBulk d + uptoBulkAll r
def uptoBulkEntries {H : Type} : List (Lit × DataW H) → Nat
  | [] => 0
  | x :: r => uptoBulkEntry x + uptoBulkEntries r
def uptoBulkEntry {H : Type} : Lit × DataW H → Nat
  | (.string bytes, d) => bytes.length + uptoBulk d + 1
  | (_, d) => uptoBulk d + 1
 end
def uptoSmall : (H : Type) → List (DataW H) → Bool := fun _ ds => decide (uptoBulkAll ds ≤ 1048576)
def OpenSpec.upto (s : _root_.Go.ChangeSpec) : _root_.Go.OpenSpec := { _root_.Go.OpenSpec.ofChange s with cond := some uptoSmall }

/-- 'laws.FnExactShare', WHERE WHAT IT READS IS OF BULK AT MOST 1048576: true; the input reads as it did. -/
def fnExactShareUptoRow : OpenClaim := { program := "ytajpnemfppaafaagreat", sum := "82f5d355606478e30e325d2356d367d7a4639640a49bf9eba1aff8359c4b5089", func := "loop.example/g00101/laws.FnExactShare", spec := "fnExactShare", unfollowed := true, recurses := true, apart := false, narrowed := true }
def FnExactShareUptoSaid : Prop := fnExactShareUptoRow.holds Tryz.pinned (OpenSpec.upto fnExactShareSpec)

/-- 'laws.FnParseOk', WHERE WHAT IT READS IS OF BULK AT MOST 1048576: true; the input reads as it did. -/
def fnParseOkUptoRow : OpenClaim := { program := "ytajpnemfppaafaagreat", sum := "82f5d355606478e30e325d2356d367d7a4639640a49bf9eba1aff8359c4b5089", func := "loop.example/g00101/laws.FnParseOk", spec := "fnParseOk", unfollowed := true, recurses := true, apart := false, narrowed := true }
def FnParseOkUptoSaid : Prop := fnParseOkUptoRow.holds Tryz.pinned (OpenSpec.upto fnParseOkSpec)

/-- 'laws.FnHash', WHERE WHAT IT READS IS OF BULK AT MOST 1048576: true; the input reads as it did. -/
def fnHashUptoRow : OpenClaim := { program := "ytajpnemfppaafaagreat", sum := "82f5d355606478e30e325d2356d367d7a4639640a49bf9eba1aff8359c4b5089", func := "loop.example/g00101/laws.FnHash", spec := "fnHash", unfollowed := true, recurses := true, apart := false, narrowed := true }
def FnHashUptoSaid : Prop := fnHashUptoRow.holds Tryz.pinned (OpenSpec.upto fnHashSpec)

/-- 'laws.FnExactHolders', WHERE WHAT IT READS IS OF BULK AT MOST 1048576: true; the input reads as it did. -/
def fnExactHoldersUptoRow : OpenClaim := { program := "ytajpnemfppaafaagreat", sum := "82f5d355606478e30e325d2356d367d7a4639640a49bf9eba1aff8359c4b5089", func := "loop.example/g00101/laws.FnExactHolders", spec := "fnExactHolders", unfollowed := true, recurses := true, apart := false, narrowed := true }
def FnExactHoldersUptoSaid : Prop := fnExactHoldersUptoRow.holds Tryz.pinned (OpenSpec.upto fnExactHoldersSpec)

/-- 'laws.FnFree', WHERE WHAT IT READS IS OF BULK AT MOST 1048576: true; the input reads as it did. -/
def fnFreeUptoRow : OpenClaim := { program := "ytajpnemfppaafaagreat", sum := "82f5d355606478e30e325d2356d367d7a4639640a49bf9eba1aff8359c4b5089", func := "loop.example/g00101/laws.FnFree", spec := "fnFree", unfollowed := true, recurses := true, apart := false, narrowed := true }
def FnFreeUptoSaid : Prop := fnFreeUptoRow.holds Tryz.pinned (OpenSpec.upto fnFreeSpec)

/-- 'laws.FnSet', WHERE WHAT IT READS IS OF BULK AT MOST 1048576: true; the input reads as it did. -/
def fnSetUptoRow : OpenClaim := { program := "ytajpnemfppaafaagreat", sum := "82f5d355606478e30e325d2356d367d7a4639640a49bf9eba1aff8359c4b5089", func := "loop.example/g00101/laws.FnSet", spec := "fnSet", unfollowed := true, recurses := true, apart := false, narrowed := true }
def FnSetUptoSaid : Prop := fnSetUptoRow.holds Tryz.pinned (OpenSpec.upto fnSetSpec)

/-- 'laws.FnPrintParse', WHERE WHAT IT READS IS OF BULK AT MOST 1048576: true; the input reads as it did. -/
def fnPrintParseUptoRow : OpenClaim := { program := "ytajpnemfppaafaagreat", sum := "82f5d355606478e30e325d2356d367d7a4639640a49bf9eba1aff8359c4b5089", func := "loop.example/g00101/laws.FnPrintParse", spec := "fnPrintParse", unfollowed := true, recurses := true, apart := false, narrowed := true }
def FnPrintParseUptoSaid : Prop := fnPrintParseUptoRow.holds Tryz.pinned (OpenSpec.upto fnPrintParseSpec)

/-- 'laws.FnBoxes', WHERE WHAT IT READS IS OF BULK AT MOST 1048576: true; the input reads as it did. -/
def fnBoxesUptoRow : OpenClaim := { program := "ytajpnemfppaafaagreat", sum := "82f5d355606478e30e325d2356d367d7a4639640a49bf9eba1aff8359c4b5089", func := "loop.example/g00101/laws.FnBoxes", spec := "fnBoxes", unfollowed := true, recurses := true, apart := false, narrowed := true }
def FnBoxesUptoSaid : Prop := fnBoxesUptoRow.holds Tryz.pinned (OpenSpec.upto fnBoxesSpec)

/-- 'laws.FnCode', WHERE WHAT IT READS IS OF BULK AT MOST 1048576: true; the input reads as it did. -/
def fnCodeUptoRow : OpenClaim := { program := "ytajpnemfppaafaagreat", sum := "82f5d355606478e30e325d2356d367d7a4639640a49bf9eba1aff8359c4b5089", func := "loop.example/g00101/laws.FnCode", spec := "fnCode", unfollowed := true, recurses := true, apart := false, narrowed := true }
def FnCodeUptoSaid : Prop := fnCodeUptoRow.holds Tryz.pinned (OpenSpec.upto fnCodeSpec)

end Rows
end Go.Proofs.YtajpnemfppaafaaGreat
