/- FnExactLex holds. -/
import Derived.Test.YtadmoackacickaaXLex18
import Derived.Test.YtadmoackacickaaXRowLex2
namespace Go.Proofs.Ytadmoackacickaa
open Go Go.AH
theorem fnExactLex : Rows.FnExactLexSaid := lexRow fun s => ⟨3016, l3 (d := 3011) (by decide) s h00⟩
end Go.Proofs.Ytadmoackacickaa
