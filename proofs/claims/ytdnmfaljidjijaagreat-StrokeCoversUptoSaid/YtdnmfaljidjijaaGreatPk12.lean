import Derived.Test.YtdnmfaljidjijaaGreatPk05
import Derived.Test.YtdnmfaljidjijaaGreatPk06
import Derived.ProofKit
import Derived.Carry
namespace Go.Proofs.YtdnmfaljidjijaaGreat
open Go Go.Proofs
open Go.ChangeShapes Go.WideShapes Go.ChangeAt Go.RowKit
set_option linter.unusedSimpArgs false
set_option linter.unusedVariables false
theorem It {cx:Cx} {a:AV} {v:Value} (hc:v.cells = #[v]) (h:Rl cx [a] v.cells.toList):Rl cx [a] [v]:=by
 rw [hc] at h
 exact h
end Go.Proofs.YtdnmfaljidjijaaGreat
