import Derived.Test.YtdnmfaljidjijaaGreatPk05
import Derived.Test.YtdnmfaljidjijaaGreatPk06
import Derived.Test.YtdnmfaljidjijaaGreatPk07
import Derived.Test.YtdnmfaljidjijaaGreatPk09
namespace Go.Proofs.YtdnmfaljidjijaaGreat
open Go Go.Proofs
set_option linter.unusedSimpArgs false
set_option linter.unusedVariables false
set_option maxRecDepth 20000
theorem pF (a b n:PQ):bh a b n≠[]:=by unfold bh; simp
end Go.Proofs.YtdnmfaljidjijaaGreat
