import Derived.Test.YtgiheamjhoiojaaGreatPkEa
import Derived.Test.YtgiheamjhoiojaaGreatPkJa
namespace Go.Proofs.YtgiheamjhoiojaaGreat
open Go Go.Proofs
set_option linter.unusedSimpArgs false
set_option linter.unusedVariables false
set_option maxRecDepth 20000
theorem dot0 (p : PQ) : p.dot p = 0 ↔ p = ⟨0, 0⟩ := ⟨fun h => by
  have := PQ.dot0 h
  exact PQ.ext this.1 this.2, fun h => by rw [h]; unfold PQ.dot; grind⟩
end Go.Proofs.YtgiheamjhoiojaaGreat
