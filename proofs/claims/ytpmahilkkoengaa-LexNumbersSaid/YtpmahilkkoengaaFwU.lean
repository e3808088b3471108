/-
  Out of a pure contract: the call, from any memory; what stood there stands.
-/
import Derived.Test.YtpmahilkkoengaaFwT
import Derived.Below
namespace Go.Proofs.Ytpmahilkkoengaa
open Go Go.RowKit
set_option linter.unusedSimpArgs false
set_option linter.unusedVariables false

theorem Pure.calls {P : Program} {g : FuncId} {fn : Func} {c : Code} (hf : P.funcs[g]? = some fn) (hb : fn.body = some c) (hname : (fn.name == "runtime.NumGoroutine") = false) {args : List AV} {r : AV} (h : Pure P g args r) {vs : List Value} {W : World}
    (hl : ∀ cx : Cx, cx.w = W → (∀ b, ¬ cx.F b) → Rl cx args vs) : Calls P g vs.toArray W fun e W' => ∃ v, e = .returned v ∧ Below W.heap.size W W' ∧ ∃ cx : Cx, cx.w = W' ∧ Rv cx r v := by
  have h1 := h.2 { w := W, mu := fun _ => none, U := fun _ => False, F := fun _ => False } vs (fun _ => rfl) (fun _ h => h) (hl _ rfl fun _ h => h)
  have hc : (callFunc g vs.toArray).run P W = .ok (.enter g vs.toArray) W := by
    unfold callFunc
    simp only [Sem.run_bind, run_program, Result.andThen_ok, hf, hname, Bool.false_eq_true, if_false, hb, Option.isNone_some, Sem.run_pure]
  unfold CallTo at h1
  rw [hc] at h1
  refine Calls.mono h1 ?_
  rintro e W' ⟨v, rfl, c', rfl, hs, hr⟩
  exact ⟨v, rfl, ⟨hs.os, hs.tape, hs.output, hs.size, fun b hb => hs.keep b hb fun id e he => (by cases he)⟩, c', rfl, hr⟩
end Go.Proofs.Ytpmahilkkoengaa
