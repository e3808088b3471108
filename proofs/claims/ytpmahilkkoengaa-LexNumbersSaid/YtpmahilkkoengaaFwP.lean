/-
  A function's contract out of its body's abstract run.
-/
import Derived.Test.YtpmahilkkoengaaFwO
namespace Go.Proofs.Ytpmahilkkoengaa
open Go
set_option linter.unusedSimpArgs false
set_option linter.unusedVariables false

/-- What a function tells, one by one. -/
def aresK (P : Program) (s : St) : List ResultVar → (List AV → Prop) → Prop
  | [], K => K []
  | .tmp t :: r, K => aresK P s r fun vs => K (s.t t :: vs)
  | .cell a ty :: r, K =>
    match rop P s.f (aev s.t) (.load ty (.tmp a)) with
    | some (p, v) => p ∧ aresK P s r fun vs => K (v :: vs)
    | none => False
def oneOf (vs : List AV) : AV :=
  match vs with
  | [v] => v
  | vs => .tup vs

/-- The temporaries at a function's beginning. -/
def argT (args : List AV) : Nat → AV := fun k => args.getD k .any

def resOf (tmps : Array Value) : ResultVar → Sem Value
  | .tmp t => pure (tmps.getD t undef)
  | .cell a t => do loadVar t (← asAddr (tmps.getD a undef))
theorem results_eq (fn : Func) (tmps : Array Value) : results fn tmps = (do
    let vs ← fn.results.mapM (resOf tmps)
    pure (if h : vs.size = 1 then vs[0] else .tuple vs)) := by
  unfold results
  congr 1

theorem ares_run {P : Program} {c : Cx} {s : St} {a : Act} (hk : HOk c s.f) (ht : ∀ k, Rv c (s.t k) (a.tmps.getD k undef)) : ∀ (rs : List ResultVar) (K : List AV → Prop), aresK P s rs K →
    ∃ l vs, K l ∧ Rl c l vs ∧ (rs.mapM (resOf a.tmps) : Sem (List Value)).run P c.w = .ok vs c.w := by
  intro rs
  induction rs with
  | nil => intro K h; exact ⟨[], [], h, by simp [Rl], by simp⟩
  | cons r rs ih =>
    intro K h
    cases r with
    | tmp t =>
      simp only [aresK] at h
      obtain ⟨l, vs, h1, h2, h3⟩ := ih _ h
      refine ⟨s.t t :: l, a.tmps.getD t undef :: vs, h1, ?_, ?_⟩
      · simp only [Rl]; exact ⟨_, _, rfl, ht t, h2⟩
      · simp only [List.mapM_cons, resOf, Sem.run_bind, Sem.run_pure, Result.andThen_ok, h3]
    | cell ad t =>
      simp only [aresK] at h
      split at h
      · rename_i p v hv
        obtain ⟨l, vs, h1, h2, h3⟩ := ih _ h.2
        obtain ⟨r, g1, g2⟩ := rop_sound (o := ⟨none, .load t (.tmp ad), 0, "", #[], none⟩) hk (aev_rv ht) hv h.1
        refine ⟨v :: l, r :: vs, h1, ?_, ?_⟩
        · simp only [Rl]; exact ⟨_, _, rfl, g2, h2⟩
        · have hp : ∃ x, a.tmps.getD ad undef = .pointer (some x) := by
            have := ht ad
            simp only [rop, aev] at hv
            split at hv
            · rename_i ti cs hti hta
              rw [hta] at this; simp only [Rv] at this
              obtain ⟨b, o, _, hx, _⟩ := this
              exact ⟨_, hx⟩
            · rename_i ti id idx off hti hta
              rw [hta] at this; simp only [Rv] at this
              obtain ⟨_, b, o, hx, _⟩ := this
              exact ⟨_, hx⟩
            · cases hv
          obtain ⟨x, hx⟩ := hp
          have hl : (loadVar t x).run P c.w = .ok r c.w := by
            simp only [execOp, Act.eval, hx, Instr.loadAt, Instr.sureAddr, Sem.run_bind, Sem.run_pure, Result.andThen_ok] at g1
            cases hlv : (loadVar t x).run P c.w with
            | ok r' w' => rw [hlv] at g1; simpa using g1
            | halt e w' => rw [hlv] at g1; simp at g1
          have e1 : (asAddr (a.tmps.getD ad undef)).run P c.w = .ok x c.w := by rw [hx]; rfl
          simp only [List.mapM_cons, resOf, Sem.run_bind, e1, Sem.run_pure, Result.andThen_ok, hl, h3]
      · exact h.elim

theorem results_run {P : Program} {c : Cx} {s : St} {a : Act} {fn : Func} (hk : HOk c s.f) (ht : ∀ k, Rv c (s.t k) (a.tmps.getD k undef)) {K : List AV → Prop} (h : aresK P s fn.results.toList K) :
    ∃ l v, K l ∧ Rv c (oneOf l) v ∧ (results fn a.tmps).run P c.w = .ok v c.w := by
  obtain ⟨l, vs, h1, h2, h3⟩ := ares_run hk ht fn.results.toList K h
  have hr : (results fn a.tmps).run P c.w = .ok (if h : vs.toArray.size = 1 then vs.toArray[0] else .tuple vs.toArray) c.w := by
    rw [results_eq, Array.mapM_eq_mapM_toList]
    simp only [Sem.run_bind, Sem.run_map, Result.andThen_ok]
    rw [h3]
    simp only [Result.andThen_ok, Sem.run_pure]
  refine ⟨l, _, h1, ?_, hr⟩
  have hlen := h2.length
  match l, vs, h2, hlen with
  | [], [], _, _ => simp only [oneOf, Rv]; exact ⟨#[], rfl, by simp [Rl]⟩
  | [x], [v], h2, _ =>
    simp only [Rl] at h2
    obtain ⟨v', r, hv, hr, _⟩ := h2
    simp only [List.cons.injEq] at hv
    obtain ⟨rfl, _⟩ := hv
    simpa [oneOf] using hr
  | x :: y :: l, v :: u :: vs, h2, _ =>
    simp only [oneOf, Rv]
    exact ⟨(v :: u :: vs).toArray, by simp, h2⟩

theorem argT_rv {c : Cx} {args : List AV} {vs : List Value} (h : Rl c args vs) (N : Nat) : ∀ k, Rv c (argT args k) ((vs.toArray ++ Array.replicate (N - vs.toArray.size) undef).getD k undef) := by
  intro k
  have hlen := h.length
  unfold argT
  rw [List.getD_eq_getElem?_getD]
  cases ha : args[k]? with
  | none => simp only [Option.getD_none, Rv]
  | some x =>
    obtain ⟨v, hv, hr⟩ := h.get k x ha
    have hlt : k < vs.length := by
      rcases Nat.lt_or_ge k vs.length with h' | h'
      · exact h'
      · rw [List.getElem?_eq_none h'] at hv; cases hv
    simp only [Option.getD_some]
    rw [Array.getD_eq_getD_getElem?, Array.getElem?_append_left (by simpa using hlt)]
    simp only [List.getElem?_toArray, hv, Option.getD_some]
    exact hr

/-- A function with a body is entered. -/
theorem callTo_enter {P : Program} {g : FuncId} {fn : Func} {c : Code} (hf : P.funcs[g]? = some fn) (hb : fn.body = some c) (hname : (fn.name == "runtime.NumGoroutine") = false) {vs : Array Value} {w : World} {Post : Value → World → Prop}
    (h : Calls P g vs w fun e w' => ∃ v, e = .returned v ∧ Post v w') : CallTo P g vs w Post := by
  have : (callFunc g vs).run P w = .ok (.enter g vs) w := by
    unfold callFunc
    simp only [Sem.run_bind, run_program, Result.andThen_ok, hf, hname, Bool.false_eq_true, if_false, hb, Option.isNone_some, Sem.run_pure]
  unfold CallTo
  rw [this]
  exact h

/-- The contract of a call, out of the body's abstract run. -/
theorem CA.of_wp {P : Program} {z : Bool} (hm : P.follows .mixedOrders = true) {g : FuncId} {fn : Func} {c : Code} (hf : P.funcs[g]? = some fn) (hb : fn.body = some c) (hname : (fn.name == "runtime.NumGoroutine") = false) {args : List AV} (hN : args.length ≤ fn.ntmps) (hok : codeOk z fn.ntmps c = true)
    {f : Nat → BS} {n : Nat} {K : AV → (Nat → BS) → Nat → Prop}
    (h : awp P z n c (fun e s => match e with | .exit _ => False | _ => aresK P s fn.results.toList fun l => (∀ j, j < n → f j = .fresh → s.f j = .fresh) ∧ K (oneOf l) s.f s.n) ⟨argT args, f, n⟩) : CA P g args f n K := by
  intro cx vs hk hfr hl
  refine callTo_enter hf hb hname ?_
  refine calls_of_wp hf hb ?_
  have hlen := hl.length
  have hsat : Sat cx n fn.ntmps ⟨argT args, f, n⟩ { tmps := vs.toArray ++ Array.replicate (fn.ntmps - vs.toArray.size) undef, defers := [] } cx.w := by
    refine ⟨cx, rfl, hk, hfr, argT_rv hl fn.ntmps, by simp; omega, rfl, Stp.refl cx, fun j hj => ?_, Nat.le_refl _⟩
    rcases Nat.lt_or_ge j n with h' | h'
    · exact h'
    · exact absurd (hfr j h') ((hk.used j).1 hj)
  refine wp_mono (awp_sound hm c _ _ _ _ hok h hsat) fun e a w hq => ?_
  have key : ∀ s, (aresK P s fn.results.toList fun l => (∀ j, j < n → f j = .fresh → s.f j = .fresh) ∧ K (oneOf l) s.f s.n) → Sat cx n fn.ntmps s a w → a.defers = [] ∧ ∃ v, (results fn a.tmps).run P w = .ok v w ∧
      ∃ v', Ending.returned v = .returned v' ∧ ∃ c' r f' n', c'.w = w ∧ K r f' n' ∧ HOk c' f' ∧ Rv c' r v' ∧ Stp cx c' ∧ n ≤ n' ∧ (∀ j, j < n → f j = .fresh → f' j = .fresh) ∧ ∀ j, n' ≤ j → f' j = .fresh := by
    intro s hs ⟨c', hw, hk', hfr', ht', hN', hd', hst', h0', hne'⟩
    subst hw
    obtain ⟨l, v, ⟨g0, g1⟩, g2, g3⟩ := results_run hk' ht' hs
    exact ⟨hd', v, g3, v, rfl, c', oneOf l, s.f, s.n, rfl, g1, hk', g2, hst', hne', g0, hfr'⟩
  cases e <;> simp only [QR] at hq <;> simp only [bodyPost]
  case normal => obtain ⟨s, h1, h2⟩ := hq; exact key s h1 h2
  case ret => obtain ⟨s, h1, h2⟩ := hq; exact key s h1 h2
  case exit i => obtain ⟨s, h1, h2⟩ := hq; exact h1

/-- The contract of a call that only reads. -/
theorem Pure.of_wp {P : Program} {z : Bool} (hm : P.follows .mixedOrders = true) {g : FuncId} {fn : Func} {c : Code} (hf : P.funcs[g]? = some fn) (hb : fn.body = some c) (hname : (fn.name == "runtime.NumGoroutine") = false) {args : List AV} (hN : args.length ≤ fn.ntmps) (hok : codeOk z fn.ntmps c = true)
    {r : AV} (hro : ro r)
    (h : awp P z 0 c (fun e s => match e with | .exit _ => False | _ => aresK P s fn.results.toList fun l => view s.f (oneOf l) = r ∧ fits s.f (oneOf l)) ⟨argT args, fun _ => .fresh, 0⟩) : Pure P g args r := by
  refine ⟨hro, fun cx vs hm0 hU0 hl => ?_⟩
  have hk0 : HOk cx (fun _ => .fresh) := by
    constructor
    · intro id; simp [hU0 id]
    · intro id _; exact hm0 id
    · intro id sz l h; cases h
    · intro id s p h; cases h
    · intro i j ei ej h; rw [hm0] at h; cases h
    · intro id e h; rw [hm0] at h; cases h
  have hca : CA P g args (fun _ => .fresh) 0 (fun r0 f' n' => view f' r0 = r ∧ fits f' r0) := by
    refine CA.of_wp hm hf hb hname hN hok ?_
    simpa using h
  refine (hca cx vs hk0 (fun _ _ => rfl) hl).mono fun v w' ⟨c', r0, f', n', q1, q2, q3, q4, q5, _⟩ => ?_
  obtain ⟨g1, g2⟩ := q2
  refine ⟨c'.bare fun b => cx.F b ∧ b < cx.w.heap.size, q1, ?_, ?_⟩
  · refine ⟨q5.os, q5.tape, q5.output, q5.size, q5.keep, fun id h => absurd h (hU0 id), fun id h => absurd h (hU0 id), fun id e h => (by cases h), fun b hb => ⟨fun h => h.1, fun h => ⟨h, hb⟩⟩⟩
  · rw [← g1]
    refine view_rv q3 (fun b _ h => (q5.F b h.2).2 h.1) (fun id e he hr h => ?_) r0 v g2 (by rw [g1]; exact hro) q4
    rcases q5.new id e he hr with h1 | ⟨j, e', hj, _⟩
    · omega
    · rw [hm0] at hj; cases hj

end Go.Proofs.Ytpmahilkkoengaa
