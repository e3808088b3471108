/-
  The machine does what append says.
-/
import Derived.Test.YtpmahilkkoengaaFwJ
namespace Go.Proofs.Ytpmahilkkoengaa
open Go
set_option linter.unusedSimpArgs false
set_option linter.unusedVariables false

/-- Values, element by element. -/
def Els (c : Cx) (sz : Nat) (l : List AV) (vs : List Value) : Prop :=
  vs.length = l.length ∧ ∀ (i : Nat) a v, l[i]? = some a → vs[i]? = some v → Rv c a v ∧ v.cells.size = sz ∧ (a.isAgg = true ∨ v.oneCell' = true) ∧ ∀ u ∈ v.cells.toList, u.oneCell' = true

theorem Els.nil (c : Cx) (sz : Nat) : Els c sz [] [] := ⟨rfl, fun i a v h => by simp at h⟩

theorem Els.append {c : Cx} {sz : Nat} {l m : List AV} {vs us : List Value} (h : Els c sz l vs) (k : Els c sz m us) : Els c sz (l ++ m) (vs ++ us) := by
  refine ⟨by simp [h.1, k.1], fun i a v h1 h2 => ?_⟩
  rcases Nat.lt_or_ge i l.length with hlt | hge
  · rw [List.getElem?_append_left hlt] at h1
    rw [List.getElem?_append_left (by rw [h.1]; exact hlt)] at h2
    exact h.2 i a v h1 h2
  · rw [List.getElem?_append_right hge] at h1
    rw [List.getElem?_append_right (by rw [h.1]; exact hge)] at h2
    rw [h.1] at h2
    exact k.2 _ a v h1 h2

theorem Els.size {c : Cx} {sz : Nat} {l : List AV} {vs : List Value} (h : Els c sz l vs) : ∀ v ∈ vs, v.cells.size = sz := by
  intro v hv
  obtain ⟨i, hi⟩ := List.getElem?_of_mem hv
  have hlt : i < l.length := by
    rw [← h.1]
    rcases Nat.lt_or_ge i vs.length with h' | h'
    · exact h'
    · rw [List.getElem?_eq_none h'] at hi; cases hi
  exact (h.2 i _ v (List.getElem?_eq_getElem hlt) hi).2.1

theorem Els.keep {c c' : Cx} (hs : Stp c c') (hsh : c.shut) {sz : Nat} {l : List AV} {vs : List Value} (h : Els c sz l vs) : Els c' sz l vs :=
  ⟨h.1, fun i a v h1 h2 => let ⟨g1, g2⟩ := h.2 i a v h1 h2; ⟨g1.keep hs hsh, g2⟩⟩

theorem Els.ones {c : Cx} {sz : Nat} {l : List AV} {vs : List Value} (h : Els c sz l vs) : ∀ u ∈ vs.flatMap (·.cells.toList), u.oneCell' = true := by
  intro u hu
  rw [List.mem_flatMap] at hu
  obtain ⟨v, hv, hu⟩ := hu
  obtain ⟨i, hi⟩ := List.getElem?_of_mem hv
  have hlt : i < l.length := by
    rw [← h.1]
    rcases Nat.lt_or_ge i vs.length with h' | h'
    · exact h'
    · rw [List.getElem?_eq_none h'] at hi; cases hi
  exact (h.2 i _ v (List.getElem?_eq_getElem hlt) hi).2.2.2 u hu

/-- Cells whose first ones are the elements' cells. -/
theorem Els.lie {c : Cx} {sz : Nat} {l : List AV} {vs : List Value} (h : Els c sz l vs) (cells : Array Value) (rest : List Value) (hc : cells.toList = vs.flatMap (·.cells.toList) ++ rest) : Lie c sz l cells := by
  have hfl := flatMap_len h.size
  refine ⟨?_, fun i a hi => ?_⟩
  · have := congrArg List.length hc
    simp only [Array.length_toList, List.length_append, hfl, h.1] at this
    omega
  · have hlt : i < vs.length := by
      rw [h.1]
      rcases Nat.lt_or_ge i l.length with h' | h'
      · exact h'
      · rw [List.getElem?_eq_none h'] at hi; cases hi
    obtain ⟨g1, g2, g3, g4⟩ := h.2 i a _ hi (List.getElem?_eq_getElem hlt)
    refine ⟨vs[i], g1, g2, g3, g4, fun j u hu => ?_⟩
    have := flatMap_get h.size i j vs[i] u (List.getElem?_eq_getElem hlt) hu
    rw [← Array.getElem?_toList, hc, List.getElem?_append_left]
    · exact this
    · rcases Nat.lt_or_ge (i * sz + j) (vs.flatMap (·.cells.toList)).length with h' | h'
      · exact h'
      · rw [List.getElem?_eq_none h'] at this; cases this

theorem Re.els {c : Cx} {sz : Nat} : ∀ {l : List AV} {b o : Nat}, Re c sz l b o → ∃ vs, Els c sz l vs ∧ HasCells c.w b o (vs.flatMap (·.cells.toList))
  | [], b, o, _ => ⟨[], Els.nil c sz, fun i v h => by simp at h⟩
  | a :: l, b, o, h => by
    simp only [Re] at h
    obtain ⟨⟨v, g1, g2, g3, g4, g5⟩, h⟩ := h
    obtain ⟨vs, e1, e2⟩ := h.els
    refine ⟨v :: vs, ⟨by simp [e1.1], fun i a' v' h1 h2 => ?_⟩, ?_⟩
    · cases i with
      | zero => simp at h1 h2; subst h1; subst h2; exact ⟨g1, g2, g3, g4⟩
      | succ i => exact e1.2 i a' v' (by simpa using h1) (by simpa using h2)
    · simp only [List.flatMap_cons]
      refine g5.append ?_
      rw [show v.cells.toList.length = sz by simpa using g2]
      exact e2

theorem firstCells_run {P : Program} {w : World} {size n n' cap : Nat} {a : Option Addr} {cells : List Value} (hl : cells.length = n * size) (h : cells = [] ∨ ∃ b o, a = some ⟨b, o, none⟩ ∧ HasCells w b o cells) :
    (Builtin.firstCells size n (.slice a n' cap)).run P w = .ok cells.toArray w := by
  rcases h with rfl | ⟨b, o, rfl, h⟩
  · have h0 : n * size = 0 := by simpa using hl.symm
    cases a with
    | none => simp [Builtin.firstCells]
    | some a => simp [Builtin.firstCells, h0, loadCells, loadCellsFrom]
  · simp only [Builtin.firstCells]
    have := load_cells (P := P) h (n * size) (by omega)
    rw [this, ← hl, List.take_length]

theorem append_grow {P : Program} {t t' e e' : TypeId} {ty : TypeId} {i : TypeInfo} {z : Value} (hd : P.underlying t = some (.slice e)) (hd' : P.underlying t' = some (.slice e')) (hi : P.info? e = some i) (hz : i.zero = some z) {w : World}
    {base xa : Option Addr} {sLen sCap n xc : Nat} {olds news : List Value} (ho : olds.length = sLen * i.size) (ho2 : olds = [] ∨ ∃ b o, base = some ⟨b, o, none⟩ ∧ HasCells w b o olds)
    (hn : news.length = n * i.size) (hn2 : news = [] ∨ ∃ b o, xa = some ⟨b, o, none⟩ ∧ HasCells w b o news) (hg : sCap < sLen + n) (hfit : (sLen + n) * i.bytes ≤ 140737488355328) (h63 : sLen + n ≤ 9223372036854775807) :
    (Builtin.append_ #[t, t'] ty #[.slice base sLen sCap, .slice xa n xc]).run P w =
      .ok (.slice (some ⟨w.heap.size, 0, none⟩) (sLen + n) (grownCap w (sLen + n) sCap e)) (w.drew.alloc (.cells (olds.toArray ++ news.toArray ++ Builtin.zeroCells z.cells (grownCap w (sLen + n) sCap e - (sLen + n))) e)) := by
  have h1 := firstCells_run (P := P) (w := w.drew) (cap := sCap) (n' := sLen) (a := base) ho ho2
  have h2 := firstCells_run (P := P) (w := w.drew) (cap := xc) (n' := n) (a := xa) hn hn2
  have hns : ¬ sLen + n ≤ sCap := by omega
  have hmax : IntKind.i64.max = 9223372036854775807 := rfl
  have hns2 : ¬ (((sLen + n : Nat) : Int) > IntKind.i64.max) := by rw [hmax]; omega
  have hns3 : ¬ (Builtin.nextslicecap (sLen + n) sCap * i.bytes > 2 ^ 48) := by have := growslice_fits hg hfit; omega
  simp only [Builtin.append_, List.getElem?_toArray, List.getElem?_cons_zero, List.getElem?_cons_succ, Sem.run_bind, run_underlying hd, run_underlying hd', Result.andThen_ok, sizeOf_run hi, Sem.run_pure, Bool.false_eq_true, if_false, Builtin.lenOf, hns,
    hns2, false_and, typeInfo, run_program, hi, hns3, run_choose, Question.forced, run_askRoom, Bool.not_false, if_true]
  rw [show ({ w with drawn := w.drawn + 1 } : World) = w.drew from rfl, h1]
  simp only [Result.andThen_ok, h2, zeroValue, Sem.run_bind, typeInfo, run_program, hi, hz, Sem.run_pure, newRow, run_newObj]
  rfl

theorem append_room {P : Program} {t t' e e' : TypeId} {ty : TypeId} {i : TypeInfo} (hd : P.underlying t = some (.slice e)) (hd' : P.underlying t' = some (.slice e')) (hi : P.info? e = some i) {w : World}
    {base xa : Option Addr} {sLen sCap n xc : Nat} {news : List Value}
    (hn : news.length = n * i.size) (hn2 : news = [] ∨ ∃ b o, xa = some ⟨b, o, none⟩ ∧ HasCells w b o news) (hg : sLen + n ≤ sCap) {w' : World}
    (hst : match base with | some a => (storeCells (a.add (sLen * i.size)) news).run P w = .ok () w' | none => w' = w) :
    (Builtin.append_ #[t, t'] ty #[.slice base sLen sCap, .slice xa n xc]).run P w = .ok (.slice base (sLen + n) sCap) w' := by
  have h2 := firstCells_run (P := P) (w := w) (cap := xc) (n' := n) (a := xa) hn hn2
  simp only [Builtin.append_, List.getElem?_toArray, List.getElem?_cons_zero, List.getElem?_cons_succ, Sem.run_bind, run_underlying hd, run_underlying hd', Result.andThen_ok, sizeOf_run hi, Sem.run_pure, Bool.false_eq_true, if_false, Builtin.lenOf, hg, if_true,
    Bool.not_false, h2]
  cases base with
  | none => simp only at hst; subst hst; rfl
  | some a => simp only at hst; simp only [Sem.run_bind, hst, Result.andThen_ok, Sem.run_pure]

end Go.Proofs.Ytpmahilkkoengaa
