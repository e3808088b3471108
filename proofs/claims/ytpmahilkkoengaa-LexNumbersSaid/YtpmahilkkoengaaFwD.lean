/-
  The machine does what the abstract operations say: the value operations, each by itself, and all.
-/
import Derived.Test.YtpmahilkkoengaaFwC
namespace Go.Proofs.Ytpmahilkkoengaa
open Go

theorem Rl.map {c : Cx} {ρA : Operand → AV} {ρ : Operand → Value} (hr : ∀ x, Rv c (ρA x) (ρ x)) : ∀ (l : List Operand), Rl c (l.map ρA) (l.map ρ)
  | [] => by simp [Rl]
  | x :: l => by simp only [List.map_cons, Rl]; exact ⟨_, _, rfl, hr x, Rl.map hr l⟩

theorem fieldAt_sound {P : Program} {s : TypeId} {f : Nat} {ti tf : TI} {fs : List (Nat × TypeId)} {off : Nat} {t : TypeId} (h1 : tiOf P s = some ti) (h2 : ti.kind = .struct fs) (h3 : fs[f]? = some (off, t)) (h4 : tiOf P t = some tf)
    (h5 : tf.size ≠ 0) (b o : Nat) (w : World) : (Instr.fieldAt s (.pointer (some ⟨b, o, none⟩)) f).run P w = .ok (.pointer (some ⟨b, o + off, none⟩)) w := by
  obtain ⟨d, i, z, hd, hi, _, _, _, hk, _⟩ := tiOf_some h1
  obtain ⟨d', i', z', hd', hi', _, hs', _⟩ := tiOf_some h4
  rw [hk] at h2
  obtain ⟨fields, rfl, rfl⟩ := tk_struct h2
  obtain ⟨fd, hfd, rfl, rfl⟩ := field_get h3
  have hne : i'.size ≠ 0 := by rwa [← hs']
  simp only [Instr.fieldAt, Sem.run_bind, run_underlying hd, Result.andThen_ok, hfd, Instr.sureAddr, Sem.run_pure, fieldPlace, sizeOf_run hi', hne, if_false, addr_add]

theorem indexAt_slice {P : Program} {t e : TypeId} {i : TypeInfo} (hd : P.underlying t = some (.slice e)) (hi : P.info? e = some i) (b o len cap : Nat) (k : IntKind) (n : Int) (h0 : 0 ≤ n) (h1 : n < len) (w : World) :
    (Instr.indexAt t (.slice (some ⟨b, o, none⟩) len cap) (.int k n)).run P w = .ok (.pointer (some ⟨b, o + n.toNat * i.size, none⟩)) w := by
  simp [Instr.indexAt, asIntOf, run_underlying hd, h0, h1, sizeOf_run hi, addr_add]

theorem indexAt_array {P : Program} {t e : TypeId} {m : Nat} {i : TypeInfo} (hd : P.underlying t = some (.array m e)) (hi : P.info? e = some i) (b o : Nat) (k : IntKind) (n : Int) (h0 : 0 ≤ n) (h1 : n < m) (w : World) :
    (Instr.indexAt t (.pointer (some ⟨b, o, none⟩)) (.int k n)).run P w = .ok (.pointer (some ⟨b, o + n.toNat * i.size, none⟩)) w := by
  simp [Instr.indexAt, asIntOf, run_underlying hd, h0, h1, sizeOf_run hi, addr_add, Instr.sureAddr]

theorem one_cells {v : Value} (h : v.oneCell' = true) : v.cells = #[v] := by cases v <;> first | rfl | (simp [Value.oneCell'] at h)

theorem cells_rl {c : Cx} {a : AV} {v : Value} (h : Rv c a v) (h1 : a.isAgg = true ∨ v.oneCell' = true) : Rl c a.cells v.cells.toList := by
  cases a with
  | agg cs => obtain ⟨vs, rfl, h2, h3⟩ := agg_ov h; exact h3
  | _ =>
    have h2 := h1.resolve_left (by simp [AV.isAgg])
    rw [one_cells h2]
    simp only [AV.cells, Rl]
    exact ⟨v, [], rfl, h, rfl⟩

/-- An element of a slice that is read alone: its cells. -/
theorem elem_cells {c : Cx} {sz : Nat} {l : List AV} {b o : Nat} (h : Re c sz l b o) {i : Int} (h0 : 0 ≤ i) (h1 : i < (l.length : Int)) :
    ∃ vs : List Value, vs.length = sz ∧ (∀ u ∈ vs, u.oneCell' = true) ∧ Rl c (getE l i).cells vs ∧ HasCells c.w b (o + i.toNat * sz) vs := by
  have hlt : i.toNat < l.length := by omega
  obtain ⟨v, hv, hsz, ha, hone, hc⟩ := h.get i.toNat _ (List.getElem?_eq_getElem hlt)
  refine ⟨v.cells.toList, by simpa using hsz, hone, ?_, hc⟩
  unfold getE
  rw [List.getD_eq_getElem?_getD, List.getElem?_eq_getElem hlt]
  exact cells_rl hv ha

theorem foldl_lay (off : Nat) : ∀ (l : List Value) (k : Nat) (vs : Array Value), off + k + l.length ≤ vs.size →
    ((l.zipIdx k).foldl (fun cs (p : Value × Nat) => cs.setIfInBounds (off + p.2) p.1) vs) = (vs.toList.take (off + k) ++ l ++ vs.toList.drop (off + k + l.length)).toArray
  | [], k, vs, _ => by simp
  | v :: l, k, vs, h => by
    simp only [List.length_cons] at h
    rw [List.zipIdx_cons, List.foldl_cons, foldl_lay off l (k + 1) _ (by simp; omega)]
    congr 1
    have hlt : off + k < vs.toList.length := by simp; omega
    simp only [Array.toList_setIfInBounds, List.length_cons]
    rw [show off + (k + 1) = off + k + 1 by omega, List.take_succ_eq_append_getElem (by simpa using hlt), List.take_set_of_le (by omega), List.getElem_set_self]
    rw [show off + k + (l.length + 1) = off + k + 1 + l.length by omega, List.drop_set_of_lt (by omega)]
    simp

theorem fillA_sound {c : Cx} {ρA : Operand → AV} {ρ : Operand → Value} (hr : ∀ x, Rv c (ρA x) (ρ x)) (placeA place : Nat → Option (Nat × Nat)) (hp : ∀ i, placeA i ≠ none → placeA i = place i) :
    ∀ (parts : List (Nat × Operand)) (cs out : List AV) (vs : Array Value), fillA placeA ρA parts cs = some out → (∀ u ∈ vs.toList, u.oneCell' = true) → Rl c cs vs.toList →
      ∃ vs' : Array Value, Instr.fill place vs (parts.map fun p => (p.1, ρ p.2)) = some vs' ∧ (∀ u ∈ vs'.toList, u.oneCell' = true) ∧ Rl c out vs'.toList := by
  intro parts
  induction parts with
  | nil => intro cs out vs h h1 h2; simp only [fillA, Option.some.injEq] at h; subst h; exact ⟨vs, rfl, h1, h2⟩
  | cons p parts ih =>
    obtain ⟨i, x⟩ := p
    intro cs out vs h h1 h2
    simp only [fillA] at h
    cases hpl : placeA i with
    | none => simp [hpl] at h
    | some q =>
      obtain ⟨off, size⟩ := q
      rw [hpl] at h
      simp only [Bool.and_eq_true, decide_eq_true_eq] at h
      split at h
      · rename_i hc
        obtain ⟨hsh, hle⟩ := hc
        obtain ⟨g1, g2, g3⟩ := shaped_cells hsh (hr x)
        have hlen := h2.length
        have hp' : place i = some (off, size) := by rw [← hp i (by simp [hpl]), hpl]
        have hvs : off + (ρ x).cells.size ≤ vs.size := by
          rw [g1]
          have : vs.size = cs.length := by simpa using hlen
          omega
        have hfold : ((ρ x).cells.zipIdx.foldl (fun cs (c, j) => cs.setIfInBounds (off + j) c) vs) = (vs.toList.take off ++ (ρ x).cells.toList ++ vs.toList.drop (off + (ρ x).cells.size)).toArray := by
          have := foldl_lay off (ρ x).cells.toList 0 vs (by simpa using hvs)
          rw [← Array.foldl_toList, Array.toList_zipIdx]
          simpa using this
        obtain ⟨vs', e1, e2, e3⟩ := ih _ out (vs := (vs.toList.take off ++ (ρ x).cells.toList ++ vs.toList.drop (off + (ρ x).cells.size)).toArray) h (by
          intro u hu
          simp only [List.mem_append] at hu
          rcases hu with (hu | hu) | hu
          · exact h1 u (List.mem_of_mem_take hu)
          · exact g2 u hu
          · exact h1 u (List.mem_of_mem_drop hu)) (by
          rw [g1]
          exact ((h2.take off).append g3).append (h2.drop _))
        refine ⟨vs', ?_, e2, e3⟩
        simp only [List.map_cons, Instr.fill, hp']
        rw [if_neg (by simp [g1]; omega)]
        rw [hfold]
        exact e1
      · cases h

theorem run_value {P : Program} {s : Sem Value} {w w' : World} {r : Value} (h : s.run P w = .ok r w') : (do pure (.value (← s)) : Sem Next).run P w = .ok (.value r) w' := by
  simp only [Sem.run_bind, h, Result.andThen_ok, Sem.run_pure]

theorem optInt_spec {ρA : Operand → AV} {ρ : Operand → Value} {c : Cx} (hr : ∀ x, Rv c (ρA x) (ρ x)) {x : Option Operand} {n : Option Int} (h : optInt ρA x = some n) :
    (x.map ρ = none ∧ n = none) ∨ ∃ k m, x.map ρ = some (.int k m) ∧ n = some m := by
  cases x with
  | none => simp [optInt] at h; exact .inl ⟨rfl, h.symm⟩
  | some y =>
    simp only [optInt] at h
    split at h
    · rename_i k m hy
      injection h with h
      have := hr y
      rw [hy] at this
      simp only [Rv] at this
      exact .inr ⟨k, m, by simp [this], h.symm⟩
    · cases h

theorem bounds_sound {P : Program} (w : World) (isSlice : Bool) (len cap : Nat) (hcap : len ≤ cap) {lo hi mx : Option Int} {vl vh vm : Option Value}
    (hl : (vl = none ∧ lo = none) ∨ ∃ k m, vl = some (.int k m) ∧ lo = some m) (hh : (vh = none ∧ hi = none) ∨ ∃ k m, vh = some (.int k m) ∧ hi = some m)
    (hm : (vm = none ∧ mx = none) ∨ ∃ k m, vm = some (.int k m) ∧ mx = some m) (h0 : 0 ≤ lo.getD 0) (h1 : lo.getD 0 ≤ hi.getD len) (h2 : hi.getD len ≤ (len : Int))
    (h3 : mxOk mx (hi.getD len) len) (h4 : ¬ (mx.isSome = true ∧ hi.isNone = true)) :
    (Instr.sliceBounds isSlice len cap vl vh vm).run P w = .ok ((lo.getD 0).toNat, (hi.getD len).toNat, mxCap mx cap) w := by
  have hh0 : 0 ≤ hi.getD len := by omega
  rcases hm with ⟨rfl, rfl⟩ | ⟨km, m, rfl, rfl⟩
  · rcases hh with ⟨rfl, rfl⟩ | ⟨kh, h, rfl, rfl⟩
    · rcases hl with ⟨rfl, rfl⟩ | ⟨kl, l, rfl, rfl⟩
      · simp [Instr.sliceBounds, mxCap]
      · simp only [Option.getD_some, Option.getD_none] at h0 h1
        simp [Instr.sliceBounds, mxCap, sliceB w kl l len _ h0 h1]
    · simp only [Option.getD_some] at hh0 h1 h2
      rcases hl with ⟨rfl, rfl⟩ | ⟨kl, l, rfl, rfl⟩
      · simp [Instr.sliceBounds, mxCap, sliceB w kh h cap _ hh0 (by omega)]
      · simp only [Option.getD_some] at h0 h1
        simp [Instr.sliceBounds, mxCap, sliceB w kh h cap _ hh0 (by omega), sliceB w kl l h.toNat _ h0 (by omega)]
  · rcases hh with ⟨rfl, rfl⟩ | ⟨kh, h, rfl, rfl⟩
    · exact absurd ⟨rfl, rfl⟩ h4
    · simp only [Option.getD_some, mxOk] at hh0 h1 h2 h3
      rcases hl with ⟨rfl, rfl⟩ | ⟨kl, l, rfl, rfl⟩
      · simp [Instr.sliceBounds, mxCap, sliceB w km m cap _ (by omega) (by omega), sliceB w kh h m.toNat _ hh0 (by omega)]
      · simp only [Option.getD_some] at h0 h1
        simp [Instr.sliceBounds, mxCap, sliceB w km m cap _ (by omega) (by omega), sliceB w kh h m.toNat _ hh0 (by omega), sliceB w kl l h.toNat _ h0 (by omega)]

end Go.Proofs.Ytpmahilkkoengaa
