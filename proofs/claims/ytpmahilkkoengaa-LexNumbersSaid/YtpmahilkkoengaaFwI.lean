/-
  The machine does what the making operations say.
-/
import Derived.Test.YtpmahilkkoengaaFwH
namespace Go.Proofs.Ytpmahilkkoengaa
open Go
set_option linter.unusedSimpArgs false
set_option linter.unusedVariables false

/-- The operation makes a block. -/
def GRun (P : Program) (c : Cx) (f : Nat → BS) (id : Nat) (s : Sem Next) (v : AV) (b : BS) : Prop :=
  ∃ r c', s.run P c.w = .ok (.value r) c'.w ∧ Rv c' v r ∧ HOk c' (upd f id b) ∧ Stp c c'

theorem lie_one {c : Cx} {a : AV} {v : Value} {sz : Nat} (h1 : Rv c a v) (h2 : v.cells.size = sz) (h3 : a.isAgg = true ∨ v.oneCell' = true) (h4 : ∀ u ∈ v.cells.toList, u.oneCell' = true) : Lie c sz [a] v.cells := by
  refine ⟨by simp [h2], fun i x hi => ?_⟩
  cases i with
  | zero => simp at hi; subst hi; exact ⟨v, h1, h2, h3, h4, fun j u hu => by simpa using hu⟩
  | succ i => simp at hi

theorem shaped_one {c : Cx} {a : AV} {v : Value} {n : Nat} (hs : a.shaped n = true) (h : Rv c a v) : a.isAgg = true ∨ v.oneCell' = true := by
  cases a with
  | agg cs => exact .inl rfl
  | any => simp [AV.shaped, AV.sca] at hs
  | tup => simp [AV.shaped, AV.sca] at hs
  | _ =>
    simp only [AV.shaped, Bool.and_eq_true, beq_iff_eq] at hs
    exact .inr (sca_cells hs.1 h).1

theorem flatMap_get {vs : List Value} {sz : Nat} (h : ∀ v ∈ vs, v.cells.size = sz) (i j : Nat) (v u : Value) (hi : vs[i]? = some v) (hj : v.cells.toList[j]? = some u) : (vs.flatMap (·.cells.toList))[i * sz + j]? = some u := by
  induction vs generalizing i with
  | nil => simp at hi
  | cons w vs ih =>
    have hw : w.cells.toList.length = sz := by simpa using h w (by simp)
    cases i with
    | zero =>
      simp at hi; subst hi
      have : j < w.cells.toList.length := by
        rcases Nat.lt_or_ge j w.cells.toList.length with hlt | hge
        · exact hlt
        · rw [List.getElem?_eq_none hge] at hj; cases hj
      simp only [List.flatMap_cons, Nat.zero_mul, Nat.zero_add]
      rw [List.getElem?_append_left this]; exact hj
    | succ i =>
      simp only [List.flatMap_cons]
      rw [List.getElem?_append_right (by rw [hw, Nat.succ_mul]; omega), hw]
      have := ih (fun v hv => h v (by simp [hv])) i (by simpa using hi)
      rwa [show (i + 1) * sz + j - sz = i * sz + j by rw [Nat.succ_mul]; omega]

theorem flatMap_len {vs : List Value} {sz : Nat} (h : ∀ v ∈ vs, v.cells.size = sz) : (vs.flatMap (·.cells.toList)).length = vs.length * sz := by
  induction vs with
  | nil => simp
  | cons w vs ih =>
    have hw : w.cells.toList.length = sz := by simpa using h w (by simp)
    simp only [List.flatMap_cons, List.length_append, hw, List.length_cons, Nat.succ_mul]
    rw [ih fun v hv => h v (by simp [hv])]; omega

/-- Parts laid one behind the other. -/
theorem fill_range (sz : Nat) : ∀ (vs : List Value) (k : Nat) (cs : Array Value), (∀ v ∈ vs, v.cells.size = sz) → (k + vs.length) * sz ≤ cs.size →
    Instr.fill (fun i => some (i * sz, sz)) cs ((List.range' k vs.length).zip vs) = some (cs.toList.take (k * sz) ++ vs.flatMap (·.cells.toList) ++ cs.toList.drop ((k + vs.length) * sz)).toArray
  | [], k, cs, _, _ => by simp [Instr.fill]
  | v :: vs, k, cs, h, hl => by
    have hv := h v (by simp)
    have hle : k * sz + sz ≤ cs.size := by
      refine Nat.le_trans ?_ hl
      rw [show k * sz + sz = (k + 1) * sz by rw [Nat.succ_mul]]
      exact Nat.mul_le_mul_right _ (by simp)
    simp only [List.length_cons, List.range'_succ, List.zip_cons_cons, Instr.fill]
    rw [if_neg (by simp [hv]; omega)]
    have hfold : (v.cells.zipIdx.foldl (fun cs (c, j) => cs.setIfInBounds (k * sz + j) c) cs) = (cs.toList.take (k * sz) ++ v.cells.toList ++ cs.toList.drop (k * sz + v.cells.size)).toArray := by
      have := foldl_lay (k * sz) v.cells.toList 0 cs (by simpa [hv] using hle)
      rw [← Array.foldl_toList, Array.toList_zipIdx]
      simpa using this
    rw [hfold]
    have hlen : (cs.toList.take (k * sz) ++ v.cells.toList ++ cs.toList.drop (k * sz + v.cells.size)).length = cs.size := by
      simp [hv]; omega
    rw [fill_range sz vs (k + 1) _ (fun v hv => h v (by simp [hv])) (by
      simp only [List.size_toArray, hlen]
      simp only [List.length_cons] at hl
      rwa [show k + 1 + vs.length = k + (vs.length + 1) by omega])]
    congr 1
    congr 1
    simp only [List.flatMap_cons]
    have h1 : (k + 1) * sz = k * sz + v.cells.toList.length := by rw [Nat.succ_mul]; simp [hv]
    have h2 : (k + 1 + vs.length) * sz = k * sz + v.cells.toList.length + vs.length * sz := by rw [Nat.add_mul, h1]
    have hk : (cs.toList.take (k * sz)).length = k * sz := by simp; omega
    have ht : (cs.toList.take (k * sz) ++ v.cells.toList ++ cs.toList.drop (k * sz + v.cells.size)).take ((k + 1) * sz) = cs.toList.take (k * sz) ++ v.cells.toList := by
      rw [h1, ← hk, ← List.length_append, List.take_left']
      rw [hk]
    have hd : (cs.toList.take (k * sz) ++ v.cells.toList ++ cs.toList.drop (k * sz + v.cells.size)).drop ((k + 1 + vs.length) * sz) = cs.toList.drop ((k + (vs.length + 1)) * sz) := by
      rw [h2, ← List.drop_drop]
      have : (cs.toList.take (k * sz) ++ v.cells.toList ++ cs.toList.drop (k * sz + v.cells.size)).drop (k * sz + v.cells.toList.length) = cs.toList.drop (k * sz + v.cells.size) := by
        rw [List.drop_left']
        rw [List.length_append, hk]
      rw [this, List.drop_drop]
      congr 1
      rw [show k + (vs.length + 1) = k + 1 + vs.length by omega, h2]
      simp
    rw [ht, hd]
    simp [List.append_assoc]

theorem run_build_slice {P : Program} {t e : TypeId} {ie : TypeInfo} {z : Value} (hd : P.underlying t = some (.slice e)) (hi : P.info? e = some ie) (hz : ie.zero = some z) (hzs : z.cells.size = ie.size)
    (vs : List Value) (h : ∀ v ∈ vs, v.cells.size = ie.size) (hsmall : vs.length * ie.size ≤ 16777216) (w : World) :
    (Instr.buildSlice t vs.length ((List.range vs.length).zip vs).toArray).run P w = .ok (.slice (some ⟨w.heap.size, 0, none⟩) vs.length vs.length) (w.alloc (.cells (vs.flatMap (·.cells.toList)).toArray e)) := by
  have hf := fun cs hcs => fill_range ie.size vs 0 cs h hcs
  simp only [Nat.zero_add, Nat.zero_mul, List.take_zero, List.nil_append, ← List.range_eq_range'] at hf
  have hn : ¬ (vs.length * ie.size > 2 ^ 24) := by omega
  have key : ∀ zero : Array Value, (Instr.fill (fun i => some (i * ie.size, ie.size)) ((Array.range (vs.length * ie.size)).map (zero[· % zero.size]!)) ((List.range vs.length).zip vs)) = some (vs.flatMap (·.cells.toList)).toArray := by
    intro zero
    rw [hf _ (by simp)]
    rw [List.drop_eq_nil_of_le (by simp)]
    simp
  simp only [Instr.buildSlice, Sem.run_bind, run_underlying hd, Result.andThen_ok, sizeOf_run hi, hn, if_false]
  split
  · rename_i h0
    simp only [Sem.run_pure, Result.andThen_ok, Sem.run_bind, key, newRow, run_newObj]
    rfl
  · simp only [Sem.run_bind, zeroValue, typeInfo, run_program, Result.andThen_ok, hi, Sem.run_pure, hz, key, newRow, run_newObj]
    rfl

theorem zip_parts {ρ : Operand → Value} : ∀ (parts : List (Nat × Operand)) (k : Nat), parts.map (·.1) = List.range' k parts.length → (parts.map fun p => (p.1, ρ p.2)) = (List.range' k parts.length).zip (parts.map fun p => ρ p.2)
  | [], k, h => by simp
  | p :: parts, k, h => by
    simp only [List.map_cons, List.length_cons, List.range'_succ, List.cons.injEq] at h ⊢
    obtain ⟨h1, h2⟩ := h
    rw [List.zip_cons_cons, zip_parts parts (k + 1) h2, ← h1]

theorem gop_sound {P : Program} {c : Cx} {f : Nat → BS} (hk : HOk c f) {id : Nat} (hid : f id = .fresh) {ρA : Operand → AV} {ρ : Operand → Value} (hr : ∀ x, Rv c (ρA x) (ρ x)) {s : Prop} {v : AV} {b : BS} {o : Oper}
    (h : gop P id ρA o.op = some (s, v, b)) (hs : s) : GRun P c f id (execOp ρ o) v b := by
  obtain ⟨dst, op, ty, pos, after, guard⟩ := o
  simp only at h
  cases op <;> (try (simp only [gop] at h; cases h; done))
  case alloc t =>
    simp only [gop] at h
    cases ht : tiOf P t with
    | none => rw [ht] at h; cases h
    | some ti =>
      rw [ht] at h
      simp only [Option.map_some, Option.some.injEq, Prod.mk.injEq] at h
      obtain ⟨_, rfl, rfl⟩ := h
      obtain ⟨d, i, z, hd, hi, hz, _⟩ := tiOf_some ht
      obtain ⟨z1, z2, z3, z4⟩ := zval_rv (c := c) ht hi hz
      refine ⟨_, c.more id (.cells z.cells t) ⟨true, c.w.heap.size, 0, ti.size, z.cells.size⟩, run_value ?_, more_ptr c id ti.size _ _, more_ok hk hid t (lie_one z1 z2 z3 z4), Stp.more hk hid _ _ _⟩
      simp only [Instr.alloc, Sem.run_bind, zeroValue, typeInfo, run_program, Result.andThen_ok, hi, Sem.run_pure, hz, newVar, newRow, run_newObj]
      rfl
  case box t x =>
    simp only [gop] at h
    cases ht : tiOf P t with
    | none => rw [ht] at h; cases h
    | some ti =>
      rw [ht] at h
      simp only [Option.bind_some] at h
      split at h
      · rename_i hsh
        simp only [Option.some.injEq, Prod.mk.injEq] at h
        obtain ⟨_, rfl, rfl⟩ := h
        have hx := hr x
        obtain ⟨g1, g2, g3⟩ := shaped_cells hsh hx
        refine ⟨_, c.more id (.cells (ρ x).cells t) ⟨true, c.w.heap.size, 0, ti.size, (ρ x).cells.size⟩, run_value ?_, more_ptr c id ti.size _ _, more_ok hk hid t (lie_one hx g1 (shaped_one hsh hx) g2), Stp.more hk hid _ _ _⟩
        simp only [Instr.box, Sem.run_bind, newVar, newRow, run_newObj, Result.andThen_ok, Sem.run_pure]
        rfl
      · cases h
  case buildSlice t len parts =>
    simp only [gop] at h
    split at h
    · rename_i ti ht
      split at h
      · rename_i e hke
        split at h
        · rename_i te hte
          split at h
          · rename_i hc
            obtain ⟨hc1, hc2, hc3⟩ := hc
            simp only [Option.some.injEq, Prod.mk.injEq] at h
            obtain ⟨_, rfl, rfl⟩ := h
            obtain ⟨d, i, z, hd, hi, hz, _, _, hk0, _⟩ := tiOf_some ht
            rw [hk0] at hke; have := tk_slice hke; subst this
            obtain ⟨d', ie, ze, hd', hie, hze, hsz, _, _, _, hzs, _⟩ := tiOf_some hte
            have hlen : parts.toList.length = len := by have := congrArg List.length hc1; simpa using this
            subst hlen
            have hmap : (parts.map fun (i, x) => (i, ρ x)) = ((List.range (parts.toList.map fun p => ρ p.2).length).zip (parts.toList.map fun p => ρ p.2)).toArray := by
              have := zip_parts (ρ := ρ) parts.toList 0 (by rw [hc1, List.range_eq_range'])
              apply Array.ext'
              simp only [Array.toList_map, List.length_map]
              rw [List.range_eq_range', ← this]
            have hall : ∀ u ∈ (parts.toList.map fun p => ρ p.2), u.cells.size = ie.size := by
              intro u hu
              rw [List.mem_map] at hu
              obtain ⟨p, hp, rfl⟩ := hu
              rw [← hsz]
              exact (shaped_cells ((List.all_eq_true.1 hc2) p hp) (hr p.2)).1
            have hrun := run_build_slice hd hie hze hzs (parts.toList.map fun p => ρ p.2) hall (by simpa [hsz] using hc3) c.w
            rw [← hmap] at hrun
            simp only [List.length_map] at hrun
            have hfl := flatMap_len hall
            rw [List.length_map, ← hsz] at hfl
            have hsize : ((parts.toList.map fun p => ρ p.2).flatMap (·.cells.toList)).toArray.size = parts.toList.length * te.size := by simpa using hfl
            refine ⟨_, c.more id (.cells ((parts.toList.map fun p => ρ p.2).flatMap (·.cells.toList)).toArray e) ⟨true, c.w.heap.size, 0, te.size, _⟩, run_value hrun, more_own c id te.size _ _ _ _ (Nat.le_refl _) (Nat.le_of_eq hsize.symm), more_ok hk hid e ⟨by rw [hsize]; simp, fun i a hi => ?_⟩, Stp.more hk hid _ _ _⟩
            rw [List.getElem?_map] at hi
            cases hp : parts.toList[i]? with
            | none => rw [hp] at hi; cases hi
            | some p =>
              rw [hp] at hi
              simp only [Option.map_some, Option.some.injEq] at hi
              subst hi
              have hsh := (List.all_eq_true.1 hc2) p (List.mem_of_getElem? hp)
              obtain ⟨g1, g2, g3⟩ := shaped_cells hsh (hr p.2)
              refine ⟨ρ p.2, hr p.2, g1, shaped_one hsh (hr p.2), g2, fun j u hu => ?_⟩
              have := flatMap_get hall i j (ρ p.2) u (by rw [List.getElem?_map, hp]; rfl) hu
              rw [← hsz] at this
              simpa using this
          · cases h
        · cases h
      · cases h
    · cases h
  case makeSlice t l cp =>
    simp only [gop] at h
    split at h
    · rename_i ti k n k' m ht hla hca
      split at h
      · rename_i e hke
        split at h
        · rename_i te hte
          simp only [Option.some.injEq, Prod.mk.injEq] at h
          obtain ⟨rfl, rfl, rfl⟩ := h
          obtain ⟨hn0, hnm, hb, h63⟩ := hs
          have hl := hr l; have hc := hr cp
          rw [hla] at hl; rw [hca] at hc; simp only [Rv] at hl hc
          obtain ⟨d, i, z, hd, hi, hz, _, _, hk0, _⟩ := tiOf_some ht
          rw [hk0] at hke; have := tk_slice hke; subst this
          obtain ⟨d', ie, ze, hd', hie, hze, hsz, hby, _, _, hzs, _⟩ := tiOf_some hte
          obtain ⟨z1, z2, z3, z4⟩ := zval_rv (c := c) hte hie hze
          have hrun := run_make (P := P) c.w t e ie ze hd hie hze k k' n m hn0 hnm (by rw [← hby]; exact hb) h63
          have hmsz : (madeCells ze.cells (m.toNat * ie.size)).size = m.toNat * te.size := by rw [size_madeCells, hsz]
          refine ⟨_, c.more id (.cells (madeCells ze.cells (m.toNat * ie.size)) e) ⟨true, c.w.heap.size, 0, te.size, _⟩, run_value (by rw [hl, hc]; exact hrun), more_own c id te.size _ _ _ _ (by omega) (Nat.le_of_eq hmsz.symm),
            more_ok hk hid e ⟨by rw [hmsz, List.length_replicate]; exact Nat.mul_le_mul_right _ (by omega), fun i a hi => ?_⟩, Stp.more hk hid _ _ _⟩
          rw [List.getElem?_replicate] at hi
          split at hi
          · rename_i hlt
            injection hi with hi; subst hi
            refine ⟨ze, z1, z2, z3, z4, fun j u hu => ?_⟩
            have hj : j < te.size := by
              rw [← z2]
              rcases Nat.lt_or_ge j ze.cells.size with h' | h'
              · exact h'
              · rw [List.getElem?_eq_none (by simpa using h')] at hu; cases hu
            have hlt2 : i * te.size + j < m.toNat * ie.size := by
              rw [← hsz]
              have : (i + 1) * te.size ≤ m.toNat * te.size := Nat.mul_le_mul_right _ (by omega)
              rw [Nat.succ_mul] at this; omega
            simp only [madeCells, Array.getElem?_map, Array.getElem?_range, hlt2, if_true, Option.map_some]
            have hmod : (i * te.size + j) % ze.cells.size = j := by
              rw [z2, Nat.add_comm, Nat.add_mul_mod_self_right, Nat.mod_eq_of_lt hj]
            rw [hmod]
            have hu' : ze.cells[j]? = some u := by simpa using hu
            rw [getElem!_def, hu']
          · cases hi
        · cases h
      · cases h
    · cases h

end Go.Proofs.Ytpmahilkkoengaa
