/-
  The machine does what the value operations say: all of them at once; and the reading ones.
-/
import Derived.Test.YtpmahilkkoengaaFwE
namespace Go.Proofs.Ytpmahilkkoengaa
open Go
set_option linter.unusedSimpArgs false
set_option linter.unusedVariables false

/-- The value operation yields r, and the world is as it was. -/
def VRun (P : Program) (c : Cx) (s : Sem Next) (v : AV) : Prop := ∃ r, s.run P c.w = .ok (.value r) c.w ∧ Rv c v r

theorem VRun.of {P : Program} {c : Cx} {s : Sem Value} {v : AV} (h : ∃ r, s.run P c.w = .ok r c.w ∧ Rv c v r) : VRun P c (do pure (.value (← s))) v :=
  let ⟨r, h1, h2⟩ := h; ⟨r, run_value h1, h2⟩

theorem run_mapM_list {α β : Type} {P : Program} (g : α → Sem β) (f : α → β) (w : World) : ∀ l : List α, (∀ x ∈ l, (g x).run P w = .ok (f x) w) → (l.mapM g).run P w = .ok (l.map f) w
  | [], _ => by simp
  | x :: l, h => by
    simp only [List.mapM_cons, Sem.run_bind, h x (by simp), Result.andThen_ok, run_mapM_list g f w l (fun y hy => h y (by simp [hy])), Sem.run_pure, List.map_cons]
theorem run_mapM_array {α β : Type} {P : Program} (g : α → Sem β) (f : α → β) (w : World) (xs : Array α) (h : ∀ x ∈ xs, (g x).run P w = .ok (f x) w) : (xs.mapM g).run P w = .ok (xs.map f) w := by
  rw [Array.mapM_eq_mapM_toList, Sem.run_map, run_mapM_list g f w xs.toList (fun x hx => h x (by simpa using hx))]
  simp only [Result.andThen_ok]
  congr 1
  exact Array.ext' (by simp)

section
variable {P : Program} {c : Cx} {ρA : Operand → AV} {ρ : Operand → Value} (hr : ∀ x, Rv c (ρA x) (ρ x)) {s : Prop} {v : AV}
include hr

theorem v_indexAddr {t : TypeId} {x i : Operand} (h : vop P ρA (.indexAddr t x i) = some (s, v)) (hs : s) : ∃ r, (Instr.indexAt t (ρ x) (ρ i)).run P c.w = .ok r c.w ∧ Rv c v r := by
  have hx := hr x
  have hi := hr i
  simp only [vop] at h
  split at h
  · -- a slice read alone
    rename_i ti sz tight l k n ht hxa hia
    rw [hxa] at hx; rw [hia] at hi
    split at h
    · rename_i e he
      split at h
      · rename_i te hte
        split at h
        · rename_i hsz
          injection h with h; injection h with h1 h2; subst h1; subst h2
          obtain ⟨d, ii, z, hd, hii, _, _, _, hk, _⟩ := tiOf_some ht
          rw [hk] at he
          have := tk_slice he; subst this
          obtain ⟨d', i', z', hd', hi', _, hsi, _⟩ := tiOf_some hte
          simp only [Rv] at hx hi
          obtain ⟨a, cap, hxv, hc1, hc2, hc3⟩ := hx
          rcases hc3 with rfl | ⟨b, o, rfl, hb, hF, hre⟩
          · simp at hs; omega
          · rw [hxv, hi]
            obtain ⟨vs, g1, g2, g3, g4⟩ := elem_cells hre hs.1 hs.2
            refine ⟨_, indexAt_slice hd hi' b o _ cap k n hs.1 hs.2 c.w, ?_⟩
            simp only [Rv]
            exact ⟨b, o + n.toNat * i'.size, vs, rfl, hb, hF, g2, g3, by rw [← hsi, hsz]; exact g4⟩
        · cases h
      · cases h
    · cases h
  · -- one of the call's own
    rename_i ti sz id off len k n ht hxa hia
    rw [hxa] at hx; rw [hia] at hi
    split at h
    · rename_i e he
      split at h
      · rename_i te hte
        split at h
        · rename_i hsz
          injection h with h; injection h with h1 h2; subst h1; subst h2
          obtain ⟨d, ii, z, hd, hii, _, _, _, hk, _⟩ := tiOf_some ht
          rw [hk] at he
          have := tk_slice he; subst this
          obtain ⟨d', i', z', hd', hi', _, hsi, _⟩ := tiOf_some hte
          simp only [Rv] at hx hi
          obtain ⟨hU, hesz, a, cap, hxv, hc1, hc3⟩ := hx
          rcases hc3 with rfl | ⟨b, o, rfl, hall⟩
          · omega
          · rw [hxv, hi]
            refine ⟨_, indexAt_slice hd hi' b o _ cap k n hs.1 hs.2 c.w, ?_⟩
            simp only [Rv]
            refine ⟨hU, _, _, rfl, fun e' he' => ?_⟩
            obtain ⟨q1, q2, q3, q4⟩ := hall e' he'
            refine ⟨q1, q2, ?_⟩
            have q5 := hesz e' he'
            rw [q3, ← hsi, hsz, ← q5, Nat.add_mul]; omega
        · cases h
      · cases h
    · cases h
  · -- an array's address, own
    rename_i ti id idx off k n ht hxa hia
    rw [hxa] at hx; rw [hia] at hi
    split at h
    · rename_i m e he
      split at h
      · rename_i te hte
        injection h with h; injection h with h1 h2; subst h1; subst h2
        obtain ⟨d, ii, z, hd, hii, _, _, _, hk, _⟩ := tiOf_some ht
        rw [hk] at he
        have := tk_array he; subst this
        obtain ⟨d', i', z', hd', hi', _, hsi, _⟩ := tiOf_some hte
        simp only [Rv] at hx hi
        obtain ⟨hU, b, o, hxv, hall⟩ := hx
        rw [hxv, hi]
        refine ⟨_, indexAt_array hd hi' b o k n hs.1 hs.2 c.w, ?_⟩
        simp only [Rv]
        refine ⟨hU, _, _, rfl, fun e' he' => ?_⟩
        obtain ⟨q1, q2, q3⟩ := hall e' he'
        exact ⟨q1, q2, by rw [q3, hsi]; omega⟩
      · cases h
    · cases h
  · rename_i ti cs k n ht hxa hia
    rw [hxa] at hx; rw [hia] at hi
    split at h
    · rename_i m e he
      split at h
      · rename_i te hte
        injection h with h; injection h with h1 h2; subst h1; subst h2
        obtain ⟨d, ii, z, hd, hii, _, _, _, hk, _⟩ := tiOf_some ht
        rw [hk] at he
        have := tk_array he; subst this
        obtain ⟨d', i', z', hd', hi', _, hsi, _⟩ := tiOf_some hte
        simp only [Rv] at hx hi
        obtain ⟨b, o, vs, hxv, hb, hF, g0, g1, g2⟩ := hx
        rw [hxv, hi]
        refine ⟨_, indexAt_array hd hi' b o k n hs.1 hs.2 c.w, ?_⟩
        simp only [Rv]
        refine ⟨b, o + n.toNat * i'.size, vs.drop (n.toNat * i'.size), rfl, hb, hF, fun u hu => g0 u (List.mem_of_mem_drop hu), ?_, g2.drop _⟩
        rw [hsi]; exact g1.drop _
      · cases h
    · cases h
  · cases h

theorem v_index {t : TypeId} {x i : Operand} (h : vop P ρA (.index t x i) = some (s, v)) (hs : s) : ∃ r, (Instr.index t (ρ x) (ρ i)).run P c.w = .ok r c.w ∧ Rv c v r := by
  have hx := hr x
  have hi := hr i
  simp only [vop] at h
  split at h
  · rename_i ti st k n ht hxa hia
    rw [hxa] at hx; rw [hia] at hi
    split at h
    · rename_i he
      injection h with h; injection h with h1 h2; subst h1; subst h2
      obtain ⟨d, ii, z, hd, hii, _, _, _, hk, _⟩ := tiOf_some ht
      rw [hk] at he
      have := tk_string he; subst this
      simp only [Rv] at hx hi
      rw [hx, hi]
      have hlt : n.toNat < st.size := by omega
      refine ⟨_, ?_, rfl⟩
      simp only [Instr.index, Sem.run_bind, asIntOf, Sem.run_pure, Result.andThen_ok, run_underlying hd, hs.1, if_true]
      have : st[n.toNat]? = some (st.data.toList.getD n.toNat 0) := by
        rw [List.getD_eq_getElem?_getD, Array.getElem?_toList]
        have h1 : st.data[n.toNat]? = some st.data[n.toNat] := Array.getElem?_eq_getElem hlt
        rw [h1]
        simp only [Option.getD_some]
        exact getElem?_pos st n.toNat hlt
      rw [this]
      rfl
    · cases h
  · rename_i ti cs k n ht hxa hia
    rw [hxa] at hx; rw [hia] at hi
    split at h
    · rename_i m e he
      split at h
      · rename_i te hte
        injection h with h; injection h with h1 h2; subst h1; subst h2
        obtain ⟨d, ii, z, hd, hii, _, _, _, hk, _⟩ := tiOf_some ht
        rw [hk] at he
        have := tk_array he; subst this
        obtain ⟨d', i', z', hd', hi', _, hsi, _, hk', _⟩ := tiOf_some hte
        obtain ⟨vs, hxv, g1, g2⟩ := agg_ov hx
        simp only [Rv] at hi
        rw [hxv, hi]
        have hp := pack_sound (P := P) hd' hi' g1 g2 (n.toNat * te.size) (by rw [← hsi]; exact hs.2.2) (fun hg => by rw [← hsi]; exact zero_size1 hte (by rw [hk']; exact hg))
        obtain ⟨r, hr1, hr2⟩ := hp
        refine ⟨r, ?_, by rw [hk', hsi] at *; exact hr2⟩
        simp only [Instr.index, Sem.run_bind, asIntOf, Sem.run_pure, Result.andThen_ok, run_underlying hd, hs.1, hs.2.1, and_self, if_true, sizeOf_run hi']
        rw [← hsi]; exact hr1
      · cases h
    · cases h
  · cases h

theorem v_field {t : TypeId} {x : Operand} {f : Nat} (h : vop P ρA (.field t x f) = some (s, v)) (hs : s) : ∃ r, (Instr.field t (ρ x) f).run P c.w = .ok r c.w ∧ Rv c v r := by
  have hx := hr x
  simp only [vop] at h
  split at h
  · rename_i ti ht
    split at h
    · rename_i fs hk
      split at h
      · rename_i off tt hf
        split at h
        · rename_i tf cs htf hxa
          injection h with h; injection h with h1 h2; subst h1; subst h2
          rw [hxa] at hx
          obtain ⟨d, ii, z, hd, hii, _, _, _, hk0, _⟩ := tiOf_some ht
          rw [hk0] at hk
          obtain ⟨fields, rfl, rfl⟩ := tk_struct hk
          obtain ⟨fd, hfd, rfl, rfl⟩ := field_get hf
          obtain ⟨d', i', z', hd', hi', _, hsi, _, hk', _⟩ := tiOf_some htf
          obtain ⟨vs, hxv, g1, g2⟩ := agg_ov hx
          rw [hxv]
          have hp := pack_sound (P := P) hd' hi' g1 g2 fd.offset (by rw [← hsi]; exact hs) (fun hg => by rw [← hsi]; exact zero_size1 htf (by rw [hk']; exact hg))
          obtain ⟨r, hr1, hr2⟩ := hp
          refine ⟨r, ?_, by rw [hk', hsi] at *; exact hr2⟩
          simp only [Instr.field, Sem.run_bind, run_underlying hd, Result.andThen_ok, hfd, asAgg, Sem.run_pure]
          exact hr1
        · cases h
      · cases h
    · cases h
  · cases h

theorem v_fieldAddr {t : TypeId} {x : Operand} {f : Nat} (h : vop P ρA (.fieldAddr t x f) = some (s, v)) (hs : s) : ∃ r, (Instr.fieldAt t (ρ x) f).run P c.w = .ok r c.w ∧ Rv c v r := by
  have hx := hr x
  simp only [vop] at h
  split at h
  · rename_i ti ht
    split at h
    · rename_i fs hk
      split at h
      · rename_i off tt hf
        split at h
        · rename_i tf htf
          split at h
          · cases h
          · rename_i hne
            split at h
            · rename_i id idx o hxa
              injection h with h; injection h with h1 h2; subst h1; subst h2
              rw [hxa] at hx
              simp only [Rv] at hx
              obtain ⟨hU, b, o', hxv, hall⟩ := hx
              rw [hxv]
              refine ⟨_, fieldAt_sound ht hk hf htf hne b o' c.w, ?_⟩
              simp only [Rv]
              refine ⟨hU, _, _, rfl, fun e' he' => ?_⟩
              obtain ⟨q1, q2, q3⟩ := hall e' he'
              exact ⟨q1, q2, by rw [q3]; omega⟩
            · rename_i cs hxa
              injection h with h; injection h with h1 h2; subst h1; subst h2
              rw [hxa] at hx
              simp only [Rv] at hx
              obtain ⟨b, o', vs, hxv, hb, hF, g0, g1, g2⟩ := hx
              rw [hxv]
              refine ⟨_, fieldAt_sound ht hk hf htf hne b o' c.w, ?_⟩
              simp only [Rv]
              exact ⟨b, o' + off, vs.drop off, rfl, hb, hF, fun u hu => g0 u (List.mem_of_mem_drop hu), g1.drop _, g2.drop _⟩
            · cases h
        · cases h
      · cases h
    · cases h
  · cases h

theorem v_build {t : TypeId} {parts : Array (Nat × Operand)} (h : vop P ρA (.build t parts) = some (s, v)) (hs : s) : ∃ r, (Instr.build t (parts.map fun (i, x) => (i, ρ x))).run P c.w = .ok r c.w ∧ Rv c v r := by
  simp only [vop] at h
  split at h
  · rename_i ti ht
    obtain ⟨d, ii, z, hd, hii, hz, _, _, hk0, hz0, hzs, hz1, _, hall⟩ := tiOf_some ht
    have hzr : Rl c ti.zero z.cells.toList := by
      rw [hz0]
      refine Rl.of_get (by simp) fun i a u h1 h2 => ?_
      rw [List.getElem?_map, h2] at h1
      simp only [Option.map_some, Option.some.injEq] at h1
      subst h1; exact absV_rv c u
    have hmap : ((parts.map fun (i, x) => (i, ρ x)).toList) = parts.toList.map fun p => (p.1, ρ p.2) := by simp
    split at h
    · rename_i fs hk
      rw [hk0] at hk
      obtain ⟨fields, rfl, rfl⟩ := tk_struct hk
      cases hfl : fillA (fun i : Nat => ((fields.toList.map fun f => (f.offset, f.type))[i]?).bind fun p : Nat × TypeId => (tiOf P p.2).map fun tf => (p.1, tf.size)) ρA parts.toList ti.zero with
      | none => rw [hfl] at h; cases h
      | some cs =>
        rw [hfl] at h
        simp only [Option.map_some, Option.some.injEq, Prod.mk.injEq] at h
        obtain ⟨_, rfl⟩ := h
        have hmm : ∃ places : Array (Nat × Nat), (fields.mapM fun f => do pure (f.offset, ← sizeOf f.type) : Sem (Array (Nat × Nat))).run P c.w = .ok places c.w ∧
            ∀ i : Nat, ((fields.toList.map fun f => (f.offset, f.type))[i]?).bind (fun p : Nat × TypeId => (tiOf P p.2).map fun tf => (p.1, tf.size)) ≠ none →
              ((fields.toList.map fun f => (f.offset, f.type))[i]?).bind (fun p : Nat × TypeId => (tiOf P p.2).map fun tf => (p.1, tf.size)) = places[i]? := by
          simp only [fieldsB, List.all_eq_true] at hall
          refine ⟨fields.map fun f => (f.offset, ((P.info? f.type).map (·.size)).getD 0), ?_, ?_⟩
          · refine run_mapM_array _ _ c.w fields fun f hf => ?_
            obtain ⟨i, hi⟩ := Option.isSome_iff_exists.1 (hall f (by simpa using hf))
            simp only [Sem.run_bind, sizeOf_run hi, Result.andThen_ok, Sem.run_pure, hi, Option.map_some, Option.getD_some]
          · intro i hne
            rw [List.getElem?_map] at hne ⊢
            rw [Array.getElem?_map, ← Array.getElem?_toList]
            cases hf : fields.toList[i]? with
            | none => rw [hf] at hne; simp at hne
            | some f =>
              rw [hf] at hne
              simp only [Option.map_some, Option.bind_some] at hne ⊢
              cases ht' : tiOf P f.type with
              | none => rw [ht'] at hne; simp at hne
              | some tf =>
                obtain ⟨d', i', z', hd', hi', _, hsi, _⟩ := tiOf_some ht'
                simp only [Option.map_some, hi', Option.getD_some, hsi]
        obtain ⟨places, hp1, hp2⟩ := hmm
        obtain ⟨vs', e1, e2, e3⟩ := fillA_sound hr _ (fun i : Nat => places[i]?) hp2 parts.toList _ cs z.cells hfl hz1 hzr
        refine ⟨.agg vs', ?_, ?_⟩
        · simp only [Instr.build, Sem.run_bind, zeroValue, typeInfo, run_program, Result.andThen_ok, hii, Sem.run_pure, hz, run_underlying hd, hp1, hmap, e1]
        · simp only [Rv]; exact ⟨vs', rfl, e2, e3⟩
    · rename_i m e hk
      rw [hk0] at hk
      have := tk_array hk; subst this
      split at h
      · rename_i te hte
        obtain ⟨d', i', z', hd', hi', _, hsi, _⟩ := tiOf_some hte
        cases hfl : fillA (fun i => some (i * te.size, te.size)) ρA parts.toList ti.zero with
        | none => rw [hfl] at h; cases h
        | some cs =>
          rw [hfl] at h
          simp only [Option.map_some, Option.some.injEq, Prod.mk.injEq] at h
          obtain ⟨_, rfl⟩ := h
          obtain ⟨vs', e1, e2, e3⟩ := fillA_sound hr _ (fun i => some (i * te.size, te.size)) (fun _ _ => rfl) parts.toList _ cs z.cells hfl hz1 hzr
          refine ⟨.agg vs', ?_, ?_⟩
          · rw [hsi] at e1
            simp only [Instr.build, Sem.run_bind, zeroValue, typeInfo, run_program, Result.andThen_ok, hii, Sem.run_pure, hz, run_underlying hd, sizeOf_run hi', hmap, e1]
          · simp only [Rv]; exact ⟨vs', rfl, e2, e3⟩
      · cases h
    · cases h
  · cases h
end

end Go.Proofs.Ytpmahilkkoengaa
