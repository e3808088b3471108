/-
  Of the seat's texts, joined: FlN FlO.
-/
import Derived.Test.YtmhnmaklgcppbaaGreatPkXa
namespace Go.Proofs.YtmhnmaklgcppbaaGreat
open Go Go.Proofs
set_option linter.unusedSimpArgs false
set_option linter.unusedVariables false
set_option maxRecDepth 20000

theorem cutR_last {v : List HQ} (h : 0 < v.length) : (cutR v.length v).getLastD hQ0 = v.getLastD hQ0 := by
  have key : ∀ (k : Nat) (v : List HQ), 0 < k → (cutR k v).getLastD hQ0 = v.getLastD hQ0 := by
    intro k v hk
    induction k with
    | zero => omega
    | succ k ih =>
      cases k with
      | zero => rfl
      | succ k =>
        have h1 : ((rowN k v).getLastD hQ0 :: cutR k v).getLastD hQ0 = v.getLastD hQ0 := ih (by omega)
        show ((rowN (k + 1) v).getLastD hQ0 :: ((rowN k v).getLastD hQ0 :: cutR k v)).getLastD hQ0 = _
        rw [List.getLastD_cons] at h1
        rw [List.getLastD_cons, List.getLastD_cons]
        exact h1
  exact key v.length v h
theorem cutR_ne {v : List HQ} (h : 0 < v.length) : 0 < (cutR v.length v).length := by rw [cutR_len]; exact h
theorem ftree_last {tol : Rat} : ∀ (k : Nat) (v : List HQ), 0 < v.length → ∃ l, ftree tol k v = l ++ [(v.getLastD hQ0).P]
  | 0, v, _ => ⟨[], rfl⟩
  | k + 1, v, h => by
    unfold ftree
    split
    · exact ⟨[], rfl⟩
    · obtain ⟨l, e⟩ := ftree_last (tol := tol) k (cutR v.length v) (cutR_ne h)
      rw [cutR_last h] at e
      exact ⟨ftree tol k (cutL v.length v) ++ l, by rw [e, List.append_assoc]⟩
theorem ftree_finer {s t : Rat} (h0 : 0 ≤ s) (hst : s ≤ t) : ∀ (k : Nat) (v : List HQ), 0 < v.length → (ftree t k v).Sublist (ftree s k v)
  | 0, v, _ => List.Sublist.refl _
  | k + 1, v, h => by
    by_cases hs : flatQ v s
    · have ht := flat_mono h0 hst hs
      unfold ftree
      rw [if_pos hs, if_pos ht]
      exact List.Sublist.refl _
    · obtain ⟨l, e⟩ := ftree_last (tol := s) (k + 1) v h
      by_cases ht : flatQ v t
      · rw [e]
        unfold ftree
        rw [if_pos ht]
        exact List.sublist_append_right _ _
      · unfold ftree
        rw [if_neg hs, if_neg ht]
        exact List.Sublist.append (ftree_finer h0 hst k _ (by rw [cutL_len]; exact h)) (ftree_finer h0 hst k _ (cutR_ne h))

/-- How far one comes through a list by going along another one. -/
def gof (a : List PQ) : List PQ → Nat → Nat
  | [], j => j
  | x :: b, j => gof a b (if a[j]? = some x then j + 1 else j)
/-- All that is left is found, if it stands there in order. -/
theorem gof_sub {a : List PQ} : ∀ (b : List PQ) (j : Nat), (a.drop j).Sublist b → j ≤ a.length → gof a b j = a.length
  | [], j, h, hj => by
    have := List.sublist_nil.1 h
    rw [List.drop_eq_nil_iff] at this
    simp only [gof]; omega
  | x :: b, j, h, hj => by
    unfold gof
    by_cases hx : a[j]? = some x
    · rw [if_pos hx]
      have hlt : j < a.length := (List.getElem?_eq_some_iff.1 hx).1
      refine gof_sub b (j + 1) ?_ hlt
      have e : a.drop j = x :: a.drop (j + 1) := by
        rw [List.drop_eq_getElem_cons hlt]
        congr 1
        exact (List.getElem?_eq_some_iff.1 hx).2
      rw [e] at h
      exact List.cons_sublist_cons.1 h
    · rw [if_neg hx]
      refine gof_sub b j ?_ hj
      by_cases hlt : j < a.length
      · have e : a.drop j = a[j] :: a.drop (j + 1) := List.drop_eq_getElem_cons hlt
        rw [e] at h ⊢
        rcases List.sublist_cons_iff.1 h with h | ⟨r, h1, h2⟩
        · exact h
        · injection h1 with h1 _
          exact absurd (by rw [List.getElem?_eq_getElem hlt, h1]) hx
      · rw [List.drop_eq_nil_of_le (by omega)]; exact List.nil_sublist _
theorem gof_le {a : List PQ} : ∀ (b : List PQ) (j : Nat), j ≤ a.length → gof a b j ≤ a.length
  | [], j, h => h
  | x :: b, j, h => by
    unfold gof
    split
    · rename_i hx
      have := (List.getElem?_eq_some_iff.1 hx).1
      exact gof_le b _ (by omega)
    · exact gof_le b _ h
theorem gof_end {a : List PQ} : ∀ (b : List PQ), gof a b a.length = a.length
  | [] => rfl
  | x :: b => by
    unfold gof
    rw [if_neg (by rw [List.getElem?_eq_none (Nat.le_refl _)]; simp)]
    exact gof_end b
end Go.Proofs.YtmhnmaklgcppbaaGreat
namespace Go.Proofs.YtmhnmaklgcppbaaGreat
open Go Go.Proofs
set_option linter.unusedSimpArgs false
set_option linter.unusedVariables false
set_option maxRecDepth 20000

theorem gof_step {a b : List PQ} {i j : Nat} (hi : i < b.length) (hj : j < a.length) : gof a (b.drop i) j = gof a (b.drop (i + 1)) (if b[i] = a[j] then j + 1 else j) := by
  rw [List.drop_eq_getElem_cons hi]
  conv => lhs; unfold gof
  rw [List.getElem?_eq_getElem hj]
  by_cases h : b[i] = a[j]
  · rw [if_pos h, if_pos (by rw [h])]
  · rw [if_neg h, if_neg (by intro hh; exact h (Option.some.inj hh).symm)]

set_option maxHeartbeats 16000000 in
theorem ffiner_pure (l : List HR) (tol : RQ) (hl : l.length ≤ 9223372036854775807) (hm : ∀ h ∈ l, h.Lm) (ht : tol.Lm) : Pure Tryz.prog 11 [hL l, tol.av] (.bool true) := by
  have hlt := flight_pure l tol hl hm ht
  have hw := fwakes_pure
  obtain ⟨ct, hct, t1, t2, t3, t4⟩ : ∃ ct, tol.av = .agg ct ∧ ct.length = 3 ∧ ct.take 3 = ct ∧ ct.drop 3 = [] ∧ roL ct := ⟨_, rfl, rfl, rfl, rfl, rq_cs_ro tol⟩
  refine Pure.of_go mixed Tryz.func11 rfl (rs := [.tmp 4]) rfl (by kernel_rfl) (by simp -implicitDefEqProofs [go_sem]) ?_
  by_cases hLf : LightF l tol
  · rw [decide_eq_true hLf] at hlt
    have hT := fun a b => light_tr hm hLf a b
    obtain ⟨a1, a2, a3⟩ := hLf
    have hz : ∀ h ∈ l, h.In 4 := fun h hh => (hm h hh).inn (a1.1 h hh)
    have hl6 := a1.2
    have it := sml_in a2 ht
    have zt := it.sz
    have hins := gins_pure l (by omega) (fun h hh => (hz h hh).mono)
    have hgd := ggood_pure (l.map HR.val) (by simp; omega)
    have g1 := finr tol it.mono
    have c8 := fof_pure 1 8 (by omega) (by omega) (by omega)
    have z8 := sz_frac (p := 1) (q := 8) (by omega) (by omega) (by omega)
    rw [show ((1 : Int) : Rat) / ((8 : Int) : Rat) = 1 / 8 by grind] at c8 z8
    have g3 := fcmp_pure tol.val (1 / 8) (by omega) (by omega)
    by_cases hG : GoodC (l.map HR.val)
    · rw [decide_eq_true hG] at hgd
      by_cases h8 : tol.val < 1 / 8
      · have e8 := cmpQ_lt.2 h8
        generalize l.map HR.val = v at *
        rw [hct] at hlt g1 ⊢
        unfold hL gL at *
        simp only [fA_fC] at g1 g3 c8
        simp -implicitDefEqProofs [go_sem, t1, t2]
        refine goC_pure _ hlt (by simp -implicitDefEqProofs [go_sem, t4]) ?_
        simp -implicitDefEqProofs [go_sem]
        refine goC_pure _ hins (by simp -implicitDefEqProofs [go_sem]) ?_
        simp -implicitDefEqProofs [go_sem]
        refine goC_pure _ hgd (by simp -implicitDefEqProofs [go_sem]) ?_
        simp -implicitDefEqProofs [go_sem, t1, t2]
        refine goC_pure _ g1 (by simp -implicitDefEqProofs [go_sem, t4]) ?_
        simp -implicitDefEqProofs [go_sem]
        refine goC_pure _ c8 (by simp -implicitDefEqProofs [go_sem]) ?_
        simp -implicitDefEqProofs [go_sem]
        refine goC_pure _ g3 (by simp -implicitDefEqProofs [go_sem, ro_fC]) ?_
        simp -implicitDefEqProofs [go_sem, e8]
        refine goC_pure _ hw (by simp -implicitDefEqProofs [go_sem]) ?_
        simp -implicitDefEqProofs [go_sem]
      · have e8 : ¬ cmpQ tol.val (1 / 8) < 0 := fun h => h8 (cmpQ_lt.1 h)
        have h0 : 0 < tol.val := by grind
        have hb4 : ∀ h ∈ l.map HR.val, BxL h := by
          rcases a3 with h | h | h
          · exact absurd hG h
          · grind
          · exact h.2
        have hs4 : ∀ h ∈ l.map HR.val, h.sz ≤ 4 := fun h hh => by
          obtain ⟨y, hy, rfl⟩ := List.mem_map.1 hh
          exact (hz y hy).sz
        have hT2 : Tr (tol.val * (1 / 4)) 51 14 (l.map HR.val) := tr_light hG hs4 (fun h hh => bxl_bx (hG.1 h hh) (hb4 h hh)) (fun h hh => (hb4 h hh).2.2.2) (by grind)
        have q4 := rof_pure 1 4 (by omega) (by omega) (by omega)
        have y4 := sz_frac (p := 1) (q := 4) (by omega) (by omega) (by omega)
        rw [show ((1 : Int) : Rat) / ((4 : Int) : Rat) = 1 / 4 by grind] at q4 y4
        have hmul := rmul_pure tol (qc (1 / 4)) (it.mono (m := 17179869184)).sm (qc_sm (by omega))
        rw [qc_val] at hmul
        change Pure _ _ [_, rA _] _ at hmul
        have zm := sz_mul tol.val (1 / 4)
        have hc1 := fcurve_pure l tol (by omega) (fun h hh => (hz h hh).mono) it.mono hT
        have hc2 := fcurve_pure l (qc (tol.val * (1 / 4))) (by omega) (fun h hh => (hz h hh).mono) (qc_in (by omega)) (by rw [qc_val]; exact fun _ _ => hT2)
        rw [qc_val] at hc2
        change Pure _ _ [_, rA _] _ at hc2
        have hsv : ∀ h ∈ l.map HR.val, h.sz ≤ 51 := fun h hh => by have := hs4 h hh; omega
        obtain ⟨o1, o2⟩ := fcv_ok hsv hT
        obtain ⟨o3, o4⟩ := fcv_ok (tol := tol.val * (1 / 4)) hsv (fun _ _ => hT2)
        have ea : fcv (l.map HR.val) tol.val = (((l.map HR.val).headD hQ0).P :: ftree tol.val 14 (l.map HR.val), fdeep tol.val 14 (l.map HR.val), 0) := by
          unfold fcv; rw [if_neg (not_not_intro hG), if_neg (by grind)]
        have eb : fcv (l.map HR.val) (tol.val * (1 / 4)) = (((l.map HR.val).headD hQ0).P :: ftree (tol.val * (1 / 4)) 14 (l.map HR.val), fdeep (tol.val * (1 / 4)) 14 (l.map HR.val), 0) := by
          unfold fcv; rw [if_neg (not_not_intro hG), if_neg (by grind)]
        have hsub : (((l.map HR.val).headD hQ0).P :: ftree tol.val 14 (l.map HR.val)).Sublist (((l.map HR.val).headD hQ0).P :: ftree (tol.val * (1 / 4)) 14 (l.map HR.val)) :=
          List.cons_sublist_cons.2 (ftree_finer (by grind) (by grind) 14 _ (by have := hG.2.1; omega))
        rw [ea] at hc1 o1 o2
        rw [eb] at hc2 o3 o4
        simp only at hc1 hc2 o1 o2 o3 o4
        generalize ((l.map HR.val).headD hQ0).P :: ftree tol.val 14 (l.map HR.val) = A at *
        generalize ((l.map HR.val).headD hQ0).P :: ftree (tol.val * (1 / 4)) 14 (l.map HR.val) = B at *
        have hle := hsub.length_le
        have h00 := gof_sub B 0 (by simpa using hsub) (Nat.zero_le _)
        generalize tol.val * (1 / 4) = tq at *
        generalize l.map HR.val = v at *
        rw [hct] at hlt g1 hc1 hmul ⊢
        unfold hL gL pL at *
        simp only [fA_fC, rA_rC] at g1 g3 c8 q4 hmul hc2
        have hle' : ¬ (B.length : Int) < A.length := by omega
        simp -implicitDefEqProofs [go_sem, t1, t2]
        refine goC_pure _ hlt (by simp -implicitDefEqProofs [go_sem, t4]) ?_
        simp -implicitDefEqProofs [go_sem]
        refine goC_pure _ hins (by simp -implicitDefEqProofs [go_sem]) ?_
        simp -implicitDefEqProofs [go_sem]
        refine goC_pure _ hgd (by simp -implicitDefEqProofs [go_sem]) ?_
        simp -implicitDefEqProofs [go_sem, t1, t2]
        refine goC_pure _ g1 (by simp -implicitDefEqProofs [go_sem, t4]) ?_
        simp -implicitDefEqProofs [go_sem]
        refine goC_pure _ c8 (by simp -implicitDefEqProofs [go_sem]) ?_
        simp -implicitDefEqProofs [go_sem]
        refine goC_pure _ g3 (by simp -implicitDefEqProofs [go_sem, ro_fC]) ?_
        simp -implicitDefEqProofs [go_sem, e8, t1, t2]
        refine goC_pure _ hc1 (by simp -implicitDefEqProofs [go_sem, t4]) ?_
        simp -implicitDefEqProofs [go_sem, t1, t2]
        refine goD_pure _ q4 (by simp -implicitDefEqProofs [go_sem]) ?_
        simp -implicitDefEqProofs [go_sem]
        refine goD_pure _ hmul (by simp -implicitDefEqProofs [go_sem, t4, ro_rC]) ?_
        simp -implicitDefEqProofs [go_sem]
        refine goD_pure _ hc2 (by simp -implicitDefEqProofs [go_sem, ro_rC]) ?_
        have hle2 : ¬ B.length < A.length := by omega
        simp -implicitDefEqProofs [go_sem, hle, hle', hle2]
        refine go_loopN 0 (α := {s : Nat × Nat // s.1 ≤ B.length ∧ s.2 ≤ A.length ∧ gof A (B.drop s.1) s.2 = A.length}) (fun s => [(5, .sl 6 false (A.map pA)), (7, .sl 6 false (B.map pA)), (9, .int .i64 s.1.2), (10, .int .i64 s.1.1)]) (fun s => []) (fun s => B.length - s.1.1) ⟨(0, 0), by simp, by simp, by simpa using h00⟩ [] (by simp) (by simp) (by omega) (by simp -implicitDefEqProofs [go_sem]) (by simp -implicitDefEqProofs [go_sem]) fun ⟨⟨i, j⟩, hi, hj, hg⟩ => ?_
        simp only at hi hj hg
        have hend : (¬ i < B.length ∨ ¬ j < A.length) → j = A.length := fun h => by
          rcases h with h | h
          · rw [List.drop_eq_nil_of_le (by omega)] at hg
            exact hg
          · omega
        simp -implicitDefEqProofs [go_sem]
        refine ⟨fun h5 => ⟨fun h6 => ?_, fun h6 => ?_⟩, fun h5 => ?_⟩
        · have es : IntKind.i64.wrap ((i : Int) + 1) = (i + 1 : Nat) := by rw [w64 (by omega)]; omega
          have ej : IntKind.i64.wrap ((j : Int) + 1) = (j + 1 : Nat) := by rw [w64 (by omega)]; omega
          have e1 := getE_pA (l := B) (i := i) h5
          have e2 := getE_pA (l := A) (i := j) h6
          have hps := psameq_pure B[i] A[j] (by have := o4 _ (List.getElem_mem h5); omega) (by have := o2 _ (List.getElem_mem h6); omega)
          have hst := gof_step (a := A) (b := B) h5 h6
          rw [hg] at hst
          generalize B[i] = p at *
          generalize A[j] = q at *
          simp only [pA_pC] at hps
          simp -implicitDefEqProofs [go_sem, e1, e2]
          refine ⟨h5, h6, goD_pure _ hps (by simp -implicitDefEqProofs [go_sem, ro_pC]) ?_⟩
          by_cases hpq : p = q
          · rw [if_pos hpq] at hst
            simp -implicitDefEqProofs [go_sem, hpq, es, ej]
            refine go_again ⟨(i + 1, j + 1), h5, h6, hst.symm⟩ (by simp only; omega) [] (by simp) (by simp) (by simp) (by simp -implicitDefEqProofs [go_sem, es, ej]) (by simp)
          · rw [if_neg hpq] at hst
            simp -implicitDefEqProofs [go_sem, hpq, es]
            refine go_again ⟨(i + 1, j), h5, hj, hst.symm⟩ (by simp only; omega) [] (by simp) (by simp) (by simp) (by simp -implicitDefEqProofs [go_sem, es]) (by simp)
        · have := hend (.inr (by omega))
          simp -implicitDefEqProofs [go_sem, this]
          refine goC_pure _ hw (by simp -implicitDefEqProofs [go_sem]) ?_
          simp -implicitDefEqProofs [go_sem]
        · have := hend (.inl (by omega))
          simp -implicitDefEqProofs [go_sem, this]
          refine goC_pure _ hw (by simp -implicitDefEqProofs [go_sem]) ?_
          simp -implicitDefEqProofs [go_sem]
    · rw [decide_eq_false hG] at hgd
      generalize l.map HR.val = v at *
      rw [hct] at hlt g1 ⊢
      unfold hL gL at *
      simp -implicitDefEqProofs [go_sem, t1, t2]
      refine goC_pure _ hlt (by simp -implicitDefEqProofs [go_sem, t4]) ?_
      simp -implicitDefEqProofs [go_sem]
      refine goC_pure _ hins (by simp -implicitDefEqProofs [go_sem]) ?_
      simp -implicitDefEqProofs [go_sem]
      refine goC_pure _ hgd (by simp -implicitDefEqProofs [go_sem]) ?_
      simp -implicitDefEqProofs [go_sem]
      refine goC_pure _ hw (by simp -implicitDefEqProofs [go_sem]) ?_
      simp -implicitDefEqProofs [go_sem]
  · rw [decide_eq_false hLf] at hlt
    rw [hct] at hlt ⊢
    unfold hL at *
    simp -implicitDefEqProofs [go_sem, t1, t2]
    refine goC_pure _ hlt (by simp -implicitDefEqProofs [go_sem, t4]) ?_
    simp -implicitDefEqProofs [go_sem]
    refine goC_pure _ hw (by simp -implicitDefEqProofs [go_sem]) ?_
    simp -implicitDefEqProofs [go_sem]
end Go.Proofs.YtmhnmaklgcppbaaGreat
