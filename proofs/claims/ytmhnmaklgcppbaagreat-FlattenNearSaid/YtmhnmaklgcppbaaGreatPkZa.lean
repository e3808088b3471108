/-
  Of the seat's texts, joined: FlP.
-/
import Derived.Test.YtmhnmaklgcppbaaGreatPkYa
import Derived.Test.YtmhnmaklgcppbaaGreatPkGa
namespace Go.Proofs.YtmhnmaklgcppbaaGreat
open Go Go.Proofs
set_option linter.unusedSimpArgs false
set_option linter.unusedVariables false
set_option maxRecDepth 20000

/-- The curve's points at whole numbers of parts, from one on. -/
def cps (v : List HQ) (d : Nat) : List PQ := (List.range' 1 (2 ^ d)).map fun i : Nat => (dcH ((i : Rat) / ((2 ^ d : Nat) : Rat)) v).P
theorem pow_ne (d : Nat) : ((2 ^ d : Nat) : Rat) ≠ 0 := by exact_mod_cast Nat.ne_of_gt (Nat.pow_pos (n := d) (show 0 < 2 by omega))
theorem pow_s (d : Nat) : ((2 ^ (d + 1) : Nat) : Rat) = 2 * ((2 ^ d : Nat) : Rat) := by
  rw [Nat.pow_succ, Nat.mul_comm]; exact_mod_cast rfl
theorem cps_succ {v : List HQ} (hG : GoodC v) (d : Nat) : cps v (d + 1) = cps (cutL v.length v) d ++ cps (cutR v.length v) d := by
  unfold cps
  have e : List.range' 1 (2 ^ (d + 1)) = List.range' 1 (2 ^ d) ++ List.range' (1 + 2 ^ d) (2 ^ d) := by
    rw [Nat.pow_succ, Nat.mul_two, List.range'_append_1]
  rw [e, List.map_append]
  congr 1
  · refine List.map_congr_left fun i _ => ?_
    rw [dc_cutL _ hG, pow_s]
    congr 2
    have := pow_ne d
    generalize ((2 ^ d : Nat) : Rat) = p at *
    grind
  · rw [List.range'_eq_map_range, List.range'_eq_map_range, List.map_map, List.map_map]
    refine List.map_congr_left fun i _ => ?_
    simp only [Function.comp]
    rw [dc_cutR _ hG, pow_s]
    congr 2
    have e2 : ((1 + 2 ^ d + i : Nat) : Rat) = ((2 ^ d : Nat) : Rat) + ((1 + i : Nat) : Rat) := by
      rw [show 1 + 2 ^ d + i = 2 ^ d + (1 + i) by omega]; exact_mod_cast rfl
    rw [e2]
    have := pow_ne d
    generalize ((2 ^ d : Nat) : Rat) = p at *
    generalize ((1 + i : Nat) : Rat) = q at *
    grind
theorem cps_last {v : List HQ} (hG : GoodC v) (d : Nat) : ∃ l, cps v d = l ++ [(v.getLastD hQ0).P] := by
  have hp : 2 ^ d = (2 ^ d - 1) + 1 := by have := Nat.pow_pos (n := d) (show 0 < 2 by omega); omega
  refine ⟨(List.range' 1 (2 ^ d - 1)).map fun i : Nat => (dcH ((i : Rat) / ((2 ^ d : Nat) : Rat)) v).P, ?_⟩
  have er : List.range' 1 (2 ^ d) = List.range' 1 (2 ^ d - 1) ++ [2 ^ d] := by
    conv => lhs; rw [hp]
    rw [List.range'_concat]
    congr 2
    omega
  unfold cps
  rw [er, List.map_append]
  congr 1
  simp only [List.map_cons, List.map_nil]
  have e1 : ((2 ^ d : Nat) : Rat) / ((2 ^ d : Nat) : Rat) = 1 := by have := pow_ne d; grind
  rw [e1, dc_last hG, lastD_get _ _ rfl]
theorem ftree_on {tol : Rat} : ∀ (k : Nat) (v : List HQ) (d : Nat), GoodC v → fdeep tol k v ≤ d → (ftree tol k v).Sublist (cps v d)
  | 0, v, d, hG, _ => by
    obtain ⟨l, e⟩ := cps_last hG d
    rw [e]; exact List.sublist_append_right _ _
  | k + 1, v, d, hG, hd => by
    unfold ftree
    unfold fdeep at hd
    split
    · obtain ⟨l, e⟩ := cps_last hG d
      rw [e]; exact List.sublist_append_right _ _
    · rename_i hf
      rw [if_neg hf] at hd
      obtain ⟨d', rfl⟩ : ∃ d', d = d' + 1 := ⟨d - 1, by omega⟩
      obtain ⟨g1, g2⟩ := cut_good hG
      rw [cps_succ hG]
      exact List.Sublist.append (ftree_on k _ d' g1 (by omega)) (ftree_on k _ d' g2 (by omega))
/-- All of them. -/
def cpa (v : List HQ) (n : Nat) : List PQ := (List.range (n + 1)).map fun i : Nat => (dcH ((i : Rat) / (n : Rat)) v).P
theorem cpa_cps {v : List HQ} (hG : GoodC v) (d : Nat) : cpa v (2 ^ d) = (v.headD hQ0).P :: cps v d := by
  unfold cpa cps
  rw [List.range_eq_range', List.range'_succ, List.map_cons]
  congr 1
  have e : ((0 : Nat) : Rat) / ((2 ^ d : Nat) : Rat) = 0 := by
    have := pow_ne d
    rw [show ((0 : Nat) : Rat) = 0 from rfl]
    grind
  rw [e, dc_head hG]
  have := hG.2.1
  cases v with
  | nil => simp at this
  | cons a r => rfl
theorem fdeep_le (tol : Rat) : ∀ (k : Nat) (v : List HQ), fdeep tol k v ≤ k
  | 0, v => Nat.le_refl _
  | k + 1, v => by
    have h1 := fdeep_le tol k (cutL v.length v)
    have h2 := fdeep_le tol k (cutR v.length v)
    unfold fdeep
    split <;> omega

set_option maxHeartbeats 16000000 in
theorem fon_pure (l : List HR) (tol : RQ) (hl : l.length ≤ 9223372036854775807) (hm : ∀ h ∈ l, h.Lm) (ht : tol.Lm) : Pure Tryz.prog 13 [hL l, tol.av] (.bool true) := by
  have hlt := flight_pure l tol hl hm ht
  have hw := fwakes_pure
  obtain ⟨ct, hct, t1, t2, t3, t4⟩ : ∃ ct, tol.av = .agg ct ∧ ct.length = 3 ∧ ct.take 3 = ct ∧ ct.drop 3 = [] ∧ roL ct := ⟨_, rfl, rfl, rfl, rfl, rq_cs_ro tol⟩
  refine Pure.of_go mixed Tryz.func13 rfl (rs := [.tmp 4]) rfl (by kernel_rfl) (by simp -implicitDefEqProofs [go_sem]) ?_
  by_cases hLf : LightF l tol
  · rw [decide_eq_true hLf] at hlt
    have hT := fun a b => light_tr hm hLf a b
    obtain ⟨a1, a2, a3⟩ := hLf
    have hz : ∀ h ∈ l, h.In 4 := fun h hh => (hm h hh).inn (a1.1 h hh)
    have hl6 := a1.2
    have it := sml_in a2 ht
    have hc1 := fcurve_pure l tol (by omega) (fun h hh => (hz h hh).mono) it.mono hT
    have hd1 := fdeep_pure l tol (by omega) (fun h hh => (hz h hh).mono) it.mono hT
    have hs4 : ∀ h ∈ l.map HR.val, h.sz ≤ 4 := fun h hh => by
      obtain ⟨y, hy, rfl⟩ := List.mem_map.1 hh
      exact (hz y hy).sz
    have hsv : ∀ h ∈ l.map HR.val, h.sz ≤ 51 := fun h hh => by have := hs4 h hh; omega
    obtain ⟨o1, o2⟩ := fcv_ok hsv hT
    by_cases hok : GoodC (l.map HR.val) ∧ 0 < tol.val
    · obtain ⟨hG, h0⟩ := hok
      have ea : fcv (l.map HR.val) tol.val = (((l.map HR.val).headD hQ0).P :: ftree tol.val 14 (l.map HR.val), fdeep tol.val 14 (l.map HR.val), 0) := by
        unfold fcv; rw [if_neg (not_not_intro hG), if_neg (by grind)]
      have hdl := fdeep_le tol.val 14 (l.map HR.val)
      have hon := fun d h => ftree_on (tol := tol.val) 14 (l.map HR.val) d hG h
      rw [ea] at hc1 hd1 o1 o2
      simp only at hc1 hd1 o1 o2
      obtain ⟨d, hd⟩ : ∃ d, d = fdeep tol.val 14 (l.map HR.val) := ⟨_, rfl⟩
      rw [← hd] at hd1 hdl
      have hon := hon d (by omega)
      have hsub : (((l.map HR.val).headD hQ0).P :: ftree tol.val 14 (l.map HR.val)).Sublist (cpa (l.map HR.val) (2 ^ d)) := by
        rw [cpa_cps hG]; exact List.cons_sublist_cons.2 hon
      generalize ((l.map HR.val).headD hQ0).P :: ftree tol.val 14 (l.map HR.val) = A at *
      have hQl : (cpa (l.map HR.val) (2 ^ d)).length = 2 ^ d + 1 := by unfold cpa; simp
      have hle := hsub.length_le
      rw [hQl] at hle
      have h00 := gof_sub _ 0 (by simpa using hsub) (Nat.zero_le _)
      rw [hct] at hlt hc1 hd1 ⊢
      by_cases hd6 : 6 < d
      · have n1 : (6 : Int) < d := by omega
        have n2 : (d : Int) ≤ 64 := by omega
        have n3 : (0 : Int) < d := by omega
        unfold hL pL at *
        simp -implicitDefEqProofs [go_sem, t1, t2]
        refine goC_pure _ hlt (by simp -implicitDefEqProofs [go_sem, t4]) ?_
        simp -implicitDefEqProofs [go_sem, t1, t2]
        refine goC_pure _ hc1 (by simp -implicitDefEqProofs [go_sem, t4]) ?_
        simp -implicitDefEqProofs [go_sem, t1, t2]
        refine goC_pure _ hd1 (by simp -implicitDefEqProofs [go_sem, t4]) ?_
        have n4 : 0 < d := by omega
        simp -implicitDefEqProofs [go_sem, n1, n2, n3, n4]
        refine goC_pure _ hw (by simp -implicitDefEqProofs [go_sem]) ?_
        simp -implicitDefEqProofs [go_sem]
      · have n1 : ¬ (6 : Int) < d := by omega
        have n2 : ¬ (d : Int) < 0 := by omega
        obtain ⟨n, hn⟩ : ∃ n, n = 2 ^ d := ⟨_, rfl⟩
        have hsh : IntKind.i64.wrap (2 ^ min (IntKind.u64.wrap (d : Int)).toNat 64) = (n : Int) := by
          rw [hn]
          rcases (by omega : d = 0 ∨ d = 1 ∨ d = 2 ∨ d = 3 ∨ d = 4 ∨ d = 5 ∨ d = 6) with h | h | h | h | h | h | h <;> rw [h] <;> decide
        have hn64 : n ≤ 64 := by
          have : 2 ^ d ≤ 2 ^ 6 := Nat.pow_le_pow_right (by omega) (by omega)
          omega
        have hn1 : 1 ≤ n := by rw [hn]; exact Nat.pow_pos (by omega)
        rw [← hn] at hle h00 hQl
        have hcat : ∀ i, i ≤ n → Pure Tryz.prog 45 [hL l, rA ((i : Rat) / (n : Rat))] (.tup [pA ((cpa (l.map HR.val) n).getD i ⟨0, 0⟩), .int .i64 0]) := fun i hi => by
          have hz1 := sz_frac (p := (i : Int)) (q := (n : Int)) (by omega) (by omega) (by omega)
          rw [Rat.intCast_natCast, Rat.intCast_natCast] at hz1
          have f0 : (0 : Rat) ≤ (i : Rat) := by exact_mod_cast Nat.zero_le i
          have f1 : (i : Rat) ≤ (n : Rat) := by exact_mod_cast hi
          have f2 : (0 : Rat) < (n : Rat) := by exact_mod_cast hn1
          have f3 : 0 ≤ (n : Rat)⁻¹ := Rat.le_of_lt (Rat.inv_pos.2 f2)
          have f4 : (n : Rat) * (n : Rat)⁻¹ = 1 := Rat.mul_inv_cancel _ (by grind)
          have := catr_pure l ((i : Rat) / (n : Rat)) (fun h hh => (hz h hh).mono) (by omega) hG (by rw [Rat.div_def]; exact Rat.mul_nonneg f0 f3) (by
            rw [Rat.div_def]
            have := Rat.mul_nonneg (show 0 ≤ (n : Rat) - i by grind) f3
            grind)
          have e : (cpa (l.map HR.val) n).getD i ⟨0, 0⟩ = (dcH ((i : Rat) / (n : Rat)) (l.map HR.val)).P := by
            rw [List.getD_eq_getElem?_getD, List.getElem?_eq_getElem (by omega)]
            simp [cpa]
          rw [e]; exact this
        have hcz : ∀ i, i ≤ n → ((cpa (l.map HR.val) n).getD i ⟨0, 0⟩).sz ≤ 16384 := fun i hi => by
          have hz1 := sz_frac (p := (i : Int)) (q := (n : Int)) (by omega) (by omega) (by omega)
          rw [Rat.intCast_natCast, Rat.intCast_natCast] at hz1
          have h1 := dc_sz (t := (i : Rat) / (n : Rat)) (n := 8) (by omega) hG (fun x hx => by have := hs4 x hx; omega)
          have h2 := (dcH ((i : Rat) / (n : Rat)) (l.map HR.val)).sz_P
          have e : (cpa (l.map HR.val) n).getD i ⟨0, 0⟩ = (dcH ((i : Rat) / (n : Rat)) (l.map HR.val)).P := by
            rw [List.getD_eq_getElem?_getD, List.getElem?_eq_getElem (by omega)]
            simp [cpa]
          rw [e]; omega
        have hof := fun (i : Nat) (hi : i ≤ n) => rof_pure (i : Int) (n : Int) (by omega) (by omega) (by omega)
        simp only [Rat.intCast_natCast] at hof
        generalize cpa (l.map HR.val) n = Q at *
        have hro := ro_hL l
        have hnA : (A.length : Int) ≤ (n : Int) + 1 := by omega
        have en1 : IntKind.i64.wrap ((n : Int) + 1) = (n : Int) + 1 := w64 (by omega)
        unfold hL pL at *
        simp -implicitDefEqProofs [go_sem, t1, t2]
        refine goC_pure _ hlt (by simp -implicitDefEqProofs [go_sem, t4]) ?_
        simp -implicitDefEqProofs [go_sem, t1, t2]
        refine goC_pure _ hc1 (by simp -implicitDefEqProofs [go_sem, t4]) ?_
        simp -implicitDefEqProofs [go_sem, t1, t2]
        refine goC_pure _ hd1 (by simp -implicitDefEqProofs [go_sem, t4]) ?_
        simp -implicitDefEqProofs [go_sem, n1, n2, hsh]
        refine go_loopN 0 (α := {s : Nat × Nat // s.1 ≤ n + 1 ∧ s.2 ≤ A.length ∧ gof A (Q.drop s.1) s.2 = A.length}) (fun s => [(0, .sl 9 false (l.map HR.av)), (5, .sl 6 false (A.map pA)), (9, .int .i64 n), (10, .int .i64 s.1.2), (11, .int .i64 s.1.1)]) (fun s => []) (fun s => n + 1 - s.1.1) ⟨(0, 0), by simp, by simp, by simpa using h00⟩ [] (by simp) (by simp) (by omega) (by simp -implicitDefEqProofs [go_sem]) (by simp -implicitDefEqProofs [go_sem]) fun ⟨⟨i, j⟩, hi, hj, hg⟩ => ?_
        simp only at hi hj hg
        have hend : (¬ i ≤ n ∨ ¬ j < A.length) → j = A.length := fun h => by
          rcases h with h | h
          · rw [List.drop_eq_nil_of_le (by omega)] at hg
            exact hg
          · omega
        simp -implicitDefEqProofs [go_sem]
        refine ⟨fun h5 => ⟨fun h6 => ?_, fun h6 => ?_⟩, fun h5 => ?_⟩
        · have es : IntKind.i64.wrap ((i : Int) + 1) = (i + 1 : Nat) := by rw [w64 (by omega)]; omega
          have ej : IntKind.i64.wrap ((j : Int) + 1) = (j + 1 : Nat) := by rw [w64 (by omega)]; omega
          have e2 := getE_pA (l := A) (i := j) h6
          have f1 := hof i h5
          have f2 := hcat i h5
          have hiq : i < Q.length := by omega
          have hps := psameq_pure (Q.getD i ⟨0, 0⟩) A[j] (by have := hcz i h5; omega) (by have := o2 _ (List.getElem_mem h6); omega)
          have hst := gof_step (a := A) (b := Q) hiq h6
          have eq : Q.getD i ⟨0, 0⟩ = Q[i] := by rw [List.getD_eq_getElem?_getD, List.getElem?_eq_getElem hiq]; rfl
          rw [hg, ← eq] at hst
          generalize (i : Rat) / (n : Rat) = fr at *
          generalize Q.getD i ⟨0, 0⟩ = p at *
          generalize A[j] = q at *
          simp only [pA_pC, rA_rC] at hps f1 f2
          refine goC_pure _ f1 (by simp -implicitDefEqProofs [go_sem]) ?_
          simp -implicitDefEqProofs [go_sem]
          refine goC_pure _ f2 (by simp -implicitDefEqProofs [go_sem, ro_rC]) ?_
          simp -implicitDefEqProofs [go_sem, e2]
          refine ⟨h6, goD_pure _ hps (by simp -implicitDefEqProofs [go_sem, ro_pC]) ?_⟩
          by_cases hpq : p = q
          · rw [if_pos hpq] at hst
            simp -implicitDefEqProofs [go_sem, hpq, es, ej]
            refine go_again ⟨(i + 1, j + 1), by omega, h6, hst.symm⟩ (by simp only; omega) [] (by simp) (by simp) (by simp) (by simp -implicitDefEqProofs [go_sem, es, ej]) (by simp)
          · rw [if_neg hpq] at hst
            simp -implicitDefEqProofs [go_sem, hpq, es]
            refine go_again ⟨(i + 1, j), by omega, hj, hst.symm⟩ (by simp only; omega) [] (by simp) (by simp) (by simp) (by simp -implicitDefEqProofs [go_sem, es]) (by simp)
        · have := hend (.inr (by omega))
          simp -implicitDefEqProofs [go_sem, this, en1, hnA]
          refine goC_pure _ hw (by simp -implicitDefEqProofs [go_sem]) ?_
          simp -implicitDefEqProofs [go_sem]
        · have := hend (.inl (by omega))
          simp -implicitDefEqProofs [go_sem, this, en1, hnA]
          refine goC_pure _ hw (by simp -implicitDefEqProofs [go_sem]) ?_
          simp -implicitDefEqProofs [go_sem]
    · have ea : (fcv (l.map HR.val) tol.val).2.2 ≠ 0 ∧ (fcv (l.map HR.val) tol.val).1 = [] := by
        unfold fcv
        split
        · exact ⟨by decide, rfl⟩
        · rename_i hG
          rw [if_pos (by have := Classical.not_not.1 hG; grind)]
          exact ⟨by decide, rfl⟩
      obtain ⟨e1, e2⟩ := ea
      generalize fcv (l.map HR.val) tol.val = R at *
      rw [hct] at hlt hc1 hd1 ⊢
      unfold hL pL at *
      simp -implicitDefEqProofs [go_sem, t1, t2]
      refine goC_pure _ hlt (by simp -implicitDefEqProofs [go_sem, t4]) ?_
      simp -implicitDefEqProofs [go_sem, t1, t2]
      refine goC_pure _ hc1 (by simp -implicitDefEqProofs [go_sem, t4]) ?_
      simp -implicitDefEqProofs [go_sem, t1, t2]
      refine goC_pure _ hd1 (by simp -implicitDefEqProofs [go_sem, t4]) ?_
      simp -implicitDefEqProofs [go_sem, e1]
      refine goC_pure _ hw (by simp -implicitDefEqProofs [go_sem]) ?_
      simp -implicitDefEqProofs [go_sem]
  · rw [decide_eq_false hLf] at hlt
    rw [hct] at hlt ⊢
    unfold hL at *
    simp -implicitDefEqProofs [go_sem, t1, t2]
    refine goC_pure _ hlt (by simp -implicitDefEqProofs [go_sem, t4]) ?_
    simp -implicitDefEqProofs [go_sem]
    refine goC_pure _ hw (by simp -implicitDefEqProofs [go_sem]) ?_
    simp -implicitDefEqProofs [go_sem]
end Go.Proofs.YtmhnmaklgcppbaaGreat
