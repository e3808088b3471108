/-
  Of the seat's texts, joined: DcL.
-/
import Derived.Test.YtmhnmaklgcppbaaGreatPkDa
namespace Go.Proofs.YtmhnmaklgcppbaaGreat
open Go Go.Proofs
set_option linter.unusedSimpArgs false
set_option linter.unusedVariables false
set_option maxRecDepth 20000

theorem rndF_cases (N : Nat → Bool) (D : Nat → List PQ) : ∀ k e, e + k = 13 → ((rndF N D k e).1 = [] ∧ (rndF N D k e).2 = 24) ∨ ∃ i, i ≤ 12 ∧ N i = false ∧ rndF N D k e = (D i, 0)
  | 0, e, _ => .inl ⟨rfl, rfl⟩
  | k + 1, e, h => by
    unfold rndF
    cases hn : N e with
    | true => simpa using rndF_cases N D k (e + 1) (by omega)
    | false => exact .inr ⟨e, by omega, hn, by simp⟩
theorem rnd_cases (c : PQ) (h tol : Rat) : ((rnd c h tol).1 = [] ∧ (rnd c h tol).2 ≠ 0) ∨ ∃ e, e ≤ 12 ∧ 0 < h ∧ 0 < tol ∧ nearB h (2 ^ e) (h - tol) = false ∧ rnd c h tol = (dL c h (2 ^ e) 4, 0) := by
  unfold rnd
  split
  · exact .inl ⟨rfl, by decide⟩
  · rename_i hn
    rcases rndF_cases (fun e => nearB h (2 ^ e) (h - tol)) (fun e => dL c h (2 ^ e) 4) 13 0 rfl with ⟨h1, h2⟩ | ⟨i, h1, h2, h3⟩
    · exact .inl ⟨h1, by rw [h2]; decide⟩
    · exact .inr ⟨i, h1, by grind, by grind, h2, h3⟩
theorem rnd_ok {c : PQ} {h tol : Rat} (hc : c.sz ≤ 1024) (hh : sz h ≤ 1024) : (rnd c h tol).1.length ≤ 16384 ∧ (∀ p ∈ (rnd c h tol).1, p.sz ≤ 4194304) ∧ 0 ≤ (rnd c h tol).2 := by
  rcases rnd_cases c h tol with ⟨h1, _⟩ | ⟨e, h1, _, _, _, h3⟩
  · refine ⟨by rw [h1]; simp, by rw [h1]; simp, ?_⟩
    unfold rnd
    split
    · decide
    · rcases rndF_cases (fun e => nearB h (2 ^ e) (h - tol)) (fun e => dL c h (2 ^ e) 4) 13 0 rfl with ⟨_, h2⟩ | ⟨i, _, _, h3⟩
      · rw [h2]; decide
      · rw [h3]; exact Int.le_refl _
  · rw [h3]
    have hp : 2 ^ e ≤ 4096 := (pow12 (by omega)).2 h1
    refine ⟨by simp only [dL_len]; omega, dL_sz (by omega) (by omega) (Nat.pow_pos (by omega)) hp, Int.le_refl _⟩

set_option maxHeartbeats 8000000 in
theorem discpts_pure (c : PR) (h tol : RQ) (m : Int) (hc : c.Lm) (hh : h.Lm) (ht : tol.Lm) : Pure Tryz.prog 5 [c.av, .agg (h.cs ++ tol.cs), .int .i64 m] (.bool true) := by
  have hl := dlight_pure c h tol hh ht
  have hw := dwakes_pure
  refine Pure.of_goz true mixed Tryz.func5 rfl (rs := [.tmp 6]) rfl (by kernel_rfl) (by simp -implicitDefEqProofs [go_sem]) ?_
  unfold RQ.cs
  by_cases hL : LightD c h tol
  · rw [decide_eq_true hL] at hl
    obtain ⟨⟨q1, q2⟩, q3, q4, q5⟩ := hL
    have ic : c.In 1 := ⟨sml_in q1 hc.1, sml_in q2 hc.2⟩
    have ih := sml_in q3 hh
    have it := sml_in q4 ht
    have zc := ic.sz
    have zh := ih.sz
    have zt := it.sz
    have e1 := ein_pure c ic.mono
    have e2 := finr h ih.mono
    have e3 := finr tol it.mono
    have hs := fsign_pure h.val
    have r1 := dround_pure c h tol ic.mono ih.mono it.mono
    have r2 := eround_pure c.val h.val tol.val (by omega) (by omega) (by omega)
    obtain ⟨k1, k2, k3⟩ := rnd_ok (c := c.val) (h := h.val) (tol := tol.val) (by omega) (by omega)
    have o1 := eouts_pure (rnd c.val h.val tol.val).1 (by omega) (fun p hp => by have := k2 p hp; omega)
    have o2 := lines_self (rnd c.val h.val tol.val).1 (by omega) (fun p hp => by have := k2 p hp; omega)
    generalize (rnd c.val h.val tol.val).1 = R at *
    generalize (rnd c.val h.val tol.val).2 = E at *
    have pn := dpoints_none c.av (ro_pr c) h m ih.sm.ok
    have py := fun (m' : Nat) h1 h2 h3 => dpoints_pure c h m' ic.mono ih.mono h1 h2 h3
    have ey := fun (m' : Nat) h1 h2 => epoints_pure c.val h.val m' (by omega) (by omega) h1 h2
    have pz := fun (m' : Nat) h1 h2 => dL_sz (c := c.val) (h := h.val) (m := m') (q := 4) (by omega) (by omega) h1 h2
    simp only [eA_eC, fA_fC, eL, pL] at *
    unfold PR.av RQ.av at *
    simp -implicitDefEqProofs [go_sem]
    refine go_loose' (by kernel_rfl) ?_
    simp -implicitDefEqProofs [go_sem]
    refine goC_pure _ hl (by simp -implicitDefEqProofs [go_sem]) ?_
    by_cases hm : 40 < m ∧ m ≤ 4096
    · simp -implicitDefEqProofs [go_sem, hm.1, hm.2]
      refine goC_pure _ hw (by simp -implicitDefEqProofs [go_sem]) ?_
      simp -implicitDefEqProofs [go_sem]
    · have hcase : (h.val ≤ 0 ∨ m < 1 ∨ 4096 < m) ∨ ∃ n : Nat, m = n ∧ 0 < h.val ∧ 1 ≤ n ∧ n ≤ 40 := by
        by_cases h1 : h.val ≤ 0 ∨ m < 1 ∨ 4096 < m
        · exact .inl h1
        · exact .inr ⟨m.toNat, by omega, by grind, by omega, by omega⟩
      rcases hcase with hcase | ⟨n, rfl, hn1, hn2, hn3⟩
      · have pn := pn hcase _ ⟨rfl, rfl, rfl⟩
        have key : ((40 < m) = False ∧ (m ≤ 4096) = True ∧ (sgnQ h.val ≤ 0) = True ∧ True ∧ (4096 < m) = False) ∨ ((40 < m) = True ∧ (m ≤ 4096) = False ∧ (sgnQ h.val ≤ 0) = True ∧ (m < 1) = False ∧ (4096 < m) = True) ∨ ((40 < m) = False ∧ (m ≤ 4096) = True ∧ (sgnQ h.val ≤ 0) = False ∧ (m < 1) = True ∧ (4096 < m) = False) ∨ ((40 < m) = True ∧ (m ≤ 4096) = False ∧ (sgnQ h.val ≤ 0) = False ∧ (m < 1) = False ∧ (4096 < m) = True) := by
          have hsg := @sgnQ_le h.val
          by_cases h0 : h.val ≤ 0
          · have h1 := hsg.2 h0
            by_cases h2 : 40 < m
            · right; left; simp only [eq_iff_iff, iff_true, iff_false, true_and]; omega
            · left; simp only [eq_iff_iff, iff_true, iff_false, true_and]; omega
          · have h1 : ¬ sgnQ h.val ≤ 0 := fun x => h0 (hsg.1 x)
            by_cases h2 : 40 < m
            · right; right; right; simp only [eq_iff_iff, iff_true, iff_false, true_and]; omega
            · right; right; left
              have : m < 1 := by
                rcases hcase with x | x | x
                · exact absurd x h0
                · exact x
                · omega
              simp only [eq_iff_iff, iff_true, iff_false, true_and]; omega
        rcases key with ⟨g1, g2, g3, g4, g5⟩ | ⟨g1, g2, g3, g4, g5⟩ | ⟨g1, g2, g3, g4, g5⟩ | ⟨g1, g2, g3, g4, g5⟩
        all_goals simp -implicitDefEqProofs [go_sem, g1, g2]
        all_goals refine go_strict' (by kernel_rfl) ?_
        all_goals simp -implicitDefEqProofs [go_sem]
        all_goals refine goD_pure _ e1 (by simp -implicitDefEqProofs [go_sem]) ?_
        all_goals simp -implicitDefEqProofs [go_sem]
        all_goals refine goD_pure _ e2 (by simp -implicitDefEqProofs [go_sem]) ?_
        all_goals simp -implicitDefEqProofs [go_sem]
        all_goals refine goC_pure _ pn (by simp -implicitDefEqProofs [go_sem]) ?_
        all_goals simp -implicitDefEqProofs [go_sem]
        all_goals refine goC_pure _ hs (by simp -implicitDefEqProofs [go_sem, ro_fC]) ?_
        all_goals simp -implicitDefEqProofs [go_sem, g3, g4, g5]
        all_goals refine goC_pure _ r1 (by simp -implicitDefEqProofs [go_sem]) ?_
        all_goals simp -implicitDefEqProofs [go_sem]
        all_goals refine go_strict' (by kernel_rfl) ?_
        all_goals simp -implicitDefEqProofs [go_sem]
        all_goals refine goD_pure _ e3 (by simp -implicitDefEqProofs [go_sem]) ?_
        all_goals simp -implicitDefEqProofs [go_sem]
        all_goals refine goD_pure _ r2 (by simp -implicitDefEqProofs [go_sem, ro_eC, ro_fC]) ?_
        all_goals simp -implicitDefEqProofs [go_sem]
        all_goals refine goC_pure _ o1 (by simp -implicitDefEqProofs [go_sem]) ?_
        all_goals simp -implicitDefEqProofs [go_sem]
        all_goals refine goC_pure _ o2 (by simp -implicitDefEqProofs [go_sem]) ?_
        all_goals simp -implicitDefEqProofs [go_sem]
        all_goals refine goC_pure _ hw (by simp -implicitDefEqProofs [go_sem]) ?_
        all_goals simp -implicitDefEqProofs [go_sem]
      · have m1 : ¬ (40 : Int) < n := by omega
        have m2 : (n : Int) ≤ 4096 := by omega
        have m3 : ¬ (n : Int) < 1 := by omega
        have m4 : ¬ (4096 : Int) < n := by omega
        have m5 : ¬ sgnQ h.val ≤ 0 := fun x => by have := sgnQ_le.1 x; grind
        have py := py n hn1 hn2 (by omega)
        have ey := ey n hn2 (by omega)
        have pz := pz n hn2 (by omega)
        have hdl : (dL c.val h.val n 4).length = 4 * n := dL_len ..
        have o3 := eouts_pure (dL c.val h.val n 4) (by omega) (fun p hp => by have := pz p hp; omega)
        have o4 := lines_self (dL c.val h.val n 4) (by omega) (fun p hp => by have := pz p hp; omega)
        generalize dL c.val h.val n 4 = D at *
        unfold eL pL at *
        simp -implicitDefEqProofs [go_sem, m1]
        refine go_strict' (by kernel_rfl) ?_
        simp -implicitDefEqProofs [go_sem]
        refine goD_pure _ e1 (by simp -implicitDefEqProofs [go_sem]) ?_
        simp -implicitDefEqProofs [go_sem]
        refine goD_pure _ e2 (by simp -implicitDefEqProofs [go_sem]) ?_
        simp -implicitDefEqProofs [go_sem]
        refine goC_pure _ py (by simp -implicitDefEqProofs [go_sem]) ?_
        simp -implicitDefEqProofs [go_sem]
        refine goC_pure _ hs (by simp -implicitDefEqProofs [go_sem, ro_fC]) ?_
        simp -implicitDefEqProofs [go_sem, m5, m3, m4]
        refine goC_pure _ ey (by simp -implicitDefEqProofs [go_sem, ro_eC, ro_fC]) ?_
        simp -implicitDefEqProofs [go_sem]
        refine goC_pure _ o3 (by simp -implicitDefEqProofs [go_sem]) ?_
        simp -implicitDefEqProofs [go_sem]
        refine goC_pure _ o4 (by simp -implicitDefEqProofs [go_sem]) ?_
        simp -implicitDefEqProofs [go_sem]
        refine goC_pure _ r1 (by simp -implicitDefEqProofs [go_sem]) ?_
        simp -implicitDefEqProofs [go_sem]
        refine go_strict' (by kernel_rfl) ?_
        simp -implicitDefEqProofs [go_sem]
        refine goD_pure _ e3 (by simp -implicitDefEqProofs [go_sem]) ?_
        simp -implicitDefEqProofs [go_sem]
        refine goD_pure _ r2 (by simp -implicitDefEqProofs [go_sem, ro_eC, ro_fC]) ?_
        simp -implicitDefEqProofs [go_sem]
        refine goC_pure _ o1 (by simp -implicitDefEqProofs [go_sem]) ?_
        simp -implicitDefEqProofs [go_sem]
        refine goC_pure _ o2 (by simp -implicitDefEqProofs [go_sem]) ?_
        simp -implicitDefEqProofs [go_sem]
        refine goC_pure _ hw (by simp -implicitDefEqProofs [go_sem]) ?_
        simp -implicitDefEqProofs [go_sem]
  · rw [decide_eq_false hL] at hl
    unfold PR.av RQ.av at *
    simp -implicitDefEqProofs [go_sem]
    refine go_loose' (by kernel_rfl) ?_
    simp -implicitDefEqProofs [go_sem]
    refine goC_pure _ hl (by simp -implicitDefEqProofs [go_sem]) ?_
    simp -implicitDefEqProofs [go_sem]
    refine goC_pure _ hw (by simp -implicitDefEqProofs [go_sem]) ?_
    simp -implicitDefEqProofs [go_sem]
end Go.Proofs.YtmhnmaklgcppbaaGreat
