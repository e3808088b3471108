import Derived.Test.YtgiheamjhoiojaaGreatPkGa
namespace Go.Proofs.YtgiheamjhoiojaaGreat
open Go Go.Proofs
set_option linter.unusedSimpArgs false
set_option linter.unusedVariables false
set_option maxRecDepth 20000
theorem sharp_p (u v : PR) (m : RQ) (hu : u.In 1000) (hv : v.In 1000) (hm : m.In 1000) {A : Bool} (hA : A = decide (sharpQ u.val v.val m.val)) : Pure Tryz.prog 44 [u.av, v.av, m.av] (.bool A) := by
  rw [hA]; exact sharp_pure u v m hu hv hm
set_option maxHeartbeats 8000000 in
theorem joinsharp_pure (u v : PR) (m k : RQ) (hu : u.Lm) (hv : v.Lm) (hm : m.Lm) (hk : k.Lm) : Pure Tryz.prog 10 [u.av, v.av, .agg (m.cs ++ k.cs)] (.bool true) := by
  have hw := jwakes_pure
  have s1 := smallpt_pure u 2
  have s2 := smallpt_pure v 2
  have s3 := small_q m 2
  have s4 := small_q k 2
  change Pure _ _ _ (.bool (decide (m.sml 2))) at s3
  change Pure _ _ _ (.bool (decide (k.sml 2))) at s4
  rw [show ((2 : Nat) : Int) = 2 from rfl] at s1 s2 s3 s4
  refine Pure.of_goz true mixed Tryz.func10 rfl (rs := [.tmp 6]) rfl (by kernel_rfl) (by simp -implicitDefEqProofs [go_sem]) ?_
  unfold RQ.cs
  by_cases a1 : u.x.sml 2 ∧ u.y.sml 2
  · by_cases a2 : v.x.sml 2 ∧ v.y.sml 2
    · by_cases a3 : m.sml 2
      · by_cases a4 : k.sml 2
        · have iu : u.In 2 := ⟨sml_in a1.1 hu.1, sml_in a1.2 hu.2⟩
          have iv : v.In 2 := ⟨sml_in a2.1 hv.1, sml_in a2.2 hv.2⟩
          have im := sml_in a3 hm
          have ik := sml_in a4 hk
          have zu := iu.sz
          have zv := iv.sz
          have zm := im.sz
          have zk := ik.sz
          obtain ⟨A, hA⟩ : ∃ A : Bool, A = decide (sharpQ u.val v.val m.val) := ⟨_, rfl⟩
          obtain ⟨B, hB⟩ : ∃ B : Bool, B = decide (sharpQ u.val v.val k.val) := ⟨_, rfl⟩
          obtain ⟨D, hD⟩ : ∃ D : Bool, D = decide (sharpQ u.val u.val m.val) := ⟨_, rfl⟩
          have q1 := sharp_p u v m iu.mono iv.mono im.mono hA
          have q2 := sharp_p u v k iu.mono iv.mono ik.mono hB
          have zs := PQ.sz_scale u.val k.val
          have q3 := fun (h : 0 < k.val) => sharp_p (pc (u.val.scale k.val)) v m (pc_in (by omega)) iv.mono im.mono (A := A) (by rw [hA, decide_eq_decide, pc_val]; exact (sharp_scale h).symm)
          have q4 := sharp_p v u m iv.mono iu.mono im.mono (A := A) (by rw [hA, decide_eq_decide]; exact sharp_comm.symm)
          have q5 := sharp_p u u m iu.mono iu.mono im.mono hD
          have m1 : (((-1 : Int) : Rat) / ((1 : Int) : Rat)) = -1 := by grind
          have zn : sz (-1 : Rat) ≤ 1 := by rw [sz_neg, sz_one]; omega
          have zs2 := PQ.sz_scale u.val (-1)
          have q6 := fun (h : u.val ≠ ⟨0, 0⟩) => sharp_p u (pc (u.val.scale (-1))) m iu.mono (pc_in (by omega)) im.mono (A := false) (by rw [pc_val, eq_comm, decide_eq_false_iff_not]; exact sharp_back h)
          have k1 := rsign_pure m (im.mono (m := 1000)).sm.ok
          have k2 := rsign_pure k (ik.mono (m := 1000)).sm.ok
          have k3 := rcmp_pure k m (ik.mono (m := 1000)).sm (im.mono (m := 1000)).sm
          have k4 := pscale_pure u k iu.mono ik.mono
          have k5 := pdot_pure u u iu.mono iu.mono
          have z5 := PQ.sz_dot u.val u.val
          have k6 := rsignq (u.val.dot u.val) (by omega)
          have k7 := rof_pure 1 1 (by omega) (by omega) (by omega)
          rw [show ((1 : Int) : Rat) / ((1 : Int) : Rat) = 1 by grind] at k7
          have k8 := rcmp_pure m (qc 1) (im.mono (m := 1000)).sm (qc_sm (by rw [sz_one]; omega))
          rw [qc_val] at k8
          change Pure _ _ [_, rA 1] _ at k8
          have k9 := rof_pure (-1) 1 (by omega) (by omega) (by omega)
          rw [m1] at k9
          have k10 := pscale_pure u (qc (-1)) iu.mono (qc_in (n := 1) zn).mono
          rw [qc_val] at k10
          change Pure _ _ [_, rA (-1)] _ at k10
          have y1 := sgnQ_gt (x := m.val)
          have y2 := sgnQ_gt (x := k.val)
          have y3 := cmpQ_ge (x := k.val) (y := m.val)
          have y6 := sgnQ_eq (x := u.val.dot u.val)
          have y8 := cmpQ_ge (x := m.val) (y := 1)
          have hB' : m.val ≤ k.val → A = true → B = true := fun h1 h2 => by
            rw [hB, decide_eq_true_iff]; rw [hA, decide_eq_true_iff] at h2; exact sharp_mono h1 h2
          have hD' : u.val ≠ ⟨0, 0⟩ → D = decide (1 ≤ m.val) := fun h => by rw [hD, decide_eq_decide]; exact sharp_self h
          have hA0 : u.val = ⟨0, 0⟩ → A = false := fun h => by rw [hA, decide_eq_false_iff_not]; exact fun hh => hh.1 h
          have hd0 : u.val.dot u.val = 0 ↔ u.val = ⟨0, 0⟩ := ⟨fun h => by
            have := PQ.dot0 h
            exact PQ.ext this.1 this.2, fun h => by rw [h]; unfold PQ.dot; grind⟩
          have e3 : ∀ x : PQ, (pc x).av = pA x := fun _ => rfl
          simp only [e3] at q3 q6
          clear hA hB hD
          generalize cmpQ k.val m.val = c1 at *
          generalize cmpQ m.val 1 = c2 at *
          generalize sgnQ m.val = g1 at *
          generalize sgnQ k.val = g2 at *
          generalize sgnQ (u.val.dot u.val) = g3 at *
          generalize u.val.scale k.val = us at *
          generalize u.val.scale (-1) = un at *
          generalize u.val.dot u.val = uu at *
          simp only [pA_pC, rA_rC] at *
          unfold PR.av RQ.av at *
          simp -implicitDefEqProofs [go_sem]
          refine go_loose' (by kernel_rfl) ?_
          simp -implicitDefEqProofs [go_sem]
          refine goC_pure _ s1 (by simp -implicitDefEqProofs [go_sem]) ?_
          simp -implicitDefEqProofs [go_sem, a1]
          refine goC_pure _ s2 (by simp -implicitDefEqProofs [go_sem]) ?_
          simp -implicitDefEqProofs [go_sem, a2]
          refine goC_pure _ s3 (by simp -implicitDefEqProofs [go_sem]) ?_
          simp -implicitDefEqProofs [go_sem, a3]
          refine goC_pure _ s4 (by simp -implicitDefEqProofs [go_sem]) ?_
          simp -implicitDefEqProofs [go_sem, a4]
          refine goC_pure _ q1 (by simp -implicitDefEqProofs [go_sem]) ?_
          simp -implicitDefEqProofs [go_sem]
          refine goC_pure _ k1 (by simp -implicitDefEqProofs [go_sem]) ?_
          cases A
          · by_cases a5 : 0 < m.val
            · simp -implicitDefEqProofs [go_sem, y1.2 a5]
              refine goC_pure _ k3 (by simp -implicitDefEqProofs [go_sem]) ?_
              by_cases a6 : m.val ≤ k.val
              · simp -implicitDefEqProofs [go_sem, y3.2 a6]
                refine go_strict' (by kernel_rfl) ?_
                simp -implicitDefEqProofs [go_sem]
                refine goD_pure _ k2 (by simp -implicitDefEqProofs [go_sem]) ?_
                by_cases b1 : 0 < k.val
                · simp -implicitDefEqProofs [go_sem, y2.2 b1]
                  refine goD_pure _ k4 (by simp -implicitDefEqProofs [go_sem]) ?_
                  simp -implicitDefEqProofs [go_sem]
                  refine goD_pure _ (q3 b1) (by simp -implicitDefEqProofs [go_sem, ro_pC]) ?_
                  simp -implicitDefEqProofs [go_sem]
                  refine goD_pure _ q4 (by simp -implicitDefEqProofs [go_sem]) ?_
                  simp -implicitDefEqProofs [go_sem]
                  refine goC_pure _ k5 (by simp -implicitDefEqProofs [go_sem]) ?_
                  simp -implicitDefEqProofs [go_sem]
                  refine goC_pure _ k6 (by simp -implicitDefEqProofs [go_sem, ro_rC]) ?_
                  by_cases b2 : uu = 0
                  · simp -implicitDefEqProofs [go_sem, y6.2 b2]
                    refine goC_pure _ hw (by simp -implicitDefEqProofs [go_sem]) ?_
                    simp -implicitDefEqProofs [go_sem]
                  · have b2' : ¬ g3 = 0 := fun h => b2 (y6.1 h)
                    have b3 : u.val ≠ ⟨0, 0⟩ := fun h => b2 (hd0.2 h)
                    have hD2 := hD' b3
                    simp -implicitDefEqProofs [go_sem, b2']
                    refine go_strict' (by kernel_rfl) ?_
                    simp -implicitDefEqProofs [go_sem]
                    refine goD_pure _ q5 (by simp -implicitDefEqProofs [go_sem]) ?_
                    simp -implicitDefEqProofs [go_sem]
                    refine goD_pure _ k7 (by simp -implicitDefEqProofs [go_sem]) ?_
                    simp -implicitDefEqProofs [go_sem]
                    refine goD_pure _ k8 (by simp -implicitDefEqProofs [go_sem, ro_rC]) ?_
                    by_cases b4 : 1 ≤ m.val
                    · rw [decide_eq_true b4] at hD2
                      subst hD2
                      simp -implicitDefEqProofs [go_sem, y8.2 b4]
                      refine goD_pure _ k9 (by simp -implicitDefEqProofs [go_sem]) ?_
                      simp -implicitDefEqProofs [go_sem]
                      refine goD_pure _ k10 (by simp -implicitDefEqProofs [go_sem, ro_rC]) ?_
                      simp -implicitDefEqProofs [go_sem]
                      refine goD_pure _ (q6 b3) (by simp -implicitDefEqProofs [go_sem, ro_pC]) ?_
                      simp -implicitDefEqProofs [go_sem]
                      refine goD_pure _ hw (by simp -implicitDefEqProofs [go_sem]) ?_
                      simp -implicitDefEqProofs [go_sem]
                    · rw [decide_eq_false b4] at hD2
                      subst hD2
                      have b4' : ¬ 0 ≤ c2 := fun h => b4 (y8.1 h)
                      simp -implicitDefEqProofs [go_sem, b4']
                      refine goD_pure _ k9 (by simp -implicitDefEqProofs [go_sem]) ?_
                      simp -implicitDefEqProofs [go_sem]
                      refine goD_pure _ k10 (by simp -implicitDefEqProofs [go_sem, ro_rC]) ?_
                      simp -implicitDefEqProofs [go_sem]
                      refine goD_pure _ (q6 b3) (by simp -implicitDefEqProofs [go_sem, ro_pC]) ?_
                      simp -implicitDefEqProofs [go_sem]
                      refine goD_pure _ hw (by simp -implicitDefEqProofs [go_sem]) ?_
                      simp -implicitDefEqProofs [go_sem]
                · have b1' : ¬ 0 < g2 := fun h => b1 (y2.1 h)
                  simp -implicitDefEqProofs [go_sem, b1']
                  refine goD_pure _ q4 (by simp -implicitDefEqProofs [go_sem]) ?_
                  simp -implicitDefEqProofs [go_sem]
                  refine goC_pure _ k5 (by simp -implicitDefEqProofs [go_sem]) ?_
                  simp -implicitDefEqProofs [go_sem]
                  refine goC_pure _ k6 (by simp -implicitDefEqProofs [go_sem, ro_rC]) ?_
                  by_cases b2 : uu = 0
                  · simp -implicitDefEqProofs [go_sem, y6.2 b2]
                    refine goC_pure _ hw (by simp -implicitDefEqProofs [go_sem]) ?_
                    simp -implicitDefEqProofs [go_sem]
                  · have b2' : ¬ g3 = 0 := fun h => b2 (y6.1 h)
                    have b3 : u.val ≠ ⟨0, 0⟩ := fun h => b2 (hd0.2 h)
                    have hD2 := hD' b3
                    simp -implicitDefEqProofs [go_sem, b2']
                    refine go_strict' (by kernel_rfl) ?_
                    simp -implicitDefEqProofs [go_sem]
                    refine goD_pure _ q5 (by simp -implicitDefEqProofs [go_sem]) ?_
                    simp -implicitDefEqProofs [go_sem]
                    refine goD_pure _ k7 (by simp -implicitDefEqProofs [go_sem]) ?_
                    simp -implicitDefEqProofs [go_sem]
                    refine goD_pure _ k8 (by simp -implicitDefEqProofs [go_sem, ro_rC]) ?_
                    by_cases b4 : 1 ≤ m.val
                    · rw [decide_eq_true b4] at hD2
                      subst hD2
                      simp -implicitDefEqProofs [go_sem, y8.2 b4]
                      refine goD_pure _ k9 (by simp -implicitDefEqProofs [go_sem]) ?_
                      simp -implicitDefEqProofs [go_sem]
                      refine goD_pure _ k10 (by simp -implicitDefEqProofs [go_sem, ro_rC]) ?_
                      simp -implicitDefEqProofs [go_sem]
                      refine goD_pure _ (q6 b3) (by simp -implicitDefEqProofs [go_sem, ro_pC]) ?_
                      simp -implicitDefEqProofs [go_sem]
                      refine goD_pure _ hw (by simp -implicitDefEqProofs [go_sem]) ?_
                      simp -implicitDefEqProofs [go_sem]
                    · rw [decide_eq_false b4] at hD2
                      subst hD2
                      have b4' : ¬ 0 ≤ c2 := fun h => b4 (y8.1 h)
                      simp -implicitDefEqProofs [go_sem, b4']
                      refine goD_pure _ k9 (by simp -implicitDefEqProofs [go_sem]) ?_
                      simp -implicitDefEqProofs [go_sem]
                      refine goD_pure _ k10 (by simp -implicitDefEqProofs [go_sem, ro_rC]) ?_
                      simp -implicitDefEqProofs [go_sem]
                      refine goD_pure _ (q6 b3) (by simp -implicitDefEqProofs [go_sem, ro_pC]) ?_
                      simp -implicitDefEqProofs [go_sem]
                      refine goD_pure _ hw (by simp -implicitDefEqProofs [go_sem]) ?_
                      simp -implicitDefEqProofs [go_sem]
              · have a6' : ¬ 0 ≤ c1 := fun h => a6 (y3.1 h)
                simp -implicitDefEqProofs [go_sem, a6']
                refine go_strict' (by kernel_rfl) ?_
                simp -implicitDefEqProofs [go_sem]
                refine goD_pure _ k2 (by simp -implicitDefEqProofs [go_sem]) ?_
                by_cases b1 : 0 < k.val
                · simp -implicitDefEqProofs [go_sem, y2.2 b1]
                  refine goD_pure _ k4 (by simp -implicitDefEqProofs [go_sem]) ?_
                  simp -implicitDefEqProofs [go_sem]
                  refine goD_pure _ (q3 b1) (by simp -implicitDefEqProofs [go_sem, ro_pC]) ?_
                  simp -implicitDefEqProofs [go_sem]
                  refine goD_pure _ q4 (by simp -implicitDefEqProofs [go_sem]) ?_
                  simp -implicitDefEqProofs [go_sem]
                  refine goC_pure _ k5 (by simp -implicitDefEqProofs [go_sem]) ?_
                  simp -implicitDefEqProofs [go_sem]
                  refine goC_pure _ k6 (by simp -implicitDefEqProofs [go_sem, ro_rC]) ?_
                  by_cases b2 : uu = 0
                  · simp -implicitDefEqProofs [go_sem, y6.2 b2]
                    refine goC_pure _ hw (by simp -implicitDefEqProofs [go_sem]) ?_
                    simp -implicitDefEqProofs [go_sem]
                  · have b2' : ¬ g3 = 0 := fun h => b2 (y6.1 h)
                    have b3 : u.val ≠ ⟨0, 0⟩ := fun h => b2 (hd0.2 h)
                    have hD2 := hD' b3
                    simp -implicitDefEqProofs [go_sem, b2']
                    refine go_strict' (by kernel_rfl) ?_
                    simp -implicitDefEqProofs [go_sem]
                    refine goD_pure _ q5 (by simp -implicitDefEqProofs [go_sem]) ?_
                    simp -implicitDefEqProofs [go_sem]
                    refine goD_pure _ k7 (by simp -implicitDefEqProofs [go_sem]) ?_
                    simp -implicitDefEqProofs [go_sem]
                    refine goD_pure _ k8 (by simp -implicitDefEqProofs [go_sem, ro_rC]) ?_
                    by_cases b4 : 1 ≤ m.val
                    · rw [decide_eq_true b4] at hD2
                      subst hD2
                      simp -implicitDefEqProofs [go_sem, y8.2 b4]
                      refine goD_pure _ k9 (by simp -implicitDefEqProofs [go_sem]) ?_
                      simp -implicitDefEqProofs [go_sem]
                      refine goD_pure _ k10 (by simp -implicitDefEqProofs [go_sem, ro_rC]) ?_
                      simp -implicitDefEqProofs [go_sem]
                      refine goD_pure _ (q6 b3) (by simp -implicitDefEqProofs [go_sem, ro_pC]) ?_
                      simp -implicitDefEqProofs [go_sem]
                      refine goD_pure _ hw (by simp -implicitDefEqProofs [go_sem]) ?_
                      simp -implicitDefEqProofs [go_sem]
                    · rw [decide_eq_false b4] at hD2
                      subst hD2
                      have b4' : ¬ 0 ≤ c2 := fun h => b4 (y8.1 h)
                      simp -implicitDefEqProofs [go_sem, b4']
                      refine goD_pure _ k9 (by simp -implicitDefEqProofs [go_sem]) ?_
                      simp -implicitDefEqProofs [go_sem]
                      refine goD_pure _ k10 (by simp -implicitDefEqProofs [go_sem, ro_rC]) ?_
                      simp -implicitDefEqProofs [go_sem]
                      refine goD_pure _ (q6 b3) (by simp -implicitDefEqProofs [go_sem, ro_pC]) ?_
                      simp -implicitDefEqProofs [go_sem]
                      refine goD_pure _ hw (by simp -implicitDefEqProofs [go_sem]) ?_
                      simp -implicitDefEqProofs [go_sem]
                · have b1' : ¬ 0 < g2 := fun h => b1 (y2.1 h)
                  simp -implicitDefEqProofs [go_sem, b1']
                  refine goD_pure _ q4 (by simp -implicitDefEqProofs [go_sem]) ?_
                  simp -implicitDefEqProofs [go_sem]
                  refine goC_pure _ k5 (by simp -implicitDefEqProofs [go_sem]) ?_
                  simp -implicitDefEqProofs [go_sem]
                  refine goC_pure _ k6 (by simp -implicitDefEqProofs [go_sem, ro_rC]) ?_
                  by_cases b2 : uu = 0
                  · simp -implicitDefEqProofs [go_sem, y6.2 b2]
                    refine goC_pure _ hw (by simp -implicitDefEqProofs [go_sem]) ?_
                    simp -implicitDefEqProofs [go_sem]
                  · have b2' : ¬ g3 = 0 := fun h => b2 (y6.1 h)
                    have b3 : u.val ≠ ⟨0, 0⟩ := fun h => b2 (hd0.2 h)
                    have hD2 := hD' b3
                    simp -implicitDefEqProofs [go_sem, b2']
                    refine go_strict' (by kernel_rfl) ?_
                    simp -implicitDefEqProofs [go_sem]
                    refine goD_pure _ q5 (by simp -implicitDefEqProofs [go_sem]) ?_
                    simp -implicitDefEqProofs [go_sem]
                    refine goD_pure _ k7 (by simp -implicitDefEqProofs [go_sem]) ?_
                    simp -implicitDefEqProofs [go_sem]
                    refine goD_pure _ k8 (by simp -implicitDefEqProofs [go_sem, ro_rC]) ?_
                    by_cases b4 : 1 ≤ m.val
                    · rw [decide_eq_true b4] at hD2
                      subst hD2
                      simp -implicitDefEqProofs [go_sem, y8.2 b4]
                      refine goD_pure _ k9 (by simp -implicitDefEqProofs [go_sem]) ?_
                      simp -implicitDefEqProofs [go_sem]
                      refine goD_pure _ k10 (by simp -implicitDefEqProofs [go_sem, ro_rC]) ?_
                      simp -implicitDefEqProofs [go_sem]
                      refine goD_pure _ (q6 b3) (by simp -implicitDefEqProofs [go_sem, ro_pC]) ?_
                      simp -implicitDefEqProofs [go_sem]
                      refine goD_pure _ hw (by simp -implicitDefEqProofs [go_sem]) ?_
                      simp -implicitDefEqProofs [go_sem]
                    · rw [decide_eq_false b4] at hD2
                      subst hD2
                      have b4' : ¬ 0 ≤ c2 := fun h => b4 (y8.1 h)
                      simp -implicitDefEqProofs [go_sem, b4']
                      refine goD_pure _ k9 (by simp -implicitDefEqProofs [go_sem]) ?_
                      simp -implicitDefEqProofs [go_sem]
                      refine goD_pure _ k10 (by simp -implicitDefEqProofs [go_sem, ro_rC]) ?_
                      simp -implicitDefEqProofs [go_sem]
                      refine goD_pure _ (q6 b3) (by simp -implicitDefEqProofs [go_sem, ro_pC]) ?_
                      simp -implicitDefEqProofs [go_sem]
                      refine goD_pure _ hw (by simp -implicitDefEqProofs [go_sem]) ?_
                      simp -implicitDefEqProofs [go_sem]
            · have a5' : ¬ 0 < g1 := fun h => a5 (y1.1 h)
              simp -implicitDefEqProofs [go_sem, a5']
              refine go_strict' (by kernel_rfl) ?_
              simp -implicitDefEqProofs [go_sem]
              refine goD_pure _ k2 (by simp -implicitDefEqProofs [go_sem]) ?_
              by_cases b1 : 0 < k.val
              · simp -implicitDefEqProofs [go_sem, y2.2 b1]
                refine goD_pure _ k4 (by simp -implicitDefEqProofs [go_sem]) ?_
                simp -implicitDefEqProofs [go_sem]
                refine goD_pure _ (q3 b1) (by simp -implicitDefEqProofs [go_sem, ro_pC]) ?_
                simp -implicitDefEqProofs [go_sem]
                refine goD_pure _ q4 (by simp -implicitDefEqProofs [go_sem]) ?_
                simp -implicitDefEqProofs [go_sem]
                refine goC_pure _ k5 (by simp -implicitDefEqProofs [go_sem]) ?_
                simp -implicitDefEqProofs [go_sem]
                refine goC_pure _ k6 (by simp -implicitDefEqProofs [go_sem, ro_rC]) ?_
                by_cases b2 : uu = 0
                · simp -implicitDefEqProofs [go_sem, y6.2 b2]
                  refine goC_pure _ hw (by simp -implicitDefEqProofs [go_sem]) ?_
                  simp -implicitDefEqProofs [go_sem]
                · have b2' : ¬ g3 = 0 := fun h => b2 (y6.1 h)
                  have b3 : u.val ≠ ⟨0, 0⟩ := fun h => b2 (hd0.2 h)
                  have hD2 := hD' b3
                  simp -implicitDefEqProofs [go_sem, b2']
                  refine go_strict' (by kernel_rfl) ?_
                  simp -implicitDefEqProofs [go_sem]
                  refine goD_pure _ q5 (by simp -implicitDefEqProofs [go_sem]) ?_
                  simp -implicitDefEqProofs [go_sem]
                  refine goD_pure _ k7 (by simp -implicitDefEqProofs [go_sem]) ?_
                  simp -implicitDefEqProofs [go_sem]
                  refine goD_pure _ k8 (by simp -implicitDefEqProofs [go_sem, ro_rC]) ?_
                  by_cases b4 : 1 ≤ m.val
                  · rw [decide_eq_true b4] at hD2
                    subst hD2
                    simp -implicitDefEqProofs [go_sem, y8.2 b4]
                    refine goD_pure _ k9 (by simp -implicitDefEqProofs [go_sem]) ?_
                    simp -implicitDefEqProofs [go_sem]
                    refine goD_pure _ k10 (by simp -implicitDefEqProofs [go_sem, ro_rC]) ?_
                    simp -implicitDefEqProofs [go_sem]
                    refine goD_pure _ (q6 b3) (by simp -implicitDefEqProofs [go_sem, ro_pC]) ?_
                    simp -implicitDefEqProofs [go_sem]
                    refine goD_pure _ hw (by simp -implicitDefEqProofs [go_sem]) ?_
                    simp -implicitDefEqProofs [go_sem]
                  · rw [decide_eq_false b4] at hD2
                    subst hD2
                    have b4' : ¬ 0 ≤ c2 := fun h => b4 (y8.1 h)
                    simp -implicitDefEqProofs [go_sem, b4']
                    refine goD_pure _ k9 (by simp -implicitDefEqProofs [go_sem]) ?_
                    simp -implicitDefEqProofs [go_sem]
                    refine goD_pure _ k10 (by simp -implicitDefEqProofs [go_sem, ro_rC]) ?_
                    simp -implicitDefEqProofs [go_sem]
                    refine goD_pure _ (q6 b3) (by simp -implicitDefEqProofs [go_sem, ro_pC]) ?_
                    simp -implicitDefEqProofs [go_sem]
                    refine goD_pure _ hw (by simp -implicitDefEqProofs [go_sem]) ?_
                    simp -implicitDefEqProofs [go_sem]
              · have b1' : ¬ 0 < g2 := fun h => b1 (y2.1 h)
                simp -implicitDefEqProofs [go_sem, b1']
                refine goD_pure _ q4 (by simp -implicitDefEqProofs [go_sem]) ?_
                simp -implicitDefEqProofs [go_sem]
                refine goC_pure _ k5 (by simp -implicitDefEqProofs [go_sem]) ?_
                simp -implicitDefEqProofs [go_sem]
                refine goC_pure _ k6 (by simp -implicitDefEqProofs [go_sem, ro_rC]) ?_
                by_cases b2 : uu = 0
                · simp -implicitDefEqProofs [go_sem, y6.2 b2]
                  refine goC_pure _ hw (by simp -implicitDefEqProofs [go_sem]) ?_
                  simp -implicitDefEqProofs [go_sem]
                · have b2' : ¬ g3 = 0 := fun h => b2 (y6.1 h)
                  have b3 : u.val ≠ ⟨0, 0⟩ := fun h => b2 (hd0.2 h)
                  have hD2 := hD' b3
                  simp -implicitDefEqProofs [go_sem, b2']
                  refine go_strict' (by kernel_rfl) ?_
                  simp -implicitDefEqProofs [go_sem]
                  refine goD_pure _ q5 (by simp -implicitDefEqProofs [go_sem]) ?_
                  simp -implicitDefEqProofs [go_sem]
                  refine goD_pure _ k7 (by simp -implicitDefEqProofs [go_sem]) ?_
                  simp -implicitDefEqProofs [go_sem]
                  refine goD_pure _ k8 (by simp -implicitDefEqProofs [go_sem, ro_rC]) ?_
                  by_cases b4 : 1 ≤ m.val
                  · rw [decide_eq_true b4] at hD2
                    subst hD2
                    simp -implicitDefEqProofs [go_sem, y8.2 b4]
                    refine goD_pure _ k9 (by simp -implicitDefEqProofs [go_sem]) ?_
                    simp -implicitDefEqProofs [go_sem]
                    refine goD_pure _ k10 (by simp -implicitDefEqProofs [go_sem, ro_rC]) ?_
                    simp -implicitDefEqProofs [go_sem]
                    refine goD_pure _ (q6 b3) (by simp -implicitDefEqProofs [go_sem, ro_pC]) ?_
                    simp -implicitDefEqProofs [go_sem]
                    refine goD_pure _ hw (by simp -implicitDefEqProofs [go_sem]) ?_
                    simp -implicitDefEqProofs [go_sem]
                  · rw [decide_eq_false b4] at hD2
                    subst hD2
                    have b4' : ¬ 0 ≤ c2 := fun h => b4 (y8.1 h)
                    simp -implicitDefEqProofs [go_sem, b4']
                    refine goD_pure _ k9 (by simp -implicitDefEqProofs [go_sem]) ?_
                    simp -implicitDefEqProofs [go_sem]
                    refine goD_pure _ k10 (by simp -implicitDefEqProofs [go_sem, ro_rC]) ?_
                    simp -implicitDefEqProofs [go_sem]
                    refine goD_pure _ (q6 b3) (by simp -implicitDefEqProofs [go_sem, ro_pC]) ?_
                    simp -implicitDefEqProofs [go_sem]
                    refine goD_pure _ hw (by simp -implicitDefEqProofs [go_sem]) ?_
                    simp -implicitDefEqProofs [go_sem]
          · by_cases a5 : 0 < m.val
            · simp -implicitDefEqProofs [go_sem, y1.2 a5]
              refine goC_pure _ k3 (by simp -implicitDefEqProofs [go_sem]) ?_
              by_cases a6 : m.val ≤ k.val
              · have hb := hB' a6 rfl
                subst hb
                simp -implicitDefEqProofs [go_sem, y3.2 a6]
                refine goC_pure _ q2 (by simp -implicitDefEqProofs [go_sem]) ?_
                simp -implicitDefEqProofs [go_sem]
                refine go_strict' (by kernel_rfl) ?_
                simp -implicitDefEqProofs [go_sem]
                refine goD_pure _ k2 (by simp -implicitDefEqProofs [go_sem]) ?_
                by_cases b1 : 0 < k.val
                · simp -implicitDefEqProofs [go_sem, y2.2 b1]
                  refine goD_pure _ k4 (by simp -implicitDefEqProofs [go_sem]) ?_
                  simp -implicitDefEqProofs [go_sem]
                  refine goD_pure _ (q3 b1) (by simp -implicitDefEqProofs [go_sem, ro_pC]) ?_
                  simp -implicitDefEqProofs [go_sem]
                  refine goD_pure _ q4 (by simp -implicitDefEqProofs [go_sem]) ?_
                  simp -implicitDefEqProofs [go_sem]
                  refine goC_pure _ k5 (by simp -implicitDefEqProofs [go_sem]) ?_
                  simp -implicitDefEqProofs [go_sem]
                  refine goC_pure _ k6 (by simp -implicitDefEqProofs [go_sem, ro_rC]) ?_
                  by_cases b2 : uu = 0
                  · exact absurd (hA0 (hd0.1 b2)) (by simp)
                  · have b2' : ¬ g3 = 0 := fun h => b2 (y6.1 h)
                    have b3 : u.val ≠ ⟨0, 0⟩ := fun h => b2 (hd0.2 h)
                    have hD2 := hD' b3
                    simp -implicitDefEqProofs [go_sem, b2']
                    refine go_strict' (by kernel_rfl) ?_
                    simp -implicitDefEqProofs [go_sem]
                    refine goD_pure _ q5 (by simp -implicitDefEqProofs [go_sem]) ?_
                    simp -implicitDefEqProofs [go_sem]
                    refine goD_pure _ k7 (by simp -implicitDefEqProofs [go_sem]) ?_
                    simp -implicitDefEqProofs [go_sem]
                    refine goD_pure _ k8 (by simp -implicitDefEqProofs [go_sem, ro_rC]) ?_
                    by_cases b4 : 1 ≤ m.val
                    · rw [decide_eq_true b4] at hD2
                      subst hD2
                      simp -implicitDefEqProofs [go_sem, y8.2 b4]
                      refine goD_pure _ k9 (by simp -implicitDefEqProofs [go_sem]) ?_
                      simp -implicitDefEqProofs [go_sem]
                      refine goD_pure _ k10 (by simp -implicitDefEqProofs [go_sem, ro_rC]) ?_
                      simp -implicitDefEqProofs [go_sem]
                      refine goD_pure _ (q6 b3) (by simp -implicitDefEqProofs [go_sem, ro_pC]) ?_
                      simp -implicitDefEqProofs [go_sem]
                      refine goD_pure _ hw (by simp -implicitDefEqProofs [go_sem]) ?_
                      simp -implicitDefEqProofs [go_sem]
                    · rw [decide_eq_false b4] at hD2
                      subst hD2
                      have b4' : ¬ 0 ≤ c2 := fun h => b4 (y8.1 h)
                      simp -implicitDefEqProofs [go_sem, b4']
                      refine goD_pure _ k9 (by simp -implicitDefEqProofs [go_sem]) ?_
                      simp -implicitDefEqProofs [go_sem]
                      refine goD_pure _ k10 (by simp -implicitDefEqProofs [go_sem, ro_rC]) ?_
                      simp -implicitDefEqProofs [go_sem]
                      refine goD_pure _ (q6 b3) (by simp -implicitDefEqProofs [go_sem, ro_pC]) ?_
                      simp -implicitDefEqProofs [go_sem]
                      refine goD_pure _ hw (by simp -implicitDefEqProofs [go_sem]) ?_
                      simp -implicitDefEqProofs [go_sem]
                · have b1' : ¬ 0 < g2 := fun h => b1 (y2.1 h)
                  simp -implicitDefEqProofs [go_sem, b1']
                  refine goD_pure _ q4 (by simp -implicitDefEqProofs [go_sem]) ?_
                  simp -implicitDefEqProofs [go_sem]
                  refine goC_pure _ k5 (by simp -implicitDefEqProofs [go_sem]) ?_
                  simp -implicitDefEqProofs [go_sem]
                  refine goC_pure _ k6 (by simp -implicitDefEqProofs [go_sem, ro_rC]) ?_
                  by_cases b2 : uu = 0
                  · exact absurd (hA0 (hd0.1 b2)) (by simp)
                  · have b2' : ¬ g3 = 0 := fun h => b2 (y6.1 h)
                    have b3 : u.val ≠ ⟨0, 0⟩ := fun h => b2 (hd0.2 h)
                    have hD2 := hD' b3
                    simp -implicitDefEqProofs [go_sem, b2']
                    refine go_strict' (by kernel_rfl) ?_
                    simp -implicitDefEqProofs [go_sem]
                    refine goD_pure _ q5 (by simp -implicitDefEqProofs [go_sem]) ?_
                    simp -implicitDefEqProofs [go_sem]
                    refine goD_pure _ k7 (by simp -implicitDefEqProofs [go_sem]) ?_
                    simp -implicitDefEqProofs [go_sem]
                    refine goD_pure _ k8 (by simp -implicitDefEqProofs [go_sem, ro_rC]) ?_
                    by_cases b4 : 1 ≤ m.val
                    · rw [decide_eq_true b4] at hD2
                      subst hD2
                      simp -implicitDefEqProofs [go_sem, y8.2 b4]
                      refine goD_pure _ k9 (by simp -implicitDefEqProofs [go_sem]) ?_
                      simp -implicitDefEqProofs [go_sem]
                      refine goD_pure _ k10 (by simp -implicitDefEqProofs [go_sem, ro_rC]) ?_
                      simp -implicitDefEqProofs [go_sem]
                      refine goD_pure _ (q6 b3) (by simp -implicitDefEqProofs [go_sem, ro_pC]) ?_
                      simp -implicitDefEqProofs [go_sem]
                      refine goD_pure _ hw (by simp -implicitDefEqProofs [go_sem]) ?_
                      simp -implicitDefEqProofs [go_sem]
                    · rw [decide_eq_false b4] at hD2
                      subst hD2
                      have b4' : ¬ 0 ≤ c2 := fun h => b4 (y8.1 h)
                      simp -implicitDefEqProofs [go_sem, b4']
                      refine goD_pure _ k9 (by simp -implicitDefEqProofs [go_sem]) ?_
                      simp -implicitDefEqProofs [go_sem]
                      refine goD_pure _ k10 (by simp -implicitDefEqProofs [go_sem, ro_rC]) ?_
                      simp -implicitDefEqProofs [go_sem]
                      refine goD_pure _ (q6 b3) (by simp -implicitDefEqProofs [go_sem, ro_pC]) ?_
                      simp -implicitDefEqProofs [go_sem]
                      refine goD_pure _ hw (by simp -implicitDefEqProofs [go_sem]) ?_
                      simp -implicitDefEqProofs [go_sem]
              · have a6' : ¬ 0 ≤ c1 := fun h => a6 (y3.1 h)
                simp -implicitDefEqProofs [go_sem, a6']
                refine go_strict' (by kernel_rfl) ?_
                simp -implicitDefEqProofs [go_sem]
                refine goD_pure _ k2 (by simp -implicitDefEqProofs [go_sem]) ?_
                by_cases b1 : 0 < k.val
                · simp -implicitDefEqProofs [go_sem, y2.2 b1]
                  refine goD_pure _ k4 (by simp -implicitDefEqProofs [go_sem]) ?_
                  simp -implicitDefEqProofs [go_sem]
                  refine goD_pure _ (q3 b1) (by simp -implicitDefEqProofs [go_sem, ro_pC]) ?_
                  simp -implicitDefEqProofs [go_sem]
                  refine goD_pure _ q4 (by simp -implicitDefEqProofs [go_sem]) ?_
                  simp -implicitDefEqProofs [go_sem]
                  refine goC_pure _ k5 (by simp -implicitDefEqProofs [go_sem]) ?_
                  simp -implicitDefEqProofs [go_sem]
                  refine goC_pure _ k6 (by simp -implicitDefEqProofs [go_sem, ro_rC]) ?_
                  by_cases b2 : uu = 0
                  · exact absurd (hA0 (hd0.1 b2)) (by simp)
                  · have b2' : ¬ g3 = 0 := fun h => b2 (y6.1 h)
                    have b3 : u.val ≠ ⟨0, 0⟩ := fun h => b2 (hd0.2 h)
                    have hD2 := hD' b3
                    simp -implicitDefEqProofs [go_sem, b2']
                    refine go_strict' (by kernel_rfl) ?_
                    simp -implicitDefEqProofs [go_sem]
                    refine goD_pure _ q5 (by simp -implicitDefEqProofs [go_sem]) ?_
                    simp -implicitDefEqProofs [go_sem]
                    refine goD_pure _ k7 (by simp -implicitDefEqProofs [go_sem]) ?_
                    simp -implicitDefEqProofs [go_sem]
                    refine goD_pure _ k8 (by simp -implicitDefEqProofs [go_sem, ro_rC]) ?_
                    by_cases b4 : 1 ≤ m.val
                    · rw [decide_eq_true b4] at hD2
                      subst hD2
                      simp -implicitDefEqProofs [go_sem, y8.2 b4]
                      refine goD_pure _ k9 (by simp -implicitDefEqProofs [go_sem]) ?_
                      simp -implicitDefEqProofs [go_sem]
                      refine goD_pure _ k10 (by simp -implicitDefEqProofs [go_sem, ro_rC]) ?_
                      simp -implicitDefEqProofs [go_sem]
                      refine goD_pure _ (q6 b3) (by simp -implicitDefEqProofs [go_sem, ro_pC]) ?_
                      simp -implicitDefEqProofs [go_sem]
                      refine goD_pure _ hw (by simp -implicitDefEqProofs [go_sem]) ?_
                      simp -implicitDefEqProofs [go_sem]
                    · rw [decide_eq_false b4] at hD2
                      subst hD2
                      have b4' : ¬ 0 ≤ c2 := fun h => b4 (y8.1 h)
                      simp -implicitDefEqProofs [go_sem, b4']
                      refine goD_pure _ k9 (by simp -implicitDefEqProofs [go_sem]) ?_
                      simp -implicitDefEqProofs [go_sem]
                      refine goD_pure _ k10 (by simp -implicitDefEqProofs [go_sem, ro_rC]) ?_
                      simp -implicitDefEqProofs [go_sem]
                      refine goD_pure _ (q6 b3) (by simp -implicitDefEqProofs [go_sem, ro_pC]) ?_
                      simp -implicitDefEqProofs [go_sem]
                      refine goD_pure _ hw (by simp -implicitDefEqProofs [go_sem]) ?_
                      simp -implicitDefEqProofs [go_sem]
                · have b1' : ¬ 0 < g2 := fun h => b1 (y2.1 h)
                  simp -implicitDefEqProofs [go_sem, b1']
                  refine goD_pure _ q4 (by simp -implicitDefEqProofs [go_sem]) ?_
                  simp -implicitDefEqProofs [go_sem]
                  refine goC_pure _ k5 (by simp -implicitDefEqProofs [go_sem]) ?_
                  simp -implicitDefEqProofs [go_sem]
                  refine goC_pure _ k6 (by simp -implicitDefEqProofs [go_sem, ro_rC]) ?_
                  by_cases b2 : uu = 0
                  · exact absurd (hA0 (hd0.1 b2)) (by simp)
                  · have b2' : ¬ g3 = 0 := fun h => b2 (y6.1 h)
                    have b3 : u.val ≠ ⟨0, 0⟩ := fun h => b2 (hd0.2 h)
                    have hD2 := hD' b3
                    simp -implicitDefEqProofs [go_sem, b2']
                    refine go_strict' (by kernel_rfl) ?_
                    simp -implicitDefEqProofs [go_sem]
                    refine goD_pure _ q5 (by simp -implicitDefEqProofs [go_sem]) ?_
                    simp -implicitDefEqProofs [go_sem]
                    refine goD_pure _ k7 (by simp -implicitDefEqProofs [go_sem]) ?_
                    simp -implicitDefEqProofs [go_sem]
                    refine goD_pure _ k8 (by simp -implicitDefEqProofs [go_sem, ro_rC]) ?_
                    by_cases b4 : 1 ≤ m.val
                    · rw [decide_eq_true b4] at hD2
                      subst hD2
                      simp -implicitDefEqProofs [go_sem, y8.2 b4]
                      refine goD_pure _ k9 (by simp -implicitDefEqProofs [go_sem]) ?_
                      simp -implicitDefEqProofs [go_sem]
                      refine goD_pure _ k10 (by simp -implicitDefEqProofs [go_sem, ro_rC]) ?_
                      simp -implicitDefEqProofs [go_sem]
                      refine goD_pure _ (q6 b3) (by simp -implicitDefEqProofs [go_sem, ro_pC]) ?_
                      simp -implicitDefEqProofs [go_sem]
                      refine goD_pure _ hw (by simp -implicitDefEqProofs [go_sem]) ?_
                      simp -implicitDefEqProofs [go_sem]
                    · rw [decide_eq_false b4] at hD2
                      subst hD2
                      have b4' : ¬ 0 ≤ c2 := fun h => b4 (y8.1 h)
                      simp -implicitDefEqProofs [go_sem, b4']
                      refine goD_pure _ k9 (by simp -implicitDefEqProofs [go_sem]) ?_
                      simp -implicitDefEqProofs [go_sem]
                      refine goD_pure _ k10 (by simp -implicitDefEqProofs [go_sem, ro_rC]) ?_
                      simp -implicitDefEqProofs [go_sem]
                      refine goD_pure _ (q6 b3) (by simp -implicitDefEqProofs [go_sem, ro_pC]) ?_
                      simp -implicitDefEqProofs [go_sem]
                      refine goD_pure _ hw (by simp -implicitDefEqProofs [go_sem]) ?_
                      simp -implicitDefEqProofs [go_sem]
            · have a5' : ¬ 0 < g1 := fun h => a5 (y1.1 h)
              simp -implicitDefEqProofs [go_sem, a5']
              refine go_strict' (by kernel_rfl) ?_
              simp -implicitDefEqProofs [go_sem]
              refine goD_pure _ k2 (by simp -implicitDefEqProofs [go_sem]) ?_
              by_cases b1 : 0 < k.val
              · simp -implicitDefEqProofs [go_sem, y2.2 b1]
                refine goD_pure _ k4 (by simp -implicitDefEqProofs [go_sem]) ?_
                simp -implicitDefEqProofs [go_sem]
                refine goD_pure _ (q3 b1) (by simp -implicitDefEqProofs [go_sem, ro_pC]) ?_
                simp -implicitDefEqProofs [go_sem]
                refine goD_pure _ q4 (by simp -implicitDefEqProofs [go_sem]) ?_
                simp -implicitDefEqProofs [go_sem]
                refine goC_pure _ k5 (by simp -implicitDefEqProofs [go_sem]) ?_
                simp -implicitDefEqProofs [go_sem]
                refine goC_pure _ k6 (by simp -implicitDefEqProofs [go_sem, ro_rC]) ?_
                by_cases b2 : uu = 0
                · exact absurd (hA0 (hd0.1 b2)) (by simp)
                · have b2' : ¬ g3 = 0 := fun h => b2 (y6.1 h)
                  have b3 : u.val ≠ ⟨0, 0⟩ := fun h => b2 (hd0.2 h)
                  have hD2 := hD' b3
                  simp -implicitDefEqProofs [go_sem, b2']
                  refine go_strict' (by kernel_rfl) ?_
                  simp -implicitDefEqProofs [go_sem]
                  refine goD_pure _ q5 (by simp -implicitDefEqProofs [go_sem]) ?_
                  simp -implicitDefEqProofs [go_sem]
                  refine goD_pure _ k7 (by simp -implicitDefEqProofs [go_sem]) ?_
                  simp -implicitDefEqProofs [go_sem]
                  refine goD_pure _ k8 (by simp -implicitDefEqProofs [go_sem, ro_rC]) ?_
                  by_cases b4 : 1 ≤ m.val
                  · rw [decide_eq_true b4] at hD2
                    subst hD2
                    simp -implicitDefEqProofs [go_sem, y8.2 b4]
                    refine goD_pure _ k9 (by simp -implicitDefEqProofs [go_sem]) ?_
                    simp -implicitDefEqProofs [go_sem]
                    refine goD_pure _ k10 (by simp -implicitDefEqProofs [go_sem, ro_rC]) ?_
                    simp -implicitDefEqProofs [go_sem]
                    refine goD_pure _ (q6 b3) (by simp -implicitDefEqProofs [go_sem, ro_pC]) ?_
                    simp -implicitDefEqProofs [go_sem]
                    refine goD_pure _ hw (by simp -implicitDefEqProofs [go_sem]) ?_
                    simp -implicitDefEqProofs [go_sem]
                  · rw [decide_eq_false b4] at hD2
                    subst hD2
                    have b4' : ¬ 0 ≤ c2 := fun h => b4 (y8.1 h)
                    simp -implicitDefEqProofs [go_sem, b4']
                    refine goD_pure _ k9 (by simp -implicitDefEqProofs [go_sem]) ?_
                    simp -implicitDefEqProofs [go_sem]
                    refine goD_pure _ k10 (by simp -implicitDefEqProofs [go_sem, ro_rC]) ?_
                    simp -implicitDefEqProofs [go_sem]
                    refine goD_pure _ (q6 b3) (by simp -implicitDefEqProofs [go_sem, ro_pC]) ?_
                    simp -implicitDefEqProofs [go_sem]
                    refine goD_pure _ hw (by simp -implicitDefEqProofs [go_sem]) ?_
                    simp -implicitDefEqProofs [go_sem]
              · have b1' : ¬ 0 < g2 := fun h => b1 (y2.1 h)
                simp -implicitDefEqProofs [go_sem, b1']
                refine goD_pure _ q4 (by simp -implicitDefEqProofs [go_sem]) ?_
                simp -implicitDefEqProofs [go_sem]
                refine goC_pure _ k5 (by simp -implicitDefEqProofs [go_sem]) ?_
                simp -implicitDefEqProofs [go_sem]
                refine goC_pure _ k6 (by simp -implicitDefEqProofs [go_sem, ro_rC]) ?_
                by_cases b2 : uu = 0
                · exact absurd (hA0 (hd0.1 b2)) (by simp)
                · have b2' : ¬ g3 = 0 := fun h => b2 (y6.1 h)
                  have b3 : u.val ≠ ⟨0, 0⟩ := fun h => b2 (hd0.2 h)
                  have hD2 := hD' b3
                  simp -implicitDefEqProofs [go_sem, b2']
                  refine go_strict' (by kernel_rfl) ?_
                  simp -implicitDefEqProofs [go_sem]
                  refine goD_pure _ q5 (by simp -implicitDefEqProofs [go_sem]) ?_
                  simp -implicitDefEqProofs [go_sem]
                  refine goD_pure _ k7 (by simp -implicitDefEqProofs [go_sem]) ?_
                  simp -implicitDefEqProofs [go_sem]
                  refine goD_pure _ k8 (by simp -implicitDefEqProofs [go_sem, ro_rC]) ?_
                  by_cases b4 : 1 ≤ m.val
                  · rw [decide_eq_true b4] at hD2
                    subst hD2
                    simp -implicitDefEqProofs [go_sem, y8.2 b4]
                    refine goD_pure _ k9 (by simp -implicitDefEqProofs [go_sem]) ?_
                    simp -implicitDefEqProofs [go_sem]
                    refine goD_pure _ k10 (by simp -implicitDefEqProofs [go_sem, ro_rC]) ?_
                    simp -implicitDefEqProofs [go_sem]
                    refine goD_pure _ (q6 b3) (by simp -implicitDefEqProofs [go_sem, ro_pC]) ?_
                    simp -implicitDefEqProofs [go_sem]
                    refine goD_pure _ hw (by simp -implicitDefEqProofs [go_sem]) ?_
                    simp -implicitDefEqProofs [go_sem]
                  · rw [decide_eq_false b4] at hD2
                    subst hD2
                    have b4' : ¬ 0 ≤ c2 := fun h => b4 (y8.1 h)
                    simp -implicitDefEqProofs [go_sem, b4']
                    refine goD_pure _ k9 (by simp -implicitDefEqProofs [go_sem]) ?_
                    simp -implicitDefEqProofs [go_sem]
                    refine goD_pure _ k10 (by simp -implicitDefEqProofs [go_sem, ro_rC]) ?_
                    simp -implicitDefEqProofs [go_sem]
                    refine goD_pure _ (q6 b3) (by simp -implicitDefEqProofs [go_sem, ro_pC]) ?_
                    simp -implicitDefEqProofs [go_sem]
                    refine goD_pure _ hw (by simp -implicitDefEqProofs [go_sem]) ?_
                    simp -implicitDefEqProofs [go_sem]
        · unfold PR.av RQ.av at *
          simp -implicitDefEqProofs [go_sem]
          refine go_loose' (by kernel_rfl) ?_
          simp -implicitDefEqProofs [go_sem]
          refine goC_pure _ s1 (by simp -implicitDefEqProofs [go_sem]) ?_
          simp -implicitDefEqProofs [go_sem, a1]
          refine goC_pure _ s2 (by simp -implicitDefEqProofs [go_sem]) ?_
          simp -implicitDefEqProofs [go_sem, a2]
          refine goC_pure _ s3 (by simp -implicitDefEqProofs [go_sem]) ?_
          simp -implicitDefEqProofs [go_sem, a3]
          refine goC_pure _ s4 (by simp -implicitDefEqProofs [go_sem]) ?_
          simp -implicitDefEqProofs [go_sem, a4]
          refine goC_pure _ hw (by simp -implicitDefEqProofs [go_sem]) ?_
          simp -implicitDefEqProofs [go_sem]
      · unfold PR.av RQ.av at *
        simp -implicitDefEqProofs [go_sem]
        refine go_loose' (by kernel_rfl) ?_
        simp -implicitDefEqProofs [go_sem]
        refine goC_pure _ s1 (by simp -implicitDefEqProofs [go_sem]) ?_
        simp -implicitDefEqProofs [go_sem, a1]
        refine goC_pure _ s2 (by simp -implicitDefEqProofs [go_sem]) ?_
        simp -implicitDefEqProofs [go_sem, a2]
        refine goC_pure _ s3 (by simp -implicitDefEqProofs [go_sem]) ?_
        simp -implicitDefEqProofs [go_sem, a3]
        refine goC_pure _ hw (by simp -implicitDefEqProofs [go_sem]) ?_
        simp -implicitDefEqProofs [go_sem]
    · unfold PR.av RQ.av at *
      simp -implicitDefEqProofs [go_sem]
      refine go_loose' (by kernel_rfl) ?_
      simp -implicitDefEqProofs [go_sem]
      refine goC_pure _ s1 (by simp -implicitDefEqProofs [go_sem]) ?_
      simp -implicitDefEqProofs [go_sem, a1]
      refine goC_pure _ s2 (by simp -implicitDefEqProofs [go_sem]) ?_
      simp -implicitDefEqProofs [go_sem, a2]
      refine goC_pure _ hw (by simp -implicitDefEqProofs [go_sem]) ?_
      simp -implicitDefEqProofs [go_sem]
  · unfold PR.av RQ.av at *
    simp -implicitDefEqProofs [go_sem]
    refine go_loose' (by kernel_rfl) ?_
    simp -implicitDefEqProofs [go_sem]
    refine goC_pure _ s1 (by simp -implicitDefEqProofs [go_sem]) ?_
    simp -implicitDefEqProofs [go_sem, a1]
    refine goC_pure _ hw (by simp -implicitDefEqProofs [go_sem]) ?_
    simp -implicitDefEqProofs [go_sem]
end Go.Proofs.YtgiheamjhoiojaaGreat
