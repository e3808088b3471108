import Derived.Test.YtgiheamjhoiojaaGreatPkEa
import Derived.Test.YtgiheamjhoiojaaGreatPkJa
namespace Go.Proofs.YtgiheamjhoiojaaGreat
open Go Go.Proofs
set_option linter.unusedSimpArgs false
set_option linter.unusedVariables false
set_option maxRecDepth 20000
theorem sz_2 : sz (2 : Rat) ≤ 1 := by
  have := sz_i64 (x := 2) (by omega)
  simpa using this
theorem fmin_pure (x y : Rat) (hx : sz x ≤ 17179869184) (hy : sz y ≤ 17179869184) : Pure Tryz.prog 161 [fA x, fA y] (fA (if y < x then y else x)) := by
  have h := fcmp_pure y x hy hx
  have hc := @cmpQ_lt y x
  generalize cmpQ y x = c at *
  refine Pure.of_go mixed Tryz.func161 rfl (rs := [.cell 4 40]) rfl (by kernel_rfl) (ro_fA _) ?_
  by_cases hl : y < x
  · have h0 := hc.2 hl
    rw [if_pos hl]
    unfold fA qA at *
    simp -implicitDefEqProofs [go_sem]
    refine goC_pure _ h (by simp -implicitDefEqProofs [go_sem]) ?_
    simp -implicitDefEqProofs [go_sem, h0, rop]
  · have h0 : ¬ c < 0 := fun h => hl (hc.1 h)
    rw [if_neg hl]
    unfold fA qA at *
    simp -implicitDefEqProofs [go_sem]
    refine goC_pure _ h (by simp -implicitDefEqProofs [go_sem]) ?_
    simp -implicitDefEqProofs [go_sem, h0, rop]
theorem ecross_pure (p q : PQ) (hp : p.sz ≤ 4294967296) (hq : q.sz ≤ 4294967296) : Pure Tryz.prog 99 [eA p, eA q] (fA (p.cross q)) := by
  obtain ⟨p1, p2⟩ := e_parts p hp
  obtain ⟨q1, q2⟩ := e_parts q hq
  have h1 := fmul_pure p.x q.y (by omega) (by omega)
  have h2 := fmul_pure p.y q.x (by omega) (by omega)
  have s1 := sz_mul p.x q.y; have s2 := sz_mul p.y q.x
  have h3 := fsub_pure (p.x * q.y) (p.y * q.x) (by omega) (by omega)
  rw [show p.x * q.y - p.y * q.x = p.cross q from rfl] at h3
  refine Pure.of_go mixed Tryz.func99 rfl (rs := [.cell 4 40]) rfl (by kernel_rfl) (ro_fA _) ?_
  simp only [eA_eC, fA_fC] at *
  simp -implicitDefEqProofs [go_sem]
  refine goD_pure _ h1 (by simp -implicitDefEqProofs [go_sem, ro_fC]) ?_
  simp -implicitDefEqProofs [go_sem]
  refine goD_pure _ h2 (by simp -implicitDefEqProofs [go_sem, ro_fC]) ?_
  simp -implicitDefEqProofs [go_sem]
  refine goD_pure _ h3 (by simp -implicitDefEqProofs [go_sem, ro_fC]) ?_
  simp -implicitDefEqProofs [go_sem, rop]
def etA (x : List PQ × Int) : AV := .agg [eL x.1, .int .i64 x.2]
theorem ro_etA (x : List PQ × Int) : ro (etA x) := by unfold etA; simp only [ro, roL]; exact ⟨ro_eL _, trivial, trivial⟩
theorem et_nil (e : Int) : Wk (.agg [.sl 0 true [], .int .i64 e]) (etA ([], e)) := Wk.agg (.cons (Wk.nil 0 6 true) (.cons (Wk.refl _) .nil))
theorem dot0 (p : PQ) : p.dot p = 0 ↔ p = ⟨0, 0⟩ := ⟨fun h => by
  have := PQ.dot0 h
  exact PQ.ext this.1 this.2, fun h => by rw [h]; unfold PQ.dot; grind⟩
def stC (w m t : Rat) (c j : Int) : List AV := [.bool (decide (w.num < 0)), qA w.num.natAbs, qA w.den, .bool (decide (m.num < 0)), qA m.num.natAbs, qA m.den, .int .i64 c, .int .i64 j, .bool (decide (t.num < 0)), qA t.num.natAbs, qA t.den]
def stA (s : SR) : AV := .agg (stC s.width.val s.miter.val s.tol.val s.cap s.join)
theorem ro_stC (w m t : Rat) (c j : Int) : roL (stC w m t c j) := by unfold stC qA; simp -implicitDefEqProofs [go_sem]
theorem estyle_pure (s : SR) (hs : s.Sml) : Pure Tryz.prog 16 [s.av] (stA s) := by
  have h1 := finr s.width hs.width.mono
  have h2 := finr s.miter hs.miter.mono
  have h3 := finr s.tol hs.tol.mono
  refine Pure.of_go mixed Tryz.func16 rfl (rs := [.cell 2 45]) rfl (by kernel_rfl) (by unfold stA; simp only [ro]; exact ro_stC _ _ _ _ _) ?_
  unfold stA stC SR.av SR.cs
  unfold RQ.av fA at *
  simp -implicitDefEqProofs [go_sem, qA]
  refine goD_pure _ h1 (by simp -implicitDefEqProofs [go_sem]) ?_
  simp -implicitDefEqProofs [go_sem, qA]
  refine goD_pure _ h2 (by simp -implicitDefEqProofs [go_sem]) ?_
  simp -implicitDefEqProofs [go_sem, qA]
  refine goD_pure _ h3 (by simp -implicitDefEqProofs [go_sem]) ?_
  simp -implicitDefEqProofs [go_sem, rop, qA]
theorem ehalf_pure (s : SR) (hs : s.Sml) : Pure Tryz.prog 66 [stA s] (fA s.h) := by
  have f2 := fof_pure 1 2 (by omega) (by omega) (by omega)
  rw [← half_eq] at f2
  have zh := sz_half
  have zw := hs.width.sz
  have g2 := fmul_pure s.width.val half (by omega) (by omega)
  change Pure _ _ _ (fA s.h) at g2
  refine Pure.of_go mixed Tryz.func66 rfl (rs := [.cell 2 40]) rfl (by kernel_rfl) (ro_fA _) ?_
  generalize s.h = h at *
  unfold stA stC
  unfold fA at *
  simp -implicitDefEqProofs [go_sem, qA]
  refine goD_pure _ f2 (by simp -implicitDefEqProofs [go_sem]) ?_
  simp -implicitDefEqProofs [go_sem, qA]
  refine goD_pure _ g2 (by simp -implicitDefEqProofs [go_sem, qA]) ?_
  simp -implicitDefEqProofs [go_sem, rop, qA]
theorem esided_pure (p : PQ) (left : Bool) : Pure Tryz.prog 102 [eA p, .bool left] (eA (sided p left)) := by
  have h1 := fminus_pure p.x
  have h2 := fminus_pure p.y
  refine Pure.of_go mixed Tryz.func102 rfl (rs := [.cell 4 42]) rfl (by kernel_rfl) (ro_eA _) ?_
  cases left
  · rw [show sided p false = ⟨-p.x, -p.y⟩ from rfl]
    rw [eA_eC, eA_eC, eC_fC, eC_fC]
    simp only
    generalize -p.y = y at *
    generalize -p.x = x at *
    simp only [fA_fC] at h1 h2
    unfold fC at *
    simp -implicitDefEqProofs [go_sem]
    refine goD_pure _ h1 (by simp -implicitDefEqProofs [go_sem, qA]) ?_
    simp -implicitDefEqProofs [go_sem]
    refine goD_pure _ h2 (by simp -implicitDefEqProofs [go_sem, qA]) ?_
    simp -implicitDefEqProofs [go_sem, rop, qA]
  · rw [show sided p true = p from rfl, eA_eC]
    simp -implicitDefEqProofs [go_sem, rop]
theorem emost_pure (d : Rat) (v : PQ) (h : Rat) (k : Nat) (hk : k ≤ 4096) (hd0 : d ≠ 0) (hd : sz d ≤ 2000) (hv : v.sz ≤ 10) (hh : sz h ≤ 10) : Pure Tryz.prog 162 [fA d, eA v, fA h, .int .i64 k] (fA (lowQ (h * h * v.dot v / (d * d)) k)) := by
  have h1 := fmul_pure h h (by omega) (by omega)
  have s1 := sz_mul h h
  have h2 := edot_pure v v (by omega) (by omega)
  have s2 := PQ.sz_dot v v
  have h3 := fmul_pure (h * h) (v.dot v) (by omega) (by omega)
  have s3 := sz_mul (h * h) (v.dot v)
  have h4 := fmul_pure d d (by omega) (by omega)
  have s4 := sz_mul d d
  have hdd : d * d ≠ 0 := fun e => hd0 ((Rat.mul_eq_zero.1 e).elim id id)
  have h5 := fdiv_pure (h * h * v.dot v) (d * d) (by omega) (by omega) hdd
  have s5 := sz_div (h * h * v.dot v) (d * d)
  have q0 : 0 ≤ h * h * v.dot v / (d * d) := by
    rw [Rat.div_def]
    refine Rat.mul_nonneg (Rat.mul_nonneg (sq_nn h) (dot_nn' v)) (Rat.le_of_lt (Rat.inv_pos.2 ?_))
    have := sq_nn d
    grind
  have h6 := flow_pure (h * h * v.dot v / (d * d)) k hk q0 (by omega)
  generalize lowQ (h * h * v.dot v / (d * d)) k = r at *
  generalize h * h * v.dot v / (d * d) = q at *
  generalize h * h * v.dot v = a at *
  generalize v.dot v = vv at *
  generalize h * h = hh' at *
  generalize d * d = dd at *
  simp only [eA_eC, fA_fC] at *
  refine Pure.of_go mixed Tryz.func162 rfl (rs := [.cell 8 40]) rfl (by kernel_rfl) (by simp -implicitDefEqProofs [go_sem, ro_fC]) ?_
  simp -implicitDefEqProofs [go_sem]
  refine goD_pure _ h1 (by simp -implicitDefEqProofs [go_sem, ro_fC]) ?_
  simp -implicitDefEqProofs [go_sem]
  refine goD_pure _ h2 (by simp -implicitDefEqProofs [go_sem, ro_eC]) ?_
  simp -implicitDefEqProofs [go_sem]
  refine goD_pure _ h3 (by simp -implicitDefEqProofs [go_sem, ro_fC]) ?_
  simp -implicitDefEqProofs [go_sem]
  refine goD_pure _ h4 (by simp -implicitDefEqProofs [go_sem, ro_fC]) ?_
  simp -implicitDefEqProofs [go_sem]
  refine goD_pure _ h5 (by simp -implicitDefEqProofs [go_sem, ro_fC]) ?_
  simp -implicitDefEqProofs [go_sem]
  refine goC_pure _ h6 (by simp -implicitDefEqProofs [go_sem, ro_fC]) ?_
  simp -implicitDefEqProofs [go_sem, rop]
set_option maxHeartbeats 2000000 in
theorem ealong_pure (n v : PQ) (h tol : Rat) (hn : n.sz ≤ 1000000) (hv : v.sz ≤ 1000) (hh : sz h ≤ 1000) (ht : sz tol ≤ 1000) : Pure Tryz.prog 164 [eA n, eA v, fA h, fA tol] (.bool (decide (atl (n.dot v) (h - tol) (v.dot v)))) := by
  have h1 := fsub_pure h tol (by omega) (by omega)
  have s1 := sz_sub h tol
  have h2 := edot_pure n v (by omega) (by omega)
  have s2 := PQ.sz_dot n v
  have h3 := edot_pure v v (by omega) (by omega)
  have s3 := PQ.sz_dot v v
  obtain ⟨B, hB⟩ : ∃ B : Bool, B = decide (atl (n.dot v) (h - tol) (v.dot v)) := ⟨_, rfl⟩
  have hen : B = true ↔ (if 0 < h - tol then 0 ≤ n.dot v ∧ (h - tol) * (h - tol) * v.dot v ≤ n.dot v * n.dot v else 0 ≤ n.dot v ∨ n.dot v * n.dot v ≤ (h - tol) * (h - tol) * v.dot v) := by rw [hB, decide_eq_true_iff]; exact Iff.rfl
  rw [← hB]
  clear hB
  generalize h - tol = d at *
  generalize n.dot v = x at *
  generalize v.dot v = m at *
  have h4 := fsign_pure d
  have h5 := fsign_pure x
  have h6 := fmul_pure x x (by omega) (by omega)
  have s6 := sz_mul x x
  have h7 := fmul_pure d d (by omega) (by omega)
  have s7 := sz_mul d d
  have h8 := fmul_pure (d * d) m (by omega) (by omega)
  have s8 := sz_mul (d * d) m
  have h9 := fcmp_pure (x * x) (d * d * m) (by omega) (by omega)
  have y4 := sgnQ_le (x := d)
  have y5 := sgnQ_ge (x := x)
  have y9 := cmpQ_ge (x := x * x) (y := d * d * m)
  have y9' := cmpQ_le (x := x * x) (y := d * d * m)
  generalize cmpQ (x * x) (d * d * m) = cm at *
  generalize d * d * m = dm at *
  generalize d * d = dd at *
  generalize x * x = xx at *
  generalize sgnQ d = sd at *
  generalize sgnQ x = sx at *
  simp only [eA_eC, fA_fC] at *
  refine Pure.of_go mixed Tryz.func164 rfl (rs := [.tmp 8]) rfl (by kernel_rfl) (by simp -implicitDefEqProofs [go_sem]) ?_
  simp -implicitDefEqProofs [go_sem]
  refine goC_pure _ h1 (by simp -implicitDefEqProofs [go_sem, ro_fC]) ?_
  simp -implicitDefEqProofs [go_sem]
  refine goC_pure _ h2 (by simp -implicitDefEqProofs [go_sem, ro_eC]) ?_
  simp -implicitDefEqProofs [go_sem]
  refine goC_pure _ h4 (by simp -implicitDefEqProofs [go_sem, ro_fC]) ?_
  by_cases c1 : d ≤ 0
  · rw [if_neg (by grind)] at hen
    simp -implicitDefEqProofs [go_sem, y4.2 c1]
    refine goD_pure _ h5 (by simp -implicitDefEqProofs [go_sem, ro_fC]) ?_
    by_cases c2 : 0 ≤ x
    · have hb := hen.2 (.inl c2)
      subst hb
      simp -implicitDefEqProofs [go_sem, y5.2 c2]
    · have c2' : ¬ 0 ≤ sx := fun hh => c2 (y5.1 hh)
      simp -implicitDefEqProofs [go_sem, c2']
      refine goD_pure _ h6 (by simp -implicitDefEqProofs [go_sem, ro_fC]) ?_
      simp -implicitDefEqProofs [go_sem]
      refine goD_pure _ h7 (by simp -implicitDefEqProofs [go_sem, ro_fC]) ?_
      simp -implicitDefEqProofs [go_sem]
      refine goD_pure _ h3 (by simp -implicitDefEqProofs [go_sem, ro_eC]) ?_
      simp -implicitDefEqProofs [go_sem]
      refine goD_pure _ h8 (by simp -implicitDefEqProofs [go_sem, ro_fC]) ?_
      simp -implicitDefEqProofs [go_sem]
      refine goD_pure _ h9 (by simp -implicitDefEqProofs [go_sem, ro_fC]) ?_
      by_cases c3 : xx ≤ dm
      · have hb := hen.2 (.inr c3)
        subst hb
        simp -implicitDefEqProofs [go_sem, y9'.2 c3]
      · have c3' : ¬ cm ≤ 0 := fun hh => c3 (y9'.1 hh)
        have hb : B = false := Bool.eq_false_iff.2 fun hh => (hen.1 hh).elim c2 c3
        subst hb
        simp -implicitDefEqProofs [go_sem, c3']
  · rw [if_pos (by grind)] at hen
    have c1' : ¬ sd ≤ 0 := fun hh => c1 (y4.1 hh)
    simp -implicitDefEqProofs [go_sem, c1']
    refine goD_pure _ h5 (by simp -implicitDefEqProofs [go_sem, ro_fC]) ?_
    by_cases c2 : 0 ≤ x
    · simp -implicitDefEqProofs [go_sem, y5.2 c2]
      refine goD_pure _ h6 (by simp -implicitDefEqProofs [go_sem, ro_fC]) ?_
      simp -implicitDefEqProofs [go_sem]
      refine goD_pure _ h7 (by simp -implicitDefEqProofs [go_sem, ro_fC]) ?_
      simp -implicitDefEqProofs [go_sem]
      refine goD_pure _ h3 (by simp -implicitDefEqProofs [go_sem, ro_eC]) ?_
      simp -implicitDefEqProofs [go_sem]
      refine goD_pure _ h8 (by simp -implicitDefEqProofs [go_sem, ro_fC]) ?_
      simp -implicitDefEqProofs [go_sem]
      refine goD_pure _ h9 (by simp -implicitDefEqProofs [go_sem, ro_fC]) ?_
      by_cases c3 : dm ≤ xx
      · have hb := hen.2 ⟨c2, c3⟩
        subst hb
        simp -implicitDefEqProofs [go_sem, y9.2 c3]
      · have c3' : ¬ 0 ≤ cm := fun hh => c3 (y9.1 hh)
        have hb : B = false := Bool.eq_false_iff.2 fun hh => c3 (hen.1 hh).2
        subst hb
        simp -implicitDefEqProofs [go_sem, c3']
    · have c2' : ¬ 0 ≤ sx := fun hh => c2 (y5.1 hh)
      have hb : B = false := Bool.eq_false_iff.2 fun hh => c2 (hen.1 hh).1
      subst hb
      simp -implicitDefEqProofs [go_sem, c2']
theorem sharp_ref {d c M : Rat} (hM : 0 ≤ M) : atl d c M ↔ if 0 ≤ d then c ≤ 0 ∨ c * c * M ≤ d * d else c < 0 ∧ d * d ≤ c * c * M := by
  unfold atl
  by_cases h1 : 0 < c
  · rw [if_pos h1]
    by_cases h2 : 0 ≤ d
    · rw [if_pos h2]
      exact ⟨fun h => .inr h.2, fun h => ⟨h2, h.resolve_left (by grind)⟩⟩
    · rw [if_neg h2]
      exact ⟨fun h => absurd h.1 h2, fun h => absurd h.1 (by grind)⟩
  · rw [if_neg h1]
    by_cases h2 : 0 ≤ d
    · rw [if_pos h2]
      exact ⟨fun _ => .inl (by grind), fun _ => .inl h2⟩
    · rw [if_neg h2]
      constructor
      · intro h
        have h3 := h.resolve_left h2
        refine ⟨?_, h3⟩
        rcases Classical.em (c = 0) with e | e
        · exfalso
          have := Rat.mul_pos (show 0 < -d by grind) (show 0 < -d by grind)
          rw [e] at h3
          grind
        · grind
      · exact fun h => .inr h.2
end Go.Proofs.YtgiheamjhoiojaaGreat
