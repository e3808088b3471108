/-
  Of the seat's texts, joined: DcM DcN.
-/
import Derived.Test.YtmhnmaklgcppbaaGreatPkDa
import Derived.Test.YtmhnmaklgcppbaaGreatPkQa
import Derived.Test.YtmhnmaklgcppbaaGreatPkSa
namespace Go.Proofs.YtmhnmaklgcppbaaGreat
open Go Go.Proofs
set_option linter.unusedSimpArgs false
set_option linter.unusedVariables false

/-- Three points of a circle about 0, each to the left of the one ahead, go to the left. -/
theorem orient_circ {a b d : PQ} {H : Rat} (ha : a.dot a = H) (hb : b.dot b = H) (hd : d.dot d = H) (h1 : 0 < a.cross b) (h2 : 0 < b.cross d) : 0 < (b.sub a).cross (d.sub a) := by
  have hH0 : 0 ≤ H := by rw [← ha]; exact a.dot_nn
  have e1 : a.dot b * a.dot b + a.cross b * a.cross b = H * H := by
    unfold PQ.dot PQ.cross at *; grind
  have e2 : b.dot d * b.dot d + b.cross d * b.cross d = H * H := by
    unfold PQ.dot PQ.cross at *; grind
  have e3 : H * (b.sub a).cross (d.sub a) = a.cross b * (H - b.dot d) + b.cross d * (H - a.dot b) := by
    unfold PQ.dot PQ.cross PQ.sub at *
    simp only
    grind
  have p1 := Rat.mul_pos h1 h1
  have p2 := Rat.mul_pos h2 h2
  have hH : 0 < H := by
    rcases Classical.em (H = 0) with h | h
    · rw [h] at e1
      have := sq_nn (a.dot b)
      grind
    · grind
  have l1 : a.dot b < H := lt_of_sq hH (by grind)
  have l2 : b.dot d < H := lt_of_sq hH (by grind)
  have q1 := Rat.mul_pos h1 (show 0 < H - b.dot d by grind)
  have q2 := Rat.mul_pos h2 (show 0 < H - a.dot b by grind)
  have q3 : 0 < H * (b.sub a).cross (d.sub a) := by rw [e3]; grind
  rcases Classical.em (0 < (b.sub a).cross (d.sub a)) with h | h
  · exact h
  · have := Rat.mul_nonneg hH0 (show 0 ≤ - (b.sub a).cross (d.sub a) by grind)
    grind

theorem uP_dot (m i : Nat) : (uP m i).dot (uP m i) = 1 := by
  have h := one_tt m i
  unfold uP kQ PQ.scale PQ.dot
  simp only
  have : (1 : Rat) / (1 + tQ m i * tQ m i) * (1 + tQ m i * tQ m i) = 1 := by grind
  generalize (1 : Rat) / (1 + tQ m i * tQ m i) = k at *
  generalize tQ m i = t at *
  have e : (1 - t * t) * k * ((1 - t * t) * k) + (t + t) * k * ((t + t) * k) = (k * (1 + t * t)) * (k * (1 + t * t)) := by grind
  rw [e, this]; grind
theorem uP_cross {m i : Nat} (hi : i + 1 ≤ m) : 0 < (uP m i).cross (uP m (i + 1)) := by
  have hm : (0 : Rat) < (m : Rat) := by exact_mod_cast (show 0 < m by omega)
  have h0 : (0 : Rat) ≤ (i : Rat) := by exact_mod_cast Nat.zero_le i
  have ht : tQ m (i + 1) = tQ m i + 1 / (m : Rat) := by
    unfold tQ
    simp only [Rat.intCast_natCast]
    have : ((i + 1 : Nat) : Rat) = (i : Rat) + 1 := by exact_mod_cast rfl
    rw [this]; grind
  have ht0 : 0 ≤ tQ m i := by
    unfold tQ
    simp only [Rat.intCast_natCast]
    rw [Rat.div_def]
    exact Rat.mul_nonneg h0 (Rat.le_of_lt (Rat.inv_pos.2 hm))
  have hd : 0 < 1 / (m : Rat) := by
    rw [Rat.div_def, Rat.one_mul]
    exact Rat.inv_pos.2 hm
  have o1 := one_tt m i
  have o2 := one_tt m (i + 1)
  have k1 : kQ m i * (1 + tQ m i * tQ m i) = 1 := by unfold kQ; grind
  have k2 : kQ m (i + 1) * (1 + tQ m (i + 1) * tQ m (i + 1)) = 1 := by unfold kQ; grind
  rw [ht] at k2
  unfold uP PQ.scale PQ.cross
  simp only
  rw [ht]
  generalize kQ m i = a at *
  generalize kQ m (i + 1) = b at *
  generalize tQ m i = t at *
  generalize 1 / (m : Rat) = d at *
  have e : (1 - t * t) * a * ((t + d + (t + d)) * b) - (t + t) * a * ((1 - (t + d) * (t + d)) * b) = a * b * (2 * d * (1 + t * (t + d))) := by grind
  rw [e]
  have s1 := sq_nn t
  have s2 := sq_nn (t + d)
  have pa : 0 < a := by
    rcases Classical.em (0 < a) with h | h
    · exact h
    · have := Rat.mul_nonneg (show 0 ≤ -a by grind) (show 0 ≤ 1 + t * t by grind)
      grind
  have pb : 0 < b := by
    rcases Classical.em (0 < b) with h | h
    · exact h
    · have := Rat.mul_nonneg (show 0 ≤ -b by grind) (show 0 ≤ 1 + (t + d) * (t + d) by grind)
      grind
  have := Rat.mul_nonneg ht0 (show 0 ≤ t + d by grind)
  exact Rat.mul_pos (Rat.mul_pos pa pb) (Rat.mul_pos (by grind) (by grind))

theorem rot_dot (p q : PQ) : p.rot.dot q.rot = p.dot q := by unfold PQ.rot PQ.dot; simp only; grind
theorem rot_cross (p q : PQ) : p.rot.cross q.rot = p.cross q := by unfold PQ.rot PQ.cross; simp only; grind
theorem rotN_dot (j : Nat) (p q : PQ) : (rotN j p).dot (rotN j q) = p.dot q := by
  induction j with
  | zero => rfl
  | succ j ih => simp only [rotN, rot_dot, ih]
theorem rotN_cross (j : Nat) (p q : PQ) : (rotN j p).cross (rotN j q) = p.cross q := by
  induction j with
  | zero => rfl
  | succ j ih => simp only [rotN, rot_cross, ih]

/-- A point of the circle, from its middle. -/
def dR (h : Rat) (m k : Nat) : PQ := (rotN (k / m) (uP m (k % m))).scale h
theorem dR_dot (h : Rat) (m k : Nat) : (dR h m k).dot (dR h m k) = h * h := by
  have := rotN_dot (k / m) (uP m (k % m)) (uP m (k % m))
  rw [uP_dot] at this
  unfold dR PQ.scale
  unfold PQ.dot at *
  simp only
  grind
theorem dL_dR {c : PQ} {h : Rat} {m k : Nat} (hm : 1 ≤ m) (hk : k < 4 * m) : (dL c h m 4)[k]'(by rw [dL_len]; omega) = c.add (dR h m k) := by
  rw [dL_get _ _ _ hm]; rfl
theorem dL_dR1 {c : PQ} {h : Rat} {m k : Nat} (hm : 1 ≤ m) (hk : k < 4 * m) : c.add (dR h m ((k + 1) % (4 * m))) = c.add ((rotN (k / m) (uP m (k % m + 1))).scale h) := by
  rw [← dL_dR hm (Nat.mod_lt _ (by omega)), dL_next _ _ _ hm _ hk]; rfl
theorem add_inj {c p q : PQ} (h : c.add p = c.add q) : p = q := by
  unfold PQ.add at h
  rw [PQ.mk.injEq] at h
  exact PQ.ext (by grind) (by grind)
theorem dR_next (h : Rat) {m k : Nat} (hm : 1 ≤ m) (hk : k < 4 * m) : dR h m ((k + 1) % (4 * m)) = (rotN (k / m) (uP m (k % m + 1))).scale h := add_inj (dL_dR1 (c := ⟨0, 0⟩) hm hk)
theorem dR_cross {h : Rat} (h0 : 0 < h) {m k : Nat} (hm : 1 ≤ m) (hk : k < 4 * m) : 0 < (dR h m k).cross (dR h m ((k + 1) % (4 * m))) := by
  rw [dR_next h hm hk]
  have h1 := rotN_cross (k / m) (uP m (k % m)) (uP m (k % m + 1))
  have h2 := uP_cross (m := m) (i := k % m) (by have := Nat.mod_lt k (show 0 < m by omega); omega)
  rw [← h1] at h2
  unfold dR PQ.scale PQ.cross at *
  simp only
  have := Rat.mul_pos (Rat.mul_pos h0 h0) h2
  grind
theorem dR_orient {h : Rat} (h0 : 0 < h) {m k : Nat} (hm : 1 ≤ m) (hk : k < 4 * m) : 0 < ((dR h m ((k + 1) % (4 * m))).sub (dR h m k)).cross ((dR h m ((k + 2) % (4 * m))).sub (dR h m k)) := by
  have h1 := dR_cross h0 hm hk
  have h2 := dR_cross h0 hm (k := (k + 1) % (4 * m)) (Nat.mod_lt _ (by omega))
  have e : ((k + 1) % (4 * m) + 1) % (4 * m) = (k + 2) % (4 * m) := by rw [Nat.mod_add_mod]
  rw [e] at h2
  exact orient_circ (dR_dot ..) (dR_dot ..) (dR_dot ..) h1 h2

theorem aS_circ {c : PQ} {h : Rat} (h0 : 0 < h) {m : Nat} (hm : 1 ≤ m) : ∀ i, i ≤ 4 * m → ∃ B : Rat, 0 ≤ B ∧ (0 < i → 0 < B) ∧ aS (dL c h m 4) i = B + c.cross ((dR h m (i % (4 * m))).sub (dR h m 0)) := by
  have hl : (dL c h m 4).length = 4 * m := dL_len ..
  intro i
  induction i with
  | zero =>
    intro _
    refine ⟨0, by grind, by simp, ?_⟩
    rw [Nat.zero_mod]
    simp only [aS]
    unfold PQ.cross PQ.sub; simp only; grind
  | succ i ih =>
    intro hi
    obtain ⟨B, b0, _, b2⟩ := ih (by omega)
    have hc := dR_cross h0 hm (k := i) (by omega)
    refine ⟨B + (dR h m i).cross (dR h m ((i + 1) % (4 * m))), by grind, fun _ => by grind, ?_⟩
    have g1 : (dL c h m 4).getD i ⟨0, 0⟩ = c.add (dR h m i) := by
      rw [← dL_dR hm (by omega), List.getD_eq_getElem?_getD, List.getElem?_eq_getElem (by omega)]; rfl
    have g2 : (dL c h m 4).getD ((i + 1) % (dL c h m 4).length) ⟨0, 0⟩ = c.add (dR h m ((i + 1) % (4 * m))) := by
      have hlt : (i + 1) % (4 * m) < 4 * m := Nat.mod_lt _ (by omega)
      have e : (i + 1) % (dL c h m 4).length = (i + 1) % (4 * m) := by rw [hl]
      rw [e, ← dL_dR hm hlt, List.getD_eq_getElem?_getD, List.getElem?_eq_getElem (by omega)]; rfl
    simp only [aS, b2, g1, g2]
    rw [Nat.mod_eq_of_lt (show i < 4 * m by omega)]
    generalize dR h m i = p
    generalize dR h m ((i + 1) % (4 * m)) = q
    generalize dR h m 0 = o
    unfold PQ.cross PQ.sub PQ.add; simp only; grind
theorem area_circ {c : PQ} {h : Rat} (h0 : 0 < h) {m : Nat} (hm : 1 ≤ m) : 0 < areaQ (dL c h m 4) := by
  obtain ⟨B, _, b1, b2⟩ := aS_circ (c := c) h0 hm (4 * m) (Nat.le_refl _)
  rw [Nat.mod_self] at b2
  have := b1 (by omega)
  unfold areaQ half
  rw [show (dL c h m 4).length = 4 * m from dL_len .., b2]
  unfold PQ.cross PQ.sub; simp only
  grind
end Go.Proofs.YtmhnmaklgcppbaaGreat
namespace Go.Proofs.YtmhnmaklgcppbaaGreat
open Go Go.Proofs
set_option linter.unusedSimpArgs false
set_option linter.unusedVariables false
set_option maxRecDepth 20000

theorem scale_rot (p : PQ) (h : Rat) : (p.scale h).rot = p.rot.scale h := by
  unfold PQ.scale PQ.rot
  exact PQ.ext (by simp only; grind) (by simp only)
theorem dR_turn (h : Rat) {k i : Nat} (hk : 1 ≤ k) (hi : i < 4 * k) : dR h k ((i + k) % (4 * k)) = (dR h k i).rot := by
  unfold dR
  rw [scale_rot]
  congr 1
  by_cases h1 : i + k < 4 * k
  · rw [Nat.mod_eq_of_lt h1, Nat.add_div_right _ (by omega), Nat.add_mod_right]; rfl
  · have e1 : (i + k) % (4 * k) = i + k - 4 * k := by
      rw [Nat.mod_eq_sub_mod (by omega), Nat.mod_eq_of_lt (by omega)]
    obtain ⟨j, hj, rfl⟩ : ∃ j, j < k ∧ i = 3 * k + j := ⟨i - 3 * k, by omega, by omega⟩
    have e2 : 3 * k + j + k - 4 * k = j := by omega
    have e3 : (3 * k + j) / k = 3 := by rw [Nat.add_comm, Nat.add_mul_div_right _ _ (by omega), Nat.div_eq_of_lt hj]
    have e4 : (3 * k + j) % k = j := by rw [Nat.add_comm, Nat.add_mul_mod_self_right, Nat.mod_eq_of_lt hj]
    rw [e1, e2, e3, e4, Nat.div_eq_of_lt hj, Nat.mod_eq_of_lt hj]
    exact (rotN4 (uP k j)).symm
theorem add_sub (c r : PQ) : (c.add r).sub c = r := by
  unfold PQ.add PQ.sub
  exact PQ.ext (by simp only; grind) (by simp only; grind)
theorem zero_add (c r : PQ) : ((⟨0, 0⟩ : PQ).add r).add c = c.add r := by
  unfold PQ.add
  exact PQ.ext (by simp only; grind) (by simp only; grind)
theorem wP00 : wP 0 0 = ⟨0, 0⟩ := by
  unfold wP
  exact PQ.ext (by simp only; grind) (by simp only; grind)
theorem dR_sz {h : Rat} {k i : Nat} (hk : 1 ≤ k) (hk2 : k ≤ 4096) : (dR h k i).sz ≤ 16 + sz h := by
  have h1 := sz_uP (m := k) (i := i % k) hk hk2 (Nat.le_of_lt (Nat.mod_lt _ (by omega)))
  have h2 := sz_rotN (i / k) (uP k (i % k))
  have h3 := PQ.sz_scale (rotN (i / k) (uP k (i % k))) h
  unfold dR; omega

set_option maxHeartbeats 8000000 in
theorem discturns_pure (c : PR) (h : RQ) (m : Int) (hc : c.Lm) (hh : h.Lm) (hm : (Lit.int .u8 m).wf = true) : Pure Tryz.prog 6 [c.av, h.av, .int .u8 m] (.bool true) := by
  have hw := dwakes_pure
  have s1 := smallpt_pure c 1
  have s2 := small_q h 1
  change Pure _ _ _ (.bool (decide (h.sml 1))) at s2
  rw [show ((1 : Nat) : Int) = 1 from rfl] at s1 s2
  simp only [Lit.wf, Bool.and_eq_true, decide_eq_true_eq] at hm
  have b1 : IntKind.u8.min = 0 := by decide
  have b2 : IntKind.u8.max = 255 := by decide
  rw [b1, b2] at hm
  refine Pure.of_go mixed Tryz.func6 rfl (rs := [.tmp 6]) rfl (by kernel_rfl) (by simp -implicitDefEqProofs [go_sem]) ?_
  obtain ⟨cc, hcc, c1, c2, c3, c4⟩ : ∃ cc, c.av = .agg cc ∧ cc.length = 6 ∧ cc.take 6 = cc ∧ cc.drop 6 = [] ∧ roL cc := ⟨_, rfl, rfl, rfl, rfl, by have := ro_pr c; unfold PR.av at this; simpa only [ro] using this⟩
  obtain ⟨ch, hch, d1, d2, d3, d4⟩ : ∃ ch, h.av = .agg ch ∧ ch.length = 3 ∧ ch.take 3 = ch ∧ ch.drop 3 = [] ∧ roL ch := ⟨_, rfl, rfl, rfl, rfl, rq_cs_ro h⟩
  by_cases a1 : c.x.sml 1 ∧ c.y.sml 1
  · by_cases a2 : h.sml 1
    · have ic : c.In 1 := ⟨sml_in a1.1 hc.1, sml_in a1.2 hc.2⟩
      have ih := sml_in a2 hh
      have zc := ic.sz
      have zh := ih.sz
      have hs := rsign_pure h ih.sm.ok
      by_cases a3 : h.val ≤ 0
      · have g3 := sgnQ_le.2 a3
        rw [hcc] at s1
        rw [hch] at s2 hs
        rw [hcc, hch]
        simp -implicitDefEqProofs [go_sem, c1, c2, d1, d2]
        refine goC_pure _ s1 (by simp -implicitDefEqProofs [go_sem, c4]) ?_
        simp -implicitDefEqProofs [go_sem, a1, d1, d2]
        refine goC_pure _ s2 (by simp -implicitDefEqProofs [go_sem, d4]) ?_
        simp -implicitDefEqProofs [go_sem, a2, d1, d2]
        refine goC_pure _ hs (by simp -implicitDefEqProofs [go_sem, d4]) ?_
        simp -implicitDefEqProofs [go_sem, g3]
        refine goC_pure _ hw (by simp -implicitDefEqProofs [go_sem]) ?_
        simp -implicitDefEqProofs [go_sem]
      · have g3 : ¬ sgnQ h.val ≤ 0 := fun hh => a3 (sgnQ_le.1 hh)
        obtain ⟨k, hk, hk1, hk2⟩ : ∃ k : Nat, 1 + Int.tmod m 6 = (k : Int) ∧ 1 ≤ k ∧ k ≤ 6 := by
          rw [Int.tmod_eq_emod_of_nonneg hm.1]
          exact ⟨(1 + m % 6).toNat, by omega, by omega, by omega⟩
        have k64 : IntKind.i64.wrap m = m := w64 (by omega)
        have kw : IntKind.i64.wrap (k : Int) = k := w64 (by omega)
        have k4 : IntKind.i64.wrap (4 * (k : Int)) = (4 * k : Nat) := by rw [w64 (by omega)]; omega
        have p00 := wP_pure 0 0 (by omega) (by omega)
        have z00 := sz_wP (x := 0) (y := 0) (by omega) (by omega)
        have pd1 := dpoints_pure c h k ic.mono ih.mono (by grind) hk1 (by omega)
        have pd2 := dpoints_pure (pc (wP 0 0)) h k (pc_in (by omega)) ih.mono (by grind) hk1 (by omega)
        rw [pc_val] at pd2
        rw [wP00] at p00 pd2
        have hL1 : (dL c.val h.val k 4).length = 4 * k := dL_len ..
        have hL2 : (dL (⟨0, 0⟩ : PQ) h.val k 4).length = 4 * k := dL_len ..
        have ge1 : ∀ i, i < 4 * k → getE ((dL c.val h.val k 4).map pA) (i : Int) = .agg (pC (c.val.add (dR h.val k i))) := fun i hi => by
          rw [getE_pA (by rw [hL1]; exact hi), dL_dR hk1 hi]
        have ge2 : ∀ i, i < 4 * k → getE ((dL (⟨0, 0⟩ : PQ) h.val k 4).map pA) (i : Int) = .agg (pC ((⟨0, 0⟩ : PQ).add (dR h.val k i))) := fun i hi => by
          rw [getE_pA (by rw [hL2]; exact hi), dL_dR hk1 hi]
        have hsub := fun i => psub_pure (pc (c.val.add (dR h.val k i))) c
        have hadd1 := fun p => padd_pure c (pc p)
        have hadd2 := fun p => padd_pure (pc p) c
        simp only [pc_val] at hsub hadd1 hadd2
        change Pure _ _ [pA _, _, _] _ at pd2
        unfold pL at pd1 pd2
        generalize (dL c.val h.val k 4) = L1 at *
        generalize (dL (⟨0, 0⟩ : PQ) h.val k 4) = L2 at *
        rw [hcc] at s1 pd1 hsub hadd1 hadd2
        rw [hch] at s2 hs pd1 pd2
        rw [hcc, hch]
        rw [pA_pC] at p00 pd2
        simp -implicitDefEqProofs [go_sem, c1, c2, d1, d2]
        refine goC_pure _ s1 (by simp -implicitDefEqProofs [go_sem, c4]) ?_
        simp -implicitDefEqProofs [go_sem, a1, d1, d2]
        refine goC_pure _ s2 (by simp -implicitDefEqProofs [go_sem, d4]) ?_
        simp -implicitDefEqProofs [go_sem, a2, d1, d2]
        refine goC_pure _ hs (by simp -implicitDefEqProofs [go_sem, d4]) ?_
        simp -implicitDefEqProofs [go_sem, g3, k64, hk, kw, c1, c2, d1, d2]
        refine goC_pure _ pd1 (by simp -implicitDefEqProofs [go_sem, c4, d4]) ?_
        simp -implicitDefEqProofs [go_sem]
        refine goD_pure _ p00 (by simp -implicitDefEqProofs [go_sem]) ?_
        simp -implicitDefEqProofs [go_sem, d1, d2]
        refine goD_pure _ pd2 (by simp -implicitDefEqProofs [go_sem, ro_pC, d4]) ?_
        simp -implicitDefEqProofs [go_sem, hL1, hL2, k4]
        have x1 := (renL_ro (nm []) _ c4).symm
        have x2 := cloL_ro (n := 2) _ c4
        refine go_loopN 2 (α := {i : Nat // i ≤ 4 * k}) (fun i => [(3, .ptr 0 0 0), (7, .int .i64 k), (8, .sl 6 false (L1.map pA)), (10, .sl 6 false (L2.map pA)), (12, .int .i64 i.1)]) (fun i => [(0, .live 6 [.agg cc])]) (fun i => 4 * k - i.1) ⟨0, Nat.zero_le _⟩ [] (by simp) (fun _ _ _ _ h => h) (by omega) (by simp -implicitDefEqProofs [go_sem]) (by simp -implicitDefEqProofs [go_sem]; exact ⟨x1, x2⟩) fun ⟨i, hi⟩ => ?_
        simp -implicitDefEqProofs [go_sem, k4]
        refine ⟨fun h5 => ?_, fun h5 => ?_⟩
        · have h5 : i < 4 * k := by omega
          have es : IntKind.i64.wrap ((i : Int) + 1) = (i + 1 : Nat) := by rw [w64 (by omega)]; omega
          have ek : IntKind.i64.wrap ((i : Int) + k) = ((i + k : Nat) : Int) := by rw [w64 (by omega)]; omega
          have em : Int.tmod ((i + k : Nat) : Int) ((4 * k : Nat) : Int) = ((i + k) % (4 * k) : Nat) := by rw [Int.tmod_eq_emod_of_nonneg (by omega)]; omega
          have g1 := ge1 i h5
          have g2 := ge2 i h5
          have hlt : (i + k) % (4 * k) < 4 * k := Nat.mod_lt _ (by omega)
          have g3 := ge1 _ hlt
          rw [dR_turn h.val hk1 h5] at g3
          have zr := dR_sz (h := h.val) (i := i) hk1 (by omega)
          obtain ⟨r, hr⟩ : ∃ r, r = dR h.val k i := ⟨_, rfl⟩
          rw [← hr] at g1 g2 g3 zr
          have z0 := PQ.sz_add c.val r
          have zt := PQ.sz_rot r
          have z2 := PQ.sz_add c.val r.rot
          have z3 := PQ.sz_add (⟨0, 0⟩ : PQ) r
          have zz : (⟨0, 0⟩ : PQ).sz ≤ 1 := by rw [← wP00]; exact z00
          have f1 := hsub i (pc_in (by rw [← hr]; omega)) ic.mono
          rw [← hr, add_sub] at f1
          have f2 := rnegq r.y (by have := r.sz_y; omega)
          have f3 := hadd1 r.rot ic.mono (pc_in (by omega))
          have f4 := psame_self (c.val.add r.rot) (by omega)
          have f5 := hadd2 ((⟨0, 0⟩ : PQ).add r) (pc_in (by omega)) ic.mono
          rw [zero_add] at f5
          have f6 := psame_self (c.val.add r) (by omega)
          have er : pA r.rot = .agg (pC ⟨-r.y, r.x⟩) := rfl
          change Pure _ _ [_, pA _] _ at f3
          change Pure _ _ [pA _, _] _ at f1 f5
          rw [er] at f3
          generalize (i + k) % (4 * k) = j at *
          generalize c.val.add r.rot = p1 at *
          generalize c.val.add r = p2 at *
          generalize (⟨0, 0⟩ : PQ).add r = p3 at *
          simp only [pA_pC, rA_rC] at f1 f2 f3 f4 f5 f6
          obtain ⟨k5, hk5⟩ : ∃ k5 : Int, k5 = ((4 * k : Nat) : Int) := ⟨_, rfl⟩
          obtain ⟨i5, hi5⟩ : ∃ i5 : Int, i5 = ((i + k : Nat) : Int) := ⟨_, rfl⟩
          rw [← hi5] at ek em
          rw [← hk5] at em
          have k4' : IntKind.i64.wrap (4 * (k : Int)) = k5 := by rw [hk5]; exact k4
          have hk50 : ¬ k5 = 0 := by omega
          simp -implicitDefEqProofs [go_sem, g1, c1, c2, hL1]
          refine ⟨by omega, goD_pure _ f1 (by simp -implicitDefEqProofs [go_sem, ro_pC, c4]) ?_⟩
          simp -implicitDefEqProofs [go_sem, c1, c2]
          refine goD_pure _ f2 (by simp -implicitDefEqProofs [go_sem, ro_rC]) ?_
          simp -implicitDefEqProofs [go_sem]
          refine goD_pure _ f3 (by simp -implicitDefEqProofs [go_sem, ro_pC, c4]) ?_
          simp -implicitDefEqProofs [go_sem, ek, k4', em, g3, hL1]
          refine ⟨hk50, by omega, goD_pure _ f4 (by simp -implicitDefEqProofs [go_sem, ro_pC]) ?_⟩
          simp -implicitDefEqProofs [go_sem, g2, hL2, c1, c2]
          refine ⟨by omega, goD_pure _ f5 (by simp -implicitDefEqProofs [go_sem, ro_pC, c4]) ?_⟩
          simp -implicitDefEqProofs [go_sem, g1, hL1]
          refine ⟨by omega, goD_pure _ f6 (by simp -implicitDefEqProofs [go_sem, ro_pC]) ?_⟩
          simp -implicitDefEqProofs [go_sem, es]
          refine go_again ⟨i + 1, h5⟩ (by simp only; omega) [] (by simp) (fun _ _ _ _ h => h) (by simp) (by simp -implicitDefEqProofs [go_sem, es]) (by simp -implicitDefEqProofs [go_sem]; exact ⟨x1, x2⟩)
        · refine goC_pure _ hw (by simp -implicitDefEqProofs [go_sem]) ?_
          simp -implicitDefEqProofs [go_sem]
    · rw [hcc] at s1
      rw [hch] at s2
      rw [hcc, hch]
      simp -implicitDefEqProofs [go_sem, c1, c2, d1, d2]
      refine goC_pure _ s1 (by simp -implicitDefEqProofs [go_sem, c4]) ?_
      simp -implicitDefEqProofs [go_sem, a1, d1, d2]
      refine goC_pure _ s2 (by simp -implicitDefEqProofs [go_sem, d4]) ?_
      simp -implicitDefEqProofs [go_sem, a2]
      refine goC_pure _ hw (by simp -implicitDefEqProofs [go_sem]) ?_
      simp -implicitDefEqProofs [go_sem]
  · rw [hcc] at s1
    rw [hcc, hch]
    simp -implicitDefEqProofs [go_sem, c1, c2, d1, d2]
    refine goC_pure _ s1 (by simp -implicitDefEqProofs [go_sem, c4]) ?_
    simp -implicitDefEqProofs [go_sem, a1]
    refine goC_pure _ hw (by simp -implicitDefEqProofs [go_sem]) ?_
    simp -implicitDefEqProofs [go_sem]
end Go.Proofs.YtmhnmaklgcppbaaGreat
