/-
  Of the seat's texts, joined: DcO.
-/
import Derived.Test.YtmhnmaklgcppbaaGreatPkTa
import Derived.Test.YtmhnmaklgcppbaaGreatPkBa
namespace Go.Proofs.YtmhnmaklgcppbaaGreat
open Go Go.Proofs
set_option linter.unusedSimpArgs false
set_option linter.unusedVariables false
set_option maxRecDepth 20000

theorem cmpQ_self (x : Rat) : cmpQ x x = 0 := by
  have a := @cmpQ_lt x x; have b := @cmpQ_gt x x
  have : ¬ cmpQ x x < 0 := fun h => by have := a.1 h; grind
  have : ¬ 0 < cmpQ x x := fun h => by have := b.1 h; grind
  omega
/-- A point of the circle of radius 1. -/
def uR (m k : Nat) : PQ := rotN (k / m) (uP m (k % m))
theorem dR_uR (h : Rat) (m k : Nat) : dR h m k = (uR m k).scale h := rfl
/-- A small circle's points are a convex polygon's. -/
def cvx (m : Nat) : Bool := (List.range (4 * m)).all fun i => (List.range (4 * m)).all fun k => (decide (k = i) || !decide (uR m i = uR m k)) && decide (0 ≤ ((uR m ((i + 1) % (4 * m))).sub (uR m i)).cross ((uR m k).sub (uR m i)))
theorem cvx1 : cvx 1 = true := by decide +kernel
theorem cvx2 : cvx 2 = true := by decide +kernel
theorem cvx4 : cvx 4 = true := by decide +kernel
theorem cvx_get {m : Nat} (h : cvx m = true) {i k : Nat} (hi : i < 4 * m) (hk : k < 4 * m) : (k ≠ i → uR m i ≠ uR m k) ∧ 0 ≤ ((uR m ((i + 1) % (4 * m))).sub (uR m i)).cross ((uR m k).sub (uR m i)) := by
  unfold cvx at h
  simp only [List.all_eq_true, List.mem_range, Bool.and_eq_true, Bool.or_eq_true, decide_eq_true_eq, Bool.not_eq_true', decide_eq_false_iff_not] at h
  obtain ⟨h1, h2⟩ := h i hi k hk
  exact ⟨fun hne => h1.resolve_left hne, h2⟩
theorem sgn_pos {x : Rat} (h : 0 < x) : 0 < sgnQ x := sgnQ_gt.2 h
theorem orient_add (c p q r : PQ) : PQ.orient (c.add p) (c.add q) (c.add r) = sgnQ ((q.sub p).cross (r.sub p)) := by
  unfold PQ.orient
  congr 1
  unfold PQ.add PQ.sub PQ.cross
  simp only
  grind
theorem orient_mid (c p q : PQ) : PQ.orient c (c.add p) (c.add q) = sgnQ (p.cross q) := by
  unfold PQ.orient
  congr 1
  unfold PQ.add PQ.sub PQ.cross
  simp only
  grind
theorem far_add (c p : PQ) : (c.add p).far c = p.dot p := by
  unfold PQ.far PQ.add PQ.sub PQ.dot
  simp only
  grind
theorem scale_inj {h : Rat} (h0 : 0 < h) {p q : PQ} (e : p.scale h = q.scale h) : p = q := by
  unfold PQ.scale at e
  rw [PQ.mk.injEq] at e
  refine PQ.ext ?_ ?_
  · have : (p.x - q.x) * h = 0 := by grind
    rcases Rat.mul_eq_zero.1 this with h | h <;> grind
  · have : (p.y - q.y) * h = 0 := by grind
    rcases Rat.mul_eq_zero.1 this with h | h <;> grind
theorem cross_scale (p q r : PQ) (h : Rat) : ((q.scale h).sub (p.scale h)).cross ((r.scale h).sub (p.scale h)) = h * h * (q.sub p).cross (r.sub p) := by
  unfold PQ.scale PQ.sub PQ.cross
  simp only
  grind
/-- The middle of a side is the nearest point. -/
theorem ts_mid {c p q : PQ} (h : p.dot p = q.dot q) : ((c.add p).mix (c.add q) half).far c ≤ tsQ c (c.add p) (c.add q) := by
  obtain ⟨s, _, _, hs⟩ := tsQ_at c (c.add p) (c.add q)
  rw [hs, far_comm c]
  have e : ((c.add p).mix (c.add q) s).far c - ((c.add p).mix (c.add q) half).far c = (s - half) * (s - half) * (q.sub p).dot (q.sub p) := by
    have hh : half + half = 1 := by unfold half; grind
    unfold PQ.far PQ.mix PQ.add PQ.sub PQ.scale PQ.dot at *
    simp only
    grind
  have := Rat.mul_nonneg (sq_nn (s - half)) (q.sub p).dot_nn
  grind
theorem dL_szs {c : PQ} {h : Rat} {m : Nat} (hm : 1 ≤ m) (hm2 : m ≤ 4096) : ∀ p ∈ dL c h m 4, p.sz ≤ c.sz + sz h + 17 := fun p hp => by
  obtain ⟨k, hk, rfl⟩ := List.mem_iff_getElem.1 hp
  rw [dL_len] at hk
  rw [dL_dR hm hk]
  have := PQ.sz_add c (dR h m k)
  have := dR_sz (h := h) (k := m) (i := k) hm hm2
  omega
theorem near_no {h d : Rat} {m : Nat} (hd : 0 < d) (hn : nearB h m d = false) {i : Nat} (hi : i < m) : d * d ≤ nD h m i := by
  unfold nearB at hn
  rw [decide_eq_true hd, Bool.true_and, List.any_eq_false] at hn
  have := hn i (by simpa using hi)
  simp only [decide_eq_true_eq] at this
  grind
theorem ts_circ {c : PQ} {h d : Rat} {m k : Nat} (hm : 1 ≤ m) (hk : k < 4 * m) (hd : 0 < d) (hn : nearB h m d = false) : d * d ≤ tsQ c (c.add (dR h m k)) (c.add (dR h m ((k + 1) % (4 * m)))) := by
  have h1 := ts_mid (c := c) (p := dR h m k) (q := dR h m ((k + 1) % (4 * m))) (by rw [dR_dot, dR_dot])
  have h2 := near_no hd hn (i := k % m) (Nat.mod_lt _ (by omega))
  have h3 := far_mid c h (k / m) m (k % m)
  rw [dL_dR1 hm hk] at h1
  have e1 : dP c h (k / m) (uP m (k % m)) = c.add (dR h m k) := rfl
  have e2 : dP c h (k / m) (uP m (k % m + 1)) = c.add ((rotN (k / m) (uP m (k % m + 1))).scale h) := rfl
  rw [e1, e2] at h3
  rw [dL_dR1 hm hk]
  grind

set_option maxHeartbeats 16000000 in
theorem discround_pure (c : PR) (h tol : RQ) (hc : c.Lm) (hh : h.Lm) (ht : tol.Lm) : Pure Tryz.prog 9 [c.av, h.av, tol.av] (.bool true) := by
  have hl := dlight_pure c h tol hh ht
  have hw := dwakes_pure
  refine Pure.of_go mixed Tryz.func9 rfl (rs := [.tmp 6]) rfl (by kernel_rfl) (by simp -implicitDefEqProofs [go_sem]) ?_
  obtain ⟨cc, hcc, c1, c2, c3, c4⟩ : ∃ cc, c.av = .agg cc ∧ cc.length = 6 ∧ cc.take 6 = cc ∧ cc.drop 6 = [] ∧ roL cc := ⟨_, rfl, rfl, rfl, rfl, by have := ro_pr c; unfold PR.av at this; simpa only [ro] using this⟩
  obtain ⟨ch, hch, d1, d2, d3, d4⟩ : ∃ ch, h.av = .agg ch ∧ ch.length = 3 ∧ ch.take 3 = ch ∧ ch.drop 3 = [] ∧ roL ch := ⟨_, rfl, rfl, rfl, rfl, rq_cs_ro h⟩
  obtain ⟨ct, hct, t1, t2, t3, t4⟩ : ∃ ct, tol.av = .agg ct ∧ ct.length = 3 ∧ ct.take 3 = ct ∧ ct.drop 3 = [] ∧ roL ct := ⟨_, rfl, rfl, rfl, rfl, rq_cs_ro tol⟩
  by_cases hL : LightD c h tol
  · rw [decide_eq_true hL] at hl
    obtain ⟨⟨q1, q2⟩, q3, q4, q5⟩ := hL
    have ic : c.In 1 := ⟨sml_in q1 hc.1, sml_in q2 hc.2⟩
    have ih := sml_in q3 hh
    have it := sml_in q4 ht
    have zc := ic.sz
    have zh := ih.sz
    have zt := it.sz
    have r1 := dround_pure c h tol ic.mono ih.mono it.mono
    have hsub := rsub_pure h tol (ih.mono (m := 17179869184)).sm (it.mono (m := 17179869184)).sm
    rcases rnd_cases c.val h.val tol.val with ⟨k1, k2⟩ | ⟨e, k1, h0, ht0, k3, k4⟩
    · rw [k1] at r1
      generalize (rnd c.val h.val tol.val).2 = E at *
      rw [hcc, hch, hct] at hl r1 ⊢
      unfold pL at r1
      simp -implicitDefEqProofs [go_sem, c1, c2, d1, d2, t1, t2]
      refine goC_pure _ hl (by simp -implicitDefEqProofs [go_sem, c4, d4, t4]) ?_
      simp -implicitDefEqProofs [go_sem, c1, c2, d1, d2, t1, t2]
      refine goC_pure _ r1 (by simp -implicitDefEqProofs [go_sem, c4, d4, t4]) ?_
      simp -implicitDefEqProofs [go_sem, k2]
      refine goC_pure _ hw (by simp -implicitDefEqProofs [go_sem]) ?_
      simp -implicitDefEqProofs [go_sem]
    · rw [k4] at r1
      have hp : 2 ^ e ≤ 4096 := (pow12 (by omega)).2 k1
      have hp1 : 1 ≤ 2 ^ e := Nat.pow_pos (by omega)
      have hp4 : 2 ^ e ≤ 4 → cvx (2 ^ e) = true := fun hle => by
        have : e ≤ 2 := by
          rcases Nat.lt_or_ge 2 e with h | h
          · have : 2 ^ 3 ≤ 2 ^ e := Nat.pow_le_pow_right (by omega) h
            omega
          · exact h
        rcases (by omega : e = 0 ∨ e = 1 ∨ e = 2) with rfl | rfl | rfl
        · exact cvx1
        · exact cvx2
        · exact cvx4
      obtain ⟨m, hm⟩ : ∃ m, m = 2 ^ e := ⟨_, rfl⟩
      rw [← hm] at hp hp1 hp4 k3 r1
      have hLl : (dL c.val h.val m 4).length = 4 * m := dL_len ..
      have hsz := dL_szs (c := c.val) (h := h.val) hp1 hp
      have har := area_pure (dL c.val h.val m 4) 19 (by omega) (by omega) (fun p hp => by have := hsz p hp; omega) (by omega)
      have hap := area_circ (c := c.val) h0 hp1
      have zar : sz (areaQ (dL c.val h.val m 4)) ≤ 4294967296 := by
        have h1 := sz_aS (l := dL c.val h.val m 4) (N := 19) (fun p hp => by have := hsz p hp; omega) (dL c.val h.val m 4).length (Nat.le_refl _)
        have h2 := sz_mul (aS (dL c.val h.val m 4) (dL c.val h.val m 4).length) half
        have h3 := sz_half
        unfold areaQ
        rw [hLl] at *
        omega
      have hsg := rsignq (areaQ (dL c.val h.val m 4)) (by omega)
      have hsg0 : ¬ sgnQ (areaQ (dL c.val h.val m 4)) ≤ 0 := by have := sgnQ_gt.2 hap; omega
      have hge : ∀ i, i < 4 * m → getE ((dL c.val h.val m 4).map pA) (i : Int) = .agg (pC (c.val.add (dR h.val m i))) := fun i hi => by
        rw [getE_pA (by rw [hLl]; exact hi), dL_dR hp1 hi]
      have hcv : m ≤ 4 → Pure Tryz.prog 54 [pL (dL c.val h.val m 4)] (.bool true) := fun hle => by
        have hcx := hp4 hle
        have gt : ∀ i (hi : i < 4 * m), (dL c.val h.val m 4)[i]'(by omega) = c.val.add (dR h.val m i) := fun i hi => dL_dR hp1 hi
        refine convex_pure _ (by omega) (by omega) (fun p hp => by have := hsz p hp; omega) (fun i k hi hk hne => ?_) (fun i k hi hk => ?_) ?_
        · rw [gt i (by omega), gt k (by omega)]
          intro hh
          exact (cvx_get hcx (by omega : i < 4 * m) (by omega : k < 4 * m)).1 hne (scale_inj h0 (add_inj hh))
        · have e1 : (i + 1) % (dL c.val h.val m 4).length = (i + 1) % (4 * m) := by rw [hLl]
          have e2 : (dL c.val h.val m 4)[(i + 1) % (dL c.val h.val m 4).length]'(Nat.mod_lt _ (by omega)) = c.val.add (dR h.val m ((i + 1) % (4 * m))) := by
            have := gt ((i + 1) % (4 * m)) (Nat.mod_lt _ (by omega))
            simp only [e1]; exact this
          rw [gt i (by omega), gt k (by omega), e2, orient_add, dR_uR, dR_uR, dR_uR, cross_scale, sgnQ_ge]
          have h1 := (cvx_get hcx (by omega : i < 4 * m) (by omega : k < 4 * m)).2
          exact Rat.mul_nonneg (sq_nn _) h1
        · rw [gt 0 (by omega), gt 1 (by omega), gt 2 (by omega), orient_add]
          refine sgnQ_gt.2 ?_
          have := dR_orient (k := 0) h0 hp1 (by omega)
          rw [Nat.zero_add, Nat.zero_add, Nat.mod_eq_of_lt (by omega : 1 < 4 * m), Nat.mod_eq_of_lt (by omega : 2 < 4 * m)] at this
          exact this
      have zd : sz (h.val - tol.val) ≤ 3 := by have := sz_sub h.val tol.val; omega
      have hsd := rsignq (h.val - tol.val) (by omega)
      have hdd := rmulq (h.val - tol.val) (h.val - tol.val) (by omega) (by omega)
      have zdd := sz_mul (h.val - tol.val) (h.val - tol.val)
      have hhh := rmul_pure h h (ih.mono (m := 17179869184)).sm (ih.mono (m := 17179869184)).sm
      have zhh := sz_mul h.val h.val
      have hceq := rcmpq (h.val * h.val) (h.val * h.val) (by omega) (by omega)
      rw [cmpQ_self] at hceq
      have gfar := fun p hp => pfar_pure (pc p) c (pc_in hp) ic.mono
      have gor1 := fun p q hp hq => porient_pure c (pc p) (pc q) ic.mono (pc_in hp) (pc_in hq)
      have gts := fun a b => ptoseg_pure c a b ic.mono
      simp only [pc_val] at gfar gor1
      have gcm := fun x => rcmpq x ((h.val - tol.val) * (h.val - tol.val))
      have gor2 := fun a b d => porientq a b d
      rw [hcc, hch, hct] at hl r1 ⊢
      rw [hcc] at gfar gor1 gts
      rw [hch, hct] at hsub
      rw [hch] at hhh
      have hts := fun i hi (hd : 0 < h.val - tol.val) => ts_circ (c := c.val) (h := h.val) (m := m) (k := i) hp1 hi hd k3
      have hcr := fun i hi => dR_cross (k := i) h0 hp1 hi
      have hcr2 := fun i hi => dR_orient (k := i) h0 hp1 hi
      have hrz := fun i => dR_sz (h := h.val) (k := m) (i := i) hp1 hp
      have hrd := fun i => dR_dot h.val m i
      unfold pL at r1 har hcv
      generalize areaQ (dL c.val h.val m 4) = ar at *
      generalize dL c.val h.val m 4 = L at *
      generalize h.val - tol.val = d at *
      generalize h.val * h.val = hq at *
      generalize dR h.val m = R at *
      simp only [rA_rC] at har hsg hsub hsd hdd hhh hceq
      have n4 : ¬ (L.length : Int) < 4 := by omega
      have nm4 : Int.tmod (L.length : Int) 4 = 0 := by rw [Int.tmod_eq_emod_of_nonneg (by omega), hLl]; omega
      have hlw : IntKind.i64.wrap (L.length : Int) = L.length := w64 (by omega)
      have x1 := (renL_ro (nm []) _ c4).symm
      have x2 := cloL_ro (n := 4) _ c4
      have y1 := (renL_ro (nm []) _ d4).symm
      have y2 := cloL_ro (n := 4) _ d4
      simp -implicitDefEqProofs [go_sem, c1, c2, d1, d2, t1, t2]
      refine goC_pure _ hl (by simp -implicitDefEqProofs [go_sem, c4, d4, t4]) ?_
      simp -implicitDefEqProofs [go_sem, c1, c2, d1, d2, t1, t2]
      refine goC_pure _ r1 (by simp -implicitDefEqProofs [go_sem, c4, d4, t4]) ?_
      simp -implicitDefEqProofs [go_sem, n4, nm4]
      refine goC_pure _ har (by simp -implicitDefEqProofs [go_sem]) ?_
      simp -implicitDefEqProofs [go_sem]
      refine goC_pure _ hsg (by simp -implicitDefEqProofs [go_sem, ro_rC]) ?_
      simp -implicitDefEqProofs [go_sem, hsg0, d1, d2, t1, t2]
      refine goC_pure _ hsub (by simp -implicitDefEqProofs [go_sem, d4, t4]) ?_
      simp -implicitDefEqProofs [go_sem]
      refine go_loopN 4 (α := {i : Nat // i ≤ 4 * m}) (fun i => [(3, .ptr 0 0 0), (4, .ptr 1 0 0), (7, .sl 6 false (L.map pA)), (9, .ptr 3 0 0), (10, .int .i64 i.1)])
        (fun i => [(0, .live 6 [.agg cc]), (1, .live 3 [.agg ch]), (3, .live 3 [.agg (rC d)])]) (fun i => 4 * m - i.1) ⟨0, Nat.zero_le _⟩ [] (by simp) (fun _ _ _ _ h => h) (by omega) (by simp -implicitDefEqProofs [go_sem]) (by simp -implicitDefEqProofs [go_sem]; exact ⟨⟨x1, x2⟩, y1, y2⟩) fun ⟨i, hi⟩ => ?_
      simp -implicitDefEqProofs [go_sem]
      refine ⟨fun h5 => ?_, fun h5 => ?_⟩
      · have h5 : i < 4 * m := by omega
        have es : IntKind.i64.wrap ((i : Int) + 1) = (i + 1 : Nat) := by rw [w64 (by omega)]; omega
        have es2 : IntKind.i64.wrap ((i : Int) + 2) = (i + 2 : Nat) := by rw [w64 (by omega)]; omega
        have em1 : Int.tmod ((i + 1 : Nat) : Int) (4 * (m : Int)) = ((i + 1) % (4 * m) : Nat) := by rw [Int.tmod_eq_emod_of_nonneg (by omega), show (4 * (m : Int)) = ((4 * m : Nat) : Int) by omega]; omega
        have em2 : Int.tmod ((i + 2 : Nat) : Int) (4 * (m : Int)) = ((i + 2) % (4 * m) : Nat) := by rw [Int.tmod_eq_emod_of_nonneg (by omega), show (4 * (m : Int)) = ((4 * m : Nat) : Int) by omega]; omega
        have lt1 : (i + 1) % (4 * m) < 4 * m := Nat.mod_lt _ (by omega)
        have lt2 : (i + 2) % (4 * m) < 4 * m := Nat.mod_lt _ (by omega)
        have e0 := hge i h5
        have e1 := hge _ lt1
        have e2 := hge _ lt2
        have cr := hcr i h5
        have cr2 := hcr2 i h5
        have ts := hts i h5
        have z0 := hrz i; have z1 := hrz ((i + 1) % (4 * m)); have z2 := hrz ((i + 2) % (4 * m))
        have rd := hrd i
        generalize R i = p0 at *
        generalize R ((i + 1) % (4 * m)) = p1 at *
        generalize R ((i + 2) % (4 * m)) = p2 at *
        generalize (i + 1) % (4 * m) = j1 at *
        generalize (i + 2) % (4 * m) = j2 at *
        have w0 := PQ.sz_add c.val p0; have w1 := PQ.sz_add c.val p1; have w2 := PQ.sz_add c.val p2
        have f1 := gfar (c.val.add p0) (by omega)
        rw [far_add, rd] at f1
        have f2 := gor1 (c.val.add p0) (c.val.add p1) (by omega) (by omega)
        rw [orient_mid] at f2
        have f3 := gor2 (c.val.add p0) (c.val.add p1) (c.val.add p2) (by omega) (by omega) (by omega)
        rw [orient_add] at f3
        have f4 := gts (c.val.add p0) (c.val.add p1) (by omega) (by omega)
        have zts := sz_tsQ (n := 64) (p := c.val) (a := c.val.add p0) (b := c.val.add p1) (by omega) (by omega) (by omega)
        have f5 := gcm (tsQ c.val (c.val.add p0) (c.val.add p1)) (by omega) (by omega)
        generalize tsQ c.val (c.val.add p0) (c.val.add p1) = tq at *
        have g2 : ¬ sgnQ (p0.cross p1) ≤ 0 := by have := sgnQ_gt.2 cr; omega
        have g3 : ¬ sgnQ ((p1.sub p0).cross (p2.sub p0)) ≤ 0 := by have := sgnQ_gt.2 cr2; omega
        generalize sgnQ (p0.cross p1) = s2 at *
        generalize sgnQ ((p1.sub p0).cross (p2.sub p0)) = s3 at *
        generalize c.val.add p0 = P0 at *
        generalize c.val.add p1 = P1 at *
        generalize c.val.add p2 = P2 at *
        change Pure _ _ [pA _, _] _ at f1
        change Pure _ _ [_, pA _, pA _] _ at f2
        simp only [pA_pC, rA_rC] at f1 f2 f3 f4 f5
        obtain ⟨i1, hi1⟩ : ∃ i1, i1 = i + 1 := ⟨_, rfl⟩
        obtain ⟨i2, hi2⟩ : ∃ i2, i2 = i + 2 := ⟨_, rfl⟩
        rw [← hi1] at es em1
        rw [← hi2] at es2 em2
        have hLn : ¬ L = [] := fun h => by rw [h] at hLl; simp at hLl; omega
        simp -implicitDefEqProofs [go_sem, es, em1, e1, e0, hLl, hLn, c1, c2]
        refine ⟨by omega, by omega, goD_pure _ f1 (by simp -implicitDefEqProofs [go_sem, ro_pC, c4]) ?_⟩
        simp -implicitDefEqProofs [go_sem, d1, d2]
        refine goD_pure _ hhh (by simp -implicitDefEqProofs [go_sem, d4]) ?_
        simp -implicitDefEqProofs [go_sem]
        refine goD_pure _ hceq (by simp -implicitDefEqProofs [go_sem, ro_rC]) ?_
        simp -implicitDefEqProofs [go_sem, e0, hLl, c1, c2]
        refine ⟨by omega, goD_pure _ f2 (by simp -implicitDefEqProofs [go_sem, ro_pC, c4]) ?_⟩
        simp -implicitDefEqProofs [go_sem, g2, e0, hLl, es2, em2, e2, hLn]
        refine ⟨by omega, by omega, by omega, goD_pure _ f3 (by simp -implicitDefEqProofs [go_sem, ro_pC]) ?_⟩
        simp -implicitDefEqProofs [go_sem, g3]
        refine goD_pure _ hsd (by simp -implicitDefEqProofs [go_sem, ro_rC]) ?_
        by_cases hd0 : 0 < d
        · have hd1 := sgnQ_gt.2 hd0
          have hd2 : ¬ sgnQ d ≤ 0 := by omega
          have hq0 : ¬ cmpQ tq (d * d) < 0 := fun h => by have := cmpQ_lt.1 h; have := ts hd0; grind
          simp -implicitDefEqProofs [go_sem, hd1, hd2, e0, hLl, c1, c2]
          refine ⟨by omega, goD_pure _ f4 (by simp -implicitDefEqProofs [go_sem, ro_pC, c4]) ?_⟩
          simp -implicitDefEqProofs [go_sem]
          refine goD_pure _ hdd (by simp -implicitDefEqProofs [go_sem, ro_rC]) ?_
          simp -implicitDefEqProofs [go_sem]
          refine goD_pure _ f5 (by simp -implicitDefEqProofs [go_sem, ro_rC]) ?_
          simp -implicitDefEqProofs [go_sem, hq0, es]
          trace_state
          refine go_again ⟨i1, by omega⟩ (by simp only; omega) [] (by simp) (fun _ _ _ _ h => h) (by simp) (by simp -implicitDefEqProofs [go_sem, es]) (by simp -implicitDefEqProofs [go_sem]; exact ⟨⟨x1, x2⟩, y1, y2⟩)
        · have hd2 : ¬ 0 < sgnQ d := fun h => hd0 (sgnQ_gt.1 h)
          have hd1 : sgnQ d ≤ 0 := by omega
          simp -implicitDefEqProofs [go_sem, hd1, hd2, es]
          refine go_again ⟨i1, by omega⟩ (by simp only; omega) [] (by simp) (fun _ _ _ _ h => h) (by simp) (by simp -implicitDefEqProofs [go_sem, es]) (by simp -implicitDefEqProofs [go_sem]; exact ⟨⟨x1, x2⟩, y1, y2⟩)
      · by_cases h16 : 4 * m ≤ 16
        · have hcv := hcv (by omega)
          have h17 : ¬ 16 < 4 * (m : Int) := by omega
          have h18 : 4 * (m : Int) ≤ 16 := by omega
          simp -implicitDefEqProofs [go_sem, hLl, h17, h18]
          refine goC_pure _ hcv (by simp -implicitDefEqProofs [go_sem]) ?_
          simp -implicitDefEqProofs [go_sem]
          refine goC_pure _ hw (by simp -implicitDefEqProofs [go_sem]) ?_
          simp -implicitDefEqProofs [go_sem]
        · have h17 : 16 < 4 * (m : Int) := by omega
          have h18 : ¬ 4 * (m : Int) ≤ 16 := by omega
          simp -implicitDefEqProofs [go_sem, hLl, h17, h18]
          refine goC_pure _ hw (by simp -implicitDefEqProofs [go_sem]) ?_
          simp -implicitDefEqProofs [go_sem]
  · rw [decide_eq_false hL] at hl
    rw [hcc, hch, hct] at hl ⊢
    simp -implicitDefEqProofs [go_sem, c1, c2, d1, d2, t1, t2]
    refine goC_pure _ hl (by simp -implicitDefEqProofs [go_sem, c4, d4, t4]) ?_
    simp -implicitDefEqProofs [go_sem]
    refine goC_pure _ hw (by simp -implicitDefEqProofs [go_sem]) ?_
    simp -implicitDefEqProofs [go_sem]
end Go.Proofs.YtmhnmaklgcppbaaGreat
