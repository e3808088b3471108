import Derived.Test.YtgiheamjhoiojaaGreatPkDa
import Derived.Test.YtgiheamjhoiojaaGreatPkPa
import Derived.Test.YtgiheamjhoiojaaGreatPkIa
import Derived.Test.YtgiheamjhoiojaaGreatPkEa
namespace Go.Proofs.YtgiheamjhoiojaaGreat
open Go Go.Proofs
set_option linter.unusedSimpArgs false
set_option linter.unusedVariables false
theorem orient_circ {a b d : PQ} {H : Rat} (ha : a.dot a = H) (hb : b.dot b = H) (hd : d.dot d = H) (h1 : 0 < a.cross b) (h2 : 0 < b.cross d) : 0 < (b.sub a).cross (d.sub a) := by
  have hH0 : 0 ≤ H := by rw [← ha]; exact a.dot_nn
  have e1 : a.dot b * a.dot b + a.cross b * a.cross b = H * H := by
    unfold PQ.dot PQ.cross at *; grind
  have e2 : b.dot d * b.dot d + b.cross d * b.cross d = H * H := by
    unfold PQ.dot PQ.cross at *; grind
  have e3 : H * (b.sub a).cross (d.sub a) = a.cross b * (H - b.dot d) + b.cross d * (H - a.dot b) := by
    unfold PQ.dot PQ.cross PQ.sub at *
    simp only
    grind
  have p1 := Rat.mul_pos h1 h1
  have p2 := Rat.mul_pos h2 h2
  have hH : 0 < H := by
    rcases Classical.em (H = 0) with h | h
    · rw [h] at e1
      have := sq_nn (a.dot b)
      grind
    · grind
  have l1 : a.dot b < H := lt_of_sq hH (by grind)
  have l2 : b.dot d < H := lt_of_sq hH (by grind)
  have q1 := Rat.mul_pos h1 (show 0 < H - b.dot d by grind)
  have q2 := Rat.mul_pos h2 (show 0 < H - a.dot b by grind)
  have q3 : 0 < H * (b.sub a).cross (d.sub a) := by rw [e3]; grind
  rcases Classical.em (0 < (b.sub a).cross (d.sub a)) with h | h
  · exact h
  · have := Rat.mul_nonneg hH0 (show 0 ≤ - (b.sub a).cross (d.sub a) by grind)
    grind
theorem uP_dot (m i : Nat) : (uP m i).dot (uP m i) = 1 := by
  have h := one_tt m i
  unfold uP kQ PQ.scale PQ.dot
  simp only
  have : (1 : Rat) / (1 + tQ m i * tQ m i) * (1 + tQ m i * tQ m i) = 1 := by grind
  generalize (1 : Rat) / (1 + tQ m i * tQ m i) = k at *
  generalize tQ m i = t at *
  have e : (1 - t * t) * k * ((1 - t * t) * k) + (t + t) * k * ((t + t) * k) = (k * (1 + t * t)) * (k * (1 + t * t)) := by grind
  rw [e, this]; grind
theorem uP_cross {m i : Nat} (hi : i + 1 ≤ m) : 0 < (uP m i).cross (uP m (i + 1)) := by
  have hm : (0 : Rat) < (m : Rat) := by exact_mod_cast (show 0 < m by omega)
  have h0 : (0 : Rat) ≤ (i : Rat) := by exact_mod_cast Nat.zero_le i
  have ht : tQ m (i + 1) = tQ m i + 1 / (m : Rat) := by
    unfold tQ
    simp only [Rat.intCast_natCast]
    have : ((i + 1 : Nat) : Rat) = (i : Rat) + 1 := by exact_mod_cast rfl
    rw [this]; grind
  have ht0 : 0 ≤ tQ m i := by
    unfold tQ
    simp only [Rat.intCast_natCast]
    rw [Rat.div_def]
    exact Rat.mul_nonneg h0 (Rat.le_of_lt (Rat.inv_pos.2 hm))
  have hd : 0 < 1 / (m : Rat) := by
    rw [Rat.div_def, Rat.one_mul]
    exact Rat.inv_pos.2 hm
  have o1 := one_tt m i
  have o2 := one_tt m (i + 1)
  have k1 : kQ m i * (1 + tQ m i * tQ m i) = 1 := by unfold kQ; grind
  have k2 : kQ m (i + 1) * (1 + tQ m (i + 1) * tQ m (i + 1)) = 1 := by unfold kQ; grind
  rw [ht] at k2
  unfold uP PQ.scale PQ.cross
  simp only
  rw [ht]
  generalize kQ m i = a at *
  generalize kQ m (i + 1) = b at *
  generalize tQ m i = t at *
  generalize 1 / (m : Rat) = d at *
  have e : (1 - t * t) * a * ((t + d + (t + d)) * b) - (t + t) * a * ((1 - (t + d) * (t + d)) * b) = a * b * (2 * d * (1 + t * (t + d))) := by grind
  rw [e]
  have s1 := sq_nn t
  have s2 := sq_nn (t + d)
  have pa : 0 < a := by
    rcases Classical.em (0 < a) with h | h
    · exact h
    · have := Rat.mul_nonneg (show 0 ≤ -a by grind) (show 0 ≤ 1 + t * t by grind)
      grind
  have pb : 0 < b := by
    rcases Classical.em (0 < b) with h | h
    · exact h
    · have := Rat.mul_nonneg (show 0 ≤ -b by grind) (show 0 ≤ 1 + (t + d) * (t + d) by grind)
      grind
  have := Rat.mul_nonneg ht0 (show 0 ≤ t + d by grind)
  exact Rat.mul_pos (Rat.mul_pos pa pb) (Rat.mul_pos (by grind) (by grind))
theorem rot_dot (p q : PQ) : p.rot.dot q.rot = p.dot q := by unfold PQ.rot PQ.dot; simp only; grind
theorem rot_cross (p q : PQ) : p.rot.cross q.rot = p.cross q := by unfold PQ.rot PQ.cross; simp only; grind
theorem rotN_dot (j : Nat) (p q : PQ) : (rotN j p).dot (rotN j q) = p.dot q := by
  induction j with
  | zero => rfl
  | succ j ih => simp only [rotN, rot_dot, ih]
theorem rotN_cross (j : Nat) (p q : PQ) : (rotN j p).cross (rotN j q) = p.cross q := by
  induction j with
  | zero => rfl
  | succ j ih => simp only [rotN, rot_cross, ih]
def dR (h : Rat) (m k : Nat) : PQ := (rotN (k / m) (uP m (k % m))).scale h
theorem dR_dot (h : Rat) (m k : Nat) : (dR h m k).dot (dR h m k) = h * h := by
  have := rotN_dot (k / m) (uP m (k % m)) (uP m (k % m))
  rw [uP_dot] at this
  unfold dR PQ.scale
  unfold PQ.dot at *
  simp only
  grind
theorem dL_dR {c : PQ} {h : Rat} {m k : Nat} (hm : 1 ≤ m) (hk : k < 4 * m) : (dL c h m 4)[k]'(by rw [dL_len]; omega) = c.add (dR h m k) := by
  rw [dL_get _ _ _ hm]; rfl
theorem dL_dR1 {c : PQ} {h : Rat} {m k : Nat} (hm : 1 ≤ m) (hk : k < 4 * m) : c.add (dR h m ((k + 1) % (4 * m))) = c.add ((rotN (k / m) (uP m (k % m + 1))).scale h) := by
  rw [← dL_dR hm (Nat.mod_lt _ (by omega)), dL_next _ _ _ hm _ hk]; rfl
theorem add_inj {c p q : PQ} (h : c.add p = c.add q) : p = q := by
  unfold PQ.add at h
  rw [PQ.mk.injEq] at h
  exact PQ.ext (by grind) (by grind)
theorem dR_next (h : Rat) {m k : Nat} (hm : 1 ≤ m) (hk : k < 4 * m) : dR h m ((k + 1) % (4 * m)) = (rotN (k / m) (uP m (k % m + 1))).scale h := add_inj (dL_dR1 (c := ⟨0, 0⟩) hm hk)
theorem dR_cross {h : Rat} (h0 : 0 < h) {m k : Nat} (hm : 1 ≤ m) (hk : k < 4 * m) : 0 < (dR h m k).cross (dR h m ((k + 1) % (4 * m))) := by
  rw [dR_next h hm hk]
  have h1 := rotN_cross (k / m) (uP m (k % m)) (uP m (k % m + 1))
  have h2 := uP_cross (m := m) (i := k % m) (by have := Nat.mod_lt k (show 0 < m by omega); omega)
  rw [← h1] at h2
  unfold dR PQ.scale PQ.cross at *
  simp only
  have := Rat.mul_pos (Rat.mul_pos h0 h0) h2
  grind
theorem dR_orient {h : Rat} (h0 : 0 < h) {m k : Nat} (hm : 1 ≤ m) (hk : k < 4 * m) : 0 < ((dR h m ((k + 1) % (4 * m))).sub (dR h m k)).cross ((dR h m ((k + 2) % (4 * m))).sub (dR h m k)) := by
  have h1 := dR_cross h0 hm hk
  have h2 := dR_cross h0 hm (k := (k + 1) % (4 * m)) (Nat.mod_lt _ (by omega))
  have e : ((k + 1) % (4 * m) + 1) % (4 * m) = (k + 2) % (4 * m) := by rw [Nat.mod_add_mod]
  rw [e] at h2
  exact orient_circ (dR_dot ..) (dR_dot ..) (dR_dot ..) h1 h2
theorem aS_circ {c : PQ} {h : Rat} (h0 : 0 < h) {m : Nat} (hm : 1 ≤ m) : ∀ i, i ≤ 4 * m → ∃ B : Rat, 0 ≤ B ∧ (0 < i → 0 < B) ∧ aS (dL c h m 4) i = B + c.cross ((dR h m (i % (4 * m))).sub (dR h m 0)) := by
  have hl : (dL c h m 4).length = 4 * m := dL_len ..
  intro i
  induction i with
  | zero =>
    intro _
    refine ⟨0, by grind, by simp, ?_⟩
    rw [Nat.zero_mod]
    simp only [aS]
    unfold PQ.cross PQ.sub; simp only; grind
  | succ i ih =>
    intro hi
    obtain ⟨B, b0, _, b2⟩ := ih (by omega)
    have hc := dR_cross h0 hm (k := i) (by omega)
    refine ⟨B + (dR h m i).cross (dR h m ((i + 1) % (4 * m))), by grind, fun _ => by grind, ?_⟩
    have g1 : (dL c h m 4).getD i ⟨0, 0⟩ = c.add (dR h m i) := by
      rw [← dL_dR hm (by omega), List.getD_eq_getElem?_getD, List.getElem?_eq_getElem (by omega)]; rfl
    have g2 : (dL c h m 4).getD ((i + 1) % (dL c h m 4).length) ⟨0, 0⟩ = c.add (dR h m ((i + 1) % (4 * m))) := by
      have hlt : (i + 1) % (4 * m) < 4 * m := Nat.mod_lt _ (by omega)
      have e : (i + 1) % (dL c h m 4).length = (i + 1) % (4 * m) := by rw [hl]
      rw [e, ← dL_dR hm hlt, List.getD_eq_getElem?_getD, List.getElem?_eq_getElem (by omega)]; rfl
    simp only [aS, b2, g1, g2]
    rw [Nat.mod_eq_of_lt (show i < 4 * m by omega)]
    generalize dR h m i = p
    generalize dR h m ((i + 1) % (4 * m)) = q
    generalize dR h m 0 = o
    unfold PQ.cross PQ.sub PQ.add; simp only; grind
theorem area_circ {c : PQ} {h : Rat} (h0 : 0 < h) {m : Nat} (hm : 1 ≤ m) : 0 < areaQ (dL c h m 4) := by
  obtain ⟨B, _, b1, b2⟩ := aS_circ (c := c) h0 hm (4 * m) (Nat.le_refl _)
  rw [Nat.mod_self] at b2
  have := b1 (by omega)
  unfold areaQ half
  rw [show (dL c h m 4).length = 4 * m from dL_len .., b2]
  unfold PQ.cross PQ.sub; simp only
  grind
set_option maxRecDepth 20000
theorem rndF_cases (N : Nat → Bool) (D : Nat → List PQ) : ∀ k e, e + k = 13 → ((rndF N D k e).1 = [] ∧ (rndF N D k e).2 = 24) ∨ ∃ i, i ≤ 12 ∧ N i = false ∧ rndF N D k e = (D i, 0)
  | 0, e, _ => .inl ⟨rfl, rfl⟩
  | k + 1, e, h => by
    unfold rndF
    cases hn : N e with
    | true => simpa using rndF_cases N D k (e + 1) (by omega)
    | false => exact .inr ⟨e, by omega, hn, by simp⟩
theorem rnd_cases (c : PQ) (h tol : Rat) : ((rnd c h tol).1 = [] ∧ (rnd c h tol).2 ≠ 0) ∨ ∃ e, e ≤ 12 ∧ 0 < h ∧ 0 < tol ∧ nearB h (2 ^ e) (h - tol) = false ∧ rnd c h tol = (dL c h (2 ^ e) 4, 0) := by
  unfold rnd
  split
  · exact .inl ⟨rfl, by decide⟩
  · rename_i hn
    rcases rndF_cases (fun e => nearB h (2 ^ e) (h - tol)) (fun e => dL c h (2 ^ e) 4) 13 0 rfl with ⟨h1, h2⟩ | ⟨i, h1, h2, h3⟩
    · exact .inl ⟨h1, by rw [h2]; decide⟩
    · exact .inr ⟨i, h1, by grind, by grind, h2, h3⟩
theorem add_sub (c r : PQ) : (c.add r).sub c = r := by
  unfold PQ.add PQ.sub
  exact PQ.ext (by simp only; grind) (by simp only; grind)
theorem zero_add (c r : PQ) : ((⟨0, 0⟩ : PQ).add r).add c = c.add r := by
  unfold PQ.add
  exact PQ.ext (by simp only; grind) (by simp only; grind)
theorem dR_sz {h : Rat} {k i : Nat} (hk : 1 ≤ k) (hk2 : k ≤ 4096) : (dR h k i).sz ≤ 16 + sz h := by
  have h1 := sz_uP (m := k) (i := i % k) hk hk2 (Nat.le_of_lt (Nat.mod_lt _ (by omega)))
  have h2 := sz_rotN (i / k) (uP k (i % k))
  have h3 := PQ.sz_scale (rotN (i / k) (uP k (i % k))) h
  unfold dR; omega
theorem cmpQ_self (x : Rat) : cmpQ x x = 0 := by
  have a := @cmpQ_lt x x; have b := @cmpQ_gt x x
  have : ¬ cmpQ x x < 0 := fun h => by have := a.1 h; grind
  have : ¬ 0 < cmpQ x x := fun h => by have := b.1 h; grind
  omega
def uR (m k : Nat) : PQ := rotN (k / m) (uP m (k % m))
theorem dR_uR (h : Rat) (m k : Nat) : dR h m k = (uR m k).scale h := rfl
def cvx (m : Nat) : Bool := (List.range (4 * m)).all fun i => (List.range (4 * m)).all fun k => (decide (k = i) || !decide (uR m i = uR m k)) && decide (0 ≤ ((uR m ((i + 1) % (4 * m))).sub (uR m i)).cross ((uR m k).sub (uR m i)))
theorem cvx1 : cvx 1 = true := by decide +kernel
theorem cvx2 : cvx 2 = true := by decide +kernel
theorem cvx4 : cvx 4 = true := by decide +kernel
theorem cvx_get {m : Nat} (h : cvx m = true) {i k : Nat} (hi : i < 4 * m) (hk : k < 4 * m) : (k ≠ i → uR m i ≠ uR m k) ∧ 0 ≤ ((uR m ((i + 1) % (4 * m))).sub (uR m i)).cross ((uR m k).sub (uR m i)) := by
  unfold cvx at h
  simp only [List.all_eq_true, List.mem_range, Bool.and_eq_true, Bool.or_eq_true, decide_eq_true_eq, Bool.not_eq_true', decide_eq_false_iff_not] at h
  obtain ⟨h1, h2⟩ := h i hi k hk
  exact ⟨fun hne => h1.resolve_left hne, h2⟩
theorem orient_add (c p q r : PQ) : PQ.orient (c.add p) (c.add q) (c.add r) = sgnQ ((q.sub p).cross (r.sub p)) := by
  unfold PQ.orient
  congr 1
  unfold PQ.add PQ.sub PQ.cross
  simp only
  grind
theorem scale_inj {h : Rat} (h0 : 0 < h) {p q : PQ} (e : p.scale h = q.scale h) : p = q := by
  unfold PQ.scale at e
  rw [PQ.mk.injEq] at e
  refine PQ.ext ?_ ?_
  · have : (p.x - q.x) * h = 0 := by grind
    rcases Rat.mul_eq_zero.1 this with h | h <;> grind
  · have : (p.y - q.y) * h = 0 := by grind
    rcases Rat.mul_eq_zero.1 this with h | h <;> grind
theorem cross_scale (p q r : PQ) (h : Rat) : ((q.scale h).sub (p.scale h)).cross ((r.scale h).sub (p.scale h)) = h * h * (q.sub p).cross (r.sub p) := by
  unfold PQ.scale PQ.sub PQ.cross
  simp only
  grind
theorem dL_szs {c : PQ} {h : Rat} {m : Nat} (hm : 1 ≤ m) (hm2 : m ≤ 4096) : ∀ p ∈ dL c h m 4, p.sz ≤ c.sz + sz h + 17 := fun p hp => by
  obtain ⟨k, hk, rfl⟩ := List.mem_iff_getElem.1 hp
  rw [dL_len] at hk
  rw [dL_dR hm hk]
  have := PQ.sz_add c (dR h m k)
  have := dR_sz (h := h) (k := m) (i := k) hm hm2
  omega
theorem hp4_circ {e : Nat} (hle : 2 ^ e ≤ 4) : cvx (2 ^ e) = true := by
  have : e ≤ 2 := by
    rcases Nat.lt_or_ge 2 e with h | h
    · have : 2 ^ 3 ≤ 2 ^ e := Nat.pow_le_pow_right (by omega) h
      omega
    · exact h
  rcases (by omega : e = 0 ∨ e = 1 ∨ e = 2) with rfl | rfl | rfl
  · exact cvx1
  · exact cvx2
  · exact cvx4
theorem circ_convex {c : PQ} {h : Rat} {m : Nat} (h0 : 0 < h) (hp1 : 1 ≤ m) (hp : m ≤ 4096) (hcx : cvx m = true) (zc : c.sz ≤ 1) (zh : sz h ≤ 1) (hp4 : m ≤ 4) : Pure Tryz.prog 25 [pL (dL c h m 4)] (.bool true) := by
  have hLl : (dL c h m 4).length = 4 * m := dL_len ..
  have hsz := dL_szs (c := c) (h := h) hp1 hp
  have gt : ∀ i (hi : i < 4 * m), (dL c h m 4)[i]'(by omega) = c.add (dR h m i) := fun i hi => dL_dR hp1 hi
  refine convex_pure _ (by omega) (by omega) (fun p hp => by have := hsz p hp; omega) (fun i k hi hk hne => ?_) (fun i k hi hk => ?_) ?_
  · rw [gt i (by omega), gt k (by omega)]
    intro hh
    exact (cvx_get hcx (by omega : i < 4 * m) (by omega : k < 4 * m)).1 hne (scale_inj h0 (add_inj hh))
  · have e1 : (i + 1) % (dL c h m 4).length = (i + 1) % (4 * m) := by rw [hLl]
    have e2 : (dL c h m 4)[(i + 1) % (dL c h m 4).length]'(Nat.mod_lt _ (by omega)) = c.add (dR h m ((i + 1) % (4 * m))) := by
      have := gt ((i + 1) % (4 * m)) (Nat.mod_lt _ (by omega))
      simp only [e1]; exact this
    rw [gt i (by omega), gt k (by omega), e2, orient_add, dR_uR, dR_uR, dR_uR, cross_scale, sgnQ_ge]
    have h1 := (cvx_get hcx (by omega : i < 4 * m) (by omega : k < 4 * m)).2
    exact Rat.mul_nonneg (sq_nn _) h1
  · rw [gt 0 (by omega), gt 1 (by omega), gt 2 (by omega), orient_add]
    refine sgnQ_gt.2 ?_
    have := dR_orient (k := 0) h0 hp1 (by omega)
    rw [Nat.zero_add, Nat.zero_add, Nat.mod_eq_of_lt (by omega : 1 < 4 * m), Nat.mod_eq_of_lt (by omega : 2 < 4 * m)] at this
    exact this
theorem area3 (p f l : PQ) : areaQ [p, p.add f, p.add l] = f.cross l * half := by
  unfold areaQ
  simp [aS, PQ.cross, PQ.add]
  rw [half_eq]; grind
theorem area4 (p f l : PQ) (r : Rat) : areaQ [p, p.add f, p.add ((f.add l).scale r), p.add l] = r * f.cross l := by
  unfold areaQ
  simp [aS, PQ.cross, PQ.add, PQ.scale]
  rw [half_eq]; grind
theorem add00 (p : PQ) : p.add ⟨0, 0⟩ = p := PQ.ext (by unfold PQ.add; simp only; grind) (by unfold PQ.add; simp only; grind)
theorem add_ne {p a b : PQ} (h : a ≠ b) : p.add a ≠ p.add b := fun e => h (add_inj e)
theorem cross_ne {a b : PQ} (h : a.cross b ≠ 0) : a ≠ ⟨0, 0⟩ ∧ b ≠ ⟨0, 0⟩ ∧ a ≠ b :=
  ⟨fun e => h (by rw [e]; unfold PQ.cross; grind), fun e => h (by rw [e]; unfold PQ.cross; grind), fun e => h (by rw [e]; unfold PQ.cross; grind)⟩
theorem orientc (a b c : PQ) : (b.sub a).cross (c.sub a) = a.cross b + b.cross c + c.cross a := by
  unfold PQ.cross PQ.sub; simp only; grind
theorem orient_nn {p a b c : PQ} (h : 0 ≤ a.cross b + b.cross c + c.cross a) : 0 ≤ PQ.orient (p.add a) (p.add b) (p.add c) := by
  rw [orient_add, orientc]; exact sgnQ_ge.2 h
theorem orient_pp {p a b c : PQ} (h : 0 < a.cross b + b.cross c + c.cross a) : 0 < PQ.orient (p.add a) (p.add b) (p.add c) := by
  rw [orient_add, orientc]; exact sgnQ_gt.2 h
theorem cr0l (a : PQ) : (⟨0, 0⟩ : PQ).cross a = 0 := by unfold PQ.cross; simp only; grind
theorem cr0r (a : PQ) : a.cross ⟨0, 0⟩ = 0 := by unfold PQ.cross; simp only; grind
theorem crs (a : PQ) : a.cross a = 0 := by unfold PQ.cross; grind
theorem crn (a b : PQ) : b.cross a = -(a.cross b) := by unfold PQ.cross; grind
set_option maxHeartbeats 4000000 in
theorem tri_convex {p f l : PQ} (hX : 0 < f.cross l) (z : ∀ q ∈ [p, p.add f, p.add l], q.sz ≤ 1073741824) : Pure Tryz.prog 25 [pL [p, p.add f, p.add l]] (.bool true) := by
  obtain ⟨h1, h2, n12⟩ := cross_ne (a := f) (b := l) (fun e => by rw [e] at hX; exact absurd hX (by decide))
  have n01 := Ne.symm h1
  have n02 := Ne.symm h2
  have x21 := crn f l
  have x11 := crs f
  have x22 := crs l
  generalize hx : f.cross l = X at *
  rw [show [p, p.add f, p.add l] = [p.add ⟨0, 0⟩, p.add f, p.add l] by rw [add00]] at z ⊢
  refine convex_pure _ (by simp) (by simp) z (fun i k hi hk hne => ?_) (fun i k hi hk => ?_) ?_
  · simp only [List.length_cons, List.length_nil] at hi hk
    rcases (show i = 0 ∨ i = 1 ∨ i = 2 by omega) with rfl | rfl | rfl <;> rcases (show k = 0 ∨ k = 1 ∨ k = 2 by omega) with rfl | rfl | rfl
    · exact absurd rfl hne
    · exact add_ne n01
    · exact add_ne n02
    · exact add_ne (Ne.symm n01)
    · exact absurd rfl hne
    · exact add_ne n12
    · exact add_ne (Ne.symm n02)
    · exact add_ne (Ne.symm n12)
    · exact absurd rfl hne
  · simp only [List.length_cons, List.length_nil] at hi hk
    rcases (show i = 0 ∨ i = 1 ∨ i = 2 by omega) with rfl | rfl | rfl <;> rcases (show k = 0 ∨ k = 1 ∨ k = 2 by omega) with rfl | rfl | rfl
    · simp only [List.length_cons, List.length_nil, Nat.reduceAdd, Nat.reduceMod, List.getElem_cons_zero, List.getElem_cons_succ]
      refine orient_nn ?_
      simp only [cr0l, cr0r, x21, x11, x22, hx]; clear z; grind
    · simp only [List.length_cons, List.length_nil, Nat.reduceAdd, Nat.reduceMod, List.getElem_cons_zero, List.getElem_cons_succ]
      refine orient_nn ?_
      simp only [cr0l, cr0r, x21, x11, x22, hx]; clear z; grind
    · simp only [List.length_cons, List.length_nil, Nat.reduceAdd, Nat.reduceMod, List.getElem_cons_zero, List.getElem_cons_succ]
      refine orient_nn ?_
      simp only [cr0l, cr0r, x21, x11, x22, hx]; clear z; grind
    · simp only [List.length_cons, List.length_nil, Nat.reduceAdd, Nat.reduceMod, List.getElem_cons_zero, List.getElem_cons_succ]
      refine orient_nn ?_
      simp only [cr0l, cr0r, x21, x11, x22, hx]; clear z; grind
    · simp only [List.length_cons, List.length_nil, Nat.reduceAdd, Nat.reduceMod, List.getElem_cons_zero, List.getElem_cons_succ]
      refine orient_nn ?_
      simp only [cr0l, cr0r, x21, x11, x22, hx]; clear z; grind
    · simp only [List.length_cons, List.length_nil, Nat.reduceAdd, Nat.reduceMod, List.getElem_cons_zero, List.getElem_cons_succ]
      refine orient_nn ?_
      simp only [cr0l, cr0r, x21, x11, x22, hx]; clear z; grind
    · simp only [List.length_cons, List.length_nil, Nat.reduceAdd, Nat.reduceMod, List.getElem_cons_zero, List.getElem_cons_succ]
      refine orient_nn ?_
      simp only [cr0l, cr0r, x21, x11, x22, hx]; clear z; grind
    · simp only [List.length_cons, List.length_nil, Nat.reduceAdd, Nat.reduceMod, List.getElem_cons_zero, List.getElem_cons_succ]
      refine orient_nn ?_
      simp only [cr0l, cr0r, x21, x11, x22, hx]; clear z; grind
    · simp only [List.length_cons, List.length_nil, Nat.reduceAdd, Nat.reduceMod, List.getElem_cons_zero, List.getElem_cons_succ]
      refine orient_nn ?_
      simp only [cr0l, cr0r, x21, x11, x22, hx]; clear z; grind
  · refine (show 0 < PQ.orient (p.add ⟨0, 0⟩) (p.add f) (p.add l) from orient_pp ?_)
    simp only [cr0l, cr0r, x21, x11, x22, hx]; clear z; grind
set_option maxHeartbeats 4000000 in
theorem kite_convex {p f l : PQ} {r : Rat} (hX : 0 < f.cross l) (hr : half ≤ r) (z : ∀ q ∈ [p, p.add f, p.add ((f.add l).scale r), p.add l], q.sz ≤ 1073741824) : Pure Tryz.prog 25 [pL [p, p.add f, p.add ((f.add l).scale r), p.add l]] (.bool true) := by
  have hr2 : 1 ≤ 2 * r := by rw [half_eq] at hr; grind
  obtain ⟨t, ht⟩ : ∃ t, t = (f.add l).scale r := ⟨_, rfl⟩
  have c1 : f.cross t = r * f.cross l := by rw [ht]; unfold PQ.cross PQ.scale PQ.add; simp only; grind
  have c2 : t.cross l = r * f.cross l := by rw [ht]; unfold PQ.cross PQ.scale PQ.add; simp only; grind
  have hrX : 0 < r * f.cross l := Rat.mul_pos (by grind) hX
  have h2X : 0 ≤ (2 * r - 1) * f.cross l := Rat.mul_nonneg (by grind) (by grind)
  have h2Y : f.cross l ≤ r * f.cross l + r * f.cross l := by grind
  rw [← ht] at z ⊢
  clear ht h2X hr2 hr
  have x31 := crn f l
  have x21 := crn f t
  have x32 := crn t l
  have x11 := crs f
  have x22 := crs t
  have x33 := crs l
  generalize r * f.cross l = Y at *
  obtain ⟨h1, h3, n13⟩ := cross_ne (a := f) (b := l) (fun e => by rw [e] at hX; exact absurd hX (by decide))
  obtain ⟨_, h2, n12⟩ := cross_ne (a := f) (b := t) (fun e => by rw [e] at c1; rw [← c1] at hrX; exact absurd hrX (by decide))
  obtain ⟨_, _, n23⟩ := cross_ne (a := t) (b := l) (fun e => by rw [e] at c2; rw [← c2] at hrX; exact absurd hrX (by decide))
  have n01 := Ne.symm h1
  have n02 := Ne.symm h2
  have n03 := Ne.symm h3
  generalize hx : f.cross l = X at *
  rw [show [p, p.add f, p.add t, p.add l] = [p.add ⟨0, 0⟩, p.add f, p.add t, p.add l] by rw [add00]] at z ⊢
  refine convex_pure _ (by simp) (by simp) z (fun i k hi hk hne => ?_) (fun i k hi hk => ?_) ?_
  · simp only [List.length_cons, List.length_nil] at hi hk
    rcases (show i = 0 ∨ i = 1 ∨ i = 2 ∨ i = 3 by omega) with rfl | rfl | rfl | rfl <;> rcases (show k = 0 ∨ k = 1 ∨ k = 2 ∨ k = 3 by omega) with rfl | rfl | rfl | rfl
    · exact absurd rfl hne
    · exact add_ne n01
    · exact add_ne n02
    · exact add_ne n03
    · exact add_ne (Ne.symm n01)
    · exact absurd rfl hne
    · exact add_ne n12
    · exact add_ne n13
    · exact add_ne (Ne.symm n02)
    · exact add_ne (Ne.symm n12)
    · exact absurd rfl hne
    · exact add_ne n23
    · exact add_ne (Ne.symm n03)
    · exact add_ne (Ne.symm n13)
    · exact add_ne (Ne.symm n23)
    · exact absurd rfl hne
  · simp only [List.length_cons, List.length_nil] at hi hk
    rcases (show i = 0 ∨ i = 1 ∨ i = 2 ∨ i = 3 by omega) with rfl | rfl | rfl | rfl <;> rcases (show k = 0 ∨ k = 1 ∨ k = 2 ∨ k = 3 by omega) with rfl | rfl | rfl | rfl
    · simp only [List.length_cons, List.length_nil, Nat.reduceAdd, Nat.reduceMod, List.getElem_cons_zero, List.getElem_cons_succ]
      refine orient_nn ?_
      simp only [cr0l, cr0r, x21, x31, x32, x11, x22, x33, c1, c2, hx]; clear z; grind
    · simp only [List.length_cons, List.length_nil, Nat.reduceAdd, Nat.reduceMod, List.getElem_cons_zero, List.getElem_cons_succ]
      refine orient_nn ?_
      simp only [cr0l, cr0r, x21, x31, x32, x11, x22, x33, c1, c2, hx]; clear z; grind
    · simp only [List.length_cons, List.length_nil, Nat.reduceAdd, Nat.reduceMod, List.getElem_cons_zero, List.getElem_cons_succ]
      refine orient_nn ?_
      simp only [cr0l, cr0r, x21, x31, x32, x11, x22, x33, c1, c2, hx]; clear z; grind
    · simp only [List.length_cons, List.length_nil, Nat.reduceAdd, Nat.reduceMod, List.getElem_cons_zero, List.getElem_cons_succ]
      refine orient_nn ?_
      simp only [cr0l, cr0r, x21, x31, x32, x11, x22, x33, c1, c2, hx]; clear z; grind
    · simp only [List.length_cons, List.length_nil, Nat.reduceAdd, Nat.reduceMod, List.getElem_cons_zero, List.getElem_cons_succ]
      refine orient_nn ?_
      simp only [cr0l, cr0r, x21, x31, x32, x11, x22, x33, c1, c2, hx]; clear z; grind
    · simp only [List.length_cons, List.length_nil, Nat.reduceAdd, Nat.reduceMod, List.getElem_cons_zero, List.getElem_cons_succ]
      refine orient_nn ?_
      simp only [cr0l, cr0r, x21, x31, x32, x11, x22, x33, c1, c2, hx]; clear z; grind
    · simp only [List.length_cons, List.length_nil, Nat.reduceAdd, Nat.reduceMod, List.getElem_cons_zero, List.getElem_cons_succ]
      refine orient_nn ?_
      simp only [cr0l, cr0r, x21, x31, x32, x11, x22, x33, c1, c2, hx]; clear z; grind
    · simp only [List.length_cons, List.length_nil, Nat.reduceAdd, Nat.reduceMod, List.getElem_cons_zero, List.getElem_cons_succ]
      refine orient_nn ?_
      simp only [cr0l, cr0r, x21, x31, x32, x11, x22, x33, c1, c2, hx]; clear z; grind
    · simp only [List.length_cons, List.length_nil, Nat.reduceAdd, Nat.reduceMod, List.getElem_cons_zero, List.getElem_cons_succ]
      refine orient_nn ?_
      simp only [cr0l, cr0r, x21, x31, x32, x11, x22, x33, c1, c2, hx]; clear z; grind
    · simp only [List.length_cons, List.length_nil, Nat.reduceAdd, Nat.reduceMod, List.getElem_cons_zero, List.getElem_cons_succ]
      refine orient_nn ?_
      simp only [cr0l, cr0r, x21, x31, x32, x11, x22, x33, c1, c2, hx]; clear z; grind
    · simp only [List.length_cons, List.length_nil, Nat.reduceAdd, Nat.reduceMod, List.getElem_cons_zero, List.getElem_cons_succ]
      refine orient_nn ?_
      simp only [cr0l, cr0r, x21, x31, x32, x11, x22, x33, c1, c2, hx]; clear z; grind
    · simp only [List.length_cons, List.length_nil, Nat.reduceAdd, Nat.reduceMod, List.getElem_cons_zero, List.getElem_cons_succ]
      refine orient_nn ?_
      simp only [cr0l, cr0r, x21, x31, x32, x11, x22, x33, c1, c2, hx]; clear z; grind
    · simp only [List.length_cons, List.length_nil, Nat.reduceAdd, Nat.reduceMod, List.getElem_cons_zero, List.getElem_cons_succ]
      refine orient_nn ?_
      simp only [cr0l, cr0r, x21, x31, x32, x11, x22, x33, c1, c2, hx]; clear z; grind
    · simp only [List.length_cons, List.length_nil, Nat.reduceAdd, Nat.reduceMod, List.getElem_cons_zero, List.getElem_cons_succ]
      refine orient_nn ?_
      simp only [cr0l, cr0r, x21, x31, x32, x11, x22, x33, c1, c2, hx]; clear z; grind
    · simp only [List.length_cons, List.length_nil, Nat.reduceAdd, Nat.reduceMod, List.getElem_cons_zero, List.getElem_cons_succ]
      refine orient_nn ?_
      simp only [cr0l, cr0r, x21, x31, x32, x11, x22, x33, c1, c2, hx]; clear z; grind
    · simp only [List.length_cons, List.length_nil, Nat.reduceAdd, Nat.reduceMod, List.getElem_cons_zero, List.getElem_cons_succ]
      refine orient_nn ?_
      simp only [cr0l, cr0r, x21, x31, x32, x11, x22, x33, c1, c2, hx]; clear z; grind
  · refine (show 0 < PQ.orient (p.add ⟨0, 0⟩) (p.add f) (p.add t) from orient_pp ?_)
    simp only [cr0l, cr0r, x21, x31, x32, x11, x22, x33, c1, c2, hx]; clear z; grind
end Go.Proofs.YtgiheamjhoiojaaGreat
