import Derived.Test.YtgiheamjhoiojaaGreatPkMa
import Derived.Test.YtgiheamjhoiojaaGreatPkDa
import Derived.Test.YtgiheamjhoiojaaGreatPkPa
import Derived.Test.YtgiheamjhoiojaaGreatPkIa
namespace Go.Proofs.YtgiheamjhoiojaaGreat
open Go Go.Proofs
set_option linter.unusedSimpArgs false
set_option linter.unusedVariables false
set_option maxRecDepth 20000
def lowN (q : Rat) (k : Nat) : Nat := isq (flQ (q * ((2 ^ (2 * k) : Nat) : Rat)))
def lowQ (q : Rat) (k : Nat) : Rat := ((lowN q k : Nat) : Rat) / ((2 ^ k : Nat) : Rat)
theorem isq_le (n : Nat) : isq n ≤ n := by
  obtain ⟨h1, _⟩ := isq_spec n
  rcases Nat.eq_zero_or_pos (isq n) with h | h
  · omega
  · exact Nat.le_trans (Nat.le_mul_of_pos_right _ h) h1
theorem nl_powL {k L : Nat} (hk : k < 64 * L) : nl (2 ^ k) ≤ L := by
  refine nl_le ?_
  rw [pow64]
  exact Nat.pow_lt_pow_right (by omega) hk
theorem nl_pow {k : Nat} (hk : k ≤ 8192) : nl (2 ^ k) ≤ 129 := nl_powL (by omega)
theorem sz_nat (n : Nat) : sz (n : Rat) = max (nl n) 1 := by
  have := sz_int (n : Int)
  rw [Rat.intCast_natCast] at this
  simpa using this
theorem nl_fl (x : Rat) : nl (flQ x) ≤ sz x := Nat.le_trans (nl_mono (Nat.div_le_self _ _)) (sz_num x)
theorem nl_lowN {q : Rat} {k : Nat} (hk : k ≤ 4096) : nl (lowN q k) ≤ sz q + 130 := by
  unfold lowN
  have h1 := nl_mono (isq_le (flQ (q * ((2 ^ (2 * k) : Nat) : Rat))))
  have h2 := nl_fl (q * ((2 ^ (2 * k) : Nat) : Rat))
  have h3 := sz_mul q ((2 ^ (2 * k) : Nat) : Rat)
  have h4 := sz_nat (2 ^ (2 * k))
  have h5 := nl_pow (k := 2 * k) (by omega)
  omega
theorem sz_lowQ {q : Rat} {k : Nat} (hk : k ≤ 4096) : sz (lowQ q k) ≤ sz q + 260 := by
  unfold lowQ
  have h1 := nl_lowN (q := q) hk
  have h2 := sz_div ((lowN q k : Nat) : Rat) ((2 ^ k : Nat) : Rat)
  have h3 := sz_nat (lowN q k)
  have h4 := sz_nat (2 ^ k)
  have h5 := nl_pow (k := k) (by omega)
  omega
theorem wlow_inx (q : Rat) (k : Nat) (hk : k ≤ 4096) (h0 : 0 ≤ q) (hs : sz q ≤ 16000) (c : Int) :
    InX Tryz.prog 208 [.ptr 0 0 0, rA q] 2 [.agg [.int .i64 c, .int .i64 k]] fun r l' => r = nA (lims 18446744073709551616 (lowN q k)) ∧ l' = [.agg [.int .i64 c, .int .i64 k]] := by
  refine CA.of_go mixed Tryz.func208 rfl (rs := [.tmp 4]) rfl (by kernel_rfl) ?_
  obtain ⟨k2, hk2⟩ : ∃ k2, k2 = 2 * k := ⟨_, rfl⟩
  have e1 : IntKind.i64.wrap (2 * (k : Int)) = (k2 : Nat) := by rw [w64 (by omega)]; omega
  have h1 := power_pure k2 (by omega)
  have h2 := rwhole_pure (2 ^ k2)
  have h4 := sz_nat (2 ^ k2)
  have h5 := nl_pow (k := k2) (by omega)
  have h3 := rmulq q ((2 ^ k2 : Nat) : Rat) (by omega) (by omega)
  have h6 := sz_mul q ((2 ^ k2 : Nat) : Rat)
  have hnn : 0 ≤ q * ((2 ^ k2 : Nat) : Rat) := Rat.mul_nonneg h0 (by exact_mod_cast Nat.zero_le _)
  have h7 := rfloor_pure (q * ((2 ^ k2 : Nat) : Rat)) hnn (by omega)
  have h8 := nl_fl (q * ((2 ^ k2 : Nat) : Rat))
  have h9 := sqrt_pure (flQ (q * ((2 ^ k2 : Nat) : Rat))) (show nl _ ≤ 16384 by omega)
  unfold lowN
  rw [← hk2]
  generalize flQ (q * ((2 ^ k2 : Nat) : Rat)) = F at *
  generalize q * ((2 ^ k2 : Nat) : Rat) = qq at *
  generalize 2 ^ k2 = X at *
  simp only [zA_nat'] at h7
  simp only [rA_rC] at h2 h3 h7 ⊢
  simp -implicitDefEqProofs [go_sem, e1]
  refine goD_pure _ h1 (by simp -implicitDefEqProofs [go_sem]) ?_
  simp -implicitDefEqProofs [go_sem]
  refine goD_pure _ h2 (by simp -implicitDefEqProofs [go_sem]) ?_
  simp -implicitDefEqProofs [go_sem]
  refine goD_pure _ h3 (by simp -implicitDefEqProofs [go_sem, ro_rC]) ?_
  simp -implicitDefEqProofs [go_sem]
  refine goD_pure _ h7 (by simp -implicitDefEqProofs [go_sem, ro_rC]) ?_
  simp -implicitDefEqProofs [go_sem]
  refine goC_pure _ h9 (by simp -implicitDefEqProofs [go_sem]) ?_
  simp -implicitDefEqProofs [go_sem]
theorem pow2_ne (k : Nat) : 2 ^ k ≠ 0 := by have := Nat.pow_pos (n := k) (show 0 < 2 by omega); omega
theorem wpart_inx (m : Nat) (k : Nat) (hk : k ≤ 4096) (hm : nl m ≤ 17179869184) (c d : Int) (hd : IntKind.i64.wrap (c + 1) = d) :
    InX Tryz.prog 207 [.ptr 0 0 0, nA (lims 18446744073709551616 m)] 2 [.agg [.int .i64 c, .int .i64 k]] fun r l' => r = rA ((m : Rat) / ((2 ^ k : Nat) : Rat)) ∧ l' = [.agg [.int .i64 d, .int .i64 k]] := by
  refine CA.of_go mixed Tryz.func207 rfl (rs := [.cell 4 26]) rfl (by kernel_rfl) ?_
  have h1 := power_pure k (by omega)
  have h5 := nl_pow (k := k) (by omega)
  have h2 := make_pure (m : Int) ((2 ^ k : Nat) : Int) (by simp only [Int.natAbs_natCast]; omega) (by simp only [Int.natAbs_natCast]; omega)
  have hne := pow2_ne k
  generalize 2 ^ k = X at *
  rw [if_neg (by omega), Rat.intCast_natCast, Rat.intCast_natCast] at h2
  generalize (m : Rat) / (X : Rat) = r at *
  simp only [zA_nat'] at h2
  simp only [rA_rC] at h2 ⊢
  simp -implicitDefEqProofs [go_sem]
  refine counted (sz := 2) (rest := [.int .i64 k]) hd (by simp -implicitDefEqProofs [go_sem]) ?_
  simp -implicitDefEqProofs [go_sem]
  refine goC_pure _ h1 (by simp -implicitDefEqProofs [go_sem]) ?_
  simp -implicitDefEqProofs [go_sem]
  refine goC_pure _ h2 (by simp -implicitDefEqProofs [go_sem]) ?_
  simp -implicitDefEqProofs [go_sem, rop]
  exact ro_rC r
theorem lowQ_eq (q : Rat) (k : Nat) : lowQ q k = ((lowN q k : Nat) : Rat) / ((2 ^ k : Nat) : Rat) := rfl
theorem rlow_pure (q : Rat) (k : Nat) (hk : k ≤ 4096) (h0 : 0 ≤ q) (hs : sz q ≤ 16000) : Pure Tryz.prog 176 [rA q, .int .i64 k] (.tup [rA (lowQ q k), .int .i64 0]) := by
  have h1 := wlow_inx q k hk h0 hs 0
  have hn := nl_lowN (q := q) hk
  have h2 := wpart_inx (lowN q k) k hk (by omega) 0 1 rfl
  rw [← lowQ_eq] at h2
  have h3 := rsignq q (by omega)
  have h3' : ¬ sgnQ q < 0 := by
    intro h
    have := sgnQ_le (x := q)
    have hh := this.1 (by omega)
    have : q = 0 := Rat.le_antisymm hh h0
    subst this
    simp [sgnQ, sgnI] at h
  have hmay : Pure Tryz.prog 206 [rA q, .int .i64 k] (.int .i64 0) := by
    simp only [rA_rC] at h3 ⊢
    refine Pure.of_go mixed Tryz.func206 rfl (rs := [.tmp 4]) rfl (by kernel_rfl) (by simp -implicitDefEqProofs [go_sem]) ?_
    have n1 : ¬ (k : Int) < 0 := by omega
    have n2 : ¬ 4096 < (k : Int) := by omega
    simp -implicitDefEqProofs [go_sem, n1, n2, hk]
    refine goC_pure _ h3 (by simp -implicitDefEqProofs [go_sem, ro_rC]) ?_
    simp -implicitDefEqProofs [go_sem, h3']
  generalize lowQ q k = r at *
  generalize lims 18446744073709551616 (lowN q k) = L at *
  simp only [rA_rC] at *
  refine Pure.of_go mixed Tryz.func176 rfl (rs := [.cell 4 26, .tmp 5]) rfl (by kernel_rfl) (by simp -implicitDefEqProofs [go_sem, ro_rC]) ?_
  simp -implicitDefEqProofs [go_sem]
  refine goC_pure _ hmay (by simp -implicitDefEqProofs [go_sem, ro_rC]) ?_
  simp -implicitDefEqProofs [go_sem]
  refine goC_inx 2 h1 (by simp -implicitDefEqProofs [go_sem]) (by simp -implicitDefEqProofs [go_sem]) (by simp -implicitDefEqProofs [go_sem]) (by simp -implicitDefEqProofs [go_sem, ro_rC]) fun r0 l' ⟨q1, q2⟩ => ?_
  subst q1 q2
  simp -implicitDefEqProofs [go_sem]
  refine goC_inx 2 h2 (by simp -implicitDefEqProofs [go_sem]) (by simp -implicitDefEqProofs [go_sem]) (by simp -implicitDefEqProofs [go_sem]) (by simp -implicitDefEqProofs [go_sem]) fun r0 l' ⟨q1, q2⟩ => ?_
  subst q1 q2
  simp -implicitDefEqProofs [go_sem, rop]
def PQ.neg (p : PQ) : PQ := ⟨-p.x, -p.y⟩
def offQ (v : PQ) (h : Rat) (k : Nat) : PQ := v.rot.scale (lowQ (h * h / v.dot v) k)
def enough (n : PQ) (h tol : Rat) : Prop := 0 < n.dot n ∧ (h - tol ≤ 0 ∨ (h - tol) * (h - tol) ≤ n.dot n)
instance (n : PQ) (h tol : Rat) : Decidable (enough n h tol) := inferInstanceAs (Decidable (_ ∧ _))
def fitK (v : PQ) (h tol : Rat) : Nat → Nat → Option (PQ × Nat)
  | 0, _ => none
  | f + 1, k => if enough (offQ v h k) h tol then some (offQ v h k, k) else fitK v h tol f (k + 1)
def fitQ (v : PQ) (h tol : Rat) : Option (PQ × Nat) := fitK v h tol 4097 0
theorem fitK_some {v : PQ} {h tol : Rat} {n : PQ} {j : Nat} : ∀ f k, fitK v h tol f k = some (n, j) → n = offQ v h j ∧ enough n h tol ∧ k ≤ j ∧ j < k + f
  | 0, _, e => by simp [fitK] at e
  | f + 1, k, e => by
    unfold fitK at e
    split at e
    · rename_i he
      injection e with e
      injection e with e1 e2
      subst e1 e2
      exact ⟨rfl, he, by omega, by omega⟩
    · have := fitK_some f (k + 1) e
      exact ⟨this.1, this.2.1, by omega, by omega⟩
theorem dot_pos {v : PQ} (h : v ≠ ⟨0, 0⟩) : 0 < v.dot v := by
  have h1 := sq_nn v.x; have h2 := sq_nn v.y
  have : v.dot v ≠ 0 := fun h0 => h (by
    have := PQ.dot0 h0
    exact PQ.ext this.1 this.2)
  have : 0 ≤ v.dot v := by unfold PQ.dot; grind
  grind
def PR.cs (p : PR) : List AV := [.bool p.x.neg, nA p.x.p, nA p.x.q, .bool p.y.neg, nA p.y.p, nA p.y.q]
theorem PR.av_cs (p : PR) : p.av = .agg p.cs := rfl
theorem PR.ro_cs (p : PR) : roL p.cs := by unfold PR.cs; simp -implicitDefEqProofs [go_sem]
def prZ : PR := ⟨rQ0, rQ0⟩
theorem prZ_in {n : Nat} : prZ.In n := ⟨rQ0_in, rQ0_in⟩
theorem prZ_val : prZ.val = ⟨0, 0⟩ := by
  have : rQ0.val = 0 := by unfold RQ.val RQ.num rQ0; simp [lv_nil, sgn_zero, Rat.zero_mkRat]
  unfold PR.val prZ; rw [this]
theorem pZ_wk : Wk pZ prZ.av := by
  unfold pZ PR.av prZ rQ0
  exact Wk.agg (.cons (Wk.refl _) (.cons (Wk.nil 0 1 true) (.cons (Wk.nil 0 1 true) (.cons (Wk.refl _) (.cons (Wk.nil 0 1 true) (.cons (Wk.nil 0 1 true) .nil))))))
theorem psubz (p : PR) (hp : p.In 17179869184) : Pure Tryz.prog 26 [p.av, pZ] (pA p.val) := by
  have h := psub_pure p prZ hp prZ_in
  rw [prZ_val] at h
  have e : p.val.sub ⟨0, 0⟩ = p.val := PQ.ext (by unfold PQ.sub; simp only; grind) (by unfold PQ.sub; simp only; grind)
  rw [e] at h
  exact h.args (.cons (Wk.refl _) (.cons pZ_wk .nil))
theorem paddz (p : PR) (hp : p.In 17179869184) : Pure Tryz.prog 31 [p.av, pZ] (pA p.val) := by
  have h := padd_pure p prZ hp prZ_in
  rw [prZ_val] at h
  have e : p.val.add ⟨0, 0⟩ = p.val := PQ.ext (by unfold PQ.add; simp only; grind) (by unfold PQ.add; simp only; grind)
  rw [e] at h
  exact h.args (.cons (Wk.refl _) (.cons pZ_wk .nil))
theorem psamez (p : PR) (hp : p.In 17179869184) : Pure Tryz.prog 30 [p.av, pZ] (.bool (decide (p.val = ⟨0, 0⟩))) := by
  have h := psame_pure p prZ hp prZ_in
  rw [prZ_val] at h
  exact h.args (.cons (Wk.refl _) (.cons pZ_wk .nil))
theorem nought_pure (p : PR) (hp : p.In 17179869184) : Pure Tryz.prog 122 [p.av] (.bool (decide (p.val = ⟨0, 0⟩))) := by
  have h := psamez p hp
  unfold pZ at h
  rw [PR.av_cs] at *
  have hc : p.cs.length = 6 := rfl
  have hr := p.ro_cs
  have hc2 : p.cs.take 6 = p.cs := rfl
  have hc3 : p.cs.drop 6 = [] := rfl
  generalize p.cs = cs at *
  refine Pure.of_go mixed Tryz.func122 rfl (rs := [.tmp 2]) rfl (by kernel_rfl) (by simp -implicitDefEqProofs [go_sem]) ?_
  simp -implicitDefEqProofs [go_sem, hc, hc2, hc3]
  refine goC_pure _ h (by simp -implicitDefEqProofs [go_sem, hr]) ?_
  simp -implicitDefEqProofs [go_sem]
theorem left_pure (p : PR) (hp : p.In 4294967296) : Pure Tryz.prog 112 [p.av] (pA p.val.rot) := by
  have h1 := rneg_pure p.y hp.y.sm.ok
  have hsy : sz (-p.y.val) ≤ 4294967296 := by rw [sz_neg]; exact hp.y.sz
  have h2 := psubz ⟨qc (-p.y.val), p.x⟩ ⟨(qc_in hsy).mono, hp.x.mono⟩
  have e : PR.val ⟨qc (-p.y.val), p.x⟩ = p.val.rot := by unfold PR.val PQ.rot; simp only [qc_val]
  rw [e] at h2
  generalize -p.y.val = y at *
  generalize p.val.rot = r at *
  unfold pZ at h2
  refine Pure.of_go mixed Tryz.func112 rfl (rs := [.cell 2 28]) rfl (by kernel_rfl) (ro_pA _) ?_
  rw [rA_rC] at h1
  rw [pA_pC] at *
  unfold PR.av at *
  unfold RQ.av at h1
  simp -implicitDefEqProofs [go_sem]
  refine goD_pure _ h1 (by simp -implicitDefEqProofs [go_sem]) ?_
  unfold rC
  simp -implicitDefEqProofs [go_sem]
  refine goD_pure _ h2 (by simp -implicitDefEqProofs [go_sem]) ?_
  simp -implicitDefEqProofs [go_sem, rop]
theorem quo_nn {v : PQ} (h : Rat) : 0 ≤ h * h / v.dot v := by
  rw [Rat.div_def]
  rcases Classical.em (v.dot v = 0) with e | e
  · rw [e, Rat.inv_zero, Rat.mul_zero]; exact Rat.le_refl
  · have : 0 ≤ v.dot v := PQ.dot_nn v
    exact Rat.mul_nonneg (sq_nn h) (Rat.le_of_lt (Rat.inv_pos.2 (by grind)))
theorem dot_ne {v : PQ} (h : v ≠ ⟨0, 0⟩) : v.dot v ≠ 0 := fun h0 => h (by
  have := PQ.dot0 h0
  exact PQ.ext this.1 this.2)
theorem sz_quo {v : PQ} {h : Rat} : sz (h * h / v.dot v) ≤ 2 * sz h + 4 * v.sz + 1 := by
  have h1 := sz_mul h h
  have h2 := PQ.sz_dot v v
  have h3 := sz_div (h * h) (v.dot v)
  omega
theorem sz_off {v : PQ} {h : Rat} {k : Nat} (hk : k ≤ 4096) : (offQ v h k).sz ≤ 5 * v.sz + 2 * sz h + 261 := by
  unfold offQ
  have h1 := PQ.sz_scale v.rot (lowQ (h * h / v.dot v) k)
  have h2 := PQ.sz_rot v
  have h3 := sz_lowQ (q := h * h / v.dot v) hk
  have h4 := sz_quo (v := v) (h := h)
  omega
set_option maxHeartbeats 1000000 in
theorem at_inx (v : PR) (h : Rat) (k : Nat) (hk : k ≤ 4096) (hv : v.In 1000) (hne : v.val ≠ ⟨0, 0⟩) (hh : sz h ≤ 1000) (c d : Int) (hd : IntKind.i64.wrap (c + 1) = d) :
    InX Tryz.prog 123 [.ptr 0 0 0, .int .i64 k] 10 [.agg (.int .i64 c :: (v.cs ++ rC h))] fun r l' => r = .tup [pA (offQ v.val h k), .int .i64 0] ∧ l' = [.agg (.int .i64 d :: (v.cs ++ rC h))] := by
  refine CA.of_go mixed Tryz.func123 rfl (rs := [.cell 4 28, .tmp 5]) rfl (by kernel_rfl) ?_
  have hvs := hv.sz
  have h1 := rmulq h h (by omega) (by omega)
  have s1 := sz_mul h h
  have h2 := pdot_pure v v hv.mono hv.mono
  have s2 := PQ.sz_dot v.val v.val
  have h3 := rdivq (h * h) (v.val.dot v.val) (by omega) (by omega) (dot_ne hne)
  have s3 := sz_quo (v := v.val) (h := h)
  have h4 := rlow_pure (h * h / v.val.dot v.val) k hk (quo_nn h) (by omega)
  have s4 := sz_lowQ (q := h * h / v.val.dot v.val) hk
  have h5 := left_pure v hv.mono
  have s5 := PQ.sz_rot v.val
  have h6 := pscaleq v.val.rot (lowQ (h * h / v.val.dot v.val) k) (by omega) (by omega)
  unfold offQ
  generalize v.val.rot.scale (lowQ (h * h / v.val.dot v.val) k) = n at *
  generalize lowQ (h * h / v.val.dot v.val) k = r at *
  generalize h * h / v.val.dot v.val = q at *
  generalize v.val.dot v.val = vv at *
  generalize v.val.rot = rt at *
  generalize h * h = hh' at *
  have w1 : v.cs.length = 6 := rfl
  have w2 := v.ro_cs
  have w3 : ∀ l, (v.cs ++ l).take 6 = v.cs := fun l => by rw [List.take_append_of_le_length (by rw [w1]; omega)]; exact List.take_of_length_le (by rw [w1]; omega)
  have w4 : ∀ l, (v.cs ++ l).drop 6 = l := fun l => by rw [List.drop_append_of_le_length (by rw [w1]; omega), List.drop_of_length_le (by rw [w1]; omega)]; rfl
  have w5 : v.cs.take 6 = v.cs := List.take_of_length_le (by rw [w1]; omega)
  have w6 : v.cs.drop 6 = [] := List.drop_of_length_le (by rw [w1]; omega)
  simp only [PR.av_cs, rA_rC, pA_pC] at *
  generalize v.cs = cs at *
  simp -implicitDefEqProofs [go_sem, w1, w3, w4, w5, w6]
  refine counted (sz := 10) (rest := cs ++ rC h) hd (by simp -implicitDefEqProofs [go_sem]) ?_
  simp -implicitDefEqProofs [go_sem, w1, w3, w4, w5, w6]
  refine goD_pure _ h1 (by simp -implicitDefEqProofs [go_sem, ro_rC]) ?_
  simp -implicitDefEqProofs [go_sem, w1, w3, w4, w5, w6]
  refine goD_pure _ h2 (by simp -implicitDefEqProofs [go_sem, w2]) ?_
  simp -implicitDefEqProofs [go_sem, w1, w3, w4, w5, w6]
  refine goD_pure _ h3 (by simp -implicitDefEqProofs [go_sem, ro_rC]) ?_
  simp -implicitDefEqProofs [go_sem, w1, w3, w4, w5, w6]
  refine goC_pure _ h4 (by simp -implicitDefEqProofs [go_sem, ro_rC]) ?_
  simp -implicitDefEqProofs [go_sem, w1, w3, w4, w5, w6]
  refine goD_pure _ h5 (by simp -implicitDefEqProofs [go_sem, w2]) ?_
  simp -implicitDefEqProofs [go_sem, w1, w3, w4, w5, w6]
  refine goD_pure _ h6 (by simp -implicitDefEqProofs [go_sem, ro_pC, ro_rC]) ?_
  simp -implicitDefEqProofs [go_sem, rop, w2, ro_rC, ro_pC]
  exact roL_append.2 ⟨w2, ro_rC h⟩
theorem enough_iff {n : PQ} {h tol : Rat} : enough n h tol ↔ n ≠ ⟨0, 0⟩ ∧ (h - tol ≤ 0 ∨ (h - tol) * (h - tol) ≤ n.dot n) := by
  unfold enough
  refine ⟨fun ⟨a, b⟩ => ⟨fun e => ?_, b⟩, fun ⟨a, b⟩ => ⟨dot_pos a, b⟩⟩
  subst e
  have : PQ.dot ⟨0, 0⟩ ⟨0, 0⟩ = 0 := by unfold PQ.dot; grind
  rw [this] at a
  exact absurd a (by decide)
theorem fitK_step {v : PQ} {h tol : Rat} {k : Nat} (hk : k ≤ 4096) : fitK v h tol (4097 - k) k = if enough (offQ v h k) h tol then some (offQ v h k, k) else fitK v h tol (4097 - (k + 1)) (k + 1) := by
  rw [show 4097 - k = (4097 - (k + 1)) + 1 by omega]
  rfl
theorem cmpQ_ge {x y : Rat} : 0 ≤ cmpQ x y ↔ y ≤ x := by
  have := @cmpQ_lt x y
  constructor
  · intro h
    have : ¬ x < y := fun h2 => by have := this.2 h2; omega
    grind
  · intro h
    have : ¬ cmpQ x y < 0 := fun h2 => by have := this.1 h2; grind
    omega
def fitA (o : Option (PQ × Nat)) : AV := match o with
  | some (n, k) => .tup [pA n, .int .i64 k, .int .i64 0]
  | none => .tup [pZ, .int .i64 0, .int .i64 24]
theorem ro_pZ : ro pZ := by unfold pZ; simp -implicitDefEqProofs [go_sem]
theorem ro_fitA (o : Option (PQ × Nat)) : ro (fitA o) := by
  unfold fitA
  split
  · simp only [ro, roL]; exact ⟨ro_pA _, trivial, trivial, trivial⟩
  · simp only [ro, roL]; exact ⟨ro_pZ, trivial, trivial, trivial⟩
set_option maxHeartbeats 4000000 in
theorem fit_pure (v : PR) (h : Rat) (tol : RQ) (hv : v.In 1000) (hne : v.val ≠ ⟨0, 0⟩) (hh : sz h ≤ 1000) (h0 : 0 < h) (ht : tol.In 1000) (ht0 : 0 < tol.val) :
    Pure Tryz.prog 61 [v.av, rA h, tol.av] (fitA (fitQ v.val h tol.val)) := by
  refine Pure.of_ca (ro_fitA _) (CA.of_go mixed Tryz.func61 rfl (rs := [.cell 6 28, .tmp 7, .tmp 8]) rfl (by kernel_rfl) ?_)
  have hvs := hv.sz
  have hts := ht.sz
  have g1 := nought_pure v hv.mono
  have g2 := rsignq h (by omega)
  have g3 := rsign_pure tol ht.sm.ok
  have g4 := rsub_pure (qc h) tol (qc_sm (by omega)) ht.sm
  rw [qc_val] at g4
  change Pure _ _ [rA h, _] _ at g4
  have z2 : ¬ sgnQ h ≤ 0 := fun hh => absurd (sgnQ_le.1 hh) (by grind)
  have z3 : ¬ sgnQ tol.val ≤ 0 := fun hh => absurd (sgnQ_le.1 hh) (by grind)
  obtain ⟨le, hle⟩ : ∃ le, le = h - tol.val := ⟨_, rfl⟩
  have sle := sz_sub h tol.val
  have g5 := rsignq le (by rw [hle]; omega)
  have g6 := rmulq le le (by rw [hle]; omega) (by rw [hle]; omega)
  have s6 := sz_mul le le
  rw [← hle] at g4 sle
  have w1 : v.cs.length = 6 := rfl
  have w2 := v.ro_cs
  have w5 : v.cs.take 6 = v.cs := List.take_of_length_le (by rw [w1]; omega)
  have w6 : v.cs.drop 6 = [] := List.drop_of_length_le (by rw [w1]; omega)
  obtain ⟨ct, hct, t1, t2, t3, t4⟩ : ∃ ct, tol.av = .agg ct ∧ ct.length = 3 ∧ ct.take 3 = ct ∧ ct.drop 3 = [] ∧ roL ct := ⟨_, rfl, rfl, rfl, rfl, rq_cs_ro tol⟩
  have hat := fun (k : Nat) (hk : k ≤ 4096) => at_inx v h k hk hv hne hh k (k + 1 : Nat) (by rw [w64 (by omega)]; omega)
  rw [show decide (v.val = ⟨0, 0⟩) = false by simp [hne]] at g1
  simp only [PR.av_cs] at *
  generalize v.cs = cs at *
  rw [hct] at g3 g4 ⊢
  simp only [rA_rC] at g2 g4 g5 g6 ⊢
  have w7 : ∀ a b c, List.drop 9 (cs ++ [a, b, c]) = ([] : List AV) := fun a b c => List.drop_of_length_le (by simp [w1])
  simp -implicitDefEqProofs [go_sem, w1, w5, w6, t1, t2, t3]
  refine goC_pure _ g1 (by simp -implicitDefEqProofs [go_sem, w2]) ?_
  simp -implicitDefEqProofs [go_sem, w1, w5, w6, t1, t2, t3]
  refine goC_pure _ g2 (by simp -implicitDefEqProofs [go_sem, ro_rC]) ?_
  simp -implicitDefEqProofs [go_sem, w1, w5, w6, t1, t2, t3, z2]
  refine goC_pure _ g3 (by simp -implicitDefEqProofs [go_sem, t4]) ?_
  simp -implicitDefEqProofs [go_sem, w1, w5, w6, t1, t2, t3, z3]
  refine goC_pure _ g4 (by simp -implicitDefEqProofs [go_sem, ro_rC, t4]) ?_
  simp -implicitDefEqProofs [go_sem, w1, w5, w6, t1, t2, t3, w7]
  have rR := roL_append.2 ⟨w2, ro_rC h⟩
  have u1 := (renL_ro (nm []) _ w2).symm
  have u2 := cloL_ro (n := 6) _ w2
  refine go_loopN 6 (α := {k : Nat // k ≤ 4097 ∧ fitQ v.val h tol.val = fitK v.val h tol.val (4097 - k) k}) (fun k => [(6, .ptr 3 0 0), (9, .ptr 4 0 0), (10, .ptr 5 0 0), (35, .int .i64 k.1)])
    (fun k => [(3, .live 6 [pZ]), (4, .live 10 [.agg (.int .i64 k.1 :: (cs ++ rC h))]), (5, .live 3 [.agg (rC le)])]) (fun k => 4097 - k.1) ⟨0, by omega, rfl⟩ [] (by simp) (fun _ _ _ _ h => h) (by omega) (by simp -implicitDefEqProofs [go_sem]) (by simp -implicitDefEqProofs [go_sem, pZ]; exact ⟨u1, u2⟩) fun ⟨k, hk, hfk⟩ => ?_
  simp -implicitDefEqProofs [go_sem]
  refine ⟨fun h4 => ?_, fun h4 => ?_⟩
  · have hk' : k ≤ 4096 := by omega
    have ek : IntKind.i64.wrap ((k : Int) + 1) = (k + 1 : Nat) := by rw [w64 (by omega)]; omega
    have hfs := fitK_step (v := v.val) (h := h) (tol := tol.val) hk'
    have ha := hat k hk'
    have so := sz_off (v := v.val) (h := h) hk'
    have en := enough_iff (n := offQ v.val h k) (h := h) (tol := tol.val)
    rw [← hle] at en
    generalize offQ v.val h k = n at *
    have g7 := nought_pure (pc n) (pc_in (by omega))
    rw [pc_val] at g7
    change Pure _ _ [pA n] _ at g7
    have g8 := pdotq n n (by omega) (by omega)
    have s8 := PQ.sz_dot n n
    have g9 := rcmpq (n.dot n) (le * le) (by omega) (by omega)
    have z5 := sgnQ_le (x := le)
    have z9 := cmpQ_ge (x := n.dot n) (y := le * le)
    generalize cmpQ (n.dot n) (le * le) = cm at *
    generalize n.dot n = nn at *
    generalize le * le = ll at *
    simp only [rA_rC, pA_pC] at *
    refine goC_inx 4 ha (by simp -implicitDefEqProofs [go_sem]) (by simp -implicitDefEqProofs [go_sem]) (by simp -implicitDefEqProofs [go_sem]; exact rR) (by simp -implicitDefEqProofs [go_sem]) fun r0 l' ⟨q1, q2⟩ => ?_
    subst q1 q2
    simp -implicitDefEqProofs [go_sem]
    have again : ¬ enough n h tol.val → fitQ v.val h tol.val = fitK v.val h tol.val (4097 - (k + 1)) (k + 1) := fun hn => by rw [hfk, hfs, if_neg hn]
    have done : enough n h tol.val → fitA (fitQ v.val h tol.val) = .tup [.agg (pC n), .int .i64 k, .int .i64 0] := fun hn => by rw [hfk, hfs, if_pos hn]; rfl
    by_cases hn : n = ⟨0, 0⟩
    · rw [decide_eq_true hn] at g7
      refine goD_pure _ g7 (by simp -implicitDefEqProofs [go_sem, ro_pC]) ?_
      simp -implicitDefEqProofs [go_sem, ek]
      exact go_again ⟨k + 1, by omega, again (fun h => (en.1 h).1 hn)⟩ (by simp only; omega) [] (by simp) (fun _ _ _ _ h => h) (by simp) (by simp -implicitDefEqProofs [go_sem]) (by simp -implicitDefEqProofs [go_sem, pZ]; exact ⟨u1, u2⟩)
    · rw [decide_eq_false hn] at g7
      refine goD_pure _ g7 (by simp -implicitDefEqProofs [go_sem, ro_pC]) ?_
      simp -implicitDefEqProofs [go_sem]
      refine goD_pure _ g5 (by simp -implicitDefEqProofs [go_sem, ro_rC]) ?_
      by_cases hl : le ≤ 0
      · simp -implicitDefEqProofs [go_sem, z5.2 hl]
        rw [done (en.2 ⟨hn, .inl hl⟩)]
        simp -implicitDefEqProofs [go_sem, rop, ro_pC, pZ]
        exact Wk.refl _
      · have hl' : ¬ sgnQ le ≤ 0 := fun hh => hl (z5.1 hh)
        simp -implicitDefEqProofs [go_sem, hl']
        refine goD_pure _ g8 (by simp -implicitDefEqProofs [go_sem, ro_pC]) ?_
        simp -implicitDefEqProofs [go_sem]
        refine goD_pure _ g6 (by simp -implicitDefEqProofs [go_sem, ro_rC]) ?_
        simp -implicitDefEqProofs [go_sem]
        refine goD_pure _ g9 (by simp -implicitDefEqProofs [go_sem, ro_rC]) ?_
        by_cases hc : ll ≤ nn
        · simp -implicitDefEqProofs [go_sem, z9.2 hc]
          rw [done (en.2 ⟨hn, .inr hc⟩)]
          simp -implicitDefEqProofs [go_sem, rop, ro_pC, pZ]
          exact Wk.refl _
        · have hc' : ¬ 0 ≤ cm := fun hh => hc (z9.1 hh)
          simp -implicitDefEqProofs [go_sem, hc', ek]
          exact go_again ⟨k + 1, by omega, again (fun h => (en.1 h).2.elim hl hc)⟩ (by simp only; omega) [] (by simp) (fun _ _ _ _ h => h) (by simp) (by simp -implicitDefEqProofs [go_sem]) (by simp -implicitDefEqProofs [go_sem, pZ]; exact ⟨u1, u2⟩)
  · have hk' : k = 4097 := by omega
    subst hk'
    have : fitQ v.val h tol.val = none := hfk
    rw [this]
    simp -implicitDefEqProofs [go_sem, rop, pZ, fitA]
    exact Wk.refl _
theorem sz_abs (x : Rat) : sz x.abs ≤ sz x := by
  unfold Rat.abs
  split
  · exact Nat.le_refl _
  · rw [sz_neg]; exact Nat.le_refl _
set_option maxHeartbeats 8000000 in
theorem light18_pure (v : PR) (h tol : RQ) (hv : v.Lm) (hh : h.Lm) (ht : tol.Lm) : ∃ b : Bool, Pure Tryz.prog 90 [v.av, h.av, tol.av] (.bool b) ∧ (b = true → (v.x.sml 1 ∧ v.y.sml 1) ∧ h.sml 1 ∧ tol.sml 1) := by
  have s1 := smallpt_pure v 1
  have s2 := small_q h 1
  have s3 := small_q tol 1
  change Pure _ _ _ (.bool (decide (h.sml 1))) at s2
  change Pure _ _ _ (.bool (decide (tol.sml 1))) at s3
  rw [show ((1 : Nat) : Int) = 1 from rfl] at s1 s2 s3
  have c1 : v.cs.length = 6 := rfl
  have c4 := v.ro_cs
  have c2 : v.cs.take 6 = v.cs := rfl
  have c3 : v.cs.drop 6 = [] := rfl
  obtain ⟨ch, hch, d1, d2, d3, d4⟩ : ∃ ch, h.av = .agg ch ∧ ch.length = 3 ∧ ch.take 3 = ch ∧ ch.drop 3 = [] ∧ roL ch := ⟨_, rfl, rfl, rfl, rfl, rq_cs_ro h⟩
  obtain ⟨ct, hct, t1, t2, t3, t4⟩ : ∃ ct, tol.av = .agg ct ∧ ct.length = 3 ∧ ct.take 3 = ct ∧ ct.drop 3 = [] ∧ roL ct := ⟨_, rfl, rfl, rfl, rfl, rq_cs_ro tol⟩
  have f0 := fun (a : v.x.sml 1 ∧ v.y.sml 1) => ein_pure v ⟨(sml_in a.1 hv.1).mono, (sml_in a.2 hv.2).mono⟩
  have f1 := fun (a : h.sml 1) => finr h (sml_in a hh).mono
  have f2 := fun (a : tol.sml 1) => finr tol (sml_in a ht).mono
  simp only [PR.av_cs, hch, hct] at *
  by_cases a1 : v.x.sml 1 ∧ v.y.sml 1
  · by_cases a2 : h.sml 1
    · by_cases a3 : tol.sml 1
      · have zv : v.val.sz ≤ 1 := by
          have := (sml_in a1.1 hv.1).sz; have := (sml_in a1.2 hv.2).sz
          unfold PQ.sz PR.val; simp only; omega
        have zh := (sml_in a2 hh).sz
        have zt := (sml_in a3 ht).sz
        have g0 := f0 a1
        have g1 := f1 a2
        have g2 := f2 a3
        have k1 := edot_pure v.val v.val (by omega) (by omega)
        have k2 := fsign_pure (v.val.dot v.val)
        have k3 := fsign_pure h.val
        have k4 := fsign_pure tol.val
        have k5 := fof_pure 1 1048576 (by omega) (by omega) (by omega)
        have k6 := fof_pure 1048576 1 (by omega) (by omega) (by omega)
        have z5 := sz_frac (p := 1) (q := 1048576) (by omega) (by omega) (by omega)
        have z6 := sz_frac (p := 1048576) (q := 1) (by omega) (by omega) (by omega)
        generalize ((1 : Int) : Rat) / ((1048576 : Int) : Rat) = lo at *
        generalize ((1048576 : Int) : Rat) / ((1 : Int) : Rat) = hi at *
        have k7 := fabs_pure v.val.x
        have k8 := fabs_pure v.val.y
        have zx : sz v.val.x.abs ≤ 1 := Nat.le_trans (sz_abs _) (Nat.le_trans v.val.sz_x zv)
        have zy : sz v.val.y.abs ≤ 1 := Nat.le_trans (sz_abs _) (Nat.le_trans v.val.sz_y zv)
        have k9 := fmax_pure v.val.x.abs v.val.y.abs (by omega) (by omega)
        have zm : sz (if v.val.x.abs < v.val.y.abs then v.val.y.abs else v.val.x.abs) ≤ 1 := by split <;> omega
        generalize (if v.val.x.abs < v.val.y.abs then v.val.y.abs else v.val.x.abs) = far at *
        have m1 := fcmp_pure tol.val lo (by omega) (by omega)
        have m2 := fcmp_pure h.val hi (by omega) (by omega)
        have m3 := fcmp_pure h.val lo (by omega) (by omega)
        have m4 := fcmp_pure far hi (by omega) (by omega)
        have m5 := fcmp_pure far lo (by omega) (by omega)
        generalize cmpQ tol.val lo = b1 at *
        generalize cmpQ h.val hi = b2 at *
        generalize cmpQ h.val lo = b3 at *
        generalize cmpQ far hi = b4 at *
        generalize cmpQ far lo = b5 at *
        generalize sgnQ (v.val.dot v.val) = e1 at *
        generalize sgnQ h.val = e2 at *
        generalize sgnQ tol.val = e3 at *
        refine ⟨decide (e1 = 0) || decide (e2 ≤ 0) || decide (e3 ≤ 0) || (decide (0 ≤ b1) && decide (b2 ≤ 0) && decide (0 ≤ b3) && decide (b4 ≤ 0) && decide (0 ≤ b5)), ?_, fun _ => ⟨a1, a2, a3⟩⟩
        generalize v.val.dot v.val = vv at *
        simp only [eA_eC, fA_fC] at *
        have eP : eC v.val = fC v.val.x ++ fC v.val.y := rfl
        refine Pure.of_go mixed Tryz.func90 rfl (rs := [.tmp 6]) rfl (by kernel_rfl) (by simp -implicitDefEqProofs [go_sem]) ?_
        simp -implicitDefEqProofs [go_sem, c1, c2, c3, d1, d2, d3, t1, t2, t3]
        refine goC_pure _ s1 (by simp -implicitDefEqProofs [go_sem, c4]) ?_
        simp -implicitDefEqProofs [go_sem, a1, c1, c2, c3, d1, d2, d3, t1, t2, t3]
        refine goC_pure _ s2 (by simp -implicitDefEqProofs [go_sem, d4]) ?_
        simp -implicitDefEqProofs [go_sem, a2, c1, c2, c3, d1, d2, d3, t1, t2, t3]
        refine goC_pure _ s3 (by simp -implicitDefEqProofs [go_sem, t4]) ?_
        simp -implicitDefEqProofs [go_sem, a3, c1, c2, c3, d1, d2, d3, t1, t2, t3]
        refine goD_pure _ g0 (by simp -implicitDefEqProofs [go_sem, c4]) ?_
        simp -implicitDefEqProofs [go_sem, c1, c2, c3, d1, d2, d3, t1, t2, t3]
        refine goD_pure _ g1 (by simp -implicitDefEqProofs [go_sem, d4]) ?_
        simp -implicitDefEqProofs [go_sem, c1, c2, c3, d1, d2, d3, t1, t2, t3]
        refine goD_pure _ g2 (by simp -implicitDefEqProofs [go_sem, t4]) ?_
        simp -implicitDefEqProofs [go_sem, c1, c2, c3, d1, d2, d3, t1, t2, t3]
        refine goC_pure _ k1 (by simp -implicitDefEqProofs [go_sem, ro_eC]) ?_
        simp -implicitDefEqProofs [go_sem]
        refine goC_pure _ k2 (by simp -implicitDefEqProofs [go_sem, ro_fC]) ?_
        by_cases q1 : e1 = 0
        · simp -implicitDefEqProofs [go_sem, q1]
        · simp -implicitDefEqProofs [go_sem, q1]
          refine goC_pure _ k3 (by simp -implicitDefEqProofs [go_sem, ro_fC]) ?_
          by_cases q2 : e2 ≤ 0
          · simp -implicitDefEqProofs [go_sem, q2]
          · simp -implicitDefEqProofs [go_sem, q2]
            refine goC_pure _ k4 (by simp -implicitDefEqProofs [go_sem, ro_fC]) ?_
            by_cases q3 : e3 ≤ 0
            · simp -implicitDefEqProofs [go_sem, q3]
            · simp -implicitDefEqProofs [go_sem, q3]
              refine goC_pure _ k5 (by simp -implicitDefEqProofs [go_sem]) ?_
              simp -implicitDefEqProofs [go_sem]
              refine goC_pure _ k6 (by simp -implicitDefEqProofs [go_sem]) ?_
              simp -implicitDefEqProofs [go_sem, eP]
              refine goD_pure _ k7 (by simp -implicitDefEqProofs [go_sem, ro_fC]) ?_
              simp -implicitDefEqProofs [go_sem, eP]
              refine goD_pure _ k8 (by simp -implicitDefEqProofs [go_sem, ro_fC]) ?_
              simp -implicitDefEqProofs [go_sem]
              refine goD_pure _ k9 (by simp -implicitDefEqProofs [go_sem, ro_fC]) ?_
              simp -implicitDefEqProofs [go_sem]
              refine goC_pure _ m1 (by simp -implicitDefEqProofs [go_sem, ro_fC]) ?_
              by_cases w1 : 0 ≤ b1
              · simp -implicitDefEqProofs [go_sem, w1]
                refine goC_pure _ m2 (by simp -implicitDefEqProofs [go_sem, ro_fC]) ?_
                by_cases w2 : b2 ≤ 0
                · simp -implicitDefEqProofs [go_sem, w2]
                  refine goC_pure _ m3 (by simp -implicitDefEqProofs [go_sem, ro_fC]) ?_
                  by_cases w3 : 0 ≤ b3
                  · simp -implicitDefEqProofs [go_sem, w3]
                    refine goC_pure _ m4 (by simp -implicitDefEqProofs [go_sem, ro_fC]) ?_
                    by_cases w4 : b4 ≤ 0
                    · simp -implicitDefEqProofs [go_sem, w4]
                      refine goC_pure _ m5 (by simp -implicitDefEqProofs [go_sem, ro_fC]) ?_
                      simp -implicitDefEqProofs [go_sem]
                    · simp -implicitDefEqProofs [go_sem, w4]
                  · simp -implicitDefEqProofs [go_sem, w3]
                · simp -implicitDefEqProofs [go_sem, w2]
              · simp -implicitDefEqProofs [go_sem, w1]
      · refine ⟨false, ?_, fun h => by cases h⟩
        refine Pure.of_go mixed Tryz.func90 rfl (rs := [.tmp 6]) rfl (by kernel_rfl) (by simp -implicitDefEqProofs [go_sem]) ?_
        simp -implicitDefEqProofs [go_sem, c1, c2, c3, d1, d2, d3, t1, t2, t3]
        refine goC_pure _ s1 (by simp -implicitDefEqProofs [go_sem, c4]) ?_
        simp -implicitDefEqProofs [go_sem, a1, c1, c2, c3, d1, d2, d3, t1, t2, t3]
        refine goC_pure _ s2 (by simp -implicitDefEqProofs [go_sem, d4]) ?_
        simp -implicitDefEqProofs [go_sem, a2, c1, c2, c3, d1, d2, d3, t1, t2, t3]
        refine goC_pure _ s3 (by simp -implicitDefEqProofs [go_sem, t4]) ?_
        simp -implicitDefEqProofs [go_sem, a3]
    · refine ⟨false, ?_, fun h => by cases h⟩
      refine Pure.of_go mixed Tryz.func90 rfl (rs := [.tmp 6]) rfl (by kernel_rfl) (by simp -implicitDefEqProofs [go_sem]) ?_
      simp -implicitDefEqProofs [go_sem, c1, c2, c3, d1, d2, d3, t1, t2, t3]
      refine goC_pure _ s1 (by simp -implicitDefEqProofs [go_sem, c4]) ?_
      simp -implicitDefEqProofs [go_sem, a1, c1, c2, c3, d1, d2, d3, t1, t2, t3]
      refine goC_pure _ s2 (by simp -implicitDefEqProofs [go_sem, d4]) ?_
      simp -implicitDefEqProofs [go_sem, a2, c1, c2, c3, d1, d2, d3, t1, t2, t3]
  · refine ⟨false, ?_, fun h => by cases h⟩
    refine Pure.of_go mixed Tryz.func90 rfl (rs := [.tmp 6]) rfl (by kernel_rfl) (by simp -implicitDefEqProofs [go_sem]) ?_
    simp -implicitDefEqProofs [go_sem, c1, c2, c3, d1, d2, d3, t1, t2, t3]
    refine goC_pure _ s1 (by simp -implicitDefEqProofs [go_sem, c4]) ?_
    simp -implicitDefEqProofs [go_sem, a1]
structure SR where
  width : RQ
  miter : RQ
  cap : Int
  join : Int
  tol : RQ
def SR.cs (s : SR) : List AV := [.bool s.width.neg, nA s.width.p, nA s.width.q, .bool s.miter.neg, nA s.miter.p, nA s.miter.q, .int .i64 s.cap, .int .i64 s.join, .bool s.tol.neg, nA s.tol.p, nA s.tol.q]
def SR.av (s : SR) : AV := .agg s.cs
theorem SR.ro_cs (s : SR) : roL s.cs := by unfold SR.cs; simp -implicitDefEqProofs [go_sem]
def SR.h (s : SR) : Rat := s.width.val * half
structure SR.Lm (s : SR) : Prop where
  width : s.width.Lm
  miter : s.miter.Lm
  tol : s.tol.Lm
structure SR.Sml (s : SR) : Prop where
  width : s.width.In 1
  miter : s.miter.In 1
  tol : s.tol.In 1
  h : sz s.h ≤ 1
structure CR where
  p : PR
  u : PR
  v : PR
def CR.cs (c : CR) : List AV := c.p.cs ++ c.u.cs ++ c.v.cs
def CR.av (c : CR) : AV := .agg c.cs
structure CR.Lm (c : CR) : Prop where
  p : c.p.Lm
  u : c.u.Lm
  v : c.v.Lm
structure CR.Sml (c : CR) : Prop where
  p : c.p.In 1
  u : c.u.In 1
  v : c.v.In 1
theorem qc_lm (x : Rat) : (qc x).Lm := ⟨lim_lims (by omega) _, lim_lims (by omega) _⟩
set_option maxHeartbeats 8000000 in
theorem light20_pure (c : CR) (s : SR) (hc : c.Lm) (hs : s.Lm) : ∃ b : Bool, Pure Tryz.prog 40 [c.av, s.av] (.bool b) ∧ (b = true → c.Sml ∧ s.Sml) := by
  have s1 := smallpt_pure c.p 1
  have s2 := small_q s.miter 1
  have s3 := small_q s.width 1
  have s4 := small_q s.tol 1
  change Pure _ _ _ (.bool (decide (s.miter.sml 1))) at s2
  change Pure _ _ _ (.bool (decide (s.width.sml 1))) at s3
  change Pure _ _ _ (.bool (decide (s.tol.sml 1))) at s4
  rw [show ((1 : Nat) : Int) = 1 from rfl] at s1 s2 s3 s4
  have f1 := fun (a : s.width.sml 1) => finr s.width (sml_in a hs.width).mono
  have f2 := fof_pure 1 2 (by omega) (by omega) (by omega)
  rw [← half_eq] at f2
  have zh := sz_half
  obtain ⟨b1, l1, l1'⟩ := light18_pure c.u (qc s.h) s.tol hc.u (qc_lm _) hs.tol
  obtain ⟨b2, l2, l2'⟩ := light18_pure c.v (qc s.h) s.tol hc.v (qc_lm _) hs.tol
  have l3 := dlight_pure c.p (qc s.h) s.tol (qc_lm _) hs.tol
  change Pure _ _ [_, rA s.h, _] _ at l1 l2 l3
  generalize decide (LightD c.p (qc s.h) s.tol) = b3 at *
  by_cases a1 : c.p.x.sml 1 ∧ c.p.y.sml 1
  · by_cases a2 : s.miter.sml 1
    · by_cases a3 : s.width.sml 1
      · by_cases a4 : s.tol.sml 1
        · have g1 := f1 a3
          have zw := (sml_in a3 hs.width).sz
          have g2 := fmul_pure s.width.val half (by omega) (by omega)
          have sm := sz_mul s.width.val half
          change Pure _ _ _ (fA s.h) at g2
          change sz s.h ≤ _ at sm
          have g3 := fout_pure s.h (by omega)
          refine ⟨b1 && b2 && b3, ?_, fun hb => ?_⟩
          · simp only [fA_fC, rA_rC] at *
            unfold PR.av RQ.av at *
            refine Pure.of_go mixed Tryz.func40 rfl (rs := [.tmp 4]) rfl (by kernel_rfl) (by simp -implicitDefEqProofs [go_sem]) ?_
            unfold CR.av CR.cs SR.av SR.cs PR.cs
            simp -implicitDefEqProofs [go_sem]
            refine goC_pure _ s1 (by simp -implicitDefEqProofs [go_sem]) ?_
            simp -implicitDefEqProofs [go_sem, a1]
            refine goC_pure _ s2 (by simp -implicitDefEqProofs [go_sem]) ?_
            simp -implicitDefEqProofs [go_sem, a2]
            refine goC_pure _ s3 (by simp -implicitDefEqProofs [go_sem]) ?_
            simp -implicitDefEqProofs [go_sem, a3]
            refine goC_pure _ s4 (by simp -implicitDefEqProofs [go_sem]) ?_
            simp -implicitDefEqProofs [go_sem, a4]
            refine goC_pure _ g1 (by simp -implicitDefEqProofs [go_sem]) ?_
            simp -implicitDefEqProofs [go_sem]
            refine goC_pure _ f2 (by simp -implicitDefEqProofs [go_sem]) ?_
            simp -implicitDefEqProofs [go_sem]
            refine goC_pure _ g2 (by simp -implicitDefEqProofs [go_sem, ro_fC]) ?_
            simp -implicitDefEqProofs [go_sem]
            refine goC_pure _ g3 (by simp -implicitDefEqProofs [go_sem, ro_fC]) ?_
            simp -implicitDefEqProofs [go_sem]
            refine goC_pure _ l1 (by simp -implicitDefEqProofs [go_sem, ro_rC]) ?_
            cases b1
            · simp -implicitDefEqProofs [go_sem]
            · simp -implicitDefEqProofs [go_sem]
              refine goC_pure _ l2 (by simp -implicitDefEqProofs [go_sem, ro_rC]) ?_
              cases b2
              · simp -implicitDefEqProofs [go_sem]
              · simp -implicitDefEqProofs [go_sem]
                refine goC_pure _ l3 (by simp -implicitDefEqProofs [go_sem, ro_rC]) ?_
                simp -implicitDefEqProofs [go_sem]
          · simp only [Bool.and_eq_true] at hb
            obtain ⟨⟨q1, q2⟩, q3⟩ := hb
            obtain ⟨⟨r1, r2⟩, r3, r4⟩ := l1' q1
            obtain ⟨⟨r5, r6⟩, _, _⟩ := l2' q2
            have hz := (sml_in r3 (qc_lm _)).sz
            rw [qc_val] at hz
            exact ⟨⟨⟨sml_in a1.1 hc.p.1, sml_in a1.2 hc.p.2⟩, ⟨sml_in r1 hc.u.1, sml_in r2 hc.u.2⟩, ⟨sml_in r5 hc.v.1, sml_in r6 hc.v.2⟩⟩, ⟨sml_in a3 hs.width, sml_in a2 hs.miter, sml_in a4 hs.tol, hz⟩⟩
        · refine ⟨false, ?_, fun h => by cases h⟩
          unfold PR.av RQ.av at *
          refine Pure.of_go mixed Tryz.func40 rfl (rs := [.tmp 4]) rfl (by kernel_rfl) (by simp -implicitDefEqProofs [go_sem]) ?_
          unfold CR.av CR.cs SR.av SR.cs PR.cs
          simp -implicitDefEqProofs [go_sem]
          refine goC_pure _ s1 (by simp -implicitDefEqProofs [go_sem]) ?_
          simp -implicitDefEqProofs [go_sem, a1]
          refine goC_pure _ s2 (by simp -implicitDefEqProofs [go_sem]) ?_
          simp -implicitDefEqProofs [go_sem, a2]
          refine goC_pure _ s3 (by simp -implicitDefEqProofs [go_sem]) ?_
          simp -implicitDefEqProofs [go_sem, a3]
          refine goC_pure _ s4 (by simp -implicitDefEqProofs [go_sem]) ?_
          simp -implicitDefEqProofs [go_sem, a4]
      · refine ⟨false, ?_, fun h => by cases h⟩
        unfold PR.av RQ.av at *
        refine Pure.of_go mixed Tryz.func40 rfl (rs := [.tmp 4]) rfl (by kernel_rfl) (by simp -implicitDefEqProofs [go_sem]) ?_
        unfold CR.av CR.cs SR.av SR.cs PR.cs
        simp -implicitDefEqProofs [go_sem]
        refine goC_pure _ s1 (by simp -implicitDefEqProofs [go_sem]) ?_
        simp -implicitDefEqProofs [go_sem, a1]
        refine goC_pure _ s2 (by simp -implicitDefEqProofs [go_sem]) ?_
        simp -implicitDefEqProofs [go_sem, a2]
        refine goC_pure _ s3 (by simp -implicitDefEqProofs [go_sem]) ?_
        simp -implicitDefEqProofs [go_sem, a3]
    · refine ⟨false, ?_, fun h => by cases h⟩
      unfold PR.av RQ.av at *
      refine Pure.of_go mixed Tryz.func40 rfl (rs := [.tmp 4]) rfl (by kernel_rfl) (by simp -implicitDefEqProofs [go_sem]) ?_
      unfold CR.av CR.cs SR.av SR.cs PR.cs
      simp -implicitDefEqProofs [go_sem]
      refine goC_pure _ s1 (by simp -implicitDefEqProofs [go_sem]) ?_
      simp -implicitDefEqProofs [go_sem, a1]
      refine goC_pure _ s2 (by simp -implicitDefEqProofs [go_sem]) ?_
      simp -implicitDefEqProofs [go_sem, a2]
  · refine ⟨false, ?_, fun h => by cases h⟩
    unfold PR.av RQ.av at *
    refine Pure.of_go mixed Tryz.func40 rfl (rs := [.tmp 4]) rfl (by kernel_rfl) (by simp -implicitDefEqProofs [go_sem]) ?_
    unfold CR.av CR.cs SR.av SR.cs PR.cs
    simp -implicitDefEqProofs [go_sem]
    refine goC_pure _ s1 (by simp -implicitDefEqProofs [go_sem]) ?_
    simp -implicitDefEqProofs [go_sem, a1]
theorem half_pos : (0 : Rat) < half := by rw [half_eq]; grind
open Go.ChangeShapes Go.WideShapes Go.ChangeAt Go.RowKit
section
variable {H : Type} {enc : TypeId × Value → H} {w : World}
def qRat (l : List AV) : Prop := ∃ z : RQ, z.Lm ∧ l = z.cs
def qInt (l : List AV) : Prop := ∃ n, l = [.int .i64 n] ∧ (Lit.int .i64 n).wf = true
theorem opn_style : Opn enc Tryz.prog w 32 fun l => ∃ s : SR, s.Lm ∧ l = s.cs :=
  (opn_st [(26, 3, qRat), (26, 3, qRat), (3, 1, qInt), (3, 1, qInt), (26, 3, qRat)] (by kernel_rfl) (by kernel_rfl) (by kernel_rfl) (fun f hf => by
    simp only [List.mem_cons, List.not_mem_nil, or_false] at hf
    rcases hf with rfl | rfl | rfl | rfl | rfl
    · exact opn_rat
    · exact opn_rat
    · exact opn_int (k := .i64) (by kernel_rfl)
    · exact opn_int (k := .i64) (by kernel_rfl)
    · exact opn_rat)).mono fun l ⟨a, _, e1, ⟨x, hx, h1⟩, b, _, e2, ⟨y, hy, h2⟩, c, _, e3, ⟨n, h3, _⟩, d, _, e4, ⟨m, h4, _⟩, g, _, e5, ⟨z, hz, h5⟩, e6⟩ => ⟨⟨x, y, n, m, z⟩, ⟨hx, hy, hz⟩, by rw [e1, e2, e3, e4, e5, e6, h1, h2, h3, h4, h5]; rfl⟩
end
end Go.Proofs.YtgiheamjhoiojaaGreat
