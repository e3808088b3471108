/-
  Of the seat's texts, joined: RtE RsA RsB RsC RsD KpA PtA PtB HvA HvB HvC HvD HvE HvF RgA RgB LwA LwB LwC.
-/
import Derived.Test.YtmhnmaklgcppbaaGreatPkLa
import Derived.Test.YtmhnmaklgcppbaaGreatPkOa
import Derived.Test.YtmhnmaklgcppbaaGreatPkFb
namespace Go.Proofs.YtmhnmaklgcppbaaGreat
open Go Go.Proofs
set_option linter.unusedSimpArgs false
set_option linter.unusedVariables false
set_option maxRecDepth 20000

theorem nl_cross {x y : Rat} (hx : sz x ≤ 17179869184) (hy : sz y ≤ 17179869184) : nl (x.num * y.den + y.num * x.den).natAbs < 1099511627776 := by
  have := sz_num x; have := sz_num y; have := sz_den x; have := sz_den y
  have h1 := nl_mul x.num.natAbs y.den
  have h2 := nl_mul y.num.natAbs x.den
  have h4 : (x.num * y.den + y.num * x.den).natAbs ≤ x.num.natAbs * y.den + y.num.natAbs * x.den := by
    refine Nat.le_trans (Int.natAbs_add_le _ _) ?_
    rw [Int.natAbs_mul, Int.natAbs_mul]; simp
  have h5 := nl_mono h4
  have h6 := nl_add (x.num.natAbs * y.den) (y.num.natAbs * x.den)
  omega

theorem fill1_pure (x y : Rat) (hx : sz x ≤ 17179869184) (hy : sz y ≤ 17179869184) : Pure Tryz.prog 167 [rA x, rA y] (rA (x + y)) := by
  have := sz_num x; have := sz_num y; have := sz_den x; have := sz_den y
  have oa := over_rA x
  have ob := over_rA y
  have m1 := zmulc x.num y.den (by simp; omega)
  have m2 := zmulc y.num x.den (by simp; omega)
  have hs := zaddc (x.num * y.den) (y.num * x.den) (by
    have h1 := nl_mul x.num.natAbs y.den
    have h2 := nl_mul y.num.natAbs x.den
    rw [Int.natAbs_mul, Int.natAbs_mul]; simp; omega)
  have hd := nmulc x.den y.den (by omega)
  have hm := madec (x.num * y.den + y.num * x.den) (x.den * y.den) (nl_cross hx hy) (by have := nl_mul x.den y.den; omega) (den_mul_ne x y)
  rw [← add_mk] at hm
  generalize x + y = r at *
  generalize x.num * y.den + y.num * x.den = s at *
  generalize x.num * y.den = u at *
  generalize y.num * x.den = w at *
  generalize x.den * y.den = dd at *
  refine Pure.of_go mixed Tryz.func167 rfl (rs := [.cell 4 46]) rfl (by kernel_rfl) (ro_rA _) ?_
  rw [zA_nat] at oa ob m1 m2
  unfold rA RQ.av qc zA ZR.av zc at *
  simp only at *
  simp -implicitDefEqProofs [go_sem]
  refine goD_pure _ ob (by simp -implicitDefEqProofs [go_sem]) ?_
  simp -implicitDefEqProofs [go_sem]
  refine goD_pure _ m1 (by simp -implicitDefEqProofs [go_sem]) ?_
  simp -implicitDefEqProofs [go_sem]
  refine goD_pure _ oa (by simp -implicitDefEqProofs [go_sem]) ?_
  simp -implicitDefEqProofs [go_sem]
  refine goD_pure _ m2 (by simp -implicitDefEqProofs [go_sem]) ?_
  simp -implicitDefEqProofs [go_sem]
  refine goD_pure _ hs (by simp -implicitDefEqProofs [go_sem]) ?_
  simp -implicitDefEqProofs [go_sem]
  refine goD_pure _ hd (by simp -implicitDefEqProofs [go_sem]) ?_
  simp -implicitDefEqProofs [go_sem]
  refine goD_pure _ hm (by simp -implicitDefEqProofs [go_sem]) ?_
  simp -implicitDefEqProofs [go_sem, rop]

theorem fill3_pure (x y : Rat) (hx : sz x ≤ 17179869184) (hy : sz y ≤ 17179869184) : Pure Tryz.prog 169 [rA x, rA y] (rA (x * y)) := by
  have := sz_num x; have := sz_num y; have := sz_den x; have := sz_den y
  have m1 := zmulc x.num y.num (by omega)
  have hd := nmulc x.den y.den (by omega)
  have hm := madec (x.num * y.num) (x.den * y.den) (by have := nl_mul x.num.natAbs y.num.natAbs; rw [Int.natAbs_mul]; omega) (by have := nl_mul x.den y.den; omega) (den_mul_ne x y)
  rw [← mul_mk] at hm
  generalize x * y = r at *
  generalize x.num * y.num = u at *
  generalize x.den * y.den = dd at *
  refine Pure.of_go mixed Tryz.func169 rfl (rs := [.cell 4 46]) rfl (by kernel_rfl) (ro_rA _) ?_
  unfold rA RQ.av qc zA ZR.av zc at *
  simp only at *
  simp -implicitDefEqProofs [go_sem]
  refine goD_pure _ m1 (by simp -implicitDefEqProofs [go_sem]) ?_
  simp -implicitDefEqProofs [go_sem]
  refine goD_pure _ hd (by simp -implicitDefEqProofs [go_sem]) ?_
  simp -implicitDefEqProofs [go_sem]
  refine goD_pure _ hm (by simp -implicitDefEqProofs [go_sem]) ?_
  simp -implicitDefEqProofs [go_sem, rop]

theorem fill2_pure (x y : Rat) (hx : sz x ≤ 17179869184) (hy : sz y ≤ 17179869184) : Pure Tryz.prog 168 [rA x, rA y, .rp [.fn (.func 167) [] []]] (rA (x - y)) := by
  have hn := znegc y.num (by have := sz_num y; omega)
  have ha := fill1_pure x (-y) hx (by rw [sz_neg]; exact hy)
  rw [← Rat.sub_eq_add_neg] at ha
  generalize x - y = r at *
  refine Pure.of_go mixed Tryz.func168 rfl (rs := [.cell 5 46]) rfl (by kernel_rfl) (ro_rA _) ?_
  unfold rA RQ.av qc zA ZR.av zc at *
  rw [Rat.neg_num, Rat.neg_den] at ha
  simp only at *
  generalize -y.num = ny at *
  simp -implicitDefEqProofs [go_sem]
  refine goD_pure _ hn (by simp -implicitDefEqProofs [go_sem]) ?_
  simp -implicitDefEqProofs [go_sem]
  refine goD_pure _ ha (by simp -implicitDefEqProofs [go_sem]) ?_
  simp -implicitDefEqProofs [go_sem, rop]

@[go_sem] theorem lay_any (off : Nat) (v : AV) : (AV.any).lay off [v] = v := rfl
theorem do0_pure (a b : RQ) (ha : a.Sm) (hb : b.Sm) : Pure Tryz.prog 103 [.int .i64 0, a.av, b.av] (rA (a.val + b.val)) := by
  have ga := good_pure a ha.ok
  have gb := good_pure b hb.ok
  have hs := fill1_pure a.val b.val (sz_val ha) (sz_val hb)
  generalize a.val = x at *
  generalize b.val = y at *
  generalize x + y = r at *
  refine Pure.of_go mixed Tryz.func103 rfl (rs := [.cell 6 46]) rfl (by kernel_rfl) (ro_rA _) ?_
  unfold rA RQ.av qc at *
  simp only at *
  simp -implicitDefEqProofs [go_sem]
  refine once_do144 (sz := 4) (rest := [.int .u32 0, .sl 0 true []]) (by simp -implicitDefEqProofs [go_sem, once0]) ?_
  refine CA.of_go mixed Tryz.func144 rfl (rs := []) rfl (by kernel_rfl) ?_
  simp -implicitDefEqProofs [go_sem, onceL, once1]
  refine goD_pure _ ga (by simp -implicitDefEqProofs [go_sem]) ?_
  simp -implicitDefEqProofs [go_sem]
  refine goD_pure _ gb (by simp -implicitDefEqProofs [go_sem]) ?_
  simp -implicitDefEqProofs [go_sem]
  refine goD_pure _ hs (by simp -implicitDefEqProofs [go_sem]) ?_
  simp -implicitDefEqProofs [go_sem, rop]

theorem do1_pure (a b : RQ) (ha : a.Sm) (hb : b.Sm) : Pure Tryz.prog 103 [.int .i64 1, a.av, b.av] (rA (a.val - b.val)) := by
  have ga := good_pure a ha.ok
  have gb := good_pure b hb.ok
  have hs := fill2_pure a.val b.val (sz_val ha) (sz_val hb)
  generalize a.val = x at *
  generalize b.val = y at *
  generalize x - y = r at *
  refine Pure.of_go mixed Tryz.func103 rfl (rs := [.cell 6 46]) rfl (by kernel_rfl) (ro_rA _) ?_
  unfold rA RQ.av qc at *
  simp only at *
  simp -implicitDefEqProofs [go_sem]
  refine once_do144 (sz := 4) (rest := [.int .u32 0, .sl 0 true []]) (by simp -implicitDefEqProofs [go_sem, once0]) ?_
  refine CA.of_go mixed Tryz.func144 rfl (rs := []) rfl (by kernel_rfl) ?_
  simp -implicitDefEqProofs [go_sem, onceL, once1]
  refine goD_pure _ ga (by simp -implicitDefEqProofs [go_sem]) ?_
  simp -implicitDefEqProofs [go_sem]
  refine goD_pure _ gb (by simp -implicitDefEqProofs [go_sem]) ?_
  simp -implicitDefEqProofs [go_sem]
  refine goD_dead [4] _ (by kernel_rfl) hs (by simp -implicitDefEqProofs [go_sem]) (by simp -implicitDefEqProofs [go_sem]) (by simp -implicitDefEqProofs [go_sem]) (by simp -implicitDefEqProofs [go_sem]) ?_
  simp -implicitDefEqProofs [go_sem, rop]

theorem do2_pure (a b : RQ) (ha : a.Sm) (hb : b.Sm) : Pure Tryz.prog 103 [.int .i64 2, a.av, b.av] (rA (a.val * b.val)) := by
  have ga := good_pure a ha.ok
  have gb := good_pure b hb.ok
  have hs := fill3_pure a.val b.val (sz_val ha) (sz_val hb)
  generalize a.val = x at *
  generalize b.val = y at *
  generalize x * y = r at *
  refine Pure.of_go mixed Tryz.func103 rfl (rs := [.cell 6 46]) rfl (by kernel_rfl) (ro_rA _) ?_
  unfold rA RQ.av qc at *
  simp only at *
  simp -implicitDefEqProofs [go_sem]
  refine once_do144 (sz := 4) (rest := [.int .u32 0, .sl 0 true []]) (by simp -implicitDefEqProofs [go_sem, once0]) ?_
  refine CA.of_go mixed Tryz.func144 rfl (rs := []) rfl (by kernel_rfl) ?_
  simp -implicitDefEqProofs [go_sem, onceL, once1]
  refine goD_pure _ ga (by simp -implicitDefEqProofs [go_sem]) ?_
  simp -implicitDefEqProofs [go_sem]
  refine goD_pure _ gb (by simp -implicitDefEqProofs [go_sem]) ?_
  simp -implicitDefEqProofs [go_sem]
  refine goD_pure _ hs (by simp -implicitDefEqProofs [go_sem]) ?_
  simp -implicitDefEqProofs [go_sem, rop]

theorem radd_pure (a b : RQ) (ha : a.Sm) (hb : b.Sm) : Pure Tryz.prog 94 [a.av, b.av] (rA (a.val + b.val)) := by
  have h := do0_pure a b ha hb
  generalize a.val + b.val = r at *
  refine Pure.of_go mixed Tryz.func94 rfl (rs := [.cell 4 46]) rfl (by kernel_rfl) (ro_rA _) ?_
  unfold rA RQ.av qc at *
  simp only at *
  simp -implicitDefEqProofs [go_sem]
  refine goC_pure _ h (by simp -implicitDefEqProofs [go_sem]) ?_
  simp -implicitDefEqProofs [go_sem, rop]

theorem rsub_pure (a b : RQ) (ha : a.Sm) (hb : b.Sm) : Pure Tryz.prog 49 [a.av, b.av] (rA (a.val - b.val)) := by
  have h := do1_pure a b ha hb
  generalize a.val - b.val = r at *
  refine Pure.of_go mixed Tryz.func49 rfl (rs := [.cell 4 46]) rfl (by kernel_rfl) (ro_rA _) ?_
  unfold rA RQ.av qc at *
  simp only at *
  simp -implicitDefEqProofs [go_sem]
  refine goC_pure _ h (by simp -implicitDefEqProofs [go_sem]) ?_
  simp -implicitDefEqProofs [go_sem, rop]

theorem rmul_pure (a b : RQ) (ha : a.Sm) (hb : b.Sm) : Pure Tryz.prog 51 [a.av, b.av] (rA (a.val * b.val)) := by
  have h := do2_pure a b ha hb
  generalize a.val * b.val = r at *
  refine Pure.of_go mixed Tryz.func51 rfl (rs := [.cell 4 46]) rfl (by kernel_rfl) (ro_rA _) ?_
  unfold rA RQ.av qc at *
  simp only at *
  simp -implicitDefEqProofs [go_sem]
  refine goC_pure _ h (by simp -implicitDefEqProofs [go_sem]) ?_
  simp -implicitDefEqProofs [go_sem, rop]

end Go.Proofs.YtmhnmaklgcppbaaGreat
namespace Go.Proofs.YtmhnmaklgcppbaaGreat
open Go Go.Proofs
set_option linter.unusedSimpArgs false
set_option linter.unusedVariables false
set_option maxRecDepth 20000

/-- A whole number of the reference. -/
def iA (x : Int) : AV := .agg [.bool (decide (x < 0)), qA x.natAbs]
theorem ro_iA (x : Int) : ro (iA x) := by unfold iA qA; simp -implicitDefEqProofs [go_sem]
theorem nl32 (x : Nat) : (lims 4294967296 x).length ≤ 2 * nl x := by
  refine lims_len (by omega) ?_
  rw [pow32]; exact nl_lt
theorem fit32 {x : Nat} (h : nl x < 549755813888) : Len (lims 4294967296 x) := by
  unfold Len; have := nl32 x; omega
theorem iA_sgn (b : Bool) (x : Nat) : iA (sgn b x) = .agg [.bool (b && decide (0 < x)), qA x] := by
  unfold iA; simp only [sgn_abs, sgn_lt]
theorem nl32_pos {x : Nat} : decide (0 < (lims 4294967296 x).length) = decide (0 < x) := by
  congr 1
  rw [List.length_pos_iff, ne_eq, lims_nil_iff (by omega), Nat.pos_iff_ne_zero]

theorem imade_pure (neg : Bool) (n : Nat) : Pure Tryz.prog 129 [.bool neg, qA n] (iA (sgn neg n)) := by
  refine Pure.of_go mixed Tryz.func129 rfl (rs := [.cell 4 57]) rfl (by kernel_rfl) (ro_iA _) ?_
  rw [iA_sgn]
  have hp := nl32_pos (x := n)
  unfold qA at *
  simp -implicitDefEqProofs [go_sem, rop]
  refine ⟨fun h => by rw [hp, h]; rfl, fun h h2 => by rw [h] at h2; cases h2⟩

theorem iin_pure (z : ZR) (hz : z.Ok) : Pure Tryz.prog 78 [z.av] (iA z.val) := by
  obtain ⟨neg, n⟩ := z
  have h1 := in_pure n hz.len hz.lim
  have h2 := imade_pure neg (lv 18446744073709551616 n)
  unfold ZR.val
  simp only
  generalize sgn neg (lv 18446744073709551616 n) = y at *
  generalize lv 18446744073709551616 n = m at *
  refine Pure.of_go mixed Tryz.func78 rfl (rs := [.cell 2 57]) rfl (by kernel_rfl) (ro_iA _) ?_
  unfold ZR.av iA qA at *
  simp only
  simp -implicitDefEqProofs [go_sem]
  refine goD_pure _ h1 (by simp -implicitDefEqProofs [go_sem]) ?_
  simp -implicitDefEqProofs [go_sem]
  refine goD_pure _ h2 (by simp -implicitDefEqProofs [go_sem]) ?_
  simp -implicitDefEqProofs [go_sem, rop]

theorem iout_pure (x : Int) (h : nl x.natAbs < 549755813888) : Pure Tryz.prog 118 [iA x] (zA x) := by
  have h1 := out_pure x.natAbs (fit32 h)
  refine Pure.of_go mixed Tryz.func118 rfl (rs := [.cell 2 44]) rfl (by kernel_rfl) (ro_zA _) ?_
  unfold iA zA ZR.av zc qA at *
  simp -implicitDefEqProofs [go_sem]
  refine goD_pure _ h1 (by simp -implicitDefEqProofs [go_sem]) ?_
  simp -implicitDefEqProofs [go_sem, rop]

theorem iof_pure (v : Int) (h : -9223372036854775808 ≤ v ∧ v ≤ 9223372036854775807) : Pure Tryz.prog 113 [.int .i64 v] (iA v) := by
  refine Pure.of_go mixed Tryz.func113 rfl (rs := [.cell 2 57]) rfl (by kernel_rfl) (ro_iA _) ?_
  have hof := of32_pure v.natAbs (by omega)
  have h1 := imade_pure true v.natAbs
  have h2 := imade_pure false v.natAbs
  unfold qA at *
  simp -implicitDefEqProofs [go_sem]
  refine ⟨fun h0 => ?_, fun h0 => ?_⟩
  · have e1 : IntKind.u64.wrap (IntKind.u64.wrap (IntKind.i64.wrap (-IntKind.i64.wrap (v + 1))) + 1) = (v.natAbs : Nat) := by
      rw [w64 (x := v + 1) (by omega), w64 (by omega), wu64 (x := -(v + 1)) (by omega), wu64 (by omega)]; omega
    rw [e1]
    have e2 : sgn true v.natAbs = v := by unfold sgn; simp only [if_true]; omega
    rw [e2] at h1
    refine goC_pure _ hof (by simp -implicitDefEqProofs [go_sem]) ?_
    simp -implicitDefEqProofs [go_sem]
    refine goC_pure _ h1 (by simp -implicitDefEqProofs [go_sem]) ?_
    simp -implicitDefEqProofs [go_sem, rop, iA, qA]
  · have e1 : IntKind.u64.wrap v = (v.natAbs : Nat) := by rw [wu64 (by omega)]; omega
    rw [e1]
    have e2 : sgn false v.natAbs = v := by unfold sgn; simp only [Bool.false_eq_true, if_false]; omega
    rw [e2] at h2
    refine goC_pure _ hof (by simp -implicitDefEqProofs [go_sem]) ?_
    simp -implicitDefEqProofs [go_sem]
    refine goC_pure _ h2 (by simp -implicitDefEqProofs [go_sem]) ?_
    simp -implicitDefEqProofs [go_sem, rop, iA, qA]

theorem iminus_pure (x : Int) : Pure Tryz.prog 133 [iA x] (iA (-x)) := by
  have hm := imade_pure (!(decide (x < 0))) x.natAbs
  rw [sgn_not, sgn_dec] at hm
  generalize -x = y at *
  refine Pure.of_go mixed Tryz.func133 rfl (rs := [.cell 2 57]) rfl (by kernel_rfl) (ro_iA _) ?_
  unfold iA qA at *
  generalize hb : decide (x < 0) = b at *
  simp -implicitDefEqProofs [go_sem]
  refine goC_pure _ hm (by simp -implicitDefEqProofs [go_sem]) ?_
  simp -implicitDefEqProofs [go_sem, rop]

theorem isign_pure (x : Int) : Pure Tryz.prog 81 [iA x] (.int .i64 (sgnI x)) := by
  refine Pure.of_go mixed Tryz.func81 rfl (rs := [.tmp 2]) rfl (by kernel_rfl) (by simp -implicitDefEqProofs [go_sem]) ?_
  unfold iA qA
  have hp : lims 4294967296 x.natAbs = [] ↔ x = 0 := by rw [lims_nil_iff (by omega)]; omega
  unfold sgnI
  by_cases h0 : x = 0
  · have := hp.2 h0
    simp -implicitDefEqProofs [go_sem, h0, this]
    exact lims_zero
  · have h1 : ¬ lims 4294967296 x.natAbs = [] := fun h => h0 (hp.1 h)
    by_cases h2 : x < 0
    · simp -implicitDefEqProofs [go_sem, h0, h1, h2]
    · simp -implicitDefEqProofs [go_sem, h0, h1, h2]

theorem imul_pure (x y : Int) (hx : nl x.natAbs < 549755813888) (hy : nl y.natAbs < 549755813888) : Pure Tryz.prog 111 [iA x, iA y] (iA (x * y)) := by
  have h1 := mul32_pure x.natAbs y.natAbs (fit32 hx) (fit32 hy)
  have hm := imade_pure (decide (x < 0) != decide (y < 0)) (x.natAbs * y.natAbs)
  rw [sgn_mul, sgn_dec, sgn_dec] at hm
  refine Pure.of_go mixed Tryz.func111 rfl (rs := [.cell 4 57]) rfl (by kernel_rfl) (ro_iA _) ?_
  generalize x * y = z at *
  generalize x.natAbs * y.natAbs = xy at *
  unfold iA qA at *
  generalize decide (x < 0) = bx at *
  generalize decide (y < 0) = by' at *
  simp -implicitDefEqProofs [go_sem]
  refine goD_pure _ h1 (by simp -implicitDefEqProofs [go_sem]) ?_
  simp -implicitDefEqProofs [go_sem]
  refine goD_pure _ (show Pure Tryz.prog 129 [.bool (!(bx == by')), mA (lims 4294967296 xy)] _ from hm) (by simp -implicitDefEqProofs [go_sem]) ?_
  simp -implicitDefEqProofs [go_sem, rop]

set_option maxHeartbeats 1000000 in
theorem iadd_pure (x y : Int) (hx : nl x.natAbs < 549755813888) (hy : nl y.natAbs < 549755813888) : Pure Tryz.prog 134 [iA x, iA y] (iA (x + y)) := by
  have fx := fit32 hx
  have fy := fit32 hy
  have hadd := add32_pure x.natAbs y.natAbs fx fy
  have hcmp := cmp32_pure x.natAbs y.natAbs fx.x fy.x
  have hsub1 := fun h => sub32_pure x.natAbs y.natAbs fx fy h
  have hsub2 := fun h => sub32_pure y.natAbs x.natAbs fy fx h
  have hmk := imade_pure
  refine Pure.of_go mixed Tryz.func134 rfl (rs := [.cell 4 57]) rfl (by kernel_rfl) (ro_iA _) ?_
  rcases Decidable.em (x < 0 ↔ y < 0) with h | h
  · have hm := hmk (decide (x < 0)) (x.natAbs + y.natAbs)
    rw [show sgn (decide (x < 0)) (x.natAbs + y.natAbs) = x + y by unfold sgn; simp only [decide_eq_true_eq]; split <;> omega] at hm
    generalize x + y = z at *
    generalize x.natAbs + y.natAbs = s at *
    unfold iA qA at *
    simp -implicitDefEqProofs [go_sem, h]
    refine goD_pure _ hadd (by simp -implicitDefEqProofs [go_sem]) ?_
    simp -implicitDefEqProofs [go_sem, h]
    simp only [h] at hm
    refine goD_pure _ hm (by simp -implicitDefEqProofs [go_sem]) ?_
    simp -implicitDefEqProofs [go_sem, rop]
  · rcases Nat.lt_or_ge x.natAbs y.natAbs with h1 | h1
    · have hc : ¬ 0 ≤ cmpI x.natAbs y.natAbs := by rw [cmpI_lt (by omega)]; omega
      have hm := hmk (decide (y < 0)) (y.natAbs - x.natAbs)
      rw [show sgn (decide (y < 0)) (y.natAbs - x.natAbs) = x + y by unfold sgn; simp only [decide_eq_true_eq]; split <;> omega] at hm
      have hs := hsub2 (by omega)
      clear hsub1 hsub2 hadd hmk
      generalize x + y = z at *
      generalize y.natAbs - x.natAbs = s at *
      generalize cmpI x.natAbs y.natAbs = c at *
      unfold iA qA at *
      simp -implicitDefEqProofs [go_sem, h]
      refine goC_pure _ hcmp (by simp -implicitDefEqProofs [go_sem]) ?_
      simp -implicitDefEqProofs [go_sem, hc]
      refine goD_pure _ hs (by simp -implicitDefEqProofs [go_sem]) ?_
      simp -implicitDefEqProofs [go_sem]
      refine goD_pure _ hm (by simp -implicitDefEqProofs [go_sem]) ?_
      simp -implicitDefEqProofs [go_sem, rop]
    · have hc : 0 ≤ cmpI x.natAbs y.natAbs := by
        rcases Nat.lt_or_ge y.natAbs x.natAbs with h | h
        · rw [cmpI_gt (by omega)]; omega
        · rw [show x.natAbs = y.natAbs by omega, cmpI_eq]; omega
      have hm := hmk (decide (x < 0)) (x.natAbs - y.natAbs)
      rw [show sgn (decide (x < 0)) (x.natAbs - y.natAbs) = x + y by unfold sgn; simp only [decide_eq_true_eq]; split <;> omega] at hm
      have hs := hsub1 h1
      clear hsub1 hsub2 hadd hmk
      generalize x + y = z at *
      generalize x.natAbs - y.natAbs = s at *
      generalize cmpI x.natAbs y.natAbs = c at *
      unfold iA qA at *
      simp -implicitDefEqProofs [go_sem, h]
      refine goC_pure _ hcmp (by simp -implicitDefEqProofs [go_sem]) ?_
      simp -implicitDefEqProofs [go_sem, hc]
      refine goD_pure _ hs (by simp -implicitDefEqProofs [go_sem]) ?_
      simp -implicitDefEqProofs [go_sem]
      refine goD_pure _ hm (by simp -implicitDefEqProofs [go_sem]) ?_
      simp -implicitDefEqProofs [go_sem, rop]

theorem isub_pure (x y : Int) (hx : nl x.natAbs < 549755813888) (hy : nl y.natAbs < 549755813888) : Pure Tryz.prog 147 [iA x, iA y] (iA (x - y)) := by
  have hn := iminus_pure y
  have ha := iadd_pure x (-y) hx (by rw [Int.natAbs_neg]; exact hy)
  rw [← Int.sub_eq_add_neg] at ha
  generalize x - y = z at *
  generalize -y = w at *
  refine Pure.of_go mixed Tryz.func147 rfl (rs := [.cell 4 57]) rfl (by kernel_rfl) (ro_iA _) ?_
  unfold iA qA at *
  simp -implicitDefEqProofs [go_sem]
  refine goD_pure _ hn (by simp -implicitDefEqProofs [go_sem]) ?_
  simp -implicitDefEqProofs [go_sem]
  refine goD_pure _ ha (by simp -implicitDefEqProofs [go_sem]) ?_
  simp -implicitDefEqProofs [go_sem, rop]

theorem icmp_pure (x y : Int) (hx : nl x.natAbs < 549755813888) (hy : nl y.natAbs < 549755813888) : Pure Tryz.prog 110 [iA x, iA y] (.int .i64 (cmpI x y)) := by
  have hs := isub_pure x y hx hy
  have hg := isign_pure (x - y)
  rw [sgnI_sub] at hg
  generalize x - y = z at *
  generalize cmpI x y = c at *
  refine Pure.of_go mixed Tryz.func110 rfl (rs := [.tmp 4]) rfl (by kernel_rfl) (by simp -implicitDefEqProofs [go_sem]) ?_
  unfold iA qA at *
  simp -implicitDefEqProofs [go_sem]
  refine goC_pure _ hs (by simp -implicitDefEqProofs [go_sem]) ?_
  simp -implicitDefEqProofs [go_sem]
  refine goC_pure _ hg (by simp -implicitDefEqProofs [go_sem]) ?_
  simp -implicitDefEqProofs [go_sem]
end Go.Proofs.YtmhnmaklgcppbaaGreat
namespace Go.Proofs.YtmhnmaklgcppbaaGreat
open Go Go.Proofs
set_option linter.unusedSimpArgs false
set_option linter.unusedVariables false
set_option maxRecDepth 20000

@[go_sem] theorem getE_zero (a : AV) (l : List AV) : getE (a :: l) 0 = a := rfl
/-- A fraction of the reference. -/
def fA (x : Rat) : AV := .agg [.bool (decide (x.num < 0)), qA x.num.natAbs, qA x.den]
theorem ro_fA (x : Rat) : ro (fA x) := by unfold fA qA; simp -implicitDefEqProofs [go_sem]

set_option maxHeartbeats 1000000 in
theorem fmade_pure (p : Int) (q : Nat) (hp : nl p.natAbs < 549755813888) (hq : nl q < 549755813888) (h0 : q ≠ 0) : Pure Tryz.prog 77 [iA p, qA q] (fA (mkRat p q)) := by
  have hg := gcd32_pure p.natAbs q (fit32 hp) (fit32 hq)
  obtain ⟨g, hgg⟩ : ∃ g, g = Nat.gcd p.natAbs q := ⟨_, rfl⟩
  have hg0 : g ≠ 0 := by rw [hgg]; exact Nat.gcd_ne_zero_right h0
  have hgl : g ≤ q := by rw [hgg]; exact Nat.le_of_dvd (Nat.pos_iff_ne_zero.2 h0) (Nat.gcd_dvd_right _ _)
  have hgf : Len (lims 4294967296 g) := fit32 (Nat.lt_of_le_of_lt (nl_mono hgl) hq)
  have hd1 := divmod32_pure p.natAbs g (fit32 hp) hgf (by omega)
  have hd2 := divmod32_pure q g (fit32 hq) hgf (by omega)
  have hgp : g ∣ p.natAbs := by rw [hgg]; exact Nat.gcd_dvd_left _ _
  have hn : (mkRat p q).num = sgn (decide (p < 0)) (p.natAbs / g) := by
    rw [mk_num _ h0, ← hgg, sgn_div _ hgp, sgn_dec]
  have hdn : (mkRat p q).den = q / g := by rw [mk_den _ h0, ← hgg]
  have hneg : decide (sgn (decide (p < 0)) (p.natAbs / g) < 0) = decide (p < 0) := by
    rw [sgn_lt]
    by_cases h : p < 0
    · have : 0 < p.natAbs / g := Nat.div_pos (Nat.le_of_dvd (by omega) hgp) (by omega)
      simp [h, this]
    · simp [h]
  rw [← hgg] at hg
  refine Pure.of_go mixed Tryz.func77 rfl (rs := [.cell 4 59]) rfl (by kernel_rfl) (ro_fA _) ?_
  unfold fA
  rw [hn, hdn, hneg, sgn_abs]
  clear hn hdn hneg
  by_cases h1 : g = 1
  · rw [h1, Nat.div_one, Nat.div_one]
    rw [h1] at hg
    clear hd1 hd2
    unfold iA qA at *
    rw [lims_small (B := 4294967296) (n := 1) (by omega) (by omega) (by omega)] at hg
    generalize lims 4294967296 p.natAbs = P at *
    generalize lims 4294967296 q = Q at *
    simp -implicitDefEqProofs [go_sem]
    refine goC_pure _ hg (by simp -implicitDefEqProofs [go_sem]) ?_
    simp -implicitDefEqProofs [go_sem, rop]
  · generalize p.natAbs / g = pg at *
    generalize p.natAbs % g = pr at *
    generalize q / g = qg at *
    generalize q % g = qr at *
    unfold iA qA at *
    by_cases h2 : g < 4294967296
    · rw [lims_small (B := 4294967296) (by omega) hg0 h2] at hg hd1 hd2
      clear hgf hgl hgp hgg
      have h1i : ¬ (g : Int) = 1 := by omega
      simp -implicitDefEqProofs [go_sem]
      refine goC_pure _ hg (by simp -implicitDefEqProofs [go_sem]) ?_
      simp -implicitDefEqProofs [go_sem, h1i]
      refine goD_pure _ hd1 (by simp -implicitDefEqProofs [go_sem]) ?_
      simp -implicitDefEqProofs [go_sem]
      refine goD_pure _ hd2 (by simp -implicitDefEqProofs [go_sem]) ?_
      simp -implicitDefEqProofs [go_sem, rop]
    · have hlen : ¬ (lims 4294967296 g).length = 1 := fun h => by
        have h3 := lv_lt (lim_lims (B := 4294967296) (by omega) g)
        rw [h, lv_lims (by omega)] at h3
        exact h2 (by simpa using h3)
      have hne : ¬ lims 4294967296 g = [] := fun h => hg0 ((lims_nil_iff (by omega)).1 h)
      generalize lims 4294967296 g = G at *
      have hlen2 : ¬ (G.length : Int) = 1 := by omega
      simp -implicitDefEqProofs [go_sem]
      refine goC_pure _ hg (by simp -implicitDefEqProofs [go_sem]) ?_
      simp -implicitDefEqProofs [go_sem, hlen2, hne]
      refine goD_pure _ hd1 (by simp -implicitDefEqProofs [go_sem]) ?_
      simp -implicitDefEqProofs [go_sem]
      refine goD_pure _ hd2 (by simp -implicitDefEqProofs [go_sem]) ?_
      simp -implicitDefEqProofs [go_sem, rop]

theorem fin_pure (z : RQ) (hz : z.Ok) (hp : nl z.num.natAbs < 549755813888) (hq : nl z.den < 549755813888) : Pure Tryz.prog 29 [z.av] (fA z.val) := by
  have h1 := in_pure z.q hz.lenq hz.limq
  have h2 := iin_pure ⟨z.neg, z.p⟩ ⟨hz.lenp, hz.limp⟩
  have h3 := of32_pure 1 (by omega)
  have hm := fmade_pure z.num z.den hp hq z.den_ne
  change Pure _ _ _ (iA z.num) at h2
  change Pure _ _ _ (fA z.val) at hm
  have hd : z.den = if lv 18446744073709551616 z.q = 0 then 1 else lv 18446744073709551616 z.q := rfl
  generalize z.val = v at *
  generalize z.num = n at *
  generalize z.den = d at *
  refine Pure.of_go mixed Tryz.func29 rfl (rs := [.cell 2 59]) rfl (by kernel_rfl) (ro_fA _) ?_
  unfold RQ.av ZR.av fA iA qA at *
  simp only at *
  by_cases h0 : lv 18446744073709551616 z.q = 0
  · rw [if_pos h0] at hd
    subst hd
    rw [h0, lims_zero] at h1
    generalize lims 4294967296 1 = o at *
    simp -implicitDefEqProofs [go_sem]
    refine goC_pure _ h1 (by simp -implicitDefEqProofs [go_sem]) ?_
    simp -implicitDefEqProofs [go_sem]
    refine goC_pure _ h3 (by simp -implicitDefEqProofs [go_sem]) ?_
    simp -implicitDefEqProofs [go_sem]
    refine goC_pure _ h2 (by simp -implicitDefEqProofs [go_sem]) ?_
    simp -implicitDefEqProofs [go_sem]
    refine goC_pure _ hm (by simp -implicitDefEqProofs [go_sem]) ?_
    simp -implicitDefEqProofs [go_sem, rop]
  · rw [if_neg h0] at hd
    have hne : ¬ lims 4294967296 d = [] := fun h => h0 (by rw [← hd]; exact (lims_nil_iff (by omega)).1 h)
    rw [← hd] at h1
    generalize lims 4294967296 d = D at *
    simp -implicitDefEqProofs [go_sem]
    refine goC_pure _ h1 (by simp -implicitDefEqProofs [go_sem]) ?_
    simp -implicitDefEqProofs [go_sem, hne]
    refine goC_pure _ h2 (by simp -implicitDefEqProofs [go_sem]) ?_
    simp -implicitDefEqProofs [go_sem]
    refine goC_pure _ hm (by simp -implicitDefEqProofs [go_sem]) ?_
    simp -implicitDefEqProofs [go_sem, rop]

theorem fout_pure (x : Rat) (h : sz x < 549755813888) : Pure Tryz.prog 69 [fA x] (rA x) := by
  have := sz_num x; have := sz_den x
  have h1 := iout_pure x.num (by omega)
  have h2 := out_pure x.den (fit32 (by omega))
  have hne : ¬ lims 18446744073709551616 x.den = [] := fun h => x.den_nz ((lims_nil_iff (by omega)).1 h)
  refine Pure.of_go mixed Tryz.func69 rfl (rs := [.cell 2 46]) rfl (by kernel_rfl) (ro_rA _) ?_
  unfold rA RQ.av qc fA iA zA ZR.av zc qA at *
  simp only at *
  generalize lims 18446744073709551616 x.den = D at *
  simp -implicitDefEqProofs [go_sem]
  refine goC_pure _ h2 (by simp -implicitDefEqProofs [go_sem]) ?_
  simp -implicitDefEqProofs [go_sem, hne]
  refine goC_pure _ h1 (by simp -implicitDefEqProofs [go_sem]) ?_
  simp -implicitDefEqProofs [go_sem, rop]

theorem fden_pure (x : Rat) : Pure Tryz.prog 112 [fA x] (iA (x.den : Int)) := by
  have hne : ¬ lims 4294967296 x.den = [] := fun h => x.den_nz ((lims_nil_iff (by omega)).1 h)
  have hi : iA (x.den : Int) = .agg [.bool false, qA x.den] := by
    unfold iA
    have h : decide ((x.den : Int) < 0) = false := by simp
    rw [h]; rfl
  rw [hi]
  refine Pure.of_go mixed Tryz.func112 rfl (rs := [.cell 2 57]) rfl (by kernel_rfl) (by simp -implicitDefEqProofs [go_sem, qA]) ?_
  unfold fA qA at *
  generalize lims 4294967296 x.den = D at *
  simp -implicitDefEqProofs [go_sem, hne, rop]
end Go.Proofs.YtmhnmaklgcppbaaGreat
namespace Go.Proofs.YtmhnmaklgcppbaaGreat
open Go Go.Proofs
set_option linter.unusedSimpArgs false
set_option linter.unusedVariables false
set_option maxRecDepth 20000

theorem iA_nat (n : Nat) : iA (n : Int) = .agg [.bool false, qA n] := by
  unfold iA
  have h : decide ((n : Int) < 0) = false := by simp
  rw [h]; rfl
theorem fsign_pure (x : Rat) : Pure Tryz.prog 31 [fA x] (.int .i64 (sgnQ x)) := by
  have h := isign_pure x.num
  unfold sgnQ
  generalize sgnI x.num = s at *
  refine Pure.of_go mixed Tryz.func31 rfl (rs := [.tmp 2]) rfl (by kernel_rfl) (by simp -implicitDefEqProofs [go_sem]) ?_
  unfold fA iA qA at *
  simp -implicitDefEqProofs [go_sem]
  refine goC_pure _ h (by simp -implicitDefEqProofs [go_sem]) ?_
  simp -implicitDefEqProofs [go_sem]
theorem fminus_pure (x : Rat) : Pure Tryz.prog 87 [fA x] (fA (-x)) := by
  have h := iminus_pure x.num
  refine Pure.of_go mixed Tryz.func87 rfl (rs := [.cell 2 59]) rfl (by kernel_rfl) (ro_fA _) ?_
  unfold fA iA qA at *
  rw [Rat.neg_num, Rat.neg_den]
  generalize -x.num = m at *
  simp -implicitDefEqProofs [go_sem]
  refine goD_pure _ h (by simp -implicitDefEqProofs [go_sem]) ?_
  simp -implicitDefEqProofs [go_sem, rop]

theorem fcmp_pure (x y : Rat) (hx : sz x ≤ 17179869184) (hy : sz y ≤ 17179869184) : Pure Tryz.prog 60 [fA x, fA y] (.int .i64 (cmpQ x y)) := by
  have := sz_num x; have := sz_num y; have := sz_den x; have := sz_den y
  have dx := fden_pure x
  have dy := fden_pure y
  have m1 := imul_pure x.num y.den (by omega) (by simp; omega)
  have m2 := imul_pure y.num x.den (by omega) (by simp; omega)
  have hc := icmp_pure (x.num * y.den) (y.num * x.den) (by
    have h1 := nl_mul x.num.natAbs y.den
    rw [Int.natAbs_mul]; simp; omega) (by
    have h1 := nl_mul y.num.natAbs x.den
    rw [Int.natAbs_mul]; simp; omega)
  unfold cmpQ
  generalize x.num * y.den = u at *
  generalize y.num * x.den = w at *
  generalize cmpI u w = c at *
  rw [iA_nat] at dx dy m1 m2
  refine Pure.of_go mixed Tryz.func60 rfl (rs := [.tmp 4]) rfl (by kernel_rfl) (by simp -implicitDefEqProofs [go_sem]) ?_
  unfold fA iA qA at *
  simp -implicitDefEqProofs [go_sem]
  refine goD_pure _ dy (by simp -implicitDefEqProofs [go_sem]) ?_
  simp -implicitDefEqProofs [go_sem]
  refine goD_pure _ m1 (by simp -implicitDefEqProofs [go_sem]) ?_
  simp -implicitDefEqProofs [go_sem]
  refine goD_pure _ dx (by simp -implicitDefEqProofs [go_sem]) ?_
  simp -implicitDefEqProofs [go_sem]
  refine goD_pure _ m2 (by simp -implicitDefEqProofs [go_sem]) ?_
  simp -implicitDefEqProofs [go_sem]
  refine goD_pure _ hc (by simp -implicitDefEqProofs [go_sem]) ?_
  simp -implicitDefEqProofs [go_sem]

theorem fmul_pure (x y : Rat) (hx : sz x ≤ 17179869184) (hy : sz y ≤ 17179869184) : Pure Tryz.prog 74 [fA x, fA y] (fA (x * y)) := by
  have := sz_num x; have := sz_num y; have := sz_den x; have := sz_den y
  have dx := fden_pure x
  have dy := fden_pure y
  have m1 := imul_pure x.num y.num (by omega) (by omega)
  have m2 := mul32_pure x.den y.den (fit32 (by omega)) (fit32 (by omega))
  have hm := fmade_pure (x.num * y.num) (x.den * y.den) (by
    have h1 := nl_mul x.num.natAbs y.num.natAbs
    rw [Int.natAbs_mul]; omega) (by
    have h1 := nl_mul x.den y.den
    omega) (den_mul_ne x y)
  rw [← mul_mk] at hm
  generalize x * y = r at *
  generalize x.num * y.num = u at *
  generalize x.den * y.den = d at *
  rw [iA_nat] at dx dy
  refine Pure.of_go mixed Tryz.func74 rfl (rs := [.cell 4 59]) rfl (by kernel_rfl) (ro_fA _) ?_
  unfold fA iA qA at *
  simp -implicitDefEqProofs [go_sem]
  refine goD_pure _ m1 (by simp -implicitDefEqProofs [go_sem]) ?_
  simp -implicitDefEqProofs [go_sem]
  refine goD_pure _ dx (by simp -implicitDefEqProofs [go_sem]) ?_
  simp -implicitDefEqProofs [go_sem]
  refine goD_pure _ dy (by simp -implicitDefEqProofs [go_sem]) ?_
  simp -implicitDefEqProofs [go_sem]
  refine goD_pure _ m2 (by simp -implicitDefEqProofs [go_sem]) ?_
  simp -implicitDefEqProofs [go_sem]
  refine goD_pure _ hm (by simp -implicitDefEqProofs [go_sem]) ?_
  simp -implicitDefEqProofs [go_sem, rop]

theorem fadd_pure (x y : Rat) (hx : sz x ≤ 17179869184) (hy : sz y ≤ 17179869184) : Pure Tryz.prog 85 [fA x, fA y] (fA (x + y)) := by
  have := sz_num x; have := sz_num y; have := sz_den x; have := sz_den y
  have dx := fden_pure x
  have dy := fden_pure y
  have m1 := imul_pure x.num y.den (by omega) (by simp; omega)
  have m2 := imul_pure y.num x.den (by omega) (by simp; omega)
  have h1 := nl_mul x.num.natAbs y.den
  have h2 := nl_mul y.num.natAbs x.den
  have ha := iadd_pure (x.num * y.den) (y.num * x.den) (by rw [Int.natAbs_mul]; simp; omega) (by rw [Int.natAbs_mul]; simp; omega)
  have m3 := mul32_pure x.den y.den (fit32 (by omega)) (fit32 (by omega))
  have hm := fmade_pure (x.num * y.den + y.num * x.den) (x.den * y.den) (by
    have h4 : (x.num * y.den + y.num * x.den).natAbs ≤ x.num.natAbs * y.den + y.num.natAbs * x.den := by
      refine Nat.le_trans (Int.natAbs_add_le _ _) ?_
      rw [Int.natAbs_mul, Int.natAbs_mul]; simp
    have h5 := nl_mono h4
    have h6 := nl_add (x.num.natAbs * y.den) (y.num.natAbs * x.den)
    omega) (by
    have h1 := nl_mul x.den y.den
    omega) (den_mul_ne x y)
  rw [← add_mk] at hm
  clear h1 h2
  generalize x + y = r at *
  generalize x.num * y.den + y.num * x.den = s at *
  generalize x.num * y.den = u at *
  generalize y.num * x.den = w at *
  generalize x.den * y.den = d at *
  rw [iA_nat] at dx dy m1 m2
  refine Pure.of_go mixed Tryz.func85 rfl (rs := [.cell 4 59]) rfl (by kernel_rfl) (ro_fA _) ?_
  unfold fA iA qA at *
  simp -implicitDefEqProofs [go_sem]
  refine goD_pure _ dy (by simp -implicitDefEqProofs [go_sem]) ?_
  simp -implicitDefEqProofs [go_sem]
  refine goD_pure _ m1 (by simp -implicitDefEqProofs [go_sem]) ?_
  simp -implicitDefEqProofs [go_sem]
  refine goD_pure _ dx (by simp -implicitDefEqProofs [go_sem]) ?_
  simp -implicitDefEqProofs [go_sem]
  refine goD_pure _ m2 (by simp -implicitDefEqProofs [go_sem]) ?_
  simp -implicitDefEqProofs [go_sem]
  refine goD_pure _ ha (by simp -implicitDefEqProofs [go_sem]) ?_
  simp -implicitDefEqProofs [go_sem]
  refine goD_pure _ dx (by simp -implicitDefEqProofs [go_sem]) ?_
  simp -implicitDefEqProofs [go_sem]
  refine goD_pure _ dy (by simp -implicitDefEqProofs [go_sem]) ?_
  simp -implicitDefEqProofs [go_sem]
  refine goD_pure _ m3 (by simp -implicitDefEqProofs [go_sem]) ?_
  simp -implicitDefEqProofs [go_sem]
  refine goD_pure _ hm (by simp -implicitDefEqProofs [go_sem]) ?_
  simp -implicitDefEqProofs [go_sem, rop]

theorem fsub_pure (x y : Rat) (hx : sz x ≤ 17179869184) (hy : sz y ≤ 17179869184) : Pure Tryz.prog 86 [fA x, fA y] (fA (x - y)) := by
  have h1 := fminus_pure y
  have h2 := fadd_pure x (-y) hx (by rw [sz_neg]; exact hy)
  rw [← Rat.sub_eq_add_neg] at h2
  generalize x - y = r at *
  generalize -y = m at *
  refine Pure.of_go mixed Tryz.func86 rfl (rs := [.cell 4 59]) rfl (by kernel_rfl) (ro_fA _) ?_
  unfold fA qA at *
  simp -implicitDefEqProofs [go_sem]
  refine goD_pure _ h1 (by simp -implicitDefEqProofs [go_sem]) ?_
  simp -implicitDefEqProofs [go_sem]
  refine goD_pure _ h2 (by simp -implicitDefEqProofs [go_sem]) ?_
  simp -implicitDefEqProofs [go_sem, rop]
end Go.Proofs.YtmhnmaklgcppbaaGreat
namespace Go.Proofs.YtmhnmaklgcppbaaGreat
open Go Go.Proofs
set_option linter.unusedSimpArgs false
set_option linter.unusedVariables false
set_option maxRecDepth 20000

theorem cmpQ_lt {x y : Rat} : cmpQ x y < 0 ↔ x < y := by
  unfold cmpQ
  rw [Rat.lt_iff]
  constructor
  · intro h
    rcases Int.lt_or_le (x.num * y.den) (y.num * x.den) with h1 | h1
    · exact h1
    · exfalso
      unfold cmpI at h
      rw [if_neg (by omega)] at h
      split at h <;> omega
  · intro h; rw [cmpI_lt h]; omega
theorem cmpQ_gt {x y : Rat} : 0 < cmpQ x y ↔ y < x := by
  unfold cmpQ
  rw [Rat.lt_iff]
  constructor
  · intro h
    rcases Int.lt_or_le (y.num * x.den) (x.num * y.den) with h1 | h1
    · exact h1
    · exfalso
      unfold cmpI at h
      split at h
      · omega
      · split at h <;> omega
  · intro h; rw [cmpI_gt h]; omega
theorem cmpQ_eq {x y : Rat} : cmpQ x y = 0 ↔ x = y := by
  constructor
  · intro h
    have h1 : ¬ x < y := fun h1 => by have := cmpQ_lt.2 h1; omega
    have h2 : ¬ y < x := fun h2 => by have := cmpQ_gt.2 h2; omega
    grind
  · intro h
    have h1 : ¬ cmpQ x y < 0 := fun h1 => by have := cmpQ_lt.1 h1; grind
    have h2 : ¬ 0 < cmpQ x y := fun h1 => by have := cmpQ_gt.1 h1; grind
    omega
theorem sgnQ_lt {x : Rat} : sgnQ x < 0 ↔ x < 0 := by
  unfold sgnQ sgnI
  rw [Rat.lt_iff]
  simp
  split
  · simp_all
  · split <;> simp_all
theorem sgnQ_eq {x : Rat} : sgnQ x = 0 ↔ x = 0 := by
  unfold sgnQ sgnI
  rw [← Rat.num_eq_zero]
  split
  · constructor <;> intro h <;> omega
  · split <;> simp_all
theorem sgnQ_gt {x : Rat} : 0 < sgnQ x ↔ 0 < x := by
  have h1 := @sgnQ_lt x
  have h2 := @sgnQ_eq x
  constructor
  · intro h
    have : ¬ x < 0 := fun h3 => by have := h1.2 h3; omega
    have : ¬ x = 0 := fun h3 => by have := h2.2 h3; omega
    grind
  · intro h
    have : ¬ sgnQ x < 0 := fun h3 => by have := h1.1 h3; grind
    have : ¬ sgnQ x = 0 := fun h3 => by have := h2.1 h3; grind
    omega

theorem fdiv_pure (x y : Rat) (hx : sz x ≤ 17179869184) (hy : sz y ≤ 17179869184) (h0 : y ≠ 0) : Pure Tryz.prog 84 [fA x, fA y] (fA (x / y)) := by
  have := sz_num x; have := sz_num y; have := sz_den x; have := sz_den y
  have dx := fden_pure x
  have dy := fden_pure y
  have m1 := imul_pure x.num y.den (by omega) (by simp; omega)
  have hs := fsign_pure y
  have hn := iminus_pure (x.num * y.den)
  have m2 := mul32_pure x.den y.num.natAbs (fit32 (by omega)) (fit32 (by omega))
  have hyn : y.num ≠ 0 := fun h => h0 (Rat.num_eq_zero.1 h)
  have hd0 : x.den * y.num.natAbs ≠ 0 := Nat.mul_ne_zero x.den_nz (by omega)
  have hmk := fun p (hp : nl p.natAbs < 549755813888) => fmade_pure p (x.den * y.num.natAbs) hp (by
    have h1 := nl_mul x.den y.num.natAbs
    omega) hd0
  have hpn : nl (x.num * y.den).natAbs < 549755813888 := by
    have h1 := nl_mul x.num.natAbs y.den
    rw [Int.natAbs_mul]; simp; omega
  have hv : x / y = mkRat (if y.num < 0 then -(x.num * y.den) else x.num * y.den) (x.den * y.num.natAbs) := by
    have h1 := div_mk (x.num * y.den) (y.num * x.den)
    have h2 : ((x.num * y.den : Int) : Rat) / ((y.num * x.den : Int) : Rat) = x / y := by
      have h1 := num_den x
      have h2 := num_den y
      have h3 : (x.den : Rat) ≠ 0 := by simpa using x.den_nz
      have h4 : (y.den : Rat) ≠ 0 := by simpa using y.den_nz
      rw [Rat.intCast_mul, Rat.intCast_mul, Rat.intCast_natCast, Rat.intCast_natCast]
      conv => rhs; rw [h1, h2]
      generalize (x.num : Rat) = a at *
      generalize (y.num : Rat) = b at *
      generalize (x.den : Rat) = c at *
      generalize (y.den : Rat) = d at *
      clear h1 h2 m1 m2 hmk
      grind
    rw [h2] at h1
    have h3 : (y.num * (x.den : Int)).natAbs = x.den * y.num.natAbs := by rw [Int.natAbs_mul, Nat.mul_comm]; simp
    have h4 : y.num * (x.den : Int) < 0 ↔ y.num < 0 := by
      have := x.den_pos
      constructor
      · intro h
        rcases Int.lt_or_le y.num 0 with h5 | h5
        · exact h5
        · have := Int.mul_nonneg h5 (Int.natCast_nonneg x.den); omega
      · intro h; exact Int.mul_neg_of_neg_of_pos h (by omega)
    rw [h3] at h1
    simp only [h4] at h1
    exact h1
  rw [hv]
  generalize x.num * y.den = u at *
  generalize hdd : x.den * y.num.natAbs = d at *
  rw [iA_nat] at dx dy m1
  refine Pure.of_go mixed Tryz.func84 rfl (rs := [.cell 4 59]) rfl (by kernel_rfl) (ro_fA _) ?_
  unfold sgnQ sgnI at hs
  rcases Int.lt_or_le y.num 0 with h1 | h1
  · rw [if_pos h1] at hs ⊢
    have hm := hmk (-u) (by rw [Int.natAbs_neg]; exact hpn)
    clear hmk hv
    generalize mkRat (-u) d = r at *
    generalize -u = v at *
    unfold fA iA qA at *
    simp -implicitDefEqProofs [go_sem]
    refine goD_pure _ dy (by simp -implicitDefEqProofs [go_sem]) ?_
    simp -implicitDefEqProofs [go_sem]
    refine goD_pure _ m1 (by simp -implicitDefEqProofs [go_sem]) ?_
    simp -implicitDefEqProofs [go_sem]
    refine goC_pure _ hs (by simp -implicitDefEqProofs [go_sem]) ?_
    simp -implicitDefEqProofs [go_sem]
    refine goC_pure _ hn (by simp -implicitDefEqProofs [go_sem]) ?_
    simp -implicitDefEqProofs [go_sem]
    refine goD_pure _ dx (by simp -implicitDefEqProofs [go_sem]) ?_
    simp -implicitDefEqProofs [go_sem]
    refine goD_pure _ m2 (by simp -implicitDefEqProofs [go_sem]) ?_
    simp -implicitDefEqProofs [go_sem]
    refine goD_pure _ hm (by simp -implicitDefEqProofs [go_sem]) ?_
    simp -implicitDefEqProofs [go_sem, rop]
  · rw [if_neg (by omega), if_neg hyn] at hs
    rw [if_neg (by omega)]
    have hm := hmk u hpn
    clear hmk hv
    generalize mkRat u d = r at *
    unfold fA iA qA at *
    simp -implicitDefEqProofs [go_sem]
    refine goD_pure _ dy (by simp -implicitDefEqProofs [go_sem]) ?_
    simp -implicitDefEqProofs [go_sem]
    refine goD_pure _ m1 (by simp -implicitDefEqProofs [go_sem]) ?_
    simp -implicitDefEqProofs [go_sem]
    refine goC_pure _ hs (by simp -implicitDefEqProofs [go_sem]) ?_
    simp -implicitDefEqProofs [go_sem]
    refine goD_pure _ dx (by simp -implicitDefEqProofs [go_sem]) ?_
    simp -implicitDefEqProofs [go_sem]
    refine goD_pure _ m2 (by simp -implicitDefEqProofs [go_sem]) ?_
    simp -implicitDefEqProofs [go_sem]
    refine goD_pure _ hm (by simp -implicitDefEqProofs [go_sem]) ?_
    simp -implicitDefEqProofs [go_sem, rop]

theorem fof_pure (p q : Int) (hp : -9223372036854775808 ≤ p ∧ p ≤ 9223372036854775807) (hq : -9223372036854775808 ≤ q ∧ q ≤ 9223372036854775807) (h0 : q ≠ 0) :
    Pure Tryz.prog 61 [.int .i64 p, .int .i64 q] (fA ((p : Rat) / (q : Rat))) := by
  have h1 := iof_pure p hp
  have h2 := iof_pure q hq
  have hsg : (if q < 0 then -p else p) = sgn (decide (p < 0) != decide (q < 0)) p.natAbs := by
    unfold sgn
    by_cases h3 : p < 0 <;> by_cases h4 : q < 0 <;> simp [h3, h4] <;> omega
  have hneg : decide (sgn (decide (p < 0) != decide (q < 0)) p.natAbs < 0) = ((decide (p < 0) != decide (q < 0)) && decide (0 < (lims 4294967296 p.natAbs).length)) := by
    rw [sgn_lt, nl32_pos]
  have hm := fmade_pure (if q < 0 then -p else p) q.natAbs (by have := nl_i64 hp; rw [show (if q < 0 then -p else p).natAbs = p.natAbs by split <;> omega]; omega) (by have := nl_i64 hq; omega) (by omega)
  rw [← div_mk] at hm
  rw [hsg] at hm
  generalize (p : Rat) / (q : Rat) = r at *
  refine Pure.of_go mixed Tryz.func61 rfl (rs := [.cell 4 59]) rfl (by kernel_rfl) (ro_fA _) ?_
  unfold fA iA qA at *
  rw [hneg, sgn_abs] at hm
  clear hneg hsg
  simp -implicitDefEqProofs [go_sem, h0]
  refine goC_pure _ h1 (by simp -implicitDefEqProofs [go_sem]) ?_
  simp -implicitDefEqProofs [go_sem]
  refine goC_pure _ h2 (by simp -implicitDefEqProofs [go_sem]) ?_
  simp -implicitDefEqProofs [go_sem]
  refine ⟨fun h => ?_, fun h => ?_⟩
  · have hb : (decide (p < 0) != decide (q < 0)) = true := by
      by_cases h3 : p < 0 <;> by_cases h4 : q < 0 <;> simp [h3, h4] at h ⊢
    rw [hb, Bool.true_and] at hm
    refine goC_pure _ hm (by simp -implicitDefEqProofs [go_sem]) ?_
    simp -implicitDefEqProofs [go_sem, rop]
  · have hb : (decide (p < 0) != decide (q < 0)) = false := by
      by_cases h3 : p < 0 <;> by_cases h4 : q < 0 <;> simp [h3, h4] at h ⊢
    rw [hb, Bool.false_and] at hm
    refine goC_pure _ hm (by simp -implicitDefEqProofs [go_sem]) ?_
    simp -implicitDefEqProofs [go_sem, rop]

theorem fabs_pure (x : Rat) : Pure Tryz.prog 107 [fA x] (fA x.abs) := by
  have h1 : x.abs.num = (x.num.natAbs : Int) := by
    unfold Rat.abs
    split
    · have := Rat.num_nonneg.2 (by assumption : 0 ≤ x); omega
    · rename_i h
      have : ¬ 0 ≤ x.num := fun h2 => h (Rat.num_nonneg.1 h2)
      rw [Rat.neg_num]; omega
  have h2 : x.abs.den = x.den := by
    unfold Rat.abs; split
    · rfl
    · exact Rat.neg_den _
  refine Pure.of_go mixed Tryz.func107 rfl (rs := [.cell 2 59]) rfl (by kernel_rfl) (ro_fA _) ?_
  unfold fA qA
  rw [h1, h2]
  have h3 : decide ((x.num.natAbs : Int) < 0) = false := by simp
  rw [h3, Int.natAbs_natCast]
  simp -implicitDefEqProofs [go_sem, rop]

theorem fmax_pure (x y : Rat) (hx : sz x ≤ 17179869184) (hy : sz y ≤ 17179869184) : Pure Tryz.prog 171 [fA x, fA y] (fA (if x < y then y else x)) := by
  have h := fcmp_pure y x hy hx
  have hc := @cmpQ_gt y x
  generalize cmpQ y x = c at *
  refine Pure.of_go mixed Tryz.func171 rfl (rs := [.cell 4 59]) rfl (by kernel_rfl) (ro_fA _) ?_
  by_cases hl : x < y
  · have h0 := hc.2 hl
    rw [if_pos hl]
    unfold fA qA at *
    simp -implicitDefEqProofs [go_sem]
    refine goC_pure _ h (by simp -implicitDefEqProofs [go_sem]) ?_
    simp -implicitDefEqProofs [go_sem, h0, rop]
  · have h0 : ¬ 0 < c := fun h => hl (hc.1 h)
    rw [if_neg hl]
    unfold fA qA at *
    simp -implicitDefEqProofs [go_sem]
    refine goC_pure _ h (by simp -implicitDefEqProofs [go_sem]) ?_
    simp -implicitDefEqProofs [go_sem, h0, rop]
end Go.Proofs.YtmhnmaklgcppbaaGreat
namespace Go.Proofs.YtmhnmaklgcppbaaGreat
open Go Go.Proofs
set_option linter.unusedSimpArgs false
set_option linter.unusedVariables false
set_option maxRecDepth 20000

theorem nats_self (a : List Nat) (ha : Len a) : Pure Tryz.prog 116 [nA a, nA a] (.bool true) := by
  unfold Len at ha
  refine Pure.of_go mixed Tryz.func116 rfl (rs := [.tmp 4]) rfl (by kernel_rfl) (by simp -implicitDefEqProofs [go_sem]) ?_
  simp -implicitDefEqProofs [go_sem]
  refine go_loopN 9 (α := {i : Nat // i ≤ a.length}) (fun i => [(0, nA a), (1, nA a), (5, .int .i64 i.1)]) (fun i => []) (fun i => a.length - i.1) ⟨0, by omega⟩ [] (by simp) (by simp) (by simp) (by simp -implicitDefEqProofs [go_sem]) (by simp -implicitDefEqProofs [go_sem]) fun ⟨i, hi⟩ => ?_
  simp -implicitDefEqProofs [go_sem]
  intro h
  have hg := uA_getE .u64 (l := a) (i := i) h
  have es : IntKind.i64.wrap ((i : Int) + 1) = (i + 1 : Nat) := by rw [w64 (by omega)]; omega
  simp -implicitDefEqProofs [go_sem, hg, es]
  exact ⟨h, go_again ⟨i + 1, by omega⟩ (by simp only; omega) [] (by simp) (by simp) (by simp) (by simp -implicitDefEqProofs [go_sem]) (by simp -implicitDefEqProofs [go_sem])⟩

theorem ints_self (x : Int) (h : nl x.natAbs < 1099511627776) : Pure Tryz.prog 115 [zA x, zA x] (.bool true) := by
  have hn := nats_self (lims 18446744073709551616 x.natAbs) h
  refine Pure.of_go mixed Tryz.func115 rfl (rs := [.tmp 4]) rfl (by kernel_rfl) (by simp -implicitDefEqProofs [go_sem]) ?_
  unfold zA ZR.av zc
  simp -implicitDefEqProofs [go_sem]
  refine goC_pure _ hn (by simp -implicitDefEqProofs [go_sem]) ?_
  simp -implicitDefEqProofs [go_sem]

theorem rats_self (x : Rat) (h : sz x < 1099511627776) : Pure Tryz.prog 68 [rA x, rA x] (.bool true) := by
  have h1 := ints_self x.num (Nat.lt_of_le_of_lt (sz_num x) h)
  have h2 := nats_self (lims 18446744073709551616 x.den) (Nat.lt_of_le_of_lt (sz_den x) h)
  refine Pure.of_go mixed Tryz.func68 rfl (rs := [.tmp 4]) rfl (by kernel_rfl) (by simp -implicitDefEqProofs [go_sem]) ?_
  unfold rA RQ.av qc zA ZR.av zc at *
  simp only at *
  simp -implicitDefEqProofs [go_sem]
  refine goC_pure _ h1 (by simp -implicitDefEqProofs [go_sem]) ?_
  simp -implicitDefEqProofs [go_sem]
  refine goC_pure _ h2 (by simp -implicitDefEqProofs [go_sem]) ?_
  simp -implicitDefEqProofs [go_sem]

theorem small_q (z : RQ) (m : Nat) : Pure Tryz.prog 38 [z.av, .int .i64 m] (.bool (decide (z.p.length ≤ m ∧ z.q.length ≤ m))) := by
  refine Pure.of_go mixed Tryz.func38 rfl (rs := [.tmp 4]) rfl (by kernel_rfl) (by simp -implicitDefEqProofs [go_sem]) ?_
  unfold RQ.av
  simp -implicitDefEqProofs [go_sem]
  exact ⟨fun h _ => h, fun h1 h2 => by omega⟩

/-- A point with its weight as it may come; a good one. -/
structure HR where
  x : RQ
  y : RQ
  w : RQ
structure HQ where
  x : Rat
  y : Rat
  w : Rat
def HR.av (h : HR) : AV := .agg [.bool h.x.neg, nA h.x.p, nA h.x.q, .bool h.y.neg, nA h.y.p, nA h.y.q, .bool h.w.neg, nA h.w.p, nA h.w.q]
def HR.val (h : HR) : HQ := ⟨h.x.val, h.y.val, h.w.val⟩
def hc (h : HQ) : HR := ⟨qc h.x, qc h.y, qc h.w⟩
def hA (h : HQ) : AV := (hc h).av
theorem hc_val (h : HQ) : (hc h).val = h := by unfold HR.val hc; simp only [qc_val]
def hL (l : List HR) : AV := .sl 9 false (l.map HR.av)
theorem ro_hr (h : HR) : ro h.av := by unfold HR.av; simp -implicitDefEqProofs [go_sem]
theorem ro_hL (l : List HR) : ro (hL l) := by unfold hL; simp only [ro]; exact roL_map ro_hr
@[go_sem] theorem roL_hr (l : List HR) : roL (l.map HR.av) := roL_map ro_hr
@[go_sem] theorem renL_hr (rn : Nat → Nat) (l : List HR) : renL rn (l.map HR.av) = l.map HR.av := renL_ro rn _ (roL_hr l)
@[go_sem] theorem cloL_hr (n : Nat) (l : List HR) : cloL n (l.map HR.av) := cloL_ro _ (roL_hr l)
@[go_sem] theorem fitsL_hr (f : Nat → BS) (l : List HR) : fitsL f (l.map HR.av) := fitsL_ro f _ (roL_hr l)
@[go_sem] theorem viewL_hr (f : Nat → BS) (l : List HR) : viewL f (l.map HR.av) = l.map HR.av := viewL_ro f _ (roL_hr l)
theorem getE_hr {l : List HR} {i : Nat} (h : i < l.length) : getE (l.map HR.av) (i : Int) = (l[i]).av := by
  simp [getE, List.getD_eq_getElem?_getD, h]
def HQ.sz (h : HQ) : Nat := max (Go.Proofs.YtmhnmaklgcppbaaGreat.sz h.x) (max (Go.Proofs.YtmhnmaklgcppbaaGreat.sz h.y) (Go.Proofs.YtmhnmaklgcppbaaGreat.sz h.w))
theorem homs_self (l : List HQ) (hl : l.length < 1099511627776) (hs : ∀ h ∈ l, h.sz < 1099511627776) : Pure Tryz.prog 21 [hL (l.map hc), hL (l.map hc)] (.bool true) := by
  have hlen : (l.map hc).length = l.length := by simp
  have hget : ∀ i (h : i < l.length), (l.map hc)[i]'(by simpa using h) = hc l[i] := fun i h => by simp
  have hr : ∀ i (h : i < l.length), Pure Tryz.prog 68 [rA l[i].x, rA l[i].x] (.bool true) ∧ Pure Tryz.prog 68 [rA l[i].y, rA l[i].y] (.bool true) ∧ Pure Tryz.prog 68 [rA l[i].w, rA l[i].w] (.bool true) := fun i h => by
    have := hs l[i] (List.getElem_mem h)
    unfold HQ.sz at this
    exact ⟨rats_self _ (by omega), rats_self _ (by omega), rats_self _ (by omega)⟩
  refine Pure.of_go mixed Tryz.func21 rfl (rs := [.tmp 4]) rfl (by kernel_rfl) (by simp -implicitDefEqProofs [go_sem]) ?_
  unfold hL
  have hgE : ∀ i (h : i < l.length), getE ((l.map hc).map HR.av) (i : Int) = (hc l[i]).av := fun i h => by rw [getE_hr (by simpa using h), hget i h]
  clear hget
  generalize l.map hc = L at *
  simp -implicitDefEqProofs [go_sem]
  refine go_loopN 9 (α := {i : Nat // i ≤ L.length}) (fun i => [(0, hL L), (1, hL L), (5, .int .i64 i.1)]) (fun i => []) (fun i => L.length - i.1) ⟨0, by omega⟩ [] (by simp) (by simp) (by simp) (by simp -implicitDefEqProofs [go_sem, hL]) (by simp -implicitDefEqProofs [go_sem]) fun ⟨i, hi⟩ => ?_
  simp -implicitDefEqProofs [go_sem, hL]
  intro h
  have hg := hgE i (by omega)
  obtain ⟨r1, r2, r3⟩ := hr i (by omega)
  have es : IntKind.i64.wrap ((i : Int) + 1) = (i + 1 : Nat) := by rw [w64 (by omega)]; omega
  simp only [HR.av, hc] at hg
  unfold rA RQ.av at r1 r2 r3
  simp -implicitDefEqProofs [go_sem, hg]
  refine ⟨h, goD_pure _ r1 (by simp -implicitDefEqProofs [go_sem]) ?_⟩
  simp -implicitDefEqProofs [go_sem, hg]
  refine ⟨h, goD_pure _ r2 (by simp -implicitDefEqProofs [go_sem]) ?_⟩
  simp -implicitDefEqProofs [go_sem, hg]
  refine ⟨h, goD_pure _ r3 (by simp -implicitDefEqProofs [go_sem]) ?_⟩
  simp -implicitDefEqProofs [go_sem, hg, es]
  exact go_again ⟨i + 1, by omega⟩ (by simp only; omega) [] (by simp) (by simp) (by simp) (by simp -implicitDefEqProofs [go_sem, hL]) (by simp -implicitDefEqProofs [go_sem])
end Go.Proofs.YtmhnmaklgcppbaaGreat
namespace Go.Proofs.YtmhnmaklgcppbaaGreat
open Go Go.Proofs
set_option linter.unusedSimpArgs false
set_option linter.unusedVariables false
set_option maxRecDepth 20000

/-- A fraction as it comes, of at most n limbs in each part. -/
structure RQ.In (n : Nat) (z : RQ) : Prop where
  lp : z.p.length ≤ n
  limp : Lim 18446744073709551616 z.p
  lq : z.q.length ≤ n
  limq : Lim 18446744073709551616 z.q
theorem RQ.In.sm {n : Nat} {z : RQ} (h : z.In n) (hn : n ≤ 17179869184 := by omega) : z.Sm := ⟨Nat.le_trans h.lp hn, h.limp, Nat.le_trans h.lq hn, h.limq⟩
theorem RQ.In.mono {n m : Nat} {z : RQ} (h : z.In n) (hn : n ≤ m := by omega) : z.In m := ⟨Nat.le_trans h.lp hn, h.limp, Nat.le_trans h.lq hn, h.limq⟩
theorem RQ.In.sz {n : Nat} {z : RQ} (h : z.In n) (hn : 1 ≤ n := by omega) : Go.Proofs.YtmhnmaklgcppbaaGreat.sz z.val ≤ n := by
  have h1 := sz_mk z.num z.den_ne
  have h2 : nl z.num.natAbs ≤ z.p.length := by unfold RQ.num; rw [sgn_abs]; exact nl_lv h.limp
  have h3 : nl z.den ≤ max 1 z.q.length := by
    unfold RQ.den; split
    · rw [nl_one]; omega
    · have := nl_lv h.limq; omega
  have := h.lp
  have := h.lq
  unfold RQ.val
  omega
theorem qc_in {n : Nat} {x : Rat} (h : sz x ≤ n) : (qc x).In n := ⟨Nat.le_trans (sz_num x) h, lim_lims (by omega) _, Nat.le_trans (sz_den x) h, lim_lims (by omega) _⟩

structure PR where
  x : RQ
  y : RQ
structure PQ where
  x : Rat
  y : Rat
def PR.av (p : PR) : AV := .agg [.bool p.x.neg, nA p.x.p, nA p.x.q, .bool p.y.neg, nA p.y.p, nA p.y.q]
def PR.val (p : PR) : PQ := ⟨p.x.val, p.y.val⟩
def pc (p : PQ) : PR := ⟨qc p.x, qc p.y⟩
def pA (p : PQ) : AV := (pc p).av
theorem pc_val (p : PQ) : (pc p).val = p := by unfold PR.val pc; simp only [qc_val]
theorem ro_pr (p : PR) : ro p.av := by unfold PR.av; simp -implicitDefEqProofs [go_sem]
theorem ro_pA (p : PQ) : ro (pA p) := ro_pr _
structure PR.In (n : Nat) (p : PR) : Prop where
  x : p.x.In n
  y : p.y.In n
def PQ.sz (p : PQ) : Nat := max (Go.Proofs.YtmhnmaklgcppbaaGreat.sz p.x) (Go.Proofs.YtmhnmaklgcppbaaGreat.sz p.y)
theorem pc_in {n : Nat} {p : PQ} (h : p.sz ≤ n) : (pc p).In n := ⟨qc_in (Nat.le_trans (Nat.le_max_left _ _) h), qc_in (Nat.le_trans (Nat.le_max_right _ _) h)⟩
theorem PR.In.mono {n m : Nat} {z : PR} (h : z.In n) (hn : n ≤ m := by omega) : z.In m := ⟨h.x.mono hn, h.y.mono hn⟩

theorem both_pure (g : FuncId) (cap : List AV) (p q : PR) (rx ry : Rat) (hc : roL cap) (h1 : Pure Tryz.prog g (p.x.av :: q.x.av :: cap) (rA rx)) (h2 : Pure Tryz.prog g (p.y.av :: q.y.av :: cap) (rA ry)) :
    Pure Tryz.prog 93 [p.av, q.av, .fn (.func g) [] cap] (pA ⟨rx, ry⟩) := by
  refine Pure.of_go mixed Tryz.func93 rfl (rs := [.cell 6 51]) rfl (by kernel_rfl) (ro_pA _) ?_
  unfold pA PR.av pc rA RQ.av at *
  simp only at *
  generalize qc rx = cx at *
  generalize qc ry = cy at *
  simp -implicitDefEqProofs [go_sem]
  refine goD_pure _ h1 (by simp -implicitDefEqProofs [go_sem, hc]) ?_
  simp -implicitDefEqProofs [go_sem]
  refine goD_pure _ h2 (by simp -implicitDefEqProofs [go_sem, hc]) ?_
  simp -implicitDefEqProofs [go_sem, rop]

def PQ.add (p q : PQ) : PQ := ⟨p.x + q.x, p.y + q.y⟩
def PQ.sub (p q : PQ) : PQ := ⟨p.x - q.x, p.y - q.y⟩
def PQ.scale (p : PQ) (k : Rat) : PQ := ⟨p.x * k, p.y * k⟩
def PQ.mix (p q : PQ) (t : Rat) : PQ := p.add ((q.sub p).scale t)
def PQ.dot (p q : PQ) : Rat := p.x * q.x + p.y * q.y
def PQ.cross (p q : PQ) : Rat := p.x * q.y - p.y * q.x

theorem padd_pure (p q : PR) (hp : p.In 17179869184) (hq : q.In 17179869184) : Pure Tryz.prog 42 [p.av, q.av] (pA (p.val.add q.val)) := by
  have h := both_pure 94 [] p q _ _ (by simp -implicitDefEqProofs [go_sem]) (radd_pure p.x q.x hp.x.sm hq.x.sm) (radd_pure p.y q.y hp.y.sm hq.y.sm)
  change Pure _ _ _ (pA (p.val.add q.val)) at h
  generalize p.val.add q.val = r at *
  refine Pure.of_go mixed Tryz.func42 rfl (rs := [.cell 4 51]) rfl (by kernel_rfl) (ro_pA _) ?_
  unfold pA PR.av at *
  generalize pc r = cr at *
  simp -implicitDefEqProofs [go_sem]
  refine goC_pure _ h (by simp -implicitDefEqProofs [go_sem]) ?_
  simp -implicitDefEqProofs [go_sem, rop]
theorem psub_pure (p q : PR) (hp : p.In 17179869184) (hq : q.In 17179869184) : Pure Tryz.prog 41 [p.av, q.av] (pA (p.val.sub q.val)) := by
  have h := both_pure 49 [] p q _ _ (by simp -implicitDefEqProofs [go_sem]) (rsub_pure p.x q.x hp.x.sm hq.x.sm) (rsub_pure p.y q.y hp.y.sm hq.y.sm)
  change Pure _ _ _ (pA (p.val.sub q.val)) at h
  generalize p.val.sub q.val = r at *
  refine Pure.of_go mixed Tryz.func41 rfl (rs := [.cell 4 51]) rfl (by kernel_rfl) (ro_pA _) ?_
  unfold pA PR.av at *
  generalize pc r = cr at *
  simp -implicitDefEqProofs [go_sem]
  refine goC_pure _ h (by simp -implicitDefEqProofs [go_sem]) ?_
  simp -implicitDefEqProofs [go_sem, rop]

/-- A fraction's cells. -/
def RQ.cells (z : RQ) : List AV := [.bool z.neg, nA z.p, nA z.q]
theorem scale1_pure (a b k : RQ) (ha : a.In 17179869184) (hk : k.In 17179869184) : Pure Tryz.prog 132 [a.av, b.av, .rp k.cells] (rA (a.val * k.val)) := by
  have h := rmul_pure a k ha.sm hk.sm
  generalize a.val * k.val = r at *
  refine Pure.of_go mixed Tryz.func132 rfl (rs := [.cell 5 46]) rfl (by kernel_rfl) (ro_rA _) ?_
  unfold RQ.cells rA RQ.av at *
  generalize qc r = cr at *
  simp -implicitDefEqProofs [go_sem]
  refine goC_pure _ h (by simp -implicitDefEqProofs [go_sem]) ?_
  simp -implicitDefEqProofs [go_sem, rop]

theorem pscale_pure (p : PR) (k : RQ) (hp : p.In 17179869184) (hk : k.In 17179869184) : Pure Tryz.prog 80 [p.av, k.av] (pA (p.val.scale k.val)) := by
  have h := both_pure 132 [.rp k.cells] p p _ _ (by simp -implicitDefEqProofs [go_sem, RQ.cells]) (scale1_pure p.x p.x k hp.x hk) (scale1_pure p.y p.y k hp.y hk)
  change Pure _ _ _ (pA (p.val.scale k.val)) at h
  generalize p.val.scale k.val = r at *
  refine Pure.of_go mixed Tryz.func80 rfl (rs := [.cell 4 51]) rfl (by kernel_rfl) (ro_pA _) ?_
  unfold pA PR.av RQ.cells RQ.av at *
  generalize pc r = cr at *
  simp -implicitDefEqProofs [go_sem]
  refine goC_dead [1] _ h (by simp -implicitDefEqProofs [go_sem]) (by simp -implicitDefEqProofs [go_sem]) (by simp -implicitDefEqProofs [go_sem]) (by simp -implicitDefEqProofs [go_sem]) ?_
  simp -implicitDefEqProofs [go_sem, rop]

theorem PQ.sz_x (p : PQ) : Go.Proofs.YtmhnmaklgcppbaaGreat.sz p.x ≤ p.sz := Nat.le_max_left _ _
theorem PQ.sz_y (p : PQ) : Go.Proofs.YtmhnmaklgcppbaaGreat.sz p.y ≤ p.sz := Nat.le_max_right _ _
theorem PR.In.sz {n : Nat} {z : PR} (h : z.In n) (hn : 1 ≤ n := by omega) : z.val.sz ≤ n := Nat.max_le.2 ⟨h.x.sz hn, h.y.sz hn⟩
theorem PQ.sz_add (p q : PQ) : (p.add q).sz ≤ p.sz + q.sz + 1 := by
  have := Go.Proofs.YtmhnmaklgcppbaaGreat.sz_add p.x q.x; have := Go.Proofs.YtmhnmaklgcppbaaGreat.sz_add p.y q.y
  have := p.sz_x; have := p.sz_y; have := q.sz_x; have := q.sz_y
  refine Nat.max_le.2 ⟨?_, ?_⟩ <;> simp only [PQ.add] <;> omega
theorem PQ.sz_sub (p q : PQ) : (p.sub q).sz ≤ p.sz + q.sz + 1 := by
  have := Go.Proofs.YtmhnmaklgcppbaaGreat.sz_sub p.x q.x; have := Go.Proofs.YtmhnmaklgcppbaaGreat.sz_sub p.y q.y
  have := p.sz_x; have := p.sz_y; have := q.sz_x; have := q.sz_y
  refine Nat.max_le.2 ⟨?_, ?_⟩ <;> simp only [PQ.sub] <;> omega
theorem PQ.sz_scale (p : PQ) (k : Rat) : (p.scale k).sz ≤ p.sz + Go.Proofs.YtmhnmaklgcppbaaGreat.sz k := by
  have := sz_mul p.x k; have := sz_mul p.y k
  have := p.sz_x; have := p.sz_y
  refine Nat.max_le.2 ⟨?_, ?_⟩ <;> simp only [PQ.scale] <;> omega

theorem pmix_pure (p q : PR) (t : RQ) (hp : p.In 1073741824) (hq : q.In 1073741824) (ht : t.In 1073741824) : Pure Tryz.prog 105 [p.av, q.av, t.av] (pA (p.val.mix q.val t.val)) := by
  have h1 := psub_pure q p hq.mono hp.mono
  have s1 := PQ.sz_sub q.val p.val
  have sp := hp.sz; have sq := hq.sz; have st := ht.sz
  have h2 := pscale_pure (pc (q.val.sub p.val)) t (pc_in (by omega)) ht.mono
  rw [pc_val] at h2
  have s2 := PQ.sz_scale (q.val.sub p.val) t.val
  have h3 := padd_pure p (pc ((q.val.sub p.val).scale t.val)) hp.mono (pc_in (by omega))
  rw [pc_val] at h3
  change Pure _ _ _ (pA (p.val.mix q.val t.val)) at h3
  generalize p.val.mix q.val t.val = r at *
  generalize (q.val.sub p.val).scale t.val = u at *
  generalize q.val.sub p.val = v at *
  refine Pure.of_go mixed Tryz.func105 rfl (rs := [.cell 6 51]) rfl (by kernel_rfl) (ro_pA _) ?_
  unfold pA PR.av RQ.av at *
  generalize pc r = cr at *
  generalize pc u = cu at *
  generalize pc v = cv at *
  simp -implicitDefEqProofs [go_sem]
  refine goD_pure _ h1 (by simp -implicitDefEqProofs [go_sem]) ?_
  simp -implicitDefEqProofs [go_sem]
  refine goD_pure _ h2 (by simp -implicitDefEqProofs [go_sem]) ?_
  simp -implicitDefEqProofs [go_sem]
  refine goD_pure _ h3 (by simp -implicitDefEqProofs [go_sem]) ?_
  simp -implicitDefEqProofs [go_sem, rop]

theorem pdot_pure (p q : PR) (hp : p.In 4294967296) (hq : q.In 4294967296) : Pure Tryz.prog 104 [p.av, q.av] (rA (p.val.dot q.val)) := by
  have sp := hp.sz; have sq := hq.sz
  have := p.val.sz_x; have := p.val.sz_y; have := q.val.sz_x; have := q.val.sz_y
  have h1 := rmul_pure p.x q.x hp.x.sm hq.x.sm
  have h2 := rmul_pure p.y q.y hp.y.sm hq.y.sm
  change Pure _ _ _ (rA (p.val.x * q.val.x)) at h1
  change Pure _ _ _ (rA (p.val.y * q.val.y)) at h2
  have s1 := sz_mul p.val.x q.val.x
  have s2 := sz_mul p.val.y q.val.y
  have h3 := radd_pure (qc (p.val.x * q.val.x)) (qc (p.val.y * q.val.y)) (qc_sm (by omega)) (qc_sm (by omega))
  rw [qc_val, qc_val] at h3
  change Pure _ _ _ (rA (p.val.dot q.val)) at h3
  generalize p.val.dot q.val = r at *
  generalize p.val.x * q.val.x = u at *
  generalize p.val.y * q.val.y = v at *
  refine Pure.of_go mixed Tryz.func104 rfl (rs := [.cell 4 46]) rfl (by kernel_rfl) (ro_rA _) ?_
  unfold PR.av rA RQ.av at *
  generalize qc r = cr at *
  generalize qc u = cu at *
  generalize qc v = cv at *
  simp -implicitDefEqProofs [go_sem]
  refine goD_pure _ h1 (by simp -implicitDefEqProofs [go_sem]) ?_
  simp -implicitDefEqProofs [go_sem]
  refine goD_pure _ h2 (by simp -implicitDefEqProofs [go_sem]) ?_
  simp -implicitDefEqProofs [go_sem]
  refine goD_pure _ h3 (by simp -implicitDefEqProofs [go_sem]) ?_
  simp -implicitDefEqProofs [go_sem, rop]
theorem pcross_pure (p q : PR) (hp : p.In 4294967296) (hq : q.In 4294967296) : Pure Tryz.prog 101 [p.av, q.av] (rA (p.val.cross q.val)) := by
  have sp := hp.sz; have sq := hq.sz
  have := p.val.sz_x; have := p.val.sz_y; have := q.val.sz_x; have := q.val.sz_y
  have h1 := rmul_pure p.x q.y hp.x.sm hq.y.sm
  have h2 := rmul_pure p.y q.x hp.y.sm hq.x.sm
  change Pure _ _ _ (rA (p.val.x * q.val.y)) at h1
  change Pure _ _ _ (rA (p.val.y * q.val.x)) at h2
  have s1 := sz_mul p.val.x q.val.y
  have s2 := sz_mul p.val.y q.val.x
  have h3 := rsub_pure (qc (p.val.x * q.val.y)) (qc (p.val.y * q.val.x)) (qc_sm (by omega)) (qc_sm (by omega))
  rw [qc_val, qc_val] at h3
  change Pure _ _ _ (rA (p.val.cross q.val)) at h3
  generalize p.val.cross q.val = r at *
  generalize p.val.x * q.val.y = u at *
  generalize p.val.y * q.val.x = v at *
  refine Pure.of_go mixed Tryz.func101 rfl (rs := [.cell 4 46]) rfl (by kernel_rfl) (ro_rA _) ?_
  unfold PR.av rA RQ.av at *
  generalize qc r = cr at *
  generalize qc u = cu at *
  generalize qc v = cv at *
  simp -implicitDefEqProofs [go_sem]
  refine goD_pure _ h1 (by simp -implicitDefEqProofs [go_sem]) ?_
  simp -implicitDefEqProofs [go_sem]
  refine goD_pure _ h2 (by simp -implicitDefEqProofs [go_sem]) ?_
  simp -implicitDefEqProofs [go_sem]
  refine goD_pure _ h3 (by simp -implicitDefEqProofs [go_sem]) ?_
  simp -implicitDefEqProofs [go_sem, rop]
end Go.Proofs.YtmhnmaklgcppbaaGreat
namespace Go.Proofs.YtmhnmaklgcppbaaGreat
open Go Go.Proofs
set_option linter.unusedSimpArgs false
set_option linter.unusedVariables false
set_option maxRecDepth 20000

theorem PQ.ext {p q : PQ} (h1 : p.x = q.x) (h2 : p.y = q.y) : p = q := by cases p; cases q; simp_all
theorem PQ.eq_iff {p q : PQ} : p = q ↔ p.x = q.x ∧ p.y = q.y := ⟨fun h => by subst h; exact ⟨rfl, rfl⟩, fun h => PQ.ext h.1 h.2⟩
instance : DecidableEq PQ := fun p q => decidable_of_iff _ PQ.eq_iff.symm
theorem psame_pure (p q : PR) (hp : p.In 17179869184) (hq : q.In 17179869184) : Pure Tryz.prog 44 [p.av, q.av] (.bool (decide (p.val = q.val))) := by
  have h1 := rcmp_pure p.x q.x hp.x.sm hq.x.sm
  have h2 := rcmp_pure p.y q.y hp.y.sm hq.y.sm
  have e1 := @cmpQ_eq p.x.val q.x.val
  have e2 := @cmpQ_eq p.y.val q.y.val
  have e3 : p.val = q.val ↔ cmpQ p.x.val q.x.val = 0 ∧ cmpQ p.y.val q.y.val = 0 := by
    rw [e1, e2, PQ.eq_iff]; rfl
  simp only [e3]
  generalize cmpQ p.x.val q.x.val = c1 at *
  generalize cmpQ p.y.val q.y.val = c2 at *
  refine Pure.of_go mixed Tryz.func44 rfl (rs := [.tmp 4]) rfl (by kernel_rfl) (by simp -implicitDefEqProofs [go_sem]) ?_
  unfold PR.av RQ.av at *
  simp -implicitDefEqProofs [go_sem]
  refine goC_pure _ h1 (by simp -implicitDefEqProofs [go_sem]) ?_
  by_cases hc : c1 = 0
  · simp -implicitDefEqProofs [go_sem, hc]
    refine goC_pure _ h2 (by simp -implicitDefEqProofs [go_sem]) ?_
    simp -implicitDefEqProofs [go_sem, hc]
  · simp -implicitDefEqProofs [go_sem, hc]

def PQ.far (p q : PQ) : Rat := (p.sub q).dot (p.sub q)
theorem pfar_pure (p q : PR) (hp : p.In 1073741824) (hq : q.In 1073741824) : Pure Tryz.prog 50 [p.av, q.av] (rA (p.val.far q.val)) := by
  have sp := hp.sz; have sq := hq.sz
  have h1 := psub_pure p q hp.mono hq.mono
  have s1 := PQ.sz_sub p.val q.val
  have h2 := pdot_pure (pc (p.val.sub q.val)) (pc (p.val.sub q.val)) (pc_in (by omega)) (pc_in (by omega))
  rw [pc_val] at h2
  change Pure _ _ _ (rA (p.val.far q.val)) at h2
  generalize p.val.far q.val = r at *
  generalize p.val.sub q.val = v at *
  refine Pure.of_go mixed Tryz.func50 rfl (rs := [.cell 4 46]) rfl (by kernel_rfl) (ro_rA _) ?_
  unfold pA PR.av rA RQ.av at *
  generalize qc r = cr at *
  generalize pc v = cv at *
  simp -implicitDefEqProofs [go_sem]
  refine goC_pure _ h1 (by simp -implicitDefEqProofs [go_sem]) ?_
  simp -implicitDefEqProofs [go_sem]
  refine goC_pure _ h2 (by simp -implicitDefEqProofs [go_sem]) ?_
  simp -implicitDefEqProofs [go_sem, rop]

def PQ.orient (a b c : PQ) : Int := sgnQ ((b.sub a).cross (c.sub a))
theorem porient_pure (a b c : PR) (ha : a.In 1073741824) (hb : b.In 1073741824) (hc : c.In 1073741824) : Pure Tryz.prog 52 [a.av, b.av, c.av] (.int .i64 (PQ.orient a.val b.val c.val)) := by
  have sa := ha.sz; have sb := hb.sz; have sc := hc.sz
  have h1 := psub_pure b a hb.mono ha.mono
  have h2 := psub_pure c a hc.mono ha.mono
  have s1 := PQ.sz_sub b.val a.val
  have s2 := PQ.sz_sub c.val a.val
  have h3 := pcross_pure (pc (b.val.sub a.val)) (pc (c.val.sub a.val)) (pc_in (by omega)) (pc_in (by omega))
  rw [pc_val, pc_val] at h3
  have s3 : sz ((b.val.sub a.val).cross (c.val.sub a.val)) ≤ 17179869184 := by
    unfold PQ.cross
    generalize b.val.sub a.val = u at *
    generalize c.val.sub a.val = v at *
    have := sz_sub (u.x * v.y) (u.y * v.x); have := sz_mul u.x v.y; have := sz_mul u.y v.x
    have := u.sz_x; have := u.sz_y; have := v.sz_x; have := v.sz_y
    omega
  have h4 := rsign_pure (qc ((b.val.sub a.val).cross (c.val.sub a.val))) (qc_sm s3).ok
  rw [qc_val] at h4
  change Pure _ _ _ (.int .i64 (PQ.orient a.val b.val c.val)) at h4
  generalize PQ.orient a.val b.val c.val = s at *
  generalize (b.val.sub a.val).cross (c.val.sub a.val) = r at *
  generalize b.val.sub a.val = u at *
  generalize c.val.sub a.val = v at *
  refine Pure.of_go mixed Tryz.func52 rfl (rs := [.tmp 6]) rfl (by kernel_rfl) (by simp -implicitDefEqProofs [go_sem]) ?_
  unfold pA PR.av rA RQ.av at *
  generalize qc r = cr at *
  generalize pc u = cu at *
  generalize pc v = cv at *
  simp -implicitDefEqProofs [go_sem]
  refine goD_pure _ h1 (by simp -implicitDefEqProofs [go_sem]) ?_
  simp -implicitDefEqProofs [go_sem]
  refine goD_pure _ h2 (by simp -implicitDefEqProofs [go_sem]) ?_
  simp -implicitDefEqProofs [go_sem]
  refine goD_pure _ h3 (by simp -implicitDefEqProofs [go_sem]) ?_
  simp -implicitDefEqProofs [go_sem]
  refine goD_pure _ h4 (by simp -implicitDefEqProofs [go_sem]) ?_
  simp -implicitDefEqProofs [go_sem]
end Go.Proofs.YtmhnmaklgcppbaaGreat
namespace Go.Proofs.YtmhnmaklgcppbaaGreat
open Go Go.Proofs
set_option linter.unusedSimpArgs false
set_option linter.unusedVariables false
set_option maxRecDepth 20000

structure HR.In (n : Nat) (h : HR) : Prop where
  x : h.x.In n
  y : h.y.In n
  w : h.w.In n
theorem HR.In.mono {n m : Nat} {z : HR} (h : z.In n) (hn : n ≤ m := by omega) : z.In m := ⟨h.x.mono hn, h.y.mono hn, h.w.mono hn⟩
theorem HQ.sz_x (h : HQ) : Go.Proofs.YtmhnmaklgcppbaaGreat.sz h.x ≤ h.sz := by unfold HQ.sz; omega
theorem HQ.sz_y (h : HQ) : Go.Proofs.YtmhnmaklgcppbaaGreat.sz h.y ≤ h.sz := by unfold HQ.sz; omega
theorem HQ.sz_w (h : HQ) : Go.Proofs.YtmhnmaklgcppbaaGreat.sz h.w ≤ h.sz := by unfold HQ.sz; omega
theorem hc_in {n : Nat} {h : HQ} (hs : h.sz ≤ n) : (hc h).In n := ⟨qc_in (Nat.le_trans h.sz_x hs), qc_in (Nat.le_trans h.sz_y hs), qc_in (Nat.le_trans h.sz_w hs)⟩
theorem HR.In.sz {n : Nat} {z : HR} (h : z.In n) (hn : 1 ≤ n := by omega) : z.val.sz ≤ n := by
  have := h.x.sz hn; have := h.y.sz hn; have := h.w.sz hn
  unfold HQ.sz HR.val; simp only; omega
theorem ro_hA (h : HQ) : ro (hA h) := ro_hr _

def half : Rat := ((1 : Int) : Rat) / ((2 : Int) : Rat)
theorem sz_half : sz half ≤ 1 := by
  unfold half
  rw [div_mk]
  have := sz_mk (if (2 : Int) < 0 then -1 else 1) (d := (2 : Int).natAbs) (by decide)
  simp at this ⊢
  have h1 : nl 1 = 1 := nl_one
  have h2 : nl 2 ≤ 1 := nl_le (by omega)
  omega
def midQ (a b : Rat) : Rat := (a + b) * half
theorem midQ_self (a : Rat) : midQ a a = a := by
  unfold midQ half
  grind
theorem sz_midQ (a b : Rat) : sz (midQ a b) ≤ sz a + sz b + 2 := by
  have := sz_add a b; have := sz_mul (a + b) half; have := sz_half
  unfold midQ; omega
theorem mid_pure (a b : RQ) (ha : a.In 4294967296) (hb : b.In 4294967296) : Pure Tryz.prog 114 [a.av, b.av] (rA (midQ a.val b.val)) := by
  have sa := ha.sz; have sb := hb.sz
  have h1 := radd_pure a b ha.sm hb.sm
  have h2 := rof_pure 1 2 (by omega) (by omega) (by omega)
  have s1 := sz_add a.val b.val
  have h3 := rmul_pure (qc (a.val + b.val)) (qc half) (qc_sm (by omega)) (qc_sm (by have := sz_half; omega))
  rw [qc_val, qc_val] at h3
  change Pure _ _ _ (rA (midQ a.val b.val)) at h3
  change Pure _ _ _ (rA half) at h2
  generalize midQ a.val b.val = r at *
  generalize a.val + b.val = u at *
  refine Pure.of_go mixed Tryz.func114 rfl (rs := [.cell 4 46]) rfl (by kernel_rfl) (ro_rA _) ?_
  unfold rA RQ.av at *
  generalize qc r = cr at *
  generalize qc u = cu at *
  generalize qc half = ch at *
  simp -implicitDefEqProofs [go_sem]
  refine goC_pure _ h1 (by simp -implicitDefEqProofs [go_sem]) ?_
  simp -implicitDefEqProofs [go_sem]
  refine goC_pure _ h2 (by simp -implicitDefEqProofs [go_sem]) ?_
  simp -implicitDefEqProofs [go_sem]
  refine goC_pure _ h3 (by simp -implicitDefEqProofs [go_sem]) ?_
  simp -implicitDefEqProofs [go_sem, rop]

def HQ.mid (a b : HQ) : HQ := ⟨midQ a.x b.x, midQ a.y b.y, midQ a.w b.w⟩
theorem HQ.mid_self (a : HQ) : a.mid a = a := by unfold HQ.mid; simp only [midQ_self]
theorem HQ.sz_mid (a b : HQ) : (a.mid b).sz ≤ a.sz + b.sz + 2 := by
  have := sz_midQ a.x b.x; have := sz_midQ a.y b.y; have := sz_midQ a.w b.w
  have := a.sz_x; have := a.sz_y; have := a.sz_w; have := b.sz_x; have := b.sz_y; have := b.sz_w
  unfold HQ.mid
  conv => lhs; unfold HQ.sz
  simp only
  omega
theorem middle_pure (a b : HR) (ha : a.In 4294967296) (hb : b.In 4294967296) : Pure Tryz.prog 65 [a.av, b.av] (hA (a.val.mid b.val)) := by
  have h1 := mid_pure a.x b.x ha.x hb.x
  have h2 := mid_pure a.y b.y ha.y hb.y
  have h3 := mid_pure a.w b.w ha.w hb.w
  unfold hA HQ.mid hc HR.val
  simp only
  generalize midQ a.x.val b.x.val = r1 at *
  generalize midQ a.y.val b.y.val = r2 at *
  generalize midQ a.w.val b.w.val = r3 at *
  refine Pure.of_go mixed Tryz.func65 rfl (rs := [.cell 4 48]) rfl (by kernel_rfl) (ro_hr _) ?_
  unfold HR.av rA RQ.av at *
  simp only at *
  generalize qc r1 = c1 at *
  generalize qc r2 = c2 at *
  generalize qc r3 = c3 at *
  simp -implicitDefEqProofs [go_sem]
  refine goD_pure _ h1 (by simp -implicitDefEqProofs [go_sem]) ?_
  simp -implicitDefEqProofs [go_sem]
  refine goD_pure _ h2 (by simp -implicitDefEqProofs [go_sem]) ?_
  simp -implicitDefEqProofs [go_sem]
  refine goD_pure _ h3 (by simp -implicitDefEqProofs [go_sem]) ?_
  simp -implicitDefEqProofs [go_sem, rop]
theorem hgood_pure (a : HR) (ha : a.In 4294967296) : Pure Tryz.prog 64 [a.av] (hA a.val) := by
  have h := middle_pure a a ha ha
  rw [HQ.mid_self] at h
  refine Pure.of_go mixed Tryz.func64 rfl (rs := [.cell 2 48]) rfl (by kernel_rfl) (ro_hr _) ?_
  unfold hA HR.av at *
  generalize hc a.val = r at *
  simp -implicitDefEqProofs [go_sem]
  refine goC_pure _ h (by simp -implicitDefEqProofs [go_sem]) ?_
  simp -implicitDefEqProofs [go_sem, rop]
end Go.Proofs.YtmhnmaklgcppbaaGreat
namespace Go.Proofs.YtmhnmaklgcppbaaGreat
open Go Go.Proofs
set_option linter.unusedSimpArgs false
set_option linter.unusedVariables false
set_option maxRecDepth 20000

/-- Two to four points, all weights above 0. -/
def GoodC (l : List HQ) : Prop := (∀ h ∈ l, 0 < h.w) ∧ 2 ≤ l.length ∧ l.length ≤ 4
instance (l : List HQ) : Decidable (GoodC l) := inferInstanceAs (Decidable (_ ∧ _))
theorem all_take_succ {l : List HQ} {i : Nat} (hi : i < l.length) {P : HQ → Prop} : (∀ h ∈ l.take (i + 1), P h) ↔ (∀ h ∈ l.take i, P h) ∧ P l[i] := by
  have e : l.take (i + 1) = l.take i ++ [l[i]] := List.take_succ_eq_append_getElem hi
  constructor
  · intro g
    rw [e] at g
    exact ⟨fun h hh => g h (List.mem_append_left _ hh), g _ (List.mem_append_right _ (List.mem_singleton_self _))⟩
  · rintro ⟨g1, g2⟩ h hh
    rw [e] at hh
    rcases List.mem_append.1 hh with h1 | h1
    · exact g1 h h1
    · rw [List.mem_singleton.1 h1]; exact g2
theorem cgood_pure (l : List HR) (hl : l.length < 1099511627776) (hz : ∀ h ∈ l, h.w.Ok) : Pure Tryz.prog 25 [hL l] (.bool (decide (GoodC (l.map HR.val)))) := by
  refine Pure.of_go mixed Tryz.func25 rfl (rs := [.tmp 2]) rfl (by kernel_rfl) (by simp -implicitDefEqProofs [go_sem]) ?_
  unfold hL
  simp -implicitDefEqProofs [go_sem]
  refine go_loopN 19 (α := {i : Nat // i ≤ l.length ∧ ∀ h ∈ (l.map HR.val).take i, 0 < h.w}) (fun i => [(0, hL l), (5, hL l), (6, .int .i64 l.length), (7, .int .i64 i.1)]) (fun i => []) (fun i => l.length - i.1) ⟨0, by simp⟩ [] (by simp) (by simp) (by simp) (by simp -implicitDefEqProofs [go_sem, hL]) (by simp -implicitDefEqProofs [go_sem]) fun ⟨i, hi, hw⟩ => ?_
  simp -implicitDefEqProofs [go_sem, hL]
  refine ⟨fun h => ?_, fun h => ?_⟩
  · have hg := getE_hr (l := l) (i := i) h
    have hs := rsign_pure l[i].w (hz _ (List.getElem_mem h))
    have es : IntKind.i64.wrap ((i : Int) + 1) = (i + 1 : Nat) := by rw [w64 (by omega)]; omega
    have hgt := @sgnQ_gt l[i].w.val
    generalize sgnQ l[i].w.val = s at *
    simp only [HR.av] at hg
    unfold RQ.av at hs
    simp -implicitDefEqProofs [go_sem, hg]
    refine ⟨h, goC_pure _ hs (by simp -implicitDefEqProofs [go_sem]) ?_⟩
    by_cases h0 : s ≤ 0
    · simp -implicitDefEqProofs [go_sem, h0]
      intro hG
      have h1 := hG.1 l[i].val (List.mem_map.2 ⟨_, List.getElem_mem h, rfl⟩)
      have := hgt.2 h1
      omega
    · simp -implicitDefEqProofs [go_sem, h0, es]
      refine go_again ⟨i + 1, Nat.succ_le_of_lt h, ?_⟩ (by simp only; omega) [] (by simp) (by simp) (by simp) (by simp -implicitDefEqProofs [go_sem, hL]) (by simp -implicitDefEqProofs [go_sem])
      rw [all_take_succ (by simpa using h)]
      refine ⟨hw, ?_⟩
      rw [List.getElem_map]
      exact hgt.1 (by omega)
  · have hii : i = l.length := by omega
    have hall : ∀ h ∈ l.map HR.val, 0 < h.w := by rw [List.take_of_length_le (by simp; omega)] at hw; exact hw
    unfold GoodC
    simp only [List.length_map]
    exact ⟨fun h2 => ⟨fun h4 => ⟨hall, by omega, by omega⟩, fun g => by have := g.2.2; omega⟩, fun h2 g => by have := g.2.1; omega⟩
end Go.Proofs.YtmhnmaklgcppbaaGreat
namespace Go.Proofs.YtmhnmaklgcppbaaGreat
open Go Go.Proofs
set_option linter.unusedSimpArgs false
set_option linter.unusedVariables false
set_option maxRecDepth 20000

/-! ### What is cut -/
def mids : List HQ → List HQ
  | a :: b :: r => a.mid b :: mids (b :: r)
  | _ => []
theorem mids_len : ∀ l : List HQ, (mids l).length = l.length - 1
  | [] => rfl
  | [_] => rfl
  | a :: b :: r => by simp only [mids, List.length_cons, mids_len (b :: r)]; omega
theorem mids_get : ∀ (l : List HQ) (i : Nat) (h : i + 1 < l.length), (mids l)[i]'(by rw [mids_len]; omega) = l[i].mid l[i + 1]
  | [], i, h => by simp at h
  | [_], i, h => by simp at h
  | a :: b :: r, 0, h => rfl
  | a :: b :: r, i + 1, h => by
    have := mids_get (b :: r) i (by simpa using h)
    simpa [mids] using this
def rowN : Nat → List HQ → List HQ
  | 0, l => l
  | i + 1, l => mids (rowN i l)
theorem rowN_len (i : Nat) (l : List HQ) : (rowN i l).length = l.length - i := by
  induction i with
  | zero => rfl
  | succ i ih => simp only [rowN, mids_len, ih]; omega
def hQ0 : HQ := ⟨0, 0, 0⟩
def cutL : Nat → List HQ → List HQ
  | 0, _ => []
  | i + 1, l => cutL i l ++ [(rowN i l).headD hQ0]
def cutR : Nat → List HQ → List HQ
  | 0, _ => []
  | i + 1, l => (rowN i l).getLastD hQ0 :: cutR i l
theorem cutL_len (i : Nat) (l : List HQ) : (cutL i l).length = i := by
  induction i with
  | zero => rfl
  | succ i ih => simp [cutL, ih]
theorem cutR_len (i : Nat) (l : List HQ) : (cutR i l).length = i := by
  induction i with
  | zero => rfl
  | succ i ih => simp [cutR, ih]
theorem mids_all {l : List HQ} {n : Nat} (h : ∀ x ∈ l, x.sz ≤ n) : ∀ x ∈ mids l, x.sz ≤ 2 * n + 2 := by
  intro x hx
  obtain ⟨i, hi, rfl⟩ := List.mem_iff_getElem.1 hx
  rw [mids_len] at hi
  rw [mids_get l i (by omega)]
  have h1 := h l[i] (List.getElem_mem _)
  have h2 := h l[i + 1] (List.getElem_mem _)
  have := HQ.sz_mid l[i] l[i + 1]
  omega
theorem rowN_all {l : List HQ} {n : Nat} (hn : 1 ≤ n) (h : ∀ x ∈ l, x.sz ≤ n) (i : Nat) : ∀ x ∈ rowN i l, x.sz ≤ 4 ^ i * n := by
  induction i with
  | zero => intro x hx; have := h x hx; omega
  | succ i ih =>
    intro x hx
    have h1 := mids_all ih x hx
    have h2 : 1 * 1 ≤ 4 ^ i * n := Nat.mul_le_mul (Nat.pow_pos (by omega)) hn
    rw [Nat.pow_succ, Nat.mul_comm (4 ^ i) 4, Nat.mul_assoc]
    omega

/-! ### Lists that are filled -/
/-- No point at all. -/
def hZ : AV := .agg [.bool false, .sl 0 true [], .sl 0 true [], .bool false, .sl 0 true [], .sl 0 true [], .bool false, .sl 0 true [], .sl 0 true []]
def fil (z : AV) (a : List AV) (n : Nat) : List AV := a ++ List.replicate (n - a.length) z
theorem fil_len {z : AV} {a : List AV} {n : Nat} (h : a.length ≤ n) : (fil z a n).length = n := by simp [fil]; omega
theorem fil_set {z : AV} {a : List AV} {n : Nat} (x : AV) (h : a.length < n) : (fil z a n).set a.length x = fil z (a ++ [x]) n := by
  unfold fil
  obtain ⟨k, hk⟩ : ∃ k, n - a.length = k + 1 := ⟨n - a.length - 1, by omega⟩
  rw [List.set_append_right _ _ (Nat.le_refl _), Nat.sub_self, hk, List.replicate_succ, List.set_cons_zero]
  simp only [List.length_append, List.length_singleton]
  rw [show n - (a.length + 1) = k by omega]
  simp
theorem fil_at {z : AV} {a : List AV} {n i : Nat} (h : a.length ≤ i) (hi : i < n) : (fil z a n)[i]?.getD AV.any = z := by
  unfold fil
  rw [List.getElem?_append_right h, List.getElem?_replicate, if_pos (by omega)]; rfl
theorem fil_full {z : AV} {a : List AV} {n : Nat} (h : a.length = n) : fil z a n = a := by unfold fil; rw [h, Nat.sub_self]; simp
theorem fil_nil (z : AV) (n : Nat) : List.replicate n z = fil z [] n := by simp [fil]

theorem roL_fil {z : AV} {a : List AV} {n : Nat} (hz : ro z) (ha : roL a) : roL (fil z a n) := roL_append.2 ⟨ha, roL_iff.2 fun x hx => by rw [(List.mem_replicate.1 hx).2]; exact hz⟩
theorem ro_hZ : ro hZ := by unfold hZ; simp -implicitDefEqProofs [go_sem]
/-- A list of good points. -/
def qL (l : List HQ) : AV := .sl 9 false (l.map hA)
@[go_sem] theorem roL_hA (l : List HQ) : roL (l.map hA) := roL_map ro_hA
theorem ro_qL (l : List HQ) : ro (qL l) := by unfold qL; simp only [ro]; exact roL_hA l
theorem qL_hL (l : List HQ) : hL (l.map hc) = qL l := by unfold hL qL; rw [List.map_map]; rfl
@[go_sem] theorem renL_hA (rn : Nat → Nat) (l : List HQ) : renL rn (l.map hA) = l.map hA := renL_ro rn _ (roL_hA l)
@[go_sem] theorem cloL_hA (n : Nat) (l : List HQ) : cloL n (l.map hA) := cloL_ro _ (roL_hA l)
@[go_sem] theorem fitsL_hA (f : Nat → BS) (l : List HQ) : fitsL f (l.map hA) := fitsL_ro f _ (roL_hA l)
@[go_sem] theorem viewL_hA (f : Nat → BS) (l : List HQ) : viewL f (l.map hA) = l.map hA := viewL_ro f _ (roL_hA l)
@[go_sem] theorem roL_fh (n : Nat) (l : List HQ) : roL (fil hZ (l.map hA) n) := roL_fil ro_hZ (roL_hA l)
@[go_sem] theorem renL_fh (rn : Nat → Nat) (n : Nat) (l : List HQ) : renL rn (fil hZ (l.map hA) n) = fil hZ (l.map hA) n := renL_ro rn _ (roL_fh n l)
@[go_sem] theorem cloL_fh (m n : Nat) (l : List HQ) : cloL m (fil hZ (l.map hA) n) := cloL_ro _ (roL_fh n l)

@[go_sem] theorem roL_f0 (n : Nat) : roL (fil hZ [] n) := roL_fil ro_hZ trivial
@[go_sem] theorem renL_f0 (rn : Nat → Nat) (n : Nat) : renL rn (fil hZ [] n) = fil hZ [] n := renL_ro rn _ (roL_f0 n)
@[go_sem] theorem cloL_f0 (m n : Nat) : cloL m (fil hZ [] n) := cloL_ro _ (roL_f0 n)
theorem hr_agg (h : HR) : ∃ cs, h.av = .agg cs ∧ cs.length = 9 ∧ cs.take 9 = cs ∧ roL cs := by
  have := ro_hr h
  unfold HR.av at this ⊢
  exact ⟨_, rfl, rfl, rfl, by simpa only [ro] using this⟩
/-- Both halves as they are being filled. -/
def cutB (z : AV) (A C : List AV) (n i : Nat) : List AV := fil z A n ++ (List.replicate (n - i) z ++ C)
theorem cutB_len {z : AV} {A C : List AV} {n i : Nat} (hA : A.length = i) (hC : C.length = i) (hi : i ≤ n) : (cutB z A C n i).length = n + n := by
  unfold cutB; rw [List.length_append, fil_len (by omega), List.length_append, List.length_replicate]; omega
theorem cutB_at1 {z : AV} {A C : List AV} {n i : Nat} (hA : A.length = i) (hi : i < n) : (cutB z A C n i)[i]?.getD AV.any = z := by
  unfold cutB
  rw [List.getElem?_append_left (by rw [fil_len (by omega)]; exact hi)]
  exact fil_at (by omega) hi
theorem cutB_at2 {z x : AV} {A C : List AV} {n i k : Nat} (hA : A.length = i) (hk : n = i + k + 1) : ((cutB z A C n i).set i x)[n + k]?.getD AV.any = z := by
  rw [List.getElem?_set_ne (by omega)]
  unfold cutB
  rw [List.getElem?_append_right (by rw [fil_len (by omega)]; omega), fil_len (by omega), List.getElem?_append_left (by rw [List.length_replicate]; omega), List.getElem?_replicate, if_pos (by omega)]; rfl
theorem cutB_set {z x y : AV} {A C : List AV} {n i k : Nat} (hA : A.length = i) (hk : n = i + k + 1) : ((cutB z A C n i).set i x).set (n + k) y = cutB z (A ++ [x]) (y :: C) n (i + 1) := by
  have h1 := fil_set (z := z) (a := A) (n := n) x (by omega)
  rw [hA] at h1
  unfold cutB
  rw [List.set_append_left _ _ (by rw [fil_len (by omega)]; omega), h1, List.set_append_right _ _ (by rw [fil_len (by simp; omega)]; omega), fil_len (by simp; omega)]
  congr 1
  rw [show n + k - n = k by omega, show n - i = k + 1 by omega, show n - (i + 1) = k by omega]
  rw [List.replicate_succ', List.append_assoc, List.set_append_right _ _ (by simp)]
  simp
theorem cutB_zero (z : AV) (n : Nat) : List.replicate (n + n) z = cutB z [] [] n 0 := by
  unfold cutB; rw [← fil_nil]; simp
theorem roL_cutB {z : AV} {A C : List AV} {n i : Nat} (hz : ro z) (hA : roL A) (hC : roL C) : roL (cutB z A C n i) :=
  roL_append.2 ⟨roL_fil hz hA, roL_append.2 ⟨roL_iff.2 fun x hx => by rw [(List.mem_replicate.1 hx).2]; exact hz, hC⟩⟩
set_option maxHeartbeats 4000000 in
theorem cut_pure (l : List HR) (hz : ∀ h ∈ l, h.In 16777216) (hG : GoodC (l.map HR.val)) : Pure Tryz.prog 17 [hL l] (.tup [qL (cutL l.length (l.map HR.val)), qL (cutR l.length (l.map HR.val)), .int .i64 0]) := by
  have hg := cgood_pure l (by have := hG.2.2; simp at this; omega) (fun h hh => (hz h hh).w.sm.ok)
  rw [decide_eq_true hG] at hg
  have hn2 : 2 ≤ l.length := by have := hG.2.1; simpa using this
  have hn4 : l.length ≤ 4 := by have := hG.2.2; simpa using this
  obtain ⟨v, hv⟩ : ∃ v, v = l.map HR.val := ⟨_, rfl⟩
  rw [← hv]
  have hvl : v.length = l.length := by rw [hv]; simp
  refine Pure.of_go mixed Tryz.func17 rfl (rs := [.tmp 2, .tmp 3, .tmp 4]) rfl (by kernel_rfl) (by simp only [ro, roL]; exact ⟨ro_qL _, ro_qL _, trivial, trivial⟩) ?_
  obtain ⟨n, hn⟩ : ∃ n, n = l.length := ⟨_, rfl⟩
  unfold hL qL at *
  simp -implicitDefEqProofs [go_sem]
  refine goC_pure _ hg (by simp -implicitDefEqProofs [go_sem]) ?_
  simp -implicitDefEqProofs [go_sem]
  refine ⟨by omega, ?_⟩
  rw [← hn] at hvl hn2 hn4 ⊢
  change go _ _ _ _ _ _ (upd (fun x => BS.fresh) 0 (BS.live 9 (List.replicate n hZ))) _
  rw [fil_nil hZ n]
  obtain ⟨cz, z1, z2, z3⟩ : ∃ cz, hZ = .agg cz ∧ cz.drop 9 = [] ∧ cz.length = 9 := ⟨_, rfl, rfl, rfl⟩
  obtain ⟨V, hV⟩ : ∃ V, V = v.map hA := ⟨_, rfl⟩
  have hVl : V.length = n := by rw [hV]; simp [hvl]
  have hVr : roL V := by rw [hV]; exact roL_hA v
  have hVt : ∀ i, roL (fil hZ (V.take i) n) := fun i => roL_fil ro_hZ (roL_take hVr)
  refine go_loopN 9 (α := {i : Nat // i ≤ n}) (fun i => [(0, hL l), (5, .own 9 0 0 n), (19, hL l), (20, .int .i64 n), (21, .int .i64 i.1)]) (fun i => [(0, .live 9 (fil hZ (V.take i.1) n))]) (fun i => n - i.1) ⟨0, by omega⟩ [] (by simp) (by simp) (by simp) (by simp -implicitDefEqProofs [go_sem, hL, ← hn]) (by simp -implicitDefEqProofs [go_sem]) fun ⟨i, hi⟩ => ?_
  simp -implicitDefEqProofs [go_sem, hL]
  refine ⟨fun h => ?_, fun h => ?_⟩
  · have hge := getE_hr (l := l) (i := i) (by omega)
    have hgd := hgood_pure l[i] (hz _ (List.getElem_mem _)).mono
    have hvi : l[i].val = v[i]'(by omega) := by subst hv; simp
    rw [hvi] at hgd
    have es : IntKind.i64.wrap ((i : Int) + 1) = (i + 1 : Nat) := by rw [w64 (by omega)]; omega
    have htl : (V.take i).length = i := by rw [List.length_take]; omega
    have hat := fil_at (z := hZ) (a := V.take i) (n := n) (i := i) (by omega) (by omega)
    obtain ⟨c1, k1, k2, k3, k4⟩ := hr_agg l[i]
    obtain ⟨c2, m1, m2, m3, m4⟩ := hr_agg (hc v[i])
    change hA v[i] = _ at m1
    have hst := fil_set (z := hZ) (a := V.take i) (n := n) (.agg c2) (by omega)
    have hsucc : V.take i ++ [.agg c2] = V.take (i + 1) := by
      rw [List.take_succ_eq_append_getElem (by omega), ← m1]; subst hV; simp
    rw [htl, hsucc] at hst
    rw [k1] at hge hgd
    rw [m1] at hgd
    have r0 := renL_ro (nm []) _ (hVt (i + 1))
    have r1 := cloL_ro (n := 9) _ (hVt (i + 1))
    have hfl := fil_len (z := hZ) (a := V.take i) (n := n) (by omega)
    have hat := hat.trans z1
    simp -implicitDefEqProofs [go_sem, hge, k2, k3]
    refine ⟨by omega, goC_pure _ hgd (by simp -implicitDefEqProofs [go_sem, k4]) ?_⟩
    simp -implicitDefEqProofs [go_sem, hat, hfl, m2, m3, z2, z3, es, hst]
    refine ⟨by omega, go_again ⟨i + 1, by omega⟩ (by simp only; omega) [] (by simp) (by simp) (by simp) (by simp -implicitDefEqProofs [go_sem, hL]) (by simp -implicitDefEqProofs [go_sem, r0, r1])⟩
  · have hin : i = n := by omega
    subst hin
    have hff : fil hZ (V.take i) i = V := by rw [List.take_of_length_le (by omega)]; exact fil_full hVl
    rw [hff]
    clear hi
    have e2 : IntKind.i64.wrap (2 * (l.length : Int)) = (i + i : Nat) := by rw [w64 (by omega)]; omega
    obtain ⟨m, hm⟩ : ∃ m, m = i + i := ⟨_, rfl⟩
    rw [← hm] at e2
    rw [e2, ← hn]
    simp -implicitDefEqProofs [go_sem]
    refine ⟨by omega, by omega, ?_⟩
    have hvs : ∀ x ∈ v, x.sz ≤ 16777216 := by
      intro x hx
      rw [hv] at hx
      obtain ⟨y, hy, rfl⟩ := List.mem_map.1 hx
      exact (hz y hy).sz
    have hrs : ∀ j, j ≤ 4 → ∀ x ∈ rowN j v, x.sz ≤ 4294967296 := fun j hj x hx => by
      have h1 := rowN_all (by omega) hvs j x hx
      have h2 : 4 ^ j ≤ 4 ^ 4 := Nat.pow_le_pow_right (by omega) hj
      have h3 : 4 ^ j * 16777216 ≤ 4 ^ 4 * 16777216 := Nat.mul_le_mul_right _ h2
      omega
    have hmi : m - i = i := by omega
    rw [hmi]
    change go _ _ _ _ _ _ (dB 22 (upd (upd (hp 9 []) 0 (BS.live 9 V)) 9 (BS.live 9 (List.replicate m hZ)))) _
    rw [hm, cutB_zero]
    have hBr : ∀ j, roL (cutB hZ ((cutL j v).map hA) ((cutR j v).map hA) i j) := fun j => roL_cutB ro_hZ (roL_hA _) (roL_hA _)
    have hRr : ∀ j, roL ((rowN j v).map hA) := fun j => roL_hA _
    clear hz hg
    refine go_loopN 29 (α := {j : Nat // j ≤ i}) (fun j => [(0, hL l), (2, .own 9 9 0 i), (3, .own 9 9 i i), (5, .own 9 0 0 ((rowN j.1 v).map hA).length), (47, .int .i64 i), (48, .int .i64 j.1)]) (fun j => [(0, .live 9 ((rowN j.1 v).map hA)), (9, .live 9 (cutB hZ ((cutL j.1 v).map hA) ((cutR j.1 v).map hA) i j.1))]) (fun j => i - j.1) ⟨0, by omega⟩ [] (by simp) (fun _ _ _ _ h => h) (by omega) (by simp -implicitDefEqProofs [go_sem, hL, rowN, hvl]) (by simp -implicitDefEqProofs [go_sem, rowN, cutL, cutR, ← hV]; exact ⟨⟨(renL_ro _ _ hVr).symm, cloL_ro _ hVr⟩, (renL_ro _ _ (by have := hBr 0; simpa [cutL, cutR] using this)).symm, cloL_ro _ (by have := hBr 0; simpa [cutL, cutR] using this)⟩) fun ⟨j, hj⟩ => ?_
    simp -implicitDefEqProofs [go_sem, hL]
    refine ⟨fun h => ?_, fun h => ?_⟩
    · have hrl := rowN_len j v
      have hrz := hrs j (by omega)
      have hRL := hRr j
      have cL1 : cutL (j + 1) v = cutL j v ++ [(rowN j v).headD hQ0] := rfl
      have cR1 : cutR (j + 1) v = (rowN j v).getLastD hQ0 :: cutR j v := rfl
      have rN1 : rowN (j + 1) v = mids (rowN j v) := rfl
      have hB1 := hBr (j + 1)
      obtain ⟨ρ, hρ⟩ : ∃ ρ, ρ = rowN j v := ⟨_, rfl⟩
      rw [← hρ] at hrl hrz hRL cL1 cR1 rN1
      obtain ⟨k, hk⟩ : ∃ k, i = j + k + 1 := ⟨i - j - 1, by omega⟩
      have hρk : ρ.length = k + 1 := by omega
      have e1 : IntKind.i64.wrap ((ρ.length : Int) - 1) = (k : Nat) := by rw [w64 (by omega)]; omega
      obtain ⟨c0, k1, k2, k3, k4⟩ := hr_agg (hc ρ[0])
      obtain ⟨ck, m1, m2, m3, m4⟩ := hr_agg (hc ρ[k])
      have g0 : (Option.map hA ρ[0]?).getD AV.any = .agg c0 := by rw [List.getElem?_eq_getElem (by omega)]; exact k1
      have gk : (Option.map hA ρ[k]?).getD AV.any = .agg ck := by rw [List.getElem?_eq_getElem (by omega)]; exact m1
      have hgd := hgood_pure (hc ρ[k]) (hc_in (hrz _ (List.getElem_mem _)))
      rw [hc_val] at hgd
      change Pure _ _ _ (HR.av (hc ρ[k])) at hgd
      rw [m1] at hgd
      have lA : ((cutL j v).map hA).length = j := by rw [List.length_map, cutL_len]
      have lC : ((cutR j v).map hA).length = j := by rw [List.length_map, cutR_len]
      have b1 := (cutB_at1 (z := hZ) (A := (cutL j v).map hA) (C := (cutR j v).map hA) (n := i) (i := j) lA h).trans z1
      have b2 := fun x => (cutB_at2 (z := hZ) (x := x) (A := (cutL j v).map hA) (C := (cutR j v).map hA) (n := i) (i := j) (k := k) lA hk).trans z1
      have b3 := cutB_set (z := hZ) (x := .agg c0) (y := .agg ck) (A := (cutL j v).map hA) (C := (cutR j v).map hA) (n := i) (i := j) (k := k) lA hk
      have bl := cutB_len (z := hZ) (A := (cutL j v).map hA) (C := (cutR j v).map hA) (n := i) (i := j) lA lC (by omega)
      have b4 : ((cutL j v).map hA) ++ [.agg c0] = (cutL (j + 1) v).map hA := by
        rw [cL1, List.map_append, ← k1]
        cases ρ with
        | nil => simp at hρk
        | cons a r => rfl
      have b5 : .agg ck :: ((cutR j v).map hA) = (cutR (j + 1) v).map hA := by
        rw [cR1, List.map_cons, ← m1]
        have : ρ.getLastD hQ0 = ρ[k] := by
          rw [List.getLastD_eq_getLast?, List.getLast?_eq_getElem?, show ρ.length - 1 = k by omega, List.getElem?_eq_getElem (by omega)]; rfl
        rw [this]; rfl
      rw [b4, b5] at b3
      generalize hBj : cutB hZ ((cutL j v).map hA) ((cutR j v).map hA) i j = Bj at *
      generalize hBj1 : cutB hZ ((cutL (j + 1) v).map hA) ((cutR (j + 1) v).map hA) i (j + 1) = Bj1 at *
      have e2 : (0 : Int) ≤ (k : Nat) := by omega
      simp -implicitDefEqProofs [go_sem, ← hρ, e1, g0, gk, k2, k3, m2, m3]
      refine ⟨by omega, by omega, goD_pure _ hgd (by simp -implicitDefEqProofs [go_sem, m4]) ?_⟩
      simp -implicitDefEqProofs [go_sem, ← hρ, e1, g0, gk, k2, k3, m2, m3, b1, b2, b3, bl, z2, z3]
      refine ⟨h, by omega, by omega, by omega, ?_⟩
      change go _ _ _ _ _ _ (upd (dB 45 (upd (upd (upd (upd (hp 29 []) 9 (BS.live 9 Bj)) 0 (BS.live 9 (List.map hA ρ))) 9 (BS.live 9 (Bj.set j (AV.agg c0)))) 9 (BS.live 9 Bj1))) 45 (BS.live 9 (List.replicate k hZ))) 46
      rw [fil_nil hZ k]
      obtain ⟨M, hM⟩ : ∃ M, M = (mids ρ).map hA := ⟨_, rfl⟩
      have hMl : M.length = k := by rw [hM, List.length_map, mids_len]; omega
      have hMr : roL M := by rw [hM]; exact roL_hA _
      have hMt : ∀ q, roL (fil hZ (M.take q) k) := fun q => roL_fil ro_hZ (roL_take hMr)
      refine go_loopN 59 (α := {q : Nat // q ≤ k}) (fun q => [(0, hL l), (2, .own 9 9 0 i), (3, .own 9 9 i i), (5, .own 9 0 0 ρ.length), (11, .own 9 45 0 k), (47, .int .i64 i), (48, .int .i64 j), (71, .int .i64 k), (72, .int .i64 q.1)]) (fun q => [(0, .live 9 (ρ.map hA)), (9, .live 9 Bj1), (45, .live 9 (fil hZ (M.take q.1) k))]) (fun q => k - q.1) ⟨0, by omega⟩ [] (by simp) (fun _ _ _ _ h => h) (by omega) (by simp -implicitDefEqProofs [go_sem, hL]) (by simp -implicitDefEqProofs [go_sem]; exact ⟨(renL_ro _ _ hB1).symm, cloL_ro _ hB1⟩) fun ⟨q, hq⟩ => ?_
      simp -implicitDefEqProofs [go_sem, hL]
      refine ⟨fun h5 => ?_, fun h5 => ?_⟩
      · obtain ⟨ca, x1, x2, x3, x4⟩ := hr_agg (hc ρ[q])
        obtain ⟨cb, y1, y2, y3, y4⟩ := hr_agg (hc ρ[q + 1])
        obtain ⟨cm, w1, w2, w3, w4⟩ := hr_agg (hc (ρ[q].mid ρ[q + 1]))
        have ga : (Option.map hA ρ[q]?).getD AV.any = .agg ca := by rw [List.getElem?_eq_getElem (by omega)]; exact x1
        have gb : (Option.map hA ρ[q + 1]?).getD AV.any = .agg cb := by rw [List.getElem?_eq_getElem (by omega)]; exact y1
        have hmd := middle_pure (hc ρ[q]) (hc ρ[q + 1]) (hc_in (hrz _ (List.getElem_mem _))) (hc_in (hrz _ (List.getElem_mem _)))
        rw [hc_val, hc_val] at hmd
        change Pure _ _ _ (HR.av (hc (ρ[q].mid ρ[q + 1]))) at hmd
        rw [x1, y1, w1] at hmd
        have e3 : IntKind.i64.wrap ((q : Int) + 1) = (q + 1 : Nat) := by rw [w64 (by omega)]; omega
        obtain ⟨q1, hq1⟩ : ∃ x, x = q + 1 := ⟨_, rfl⟩
        rw [← hq1] at e3 gb
        have htl : (M.take q).length = q := by rw [List.length_take]; omega
        have hat := (fil_at (z := hZ) (a := M.take q) (n := k) (i := q) (by omega) (by omega)).trans z1
        have hst := fil_set (z := hZ) (a := M.take q) (n := k) (.agg cm) (by omega)
        have hsucc : M.take q ++ [.agg cm] = M.take q1 := by
          rw [hq1, List.take_succ_eq_append_getElem (by omega), ← w1]; subst hM
          simp only [List.getElem_map, mids_get ρ q (by omega)]; rfl
        rw [htl, hsucc] at hst
        have hfl := fil_len (z := hZ) (a := M.take q) (n := k) (by omega)
        have r0 := renL_ro (nm []) _ (hMt q1)
        have r1 := cloL_ro (n := 59) _ (hMt q1)
        have r2 := renL_ro (nm []) _ hB1
        have r3 := cloL_ro (n := 59) _ hB1
        have u1 : q1 ≤ k := by omega
        have u2 : q < k + 1 := by omega
        have u3 : q1 < k + 1 := by omega
        simp -implicitDefEqProofs [go_sem, e3, ga, gb, x2, x3, y2, y3]
        refine ⟨by omega, by omega, goD_pure _ hmd (by simp -implicitDefEqProofs [go_sem, x4, y4]) ?_⟩
        simp -implicitDefEqProofs [go_sem, e3, ga, gb, w2, w3, hat, hst, hfl, z2, z3]
        refine ⟨by omega, go_again ⟨q1, u1⟩ (by simp only; omega) [] (by simp) (fun _ _ _ _ h => h) (by omega) (by simp -implicitDefEqProofs [go_sem, hL]) (by simp -implicitDefEqProofs [go_sem]; exact ⟨⟨r2.symm, r3⟩, r0.symm, r1⟩)⟩
      · have hqk : q = k := by omega
        subst hqk
        have hff2 : fil hZ (M.take q) q = M := by rw [List.take_of_length_le (by omega)]; exact fil_full hMl
        have es : IntKind.i64.wrap ((j : Int) + 1) = (j + 1 : Nat) := by rw [w64 (by omega)]; omega
        obtain ⟨j1, hj1⟩ : ∃ x, x = j + 1 := ⟨_, rfl⟩
        rw [← hj1] at es rN1 hBj1
        rw [hff2, es]
        have l1 : (rowN j1 v).length = q := by rw [rN1, mids_len]; omega
        refine go_again ⟨j1, by omega⟩ (by simp only; omega) [(0, 45)] (by simp) (by simp [go_sem]) (by omega) (by simp -implicitDefEqProofs [go_sem, hL, l1]) (by simp -implicitDefEqProofs [go_sem, rN1, ← hM, hBj1]; exact ⟨⟨(renL_ro _ _ hMr).symm, cloL_ro _ hMr⟩, (renL_ro _ _ (by rw [hj1] at *; exact hB1)).symm, cloL_ro _ hB1⟩)
    · have hji : j = i := by omega
      subst hji
      have lA : ((cutL j v).map hA).length = j := by rw [List.length_map, cutL_len]
      have lC : ((cutR j v).map hA).length = j := by rw [List.length_map, cutR_len]
      have hb : cutB hZ ((cutL j v).map hA) ((cutR j v).map hA) j j = (cutL j v).map hA ++ (cutR j v).map hA := by
        unfold cutB; rw [fil_full lA]; simp
      rw [hb, List.take_append_of_le_length (by omega), List.take_of_length_le (by omega), List.drop_append_of_le_length (by omega), List.drop_of_length_le (by omega), List.nil_append, List.take_of_length_le (by omega)]
      refine ⟨⟨rfl, rfl⟩, ?_, ?_⟩ <;> simp [cutL_len, cutR_len]
end Go.Proofs.YtmhnmaklgcppbaaGreat
namespace Go.Proofs.YtmhnmaklgcppbaaGreat
open Go Go.Proofs
set_option linter.unusedSimpArgs false
set_option linter.unusedVariables false
set_option maxRecDepth 20000

theorem cut_none (l : List HR) (hl : l.length < 1099511627776) (hz : ∀ h ∈ l, h.w.Ok) (hG : ¬ GoodC (l.map HR.val)) : Pure Tryz.prog 17 [hL l] (.tup [.sl 0 true [], .sl 0 true [], .int .i64 11]) := by
  have hg := cgood_pure l hl hz
  rw [decide_eq_false hG] at hg
  refine Pure.of_go mixed Tryz.func17 rfl (rs := [.tmp 2, .tmp 3, .tmp 4]) rfl (by kernel_rfl) (by simp -implicitDefEqProofs [go_sem]) ?_
  unfold hL at *
  simp -implicitDefEqProofs [go_sem]
  refine goC_pure _ hg (by simp -implicitDefEqProofs [go_sem]) ?_
  simp -implicitDefEqProofs [go_sem]

/-! ### Halves are curves -/
theorem midQ_pos {a b : Rat} (ha : 0 < a) (hb : 0 < b) : 0 < midQ a b := by unfold midQ half; grind
theorem mids_pos : ∀ {l : List HQ}, (∀ h ∈ l, 0 < h.w) → ∀ h ∈ mids l, 0 < h.w
  | [], _, h, hh => by simp [mids] at hh
  | [_], _, h, hh => by simp [mids] at hh
  | a :: b :: r, hl, h, hh => by
    simp only [mids, List.mem_cons] at hh
    rcases hh with rfl | hh
    · exact midQ_pos (hl a (by simp)) (hl b (by simp))
    · exact mids_pos (fun x hx => hl x (by simp only [List.mem_cons] at hx ⊢; exact .inr hx)) h hh
theorem rowN_pos {l : List HQ} (hl : ∀ h ∈ l, 0 < h.w) (i : Nat) : ∀ h ∈ rowN i l, 0 < h.w := by
  induction i with
  | zero => exact hl
  | succ i ih => exact mids_pos ih
theorem headD_mem {l : List HQ} (h : 0 < l.length) : l.headD hQ0 ∈ l := by cases l with | nil => simp at h | cons a r => simp
theorem lastD_mem {l : List HQ} (h : 0 < l.length) : l.getLastD hQ0 ∈ l := by
  have hne : l ≠ [] := by intro h0; subst h0; simp at h
  rw [List.getLastD_eq_getLast?, List.getLast?_eq_some_getLast hne]; exact List.getLast_mem hne
theorem cut_mem {l : List HQ} (k : Nat) (hk : k ≤ l.length) : (∀ h ∈ cutL k l, ∃ i, i < k ∧ h ∈ rowN i l) ∧ ∀ h ∈ cutR k l, ∃ i, i < k ∧ h ∈ rowN i l := by
  induction k with
  | zero => exact ⟨fun h hh => by simp [cutL] at hh, fun h hh => by simp [cutR] at hh⟩
  | succ k ih =>
    obtain ⟨h1, h2⟩ := ih (by omega)
    have hlen : 0 < (rowN k l).length := by rw [rowN_len]; omega
    constructor
    · intro h hh
      simp only [cutL, List.mem_append, List.mem_singleton] at hh
      rcases hh with hh | rfl
      · obtain ⟨i, hi, hm⟩ := h1 h hh; exact ⟨i, by omega, hm⟩
      · exact ⟨k, by omega, headD_mem hlen⟩
    · intro h hh
      simp only [cutR, List.mem_cons] at hh
      rcases hh with rfl | hh
      · exact ⟨k, by omega, lastD_mem hlen⟩
      · obtain ⟨i, hi, hm⟩ := h2 h hh; exact ⟨i, by omega, hm⟩
theorem cut_good {l : List HQ} (h : GoodC l) : GoodC (cutL l.length l) ∧ GoodC (cutR l.length l) := by
  obtain ⟨h1, h2, h3⟩ := h
  obtain ⟨m1, m2⟩ := cut_mem (l := l) l.length (Nat.le_refl _)
  refine ⟨⟨fun x hx => ?_, by rw [cutL_len]; exact h2, by rw [cutL_len]; exact h3⟩, ⟨fun x hx => ?_, by rw [cutR_len]; exact h2, by rw [cutR_len]; exact h3⟩⟩
  · obtain ⟨i, _, hm⟩ := m1 x hx; exact rowN_pos h1 i x hm
  · obtain ⟨i, _, hm⟩ := m2 x hx; exact rowN_pos h1 i x hm
theorem cut_sz {l : List HQ} {n : Nat} (hn : 1 ≤ n) (hl : l.length ≤ 4) (h : ∀ x ∈ l, x.sz ≤ n) : (∀ x ∈ cutL l.length l, x.sz ≤ 64 * n) ∧ ∀ x ∈ cutR l.length l, x.sz ≤ 64 * n := by
  obtain ⟨m1, m2⟩ := cut_mem (l := l) l.length (Nat.le_refl _)
  have key : ∀ i, i < l.length → ∀ x ∈ rowN i l, x.sz ≤ 64 * n := fun i hi x hx => by
    have h1 := rowN_all hn h i x hx
    have h2 : 4 ^ i ≤ 4 ^ 3 := Nat.pow_le_pow_right (by omega) (by omega)
    exact Nat.le_trans h1 (Nat.mul_le_mul_right _ h2)
  exact ⟨fun x hx => by obtain ⟨i, hi, hm⟩ := m1 x hx; exact key i hi x hm, fun x hx => by obtain ⟨i, hi, hm⟩ := m2 x hx; exact key i hi x hm⟩

def cut2 (p : List HQ) : List (List HQ) := [cutL p.length p, cutR p.length p]
def manyQ : Nat → List HQ → List (List HQ)
  | 0, v => [v]
  | d + 1, v => (manyQ d v).flatMap cut2
theorem manyQ_len (d : Nat) (v : List HQ) : (manyQ d v).length = 2 ^ d := by
  induction d with
  | zero => rfl
  | succ d ih =>
    have : ∀ ls : List (List HQ), (ls.flatMap cut2).length = 2 * ls.length := fun ls => by
      induction ls with
      | nil => rfl
      | cons a r ih => rw [List.flatMap_cons, List.length_append, ih]; simp [cut2]; omega
    rw [manyQ, this, ih, Nat.pow_succ]; omega
theorem manyQ_all {v : List HQ} {n : Nat} (hn : 1 ≤ n) (hG : GoodC v) (hs : ∀ x ∈ v, x.sz ≤ n) (d : Nat) : ∀ p ∈ manyQ d v, GoodC p ∧ p.length = v.length ∧ ∀ x ∈ p, x.sz ≤ 64 ^ d * n := by
  induction d with
  | zero => intro p hp; simp only [manyQ, List.mem_singleton] at hp; subst hp; exact ⟨hG, rfl, by simpa using hs⟩
  | succ d ih =>
    intro p hp
    simp only [manyQ, List.mem_flatMap] at hp
    obtain ⟨q, hq, hp⟩ := hp
    obtain ⟨g1, g2, g3⟩ := ih q hq
    obtain ⟨c1, c2⟩ := cut_good g1
    have h64 : 1 * 1 ≤ 64 ^ d * n := Nat.mul_le_mul (Nat.pow_pos (by omega)) hn
    obtain ⟨s1, s2⟩ := cut_sz (n := 64 ^ d * n) (by omega) g1.2.2 g3
    rw [Nat.pow_succ, Nat.mul_comm (64 ^ d) 64, Nat.mul_assoc]
    simp only [cut2, List.mem_cons, List.not_mem_nil, or_false] at hp
    rcases hp with rfl | rfl
    · exact ⟨c1, by rw [cutL_len]; exact g2, s1⟩
    · exact ⟨c2, by rw [cutR_len]; exact g2, s2⟩
end Go.Proofs.YtmhnmaklgcppbaaGreat
namespace Go.Proofs.YtmhnmaklgcppbaaGreat
open Go Go.Proofs
set_option linter.unusedSimpArgs false
set_option linter.unusedVariables false
set_option maxRecDepth 20000

def qLL (ls : List (List HQ)) : AV := .sl 1 false (ls.map qL)
@[go_sem] theorem roL_qL (ls : List (List HQ)) : roL (ls.map qL) := roL_map ro_qL
theorem ro_qLL (ls : List (List HQ)) : ro (qLL ls) := by unfold qLL; simp only [ro]; exact roL_qL ls
@[go_sem] theorem renL_qL (rn : Nat → Nat) (l : List (List HQ)) : renL rn (l.map qL) = l.map qL := renL_ro rn _ (roL_qL l)
@[go_sem] theorem cloL_qL (n : Nat) (l : List (List HQ)) : cloL n (l.map qL) := cloL_ro _ (roL_qL l)
@[go_sem] theorem fitsL_qL (f : Nat → BS) (l : List (List HQ)) : fitsL f (l.map qL) := fitsL_ro f _ (roL_qL l)
@[go_sem] theorem viewL_qL (f : Nat → BS) (l : List (List HQ)) : viewL f (l.map qL) = l.map qL := viewL_ro f _ (roL_qL l)

theorem map_hc_val (p : List HQ) : (p.map hc).map HR.val = p := by
  rw [List.map_map]
  conv => rhs; rw [← List.map_id p]
  exact List.map_congr_left fun x _ => hc_val x
theorem cutq_pure (p : List HQ) (hs : ∀ x ∈ p, x.sz ≤ 16777216) (hG : GoodC p) : Pure Tryz.prog 17 [qL p] (.tup [qL (cutL p.length p), qL (cutR p.length p), .int .i64 0]) := by
  have h := cut_pure (p.map hc) (fun h hh => by
    obtain ⟨x, hx, rfl⟩ := List.mem_map.1 hh
    exact hc_in (hs x hx)) (by rw [map_hc_val]; exact hG)
  rw [map_hc_val, qL_hL, List.length_map] at h
  exact h
/-- A list that is turned, element by element. -/
def trn (V R : List AV) (i : Nat) : List AV := V.take i ++ R.drop i
theorem trn_at {V R : List AV} {i : Nat} (h : V.length = R.length) (hi : i < V.length) : (trn V R i)[i]?.getD AV.any = R[i] := by
  unfold trn
  rw [List.getElem?_append_right (by rw [List.length_take]; omega), List.length_take, Nat.min_eq_left (by omega), Nat.sub_self, List.getElem?_drop, List.getElem?_eq_getElem (by omega)]; rfl
theorem trn_set {V R : List AV} {i : Nat} (h : V.length = R.length) (hi : i < V.length) : (trn V R i).set i V[i] = trn V R (i + 1) := by
  unfold trn
  rw [List.set_append_right _ _ (by rw [List.length_take]; omega), List.length_take, Nat.min_eq_left (by omega), Nat.sub_self, List.drop_eq_getElem_cons (by omega), List.set_cons_zero, show V.take (i + 1) = V.take i ++ [V[i]] from List.take_succ_eq_append_getElem hi, List.append_assoc]
  rfl
theorem trn_len {V R : List AV} {i : Nat} (h : V.length = R.length) (hi : i ≤ V.length) : (trn V R i).length = V.length := by
  unfold trn; rw [List.length_append, List.length_take, List.length_drop]; omega
theorem trn_zero (V R : List AV) : trn V R 0 = R := by simp [trn]
theorem trn_full {V R : List AV} (h : V.length = R.length) : trn V R V.length = V := by unfold trn; rw [List.take_length, h, List.drop_length, List.append_nil]
theorem roL_trn {V R : List AV} {i : Nat} (hV : roL V) (hR : roL R) : roL (trn V R i) := roL_append.2 ⟨roL_take hV, roL_drop hR⟩
set_option maxHeartbeats 4000000 in
theorem many_pure (l : List HR) (d : Nat) (hd : d ≤ 4) (hz : ∀ h ∈ l, h.In 16) (hG : GoodC (l.map HR.val)) : Pure Tryz.prog 18 [hL l, .int .i64 d] (.tup [qLL (manyQ d (l.map HR.val)), .int .i64 0]) := by
  have hg := cgood_pure l (by have := hG.2.2; simp at this; omega) (fun h hh => (hz h hh).w.sm.ok)
  rw [decide_eq_true hG] at hg
  have hn2 : 2 ≤ l.length := by have := hG.2.1; simpa using this
  have hn4 : l.length ≤ 4 := by have := hG.2.2; simpa using this
  have hne : l ≠ [] := fun h => by subst h; simp at hn2
  obtain ⟨v, hv⟩ : ∃ v, v = l.map HR.val := ⟨_, rfl⟩
  rw [← hv]
  have hvl : v.length = l.length := by rw [hv]; simp
  have hvs : ∀ x ∈ v, x.sz ≤ 16 := by
    intro x hx
    rw [hv] at hx
    obtain ⟨y, hy, rfl⟩ := List.mem_map.1 hx
    exact (hz y hy).sz
  have hma := manyQ_all (v := v) (by omega) (hv ▸ hG) hvs
  refine Pure.of_go mixed Tryz.func18 rfl (rs := [.tmp 4, .tmp 5]) rfl (by kernel_rfl) (by simp only [ro, roL]; exact ⟨ro_qLL _, trivial, trivial⟩) ?_
  unfold hL qLL at *
  have hd0 : ¬ (d : Int) < 0 := by omega
  have hd10 : ¬ (10 : Int) < d := by omega
  simp -implicitDefEqProofs [go_sem, hd0, hd10]
  refine goC_pure _ hg (by simp -implicitDefEqProofs [go_sem]) ?_
  simp -implicitDefEqProofs [go_sem]
  refine CA.of_go mixed Tryz.func66 rfl (rs := [.tmp 2]) rfl (by kernel_rfl) ?_
  simp -implicitDefEqProofs [go_sem, hne]
  refine ⟨by omega, ?_⟩
  obtain ⟨V, hV⟩ : ∃ V, V = v.map hA := ⟨_, rfl⟩
  obtain ⟨R, hR⟩ : ∃ R, R = l.map HR.av := ⟨_, rfl⟩
  have hVR : V.length = R.length := by rw [hV, hR]; simp [hvl]
  have hRl : R.length = l.length := by rw [hR]; simp
  have hTr : ∀ i, roL (trn V R i) := fun i => roL_trn (by rw [hV]; exact roL_hA v) (by rw [hR]; exact roL_hr l)
  rw [← hR, ← trn_zero V R]
  obtain ⟨n, hn⟩ : ∃ n, n = l.length := ⟨_, rfl⟩
  rw [← hn] at hn2 hn4 hvl hRl ⊢
  refine go_loopN 9 (α := {i : Nat // i ≤ n}) (fun i => [(1, .int .i64 d), (6, .own 9 1 0 n), (29, .own 9 1 0 n), (30, .int .i64 n), (31, .int .i64 i.1)]) (fun i => [(1, .live 9 (trn V R i.1))]) (fun i => n - i.1) ⟨0, by omega⟩ [] (by simp) (by simp) (by simp) (by simp -implicitDefEqProofs [go_sem]) (by simp -implicitDefEqProofs [go_sem]; exact ⟨(renL_ro _ _ (hTr 0)).symm, cloL_ro _ (hTr 0)⟩) fun ⟨i, hi⟩ => ?_
  simp -implicitDefEqProofs [go_sem]
  refine ⟨fun h => ?_, fun h => ?_⟩
  · obtain ⟨c1, k1, k2, k3, k4⟩ := hr_agg (l[i]'(by omega))
    obtain ⟨c2, m1, m2, m3, m4⟩ := hr_agg (hc (v[i]'(by omega)))
    have hgd := hgood_pure (l[i]'(by omega)) (hz _ (List.getElem_mem _)).mono
    have hvi : (l[i]'(by omega)).val = v[i]'(by omega) := by subst hv; simp
    rw [hvi] at hgd
    change Pure _ _ _ (HR.av (hc (v[i]'(by omega)))) at hgd
    rw [k1, m1] at hgd
    have hat := trn_at (i := i) hVR (by omega)
    have hst := trn_set (i := i) hVR (by omega)
    have hlen := trn_len (i := i) hVR (by omega)
    have hRi : R[i]'(by omega) = .agg c1 := by subst hR; simp only [List.getElem_map]; exact k1
    have hVi : V[i]'(by omega) = .agg c2 := by subst hV; simp only [List.getElem_map]; exact m1
    rw [hRi] at hat
    rw [hVi] at hst
    have es : IntKind.i64.wrap ((i : Int) + 1) = (i + 1 : Nat) := by rw [w64 (by omega)]; omega
    obtain ⟨i1, hi1⟩ : ∃ x, x = i + 1 := ⟨_, rfl⟩
    rw [← hi1] at es hst
    have hdr : c1.drop 9 = [] := List.drop_of_length_le (by omega)
    have r0 := renL_ro (nm []) _ (hTr i1)
    have r1 := cloL_ro (n := 9) _ (hTr i1)
    simp -implicitDefEqProofs [go_sem, hat, hlen, k2, k3]
    refine ⟨by omega, by omega, goC_pure _ hgd (by simp -implicitDefEqProofs [go_sem, k4]) ?_⟩
    simp -implicitDefEqProofs [go_sem, hat, hlen, m2, m3, hst, hdr, k2, es]
    exact ⟨by omega, by omega, go_again ⟨i1, by omega⟩ (by simp only; omega) [] (by simp) (by simp) (by omega) (by simp -implicitDefEqProofs [go_sem]) (by simp -implicitDefEqProofs [go_sem]; exact ⟨r0.symm, r1⟩)⟩
  · have hin : i = n := by omega
    subst hin
    have hVl : V.length = i := by omega
    have hfull : trn V R i = V := by rw [← hVl]; exact trn_full hVR
    rw [hfull]
    have hVr : roL V := by rw [hV]; exact roL_hA v
    have hVt : V.take i = V := List.take_of_length_le (by omega)
    have hq1 : [AV.sl 9 false V] = [v].map qL := by rw [hV]; rfl
    have hmr : ∀ k, roL ((manyQ k v).map qL) := fun k => roL_qL _
    have hml := fun k => manyQ_len k v
    clear hz hg hTr
    refine go_loopF 1 9 V (by simp -implicitDefEqProofs [go_sem]) 19 (α := {k : Nat // k ≤ d}) (fun k => [(9, .own 1 9 0 (manyQ k.1 v).length), (44, .int .i64 d), (45, .int .i64 k.1)]) (fun k => [(9, .live 1 ((manyQ k.1 v).map qL))]) (fun k => d - k.1) ⟨0, by omega⟩ [] (by simp) (by simp) (by omega) (by simp -implicitDefEqProofs [go_sem, manyQ]) (by simp -implicitDefEqProofs [go_sem, manyQ, hVl, hVt, qL, ← hV]; exact ⟨(renL_ro _ _ hVr).symm, cloL_ro _ hVr⟩) fun ⟨k, hk⟩ => ?_
    simp -implicitDefEqProofs [go_sem]
    refine ⟨fun h2 => ?_, fun h2 => ?_⟩
    · have hmk := hma k
      have hss : ∀ p ∈ manyQ k v, ∀ x ∈ p, x.sz ≤ 16777216 := fun p hp x hx => by
        have h3 := (hmk p hp).2.2 x hx
        have h4 : 64 ^ k ≤ 64 ^ 3 := Nat.pow_le_pow_right (by omega) (by omega)
        have h5 : 64 ^ k * 16 ≤ 64 ^ 3 * 16 := Nat.mul_le_mul_right _ h4
        omega
      have hm1 : manyQ (k + 1) v = (manyQ k v).flatMap cut2 := rfl
      have hlk := hml k
      have hlp : 0 < (manyQ k v).length := by rw [hlk]; exact Nat.pow_pos (by omega)
      have hl16 : (manyQ k v).length ≤ 16 := by
        rw [hlk]
        have : 2 ^ k ≤ 2 ^ 4 := Nat.pow_le_pow_right (by omega) (by omega)
        omega
      obtain ⟨ls, hls⟩ : ∃ ls, ls = manyQ k v := ⟨_, rfl⟩
      rw [← hls] at hmk hss hm1 hlk hlp hl16 ⊢
      refine go_loopN 29 (α := {i : Nat // i ≤ ls.length}) (fun i => [(10, apv 1 18 (((ls.take i.1).flatMap cut2).map qL)), (44, .int .i64 d), (45, .int .i64 k), (47, .own 1 9 0 ls.length), (48, .int .i64 ls.length), (49, .int .i64 i.1)]) (fun i => (9, .live 1 (ls.map qL)) :: apb 1 18 (((ls.take i.1).flatMap cut2).map qL)) (fun i => ls.length - i.1) ⟨0, by omega⟩ [] (by simp) (fun _ _ _ _ h => h) (by omega) (by simp -implicitDefEqProofs [go_sem]) (by simp -implicitDefEqProofs [go_sem, ← hls]) fun ⟨q, hq⟩ => ?_
      simp -implicitDefEqProofs [go_sem]
      refine ⟨fun h3 => ?_, fun h3 => ?_⟩
      · have hc := cutq_pure ls[q] (hss _ (List.getElem_mem _)) (hmk _ (List.getElem_mem _)).1
        have hge : (Option.map qL ls[q]?).getD AV.any = qL ls[q] := by rw [List.getElem?_eq_getElem (by omega)]; rfl
        have hsc : (ls.take (q + 1)).flatMap cut2 = (ls.take q).flatMap cut2 ++ [cutL ls[q].length ls[q], cutR ls[q].length ls[q]] := by
          rw [List.take_succ_eq_append_getElem (by omega), List.flatMap_append]; simp [cut2]
        generalize ls[q] = p at *
        obtain ⟨X, hX⟩ : ∃ X, X = (ls.take q).flatMap cut2 := ⟨_, rfl⟩
        rw [← hX] at hsc ⊢
        have hXl : X.length ≤ 32 := by
          have h6 : ∀ m : List (List HQ), (m.flatMap cut2).length = 2 * m.length := fun m => by
            induction m with
            | nil => rfl
            | cons a r ih => rw [List.flatMap_cons, List.length_append, ih]; simp [cut2]; omega
          rw [hX, h6, List.length_take]; omega
        have es : IntKind.i64.wrap ((q : Int) + 1) = (q + 1 : Nat) := by rw [w64 (by omega)]; omega
        obtain ⟨q1, hq1⟩ : ∃ x, x = q + 1 := ⟨_, rfl⟩
        rw [← hq1] at es hsc
        obtain ⟨c1, hc1⟩ : ∃ c, c = cutL p.length p := ⟨_, rfl⟩
        obtain ⟨c2, hc2⟩ : ∃ c, c = cutR p.length p := ⟨_, rfl⟩
        rw [← hc1, ← hc2] at hsc hc
        unfold qL at hc
        simp -implicitDefEqProofs [go_sem, hge, qL]
        refine ⟨h3, goC_pure _ hc (by simp -implicitDefEqProofs [go_sem]) ?_⟩
        simp -implicitDefEqProofs [go_sem, qL]
        refine goApS_apv (by simp [go_sem]) (by omega) (by omega) (by simp [go_sem]) (by simp; omega) (fun hne => by simp [go_sem, hne]) ?_
        simp -implicitDefEqProofs [go_sem, es]
        refine go_again ⟨q1, by omega⟩ (by simp only; omega) [(18, 30)] (by simp) (by simp [go_sem, hsc]) (by omega) (by simp -implicitDefEqProofs [go_sem, hsc, qL]) (by simp -implicitDefEqProofs [go_sem, hsc, qL])
      · have hqk : q = ls.length := by omega
        subst hqk
        have es : IntKind.i64.wrap ((k : Int) + 1) = (k + 1 : Nat) := by rw [w64 (by omega)]; omega
        obtain ⟨k1, hk1⟩ : ∃ x, x = k + 1 := ⟨_, rfl⟩
        rw [← hk1] at es hm1
        rw [List.take_length, ← hm1, es]
        have hml1 := hml k1
        have hmr1 := hmr k1
        have hne : (manyQ k1 v).map qL ≠ [] := fun h => by
          have h4 := congrArg List.length h
          rw [List.length_map, hml1] at h4
          have := Nat.pow_pos (n := k1) (show 0 < 2 by omega)
          simp at h4
        refine go_again ⟨k1, by omega⟩ (by simp only; omega) [(9, 18)] (by simp) (by simp) (by omega) (by simp -implicitDefEqProofs [go_sem, apv_ne hne]) (by simp -implicitDefEqProofs [go_sem, apb_ne hne])
    · have hkd : k = d := by omega
      subst hkd
      exact List.take_of_length_le (by simp)
end Go.Proofs.YtmhnmaklgcppbaaGreat
namespace Go.Proofs.YtmhnmaklgcppbaaGreat
open Go Go.Proofs
set_option linter.unusedSimpArgs false
set_option linter.unusedVariables false
set_option maxRecDepth 20000

theorem many_arg (l : AV) (hl : ro l) (d : Int) (hd : d < 0 ∨ 10 < d) : Pure Tryz.prog 18 [l, .int .i64 d] (.tup [.sl 0 true [], .int .i64 1]) := by
  refine Pure.of_go mixed Tryz.func18 rfl (rs := [.tmp 4, .tmp 5]) rfl (by kernel_rfl) (by simp -implicitDefEqProofs [go_sem]) ?_
  by_cases h : d < 0
  · simp -implicitDefEqProofs [go_sem, h]
  · have h2 : 10 < d := by omega
    simp -implicitDefEqProofs [go_sem, h, h2]
theorem many_none (l : List HR) (d : Int) (hd : 0 ≤ d ∧ d ≤ 10) (hl : l.length < 1099511627776) (hz : ∀ h ∈ l, h.w.Ok) (hG : ¬ GoodC (l.map HR.val)) : Pure Tryz.prog 18 [hL l, .int .i64 d] (.tup [.sl 0 true [], .int .i64 11]) := by
  have hg := cgood_pure l hl hz
  rw [decide_eq_false hG] at hg
  refine Pure.of_go mixed Tryz.func18 rfl (rs := [.tmp 4, .tmp 5]) rfl (by kernel_rfl) (by simp -implicitDefEqProofs [go_sem]) ?_
  unfold hL at *
  have h1 : ¬ d < 0 := by omega
  have h2 : ¬ 10 < d := by omega
  simp -implicitDefEqProofs [go_sem, h1, h2]
  refine goC_pure _ hg (by simp -implicitDefEqProofs [go_sem]) ?_
  simp -implicitDefEqProofs [go_sem]
end Go.Proofs.YtmhnmaklgcppbaaGreat
namespace Go.Proofs.YtmhnmaklgcppbaaGreat
open Go Go.Proofs
set_option linter.unusedSimpArgs false
set_option linter.unusedVariables false
set_option maxRecDepth 20000

/-- A point with its weight, of the reference. -/
def gA (h : HQ) : AV := .agg [.bool (decide (h.x.num < 0)), qA h.x.num.natAbs, qA h.x.den, .bool (decide (h.y.num < 0)), qA h.y.num.natAbs, qA h.y.den, .bool (decide (h.w.num < 0)), qA h.w.num.natAbs, qA h.w.den]
theorem ro_gA (h : HQ) : ro (gA h) := by unfold gA qA; simp -implicitDefEqProofs [go_sem]
def gL (l : List HQ) : AV := .sl 9 false (l.map gA)
@[go_sem] theorem roL_gA (l : List HQ) : roL (l.map gA) := roL_map ro_gA
theorem ro_gL (l : List HQ) : ro (gL l) := by unfold gL; simp only [ro]; exact roL_gA l
@[go_sem] theorem renL_gA (rn : Nat → Nat) (l : List HQ) : renL rn (l.map gA) = l.map gA := renL_ro rn _ (roL_gA l)
@[go_sem] theorem cloL_gA (n : Nat) (l : List HQ) : cloL n (l.map gA) := cloL_ro _ (roL_gA l)
@[go_sem] theorem fitsL_gA (f : Nat → BS) (l : List HQ) : fitsL f (l.map gA) := fitsL_ro f _ (roL_gA l)
@[go_sem] theorem viewL_gA (f : Nat → BS) (l : List HQ) : viewL f (l.map gA) = l.map gA := viewL_ro f _ (roL_gA l)
theorem ga_agg (h : HQ) : ∃ cs, gA h = .agg cs ∧ cs.length = 9 ∧ cs.take 9 = cs ∧ roL cs := by
  have := ro_gA h
  unfold gA at this ⊢
  exact ⟨_, rfl, rfl, rfl, by simpa only [ro] using this⟩
theorem getE_gA {l : List HQ} {i : Nat} (h : i < l.length) : getE (l.map gA) (i : Int) = gA l[i] := by
  simp [getE, List.getD_eq_getElem?_getD, h]

def mixQ (a b t : Rat) : Rat := a * (1 - t) + b * t
theorem sz_one : sz (1 : Rat) = 1 := by
  have := sz_int 1
  rw [show ((1 : Int) : Rat) = 1 by rfl] at this
  rw [this, show (1 : Int).natAbs = 1 by rfl, nl_one]; rfl
def HQ.mixT (a b : HQ) (t : Rat) : HQ := ⟨mixQ a.x b.x t, mixQ a.y b.y t, mixQ a.w b.w t⟩
theorem gmix1 (a b t : Rat) (ha : sz a ≤ 268435456) (hb : sz b ≤ 268435456) (ht : sz t ≤ 268435456) :
    Pure Tryz.prog 74 [fA a, fA (1 - t)] (fA (a * (1 - t))) ∧ Pure Tryz.prog 74 [fA b, fA t] (fA (b * t)) ∧ Pure Tryz.prog 85 [fA (a * (1 - t)), fA (b * t)] (fA (mixQ a b t)) := by
  have s0 := sz_sub 1 t
  rw [sz_one] at s0
  have s1 := sz_mul a (1 - t)
  have s2 := sz_mul b t
  exact ⟨fmul_pure a (1 - t) (by omega) (by omega), fmul_pure b t (by omega) (by omega), fadd_pure _ _ (by omega) (by omega)⟩

set_option maxHeartbeats 2000000 in
theorem gmix_pure (a b : HQ) (t : Rat) (ha : a.sz ≤ 268435456) (hb : b.sz ≤ 268435456) (ht : sz t ≤ 268435456) : Pure Tryz.prog 67 [gA a, gA b, fA t] (gA (a.mixT b t)) := by
  have h1 := fof_pure 1 1 (by omega) (by omega) (by omega)
  rw [show ((1 : Int) : Rat) / ((1 : Int) : Rat) = 1 by grind] at h1
  have h2 := fsub_pure 1 t (by rw [sz_one]; omega) (by omega)
  have := a.sz_x; have := a.sz_y; have := a.sz_w; have := b.sz_x; have := b.sz_y; have := b.sz_w
  obtain ⟨x1, x2, x3⟩ := gmix1 a.x b.x t (by omega) (by omega) ht
  obtain ⟨y1, y2, y3⟩ := gmix1 a.y b.y t (by omega) (by omega) ht
  obtain ⟨w1, w2, w3⟩ := gmix1 a.w b.w t (by omega) (by omega) ht
  unfold HQ.mixT
  generalize mixQ a.x b.x t = mx at *
  generalize mixQ a.y b.y t = my at *
  generalize mixQ a.w b.w t = mw at *
  generalize a.x * (1 - t) = ax at *
  generalize a.y * (1 - t) = ay at *
  generalize a.w * (1 - t) = aw at *
  generalize b.x * t = bx at *
  generalize b.y * t = by' at *
  generalize b.w * t = bw at *
  generalize 1 - t = u at *
  generalize (1 : Rat) = one at *
  refine Pure.of_go mixed Tryz.func67 rfl (rs := [.cell 6 109]) rfl (by kernel_rfl) (ro_gA _) ?_
  unfold gA fA qA at *
  simp -implicitDefEqProofs [go_sem]
  refine goD_pure _ h1 (by simp -implicitDefEqProofs [go_sem]) ?_
  simp -implicitDefEqProofs [go_sem]
  refine goD_pure _ h2 (by simp -implicitDefEqProofs [go_sem]) ?_
  simp -implicitDefEqProofs [go_sem]
  refine goD_pure _ x1 (by simp -implicitDefEqProofs [go_sem]) ?_
  simp -implicitDefEqProofs [go_sem]
  refine goD_pure _ x2 (by simp -implicitDefEqProofs [go_sem]) ?_
  simp -implicitDefEqProofs [go_sem]
  refine goD_pure _ x3 (by simp -implicitDefEqProofs [go_sem]) ?_
  simp -implicitDefEqProofs [go_sem]
  refine goD_pure _ y1 (by simp -implicitDefEqProofs [go_sem]) ?_
  simp -implicitDefEqProofs [go_sem]
  refine goD_pure _ y2 (by simp -implicitDefEqProofs [go_sem]) ?_
  simp -implicitDefEqProofs [go_sem]
  refine goD_pure _ y3 (by simp -implicitDefEqProofs [go_sem]) ?_
  simp -implicitDefEqProofs [go_sem]
  refine goD_pure _ w1 (by simp -implicitDefEqProofs [go_sem]) ?_
  simp -implicitDefEqProofs [go_sem]
  refine goD_pure _ w2 (by simp -implicitDefEqProofs [go_sem]) ?_
  simp -implicitDefEqProofs [go_sem]
  refine goD_pure _ w3 (by simp -implicitDefEqProofs [go_sem]) ?_
  simp -implicitDefEqProofs [go_sem, rop]
end Go.Proofs.YtmhnmaklgcppbaaGreat
namespace Go.Proofs.YtmhnmaklgcppbaaGreat
open Go Go.Proofs
set_option linter.unusedSimpArgs false
set_option linter.unusedVariables false
set_option maxRecDepth 20000

theorem ggood_pure (l : List HQ) (hl : l.length < 1099511627776) : Pure Tryz.prog 19 [gL l] (.bool (decide (GoodC l))) := by
  refine Pure.of_go mixed Tryz.func19 rfl (rs := [.tmp 2]) rfl (by kernel_rfl) (by simp -implicitDefEqProofs [go_sem]) ?_
  unfold gL
  simp -implicitDefEqProofs [go_sem]
  refine go_loopN 19 (α := {i : Nat // i ≤ l.length ∧ ∀ h ∈ l.take i, 0 < h.w}) (fun i => [(0, gL l), (3, .int .i64 i.1)]) (fun i => []) (fun i => l.length - i.1) ⟨0, by simp⟩ [] (by simp) (by simp) (by simp) (by simp -implicitDefEqProofs [go_sem, gL]) (by simp -implicitDefEqProofs [go_sem]) fun ⟨i, hi, hw⟩ => ?_
  simp -implicitDefEqProofs [go_sem, gL]
  refine ⟨fun h => ?_, fun h => ?_⟩
  · have hg := getE_gA (l := l) (i := i) h
    have hs := fsign_pure l[i].w
    have es : IntKind.i64.wrap ((i : Int) + 1) = (i + 1 : Nat) := by rw [w64 (by omega)]; omega
    have hgt := @sgnQ_gt l[i].w
    generalize sgnQ l[i].w = s at *
    simp only [gA, qA] at hg
    unfold fA qA at hs
    simp -implicitDefEqProofs [go_sem, hg]
    refine ⟨h, goC_pure _ hs (by simp -implicitDefEqProofs [go_sem]) ?_⟩
    by_cases h0 : s ≤ 0
    · simp -implicitDefEqProofs [go_sem, h0]
      intro hG
      have h1 := hG.1 l[i] (List.getElem_mem h)
      have := hgt.2 h1
      omega
    · simp -implicitDefEqProofs [go_sem, h0, es]
      refine go_again ⟨i + 1, Nat.succ_le_of_lt h, ?_⟩ (by simp only; omega) [] (by simp) (by simp) (by simp) (by simp -implicitDefEqProofs [go_sem, gL]) (by simp -implicitDefEqProofs [go_sem])
      rw [all_take_succ h]
      exact ⟨hw, hgt.1 (by omega)⟩
  · have hii : i = l.length := by omega
    have hall : ∀ h ∈ l, 0 < h.w := by rw [List.take_of_length_le (by omega)] at hw; exact hw
    unfold GoodC
    exact ⟨fun h2 => ⟨fun h4 => ⟨hall, by omega, by omega⟩, fun g => by have := g.2.2; omega⟩, fun h2 g => by have := g.2.1; omega⟩

/-- A list that grew by append, as it is told. -/
theorem apv_told {f : Nat → BS} {sz id : Nat} {L : List AV} (hr : roL L) (h : L ≠ [] → f id = .live sz L) : fits f (apv sz id L) ∧ ro (view f (apv sz id L)) ∧ Wk (view f (apv sz id L)) (.sl sz false L) := by
  by_cases h0 : L = []
  · subst h0
    refine ⟨by simp [apv, fits, fitsL], by simp [apv, view, ro, roL], ?_⟩
    simp only [apv, if_true, view]
    exact Wk.nil 0 sz true
  · rw [apv_ne h0]
    simp only [fits, view, h h0, Nat.zero_add, List.drop_zero, List.take_length, ro]
    exact ⟨Nat.le_refl _, hr, Wk.refl _⟩

theorem gins_pure (l : List HR) (hl : l.length < 1099511627) (hz : ∀ h ∈ l, h.In 4294967296) : Pure Tryz.prog 16 [hL l] (gL (l.map HR.val)) := by
  refine Pure.of_ca (ro_gL _) (CA.of_go mixed Tryz.func16 rfl (rs := [.tmp 2]) rfl (by kernel_rfl) ?_)
  obtain ⟨V, hV⟩ : ∃ V, V = (l.map HR.val).map gA := ⟨_, rfl⟩
  have hVl : V.length = l.length := by rw [hV]; simp
  have hVr : ∀ i, roL (V.take i) := fun i => roL_take (by rw [hV]; exact roL_gA _)
  unfold gL
  rw [← hV]
  unfold hL
  simp -implicitDefEqProofs [go_sem]
  refine go_loopN 9 (α := {i : Nat // i ≤ l.length}) (fun i => [(0, hL l), (3, apv 9 8 (V.take i.1)), (4, .int .i64 i.1)]) (fun i => apb 9 8 (V.take i.1)) (fun i => l.length - i.1) ⟨0, by omega⟩ [] (by simp) (by simp [go_sem]) (by simp) (by simp -implicitDefEqProofs [go_sem, hL]) (by simp [go_sem]) fun ⟨i, hi⟩ => ?_
  simp -implicitDefEqProofs [go_sem, hL]
  refine ⟨fun h => ?_, fun h => ?_⟩
  · have hg := getE_hr (l := l) (i := i) h
    have hi1 := hz _ (List.getElem_mem h)
    have f1 := fun (z : RQ) (hz : z.In 4294967296) => fin_pure z hz.sm.ok (by
      have : nl z.num.natAbs ≤ z.p.length := by unfold RQ.num; rw [sgn_abs]; exact nl_lv hz.limp
      have := hz.lp; omega) (by
      have h3 : nl z.den ≤ max 1 z.q.length := by
        unfold RQ.den; split
        · rw [nl_one]; omega
        · have := nl_lv hz.limq; omega
      have := hz.lq; omega)
    have x1 := f1 l[i].x hi1.x
    have y1 := f1 l[i].y hi1.y
    have w1 := f1 l[i].w hi1.w
    have es : IntKind.i64.wrap ((i : Int) + 1) = (i + 1 : Nat) := by rw [w64 (by omega)]; omega
    obtain ⟨i1, hi1⟩ : ∃ x, x = i + 1 := ⟨_, rfl⟩
    rw [← hi1] at es
    have hsc : V.take i1 = V.take i ++ [gA l[i].val] := by
      rw [hi1, List.take_succ_eq_append_getElem (by omega)]; subst hV; simp
    have hr1 := hVr i1
    have hXl : (V.take i).length = i := by rw [List.length_take]; omega
    simp only [HR.av] at hg
    simp only [gA, HR.val] at hsc
    unfold fA RQ.av at x1 y1 w1
    obtain ⟨X, hX⟩ : ∃ X, X = V.take i := ⟨_, rfl⟩
    rw [← hX] at hsc hXl ⊢
    unfold qA at x1 y1 w1 hsc
    simp -implicitDefEqProofs [go_sem, hg]
    refine ⟨h, goD_pure _ x1 (by simp -implicitDefEqProofs [go_sem]) ?_⟩
    simp -implicitDefEqProofs [go_sem, hg]
    refine ⟨h, goD_pure _ y1 (by simp -implicitDefEqProofs [go_sem]) ?_⟩
    simp -implicitDefEqProofs [go_sem, hg]
    refine ⟨h, goD_pure _ w1 (by simp -implicitDefEqProofs [go_sem]) ?_⟩
    simp -implicitDefEqProofs [go_sem, hg]
    refine goApS_apv (by simp [go_sem]) (by omega) (by omega) (by simp [go_sem]) (by simp [hXl]; omega) (fun hne => by simp [go_sem, hne]) ?_
    have hne1 : V.take i1 ≠ [] := by rw [hsc]; simp
    simp -implicitDefEqProofs [go_sem, es]
    refine go_again ⟨i1, by omega⟩ (by simp only; omega) [(8, 30)] (by simp) (by simp [apb_ne hne1]) (by omega) (by simp -implicitDefEqProofs [go_sem, hL, apv_ne hne1]; omega) (by simp -implicitDefEqProofs [go_sem, apb_ne hne1]; exact ⟨by rw [renL_ro _ _ hr1]; exact hsc.symm, cloL_ro _ hr1⟩)
  · have hii : i = l.length := by omega
    have : V.take i = V := List.take_of_length_le (by omega)
    rw [this]
    exact apv_told (by have := hVr l.length; rwa [List.take_of_length_le (by omega)] at this) (fun hne => by simp [apb_ne hne, hp_cons])

theorem gouts_pure (l : List HQ) (hl : l.length < 1099511627) (hs : ∀ h ∈ l, h.sz ≤ 4294967296) : Pure Tryz.prog 22 [gL l] (qL l) := by
  refine Pure.of_ca (ro_qL _) (CA.of_go mixed Tryz.func22 rfl (rs := [.tmp 2]) rfl (by kernel_rfl) ?_)
  obtain ⟨V, hV⟩ : ∃ V, V = l.map hA := ⟨_, rfl⟩
  have hVl : V.length = l.length := by rw [hV]; simp
  have hVr : ∀ i, roL (V.take i) := fun i => roL_take (by rw [hV]; exact roL_hA _)
  unfold qL
  rw [← hV]
  unfold gL
  simp -implicitDefEqProofs [go_sem]
  refine go_loopN 9 (α := {i : Nat // i ≤ l.length}) (fun i => [(0, gL l), (3, apv 9 8 (V.take i.1)), (4, .int .i64 i.1)]) (fun i => apb 9 8 (V.take i.1)) (fun i => l.length - i.1) ⟨0, by omega⟩ [] (by simp) (by simp [go_sem]) (by simp) (by simp -implicitDefEqProofs [go_sem, gL]) (by simp [go_sem]) fun ⟨i, hi⟩ => ?_
  simp -implicitDefEqProofs [go_sem, gL]
  refine ⟨fun h => ?_, fun h => ?_⟩
  · have hg := getE_gA (l := l) (i := i) h
    have hsi := hs _ (List.getElem_mem h)
    have := l[i].sz_x; have := l[i].sz_y; have := l[i].sz_w
    have x1 := fout_pure l[i].x (by omega)
    have y1 := fout_pure l[i].y (by omega)
    have w1 := fout_pure l[i].w (by omega)
    have es : IntKind.i64.wrap ((i : Int) + 1) = (i + 1 : Nat) := by rw [w64 (by omega)]; omega
    obtain ⟨i1, hi1⟩ : ∃ x, x = i + 1 := ⟨_, rfl⟩
    rw [← hi1] at es
    have hsc : V.take i1 = V.take i ++ [hA l[i]] := by
      rw [hi1, List.take_succ_eq_append_getElem (by omega)]; subst hV; simp
    have hr1 := hVr i1
    have hXl : (V.take i).length = i := by rw [List.length_take]; omega
    simp only [gA, qA] at hg
    unfold hA hc HR.av at hsc
    unfold rA RQ.av fA qA at x1 y1 w1
    simp only at hsc
    obtain ⟨X, hX⟩ : ∃ X, X = V.take i := ⟨_, rfl⟩
    rw [← hX] at hsc hXl ⊢
    simp -implicitDefEqProofs [go_sem, hg]
    refine ⟨h, goD_pure _ x1 (by simp -implicitDefEqProofs [go_sem]) ?_⟩
    simp -implicitDefEqProofs [go_sem, hg]
    refine ⟨h, goD_pure _ y1 (by simp -implicitDefEqProofs [go_sem]) ?_⟩
    simp -implicitDefEqProofs [go_sem, hg]
    refine ⟨h, goD_pure _ w1 (by simp -implicitDefEqProofs [go_sem]) ?_⟩
    simp -implicitDefEqProofs [go_sem, hg]
    refine goApS_apv (by simp [go_sem]) (by omega) (by omega) (by simp [go_sem]) (by simp [hXl]; omega) (fun hne => by simp [go_sem, hne]) ?_
    have hne1 : V.take i1 ≠ [] := by rw [hsc]; simp
    simp -implicitDefEqProofs [go_sem, es]
    refine go_again ⟨i1, by omega⟩ (by simp only; omega) [(8, 30)] (by simp) (by simp [apb_ne hne1]) (by omega) (by simp -implicitDefEqProofs [go_sem, gL, apv_ne hne1]; omega) (by simp -implicitDefEqProofs [go_sem, apb_ne hne1]; exact ⟨by rw [renL_ro _ _ hr1]; exact hsc.symm, cloL_ro _ hr1⟩)
  · have hii : i = l.length := by omega
    have : V.take i = V := List.take_of_length_le (by omega)
    rw [this]
    exact apv_told (by have := hVr l.length; rwa [List.take_of_length_le (by omega)] at this) (fun hne => by simp [apb_ne hne, hp_cons])
end Go.Proofs.YtmhnmaklgcppbaaGreat
namespace Go.Proofs.YtmhnmaklgcppbaaGreat
open Go Go.Proofs
set_option linter.unusedSimpArgs false
set_option linter.unusedVariables false
set_option maxRecDepth 20000

/-- At most four limbs in each part. -/
def HR.small (h : HR) : Prop := (h.x.p.length ≤ 4 ∧ h.x.q.length ≤ 4) ∧ (h.y.p.length ≤ 4 ∧ h.y.q.length ≤ 4) ∧ (h.w.p.length ≤ 4 ∧ h.w.q.length ≤ 4)
instance (h : HR) : Decidable h.small := inferInstanceAs (Decidable (_ ∧ _))
def FairL (l : List HR) : Prop := (∀ h ∈ l, h.small) ∧ l.length ≤ 6
instance (l : List HR) : Decidable (FairL l) := inferInstanceAs (Decidable (_ ∧ _))
theorem all_take_succR {l : List HR} {i : Nat} (hi : i < l.length) {P : HR → Prop} : (∀ h ∈ l.take (i + 1), P h) ↔ (∀ h ∈ l.take i, P h) ∧ P l[i] := by
  have e : l.take (i + 1) = l.take i ++ [l[i]] := List.take_succ_eq_append_getElem hi
  constructor
  · intro g
    rw [e] at g
    exact ⟨fun h hh => g h (List.mem_append_left _ hh), g _ (List.mem_append_right _ (List.mem_singleton_self _))⟩
  · rintro ⟨g1, g2⟩ h hh
    rw [e] at hh
    rcases List.mem_append.1 hh with h1 | h1
    · exact g1 h h1
    · rw [List.mem_singleton.1 h1]; exact g2

theorem fair_pure (l : List HR) (hl : l.length ≤ 9223372036854775807) : Pure Tryz.prog 14 [hL l] (.bool (decide (FairL l))) := by
  refine Pure.of_go mixed Tryz.func14 rfl (rs := [.tmp 2]) rfl (by kernel_rfl) (by simp -implicitDefEqProofs [go_sem]) ?_
  unfold hL
  simp -implicitDefEqProofs [go_sem]
  refine go_loopN 19 (α := {i : Nat // i ≤ l.length ∧ ∀ h ∈ l.take i, h.small}) (fun i => [(0, hL l), (3, .int .i64 i.1)]) (fun i => []) (fun i => l.length - i.1) ⟨0, by simp⟩ [] (by simp) (by simp) (by simp) (by simp -implicitDefEqProofs [go_sem, hL]) (by simp -implicitDefEqProofs [go_sem]) fun ⟨i, hi, hw⟩ => ?_
  simp -implicitDefEqProofs [go_sem, hL]
  refine ⟨fun h => ?_, fun h => ?_⟩
  · have hg := getE_hr (l := l) (i := i) h
    have s1 := small_q l[i].x 4
    have s2 := small_q l[i].y 4
    have s3 := small_q l[i].w 4
    have es : IntKind.i64.wrap ((i : Int) + 1) = (i + 1 : Nat) := by rw [w64 (by omega)]; omega
    obtain ⟨b1, hb1⟩ : ∃ b, b = decide (l[i].x.p.length ≤ 4 ∧ l[i].x.q.length ≤ 4) := ⟨_, rfl⟩
    obtain ⟨b2, hb2⟩ : ∃ b, b = decide (l[i].y.p.length ≤ 4 ∧ l[i].y.q.length ≤ 4) := ⟨_, rfl⟩
    obtain ⟨b3, hb3⟩ : ∃ b, b = decide (l[i].w.p.length ≤ 4 ∧ l[i].w.q.length ≤ 4) := ⟨_, rfl⟩
    rw [← hb1] at s1
    rw [← hb2] at s2
    rw [← hb3] at s3
    have hsm : l[i].small ↔ b1 = true ∧ b2 = true ∧ b3 = true := by rw [hb1, hb2, hb3]; simp [HR.small]
    have hno : ¬ l[i].small → ¬ FairL l := fun h1 h2 => h1 (h2.1 _ (List.getElem_mem h))
    simp only [HR.av] at hg
    unfold RQ.av at s1 s2 s3
    have e4 : ((4 : Nat) : Int) = 4 := rfl
    rw [e4] at s1 s2 s3
    simp -implicitDefEqProofs [go_sem, hg]
    refine ⟨h, goC_pure _ s1 (by simp -implicitDefEqProofs [go_sem]) ?_⟩
    cases b1 with
    | false =>
      have := hno (by rw [hsm]; simp)
      simp -implicitDefEqProofs [go_sem, this]
    | true =>
      simp -implicitDefEqProofs [go_sem, hg]
      refine ⟨h, goC_pure _ s2 (by simp -implicitDefEqProofs [go_sem]) ?_⟩
      cases b2 with
      | false =>
        have := hno (by rw [hsm]; simp)
        simp -implicitDefEqProofs [go_sem, this]
      | true =>
        simp -implicitDefEqProofs [go_sem, hg]
        refine ⟨h, goC_pure _ s3 (by simp -implicitDefEqProofs [go_sem]) ?_⟩
        cases b3 with
        | false =>
          have := hno (by rw [hsm]; simp)
          simp -implicitDefEqProofs [go_sem, this]
        | true =>
          simp -implicitDefEqProofs [go_sem, es]
          refine go_again ⟨i + 1, Nat.succ_le_of_lt h, ?_⟩ (by simp only; omega) [] (by simp) (by simp) (by simp) (by simp -implicitDefEqProofs [go_sem, hL]) (by simp -implicitDefEqProofs [go_sem])
          rw [all_take_succR h]
          exact ⟨hw, hsm.2 ⟨rfl, rfl, rfl⟩⟩
  · have hii : i = l.length := by omega
    have hall : ∀ h ∈ l, h.small := by rw [List.take_of_length_le (by omega)] at hw; exact hw
    unfold FairL
    exact ⟨fun h6 => ⟨hall, by omega⟩, fun h6 => by have := h6.2; omega⟩

/-! ### A point of small numbers -/
/-- A point of the reference. -/
def eA (p : PQ) : AV := .agg [.bool (decide (p.x.num < 0)), qA p.x.num.natAbs, qA p.x.den, .bool (decide (p.y.num < 0)), qA p.y.num.natAbs, qA p.y.den]
theorem ro_eA (p : PQ) : ro (eA p) := by unfold eA qA; simp -implicitDefEqProofs [go_sem]
theorem eof_pure (x y : Int) (hx : -9223372036854775808 ≤ x ∧ x ≤ 9223372036854775807) (hy : -9223372036854775808 ≤ y ∧ y ≤ 9223372036854775807) : Pure Tryz.prog 92 [.int .i64 x, .int .i64 y] (eA ⟨x, y⟩) := by
  have h1 := fof_pure x 1 hx (by omega) (by omega)
  have h2 := fof_pure y 1 hy (by omega) (by omega)
  rw [show ((x : Int) : Rat) / ((1 : Int) : Rat) = x by rw [show ((1 : Int) : Rat) = 1 from rfl]; grind] at h1
  rw [show ((y : Int) : Rat) / ((1 : Int) : Rat) = y by rw [show ((1 : Int) : Rat) = 1 from rfl]; grind] at h2
  unfold eA
  simp only
  generalize (x : Rat) = rx at *
  generalize (y : Rat) = ry at *
  refine Pure.of_go mixed Tryz.func92 rfl (rs := [.cell 4 61]) rfl (by kernel_rfl) (by simp -implicitDefEqProofs [go_sem, qA]) ?_
  unfold fA qA at *
  simp -implicitDefEqProofs [go_sem]
  refine goC_pure _ h1 (by simp -implicitDefEqProofs [go_sem]) ?_
  simp -implicitDefEqProofs [go_sem]
  refine goC_pure _ h2 (by simp -implicitDefEqProofs [go_sem]) ?_
  simp -implicitDefEqProofs [go_sem, rop]
theorem eout_pure (p : PQ) (h : p.sz < 549755813888) : Pure Tryz.prog 83 [eA p] (pA p) := by
  have := p.sz_x; have := p.sz_y
  have h1 := fout_pure p.x (by omega)
  have h2 := fout_pure p.y (by omega)
  unfold pA pc PR.av
  refine Pure.of_go mixed Tryz.func83 rfl (rs := [.cell 2 51]) rfl (by kernel_rfl) (ro_pr _) ?_
  unfold eA fA rA RQ.av qA at *
  simp only at *
  generalize qc p.x = c1 at *
  generalize qc p.y = c2 at *
  simp -implicitDefEqProofs [go_sem]
  refine goD_pure _ h1 (by simp -implicitDefEqProofs [go_sem]) ?_
  simp -implicitDefEqProofs [go_sem]
  refine goD_pure _ h2 (by simp -implicitDefEqProofs [go_sem]) ?_
  simp -implicitDefEqProofs [go_sem, rop]
theorem sz_i64 {x : Int} (hx : -9223372036854775808 ≤ x ∧ x ≤ 9223372036854775807) : sz (x : Rat) ≤ 1 := by
  rw [sz_int]; have := nl_i64 hx; omega
theorem pP_pure (x y : Int) (hx : -9223372036854775808 ≤ x ∧ x ≤ 9223372036854775807) (hy : -9223372036854775808 ≤ y ∧ y ≤ 9223372036854775807) : Pure Tryz.prog 40 [.int .i64 x, .int .i64 y] (pA ⟨x, y⟩) := by
  have h1 := eof_pure x y hx hy
  have h2 := eout_pure ⟨x, y⟩ (by
    have := sz_i64 hx; have := sz_i64 hy
    unfold PQ.sz; simp only; omega)
  generalize (⟨x, y⟩ : PQ) = p at *
  refine Pure.of_go mixed Tryz.func40 rfl (rs := [.cell 4 51]) rfl (by kernel_rfl) (ro_pA _) ?_
  unfold eA pA PR.av qA at *
  generalize pc p = c at *
  simp -implicitDefEqProofs [go_sem]
  refine goC_pure _ h1 (by simp -implicitDefEqProofs [go_sem]) ?_
  simp -implicitDefEqProofs [go_sem]
  refine goC_pure _ h2 (by simp -implicitDefEqProofs [go_sem]) ?_
  simp -implicitDefEqProofs [go_sem, rop]

/-! ### A point without its weight -/
/-- No point at all. -/
def pZ : AV := .agg [.bool false, .sl 0 true [], .sl 0 true [], .bool false, .sl 0 true [], .sl 0 true []]
theorem cpoint_pure (h : HR) (hs : h.In 17179869184) (h0 : h.w.val ≠ 0) : Pure Tryz.prog 47 [h.av] (.tup [pA ⟨h.x.val / h.w.val, h.y.val / h.w.val⟩, .int .i64 0]) := by
  have h1 := rdiv_pure h.x h.w hs.x.sm hs.w.sm
  have h2 := rdiv_pure h.y h.w hs.y.sm hs.w.sm
  rw [if_neg h0] at h1 h2
  unfold pA pc PR.av
  simp only
  generalize h.x.val / h.w.val = r1 at *
  generalize h.y.val / h.w.val = r2 at *
  refine Pure.of_go mixed Tryz.func47 rfl (rs := [.cell 2 51, .tmp 3]) rfl (by kernel_rfl) (by simp -implicitDefEqProofs [go_sem]) ?_
  unfold HR.av rA RQ.av at *
  generalize qc r1 = c1 at *
  generalize qc r2 = c2 at *
  simp -implicitDefEqProofs [go_sem]
  refine goC_pure _ h1 (by simp -implicitDefEqProofs [go_sem]) ?_
  simp -implicitDefEqProofs [go_sem]
  refine goC_pure _ h2 (by simp -implicitDefEqProofs [go_sem]) ?_
  simp -implicitDefEqProofs [go_sem, rop]
end Go.Proofs.YtmhnmaklgcppbaaGreat
namespace Go.Proofs.YtmhnmaklgcppbaaGreat
open Go Go.Proofs
set_option linter.unusedSimpArgs false
set_option linter.unusedVariables false
set_option maxRecDepth 20000

def HQ.pt (p : PQ) : HQ := ⟨p.x, p.y, 1⟩
theorem quad_pure (a b c : PQ) : Pure Tryz.prog 63 [pA a, pA b, pA c] (qL [.pt a, .pt b, .pt c]) := by
  have h1 := fof_pure 1 1 (by omega) (by omega) (by omega)
  rw [show ((1 : Int) : Rat) / ((1 : Int) : Rat) = 1 by grind] at h1
  have h2 := fout_pure 1 (by rw [sz_one]; omega)
  refine Pure.of_ca (ro_qL _) (CA.of_go mixed Tryz.func63 rfl (rs := [.tmp 6]) rfl (by kernel_rfl) ?_)
  obtain ⟨P, hP⟩ : ∃ P, P = [a, b, c] := ⟨_, rfl⟩
  obtain ⟨V, hV⟩ : ∃ V, V = (P.map HQ.pt).map hA := ⟨_, rfl⟩
  have hPl : P.length = 3 := by rw [hP]; rfl
  have hVl : V.length = 3 := by rw [hV]; simp [hPl]
  have hVr : ∀ i, roL (V.take i) := fun i => roL_take (by rw [hV]; exact roL_hA _)
  have hgoal : qL [.pt a, .pt b, .pt c] = .sl 9 false V := by rw [hV, hP]; rfl
  rw [hgoal]
  have hPr : roL (P.map pA) := roL_map ro_pA
  have hPe : [pA a, pA b, pA c] = P.map pA := by rw [hP]; rfl
  have hPa : ∀ i (h : i < 3), ∃ cs, (P.map pA)[i]?.getD AV.any = .agg cs ∧ cs = [.bool (qc (P[i]'(by omega)).x).neg, nA (qc (P[i]'(by omega)).x).p, nA (qc (P[i]'(by omega)).x).q, .bool (qc (P[i]'(by omega)).y).neg, nA (qc (P[i]'(by omega)).y).p, nA (qc (P[i]'(by omega)).y).q] := fun i h => ⟨_, by rw [List.getElem?_eq_getElem (by simp; omega), List.getElem_map]; rfl, rfl⟩
  generalize hpa : pA a = ca at *
  generalize hpb : pA b = cb at *
  generalize hpc : pA c = cc at *
  obtain ⟨xa, xa2⟩ : ∃ x, ca = .agg x := ⟨_, hpa.symm⟩
  obtain ⟨xb, xb2⟩ : ∃ x, cb = .agg x := ⟨_, hpb.symm⟩
  obtain ⟨xc, xc2⟩ : ∃ x, cc = .agg x := ⟨_, hpc.symm⟩
  have la : xa.length = 6 := by have := hpa.trans xa2; unfold pA PR.av at this; injection this with this; rw [← this]; rfl
  have lb : xb.length = 6 := by have := hpb.trans xb2; unfold pA PR.av at this; injection this with this; rw [← this]; rfl
  have lc : xc.length = 6 := by have := hpc.trans xc2; unfold pA PR.av at this; injection this with this; rw [← this]; rfl
  have ta : xa.take 6 = xa := List.take_of_length_le (by omega)
  have tb : xb.take 6 = xb := List.take_of_length_le (by omega)
  have tc : xc.take 6 = xc := List.take_of_length_le (by omega)
  rw [xa2, xb2, xc2] at hPe ⊢
  simp -implicitDefEqProofs [go_sem, la, lb, lc, ta, tb, tc]
  rw [hPe]
  obtain ⟨L, hL'⟩ : ∃ L, L = P.map pA := ⟨_, rfl⟩
  rw [← hL'] at hPa hPr ⊢
  have hLl : L.length = 3 := by rw [hL']; simp [hPl]
  clear hPe ta tb tc la lb lc xa2 xb2 xc2 hpa hpb hpc hgoal
  refine go_loopN 9 (α := {i : Nat // i ≤ 3}) (fun i => [(7, .own 6 3 0 3), (8, apv 9 8 (V.take i.1)), (9, .int .i64 i.1)]) (fun i => (3, .live 6 L) :: apb 9 8 (V.take i.1)) (fun i => 3 - i.1) ⟨0, by omega⟩ [] (by simp) (fun _ _ _ _ h => h) (by simp) (by simp -implicitDefEqProofs [go_sem]) (by simp -implicitDefEqProofs [go_sem]; exact ⟨(renL_ro _ _ hPr).symm, cloL_ro _ hPr⟩) fun ⟨i, hi⟩ => ?_
  simp -implicitDefEqProofs [go_sem]
  refine ⟨fun h => ?_, fun h => ?_⟩
  · obtain ⟨cs, k1, k2⟩ := hPa i (by omega)
    subst k2
    have es : IntKind.i64.wrap ((i : Int) + 1) = (i + 1 : Nat) := by rw [w64 (by omega)]; omega
    obtain ⟨i1, hi1⟩ : ∃ x, x = i + 1 := ⟨_, rfl⟩
    rw [← hi1] at es
    have hi3 : i < 3 := by omega
    have hsc : V.take i1 = V.take i ++ [hA (HQ.pt (P[i]'(by omega)))] := by
      have : V.take (i + 1) = V.take i ++ [V[i]'(by omega)] := List.take_succ_eq_append_getElem (by omega)
      rw [← hi1] at this
      rw [this]; subst hV; simp
    have hr1 := hVr i1
    have hXl : (V.take i).length = i := by rw [List.length_take]; omega
    unfold hA hc HR.av HQ.pt at hsc
    simp only at hsc
    unfold rA RQ.av at h2
    generalize fA 1 = f1 at *
    obtain ⟨X, hX⟩ : ∃ X, X = V.take i := ⟨_, rfl⟩
    rw [← hX] at hsc hXl ⊢
    have hro1 : ro f1 := h1.1
    simp -implicitDefEqProofs [go_sem, k1]
    refine ⟨by omega, by omega, by omega, by omega, goD_pure _ h1 (by simp -implicitDefEqProofs [go_sem]) ?_⟩
    simp -implicitDefEqProofs [go_sem, k1]
    refine goD_pure _ h2 (by simp -implicitDefEqProofs [go_sem, hro1]) ?_
    simp -implicitDefEqProofs [go_sem, k1]
    refine goApS_apv (by simp [go_sem]) (by omega) (by omega) (by simp [go_sem]) (by simp [hXl]; omega) (fun hne => by simp [go_sem, hne]) ?_
    have hne1 : V.take i1 ≠ [] := by rw [hsc]; simp
    simp -implicitDefEqProofs [go_sem, es]
    refine go_again ⟨i1, by omega⟩ (by simp only; omega) [(8, 24)] (by simp) (by simp [apb_ne hne1, go_sem]) (by omega) (by simp -implicitDefEqProofs [go_sem, apv_ne hne1]; omega) (by simp -implicitDefEqProofs [go_sem, apb_ne hne1]; exact ⟨⟨(renL_ro _ _ hPr).symm, cloL_ro _ hPr⟩, by rw [renL_ro _ _ hr1]; exact hsc.symm, cloL_ro _ hr1⟩)
  · have hii : i = 3 := by omega
    have : V.take i = V := List.take_of_length_le (by omega)
    rw [this]
    exact apv_told (by have := hVr 3; rwa [List.take_of_length_le (by omega)] at this) (fun hne => by simp [apb_ne hne, hp_cons, upd])
end Go.Proofs.YtmhnmaklgcppbaaGreat
namespace Go.Proofs.YtmhnmaklgcppbaaGreat
open Go Go.Proofs
set_option linter.unusedSimpArgs false
set_option linter.unusedVariables false
set_option maxRecDepth 20000

theorem manyq_pure (v : List HQ) (d : Nat) (hd : d ≤ 4) (hs : ∀ h ∈ v, h.sz ≤ 16) (hG : GoodC v) : Pure Tryz.prog 18 [qL v, .int .i64 d] (.tup [qLL (manyQ d v), .int .i64 0]) := by
  have h := many_pure (v.map hc) d hd (fun h hh => by
    obtain ⟨x, hx, rfl⟩ := List.mem_map.1 hh
    exact hc_in (hs x hx)) (by rw [map_hc_val]; exact hG)
  rw [map_hc_val, qL_hL] at h
  exact h
theorem cpointq_pure (h : HQ) (hs : h.sz ≤ 17179869184) (h0 : h.w ≠ 0) : Pure Tryz.prog 47 [hA h] (.tup [pA ⟨h.x / h.w, h.y / h.w⟩, .int .i64 0]) := by
  have hp := cpoint_pure (hc h) (hc_in hs) (by unfold hc; rw [qc_val]; exact h0)
  unfold hc at hp
  simp only [qc_val] at hp
  exact hp
theorem psameq_pure (p q : PQ) (hp : p.sz ≤ 17179869184) (hq : q.sz ≤ 17179869184) : Pure Tryz.prog 44 [pA p, pA q] (.bool (decide (p = q))) := by
  have h := psame_pure (pc p) (pc q) (pc_in hp) (pc_in hq)
  rw [pc_val, pc_val] at h
  exact h

def wP (x y : Int) : PQ := ⟨x, y⟩
theorem sz_wP {x y : Int} (hx : -1000 ≤ x ∧ x ≤ 1000) (hy : -1000 ≤ y ∧ y ≤ 1000) : (wP x y).sz ≤ 1 := by
  have := sz_i64 (x := x) (by omega); have := sz_i64 (x := y) (by omega)
  unfold PQ.sz wP; simp only; omega
theorem wP_pure (x y : Int) (hx : -1000 ≤ x ∧ x ≤ 1000) (hy : -1000 ≤ y ∧ y ≤ 1000) : Pure Tryz.prog 40 [.int .i64 x, .int .i64 y] (pA (wP x y)) := pP_pure x y (by omega) (by omega)
theorem sz_pt (p : PQ) : (HQ.pt p).sz ≤ max p.sz 1 := by
  have := p.sz_x; have := p.sz_y; have := sz_one
  unfold HQ.sz HQ.pt; simp only; omega

/-- The curve of the waking. -/
def wC : List HQ := [.pt (wP 0 0), .pt (wP 2 4), .pt (wP 4 0)]
theorem wC_sz : ∀ h ∈ wC, h.sz ≤ 1 := by
  intro h hh
  simp only [wC, List.mem_cons, List.not_mem_nil, or_false] at hh
  rcases hh with rfl | rfl | rfl
  · have := sz_pt (wP 0 0); have := sz_wP (x := 0) (y := 0) (by omega) (by omega); omega
  · have := sz_pt (wP 2 4); have := sz_wP (x := 2) (y := 4) (by omega) (by omega); omega
  · have := sz_pt (wP 4 0); have := sz_wP (x := 4) (y := 0) (by omega) (by omega); omega
theorem wC_good : GoodC wC := by
  refine ⟨fun h hh => ?_, by decide, by decide⟩
  simp only [wC, List.mem_cons, List.not_mem_nil, or_false] at hh
  have h1 : (0 : Rat) < 1 := by grind
  rcases hh with rfl | rfl | rfl <;> exact h1
def wA : HQ := (HQ.pt (wP 0 0)).mid (.pt (wP 2 4))
def wB : HQ := ((HQ.pt (wP 0 0)).mid (.pt (wP 2 4))).mid ((HQ.pt (wP 2 4)).mid (.pt (wP 4 0)))
theorem wL_eq : cutL wC.length wC = [.pt (wP 0 0), wA, wB] := rfl
theorem wR_eq : cutR wC.length wC = [wB, (HQ.pt (wP 2 4)).mid (.pt (wP 4 0)), .pt (wP 4 0)] := rfl
theorem wA_w : wA.w = 1 := by simp only [wA, HQ.mid, HQ.pt]; exact midQ_self 1
theorem wB_w : wB.w = 1 := by simp only [wB, HQ.mid, HQ.pt, midQ_self]
theorem wA_pt : (⟨wA.x / wA.w, wA.y / wA.w⟩ : PQ) = wP 1 2 := by
  rw [wA_w]
  refine PQ.ext ?_ ?_
  · simp only [wA, HQ.mid, HQ.pt, wP, midQ, half]; grind
  · simp only [wA, HQ.mid, HQ.pt, wP, midQ, half]; grind
theorem wB_pt : (⟨wB.x / wB.w, wB.y / wB.w⟩ : PQ) = wP 2 2 := by
  rw [wB_w]
  refine PQ.ext ?_ ?_
  · simp only [wB, HQ.mid, HQ.pt, wP, midQ, half]; grind
  · simp only [wB, HQ.mid, HQ.pt, wP, midQ, half]; grind
theorem wA_sz : wA.sz ≤ 64 := (cut_sz (l := wC) (n := 1) (by omega) (by decide) wC_sz).1 wA (by rw [wL_eq]; simp)
theorem wB_sz : wB.sz ≤ 64 := (cut_sz (l := wC) (n := 1) (by omega) (by decide) wC_sz).1 wB (by rw [wL_eq]; simp)

theorem hwakes_pure : Pure Tryz.prog 15 [] (.bool true) := by
  have p00 := wP_pure 0 0 (by omega) (by omega)
  have p24 := wP_pure 2 4 (by omega) (by omega)
  have p40 := wP_pure 4 0 (by omega) (by omega)
  have p12 := wP_pure 1 2 (by omega) (by omega)
  have p22 := wP_pure 2 2 (by omega) (by omega)
  have hq := quad_pure (wP 0 0) (wP 2 4) (wP 4 0)
  change Pure _ _ _ (qL wC) at hq
  have hcut := cutq_pure wC (fun x hx => by have := wC_sz x hx; omega) wC_good
  rw [wL_eq, wR_eq] at hcut
  have hmany := manyq_pure wC 2 (by omega) (fun x hx => by have := wC_sz x hx; omega) wC_good
  have hA1 := cpointq_pure wA (by have := wA_sz; omega) (by rw [wA_w]; grind)
  have hB1 := cpointq_pure wB (by have := wB_sz; omega) (by rw [wB_w]; grind)
  rw [wA_pt] at hA1
  rw [wB_pt] at hB1
  have s12 := psameq_pure (wP 1 2) (wP 1 2) (by have := sz_wP (x := 1) (y := 2) (by omega) (by omega); omega) (by have := sz_wP (x := 1) (y := 2) (by omega) (by omega); omega)
  have s22 := psameq_pure (wP 2 2) (wP 2 2) (by have := sz_wP (x := 2) (y := 2) (by omega) (by omega); omega) (by have := sz_wP (x := 2) (y := 2) (by omega) (by omega); omega)
  rw [decide_eq_true rfl] at s12 s22
  have hml : (manyQ 2 wC).length = 4 := by rw [manyQ_len]
  generalize wC = C at *
  generalize manyQ 2 C = M at *
  have hL3 : ∃ l0 l2 r1 r2, Pure Tryz.prog 17 [qL C] (.tup [.sl 9 false [l0, hA wA, l2], .sl 9 false [hA wB, r1, r2], .int .i64 0]) := ⟨_, _, _, _, hcut⟩
  obtain ⟨l0, l2, r1, r2, hcut⟩ := hL3
  obtain ⟨a1, k1, k2, k3, k4⟩ := hr_agg (hc wA)
  obtain ⟨b1, m1, m2, m3, m4⟩ := hr_agg (hc wB)
  change hA wA = _ at k1
  change hA wB = _ at m1
  rw [k1] at hA1 hcut
  rw [m1] at hB1 hcut
  have hroC := ro_qL C
  obtain ⟨c12, n1, n2, n3⟩ : ∃ cs, pA (wP 1 2) = .agg cs ∧ cs.length = 6 ∧ cs.take 6 = cs := ⟨_, rfl, rfl, rfl⟩
  obtain ⟨c22, q1, q2, q3⟩ : ∃ cs, pA (wP 2 2) = .agg cs ∧ cs.length = 6 ∧ cs.take 6 = cs := ⟨_, rfl, rfl, rfl⟩
  rw [n1] at p12 hA1 s12
  rw [q1] at p22 hB1 s22
  have hr00 := ro_pA (wP 0 0)
  have hr24 := ro_pA (wP 2 4)
  have hr40 := ro_pA (wP 4 0)
  generalize pA (wP 0 0) = A00 at *
  generalize pA (wP 2 4) = A24 at *
  generalize pA (wP 4 0) = A40 at *
  unfold qLL at hmany
  have hr12 : roL c12 := by have := p12.1; simpa only [ro] using this
  have hr22 : roL c22 := by have := p22.1; simpa only [ro] using this
  refine Pure.of_go mixed Tryz.func15 rfl (rs := [.tmp 0]) rfl (by kernel_rfl) (by simp -implicitDefEqProofs [go_sem]) ?_
  simp -implicitDefEqProofs [go_sem]
  refine goC_pure _ p00 (by simp -implicitDefEqProofs [go_sem, hr00, hr24, hr40, hroC, k4, m4, hr12, hr22]) ?_
  simp -implicitDefEqProofs [go_sem]
  refine goC_pure _ p24 (by simp -implicitDefEqProofs [go_sem, hr00, hr24, hr40, hroC, k4, m4, hr12, hr22]) ?_
  simp -implicitDefEqProofs [go_sem]
  refine goC_pure _ p40 (by simp -implicitDefEqProofs [go_sem, hr00, hr24, hr40, hroC, k4, m4, hr12, hr22]) ?_
  simp -implicitDefEqProofs [go_sem]
  refine goC_pure _ hq (by simp -implicitDefEqProofs [go_sem, hr00, hr24, hr40, hroC, k4, m4, hr12, hr22]) ?_
  simp -implicitDefEqProofs [go_sem]
  refine goC_pure _ hcut (by simp -implicitDefEqProofs [go_sem, hr00, hr24, hr40, hroC, k4, m4, hr12, hr22]) ?_
  simp -implicitDefEqProofs [go_sem]
  refine goC_pure _ p00 (by simp -implicitDefEqProofs [go_sem, hr00, hr24, hr40, hroC, k4, m4, hr12, hr22]) ?_
  simp -implicitDefEqProofs [go_sem]
  refine goC_pure _ p24 (by simp -implicitDefEqProofs [go_sem, hr00, hr24, hr40, hroC, k4, m4, hr12, hr22]) ?_
  simp -implicitDefEqProofs [go_sem]
  refine goC_pure _ p40 (by simp -implicitDefEqProofs [go_sem, hr00, hr24, hr40, hroC, k4, m4, hr12, hr22]) ?_
  simp -implicitDefEqProofs [go_sem]
  refine goC_pure _ hq (by simp -implicitDefEqProofs [go_sem, hr00, hr24, hr40, hroC, k4, m4, hr12, hr22]) ?_
  simp -implicitDefEqProofs [go_sem]
  refine goC_pure _ hmany (by simp -implicitDefEqProofs [go_sem, hr00, hr24, hr40, hroC, k4, m4, hr12, hr22]) ?_
  have g1 : getE [l0, AV.agg a1, l2] 1 = .agg a1 := rfl
  simp -implicitDefEqProofs [go_sem, hml, g1, k2, k3]
  refine goC_pure _ hA1 (by simp -implicitDefEqProofs [go_sem, hr00, hr24, hr40, hroC, k4, m4, hr12, hr22]) ?_
  simp -implicitDefEqProofs [go_sem, n2, n3, m2, m3]
  refine goC_pure _ hB1 (by simp -implicitDefEqProofs [go_sem, hr00, hr24, hr40, hroC, k4, m4, hr12, hr22]) ?_
  simp -implicitDefEqProofs [go_sem, n2, n3, q2, q3]
  refine goD_pure _ p12 (by simp -implicitDefEqProofs [go_sem, hr00, hr24, hr40, hroC, k4, m4, hr12, hr22]) ?_
  simp -implicitDefEqProofs [go_sem, n2, n3, q2, q3]
  refine goD_pure _ s12 (by simp -implicitDefEqProofs [go_sem, hr00, hr24, hr40, hroC, k4, m4, hr12, hr22]) ?_
  simp -implicitDefEqProofs [go_sem, n2, n3, q2, q3]
  refine goD_pure _ p22 (by simp -implicitDefEqProofs [go_sem, hr00, hr24, hr40, hroC, k4, m4, hr12, hr22]) ?_
  simp -implicitDefEqProofs [go_sem, n2, n3, q2, q3]
  refine goD_pure _ s22 (by simp -implicitDefEqProofs [go_sem, hr00, hr24, hr40, hroC, k4, m4, hr12, hr22]) ?_
  simp -implicitDefEqProofs [go_sem]
end Go.Proofs.YtmhnmaklgcppbaaGreat
