import Derived.Test.YtgiheamjhoiojaaGreatPkRa
import Derived.Test.YtgiheamjhoiojaaGreatPkOa
namespace Go.Proofs.YtgiheamjhoiojaaGreat
open Go Go.Proofs
set_option linter.unusedSimpArgs false
set_option linter.unusedVariables false
set_option maxRecDepth 20000
structure ZR where
  neg : Bool
  n : List Nat
def sgn (neg : Bool) (x : Nat) : Int := if neg then -(x : Int) else x
def ZR.av (z : ZR) : AV := .agg [.bool z.neg, nA z.n]
def ZR.val (z : ZR) : Int := sgn z.neg (lv 18446744073709551616 z.n)
structure ZR.Ok (z : ZR) : Prop where
  len : Len z.n
  lim : Lim 18446744073709551616 z.n
def zc (x : Int) : ZR := ⟨decide (x < 0), lims 18446744073709551616 x.natAbs⟩
def zA (x : Int) : AV := (zc x).av
def nl (x : Nat) : Nat := (lims 18446744073709551616 x).length
def Fit (x : Nat) : Prop := Len (lims 18446744073709551616 x)
theorem fit_nl {x : Nat} : Fit x ↔ nl x < 1099511627776 := Iff.rfl
theorem zc_val (x : Int) : (zc x).val = x := by
  unfold ZR.val zc sgn
  simp only [lv_lims (B := 18446744073709551616) (by omega), decide_eq_true_eq]
  split <;> omega
theorem zc_ok {x : Int} (h : Fit x.natAbs) : (zc x).Ok := ⟨h, lim_lims (by omega) _⟩
theorem sgn_abs (b : Bool) (x : Nat) : (sgn b x).natAbs = x := by unfold sgn; split <;> omega
theorem sgn_lt (b : Bool) (x : Nat) : decide (sgn b x < 0) = (b && decide (0 < x)) := by
  unfold sgn
  cases b <;> simp <;> omega
theorem zA_sgn (b : Bool) (x : Nat) : zA (sgn b x) = .agg [.bool (b && decide (0 < x)), nA (lims 18446744073709551616 x)] := by
  unfold zA zc ZR.av; simp only [sgn_abs, sgn_lt]
theorem nl_pos {x : Nat} : decide (0 < (lims 18446744073709551616 x).length) = decide (0 < x) := by
  congr 1
  rw [List.length_pos_iff, ne_eq, lims_nil_iff (by omega), Nat.pos_iff_ne_zero]
theorem ro_zA (x : Int) : ro (zA x) := by unfold zA ZR.av; simp -implicitDefEqProofs [go_sem]
theorem ro_zr (z : ZR) : ro z.av := by unfold ZR.av; simp -implicitDefEqProofs [go_sem]
theorem zmade_pure (neg : Bool) (n : List Nat) (hn : Len n) (ln : Lim 18446744073709551616 n) : Pure Tryz.prog 136 [.bool neg, nA n] (zA (sgn neg (lv 18446744073709551616 n))) := by
  have ha := add_pure n [] hn (by unfold Len; simp) ln lim_nil
  rw [lv_nil, Nat.add_zero] at ha
  refine Pure.of_go mixed Tryz.func136 rfl (rs := [.cell 4 24]) rfl (by kernel_rfl) (ro_zA _) ?_
  rw [zA_sgn]
  simp -implicitDefEqProofs [go_sem]
  refine goC_pure _ (ha.args (.cons (Wk.refl _) (.cons (Wk.nil 0 1 true) .nil))) (by simp -implicitDefEqProofs [go_sem]) ?_
  have hp := nl_pos (x := lv 18446744073709551616 n)
  generalize lv 18446744073709551616 n = x at *
  simp -implicitDefEqProofs [go_sem, rop]
  refine ⟨fun h => by rw [hp, h]; rfl, fun h h2 => by rw [h] at h2; cases h2⟩
theorem zgood_pure (z : ZR) (hz : z.Ok) : Pure Tryz.prog 138 [z.av] (zA z.val) := by
  obtain ⟨neg, n⟩ := z
  have hm := zmade_pure neg n hz.len hz.lim
  refine Pure.of_go mixed Tryz.func138 rfl (rs := [.cell 2 24]) rfl (by kernel_rfl) (ro_zA _) ?_
  unfold ZR.val
  simp only
  obtain ⟨y, hy⟩ : ∃ y, y = sgn neg (lv 18446744073709551616 n) := ⟨_, rfl⟩
  rw [← hy] at hm ⊢
  simp -implicitDefEqProofs [go_sem, ZR.av]
  refine goC_pure _ hm (by simp -implicitDefEqProofs [go_sem]) ?_
  simp -implicitDefEqProofs [go_sem, rop, zA, ZR.av]
theorem sgn_not (b : Bool) (x : Nat) : sgn (!b) x = -(sgn b x) := by unfold sgn; cases b <;> simp
theorem zneg_pure (z : ZR) (hz : z.Ok) : Pure Tryz.prog 133 [z.av] (zA (-z.val)) := by
  obtain ⟨neg, n⟩ := z
  have hm := zmade_pure (!neg) n hz.len hz.lim
  rw [sgn_not] at hm
  refine Pure.of_go mixed Tryz.func133 rfl (rs := [.cell 2 24]) rfl (by kernel_rfl) (ro_zA _) ?_
  unfold ZR.val
  simp only
  obtain ⟨y, hy⟩ : ∃ y, y = -sgn neg (lv 18446744073709551616 n) := ⟨_, rfl⟩
  rw [← hy] at hm ⊢
  simp -implicitDefEqProofs [go_sem, ZR.av]
  refine goC_pure _ hm (by simp -implicitDefEqProofs [go_sem]) ?_
  simp -implicitDefEqProofs [go_sem, rop, zA, ZR.av]
theorem zof_pure (v : Int) (h : -9223372036854775808 ≤ v ∧ v ≤ 9223372036854775807) : Pure Tryz.prog 77 [.int .i64 v] (zA v) := by
  refine Pure.of_go mixed Tryz.func77 rfl (rs := [.cell 2 24]) rfl (by kernel_rfl) (ro_zA _) ?_
  have hof := of_pure v.natAbs (by omega)
  have hlen : Len (lims 18446744073709551616 v.natAbs) := by unfold Len; have := lims_len (B := 18446744073709551616) (n := v.natAbs) (k := 1) (by omega) (by omega); omega
  have h1 := zmade_pure true (lims 18446744073709551616 v.natAbs) hlen (lim_lims (by omega) _)
  have h2 := zmade_pure false (lims 18446744073709551616 v.natAbs) hlen (lim_lims (by omega) _)
  rw [lv_lims (by omega)] at h1 h2
  simp -implicitDefEqProofs [go_sem]
  refine ⟨fun h0 => ?_, fun h0 => ?_⟩
  · have e1 : IntKind.u64.wrap (IntKind.u64.wrap (IntKind.i64.wrap (-IntKind.i64.wrap (v + 1))) + 1) = (v.natAbs : Nat) := by
      rw [w64 (x := v + 1) (by omega), w64 (by omega), wu64 (x := -(v + 1)) (by omega), wu64 (by omega)]; omega
    rw [e1]
    have e2 : sgn true v.natAbs = v := by unfold sgn; simp only [if_true]; omega
    rw [e2] at h1
    refine goC_pure _ hof (by simp -implicitDefEqProofs [go_sem]) ?_
    simp -implicitDefEqProofs [go_sem]
    refine goC_pure _ h1 (by simp -implicitDefEqProofs [go_sem]) ?_
    simp -implicitDefEqProofs [go_sem, rop, zA, ZR.av]
  · have e1 : IntKind.u64.wrap v = (v.natAbs : Nat) := by rw [wu64 (by omega)]; omega
    rw [e1]
    have e2 : sgn false v.natAbs = v := by unfold sgn; simp only [Bool.false_eq_true, if_false]; omega
    rw [e2] at h2
    refine goC_pure _ hof (by simp -implicitDefEqProofs [go_sem]) ?_
    simp -implicitDefEqProofs [go_sem]
    refine goC_pure _ h2 (by simp -implicitDefEqProofs [go_sem]) ?_
    simp -implicitDefEqProofs [go_sem, rop, zA, ZR.av]
theorem sgn_mul (b c : Bool) (x y : Nat) : sgn (b != c) (x * y) = sgn b x * sgn c y := by
  unfold sgn
  cases b <;> cases c <;> simp [Int.natCast_mul, Int.neg_mul, Int.mul_neg]
theorem zmul_pure (a b : ZR) (ha : a.Ok) (hb : b.Ok) (hab : Fit (a.val * b.val).natAbs) : Pure Tryz.prog 83 [a.av, b.av] (zA (a.val * b.val)) := by
  obtain ⟨na, a⟩ := a
  obtain ⟨nb, b⟩ := b
  have h1 := mul_pure a b ha.len hb.len ha.lim hb.lim
  unfold ZR.val at *
  simp only at *
  rw [← sgn_mul, sgn_abs] at hab
  have hm := zmade_pure (na != nb) _ hab (lim_lims (by omega) _)
  rw [lv_lims (by omega), sgn_mul] at hm
  refine Pure.of_go mixed Tryz.func83 rfl (rs := [.cell 4 24]) rfl (by kernel_rfl) (ro_zA _) ?_
  generalize sgn na (lv 18446744073709551616 a) * sgn nb (lv 18446744073709551616 b) = y at *
  generalize lv 18446744073709551616 a * lv 18446744073709551616 b = xy at *
  simp -implicitDefEqProofs [go_sem, ZR.av]
  refine goD_pure _ h1 (by simp -implicitDefEqProofs [go_sem]) ?_
  simp -implicitDefEqProofs [go_sem]
  refine goD_pure _ (show Pure Tryz.prog 136 [.bool (!(na == nb)), nA (lims 18446744073709551616 xy)] (zA y) from hm) (by simp -implicitDefEqProofs [go_sem]) ?_
  simp -implicitDefEqProofs [go_sem, rop, zA, ZR.av]
theorem nl_mono {x y : Nat} (h : x ≤ y) : nl x ≤ nl y := lims_mono (by omega) h
theorem Fit.mono {x y : Nat} (hy : Fit y) (h : x ≤ y) : Fit x := Nat.lt_of_le_of_lt (nl_mono h) hy
theorem sgn_zero (b : Bool) : sgn b 0 = 0 := by unfold sgn; cases b <;> rfl
theorem sgn_dec (x : Int) : sgn (decide (x < 0)) x.natAbs = x := by
  unfold sgn; simp only [decide_eq_true_eq]; split <;> omega
set_option maxHeartbeats 1000000 in
theorem zadd_pure (a b : ZR) (ha : a.Ok) (hb : b.Ok) (hab : Fit (a.val.natAbs + b.val.natAbs)) : Pure Tryz.prog 135 [a.av, b.av] (zA (a.val + b.val)) := by
  have ga := zgood_pure a ha
  have gb := zgood_pure b hb
  have fa : Fit a.val.natAbs := hab.mono (by omega)
  have fb : Fit b.val.natAbs := hab.mono (by omega)
  unfold ZR.av at ga gb ⊢
  generalize a.val = x at *
  generalize b.val = y at *
  obtain ⟨na, a⟩ := a
  obtain ⟨nb, b⟩ := b
  have la := lim_lims (B := 18446744073709551616) (by omega) x.natAbs
  have lb := lim_lims (B := 18446744073709551616) (by omega) y.natAbs
  have va := lv_lims (B := 18446744073709551616) (by omega) x.natAbs
  have vb := lv_lims (B := 18446744073709551616) (by omega) y.natAbs
  have hadd := add_pure _ _ fa fb la lb
  rw [va, vb] at hadd
  have hmk := fun neg (k : Nat) (hk : k ≤ x.natAbs + y.natAbs) => zmade_pure neg (lims 18446744073709551616 k) (hab.mono hk) (lim_lims (by omega) _)
  simp only [lv_lims (B := 18446744073709551616) (by omega)] at hmk
  have hcmp := cmp_pure _ _ fa fb la lb
  rw [va, vb] at hcmp
  have hsub1 := sub_pure _ _ fa fb la lb
  have hsub2 := sub_pure _ _ fb fa lb la
  rw [va, vb] at hsub1 hsub2
  refine Pure.of_go mixed Tryz.func135 rfl (rs := [.cell 4 24]) rfl (by kernel_rfl) (ro_zA _) ?_
  simp -implicitDefEqProofs [go_sem]
  refine goD_pure _ ga (by simp -implicitDefEqProofs [go_sem]) ?_
  simp -implicitDefEqProofs [go_sem, zA, ZR.av, zc]
  refine goD_pure _ gb (by simp -implicitDefEqProofs [go_sem]) ?_
  simp -implicitDefEqProofs [go_sem, zA, ZR.av, zc]
  refine ⟨fun h => ?_, fun h => ?_⟩
  · have hm := hmk (decide (x < 0)) _ (Nat.le_refl _)
    rw [show sgn (decide (x < 0)) (x.natAbs + y.natAbs) = x + y by unfold sgn; simp only [decide_eq_true_eq]; split <;> omega] at hm
    generalize x.natAbs + y.natAbs = s at *
    refine goD_pure _ hadd (by simp -implicitDefEqProofs [go_sem]) ?_
    simp -implicitDefEqProofs [go_sem, zA, ZR.av, zc]
    refine goD_pure _ hm (by simp -implicitDefEqProofs [go_sem]) ?_
    simp -implicitDefEqProofs [go_sem, rop, zA, ZR.av, zc]
  · refine goC_pure _ hcmp (by simp -implicitDefEqProofs [go_sem]) ?_
    rcases Nat.lt_or_ge x.natAbs y.natAbs with h1 | h1
    · have hc : cmpI x.natAbs y.natAbs < 0 := by rw [cmpI_lt (by omega)]; omega
      have hm := hmk (decide (y < 0)) (y.natAbs - x.natAbs) (by omega)
      rw [show sgn (decide (y < 0)) (y.natAbs - x.natAbs) = x + y by unfold sgn; simp only [decide_eq_true_eq]; split <;> omega] at hm
      have hs := hsub2 (by omega)
      generalize y.natAbs - x.natAbs = s at *
      generalize cmpI x.natAbs y.natAbs = c at *
      simp -implicitDefEqProofs [go_sem, zA, ZR.av, zc, hc]
      refine goC_pure _ hs (by simp -implicitDefEqProofs [go_sem]) ?_
      simp -implicitDefEqProofs [go_sem, zA, ZR.av, zc]
      refine goC_pure _ hm (by simp -implicitDefEqProofs [go_sem]) ?_
      simp -implicitDefEqProofs [go_sem, rop, zA, ZR.av, zc]
    · have hc : ¬ cmpI x.natAbs y.natAbs < 0 := by
        rcases Nat.lt_or_ge y.natAbs x.natAbs with h | h
        · rw [cmpI_gt (by omega)]; omega
        · rw [show x.natAbs = y.natAbs by omega, cmpI_eq]; omega
      have hm := hmk (decide (x < 0)) (x.natAbs - y.natAbs) (by omega)
      rw [show sgn (decide (x < 0)) (x.natAbs - y.natAbs) = x + y by unfold sgn; simp only [decide_eq_true_eq]; split <;> omega] at hm
      have hs := hsub1 h1
      generalize x.natAbs - y.natAbs = s at *
      generalize cmpI x.natAbs y.natAbs = c at *
      simp -implicitDefEqProofs [go_sem, zA, ZR.av, zc, hc]
      refine goC_pure _ hs (by simp -implicitDefEqProofs [go_sem]) ?_
      simp -implicitDefEqProofs [go_sem, zA, ZR.av, zc]
      refine goC_pure _ hm (by simp -implicitDefEqProofs [go_sem]) ?_
      simp -implicitDefEqProofs [go_sem, rop, zA, ZR.av, zc]
theorem zsub_pure (a b : ZR) (ha : a.Ok) (hb : b.Ok) (hab : Fit (a.val.natAbs + b.val.natAbs)) : Pure Tryz.prog 143 [a.av, b.av] (zA (a.val - b.val)) := by
  have hn := zneg_pure b hb
  have fb : Fit (-b.val).natAbs := hab.mono (by omega)
  have h2 := zadd_pure a (zc (-b.val)) ha (zc_ok fb) (by rw [zc_val]; exact hab.mono (by omega))
  rw [zc_val, ← Int.sub_eq_add_neg] at h2
  generalize a.val - b.val = y at *
  refine Pure.of_go mixed Tryz.func143 rfl (rs := [.cell 4 24]) rfl (by kernel_rfl) (ro_zA _) ?_
  change Pure _ _ [a.av, zA (-b.val)] _ at h2
  generalize -b.val = z at *
  unfold zA at *
  unfold ZR.av at *
  simp -implicitDefEqProofs [go_sem]
  refine goD_pure _ hn (by simp -implicitDefEqProofs [go_sem]) ?_
  simp -implicitDefEqProofs [go_sem]
  refine goD_pure _ h2 (by simp -implicitDefEqProofs [go_sem]) ?_
  simp -implicitDefEqProofs [go_sem, rop]
@[go_sem] theorem mi_sign : mapInt Tryz.prog 188 = some .i64 := by kernel_rfl
theorem znum_below (x : Int) : Pure Tryz.prog 139 [.agg [.bool (decide (x < 0)), nA (lims 18446744073709551616 x.natAbs)]] (.bool (decide (x < 0))) := by
  refine Pure.of_go mixed Tryz.func139 rfl (rs := [.tmp 2]) rfl (by kernel_rfl) (by simp -implicitDefEqProofs [go_sem]) ?_
  simp -implicitDefEqProofs [go_sem]
theorem znum_nought (x : Int) : Pure Tryz.prog 140 [.agg [.bool (decide (x < 0)), nA (lims 18446744073709551616 x.natAbs)]] (.bool (decide (x = 0))) := by
  refine Pure.of_go mixed Tryz.func140 rfl (rs := [.tmp 2]) rfl (by kernel_rfl) (by simp -implicitDefEqProofs [go_sem]) ?_
  have h : lims 18446744073709551616 x.natAbs = [] ↔ x = 0 := by rw [lims_nil_iff (by omega)]; omega
  simp -implicitDefEqProofs [go_sem, h]
def sgnI (x : Int) : Int := if x < 0 then -1 else if x = 0 then 0 else 1
theorem zsign_pure (z : ZR) (hz : z.Ok) : Pure Tryz.prog 80 [z.av] (.int .i64 (sgnI z.val)) := by
  have hg := zgood_pure z hz
  have h1 := znum_below z.val
  have h2 := znum_nought z.val
  generalize z.val = x at *
  refine Pure.of_go mixed Tryz.func80 rfl (rs := [.tmp 2]) rfl (by kernel_rfl) (by simp -implicitDefEqProofs [go_sem]) ?_
  unfold zA at *
  unfold ZR.av at *
  unfold zc at *
  simp only at *
  generalize lims 18446744073709551616 x.natAbs = L at *
  simp -implicitDefEqProofs [go_sem]
  refine goC_pure _ hg (by simp -implicitDefEqProofs [go_sem]) ?_
  simp -implicitDefEqProofs [go_sem]
  obtain ⟨N, hN⟩ : ∃ N, N = AV.agg [AV.bool (decide (x < 0)), nA L] := ⟨_, rfl⟩
  have hroN : ro N := by rw [hN]; simp -implicitDefEqProofs [go_sem]
  obtain ⟨T, hT⟩ : ∃ T, T = upd (upd (upd (fun _ => AV.any) 0 (.fn (.func 139) [N] [])) 1 (.fn (.func 140) [N] [])) 2 (.fn (.func 141) [N] []) := ⟨_, rfl⟩
  have hro : ∀ j, ro (T j) := by
    intro j
    rw [hT]
    simp only [upd]
    split
    · simp -implicitDefEqProofs [go_sem, hroN]
    · split
      · simp -implicitDefEqProofs [go_sem, hroN]
      · split <;> simp -implicitDefEqProofs [go_sem, hroN]
  have T0 : T 0 = .fn (.func 139) [N] [] := by rw [hT]; simp -implicitDefEqProofs [go_sem]
  have T1 : T 1 = .fn (.func 140) [N] [] := by rw [hT]; simp -implicitDefEqProofs [go_sem]
  rw [← hN] at h1 h2
  refine go_loopN 9 (α := {s : Nat // s ≤ 2 ∧ (1 ≤ s → ¬ x < 0) ∧ (2 ≤ s → x ≠ 0)}) (fun s => [(4, .mp 2), (5, .int .i64 ((s.1 : Int) - 1))]) (fun s => [(2, .obj (.map #[⟨.int .i64 (-1), undef, 0⟩, ⟨.int .i64 0, undef, 1⟩, ⟨.int .i64 1, undef, 2⟩] 3) T)]) (fun s => 2 - s.1) ⟨0, by omega, by omega, by omega⟩ [] (by simp) (by simp) (by omega) (by simp -implicitDefEqProofs [go_sem]) (by simp -implicitDefEqProofs [go_sem, hT, hN]; exact fun j => by have := hro j; rw [hT, hN] at this; exact this) fun ⟨s, q1, q2, q3⟩ => ?_
  have hs : s = 0 ∨ s = 1 ∨ s = 2 := by omega
  rcases hs with rfl | rfl | rfl
  · simp -implicitDefEqProofs [go_sem, T0]
    refine goC_pure _ h1 (by simp -implicitDefEqProofs [go_sem, hroN]) ?_
    simp -implicitDefEqProofs [go_sem]
    refine ⟨fun h => ?_, fun h => ?_⟩
    · simp [sgnI, h]
    · exact go_again ⟨1, by omega, fun _ => by omega, by omega⟩ (by simp only; omega) [] (by simp) (by simp) (by omega) (by simp -implicitDefEqProofs [go_sem]; rfl) (by simp -implicitDefEqProofs [go_sem, hro])
  · simp -implicitDefEqProofs [go_sem, T1]
    refine goC_pure _ h2 (by simp -implicitDefEqProofs [go_sem, hroN]) ?_
    simp -implicitDefEqProofs [go_sem]
    refine ⟨fun h => ?_, fun h => ?_⟩
    · simp [sgnI, h]
    · exact go_again ⟨2, by omega, fun _ => q2 (by omega), fun _ => h⟩ (by simp only; omega) [] (by simp) (by simp) (by omega) (by simp -implicitDefEqProofs [go_sem]; rfl) (by simp -implicitDefEqProofs [go_sem, hro])
  · simp -implicitDefEqProofs [go_sem]
    have g1 := q2 (by omega)
    have g2 := q3 (by omega)
    simp [sgnI, g1, g2]
theorem sgnI_sub {x y : Int} : sgnI (x - y) = cmpI x y := by
  unfold sgnI cmpI; split <;> split <;> (try split) <;> omega
theorem zcmp_pure (a b : ZR) (ha : a.Ok) (hb : b.Ok) (hab : Fit (a.val.natAbs + b.val.natAbs)) : Pure Tryz.prog 82 [a.av, b.av] (.int .i64 (cmpI a.val b.val)) := by
  have h1 := zsub_pure a b ha hb hab
  have h2 := zsign_pure (zc (a.val - b.val)) (zc_ok (hab.mono (by omega)))
  rw [zc_val, sgnI_sub] at h2
  generalize cmpI a.val b.val = c at *
  change Pure _ _ [zA (a.val - b.val)] _ at h2
  generalize a.val - b.val = z at *
  refine Pure.of_go mixed Tryz.func82 rfl (rs := [.tmp 4]) rfl (by kernel_rfl) (by simp -implicitDefEqProofs [go_sem]) ?_
  unfold zA at *
  unfold ZR.av at *
  simp -implicitDefEqProofs [go_sem]
  refine goC_pure _ h1 (by simp -implicitDefEqProofs [go_sem]) ?_
  simp -implicitDefEqProofs [go_sem]
  refine goC_pure _ h2 (by simp -implicitDefEqProofs [go_sem]) ?_
  simp -implicitDefEqProofs [go_sem]
structure RQ where
  neg : Bool
  p : List Nat
  q : List Nat
def RQ.av (z : RQ) : AV := .agg [.bool z.neg, nA z.p, nA z.q]
def RQ.num (z : RQ) : Int := sgn z.neg (lv 18446744073709551616 z.p)
def RQ.den (z : RQ) : Nat := if lv 18446744073709551616 z.q = 0 then 1 else lv 18446744073709551616 z.q
def RQ.val (z : RQ) : Rat := mkRat z.num z.den
structure RQ.Ok (z : RQ) : Prop where
  lenp : Len z.p
  limp : Lim 18446744073709551616 z.p
  lenq : Len z.q
  limq : Lim 18446744073709551616 z.q
def qc (x : Rat) : RQ := ⟨decide (x.num < 0), lims 18446744073709551616 x.num.natAbs, lims 18446744073709551616 x.den⟩
def rA (x : Rat) : AV := (qc x).av
theorem ro_rA (x : Rat) : ro (rA x) := by unfold rA RQ.av; simp -implicitDefEqProofs [go_sem]
theorem qc_num (x : Rat) : (qc x).num = x.num := by
  unfold RQ.num qc; simp only [lv_lims (B := 18446744073709551616) (by omega)]; exact sgn_dec _
theorem qc_den (x : Rat) : (qc x).den = x.den := by
  unfold RQ.den qc; simp only [lv_lims (B := 18446744073709551616) (by omega)]
  rw [if_neg x.den_nz]
theorem qc_val (x : Rat) : (qc x).val = x := by
  unfold RQ.val; rw [qc_num, qc_den]; exact Rat.mkRat_self x
structure FitQ (x : Rat) : Prop where
  num : Fit x.num.natAbs
  den : Fit x.den
theorem mk_num (n : Int) {d : Nat} (h : d ≠ 0) : (mkRat n d).num = n / (Nat.gcd n.natAbs d : Nat) := by
  rw [← Rat.normalize_eq_mkRat h, Rat.normalize_eq]
theorem mk_den (n : Int) {d : Nat} (h : d ≠ 0) : (mkRat n d).den = d / Nat.gcd n.natAbs d := by
  rw [← Rat.normalize_eq_mkRat h, Rat.normalize_eq]
theorem sgn_div (b : Bool) {x g : Nat} (h : g ∣ x) : sgn b (x / g) = sgn b x / (g : Int) := by
  unfold sgn
  cases b
  · simp
  · simp only [if_true]
    rw [Int.neg_ediv_of_dvd (Int.natCast_dvd_natCast.2 h)]; simp
theorem made_pure (z : ZR) (q : List Nat) (hz : z.Ok) (hq : Len q) (lq : Lim 18446744073709551616 q) (h0 : lv 18446744073709551616 q ≠ 0) : Pure Tryz.prog 134 [z.av, nA q] (rA (mkRat z.val (lv 18446744073709551616 q))) := by
  obtain ⟨neg, p⟩ := z
  have hlp := hz.len
  have hll := hz.lim
  simp only at hlp hll
  have hg := gcd_pure p q hlp hq hll lq
  obtain ⟨g, hgg⟩ : ∃ g, g = Nat.gcd (lv 18446744073709551616 p) (lv 18446744073709551616 q) := ⟨_, rfl⟩
  have hg0 : g ≠ 0 := by rw [hgg]; exact Nat.gcd_ne_zero_right h0
  have hgp : g ∣ lv 18446744073709551616 p := by rw [hgg]; exact Nat.gcd_dvd_left _ _
  have hgl : g ≤ lv 18446744073709551616 q := by rw [hgg]; exact Nat.le_of_dvd (Nat.pos_iff_ne_zero.2 h0) (Nat.gcd_dvd_right _ _)
  have hfq : Fit (lv 18446744073709551616 q) := lims_Len hq lq
  have hfp : Fit (lv 18446744073709551616 p) := lims_Len hlp hll
  have hd1 := divmod_pure p (lims 18446744073709551616 g) hlp (hfq.mono hgl) hll (lim_lims (by omega) _) (by rw [lv_lims (by omega)]; exact hg0)
  have hd2 := divmod_pure q (lims 18446744073709551616 g) hq (hfq.mono hgl) lq (lim_lims (by omega) _) (by rw [lv_lims (by omega)]; exact hg0)
  rw [lv_lims (by omega)] at hd1 hd2
  rw [← hgg] at hg
  have ha := zadd_pure ⟨neg, lims 18446744073709551616 (lv 18446744073709551616 p / g)⟩ ⟨false, []⟩ ⟨hfp.mono (Nat.div_le_self _ _), lim_lims (by omega) _⟩ ⟨by unfold Len; simp, lim_nil⟩ (by
    unfold ZR.val
    simp only [lv_lims (B := 18446744073709551616) (by omega), lv_nil, sgn_abs]
    exact hfp.mono (Nat.div_le_self _ _))
  have hv : ZR.val ⟨neg, lims 18446744073709551616 (lv 18446744073709551616 p / g)⟩ + ZR.val ⟨false, []⟩ = (mkRat (sgn neg (lv 18446744073709551616 p)) (lv 18446744073709551616 q)).num := by
    rw [mk_num _ h0, sgn_abs, ← hgg, ← sgn_div neg hgp]
    unfold ZR.val
    simp only [lv_lims (B := 18446744073709551616) (by omega), lv_nil, sgn_zero, Int.add_zero]
  have hvd : (mkRat (sgn neg (lv 18446744073709551616 p)) (lv 18446744073709551616 q)).den = lv 18446744073709551616 q / g := by
    rw [mk_den _ h0, sgn_abs, ← hgg]
  rw [hv] at ha
  unfold rA RQ.av qc ZR.val
  simp only
  rw [hvd]
  generalize (mkRat (sgn neg (lv 18446744073709551616 p)) (lv 18446744073709551616 q)).num = N at *
  generalize lv 18446744073709551616 q / g = D at *
  generalize lv 18446744073709551616 p / g = U at *
  generalize lv 18446744073709551616 p % g = U1 at *
  generalize lv 18446744073709551616 q % g = D1 at *
  unfold zA ZR.av zc at *
  simp only at *
  refine Pure.of_go mixed Tryz.func134 rfl (rs := [.cell 4 26]) rfl (by kernel_rfl) (by simp -implicitDefEqProofs [go_sem]) ?_
  simp -implicitDefEqProofs [go_sem]
  refine goC_pure _ hg (by simp -implicitDefEqProofs [go_sem]) ?_
  simp -implicitDefEqProofs [go_sem]
  refine goC_pure _ hd1 (by simp -implicitDefEqProofs [go_sem]) ?_
  simp -implicitDefEqProofs [go_sem]
  refine goC_pure _ hd2 (by simp -implicitDefEqProofs [go_sem]) ?_
  simp -implicitDefEqProofs [go_sem]
  refine goC_pure _ (ha.args (.cons (Wk.refl _) (.cons (Wk.agg (.cons (Wk.refl _) (.cons (Wk.nil 0 1 true) .nil))) .nil))) (by simp -implicitDefEqProofs [go_sem]) ?_
  simp -implicitDefEqProofs [go_sem, rop]
theorem rA_int (x : Int) : rA (x : Rat) = .agg [.bool (decide (x < 0)), nA (lims 18446744073709551616 x.natAbs), nA (lims 18446744073709551616 1)] := by
  have h : qc (x : Rat) = ⟨decide (x < 0), lims 18446744073709551616 x.natAbs, lims 18446744073709551616 1⟩ := by
    have h1 : (x : Rat).num = x := Rat.num_intCast x
    have h2 : (x : Rat).den = 1 := Rat.den_intCast x
    unfold qc
    rw [h1, h2]
  unfold rA; rw [h]; rfl
theorem whole_pure (x : Int) : Pure Tryz.prog 78 [zA x] (rA (x : Rat)) := by
  have hof := of_pure 1 (by omega)
  refine Pure.of_go mixed Tryz.func78 rfl (rs := [.cell 2 26]) rfl (by kernel_rfl) (ro_rA _) ?_
  rw [rA_int]
  unfold zA ZR.av zc
  generalize lims 18446744073709551616 1 = o at *
  simp -implicitDefEqProofs [go_sem]
  refine goD_pure _ hof (by simp -implicitDefEqProofs [go_sem]) ?_
  simp -implicitDefEqProofs [go_sem, rop]
theorem blen_zero {x : Nat} : blen x = 0 ↔ x = 0 := by
  unfold blen; split <;> omega
theorem good_pure (z : RQ) (hz : z.Ok) : Pure Tryz.prog 81 [z.av] (rA z.val) := by
  have ha := zadd_pure ⟨z.neg, z.p⟩ ⟨false, []⟩ ⟨hz.lenp, hz.limp⟩ ⟨by unfold Len; simp, lim_nil⟩ (by
    unfold ZR.val
    simp only [lv_nil, sgn_abs, Nat.add_zero]
    exact lims_Len hz.lenp hz.limp)
  have hv : ZR.val ⟨z.neg, z.p⟩ + ZR.val ⟨false, []⟩ = z.num := by
    unfold ZR.val RQ.num
    simp only [lv_nil, sgn_zero, Int.add_zero]
  rw [hv] at ha
  have hb := bits_pure z.q hz.lenq hz.limq
  have hw := whole_pure z.num
  have hfn : Fit z.num.natAbs := by
    unfold RQ.num; rw [sgn_abs]; exact lims_Len hz.lenp hz.limp
  have hm := made_pure (zc z.num) z.q (zc_ok hfn) hz.lenq hz.limq
  rw [zc_val] at hm
  change _ → Pure _ _ [zA z.num, _] _ at hm
  have hval : z.val = if lv 18446744073709551616 z.q = 0 then (z.num : Rat) else mkRat z.num (lv 18446744073709551616 z.q) := by
    unfold RQ.val RQ.den
    split
    · exact Rat.mkRat_one _
    · rfl
  rw [hval]
  refine Pure.of_go mixed Tryz.func81 rfl (rs := [.cell 2 26]) rfl (by kernel_rfl) (ro_rA _) ?_
  have hbz := @blen_zero (lv 18446744073709551616 z.q)
  generalize blen (lv 18446744073709551616 z.q) = bl at *
  generalize lv 18446744073709551616 z.q = Q at *
  generalize z.num = N at *
  unfold zA ZR.av zc RQ.av at *
  simp only at *
  generalize lims 18446744073709551616 N.natAbs = L at *
  simp -implicitDefEqProofs [go_sem]
  refine goC_pure _ (ha.args (.cons (Wk.refl _) (.cons (Wk.agg (.cons (Wk.refl _) (.cons (Wk.nil 0 1 true) .nil))) .nil))) (by simp -implicitDefEqProofs [go_sem]) ?_
  simp -implicitDefEqProofs [go_sem]
  refine goC_pure _ hb (by simp -implicitDefEqProofs [go_sem]) ?_
  simp -implicitDefEqProofs [go_sem]
  refine ⟨fun h => ?_, fun h => ?_⟩
  · rw [if_pos (hbz.1 (by omega))]
    refine goC_pure _ hw (by simp -implicitDefEqProofs [go_sem]) ?_
    unfold rA RQ.av qc
    simp -implicitDefEqProofs [go_sem, rop]
  · have h0 : ¬ Q = 0 := fun hh => h (by have := hbz.2 hh; omega)
    rw [if_neg h0]
    refine goC_pure _ (hm h0) (by simp -implicitDefEqProofs [go_sem]) ?_
    unfold rA RQ.av qc
    simp -implicitDefEqProofs [go_sem, rop]
theorem over_pure (z : RQ) : Pure Tryz.prog 84 [z.av] (ZR.av ⟨false, z.q⟩) := by
  refine Pure.of_go mixed Tryz.func84 rfl (rs := [.cell 2 24]) rfl (by kernel_rfl) (ro_zr _) ?_
  unfold RQ.av ZR.av
  simp -implicitDefEqProofs [go_sem, rop]
theorem zA_nat (n : Nat) : zA (n : Int) = ZR.av ⟨false, lims 18446744073709551616 n⟩ := by
  unfold zA zc
  have h : decide ((n : Int) < 0) = false := by simp
  rw [h]; rfl
theorem over_rA (x : Rat) : Pure Tryz.prog 84 [rA x] (zA (x.den : Int)) := by
  rw [zA_nat]; exact over_pure (qc x)
theorem nl_lt {x : Nat} : x < 18446744073709551616 ^ nl x := by
  have := lv_lt (lim_lims (B := 18446744073709551616) (by omega) x)
  rwa [lv_lims (by omega)] at this
theorem nl_le {x k : Nat} (h : x < 18446744073709551616 ^ k) : nl x ≤ k := lims_len (by omega) h
theorem nl_mul (x y : Nat) : nl (x * y) ≤ nl x + nl y := by
  refine nl_le ?_
  rw [Nat.pow_add]
  exact Nat.mul_lt_mul'' nl_lt nl_lt
theorem nl_add (x y : Nat) : nl (x + y) ≤ max (nl x) (nl y) + 1 := by
  refine nl_le ?_
  have h1 : x < 18446744073709551616 ^ max (nl x) (nl y) := Nat.lt_of_lt_of_le nl_lt (Nat.pow_le_pow_right (by omega) (Nat.le_max_left _ _))
  have h2 : y < 18446744073709551616 ^ max (nl x) (nl y) := Nat.lt_of_lt_of_le nl_lt (Nat.pow_le_pow_right (by omega) (Nat.le_max_right _ _))
  rw [Nat.pow_succ]
  generalize 18446744073709551616 ^ max (nl x) (nl y) = w at *
  omega
theorem nl_zero : nl 0 = 0 := by unfold nl; rw [lims_zero]; rfl
theorem nl_one : nl 1 = 1 := by unfold nl; rw [lims_small (by omega) (by omega) (by omega)]; rfl
theorem nl_lv {l : List Nat} (h : Lim 18446744073709551616 l) : nl (lv 18446744073709551616 l) ≤ l.length := lims_len (by omega) (lv_lt h)
def sz (x : Rat) : Nat := max (nl x.num.natAbs) (nl x.den)
theorem sz_num (x : Rat) : nl x.num.natAbs ≤ sz x := Nat.le_max_left _ _
theorem sz_den (x : Rat) : nl x.den ≤ sz x := Nat.le_max_right _ _
structure RQ.Sm (z : RQ) : Prop where
  lp : z.p.length ≤ 17179869184
  limp : Lim 18446744073709551616 z.p
  lq : z.q.length ≤ 17179869184
  limq : Lim 18446744073709551616 z.q
theorem RQ.Sm.ok {z : RQ} (h : z.Sm) : z.Ok := ⟨by unfold Len; have := h.lp; omega, h.limp, by unfold Len; have := h.lq; omega, h.limq⟩
theorem sz_mk (n : Int) {d : Nat} (h : d ≠ 0) : sz (mkRat n d) ≤ max (nl n.natAbs) (nl d) := by
  have h1 : nl (mkRat n d).num.natAbs ≤ nl n.natAbs := by
    rw [mk_num n h]
    refine nl_mono ?_
    rw [Int.natAbs_ediv_of_dvd (Int.ofNat_dvd_left.2 (Nat.gcd_dvd_left _ _))]
    exact Nat.div_le_self _ _
  have h2 : nl (mkRat n d).den ≤ nl d := by
    rw [mk_den n h]
    exact nl_mono (Nat.div_le_self _ _)
  unfold sz
  omega
theorem RQ.den_ne (z : RQ) : z.den ≠ 0 := by unfold RQ.den; split <;> omega
theorem sz_val {z : RQ} (h : z.Sm) : sz z.val ≤ 17179869184 := by
  have h1 := sz_mk z.num z.den_ne
  have h2 : nl z.num.natAbs ≤ z.p.length := by unfold RQ.num; rw [sgn_abs]; exact nl_lv h.limp
  have h3 : nl z.den ≤ max 1 z.q.length := by
    unfold RQ.den; split
    · rw [nl_one]; omega
    · have := nl_lv h.limq; omega
  have := h.lp
  have := h.lq
  unfold RQ.val
  omega
theorem qc_sm {x : Rat} (h : sz x ≤ 17179869184) : (qc x).Sm := ⟨Nat.le_trans (sz_num x) h, lim_lims (by omega) _, Nat.le_trans (sz_den x) h, lim_lims (by omega) _⟩
theorem sz_neg (x : Rat) : sz (-x) = sz x := by unfold sz; rw [Rat.neg_num, Rat.neg_den, Int.natAbs_neg]
theorem mul_mk (x y : Rat) : x * y = mkRat (x.num * y.num) (x.den * y.den) := by rw [Rat.mul_def, Rat.normalize_eq_mkRat]
theorem add_mk (x y : Rat) : x + y = mkRat (x.num * y.den + y.num * x.den) (x.den * y.den) := by rw [Rat.add_def, Rat.normalize_eq_mkRat]
theorem den_mul_ne (x y : Rat) : x.den * y.den ≠ 0 := Nat.mul_ne_zero x.den_nz y.den_nz
theorem sz_mul (x y : Rat) : sz (x * y) ≤ sz x + sz y := by
  rw [mul_mk]
  have h := sz_mk (x.num * y.num) (den_mul_ne x y)
  have h1 := nl_mul x.num.natAbs y.num.natAbs
  have h2 := nl_mul x.den y.den
  rw [Int.natAbs_mul] at h
  have := sz_num x; have := sz_num y; have := sz_den x; have := sz_den y
  omega
theorem sz_add (x y : Rat) : sz (x + y) ≤ sz x + sz y + 1 := by
  rw [add_mk]
  have h := sz_mk (x.num * y.den + y.num * x.den) (den_mul_ne x y)
  have h1 := nl_mul x.num.natAbs y.den
  have h2 := nl_mul y.num.natAbs x.den
  have h3 := nl_mul x.den y.den
  have h4 : (x.num * y.den + y.num * x.den).natAbs ≤ x.num.natAbs * y.den + y.num.natAbs * x.den := by
    refine Nat.le_trans (Int.natAbs_add_le _ _) ?_
    rw [Int.natAbs_mul, Int.natAbs_mul]; simp
  have h5 := nl_mono h4
  have h6 := nl_add (x.num.natAbs * y.den) (y.num.natAbs * x.den)
  have := sz_num x; have := sz_num y; have := sz_den x; have := sz_den y
  omega
theorem sz_sub (x y : Rat) : sz (x - y) ≤ sz x + sz y + 1 := by
  rw [Rat.sub_eq_add_neg]; have := sz_add x (-y); rw [sz_neg] at this; exact this
theorem sz_int (n : Int) : sz (n : Rat) = max (nl n.natAbs) 1 := by
  unfold sz; rw [Rat.num_intCast, Rat.den_intCast, nl_one]
theorem zmulc (x y : Int) (h : nl x.natAbs + nl y.natAbs < 1099511627776) : Pure Tryz.prog 83 [zA x, zA y] (zA (x * y)) := by
  have h1 : Fit x.natAbs := by rw [fit_nl]; omega
  have h2 : Fit y.natAbs := by rw [fit_nl]; omega
  have h3 : Fit (x * y).natAbs := by rw [fit_nl, Int.natAbs_mul]; have := nl_mul x.natAbs y.natAbs; omega
  have := zmul_pure (zc x) (zc y) (zc_ok h1) (zc_ok h2) (by rw [zc_val, zc_val]; exact h3)
  rw [zc_val, zc_val] at this
  exact this
theorem zaddc (x y : Int) (h : max (nl x.natAbs) (nl y.natAbs) + 1 < 1099511627776) : Pure Tryz.prog 135 [zA x, zA y] (zA (x + y)) := by
  have h1 : Fit x.natAbs := by rw [fit_nl]; omega
  have h2 : Fit y.natAbs := by rw [fit_nl]; omega
  have h3 : Fit (x.natAbs + y.natAbs) := by rw [fit_nl]; have := nl_add x.natAbs y.natAbs; omega
  have := zadd_pure (zc x) (zc y) (zc_ok h1) (zc_ok h2) (by rw [zc_val, zc_val]; exact h3)
  rw [zc_val, zc_val] at this
  exact this
theorem zcmpc (x y : Int) (h : max (nl x.natAbs) (nl y.natAbs) + 1 < 1099511627776) : Pure Tryz.prog 82 [zA x, zA y] (.int .i64 (cmpI x y)) := by
  have h1 : Fit x.natAbs := by rw [fit_nl]; omega
  have h2 : Fit y.natAbs := by rw [fit_nl]; omega
  have h3 : Fit (x.natAbs + y.natAbs) := by rw [fit_nl]; have := nl_add x.natAbs y.natAbs; omega
  have := zcmp_pure (zc x) (zc y) (zc_ok h1) (zc_ok h2) (by rw [zc_val, zc_val]; exact h3)
  rw [zc_val, zc_val] at this
  exact this
theorem znegc (x : Int) (h : nl x.natAbs < 1099511627776) : Pure Tryz.prog 133 [zA x] (zA (-x)) := by
  have := zneg_pure (zc x) (zc_ok h)
  rw [zc_val] at this
  exact this
theorem zsignc (x : Int) (h : nl x.natAbs < 1099511627776) : Pure Tryz.prog 80 [zA x] (.int .i64 (sgnI x)) := by
  have := zsign_pure (zc x) (zc_ok h)
  rw [zc_val] at this
  exact this
theorem madec (x : Int) (d : Nat) (h : nl x.natAbs < 1099511627776) (hd : nl d < 1099511627776) (h0 : d ≠ 0) : Pure Tryz.prog 134 [zA x, nA (lims 18446744073709551616 d)] (rA (mkRat x d)) := by
  have := made_pure (zc x) (lims 18446744073709551616 d) (zc_ok h) hd (lim_lims (by omega) _) (by rw [lv_lims (by omega)]; exact h0)
  rw [zc_val, lv_lims (by omega)] at this
  exact this
theorem nmulc (x y : Nat) (h : nl x + nl y < 1099511627776) : Pure Tryz.prog 144 [nA (lims 18446744073709551616 x), nA (lims 18446744073709551616 y)] (nA (lims 18446744073709551616 (x * y))) := by
  have := mul_pure (lims 18446744073709551616 x) (lims 18446744073709551616 y) (show nl x < _ by omega) (show nl y < _ by omega) (lim_lims (by omega) _) (lim_lims (by omega) _)
  rw [lv_lims (by omega), lv_lims (by omega)] at this
  exact this
theorem ok_fit {z : RQ} (hz : z.Ok) : FitQ z.val := by
  have h1 : Fit z.num.natAbs := by unfold RQ.num; rw [sgn_abs]; exact lims_Len hz.lenp hz.limp
  have h2 : Fit z.den := by
    unfold RQ.den; split
    · rw [fit_nl, nl_one]; omega
    · exact lims_Len hz.lenq hz.limq
  unfold RQ.val
  constructor
  · rw [mk_num _ z.den_ne]
    refine h1.mono ?_
    rw [Int.natAbs_ediv_of_dvd (Int.ofNat_dvd_left.2 (Nat.gcd_dvd_left _ _))]
    exact Nat.div_le_self _ _
  · rw [mk_den _ z.den_ne]; exact h2.mono (Nat.div_le_self _ _)
theorem rneg_pure (z : RQ) (hz : z.Ok) : Pure Tryz.prog 118 [z.av] (rA (-z.val)) := by
  have hg := good_pure z hz
  have hn := znegc z.val.num (ok_fit hz).num
  generalize z.val = v at *
  refine Pure.of_go mixed Tryz.func118 rfl (rs := [.cell 2 26]) rfl (by kernel_rfl) (ro_rA _) ?_
  unfold rA RQ.av qc zA ZR.av zc at *
  rw [Rat.neg_num, Rat.neg_den]
  simp only at *
  simp -implicitDefEqProofs [go_sem]
  refine goC_pure _ hg (by simp -implicitDefEqProofs [go_sem]) ?_
  simp -implicitDefEqProofs [go_sem]
  refine goD_pure _ hn (by simp -implicitDefEqProofs [go_sem]) ?_
  simp -implicitDefEqProofs [go_sem, rop]
theorem sgnI_ediv {n : Int} {g : Nat} (hg : 0 < g) (h : g ∣ n.natAbs) : sgnI (n / (g : Int)) = sgnI n := by
  obtain ⟨k, hk⟩ := Int.ofNat_dvd_left.2 h
  rw [hk, Int.mul_ediv_cancel_left _ (by omega)]
  unfold sgnI
  have h1 : (g : Int) * k < 0 ↔ k < 0 := by
    constructor
    · intro h; rcases Int.lt_or_le k 0 with h2 | h2
      · exact h2
      · have := Int.mul_nonneg (Int.natCast_nonneg g) h2; omega
    · intro h; exact Int.mul_neg_of_pos_of_neg (by omega) h
  have h2 : (g : Int) * k = 0 ↔ k = 0 := by
    rw [Int.mul_eq_zero]; omega
  simp only [h1, h2]
def sgnQ (x : Rat) : Int := sgnI x.num
theorem sgnQ_val (z : RQ) : sgnQ z.val = sgnI z.num := by
  unfold sgnQ RQ.val
  rw [mk_num _ z.den_ne]
  exact sgnI_ediv (Nat.gcd_pos_of_pos_right _ (Nat.pos_iff_ne_zero.2 z.den_ne)) (Nat.gcd_dvd_left _ _)
theorem rsign_pure (z : RQ) (hz : z.Ok) : Pure Tryz.prog 32 [z.av] (.int .i64 (sgnQ z.val)) := by
  rw [sgnQ_val]
  have h := zsign_pure ⟨z.neg, z.p⟩ ⟨hz.lenp, hz.limp⟩
  change Pure _ _ _ (.int .i64 (sgnI z.num)) at h
  generalize sgnI z.num = s at *
  refine Pure.of_go mixed Tryz.func32 rfl (rs := [.tmp 2]) rfl (by kernel_rfl) (by simp -implicitDefEqProofs [go_sem]) ?_
  unfold RQ.av ZR.av at *
  simp only at *
  simp -implicitDefEqProofs [go_sem]
  refine goC_pure _ h (by simp -implicitDefEqProofs [go_sem]) ?_
  simp -implicitDefEqProofs [go_sem]
def cmpQ (x y : Rat) : Int := cmpI (x.num * y.den) (y.num * x.den)
theorem rcmp_pure (a b : RQ) (ha : a.Sm) (hb : b.Sm) : Pure Tryz.prog 35 [a.av, b.av] (.int .i64 (cmpQ a.val b.val)) := by
  have ga := good_pure a ha.ok
  have gb := good_pure b hb.ok
  have sa := sz_val ha
  have sb := sz_val hb
  generalize a.val = x at *
  generalize b.val = y at *
  have := sz_num x; have := sz_num y; have := sz_den x; have := sz_den y
  have oa := over_rA x
  have ob := over_rA y
  have m1 := zmulc x.num y.den (by simp; omega)
  have m2 := zmulc y.num x.den (by simp; omega)
  have hc := zcmpc (x.num * y.den) (y.num * x.den) (by
    have h1 := nl_mul x.num.natAbs y.den
    have h2 := nl_mul y.num.natAbs x.den
    rw [Int.natAbs_mul, Int.natAbs_mul]; simp; omega)
  unfold cmpQ
  generalize x.num * y.den = u at *
  generalize y.num * x.den = w at *
  generalize cmpI u w = c at *
  refine Pure.of_go mixed Tryz.func35 rfl (rs := [.tmp 4]) rfl (by kernel_rfl) (by simp -implicitDefEqProofs [go_sem]) ?_
  rw [zA_nat] at oa ob m1 m2
  unfold rA RQ.av qc zA ZR.av zc at *
  simp only at *
  simp -implicitDefEqProofs [go_sem]
  refine goD_pure _ ga (by simp -implicitDefEqProofs [go_sem]) ?_
  simp -implicitDefEqProofs [go_sem]
  refine goD_pure _ gb (by simp -implicitDefEqProofs [go_sem]) ?_
  simp -implicitDefEqProofs [go_sem]
  refine goD_pure _ ob (by simp -implicitDefEqProofs [go_sem]) ?_
  simp -implicitDefEqProofs [go_sem]
  refine goD_pure _ m1 (by simp -implicitDefEqProofs [go_sem]) ?_
  simp -implicitDefEqProofs [go_sem]
  refine goD_pure _ oa (by simp -implicitDefEqProofs [go_sem]) ?_
  simp -implicitDefEqProofs [go_sem]
  refine goD_pure _ m2 (by simp -implicitDefEqProofs [go_sem]) ?_
  simp -implicitDefEqProofs [go_sem]
  refine goD_pure _ hc (by simp -implicitDefEqProofs [go_sem]) ?_
  simp -implicitDefEqProofs [go_sem]
def rZ : AV := .agg [.bool false, .sl 0 true [], .sl 0 true []]
theorem div_mk (p q : Int) : (p : Rat) / (q : Rat) = mkRat (if q < 0 then -p else p) q.natAbs := by
  rw [Rat.mkRat_eq_div]
  split
  · rename_i h
    have : ((q.natAbs : Nat) : Rat) = -(q : Rat) := by
      rw [← Rat.intCast_natCast, Int.ofNat_natAbs_of_nonpos (by omega), Rat.intCast_neg]
    rw [this, Rat.intCast_neg]
    grind
  · rename_i h
    have : ((q.natAbs : Nat) : Rat) = (q : Rat) := by
      rw [← Rat.intCast_natCast, Int.natAbs_of_nonneg (by omega)]
    rw [this]
theorem make_pure (p q : Int) (hp : nl p.natAbs + 1 < 1099511627776) (hq : nl q.natAbs < 1099511627776) :
    Pure Tryz.prog 76 [zA p, zA q] (if q = 0 then .tup [rZ, .int .i64 12] else .tup [rA ((p : Rat) / (q : Rat)), .int .i64 0]) := by
  have hs := zsignc q hq
  have hn := znegc p (by omega)
  have hz : ∀ x : Int, x.natAbs = p.natAbs → Pure Tryz.prog 135 [zA x, .agg [.bool false, .sl 0 true []]] (zA x) := fun x hx => by
    have := zaddc x 0 (by rw [hx, show (0 : Int).natAbs = 0 from rfl, nl_zero]; omega)
    rw [Int.add_zero] at this
    refine this.args (.cons (Wk.refl _) (.cons ?_ .nil))
    unfold zA ZR.av zc
    rw [show (0 : Int).natAbs = 0 from rfl, lims_zero]
    exact Wk.agg (.cons (Wk.refl _) (.cons (Wk.nil 0 1 true) .nil))
  have hm : ∀ x : Int, x.natAbs = p.natAbs → q ≠ 0 → Pure Tryz.prog 134 [zA x, nA (lims 18446744073709551616 q.natAbs)] (rA (mkRat x q.natAbs)) := fun x hx h0 => madec x q.natAbs (by rw [hx]; omega) hq (by omega)
  by_cases h0 : q = 0
  · rw [if_pos h0]
    subst h0
    unfold sgnI at hs
    simp only [Int.lt_irrefl, if_false, if_true] at hs
    refine Pure.of_go mixed Tryz.func76 rfl (rs := [.cell 4 26, .tmp 5]) rfl (by kernel_rfl) (by simp -implicitDefEqProofs [go_sem, rZ]) ?_
    unfold zA ZR.av zc rZ at *
    simp -implicitDefEqProofs [go_sem]
    refine goC_pure _ hs (by simp -implicitDefEqProofs [go_sem]) ?_
    simp -implicitDefEqProofs [go_sem, rop]
  · rw [if_neg h0, div_mk]
    by_cases h1 : q < 0
    · rw [if_pos h1]
      have hm1 := hm (-p) (by omega) h0
      have hz1 := hz (-p) (by omega)
      rw [show sgnI q = -1 by unfold sgnI; rw [if_pos h1]] at hs
      generalize mkRat (-p) q.natAbs = r at *
      refine Pure.of_go mixed Tryz.func76 rfl (rs := [.cell 4 26, .tmp 5]) rfl (by kernel_rfl) (by simp -implicitDefEqProofs [go_sem, ro_rA]) ?_
      clear hz hm
      generalize -p = p2 at *
      unfold zA ZR.av zc rA RQ.av qc at *
      simp only at *
      simp -implicitDefEqProofs [go_sem]
      refine goC_pure _ hs (by simp -implicitDefEqProofs [go_sem]) ?_
      simp -implicitDefEqProofs [go_sem]
      refine goC_pure _ hn (by simp -implicitDefEqProofs [go_sem]) ?_
      simp -implicitDefEqProofs [go_sem]
      refine goD_pure _ hz1 (by simp -implicitDefEqProofs [go_sem]) ?_
      simp -implicitDefEqProofs [go_sem]
      refine goD_pure _ hm1 (by simp -implicitDefEqProofs [go_sem]) ?_
      simp -implicitDefEqProofs [go_sem, rop]
    · rw [if_neg h1]
      have hm1 := hm p rfl h0
      have hz1 := hz p rfl
      rw [show sgnI q = 1 by unfold sgnI; rw [if_neg h1, if_neg h0]] at hs
      generalize mkRat p q.natAbs = r at *
      refine Pure.of_go mixed Tryz.func76 rfl (rs := [.cell 4 26, .tmp 5]) rfl (by kernel_rfl) (by simp -implicitDefEqProofs [go_sem, ro_rA]) ?_
      clear hz hm
      unfold zA ZR.av zc rA RQ.av qc at *
      simp only at *
      simp -implicitDefEqProofs [go_sem]
      refine goC_pure _ hs (by simp -implicitDefEqProofs [go_sem]) ?_
      simp -implicitDefEqProofs [go_sem]
      refine goD_pure _ hz1 (by simp -implicitDefEqProofs [go_sem]) ?_
      simp -implicitDefEqProofs [go_sem]
      refine goD_pure _ hm1 (by simp -implicitDefEqProofs [go_sem]) ?_
      simp -implicitDefEqProofs [go_sem, rop]
theorem nl_i64 {p : Int} (h : -9223372036854775808 ≤ p ∧ p ≤ 9223372036854775807) : nl p.natAbs ≤ 1 := nl_le (by omega)
theorem rof_pure (p q : Int) (hp : -9223372036854775808 ≤ p ∧ p ≤ 9223372036854775807) (hq : -9223372036854775808 ≤ q ∧ q ≤ 9223372036854775807) (h0 : q ≠ 0) :
    Pure Tryz.prog 28 [.int .i64 p, .int .i64 q] (rA ((p : Rat) / (q : Rat))) := by
  have h1 := zof_pure p hp
  have h2 := zof_pure q hq
  have hm := make_pure p q (by have := nl_i64 hp; omega) (by have := nl_i64 hq; omega)
  rw [if_neg h0] at hm
  generalize (p : Rat) / (q : Rat) = r at *
  refine Pure.of_go mixed Tryz.func28 rfl (rs := [.cell 4 26]) rfl (by kernel_rfl) (ro_rA _) ?_
  unfold zA ZR.av zc rA RQ.av qc at *
  simp only at *
  simp -implicitDefEqProofs [go_sem]
  refine goC_pure _ h1 (by simp -implicitDefEqProofs [go_sem]) ?_
  simp -implicitDefEqProofs [go_sem]
  refine goC_pure _ h2 (by simp -implicitDefEqProofs [go_sem]) ?_
  simp -implicitDefEqProofs [go_sem]
  refine goC_pure _ hm (by simp -implicitDefEqProofs [go_sem]) ?_
  simp -implicitDefEqProofs [go_sem, rop]
theorem num_den (x : Rat) : x = (x.num : Rat) / (x.den : Rat) := by
  rw [← Rat.mkRat_eq_div, Rat.mkRat_self]
theorem rdiv_pure (a b : RQ) (ha : a.Sm) (hb : b.Sm) : Pure Tryz.prog 103 [a.av, b.av] (if b.val = 0 then .tup [rZ, .int .i64 12] else .tup [rA (a.val / b.val), .int .i64 0]) := by
  have ga := good_pure a ha.ok
  have gb := good_pure b hb.ok
  have sa := sz_val ha
  have sb := sz_val hb
  generalize a.val = x at *
  generalize b.val = y at *
  have := sz_num x; have := sz_num y; have := sz_den x; have := sz_den y
  have oa := over_rA x
  have ob := over_rA y
  have m1 := zmulc x.num y.den (by simp; omega)
  have m2 := zmulc y.num x.den (by simp; omega)
  have hm := make_pure (x.num * y.den) (y.num * x.den) (by
    have h1 := nl_mul x.num.natAbs y.den
    rw [Int.natAbs_mul]; simp; omega) (by
    have h2 := nl_mul y.num.natAbs x.den
    rw [Int.natAbs_mul]; simp; omega)
  have hy0 : y.num * x.den = 0 ↔ y = 0 := by
    rw [Int.mul_eq_zero, Rat.num_eq_zero]
    have := x.den_nz
    constructor
    · rintro (h | h)
      · exact h
      · exact absurd (by omega) this
    · exact .inl
  have hv : ((x.num * y.den : Int) : Rat) / ((y.num * x.den : Int) : Rat) = x / y := by
    have h1 : x = (x.num : Rat) / (x.den : Rat) := num_den x
    have h2 : y = (y.num : Rat) / (y.den : Rat) := num_den y
    have h3 : (x.den : Rat) ≠ 0 := by simpa using x.den_nz
    have h4 : (y.den : Rat) ≠ 0 := by simpa using y.den_nz
    rw [Rat.intCast_mul, Rat.intCast_mul, Rat.intCast_natCast, Rat.intCast_natCast]
    conv => rhs; rw [h1, h2]
    generalize (x.num : Rat) = a at *
    generalize (y.num : Rat) = b at *
    generalize (x.den : Rat) = c at *
    generalize (y.den : Rat) = d at *
    clear h1 h2 m1 m2 hm
    grind
  rw [hv] at hm
  simp only [hy0] at hm
  refine Pure.of_go mixed Tryz.func103 rfl (rs := [.cell 4 26, .tmp 5]) rfl (by kernel_rfl) (by split <;> simp -implicitDefEqProofs [go_sem, rZ, ro_rA]) ?_
  clear hy0 hv
  generalize x.num * y.den = u at *
  generalize y.num * x.den = w at *
  rw [zA_nat] at oa ob m1 m2
  have hcs : (if y = 0 then AV.tup [rZ, .int .i64 12] else .tup [rA (x / y), .int .i64 0]) = .tup [if y = 0 then rZ else rA (x / y), .int .i64 (if y = 0 then 12 else 0)] := by split <;> rfl
  rw [hcs] at hm ⊢
  generalize hR : (if y = 0 then rZ else rA (x / y)) = R at *
  obtain ⟨r1, s2, t2, l2, s3, t3, l3, hRe⟩ : ∃ r1 s2 t2 l2 s3 t3 l3, R = .agg [.bool r1, .sl s2 t2 (uA .u64 l2), .sl s3 t3 (uA .u64 l3)] := by
    rw [← hR]; split
    · exact ⟨_, _, _, [], _, _, [], rfl⟩
    · exact ⟨_, _, _, _, _, _, _, rfl⟩
  subst hRe
  generalize (if y = 0 then (12 : Int) else 0) = e at *
  unfold rA RQ.av qc zA ZR.av zc at *
  simp only at *
  simp -implicitDefEqProofs [go_sem]
  refine goD_pure _ ga (by simp -implicitDefEqProofs [go_sem]) ?_
  simp -implicitDefEqProofs [go_sem]
  refine goD_pure _ gb (by simp -implicitDefEqProofs [go_sem]) ?_
  simp -implicitDefEqProofs [go_sem]
  refine goD_pure _ ob (by simp -implicitDefEqProofs [go_sem]) ?_
  simp -implicitDefEqProofs [go_sem]
  refine goD_pure _ m1 (by simp -implicitDefEqProofs [go_sem]) ?_
  simp -implicitDefEqProofs [go_sem]
  refine goD_pure _ oa (by simp -implicitDefEqProofs [go_sem]) ?_
  simp -implicitDefEqProofs [go_sem]
  refine goD_pure _ m2 (by simp -implicitDefEqProofs [go_sem]) ?_
  simp -implicitDefEqProofs [go_sem]
  refine goD_pure _ hm (by simp -implicitDefEqProofs [go_sem]) ?_
  simp -implicitDefEqProofs [go_sem, rop]
theorem nl_cross {x y : Rat} (hx : sz x ≤ 17179869184) (hy : sz y ≤ 17179869184) : nl (x.num * y.den + y.num * x.den).natAbs < 1099511627776 := by
  have := sz_num x; have := sz_num y; have := sz_den x; have := sz_den y
  have h1 := nl_mul x.num.natAbs y.den
  have h2 := nl_mul y.num.natAbs x.den
  have h4 : (x.num * y.den + y.num * x.den).natAbs ≤ x.num.natAbs * y.den + y.num.natAbs * x.den := by
    refine Nat.le_trans (Int.natAbs_add_le _ _) ?_
    rw [Int.natAbs_mul, Int.natAbs_mul]; simp
  have h5 := nl_mono h4
  have h6 := nl_add (x.num.natAbs * y.den) (y.num.natAbs * x.den)
  omega
theorem fill1_pure (x y : Rat) (hx : sz x ≤ 17179869184) (hy : sz y ≤ 17179869184) : Pure Tryz.prog 183 [rA x, rA y] (rA (x + y)) := by
  have := sz_num x; have := sz_num y; have := sz_den x; have := sz_den y
  have oa := over_rA x
  have ob := over_rA y
  have m1 := zmulc x.num y.den (by simp; omega)
  have m2 := zmulc y.num x.den (by simp; omega)
  have hs := zaddc (x.num * y.den) (y.num * x.den) (by
    have h1 := nl_mul x.num.natAbs y.den
    have h2 := nl_mul y.num.natAbs x.den
    rw [Int.natAbs_mul, Int.natAbs_mul]; simp; omega)
  have hd := nmulc x.den y.den (by omega)
  have hm := madec (x.num * y.den + y.num * x.den) (x.den * y.den) (nl_cross hx hy) (by have := nl_mul x.den y.den; omega) (den_mul_ne x y)
  rw [← add_mk] at hm
  generalize x + y = r at *
  generalize x.num * y.den + y.num * x.den = s at *
  generalize x.num * y.den = u at *
  generalize y.num * x.den = w at *
  generalize x.den * y.den = dd at *
  refine Pure.of_go mixed Tryz.func183 rfl (rs := [.cell 4 26]) rfl (by kernel_rfl) (ro_rA _) ?_
  rw [zA_nat] at oa ob m1 m2
  unfold rA RQ.av qc zA ZR.av zc at *
  simp only at *
  simp -implicitDefEqProofs [go_sem]
  refine goD_pure _ ob (by simp -implicitDefEqProofs [go_sem]) ?_
  simp -implicitDefEqProofs [go_sem]
  refine goD_pure _ m1 (by simp -implicitDefEqProofs [go_sem]) ?_
  simp -implicitDefEqProofs [go_sem]
  refine goD_pure _ oa (by simp -implicitDefEqProofs [go_sem]) ?_
  simp -implicitDefEqProofs [go_sem]
  refine goD_pure _ m2 (by simp -implicitDefEqProofs [go_sem]) ?_
  simp -implicitDefEqProofs [go_sem]
  refine goD_pure _ hs (by simp -implicitDefEqProofs [go_sem]) ?_
  simp -implicitDefEqProofs [go_sem]
  refine goD_pure _ hd (by simp -implicitDefEqProofs [go_sem]) ?_
  simp -implicitDefEqProofs [go_sem]
  refine goD_pure _ hm (by simp -implicitDefEqProofs [go_sem]) ?_
  simp -implicitDefEqProofs [go_sem, rop]
theorem fill3_pure (x y : Rat) (hx : sz x ≤ 17179869184) (hy : sz y ≤ 17179869184) : Pure Tryz.prog 185 [rA x, rA y] (rA (x * y)) := by
  have := sz_num x; have := sz_num y; have := sz_den x; have := sz_den y
  have m1 := zmulc x.num y.num (by omega)
  have hd := nmulc x.den y.den (by omega)
  have hm := madec (x.num * y.num) (x.den * y.den) (by have := nl_mul x.num.natAbs y.num.natAbs; rw [Int.natAbs_mul]; omega) (by have := nl_mul x.den y.den; omega) (den_mul_ne x y)
  rw [← mul_mk] at hm
  generalize x * y = r at *
  generalize x.num * y.num = u at *
  generalize x.den * y.den = dd at *
  refine Pure.of_go mixed Tryz.func185 rfl (rs := [.cell 4 26]) rfl (by kernel_rfl) (ro_rA _) ?_
  unfold rA RQ.av qc zA ZR.av zc at *
  simp only at *
  simp -implicitDefEqProofs [go_sem]
  refine goD_pure _ m1 (by simp -implicitDefEqProofs [go_sem]) ?_
  simp -implicitDefEqProofs [go_sem]
  refine goD_pure _ hd (by simp -implicitDefEqProofs [go_sem]) ?_
  simp -implicitDefEqProofs [go_sem]
  refine goD_pure _ hm (by simp -implicitDefEqProofs [go_sem]) ?_
  simp -implicitDefEqProofs [go_sem, rop]
theorem fill2_pure (x y : Rat) (hx : sz x ≤ 17179869184) (hy : sz y ≤ 17179869184) : Pure Tryz.prog 184 [rA x, rA y, .rp [.fn (.func 183) [] []]] (rA (x - y)) := by
  have hn := znegc y.num (by have := sz_num y; omega)
  have ha := fill1_pure x (-y) hx (by rw [sz_neg]; exact hy)
  rw [← Rat.sub_eq_add_neg] at ha
  generalize x - y = r at *
  refine Pure.of_go mixed Tryz.func184 rfl (rs := [.cell 5 26]) rfl (by kernel_rfl) (ro_rA _) ?_
  unfold rA RQ.av qc zA ZR.av zc at *
  rw [Rat.neg_num, Rat.neg_den] at ha
  simp only at *
  generalize -y.num = ny at *
  simp -implicitDefEqProofs [go_sem]
  refine goD_pure _ hn (by simp -implicitDefEqProofs [go_sem]) ?_
  simp -implicitDefEqProofs [go_sem]
  refine goD_pure _ ha (by simp -implicitDefEqProofs [go_sem]) ?_
  simp -implicitDefEqProofs [go_sem, rop]
@[go_sem] theorem lay_any (off : Nat) (v : AV) : (AV.any).lay off [v] = v := rfl
theorem do0_pure (a b : RQ) (ha : a.Sm) (hb : b.Sm) : Pure Tryz.prog 75 [.int .i64 0, a.av, b.av] (rA (a.val + b.val)) := by
  have ga := good_pure a ha.ok
  have gb := good_pure b hb.ok
  have hs := fill1_pure a.val b.val (sz_val ha) (sz_val hb)
  generalize a.val = x at *
  generalize b.val = y at *
  generalize x + y = r at *
  refine Pure.of_go mixed Tryz.func75 rfl (rs := [.cell 6 26]) rfl (by kernel_rfl) (ro_rA _) ?_
  unfold rA RQ.av qc at *
  simp only at *
  simp -implicitDefEqProofs [go_sem]
  refine once_do144 (sz := 4) (rest := [.int .u32 0, .sl 0 true []]) (by simp -implicitDefEqProofs [go_sem, once0]) ?_
  refine CA.of_go mixed Tryz.func132 rfl (rs := []) rfl (by kernel_rfl) ?_
  simp -implicitDefEqProofs [go_sem, onceL, once1]
  refine goD_pure _ ga (by simp -implicitDefEqProofs [go_sem]) ?_
  simp -implicitDefEqProofs [go_sem]
  refine goD_pure _ gb (by simp -implicitDefEqProofs [go_sem]) ?_
  simp -implicitDefEqProofs [go_sem]
  refine goD_pure _ hs (by simp -implicitDefEqProofs [go_sem]) ?_
  simp -implicitDefEqProofs [go_sem, rop]
theorem do1_pure (a b : RQ) (ha : a.Sm) (hb : b.Sm) : Pure Tryz.prog 75 [.int .i64 1, a.av, b.av] (rA (a.val - b.val)) := by
  have ga := good_pure a ha.ok
  have gb := good_pure b hb.ok
  have hs := fill2_pure a.val b.val (sz_val ha) (sz_val hb)
  generalize a.val = x at *
  generalize b.val = y at *
  generalize x - y = r at *
  refine Pure.of_go mixed Tryz.func75 rfl (rs := [.cell 6 26]) rfl (by kernel_rfl) (ro_rA _) ?_
  unfold rA RQ.av qc at *
  simp only at *
  simp -implicitDefEqProofs [go_sem]
  refine once_do144 (sz := 4) (rest := [.int .u32 0, .sl 0 true []]) (by simp -implicitDefEqProofs [go_sem, once0]) ?_
  refine CA.of_go mixed Tryz.func132 rfl (rs := []) rfl (by kernel_rfl) ?_
  simp -implicitDefEqProofs [go_sem, onceL, once1]
  refine goD_pure _ ga (by simp -implicitDefEqProofs [go_sem]) ?_
  simp -implicitDefEqProofs [go_sem]
  refine goD_pure _ gb (by simp -implicitDefEqProofs [go_sem]) ?_
  simp -implicitDefEqProofs [go_sem]
  refine goD_dead [4] _ (by kernel_rfl) hs (by simp -implicitDefEqProofs [go_sem]) (by simp -implicitDefEqProofs [go_sem]) (by simp -implicitDefEqProofs [go_sem]) (by simp -implicitDefEqProofs [go_sem]) ?_
  simp -implicitDefEqProofs [go_sem, rop]
theorem do2_pure (a b : RQ) (ha : a.Sm) (hb : b.Sm) : Pure Tryz.prog 75 [.int .i64 2, a.av, b.av] (rA (a.val * b.val)) := by
  have ga := good_pure a ha.ok
  have gb := good_pure b hb.ok
  have hs := fill3_pure a.val b.val (sz_val ha) (sz_val hb)
  generalize a.val = x at *
  generalize b.val = y at *
  generalize x * y = r at *
  refine Pure.of_go mixed Tryz.func75 rfl (rs := [.cell 6 26]) rfl (by kernel_rfl) (ro_rA _) ?_
  unfold rA RQ.av qc at *
  simp only at *
  simp -implicitDefEqProofs [go_sem]
  refine once_do144 (sz := 4) (rest := [.int .u32 0, .sl 0 true []]) (by simp -implicitDefEqProofs [go_sem, once0]) ?_
  refine CA.of_go mixed Tryz.func132 rfl (rs := []) rfl (by kernel_rfl) ?_
  simp -implicitDefEqProofs [go_sem, onceL, once1]
  refine goD_pure _ ga (by simp -implicitDefEqProofs [go_sem]) ?_
  simp -implicitDefEqProofs [go_sem]
  refine goD_pure _ gb (by simp -implicitDefEqProofs [go_sem]) ?_
  simp -implicitDefEqProofs [go_sem]
  refine goD_pure _ hs (by simp -implicitDefEqProofs [go_sem]) ?_
  simp -implicitDefEqProofs [go_sem, rop]
theorem radd_pure (a b : RQ) (ha : a.Sm) (hb : b.Sm) : Pure Tryz.prog 79 [a.av, b.av] (rA (a.val + b.val)) := by
  have h := do0_pure a b ha hb
  generalize a.val + b.val = r at *
  refine Pure.of_go mixed Tryz.func79 rfl (rs := [.cell 4 26]) rfl (by kernel_rfl) (ro_rA _) ?_
  unfold rA RQ.av qc at *
  simp only at *
  simp -implicitDefEqProofs [go_sem]
  refine goC_pure _ h (by simp -implicitDefEqProofs [go_sem]) ?_
  simp -implicitDefEqProofs [go_sem, rop]
theorem rsub_pure (a b : RQ) (ha : a.Sm) (hb : b.Sm) : Pure Tryz.prog 29 [a.av, b.av] (rA (a.val - b.val)) := by
  have h := do1_pure a b ha hb
  generalize a.val - b.val = r at *
  refine Pure.of_go mixed Tryz.func29 rfl (rs := [.cell 4 26]) rfl (by kernel_rfl) (ro_rA _) ?_
  unfold rA RQ.av qc at *
  simp only at *
  simp -implicitDefEqProofs [go_sem]
  refine goC_pure _ h (by simp -implicitDefEqProofs [go_sem]) ?_
  simp -implicitDefEqProofs [go_sem, rop]
theorem rmul_pure (a b : RQ) (ha : a.Sm) (hb : b.Sm) : Pure Tryz.prog 27 [a.av, b.av] (rA (a.val * b.val)) := by
  have h := do2_pure a b ha hb
  generalize a.val * b.val = r at *
  refine Pure.of_go mixed Tryz.func27 rfl (rs := [.cell 4 26]) rfl (by kernel_rfl) (ro_rA _) ?_
  unfold rA RQ.av qc at *
  simp only at *
  simp -implicitDefEqProofs [go_sem]
  refine goC_pure _ h (by simp -implicitDefEqProofs [go_sem]) ?_
  simp -implicitDefEqProofs [go_sem, rop]
def iA (x : Int) : AV := .agg [.bool (decide (x < 0)), qA x.natAbs]
theorem ro_iA (x : Int) : ro (iA x) := by unfold iA qA; simp -implicitDefEqProofs [go_sem]
theorem nl32 (x : Nat) : (lims 4294967296 x).length ≤ 2 * nl x := by
  refine lims_len (by omega) ?_
  rw [pow32]; exact nl_lt
theorem fit32 {x : Nat} (h : nl x < 549755813888) : Len (lims 4294967296 x) := by
  unfold Len; have := nl32 x; omega
theorem iA_sgn (b : Bool) (x : Nat) : iA (sgn b x) = .agg [.bool (b && decide (0 < x)), qA x] := by
  unfold iA; simp only [sgn_abs, sgn_lt]
theorem nl32_pos {x : Nat} : decide (0 < (lims 4294967296 x).length) = decide (0 < x) := by
  congr 1
  rw [List.length_pos_iff, ne_eq, lims_nil_iff (by omega), Nat.pos_iff_ne_zero]
theorem imade_pure (neg : Bool) (n : Nat) : Pure Tryz.prog 168 [.bool neg, qA n] (iA (sgn neg n)) := by
  refine Pure.of_go mixed Tryz.func168 rfl (rs := [.cell 4 38]) rfl (by kernel_rfl) (ro_iA _) ?_
  rw [iA_sgn]
  have hp := nl32_pos (x := n)
  unfold qA at *
  simp -implicitDefEqProofs [go_sem, rop]
  refine ⟨fun h => by rw [hp, h]; rfl, fun h h2 => by rw [h] at h2; cases h2⟩
theorem iin_pure (z : ZR) (hz : z.Ok) : Pure Tryz.prog 111 [z.av] (iA z.val) := by
  obtain ⟨neg, n⟩ := z
  have h1 := in_pure n hz.len hz.lim
  have h2 := imade_pure neg (lv 18446744073709551616 n)
  unfold ZR.val
  simp only
  generalize sgn neg (lv 18446744073709551616 n) = y at *
  generalize lv 18446744073709551616 n = m at *
  refine Pure.of_go mixed Tryz.func111 rfl (rs := [.cell 2 38]) rfl (by kernel_rfl) (ro_iA _) ?_
  unfold ZR.av iA qA at *
  simp only
  simp -implicitDefEqProofs [go_sem]
  refine goD_pure _ h1 (by simp -implicitDefEqProofs [go_sem]) ?_
  simp -implicitDefEqProofs [go_sem]
  refine goD_pure _ h2 (by simp -implicitDefEqProofs [go_sem]) ?_
  simp -implicitDefEqProofs [go_sem, rop]
theorem iout_pure (x : Int) (h : nl x.natAbs < 549755813888) : Pure Tryz.prog 147 [iA x] (zA x) := by
  have h1 := out_pure x.natAbs (fit32 h)
  refine Pure.of_go mixed Tryz.func147 rfl (rs := [.cell 2 24]) rfl (by kernel_rfl) (ro_zA _) ?_
  unfold iA zA ZR.av zc qA at *
  simp -implicitDefEqProofs [go_sem]
  refine goD_pure _ h1 (by simp -implicitDefEqProofs [go_sem]) ?_
  simp -implicitDefEqProofs [go_sem, rop]
theorem iof_pure (v : Int) (h : -9223372036854775808 ≤ v ∧ v ≤ 9223372036854775807) : Pure Tryz.prog 151 [.int .i64 v] (iA v) := by
  refine Pure.of_go mixed Tryz.func151 rfl (rs := [.cell 2 38]) rfl (by kernel_rfl) (ro_iA _) ?_
  have hof := of32_pure v.natAbs (by omega)
  have h1 := imade_pure true v.natAbs
  have h2 := imade_pure false v.natAbs
  unfold qA at *
  simp -implicitDefEqProofs [go_sem]
  refine ⟨fun h0 => ?_, fun h0 => ?_⟩
  · have e1 : IntKind.u64.wrap (IntKind.u64.wrap (IntKind.i64.wrap (-IntKind.i64.wrap (v + 1))) + 1) = (v.natAbs : Nat) := by
      rw [w64 (x := v + 1) (by omega), w64 (by omega), wu64 (x := -(v + 1)) (by omega), wu64 (by omega)]; omega
    rw [e1]
    have e2 : sgn true v.natAbs = v := by unfold sgn; simp only [if_true]; omega
    rw [e2] at h1
    refine goC_pure _ hof (by simp -implicitDefEqProofs [go_sem]) ?_
    simp -implicitDefEqProofs [go_sem]
    refine goC_pure _ h1 (by simp -implicitDefEqProofs [go_sem]) ?_
    simp -implicitDefEqProofs [go_sem, rop, iA, qA]
  · have e1 : IntKind.u64.wrap v = (v.natAbs : Nat) := by rw [wu64 (by omega)]; omega
    rw [e1]
    have e2 : sgn false v.natAbs = v := by unfold sgn; simp only [Bool.false_eq_true, if_false]; omega
    rw [e2] at h2
    refine goC_pure _ hof (by simp -implicitDefEqProofs [go_sem]) ?_
    simp -implicitDefEqProofs [go_sem]
    refine goC_pure _ h2 (by simp -implicitDefEqProofs [go_sem]) ?_
    simp -implicitDefEqProofs [go_sem, rop, iA, qA]
theorem iminus_pure (x : Int) : Pure Tryz.prog 130 [iA x] (iA (-x)) := by
  have hm := imade_pure (!(decide (x < 0))) x.natAbs
  rw [sgn_not, sgn_dec] at hm
  generalize -x = y at *
  refine Pure.of_go mixed Tryz.func130 rfl (rs := [.cell 2 38]) rfl (by kernel_rfl) (ro_iA _) ?_
  unfold iA qA at *
  generalize hb : decide (x < 0) = b at *
  simp -implicitDefEqProofs [go_sem]
  refine goC_pure _ hm (by simp -implicitDefEqProofs [go_sem]) ?_
  simp -implicitDefEqProofs [go_sem, rop]
theorem isign_pure (x : Int) : Pure Tryz.prog 125 [iA x] (.int .i64 (sgnI x)) := by
  refine Pure.of_go mixed Tryz.func125 rfl (rs := [.tmp 2]) rfl (by kernel_rfl) (by simp -implicitDefEqProofs [go_sem]) ?_
  unfold iA qA
  have hp : lims 4294967296 x.natAbs = [] ↔ x = 0 := by rw [lims_nil_iff (by omega)]; omega
  unfold sgnI
  by_cases h0 : x = 0
  · have := hp.2 h0
    simp -implicitDefEqProofs [go_sem, h0, this]
    exact lims_zero
  · have h1 : ¬ lims 4294967296 x.natAbs = [] := fun h => h0 (hp.1 h)
    by_cases h2 : x < 0
    · simp -implicitDefEqProofs [go_sem, h0, h1, h2]
    · simp -implicitDefEqProofs [go_sem, h0, h1, h2]
theorem imul_pure (x y : Int) (hx : nl x.natAbs < 549755813888) (hy : nl y.natAbs < 549755813888) : Pure Tryz.prog 148 [iA x, iA y] (iA (x * y)) := by
  have h1 := mul32_pure x.natAbs y.natAbs (fit32 hx) (fit32 hy)
  have hm := imade_pure (decide (x < 0) != decide (y < 0)) (x.natAbs * y.natAbs)
  rw [sgn_mul, sgn_dec, sgn_dec] at hm
  refine Pure.of_go mixed Tryz.func148 rfl (rs := [.cell 4 38]) rfl (by kernel_rfl) (ro_iA _) ?_
  generalize x * y = z at *
  generalize x.natAbs * y.natAbs = xy at *
  unfold iA qA at *
  generalize decide (x < 0) = bx at *
  generalize decide (y < 0) = by' at *
  simp -implicitDefEqProofs [go_sem]
  refine goD_pure _ h1 (by simp -implicitDefEqProofs [go_sem]) ?_
  simp -implicitDefEqProofs [go_sem]
  refine goD_pure _ (show Pure Tryz.prog 168 [.bool (!(bx == by')), mA (lims 4294967296 xy)] _ from hm) (by simp -implicitDefEqProofs [go_sem]) ?_
  simp -implicitDefEqProofs [go_sem, rop]
set_option maxHeartbeats 1000000 in
theorem iadd_pure (x y : Int) (hx : nl x.natAbs < 549755813888) (hy : nl y.natAbs < 549755813888) : Pure Tryz.prog 177 [iA x, iA y] (iA (x + y)) := by
  have fx := fit32 hx
  have fy := fit32 hy
  have hadd := add32_pure x.natAbs y.natAbs fx fy
  have hcmp := cmp32_pure x.natAbs y.natAbs fx.x fy.x
  have hsub1 := fun h => sub32_pure x.natAbs y.natAbs fx fy h
  have hsub2 := fun h => sub32_pure y.natAbs x.natAbs fy fx h
  have hmk := imade_pure
  refine Pure.of_go mixed Tryz.func177 rfl (rs := [.cell 4 38]) rfl (by kernel_rfl) (ro_iA _) ?_
  rcases Decidable.em (x < 0 ↔ y < 0) with h | h
  · have hm := hmk (decide (x < 0)) (x.natAbs + y.natAbs)
    rw [show sgn (decide (x < 0)) (x.natAbs + y.natAbs) = x + y by unfold sgn; simp only [decide_eq_true_eq]; split <;> omega] at hm
    generalize x + y = z at *
    generalize x.natAbs + y.natAbs = s at *
    unfold iA qA at *
    simp -implicitDefEqProofs [go_sem, h]
    refine goD_pure _ hadd (by simp -implicitDefEqProofs [go_sem]) ?_
    simp -implicitDefEqProofs [go_sem, h]
    simp only [h] at hm
    refine goD_pure _ hm (by simp -implicitDefEqProofs [go_sem]) ?_
    simp -implicitDefEqProofs [go_sem, rop]
  · rcases Nat.lt_or_ge x.natAbs y.natAbs with h1 | h1
    · have hc : ¬ 0 ≤ cmpI x.natAbs y.natAbs := by rw [cmpI_lt (by omega)]; omega
      have hm := hmk (decide (y < 0)) (y.natAbs - x.natAbs)
      rw [show sgn (decide (y < 0)) (y.natAbs - x.natAbs) = x + y by unfold sgn; simp only [decide_eq_true_eq]; split <;> omega] at hm
      have hs := hsub2 (by omega)
      clear hsub1 hsub2 hadd hmk
      generalize x + y = z at *
      generalize y.natAbs - x.natAbs = s at *
      generalize cmpI x.natAbs y.natAbs = c at *
      unfold iA qA at *
      simp -implicitDefEqProofs [go_sem, h]
      refine goC_pure _ hcmp (by simp -implicitDefEqProofs [go_sem]) ?_
      simp -implicitDefEqProofs [go_sem, hc]
      refine goD_pure _ hs (by simp -implicitDefEqProofs [go_sem]) ?_
      simp -implicitDefEqProofs [go_sem]
      refine goD_pure _ hm (by simp -implicitDefEqProofs [go_sem]) ?_
      simp -implicitDefEqProofs [go_sem, rop]
    · have hc : 0 ≤ cmpI x.natAbs y.natAbs := by
        rcases Nat.lt_or_ge y.natAbs x.natAbs with h | h
        · rw [cmpI_gt (by omega)]; omega
        · rw [show x.natAbs = y.natAbs by omega, cmpI_eq]; omega
      have hm := hmk (decide (x < 0)) (x.natAbs - y.natAbs)
      rw [show sgn (decide (x < 0)) (x.natAbs - y.natAbs) = x + y by unfold sgn; simp only [decide_eq_true_eq]; split <;> omega] at hm
      have hs := hsub1 h1
      clear hsub1 hsub2 hadd hmk
      generalize x + y = z at *
      generalize x.natAbs - y.natAbs = s at *
      generalize cmpI x.natAbs y.natAbs = c at *
      unfold iA qA at *
      simp -implicitDefEqProofs [go_sem, h]
      refine goC_pure _ hcmp (by simp -implicitDefEqProofs [go_sem]) ?_
      simp -implicitDefEqProofs [go_sem, hc]
      refine goD_pure _ hs (by simp -implicitDefEqProofs [go_sem]) ?_
      simp -implicitDefEqProofs [go_sem]
      refine goD_pure _ hm (by simp -implicitDefEqProofs [go_sem]) ?_
      simp -implicitDefEqProofs [go_sem, rop]
theorem isub_pure (x y : Int) (hx : nl x.natAbs < 549755813888) (hy : nl y.natAbs < 549755813888) : Pure Tryz.prog 195 [iA x, iA y] (iA (x - y)) := by
  have hn := iminus_pure y
  have ha := iadd_pure x (-y) hx (by rw [Int.natAbs_neg]; exact hy)
  rw [← Int.sub_eq_add_neg] at ha
  generalize x - y = z at *
  generalize -y = w at *
  refine Pure.of_go mixed Tryz.func195 rfl (rs := [.cell 4 38]) rfl (by kernel_rfl) (ro_iA _) ?_
  unfold iA qA at *
  simp -implicitDefEqProofs [go_sem]
  refine goD_pure _ hn (by simp -implicitDefEqProofs [go_sem]) ?_
  simp -implicitDefEqProofs [go_sem]
  refine goD_pure _ ha (by simp -implicitDefEqProofs [go_sem]) ?_
  simp -implicitDefEqProofs [go_sem, rop]
theorem icmp_pure (x y : Int) (hx : nl x.natAbs < 549755813888) (hy : nl y.natAbs < 549755813888) : Pure Tryz.prog 159 [iA x, iA y] (.int .i64 (cmpI x y)) := by
  have hs := isub_pure x y hx hy
  have hg := isign_pure (x - y)
  rw [sgnI_sub] at hg
  generalize x - y = z at *
  generalize cmpI x y = c at *
  refine Pure.of_go mixed Tryz.func159 rfl (rs := [.tmp 4]) rfl (by kernel_rfl) (by simp -implicitDefEqProofs [go_sem]) ?_
  unfold iA qA at *
  simp -implicitDefEqProofs [go_sem]
  refine goC_pure _ hs (by simp -implicitDefEqProofs [go_sem]) ?_
  simp -implicitDefEqProofs [go_sem]
  refine goC_pure _ hg (by simp -implicitDefEqProofs [go_sem]) ?_
  simp -implicitDefEqProofs [go_sem]
@[go_sem] theorem getE_zero (a : AV) (l : List AV) : getE (a :: l) 0 = a := rfl
def fA (x : Rat) : AV := .agg [.bool (decide (x.num < 0)), qA x.num.natAbs, qA x.den]
theorem ro_fA (x : Rat) : ro (fA x) := by unfold fA qA; simp -implicitDefEqProofs [go_sem]
set_option maxHeartbeats 1000000 in
theorem fmade_pure (p : Int) (q : Nat) (hp : nl p.natAbs < 549755813888) (hq : nl q < 549755813888) (h0 : q ≠ 0) : Pure Tryz.prog 110 [iA p, qA q] (fA (mkRat p q)) := by
  have hg := gcd32_pure p.natAbs q (fit32 hp) (fit32 hq)
  obtain ⟨g, hgg⟩ : ∃ g, g = Nat.gcd p.natAbs q := ⟨_, rfl⟩
  have hg0 : g ≠ 0 := by rw [hgg]; exact Nat.gcd_ne_zero_right h0
  have hgl : g ≤ q := by rw [hgg]; exact Nat.le_of_dvd (Nat.pos_iff_ne_zero.2 h0) (Nat.gcd_dvd_right _ _)
  have hgf : Len (lims 4294967296 g) := fit32 (Nat.lt_of_le_of_lt (nl_mono hgl) hq)
  have hd1 := divmod32_pure p.natAbs g (fit32 hp) hgf (by omega)
  have hd2 := divmod32_pure q g (fit32 hq) hgf (by omega)
  have hgp : g ∣ p.natAbs := by rw [hgg]; exact Nat.gcd_dvd_left _ _
  have hn : (mkRat p q).num = sgn (decide (p < 0)) (p.natAbs / g) := by
    rw [mk_num _ h0, ← hgg, sgn_div _ hgp, sgn_dec]
  have hdn : (mkRat p q).den = q / g := by rw [mk_den _ h0, ← hgg]
  have hneg : decide (sgn (decide (p < 0)) (p.natAbs / g) < 0) = decide (p < 0) := by
    rw [sgn_lt]
    by_cases h : p < 0
    · have : 0 < p.natAbs / g := Nat.div_pos (Nat.le_of_dvd (by omega) hgp) (by omega)
      simp [h, this]
    · simp [h]
  rw [← hgg] at hg
  refine Pure.of_go mixed Tryz.func110 rfl (rs := [.cell 4 40]) rfl (by kernel_rfl) (ro_fA _) ?_
  unfold fA
  rw [hn, hdn, hneg, sgn_abs]
  clear hn hdn hneg
  by_cases h1 : g = 1
  · rw [h1, Nat.div_one, Nat.div_one]
    rw [h1] at hg
    clear hd1 hd2
    unfold iA qA at *
    rw [lims_small (B := 4294967296) (n := 1) (by omega) (by omega) (by omega)] at hg
    generalize lims 4294967296 p.natAbs = P at *
    generalize lims 4294967296 q = Q at *
    simp -implicitDefEqProofs [go_sem]
    refine goC_pure _ hg (by simp -implicitDefEqProofs [go_sem]) ?_
    simp -implicitDefEqProofs [go_sem, rop]
  · generalize p.natAbs / g = pg at *
    generalize p.natAbs % g = pr at *
    generalize q / g = qg at *
    generalize q % g = qr at *
    unfold iA qA at *
    by_cases h2 : g < 4294967296
    · rw [lims_small (B := 4294967296) (by omega) hg0 h2] at hg hd1 hd2
      clear hgf hgl hgp hgg
      have h1i : ¬ (g : Int) = 1 := by omega
      simp -implicitDefEqProofs [go_sem]
      refine goC_pure _ hg (by simp -implicitDefEqProofs [go_sem]) ?_
      simp -implicitDefEqProofs [go_sem, h1i]
      refine goD_pure _ hd1 (by simp -implicitDefEqProofs [go_sem]) ?_
      simp -implicitDefEqProofs [go_sem]
      refine goD_pure _ hd2 (by simp -implicitDefEqProofs [go_sem]) ?_
      simp -implicitDefEqProofs [go_sem, rop]
    · have hlen : ¬ (lims 4294967296 g).length = 1 := fun h => by
        have h3 := lv_lt (lim_lims (B := 4294967296) (by omega) g)
        rw [h, lv_lims (by omega)] at h3
        exact h2 (by simpa using h3)
      have hne : ¬ lims 4294967296 g = [] := fun h => hg0 ((lims_nil_iff (by omega)).1 h)
      generalize lims 4294967296 g = G at *
      have hlen2 : ¬ (G.length : Int) = 1 := by omega
      simp -implicitDefEqProofs [go_sem]
      refine goC_pure _ hg (by simp -implicitDefEqProofs [go_sem]) ?_
      simp -implicitDefEqProofs [go_sem, hlen2, hne]
      refine goD_pure _ hd1 (by simp -implicitDefEqProofs [go_sem]) ?_
      simp -implicitDefEqProofs [go_sem]
      refine goD_pure _ hd2 (by simp -implicitDefEqProofs [go_sem]) ?_
      simp -implicitDefEqProofs [go_sem, rop]
theorem fin_pure (z : RQ) (hz : z.Ok) (hp : nl z.num.natAbs < 549755813888) (hq : nl z.den < 549755813888) : Pure Tryz.prog 46 [z.av] (fA z.val) := by
  have h1 := in_pure z.q hz.lenq hz.limq
  have h2 := iin_pure ⟨z.neg, z.p⟩ ⟨hz.lenp, hz.limp⟩
  have h3 := of32_pure 1 (by omega)
  have hm := fmade_pure z.num z.den hp hq z.den_ne
  change Pure _ _ _ (iA z.num) at h2
  change Pure _ _ _ (fA z.val) at hm
  have hd : z.den = if lv 18446744073709551616 z.q = 0 then 1 else lv 18446744073709551616 z.q := rfl
  generalize z.val = v at *
  generalize z.num = n at *
  generalize z.den = d at *
  refine Pure.of_go mixed Tryz.func46 rfl (rs := [.cell 2 40]) rfl (by kernel_rfl) (ro_fA _) ?_
  unfold RQ.av ZR.av fA iA qA at *
  simp only at *
  by_cases h0 : lv 18446744073709551616 z.q = 0
  · rw [if_pos h0] at hd
    subst hd
    rw [h0, lims_zero] at h1
    generalize lims 4294967296 1 = o at *
    simp -implicitDefEqProofs [go_sem]
    refine goC_pure _ h1 (by simp -implicitDefEqProofs [go_sem]) ?_
    simp -implicitDefEqProofs [go_sem]
    refine goC_pure _ h3 (by simp -implicitDefEqProofs [go_sem]) ?_
    simp -implicitDefEqProofs [go_sem]
    refine goC_pure _ h2 (by simp -implicitDefEqProofs [go_sem]) ?_
    simp -implicitDefEqProofs [go_sem]
    refine goC_pure _ hm (by simp -implicitDefEqProofs [go_sem]) ?_
    simp -implicitDefEqProofs [go_sem, rop]
  · rw [if_neg h0] at hd
    have hne : ¬ lims 4294967296 d = [] := fun h => h0 (by rw [← hd]; exact (lims_nil_iff (by omega)).1 h)
    rw [← hd] at h1
    generalize lims 4294967296 d = D at *
    simp -implicitDefEqProofs [go_sem]
    refine goC_pure _ h1 (by simp -implicitDefEqProofs [go_sem]) ?_
    simp -implicitDefEqProofs [go_sem, hne]
    refine goC_pure _ h2 (by simp -implicitDefEqProofs [go_sem]) ?_
    simp -implicitDefEqProofs [go_sem]
    refine goC_pure _ hm (by simp -implicitDefEqProofs [go_sem]) ?_
    simp -implicitDefEqProofs [go_sem, rop]
theorem fout_pure (x : Rat) (h : sz x < 549755813888) : Pure Tryz.prog 87 [fA x] (rA x) := by
  have := sz_num x; have := sz_den x
  have h1 := iout_pure x.num (by omega)
  have h2 := out_pure x.den (fit32 (by omega))
  have hne : ¬ lims 18446744073709551616 x.den = [] := fun h => x.den_nz ((lims_nil_iff (by omega)).1 h)
  refine Pure.of_go mixed Tryz.func87 rfl (rs := [.cell 2 26]) rfl (by kernel_rfl) (ro_rA _) ?_
  unfold rA RQ.av qc fA iA zA ZR.av zc qA at *
  simp only at *
  generalize lims 18446744073709551616 x.den = D at *
  simp -implicitDefEqProofs [go_sem]
  refine goC_pure _ h2 (by simp -implicitDefEqProofs [go_sem]) ?_
  simp -implicitDefEqProofs [go_sem, hne]
  refine goC_pure _ h1 (by simp -implicitDefEqProofs [go_sem]) ?_
  simp -implicitDefEqProofs [go_sem, rop]
theorem fden_pure (x : Rat) : Pure Tryz.prog 150 [fA x] (iA (x.den : Int)) := by
  have hne : ¬ lims 4294967296 x.den = [] := fun h => x.den_nz ((lims_nil_iff (by omega)).1 h)
  have hi : iA (x.den : Int) = .agg [.bool false, qA x.den] := by
    unfold iA
    have h : decide ((x.den : Int) < 0) = false := by simp
    rw [h]; rfl
  rw [hi]
  refine Pure.of_go mixed Tryz.func150 rfl (rs := [.cell 2 38]) rfl (by kernel_rfl) (by simp -implicitDefEqProofs [go_sem, qA]) ?_
  unfold fA qA at *
  generalize lims 4294967296 x.den = D at *
  simp -implicitDefEqProofs [go_sem, hne, rop]
theorem iA_nat (n : Nat) : iA (n : Int) = .agg [.bool false, qA n] := by
  unfold iA
  have h : decide ((n : Int) < 0) = false := by simp
  rw [h]; rfl
theorem fsign_pure (x : Rat) : Pure Tryz.prog 64 [fA x] (.int .i64 (sgnQ x)) := by
  have h := isign_pure x.num
  unfold sgnQ
  generalize sgnI x.num = s at *
  refine Pure.of_go mixed Tryz.func64 rfl (rs := [.tmp 2]) rfl (by kernel_rfl) (by simp -implicitDefEqProofs [go_sem]) ?_
  unfold fA iA qA at *
  simp -implicitDefEqProofs [go_sem]
  refine goC_pure _ h (by simp -implicitDefEqProofs [go_sem]) ?_
  simp -implicitDefEqProofs [go_sem]
theorem fminus_pure (x : Rat) : Pure Tryz.prog 68 [fA x] (fA (-x)) := by
  have h := iminus_pure x.num
  refine Pure.of_go mixed Tryz.func68 rfl (rs := [.cell 2 40]) rfl (by kernel_rfl) (ro_fA _) ?_
  unfold fA iA qA at *
  rw [Rat.neg_num, Rat.neg_den]
  generalize -x.num = m at *
  simp -implicitDefEqProofs [go_sem]
  refine goD_pure _ h (by simp -implicitDefEqProofs [go_sem]) ?_
  simp -implicitDefEqProofs [go_sem, rop]
theorem fcmp_pure (x y : Rat) (hx : sz x ≤ 17179869184) (hy : sz y ≤ 17179869184) : Pure Tryz.prog 98 [fA x, fA y] (.int .i64 (cmpQ x y)) := by
  have := sz_num x; have := sz_num y; have := sz_den x; have := sz_den y
  have dx := fden_pure x
  have dy := fden_pure y
  have m1 := imul_pure x.num y.den (by omega) (by simp; omega)
  have m2 := imul_pure y.num x.den (by omega) (by simp; omega)
  have hc := icmp_pure (x.num * y.den) (y.num * x.den) (by
    have h1 := nl_mul x.num.natAbs y.den
    rw [Int.natAbs_mul]; simp; omega) (by
    have h1 := nl_mul y.num.natAbs x.den
    rw [Int.natAbs_mul]; simp; omega)
  unfold cmpQ
  generalize x.num * y.den = u at *
  generalize y.num * x.den = w at *
  generalize cmpI u w = c at *
  rw [iA_nat] at dx dy m1 m2
  refine Pure.of_go mixed Tryz.func98 rfl (rs := [.tmp 4]) rfl (by kernel_rfl) (by simp -implicitDefEqProofs [go_sem]) ?_
  unfold fA iA qA at *
  simp -implicitDefEqProofs [go_sem]
  refine goD_pure _ dy (by simp -implicitDefEqProofs [go_sem]) ?_
  simp -implicitDefEqProofs [go_sem]
  refine goD_pure _ m1 (by simp -implicitDefEqProofs [go_sem]) ?_
  simp -implicitDefEqProofs [go_sem]
  refine goD_pure _ dx (by simp -implicitDefEqProofs [go_sem]) ?_
  simp -implicitDefEqProofs [go_sem]
  refine goD_pure _ m2 (by simp -implicitDefEqProofs [go_sem]) ?_
  simp -implicitDefEqProofs [go_sem]
  refine goD_pure _ hc (by simp -implicitDefEqProofs [go_sem]) ?_
  simp -implicitDefEqProofs [go_sem]
theorem fmul_pure (x y : Rat) (hx : sz x ≤ 17179869184) (hy : sz y ≤ 17179869184) : Pure Tryz.prog 88 [fA x, fA y] (fA (x * y)) := by
  have := sz_num x; have := sz_num y; have := sz_den x; have := sz_den y
  have dx := fden_pure x
  have dy := fden_pure y
  have m1 := imul_pure x.num y.num (by omega) (by omega)
  have m2 := mul32_pure x.den y.den (fit32 (by omega)) (fit32 (by omega))
  have hm := fmade_pure (x.num * y.num) (x.den * y.den) (by
    have h1 := nl_mul x.num.natAbs y.num.natAbs
    rw [Int.natAbs_mul]; omega) (by
    have h1 := nl_mul x.den y.den
    omega) (den_mul_ne x y)
  rw [← mul_mk] at hm
  generalize x * y = r at *
  generalize x.num * y.num = u at *
  generalize x.den * y.den = d at *
  rw [iA_nat] at dx dy
  refine Pure.of_go mixed Tryz.func88 rfl (rs := [.cell 4 40]) rfl (by kernel_rfl) (ro_fA _) ?_
  unfold fA iA qA at *
  simp -implicitDefEqProofs [go_sem]
  refine goD_pure _ m1 (by simp -implicitDefEqProofs [go_sem]) ?_
  simp -implicitDefEqProofs [go_sem]
  refine goD_pure _ dx (by simp -implicitDefEqProofs [go_sem]) ?_
  simp -implicitDefEqProofs [go_sem]
  refine goD_pure _ dy (by simp -implicitDefEqProofs [go_sem]) ?_
  simp -implicitDefEqProofs [go_sem]
  refine goD_pure _ m2 (by simp -implicitDefEqProofs [go_sem]) ?_
  simp -implicitDefEqProofs [go_sem]
  refine goD_pure _ hm (by simp -implicitDefEqProofs [go_sem]) ?_
  simp -implicitDefEqProofs [go_sem, rop]
theorem fadd_pure (x y : Rat) (hx : sz x ≤ 17179869184) (hy : sz y ≤ 17179869184) : Pure Tryz.prog 124 [fA x, fA y] (fA (x + y)) := by
  have := sz_num x; have := sz_num y; have := sz_den x; have := sz_den y
  have dx := fden_pure x
  have dy := fden_pure y
  have m1 := imul_pure x.num y.den (by omega) (by simp; omega)
  have m2 := imul_pure y.num x.den (by omega) (by simp; omega)
  have h1 := nl_mul x.num.natAbs y.den
  have h2 := nl_mul y.num.natAbs x.den
  have ha := iadd_pure (x.num * y.den) (y.num * x.den) (by rw [Int.natAbs_mul]; simp; omega) (by rw [Int.natAbs_mul]; simp; omega)
  have m3 := mul32_pure x.den y.den (fit32 (by omega)) (fit32 (by omega))
  have hm := fmade_pure (x.num * y.den + y.num * x.den) (x.den * y.den) (by
    have h4 : (x.num * y.den + y.num * x.den).natAbs ≤ x.num.natAbs * y.den + y.num.natAbs * x.den := by
      refine Nat.le_trans (Int.natAbs_add_le _ _) ?_
      rw [Int.natAbs_mul, Int.natAbs_mul]; simp
    have h5 := nl_mono h4
    have h6 := nl_add (x.num.natAbs * y.den) (y.num.natAbs * x.den)
    omega) (by
    have h1 := nl_mul x.den y.den
    omega) (den_mul_ne x y)
  rw [← add_mk] at hm
  clear h1 h2
  generalize x + y = r at *
  generalize x.num * y.den + y.num * x.den = s at *
  generalize x.num * y.den = u at *
  generalize y.num * x.den = w at *
  generalize x.den * y.den = d at *
  rw [iA_nat] at dx dy m1 m2
  refine Pure.of_go mixed Tryz.func124 rfl (rs := [.cell 4 40]) rfl (by kernel_rfl) (ro_fA _) ?_
  unfold fA iA qA at *
  simp -implicitDefEqProofs [go_sem]
  refine goD_pure _ dy (by simp -implicitDefEqProofs [go_sem]) ?_
  simp -implicitDefEqProofs [go_sem]
  refine goD_pure _ m1 (by simp -implicitDefEqProofs [go_sem]) ?_
  simp -implicitDefEqProofs [go_sem]
  refine goD_pure _ dx (by simp -implicitDefEqProofs [go_sem]) ?_
  simp -implicitDefEqProofs [go_sem]
  refine goD_pure _ m2 (by simp -implicitDefEqProofs [go_sem]) ?_
  simp -implicitDefEqProofs [go_sem]
  refine goD_pure _ ha (by simp -implicitDefEqProofs [go_sem]) ?_
  simp -implicitDefEqProofs [go_sem]
  refine goD_pure _ dx (by simp -implicitDefEqProofs [go_sem]) ?_
  simp -implicitDefEqProofs [go_sem]
  refine goD_pure _ dy (by simp -implicitDefEqProofs [go_sem]) ?_
  simp -implicitDefEqProofs [go_sem]
  refine goD_pure _ m3 (by simp -implicitDefEqProofs [go_sem]) ?_
  simp -implicitDefEqProofs [go_sem]
  refine goD_pure _ hm (by simp -implicitDefEqProofs [go_sem]) ?_
  simp -implicitDefEqProofs [go_sem, rop]
theorem fsub_pure (x y : Rat) (hx : sz x ≤ 17179869184) (hy : sz y ≤ 17179869184) : Pure Tryz.prog 106 [fA x, fA y] (fA (x - y)) := by
  have h1 := fminus_pure y
  have h2 := fadd_pure x (-y) hx (by rw [sz_neg]; exact hy)
  rw [← Rat.sub_eq_add_neg] at h2
  generalize x - y = r at *
  generalize -y = m at *
  refine Pure.of_go mixed Tryz.func106 rfl (rs := [.cell 4 40]) rfl (by kernel_rfl) (ro_fA _) ?_
  unfold fA qA at *
  simp -implicitDefEqProofs [go_sem]
  refine goD_pure _ h1 (by simp -implicitDefEqProofs [go_sem]) ?_
  simp -implicitDefEqProofs [go_sem]
  refine goD_pure _ h2 (by simp -implicitDefEqProofs [go_sem]) ?_
  simp -implicitDefEqProofs [go_sem, rop]
theorem cmpQ_lt {x y : Rat} : cmpQ x y < 0 ↔ x < y := by
  unfold cmpQ
  rw [Rat.lt_iff]
  constructor
  · intro h
    rcases Int.lt_or_le (x.num * y.den) (y.num * x.den) with h1 | h1
    · exact h1
    · exfalso
      unfold cmpI at h
      rw [if_neg (by omega)] at h
      split at h <;> omega
  · intro h; rw [cmpI_lt h]; omega
theorem cmpQ_gt {x y : Rat} : 0 < cmpQ x y ↔ y < x := by
  unfold cmpQ
  rw [Rat.lt_iff]
  constructor
  · intro h
    rcases Int.lt_or_le (y.num * x.den) (x.num * y.den) with h1 | h1
    · exact h1
    · exfalso
      unfold cmpI at h
      split at h
      · omega
      · split at h <;> omega
  · intro h; rw [cmpI_gt h]; omega
theorem cmpQ_eq {x y : Rat} : cmpQ x y = 0 ↔ x = y := by
  constructor
  · intro h
    have h1 : ¬ x < y := fun h1 => by have := cmpQ_lt.2 h1; omega
    have h2 : ¬ y < x := fun h2 => by have := cmpQ_gt.2 h2; omega
    grind
  · intro h
    have h1 : ¬ cmpQ x y < 0 := fun h1 => by have := cmpQ_lt.1 h1; grind
    have h2 : ¬ 0 < cmpQ x y := fun h1 => by have := cmpQ_gt.1 h1; grind
    omega
theorem sgnQ_lt {x : Rat} : sgnQ x < 0 ↔ x < 0 := by
  unfold sgnQ sgnI
  rw [Rat.lt_iff]
  simp
  split
  · simp_all
  · split <;> simp_all
theorem sgnQ_eq {x : Rat} : sgnQ x = 0 ↔ x = 0 := by
  unfold sgnQ sgnI
  rw [← Rat.num_eq_zero]
  split
  · constructor <;> intro h <;> omega
  · split <;> simp_all
theorem sgnQ_gt {x : Rat} : 0 < sgnQ x ↔ 0 < x := by
  have h1 := @sgnQ_lt x
  have h2 := @sgnQ_eq x
  constructor
  · intro h
    have : ¬ x < 0 := fun h3 => by have := h1.2 h3; omega
    have : ¬ x = 0 := fun h3 => by have := h2.2 h3; omega
    grind
  · intro h
    have : ¬ sgnQ x < 0 := fun h3 => by have := h1.1 h3; grind
    have : ¬ sgnQ x = 0 := fun h3 => by have := h2.1 h3; grind
    omega
theorem fof_pure (p q : Int) (hp : -9223372036854775808 ≤ p ∧ p ≤ 9223372036854775807) (hq : -9223372036854775808 ≤ q ∧ q ≤ 9223372036854775807) (h0 : q ≠ 0) :
    Pure Tryz.prog 89 [.int .i64 p, .int .i64 q] (fA ((p : Rat) / (q : Rat))) := by
  have h1 := iof_pure p hp
  have h2 := iof_pure q hq
  have hsg : (if q < 0 then -p else p) = sgn (decide (p < 0) != decide (q < 0)) p.natAbs := by
    unfold sgn
    by_cases h3 : p < 0 <;> by_cases h4 : q < 0 <;> simp [h3, h4] <;> omega
  have hneg : decide (sgn (decide (p < 0) != decide (q < 0)) p.natAbs < 0) = ((decide (p < 0) != decide (q < 0)) && decide (0 < (lims 4294967296 p.natAbs).length)) := by
    rw [sgn_lt, nl32_pos]
  have hm := fmade_pure (if q < 0 then -p else p) q.natAbs (by have := nl_i64 hp; rw [show (if q < 0 then -p else p).natAbs = p.natAbs by split <;> omega]; omega) (by have := nl_i64 hq; omega) (by omega)
  rw [← div_mk] at hm
  rw [hsg] at hm
  generalize (p : Rat) / (q : Rat) = r at *
  refine Pure.of_go mixed Tryz.func89 rfl (rs := [.cell 4 40]) rfl (by kernel_rfl) (ro_fA _) ?_
  unfold fA iA qA at *
  rw [hneg, sgn_abs] at hm
  clear hneg hsg
  simp -implicitDefEqProofs [go_sem, h0]
  refine goC_pure _ h1 (by simp -implicitDefEqProofs [go_sem]) ?_
  simp -implicitDefEqProofs [go_sem]
  refine goC_pure _ h2 (by simp -implicitDefEqProofs [go_sem]) ?_
  simp -implicitDefEqProofs [go_sem]
  refine ⟨fun h => ?_, fun h => ?_⟩
  · have hb : (decide (p < 0) != decide (q < 0)) = true := by
      by_cases h3 : p < 0 <;> by_cases h4 : q < 0 <;> simp [h3, h4] at h ⊢
    rw [hb, Bool.true_and] at hm
    refine goC_pure _ hm (by simp -implicitDefEqProofs [go_sem]) ?_
    simp -implicitDefEqProofs [go_sem, rop]
  · have hb : (decide (p < 0) != decide (q < 0)) = false := by
      by_cases h3 : p < 0 <;> by_cases h4 : q < 0 <;> simp [h3, h4] at h ⊢
    rw [hb, Bool.false_and] at hm
    refine goC_pure _ hm (by simp -implicitDefEqProofs [go_sem]) ?_
    simp -implicitDefEqProofs [go_sem, rop]
theorem fabs_pure (x : Rat) : Pure Tryz.prog 153 [fA x] (fA x.abs) := by
  have h1 : x.abs.num = (x.num.natAbs : Int) := by
    unfold Rat.abs
    split
    · have := Rat.num_nonneg.2 (by assumption : 0 ≤ x); omega
    · rename_i h
      have : ¬ 0 ≤ x.num := fun h2 => h (Rat.num_nonneg.1 h2)
      rw [Rat.neg_num]; omega
  have h2 : x.abs.den = x.den := by
    unfold Rat.abs; split
    · rfl
    · exact Rat.neg_den _
  refine Pure.of_go mixed Tryz.func153 rfl (rs := [.cell 2 40]) rfl (by kernel_rfl) (ro_fA _) ?_
  unfold fA qA
  rw [h1, h2]
  have h3 : decide ((x.num.natAbs : Int) < 0) = false := by simp
  rw [h3, Int.natAbs_natCast]
  simp -implicitDefEqProofs [go_sem, rop]
theorem fmax_pure (x y : Rat) (hx : sz x ≤ 17179869184) (hy : sz y ≤ 17179869184) : Pure Tryz.prog 152 [fA x, fA y] (fA (if x < y then y else x)) := by
  have h := fcmp_pure y x hy hx
  have hc := @cmpQ_gt y x
  generalize cmpQ y x = c at *
  refine Pure.of_go mixed Tryz.func152 rfl (rs := [.cell 4 40]) rfl (by kernel_rfl) (ro_fA _) ?_
  by_cases hl : x < y
  · have h0 := hc.2 hl
    rw [if_pos hl]
    unfold fA qA at *
    simp -implicitDefEqProofs [go_sem]
    refine goC_pure _ h (by simp -implicitDefEqProofs [go_sem]) ?_
    simp -implicitDefEqProofs [go_sem, h0, rop]
  · have h0 : ¬ 0 < c := fun h => hl (hc.1 h)
    rw [if_neg hl]
    unfold fA qA at *
    simp -implicitDefEqProofs [go_sem]
    refine goC_pure _ h (by simp -implicitDefEqProofs [go_sem]) ?_
    simp -implicitDefEqProofs [go_sem, h0, rop]
end Go.Proofs.YtgiheamjhoiojaaGreat
