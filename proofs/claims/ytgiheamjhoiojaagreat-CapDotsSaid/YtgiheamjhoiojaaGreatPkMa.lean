import Derived.Test.YtgiheamjhoiojaaGreatPkNa
import Derived.Test.YtgiheamjhoiojaaGreatPkRa
import Derived.Test.YtgiheamjhoiojaaGreatPkOa
import Derived.Test.YtgiheamjhoiojaaGreatPkPa
namespace Go.Proofs.YtgiheamjhoiojaaGreat
open Go Go.Proofs
set_option linter.unusedSimpArgs false
set_option linter.unusedVariables false
def isq : Nat → Nat
  | 0 => 0
  | n + 1 => if (isq n + 1) * (isq n + 1) ≤ n + 1 then isq n + 1 else isq n
theorem isq_spec : ∀ n, isq n * isq n ≤ n ∧ n < (isq n + 1) * (isq n + 1)
  | 0 => by simp [isq]
  | n + 1 => by
    obtain ⟨h1, h2⟩ := isq_spec n
    unfold isq
    split
    · rename_i h
      refine ⟨h, ?_⟩
      have : (isq n + 1 + 1) * (isq n + 1 + 1) = (isq n + 1) * (isq n + 1) + 2 * (isq n + 1) + 1 := by simp only [Nat.add_mul, Nat.mul_add]; omega
      omega
    · rename_i h
      exact ⟨by omega, by omega⟩
theorem sq_lt {a b : Nat} (h : a * a < b * b) : a < b := by
  rcases Nat.lt_or_ge a b with h1 | h1
  · exact h1
  · exact absurd (Nat.mul_le_mul h1 h1) (by omega)
theorem newton_ge {n x : Nat} (hx : 0 < x) : isq n ≤ (x + n / x) / 2 := by
  obtain ⟨k1, k2⟩ := isq_spec n
  generalize isq n = s at *
  obtain ⟨q, hq⟩ : ∃ q, q = n / x := ⟨_, rfl⟩
  rw [← hq]
  rcases Nat.lt_or_ge (x + q) (2 * s) with h | h
  · exfalso
    have h2 : n < (2 * s - x) * x := (Nat.div_lt_iff_lt_mul hx).1 (by rw [← hq]; omega)
    have h3 : (2 * s - x) * x ≤ s * s := by
      obtain ⟨d, hd⟩ : ∃ d, d = 2 * s - x := ⟨_, rfl⟩
      rw [← hd]
      have hd' : (d : Int) = 2 * (s : Int) - x := by omega
      have hq : 0 ≤ ((s : Int) - x) * ((s : Int) - x) := by
        rcases Int.le_total 0 ((s : Int) - x) with h | h
        · exact Int.mul_nonneg h h
        · have := Int.mul_nonneg (show 0 ≤ -((s : Int) - x) by omega) (show 0 ≤ -((s : Int) - x) by omega)
          grind
      have he : (d : Int) * x = (s : Int) * s - ((s : Int) - x) * ((s : Int) - x) := by rw [hd']; grind
      have : (d : Int) * x ≤ (s : Int) * s := by omega
      exact_mod_cast this
    omega
  · omega
theorem newton_end {n x : Nat} (hx : 0 < x) (h : x ≤ (x + n / x) / 2) : x ≤ isq n := by
  have h1 : x ≤ n / x := by omega
  have h2 : x * x ≤ n := (Nat.le_div_iff_mul_le hx).1 h1
  obtain ⟨k1, k2⟩ := isq_spec n
  have := sq_lt (a := x) (b := isq n + 1) (by omega)
  omega
theorem isq_lt_pow {n b : Nat} (h : n < 2 ^ b) : isq n < 2 ^ ((b + 1) / 2) := by
  obtain ⟨k1, k2⟩ := isq_spec n
  refine sq_lt ?_
  rw [← Nat.pow_add]
  have : 2 ^ b ≤ 2 ^ ((b + 1) / 2 + (b + 1) / 2) := Nat.pow_le_pow_right (by omega) (by omega)
  omega
set_option maxRecDepth 20000
theorem lim_zeros (F : Nat) : Lim 18446744073709551616 (List.replicate F 0) := fun x hx => by rw [(List.mem_replicate.1 hx).2]; decide
theorem pow64 (F : Nat) : 18446744073709551616 ^ F = 2 ^ (64 * F) := by rw [Nat.pow_mul]
set_option maxHeartbeats 2000000 in
theorem shlk_pure (a : List Nat) (k : Nat) (hk : k ≤ 1048576) (ha : Len a) (la : Lim 18446744073709551616 a) : Pure Tryz.prog 218 [nA a, .int .i64 k] (nA (lims 18446744073709551616 (lv 18446744073709551616 a * 2 ^ k))) := by
  by_cases h0 : trimL a = []
  · have hv : lv 18446744073709551616 a = 0 := by rw [← lv_trim, h0]; rfl
    rw [hv, Nat.zero_mul, lims_zero]
    refine (Pure.of_go (r := .sl 0 true []) mixed Tryz.func218 rfl (rs := [.tmp 4]) rfl (by kernel_rfl) (by simp -implicitDefEqProofs [go_sem]) ?_).weaken (Wk.nil 0 1 true)
    simp -implicitDefEqProofs [go_sem]
    refine goC_pure _ (trim_pure a ha.x) (by simp -implicitDefEqProofs [go_sem]) ?_
    simp -implicitDefEqProofs [go_sem, h0]
  · have hlx := la.trim
    rw [← lv_trim]
    have hn := trim_len a
    obtain ⟨F, hF⟩ : ∃ F, F = k / 64 := ⟨_, rfl⟩
    obtain ⟨s, hs'⟩ : ∃ s, s = k % 64 := ⟨_, rfl⟩
    have hs : s < 64 := by omega
    refine Pure.of_go mixed Tryz.func218 rfl (rs := [.tmp 4]) rfl (by kernel_rfl) (ro_nA _) ?_
    simp -implicitDefEqProofs [go_sem]
    refine goC_pure _ (trim_pure a ha.x) (by simp -implicitDefEqProofs [go_sem]) ?_
    generalize trimL a = x at *
    unfold Len at ha
    have e1 : IntKind.i64.wrap ((k : Int) / 64) = F := by rw [w64 (by omega)]; omega
    have e2 : (k : Int).tmod 64 = s := by rw [Int.tmod_eq_emod_of_nonneg (by omega)]; omega
    obtain ⟨m, hm⟩ : ∃ m, m = x.length + 1 := ⟨_, rfl⟩
    obtain ⟨M, hM⟩ : ∃ M, M = F + m := ⟨_, rfl⟩
    have e3 : IntKind.i64.wrap ((F : Int) + (x.length : Int)) = (F + x.length : Nat) := by rw [w64 (by omega)]; omega
    have e4 : IntKind.i64.wrap ((F : Int) + (x.length : Int) + 1) = (M : Nat) := by rw [w64 (by omega)]; omega
    have e4' : IntKind.i64.wrap ((x.length : Int) + 1) = (m : Nat) := by rw [w64 (by omega)]; omega
    simp -implicitDefEqProofs [go_sem, e1, e2, e3, e4, e4', h0]
    refine ⟨by omega, ?_⟩
    rw [uA_rep]
    refine go_loopN 9 (α := {p : List Nat × Nat // p.1.length = m ∧ p.2 ≤ m ∧ Lim 18446744073709551616 p.1 ∧ lv 18446744073709551616 (p.1.take p.2) + 18446744073709551616 ^ p.2 * ((if p.2 = 0 then 0 else x.getD (p.2 - 1) 0) / 2 ^ (64 - s)) = lv 18446744073709551616 (x.take p.2) * 2 ^ s}) (fun p => [(0, nA x), (5, .int .i64 F), (6, .int .i64 s), (7, .own 1 0 0 M), (26, .int .i64 m), (27, .int .i64 p.1.2)]) (fun p => [(0, .live 1 (uA .u64 (List.replicate F 0 ++ p.1.1)))]) (fun p => m - p.1.2) ⟨(List.replicate m 0, 0), by simp, by simp, fun x hx => by rw [(List.mem_replicate.1 hx).2]; decide, by simp⟩ [] (by simp) (by simp) (by simp) (by simp -implicitDefEqProofs [go_sem]) (by simp -implicitDefEqProofs [go_sem, List.replicate_append_replicate, hM]) fun ⟨⟨out, i⟩, q1, q2, q3, q4⟩ => ?_
    simp only at q1 q2 q3 q4
    simp -implicitDefEqProofs [go_sem]
    refine ⟨fun h => ?_, fun h => ?_⟩
    · obtain ⟨J, hJ⟩ : ∃ J, J = F + i := ⟨_, rfl⟩
      have e5 : IntKind.i64.wrap ((i : Int) - 1) = (i : Int) - 1 := w64 (by omega)
      have e6 : IntKind.i64.wrap ((F : Int) + (i : Int)) = (J : Nat) := by rw [w64 (by omega)]; omega
      have hp : (if i = 0 then 0 else x.getD (i - 1) 0) < 18446744073709551616 := by split; omega; exact hlx.getD (by omega) _
      have hy : x.getD i 0 < 18446744073709551616 := hlx.getD (by omega) _
      have l1 := limbN x i
      have l2 := limbP x i
      have t1 := lv_take_succ 18446744073709551616 x i
      obtain ⟨p, hpp⟩ : ∃ p, p = (if i = 0 then 0 else x.getD (i - 1) 0) := ⟨_, rfl⟩
      obtain ⟨y, hyy⟩ : ∃ y, y = x.getD i 0 := ⟨_, rfl⟩
      rw [← hpp] at hp l2 q4
      rw [← hyy] at hy l1 t1
      refine goD_pure _ l1 (by simp -implicitDefEqProofs [go_sem]) ?_
      simp -implicitDefEqProofs [go_sem, e5, e6]
      obtain ⟨v, ev, hv, hsum⟩ := shl_limb hs hy hp
      have e7 : IntKind.i64.wrap ((i : Int) + 1) = (i + 1 : Nat) := by rw [w64 (by omega)]; omega
      have hgi := uA_at .u64 (l := List.replicate F 0 ++ out) (i := J) (by simp; omega)
      have hio : i < out.length := by omega
      have hset : (List.replicate F 0 ++ out).set J v = List.replicate F 0 ++ out.set i v := by
        rw [hJ, List.set_append_right _ _ (by simp)]; simp
      refine goD_pure _ l2 (by simp -implicitDefEqProofs [go_sem]) ?_
      simp -implicitDefEqProofs [go_sem, ev, e7, hgi]
      refine ⟨by rw [w64 (by omega)]; omega, by omega, by omega, go_again ⟨(out.set i v, i + 1), by simp [q1], Nat.succ_le_of_lt h, q3.set hv i, ?_⟩ (by simp only; omega) [] (by simp) (by simp) (by simp) (by simp -implicitDefEqProofs [go_sem]) (by simp -implicitDefEqProofs [go_sem, uA_set, hset])⟩
      simp only [Nat.succ_ne_zero, if_false, Nat.add_sub_cancel]
      rw [← hyy, t1, take_succ' (by simp; omega), lv_snoc]
      have e8 : (out.set i v).take i = out.take i := by rw [List.take_set_of_le (by omega)]
      have e9 : (out.set i v).getD i 0 = v := by rw [List.getD_eq_getElem?_getD, List.getElem?_set_self hio]; rfl
      rw [e8, e9, List.length_take, Nat.min_eq_left (by omega), Nat.pow_succ, Nat.add_mul, Nat.mul_assoc, Nat.mul_assoc, Nat.mul_comm y, ← q4]
      rw [Nat.mul_comm y] at hsum
      have h9 : 18446744073709551616 ^ i * (v + 18446744073709551616 * (y / 2 ^ (64 - s))) = 18446744073709551616 ^ i * (2 ^ s * y + p / 2 ^ (64 - s)) := by rw [hsum]
      rw [Nat.mul_add, Nat.mul_add] at h9
      omega
    · have him : i = m := by omega
      have hMl : M = F + out.length := by omega
      have htk : List.take M (uA .u64 (List.replicate F 0 ++ out)) = uA .u64 (List.replicate F 0 ++ out) := by
        rw [List.take_of_length_le]; simp [uA]; omega
      refine goC_dead [0] _ (trim_pure (List.replicate F 0 ++ out) (by unfold LenX; simp; omega)) (by simp -implicitDefEqProofs [go_sem, htk]) (by simp -implicitDefEqProofs [go_sem]) (by simp -implicitDefEqProofs [go_sem, hMl]) (by simp -implicitDefEqProofs [go_sem]) ?_
      rw [him, if_neg (by omega), hm, Nat.add_sub_cancel, List.take_of_length_le (l := out) (by omega), List.take_of_length_le (l := x) (by omega)] at q4
      have hz : x.getD x.length 0 = 0 := by rw [List.getD_eq_getElem?_getD, List.getElem?_eq_none (by omega)]; rfl
      rw [hz, Nat.zero_div, Nat.mul_zero, Nat.add_zero] at q4
      rw [trim_lims (by omega) (lim_append.2 ⟨lim_zeros F, q3⟩), lv_append, lv_zeros, Nat.zero_add, List.length_replicate, q4]
      have : 18446744073709551616 ^ F * (lv 18446744073709551616 x * 2 ^ s) = lv 18446744073709551616 x * 2 ^ k := by
        rw [pow64, Nat.mul_comm, Nat.mul_assoc, ← Nat.pow_add, show s + 64 * F = k by omega]
      rw [this]
      simp -implicitDefEqProofs [go_sem]
theorem shlE_pure (a : List Nat) (k : Nat) (hk : k ≤ 1048576) (ha : Len a) (la : Lim 18446744073709551616 a) : Pure Tryz.prog 253 [nA a, .int .i64 k] (.tup [nA (lims 18446744073709551616 (lv 18446744073709551616 a * 2 ^ k)), .int .i64 0]) := by
  refine Pure.of_go mixed Tryz.func253 rfl (rs := [.tmp 4, .tmp 5]) rfl (by kernel_rfl) (by simp -implicitDefEqProofs [go_sem]) ?_
  simp -implicitDefEqProofs [go_sem]
  refine ⟨by omega, fun _ => ?_⟩
  refine goC_pure _ (shlk_pure a k hk ha la) (by simp -implicitDefEqProofs [go_sem]) ?_
  simp -implicitDefEqProofs [go_sem]
theorem lims_blen {A L : Nat} (h : (lims 18446744073709551616 A).length ≤ L) : blen A ≤ 64 * L := by
  refine blen_le_of ?_
  have := lv_lt (lim_lims (B := 18446744073709551616) (by omega) A)
  rw [lv_lims (by omega), pow64] at this
  exact Nat.lt_of_lt_of_le this (Nat.pow_le_pow_right (by omega) (by omega))
theorem lims_powL {k L : Nat} (hk : k < 64 * L) : (lims 18446744073709551616 (2 ^ k)).length ≤ L := by
  refine lims_len (by omega) ?_
  rw [pow64]
  exact Nat.pow_lt_pow_right (by omega) hk
theorem lims_pow {k : Nat} (hk : k ≤ 1048576) : (lims 18446744073709551616 (2 ^ k)).length ≤ 16385 := lims_powL (by omega)
theorem lims_addL {x y L : Nat} (hx : (lims 18446744073709551616 x).length ≤ L) (hy : (lims 18446744073709551616 y).length ≤ L) : (lims 18446744073709551616 (x + y)).length ≤ L + 1 := by
  have hm : x + y < 18446744073709551616 ^ (L + 1) := by
    have g1 := lv_lt (lim_lims (B := 18446744073709551616) (by omega) x)
    have g2 := lv_lt (lim_lims (B := 18446744073709551616) (by omega) y)
    rw [lv_lims (by omega)] at g1 g2
    have g3 : 18446744073709551616 ^ (lims 18446744073709551616 x).length ≤ 18446744073709551616 ^ L := Nat.pow_le_pow_right (by omega) hx
    have g4 : 18446744073709551616 ^ (lims 18446744073709551616 y).length ≤ 18446744073709551616 ^ L := Nat.pow_le_pow_right (by omega) hy
    have g5 : 18446744073709551616 ^ (L + 1) = 18446744073709551616 ^ L * 18446744073709551616 := Nat.pow_succ ..
    generalize 18446744073709551616 ^ L = P at *
    omega
  exact lims_len (B := 18446744073709551616) (by omega) hm
set_option maxHeartbeats 1000000 in
theorem sqrt_pure (A : Nat) (hA : (lims 18446744073709551616 A).length ≤ 16384) : Pure Tryz.prog 239 [nA (lims 18446744073709551616 A)] (nA (lims 18446744073709551616 (isq A))) := by
  have hAl : Len (lims 18446744073709551616 A) := by unfold Len; omega
  have ta := trim_pure (lims 18446744073709551616 A) hAl.x
  rw [trim_lims (by omega) (lim_lims (by omega) _), lv_lims (by omega)] at ta
  by_cases h0 : A = 0
  · subst h0
    rw [show isq 0 = 0 by rfl, lims_zero] at *
    refine (Pure.of_go (r := .sl 0 true []) mixed Tryz.func239 rfl (rs := [.tmp 2]) rfl (by kernel_rfl) (by simp -implicitDefEqProofs [go_sem]) ?_).weaken (Wk.nil 0 1 true)
    simp -implicitDefEqProofs [go_sem]
    refine goC_pure _ ta (by simp -implicitDefEqProofs [go_sem]) ?_
    simp -implicitDefEqProofs [go_sem]
  · have hne : lims 18446744073709551616 A ≠ [] := fun h => h0 ((lims_nil_iff (by omega)).1 h)
    have hb := bits_pure (lims 18446744073709551616 A) hAl (lim_lims (by omega) _)
    rw [lv_lims (by omega)] at hb
    have hbl := lims_blen hA
    obtain ⟨b, hbb⟩ : ∃ b, b = blen A := ⟨_, rfl⟩
    obtain ⟨k, hk⟩ : ∃ k, k = (b + 1) / 2 := ⟨_, rfl⟩
    have e1 : IntKind.i64.wrap ((b : Int) + 1) = (b : Int) + 1 := w64 (by omega)
    have e2 : ((b : Int) + 1).tdiv 2 = k := by rw [Int.tdiv_eq_ediv_of_nonneg (by omega)]; omega
    have e2' : IntKind.i64.wrap (((b : Int) + 1) / 2) = k := by rw [w64 (by omega)]; omega
    have e3 : IntKind.i64.wrap (k : Int) = k := w64 (by omega)
    have ho := of_pure 1 (by omega)
    have hs := shlk_pure (lims 18446744073709551616 1) k (by omega) (by have := lims_len (B := 18446744073709551616) (n := 1) (k := 1) (by omega) (by decide); unfold Len; omega) (lim_lims (by omega) _)
    rw [lv_lims (by omega), Nat.one_mul] at hs
    have hlt : isq A < 2 ^ k := by rw [hk, hbb]; exact isq_lt_pow (blen_lt A)
    have hX := lims_pow (k := k) (by omega)
    generalize 2 ^ k = X0 at *
    rw [← hbb] at hb
    refine Pure.of_go mixed Tryz.func239 rfl (rs := [.tmp 2]) rfl (by kernel_rfl) (ro_nA _) ?_
    simp -implicitDefEqProofs [go_sem]
    refine goC_pure _ ta (by simp -implicitDefEqProofs [go_sem]) ?_
    simp -implicitDefEqProofs [go_sem, hne]
    refine goC_pure _ ho (by simp -implicitDefEqProofs [go_sem]) ?_
    simp -implicitDefEqProofs [go_sem]
    refine goC_pure _ hb (by simp -implicitDefEqProofs [go_sem]) ?_
    simp -implicitDefEqProofs [go_sem, e1, e2, e2', e3]
    refine goC_pure _ hs (by simp -implicitDefEqProofs [go_sem]) ?_
    simp -implicitDefEqProofs [go_sem]
    refine go_loopN 9 (α := {x : Nat // 0 < x ∧ isq A ≤ x ∧ x ≤ X0}) (fun x => [(0, nA (lims 18446744073709551616 A)), (3, nA (lims 18446744073709551616 x.1))]) (fun x => []) (fun x => x.1) ⟨X0, by omega, by omega, by omega⟩ [] (by simp) (by simp) (by simp) (by simp -implicitDefEqProofs [go_sem]) (by simp) fun ⟨x, h1, h2, h3⟩ => ?_
    have hxl : (lims 18446744073709551616 x).length ≤ 16385 := Nat.le_trans (lims_mono (by omega) h3) hX
    have hxL : Len (lims 18446744073709551616 x) := by unfold Len; omega
    have hd := divmod_pure (lims 18446744073709551616 A) (lims 18446744073709551616 x) hAl hxL (lim_lims (by omega) _) (lim_lims (by omega) _) (by rw [lv_lims (by omega)]; omega)
    rw [lv_lims (by omega), lv_lims (by omega)] at hd
    have hql : Len (lims 18446744073709551616 (A / x)) := by
      unfold Len
      have := lims_mono (B := 18446744073709551616) (by omega) (Nat.div_le_self A x)
      omega
    have hadd := add_pure (lims 18446744073709551616 x) (lims 18446744073709551616 (A / x)) hxL hql (lim_lims (by omega) _) (lim_lims (by omega) _)
    rw [lv_lims (by omega), lv_lims (by omega)] at hadd
    have hsl : (lims 18446744073709551616 (x + A / x)).length ≤ 16386 := lims_addL hxl (Nat.le_trans (lims_mono (B := 18446744073709551616) (by omega) (Nat.div_le_self A x)) (by omega))
    have hsh := shr_pure (lims 18446744073709551616 (x + A / x)) 1 (by omega) (by omega) (lim_lims (by omega) _)
    rw [lv_lims (by omega), Nat.pow_one] at hsh
    have n1 := newton_ge (n := A) h1
    have n2 := newton_end (n := A) h1
    obtain ⟨y, hy⟩ : ∃ y, y = (x + A / x) / 2 := ⟨_, rfl⟩
    rw [← hy] at hsh n1 n2
    simp -implicitDefEqProofs [go_sem]
    refine goC_pure _ hd (by simp -implicitDefEqProofs [go_sem]) ?_
    simp -implicitDefEqProofs [go_sem]
    refine goC_pure _ hadd (by simp -implicitDefEqProofs [go_sem]) ?_
    simp -implicitDefEqProofs [go_sem]
    refine goC_pure _ hsh (by simp -implicitDefEqProofs [go_sem]) ?_
    simp -implicitDefEqProofs [go_sem]
    have hyl : y ≤ x → Len (lims 18446744073709551616 y) := fun h => by
      unfold Len
      have := lims_mono (B := 18446744073709551616) (by omega) h
      omega
    have hyL : Len (lims 18446744073709551616 y) := by
      unfold Len
      have := lims_mono (B := 18446744073709551616) (by omega) (show y ≤ x + A / x by omega)
      omega
    have hc := cmp_pure (lims 18446744073709551616 y) (lims 18446744073709551616 x) hyL hxL (lim_lims (by omega) _) (lim_lims (by omega) _)
    rw [lv_lims (by omega), lv_lims (by omega)] at hc
    refine goC_pure _ hc (by simp -implicitDefEqProofs [go_sem]) ?_
    have hcc : decide ((0 : Int) ≤ cmpI y x) = decide (x ≤ y) := by
      rw [decide_eq_decide]; unfold cmpI; split
      · omega
      · split <;> omega
    generalize cmpI y x = c at *
    simp -implicitDefEqProofs [go_sem, hcc]
    have hpos : 0 < isq A := by
      rcases Nat.eq_zero_or_pos (isq A) with h | h
      · have := (isq_spec A).2; rw [h] at this; omega
      · exact h
    refine ⟨fun h => ?_, fun h => ?_⟩
    · have : x = isq A := by
        have := n2 (by simpa [hcc] using h)
        omega
      rw [this]
    · have hlt2 : y < x := by
        by_cases hh : x ≤ y
        · exact absurd hh (by simpa [hcc] using h)
        · omega
      exact go_again ⟨y, by omega, n1, by omega⟩ (by simp only; omega) [] (by simp) (by simp) (by simp) (by simp -implicitDefEqProofs [go_sem]) (by simp)
theorem on_add (a : Addr) (x d s : Int) (w : World) (hs : IntKind.i64.wrap (x + d) = s) (hc : w.cell? a = some (.int .i64 x)) (hz : w.frozen? a = false) :
    Calls Tryz.prog 175 #[.pointer (some a), .int .i64 d] w fun e w' => e = .returned (.int .i64 s) ∧ w' = w.setCell a (.int .i64 s) := by
  have hadd := run_call_add (P := Tryz.prog) Tryz.func205 (by kernel_rfl) (by kernel_rfl) (by kernel_rfl) .i64 (by kernel_rfl) (y := d) (s := s) hc hz (by simp [go_sem]; rw [hs])
  go_enter Tryz.func175, Tryz.ntmps175
  go_wp2
  refine bodyPost_ret (results_tmp rfl _ _ _) rfl ?_
  exact ⟨rfl, rfl⟩
theorem counted {f : Nat → BS} {n id sz : Nat} {x d s : Int} {rest : List AV} {K : AV → (Nat → BS) → Nat → Prop} (hs : IntKind.i64.wrap (x + d) = s) (hf : f id = .live sz [.agg (.int .i64 x :: rest)]) (hK : K (.int .i64 s) (upd f id (.live sz [.agg (.int .i64 s :: rest)])) n) :
    CA Tryz.prog 175 [.ptr id 0 0, .int .i64 d] f n K := by
  intro c vs hk hfr hl
  simp only [Rl] at hl
  obtain ⟨v1, r1, rfl, hv1, v2, r2, rfl, hv2, rfl⟩ := hl
  obtain ⟨e, he, hsz, hnr, hreal⟩ := hk.live id sz _ hf
  have hr : e.real = true := by
    cases h : e.real with
    | true => rfl
    | false => exact absurd (hnr h) (by simp)
  simp only [Rv] at hv1
  obtain ⟨hU, b, o, hv1e, hall⟩ := hv1
  obtain ⟨_, hb, ho⟩ := hall e he
  simp only [Nat.zero_mul, Nat.add_zero] at ho
  subst hb; subst ho
  subst hv1e
  simp only [Rv] at hv2
  subst hv2
  obtain ⟨p0, p1⟩ := peek hk hf he hr (j := 0) (k := .i64) (n := x) rfl
  simp only [Nat.add_zero] at p0 p1
  obtain ⟨c1, hc1, hk1, hs1, hm1⟩ := poke hk hf he hr (j := 0) (by simp) (a := .int .i64 s) (v := .int .i64 s) rfl rfl
  simp only [Nat.add_zero] at hc1
  refine callTo_enter Tryz.func175 rfl (by kernel_rfl) ((on_add _ x d s c.w hs p0 p1).mono ?_)
  rintro e' w' ⟨rfl, rfl⟩
  refine ⟨_, rfl, c1, _, _, n, hc1, hK, hk1, by simp only [Rv], hs1, Nat.le_refl _, fun j => ?_⟩
  by_cases hj : j = id
  · subst hj
    rw [upd_same, ← hfr j, hf]; simp
  · rw [upd_ne _ _ _ hj]; exact hfr j
theorem power_pure (k : Nat) (hk : k ≤ 8192) : Pure Tryz.prog 236 [.int .i64 k] (nA (lims 18446744073709551616 (2 ^ k))) := by
  have ho := of_pure 1 (by omega)
  have hs := shlE_pure (lims 18446744073709551616 1) k (by omega) (by have := lims_len (B := 18446744073709551616) (n := 1) (k := 1) (by omega) (by decide); unfold Len; omega) (lim_lims (by omega) _)
  rw [lv_lims (by omega), Nat.one_mul] at hs
  generalize 2 ^ k = X0 at *
  refine Pure.of_go mixed Tryz.func236 rfl (rs := [.tmp 2]) rfl (by kernel_rfl) (ro_nA _) ?_
  simp -implicitDefEqProofs [go_sem]
  refine goC_pure _ ho (by simp -implicitDefEqProofs [go_sem]) ?_
  simp -implicitDefEqProofs [go_sem]
  refine goC_pure _ hs (by simp -implicitDefEqProofs [go_sem]) ?_
  simp -implicitDefEqProofs [go_sem]
theorem rA_nat (n : Nat) : rA (n : Rat) = .agg [.bool false, nA (lims 18446744073709551616 n), nA (lims 18446744073709551616 1)] := by
  have := rA_int (n : Int)
  rw [Rat.intCast_natCast] at this
  rw [this]
  simp
theorem rwhole_pure (n : Nat) : Pure Tryz.prog 238 [nA (lims 18446744073709551616 n)] (rA (n : Rat)) := by
  have ho := of_pure 1 (by omega)
  refine Pure.of_go mixed Tryz.func238 rfl (rs := [.cell 2 26]) rfl (by kernel_rfl) (ro_rA _) ?_
  rw [rA_nat]
  generalize lims 18446744073709551616 1 = o at *
  simp -implicitDefEqProofs [go_sem]
  refine goC_pure _ ho (by simp -implicitDefEqProofs [go_sem]) ?_
  simp -implicitDefEqProofs [go_sem, rop]
theorem zA_nat' (n : Nat) : zA (n : Int) = .agg [.bool false, nA (lims 18446744073709551616 n)] := by
  rw [zA_nat]; rfl
theorem zdivmod_pure (x d : Nat) (hx : nl x < 274877906944) (hd : nl d < 274877906944) (h0 : d ≠ 0) : Pure Tryz.prog 254 [zA x, zA d] (.tup [zA (x / d : Nat), zA (x % d : Nat), .int .i64 0]) := by
  have hgx := zgood_pure (zc x) (zc_ok (by simp only [Int.natAbs_natCast]; exact fit_nl.2 (by omega)))
  have hgd := zgood_pure (zc d) (zc_ok (by simp only [Int.natAbs_natCast]; exact fit_nl.2 (by omega)))
  rw [zc_val] at hgx hgd
  change Pure _ _ [zA x] _ at hgx
  change Pure _ _ [zA d] _ at hgd
  have hdm := divmod_pure (lims 18446744073709551616 x) (lims 18446744073709551616 d) (fit_nl.2 (by omega)) (fit_nl.2 (by omega)) (lim_lims (by omega) _) (lim_lims (by omega) _) (by rw [lv_lims (by omega)]; exact h0)
  rw [lv_lims (by omega), lv_lims (by omega)] at hdm
  have hnq : nl (x / d) ≤ nl x := nl_mono (Nat.div_le_self x d)
  have hmd := zmade_pure false (lims 18446744073709551616 (x / d)) (fit_nl.2 (by omega)) (lim_lims (by omega) _)
  rw [lv_lims (by omega)] at hmd
  have hsg : sgn false (x / d) = ((x / d : Nat) : Int) := rfl
  rw [hsg] at hmd
  have hml := zmulc ((x / d : Nat) : Int) (d : Int) (by simp only [Int.natAbs_natCast]; omega)
  have e1 : ((x / d : Nat) : Int) * (d : Int) = ((x / d * d : Nat) : Int) := by rw [Int.natCast_mul]
  rw [e1] at hml
  have hlq : nl (x / d * d) ≤ nl x := nl_mono (Nat.div_mul_le_self x d)
  have hsb := zsub_pure (zc x) (zc ((x / d * d : Nat) : Int)) (zc_ok (by simp only [Int.natAbs_natCast]; exact fit_nl.2 (by omega))) (zc_ok (by simp only [Int.natAbs_natCast]; exact fit_nl.2 (by omega))) (by
    rw [zc_val, zc_val]
    simp only [Int.natAbs_natCast]
    refine fit_nl.2 ?_
    have := nl_add x (x / d * d)
    omega)
  rw [zc_val, zc_val] at hsb
  have e2 : (x : Int) - ((x / d * d : Nat) : Int) = ((x % d : Nat) : Int) := by
    have := Nat.div_add_mod x d
    rw [Nat.mul_comm] at this
    omega
  rw [e2] at hsb
  change Pure _ _ [zA x, zA ((x / d * d : Nat) : Int)] _ at hsb
  generalize x / d * d = qd at *
  generalize x / d = q at *
  generalize x % d = r at *
  simp only [zA_nat'] at *
  refine Pure.of_go mixed Tryz.func254 rfl (rs := [.cell 4 24, .cell 5 24, .tmp 6]) rfl (by kernel_rfl) (by simp -implicitDefEqProofs [go_sem]) ?_
  simp -implicitDefEqProofs [go_sem]
  refine goD_pure _ hgx (by simp -implicitDefEqProofs [go_sem]) ?_
  simp -implicitDefEqProofs [go_sem]
  refine goD_pure _ hgd (by simp -implicitDefEqProofs [go_sem]) ?_
  simp -implicitDefEqProofs [go_sem]
  refine goC_pure _ hdm (by simp -implicitDefEqProofs [go_sem]) ?_
  simp -implicitDefEqProofs [go_sem]
  refine goC_pure _ hmd (by simp -implicitDefEqProofs [go_sem]) ?_
  simp -implicitDefEqProofs [go_sem]
  refine goD_pure _ hml (by simp -implicitDefEqProofs [go_sem]) ?_
  simp -implicitDefEqProofs [go_sem]
  refine goD_pure _ hsb (by simp -implicitDefEqProofs [go_sem]) ?_
  simp -implicitDefEqProofs [go_sem, rop]
def flQ (x : Rat) : Nat := x.num.natAbs / x.den
theorem rfloor_pure (x : Rat) (h0 : 0 ≤ x) (hs : sz x ≤ 17179869184) : Pure Tryz.prog 237 [rA x] (zA (flQ x : Nat)) := by
  have hg := good_pure (qc x) (qc_sm hs).ok
  rw [qc_val] at hg
  change Pure _ _ [rA x] _ at hg
  have ho := over_rA x
  have hz1 := sz_num x
  have hz2 := sz_den x
  have hdm := zdivmod_pure x.num.natAbs x.den (by omega) (by omega) x.den_nz
  have hnum : x.num = (x.num.natAbs : Int) := by
    have := Rat.num_nonneg.2 h0
    omega
  have hrx : rA x = .agg [.bool false, nA (lims 18446744073709551616 x.num.natAbs), nA (lims 18446744073709551616 x.den)] := by
    have : decide (x.num < 0) = false := by simp; omega
    unfold rA RQ.av qc
    rw [this]
  unfold flQ
  rw [hrx] at hg ho ⊢
  generalize x.num.natAbs / x.den = q at *
  generalize x.num.natAbs % x.den = r at *
  generalize x.num.natAbs = n at *
  generalize x.den = d at *
  simp only [zA_nat'] at *
  refine Pure.of_go mixed Tryz.func237 rfl (rs := [.cell 2 24]) rfl (by kernel_rfl) (by simp -implicitDefEqProofs [go_sem]) ?_
  simp -implicitDefEqProofs [go_sem]
  refine goC_pure _ hg (by simp -implicitDefEqProofs [go_sem]) ?_
  simp -implicitDefEqProofs [go_sem]
  refine goD_pure _ ho (by simp -implicitDefEqProofs [go_sem]) ?_
  simp -implicitDefEqProofs [go_sem]
  refine goD_pure _ hdm (by simp -implicitDefEqProofs [go_sem]) ?_
  simp -implicitDefEqProofs [go_sem, rop]
end Go.Proofs.YtgiheamjhoiojaaGreat
