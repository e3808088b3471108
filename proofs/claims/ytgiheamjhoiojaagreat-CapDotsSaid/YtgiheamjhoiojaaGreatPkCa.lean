import Derived.Test.YtgiheamjhoiojaaGreatPkEa
import Derived.Test.YtgiheamjhoiojaaGreatPkDa
import Derived.Test.YtgiheamjhoiojaaGreatPkJa
import Derived.Test.YtgiheamjhoiojaaGreatPkOa
import Derived.Test.YtgiheamjhoiojaaGreatPkQa
import Derived.Test.YtgiheamjhoiojaaGreatPkUa
import Derived.Test.YtgiheamjhoiojaaGreatPkFb
namespace Go.Proofs.YtgiheamjhoiojaaGreat
open Go Go.Proofs
set_option linter.unusedSimpArgs false
set_option linter.unusedVariables false
set_option maxRecDepth 20000
def mayC (s : SR) : Prop := 0 < s.width.val ∧ 0 < s.tol.val ∧ 0 ≤ s.cap ∧ s.cap ≤ 2
instance (s : SR) : Decidable (mayC s) := inferInstanceAs (Decidable (_ ∧ _))
theorem sav_cap {s : SR} {C : Int} (hC : C = s.cap) : s.av = .agg [.bool s.width.neg, nA s.width.p, nA s.width.q, .bool s.miter.neg, nA s.miter.p, nA s.miter.q, .int .i64 C, .int .i64 s.join, .bool s.tol.neg, nA s.tol.p, nA s.tol.q] := by rw [hC]; rfl
set_option maxHeartbeats 1000000 in
theorem cmay_pure (s : SR) (hw : s.width.In 1000) (ht : s.tol.In 1000) : Pure Tryz.prog 55 [s.av] (.bool (decide (mayC s))) := by
  have g1 := rsign_pure s.width hw.sm.ok
  have g2 := rsign_pure s.tol ht.sm.ok
  have z1 := sgnQ_gt (x := s.width.val)
  have z2 := sgnQ_gt (x := s.tol.val)
  obtain ⟨C, hC⟩ : ∃ C, C = s.cap := ⟨_, rfl⟩
  have hB : decide (mayC s) = (decide (0 < sgnQ s.width.val) && (decide (0 < sgnQ s.tol.val) && (decide (0 ≤ C) && decide (C ≤ 2)))) := by
    rw [← Bool.decide_and, ← Bool.decide_and, ← Bool.decide_and, decide_eq_decide, z1, z2, hC]; exact Iff.rfl
  rw [hB, sav_cap hC]
  generalize sgnQ s.width.val = s1 at *
  generalize sgnQ s.tol.val = s2 at *
  clear hB z1 z2 hC
  unfold RQ.av at *
  refine Pure.of_go mixed Tryz.func55 rfl (rs := [.tmp 2]) rfl (by kernel_rfl) (by simp -implicitDefEqProofs [go_sem]) ?_
  simp -implicitDefEqProofs [go_sem]
  refine goC_pure _ g1 (by simp -implicitDefEqProofs [go_sem]) ?_
  by_cases a1 : 0 < s1
  · simp -implicitDefEqProofs [go_sem, a1]
    refine goC_pure _ g2 (by simp -implicitDefEqProofs [go_sem]) ?_
    by_cases a2 : 0 < s2
    · by_cases a3 : 0 ≤ C
      · by_cases a4 : C ≤ 2
        · simp -implicitDefEqProofs [go_sem, a2, a3, a4]
        · simp -implicitDefEqProofs [go_sem, a2, a3, a4]
      · simp -implicitDefEqProofs [go_sem, a2, a3]
    · simp -implicitDefEqProofs [go_sem, a2]
  · simp -implicitDefEqProofs [go_sem, a1]
theorem half_pure (s : SR) (hw : s.width.In 1000) : Pure Tryz.prog 58 [s.av] (rA s.h) := by
  have k1 := rof_pure 1 2 (by omega) (by omega) (by omega)
  rw [← half_eq] at k1
  have zhf := sz_half
  have k2 := rmul_pure s.width (qc half) hw.sm (qc_sm (by omega))
  rw [qc_val] at k2
  change Pure _ _ [_, rA half] (rA s.h) at k2
  have hr := s.ro_cs
  refine Pure.of_go mixed Tryz.func58 rfl (rs := [.cell 2 26]) rfl (by kernel_rfl) (ro_rA _) ?_
  unfold SR.av SR.cs at *
  generalize s.h = h at *
  simp only [rA_rC] at *
  unfold RQ.av at *
  simp -implicitDefEqProofs [go_sem]
  refine goD_pure _ k1 (by simp -implicitDefEqProofs [go_sem]) ?_
  simp -implicitDefEqProofs [go_sem]
  refine goD_pure _ k2 (by simp -implicitDefEqProofs [go_sem, ro_rC]) ?_
  simp -implicitDefEqProofs [go_sem, rop]
def besideQ (a b n : PQ) : List PQ := [a.sub n, b.sub n, b.add n, a.add n]
theorem besider (a b n : PR) (ha : a.In 1000000) (hb : b.In 1000000) (hn : n.In 1000000) : Pure Tryz.prog 59 [a.av, b.av, n.av] (pL (besideQ a.val b.val n.val)) := by
  have k1 := psub_pure a n ha.mono hn.mono
  have k2 := psub_pure b n hb.mono hn.mono
  have k3 := padd_pure b n hb.mono hn.mono
  have k4 := padd_pure a n ha.mono hn.mono
  unfold besideQ pL
  generalize a.val.sub n.val = p1 at *
  generalize b.val.sub n.val = p2 at *
  generalize b.val.add n.val = p3 at *
  generalize a.val.add n.val = p4 at *
  simp only [List.map_cons, List.map_nil, pA_pC] at *
  unfold PR.av at *
  refine Pure.of_go mixed Tryz.func59 rfl (rs := [.tmp 6]) rfl (by kernel_rfl) (by simp -implicitDefEqProofs [go_sem, ro_pC]) ?_
  simp -implicitDefEqProofs [go_sem]
  refine goD_pure _ k1 (by simp -implicitDefEqProofs [go_sem]) ?_
  simp -implicitDefEqProofs [go_sem]
  refine goD_pure _ k2 (by simp -implicitDefEqProofs [go_sem]) ?_
  simp -implicitDefEqProofs [go_sem]
  refine goD_pure _ k3 (by simp -implicitDefEqProofs [go_sem]) ?_
  simp -implicitDefEqProofs [go_sem]
  refine goD_pure _ k4 (by simp -implicitDefEqProofs [go_sem]) ?_
  simp -implicitDefEqProofs [go_sem]
def sqQ (p u : PQ) (h tol : Rat) : List PQ × Int := match fitQ u h tol with
  | none => ([], 24)
  | some (n, _) => (besideQ p (p.add ⟨n.y, -n.x⟩) n, 0)
def gotA (x : List PQ × Int) : AV := .tup [pL x.1, .int .i64 x.2]
theorem ro_gotA (x : List PQ × Int) : ro (gotA x) := by unfold gotA; simp only [ro, roL]; exact ⟨ro_pL _, trivial, trivial⟩
theorem got_nil (e : Int) : Wk (.tup [.sl 0 true [], .int .i64 e]) (gotA ([], e)) := Wk.tup (.cons (Wk.nil 0 6 true) (.cons (Wk.refl _) .nil))
theorem fillc1_pure (p u : PR) (s : SR) : Pure Tryz.prog 116 [p.av, u.av, s.av] (gotA ([], 0)) := by
  refine Pure.of_ca (ro_gotA _) (CA.of_go mixed Tryz.func116 rfl (rs := [.tmp 6, .tmp 7]) rfl (by kernel_rfl) ?_)
  unfold PR.av SR.av SR.cs
  simp -implicitDefEqProofs [go_sem]
  exact got_nil 0
set_option maxHeartbeats 2000000 in
theorem fillc2_pure (p u : PR) (s : SR) (hp : p.In 1) (hu : u.In 3) (hu0 : u.val ≠ ⟨0, 0⟩) (hs : s.Sml) (hm : mayC s) : Pure Tryz.prog 117 [p.av, u.av, s.av] (gotA (sqQ p.val u.val s.h s.tol.val)) := by
  have zp := hp.sz
  have h0 : 0 < s.h := Rat.mul_pos hm.1 half_pos
  have k1 := half_pure s hs.width.mono
  have k2 := fit_pure u s.h s.tol hu.mono hu0 (by have := hs.h; omega) h0 hs.tol.mono hm.2.1
  refine Pure.of_ca (ro_gotA _) (CA.of_go mixed Tryz.func117 rfl (rs := [.tmp 6, .tmp 7]) rfl (by kernel_rfl) ?_)
  unfold sqQ
  cases hf : fitQ u.val s.h s.tol.val with
  | none =>
    rw [hf, fitA_none] at k2
    unfold pZ at k2
    generalize s.h = h at *
    unfold SR.av SR.cs PR.av RQ.av at *
    simp only [rA_rC] at *
    simp -implicitDefEqProofs [go_sem]
    refine goD_pure _ k1 (by simp -implicitDefEqProofs [go_sem]) ?_
    simp -implicitDefEqProofs [go_sem]
    refine goD_pure _ k2 (by simp -implicitDefEqProofs [go_sem, ro_rC]) ?_
    simp -implicitDefEqProofs [go_sem]
    exact got_nil 24
  | some x =>
    obtain ⟨n, k⟩ := x
    rw [hf, fitA_some] at k2
    have zn := fit_sz hf (by have := hu.sz; omega) (by have := hs.h; omega)
    have hnx : sz n.x ≤ 7261 := Nat.le_trans (Nat.le_max_left _ _) zn
    have hny : sz n.y ≤ 7261 := Nat.le_trans (Nat.le_max_right _ _) zn
    have k3 := rnegq n.x (by omega)
    have zm : PQ.sz ⟨n.y, -n.x⟩ ≤ 7261 := Nat.max_le.2 ⟨hny, by rw [sz_neg]; exact hnx⟩
    have k4 := padd_pure p (pc ⟨n.y, -n.x⟩) hp.mono (pc_in (n := 7261) zm).mono
    rw [pc_val] at k4
    change Pure _ _ [p.av, .agg (rC n.y ++ rC (-n.x))] _ at k4
    have z4 := PQ.sz_add p.val ⟨n.y, -n.x⟩
    have k5 := besider p (pc (p.val.add ⟨n.y, -n.x⟩)) (pc n) hp.mono (pc_in (n := 100000) (by omega)).mono (pc_in (n := 7261) zn).mono
    rw [pc_val, pc_val] at k5
    change Pure _ _ [p.av, pA (p.val.add ⟨n.y, -n.x⟩), pA n] _ at k5
    simp only
    generalize besideQ p.val (p.val.add ⟨n.y, -n.x⟩) n = L at *
    generalize p.val.add ⟨n.y, -n.x⟩ = q at *
    generalize s.h = h at *
    unfold gotA pL at *
    unfold SR.av SR.cs PR.av RQ.av at *
    simp only [rA_rC, pA_pC] at *
    simp -implicitDefEqProofs [go_sem]
    refine goD_pure _ k1 (by simp -implicitDefEqProofs [go_sem]) ?_
    simp -implicitDefEqProofs [go_sem]
    refine goD_pure _ k2 (by simp -implicitDefEqProofs [go_sem, ro_rC]) ?_
    simp -implicitDefEqProofs [go_sem]
    refine goD_pure _ k3 (by simp -implicitDefEqProofs [go_sem, ro_rC]) ?_
    simp -implicitDefEqProofs [go_sem]
    refine goD_pure _ k4 (by simp -implicitDefEqProofs [go_sem, ro_rC, ro_pC]) ?_
    simp -implicitDefEqProofs [go_sem]
    refine goD_pure _ k5 (by simp -implicitDefEqProofs [go_sem, ro_pC]) ?_
    simp -implicitDefEqProofs [go_sem]
    exact Wk.refl _
theorem fillc3_pure (p u : PR) (s : SR) (hp : p.In 1) (hs : s.Sml) : Pure Tryz.prog 119 [p.av, u.av, s.av] (gotA (rnd p.val s.h s.tol.val)) := by
  have k1 := half_pure s hs.width.mono
  have k3 := dround_pure p (qc s.h) s.tol hp.mono (qc_in hs.h).mono hs.tol.mono
  rw [qc_val] at k3
  change Pure _ _ [_, rA s.h, _] _ at k3
  refine Pure.of_go mixed Tryz.func119 rfl (rs := [.tmp 6, .tmp 7]) rfl (by kernel_rfl) (ro_gotA _) ?_
  unfold gotA pL at *
  generalize rnd p.val s.h s.tol.val = R at *
  generalize s.h = h at *
  unfold SR.av SR.cs PR.av RQ.av at *
  simp only [rA_rC] at *
  simp -implicitDefEqProofs [go_sem]
  refine goD_pure _ k1 (by simp -implicitDefEqProofs [go_sem]) ?_
  simp -implicitDefEqProofs [go_sem]
  refine goD_pure _ k3 (by simp -implicitDefEqProofs [go_sem, ro_rC]) ?_
  simp -implicitDefEqProofs [go_sem]
def bodyQ (a b : PQ) (s : SR) : List PQ × Int := if ¬ mayC s then ([], 1) else if a = b then ([], 12) else match fitQ (b.sub a) s.h s.tol.val with
  | none => ([], 24)
  | some (n, _) => (besideQ a b n, 0)
theorem sub_zero {a b : PQ} : b.sub a = ⟨0, 0⟩ ↔ a = b := by
  constructor
  · intro h
    unfold PQ.sub at h
    rw [PQ.mk.injEq] at h
    exact PQ.ext (by grind) (by grind)
  · intro h; subst h; exact PQ.ext (by unfold PQ.sub; simp only; grind) (by unfold PQ.sub; simp only; grind)
set_option maxHeartbeats 4000000 in
theorem body_pure (a b : PR) (s : SR) (ha : a.In 1) (hb : b.In 1) (hs : s.Sml) : Pure Tryz.prog 19 [a.av, b.av, s.av] (gotA (bodyQ a.val b.val s)) := by
  have za := ha.sz
  have zb := hb.sz
  have k0 := cmay_pure s hs.width.mono hs.tol.mono
  have k1 := psame_pure a b ha.mono hb.mono
  have k2 := psub_pure b a hb.mono ha.mono
  have z2 := PQ.sz_sub b.val a.val
  have k3 := half_pure s hs.width.mono
  have hh := hs.h
  refine Pure.of_ca (ro_gotA _) (CA.of_go mixed Tryz.func19 rfl (rs := [.tmp 6, .tmp 7]) rfl (by kernel_rfl) ?_)
  obtain ⟨RES, hRES⟩ : ∃ R, R = gotA (bodyQ a.val b.val s) := ⟨_, rfl⟩
  rw [← hRES]
  unfold bodyQ at hRES
  by_cases a0 : mayC s
  · rw [if_neg (fun h => h a0)] at hRES
    rw [decide_eq_true a0] at k0
    by_cases a1 : a.val = b.val
    · rw [if_pos a1] at hRES
      rw [decide_eq_true a1] at k1
      unfold SR.av SR.cs PR.av at *
      simp -implicitDefEqProofs [go_sem]
      refine goC_pure _ k0 (by simp -implicitDefEqProofs [go_sem]) ?_
      simp -implicitDefEqProofs [go_sem]
      refine goC_pure _ k1 (by simp -implicitDefEqProofs [go_sem]) ?_
      simp -implicitDefEqProofs [go_sem]
      rw [hRES]
      exact got_nil 12
    · rw [if_neg a1] at hRES
      rw [decide_eq_false a1] at k1
      have h0 : 0 < s.h := Rat.mul_pos a0.1 half_pos
      have k4 := fit_pure (pc (b.val.sub a.val)) s.h s.tol (pc_in (n := 1000) (by omega)) (by rw [pc_val]; exact fun h => a1 (sub_zero.1 h)) (by omega) h0 hs.tol.mono a0.2.1
      rw [pc_val] at k4
      change Pure _ _ [pA (b.val.sub a.val), _, _] _ at k4
      cases hf : fitQ (b.val.sub a.val) s.h s.tol.val with
      | none =>
        rw [hf] at hRES
        rw [hf, fitA_none] at k4
        unfold pZ at k4
        generalize s.h = h at *
        generalize b.val.sub a.val = d at *
        unfold SR.av SR.cs PR.av RQ.av at *
        simp only [rA_rC, pA_pC] at *
        simp -implicitDefEqProofs [go_sem]
        refine goC_pure _ k0 (by simp -implicitDefEqProofs [go_sem]) ?_
        simp -implicitDefEqProofs [go_sem]
        refine goC_pure _ k1 (by simp -implicitDefEqProofs [go_sem]) ?_
        simp -implicitDefEqProofs [go_sem]
        refine goD_pure _ k2 (by simp -implicitDefEqProofs [go_sem]) ?_
        simp -implicitDefEqProofs [go_sem]
        refine goD_pure _ k3 (by simp -implicitDefEqProofs [go_sem]) ?_
        simp -implicitDefEqProofs [go_sem]
        refine goD_pure _ k4 (by simp -implicitDefEqProofs [go_sem, ro_rC, ro_pC]) ?_
        simp -implicitDefEqProofs [go_sem]
        rw [hRES]
        exact got_nil 24
      | some x =>
        obtain ⟨n, k⟩ := x
        rw [hf] at hRES
        rw [hf, fitA_some] at k4
        simp only at hRES
        have zn := fit_sz hf (by omega) (by omega)
        have k5 := besider a b (pc n) ha.mono hb.mono (pc_in (n := 7261) zn).mono
        rw [pc_val] at k5
        change Pure _ _ [_, _, pA n] _ at k5
        generalize besideQ a.val b.val n = L at *
        generalize s.h = h at *
        generalize b.val.sub a.val = d at *
        unfold gotA pL at *
        unfold SR.av SR.cs PR.av RQ.av at *
        simp only [rA_rC, pA_pC] at *
        simp -implicitDefEqProofs [go_sem]
        refine goC_pure _ k0 (by simp -implicitDefEqProofs [go_sem]) ?_
        simp -implicitDefEqProofs [go_sem]
        refine goC_pure _ k1 (by simp -implicitDefEqProofs [go_sem]) ?_
        simp -implicitDefEqProofs [go_sem]
        refine goD_pure _ k2 (by simp -implicitDefEqProofs [go_sem]) ?_
        simp -implicitDefEqProofs [go_sem]
        refine goD_pure _ k3 (by simp -implicitDefEqProofs [go_sem]) ?_
        simp -implicitDefEqProofs [go_sem]
        refine goD_pure _ k4 (by simp -implicitDefEqProofs [go_sem, ro_rC, ro_pC]) ?_
        simp -implicitDefEqProofs [go_sem]
        refine goC_pure _ k5 (by simp -implicitDefEqProofs [go_sem, ro_pC]) ?_
        simp -implicitDefEqProofs [go_sem]
        rw [hRES]
        exact Wk.refl _
  · rw [if_pos a0] at hRES
    rw [decide_eq_false a0] at k0
    unfold SR.av SR.cs PR.av at *
    simp -implicitDefEqProofs [go_sem]
    refine goC_pure _ k0 (by simp -implicitDefEqProofs [go_sem]) ?_
    simp -implicitDefEqProofs [go_sem]
    rw [hRES]
    exact got_nil 1
def endQ (p u : PQ) (s : SR) : List PQ × Int := if ¬ mayC s then ([], 1) else if u = ⟨0, 0⟩ then ([], 12) else if s.cap = 0 then ([], 0) else if s.cap = 1 then sqQ p u s.h s.tol.val else rnd p s.h s.tol.val
set_option maxHeartbeats 4000000 in
theorem end_pure (p u : PR) (s : SR) (hp : p.In 1) (hu : u.In 3) (hs : s.Sml) : Pure Tryz.prog 17 [p.av, u.av, s.av] (gotA (endQ p.val u.val s)) := by
  have k0 := cmay_pure s hs.width.mono hs.tol.mono
  have k1 := psamez u hu.mono
  unfold pZ at k1
  have f1 := fillc1_pure p u s
  have f2 := fun (h0 : u.val ≠ ⟨0, 0⟩) (hm : mayC s) => fillc2_pure p u s hp hu h0 hs hm
  have f3 := fillc3_pure p u s hp hs
  have hr0 := ro_gotA
  refine Pure.of_ca (ro_gotA _) (CA.of_go mixed Tryz.func17 rfl (rs := [.tmp 6, .tmp 7]) rfl (by kernel_rfl) ?_)
  obtain ⟨RES, hRES⟩ : ∃ R, R = gotA (endQ p.val u.val s) := ⟨_, rfl⟩
  rw [← hRES]
  unfold endQ at hRES
  by_cases a0 : mayC s
  · rw [if_neg (fun h => h a0)] at hRES
    rw [decide_eq_true a0] at k0
    by_cases a1 : u.val = ⟨0, 0⟩
    · rw [if_pos a1] at hRES
      rw [decide_eq_true a1] at k1
      unfold SR.av SR.cs PR.av at *
      simp -implicitDefEqProofs [go_sem]
      refine goC_pure _ k0 (by simp -implicitDefEqProofs [go_sem]) ?_
      simp -implicitDefEqProofs [go_sem]
      refine goC_pure _ k1 (by simp -implicitDefEqProofs [go_sem]) ?_
      simp -implicitDefEqProofs [go_sem]
      rw [hRES]
      exact got_nil 12
    · rw [if_neg a1] at hRES
      rw [decide_eq_false a1] at k1
      have f2 := f2 a1 a0
      have hc0 := a0.2.2
      obtain ⟨C, hC⟩ : ∃ C, C = s.cap := ⟨_, rfl⟩
      rw [← hC] at hRES hc0
      rw [sav_cap hC] at *
      generalize sqQ p.val u.val s.h s.tol.val = S2 at *
      generalize rnd p.val s.h s.tol.val = S3 at *
      unfold gotA pL at *
      unfold PR.av at *
      rcases (show C = 0 ∨ C = 1 ∨ C = 2 by omega) with rfl | rfl | rfl
      · simp -implicitDefEqProofs [go_sem]
        refine goC_pure _ k0 (by simp -implicitDefEqProofs [go_sem]) ?_
        simp -implicitDefEqProofs [go_sem]
        refine goC_pure _ k1 (by simp -implicitDefEqProofs [go_sem]) ?_
        simp -implicitDefEqProofs [go_sem]
        refine once_do21 (sz := 4) (rest := [.int .u32 0, .sl 0 true []]) (by simp -implicitDefEqProofs [go_sem, once0]) ?_
        refine CA.of_go mixed Tryz.func57 rfl (rs := []) rfl (by kernel_rfl) ?_
        simp -implicitDefEqProofs [go_sem, onceL, once1]
        refine goD_pure _ f1 (by simp -implicitDefEqProofs [go_sem]) ?_
        simp -implicitDefEqProofs [go_sem]
        rw [hRES]
        exact Wk.refl _
      · simp -implicitDefEqProofs [go_sem]
        refine goC_pure _ k0 (by simp -implicitDefEqProofs [go_sem]) ?_
        simp -implicitDefEqProofs [go_sem]
        refine goC_pure _ k1 (by simp -implicitDefEqProofs [go_sem]) ?_
        simp -implicitDefEqProofs [go_sem]
        refine once_do21 (sz := 4) (rest := [.int .u32 0, .sl 0 true []]) (by simp -implicitDefEqProofs [go_sem, once0]) ?_
        refine CA.of_go mixed Tryz.func57 rfl (rs := []) rfl (by kernel_rfl) ?_
        simp -implicitDefEqProofs [go_sem, onceL, once1]
        refine goD_pure _ f2 (by simp -implicitDefEqProofs [go_sem]) ?_
        simp -implicitDefEqProofs [go_sem]
        rw [hRES]
        exact Wk.refl _
      · simp -implicitDefEqProofs [go_sem]
        refine goC_pure _ k0 (by simp -implicitDefEqProofs [go_sem]) ?_
        simp -implicitDefEqProofs [go_sem]
        refine goC_pure _ k1 (by simp -implicitDefEqProofs [go_sem]) ?_
        simp -implicitDefEqProofs [go_sem]
        refine once_do21 (sz := 4) (rest := [.int .u32 0, .sl 0 true []]) (by simp -implicitDefEqProofs [go_sem, once0]) ?_
        refine CA.of_go mixed Tryz.func57 rfl (rs := []) rfl (by kernel_rfl) ?_
        simp -implicitDefEqProofs [go_sem, onceL, once1]
        refine goD_pure _ f3 (by simp -implicitDefEqProofs [go_sem]) ?_
        simp -implicitDefEqProofs [go_sem]
        rw [hRES]
        exact Wk.refl _
  · rw [if_pos a0] at hRES
    rw [decide_eq_false a0] at k0
    unfold SR.av SR.cs PR.av at *
    simp -implicitDefEqProofs [go_sem]
    refine goC_pure _ k0 (by simp -implicitDefEqProofs [go_sem]) ?_
    simp -implicitDefEqProofs [go_sem]
    rw [hRES]
    exact got_nil 1
def dotQ (p : PQ) (s : SR) : List PQ × Int := if ¬ mayC s then ([], 1) else if s.cap = 1 then (besideQ (p.sub ⟨s.h, 0⟩) (p.add ⟨s.h, 0⟩) ⟨0, s.h⟩, 0) else if s.cap = 2 then rnd p s.h s.tol.val else ([], 0)
theorem rQ0_val : rQ0.val = 0 := by unfold RQ.val RQ.num rQ0; simp [lv_nil, sgn_zero, Rat.zero_mkRat]
def rZc : List AV := [.bool false, .sl 0 true [], .sl 0 true []]
theorem wk_rZ : WkL rZc [.bool rQ0.neg, nA rQ0.p, nA rQ0.q] := .cons (Wk.refl _) (.cons (Wk.nil 0 1 true) (.cons (Wk.nil 0 1 true) .nil))
set_option maxHeartbeats 4000000 in
theorem dot_pure (p : PR) (s : SR) (hp : p.In 1) (hs : s.Sml) : Pure Tryz.prog 18 [p.av, s.av] (gotA (dotQ p.val s)) := by
  have zp := hp.sz
  have zh := hs.h
  have k0 := cmay_pure s hs.width.mono hs.tol.mono
  have k3 := half_pure s hs.width.mono
  have k4 := dround_pure p (qc s.h) s.tol hp.mono (qc_in hs.h).mono hs.tol.mono
  rw [qc_val] at k4
  change Pure _ _ [_, rA s.h, _] _ at k4
  have hXin : (⟨qc s.h, rQ0⟩ : PR).In 1 := ⟨qc_in zh, rQ0_in⟩
  have hYin : (⟨rQ0, qc s.h⟩ : PR).In 1 := ⟨rQ0_in, qc_in zh⟩
  have eX : PR.val ⟨qc s.h, rQ0⟩ = ⟨s.h, 0⟩ := by unfold PR.val; simp only [qc_val, rQ0_val]
  have eY : PR.val ⟨rQ0, qc s.h⟩ = ⟨0, s.h⟩ := by unfold PR.val; simp only [qc_val, rQ0_val]
  have wX : Wk (.agg (rC s.h ++ rZc)) (PR.av ⟨qc s.h, rQ0⟩) := Wk.agg (.cons (Wk.refl _) (.cons (Wk.refl _) (.cons (Wk.refl _) wk_rZ)))
  have wY : Wk (.agg (rZc ++ rC s.h)) (PR.av ⟨rQ0, qc s.h⟩) := Wk.agg (.cons (Wk.refl _) (.cons (Wk.nil 0 1 true) (.cons (Wk.nil 0 1 true) (.cons (Wk.refl _) (.cons (Wk.refl _) (.cons (Wk.refl _) .nil))))))
  have k5 := (psub_pure p ⟨qc s.h, rQ0⟩ hp.mono hXin.mono).args (.cons (Wk.refl _) (.cons wX .nil))
  have k6 := (padd_pure p ⟨qc s.h, rQ0⟩ hp.mono hXin.mono).args (.cons (Wk.refl _) (.cons wX .nil))
  rw [eX] at k5 k6
  have z5 := PQ.sz_sub p.val ⟨s.h, 0⟩
  have z6 := PQ.sz_add p.val ⟨s.h, 0⟩
  have zX : PQ.sz ⟨s.h, 0⟩ ≤ 1 := by have := hXin.sz; rwa [eX] at this
  have k7 := (besider (pc (p.val.sub ⟨s.h, 0⟩)) (pc (p.val.add ⟨s.h, 0⟩)) ⟨rQ0, qc s.h⟩ (pc_in (n := 1000) (by omega)).mono (pc_in (n := 1000) (by omega)).mono hYin.mono).args (.cons (Wk.refl _) (.cons (Wk.refl _) (.cons wY .nil)))
  rw [pc_val, pc_val, eY] at k7
  change Pure _ _ [pA _, pA _, _] _ at k7
  refine Pure.of_ca (ro_gotA _) (CA.of_go mixed Tryz.func18 rfl (rs := [.tmp 4, .tmp 5]) rfl (by kernel_rfl) ?_)
  obtain ⟨RES, hRES⟩ : ∃ R, R = gotA (dotQ p.val s) := ⟨_, rfl⟩
  rw [← hRES]
  unfold dotQ at hRES
  clear wX wY eX eY hXin hYin
  by_cases a0 : mayC s
  · rw [if_neg (fun h => h a0)] at hRES
    rw [decide_eq_true a0] at k0
    obtain ⟨C, hC⟩ : ∃ C, C = s.cap := ⟨_, rfl⟩
    rw [← hC] at hRES
    have hc0 := a0.2.2
    rw [← hC] at hc0
    rw [sav_cap hC] at *
    generalize besideQ (p.val.sub ⟨s.h, 0⟩) (p.val.add ⟨s.h, 0⟩) ⟨0, s.h⟩ = S2 at *
    generalize rnd p.val s.h s.tol.val = S3 at *
    generalize p.val.sub ⟨s.h, 0⟩ = q1 at *
    generalize p.val.add ⟨s.h, 0⟩ = q2 at *
    generalize s.h = h at *
    unfold gotA pL at *
    unfold PR.av RQ.av rZc at *
    simp only [rA_rC, pA_pC] at *
    have ht : ∀ a b c, (rC h ++ [a, b, c]).take 6 = rC h ++ [a, b, c] := fun _ _ _ => rfl
    have hro : roL (rC h ++ [AV.bool false, AV.sl 0 true [], AV.sl 0 true []]) := by unfold rC; simp -implicitDefEqProofs [go_sem]
    rcases (show C = 0 ∨ C = 1 ∨ C = 2 by omega) with rfl | rfl | rfl
    · simp -implicitDefEqProofs [go_sem]
      refine goC_pure _ k0 (by simp -implicitDefEqProofs [go_sem]) ?_
      simp -implicitDefEqProofs [go_sem]
      refine goC_pure _ k3 (by simp -implicitDefEqProofs [go_sem]) ?_
      simp -implicitDefEqProofs [go_sem]
      rw [hRES]
      exact Wk.tup (.cons (Wk.nil 0 6 true) (.cons (Wk.refl _) .nil))
    · simp -implicitDefEqProofs [go_sem]
      refine goC_pure _ k0 (by simp -implicitDefEqProofs [go_sem]) ?_
      simp -implicitDefEqProofs [go_sem]
      refine goC_pure _ k3 (by simp -implicitDefEqProofs [go_sem]) ?_
      simp -implicitDefEqProofs [go_sem]
      refine goD_pure _ k5 (by simp -implicitDefEqProofs [go_sem, ht, hro]) ?_
      simp -implicitDefEqProofs [go_sem]
      refine goD_pure _ k6 (by simp -implicitDefEqProofs [go_sem, ht, hro]) ?_
      simp -implicitDefEqProofs [go_sem]
      refine goD_pure _ k7 (by simp -implicitDefEqProofs [go_sem, ro_rC, ro_pC]) ?_
      simp -implicitDefEqProofs [go_sem]
      rw [hRES]
      exact Wk.refl _
    · simp -implicitDefEqProofs [go_sem]
      refine goC_pure _ k0 (by simp -implicitDefEqProofs [go_sem]) ?_
      simp -implicitDefEqProofs [go_sem]
      refine goC_pure _ k3 (by simp -implicitDefEqProofs [go_sem]) ?_
      simp -implicitDefEqProofs [go_sem]
      refine goC_pure _ k4 (by simp -implicitDefEqProofs [go_sem, ro_rC]) ?_
      simp -implicitDefEqProofs [go_sem]
      rw [hRES]
      exact Wk.refl _
  · rw [if_pos a0] at hRES
    rw [decide_eq_false a0] at k0
    unfold SR.av SR.cs PR.av at *
    simp -implicitDefEqProofs [go_sem]
    refine goC_pure _ k0 (by simp -implicitDefEqProofs [go_sem]) ?_
    simp -implicitDefEqProofs [go_sem]
    rw [hRES]
    exact got_nil 1
def mayCV (w t : Rat) (c : Int) : Prop := 0 < w ∧ 0 < t ∧ 0 ≤ c ∧ c ≤ 2
instance (w t : Rat) (c : Int) : Decidable (mayCV w t c) := inferInstanceAs (Decidable (_ ∧ _))
def bodyV (a b : PQ) (w t : Rat) (c : Int) : List PQ × Int := if ¬ mayCV w t c then ([], 1) else if a = b then ([], 12) else match fitQ (b.sub a) (w * half) t with
  | none => ([], 24)
  | some (n, _) => (besideQ a b n, 0)
def endV (p u : PQ) (w t : Rat) (c : Int) : List PQ × Int := if ¬ mayCV w t c then ([], 1) else if u = ⟨0, 0⟩ then ([], 12) else if c = 0 then ([], 0) else if c = 1 then sqQ p u (w * half) t else rnd p (w * half) t
def dotV (p : PQ) (w t : Rat) (c : Int) : List PQ × Int := if ¬ mayCV w t c then ([], 1) else if c = 1 then (besideQ (p.sub ⟨w * half, 0⟩) (p.add ⟨w * half, 0⟩) ⟨0, w * half⟩, 0) else if c = 2 then rnd p (w * half) t else ([], 0)
theorem bodyV_eq (a b : PQ) (s : SR) : bodyQ a b s = bodyV a b s.width.val s.tol.val s.cap := rfl
theorem endV_eq (p u : PQ) (s : SR) : endQ p u s = endV p u s.width.val s.tol.val s.cap := rfl
theorem dotV_eq (p : PQ) (s : SR) : dotQ p s = dotV p s.width.val s.tol.val s.cap := rfl
def styC (c : Int) : SR := ⟨qc 2, qc 4, c, 0, qc half⟩
theorem sz2 : sz (2 : Rat) ≤ 1 := by
  have := sz_i64 (x := 2) (by omega)
  simpa using this
theorem sz4 : sz (4 : Rat) ≤ 1 := by
  have := sz_i64 (x := 4) (by omega)
  simpa using this
theorem cstyle_pure : Pure Tryz.prog 54 [.int .i64 0, rA half] (styC 0).av := by
  have k1 := rof_pure 2 1 (by omega) (by omega) (by omega)
  rw [show ((2 : Int) : Rat) / ((1 : Int) : Rat) = 2 by grind] at k1
  have k2 := rof_pure 4 1 (by omega) (by omega) (by omega)
  rw [show ((4 : Int) : Rat) / ((1 : Int) : Rat) = 4 by grind] at k2
  have e : (styC 0).av = .agg (rC 2 ++ (rC 4 ++ (.int .i64 0 :: .int .i64 0 :: rC half))) := rfl
  rw [e]
  simp only [rA_rC] at *
  unfold rC at *
  refine Pure.of_go mixed Tryz.func54 rfl (rs := [.cell 4 32]) rfl (by kernel_rfl) (by simp -implicitDefEqProofs [go_sem]) ?_
  simp -implicitDefEqProofs [go_sem]
  refine goD_pure _ k1 (by simp -implicitDefEqProofs [go_sem]) ?_
  simp -implicitDefEqProofs [go_sem]
  refine goD_pure _ k2 (by simp -implicitDefEqProofs [go_sem]) ?_
  simp -implicitDefEqProofs [go_sem, rop]
theorem styC_sml (c : Int) : (styC c).Sml := by
  refine ⟨qc_in sz2, qc_in sz4, qc_in sz_half, ?_⟩
  have : (styC c).h = 1 := by
    unfold SR.h styC
    simp only [qc_val]
    rw [half_eq]; grind
  rw [this, sz_one]; exact Nat.le_refl _
theorem cw1 : bodyV (wP 0 0) (wP 4 0) 2 half 0 = ([wP 0 (-1), wP 4 (-1), wP 4 1, wP 0 1], 0) := by decide +kernel
theorem cw2 : endV (wP 4 0) (wP 1 0) 2 half 1 = ([wP 4 (-1), wP 5 (-1), wP 5 1, wP 4 1], 0) := by decide +kernel
theorem cw3 : dotV (wP 0 0) 2 half 1 = ([wP (-1) (-1), wP 1 (-1), wP 1 1, wP (-1) 1], 0) := by decide +kernel
set_option maxHeartbeats 8000000 in
theorem cwakes_pure : Pure Tryz.prog 14 [] (.bool true) := by
  have p00 := wP_pure 0 0 (by omega) (by omega)
  have p40 := wP_pure 4 0 (by omega) (by omega)
  have p10 := wP_pure 1 0 (by omega) (by omega)
  have p0m := wP_pure 0 (-1) (by omega) (by omega)
  have p41 := wP_pure 4 1 (by omega) (by omega)
  have p5m := wP_pure 5 (-1) (by omega) (by omega)
  have p11 := wP_pure 1 1 (by omega) (by omega)
  have s00 : (wP 0 0).sz ≤ 1 := sz_wP (by omega) (by omega)
  have s40 : (wP 4 0).sz ≤ 1 := sz_wP (by omega) (by omega)
  have s10 : (wP 1 0).sz ≤ 1 := sz_wP (by omega) (by omega)
  have s0m : (wP 0 (-1)).sz ≤ 1 := sz_wP (by omega) (by omega)
  have s41 : (wP 4 1).sz ≤ 1 := sz_wP (by omega) (by omega)
  have s5m : (wP 5 (-1)).sz ≤ 1 := sz_wP (by omega) (by omega)
  have s11 : (wP 1 1).sz ≤ 1 := sz_wP (by omega) (by omega)
  have kh := rof_pure 1 2 (by omega) (by omega) (by omega)
  rw [← half_eq] at kh
  have kst := cstyle_pure
  have e0 : ∀ c : Int, (styC c).width.val = 2 ∧ (styC c).tol.val = half ∧ (styC c).cap = c := fun c => ⟨qc_val _, qc_val _, rfl⟩
  have q1 := body_pure (pc (wP 0 0)) (pc (wP 4 0)) (styC 0) (pc_in s00) (pc_in s40) (styC_sml 0)
  have q2 := end_pure (pc (wP 4 0)) (pc (wP 1 0)) (styC 1) (pc_in s40) (pc_in (n := 3) (by omega)) (styC_sml 1)
  have q3 := dot_pure (pc (wP 0 0)) (styC 1) (pc_in s00) (styC_sml 1)
  rw [pc_val, pc_val, bodyV_eq, (e0 0).1, (e0 0).2.1, (e0 0).2.2, cw1] at q1
  rw [pc_val, pc_val, endV_eq, (e0 1).1, (e0 1).2.1, (e0 1).2.2, cw2] at q2
  rw [pc_val, dotV_eq, (e0 1).1, (e0 1).2.1, (e0 1).2.2, cw3] at q3
  have v1 := psame_self (wP 0 (-1)) (by omega)
  have v2 := psame_self (wP 4 1) (by omega)
  have v3 := psame_self (wP 5 (-1)) (by omega)
  have v4 := psame_self (wP 1 1) (by omega)
  change Pure _ _ [pA _, pA _, _] _ at q1 q2
  change Pure _ _ [pA _, _] _ at q3
  unfold gotA pL at q1 q2 q3
  simp only [List.map_cons, List.map_nil, pA_pC, rA_rC] at *
  unfold SR.av SR.cs styC at *
  simp only at kst q1 q2 q3
  unfold rC at kh kst
  generalize wP 0 0 = P00 at *
  generalize wP 4 0 = P40 at *
  generalize wP 1 0 = P10 at *
  generalize wP 0 (-1) = P0m at *
  generalize wP 4 1 = P41 at *
  generalize wP 5 (-1) = P5m at *
  generalize wP 1 1 = P11 at *
  generalize wP 4 (-1) = B1 at *
  generalize wP 0 1 = B3 at *
  generalize wP 5 1 = C2 at *
  generalize wP (-1) (-1) = D0 at *
  generalize wP 1 (-1) = D1 at *
  generalize wP (-1) 1 = D3 at *
  refine Pure.of_go mixed Tryz.func14 rfl (rs := [.tmp 0]) rfl (by kernel_rfl) (by simp -implicitDefEqProofs [go_sem]) ?_
  have g1 : getE [AV.agg (pC P0m), AV.agg (pC B1), AV.agg (pC P41), AV.agg (pC B3)] 0 = .agg (pC P0m) := rfl
  have g2 : getE [AV.agg (pC P0m), AV.agg (pC B1), AV.agg (pC P41), AV.agg (pC B3)] 2 = .agg (pC P41) := rfl
  have g3 : getE [AV.agg (pC B1), AV.agg (pC P5m), AV.agg (pC C2), AV.agg (pC P41)] 1 = .agg (pC P5m) := rfl
  have g4 : getE [AV.agg (pC D0), AV.agg (pC D1), AV.agg (pC P11), AV.agg (pC D3)] 2 = .agg (pC P11) := rfl
  simp -implicitDefEqProofs [go_sem]
  refine goC_pure _ kh (by simp -implicitDefEqProofs [go_sem]) ?_
  simp -implicitDefEqProofs [go_sem]
  refine goC_pure _ kst (by simp -implicitDefEqProofs [go_sem]) ?_
  simp -implicitDefEqProofs [go_sem]
  refine goD_pure _ p00 (by simp -implicitDefEqProofs [go_sem]) ?_
  simp -implicitDefEqProofs [go_sem]
  refine goD_pure _ p40 (by simp -implicitDefEqProofs [go_sem]) ?_
  simp -implicitDefEqProofs [go_sem]
  refine goD_pure _ q1 (by simp -implicitDefEqProofs [go_sem, ro_pC]) ?_
  simp -implicitDefEqProofs [go_sem]
  refine goD_pure _ p40 (by simp -implicitDefEqProofs [go_sem]) ?_
  simp -implicitDefEqProofs [go_sem]
  refine goD_pure _ p10 (by simp -implicitDefEqProofs [go_sem]) ?_
  simp -implicitDefEqProofs [go_sem]
  refine goD_pure _ q2 (by simp -implicitDefEqProofs [go_sem, ro_pC]) ?_
  simp -implicitDefEqProofs [go_sem]
  refine goD_pure _ p00 (by simp -implicitDefEqProofs [go_sem]) ?_
  simp -implicitDefEqProofs [go_sem]
  refine goD_pure _ q3 (by simp -implicitDefEqProofs [go_sem, ro_pC]) ?_
  simp -implicitDefEqProofs [go_sem, g1, g2, g3, g4]
  refine goD_pure _ p0m (by simp -implicitDefEqProofs [go_sem]) ?_
  simp -implicitDefEqProofs [go_sem, g1, g2, g3, g4]
  refine goD_pure _ v1 (by simp -implicitDefEqProofs [go_sem, ro_pC]) ?_
  simp -implicitDefEqProofs [go_sem, g1, g2, g3, g4]
  refine goD_pure _ p41 (by simp -implicitDefEqProofs [go_sem]) ?_
  simp -implicitDefEqProofs [go_sem, g1, g2, g3, g4]
  refine goD_pure _ v2 (by simp -implicitDefEqProofs [go_sem, ro_pC]) ?_
  simp -implicitDefEqProofs [go_sem, g1, g2, g3, g4]
  refine goD_pure _ p5m (by simp -implicitDefEqProofs [go_sem]) ?_
  simp -implicitDefEqProofs [go_sem, g1, g2, g3, g4]
  refine goD_pure _ v3 (by simp -implicitDefEqProofs [go_sem, ro_pC]) ?_
  simp -implicitDefEqProofs [go_sem, g1, g2, g3, g4]
  refine goD_pure _ p11 (by simp -implicitDefEqProofs [go_sem]) ?_
  simp -implicitDefEqProofs [go_sem, g1, g2, g3, g4]
  refine goD_pure _ v4 (by simp -implicitDefEqProofs [go_sem, ro_pC]) ?_
  simp -implicitDefEqProofs [go_sem, g1, g2, g3, g4]
set_option maxHeartbeats 4000000 in
theorem ours_pure (a b : PR) (s : SR) (ha : a.Lm) (hb : b.Lm) (hs : s.Lm) : ∃ B : Bool, Pure Tryz.prog 13 [.agg (a.cs ++ b.cs), s.av] (.bool B) ∧ (B = true → a.In 1 ∧ b.In 1 ∧ s.Sml) := by
  have s1 := smallpt_pure a 1
  have s2 := smallpt_pure b 1
  rw [show ((1 : Nat) : Int) = 1 from rfl] at s1 s2
  have hr := s.ro_cs
  by_cases a1 : a.x.sml 1 ∧ a.y.sml 1
  · by_cases a2 : b.x.sml 1 ∧ b.y.sml 1
    · have ia : a.In 1 := ⟨sml_in a1.1 ha.1, sml_in a1.2 ha.2⟩
      have ib : b.In 1 := ⟨sml_in a2.1 hb.1, sml_in a2.2 hb.2⟩
      have za := ia.sz
      have zb := ib.sz
      have i1 := ein_pure a ia.mono
      have i2 := ein_pure b ib.mono
      have i3 := esub_pure b.val a.val (by omega) (by omega)
      have z3 := PQ.sz_sub b.val a.val
      have i4 := eout_pure (b.val.sub a.val) (by omega)
      have p10 := wP_pure 1 0 (by omega) (by omega)
      obtain ⟨B, hl, hB⟩ := light20_pure ⟨a, pc (b.val.sub a.val), pc (wP 1 0)⟩ s ⟨ha, ⟨qc_lm _, qc_lm _⟩, ⟨qc_lm _, qc_lm _⟩⟩ hs
      have hcs : CR.av ⟨a, pc (b.val.sub a.val), pc (wP 1 0)⟩ = .agg (a.cs ++ pC (b.val.sub a.val) ++ pC (wP 1 0)) := rfl
      rw [hcs] at hl
      refine ⟨B, ?_, fun h => ⟨ia, ib, (hB h).2⟩⟩
      clear hB hcs
      generalize wP 1 0 = W at *
      generalize b.val.sub a.val = d at *
      simp only [eA_eC, pA_pC] at *
      unfold pC at *
      unfold SR.av SR.cs PR.av PR.cs at *
      refine Pure.of_go mixed Tryz.func13 rfl (rs := [.tmp 4]) rfl (by kernel_rfl) (by simp -implicitDefEqProofs [go_sem]) ?_
      simp -implicitDefEqProofs [go_sem]
      refine goC_pure _ s1 (by simp -implicitDefEqProofs [go_sem]) ?_
      simp -implicitDefEqProofs [go_sem, a1]
      refine goC_pure _ s2 (by simp -implicitDefEqProofs [go_sem]) ?_
      simp -implicitDefEqProofs [go_sem, a2]
      refine goD_pure _ i2 (by simp -implicitDefEqProofs [go_sem]) ?_
      simp -implicitDefEqProofs [go_sem]
      refine goD_pure _ i1 (by simp -implicitDefEqProofs [go_sem]) ?_
      simp -implicitDefEqProofs [go_sem]
      refine goD_pure _ i3 (by simp -implicitDefEqProofs [go_sem, ro_eC]) ?_
      simp -implicitDefEqProofs [go_sem]
      refine goD_pure _ i4 (by simp -implicitDefEqProofs [go_sem, ro_eC]) ?_
      simp -implicitDefEqProofs [go_sem]
      refine goD_pure _ p10 (by simp -implicitDefEqProofs [go_sem]) ?_
      simp -implicitDefEqProofs [go_sem]
      refine goD_pure _ hl (by simp -implicitDefEqProofs [go_sem]) ?_
      simp -implicitDefEqProofs [go_sem]
    · refine ⟨false, ?_, fun h => by cases h⟩
      unfold SR.av SR.cs PR.av PR.cs at *
      refine Pure.of_go mixed Tryz.func13 rfl (rs := [.tmp 4]) rfl (by kernel_rfl) (by simp -implicitDefEqProofs [go_sem]) ?_
      simp -implicitDefEqProofs [go_sem]
      refine goC_pure _ s1 (by simp -implicitDefEqProofs [go_sem]) ?_
      simp -implicitDefEqProofs [go_sem, a1]
      refine goC_pure _ s2 (by simp -implicitDefEqProofs [go_sem]) ?_
      simp -implicitDefEqProofs [go_sem, a2]
  · refine ⟨false, ?_, fun h => by cases h⟩
    unfold SR.av SR.cs PR.av PR.cs at *
    refine Pure.of_go mixed Tryz.func13 rfl (rs := [.tmp 4]) rfl (by kernel_rfl) (by simp -implicitDefEqProofs [go_sem]) ?_
    simp -implicitDefEqProofs [go_sem]
    refine goC_pure _ s1 (by simp -implicitDefEqProofs [go_sem]) ?_
    simp -implicitDefEqProofs [go_sem, a1]
theorem set_same {α : Type} (l : List α) (i : Nat) (x : α) (h : l[i]? = some x) : l.set i x = l := by
  obtain ⟨hi, rfl⟩ := List.getElem?_eq_some_iff.1 h
  exact List.set_getElem_self hi
set_option maxHeartbeats 2000000 in
theorem agood_pure (l : List PQ) (hl : l ≠ []) (hl2 : l.length ≤ 1048576) (hs : ∀ p ∈ l, p.sz ≤ 1000000) : Pure Tryz.prog 86 [pL l] (pL l) := by
  obtain ⟨V, hV⟩ : ∃ V, V = l.map pA := ⟨_, rfl⟩
  have hVl : V.length = l.length := by rw [hV]; simp
  have hVr : roL V := by rw [hV]; exact roL_pA _
  have hVg : ∀ i (h : i < l.length), V[i]? = some (.agg (pC l[i])) := fun i h => by rw [hV]; simp [h, pA_pC]
  have hne : V ≠ [] := by rw [hV]; simpa using hl
  have hpos : 0 < l.length := by have := mt List.length_eq_zero_iff.1 hl; omega
  have hgoal : pL l = .sl 6 false V := by rw [hV]; rfl
  rw [hgoal]
  have kz := fun (p : PQ) (hp : p.sz ≤ 1000000) => paddz (pc p) (pc_in hp).mono
  simp only [pc_val] at kz
  have e3 : ∀ q : PQ, (pc q).av = .agg (pC q) := fun _ => rfl
  simp only [e3, pA_pC] at kz
  unfold pZ at kz
  refine Pure.of_go mixed Tryz.func86 rfl (rs := [.tmp 2]) rfl (by kernel_rfl) (by simp -implicitDefEqProofs [go_sem, hVr]) ?_
  simp -implicitDefEqProofs [go_sem]
  refine CA.of_go mixed Tryz.func145 rfl (rs := [.tmp 2]) rfl (by kernel_rfl) ?_
  simp -implicitDefEqProofs [go_sem, hne]
  refine ⟨by omega, ?_⟩
  refine go_loopN 2 (α := {i : Nat // i ≤ l.length}) (fun i => [(0, .own 6 1 0 V.length), (7, .own 6 1 0 V.length), (8, .int .i64 V.length), (9, .int .i64 i.1)])
    (fun i => [(1, .live 6 V)]) (fun i => l.length - i.1) ⟨0, Nat.zero_le _⟩ [] (by simp) (fun _ _ _ _ h => h) (by simp) (by simp -implicitDefEqProofs [go_sem]) (by simp -implicitDefEqProofs [go_sem, renL_ro (nm []) _ hVr, cloL_ro (n := 2) _ hVr]) fun ⟨i, hi⟩ => ?_
  by_cases a : i < l.length
  · have a1 : (i : Int) < V.length := by omega
    have a2 : i < V.length := by omega
    have hg := hVg i a
    have hgd : V[i]?.getD .any = .agg (pC l[i]) := by rw [hg]; rfl
    have hge : V[i]'a2 = .agg (pC l[i]) := by
      have := hg; rw [List.getElem?_eq_getElem a2] at this; exact Option.some.inj this
    have kx := kz l[i] (hs _ (List.getElem_mem a))
    have hset : V.set i (.agg (pC l[i])) = V := set_same V i _ hg
    have es : IntKind.i64.wrap ((i : Int) + 1) = (i + 1 : Nat) := by rw [w64 (by omega)]; omega
    generalize l[i] = x at *
    simp -implicitDefEqProofs [go_sem, a1, a2, hgd, hge]
    refine goC_pure _ kx (by simp -implicitDefEqProofs [go_sem, ro_pC]) ?_
    simp -implicitDefEqProofs [go_sem, a1, a2, hgd, hge, hset, es]
    exact go_again ⟨i + 1, by omega⟩ (by simp only; omega) [] (by simp) (fun _ _ _ _ h => h) (by simp) (by simp -implicitDefEqProofs [go_sem, es]) (by simp -implicitDefEqProofs [go_sem, renL_ro (nm []) _ hVr, cloL_ro (n := 2) _ hVr, hset])
  · have a1 : ¬ (i : Int) < V.length := by omega
    have ht : V.take V.length = V := List.take_length
    simp -implicitDefEqProofs [go_sem, a1, ht, hVr, hne]
set_option maxHeartbeats 16000000 in
theorem box4_pure (a b c d : Rat) (hab : a < b) (hcd : c < d) (za : sz a ≤ 1000) (zb : sz b ≤ 1000) (zc : sz c ≤ 1000) (zd : sz d ≤ 1000) :
    Pure Tryz.prog 37 [pL [⟨a, c⟩, ⟨b, c⟩, ⟨b, d⟩, ⟨a, d⟩]] (.tup [pA ⟨a, c⟩, pA ⟨b, d⟩, .bool true]) := by
  have zz : ∀ x y : Rat, sz x ≤ 1000 → sz y ≤ 1000 → PQ.sz ⟨x, y⟩ ≤ 1000 := fun x y h1 h2 => Nat.max_le.2 ⟨h1, h2⟩
  have kg := agood_pure [⟨a, c⟩, ⟨b, c⟩, ⟨b, d⟩, ⟨a, d⟩] (by simp) (by simp) (fun p hp => by
    simp only [List.mem_cons, List.not_mem_nil, or_false] at hp
    have h1 := zz a c za zc
    have h2 := zz b c zb zc
    have h3 := zz b d zb zd
    have h4 := zz a d za zd
    rcases hp with rfl | rfl | rfl | rfl <;> omega)
  have kaa := rcmpq a a (by omega) (by omega)
  have kbb := rcmpq b b (by omega) (by omega)
  have kcc := rcmpq c c (by omega) (by omega)
  have kdd := rcmpq d d (by omega) (by omega)
  rw [cmpQ_self] at kaa kbb kcc kdd
  have kba := rcmpq b a (by omega) (by omega)
  have kab := rcmpq a b (by omega) (by omega)
  have kdc := rcmpq d c (by omega) (by omega)
  have y1 : 0 < cmpQ b a := cmpQ_gt.2 hab
  have y2 : cmpQ a b < 0 := cmpQ_lt.2 hab
  have y3 : 0 < cmpQ d c := cmpQ_gt.2 hcd
  have kz1 := paddz (pc ⟨a, c⟩) (pc_in (n := 1000) (zz a c za zc)).mono
  have kz2 := paddz (pc ⟨b, d⟩) (pc_in (n := 1000) (zz b d zb zd)).mono
  rw [pc_val] at kz1 kz2
  have e3 : ∀ q : PQ, (pc q).av = .agg (pC q) := fun _ => rfl
  simp only [e3] at kz1 kz2
  unfold pZ at kz1 kz2
  generalize cmpQ b a = g1 at *
  generalize cmpQ a b = g2 at *
  generalize cmpQ d c = g3 at *
  have n1 : ¬ g1 < 0 := by omega
  have n2 : ¬ 0 < g2 := by omega
  have n3 : ¬ g3 < 0 := by omega
  clear zz hab hcd
  unfold pL at *
  have t1 : ∀ x y : Rat, (rC x ++ rC y).take 3 = rC x := fun _ _ => rfl
  have t2 : ∀ x y : Rat, (rC x ++ rC y).drop 3 = rC y := fun _ _ => rfl
  have t3 : ∀ x y : Rat, (rC x ++ rC y).take 6 = rC x ++ rC y := fun _ _ => rfl
  have t4 : ∀ x y : Rat, (rC x ++ rC y).drop 6 = [] := fun _ _ => rfl
  have t5 : ∀ x y : Rat, roL (rC x ++ rC y) := fun x y => roL_append.2 ⟨ro_rC x, ro_rC y⟩
  have t6 : ∀ x y : Rat, renL (nm []) (rC x ++ rC y) = rC x ++ rC y := fun x y => renL_ro _ _ (t5 x y)
  have t7 : ∀ (n : Nat) (x y : Rat), cloL n (rC x ++ rC y) := fun n x y => cloL_ro _ (t5 x y)
  simp only [List.map_cons, List.map_nil, pA_pC, pC_rC, rA_rC] at *
  obtain ⟨M, hM⟩ : ∃ M : Nat → List AV, M = fun i => if i = 0 then [.bool false, .sl 0 true [], .sl 0 true [], .bool false, .sl 0 true [], .sl 0 true []] else rC a ++ rC c := ⟨_, rfl⟩
  obtain ⟨N, hN⟩ : ∃ N : Nat → List AV, N = fun i => if i = 0 then [.bool false, .sl 0 true [], .sl 0 true [], .bool false, .sl 0 true [], .sl 0 true []] else if i = 1 then rC a ++ rC c else if i = 2 then rC b ++ rC c else rC b ++ rC d := ⟨_, rfl⟩
  have m0 : M 0 = [.bool false, .sl 0 true [], .sl 0 true [], .bool false, .sl 0 true [], .sl 0 true []] := by rw [hM]; rfl
  have m1 : ∀ i, M (i + 1) = rC a ++ rC c := fun i => by rw [hM]; rfl
  have m0' : N 0 = [.bool false, .sl 0 true [], .sl 0 true [], .bool false, .sl 0 true [], .sl 0 true []] := by rw [hN]; rfl
  have m1' : N 1 = rC a ++ rC c := by rw [hN]; rfl
  have m2' : N 2 = rC b ++ rC c := by rw [hN]; rfl
  have m3' : N 3 = rC b ++ rC d := by rw [hN]; rfl
  have m4' : N 4 = rC b ++ rC d := by rw [hN]; rfl
  have m1a : M 1 = rC a ++ rC c := m1 0
  have m2a : M 2 = rC a ++ rC c := m1 1
  have m3a : M 3 = rC a ++ rC c := m1 2
  have m4a : M 4 = rC a ++ rC c := m1 3
  clear hM hN m1
  have u0 : getE [AV.agg (rC a ++ rC c), AV.agg (rC b ++ rC c), AV.agg (rC b ++ rC d), AV.agg (rC a ++ rC d)] 0 = .agg (rC a ++ rC c) := rfl
  have u1 : getE [AV.agg (rC a ++ rC c), AV.agg (rC b ++ rC c), AV.agg (rC b ++ rC d), AV.agg (rC a ++ rC d)] 1 = .agg (rC b ++ rC c) := rfl
  have u2 : getE [AV.agg (rC a ++ rC c), AV.agg (rC b ++ rC c), AV.agg (rC b ++ rC d), AV.agg (rC a ++ rC d)] 2 = .agg (rC b ++ rC d) := rfl
  have u3 : getE [AV.agg (rC a ++ rC c), AV.agg (rC b ++ rC c), AV.agg (rC b ++ rC d), AV.agg (rC a ++ rC d)] 3 = .agg (rC a ++ rC d) := rfl
  have w1 : IntKind.i64.wrap 1 = 1 := rfl
  have w2 : IntKind.i64.wrap 2 = 2 := rfl
  have w3 : IntKind.i64.wrap 3 = 3 := rfl
  have w4 : IntKind.i64.wrap 4 = 4 := rfl
  refine Pure.of_goz true mixed Tryz.func37 rfl (rs := [.cell 2 28, .cell 3 28, .tmp 4]) rfl (by kernel_rfl) (by simp -implicitDefEqProofs [go_sem, t5]) ?_
  simp -implicitDefEqProofs [go_sem]
  refine goC_pure _ kg (by simp -implicitDefEqProofs [go_sem, t5]) ?_
  simp -implicitDefEqProofs [go_sem]
  refine go_loopN 2 (α := {i : Nat // i ≤ 4}) (fun i => [(0, .sl 6 false [AV.agg (rC a ++ rC c), AV.agg (rC b ++ rC c), AV.agg (rC b ++ rC d), AV.agg (rC a ++ rC d)]), (2, .ptr 0 0 0), (3, .ptr 1 0 0), (8, .sl 6 false [AV.agg (rC a ++ rC c), AV.agg (rC b ++ rC c), AV.agg (rC b ++ rC d), AV.agg (rC a ++ rC d)]), (9, .int .i64 4), (10, .int .i64 i.1)])
    (fun i => [(0, .live 6 [.agg (M i.1)]), (1, .live 6 [.agg (N i.1)])]) (fun i => 4 - i.1) ⟨0, Nat.zero_le _⟩ [] (by simp) (fun _ _ _ _ h => h) (by simp) (by simp -implicitDefEqProofs [go_sem, t6, t7]) (by simp -implicitDefEqProofs [go_sem, m0, m0']) fun ⟨i, hi⟩ => ?_
  rcases (show i = 0 ∨ i = 1 ∨ i = 2 ∨ i = 3 ∨ i = 4 by omega) with rfl | rfl | rfl | rfl | rfl
  · simp -implicitDefEqProofs [go_sem, t1, t2, t3, t4, u0, u1, u2, u3, m0, m0', m1a, m1', m2a, m2', m3a, m3', m4a, m4']
    refine go_two (i := 2) (j2 := 0) (j3 := 1) (s := 6) (s2 := 6) (s3 := 6) (cs := rC a ++ rC c) (w2 := [.bool false, .sl 0 true [], .sl 0 true [], .bool false, .sl 0 true [], .sl 0 true []]) (w3 := [.bool false, .sl 0 true [], .sl 0 true [], .bool false, .sl 0 true [], .sl 0 true []]) rfl rfl rfl rfl (by kernel_rfl) ti28 rfl (by decide) (by decide) (by simp -implicitDefEqProofs [go_sem]) (by simp -implicitDefEqProofs [go_sem]) (by simp -implicitDefEqProofs [go_sem]) (by decide) (by decide) (by simp -implicitDefEqProofs [go_sem]) (by simp -implicitDefEqProofs [go_sem]) (by simp -implicitDefEqProofs [go_sem]) rfl rfl rfl ?_
    simp -implicitDefEqProofs [go_sem, t1, t2, t3, t4, u0, u1, u2, u3, m0, m0', m1a, m1', m2a, m2', m3a, m3', m4a, m4']
    refine goC_pure _ kaa (by simp -implicitDefEqProofs [go_sem, ro_rC]) ?_
    simp -implicitDefEqProofs [go_sem, t1, t2, t3, t4, u0, u1, u2, u3, m0, m0', m1a, m1', m2a, m2', m3a, m3', m4a, m4']
    refine goC_pure _ kcc (by simp -implicitDefEqProofs [go_sem, ro_rC]) ?_
    simp -implicitDefEqProofs [go_sem, t1, t2, t3, t4, u0, u1, u2, u3, m0, m0', m1a, m1', m2a, m2', m3a, m3', m4a, m4']
    refine goC_pure _ kaa (by simp -implicitDefEqProofs [go_sem, ro_rC]) ?_
    simp -implicitDefEqProofs [go_sem, t1, t2, t3, t4, u0, u1, u2, u3, m0, m0', m1a, m1', m2a, m2', m3a, m3', m4a, m4']
    refine goC_pure _ kcc (by simp -implicitDefEqProofs [go_sem, ro_rC]) ?_
    simp -implicitDefEqProofs [go_sem, t1, t2, t3, t4, u0, u1, u2, u3, m0, m0', m1a, m1', m2a, m2', m3a, m3', m4a, m4']
    exact go_again ⟨1, by omega⟩ (by simp only; omega) [] (by simp) (fun _ _ _ _ h => h) (by simp) (by simp -implicitDefEqProofs [go_sem, w1, t6, t7]) (by simp -implicitDefEqProofs [go_sem, t1, t2, t3, t4, u0, u1, u2, u3, m0, m0', m1a, m1', m2a, m2', m3a, m3', m4a, m4', t6, t7])
  · simp -implicitDefEqProofs [go_sem, t1, t2, t3, t4, u0, u1, u2, u3, m0, m0', m1a, m1', m2a, m2', m3a, m3', m4a, m4']
    refine goC_pure _ kba (by simp -implicitDefEqProofs [go_sem, ro_rC]) ?_
    simp -implicitDefEqProofs [go_sem, t1, t2, t3, t4, u0, u1, u2, u3, m0, m0', m1a, m1', m2a, m2', m3a, m3', m4a, m4', n1]
    refine goC_pure _ kcc (by simp -implicitDefEqProofs [go_sem, ro_rC]) ?_
    simp -implicitDefEqProofs [go_sem, t1, t2, t3, t4, u0, u1, u2, u3, m0, m0', m1a, m1', m2a, m2', m3a, m3', m4a, m4']
    refine goC_pure _ kba (by simp -implicitDefEqProofs [go_sem, ro_rC]) ?_
    simp -implicitDefEqProofs [go_sem, t1, t2, t3, t4, u0, u1, u2, u3, m0, m0', m1a, m1', m2a, m2', m3a, m3', m4a, m4', y1]
    refine goC_pure _ kcc (by simp -implicitDefEqProofs [go_sem, ro_rC]) ?_
    simp -implicitDefEqProofs [go_sem, t1, t2, t3, t4, u0, u1, u2, u3, m0, m0', m1a, m1', m2a, m2', m3a, m3', m4a, m4']
    exact go_again ⟨2, by omega⟩ (by simp only; omega) [] (by simp) (fun _ _ _ _ h => h) (by simp) (by simp -implicitDefEqProofs [go_sem, w2, t6, t7]) (by simp -implicitDefEqProofs [go_sem, t1, t2, t3, t4, u0, u1, u2, u3, m0, m0', m1a, m1', m2a, m2', m3a, m3', m4a, m4', t6, t7])
  · simp -implicitDefEqProofs [go_sem, t1, t2, t3, t4, u0, u1, u2, u3, m0, m0', m1a, m1', m2a, m2', m3a, m3', m4a, m4']
    refine goC_pure _ kba (by simp -implicitDefEqProofs [go_sem, ro_rC]) ?_
    simp -implicitDefEqProofs [go_sem, t1, t2, t3, t4, u0, u1, u2, u3, m0, m0', m1a, m1', m2a, m2', m3a, m3', m4a, m4', n1]
    refine goC_pure _ kdc (by simp -implicitDefEqProofs [go_sem, ro_rC]) ?_
    simp -implicitDefEqProofs [go_sem, t1, t2, t3, t4, u0, u1, u2, u3, m0, m0', m1a, m1', m2a, m2', m3a, m3', m4a, m4', n3]
    refine goC_pure _ kbb (by simp -implicitDefEqProofs [go_sem, ro_rC]) ?_
    simp -implicitDefEqProofs [go_sem, t1, t2, t3, t4, u0, u1, u2, u3, m0, m0', m1a, m1', m2a, m2', m3a, m3', m4a, m4']
    refine goC_pure _ kdc (by simp -implicitDefEqProofs [go_sem, ro_rC]) ?_
    simp -implicitDefEqProofs [go_sem, t1, t2, t3, t4, u0, u1, u2, u3, m0, m0', m1a, m1', m2a, m2', m3a, m3', m4a, m4', y3]
    exact go_again ⟨3, by omega⟩ (by simp only; omega) [] (by simp) (fun _ _ _ _ h => h) (by simp) (by simp -implicitDefEqProofs [go_sem, w3, t6, t7]) (by simp -implicitDefEqProofs [go_sem, t1, t2, t3, t4, u0, u1, u2, u3, m0, m0', m1a, m1', m2a, m2', m3a, m3', m4a, m4', t6, t7])
  · simp -implicitDefEqProofs [go_sem, t1, t2, t3, t4, u0, u1, u2, u3, m0, m0', m1a, m1', m2a, m2', m3a, m3', m4a, m4']
    refine goC_pure _ kaa (by simp -implicitDefEqProofs [go_sem, ro_rC]) ?_
    simp -implicitDefEqProofs [go_sem, t1, t2, t3, t4, u0, u1, u2, u3, m0, m0', m1a, m1', m2a, m2', m3a, m3', m4a, m4']
    refine goC_pure _ kdc (by simp -implicitDefEqProofs [go_sem, ro_rC]) ?_
    simp -implicitDefEqProofs [go_sem, t1, t2, t3, t4, u0, u1, u2, u3, m0, m0', m1a, m1', m2a, m2', m3a, m3', m4a, m4', n3]
    refine goC_pure _ kab (by simp -implicitDefEqProofs [go_sem, ro_rC]) ?_
    simp -implicitDefEqProofs [go_sem, t1, t2, t3, t4, u0, u1, u2, u3, m0, m0', m1a, m1', m2a, m2', m3a, m3', m4a, m4', n2]
    refine goC_pure _ kdd (by simp -implicitDefEqProofs [go_sem, ro_rC]) ?_
    simp -implicitDefEqProofs [go_sem, t1, t2, t3, t4, u0, u1, u2, u3, m0, m0', m1a, m1', m2a, m2', m3a, m3', m4a, m4']
    exact go_again ⟨4, by omega⟩ (by simp only; omega) [] (by simp) (fun _ _ _ _ h => h) (by simp) (by simp -implicitDefEqProofs [go_sem, w4, t6, t7]) (by simp -implicitDefEqProofs [go_sem, t1, t2, t3, t4, u0, u1, u2, u3, m0, m0', m1a, m1', m2a, m2', m3a, m3', m4a, m4', t6, t7])
  · simp -implicitDefEqProofs [go_sem, t1, t2, t3, t4, u0, u1, u2, u3, m0, m0', m1a, m1', m2a, m2', m3a, m3', m4a, m4']
    refine go_strict' (by kernel_rfl) ?_
    simp -implicitDefEqProofs [go_sem, t1, t2, t3, t4, u0, u1, u2, u3, m0, m0', m1a, m1', m2a, m2', m3a, m3', m4a, m4']
    refine goD_pure _ kz1 (by simp -implicitDefEqProofs [go_sem, t5]) ?_
    simp -implicitDefEqProofs [go_sem, t1, t2, t3, t4, u0, u1, u2, u3, m0, m0', m1a, m1', m2a, m2', m3a, m3', m4a, m4']
    refine goD_pure _ kz2 (by simp -implicitDefEqProofs [go_sem, t5]) ?_
    have v1 : ∀ (f : Nat → BS) (x y : Rat), viewL f (rC x ++ rC y) = rC x ++ rC y := fun f x y => viewL_ro f _ (t5 x y)
    have v2 : ∀ (f : Nat → BS) (x y : Rat), fitsL f (rC x ++ rC y) := fun f x y => fitsL_ro f _ (t5 x y)
    simp -implicitDefEqProofs [go_sem, rop, t1, t2, t3, t4, u0, u1, u2, u3, m0, m0', m1a, m1', m2a, m2', m3a, m3', m4a, m4', t5, v1, v2]
theorem area_box (a b c d : Rat) : areaQ [⟨a, c⟩, ⟨b, c⟩, ⟨b, d⟩, ⟨a, d⟩] = (b - a) * (d - c) := by
  unfold areaQ
  simp [aS, PQ.cross]
  rw [half_eq]; grind
theorem dot_cases {p : PQ} {s : SR} {l : List PQ} {e : Int} (h : dotQ p s = (l, e)) : (l = [] ∧ e ≠ 0) ∨ e = 0 ∧ ((s.cap = 0 ∧ l = []) ∨ (s.cap = 1 ∧ 0 < s.h ∧ l = [⟨p.x - s.h, p.y - s.h⟩, ⟨p.x + s.h, p.y - s.h⟩, ⟨p.x + s.h, p.y + s.h⟩, ⟨p.x - s.h, p.y + s.h⟩]) ∨ s.cap = 2 ∧ ∃ m, 1 ≤ m ∧ m ≤ 4096 ∧ l = dL p s.h m 4) := by
  unfold dotQ at h
  split at h
  · injection h with h1 h2; exact .inl ⟨h1.symm, by omega⟩
  rename_i hm
  have hm := Classical.not_not.1 hm
  split at h
  · rename_i hc
    injection h with h1 h2
    refine .inr ⟨h2.symm, .inr (.inl ⟨hc, Rat.mul_pos hm.1 half_pos, ?_⟩)⟩
    rw [← h1]
    unfold besideQ
    have f1 : (p.sub ⟨s.h, 0⟩).sub ⟨0, s.h⟩ = ⟨p.x - s.h, p.y - s.h⟩ := PQ.ext (by unfold PQ.sub; simp only; grind) (by unfold PQ.sub; simp only; grind)
    have f2 : (p.add ⟨s.h, 0⟩).sub ⟨0, s.h⟩ = ⟨p.x + s.h, p.y - s.h⟩ := PQ.ext (by unfold PQ.add PQ.sub; simp only; grind) (by unfold PQ.add PQ.sub; simp only; grind)
    have f3 : (p.add ⟨s.h, 0⟩).add ⟨0, s.h⟩ = ⟨p.x + s.h, p.y + s.h⟩ := PQ.ext (by unfold PQ.add; simp only; grind) (by unfold PQ.add; simp only; grind)
    have f4 : (p.sub ⟨s.h, 0⟩).add ⟨0, s.h⟩ = ⟨p.x - s.h, p.y + s.h⟩ := PQ.ext (by unfold PQ.add PQ.sub; simp only; grind) (by unfold PQ.add PQ.sub; simp only; grind)
    rw [f1, f2, f3, f4]
  split at h
  · rename_i hc1 hc2
    rcases rnd_cases p s.h s.tol.val with ⟨k1, k2⟩ | ⟨j, hj, _, _, _, k⟩
    · rw [h] at k1 k2; exact .inl ⟨k1, k2⟩
    · rw [k] at h
      injection h with h1 h2
      exact .inr ⟨h2.symm, .inr (.inr ⟨hc2, 2 ^ j, Nat.pow_pos (by omega), (pow12 (by omega)).2 hj, h1.symm⟩)⟩
  · rename_i hc1 hc2
    injection h with h1 h2
    exact .inr ⟨h2.symm, .inl ⟨by have := hm.2.2; omega, h1.symm⟩⟩
set_option maxHeartbeats 32000000 in
theorem capdots_pure (p : PR) (s : SR) (hp : p.Lm) (hs : s.Lm) : Pure Tryz.prog 6 [p.av, s.av] (.bool true) := by
  have hw := cwakes_pure
  obtain ⟨B, hl, hB⟩ := ours_pure p p s hp hp hs
  refine Pure.of_go mixed Tryz.func6 rfl (rs := [.tmp 4]) rfl (by kernel_rfl) (by simp -implicitDefEqProofs [go_sem]) ?_
  cases B
  · unfold SR.av SR.cs PR.av PR.cs at *
    simp -implicitDefEqProofs [go_sem]
    refine goC_pure _ hl (by simp -implicitDefEqProofs [go_sem]) ?_
    simp -implicitDefEqProofs [go_sem]
    refine goC_pure _ hw (by simp -implicitDefEqProofs [go_sem]) ?_
    simp -implicitDefEqProofs [go_sem]
  · obtain ⟨ip, _, ks⟩ := hB rfl
    have zp := ip.sz
    have zh := ks.h
    have zw := ks.width.sz
    have k1 := dot_pure p s ip ks
    unfold gotA at k1
    obtain ⟨l, e, hle⟩ : ∃ l e, dotQ p.val s = (l, e) := ⟨_, _, rfl⟩
    have hcs := dot_cases hle
    rw [hle] at k1
    clear hle
    have k2 := rof_pure 1 2 (by omega) (by omega) (by omega)
    rw [← half_eq] at k2
    have zhf := sz_half
    have k3 := rmul_pure s.width (qc half) (ks.width.mono (m := 1000)).sm (qc_sm (by omega))
    rw [qc_val] at k3
    change Pure _ _ [_, rA half] (rA s.h) at k3
    have hwh : s.width.val = s.h + s.h := by unfold SR.h; rw [half_eq]; grind
    have kww := rmul_pure s.width s.width (ks.width.mono (m := 1000)).sm (ks.width.mono (m := 1000)).sm
    have khh := rmulq s.h s.h (by omega) (by omega)
    have zhh := sz_mul s.h s.h
    have kch := rcmpq (s.h * s.h) (s.h * s.h) (by omega) (by omega)
    have kc1 := rcmpq s.h s.h (by omega) (by omega)
    rw [cmpQ_self] at kch kc1
    have hzx : sz p.val.x ≤ 1 := ip.x.sz
    have hzy : sz p.val.y ≤ 1 := ip.y.sz
    have zxa := sz_sub p.val.x s.h
    have zxb := sz_add p.val.x s.h
    have zyc := sz_sub p.val.y s.h
    have zyd := sz_add p.val.y s.h
    obtain ⟨C, hC⟩ : ∃ C, C = s.cap := ⟨_, rfl⟩
    rw [← hC] at hcs
    rw [sav_cap hC] at hl k1 ⊢
    rcases hcs with ⟨rfl, he⟩ | ⟨rfl, ⟨rfl, rfl⟩ | ⟨rfl, h0, rfl⟩ | ⟨rfl, m, hm1, hm2, rfl⟩⟩
    · unfold pL at k1
      unfold PR.av PR.cs at *
      simp -implicitDefEqProofs [go_sem]
      refine goC_pure _ hl (by simp -implicitDefEqProofs [go_sem]) ?_
      simp -implicitDefEqProofs [go_sem]
      refine goC_pure _ k1 (by simp -implicitDefEqProofs [go_sem]) ?_
      simp -implicitDefEqProofs [go_sem, he]
      refine goC_pure _ hw (by simp -implicitDefEqProofs [go_sem]) ?_
      simp -implicitDefEqProofs [go_sem]
    · unfold pL at k1
      generalize s.h = h at *
      simp only [rA_rC] at *
      unfold PR.av PR.cs RQ.av at *
      simp -implicitDefEqProofs [go_sem]
      refine goC_pure _ hl (by simp -implicitDefEqProofs [go_sem]) ?_
      simp -implicitDefEqProofs [go_sem]
      refine goC_pure _ k1 (by simp -implicitDefEqProofs [go_sem]) ?_
      simp -implicitDefEqProofs [go_sem]
      refine goD_pure _ k2 (by simp -implicitDefEqProofs [go_sem]) ?_
      simp -implicitDefEqProofs [go_sem]
      refine goD_pure _ k3 (by simp -implicitDefEqProofs [go_sem, ro_rC]) ?_
      simp -implicitDefEqProofs [go_sem]
      refine goC_pure _ hw (by simp -implicitDefEqProofs [go_sem]) ?_
      simp -implicitDefEqProofs [go_sem]
    · have kb := box4_pure (p.val.x - s.h) (p.val.x + s.h) (p.val.y - s.h) (p.val.y + s.h) (by grind) (by grind) (by omega) (by omega) (by omega) (by omega)
      have hz : ∀ q ∈ ([⟨p.val.x - s.h, p.val.y - s.h⟩, ⟨p.val.x + s.h, p.val.y - s.h⟩, ⟨p.val.x + s.h, p.val.y + s.h⟩, ⟨p.val.x - s.h, p.val.y + s.h⟩] : List PQ), q.sz ≤ 100 := fun q hq => by
        simp only [List.mem_cons, List.not_mem_nil, or_false] at hq
        rcases hq with rfl | rfl | rfl | rfl <;> exact Nat.max_le.2 ⟨by simp only; omega, by simp only; omega⟩
      have ka := area_pure _ 100 (by simp) (by simp) hz (by simp)
      rw [area_box, show (p.val.x + s.h - (p.val.x - s.h)) * (p.val.y + s.h - (p.val.y - s.h)) = s.width.val * s.width.val by rw [hwh]; grind] at ka
      have zww := sz_mul s.width.val s.width.val
      have kcw := rcmpq (s.width.val * s.width.val) (s.width.val * s.width.val) (by omega) (by omega)
      rw [cmpQ_self] at kcw
      have kbx := rsubq (p.val.x + s.h) (p.val.x - s.h) (by omega) (by omega)
      rw [show p.val.x + s.h - (p.val.x - s.h) = s.width.val by rw [hwh]; grind] at kbx
      have kcx := rcmp_pure (qc s.width.val) s.width (qc_sm (by omega)) (ks.width.mono (m := 1000)).sm
      rw [qc_val, cmpQ_self] at kcx
      change Pure _ _ [rA s.width.val, _] _ at kcx
      have kby := rsub_pure p.y (qc (p.val.y - s.h)) (ip.y.mono (m := 1000)).sm (qc_sm (by omega))
      rw [qc_val, show p.y.val - (p.val.y - s.h) = s.h by change p.val.y - (p.val.y - s.h) = s.h; grind] at kby
      change Pure _ _ [_, rA (p.val.y - s.h)] _ at kby
      clear hz hwh h0
      generalize p.val.x - s.h = xa at *
      generalize p.val.x + s.h = xb at *
      generalize p.val.y - s.h = yc at *
      generalize p.val.y + s.h = yd at *
      generalize s.width.val * s.width.val = ww at *
      generalize s.width.val = w at *
      generalize s.h = h at *
      unfold pL at *
      simp only [List.map_cons, List.map_nil, rA_rC, pA_pC] at *
      unfold PR.av PR.cs RQ.av at *
      simp -implicitDefEqProofs [go_sem]
      refine goC_pure _ hl (by simp -implicitDefEqProofs [go_sem]) ?_
      simp -implicitDefEqProofs [go_sem]
      refine goC_pure _ k1 (by simp -implicitDefEqProofs [go_sem, ro_pC]) ?_
      simp -implicitDefEqProofs [go_sem]
      refine goD_pure _ k2 (by simp -implicitDefEqProofs [go_sem]) ?_
      simp -implicitDefEqProofs [go_sem]
      refine goD_pure _ k3 (by simp -implicitDefEqProofs [go_sem, ro_rC]) ?_
      simp -implicitDefEqProofs [go_sem]
      refine goC_pure _ kb (by simp -implicitDefEqProofs [go_sem, ro_pC]) ?_
      simp -implicitDefEqProofs [go_sem]
      refine goD_pure _ ka (by simp -implicitDefEqProofs [go_sem, ro_pC]) ?_
      simp -implicitDefEqProofs [go_sem]
      refine goD_pure _ kww (by simp -implicitDefEqProofs [go_sem]) ?_
      simp -implicitDefEqProofs [go_sem]
      refine goD_pure _ kcw (by simp -implicitDefEqProofs [go_sem, ro_rC]) ?_
      simp -implicitDefEqProofs [go_sem]
      refine goD_pure _ kbx (by simp -implicitDefEqProofs [go_sem, ro_rC]) ?_
      simp -implicitDefEqProofs [go_sem]
      refine goD_pure _ kcx (by simp -implicitDefEqProofs [go_sem, ro_rC]) ?_
      simp -implicitDefEqProofs [go_sem]
      refine goD_pure _ kby (by simp -implicitDefEqProofs [go_sem, ro_rC]) ?_
      simp -implicitDefEqProofs [go_sem]
      refine goD_pure _ kc1 (by simp -implicitDefEqProofs [go_sem, ro_rC]) ?_
      simp -implicitDefEqProofs [go_sem]
      refine goD_pure _ hw (by simp -implicitDefEqProofs [go_sem]) ?_
      simp -implicitDefEqProofs [go_sem]
    · have hLl : (dL p.val s.h m 4).length = 4 * m := dL_len ..
      have hsz := dL_szs (c := p.val) (h := s.h) hm1 hm2
      have hfar : ∀ q ∈ dL p.val s.h m 4, Pure Tryz.prog 39 [pA q, p.av] (rA (s.h * s.h)) := fun q hq => by
        obtain ⟨k, hk, rfl⟩ := List.mem_iff_getElem.1 hq
        have z := hsz _ hq
        rw [hLl] at hk
        have := pfar_pure (pc (dL p.val s.h m 4)[k]) p (pc_in (n := 1000) (by omega)).mono ip.mono
        rw [pc_val, show (dL p.val s.h m 4)[k].far p.val = s.h * s.h by rw [dL_dR hm1 hk, far_add, dR_dot]] at this
        exact this
      have hn0 : (4 : Int) ≤ (dL p.val s.h m 4).length := by omega
      have hlen : (dL p.val s.h m 4).length ≤ 16384 := by omega
      clear hsz hLl
      generalize dL p.val s.h m 4 = L at *
      generalize s.h * s.h = hh at *
      generalize s.h = h at *
      have hlw : ∀ i : Nat, i < L.length → IntKind.i64.wrap ((i : Int) + 1) = ((i + 1 : Nat) : Int) := fun i hi => by rw [w64 (by omega)]; omega
      unfold pL at *
      simp only [rA_rC, pA_pC] at *
      unfold PR.av PR.cs RQ.av at *
      simp -implicitDefEqProofs [go_sem]
      refine goC_pure _ hl (by simp -implicitDefEqProofs [go_sem]) ?_
      simp -implicitDefEqProofs [go_sem]
      refine goC_pure _ k1 (by simp -implicitDefEqProofs [go_sem]) ?_
      simp -implicitDefEqProofs [go_sem]
      refine goD_pure _ k2 (by simp -implicitDefEqProofs [go_sem]) ?_
      simp -implicitDefEqProofs [go_sem]
      refine goD_pure _ k3 (by simp -implicitDefEqProofs [go_sem, ro_rC]) ?_
      simp -implicitDefEqProofs [go_sem]
      refine go_loopN 7 (α := {i : Nat // i ≤ L.length}) (fun i => [(2, .ptr 0 0 0), (5, .sl 6 false (L.map pA)), (7, .ptr 6 0 0), (11, .int .i64 i.1)])
        (fun i => [(0, .live 6 [.agg [.bool p.x.neg, nA p.x.p, nA p.x.q, .bool p.y.neg, nA p.y.p, nA p.y.q]]), (6, .live 3 [.agg (rC h)])])
        (fun i => L.length - i.1) ⟨0, Nat.zero_le _⟩ [] (by simp) (fun _ _ _ _ h => h) (by simp) (by simp -implicitDefEqProofs [go_sem]) (by simp -implicitDefEqProofs [go_sem, ro_rC]) fun ⟨i, hi⟩ => ?_
      by_cases a : (i : Int) < L.length
      · have hi' : i < L.length := by omega
        have hx := hfar L[i] (List.getElem_mem _)
        have gi := getE_pA hi'
        have hw1 := hlw i hi'
        simp -implicitDefEqProofs [go_sem, a, hi', gi]
        refine goD_pure _ hx (by simp -implicitDefEqProofs [go_sem, ro_pC]) ?_
        simp -implicitDefEqProofs [go_sem]
        refine goD_pure _ khh (by simp -implicitDefEqProofs [go_sem, ro_rC]) ?_
        simp -implicitDefEqProofs [go_sem]
        refine goD_pure _ kch (by simp -implicitDefEqProofs [go_sem, ro_rC]) ?_
        simp -implicitDefEqProofs [go_sem]
        exact go_again ⟨i + 1, by omega⟩ (by simp only; omega) [] (by simp) (fun _ _ _ _ h => h) (by simp) (by simp -implicitDefEqProofs [go_sem, hw1]) (by simp -implicitDefEqProofs [go_sem, ro_rC])
      · simp -implicitDefEqProofs [go_sem, a, hn0]
        refine goC_pure _ hw (by simp -implicitDefEqProofs [go_sem]) ?_
        simp -implicitDefEqProofs [go_sem]
end Go.Proofs.YtgiheamjhoiojaaGreat
