import Derived.Test.YtgiheamjhoiojaaGreatPkEa
import Derived.Test.YtgiheamjhoiojaaGreatPkDa
import Derived.Test.YtgiheamjhoiojaaGreatPkJa
import Derived.Test.YtgiheamjhoiojaaGreatPkOa
import Derived.Test.YtgiheamjhoiojaaGreatPkQa
import Derived.Test.YtgiheamjhoiojaaGreatPkUa
namespace Go.Proofs.YtgiheamjhoiojaaGreat
open Go Go.Proofs
set_option linter.unusedSimpArgs false
set_option linter.unusedVariables false
set_option maxRecDepth 20000
def mayC (s : SR) : Prop := 0 < s.width.val ∧ 0 < s.tol.val ∧ 0 ≤ s.cap ∧ s.cap ≤ 2
instance (s : SR) : Decidable (mayC s) := inferInstanceAs (Decidable (_ ∧ _))
theorem sav_cap {s : SR} {C : Int} (hC : C = s.cap) : s.av = .agg [.bool s.width.neg, nA s.width.p, nA s.width.q, .bool s.miter.neg, nA s.miter.p, nA s.miter.q, .int .i64 C, .int .i64 s.join, .bool s.tol.neg, nA s.tol.p, nA s.tol.q] := by rw [hC]; rfl
set_option maxHeartbeats 1000000 in
theorem cmay_pure (s : SR) (hw : s.width.In 1000) (ht : s.tol.In 1000) : Pure Tryz.prog 55 [s.av] (.bool (decide (mayC s))) := by
  have g1 := rsign_pure s.width hw.sm.ok
  have g2 := rsign_pure s.tol ht.sm.ok
  have z1 := sgnQ_gt (x := s.width.val)
  have z2 := sgnQ_gt (x := s.tol.val)
  obtain ⟨C, hC⟩ : ∃ C, C = s.cap := ⟨_, rfl⟩
  have hB : decide (mayC s) = (decide (0 < sgnQ s.width.val) && (decide (0 < sgnQ s.tol.val) && (decide (0 ≤ C) && decide (C ≤ 2)))) := by
    rw [← Bool.decide_and, ← Bool.decide_and, ← Bool.decide_and, decide_eq_decide, z1, z2, hC]; exact Iff.rfl
  rw [hB, sav_cap hC]
  generalize sgnQ s.width.val = s1 at *
  generalize sgnQ s.tol.val = s2 at *
  clear hB z1 z2 hC
  unfold RQ.av at *
  refine Pure.of_go mixed Tryz.func55 rfl (rs := [.tmp 2]) rfl (by kernel_rfl) (by simp -implicitDefEqProofs [go_sem]) ?_
  simp -implicitDefEqProofs [go_sem]
  refine goC_pure _ g1 (by simp -implicitDefEqProofs [go_sem]) ?_
  by_cases a1 : 0 < s1
  · simp -implicitDefEqProofs [go_sem, a1]
    refine goC_pure _ g2 (by simp -implicitDefEqProofs [go_sem]) ?_
    by_cases a2 : 0 < s2
    · by_cases a3 : 0 ≤ C
      · by_cases a4 : C ≤ 2
        · simp -implicitDefEqProofs [go_sem, a2, a3, a4]
        · simp -implicitDefEqProofs [go_sem, a2, a3, a4]
      · simp -implicitDefEqProofs [go_sem, a2, a3]
    · simp -implicitDefEqProofs [go_sem, a2]
  · simp -implicitDefEqProofs [go_sem, a1]
theorem half_pure (s : SR) (hw : s.width.In 1000) : Pure Tryz.prog 58 [s.av] (rA s.h) := by
  have k1 := rof_pure 1 2 (by omega) (by omega) (by omega)
  rw [← half_eq] at k1
  have zhf := sz_half
  have k2 := rmul_pure s.width (qc half) hw.sm (qc_sm (by omega))
  rw [qc_val] at k2
  change Pure _ _ [_, rA half] (rA s.h) at k2
  have hr := s.ro_cs
  refine Pure.of_go mixed Tryz.func58 rfl (rs := [.cell 2 26]) rfl (by kernel_rfl) (ro_rA _) ?_
  unfold SR.av SR.cs at *
  generalize s.h = h at *
  simp only [rA_rC] at *
  unfold RQ.av at *
  simp -implicitDefEqProofs [go_sem]
  refine goD_pure _ k1 (by simp -implicitDefEqProofs [go_sem]) ?_
  simp -implicitDefEqProofs [go_sem]
  refine goD_pure _ k2 (by simp -implicitDefEqProofs [go_sem, ro_rC]) ?_
  simp -implicitDefEqProofs [go_sem, rop]
def besideQ (a b n : PQ) : List PQ := [a.sub n, b.sub n, b.add n, a.add n]
theorem besider (a b n : PR) (ha : a.In 1000000) (hb : b.In 1000000) (hn : n.In 1000000) : Pure Tryz.prog 59 [a.av, b.av, n.av] (pL (besideQ a.val b.val n.val)) := by
  have k1 := psub_pure a n ha.mono hn.mono
  have k2 := psub_pure b n hb.mono hn.mono
  have k3 := padd_pure b n hb.mono hn.mono
  have k4 := padd_pure a n ha.mono hn.mono
  unfold besideQ pL
  generalize a.val.sub n.val = p1 at *
  generalize b.val.sub n.val = p2 at *
  generalize b.val.add n.val = p3 at *
  generalize a.val.add n.val = p4 at *
  simp only [List.map_cons, List.map_nil, pA_pC] at *
  unfold PR.av at *
  refine Pure.of_go mixed Tryz.func59 rfl (rs := [.tmp 6]) rfl (by kernel_rfl) (by simp -implicitDefEqProofs [go_sem, ro_pC]) ?_
  simp -implicitDefEqProofs [go_sem]
  refine goD_pure _ k1 (by simp -implicitDefEqProofs [go_sem]) ?_
  simp -implicitDefEqProofs [go_sem]
  refine goD_pure _ k2 (by simp -implicitDefEqProofs [go_sem]) ?_
  simp -implicitDefEqProofs [go_sem]
  refine goD_pure _ k3 (by simp -implicitDefEqProofs [go_sem]) ?_
  simp -implicitDefEqProofs [go_sem]
  refine goD_pure _ k4 (by simp -implicitDefEqProofs [go_sem]) ?_
  simp -implicitDefEqProofs [go_sem]
def sqQ (p u : PQ) (h tol : Rat) : List PQ × Int := match fitQ u h tol with
  | none => ([], 24)
  | some (n, _) => (besideQ p (p.add ⟨n.y, -n.x⟩) n, 0)
def gotA (x : List PQ × Int) : AV := .tup [pL x.1, .int .i64 x.2]
theorem ro_gotA (x : List PQ × Int) : ro (gotA x) := by unfold gotA; simp only [ro, roL]; exact ⟨ro_pL _, trivial, trivial⟩
theorem got_nil (e : Int) : Wk (.tup [.sl 0 true [], .int .i64 e]) (gotA ([], e)) := Wk.tup (.cons (Wk.nil 0 6 true) (.cons (Wk.refl _) .nil))
theorem fillc1_pure (p u : PR) (s : SR) : Pure Tryz.prog 116 [p.av, u.av, s.av] (gotA ([], 0)) := by
  refine Pure.of_ca (ro_gotA _) (CA.of_go mixed Tryz.func116 rfl (rs := [.tmp 6, .tmp 7]) rfl (by kernel_rfl) ?_)
  unfold PR.av SR.av SR.cs
  simp -implicitDefEqProofs [go_sem]
  exact got_nil 0
set_option maxHeartbeats 2000000 in
theorem fillc2_pure (p u : PR) (s : SR) (hp : p.In 1) (hu : u.In 3) (hu0 : u.val ≠ ⟨0, 0⟩) (hs : s.Sml) (hm : mayC s) : Pure Tryz.prog 117 [p.av, u.av, s.av] (gotA (sqQ p.val u.val s.h s.tol.val)) := by
  have zp := hp.sz
  have h0 : 0 < s.h := Rat.mul_pos hm.1 half_pos
  have k1 := half_pure s hs.width.mono
  have k2 := fit_pure u s.h s.tol hu.mono hu0 (by have := hs.h; omega) h0 hs.tol.mono hm.2.1
  refine Pure.of_ca (ro_gotA _) (CA.of_go mixed Tryz.func117 rfl (rs := [.tmp 6, .tmp 7]) rfl (by kernel_rfl) ?_)
  unfold sqQ
  cases hf : fitQ u.val s.h s.tol.val with
  | none =>
    rw [hf, fitA_none] at k2
    unfold pZ at k2
    generalize s.h = h at *
    unfold SR.av SR.cs PR.av RQ.av at *
    simp only [rA_rC] at *
    simp -implicitDefEqProofs [go_sem]
    refine goD_pure _ k1 (by simp -implicitDefEqProofs [go_sem]) ?_
    simp -implicitDefEqProofs [go_sem]
    refine goD_pure _ k2 (by simp -implicitDefEqProofs [go_sem, ro_rC]) ?_
    simp -implicitDefEqProofs [go_sem]
    exact got_nil 24
  | some x =>
    obtain ⟨n, k⟩ := x
    rw [hf, fitA_some] at k2
    have zn := fit_sz hf (by have := hu.sz; omega) (by have := hs.h; omega)
    have hnx : sz n.x ≤ 7261 := Nat.le_trans (Nat.le_max_left _ _) zn
    have hny : sz n.y ≤ 7261 := Nat.le_trans (Nat.le_max_right _ _) zn
    have k3 := rnegq n.x (by omega)
    have zm : PQ.sz ⟨n.y, -n.x⟩ ≤ 7261 := Nat.max_le.2 ⟨hny, by rw [sz_neg]; exact hnx⟩
    have k4 := padd_pure p (pc ⟨n.y, -n.x⟩) hp.mono (pc_in (n := 7261) zm).mono
    rw [pc_val] at k4
    change Pure _ _ [p.av, .agg (rC n.y ++ rC (-n.x))] _ at k4
    have z4 := PQ.sz_add p.val ⟨n.y, -n.x⟩
    have k5 := besider p (pc (p.val.add ⟨n.y, -n.x⟩)) (pc n) hp.mono (pc_in (n := 100000) (by omega)).mono (pc_in (n := 7261) zn).mono
    rw [pc_val, pc_val] at k5
    change Pure _ _ [p.av, pA (p.val.add ⟨n.y, -n.x⟩), pA n] _ at k5
    simp only
    generalize besideQ p.val (p.val.add ⟨n.y, -n.x⟩) n = L at *
    generalize p.val.add ⟨n.y, -n.x⟩ = q at *
    generalize s.h = h at *
    unfold gotA pL at *
    unfold SR.av SR.cs PR.av RQ.av at *
    simp only [rA_rC, pA_pC] at *
    simp -implicitDefEqProofs [go_sem]
    refine goD_pure _ k1 (by simp -implicitDefEqProofs [go_sem]) ?_
    simp -implicitDefEqProofs [go_sem]
    refine goD_pure _ k2 (by simp -implicitDefEqProofs [go_sem, ro_rC]) ?_
    simp -implicitDefEqProofs [go_sem]
    refine goD_pure _ k3 (by simp -implicitDefEqProofs [go_sem, ro_rC]) ?_
    simp -implicitDefEqProofs [go_sem]
    refine goD_pure _ k4 (by simp -implicitDefEqProofs [go_sem, ro_rC, ro_pC]) ?_
    simp -implicitDefEqProofs [go_sem]
    refine goD_pure _ k5 (by simp -implicitDefEqProofs [go_sem, ro_pC]) ?_
    simp -implicitDefEqProofs [go_sem]
    exact Wk.refl _
theorem fillc3_pure (p u : PR) (s : SR) (hp : p.In 1) (hs : s.Sml) : Pure Tryz.prog 119 [p.av, u.av, s.av] (gotA (rnd p.val s.h s.tol.val)) := by
  have k1 := half_pure s hs.width.mono
  have k3 := dround_pure p (qc s.h) s.tol hp.mono (qc_in hs.h).mono hs.tol.mono
  rw [qc_val] at k3
  change Pure _ _ [_, rA s.h, _] _ at k3
  refine Pure.of_go mixed Tryz.func119 rfl (rs := [.tmp 6, .tmp 7]) rfl (by kernel_rfl) (ro_gotA _) ?_
  unfold gotA pL at *
  generalize rnd p.val s.h s.tol.val = R at *
  generalize s.h = h at *
  unfold SR.av SR.cs PR.av RQ.av at *
  simp only [rA_rC] at *
  simp -implicitDefEqProofs [go_sem]
  refine goD_pure _ k1 (by simp -implicitDefEqProofs [go_sem]) ?_
  simp -implicitDefEqProofs [go_sem]
  refine goD_pure _ k3 (by simp -implicitDefEqProofs [go_sem, ro_rC]) ?_
  simp -implicitDefEqProofs [go_sem]
def bodyQ (a b : PQ) (s : SR) : List PQ × Int := if ¬ mayC s then ([], 1) else if a = b then ([], 12) else match fitQ (b.sub a) s.h s.tol.val with
  | none => ([], 24)
  | some (n, _) => (besideQ a b n, 0)
theorem sub_zero {a b : PQ} : b.sub a = ⟨0, 0⟩ ↔ a = b := by
  constructor
  · intro h
    unfold PQ.sub at h
    rw [PQ.mk.injEq] at h
    exact PQ.ext (by grind) (by grind)
  · intro h; subst h; exact PQ.ext (by unfold PQ.sub; simp only; grind) (by unfold PQ.sub; simp only; grind)
set_option maxHeartbeats 4000000 in
theorem body_pure (a b : PR) (s : SR) (ha : a.In 1) (hb : b.In 1) (hs : s.Sml) : Pure Tryz.prog 19 [a.av, b.av, s.av] (gotA (bodyQ a.val b.val s)) := by
  have za := ha.sz
  have zb := hb.sz
  have k0 := cmay_pure s hs.width.mono hs.tol.mono
  have k1 := psame_pure a b ha.mono hb.mono
  have k2 := psub_pure b a hb.mono ha.mono
  have z2 := PQ.sz_sub b.val a.val
  have k3 := half_pure s hs.width.mono
  have hh := hs.h
  refine Pure.of_ca (ro_gotA _) (CA.of_go mixed Tryz.func19 rfl (rs := [.tmp 6, .tmp 7]) rfl (by kernel_rfl) ?_)
  obtain ⟨RES, hRES⟩ : ∃ R, R = gotA (bodyQ a.val b.val s) := ⟨_, rfl⟩
  rw [← hRES]
  unfold bodyQ at hRES
  by_cases a0 : mayC s
  · rw [if_neg (fun h => h a0)] at hRES
    rw [decide_eq_true a0] at k0
    by_cases a1 : a.val = b.val
    · rw [if_pos a1] at hRES
      rw [decide_eq_true a1] at k1
      unfold SR.av SR.cs PR.av at *
      simp -implicitDefEqProofs [go_sem]
      refine goC_pure _ k0 (by simp -implicitDefEqProofs [go_sem]) ?_
      simp -implicitDefEqProofs [go_sem]
      refine goC_pure _ k1 (by simp -implicitDefEqProofs [go_sem]) ?_
      simp -implicitDefEqProofs [go_sem]
      rw [hRES]
      exact got_nil 12
    · rw [if_neg a1] at hRES
      rw [decide_eq_false a1] at k1
      have h0 : 0 < s.h := Rat.mul_pos a0.1 half_pos
      have k4 := fit_pure (pc (b.val.sub a.val)) s.h s.tol (pc_in (n := 1000) (by omega)) (by rw [pc_val]; exact fun h => a1 (sub_zero.1 h)) (by omega) h0 hs.tol.mono a0.2.1
      rw [pc_val] at k4
      change Pure _ _ [pA (b.val.sub a.val), _, _] _ at k4
      cases hf : fitQ (b.val.sub a.val) s.h s.tol.val with
      | none =>
        rw [hf] at hRES
        rw [hf, fitA_none] at k4
        unfold pZ at k4
        generalize s.h = h at *
        generalize b.val.sub a.val = d at *
        unfold SR.av SR.cs PR.av RQ.av at *
        simp only [rA_rC, pA_pC] at *
        simp -implicitDefEqProofs [go_sem]
        refine goC_pure _ k0 (by simp -implicitDefEqProofs [go_sem]) ?_
        simp -implicitDefEqProofs [go_sem]
        refine goC_pure _ k1 (by simp -implicitDefEqProofs [go_sem]) ?_
        simp -implicitDefEqProofs [go_sem]
        refine goD_pure _ k2 (by simp -implicitDefEqProofs [go_sem]) ?_
        simp -implicitDefEqProofs [go_sem]
        refine goD_pure _ k3 (by simp -implicitDefEqProofs [go_sem]) ?_
        simp -implicitDefEqProofs [go_sem]
        refine goD_pure _ k4 (by simp -implicitDefEqProofs [go_sem, ro_rC, ro_pC]) ?_
        simp -implicitDefEqProofs [go_sem]
        rw [hRES]
        exact got_nil 24
      | some x =>
        obtain ⟨n, k⟩ := x
        rw [hf] at hRES
        rw [hf, fitA_some] at k4
        simp only at hRES
        have zn := fit_sz hf (by omega) (by omega)
        have k5 := besider a b (pc n) ha.mono hb.mono (pc_in (n := 7261) zn).mono
        rw [pc_val] at k5
        change Pure _ _ [_, _, pA n] _ at k5
        generalize besideQ a.val b.val n = L at *
        generalize s.h = h at *
        generalize b.val.sub a.val = d at *
        unfold gotA pL at *
        unfold SR.av SR.cs PR.av RQ.av at *
        simp only [rA_rC, pA_pC] at *
        simp -implicitDefEqProofs [go_sem]
        refine goC_pure _ k0 (by simp -implicitDefEqProofs [go_sem]) ?_
        simp -implicitDefEqProofs [go_sem]
        refine goC_pure _ k1 (by simp -implicitDefEqProofs [go_sem]) ?_
        simp -implicitDefEqProofs [go_sem]
        refine goD_pure _ k2 (by simp -implicitDefEqProofs [go_sem]) ?_
        simp -implicitDefEqProofs [go_sem]
        refine goD_pure _ k3 (by simp -implicitDefEqProofs [go_sem]) ?_
        simp -implicitDefEqProofs [go_sem]
        refine goD_pure _ k4 (by simp -implicitDefEqProofs [go_sem, ro_rC, ro_pC]) ?_
        simp -implicitDefEqProofs [go_sem]
        refine goC_pure _ k5 (by simp -implicitDefEqProofs [go_sem, ro_pC]) ?_
        simp -implicitDefEqProofs [go_sem]
        rw [hRES]
        exact Wk.refl _
  · rw [if_pos a0] at hRES
    rw [decide_eq_false a0] at k0
    unfold SR.av SR.cs PR.av at *
    simp -implicitDefEqProofs [go_sem]
    refine goC_pure _ k0 (by simp -implicitDefEqProofs [go_sem]) ?_
    simp -implicitDefEqProofs [go_sem]
    rw [hRES]
    exact got_nil 1
def endQ (p u : PQ) (s : SR) : List PQ × Int := if ¬ mayC s then ([], 1) else if u = ⟨0, 0⟩ then ([], 12) else if s.cap = 0 then ([], 0) else if s.cap = 1 then sqQ p u s.h s.tol.val else rnd p s.h s.tol.val
set_option maxHeartbeats 4000000 in
theorem end_pure (p u : PR) (s : SR) (hp : p.In 1) (hu : u.In 3) (hs : s.Sml) : Pure Tryz.prog 17 [p.av, u.av, s.av] (gotA (endQ p.val u.val s)) := by
  have k0 := cmay_pure s hs.width.mono hs.tol.mono
  have k1 := psamez u hu.mono
  unfold pZ at k1
  have f1 := fillc1_pure p u s
  have f2 := fun (h0 : u.val ≠ ⟨0, 0⟩) (hm : mayC s) => fillc2_pure p u s hp hu h0 hs hm
  have f3 := fillc3_pure p u s hp hs
  have hr0 := ro_gotA
  refine Pure.of_ca (ro_gotA _) (CA.of_go mixed Tryz.func17 rfl (rs := [.tmp 6, .tmp 7]) rfl (by kernel_rfl) ?_)
  obtain ⟨RES, hRES⟩ : ∃ R, R = gotA (endQ p.val u.val s) := ⟨_, rfl⟩
  rw [← hRES]
  unfold endQ at hRES
  by_cases a0 : mayC s
  · rw [if_neg (fun h => h a0)] at hRES
    rw [decide_eq_true a0] at k0
    by_cases a1 : u.val = ⟨0, 0⟩
    · rw [if_pos a1] at hRES
      rw [decide_eq_true a1] at k1
      unfold SR.av SR.cs PR.av at *
      simp -implicitDefEqProofs [go_sem]
      refine goC_pure _ k0 (by simp -implicitDefEqProofs [go_sem]) ?_
      simp -implicitDefEqProofs [go_sem]
      refine goC_pure _ k1 (by simp -implicitDefEqProofs [go_sem]) ?_
      simp -implicitDefEqProofs [go_sem]
      rw [hRES]
      exact got_nil 12
    · rw [if_neg a1] at hRES
      rw [decide_eq_false a1] at k1
      have f2 := f2 a1 a0
      have hc0 := a0.2.2
      obtain ⟨C, hC⟩ : ∃ C, C = s.cap := ⟨_, rfl⟩
      rw [← hC] at hRES hc0
      rw [sav_cap hC] at *
      generalize sqQ p.val u.val s.h s.tol.val = S2 at *
      generalize rnd p.val s.h s.tol.val = S3 at *
      unfold gotA pL at *
      unfold PR.av at *
      rcases (show C = 0 ∨ C = 1 ∨ C = 2 by omega) with rfl | rfl | rfl
      · simp -implicitDefEqProofs [go_sem]
        refine goC_pure _ k0 (by simp -implicitDefEqProofs [go_sem]) ?_
        simp -implicitDefEqProofs [go_sem]
        refine goC_pure _ k1 (by simp -implicitDefEqProofs [go_sem]) ?_
        simp -implicitDefEqProofs [go_sem]
        refine once_do21 (sz := 4) (rest := [.int .u32 0, .sl 0 true []]) (by simp -implicitDefEqProofs [go_sem, once0]) ?_
        refine CA.of_go mixed Tryz.func57 rfl (rs := []) rfl (by kernel_rfl) ?_
        simp -implicitDefEqProofs [go_sem, onceL, once1]
        refine goD_pure _ f1 (by simp -implicitDefEqProofs [go_sem]) ?_
        simp -implicitDefEqProofs [go_sem]
        rw [hRES]
        exact Wk.refl _
      · simp -implicitDefEqProofs [go_sem]
        refine goC_pure _ k0 (by simp -implicitDefEqProofs [go_sem]) ?_
        simp -implicitDefEqProofs [go_sem]
        refine goC_pure _ k1 (by simp -implicitDefEqProofs [go_sem]) ?_
        simp -implicitDefEqProofs [go_sem]
        refine once_do21 (sz := 4) (rest := [.int .u32 0, .sl 0 true []]) (by simp -implicitDefEqProofs [go_sem, once0]) ?_
        refine CA.of_go mixed Tryz.func57 rfl (rs := []) rfl (by kernel_rfl) ?_
        simp -implicitDefEqProofs [go_sem, onceL, once1]
        refine goD_pure _ f2 (by simp -implicitDefEqProofs [go_sem]) ?_
        simp -implicitDefEqProofs [go_sem]
        rw [hRES]
        exact Wk.refl _
      · simp -implicitDefEqProofs [go_sem]
        refine goC_pure _ k0 (by simp -implicitDefEqProofs [go_sem]) ?_
        simp -implicitDefEqProofs [go_sem]
        refine goC_pure _ k1 (by simp -implicitDefEqProofs [go_sem]) ?_
        simp -implicitDefEqProofs [go_sem]
        refine once_do21 (sz := 4) (rest := [.int .u32 0, .sl 0 true []]) (by simp -implicitDefEqProofs [go_sem, once0]) ?_
        refine CA.of_go mixed Tryz.func57 rfl (rs := []) rfl (by kernel_rfl) ?_
        simp -implicitDefEqProofs [go_sem, onceL, once1]
        refine goD_pure _ f3 (by simp -implicitDefEqProofs [go_sem]) ?_
        simp -implicitDefEqProofs [go_sem]
        rw [hRES]
        exact Wk.refl _
  · rw [if_pos a0] at hRES
    rw [decide_eq_false a0] at k0
    unfold SR.av SR.cs PR.av at *
    simp -implicitDefEqProofs [go_sem]
    refine goC_pure _ k0 (by simp -implicitDefEqProofs [go_sem]) ?_
    simp -implicitDefEqProofs [go_sem]
    rw [hRES]
    exact got_nil 1
def dotQ (p : PQ) (s : SR) : List PQ × Int := if ¬ mayC s then ([], 1) else if s.cap = 1 then (besideQ (p.sub ⟨s.h, 0⟩) (p.add ⟨s.h, 0⟩) ⟨0, s.h⟩, 0) else if s.cap = 2 then rnd p s.h s.tol.val else ([], 0)
theorem rQ0_val : rQ0.val = 0 := by unfold RQ.val RQ.num rQ0; simp [lv_nil, sgn_zero, Rat.zero_mkRat]
def rZc : List AV := [.bool false, .sl 0 true [], .sl 0 true []]
theorem wk_rZ : WkL rZc [.bool rQ0.neg, nA rQ0.p, nA rQ0.q] := .cons (Wk.refl _) (.cons (Wk.nil 0 1 true) (.cons (Wk.nil 0 1 true) .nil))
set_option maxHeartbeats 4000000 in
theorem dot_pure (p : PR) (s : SR) (hp : p.In 1) (hs : s.Sml) : Pure Tryz.prog 18 [p.av, s.av] (gotA (dotQ p.val s)) := by
  have zp := hp.sz
  have zh := hs.h
  have k0 := cmay_pure s hs.width.mono hs.tol.mono
  have k3 := half_pure s hs.width.mono
  have k4 := dround_pure p (qc s.h) s.tol hp.mono (qc_in hs.h).mono hs.tol.mono
  rw [qc_val] at k4
  change Pure _ _ [_, rA s.h, _] _ at k4
  have hXin : (⟨qc s.h, rQ0⟩ : PR).In 1 := ⟨qc_in zh, rQ0_in⟩
  have hYin : (⟨rQ0, qc s.h⟩ : PR).In 1 := ⟨rQ0_in, qc_in zh⟩
  have eX : PR.val ⟨qc s.h, rQ0⟩ = ⟨s.h, 0⟩ := by unfold PR.val; simp only [qc_val, rQ0_val]
  have eY : PR.val ⟨rQ0, qc s.h⟩ = ⟨0, s.h⟩ := by unfold PR.val; simp only [qc_val, rQ0_val]
  have wX : Wk (.agg (rC s.h ++ rZc)) (PR.av ⟨qc s.h, rQ0⟩) := Wk.agg (.cons (Wk.refl _) (.cons (Wk.refl _) (.cons (Wk.refl _) wk_rZ)))
  have wY : Wk (.agg (rZc ++ rC s.h)) (PR.av ⟨rQ0, qc s.h⟩) := Wk.agg (.cons (Wk.refl _) (.cons (Wk.nil 0 1 true) (.cons (Wk.nil 0 1 true) (.cons (Wk.refl _) (.cons (Wk.refl _) (.cons (Wk.refl _) .nil))))))
  have k5 := (psub_pure p ⟨qc s.h, rQ0⟩ hp.mono hXin.mono).args (.cons (Wk.refl _) (.cons wX .nil))
  have k6 := (padd_pure p ⟨qc s.h, rQ0⟩ hp.mono hXin.mono).args (.cons (Wk.refl _) (.cons wX .nil))
  rw [eX] at k5 k6
  have z5 := PQ.sz_sub p.val ⟨s.h, 0⟩
  have z6 := PQ.sz_add p.val ⟨s.h, 0⟩
  have zX : PQ.sz ⟨s.h, 0⟩ ≤ 1 := by have := hXin.sz; rwa [eX] at this
  have k7 := (besider (pc (p.val.sub ⟨s.h, 0⟩)) (pc (p.val.add ⟨s.h, 0⟩)) ⟨rQ0, qc s.h⟩ (pc_in (n := 1000) (by omega)).mono (pc_in (n := 1000) (by omega)).mono hYin.mono).args (.cons (Wk.refl _) (.cons (Wk.refl _) (.cons wY .nil)))
  rw [pc_val, pc_val, eY] at k7
  change Pure _ _ [pA _, pA _, _] _ at k7
  refine Pure.of_ca (ro_gotA _) (CA.of_go mixed Tryz.func18 rfl (rs := [.tmp 4, .tmp 5]) rfl (by kernel_rfl) ?_)
  obtain ⟨RES, hRES⟩ : ∃ R, R = gotA (dotQ p.val s) := ⟨_, rfl⟩
  rw [← hRES]
  unfold dotQ at hRES
  clear wX wY eX eY hXin hYin
  by_cases a0 : mayC s
  · rw [if_neg (fun h => h a0)] at hRES
    rw [decide_eq_true a0] at k0
    obtain ⟨C, hC⟩ : ∃ C, C = s.cap := ⟨_, rfl⟩
    rw [← hC] at hRES
    have hc0 := a0.2.2
    rw [← hC] at hc0
    rw [sav_cap hC] at *
    generalize besideQ (p.val.sub ⟨s.h, 0⟩) (p.val.add ⟨s.h, 0⟩) ⟨0, s.h⟩ = S2 at *
    generalize rnd p.val s.h s.tol.val = S3 at *
    generalize p.val.sub ⟨s.h, 0⟩ = q1 at *
    generalize p.val.add ⟨s.h, 0⟩ = q2 at *
    generalize s.h = h at *
    unfold gotA pL at *
    unfold PR.av RQ.av rZc at *
    simp only [rA_rC, pA_pC] at *
    have ht : ∀ a b c, (rC h ++ [a, b, c]).take 6 = rC h ++ [a, b, c] := fun _ _ _ => rfl
    have hro : roL (rC h ++ [AV.bool false, AV.sl 0 true [], AV.sl 0 true []]) := by unfold rC; simp -implicitDefEqProofs [go_sem]
    rcases (show C = 0 ∨ C = 1 ∨ C = 2 by omega) with rfl | rfl | rfl
    · simp -implicitDefEqProofs [go_sem]
      refine goC_pure _ k0 (by simp -implicitDefEqProofs [go_sem]) ?_
      simp -implicitDefEqProofs [go_sem]
      refine goC_pure _ k3 (by simp -implicitDefEqProofs [go_sem]) ?_
      simp -implicitDefEqProofs [go_sem]
      rw [hRES]
      exact Wk.tup (.cons (Wk.nil 0 6 true) (.cons (Wk.refl _) .nil))
    · simp -implicitDefEqProofs [go_sem]
      refine goC_pure _ k0 (by simp -implicitDefEqProofs [go_sem]) ?_
      simp -implicitDefEqProofs [go_sem]
      refine goC_pure _ k3 (by simp -implicitDefEqProofs [go_sem]) ?_
      simp -implicitDefEqProofs [go_sem]
      refine goD_pure _ k5 (by simp -implicitDefEqProofs [go_sem, ht, hro]) ?_
      simp -implicitDefEqProofs [go_sem]
      refine goD_pure _ k6 (by simp -implicitDefEqProofs [go_sem, ht, hro]) ?_
      simp -implicitDefEqProofs [go_sem]
      refine goD_pure _ k7 (by simp -implicitDefEqProofs [go_sem, ro_rC, ro_pC]) ?_
      simp -implicitDefEqProofs [go_sem]
      rw [hRES]
      exact Wk.refl _
    · simp -implicitDefEqProofs [go_sem]
      refine goC_pure _ k0 (by simp -implicitDefEqProofs [go_sem]) ?_
      simp -implicitDefEqProofs [go_sem]
      refine goC_pure _ k3 (by simp -implicitDefEqProofs [go_sem]) ?_
      simp -implicitDefEqProofs [go_sem]
      refine goC_pure _ k4 (by simp -implicitDefEqProofs [go_sem, ro_rC]) ?_
      simp -implicitDefEqProofs [go_sem]
      rw [hRES]
      exact Wk.refl _
  · rw [if_pos a0] at hRES
    rw [decide_eq_false a0] at k0
    unfold SR.av SR.cs PR.av at *
    simp -implicitDefEqProofs [go_sem]
    refine goC_pure _ k0 (by simp -implicitDefEqProofs [go_sem]) ?_
    simp -implicitDefEqProofs [go_sem]
    rw [hRES]
    exact got_nil 1
def mayCV (w t : Rat) (c : Int) : Prop := 0 < w ∧ 0 < t ∧ 0 ≤ c ∧ c ≤ 2
instance (w t : Rat) (c : Int) : Decidable (mayCV w t c) := inferInstanceAs (Decidable (_ ∧ _))
def bodyV (a b : PQ) (w t : Rat) (c : Int) : List PQ × Int := if ¬ mayCV w t c then ([], 1) else if a = b then ([], 12) else match fitQ (b.sub a) (w * half) t with
  | none => ([], 24)
  | some (n, _) => (besideQ a b n, 0)
def endV (p u : PQ) (w t : Rat) (c : Int) : List PQ × Int := if ¬ mayCV w t c then ([], 1) else if u = ⟨0, 0⟩ then ([], 12) else if c = 0 then ([], 0) else if c = 1 then sqQ p u (w * half) t else rnd p (w * half) t
def dotV (p : PQ) (w t : Rat) (c : Int) : List PQ × Int := if ¬ mayCV w t c then ([], 1) else if c = 1 then (besideQ (p.sub ⟨w * half, 0⟩) (p.add ⟨w * half, 0⟩) ⟨0, w * half⟩, 0) else if c = 2 then rnd p (w * half) t else ([], 0)
theorem bodyV_eq (a b : PQ) (s : SR) : bodyQ a b s = bodyV a b s.width.val s.tol.val s.cap := rfl
theorem endV_eq (p u : PQ) (s : SR) : endQ p u s = endV p u s.width.val s.tol.val s.cap := rfl
theorem dotV_eq (p : PQ) (s : SR) : dotQ p s = dotV p s.width.val s.tol.val s.cap := rfl
def styC (c : Int) : SR := ⟨qc 2, qc 4, c, 0, qc half⟩
theorem sz2 : sz (2 : Rat) ≤ 1 := by
  have := sz_i64 (x := 2) (by omega)
  simpa using this
theorem sz4 : sz (4 : Rat) ≤ 1 := by
  have := sz_i64 (x := 4) (by omega)
  simpa using this
theorem cstyle_pure : Pure Tryz.prog 54 [.int .i64 0, rA half] (styC 0).av := by
  have k1 := rof_pure 2 1 (by omega) (by omega) (by omega)
  rw [show ((2 : Int) : Rat) / ((1 : Int) : Rat) = 2 by grind] at k1
  have k2 := rof_pure 4 1 (by omega) (by omega) (by omega)
  rw [show ((4 : Int) : Rat) / ((1 : Int) : Rat) = 4 by grind] at k2
  have e : (styC 0).av = .agg (rC 2 ++ (rC 4 ++ (.int .i64 0 :: .int .i64 0 :: rC half))) := rfl
  rw [e]
  simp only [rA_rC] at *
  unfold rC at *
  refine Pure.of_go mixed Tryz.func54 rfl (rs := [.cell 4 32]) rfl (by kernel_rfl) (by simp -implicitDefEqProofs [go_sem]) ?_
  simp -implicitDefEqProofs [go_sem]
  refine goD_pure _ k1 (by simp -implicitDefEqProofs [go_sem]) ?_
  simp -implicitDefEqProofs [go_sem]
  refine goD_pure _ k2 (by simp -implicitDefEqProofs [go_sem]) ?_
  simp -implicitDefEqProofs [go_sem, rop]
theorem styC_sml (c : Int) : (styC c).Sml := by
  refine ⟨qc_in sz2, qc_in sz4, qc_in sz_half, ?_⟩
  have : (styC c).h = 1 := by
    unfold SR.h styC
    simp only [qc_val]
    rw [half_eq]; grind
  rw [this, sz_one]; exact Nat.le_refl _
theorem cw1 : bodyV (wP 0 0) (wP 4 0) 2 half 0 = ([wP 0 (-1), wP 4 (-1), wP 4 1, wP 0 1], 0) := by decide +kernel
theorem cw2 : endV (wP 4 0) (wP 1 0) 2 half 1 = ([wP 4 (-1), wP 5 (-1), wP 5 1, wP 4 1], 0) := by decide +kernel
theorem cw3 : dotV (wP 0 0) 2 half 1 = ([wP (-1) (-1), wP 1 (-1), wP 1 1, wP (-1) 1], 0) := by decide +kernel
set_option maxHeartbeats 8000000 in
theorem cwakes_pure : Pure Tryz.prog 14 [] (.bool true) := by
  have p00 := wP_pure 0 0 (by omega) (by omega)
  have p40 := wP_pure 4 0 (by omega) (by omega)
  have p10 := wP_pure 1 0 (by omega) (by omega)
  have p0m := wP_pure 0 (-1) (by omega) (by omega)
  have p41 := wP_pure 4 1 (by omega) (by omega)
  have p5m := wP_pure 5 (-1) (by omega) (by omega)
  have p11 := wP_pure 1 1 (by omega) (by omega)
  have s00 : (wP 0 0).sz ≤ 1 := sz_wP (by omega) (by omega)
  have s40 : (wP 4 0).sz ≤ 1 := sz_wP (by omega) (by omega)
  have s10 : (wP 1 0).sz ≤ 1 := sz_wP (by omega) (by omega)
  have s0m : (wP 0 (-1)).sz ≤ 1 := sz_wP (by omega) (by omega)
  have s41 : (wP 4 1).sz ≤ 1 := sz_wP (by omega) (by omega)
  have s5m : (wP 5 (-1)).sz ≤ 1 := sz_wP (by omega) (by omega)
  have s11 : (wP 1 1).sz ≤ 1 := sz_wP (by omega) (by omega)
  have kh := rof_pure 1 2 (by omega) (by omega) (by omega)
  rw [← half_eq] at kh
  have kst := cstyle_pure
  have e0 : ∀ c : Int, (styC c).width.val = 2 ∧ (styC c).tol.val = half ∧ (styC c).cap = c := fun c => ⟨qc_val _, qc_val _, rfl⟩
  have q1 := body_pure (pc (wP 0 0)) (pc (wP 4 0)) (styC 0) (pc_in s00) (pc_in s40) (styC_sml 0)
  have q2 := end_pure (pc (wP 4 0)) (pc (wP 1 0)) (styC 1) (pc_in s40) (pc_in (n := 3) (by omega)) (styC_sml 1)
  have q3 := dot_pure (pc (wP 0 0)) (styC 1) (pc_in s00) (styC_sml 1)
  rw [pc_val, pc_val, bodyV_eq, (e0 0).1, (e0 0).2.1, (e0 0).2.2, cw1] at q1
  rw [pc_val, pc_val, endV_eq, (e0 1).1, (e0 1).2.1, (e0 1).2.2, cw2] at q2
  rw [pc_val, dotV_eq, (e0 1).1, (e0 1).2.1, (e0 1).2.2, cw3] at q3
  have v1 := psame_self (wP 0 (-1)) (by omega)
  have v2 := psame_self (wP 4 1) (by omega)
  have v3 := psame_self (wP 5 (-1)) (by omega)
  have v4 := psame_self (wP 1 1) (by omega)
  change Pure _ _ [pA _, pA _, _] _ at q1 q2
  change Pure _ _ [pA _, _] _ at q3
  unfold gotA pL at q1 q2 q3
  simp only [List.map_cons, List.map_nil, pA_pC, rA_rC] at *
  unfold SR.av SR.cs styC at *
  simp only at kst q1 q2 q3
  unfold rC at kh kst
  generalize wP 0 0 = P00 at *
  generalize wP 4 0 = P40 at *
  generalize wP 1 0 = P10 at *
  generalize wP 0 (-1) = P0m at *
  generalize wP 4 1 = P41 at *
  generalize wP 5 (-1) = P5m at *
  generalize wP 1 1 = P11 at *
  generalize wP 4 (-1) = B1 at *
  generalize wP 0 1 = B3 at *
  generalize wP 5 1 = C2 at *
  generalize wP (-1) (-1) = D0 at *
  generalize wP 1 (-1) = D1 at *
  generalize wP (-1) 1 = D3 at *
  refine Pure.of_go mixed Tryz.func14 rfl (rs := [.tmp 0]) rfl (by kernel_rfl) (by simp -implicitDefEqProofs [go_sem]) ?_
  have g1 : getE [AV.agg (pC P0m), AV.agg (pC B1), AV.agg (pC P41), AV.agg (pC B3)] 0 = .agg (pC P0m) := rfl
  have g2 : getE [AV.agg (pC P0m), AV.agg (pC B1), AV.agg (pC P41), AV.agg (pC B3)] 2 = .agg (pC P41) := rfl
  have g3 : getE [AV.agg (pC B1), AV.agg (pC P5m), AV.agg (pC C2), AV.agg (pC P41)] 1 = .agg (pC P5m) := rfl
  have g4 : getE [AV.agg (pC D0), AV.agg (pC D1), AV.agg (pC P11), AV.agg (pC D3)] 2 = .agg (pC P11) := rfl
  simp -implicitDefEqProofs [go_sem]
  refine goC_pure _ kh (by simp -implicitDefEqProofs [go_sem]) ?_
  simp -implicitDefEqProofs [go_sem]
  refine goC_pure _ kst (by simp -implicitDefEqProofs [go_sem]) ?_
  simp -implicitDefEqProofs [go_sem]
  refine goD_pure _ p00 (by simp -implicitDefEqProofs [go_sem]) ?_
  simp -implicitDefEqProofs [go_sem]
  refine goD_pure _ p40 (by simp -implicitDefEqProofs [go_sem]) ?_
  simp -implicitDefEqProofs [go_sem]
  refine goD_pure _ q1 (by simp -implicitDefEqProofs [go_sem, ro_pC]) ?_
  simp -implicitDefEqProofs [go_sem]
  refine goD_pure _ p40 (by simp -implicitDefEqProofs [go_sem]) ?_
  simp -implicitDefEqProofs [go_sem]
  refine goD_pure _ p10 (by simp -implicitDefEqProofs [go_sem]) ?_
  simp -implicitDefEqProofs [go_sem]
  refine goD_pure _ q2 (by simp -implicitDefEqProofs [go_sem, ro_pC]) ?_
  simp -implicitDefEqProofs [go_sem]
  refine goD_pure _ p00 (by simp -implicitDefEqProofs [go_sem]) ?_
  simp -implicitDefEqProofs [go_sem]
  refine goD_pure _ q3 (by simp -implicitDefEqProofs [go_sem, ro_pC]) ?_
  simp -implicitDefEqProofs [go_sem, g1, g2, g3, g4]
  refine goD_pure _ p0m (by simp -implicitDefEqProofs [go_sem]) ?_
  simp -implicitDefEqProofs [go_sem, g1, g2, g3, g4]
  refine goD_pure _ v1 (by simp -implicitDefEqProofs [go_sem, ro_pC]) ?_
  simp -implicitDefEqProofs [go_sem, g1, g2, g3, g4]
  refine goD_pure _ p41 (by simp -implicitDefEqProofs [go_sem]) ?_
  simp -implicitDefEqProofs [go_sem, g1, g2, g3, g4]
  refine goD_pure _ v2 (by simp -implicitDefEqProofs [go_sem, ro_pC]) ?_
  simp -implicitDefEqProofs [go_sem, g1, g2, g3, g4]
  refine goD_pure _ p5m (by simp -implicitDefEqProofs [go_sem]) ?_
  simp -implicitDefEqProofs [go_sem, g1, g2, g3, g4]
  refine goD_pure _ v3 (by simp -implicitDefEqProofs [go_sem, ro_pC]) ?_
  simp -implicitDefEqProofs [go_sem, g1, g2, g3, g4]
  refine goD_pure _ p11 (by simp -implicitDefEqProofs [go_sem]) ?_
  simp -implicitDefEqProofs [go_sem, g1, g2, g3, g4]
  refine goD_pure _ v4 (by simp -implicitDefEqProofs [go_sem, ro_pC]) ?_
  simp -implicitDefEqProofs [go_sem, g1, g2, g3, g4]
set_option maxHeartbeats 4000000 in
theorem ours_pure (a b : PR) (s : SR) (ha : a.Lm) (hb : b.Lm) (hs : s.Lm) : ∃ B : Bool, Pure Tryz.prog 13 [.agg (a.cs ++ b.cs), s.av] (.bool B) ∧ (B = true → a.In 1 ∧ b.In 1 ∧ s.Sml) := by
  have s1 := smallpt_pure a 1
  have s2 := smallpt_pure b 1
  rw [show ((1 : Nat) : Int) = 1 from rfl] at s1 s2
  have hr := s.ro_cs
  by_cases a1 : a.x.sml 1 ∧ a.y.sml 1
  · by_cases a2 : b.x.sml 1 ∧ b.y.sml 1
    · have ia : a.In 1 := ⟨sml_in a1.1 ha.1, sml_in a1.2 ha.2⟩
      have ib : b.In 1 := ⟨sml_in a2.1 hb.1, sml_in a2.2 hb.2⟩
      have za := ia.sz
      have zb := ib.sz
      have i1 := ein_pure a ia.mono
      have i2 := ein_pure b ib.mono
      have i3 := esub_pure b.val a.val (by omega) (by omega)
      have z3 := PQ.sz_sub b.val a.val
      have i4 := eout_pure (b.val.sub a.val) (by omega)
      have p10 := wP_pure 1 0 (by omega) (by omega)
      obtain ⟨B, hl, hB⟩ := light20_pure ⟨a, pc (b.val.sub a.val), pc (wP 1 0)⟩ s ⟨ha, ⟨qc_lm _, qc_lm _⟩, ⟨qc_lm _, qc_lm _⟩⟩ hs
      have hcs : CR.av ⟨a, pc (b.val.sub a.val), pc (wP 1 0)⟩ = .agg (a.cs ++ pC (b.val.sub a.val) ++ pC (wP 1 0)) := rfl
      rw [hcs] at hl
      refine ⟨B, ?_, fun h => ⟨ia, ib, (hB h).2⟩⟩
      clear hB hcs
      generalize wP 1 0 = W at *
      generalize b.val.sub a.val = d at *
      simp only [eA_eC, pA_pC] at *
      unfold pC at *
      unfold SR.av SR.cs PR.av PR.cs at *
      refine Pure.of_go mixed Tryz.func13 rfl (rs := [.tmp 4]) rfl (by kernel_rfl) (by simp -implicitDefEqProofs [go_sem]) ?_
      simp -implicitDefEqProofs [go_sem]
      refine goC_pure _ s1 (by simp -implicitDefEqProofs [go_sem]) ?_
      simp -implicitDefEqProofs [go_sem, a1]
      refine goC_pure _ s2 (by simp -implicitDefEqProofs [go_sem]) ?_
      simp -implicitDefEqProofs [go_sem, a2]
      refine goD_pure _ i2 (by simp -implicitDefEqProofs [go_sem]) ?_
      simp -implicitDefEqProofs [go_sem]
      refine goD_pure _ i1 (by simp -implicitDefEqProofs [go_sem]) ?_
      simp -implicitDefEqProofs [go_sem]
      refine goD_pure _ i3 (by simp -implicitDefEqProofs [go_sem, ro_eC]) ?_
      simp -implicitDefEqProofs [go_sem]
      refine goD_pure _ i4 (by simp -implicitDefEqProofs [go_sem, ro_eC]) ?_
      simp -implicitDefEqProofs [go_sem]
      refine goD_pure _ p10 (by simp -implicitDefEqProofs [go_sem]) ?_
      simp -implicitDefEqProofs [go_sem]
      refine goD_pure _ hl (by simp -implicitDefEqProofs [go_sem]) ?_
      simp -implicitDefEqProofs [go_sem]
    · refine ⟨false, ?_, fun h => by cases h⟩
      unfold SR.av SR.cs PR.av PR.cs at *
      refine Pure.of_go mixed Tryz.func13 rfl (rs := [.tmp 4]) rfl (by kernel_rfl) (by simp -implicitDefEqProofs [go_sem]) ?_
      simp -implicitDefEqProofs [go_sem]
      refine goC_pure _ s1 (by simp -implicitDefEqProofs [go_sem]) ?_
      simp -implicitDefEqProofs [go_sem, a1]
      refine goC_pure _ s2 (by simp -implicitDefEqProofs [go_sem]) ?_
      simp -implicitDefEqProofs [go_sem, a2]
  · refine ⟨false, ?_, fun h => by cases h⟩
    unfold SR.av SR.cs PR.av PR.cs at *
    refine Pure.of_go mixed Tryz.func13 rfl (rs := [.tmp 4]) rfl (by kernel_rfl) (by simp -implicitDefEqProofs [go_sem]) ?_
    simp -implicitDefEqProofs [go_sem]
    refine goC_pure _ s1 (by simp -implicitDefEqProofs [go_sem]) ?_
    simp -implicitDefEqProofs [go_sem, a1]
def Fine (l : List PQ) : Prop := l.length ≤ 16384 ∧ ∀ x ∈ l, x.sz ≤ 30000
theorem fine_nil : Fine [] := ⟨by simp, by simp⟩
theorem fine_rnd {p : PQ} {h tol : Rat} (hp : p.sz ≤ 1) (hh : sz h ≤ 1) : Fine (rnd p h tol).1 := by
  rcases rnd_cases p h tol with ⟨k, _⟩ | ⟨e, h1, _, _, _, k⟩
  · rw [k]; exact fine_nil
  · rw [k]
    have hq : 2 ^ e ≤ 4096 := (pow12 (by omega)).2 h1
    have hp1 : 1 ≤ 2 ^ e := Nat.pow_pos (by omega)
    generalize 2 ^ e = m at *
    refine ⟨by simp only [dL_len]; omega, fun x hx => ?_⟩
    have := dL_szs (c := p) (h := h) hp1 hq x hx
    omega
theorem fine_beside {a b n : PQ} (ha : a.sz ≤ 8000) (hb : b.sz ≤ 8000) (hn : n.sz ≤ 7261) : Fine (besideQ a b n) := by
  refine ⟨by simp [besideQ], fun x hx => ?_⟩
  have h1 := PQ.sz_sub a n
  have h2 := PQ.sz_sub b n
  have h3 := PQ.sz_add b n
  have h4 := PQ.sz_add a n
  simp only [besideQ, List.mem_cons, List.not_mem_nil, or_false] at hx
  rcases hx with rfl | rfl | rfl | rfl <;> omega
theorem fine_body {a b : PQ} {s : SR} (ha : a.sz ≤ 1) (hb : b.sz ≤ 1) (hs : s.Sml) : Fine (bodyQ a b s).1 := by
  have hh := hs.h
  have z := PQ.sz_sub b a
  unfold bodyQ
  split
  · exact fine_nil
  split
  · exact fine_nil
  · cases hf : fitQ (b.sub a) s.h s.tol.val with
    | none => exact fine_nil
    | some x => exact fine_beside (by omega) (by omega) (fit_sz (n := x.1) (k := x.2) hf (by omega) (by omega))
theorem fine_sq {p u : PQ} {h tol : Rat} (hp : p.sz ≤ 1) (hu : u.sz ≤ 3) (hh : sz h ≤ 1) : Fine (sqQ p u h tol).1 := by
  unfold sqQ
  cases hf : fitQ u h tol with
  | none => exact fine_nil
  | some x =>
    have zn := fit_sz (n := x.1) (k := x.2) hf (by omega) (by omega)
    have h1 : sz x.1.x ≤ 7261 := Nat.le_trans (Nat.le_max_left _ _) zn
    have h2 : sz x.1.y ≤ 7261 := Nat.le_trans (Nat.le_max_right _ _) zn
    have h3 : PQ.sz ⟨x.1.y, -x.1.x⟩ ≤ 7261 := Nat.max_le.2 ⟨h2, by rw [sz_neg]; exact h1⟩
    have h4 := PQ.sz_add p ⟨x.1.y, -x.1.x⟩
    exact fine_beside (by omega) (by omega) zn
theorem fine_end {p u : PQ} {s : SR} (hp : p.sz ≤ 1) (hu : u.sz ≤ 3) (hs : s.Sml) : Fine (endQ p u s).1 := by
  unfold endQ
  split
  · exact fine_nil
  split
  · exact fine_nil
  split
  · exact fine_nil
  split
  · exact fine_sq hp hu hs.h
  · exact fine_rnd hp hs.h
theorem fine_dot {p : PQ} {s : SR} (hp : p.sz ≤ 1) (hs : s.Sml) : Fine (dotQ p s).1 := by
  have hh := hs.h
  have z0 : sz (0 : Rat) ≤ 1 := by rw [show sz 0 = 1 from by have := sz_int 0; simpa [nl_zero] using this]; omega
  have zx : PQ.sz ⟨s.h, 0⟩ ≤ 1 := Nat.max_le.2 ⟨hh, z0⟩
  have zy : PQ.sz ⟨0, s.h⟩ ≤ 1 := Nat.max_le.2 ⟨z0, hh⟩
  have h1 := PQ.sz_sub p ⟨s.h, 0⟩
  have h2 := PQ.sz_add p ⟨s.h, 0⟩
  unfold dotQ
  split
  · exact fine_nil
  split
  · exact fine_beside (by omega) (by omega) (by omega)
  split
  · exact fine_rnd hp hh
  · exact fine_nil
theorem sz_negs (p : PQ) : (p.scale (-1)).sz = p.sz := by
  unfold PQ.sz PQ.scale
  simp only
  rw [show p.x * -1 = -p.x by grind, show p.y * -1 = -p.y by grind, sz_neg, sz_neg]
theorem negs_ne {p : PQ} (h : p ≠ ⟨0, 0⟩) : p.scale (-1) ≠ ⟨0, 0⟩ := fun e => h (by
  unfold PQ.scale at e
  rw [PQ.mk.injEq] at e
  exact PQ.ext (by have := e.1; simp only; grind) (by have := e.2; simp only; grind))
theorem esame_pure (p q : PQ) (hp : p.sz ≤ 4294967296) (hq : q.sz ≤ 4294967296) : Pure Tryz.prog 70 [eA p, eA q] (.bool (decide (p = q))) := by
  obtain ⟨p1, p2⟩ := e_parts p hp
  obtain ⟨q1, q2⟩ := e_parts q hq
  have h1 := fcmp_pure p.x q.x (by omega) (by omega)
  have h2 := fcmp_pure p.y q.y (by omega) (by omega)
  have hz : ∀ a b : Rat, cmpQ a b = 0 ↔ a = b := fun a b => by
    have a1 := @cmpQ_ge a b
    have a2 := @cmpQ_le a b
    constructor
    · intro h
      have := a1.1 (by omega); have := a2.1 (by omega)
      grind
    · intro h
      have := a1.2 (by grind); have := a2.2 (by grind)
      omega
  have z1 := hz p.x q.x
  have z2 := hz p.y q.y
  have he : decide (p = q) = (decide (cmpQ p.x q.x = 0) && decide (cmpQ p.y q.y = 0)) := by
    rw [← Bool.decide_and, decide_eq_decide, z1, z2]
    exact PQ.eq_iff ..
  rw [he]
  generalize cmpQ p.x q.x = c1 at *
  generalize cmpQ p.y q.y = c2 at *
  refine Pure.of_go mixed Tryz.func70 rfl (rs := [.tmp 4]) rfl (by kernel_rfl) (by simp -implicitDefEqProofs [go_sem]) ?_
  simp only [eA_eC, fA_fC] at *
  simp -implicitDefEqProofs [go_sem]
  refine goC_pure _ h1 (by simp -implicitDefEqProofs [go_sem, ro_fC]) ?_
  by_cases a : c1 = 0
  · simp -implicitDefEqProofs [go_sem, a]
    refine goC_pure _ h2 (by simp -implicitDefEqProofs [go_sem, ro_fC]) ?_
    simp -implicitDefEqProofs [go_sem]
  · simp -implicitDefEqProofs [go_sem, a]
set_option maxHeartbeats 1000000 in
theorem emay_pure (s : SR) : Pure Tryz.prog 62 [stA s] (.bool (decide (mayC s))) := by
  have g1 := fsign_pure s.width.val
  have g2 := fsign_pure s.tol.val
  have z1 := sgnQ_gt (x := s.width.val)
  have z2 := sgnQ_gt (x := s.tol.val)
  have hB : decide (mayC s) = (decide (0 < sgnQ s.width.val) && (decide (0 < sgnQ s.tol.val) && (decide (0 ≤ s.cap) && decide (s.cap ≤ 2)))) := by
    rw [← Bool.decide_and, ← Bool.decide_and, ← Bool.decide_and, decide_eq_decide, z1, z2]; exact Iff.rfl
  rw [hB]
  unfold stA
  generalize sgnQ s.width.val = s1 at *
  generalize sgnQ s.tol.val = s2 at *
  generalize s.width.val = w at *
  generalize s.tol.val = t at *
  generalize s.miter.val = m at *
  generalize s.cap = C at *
  generalize s.join = J at *
  clear hB z1 z2
  simp only [fA_fC] at *
  unfold stC fC at *
  refine Pure.of_go mixed Tryz.func62 rfl (rs := [.tmp 2]) rfl (by kernel_rfl) (by simp -implicitDefEqProofs [go_sem]) ?_
  simp -implicitDefEqProofs [go_sem]
  refine goC_pure _ g1 (by simp -implicitDefEqProofs [go_sem, ro_qA]) ?_
  by_cases a1 : 0 < s1
  · simp -implicitDefEqProofs [go_sem, a1]
    refine goC_pure _ g2 (by simp -implicitDefEqProofs [go_sem, ro_qA]) ?_
    by_cases a2 : 0 < s2
    · by_cases a3 : 0 ≤ C
      · by_cases a4 : C ≤ 2
        · simp -implicitDefEqProofs [go_sem, a2, a3, a4]
        · simp -implicitDefEqProofs [go_sem, a2, a3, a4]
      · simp -implicitDefEqProofs [go_sem, a2, a3]
    · simp -implicitDefEqProofs [go_sem, a2]
  · simp -implicitDefEqProofs [go_sem, a1]
set_option maxHeartbeats 8000000 in
theorem ebody_pure (a b : PQ) (s : SR) (ha : a.sz ≤ 1) (hb : b.sz ≤ 1) (hs : s.Sml) : Pure Tryz.prog 22 [eA a, eA b, stA s] (etA (bodyQ a b s)) := by
  have hh := hs.h
  have zt := hs.tol.sz
  have k0 := emay_pure s
  have k1 := esame_pure a b (by omega) (by omega)
  have k2 := esub_pure b a (by omega) (by omega)
  have z2 := PQ.sz_sub b a
  have k3 := ehalf_pure s hs
  refine Pure.of_ca (ro_etA _) (CA.of_go mixed Tryz.func22 rfl (rs := [.cell 6 54]) rfl (by kernel_rfl) ?_)
  obtain ⟨RES, hRES⟩ : ∃ R, R = etA (bodyQ a b s) := ⟨_, rfl⟩
  rw [← hRES]
  unfold bodyQ at hRES
  have hW : ∀ e : Int, Wk (.agg [.sl 0 true [], .int .i64 e]) (etA ([], e)) := et_nil
  unfold stA at *
  have q1 : (stC s.width.val s.miter.val s.tol.val s.cap s.join).length = 11 := rfl
  have q2 : (stC s.width.val s.miter.val s.tol.val s.cap s.join).drop 8 = fC s.tol.val := rfl
  have q3 : (stC s.width.val s.miter.val s.tol.val s.cap s.join).take 11 = stC s.width.val s.miter.val s.tol.val s.cap s.join := rfl
  have q4 : (stC s.width.val s.miter.val s.tol.val s.cap s.join).drop 11 = [] := rfl
  have q5 := ro_stC s.width.val s.miter.val s.tol.val s.cap s.join
  generalize stC s.width.val s.miter.val s.tol.val s.cap s.join = S at *
  by_cases a0 : mayC s
  · rw [if_neg (fun h => h a0)] at hRES
    rw [decide_eq_true a0] at k0
    by_cases a1 : a = b
    · rw [if_pos a1] at hRES
      rw [decide_eq_true a1] at k1
      simp only [eA_eC, fA_fC] at *
      simp -implicitDefEqProofs [go_sem, q1, q3, q4]
      refine goC_pure _ k0 (by simp -implicitDefEqProofs [go_sem, q5]) ?_
      simp -implicitDefEqProofs [go_sem]
      refine goC_pure _ k1 (by simp -implicitDefEqProofs [go_sem, ro_eC]) ?_
      simp -implicitDefEqProofs [go_sem, rop]
      rw [hRES]
      exact hW 12
    · rw [if_neg a1] at hRES
      rw [decide_eq_false a1] at k1
      have h0 : 0 < s.h := Rat.mul_pos a0.1 half_pos
      have k4 := efit_pure (b.sub a) s.h s.tol.val (by omega) (fun h => a1 (sub_zero.1 h)) (by omega) h0 (by omega) a0.2.1
      cases hf : fitQ (b.sub a) s.h s.tol.val with
      | none =>
        rw [hf] at hRES k4
        unfold gfA at k4
        simp only at k4
        generalize s.h = h at *
        generalize s.tol.val = tol at *
        generalize b.sub a = d at *
        simp only [eA_eC, fA_fC] at *
        simp -implicitDefEqProofs [go_sem, q1, q3, q4]
        refine goC_pure _ k0 (by simp -implicitDefEqProofs [go_sem, q5]) ?_
        simp -implicitDefEqProofs [go_sem, q1, q3, q4]
        refine goC_pure _ k1 (by simp -implicitDefEqProofs [go_sem, ro_eC]) ?_
        simp -implicitDefEqProofs [go_sem, q1, q3, q4]
        refine goD_pure _ k2 (by simp -implicitDefEqProofs [go_sem, ro_eC]) ?_
        simp -implicitDefEqProofs [go_sem, q1, q3, q4]
        refine goD_pure _ k3 (by simp -implicitDefEqProofs [go_sem, q5]) ?_
        simp -implicitDefEqProofs [go_sem, q1, q2, q3, q4]
        refine goD_pure _ k4 (by simp -implicitDefEqProofs [go_sem, ro_eC, ro_fC]) ?_
        simp -implicitDefEqProofs [go_sem, rop]
        rw [hRES]
        exact hW 24
      | some x =>
        obtain ⟨n, k⟩ := x
        have zn := fit_sz hf (by omega) (by omega)
        rw [hf] at hRES k4
        unfold gfA at k4
        simp only at k4 hRES
        have e1 : ∀ (n : PQ) (a b : AV), List.drop 7 (eC n ++ [a, b]) = [b] := fun _ _ _ => rfl
        have e2 : ∀ (n : PQ) (a b : AV), List.take 8 (eC n ++ [a, b]) = eC n ++ [a, b] := fun _ _ _ => rfl
        have e3 : ∀ (n : PQ) (a b : AV), (eC n ++ [a, b]).length = 8 := fun _ _ _ => rfl
        have e4 : ∀ (n : PQ) (a b : AV), List.take 6 (eC n ++ [a, b]) = eC n := fun _ _ _ => rfl
        have e5 : ∀ (n : PQ) (a b : AV), List.drop 8 (eC n ++ [a, b]) = [] := fun _ _ _ => rfl
        have p1 := esub_pure a n (by omega) (by omega)
        have p2 := esub_pure b n (by omega) (by omega)
        have p3 := eadd_pure b n (by omega) (by omega)
        have p4 := eadd_pure a n (by omega) (by omega)
        unfold besideQ at hRES
        generalize a.sub n = P1 at *
        generalize b.sub n = P2 at *
        generalize b.add n = P3 at *
        generalize a.add n = P4 at *
        generalize s.h = h at *
        generalize s.tol.val = tol at *
        generalize b.sub a = d at *
        unfold etA eL at hRES
        simp only [List.map_cons, List.map_nil] at hRES
        simp only [eA_eC, fA_fC] at *
        simp -implicitDefEqProofs [go_sem, q1, q3, q4]
        refine goC_pure _ k0 (by simp -implicitDefEqProofs [go_sem, q5]) ?_
        simp -implicitDefEqProofs [go_sem, q1, q3, q4]
        refine goC_pure _ k1 (by simp -implicitDefEqProofs [go_sem, ro_eC]) ?_
        simp -implicitDefEqProofs [go_sem, q1, q3, q4]
        refine goD_pure _ k2 (by simp -implicitDefEqProofs [go_sem, ro_eC]) ?_
        simp -implicitDefEqProofs [go_sem, q1, q3, q4]
        refine goD_pure _ k3 (by simp -implicitDefEqProofs [go_sem, q5]) ?_
        simp -implicitDefEqProofs [go_sem, q1, q2, q3, q4]
        refine goD_pure _ k4 (by simp -implicitDefEqProofs [go_sem, ro_eC, ro_fC]) ?_
        simp -implicitDefEqProofs [go_sem, e1, e2, e3, e4, e5]
        refine goD_pure _ p1 (by simp -implicitDefEqProofs [go_sem, ro_eC]) ?_
        simp -implicitDefEqProofs [go_sem, e1, e2, e3, e4, e5]
        refine goD_pure _ p2 (by simp -implicitDefEqProofs [go_sem, ro_eC]) ?_
        simp -implicitDefEqProofs [go_sem, e1, e2, e3, e4, e5]
        refine goD_pure _ p3 (by simp -implicitDefEqProofs [go_sem, ro_eC]) ?_
        simp -implicitDefEqProofs [go_sem, e1, e2, e3, e4, e5]
        refine goD_pure _ p4 (by simp -implicitDefEqProofs [go_sem, ro_eC]) ?_
        simp -implicitDefEqProofs [go_sem, rop, ro_eC]
        rw [hRES]
        exact Wk.refl _
  · rw [if_pos a0] at hRES
    rw [decide_eq_false a0] at k0
    simp only [eA_eC, fA_fC] at *
    simp -implicitDefEqProofs [go_sem, q1, q3, q4]
    refine goC_pure _ k0 (by simp -implicitDefEqProofs [go_sem, q5]) ?_
    simp -implicitDefEqProofs [go_sem, rop]
    rw [hRES]
    exact hW 1
set_option maxHeartbeats 16000000 in
theorem eend_pure (p u : PQ) (s : SR) (hp : p.sz ≤ 1) (hu : u.sz ≤ 10) (hs : s.Sml) : Pure Tryz.prog 20 [eA p, eA u, stA s] (etA (endQ p u s)) := by
  have hh := hs.h
  have zt := hs.tol.sz
  have k0 := emay_pure s
  have d1 := edot_pure u u (by omega) (by omega)
  have d2 := fsign_pure (u.dot u)
  have d3 := sgnQ_eq (x := u.dot u)
  rw [dot0] at d3
  have k3 := ehalf_pure s hs
  have kr := eround_pure p s.h s.tol.val (by omega) (by omega) (by omega)
  have kf := fun (h0 : 0 < s.h) (ht : 0 < s.tol.val) (hu0 : u ≠ ⟨0, 0⟩) => efit_pure u s.h s.tol.val (by omega) hu0 (by omega) h0 (by omega) ht
  have hfs := fun n k (hf : fitQ u s.h s.tol.val = some (n, k)) => fit_sz hf (by omega) (by omega)
  refine Pure.of_ca (ro_etA _) (CA.of_go mixed Tryz.func20 rfl (rs := [.cell 6 54]) rfl (by kernel_rfl) ?_)
  obtain ⟨RES, hRES⟩ : ∃ R, R = etA (endQ p u s) := ⟨_, rfl⟩
  rw [← hRES]
  unfold endQ sqQ at hRES
  have hW : ∀ e : Int, Wk (.agg [.sl 0 true [], .int .i64 e]) (etA ([], e)) := et_nil
  have hc0 : mayC s → 0 ≤ s.cap ∧ s.cap ≤ 2 := fun h => h.2.2
  have hw0 : mayC s → 0 < s.h := fun h => Rat.mul_pos h.1 half_pos
  have ht0 : mayC s → 0 < s.tol.val := fun h => h.2.1
  unfold stA at *
  generalize s.h = h at *
  generalize s.tol.val = tol at *
  generalize s.width.val = w at *
  generalize s.miter.val = m at *
  generalize s.cap = C at *
  generalize s.join = J at *
  have hC : ∀ c : Int, c = c := fun _ => rfl
  clear hC
  generalize sgnQ (u.dot u) = g1 at *
  generalize u.dot u = uu at *
  by_cases a0 : mayC s
  · rw [if_neg (fun h => h a0)] at hRES
    rw [decide_eq_true a0] at k0
    have h0 := hw0 a0
    have t0 := ht0 a0
    have c0 := hc0 a0
    clear hw0 ht0 hc0
    by_cases a1 : u = ⟨0, 0⟩
    · rw [if_pos a1] at hRES
      have q1 : (stC w m tol C J).length = 11 := rfl
      have q2 : (stC w m tol C J).drop 8 = fC tol := rfl
      have q3 : (stC w m tol C J).take 11 = stC w m tol C J := rfl
      have q4 : (stC w m tol C J).drop 11 = [] := rfl
      have q6 : (stC w m tol C J).drop 6 = .int .i64 C :: (stC w m tol C J).drop 7 := rfl
      have q5 := ro_stC w m tol C J
      generalize stC w m tol C J = S at *
      simp only [eA_eC, fA_fC] at *
      simp -implicitDefEqProofs [go_sem, q1, q3, q4]
      refine goC_pure _ k0 (by simp -implicitDefEqProofs [go_sem, q5]) ?_
      simp -implicitDefEqProofs [go_sem, q1, q3, q4]
      refine goC_pure _ d1 (by simp -implicitDefEqProofs [go_sem, ro_eC]) ?_
      simp -implicitDefEqProofs [go_sem]
      refine goC_pure _ d2 (by simp -implicitDefEqProofs [go_sem, ro_fC]) ?_
      simp -implicitDefEqProofs [go_sem, d3.2 a1, rop]
      rw [hRES]
      exact hW 12
    have a1' : ¬ g1 = 0 := fun h => a1 (d3.1 h)
    rw [if_neg a1] at hRES
    have kf := kf h0 t0 a1
    rcases (show C = 0 ∨ C = 1 ∨ C = 2 by omega) with rfl | rfl | rfl
    · rw [if_pos rfl] at hRES
      have q1 : (stC w m tol 0 J).length = 11 := rfl
      have q2 : (stC w m tol 0 J).drop 8 = fC tol := rfl
      have q3 : (stC w m tol 0 J).take 11 = stC w m tol 0 J := rfl
      have q4 : (stC w m tol 0 J).drop 11 = [] := rfl
      have q6 : (stC w m tol 0 J).drop 6 = .int .i64 0 :: (stC w m tol 0 J).drop 7 := rfl
      have q5 := ro_stC w m tol 0 J
      generalize stC w m tol 0 J = S at *
      simp only [eA_eC, fA_fC] at *
      simp -implicitDefEqProofs [go_sem, q1, q3, q4]
      refine goC_pure _ k0 (by simp -implicitDefEqProofs [go_sem, q5]) ?_
      simp -implicitDefEqProofs [go_sem, q1, q3, q4]
      refine goC_pure _ d1 (by simp -implicitDefEqProofs [go_sem, ro_eC]) ?_
      simp -implicitDefEqProofs [go_sem]
      refine goC_pure _ d2 (by simp -implicitDefEqProofs [go_sem, ro_fC]) ?_
      simp -implicitDefEqProofs [go_sem, a1', q1, q2, q3, q4, q6, rop]
      rw [hRES]
      exact hW 0
    · rw [if_neg (by decide), if_pos rfl] at hRES
      have q1 : (stC w m tol 1 J).length = 11 := rfl
      have q2 : (stC w m tol 1 J).drop 8 = fC tol := rfl
      have q3 : (stC w m tol 1 J).take 11 = stC w m tol 1 J := rfl
      have q4 : (stC w m tol 1 J).drop 11 = [] := rfl
      have q6 : (stC w m tol 1 J).drop 6 = .int .i64 1 :: (stC w m tol 1 J).drop 7 := rfl
      have q5 := ro_stC w m tol 1 J
      generalize stC w m tol 1 J = S at *
      cases hf : fitQ u h tol with
      | none =>
        rw [hf] at hRES kf
        unfold gfA at kf
        simp only at kf
        simp only [eA_eC, fA_fC] at *
        simp -implicitDefEqProofs [go_sem, q1, q3, q4]
        refine goC_pure _ k0 (by simp -implicitDefEqProofs [go_sem, q5]) ?_
        simp -implicitDefEqProofs [go_sem, q1, q3, q4]
        refine goC_pure _ d1 (by simp -implicitDefEqProofs [go_sem, ro_eC]) ?_
        simp -implicitDefEqProofs [go_sem]
        refine goC_pure _ d2 (by simp -implicitDefEqProofs [go_sem, ro_fC]) ?_
        simp -implicitDefEqProofs [go_sem, a1', q1, q2, q3, q4, q6]
        refine goD_pure _ k3 (by simp -implicitDefEqProofs [go_sem, q5]) ?_
        simp -implicitDefEqProofs [go_sem, q1, q2, q3, q4]
        refine goD_pure _ kf (by simp -implicitDefEqProofs [go_sem, ro_eC, ro_fC]) ?_
        simp -implicitDefEqProofs [go_sem, rop]
        rw [hRES]
        exact hW 24
      | some x =>
        obtain ⟨n, k⟩ := x
        have zn := hfs n k hf
        rw [hf] at hRES kf
        unfold gfA at kf
        simp only at kf hRES
        have e1 : ∀ (n : PQ) (a b : AV), List.drop 7 (eC n ++ [a, b]) = [b] := fun _ _ _ => rfl
        have e2 : ∀ (n : PQ) (a b : AV), List.take 8 (eC n ++ [a, b]) = eC n ++ [a, b] := fun _ _ _ => rfl
        have e3 : ∀ (n : PQ) (a b : AV), (eC n ++ [a, b]).length = 8 := fun _ _ _ => rfl
        have e4 : ∀ (n : PQ) (a b : AV), List.take 6 (eC n ++ [a, b]) = eC n := fun _ _ _ => rfl
        have e5 : ∀ (n : PQ) (a b : AV), List.drop 8 (eC n ++ [a, b]) = [] := fun _ _ _ => rfl
        have e6 : ∀ (n : PQ) (a b : AV), List.take 3 (eC n ++ [a, b]) = fC n.x := fun _ _ _ => rfl
        have e7 : ∀ (n : PQ) (a b : AV), List.take 3 (List.drop 3 (eC n ++ [a, b])) = fC n.y := fun _ _ _ => rfl
        have hnx : sz n.x ≤ 7261 := Nat.le_trans (Nat.le_max_left _ _) zn
        have hny : sz n.y ≤ 7261 := Nat.le_trans (Nat.le_max_right _ _) zn
        have zm : PQ.sz ⟨n.y, -n.x⟩ ≤ 7261 := Nat.max_le.2 ⟨hny, by rw [sz_neg]; exact hnx⟩
        have r1 := fminus_pure n.x
        have r2 := esub_pure p n (by omega) (by omega)
        have r3 := eadd_pure p n (by omega) (by omega)
        have y2 := PQ.sz_sub p n
        have y3 := PQ.sz_add p n
        have r4 := eadd_pure (p.sub n) ⟨n.y, -n.x⟩ (by omega) (by omega)
        have r5 := eadd_pure (p.add n) ⟨n.y, -n.x⟩ (by omega) (by omega)
        have hE : eA ⟨n.y, -n.x⟩ = .agg (fC n.y ++ fC (-n.x)) := rfl
        rw [hE] at r4 r5
        have f1 : (p.add ⟨n.y, -n.x⟩).sub n = (p.sub n).add ⟨n.y, -n.x⟩ := PQ.ext (by unfold PQ.add PQ.sub; simp only; grind) (by unfold PQ.add PQ.sub; simp only; grind)
        have f2 : (p.add ⟨n.y, -n.x⟩).add n = (p.add n).add ⟨n.y, -n.x⟩ := PQ.ext (by unfold PQ.add; simp only; grind) (by unfold PQ.add; simp only; grind)
        unfold besideQ at hRES
        rw [f1, f2] at hRES
        clear f1 f2 hE
        generalize (p.sub n).add ⟨n.y, -n.x⟩ = P2 at *
        generalize (p.add n).add ⟨n.y, -n.x⟩ = P3 at *
        generalize p.sub n = P1 at *
        generalize p.add n = P4 at *
        generalize -n.x = nx at *
        unfold etA eL at hRES
        simp only [List.map_cons, List.map_nil] at hRES
        simp only [eA_eC, fA_fC] at *
        simp -implicitDefEqProofs [go_sem, q1, q3, q4]
        refine goC_pure _ k0 (by simp -implicitDefEqProofs [go_sem, q5]) ?_
        simp -implicitDefEqProofs [go_sem, q1, q3, q4]
        refine goC_pure _ d1 (by simp -implicitDefEqProofs [go_sem, ro_eC]) ?_
        simp -implicitDefEqProofs [go_sem]
        refine goC_pure _ d2 (by simp -implicitDefEqProofs [go_sem, ro_fC]) ?_
        simp -implicitDefEqProofs [go_sem, a1', q1, q2, q3, q4, q6]
        refine goD_pure _ k3 (by simp -implicitDefEqProofs [go_sem, q5]) ?_
        simp -implicitDefEqProofs [go_sem, q1, q2, q3, q4]
        refine goD_pure _ kf (by simp -implicitDefEqProofs [go_sem, ro_eC, ro_fC, roL_append]) ?_
        simp -implicitDefEqProofs [go_sem, e1, e2, e3, e4, e5, e6, e7]
        refine goD_pure _ r1 (by simp -implicitDefEqProofs [go_sem, ro_fC]) ?_
        simp -implicitDefEqProofs [go_sem, e1, e2, e3, e4, e5, e6, e7]
        refine goD_pure _ r2 (by simp -implicitDefEqProofs [go_sem, ro_eC]) ?_
        simp -implicitDefEqProofs [go_sem, e1, e2, e3, e4, e5, e6, e7]
        refine goD_pure _ r3 (by simp -implicitDefEqProofs [go_sem, ro_eC]) ?_
        have t6 : ∀ a b : Rat, List.take 6 (fC a ++ fC b) = fC a ++ fC b := fun _ _ => rfl
        have t7 : ∀ a b : Rat, roL (fC a ++ fC b) := fun a b => roL_append.2 ⟨ro_fC a, ro_fC b⟩
        simp -implicitDefEqProofs [go_sem, t6, t7]
        refine goD_pure _ r4 (by simp -implicitDefEqProofs [go_sem, ro_eC, t6, t7]) ?_
        simp -implicitDefEqProofs [go_sem, t6, t7]
        refine goD_pure _ r5 (by simp -implicitDefEqProofs [go_sem, ro_eC, t6, t7]) ?_
        simp -implicitDefEqProofs [go_sem, rop, ro_eC]
        rw [hRES]
        exact Wk.refl _
    · rw [if_neg (by decide), if_neg (by decide)] at hRES
      have q1 : (stC w m tol 2 J).length = 11 := rfl
      have q2 : (stC w m tol 2 J).drop 8 = fC tol := rfl
      have q3 : (stC w m tol 2 J).take 11 = stC w m tol 2 J := rfl
      have q4 : (stC w m tol 2 J).drop 11 = [] := rfl
      have q6 : (stC w m tol 2 J).drop 6 = .int .i64 2 :: (stC w m tol 2 J).drop 7 := rfl
      have q5 := ro_stC w m tol 2 J
      generalize stC w m tol 2 J = S at *
      generalize rnd p h tol = RN at *
      unfold etA at hRES
      unfold eL at hRES kr
      simp only [eA_eC, fA_fC] at *
      simp -implicitDefEqProofs [go_sem, q1, q3, q4]
      refine goC_pure _ k0 (by simp -implicitDefEqProofs [go_sem, q5]) ?_
      simp -implicitDefEqProofs [go_sem, q1, q3, q4]
      refine goC_pure _ d1 (by simp -implicitDefEqProofs [go_sem, ro_eC]) ?_
      simp -implicitDefEqProofs [go_sem]
      refine goC_pure _ d2 (by simp -implicitDefEqProofs [go_sem, ro_fC]) ?_
      simp -implicitDefEqProofs [go_sem, a1', q1, q2, q3, q4, q6]
      refine goD_pure _ k3 (by simp -implicitDefEqProofs [go_sem, q5]) ?_
      simp -implicitDefEqProofs [go_sem, q1, q2, q3, q4]
      refine goD_pure _ kr (by simp -implicitDefEqProofs [go_sem, ro_eC, ro_fC]) ?_
      simp -implicitDefEqProofs [go_sem, rop, ro_eC]
      rw [hRES]
      exact Wk.refl _
  · rw [if_pos a0] at hRES
    rw [decide_eq_false a0] at k0
    have q1 : (stC w m tol C J).length = 11 := rfl
    have q2 : (stC w m tol C J).drop 8 = fC tol := rfl
    have q3 : (stC w m tol C J).take 11 = stC w m tol C J := rfl
    have q4 : (stC w m tol C J).drop 11 = [] := rfl
    have q6 : (stC w m tol C J).drop 6 = .int .i64 C :: (stC w m tol C J).drop 7 := rfl
    have q5 := ro_stC w m tol C J
    generalize stC w m tol C J = S at *
    simp only [eA_eC, fA_fC] at *
    simp -implicitDefEqProofs [go_sem, q1, q3, q4]
    refine goC_pure _ k0 (by simp -implicitDefEqProofs [go_sem, q5]) ?_
    simp -implicitDefEqProofs [go_sem, rop]
    rw [hRES]
    exact hW 1
set_option maxHeartbeats 16000000 in
theorem ecdot_pure (p : PQ) (s : SR) (hp : p.sz ≤ 1) (hs : s.Sml) : Pure Tryz.prog 21 [eA p, stA s] (etA (dotQ p s)) := by
  have hh := hs.h
  have zt := hs.tol.sz
  have k0 := emay_pure s
  have k3 := ehalf_pure s hs
  have kr := eround_pure p s.h s.tol.val (by omega) (by omega) (by omega)
  have km := fminus_pure s.h
  have zmm : sz (-s.h) ≤ 1 := by rw [sz_neg]; exact hh
  have zz : ∀ a b : Rat, sz a ≤ 1 → sz b ≤ 1 → PQ.sz ⟨a, b⟩ ≤ 1 := fun a b h1 h2 => Nat.max_le.2 ⟨h1, h2⟩
  have p1 := eadd_pure p ⟨-s.h, -s.h⟩ (by omega) (Nat.le_trans (zz _ _ zmm zmm) (by omega))
  have p2 := eadd_pure p ⟨s.h, -s.h⟩ (by omega) (Nat.le_trans (zz _ _ hh zmm) (by omega))
  have p3 := eadd_pure p ⟨s.h, s.h⟩ (by omega) (Nat.le_trans (zz _ _ hh hh) (by omega))
  have p4 := eadd_pure p ⟨-s.h, s.h⟩ (by omega) (Nat.le_trans (zz _ _ zmm hh) (by omega))
  have hE : ∀ a b : Rat, eA ⟨a, b⟩ = .agg (fC a ++ fC b) := fun _ _ => rfl
  rw [hE] at p1 p2 p3 p4
  have f1 : (p.sub ⟨s.h, 0⟩).sub ⟨0, s.h⟩ = p.add ⟨-s.h, -s.h⟩ := PQ.ext (by unfold PQ.add PQ.sub; simp only; grind) (by unfold PQ.add PQ.sub; simp only; grind)
  have f2 : (p.add ⟨s.h, 0⟩).sub ⟨0, s.h⟩ = p.add ⟨s.h, -s.h⟩ := PQ.ext (by unfold PQ.add PQ.sub; simp only; grind) (by unfold PQ.add PQ.sub; simp only; grind)
  have f3 : (p.add ⟨s.h, 0⟩).add ⟨0, s.h⟩ = p.add ⟨s.h, s.h⟩ := PQ.ext (by unfold PQ.add; simp only; grind) (by unfold PQ.add; simp only; grind)
  have f4 : (p.sub ⟨s.h, 0⟩).add ⟨0, s.h⟩ = p.add ⟨-s.h, s.h⟩ := PQ.ext (by unfold PQ.add PQ.sub; simp only; grind) (by unfold PQ.add PQ.sub; simp only; grind)
  refine Pure.of_ca (ro_etA _) (CA.of_go mixed Tryz.func21 rfl (rs := [.cell 4 54]) rfl (by kernel_rfl) ?_)
  obtain ⟨RES, hRES⟩ : ∃ R, R = etA (dotQ p s) := ⟨_, rfl⟩
  rw [← hRES]
  unfold dotQ besideQ at hRES
  rw [f1, f2, f3, f4] at hRES
  clear f1 f2 f3 f4 hE zz
  generalize p.add ⟨-s.h, -s.h⟩ = P1 at *
  generalize p.add ⟨s.h, -s.h⟩ = P2 at *
  generalize p.add ⟨s.h, s.h⟩ = P3 at *
  generalize p.add ⟨-s.h, s.h⟩ = P4 at *
  generalize -s.h = mh at *
  have t6 : ∀ a b : Rat, List.take 6 (fC a ++ fC b) = fC a ++ fC b := fun _ _ => rfl
  have t7 : ∀ a b : Rat, roL (fC a ++ fC b) := fun a b => roL_append.2 ⟨ro_fC a, ro_fC b⟩
  have hW : ∀ e : Int, Wk (.agg [.sl 0 true [], .int .i64 e]) (etA ([], e)) := et_nil
  have hc0 : mayC s → 0 ≤ s.cap ∧ s.cap ≤ 2 := fun h => h.2.2
  unfold stA at *
  generalize s.h = h at *
  generalize s.tol.val = tol at *
  generalize s.width.val = w at *
  generalize s.miter.val = m at *
  generalize s.cap = C at *
  generalize s.join = J at *
  by_cases a0 : mayC s
  · rw [if_neg (fun h => h a0)] at hRES
    rw [decide_eq_true a0] at k0
    have c0 := hc0 a0
    clear hc0
    rcases (show C = 0 ∨ C = 1 ∨ C = 2 by omega) with rfl | rfl | rfl
    · rw [if_neg (by decide), if_neg (by decide)] at hRES
      have q1 : (stC w m tol 0 J).length = 11 := rfl
      have q2 : (stC w m tol 0 J).drop 8 = fC tol := rfl
      have q3 : (stC w m tol 0 J).take 11 = stC w m tol 0 J := rfl
      have q4 : (stC w m tol 0 J).drop 11 = [] := rfl
      have q6 : (stC w m tol 0 J).drop 6 = .int .i64 0 :: (stC w m tol 0 J).drop 7 := rfl
      have q5 := ro_stC w m tol 0 J
      generalize stC w m tol 0 J = S at *
      simp only [eA_eC, fA_fC] at *
      simp -implicitDefEqProofs [go_sem, q1, q3, q4]
      refine goC_pure _ k0 (by simp -implicitDefEqProofs [go_sem, q5]) ?_
      simp -implicitDefEqProofs [go_sem, q1, q3, q4]
      refine goC_pure _ k3 (by simp -implicitDefEqProofs [go_sem, q5]) ?_
      simp -implicitDefEqProofs [go_sem, q1, q2, q3, q4, q6, rop]
      rw [hRES]
      exact hW 0
    · rw [if_pos rfl] at hRES
      have q1 : (stC w m tol 1 J).length = 11 := rfl
      have q2 : (stC w m tol 1 J).drop 8 = fC tol := rfl
      have q3 : (stC w m tol 1 J).take 11 = stC w m tol 1 J := rfl
      have q4 : (stC w m tol 1 J).drop 11 = [] := rfl
      have q6 : (stC w m tol 1 J).drop 6 = .int .i64 1 :: (stC w m tol 1 J).drop 7 := rfl
      have q5 := ro_stC w m tol 1 J
      generalize stC w m tol 1 J = S at *
      unfold etA eL at hRES
      simp only [List.map_cons, List.map_nil] at hRES
      simp only [eA_eC, fA_fC] at *
      simp -implicitDefEqProofs [go_sem, q1, q3, q4]
      refine goC_pure _ k0 (by simp -implicitDefEqProofs [go_sem, q5]) ?_
      simp -implicitDefEqProofs [go_sem, q1, q3, q4]
      refine goC_pure _ k3 (by simp -implicitDefEqProofs [go_sem, q5]) ?_
      simp -implicitDefEqProofs [go_sem, q1, q2, q3, q4, q6]
      refine goC_pure _ km (by simp -implicitDefEqProofs [go_sem, ro_fC]) ?_
      simp -implicitDefEqProofs [go_sem, t6, t7]
      refine goD_pure _ p1 (by simp -implicitDefEqProofs [go_sem, ro_eC, t6, t7]) ?_
      simp -implicitDefEqProofs [go_sem, t6, t7]
      refine goD_pure _ p2 (by simp -implicitDefEqProofs [go_sem, ro_eC, t6, t7]) ?_
      simp -implicitDefEqProofs [go_sem, t6, t7]
      refine goD_pure _ p3 (by simp -implicitDefEqProofs [go_sem, ro_eC, t6, t7]) ?_
      simp -implicitDefEqProofs [go_sem, t6, t7]
      refine goD_pure _ p4 (by simp -implicitDefEqProofs [go_sem, ro_eC, t6, t7]) ?_
      simp -implicitDefEqProofs [go_sem, rop, ro_eC]
      rw [hRES]
      exact Wk.refl _
    · rw [if_neg (by decide), if_pos rfl] at hRES
      have q1 : (stC w m tol 2 J).length = 11 := rfl
      have q2 : (stC w m tol 2 J).drop 8 = fC tol := rfl
      have q3 : (stC w m tol 2 J).take 11 = stC w m tol 2 J := rfl
      have q4 : (stC w m tol 2 J).drop 11 = [] := rfl
      have q6 : (stC w m tol 2 J).drop 6 = .int .i64 2 :: (stC w m tol 2 J).drop 7 := rfl
      have q5 := ro_stC w m tol 2 J
      generalize stC w m tol 2 J = S at *
      generalize rnd p h tol = RN at *
      unfold etA at hRES
      unfold eL at hRES kr
      simp only [eA_eC, fA_fC] at *
      simp -implicitDefEqProofs [go_sem, q1, q3, q4]
      refine goC_pure _ k0 (by simp -implicitDefEqProofs [go_sem, q5]) ?_
      simp -implicitDefEqProofs [go_sem, q1, q3, q4]
      refine goC_pure _ k3 (by simp -implicitDefEqProofs [go_sem, q5]) ?_
      simp -implicitDefEqProofs [go_sem, q1, q2, q3, q4, q6]
      refine goC_pure _ kr (by simp -implicitDefEqProofs [go_sem, ro_eC, ro_fC]) ?_
      simp -implicitDefEqProofs [go_sem, rop, ro_eC]
      rw [hRES]
      exact Wk.refl _
  · rw [if_pos a0] at hRES
    rw [decide_eq_false a0] at k0
    have q1 : (stC w m tol C J).length = 11 := rfl
    have q2 : (stC w m tol C J).drop 8 = fC tol := rfl
    have q3 : (stC w m tol C J).take 11 = stC w m tol C J := rfl
    have q4 : (stC w m tol C J).drop 11 = [] := rfl
    have q6 : (stC w m tol C J).drop 6 = .int .i64 C :: (stC w m tol C J).drop 7 := rfl
    have q5 := ro_stC w m tol C J
    generalize stC w m tol C J = S at *
    simp only [eA_eC, fA_fC] at *
    simp -implicitDefEqProofs [go_sem, q1, q3, q4]
    refine goC_pure _ k0 (by simp -implicitDefEqProofs [go_sem, q5]) ?_
    simp -implicitDefEqProofs [go_sem, rop]
    rw [hRES]
    exact hW 1
set_option maxHeartbeats 16000000 in
theorem cappieces_pure (a b : PR) (s : SR) (ha : a.Lm) (hb : b.Lm) (hs : s.Lm) : Pure Tryz.prog 3 [.agg (a.cs ++ b.cs), s.av] (.bool true) := by
  have hw := cwakes_pure
  obtain ⟨B, hl, hB⟩ := ours_pure a b s ha hb hs
  refine Pure.of_go mixed Tryz.func3 rfl (rs := [.tmp 4]) rfl (by kernel_rfl) (by simp -implicitDefEqProofs [go_sem]) ?_
  cases B
  · unfold SR.av SR.cs PR.cs at *
    simp -implicitDefEqProofs [go_sem]
    refine goC_pure _ hl (by simp -implicitDefEqProofs [go_sem]) ?_
    simp -implicitDefEqProofs [go_sem]
    refine goC_pure _ hw (by simp -implicitDefEqProofs [go_sem]) ?_
    simp -implicitDefEqProofs [go_sem]
  · obtain ⟨ia, ib, ks⟩ := hB rfl
    have za := ia.sz
    have zb := ib.sz
    have p1 := end_pure a b s ia ib.mono ks
    have p2 := dot_pure a s ia ks
    have p3 := body_pure a b s ia ib ks
    have e1 := eend_pure a.val b.val s za (by omega) ks
    have e2 := ecdot_pure a.val s za ks
    have e3 := ebody_pure a.val b.val s za zb ks
    have f1 := fine_end (p := a.val) (u := b.val) za (by omega) ks
    have f2 := fine_dot (p := a.val) za ks
    have f3 := fine_body (a := a.val) (b := b.val) za zb ks
    have i1 := ein_pure a ia.mono
    have i2 := ein_pure b ib.mono
    have i3 := estyle_pure s ks
    unfold gotA at p1 p2 p3
    unfold etA at e1 e2 e3
    generalize endQ a.val b.val s = X1 at *
    generalize dotQ a.val s = X2 at *
    generalize bodyQ a.val b.val s = X3 at *
    obtain ⟨l1, n1⟩ := X1
    obtain ⟨l2, n2⟩ := X2
    obtain ⟨l3, n3⟩ := X3
    simp only at p1 p2 p3 e1 e2 e3 f1 f2 f3
    have o1 := eouts_pure l1 (by have := f1.1; omega) (fun p hp => by have := f1.2 p hp; omega)
    have o2 := eouts_pure l2 (by have := f2.1; omega) (fun p hp => by have := f2.2 p hp; omega)
    have o3 := eouts_pure l3 (by have := f3.1; omega) (fun p hp => by have := f3.2 p hp; omega)
    have g1 := lines_self l1 (by have := f1.1; omega) (fun p hp => by have := f1.2 p hp; omega)
    have g2 := lines_self l2 (by have := f2.1; omega) (fun p hp => by have := f2.2 p hp; omega)
    have g3 := lines_self l3 (by have := f3.1; omega) (fun p hp => by have := f3.2 p hp; omega)
    clear f1 f2 f3
    unfold stA at *
    have q1 : (stC s.width.val s.miter.val s.tol.val s.cap s.join).length = 11 := rfl
    have q3 : (stC s.width.val s.miter.val s.tol.val s.cap s.join).take 11 = stC s.width.val s.miter.val s.tol.val s.cap s.join := rfl
    have q4 : (stC s.width.val s.miter.val s.tol.val s.cap s.join).drop 11 = [] := rfl
    have q5 := ro_stC s.width.val s.miter.val s.tol.val s.cap s.join
    generalize stC s.width.val s.miter.val s.tol.val s.cap s.join = S at *
    have q6 := viewL_ro (fun _ => BS.fresh) _ q5
    unfold pL eL at *
    simp only [eA_eC, fA_fC] at *
    unfold SR.av SR.cs PR.av PR.cs at *
    simp -implicitDefEqProofs [go_sem]
    refine goC_pure _ hl (by simp -implicitDefEqProofs [go_sem]) ?_
    simp -implicitDefEqProofs [go_sem]
    refine goD_pure _ i1 (by simp -implicitDefEqProofs [go_sem]) ?_
    simp -implicitDefEqProofs [go_sem]
    refine goD_pure _ i2 (by simp -implicitDefEqProofs [go_sem]) ?_
    simp -implicitDefEqProofs [go_sem]
    refine goD_pure _ i3 (by simp -implicitDefEqProofs [go_sem]) ?_
    simp -implicitDefEqProofs [go_sem, q1, q3, q4]
    refine goC_pure _ p1 (by simp -implicitDefEqProofs [go_sem]) ?_
    simp -implicitDefEqProofs [go_sem, q1, q3, q4]
    refine goC_pure _ p2 (by simp -implicitDefEqProofs [go_sem]) ?_
    simp -implicitDefEqProofs [go_sem, q1, q3, q4]
    refine goC_pure _ p3 (by simp -implicitDefEqProofs [go_sem]) ?_
    simp -implicitDefEqProofs [go_sem, q1, q3, q4]
    refine goD_pure _ e1 (by simp -implicitDefEqProofs [go_sem, ro_eC, q5]) ?_
    simp -implicitDefEqProofs [go_sem, q1, q3, q4]
    refine goD_pure _ e2 (by simp -implicitDefEqProofs [go_sem, ro_eC, q5]) ?_
    simp -implicitDefEqProofs [go_sem, q1, q3, q4]
    refine goD_pure _ e3 (by simp -implicitDefEqProofs [go_sem, ro_eC, q5]) ?_
    simp -implicitDefEqProofs [go_sem]
    refine goC_pure _ o1 (by simp -implicitDefEqProofs [go_sem]) ?_
    simp -implicitDefEqProofs [go_sem]
    refine goC_pure _ g1 (by simp -implicitDefEqProofs [go_sem]) ?_
    simp -implicitDefEqProofs [go_sem]
    refine goC_pure _ o2 (by simp -implicitDefEqProofs [go_sem]) ?_
    simp -implicitDefEqProofs [go_sem]
    refine goC_pure _ g2 (by simp -implicitDefEqProofs [go_sem]) ?_
    simp -implicitDefEqProofs [go_sem]
    refine goC_pure _ o3 (by simp -implicitDefEqProofs [go_sem]) ?_
    simp -implicitDefEqProofs [go_sem]
    refine goC_pure _ g3 (by simp -implicitDefEqProofs [go_sem]) ?_
    simp -implicitDefEqProofs [go_sem]
    refine goC_pure _ hw (by simp -implicitDefEqProofs [go_sem]) ?_
    simp -implicitDefEqProofs [go_sem]
theorem beside_quad (a b n : PQ) : besideQ a b n = [a.sub n, (a.sub n).add (b.sub a), (a.sub n).add (((b.sub a).add (n.scale 2)).scale 1), (a.sub n).add (n.scale 2)] := by
  have e1 : (a.sub n).add (b.sub a) = b.sub n := PQ.ext (by unfold PQ.add PQ.sub; simp only; grind) (by unfold PQ.add PQ.sub; simp only; grind)
  have e2 : (a.sub n).add (((b.sub a).add (n.scale 2)).scale 1) = b.add n := PQ.ext (by unfold PQ.add PQ.sub PQ.scale; simp only; grind) (by unfold PQ.add PQ.sub PQ.scale; simp only; grind)
  have e3 : (a.sub n).add (n.scale 2) = a.add n := PQ.ext (by unfold PQ.add PQ.sub PQ.scale; simp only; grind) (by unfold PQ.add PQ.sub PQ.scale; simp only; grind)
  rw [e1, e2, e3]; rfl
theorem beside_convex {a b n : PQ} (hX : 0 < (b.sub a).cross n) (z : ∀ q ∈ besideQ a b n, q.sz ≤ 30000) : Pure Tryz.prog 25 [pL (besideQ a b n)] (.bool true) := by
  have e : (b.sub a).cross (n.scale 2) = 2 * (b.sub a).cross n := by unfold PQ.cross PQ.scale; simp only; grind
  have h := beside_quad a b n
  rw [h] at z ⊢
  exact kite_convex (by rw [e]; grind) (by rw [half_eq]; grind) (fun q hq => Nat.le_trans (z q hq) (by omega))
structure Upr (d n : PQ) (h tol : Rat) : Prop where
  dot : d.dot n = 0
  cross : 0 < d.cross n
  le : n.dot n ≤ h * h
  far : h - tol ≤ 0 ∨ (h - tol) * (h - tol) ≤ n.dot n
theorem off_upr {d : PQ} {h tol r : Rat} (hd : d ≠ ⟨0, 0⟩) (o : Off d h tol r) : Upr d (d.rot.scale r) h tol := by
  have e1 : d.dot (d.rot.scale r) = 0 := by unfold PQ.dot PQ.rot PQ.scale; simp only; grind
  have e2 : d.cross (d.rot.scale r) = r * d.dot d := by unfold PQ.cross PQ.dot PQ.rot PQ.scale; simp only; grind
  exact ⟨e1, by rw [e2]; exact Rat.mul_pos o.pos (dot_pos hd), by rw [scale_dot]; exact o.le, by rw [scale_dot]; exact o.far⟩
theorem body_cases {a b : PQ} {s : SR} {l : List PQ} {e : Int} (h : bodyQ a b s = (l, e)) (ha : a.sz ≤ 1) (hb : b.sz ≤ 1) (hs : s.Sml) : (l = [] ∧ e ≠ 0) ∨ ∃ n, l = besideQ a b n ∧ e = 0 ∧ n.sz ≤ 7261 ∧ Upr (b.sub a) n s.h s.tol.val := by
  have hh := hs.h
  unfold bodyQ at h
  split at h
  · injection h with h1 h2; exact .inl ⟨h1.symm, by omega⟩
  split at h
  · injection h with h1 h2; exact .inl ⟨h1.symm, by omega⟩
  · rename_i h1 h2
    cases hf : fitQ (b.sub a) s.h s.tol.val with
    | none => rw [hf] at h; injection h with h1 h2; exact .inl ⟨h1.symm, by omega⟩
    | some x =>
      obtain ⟨n, k⟩ := x
      rw [hf] at h
      simp only at h
      injection h with h3 h4
      have hd : b.sub a ≠ ⟨0, 0⟩ := fun e => h2 (sub_zero.1 e)
      obtain ⟨r, rfl, o⟩ := fit_off hd hf
      have z := PQ.sz_sub b a
      exact .inr ⟨_, h3.symm, h4.symm, fit_sz hf (by omega) (by omega), off_upr hd o⟩
theorem sub_add (a n : PQ) : (a.sub n).add n = a := PQ.ext (by unfold PQ.add PQ.sub; simp only; grind) (by unfold PQ.add PQ.sub; simp only; grind)
theorem add_subr (a n : PQ) : (a.add n).sub n = a := PQ.ext (by unfold PQ.add PQ.sub; simp only; grind) (by unfold PQ.add PQ.sub; simp only; grind)
theorem beside_szs {a b n : PQ} (ha : a.sz ≤ 8000) (hb : b.sz ≤ 8000) (hn : n.sz ≤ 7261) : (a.sub n).sz ≤ 30000 ∧ (b.sub n).sz ≤ 30000 ∧ (b.add n).sz ≤ 30000 ∧ (a.add n).sz ≤ 30000 := by
  have h1 := PQ.sz_sub a n
  have h2 := PQ.sz_sub b n
  have h3 := PQ.sz_add b n
  have h4 := PQ.sz_add a n
  omega
set_option maxHeartbeats 16000000 in
theorem capbodies_pure (a b : PR) (s : SR) (ha : a.Lm) (hb : b.Lm) (hs : s.Lm) : Pure Tryz.prog 4 [.agg (a.cs ++ b.cs), s.av] (.bool true) := by
  have hw := cwakes_pure
  obtain ⟨B, hl, hB⟩ := ours_pure a b s ha hb hs
  refine Pure.of_go mixed Tryz.func4 rfl (rs := [.tmp 4]) rfl (by kernel_rfl) (by simp -implicitDefEqProofs [go_sem]) ?_
  cases B
  · unfold SR.av SR.cs PR.cs at *
    simp -implicitDefEqProofs [go_sem]
    refine goC_pure _ hl (by simp -implicitDefEqProofs [go_sem]) ?_
    simp -implicitDefEqProofs [go_sem]
    refine goC_pure _ hw (by simp -implicitDefEqProofs [go_sem]) ?_
    simp -implicitDefEqProofs [go_sem]
  · obtain ⟨ia, ib, ks⟩ := hB rfl
    have za := ia.sz
    have zb := ib.sz
    have zh := ks.h
    have zt := ks.tol.sz
    have p3 := body_pure a b s ia ib ks
    unfold gotA at p3
    obtain ⟨l, e, hle⟩ : ∃ l e, bodyQ a.val b.val s = (l, e) := ⟨_, _, rfl⟩
    rw [hle] at p3
    rcases body_cases hle za zb ks with ⟨rfl, he⟩ | ⟨n, rfl, rfl, zn, u⟩
    · unfold pL at p3
      unfold SR.av SR.cs PR.av PR.cs at *
      simp -implicitDefEqProofs [go_sem]
      refine goC_pure _ hl (by simp -implicitDefEqProofs [go_sem]) ?_
      simp -implicitDefEqProofs [go_sem]
      refine goC_pure _ p3 (by simp -implicitDefEqProofs [go_sem]) ?_
      simp -implicitDefEqProofs [go_sem, he]
      refine goC_pure _ hw (by simp -implicitDefEqProofs [go_sem]) ?_
      simp -implicitDefEqProofs [go_sem]
    · clear hle
      obtain ⟨z1, z2, z3, z4⟩ := beside_szs (a := a.val) (b := b.val) (by omega) (by omega) zn
      have kc := beside_convex u.cross (fun q hq => by
        simp only [besideQ, List.mem_cons, List.not_mem_nil, or_false] at hq
        rcases hq with rfl | rfl | rfl | rfl <;> assumption)
      have k1 := psub_pure b a ib.mono ia.mono
      have k2 := psub_pure (pc (a.val.add n)) a (pc_in z4).mono ia.mono
      rw [pc_val, add_sub] at k2
      have k3 := rof_pure 1 2 (by omega) (by omega) (by omega)
      rw [← half_eq] at k3
      have zhf := sz_half
      have k4 := rmul_pure s.width (qc half) (ks.width.mono (m := 1000)).sm (qc_sm (by omega))
      rw [qc_val] at k4
      change Pure _ _ [_, rA half] (rA s.h) at k4
      have k5 := rsub_pure (qc s.h) s.tol (qc_sm (by omega)) (ks.tol.mono (m := 1000)).sm
      rw [qc_val] at k5
      change Pure _ _ [rA s.h, _] _ at k5
      have zd := sz_sub s.h s.tol.val
      have k6 := paddq (a.val.sub n) n (by omega) (by omega)
      rw [sub_add] at k6
      have k7 := psame_pure (pc a.val) a (pc_in (n := 1) za).mono ia.mono
      rw [pc_val, decide_eq_true rfl] at k7
      change Pure _ _ [pA a.val, _] _ at k7
      have k8 := paddq (b.val.sub n) n (by omega) (by omega)
      rw [sub_add] at k8
      have k9 := psame_pure (pc b.val) b (pc_in (n := 1) zb).mono ib.mono
      rw [pc_val, decide_eq_true rfl] at k9
      change Pure _ _ [pA b.val, _] _ at k9
      have k10 := psubq (b.val.add n) n (by omega) (by omega)
      rw [add_subr] at k10
      have zdd := PQ.sz_sub b.val a.val
      have k11 := pdot_pure (pc (b.val.sub a.val)) (pc n) (pc_in (n := 1000) (by omega)).mono (pc_in (n := 7261) zn).mono
      rw [pc_val, pc_val, u.dot] at k11
      change Pure _ _ [pA _, pA _] _ at k11
      have k12 := rsignq 0 (by rw [show sz 0 = 1 from by have := sz_int 0; simpa [nl_zero] using this]; omega)
      rw [sgnQ_eq.2 rfl] at k12
      have k13 := pcross_pure (pc (b.val.sub a.val)) (pc n) (pc_in (n := 1000) (by omega)).mono (pc_in (n := 7261) zn).mono
      rw [pc_val, pc_val] at k13
      change Pure _ _ [pA _, pA _] _ at k13
      have k14 := rsignq ((b.val.sub a.val).cross n) (by have := PQ.sz_cross (b.val.sub a.val) n; omega)
      have y14 : ¬ sgnQ ((b.val.sub a.val).cross n) ≤ 0 := by have := sgnQ_gt.2 u.cross; omega
      have k15 := pdot_pure (pc n) (pc n) (pc_in (n := 7261) zn).mono (pc_in (n := 7261) zn).mono
      rw [pc_val] at k15
      change Pure _ _ [pA _, pA _] _ at k15
      have z15 := PQ.sz_dot n n
      have k16 := rmulq s.h s.h (by omega) (by omega)
      have z16 := sz_mul s.h s.h
      have k17 := rcmpq (n.dot n) (s.h * s.h) (by omega) (by omega)
      have y17 : cmpQ (n.dot n) (s.h * s.h) ≤ 0 := cmpQ_le.2 u.le
      have hfar := u.far
      have k18 := rsignq (s.h - s.tol.val) (by omega)
      have y18 := sgnQ_le (x := s.h - s.tol.val)
      have k19 := rmulq (s.h - s.tol.val) (s.h - s.tol.val) (by omega) (by omega)
      have z19 := sz_mul (s.h - s.tol.val) (s.h - s.tol.val)
      have k20 := rcmpq (n.dot n) ((s.h - s.tol.val) * (s.h - s.tol.val)) (by omega) (by omega)
      have y20 := cmpQ_ge (x := n.dot n) (y := (s.h - s.tol.val) * (s.h - s.tol.val))
      generalize cmpQ (n.dot n) ((s.h - s.tol.val) * (s.h - s.tol.val)) = c20 at *
      generalize cmpQ (n.dot n) (s.h * s.h) = c17 at *
      generalize sgnQ (s.h - s.tol.val) = g18 at *
      generalize (s.h - s.tol.val) * (s.h - s.tol.val) = dd at *
      generalize s.h - s.tol.val = dl at *
      generalize s.h * s.h = hh at *
      generalize sgnQ ((b.val.sub a.val).cross n) = g14 at *
      generalize (b.val.sub a.val).cross n = X at *
      generalize n.dot n = nn at *
      clear u
      have g0 : getE [AV.agg (pC (a.val.sub n)), AV.agg (pC (b.val.sub n)), AV.agg (pC (b.val.add n)), AV.agg (pC (a.val.add n))] 0 = .agg (pC (a.val.sub n)) := rfl
      have g1 : getE [AV.agg (pC (a.val.sub n)), AV.agg (pC (b.val.sub n)), AV.agg (pC (b.val.add n)), AV.agg (pC (a.val.add n))] 1 = .agg (pC (b.val.sub n)) := rfl
      have g2 : getE [AV.agg (pC (a.val.sub n)), AV.agg (pC (b.val.sub n)), AV.agg (pC (b.val.add n)), AV.agg (pC (a.val.add n))] 2 = .agg (pC (b.val.add n)) := rfl
      have g3 : getE [AV.agg (pC (a.val.sub n)), AV.agg (pC (b.val.sub n)), AV.agg (pC (b.val.add n)), AV.agg (pC (a.val.add n))] 3 = .agg (pC (a.val.add n)) := rfl
      generalize b.val.sub a.val = d at *
      generalize s.h = h at *
      have e3 : ∀ q : PQ, (pc q).av = .agg (pC q) := fun _ => rfl
      simp only [e3] at k2
      unfold besideQ pL at *
      simp only [List.map_cons, List.map_nil, rA_rC, pA_pC] at *
      unfold SR.av SR.cs PR.av PR.cs RQ.av at *
      simp -implicitDefEqProofs [go_sem]
      refine goC_pure _ hl (by simp -implicitDefEqProofs [go_sem]) ?_
      simp -implicitDefEqProofs [go_sem]
      refine goC_pure _ p3 (by simp -implicitDefEqProofs [go_sem]) ?_
      simp -implicitDefEqProofs [go_sem]
      refine goC_pure _ kc (by simp -implicitDefEqProofs [go_sem, ro_pC]) ?_
      simp -implicitDefEqProofs [go_sem, g0, g1, g2, g3]
      refine goD_pure _ k1 (by simp -implicitDefEqProofs [go_sem]) ?_
      simp -implicitDefEqProofs [go_sem, g0, g1, g2, g3]
      refine goD_pure _ k2 (by simp -implicitDefEqProofs [go_sem, ro_pC]) ?_
      simp -implicitDefEqProofs [go_sem, g0, g1, g2, g3]
      refine goD_pure _ k3 (by simp -implicitDefEqProofs [go_sem]) ?_
      simp -implicitDefEqProofs [go_sem, g0, g1, g2, g3]
      refine goD_pure _ k4 (by simp -implicitDefEqProofs [go_sem, ro_rC]) ?_
      simp -implicitDefEqProofs [go_sem]
      refine goC_pure _ k5 (by simp -implicitDefEqProofs [go_sem, ro_rC]) ?_
      simp -implicitDefEqProofs [go_sem, g0, g1, g2, g3]
      refine goD_pure _ k6 (by simp -implicitDefEqProofs [go_sem, ro_pC]) ?_
      simp -implicitDefEqProofs [go_sem, g0, g1, g2, g3]
      refine goD_pure _ k7 (by simp -implicitDefEqProofs [go_sem, ro_pC]) ?_
      simp -implicitDefEqProofs [go_sem, g0, g1, g2, g3]
      refine goD_pure _ k8 (by simp -implicitDefEqProofs [go_sem, ro_pC]) ?_
      simp -implicitDefEqProofs [go_sem, g0, g1, g2, g3]
      refine goD_pure _ k9 (by simp -implicitDefEqProofs [go_sem, ro_pC]) ?_
      simp -implicitDefEqProofs [go_sem, g0, g1, g2, g3]
      refine goD_pure _ k10 (by simp -implicitDefEqProofs [go_sem, ro_pC]) ?_
      simp -implicitDefEqProofs [go_sem, g0, g1, g2, g3]
      refine goD_pure _ k9 (by simp -implicitDefEqProofs [go_sem, ro_pC]) ?_
      simp -implicitDefEqProofs [go_sem]
      refine goD_pure _ k11 (by simp -implicitDefEqProofs [go_sem, ro_pC]) ?_
      simp -implicitDefEqProofs [go_sem]
      refine goD_pure _ k12 (by simp -implicitDefEqProofs [go_sem, ro_rC]) ?_
      simp -implicitDefEqProofs [go_sem]
      refine goD_pure _ k13 (by simp -implicitDefEqProofs [go_sem, ro_pC]) ?_
      simp -implicitDefEqProofs [go_sem]
      refine goD_pure _ k14 (by simp -implicitDefEqProofs [go_sem, ro_rC]) ?_
      simp -implicitDefEqProofs [go_sem, y14]
      refine goC_pure _ k15 (by simp -implicitDefEqProofs [go_sem, ro_pC]) ?_
      simp -implicitDefEqProofs [go_sem]
      refine goD_pure _ k16 (by simp -implicitDefEqProofs [go_sem, ro_rC]) ?_
      simp -implicitDefEqProofs [go_sem]
      refine goD_pure _ k17 (by simp -implicitDefEqProofs [go_sem, ro_rC]) ?_
      simp -implicitDefEqProofs [go_sem, y17]
      refine goD_pure _ k18 (by simp -implicitDefEqProofs [go_sem, ro_rC]) ?_
      by_cases b1 : dl ≤ 0
      · simp -implicitDefEqProofs [go_sem, y18.2 b1]
        refine goD_pure _ hw (by simp -implicitDefEqProofs [go_sem]) ?_
        simp -implicitDefEqProofs [go_sem]
      · have b1' : ¬ g18 ≤ 0 := fun h => b1 (y18.1 h)
        have b2 : 0 ≤ c20 := y20.2 (hfar.resolve_left b1)
        simp -implicitDefEqProofs [go_sem, b1']
        refine goD_pure _ k19 (by simp -implicitDefEqProofs [go_sem, ro_rC]) ?_
        simp -implicitDefEqProofs [go_sem]
        refine goD_pure _ k20 (by simp -implicitDefEqProofs [go_sem, ro_rC]) ?_
        simp -implicitDefEqProofs [go_sem, b2]
        refine goD_pure _ hw (by simp -implicitDefEqProofs [go_sem]) ?_
        simp -implicitDefEqProofs [go_sem]
structure Sqr (d n e : PQ) : Prop where
  eq : n.dot n = e.dot e
  ne : n.dot e = 0
  along : 0 < e.dot d
  par : d.cross e = 0
  turn : 0 < e.cross n
theorem off_sqr {d : PQ} {r : Rat} (hd : d ≠ ⟨0, 0⟩) (hr : 0 < r) {n : PQ} (hn : n = d.rot.scale r) : Sqr d n ⟨n.y, -n.x⟩ := by
  have hp := dot_pos hd
  have e1 : (⟨n.y, -n.x⟩ : PQ) = d.scale r := by rw [hn]; exact PQ.ext (by unfold PQ.rot PQ.scale; simp only) (by unfold PQ.rot PQ.scale; simp only; grind)
  rw [e1, hn]
  have e2 : (d.scale r).dot d = r * d.dot d := by unfold PQ.dot PQ.scale; simp only; grind
  have e3 : (d.scale r).cross (d.rot.scale r) = r * r * d.dot d := by unfold PQ.dot PQ.scale PQ.cross PQ.rot; simp only; grind
  exact ⟨by unfold PQ.dot PQ.rot PQ.scale; simp only; grind, by unfold PQ.dot PQ.rot PQ.scale; simp only; grind, by rw [e2]; exact Rat.mul_pos hr hp, by unfold PQ.cross PQ.scale; simp only; grind, by rw [e3]; exact Rat.mul_pos (Rat.mul_pos hr hr) hp⟩
theorem end_cases {p u : PQ} {s : SR} {l : List PQ} {e : Int} (h : endQ p u s = (l, e)) (hp : p.sz ≤ 1) (hu : u.sz ≤ 3) (hs : s.Sml) : (l = [] ∧ e ≠ 0) ∨ e = 0 ∧ mayC s ∧ u ≠ ⟨0, 0⟩ ∧ ((s.cap = 0 ∧ l = []) ∨ (s.cap = 2 ∧ rnd p s.h s.tol.val = (l, 0)) ∨ s.cap = 1 ∧ ∃ n, l = besideQ p (p.add ⟨n.y, -n.x⟩) n ∧ n.sz ≤ 7261 ∧ Sqr u n ⟨n.y, -n.x⟩) := by
  have hh := hs.h
  unfold endQ at h
  split at h
  · injection h with h1 h2; exact .inl ⟨h1.symm, by omega⟩
  rename_i hm
  have hm := Classical.not_not.1 hm
  split at h
  · injection h with h1 h2; exact .inl ⟨h1.symm, by omega⟩
  rename_i hu0
  split at h
  · rename_i hc; injection h with h1 h2; exact .inr ⟨h2.symm, hm, hu0, .inl ⟨hc, h1.symm⟩⟩
  split at h
  · rename_i hc
    unfold sqQ at h
    cases hf : fitQ u s.h s.tol.val with
    | none => rw [hf] at h; injection h with h1 h2; exact .inl ⟨h1.symm, by omega⟩
    | some x =>
      obtain ⟨n, k⟩ := x
      rw [hf] at h
      simp only at h
      injection h with h3 h4
      obtain ⟨r, hr, o⟩ := fit_off hu0 hf
      exact .inr ⟨h4.symm, hm, hu0, .inr (.inr ⟨hc, n, h3.symm, fit_sz hf (by omega) (by omega), off_sqr hu0 o.pos hr⟩)⟩
  · rename_i hc0 hc1
    have hc2 : s.cap = 2 := by have := hm.2.2; omega
    rcases rnd_cases p s.h s.tol.val with ⟨k1, k2⟩ | ⟨j, _, _, _, _, k⟩
    · rw [h] at k1 k2; exact .inl ⟨k1, k2⟩
    · rw [k] at h
      injection h with h1 h2
      exact .inr ⟨h2.symm, hm, hu0, .inr (.inl ⟨hc2, by rw [k, h1]⟩)⟩
set_option maxHeartbeats 32000000 in
theorem capends_pure (a b : PR) (s : SR) (ha : a.Lm) (hb : b.Lm) (hs : s.Lm) : Pure Tryz.prog 5 [.agg (a.cs ++ b.cs), s.av] (.bool true) := by
  have hw := cwakes_pure
  obtain ⟨B, hl, hB⟩ := ours_pure a b s ha hb hs
  refine Pure.of_go mixed Tryz.func5 rfl (rs := [.tmp 4]) rfl (by kernel_rfl) (by simp -implicitDefEqProofs [go_sem]) ?_
  cases B
  · unfold SR.av SR.cs PR.cs at *
    simp -implicitDefEqProofs [go_sem]
    refine goC_pure _ hl (by simp -implicitDefEqProofs [go_sem]) ?_
    simp -implicitDefEqProofs [go_sem]
    refine goC_pure _ hw (by simp -implicitDefEqProofs [go_sem]) ?_
    simp -implicitDefEqProofs [go_sem]
  · obtain ⟨ia, ib, ks⟩ := hB rfl
    have za := ia.sz
    have zb := ib.sz
    have zh := ks.h
    have zdd := PQ.sz_sub b.val a.val
    have k1 := psub_pure b a ib.mono ia.mono
    have k2 := end_pure a (pc (b.val.sub a.val)) s ia (pc_in (by omega)) ks
    rw [pc_val] at k2
    have hdz : ((b.val.sub a.val).scale (-1)).sz ≤ 3 := by rw [sz_negs]; omega
    have k3 := end_pure a (pc ((b.val.sub a.val).scale (-1))) s ia (pc_in hdz) ks
    rw [pc_val] at k3
    have k4 := dot_pure a s ia ks
    have e3 : ∀ q : PQ, (pc q).av = .agg (pC q) := fun _ => rfl
    obtain ⟨l, e, hle⟩ : ∃ l e, endQ a.val (b.val.sub a.val) s = (l, e) := ⟨_, _, rfl⟩
    have hfine := fine_end (p := a.val) (u := b.val.sub a.val) (s := s) za (by omega) ks
    have hcs := end_cases hle za (by omega) ks
    rw [hle] at k2 hfine
    simp only at hfine
    have kln := lines_self l (by have := hfine.1; omega) (fun p hp => by have := hfine.2 p hp; omega)
    have m1 : (((-1 : Int) : Rat) / ((1 : Int) : Rat)) = -1 := by grind
    have zn : sz (-1 : Rat) ≤ 1 := by rw [sz_neg, sz_one]; omega
    have k9 := rof_pure (-1) 1 (by omega) (by omega) (by omega)
    rw [m1] at k9
    have k10 := pscaleq (b.val.sub a.val) (-1) (by omega) (by omega)
    have hd2 : b.val.sub a.val ≠ ⟨0, 0⟩ → (b.val.sub a.val).scale (-1) ≠ ⟨0, 0⟩ := fun h => negs_ne h
    have hend2 : mayC s → b.val.sub a.val ≠ ⟨0, 0⟩ → s.cap = 2 → endQ a.val ((b.val.sub a.val).scale (-1)) s = rnd a.val s.h s.tol.val := fun h1 h2 h3 => by
      unfold endQ
      rw [if_neg (fun h => h h1), if_neg (hd2 h2), if_neg (by omega), if_neg (by omega)]
    have hdot2 : mayC s → s.cap = 2 → dotQ a.val s = rnd a.val s.h s.tol.val := fun h1 h3 => by
      unfold dotQ
      rw [if_neg (fun h => h h1), if_neg (by omega), if_pos h3]
    clear hd2 hfine hle
    unfold gotA at k2 k3 k4
    obtain ⟨C, hC⟩ : ∃ C, C = s.cap := ⟨_, rfl⟩
    rw [← hC] at hcs hend2 hdot2
    rw [sav_cap hC] at hl k2 k3 k4 ⊢
    rcases hcs with ⟨rfl, he⟩ | ⟨rfl, hm, hu0, hcs⟩
    · generalize (b.val.sub a.val).scale (-1) = dn at *
      generalize b.val.sub a.val = d at *
      simp only [e3] at k2
      unfold pL at k2
      simp only [pA_pC] at *
      unfold PR.av PR.cs at *
      simp -implicitDefEqProofs [go_sem]
      refine goC_pure _ hl (by simp -implicitDefEqProofs [go_sem]) ?_
      by_cases a1 : C < 0
      · simp -implicitDefEqProofs [go_sem, a1]
        refine goC_pure _ hw (by simp -implicitDefEqProofs [go_sem]) ?_
        simp -implicitDefEqProofs [go_sem]
      by_cases a2 : 2 < C
      · simp -implicitDefEqProofs [go_sem, a1, a2]
        refine goC_pure _ hw (by simp -implicitDefEqProofs [go_sem]) ?_
        simp -implicitDefEqProofs [go_sem]
      simp -implicitDefEqProofs [go_sem, a1, a2]
      refine goC_pure _ k1 (by simp -implicitDefEqProofs [go_sem]) ?_
      simp -implicitDefEqProofs [go_sem]
      refine goC_pure _ k2 (by simp -implicitDefEqProofs [go_sem, ro_pC]) ?_
      simp -implicitDefEqProofs [go_sem, he]
      refine goC_pure _ hw (by simp -implicitDefEqProofs [go_sem]) ?_
      simp -implicitDefEqProofs [go_sem]
    · rcases hcs with ⟨rfl, rfl⟩ | ⟨rfl, hr⟩ | ⟨rfl, n, rfl, zn2, u⟩
      · generalize (b.val.sub a.val).scale (-1) = dn at *
        generalize b.val.sub a.val = d at *
        simp only [e3] at k2
        unfold pL at k2
        simp only [pA_pC] at *
        unfold PR.av PR.cs at *
        simp -implicitDefEqProofs [go_sem]
        refine goC_pure _ hl (by simp -implicitDefEqProofs [go_sem]) ?_
        simp -implicitDefEqProofs [go_sem]
        refine goC_pure _ k1 (by simp -implicitDefEqProofs [go_sem]) ?_
        simp -implicitDefEqProofs [go_sem]
        refine goC_pure _ k2 (by simp -implicitDefEqProofs [go_sem, ro_pC]) ?_
        simp -implicitDefEqProofs [go_sem]
        refine goC_pure _ hw (by simp -implicitDefEqProofs [go_sem]) ?_
        simp -implicitDefEqProofs [go_sem]
      · rw [hend2 hm hu0 rfl, hr] at k3
        rw [hdot2 hm rfl, hr] at k4
        generalize (b.val.sub a.val).scale (-1) = dn at *
        generalize b.val.sub a.val = d at *
        simp only [e3] at k2 k3
        unfold pL at *
        simp only [pA_pC, rA_rC] at *
        unfold PR.av PR.cs at *
        simp -implicitDefEqProofs [go_sem]
        refine goC_pure _ hl (by simp -implicitDefEqProofs [go_sem]) ?_
        simp -implicitDefEqProofs [go_sem]
        refine goC_pure _ k1 (by simp -implicitDefEqProofs [go_sem]) ?_
        simp -implicitDefEqProofs [go_sem]
        refine goC_pure _ k2 (by simp -implicitDefEqProofs [go_sem, ro_pC]) ?_
        simp -implicitDefEqProofs [go_sem]
        refine goD_pure _ k9 (by simp -implicitDefEqProofs [go_sem]) ?_
        simp -implicitDefEqProofs [go_sem]
        refine goD_pure _ k10 (by simp -implicitDefEqProofs [go_sem, ro_pC, ro_rC]) ?_
        simp -implicitDefEqProofs [go_sem]
        refine goD_pure _ k3 (by simp -implicitDefEqProofs [go_sem, ro_pC]) ?_
        simp -implicitDefEqProofs [go_sem]
        refine goC_pure _ k4 (by simp -implicitDefEqProofs [go_sem]) ?_
        simp -implicitDefEqProofs [go_sem]
        refine goC_pure _ kln (by simp -implicitDefEqProofs [go_sem]) ?_
        simp -implicitDefEqProofs [go_sem]
        refine goC_pure _ kln (by simp -implicitDefEqProofs [go_sem]) ?_
        simp -implicitDefEqProofs [go_sem]
        refine goC_pure _ hw (by simp -implicitDefEqProofs [go_sem]) ?_
        simp -implicitDefEqProofs [go_sem]
      · clear k3 k4 hend2 hdot2 kln
        have hnx : sz n.x ≤ 7261 := Nat.le_trans (Nat.le_max_left _ _) zn2
        have hny : sz n.y ≤ 7261 := Nat.le_trans (Nat.le_max_right _ _) zn2
        have zm : PQ.sz ⟨n.y, -n.x⟩ ≤ 7261 := Nat.max_le.2 ⟨hny, by rw [sz_neg]; exact hnx⟩
        obtain ⟨E, hE⟩ : ∃ E : PQ, E = ⟨n.y, -n.x⟩ := ⟨_, rfl⟩
        rw [← hE] at zm u k2
        clear hE
        have zpe := PQ.sz_add a.val E
        obtain ⟨z1, z2, z3, z4⟩ := beside_szs (a := a.val) (b := a.val.add E) (n := n) (by omega) (by omega) zn2
        have hbe : (a.val.add E).sub a.val = E := add_sub _ _
        have kc := beside_convex (a := a.val) (b := a.val.add E) (n := n) (by rw [hbe]; exact u.turn) (fun q hq => by
          simp only [besideQ, List.mem_cons, List.not_mem_nil, or_false] at hq
          rcases hq with rfl | rfl | rfl | rfl <;> assumption)
        have p1 := psub_pure (pc (a.val.add n)) a (pc_in z4).mono ia.mono
        rw [pc_val, add_sub] at p1
        have p2 := psubq ((a.val.add E).add n) (a.val.add n) (by omega) (by omega)
        rw [show ((a.val.add E).add n).sub (a.val.add n) = E from PQ.ext (by unfold PQ.add PQ.sub; simp only; grind) (by unfold PQ.add PQ.sub; simp only; grind)] at p2
        have p3 := paddq (a.val.sub n) n (by omega) (by omega)
        rw [sub_add] at p3
        have p4 := psame_pure (pc a.val) a (pc_in (n := 1) za).mono ia.mono
        rw [pc_val, decide_eq_true rfl] at p4
        change Pure _ _ [pA a.val, _] _ at p4
        have p5 := psubq ((a.val.add E).sub n) (a.val.sub n) (by omega) (by omega)
        rw [show ((a.val.add E).sub n).sub (a.val.sub n) = E from PQ.ext (by unfold PQ.add PQ.sub; simp only; grind) (by unfold PQ.add PQ.sub; simp only; grind)] at p5
        have p6 := psame_self E (by omega)
        have p7 := pdot_pure (pc n) (pc n) (pc_in (n := 7261) zn2).mono (pc_in (n := 7261) zn2).mono
        have p8 := pdot_pure (pc E) (pc E) (pc_in (n := 7261) zm).mono (pc_in (n := 7261) zm).mono
        have p9 := pdot_pure (pc n) (pc E) (pc_in (n := 7261) zn2).mono (pc_in (n := 7261) zm).mono
        have p10 := pdot_pure (pc E) (pc (b.val.sub a.val)) (pc_in (n := 7261) zm).mono (pc_in (n := 1000) (by omega)).mono
        have p11 := pcross_pure (pc (b.val.sub a.val)) (pc E) (pc_in (n := 1000) (by omega)).mono (pc_in (n := 7261) zm).mono
        rw [pc_val] at p7
        rw [pc_val, ← u.eq] at p8
        rw [pc_val, pc_val, u.ne] at p9
        rw [pc_val, pc_val] at p10
        rw [pc_val, pc_val, u.par] at p11
        have z7 := PQ.sz_dot n n
        have z10 := PQ.sz_dot E (b.val.sub a.val)
        have q1 := rcmpq (n.dot n) (n.dot n) (by omega) (by omega)
        rw [cmpQ_self] at q1
        have q2 := rsignq 0 (by rw [show sz 0 = 1 from by have := sz_int 0; simpa [nl_zero] using this]; omega)
        rw [sgnQ_eq.2 rfl] at q2
        have q3 := rsignq (E.dot (b.val.sub a.val)) (by omega)
        have y3 : 0 < sgnQ (E.dot (b.val.sub a.val)) := sgnQ_gt.2 u.along
        clear u
        generalize sgnQ (E.dot (b.val.sub a.val)) = g3 at *
        generalize E.dot (b.val.sub a.val) = ed at *
        generalize n.dot n = nn at *
        generalize b.val.sub a.val = d at *
        have g0 : getE [AV.agg (pC (a.val.sub n)), AV.agg (pC ((a.val.add E).sub n)), AV.agg (pC ((a.val.add E).add n)), AV.agg (pC (a.val.add n))] 0 = .agg (pC (a.val.sub n)) := rfl
        have g1 : getE [AV.agg (pC (a.val.sub n)), AV.agg (pC ((a.val.add E).sub n)), AV.agg (pC ((a.val.add E).add n)), AV.agg (pC (a.val.add n))] 1 = .agg (pC ((a.val.add E).sub n)) := rfl
        have g2 : getE [AV.agg (pC (a.val.sub n)), AV.agg (pC ((a.val.add E).sub n)), AV.agg (pC ((a.val.add E).add n)), AV.agg (pC (a.val.add n))] 2 = .agg (pC ((a.val.add E).add n)) := rfl
        have g3' : getE [AV.agg (pC (a.val.sub n)), AV.agg (pC ((a.val.add E).sub n)), AV.agg (pC ((a.val.add E).add n)), AV.agg (pC (a.val.add n))] 3 = .agg (pC (a.val.add n)) := rfl
        simp only [e3] at k2 p1 p7 p8 p9 p10 p11
        unfold besideQ pL at *
        simp only [List.map_cons, List.map_nil, rA_rC, pA_pC] at *
        unfold PR.av PR.cs at *
        simp -implicitDefEqProofs [go_sem]
        refine goC_pure _ hl (by simp -implicitDefEqProofs [go_sem]) ?_
        simp -implicitDefEqProofs [go_sem]
        refine goC_pure _ k1 (by simp -implicitDefEqProofs [go_sem]) ?_
        simp -implicitDefEqProofs [go_sem]
        refine goC_pure _ k2 (by simp -implicitDefEqProofs [go_sem, ro_pC]) ?_
        simp -implicitDefEqProofs [go_sem]
        refine goC_pure _ kc (by simp -implicitDefEqProofs [go_sem, ro_pC]) ?_
        simp -implicitDefEqProofs [go_sem, g0, g1, g2, g3']
        refine goD_pure _ p1 (by simp -implicitDefEqProofs [go_sem, ro_pC]) ?_
        simp -implicitDefEqProofs [go_sem, g0, g1, g2, g3']
        refine goD_pure _ p2 (by simp -implicitDefEqProofs [go_sem, ro_pC]) ?_
        simp -implicitDefEqProofs [go_sem, g0, g1, g2, g3']
        refine goD_pure _ p3 (by simp -implicitDefEqProofs [go_sem, ro_pC]) ?_
        simp -implicitDefEqProofs [go_sem, g0, g1, g2, g3']
        refine goD_pure _ p4 (by simp -implicitDefEqProofs [go_sem, ro_pC]) ?_
        simp -implicitDefEqProofs [go_sem, g0, g1, g2, g3']
        refine goD_pure _ p5 (by simp -implicitDefEqProofs [go_sem, ro_pC]) ?_
        simp -implicitDefEqProofs [go_sem, g0, g1, g2, g3']
        refine goD_pure _ p6 (by simp -implicitDefEqProofs [go_sem, ro_pC]) ?_
        simp -implicitDefEqProofs [go_sem]
        refine goD_pure _ p7 (by simp -implicitDefEqProofs [go_sem, ro_pC]) ?_
        simp -implicitDefEqProofs [go_sem]
        refine goD_pure _ p8 (by simp -implicitDefEqProofs [go_sem, ro_pC]) ?_
        simp -implicitDefEqProofs [go_sem]
        refine goD_pure _ q1 (by simp -implicitDefEqProofs [go_sem, ro_rC]) ?_
        simp -implicitDefEqProofs [go_sem]
        refine goD_pure _ p9 (by simp -implicitDefEqProofs [go_sem, ro_pC]) ?_
        simp -implicitDefEqProofs [go_sem]
        refine goD_pure _ q2 (by simp -implicitDefEqProofs [go_sem, ro_rC]) ?_
        simp -implicitDefEqProofs [go_sem]
        refine goD_pure _ p10 (by simp -implicitDefEqProofs [go_sem, ro_pC]) ?_
        simp -implicitDefEqProofs [go_sem]
        refine goD_pure _ q3 (by simp -implicitDefEqProofs [go_sem, ro_rC]) ?_
        simp -implicitDefEqProofs [go_sem, y3]
        refine goD_pure _ p11 (by simp -implicitDefEqProofs [go_sem, ro_pC]) ?_
        simp -implicitDefEqProofs [go_sem]
        refine goD_pure _ q2 (by simp -implicitDefEqProofs [go_sem, ro_rC]) ?_
        simp -implicitDefEqProofs [go_sem]
        refine goD_pure _ hw (by simp -implicitDefEqProofs [go_sem]) ?_
        simp -implicitDefEqProofs [go_sem]
end Go.Proofs.YtgiheamjhoiojaaGreat
