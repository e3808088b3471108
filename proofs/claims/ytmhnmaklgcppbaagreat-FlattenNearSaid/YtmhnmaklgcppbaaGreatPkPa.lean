/-
  Of the seat's texts, joined: RgD LwE LwF.
-/
import Derived.Test.YtmhnmaklgcppbaaGreatPkCa
import Derived.Test.YtmhnmaklgcppbaaGreatPkWa
import Derived.Test.YtmhnmaklgcppbaaGreatPkQa
namespace Go.Proofs.YtmhnmaklgcppbaaGreat
open Go Go.Proofs
set_option linter.unusedSimpArgs false
set_option linter.unusedVariables false
set_option maxRecDepth 20000

/-- Curves of the reference. -/
def gLL (ls : List (List HQ)) : AV := .sl 1 false (ls.map gL)
@[go_sem] theorem roL_gL (ls : List (List HQ)) : roL (ls.map gL) := roL_map ro_gL
theorem ro_gLL (ls : List (List HQ)) : ro (gLL ls) := by unfold gLL; simp only [ro]; exact roL_gL ls
@[go_sem] theorem renL_gL (rn : Nat → Nat) (l : List (List HQ)) : renL rn (l.map gL) = l.map gL := renL_ro rn _ (roL_gL l)
@[go_sem] theorem cloL_gL (n : Nat) (l : List (List HQ)) : cloL n (l.map gL) := cloL_ro _ (roL_gL l)
@[go_sem] theorem fitsL_gL (f : Nat → BS) (l : List (List HQ)) : fitsL f (l.map gL) := fitsL_ro f _ (roL_gL l)
@[go_sem] theorem viewL_gL (f : Nat → BS) (l : List (List HQ)) : viewL f (l.map gL) = l.map gL := viewL_ro f _ (roL_gL l)
theorem getE_gL {l : List (List HQ)} {i : Nat} (h : i < l.length) : getE (l.map gL) (i : Int) = gL l[i] := by
  simp [getE, List.getD_eq_getElem?_getD, h]
theorem getE_qL {l : List (List HQ)} {i : Nat} (h : i < l.length) : getE (l.map qL) (i : Int) = qL l[i] := by
  simp [getE, List.getD_eq_getElem?_getD, h]

set_option maxHeartbeats 4000000 in
theorem gmany_pure (v : List HQ) (d : Nat) (hd : d ≤ 3) (hs : ∀ x ∈ v, x.sz ≤ 4) (hG : GoodC v) : Pure Tryz.prog 23 [gL v, .int .i64 d] (gLL (manyQ d v)) := by
  have hall := manyQ_all (n := 4) (by omega) hG hs
  have hlen := manyQ_len
  refine Pure.of_go mixed Tryz.func23 rfl (rs := [.tmp 4]) rfl (by kernel_rfl) (ro_gLL _) ?_
  have hgv := ro_gL v
  unfold gLL
  obtain ⟨gv, hgv2⟩ : ∃ gv, gv = gL v := ⟨_, rfl⟩
  have hsh : gv.shaped 1 = true := by rw [hgv2]; rfl
  rw [← hgv2] at hgv ⊢
  simp -implicitDefEqProofs [go_sem, hsh]
  have hpow : ∀ k, k ≤ d → 2 ^ k ≤ 8 := fun k hk => by
    have : 2 ^ k ≤ 2 ^ 3 := Nat.pow_le_pow_right (by omega) (by omega)
    omega
  refine go_loopF 0 1 [gv] (by simp -implicitDefEqProofs [go_sem]) 2 (α := {k : Nat // k ≤ d}) (fun k => [(1, .int .i64 d), (5, .sl 1 false ((manyQ k.1 v).map gL)), (6, .int .i64 k.1)]) (fun k => []) (fun k => d - k.1) ⟨0, by omega⟩ [] (by simp) (by simp) (by omega) (by simp -implicitDefEqProofs [go_sem, manyQ, ← hgv2]; exact ⟨(ren_ro _ _ hgv).symm, clo_ro _ hgv⟩) (by simp) fun ⟨k, hk⟩ => ?_
  have hk8 := hpow k hk
  have hkl := hlen k v
  simp -implicitDefEqProofs [go_sem]
  refine ⟨fun h => ?_, fun h => ?_⟩
  · obtain ⟨W, hW⟩ : ∃ W, W = manyQ k v := ⟨_, rfl⟩
    have hWa := hall k
    have hW1 : manyQ (k + 1) v = W.flatMap cut2 := by rw [hW]; rfl
    rw [← hW] at hkl hWa ⊢
    have e1 : IntKind.i64.wrap ((k : Int) + 1) = (k + 1 : Nat) := by rw [w64 (by omega)]; omega
    obtain ⟨nx, hnx⟩ : ∃ nx : Nat → List AV, nx = fun i => ((W.take i).flatMap cut2).map gL := ⟨_, rfl⟩
    have hnr : ∀ i, roL (nx i) := fun i => by rw [hnx]; exact roL_gL _
    have hnl : ∀ i, i ≤ W.length → (nx i).length = 2 * i := fun i hi => by
      rw [hnx]
      simp only [List.length_map]
      have : ∀ ls : List (List HQ), (ls.flatMap cut2).length = 2 * ls.length := fun ls => by
        induction ls with
        | nil => rfl
        | cons a r ih => rw [List.flatMap_cons, List.length_append, ih]; simp [cut2]; omega
      rw [this, List.length_take]; omega
    have hn0 : nx 0 = [] := by rw [hnx]; rfl
    have hns : ∀ i (hi : i < W.length), nx (i + 1) = nx i ++ [gL (cutL W[i].length W[i]), gL (cutR W[i].length W[i])] := fun i hi => by
      rw [hnx]
      simp only [List.take_succ_eq_append_getElem hi, List.flatMap_append, List.map_append, List.flatMap_cons, List.flatMap_nil, List.append_nil, cut2, List.map_cons, List.map_nil]
    have hne : nx W.length = (manyQ (k + 1) v).map gL := by rw [hnx, hW1]; simp only [List.take_length]
    refine go_loopN 2 (α := {i : Nat // i ≤ W.length}) (fun i => [(1, .int .i64 d), (5, .sl 1 false (W.map gL)), (6, .int .i64 k), (7, apv 1 1 (nx i.1)), (8, .int .i64 i.1)]) (fun i => apb 1 1 (nx i.1)) (fun i => W.length - i.1) ⟨0, Nat.zero_le _⟩ [] (by simp) (by simp [hn0, apb_nil]) (by omega) (by simp -implicitDefEqProofs [go_sem, hn0]) (by simp -implicitDefEqProofs [go_sem, hn0]) fun ⟨i, hi⟩ => ?_
    simp only
    have h5 : nx i ≠ [] → hp 2 (apb 1 1 (nx i)) 1 = .live 1 (nx i) := fun h => by rw [apb_ne h]; simp [hp, upd]
    have hTl := hnl i hi
    simp -implicitDefEqProofs [go_sem]
    refine ⟨fun h2 => ?_, fun h2 => ?_⟩
    · have hg := getE_gL (l := W) (i := i) h2
      obtain ⟨q1, q2, q3⟩ := hWa W[i] (List.getElem_mem _)
      have hc := gcut_pure W[i] (fun x hx => by
        have h1 := q3 x hx
        have h2 : 64 ^ k ≤ 64 ^ 3 := Nat.pow_le_pow_right (by omega) (by omega)
        have h3 : 64 ^ k * 4 ≤ 64 ^ 3 * 4 := Nat.mul_le_mul_right _ h2
        omega) (by have := q1.2.1; omega) q1.2.2
      have hs1 := hns i h2
      have hnl1 := hnl (i + 1) (by omega)
      have es : IntKind.i64.wrap ((i : Int) + 1) = (i + 1 : Nat) := by rw [w64 (by omega)]; omega
      simp only [gL] at hg hs1
      simp only [gL, gTwo] at hc
      generalize (cutL W[i].length W[i]).map gA = A at *
      generalize (cutR W[i].length W[i]).map gA = B at *
      have hAr : roL A ∧ roL B := by
        have := hc.1
        simpa only [ro, roL, and_true] using this
      obtain ⟨hAr, hBr⟩ := hAr
      simp -implicitDefEqProofs [go_sem, hg]
      refine ⟨h2, goC_pure _ hc (by simp -implicitDefEqProofs [go_sem]) ?_⟩
      simp -implicitDefEqProofs [go_sem]
      refine goApS_apv (.inl rfl) (by omega) (by omega) (by simp -implicitDefEqProofs [go_sem]) (by simp [hTl] <;> omega) (by simp -implicitDefEqProofs [go_sem] <;> exact h5) ?_
      simp -implicitDefEqProofs [go_sem, es]
      have hn1 : nx (i + 1) ≠ [] := by rw [hs1]; simp
      have hv1 := apv_ne (sz := 1) (id := 1) hn1
      have hb1 := apb_ne (sz := 1) (id := 1) hn1
      have hl1 : (nx (i + 1)).length = (nx i).length + 2 := by rw [hs1]; simp
      rw [← hs1]
      have r1 := (renL_ro (nm [(1, 4)]) _ (hnr (i + 1))).symm
      have q1 := cloL_ro (n := 2) _ (hnr (i + 1))
      refine go_again ⟨i + 1, h2⟩ (by simp only; omega) [(1, 4)] (by simp) (by simp only [hb1]; simp [nm]) (by simp) (by simp only [hv1]; simp -implicitDefEqProofs [go_sem, hl1, es]) (by simp only [hb1]; simp -implicitDefEqProofs [go_sem, ← r1, q1])
    · have hiW : i = W.length := by omega
      rw [hiW, hne] at h5 ⊢
      have hn0' : (manyQ (k + 1) v).map gL ≠ [] := by
        intro h
        have := congrArg List.length h
        simp only [List.length_map, hlen, List.length_nil] at this
        have := Nat.pow_pos (n := k + 1) (show 0 < 2 by omega)
        omega
      have hg5 := h5 hn0'
      have hap := apv_ne (sz := 1) (id := 1) hn0'
      have hMr0 : roL ((manyQ (k + 1) v).map gL) := roL_gL _
      refine go_againF 1 1 ((manyQ (k + 1) v).map gL) (by simp -implicitDefEqProofs [go_sem, hg5]) ⟨k + 1, by omega⟩ (by simp only; omega) [] (by simp) (by simp) (by simp) (by simp only [hap]; simp -implicitDefEqProofs [go_sem, e1]; exact List.take_of_length_le (by simp)) (by simp)
  · have hkd : k = d := by omega
    rw [hkd]
end Go.Proofs.YtmhnmaklgcppbaaGreat
namespace Go.Proofs.YtmhnmaklgcppbaaGreat
open Go Go.Proofs
set_option linter.unusedSimpArgs false
set_option linter.unusedVariables false
set_option maxRecDepth 20000

theorem homsq_self (l : List HQ) (hl : l.length < 1099511627776) (hs : ∀ h ∈ l, h.sz < 1099511627776) : Pure Tryz.prog 21 [qL l, qL l] (.bool true) := by
  have := homs_self l hl hs
  rwa [qL_hL] at this

set_option maxHeartbeats 8000000 in
theorem hcuts_pure (l : List HR) (deep : Int) (hl : l.length ≤ 9223372036854775807) (hm : ∀ h ∈ l, h.Lm) : Pure Tryz.prog 3 [hL l, .int .i64 deep] (.bool true) := by
  have hf := fair_pure l hl
  have hw := hwakes_pure
  refine Pure.of_goz true mixed Tryz.func3 rfl (rs := [.tmp 4]) rfl (by kernel_rfl) (by simp -implicitDefEqProofs [go_sem]) ?_
  by_cases hF : FairL l
  · have hz : ∀ h ∈ l, h.In 4 := fun h hh => (hm h hh).inn (hF.1 h hh)
    have hl6 := hF.2
    have hins := gins_pure l (by omega) (fun h hh => (hz h hh).mono)
    have hgd := ggood_pure (l.map HR.val) (by simp; omega)
    obtain ⟨v, hv⟩ : ∃ v, v = l.map HR.val := ⟨_, rfl⟩
    have hvl : v.length = l.length := by rw [hv]; simp
    have hvs : ∀ h ∈ v, h.sz ≤ 4 := by
      intro x hx
      rw [hv] at hx
      obtain ⟨y, hy, rfl⟩ := List.mem_map.1 hx
      exact (hz y hy).sz
    obtain ⟨V, hV⟩ : ∃ V, V = v.map gA := ⟨_, rfl⟩
    have hVr : roL V := by rw [hV]; exact roL_gA _
    rw [decide_eq_true hF] at hf
    have hcy := cut_pure l (fun h hh => (hz h hh).mono)
    have hcn := cut_none l (by omega) (fun h hh => (hz h hh).w.sm.ok)
    have hmy := fun d (hd : d ≤ 3) => many_pure l d (by omega) (fun h hh => (hz h hh).mono)
    have hmn := fun d hd => many_none l d hd (by omega) (fun h hh => (hz h hh).w.sm.ok)
    have hma := fun d hd => many_arg (hL l) (ro_hL l) d hd
    rw [← hv] at hins hgd hcy hcn hmy hmn
    have hgL : gL v = .sl 9 false V := by unfold gL; rw [hV]
    rw [hgL] at hins hgd
    unfold hL at *
    by_cases hd : 3 < deep ∧ deep ≤ 10
    · simp -implicitDefEqProofs [go_sem]
      refine goC_pure _ hf (by simp -implicitDefEqProofs [go_sem]) ?_
      simp -implicitDefEqProofs [go_sem, hd.1, hd.2]
      refine goC_pure _ hw (by simp -implicitDefEqProofs [go_sem]) ?_
      simp -implicitDefEqProofs [go_sem]
    have hcase : (deep < 0 ∨ 10 < deep) ∨ ∃ d : Nat, deep = d ∧ d ≤ 3 := by
      rcases Classical.em (deep < 0 ∨ 10 < deep) with h | h
      · exact .inl h
      · exact .inr ⟨deep.toNat, by omega, by omega⟩
    have hb1 : ((3 < deep) ∧ deep ≤ 10) = False := by simp; omega
    by_cases hG : GoodC v
    · have hcy := hcy hG
      have hgc := gcut_pure v (fun x hx => by have := hvs x hx; omega) (by have := hG.2.1; omega) hG.2.2
      rw [decide_eq_true hG] at hgd
      have hn4 := hG.2.2
      obtain ⟨g1, g2⟩ := cut_good hG
      obtain ⟨s1, s2⟩ := cut_sz (n := 4) (by omega) hn4 hvs
      have hAl := cutL_len v.length v
      have hCl := cutR_len v.length v
      rw [← hvl] at hcy
      rw [hgL] at hgc
      have ho1 := gouts_pure (cutL v.length v) (by omega) (fun h hh => by have := s1 h hh; omega)
      have ho2 := gouts_pure (cutR v.length v) (by omega) (fun h hh => by have := s2 h hh; omega)
      have hk1 := homsq_self (cutL v.length v) (by omega) (fun h hh => by have := s1 h hh; omega)
      have hk2 := homsq_self (cutR v.length v) (by omega) (fun h hh => by have := s2 h hh; omega)
      generalize cutL v.length v = A at *
      generalize cutR v.length v = C at *
      simp only [gTwo, gL, qL] at hgc ho1 ho2 hk1 hk2 hcy
      obtain ⟨A1, hA1⟩ : ∃ A1, A1 = A.map hA := ⟨_, rfl⟩
      obtain ⟨C1, hC1⟩ : ∃ C1, C1 = C.map hA := ⟨_, rfl⟩
      obtain ⟨A2, hA2⟩ : ∃ A2, A2 = A.map gA := ⟨_, rfl⟩
      obtain ⟨C2, hC2⟩ : ∃ C2, C2 = C.map gA := ⟨_, rfl⟩
      have rA1 : roL A1 := by rw [hA1]; exact roL_hA _
      have rC1 : roL C1 := by rw [hC1]; exact roL_hA _
      have rA2 : roL A2 := by rw [hA2]; exact roL_gA _
      have rC2 : roL C2 := by rw [hC2]; exact roL_gA _
      rw [← hA1, ← hC1] at hcy
      rw [← hA2, ← hC2] at hgc
      rw [← hA1, ← hA2] at ho1
      rw [← hC1, ← hC2] at ho2
      rw [← hA1] at hk1
      rw [← hC1] at hk2
      rcases hcase with hd2 | ⟨d, rfl, hd3⟩
      · have hma := hma deep hd2
        have hb2 : ¬ (3 < deep) ∨ ¬ deep ≤ 10 := by omega
        by_cases h3 : 3 < deep
        · have h10 : ¬ deep ≤ 10 := by omega
          have h0 : ¬ deep < 0 := by omega
          have h11 : 10 < deep := by omega
          simp -implicitDefEqProofs [go_sem]
          refine goC_pure _ hf (by simp -implicitDefEqProofs [go_sem]) ?_
          simp -implicitDefEqProofs [go_sem, h3, h10]
          refine goC_pure _ hins (by simp -implicitDefEqProofs [go_sem] <;> exact hVr) ?_
          simp -implicitDefEqProofs [go_sem]
          refine goC_pure _ hcy (by simp -implicitDefEqProofs [go_sem]) ?_
          simp -implicitDefEqProofs [go_sem]
          refine goC_pure _ hma (by simp -implicitDefEqProofs [go_sem]) ?_
          simp -implicitDefEqProofs [go_sem]
          refine goC_pure _ hgd (by simp -implicitDefEqProofs [go_sem] <;> exact hVr) ?_
          simp -implicitDefEqProofs [go_sem]
          refine goC_pure _ hgc (by simp -implicitDefEqProofs [go_sem] <;> exact hVr) ?_
          simp -implicitDefEqProofs [go_sem]
          refine goC_pure _ ho1 (by simp -implicitDefEqProofs [go_sem] <;> exact rA2) ?_
          simp -implicitDefEqProofs [go_sem]
          refine goC_pure _ hk1 (by simp -implicitDefEqProofs [go_sem] <;> exact rA1) ?_
          simp -implicitDefEqProofs [go_sem]
          refine goC_pure _ ho2 (by simp -implicitDefEqProofs [go_sem] <;> exact rC2) ?_
          simp -implicitDefEqProofs [go_sem]
          refine goC_pure _ hk2 (by simp -implicitDefEqProofs [go_sem] <;> exact rC1) ?_
          simp -implicitDefEqProofs [go_sem, h0, h11]
          refine goC_pure _ hw (by simp -implicitDefEqProofs [go_sem]) ?_
          simp -implicitDefEqProofs [go_sem]
        · have h0 : deep < 0 := by omega
          simp -implicitDefEqProofs [go_sem]
          refine goC_pure _ hf (by simp -implicitDefEqProofs [go_sem]) ?_
          simp -implicitDefEqProofs [go_sem, h3]
          refine goC_pure _ hins (by simp -implicitDefEqProofs [go_sem] <;> exact hVr) ?_
          simp -implicitDefEqProofs [go_sem]
          refine goC_pure _ hcy (by simp -implicitDefEqProofs [go_sem]) ?_
          simp -implicitDefEqProofs [go_sem]
          refine goC_pure _ hma (by simp -implicitDefEqProofs [go_sem]) ?_
          simp -implicitDefEqProofs [go_sem]
          refine goC_pure _ hgd (by simp -implicitDefEqProofs [go_sem] <;> exact hVr) ?_
          simp -implicitDefEqProofs [go_sem]
          refine goC_pure _ hgc (by simp -implicitDefEqProofs [go_sem] <;> exact hVr) ?_
          simp -implicitDefEqProofs [go_sem]
          refine goC_pure _ ho1 (by simp -implicitDefEqProofs [go_sem] <;> exact rA2) ?_
          simp -implicitDefEqProofs [go_sem]
          refine goC_pure _ hk1 (by simp -implicitDefEqProofs [go_sem] <;> exact rA1) ?_
          simp -implicitDefEqProofs [go_sem]
          refine goC_pure _ ho2 (by simp -implicitDefEqProofs [go_sem] <;> exact rC2) ?_
          simp -implicitDefEqProofs [go_sem]
          refine goC_pure _ hk2 (by simp -implicitDefEqProofs [go_sem] <;> exact rC1) ?_
          simp -implicitDefEqProofs [go_sem, h0]
          refine goC_pure _ hw (by simp -implicitDefEqProofs [go_sem]) ?_
          simp -implicitDefEqProofs [go_sem]
      · have hmy := hmy d hd3 hG
        have hgm := gmany_pure v d hd3 hvs hG
        have hall := manyQ_all (n := 4) (by omega) hG hvs d
        rw [hgL] at hgm
        have hlen := manyQ_len d v
        have hp8 : 2 ^ d ≤ 2 ^ 3 := Nat.pow_le_pow_right (by omega) (by omega)
        unfold qLL gLL at *
        obtain ⟨M, hM⟩ : ∃ M, M = manyQ d v := ⟨_, rfl⟩
        rw [← hM] at hmy hgm hall hlen
        have hou : ∀ i (h : i < M.length), Pure Tryz.prog 22 [gL M[i]] (qL M[i]) ∧ Pure Tryz.prog 21 [qL M[i], qL M[i]] (.bool true) ∧ roL (M[i].map gA) ∧ roL (M[i].map hA) := fun i h => by
          obtain ⟨w1, w2, w3⟩ := hall M[i] (List.getElem_mem _)
          have w4 := w1.2.2
          have h3 : 64 ^ d * 4 ≤ 64 ^ 3 * 4 := Nat.mul_le_mul_right _ (Nat.pow_le_pow_right (by omega) hd3)
          exact ⟨gouts_pure _ (by omega) (fun x hx => by have := w3 x hx; omega), homsq_self _ (by omega) (fun x hx => by have := w3 x hx; omega), roL_gA _, roL_hA _⟩
        have h3' : ¬ (3 : Int) < d := by omega
        simp -implicitDefEqProofs [go_sem]
        refine goC_pure _ hf (by simp -implicitDefEqProofs [go_sem]) ?_
        simp -implicitDefEqProofs [go_sem, h3']
        refine goC_pure _ hins (by simp -implicitDefEqProofs [go_sem] <;> exact hVr) ?_
        simp -implicitDefEqProofs [go_sem]
        refine goC_pure _ hcy (by simp -implicitDefEqProofs [go_sem]) ?_
        simp -implicitDefEqProofs [go_sem]
        refine goC_pure _ hmy (by simp -implicitDefEqProofs [go_sem]) ?_
        simp -implicitDefEqProofs [go_sem]
        refine goC_pure _ hgd (by simp -implicitDefEqProofs [go_sem] <;> exact hVr) ?_
        simp -implicitDefEqProofs [go_sem]
        refine goC_pure _ hgc (by simp -implicitDefEqProofs [go_sem] <;> exact hVr) ?_
        simp -implicitDefEqProofs [go_sem]
        refine goC_pure _ ho1 (by simp -implicitDefEqProofs [go_sem] <;> exact rA2) ?_
        simp -implicitDefEqProofs [go_sem]
        refine goC_pure _ hk1 (by simp -implicitDefEqProofs [go_sem] <;> exact rA1) ?_
        simp -implicitDefEqProofs [go_sem]
        refine goC_pure _ ho2 (by simp -implicitDefEqProofs [go_sem] <;> exact rC2) ?_
        simp -implicitDefEqProofs [go_sem]
        refine goC_pure _ hk2 (by simp -implicitDefEqProofs [go_sem] <;> exact rC1) ?_
        have h0 : ¬ (d : Int) < 0 := by omega
        have h11 : ¬ 10 < (d : Int) := by omega
        simp -implicitDefEqProofs [go_sem, h0, h11]
        refine goC_pure _ hgd (by simp -implicitDefEqProofs [go_sem] <;> exact hVr) ?_
        simp -implicitDefEqProofs [go_sem]
        refine goC_pure _ hgm (by simp -implicitDefEqProofs [go_sem] <;> exact hVr) ?_
        simp -implicitDefEqProofs [go_sem]
        refine go_loopN 1 (α := {i : Nat // i ≤ M.length}) (fun i => [(9, .sl 1 false (M.map qL)), (12, .sl 1 false (M.map gL)), (13, .int .i64 i.1)]) (fun i => []) (fun i => M.length - i.1) ⟨0, Nat.zero_le _⟩ [] (by simp) (by simp) (by omega) (by simp -implicitDefEqProofs [go_sem]) (by simp) fun ⟨i, hi⟩ => ?_
        simp -implicitDefEqProofs [go_sem]
        refine ⟨fun h => ?_, fun h => ?_⟩
        · have q1 := getE_qL (l := M) (i := i) h
          have q2 := getE_gL (l := M) (i := i) h
          obtain ⟨o1, o2, o3, o4⟩ := hou i h
          have es : IntKind.i64.wrap ((i : Int) + 1) = (i + 1 : Nat) := by rw [w64 (by omega)]; omega
          generalize M[i] = x at *
          simp only [gL, qL] at q1 q2 o1 o2
          generalize x.map gA = X at *
          generalize x.map hA = Y at *
          first | refine go_strict' (by kernel_rfl) ?_ | skip
          simp -implicitDefEqProofs [go_sem, q1, q2]
          refine ⟨h, goD_pure _ o1 (by simp -implicitDefEqProofs [go_sem] <;> exact o3) ?_⟩
          simp -implicitDefEqProofs [go_sem]
          refine goD_pure _ o2 (by simp -implicitDefEqProofs [go_sem] <;> exact o4) ?_
          simp -implicitDefEqProofs [go_sem, es]
          exact go_again ⟨i + 1, h⟩ (by simp only; omega) [] (by simp) (by simp) (by simp) (by simp -implicitDefEqProofs [go_sem]) (by simp)
        · refine goC_pure _ hw (by simp -implicitDefEqProofs [go_sem]) ?_
          simp -implicitDefEqProofs [go_sem]
    · have hcn := hcn hG
      rw [decide_eq_false hG] at hgd
      have hmn := fun d hd => hmn d hd hG
      rcases hcase with hd2 | ⟨d, rfl, hd3⟩
      · have hma := hma deep hd2
        by_cases h3 : 3 < deep
        · have h10 : ¬ deep ≤ 10 := by omega
          have h0 : ¬ deep < 0 := by omega
          have h11 : 10 < deep := by omega
          simp -implicitDefEqProofs [go_sem]
          refine goC_pure _ hf (by simp -implicitDefEqProofs [go_sem]) ?_
          simp -implicitDefEqProofs [go_sem, h3, h10]
          refine goC_pure _ hins (by simp -implicitDefEqProofs [go_sem] <;> exact hVr) ?_
          simp -implicitDefEqProofs [go_sem]
          refine goC_pure _ hcn (by simp -implicitDefEqProofs [go_sem]) ?_
          simp -implicitDefEqProofs [go_sem]
          refine goC_pure _ hma (by simp -implicitDefEqProofs [go_sem]) ?_
          simp -implicitDefEqProofs [go_sem]
          refine goC_pure _ hgd (by simp -implicitDefEqProofs [go_sem] <;> exact hVr) ?_
          simp -implicitDefEqProofs [go_sem, h0, h11]
          refine goC_pure _ hw (by simp -implicitDefEqProofs [go_sem]) ?_
          simp -implicitDefEqProofs [go_sem]
        · have h0 : deep < 0 := by omega
          simp -implicitDefEqProofs [go_sem]
          refine goC_pure _ hf (by simp -implicitDefEqProofs [go_sem]) ?_
          simp -implicitDefEqProofs [go_sem, h3]
          refine goC_pure _ hins (by simp -implicitDefEqProofs [go_sem] <;> exact hVr) ?_
          simp -implicitDefEqProofs [go_sem]
          refine goC_pure _ hcn (by simp -implicitDefEqProofs [go_sem]) ?_
          simp -implicitDefEqProofs [go_sem]
          refine goC_pure _ hma (by simp -implicitDefEqProofs [go_sem]) ?_
          simp -implicitDefEqProofs [go_sem]
          refine goC_pure _ hgd (by simp -implicitDefEqProofs [go_sem] <;> exact hVr) ?_
          simp -implicitDefEqProofs [go_sem, h0]
          refine goC_pure _ hw (by simp -implicitDefEqProofs [go_sem]) ?_
          simp -implicitDefEqProofs [go_sem]
      · have hmn := hmn d (by omega)
        have h3' : ¬ (3 : Int) < d := by omega
        have h0 : ¬ (d : Int) < 0 := by omega
        have h11 : ¬ 10 < (d : Int) := by omega
        simp -implicitDefEqProofs [go_sem]
        refine goC_pure _ hf (by simp -implicitDefEqProofs [go_sem]) ?_
        simp -implicitDefEqProofs [go_sem, h3']
        refine goC_pure _ hins (by simp -implicitDefEqProofs [go_sem] <;> exact hVr) ?_
        simp -implicitDefEqProofs [go_sem]
        refine goC_pure _ hcn (by simp -implicitDefEqProofs [go_sem]) ?_
        simp -implicitDefEqProofs [go_sem]
        refine goC_pure _ hmn (by simp -implicitDefEqProofs [go_sem]) ?_
        simp -implicitDefEqProofs [go_sem]
        refine goC_pure _ hgd (by simp -implicitDefEqProofs [go_sem] <;> exact hVr) ?_
        simp -implicitDefEqProofs [go_sem, h0, h11]
        refine goC_pure _ hgd (by simp -implicitDefEqProofs [go_sem] <;> exact hVr) ?_
        simp -implicitDefEqProofs [go_sem]
        refine goC_pure _ hw (by simp -implicitDefEqProofs [go_sem]) ?_
        simp -implicitDefEqProofs [go_sem]
  · rw [decide_eq_false hF] at hf
    unfold hL at *
    simp -implicitDefEqProofs [go_sem]
    refine goC_pure _ hf (by simp -implicitDefEqProofs [go_sem]) ?_
    simp -implicitDefEqProofs [go_sem]
    refine goC_pure _ hw (by simp -implicitDefEqProofs [go_sem]) ?_
    simp -implicitDefEqProofs [go_sem]
end Go.Proofs.YtmhnmaklgcppbaaGreat
namespace Go.Proofs.YtmhnmaklgcppbaaGreat
open Go Go.Proofs
set_option linter.unusedSimpArgs false
set_option linter.unusedVariables false
set_option maxRecDepth 20000


set_option maxHeartbeats 8000000 in
theorem hsame_pure (l : List HR) (k : Int) (hl : l.length ≤ 9223372036854775807) (hm : ∀ h ∈ l, h.Lm) (hk : (Lit.int .u8 k).wf = true) : Pure Tryz.prog 7 [hL l, .int .u8 k] (.bool true) := by
  have hf := fair_pure l hl
  have hw := hwakes_pure
  simp only [Lit.wf, Bool.and_eq_true, decide_eq_true_eq] at hk
  have e1 : IntKind.u8.min = 0 := by decide
  have e2 : IntKind.u8.max = 255 := by decide
  rw [e1, e2] at hk
  refine Pure.of_go mixed Tryz.func7 rfl (rs := [.tmp 4]) rfl (by kernel_rfl) (by simp -implicitDefEqProofs [go_sem]) ?_
  by_cases hF : FairL l
  · have hz : ∀ h ∈ l, h.In 4 := fun h hh => (hm h hh).inn (hF.1 h hh)
    have hl6 := hF.2
    have hins := gins_pure l (by omega) (fun h hh => (hz h hh).mono)
    have hgd := ggood_pure (l.map HR.val) (by simp; omega)
    obtain ⟨V, hV⟩ : ∃ V, V = (l.map HR.val).map gA := ⟨_, rfl⟩
    have hVr : roL V := by rw [hV]; exact roL_gA _
    rw [decide_eq_true hF] at hf
    by_cases hG : GoodC (l.map HR.val)
    · rw [decide_eq_true hG] at hgd
      have hcut := cut_pure l (fun h hh => (hz h hh).mono) hG
      obtain ⟨v, hv⟩ : ∃ v, v = l.map HR.val := ⟨_, rfl⟩
      have hvl : v.length = l.length := by rw [hv]; simp
      have hvs : ∀ h ∈ v, h.sz ≤ 4 := by
        intro x hx
        rw [hv] at hx
        obtain ⟨y, hy, rfl⟩ := List.mem_map.1 hx
        exact (hz y hy).sz
      have hG' : GoodC v := by rw [hv]; exact hG
      obtain ⟨g1, g2⟩ := cut_good hG'
      obtain ⟨s1, s2⟩ := cut_sz (n := 4) (by omega) hG'.2.2 hvs
      have hAl := cutL_len v.length v
      have hCl := cutR_len v.length v
      -- the places
      obtain ⟨t, htd⟩ : ∃ t : Rat, t = ((k : Rat) / ((255 : Int) : Rat)) := ⟨_, rfl⟩
      have r1 := rof_pure k 255 (by omega) (by omega) (by omega)
      have r2 := rof_pure k 510 (by omega) (by omega) (by omega)
      have r4 := rof_pure (255 + k) 510 (by omega) (by omega) (by omega)
      have r5 := rof_pure 1 1 (by omega) (by omega) (by omega)
      have r6 := rof_pure 0 1 (by omega) (by omega) (by omega)
      have z1 := sz_frac (p := k) (q := 255) (by omega) (by omega) (by omega)
      have z2 := sz_frac (p := k) (q := 510) (by omega) (by omega) (by omega)
      have z4 := sz_frac (p := 255 + k) (q := 510) (by omega) (by omega) (by omega)
      have kq0 : (0 : Rat) ≤ (k : Rat) := by exact_mod_cast hk.1
      have kq1 : (k : Rat) ≤ 255 := by exact_mod_cast hk.2
      have t2 : ((k : Rat) / ((510 : Int) : Rat)) = t / 2 := by rw [htd]; grind
      have t4 : (((255 + k : Int) : Rat) / ((510 : Int) : Rat)) = (1 + t) / 2 := by rw [htd, Rat.intCast_add]; grind
      rw [← htd] at r1 z1
      rw [t2] at r2 z2
      rw [t4] at r4 z4
      rw [show ((1 : Int) : Rat) / ((1 : Int) : Rat) = 1 by grind] at r5
      rw [show ((0 : Int) : Rat) / ((1 : Int) : Rat) = 0 by grind] at r6
      have t0 : 0 ≤ t := by rw [htd]; grind
      have t1 : t ≤ 1 := by rw [htd]; grind
      have sz0 : sz 0 ≤ 1 := by have := sz_frac (p := 0) (q := 1) (by omega) (by omega) (by omega); rwa [show ((0 : Int) : Rat) / ((1 : Int) : Rat) = 0 by grind] at this
      have a1 := catq_pure (cutL v.length v) t (fun h hh => by have := s1 h hh; omega) (by omega) g1 t0 t1
      have a2 := catr_pure l (t / 2) (fun h hh => (hz h hh).mono) (by omega) hG (by grind) (by grind)
      have a3 := catq_pure (cutR v.length v) t (fun h hh => by have := s2 h hh; omega) (by omega) g2 t0 t1
      have a4 := catr_pure l ((1 + t) / 2) (fun h hh => (hz h hh).mono) (by omega) hG (by grind) (by grind)
      have a5 := catq_pure (cutL v.length v) 1 (fun h hh => by have := s1 h hh; omega) (by rw [sz_one]; omega) g1 (by grind) (by grind)
      have a6 := catq_pure (cutR v.length v) 0 (fun h hh => by have := s2 h hh; omega) (by omega) g2 (by grind) (by grind)
      rw [← hv] at a2 a4
      rw [dc_cutL _ hG'] at a1 a5
      rw [dc_cutR _ hG'] at a3 a6
      rw [show ((1 : Rat) + 0) / 2 = 1 / 2 by grind] at a6
      have w1 := dc_sz (t := t / 2) (n := 8) (by omega) hG' (fun x hx => by have := hvs x hx; omega)
      have w2 := dc_sz (t := (1 + t) / 2) (n := 8) (by omega) hG' (fun x hx => by have := hvs x hx; omega)
      have w3 := dc_sz (t := 1 / 2) (n := 8) (by
        have : sz (1 / 2 : Rat) ≤ 1 := by have := sz_frac (p := 1) (q := 2) (by omega) (by omega) (by omega); rwa [show ((1 : Int) : Rat) / ((2 : Int) : Rat) = 1 / 2 by grind] at this
        omega) hG' (fun x hx => by have := hvs x hx; omega)
      have p1 := psame_self (dcH (t / 2) v).P (by have := (dcH (t / 2) v).sz_P; omega)
      have p2 := psame_self (dcH ((1 + t) / 2) v).P (by have := (dcH ((1 + t) / 2) v).sz_P; omega)
      have p3 := psame_self (dcH (1 / 2) v).P (by have := (dcH (1 / 2) v).sz_P; omega)
      rw [← hv, ← hvl] at hcut
      have ag : ∀ p : PQ, ∃ cs, pA p = .agg cs ∧ cs.length = 6 ∧ cs.take 6 = cs ∧ cs.drop 6 = [] ∧ roL cs := fun p => ⟨_, rfl, rfl, rfl, rfl, by have := ro_pA p; unfold pA PR.av at this; simpa only [ro] using this⟩
      obtain ⟨x1, u1, u2, u3, u4, u5⟩ := ag (dcH (t / 2) v).P
      obtain ⟨x2, v1, v2, v3, v4, v5⟩ := ag (dcH ((1 + t) / 2) v).P
      obtain ⟨x3, w1', w2', w3', w4', w5'⟩ := ag (dcH (1 / 2) v).P
      rw [u1] at a1 a2 p1
      rw [v1] at a3 a4 p2
      rw [w1'] at a5 a6 p3
      obtain ⟨A1, hA1⟩ : ∃ A1, A1 = (cutL v.length v).map hA := ⟨_, rfl⟩
      obtain ⟨C1, hC1⟩ : ∃ C1, C1 = (cutR v.length v).map hA := ⟨_, rfl⟩
      have rA1 : roL A1 := by rw [hA1]; exact roL_hA _
      have rC1 : roL C1 := by rw [hC1]; exact roL_hA _
      have lA1 : A1.length = l.length := by rw [hA1, List.length_map, hAl, hvl]
      have lC1 : C1.length = l.length := by rw [hC1, List.length_map, hCl, hvl]
      unfold qL at hcut a1 a3 a5 a6
      rw [← hA1] at hcut a1 a5
      rw [← hC1] at hcut a3 a6
      unfold hL gL at *
      rw [← hV] at hins hgd
      unfold rA RQ.av at *
      generalize qc t = c1 at *
      generalize qc (t / 2) = c2 at *
      generalize qc ((1 + t) / 2) = c4 at *
      generalize qc 1 = c5 at *
      generalize qc 0 = c6 at *
      have k64 : IntKind.i64.wrap k = k := w64 (by omega)
      have k255 : IntKind.i64.wrap (255 + k) = 255 + k := w64 (by omega)
      clear hA1 hC1 hV
      simp -implicitDefEqProofs [go_sem]
      refine goC_pure _ hf (by simp -implicitDefEqProofs [go_sem]) ?_
      simp -implicitDefEqProofs [go_sem]
      refine goC_pure _ hins (by simp -implicitDefEqProofs [go_sem] <;> exact hVr) ?_
      simp -implicitDefEqProofs [go_sem]
      refine goC_pure _ hgd (by simp -implicitDefEqProofs [go_sem] <;> exact hVr) ?_
      simp -implicitDefEqProofs [go_sem]
      refine goC_pure _ hcut (by simp -implicitDefEqProofs [go_sem]) ?_
      simp -implicitDefEqProofs [go_sem, lA1, lC1, k64]
      refine goC_pure _ r1 (by simp -implicitDefEqProofs [go_sem]) ?_
      simp -implicitDefEqProofs [go_sem]
      refine goC_pure _ a1 (by simp -implicitDefEqProofs [go_sem] <;> exact rA1) ?_
      simp -implicitDefEqProofs [go_sem, u2, u3, u4]
      refine goC_pure _ r2 (by simp -implicitDefEqProofs [go_sem]) ?_
      simp -implicitDefEqProofs [go_sem]
      refine goC_pure _ a2 (by simp -implicitDefEqProofs [go_sem]) ?_
      simp -implicitDefEqProofs [go_sem, u2, u3, u4]
      refine goC_pure _ r1 (by simp -implicitDefEqProofs [go_sem]) ?_
      simp -implicitDefEqProofs [go_sem]
      refine goC_pure _ a3 (by simp -implicitDefEqProofs [go_sem] <;> exact rC1) ?_
      simp -implicitDefEqProofs [go_sem, v2, v3, v4, k255]
      refine goC_pure _ r4 (by simp -implicitDefEqProofs [go_sem]) ?_
      simp -implicitDefEqProofs [go_sem]
      refine goC_pure _ a4 (by simp -implicitDefEqProofs [go_sem]) ?_
      simp -implicitDefEqProofs [go_sem, v2, v3, v4]
      refine goC_pure _ r5 (by simp -implicitDefEqProofs [go_sem]) ?_
      simp -implicitDefEqProofs [go_sem]
      refine goC_pure _ a5 (by simp -implicitDefEqProofs [go_sem] <;> exact rA1) ?_
      simp -implicitDefEqProofs [go_sem, w2', w3', w4']
      refine goC_pure _ r6 (by simp -implicitDefEqProofs [go_sem]) ?_
      simp -implicitDefEqProofs [go_sem]
      refine goC_pure _ a6 (by simp -implicitDefEqProofs [go_sem] <;> exact rC1) ?_
      simp -implicitDefEqProofs [go_sem, u2, u3, v2, v3, w2', w3', w4']
      refine goC_pure _ p1 (by simp -implicitDefEqProofs [go_sem] <;> exact u5) ?_
      simp -implicitDefEqProofs [go_sem, u2, u3, v2, v3, w2', w3', w4']
      refine goC_pure _ p2 (by simp -implicitDefEqProofs [go_sem] <;> exact v5) ?_
      simp -implicitDefEqProofs [go_sem, u2, u3, v2, v3, w2', w3', w4']
      refine goC_pure _ p3 (by simp -implicitDefEqProofs [go_sem] <;> exact w5') ?_
      simp -implicitDefEqProofs [go_sem]
      refine goC_pure _ hw (by simp -implicitDefEqProofs [go_sem]) ?_
      simp -implicitDefEqProofs [go_sem]
    · rw [decide_eq_false hG] at hgd
      unfold hL gL at *
      rw [← hV] at hins hgd
      simp -implicitDefEqProofs [go_sem]
      refine goC_pure _ hf (by simp -implicitDefEqProofs [go_sem]) ?_
      simp -implicitDefEqProofs [go_sem]
      refine goC_pure _ hins (by simp -implicitDefEqProofs [go_sem] <;> exact hVr) ?_
      simp -implicitDefEqProofs [go_sem]
      refine goC_pure _ hgd (by simp -implicitDefEqProofs [go_sem] <;> exact hVr) ?_
      simp -implicitDefEqProofs [go_sem]
      refine goC_pure _ hw (by simp -implicitDefEqProofs [go_sem]) ?_
      simp -implicitDefEqProofs [go_sem]
  · rw [decide_eq_false hF] at hf
    unfold hL at *
    simp -implicitDefEqProofs [go_sem]
    refine goC_pure _ hf (by simp -implicitDefEqProofs [go_sem]) ?_
    simp -implicitDefEqProofs [go_sem]
    refine goC_pure _ hw (by simp -implicitDefEqProofs [go_sem]) ?_
    simp -implicitDefEqProofs [go_sem]
end Go.Proofs.YtmhnmaklgcppbaaGreat
