/-
  Of the seat's texts, joined: RgC RgD LwE.
-/
import Derived.Test.YtmhnmaklgcppbaaGreatPkMa
namespace Go.Proofs.YtmhnmaklgcppbaaGreat
open Go Go.Proofs
set_option linter.unusedSimpArgs false
set_option linter.unusedVariables false
set_option maxRecDepth 20000

theorem mixQ_half (a b : Rat) : mixQ a b half = midQ a b := by unfold mixQ midQ half; grind
theorem mixT_half (a b : HQ) : a.mixT b half = a.mid b := by unfold HQ.mixT HQ.mid; simp only [mixQ_half]
@[go_sem] theorem slv_cons (sz : Nat) (a : AV) (l : List AV) : slv sz (a :: l) = .sl sz false (a :: l) := rfl
theorem slv_ne {sz : Nat} {l : List AV} (h : l ≠ []) : slv sz l = .sl sz false l := by simp [slv, h]
/-- The halves that the reference tells. -/
def gTwo (a b : List HQ) : AV := .agg [gL a, gL b]
theorem ro_gTwo (a b : List HQ) : ro (gTwo a b) := by unfold gTwo; simp only [ro, roL]; exact ⟨ro_gL a, ro_gL b, trivial⟩

theorem frz_ro (g : Nat) (m : List AV) {a : AV} (h : ro a) : frz g m a = a := by
  cases a <;> first | rfl | (simp only [ro] at h)
theorem map_frz (g : Nat) (m : List AV) {l : List AV} (h : roL l) : l.map (frz g m) = l := by
  have e : l.map (frz g m) = l.map id := List.map_congr_left fun x hx => frz_ro g m (roL_iff.1 h x hx)
  rw [e, List.map_id]
theorem elemsA_apv {f : Nat → BS} {sz id : Nat} {l : List AV} (h : l ≠ [] → f id = .live sz l) : elemsA f (apv sz id l) = some l := by
  by_cases hl : l = []
  · subst hl; rfl
  · rw [apv_ne hl]; simp only [elemsA, h hl, List.drop_zero, List.take_length]
theorem fitsA_apv {f : Nat → BS} {sz id : Nat} {l : List AV} (h : l ≠ [] → f id = .live sz l) : fitsA f (apv sz id l) := by
  by_cases hl : l = []
  · subst hl; trivial
  · rw [apv_ne hl]; simp only [fitsA, h hl]; omega
theorem szA_apv {sz id : Nat} {l : List AV} : szA (apv sz id l) = sz ∨ l = [] := by
  by_cases hl : l = []
  · exact .inr hl
  · rw [apv_ne hl]; exact .inl rfl

set_option maxHeartbeats 4000000 in
theorem gcut_pure (v : List HQ) (hs : ∀ x ∈ v, x.sz ≤ 1048576) (hn1 : 1 ≤ v.length) (hn4 : v.length ≤ 4) : Pure Tryz.prog 20 [gL v] (gTwo (cutL v.length v) (cutR v.length v)) := by
  have hof := fof_pure 1 2 (by omega) (by omega) (by omega)
  change Pure _ _ _ (fA half) at hof
  have hrs : ∀ j, j ≤ 4 → ∀ x ∈ rowN j v, x.sz ≤ 268435456 := fun j hj x hx => by
    have h1 := rowN_all (by omega) hs j x hx
    have h2 : 4 ^ j ≤ 4 ^ 4 := Nat.pow_le_pow_right (by omega) hj
    have h3 : 4 ^ j * 1048576 ≤ 4 ^ 4 * 1048576 := Nat.mul_le_mul_right _ h2
    omega
  obtain ⟨n, hn⟩ : ∃ n, n = v.length := ⟨_, rfl⟩
  refine Pure.of_go mixed Tryz.func20 rfl (rs := [.cell 2 35]) rfl (by kernel_rfl) (ro_gTwo _ _) ?_
  have hmix : ∀ x y : HQ, x.sz ≤ 268435456 → y.sz ≤ 268435456 → Pure Tryz.prog 67 [gA x, gA y, fA half] (gA (x.mid y)) := fun x y hx hy => by
    have := gmix_pure x y half hx hy (by have := sz_half; omega)
    rwa [mixT_half] at this
  obtain ⟨ch, e1, e2, e3, e4⟩ : ∃ ch, fA half = .agg ch ∧ ch.length = 3 ∧ ch.take 3 = ch ∧ roL ch := ⟨_, rfl, rfl, rfl, by have := ro_fA half; unfold fA at this; simpa only [ro] using this⟩
  have hx9 : ∀ h : HQ, ∃ cs, gA h = .agg cs ∧ cs.length = 9 ∧ cs.take 9 = cs ∧ roL cs := ga_agg
  unfold gTwo gL at *
  rw [e1] at hof hmix
  obtain ⟨z2, hz2, z21, z22⟩ : ∃ z2, z2 = [AV.sl 0 true [], AV.sl 0 true []] ∧ z2.length = 2 ∧ z2.drop 2 = [] := ⟨_, rfl, rfl, rfl⟩
  simp -implicitDefEqProofs [go_sem, aresK, oneOf, view, fits, viewL, fitsL, nA, mA, clo, cloL, ro, roL]
  refine goC_pure _ hof (by simp -implicitDefEqProofs [go_sem, aresK, oneOf, view, fits, viewL, fitsL, nA, mA, clo, cloL, ro, roL, e4]) ?_
  simp -implicitDefEqProofs [go_sem, aresK, oneOf, view, fits, viewL, fitsL, nA, mA, clo, cloL, ro, roL, e2, e3]
  have hnil : ∀ (k : Nat), AV.agg [AV.sl 0 true [], AV.sl 0 true []] = AV.agg [apv 9 3 ((cutL 0 v).map gA), apv 9 4 ((cutR 0 v).map gA)] := fun _ => rfl
  have hsl0 : AV.sl 9 false (v.map gA) = slv 9 ((rowN 0 v).map gA) := by rw [slv_ne (by intro h; simp [rowN] at h; rw [h] at hn1; simp at hn1)]; rfl
  refine go_loopN 8 (α := {j : Nat // j ≤ n}) (fun j => [(2, .ptr 0 0 0), (3, .ptr 1 0 0), (4, slv 9 ((rowN j.1 v).map gA)), (5, .ptr 2 0 0)])
    (fun j => [(0, .live 2 [.agg [.sl 0 true [], .sl 0 true []]]), (1, .live 3 [.agg ch]), (2, .live 2 [.agg [apv 9 3 ((cutL j.1 v).map gA), apv 9 4 ((cutR j.1 v).map gA)]])] ++ (apb 9 3 ((cutL j.1 v).map gA) ++ apb 9 4 ((cutR j.1 v).map gA)))
    (fun j => n - j.1) ⟨0, by omega⟩ [] (by simp) (fun _ _ _ _ h => h) (by omega) (by simp -implicitDefEqProofs [go_sem, aresK, oneOf, view, fits, viewL, fitsL, nA, mA, clo, cloL, ro, roL, ← hsl0]) (by simp -implicitDefEqProofs [go_sem, aresK, oneOf, view, fits, viewL, fitsL, nA, mA, clo, cloL, ro, roL, cutL, cutR]; exact ⟨(renL_ro _ _ e4).symm, cloL_ro _ e4⟩) fun ⟨j, hj⟩ => ?_
  simp only
  have hrl := rowN_len j v
  have hrz := hrs j (by omega)
  have cL1 : cutL (j + 1) v = cutL j v ++ [(rowN j v).headD hQ0] := rfl
  have cR1 : cutR (j + 1) v = (rowN j v).getLastD hQ0 :: cutR j v := rfl
  have rN1 : rowN (j + 1) v = mids (rowN j v) := rfl
  have hLl := cutL_len j v
  have hRl := cutR_len j v
  obtain ⟨L, hL⟩ : ∃ L, L = (cutL j v).map gA := ⟨_, rfl⟩
  obtain ⟨R, hR⟩ : ∃ R, R = (cutR j v).map gA := ⟨_, rfl⟩
  have hLr : roL L := by rw [hL]; exact roL_gA _
  have hRr : roL R := by rw [hR]; exact roL_gA _
  have hLL : L.length = j := by rw [hL]; simp [hLl]
  have hRL : R.length = j := by rw [hR]; simp [hRl]
  rw [← hL, ← hR]
  have h3 : L ≠ [] → hp 8 (apb 9 3 L ++ apb 9 4 R) 3 = .live 9 L := fun h => by rw [apb_ne h]; simp [hp, upd]
  have h4 : R ≠ [] → hp 8 (apb 9 3 L ++ apb 9 4 R) 4 = .live 9 R := fun h => by
    rw [apb_ne h, apb_ne (l := L) (fun h' => h (List.eq_nil_of_length_eq_zero (by rw [hRL, ← hLL, h']; rfl)))]; simp [hp, upd]
  by_cases hjn : j < n
  · have hne : (rowN j v).map gA ≠ [] := by intro h; have := congrArg List.length h; simp [hrl] at this; omega
    rw [slv_ne hne]
    obtain ⟨W, hW⟩ : ∃ W, W = rowN j v := ⟨_, rfl⟩
    rw [← hW] at hne hrl hrz cL1 cR1 rN1 ⊢
    have hWl : 0 < W.length := by omega
    have hW0 : W ≠ [] := by intro h; rw [h] at hWl; simp at hWl
    have ew : IntKind.i64.wrap ((W.length : Int) - 1) = (W.length - 1 : Nat) := by rw [w64 (by omega)]; omega
    have hg0 := getE_gA (l := W) (i := 0) hWl
    have hgl := getE_gA (l := W) (i := W.length - 1) (by omega)
    have hd0 : W.headD hQ0 = W[0] := by cases W with | nil => simp at hWl | cons a r => rfl
    have hdl : W.getLastD hQ0 = W[W.length - 1] := by
      rw [List.getLastD_eq_getLast?, List.getLast?_eq_getElem?, List.getElem?_eq_getElem (by omega)]; rfl
    rw [hd0] at cL1
    rw [hdl] at cR1
    obtain ⟨c0, a1, a2, a3, a4⟩ := hx9 W[0]
    obtain ⟨cl, b1, b2, b3, b4⟩ := hx9 (W[W.length - 1]'(by omega))
    rw [a1] at hg0
    rw [b1] at hgl
    have hg0' : getE (W.map gA) 0 = .agg c0 := hg0
    obtain ⟨w1, hw1⟩ : ∃ w1, w1 = W.length - 1 := ⟨_, rfl⟩
    rw [← hw1] at ew hgl
    simp -implicitDefEqProofs [go_sem, aresK, oneOf, view, fits, viewL, fitsL, nA, mA, clo, cloL, ro, roL, hg0', a2, a3, hW0, hWl]
    have hew : ((w1 : Nat) : Int) < W.length := by omega
    refine goApS_apv (.inl rfl) (by omega) (by omega) (by simp -implicitDefEqProofs [go_sem, aresK, oneOf, view, fits, viewL, fitsL, nA, mA, clo, cloL, ro, roL]) (by simp; omega) (by simp -implicitDefEqProofs [go_sem, aresK, oneOf, view, fits, viewL, fitsL, nA, mA, clo, cloL, ro, roL]; exact h3) ?_
    simp -implicitDefEqProofs [go_sem, aresK, oneOf, view, fits, viewL, fitsL, nA, mA, clo, cloL, ro, roL, ew, hgl, b2, b3]
    generalize hH : hp 8 (apb 9 3 L ++ apb 9 4 R) = H at *
    refine ⟨by omega, ?_⟩
    rw [elemsA_apv (by simp -implicitDefEqProofs [go_sem, aresK, oneOf, view, fits, viewL, fitsL, nA, mA, clo, cloL, ro, roL]; intro h; rw [h4 h]; rfl)]
    simp -implicitDefEqProofs [go_sem, aresK, oneOf, view, fits, viewL, fitsL, nA, mA, clo, cloL, ro, roL]
    refine ⟨szA_apv, fitsA_apv (by simp -implicitDefEqProofs [go_sem, aresK, oneOf, view, fits, viewL, fitsL, nA, mA, clo, cloL, ro, roL]; intro h; rw [h4 h]; rfl), by omega, ?_⟩
    obtain ⟨L1, hL1⟩ : ∃ L1, L1 = L ++ [AV.agg c0] := ⟨_, rfl⟩
    obtain ⟨R1, hR1⟩ : ∃ R1, R1 = AV.agg cl :: R := ⟨_, rfl⟩
    have hLL1 : L.length + 1 = L1.length := by rw [hL1]; simp
    have hRL1 : 1 + R.length = R1.length := by rw [hR1]; simp; omega
    have hL1r : roL L1 := by rw [hL1]; exact roL_append.2 ⟨hLr, by simp only [roL, ro]; exact ⟨a4, trivial⟩⟩
    have hR1r : roL R1 := by rw [hR1]; simp only [roL, ro]; exact ⟨b4, hRr⟩
    have hLe : L1 = (cutL (j + 1) v).map gA := by rw [hL1, cL1, List.map_append, hL, List.map_singleton, a1]
    have hRe : R1 = (cutR (j + 1) v).map gA := by rw [hR1, cR1, List.map_cons, hR, ← b1]
    rw [hLL1, hRL1, ← hL1, ← hR1]
    obtain ⟨M, hM⟩ : ∃ M, M = (mids W).map gA := ⟨_, rfl⟩
    have hMl : M.length = w1 := by rw [hM]; simp [mids_len, hw1]
    have hMr : ∀ i, roL (M.take i) := fun i => roL_take (by rw [hM]; exact roL_gA _)
    have hWr : roL (W.map gA) := roL_gA _
    clear hgl hg0 hg0'
    refine go_loopN 8 (α := {i : Nat // i ≤ w1}) (fun i => [(2, .ptr 0 0 0), (3, .ptr 1 0 0), (4, .sl 9 false (W.map gA)), (5, .ptr 2 0 0), (6, apv 9 5 (M.take i.1)), (7, .int .i64 i.1)])
      (fun i => [(0, .live 2 [.agg [.sl 0 true [], .sl 0 true []]]), (1, .live 3 [.agg ch]), (2, .live 2 [.agg [.own 9 3 0 L1.length, .own 9 4 0 R1.length]]), (3, .live 9 L1), (4, .live 9 R1)] ++ apb 9 5 (M.take i.1))
      (fun i => w1 - i.1) ⟨0, Nat.zero_le _⟩ [(3, 14), (4, 26)] (by simp) (by simp [nm, apb_nil]) (by omega) (by simp -implicitDefEqProofs [go_sem, aresK, oneOf, view, fits, viewL, fitsL, nA, mA, clo, cloL, ro, roL]) (by simp -implicitDefEqProofs [go_sem, aresK, oneOf, view, fits, viewL, fitsL, nA, mA, clo, cloL, ro, roL]; exact ⟨⟨(renL_ro _ _ e4).symm, cloL_ro _ e4⟩, ⟨(renL_ro _ _ hL1r).symm, cloL_ro _ hL1r⟩, (renL_ro _ _ hR1r).symm, cloL_ro _ hR1r⟩) fun ⟨i, hi⟩ => ?_
    have h5 : M.take i ≠ [] → hp 8 (apb 9 5 (M.take i)) 5 = .live 9 (M.take i) := fun h => by rw [apb_ne h]; simp [hp, upd]
    have hTl : (M.take i).length = i := by rw [List.length_take]; omega
    have e1 : IntKind.i64.wrap ((i : Int) + 1) = (i + 1 : Nat) := by rw [w64 (by omega)]; omega
    obtain ⟨i1, hi1⟩ : ∃ i1, i1 = i + 1 := ⟨_, rfl⟩
    rw [← hi1] at e1
    simp -implicitDefEqProofs [go_sem, aresK, oneOf, view, fits, viewL, fitsL, nA, mA, clo, cloL, ro, roL, e1]
    refine ⟨fun h => ?_, fun h => ?_⟩
    · have hii : i < W.length := by omega
      have hgi := getE_gA (l := W) (i := i) hii
      have hg1 := getE_gA (l := W) (i := i1) h
      have hm := hmix W[i] W[i1] (hrz _ (List.getElem_mem _)) (hrz _ (List.getElem_mem _))
      have hMi : M[i]'(by omega) = gA (W[i].mid W[i1]) := by
        subst hM
        rw [List.getElem_map, mids_get W i (by omega)]
        simp only [hi1]
      have hTs : M.take i1 = M.take i ++ [gA (W[i].mid W[i1])] := by
        have hT := List.take_succ_eq_append_getElem (l := M) (i := i) (by omega)
        rw [← hi1, hMi] at hT
        exact hT
      have hmin : min i M.length = i := by omega
      have hT1r := hMr i1
      obtain ⟨ca, k1, k2, k3, k4⟩ := hx9 W[i]
      obtain ⟨cb, l1, l2, l3, l4⟩ := hx9 W[i1]
      obtain ⟨cm, m1, m2, m3, m4⟩ := hx9 (W[i].mid W[i1])
      rw [k1] at hgi hm
      rw [l1] at hg1 hm
      rw [m1] at hm hTs
      rw [hTs] at hT1r
      simp -implicitDefEqProofs [go_sem, aresK, oneOf, view, fits, viewL, fitsL, nA, mA, clo, cloL, ro, roL, hgi, hg1, k2, k3, l2, l3, e2, e3]
      refine ⟨hii, h, goD_pure _ hm (by simp -implicitDefEqProofs [go_sem, aresK, oneOf, view, fits, viewL, fitsL, nA, mA, clo, cloL, ro, roL, k4, l4, e4]) ?_⟩
      simp -implicitDefEqProofs [go_sem, aresK, oneOf, view, fits, viewL, fitsL, nA, mA, clo, cloL, ro, roL, m2, m3]
      refine goApS_apv (.inl rfl) (by omega) (by omega) (by simp -implicitDefEqProofs [go_sem, aresK, oneOf, view, fits, viewL, fitsL, nA, mA, clo, cloL, ro, roL]) (by simp [hTl] <;> omega) (by simp -implicitDefEqProofs [go_sem, aresK, oneOf, view, fits, viewL, fitsL, nA, mA, clo, cloL, ro, roL] <;> exact h5) ?_
      simp -implicitDefEqProofs [go_sem, aresK, oneOf, view, fits, viewL, fitsL, nA, mA, clo, cloL, ro, roL, e1]
      have r1 := (renL_ro (nm [(5, 21)]) _ e4).symm
      have r2 := (renL_ro (nm [(5, 21)]) _ hL1r).symm
      have r3 := (renL_ro (nm [(5, 21)]) _ hR1r).symm
      have r4 := (renL_ro (nm [(5, 21)]) _ hT1r).symm
      have q1 := cloL_ro (n := 8) _ e4
      have q2 := cloL_ro (n := 8) _ hL1r
      have q3 := cloL_ro (n := 8) _ hR1r
      have q4 := cloL_ro (n := 8) _ hT1r
      refine go_again ⟨i1, by omega⟩ (by simp only; omega) [(5, 21)] (by simp) (by simp only [hTs, apb_app]; simp [nm]) (by simp) (by simp only [hTs]; simp -implicitDefEqProofs [go_sem, aresK, oneOf, view, fits, viewL, fitsL, nA, mA, clo, cloL, ro, roL, hTl, hmin]) (by simp only [hTs]; simp -implicitDefEqProofs [go_sem, aresK, oneOf, view, fits, viewL, fitsL, nA, mA, clo, cloL, ro, roL, ← r1, ← r2, ← r3, ← r4, q1, q2, q3, q4])
    · have hiw : i = w1 := by omega
      have hTM : M.take i = M := List.take_of_length_le (by omega)
      rw [hTM] at h5 ⊢
      have hMe : M = (rowN (j + 1) v).map gA := by rw [rN1, hM]
      have hL1n : L1 ≠ [] := by intro h; rw [h] at hLL1; simp at hLL1
      have hR1n : R1 ≠ [] := by intro h; rw [h] at hRL1; simp at hRL1
      have hMr0 : roL M := by rw [hM]; exact roL_gA _
      have r1 := (renL_ro (nm []) _ e4).symm
      have r2 := (renL_ro (nm []) _ hL1r).symm
      have r3 := (renL_ro (nm []) _ hR1r).symm
      have r4 := (renL_ro (nm []) _ hMr0).symm
      have q1 := cloL_ro (n := 8) _ e4
      have q2 := cloL_ro (n := 8) _ hL1r
      have q3 := cloL_ro (n := 8) _ hR1r
      have q4 := cloL_ro (n := 8) _ hMr0
      by_cases hM0 : M = []
      · refine go_again ⟨j + 1, by omega⟩ (by simp only; omega) [] (by simp) (by simp only [← hLe, ← hRe, apb_ne hL1n, apb_ne hR1n]; simp [nm]) (by simp) (by simp only [← hMe, ← hLe, ← hRe]; simp -implicitDefEqProofs [go_sem, aresK, oneOf, view, fits, viewL, fitsL, nA, mA, clo, cloL, ro, roL, hM0, slv]) (by simp only [← hLe, ← hRe, apb_ne hL1n, apb_ne hR1n, apv_ne hL1n, apv_ne hR1n]; simp -implicitDefEqProofs [go_sem, aresK, oneOf, view, fits, viewL, fitsL, nA, mA, clo, cloL, ro, roL, ← r1, ← r2, ← r3, q1, q2, q3, hM0])
      · have hg5 := h5 hM0
        have hap := apv_ne (sz := 9) (id := 5) hM0
        refine go_againF 5 9 M (by simp -implicitDefEqProofs [go_sem, aresK, oneOf, view, fits, viewL, fitsL, nA, mA, clo, cloL, ro, roL, hg5]) ⟨j + 1, by omega⟩ (by simp only; omega) [] (by simp) (by simp only [← hLe, ← hRe, apb_ne hL1n, apb_ne hR1n]; simp [nm]) (by simp) (by simp only [← hMe, ← hLe, ← hRe, slv_ne hM0, hap]; simp -implicitDefEqProofs [go_sem, aresK, oneOf, view, fits, viewL, fitsL, nA, mA, clo, cloL, ro, roL]; exact ⟨r4, q4⟩) (by simp only [← hLe, ← hRe, apb_ne hL1n, apb_ne hR1n, apv_ne hL1n, apv_ne hR1n]; simp -implicitDefEqProofs [go_sem, aresK, oneOf, view, fits, viewL, fitsL, nA, mA, clo, cloL, ro, roL, ← r1, ← r2, ← r3, q1, q2, q3, hg5, map_frz 5 M hL1r, map_frz 5 M hR1r])
  · have hjn' : j = n := by omega
    have hnil : rowN j v = [] := List.eq_nil_of_length_eq_zero (by omega)
    have hLn : L ≠ [] := by intro h; rw [h] at hLL; simp at hLL; omega
    have hRn : R ≠ [] := by intro h; rw [h] at hRL; simp at hRL; omega
    have hLe : (cutL v.length v).map gA = L := by rw [hL, hjn', hn]
    have hRe : (cutR v.length v).map gA = R := by rw [hR, hjn', hn]
    rw [hLe, hRe, apv_ne hLn, apv_ne hRn]
    simp -implicitDefEqProofs [go_sem, aresK, oneOf, view, fits, viewL, fitsL, nA, mA, clo, cloL, ro, roL, hnil, slv, rop, h3 hLn, h4 hRn]
end Go.Proofs.YtmhnmaklgcppbaaGreat
namespace Go.Proofs.YtmhnmaklgcppbaaGreat
open Go Go.Proofs
set_option linter.unusedSimpArgs false
set_option linter.unusedVariables false
set_option maxRecDepth 20000

/-- Curves of the reference. -/
def gLL (ls : List (List HQ)) : AV := .sl 1 false (ls.map gL)
@[go_sem] theorem roL_gL (ls : List (List HQ)) : roL (ls.map gL) := roL_map ro_gL
theorem ro_gLL (ls : List (List HQ)) : ro (gLL ls) := by unfold gLL; simp only [ro]; exact roL_gL ls
@[go_sem] theorem renL_gL (rn : Nat → Nat) (l : List (List HQ)) : renL rn (l.map gL) = l.map gL := renL_ro rn _ (roL_gL l)
@[go_sem] theorem cloL_gL (n : Nat) (l : List (List HQ)) : cloL n (l.map gL) := cloL_ro _ (roL_gL l)
@[go_sem] theorem fitsL_gL (f : Nat → BS) (l : List (List HQ)) : fitsL f (l.map gL) := fitsL_ro f _ (roL_gL l)
@[go_sem] theorem viewL_gL (f : Nat → BS) (l : List (List HQ)) : viewL f (l.map gL) = l.map gL := viewL_ro f _ (roL_gL l)
theorem getE_gL {l : List (List HQ)} {i : Nat} (h : i < l.length) : getE (l.map gL) (i : Int) = gL l[i] := by
  simp [getE, List.getD_eq_getElem?_getD, h]
theorem getE_qL {l : List (List HQ)} {i : Nat} (h : i < l.length) : getE (l.map qL) (i : Int) = qL l[i] := by
  simp [getE, List.getD_eq_getElem?_getD, h]

set_option maxHeartbeats 4000000 in
theorem gmany_pure (v : List HQ) (d : Nat) (hd : d ≤ 3) (hs : ∀ x ∈ v, x.sz ≤ 4) (hG : GoodC v) : Pure Tryz.prog 23 [gL v, .int .i64 d] (gLL (manyQ d v)) := by
  have hall := manyQ_all (n := 4) (by omega) hG hs
  have hlen := manyQ_len
  refine Pure.of_go mixed Tryz.func23 rfl (rs := [.tmp 4]) rfl (by kernel_rfl) (ro_gLL _) ?_
  have hgv := ro_gL v
  unfold gLL
  obtain ⟨gv, hgv2⟩ : ∃ gv, gv = gL v := ⟨_, rfl⟩
  have hsh : gv.shaped 1 = true := by rw [hgv2]; rfl
  rw [← hgv2] at hgv ⊢
  simp -implicitDefEqProofs [go_sem, aresK, oneOf, view, fits, viewL, fitsL, nA, mA, clo, cloL, ro, roL, hsh]
  have hpow : ∀ k, k ≤ d → 2 ^ k ≤ 8 := fun k hk => by
    have : 2 ^ k ≤ 2 ^ 3 := Nat.pow_le_pow_right (by omega) (by omega)
    omega
  refine go_loopF 0 1 [gv] (by simp -implicitDefEqProofs [go_sem, aresK, oneOf, view, fits, viewL, fitsL, nA, mA, clo, cloL, ro, roL]) 2 (α := {k : Nat // k ≤ d}) (fun k => [(1, .int .i64 d), (5, .sl 1 false ((manyQ k.1 v).map gL)), (6, .int .i64 k.1)]) (fun k => []) (fun k => d - k.1) ⟨0, by omega⟩ [] (by simp) (by simp) (by omega) (by simp -implicitDefEqProofs [go_sem, aresK, oneOf, view, fits, viewL, fitsL, nA, mA, clo, cloL, ro, roL, manyQ, ← hgv2]; exact ⟨(ren_ro _ _ hgv).symm, clo_ro _ hgv⟩) (by simp) fun ⟨k, hk⟩ => ?_
  have hk8 := hpow k hk
  have hkl := hlen k v
  simp -implicitDefEqProofs [go_sem, aresK, oneOf, view, fits, viewL, fitsL, nA, mA, clo, cloL, ro, roL]
  refine ⟨fun h => ?_, fun h => ?_⟩
  · obtain ⟨W, hW⟩ : ∃ W, W = manyQ k v := ⟨_, rfl⟩
    have hWa := hall k
    have hW1 : manyQ (k + 1) v = W.flatMap cut2 := by rw [hW]; rfl
    rw [← hW] at hkl hWa ⊢
    have e1 : IntKind.i64.wrap ((k : Int) + 1) = (k + 1 : Nat) := by rw [w64 (by omega)]; omega
    obtain ⟨nx, hnx⟩ : ∃ nx : Nat → List AV, nx = fun i => ((W.take i).flatMap cut2).map gL := ⟨_, rfl⟩
    have hnr : ∀ i, roL (nx i) := fun i => by rw [hnx]; exact roL_gL _
    have hnl : ∀ i, i ≤ W.length → (nx i).length = 2 * i := fun i hi => by
      rw [hnx]
      simp only [List.length_map]
      have : ∀ ls : List (List HQ), (ls.flatMap cut2).length = 2 * ls.length := fun ls => by
        induction ls with
        | nil => rfl
        | cons a r ih => rw [List.flatMap_cons, List.length_append, ih]; simp [cut2]; omega
      rw [this, List.length_take]; omega
    have hn0 : nx 0 = [] := by rw [hnx]; rfl
    have hns : ∀ i (hi : i < W.length), nx (i + 1) = nx i ++ [gL (cutL W[i].length W[i]), gL (cutR W[i].length W[i])] := fun i hi => by
      rw [hnx]
      simp only [List.take_succ_eq_append_getElem hi, List.flatMap_append, List.map_append, List.flatMap_cons, List.flatMap_nil, List.append_nil, cut2, List.map_cons, List.map_nil]
    have hne : nx W.length = (manyQ (k + 1) v).map gL := by rw [hnx, hW1]; simp only [List.take_length]
    refine go_loopN 2 (α := {i : Nat // i ≤ W.length}) (fun i => [(1, .int .i64 d), (5, .sl 1 false (W.map gL)), (6, .int .i64 k), (7, apv 1 1 (nx i.1)), (8, .int .i64 i.1)]) (fun i => apb 1 1 (nx i.1)) (fun i => W.length - i.1) ⟨0, Nat.zero_le _⟩ [] (by simp) (by simp [hn0, apb_nil]) (by omega) (by simp -implicitDefEqProofs [go_sem, aresK, oneOf, view, fits, viewL, fitsL, nA, mA, clo, cloL, ro, roL, hn0]) (by simp -implicitDefEqProofs [go_sem, aresK, oneOf, view, fits, viewL, fitsL, nA, mA, clo, cloL, ro, roL, hn0]) fun ⟨i, hi⟩ => ?_
    simp only
    have h5 : nx i ≠ [] → hp 2 (apb 1 1 (nx i)) 1 = .live 1 (nx i) := fun h => by rw [apb_ne h]; simp [hp, upd]
    have hTl := hnl i hi
    simp -implicitDefEqProofs [go_sem, aresK, oneOf, view, fits, viewL, fitsL, nA, mA, clo, cloL, ro, roL]
    refine ⟨fun h2 => ?_, fun h2 => ?_⟩
    · have hg := getE_gL (l := W) (i := i) h2
      obtain ⟨q1, q2, q3⟩ := hWa W[i] (List.getElem_mem _)
      have hc := gcut_pure W[i] (fun x hx => by
        have h1 := q3 x hx
        have h2 : 64 ^ k ≤ 64 ^ 3 := Nat.pow_le_pow_right (by omega) (by omega)
        have h3 : 64 ^ k * 4 ≤ 64 ^ 3 * 4 := Nat.mul_le_mul_right _ h2
        omega) (by have := q1.2.1; omega) q1.2.2
      have hs1 := hns i h2
      have hnl1 := hnl (i + 1) (by omega)
      have es : IntKind.i64.wrap ((i : Int) + 1) = (i + 1 : Nat) := by rw [w64 (by omega)]; omega
      simp only [gL] at hg hs1
      simp only [gL, gTwo] at hc
      generalize (cutL W[i].length W[i]).map gA = A at *
      generalize (cutR W[i].length W[i]).map gA = B at *
      have hAr : roL A ∧ roL B := by
        have := hc.1
        simpa only [ro, roL, and_true] using this
      obtain ⟨hAr, hBr⟩ := hAr
      simp -implicitDefEqProofs [go_sem, aresK, oneOf, view, fits, viewL, fitsL, nA, mA, clo, cloL, ro, roL, hg]
      refine ⟨h2, goC_pure _ hc (by simp -implicitDefEqProofs [go_sem, aresK, oneOf, view, fits, viewL, fitsL, nA, mA, clo, cloL, ro, roL]) ?_⟩
      simp -implicitDefEqProofs [go_sem, aresK, oneOf, view, fits, viewL, fitsL, nA, mA, clo, cloL, ro, roL]
      refine goApS_apv (.inl rfl) (by omega) (by omega) (by simp -implicitDefEqProofs [go_sem, aresK, oneOf, view, fits, viewL, fitsL, nA, mA, clo, cloL, ro, roL]) (by simp [hTl] <;> omega) (by simp -implicitDefEqProofs [go_sem, aresK, oneOf, view, fits, viewL, fitsL, nA, mA, clo, cloL, ro, roL] <;> exact h5) ?_
      simp -implicitDefEqProofs [go_sem, aresK, oneOf, view, fits, viewL, fitsL, nA, mA, clo, cloL, ro, roL, es]
      have hn1 : nx (i + 1) ≠ [] := by rw [hs1]; simp
      have hv1 := apv_ne (sz := 1) (id := 1) hn1
      have hb1 := apb_ne (sz := 1) (id := 1) hn1
      have hl1 : (nx (i + 1)).length = (nx i).length + 2 := by rw [hs1]; simp
      rw [← hs1]
      have r1 := (renL_ro (nm [(1, 4)]) _ (hnr (i + 1))).symm
      have q1 := cloL_ro (n := 2) _ (hnr (i + 1))
      refine go_again ⟨i + 1, h2⟩ (by simp only; omega) [(1, 4)] (by simp) (by simp only [hb1]; simp [nm]) (by simp) (by simp only [hv1]; simp -implicitDefEqProofs [go_sem, aresK, oneOf, view, fits, viewL, fitsL, nA, mA, clo, cloL, ro, roL, hl1, es]) (by simp only [hb1]; simp -implicitDefEqProofs [go_sem, aresK, oneOf, view, fits, viewL, fitsL, nA, mA, clo, cloL, ro, roL, ← r1, q1])
    · have hiW : i = W.length := by omega
      rw [hiW, hne] at h5 ⊢
      have hn0' : (manyQ (k + 1) v).map gL ≠ [] := by
        intro h
        have := congrArg List.length h
        simp only [List.length_map, hlen, List.length_nil] at this
        have := Nat.pow_pos (n := k + 1) (show 0 < 2 by omega)
        omega
      have hg5 := h5 hn0'
      have hap := apv_ne (sz := 1) (id := 1) hn0'
      have hMr0 : roL ((manyQ (k + 1) v).map gL) := roL_gL _
      refine go_againF 1 1 ((manyQ (k + 1) v).map gL) (by simp -implicitDefEqProofs [go_sem, aresK, oneOf, view, fits, viewL, fitsL, nA, mA, clo, cloL, ro, roL, hg5]) ⟨k + 1, by omega⟩ (by simp only; omega) [] (by simp) (by simp) (by simp) (by simp only [hap]; simp -implicitDefEqProofs [go_sem, aresK, oneOf, view, fits, viewL, fitsL, nA, mA, clo, cloL, ro, roL, e1]; exact List.take_of_length_le (by simp)) (by simp)
  · have hkd : k = d := by omega
    rw [hkd]
end Go.Proofs.YtmhnmaklgcppbaaGreat
namespace Go.Proofs.YtmhnmaklgcppbaaGreat
open Go Go.Proofs
set_option linter.unusedSimpArgs false
set_option linter.unusedVariables false
set_option maxRecDepth 20000

theorem homsq_self (l : List HQ) (hl : l.length < 1099511627776) (hs : ∀ h ∈ l, h.sz < 1099511627776) : Pure Tryz.prog 21 [qL l, qL l] (.bool true) := by
  have := homs_self l hl hs
  rwa [qL_hL] at this

set_option maxHeartbeats 8000000 in
theorem hcuts_pure (l : List HR) (deep : Int) (hl : l.length ≤ 9223372036854775807) (hm : ∀ h ∈ l, h.Lm) : Pure Tryz.prog 3 [hL l, .int .i64 deep] (.bool true) := by
  have hf := fair_pure l hl
  have hw := hwakes_pure
  refine Pure.of_goz true mixed Tryz.func3 rfl (rs := [.tmp 4]) rfl (by kernel_rfl) (by simp -implicitDefEqProofs [go_sem, aresK, oneOf, view, fits, viewL, fitsL, nA, mA, clo, cloL, ro, roL]) ?_
  by_cases hF : FairL l
  · have hz : ∀ h ∈ l, h.In 4 := fun h hh => (hm h hh).inn (hF.1 h hh)
    have hl6 := hF.2
    have hins := gins_pure l (by omega) (fun h hh => (hz h hh).mono)
    have hgd := ggood_pure (l.map HR.val) (by simp; omega)
    obtain ⟨v, hv⟩ : ∃ v, v = l.map HR.val := ⟨_, rfl⟩
    have hvl : v.length = l.length := by rw [hv]; simp
    have hvs : ∀ h ∈ v, h.sz ≤ 4 := by
      intro x hx
      rw [hv] at hx
      obtain ⟨y, hy, rfl⟩ := List.mem_map.1 hx
      exact (hz y hy).sz
    obtain ⟨V, hV⟩ : ∃ V, V = v.map gA := ⟨_, rfl⟩
    have hVr : roL V := by rw [hV]; exact roL_gA _
    rw [decide_eq_true hF] at hf
    have hcy := cut_pure l (fun h hh => (hz h hh).mono)
    have hcn := cut_none l (by omega) (fun h hh => (hz h hh).w.sm.ok)
    have hmy := fun d (hd : d ≤ 3) => many_pure l d (by omega) (fun h hh => (hz h hh).mono)
    have hmn := fun d hd => many_none l d hd (by omega) (fun h hh => (hz h hh).w.sm.ok)
    have hma := fun d hd => many_arg (hL l) (ro_hL l) d hd
    rw [← hv] at hins hgd hcy hcn hmy hmn
    have hgL : gL v = .sl 9 false V := by unfold gL; rw [hV]
    rw [hgL] at hins hgd
    unfold hL at *
    by_cases hd : 3 < deep ∧ deep ≤ 10
    · simp -implicitDefEqProofs [go_sem, aresK, oneOf, view, fits, viewL, fitsL, nA, mA, clo, cloL, ro, roL]
      refine goC_pure _ hf (by simp -implicitDefEqProofs [go_sem, aresK, oneOf, view, fits, viewL, fitsL, nA, mA, clo, cloL, ro, roL]) ?_
      simp -implicitDefEqProofs [go_sem, aresK, oneOf, view, fits, viewL, fitsL, nA, mA, clo, cloL, ro, roL, hd.1, hd.2]
      refine goC_pure _ hw (by simp -implicitDefEqProofs [go_sem, aresK, oneOf, view, fits, viewL, fitsL, nA, mA, clo, cloL, ro, roL]) ?_
      simp -implicitDefEqProofs [go_sem, aresK, oneOf, view, fits, viewL, fitsL, nA, mA, clo, cloL, ro, roL]
    have hcase : (deep < 0 ∨ 10 < deep) ∨ ∃ d : Nat, deep = d ∧ d ≤ 3 := by
      rcases Classical.em (deep < 0 ∨ 10 < deep) with h | h
      · exact .inl h
      · exact .inr ⟨deep.toNat, by omega, by omega⟩
    have hb1 : ((3 < deep) ∧ deep ≤ 10) = False := by simp; omega
    by_cases hG : GoodC v
    · have hcy := hcy hG
      have hgc := gcut_pure v (fun x hx => by have := hvs x hx; omega) (by have := hG.2.1; omega) hG.2.2
      rw [decide_eq_true hG] at hgd
      have hn4 := hG.2.2
      obtain ⟨g1, g2⟩ := cut_good hG
      obtain ⟨s1, s2⟩ := cut_sz (n := 4) (by omega) hn4 hvs
      have hAl := cutL_len v.length v
      have hCl := cutR_len v.length v
      rw [← hvl] at hcy
      rw [hgL] at hgc
      have ho1 := gouts_pure (cutL v.length v) (by omega) (fun h hh => by have := s1 h hh; omega)
      have ho2 := gouts_pure (cutR v.length v) (by omega) (fun h hh => by have := s2 h hh; omega)
      have hk1 := homsq_self (cutL v.length v) (by omega) (fun h hh => by have := s1 h hh; omega)
      have hk2 := homsq_self (cutR v.length v) (by omega) (fun h hh => by have := s2 h hh; omega)
      generalize cutL v.length v = A at *
      generalize cutR v.length v = C at *
      simp only [gTwo, gL, qL] at hgc ho1 ho2 hk1 hk2 hcy
      obtain ⟨A1, hA1⟩ : ∃ A1, A1 = A.map hA := ⟨_, rfl⟩
      obtain ⟨C1, hC1⟩ : ∃ C1, C1 = C.map hA := ⟨_, rfl⟩
      obtain ⟨A2, hA2⟩ : ∃ A2, A2 = A.map gA := ⟨_, rfl⟩
      obtain ⟨C2, hC2⟩ : ∃ C2, C2 = C.map gA := ⟨_, rfl⟩
      have rA1 : roL A1 := by rw [hA1]; exact roL_hA _
      have rC1 : roL C1 := by rw [hC1]; exact roL_hA _
      have rA2 : roL A2 := by rw [hA2]; exact roL_gA _
      have rC2 : roL C2 := by rw [hC2]; exact roL_gA _
      rw [← hA1, ← hC1] at hcy
      rw [← hA2, ← hC2] at hgc
      rw [← hA1, ← hA2] at ho1
      rw [← hC1, ← hC2] at ho2
      rw [← hA1] at hk1
      rw [← hC1] at hk2
      rcases hcase with hd2 | ⟨d, rfl, hd3⟩
      · have hma := hma deep hd2
        have hb2 : ¬ (3 < deep) ∨ ¬ deep ≤ 10 := by omega
        by_cases h3 : 3 < deep
        · have h10 : ¬ deep ≤ 10 := by omega
          have h0 : ¬ deep < 0 := by omega
          have h11 : 10 < deep := by omega
          simp -implicitDefEqProofs [go_sem, aresK, oneOf, view, fits, viewL, fitsL, nA, mA, clo, cloL, ro, roL]
          refine goC_pure _ hf (by simp -implicitDefEqProofs [go_sem, aresK, oneOf, view, fits, viewL, fitsL, nA, mA, clo, cloL, ro, roL]) ?_
          simp -implicitDefEqProofs [go_sem, aresK, oneOf, view, fits, viewL, fitsL, nA, mA, clo, cloL, ro, roL, h3, h10]
          refine goC_pure _ hins (by simp -implicitDefEqProofs [go_sem, aresK, oneOf, view, fits, viewL, fitsL, nA, mA, clo, cloL, ro, roL] <;> exact hVr) ?_
          simp -implicitDefEqProofs [go_sem, aresK, oneOf, view, fits, viewL, fitsL, nA, mA, clo, cloL, ro, roL]
          refine goC_pure _ hcy (by simp -implicitDefEqProofs [go_sem, aresK, oneOf, view, fits, viewL, fitsL, nA, mA, clo, cloL, ro, roL]) ?_
          simp -implicitDefEqProofs [go_sem, aresK, oneOf, view, fits, viewL, fitsL, nA, mA, clo, cloL, ro, roL]
          refine goC_pure _ hma (by simp -implicitDefEqProofs [go_sem, aresK, oneOf, view, fits, viewL, fitsL, nA, mA, clo, cloL, ro, roL]) ?_
          simp -implicitDefEqProofs [go_sem, aresK, oneOf, view, fits, viewL, fitsL, nA, mA, clo, cloL, ro, roL]
          refine goC_pure _ hgd (by simp -implicitDefEqProofs [go_sem, aresK, oneOf, view, fits, viewL, fitsL, nA, mA, clo, cloL, ro, roL] <;> exact hVr) ?_
          simp -implicitDefEqProofs [go_sem, aresK, oneOf, view, fits, viewL, fitsL, nA, mA, clo, cloL, ro, roL]
          refine goC_pure _ hgc (by simp -implicitDefEqProofs [go_sem, aresK, oneOf, view, fits, viewL, fitsL, nA, mA, clo, cloL, ro, roL] <;> exact hVr) ?_
          simp -implicitDefEqProofs [go_sem, aresK, oneOf, view, fits, viewL, fitsL, nA, mA, clo, cloL, ro, roL]
          refine goC_pure _ ho1 (by simp -implicitDefEqProofs [go_sem, aresK, oneOf, view, fits, viewL, fitsL, nA, mA, clo, cloL, ro, roL] <;> exact rA2) ?_
          simp -implicitDefEqProofs [go_sem, aresK, oneOf, view, fits, viewL, fitsL, nA, mA, clo, cloL, ro, roL]
          refine goC_pure _ hk1 (by simp -implicitDefEqProofs [go_sem, aresK, oneOf, view, fits, viewL, fitsL, nA, mA, clo, cloL, ro, roL] <;> exact rA1) ?_
          simp -implicitDefEqProofs [go_sem, aresK, oneOf, view, fits, viewL, fitsL, nA, mA, clo, cloL, ro, roL]
          refine goC_pure _ ho2 (by simp -implicitDefEqProofs [go_sem, aresK, oneOf, view, fits, viewL, fitsL, nA, mA, clo, cloL, ro, roL] <;> exact rC2) ?_
          simp -implicitDefEqProofs [go_sem, aresK, oneOf, view, fits, viewL, fitsL, nA, mA, clo, cloL, ro, roL]
          refine goC_pure _ hk2 (by simp -implicitDefEqProofs [go_sem, aresK, oneOf, view, fits, viewL, fitsL, nA, mA, clo, cloL, ro, roL] <;> exact rC1) ?_
          simp -implicitDefEqProofs [go_sem, aresK, oneOf, view, fits, viewL, fitsL, nA, mA, clo, cloL, ro, roL, h0, h11]
          refine goC_pure _ hw (by simp -implicitDefEqProofs [go_sem, aresK, oneOf, view, fits, viewL, fitsL, nA, mA, clo, cloL, ro, roL]) ?_
          simp -implicitDefEqProofs [go_sem, aresK, oneOf, view, fits, viewL, fitsL, nA, mA, clo, cloL, ro, roL]
        · have h0 : deep < 0 := by omega
          simp -implicitDefEqProofs [go_sem, aresK, oneOf, view, fits, viewL, fitsL, nA, mA, clo, cloL, ro, roL]
          refine goC_pure _ hf (by simp -implicitDefEqProofs [go_sem, aresK, oneOf, view, fits, viewL, fitsL, nA, mA, clo, cloL, ro, roL]) ?_
          simp -implicitDefEqProofs [go_sem, aresK, oneOf, view, fits, viewL, fitsL, nA, mA, clo, cloL, ro, roL, h3]
          refine goC_pure _ hins (by simp -implicitDefEqProofs [go_sem, aresK, oneOf, view, fits, viewL, fitsL, nA, mA, clo, cloL, ro, roL] <;> exact hVr) ?_
          simp -implicitDefEqProofs [go_sem, aresK, oneOf, view, fits, viewL, fitsL, nA, mA, clo, cloL, ro, roL]
          refine goC_pure _ hcy (by simp -implicitDefEqProofs [go_sem, aresK, oneOf, view, fits, viewL, fitsL, nA, mA, clo, cloL, ro, roL]) ?_
          simp -implicitDefEqProofs [go_sem, aresK, oneOf, view, fits, viewL, fitsL, nA, mA, clo, cloL, ro, roL]
          refine goC_pure _ hma (by simp -implicitDefEqProofs [go_sem, aresK, oneOf, view, fits, viewL, fitsL, nA, mA, clo, cloL, ro, roL]) ?_
          simp -implicitDefEqProofs [go_sem, aresK, oneOf, view, fits, viewL, fitsL, nA, mA, clo, cloL, ro, roL]
          refine goC_pure _ hgd (by simp -implicitDefEqProofs [go_sem, aresK, oneOf, view, fits, viewL, fitsL, nA, mA, clo, cloL, ro, roL] <;> exact hVr) ?_
          simp -implicitDefEqProofs [go_sem, aresK, oneOf, view, fits, viewL, fitsL, nA, mA, clo, cloL, ro, roL]
          refine goC_pure _ hgc (by simp -implicitDefEqProofs [go_sem, aresK, oneOf, view, fits, viewL, fitsL, nA, mA, clo, cloL, ro, roL] <;> exact hVr) ?_
          simp -implicitDefEqProofs [go_sem, aresK, oneOf, view, fits, viewL, fitsL, nA, mA, clo, cloL, ro, roL]
          refine goC_pure _ ho1 (by simp -implicitDefEqProofs [go_sem, aresK, oneOf, view, fits, viewL, fitsL, nA, mA, clo, cloL, ro, roL] <;> exact rA2) ?_
          simp -implicitDefEqProofs [go_sem, aresK, oneOf, view, fits, viewL, fitsL, nA, mA, clo, cloL, ro, roL]
          refine goC_pure _ hk1 (by simp -implicitDefEqProofs [go_sem, aresK, oneOf, view, fits, viewL, fitsL, nA, mA, clo, cloL, ro, roL] <;> exact rA1) ?_
          simp -implicitDefEqProofs [go_sem, aresK, oneOf, view, fits, viewL, fitsL, nA, mA, clo, cloL, ro, roL]
          refine goC_pure _ ho2 (by simp -implicitDefEqProofs [go_sem, aresK, oneOf, view, fits, viewL, fitsL, nA, mA, clo, cloL, ro, roL] <;> exact rC2) ?_
          simp -implicitDefEqProofs [go_sem, aresK, oneOf, view, fits, viewL, fitsL, nA, mA, clo, cloL, ro, roL]
          refine goC_pure _ hk2 (by simp -implicitDefEqProofs [go_sem, aresK, oneOf, view, fits, viewL, fitsL, nA, mA, clo, cloL, ro, roL] <;> exact rC1) ?_
          simp -implicitDefEqProofs [go_sem, aresK, oneOf, view, fits, viewL, fitsL, nA, mA, clo, cloL, ro, roL, h0]
          refine goC_pure _ hw (by simp -implicitDefEqProofs [go_sem, aresK, oneOf, view, fits, viewL, fitsL, nA, mA, clo, cloL, ro, roL]) ?_
          simp -implicitDefEqProofs [go_sem, aresK, oneOf, view, fits, viewL, fitsL, nA, mA, clo, cloL, ro, roL]
      · have hmy := hmy d hd3 hG
        have hgm := gmany_pure v d hd3 hvs hG
        have hall := manyQ_all (n := 4) (by omega) hG hvs d
        rw [hgL] at hgm
        have hlen := manyQ_len d v
        have hp8 : 2 ^ d ≤ 2 ^ 3 := Nat.pow_le_pow_right (by omega) (by omega)
        unfold qLL gLL at *
        obtain ⟨M, hM⟩ : ∃ M, M = manyQ d v := ⟨_, rfl⟩
        rw [← hM] at hmy hgm hall hlen
        have hou : ∀ i (h : i < M.length), Pure Tryz.prog 22 [gL M[i]] (qL M[i]) ∧ Pure Tryz.prog 21 [qL M[i], qL M[i]] (.bool true) ∧ roL (M[i].map gA) ∧ roL (M[i].map hA) := fun i h => by
          obtain ⟨w1, w2, w3⟩ := hall M[i] (List.getElem_mem _)
          have w4 := w1.2.2
          have h3 : 64 ^ d * 4 ≤ 64 ^ 3 * 4 := Nat.mul_le_mul_right _ (Nat.pow_le_pow_right (by omega) hd3)
          exact ⟨gouts_pure _ (by omega) (fun x hx => by have := w3 x hx; omega), homsq_self _ (by omega) (fun x hx => by have := w3 x hx; omega), roL_gA _, roL_hA _⟩
        have h3' : ¬ (3 : Int) < d := by omega
        simp -implicitDefEqProofs [go_sem, aresK, oneOf, view, fits, viewL, fitsL, nA, mA, clo, cloL, ro, roL]
        refine goC_pure _ hf (by simp -implicitDefEqProofs [go_sem, aresK, oneOf, view, fits, viewL, fitsL, nA, mA, clo, cloL, ro, roL]) ?_
        simp -implicitDefEqProofs [go_sem, aresK, oneOf, view, fits, viewL, fitsL, nA, mA, clo, cloL, ro, roL, h3']
        refine goC_pure _ hins (by simp -implicitDefEqProofs [go_sem, aresK, oneOf, view, fits, viewL, fitsL, nA, mA, clo, cloL, ro, roL] <;> exact hVr) ?_
        simp -implicitDefEqProofs [go_sem, aresK, oneOf, view, fits, viewL, fitsL, nA, mA, clo, cloL, ro, roL]
        refine goC_pure _ hcy (by simp -implicitDefEqProofs [go_sem, aresK, oneOf, view, fits, viewL, fitsL, nA, mA, clo, cloL, ro, roL]) ?_
        simp -implicitDefEqProofs [go_sem, aresK, oneOf, view, fits, viewL, fitsL, nA, mA, clo, cloL, ro, roL]
        refine goC_pure _ hmy (by simp -implicitDefEqProofs [go_sem, aresK, oneOf, view, fits, viewL, fitsL, nA, mA, clo, cloL, ro, roL]) ?_
        simp -implicitDefEqProofs [go_sem, aresK, oneOf, view, fits, viewL, fitsL, nA, mA, clo, cloL, ro, roL]
        refine goC_pure _ hgd (by simp -implicitDefEqProofs [go_sem, aresK, oneOf, view, fits, viewL, fitsL, nA, mA, clo, cloL, ro, roL] <;> exact hVr) ?_
        simp -implicitDefEqProofs [go_sem, aresK, oneOf, view, fits, viewL, fitsL, nA, mA, clo, cloL, ro, roL]
        refine goC_pure _ hgc (by simp -implicitDefEqProofs [go_sem, aresK, oneOf, view, fits, viewL, fitsL, nA, mA, clo, cloL, ro, roL] <;> exact hVr) ?_
        simp -implicitDefEqProofs [go_sem, aresK, oneOf, view, fits, viewL, fitsL, nA, mA, clo, cloL, ro, roL]
        refine goC_pure _ ho1 (by simp -implicitDefEqProofs [go_sem, aresK, oneOf, view, fits, viewL, fitsL, nA, mA, clo, cloL, ro, roL] <;> exact rA2) ?_
        simp -implicitDefEqProofs [go_sem, aresK, oneOf, view, fits, viewL, fitsL, nA, mA, clo, cloL, ro, roL]
        refine goC_pure _ hk1 (by simp -implicitDefEqProofs [go_sem, aresK, oneOf, view, fits, viewL, fitsL, nA, mA, clo, cloL, ro, roL] <;> exact rA1) ?_
        simp -implicitDefEqProofs [go_sem, aresK, oneOf, view, fits, viewL, fitsL, nA, mA, clo, cloL, ro, roL]
        refine goC_pure _ ho2 (by simp -implicitDefEqProofs [go_sem, aresK, oneOf, view, fits, viewL, fitsL, nA, mA, clo, cloL, ro, roL] <;> exact rC2) ?_
        simp -implicitDefEqProofs [go_sem, aresK, oneOf, view, fits, viewL, fitsL, nA, mA, clo, cloL, ro, roL]
        refine goC_pure _ hk2 (by simp -implicitDefEqProofs [go_sem, aresK, oneOf, view, fits, viewL, fitsL, nA, mA, clo, cloL, ro, roL] <;> exact rC1) ?_
        have h0 : ¬ (d : Int) < 0 := by omega
        have h11 : ¬ 10 < (d : Int) := by omega
        simp -implicitDefEqProofs [go_sem, aresK, oneOf, view, fits, viewL, fitsL, nA, mA, clo, cloL, ro, roL, h0, h11]
        refine goC_pure _ hgd (by simp -implicitDefEqProofs [go_sem, aresK, oneOf, view, fits, viewL, fitsL, nA, mA, clo, cloL, ro, roL] <;> exact hVr) ?_
        simp -implicitDefEqProofs [go_sem, aresK, oneOf, view, fits, viewL, fitsL, nA, mA, clo, cloL, ro, roL]
        refine goC_pure _ hgm (by simp -implicitDefEqProofs [go_sem, aresK, oneOf, view, fits, viewL, fitsL, nA, mA, clo, cloL, ro, roL] <;> exact hVr) ?_
        simp -implicitDefEqProofs [go_sem, aresK, oneOf, view, fits, viewL, fitsL, nA, mA, clo, cloL, ro, roL]
        refine go_loopN 1 (α := {i : Nat // i ≤ M.length}) (fun i => [(9, .sl 1 false (M.map qL)), (12, .sl 1 false (M.map gL)), (13, .int .i64 i.1)]) (fun i => []) (fun i => M.length - i.1) ⟨0, Nat.zero_le _⟩ [] (by simp) (by simp) (by omega) (by simp -implicitDefEqProofs [go_sem, aresK, oneOf, view, fits, viewL, fitsL, nA, mA, clo, cloL, ro, roL]) (by simp) fun ⟨i, hi⟩ => ?_
        simp -implicitDefEqProofs [go_sem, aresK, oneOf, view, fits, viewL, fitsL, nA, mA, clo, cloL, ro, roL]
        refine ⟨fun h => ?_, fun h => ?_⟩
        · have q1 := getE_qL (l := M) (i := i) h
          have q2 := getE_gL (l := M) (i := i) h
          obtain ⟨o1, o2, o3, o4⟩ := hou i h
          have es : IntKind.i64.wrap ((i : Int) + 1) = (i + 1 : Nat) := by rw [w64 (by omega)]; omega
          generalize M[i] = x at *
          simp only [gL, qL] at q1 q2 o1 o2
          generalize x.map gA = X at *
          generalize x.map hA = Y at *
          first | refine go_strict' (by kernel_rfl) ?_ | skip
          simp -implicitDefEqProofs [go_sem, aresK, oneOf, view, fits, viewL, fitsL, nA, mA, clo, cloL, ro, roL, q1, q2]
          refine ⟨h, goD_pure _ o1 (by simp -implicitDefEqProofs [go_sem, aresK, oneOf, view, fits, viewL, fitsL, nA, mA, clo, cloL, ro, roL] <;> exact o3) ?_⟩
          simp -implicitDefEqProofs [go_sem, aresK, oneOf, view, fits, viewL, fitsL, nA, mA, clo, cloL, ro, roL]
          refine goD_pure _ o2 (by simp -implicitDefEqProofs [go_sem, aresK, oneOf, view, fits, viewL, fitsL, nA, mA, clo, cloL, ro, roL] <;> exact o4) ?_
          simp -implicitDefEqProofs [go_sem, aresK, oneOf, view, fits, viewL, fitsL, nA, mA, clo, cloL, ro, roL, es]
          exact go_again ⟨i + 1, h⟩ (by simp only; omega) [] (by simp) (by simp) (by simp) (by simp -implicitDefEqProofs [go_sem, aresK, oneOf, view, fits, viewL, fitsL, nA, mA, clo, cloL, ro, roL]) (by simp)
        · refine goC_pure _ hw (by simp -implicitDefEqProofs [go_sem, aresK, oneOf, view, fits, viewL, fitsL, nA, mA, clo, cloL, ro, roL]) ?_
          simp -implicitDefEqProofs [go_sem, aresK, oneOf, view, fits, viewL, fitsL, nA, mA, clo, cloL, ro, roL]
    · have hcn := hcn hG
      rw [decide_eq_false hG] at hgd
      have hmn := fun d hd => hmn d hd hG
      rcases hcase with hd2 | ⟨d, rfl, hd3⟩
      · have hma := hma deep hd2
        by_cases h3 : 3 < deep
        · have h10 : ¬ deep ≤ 10 := by omega
          have h0 : ¬ deep < 0 := by omega
          have h11 : 10 < deep := by omega
          simp -implicitDefEqProofs [go_sem, aresK, oneOf, view, fits, viewL, fitsL, nA, mA, clo, cloL, ro, roL]
          refine goC_pure _ hf (by simp -implicitDefEqProofs [go_sem, aresK, oneOf, view, fits, viewL, fitsL, nA, mA, clo, cloL, ro, roL]) ?_
          simp -implicitDefEqProofs [go_sem, aresK, oneOf, view, fits, viewL, fitsL, nA, mA, clo, cloL, ro, roL, h3, h10]
          refine goC_pure _ hins (by simp -implicitDefEqProofs [go_sem, aresK, oneOf, view, fits, viewL, fitsL, nA, mA, clo, cloL, ro, roL] <;> exact hVr) ?_
          simp -implicitDefEqProofs [go_sem, aresK, oneOf, view, fits, viewL, fitsL, nA, mA, clo, cloL, ro, roL]
          refine goC_pure _ hcn (by simp -implicitDefEqProofs [go_sem, aresK, oneOf, view, fits, viewL, fitsL, nA, mA, clo, cloL, ro, roL]) ?_
          simp -implicitDefEqProofs [go_sem, aresK, oneOf, view, fits, viewL, fitsL, nA, mA, clo, cloL, ro, roL]
          refine goC_pure _ hma (by simp -implicitDefEqProofs [go_sem, aresK, oneOf, view, fits, viewL, fitsL, nA, mA, clo, cloL, ro, roL]) ?_
          simp -implicitDefEqProofs [go_sem, aresK, oneOf, view, fits, viewL, fitsL, nA, mA, clo, cloL, ro, roL]
          refine goC_pure _ hgd (by simp -implicitDefEqProofs [go_sem, aresK, oneOf, view, fits, viewL, fitsL, nA, mA, clo, cloL, ro, roL] <;> exact hVr) ?_
          simp -implicitDefEqProofs [go_sem, aresK, oneOf, view, fits, viewL, fitsL, nA, mA, clo, cloL, ro, roL, h0, h11]
          refine goC_pure _ hw (by simp -implicitDefEqProofs [go_sem, aresK, oneOf, view, fits, viewL, fitsL, nA, mA, clo, cloL, ro, roL]) ?_
          simp -implicitDefEqProofs [go_sem, aresK, oneOf, view, fits, viewL, fitsL, nA, mA, clo, cloL, ro, roL]
        · have h0 : deep < 0 := by omega
          simp -implicitDefEqProofs [go_sem, aresK, oneOf, view, fits, viewL, fitsL, nA, mA, clo, cloL, ro, roL]
          refine goC_pure _ hf (by simp -implicitDefEqProofs [go_sem, aresK, oneOf, view, fits, viewL, fitsL, nA, mA, clo, cloL, ro, roL]) ?_
          simp -implicitDefEqProofs [go_sem, aresK, oneOf, view, fits, viewL, fitsL, nA, mA, clo, cloL, ro, roL, h3]
          refine goC_pure _ hins (by simp -implicitDefEqProofs [go_sem, aresK, oneOf, view, fits, viewL, fitsL, nA, mA, clo, cloL, ro, roL] <;> exact hVr) ?_
          simp -implicitDefEqProofs [go_sem, aresK, oneOf, view, fits, viewL, fitsL, nA, mA, clo, cloL, ro, roL]
          refine goC_pure _ hcn (by simp -implicitDefEqProofs [go_sem, aresK, oneOf, view, fits, viewL, fitsL, nA, mA, clo, cloL, ro, roL]) ?_
          simp -implicitDefEqProofs [go_sem, aresK, oneOf, view, fits, viewL, fitsL, nA, mA, clo, cloL, ro, roL]
          refine goC_pure _ hma (by simp -implicitDefEqProofs [go_sem, aresK, oneOf, view, fits, viewL, fitsL, nA, mA, clo, cloL, ro, roL]) ?_
          simp -implicitDefEqProofs [go_sem, aresK, oneOf, view, fits, viewL, fitsL, nA, mA, clo, cloL, ro, roL]
          refine goC_pure _ hgd (by simp -implicitDefEqProofs [go_sem, aresK, oneOf, view, fits, viewL, fitsL, nA, mA, clo, cloL, ro, roL] <;> exact hVr) ?_
          simp -implicitDefEqProofs [go_sem, aresK, oneOf, view, fits, viewL, fitsL, nA, mA, clo, cloL, ro, roL, h0]
          refine goC_pure _ hw (by simp -implicitDefEqProofs [go_sem, aresK, oneOf, view, fits, viewL, fitsL, nA, mA, clo, cloL, ro, roL]) ?_
          simp -implicitDefEqProofs [go_sem, aresK, oneOf, view, fits, viewL, fitsL, nA, mA, clo, cloL, ro, roL]
      · have hmn := hmn d (by omega)
        have h3' : ¬ (3 : Int) < d := by omega
        have h0 : ¬ (d : Int) < 0 := by omega
        have h11 : ¬ 10 < (d : Int) := by omega
        simp -implicitDefEqProofs [go_sem, aresK, oneOf, view, fits, viewL, fitsL, nA, mA, clo, cloL, ro, roL]
        refine goC_pure _ hf (by simp -implicitDefEqProofs [go_sem, aresK, oneOf, view, fits, viewL, fitsL, nA, mA, clo, cloL, ro, roL]) ?_
        simp -implicitDefEqProofs [go_sem, aresK, oneOf, view, fits, viewL, fitsL, nA, mA, clo, cloL, ro, roL, h3']
        refine goC_pure _ hins (by simp -implicitDefEqProofs [go_sem, aresK, oneOf, view, fits, viewL, fitsL, nA, mA, clo, cloL, ro, roL] <;> exact hVr) ?_
        simp -implicitDefEqProofs [go_sem, aresK, oneOf, view, fits, viewL, fitsL, nA, mA, clo, cloL, ro, roL]
        refine goC_pure _ hcn (by simp -implicitDefEqProofs [go_sem, aresK, oneOf, view, fits, viewL, fitsL, nA, mA, clo, cloL, ro, roL]) ?_
        simp -implicitDefEqProofs [go_sem, aresK, oneOf, view, fits, viewL, fitsL, nA, mA, clo, cloL, ro, roL]
        refine goC_pure _ hmn (by simp -implicitDefEqProofs [go_sem, aresK, oneOf, view, fits, viewL, fitsL, nA, mA, clo, cloL, ro, roL]) ?_
        simp -implicitDefEqProofs [go_sem, aresK, oneOf, view, fits, viewL, fitsL, nA, mA, clo, cloL, ro, roL]
        refine goC_pure _ hgd (by simp -implicitDefEqProofs [go_sem, aresK, oneOf, view, fits, viewL, fitsL, nA, mA, clo, cloL, ro, roL] <;> exact hVr) ?_
        simp -implicitDefEqProofs [go_sem, aresK, oneOf, view, fits, viewL, fitsL, nA, mA, clo, cloL, ro, roL, h0, h11]
        refine goC_pure _ hgd (by simp -implicitDefEqProofs [go_sem, aresK, oneOf, view, fits, viewL, fitsL, nA, mA, clo, cloL, ro, roL] <;> exact hVr) ?_
        simp -implicitDefEqProofs [go_sem, aresK, oneOf, view, fits, viewL, fitsL, nA, mA, clo, cloL, ro, roL]
        refine goC_pure _ hw (by simp -implicitDefEqProofs [go_sem, aresK, oneOf, view, fits, viewL, fitsL, nA, mA, clo, cloL, ro, roL]) ?_
        simp -implicitDefEqProofs [go_sem, aresK, oneOf, view, fits, viewL, fitsL, nA, mA, clo, cloL, ro, roL]
  · rw [decide_eq_false hF] at hf
    unfold hL at *
    simp -implicitDefEqProofs [go_sem, aresK, oneOf, view, fits, viewL, fitsL, nA, mA, clo, cloL, ro, roL]
    refine goC_pure _ hf (by simp -implicitDefEqProofs [go_sem, aresK, oneOf, view, fits, viewL, fitsL, nA, mA, clo, cloL, ro, roL]) ?_
    simp -implicitDefEqProofs [go_sem, aresK, oneOf, view, fits, viewL, fitsL, nA, mA, clo, cloL, ro, roL]
    refine goC_pure _ hw (by simp -implicitDefEqProofs [go_sem, aresK, oneOf, view, fits, viewL, fitsL, nA, mA, clo, cloL, ro, roL]) ?_
    simp -implicitDefEqProofs [go_sem, aresK, oneOf, view, fits, viewL, fitsL, nA, mA, clo, cloL, ro, roL]
end Go.Proofs.YtmhnmaklgcppbaaGreat
