/-
  Of the seat's texts, joined: RgC CvA CvB CvC CvD.
-/
import Derived.Test.YtmhnmaklgcppbaaGreatPkMa
namespace Go.Proofs.YtmhnmaklgcppbaaGreat
open Go Go.Proofs
set_option linter.unusedSimpArgs false
set_option linter.unusedVariables false
set_option maxRecDepth 20000

theorem mixQ_half (a b : Rat) : mixQ a b half = midQ a b := by unfold mixQ midQ half; grind
theorem mixT_half (a b : HQ) : a.mixT b half = a.mid b := by unfold HQ.mixT HQ.mid; simp only [mixQ_half]
@[go_sem] theorem slv_cons (sz : Nat) (a : AV) (l : List AV) : slv sz (a :: l) = .sl sz false (a :: l) := rfl
theorem slv_ne {sz : Nat} {l : List AV} (h : l ≠ []) : slv sz l = .sl sz false l := by simp [slv, h]
/-- The halves that the reference tells. -/
def gTwo (a b : List HQ) : AV := .agg [gL a, gL b]
theorem ro_gTwo (a b : List HQ) : ro (gTwo a b) := by unfold gTwo; simp only [ro, roL]; exact ⟨ro_gL a, ro_gL b, trivial⟩

theorem frz_ro (g : Nat) (m : List AV) {a : AV} (h : ro a) : frz g m a = a := by
  cases a <;> first | rfl | (simp only [ro] at h)
theorem map_frz (g : Nat) (m : List AV) {l : List AV} (h : roL l) : l.map (frz g m) = l := by
  have e : l.map (frz g m) = l.map id := List.map_congr_left fun x hx => frz_ro g m (roL_iff.1 h x hx)
  rw [e, List.map_id]
theorem elemsA_apv {f : Nat → BS} {sz id : Nat} {l : List AV} (h : l ≠ [] → f id = .live sz l) : elemsA f (apv sz id l) = some l := by
  by_cases hl : l = []
  · subst hl; rfl
  · rw [apv_ne hl]; simp only [elemsA, h hl, List.drop_zero, List.take_length]
theorem fitsA_apv {f : Nat → BS} {sz id : Nat} {l : List AV} (h : l ≠ [] → f id = .live sz l) : fitsA f (apv sz id l) := by
  by_cases hl : l = []
  · subst hl; trivial
  · rw [apv_ne hl]; simp only [fitsA, h hl]; omega
theorem szA_apv {sz id : Nat} {l : List AV} : szA (apv sz id l) = sz ∨ l = [] := by
  by_cases hl : l = []
  · exact .inr hl
  · rw [apv_ne hl]; exact .inl rfl

set_option maxHeartbeats 4000000 in
theorem gcut_pure (v : List HQ) (hs : ∀ x ∈ v, x.sz ≤ 1048576) (hn1 : 1 ≤ v.length) (hn4 : v.length ≤ 4) : Pure Tryz.prog 20 [gL v] (gTwo (cutL v.length v) (cutR v.length v)) := by
  have hof := fof_pure 1 2 (by omega) (by omega) (by omega)
  change Pure _ _ _ (fA half) at hof
  have hrs : ∀ j, j ≤ 4 → ∀ x ∈ rowN j v, x.sz ≤ 268435456 := fun j hj x hx => by
    have h1 := rowN_all (by omega) hs j x hx
    have h2 : 4 ^ j ≤ 4 ^ 4 := Nat.pow_le_pow_right (by omega) hj
    have h3 : 4 ^ j * 1048576 ≤ 4 ^ 4 * 1048576 := Nat.mul_le_mul_right _ h2
    omega
  obtain ⟨n, hn⟩ : ∃ n, n = v.length := ⟨_, rfl⟩
  refine Pure.of_go mixed Tryz.func20 rfl (rs := [.cell 2 35]) rfl (by kernel_rfl) (ro_gTwo _ _) ?_
  have hmix : ∀ x y : HQ, x.sz ≤ 268435456 → y.sz ≤ 268435456 → Pure Tryz.prog 67 [gA x, gA y, fA half] (gA (x.mid y)) := fun x y hx hy => by
    have := gmix_pure x y half hx hy (by have := sz_half; omega)
    rwa [mixT_half] at this
  obtain ⟨ch, e1, e2, e3, e4⟩ : ∃ ch, fA half = .agg ch ∧ ch.length = 3 ∧ ch.take 3 = ch ∧ roL ch := ⟨_, rfl, rfl, rfl, by have := ro_fA half; unfold fA at this; simpa only [ro] using this⟩
  have hx9 : ∀ h : HQ, ∃ cs, gA h = .agg cs ∧ cs.length = 9 ∧ cs.take 9 = cs ∧ roL cs := ga_agg
  unfold gTwo gL at *
  rw [e1] at hof hmix
  obtain ⟨z2, hz2, z21, z22⟩ : ∃ z2, z2 = [AV.sl 0 true [], AV.sl 0 true []] ∧ z2.length = 2 ∧ z2.drop 2 = [] := ⟨_, rfl, rfl, rfl⟩
  simp -implicitDefEqProofs [go_sem]
  refine goC_pure _ hof (by simp -implicitDefEqProofs [go_sem, e4]) ?_
  simp -implicitDefEqProofs [go_sem, e2, e3]
  have hnil : ∀ (k : Nat), AV.agg [AV.sl 0 true [], AV.sl 0 true []] = AV.agg [apv 9 3 ((cutL 0 v).map gA), apv 9 4 ((cutR 0 v).map gA)] := fun _ => rfl
  have hsl0 : AV.sl 9 false (v.map gA) = slv 9 ((rowN 0 v).map gA) := by rw [slv_ne (by intro h; simp [rowN] at h; rw [h] at hn1; simp at hn1)]; rfl
  refine go_loopN 8 (α := {j : Nat // j ≤ n}) (fun j => [(2, .ptr 0 0 0), (3, .ptr 1 0 0), (4, slv 9 ((rowN j.1 v).map gA)), (5, .ptr 2 0 0)])
    (fun j => [(0, .live 2 [.agg [.sl 0 true [], .sl 0 true []]]), (1, .live 3 [.agg ch]), (2, .live 2 [.agg [apv 9 3 ((cutL j.1 v).map gA), apv 9 4 ((cutR j.1 v).map gA)]])] ++ (apb 9 3 ((cutL j.1 v).map gA) ++ apb 9 4 ((cutR j.1 v).map gA)))
    (fun j => n - j.1) ⟨0, by omega⟩ [] (by simp) (fun _ _ _ _ h => h) (by omega) (by simp -implicitDefEqProofs [go_sem, ← hsl0]) (by simp -implicitDefEqProofs [go_sem, cutL, cutR]; exact ⟨(renL_ro _ _ e4).symm, cloL_ro _ e4⟩) fun ⟨j, hj⟩ => ?_
  simp only
  have hrl := rowN_len j v
  have hrz := hrs j (by omega)
  have cL1 : cutL (j + 1) v = cutL j v ++ [(rowN j v).headD hQ0] := rfl
  have cR1 : cutR (j + 1) v = (rowN j v).getLastD hQ0 :: cutR j v := rfl
  have rN1 : rowN (j + 1) v = mids (rowN j v) := rfl
  have hLl := cutL_len j v
  have hRl := cutR_len j v
  obtain ⟨L, hL⟩ : ∃ L, L = (cutL j v).map gA := ⟨_, rfl⟩
  obtain ⟨R, hR⟩ : ∃ R, R = (cutR j v).map gA := ⟨_, rfl⟩
  have hLr : roL L := by rw [hL]; exact roL_gA _
  have hRr : roL R := by rw [hR]; exact roL_gA _
  have hLL : L.length = j := by rw [hL]; simp [hLl]
  have hRL : R.length = j := by rw [hR]; simp [hRl]
  rw [← hL, ← hR]
  have h3 : L ≠ [] → hp 8 (apb 9 3 L ++ apb 9 4 R) 3 = .live 9 L := fun h => by rw [apb_ne h]; simp [hp, upd]
  have h4 : R ≠ [] → hp 8 (apb 9 3 L ++ apb 9 4 R) 4 = .live 9 R := fun h => by
    rw [apb_ne h, apb_ne (l := L) (fun h' => h (List.eq_nil_of_length_eq_zero (by rw [hRL, ← hLL, h']; rfl)))]; simp [hp, upd]
  by_cases hjn : j < n
  · have hne : (rowN j v).map gA ≠ [] := by intro h; have := congrArg List.length h; simp [hrl] at this; omega
    rw [slv_ne hne]
    obtain ⟨W, hW⟩ : ∃ W, W = rowN j v := ⟨_, rfl⟩
    rw [← hW] at hne hrl hrz cL1 cR1 rN1 ⊢
    have hWl : 0 < W.length := by omega
    have hW0 : W ≠ [] := by intro h; rw [h] at hWl; simp at hWl
    have ew : IntKind.i64.wrap ((W.length : Int) - 1) = (W.length - 1 : Nat) := by rw [w64 (by omega)]; omega
    have hg0 := getE_gA (l := W) (i := 0) hWl
    have hgl := getE_gA (l := W) (i := W.length - 1) (by omega)
    have hd0 : W.headD hQ0 = W[0] := by cases W with | nil => simp at hWl | cons a r => rfl
    have hdl : W.getLastD hQ0 = W[W.length - 1] := by
      rw [List.getLastD_eq_getLast?, List.getLast?_eq_getElem?, List.getElem?_eq_getElem (by omega)]; rfl
    rw [hd0] at cL1
    rw [hdl] at cR1
    obtain ⟨c0, a1, a2, a3, a4⟩ := hx9 W[0]
    obtain ⟨cl, b1, b2, b3, b4⟩ := hx9 (W[W.length - 1]'(by omega))
    rw [a1] at hg0
    rw [b1] at hgl
    have hg0' : getE (W.map gA) 0 = .agg c0 := hg0
    obtain ⟨w1, hw1⟩ : ∃ w1, w1 = W.length - 1 := ⟨_, rfl⟩
    rw [← hw1] at ew hgl
    simp -implicitDefEqProofs [go_sem, hg0', a2, a3, hW0, hWl]
    have hew : ((w1 : Nat) : Int) < W.length := by omega
    refine goApS_apv (.inl rfl) (by omega) (by omega) (by simp -implicitDefEqProofs [go_sem]) (by simp; omega) (by simp -implicitDefEqProofs [go_sem]; exact h3) ?_
    simp -implicitDefEqProofs [go_sem, ew, hgl, b2, b3]
    generalize hH : hp 8 (apb 9 3 L ++ apb 9 4 R) = H at *
    refine ⟨by omega, ?_⟩
    rw [elemsA_apv (by simp -implicitDefEqProofs [go_sem]; intro h; rw [h4 h]; rfl)]
    simp -implicitDefEqProofs [go_sem]
    refine ⟨szA_apv, fitsA_apv (by simp -implicitDefEqProofs [go_sem]; intro h; rw [h4 h]; rfl), by omega, ?_⟩
    obtain ⟨L1, hL1⟩ : ∃ L1, L1 = L ++ [AV.agg c0] := ⟨_, rfl⟩
    obtain ⟨R1, hR1⟩ : ∃ R1, R1 = AV.agg cl :: R := ⟨_, rfl⟩
    have hLL1 : L.length + 1 = L1.length := by rw [hL1]; simp
    have hRL1 : 1 + R.length = R1.length := by rw [hR1]; simp; omega
    have hL1r : roL L1 := by rw [hL1]; exact roL_append.2 ⟨hLr, by simp only [roL, ro]; exact ⟨a4, trivial⟩⟩
    have hR1r : roL R1 := by rw [hR1]; simp only [roL, ro]; exact ⟨b4, hRr⟩
    have hLe : L1 = (cutL (j + 1) v).map gA := by rw [hL1, cL1, List.map_append, hL, List.map_singleton, a1]
    have hRe : R1 = (cutR (j + 1) v).map gA := by rw [hR1, cR1, List.map_cons, hR, ← b1]
    rw [hLL1, hRL1, ← hL1, ← hR1]
    obtain ⟨M, hM⟩ : ∃ M, M = (mids W).map gA := ⟨_, rfl⟩
    have hMl : M.length = w1 := by rw [hM]; simp [mids_len, hw1]
    have hMr : ∀ i, roL (M.take i) := fun i => roL_take (by rw [hM]; exact roL_gA _)
    have hWr : roL (W.map gA) := roL_gA _
    clear hgl hg0 hg0'
    refine go_loopN 8 (α := {i : Nat // i ≤ w1}) (fun i => [(2, .ptr 0 0 0), (3, .ptr 1 0 0), (4, .sl 9 false (W.map gA)), (5, .ptr 2 0 0), (6, apv 9 5 (M.take i.1)), (7, .int .i64 i.1)])
      (fun i => [(0, .live 2 [.agg [.sl 0 true [], .sl 0 true []]]), (1, .live 3 [.agg ch]), (2, .live 2 [.agg [.own 9 3 0 L1.length, .own 9 4 0 R1.length]]), (3, .live 9 L1), (4, .live 9 R1)] ++ apb 9 5 (M.take i.1))
      (fun i => w1 - i.1) ⟨0, Nat.zero_le _⟩ [(3, 14), (4, 26)] (by simp) (by simp [nm, apb_nil]) (by omega) (by simp -implicitDefEqProofs [go_sem]) (by simp -implicitDefEqProofs [go_sem]; exact ⟨⟨(renL_ro _ _ e4).symm, cloL_ro _ e4⟩, ⟨(renL_ro _ _ hL1r).symm, cloL_ro _ hL1r⟩, (renL_ro _ _ hR1r).symm, cloL_ro _ hR1r⟩) fun ⟨i, hi⟩ => ?_
    have h5 : M.take i ≠ [] → hp 8 (apb 9 5 (M.take i)) 5 = .live 9 (M.take i) := fun h => by rw [apb_ne h]; simp [hp, upd]
    have hTl : (M.take i).length = i := by rw [List.length_take]; omega
    have e1 : IntKind.i64.wrap ((i : Int) + 1) = (i + 1 : Nat) := by rw [w64 (by omega)]; omega
    obtain ⟨i1, hi1⟩ : ∃ i1, i1 = i + 1 := ⟨_, rfl⟩
    rw [← hi1] at e1
    simp -implicitDefEqProofs [go_sem, e1]
    refine ⟨fun h => ?_, fun h => ?_⟩
    · have hii : i < W.length := by omega
      have hgi := getE_gA (l := W) (i := i) hii
      have hg1 := getE_gA (l := W) (i := i1) h
      have hm := hmix W[i] W[i1] (hrz _ (List.getElem_mem _)) (hrz _ (List.getElem_mem _))
      have hMi : M[i]'(by omega) = gA (W[i].mid W[i1]) := by
        subst hM
        rw [List.getElem_map, mids_get W i (by omega)]
        simp only [hi1]
      have hTs : M.take i1 = M.take i ++ [gA (W[i].mid W[i1])] := by
        have hT := List.take_succ_eq_append_getElem (l := M) (i := i) (by omega)
        rw [← hi1, hMi] at hT
        exact hT
      have hmin : min i M.length = i := by omega
      have hT1r := hMr i1
      obtain ⟨ca, k1, k2, k3, k4⟩ := hx9 W[i]
      obtain ⟨cb, l1, l2, l3, l4⟩ := hx9 W[i1]
      obtain ⟨cm, m1, m2, m3, m4⟩ := hx9 (W[i].mid W[i1])
      rw [k1] at hgi hm
      rw [l1] at hg1 hm
      rw [m1] at hm hTs
      rw [hTs] at hT1r
      simp -implicitDefEqProofs [go_sem, hgi, hg1, k2, k3, l2, l3, e2, e3]
      refine ⟨hii, h, goD_pure _ hm (by simp -implicitDefEqProofs [go_sem, k4, l4, e4]) ?_⟩
      simp -implicitDefEqProofs [go_sem, m2, m3]
      refine goApS_apv (.inl rfl) (by omega) (by omega) (by simp -implicitDefEqProofs [go_sem]) (by simp [hTl] <;> omega) (by simp -implicitDefEqProofs [go_sem] <;> exact h5) ?_
      simp -implicitDefEqProofs [go_sem, e1]
      have r1 := (renL_ro (nm [(5, 21)]) _ e4).symm
      have r2 := (renL_ro (nm [(5, 21)]) _ hL1r).symm
      have r3 := (renL_ro (nm [(5, 21)]) _ hR1r).symm
      have r4 := (renL_ro (nm [(5, 21)]) _ hT1r).symm
      have q1 := cloL_ro (n := 8) _ e4
      have q2 := cloL_ro (n := 8) _ hL1r
      have q3 := cloL_ro (n := 8) _ hR1r
      have q4 := cloL_ro (n := 8) _ hT1r
      refine go_again ⟨i1, by omega⟩ (by simp only; omega) [(5, 21)] (by simp) (by simp only [hTs, apb_app]; simp [nm]) (by simp) (by simp only [hTs]; simp -implicitDefEqProofs [go_sem, hTl, hmin]) (by simp only [hTs]; simp -implicitDefEqProofs [go_sem, ← r1, ← r2, ← r3, ← r4, q1, q2, q3, q4])
    · have hiw : i = w1 := by omega
      have hTM : M.take i = M := List.take_of_length_le (by omega)
      rw [hTM] at h5 ⊢
      have hMe : M = (rowN (j + 1) v).map gA := by rw [rN1, hM]
      have hL1n : L1 ≠ [] := by intro h; rw [h] at hLL1; simp at hLL1
      have hR1n : R1 ≠ [] := by intro h; rw [h] at hRL1; simp at hRL1
      have hMr0 : roL M := by rw [hM]; exact roL_gA _
      have r1 := (renL_ro (nm []) _ e4).symm
      have r2 := (renL_ro (nm []) _ hL1r).symm
      have r3 := (renL_ro (nm []) _ hR1r).symm
      have r4 := (renL_ro (nm []) _ hMr0).symm
      have q1 := cloL_ro (n := 8) _ e4
      have q2 := cloL_ro (n := 8) _ hL1r
      have q3 := cloL_ro (n := 8) _ hR1r
      have q4 := cloL_ro (n := 8) _ hMr0
      by_cases hM0 : M = []
      · refine go_again ⟨j + 1, by omega⟩ (by simp only; omega) [] (by simp) (by simp only [← hLe, ← hRe, apb_ne hL1n, apb_ne hR1n]; simp [nm]) (by simp) (by simp only [← hMe, ← hLe, ← hRe]; simp -implicitDefEqProofs [go_sem, hM0, slv]) (by simp only [← hLe, ← hRe, apb_ne hL1n, apb_ne hR1n, apv_ne hL1n, apv_ne hR1n]; simp -implicitDefEqProofs [go_sem, ← r1, ← r2, ← r3, q1, q2, q3, hM0])
      · have hg5 := h5 hM0
        have hap := apv_ne (sz := 9) (id := 5) hM0
        refine go_againF 5 9 M (by simp -implicitDefEqProofs [go_sem, hg5]) ⟨j + 1, by omega⟩ (by simp only; omega) [] (by simp) (by simp only [← hLe, ← hRe, apb_ne hL1n, apb_ne hR1n]; simp [nm]) (by simp) (by simp only [← hMe, ← hLe, ← hRe, slv_ne hM0, hap]; simp -implicitDefEqProofs [go_sem]; exact ⟨r4, q4⟩) (by simp only [← hLe, ← hRe, apb_ne hL1n, apb_ne hR1n, apv_ne hL1n, apv_ne hR1n]; simp -implicitDefEqProofs [go_sem, ← r1, ← r2, ← r3, q1, q2, q3, hg5, map_frz 5 M hL1r, map_frz 5 M hR1r])
  · have hjn' : j = n := by omega
    have hnil : rowN j v = [] := List.eq_nil_of_length_eq_zero (by omega)
    have hLn : L ≠ [] := by intro h; rw [h] at hLL; simp at hLL; omega
    have hRn : R ≠ [] := by intro h; rw [h] at hRL; simp at hRL; omega
    have hLe : (cutL v.length v).map gA = L := by rw [hL, hjn', hn]
    have hRe : (cutR v.length v).map gA = R := by rw [hR, hjn', hn]
    rw [hLe, hRe, apv_ne hLn, apv_ne hRn]
    simp -implicitDefEqProofs [go_sem, hnil, slv, rop, h3 hLn, h4 hRn]
end Go.Proofs.YtmhnmaklgcppbaaGreat
namespace Go.Proofs.YtmhnmaklgcppbaaGreat
open Go Go.Proofs
set_option linter.unusedSimpArgs false
set_option linter.unusedVariables false
set_option maxRecDepth 20000

theorem sz_mixQ (a b t : Rat) : sz (mixQ a b t) ≤ sz a + sz b + 2 * sz t + 4 := by
  have h1 := sz_sub 1 t
  rw [sz_one] at h1
  have h2 := sz_mul a (1 - t)
  have h3 := sz_mul b t
  have h4 := sz_add (a * (1 - t)) (b * t)
  unfold mixQ; omega
theorem HQ.sz_mixT (a b : HQ) (t : Rat) : (a.mixT b t).sz ≤ a.sz + b.sz + 2 * Go.Proofs.YtmhnmaklgcppbaaGreat.sz t + 4 := by
  have := sz_mixQ a.x b.x t; have := sz_mixQ a.y b.y t; have := sz_mixQ a.w b.w t
  have := a.sz_x; have := a.sz_y; have := a.sz_w; have := b.sz_x; have := b.sz_y; have := b.sz_w
  unfold HQ.mixT
  conv => lhs; unfold HQ.sz
  simp only
  omega
theorem lim_nil' : Lim 18446744073709551616 [] := fun _ h => by cases h
def rQ0 : RQ := ⟨false, [], []⟩
theorem rQ0_in {n : Nat} : rQ0.In n := ⟨Nat.zero_le _, lim_nil', Nat.zero_le _, lim_nil'⟩

set_option maxHeartbeats 2000000 in
theorem cmix_pure (a b : HR) (t : RQ) (ha : a.In 1073741824) (hb : b.In 1073741824) (ht : t.In 1073741824) : Pure Tryz.prog 142 [a.av, b.av, t.av] (hA (a.val.mixT b.val t.val)) := by
  have h1 := pmix_pure ⟨a.x, a.y⟩ ⟨b.x, b.y⟩ t ⟨ha.x, ha.y⟩ ⟨hb.x, hb.y⟩ ht
  have h2 := pmix_pure ⟨a.w, rQ0⟩ ⟨b.w, rQ0⟩ t ⟨ha.w, rQ0_in⟩ ⟨hb.w, rQ0_in⟩ ht
  have e1 : (PR.mk a.x a.y).val.mix (PR.mk b.x b.y).val t.val = ⟨mixQ a.x.val b.x.val t.val, mixQ a.y.val b.y.val t.val⟩ := by
    refine PQ.ext ?_ ?_ <;> simp only [PQ.mix, PQ.add, PQ.sub, PQ.scale, PR.val, mixQ] <;> grind
  have e2 : ((PR.mk a.w rQ0).val.mix (PR.mk b.w rQ0).val t.val).x = mixQ a.w.val b.w.val t.val := by
    simp only [PQ.mix, PQ.add, PQ.sub, PQ.scale, PR.val, mixQ]; grind
  rw [e1] at h1
  generalize hu : (PR.mk a.w rQ0).val.mix (PR.mk b.w rQ0).val t.val = u at *
  unfold hA HQ.mixT hc HR.val
  simp only
  rw [← e2]
  generalize mixQ a.x.val b.x.val t.val = r1 at *
  generalize mixQ a.y.val b.y.val t.val = r2 at *
  have h2' := h2.args (args := [.agg [.bool a.w.neg, nA a.w.p, nA a.w.q, .bool false, .sl 0 true [], .sl 0 true []], .agg [.bool b.w.neg, nA b.w.p, nA b.w.q, .bool false, .sl 0 true [], .sl 0 true []], t.av]) (by
    refine .cons (Wk.agg ?_) (.cons (Wk.agg ?_) (WkL.refl _))
    · exact .cons (Wk.refl _) (.cons (Wk.refl _) (.cons (Wk.refl _) (.cons (Wk.refl _) (.cons (Wk.nil 0 1 true) (.cons (Wk.nil 0 1 true) WkL.nil)))))
    · exact .cons (Wk.refl _) (.cons (Wk.refl _) (.cons (Wk.refl _) (.cons (Wk.refl _) (.cons (Wk.nil 0 1 true) (.cons (Wk.nil 0 1 true) WkL.nil))))))
  clear h2 hu e1 e2
  refine Pure.of_go mixed Tryz.func142 rfl (rs := [.cell 6 48]) rfl (by kernel_rfl) (ro_hr _) ?_
  unfold HR.av pA pc PR.av RQ.av at *
  simp only at *
  generalize qc r1 = c1 at *
  generalize qc r2 = c2 at *
  generalize qc u.x = c3 at *
  generalize qc u.y = c4 at *
  simp -implicitDefEqProofs [go_sem]
  refine goC_pure _ h1 (by simp -implicitDefEqProofs [go_sem]) ?_
  simp -implicitDefEqProofs [go_sem]
  refine goC_pure _ h2' (by simp -implicitDefEqProofs [go_sem]) ?_
  simp -implicitDefEqProofs [go_sem, rop]
/-- The cells of a point with its weight. -/
def HR.cs (h : HR) : List AV := [.bool h.x.neg, nA h.x.p, nA h.x.q, .bool h.y.neg, nA h.y.p, nA h.y.q, .bool h.w.neg, nA h.w.p, nA h.w.q]
theorem HR.av_cs (h : HR) : h.av = .agg h.cs := rfl
theorem HR.cs_len (h : HR) : h.cs.length = 9 := rfl
theorem HR.cs_take (h : HR) : h.cs.take 9 = h.cs := rfl
theorem HR.cs_drop (h : HR) : h.cs.drop 9 = [] := rfl
theorem HR.ro_cs (h : HR) : roL h.cs := by have := ro_hr h; rw [HR.av_cs] at this; simpa only [ro] using this
@[go_sem] theorem HR.clo_cs (n : Nat) (h : HR) : cloL n h.cs := cloL_ro _ h.ro_cs
@[go_sem] theorem HR.ren_cs (rn : Nat → Nat) (h : HR) : renL rn h.cs = h.cs := renL_ro rn _ h.ro_cs
attribute [go_sem] HR.cs_len HR.cs_take HR.cs_drop
theorem getE_cs {l : List HR} {i : Nat} (h : i < l.length) : getE (l.map HR.av) (i : Int) = .agg (l[i]).cs := getE_hr h
theorem getE_cs0 {l : List HR} (h : 0 < l.length) : getE (l.map HR.av) 0 = .agg (l[0]).cs := getE_hr (i := 0) h
end Go.Proofs.YtmhnmaklgcppbaaGreat
namespace Go.Proofs.YtmhnmaklgcppbaaGreat
open Go Go.Proofs
set_option linter.unusedSimpArgs false
set_option linter.unusedVariables false
set_option maxRecDepth 20000

/-! ### Rows at t -/
def mixes (t : Rat) : List HQ → List HQ
  | a :: b :: r => a.mixT b t :: mixes t (b :: r)
  | _ => []
theorem mixes_len (t : Rat) : ∀ l : List HQ, (mixes t l).length = l.length - 1
  | [] => rfl
  | [_] => rfl
  | a :: b :: r => by simp only [mixes, List.length_cons, mixes_len t (b :: r)]; omega
theorem mixes_get (t : Rat) : ∀ (l : List HQ) (i : Nat) (h : i + 1 < l.length), (mixes t l)[i]'(by rw [mixes_len]; omega) = l[i].mixT l[i + 1] t
  | [], i, h => by simp at h
  | [_], i, h => by simp at h
  | a :: b :: r, 0, h => rfl
  | a :: b :: r, i + 1, h => by
    have := mixes_get t (b :: r) i (by simpa using h)
    simpa [mixes] using this
def rowT (t : Rat) : Nat → List HQ → List HQ
  | 0, l => l
  | i + 1, l => mixes t (rowT t i l)
theorem rowT_len (t : Rat) (i : Nat) (l : List HQ) : (rowT t i l).length = l.length - i := by
  induction i with
  | zero => rfl
  | succ i ih => simp only [rowT, mixes_len, ih]; omega
theorem mixes_all {t : Rat} {l : List HQ} {n : Nat} (h : ∀ x ∈ l, x.sz ≤ n) : ∀ x ∈ mixes t l, x.sz ≤ 2 * n + 2 * sz t + 4 := by
  intro x hx
  obtain ⟨i, hi, rfl⟩ := List.mem_iff_getElem.1 hx
  rw [mixes_len] at hi
  rw [mixes_get t l i (by omega)]
  have h1 := h l[i] (List.getElem_mem _)
  have h2 := h l[i + 1] (List.getElem_mem _)
  have := HQ.sz_mixT l[i] l[i + 1] t
  omega
theorem rowT_all {t : Rat} {l : List HQ} {n : Nat} (hn : sz t + 4 ≤ n) (h : ∀ x ∈ l, x.sz ≤ n) (i : Nat) : ∀ x ∈ rowT t i l, x.sz ≤ 4 ^ i * n := by
  induction i with
  | zero => intro x hx; have := h x hx; omega
  | succ i ih =>
    intro x hx
    have h1 := mixes_all ih x hx
    have h2 : 1 * n ≤ 4 ^ i * n := Nat.mul_le_mul_right _ (Nat.pow_pos (by omega))
    rw [Nat.pow_succ, Nat.mul_comm (4 ^ i) 4, Nat.mul_assoc]
    omega
/-- The curve's point at t, with its weight. -/
def dcH (t : Rat) (l : List HQ) : HQ := (rowT t (l.length - 1) l).headD hQ0
def HQ.P (h : HQ) : PQ := ⟨h.x / h.w, h.y / h.w⟩

/-- The rows as they lie in memory: the first one as it came. -/
def rowR (l : List HR) (t : Rat) (k : Nat) : List HR := if k = 0 then l else (rowT t k (l.map HR.val)).map hc
theorem rowR_val (l : List HR) (t : Rat) (k : Nat) : (rowR l t k).map HR.val = rowT t k (l.map HR.val) := by
  unfold rowR
  split
  · next h => subst h; rfl
  · rw [map_hc_val]
theorem rowR_len (l : List HR) (t : Rat) (k : Nat) : (rowR l t k).length = l.length - k := by
  have := congrArg List.length (rowR_val l t k)
  simpa [rowT_len] using this

set_option maxHeartbeats 4000000 in
theorem cat_pure (l : List HR) (t : RQ) (hz : ∀ h ∈ l, h.In 16384) (ht : t.In 16) (hG : GoodC (l.map HR.val)) (h0 : 0 ≤ t.val) (h1 : t.val ≤ 1) (hw : (dcH t.val (l.map HR.val)).w ≠ 0) :
    Pure Tryz.prog 45 [hL l, t.av] (.tup [pA (dcH t.val (l.map HR.val)).P, .int .i64 0]) := by
  have hg := cgood_pure l (by have := hG.2.2; simp at this; omega) (fun h hh => (hz h hh).w.sm.ok)
  rw [decide_eq_true hG] at hg
  have hn2 : 2 ≤ l.length := by have := hG.2.1; simpa using this
  have hn4 : l.length ≤ 4 := by have := hG.2.2; simpa using this
  obtain ⟨v, hv⟩ : ∃ v, v = l.map HR.val := ⟨_, rfl⟩
  have hvl : v.length = l.length := by rw [hv]; simp
  have hvs : ∀ h ∈ v, h.sz ≤ 16384 := by
    intro x hx
    rw [hv] at hx
    obtain ⟨y, hy, rfl⟩ := List.mem_map.1 hx
    exact (hz y hy).sz
  have hsgn := rsign_pure t ht.sm.ok
  have hone := rof_pure 1 1 (by omega) (by omega) (by omega)
  rw [show ((1 : Int) : Rat) / ((1 : Int) : Rat) = 1 by grind] at hone
  have hcmp := rcmp_pure t (qc 1) ht.sm (qc_in (n := 1) (by rw [sz_one]; omega)).sm
  rw [qc_val] at hcmp
  have s1 : ¬ sgnQ t.val < 0 := by rw [sgnQ_lt]; grind
  have s2 : ¬ 0 < cmpQ t.val 1 := by rw [cmpQ_gt]; grind
  refine Pure.of_go mixed Tryz.func45 rfl (rs := [.cell 4 51, .tmp 5]) rfl (by kernel_rfl) (by simp only [ro, roL]; exact ⟨ro_pA _, trivial, trivial⟩) ?_
  unfold rA RQ.av at *
  unfold hL at *
  generalize qc 1 = c1 at *
  simp -implicitDefEqProofs [go_sem]
  refine goC_pure _ hg (by simp -implicitDefEqProofs [go_sem]) ?_
  simp -implicitDefEqProofs [go_sem]
  refine goD_pure _ hsgn (by simp -implicitDefEqProofs [go_sem]) ?_
  simp -implicitDefEqProofs [go_sem, s1]
  refine goD_pure _ hone (by simp -implicitDefEqProofs [go_sem]) ?_
  simp -implicitDefEqProofs [go_sem]
  refine goD_pure _ hcmp (by simp -implicitDefEqProofs [go_sem]) ?_
  have hg0' := getE_cs0 (l := l) (by omega)
  simp -implicitDefEqProofs [go_sem, s2, hg0']
  refine ⟨by omega, ?_⟩
  obtain ⟨ct, ht1, ht2, ht3, ht4⟩ : ∃ ct, ct = [AV.bool t.neg, AV.sl 1 false (uA IntKind.u64 t.p), AV.sl 1 false (uA IntKind.u64 t.q)] ∧ ct.length = 3 ∧ ct.take 3 = ct ∧ roL ct := ⟨_, rfl, rfl, rfl, by simp -implicitDefEqProofs [go_sem]⟩
  obtain ⟨z6, hz6⟩ : ∃ z6, z6 = [AV.bool false, AV.sl 0 true [], AV.sl 0 true [], AV.bool false, AV.sl 0 true [], AV.sl 0 true []] := ⟨_, rfl⟩
  have z6r : roL z6 := by rw [hz6]; simp -implicitDefEqProofs [go_sem]
  rw [← ht1, ← hz6]
  unfold goC
  refine CA.of_go mixed Tryz.func96 rfl (rs := [.tmp 4]) rfl (by kernel_rfl) ?_
  simp -implicitDefEqProofs [go_sem, ht2, ht3]
  refine ⟨⟨_, _, rfl, rfl, by kernel_rfl⟩, fun r hR => ?_⟩
  generalize hT : cut 15 _ = T at hR ⊢
  have t6 : T 6 = .ptr 12 0 0 := by rw [← hT]; simp -implicitDefEqProofs [go_sem]
  clear hT
  refine CA.of_go mixed Tryz.func141 rfl (rs := []) rfl (by kernel_rfl) ?_
  have hm1 : ∀ k, k < 4 → ∀ x ∈ rowT t.val k v, x.sz ≤ 1048576 := fun k hk x hx => by
    have st := ht.sz
    have q1 := rowT_all (t := t.val) (n := 16384) (by omega) hvs k x hx
    have q2 : 4 ^ k * 16384 ≤ 4 ^ 3 * 16384 := Nat.mul_le_mul_right _ (Nat.pow_le_pow_right (by omega) (by omega))
    omega
  obtain ⟨m, hm⟩ : ∃ m, m = l.length - 1 := ⟨_, rfl⟩
  obtain ⟨A, hAA⟩ : ∃ A : Nat → List HR, A = rowR l t.val := ⟨_, rfl⟩
  have hAl : ∀ k, (A k).length = l.length - k := fun k => by rw [hAA]; exact rowR_len _ _ _
  have hAn : ∀ k, k ≤ m → A k ≠ [] := fun k hk h => by have := hAl k; rw [h] at this; simp at this; omega
  have hAz : ∀ k, k ≤ m → ∀ h ∈ A k, h.In 1073741824 := fun k hk h hh => by
    rw [hAA] at hh
    unfold rowR at hh
    split at hh
    · exact (hz h hh).mono
    · obtain ⟨y, hy, rfl⟩ := List.mem_map.1 hh
      exact (hc_in (hm1 k (by omega) y (by rw [hv]; exact hy))).mono
  have hAs : ∀ k, (A (k + 1)) = (mixes t.val ((A k).map HR.val)).map hc := fun k => by
    rw [hAA, rowR_val]; unfold rowR; rw [if_neg (by omega)]; rfl
  have hAr : ∀ k, roL ((A k).map HR.av) := fun k => roL_hr _
  have hA0 : A 0 = l := by rw [hAA]; rfl
  obtain ⟨hd, hhd⟩ : ∃ hd : Nat → HR, hd = fun k => (A k).headD ⟨t, t, t⟩ := ⟨_, rfl⟩
  have hhd0 : ∀ k (h : 0 < (A k).length), hd k = (A k)[0] := fun k h => by
    rw [hhd]
    simp only
    rw [List.headD_eq_head?_getD, List.head?_eq_getElem?, List.getElem?_eq_getElem h]; rfl
  have hd0 : hd 0 = l[0] := by
    rw [hhd0 0 (by rw [hA0]; omega)]
    simp only [hA0]
  simp -implicitDefEqProofs [go_sem]
  refine go_loopN 16 (α := {k : Nat // k ≤ m}) (fun k => [(0, .yld 15), (1, .ptr 13 0 0), (2, .ptr 14 0 0)])
    (fun k => [(0, .live 3 [.agg ct]), (1, .live 6 [.agg z6]), (12, .live 9 [.agg (hd (k.1 - 1)).cs]), (13, .live 1 [.sl 9 false ((A k.1).map HR.av)]), (14, .live 3 [.agg ct]), (15, .obj (.loop r) T)]) (fun k => m - k.1) ⟨0, Nat.zero_le _⟩ [] (by simp) (fun _ _ _ _ h => h) (by omega) (by simp -implicitDefEqProofs [go_sem]) (by simp -implicitDefEqProofs [go_sem, hA0, hd0]; exact ⟨⟨(renL_ro _ _ ht4).symm, cloL_ro _ ht4⟩, ⟨(renL_ro _ _ z6r).symm, cloL_ro _ z6r⟩, (renL_ro _ _ ht4).symm, cloL_ro _ ht4⟩) fun ⟨k, hk⟩ => ?_
  have hkl : 0 < (A k).length := by rw [hAl]; omega
  have hgk := getE_cs0 hkl
  rw [← hhd0 k hkl] at hgk
  simp -implicitDefEqProofs [go_sem]
  refine hR _ _ _ _ rfl (by simp -implicitDefEqProofs [go_sem]) (by omega) ?_
  have hlk := hAl k
  have ew : IntKind.i64.wrap (((A k).length : Int) - 1) = ((A k).length - 1 : Nat) := by rw [w64 (by omega)]; omega
  obtain ⟨q, hq⟩ : ∃ q, q = (A k).length - 1 := ⟨_, rfl⟩
  rw [← hq] at ew
  simp -implicitDefEqProofs [go_sem, t6, hgk, ew]
  refine ⟨hkl, fun h => ?_, fun h => ?_⟩
  · refine ⟨⟨by omega, by omega⟩, ?_⟩
    have hfz : List.replicate q (AV.agg [.bool false, .sl 0 true [], .sl 0 true [], .bool false, .sl 0 true [], .sl 0 true [], .bool false, .sl 0 true [], .sl 0 true []]) = fil hZ [] q := fil_nil hZ q
    rw [hfz]
    obtain ⟨B, hB⟩ : ∃ B, B = (A (k + 1)).map HR.av := ⟨_, rfl⟩
    have hBl : B.length = q := by rw [hB]; simp [hAl]; omega
    have hBr : ∀ i, roL (fil hZ (B.take i) q) := fun i => roL_fil ro_hZ (roL_take (by rw [hB]; exact roL_hr _))
    obtain ⟨cz, z1, z2, z3⟩ : ∃ cz, hZ = .agg cz ∧ cz.drop 9 = [] ∧ cz.length = 9 := ⟨_, rfl, rfl, rfl⟩
    have haf : afterL r .normal = r := rfl
    refine go_loopN 17 (α := {i : Nat // i ≤ q}) (fun i => [(0, .yld 15), (1, .ptr 13 0 0), (2, .ptr 14 0 0), (4, .own 9 16 0 q), (19, .int .i64 q), (20, .int .i64 i.1)])
      (fun i => [(0, .live 3 [.agg ct]), (1, .live 6 [.agg z6]), (12, .live 9 [.agg (hd k).cs]), (13, .live 1 [.sl 9 false ((A k).map HR.av)]), (14, .live 3 [.agg ct]), (15, .obj (.loop r) T), (16, .live 9 (fil hZ (B.take i.1) q))]) (fun i => q - i.1) ⟨0, Nat.zero_le _⟩ [] (by simp) (fun _ _ _ _ h => h) (by omega) (by simp -implicitDefEqProofs [go_sem]) (by simp -implicitDefEqProofs [go_sem]; exact ⟨⟨(renL_ro _ _ ht4).symm, cloL_ro _ ht4⟩, ⟨(renL_ro _ _ z6r).symm, cloL_ro _ z6r⟩, ⟨(renL_ro _ _ ht4).symm, cloL_ro _ ht4⟩, rfl⟩) fun ⟨i, hi⟩ => ?_
    simp -implicitDefEqProofs [go_sem]
    refine ⟨fun h2 => ?_, fun h2 => ?_⟩
    · have e1 : IntKind.i64.wrap ((i : Int) + 1) = (i + 1 : Nat) := by rw [w64 (by omega)]; omega
      obtain ⟨i1, hi1⟩ : ∃ i1, i1 = i + 1 := ⟨_, rfl⟩
      rw [← hi1] at e1
      have hik : i < (A k).length := by omega
      have hi1k : i1 < (A k).length := by omega
      have gi := getE_cs hik
      have g1 := getE_cs hi1k
      have hmx := cmix_pure (A k)[i] (A k)[i1] t (hAz k hk _ (List.getElem_mem _)) (hAz k hk _ (List.getElem_mem _)) ht.mono
      have hBi : B[i]'(by omega) = hA ((A k)[i].val.mixT (A k)[i1].val t.val) := by
        subst hB
        simp only [hAs k, List.getElem_map]
        rw [mixes_get t.val _ i (by simp; omega)]
        simp only [List.getElem_map, hi1]
        rfl
      have hTs : B.take i1 = B.take i ++ [hA ((A k)[i].val.mixT (A k)[i1].val t.val)] := by
        have hT := List.take_succ_eq_append_getElem (l := B) (i := i) (by omega)
        rw [← hi1, hBi] at hT
        exact hT
      generalize (A k)[i].val.mixT (A k)[i1].val t.val = y at *
      generalize (A k)[i] = x0 at *
      generalize (A k)[i1] = x1 at *
      have ey : hA y = .agg (hc y).cs := rfl
      rw [ey] at hTs hmx
      have ex : t.av = .agg ct := by rw [ht1]; rfl
      rw [HR.av_cs, HR.av_cs, ex] at hmx
      generalize hc y = yc at *
      have htl : (B.take i).length = i := by rw [List.length_take]; omega
      have hat := (fil_at (z := hZ) (a := B.take i) (n := q) (i := i) (by omega) (by omega)).trans z1
      have hst := fil_set (z := hZ) (a := B.take i) (n := q) (.agg yc.cs) (by omega)
      rw [htl, ← hTs] at hst
      have r0 := renL_ro (nm []) _ (hBr i1)
      have r1 := cloL_ro (n := 17) _ (hBr i1)
      have r2 := (renL_ro (nm []) _ ht4).symm
      have r3 := cloL_ro (n := 17) _ ht4
      have r4 := (renL_ro (nm []) _ z6r).symm
      have r5 := cloL_ro (n := 17) _ z6r
      have hfl := fil_len (z := hZ) (a := B.take i) (n := q) (by omega)
      simp -implicitDefEqProofs [go_sem, gi, g1, e1, ht2, ht3]
      refine ⟨hik, hi1k, goD_pure _ hmx (by simp -implicitDefEqProofs [go_sem, ht4, HR.ro_cs]) ?_⟩
      simp -implicitDefEqProofs [go_sem, hat, hfl, z2, z3, e1, hst]
      exact ⟨by omega, go_again ⟨i1, by omega⟩ (by simp only; omega) [] (by simp) (fun _ _ _ _ h => h) (by simp) (by simp -implicitDefEqProofs [go_sem, e1]) (by simp -implicitDefEqProofs [go_sem, r0, r1, ← r2, r3, ← r4, r5])⟩
    · have hiq : i = q := by omega
      have hff : fil hZ (B.take i) q = B := by rw [List.take_of_length_le (by omega)]; exact fil_full (by omega)
      have hBr0 : roL B := by rw [hB]; exact roL_hr _
      have r2 := (renL_ro (nm []) _ ht4).symm
      have r3 := cloL_ro (n := 16) _ ht4
      have r4 := (renL_ro (nm []) _ z6r).symm
      have r5 := cloL_ro (n := 16) _ z6r
      have r6 := (renL_ro (nm []) _ hBr0).symm
      have r7 := cloL_ro (n := 16) _ hBr0
      have hBt : B.take q = B := List.take_of_length_le (by omega)
      rw [hff]
      refine go_againF 16 9 B (by simp -implicitDefEqProofs [go_sem]) ⟨k + 1, by omega⟩ (by simp only; omega) [] (by simp) (fun _ _ _ _ h => h) (by simp) (by simp -implicitDefEqProofs [go_sem]) (by simp -implicitDefEqProofs [go_sem, ← hB, hBt, hBl, map_frz, ht4, z6r, HR.ro_cs, ← r2, r3, ← r4, r5, ← r6, r7])
  · refine ⟨.normal, rfl, ?_⟩
    have hkm : k = m := by omega
    rw [goRE_normal]
    have hin : (hd k).In 17179869184 := by
      rw [hhd0 k hkl]
      exact (hAz k hk _ (List.getElem_mem _)).mono
    have hvl2 : (hd k).val = dcH t.val v := by
      have e1 : (A k).map HR.val = rowT t.val k v := by rw [hAA, rowR_val, hv]
      have hl2 : 0 < (rowT t.val k v).length := by rw [rowT_len]; omega
      unfold dcH
      rw [hhd0 k hkl, show v.length - 1 = k by omega, List.headD_eq_head?_getD, List.head?_eq_getElem?, List.getElem?_eq_getElem hl2]
      simp only [← e1, List.getElem_map, Option.getD_some]
    have hp := cpoint_pure (hd k) hin (by
      have : (hd k).w.val = (hd k).val.w := rfl
      rw [this, hvl2, hv]; exact hw)
    have e2 : (⟨(hd k).x.val / (hd k).w.val, (hd k).y.val / (hd k).w.val⟩ : PQ) = (dcH t.val (l.map HR.val)).P := by
      rw [← hv, ← hvl2]; rfl
    rw [e2, HR.av_cs] at hp
    have hro := ro_pA (dcH t.val (l.map HR.val)).P
    obtain ⟨cp, u1, u2, u3, u4⟩ : ∃ cp, pA (dcH t.val (l.map HR.val)).P = .agg cp ∧ cp.length = 6 ∧ cp.take 6 = cp ∧ roL cp := ⟨_, rfl, rfl, rfl, by unfold pA PR.av at hro; simpa only [ro] using hro⟩
    rw [u1] at hp ⊢
    have u5 : z6.length = 6 := by rw [hz6]; rfl
    have u6 : z6.drop 6 = [] := by rw [hz6]; rfl
    simp -implicitDefEqProofs [go_sem]
    refine goC_pure _ hp (by simp -implicitDefEqProofs [go_sem, HR.ro_cs]) ?_
    simp -implicitDefEqProofs [go_sem, rop, u2, u3, u5, u6]
    exact ⟨viewL_ro _ _ u4, fitsL_ro _ _ u4⟩
end Go.Proofs.YtmhnmaklgcppbaaGreat
namespace Go.Proofs.YtmhnmaklgcppbaaGreat
open Go Go.Proofs
set_option linter.unusedSimpArgs false
set_option linter.unusedVariables false

theorem HQ.ext {a b : HQ} (h1 : a.x = b.x) (h2 : a.y = b.y) (h3 : a.w = b.w) : a = b := by cases a; cases b; simp_all
theorem list2 {α : Type} {l : List α} (h : l.length = 2) : ∃ a b, l = [a, b] := by
  match l, h with
  | [a, b], _ => exact ⟨a, b, rfl⟩
theorem list3 {α : Type} {l : List α} (h : l.length = 3) : ∃ a b c, l = [a, b, c] := by
  match l, h with
  | [a, b, c], _ => exact ⟨a, b, c, rfl⟩
theorem list4 {α : Type} {l : List α} (h : l.length = 4) : ∃ a b c d, l = [a, b, c, d] := by
  match l, h with
  | [a, b, c, d], _ => exact ⟨a, b, c, d, rfl⟩
theorem dc2 (t : Rat) (a b : HQ) : dcH t [a, b] = a.mixT b t := rfl
theorem dc3 (t : Rat) (a b c : HQ) : dcH t [a, b, c] = (a.mixT b t).mixT (b.mixT c t) t := rfl
theorem dc4 (t : Rat) (a b c d : HQ) : dcH t [a, b, c, d] = ((a.mixT b t).mixT (b.mixT c t) t).mixT ((b.mixT c t).mixT (c.mixT d t) t) t := rfl
theorem cl2 (a b : HQ) : cutL 2 [a, b] = [a, a.mid b] := rfl
theorem cr2 (a b : HQ) : cutR 2 [a, b] = [a.mid b, b] := rfl
theorem cl3 (a b c : HQ) : cutL 3 [a, b, c] = [a, a.mid b, (a.mid b).mid (b.mid c)] := rfl
theorem cr3 (a b c : HQ) : cutR 3 [a, b, c] = [(a.mid b).mid (b.mid c), b.mid c, c] := rfl
theorem cl4 (a b c d : HQ) : cutL 4 [a, b, c, d] = [a, a.mid b, (a.mid b).mid (b.mid c), ((a.mid b).mid (b.mid c)).mid ((b.mid c).mid (c.mid d))] := rfl
theorem cr4 (a b c d : HQ) : cutR 4 [a, b, c, d] = [((a.mid b).mid (b.mid c)).mid ((b.mid c).mid (c.mid d)), (b.mid c).mid (c.mid d), c.mid d, d] := rfl

theorem hl2 (t a b : Rat) : mixQ a (midQ a b) t = mixQ a b (t / 2) := by unfold mixQ midQ half; grind
theorem hr2 (t a b : Rat) : mixQ (midQ a b) b t = mixQ a b ((1 + t) / 2) := by unfold mixQ midQ half; grind
theorem hl3 (t a b c : Rat) : mixQ (mixQ a (midQ a b) t) (mixQ (midQ a b) (midQ (midQ a b) (midQ b c)) t) t = mixQ (mixQ a b (t / 2)) (mixQ b c (t / 2)) (t / 2) := by
  unfold mixQ midQ half; grind
theorem hr3 (t a b c : Rat) : mixQ (mixQ (midQ (midQ a b) (midQ b c)) (midQ b c) t) (mixQ (midQ b c) c t) t = mixQ (mixQ a b ((1 + t) / 2)) (mixQ b c ((1 + t) / 2)) ((1 + t) / 2) := by
  unfold mixQ midQ half; grind
theorem hl4 (t a b c d : Rat) : mixQ (mixQ (mixQ a (midQ a b) t) (mixQ (midQ a b) (midQ (midQ a b) (midQ b c)) t) t) (mixQ (mixQ (midQ a b) (midQ (midQ a b) (midQ b c)) t) (mixQ (midQ (midQ a b) (midQ b c)) (midQ (midQ (midQ a b) (midQ b c)) (midQ (midQ b c) (midQ c d))) t) t) t =
    mixQ (mixQ (mixQ a b (t / 2)) (mixQ b c (t / 2)) (t / 2)) (mixQ (mixQ b c (t / 2)) (mixQ c d (t / 2)) (t / 2)) (t / 2) := by
  unfold mixQ midQ half; grind
theorem hr4 (t a b c d : Rat) : mixQ (mixQ (mixQ (midQ (midQ (midQ a b) (midQ b c)) (midQ (midQ b c) (midQ c d))) (midQ (midQ b c) (midQ c d)) t) (mixQ (midQ (midQ b c) (midQ c d)) (midQ c d) t) t) (mixQ (mixQ (midQ (midQ b c) (midQ c d)) (midQ c d) t) (mixQ (midQ c d) d t) t) t =
    mixQ (mixQ (mixQ a b ((1 + t) / 2)) (mixQ b c ((1 + t) / 2)) ((1 + t) / 2)) (mixQ (mixQ b c ((1 + t) / 2)) (mixQ c d ((1 + t) / 2)) ((1 + t) / 2)) ((1 + t) / 2) := by
  unfold mixQ midQ half; grind

theorem dc_cutL (t : Rat) {v : List HQ} (hG : GoodC v) : dcH t (cutL v.length v) = dcH (t / 2) v := by
  obtain ⟨_, h2, h4⟩ := hG
  rcases (by omega : v.length = 2 ∨ v.length = 3 ∨ v.length = 4) with h | h | h
  · obtain ⟨a, b, rfl⟩ := list2 h
    rw [h, cl2, dc2, dc2]
    exact HQ.ext (hl2 ..) (hl2 ..) (hl2 ..)
  · obtain ⟨a, b, c, rfl⟩ := list3 h
    rw [h, cl3, dc3, dc3]
    exact HQ.ext (hl3 ..) (hl3 ..) (hl3 ..)
  · obtain ⟨a, b, c, d, rfl⟩ := list4 h
    rw [h, cl4, dc4, dc4]
    exact HQ.ext (hl4 ..) (hl4 ..) (hl4 ..)
theorem dc_cutR (t : Rat) {v : List HQ} (hG : GoodC v) : dcH t (cutR v.length v) = dcH ((1 + t) / 2) v := by
  obtain ⟨_, h2, h4⟩ := hG
  rcases (by omega : v.length = 2 ∨ v.length = 3 ∨ v.length = 4) with h | h | h
  · obtain ⟨a, b, rfl⟩ := list2 h
    rw [h, cr2, dc2, dc2]
    exact HQ.ext (hr2 ..) (hr2 ..) (hr2 ..)
  · obtain ⟨a, b, c, rfl⟩ := list3 h
    rw [h, cr3, dc3, dc3]
    exact HQ.ext (hr3 ..) (hr3 ..) (hr3 ..)
  · obtain ⟨a, b, c, d, rfl⟩ := list4 h
    rw [h, cr4, dc4, dc4]
    exact HQ.ext (hr4 ..) (hr4 ..) (hr4 ..)

theorem mixQ_pos {a b t : Rat} (ha : 0 < a) (hb : 0 < b) (h0 : 0 ≤ t) (h1 : t ≤ 1) : 0 < mixQ a b t := by
  unfold mixQ
  rcases Rat.le_iff_lt_or_eq.1 h0 with h | h
  · have h2 : 0 < b * t := Rat.mul_pos hb h
    have h3 : 0 ≤ a * (1 - t) := Rat.mul_nonneg (Rat.le_of_lt ha) (by grind)
    grind
  · subst h; grind
theorem rowT_pos {t : Rat} (h0 : 0 ≤ t) (h1 : t ≤ 1) {v : List HQ} (h : ∀ x ∈ v, 0 < x.w) (i : Nat) : ∀ x ∈ rowT t i v, 0 < x.w := by
  induction i with
  | zero => exact h
  | succ i ih =>
    intro x hx
    obtain ⟨j, hj, rfl⟩ := List.mem_iff_getElem.1 hx
    have hj' : j < (mixes t (rowT t i v)).length := hj
    rw [mixes_len] at hj'
    have := mixes_get t (rowT t i v) j (by omega)
    simp only [rowT]
    rw [this]
    exact mixQ_pos (ih _ (List.getElem_mem _)) (ih _ (List.getElem_mem _)) h0 h1
theorem dc_pos {t : Rat} (h0 : 0 ≤ t) (h1 : t ≤ 1) {v : List HQ} (hG : GoodC v) : 0 < (dcH t v).w := by
  have hl : 0 < (rowT t (v.length - 1) v).length := by rw [rowT_len]; have := hG.2.1; omega
  unfold dcH
  rw [List.headD_eq_head?_getD, List.head?_eq_getElem?, List.getElem?_eq_getElem hl]
  exact rowT_pos h0 h1 hG.1 _ _ (List.getElem_mem _)
end Go.Proofs.YtmhnmaklgcppbaaGreat
namespace Go.Proofs.YtmhnmaklgcppbaaGreat
open Go Go.Proofs
set_option linter.unusedSimpArgs false
set_option linter.unusedVariables false
set_option maxRecDepth 20000

theorem sz_pos (x : Rat) : 1 ≤ sz x := by
  have h1 := sz_den x
  have h2 := nl_mono (Nat.one_le_iff_ne_zero.2 x.den_nz)
  rw [nl_one] at h2
  omega
theorem sz_inv (x : Rat) : sz x⁻¹ ≤ sz x := by
  have h0 := sz_pos x
  have h1 := sz_num x
  have h2 := sz_den x
  have e1 : nl (x⁻¹).num.natAbs ≤ nl x.den := by
    rw [Rat.num_inv, Int.natAbs_mul]
    refine nl_mono ?_
    have : x.num.sign.natAbs ≤ 1 := by
      rcases Int.sign_trichotomy x.num with h | h | h <;> rw [h] <;> decide
    calc x.num.sign.natAbs * (x.den : Int).natAbs ≤ 1 * (x.den : Int).natAbs := Nat.mul_le_mul_right _ this
      _ = x.den := by simp
  have e2 : nl (x⁻¹).den ≤ sz x := by
    rw [Rat.den_inv]
    split
    · rw [nl_one]; exact h0
    · exact h1
  conv => lhs; unfold sz
  omega
theorem sz_div (x y : Rat) : sz (x / y) ≤ sz x + sz y := by
  rw [Rat.div_def]
  have := sz_mul x y⁻¹
  have := sz_inv y
  omega
theorem HQ.sz_P (h : HQ) : h.P.sz ≤ 2 * h.sz := by
  have := h.sz_x; have := h.sz_y; have := h.sz_w
  have := sz_div h.x h.w; have := sz_div h.y h.w
  unfold HQ.P PQ.sz
  simp only
  omega
theorem sz_frac {p q : Int} (hp : -9223372036854775808 ≤ p ∧ p ≤ 9223372036854775807) (hq : -9223372036854775808 ≤ q ∧ q ≤ 9223372036854775807) (h0 : q ≠ 0) : sz ((p : Rat) / (q : Rat)) ≤ 1 := by
  rw [div_mk]
  have h := sz_mk (if q < 0 then -p else p) (d := q.natAbs) (by omega)
  have h1 := nl_i64 hp
  have h2 := nl_i64 hq
  have h3 : (if q < 0 then -p else p).natAbs = p.natAbs := by split <;> simp
  rw [h3] at h
  omega
theorem dc_sz {t : Rat} {v : List HQ} {n : Nat} (hn : sz t + 4 ≤ n) (hG : GoodC v) (h : ∀ x ∈ v, x.sz ≤ n) : (dcH t v).sz ≤ 64 * n := by
  have hl : 0 < (rowT t (v.length - 1) v).length := by rw [rowT_len]; have := hG.2.1; omega
  have h1 := rowT_all hn h (v.length - 1)
  unfold dcH
  rw [List.headD_eq_head?_getD, List.head?_eq_getElem?, List.getElem?_eq_getElem hl]
  refine Nat.le_trans (h1 _ (List.getElem_mem _)) (Nat.mul_le_mul_right _ ?_)
  have : 4 ^ (v.length - 1) ≤ 4 ^ 3 := Nat.pow_le_pow_right (by omega) (by have := hG.2.2; omega)
  omega

theorem catr_pure (l : List HR) (t : Rat) (hz : ∀ h ∈ l, h.In 16384) (ht : sz t ≤ 16) (hG : GoodC (l.map HR.val)) (h0 : 0 ≤ t) (h1 : t ≤ 1) :
    Pure Tryz.prog 45 [hL l, rA t] (.tup [pA (dcH t (l.map HR.val)).P, .int .i64 0]) := by
  have h := cat_pure l (qc t) hz (qc_in ht) hG (by rw [qc_val]; exact h0) (by rw [qc_val]; exact h1) (by rw [qc_val]; have := dc_pos h0 h1 hG; grind)
  rw [qc_val] at h
  exact h
theorem catq_pure (v : List HQ) (t : Rat) (hs : ∀ h ∈ v, h.sz ≤ 16384) (ht : sz t ≤ 16) (hG : GoodC v) (h0 : 0 ≤ t) (h1 : t ≤ 1) :
    Pure Tryz.prog 45 [qL v, rA t] (.tup [pA (dcH t v).P, .int .i64 0]) := by
  have h := catr_pure (v.map hc) t (fun h hh => by
    obtain ⟨y, hy, rfl⟩ := List.mem_map.1 hh
    exact hc_in (hs y hy)) ht (by rw [map_hc_val]; exact hG) h0 h1
  rw [map_hc_val, qL_hL] at h
  exact h
end Go.Proofs.YtmhnmaklgcppbaaGreat
