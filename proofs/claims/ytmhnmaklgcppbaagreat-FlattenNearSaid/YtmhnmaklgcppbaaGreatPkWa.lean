/-
  Of the seat's texts, joined: LwD.
-/
import Derived.Test.YtmhnmaklgcppbaaGreatPkMa
namespace Go.Proofs.YtmhnmaklgcppbaaGreat
open Go Go.Proofs
set_option linter.unusedSimpArgs false
set_option linter.unusedVariables false
set_option maxRecDepth 20000

theorem midQ_le {a b c : Rat} (ha : a ≤ c) (hb : b ≤ c) : midQ a b ≤ c := by unfold midQ half; grind
theorem le_midQ {a b c : Rat} (ha : c ≤ a) (hb : c ≤ b) : c ≤ midQ a b := by unfold midQ half; grind
theorem mids_in {lo hi : Rat} : ∀ {l : List HQ}, (∀ h ∈ l, lo ≤ h.w ∧ h.w ≤ hi) → ∀ h ∈ mids l, lo ≤ h.w ∧ h.w ≤ hi
  | [], _, h, hh => by simp [mids] at hh
  | [_], _, h, hh => by simp [mids] at hh
  | a :: b :: r, hl, h, hh => by
    simp only [mids, List.mem_cons] at hh
    rcases hh with rfl | hh
    · have h1 := hl a (by simp)
      have h2 := hl b (by simp)
      exact ⟨le_midQ h1.1 h2.1, midQ_le h1.2 h2.2⟩
    · exact mids_in (fun x hx => hl x (by simp only [List.mem_cons] at hx ⊢; exact .inr hx)) h hh
theorem rowN_in {lo hi : Rat} {l : List HQ} (hl : ∀ h ∈ l, lo ≤ h.w ∧ h.w ≤ hi) (i : Nat) : ∀ h ∈ rowN i l, lo ≤ h.w ∧ h.w ≤ hi := by
  induction i with
  | zero => exact hl
  | succ i ih => exact mids_in ih
theorem cut_in {lo hi : Rat} {l : List HQ} (hl : ∀ h ∈ l, lo ≤ h.w ∧ h.w ≤ hi) : (∀ h ∈ cutL l.length l, lo ≤ h.w ∧ h.w ≤ hi) ∧ ∀ h ∈ cutR l.length l, lo ≤ h.w ∧ h.w ≤ hi := by
  obtain ⟨m1, m2⟩ := cut_mem (l := l) l.length (Nat.le_refl _)
  exact ⟨fun x hx => by obtain ⟨i, _, hm⟩ := m1 x hx; exact rowN_in hl i x hm, fun x hx => by obtain ⟨i, _, hm⟩ := m2 x hx; exact rowN_in hl i x hm⟩

/-- Control points as they come: their limbs are limbs. -/
structure HR.Lm (h : HR) : Prop where
  xp : Lim 18446744073709551616 h.x.p
  xq : Lim 18446744073709551616 h.x.q
  yp : Lim 18446744073709551616 h.y.p
  yq : Lim 18446744073709551616 h.y.q
  wp : Lim 18446744073709551616 h.w.p
  wq : Lim 18446744073709551616 h.w.q
theorem HR.Lm.inn {h : HR} (hl : h.Lm) (hs : h.small) : h.In 4 := ⟨⟨hs.1.1, hl.xp, hs.1.2, hl.xq⟩, ⟨hs.2.1.1, hl.yp, hs.2.1.2, hl.yq⟩, ⟨hs.2.2.1, hl.wp, hs.2.2.2, hl.wq⟩⟩

set_option maxHeartbeats 4000000 in
theorem hweights_pure (l : List HR) (hl : l.length ≤ 9223372036854775807) (hm : ∀ h ∈ l, h.Lm) : Pure Tryz.prog 4 [hL l] (.bool true) := by
  have hf := fair_pure l hl
  have hw := hwakes_pure
  refine Pure.of_goz true mixed Tryz.func4 rfl (rs := [.tmp 2]) rfl (by kernel_rfl) (by simp -implicitDefEqProofs [go_sem]) ?_
  by_cases hF : FairL l
  · have hz : ∀ h ∈ l, h.In 4 := fun h hh => (hm h hh).inn (hF.1 h hh)
    have hl6 := hF.2
    have hins := gins_pure l (by omega) (fun h hh => (hz h hh).mono)
    have hgd := ggood_pure (l.map HR.val) (by simp; omega)
    obtain ⟨V, hV⟩ : ∃ V, V = (l.map HR.val).map gA := ⟨_, rfl⟩
    have hVr : roL V := by rw [hV]; exact roL_gA _
    rw [decide_eq_true hF] at hf
    unfold hL gL at *
    rw [← hV] at hins hgd
    simp -implicitDefEqProofs [go_sem]
    refine goC_pure _ hf (by simp -implicitDefEqProofs [go_sem]) ?_
    simp -implicitDefEqProofs [go_sem]
    refine goC_pure _ hins (by simp -implicitDefEqProofs [go_sem]) ?_
    simp -implicitDefEqProofs [go_sem]
    refine goC_pure _ hgd (by simp -implicitDefEqProofs [go_sem]; exact hVr) ?_
    by_cases hG : GoodC (l.map HR.val)
    · have hl2 : 2 ≤ l.length := by have := hG.2.1; simpa using this
      have hl4 : l.length ≤ 4 := by have := hG.2.2; simpa using this
      have hg0 := getE_hr (l := l) (i := 0) (by omega)
      simp only [HR.av] at hg0
      have hg0' : getE (l.map HR.av) 0 = _ := hg0
      simp -implicitDefEqProofs [go_sem, hG]
      refine go_loose' (by kernel_rfl) ?_
      simp -implicitDefEqProofs [go_sem, hg0']
      clear hgd hins hV
      refine ⟨by omega, ?_⟩
      refine go_loopN 12 (α := {s : Nat × RQ × RQ // s.1 ≤ l.length ∧ s.2.1.In 4 ∧ s.2.2.In 4 ∧ ∀ h ∈ l.take s.1, s.2.1.val ≤ h.w.val ∧ h.w.val ≤ s.2.2.val}) (fun s => [(0, hL l), (3, .ptr 8 0 0), (4, .ptr 9 0 0), (5, .int .i64 s.1.1)]) (fun s => [(8, .live 3 [s.1.2.1.av]), (9, .live 3 [s.1.2.2.av])]) (fun s => l.length - s.1.1) ⟨(0, l[0].w, l[0].w), by simp only; exact ⟨Nat.zero_le _, (hz _ (List.getElem_mem _)).w, (hz _ (List.getElem_mem _)).w, by simp⟩⟩ [] (by simp) (fun _ _ _ _ h => h) (by omega) (by simp -implicitDefEqProofs [go_sem, hL]) (by simp -implicitDefEqProofs [go_sem, RQ.av]) fun ⟨⟨i, lo, hi⟩, hil, hlo, hhi, hbd⟩ => ?_
      simp only at hil hlo hhi hbd
      simp -implicitDefEqProofs [go_sem, hL, RQ.av]
      refine ⟨fun h => ?_, fun h => ?_⟩
      · have hg := getE_hr (l := l) (i := i) h
        have hwi := (hz _ (List.getElem_mem h)).w
        have c1 := rcmp_pure l[i].w lo hwi.sm hlo.sm
        have c2 := rcmp_pure l[i].w hi hwi.sm hhi.sm
        have es : IntKind.i64.wrap ((i : Int) + 1) = (i + 1 : Nat) := by rw [w64 (by omega)]; omega
        simp only [HR.av] at hg
        unfold RQ.av at c1 c2
        refine go_strict' (by kernel_rfl) ?_
        simp -implicitDefEqProofs [go_sem, hg]
        refine ⟨h, goD_pure _ c1 (by simp -implicitDefEqProofs [go_sem]) ?_⟩
        have st : ∀ lo' hi' : RQ, lo'.val ≤ lo.val → hi.val ≤ hi'.val → lo'.val ≤ l[i].w.val → l[i].w.val ≤ hi'.val → ∀ h ∈ l.take (i + 1), lo'.val ≤ h.w.val ∧ h.w.val ≤ hi'.val := fun lo' hi' b1 b2 b3 b4 => by
          rw [all_take_succR h]
          exact ⟨fun x hx => by have := hbd x hx; exact ⟨Rat.le_trans b1 this.1, Rat.le_trans this.2 b2⟩, b3, b4⟩
        by_cases hA : l[i].w.val < lo.val
        · simp -implicitDefEqProofs [go_sem, cmpQ_lt, hA, hg]
          refine ⟨h, ?_⟩
          refine go_strict' (by kernel_rfl) ?_
          simp -implicitDefEqProofs [go_sem, hg]
          refine ⟨h, goD_pure _ c2 (by simp -implicitDefEqProofs [go_sem]) ?_⟩
          by_cases hB : hi.val < l[i].w.val
          · simp -implicitDefEqProofs [go_sem, cmpQ_gt, hB, hg, es]
            refine ⟨h, go_again ⟨(i + 1, l[i].w, l[i].w), ?_⟩ (by simp only; omega) [] (by simp) (by simp [nm]) (by simp) (by simp -implicitDefEqProofs [go_sem, hL]) (by simp -implicitDefEqProofs [go_sem, nm])⟩
            exact ⟨h, hwi, hwi, st _ _ (by grind) (by grind) (by grind) (by grind)⟩
          · simp -implicitDefEqProofs [go_sem, cmpQ_gt, hB, hg, es]
            refine go_again ⟨(i + 1, l[i].w, hi), ?_⟩ (by simp only; omega) [] (by simp) (by simp [nm]) (by simp) (by simp -implicitDefEqProofs [go_sem, hL]) (by simp -implicitDefEqProofs [go_sem, nm])
            exact ⟨h, hwi, hhi, st _ _ (by grind) (by grind) (by grind) (by grind)⟩
        · simp -implicitDefEqProofs [go_sem, cmpQ_lt, hA, hg]
          refine go_strict' (by kernel_rfl) ?_
          simp -implicitDefEqProofs [go_sem, hg]
          refine ⟨h, goD_pure _ c2 (by simp -implicitDefEqProofs [go_sem]) ?_⟩
          by_cases hB : hi.val < l[i].w.val
          · simp -implicitDefEqProofs [go_sem, cmpQ_gt, hB, hg, es]
            refine ⟨h, go_again ⟨(i + 1, lo, l[i].w), ?_⟩ (by simp only; omega) [] (by simp) (by simp [nm]) (by simp) (by simp -implicitDefEqProofs [go_sem, hL]) (by simp -implicitDefEqProofs [go_sem, nm])⟩
            exact ⟨h, hlo, hwi, st _ _ (by grind) (by grind) (by grind) (by grind)⟩
          · simp -implicitDefEqProofs [go_sem, cmpQ_gt, hB, hg, es]
            refine go_again ⟨(i + 1, lo, hi), ?_⟩ (by simp only; omega) [] (by simp) (by simp [nm]) (by simp) (by simp -implicitDefEqProofs [go_sem, hL]) (by simp -implicitDefEqProofs [go_sem, nm])
            exact ⟨h, hlo, hhi, st _ _ (by grind) (by grind) (by grind) (by grind)⟩
      · have hii : i = l.length := by omega
        have hall : ∀ h ∈ l, lo.val ≤ h.w.val ∧ h.w.val ≤ hi.val := by rw [List.take_of_length_le (by omega)] at hbd; exact hbd
        clear hbd
        have hcut := cut_pure l (fun h hh => (hz h hh).mono) hG
        obtain ⟨v, hv⟩ : ∃ v, v = l.map HR.val := ⟨_, rfl⟩
        have hvl : v.length = l.length := by rw [hv]; simp
        have hvb : ∀ h ∈ v, lo.val ≤ h.w ∧ h.w ≤ hi.val := by
          intro x hx
          rw [hv] at hx
          obtain ⟨y, hy, rfl⟩ := List.mem_map.1 hx
          exact hall y hy
        have hvs : ∀ h ∈ v, h.sz ≤ 4 := by
          intro x hx
          rw [hv] at hx
          obtain ⟨y, hy, rfl⟩ := List.mem_map.1 hx
          exact (hz y hy).sz
        rw [← hv] at hcut hG
        obtain ⟨g1, g2⟩ := cut_good hG
        obtain ⟨s1, s2⟩ := cut_sz (n := 4) (by omega) (by omega) hvs
        obtain ⟨b1, b2⟩ := cut_in hvb
        have hAl := cutL_len v.length v
        have hCl := cutR_len v.length v
        rw [← hvl] at hcut
        have c1 := cgood_pure ((cutL v.length v).map hc) (by simp; omega) (fun h hh => by
          obtain ⟨y, hy, rfl⟩ := List.mem_map.1 hh
          exact (hc_in (s1 y hy)).w.sm.ok)
        have c2 := cgood_pure ((cutR v.length v).map hc) (by simp; omega) (fun h hh => by
          obtain ⟨y, hy, rfl⟩ := List.mem_map.1 hh
          exact (hc_in (s2 y hy)).w.sm.ok)
        rw [map_hc_val, qL_hL, decide_eq_true g1] at c1
        rw [map_hc_val, qL_hL, decide_eq_true g2] at c2
        generalize cutL v.length v = A at *
        generalize cutR v.length v = C at *
        rw [hvl] at hAl hCl
        clear hvb hvs g1 g2
        unfold qL at *
        refine goC_pure _ hcut (by simp -implicitDefEqProofs [go_sem]) ?_
        simp -implicitDefEqProofs [go_sem, hAl, hCl]
        refine go_loopN 12 (α := {j : Nat // j ≤ l.length}) (fun j => [(0, hL l), (3, .ptr 8 0 0), (4, .ptr 9 0 0), (6, qL A), (7, qL C), (9, .int .i64 j.1)]) (fun j => [(8, .live 3 [lo.av]), (9, .live 3 [hi.av])]) (fun j => l.length - j.1) ⟨0, Nat.zero_le _⟩ [] (by simp) (fun _ _ _ _ h => h) (by omega) (by simp -implicitDefEqProofs [go_sem, hL, qL]) (by simp -implicitDefEqProofs [go_sem, RQ.av]) fun ⟨j, hj⟩ => ?_
        simp -implicitDefEqProofs [go_sem, hL, qL, RQ.av]
        refine ⟨fun h => ?_, fun h => ?_⟩
        · have hgA := getE_hr (l := A.map hc) (i := j) (by simp; omega)
          have hgC := getE_hr (l := C.map hc) (i := j) (by simp; omega)
          have eA : (A.map hc).map HR.av = A.map hA := by rw [List.map_map]; rfl
          have eC : (C.map hc).map HR.av = C.map hA := by rw [List.map_map]; rfl
          rw [eA] at hgA
          rw [eC] at hgC
          have mA : A[j]'(by omega) ∈ A := List.getElem_mem _
          have mC : C[j]'(by omega) ∈ C := List.getElem_mem _
          simp only [List.getElem_map] at hgA hgC
          generalize A[j]'(by omega) = x at *
          generalize C[j]'(by omega) = y at *
          have bx := b1 x mA
          have bb := b2 y mC
          have ix := (hc_in (s1 x mA)).w
          have iy := (hc_in (s2 y mC)).w
          have x1 := rcmp_pure (hc x).w lo ix.sm hlo.sm
          have x2 := rcmp_pure (hc x).w hi ix.sm hhi.sm
          have y1 := rcmp_pure (hc y).w lo iy.sm hlo.sm
          have y2 := rcmp_pure (hc y).w hi iy.sm hhi.sm
          have ex : (hc x).w.val = x.w := by unfold hc; simp only [qc_val]
          have ey : (hc y).w.val = y.w := by unfold hc; simp only [qc_val]
          rw [ex] at x1 x2
          rw [ey] at y1 y2
          have es : IntKind.i64.wrap ((j : Int) + 1) = (j + 1 : Nat) := by rw [w64 (by omega)]; omega
          have n1 : ¬ cmpQ x.w lo.val < 0 := by rw [cmpQ_lt]; grind
          have n2 : ¬ 0 < cmpQ x.w hi.val := by rw [cmpQ_gt]; grind
          have n3 : ¬ cmpQ y.w lo.val < 0 := by rw [cmpQ_lt]; grind
          have n4 : ¬ 0 < cmpQ y.w hi.val := by rw [cmpQ_gt]; grind
          generalize hc x = X at *
          generalize hc y = Y at *
          simp only [HR.av] at hgA hgC
          unfold RQ.av at x1 x2 y1 y2
          refine go_strict' (by kernel_rfl) ?_
          simp -implicitDefEqProofs [go_sem, hgA]
          refine ⟨by omega, goD_pure _ x1 (by simp -implicitDefEqProofs [go_sem]) ?_⟩
          simp -implicitDefEqProofs [go_sem, hgA, n1]
          refine ⟨by omega, goD_pure _ x2 (by simp -implicitDefEqProofs [go_sem]) ?_⟩
          simp -implicitDefEqProofs [go_sem, hgC, n2]
          refine ⟨by omega, goD_pure _ y1 (by simp -implicitDefEqProofs [go_sem]) ?_⟩
          simp -implicitDefEqProofs [go_sem, hgC, n3]
          refine ⟨by omega, goD_pure _ y2 (by simp -implicitDefEqProofs [go_sem]) ?_⟩
          simp -implicitDefEqProofs [go_sem, n4, es]
          exact go_again ⟨j + 1, h⟩ (by simp only; omega) [] (by simp) (by simp [nm]) (by simp) (by simp -implicitDefEqProofs [go_sem, hL, qL]) (by simp -implicitDefEqProofs [go_sem, nm])
        · refine goC_pure _ c1 (by simp -implicitDefEqProofs [go_sem]) ?_
          simp -implicitDefEqProofs [go_sem]
          refine goC_pure _ c2 (by simp -implicitDefEqProofs [go_sem]) ?_
          simp -implicitDefEqProofs [go_sem]
          refine goC_pure _ hw (by simp -implicitDefEqProofs [go_sem]) ?_
          simp -implicitDefEqProofs [go_sem]
    · simp -implicitDefEqProofs [go_sem, hG]
      refine goC_pure _ hw (by simp -implicitDefEqProofs [go_sem]) ?_
      simp -implicitDefEqProofs [go_sem]
  · rw [decide_eq_false hF] at hf
    unfold hL at *
    simp -implicitDefEqProofs [go_sem]
    refine goC_pure _ hf (by simp -implicitDefEqProofs [go_sem]) ?_
    simp -implicitDefEqProofs [go_sem]
    refine goC_pure _ hw (by simp -implicitDefEqProofs [go_sem]) ?_
    simp -implicitDefEqProofs [go_sem]
end Go.Proofs.YtmhnmaklgcppbaaGreat
