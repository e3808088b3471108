/-
  Of the seat's texts, joined: FlQ.
-/
import Derived.Test.YtmhnmaklgcppbaaGreatPkZa
namespace Go.Proofs.YtmhnmaklgcppbaaGreat
open Go Go.Proofs
set_option linter.unusedSimpArgs false
set_option linter.unusedVariables false
set_option maxRecDepth 20000

/-- A point is near some of the lines. -/
def NearL (p : PQ) (T : Rat) : List PQ → Prop
  | a :: b :: r => tsQ p a b ≤ T ∨ NearL p T (b :: r)
  | _ => False
theorem NearL.left {p : PQ} {T : Rat} (r : List PQ) : ∀ l : List PQ, NearL p T l → NearL p T (l ++ r)
  | [], h => h.elim
  | [_], h => h.elim
  | a :: b :: l, h => h.imp id (fun h => NearL.left r (b :: l) h)
theorem NearL.right {p : PQ} {T : Rat} {m : List PQ} (h : NearL p T m) : ∀ l : List PQ, NearL p T (l ++ m)
  | [] => h
  | a :: l => by
    have ih := NearL.right h l
    rw [List.cons_append]
    cases hl : l ++ m with
    | nil => rw [hl] at ih; exact ih.elim
    | cons b r => rw [hl] at ih; exact .inr ih
theorem headD_dc {v : List HQ} (hG : GoodC v) : v.headD hQ0 = dcH 0 v := by
  rw [dc_head hG]
  have := hG.2.1
  cases v with
  | nil => simp at this
  | cons a r => rfl
theorem lastD_dc {v : List HQ} (hG : GoodC v) : v.getLastD hQ0 = dcH 1 v := by rw [dc_last hG, lastD_get _ _ rfl]
theorem ftree_near {tol : Rat} {n : Nat} : ∀ (k : Nat) (v : List HQ) (t : Rat), Tr tol n k v → 0 ≤ t → t ≤ 1 → NearL (dcH t v).P (tol * tol) ((v.headD hQ0).P :: ftree tol k v)
  | 0, v, t, h, h0, h1 => .inl (flat_near h.good.1 h.2 h0 h1)
  | k + 1, v, t, h, h0, h1 => by
    have hG := h.good.1
    by_cases hf : flatQ v tol
    · unfold ftree
      rw [if_pos hf]
      exact .inl (flat_near hG hf h0 h1)
    · obtain ⟨t1, t2⟩ := h.2 hf
      obtain ⟨g1, g2⟩ := cut_good hG
      unfold ftree
      rw [if_neg hf]
      rcases (Rat.le_total : t ≤ 1 / 2 ∨ 1 / 2 ≤ t) with ht | ht
      · have ih := ftree_near k _ (2 * t) t1 (by grind) (by grind)
        rw [dc_cutL _ hG, headD_dc g1, dc_cutL _ hG] at ih
        rw [show 2 * t / 2 = t by grind, show (0 : Rat) / 2 = 0 by grind, ← headD_dc hG] at ih
        exact NearL.left _ _ ih
      · have ih := ftree_near k _ (2 * t - 1) t2 (by grind) (by grind)
        rw [dc_cutR _ hG, headD_dc g2, dc_cutR _ hG] at ih
        rw [show (1 + (2 * t - 1)) / 2 = t by grind] at ih
        obtain ⟨l, e⟩ := ftree_last (tol := tol) k (cutL v.length v) (by rw [cutL_len]; have := hG.2.1; omega)
        rw [lastD_dc g1, dc_cutL _ hG] at e
        rw [show (1 + (0 : Rat)) / 2 = 1 / 2 by grind] at ih
        rw [e, List.append_assoc, List.singleton_append]
        have := NearL.right ih ((v.headD hQ0).P :: l)
        rwa [List.cons_append] at this

set_option maxHeartbeats 16000000 in
theorem fnear_pure (l : List HR) (tol : RQ) (t : Int) (hl : l.length ≤ 9223372036854775807) (hm : ∀ h ∈ l, h.Lm) (ht : tol.Lm) (hk : (Lit.int .u8 t).wf = true) : Pure Tryz.prog 12 [hL l, tol.av, .int .u8 t] (.bool true) := by
  have hlt := flight_pure l tol hl hm ht
  have hw := fwakes_pure
  simp only [Lit.wf, Bool.and_eq_true, decide_eq_true_eq] at hk
  have b1 : IntKind.u8.min = 0 := by decide
  have b2 : IntKind.u8.max = 255 := by decide
  rw [b1, b2] at hk
  obtain ⟨ct, hct, t1, t2, t3, t4⟩ : ∃ ct, tol.av = .agg ct ∧ ct.length = 3 ∧ ct.take 3 = ct ∧ ct.drop 3 = [] ∧ roL ct := ⟨_, rfl, rfl, rfl, rfl, rq_cs_ro tol⟩
  refine Pure.of_go mixed Tryz.func12 rfl (rs := [.tmp 6]) rfl (by kernel_rfl) (by simp -implicitDefEqProofs [go_sem]) ?_
  by_cases hLf : LightF l tol
  · rw [decide_eq_true hLf] at hlt
    by_cases hln : l = []
    · subst hln
      rw [hct] at hlt ⊢
      unfold hL at *
      simp -implicitDefEqProofs [go_sem, t1, t2]
      refine goC_pure _ hlt (by simp -implicitDefEqProofs [go_sem, t4]) ?_
      simp -implicitDefEqProofs [go_sem]
      refine goC_pure _ hw (by simp -implicitDefEqProofs [go_sem]) ?_
      simp -implicitDefEqProofs [go_sem]
    have hlp : ¬ l.length = 0 := fun h => hln (List.length_eq_zero_iff.1 h)
    have hT := fun a b => light_tr hm hLf a b
    obtain ⟨a1, a2, a3⟩ := hLf
    have hz : ∀ h ∈ l, h.In 4 := fun h hh => (hm h hh).inn (a1.1 h hh)
    have hl6 := a1.2
    have it := sml_in a2 ht
    have zt := it.sz
    have hc1 := fcurve_pure l tol (by omega) (fun h hh => (hz h hh).mono) it.mono hT
    have hs4 : ∀ h ∈ l.map HR.val, h.sz ≤ 4 := fun h hh => by
      obtain ⟨y, hy, rfl⟩ := List.mem_map.1 hh
      exact (hz y hy).sz
    have hsv : ∀ h ∈ l.map HR.val, h.sz ≤ 51 := fun h hh => by have := hs4 h hh; omega
    obtain ⟨o1, o2⟩ := fcv_ok hsv hT
    by_cases hok : GoodC (l.map HR.val) ∧ 0 < tol.val
    · obtain ⟨hG, h0⟩ := hok
      have ea : fcv (l.map HR.val) tol.val = (((l.map HR.val).headD hQ0).P :: ftree tol.val 14 (l.map HR.val), fdeep tol.val 14 (l.map HR.val), 0) := by
        unfold fcv; rw [if_neg (not_not_intro hG), if_neg (by grind)]
      rw [ea] at hc1 o1 o2
      simp only at hc1 o1 o2
      -- the place
      have hof := rof_pure t 255 (by omega) (by omega) (by omega)
      have zf := sz_frac (p := t) (q := 255) (by omega) (by omega) (by omega)
      have f0 : (0 : Rat) ≤ ((t : Int) : Rat) := by exact_mod_cast hk.1
      have f1 : ((t : Int) : Rat) ≤ 255 := by exact_mod_cast hk.2
      have p0 : 0 ≤ ((t : Int) : Rat) / ((255 : Int) : Rat) := by
        rw [show ((255 : Int) : Rat) = 255 by rfl]; grind
      have p1 : ((t : Int) : Rat) / ((255 : Int) : Rat) ≤ 1 := by
        rw [show ((255 : Int) : Rat) = 255 by rfl]; grind
      have hat := catr_pure l (((t : Int) : Rat) / ((255 : Int) : Rat)) (fun h hh => (hz h hh).mono) (by omega) hG p0 p1
      have hnear := ftree_near 14 (l.map HR.val) (((t : Int) : Rat) / ((255 : Int) : Rat)) (hT hG h0) p0 p1
      have zdc := dc_sz (t := ((t : Int) : Rat) / ((255 : Int) : Rat)) (n := 8) (by omega) hG (fun x hx => by have := hs4 x hx; omega)
      have zP := (dcH (((t : Int) : Rat) / ((255 : Int) : Rat)) (l.map HR.val)).sz_P
      -- the ends
      have hwp : ∀ (i : Nat) (hi : i < l.length), Pure Tryz.prog 47 [.agg (l[i]).cs] (.tup [.agg (pC ((l.map HR.val)[i]'(by simpa using hi)).P), .int .i64 0]) := fun i hi => by
        have hw : (l[i]).w.val ≠ 0 := by
          have := hG.1 (l[i]).val (List.mem_map.2 ⟨_, List.getElem_mem _, rfl⟩)
          intro hh
          change 0 < (l[i]).w.val at this
          rw [hh] at this
          exact absurd this (by decide)
        have := cpoint_pure l[i] ((hz _ (List.getElem_mem _)).mono) hw
        simpa [HQ.P, HR.val, pA_pC, HR.av_cs] using this
      have hp0 := hwp 0 (by omega)
      have ehd : (l.map HR.val)[0]'(by simp; omega) = (l.map HR.val).headD hQ0 := by
        cases l with
        | nil => exact absurd rfl hln
        | cons a r => rfl
      rw [ehd] at hp0
      have hge0 := getE_cs0 (l := l) (by omega)
      obtain ⟨n2, hn2⟩ : ∃ n2, n2 = l.length - 1 := ⟨_, rfl⟩
      have hpl := hwp n2 (by omega)
      rw [lastD_get n2 (by simp; omega) (by simp; omega)] at hpl
      have hgl := getE_cs (l := l) (i := n2) (by omega)
      have e2 : IntKind.i64.wrap ((l.length : Int) - 1) = (n2 : Int) := by rw [w64 (by omega)]; omega
      obtain ⟨q, eq⟩ := ftree_last (tol := tol.val) 14 (l.map HR.val) (by have := hG.2.1; omega)
      obtain ⟨A, hA⟩ : ∃ A, A = ((l.map HR.val).headD hQ0).P :: ftree tol.val 14 (l.map HR.val) := ⟨_, rfl⟩
      rw [← hA] at hc1 o1 o2 hnear
      have hAl : 2 ≤ A.length := by rw [hA, eq]; simp
      have hA0 : A[0]'(by omega) = ((l.map HR.val).headD hQ0).P := by simp only [hA]; rfl
      have hAe : A[A.length - 1]'(by omega) = ((l.map HR.val).getLastD hQ0).P := by
        have : A = (((l.map HR.val).headD hQ0).P :: q) ++ [((l.map HR.val).getLastD hQ0).P] := by rw [hA, eq]; rfl
        generalize ((l.map HR.val).getLastD hQ0).P = z at *
        subst this
        simp
      have gA0 := getE_pA (l := A) (i := 0) (by omega)
      have gAe := getE_pA (l := A) (i := A.length - 1) (by omega)
      rw [hA0] at gA0
      rw [hAe] at gAe
      have gA0' : getE (A.map pA) 0 = .agg (pC ((l.map HR.val).headD hQ0).P) := gA0
      have zh := o2 _ (by rw [← hA0]; exact List.getElem_mem _ : ((l.map HR.val).headD hQ0).P ∈ A)
      have ze := o2 _ (by rw [← hAe]; exact List.getElem_mem _ : ((l.map HR.val).getLastD hQ0).P ∈ A)
      have s0 := psame_self ((l.map HR.val).headD hQ0).P (by omega)
      have se := psame_self ((l.map HR.val).getLastD hQ0).P (by omega)
      have hmul := rmul_pure tol tol (it.mono (m := 17179869184)).sm (it.mono (m := 17179869184)).sm
      have zm := sz_mul tol.val tol.val
      obtain ⟨n3, hn3⟩ : ∃ n3, n3 = A.length - 1 := ⟨_, rfl⟩
      rw [← hn3] at gAe
      have e3 : IntKind.i64.wrap ((A.length : Int) - 1) = (n3 : Int) := by rw [w64 (by omega)]; omega
      clear eq hA hA0 hAe gA0
      generalize ((l.map HR.val).headD hQ0).P = ph at *
      generalize ((l.map HR.val).getLastD hQ0).P = pe at *
      generalize (dcH (((t : Int) : Rat) / ((255 : Int) : Rat)) (l.map HR.val)).P = pt at *
      generalize ((t : Int) : Rat) / ((255 : Int) : Rat) = fr at *
      have k64 : IntKind.i64.wrap t = t := w64 (by omega)
      rw [hct] at hlt hc1 hmul ⊢
      have hro := ro_hL l
      unfold hL pL at *
      simp only [pA_pC, rA_rC] at hof hat s0 se hmul
      have x1 := (renL_ro (nm []) _ t4).symm
      have x2 := cloL_ro (n := 2) _ t4
      have hA2 : ¬ (A.length : Int) < 2 := by omega
      have hA2' : ¬ A.length < 2 := by omega
      simp -implicitDefEqProofs [go_sem, t1, t2]
      refine goC_pure _ hlt (by simp -implicitDefEqProofs [go_sem, t4]) ?_
      simp -implicitDefEqProofs [go_sem, hln, t1, t2]
      refine goC_pure _ hc1 (by simp -implicitDefEqProofs [go_sem, t4]) ?_
      simp -implicitDefEqProofs [go_sem, k64]
      refine goC_pure _ hof (by simp -implicitDefEqProofs [go_sem]) ?_
      simp -implicitDefEqProofs [go_sem]
      refine goC_pure _ hat (by simp -implicitDefEqProofs [go_sem, ro_rC]) ?_
      simp -implicitDefEqProofs [go_sem, hge0]
      refine ⟨by omega, goC_pure _ hp0 (by simp -implicitDefEqProofs [go_sem, HR.ro_cs]) ?_⟩
      simp -implicitDefEqProofs [go_sem, e2, hgl]
      refine ⟨by omega, goC_pure _ hpl (by simp -implicitDefEqProofs [go_sem, HR.ro_cs]) ?_⟩
      simp -implicitDefEqProofs [go_sem, hA2, hA2', gA0']
      refine ⟨by omega, goD_pure _ s0 (by simp -implicitDefEqProofs [go_sem, ro_pC]) ?_⟩
      simp -implicitDefEqProofs [go_sem, e3, gAe]
      refine ⟨by omega, goD_pure _ se (by simp -implicitDefEqProofs [go_sem, ro_pC]) ?_⟩
      simp -implicitDefEqProofs [go_sem]
      refine go_loopN 2 (α := {s : Nat × Bool // s.1 + 1 ≤ A.length ∧ (s.2 = true ∨ NearL pt (tol.val * tol.val) (A.drop s.1))}) (fun s => [(4, .ptr 0 0 0), (7, .sl 6 false (A.map pA)), (9, .ptr 1 0 0), (15, .bool s.1.2), (16, .int .i64 s.1.1)]) (fun s => [(0, .live 3 [.agg ct]), (1, .live 6 [.agg (pC pt)])]) (fun s => A.length - s.1.1) ⟨(0, false), by simp only; exact ⟨by omega, .inr (by simpa using hnear)⟩⟩ [] (by simp) (fun _ _ _ _ h => h) (by omega) (by simp -implicitDefEqProofs [go_sem]) (by simp -implicitDefEqProofs [go_sem]; exact ⟨x1, x2⟩) fun ⟨⟨i, b⟩, hi, hb⟩ => ?_
      simp only at hi hb
      have es : IntKind.i64.wrap ((i : Int) + 1) = (i + 1 : Nat) := by rw [w64 (by omega)]; omega
      obtain ⟨i1, hi1⟩ : ∃ i1, i1 = i + 1 := ⟨_, rfl⟩
      rw [← hi1] at es
      simp -implicitDefEqProofs [go_sem, es]
      refine ⟨fun h5 => ?_, fun h5 => ?_⟩
      · cases b with
        | true =>
          simp -implicitDefEqProofs [go_sem, es]
          refine go_again ⟨(i1, true), by simp only; omega, .inl rfl⟩ (by simp only; omega) [] (by simp) (fun _ _ _ _ h => h) (by simp) (by simp -implicitDefEqProofs [go_sem, es]) (by simp -implicitDefEqProofs [go_sem]; exact ⟨x1, x2⟩)
        | false =>
          have hN : NearL pt (tol.val * tol.val) (A.drop i) := by rcases hb with h | h; cases h; exact h
          have hi0 : i < A.length := by omega
          have hd : A.drop i = A[i] :: A[i1] :: A.drop (i1 + 1) := by
            rw [List.drop_eq_getElem_cons hi0, List.drop_eq_getElem_cons (by omega : i + 1 < A.length)]
            subst hi1; rfl
          have hd1 : A.drop i1 = A[i1] :: A.drop (i1 + 1) := List.drop_eq_getElem_cons h5
          rw [hd] at hN
          have g1 := getE_pA (l := A) (i := i) hi0
          have g2 := getE_pA (l := A) (i := i1) h5
          have w1 := o2 _ (List.getElem_mem hi0)
          have w2 := o2 _ (List.getElem_mem h5)
          have hts := ptosegq pt A[i] A[i1] (by omega) (by omega) (by omega)
          have zts := sz_tsQ (n := 4096) (p := pt) (a := A[i]) (b := A[i1]) (by omega) (by omega) (by omega)
          have hcm := rcmpq (tsQ pt A[i] A[i1]) (tol.val * tol.val) (by omega) (by omega)
          have hN2 : tsQ pt A[i] A[i1] ≤ tol.val * tol.val ∨ NearL pt (tol.val * tol.val) (A.drop i1) := by rw [hd1]; exact hN
          generalize tsQ pt A[i] A[i1] = tq at *
          generalize A[i] = pa at *
          generalize A[i1] = pb at *
          simp only [pA_pC, rA_rC] at hts hcm
          simp -implicitDefEqProofs [go_sem, g1, g2, es]
          refine ⟨hi0, h5, goD_pure _ hts (by simp -implicitDefEqProofs [go_sem, ro_pC]) ?_⟩
          simp -implicitDefEqProofs [go_sem, t1, t2]
          refine goD_pure _ hmul (by simp -implicitDefEqProofs [go_sem, t4]) ?_
          simp -implicitDefEqProofs [go_sem]
          refine goD_pure _ hcm (by simp -implicitDefEqProofs [go_sem, ro_rC]) ?_
          by_cases hle : tq ≤ tol.val * tol.val
          · have := cmpQ_le.2 hle
            simp -implicitDefEqProofs [go_sem, this, es]
            refine go_again ⟨(i1, true), by simp only; omega, .inl rfl⟩ (by simp only; omega) [] (by simp) (fun _ _ _ _ h => h) (by simp) (by simp -implicitDefEqProofs [go_sem, es]) (by simp -implicitDefEqProofs [go_sem]; exact ⟨x1, x2⟩)
          · have h1 : ¬ cmpQ tq (tol.val * tol.val) ≤ 0 := fun h => hle (cmpQ_le.1 h)
            simp -implicitDefEqProofs [go_sem, h1, es]
            refine go_again ⟨(i1, false), by simp only; omega, .inr (hN2.resolve_left hle)⟩ (by simp only; omega) [] (by simp) (fun _ _ _ _ h => h) (by simp) (by simp -implicitDefEqProofs [go_sem, es]) (by simp -implicitDefEqProofs [go_sem]; exact ⟨x1, x2⟩)
      · have hbt : b = true := by
          rcases hb with h | h
          · exact h
          · have : A.drop i = [A[i]'(by omega)] := by
              rw [List.drop_eq_getElem_cons (by omega : i < A.length), List.drop_eq_nil_of_le (by omega)]
            rw [this] at h; exact h.elim
        subst hbt
        simp -implicitDefEqProofs [go_sem]
        refine goC_pure _ hw (by simp -implicitDefEqProofs [go_sem]) ?_
        simp -implicitDefEqProofs [go_sem]
    · have ea : (fcv (l.map HR.val) tol.val).2.2 ≠ 0 ∧ (fcv (l.map HR.val) tol.val).1 = [] := by
        unfold fcv
        split
        · exact ⟨by decide, rfl⟩
        · rename_i hG
          rw [if_pos (by have := Classical.not_not.1 hG; grind)]
          exact ⟨by decide, rfl⟩
      obtain ⟨e1, e2⟩ := ea
      rw [e2] at hc1
      generalize (fcv (l.map HR.val) tol.val).2.2 = R at *
      rw [hct] at hlt hc1 ⊢
      unfold hL pL at *
      simp -implicitDefEqProofs [go_sem, t1, t2]
      refine goC_pure _ hlt (by simp -implicitDefEqProofs [go_sem, t4]) ?_
      simp -implicitDefEqProofs [go_sem, hln, t1, t2]
      refine goC_pure _ hc1 (by simp -implicitDefEqProofs [go_sem, t4]) ?_
      simp -implicitDefEqProofs [go_sem, e1]
      refine goC_pure _ hw (by simp -implicitDefEqProofs [go_sem]) ?_
      simp -implicitDefEqProofs [go_sem]
  · rw [decide_eq_false hLf] at hlt
    rw [hct] at hlt ⊢
    unfold hL at *
    simp -implicitDefEqProofs [go_sem, t1, t2]
    refine goC_pure _ hlt (by simp -implicitDefEqProofs [go_sem, t4]) ?_
    simp -implicitDefEqProofs [go_sem]
    refine goC_pure _ hw (by simp -implicitDefEqProofs [go_sem]) ?_
    simp -implicitDefEqProofs [go_sem]
end Go.Proofs.YtmhnmaklgcppbaaGreat
