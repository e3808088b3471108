import Derived.Test.YtgiheamjhoiojaaGreatPkUa
import Derived.Test.YtgiheamjhoiojaaGreatPkGa
import Derived.Test.YtgiheamjhoiojaaGreatPkDa
import Derived.Test.YtgiheamjhoiojaaGreatPkXa
namespace Go.Proofs.YtgiheamjhoiojaaGreat
open Go Go.Proofs
set_option linter.unusedSimpArgs false
set_option linter.unusedVariables false
set_option maxRecDepth 20000
set_option maxHeartbeats 4000000 in
theorem esharp_pure (u v : PQ) (m : Rat) (hu : u.sz ≤ 10) (hv : v.sz ≤ 10) (hm : sz m ≤ 10) : Pure Tryz.prog 45 [eA u, eA v, fA m] (.bool (decide (sharpQ u v m))) := by
  obtain ⟨B, hB⟩ : ∃ B : Bool, B = decide (sharpQ u v m) := ⟨_, rfl⟩
  have hen : B = true ↔ (u ≠ ⟨0, 0⟩ ∧ v ≠ ⟨0, 0⟩ ∧ 0 < m ∧ if 0 ≤ u.dot v then 2 / (m * m) - 1 ≤ 0 ∨ (2 / (m * m) - 1) * (2 / (m * m) - 1) * (u.dot u * v.dot v) ≤ u.dot v * u.dot v else 2 / (m * m) - 1 < 0 ∧ u.dot v * u.dot v ≤ (2 / (m * m) - 1) * (2 / (m * m) - 1) * (u.dot u * v.dot v)) := by
    rw [hB, decide_eq_true_iff, ← sharp_ref (Rat.mul_nonneg (dot_nn' u) (dot_nn' v))]; exact Iff.rfl
  rw [← hB]
  clear hB
  have d0 : ∀ p : PQ, p.dot p = 0 ↔ p = ⟨0, 0⟩ := fun p => ⟨fun h => by
    have := PQ.dot0 h
    exact PQ.ext this.1 this.2, fun h => by rw [h]; unfold PQ.dot; grind⟩
  have du := d0 u
  have dv := d0 v
  have h1 := edot_pure u u (by omega) (by omega)
  have s1 := PQ.sz_dot u u
  have h2 := edot_pure v v (by omega) (by omega)
  have s2 := PQ.sz_dot v v
  have h3 := edot_pure u v (by omega) (by omega)
  have s3 := PQ.sz_dot u v
  generalize u.dot u = uu at *
  generalize v.dot v = vv at *
  generalize u.dot v = d at *
  have g1 := fsign_pure uu
  have g2 := fsign_pure vv
  have g3 := fsign_pure m
  have y1 := sgnQ_eq (x := uu)
  have y2 := sgnQ_eq (x := vv)
  have y3 := sgnQ_le (x := m)
  have k2 := fof_pure 2 1 (by omega) (by omega) (by omega)
  rw [show ((2 : Int) : Rat) / ((1 : Int) : Rat) = 2 by grind] at k2
  have k1 := fof_pure 1 1 (by omega) (by omega) (by omega)
  rw [show ((1 : Int) : Rat) / ((1 : Int) : Rat) = 1 by grind] at k1
  have z2 : sz (2 : Rat) ≤ 1 := sz_2
  have z1 : sz (1 : Rat) ≤ 1 := by rw [sz_one]; omega
  have h4 := fmul_pure m m (by omega) (by omega)
  have s4 := sz_mul m m
  have h5 := fun (h : 0 < m) => fdiv_pure 2 (m * m) (by omega) (by omega) (by have := Rat.mul_pos h h; grind)
  have s5 := sz_div 2 (m * m)
  have h6 := fsub_pure (2 / (m * m)) 1 (by omega) (by omega)
  have s6 := sz_sub (2 / (m * m)) 1
  generalize 2 / (m * m) = q at *
  generalize q - 1 = c at *
  generalize m * m = mm at *
  have h7 := fmul_pure d d (by omega) (by omega)
  have s7 := sz_mul d d
  have h8 := fmul_pure c c (by omega) (by omega)
  have s8 := sz_mul c c
  have h9 := fmul_pure uu vv (by omega) (by omega)
  have s9 := sz_mul uu vv
  have h10 := fmul_pure (c * c) (uu * vv) (by omega) (by omega)
  have s10 := sz_mul (c * c) (uu * vv)
  have g4 := fsign_pure d
  have y4 := sgnQ_ge (x := d)
  have g5 := fsign_pure c
  have y5 := sgnQ_le (x := c)
  have y5' := sgnQ_lt (x := c)
  have h11 := fcmp_pure (d * d) (c * c * (uu * vv)) (by omega) (by omega)
  have y11 := cmpQ_ge (x := d * d) (y := c * c * (uu * vv))
  have y11' := cmpQ_le (x := d * d) (y := c * c * (uu * vv))
  generalize cmpQ (d * d) (c * c * (uu * vv)) = cm at *
  generalize c * c * (uu * vv) = R at *
  generalize uu * vv = uv at *
  generalize c * c = cc at *
  generalize d * d = dd at *
  generalize sgnQ uu = e1 at *
  generalize sgnQ vv = e2 at *
  generalize sgnQ m = e3 at *
  generalize sgnQ d = e4 at *
  generalize sgnQ c = e5 at *
  simp only [eA_eC, fA_fC] at *
  refine Pure.of_go mixed Tryz.func45 rfl (rs := [.tmp 6]) rfl (by kernel_rfl) (by simp -implicitDefEqProofs [go_sem]) ?_
  simp -implicitDefEqProofs [go_sem]
  refine goD_pure _ h1 (by simp -implicitDefEqProofs [go_sem, ro_eC]) ?_
  simp -implicitDefEqProofs [go_sem]
  refine goD_pure _ h2 (by simp -implicitDefEqProofs [go_sem, ro_eC]) ?_
  simp -implicitDefEqProofs [go_sem]
  refine goC_pure _ g1 (by simp -implicitDefEqProofs [go_sem, ro_fC]) ?_
  by_cases a1 : uu = 0
  · have hb : B = false := Bool.eq_false_iff.2 fun hh => (hen.1 hh).1 (du.1 a1)
    subst hb
    simp -implicitDefEqProofs [go_sem, y1.2 a1]
  · have a1' : ¬ e1 = 0 := fun h => a1 (y1.1 h)
    simp -implicitDefEqProofs [go_sem, a1']
    refine goC_pure _ g2 (by simp -implicitDefEqProofs [go_sem, ro_fC]) ?_
    by_cases a2 : vv = 0
    · have hb : B = false := Bool.eq_false_iff.2 fun hh => (hen.1 hh).2.1 (dv.1 a2)
      subst hb
      simp -implicitDefEqProofs [go_sem, y2.2 a2]
    · have a2' : ¬ e2 = 0 := fun h => a2 (y2.1 h)
      simp -implicitDefEqProofs [go_sem, a2']
      refine goC_pure _ g3 (by simp -implicitDefEqProofs [go_sem, ro_fC]) ?_
      by_cases a3 : m ≤ 0
      · have hb : B = false := Bool.eq_false_iff.2 fun hh => absurd (hen.1 hh).2.2.1 (by grind)
        subst hb
        simp -implicitDefEqProofs [go_sem, y3.2 a3]
      · have a3' : ¬ e3 ≤ 0 := fun h => a3 (y3.1 h)
        have h5 := h5 (by grind)
        have hen' : B = true ↔ (if 0 ≤ d then c ≤ 0 ∨ R ≤ dd else c < 0 ∧ dd ≤ R) := ⟨fun h => (hen.1 h).2.2.2, fun h => hen.2 ⟨fun e => a1 (du.2 e), fun e => a2 (dv.2 e), by grind, h⟩⟩
        clear hen
        simp -implicitDefEqProofs [go_sem, a3']
        refine goD_pure _ k2 (by simp -implicitDefEqProofs [go_sem]) ?_
        simp -implicitDefEqProofs [go_sem]
        refine goD_pure _ h4 (by simp -implicitDefEqProofs [go_sem, ro_fC]) ?_
        simp -implicitDefEqProofs [go_sem]
        refine goD_pure _ h5 (by simp -implicitDefEqProofs [go_sem, ro_fC]) ?_
        simp -implicitDefEqProofs [go_sem]
        refine goD_pure _ k1 (by simp -implicitDefEqProofs [go_sem]) ?_
        simp -implicitDefEqProofs [go_sem]
        refine goD_pure _ h6 (by simp -implicitDefEqProofs [go_sem, ro_fC]) ?_
        simp -implicitDefEqProofs [go_sem]
        refine goC_pure _ h3 (by simp -implicitDefEqProofs [go_sem, ro_eC]) ?_
        simp -implicitDefEqProofs [go_sem]
        refine goC_pure _ h7 (by simp -implicitDefEqProofs [go_sem, ro_fC]) ?_
        simp -implicitDefEqProofs [go_sem]
        refine goD_pure _ h8 (by simp -implicitDefEqProofs [go_sem, ro_fC]) ?_
        simp -implicitDefEqProofs [go_sem]
        refine goD_pure _ h9 (by simp -implicitDefEqProofs [go_sem, ro_fC]) ?_
        simp -implicitDefEqProofs [go_sem]
        refine goD_pure _ h10 (by simp -implicitDefEqProofs [go_sem, ro_fC]) ?_
        simp -implicitDefEqProofs [go_sem]
        refine goC_pure _ g4 (by simp -implicitDefEqProofs [go_sem, ro_fC]) ?_
        by_cases a4 : 0 ≤ d
        · rw [if_pos a4] at hen'
          simp -implicitDefEqProofs [go_sem, y4.2 a4]
          refine goC_pure _ g5 (by simp -implicitDefEqProofs [go_sem, ro_fC]) ?_
          by_cases a5 : c ≤ 0
          · have hb := hen'.2 (.inl a5)
            subst hb
            simp -implicitDefEqProofs [go_sem, y5.2 a5]
          · have a5' : ¬ e5 ≤ 0 := fun h => a5 (y5.1 h)
            simp -implicitDefEqProofs [go_sem, a5']
            refine goC_pure _ h11 (by simp -implicitDefEqProofs [go_sem, ro_fC]) ?_
            by_cases a6 : R ≤ dd
            · have hb := hen'.2 (.inr a6)
              subst hb
              simp -implicitDefEqProofs [go_sem, y11.2 a6]
            · have a6' : ¬ 0 ≤ cm := fun h => a6 (y11.1 h)
              have hb : B = false := Bool.eq_false_iff.2 fun hh => (hen'.1 hh).elim a5 a6
              subst hb
              simp -implicitDefEqProofs [go_sem, a6']
        · rw [if_neg a4] at hen'
          have a4' : ¬ 0 ≤ e4 := fun h => a4 (y4.1 h)
          simp -implicitDefEqProofs [go_sem, a4']
          refine goC_pure _ g5 (by simp -implicitDefEqProofs [go_sem, ro_fC]) ?_
          by_cases a5 : c < 0
          · simp -implicitDefEqProofs [go_sem, y5'.2 a5]
            refine goC_pure _ h11 (by simp -implicitDefEqProofs [go_sem, ro_fC]) ?_
            by_cases a6 : dd ≤ R
            · have hb := hen'.2 ⟨a5, a6⟩
              subst hb
              simp -implicitDefEqProofs [go_sem, y11'.2 a6]
            · have a6' : ¬ cm ≤ 0 := fun h => a6 (y11'.1 h)
              have hb : B = false := Bool.eq_false_iff.2 fun hh => a6 (hen'.1 hh).2
              subst hb
              simp -implicitDefEqProofs [go_sem, a6']
          · have a5' : ¬ e5 < 0 := fun h => a5 (y5'.1 h)
            have hb : B = false := Bool.eq_false_iff.2 fun hh => a5 (hen'.1 hh).1
            subst hb
            simp -implicitDefEqProofs [go_sem, a5']
set_option maxHeartbeats 4000000 in
theorem earound_pure (p : PQ) (l : List PQ) (left : Bool) (hl : l.length ≤ 3) (hp : p.sz ≤ 10) (hs : ∀ x ∈ l, x.sz ≤ 1000000) : Pure Tryz.prog 101 [eA p, eL l, .bool left] (eL (p :: (if left then l.reverse else l).map p.add)) := by
  refine Pure.of_ca (ro_eL _) (CA.of_go mixed Tryz.func101 rfl (rs := [.tmp 6]) rfl (by kernel_rfl) ?_)
  obtain ⟨L, hL⟩ : ∃ L, L = if left then l.reverse else l := ⟨_, rfl⟩
  rw [← hL]
  have hLl : L.length = l.length := by rw [hL]; cases left <;> simp
  obtain ⟨O, hO⟩ : ∃ O : Nat → List AV, O = fun i => (p :: (L.take i).map p.add).map eA := ⟨_, rfl⟩
  have hOr : ∀ i, roL (O i) := fun i => by rw [hO]; exact roL_eA _
  have hOl : ∀ i, i ≤ l.length → (O i).length = i + 1 := fun i hi => by rw [hO]; simp; omega
  have hO0 : O 0 = [.agg (eC p)] := by rw [hO]; rfl
  have hOs : ∀ i (h : i < L.length), O (i + 1) = O i ++ [.agg (eC (p.add L[i]))] := fun i h => by
    rw [hO]
    simp only [List.take_succ_eq_append_getElem h, List.map_append, List.map_cons, List.map_nil, List.cons_append, eA_eC]
  have hOm : eL (p :: L.map p.add) = .sl 6 false (O l.length) := by
    rw [hO]; unfold eL; simp only [← hLl, List.take_length]
  have hX : ∀ i (h : i < L.length), getE (l.map eA) ((if left then l.length - 1 - i else i : Nat) : Int) = .agg (eC L[i]) := fun i h => by
    cases left
    · simp only [Bool.false_eq_true, if_false] at hL ⊢
      subst hL
      exact getE_eA h
    · simp only [if_true] at hL ⊢
      subst hL
      rw [List.length_reverse] at h
      rw [getE_eA (by omega), List.getElem_reverse]
  have hLm : ∀ x, x ∈ L → x ∈ l := fun x hx => by
    rw [hL] at hx
    cases left <;> simpa using hx
  have hXs : ∀ i (h : i < L.length), L[i].sz ≤ 1000000 := fun i h => hs _ (hLm _ (List.getElem_mem h))
  have hadd := fun (q : PQ) (hq : q.sz ≤ 1000000) => eadd_pure p q (by omega) (by omega)
  rw [hOm]
  clear hOm hL
  unfold eL
  simp only [eA_eC] at hadd ⊢
  simp -implicitDefEqProofs [go_sem]
  refine go_loopN 2 (α := {i : Nat // i ≤ l.length}) (fun i => [(1, .sl 6 false (l.map eA)), (2, .bool left), (3, .ptr 0 0 0), (7, apv 6 1 (O i.1)), (8, .int .i64 i.1)])
    (fun i => (0, .live 6 [.agg (eC p)]) :: apb 6 1 (O i.1)) (fun i => l.length - i.1) ⟨0, by omega⟩ [] (by simp) (fun _ _ _ _ h => h) (by simp) (by simp -implicitDefEqProofs [go_sem, hO0]; try rfl) (by simp -implicitDefEqProofs [go_sem, hO0, ro_eC]) fun ⟨i, hi⟩ => ?_
  have hne : O i ≠ [] := fun h => by have := hOl i hi; rw [h] at this; simp at this
  have hb : Go.Proofs.YtgiheamjhoiojaaGreat.hp 2 (apb 6 1 (O i)) 1 = .live 6 (O i) := by rw [apb_ne hne]; simp [Go.Proofs.YtgiheamjhoiojaaGreat.hp, upd]
  have hl0 := hOl i hi
  have hr0 := hOr i
  by_cases a : (i : Int) < l.length
  · have hi' : i < L.length := by omega
    have es : IntKind.i64.wrap ((i : Int) + 1) = (i + 1 : Nat) := by rw [w64 (by omega)]; omega
    have hg := hX i hi'
    have kx := hadd L[i] (hXs i hi')
    have hs' := hOs i hi'
    have hr1 := hOr (i + 1)
    have hn1 : O (i + 1) ≠ [] := by rw [hs']; simp
    rw [hs'] at hr1
    have u1 := (renL_ro (nm [(1, 10)]) _ hr1).symm
    have u2 := cloL_ro (n := 2) _ hr1
    have hl1 : (O (i + 1)).length = (O i).length + 1 := by rw [hs']; simp
    have lw1 : IntKind.i64.wrap ((l.length : Int) - 1) = (l.length : Int) - 1 := w64 (by omega)
    have lw2 : IntKind.i64.wrap ((l.length : Int) - 1 - i) = ((l.length - 1 - i : Nat) : Int) := by rw [w64 (by omega)]; omega
    have b1 : l.length - 1 - i < l.length := by omega
    have b2 : i < l.length := by omega
    generalize L[i] = x at *
    cases left
    · simp only [Bool.false_eq_true, if_false] at hg
      simp -implicitDefEqProofs [go_sem, a, b2, hg]
      refine goD_pure _ kx (by simp -implicitDefEqProofs [go_sem, ro_eC]) ?_
      simp -implicitDefEqProofs [go_sem]
      refine goApS_apv (.inl rfl) (by omega) (by omega) (by simp -implicitDefEqProofs [go_sem]) (by simp [hl0] <;> omega) (fun h => hb) ?_
      simp -implicitDefEqProofs [go_sem, es]
      exact go_again ⟨i + 1, by omega⟩ (by simp only; omega) [(1, 10)] (by simp) (by simp only [apb_ne hn1]; simp [nm]) (by simp) (by simp only [apv_ne hn1, hl1]; simp -implicitDefEqProofs [go_sem, es]) (by simp only [apb_ne hn1, hs']; simp -implicitDefEqProofs [go_sem, ← u1, u2])
    · simp only [if_true] at hg
      simp -implicitDefEqProofs [go_sem, a, b1, hg, lw1, lw2]
      refine goD_pure _ kx (by simp -implicitDefEqProofs [go_sem, ro_eC]) ?_
      simp -implicitDefEqProofs [go_sem]
      refine goApS_apv (.inl rfl) (by omega) (by omega) (by simp -implicitDefEqProofs [go_sem]) (by simp [hl0] <;> omega) (fun h => hb) ?_
      simp -implicitDefEqProofs [go_sem, es]
      exact go_again ⟨i + 1, by omega⟩ (by simp only; omega) [(1, 10)] (by simp) (by simp only [apb_ne hn1]; simp [nm]) (by simp) (by simp only [apv_ne hn1, hl1]; simp -implicitDefEqProofs [go_sem, es]) (by simp only [apb_ne hn1, hs']; simp -implicitDefEqProofs [go_sem, ← u1, u2])
  · have hil : i = l.length := by omega
    subst hil
    simp -implicitDefEqProofs [go_sem, a]
    exact apv_told hr0 (fun _ => hb)
@[go_sem] theorem argT5 (a b c d e : AV) : argT [a, b, c, d, e] = upd (upd (upd (upd (upd (fun _ => .any) 0 a) 1 b) 2 c) 3 d) 4 e := by
  funext k; unfold argT upd
  match k with
  | 0 => rfl
  | 1 => rfl
  | 2 => rfl
  | 3 => rfl
  | 4 => rfl
  | k + 5 => simp
def miterQ (p : PQ) (o : Option (List PQ)) (left : Bool) : List PQ × Int := match o with
  | none => ([], 24)
  | some l => (p :: (if left then l.reverse else l).map p.add, 0)
theorem sidedrot_dot (u : PQ) (left : Bool) : (sided u.rot left).dot (sided u.rot left) = u.dot u := by
  rw [sided_dot]; unfold PQ.rot PQ.dot; simp only; grind
set_option maxHeartbeats 32000000 in
theorem emiter_pure (p u v : PQ) (s : SR) (left : Bool) (hp : p.sz ≤ 1) (hu : u.sz ≤ 1) (hv : v.sz ≤ 1) (hu0 : u ≠ ⟨0, 0⟩) (hv0 : v ≠ ⟨0, 0⟩) (hs : s.Sml) :
    Pure Tryz.prog 100 [eA p, eA u, eA v, stA s, .bool left] (etA (miterQ p (tipK u v s.h s.tol.val left 4097 0) left)) := by
  have hh := hs.h
  have zt := hs.tol.sz
  have k0 := ehalf_pure s hs
  have k1 := fof_pure 1 2 (by omega) (by omega) (by omega)
  rw [← half_eq] at k1
  have zhf := sz_half
  obtain ⟨ou, hou⟩ : ∃ ou, ou = sided u.rot left := ⟨_, rfl⟩
  obtain ⟨ov, hov⟩ : ∃ ov, ov = sided v.rot left := ⟨_, rfl⟩
  have zou : ou.sz ≤ 1 := by rw [hou, sz_sided]; exact Nat.le_trans (PQ.sz_rot _) hu
  have zov : ov.sz ≤ 1 := by rw [hov, sz_sided]; exact Nat.le_trans (PQ.sz_rot _) hv
  have duo : ou.dot ou = u.dot u := by rw [hou, sidedrot_dot]
  have dvo : ov.dot ov = v.dot v := by rw [hov, sidedrot_dot]
  have l1 := eleft_pure u
  have l2 := esided_pure u.rot left
  have l3 := eleft_pure v
  have l4 := esided_pure v.rot left
  rw [← hou] at l2
  rw [← hov] at l4
  have hAt := fun (k : Nat) (hk : k ≤ 4096) => eat_pure u s.h k hk (by omega) hu0 (by omega)
  have hBt := fun (k : Nat) (hk : k ≤ 4096) => eat_pure v s.h k hk (by omega) hv0 (by omega)
  have hT := fun (k : Nat) => tipQ_eq u v s.h s.tol.val left k
  simp only [← hou, ← hov] at hT
  have hsd := fun (a : PQ) => esided_pure a left
  have hlong := fun (a o : PQ) (ha : a.sz ≤ 1000000) (ho : o.sz ≤ 1000) => ealong_pure a o s.h s.tol.val ha ho (by omega) (by omega)
  have hmu := fun (d : Rat) (k : Nat) (hk : k ≤ 4096) (hd0 : d ≠ 0) (hd : sz d ≤ 2000) => emost_pure d u s.h k hk hd0 hd (by omega) (by omega)
  have hmv := fun (d : Rat) (k : Nat) (hk : k ≤ 4096) (hd0 : d ≠ 0) (hd : sz d ≤ 2000) => emost_pure d v s.h k hk hd0 hd (by omega) (by omega)
  have hround := fun (a t b : PQ) (ha : a.sz ≤ 1000000) (ht : t.sz ≤ 1000000) (hb : b.sz ≤ 1000000) => earound_pure p [a, t, b] left (by simp) (by omega) (by simp [ha, ht, hb])
  have hfs := fun (S : PQ) (r : Rat) (k : Nat) (hk : k ≤ 4096) (hS : S.sz ≤ 1000) (hF : facQ S ou ov s.h k = some r) => facQ_sz hF hk hS (by omega) (by omega) (by omega)
  have hfQ : ∀ (S : PQ) (k : Nat), facQ S ou ov s.h k = if 0 < S.dot ou then (if 0 < S.dot ov then some (if lowQ (s.h * s.h * v.dot v / (S.dot ov * S.dot ov)) k < lowQ (s.h * s.h * u.dot u / (S.dot ou * S.dot ou)) k then lowQ (s.h * s.h * v.dot v / (S.dot ov * S.dot ov)) k else lowQ (s.h * s.h * u.dot u / (S.dot ou * S.dot ou)) k) else some (lowQ (s.h * s.h * u.dot u / (S.dot ou * S.dot ou)) k)) else if 0 < S.dot ov then some (lowQ (s.h * s.h * v.dot v / (S.dot ov * S.dot ov)) k) else none := fun S k => by
    unfold facQ; simp only [duo, dvo]
  have hlz := fun (S : PQ) (k : Nat) (hk : k ≤ 4096) (hS : S.sz ≤ 1000) => facR_sz (s := S) (o := ou) (h := s.h) hk hS (by omega) (by omega)
  have hlz2 := fun (S : PQ) (k : Nat) (hk : k ≤ 4096) (hS : S.sz ≤ 1000) => facR_sz (s := S) (o := ov) (h := s.h) hk hS (by omega) (by omega)
  unfold facR at hlz hlz2
  rw [duo] at hlz
  rw [dvo] at hlz2
  obtain ⟨TK, hTK⟩ : ∃ T, T = tipK u v s.h s.tol.val left 4097 0 := ⟨_, rfl⟩
  have hstep := fun (k : Nat) (hk : k ≤ 4096) => tipK_step (u := u) (v := v) (h := s.h) (tol := s.tol.val) (left := left) hk
  obtain ⟨FK, hFK⟩ : ∃ F : Nat → Option (List PQ), F = fun k => tipK u v s.h s.tol.val left (4097 - k) k := ⟨_, rfl⟩
  have hFK0 : TK = FK 0 := by rw [hTK, hFK]
  have hFKe : FK 4097 = none := by rw [hFK]; rfl
  have hFKs : ∀ k, k ≤ 4096 → FK k = match tipQ u v s.h s.tol.val left k with
    | some l => some l
    | none => FK (k + 1) := fun k hk => by rw [hFK]; exact hstep k hk
  rw [← hTK]
  clear hTK hFK hstep
  refine Pure.of_ca (ro_etA _) (CA.of_go mixed Tryz.func100 rfl (rs := [.cell 10 76]) rfl (by kernel_rfl) ?_)
  have htp : ∀ k, tipQ u v s.h s.tol.val left k = tipQ u v s.h s.tol.val left k := fun _ => rfl
  obtain ⟨TQ, hTQ⟩ : ∃ F : Nat → Option (List PQ), F = fun k => tipQ u v s.h s.tol.val left k := ⟨_, rfl⟩
  have hTQe : ∀ k, tipQ u v s.h s.tol.val left k = TQ k := fun k => by rw [hTQ]
  simp only [hTQe] at hT hFKs
  clear htp hTQ hTQe
  unfold stA at *
  have q1 : (stC s.width.val s.miter.val s.tol.val s.cap s.join).length = 11 := rfl
  have q2 : (stC s.width.val s.miter.val s.tol.val s.cap s.join).drop 8 = fC s.tol.val := rfl
  have q3 : (stC s.width.val s.miter.val s.tol.val s.cap s.join).take 11 = stC s.width.val s.miter.val s.tol.val s.cap s.join := rfl
  have q4 : (stC s.width.val s.miter.val s.tol.val s.cap s.join).drop 11 = [] := rfl
  have q5 := ro_stC s.width.val s.miter.val s.tol.val s.cap s.join
  generalize stC s.width.val s.miter.val s.tol.val s.cap s.join = S at *
  have q6 := renL_ro (nm []) _ q5
  have q7 := cloL_ro (n := 16) _ q5
  generalize s.h = h at *
  generalize s.tol.val = tol at *
  simp only [eA_eC, fA_fC] at *
  simp -implicitDefEqProofs [go_sem, q1, q3, q4]
  refine goC_pure _ k0 (by simp -implicitDefEqProofs [go_sem, q5]) ?_
  simp -implicitDefEqProofs [go_sem, q1, q3, q4]
  refine goD_pure _ l1 (by simp -implicitDefEqProofs [go_sem, ro_eC]) ?_
  simp -implicitDefEqProofs [go_sem, q1, q3, q4]
  refine goD_pure _ l2 (by simp -implicitDefEqProofs [go_sem, ro_eC]) ?_
  simp -implicitDefEqProofs [go_sem, q1, q3, q4]
  refine goD_pure _ l3 (by simp -implicitDefEqProofs [go_sem, ro_eC]) ?_
  simp -implicitDefEqProofs [go_sem, q1, q3, q4]
  refine goD_pure _ l4 (by simp -implicitDefEqProofs [go_sem, ro_eC]) ?_
  simp -implicitDefEqProofs [go_sem, q1, q3, q4]
  refine go_loopN 16 (α := {k : Nat // k ≤ 4097 ∧ TK = FK k}) (fun k => [(4, .bool left), (5, .ptr 0 0 0), (6, .ptr 1 0 0), (7, .ptr 2 0 0), (8, .ptr 3 0 0), (10, .ptr 4 0 0), (11, .ptr 5 0 0), (12, .ptr 14 0 0), (13, .ptr 15 0 0), (14, .int .i64 k.1)])
    (fun k => [(0, .live 6 [.agg (eC p)]), (1, .live 6 [.agg (eC u)]), (2, .live 6 [.agg (eC v)]), (3, .live 11 [.agg S]), (4, .live 2 [.agg [.sl 0 true [], .int .i64 0]]), (5, .live 3 [.agg (fC h)]), (14, .live 6 [.agg (eC ou)]), (15, .live 6 [.agg (eC ov)])])
    (fun k => 4097 - k.1) ⟨0, by omega, hFK0⟩ [] (by simp) (fun _ _ _ _ h => h) (by simp) (by simp -implicitDefEqProofs [go_sem]) (by simp -implicitDefEqProofs [go_sem, q6, q7]) fun ⟨k, hk, hfk⟩ => ?_
  by_cases a : (k : Int) ≤ 4096
  · have hk' : k ≤ 4096 := by omega
    have ek : IntKind.i64.wrap ((k : Int) + 1) = (k + 1 : Nat) := by rw [w64 (by omega)]; omega
    have hTk := hT k
    have hst := hFKs k hk'
    have gA := hAt k hk'
    have gB := hBt k hk'
    have za := sz_off (v := u) (h := h) hk'
    have zb := sz_off (v := v) (h := h) hk'
    have tA := hsd (offQ u h k)
    have tB := hsd (offQ v h k)
    have zA : (sided (offQ u h k) left).sz ≤ 268 := by rw [sz_sided]; omega
    have zB : (sided (offQ v h k) left).sz ≤ 268 := by rw [sz_sided]; omega
    have again : TQ k = none → TK = FK (k + 1) := fun e => by rw [hfk, hst, e]
    have done : ∀ l, TQ k = some l → TK = some l := fun l e => by rw [hfk, hst, e]
    generalize offQ u h k = oa at *
    generalize offQ v h k = ob at *
    generalize sided oa left = A at *
    generalize sided ob left = B at *
    have d1 := edot_pure A A (by omega) (by omega)
    have d2 := fsign_pure (A.dot A)
    have d3 := sgnQ_eq (x := A.dot A)
    have d4 := edot_pure B B (by omega) (by omega)
    have d5 := fsign_pure (B.dot B)
    have d6 := sgnQ_eq (x := B.dot B)
    rw [dot0] at d3 d6
    generalize sgnQ (A.dot A) = sA at *
    generalize sgnQ (B.dot B) = sB at *
    simp only [eA_eC, fA_fC] at *
    simp -implicitDefEqProofs [go_sem, a]
    refine goD_pure _ gA (by simp -implicitDefEqProofs [go_sem, ro_eC, ro_fC]) ?_
    simp -implicitDefEqProofs [go_sem]
    refine goD_pure _ tA (by simp -implicitDefEqProofs [go_sem, ro_eC]) ?_
    simp -implicitDefEqProofs [go_sem]
    refine goD_pure _ gB (by simp -implicitDefEqProofs [go_sem, ro_eC, ro_fC]) ?_
    simp -implicitDefEqProofs [go_sem]
    refine goD_pure _ tB (by simp -implicitDefEqProofs [go_sem, ro_eC]) ?_
    simp -implicitDefEqProofs [go_sem]
    refine goC_pure _ d1 (by simp -implicitDefEqProofs [go_sem, ro_eC]) ?_
    simp -implicitDefEqProofs [go_sem]
    refine goC_pure _ d2 (by simp -implicitDefEqProofs [go_sem, ro_fC]) ?_
    by_cases a1 : A = ⟨0, 0⟩
    · have hn := hTk.trans (if_pos (.inl a1))
      simp -implicitDefEqProofs [go_sem, d3.2 a1, ek]
      exact go_again ⟨k + 1, by omega, again hn⟩ (by simp only; omega) [] (by simp) (fun _ _ _ _ h => h) (by simp) (by simp -implicitDefEqProofs [go_sem]) (by simp -implicitDefEqProofs [go_sem, q6, q7])
    · have a1' : ¬ sA = 0 := fun h => a1 (d3.1 h)
      simp -implicitDefEqProofs [go_sem, a1']
      refine goC_pure _ d4 (by simp -implicitDefEqProofs [go_sem, ro_eC]) ?_
      simp -implicitDefEqProofs [go_sem]
      refine goC_pure _ d5 (by simp -implicitDefEqProofs [go_sem, ro_fC]) ?_
      by_cases a2 : B = ⟨0, 0⟩
      · have hn := hTk.trans (if_pos (.inr a2))
        simp -implicitDefEqProofs [go_sem, d6.2 a2, ek]
        exact go_again ⟨k + 1, by omega, again hn⟩ (by simp only; omega) [] (by simp) (fun _ _ _ _ h => h) (by simp) (by simp -implicitDefEqProofs [go_sem]) (by simp -implicitDefEqProofs [go_sem, q6, q7])
      · have a2' : ¬ sB = 0 := fun h => a2 (d6.1 h)
        have hT2 := hTk.trans (if_neg (fun h => h.elim a1 a2))
        have gS := eadd_pure A B (by omega) (by omega)
        have zS := PQ.sz_add A B
        generalize A.add B = SM at *
        have hF := hfQ SM k
        have hFz := hfs SM
        have w1 := edot_pure SM ou (by omega) (by omega)
        have w2 := edot_pure SM ov (by omega) (by omega)
        have w3 := PQ.sz_dot SM ou
        have w4 := PQ.sz_dot SM ov
        have r1 := hlz SM k hk' (by omega)
        have r2 := hlz2 SM k hk' (by omega)
        generalize SM.dot ou = X at *
        generalize SM.dot ov = Y at *
        have m1 := fun h0 => hmu X k hk' h0 (by omega)
        have m2 := fun h0 => hmv Y k hk' h0 (by omega)
        generalize lowQ (h * h * u.dot u / (X * X)) k = R1 at *
        generalize lowQ (h * h * v.dot v / (Y * Y)) k = R2 at *
        have m3 := fmin_pure R1 R2 (by omega) (by omega)
        have x1 := fsign_pure X
        have x2 := fsign_pure Y
        have x3 := sgnQ_gt (x := X)
        have x4 := sgnQ_gt (x := Y)
        generalize sgnQ X = sX at *
        generalize sgnQ Y = sY at *
        simp only [eA_eC, fA_fC] at *
        simp -implicitDefEqProofs [go_sem, a2']
        refine goC_pure _ gS (by simp -implicitDefEqProofs [go_sem, ro_eC]) ?_
        simp -implicitDefEqProofs [go_sem]
        refine goD_pure _ w1 (by simp -implicitDefEqProofs [go_sem, ro_eC]) ?_
        simp -implicitDefEqProofs [go_sem]
        refine goD_pure _ w2 (by simp -implicitDefEqProofs [go_sem, ro_eC]) ?_
        simp -implicitDefEqProofs [go_sem]
        refine goC_pure _ x1 (by simp -implicitDefEqProofs [go_sem, ro_fC]) ?_
        by_cases c1 : 0 < X
        · have x1n : X ≠ 0 := fun e => by rw [e] at c1; exact absurd c1 (by decide)
          simp -implicitDefEqProofs [go_sem, x3.2 c1]
          refine goC_pure _ x2 (by simp -implicitDefEqProofs [go_sem, ro_fC]) ?_
          by_cases c2 : 0 < Y
          · have x2n : Y ≠ 0 := fun e => by rw [e] at c2; exact absurd c2 (by decide)
            rw [if_pos c1, if_pos c2] at hF
            simp -implicitDefEqProofs [go_sem, x4.2 c2]
            refine goD_pure _ (m1 x1n) (by simp -implicitDefEqProofs [go_sem, ro_fC, ro_eC]) ?_
            simp -implicitDefEqProofs [go_sem]
            refine goD_pure _ (m2 x2n) (by simp -implicitDefEqProofs [go_sem, ro_fC, ro_eC]) ?_
            simp -implicitDefEqProofs [go_sem]
            refine goD_pure _ m3 (by simp -implicitDefEqProofs [go_sem, ro_fC]) ?_
            simp -implicitDefEqProofs [go_sem]
            rw [hF] at hT2
            simp only at hT2
            have zr := hFz (if R2 < R1 then R2 else R1) k hk' (by omega) hF
            generalize (if R2 < R1 then R2 else R1) = r at *
            have gC := fcmp_pure r half (by omega) (by omega)
            have zC := cmpQ_lt (x := r) (y := half)
            generalize cmpQ r half = cm at *
            simp only [fA_fC] at gC
            refine goD_pure _ k1 (by simp -implicitDefEqProofs [go_sem]) ?_
            simp -implicitDefEqProofs [go_sem]
            refine goD_pure _ gC (by simp -implicitDefEqProofs [go_sem, ro_fC]) ?_
            by_cases a3 : r < half
            · have hn := hT2.trans (if_pos a3)
              simp -implicitDefEqProofs [go_sem, zC.2 a3, ek]
              exact go_again ⟨k + 1, by omega, again hn⟩ (by simp only; omega) [] (by simp) (fun _ _ _ _ h => h) (by simp) (by simp -implicitDefEqProofs [go_sem]) (by simp -implicitDefEqProofs [go_sem, q6, q7])
            · have hT3 := hT2.trans (if_neg a3)
              have a3' : ¬ cm < 0 := fun hh => a3 (zC.1 hh)
              have gT := escale_pure SM r (by omega) (by omega)
              have zT := PQ.sz_scale SM r
              generalize SM.scale r = T at *
              have n1 := hlong A ou (by omega) (by omega)
              have n2 := hlong B ov (by omega) (by omega)
              have n3 := hlong T ou (by omega) (by omega)
              have n4 := hlong T ov (by omega) (by omega)
              have hr := hround A T B (by omega) (by omega) (by omega)
              have done := fun h => done [A, T, B] (hT3.trans (if_pos h))
              have no := fun h => again (hT3.trans (if_neg h))
              generalize hRL : p :: List.map p.add (if left then [A, T, B].reverse else [A, T, B]) = RL at hr
              unfold eL at hr
              simp only [List.map_cons, List.map_nil, eA_eC, fA_fC] at gT n1 n2 n3 n4 hr
              simp -implicitDefEqProofs [go_sem, a3']
              refine goC_pure _ gT (by simp -implicitDefEqProofs [go_sem, ro_eC, ro_fC]) ?_
              simp -implicitDefEqProofs [go_sem, q1, q2]
              refine goC_pure _ n1 (by simp -implicitDefEqProofs [go_sem, ro_eC, ro_fC]) ?_
              by_cases b1 : atl (A.dot ou) (h - tol) (ou.dot ou)
              · simp -implicitDefEqProofs [go_sem, b1, q1, q2]
                refine goC_pure _ n2 (by simp -implicitDefEqProofs [go_sem, ro_eC, ro_fC]) ?_
                by_cases b2 : atl (B.dot ov) (h - tol) (ov.dot ov)
                · simp -implicitDefEqProofs [go_sem, b2, q1, q2]
                  refine goC_pure _ n3 (by simp -implicitDefEqProofs [go_sem, ro_eC, ro_fC]) ?_
                  by_cases b3 : atl (T.dot ou) (h - tol) (ou.dot ou)
                  · simp -implicitDefEqProofs [go_sem, b3, q1, q2]
                    refine goC_pure _ n4 (by simp -implicitDefEqProofs [go_sem, ro_eC, ro_fC]) ?_
                    by_cases b4 : atl (T.dot ov) (h - tol) (ov.dot ov)
                    · simp -implicitDefEqProofs [go_sem, b4, q1, q2]
                      have hd := done ⟨b1, b3, b2, b4⟩
                      have hg : etA (miterQ p TK left) = .agg [.sl 6 false (RL.map eA), .int .i64 0] := by rw [hd, ← hRL]; rfl
                      rw [hg]
                      refine goC_dead [61] _ hr (by simp -implicitDefEqProofs [go_sem]) (by simp -implicitDefEqProofs [go_sem, ro_eC]) (by simp -implicitDefEqProofs [go_sem]) (by simp -implicitDefEqProofs [go_sem]) ?_
                      simp -implicitDefEqProofs [go_sem, rop, ro_eC]
                      exact Wk.refl _
                    · have hn := no (fun h => b4 h.2.2.2)
                      simp -implicitDefEqProofs [go_sem, b4, ek]
                      exact go_again ⟨k + 1, by omega, hn⟩ (by simp only; omega) [] (by simp) (fun _ _ _ _ h => h) (by simp) (by simp -implicitDefEqProofs [go_sem]) (by simp -implicitDefEqProofs [go_sem, q6, q7])
                  · have hn := no (fun h => b3 h.2.1)
                    simp -implicitDefEqProofs [go_sem, b3, ek]
                    exact go_again ⟨k + 1, by omega, hn⟩ (by simp only; omega) [] (by simp) (fun _ _ _ _ h => h) (by simp) (by simp -implicitDefEqProofs [go_sem]) (by simp -implicitDefEqProofs [go_sem, q6, q7])
                · have hn := no (fun h => b2 h.2.2.1)
                  simp -implicitDefEqProofs [go_sem, b2, ek]
                  exact go_again ⟨k + 1, by omega, hn⟩ (by simp only; omega) [] (by simp) (fun _ _ _ _ h => h) (by simp) (by simp -implicitDefEqProofs [go_sem]) (by simp -implicitDefEqProofs [go_sem, q6, q7])
              · have hn := no (fun h => b1 h.1)
                simp -implicitDefEqProofs [go_sem, b1, ek]
                exact go_again ⟨k + 1, by omega, hn⟩ (by simp only; omega) [] (by simp) (fun _ _ _ _ h => h) (by simp) (by simp -implicitDefEqProofs [go_sem]) (by simp -implicitDefEqProofs [go_sem, q6, q7])
          · have c2' : ¬ 0 < sY := fun h => c2 (x4.1 h)
            rw [if_pos c1, if_neg c2] at hF
            simp -implicitDefEqProofs [go_sem, c2']
            refine goC_pure _ x1 (by simp -implicitDefEqProofs [go_sem, ro_fC]) ?_
            simp -implicitDefEqProofs [go_sem, x3.2 c1]
            refine goC_pure _ (m1 x1n) (by simp -implicitDefEqProofs [go_sem, ro_fC, ro_eC]) ?_
            simp -implicitDefEqProofs [go_sem]
            rw [hF] at hT2
            simp only at hT2
            have zr := hFz R1 k hk' (by omega) hF
            generalize R1 = r at *
            have gC := fcmp_pure r half (by omega) (by omega)
            have zC := cmpQ_lt (x := r) (y := half)
            generalize cmpQ r half = cm at *
            simp only [fA_fC] at gC
            refine goD_pure _ k1 (by simp -implicitDefEqProofs [go_sem]) ?_
            simp -implicitDefEqProofs [go_sem]
            refine goD_pure _ gC (by simp -implicitDefEqProofs [go_sem, ro_fC]) ?_
            by_cases a3 : r < half
            · have hn := hT2.trans (if_pos a3)
              simp -implicitDefEqProofs [go_sem, zC.2 a3, ek]
              exact go_again ⟨k + 1, by omega, again hn⟩ (by simp only; omega) [] (by simp) (fun _ _ _ _ h => h) (by simp) (by simp -implicitDefEqProofs [go_sem]) (by simp -implicitDefEqProofs [go_sem, q6, q7])
            · have hT3 := hT2.trans (if_neg a3)
              have a3' : ¬ cm < 0 := fun hh => a3 (zC.1 hh)
              have gT := escale_pure SM r (by omega) (by omega)
              have zT := PQ.sz_scale SM r
              generalize SM.scale r = T at *
              have n1 := hlong A ou (by omega) (by omega)
              have n2 := hlong B ov (by omega) (by omega)
              have n3 := hlong T ou (by omega) (by omega)
              have n4 := hlong T ov (by omega) (by omega)
              have hr := hround A T B (by omega) (by omega) (by omega)
              have done := fun h => done [A, T, B] (hT3.trans (if_pos h))
              have no := fun h => again (hT3.trans (if_neg h))
              generalize hRL : p :: List.map p.add (if left then [A, T, B].reverse else [A, T, B]) = RL at hr
              unfold eL at hr
              simp only [List.map_cons, List.map_nil, eA_eC, fA_fC] at gT n1 n2 n3 n4 hr
              simp -implicitDefEqProofs [go_sem, a3']
              refine goC_pure _ gT (by simp -implicitDefEqProofs [go_sem, ro_eC, ro_fC]) ?_
              simp -implicitDefEqProofs [go_sem, q1, q2]
              refine goC_pure _ n1 (by simp -implicitDefEqProofs [go_sem, ro_eC, ro_fC]) ?_
              by_cases b1 : atl (A.dot ou) (h - tol) (ou.dot ou)
              · simp -implicitDefEqProofs [go_sem, b1, q1, q2]
                refine goC_pure _ n2 (by simp -implicitDefEqProofs [go_sem, ro_eC, ro_fC]) ?_
                by_cases b2 : atl (B.dot ov) (h - tol) (ov.dot ov)
                · simp -implicitDefEqProofs [go_sem, b2, q1, q2]
                  refine goC_pure _ n3 (by simp -implicitDefEqProofs [go_sem, ro_eC, ro_fC]) ?_
                  by_cases b3 : atl (T.dot ou) (h - tol) (ou.dot ou)
                  · simp -implicitDefEqProofs [go_sem, b3, q1, q2]
                    refine goC_pure _ n4 (by simp -implicitDefEqProofs [go_sem, ro_eC, ro_fC]) ?_
                    by_cases b4 : atl (T.dot ov) (h - tol) (ov.dot ov)
                    · simp -implicitDefEqProofs [go_sem, b4, q1, q2]
                      have hd := done ⟨b1, b3, b2, b4⟩
                      have hg : etA (miterQ p TK left) = .agg [.sl 6 false (RL.map eA), .int .i64 0] := by rw [hd, ← hRL]; rfl
                      rw [hg]
                      refine goC_dead [49] _ hr (by simp -implicitDefEqProofs [go_sem]) (by simp -implicitDefEqProofs [go_sem, ro_eC]) (by simp -implicitDefEqProofs [go_sem]) (by simp -implicitDefEqProofs [go_sem]) ?_
                      simp -implicitDefEqProofs [go_sem, rop, ro_eC]
                      exact Wk.refl _
                    · have hn := no (fun h => b4 h.2.2.2)
                      simp -implicitDefEqProofs [go_sem, b4, ek]
                      exact go_again ⟨k + 1, by omega, hn⟩ (by simp only; omega) [] (by simp) (fun _ _ _ _ h => h) (by simp) (by simp -implicitDefEqProofs [go_sem]) (by simp -implicitDefEqProofs [go_sem, q6, q7])
                  · have hn := no (fun h => b3 h.2.1)
                    simp -implicitDefEqProofs [go_sem, b3, ek]
                    exact go_again ⟨k + 1, by omega, hn⟩ (by simp only; omega) [] (by simp) (fun _ _ _ _ h => h) (by simp) (by simp -implicitDefEqProofs [go_sem]) (by simp -implicitDefEqProofs [go_sem, q6, q7])
                · have hn := no (fun h => b2 h.2.2.1)
                  simp -implicitDefEqProofs [go_sem, b2, ek]
                  exact go_again ⟨k + 1, by omega, hn⟩ (by simp only; omega) [] (by simp) (fun _ _ _ _ h => h) (by simp) (by simp -implicitDefEqProofs [go_sem]) (by simp -implicitDefEqProofs [go_sem, q6, q7])
              · have hn := no (fun h => b1 h.1)
                simp -implicitDefEqProofs [go_sem, b1, ek]
                exact go_again ⟨k + 1, by omega, hn⟩ (by simp only; omega) [] (by simp) (fun _ _ _ _ h => h) (by simp) (by simp -implicitDefEqProofs [go_sem]) (by simp -implicitDefEqProofs [go_sem, q6, q7])
        · have c1' : ¬ 0 < sX := fun h => c1 (x3.1 h)
          simp -implicitDefEqProofs [go_sem, c1']
          refine goC_pure _ x1 (by simp -implicitDefEqProofs [go_sem, ro_fC]) ?_
          simp -implicitDefEqProofs [go_sem, c1']
          refine goC_pure _ x2 (by simp -implicitDefEqProofs [go_sem, ro_fC]) ?_
          by_cases c2 : 0 < Y
          · have x2n : Y ≠ 0 := fun e => by rw [e] at c2; exact absurd c2 (by decide)
            rw [if_neg c1, if_pos c2] at hF
            simp -implicitDefEqProofs [go_sem, x4.2 c2]
            refine goC_pure _ (m2 x2n) (by simp -implicitDefEqProofs [go_sem, ro_fC, ro_eC]) ?_
            simp -implicitDefEqProofs [go_sem]
            rw [hF] at hT2
            simp only at hT2
            have zr := hFz R2 k hk' (by omega) hF
            generalize R2 = r at *
            have gC := fcmp_pure r half (by omega) (by omega)
            have zC := cmpQ_lt (x := r) (y := half)
            generalize cmpQ r half = cm at *
            simp only [fA_fC] at gC
            refine goD_pure _ k1 (by simp -implicitDefEqProofs [go_sem]) ?_
            simp -implicitDefEqProofs [go_sem]
            refine goD_pure _ gC (by simp -implicitDefEqProofs [go_sem, ro_fC]) ?_
            by_cases a3 : r < half
            · have hn := hT2.trans (if_pos a3)
              simp -implicitDefEqProofs [go_sem, zC.2 a3, ek]
              exact go_again ⟨k + 1, by omega, again hn⟩ (by simp only; omega) [] (by simp) (fun _ _ _ _ h => h) (by simp) (by simp -implicitDefEqProofs [go_sem]) (by simp -implicitDefEqProofs [go_sem, q6, q7])
            · have hT3 := hT2.trans (if_neg a3)
              have a3' : ¬ cm < 0 := fun hh => a3 (zC.1 hh)
              have gT := escale_pure SM r (by omega) (by omega)
              have zT := PQ.sz_scale SM r
              generalize SM.scale r = T at *
              have n1 := hlong A ou (by omega) (by omega)
              have n2 := hlong B ov (by omega) (by omega)
              have n3 := hlong T ou (by omega) (by omega)
              have n4 := hlong T ov (by omega) (by omega)
              have hr := hround A T B (by omega) (by omega) (by omega)
              have done := fun h => done [A, T, B] (hT3.trans (if_pos h))
              have no := fun h => again (hT3.trans (if_neg h))
              generalize hRL : p :: List.map p.add (if left then [A, T, B].reverse else [A, T, B]) = RL at hr
              unfold eL at hr
              simp only [List.map_cons, List.map_nil, eA_eC, fA_fC] at gT n1 n2 n3 n4 hr
              simp -implicitDefEqProofs [go_sem, a3']
              refine goC_pure _ gT (by simp -implicitDefEqProofs [go_sem, ro_eC, ro_fC]) ?_
              simp -implicitDefEqProofs [go_sem, q1, q2]
              refine goC_pure _ n1 (by simp -implicitDefEqProofs [go_sem, ro_eC, ro_fC]) ?_
              by_cases b1 : atl (A.dot ou) (h - tol) (ou.dot ou)
              · simp -implicitDefEqProofs [go_sem, b1, q1, q2]
                refine goC_pure _ n2 (by simp -implicitDefEqProofs [go_sem, ro_eC, ro_fC]) ?_
                by_cases b2 : atl (B.dot ov) (h - tol) (ov.dot ov)
                · simp -implicitDefEqProofs [go_sem, b2, q1, q2]
                  refine goC_pure _ n3 (by simp -implicitDefEqProofs [go_sem, ro_eC, ro_fC]) ?_
                  by_cases b3 : atl (T.dot ou) (h - tol) (ou.dot ou)
                  · simp -implicitDefEqProofs [go_sem, b3, q1, q2]
                    refine goC_pure _ n4 (by simp -implicitDefEqProofs [go_sem, ro_eC, ro_fC]) ?_
                    by_cases b4 : atl (T.dot ov) (h - tol) (ov.dot ov)
                    · simp -implicitDefEqProofs [go_sem, b4, q1, q2]
                      have hd := done ⟨b1, b3, b2, b4⟩
                      have hg : etA (miterQ p TK left) = .agg [.sl 6 false (RL.map eA), .int .i64 0] := by rw [hd, ← hRL]; rfl
                      rw [hg]
                      refine goC_dead [49] _ hr (by simp -implicitDefEqProofs [go_sem]) (by simp -implicitDefEqProofs [go_sem, ro_eC]) (by simp -implicitDefEqProofs [go_sem]) (by simp -implicitDefEqProofs [go_sem]) ?_
                      simp -implicitDefEqProofs [go_sem, rop, ro_eC]
                      exact Wk.refl _
                    · have hn := no (fun h => b4 h.2.2.2)
                      simp -implicitDefEqProofs [go_sem, b4, ek]
                      exact go_again ⟨k + 1, by omega, hn⟩ (by simp only; omega) [] (by simp) (fun _ _ _ _ h => h) (by simp) (by simp -implicitDefEqProofs [go_sem]) (by simp -implicitDefEqProofs [go_sem, q6, q7])
                  · have hn := no (fun h => b3 h.2.1)
                    simp -implicitDefEqProofs [go_sem, b3, ek]
                    exact go_again ⟨k + 1, by omega, hn⟩ (by simp only; omega) [] (by simp) (fun _ _ _ _ h => h) (by simp) (by simp -implicitDefEqProofs [go_sem]) (by simp -implicitDefEqProofs [go_sem, q6, q7])
                · have hn := no (fun h => b2 h.2.2.1)
                  simp -implicitDefEqProofs [go_sem, b2, ek]
                  exact go_again ⟨k + 1, by omega, hn⟩ (by simp only; omega) [] (by simp) (fun _ _ _ _ h => h) (by simp) (by simp -implicitDefEqProofs [go_sem]) (by simp -implicitDefEqProofs [go_sem, q6, q7])
              · have hn := no (fun h => b1 h.1)
                simp -implicitDefEqProofs [go_sem, b1, ek]
                exact go_again ⟨k + 1, by omega, hn⟩ (by simp only; omega) [] (by simp) (fun _ _ _ _ h => h) (by simp) (by simp -implicitDefEqProofs [go_sem]) (by simp -implicitDefEqProofs [go_sem, q6, q7])
          · have c2' : ¬ 0 < sY := fun h => c2 (x4.1 h)
            rw [if_neg c1, if_neg c2] at hF
            rw [hF] at hT2
            have hn : TQ k = none := hT2
            simp -implicitDefEqProofs [go_sem, c2', ek]
            exact go_again ⟨k + 1, by omega, again hn⟩ (by simp only; omega) [] (by simp) (fun _ _ _ _ h => h) (by simp) (by simp -implicitDefEqProofs [go_sem]) (by simp -implicitDefEqProofs [go_sem, q6, q7])
  · have hk' : k = 4097 := by omega
    subst hk'
    have hg : etA (miterQ p TK left) = etA ([], 24) := by rw [hfk, hFKe]; rfl
    rw [hg]
    simp -implicitDefEqProofs [go_sem, a, rop]
    exact et_nil 24
set_option maxHeartbeats 32000000 in
theorem epiece_pure (p u v : PQ) (s : SR) (hp : p.sz ≤ 1) (hu : u.sz ≤ 1) (hv : v.sz ≤ 1) (hs : s.Sml) :
    Pure Tryz.prog 43 [eA p, eA u, eA v, stA s] (etA (pieceQ p u v s)) := by
  have hh := hs.h
  have zt := hs.tol.sz
  have zm := hs.miter.sz
  have d1 := edot_pure u u (by omega) (by omega)
  have d2 := fsign_pure (u.dot u)
  have d3 := sgnQ_eq (x := u.dot u)
  have d4 := edot_pure v v (by omega) (by omega)
  have d5 := fsign_pure (v.dot v)
  have d6 := sgnQ_eq (x := v.dot v)
  rw [dot0] at d3 d6
  have w1 := fsign_pure s.width.val
  have w2 := fsign_pure s.tol.val
  have y1 := sgnQ_le (x := s.width.val)
  have y2 := sgnQ_le (x := s.tol.val)
  have k1 := fof_pure 1 1 (by omega) (by omega) (by omega)
  rw [show ((1 : Int) : Rat) / ((1 : Int) : Rat) = 1 by grind] at k1
  have k64 := fof_pure 64 1 (by omega) (by omega) (by omega)
  have z64 := sz_frac (p := 64) (q := 1) (by omega) (by omega) (by omega)
  rw [show ((64 : Int) : Rat) / ((1 : Int) : Rat) = 64 by grind] at k64 z64
  have z1 := sz_one
  have m1 := fcmp_pure s.miter.val 1 (by omega) (by omega)
  have m64 := fcmp_pure s.miter.val 64 (by omega) (by omega)
  have y3 := cmpQ_lt (x := s.miter.val) (y := 1)
  have y4 := cmpQ_gt (x := s.miter.val) (y := 64)
  have kh := ehalf_pure s hs
  have kr := eround_pure p s.h s.tol.val (by omega) (by omega) (by omega)
  have kx := ecross_pure u v (by omega) (by omega)
  have kg := fsign_pure (u.cross v)
  have y5 := sgnQ_eq (x := u.cross v)
  have y6 := sgnQ_lt (x := u.cross v)
  have ks := esharp_pure u v s.miter.val (by omega) (by omega) (by omega)
  have km := fun (hu0 : u ≠ ⟨0, 0⟩) (hv0 : v ≠ ⟨0, 0⟩) => emiter_pure p u v s (decide (u.cross v < 0)) hp hu hv hu0 hv0 hs
  have kf1 := fun (h0 : 0 < s.h) (ht : 0 < s.tol.val) (hu0 : u ≠ ⟨0, 0⟩) => efit_pure u s.h s.tol.val (by omega) hu0 (by omega) h0 (by omega) ht
  have kf2 := fun (h0 : 0 < s.h) (ht : 0 < s.tol.val) (hv0 : v ≠ ⟨0, 0⟩) => efit_pure v s.h s.tol.val (by omega) hv0 (by omega) h0 (by omega) ht
  have hfs1 := fun n k (hf : fitQ u s.h s.tol.val = some (n, k)) => fit_sz hf (by omega) (by omega)
  have hfs2 := fun n k (hf : fitQ v s.h s.tol.val = some (n, k)) => fit_sz hf (by omega) (by omega)
  have hmay : mayJ s ↔ 0 < s.width.val ∧ 0 < s.tol.val ∧ 0 ≤ s.join ∧ s.join ≤ 2 ∧ (s.join = 0 → 1 ≤ s.miter.val ∧ s.miter.val ≤ 64) := Iff.rfl
  have hHpos : 0 < s.width.val → 0 < s.h := fun h => Rat.mul_pos h half_pos
  refine Pure.of_ca (ro_etA _) (CA.of_go mixed Tryz.func43 rfl (rs := [.cell 8 76]) rfl (by kernel_rfl) ?_)
  obtain ⟨RES, hRES⟩ : ∃ R, R = etA (pieceQ p u v s) := ⟨_, rfl⟩
  rw [← hRES]
  unfold pieceQ outQ at hRES
  obtain ⟨left, hleft⟩ : ∃ left, left = decide (u.cross v < 0) := ⟨_, rfl⟩
  have hLi : ∀ l : List PQ, (if u.cross v < 0 then l.reverse else l) = if left then l.reverse else l := fun l => by rw [hleft]; by_cases hc : u.cross v < 0 <;> simp [hc]
  simp only [hLi] at hRES
  rw [← hleft] at km hRES
  have hgl : (sgnQ (u.cross v) < 0) = (left = true) := by rw [hleft, decide_eq_true_iff, y6]
  have hround := fun (a b : PQ) (ha : a.sz ≤ 1000000) (hb : b.sz ≤ 1000000) => earound_pure p [a, b] left (by simp) (by omega) (by simp [ha, hb])
  have hsd := fun a => esided_pure a left
  unfold stA at *
  have hsx : sharpQ u v s.miter.val = sharpQ u v s.miter.val := rfl
  have hst : stC s.width.val s.miter.val s.tol.val s.cap s.join = stC s.width.val s.miter.val s.tol.val s.cap s.join := rfl
  unfold cutJ at hRES
  generalize sgnQ (u.cross v) = gx at *
  generalize u.cross v = X at *
  generalize s.h = h at *
  generalize s.tol.val = tol at *
  generalize s.width.val = w at *
  generalize s.cap = C at *
  generalize s.join = J at *
  generalize rnd p h tol = RN at *
  generalize tipK u v h tol left 4097 0 = TK at *
  generalize sgnQ (u.dot u) = g1 at *
  generalize sgnQ (v.dot v) = g2 at *
  generalize u.dot u = uu at *
  generalize v.dot v = vv at *
  have yS : ∀ b : Bool, b = decide (sharpQ u v s.miter.val) → (b = true ↔ sharpQ u v s.miter.val) := fun b hb => by rw [hb, decide_eq_true_iff]
  obtain ⟨SH, hSH⟩ : ∃ b : Bool, b = decide (sharpQ u v s.miter.val) := ⟨_, rfl⟩
  have yS := yS SH hSH
  rw [← hSH] at ks
  have hif : ∀ (A B : Option (List PQ)), (if J = 0 ∧ sharpQ u v s.miter.val then A else B) = if J = 0 ∧ SH = true then A else B := fun A B => by
    by_cases hq : sharpQ u v s.miter.val
    · have := yS.2 hq
      simp [hq, this]
    · have : SH = false := Bool.eq_false_iff.2 fun h => hq (yS.1 h)
      simp [hq, this]
  rw [hif] at hRES
  clear hsx hst hSH
  generalize cmpQ s.miter.val 1 = c1 at *
  generalize cmpQ s.miter.val 64 = c2 at *
  generalize s.miter.val = m at *
  generalize sgnQ w = sw at *
  generalize sgnQ tol = stl at *
  unfold etA eL stC at *
  simp only [eA_eC, fA_fC] at *
  try unfold fC at *
  simp -implicitDefEqProofs [go_sem]
  refine goC_pure _ d1 (by simp -implicitDefEqProofs [go_sem, ro_eC]) ?_
  simp -implicitDefEqProofs [go_sem]
  refine goC_pure _ d2 (by simp -implicitDefEqProofs [go_sem, ro_qA]) ?_
  by_cases a1 : u = ⟨0, 0⟩
  · rw [if_pos (.inl a1)] at hRES
    simp -implicitDefEqProofs [go_sem, d3.2 a1, rop]
    rw [hRES]
    exact Wk.agg (.cons (Wk.nil 0 6 true) (.cons (Wk.refl _) .nil))
  have a1' : ¬ g1 = 0 := fun h => a1 (d3.1 h)
  simp -implicitDefEqProofs [go_sem, a1']
  refine goC_pure _ d4 (by simp -implicitDefEqProofs [go_sem, ro_eC]) ?_
  simp -implicitDefEqProofs [go_sem]
  refine goC_pure _ d5 (by simp -implicitDefEqProofs [go_sem, ro_qA]) ?_
  by_cases a2 : v = ⟨0, 0⟩
  · rw [if_pos (.inr a2)] at hRES
    simp -implicitDefEqProofs [go_sem, d6.2 a2, rop]
    rw [hRES]
    exact Wk.agg (.cons (Wk.nil 0 6 true) (.cons (Wk.refl _) .nil))
  have a2' : ¬ g2 = 0 := fun h => a2 (d6.1 h)
  rw [if_neg (fun h => h.elim a1 a2)] at hRES
  simp -implicitDefEqProofs [go_sem, a2']
  refine goD_pure _ w1 (by simp -implicitDefEqProofs [go_sem, ro_qA]) ?_
  by_cases a3 : w ≤ 0
  · rw [if_pos (fun hh => absurd (hmay.1 hh).1 (by grind))] at hRES
    simp -implicitDefEqProofs [go_sem, y1.2 a3, rop]
    rw [hRES]
    exact Wk.agg (.cons (Wk.nil 0 6 true) (.cons (Wk.refl _) .nil))
  have a3' : ¬ sw ≤ 0 := fun h => a3 (y1.1 h)
  simp -implicitDefEqProofs [go_sem, a3']
  refine goD_pure _ w2 (by simp -implicitDefEqProofs [go_sem, ro_qA]) ?_
  by_cases a4 : tol ≤ 0
  · rw [if_pos (fun hh => absurd (hmay.1 hh).2.1 (by grind))] at hRES
    simp -implicitDefEqProofs [go_sem, y2.2 a4, rop]
    rw [hRES]
    exact Wk.agg (.cons (Wk.nil 0 6 true) (.cons (Wk.refl _) .nil))
  have a4' : ¬ stl ≤ 0 := fun h => a4 (y2.1 h)
  by_cases a5 : J < 0
  · rw [if_pos (fun hh => absurd (hmay.1 hh).2.2.1 (by omega))] at hRES
    simp -implicitDefEqProofs [go_sem, a4', a5, rop]
    rw [hRES]
    exact Wk.agg (.cons (Wk.nil 0 6 true) (.cons (Wk.refl _) .nil))
  by_cases a6 : 2 < J
  · rw [if_pos (fun hh => absurd (hmay.1 hh).2.2.2.1 (by omega))] at hRES
    simp -implicitDefEqProofs [go_sem, a4', a5, a6, rop]
    rw [hRES]
    exact Wk.agg (.cons (Wk.nil 0 6 true) (.cons (Wk.refl _) .nil))
  have h0 := hHpos (by grind)
  have t0 : 0 < tol := by grind
  have kf1 := kf1 h0 t0 a1
  have kf2 := kf2 h0 t0 a2
  have km := km a1 a2
  by_cases a7 : J = 0
  · subst a7
    simp -implicitDefEqProofs [go_sem, a4', a5, a6]
    refine goD_pure _ k1 (by simp -implicitDefEqProofs [go_sem]) ?_
    simp -implicitDefEqProofs [go_sem]
    refine goD_pure _ m1 (by simp -implicitDefEqProofs [go_sem, ro_qA]) ?_
    by_cases a8 : m < 1
    · rw [if_pos (fun hh => absurd ((hmay.1 hh).2.2.2.2 rfl).1 (by grind))] at hRES
      simp -implicitDefEqProofs [go_sem, y3.2 a8, rop]
      rw [hRES]
      exact Wk.agg (.cons (Wk.nil 0 6 true) (.cons (Wk.refl _) .nil))
    have a8' : ¬ c1 < 0 := fun h => a8 (y3.1 h)
    simp -implicitDefEqProofs [go_sem, a8']
    refine goD_pure _ k64 (by simp -implicitDefEqProofs [go_sem]) ?_
    simp -implicitDefEqProofs [go_sem]
    refine goD_pure _ m64 (by simp -implicitDefEqProofs [go_sem, ro_qA]) ?_
    by_cases a9 : 64 < m
    · rw [if_pos (fun hh => absurd ((hmay.1 hh).2.2.2.2 rfl).2 (by grind))] at hRES
      simp -implicitDefEqProofs [go_sem, y4.2 a9, rop]
      rw [hRES]
      exact Wk.agg (.cons (Wk.nil 0 6 true) (.cons (Wk.refl _) .nil))
    have a9' : ¬ 0 < c2 := fun h => a9 (y4.1 h)
    rw [if_neg (fun hh => hh (hmay.2 ⟨by grind, by grind, by omega, by omega, fun _ => ⟨by grind, by grind⟩⟩)), if_neg (by decide)] at hRES
    simp -implicitDefEqProofs [go_sem, a9']
    refine goC_pure _ kh (by simp -implicitDefEqProofs [go_sem, ro_qA]) ?_
    simp -implicitDefEqProofs [go_sem]
    refine goC_pure _ kx (by simp -implicitDefEqProofs [go_sem, ro_eC]) ?_
    simp -implicitDefEqProofs [go_sem]
    refine goC_pure _ kg (by simp -implicitDefEqProofs [go_sem, ro_qA]) ?_
    by_cases b1 : X = 0
    · rw [if_pos b1] at hRES
      simp -implicitDefEqProofs [go_sem, y5.2 b1, rop]
      rw [hRES]
      exact Wk.agg (.cons (Wk.nil 0 6 true) (.cons (Wk.refl _) .nil))
    have b1' : ¬ gx = 0 := fun h => b1 (y5.1 h)
    rw [if_neg b1] at hRES
    simp -implicitDefEqProofs [go_sem, b1', hgl]
    refine goC_pure _ ks (by simp -implicitDefEqProofs [go_sem, ro_eC, ro_qA]) ?_
    cases SH
    · rw [if_neg (fun h => by cases h.2)] at hRES
      simp -implicitDefEqProofs [go_sem]
      cases hf1 : fitQ u h tol with
      | none =>
        rw [hf1] at kf1 hRES
        cases hf2 : fitQ v h tol with
        | none =>
          rw [hf2] at kf2 hRES
          unfold gfA at kf1 kf2
          simp only at kf1 kf2 hRES
          have e1 : ∀ (n : PQ) (a b : AV), List.drop 7 (eC n ++ [a, b]) = [b] := fun _ _ _ => rfl
          have e2 : ∀ (n : PQ) (a b : AV), List.take 8 (eC n ++ [a, b]) = eC n ++ [a, b] := fun _ _ _ => rfl
          have e3 : ∀ (n : PQ) (a b : AV), (eC n ++ [a, b]).length = 8 := fun _ _ _ => rfl
          have e4 : ∀ (n : PQ) (a b : AV), List.take 6 (eC n ++ [a, b]) = eC n := fun _ _ _ => rfl
          have e5 : ∀ (n : PQ) (a b : AV), List.drop 8 (eC n ++ [a, b]) = [] := fun _ _ _ => rfl
          refine goD_pure _ kf1 (by simp -implicitDefEqProofs [go_sem, ro_eC, ro_qA, roL_append]) ?_
          simp -implicitDefEqProofs [go_sem, e1, e2, e3, e4, e5]
          refine goD_pure _ kf2 (by simp -implicitDefEqProofs [go_sem, ro_eC, ro_qA, roL_append]) ?_
          simp -implicitDefEqProofs [go_sem, e1, e2, e3, e4, e5, rop]
          rw [hRES]
          exact Wk.agg (.cons (Wk.nil 0 6 true) (.cons (Wk.refl _) .nil))
        | some x =>
          obtain ⟨n2, j2⟩ := x
          rw [hf2] at kf2 hRES
          unfold gfA at kf1 kf2
          simp only at kf1 kf2 hRES
          have e1 : ∀ (n : PQ) (a b : AV), List.drop 7 (eC n ++ [a, b]) = [b] := fun _ _ _ => rfl
          have e2 : ∀ (n : PQ) (a b : AV), List.take 8 (eC n ++ [a, b]) = eC n ++ [a, b] := fun _ _ _ => rfl
          have e3 : ∀ (n : PQ) (a b : AV), (eC n ++ [a, b]).length = 8 := fun _ _ _ => rfl
          have e4 : ∀ (n : PQ) (a b : AV), List.take 6 (eC n ++ [a, b]) = eC n := fun _ _ _ => rfl
          have e5 : ∀ (n : PQ) (a b : AV), List.drop 8 (eC n ++ [a, b]) = [] := fun _ _ _ => rfl
          refine goD_pure _ kf1 (by simp -implicitDefEqProofs [go_sem, ro_eC, ro_qA, roL_append]) ?_
          simp -implicitDefEqProofs [go_sem, e1, e2, e3, e4, e5]
          refine goD_pure _ kf2 (by simp -implicitDefEqProofs [go_sem, ro_eC, ro_qA, roL_append]) ?_
          simp -implicitDefEqProofs [go_sem, e1, e2, e3, e4, e5, rop]
          rw [hRES]
          exact Wk.agg (.cons (Wk.nil 0 6 true) (.cons (Wk.refl _) .nil))
      | some x =>
        obtain ⟨n1, j1⟩ := x
        rw [hf1] at kf1 hRES
        cases hf2 : fitQ v h tol with
        | none =>
          rw [hf2] at kf2 hRES
          unfold gfA at kf1 kf2
          simp only at kf1 kf2 hRES
          have e1 : ∀ (n : PQ) (a b : AV), List.drop 7 (eC n ++ [a, b]) = [b] := fun _ _ _ => rfl
          have e2 : ∀ (n : PQ) (a b : AV), List.take 8 (eC n ++ [a, b]) = eC n ++ [a, b] := fun _ _ _ => rfl
          have e3 : ∀ (n : PQ) (a b : AV), (eC n ++ [a, b]).length = 8 := fun _ _ _ => rfl
          have e4 : ∀ (n : PQ) (a b : AV), List.take 6 (eC n ++ [a, b]) = eC n := fun _ _ _ => rfl
          have e5 : ∀ (n : PQ) (a b : AV), List.drop 8 (eC n ++ [a, b]) = [] := fun _ _ _ => rfl
          refine goD_pure _ kf1 (by simp -implicitDefEqProofs [go_sem, ro_eC, ro_qA, roL_append]) ?_
          simp -implicitDefEqProofs [go_sem, e1, e2, e3, e4, e5]
          refine goD_pure _ kf2 (by simp -implicitDefEqProofs [go_sem, ro_eC, ro_qA, roL_append]) ?_
          simp -implicitDefEqProofs [go_sem, e1, e2, e3, e4, e5, rop]
          rw [hRES]
          exact Wk.agg (.cons (Wk.nil 0 6 true) (.cons (Wk.refl _) .nil))
        | some x =>
          obtain ⟨n2, j2⟩ := x
          rw [hf2] at kf2 hRES
          unfold gfA at kf1 kf2
          simp only at kf1 kf2 hRES
          have e1 : ∀ (n : PQ) (a b : AV), List.drop 7 (eC n ++ [a, b]) = [b] := fun _ _ _ => rfl
          have e2 : ∀ (n : PQ) (a b : AV), List.take 8 (eC n ++ [a, b]) = eC n ++ [a, b] := fun _ _ _ => rfl
          have e3 : ∀ (n : PQ) (a b : AV), (eC n ++ [a, b]).length = 8 := fun _ _ _ => rfl
          have e4 : ∀ (n : PQ) (a b : AV), List.take 6 (eC n ++ [a, b]) = eC n := fun _ _ _ => rfl
          have e5 : ∀ (n : PQ) (a b : AV), List.drop 8 (eC n ++ [a, b]) = [] := fun _ _ _ => rfl
          refine goD_pure _ kf1 (by simp -implicitDefEqProofs [go_sem, ro_eC, ro_qA, roL_append]) ?_
          simp -implicitDefEqProofs [go_sem, e1, e2, e3, e4, e5]
          refine goD_pure _ kf2 (by simp -implicitDefEqProofs [go_sem, ro_eC, ro_qA, roL_append]) ?_
          have s1 := hfs1 n1 j1 hf1
          have s2 := hfs2 n2 j2 hf2
          have u1 := hsd n1
          have u2 := hsd n2
          have hr := hround (sided n1 left) (sided n2 left) (by rw [sz_sided]; omega) (by rw [sz_sided]; omega)
          generalize hRL : p :: List.map p.add (if left then [sided n1 left, sided n2 left].reverse else [sided n1 left, sided n2 left]) = RL at hr hRES
          simp only [List.map_cons, List.map_nil, eA_eC] at u1 u2 hr
          generalize sided n1 left = A at *
          generalize sided n2 left = B at *
          simp -implicitDefEqProofs [go_sem, e1, e2, e3, e4, e5]
          refine goD_pure _ u1 (by simp -implicitDefEqProofs [go_sem, ro_eC]) ?_
          simp -implicitDefEqProofs [go_sem, e1, e2, e3, e4, e5]
          refine goD_pure _ u2 (by simp -implicitDefEqProofs [go_sem, ro_eC]) ?_
          simp -implicitDefEqProofs [go_sem]
          refine goD_dead [68] _ (by kernel_rfl) hr (by simp -implicitDefEqProofs [go_sem]) (by simp -implicitDefEqProofs [go_sem, ro_eC]) (by simp -implicitDefEqProofs [go_sem]) (by simp -implicitDefEqProofs [go_sem]) ?_
          simp -implicitDefEqProofs [go_sem, rop, ro_eC]
          rw [hRES]
          exact Wk.refl _
    · rw [if_pos ⟨rfl, rfl⟩] at hRES
      simp -implicitDefEqProofs [go_sem]
      refine goC_pure _ km (by simp -implicitDefEqProofs [go_sem, ro_eC, ro_qA]) ?_
      simp -implicitDefEqProofs [go_sem, rop]
      rw [hRES]
      cases TK <;> exact Wk.refl _
  · rw [if_neg (fun hh => hh (hmay.2 ⟨by grind, by grind, by omega, by omega, fun h => absurd h a7⟩))] at hRES
    simp -implicitDefEqProofs [go_sem, a4', a5, a6, a7]
    refine goC_pure _ kh (by simp -implicitDefEqProofs [go_sem, ro_qA]) ?_
    by_cases b0 : J = 2
    · rw [if_pos b0] at hRES
      simp -implicitDefEqProofs [go_sem, b0]
      refine goC_pure _ kr (by simp -implicitDefEqProofs [go_sem, ro_eC, ro_qA]) ?_
      simp -implicitDefEqProofs [go_sem, rop, ro_eC]
      rw [hRES]
      exact Wk.refl _
    rw [if_neg b0] at hRES
    simp -implicitDefEqProofs [go_sem, b0]
    refine goC_pure _ kx (by simp -implicitDefEqProofs [go_sem, ro_eC]) ?_
    simp -implicitDefEqProofs [go_sem]
    refine goC_pure _ kg (by simp -implicitDefEqProofs [go_sem, ro_qA]) ?_
    by_cases b1 : X = 0
    · rw [if_pos b1] at hRES
      simp -implicitDefEqProofs [go_sem, y5.2 b1, rop]
      rw [hRES]
      exact Wk.agg (.cons (Wk.nil 0 6 true) (.cons (Wk.refl _) .nil))
    have b1' : ¬ gx = 0 := fun h => b1 (y5.1 h)
    rw [if_neg b1, if_neg (fun h => a7 h.1)] at hRES
    simp -implicitDefEqProofs [go_sem, b1', hgl, a7]
    cases hf1 : fitQ u h tol with
    | none =>
      rw [hf1] at kf1 hRES
      cases hf2 : fitQ v h tol with
      | none =>
        rw [hf2] at kf2 hRES
        unfold gfA at kf1 kf2
        simp only at kf1 kf2 hRES
        have e1 : ∀ (n : PQ) (a b : AV), List.drop 7 (eC n ++ [a, b]) = [b] := fun _ _ _ => rfl
        have e2 : ∀ (n : PQ) (a b : AV), List.take 8 (eC n ++ [a, b]) = eC n ++ [a, b] := fun _ _ _ => rfl
        have e3 : ∀ (n : PQ) (a b : AV), (eC n ++ [a, b]).length = 8 := fun _ _ _ => rfl
        have e4 : ∀ (n : PQ) (a b : AV), List.take 6 (eC n ++ [a, b]) = eC n := fun _ _ _ => rfl
        have e5 : ∀ (n : PQ) (a b : AV), List.drop 8 (eC n ++ [a, b]) = [] := fun _ _ _ => rfl
        refine goD_pure _ kf1 (by simp -implicitDefEqProofs [go_sem, ro_eC, ro_qA, roL_append]) ?_
        simp -implicitDefEqProofs [go_sem, e1, e2, e3, e4, e5]
        refine goD_pure _ kf2 (by simp -implicitDefEqProofs [go_sem, ro_eC, ro_qA, roL_append]) ?_
        simp -implicitDefEqProofs [go_sem, e1, e2, e3, e4, e5, rop]
        rw [hRES]
        exact Wk.agg (.cons (Wk.nil 0 6 true) (.cons (Wk.refl _) .nil))
      | some x =>
        obtain ⟨n2, j2⟩ := x
        rw [hf2] at kf2 hRES
        unfold gfA at kf1 kf2
        simp only at kf1 kf2 hRES
        have e1 : ∀ (n : PQ) (a b : AV), List.drop 7 (eC n ++ [a, b]) = [b] := fun _ _ _ => rfl
        have e2 : ∀ (n : PQ) (a b : AV), List.take 8 (eC n ++ [a, b]) = eC n ++ [a, b] := fun _ _ _ => rfl
        have e3 : ∀ (n : PQ) (a b : AV), (eC n ++ [a, b]).length = 8 := fun _ _ _ => rfl
        have e4 : ∀ (n : PQ) (a b : AV), List.take 6 (eC n ++ [a, b]) = eC n := fun _ _ _ => rfl
        have e5 : ∀ (n : PQ) (a b : AV), List.drop 8 (eC n ++ [a, b]) = [] := fun _ _ _ => rfl
        refine goD_pure _ kf1 (by simp -implicitDefEqProofs [go_sem, ro_eC, ro_qA, roL_append]) ?_
        simp -implicitDefEqProofs [go_sem, e1, e2, e3, e4, e5]
        refine goD_pure _ kf2 (by simp -implicitDefEqProofs [go_sem, ro_eC, ro_qA, roL_append]) ?_
        simp -implicitDefEqProofs [go_sem, e1, e2, e3, e4, e5, rop]
        rw [hRES]
        exact Wk.agg (.cons (Wk.nil 0 6 true) (.cons (Wk.refl _) .nil))
    | some x =>
      obtain ⟨n1, j1⟩ := x
      rw [hf1] at kf1 hRES
      cases hf2 : fitQ v h tol with
      | none =>
        rw [hf2] at kf2 hRES
        unfold gfA at kf1 kf2
        simp only at kf1 kf2 hRES
        have e1 : ∀ (n : PQ) (a b : AV), List.drop 7 (eC n ++ [a, b]) = [b] := fun _ _ _ => rfl
        have e2 : ∀ (n : PQ) (a b : AV), List.take 8 (eC n ++ [a, b]) = eC n ++ [a, b] := fun _ _ _ => rfl
        have e3 : ∀ (n : PQ) (a b : AV), (eC n ++ [a, b]).length = 8 := fun _ _ _ => rfl
        have e4 : ∀ (n : PQ) (a b : AV), List.take 6 (eC n ++ [a, b]) = eC n := fun _ _ _ => rfl
        have e5 : ∀ (n : PQ) (a b : AV), List.drop 8 (eC n ++ [a, b]) = [] := fun _ _ _ => rfl
        refine goD_pure _ kf1 (by simp -implicitDefEqProofs [go_sem, ro_eC, ro_qA, roL_append]) ?_
        simp -implicitDefEqProofs [go_sem, e1, e2, e3, e4, e5]
        refine goD_pure _ kf2 (by simp -implicitDefEqProofs [go_sem, ro_eC, ro_qA, roL_append]) ?_
        simp -implicitDefEqProofs [go_sem, e1, e2, e3, e4, e5, rop]
        rw [hRES]
        exact Wk.agg (.cons (Wk.nil 0 6 true) (.cons (Wk.refl _) .nil))
      | some x =>
        obtain ⟨n2, j2⟩ := x
        rw [hf2] at kf2 hRES
        unfold gfA at kf1 kf2
        simp only at kf1 kf2 hRES
        have e1 : ∀ (n : PQ) (a b : AV), List.drop 7 (eC n ++ [a, b]) = [b] := fun _ _ _ => rfl
        have e2 : ∀ (n : PQ) (a b : AV), List.take 8 (eC n ++ [a, b]) = eC n ++ [a, b] := fun _ _ _ => rfl
        have e3 : ∀ (n : PQ) (a b : AV), (eC n ++ [a, b]).length = 8 := fun _ _ _ => rfl
        have e4 : ∀ (n : PQ) (a b : AV), List.take 6 (eC n ++ [a, b]) = eC n := fun _ _ _ => rfl
        have e5 : ∀ (n : PQ) (a b : AV), List.drop 8 (eC n ++ [a, b]) = [] := fun _ _ _ => rfl
        refine goD_pure _ kf1 (by simp -implicitDefEqProofs [go_sem, ro_eC, ro_qA, roL_append]) ?_
        simp -implicitDefEqProofs [go_sem, e1, e2, e3, e4, e5]
        refine goD_pure _ kf2 (by simp -implicitDefEqProofs [go_sem, ro_eC, ro_qA, roL_append]) ?_
        have s1 := hfs1 n1 j1 hf1
        have s2 := hfs2 n2 j2 hf2
        have u1 := hsd n1
        have u2 := hsd n2
        have hr := hround (sided n1 left) (sided n2 left) (by rw [sz_sided]; omega) (by rw [sz_sided]; omega)
        generalize hRL : p :: List.map p.add (if left then [sided n1 left, sided n2 left].reverse else [sided n1 left, sided n2 left]) = RL at hr hRES
        simp only [List.map_cons, List.map_nil, eA_eC] at u1 u2 hr
        generalize sided n1 left = A at *
        generalize sided n2 left = B at *
        simp -implicitDefEqProofs [go_sem, e1, e2, e3, e4, e5]
        refine goD_pure _ u1 (by simp -implicitDefEqProofs [go_sem, ro_eC]) ?_
        simp -implicitDefEqProofs [go_sem, e1, e2, e3, e4, e5]
        refine goD_pure _ u2 (by simp -implicitDefEqProofs [go_sem, ro_eC]) ?_
        simp -implicitDefEqProofs [go_sem]
        refine goD_dead [68] _ (by kernel_rfl) hr (by simp -implicitDefEqProofs [go_sem]) (by simp -implicitDefEqProofs [go_sem, ro_eC]) (by simp -implicitDefEqProofs [go_sem]) (by simp -implicitDefEqProofs [go_sem]) ?_
        simp -implicitDefEqProofs [go_sem, rop, ro_eC]
        rw [hRES]
        exact Wk.refl _
set_option maxHeartbeats 16000000 in
theorem joinpieces_pure (c : CR) (s : SR) (hc : c.Lm) (hs : s.Lm) : Pure Tryz.prog 7 [c.av, s.av] (.bool true) := by
  have hw := jwakes_pure
  obtain ⟨b, hl, hb⟩ := light20_pure c s hc hs
  refine Pure.of_go mixed Tryz.func7 rfl (rs := [.tmp 4]) rfl (by kernel_rfl) (by simp -implicitDefEqProofs [go_sem]) ?_
  cases b
  · unfold CR.av CR.cs SR.av SR.cs PR.cs at *
    simp -implicitDefEqProofs [go_sem]
    refine goC_pure _ hl (by simp -implicitDefEqProofs [go_sem]) ?_
    simp -implicitDefEqProofs [go_sem]
    refine goC_pure _ hw (by simp -implicitDefEqProofs [go_sem]) ?_
    simp -implicitDefEqProofs [go_sem]
  · obtain ⟨kc, ks⟩ := hb rfl
    have zp := kc.p.sz
    have zu := kc.u.sz
    have zv := kc.v.sz
    have zh := ks.h
    have zm := ks.miter.sz
    have hpc := piece_pure c.p c.u c.v s kc.p kc.u kc.v ks
    have hpe := epiece_pure c.p.val c.u.val c.v.val s zp zu zv ks
    have hz := piece_sz zp zu zv zh (p := c.p.val) (u := c.u.val) (v := c.v.val)
    obtain ⟨l, e, hle⟩ : ∃ l e, pieceQ c.p.val c.u.val c.v.val s = (l, e) := ⟨_, _, rfl⟩
    rw [hle] at hpc hpe hz
    obtain ⟨hz1, hz2⟩ := hz
    simp only at hz1 hz2
    have i1 := ein_pure c.p kc.p.mono
    have i2 := ein_pure c.u kc.u.mono
    have i3 := ein_pure c.v kc.v.mono
    have i4 := estyle_pure s ks
    have i5 := finr s.miter ks.miter.mono
    have ko := eouts_pure l (by omega) (fun p hp => by have := hz2 p hp; omega)
    have kln := lines_self l (by omega) (fun p hp => by have := hz2 p hp; omega)
    have s1 := sharp_pure c.u c.v s.miter kc.u.mono kc.v.mono ks.miter.mono
    have s2 := esharp_pure c.u.val c.v.val s.miter.val (by omega) (by omega) (by omega)
    clear hle
    generalize decide (sharpQ c.u.val c.v.val s.miter.val) = SH at *
    unfold stA at *
    have q1 : (stC s.width.val s.miter.val s.tol.val s.cap s.join).length = 11 := rfl
    have q3 : (stC s.width.val s.miter.val s.tol.val s.cap s.join).take 11 = stC s.width.val s.miter.val s.tol.val s.cap s.join := rfl
    have q4 : (stC s.width.val s.miter.val s.tol.val s.cap s.join).drop 11 = [] := rfl
    have q5 := ro_stC s.width.val s.miter.val s.tol.val s.cap s.join
    generalize stC s.width.val s.miter.val s.tol.val s.cap s.join = S at *
    unfold pieceA pL etA eL at *
    simp only [eA_eC, fA_fC] at *
    unfold CR.av CR.cs SR.av SR.cs PR.av PR.cs RQ.av at *
    simp -implicitDefEqProofs [go_sem]
    refine goC_pure _ hl (by simp -implicitDefEqProofs [go_sem]) ?_
    simp -implicitDefEqProofs [go_sem]
    refine goC_pure _ hpc (by simp -implicitDefEqProofs [go_sem]) ?_
    simp -implicitDefEqProofs [go_sem]
    refine goD_pure _ i2 (by simp -implicitDefEqProofs [go_sem]) ?_
    simp -implicitDefEqProofs [go_sem]
    refine goD_pure _ i3 (by simp -implicitDefEqProofs [go_sem]) ?_
    simp -implicitDefEqProofs [go_sem]
    refine goD_pure _ i1 (by simp -implicitDefEqProofs [go_sem]) ?_
    simp -implicitDefEqProofs [go_sem]
    refine goD_pure _ i4 (by simp -implicitDefEqProofs [go_sem]) ?_
    simp -implicitDefEqProofs [go_sem]
    refine goD_pure _ hpe (by simp -implicitDefEqProofs [go_sem, ro_eC, q5]) ?_
    simp -implicitDefEqProofs [go_sem]
    refine goD_pure _ ko (by simp -implicitDefEqProofs [go_sem]) ?_
    simp -implicitDefEqProofs [go_sem]
    refine goD_pure _ kln (by simp -implicitDefEqProofs [go_sem]) ?_
    simp -implicitDefEqProofs [go_sem]
    refine goD_pure _ s1 (by simp -implicitDefEqProofs [go_sem]) ?_
    simp -implicitDefEqProofs [go_sem]
    refine goD_pure _ i5 (by simp -implicitDefEqProofs [go_sem]) ?_
    simp -implicitDefEqProofs [go_sem]
    refine goD_pure _ s2 (by simp -implicitDefEqProofs [go_sem, ro_eC, ro_fC]) ?_
    simp -implicitDefEqProofs [go_sem]
    refine goD_pure _ hw (by simp -implicitDefEqProofs [go_sem]) ?_
    simp -implicitDefEqProofs [go_sem]
end Go.Proofs.YtgiheamjhoiojaaGreat
