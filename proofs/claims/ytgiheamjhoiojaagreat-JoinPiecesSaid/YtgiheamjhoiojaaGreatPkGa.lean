import Derived.Test.YtgiheamjhoiojaaGreatPkJa
import Derived.Test.YtgiheamjhoiojaaGreatPkPa
import Derived.Test.YtgiheamjhoiojaaGreatPkFb
import Derived.Test.YtgiheamjhoiojaaGreatPkDa
namespace Go.Proofs.YtgiheamjhoiojaaGreat
open Go Go.Proofs
set_option linter.unusedSimpArgs false
set_option linter.unusedVariables false
set_option maxRecDepth 20000
def TipR (o : Option (List PQ)) (r : AV) (f1 : Nat → BS) : Prop := match o with
  | some l => ∃ id k m, r = .tup [.own 6 id 0 k, .int .i64 0] ∧ f1 id = .live 6 m ∧ roL m ∧ lisL l k m
  | none => r = .tup [.sl 0 true [], .int .i64 24]
theorem tipK_step {u v : PQ} {h tol : Rat} {left : Bool} {k : Nat} (hk : k ≤ 4096) : tipK u v h tol left (4097 - k) k = match tipQ u v h tol left k with
    | some l => some l
    | none => tipK u v h tol left (4097 - (k + 1)) (k + 1) := by
  rw [show 4097 - k = (4097 - (k + 1)) + 1 by omega]
  rfl
theorem sz_sided (n : PQ) (left : Bool) : (sided n left).sz = n.sz := by
  cases left
  · exact PQ.sz_neg n
  · rfl
theorem tipQ_eq (u v : PQ) (h tol : Rat) (left : Bool) (k : Nat) : tipQ u v h tol left k =
    if sided (offQ u h k) left = ⟨0, 0⟩ ∨ sided (offQ v h k) left = ⟨0, 0⟩ then none else
    match facQ ((sided (offQ u h k) left).add (sided (offQ v h k) left)) (sided u.rot left) (sided v.rot left) h k with
    | none => none
    | some r => if r < half then none else
      if atl ((sided (offQ u h k) left).dot (sided u.rot left)) (h - tol) ((sided u.rot left).dot (sided u.rot left)) ∧
        atl ((((sided (offQ u h k) left).add (sided (offQ v h k) left)).scale r).dot (sided u.rot left)) (h - tol) ((sided u.rot left).dot (sided u.rot left)) ∧
        atl ((sided (offQ v h k) left).dot (sided v.rot left)) (h - tol) ((sided v.rot left).dot (sided v.rot left)) ∧
        atl ((((sided (offQ u h k) left).add (sided (offQ v h k) left)).scale r).dot (sided v.rot left)) (h - tol) ((sided v.rot left).dot (sided v.rot left)) then
        some [sided (offQ u h k) left, ((sided (offQ u h k) left).add (sided (offQ v h k) left)).scale r, sided (offQ v h k) left] else none := rfl
theorem facR_sz {s o : PQ} {h : Rat} {k : Nat} (hk : k ≤ 4096) (hs : s.sz ≤ 1000) (ho : o.sz ≤ 10) (hh : sz h ≤ 10) : sz (facR s o h k) ≤ 4400 := by
  have y1 := PQ.sz_dot s o
  have y2 := PQ.sz_dot o o
  have y3 := sz_mul h h
  have y4 := sz_mul (h * h) (o.dot o)
  have y5 := sz_mul (s.dot o) (s.dot o)
  have y6 := sz_div (h * h * o.dot o) (s.dot o * s.dot o)
  have y7 := sz_lowQ (q := h * h * o.dot o / (s.dot o * s.dot o)) hk
  unfold facR; omega
theorem facQ_sz {s ou ov : PQ} {h r : Rat} {k : Nat} (hf : facQ s ou ov h k = some r) (hk : k ≤ 4096) (hs : s.sz ≤ 1000) (ho : ou.sz ≤ 10) (hv : ov.sz ≤ 10) (hh : sz h ≤ 10) : sz r ≤ 4400 := by
  have h1 := facR_sz (s := s) (o := ou) (h := h) hk hs ho hh
  have h2 := facR_sz (s := s) (o := ov) (h := h) hk hs hv hh
  rw [facQ_eq] at hf
  unfold facI at hf
  by_cases c1 : 0 < s.dot ov
  · rw [if_pos c1] at hf
    by_cases c2 : 0 < s.dot ou
    · simp only [if_pos c2, Option.some.injEq] at hf
      rw [← hf]
      split <;> omega
    · simp only [if_neg c2, Option.some.injEq] at hf
      rw [← hf]; exact h2
  · rw [if_neg c1] at hf
    by_cases c2 : 0 < s.dot ou
    · simp only [if_pos c2, Option.some.injEq] at hf
      rw [← hf]; exact h1
    · simp only [if_neg c2] at hf
      cases hf
def TurnP (left : Bool) (a : PQ) : Prop := match left with
  | true => Pure Tryz.prog 154 [.agg (pC a)] (.agg (pC (sided a true)))
  | false => Pure Tryz.prog 155 [.any, .agg (pC a)] (.agg (pC (sided a false)))
theorem turnP (left : Bool) (a : PQ) (ha : a.sz ≤ 4294967296) : TurnP left a := by
  cases left
  · exact round_pure a ha
  · exact same_pure a
theorem go_turn {z : Bool} {ne : Nat} {Q : AEx → St → Prop} {k : List Itm} {t : Nat → AV} {f : Nat → BS} {n : Nat} {bq : Bool} {d : Option Tmp} {left : Bool} {a : PQ} (ht : TurnP left a) (h : go Tryz.prog z ne Q k (putA t d (.agg (pC (sided a left)))) f n) :
    goCall Tryz.prog z ne Q true bq (calV (turnF left) [.agg (pC a)]) (yldV (turnF left)) [.agg (pC a)] d k t f n := by
  unfold TurnP at ht
  cases left
  · simp -implicitDefEqProofs [go_sem, turnF]
    exact goD_pure _ ht (by simp -implicitDefEqProofs [go_sem, ro_pC]) h
  · simp -implicitDefEqProofs [go_sem, turnF]
    exact goD_pure _ ht (by simp -implicitDefEqProofs [go_sem, ro_pC]) h
set_option maxHeartbeats 16000000 in
theorem tip_ca (u v : PR) (h : Rat) (tol : RQ) (left : Bool) (hu : u.In 1) (hv : v.In 1) (hu0 : u.val ≠ ⟨0, 0⟩) (hv0 : v.val ≠ ⟨0, 0⟩) (hh : sz h ≤ 1) (h0 : 0 < h) (ht : tol.In 1) :
    CA Tryz.prog 96 [.rp (cornL u v (sided u.val.rot left) (sided v.val.rot left) h tol (turnF left))] (fun _ => .fresh) 0 fun r f1 _ => TipR (tipK u.val v.val h tol.val left 4097 0) r f1 := by
  have zu := hu.sz
  have zv := hv.sz
  have hx := ro_turnF left
  obtain ⟨ou, hou⟩ : ∃ ou, ou = sided u.val.rot left := ⟨_, rfl⟩
  obtain ⟨ov, hov⟩ : ∃ ov, ov = sided v.val.rot left := ⟨_, rfl⟩
  have zou : ou.sz ≤ 1 := by rw [hou, sz_sided]; exact Nat.le_trans (PQ.sz_rot _) zu
  have zov : ov.sz ≤ 1 := by rw [hov, sz_sided]; exact Nat.le_trans (PQ.sz_rot _) zv
  have hAt := fun (k : Nat) (hk : k ≤ 4096) => nat_pure u h k hk hu.mono hu0 (by omega) h0
  have hBt := fun (k : Nat) (hk : k ≤ 4096) => nat_pure v h k hk hv.mono hv0 (by omega) h0
  have hfar := fun (p o : PQ) (hp : p.sz ≤ 1048576) (ho : o.sz ≤ 1048576) => far_pure u v ou ov h tol (turnF left) p o hp ho (by omega) ht.mono
  have hfac := fun (s : PQ) (k : Nat) (hk : k ≤ 4096) (hs : s.sz ≤ 1000) => factor_pure u v ou ov h tol (turnF left) s k hk hs (by omega) (by omega) (by omega) hx
  have k1 := rof_pure 1 2 (by omega) (by omega) (by omega)
  rw [← half_eq] at k1
  have zh := sz_half
  have hC := ro_cornL u v ou ov h tol (turnF left) hx
  rw [← hou, ← hov]
  have hT := fun (k : Nat) => tipQ_eq u.val v.val h tol.val left k
  simp only [← hou, ← hov] at hT
  clear hx
  obtain ⟨C, hCe⟩ : ∃ C, C = cornL u v ou ov h tol (turnF left) := ⟨_, rfl⟩
  have f1 : C.take 6 = u.cs := by rw [hCe]; rfl
  have f2 : (C.drop 6).take 6 = v.cs := by rw [hCe]; rfl
  have f3 : (C.drop 12).take 6 = pC ou := by rw [hCe]; rfl
  have f4 : (C.drop 18).take 6 = pC ov := by rw [hCe]; rfl
  have f5 : (C.drop 24).take 3 = rC h := by rw [hCe]; rfl
  have f6 : C.drop 30 = [turnF left] := by rw [hCe]; rfl
  have f7 : C.length = 31 := by rw [hCe]; rfl
  simp only [← hCe] at hfar hfac hC ⊢
  clear hCe
  refine CA.of_go mixed Tryz.func96 rfl (rs := [.tmp 2, .tmp 3]) rfl (by kernel_rfl) ?_
  simp only [PR.av_cs, rA_rC, pA_pC] at *
  have r1 := u.ro_cs
  have r2 := v.ro_cs
  simp -implicitDefEqProofs [go_sem, f7]
  have u1 := (renL_ro (nm []) _ hC).symm
  have u2 := cloL_ro (n := 0) _ hC
  refine go_loopN 0 (α := {k : Nat // k ≤ 4097 ∧ tipK u.val v.val h tol.val left 4097 0 = tipK u.val v.val h tol.val left (4097 - k) k}) (fun k => [(0, .rp C), (12, .int .i64 k.1)])
    (fun k => []) (fun k => 4097 - k.1) ⟨0, by omega, rfl⟩ [] (by simp) (by simp) (by omega) (by simp -implicitDefEqProofs [go_sem]; exact ⟨u1, u2⟩) (by simp) fun ⟨k, hk, hfk⟩ => ?_
  simp -implicitDefEqProofs [go_sem]
  refine ⟨fun h4 => ?_, fun h4 => ?_⟩
  · have hk' : k ≤ 4096 := by omega
    have ek : IntKind.i64.wrap ((k : Int) + 1) = (k + 1 : Nat) := by rw [w64 (by omega)]; omega
    have hst := tipK_step (u := u.val) (v := v.val) (h := h) (tol := tol.val) (left := left) hk'
    have hTk := hT k
    have gA := hAt k hk'
    have gB := hBt k hk'
    have za := sz_off (v := u.val) (h := h) hk'
    have zb := sz_off (v := v.val) (h := h) hk'
    have tA := turnP left (offQ u.val h k) (by omega)
    have tB := turnP left (offQ v.val h k) (by omega)
    have zA : (sided (offQ u.val h k) left).sz ≤ 268 := by rw [sz_sided]; omega
    have zB : (sided (offQ v.val h k) left).sz ≤ 268 := by rw [sz_sided]; omega
    have again : tipQ u.val v.val h tol.val left k = none → tipK u.val v.val h tol.val left 4097 0 = tipK u.val v.val h tol.val left (4097 - (k + 1)) (k + 1) := fun e => by rw [hfk, hst, e]
    have done : ∀ l, tipQ u.val v.val h tol.val left k = some l → tipK u.val v.val h tol.val left 4097 0 = some l := fun l e => by rw [hfk, hst, e]
    generalize offQ u.val h k = a at *
    generalize offQ v.val h k = b at *
    simp -implicitDefEqProofs [go_sem, f1, f2, f3, f4, f5, f6, f7]
    refine goD_pure _ gA (by simp -implicitDefEqProofs [go_sem, r1, ro_rC]) ?_
    simp -implicitDefEqProofs [go_sem, f1, f2, f3, f4, f5, f6, f7]
    refine goD_pure _ gB (by simp -implicitDefEqProofs [go_sem, r2, ro_rC]) ?_
    simp -implicitDefEqProofs [go_sem, f1, f2, f3, f4, f5, f6, f7]
    refine go_turn tA ?_
    simp -implicitDefEqProofs [go_sem, f1, f2, f3, f4, f5, f6, f7]
    refine go_turn tB ?_
    generalize sided a left = A at *
    generalize sided b left = B at *
    have gNA := jnoughtq A (by omega)
    have gNB := jnoughtq B (by omega)
    simp only [pA_pC] at gNA gNB
    simp -implicitDefEqProofs [go_sem, f1, f2, f3, f4, f5, f6, f7]
    refine goC_pure _ gNA (by simp -implicitDefEqProofs [go_sem, ro_pC]) ?_
    by_cases a1 : A = ⟨0, 0⟩
    · have hn := hTk.trans (if_pos (.inl a1))
      simp -implicitDefEqProofs [go_sem, a1, ek]
      exact go_again ⟨k + 1, by omega, again hn⟩ (by simp only; omega) [] (by simp) (by simp) (by simp) (by simp -implicitDefEqProofs [go_sem]; exact ⟨u1, u2⟩) (by simp)
    · simp -implicitDefEqProofs [go_sem, a1]
      refine goC_pure _ gNB (by simp -implicitDefEqProofs [go_sem, ro_pC]) ?_
      by_cases a2 : B = ⟨0, 0⟩
      · have hn := hTk.trans (if_pos (.inr a2))
        simp -implicitDefEqProofs [go_sem, a2, ek]
        exact go_again ⟨k + 1, by omega, again hn⟩ (by simp only; omega) [] (by simp) (by simp) (by simp) (by simp -implicitDefEqProofs [go_sem]; exact ⟨u1, u2⟩) (by simp)
      · have hT2 := hTk.trans (if_neg (fun h => h.elim a1 a2))
        have gS := paddq A B (by omega) (by omega)
        have zS := PQ.sz_add A B
        have gF := hfac (A.add B) k hk' (by omega)
        generalize A.add B = S at *
        simp only [pA_pC] at gS
        simp -implicitDefEqProofs [go_sem, a2]
        refine goC_pure _ gS (by simp -implicitDefEqProofs [go_sem, ro_pC]) ?_
        simp -implicitDefEqProofs [go_sem]
        refine goC_pure _ gF (by simp -implicitDefEqProofs [go_sem, ro_pC, hC]) ?_
        cases hF : facQ S ou ov h k with
        | none =>
          rw [hF] at hT2
          have hn : tipQ u.val v.val h tol.val left k = none := hT2
          simp -implicitDefEqProofs [go_sem, facA, rZ, ek]
          exact go_again ⟨k + 1, by omega, again hn⟩ (by simp only; omega) [] (by simp) (by simp) (by simp) (by simp -implicitDefEqProofs [go_sem]; exact ⟨u1, u2⟩) (by simp)
        | some r =>
          rw [hF] at hT2
          simp only at hT2
          have zr : sz r ≤ 4400 := facQ_sz hF hk' (by omega) (by omega) (by omega) (by omega)
          have gC := rcmpq r half (by omega) (by omega)
          have zC := cmpQ_lt (x := r) (y := half)
          generalize cmpQ r half = cm at *
          simp only [rA_rC] at gC
          simp -implicitDefEqProofs [go_sem, facA, rA_rC]
          refine goD_pure _ k1 (by simp -implicitDefEqProofs [go_sem]) ?_
          simp -implicitDefEqProofs [go_sem]
          refine goD_pure _ gC (by simp -implicitDefEqProofs [go_sem, ro_rC]) ?_
          by_cases a3 : r < half
          · have hn := hT2.trans (if_pos a3)
            simp -implicitDefEqProofs [go_sem, zC.2 a3, ek]
            exact go_again ⟨k + 1, by omega, again hn⟩ (by simp only; omega) [] (by simp) (by simp) (by simp) (by simp -implicitDefEqProofs [go_sem]; exact ⟨u1, u2⟩) (by simp)
          · have hT3 := hT2.trans (if_neg a3)
            have a3' : ¬ cm < 0 := fun hh => a3 (zC.1 hh)
            have gT := pscaleq S r (by omega) (by omega)
            have zT := PQ.sz_scale S r
            generalize S.scale r = T at *
            have q1 := hfar A ou (by omega) (by omega)
            have q2 := hfar T ou (by omega) (by omega)
            have q3 := hfar B ov (by omega) (by omega)
            have q4 := hfar T ov (by omega) (by omega)
            simp only [pA_pC, rA_rC] at gT
            simp -implicitDefEqProofs [go_sem, a3']
            refine goC_pure _ gT (by simp -implicitDefEqProofs [go_sem, ro_pC, ro_rC]) ?_
            simp -implicitDefEqProofs [go_sem, f1, f2, f3, f4, f5, f6, f7]
            refine goD_pure _ q1 (by simp -implicitDefEqProofs [go_sem, ro_pC, hC]) ?_
            by_cases b1 : atl (A.dot ou) (h - tol.val) (ou.dot ou)
            · simp -implicitDefEqProofs [go_sem, b1, f1, f2, f3, f4, f5, f6, f7]
              refine goD_pure _ q2 (by simp -implicitDefEqProofs [go_sem, ro_pC, hC]) ?_
              by_cases b2 : atl (T.dot ou) (h - tol.val) (ou.dot ou)
              · simp -implicitDefEqProofs [go_sem, b2, f1, f2, f3, f4, f5, f6, f7]
                refine goD_pure _ q3 (by simp -implicitDefEqProofs [go_sem, ro_pC, hC]) ?_
                by_cases b3 : atl (B.dot ov) (h - tol.val) (ov.dot ov)
                · simp -implicitDefEqProofs [go_sem, b3, f1, f2, f3, f4, f5, f6, f7]
                  refine goD_pure _ q4 (by simp -implicitDefEqProofs [go_sem, ro_pC, hC]) ?_
                  by_cases b4 : atl (T.dot ov) (h - tol.val) (ov.dot ov)
                  · have hn := done _ (hT3.trans (if_pos ⟨b1, b2, b3, b4⟩))
                    rw [show (fun r f1 (x : Nat) => TipR (tipK u.val v.val h tol.val left 4097 0) r f1) = fun r f1 x => TipR (some [A, T, B]) r f1 by rw [hn]]
                    simp -implicitDefEqProofs [go_sem, b4]
                    exact ⟨91, 3, [.agg (pC A), .agg (pC T), .agg (pC B)], rfl, by simp -implicitDefEqProofs [go_sem], by simp -implicitDefEqProofs [go_sem, ro_pC], rfl, rfl⟩
                  · have hn := hT3.trans (if_neg (fun h => b4 h.2.2.2))
                    simp -implicitDefEqProofs [go_sem, b4, ek]
                    exact go_again ⟨k + 1, by omega, again hn⟩ (by simp only; omega) [] (by simp) (by simp) (by simp) (by simp -implicitDefEqProofs [go_sem]; exact ⟨u1, u2⟩) (by simp)
                · have hn := hT3.trans (if_neg (fun h => b3 h.2.2.1))
                  simp -implicitDefEqProofs [go_sem, b3, ek]
                  exact go_again ⟨k + 1, by omega, again hn⟩ (by simp only; omega) [] (by simp) (by simp) (by simp) (by simp -implicitDefEqProofs [go_sem]; exact ⟨u1, u2⟩) (by simp)
              · have hn := hT3.trans (if_neg (fun h => b2 h.2.1))
                simp -implicitDefEqProofs [go_sem, b2, ek]
                exact go_again ⟨k + 1, by omega, again hn⟩ (by simp only; omega) [] (by simp) (by simp) (by simp) (by simp -implicitDefEqProofs [go_sem]; exact ⟨u1, u2⟩) (by simp)
            · have hn := hT3.trans (if_neg (fun h => b1 h.1))
              simp -implicitDefEqProofs [go_sem, b1, ek]
              exact go_again ⟨k + 1, by omega, again hn⟩ (by simp only; omega) [] (by simp) (by simp) (by simp) (by simp -implicitDefEqProofs [go_sem]; exact ⟨u1, u2⟩) (by simp)
  · have hk' : k = 4097 := by omega
    subst hk'
    rw [show tipK u.val v.val h tol.val left 4097 0 = none from hfk]
    simp -implicitDefEqProofs [go_sem, TipR]
theorem tip_mk (u v : PR) (h : Rat) (tol : RQ) (left : Bool) (hu : u.In 1) (hv : v.In 1) (hu0 : u.val ≠ ⟨0, 0⟩) (hv0 : v.val ≠ ⟨0, 0⟩) (hh : sz h ≤ 1) (h0 : 0 < h) (ht : tol.In 1) {l : List PQ} (hl : tipK u.val v.val h tol.val left 4097 0 = some l) :
    MkT Tryz.prog 96 [.rp (cornL u v (sided u.val.rot left) (sided v.val.rot left) h tol (turnF left))] 6 0 (lisL l) :=
  CA.mono (tip_ca u v h tol left hu hv hu0 hv0 hh h0 ht) fun r f1 _ hr => by rw [hl] at hr; exact hr
theorem tip_none (u v : PR) (h : Rat) (tol : RQ) (left : Bool) (hu : u.In 1) (hv : v.In 1) (hu0 : u.val ≠ ⟨0, 0⟩) (hv0 : v.val ≠ ⟨0, 0⟩) (hh : sz h ≤ 1) (h0 : 0 < h) (ht : tol.In 1) (hl : tipK u.val v.val h tol.val left 4097 0 = none) :
    Pure Tryz.prog 96 [.rp (cornL u v (sided u.val.rot left) (sided v.val.rot left) h tol (turnF left))] (.tup [.sl 0 true [], .int .i64 24]) := by
  refine Pure.of_ca (by simp -implicitDefEqProofs [go_sem]) (CA.mono (tip_ca u v h tol left hu hv hu0 hv0 hh h0 ht) fun r f1 _ hr => ?_)
  rw [hl] at hr
  have hr' : r = .tup [.sl 0 true [], .int .i64 24] := hr
  subst hr'
  simp -implicitDefEqProofs [go_sem]
  exact Wk.refl _
theorem rev2_inp (x y : PQ) : InP Tryz.prog 97 [.own 6 0 0 2] 6 [.agg (pC x), .agg (pC y)] (.tup []) [.agg (pC y), .agg (pC x)] := by
  refine CA.of_go mixed Tryz.func97 rfl (rs := []) rfl (by kernel_rfl) ?_
  have w1 : IntKind.i64.wrap 1 = 1 := rfl
  have w0 : IntKind.i64.wrap 0 = 0 := rfl
  simp -implicitDefEqProofs [go_sem, w1, w0]
  refine go_loopN 1 (α := {k : Nat // k ≤ 1}) (fun k => [(0, .own 6 0 0 2), (2, .int .i64 k.1), (3, .int .i64 (1 - k.1 : Int))]) (fun k => [(0, .live 6 (if k.1 = 0 then [.agg (pC x), .agg (pC y)] else [.agg (pC y), .agg (pC x)]))]) (fun k => 1 - k.1) ⟨0, by omega⟩ [] (by simp) (by simp) (by omega) (by simp -implicitDefEqProofs [go_sem]) (by simp -implicitDefEqProofs [go_sem]) fun ⟨k, hk⟩ => ?_
  rcases (show k = 0 ∨ k = 1 by omega) with rfl | rfl
  · simp -implicitDefEqProofs [go_sem, w1, w0]
    exact go_again ⟨1, by omega⟩ (by simp only; omega) [] (by simp) (by simp) (by simp) (by simp -implicitDefEqProofs [go_sem]) (by simp -implicitDefEqProofs [go_sem])
  · simp -implicitDefEqProofs [go_sem]
theorem rev3_inp (x m y : PQ) : InP Tryz.prog 97 [.own 6 0 0 3] 6 [.agg (pC x), .agg (pC m), .agg (pC y)] (.tup []) [.agg (pC y), .agg (pC m), .agg (pC x)] := by
  refine CA.of_go mixed Tryz.func97 rfl (rs := []) rfl (by kernel_rfl) ?_
  have w2 : IntKind.i64.wrap 2 = 2 := rfl
  have w1 : IntKind.i64.wrap 1 = 1 := rfl
  have w0 : IntKind.i64.wrap 0 = 0 := rfl
  simp -implicitDefEqProofs [go_sem, w1, w0, w2]
  refine go_loopN 1 (α := {k : Nat // k ≤ 1}) (fun k => [(0, .own 6 0 0 3), (2, .int .i64 k.1), (3, .int .i64 (2 - k.1 : Int))]) (fun k => [(0, .live 6 (if k.1 = 0 then [.agg (pC x), .agg (pC m), .agg (pC y)] else [.agg (pC y), .agg (pC m), .agg (pC x)]))]) (fun k => 1 - k.1) ⟨0, by omega⟩ [] (by simp) (by simp) (by omega) (by simp -implicitDefEqProofs [go_sem]) (by simp -implicitDefEqProofs [go_sem]) fun ⟨k, hk⟩ => ?_
  rcases (show k = 0 ∨ k = 1 by omega) with rfl | rfl
  · simp -implicitDefEqProofs [go_sem, w1, w0, w2]
    exact go_again ⟨1, by omega⟩ (by simp only; omega) [] (by simp) (by simp) (by simp) (by simp -implicitDefEqProofs [go_sem]) (by simp -implicitDefEqProofs [go_sem])
  · simp -implicitDefEqProofs [go_sem]
def outQ (u v : PQ) (m h tol : Rat) (join : Int) (left : Bool) : Option (List PQ) := if join = 0 ∧ sharpQ u v m then tipK u v h tol left 4097 0 else cutJ u v h tol left
def pieceQ (p u v : PQ) (s : SR) : List PQ × Int :=
  if u = ⟨0, 0⟩ ∨ v = ⟨0, 0⟩ then ([], 12) else if ¬ mayJ s then ([], 1) else if s.join = 2 then rnd p s.h s.tol.val else if u.cross v = 0 then ([], 0) else
  match outQ u v s.miter.val s.h s.tol.val s.join (decide (u.cross v < 0)) with
  | none => ([], 24)
  | some l => (p :: (if u.cross v < 0 then l.reverse else l).map p.add, 0)
def pieceA (x : List PQ × Int) : AV := .tup [pL x.1, .int .i64 x.2]
theorem ro_pieceA (x : List PQ × Int) : ro (pieceA x) := by unfold pieceA; simp only [ro, roL]; exact ⟨ro_pL _, trivial, trivial⟩
theorem pC_ext (p : PQ) : pC p = [.bool (qc p.x).neg, nA (qc p.x).p, nA (qc p.x).q, .bool (qc p.y).neg, nA (qc p.y).p, nA (qc p.y).q] := rfl
theorem wk_cornL {u v : PR} {ou ov : PQ} {h : Rat} {tol : RQ} {x y : AV} (hx : Wk x y) : WkL (cornL u v ou ov h tol x) (cornL u v ou ov h tol y) := by
  unfold cornL
  iterate 30 refine WkL.cons (Wk.refl _) ?_
  exact .cons hx .nil
def turnO (left : Bool) (id : Nat) : AV := if left then .fn (.func 154) [] [] else .fn (.func 155) [.ptr id 0 0] []
theorem wk_turn (left : Bool) (id : Nat) : Wk (turnO left id) (turnF left) := by
  cases left
  · refine ⟨fun c v h => ?_, fun _ => ro_turnF false⟩
    unfold turnO turnF at *
    simp only [Bool.false_eq_true, if_false, Rv, Rl] at h ⊢
    obtain ⟨a, b, h1, ⟨v1, r, h2, _, h3⟩, h4⟩ := h
    exact ⟨a, b, h1, ⟨v1, r, h2, trivial, h3⟩, h4⟩
  · exact Wk.refl _
theorem tipK_some {u v : PQ} {h tol : Rat} {left : Bool} {l : List PQ} : ∀ f k, tipK u v h tol left f k = some l → ∃ j, k ≤ j ∧ j < k + f ∧ tipQ u v h tol left j = some l
  | 0, _, e => by simp [tipK] at e
  | f + 1, k, e => by
    unfold tipK at e
    split at e
    · rename_i l' hl
      injection e with e; subst e
      exact ⟨k, by omega, by omega, hl⟩
    · obtain ⟨j, h1, h2, h3⟩ := tipK_some f (k + 1) e
      exact ⟨j, by omega, by omega, h3⟩
theorem tipQ_some {u v : PQ} {h tol : Rat} {left : Bool} {k : Nat} {l : List PQ} (e : tipQ u v h tol left k = some l) : ∃ a b r, a = sided (offQ u h k) left ∧ b = sided (offQ v h k) left ∧ a ≠ ⟨0, 0⟩ ∧ b ≠ ⟨0, 0⟩ ∧ facQ (a.add b) (sided u.rot left) (sided v.rot left) h k = some r ∧ ¬ r < half ∧
    atl (a.dot (sided u.rot left)) (h - tol) ((sided u.rot left).dot (sided u.rot left)) ∧ atl (((a.add b).scale r).dot (sided u.rot left)) (h - tol) ((sided u.rot left).dot (sided u.rot left)) ∧
    atl (b.dot (sided v.rot left)) (h - tol) ((sided v.rot left).dot (sided v.rot left)) ∧ atl (((a.add b).scale r).dot (sided v.rot left)) (h - tol) ((sided v.rot left).dot (sided v.rot left)) ∧ l = [a, (a.add b).scale r, b] := by
  rw [tipQ_eq] at e
  split at e
  · cases e
  · rename_i h0
    split at e
    · cases e
    · rename_i r hr
      split at e
      · cases e
      · rename_i h1
        split at e
        · rename_i h2
          injection e with e
          exact ⟨_, _, r, rfl, rfl, fun h => h0 (.inl h), fun h => h0 (.inr h), hr, h1, h2.1, h2.2.1, h2.2.2.1, h2.2.2.2, e.symm⟩
        · cases e
theorem tip_sz {u v : PQ} {h tol : Rat} {left : Bool} {l : List PQ} (hl : tipK u v h tol left 4097 0 = some l) (hu : u.sz ≤ 1) (hv : v.sz ≤ 1) (hh : sz h ≤ 1) : ∃ a t b, l = [a, t, b] ∧ a.sz ≤ 10000 ∧ t.sz ≤ 10000 ∧ b.sz ≤ 10000 := by
  obtain ⟨k, _, hk, hq⟩ := tipK_some _ _ hl
  obtain ⟨a, b, r, rfl, rfl, _, _, hr, _, _, _, _, _, e⟩ := tipQ_some hq
  have h1 := sz_off (v := u) (h := h) (k := k) (by omega)
  have h2 := sz_off (v := v) (h := h) (k := k) (by omega)
  have h3 := sz_sided (offQ u h k) left
  have h4 := sz_sided (offQ v h k) left
  have h5 := PQ.sz_add (sided (offQ u h k) left) (sided (offQ v h k) left)
  have h6 := sz_sided u.rot left
  have h7 := sz_sided v.rot left
  have h8 := PQ.sz_rot u
  have h9 := PQ.sz_rot v
  have h10 := facQ_sz hr (by omega) (by omega) (by omega) (by omega) (by omega)
  have h11 := PQ.sz_scale ((sided (offQ u h k) left).add (sided (offQ v h k) left)) r
  exact ⟨_, _, _, e, by omega, by omega, by omega⟩
theorem cut_sz {u v : PQ} {h tol : Rat} {left : Bool} {l : List PQ} (hl : cutJ u v h tol left = some l) (hu : u.sz ≤ 1) (hv : v.sz ≤ 1) (hh : sz h ≤ 1) : ∃ a b, l = [a, b] ∧ a.sz ≤ 10000 ∧ b.sz ≤ 10000 := by
  obtain ⟨a, b, j, k, e1, e2, e⟩ := cutJ_some hl
  have h1 := fit_sz e1 (by omega) (by omega)
  have h2 := fit_sz e2 (by omega) (by omega)
  exact ⟨_, _, e, by rw [sz_sided]; omega, by rw [sz_sided]; omega⟩
set_option maxHeartbeats 32000000 in
theorem piece_pure (p u v : PR) (s : SR) (hp : p.In 1) (hu : u.In 1) (hv : v.In 1) (hs : s.Sml) :
    Pure Tryz.prog 42 [p.av, u.av, v.av, s.av] (pieceA (pieceQ p.val u.val v.val s)) := by
  have zp := hp.sz
  have zu := hu.sz
  have zv := hv.sz
  have zw := hs.width.sz
  have zt := hs.tol.sz
  have g1 := jnought_pure u hu.mono
  have g2 := jnought_pure v hv.mono
  have g3 := jmay_pure s hs.width.mono hs.miter.mono hs.tol.mono
  have k1 := rof_pure 1 2 (by omega) (by omega) (by omega)
  rw [← half_eq] at k1
  have zh := sz_half
  have k2 := rmul_pure s.width (qc half) (hs.width.mono (m := 1000)).sm (qc_sm (by omega))
  rw [qc_val] at k2
  change Pure _ _ [_, rA half] (rA s.h) at k2
  have k3 := dround_pure p (qc s.h) s.tol hp.mono (qc_in hs.h).mono hs.tol.mono
  rw [qc_val] at k3
  change Pure _ _ [_, rA s.h, _] _ at k3
  have k4 := pcross_pure u v hu.mono hv.mono
  have k5 := rsignq (u.val.cross v.val) (by have := PQ.sz_cross u.val v.val; omega)
  have z5 := sgnQ_eq (x := u.val.cross v.val)
  have z6 := sgnQ_lt (x := u.val.cross v.val)
  have k6 := sharp_pure u v s.miter hu.mono hv.mono hs.miter.mono
  have kp := paddz p hp.mono
  have kq := fun (x : PQ) (hx : x.sz ≤ 10000) => padd_pure p (pc x) hp.mono (pc_in (by omega))
  simp only [pc_val] at kq
  refine Pure.of_ca (ro_pieceA _) (CA.of_go mixed Tryz.func42 rfl (rs := [.tmp 8, .tmp 9]) rfl (by kernel_rfl) ?_)
  obtain ⟨RES, hRES⟩ : ∃ R, R = pieceA (pieceQ p.val u.val v.val s) := ⟨_, rfl⟩
  rw [← hRES]
  unfold pieceQ at hRES
  obtain ⟨J, hJ⟩ : ∃ J, J = s.join := ⟨_, rfl⟩
  obtain ⟨H, hH⟩ : ∃ H, H = s.h := ⟨_, rfl⟩
  have hmi : mayJ s → 0 ≤ s.join ∧ s.join ≤ 2 := fun h => ⟨h.2.2.1, h.2.2.2.1⟩
  rw [← hJ] at hmi hRES
  rw [← hH] at k2 k3 hRES
  have hsav : s.av = .agg [.bool s.width.neg, nA s.width.p, nA s.width.q, .bool s.miter.neg, nA s.miter.p, nA s.miter.q, .int .i64 s.cap, .int .i64 J, .bool s.tol.neg, nA s.tol.p, nA s.tol.q] := by rw [hJ]; rfl
  rw [hsav] at g3 ⊢
  simp only [rA_rC] at *
  unfold pZ at kp
  unfold PR.av RQ.av at *
  simp -implicitDefEqProofs [go_sem]
  refine goC_pure _ g1 (by simp -implicitDefEqProofs [go_sem]) ?_
  by_cases a1 : u.val = ⟨0, 0⟩
  · rw [if_pos (.inl a1)] at hRES
    simp -implicitDefEqProofs [go_sem, a1]
    rw [hRES]
    exact Wk.tup (.cons (Wk.nil 0 6 true) (.cons (Wk.refl _) .nil))
  · simp -implicitDefEqProofs [go_sem, a1]
    refine goC_pure _ g2 (by simp -implicitDefEqProofs [go_sem]) ?_
    by_cases a2 : v.val = ⟨0, 0⟩
    · rw [if_pos (.inr a2)] at hRES
      simp -implicitDefEqProofs [go_sem, a2]
      rw [hRES]
      exact Wk.tup (.cons (Wk.nil 0 6 true) (.cons (Wk.refl _) .nil))
    · rw [if_neg (fun h => h.elim a1 a2)] at hRES
      simp -implicitDefEqProofs [go_sem, a2]
      refine goC_pure _ g3 (by simp -implicitDefEqProofs [go_sem]) ?_
      by_cases a3 : mayJ s
      · rw [if_neg (fun h => h a3)] at hRES
        simp -implicitDefEqProofs [go_sem, a3]
        refine goD_pure _ k1 (by simp -implicitDefEqProofs [go_sem]) ?_
        simp -implicitDefEqProofs [go_sem]
        refine goD_pure _ k2 (by simp -implicitDefEqProofs [go_sem, ro_rC]) ?_
        by_cases a4 : J = 2
        · rw [if_pos a4] at hRES
          simp -implicitDefEqProofs [go_sem, a4]
          refine goC_pure _ k3 (by simp -implicitDefEqProofs [go_sem, ro_rC]) ?_
          have rX := ro_pL (rnd p.val H s.tol.val).1
          unfold pieceA at hRES
          rw [hRES]
          generalize pL (rnd p.val H s.tol.val).1 = X at *
          simp -implicitDefEqProofs [go_sem]
          rw [view_ro _ _ rX]
          exact ⟨fits_ro _ _ rX, rX, Wk.refl _⟩
        · rw [if_neg a4] at hRES
          simp -implicitDefEqProofs [go_sem, a4]
          refine goC_pure _ k4 (by simp -implicitDefEqProofs [go_sem]) ?_
          simp -implicitDefEqProofs [go_sem]
          refine goC_pure _ k5 (by simp -implicitDefEqProofs [go_sem, ro_rC]) ?_
          by_cases a5 : u.val.cross v.val = 0
          · rw [if_pos a5] at hRES
            simp -implicitDefEqProofs [go_sem, z5.2 a5, a5, sgnQ_eq.2 (rfl : (0 : Rat) = 0)]
            rw [hRES]
            exact Wk.tup (.cons (Wk.nil 0 6 true) (.cons (Wk.refl _) .nil))
          · have a5' : ¬ sgnQ (u.val.cross v.val) = 0 := fun hh => a5 (z5.1 hh)
            rw [if_neg a5] at hRES
            have l1 := left_pure u hu.mono
            have l2 := left_pure v hv.mono
            unfold PR.av at l1 l2
            have y1 := PQ.sz_rot u.val
            have y2 := PQ.sz_rot v.val
            have hH0 : 0 < H := by
              have := a3.1
              rw [hH]; unfold SR.h half; grind
            have ht0 : 0 < s.tol.val := a3.2.1
            have hHs : sz H ≤ 1 := by rw [hH]; exact hs.h
            by_cases a6 : u.val.cross v.val < 0
            · rw [decide_eq_true a6] at hRES
              simp only [if_pos a6] at hRES
              simp -implicitDefEqProofs [go_sem, a5', a5, z6.2 a6, a6]
              have m1 := same_pure u.val.rot
              have m2 := same_pure v.val.rot
              simp only [pA_pC] at *
              refine CA.of_go mixed Tryz.func94 rfl (rs := []) rfl (by kernel_rfl) ?_
              simp -implicitDefEqProofs [go_sem, rC_ext, pC_ext]
              refine goD_pure _ l1 (by simp -implicitDefEqProofs [go_sem]) ?_
              simp -implicitDefEqProofs [go_sem, rC_ext, pC_ext]
              refine goD_pure _ m1 (by simp -implicitDefEqProofs [go_sem, ro_pC]) ?_
              simp -implicitDefEqProofs [go_sem, rC_ext, pC_ext]
              refine goD_pure _ l2 (by simp -implicitDefEqProofs [go_sem]) ?_
              simp -implicitDefEqProofs [go_sem, rC_ext, pC_ext]
              refine goD_pure _ m2 (by simp -implicitDefEqProofs [go_sem, ro_pC]) ?_
              by_cases b1 : J = 0
              · simp -implicitDefEqProofs [go_sem, b1]
                refine goC_pure _ k6 (by simp -implicitDefEqProofs [go_sem]) ?_
                by_cases b2 : sharpQ u.val v.val s.miter.val
                · have hout : outQ u.val v.val s.miter.val H s.tol.val J true = tipK u.val v.val H s.tol.val true 4097 0 := if_pos ⟨b1, b2⟩
                  simp -implicitDefEqProofs [go_sem, b2]
                  cases ho : tipK u.val v.val H s.tol.val true 4097 0 with
                  | none =>
                    rw [ho] at hout
                    refine goC_fpure 10 31 (cornL u v (sided u.val.rot true) (sided v.val.rot true) H s.tol (turnO true 10)) _ (by simp -implicitDefEqProofs [go_sem, cornL, turnO, sided, PQ.neg, rC_ext, pC_ext]) (wk_cornL (wk_turn true 10)) (ro_cornL _ _ _ _ _ _ _ (ro_turnF true)) _ (tip_none u v H s.tol true hu hv a1 a2 hHs hH0 hs.tol ho) ?_
                    simp -implicitDefEqProofs [go_sem]
                    rw [hRES, hout]
                    exact Wk.tup (.cons (Wk.nil 0 6 true) (.cons (Wk.refl _) .nil))
                  | some l =>
                    rw [ho] at hout
                    refine goC_fmk 10 31 (cornL u v (sided u.val.rot true) (sided v.val.rot true) H s.tol (turnO true 10)) _ (by simp -implicitDefEqProofs [go_sem, cornL, turnO, sided, PQ.neg, rC_ext, pC_ext]) (wk_cornL (wk_turn true 10)) (ro_cornL _ _ _ _ _ _ _ (ro_turnF true)) (tip_mk u v H s.tol true hu hv a1 a2 hHs hH0 hs.tol ho) fun m l' hm => ?_
                    obtain ⟨rfl, rfl⟩ := hm
                    obtain ⟨a, tt, b, rfl, za, ztt, zb⟩ := tip_sz ho (by omega) (by omega) (by omega)
                    rw [hout] at hRES
                    simp -implicitDefEqProofs [go_sem, z6.2 a6]
                    refine goC_inp 39 (rev3_inp a tt b) (by simp -implicitDefEqProofs [go_sem]) (by simp -implicitDefEqProofs [go_sem, pA_pC]) (by simp -implicitDefEqProofs [go_sem, ro_pC]) (by simp -implicitDefEqProofs [go_sem, ro_pC]) (by simp -implicitDefEqProofs [go_sem]) (.inl (by simp -implicitDefEqProofs [go_sem])) ?_
                    simp -implicitDefEqProofs [go_sem]
                    refine goC_pure _ kp (by simp -implicitDefEqProofs [go_sem]) ?_
                    simp -implicitDefEqProofs [go_sem]
                    obtain ⟨X, hX⟩ : ∃ X : Nat → PQ, X = fun i => List.getD [b, tt, a] i ⟨0, 0⟩ := ⟨_, rfl⟩
                    obtain ⟨O, hO⟩ : ∃ O : Nat → List AV, O = fun i => (p.val :: (List.range i).map fun j => p.val.add (X j)).map pA := ⟨_, rfl⟩
                    have hOr : ∀ i, roL (O i) := fun i => by rw [hO]; exact roL_pA _
                    have hOl : ∀ i, (O i).length = i + 1 := fun i => by rw [hO]; simp
                    have hO0 : O 0 = [.agg (pC p.val)] := by rw [hO]; rfl
                    have hOs : ∀ i, O (i + 1) = O i ++ [.agg (pC (p.val.add (X i)))] := fun i => by rw [hO]; simp [List.range_succ, pA_pC]
                    have hOm : RES = .tup [.sl 6 false (O 3), .int .i64 0] := by rw [hRES, hO, hX]; rfl
                    rw [hOm]
                    have hXi : ∀ i : Nat, i < 3 → ([.agg (pC b), .agg (pC tt), .agg (pC a)] : List AV)[i]?.getD .any = .agg (pC (X i)) := fun i hi => by
                      rcases (show i = 0 ∨ i = 1 ∨ i = 2 by omega) with rfl | rfl | rfl <;> (rw [hX]; rfl)
                    have hXs : ∀ i : Nat, i < 3 → (X i).sz ≤ 10000 := fun i hi => by
                      rw [hX]
                      rcases (show i = 0 ∨ i = 1 ∨ i = 2 by omega) with rfl | rfl | rfl
                      · exact zb
                      · exact ztt
                      · exact za
                    clear hO hX hRES hOm
                    refine go_loopN 3 (α := {i : Nat // i ≤ 3}) (fun i => [(4, .ptr 0 0 0), (16, apv 6 2 (O i.1)), (91, .own 6 1 0 3), (92, .int .i64 3), (93, .int .i64 i.1)])
                      (fun i => (0, .live 6 [.agg [.bool p.x.neg, nA p.x.p, nA p.x.q, .bool p.y.neg, nA p.y.p, nA p.y.q]]) :: (1, .live 6 [.agg (pC b), .agg (pC tt), .agg (pC a)]) :: apb 6 2 (O i.1)) (fun i => 3 - i.1) ⟨0, by omega⟩ [(1, 39), (2, 40)] (by simp) (by simp [hO0, apb, nm]) (by omega) (by simp -implicitDefEqProofs [go_sem, hO0]; rfl) (by simp -implicitDefEqProofs [go_sem, hO0, pA_pC]) fun ⟨i, hi⟩ => ?_
                    have hne : O i ≠ [] := fun h => by have := hOl i; rw [h] at this; simp at this
                    have hb : Go.Proofs.YtgiheamjhoiojaaGreat.hp 3 (apb 6 2 (O i)) 2 = .live 6 (O i) := by rw [apb_ne hne]; simp [Go.Proofs.YtgiheamjhoiojaaGreat.hp, upd]
                    have hl := hOl i
                    have hs' := hOs i
                    have hr0 := hOr i
                    have hr1 := hOr (i + 1)
                    simp -implicitDefEqProofs [go_sem]
                    refine ⟨fun h => ?_, fun h => ?_⟩
                    · have es : IntKind.i64.wrap ((i : Int) + 1) = (i + 1 : Nat) := by rw [w64 (by omega)]; omega
                      have hg := hXi i (by omega)
                      have kx := kq (X i) (hXs i (by omega))
                      simp -implicitDefEqProofs [go_sem, hg]
                      refine ⟨by omega, by omega, goC_pure _ kx (by simp -implicitDefEqProofs [go_sem, ro_pC]) ?_⟩
                      simp -implicitDefEqProofs [go_sem]
                      refine goApS_apv (.inl rfl) (by omega) (by omega) (by simp -implicitDefEqProofs [go_sem]) (by simp [hl] <;> omega) (fun h => hb) ?_
                      simp -implicitDefEqProofs [go_sem, es]
                      have hn1 : O (i + 1) ≠ [] := by rw [hs']; simp
                      rw [hs'] at hr1
                      have u1 := (renL_ro (nm [(2, 5)]) _ hr1).symm
                      have u2 := cloL_ro (n := 3) _ hr1
                      have hl1 : (O (i + 1)).length = (O i).length + 1 := by rw [hs']; simp
                      exact go_again ⟨i + 1, by omega⟩ (by simp only; omega) [(2, 5)] (by simp) (by simp only [apb_ne hn1]; simp [nm]) (by simp) (by simp only [apv_ne hn1, hl1]; simp -implicitDefEqProofs [go_sem, es]) (by simp only [apb_ne hn1, hs']; simp -implicitDefEqProofs [go_sem, ← u1, u2])
                    · have : i = 3 := by omega
                      subst this
                      have ht : (O 3).take 4 = O 3 := List.take_of_length_le (by omega)
                      have hap := apv_ne (sz := 6) (id := 2) hne
                      rw [hap, apb_ne hne, hl]
                      simp -implicitDefEqProofs [go_sem, hl, ht]
                      exact ⟨hr0, Wk.refl _⟩
                · have hout : outQ u.val v.val s.miter.val H s.tol.val J true = cutJ u.val v.val H s.tol.val true := if_neg fun h => b2 h.2
                  simp -implicitDefEqProofs [go_sem, b2]
                  cases ho : cutJ u.val v.val H s.tol.val true with
                  | none =>
                    rw [ho] at hout
                    refine goC_fpure 10 31 (cornL u v (sided u.val.rot true) (sided v.val.rot true) H s.tol (turnO true 10)) _ (by simp -implicitDefEqProofs [go_sem, cornL, turnO, sided, PQ.neg, rC_ext, pC_ext]) (wk_cornL (wk_turn true 10)) (ro_cornL _ _ _ _ _ _ _ (ro_turnF true)) _ (cut_none u v _ _ H s.tol true hu.mono hv.mono a1 a2 (by omega) hH0 hs.tol.mono ht0 ho) ?_
                    simp -implicitDefEqProofs [go_sem]
                    rw [hRES, hout]
                    exact Wk.tup (.cons (Wk.nil 0 6 true) (.cons (Wk.refl _) .nil))
                  | some l =>
                    rw [ho] at hout
                    refine goC_fmk 10 31 (cornL u v (sided u.val.rot true) (sided v.val.rot true) H s.tol (turnO true 10)) _ (by simp -implicitDefEqProofs [go_sem, cornL, turnO, sided, PQ.neg, rC_ext, pC_ext]) (wk_cornL (wk_turn true 10)) (ro_cornL _ _ _ _ _ _ _ (ro_turnF true)) (cut_mk u v _ _ H s.tol true hu.mono hv.mono a1 a2 (by omega) hH0 hs.tol.mono ht0 ho) fun m l' hm => ?_
                    obtain ⟨rfl, rfl⟩ := hm
                    obtain ⟨a, b, rfl, za, zb⟩ := cut_sz ho (by omega) (by omega) (by omega)
                    rw [hout] at hRES
                    simp -implicitDefEqProofs [go_sem, z6.2 a6]
                    refine goC_inp 39 (rev2_inp a b) (by simp -implicitDefEqProofs [go_sem]) (by simp -implicitDefEqProofs [go_sem, pA_pC]) (by simp -implicitDefEqProofs [go_sem, ro_pC]) (by simp -implicitDefEqProofs [go_sem, ro_pC]) (by simp -implicitDefEqProofs [go_sem]) (.inl (by simp -implicitDefEqProofs [go_sem])) ?_
                    simp -implicitDefEqProofs [go_sem]
                    refine goC_pure _ kp (by simp -implicitDefEqProofs [go_sem]) ?_
                    simp -implicitDefEqProofs [go_sem]
                    obtain ⟨X, hX⟩ : ∃ X : Nat → PQ, X = fun i => List.getD [b, a] i ⟨0, 0⟩ := ⟨_, rfl⟩
                    obtain ⟨O, hO⟩ : ∃ O : Nat → List AV, O = fun i => (p.val :: (List.range i).map fun j => p.val.add (X j)).map pA := ⟨_, rfl⟩
                    have hOr : ∀ i, roL (O i) := fun i => by rw [hO]; exact roL_pA _
                    have hOl : ∀ i, (O i).length = i + 1 := fun i => by rw [hO]; simp
                    have hO0 : O 0 = [.agg (pC p.val)] := by rw [hO]; rfl
                    have hOs : ∀ i, O (i + 1) = O i ++ [.agg (pC (p.val.add (X i)))] := fun i => by rw [hO]; simp [List.range_succ, pA_pC]
                    have hOm : RES = .tup [.sl 6 false (O 2), .int .i64 0] := by rw [hRES, hO, hX]; rfl
                    rw [hOm]
                    have hXi : ∀ i : Nat, i < 2 → ([.agg (pC b), .agg (pC a)] : List AV)[i]?.getD .any = .agg (pC (X i)) := fun i hi => by
                      rcases (show i = 0 ∨ i = 1 by omega) with rfl | rfl <;> (rw [hX]; rfl)
                    have hXs : ∀ i : Nat, i < 2 → (X i).sz ≤ 10000 := fun i hi => by
                      rw [hX]
                      rcases (show i = 0 ∨ i = 1 by omega) with rfl | rfl
                      · exact zb
                      · exact za
                    clear hO hX hRES hOm
                    refine go_loopN 3 (α := {i : Nat // i ≤ 2}) (fun i => [(4, .ptr 0 0 0), (16, apv 6 2 (O i.1)), (91, .own 6 1 0 2), (92, .int .i64 2), (93, .int .i64 i.1)])
                      (fun i => (0, .live 6 [.agg [.bool p.x.neg, nA p.x.p, nA p.x.q, .bool p.y.neg, nA p.y.p, nA p.y.q]]) :: (1, .live 6 [.agg (pC b), .agg (pC a)]) :: apb 6 2 (O i.1)) (fun i => 2 - i.1) ⟨0, by omega⟩ [(1, 39), (2, 40)] (by simp) (by simp [hO0, apb, nm]) (by omega) (by simp -implicitDefEqProofs [go_sem, hO0]; rfl) (by simp -implicitDefEqProofs [go_sem, hO0, pA_pC]) fun ⟨i, hi⟩ => ?_
                    have hne : O i ≠ [] := fun h => by have := hOl i; rw [h] at this; simp at this
                    have hb : Go.Proofs.YtgiheamjhoiojaaGreat.hp 3 (apb 6 2 (O i)) 2 = .live 6 (O i) := by rw [apb_ne hne]; simp [Go.Proofs.YtgiheamjhoiojaaGreat.hp, upd]
                    have hl := hOl i
                    have hs' := hOs i
                    have hr0 := hOr i
                    have hr1 := hOr (i + 1)
                    simp -implicitDefEqProofs [go_sem]
                    refine ⟨fun h => ?_, fun h => ?_⟩
                    · have es : IntKind.i64.wrap ((i : Int) + 1) = (i + 1 : Nat) := by rw [w64 (by omega)]; omega
                      have hg := hXi i (by omega)
                      have kx := kq (X i) (hXs i (by omega))
                      simp -implicitDefEqProofs [go_sem, hg]
                      refine ⟨by omega, by omega, goC_pure _ kx (by simp -implicitDefEqProofs [go_sem, ro_pC]) ?_⟩
                      simp -implicitDefEqProofs [go_sem]
                      refine goApS_apv (.inl rfl) (by omega) (by omega) (by simp -implicitDefEqProofs [go_sem]) (by simp [hl] <;> omega) (fun h => hb) ?_
                      simp -implicitDefEqProofs [go_sem, es]
                      have hn1 : O (i + 1) ≠ [] := by rw [hs']; simp
                      rw [hs'] at hr1
                      have u1 := (renL_ro (nm [(2, 5)]) _ hr1).symm
                      have u2 := cloL_ro (n := 3) _ hr1
                      have hl1 : (O (i + 1)).length = (O i).length + 1 := by rw [hs']; simp
                      exact go_again ⟨i + 1, by omega⟩ (by simp only; omega) [(2, 5)] (by simp) (by simp only [apb_ne hn1]; simp [nm]) (by simp) (by simp only [apv_ne hn1, hl1]; simp -implicitDefEqProofs [go_sem, es]) (by simp only [apb_ne hn1, hs']; simp -implicitDefEqProofs [go_sem, ← u1, u2])
                    · have : i = 2 := by omega
                      subst this
                      have ht : (O 2).take 3 = O 2 := List.take_of_length_le (by omega)
                      have hap := apv_ne (sz := 6) (id := 2) hne
                      rw [hap, apb_ne hne, hl]
                      simp -implicitDefEqProofs [go_sem, hl, ht]
                      exact ⟨hr0, Wk.refl _⟩
              · have hout : outQ u.val v.val s.miter.val H s.tol.val J true = cutJ u.val v.val H s.tol.val true := if_neg fun h => b1 h.1
                simp -implicitDefEqProofs [go_sem, b1]
                cases ho : cutJ u.val v.val H s.tol.val true with
                | none =>
                  rw [ho] at hout
                  refine goC_fpure 10 31 (cornL u v (sided u.val.rot true) (sided v.val.rot true) H s.tol (turnO true 10)) _ (by simp -implicitDefEqProofs [go_sem, cornL, turnO, sided, PQ.neg, rC_ext, pC_ext]) (wk_cornL (wk_turn true 10)) (ro_cornL _ _ _ _ _ _ _ (ro_turnF true)) _ (cut_none u v _ _ H s.tol true hu.mono hv.mono a1 a2 (by omega) hH0 hs.tol.mono ht0 ho) ?_
                  simp -implicitDefEqProofs [go_sem]
                  rw [hRES, hout]
                  exact Wk.tup (.cons (Wk.nil 0 6 true) (.cons (Wk.refl _) .nil))
                | some l =>
                  rw [ho] at hout
                  refine goC_fmk 10 31 (cornL u v (sided u.val.rot true) (sided v.val.rot true) H s.tol (turnO true 10)) _ (by simp -implicitDefEqProofs [go_sem, cornL, turnO, sided, PQ.neg, rC_ext, pC_ext]) (wk_cornL (wk_turn true 10)) (ro_cornL _ _ _ _ _ _ _ (ro_turnF true)) (cut_mk u v _ _ H s.tol true hu.mono hv.mono a1 a2 (by omega) hH0 hs.tol.mono ht0 ho) fun m l' hm => ?_
                  obtain ⟨rfl, rfl⟩ := hm
                  obtain ⟨a, b, rfl, za, zb⟩ := cut_sz ho (by omega) (by omega) (by omega)
                  rw [hout] at hRES
                  simp -implicitDefEqProofs [go_sem, z6.2 a6]
                  refine goC_inp 39 (rev2_inp a b) (by simp -implicitDefEqProofs [go_sem]) (by simp -implicitDefEqProofs [go_sem, pA_pC]) (by simp -implicitDefEqProofs [go_sem, ro_pC]) (by simp -implicitDefEqProofs [go_sem, ro_pC]) (by simp -implicitDefEqProofs [go_sem]) (.inl (by simp -implicitDefEqProofs [go_sem])) ?_
                  simp -implicitDefEqProofs [go_sem]
                  refine goC_pure _ kp (by simp -implicitDefEqProofs [go_sem]) ?_
                  simp -implicitDefEqProofs [go_sem]
                  obtain ⟨X, hX⟩ : ∃ X : Nat → PQ, X = fun i => List.getD [b, a] i ⟨0, 0⟩ := ⟨_, rfl⟩
                  obtain ⟨O, hO⟩ : ∃ O : Nat → List AV, O = fun i => (p.val :: (List.range i).map fun j => p.val.add (X j)).map pA := ⟨_, rfl⟩
                  have hOr : ∀ i, roL (O i) := fun i => by rw [hO]; exact roL_pA _
                  have hOl : ∀ i, (O i).length = i + 1 := fun i => by rw [hO]; simp
                  have hO0 : O 0 = [.agg (pC p.val)] := by rw [hO]; rfl
                  have hOs : ∀ i, O (i + 1) = O i ++ [.agg (pC (p.val.add (X i)))] := fun i => by rw [hO]; simp [List.range_succ, pA_pC]
                  have hOm : RES = .tup [.sl 6 false (O 2), .int .i64 0] := by rw [hRES, hO, hX]; rfl
                  rw [hOm]
                  have hXi : ∀ i : Nat, i < 2 → ([.agg (pC b), .agg (pC a)] : List AV)[i]?.getD .any = .agg (pC (X i)) := fun i hi => by
                    rcases (show i = 0 ∨ i = 1 by omega) with rfl | rfl <;> (rw [hX]; rfl)
                  have hXs : ∀ i : Nat, i < 2 → (X i).sz ≤ 10000 := fun i hi => by
                    rw [hX]
                    rcases (show i = 0 ∨ i = 1 by omega) with rfl | rfl
                    · exact zb
                    · exact za
                  clear hO hX hRES hOm
                  refine go_loopN 3 (α := {i : Nat // i ≤ 2}) (fun i => [(4, .ptr 0 0 0), (16, apv 6 2 (O i.1)), (91, .own 6 1 0 2), (92, .int .i64 2), (93, .int .i64 i.1)])
                    (fun i => (0, .live 6 [.agg [.bool p.x.neg, nA p.x.p, nA p.x.q, .bool p.y.neg, nA p.y.p, nA p.y.q]]) :: (1, .live 6 [.agg (pC b), .agg (pC a)]) :: apb 6 2 (O i.1)) (fun i => 2 - i.1) ⟨0, by omega⟩ [(1, 39), (2, 40)] (by simp) (by simp [hO0, apb, nm]) (by omega) (by simp -implicitDefEqProofs [go_sem, hO0]; rfl) (by simp -implicitDefEqProofs [go_sem, hO0, pA_pC]) fun ⟨i, hi⟩ => ?_
                  have hne : O i ≠ [] := fun h => by have := hOl i; rw [h] at this; simp at this
                  have hb : Go.Proofs.YtgiheamjhoiojaaGreat.hp 3 (apb 6 2 (O i)) 2 = .live 6 (O i) := by rw [apb_ne hne]; simp [Go.Proofs.YtgiheamjhoiojaaGreat.hp, upd]
                  have hl := hOl i
                  have hs' := hOs i
                  have hr0 := hOr i
                  have hr1 := hOr (i + 1)
                  simp -implicitDefEqProofs [go_sem]
                  refine ⟨fun h => ?_, fun h => ?_⟩
                  · have es : IntKind.i64.wrap ((i : Int) + 1) = (i + 1 : Nat) := by rw [w64 (by omega)]; omega
                    have hg := hXi i (by omega)
                    have kx := kq (X i) (hXs i (by omega))
                    simp -implicitDefEqProofs [go_sem, hg]
                    refine ⟨by omega, by omega, goC_pure _ kx (by simp -implicitDefEqProofs [go_sem, ro_pC]) ?_⟩
                    simp -implicitDefEqProofs [go_sem]
                    refine goApS_apv (.inl rfl) (by omega) (by omega) (by simp -implicitDefEqProofs [go_sem]) (by simp [hl] <;> omega) (fun h => hb) ?_
                    simp -implicitDefEqProofs [go_sem, es]
                    have hn1 : O (i + 1) ≠ [] := by rw [hs']; simp
                    rw [hs'] at hr1
                    have u1 := (renL_ro (nm [(2, 5)]) _ hr1).symm
                    have u2 := cloL_ro (n := 3) _ hr1
                    have hl1 : (O (i + 1)).length = (O i).length + 1 := by rw [hs']; simp
                    exact go_again ⟨i + 1, by omega⟩ (by simp only; omega) [(2, 5)] (by simp) (by simp only [apb_ne hn1]; simp [nm]) (by simp) (by simp only [apv_ne hn1, hl1]; simp -implicitDefEqProofs [go_sem, es]) (by simp only [apb_ne hn1, hs']; simp -implicitDefEqProofs [go_sem, ← u1, u2])
                  · have : i = 2 := by omega
                    subst this
                    have ht : (O 2).take 3 = O 2 := List.take_of_length_le (by omega)
                    have hap := apv_ne (sz := 6) (id := 2) hne
                    rw [hap, apb_ne hne, hl]
                    simp -implicitDefEqProofs [go_sem, hl, ht]
                    exact ⟨hr0, Wk.refl _⟩
            · have a6' : ¬ sgnQ (u.val.cross v.val) < 0 := fun hh => a6 (z6.1 hh)
              rw [decide_eq_false a6] at hRES
              simp only [if_neg a6] at hRES
              simp -implicitDefEqProofs [go_sem, a5', a5, a6', a6]
              have m1 := round_pure u.val.rot (by omega)
              have m2 := round_pure v.val.rot (by omega)
              simp only [pA_pC] at *
              refine CA.of_go mixed Tryz.func94 rfl (rs := []) rfl (by kernel_rfl) ?_
              simp -implicitDefEqProofs [go_sem, rC_ext, pC_ext]
              refine goD_pure _ l1 (by simp -implicitDefEqProofs [go_sem]) ?_
              simp -implicitDefEqProofs [go_sem, rC_ext, pC_ext]
              refine goD_wk _ m1 (.cons (Wk.any _) (.cons (Wk.refl _) .nil)) (by simp -implicitDefEqProofs [go_sem, ro_pC]) ?_
              simp -implicitDefEqProofs [go_sem, rC_ext, pC_ext]
              refine goD_pure _ l2 (by simp -implicitDefEqProofs [go_sem]) ?_
              simp -implicitDefEqProofs [go_sem, rC_ext, pC_ext]
              refine goD_wk _ m2 (.cons (Wk.any _) (.cons (Wk.refl _) .nil)) (by simp -implicitDefEqProofs [go_sem, ro_pC]) ?_
              by_cases b1 : J = 0
              · simp -implicitDefEqProofs [go_sem, b1]
                refine goC_pure _ k6 (by simp -implicitDefEqProofs [go_sem]) ?_
                by_cases b2 : sharpQ u.val v.val s.miter.val
                · have hout : outQ u.val v.val s.miter.val H s.tol.val J false = tipK u.val v.val H s.tol.val false 4097 0 := if_pos ⟨b1, b2⟩
                  simp -implicitDefEqProofs [go_sem, b2]
                  cases ho : tipK u.val v.val H s.tol.val false 4097 0 with
                  | none =>
                    rw [ho] at hout
                    refine goC_fpure 10 31 (cornL u v (sided u.val.rot false) (sided v.val.rot false) H s.tol (turnO false 10)) _ (by simp -implicitDefEqProofs [go_sem, cornL, turnO, sided, PQ.neg, rC_ext, pC_ext]) (wk_cornL (wk_turn false 10)) (ro_cornL _ _ _ _ _ _ _ (ro_turnF false)) _ (tip_none u v H s.tol false hu hv a1 a2 hHs hH0 hs.tol ho) ?_
                    simp -implicitDefEqProofs [go_sem]
                    rw [hRES, hout]
                    exact Wk.tup (.cons (Wk.nil 0 6 true) (.cons (Wk.refl _) .nil))
                  | some l =>
                    rw [ho] at hout
                    refine goC_fmk 10 31 (cornL u v (sided u.val.rot false) (sided v.val.rot false) H s.tol (turnO false 10)) _ (by simp -implicitDefEqProofs [go_sem, cornL, turnO, sided, PQ.neg, rC_ext, pC_ext]) (wk_cornL (wk_turn false 10)) (ro_cornL _ _ _ _ _ _ _ (ro_turnF false)) (tip_mk u v H s.tol false hu hv a1 a2 hHs hH0 hs.tol ho) fun m l' hm => ?_
                    obtain ⟨rfl, rfl⟩ := hm
                    obtain ⟨a, tt, b, rfl, za, ztt, zb⟩ := tip_sz ho (by omega) (by omega) (by omega)
                    rw [hout] at hRES
                    simp -implicitDefEqProofs [go_sem, a6']
                    refine goC_pure _ kp (by simp -implicitDefEqProofs [go_sem]) ?_
                    simp -implicitDefEqProofs [go_sem]
                    obtain ⟨X, hX⟩ : ∃ X : Nat → PQ, X = fun i => List.getD [a, tt, b] i ⟨0, 0⟩ := ⟨_, rfl⟩
                    obtain ⟨O, hO⟩ : ∃ O : Nat → List AV, O = fun i => (p.val :: (List.range i).map fun j => p.val.add (X j)).map pA := ⟨_, rfl⟩
                    have hOr : ∀ i, roL (O i) := fun i => by rw [hO]; exact roL_pA _
                    have hOl : ∀ i, (O i).length = i + 1 := fun i => by rw [hO]; simp
                    have hO0 : O 0 = [.agg (pC p.val)] := by rw [hO]; rfl
                    have hOs : ∀ i, O (i + 1) = O i ++ [.agg (pC (p.val.add (X i)))] := fun i => by rw [hO]; simp [List.range_succ, pA_pC]
                    have hOm : RES = .tup [.sl 6 false (O 3), .int .i64 0] := by rw [hRES, hO, hX]; rfl
                    rw [hOm]
                    have hXi : ∀ i : Nat, i < 3 → ([.agg (pC a), .agg (pC tt), .agg (pC b)] : List AV)[i]?.getD .any = .agg (pC (X i)) := fun i hi => by
                      rcases (show i = 0 ∨ i = 1 ∨ i = 2 by omega) with rfl | rfl | rfl <;> (rw [hX]; rfl)
                    have hXs : ∀ i : Nat, i < 3 → (X i).sz ≤ 10000 := fun i hi => by
                      rw [hX]
                      rcases (show i = 0 ∨ i = 1 ∨ i = 2 by omega) with rfl | rfl | rfl
                      · exact za
                      · exact ztt
                      · exact zb
                    clear hO hX hRES hOm
                    refine go_loopN 3 (α := {i : Nat // i ≤ 3}) (fun i => [(4, .ptr 0 0 0), (16, apv 6 2 (O i.1)), (91, .own 6 1 0 3), (92, .int .i64 3), (93, .int .i64 i.1)])
                      (fun i => (0, .live 6 [.agg [.bool p.x.neg, nA p.x.p, nA p.x.q, .bool p.y.neg, nA p.y.p, nA p.y.q]]) :: (1, .live 6 [.agg (pC a), .agg (pC tt), .agg (pC b)]) :: apb 6 2 (O i.1)) (fun i => 3 - i.1) ⟨0, by omega⟩ [(1, 39), (2, 40)] (by simp) (by simp [hO0, apb, nm]) (by omega) (by simp -implicitDefEqProofs [go_sem, hO0]; rfl) (by simp -implicitDefEqProofs [go_sem, hO0, pA_pC]) fun ⟨i, hi⟩ => ?_
                    have hne : O i ≠ [] := fun h => by have := hOl i; rw [h] at this; simp at this
                    have hb : Go.Proofs.YtgiheamjhoiojaaGreat.hp 3 (apb 6 2 (O i)) 2 = .live 6 (O i) := by rw [apb_ne hne]; simp [Go.Proofs.YtgiheamjhoiojaaGreat.hp, upd]
                    have hl := hOl i
                    have hs' := hOs i
                    have hr0 := hOr i
                    have hr1 := hOr (i + 1)
                    simp -implicitDefEqProofs [go_sem]
                    refine ⟨fun h => ?_, fun h => ?_⟩
                    · have es : IntKind.i64.wrap ((i : Int) + 1) = (i + 1 : Nat) := by rw [w64 (by omega)]; omega
                      have hg := hXi i (by omega)
                      have kx := kq (X i) (hXs i (by omega))
                      simp -implicitDefEqProofs [go_sem, hg]
                      refine ⟨by omega, by omega, goC_pure _ kx (by simp -implicitDefEqProofs [go_sem, ro_pC]) ?_⟩
                      simp -implicitDefEqProofs [go_sem]
                      refine goApS_apv (.inl rfl) (by omega) (by omega) (by simp -implicitDefEqProofs [go_sem]) (by simp [hl] <;> omega) (fun h => hb) ?_
                      simp -implicitDefEqProofs [go_sem, es]
                      have hn1 : O (i + 1) ≠ [] := by rw [hs']; simp
                      rw [hs'] at hr1
                      have u1 := (renL_ro (nm [(2, 5)]) _ hr1).symm
                      have u2 := cloL_ro (n := 3) _ hr1
                      have hl1 : (O (i + 1)).length = (O i).length + 1 := by rw [hs']; simp
                      exact go_again ⟨i + 1, by omega⟩ (by simp only; omega) [(2, 5)] (by simp) (by simp only [apb_ne hn1]; simp [nm]) (by simp) (by simp only [apv_ne hn1, hl1]; simp -implicitDefEqProofs [go_sem, es]) (by simp only [apb_ne hn1, hs']; simp -implicitDefEqProofs [go_sem, ← u1, u2])
                    · have : i = 3 := by omega
                      subst this
                      have ht : (O 3).take 4 = O 3 := List.take_of_length_le (by omega)
                      have hap := apv_ne (sz := 6) (id := 2) hne
                      rw [hap, apb_ne hne, hl]
                      simp -implicitDefEqProofs [go_sem, hl, ht]
                      exact ⟨hr0, Wk.refl _⟩
                · have hout : outQ u.val v.val s.miter.val H s.tol.val J false = cutJ u.val v.val H s.tol.val false := if_neg fun h => b2 h.2
                  simp -implicitDefEqProofs [go_sem, b2]
                  cases ho : cutJ u.val v.val H s.tol.val false with
                  | none =>
                    rw [ho] at hout
                    refine goC_fpure 10 31 (cornL u v (sided u.val.rot false) (sided v.val.rot false) H s.tol (turnO false 10)) _ (by simp -implicitDefEqProofs [go_sem, cornL, turnO, sided, PQ.neg, rC_ext, pC_ext]) (wk_cornL (wk_turn false 10)) (ro_cornL _ _ _ _ _ _ _ (ro_turnF false)) _ (cut_none u v _ _ H s.tol false hu.mono hv.mono a1 a2 (by omega) hH0 hs.tol.mono ht0 ho) ?_
                    simp -implicitDefEqProofs [go_sem]
                    rw [hRES, hout]
                    exact Wk.tup (.cons (Wk.nil 0 6 true) (.cons (Wk.refl _) .nil))
                  | some l =>
                    rw [ho] at hout
                    refine goC_fmk 10 31 (cornL u v (sided u.val.rot false) (sided v.val.rot false) H s.tol (turnO false 10)) _ (by simp -implicitDefEqProofs [go_sem, cornL, turnO, sided, PQ.neg, rC_ext, pC_ext]) (wk_cornL (wk_turn false 10)) (ro_cornL _ _ _ _ _ _ _ (ro_turnF false)) (cut_mk u v _ _ H s.tol false hu.mono hv.mono a1 a2 (by omega) hH0 hs.tol.mono ht0 ho) fun m l' hm => ?_
                    obtain ⟨rfl, rfl⟩ := hm
                    obtain ⟨a, b, rfl, za, zb⟩ := cut_sz ho (by omega) (by omega) (by omega)
                    rw [hout] at hRES
                    simp -implicitDefEqProofs [go_sem, a6']
                    refine goC_pure _ kp (by simp -implicitDefEqProofs [go_sem]) ?_
                    simp -implicitDefEqProofs [go_sem]
                    obtain ⟨X, hX⟩ : ∃ X : Nat → PQ, X = fun i => List.getD [a, b] i ⟨0, 0⟩ := ⟨_, rfl⟩
                    obtain ⟨O, hO⟩ : ∃ O : Nat → List AV, O = fun i => (p.val :: (List.range i).map fun j => p.val.add (X j)).map pA := ⟨_, rfl⟩
                    have hOr : ∀ i, roL (O i) := fun i => by rw [hO]; exact roL_pA _
                    have hOl : ∀ i, (O i).length = i + 1 := fun i => by rw [hO]; simp
                    have hO0 : O 0 = [.agg (pC p.val)] := by rw [hO]; rfl
                    have hOs : ∀ i, O (i + 1) = O i ++ [.agg (pC (p.val.add (X i)))] := fun i => by rw [hO]; simp [List.range_succ, pA_pC]
                    have hOm : RES = .tup [.sl 6 false (O 2), .int .i64 0] := by rw [hRES, hO, hX]; rfl
                    rw [hOm]
                    have hXi : ∀ i : Nat, i < 2 → ([.agg (pC a), .agg (pC b)] : List AV)[i]?.getD .any = .agg (pC (X i)) := fun i hi => by
                      rcases (show i = 0 ∨ i = 1 by omega) with rfl | rfl <;> (rw [hX]; rfl)
                    have hXs : ∀ i : Nat, i < 2 → (X i).sz ≤ 10000 := fun i hi => by
                      rw [hX]
                      rcases (show i = 0 ∨ i = 1 by omega) with rfl | rfl
                      · exact za
                      · exact zb
                    clear hO hX hRES hOm
                    refine go_loopN 3 (α := {i : Nat // i ≤ 2}) (fun i => [(4, .ptr 0 0 0), (16, apv 6 2 (O i.1)), (91, .own 6 1 0 2), (92, .int .i64 2), (93, .int .i64 i.1)])
                      (fun i => (0, .live 6 [.agg [.bool p.x.neg, nA p.x.p, nA p.x.q, .bool p.y.neg, nA p.y.p, nA p.y.q]]) :: (1, .live 6 [.agg (pC a), .agg (pC b)]) :: apb 6 2 (O i.1)) (fun i => 2 - i.1) ⟨0, by omega⟩ [(1, 39), (2, 40)] (by simp) (by simp [hO0, apb, nm]) (by omega) (by simp -implicitDefEqProofs [go_sem, hO0]; rfl) (by simp -implicitDefEqProofs [go_sem, hO0, pA_pC]) fun ⟨i, hi⟩ => ?_
                    have hne : O i ≠ [] := fun h => by have := hOl i; rw [h] at this; simp at this
                    have hb : Go.Proofs.YtgiheamjhoiojaaGreat.hp 3 (apb 6 2 (O i)) 2 = .live 6 (O i) := by rw [apb_ne hne]; simp [Go.Proofs.YtgiheamjhoiojaaGreat.hp, upd]
                    have hl := hOl i
                    have hs' := hOs i
                    have hr0 := hOr i
                    have hr1 := hOr (i + 1)
                    simp -implicitDefEqProofs [go_sem]
                    refine ⟨fun h => ?_, fun h => ?_⟩
                    · have es : IntKind.i64.wrap ((i : Int) + 1) = (i + 1 : Nat) := by rw [w64 (by omega)]; omega
                      have hg := hXi i (by omega)
                      have kx := kq (X i) (hXs i (by omega))
                      simp -implicitDefEqProofs [go_sem, hg]
                      refine ⟨by omega, by omega, goC_pure _ kx (by simp -implicitDefEqProofs [go_sem, ro_pC]) ?_⟩
                      simp -implicitDefEqProofs [go_sem]
                      refine goApS_apv (.inl rfl) (by omega) (by omega) (by simp -implicitDefEqProofs [go_sem]) (by simp [hl] <;> omega) (fun h => hb) ?_
                      simp -implicitDefEqProofs [go_sem, es]
                      have hn1 : O (i + 1) ≠ [] := by rw [hs']; simp
                      rw [hs'] at hr1
                      have u1 := (renL_ro (nm [(2, 5)]) _ hr1).symm
                      have u2 := cloL_ro (n := 3) _ hr1
                      have hl1 : (O (i + 1)).length = (O i).length + 1 := by rw [hs']; simp
                      exact go_again ⟨i + 1, by omega⟩ (by simp only; omega) [(2, 5)] (by simp) (by simp only [apb_ne hn1]; simp [nm]) (by simp) (by simp only [apv_ne hn1, hl1]; simp -implicitDefEqProofs [go_sem, es]) (by simp only [apb_ne hn1, hs']; simp -implicitDefEqProofs [go_sem, ← u1, u2])
                    · have : i = 2 := by omega
                      subst this
                      have ht : (O 2).take 3 = O 2 := List.take_of_length_le (by omega)
                      have hap := apv_ne (sz := 6) (id := 2) hne
                      rw [hap, apb_ne hne, hl]
                      simp -implicitDefEqProofs [go_sem, hl, ht]
                      exact ⟨hr0, Wk.refl _⟩
              · have hout : outQ u.val v.val s.miter.val H s.tol.val J false = cutJ u.val v.val H s.tol.val false := if_neg fun h => b1 h.1
                simp -implicitDefEqProofs [go_sem, b1]
                cases ho : cutJ u.val v.val H s.tol.val false with
                | none =>
                  rw [ho] at hout
                  refine goC_fpure 10 31 (cornL u v (sided u.val.rot false) (sided v.val.rot false) H s.tol (turnO false 10)) _ (by simp -implicitDefEqProofs [go_sem, cornL, turnO, sided, PQ.neg, rC_ext, pC_ext]) (wk_cornL (wk_turn false 10)) (ro_cornL _ _ _ _ _ _ _ (ro_turnF false)) _ (cut_none u v _ _ H s.tol false hu.mono hv.mono a1 a2 (by omega) hH0 hs.tol.mono ht0 ho) ?_
                  simp -implicitDefEqProofs [go_sem]
                  rw [hRES, hout]
                  exact Wk.tup (.cons (Wk.nil 0 6 true) (.cons (Wk.refl _) .nil))
                | some l =>
                  rw [ho] at hout
                  refine goC_fmk 10 31 (cornL u v (sided u.val.rot false) (sided v.val.rot false) H s.tol (turnO false 10)) _ (by simp -implicitDefEqProofs [go_sem, cornL, turnO, sided, PQ.neg, rC_ext, pC_ext]) (wk_cornL (wk_turn false 10)) (ro_cornL _ _ _ _ _ _ _ (ro_turnF false)) (cut_mk u v _ _ H s.tol false hu.mono hv.mono a1 a2 (by omega) hH0 hs.tol.mono ht0 ho) fun m l' hm => ?_
                  obtain ⟨rfl, rfl⟩ := hm
                  obtain ⟨a, b, rfl, za, zb⟩ := cut_sz ho (by omega) (by omega) (by omega)
                  rw [hout] at hRES
                  simp -implicitDefEqProofs [go_sem, a6']
                  refine goC_pure _ kp (by simp -implicitDefEqProofs [go_sem]) ?_
                  simp -implicitDefEqProofs [go_sem]
                  obtain ⟨X, hX⟩ : ∃ X : Nat → PQ, X = fun i => List.getD [a, b] i ⟨0, 0⟩ := ⟨_, rfl⟩
                  obtain ⟨O, hO⟩ : ∃ O : Nat → List AV, O = fun i => (p.val :: (List.range i).map fun j => p.val.add (X j)).map pA := ⟨_, rfl⟩
                  have hOr : ∀ i, roL (O i) := fun i => by rw [hO]; exact roL_pA _
                  have hOl : ∀ i, (O i).length = i + 1 := fun i => by rw [hO]; simp
                  have hO0 : O 0 = [.agg (pC p.val)] := by rw [hO]; rfl
                  have hOs : ∀ i, O (i + 1) = O i ++ [.agg (pC (p.val.add (X i)))] := fun i => by rw [hO]; simp [List.range_succ, pA_pC]
                  have hOm : RES = .tup [.sl 6 false (O 2), .int .i64 0] := by rw [hRES, hO, hX]; rfl
                  rw [hOm]
                  have hXi : ∀ i : Nat, i < 2 → ([.agg (pC a), .agg (pC b)] : List AV)[i]?.getD .any = .agg (pC (X i)) := fun i hi => by
                    rcases (show i = 0 ∨ i = 1 by omega) with rfl | rfl <;> (rw [hX]; rfl)
                  have hXs : ∀ i : Nat, i < 2 → (X i).sz ≤ 10000 := fun i hi => by
                    rw [hX]
                    rcases (show i = 0 ∨ i = 1 by omega) with rfl | rfl
                    · exact za
                    · exact zb
                  clear hO hX hRES hOm
                  refine go_loopN 3 (α := {i : Nat // i ≤ 2}) (fun i => [(4, .ptr 0 0 0), (16, apv 6 2 (O i.1)), (91, .own 6 1 0 2), (92, .int .i64 2), (93, .int .i64 i.1)])
                    (fun i => (0, .live 6 [.agg [.bool p.x.neg, nA p.x.p, nA p.x.q, .bool p.y.neg, nA p.y.p, nA p.y.q]]) :: (1, .live 6 [.agg (pC a), .agg (pC b)]) :: apb 6 2 (O i.1)) (fun i => 2 - i.1) ⟨0, by omega⟩ [(1, 39), (2, 40)] (by simp) (by simp [hO0, apb, nm]) (by omega) (by simp -implicitDefEqProofs [go_sem, hO0]; rfl) (by simp -implicitDefEqProofs [go_sem, hO0, pA_pC]) fun ⟨i, hi⟩ => ?_
                  have hne : O i ≠ [] := fun h => by have := hOl i; rw [h] at this; simp at this
                  have hb : Go.Proofs.YtgiheamjhoiojaaGreat.hp 3 (apb 6 2 (O i)) 2 = .live 6 (O i) := by rw [apb_ne hne]; simp [Go.Proofs.YtgiheamjhoiojaaGreat.hp, upd]
                  have hl := hOl i
                  have hs' := hOs i
                  have hr0 := hOr i
                  have hr1 := hOr (i + 1)
                  simp -implicitDefEqProofs [go_sem]
                  refine ⟨fun h => ?_, fun h => ?_⟩
                  · have es : IntKind.i64.wrap ((i : Int) + 1) = (i + 1 : Nat) := by rw [w64 (by omega)]; omega
                    have hg := hXi i (by omega)
                    have kx := kq (X i) (hXs i (by omega))
                    simp -implicitDefEqProofs [go_sem, hg]
                    refine ⟨by omega, by omega, goC_pure _ kx (by simp -implicitDefEqProofs [go_sem, ro_pC]) ?_⟩
                    simp -implicitDefEqProofs [go_sem]
                    refine goApS_apv (.inl rfl) (by omega) (by omega) (by simp -implicitDefEqProofs [go_sem]) (by simp [hl] <;> omega) (fun h => hb) ?_
                    simp -implicitDefEqProofs [go_sem, es]
                    have hn1 : O (i + 1) ≠ [] := by rw [hs']; simp
                    rw [hs'] at hr1
                    have u1 := (renL_ro (nm [(2, 5)]) _ hr1).symm
                    have u2 := cloL_ro (n := 3) _ hr1
                    have hl1 : (O (i + 1)).length = (O i).length + 1 := by rw [hs']; simp
                    exact go_again ⟨i + 1, by omega⟩ (by simp only; omega) [(2, 5)] (by simp) (by simp only [apb_ne hn1]; simp [nm]) (by simp) (by simp only [apv_ne hn1, hl1]; simp -implicitDefEqProofs [go_sem, es]) (by simp only [apb_ne hn1, hs']; simp -implicitDefEqProofs [go_sem, ← u1, u2])
                  · have : i = 2 := by omega
                    subst this
                    have ht : (O 2).take 3 = O 2 := List.take_of_length_le (by omega)
                    have hap := apv_ne (sz := 6) (id := 2) hne
                    rw [hap, apb_ne hne, hl]
                    simp -implicitDefEqProofs [go_sem, hl, ht]
                    exact ⟨hr0, Wk.refl _⟩
      · rw [if_pos a3] at hRES
        simp -implicitDefEqProofs [go_sem, a3]
        rw [hRES]
        exact Wk.tup (.cons (Wk.nil 0 6 true) (.cons (Wk.refl _) .nil))
def mayV (w m t : Rat) (join : Int) : Prop := 0 < w ∧ 0 < t ∧ 0 ≤ join ∧ join ≤ 2 ∧ (join = 0 → 1 ≤ m ∧ m ≤ 64)
instance (w m t : Rat) (join : Int) : Decidable (mayV w m t join) := inferInstanceAs (Decidable (_ ∧ _))
def pieceV (p u v : PQ) (w m t : Rat) (join : Int) : List PQ × Int :=
  if u = ⟨0, 0⟩ ∨ v = ⟨0, 0⟩ then ([], 12) else if ¬ mayV w m t join then ([], 1) else if join = 2 then rnd p (w * half) t else if u.cross v = 0 then ([], 0) else
  match outQ u v m (w * half) t join (decide (u.cross v < 0)) with
  | none => ([], 24)
  | some l => (p :: (if u.cross v < 0 then l.reverse else l).map p.add, 0)
theorem pieceV_eq (p u v : PQ) (s : SR) : pieceQ p u v s = pieceV p u v s.width.val s.miter.val s.tol.val s.join := rfl
def styleS (j : Int) : SR := ⟨qc 2, qc 4, 0, j, qc half⟩
theorem sz_two : sz (2 : Rat) ≤ 1 := by
  have := sz_i64 (x := 2) (by omega)
  simpa using this
theorem sz_four : sz (4 : Rat) ≤ 1 := by
  have := sz_i64 (x := 4) (by omega)
  simpa using this
theorem style_pure (j : Int) : Pure Tryz.prog 54 [.int .i64 j, rA half] (styleS j).av := by
  have k1 := rof_pure 2 1 (by omega) (by omega) (by omega)
  rw [show ((2 : Int) : Rat) / ((1 : Int) : Rat) = 2 by grind] at k1
  have k2 := rof_pure 4 1 (by omega) (by omega) (by omega)
  rw [show ((4 : Int) : Rat) / ((1 : Int) : Rat) = 4 by grind] at k2
  have e : (styleS j).av = .agg (rC 2 ++ (rC 4 ++ (.int .i64 0 :: .int .i64 j :: rC half))) := rfl
  rw [e]
  simp only [rA_rC, rC_ext] at *
  refine Pure.of_go mixed Tryz.func54 rfl (rs := [.cell 4 32]) rfl (by kernel_rfl) (by simp -implicitDefEqProofs [go_sem]) ?_
  simp -implicitDefEqProofs [go_sem]
  refine goD_pure _ k1 (by simp -implicitDefEqProofs [go_sem]) ?_
  simp -implicitDefEqProofs [go_sem]
  refine goD_pure _ k2 (by simp -implicitDefEqProofs [go_sem]) ?_
  simp -implicitDefEqProofs [go_sem, rop]
theorem styleS_sml (j : Int) : (styleS j).Sml := by
  refine ⟨qc_in sz_two, qc_in sz_four, qc_in sz_half, ?_⟩
  have : (styleS j).h = 1 := by
    unfold SR.h styleS
    simp only [qc_val]
    rw [half_eq]; grind
  rw [this, sz_one]; exact Nat.le_refl _
theorem jw1 : pieceV (wP 0 0) (wP 1 0) (wP 0 1) 2 4 half 0 = ([wP 0 0, wP 0 (-1), wP 1 (-1), wP 1 0], 0) := by decide +kernel
theorem jw2 : pieceV (wP 5 5) (wP 1 0) (wP 0 (-1)) 2 4 half 1 = ([wP 5 5, wP 6 5, wP 5 6], 0) := by decide +kernel
theorem jw3 : pieceV (wP 0 0) (wP 0 0) (wP 0 1) 2 4 half 0 = ([], 12) := by decide +kernel
theorem jw4 : decide (sharpQ (wP 1 0) (wP 0 1) 2) = true := by decide +kernel
theorem jw5 : decide (sharpQ (wP 1 0) (wP 0 1) 1) = false := by decide +kernel
theorem jpieceW (a b c : PQ) (j : Int) (ha : a.sz ≤ 1) (hb : b.sz ≤ 1) (hc : c.sz ≤ 1) {x : List PQ × Int} (hx : pieceV a b c 2 4 half j = x) :
    Pure Tryz.prog 42 [pA a, pA b, pA c, (styleS j).av] (pieceA x) := by
  have h := piece_pure (pc a) (pc b) (pc c) (styleS j) (pc_in ha) (pc_in hb) (pc_in hc) (styleS_sml j)
  rw [pc_val, pc_val, pc_val, pieceV_eq] at h
  have e : pieceV a b c (styleS j).width.val (styleS j).miter.val (styleS j).tol.val (styleS j).join = x := by
    unfold styleS; simp only [qc_val]; exact hx
  rw [e] at h
  exact h
theorem sharpW (a b : PQ) (m : Rat) (ha : a.sz ≤ 1) (hb : b.sz ≤ 1) (hm : sz m ≤ 1) : Pure Tryz.prog 44 [pA a, pA b, rA m] (.bool (decide (sharpQ a b m))) := by
  have h := sharp_pure (pc a) (pc b) (qc m) (pc_in (by omega)) (pc_in (by omega)) (qc_in (by omega))
  rw [pc_val, pc_val, qc_val] at h
  exact h
set_option maxHeartbeats 4000000 in
theorem jwakes_pure : Pure Tryz.prog 41 [] (.bool true) := by
  have p00 := wP_pure 0 0 (by omega) (by omega)
  have p10 := wP_pure 1 0 (by omega) (by omega)
  have p01 := wP_pure 0 1 (by omega) (by omega)
  have p55 := wP_pure 5 5 (by omega) (by omega)
  have p0m := wP_pure 0 (-1) (by omega) (by omega)
  have p1m := wP_pure 1 (-1) (by omega) (by omega)
  have p65 := wP_pure 6 5 (by omega) (by omega)
  have s00 : (wP 0 0).sz ≤ 1 := sz_wP (by omega) (by omega)
  have s10 : (wP 1 0).sz ≤ 1 := sz_wP (by omega) (by omega)
  have s01 : (wP 0 1).sz ≤ 1 := sz_wP (by omega) (by omega)
  have s55 : (wP 5 5).sz ≤ 1 := sz_wP (by omega) (by omega)
  have s0m : (wP 0 (-1)).sz ≤ 1 := sz_wP (by omega) (by omega)
  have s1m : (wP 1 (-1)).sz ≤ 1 := sz_wP (by omega) (by omega)
  have s65 : (wP 6 5).sz ≤ 1 := sz_wP (by omega) (by omega)
  have kh := rof_pure 1 2 (by omega) (by omega) (by omega)
  rw [← half_eq] at kh
  have k2 := rof_pure 2 1 (by omega) (by omega) (by omega)
  rw [show ((2 : Int) : Rat) / ((1 : Int) : Rat) = 2 by grind] at k2
  have k1 := rof_pure 1 1 (by omega) (by omega) (by omega)
  rw [show ((1 : Int) : Rat) / ((1 : Int) : Rat) = 1 by grind] at k1
  have t0 := style_pure 0
  have t1 := style_pure 1
  have q1 := jpieceW _ _ _ 0 s00 s10 s01 jw1
  have q2 := jpieceW _ _ _ 1 s55 s10 s0m jw2
  have q3 := jpieceW _ _ _ 0 s00 s00 s01 jw3
  have v1 := psame_self (wP 1 (-1)) (by omega)
  have v2 := psame_self (wP 6 5) (by omega)
  have v3 := sharpW (wP 1 0) (wP 0 1) 2 s10 s01 sz_two
  rw [jw4] at v3
  have v4 := sharpW (wP 1 0) (wP 0 1) 1 s10 s01 (by rw [sz_one]; omega)
  rw [jw5] at v4
  have l0 : (styleS 0).cs.length = 11 := rfl
  have l1 : (styleS 1).cs.length = 11 := rfl
  have l2 := (styleS 0).ro_cs
  have l3 := (styleS 1).ro_cs
  unfold pieceA pL at q1 q2 q3
  unfold SR.av at *
  generalize (styleS 0).cs = S0 at *
  generalize (styleS 1).cs = S1 at *
  generalize wP 0 0 = P00 at *
  generalize wP 1 0 = P10 at *
  generalize wP 0 1 = P01 at *
  generalize wP 5 5 = P55 at *
  generalize wP 0 (-1) = P0m at *
  generalize wP 1 (-1) = P1m at *
  generalize wP 6 5 = P65 at *
  generalize wP 5 6 = P56 at *
  simp only [List.map_cons, List.map_nil, pA_pC, rA_rC] at *
  refine Pure.of_go mixed Tryz.func41 rfl (rs := [.tmp 0]) rfl (by kernel_rfl) (by simp -implicitDefEqProofs [go_sem]) ?_
  simp -implicitDefEqProofs [go_sem]
  refine goC_pure _ p00 (by simp -implicitDefEqProofs [go_sem]) ?_
  simp -implicitDefEqProofs [go_sem]
  refine goC_pure _ p10 (by simp -implicitDefEqProofs [go_sem]) ?_
  simp -implicitDefEqProofs [go_sem]
  refine goC_pure _ p01 (by simp -implicitDefEqProofs [go_sem]) ?_
  simp -implicitDefEqProofs [go_sem]
  refine goC_pure _ kh (by simp -implicitDefEqProofs [go_sem]) ?_
  simp -implicitDefEqProofs [go_sem]
  refine goC_pure _ t0 (by simp -implicitDefEqProofs [go_sem, ro_rC]) ?_
  simp -implicitDefEqProofs [go_sem]
  refine goC_pure _ q1 (by simp -implicitDefEqProofs [go_sem, ro_pC, l2]) ?_
  simp -implicitDefEqProofs [go_sem]
  refine goC_pure _ p55 (by simp -implicitDefEqProofs [go_sem]) ?_
  simp -implicitDefEqProofs [go_sem]
  refine goC_pure _ p10 (by simp -implicitDefEqProofs [go_sem]) ?_
  simp -implicitDefEqProofs [go_sem]
  refine goC_pure _ p0m (by simp -implicitDefEqProofs [go_sem]) ?_
  simp -implicitDefEqProofs [go_sem]
  refine goC_pure _ kh (by simp -implicitDefEqProofs [go_sem]) ?_
  simp -implicitDefEqProofs [go_sem]
  refine goC_pure _ t1 (by simp -implicitDefEqProofs [go_sem, ro_rC]) ?_
  simp -implicitDefEqProofs [go_sem]
  refine goC_pure _ q2 (by simp -implicitDefEqProofs [go_sem, ro_pC, l3]) ?_
  simp -implicitDefEqProofs [go_sem]
  refine goC_pure _ p00 (by simp -implicitDefEqProofs [go_sem]) ?_
  simp -implicitDefEqProofs [go_sem]
  refine goC_pure _ p00 (by simp -implicitDefEqProofs [go_sem]) ?_
  simp -implicitDefEqProofs [go_sem]
  refine goC_pure _ p01 (by simp -implicitDefEqProofs [go_sem]) ?_
  simp -implicitDefEqProofs [go_sem]
  refine goC_pure _ kh (by simp -implicitDefEqProofs [go_sem]) ?_
  simp -implicitDefEqProofs [go_sem]
  refine goC_pure _ t0 (by simp -implicitDefEqProofs [go_sem, ro_rC]) ?_
  simp -implicitDefEqProofs [go_sem]
  refine goC_pure _ q3 (by simp -implicitDefEqProofs [go_sem, ro_pC, l2]) ?_
  have g1 : getE [AV.agg (pC P00), AV.agg (pC P0m), AV.agg (pC P1m), AV.agg (pC P10)] 2 = .agg (pC P1m) := rfl
  have g2 : getE [AV.agg (pC P55), AV.agg (pC P65), AV.agg (pC P56)] 1 = .agg (pC P65) := rfl
  simp -implicitDefEqProofs [go_sem, g1, g2]
  refine goD_pure _ p1m (by simp -implicitDefEqProofs [go_sem]) ?_
  simp -implicitDefEqProofs [go_sem, g1, g2]
  refine goD_pure _ v1 (by simp -implicitDefEqProofs [go_sem, ro_pC]) ?_
  simp -implicitDefEqProofs [go_sem, g1, g2]
  refine goD_pure _ p65 (by simp -implicitDefEqProofs [go_sem]) ?_
  simp -implicitDefEqProofs [go_sem, g1, g2]
  refine goD_pure _ v2 (by simp -implicitDefEqProofs [go_sem, ro_pC]) ?_
  simp -implicitDefEqProofs [go_sem, g1, g2]
  refine goD_pure _ p10 (by simp -implicitDefEqProofs [go_sem]) ?_
  simp -implicitDefEqProofs [go_sem]
  refine goD_pure _ p01 (by simp -implicitDefEqProofs [go_sem]) ?_
  simp -implicitDefEqProofs [go_sem]
  refine goD_pure _ k2 (by simp -implicitDefEqProofs [go_sem]) ?_
  simp -implicitDefEqProofs [go_sem]
  refine goD_pure _ v3 (by simp -implicitDefEqProofs [go_sem, ro_pC, ro_rC]) ?_
  simp -implicitDefEqProofs [go_sem]
  refine goD_pure _ p10 (by simp -implicitDefEqProofs [go_sem]) ?_
  simp -implicitDefEqProofs [go_sem]
  refine goD_pure _ p01 (by simp -implicitDefEqProofs [go_sem]) ?_
  simp -implicitDefEqProofs [go_sem]
  refine goD_pure _ k1 (by simp -implicitDefEqProofs [go_sem]) ?_
  simp -implicitDefEqProofs [go_sem]
  refine goD_pure _ v4 (by simp -implicitDefEqProofs [go_sem, ro_pC, ro_rC]) ?_
  simp -implicitDefEqProofs [go_sem]
end Go.Proofs.YtgiheamjhoiojaaGreat
