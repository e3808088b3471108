/-
  Of the seat's texts, joined: QfA EpA EpB MaA TsA ArA.
-/
import Derived.Test.YtmhnmaklgcppbaaGreatPkCa
import Derived.Test.YtmhnmaklgcppbaaGreatPkMa
namespace Go.Proofs.YtmhnmaklgcppbaaGreat
open Go Go.Proofs
set_option linter.unusedSimpArgs false
set_option linter.unusedVariables false
set_option maxRecDepth 20000

/-! ### Fractions -/
theorem raddq (x y : Rat) (hx : sz x ≤ 17179869184) (hy : sz y ≤ 17179869184) : Pure Tryz.prog 94 [rA x, rA y] (rA (x + y)) := by
  have h := radd_pure (qc x) (qc y) (qc_sm hx) (qc_sm hy)
  rw [qc_val, qc_val] at h; exact h
theorem rsubq (x y : Rat) (hx : sz x ≤ 17179869184) (hy : sz y ≤ 17179869184) : Pure Tryz.prog 49 [rA x, rA y] (rA (x - y)) := by
  have h := rsub_pure (qc x) (qc y) (qc_sm hx) (qc_sm hy)
  rw [qc_val, qc_val] at h; exact h
theorem rmulq (x y : Rat) (hx : sz x ≤ 17179869184) (hy : sz y ≤ 17179869184) : Pure Tryz.prog 51 [rA x, rA y] (rA (x * y)) := by
  have h := rmul_pure (qc x) (qc y) (qc_sm hx) (qc_sm hy)
  rw [qc_val, qc_val] at h; exact h
theorem rdivq (x y : Rat) (hx : sz x ≤ 17179869184) (hy : sz y ≤ 17179869184) (h0 : y ≠ 0) : Pure Tryz.prog 100 [rA x, rA y] (.tup [rA (x / y), .int .i64 0]) := by
  have h := rdiv_pure (qc x) (qc y) (qc_sm hx) (qc_sm hy)
  rw [qc_val, qc_val, if_neg h0] at h; exact h
theorem rnegq (x : Rat) (hx : sz x ≤ 17179869184) : Pure Tryz.prog 43 [rA x] (rA (-x)) := by
  have h := rneg_pure (qc x) (qc_sm hx).ok
  rw [qc_val] at h; exact h
theorem rsignq (x : Rat) (hx : sz x ≤ 17179869184) : Pure Tryz.prog 39 [rA x] (.int .i64 (sgnQ x)) := by
  have h := rsign_pure (qc x) (qc_sm hx).ok
  rw [qc_val] at h; exact h
theorem rcmpq (x y : Rat) (hx : sz x ≤ 17179869184) (hy : sz y ≤ 17179869184) : Pure Tryz.prog 24 [rA x, rA y] (.int .i64 (cmpQ x y)) := by
  have h := rcmp_pure (qc x) (qc y) (qc_sm hx) (qc_sm hy)
  rw [qc_val, qc_val] at h; exact h
theorem finq (x : Rat) (hx : sz x ≤ 17179869184) : Pure Tryz.prog 29 [rA x] (fA x) := by
  have h1 := sz_num x
  have h2 := sz_den x
  have h := fin_pure (qc x) (qc_sm hx).ok (by rw [show (qc x).num = x.num from qc_num x]; omega) (by rw [show (qc x).den = x.den from qc_den x]; omega)
  rw [qc_val] at h; exact h
/-- The cells of a fraction, and of a point. -/
def rC (x : Rat) : List AV := [.bool (qc x).neg, nA (qc x).p, nA (qc x).q]
theorem rA_rC (x : Rat) : rA x = .agg (rC x) := rfl
@[go_sem] theorem rC_len (x : Rat) : (rC x).length = 3 := rfl
@[go_sem] theorem rC_take (x : Rat) : (rC x).take 3 = rC x := rfl
@[go_sem] theorem rC_drop (x : Rat) : (rC x).drop 3 = [] := rfl
theorem ro_rC (x : Rat) : roL (rC x) := by unfold rC; simp -implicitDefEqProofs [go_sem]
@[go_sem] theorem clo_rC (n : Nat) (x : Rat) : cloL n (rC x) := cloL_ro _ (ro_rC x)
@[go_sem] theorem ren_rC (rn : Nat → Nat) (x : Rat) : renL rn (rC x) = rC x := renL_ro rn _ (ro_rC x)
@[go_sem] theorem fits_rC (f : Nat → BS) (x : Rat) : fitsL f (rC x) := fitsL_ro f _ (ro_rC x)
@[go_sem] theorem view_rC (f : Nat → BS) (x : Rat) : viewL f (rC x) = rC x := viewL_ro f _ (ro_rC x)
def pC (p : PQ) : List AV := [.bool (qc p.x).neg, nA (qc p.x).p, nA (qc p.x).q, .bool (qc p.y).neg, nA (qc p.y).p, nA (qc p.y).q]
theorem pA_pC (p : PQ) : pA p = .agg (pC p) := rfl
theorem pC_rC (p : PQ) : pC p = rC p.x ++ rC p.y := rfl
@[go_sem] theorem pC_len (p : PQ) : (pC p).length = 6 := rfl
@[go_sem] theorem pC_take (p : PQ) : (pC p).take 6 = pC p := rfl
@[go_sem] theorem pC_drop (p : PQ) : (pC p).drop 6 = [] := rfl
@[go_sem] theorem pC_take3 (p : PQ) : (pC p).take 3 = rC p.x := rfl
@[go_sem] theorem pC_drop3 (p : PQ) : (pC p).drop 3 = rC p.y := rfl
theorem ro_pC (p : PQ) : roL (pC p) := by unfold pC; simp -implicitDefEqProofs [go_sem]
@[go_sem] theorem clo_pC (n : Nat) (p : PQ) : cloL n (pC p) := cloL_ro _ (ro_pC p)
@[go_sem] theorem ren_pC (rn : Nat → Nat) (p : PQ) : renL rn (pC p) = pC p := renL_ro rn _ (ro_pC p)
@[go_sem] theorem fits_pC (f : Nat → BS) (p : PQ) : fitsL f (pC p) := fitsL_ro f _ (ro_pC p)
@[go_sem] theorem view_pC (f : Nat → BS) (p : PQ) : viewL f (pC p) = pC p := viewL_ro f _ (ro_pC p)

/-! ### Points -/
theorem paddq (p q : PQ) (hp : p.sz ≤ 17179869184) (hq : q.sz ≤ 17179869184) : Pure Tryz.prog 42 [pA p, pA q] (pA (p.add q)) := by
  have h := padd_pure (pc p) (pc q) (pc_in hp) (pc_in hq)
  rw [pc_val, pc_val] at h; exact h
theorem psubq (p q : PQ) (hp : p.sz ≤ 17179869184) (hq : q.sz ≤ 17179869184) : Pure Tryz.prog 41 [pA p, pA q] (pA (p.sub q)) := by
  have h := psub_pure (pc p) (pc q) (pc_in hp) (pc_in hq)
  rw [pc_val, pc_val] at h; exact h
theorem pscaleq (p : PQ) (k : Rat) (hp : p.sz ≤ 17179869184) (hk : sz k ≤ 17179869184) : Pure Tryz.prog 80 [pA p, rA k] (pA (p.scale k)) := by
  have h := pscale_pure (pc p) (qc k) (pc_in hp) (qc_in hk)
  rw [pc_val, qc_val] at h; exact h
theorem pmixq (p q : PQ) (t : Rat) (hp : p.sz ≤ 1073741824) (hq : q.sz ≤ 1073741824) (ht : sz t ≤ 1073741824) : Pure Tryz.prog 105 [pA p, pA q, rA t] (pA (p.mix q t)) := by
  have h := pmix_pure (pc p) (pc q) (qc t) (pc_in hp) (pc_in hq) (qc_in ht)
  rw [pc_val, pc_val, qc_val] at h; exact h
theorem pfarq (p q : PQ) (hp : p.sz ≤ 1073741824) (hq : q.sz ≤ 1073741824) : Pure Tryz.prog 50 [pA p, pA q] (rA (p.far q)) := by
  have h := pfar_pure (pc p) (pc q) (pc_in hp) (pc_in hq)
  rw [pc_val, pc_val] at h; exact h
theorem porientq (a b c : PQ) (ha : a.sz ≤ 1073741824) (hb : b.sz ≤ 1073741824) (hc : c.sz ≤ 1073741824) : Pure Tryz.prog 52 [pA a, pA b, pA c] (.int .i64 (PQ.orient a b c)) := by
  have h := porient_pure (pc a) (pc b) (pc c) (pc_in ha) (pc_in hb) (pc_in hc)
  rw [pc_val, pc_val, pc_val] at h; exact h
/-- A list of points. -/
def pL (l : List PQ) : AV := .sl 6 false (l.map pA)
@[go_sem] theorem roL_pA (l : List PQ) : roL (l.map pA) := roL_map ro_pA
theorem ro_pL (l : List PQ) : ro (pL l) := by unfold pL; simp only [ro]; exact roL_pA l
@[go_sem] theorem renL_pA (rn : Nat → Nat) (l : List PQ) : renL rn (l.map pA) = l.map pA := renL_ro rn _ (roL_pA l)
@[go_sem] theorem cloL_pA (n : Nat) (l : List PQ) : cloL n (l.map pA) := cloL_ro _ (roL_pA l)
@[go_sem] theorem fitsL_pA (f : Nat → BS) (l : List PQ) : fitsL f (l.map pA) := fitsL_ro f _ (roL_pA l)
@[go_sem] theorem viewL_pA (f : Nat → BS) (l : List PQ) : viewL f (l.map pA) = l.map pA := viewL_ro f _ (roL_pA l)
theorem getE_pA {l : List PQ} {i : Nat} (h : i < l.length) : getE (l.map pA) (i : Int) = .agg (pC l[i]) := by
  simp [getE, List.getD_eq_getElem?_getD, h, pA_pC]
/-- Two lists of points are alike. -/
theorem pts_self (p : PQ) (h : p.sz < 1099511627776) : Pure Tryz.prog 82 [pA p, pA p] (.bool true) := by
  have := p.sz_x; have := p.sz_y
  have h1 := rats_self p.x (by omega)
  have h2 := rats_self p.y (by omega)
  refine Pure.of_go mixed Tryz.func82 rfl (rs := [.tmp 4]) rfl (by kernel_rfl) (by simp -implicitDefEqProofs [go_sem]) ?_
  rw [pA_pC]
  rw [rA_rC] at h1 h2
  simp -implicitDefEqProofs [go_sem]
  refine goC_pure _ h1 (by simp -implicitDefEqProofs [go_sem, ro_rC]) ?_
  simp -implicitDefEqProofs [go_sem]
  refine goC_pure _ h2 (by simp -implicitDefEqProofs [go_sem, ro_rC]) ?_
  simp -implicitDefEqProofs [go_sem]
theorem lines_self (l : List PQ) (hl : l.length < 1099511627776) (hs : ∀ p ∈ l, p.sz < 1099511627776) : Pure Tryz.prog 32 [pL l, pL l] (.bool true) := by
  refine Pure.of_go mixed Tryz.func32 rfl (rs := [.tmp 4]) rfl (by kernel_rfl) (by simp -implicitDefEqProofs [go_sem]) ?_
  unfold pL
  simp -implicitDefEqProofs [go_sem]
  refine go_loopN 9 (α := {i : Nat // i ≤ l.length}) (fun i => [(0, pL l), (1, pL l), (5, .int .i64 i.1)]) (fun i => []) (fun i => l.length - i.1) ⟨0, by omega⟩ [] (by simp) (by simp) (by simp) (by simp -implicitDefEqProofs [go_sem, pL]) (by simp -implicitDefEqProofs [go_sem]) fun ⟨i, hi⟩ => ?_
  simp -implicitDefEqProofs [go_sem, pL]
  intro h
  have hg := getE_pA h
  have es : IntKind.i64.wrap ((i : Int) + 1) = (i + 1 : Nat) := by rw [w64 (by omega)]; omega
  have hp := pts_self l[i] (hs _ (List.getElem_mem _))
  rw [pA_pC] at hp
  simp -implicitDefEqProofs [go_sem, hg]
  refine ⟨h, goD_pure _ hp (by simp -implicitDefEqProofs [go_sem, ro_pC]) ?_⟩
  simp -implicitDefEqProofs [go_sem, es]
  exact go_again ⟨i + 1, by omega⟩ (by simp only; omega) [] (by simp) (by simp) (by simp) (by simp -implicitDefEqProofs [go_sem, pL]) (by simp -implicitDefEqProofs [go_sem])
theorem psame_self (p : PQ) (h : p.sz ≤ 17179869184) : Pure Tryz.prog 44 [pA p, pA p] (.bool true) := by
  have := psameq_pure p p h h
  rwa [decide_eq_true rfl] at this
end Go.Proofs.YtmhnmaklgcppbaaGreat
namespace Go.Proofs.YtmhnmaklgcppbaaGreat
open Go Go.Proofs
set_option linter.unusedSimpArgs false
set_option linter.unusedVariables false
set_option maxRecDepth 20000

/-- The cells of a fraction, and of a point, of the reference. -/
def fC (x : Rat) : List AV := [.bool (decide (x.num < 0)), qA x.num.natAbs, qA x.den]
theorem fA_fC (x : Rat) : fA x = .agg (fC x) := rfl
@[go_sem] theorem fC_len (x : Rat) : (fC x).length = 3 := rfl
@[go_sem] theorem fC_take (x : Rat) : (fC x).take 3 = fC x := rfl
@[go_sem] theorem fC_drop (x : Rat) : (fC x).drop 3 = [] := rfl
theorem ro_fC (x : Rat) : roL (fC x) := by have := ro_fA x; rw [fA_fC] at this; simpa only [ro] using this
@[go_sem] theorem clo_fC (n : Nat) (x : Rat) : cloL n (fC x) := cloL_ro _ (ro_fC x)
@[go_sem] theorem ren_fC (rn : Nat → Nat) (x : Rat) : renL rn (fC x) = fC x := renL_ro rn _ (ro_fC x)
@[go_sem] theorem fits_fC (f : Nat → BS) (x : Rat) : fitsL f (fC x) := fitsL_ro f _ (ro_fC x)
@[go_sem] theorem view_fC (f : Nat → BS) (x : Rat) : viewL f (fC x) = fC x := viewL_ro f _ (ro_fC x)
def eC (p : PQ) : List AV := [.bool (decide (p.x.num < 0)), qA p.x.num.natAbs, qA p.x.den, .bool (decide (p.y.num < 0)), qA p.y.num.natAbs, qA p.y.den]
theorem eA_eC (p : PQ) : eA p = .agg (eC p) := rfl
@[go_sem] theorem eC_len (p : PQ) : (eC p).length = 6 := rfl
@[go_sem] theorem eC_take (p : PQ) : (eC p).take 6 = eC p := rfl
@[go_sem] theorem eC_drop (p : PQ) : (eC p).drop 6 = [] := rfl
@[go_sem] theorem eC_take3 (p : PQ) : (eC p).take 3 = fC p.x := rfl
@[go_sem] theorem eC_drop3 (p : PQ) : (eC p).drop 3 = fC p.y := rfl
theorem ro_eC (p : PQ) : roL (eC p) := by have := ro_eA p; rw [eA_eC] at this; simpa only [ro] using this
@[go_sem] theorem clo_eC (n : Nat) (p : PQ) : cloL n (eC p) := cloL_ro _ (ro_eC p)
@[go_sem] theorem ren_eC (rn : Nat → Nat) (p : PQ) : renL rn (eC p) = eC p := renL_ro rn _ (ro_eC p)
@[go_sem] theorem fits_eC (f : Nat → BS) (p : PQ) : fitsL f (eC p) := fitsL_ro f _ (ro_eC p)
@[go_sem] theorem view_eC (f : Nat → BS) (p : PQ) : viewL f (eC p) = eC p := viewL_ro f _ (ro_eC p)
@[go_sem] theorem bld_ept (x y : Rat) : fC x ++ (fC y ++ List.drop 6 (fC x ++ [AV.bool false, AV.sl 0 true [], AV.sl 0 true []])) = eC ⟨x, y⟩ := rfl
/-- A list of points of the reference. -/
def eL (l : List PQ) : AV := .sl 6 false (l.map eA)
@[go_sem] theorem roL_eA (l : List PQ) : roL (l.map eA) := roL_map ro_eA
theorem ro_eL (l : List PQ) : ro (eL l) := by unfold eL; simp only [ro]; exact roL_eA l
@[go_sem] theorem renL_eA (rn : Nat → Nat) (l : List PQ) : renL rn (l.map eA) = l.map eA := renL_ro rn _ (roL_eA l)
@[go_sem] theorem cloL_eA (n : Nat) (l : List PQ) : cloL n (l.map eA) := cloL_ro _ (roL_eA l)
@[go_sem] theorem fitsL_eA (f : Nat → BS) (l : List PQ) : fitsL f (l.map eA) := fitsL_ro f _ (roL_eA l)
@[go_sem] theorem viewL_eA (f : Nat → BS) (l : List PQ) : viewL f (l.map eA) = l.map eA := viewL_ro f _ (roL_eA l)
theorem getE_eA {l : List PQ} {i : Nat} (h : i < l.length) : getE (l.map eA) (i : Int) = .agg (eC l[i]) := by
  simp [getE, List.getD_eq_getElem?_getD, h, eA_eC]

theorem e_parts (p : PQ) {n : Nat} (h : p.sz ≤ n) : sz p.x ≤ n ∧ sz p.y ≤ n := ⟨Nat.le_trans p.sz_x h, Nat.le_trans p.sz_y h⟩
theorem eadd_pure (p q : PQ) (hp : p.sz ≤ 17179869184) (hq : q.sz ≤ 17179869184) : Pure Tryz.prog 88 [eA p, eA q] (eA (p.add q)) := by
  obtain ⟨p1, p2⟩ := e_parts p hp
  obtain ⟨q1, q2⟩ := e_parts q hq
  have h1 := fadd_pure p.x q.x p1 q1
  have h2 := fadd_pure p.y q.y p2 q2
  refine Pure.of_go mixed Tryz.func88 rfl (rs := [.cell 4 61]) rfl (by kernel_rfl) (ro_eA _) ?_
  simp only [eA_eC, fA_fC] at *
  simp -implicitDefEqProofs [go_sem]
  refine goD_pure _ h1 (by simp -implicitDefEqProofs [go_sem, ro_fC]) ?_
  simp -implicitDefEqProofs [go_sem]
  refine goD_pure _ h2 (by simp -implicitDefEqProofs [go_sem, ro_fC]) ?_
  simp -implicitDefEqProofs [go_sem, rop, PQ.add]
theorem esub_pure (p q : PQ) (hp : p.sz ≤ 17179869184) (hq : q.sz ≤ 17179869184) : Pure Tryz.prog 165 [eA p, eA q] (eA (p.sub q)) := by
  obtain ⟨p1, p2⟩ := e_parts p hp
  obtain ⟨q1, q2⟩ := e_parts q hq
  have h1 := fsub_pure p.x q.x p1 q1
  have h2 := fsub_pure p.y q.y p2 q2
  refine Pure.of_go mixed Tryz.func165 rfl (rs := [.cell 4 61]) rfl (by kernel_rfl) (ro_eA _) ?_
  simp only [eA_eC, fA_fC] at *
  simp -implicitDefEqProofs [go_sem]
  refine goD_pure _ h1 (by simp -implicitDefEqProofs [go_sem, ro_fC]) ?_
  simp -implicitDefEqProofs [go_sem]
  refine goD_pure _ h2 (by simp -implicitDefEqProofs [go_sem, ro_fC]) ?_
  simp -implicitDefEqProofs [go_sem, rop, PQ.sub]
theorem escale_pure (p : PQ) (k : Rat) (hp : p.sz ≤ 17179869184) (hk : sz k ≤ 17179869184) : Pure Tryz.prog 164 [eA p, fA k] (eA (p.scale k)) := by
  obtain ⟨p1, p2⟩ := e_parts p hp
  have h1 := fmul_pure p.x k p1 hk
  have h2 := fmul_pure p.y k p2 hk
  refine Pure.of_go mixed Tryz.func164 rfl (rs := [.cell 4 61]) rfl (by kernel_rfl) (ro_eA _) ?_
  simp only [eA_eC, fA_fC] at *
  simp -implicitDefEqProofs [go_sem]
  refine goD_pure _ h1 (by simp -implicitDefEqProofs [go_sem, ro_fC]) ?_
  simp -implicitDefEqProofs [go_sem]
  refine goD_pure _ h2 (by simp -implicitDefEqProofs [go_sem, ro_fC]) ?_
  simp -implicitDefEqProofs [go_sem, rop, PQ.scale]
theorem edot_pure (p q : PQ) (hp : p.sz ≤ 4294967296) (hq : q.sz ≤ 4294967296) : Pure Tryz.prog 166 [eA p, eA q] (fA (p.dot q)) := by
  obtain ⟨p1, p2⟩ := e_parts p hp
  obtain ⟨q1, q2⟩ := e_parts q hq
  have h1 := fmul_pure p.x q.x (by omega) (by omega)
  have h2 := fmul_pure p.y q.y (by omega) (by omega)
  have s1 := sz_mul p.x q.x; have s2 := sz_mul p.y q.y
  have h3 := fadd_pure (p.x * q.x) (p.y * q.y) (by omega) (by omega)
  rw [show p.x * q.x + p.y * q.y = p.dot q from rfl] at h3
  refine Pure.of_go mixed Tryz.func166 rfl (rs := [.cell 4 59]) rfl (by kernel_rfl) (ro_fA _) ?_
  simp only [eA_eC, fA_fC] at *
  simp -implicitDefEqProofs [go_sem]
  refine goD_pure _ h1 (by simp -implicitDefEqProofs [go_sem, ro_fC]) ?_
  simp -implicitDefEqProofs [go_sem]
  refine goD_pure _ h2 (by simp -implicitDefEqProofs [go_sem, ro_fC]) ?_
  simp -implicitDefEqProofs [go_sem]
  refine goD_pure _ h3 (by simp -implicitDefEqProofs [go_sem, ro_fC]) ?_
  simp -implicitDefEqProofs [go_sem, rop]
theorem emix_pure (p q : PQ) (t : Rat) (hp : p.sz ≤ 1073741824) (hq : q.sz ≤ 1073741824) (ht : sz t ≤ 1073741824) : Pure Tryz.prog 135 [eA p, eA q, fA t] (eA (p.mix q t)) := by
  have h1 := esub_pure q p (by omega) (by omega)
  have s1 := PQ.sz_sub q p
  have h2 := escale_pure (q.sub p) t (by omega) (by omega)
  have s2 := PQ.sz_scale (q.sub p) t
  have h3 := eadd_pure p ((q.sub p).scale t) (by omega) (by omega)
  rw [show p.add ((q.sub p).scale t) = p.mix q t from rfl] at h3
  generalize p.mix q t = r at *
  generalize (q.sub p).scale t = u at *
  generalize q.sub p = v at *
  refine Pure.of_go mixed Tryz.func135 rfl (rs := [.cell 6 61]) rfl (by kernel_rfl) (ro_eA _) ?_
  simp only [eA_eC, fA_fC] at *
  simp -implicitDefEqProofs [go_sem]
  refine goD_pure _ h1 (by simp -implicitDefEqProofs [go_sem, ro_eC]) ?_
  simp -implicitDefEqProofs [go_sem]
  refine goD_pure _ h2 (by simp -implicitDefEqProofs [go_sem, ro_eC, ro_fC]) ?_
  simp -implicitDefEqProofs [go_sem]
  refine goD_pure _ h3 (by simp -implicitDefEqProofs [go_sem, ro_eC]) ?_
  simp -implicitDefEqProofs [go_sem, rop]
theorem efar_pure (p q : PQ) (hp : p.sz ≤ 1073741824) (hq : q.sz ≤ 1073741824) : Pure Tryz.prog 136 [eA p, eA q] (fA (p.far q)) := by
  have h1 := esub_pure p q (by omega) (by omega)
  have s1 := PQ.sz_sub p q
  have h2 := edot_pure (p.sub q) (p.sub q) (by omega) (by omega)
  rw [show (p.sub q).dot (p.sub q) = p.far q from rfl] at h2
  generalize p.far q = r at *
  generalize p.sub q = v at *
  refine Pure.of_go mixed Tryz.func136 rfl (rs := [.cell 4 59]) rfl (by kernel_rfl) (ro_fA _) ?_
  simp only [eA_eC, fA_fC] at *
  simp -implicitDefEqProofs [go_sem]
  refine goD_pure _ h1 (by simp -implicitDefEqProofs [go_sem, ro_eC]) ?_
  simp -implicitDefEqProofs [go_sem]
  refine goD_pure _ h1 (by simp -implicitDefEqProofs [go_sem, ro_eC]) ?_
  simp -implicitDefEqProofs [go_sem]
  refine goD_pure _ h2 (by simp -implicitDefEqProofs [go_sem, ro_eC]) ?_
  simp -implicitDefEqProofs [go_sem, rop]
theorem ein_pure (p : PR) (hp : p.In 17179869184) : Pure Tryz.prog 28 [p.av] (eA p.val) := by
  have k1 := hp.x.sz; have k2 := hp.y.sz
  have finr : ∀ z : RQ, z.In 17179869184 → Pure Tryz.prog 29 [z.av] (fA z.val) := fun z hz => fin_pure z hz.sm.ok (by
      have : nl z.num.natAbs ≤ z.p.length := by unfold RQ.num; rw [sgn_abs]; exact nl_lv hz.limp
      have := hz.lp; omega) (by
      have : nl z.den ≤ max 1 z.q.length := by
        unfold RQ.den; split
        · rw [nl_one]; omega
        · have := nl_lv hz.limq; omega
      have := hz.lq; omega)
  have h1 := finr p.x hp.x
  have h2 := finr p.y hp.y
  refine Pure.of_go mixed Tryz.func28 rfl (rs := [.cell 2 61]) rfl (by kernel_rfl) (ro_eA _) ?_
  unfold PR.av RQ.av PR.val at *
  simp only [eA_eC, fA_fC] at *
  generalize p.x.val = vx at *
  generalize p.y.val = vy at *
  simp -implicitDefEqProofs [go_sem]
  refine goD_pure _ h1 (by simp -implicitDefEqProofs [go_sem]) ?_
  simp -implicitDefEqProofs [go_sem]
  refine goD_pure _ h2 (by simp -implicitDefEqProofs [go_sem]) ?_
  simp -implicitDefEqProofs [go_sem, rop]
end Go.Proofs.YtmhnmaklgcppbaaGreat
namespace Go.Proofs.YtmhnmaklgcppbaaGreat
open Go Go.Proofs
set_option linter.unusedSimpArgs false
set_option linter.unusedVariables false
set_option maxRecDepth 20000

set_option maxHeartbeats 4000000 in
theorem eouts_pure (l : List PQ) (hl : l.length < 1099511627) (hs : ∀ p ∈ l, p.sz ≤ 4294967296) : Pure Tryz.prog 33 [eL l] (pL l) := by
  refine Pure.of_ca (ro_pL _) (CA.of_go mixed Tryz.func33 rfl (rs := [.tmp 2]) rfl (by kernel_rfl) ?_)
  obtain ⟨V, hV⟩ : ∃ V, V = l.map pA := ⟨_, rfl⟩
  have hVl : V.length = l.length := by rw [hV]; simp
  have hVr : ∀ i, roL (V.take i) := fun i => roL_take (by rw [hV]; exact roL_pA _)
  have hgoal : pL l = .sl 6 false V := by rw [hV]; rfl
  rw [hgoal]
  unfold eL
  simp -implicitDefEqProofs [go_sem]
  refine go_loopN 2 (α := {i : Nat // i ≤ l.length}) (fun i => [(0, .sl 6 false (l.map eA)), (3, apv 6 1 (V.take i.1)), (4, .int .i64 i.1)]) (fun i => apb 6 1 (V.take i.1)) (fun i => l.length - i.1) ⟨0, Nat.zero_le _⟩ [] (by simp) (fun _ _ _ _ h => h) (by simp) (by simp -implicitDefEqProofs [go_sem]) (by simp -implicitDefEqProofs [go_sem]) fun ⟨i, hi⟩ => ?_
  have hTl : (V.take i).length = i := by rw [List.length_take]; omega
  have hb : V.take i ≠ [] → hp 2 (apb 6 1 (V.take i)) 1 = .live 6 (V.take i) := fun h => by rw [apb_ne h]; simp [hp, upd]
  simp -implicitDefEqProofs [go_sem]
  refine ⟨fun h => ?_, fun h => ?_⟩
  · have hg := getE_eA h
    have es : IntKind.i64.wrap ((i : Int) + 1) = (i + 1 : Nat) := by rw [w64 (by omega)]; omega
    have ho := eout_pure l[i] (by have := hs _ (List.getElem_mem h); omega)
    have hsc : V.take (i + 1) = V.take i ++ [.agg (pC l[i])] := by
      rw [List.take_succ_eq_append_getElem (by omega)]
      subst hV; simp [pA_pC]
    have hr1 := hVr (i + 1)
    rw [hsc] at hr1
    generalize l[i] = p at *
    simp only [eA_eC, pA_pC] at ho
    simp -implicitDefEqProofs [go_sem, hg]
    refine ⟨h, goC_pure _ ho (by simp -implicitDefEqProofs [go_sem, ro_eC]) ?_⟩
    simp -implicitDefEqProofs [go_sem]
    refine goApS_apv (.inl rfl) (by omega) (by omega) (by simp -implicitDefEqProofs [go_sem]) (by simp [hTl] <;> omega) (by simp -implicitDefEqProofs [go_sem] <;> exact hb) ?_
    simp -implicitDefEqProofs [go_sem, es]
    have hn1 : V.take (i + 1) ≠ [] := by rw [hsc]; simp
    have r1 := (renL_ro (nm [(1, 3)]) _ hr1).symm
    have r2 := cloL_ro (n := 2) _ hr1
    have hl1 : (V.take (i + 1)).length = (V.take i).length + 1 := by rw [hsc]; simp
    refine go_again ⟨i + 1, h⟩ (by simp only; omega) [(1, 3)] (by simp) (by simp only [apb_ne hn1]; simp [nm]) (by simp) (by simp only [apv_ne hn1, hl1]; simp -implicitDefEqProofs [go_sem, es]) (by simp only [apb_ne hn1, hsc]; simp -implicitDefEqProofs [go_sem, ← r1, r2])
  · have hii : i = l.length := by omega
    have hTV : V.take i = V := List.take_of_length_le (by omega)
    rw [hTV] at hb ⊢
    exact apv_told (by rw [hV]; exact roL_pA _) hb
end Go.Proofs.YtmhnmaklgcppbaaGreat
namespace Go.Proofs.YtmhnmaklgcppbaaGreat
open Go Go.Proofs
set_option linter.unusedSimpArgs false
set_option linter.unusedVariables false
set_option maxRecDepth 20000

theorem sq_nn (x : Rat) : 0 ≤ x * x := by
  rcases (Rat.le_total : 0 ≤ x ∨ x ≤ 0) with h | h
  · exact Rat.mul_nonneg h h
  · have := Rat.mul_nonneg (show 0 ≤ -x by grind) (show 0 ≤ -x by grind)
    grind
theorem sq_pos {x : Rat} (h : x ≠ 0) : 0 < x * x := by
  have := sq_nn x
  have : x * x ≠ 0 := fun hh => h (by rcases Rat.mul_eq_zero.1 hh with h | h <;> exact h)
  grind
/-- What is below another one by its square. -/
theorem lt_of_sq {x y : Rat} (hy : 0 < y) (h : x * x < y * y) : x < y := by
  rcases (Rat.le_total : x ≤ y ∨ y ≤ x) with h1 | h1
  · rcases Classical.em (x = y) with h2 | h2
    · subst h2; grind
    · grind
  · have := Rat.mul_nonneg (show 0 ≤ x - y by grind) (show 0 ≤ x + y by grind)
    grind
theorem PQ.dot_nn (p : PQ) : 0 ≤ p.dot p := by
  have h1 := sq_nn p.x; have h2 := sq_nn p.y
  unfold PQ.dot
  grind
theorem rq_cs_ro (h : RQ) : roL [.bool h.neg, nA h.p, nA h.q] := by simp -implicitDefEqProofs [go_sem]
theorem PQ.sz_dot (p q : PQ) : Go.Proofs.YtmhnmaklgcppbaaGreat.sz (p.dot q) ≤ 2 * (p.sz + q.sz) + 1 := by
  have h1 := sz_mul p.x q.x; have h2 := sz_mul p.y q.y
  have h3 := Go.Proofs.YtmhnmaklgcppbaaGreat.sz_add (p.x * q.x) (p.y * q.y)
  have := p.sz_x; have := p.sz_y; have := q.sz_x; have := q.sz_y
  unfold PQ.dot; omega
theorem PQ.sz_cross (p q : PQ) : Go.Proofs.YtmhnmaklgcppbaaGreat.sz (p.cross q) ≤ 2 * (p.sz + q.sz) + 1 := by
  have h1 := sz_mul p.x q.y; have h2 := sz_mul p.y q.x
  have h3 := Go.Proofs.YtmhnmaklgcppbaaGreat.sz_sub (p.x * q.y) (p.y * q.x)
  have := p.sz_x; have := p.sz_y; have := q.sz_x; have := q.sz_y
  unfold PQ.cross; omega
theorem PQ.sz_far (p q : PQ) : Go.Proofs.YtmhnmaklgcppbaaGreat.sz (p.far q) ≤ 4 * (p.sz + q.sz + 1) + 1 := by
  have h1 := PQ.sz_sub p q
  have h2 := PQ.sz_dot (p.sub q) (p.sub q)
  unfold PQ.far; omega
theorem PQ.sz_mix (p q : PQ) (t : Rat) : (p.mix q t).sz ≤ 2 * p.sz + q.sz + Go.Proofs.YtmhnmaklgcppbaaGreat.sz t + 2 := by
  have q1 := PQ.sz_sub q p
  have q2 := PQ.sz_scale (q.sub p) t
  have q3 := PQ.sz_add p ((q.sub p).scale t)
  unfold PQ.mix; omega
theorem half_eq : half = ((1 : Int) : Rat) / ((2 : Int) : Rat) := rfl
theorem sgnQ_le {x : Rat} : sgnQ x ≤ 0 ↔ x ≤ 0 := by
  have := @sgnQ_gt x
  constructor
  · intro h; rcases (Rat.le_total : x ≤ 0 ∨ 0 ≤ x) with h1 | h1
    · exact h1
    · have : ¬ 0 < x := fun h2 => by have := this.2 h2; omega
      grind
  · intro h
    have : ¬ 0 < sgnQ x := fun h2 => by have := this.1 h2; grind
    omega
theorem cmpQ_le {x y : Rat} : cmpQ x y ≤ 0 ↔ x ≤ y := by
  have := @cmpQ_gt x y
  constructor
  · intro h; rcases (Rat.le_total : x ≤ y ∨ y ≤ x) with h1 | h1
    · exact h1
    · have : ¬ y < x := fun h2 => by have := this.2 h2; omega
      grind
  · intro h
    have : ¬ 0 < cmpQ x y := fun h2 => by have := this.1 h2; grind
    omega
theorem far_comm (p q : PQ) : p.far q = q.far p := by
  simp only [PQ.far, PQ.dot, PQ.sub]; grind
end Go.Proofs.YtmhnmaklgcppbaaGreat
namespace Go.Proofs.YtmhnmaklgcppbaaGreat
open Go Go.Proofs
set_option linter.unusedSimpArgs false
set_option linter.unusedVariables false

/-- How far a point is from a segment: squared. -/
def tsQ (p a b : PQ) : Rat :=
  if (b.sub a).dot (b.sub a) = 0 then p.far a
  else if (p.sub a).dot (b.sub a) / (b.sub a).dot (b.sub a) < 0 then p.far a
  else if 1 < (p.sub a).dot (b.sub a) / (b.sub a).dot (b.sub a) then p.far b
  else p.far (a.mix b ((p.sub a).dot (b.sub a) / (b.sub a).dot (b.sub a)))
theorem far_mix (p a b : PQ) (s : Rat) : p.far (a.mix b s) = p.far a - 2 * s * (p.sub a).dot (b.sub a) + s * s * (b.sub a).dot (b.sub a) := by
  unfold PQ.far PQ.mix PQ.dot PQ.sub PQ.add PQ.scale; simp only; grind
theorem mix_one (a b : PQ) : a.mix b 1 = b := by
  unfold PQ.mix PQ.sub PQ.add PQ.scale
  exact PQ.ext (by simp only; grind) (by simp only; grind)
theorem mix_zero (a b : PQ) : a.mix b 0 = a := by
  unfold PQ.mix PQ.sub PQ.add PQ.scale
  exact PQ.ext (by simp only; grind) (by simp only; grind)
theorem PQ.dot0 {d : PQ} (h : d.dot d = 0) : d.x = 0 ∧ d.y = 0 := by
  unfold PQ.dot at h
  have h1 := sq_nn d.x; have h2 := sq_nn d.y
  have e1 : d.x * d.x = 0 := by grind
  have e2 : d.y * d.y = 0 := by grind
  exact ⟨by rcases Rat.mul_eq_zero.1 e1 with h | h <;> exact h, by rcases Rat.mul_eq_zero.1 e2 with h | h <;> exact h⟩
theorem tsQ_at (p a b : PQ) : ∃ s, 0 ≤ s ∧ s ≤ 1 ∧ tsQ p a b = p.far (a.mix b s) := by
  unfold tsQ
  split
  · exact ⟨0, by grind, by grind, by rw [mix_zero]⟩
  · split
    · exact ⟨0, by grind, by grind, by rw [mix_zero]⟩
    · split
      · exact ⟨1, by grind, by grind, by rw [mix_one]⟩
      · exact ⟨_, by grind, by grind, rfl⟩
theorem tsQ_le (p a b : PQ) {s : Rat} (h0 : 0 ≤ s) (h1 : s ≤ 1) : tsQ p a b ≤ p.far (a.mix b s) := by
  have hD : 0 ≤ (b.sub a).dot (b.sub a) := by
    have h1 := sq_nn (b.sub a).x; have h2 := sq_nn (b.sub a).y
    unfold PQ.dot; grind
  rw [far_mix p a b s]
  unfold tsQ
  split
  · rename_i h
    have := PQ.dot0 h
    have e : (p.sub a).dot (b.sub a) = 0 := by conv => lhs; unfold PQ.dot
                                               rw [this.1, this.2]; grind
    rw [h, e]; grind
  · rename_i hne
    have hp : 0 < (b.sub a).dot (b.sub a) := by grind
    have e : (p.sub a).dot (b.sub a) = ((p.sub a).dot (b.sub a) / (b.sub a).dot (b.sub a)) * (b.sub a).dot (b.sub a) := by grind
    split
    · rename_i h
      generalize (p.sub a).dot (b.sub a) / (b.sub a).dot (b.sub a) = t at *
      rw [e]
      generalize (b.sub a).dot (b.sub a) = D at *
      have := Rat.mul_nonneg (Rat.mul_nonneg h0 hD) (show 0 ≤ s - 2 * t by grind)
      grind
    · split
      · rename_i h
        have fb : p.far b = p.far a - 2 * 1 * (p.sub a).dot (b.sub a) + 1 * 1 * (b.sub a).dot (b.sub a) := by rw [← far_mix, mix_one]
        rw [fb]
        generalize (p.sub a).dot (b.sub a) / (b.sub a).dot (b.sub a) = t at *
        rw [e]
        generalize (b.sub a).dot (b.sub a) = D at *
        have := Rat.mul_nonneg (Rat.mul_nonneg (show 0 ≤ 1 - s by grind) hD) (show 0 ≤ 2 * t - s - 1 by grind)
        grind
      · rw [far_mix p a b ((p.sub a).dot (b.sub a) / (b.sub a).dot (b.sub a))]
        generalize (p.sub a).dot (b.sub a) / (b.sub a).dot (b.sub a) = t at *
        rw [e]
        generalize (b.sub a).dot (b.sub a) = D at *
        have := Rat.mul_nonneg (sq_nn (s - t)) hD
        grind

end Go.Proofs.YtmhnmaklgcppbaaGreat
namespace Go.Proofs.YtmhnmaklgcppbaaGreat
open Go Go.Proofs
set_option linter.unusedSimpArgs false
set_option linter.unusedVariables false
set_option maxRecDepth 20000

/-- The sum of an area, of so many corners. -/
def aS (l : List PQ) : Nat → Rat
  | 0 => 0
  | i + 1 => aS l i + (l.getD i ⟨0, 0⟩).cross (l.getD ((i + 1) % l.length) ⟨0, 0⟩)
def areaQ (l : List PQ) : Rat := aS l l.length * half
theorem sz_far (p q : PQ) {n m : Nat} (hp : p.sz ≤ n) (hq : q.sz ≤ m) : sz (p.far q) ≤ 4 * (n + m + 1) + 1 := by
  have := PQ.sz_far p q; omega
theorem sz_tsQ {p a b : PQ} {n : Nat} (hp : p.sz ≤ n) (ha : a.sz ≤ n) (hb : b.sz ≤ n) : sz (tsQ p a b) ≤ 80 * n + 60 := by
  have z1 := PQ.sz_sub b a
  have z2 := PQ.sz_sub p a
  have z3 := PQ.sz_dot (p.sub a) (b.sub a)
  have z4 := PQ.sz_dot (b.sub a) (b.sub a)
  have z5 := sz_div ((p.sub a).dot (b.sub a)) ((b.sub a).dot (b.sub a))
  have z6 := PQ.sz_mix a b ((p.sub a).dot (b.sub a) / (b.sub a).dot (b.sub a))
  have z7 := PQ.sz_far p (a.mix b ((p.sub a).dot (b.sub a) / (b.sub a).dot (b.sub a)))
  have z8 := PQ.sz_far p a
  have z9 := PQ.sz_far p b
  unfold tsQ
  split
  · omega
  · split
    · omega
    · split <;> omega
theorem sgnQ_ge {x : Rat} : 0 ≤ sgnQ x ↔ 0 ≤ x := by
  have := @sgnQ_lt x
  constructor
  · intro h
    rcases (Rat.le_total : 0 ≤ x ∨ x ≤ 0) with h1 | h1
    · exact h1
    · have : ¬ x < 0 := fun h2 => by have := this.2 h2; omega
      grind
  · intro h
    have : ¬ sgnQ x < 0 := fun h2 => by have := this.1 h2; grind
    omega
theorem pdotq (p q : PQ) (hp : p.sz ≤ 4294967296) (hq : q.sz ≤ 4294967296) : Pure Tryz.prog 104 [pA p, pA q] (rA (p.dot q)) := by
  have h := pdot_pure (pc p) (pc q) (pc_in hp) (pc_in hq)
  rw [pc_val, pc_val] at h; exact h
theorem pcrossq (p q : PQ) (hp : p.sz ≤ 4294967296) (hq : q.sz ≤ 4294967296) : Pure Tryz.prog 101 [pA p, pA q] (rA (p.cross q)) := by
  have h := pcross_pure (pc p) (pc q) (pc_in hp) (pc_in hq)
  rw [pc_val, pc_val] at h; exact h
theorem anext_pure (l : List PQ) (i : Nat) (hl : 1 ≤ l.length) (hl2 : l.length ≤ 1099511627776) (hi : i < l.length) : Pure Tryz.prog 102 [pL l, .int .i64 i] (.int .i64 ((i + 1) % l.length : Nat)) := by
  refine Pure.of_go mixed Tryz.func102 rfl (rs := [.tmp 4]) rfl (by kernel_rfl) (by simp -implicitDefEqProofs [go_sem]) ?_
  have e1 : IntKind.i64.wrap ((i : Int) + 1) = (i : Int) + 1 := by rw [w64 (by omega)]
  have e2 : Int.tmod ((i : Int) + 1) (l.length : Int) = ((i : Int) + 1) % (l.length : Int) := by rw [Int.tmod_eq_emod_of_nonneg (by omega)]
  have e3 : ¬ l = [] := fun h => by subst h; simp at hl
  unfold pL
  simp -implicitDefEqProofs [go_sem, e1, e2, e3]

theorem sz_aS {l : List PQ} {N : Nat} (hs : ∀ p ∈ l, p.sz ≤ N) : ∀ i, i ≤ l.length → sz (aS l i) ≤ i * (4 * N + 2) + 1
  | 0, _ => by simp only [aS]; rw [show sz 0 = 1 from by have := sz_int 0; simpa [nl_zero] using this]; omega
  | i + 1, h => by
    have ih := sz_aS hs i (by omega)
    have g1 : l.getD i ⟨0, 0⟩ ∈ l := by rw [List.getD_eq_getElem?_getD, List.getElem?_eq_getElem (by omega)]; exact List.getElem_mem _
    have hlt : (i + 1) % l.length < l.length := Nat.mod_lt _ (by omega)
    have g2 : l.getD ((i + 1) % l.length) ⟨0, 0⟩ ∈ l := by rw [List.getD_eq_getElem?_getD, List.getElem?_eq_getElem hlt]; exact List.getElem_mem _
    have h1 := hs _ g1; have h2 := hs _ g2
    have h3 := PQ.sz_cross (l.getD i ⟨0, 0⟩) (l.getD ((i + 1) % l.length) ⟨0, 0⟩)
    have h4 := sz_add (aS l i) ((l.getD i ⟨0, 0⟩).cross (l.getD ((i + 1) % l.length) ⟨0, 0⟩))
    simp only [aS, Nat.add_mul, Nat.one_mul]
    omega

set_option maxHeartbeats 4000000 in
theorem area_pure (l : List PQ) (N : Nat) (hl : 1 ≤ l.length) (hl2 : l.length ≤ 1048576) (hs : ∀ p ∈ l, p.sz ≤ N) (hN : l.length * (4 * N + 2) ≤ 4294967296) : Pure Tryz.prog 48 [pL l] (rA (areaQ l)) := by
  have hz := rof_pure 0 1 (by omega) (by omega) (by omega)
  rw [show ((0 : Int) : Rat) / ((1 : Int) : Rat) = 0 by grind] at hz
  have hhf := rof_pure 1 2 (by omega) (by omega) (by omega)
  rw [← half_eq] at hhf
  have zhf := sz_half
  have hN1 : 4 * N + 2 ≤ 4294967296 := Nat.le_trans (Nat.le_mul_of_pos_left _ hl) hN
  have hnx := fun i hi => anext_pure l i hl (by omega) hi
  have hgt : ∀ i (h : i < l.length), l.getD i ⟨0, 0⟩ = l[i] := fun i h => by rw [List.getD_eq_getElem?_getD, List.getElem?_eq_getElem h]; rfl
  have hszA : ∀ i, i ≤ l.length → sz (aS l i) ≤ 4294967297 := fun i hi => by
    have h1 := sz_aS hs i hi
    have h2 := Nat.mul_le_mul_right (4 * N + 2) hi
    omega
  have hend := rmulq (aS l l.length) half (by have := hszA _ (Nat.le_refl _); omega) (by omega)
  rw [show aS l l.length * half = areaQ l from rfl] at hend
  simp only [rA_rC] at hz hhf hend
  rw [rA_rC]
  refine Pure.of_go mixed Tryz.func48 rfl (rs := [.cell 2 46]) rfl (by kernel_rfl) (by simp -implicitDefEqProofs [go_sem, ro_rC]) ?_
  unfold pL at *
  simp -implicitDefEqProofs [go_sem]
  refine goC_pure _ hz (by simp -implicitDefEqProofs [go_sem]) ?_
  simp -implicitDefEqProofs [go_sem]
  have hlw : IntKind.i64.wrap (l.length : Int) = l.length := w64 (by omega)
  refine go_loopN 2 (α := {i : Nat // i ≤ l.length}) (fun i => [(0, .sl 6 false (l.map pA)), (2, .ptr 0 0 0), (3, .ptr 1 0 0), (7, .sl 6 false (l.map pA)), (8, .int .i64 l.length), (9, .int .i64 i.1)])
    (fun i => [(0, .live 3 [.agg [.bool false, .sl 0 true [], .sl 0 true []]]), (1, .live 3 [.agg (rC (aS l i.1))])]) (fun i => l.length - i.1) ⟨0, Nat.zero_le _⟩ [] (by simp) (fun _ _ _ _ h => h) (by omega) (by simp -implicitDefEqProofs [go_sem, hlw]) (by simp -implicitDefEqProofs [go_sem, aS]) fun ⟨i, hi⟩ => ?_
  simp -implicitDefEqProofs [go_sem]
  refine ⟨fun h5 => ?_, fun h5 => ?_⟩
  · have es : IntKind.i64.wrap ((i : Int) + 1) = (i + 1 : Nat) := by rw [w64 (by omega)]; omega
    have hlt : (i + 1) % l.length < l.length := Nat.mod_lt _ (by omega)
    have e1 := getE_pA (l := l) (i := i) h5
    have e2 := getE_pA hlt
    have n1 := hnx i h5
    have z1 := hs _ (List.getElem_mem h5)
    have z2 := hs _ (List.getElem_mem hlt)
    have c1 := pcrossq l[i] l[(i + 1) % l.length] (by omega) (by omega)
    have z3 := PQ.sz_cross l[i] l[(i + 1) % l.length]
    have z4 := hszA i (by omega)
    have a1 := raddq (aS l i) (l[i].cross l[(i + 1) % l.length]) (by omega) (by omega)
    have ea : aS l i + l[i].cross l[(i + 1) % l.length] = aS l (i + 1) := by simp only [aS]; rw [hgt i h5, hgt _ hlt]
    rw [ea] at a1
    generalize l[i].cross l[(i + 1) % l.length] = cr at *
    generalize l[(i + 1) % l.length] = p2 at *
    generalize l[i] = p1 at *
    generalize (i + 1) % l.length = j at *
    simp only [pA_pC, rA_rC] at c1 a1 n1
    simp -implicitDefEqProofs [go_sem, e1]
    refine ⟨by omega, goD_pure _ n1 (by simp -implicitDefEqProofs [go_sem]) ?_⟩
    simp -implicitDefEqProofs [go_sem, e2]
    refine ⟨by omega, goD_pure _ c1 (by simp -implicitDefEqProofs [go_sem, ro_pC]) ?_⟩
    simp -implicitDefEqProofs [go_sem]
    refine goD_pure _ a1 (by simp -implicitDefEqProofs [go_sem, ro_rC]) ?_
    simp -implicitDefEqProofs [go_sem, es]
    refine go_again ⟨i + 1, h5⟩ (by simp only; omega) [] (by simp) (fun _ _ _ _ h => h) (by simp) (by simp -implicitDefEqProofs [go_sem, es]) (by simp -implicitDefEqProofs [go_sem])
  · have hil : i = l.length := by omega
    subst hil
    simp -implicitDefEqProofs [go_sem]
    refine goD_pure _ hhf (by simp -implicitDefEqProofs [go_sem]) ?_
    simp -implicitDefEqProofs [go_sem]
    refine goD_pure _ hend (by simp -implicitDefEqProofs [go_sem, ro_rC]) ?_
    simp -implicitDefEqProofs [go_sem, rop]

set_option maxHeartbeats 4000000 in
theorem ptoseg_pure (p0 : PR) (a b : PQ) (hp0 : p0.In 1048576) (ha : a.sz ≤ 1048576) (hb : b.sz ≤ 1048576) : Pure Tryz.prog 53 [p0.av, pA a, pA b] (rA (tsQ p0.val a b)) := by
  have hp := hp0.sz
  have g1 := fun q (hq : PQ.sz q ≤ 1073741824) => psub_pure p0 (pc q) hp0.mono (pc_in (by omega))
  have g2 := fun q (hq : PQ.sz q ≤ 1073741824) => pfar_pure p0 (pc q) hp0.mono (pc_in hq)
  simp only [pc_val] at g1 g2
  obtain ⟨cc, hcc, c1, c2, c3, c4⟩ : ∃ cc, p0.av = .agg cc ∧ cc.length = 6 ∧ cc.take 6 = cc ∧ cc.drop 6 = [] ∧ roL cc := ⟨_, rfl, rfl, rfl, rfl, by have := ro_pr p0; unfold PR.av at this; simpa only [ro] using this⟩
  rw [hcc] at g1 g2 ⊢
  generalize p0.val = p at *
  have z1 := PQ.sz_sub b a
  have z2 := PQ.sz_sub p a
  have z3 := PQ.sz_dot (p.sub a) (b.sub a)
  have z4 := PQ.sz_dot (b.sub a) (b.sub a)
  have h1 := psubq b a (by omega) (by omega)
  have h2 := g1 a (by omega)
  have h3 := pdotq (p.sub a) (b.sub a) (by omega) (by omega)
  have h4 := pdotq (b.sub a) (b.sub a) (by omega) (by omega)
  have h5 := g2 a (by omega)
  have h6 := g2 b (by omega)
  have z5 := sz_div ((p.sub a).dot (b.sub a)) ((b.sub a).dot (b.sub a))
  have h8 := rof_pure 1 1 (by omega) (by omega) (by omega)
  rw [show ((1 : Int) : Rat) / ((1 : Int) : Rat) = 1 by grind] at h8
  change Pure _ _ [_, pA _] _ at h2 h5 h6
  refine Pure.of_go mixed Tryz.func53 rfl (rs := [.cell 6 46]) rfl (by kernel_rfl) (ro_rA _) ?_
  unfold tsQ
  by_cases h0 : (b.sub a).dot (b.sub a) = 0
  · have h7 := rdiv_pure (qc ((p.sub a).dot (b.sub a))) (qc ((b.sub a).dot (b.sub a))) (qc_sm (by omega)) (qc_sm (by omega))
    rw [qc_val, qc_val, if_pos h0] at h7
    change Pure _ _ [rA _, rA _] _ at h7
    unfold rZ at h7
    rw [if_pos h0]
    generalize (b.sub a).dot (b.sub a) = dd at *
    generalize (p.sub a).dot (b.sub a) = pd at *
    generalize p.sub a = pa at *
    generalize b.sub a = ba at *
    generalize p.far a = fa at *
    simp only [pA_pC, rA_rC] at h1 h2 h3 h4 h5 h7 ⊢
    simp -implicitDefEqProofs [go_sem, c1, c2]
    refine goC_pure _ h1 (by simp -implicitDefEqProofs [go_sem, ro_pC]) ?_
    simp -implicitDefEqProofs [go_sem, c1, c2]
    refine goD_pure _ h2 (by simp -implicitDefEqProofs [go_sem, ro_pC, c4]) ?_
    simp -implicitDefEqProofs [go_sem]
    refine goD_pure _ h3 (by simp -implicitDefEqProofs [go_sem, ro_pC]) ?_
    simp -implicitDefEqProofs [go_sem]
    refine goD_pure _ h4 (by simp -implicitDefEqProofs [go_sem, ro_pC]) ?_
    simp -implicitDefEqProofs [go_sem]
    refine goD_pure _ h7 (by simp -implicitDefEqProofs [go_sem, ro_rC]) ?_
    simp -implicitDefEqProofs [go_sem, c1, c2]
    refine goC_pure _ h5 (by simp -implicitDefEqProofs [go_sem, ro_pC, c4]) ?_
    simp -implicitDefEqProofs [go_sem, rop]
  · have h7 := rdivq ((p.sub a).dot (b.sub a)) ((b.sub a).dot (b.sub a)) (by omega) (by omega) h0
    rw [if_neg h0]
    have z6 := PQ.sz_mix a b ((p.sub a).dot (b.sub a) / (b.sub a).dot (b.sub a))
    have h9 := pmixq a b ((p.sub a).dot (b.sub a) / (b.sub a).dot (b.sub a)) (by omega) (by omega) (by omega)
    have h10 := g2 (a.mix b ((p.sub a).dot (b.sub a) / (b.sub a).dot (b.sub a))) (by omega)
    have h11 := rsignq ((p.sub a).dot (b.sub a) / (b.sub a).dot (b.sub a)) (by omega)
    have h12 := rcmpq ((p.sub a).dot (b.sub a) / (b.sub a).dot (b.sub a)) 1 (by omega) (by rw [sz_one]; omega)
    generalize (p.sub a).dot (b.sub a) / (b.sub a).dot (b.sub a) = t at *
    generalize (b.sub a).dot (b.sub a) = dd at *
    generalize (p.sub a).dot (b.sub a) = pd at *
    generalize p.sub a = pa at *
    generalize b.sub a = ba at *
    generalize p.far a = fa at *
    generalize p.far b = fb at *
    change Pure _ _ [_, pA _] _ at h10
    generalize p.far (a.mix b t) = fm at *
    generalize a.mix b t = mx at *
    simp only [pA_pC, rA_rC] at h1 h2 h3 h4 h5 h6 h7 h8 h9 h10 h11 h12 ⊢
    simp -implicitDefEqProofs [go_sem, c1, c2]
    refine goC_pure _ h1 (by simp -implicitDefEqProofs [go_sem, ro_pC]) ?_
    simp -implicitDefEqProofs [go_sem, c1, c2]
    refine goD_pure _ h2 (by simp -implicitDefEqProofs [go_sem, ro_pC, c4]) ?_
    simp -implicitDefEqProofs [go_sem]
    refine goD_pure _ h3 (by simp -implicitDefEqProofs [go_sem, ro_pC]) ?_
    simp -implicitDefEqProofs [go_sem]
    refine goD_pure _ h4 (by simp -implicitDefEqProofs [go_sem, ro_pC]) ?_
    simp -implicitDefEqProofs [go_sem]
    refine goD_pure _ h7 (by simp -implicitDefEqProofs [go_sem, ro_rC]) ?_
    simp -implicitDefEqProofs [go_sem, c1, c2]
    refine goC_pure _ h11 (by simp -implicitDefEqProofs [go_sem, ro_rC]) ?_
    by_cases t0 : t < 0
    · have : sgnQ t < 0 := sgnQ_lt.2 t0
      simp -implicitDefEqProofs [go_sem, this, t0, c1, c2]
      refine goC_pure _ h5 (by simp -implicitDefEqProofs [go_sem, ro_pC, c4]) ?_
      simp -implicitDefEqProofs [go_sem, rop]
    · have : ¬ sgnQ t < 0 := fun hh => t0 (sgnQ_lt.1 hh)
      simp -implicitDefEqProofs [go_sem, this, t0]
      refine goD_pure _ h8 (by simp -implicitDefEqProofs [go_sem]) ?_
      simp -implicitDefEqProofs [go_sem]
      refine goD_pure _ h12 (by simp -implicitDefEqProofs [go_sem, ro_rC]) ?_
      by_cases t1 : 1 < t
      · have : 0 < cmpQ t 1 := cmpQ_gt.2 t1
        simp -implicitDefEqProofs [go_sem, this, t1, c1, c2]
        refine goC_pure _ h6 (by simp -implicitDefEqProofs [go_sem, ro_pC, c4]) ?_
        simp -implicitDefEqProofs [go_sem, rop]
      · have : ¬ 0 < cmpQ t 1 := fun hh => t1 (cmpQ_gt.1 hh)
        simp -implicitDefEqProofs [go_sem, this, t1, c1, c2]
        refine goD_pure _ h9 (by simp -implicitDefEqProofs [go_sem, ro_pC, ro_rC]) ?_
        simp -implicitDefEqProofs [go_sem]
        refine goD_pure _ h10 (by simp -implicitDefEqProofs [go_sem, ro_pC, c4]) ?_
        simp -implicitDefEqProofs [go_sem, rop]
theorem ptosegq (p a b : PQ) (hp : p.sz ≤ 1048576) (ha : a.sz ≤ 1048576) (hb : b.sz ≤ 1048576) : Pure Tryz.prog 53 [pA p, pA a, pA b] (rA (tsQ p a b)) := by
  have h := ptoseg_pure (pc p) a b (pc_in hp) ha hb
  rw [pc_val] at h; exact h
end Go.Proofs.YtmhnmaklgcppbaaGreat
