import Derived.Test.YtgiheamjhoiojaaGreatPkLa
namespace Go.Proofs.YtgiheamjhoiojaaGreat
open Go Go.Proofs
set_option linter.unusedSimpArgs false
set_option linter.unusedVariables false
set_option maxRecDepth 20000
theorem small_q (z : RQ) (m : Nat) : Pure Tryz.prog 50 [z.av, .int .i64 m] (.bool (decide (z.p.length ≤ m ∧ z.q.length ≤ m))) := by
  refine Pure.of_go mixed Tryz.func50 rfl (rs := [.tmp 4]) rfl (by kernel_rfl) (by simp -implicitDefEqProofs [go_sem]) ?_
  unfold RQ.av
  simp -implicitDefEqProofs [go_sem]
  exact ⟨fun h _ => h, fun h1 h2 => by omega⟩
structure RQ.In (n : Nat) (z : RQ) : Prop where
  lp : z.p.length ≤ n
  limp : Lim 18446744073709551616 z.p
  lq : z.q.length ≤ n
  limq : Lim 18446744073709551616 z.q
theorem RQ.In.sm {n : Nat} {z : RQ} (h : z.In n) (hn : n ≤ 17179869184 := by omega) : z.Sm := ⟨Nat.le_trans h.lp hn, h.limp, Nat.le_trans h.lq hn, h.limq⟩
theorem RQ.In.mono {n m : Nat} {z : RQ} (h : z.In n) (hn : n ≤ m := by omega) : z.In m := ⟨Nat.le_trans h.lp hn, h.limp, Nat.le_trans h.lq hn, h.limq⟩
theorem RQ.In.sz {n : Nat} {z : RQ} (h : z.In n) (hn : 1 ≤ n := by omega) : Go.Proofs.YtgiheamjhoiojaaGreat.sz z.val ≤ n := by
  have h1 := sz_mk z.num z.den_ne
  have h2 : nl z.num.natAbs ≤ z.p.length := by unfold RQ.num; rw [sgn_abs]; exact nl_lv h.limp
  have h3 : nl z.den ≤ max 1 z.q.length := by
    unfold RQ.den; split
    · rw [nl_one]; omega
    · have := nl_lv h.limq; omega
  have := h.lp
  have := h.lq
  unfold RQ.val
  omega
theorem qc_in {n : Nat} {x : Rat} (h : sz x ≤ n) : (qc x).In n := ⟨Nat.le_trans (sz_num x) h, lim_lims (by omega) _, Nat.le_trans (sz_den x) h, lim_lims (by omega) _⟩
structure PR where
  x : RQ
  y : RQ
structure PQ where
  x : Rat
  y : Rat
def PR.av (p : PR) : AV := .agg [.bool p.x.neg, nA p.x.p, nA p.x.q, .bool p.y.neg, nA p.y.p, nA p.y.q]
def PR.val (p : PR) : PQ := ⟨p.x.val, p.y.val⟩
def pc (p : PQ) : PR := ⟨qc p.x, qc p.y⟩
def pA (p : PQ) : AV := (pc p).av
theorem pc_val (p : PQ) : (pc p).val = p := by unfold PR.val pc; simp only [qc_val]
theorem ro_pr (p : PR) : ro p.av := by unfold PR.av; simp -implicitDefEqProofs [go_sem]
theorem ro_pA (p : PQ) : ro (pA p) := ro_pr _
structure PR.In (n : Nat) (p : PR) : Prop where
  x : p.x.In n
  y : p.y.In n
def PQ.sz (p : PQ) : Nat := max (Go.Proofs.YtgiheamjhoiojaaGreat.sz p.x) (Go.Proofs.YtgiheamjhoiojaaGreat.sz p.y)
theorem pc_in {n : Nat} {p : PQ} (h : p.sz ≤ n) : (pc p).In n := ⟨qc_in (Nat.le_trans (Nat.le_max_left _ _) h), qc_in (Nat.le_trans (Nat.le_max_right _ _) h)⟩
theorem PR.In.mono {n m : Nat} {z : PR} (h : z.In n) (hn : n ≤ m := by omega) : z.In m := ⟨h.x.mono hn, h.y.mono hn⟩
theorem both_pure (g : FuncId) (cap : List AV) (p q : PR) (rx ry : Rat) (hc : roL cap) (h1 : Pure Tryz.prog g (p.x.av :: q.x.av :: cap) (rA rx)) (h2 : Pure Tryz.prog g (p.y.av :: q.y.av :: cap) (rA ry)) :
    Pure Tryz.prog 74 [p.av, q.av, .fn (.func g) [] cap] (pA ⟨rx, ry⟩) := by
  refine Pure.of_go mixed Tryz.func74 rfl (rs := [.cell 6 28]) rfl (by kernel_rfl) (ro_pA _) ?_
  unfold pA PR.av pc rA RQ.av at *
  simp only at *
  generalize qc rx = cx at *
  generalize qc ry = cy at *
  simp -implicitDefEqProofs [go_sem]
  refine goD_pure _ h1 (by simp -implicitDefEqProofs [go_sem, hc]) ?_
  simp -implicitDefEqProofs [go_sem]
  refine goD_pure _ h2 (by simp -implicitDefEqProofs [go_sem, hc]) ?_
  simp -implicitDefEqProofs [go_sem, rop]
def PQ.add (p q : PQ) : PQ := ⟨p.x + q.x, p.y + q.y⟩
def PQ.sub (p q : PQ) : PQ := ⟨p.x - q.x, p.y - q.y⟩
def PQ.scale (p : PQ) (k : Rat) : PQ := ⟨p.x * k, p.y * k⟩
def PQ.mix (p q : PQ) (t : Rat) : PQ := p.add ((q.sub p).scale t)
def PQ.dot (p q : PQ) : Rat := p.x * q.x + p.y * q.y
def PQ.cross (p q : PQ) : Rat := p.x * q.y - p.y * q.x
theorem padd_pure (p q : PR) (hp : p.In 17179869184) (hq : q.In 17179869184) : Pure Tryz.prog 31 [p.av, q.av] (pA (p.val.add q.val)) := by
  have h := both_pure 79 [] p q _ _ (by simp -implicitDefEqProofs [go_sem]) (radd_pure p.x q.x hp.x.sm hq.x.sm) (radd_pure p.y q.y hp.y.sm hq.y.sm)
  change Pure _ _ _ (pA (p.val.add q.val)) at h
  generalize p.val.add q.val = r at *
  refine Pure.of_go mixed Tryz.func31 rfl (rs := [.cell 4 28]) rfl (by kernel_rfl) (ro_pA _) ?_
  unfold pA PR.av at *
  generalize pc r = cr at *
  simp -implicitDefEqProofs [go_sem]
  refine goC_pure _ h (by simp -implicitDefEqProofs [go_sem]) ?_
  simp -implicitDefEqProofs [go_sem, rop]
theorem psub_pure (p q : PR) (hp : p.In 17179869184) (hq : q.In 17179869184) : Pure Tryz.prog 26 [p.av, q.av] (pA (p.val.sub q.val)) := by
  have h := both_pure 29 [] p q _ _ (by simp -implicitDefEqProofs [go_sem]) (rsub_pure p.x q.x hp.x.sm hq.x.sm) (rsub_pure p.y q.y hp.y.sm hq.y.sm)
  change Pure _ _ _ (pA (p.val.sub q.val)) at h
  generalize p.val.sub q.val = r at *
  refine Pure.of_go mixed Tryz.func26 rfl (rs := [.cell 4 28]) rfl (by kernel_rfl) (ro_pA _) ?_
  unfold pA PR.av at *
  generalize pc r = cr at *
  simp -implicitDefEqProofs [go_sem]
  refine goC_pure _ h (by simp -implicitDefEqProofs [go_sem]) ?_
  simp -implicitDefEqProofs [go_sem, rop]
def RQ.cells (z : RQ) : List AV := [.bool z.neg, nA z.p, nA z.q]
theorem scale1_pure (a b k : RQ) (ha : a.In 17179869184) (hk : k.In 17179869184) : Pure Tryz.prog 85 [a.av, b.av, .rp k.cells] (rA (a.val * k.val)) := by
  have h := rmul_pure a k ha.sm hk.sm
  generalize a.val * k.val = r at *
  refine Pure.of_go mixed Tryz.func85 rfl (rs := [.cell 5 26]) rfl (by kernel_rfl) (ro_rA _) ?_
  unfold RQ.cells rA RQ.av at *
  generalize qc r = cr at *
  simp -implicitDefEqProofs [go_sem]
  refine goC_pure _ h (by simp -implicitDefEqProofs [go_sem]) ?_
  simp -implicitDefEqProofs [go_sem, rop]
theorem pscale_pure (p : PR) (k : RQ) (hp : p.In 17179869184) (hk : k.In 17179869184) : Pure Tryz.prog 36 [p.av, k.av] (pA (p.val.scale k.val)) := by
  have h := both_pure 85 [.rp k.cells] p p _ _ (by simp -implicitDefEqProofs [go_sem, RQ.cells]) (scale1_pure p.x p.x k hp.x hk) (scale1_pure p.y p.y k hp.y hk)
  change Pure _ _ _ (pA (p.val.scale k.val)) at h
  generalize p.val.scale k.val = r at *
  refine Pure.of_go mixed Tryz.func36 rfl (rs := [.cell 4 28]) rfl (by kernel_rfl) (ro_pA _) ?_
  unfold pA PR.av RQ.cells RQ.av at *
  generalize pc r = cr at *
  simp -implicitDefEqProofs [go_sem]
  refine goC_dead [1] _ h (by simp -implicitDefEqProofs [go_sem]) (by simp -implicitDefEqProofs [go_sem]) (by simp -implicitDefEqProofs [go_sem]) (by simp -implicitDefEqProofs [go_sem]) ?_
  simp -implicitDefEqProofs [go_sem, rop]
theorem PQ.sz_x (p : PQ) : Go.Proofs.YtgiheamjhoiojaaGreat.sz p.x ≤ p.sz := Nat.le_max_left _ _
theorem PQ.sz_y (p : PQ) : Go.Proofs.YtgiheamjhoiojaaGreat.sz p.y ≤ p.sz := Nat.le_max_right _ _
theorem PR.In.sz {n : Nat} {z : PR} (h : z.In n) (hn : 1 ≤ n := by omega) : z.val.sz ≤ n := Nat.max_le.2 ⟨h.x.sz hn, h.y.sz hn⟩
theorem PQ.sz_add (p q : PQ) : (p.add q).sz ≤ p.sz + q.sz + 1 := by
  have := Go.Proofs.YtgiheamjhoiojaaGreat.sz_add p.x q.x; have := Go.Proofs.YtgiheamjhoiojaaGreat.sz_add p.y q.y
  have := p.sz_x; have := p.sz_y; have := q.sz_x; have := q.sz_y
  refine Nat.max_le.2 ⟨?_, ?_⟩ <;> simp only [PQ.add] <;> omega
theorem PQ.sz_sub (p q : PQ) : (p.sub q).sz ≤ p.sz + q.sz + 1 := by
  have := Go.Proofs.YtgiheamjhoiojaaGreat.sz_sub p.x q.x; have := Go.Proofs.YtgiheamjhoiojaaGreat.sz_sub p.y q.y
  have := p.sz_x; have := p.sz_y; have := q.sz_x; have := q.sz_y
  refine Nat.max_le.2 ⟨?_, ?_⟩ <;> simp only [PQ.sub] <;> omega
theorem PQ.sz_scale (p : PQ) (k : Rat) : (p.scale k).sz ≤ p.sz + Go.Proofs.YtgiheamjhoiojaaGreat.sz k := by
  have := sz_mul p.x k; have := sz_mul p.y k
  have := p.sz_x; have := p.sz_y
  refine Nat.max_le.2 ⟨?_, ?_⟩ <;> simp only [PQ.scale] <;> omega
theorem pmix_pure (p q : PR) (t : RQ) (hp : p.In 1073741824) (hq : q.In 1073741824) (ht : t.In 1073741824) : Pure Tryz.prog 174 [p.av, q.av, t.av] (pA (p.val.mix q.val t.val)) := by
  have h1 := psub_pure q p hq.mono hp.mono
  have s1 := PQ.sz_sub q.val p.val
  have sp := hp.sz; have sq := hq.sz; have st := ht.sz
  have h2 := pscale_pure (pc (q.val.sub p.val)) t (pc_in (by omega)) ht.mono
  rw [pc_val] at h2
  have s2 := PQ.sz_scale (q.val.sub p.val) t.val
  have h3 := padd_pure p (pc ((q.val.sub p.val).scale t.val)) hp.mono (pc_in (by omega))
  rw [pc_val] at h3
  change Pure _ _ _ (pA (p.val.mix q.val t.val)) at h3
  generalize p.val.mix q.val t.val = r at *
  generalize (q.val.sub p.val).scale t.val = u at *
  generalize q.val.sub p.val = v at *
  refine Pure.of_go mixed Tryz.func174 rfl (rs := [.cell 6 28]) rfl (by kernel_rfl) (ro_pA _) ?_
  unfold pA PR.av RQ.av at *
  generalize pc r = cr at *
  generalize pc u = cu at *
  generalize pc v = cv at *
  simp -implicitDefEqProofs [go_sem]
  refine goD_pure _ h1 (by simp -implicitDefEqProofs [go_sem]) ?_
  simp -implicitDefEqProofs [go_sem]
  refine goD_pure _ h2 (by simp -implicitDefEqProofs [go_sem]) ?_
  simp -implicitDefEqProofs [go_sem]
  refine goD_pure _ h3 (by simp -implicitDefEqProofs [go_sem]) ?_
  simp -implicitDefEqProofs [go_sem, rop]
theorem pdot_pure (p q : PR) (hp : p.In 4294967296) (hq : q.In 4294967296) : Pure Tryz.prog 33 [p.av, q.av] (rA (p.val.dot q.val)) := by
  have sp := hp.sz; have sq := hq.sz
  have := p.val.sz_x; have := p.val.sz_y; have := q.val.sz_x; have := q.val.sz_y
  have h1 := rmul_pure p.x q.x hp.x.sm hq.x.sm
  have h2 := rmul_pure p.y q.y hp.y.sm hq.y.sm
  change Pure _ _ _ (rA (p.val.x * q.val.x)) at h1
  change Pure _ _ _ (rA (p.val.y * q.val.y)) at h2
  have s1 := sz_mul p.val.x q.val.x
  have s2 := sz_mul p.val.y q.val.y
  have h3 := radd_pure (qc (p.val.x * q.val.x)) (qc (p.val.y * q.val.y)) (qc_sm (by omega)) (qc_sm (by omega))
  rw [qc_val, qc_val] at h3
  change Pure _ _ _ (rA (p.val.dot q.val)) at h3
  generalize p.val.dot q.val = r at *
  generalize p.val.x * q.val.x = u at *
  generalize p.val.y * q.val.y = v at *
  refine Pure.of_go mixed Tryz.func33 rfl (rs := [.cell 4 26]) rfl (by kernel_rfl) (ro_rA _) ?_
  unfold PR.av rA RQ.av at *
  generalize qc r = cr at *
  generalize qc u = cu at *
  generalize qc v = cv at *
  simp -implicitDefEqProofs [go_sem]
  refine goD_pure _ h1 (by simp -implicitDefEqProofs [go_sem]) ?_
  simp -implicitDefEqProofs [go_sem]
  refine goD_pure _ h2 (by simp -implicitDefEqProofs [go_sem]) ?_
  simp -implicitDefEqProofs [go_sem]
  refine goD_pure _ h3 (by simp -implicitDefEqProofs [go_sem]) ?_
  simp -implicitDefEqProofs [go_sem, rop]
theorem pcross_pure (p q : PR) (hp : p.In 4294967296) (hq : q.In 4294967296) : Pure Tryz.prog 34 [p.av, q.av] (rA (p.val.cross q.val)) := by
  have sp := hp.sz; have sq := hq.sz
  have := p.val.sz_x; have := p.val.sz_y; have := q.val.sz_x; have := q.val.sz_y
  have h1 := rmul_pure p.x q.y hp.x.sm hq.y.sm
  have h2 := rmul_pure p.y q.x hp.y.sm hq.x.sm
  change Pure _ _ _ (rA (p.val.x * q.val.y)) at h1
  change Pure _ _ _ (rA (p.val.y * q.val.x)) at h2
  have s1 := sz_mul p.val.x q.val.y
  have s2 := sz_mul p.val.y q.val.x
  have h3 := rsub_pure (qc (p.val.x * q.val.y)) (qc (p.val.y * q.val.x)) (qc_sm (by omega)) (qc_sm (by omega))
  rw [qc_val, qc_val] at h3
  change Pure _ _ _ (rA (p.val.cross q.val)) at h3
  generalize p.val.cross q.val = r at *
  generalize p.val.x * q.val.y = u at *
  generalize p.val.y * q.val.x = v at *
  refine Pure.of_go mixed Tryz.func34 rfl (rs := [.cell 4 26]) rfl (by kernel_rfl) (ro_rA _) ?_
  unfold PR.av rA RQ.av at *
  generalize qc r = cr at *
  generalize qc u = cu at *
  generalize qc v = cv at *
  simp -implicitDefEqProofs [go_sem]
  refine goD_pure _ h1 (by simp -implicitDefEqProofs [go_sem]) ?_
  simp -implicitDefEqProofs [go_sem]
  refine goD_pure _ h2 (by simp -implicitDefEqProofs [go_sem]) ?_
  simp -implicitDefEqProofs [go_sem]
  refine goD_pure _ h3 (by simp -implicitDefEqProofs [go_sem]) ?_
  simp -implicitDefEqProofs [go_sem, rop]
theorem PQ.ext {p q : PQ} (h1 : p.x = q.x) (h2 : p.y = q.y) : p = q := by cases p; cases q; simp_all
theorem PQ.eq_iff {p q : PQ} : p = q ↔ p.x = q.x ∧ p.y = q.y := ⟨fun h => by subst h; exact ⟨rfl, rfl⟩, fun h => PQ.ext h.1 h.2⟩
instance : DecidableEq PQ := fun p q => decidable_of_iff _ PQ.eq_iff.symm
theorem psame_pure (p q : PR) (hp : p.In 17179869184) (hq : q.In 17179869184) : Pure Tryz.prog 30 [p.av, q.av] (.bool (decide (p.val = q.val))) := by
  have h1 := rcmp_pure p.x q.x hp.x.sm hq.x.sm
  have h2 := rcmp_pure p.y q.y hp.y.sm hq.y.sm
  have e1 := @cmpQ_eq p.x.val q.x.val
  have e2 := @cmpQ_eq p.y.val q.y.val
  have e3 : p.val = q.val ↔ cmpQ p.x.val q.x.val = 0 ∧ cmpQ p.y.val q.y.val = 0 := by
    rw [e1, e2, PQ.eq_iff]; rfl
  simp only [e3]
  generalize cmpQ p.x.val q.x.val = c1 at *
  generalize cmpQ p.y.val q.y.val = c2 at *
  refine Pure.of_go mixed Tryz.func30 rfl (rs := [.tmp 4]) rfl (by kernel_rfl) (by simp -implicitDefEqProofs [go_sem]) ?_
  unfold PR.av RQ.av at *
  simp -implicitDefEqProofs [go_sem]
  refine goC_pure _ h1 (by simp -implicitDefEqProofs [go_sem]) ?_
  by_cases hc : c1 = 0
  · simp -implicitDefEqProofs [go_sem, hc]
    refine goC_pure _ h2 (by simp -implicitDefEqProofs [go_sem]) ?_
    simp -implicitDefEqProofs [go_sem, hc]
  · simp -implicitDefEqProofs [go_sem, hc]
def PQ.far (p q : PQ) : Rat := (p.sub q).dot (p.sub q)
theorem pfar_pure (p q : PR) (hp : p.In 1073741824) (hq : q.In 1073741824) : Pure Tryz.prog 39 [p.av, q.av] (rA (p.val.far q.val)) := by
  have sp := hp.sz; have sq := hq.sz
  have h1 := psub_pure p q hp.mono hq.mono
  have s1 := PQ.sz_sub p.val q.val
  have h2 := pdot_pure (pc (p.val.sub q.val)) (pc (p.val.sub q.val)) (pc_in (by omega)) (pc_in (by omega))
  rw [pc_val] at h2
  change Pure _ _ _ (rA (p.val.far q.val)) at h2
  generalize p.val.far q.val = r at *
  generalize p.val.sub q.val = v at *
  refine Pure.of_go mixed Tryz.func39 rfl (rs := [.cell 4 26]) rfl (by kernel_rfl) (ro_rA _) ?_
  unfold pA PR.av rA RQ.av at *
  generalize qc r = cr at *
  generalize pc v = cv at *
  simp -implicitDefEqProofs [go_sem]
  refine goC_pure _ h1 (by simp -implicitDefEqProofs [go_sem]) ?_
  simp -implicitDefEqProofs [go_sem]
  refine goC_pure _ h2 (by simp -implicitDefEqProofs [go_sem]) ?_
  simp -implicitDefEqProofs [go_sem, rop]
def half : Rat := ((1 : Int) : Rat) / ((2 : Int) : Rat)
theorem sz_half : sz half ≤ 1 := by
  unfold half
  rw [div_mk]
  have := sz_mk (if (2 : Int) < 0 then -1 else 1) (d := (2 : Int).natAbs) (by decide)
  simp at this ⊢
  have h1 : nl 1 = 1 := nl_one
  have h2 : nl 2 ≤ 1 := nl_le (by omega)
  omega
theorem sq_nn (x : Rat) : 0 ≤ x * x := by
  rcases (Rat.le_total : 0 ≤ x ∨ x ≤ 0) with h | h
  · exact Rat.mul_nonneg h h
  · have := Rat.mul_nonneg (show 0 ≤ -x by grind) (show 0 ≤ -x by grind)
    grind
theorem PQ.dot_nn (p : PQ) : 0 ≤ p.dot p := by
  have h1 := sq_nn p.x; have h2 := sq_nn p.y
  unfold PQ.dot
  grind
theorem rq_cs_ro (h : RQ) : roL [.bool h.neg, nA h.p, nA h.q] := by simp -implicitDefEqProofs [go_sem]
theorem PQ.sz_dot (p q : PQ) : Go.Proofs.YtgiheamjhoiojaaGreat.sz (p.dot q) ≤ 2 * (p.sz + q.sz) + 1 := by
  have h1 := sz_mul p.x q.x; have h2 := sz_mul p.y q.y
  have h3 := Go.Proofs.YtgiheamjhoiojaaGreat.sz_add (p.x * q.x) (p.y * q.y)
  have := p.sz_x; have := p.sz_y; have := q.sz_x; have := q.sz_y
  unfold PQ.dot; omega
theorem PQ.sz_cross (p q : PQ) : Go.Proofs.YtgiheamjhoiojaaGreat.sz (p.cross q) ≤ 2 * (p.sz + q.sz) + 1 := by
  have h1 := sz_mul p.x q.y; have h2 := sz_mul p.y q.x
  have h3 := Go.Proofs.YtgiheamjhoiojaaGreat.sz_sub (p.x * q.y) (p.y * q.x)
  have := p.sz_x; have := p.sz_y; have := q.sz_x; have := q.sz_y
  unfold PQ.cross; omega
theorem PQ.sz_far (p q : PQ) : Go.Proofs.YtgiheamjhoiojaaGreat.sz (p.far q) ≤ 4 * (p.sz + q.sz + 1) + 1 := by
  have h1 := PQ.sz_sub p q
  have h2 := PQ.sz_dot (p.sub q) (p.sub q)
  unfold PQ.far; omega
theorem PQ.sz_mix (p q : PQ) (t : Rat) : (p.mix q t).sz ≤ 2 * p.sz + q.sz + Go.Proofs.YtgiheamjhoiojaaGreat.sz t + 2 := by
  have q1 := PQ.sz_sub q p
  have q2 := PQ.sz_scale (q.sub p) t
  have q3 := PQ.sz_add p ((q.sub p).scale t)
  unfold PQ.mix; omega
theorem half_eq : half = ((1 : Int) : Rat) / ((2 : Int) : Rat) := rfl
theorem sgnQ_le {x : Rat} : sgnQ x ≤ 0 ↔ x ≤ 0 := by
  have := @sgnQ_gt x
  constructor
  · intro h; rcases (Rat.le_total : x ≤ 0 ∨ 0 ≤ x) with h1 | h1
    · exact h1
    · have : ¬ 0 < x := fun h2 => by have := this.2 h2; omega
      grind
  · intro h
    have : ¬ 0 < sgnQ x := fun h2 => by have := this.1 h2; grind
    omega
theorem cmpQ_le {x y : Rat} : cmpQ x y ≤ 0 ↔ x ≤ y := by
  have := @cmpQ_gt x y
  constructor
  · intro h; rcases (Rat.le_total : x ≤ y ∨ y ≤ x) with h1 | h1
    · exact h1
    · have : ¬ y < x := fun h2 => by have := this.2 h2; omega
      grind
  · intro h
    have : ¬ 0 < cmpQ x y := fun h2 => by have := this.1 h2; grind
    omega
theorem far_comm (p q : PQ) : p.far q = q.far p := by
  simp only [PQ.far, PQ.dot, PQ.sub]; grind
theorem sz_one : sz (1 : Rat) = 1 := by
  have := sz_int 1
  rw [show ((1 : Int) : Rat) = 1 by rfl] at this
  rw [this, show (1 : Int).natAbs = 1 by rfl, nl_one]; rfl
theorem sz_pos (x : Rat) : 1 ≤ sz x := by
  have h1 := sz_den x
  have h2 := nl_mono (Nat.one_le_iff_ne_zero.2 x.den_nz)
  rw [nl_one] at h2
  omega
theorem sz_inv (x : Rat) : sz x⁻¹ ≤ sz x := by
  have h0 := sz_pos x
  have h1 := sz_num x
  have h2 := sz_den x
  have e1 : nl (x⁻¹).num.natAbs ≤ nl x.den := by
    rw [Rat.num_inv, Int.natAbs_mul]
    refine nl_mono ?_
    have : x.num.sign.natAbs ≤ 1 := by
      rcases Int.sign_trichotomy x.num with h | h | h <;> rw [h] <;> decide
    calc x.num.sign.natAbs * (x.den : Int).natAbs ≤ 1 * (x.den : Int).natAbs := Nat.mul_le_mul_right _ this
      _ = x.den := by simp
  have e2 : nl (x⁻¹).den ≤ sz x := by
    rw [Rat.den_inv]
    split
    · rw [nl_one]; exact h0
    · exact h1
  conv => lhs; unfold sz
  omega
theorem sz_div (x y : Rat) : sz (x / y) ≤ sz x + sz y := by
  rw [Rat.div_def]
  have := sz_mul x y⁻¹
  have := sz_inv y
  omega
theorem sz_frac {p q : Int} (hp : -9223372036854775808 ≤ p ∧ p ≤ 9223372036854775807) (hq : -9223372036854775808 ≤ q ∧ q ≤ 9223372036854775807) (h0 : q ≠ 0) : sz ((p : Rat) / (q : Rat)) ≤ 1 := by
  rw [div_mk]
  have h := sz_mk (if q < 0 then -p else p) (d := q.natAbs) (by omega)
  have h1 := nl_i64 hp
  have h2 := nl_i64 hq
  have h3 : (if q < 0 then -p else p).natAbs = p.natAbs := by split <;> simp
  rw [h3] at h
  omega
theorem lim_nil' : Lim 18446744073709551616 [] := fun _ h => by cases h
def rQ0 : RQ := ⟨false, [], []⟩
theorem rQ0_in {n : Nat} : rQ0.In n := ⟨Nat.zero_le _, lim_nil', Nat.zero_le _, lim_nil'⟩
theorem apv_told {f : Nat → BS} {sz id : Nat} {L : List AV} (hr : roL L) (h : L ≠ [] → f id = .live sz L) : fits f (apv sz id L) ∧ ro (view f (apv sz id L)) ∧ Wk (view f (apv sz id L)) (.sl sz false L) := by
  by_cases h0 : L = []
  · subst h0
    refine ⟨by simp [apv, fits, fitsL], by simp [apv, view, ro, roL], ?_⟩
    simp only [apv, if_true, view]
    exact Wk.nil 0 sz true
  · rw [apv_ne h0]
    simp only [fits, view, h h0, Nat.zero_add, List.drop_zero, List.take_length, ro]
    exact ⟨Nat.le_refl _, hr, Wk.refl _⟩
def eA (p : PQ) : AV := .agg [.bool (decide (p.x.num < 0)), qA p.x.num.natAbs, qA p.x.den, .bool (decide (p.y.num < 0)), qA p.y.num.natAbs, qA p.y.den]
theorem ro_eA (p : PQ) : ro (eA p) := by unfold eA qA; simp -implicitDefEqProofs [go_sem]
theorem eof_pure (x y : Int) (hx : -9223372036854775808 ≤ x ∧ x ≤ 9223372036854775807) (hy : -9223372036854775808 ≤ y ∧ y ≤ 9223372036854775807) : Pure Tryz.prog 113 [.int .i64 x, .int .i64 y] (eA ⟨x, y⟩) := by
  have h1 := fof_pure x 1 hx (by omega) (by omega)
  have h2 := fof_pure y 1 hy (by omega) (by omega)
  rw [show ((x : Int) : Rat) / ((1 : Int) : Rat) = x by rw [show ((1 : Int) : Rat) = 1 from rfl]; grind] at h1
  rw [show ((y : Int) : Rat) / ((1 : Int) : Rat) = y by rw [show ((1 : Int) : Rat) = 1 from rfl]; grind] at h2
  unfold eA
  simp only
  generalize (x : Rat) = rx at *
  generalize (y : Rat) = ry at *
  refine Pure.of_go mixed Tryz.func113 rfl (rs := [.cell 4 42]) rfl (by kernel_rfl) (by simp -implicitDefEqProofs [go_sem, qA]) ?_
  unfold fA qA at *
  simp -implicitDefEqProofs [go_sem]
  refine goC_pure _ h1 (by simp -implicitDefEqProofs [go_sem]) ?_
  simp -implicitDefEqProofs [go_sem]
  refine goC_pure _ h2 (by simp -implicitDefEqProofs [go_sem]) ?_
  simp -implicitDefEqProofs [go_sem, rop]
theorem eout_pure (p : PQ) (h : p.sz < 549755813888) : Pure Tryz.prog 51 [eA p] (pA p) := by
  have := p.sz_x; have := p.sz_y
  have h1 := fout_pure p.x (by omega)
  have h2 := fout_pure p.y (by omega)
  unfold pA pc PR.av
  refine Pure.of_go mixed Tryz.func51 rfl (rs := [.cell 2 28]) rfl (by kernel_rfl) (ro_pr _) ?_
  unfold eA fA rA RQ.av qA at *
  simp only at *
  generalize qc p.x = c1 at *
  generalize qc p.y = c2 at *
  simp -implicitDefEqProofs [go_sem]
  refine goD_pure _ h1 (by simp -implicitDefEqProofs [go_sem]) ?_
  simp -implicitDefEqProofs [go_sem]
  refine goD_pure _ h2 (by simp -implicitDefEqProofs [go_sem]) ?_
  simp -implicitDefEqProofs [go_sem, rop]
theorem sz_i64 {x : Int} (hx : -9223372036854775808 ≤ x ∧ x ≤ 9223372036854775807) : sz (x : Rat) ≤ 1 := by
  rw [sz_int]; have := nl_i64 hx; omega
theorem pP_pure (x y : Int) (hx : -9223372036854775808 ≤ x ∧ x ≤ 9223372036854775807) (hy : -9223372036854775808 ≤ y ∧ y ≤ 9223372036854775807) : Pure Tryz.prog 53 [.int .i64 x, .int .i64 y] (pA ⟨x, y⟩) := by
  have h1 := eof_pure x y hx hy
  have h2 := eout_pure ⟨x, y⟩ (by
    have := sz_i64 hx; have := sz_i64 hy
    unfold PQ.sz; simp only; omega)
  generalize (⟨x, y⟩ : PQ) = p at *
  refine Pure.of_go mixed Tryz.func53 rfl (rs := [.cell 4 28]) rfl (by kernel_rfl) (ro_pA _) ?_
  unfold eA pA PR.av qA at *
  generalize pc p = c at *
  simp -implicitDefEqProofs [go_sem]
  refine goC_pure _ h1 (by simp -implicitDefEqProofs [go_sem]) ?_
  simp -implicitDefEqProofs [go_sem]
  refine goC_pure _ h2 (by simp -implicitDefEqProofs [go_sem]) ?_
  simp -implicitDefEqProofs [go_sem, rop]
def pZ : AV := .agg [.bool false, .sl 0 true [], .sl 0 true [], .bool false, .sl 0 true [], .sl 0 true []]
theorem psameq_pure (p q : PQ) (hp : p.sz ≤ 17179869184) (hq : q.sz ≤ 17179869184) : Pure Tryz.prog 30 [pA p, pA q] (.bool (decide (p = q))) := by
  have h := psame_pure (pc p) (pc q) (pc_in hp) (pc_in hq)
  rw [pc_val, pc_val] at h
  exact h
def wP (x y : Int) : PQ := ⟨x, y⟩
theorem sz_wP {x y : Int} (hx : -1000 ≤ x ∧ x ≤ 1000) (hy : -1000 ≤ y ∧ y ≤ 1000) : (wP x y).sz ≤ 1 := by
  have := sz_i64 (x := x) (by omega); have := sz_i64 (x := y) (by omega)
  unfold PQ.sz wP; simp only; omega
theorem wP_pure (x y : Int) (hx : -1000 ≤ x ∧ x ≤ 1000) (hy : -1000 ≤ y ∧ y ≤ 1000) : Pure Tryz.prog 53 [.int .i64 x, .int .i64 y] (pA (wP x y)) := pP_pure x y (by omega) (by omega)
theorem raddq (x y : Rat) (hx : sz x ≤ 17179869184) (hy : sz y ≤ 17179869184) : Pure Tryz.prog 79 [rA x, rA y] (rA (x + y)) := by
  have h := radd_pure (qc x) (qc y) (qc_sm hx) (qc_sm hy)
  rw [qc_val, qc_val] at h; exact h
theorem rsubq (x y : Rat) (hx : sz x ≤ 17179869184) (hy : sz y ≤ 17179869184) : Pure Tryz.prog 29 [rA x, rA y] (rA (x - y)) := by
  have h := rsub_pure (qc x) (qc y) (qc_sm hx) (qc_sm hy)
  rw [qc_val, qc_val] at h; exact h
theorem rmulq (x y : Rat) (hx : sz x ≤ 17179869184) (hy : sz y ≤ 17179869184) : Pure Tryz.prog 27 [rA x, rA y] (rA (x * y)) := by
  have h := rmul_pure (qc x) (qc y) (qc_sm hx) (qc_sm hy)
  rw [qc_val, qc_val] at h; exact h
theorem rdivq (x y : Rat) (hx : sz x ≤ 17179869184) (hy : sz y ≤ 17179869184) (h0 : y ≠ 0) : Pure Tryz.prog 103 [rA x, rA y] (.tup [rA (x / y), .int .i64 0]) := by
  have h := rdiv_pure (qc x) (qc y) (qc_sm hx) (qc_sm hy)
  rw [qc_val, qc_val, if_neg h0] at h; exact h
theorem rnegq (x : Rat) (hx : sz x ≤ 17179869184) : Pure Tryz.prog 118 [rA x] (rA (-x)) := by
  have h := rneg_pure (qc x) (qc_sm hx).ok
  rw [qc_val] at h; exact h
theorem rsignq (x : Rat) (hx : sz x ≤ 17179869184) : Pure Tryz.prog 32 [rA x] (.int .i64 (sgnQ x)) := by
  have h := rsign_pure (qc x) (qc_sm hx).ok
  rw [qc_val] at h; exact h
theorem rcmpq (x y : Rat) (hx : sz x ≤ 17179869184) (hy : sz y ≤ 17179869184) : Pure Tryz.prog 35 [rA x, rA y] (.int .i64 (cmpQ x y)) := by
  have h := rcmp_pure (qc x) (qc y) (qc_sm hx) (qc_sm hy)
  rw [qc_val, qc_val] at h; exact h
def rC (x : Rat) : List AV := [.bool (qc x).neg, nA (qc x).p, nA (qc x).q]
theorem rA_rC (x : Rat) : rA x = .agg (rC x) := rfl
@[go_sem] theorem rC_len (x : Rat) : (rC x).length = 3 := rfl
@[go_sem] theorem rC_take (x : Rat) : (rC x).take 3 = rC x := rfl
@[go_sem] theorem rC_drop (x : Rat) : (rC x).drop 3 = [] := rfl
theorem ro_rC (x : Rat) : roL (rC x) := by unfold rC; simp -implicitDefEqProofs [go_sem]
@[go_sem] theorem clo_rC (n : Nat) (x : Rat) : cloL n (rC x) := cloL_ro _ (ro_rC x)
@[go_sem] theorem ren_rC (rn : Nat → Nat) (x : Rat) : renL rn (rC x) = rC x := renL_ro rn _ (ro_rC x)
@[go_sem] theorem fits_rC (f : Nat → BS) (x : Rat) : fitsL f (rC x) := fitsL_ro f _ (ro_rC x)
@[go_sem] theorem view_rC (f : Nat → BS) (x : Rat) : viewL f (rC x) = rC x := viewL_ro f _ (ro_rC x)
def pC (p : PQ) : List AV := [.bool (qc p.x).neg, nA (qc p.x).p, nA (qc p.x).q, .bool (qc p.y).neg, nA (qc p.y).p, nA (qc p.y).q]
theorem pA_pC (p : PQ) : pA p = .agg (pC p) := rfl
theorem pC_rC (p : PQ) : pC p = rC p.x ++ rC p.y := rfl
@[go_sem] theorem pC_len (p : PQ) : (pC p).length = 6 := rfl
@[go_sem] theorem pC_take (p : PQ) : (pC p).take 6 = pC p := rfl
@[go_sem] theorem pC_drop (p : PQ) : (pC p).drop 6 = [] := rfl
@[go_sem] theorem pC_take3 (p : PQ) : (pC p).take 3 = rC p.x := rfl
@[go_sem] theorem pC_drop3 (p : PQ) : (pC p).drop 3 = rC p.y := rfl
theorem ro_pC (p : PQ) : roL (pC p) := by unfold pC; simp -implicitDefEqProofs [go_sem]
@[go_sem] theorem clo_pC (n : Nat) (p : PQ) : cloL n (pC p) := cloL_ro _ (ro_pC p)
@[go_sem] theorem ren_pC (rn : Nat → Nat) (p : PQ) : renL rn (pC p) = pC p := renL_ro rn _ (ro_pC p)
@[go_sem] theorem fits_pC (f : Nat → BS) (p : PQ) : fitsL f (pC p) := fitsL_ro f _ (ro_pC p)
@[go_sem] theorem view_pC (f : Nat → BS) (p : PQ) : viewL f (pC p) = pC p := viewL_ro f _ (ro_pC p)
theorem pscaleq (p : PQ) (k : Rat) (hp : p.sz ≤ 17179869184) (hk : sz k ≤ 17179869184) : Pure Tryz.prog 36 [pA p, rA k] (pA (p.scale k)) := by
  have h := pscale_pure (pc p) (qc k) (pc_in hp) (qc_in hk)
  rw [pc_val, qc_val] at h; exact h
theorem pmixq (p q : PQ) (t : Rat) (hp : p.sz ≤ 1073741824) (hq : q.sz ≤ 1073741824) (ht : sz t ≤ 1073741824) : Pure Tryz.prog 174 [pA p, pA q, rA t] (pA (p.mix q t)) := by
  have h := pmix_pure (pc p) (pc q) (qc t) (pc_in hp) (pc_in hq) (qc_in ht)
  rw [pc_val, pc_val, qc_val] at h; exact h
def pL (l : List PQ) : AV := .sl 6 false (l.map pA)
@[go_sem] theorem roL_pA (l : List PQ) : roL (l.map pA) := roL_map ro_pA
theorem ro_pL (l : List PQ) : ro (pL l) := by unfold pL; simp only [ro]; exact roL_pA l
@[go_sem] theorem renL_pA (rn : Nat → Nat) (l : List PQ) : renL rn (l.map pA) = l.map pA := renL_ro rn _ (roL_pA l)
@[go_sem] theorem cloL_pA (n : Nat) (l : List PQ) : cloL n (l.map pA) := cloL_ro _ (roL_pA l)
@[go_sem] theorem fitsL_pA (f : Nat → BS) (l : List PQ) : fitsL f (l.map pA) := fitsL_ro f _ (roL_pA l)
@[go_sem] theorem viewL_pA (f : Nat → BS) (l : List PQ) : viewL f (l.map pA) = l.map pA := viewL_ro f _ (roL_pA l)
theorem getE_pA {l : List PQ} {i : Nat} (h : i < l.length) : getE (l.map pA) (i : Int) = .agg (pC l[i]) := by
  simp [getE, List.getD_eq_getElem?_getD, h, pA_pC]
theorem psame_self (p : PQ) (h : p.sz ≤ 17179869184) : Pure Tryz.prog 30 [pA p, pA p] (.bool true) := by
  have := psameq_pure p p h h
  rwa [decide_eq_true rfl] at this
def fC (x : Rat) : List AV := [.bool (decide (x.num < 0)), qA x.num.natAbs, qA x.den]
theorem fA_fC (x : Rat) : fA x = .agg (fC x) := rfl
@[go_sem] theorem fC_len (x : Rat) : (fC x).length = 3 := rfl
@[go_sem] theorem fC_take (x : Rat) : (fC x).take 3 = fC x := rfl
@[go_sem] theorem fC_drop (x : Rat) : (fC x).drop 3 = [] := rfl
theorem ro_fC (x : Rat) : roL (fC x) := by have := ro_fA x; rw [fA_fC] at this; simpa only [ro] using this
@[go_sem] theorem clo_fC (n : Nat) (x : Rat) : cloL n (fC x) := cloL_ro _ (ro_fC x)
@[go_sem] theorem ren_fC (rn : Nat → Nat) (x : Rat) : renL rn (fC x) = fC x := renL_ro rn _ (ro_fC x)
@[go_sem] theorem fits_fC (f : Nat → BS) (x : Rat) : fitsL f (fC x) := fitsL_ro f _ (ro_fC x)
@[go_sem] theorem view_fC (f : Nat → BS) (x : Rat) : viewL f (fC x) = fC x := viewL_ro f _ (ro_fC x)
def eC (p : PQ) : List AV := [.bool (decide (p.x.num < 0)), qA p.x.num.natAbs, qA p.x.den, .bool (decide (p.y.num < 0)), qA p.y.num.natAbs, qA p.y.den]
theorem eA_eC (p : PQ) : eA p = .agg (eC p) := rfl
@[go_sem] theorem eC_len (p : PQ) : (eC p).length = 6 := rfl
@[go_sem] theorem eC_take (p : PQ) : (eC p).take 6 = eC p := rfl
@[go_sem] theorem eC_drop (p : PQ) : (eC p).drop 6 = [] := rfl
@[go_sem] theorem eC_take3 (p : PQ) : (eC p).take 3 = fC p.x := rfl
@[go_sem] theorem eC_drop3 (p : PQ) : (eC p).drop 3 = fC p.y := rfl
theorem ro_eC (p : PQ) : roL (eC p) := by have := ro_eA p; rw [eA_eC] at this; simpa only [ro] using this
@[go_sem] theorem clo_eC (n : Nat) (p : PQ) : cloL n (eC p) := cloL_ro _ (ro_eC p)
@[go_sem] theorem ren_eC (rn : Nat → Nat) (p : PQ) : renL rn (eC p) = eC p := renL_ro rn _ (ro_eC p)
@[go_sem] theorem fits_eC (f : Nat → BS) (p : PQ) : fitsL f (eC p) := fitsL_ro f _ (ro_eC p)
@[go_sem] theorem view_eC (f : Nat → BS) (p : PQ) : viewL f (eC p) = eC p := viewL_ro f _ (ro_eC p)
@[go_sem] theorem bld_ept (x y : Rat) : fC x ++ (fC y ++ List.drop 6 (fC x ++ [AV.bool false, AV.sl 0 true [], AV.sl 0 true []])) = eC ⟨x, y⟩ := rfl
@[go_sem] theorem roL_eA (l : List PQ) : roL (l.map eA) := roL_map ro_eA
@[go_sem] theorem renL_eA (rn : Nat → Nat) (l : List PQ) : renL rn (l.map eA) = l.map eA := renL_ro rn _ (roL_eA l)
@[go_sem] theorem cloL_eA (n : Nat) (l : List PQ) : cloL n (l.map eA) := cloL_ro _ (roL_eA l)
@[go_sem] theorem fitsL_eA (f : Nat → BS) (l : List PQ) : fitsL f (l.map eA) := fitsL_ro f _ (roL_eA l)
@[go_sem] theorem viewL_eA (f : Nat → BS) (l : List PQ) : viewL f (l.map eA) = l.map eA := viewL_ro f _ (roL_eA l)
theorem e_parts (p : PQ) {n : Nat} (h : p.sz ≤ n) : sz p.x ≤ n ∧ sz p.y ≤ n := ⟨Nat.le_trans p.sz_x h, Nat.le_trans p.sz_y h⟩
theorem esub_pure (p q : PQ) (hp : p.sz ≤ 17179869184) (hq : q.sz ≤ 17179869184) : Pure Tryz.prog 52 [eA p, eA q] (eA (p.sub q)) := by
  obtain ⟨p1, p2⟩ := e_parts p hp
  obtain ⟨q1, q2⟩ := e_parts q hq
  have h1 := fsub_pure p.x q.x p1 q1
  have h2 := fsub_pure p.y q.y p2 q2
  refine Pure.of_go mixed Tryz.func52 rfl (rs := [.cell 4 42]) rfl (by kernel_rfl) (ro_eA _) ?_
  simp only [eA_eC, fA_fC] at *
  simp -implicitDefEqProofs [go_sem]
  refine goD_pure _ h1 (by simp -implicitDefEqProofs [go_sem, ro_fC]) ?_
  simp -implicitDefEqProofs [go_sem]
  refine goD_pure _ h2 (by simp -implicitDefEqProofs [go_sem, ro_fC]) ?_
  simp -implicitDefEqProofs [go_sem, rop, PQ.sub]
theorem edot_pure (p q : PQ) (hp : p.sz ≤ 4294967296) (hq : q.sz ≤ 4294967296) : Pure Tryz.prog 63 [eA p, eA q] (fA (p.dot q)) := by
  obtain ⟨p1, p2⟩ := e_parts p hp
  obtain ⟨q1, q2⟩ := e_parts q hq
  have h1 := fmul_pure p.x q.x (by omega) (by omega)
  have h2 := fmul_pure p.y q.y (by omega) (by omega)
  have s1 := sz_mul p.x q.x; have s2 := sz_mul p.y q.y
  have h3 := fadd_pure (p.x * q.x) (p.y * q.y) (by omega) (by omega)
  rw [show p.x * q.x + p.y * q.y = p.dot q from rfl] at h3
  refine Pure.of_go mixed Tryz.func63 rfl (rs := [.cell 4 40]) rfl (by kernel_rfl) (ro_fA _) ?_
  simp only [eA_eC, fA_fC] at *
  simp -implicitDefEqProofs [go_sem]
  refine goD_pure _ h1 (by simp -implicitDefEqProofs [go_sem, ro_fC]) ?_
  simp -implicitDefEqProofs [go_sem]
  refine goD_pure _ h2 (by simp -implicitDefEqProofs [go_sem, ro_fC]) ?_
  simp -implicitDefEqProofs [go_sem]
  refine goD_pure _ h3 (by simp -implicitDefEqProofs [go_sem, ro_fC]) ?_
  simp -implicitDefEqProofs [go_sem, rop]
theorem ein_pure (p : PR) (hp : p.In 17179869184) : Pure Tryz.prog 15 [p.av] (eA p.val) := by
  have k1 := hp.x.sz; have k2 := hp.y.sz
  have finr : ∀ z : RQ, z.In 17179869184 → Pure Tryz.prog 46 [z.av] (fA z.val) := fun z hz => fin_pure z hz.sm.ok (by
      have : nl z.num.natAbs ≤ z.p.length := by unfold RQ.num; rw [sgn_abs]; exact nl_lv hz.limp
      have := hz.lp; omega) (by
      have : nl z.den ≤ max 1 z.q.length := by
        unfold RQ.den; split
        · rw [nl_one]; omega
        · have := nl_lv hz.limq; omega
      have := hz.lq; omega)
  have h1 := finr p.x hp.x
  have h2 := finr p.y hp.y
  refine Pure.of_go mixed Tryz.func15 rfl (rs := [.cell 2 42]) rfl (by kernel_rfl) (ro_eA _) ?_
  unfold PR.av RQ.av PR.val at *
  simp only [eA_eC, fA_fC] at *
  generalize p.x.val = vx at *
  generalize p.y.val = vy at *
  simp -implicitDefEqProofs [go_sem]
  refine goD_pure _ h1 (by simp -implicitDefEqProofs [go_sem]) ?_
  simp -implicitDefEqProofs [go_sem]
  refine goD_pure _ h2 (by simp -implicitDefEqProofs [go_sem]) ?_
  simp -implicitDefEqProofs [go_sem, rop]
theorem PQ.dot0 {d : PQ} (h : d.dot d = 0) : d.x = 0 ∧ d.y = 0 := by
  unfold PQ.dot at h
  have h1 := sq_nn d.x; have h2 := sq_nn d.y
  have e1 : d.x * d.x = 0 := by grind
  have e2 : d.y * d.y = 0 := by grind
  exact ⟨by rcases Rat.mul_eq_zero.1 e1 with h | h <;> exact h, by rcases Rat.mul_eq_zero.1 e2 with h | h <;> exact h⟩
def aS (l : List PQ) : Nat → Rat
  | 0 => 0
  | i + 1 => aS l i + (l.getD i ⟨0, 0⟩).cross (l.getD ((i + 1) % l.length) ⟨0, 0⟩)
def areaQ (l : List PQ) : Rat := aS l l.length * half
theorem sz_far (p q : PQ) {n m : Nat} (hp : p.sz ≤ n) (hq : q.sz ≤ m) : sz (p.far q) ≤ 4 * (n + m + 1) + 1 := by
  have := PQ.sz_far p q; omega
theorem pdotq (p q : PQ) (hp : p.sz ≤ 4294967296) (hq : q.sz ≤ 4294967296) : Pure Tryz.prog 33 [pA p, pA q] (rA (p.dot q)) := by
  have h := pdot_pure (pc p) (pc q) (pc_in hp) (pc_in hq)
  rw [pc_val, pc_val] at h; exact h
theorem pcrossq (p q : PQ) (hp : p.sz ≤ 4294967296) (hq : q.sz ≤ 4294967296) : Pure Tryz.prog 34 [pA p, pA q] (rA (p.cross q)) := by
  have h := pcross_pure (pc p) (pc q) (pc_in hp) (pc_in hq)
  rw [pc_val, pc_val] at h; exact h
theorem anext_pure (l : List PQ) (i : Nat) (hl : 1 ≤ l.length) (hl2 : l.length ≤ 1099511627776) (hi : i < l.length) : Pure Tryz.prog 72 [pL l, .int .i64 i] (.int .i64 ((i + 1) % l.length : Nat)) := by
  refine Pure.of_go mixed Tryz.func72 rfl (rs := [.tmp 4]) rfl (by kernel_rfl) (by simp -implicitDefEqProofs [go_sem]) ?_
  have e1 : IntKind.i64.wrap ((i : Int) + 1) = (i : Int) + 1 := by rw [w64 (by omega)]
  have e2 : Int.tmod ((i : Int) + 1) (l.length : Int) = ((i : Int) + 1) % (l.length : Int) := by rw [Int.tmod_eq_emod_of_nonneg (by omega)]
  have e3 : ¬ l = [] := fun h => by subst h; simp at hl
  unfold pL
  simp -implicitDefEqProofs [go_sem, e1, e2, e3]
theorem sz_aS {l : List PQ} {N : Nat} (hs : ∀ p ∈ l, p.sz ≤ N) : ∀ i, i ≤ l.length → sz (aS l i) ≤ i * (4 * N + 2) + 1
  | 0, _ => by simp only [aS]; rw [show sz 0 = 1 from by have := sz_int 0; simpa [nl_zero] using this]; omega
  | i + 1, h => by
    have ih := sz_aS hs i (by omega)
    have g1 : l.getD i ⟨0, 0⟩ ∈ l := by rw [List.getD_eq_getElem?_getD, List.getElem?_eq_getElem (by omega)]; exact List.getElem_mem _
    have hlt : (i + 1) % l.length < l.length := Nat.mod_lt _ (by omega)
    have g2 : l.getD ((i + 1) % l.length) ⟨0, 0⟩ ∈ l := by rw [List.getD_eq_getElem?_getD, List.getElem?_eq_getElem hlt]; exact List.getElem_mem _
    have h1 := hs _ g1; have h2 := hs _ g2
    have h3 := PQ.sz_cross (l.getD i ⟨0, 0⟩) (l.getD ((i + 1) % l.length) ⟨0, 0⟩)
    have h4 := sz_add (aS l i) ((l.getD i ⟨0, 0⟩).cross (l.getD ((i + 1) % l.length) ⟨0, 0⟩))
    simp only [aS, Nat.add_mul, Nat.one_mul]
    omega
set_option maxHeartbeats 4000000 in
theorem area_pure (l : List PQ) (N : Nat) (hl : 1 ≤ l.length) (hl2 : l.length ≤ 1048576) (hs : ∀ p ∈ l, p.sz ≤ N) (hN : l.length * (4 * N + 2) ≤ 4294967296) : Pure Tryz.prog 38 [pL l] (rA (areaQ l)) := by
  have hz := rof_pure 0 1 (by omega) (by omega) (by omega)
  rw [show ((0 : Int) : Rat) / ((1 : Int) : Rat) = 0 by grind] at hz
  have hhf := rof_pure 1 2 (by omega) (by omega) (by omega)
  rw [← half_eq] at hhf
  have zhf := sz_half
  have hN1 : 4 * N + 2 ≤ 4294967296 := Nat.le_trans (Nat.le_mul_of_pos_left _ hl) hN
  have hnx := fun i hi => anext_pure l i hl (by omega) hi
  have hgt : ∀ i (h : i < l.length), l.getD i ⟨0, 0⟩ = l[i] := fun i h => by rw [List.getD_eq_getElem?_getD, List.getElem?_eq_getElem h]; rfl
  have hszA : ∀ i, i ≤ l.length → sz (aS l i) ≤ 4294967297 := fun i hi => by
    have h1 := sz_aS hs i hi
    have h2 := Nat.mul_le_mul_right (4 * N + 2) hi
    omega
  have hend := rmulq (aS l l.length) half (by have := hszA _ (Nat.le_refl _); omega) (by omega)
  rw [show aS l l.length * half = areaQ l from rfl] at hend
  simp only [rA_rC] at hz hhf hend
  rw [rA_rC]
  refine Pure.of_go mixed Tryz.func38 rfl (rs := [.cell 2 26]) rfl (by kernel_rfl) (by simp -implicitDefEqProofs [go_sem, ro_rC]) ?_
  unfold pL at *
  simp -implicitDefEqProofs [go_sem]
  refine goC_pure _ hz (by simp -implicitDefEqProofs [go_sem]) ?_
  simp -implicitDefEqProofs [go_sem]
  have hlw : IntKind.i64.wrap (l.length : Int) = l.length := w64 (by omega)
  refine go_loopN 2 (α := {i : Nat // i ≤ l.length}) (fun i => [(0, .sl 6 false (l.map pA)), (2, .ptr 0 0 0), (3, .ptr 1 0 0), (7, .sl 6 false (l.map pA)), (8, .int .i64 l.length), (9, .int .i64 i.1)])
    (fun i => [(0, .live 3 [.agg [.bool false, .sl 0 true [], .sl 0 true []]]), (1, .live 3 [.agg (rC (aS l i.1))])]) (fun i => l.length - i.1) ⟨0, Nat.zero_le _⟩ [] (by simp) (fun _ _ _ _ h => h) (by omega) (by simp -implicitDefEqProofs [go_sem, hlw]) (by simp -implicitDefEqProofs [go_sem, aS]) fun ⟨i, hi⟩ => ?_
  simp -implicitDefEqProofs [go_sem]
  refine ⟨fun h5 => ?_, fun h5 => ?_⟩
  · have es : IntKind.i64.wrap ((i : Int) + 1) = (i + 1 : Nat) := by rw [w64 (by omega)]; omega
    have hlt : (i + 1) % l.length < l.length := Nat.mod_lt _ (by omega)
    have e1 := getE_pA (l := l) (i := i) h5
    have e2 := getE_pA hlt
    have n1 := hnx i h5
    have z1 := hs _ (List.getElem_mem h5)
    have z2 := hs _ (List.getElem_mem hlt)
    have c1 := pcrossq l[i] l[(i + 1) % l.length] (by omega) (by omega)
    have z3 := PQ.sz_cross l[i] l[(i + 1) % l.length]
    have z4 := hszA i (by omega)
    have a1 := raddq (aS l i) (l[i].cross l[(i + 1) % l.length]) (by omega) (by omega)
    have ea : aS l i + l[i].cross l[(i + 1) % l.length] = aS l (i + 1) := by simp only [aS]; rw [hgt i h5, hgt _ hlt]
    rw [ea] at a1
    generalize l[i].cross l[(i + 1) % l.length] = cr at *
    generalize l[(i + 1) % l.length] = p2 at *
    generalize l[i] = p1 at *
    generalize (i + 1) % l.length = j at *
    simp only [pA_pC, rA_rC] at c1 a1 n1
    simp -implicitDefEqProofs [go_sem, e1]
    refine ⟨by omega, goD_pure _ n1 (by simp -implicitDefEqProofs [go_sem]) ?_⟩
    simp -implicitDefEqProofs [go_sem, e2]
    refine ⟨by omega, goD_pure _ c1 (by simp -implicitDefEqProofs [go_sem, ro_pC]) ?_⟩
    simp -implicitDefEqProofs [go_sem]
    refine goD_pure _ a1 (by simp -implicitDefEqProofs [go_sem, ro_rC]) ?_
    simp -implicitDefEqProofs [go_sem, es]
    refine go_again ⟨i + 1, h5⟩ (by simp only; omega) [] (by simp) (fun _ _ _ _ h => h) (by simp) (by simp -implicitDefEqProofs [go_sem, es]) (by simp -implicitDefEqProofs [go_sem])
  · have hil : i = l.length := by omega
    subst hil
    simp -implicitDefEqProofs [go_sem]
    refine goD_pure _ hhf (by simp -implicitDefEqProofs [go_sem]) ?_
    simp -implicitDefEqProofs [go_sem]
    refine goD_pure _ hend (by simp -implicitDefEqProofs [go_sem, ro_rC]) ?_
    simp -implicitDefEqProofs [go_sem, rop]
end Go.Proofs.YtgiheamjhoiojaaGreat
