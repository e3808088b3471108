import Derived.Test.YtgiheamjhoiojaaGreatPkXa
import Derived.Test.YtgiheamjhoiojaaGreatPkEa
import Derived.Test.YtgiheamjhoiojaaGreatPkQa
import Derived.Test.YtgiheamjhoiojaaGreatPkGa
namespace Go.Proofs.YtgiheamjhoiojaaGreat
open Go Go.Proofs
set_option linter.unusedSimpArgs false
set_option linter.unusedVariables false
set_option maxRecDepth 20000
theorem neg_dot (u v : PQ) : (u.scale (-1)).dot (v.scale (-1)) = u.dot v := by unfold PQ.scale PQ.dot; simp only; grind
theorem neg_cross (u v : PQ) : (v.scale (-1)).cross (u.scale (-1)) = -(u.cross v) := by unfold PQ.scale PQ.cross; simp only; grind
theorem neg_zero {u : PQ} : u.scale (-1) = ⟨0, 0⟩ ↔ u = ⟨0, 0⟩ := by
  unfold PQ.scale
  constructor
  · intro h
    rw [PQ.eq_iff] at h
    simp only at h
    exact PQ.ext (by have := h.1; simp only; grind) (by have := h.2; simp only; grind)
  · intro h
    subst h
    exact PQ.ext (by simp only; grind) (by simp only; grind)
theorem neg_rot (u : PQ) (left : Bool) : sided (u.scale (-1)).rot (!left) = sided u.rot left := by
  cases left <;> exact PQ.ext (by simp [sided, PQ.rot, PQ.scale, PQ.neg]; try grind) (by simp [sided, PQ.rot, PQ.scale, PQ.neg]; try grind)
theorem neg_off (u : PQ) (h : Rat) (k : Nat) (left : Bool) : sided (offQ (u.scale (-1)) h k) (!left) = sided (offQ u h k) left := by
  unfold offQ
  rw [neg_dot]
  generalize lowQ (h * h / u.dot u) k = r
  cases left <;> exact PQ.ext (by simp [sided, PQ.rot, PQ.scale, PQ.neg]; try grind) (by simp [sided, PQ.rot, PQ.scale, PQ.neg]; try grind)
theorem add_comm' (p q : PQ) : p.add q = q.add p := PQ.ext (by unfold PQ.add; simp only; grind) (by unfold PQ.add; simp only; grind)
theorem facQ_comm (s ou ov : PQ) (h : Rat) (k : Nat) : facQ s ov ou h k = facQ s ou ov h k := by
  unfold facQ
  simp only
  by_cases h1 : 0 < s.dot ou <;> by_cases h2 : 0 < s.dot ov <;> simp only [h1, h2, if_true, if_false]
  generalize lowQ (h * h * ov.dot ov / (s.dot ov * s.dot ov)) k = t
  generalize lowQ (h * h * ou.dot ou / (s.dot ou * s.dot ou)) k = r
  by_cases h3 : r < t <;> by_cases h4 : t < r <;> simp only [h3, h4, if_true, if_false]
  · grind
  · congr 1; grind
theorem tipQ_back (u v : PQ) (h tol : Rat) (left : Bool) (k : Nat) : tipQ (v.scale (-1)) (u.scale (-1)) h tol (!left) k = (tipQ u v h tol left k).map List.reverse := by
  rw [tipQ_eq, tipQ_eq, neg_off, neg_off, neg_rot, neg_rot]
  generalize sided (offQ u h k) left = a
  generalize sided (offQ v h k) left = b
  generalize sided u.rot left = ou
  generalize sided v.rot left = ov
  rw [facQ_comm, add_comm' b a]
  by_cases h1 : a = ⟨0, 0⟩ ∨ b = ⟨0, 0⟩
  · rw [if_pos h1, if_pos (Or.comm.1 h1)]; rfl
  · rw [if_neg h1, if_neg (fun h => h1 (Or.comm.1 h))]
    cases facQ (a.add b) ou ov h k with
    | none => rfl
    | some r =>
      simp only
      by_cases h2 : r < half
      · rw [if_pos h2, if_pos h2]; rfl
      · rw [if_neg h2, if_neg h2]
        generalize (a.add b).scale r = t
        by_cases h3 : atl (a.dot ou) (h - tol) (ou.dot ou) ∧ atl (t.dot ou) (h - tol) (ou.dot ou) ∧ atl (b.dot ov) (h - tol) (ov.dot ov) ∧ atl (t.dot ov) (h - tol) (ov.dot ov)
        · rw [if_pos h3, if_pos ⟨h3.2.2.1, h3.2.2.2, h3.1, h3.2.1⟩]; rfl
        · rw [if_neg h3, if_neg (fun h => h3 ⟨h.2.2.1, h.2.2.2, h.1, h.2.1⟩)]; rfl
theorem tipK_back (u v : PQ) (h tol : Rat) (left : Bool) : ∀ f k, tipK (v.scale (-1)) (u.scale (-1)) h tol (!left) f k = (tipK u v h tol left f k).map List.reverse
  | 0, _ => rfl
  | f + 1, k => by
    unfold tipK
    rw [tipQ_back]
    cases tipQ u v h tol left k with
    | none => exact tipK_back u v h tol left f (k + 1)
    | some l => rfl
theorem enough_neg {n : PQ} {h tol : Rat} : enough (n.scale (-1)) h tol ↔ enough n h tol := by
  unfold enough; rw [neg_dot]
theorem off_neg (u : PQ) (h : Rat) (k : Nat) : offQ (u.scale (-1)) h k = (offQ u h k).scale (-1) := by
  unfold offQ
  rw [neg_dot]
  generalize lowQ (h * h / u.dot u) k = r
  exact PQ.ext (by simp [PQ.rot, PQ.scale]; try grind) (by simp [PQ.rot, PQ.scale]; try grind)
theorem fitK_neg (v : PQ) (h tol : Rat) : ∀ f k, fitK (v.scale (-1)) h tol f k = (fitK v h tol f k).map fun x => (x.1.scale (-1), x.2)
  | 0, _ => rfl
  | f + 1, k => by
    unfold fitK
    rw [off_neg]
    by_cases he : enough (offQ v h k) h tol
    · rw [if_pos he, if_pos (enough_neg.2 he)]; rfl
    · rw [if_neg he, if_neg (fun hh => he (enough_neg.1 hh))]
      exact fitK_neg v h tol f (k + 1)
theorem sided_neg (n : PQ) (left : Bool) : sided (n.scale (-1)) (!left) = sided n left := by
  cases left <;> exact PQ.ext (by simp [sided, PQ.scale, PQ.neg]; try grind) (by simp [sided, PQ.scale, PQ.neg]; try grind)
theorem cutJ_back (u v : PQ) (h tol : Rat) (left : Bool) : cutJ (v.scale (-1)) (u.scale (-1)) h tol (!left) = (cutJ u v h tol left).map List.reverse := by
  unfold cutJ fitQ
  rw [fitK_neg, fitK_neg]
  cases fitK u h tol 4097 0 with
  | none => cases fitK v h tol 4097 0 <;> rfl
  | some a =>
    cases fitK v h tol 4097 0 with
    | none => rfl
    | some b => simp only [Option.map_some, sided_neg]; rfl
theorem sharp_backs (u v : PQ) (m : Rat) : sharpQ (v.scale (-1)) (u.scale (-1)) m ↔ sharpQ u v m := by
  rw [sharp_comm]
  unfold sharpQ
  rw [neg_dot, neg_dot, neg_dot]
  exact ⟨fun ⟨a, b, c⟩ => ⟨fun h => a (neg_zero.2 h), fun h => b (neg_zero.2 h), c⟩, fun ⟨a, b, c⟩ => ⟨fun h => a (neg_zero.1 h), fun h => b (neg_zero.1 h), c⟩⟩
theorem outQ_back (u v : PQ) (m h tol : Rat) (j : Int) (left : Bool) : outQ (v.scale (-1)) (u.scale (-1)) m h tol j (!left) = (outQ u v m h tol j left).map List.reverse := by
  unfold outQ
  by_cases h1 : j = 0 ∧ sharpQ u v m
  · rw [if_pos h1, if_pos ⟨h1.1, (sharp_backs u v m).2 h1.2⟩]
    exact tipK_back u v h tol left 4097 0
  · rw [if_neg h1, if_neg (fun h => h1 ⟨h.1, (sharp_backs u v m).1 h.2⟩)]
    exact cutJ_back u v h tol left
theorem piece_back (p u v : PQ) (s : SR) : pieceQ p (v.scale (-1)) (u.scale (-1)) s = pieceQ p u v s := by
  unfold pieceQ
  rw [neg_cross]
  by_cases h1 : u = ⟨0, 0⟩ ∨ v = ⟨0, 0⟩
  · rw [if_pos h1, if_pos (h1.elim (fun h => .inr (neg_zero.2 h)) (fun h => .inl (neg_zero.2 h)))]
  · rw [if_neg h1, if_neg (fun h => h1 (h.elim (fun h => .inr (neg_zero.1 h)) (fun h => .inl (neg_zero.1 h))))]
    by_cases h2 : mayJ s
    · simp only [h2, not_true_eq_false, if_false]
      by_cases h3 : s.join = 2
      · simp only [h3, if_true]
      · simp only [h3, if_false]
        by_cases h4 : u.cross v = 0
        · rw [if_pos h4, if_pos (by rw [h4]; grind)]
        · rw [if_neg h4, if_neg (by grind)]
          by_cases h5 : u.cross v < 0
          · have e : decide (-(u.cross v) < 0) = !true := by simp; grind
            rw [e, decide_eq_true h5, outQ_back]
            cases outQ u v s.miter.val s.h s.tol.val s.join true with
            | none => rfl
            | some l => simp only [Option.map_some, if_pos h5, if_neg (show ¬ -(u.cross v) < 0 by grind)]
          · have e : decide (-(u.cross v) < 0) = !false := by simp; grind
            rw [e, decide_eq_false h5, outQ_back]
            cases outQ u v s.miter.val s.h s.tol.val s.join false with
            | none => rfl
            | some l => simp only [Option.map_some, if_neg h5, if_pos (show -(u.cross v) < 0 by grind), List.reverse_reverse]
    · simp only [h2, not_false_eq_true, if_true]
def inLine (d o : PQ) (h : Rat) : Prop := 0 < d.dot o → d.dot o * d.dot o ≤ h * h * o.dot o
instance (d o : PQ) (h : Rat) : Decidable (inLine d o h) := inferInstanceAs (Decidable (_ → _))
def kiteQ (d u v ou ov : PQ) (h : Rat) : Prop := inLine d ou h ∧ inLine d ov h ∧ 0 ≤ d.dot u ∧ d.dot v ≤ 0
theorem facQ_le {s ou ov : PQ} {h r : Rat} {k : Nat} (hf : facQ s ou ov h k = some r) : (0 < s.dot ou → r ≤ lowQ (h * h * ou.dot ou / (s.dot ou * s.dot ou)) k) ∧ (0 < s.dot ov → r ≤ lowQ (h * h * ov.dot ov / (s.dot ov * s.dot ov)) k) := by
  unfold facQ at hf
  simp only at hf
  generalize lowQ (h * h * ou.dot ou / (s.dot ou * s.dot ou)) k = A at *
  generalize lowQ (h * h * ov.dot ov / (s.dot ov * s.dot ov)) k = B at *
  split at hf
  · split at hf
    · injection hf with hf
      split at hf <;> (subst hf; exact ⟨fun _ => by grind, fun _ => by grind⟩)
    · injection hf with hf; subst hf
      exact ⟨fun _ => by grind, fun h => absurd h (by assumption)⟩
  · split at hf
    · injection hf with hf; subst hf
      exact ⟨fun h => absurd h (by assumption), fun _ => by grind⟩
    · cases hf
theorem low_bound {r x M h : Rat} {k : Nat} (hr : 0 ≤ r) (hx : 0 < x) (hM : 0 ≤ M) (hl : r ≤ lowQ (h * h * M / (x * x)) k) : r * x * (r * x) ≤ h * h * M := by
  have hxx := Rat.mul_pos hx hx
  have hn := Rat.mul_nonneg (sq_nn h) hM
  have h0 : 0 ≤ h * h * M / (x * x) := by rw [Rat.div_def]; exact Rat.mul_nonneg hn (Rat.le_of_lt (Rat.inv_pos.2 hxx))
  have h1 := lowQ_sq h0 k
  have h2 : h * h * M / (x * x) * (x * x) = h * h * M := by grind
  generalize lowQ (h * h * M / (x * x)) k = R at *
  generalize h * h * M / (x * x) = q at *
  have h3 : r * r ≤ R * R := by
    have := Rat.mul_nonneg (show 0 ≤ R - r by grind) (show 0 ≤ R + r by grind); grind
  have h4 := Rat.mul_nonneg (show 0 ≤ q - r * r by grind) (show 0 ≤ x * x by grind)
  rw [← h2]
  grind
theorem cauchy (u v : PQ) : u.dot v * u.dot v ≤ u.dot u * v.dot v := by
  have h := sq_nn (u.cross v)
  have e : u.dot u * v.dot v - u.dot v * u.dot v = u.cross v * u.cross v := by unfold PQ.dot PQ.cross; grind
  grind
theorem side_in {u v o : PQ} {h r : Rat} (hb : r * r * u.dot u ≤ h * h) {x M : Rat} (hx : x = r * u.dot v) (hM : M = v.dot v) : x * x ≤ h * h * M := by
  have h1 := cauchy u v
  have h2 := dot_nn' v
  have h3 := Rat.mul_nonneg (show 0 ≤ h * h - r * r * u.dot u by grind) h2
  have h4 := Rat.mul_nonneg (sq_nn r) (show 0 ≤ u.dot u * v.dot v - u.dot v * u.dot v by grind)
  rw [hx, hM]
  generalize u.dot u = A at *
  generalize u.dot v = B at *
  generalize v.dot v = C at *
  grind
theorem rot_dots (u v : PQ) : u.rot.dot v.rot = u.dot v := by unfold PQ.rot PQ.dot; simp only; grind
theorem scale_dots (u v : PQ) (r : Rat) : (u.scale r).dot v = r * u.dot v := by unfold PQ.scale PQ.dot; simp only; grind
theorem add_dots (a b v : PQ) : (a.add b).dot v = a.dot v + b.dot v := by unfold PQ.add PQ.dot; simp only; grind
theorem rot_self (u : PQ) : u.rot.dot u = 0 := by unfold PQ.rot PQ.dot; simp only; grind
theorem rot_cr (u v : PQ) : u.rot.dot v = u.cross v := by unfold PQ.rot PQ.dot PQ.cross; simp only; grind
theorem sided_dotl (a v : PQ) (l : Bool) : (sided a l).dot v = if l then a.dot v else -(a.dot v) := by
  cases l <;> (unfold sided PQ.neg PQ.dot; simp only [Bool.false_eq_true, if_false, if_true]; try grind)
structure GeoD (u v : PQ) (left : Bool) (ru rv : Rat) (a b : PQ) : Prop where
  aou : a.dot (sided u.rot left) = ru * u.dot u
  aov : a.dot (sided v.rot left) = ru * u.dot v
  bou : b.dot (sided u.rot left) = rv * v.dot u
  bov : b.dot (sided v.rot left) = rv * v.dot v
  au : a.dot u = 0
  bv : b.dot v = 0
  av : a.dot v ≤ 0
  bu : 0 ≤ b.dot u
  aa : a.dot a = ru * ru * u.dot u
  bb : b.dot b = rv * rv * v.dot v
  uu : (sided u.rot left).dot (sided u.rot left) = u.dot u
  vv : (sided v.rot left).dot (sided v.rot left) = v.dot v
theorem geo_d {p u v : PQ} {h tol : Rat} {l : List PQ} {left : Bool} {ru rv : Rat} {a b : PQ} (g : Geo p u v h tol l left ru rv a b) : GeoD u v left ru rv a b := by
  have ha := g.ha
  have hb := g.hb
  have hX : u.cross v ≠ 0 := g.x0
  have hl := g.hl
  have hc : v.cross u = -(u.cross v) := by unfold PQ.cross; grind
  have h1 := g.pu
  have h2 := g.pv
  refine ⟨?_, ?_, ?_, ?_, ?_, ?_, ?_, ?_, ?_, ?_, ?_, ?_⟩
  · rw [ha, sidedd, scale_dots, rot_dots]
  · rw [ha, sidedd, scale_dots, rot_dots]
  · rw [hb, sidedd, scale_dots, rot_dots]
  · rw [hb, sidedd, scale_dots, rot_dots]
  · rw [ha, sided_dotl, scale_dots, rot_self]; cases left <;> simp
  · rw [hb, sided_dotl, scale_dots, rot_self]; cases left <;> simp
  · rw [ha, sided_dotl, scale_dots, rot_cr]
    generalize u.cross v = X at *
    by_cases hx : X < 0
    · rw [hl, decide_eq_true hx, if_pos rfl]
      have := Rat.mul_pos h1 (show 0 < -X by grind); grind
    · rw [hl, decide_eq_false hx, if_neg (by decide)]
      have := Rat.mul_pos h1 (show 0 < X by grind); grind
  · rw [hb, sided_dotl, scale_dots, rot_cr, hc]
    generalize u.cross v = X at *
    by_cases hx : X < 0
    · rw [hl, decide_eq_true hx, if_pos rfl]
      have := Rat.mul_pos h2 (show 0 < -X by grind); grind
    · rw [hl, decide_eq_false hx, if_neg (by decide)]
      have := Rat.mul_pos h2 (show 0 < X by grind); grind
  · rw [ha, sidedd, scale_dot]
  · rw [hb, sidedd, scale_dot]
  · rw [sidedd, rot_dots]
  · rw [sidedd, rot_dots]
theorem geo_kite {p u v : PQ} {h tol : Rat} {l : List PQ} {left : Bool} {ru rv : Rat} {a b : PQ} (g : Geo p u v h tol l left ru rv a b) : ∀ x ∈ l, kiteQ (x.sub p) u v (sided u.rot left) (sided v.rot left) h := by
  have d := geo_d g
  have k0 : kiteQ (p.sub p) u v (sided u.rot left) (sided v.rot left) h := by
    have e : p.sub p = ⟨0, 0⟩ := PQ.ext (by unfold PQ.sub; simp only; grind) (by unfold PQ.sub; simp only; grind)
    have z : ∀ o : PQ, (⟨0, 0⟩ : PQ).dot o = 0 := fun o => by unfold PQ.dot; simp only; grind
    rw [e]
    refine ⟨fun hh => ?_, fun hh => ?_, ?_, ?_⟩
    · rw [z] at hh; exact absurd hh (by decide)
    · rw [z] at hh; exact absurd hh (by decide)
    · rw [z]; exact Rat.le_refl
    · rw [z]; exact Rat.le_refl
  have ka : kiteQ a u v (sided u.rot left) (sided v.rot left) h :=
    ⟨fun _ => side_in (o := u) g.bu d.aou d.uu, fun _ => side_in (o := u) g.bu d.aov d.vv, by rw [d.au]; exact Rat.le_refl, d.av⟩
  have kb : kiteQ b u v (sided u.rot left) (sided v.rot left) h :=
    ⟨fun _ => side_in (o := u) g.bv d.bou d.uu, fun _ => side_in (o := u) g.bv d.bov d.vv, d.bu, by rw [d.bv]; exact Rat.le_refl⟩
  have key : ∀ {q : PQ}, kiteQ q u v (sided u.rot left) (sided v.rot left) h → kiteQ ((p.add q).sub p) u v (sided u.rot left) (sided v.rot left) h := fun hq => by rw [add_sub]; exact hq
  rcases g.pts with hp | ⟨r, k, t, hr, hf, ht, _, _, hp⟩
  · intro x hx
    rw [hp] at hx
    cases left <;> simp only [Bool.false_eq_true, if_false, if_true, List.map_cons, List.map_nil, List.mem_cons, List.not_mem_nil, or_false] at hx <;>
      (rcases hx with rfl | rfl | rfl <;> first | exact k0 | exact key ka | exact key kb)
  · have hr0 : 0 ≤ r := Rat.le_trans (Rat.le_of_lt half_pos) hr
    obtain ⟨f1, f2⟩ := facQ_le hf
    have kt : kiteQ t u v (sided u.rot left) (sided v.rot left) h := by
      have ln : ∀ o : PQ, (0 < (a.add b).dot o → r ≤ lowQ (h * h * o.dot o / ((a.add b).dot o * (a.add b).dot o)) k) → inLine t o h := fun o ho hh => by
        rw [ht, scale_dots] at hh ⊢
        have hx : 0 < (a.add b).dot o := by
          rcases Classical.em (0 < (a.add b).dot o) with h | h
          · exact h
          · have := Rat.mul_nonneg hr0 (show 0 ≤ -((a.add b).dot o) by grind); grind
        exact low_bound hr0 hx (dot_nn' o) (ho hx)
      refine ⟨ln _ f1, ln _ f2, ?_, ?_⟩
      · rw [ht, scale_dots, add_dots, d.au, Rat.zero_add]; exact Rat.mul_nonneg hr0 d.bu
      · rw [ht, scale_dots, add_dots, d.bv, Rat.add_zero]
        have := Rat.mul_nonneg hr0 (show 0 ≤ -(a.dot v) by have := d.av; grind); grind
    intro x hx
    rw [hp] at hx
    cases left <;> simp only [Bool.false_eq_true, if_false, if_true, List.map_cons, List.map_nil, List.mem_cons, List.not_mem_nil, or_false] at hx <;>
      (rcases hx with rfl | rfl | rfl | rfl <;> first | exact k0 | exact key ka | exact key kb | exact key kt)
theorem geo_bevel {p u v : PQ} {h tol : Rat} {l : List PQ} {left : Bool} {ru rv : Rat} {a b : PQ} (g : Geo p u v h tol l left ru rv a b) (h3 : l.length = 3) : l = [p, p.add (if left then b else a), p.add (if left then a else b)] ∧ a.dot u = 0 ∧ b.dot v = 0 ∧ a.dot a ≤ h * h ∧ b.dot b ≤ h * h := by
  have d := geo_d g
  refine ⟨?_, d.au, d.bv, by rw [d.aa]; exact g.bu, by rw [d.bb]; exact g.bv⟩
  rcases g.pts with hp | ⟨r, k, t, hr, hf, ht, _, _, hp⟩
  · rw [hp]; cases left <;> rfl
  · rw [hp] at h3; cases left <;> simp at h3
def outs (d o : PQ) (g : Rat) : Prop := 0 ≤ d.dot o ∧ g * g * o.dot o ≤ d.dot o * d.dot o
instance (d o : PQ) (g : Rat) : Decidable (outs d o g) := inferInstanceAs (Decidable (_ ∧ _))
theorem atl_outs {d o : PQ} {g : Rat} (hg : 0 < g) (h : atl (d.dot o) g (o.dot o)) : outs d o g := by
  unfold atl at h; rw [if_pos hg] at h; exact h
theorem geo_outs {p u v : PQ} {h tol : Rat} {l : List PQ} {left : Bool} {ru rv : Rat} {a b : PQ} (g : Geo p u v h tol l left ru rv a b) (hg : 0 < h - tol) :
    (l = [p, p.add (if left then b else a), p.add (if left then a else b)] ∨ ∃ t, l = [p, p.add (if left then b else a), p.add t, p.add (if left then a else b)] ∧ outs t (sided u.rot left) (h - tol) ∧ outs t (sided v.rot left) (h - tol)) ∧
    outs a (sided u.rot left) (h - tol) ∧ outs b (sided v.rot left) (h - tol) := by
  refine ⟨?_, atl_outs hg g.fa, atl_outs hg g.fb⟩
  rcases g.pts with hp | ⟨r, k, t, hr, hf, ht, t1, t2, hp⟩
  · left; rw [hp]; cases left <;> rfl
  · right; refine ⟨t, ?_, atl_outs hg t1, atl_outs hg t2⟩; rw [hp]; cases left <;> rfl
set_option maxHeartbeats 16000000 in
theorem joinconvex_pure (c : CR) (s : SR) (hc : c.Lm) (hs : s.Lm) : Pure Tryz.prog 12 [c.av, s.av] (.bool true) := by
  have hw := jwakes_pure
  obtain ⟨b, hl, hb⟩ := light20_pure c s hc hs
  refine Pure.of_go mixed Tryz.func12 rfl (rs := [.tmp 4]) rfl (by kernel_rfl) (by simp -implicitDefEqProofs [go_sem]) ?_
  cases b
  · unfold CR.av CR.cs SR.av SR.cs PR.cs at *
    simp -implicitDefEqProofs [go_sem]
    refine goC_pure _ hl (by simp -implicitDefEqProofs [go_sem]) ?_
    simp -implicitDefEqProofs [go_sem]
    refine goC_pure _ hw (by simp -implicitDefEqProofs [go_sem]) ?_
    simp -implicitDefEqProofs [go_sem]
  · obtain ⟨kc, ks⟩ := hb rfl
    have hpc := piece_pure c.p c.u c.v s kc.p kc.u kc.v ks
    have zp := kc.p.sz
    have zu := kc.u.sz
    have zv := kc.v.sz
    have zh := ks.h
    obtain ⟨l, e, hle⟩ : ∃ l e, pieceQ c.p.val c.u.val c.v.val s = (l, e) := ⟨_, _, rfl⟩
    have hz := piece_sz zp zu zv zh
    have hx := piece_cvx zp zu zv zh hle
    rw [hle] at hpc hz
    obtain ⟨hz1, hz2⟩ := hz
    simp only at hz1 hz2
    have kx := pcross_pure c.u c.v kc.u.mono kc.v.mono
    have kg := rsignq (c.u.val.cross c.v.val) (by have := PQ.sz_cross c.u.val c.v.val; omega)
    have z0 := sgnQ_eq (x := c.u.val.cross c.v.val)
    have ksame := fun q : PQ => psame_pure (pc q) c.p
    simp only [pc_val] at ksame
    have hlm : l.length * (4 * 30000 + 2) ≤ 4294967296 := by omega
    have kar := fun (h : 1 ≤ l.length) => area_pure l 30000 h (by omega) hz2 hlm
    have kas := rsignq (areaQ l) (by have := sz_areaQ hz2 hlm; omega)
    have kg2 := sgnQ_gt (x := areaQ l)
    generalize areaQ l = AR at *
    generalize c.u.val.cross c.v.val = X at *
    have hln : l = [] ↔ (l.length : Int) = 0 := by rw [← List.length_eq_zero_iff]; omega
    unfold pieceA pL at *
    simp only [rA_rC, pA_pC] at *
    have e3 : ∀ q : PQ, (pc q).av = .agg (pC q) := fun _ => rfl
    simp only [e3] at ksame
    obtain ⟨J, hJ⟩ : ∃ J, J = s.join := ⟨_, rfl⟩
    rw [← hJ] at hx
    have hsav : s.av = .agg [.bool s.width.neg, nA s.width.p, nA s.width.q, .bool s.miter.neg, nA s.miter.p, nA s.miter.q, .int .i64 s.cap, .int .i64 J, .bool s.tol.neg, nA s.tol.p, nA s.tol.q] := by rw [hJ]; rfl
    rw [hsav] at hl hpc ⊢
    unfold CR.av CR.cs PR.av PR.cs at *
    simp -implicitDefEqProofs [go_sem]
    refine goC_pure _ hl (by simp -implicitDefEqProofs [go_sem]) ?_
    simp -implicitDefEqProofs [go_sem]
    refine goC_pure _ hpc (by simp -implicitDefEqProofs [go_sem, ro_pL]) ?_
    rcases hx with ⟨rfl, hx⟩ | ⟨hne, rfl, har, hj, hcv⟩
    · by_cases he : e = 0
      · obtain ⟨hj, hX⟩ := hx.resolve_left (fun h => h he)
        subst he
        simp -implicitDefEqProofs [go_sem, hj]
        refine goC_pure _ kx (by simp -implicitDefEqProofs [go_sem]) ?_
        simp -implicitDefEqProofs [go_sem]
        refine goC_pure _ kg (by simp -implicitDefEqProofs [go_sem, ro_rC]) ?_
        simp -implicitDefEqProofs [go_sem, z0.2 hX]
        refine goC_pure _ hw (by simp -implicitDefEqProofs [go_sem]) ?_
        simp -implicitDefEqProofs [go_sem]
      · simp -implicitDefEqProofs [go_sem, he]
        refine goC_pure _ hw (by simp -implicitDefEqProofs [go_sem]) ?_
        simp -implicitDefEqProofs [go_sem]
    · have hlen : 1 ≤ l.length := by have := mt List.length_eq_zero_iff.1 hne; omega
      have kar := kar hlen
      have hg2 : 0 < sgnQ AR := kg2.2 har
      have hg : ¬ sgnQ AR ≤ 0 := by omega
      generalize sgnQ AR = gA at *
      clear kg2 har
      simp -implicitDefEqProofs [go_sem, hne]
      refine goC_pure _ kar (by simp -implicitDefEqProofs [go_sem]) ?_
      simp -implicitDefEqProofs [go_sem]
      refine goC_pure _ kas (by simp -implicitDefEqProofs [go_sem, ro_rC]) ?_
      rcases hj with hj | ⟨hj, hX, hl4, r, hlr⟩
      · by_cases a16 : 16 < (l.length : Int)
        · simp -implicitDefEqProofs [go_sem, hg, hj, a16]
          refine goC_pure _ kar (by simp -implicitDefEqProofs [go_sem]) ?_
          simp -implicitDefEqProofs [go_sem]
          refine goC_pure _ kas (by simp -implicitDefEqProofs [go_sem, ro_rC]) ?_
          simp -implicitDefEqProofs [go_sem, hg2]
          refine goC_pure _ hw (by simp -implicitDefEqProofs [go_sem]) ?_
          simp -implicitDefEqProofs [go_sem]
        · have kcv := hcv (by omega)
          simp -implicitDefEqProofs [go_sem, hg, hj, a16]
          refine goD_pure _ kcv (by simp -implicitDefEqProofs [go_sem]) ?_
          simp -implicitDefEqProofs [go_sem, hj]
          refine goD_pure _ hw (by simp -implicitDefEqProofs [go_sem]) ?_
          simp -implicitDefEqProofs [go_sem]
      · have kcv := hcv (by omega)
        have ks := ksame c.p.val (pc_in (n := 1000) (by omega)).mono (kc.p.mono)
        rw [decide_eq_true rfl] at ks
        have hX' : ¬ sgnQ X = 0 := fun h => hX (z0.1 h)
        generalize sgnQ X = gX at *
        have g1 : getE (l.map pA) 0 = .agg (pC c.p.val) := by rw [hlr]; rfl
        have hl4' : (l.length : Int) ≤ 4 := by omega
        simp -implicitDefEqProofs [go_sem, hg, hj]
        refine goD_pure _ kcv (by simp -implicitDefEqProofs [go_sem]) ?_
        have hlen0 : 0 < l.length := hlen
        simp -implicitDefEqProofs [go_sem, hj, g1, hlen0]
        refine goD_pure _ ks (by simp -implicitDefEqProofs [go_sem, ro_pC]) ?_
        simp -implicitDefEqProofs [go_sem, hl4']
        refine goD_pure _ kx (by simp -implicitDefEqProofs [go_sem]) ?_
        simp -implicitDefEqProofs [go_sem]
        refine goD_pure _ kg (by simp -implicitDefEqProofs [go_sem, ro_rC]) ?_
        simp -implicitDefEqProofs [go_sem, hX']
        refine goD_pure _ hw (by simp -implicitDefEqProofs [go_sem]) ?_
        simp -implicitDefEqProofs [go_sem]
theorem sz_neg1 (p : PQ) : (p.scale (-1)).sz = p.sz := by
  unfold PQ.sz PQ.scale
  simp only
  rw [show p.x * -1 = -p.x by grind, show p.y * -1 = -p.y by grind, sz_neg, sz_neg]
set_option maxHeartbeats 16000000 in
theorem joinback_pure (c : CR) (s : SR) (hc : c.Lm) (hs : s.Lm) : Pure Tryz.prog 11 [c.av, s.av] (.bool true) := by
  have hw := jwakes_pure
  obtain ⟨b, hl, hb⟩ := light20_pure c s hc hs
  refine Pure.of_go mixed Tryz.func11 rfl (rs := [.tmp 4]) rfl (by kernel_rfl) (by simp -implicitDefEqProofs [go_sem]) ?_
  cases b
  · unfold CR.av CR.cs SR.av SR.cs PR.cs at *
    simp -implicitDefEqProofs [go_sem]
    refine goC_pure _ hl (by simp -implicitDefEqProofs [go_sem]) ?_
    simp -implicitDefEqProofs [go_sem]
    refine goC_pure _ hw (by simp -implicitDefEqProofs [go_sem]) ?_
    simp -implicitDefEqProofs [go_sem]
  · obtain ⟨kc, ks⟩ := hb rfl
    have zp := kc.p.sz
    have zu := kc.u.sz
    have zv := kc.v.sz
    have zh := ks.h
    have hpc := piece_pure c.p c.u c.v s kc.p kc.u kc.v ks
    have hpb := piece_pure c.p (pc (c.v.val.scale (-1))) (pc (c.u.val.scale (-1))) s kc.p (pc_in (by rw [sz_neg1]; omega)) (pc_in (by rw [sz_neg1]; omega)) ks
    simp only [pc_val] at hpb
    rw [piece_back] at hpb
    have hz := piece_sz zp zu zv zh (p := c.p.val) (u := c.u.val) (v := c.v.val)
    obtain ⟨l, e, hle⟩ : ∃ l e, pieceQ c.p.val c.u.val c.v.val s = (l, e) := ⟨_, _, rfl⟩
    rw [hle] at hpc hpb hz
    obtain ⟨hz1, hz2⟩ := hz
    simp only at hz1 hz2
    have zn : sz (-1 : Rat) ≤ 1 := by rw [sz_neg, sz_one]; omega
    have m1 : (((-1 : Int) : Rat) / ((1 : Int) : Rat)) = -1 := by grind
    have k9 := rof_pure (-1) 1 (by omega) (by omega) (by omega)
    rw [m1] at k9
    have kv := pscale_pure c.v (qc (-1)) kc.v.mono (qc_in (n := 1) zn).mono
    have ku := pscale_pure c.u (qc (-1)) kc.u.mono (qc_in (n := 1) zn).mono
    rw [qc_val] at kv ku
    change Pure _ _ [_, rA (-1)] _ at kv ku
    have hlm : l.length * (4 * 30000 + 2) ≤ 4294967296 := by omega
    have kar := fun (h : 1 ≤ l.length) => area_pure l 30000 h (by omega) hz2 hlm
    have kcm := rcmpq (areaQ l) (areaQ l) (by have := sz_areaQ hz2 hlm; omega) (by have := sz_areaQ hz2 hlm; omega)
    rw [cmpQ_self] at kcm
    have kln := lines_self l (by omega) (fun p hp => by have := hz2 p hp; omega)
    generalize areaQ l = AR at *
    have e3 : ∀ q : PQ, (pc q).av = .agg (pC q) := fun _ => rfl
    simp only [e3] at hpb
    generalize c.v.val.scale (-1) = V at *
    generalize c.u.val.scale (-1) = U at *
    clear hle
    unfold pieceA pL at *
    simp only [rA_rC, pA_pC] at *
    obtain ⟨J, hJ⟩ : ∃ J, J = s.join := ⟨_, rfl⟩
    have hsav : s.av = .agg [.bool s.width.neg, nA s.width.p, nA s.width.q, .bool s.miter.neg, nA s.miter.p, nA s.miter.q, .int .i64 s.cap, .int .i64 J, .bool s.tol.neg, nA s.tol.p, nA s.tol.q] := by rw [hJ]; rfl
    rw [hsav] at hl hpc hpb ⊢
    unfold CR.av CR.cs PR.av PR.cs at *
    simp -implicitDefEqProofs [go_sem]
    refine goC_pure _ hl (by simp -implicitDefEqProofs [go_sem]) ?_
    by_cases a1 : J < 0
    · simp -implicitDefEqProofs [go_sem, a1]
      refine goC_pure _ hw (by simp -implicitDefEqProofs [go_sem]) ?_
      simp -implicitDefEqProofs [go_sem]
    by_cases a2 : 2 < J
    · simp -implicitDefEqProofs [go_sem, a1, a2]
      refine goC_pure _ hw (by simp -implicitDefEqProofs [go_sem]) ?_
      simp -implicitDefEqProofs [go_sem]
    simp -implicitDefEqProofs [go_sem, a1, a2]
    refine goC_pure _ k9 (by simp -implicitDefEqProofs [go_sem]) ?_
    simp -implicitDefEqProofs [go_sem]
    refine goC_pure _ hpc (by simp -implicitDefEqProofs [go_sem]) ?_
    simp -implicitDefEqProofs [go_sem]
    refine goD_pure _ kv (by simp -implicitDefEqProofs [go_sem, ro_rC]) ?_
    simp -implicitDefEqProofs [go_sem]
    refine goD_pure _ ku (by simp -implicitDefEqProofs [go_sem, ro_rC]) ?_
    simp -implicitDefEqProofs [go_sem]
    refine goD_pure _ hpb (by simp -implicitDefEqProofs [go_sem, ro_pC]) ?_
    by_cases he : e = 0
    · by_cases hl0 : l = []
      · subst he hl0
        simp -implicitDefEqProofs [go_sem]
        refine goC_pure _ hw (by simp -implicitDefEqProofs [go_sem]) ?_
        simp -implicitDefEqProofs [go_sem]
      · subst he
        have hlen : 1 ≤ l.length := by have := mt List.length_eq_zero_iff.1 hl0; omega
        have kar' := kar hlen
        by_cases a3 : J = 2
        · simp -implicitDefEqProofs [go_sem, hl0, a3]
          refine goC_pure _ kln (by simp -implicitDefEqProofs [go_sem]) ?_
          simp -implicitDefEqProofs [go_sem]
          refine goC_pure _ hw (by simp -implicitDefEqProofs [go_sem]) ?_
          simp -implicitDefEqProofs [go_sem]
        · simp -implicitDefEqProofs [go_sem, hl0, a3]
          refine goC_pure _ kar' (by simp -implicitDefEqProofs [go_sem]) ?_
          simp -implicitDefEqProofs [go_sem]
          refine goC_pure _ kar' (by simp -implicitDefEqProofs [go_sem]) ?_
          simp -implicitDefEqProofs [go_sem]
          refine goC_pure _ kcm (by simp -implicitDefEqProofs [go_sem, ro_rC]) ?_
          simp -implicitDefEqProofs [go_sem]
          refine goC_pure _ kln (by simp -implicitDefEqProofs [go_sem]) ?_
          simp -implicitDefEqProofs [go_sem]
          refine goC_pure _ hw (by simp -implicitDefEqProofs [go_sem]) ?_
          simp -implicitDefEqProofs [go_sem]
    · simp -implicitDefEqProofs [go_sem, he]
      refine goC_pure _ hw (by simp -implicitDefEqProofs [go_sem]) ?_
      simp -implicitDefEqProofs [go_sem]
theorem neg_scale (p : PQ) : p.scale (-1) = p.neg := PQ.ext (by unfold PQ.scale PQ.neg; simp only; grind) (by unfold PQ.scale PQ.neg; simp only; grind)
theorem sz_sidedrot (p : PQ) (left : Bool) : (sided p.rot left).sz ≤ p.sz := by
  rw [sz_sided]; exact PQ.sz_rot p
set_option maxHeartbeats 4000000 in
theorem jout_pure (v : PR) (x : PQ) (d : Rat) (left : Bool) (hv : v.In 1) (hx : x.sz ≤ 100000) (hd : sz d ≤ 100) :
    Pure Tryz.prog 48 [v.av, pA x, rA d, .bool left] (.bool (decide (outs x (sided v.val.rot left) d))) := by
  have zv := hv.sz
  have k1 := left_pure v hv.mono
  have zr := PQ.sz_rot v.val
  have zo := sz_sidedrot v.val left
  have zn : sz (-1 : Rat) ≤ 1 := by rw [sz_neg, sz_one]; omega
  have m1 : (((-1 : Int) : Rat) / ((1 : Int) : Rat)) = -1 := by grind
  have k9 := rof_pure (-1) 1 (by omega) (by omega) (by omega)
  rw [m1] at k9
  have k2 := pscaleq v.val.rot (-1) (by omega) (by omega)
  rw [neg_scale] at k2
  have hso : sided v.val.rot left = if left then v.val.rot else v.val.rot.neg := rfl
  generalize sided v.val.rot left = o at *
  have hres : decide (outs x o d) = (decide (0 ≤ sgnQ (x.dot o)) && decide (0 ≤ cmpQ (x.dot o * x.dot o) (d * d * o.dot o))) := by
    rw [← Bool.decide_and, decide_eq_decide, sgnQ_ge, cmpQ_ge]; exact Iff.rfl
  rw [hres]
  clear hres
  have k3 := pdot_pure (pc x) (pc o) (pc_in (n := 100000) (by omega)).mono (pc_in (n := 100000) (by omega)).mono
  have z3 := PQ.sz_dot x o
  have k7 := pdot_pure (pc o) (pc o) (pc_in (n := 100000) (by omega)).mono (pc_in (n := 100000) (by omega)).mono
  have z7 := PQ.sz_dot o o
  simp only [pc_val] at k3 k7
  change Pure _ _ [pA x, pA o] _ at k3
  change Pure _ _ [pA o, pA o] _ at k7
  generalize x.dot o = X at *
  generalize o.dot o = M at *
  have k4 := rsignq X (by omega)
  have k5 := rmulq X X (by omega) (by omega)
  have z5 := sz_mul X X
  have k6 := rmulq d d (by omega) (by omega)
  have z6 := sz_mul d d
  have k8 := rmulq (d * d) M (by omega) (by omega)
  have z8 := sz_mul (d * d) M
  have kc := rcmpq (X * X) (d * d * M) (by omega) (by omega)
  generalize sgnQ X = g1 at *
  generalize cmpQ (X * X) (d * d * M) = g2 at *
  generalize d * d * M = B at *
  generalize X * X = A at *
  generalize d * d = D at *
  generalize v.val.rot.neg = nn at *
  generalize v.val.rot = r at *
  simp only [rA_rC, pA_pC] at *
  refine Pure.of_go mixed Tryz.func48 rfl (rs := [.tmp 8]) rfl (by kernel_rfl) (by simp -implicitDefEqProofs [go_sem, ro_rC, ro_pC]) ?_
  unfold PR.av at *
  cases left
  · rw [if_neg (by decide)] at hso
    subst hso
    simp -implicitDefEqProofs [go_sem]
    refine goC_pure _ k1 (by simp -implicitDefEqProofs [go_sem]) ?_
    simp -implicitDefEqProofs [go_sem]
    refine goD_pure _ k9 (by simp -implicitDefEqProofs [go_sem]) ?_
    simp -implicitDefEqProofs [go_sem]
    refine goD_pure _ k2 (by simp -implicitDefEqProofs [go_sem, ro_pC, ro_rC]) ?_
    simp -implicitDefEqProofs [go_sem]
    refine goC_pure _ k3 (by simp -implicitDefEqProofs [go_sem, ro_pC]) ?_
    simp -implicitDefEqProofs [go_sem]
    refine goD_pure _ k4 (by simp -implicitDefEqProofs [go_sem, ro_rC]) ?_
    by_cases a : 0 ≤ g1
    · simp -implicitDefEqProofs [go_sem, a]
      refine goD_pure _ k5 (by simp -implicitDefEqProofs [go_sem, ro_rC]) ?_
      simp -implicitDefEqProofs [go_sem]
      refine goD_pure _ k6 (by simp -implicitDefEqProofs [go_sem, ro_rC]) ?_
      simp -implicitDefEqProofs [go_sem]
      refine goD_pure _ k7 (by simp -implicitDefEqProofs [go_sem, ro_pC]) ?_
      simp -implicitDefEqProofs [go_sem]
      refine goD_pure _ k8 (by simp -implicitDefEqProofs [go_sem, ro_rC]) ?_
      simp -implicitDefEqProofs [go_sem]
      refine goD_pure _ kc (by simp -implicitDefEqProofs [go_sem, ro_rC]) ?_
      simp -implicitDefEqProofs [go_sem]
    · simp -implicitDefEqProofs [go_sem, a]
  · rw [if_pos rfl] at hso
    subst hso
    simp -implicitDefEqProofs [go_sem]
    refine goC_pure _ k1 (by simp -implicitDefEqProofs [go_sem]) ?_
    simp -implicitDefEqProofs [go_sem]
    refine goC_pure _ k3 (by simp -implicitDefEqProofs [go_sem, ro_pC]) ?_
    simp -implicitDefEqProofs [go_sem]
    refine goD_pure _ k4 (by simp -implicitDefEqProofs [go_sem, ro_rC]) ?_
    by_cases a : 0 ≤ g1
    · simp -implicitDefEqProofs [go_sem, a]
      refine goD_pure _ k5 (by simp -implicitDefEqProofs [go_sem, ro_rC]) ?_
      simp -implicitDefEqProofs [go_sem]
      refine goD_pure _ k6 (by simp -implicitDefEqProofs [go_sem, ro_rC]) ?_
      simp -implicitDefEqProofs [go_sem]
      refine goD_pure _ k7 (by simp -implicitDefEqProofs [go_sem, ro_pC]) ?_
      simp -implicitDefEqProofs [go_sem]
      refine goD_pure _ k8 (by simp -implicitDefEqProofs [go_sem, ro_rC]) ?_
      simp -implicitDefEqProofs [go_sem]
      refine goD_pure _ kc (by simp -implicitDefEqProofs [go_sem, ro_rC]) ?_
      simp -implicitDefEqProofs [go_sem]
    · simp -implicitDefEqProofs [go_sem, a]
set_option maxHeartbeats 32000000 in
theorem joinholds_pure (c : CR) (s : SR) (hc : c.Lm) (hs : s.Lm) : Pure Tryz.prog 9 [c.av, s.av] (.bool true) := by
  have hw := jwakes_pure
  obtain ⟨b, hl, hb⟩ := light20_pure c s hc hs
  refine Pure.of_goz true mixed Tryz.func9 rfl (rs := [.tmp 4]) rfl (by kernel_rfl) (by simp -implicitDefEqProofs [go_sem]) ?_
  cases b
  · unfold CR.av CR.cs SR.av SR.cs PR.cs at *
    simp -implicitDefEqProofs [go_sem]
    refine goC_pure _ hl (by simp -implicitDefEqProofs [go_sem]) ?_
    simp -implicitDefEqProofs [go_sem]
    refine goC_pure _ hw (by simp -implicitDefEqProofs [go_sem]) ?_
    simp -implicitDefEqProofs [go_sem]
  · obtain ⟨kc, ks⟩ := hb rfl
    have zp := kc.p.sz
    have zu := kc.u.sz
    have zv := kc.v.sz
    have zh := ks.h
    have zt := ks.tol.sz
    have hpc := piece_pure c.p c.u c.v s kc.p kc.u kc.v ks
    have hz := piece_sz zp zu zv zh (p := c.p.val) (u := c.u.val) (v := c.v.val)
    obtain ⟨l, e, hle⟩ : ∃ l e, pieceQ c.p.val c.u.val c.v.val s = (l, e) := ⟨_, _, rfl⟩
    have hpq := pieceQ_cases c.p.val c.u.val c.v.val s
    rw [hle] at hpc hz hpq
    obtain ⟨hz1, hz2⟩ := hz
    simp only at hz1 hz2 hpq
    have hle0 : e = 0 → pieceQ c.p.val c.u.val c.v.val s = (l, 0) := fun h => by rw [hle, h]
    have k1 := rof_pure 1 2 (by omega) (by omega) (by omega)
    rw [← half_eq] at k1
    have zhf := sz_half
    have k2 := rmul_pure s.width (qc half) (ks.width.mono (m := 1000)).sm (qc_sm (by omega))
    rw [qc_val] at k2
    change Pure _ _ [_, rA half] (rA s.h) at k2
    have k3 := rsub_pure (qc s.h) s.tol (qc_sm (by omega)) (ks.tol.mono (m := 1000)).sm
    rw [qc_val] at k3
    change Pure _ _ [rA s.h, _] _ at k3
    have zd := sz_sub s.h s.tol.val
    have hgeo : e = 0 → s.join ≠ 2 → l ≠ [] → 0 < s.h - s.tol.val → ∃ left a b, left = decide (c.u.val.cross c.v.val < 0) ∧ (l = [c.p.val, c.p.val.add (if left then b else a), c.p.val.add (if left then a else b)] ∨ ∃ t, l = [c.p.val, c.p.val.add (if left then b else a), c.p.val.add t, c.p.val.add (if left then a else b)] ∧ outs t (sided c.u.val.rot left) (s.h - s.tol.val) ∧ outs t (sided c.v.val.rot left) (s.h - s.tol.val)) ∧
        outs a (sided c.u.val.rot left) (s.h - s.tol.val) ∧ outs b (sided c.v.val.rot left) (s.h - s.tol.val) := fun h1 h2 h3 h4 => by
      obtain ⟨_, left, ru, rv, a, b, g⟩ := piece_geo (hle0 h1) h2 h3
      have := geo_outs g h4
      exact ⟨left, a, b, g.hl, this⟩
    generalize s.h - s.tol.val = d at *
    have ksd := rsignq d (by omega)
    have yd := sgnQ_le (x := d)
    have kx := pcross_pure c.u c.v kc.u.mono kc.v.mono
    have kg := rsignq (c.u.val.cross c.v.val) (by have := PQ.sz_cross c.u.val c.v.val; omega)
    have y0 := sgnQ_lt (x := c.u.val.cross c.v.val)
    have ksub := fun (q : PQ) (hq : (c.p.val.add q).sz ≤ 30000) => psub_pure (pc (c.p.val.add q)) c.p (pc_in hq).mono kc.p.mono
    simp only [pc_val, add_sub] at ksub
    have kou := fun (q : PQ) (left : Bool) (hq : q.sz ≤ 100000) (h : outs q (sided c.u.val.rot left) d) => by
      have := jout_pure c.u q d left kc.u hq (by omega)
      rwa [decide_eq_true h] at this
    have kov := fun (q : PQ) (left : Bool) (hq : q.sz ≤ 100000) (h : outs q (sided c.v.val.rot left) d) => by
      have := jout_pure c.v q d left kc.v hq (by omega)
      rwa [decide_eq_true h] at this
    have e3 : ∀ q : PQ, (pc q).av = .agg (pC q) := fun _ => rfl
    have zq : ∀ q : PQ, (c.p.val.add q).sz ≤ 30000 → q.sz ≤ 100000 := fun q hq => by
      have := PQ.sz_sub (c.p.val.add q) c.p.val
      rw [add_sub] at this
      omega
    generalize c.u.val.cross c.v.val = X at *
    obtain ⟨H, hH⟩ : ∃ H, H = s.h := ⟨_, rfl⟩
    rw [← hH] at k2 k3
    generalize sgnQ X = gx at *
    generalize sgnQ d = gd at *
    simp only [e3] at ksub
    unfold pieceA pL at *
    simp only [rA_rC, pA_pC] at *
    obtain ⟨J, hJ⟩ : ∃ J, J = s.join := ⟨_, rfl⟩
    rw [← hJ] at hpq hgeo
    have hsav : s.av = .agg [.bool s.width.neg, nA s.width.p, nA s.width.q, .bool s.miter.neg, nA s.miter.p, nA s.miter.q, .int .i64 s.cap, .int .i64 J, .bool s.tol.neg, nA s.tol.p, nA s.tol.q] := by rw [hJ]; rfl
    rw [hsav] at hl hpc ⊢
    unfold CR.av CR.cs PR.av PR.cs RQ.av at *
    simp -implicitDefEqProofs [go_sem]
    refine goC_pure _ hl (by simp -implicitDefEqProofs [go_sem]) ?_
    by_cases a1 : J = 2
    · simp -implicitDefEqProofs [go_sem, a1]
      refine goC_pure _ hw (by simp -implicitDefEqProofs [go_sem]) ?_
      simp -implicitDefEqProofs [go_sem]
    have hpq := hpq a1
    simp -implicitDefEqProofs [go_sem, a1]
    refine goC_pure _ hpc (by simp -implicitDefEqProofs [go_sem]) ?_
    simp -implicitDefEqProofs [go_sem]
    refine go_strict' (by kernel_rfl) ?_
    simp -implicitDefEqProofs [go_sem]
    refine goD_pure _ k1 (by simp -implicitDefEqProofs [go_sem]) ?_
    simp -implicitDefEqProofs [go_sem]
    refine goD_pure _ k2 (by simp -implicitDefEqProofs [go_sem, ro_rC]) ?_
    simp -implicitDefEqProofs [go_sem]
    refine goD_pure _ k3 (by simp -implicitDefEqProofs [go_sem, ro_rC]) ?_
    by_cases he : e = 0
    · by_cases h3 : (l.length : Int) < 3
      · simp -implicitDefEqProofs [go_sem, he, h3]
        refine goC_pure _ hw (by simp -implicitDefEqProofs [go_sem]) ?_
        simp -implicitDefEqProofs [go_sem]
      · simp -implicitDefEqProofs [go_sem, he, h3]
        refine goC_pure _ ksd (by simp -implicitDefEqProofs [go_sem, ro_rC]) ?_
        by_cases h4 : d ≤ 0
        · simp -implicitDefEqProofs [go_sem, he, yd.2 h4]
          refine goC_pure _ hw (by simp -implicitDefEqProofs [go_sem]) ?_
          simp -implicitDefEqProofs [go_sem]
        · have h4' : ¬ gd ≤ 0 := fun h => h4 (yd.1 h)
          have hne : l ≠ [] := fun h => by rw [h] at h3; simp at h3
          obtain ⟨left, a, b, hleft, hl2, oa, ob⟩ := hgeo he a1 hne (by grind)
          simp -implicitDefEqProofs [go_sem, h4']
          refine goC_pure _ kx (by simp -implicitDefEqProofs [go_sem]) ?_
          simp -implicitDefEqProofs [go_sem]
          refine goC_pure _ kg (by simp -implicitDefEqProofs [go_sem, ro_rC]) ?_
          clear hgeo hle0 hpq hle
          by_cases hX : X < 0
          · rw [decide_eq_true hX] at hleft
            subst hleft
            have hgx : gx < 0 := y0.2 hX
            rcases hl2 with hl2 | hl2
            · subst hl2
              simp only [if_true] at hz2 hl hpc ⊢
              have za := hz2 (c.p.val.add a) (by simp)
              have zb := hz2 (c.p.val.add b) (by simp)
              have sa := ksub a za
              have sb := ksub b zb
              have ua := kou a true (zq a za) oa
              have vb := kov b true (zq b zb) ob
              simp only [List.map_cons, List.map_nil, pA_pC] at *
              have g1 : getE [AV.agg (pC (c.p.val)), AV.agg (pC (c.p.val.add b)), AV.agg (pC (c.p.val.add a))] 1 = .agg (pC (c.p.val.add b)) := rfl
              have g2 : getE [AV.agg (pC (c.p.val)), AV.agg (pC (c.p.val.add b)), AV.agg (pC (c.p.val.add a))] 2 = .agg (pC (c.p.val.add a)) := rfl
              have w2 : IntKind.i64.wrap 2 = 2 := rfl
              have w3 : IntKind.i64.wrap 3 = 3 := rfl
              simp -implicitDefEqProofs [go_sem, hgx, w2, w3, g1, g2]
              refine go_loose' (by kernel_rfl) ?_
              simp -implicitDefEqProofs [go_sem, hgx, w2, w3, g1, g2]
              refine go_strict' (by kernel_rfl) ?_
              simp -implicitDefEqProofs [go_sem, hgx, w2, w3, g1, g2]
              refine goD_pure _ sa (by simp -implicitDefEqProofs [go_sem, ro_pC, ro_rC]) ?_
              simp -implicitDefEqProofs [go_sem, w2, w3, g1, g2]
              refine goD_pure _ ua (by simp -implicitDefEqProofs [go_sem, ro_pC, ro_rC]) ?_
              simp -implicitDefEqProofs [go_sem, w2, w3, g1, g2]
              refine goD_pure _ sb (by simp -implicitDefEqProofs [go_sem, ro_pC, ro_rC]) ?_
              simp -implicitDefEqProofs [go_sem, w2, w3, g1, g2]
              refine goD_pure _ vb (by simp -implicitDefEqProofs [go_sem, ro_pC, ro_rC]) ?_
              simp -implicitDefEqProofs [go_sem, w2, w3, g1, g2]
              refine goC_pure _ hw (by simp -implicitDefEqProofs [go_sem]) ?_
              simp -implicitDefEqProofs [go_sem]
            · obtain ⟨t, rfl, ot1, ot2⟩ := hl2
              simp only [if_true] at hz2 hl hpc ⊢
              have za := hz2 (c.p.val.add a) (by simp)
              have zb := hz2 (c.p.val.add b) (by simp)
              have zt2 := hz2 (c.p.val.add t) (by simp)
              have sa := ksub a za
              have sb := ksub b zb
              have ua := kou a true (zq a za) oa
              have vb := kov b true (zq b zb) ob
              have st := ksub t zt2
              have ut := kou t true (zq t zt2) ot1
              have vt := kov t true (zq t zt2) ot2
              simp only [List.map_cons, List.map_nil, pA_pC] at *
              have g1 : getE [AV.agg (pC (c.p.val)), AV.agg (pC (c.p.val.add b)), AV.agg (pC (c.p.val.add t)), AV.agg (pC (c.p.val.add a))] 1 = .agg (pC (c.p.val.add b)) := rfl
              have g2 : getE [AV.agg (pC (c.p.val)), AV.agg (pC (c.p.val.add b)), AV.agg (pC (c.p.val.add t)), AV.agg (pC (c.p.val.add a))] 2 = .agg (pC (c.p.val.add t)) := rfl
              have g3 : getE [AV.agg (pC (c.p.val)), AV.agg (pC (c.p.val.add b)), AV.agg (pC (c.p.val.add t)), AV.agg (pC (c.p.val.add a))] 3 = .agg (pC (c.p.val.add a)) := rfl
              have w2 : IntKind.i64.wrap 2 = 2 := rfl
              have w3 : IntKind.i64.wrap 3 = 3 := rfl
              simp -implicitDefEqProofs [go_sem, hgx, w2, w3, g1, g2, g3]
              refine go_loose' (by kernel_rfl) ?_
              simp -implicitDefEqProofs [go_sem, hgx, w2, w3, g1, g2, g3]
              refine go_strict' (by kernel_rfl) ?_
              simp -implicitDefEqProofs [go_sem, hgx, w2, w3, g1, g2, g3]
              refine goD_pure _ sa (by simp -implicitDefEqProofs [go_sem, ro_pC, ro_rC]) ?_
              simp -implicitDefEqProofs [go_sem, w2, w3, g1, g2, g3]
              refine goD_pure _ ua (by simp -implicitDefEqProofs [go_sem, ro_pC, ro_rC]) ?_
              simp -implicitDefEqProofs [go_sem, w2, w3, g1, g2, g3]
              refine goD_pure _ sb (by simp -implicitDefEqProofs [go_sem, ro_pC, ro_rC]) ?_
              simp -implicitDefEqProofs [go_sem, w2, w3, g1, g2, g3]
              refine goD_pure _ vb (by simp -implicitDefEqProofs [go_sem, ro_pC, ro_rC]) ?_
              simp -implicitDefEqProofs [go_sem, w2, w3, g1, g2, g3]
              refine go_strict' (by kernel_rfl) ?_
              simp -implicitDefEqProofs [go_sem, w2, w3, g1, g2, g3]
              refine goD_pure _ st (by simp -implicitDefEqProofs [go_sem, ro_pC, ro_rC]) ?_
              simp -implicitDefEqProofs [go_sem, w2, w3, g1, g2, g3]
              refine goD_pure _ ut (by simp -implicitDefEqProofs [go_sem, ro_pC, ro_rC]) ?_
              simp -implicitDefEqProofs [go_sem, w2, w3, g1, g2, g3]
              refine goD_pure _ st (by simp -implicitDefEqProofs [go_sem, ro_pC, ro_rC]) ?_
              simp -implicitDefEqProofs [go_sem, w2, w3, g1, g2, g3]
              refine goD_pure _ vt (by simp -implicitDefEqProofs [go_sem, ro_pC, ro_rC]) ?_
              simp -implicitDefEqProofs [go_sem, w2, w3, g1, g2, g3]
              refine goC_pure _ hw (by simp -implicitDefEqProofs [go_sem]) ?_
              simp -implicitDefEqProofs [go_sem]
          · rw [decide_eq_false hX] at hleft
            subst hleft
            have hgx : ¬ gx < 0 := fun h => hX (y0.1 h)
            rcases hl2 with hl2 | hl2
            · subst hl2
              simp only [Bool.false_eq_true, if_false] at hz2 hl hpc ⊢
              have za := hz2 (c.p.val.add a) (by simp)
              have zb := hz2 (c.p.val.add b) (by simp)
              have sa := ksub a za
              have sb := ksub b zb
              have ua := kou a false (zq a za) oa
              have vb := kov b false (zq b zb) ob
              simp only [List.map_cons, List.map_nil, pA_pC] at *
              have g1 : getE [AV.agg (pC (c.p.val)), AV.agg (pC (c.p.val.add a)), AV.agg (pC (c.p.val.add b))] 1 = .agg (pC (c.p.val.add a)) := rfl
              have g2 : getE [AV.agg (pC (c.p.val)), AV.agg (pC (c.p.val.add a)), AV.agg (pC (c.p.val.add b))] 2 = .agg (pC (c.p.val.add b)) := rfl
              have w2 : IntKind.i64.wrap 2 = 2 := rfl
              have w3 : IntKind.i64.wrap 3 = 3 := rfl
              simp -implicitDefEqProofs [go_sem, hgx, w2, w3, g1, g2]
              refine go_loose' (by kernel_rfl) ?_
              simp -implicitDefEqProofs [go_sem, hgx, w2, w3, g1, g2]
              refine go_strict' (by kernel_rfl) ?_
              simp -implicitDefEqProofs [go_sem, hgx, w2, w3, g1, g2]
              refine goD_pure _ sa (by simp -implicitDefEqProofs [go_sem, ro_pC, ro_rC]) ?_
              simp -implicitDefEqProofs [go_sem, w2, w3, g1, g2]
              refine goD_pure _ ua (by simp -implicitDefEqProofs [go_sem, ro_pC, ro_rC]) ?_
              simp -implicitDefEqProofs [go_sem, w2, w3, g1, g2]
              refine goD_pure _ sb (by simp -implicitDefEqProofs [go_sem, ro_pC, ro_rC]) ?_
              simp -implicitDefEqProofs [go_sem, w2, w3, g1, g2]
              refine goD_pure _ vb (by simp -implicitDefEqProofs [go_sem, ro_pC, ro_rC]) ?_
              simp -implicitDefEqProofs [go_sem, w2, w3, g1, g2]
              refine goC_pure _ hw (by simp -implicitDefEqProofs [go_sem]) ?_
              simp -implicitDefEqProofs [go_sem]
            · obtain ⟨t, rfl, ot1, ot2⟩ := hl2
              simp only [Bool.false_eq_true, if_false] at hz2 hl hpc ⊢
              have za := hz2 (c.p.val.add a) (by simp)
              have zb := hz2 (c.p.val.add b) (by simp)
              have zt2 := hz2 (c.p.val.add t) (by simp)
              have sa := ksub a za
              have sb := ksub b zb
              have ua := kou a false (zq a za) oa
              have vb := kov b false (zq b zb) ob
              have st := ksub t zt2
              have ut := kou t false (zq t zt2) ot1
              have vt := kov t false (zq t zt2) ot2
              simp only [List.map_cons, List.map_nil, pA_pC] at *
              have g1 : getE [AV.agg (pC (c.p.val)), AV.agg (pC (c.p.val.add a)), AV.agg (pC (c.p.val.add t)), AV.agg (pC (c.p.val.add b))] 1 = .agg (pC (c.p.val.add a)) := rfl
              have g2 : getE [AV.agg (pC (c.p.val)), AV.agg (pC (c.p.val.add a)), AV.agg (pC (c.p.val.add t)), AV.agg (pC (c.p.val.add b))] 2 = .agg (pC (c.p.val.add t)) := rfl
              have g3 : getE [AV.agg (pC (c.p.val)), AV.agg (pC (c.p.val.add a)), AV.agg (pC (c.p.val.add t)), AV.agg (pC (c.p.val.add b))] 3 = .agg (pC (c.p.val.add b)) := rfl
              have w2 : IntKind.i64.wrap 2 = 2 := rfl
              have w3 : IntKind.i64.wrap 3 = 3 := rfl
              simp -implicitDefEqProofs [go_sem, hgx, w2, w3, g1, g2, g3]
              refine go_loose' (by kernel_rfl) ?_
              simp -implicitDefEqProofs [go_sem, hgx, w2, w3, g1, g2, g3]
              refine go_strict' (by kernel_rfl) ?_
              simp -implicitDefEqProofs [go_sem, hgx, w2, w3, g1, g2, g3]
              refine goD_pure _ sa (by simp -implicitDefEqProofs [go_sem, ro_pC, ro_rC]) ?_
              simp -implicitDefEqProofs [go_sem, w2, w3, g1, g2, g3]
              refine goD_pure _ ua (by simp -implicitDefEqProofs [go_sem, ro_pC, ro_rC]) ?_
              simp -implicitDefEqProofs [go_sem, w2, w3, g1, g2, g3]
              refine goD_pure _ sb (by simp -implicitDefEqProofs [go_sem, ro_pC, ro_rC]) ?_
              simp -implicitDefEqProofs [go_sem, w2, w3, g1, g2, g3]
              refine goD_pure _ vb (by simp -implicitDefEqProofs [go_sem, ro_pC, ro_rC]) ?_
              simp -implicitDefEqProofs [go_sem, w2, w3, g1, g2, g3]
              refine go_strict' (by kernel_rfl) ?_
              simp -implicitDefEqProofs [go_sem, w2, w3, g1, g2, g3]
              refine goD_pure _ st (by simp -implicitDefEqProofs [go_sem, ro_pC, ro_rC]) ?_
              simp -implicitDefEqProofs [go_sem, w2, w3, g1, g2, g3]
              refine goD_pure _ ut (by simp -implicitDefEqProofs [go_sem, ro_pC, ro_rC]) ?_
              simp -implicitDefEqProofs [go_sem, w2, w3, g1, g2, g3]
              refine goD_pure _ st (by simp -implicitDefEqProofs [go_sem, ro_pC, ro_rC]) ?_
              simp -implicitDefEqProofs [go_sem, w2, w3, g1, g2, g3]
              refine goD_pure _ vt (by simp -implicitDefEqProofs [go_sem, ro_pC, ro_rC]) ?_
              simp -implicitDefEqProofs [go_sem, w2, w3, g1, g2, g3]
              refine goC_pure _ hw (by simp -implicitDefEqProofs [go_sem]) ?_
              simp -implicitDefEqProofs [go_sem]
    · have hl0 : l = [] := by
        rcases hpq with ⟨h, _⟩ | ⟨_, h⟩
        · exact h
        · exact absurd h he
      subst hl0
      simp -implicitDefEqProofs [go_sem, he]
      refine goC_pure _ hw (by simp -implicitDefEqProofs [go_sem]) ?_
      simp -implicitDefEqProofs [go_sem]
set_option maxHeartbeats 8000000 in
theorem kite_pure (c : CR) (x : PQ) (h : Rat) (hc : c.Sml) (hx : x.sz ≤ 30000) (hh : sz h ≤ 10) {left : Bool} (hl : left = decide (c.u.val.cross c.v.val < 0))
    (hk : kiteQ (x.sub c.p.val) c.u.val c.v.val (sided c.u.val.rot left) (sided c.v.val.rot left) h) : Pure Tryz.prog 47 [c.av, pA x, rA h] (.bool true) := by
  have zp := hc.p.sz
  have zu := hc.u.sz
  have zv := hc.v.sz
  have zd := PQ.sz_sub x c.p.val
  have k1 := pcross_pure c.u c.v hc.u.mono hc.v.mono
  have k2 := rsignq (c.u.val.cross c.v.val) (by have := PQ.sz_cross c.u.val c.v.val; omega)
  have y0 := sgnQ_lt (x := c.u.val.cross c.v.val)
  have k3 := psub_pure (pc x) c.p (pc_in (n := 30000) hx).mono hc.p.mono
  rw [pc_val] at k3
  have kl := fun (v : PR) (hv : v.In 1) => left_pure v hv.mono
  have zn : sz (-1 : Rat) ≤ 1 := by rw [sz_neg, sz_one]; omega
  have m1 : (((-1 : Int) : Rat) / ((1 : Int) : Rat)) = -1 := by grind
  have k9 := rof_pure (-1) 1 (by omega) (by omega) (by omega)
  rw [m1] at k9
  have kn := fun (v : PQ) (hv : v.sz ≤ 1) => by
    have := pscaleq v (-1) (by omega) (by omega)
    rwa [neg_scale] at this
  obtain ⟨d, hd⟩ : ∃ d, d = x.sub c.p.val := ⟨_, rfl⟩
  rw [← hd] at k3 hk zd
  have kdot := fun (o : PQ) (ho : o.sz ≤ 1) => by
    have := pdot_pure (pc d) (pc o) (pc_in (n := 100000) (by omega)).mono (pc_in (n := 1) ho).mono
    simpa only [pc_val] using this
  have zdot := fun (o : PQ) => PQ.sz_dot d o
  have ksg := fun (o : PQ) (ho : o.sz ≤ 1) => rsignq (d.dot o) (by have := zdot o; omega)
  have ksq := fun (o : PQ) (ho : o.sz ≤ 1) => rmulq (d.dot o) (d.dot o) (by have := zdot o; omega) (by have := zdot o; omega)
  have koo := fun (o : PQ) (ho : o.sz ≤ 1) => by
    have := pdot_pure (pc o) (pc o) (pc_in (n := 1) ho).mono (pc_in (n := 1) ho).mono
    simpa only [pc_val] using this
  have khh := rmulq h h (by omega) (by omega)
  have zhh := sz_mul h h
  have khm := fun (o : PQ) (ho : o.sz ≤ 1) => rmulq (h * h) (o.dot o) (by omega) (by have := PQ.sz_dot o o; omega)
  have kcm := fun (o : PQ) (ho : o.sz ≤ 1) => rcmpq (d.dot o * d.dot o) (h * h * o.dot o) (by have := zdot o; have := sz_mul (d.dot o) (d.dot o); omega) (by have := PQ.sz_dot o o; have := sz_mul (h * h) (o.dot o); omega)
  obtain ⟨hk1, hk2, hk3, hk4⟩ := hk
  have e3 : ∀ q : PQ, (pc q).av = .agg (pC q) := fun _ => rfl
  refine Pure.of_go mixed Tryz.func47 rfl (rs := [.tmp 6]) rfl (by kernel_rfl) (by simp -implicitDefEqProofs [go_sem, ro_rC, ro_pC]) ?_
  have hgl : (sgnQ (c.u.val.cross c.v.val) < 0) = (left = true) := by rw [hl, decide_eq_true_iff, y0]
  generalize sgnQ (c.u.val.cross c.v.val) = gx at *
  generalize c.u.val.cross c.v.val = X at *
  unfold CR.av CR.cs PR.av PR.cs at *
  simp only [rA_rC, pA_pC] at *
  simp -implicitDefEqProofs [go_sem]
  refine goC_pure _ k1 (by simp -implicitDefEqProofs [go_sem]) ?_
  simp -implicitDefEqProofs [go_sem]
  refine goC_pure _ k2 (by simp -implicitDefEqProofs [go_sem, ro_rC]) ?_
  simp -implicitDefEqProofs [go_sem, hgl]
  refine goC_pure _ k3 (by simp -implicitDefEqProofs [go_sem, ro_pC]) ?_
  simp -implicitDefEqProofs [go_sem]
  have z1 : (sided c.u.val.rot left).sz ≤ 1 := Nat.le_trans (sz_sidedrot _ _) zu
  have z2 : (sided c.v.val.rot left).sz ≤ 1 := Nat.le_trans (sz_sidedrot _ _) zv
  have zr1 : c.u.val.rot.sz ≤ 1 := Nat.le_trans (PQ.sz_rot _) zu
  have zr2 : c.v.val.rot.sz ≤ 1 := Nat.le_trans (PQ.sz_rot _) zv
  refine go_loopN 5 (α := {i : Nat // i ≤ 2}) (fun i => [(3, .ptr 0 0 0), (5, .ptr 2 0 0), (7, .bool left), (8, .ptr 3 0 0), (9, .own 6 4 0 2), (10, .int .i64 i.1)])
    (fun i => [(0, .live 18 [.agg [.bool c.p.x.neg, nA c.p.x.p, nA c.p.x.q, .bool c.p.y.neg, nA c.p.y.p, nA c.p.y.q, .bool c.u.x.neg, nA c.u.x.p, nA c.u.x.q, .bool c.u.y.neg, nA c.u.y.p, nA c.u.y.q, .bool c.v.x.neg, nA c.v.x.p, nA c.v.x.q, .bool c.v.y.neg, nA c.v.y.p, nA c.v.y.q]]), (2, .live 3 [.agg (rC h)]), (3, .live 6 [.agg (pC d)]), (4, .live 6 [.agg [.bool c.u.x.neg, nA c.u.x.p, nA c.u.x.q, .bool c.u.y.neg, nA c.u.y.p, nA c.u.y.q], .agg [.bool c.v.x.neg, nA c.v.x.p, nA c.v.x.q, .bool c.v.y.neg, nA c.v.y.p, nA c.v.y.q]])])
    (fun i => 2 - i.1) ⟨0, by omega⟩ [] (by simp) (fun _ _ _ _ h => h) (by simp) (by simp -implicitDefEqProofs [go_sem]) (by simp -implicitDefEqProofs [go_sem, ro_rC, ro_pC]) fun ⟨i, hi⟩ => ?_
  rcases (show i = 0 ∨ i = 1 ∨ i = 2 by omega) with rfl | rfl | rfl
  · have gi : getE [.agg [.bool c.u.x.neg, nA c.u.x.p, nA c.u.x.q, .bool c.u.y.neg, nA c.u.y.p, nA c.u.y.q], .agg [.bool c.v.x.neg, nA c.v.x.p, nA c.v.x.q, .bool c.v.y.neg, nA c.v.y.p, nA c.v.y.q]] 0 = .agg [.bool c.u.x.neg, nA c.u.x.p, nA c.u.x.q, .bool c.u.y.neg, nA c.u.y.p, nA c.u.y.q] := rfl
    have y1 := sgnQ_gt (x := d.dot (sided c.u.val.rot left))
    have y2 := cmpQ_gt (x := d.dot (sided c.u.val.rot left) * d.dot (sided c.u.val.rot left)) (y := h * h * (sided c.u.val.rot left).dot (sided c.u.val.rot left))
    have q1 := kl c.u hc.u
    have q2 := kn c.u.val.rot zr1
    have q3 := kdot (sided c.u.val.rot left) z1
    have q4 := ksg (sided c.u.val.rot left) z1
    have q5 := ksq (sided c.u.val.rot left) z1
    have q6 := koo (sided c.u.val.rot left) z1
    have q7 := khm (sided c.u.val.rot left) z1
    have q8 := kcm (sided c.u.val.rot left) z1
    simp only [e3] at q3 q6
    have hlin : 0 < sgnQ (d.dot (sided c.u.val.rot left)) → ¬ 0 < cmpQ (d.dot (sided c.u.val.rot left) * d.dot (sided c.u.val.rot left)) (h * h * (sided c.u.val.rot left).dot (sided c.u.val.rot left)) := fun hh hg => by
      have a := hk1 (y1.1 hh)
      have b := y2.1 hg
      grind
    have hs1 : sided c.u.val.rot left = if left then c.u.val.rot else c.u.val.rot.neg := rfl
    generalize sided c.u.val.rot left = o at *
    generalize sgnQ (d.dot o) = g1 at *
    generalize cmpQ (d.dot o * d.dot o) (h * h * o.dot o) = g2 at *
    generalize h * h * o.dot o = B at *
    generalize h * h = hh at *
    generalize o.dot o = M at *
    generalize d.dot o * d.dot o = A at *
    generalize d.dot o = D at *
    clear y1 y2 kdot ksg ksq koo khm kcm
    cases left
    · rw [if_neg (by decide)] at hs1
      subst hs1
      simp -implicitDefEqProofs [go_sem, gi]
      refine goC_pure _ q1 (by simp -implicitDefEqProofs [go_sem]) ?_
      simp -implicitDefEqProofs [go_sem]
      refine goD_pure _ k9 (by simp -implicitDefEqProofs [go_sem]) ?_
      simp -implicitDefEqProofs [go_sem]
      refine goD_pure _ q2 (by simp -implicitDefEqProofs [go_sem, ro_pC, ro_rC]) ?_
      simp -implicitDefEqProofs [go_sem]
      refine goC_pure _ q3 (by simp -implicitDefEqProofs [go_sem, ro_pC]) ?_
      simp -implicitDefEqProofs [go_sem]
      refine goD_pure _ q4 (by simp -implicitDefEqProofs [go_sem, ro_rC]) ?_
      by_cases a : 0 < g1
      · have hn := hlin a
        simp -implicitDefEqProofs [go_sem, a]
        refine goD_pure _ q5 (by simp -implicitDefEqProofs [go_sem, ro_rC]) ?_
        simp -implicitDefEqProofs [go_sem]
        refine goD_pure _ khh (by simp -implicitDefEqProofs [go_sem, ro_rC]) ?_
        simp -implicitDefEqProofs [go_sem]
        refine goD_pure _ q6 (by simp -implicitDefEqProofs [go_sem, ro_pC]) ?_
        simp -implicitDefEqProofs [go_sem]
        refine goD_pure _ q7 (by simp -implicitDefEqProofs [go_sem, ro_rC]) ?_
        simp -implicitDefEqProofs [go_sem]
        refine goD_pure _ q8 (by simp -implicitDefEqProofs [go_sem, ro_rC]) ?_
        simp -implicitDefEqProofs [go_sem, hn]
        have w1 : IntKind.i64.wrap 1 = 1 := rfl
        exact go_again ⟨1, by omega⟩ (by simp only; omega) [] (by simp) (fun _ _ _ _ h => h) (by simp) (by simp -implicitDefEqProofs [go_sem, w1]) (by simp -implicitDefEqProofs [go_sem, ro_rC, ro_pC])
      · simp -implicitDefEqProofs [go_sem, a]
        have w1 : IntKind.i64.wrap 1 = 1 := rfl
        exact go_again ⟨1, by omega⟩ (by simp only; omega) [] (by simp) (fun _ _ _ _ h => h) (by simp) (by simp -implicitDefEqProofs [go_sem, w1]) (by simp -implicitDefEqProofs [go_sem, ro_rC, ro_pC])
    · rw [if_pos rfl] at hs1
      subst hs1
      simp -implicitDefEqProofs [go_sem, gi]
      refine goC_pure _ q1 (by simp -implicitDefEqProofs [go_sem]) ?_
      simp -implicitDefEqProofs [go_sem]
      refine goC_pure _ q3 (by simp -implicitDefEqProofs [go_sem, ro_pC]) ?_
      simp -implicitDefEqProofs [go_sem]
      refine goD_pure _ q4 (by simp -implicitDefEqProofs [go_sem, ro_rC]) ?_
      by_cases a : 0 < g1
      · have hn := hlin a
        simp -implicitDefEqProofs [go_sem, a]
        refine goD_pure _ q5 (by simp -implicitDefEqProofs [go_sem, ro_rC]) ?_
        simp -implicitDefEqProofs [go_sem]
        refine goD_pure _ khh (by simp -implicitDefEqProofs [go_sem, ro_rC]) ?_
        simp -implicitDefEqProofs [go_sem]
        refine goD_pure _ q6 (by simp -implicitDefEqProofs [go_sem, ro_pC]) ?_
        simp -implicitDefEqProofs [go_sem]
        refine goD_pure _ q7 (by simp -implicitDefEqProofs [go_sem, ro_rC]) ?_
        simp -implicitDefEqProofs [go_sem]
        refine goD_pure _ q8 (by simp -implicitDefEqProofs [go_sem, ro_rC]) ?_
        simp -implicitDefEqProofs [go_sem, hn]
        have w1 : IntKind.i64.wrap 1 = 1 := rfl
        exact go_again ⟨1, by omega⟩ (by simp only; omega) [] (by simp) (fun _ _ _ _ h => h) (by simp) (by simp -implicitDefEqProofs [go_sem, w1]) (by simp -implicitDefEqProofs [go_sem, ro_rC, ro_pC])
      · simp -implicitDefEqProofs [go_sem, a]
        have w1 : IntKind.i64.wrap 1 = 1 := rfl
        exact go_again ⟨1, by omega⟩ (by simp only; omega) [] (by simp) (fun _ _ _ _ h => h) (by simp) (by simp -implicitDefEqProofs [go_sem, w1]) (by simp -implicitDefEqProofs [go_sem, ro_rC, ro_pC])
  · have gi : getE [.agg [.bool c.u.x.neg, nA c.u.x.p, nA c.u.x.q, .bool c.u.y.neg, nA c.u.y.p, nA c.u.y.q], .agg [.bool c.v.x.neg, nA c.v.x.p, nA c.v.x.q, .bool c.v.y.neg, nA c.v.y.p, nA c.v.y.q]] 1 = .agg [.bool c.v.x.neg, nA c.v.x.p, nA c.v.x.q, .bool c.v.y.neg, nA c.v.y.p, nA c.v.y.q] := rfl
    have y1 := sgnQ_gt (x := d.dot (sided c.v.val.rot left))
    have y2 := cmpQ_gt (x := d.dot (sided c.v.val.rot left) * d.dot (sided c.v.val.rot left)) (y := h * h * (sided c.v.val.rot left).dot (sided c.v.val.rot left))
    have q1 := kl c.v hc.v
    have q2 := kn c.v.val.rot zr2
    have q3 := kdot (sided c.v.val.rot left) z2
    have q4 := ksg (sided c.v.val.rot left) z2
    have q5 := ksq (sided c.v.val.rot left) z2
    have q6 := koo (sided c.v.val.rot left) z2
    have q7 := khm (sided c.v.val.rot left) z2
    have q8 := kcm (sided c.v.val.rot left) z2
    simp only [e3] at q3 q6
    have hlin : 0 < sgnQ (d.dot (sided c.v.val.rot left)) → ¬ 0 < cmpQ (d.dot (sided c.v.val.rot left) * d.dot (sided c.v.val.rot left)) (h * h * (sided c.v.val.rot left).dot (sided c.v.val.rot left)) := fun hh hg => by
      have a := hk2 (y1.1 hh)
      have b := y2.1 hg
      grind
    have hs1 : sided c.v.val.rot left = if left then c.v.val.rot else c.v.val.rot.neg := rfl
    generalize sided c.v.val.rot left = o at *
    generalize sgnQ (d.dot o) = g1 at *
    generalize cmpQ (d.dot o * d.dot o) (h * h * o.dot o) = g2 at *
    generalize h * h * o.dot o = B at *
    generalize h * h = hh at *
    generalize o.dot o = M at *
    generalize d.dot o * d.dot o = A at *
    generalize d.dot o = D at *
    clear y1 y2 kdot ksg ksq koo khm kcm
    cases left
    · rw [if_neg (by decide)] at hs1
      subst hs1
      simp -implicitDefEqProofs [go_sem, gi]
      refine goC_pure _ q1 (by simp -implicitDefEqProofs [go_sem]) ?_
      simp -implicitDefEqProofs [go_sem]
      refine goD_pure _ k9 (by simp -implicitDefEqProofs [go_sem]) ?_
      simp -implicitDefEqProofs [go_sem]
      refine goD_pure _ q2 (by simp -implicitDefEqProofs [go_sem, ro_pC, ro_rC]) ?_
      simp -implicitDefEqProofs [go_sem]
      refine goC_pure _ q3 (by simp -implicitDefEqProofs [go_sem, ro_pC]) ?_
      simp -implicitDefEqProofs [go_sem]
      refine goD_pure _ q4 (by simp -implicitDefEqProofs [go_sem, ro_rC]) ?_
      by_cases a : 0 < g1
      · have hn := hlin a
        simp -implicitDefEqProofs [go_sem, a]
        refine goD_pure _ q5 (by simp -implicitDefEqProofs [go_sem, ro_rC]) ?_
        simp -implicitDefEqProofs [go_sem]
        refine goD_pure _ khh (by simp -implicitDefEqProofs [go_sem, ro_rC]) ?_
        simp -implicitDefEqProofs [go_sem]
        refine goD_pure _ q6 (by simp -implicitDefEqProofs [go_sem, ro_pC]) ?_
        simp -implicitDefEqProofs [go_sem]
        refine goD_pure _ q7 (by simp -implicitDefEqProofs [go_sem, ro_rC]) ?_
        simp -implicitDefEqProofs [go_sem]
        refine goD_pure _ q8 (by simp -implicitDefEqProofs [go_sem, ro_rC]) ?_
        simp -implicitDefEqProofs [go_sem, hn]
        have w2 : IntKind.i64.wrap 2 = 2 := rfl
        exact go_again ⟨2, by omega⟩ (by simp only; omega) [] (by simp) (fun _ _ _ _ h => h) (by simp) (by simp -implicitDefEqProofs [go_sem, w2]) (by simp -implicitDefEqProofs [go_sem, ro_rC, ro_pC])
      · simp -implicitDefEqProofs [go_sem, a]
        have w2 : IntKind.i64.wrap 2 = 2 := rfl
        exact go_again ⟨2, by omega⟩ (by simp only; omega) [] (by simp) (fun _ _ _ _ h => h) (by simp) (by simp -implicitDefEqProofs [go_sem, w2]) (by simp -implicitDefEqProofs [go_sem, ro_rC, ro_pC])
    · rw [if_pos rfl] at hs1
      subst hs1
      simp -implicitDefEqProofs [go_sem, gi]
      refine goC_pure _ q1 (by simp -implicitDefEqProofs [go_sem]) ?_
      simp -implicitDefEqProofs [go_sem]
      refine goC_pure _ q3 (by simp -implicitDefEqProofs [go_sem, ro_pC]) ?_
      simp -implicitDefEqProofs [go_sem]
      refine goD_pure _ q4 (by simp -implicitDefEqProofs [go_sem, ro_rC]) ?_
      by_cases a : 0 < g1
      · have hn := hlin a
        simp -implicitDefEqProofs [go_sem, a]
        refine goD_pure _ q5 (by simp -implicitDefEqProofs [go_sem, ro_rC]) ?_
        simp -implicitDefEqProofs [go_sem]
        refine goD_pure _ khh (by simp -implicitDefEqProofs [go_sem, ro_rC]) ?_
        simp -implicitDefEqProofs [go_sem]
        refine goD_pure _ q6 (by simp -implicitDefEqProofs [go_sem, ro_pC]) ?_
        simp -implicitDefEqProofs [go_sem]
        refine goD_pure _ q7 (by simp -implicitDefEqProofs [go_sem, ro_rC]) ?_
        simp -implicitDefEqProofs [go_sem]
        refine goD_pure _ q8 (by simp -implicitDefEqProofs [go_sem, ro_rC]) ?_
        simp -implicitDefEqProofs [go_sem, hn]
        have w2 : IntKind.i64.wrap 2 = 2 := rfl
        exact go_again ⟨2, by omega⟩ (by simp only; omega) [] (by simp) (fun _ _ _ _ h => h) (by simp) (by simp -implicitDefEqProofs [go_sem, w2]) (by simp -implicitDefEqProofs [go_sem, ro_rC, ro_pC])
      · simp -implicitDefEqProofs [go_sem, a]
        have w2 : IntKind.i64.wrap 2 = 2 := rfl
        exact go_again ⟨2, by omega⟩ (by simp only; omega) [] (by simp) (fun _ _ _ _ h => h) (by simp) (by simp -implicitDefEqProofs [go_sem, w2]) (by simp -implicitDefEqProofs [go_sem, ro_rC, ro_pC])
  · have q3 : Pure Tryz.prog 33 [.agg (pC d), .agg [.bool c.u.x.neg, nA c.u.x.p, nA c.u.x.q, .bool c.u.y.neg, nA c.u.y.p, nA c.u.y.q]] (.agg (rC (d.dot c.u.val))) := by
      have := pdot_pure (pc d) c.u (pc_in (n := 100000) (by omega)).mono hc.u.mono
      rw [pc_val] at this; exact this
    have q4 : Pure Tryz.prog 33 [.agg (pC d), .agg [.bool c.v.x.neg, nA c.v.x.p, nA c.v.x.q, .bool c.v.y.neg, nA c.v.y.p, nA c.v.y.q]] (.agg (rC (d.dot c.v.val))) := by
      have := pdot_pure (pc d) c.v (pc_in (n := 100000) (by omega)).mono hc.v.mono
      rw [pc_val] at this; exact this
    have q5 := rsignq (d.dot c.u.val) (by have := zdot c.u.val; omega)
    have q6 := rsignq (d.dot c.v.val) (by have := zdot c.v.val; omega)
    have a1 : 0 ≤ sgnQ (d.dot c.u.val) := sgnQ_ge.2 hk3
    have a2 : sgnQ (d.dot c.v.val) ≤ 0 := sgnQ_le.2 hk4
    generalize sgnQ (d.dot c.u.val) = g1 at *
    generalize sgnQ (d.dot c.v.val) = g2 at *
    simp only [rA_rC] at q5 q6
    simp -implicitDefEqProofs [go_sem]
    refine goC_pure _ q3 (by simp -implicitDefEqProofs [go_sem, ro_pC]) ?_
    simp -implicitDefEqProofs [go_sem]
    refine goC_pure _ q5 (by simp -implicitDefEqProofs [go_sem, ro_rC]) ?_
    simp -implicitDefEqProofs [go_sem, a1]
    refine goC_pure _ q4 (by simp -implicitDefEqProofs [go_sem, ro_pC]) ?_
    simp -implicitDefEqProofs [go_sem]
    refine goC_pure _ q6 (by simp -implicitDefEqProofs [go_sem, ro_rC]) ?_
    simp -implicitDefEqProofs [go_sem, a2]
set_option maxHeartbeats 32000000 in
theorem joininside_pure (c : CR) (s : SR) (hc : c.Lm) (hs : s.Lm) : Pure Tryz.prog 8 [c.av, s.av] (.bool true) := by
  have hw := jwakes_pure
  obtain ⟨b, hl, hb⟩ := light20_pure c s hc hs
  refine Pure.of_goz true mixed Tryz.func8 rfl (rs := [.tmp 4]) rfl (by kernel_rfl) (by simp -implicitDefEqProofs [go_sem]) ?_
  cases b
  · unfold CR.av CR.cs SR.av SR.cs PR.cs at *
    simp -implicitDefEqProofs [go_sem]
    refine goC_pure _ hl (by simp -implicitDefEqProofs [go_sem]) ?_
    simp -implicitDefEqProofs [go_sem]
    refine goC_pure _ hw (by simp -implicitDefEqProofs [go_sem]) ?_
    simp -implicitDefEqProofs [go_sem]
  · obtain ⟨kc, ks⟩ := hb rfl
    have zp := kc.p.sz
    have zu := kc.u.sz
    have zv := kc.v.sz
    have zh := ks.h
    have hpc := piece_pure c.p c.u c.v s kc.p kc.u kc.v ks
    have hz := piece_sz zp zu zv zh (p := c.p.val) (u := c.u.val) (v := c.v.val)
    obtain ⟨l, e, hle⟩ : ∃ l e, pieceQ c.p.val c.u.val c.v.val s = (l, e) := ⟨_, _, rfl⟩
    have hpq := pieceQ_cases c.p.val c.u.val c.v.val s
    rw [hle] at hpc hz hpq
    obtain ⟨hz1, hz2⟩ := hz
    simp only at hz1 hz2 hpq
    have hle0 : e = 0 → pieceQ c.p.val c.u.val c.v.val s = (l, 0) := fun h => by rw [hle, h]
    have k1 := rof_pure 1 2 (by omega) (by omega) (by omega)
    rw [← half_eq] at k1
    have zhf := sz_half
    have k2 := rmul_pure s.width (qc half) (ks.width.mono (m := 1000)).sm (qc_sm (by omega))
    rw [qc_val] at k2
    change Pure _ _ [_, rA half] (rA s.h) at k2
    obtain ⟨left, hleft⟩ : ∃ left, left = decide (c.u.val.cross c.v.val < 0) := ⟨_, rfl⟩
    have hgeo : e = 0 → s.join ≠ 2 → l ≠ [] → ∃ ru rv a b, Geo c.p.val c.u.val c.v.val s.h s.tol.val l left ru rv a b := fun h1 h2 h3 => by
      obtain ⟨_, left', ru, rv, a, b, g⟩ := piece_geo (hle0 h1) h2 h3
      rw [← hleft.trans g.hl.symm] at g
      exact ⟨ru, rv, a, b, g⟩
    have hkite : e = 0 → s.join ≠ 2 → ∀ x ∈ l, Pure Tryz.prog 47 [c.av, pA x, rA s.h] (.bool true) := fun h1 h2 x hx => by
      obtain ⟨ru, rv, a, b, g⟩ := hgeo h1 h2 (fun h => by rw [h] at hx; cases hx)
      exact kite_pure c x s.h kc (hz2 x hx) (by omega) hleft (geo_kite g x hx)
    have hbev : e = 0 → s.join ≠ 2 → l.length = 3 → ∃ a b, l = [c.p.val, c.p.val.add (if left then b else a), c.p.val.add (if left then a else b)] ∧ a.dot c.u.val = 0 ∧ b.dot c.v.val = 0 ∧ a.dot a ≤ s.h * s.h ∧ b.dot b ≤ s.h * s.h := fun h1 h2 h3 => by
      obtain ⟨ru, rv, a, b, g⟩ := hgeo h1 h2 (fun h => by rw [h] at h3; cases h3)
      exact ⟨a, b, geo_bevel g h3⟩
    have kx := pcross_pure c.u c.v kc.u.mono kc.v.mono
    have kg := rsignq (c.u.val.cross c.v.val) (by have := PQ.sz_cross c.u.val c.v.val; omega)
    have y0 := sgnQ_lt (x := c.u.val.cross c.v.val)
    have ksub := fun (q : PQ) (hq : (c.p.val.add q).sz ≤ 30000) => psub_pure (pc (c.p.val.add q)) c.p (pc_in hq).mono kc.p.mono
    simp only [pc_val, add_sub] at ksub
    have zq : ∀ q : PQ, (c.p.val.add q).sz ≤ 30000 → q.sz ≤ 100000 := fun q hq => by
      have := PQ.sz_sub (c.p.val.add q) c.p.val
      rw [add_sub] at this
      omega
    have kdv := fun (q : PQ) (v : PR) (hq : q.sz ≤ 100000) (hv : v.In 1) => pdot_pure (pc q) v (pc_in hq).mono hv.mono
    have kdd := fun (q : PQ) (hq : q.sz ≤ 100000) => pdot_pure (pc q) (pc q) (pc_in hq).mono (pc_in hq).mono
    simp only [pc_val] at kdv kdd
    have ksg0 := rsignq 0 (by rw [show sz 0 = 1 from by have := sz_int 0; simpa [nl_zero] using this]; omega)
    have hs0 : sgnQ (0 : Rat) = 0 := sgnQ_eq.2 rfl
    rw [hs0] at ksg0
    have khh := rmulq s.h s.h (by omega) (by omega)
    have zhh := sz_mul s.h s.h
    have kcm := fun (q : PQ) (hq : q.sz ≤ 100000) => rcmpq (q.dot q) (s.h * s.h) (by have := PQ.sz_dot q q; omega) (by omega)
    have e3 : ∀ q : PQ, (pc q).av = .agg (pC q) := fun _ => rfl
    have hgl : (sgnQ (c.u.val.cross c.v.val) < 0) = (left = true) := by rw [hleft, decide_eq_true_iff, y0]
    generalize sgnQ (c.u.val.cross c.v.val) = gx at *
    generalize c.u.val.cross c.v.val = X at *
    obtain ⟨H, hH⟩ : ∃ H, H = s.h := ⟨_, rfl⟩
    rw [← hH] at k2 hkite hbev khh kcm
    simp only [e3] at ksub kdv kdd
    unfold pieceA pL at *
    simp only [rA_rC, pA_pC] at *
    obtain ⟨J, hJ⟩ : ∃ J, J = s.join := ⟨_, rfl⟩
    rw [← hJ] at hpq hgeo hkite hbev
    have hsav : s.av = .agg [.bool s.width.neg, nA s.width.p, nA s.width.q, .bool s.miter.neg, nA s.miter.p, nA s.miter.q, .int .i64 s.cap, .int .i64 J, .bool s.tol.neg, nA s.tol.p, nA s.tol.q] := by rw [hJ]; rfl
    rw [hsav] at hl hpc ⊢
    unfold CR.av CR.cs PR.av PR.cs RQ.av at *
    simp -implicitDefEqProofs [go_sem]
    refine goC_pure _ hl (by simp -implicitDefEqProofs [go_sem]) ?_
    by_cases a1 : J = 2
    · simp -implicitDefEqProofs [go_sem, a1]
      refine goC_pure _ hw (by simp -implicitDefEqProofs [go_sem]) ?_
      simp -implicitDefEqProofs [go_sem]
    have hpq := hpq a1
    simp -implicitDefEqProofs [go_sem, a1]
    refine goC_pure _ hpc (by simp -implicitDefEqProofs [go_sem]) ?_
    by_cases he : e = 0
    · have hkite := hkite he a1
      have hbev := hbev he a1
      clear hgeo hle0 hpq hle
      simp -implicitDefEqProofs [go_sem, he]
      refine go_strict' (by kernel_rfl) ?_
      simp -implicitDefEqProofs [go_sem]
      refine goD_pure _ k1 (by simp -implicitDefEqProofs [go_sem]) ?_
      simp -implicitDefEqProofs [go_sem]
      refine goD_pure _ k2 (by simp -implicitDefEqProofs [go_sem, ro_rC]) ?_
      simp -implicitDefEqProofs [go_sem]
      have hlw : ∀ i : Nat, i < l.length → IntKind.i64.wrap ((i : Int) + 1) = ((i + 1 : Nat) : Int) := fun i hi => by rw [w64 (by omega)]; omega
      refine go_loopN 7 (α := {i : Nat // i ≤ l.length}) (fun i => [(2, .ptr 0 0 0), (3, .ptr 1 0 0), (5, .sl 6 false (l.map pA)), (7, .ptr 6 0 0), (8, .int .i64 i.1)])
        (fun i => [(0, .live 18 [.agg [.bool c.p.x.neg, nA c.p.x.p, nA c.p.x.q, .bool c.p.y.neg, nA c.p.y.p, nA c.p.y.q, .bool c.u.x.neg, nA c.u.x.p, nA c.u.x.q, .bool c.u.y.neg, nA c.u.y.p, nA c.u.y.q, .bool c.v.x.neg, nA c.v.x.p, nA c.v.x.q, .bool c.v.y.neg, nA c.v.y.p, nA c.v.y.q]]), (6, .live 3 [.agg (rC H)])])
        (fun i => l.length - i.1) ⟨0, Nat.zero_le _⟩ [] (by simp) (fun _ _ _ _ h => h) (by simp) (by simp -implicitDefEqProofs [go_sem]) (by simp -implicitDefEqProofs [go_sem, ro_rC]) fun ⟨i, hi⟩ => ?_
      by_cases a : (i : Int) < l.length
      · have hi' : i < l.length := by omega
        have hx := hkite l[i] (List.getElem_mem _)
        have gi := getE_pA hi'
        have hw1 := hlw i hi'
        have ge0 : (0 : Int) ≤ i := by omega
        simp -implicitDefEqProofs [go_sem, a, hi']
        refine go_strict' (by kernel_rfl) ?_
        simp -implicitDefEqProofs [go_sem, a, hi', gi, ge0]
        refine goD_pure _ hx (by simp -implicitDefEqProofs [go_sem, ro_pC, ro_rC]) ?_
        simp -implicitDefEqProofs [go_sem]
        exact go_again ⟨i + 1, by omega⟩ (by simp only; omega) [] (by simp) (fun _ _ _ _ h => h) (by simp) (by simp -implicitDefEqProofs [go_sem, hw1]) (by simp -implicitDefEqProofs [go_sem, ro_rC])
      · have hil : i = l.length := by omega
        by_cases h3 : l.length = 3
        · obtain ⟨p1, p2, hl2, hau, hbv, haa, hbb⟩ := hbev h3
          clear hkite hbev
          have h3' : (l.length : Int) = 3 := by omega
          cases left
          · simp only [Bool.false_eq_true, if_false] at hl2
            have za := hz2 (c.p.val.add p1) (by rw [hl2]; simp)
            have zb := hz2 (c.p.val.add p2) (by rw [hl2]; simp)
            have sa := ksub p1 za
            have sb := ksub p2 zb
            have da := kdv p1 c.u (zq p1 za) kc.u
            have db := kdv p2 c.v (zq p2 zb) kc.v
            rw [hau] at da
            rw [hbv] at db
            have daa := kdd p1 (zq p1 za)
            have dbb := kdd p2 (zq p2 zb)
            have ca := kcm p1 (zq p1 za)
            have cb := kcm p2 (zq p2 zb)
            have ca0 : cmpQ (p1.dot p1) (H * H) ≤ 0 := cmpQ_le.2 haa
            have cb0 : cmpQ (p2.dot p2) (H * H) ≤ 0 := cmpQ_le.2 hbb
            generalize cmpQ (p1.dot p1) (H * H) = ga at *
            generalize cmpQ (p2.dot p2) (H * H) = gb at *
            have g1 : getE (l.map pA) 1 = .agg (pC (c.p.val.add p1)) := by rw [hl2]; rfl
            have g2 : getE (l.map pA) 2 = .agg (pC (c.p.val.add p2)) := by rw [hl2]; rfl
            have hl1 : 1 < l.length := by omega
            have hl2b : 2 < l.length := by omega
            have hl1i : (1 : Int) < l.length := by omega
            have hl2i : (2 : Int) < l.length := by omega
            simp only [rA_rC, pA_pC, e3] at *
            have a3 : ¬ (i : Int) < 3 := by omega
            simp -implicitDefEqProofs [go_sem, a, a3, h3, h3']
            refine go_strict' (by kernel_rfl) ?_
            simp -implicitDefEqProofs [go_sem, g1, g2, hl1, hl2b, hl1i, hl2i]
            refine goD_pure _ sa (by simp -implicitDefEqProofs [go_sem, ro_pC]) ?_
            simp -implicitDefEqProofs [go_sem, g1, g2, hl1, hl2b, hl1i, hl2i]
            refine goD_pure _ sb (by simp -implicitDefEqProofs [go_sem, ro_pC]) ?_
            simp -implicitDefEqProofs [go_sem]
            refine goC_pure _ kx (by simp -implicitDefEqProofs [go_sem]) ?_
            simp -implicitDefEqProofs [go_sem]
            refine goC_pure _ kg (by simp -implicitDefEqProofs [go_sem, ro_rC]) ?_
            simp -implicitDefEqProofs [go_sem, hgl]
            refine go_strict' (by kernel_rfl) ?_
            simp -implicitDefEqProofs [go_sem]
            refine goD_pure _ da (by simp -implicitDefEqProofs [go_sem, ro_pC, ro_rC]) ?_
            simp -implicitDefEqProofs [go_sem]
            refine goD_pure _ ksg0 (by simp -implicitDefEqProofs [go_sem, ro_pC, ro_rC]) ?_
            simp -implicitDefEqProofs [go_sem]
            refine goD_pure _ db (by simp -implicitDefEqProofs [go_sem, ro_pC, ro_rC]) ?_
            simp -implicitDefEqProofs [go_sem]
            refine goD_pure _ ksg0 (by simp -implicitDefEqProofs [go_sem, ro_pC, ro_rC]) ?_
            simp -implicitDefEqProofs [go_sem]
            refine goD_pure _ daa (by simp -implicitDefEqProofs [go_sem, ro_pC, ro_rC]) ?_
            simp -implicitDefEqProofs [go_sem]
            refine goD_pure _ khh (by simp -implicitDefEqProofs [go_sem, ro_pC, ro_rC]) ?_
            simp -implicitDefEqProofs [go_sem]
            refine goD_pure _ ca (by simp -implicitDefEqProofs [go_sem, ro_pC, ro_rC]) ?_
            simp -implicitDefEqProofs [go_sem, ca0]
            refine goD_pure _ dbb (by simp -implicitDefEqProofs [go_sem, ro_pC, ro_rC]) ?_
            simp -implicitDefEqProofs [go_sem]
            refine goD_pure _ khh (by simp -implicitDefEqProofs [go_sem, ro_pC, ro_rC]) ?_
            simp -implicitDefEqProofs [go_sem]
            refine goD_pure _ cb (by simp -implicitDefEqProofs [go_sem, ro_pC, ro_rC]) ?_
            simp -implicitDefEqProofs [go_sem, cb0]
            refine goD_pure _ hw (by simp -implicitDefEqProofs [go_sem, ro_pC, ro_rC]) ?_
            simp -implicitDefEqProofs [go_sem]
          · simp only [if_true] at hl2
            have za := hz2 (c.p.val.add p1) (by rw [hl2]; simp)
            have zb := hz2 (c.p.val.add p2) (by rw [hl2]; simp)
            have sa := ksub p1 za
            have sb := ksub p2 zb
            have da := kdv p1 c.u (zq p1 za) kc.u
            have db := kdv p2 c.v (zq p2 zb) kc.v
            rw [hau] at da
            rw [hbv] at db
            have daa := kdd p1 (zq p1 za)
            have dbb := kdd p2 (zq p2 zb)
            have ca := kcm p1 (zq p1 za)
            have cb := kcm p2 (zq p2 zb)
            have ca0 : cmpQ (p1.dot p1) (H * H) ≤ 0 := cmpQ_le.2 haa
            have cb0 : cmpQ (p2.dot p2) (H * H) ≤ 0 := cmpQ_le.2 hbb
            generalize cmpQ (p1.dot p1) (H * H) = ga at *
            generalize cmpQ (p2.dot p2) (H * H) = gb at *
            have g1 : getE (l.map pA) 1 = .agg (pC (c.p.val.add p2)) := by rw [hl2]; rfl
            have g2 : getE (l.map pA) 2 = .agg (pC (c.p.val.add p1)) := by rw [hl2]; rfl
            have hl1 : 1 < l.length := by omega
            have hl2b : 2 < l.length := by omega
            have hl1i : (1 : Int) < l.length := by omega
            have hl2i : (2 : Int) < l.length := by omega
            simp only [rA_rC, pA_pC, e3] at *
            have a3 : ¬ (i : Int) < 3 := by omega
            simp -implicitDefEqProofs [go_sem, a, a3, h3, h3']
            refine go_strict' (by kernel_rfl) ?_
            simp -implicitDefEqProofs [go_sem, g1, g2, hl1, hl2b, hl1i, hl2i]
            refine goD_pure _ sb (by simp -implicitDefEqProofs [go_sem, ro_pC]) ?_
            simp -implicitDefEqProofs [go_sem, g1, g2, hl1, hl2b, hl1i, hl2i]
            refine goD_pure _ sa (by simp -implicitDefEqProofs [go_sem, ro_pC]) ?_
            simp -implicitDefEqProofs [go_sem]
            refine goC_pure _ kx (by simp -implicitDefEqProofs [go_sem]) ?_
            simp -implicitDefEqProofs [go_sem]
            refine goC_pure _ kg (by simp -implicitDefEqProofs [go_sem, ro_rC]) ?_
            simp -implicitDefEqProofs [go_sem, hgl]
            refine go_strict' (by kernel_rfl) ?_
            simp -implicitDefEqProofs [go_sem]
            refine goD_pure _ da (by simp -implicitDefEqProofs [go_sem, ro_pC, ro_rC]) ?_
            simp -implicitDefEqProofs [go_sem]
            refine goD_pure _ ksg0 (by simp -implicitDefEqProofs [go_sem, ro_pC, ro_rC]) ?_
            simp -implicitDefEqProofs [go_sem]
            refine goD_pure _ db (by simp -implicitDefEqProofs [go_sem, ro_pC, ro_rC]) ?_
            simp -implicitDefEqProofs [go_sem]
            refine goD_pure _ ksg0 (by simp -implicitDefEqProofs [go_sem, ro_pC, ro_rC]) ?_
            simp -implicitDefEqProofs [go_sem]
            refine goD_pure _ daa (by simp -implicitDefEqProofs [go_sem, ro_pC, ro_rC]) ?_
            simp -implicitDefEqProofs [go_sem]
            refine goD_pure _ khh (by simp -implicitDefEqProofs [go_sem, ro_pC, ro_rC]) ?_
            simp -implicitDefEqProofs [go_sem]
            refine goD_pure _ ca (by simp -implicitDefEqProofs [go_sem, ro_pC, ro_rC]) ?_
            simp -implicitDefEqProofs [go_sem, ca0]
            refine goD_pure _ dbb (by simp -implicitDefEqProofs [go_sem, ro_pC, ro_rC]) ?_
            simp -implicitDefEqProofs [go_sem]
            refine goD_pure _ khh (by simp -implicitDefEqProofs [go_sem, ro_pC, ro_rC]) ?_
            simp -implicitDefEqProofs [go_sem]
            refine goD_pure _ cb (by simp -implicitDefEqProofs [go_sem, ro_pC, ro_rC]) ?_
            simp -implicitDefEqProofs [go_sem, cb0]
            refine goD_pure _ hw (by simp -implicitDefEqProofs [go_sem, ro_pC, ro_rC]) ?_
            simp -implicitDefEqProofs [go_sem]
        · have h3' : ¬ (l.length : Int) = 3 := by omega
          simp -implicitDefEqProofs [go_sem, a, h3, h3']
          refine goC_pure _ hw (by simp -implicitDefEqProofs [go_sem]) ?_
          simp -implicitDefEqProofs [go_sem]
    · have hl0 : l = [] := by
        rcases hpq with ⟨h, _⟩ | ⟨_, h⟩
        · exact h
        · exact absurd h he
      subst hl0
      simp -implicitDefEqProofs [go_sem, he]
      refine goC_pure _ hw (by simp -implicitDefEqProofs [go_sem]) ?_
      simp -implicitDefEqProofs [go_sem]
end Go.Proofs.YtgiheamjhoiojaaGreat
