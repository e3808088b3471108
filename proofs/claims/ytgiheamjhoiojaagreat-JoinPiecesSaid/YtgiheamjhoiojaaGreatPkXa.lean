import Derived.Test.YtgiheamjhoiojaaGreatPkGa
import Derived.Test.YtgiheamjhoiojaaGreatPkQa
import Derived.Test.YtgiheamjhoiojaaGreatPkEa
namespace Go.Proofs.YtgiheamjhoiojaaGreat
open Go Go.Proofs
set_option linter.unusedSimpArgs false
set_option linter.unusedVariables false
set_option maxRecDepth 20000
theorem pieceQ_some {p u v : PQ} {s : SR} {l : List PQ} (h : pieceQ p u v s = (l, 0)) (h2 : s.join ≠ 2) (hl : l ≠ []) : u ≠ ⟨0, 0⟩ ∧ v ≠ ⟨0, 0⟩ ∧ mayJ s ∧ u.cross v ≠ 0 ∧ ∃ o, outQ u v s.miter.val s.h s.tol.val s.join (decide (u.cross v < 0)) = some o ∧ l = p :: (if u.cross v < 0 then o.reverse else o).map p.add := by
  unfold pieceQ at h
  split at h
  · cases h
  · rename_i h1
    split at h
    · cases h
    · rename_i h3
      try rw [if_neg h2] at h
      split at h
      · injection h with h; exact absurd h.symm hl
      · rename_i h4
        split at h
        · cases h
        · rename_i o ho
          injection h with h
          exact ⟨fun e => h1 (.inl e), fun e => h1 (.inr e), Classical.not_not.1 h3, h4, o, ho, h.symm⟩
theorem pieceQ_cases (p u v : PQ) (s : SR) (h2 : s.join ≠ 2) : ((pieceQ p u v s).1 = [] ∧ ((pieceQ p u v s).2 ≠ 0 ∨ u.cross v = 0)) ∨ (pieceQ p u v s).1 ≠ [] ∧ (pieceQ p u v s).2 = 0 := by
  unfold pieceQ
  split
  · exact .inl ⟨rfl, .inl (by decide)⟩
  · split
    · exact .inl ⟨rfl, .inl (by decide)⟩
    · try rw [if_neg h2]
      split
      · rename_i h; exact .inl ⟨rfl, .inr h⟩
      · split
        · exact .inl ⟨rfl, .inl (by decide)⟩
        · exact .inr ⟨by simp, rfl⟩
structure Geo (p u v : PQ) (h tol : Rat) (l : List PQ) (left : Bool) (ru rv : Rat) (a b : PQ) : Prop where
  hl : left = decide (u.cross v < 0)
  u0 : u ≠ ⟨0, 0⟩
  v0 : v ≠ ⟨0, 0⟩
  x0 : u.cross v ≠ 0
  pu : 0 < ru
  pv : 0 < rv
  bu : ru * ru * u.dot u ≤ h * h
  bv : rv * rv * v.dot v ≤ h * h
  ha : a = sided (u.rot.scale ru) left
  hb : b = sided (v.rot.scale rv) left
  fa : atl (a.dot (sided u.rot left)) (h - tol) ((sided u.rot left).dot (sided u.rot left))
  fb : atl (b.dot (sided v.rot left)) (h - tol) ((sided v.rot left).dot (sided v.rot left))
  pts : l = p :: (if left then [b, a] else [a, b]).map p.add ∨ ∃ r k t, half ≤ r ∧ facQ (a.add b) (sided u.rot left) (sided v.rot left) h k = some r ∧ t = (a.add b).scale r ∧
    atl (t.dot (sided u.rot left)) (h - tol) ((sided u.rot left).dot (sided u.rot left)) ∧ atl (t.dot (sided v.rot left)) (h - tol) ((sided v.rot left).dot (sided v.rot left)) ∧
    l = p :: (if left then [b, t, a] else [a, t, b]).map p.add
theorem sidedd (p q : PQ) (l : Bool) : (sided p l).dot (sided q l) = p.dot q := by
  cases l <;> (unfold sided PQ.neg PQ.dot; simp only [Bool.false_eq_true, if_false, if_true]; try grind)
theorem off_atl {u : PQ} {h tol r : Rat} {left : Bool} (o : Off u h tol r) : atl ((sided (u.rot.scale r) left).dot (sided u.rot left)) (h - tol) ((sided u.rot left).dot (sided u.rot left)) := by
  have e : (u.rot.scale r).dot u.rot = r * u.dot u := by unfold PQ.rot PQ.scale PQ.dot; simp only; grind
  have e2 : u.rot.dot u.rot = u.dot u := by unfold PQ.rot PQ.dot; simp only; grind
  rw [sidedd, sidedd, e, e2]
  have hd := dot_nn' u
  have hp := o.pos
  have hf := o.far
  unfold atl
  generalize u.dot u = D at *
  split
  · refine ⟨Rat.mul_nonneg (Rat.le_of_lt hp) hd, ?_⟩
    rcases hf with hf | hf
    · grind
    · have := Rat.mul_nonneg (show 0 ≤ r * r * D - (h - tol) * (h - tol) by grind) hd
      grind
  · exact .inl (Rat.mul_nonneg (Rat.le_of_lt hp) hd)
theorem off_nz {u : PQ} {h : Rat} {k : Nat} {left : Bool} (e : sided (offQ u h k) left ≠ ⟨0, 0⟩) : 0 < lowQ (h * h / u.dot u) k := by
  have h0 := lowQ_nn (h * h / u.dot u) k
  rcases Classical.em (lowQ (h * h / u.dot u) k = 0) with hz | hz
  · refine absurd ?_ e
    unfold offQ
    rw [hz]
    cases left <;> exact PQ.ext (by simp [sided, PQ.neg, PQ.scale]) (by simp [sided, PQ.neg, PQ.scale])
  · grind
theorem piece_geo {p u v : PQ} {s : SR} {l : List PQ} (h : pieceQ p u v s = (l, 0)) (h2 : s.join ≠ 2) (hl : l ≠ []) : mayJ s ∧ ∃ left ru rv a b, Geo p u v s.h s.tol.val l left ru rv a b := by
  obtain ⟨hu, hv, hm, hx, o, ho, rfl⟩ := pieceQ_some h h2 hl
  refine ⟨hm, ?_⟩
  obtain ⟨left, hL⟩ : ∃ b, b = decide (u.cross v < 0) := ⟨_, rfl⟩
  have hLi : (if u.cross v < 0 then o.reverse else o) = if left then o.reverse else o := by rw [hL]; by_cases hc : u.cross v < 0 <;> simp [hc]
  rw [hLi]
  rw [← hL] at ho
  unfold outQ at ho
  split at ho
  · obtain ⟨k, _, _, hk⟩ := tipK_some _ _ ho
    obtain ⟨a, b, r, ha, hb, a0, b0, hr, hr2, t1, t2, t3, t4, rfl⟩ := tipQ_some hk
    have e1 := off_nz (ha ▸ a0)
    have e2 := off_nz (hb ▸ b0)
    refine ⟨left, _, _, a, b, hL, hu, hv, hx, e1, e2, off_le hu s.h k, off_le hv s.h k, ha, hb, t1, t3, .inr ⟨r, k, _, by grind, hr, rfl, t2, t4, ?_⟩⟩
    cases left <;> rfl
  · obtain ⟨a, b, j, k, e1, e2, rfl⟩ := cutJ_some ho
    obtain ⟨ru, rfl, o1⟩ := fit_off hu e1
    obtain ⟨rv, rfl, o2⟩ := fit_off hv e2
    refine ⟨left, ru, rv, _, _, hL, hu, hv, hx, o1.pos, o2.pos, o1.le, o2.le, rfl, rfl, off_atl o1, off_atl o2, .inl ?_⟩
    cases left <;> rfl
theorem sided_cross (p q : PQ) (l : Bool) : (sided p l).cross (sided q l) = p.cross q := by
  cases l <;> (unfold sided PQ.neg PQ.cross; simp only [Bool.false_eq_true, if_false, if_true]; try grind)
theorem geo_cross {p u v : PQ} {h tol : Rat} {l : List PQ} {left : Bool} {ru rv : Rat} {a b : PQ} (g : Geo p u v h tol l left ru rv a b) : if left then 0 < b.cross a else 0 < a.cross b := by
  have e : a.cross b = ru * rv * u.cross v := by
    rw [g.ha, g.hb, sided_cross]; unfold PQ.rot PQ.scale PQ.cross; simp only; grind
  have e2 : b.cross a = ru * rv * -(u.cross v) := by
    have : b.cross a = -(a.cross b) := by unfold PQ.cross; grind
    rw [this, e]; grind
  have hp := Rat.mul_pos g.pu g.pv
  have hx := g.x0
  have hl := g.hl
  generalize u.cross v = X at *
  by_cases h : X < 0
  · rw [hl, decide_eq_true h, if_pos rfl, e2]; exact Rat.mul_pos hp (by grind)
  · rw [hl, decide_eq_false h, if_neg (by decide), e]; exact Rat.mul_pos hp (by grind)
theorem geo_fl {p u v : PQ} {h tol : Rat} {l : List PQ} {left : Bool} {ru rv : Rat} {a b : PQ} (g : Geo p u v h tol l left ru rv a b) : ∃ f e : PQ, 0 < f.cross e ∧ (l = [p, p.add f, p.add e] ∨ ∃ r, half ≤ r ∧ l = [p, p.add f, p.add ((f.add e).scale r), p.add e]) := by
  have hc := geo_cross g
  have hp := g.pts
  have hab : a.add b = b.add a := PQ.ext (by unfold PQ.add; simp only; grind) (by unfold PQ.add; simp only; grind)
  cases left
  · refine ⟨a, b, hc, ?_⟩
    rcases hp with hp | ⟨r, _, t, hr, _, ht, _, _, hp⟩
    · exact .inl hp
    · subst ht; exact .inr ⟨r, hr, hp⟩
  · refine ⟨b, a, hc, ?_⟩
    rcases hp with hp | ⟨r, _, t, hr, _, ht, _, _, hp⟩
    · exact .inl hp
    · subst ht; rw [hab] at hp; exact .inr ⟨r, hr, hp⟩
theorem sz_areaQ {l : List PQ} {N : Nat} (h : ∀ p ∈ l, p.sz ≤ N) (hN : l.length * (4 * N + 2) ≤ 4294967296) : sz (areaQ l) ≤ 4294967300 := by
  have h1 := sz_aS (l := l) (N := N) h l.length (Nat.le_refl _)
  have h2 := sz_mul (aS l l.length) half
  have h3 := sz_half
  unfold areaQ
  omega
theorem piece_sz {p u v : PQ} {s : SR} (hp : p.sz ≤ 1) (hu : u.sz ≤ 1) (hv : v.sz ≤ 1) (hs : sz s.h ≤ 1) : (pieceQ p u v s).1.length ≤ 16384 ∧ ∀ x ∈ (pieceQ p u v s).1, x.sz ≤ 30000 := by
  have key : ∀ o : List PQ, (∀ x ∈ o, x.sz ≤ 10000) → ∀ left : Bool, ∀ x ∈ p :: (if left then o.reverse else o).map p.add, x.sz ≤ 30000 := fun o ho left x hx => by
    rcases List.mem_cons.1 hx with rfl | hx
    · omega
    · obtain ⟨y, hy, rfl⟩ := List.mem_map.1 hx
      have hy' : y ∈ o := by cases left <;> simpa using hy
      have := ho y hy'
      have := PQ.sz_add p y
      omega
  unfold pieceQ
  split
  · exact ⟨by simp, by simp⟩
  split
  · exact ⟨by simp, by simp⟩
  split
  · rcases rnd_cases p s.h s.tol.val with ⟨h, _⟩ | ⟨e, h1, _, _, _, h⟩
    · rw [h]; exact ⟨by simp, by simp⟩
    · rw [h]
      have hp : 2 ^ e ≤ 4096 := (pow12 (by omega)).2 h1
      have hp1 : 1 ≤ 2 ^ e := Nat.pow_pos (by omega)
      generalize 2 ^ e = m at *
      refine ⟨by simp only [dL_len]; omega, fun x hx => ?_⟩
      have := dL_szs (c := p) (h := s.h) hp1 hp x hx
      omega
  split
  · exact ⟨by simp, by simp⟩
  split
  · exact ⟨by simp, by simp⟩
  · rename_i o ho
    have hi : (if u.cross v < 0 then o.reverse else o) = if decide (u.cross v < 0) then o.reverse else o := by by_cases hc : u.cross v < 0 <;> simp [hc]
    simp only [hi]
    unfold outQ at ho
    have hl : (∀ x ∈ o, x.sz ≤ 10000) ∧ o.length ≤ 3 := by
      split at ho
      · obtain ⟨a, t, b, rfl, h1, h2, h3⟩ := tip_sz ho hu hv hs
        exact ⟨by simp [h1, h2, h3], by simp⟩
      · obtain ⟨a, b, rfl, h1, h2⟩ := cut_sz ho hu hv hs
        exact ⟨by simp [h1, h2], by simp⟩
    refine ⟨?_, key o hl.1 _⟩
    generalize decide (u.cross v < 0) = d
    have := hl.2
    cases d <;> simp <;> omega
theorem piece_cvx {p u v : PQ} {s : SR} (hp : p.sz ≤ 1) (hu : u.sz ≤ 1) (hv : v.sz ≤ 1) (hs : sz s.h ≤ 1) {l : List PQ} {e : Int} (h : pieceQ p u v s = (l, e)) :
    (l = [] ∧ (e ≠ 0 ∨ s.join ≠ 2 ∧ u.cross v = 0)) ∨ (l ≠ [] ∧ e = 0 ∧ 0 < areaQ l ∧ (s.join = 2 ∨ s.join ≠ 2 ∧ u.cross v ≠ 0 ∧ l.length ≤ 4 ∧ ∃ r, l = p :: r) ∧ (l.length ≤ 16 → Pure Tryz.prog 25 [pL l] (.bool true))) := by
  have hz := piece_sz hp hu hv hs (p := p) (u := u) (v := v)
  rw [h] at hz
  by_cases h2 : s.join = 2
  · unfold pieceQ at h
    split at h
    · injection h with h0 h1; exact .inl ⟨h0.symm, .inl (by omega)⟩
    split at h
    · injection h with h0 h1; exact .inl ⟨h0.symm, .inl (by omega)⟩
    try rw [if_pos h2] at h
    rcases rnd_cases p s.h s.tol.val with ⟨k1, k2⟩ | ⟨j, k1, h0, ht, k3, k4⟩
    · rw [h] at k1 k2; exact .inl ⟨k1, .inl k2⟩
    · rw [k4] at h
      injection h with h1 h3
      subst h1 h3
      have hp' : 2 ^ j ≤ 4096 := (pow12 (by omega)).2 k1
      have hp1 : 1 ≤ 2 ^ j := Nat.pow_pos (by omega)
      have hcx := hp4_circ (e := j)
      generalize 2 ^ j = m at *
      have hlen : (dL p s.h m 4).length = 4 * m := dL_len ..
      exact .inr ⟨fun hh => by rw [hh] at hlen; simp at hlen; omega, rfl, area_circ h0 hp1, .inl h2, fun hl => circ_convex h0 hp1 hp' (hcx (by omega)) hp hs (by omega)⟩
  · rcases pieceQ_cases p u v s h2 with ⟨k1, k2⟩ | ⟨k1, k2⟩
    · rw [h] at k1 k2
      exact .inl ⟨k1, k2.imp id fun k => ⟨h2, k⟩⟩
    · rw [h] at k1 k2
      simp only at k1 k2
      subst k2
      obtain ⟨_, left, ru, rv, a, b, g⟩ := piece_geo h h2 k1
      obtain ⟨f, q, hX, hl⟩ := geo_fl g
      refine .inr ⟨k1, rfl, ?_, .inr ⟨h2, g.x0, ?_⟩, ?_⟩
      · rcases hl with rfl | ⟨r, hr, rfl⟩
        · rw [area3]; exact Rat.mul_pos hX half_pos
        · rw [area4]; exact Rat.mul_pos (by have := half_pos; grind) hX
      · rcases hl with rfl | ⟨r, hr, rfl⟩
        · exact ⟨by simp, _, rfl⟩
        · exact ⟨by simp, _, rfl⟩
      · intro _
        have z : ∀ q ∈ l, q.sz ≤ 1073741824 := fun q hq => Nat.le_trans (hz.2 q hq) (by omega)
        rcases hl with rfl | ⟨r, hr, rfl⟩
        · exact tri_convex hX z
        · exact kite_convex hX hr z
end Go.Proofs.YtgiheamjhoiojaaGreat
