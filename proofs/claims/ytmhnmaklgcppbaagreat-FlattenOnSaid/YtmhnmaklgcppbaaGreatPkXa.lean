/-
  Of the seat's texts, joined: FlA FlB FlC FlD FlE FlF FlI FlG FlH FlJ FlK FlL FlM.
-/
import Derived.Test.YtmhnmaklgcppbaaGreatPkCa
import Derived.Test.YtmhnmaklgcppbaaGreatPkQa
import Derived.Test.YtmhnmaklgcppbaaGreatPkMa
import Derived.Test.YtmhnmaklgcppbaaGreatPkIa
namespace Go.Proofs.YtmhnmaklgcppbaaGreat
open Go Go.Proofs
set_option linter.unusedSimpArgs false
set_option linter.unusedVariables false

/-- A point is near a segment. -/
def Nr (a b : PQ) (T : Rat) (p : PQ) : Prop := ∃ s, 0 ≤ s ∧ s ≤ 1 ∧ p.far (a.mix b s) ≤ T
theorem nr_ts {a b p : PQ} {T : Rat} : Nr a b T p ↔ tsQ p a b ≤ T := by
  constructor
  · rintro ⟨s, h0, h1, h⟩
    have := tsQ_le p a b h0 h1
    grind
  · intro h
    obtain ⟨s, h0, h1, h2⟩ := tsQ_at p a b
    exact ⟨s, h0, h1, by grind⟩
theorem far_cvx {p q u v : PQ} {l T : Rat} (h0 : 0 ≤ l) (h1 : l ≤ 1) (hp : p.far u ≤ T) (hq : q.far v ≤ T) : (p.mix q l).far (u.mix v l) ≤ T := by
  have e : (p.mix q l).far (u.mix v l) = (1 - l) * p.far u + l * q.far v - l * (1 - l) * ((p.sub u).far (q.sub v)) := by
    unfold PQ.far PQ.mix PQ.dot PQ.sub PQ.add PQ.scale; simp only; grind
  have n1 : 0 ≤ (p.sub u).far (q.sub v) := by
    unfold PQ.far PQ.dot
    have h1 := sq_nn ((p.sub u).sub (q.sub v)).x; have h2 := sq_nn ((p.sub u).sub (q.sub v)).y
    grind
  have n2 := Rat.mul_nonneg (Rat.mul_nonneg h0 (show 0 ≤ 1 - l by grind)) n1
  have n3 := Rat.mul_nonneg h0 (show 0 ≤ T - q.far v by grind)
  have n4 := Rat.mul_nonneg (show 0 ≤ 1 - l by grind) (show 0 ≤ T - p.far u by grind)
  grind
theorem mix_mix (a b : PQ) (s t l : Rat) : (a.mix b s).mix (a.mix b t) l = a.mix b (s * (1 - l) + t * l) := by
  unfold PQ.mix PQ.sub PQ.add PQ.scale
  exact PQ.ext (by simp only; grind) (by simp only; grind)
theorem Nr.mix {a b p q : PQ} {T l : Rat} (hp : Nr a b T p) (hq : Nr a b T q) (h0 : 0 ≤ l) (h1 : l ≤ 1) : Nr a b T (p.mix q l) := by
  obtain ⟨s, s0, s1, s2⟩ := hp
  obtain ⟨t, t0, t1, t2⟩ := hq
  refine ⟨s * (1 - l) + t * l, ?_, ?_, ?_⟩
  · have := Rat.mul_nonneg s0 (show 0 ≤ 1 - l by grind)
    have := Rat.mul_nonneg t0 h0
    grind
  · have := Rat.mul_nonneg (show 0 ≤ 1 - s by grind) (show 0 ≤ 1 - l by grind)
    have := Rat.mul_nonneg (show 0 ≤ 1 - t by grind) h0
    grind
  · rw [← mix_mix]; exact far_cvx h0 h1 s2 t2
theorem mixT_P {h g : HQ} {t : Rat} (hh : 0 < h.w) (hg : 0 < g.w) (h0 : 0 ≤ t) (h1 : t ≤ 1) : ∃ l, 0 ≤ l ∧ l ≤ 1 ∧ (h.mixT g t).P = h.P.mix g.P l := by
  have hW := mixQ_pos hh hg h0 h1
  have e0 : mixQ h.w g.w t = h.w * (1 - t) + g.w * t := rfl
  have n1 := Rat.mul_nonneg (show 0 ≤ g.w by grind) h0
  have n2 := Rat.mul_nonneg (show 0 ≤ h.w by grind) (show 0 ≤ 1 - t by grind)
  refine ⟨g.w * t / mixQ h.w g.w t, ?_, ?_, ?_⟩
  · rw [Rat.div_def]; exact Rat.mul_nonneg n1 (Rat.le_of_lt (Rat.inv_pos.2 hW))
  · have i0 : 0 ≤ (mixQ h.w g.w t)⁻¹ := Rat.le_of_lt (Rat.inv_pos.2 hW)
    have i1 : mixQ h.w g.w t * (mixQ h.w g.w t)⁻¹ = 1 := Rat.mul_inv_cancel _ (by grind)
    rw [Rat.div_def]
    have := Rat.mul_nonneg (show 0 ≤ mixQ h.w g.w t - g.w * t by grind) i0
    grind
  · have i1 : mixQ h.w g.w t * (mixQ h.w g.w t)⁻¹ = 1 := Rat.mul_inv_cancel _ (by grind)
    have j1 : h.w * h.w⁻¹ = 1 := Rat.mul_inv_cancel _ (by grind)
    have j2 : g.w * g.w⁻¹ = 1 := Rat.mul_inv_cancel _ (by grind)
    rw [e0] at i1
    unfold HQ.P HQ.mixT PQ.mix PQ.add PQ.sub PQ.scale
    simp only [Rat.div_def]
    rw [e0]
    generalize (h.w * (1 - t) + g.w * t)⁻¹ = W at *
    generalize h.w⁻¹ = u at *
    generalize g.w⁻¹ = v at *
    unfold mixQ
    refine PQ.ext ?_ ?_
    · simp only; grind
    · simp only; grind
theorem mixT_w {h g : HQ} {t : Rat} (hh : 0 < h.w) (hg : 0 < g.w) (h0 : 0 ≤ t) (h1 : t ≤ 1) : 0 < (h.mixT g t).w := mixQ_pos hh hg h0 h1
theorem mixes_mem {t : Rat} {Q : HQ → Prop} (hQ : ∀ a b, Q a → Q b → Q (a.mixT b t)) : ∀ {l : List HQ}, (∀ x ∈ l, Q x) → ∀ x ∈ mixes t l, Q x
  | [], _, x, hx => by simp [mixes] at hx
  | [_], _, x, hx => by simp [mixes] at hx
  | a :: b :: r, h, x, hx => by
    simp only [mixes, List.mem_cons] at hx
    rcases hx with rfl | hx
    · exact hQ a b (h a (by simp)) (h b (by simp))
    · exact mixes_mem hQ (l := b :: r) (fun y hy => h y (by simp at hy ⊢; exact .inr hy)) x hx
theorem rowT_mem {t : Rat} {Q : HQ → Prop} (hQ : ∀ a b, Q a → Q b → Q (a.mixT b t)) {l : List HQ} (h : ∀ x ∈ l, Q x) (i : Nat) : ∀ x ∈ rowT t i l, Q x := by
  induction i with
  | zero => exact h
  | succ i ih => exact mixes_mem hQ ih
theorem dc_mem {t : Rat} {Q : HQ → Prop} (hQ : ∀ a b, Q a → Q b → Q (a.mixT b t)) {l : List HQ} (h : ∀ x ∈ l, Q x) (hl : 0 < l.length) : Q (dcH t l) := by
  have hr := rowT_mem hQ h (l.length - 1)
  have hlen := rowT_len t (l.length - 1) l
  unfold dcH
  generalize rowT t (l.length - 1) l = r at *
  cases r with
  | nil => simp at hlen; omega
  | cons a r => exact hr a (by simp)
/-- A curve of which all control points are near its chord is near it. -/
theorem near_dc {a b : PQ} {T t : Rat} {v : List HQ} (hG : GoodC v) (hv : ∀ h ∈ v, Nr a b T h.P) (h0 : 0 ≤ t) (h1 : t ≤ 1) : Nr a b T (dcH t v).P := by
  refine (dc_mem (Q := fun h => 0 < h.w ∧ Nr a b T h.P) (fun p q hp hq => ⟨mixT_w hp.1 hq.1 h0 h1, ?_⟩) (fun x hx => ⟨hG.1 x hx, hv x hx⟩) (by have := hG.2.1; omega)).2
  obtain ⟨l, l0, l1, e⟩ := mixT_P hp.1 hq.1 h0 h1
  rw [e]
  exact hp.2.mix hq.2 l0 l1

/-- Whether a curve is as good as its chord. -/
def flatQ (v : List HQ) (tol : Rat) : Prop := ∀ h ∈ v, tsQ h.P (v.headD hQ0).P (v.getLastD hQ0).P ≤ tol * tol
theorem flat_near {v : List HQ} {tol t : Rat} (hG : GoodC v) (hf : flatQ v tol) (h0 : 0 ≤ t) (h1 : t ≤ 1) : tsQ (dcH t v).P (v.headD hQ0).P (v.getLastD hQ0).P ≤ tol * tol :=
  nr_ts.1 (near_dc hG (fun h hh => nr_ts.2 (hf h hh)) h0 h1)
theorem flat_mono {v : List HQ} {s t : Rat} (h0 : 0 ≤ s) (h : s ≤ t) (hf : flatQ v s) : flatQ v t := fun x hx => by
  have := hf x hx
  have := Rat.mul_nonneg (show 0 ≤ t - s by grind) (show 0 ≤ t + s by grind)
  grind

/-! Halving makes it flat. -/
def Wi (B x : Rat) : Prop := -B ≤ x ∧ x ≤ B
theorem Wi.mul {A B x y : Rat} (hx : Wi A x) (hy : Wi B y) : Wi (A * B) (x * y) := by
  obtain ⟨a, b⟩ := hx
  obtain ⟨c, d⟩ := hy
  have h1 := Rat.mul_nonneg (show 0 ≤ A - x by grind) (show 0 ≤ B + y by grind)
  have h2 := Rat.mul_nonneg (show 0 ≤ A + x by grind) (show 0 ≤ B - y by grind)
  have h3 := Rat.mul_nonneg (show 0 ≤ A - x by grind) (show 0 ≤ B - y by grind)
  have h4 := Rat.mul_nonneg (show 0 ≤ A + x by grind) (show 0 ≤ B + y by grind)
  exact ⟨by grind, by grind⟩
/-- The control points' second differences are so small. -/
structure D2 (e : Rat) (a b c : HQ) : Prop where
  x : Wi (16384 * e) (a.x - 2 * b.x + c.x)
  y : Wi (16384 * e) (a.y - 2 * b.y + c.y)
  w : Wi (128 * e) (a.w - 2 * b.w + c.w)
def d2 (e : Rat) : List HQ → Prop
  | a :: b :: c :: r => D2 e a b c ∧ d2 e (b :: c :: r)
  | _ => True
/-- The control point lies within the box. -/
structure Bx (h : HQ) : Prop where
  x : Wi (64 * h.w) h.x
  y : Wi (64 * h.w) h.y
  w : 1 / 64 ≤ h.w
theorem Bx.mid {a b : HQ} (ha : Bx a) (hb : Bx b) : Bx (a.mid b) := by
  obtain ⟨⟨a1, a2⟩, ⟨a3, a4⟩, a5⟩ := ha
  obtain ⟨⟨b1, b2⟩, ⟨b3, b4⟩, b5⟩ := hb
  unfold HQ.mid midQ half
  refine ⟨⟨?_, ?_⟩, ⟨?_, ?_⟩, ?_⟩ <;> simp only <;> grind
theorem D2.m1 {e : Rat} {a b c : HQ} (h : D2 e a b c) : D2 (e / 4) a (a.mid b) ((a.mid b).mid (b.mid c)) := by
  obtain ⟨⟨a1, a2⟩, ⟨a3, a4⟩, ⟨a5, a6⟩⟩ := h
  unfold HQ.mid midQ half
  refine ⟨⟨?_, ?_⟩, ⟨?_, ?_⟩, ⟨?_, ?_⟩⟩ <;> simp only <;> grind
theorem D2.m2 {e : Rat} {a b c : HQ} (h : D2 e a b c) : D2 (e / 4) ((a.mid b).mid (b.mid c)) (b.mid c) c := by
  obtain ⟨⟨a1, a2⟩, ⟨a3, a4⟩, ⟨a5, a6⟩⟩ := h
  unfold HQ.mid midQ half
  refine ⟨⟨?_, ?_⟩, ⟨?_, ?_⟩, ⟨?_, ?_⟩⟩ <;> simp only <;> grind
theorem D2.m3 {e : Rat} {a b c d : HQ} (h : D2 e a b c) (h' : D2 e b c d) : D2 (e / 4) (a.mid b) ((a.mid b).mid (b.mid c)) (((a.mid b).mid (b.mid c)).mid ((b.mid c).mid (c.mid d))) := by
  obtain ⟨⟨a1, a2⟩, ⟨a3, a4⟩, ⟨a5, a6⟩⟩ := h
  obtain ⟨⟨b1, b2⟩, ⟨b3, b4⟩, ⟨b5, b6⟩⟩ := h'
  unfold HQ.mid midQ half
  refine ⟨⟨?_, ?_⟩, ⟨?_, ?_⟩, ⟨?_, ?_⟩⟩ <;> simp only <;> grind
theorem D2.m4 {e : Rat} {a b c d : HQ} (h : D2 e a b c) (h' : D2 e b c d) : D2 (e / 4) (((a.mid b).mid (b.mid c)).mid ((b.mid c).mid (c.mid d))) ((b.mid c).mid (c.mid d)) (c.mid d) := by
  obtain ⟨⟨a1, a2⟩, ⟨a3, a4⟩, ⟨a5, a6⟩⟩ := h
  obtain ⟨⟨b1, b2⟩, ⟨b3, b4⟩, ⟨b5, b6⟩⟩ := h'
  unfold HQ.mid midQ half
  refine ⟨⟨?_, ?_⟩, ⟨?_, ?_⟩, ⟨?_, ?_⟩⟩ <;> simp only <;> grind
structure Cv (e : Rat) (v : List HQ) : Prop where
  good : GoodC v
  box : ∀ h ∈ v, Bx h
  d : d2 e v
theorem Cv.cut {e : Rat} {v : List HQ} (h : Cv e v) : Cv (e / 4) (cutL v.length v) ∧ Cv (e / 4) (cutR v.length v) := by
  obtain ⟨hG, hb, hd⟩ := h
  obtain ⟨g1, g2⟩ := cut_good hG
  have h2 := hG.2.1; have h4 := hG.2.2
  rcases (by omega : v.length = 2 ∨ v.length = 3 ∨ v.length = 4) with h | h | h
  · obtain ⟨a, b, rfl⟩ := list2 h
    have ba := hb a (by simp); have bb := hb b (by simp)
    have m1 := ba.mid bb
    refine ⟨⟨g1, ?_, ?_⟩, ⟨g2, ?_, ?_⟩⟩
    · rw [show cutL [a, b].length [a, b] = [a, a.mid b] from rfl]; intro h hh; simp at hh; rcases hh with rfl | rfl <;> assumption
    · trivial
    · rw [show cutR [a, b].length [a, b] = [a.mid b, b] from rfl]; intro h hh; simp at hh; rcases hh with rfl | rfl <;> assumption
    · trivial
  · obtain ⟨a, b, c, rfl⟩ := list3 h
    have ba := hb a (by simp); have bb := hb b (by simp); have bc := hb c (by simp)
    have m1 := ba.mid bb; have m2 := bb.mid bc; have m3 := m1.mid m2
    refine ⟨⟨g1, ?_, ?_⟩, ⟨g2, ?_, ?_⟩⟩
    · rw [show cutL [a, b, c].length [a, b, c] = _ from cl3 a b c]; intro h hh; simp at hh; rcases hh with rfl | rfl | rfl <;> assumption
    · exact ⟨hd.1.m1, trivial⟩
    · rw [show cutR [a, b, c].length [a, b, c] = _ from cr3 a b c]; intro h hh; simp at hh; rcases hh with rfl | rfl | rfl <;> assumption
    · exact ⟨hd.1.m2, trivial⟩
  · obtain ⟨a, b, c, d, rfl⟩ := list4 h
    have ba := hb a (by simp); have bb := hb b (by simp); have bc := hb c (by simp); have bd := hb d (by simp)
    have m1 := ba.mid bb; have m2 := bb.mid bc; have m3 := bc.mid bd
    have n1 := m1.mid m2; have n2 := m2.mid m3; have n3 := n1.mid n2
    refine ⟨⟨g1, ?_, ?_⟩, ⟨g2, ?_, ?_⟩⟩
    · rw [show cutL [a, b, c, d].length [a, b, c, d] = _ from cl4 a b c d]; intro h hh; simp at hh; rcases hh with rfl | rfl | rfl | rfl <;> assumption
    · exact ⟨hd.1.m1, hd.1.m3 hd.2.1, trivial⟩
    · rw [show cutR [a, b, c, d].length [a, b, c, d] = _ from cr4 a b c d]; intro h hh; simp at hh; rcases hh with rfl | rfl | rfl | rfl <;> assumption
    · exact ⟨hd.1.m4 hd.2.1, hd.2.1.m2, trivial⟩

theorem Wi.div {R z w : Rat} (h : Wi R (z * w)) (hw : 1 / 64 ≤ w) : Wi (64 * R) z := by
  obtain ⟨h1, h2⟩ := h
  constructor
  · rcases Classical.em (-(64 * R) ≤ z) with h | h
    · exact h
    · rcases (Rat.le_total : 0 ≤ z ∨ z ≤ 0) with hz | hz
      · exfalso
        have := Rat.mul_nonneg hz (show 0 ≤ w by grind)
        grind
      · have := Rat.mul_nonneg (show 0 ≤ -z by grind) (show 0 ≤ w - 1 / 64 by grind)
        grind
  · rcases Classical.em (z ≤ 64 * R) with h | h
    · exact h
    · rcases (Rat.le_total : 0 ≤ z ∨ z ≤ 0) with hz | hz
      · have := Rat.mul_nonneg hz (show 0 ≤ w - 1 / 64 by grind)
        grind
      · exfalso
        have := Rat.mul_nonneg (show 0 ≤ -z by grind) (show 0 ≤ w by grind)
        grind
/-- One coordinate of a point between, and of the chord's. -/
theorem near1 {e bx bw hx hw : Rat} (h0 : 0 ≤ e) (hbw : 1 / 64 ≤ bw) (hhw : 1 / 64 ≤ hw) (h1 : Wi (64 * hw) hx) (h2 : Wi (16384 * e) (bx - hx)) (h3 : Wi (128 * e) (bw - hw)) : Wi (1572864 * e) (bx / bw - hx / hw) := by
  have e1 : bx / bw * bw = bx := by grind
  have e2 : hx / hw * hw = hx := by grind
  generalize bx / bw = p at *
  generalize hx / hw = q at *
  have hq : Wi 64 q := by
    obtain ⟨a, b⟩ := h1
    constructor
    · rcases Classical.em (-64 ≤ q) with h | h
      · exact h
      · have := Rat.mul_pos (show 0 < -64 - q by grind) (show 0 < hw by grind)
        grind
    · rcases Classical.em (q ≤ 64) with h | h
      · exact h
      · have := Rat.mul_pos (show 0 < q - 64 by grind) (show 0 < hw by grind)
        grind
  have m := hq.mul h3
  have : Wi (24576 * e) ((p - q) * bw) := by
    obtain ⟨a, b⟩ := h2
    obtain ⟨c, d⟩ := m
    constructor
    · grind
    · grind
  have := this.div hbw
  obtain ⟨a, b⟩ := this
  exact ⟨by grind, by grind⟩
theorem wi_sq {B x : Rat} (h : Wi B x) : x * x ≤ B * B := by
  have := Rat.mul_nonneg (show 0 ≤ B - x by have := h.2; grind) (show 0 ≤ B + x by have := h.1; grind)
  grind
theorem near2 {e l tol : Rat} {b A D : HQ} (h0 : 0 ≤ e) (he : e ≤ 1 / 268435456) (ht : 1 / 64 ≤ tol) (hb : Bx b) (hA : Bx A) (hD : Bx D) (l0 : 0 ≤ l) (l1 : l ≤ 1)
    (hx : Wi (16384 * e) (b.x - mixQ A.x D.x l)) (hy : Wi (16384 * e) (b.y - mixQ A.y D.y l)) (hw : Wi (128 * e) (b.w - mixQ A.w D.w l)) : Nr A.P D.P (tol * tol) b.P := by
  have pA : 0 < A.w := by have := hA.w; grind
  have pD : 0 < D.w := by have := hD.w; grind
  obtain ⟨s, s0, s1, hs⟩ := mixT_P pA pD l0 l1
  refine ⟨s, s0, s1, ?_⟩
  rw [← hs]
  have w1 : 1 / 64 ≤ mixQ A.w D.w l := by
    unfold mixQ
    have := Rat.mul_nonneg (show 0 ≤ A.w - 1 / 64 by have := hA.w; grind) (show 0 ≤ 1 - l by grind)
    have := Rat.mul_nonneg (show 0 ≤ D.w - 1 / 64 by have := hD.w; grind) l0
    grind
  have bx : Wi (64 * mixQ A.w D.w l) (mixQ A.x D.x l) := by
    obtain ⟨a1, a2⟩ := hA.x
    obtain ⟨b1, b2⟩ := hD.x
    have := Rat.mul_nonneg (show 0 ≤ 64 * A.w - A.x by grind) (show 0 ≤ 1 - l by grind)
    have := Rat.mul_nonneg (show 0 ≤ 64 * D.w - D.x by grind) l0
    have := Rat.mul_nonneg (show 0 ≤ 64 * A.w + A.x by grind) (show 0 ≤ 1 - l by grind)
    have := Rat.mul_nonneg (show 0 ≤ 64 * D.w + D.x by grind) l0
    unfold mixQ
    exact ⟨by grind, by grind⟩
  have by' : Wi (64 * mixQ A.w D.w l) (mixQ A.y D.y l) := by
    obtain ⟨a1, a2⟩ := hA.y
    obtain ⟨b1, b2⟩ := hD.y
    have := Rat.mul_nonneg (show 0 ≤ 64 * A.w - A.y by grind) (show 0 ≤ 1 - l by grind)
    have := Rat.mul_nonneg (show 0 ≤ 64 * D.w - D.y by grind) l0
    have := Rat.mul_nonneg (show 0 ≤ 64 * A.w + A.y by grind) (show 0 ≤ 1 - l by grind)
    have := Rat.mul_nonneg (show 0 ≤ 64 * D.w + D.y by grind) l0
    unfold mixQ
    exact ⟨by grind, by grind⟩
  have n1 := wi_sq (near1 h0 hb.w w1 bx hx hw)
  have n2 := wi_sq (near1 h0 hb.w w1 by' hy hw)
  have e1 : b.P.far (A.mixT D l).P = (b.x / b.w - mixQ A.x D.x l / mixQ A.w D.w l) * (b.x / b.w - mixQ A.x D.x l / mixQ A.w D.w l) + (b.y / b.w - mixQ A.y D.y l / mixQ A.w D.w l) * (b.y / b.w - mixQ A.y D.y l / mixQ A.w D.w l) := rfl
  rw [e1]
  have k1 : 1572864 * e * (1572864 * e) ≤ 9 / 262144 := by
    have := Rat.mul_nonneg (show 0 ≤ 1 / 268435456 - e by grind) (show 0 ≤ 1 / 268435456 + e by grind)
    grind
  have k2 : 1 / 4096 ≤ tol * tol := by
    have := Rat.mul_nonneg (show 0 ≤ tol - 1 / 64 by grind) (show 0 ≤ tol + 1 / 64 by grind)
    grind
  grind
theorem nr_end0 (a b : PQ) {T : Rat} (h : 0 ≤ T) : Nr a b T a := ⟨0, by grind, by grind, by rw [mix_zero]; unfold PQ.far PQ.dot PQ.sub; simp only; grind⟩
theorem nr_end1 (a b : PQ) {T : Rat} (h : 0 ≤ T) : Nr a b T b := ⟨1, by grind, by grind, by rw [mix_one]; unfold PQ.far PQ.dot PQ.sub; simp only; grind⟩
theorem Cv.flat {e tol : Rat} {v : List HQ} (h : Cv e v) (h0 : 0 ≤ e) (he : e ≤ 1 / 268435456) (ht : 1 / 64 ≤ tol) : flatQ v tol := by
  obtain ⟨hG, hb, hd⟩ := h
  have h2 := hG.2.1; have h4 := hG.2.2
  have hT : 0 ≤ tol * tol := sq_nn tol
  intro x hx
  rw [← nr_ts]
  rcases (by omega : v.length = 2 ∨ v.length = 3 ∨ v.length = 4) with h | h | h
  · obtain ⟨a, b, rfl⟩ := list2 h
    simp at hx
    rcases hx with rfl | rfl
    · exact nr_end0 _ _ hT
    · exact nr_end1 _ _ hT
  · obtain ⟨a, b, c, rfl⟩ := list3 h
    simp at hx
    rcases hx with rfl | rfl | rfl
    · exact nr_end0 _ _ hT
    · obtain ⟨⟨a1, a2⟩, ⟨a3, a4⟩, ⟨a5, a6⟩⟩ := hd.1
      refine near2 (l := 1 / 2) h0 he ht (hb x (by simp)) (hb a (by simp)) (hb c (by simp)) (by grind) (by grind) ⟨?_, ?_⟩ ⟨?_, ?_⟩ ⟨?_, ?_⟩ <;> unfold mixQ <;> grind
    · exact nr_end1 _ _ hT
  · obtain ⟨a, b, c, d, rfl⟩ := list4 h
    simp at hx
    obtain ⟨⟨a1, a2⟩, ⟨a3, a4⟩, ⟨a5, a6⟩⟩ := hd.1
    obtain ⟨⟨b1, b2⟩, ⟨b3, b4⟩, ⟨b5, b6⟩⟩ := hd.2.1
    rcases hx with rfl | rfl | rfl | rfl
    · exact nr_end0 _ _ hT
    · refine near2 (l := 1 / 3) h0 he ht (hb x (by simp)) (hb a (by simp)) (hb d (by simp)) (by grind) (by grind) ⟨?_, ?_⟩ ⟨?_, ?_⟩ ⟨?_, ?_⟩ <;> unfold mixQ <;> grind
    · refine near2 (l := 2 / 3) h0 he ht (hb x (by simp)) (hb a (by simp)) (hb d (by simp)) (by grind) (by grind) ⟨?_, ?_⟩ ⟨?_, ?_⟩ ⟨?_, ?_⟩ <;> unfold mixQ <;> grind
    · exact nr_end1 _ _ hT
end Go.Proofs.YtmhnmaklgcppbaaGreat
namespace Go.Proofs.YtmhnmaklgcppbaaGreat
open Go Go.Proofs
set_option linter.unusedSimpArgs false
set_option linter.unusedVariables false

instance (v : List HQ) (tol : Rat) : Decidable (flatQ v tol) := inferInstanceAs (Decidable (∀ h ∈ v, tsQ h.P (v.headD hQ0).P (v.getLastD hQ0).P ≤ tol * tol))
/-- The points at which the lines of a curve end. -/
def ftree (tol : Rat) : Nat → List HQ → List PQ
  | 0, v => [(v.getLastD hQ0).P]
  | k + 1, v => if flatQ v tol then [(v.getLastD hQ0).P] else ftree tol k (cutL v.length v) ++ ftree tol k (cutR v.length v)
/-- How often it is cut in a row. -/
def fdeep (tol : Rat) : Nat → List HQ → Nat
  | 0, _ => 0
  | k + 1, v => if flatQ v tol then 0 else 1 + max (fdeep tol k (cutL v.length v)) (fdeep tol k (cutR v.length v))
/-- How many parts there are in all. -/
def fnum (tol : Rat) : Nat → List HQ → Nat
  | 0, _ => 1
  | k + 1, v => if flatQ v tol then 1 else 1 + (fnum tol k (cutL v.length v) + fnum tol k (cutR v.length v))
/-- A curve that is cut so often at most. -/
def Tr (tol : Rat) (n : Nat) : Nat → List HQ → Prop
  | 0, v => (GoodC v ∧ ∀ h ∈ v, h.sz ≤ n) ∧ flatQ v tol
  | k + 1, v => (GoodC v ∧ ∀ h ∈ v, h.sz ≤ n) ∧ (¬ flatQ v tol → Tr tol n k (cutL v.length v) ∧ Tr tol n k (cutR v.length v))
theorem Tr.good {tol : Rat} {n k : Nat} {v : List HQ} (h : Tr tol n k v) : GoodC v ∧ ∀ h ∈ v, h.sz ≤ n := by
  cases k <;> exact h.1
theorem fnum_pos (tol : Rat) (k : Nat) (v : List HQ) : 1 ≤ fnum tol k v := by
  cases k with
  | zero => exact Nat.le_refl _
  | succ k => unfold fnum; split <;> omega
theorem ftree_len (tol : Rat) : ∀ (k : Nat) (v : List HQ), (ftree tol k v).length ≤ 2 ^ k
  | 0, v => by simp [ftree]
  | k + 1, v => by
    have h1 := ftree_len tol k (cutL v.length v)
    have h2 := ftree_len tol k (cutR v.length v)
    have := Nat.pow_pos (n := k) (show 0 < 2 by omega)
    rw [Nat.pow_succ]
    unfold ftree
    split
    · simp; omega
    · simp only [List.length_append]; omega

/-- All numbers of a part are whole numbers of one part, none too large. -/
structure Pz (E : Nat) (h : HQ) : Prop where
  x : ∃ z : Int, h.x * (E : Rat) = z
  y : ∃ z : Int, h.y * (E : Rat) = z
  w : ∃ z : Int, h.w * (E : Rat) = z
theorem pz_mid1 {E : Nat} {a b : Rat} (ha : ∃ z : Int, a * (E : Rat) = z) (hb : ∃ z : Int, b * (E : Rat) = z) : ∃ z : Int, midQ a b * ((2 * E : Nat) : Rat) = z := by
  obtain ⟨x, hx⟩ := ha
  obtain ⟨y, hy⟩ := hb
  refine ⟨x + y, ?_⟩
  have e : ((2 * E : Nat) : Rat) = 2 * (E : Rat) := by norm_cast
  have e2 : ((x + y : Int) : Rat) = (x : Rat) + (y : Rat) := by norm_cast
  rw [e, e2, ← hx, ← hy]
  unfold midQ half
  grind
theorem pz_mul1 {E k : Nat} {a : Rat} (ha : ∃ z : Int, a * (E : Rat) = z) : ∃ z : Int, a * ((k * E : Nat) : Rat) = z := by
  obtain ⟨x, hx⟩ := ha
  refine ⟨k * x, ?_⟩
  have e : ((k * E : Nat) : Rat) = (k : Rat) * (E : Rat) := by norm_cast
  have e2 : (((k : Int) * x : Int) : Rat) = (k : Rat) * (x : Rat) := by norm_cast
  rw [e, e2, ← hx]
  grind
theorem Pz.mid {E : Nat} {a b : HQ} (ha : Pz E a) (hb : Pz E b) : Pz (2 * E) (a.mid b) := ⟨pz_mid1 ha.x hb.x, pz_mid1 ha.y hb.y, pz_mid1 ha.w hb.w⟩
theorem Pz.up {E : Nat} {a : HQ} (k : Nat) (ha : Pz E a) : Pz (k * E) a := ⟨pz_mul1 ha.x, pz_mul1 ha.y, pz_mul1 ha.w⟩
theorem mids_mem {Q R : HQ → Prop} (hQ : ∀ a b, Q a → Q b → R (a.mid b)) : ∀ {l : List HQ}, (∀ x ∈ l, Q x) → ∀ x ∈ mids l, R x
  | [], _, x, hx => by simp [mids] at hx
  | [_], _, x, hx => by simp [mids] at hx
  | a :: b :: r, h, x, hx => by
    simp only [mids, List.mem_cons] at hx
    rcases hx with rfl | hx
    · exact hQ a b (h a (by simp)) (h b (by simp))
    · exact mids_mem hQ (l := b :: r) (fun y hy => h y (by simp at hy ⊢; exact .inr hy)) x hx
theorem rowN_pz {E : Nat} {v : List HQ} (h : ∀ x ∈ v, Pz E x) : ∀ i, ∀ x ∈ rowN i v, Pz (2 ^ i * E) x
  | 0 => fun x hx => by have := h x hx; simpa using this
  | i + 1 => fun x hx => by
    have := mids_mem (R := fun x => Pz (2 ^ (i + 1) * E) x) (fun a b ha hb => by have := Pz.mid ha hb; rwa [show 2 ^ (i + 1) * E = 2 * (2 ^ i * E) by rw [Nat.pow_succ]; simp only [Nat.mul_assoc, Nat.mul_left_comm, Nat.mul_comm]]) (rowN_pz h i)
    exact this x hx
theorem cut_pz {E : Nat} {v : List HQ} (hl : v.length ≤ 4) (h : ∀ x ∈ v, Pz E x) : (∀ x ∈ cutL v.length v, Pz (8 * E) x) ∧ ∀ x ∈ cutR v.length v, Pz (8 * E) x := by
  obtain ⟨h1, h2⟩ := cut_mem (l := v) v.length (Nat.le_refl _)
  have key : ∀ i, i < v.length → ∀ x ∈ rowN i v, Pz (8 * E) x := fun i hi x hx => by
    have := rowN_pz h i x hx
    rcases (by omega : i = 0 ∨ i = 1 ∨ i = 2 ∨ i = 3) with rfl | rfl | rfl | rfl
    · have := this.up 8; simpa using this
    · have := this.up 4; rwa [show 4 * (2 ^ 1 * E) = 8 * E by omega] at this
    · have := this.up 2; rwa [show 2 * (2 ^ 2 * E) = 8 * E by omega] at this
    · exact this
  exact ⟨fun x hx => by obtain ⟨i, hi, hh⟩ := h1 x hx; exact key i hi x hh, fun x hx => by obtain ⟨i, hi, hh⟩ := h2 x hx; exact key i hi x hh⟩

theorem den_dvd1 (x : Rat) {E : Nat} (h : x.den ∣ E) : ∃ z : Int, x * (E : Rat) = z := by
  obtain ⟨k, rfl⟩ := h
  refine ⟨x.num * k, ?_⟩
  have e : ((x.den * k : Nat) : Rat) = (x.den : Rat) * (k : Rat) := by norm_cast
  have e2 : ((x.num * (k : Int) : Int) : Rat) = (x.num : Rat) * (k : Rat) := by norm_cast
  rw [e, e2, ← Rat.mul_assoc]
  congr 1
  have h1 := Rat.mkRat_self x
  rw [Rat.mkRat_eq_div] at h1
  have h2 : (x.den : Rat) ≠ 0 := by exact_mod_cast x.den_nz
  generalize (x.den : Rat) = d at *
  generalize (x.num : Rat) = n at *
  grind
/-- One number that all denominators divide. -/
def denE : List HQ → Nat
  | [] => 1
  | h :: r => (h.x.den * h.y.den * h.w.den) * denE r
theorem denE_pz : ∀ (v : List HQ), ∀ h ∈ v, Pz (denE v) h := by
  intro v
  have key : ∀ (v : List HQ), ∀ h ∈ v, (h.x.den * h.y.den * h.w.den) ∣ denE v := by
    intro v
    induction v with
    | nil => simp
    | cons a r ih =>
      intro h hh
      unfold denE
      rcases List.mem_cons.1 hh with rfl | hh
      · exact Nat.dvd_mul_right _ _
      · exact Nat.dvd_trans (ih h hh) (Nat.dvd_mul_left _ _)
  intro h hh
  have hd := key v h hh
  refine ⟨den_dvd1 _ (Nat.dvd_trans ?_ hd), den_dvd1 _ (Nat.dvd_trans ?_ hd), den_dvd1 _ (Nat.dvd_trans ?_ hd)⟩
  · rw [Nat.mul_assoc]; exact Nat.dvd_mul_right _ _
  · rw [Nat.mul_comm h.x.den, Nat.mul_assoc]; exact Nat.dvd_mul_right _ _
  · exact Nat.dvd_mul_left _ _
theorem denE_pos (v : List HQ) : 0 < denE v := by
  induction v with
  | nil => simp [denE]
  | cons a r ih => unfold denE; exact Nat.mul_pos (Nat.mul_pos (Nat.mul_pos a.x.den_pos a.y.den_pos) a.w.den_pos) ih
theorem denE_nl {n : Nat} : ∀ (v : List HQ), (∀ h ∈ v, h.sz ≤ n) → nl (denE v) ≤ 3 * n * v.length + 1
  | [], _ => by simp [denE, nl_one]
  | a :: r, h => by
    have ih := denE_nl r (fun x hx => h x (by simp [hx]))
    have ha := h a (by simp)
    have h1 := a.sz_x; have h2 := a.sz_y; have h3 := a.sz_w
    have k1 := sz_den a.x; have k2 := sz_den a.y; have k3 := sz_den a.w
    have m1 := nl_mul (a.x.den * a.y.den * a.w.den) (denE r)
    have m2 := nl_mul (a.x.den * a.y.den) a.w.den
    have m3 := nl_mul a.x.den a.y.den
    simp only [denE, List.length_cons, Nat.mul_add, Nat.mul_one]
    omega
/-- How large a number is that is a whole number of parts. -/
theorem pz_sz {E : Nat} (hE : 0 < E) {x : Rat} (hx : ∃ z : Int, x * (E : Rat) = z) (hw : Wi 4096 x) : sz x ≤ nl E + 1 := by
  obtain ⟨z, hz⟩ := hx
  have hE0 : (0 : Rat) < (E : Rat) := by exact_mod_cast hE
  have ex : x = mkRat z E := by
    rw [Rat.mkRat_eq_div]
    have : ((z : Int) : Rat) / ((E : Nat) : Rat) * ((E : Nat) : Rat) = z := by grind
    have h2 : (x - ((z : Int) : Rat) / ((E : Nat) : Rat)) * (E : Rat) = 0 := by grind
    rcases Rat.mul_eq_zero.1 h2 with h | h
    · have : ((E : Nat) : Int) = (E : Int) := rfl
      grind
    · exfalso; grind
  have hz2 : z.natAbs ≤ 4096 * E := by
    obtain ⟨h1, h2⟩ := hw
    have n1 := Rat.mul_nonneg (show 0 ≤ 4096 - x by grind) (show (0 : Rat) ≤ E by grind)
    have n2 := Rat.mul_nonneg (show 0 ≤ 4096 + x by grind) (show (0 : Rat) ≤ E by grind)
    have n3 : (z : Rat) ≤ ((4096 * E : Nat) : Int) := by
      rw [← hz]; rw [Rat.intCast_natCast, Rat.natCast_mul]; simp; grind
    have n4 : (((-(4096 * E : Nat) : Int)) : Rat) ≤ (z : Rat) := by
      rw [← hz, Rat.intCast_neg, Rat.intCast_natCast, Rat.natCast_mul]; simp; grind
    rw [Rat.intCast_le_intCast] at n3 n4
    omega
  have h1 : nl z.natAbs ≤ nl E + 1 := by
    have a := nl_mono hz2
    have b := nl_mul 4096 E
    have c : nl 4096 ≤ 1 := nl_le (by omega)
    omega
  rw [ex]
  have := sz_mk z (d := E) (by omega)
  omega
/-- A part's numbers. -/
structure Pb (E : Nat) (h : HQ) : Prop where
  pz : Pz E h
  bx : Bx h
  w : h.w ≤ 64
theorem Pb.sz {E : Nat} (hE : 0 < E) {h : HQ} (hp : Pb E h) : h.sz ≤ nl E + 1 := by
  obtain ⟨⟨a, b, c⟩, ⟨⟨d1, d2⟩, ⟨d3, d4⟩, d5⟩, w⟩ := hp
  have h1 := pz_sz hE a ⟨by grind, by grind⟩
  have h2 := pz_sz hE b ⟨by grind, by grind⟩
  have h3 := pz_sz hE c ⟨by grind, by grind⟩
  unfold HQ.sz
  omega
theorem w_mid {a b : HQ} (ha : a.w ≤ 64) (hb : b.w ≤ 64) : (a.mid b).w ≤ 64 := by unfold HQ.mid midQ half; simp only; grind
theorem rowN_w {v : List HQ} (h : ∀ x ∈ v, x.w ≤ 64) : ∀ i, ∀ x ∈ rowN i v, x.w ≤ 64
  | 0 => h
  | i + 1 => mids_mem (fun a b ha hb => w_mid ha hb) (rowN_w h i)
theorem cut_w {v : List HQ} (h : ∀ x ∈ v, x.w ≤ 64) : (∀ x ∈ cutL v.length v, x.w ≤ 64) ∧ ∀ x ∈ cutR v.length v, x.w ≤ 64 := by
  obtain ⟨h1, h2⟩ := cut_mem (l := v) v.length (Nat.le_refl _)
  exact ⟨fun x hx => by obtain ⟨i, hi, hh⟩ := h1 x hx; exact rowN_w h i x hh, fun x hx => by obtain ⟨i, hi, hh⟩ := h2 x hx; exact rowN_w h i x hh⟩
theorem tr_of {tol : Rat} (ht : 1 / 64 ≤ tol) {n : Nat} : ∀ (k : Nat) {e : Rat} {E : Nat} {v : List HQ}, Cv e v → 0 ≤ e → e ≤ 4 ^ k / 268435456 → 0 < E → (∀ h ∈ v, Pz E h) → (∀ h ∈ v, h.w ≤ 64) → nl (8 ^ k * E) + 1 ≤ n → Tr tol n k v
  | 0, e, E, v, hv, h0, he, hE, hz, hw, hn => ⟨⟨hv.good, fun h hh => Nat.le_trans (Pb.sz hE ⟨hz h hh, hv.box h hh, hw h hh⟩) (by simpa using hn)⟩, hv.flat h0 (by simpa using he) ht⟩
  | k + 1, e, E, v, hv, h0, he, hE, hz, hw, hn => by
    have hm : nl E ≤ nl (8 ^ (k + 1) * E) := nl_mono (Nat.le_mul_of_pos_left _ (Nat.pow_pos (by omega)))
    refine ⟨⟨hv.good, fun h hh => Nat.le_trans (Pb.sz hE ⟨hz h hh, hv.box h hh, hw h hh⟩) (by omega)⟩, fun _ => ?_⟩
    obtain ⟨c1, c2⟩ := hv.cut
    obtain ⟨z1, z2⟩ := cut_pz hv.good.2.2 hz
    obtain ⟨w1, w2⟩ := cut_w hw
    have he' : e / 4 ≤ 4 ^ k / 268435456 := by
      have : (4 : Rat) ^ (k + 1) = 4 ^ k * 4 := by rw [Rat.pow_succ]
      rw [this] at he
      grind
    have hn' : nl (8 ^ k * (8 * E)) + 1 ≤ n := by rw [← Nat.mul_assoc, ← Nat.pow_succ]; exact hn
    exact ⟨tr_of ht k c1 (by grind) he' (by omega) z1 w1 hn', tr_of ht k c2 (by grind) he' (by omega) z2 w2 hn'⟩
theorem d2_of_box {a b c : HQ} (ha : Bx a) (hb : Bx b) (hc : Bx c) (wa : a.w ≤ 64) (wb : b.w ≤ 64) (wc : c.w ≤ 64) : D2 1 a b c := by
  obtain ⟨⟨a1, a2⟩, ⟨a3, a4⟩, a5⟩ := ha
  obtain ⟨⟨b1, b2⟩, ⟨b3, b4⟩, b5⟩ := hb
  obtain ⟨⟨c1, c2⟩, ⟨c3, c4⟩, c5⟩ := hc
  exact ⟨⟨by grind, by grind⟩, ⟨by grind, by grind⟩, ⟨by grind, by grind⟩⟩
theorem cv_of {v : List HQ} (hG : GoodC v) (hb : ∀ h ∈ v, Bx h) (hw : ∀ h ∈ v, h.w ≤ 64) : Cv 1 v := by
  refine ⟨hG, hb, ?_⟩
  clear hG
  match v with
  | [] => trivial
  | [_] => trivial
  | [_, _] => trivial
  | a :: b :: c :: r =>
    have key : ∀ r : List HQ, ∀ b c, (∀ h ∈ b :: c :: r, Bx h) → (∀ h ∈ b :: c :: r, h.w ≤ 64) → d2 1 (b :: c :: r) := by
      intro r
      induction r with
      | nil => intros; trivial
      | cons d r ih =>
        intro b c h1 h2
        exact ⟨d2_of_box (h1 b (by simp)) (h1 c (by simp)) (h1 d (by simp)) (h2 b (by simp)) (h2 c (by simp)) (h2 d (by simp)), ih c d (fun h hh => h1 h (by simp at hh ⊢; exact .inr hh)) (fun h hh => h2 h (by simp at hh ⊢; exact .inr hh))⟩
    exact key (c :: r) a b hb hw
/-- A light curve is cut 14 times in a row at most. -/
theorem tr_light {v : List HQ} {tol : Rat} (hG : GoodC v) (hs : ∀ h ∈ v, h.sz ≤ 4) (hb : ∀ h ∈ v, Bx h) (hw : ∀ h ∈ v, h.w ≤ 64) (ht : 1 / 64 ≤ tol) : Tr tol 51 14 v := by
  refine tr_of ht 14 (E := denE v) (cv_of hG hb hw) (by grind) (by decide +kernel) (denE_pos v) (denE_pz v) hw ?_
  have h1 := denE_nl v hs
  have h2 := hG.2.2
  have h3 := nl_mul (8 ^ 14) (denE v)
  have h4 : nl (8 ^ 14) ≤ 1 := nl_le (by omega)
  have : 3 * 4 * v.length ≤ 48 := by omega
  omega
end Go.Proofs.YtmhnmaklgcppbaaGreat
namespace Go.Proofs.YtmhnmaklgcppbaaGreat
open Go Go.Proofs
set_option linter.unusedSimpArgs false
set_option linter.unusedVariables false
set_option maxRecDepth 20000

/-- The greatest of the first so many. -/
def gmx (l : List Rat) (i : Nat) : Rat := (l.take i).foldl (fun m x => if m < x then x else m) (l.headD 0)
theorem gmx_zero (l : List Rat) : gmx l 0 = l.headD 0 := rfl
theorem gmx_succ {l : List Rat} {i : Nat} (h : i < l.length) : gmx l (i + 1) = if gmx l i < l[i] then l[i] else gmx l i := by
  unfold gmx
  rw [List.take_succ_eq_append_getElem h, List.foldl_append]; rfl
theorem gmx_le {l : List Rat} {T : Rat} (h0 : l ≠ []) : ∀ i, i ≤ l.length → (gmx l i ≤ T ↔ l.headD 0 ≤ T ∧ ∀ x ∈ l.take i, x ≤ T)
  | 0, _ => by simp [gmx]
  | i + 1, hi => by
    have ih := gmx_le h0 (T := T) i (by omega)
    rw [gmx_succ (by omega), List.take_succ_eq_append_getElem (by omega)]
    constructor
    · intro h
      have h1 : gmx l i ≤ T ∧ l[i] ≤ T := by split at h <;> grind
      have h2 := ih.1 h1.1
      refine ⟨h2.1, fun x hx => ?_⟩
      rcases List.mem_append.1 hx with hx | hx
      · exact h2.2 x hx
      · simp at hx; rw [hx]; exact h1.2
    · rintro ⟨h1, h2⟩
      have h3 := ih.2 ⟨h1, fun x hx => h2 x (List.mem_append_left _ hx)⟩
      have h4 := h2 l[i] (List.mem_append_right _ (by simp))
      split <;> assumption
theorem gmx_all {l : List Rat} {T : Rat} (h0 : l ≠ []) : gmx l l.length ≤ T ↔ ∀ x ∈ l, x ≤ T := by
  rw [gmx_le h0 _ (Nat.le_refl _), List.take_length]
  refine ⟨fun h => h.2, fun h => ⟨?_, h⟩⟩
  cases l with
  | nil => exact absurd rfl h0
  | cons a r => exact h a (by simp)
theorem gmx_mem {l : List Rat} (h0 : l ≠ []) : ∀ i, i ≤ l.length → gmx l i ∈ l
  | 0, _ => by
    cases l with
    | nil => exact absurd rfl h0
    | cons a r => simp [gmx]
  | i + 1, hi => by
    rw [gmx_succ (by omega)]
    split
    · exact List.getElem_mem _
    · exact gmx_mem h0 i (by omega)

@[go_sem] theorem roL_rA (l : List Rat) : roL (l.map rA) := roL_map ro_rA
@[go_sem] theorem renL_rA (rn : Nat → Nat) (l : List Rat) : renL rn (l.map rA) = l.map rA := renL_ro rn _ (roL_rA l)
@[go_sem] theorem cloL_rA (n : Nat) (l : List Rat) : cloL n (l.map rA) := cloL_ro _ (roL_rA l)
@[go_sem] theorem fitsL_rA (f : Nat → BS) (l : List Rat) : fitsL f (l.map rA) := fitsL_ro f _ (roL_rA l)
@[go_sem] theorem viewL_rA (f : Nat → BS) (l : List Rat) : viewL f (l.map rA) = l.map rA := viewL_ro f _ (roL_rA l)
theorem getE_rA {l : List Rat} {i : Nat} (h : i < l.length) : getE (l.map rA) (i : Int) = .agg (rC l[i]) := by
  simp [getE, List.getD_eq_getElem?_getD, h, rA_rC]
theorem getE_rA0 {l : List Rat} (h : 0 < l.length) : getE (l.map rA) 0 = .agg (rC l[0]) := getE_rA (i := 0) h

set_option maxHeartbeats 4000000 in
theorem greatest_pure (l : List Rat) (hl : 1 ≤ l.length) (hl2 : l.length ≤ 1048576) (hs : ∀ x ∈ l, sz x ≤ 17179869184) :
    Pure Tryz.prog 190 [.sl 3 false (l.map rA), .fn (.func 24) [] []] (rA (gmx l l.length)) := by
  have h0 : l ≠ [] := fun h => by subst h; simp at hl
  have hc := fun (i : Nat) (h : i < l.length) => rcmpq l[i] (gmx l i) (hs _ (List.getElem_mem h)) (hs _ (gmx_mem h0 i (by omega)))
  have hst := fun (i : Nat) (h : i < l.length) => gmx_succ (l := l) (i := i) h
  have hg0 := getE_rA0 (l := l) (by omega)
  have hgm : gmx l 0 = l[0] := by
    cases l with
    | nil => exact absurd rfl h0
    | cons a r => rfl
  rw [← hgm] at hg0
  simp only [rA_rC] at hc
  rw [rA_rC]
  refine Pure.of_go mixed Tryz.func190 rfl (rs := [.cell 4 46]) rfl (by kernel_rfl) (by simp -implicitDefEqProofs [go_sem, ro_rC]) ?_
  have hlw : IntKind.i64.wrap (l.length : Int) = l.length := w64 (by omega)
  simp -implicitDefEqProofs [go_sem, hg0]
  refine ⟨by omega, ?_⟩
  refine go_loopN 2 (α := {i : Nat // i ≤ l.length}) (fun i => [(0, .sl 3 false (l.map rA)), (1, .fn (.func 24) [] []), (4, .ptr 0 0 0), (5, .ptr 1 0 0), (11, .sl 3 false (l.map rA)), (12, .int .i64 l.length), (13, .int .i64 i.1)])
    (fun i => [(0, .live 3 [.agg [.bool false, .sl 0 true [], .sl 0 true []]]), (1, .live 3 [.agg (rC (gmx l i.1))])]) (fun i => l.length - i.1) ⟨0, Nat.zero_le _⟩ [] (by simp) (fun _ _ _ _ h => h) (by omega) (by simp -implicitDefEqProofs [go_sem, hlw]) (by simp -implicitDefEqProofs [go_sem]) fun ⟨i, hi⟩ => ?_
  simp -implicitDefEqProofs [go_sem]
  refine ⟨fun h5 => ?_, fun h5 => ?_⟩
  · have es : IntKind.i64.wrap ((i : Int) + 1) = (i + 1 : Nat) := by rw [w64 (by omega)]; omega
    have e1 := getE_rA (l := l) (i := i) h5
    have h1 := hc i h5
    have h2 := hst i h5
    generalize l[i] = x at *
    simp -implicitDefEqProofs [go_sem, e1]
    refine ⟨by omega, goC_pure _ h1 (by simp -implicitDefEqProofs [go_sem, ro_rC]) ?_⟩
    by_cases hx : gmx l i < x
    · have h3 : 0 < cmpQ x (gmx l i) := cmpQ_gt.2 hx
      rw [if_pos hx] at h2
      simp -implicitDefEqProofs [go_sem, h3, es]
      refine go_again ⟨i + 1, h5⟩ (by simp only; omega) [] (by simp) (fun _ _ _ _ h => h) (by simp) (by simp -implicitDefEqProofs [go_sem, es]) (by simp -implicitDefEqProofs [go_sem, h2])
    · have h3 : ¬ 0 < cmpQ x (gmx l i) := fun hh => hx (cmpQ_gt.1 hh)
      rw [if_neg hx] at h2
      simp -implicitDefEqProofs [go_sem, h3, es]
      refine go_again ⟨i + 1, h5⟩ (by simp only; omega) [] (by simp) (fun _ _ _ _ h => h) (by simp) (by simp -implicitDefEqProofs [go_sem, es]) (by simp -implicitDefEqProofs [go_sem, h2])
  · have hil : i = l.length := by omega
    subst hil
    simp -implicitDefEqProofs [go_sem, rop]
end Go.Proofs.YtmhnmaklgcppbaaGreat
namespace Go.Proofs.YtmhnmaklgcppbaaGreat
open Go Go.Proofs
set_option linter.unusedSimpArgs false
set_option linter.unusedVariables false
set_option maxRecDepth 20000

theorem lastD_get {v : List HQ} (k : Nat) (hk : k < v.length) (he : k = v.length - 1) : v[k] = v.getLastD hQ0 := by
  subst he
  rw [List.getLastD_eq_getLast?, List.getLast?_eq_getElem?, List.getElem?_eq_getElem (by omega)]; rfl
/-- The squares of how far control points are from the chord. -/
def gapL (v : List HQ) : List Rat := v.map fun h => tsQ h.P (v.headD hQ0).P (v.getLastD hQ0).P
theorem gapL_len (v : List HQ) : (gapL v).length = v.length := by simp [gapL]
theorem gap_flat {v : List HQ} {tol : Rat} (h : v ≠ []) : gmx (gapL v) v.length ≤ tol * tol ↔ flatQ v tol := by
  have h1 : gapL v ≠ [] := by simp [gapL, h]
  rw [← gapL_len v, gmx_all h1]
  unfold gapL flatQ
  simp

set_option maxHeartbeats 8000000 in
theorem gap_pure (l : List HR) (hz : ∀ h ∈ l, h.In 1024) (hG : GoodC (l.map HR.val)) : Pure Tryz.prog 170 [hL l] (.tup [rA (gmx (gapL (l.map HR.val)) l.length), .int .i64 0]) := by
  rw [rA_rC]
  have hg := cgood_pure l (by have := hG.2.2; simp at this; omega) (fun h hh => (hz h hh).w.sm.ok)
  rw [decide_eq_true hG] at hg
  have h2 := hG.2.1; have h4 := hG.2.2
  rw [List.length_map] at h2 h4
  obtain ⟨v, hv⟩ : ∃ v, v = l.map HR.val := ⟨_, rfl⟩
  have hvl : v.length = l.length := by rw [hv, List.length_map]
  obtain ⟨PV, hPV⟩ : ∃ PV, PV = (v.map HQ.P).map pA := ⟨_, rfl⟩
  have hPl : PV.length = l.length := by rw [hPV]; simp [hvl]
  have hPr : ∀ i, roL (PV.take i) := fun i => roL_take (by rw [hPV]; exact roL_pA _)
  obtain ⟨FV, hFV⟩ : ∃ FV, FV = (gapL v).map rA := ⟨_, rfl⟩
  have hFl : FV.length = l.length := by rw [hFV]; simp [gapL_len, hvl]
  have hFr : ∀ i, roL (FV.take i) := fun i => roL_take (by rw [hFV]; exact roL_rA _)
  have hsv : ∀ h ∈ v, h.P.sz ≤ 2048 := fun h hh => by
    rw [hv] at hh
    obtain ⟨x, hx, rfl⟩ := List.mem_map.1 hh
    have := (hz x hx).sz
    have := x.val.sz_P
    omega
  have hgr := greatest_pure (gapL v) (by rw [gapL_len]; omega) (by rw [gapL_len]; omega) (fun x hx => by
    unfold gapL at hx
    obtain ⟨h, hh, rfl⟩ := List.mem_map.1 hx
    have m1 : v.headD hQ0 ∈ v := headD_mem (by omega)
    have m2 : v.getLastD hQ0 ∈ v := lastD_mem (by omega)
    have := sz_tsQ (hsv h hh) (hsv _ m1) (hsv _ m2)
    omega)
  rw [gapL_len, hvl, ← hFV, rA_rC] at hgr
  rw [← hv]
  have hpt : ∀ i (h : i < l.length), Pure Tryz.prog 47 [.agg (l[i]).cs] (.tup [.agg (pC (v[i]'(by omega)).P), .int .i64 0]) := fun i h => by
    have hw : (l[i]).w.val ≠ 0 := by
      have := hG.1 (l[i]).val (List.mem_map.2 ⟨_, List.getElem_mem _, rfl⟩)
      intro hh
      change 0 < (l[i]).w.val at this
      rw [hh] at this
      exact absurd this (by decide)
    have := cpoint_pure l[i] ((hz _ (List.getElem_mem _)).mono) hw
    subst hv
    simpa [HQ.P, HR.val, pA_pC, HR.av_cs] using this
  have hsP : ∀ i (h : i < l.length), PV.take (i + 1) = PV.take i ++ [.agg (pC (v[i]'(by omega)).P)] := fun i h => by
    rw [List.take_succ_eq_append_getElem (by omega)]
    subst hPV; simp [pA_pC]
  have hsF : ∀ i (h : i < l.length), FV.take (i + 1) = FV.take i ++ [.agg (rC (tsQ (v[i]'(by omega)).P (v.headD hQ0).P (v.getLastD hQ0).P))] := fun i h => by
    rw [List.take_succ_eq_append_getElem (by omega)]
    subst hFV; simp [rA_rC, gapL]
  have hts : ∀ i (h : i < l.length), Pure Tryz.prog 53 [.agg (pC (v[i]'(by omega)).P), .agg (pC (v.headD hQ0).P), .agg (pC (v.getLastD hQ0).P)] (.agg (rC (tsQ (v[i]'(by omega)).P (v.headD hQ0).P (v.getLastD hQ0).P))) := fun i h => by
    have m1 : v.headD hQ0 ∈ v := headD_mem (by omega)
    have m2 : v.getLastD hQ0 ∈ v := lastD_mem (by omega)
    have m0 : v[i]'(by omega) ∈ v := List.getElem_mem _
    exact ptosegq _ _ _ (by have := hsv _ m0; omega) (by have := hsv _ m1; omega) (by have := hsv _ m2; omega)
  have hge : ∀ i (h : i < l.length), getE PV (i : Int) = .agg (pC (v[i]'(by omega)).P) := fun i h => by
    subst hPV; rw [getE_pA (by simp [hvl, h])]; simp
  have hge0 : getE PV 0 = .agg (pC (v.headD hQ0).P) := by
    have := hge 0 (by omega)
    have e : v[0]'(by omega) = v.headD hQ0 := by
      cases v with
      | nil => simp at hvl; omega
      | cons a r => rfl
    rw [e] at this; exact this
  obtain ⟨n1, hn1⟩ : ∃ n1, n1 = l.length - 1 := ⟨_, rfl⟩
  have hgel : getE PV (n1 : Int) = .agg (pC (v.getLastD hQ0).P) := by
    have := hge n1 (by omega)
    rw [lastD_get n1 (by omega) (by omega)] at this; exact this
  refine Pure.of_ca (by simp only [ro, roL]; exact ⟨ro_rC _, trivial, trivial⟩) (CA.of_go mixed Tryz.func170 rfl (rs := [.cell 2 46, .tmp 3]) rfl (by kernel_rfl) ?_)
  have hlw : IntKind.i64.wrap (l.length : Int) = l.length := w64 (by omega)
  unfold hL at *
  simp -implicitDefEqProofs [go_sem]
  refine goC_pure _ hg (by simp -implicitDefEqProofs [go_sem]) ?_
  simp -implicitDefEqProofs [go_sem]
  refine go_loopN 2 (α := {i : Nat // i ≤ l.length}) (fun i => [(2, .ptr 0 0 0), (4, apv 6 1 (PV.take i.1)), (16, .sl 9 false (l.map HR.av)), (17, .int .i64 l.length), (18, .int .i64 i.1)])
    (fun i => (0, .live 3 [.agg [.bool false, .sl 0 true [], .sl 0 true []]]) :: apb 6 1 (PV.take i.1)) (fun i => l.length - i.1) ⟨0, Nat.zero_le _⟩ [] (by simp) (fun _ _ _ _ h => h) (by omega) (by simp -implicitDefEqProofs [go_sem, hlw]) (by simp -implicitDefEqProofs [go_sem]) fun ⟨i, hi⟩ => ?_
  have hTl : (PV.take i).length = i := by rw [List.length_take]; omega
  have hb : PV.take i ≠ [] → hp 2 (apb 6 1 (PV.take i)) 1 = .live 6 (PV.take i) := fun h => by rw [apb_ne h]; simp [hp, upd]
  simp -implicitDefEqProofs [go_sem]
  refine ⟨fun h5 => ?_, fun h5 => ?_⟩
  · have es : IntKind.i64.wrap ((i : Int) + 1) = (i + 1 : Nat) := by rw [w64 (by omega)]; omega
    have e1 := getE_cs h5
    have h1 := hpt i h5
    have hsc := hsP i h5
    have hr1 := hPr (i + 1)
    rw [hsc] at hr1
    generalize (v[i]'(by omega)).P = p at *
    simp -implicitDefEqProofs [go_sem, e1]
    refine ⟨by omega, goC_pure _ h1 (by simp -implicitDefEqProofs [go_sem, HR.ro_cs]) ?_⟩
    simp -implicitDefEqProofs [go_sem]
    refine goApS_apv (.inl rfl) (by omega) (by omega) (by simp -implicitDefEqProofs [go_sem]) (by simp [hTl] <;> omega) (by simp -implicitDefEqProofs [go_sem] <;> (intro h; simp [h])) ?_
    simp -implicitDefEqProofs [go_sem, es]
    have hn1 : PV.take (i + 1) ≠ [] := by rw [hsc]; simp
    have r1 := (renL_ro (nm [(1, 5)]) _ hr1).symm
    have r2 := cloL_ro (n := 2) _ hr1
    have hl1 : (PV.take (i + 1)).length = (PV.take i).length + 1 := by rw [hsc]; simp
    refine go_again ⟨i + 1, h5⟩ (by simp only; omega) [(1, 5)] (by simp) (by simp only [apb_ne hn1]; simp [nm]) (by simp) (by simp only [apv_ne hn1, hl1]; simp -implicitDefEqProofs [go_sem, es]) (by simp only [apb_ne hn1, hsc]; simp -implicitDefEqProofs [go_sem, ← r1, r2])
  · have hii : i = l.length := by omega
    have hTV : PV.take i = PV := List.take_of_length_le (by omega)
    have hPn : PV ≠ [] := fun h => by rw [h] at hPl; simp at hPl; omega
    have hPro : roL PV := by have := hPr l.length; rwa [← hPl, List.take_length] at this
    rw [hTV] at hb ⊢
    rw [apv_ne hPn, apb_ne hPn, hPl]
    simp -implicitDefEqProofs [go_sem]
    have eln : IntKind.i64.wrap ((l.length : Int) - 1) = (n1 : Int) := by rw [w64 (by omega)]; omega
    have q1 := (renL_ro (nm []) _ hPro).symm
    have q2 := cloL_ro (n := 3) _ hPro
    have q3 : PV.take l.length = PV := by rw [← hPl]; exact List.take_length
    refine go_loopF 1 6 PV (by simp -implicitDefEqProofs [go_sem]) 3 (α := {i : Nat // i ≤ l.length}) (fun i => [(2, .ptr 0 0 0), (4, .sl 6 false PV), (9, apv 3 2 (FV.take i.1)), (36, .sl 6 false PV), (37, .int .i64 l.length), (38, .int .i64 i.1)])
      (fun i => (0, .live 3 [.agg [.bool false, .sl 0 true [], .sl 0 true []]]) :: apb 3 2 (FV.take i.1)) (fun i => l.length - i.1) ⟨0, Nat.zero_le _⟩ [] (by simp) (fun _ _ _ _ h => h) (by omega) (by simp -implicitDefEqProofs [go_sem, hlw, hPl, q3]; and_intros <;> first | assumption | omega) (by simp -implicitDefEqProofs [go_sem]) fun ⟨i, hi⟩ => ?_
    have hTl : (FV.take i).length = i := by rw [List.length_take]; omega
    have hb : FV.take i ≠ [] → hp 3 (apb 3 2 (FV.take i)) 2 = .live 3 (FV.take i) := fun h => by rw [apb_ne h]; simp [hp, upd]
    simp -implicitDefEqProofs [go_sem, hPl]
    refine ⟨fun h5 => ?_, fun h5 => ?_⟩
    · have es : IntKind.i64.wrap ((i : Int) + 1) = (i + 1 : Nat) := by rw [w64 (by omega)]; omega
      have e1 := hge i h5
      have h1 := hts i h5
      have hsc := hsF i h5
      have hr1 := hFr (i + 1)
      rw [hsc] at hr1
      generalize tsQ (v[i]'(by omega)).P (v.headD hQ0).P (v.getLastD hQ0).P = ts at *
      generalize (v[i]'(by omega)).P = p at *
      generalize (v.headD hQ0).P = p0 at *
      generalize (v.getLastD hQ0).P = pl at *
      have hl0 : 0 < l.length := by omega
      simp -implicitDefEqProofs [go_sem, e1, hge0, hgel, eln, hPl, hPn]
      refine ⟨h5, hl0, by omega, goD_pure _ h1 (by simp -implicitDefEqProofs [go_sem, ro_pC]) ?_⟩
      simp -implicitDefEqProofs [go_sem]
      refine goApS_apv (.inl rfl) (by omega) (by omega) (by simp -implicitDefEqProofs [go_sem]) (by simp [hTl] <;> omega) (by simp -implicitDefEqProofs [go_sem] <;> (intro h; simp [h])) ?_
      simp -implicitDefEqProofs [go_sem, es]
      have hn1 : FV.take (i + 1) ≠ [] := by rw [hsc]; simp
      have r1 := (renL_ro (nm [(2, 17)]) _ hr1).symm
      have r2 := cloL_ro (n := 3) _ hr1
      have r3 := (renL_ro (nm [(2, 17)]) _ hPro).symm
      have hl1 : (FV.take (i + 1)).length = (FV.take i).length + 1 := by rw [hsc]; simp
      refine go_again ⟨i + 1, h5⟩ (by simp only; omega) [(2, 17)] (by simp) (by simp only [apb_ne hn1]; simp [nm]) (by simp) (by simp only [apv_ne hn1, hl1]; simp -implicitDefEqProofs [go_sem, es, ← r3, q2]) (by simp only [apb_ne hn1, hsc]; simp -implicitDefEqProofs [go_sem, ← r1, r2])
    · have hii : i = l.length := by omega
      have hTV : FV.take i = FV := List.take_of_length_le (by omega)
      have hFn : FV ≠ [] := fun h => by rw [h] at hFl; simp at hFl; omega
      have hFro : roL FV := by have := hFr l.length; rwa [← hFl, List.take_length] at this
      have hTV' : FV.take l.length = FV := by rw [← hFl]; exact List.take_length
      rw [hTV] at hb ⊢
      rw [apv_ne hFn, apb_ne hFn, hFl]
      simp -implicitDefEqProofs [go_sem]
      refine goC_dead [2] _ hgr (by simp -implicitDefEqProofs [go_sem, hTV']) (by simp -implicitDefEqProofs [go_sem, hFro]) (by simp -implicitDefEqProofs [go_sem, hFl]) (by simp -implicitDefEqProofs [go_sem]) ?_
      simp -implicitDefEqProofs [go_sem, rop, ro_rC]
      exact Wk.refl _
end Go.Proofs.YtmhnmaklgcppbaaGreat
namespace Go.Proofs.YtmhnmaklgcppbaaGreat
open Go Go.Proofs
set_option linter.unusedSimpArgs false
set_option linter.unusedVariables false
set_option maxRecDepth 20000

set_option maxHeartbeats 4000000 in
theorem fis_pure (l : List HR) (tol : RQ) (hz : ∀ h ∈ l, h.In 1024) (ht : tol.In 1024) (hG : GoodC (l.map HR.val)) (h0 : 0 < tol.val) : Pure Tryz.prog 145 [hL l, tol.av] (.bool (decide (flatQ (l.map HR.val) tol.val))) := by
  have hg := gap_pure l hz hG
  have hs := rsign_pure tol ht.sm.ok
  have hm := rmul_pure tol tol ht.sm ht.sm
  have zt := ht.sz
  have zm := sz_mul tol.val tol.val
  have hne : l.map HR.val ≠ [] := fun h => by have := hG.2.1; rw [h] at this; simp at this
  have hgs : sz (gmx (gapL (l.map HR.val)) l.length) ≤ 1048576 := by
    have hm2 : gapL (l.map HR.val) ≠ [] := by unfold gapL; simpa using hne
    have hmem := gmx_mem hm2 l.length (by rw [gapL_len, List.length_map]; exact Nat.le_refl _)
    unfold gapL at hmem
    obtain ⟨h, hh, e⟩ := List.mem_map.1 hmem
    have hsv : ∀ h ∈ l.map HR.val, h.P.sz ≤ 2048 := fun h hh => by
      obtain ⟨x, hx, rfl⟩ := List.mem_map.1 hh
      have := (hz x hx).sz
      have := x.val.sz_P
      omega
    have hp : 0 < (l.map HR.val).length := by have := hG.2.1; omega
    have := sz_tsQ (hsv h hh) (hsv _ (headD_mem hp)) (hsv _ (lastD_mem hp))
    change sz (gmx (gapL (l.map HR.val)) l.length) ≤ _
    unfold gapL
    rw [← e]
    omega
  have hc := rcmpq (gmx (gapL (l.map HR.val)) l.length) (tol.val * tol.val) (by omega) (by omega)
  have hfl : flatQ (l.map HR.val) tol.val ↔ gmx (gapL (l.map HR.val)) l.length ≤ tol.val * tol.val := by
    rw [← gap_flat hne, List.length_map]
  have hdec : decide (flatQ (l.map HR.val) tol.val) = decide (gmx (gapL (l.map HR.val)) l.length ≤ tol.val * tol.val) := by simp only [hfl]
  rw [hdec]
  generalize gmx (gapL (l.map HR.val)) l.length = g at *
  obtain ⟨ct, hct, t1, t2, t3, t4⟩ : ∃ ct, tol.av = .agg ct ∧ ct.length = 3 ∧ ct.take 3 = ct ∧ ct.drop 3 = [] ∧ roL ct := ⟨_, rfl, rfl, rfl, rfl, rq_cs_ro tol⟩
  have hs0 : 0 ≤ sgnQ tol.val := sgnQ_ge.2 (by grind)
  have hs0' : ¬ sgnQ tol.val < 0 := by omega
  rw [hct] at hs hm ⊢
  simp only [rA_rC] at hg hm hc
  refine Pure.of_go mixed Tryz.func145 rfl (rs := [.tmp 4]) rfl (by kernel_rfl) (by simp -implicitDefEqProofs [go_sem]) ?_
  unfold hL at *
  simp -implicitDefEqProofs [go_sem, t1, t2]
  refine goC_pure _ hg (by simp -implicitDefEqProofs [go_sem]) ?_
  simp -implicitDefEqProofs [go_sem, t1, t2]
  refine goD_pure _ hs (by simp -implicitDefEqProofs [go_sem, t4]) ?_
  simp -implicitDefEqProofs [go_sem, hs0, hs0', t1, t2]
  refine goD_pure _ hm (by simp -implicitDefEqProofs [go_sem, t4]) ?_
  simp -implicitDefEqProofs [go_sem]
  refine goD_pure _ hc (by simp -implicitDefEqProofs [go_sem, ro_rC]) ?_
  by_cases hx : g ≤ tol.val * tol.val
  · have := cmpQ_le.2 hx
    simp -implicitDefEqProofs [go_sem, this, hx]
  · have : ¬ cmpQ g (tol.val * tol.val) ≤ 0 := fun hh => hx (cmpQ_le.1 hh)
    simp -implicitDefEqProofs [go_sem, this, hx]
end Go.Proofs.YtmhnmaklgcppbaaGreat
namespace Go.Proofs.YtmhnmaklgcppbaaGreat
open Go Go.Proofs
set_option linter.unusedSimpArgs false
set_option linter.unusedVariables false
set_option maxRecDepth 20000

/-- A part that is still to be told. -/
def pv (x : List HR × Nat) : AV := .agg [hL x.1, .int .i64 x.2]
theorem ro_pv (x : List HR × Nat) : ro (pv x) := by unfold pv; simp only [ro, roL]; exact ⟨ro_hL _, trivial, trivial⟩
@[go_sem] theorem roL_pv (l : List (List HR × Nat)) : roL (l.map pv) := roL_map ro_pv
theorem fnum_le (tol : Rat) : ∀ (k : Nat) (v : List HQ), fnum tol k v + 1 ≤ 2 ^ (k + 1)
  | 0, v => by simp [fnum]
  | k + 1, v => by
    have h1 := fnum_le tol k (cutL v.length v)
    have h2 := fnum_le tol k (cutR v.length v)
    have := Nat.pow_pos (n := k + 1) (show 0 < 2 by omega)
    rw [Nat.pow_succ]
    unfold fnum
    split <;> omega
/-- What is still to be told: the points, how often cut, how many parts. -/
def sp (tol : Rat) (L : List (List HR × Nat)) : List PQ := (L.reverse.flatMap fun x => ftree tol (14 - x.2) (x.1.map HR.val))
def sd (tol : Rat) : List (List HR × Nat) → Nat
  | [] => 0
  | x :: L => max (if fdeep tol (14 - x.2) (x.1.map HR.val) = 0 then 0 else x.2 + fdeep tol (14 - x.2) (x.1.map HR.val)) (sd tol L)
def sn (tol : Rat) : List (List HR × Nat) → Nat
  | [] => 0
  | x :: L => fnum tol (14 - x.2) (x.1.map HR.val) + sn tol L
theorem sn_app (tol : Rat) (L M : List (List HR × Nat)) : sn tol (L ++ M) = sn tol L + sn tol M := by
  induction L with
  | nil => simp [sn]
  | cons a L ih => simp only [List.cons_append, sn, ih]; omega
theorem sd_app (tol : Rat) (L M : List (List HR × Nat)) : sd tol (L ++ M) = max (sd tol L) (sd tol M) := by
  induction L with
  | nil => simp [sd]
  | cons a L ih => simp only [List.cons_append, sd, ih]; omega
theorem sp_app (tol : Rat) (L M : List (List HR × Nat)) : sp tol (L ++ M) = sp tol M ++ sp tol L := by simp [sp]
theorem sn_len (tol : Rat) (L : List (List HR × Nat)) : L.length ≤ sn tol L := by
  induction L with
  | nil => simp
  | cons a L ih => have := fnum_pos tol (14 - a.2) (a.1.map HR.val); simp only [List.length_cons, sn]; omega
/-- A part that may stand there. -/
def Wo (tol : Rat) (x : List HR × Nat) : Prop := x.2 ≤ 14 ∧ Tr tol 51 (14 - x.2) (x.1.map HR.val) ∧ ∀ h ∈ x.1, h.In 51
theorem wo_flat {tol : Rat} {x : List HR × Nat} (h : Wo tol x) (hf : flatQ (x.1.map HR.val) tol) : ftree tol (14 - x.2) (x.1.map HR.val) = [((x.1.map HR.val).getLastD hQ0).P] ∧ fdeep tol (14 - x.2) (x.1.map HR.val) = 0 ∧ fnum tol (14 - x.2) (x.1.map HR.val) = 1 := by
  cases 14 - x.2 with
  | zero => exact ⟨rfl, rfl, rfl⟩
  | succ k => simp [ftree, fdeep, fnum, hf]
theorem wo_cut {tol : Rat} {x : List HR × Nat} (h : Wo tol x) (hf : ¬ flatQ (x.1.map HR.val) tol) :
    let v := x.1.map HR.val
    let a : List HR × Nat := ((cutL v.length v).map hc, x.2 + 1)
    let b : List HR × Nat := ((cutR v.length v).map hc, x.2 + 1)
    Wo tol a ∧ Wo tol b ∧ sp tol [x] = sp tol [b, a] ∧ sd tol [x] = max (x.2 + 1) (sd tol [b, a]) ∧ sn tol [x] = 1 + sn tol [b, a] := by
  intro v a b
  obtain ⟨h1, h2, h3⟩ := h
  have hlt : x.2 < 14 := by
    rcases Nat.lt_or_ge x.2 14 with h | h
    · exact h
    · have e : 14 - x.2 = 0 := by omega
      rw [e] at h2
      exact absurd h2.2 hf
  have e : 14 - x.2 = (14 - (x.2 + 1)) + 1 := by omega
  rw [e] at h2
  obtain ⟨t1, t2⟩ := h2.2 hf
  have ca : a.1.map HR.val = cutL v.length v := map_hc_val _
  have cb : b.1.map HR.val = cutR v.length v := map_hc_val _
  refine ⟨⟨by simp only [a]; omega, by rw [ca]; exact t1, fun h hh => ?_⟩, ⟨by simp only [b]; omega, by rw [cb]; exact t2, fun h hh => ?_⟩, ?_, ?_, ?_⟩
  · simp only [a] at hh
    obtain ⟨y, hy, rfl⟩ := List.mem_map.1 hh
    exact hc_in (t1.good.2 y hy)
  · simp only [b] at hh
    obtain ⟨y, hy, rfl⟩ := List.mem_map.1 hh
    exact hc_in (t2.good.2 y hy)
  · simp only [sp, List.reverse_cons, List.reverse_nil, List.nil_append, List.flatMap_cons, List.flatMap_nil, List.append_nil, List.singleton_append, List.cons_append]
    rw [ca, cb, e]
    simp only [a, b]
    conv => lhs; unfold ftree
    rw [if_neg hf]
  · simp only [sd]
    rw [ca, cb, e]
    simp only [a, b]
    have hfd : fdeep tol (14 - (x.2 + 1) + 1) (x.1.map HR.val) = 1 + max (fdeep tol (14 - (x.2 + 1)) (cutL v.length v)) (fdeep tol (14 - (x.2 + 1)) (cutR v.length v)) := by
      conv => lhs; unfold fdeep
      rw [if_neg hf]
    rw [hfd, if_neg (by omega)]
    generalize fdeep tol (14 - (x.2 + 1)) (cutL v.length v) = p
    generalize fdeep tol (14 - (x.2 + 1)) (cutR v.length v) = q
    split <;> split <;> omega
  · simp only [sn]
    rw [ca, cb, e]
    simp only [a, b]
    have hfn : fnum tol (14 - (x.2 + 1) + 1) (x.1.map HR.val) = 1 + (fnum tol (14 - (x.2 + 1)) (cutL v.length v) + fnum tol (14 - (x.2 + 1)) (cutR v.length v)) := by
      conv => lhs; unfold fnum
      rw [if_neg hf]
    rw [hfn]
    omega

/-- Where the walk stands. -/
structure Ws (tol : Rat) (S : List PQ) (D : Nat) (L : List (List HR × Nat)) (J : List AV) (o : List PQ) (dp : Nat) : Prop where
  wo : ∀ x ∈ L, Wo tol x
  out : o ++ sp tol L = S
  deep : max dp (sd tol L) = D
  num : sn tol L ≤ 32768
  one : 1 ≤ o.length
  few : S.length ≤ 16385
  ro : roL J

set_option maxHeartbeats 8000000 in
theorem fwalk_pure (l : List HR) (tol : RQ) (hz : ∀ h ∈ l, h.In 51) (ht : tol.In 1024) (h0 : 0 < tol.val) (hT : Tr tol.val 51 14 (l.map HR.val)) :
    Pure Tryz.prog 108 [hL l, tol.av] (.tup [pL (((l.map HR.val).headD hQ0).P :: ftree tol.val 14 (l.map HR.val)), .int .i64 (fdeep tol.val 14 (l.map HR.val)), .int .i64 0]) := by
  have hG := hT.good.1
  have h2 := hG.2.1; have h4 := hG.2.2
  rw [List.length_map] at h2 h4
  have hg := cgood_pure l (by omega) (fun h hh => (hz h hh).w.sm.ok)
  rw [decide_eq_true hG] at hg
  have hs := rsign_pure tol ht.sm.ok
  have hs0 : ¬ sgnQ tol.val ≤ 0 := fun hh => by have := sgnQ_le.1 hh; grind
  have hwp : ∀ (x : List HR) (i : Nat) (hi : i < x.length), (∀ h ∈ x, h.In 51) → GoodC (x.map HR.val) → Pure Tryz.prog 47 [.agg (x[i]).cs] (.tup [.agg (pC ((x.map HR.val)[i]'(by simpa using hi)).P), .int .i64 0]) := fun x i hi hx hxG => by
    have hw : (x[i]).w.val ≠ 0 := by
      have := hxG.1 (x[i]).val (List.mem_map.2 ⟨_, List.getElem_mem _, rfl⟩)
      intro hh
      change 0 < (x[i]).w.val at this
      rw [hh] at this
      exact absurd this (by decide)
    have := cpoint_pure x[i] ((hx _ (List.getElem_mem _)).mono) hw
    simpa [HQ.P, HR.val, pA_pC, HR.av_cs] using this
  have hp0 := hwp l 0 (by omega) hz hG
  have ehd : (l.map HR.val)[0]'(by simp; omega) = (l.map HR.val).headD hQ0 := by
    cases l with
    | nil => simp at h2
    | cons a r => rfl
  rw [ehd] at hp0
  have hge0 := getE_cs0 (l := l) (by omega)
  have his := fun (x : List HR) (hx : ∀ h ∈ x, h.In 51) (hxG : GoodC (x.map HR.val)) => fis_pure x tol (fun h hh => (hx h hh).mono) ht hxG h0
  obtain ⟨S, hS⟩ : ∃ S, S = ((l.map HR.val).headD hQ0).P :: ftree tol.val 14 (l.map HR.val) := ⟨_, rfl⟩
  obtain ⟨D, hD⟩ : ∃ D, D = fdeep tol.val 14 (l.map HR.val) := ⟨_, rfl⟩
  have hw0 : Ws tol.val S D [(l, 0)] [] [((l.map HR.val).headD hQ0).P] 0 := by
    refine ⟨fun x hx => ?_, ?_, ?_, ?_, by simp, ?_, trivial⟩
    · simp at hx; subst hx; exact ⟨by simp, hT, hz⟩
    · rw [hS]; simp [sp]
    · rw [hD]; simp only [sd, Nat.sub_zero]; split <;> omega
    · have := fnum_le tol.val 14 (l.map HR.val); simp [sn]; omega
    · have := ftree_len tol.val 14 (l.map HR.val); rw [hS]; simp; omega
  rw [← hS, ← hD]
  generalize ((l.map HR.val).headD hQ0).P = P0 at *
  clear hS hD ehd
  obtain ⟨ct, hct, t1, t2, t3, t4⟩ : ∃ ct, tol.av = .agg ct ∧ ct.length = 3 ∧ ct.take 3 = ct ∧ ct.drop 3 = [] ∧ roL ct := ⟨_, rfl, rfl, rfl, rfl, rq_cs_ro tol⟩
  rw [hct] at hs ⊢
  simp only [hct] at his
  have hgoal : pL S = .sl 6 false (S.map pA) := rfl
  refine Pure.of_ca (by simp only [ro, roL]; exact ⟨ro_pL _, trivial, trivial, trivial⟩) (CA.of_go mixed Tryz.func108 rfl (rs := [.tmp 4, .tmp 5, .tmp 6]) rfl (by kernel_rfl) ?_)
  have hro := ro_hL l
  have x1 := (renL_ro (nm []) _ t4).symm
  have x2 := cloL_ro (n := 4) _ t4
  unfold hL at hg hro ⊢
  simp -implicitDefEqProofs [go_sem, t1, t2]
  refine goC_pure _ hg (by simp -implicitDefEqProofs [go_sem]) ?_
  simp -implicitDefEqProofs [go_sem, t1, t2]
  refine goC_pure _ hs (by simp -implicitDefEqProofs [go_sem, t4]) ?_
  simp -implicitDefEqProofs [go_sem, hs0, hge0]
  refine ⟨by omega, goC_pure _ hp0 (by simp -implicitDefEqProofs [go_sem, HR.ro_cs]) ?_⟩
  simp -implicitDefEqProofs [go_sem]
  refine go_loopN 4 (α := {s : List (List HR × Nat) × List AV × List PQ × Nat // Ws tol.val S D s.1 s.2.1 s.2.2.1 s.2.2.2}) (fun s => [(3, .ptr 0 0 0), (9, .own 6 2 0 s.1.2.2.1.length), (10, .int .i64 s.1.2.2.2), (11, .own 2 3 0 s.1.1.length)])
    (fun s => [(0, .live 3 [.agg ct]), (2, .live 6 (s.1.2.2.1.map pA)), (3, .live 2 (s.1.1.map pv ++ s.1.2.1))]) (fun s => sn tol.val s.1.1) ⟨([(l, 0)], [], [P0], 0), hw0⟩ [] (by simp) (by simp [nm]) (by omega) (by simp -implicitDefEqProofs [go_sem]) (by simp -implicitDefEqProofs [go_sem, pv, hL, pA_pC]; exact ⟨x1, x2⟩) fun ⟨⟨L, J, o, dp⟩, hw⟩ => ?_
  simp only at hw ⊢
  obtain ⟨w1, w2, w3, w4, w5, w6, w7⟩ := hw
  have hol : o.length ≤ 16385 := by have := congrArg List.length w2; simp only [List.length_append] at this; omega
  have hor : roL (o.map pA) := roL_pA _
  have hLn := sn_len tol.val L
  have hcs : L = [] ∨ ∃ L' x, L = L' ++ [x] := by
    rcases List.eq_nil_or_concat L with h | ⟨L', x, h⟩
    · exact .inl h
    · exact .inr ⟨L', x, by rw [h, List.concat_eq_append]⟩
  rcases hcs with rfl | ⟨L', x, rfl⟩
  · have eS : o = S := by simpa [sp] using w2
    have eD : dp = D := by simpa [sd] using w3
    have et : (o.map pA).take o.length = o.map pA := List.take_of_length_le (by simp)
    subst eS eD
    simp -implicitDefEqProofs [go_sem, et, pL]
    exact Wk.refl _
  · obtain ⟨l', dx⟩ := x
    obtain ⟨v1, v2, v3⟩ := w1 (l', dx) (by simp)
    have hfl := wo_flat (w1 (l', dx) (by simp))
    have hct' := wo_cut (w1 (l', dx) (by simp))
    simp only at v1 v2 v3 hfl hct'
    have hG' := v2.good.1
    have hi' := his l' v3 hG'
    have hcp := cut_pure l' (fun h hh => (v3 h hh).mono) hG'
    have g2 := hG'.2.1; have g4 := hG'.2.2
    rw [List.length_map] at g2 g4
    obtain ⟨n2, hn2⟩ : ∃ n2, n2 = l'.length - 1 := ⟨_, rfl⟩
    have hpl := hwp l' n2 (by omega) v3 hG'
    rw [lastD_get n2 (by simp; omega) (by simp; omega)] at hpl
    have hgl := getE_cs (l := l') (i := n2) (by omega)
    have e2 : IntKind.i64.wrap ((l'.length : Int) - 1) = (n2 : Int) := by rw [w64 (by omega)]; omega
    have eL : IntKind.i64.wrap (L'.length : Int) = L'.length := by
      simp only [List.length_append, List.length_singleton] at hLn
      exact w64 (by omega)
    obtain ⟨M, hM⟩ : ∃ M, M = (L' ++ [(l', dx)]).map pv ++ J := ⟨_, rfl⟩
    have hMl : L'.length < M.length := by rw [hM]; simp
    have hMx : M[L'.length]'hMl = pv (l', dx) := by
      subst hM; simp
    have hMt : M.take L'.length = L'.map pv := by rw [hM]; simp
    rw [← hM]
    have hro' := ro_hL l'
    unfold pv hL at hMx
    have hqL : ∀ w : List HQ, qL w = .sl 9 false (w.map hA) := fun w => rfl
    rw [hqL, hqL] at hcp
    have hcA : ∀ w : List HQ, w.map hA = (w.map hc).map HR.av := fun w => by rw [List.map_map]; rfl
    rw [hcA, hcA] at hcp
    unfold hL at hi' hcp hro'
    simp only at hMx
    have hpr : roL (L'.map pv) := roL_pv _
    simp -implicitDefEqProofs [go_sem, eL, hMx, hMl, t1, t2]
    refine ⟨by omega, by omega, goC_pure _ hi' (by simp -implicitDefEqProofs [go_sem, t4]) ?_⟩
    by_cases hf : flatQ (l'.map HR.val) tol.val
    · obtain ⟨f1, f2, f3⟩ := hfl hf
      clear hct' hcp
      have n1 : ¬ 1048576 ≤ (o.length : Int) := by omega
      simp -implicitDefEqProofs [go_sem, hf, n1, e2, hgl]
      refine ⟨by omega, goC_pure _ hpl (by simp -implicitDefEqProofs [go_sem, HR.ro_cs]) ?_⟩
      have hw' : Ws tol.val S D L' (pv (l', dx) :: J) (o ++ [((l'.map HR.val).getLastD hQ0).P]) dp := by
        refine ⟨fun x hx => w1 x (by simp [hx]), ?_, ?_, ?_, by simp, w6, ?_⟩
        · rw [← w2, sp_app]
          have : sp tol.val [(l', dx)] = [((l'.map HR.val).getLastD hQ0).P] := by simp [sp, f1]
          rw [this, List.append_assoc]
        · rw [← w3, sd_app]
          have : sd tol.val [(l', dx)] = 0 := by simp [sd, f2]
          rw [this]; simp
        · have := sn_app tol.val L' [(l', dx)]; omega
        · simp only [roL]; exact ⟨ro_pv _, w7⟩
      have hn : sn tol.val L' < sn tol.val (L' ++ [(l', dx)]) := by
        rw [sn_app]
        have := fnum_pos tol.val (14 - dx) (l'.map HR.val)
        simp only [sn]; omega
      have hMe : M = L'.map pv ++ pv (l', dx) :: J := by rw [hM]; simp
      have hMr : roL M := by rw [hMe]; exact roL_append.2 ⟨roL_pv _, by simp only [roL]; exact ⟨ro_pv _, w7⟩⟩
      generalize ((l'.map HR.val).getLastD hQ0).P = p at *
      have hor' : roL ((o ++ [p]).map pA) := roL_pA _
      have heo : (o ++ [p]).map pA = o.map pA ++ [.agg (pC p)] := by simp [pA_pC]
      have het : (o.map pA).take o.length = o.map pA := List.take_of_length_le (by simp)
      rw [heo] at hor'
      have z1 := (renL_ro (nm [(2, 7)]) _ hor').symm
      have z2 := cloL_ro (n := 4) _ hor'
      have z3 := (renL_ro (nm [(2, 7)]) _ hMr).symm
      have z4 := cloL_ro (n := 4) _ hMr
      have z5 := (renL_ro (nm [(2, 7)]) _ t4).symm
      simp -implicitDefEqProofs [go_sem, het]
      refine ⟨by omega, ?_⟩
      refine go_again ⟨(L', pv (l', dx) :: J, o ++ [p], dp), hw'⟩ hn [(2, 7)] (by simp) (by simp [nm]) (by simp) (by simp -implicitDefEqProofs [go_sem]) (by simp only [heo, ← hMe]; simp -implicitDefEqProofs [go_sem, ← z1, z2, ← z3, z4, ← z5, x2])
    · obtain ⟨c1, c2, c3, c4, c5⟩ := hct' hf
      clear hfl
      have n1 : ¬ 64 ≤ (dx : Int) := by omega
      have edx : IntKind.i64.wrap ((dx : Int) + 1) = (dx + 1 : Nat) := by rw [w64 (by omega)]; omega
      simp -implicitDefEqProofs [go_sem, hf, n1]
      rw [List.length_map] at c1 c2 c3 c4 c5
      have hw' : Ws tol.val S D (L' ++ [((cutR l'.length (l'.map HR.val)).map hc, dx + 1), ((cutL l'.length (l'.map HR.val)).map hc, dx + 1)]) [] o (max dp (dx + 1)) := by
        refine ⟨fun x hx => ?_, ?_, ?_, ?_, w5, w6, trivial⟩
        · simp only [List.mem_append, List.mem_cons, List.not_mem_nil, or_false] at hx
          rcases hx with hx | rfl | rfl
          · exact w1 x (by simp [hx])
          · exact c2
          · exact c1
        · rw [← w2, sp_app, sp_app, c3]
        · rw [← w3, sd_app, sd_app, c4]; omega
        · have h1 := sn_app tol.val L' [(l', dx)]
          have h2 := sn_app tol.val L' [((cutR l'.length (l'.map HR.val)).map hc, dx + 1), ((cutL l'.length (l'.map HR.val)).map hc, dx + 1)]
          omega
      have hn : sn tol.val (L' ++ [((cutR l'.length (l'.map HR.val)).map hc, dx + 1), ((cutL l'.length (l'.map HR.val)).map hc, dx + 1)]) < sn tol.val (L' ++ [(l', dx)]) := by
        rw [sn_app, sn_app, c5]; omega
      clear c1 c2 c3 c4 c5
      generalize (cutL l'.length (l'.map HR.val)).map hc = A at *
      generalize (cutR l'.length (l'.map HR.val)).map hc = B at *
      have hLb : L'.length ≤ 32768 := by simp only [List.length_append, List.length_singleton] at hLn; omega
      have hMn : (L' ++ [(B, dx + 1), (A, dx + 1)]).map pv = L'.map pv ++ [.agg [.sl 9 false (B.map HR.av), .int .i64 (dx + 1 : Nat)], .agg [.sl 9 false (A.map HR.av), .int .i64 (dx + 1 : Nat)]] := by simp [pv, hL]
      have hMr : roL ((L' ++ [(B, dx + 1), (A, dx + 1)]).map pv) := roL_pv _
      rw [hMn] at hMr
      have z1 := (renL_ro (nm [(3, 6)]) _ hor).symm
      have z2 := cloL_ro (n := 4) _ hor
      have z3 := (renL_ro (nm [(3, 6)]) _ hMr).symm
      have z4 := cloL_ro (n := 4) _ hMr
      have z5 := (renL_ro (nm [(3, 6)]) _ t4).symm
      refine goC_pure _ hcp (by simp -implicitDefEqProofs [go_sem]) ?_
      simp -implicitDefEqProofs [go_sem, edx, hMt]
      refine ⟨by omega, by omega, ?_⟩
      refine go_again ⟨(L' ++ [(B, dx + 1), (A, dx + 1)], [], o, max dp (dx + 1)), hw'⟩ hn [(3, 6)] (by simp) (by simp [nm]) (by simp) (by simp -implicitDefEqProofs [go_sem]; split <;> omega) (by simp only [hMn, List.append_nil]; simp -implicitDefEqProofs [go_sem, ← z1, z2, ← z3, z4, ← z5, x2]; exact ⟨(renL_ro _ _ hpr).symm, cloL_ro _ hpr⟩)
end Go.Proofs.YtmhnmaklgcppbaaGreat
namespace Go.Proofs.YtmhnmaklgcppbaaGreat
open Go Go.Proofs
set_option linter.unusedSimpArgs false
set_option linter.unusedVariables false
set_option maxRecDepth 20000

/-- The points, how often it was cut in a row, the error. -/
def fcv (v : List HQ) (tol : Rat) : List PQ × Nat × Int :=
  if ¬ GoodC v then ([], 0, 11) else if tol ≤ 0 then ([], 0, 1) else ((v.headD hQ0).P :: ftree tol 14 v, fdeep tol 14 v, 0)
def fcvA (r : List PQ × Nat × Int) : AV := .tup [pL r.1, .int .i64 r.2.1, .int .i64 r.2.2]
theorem wk_nil2 (a b : AV) : Wk (.tup [.sl 0 true [], a, b]) (.tup [pL [], a, b]) := Wk.tup (.cons (Wk.nil 0 6 true) (WkL.refl _))
theorem wk_nil1 (a : AV) : Wk (.tup [.sl 0 true [], a]) (.tup [pL [], a]) := Wk.tup (.cons (Wk.nil 0 6 true) (WkL.refl _))
theorem fwalk_all (l : List HR) (tol : RQ) (hl : l.length < 1099511627776) (hz : ∀ h ∈ l, h.In 51) (ht : tol.In 1024) (hT : GoodC (l.map HR.val) → 0 < tol.val → Tr tol.val 51 14 (l.map HR.val)) :
    Pure Tryz.prog 108 [hL l, tol.av] (fcvA (fcv (l.map HR.val) tol.val)) := by
  unfold fcv
  by_cases hG : GoodC (l.map HR.val)
  · rw [if_neg (not_not_intro hG)]
    by_cases h0 : tol.val ≤ 0
    · rw [if_pos h0]
      have hg := cgood_pure l hl (fun h hh => (hz h hh).w.sm.ok)
      rw [decide_eq_true hG] at hg
      have hs := rsign_pure tol ht.sm.ok
      have hs0 : sgnQ tol.val ≤ 0 := sgnQ_le.2 h0
      refine Pure.weaken (r := .tup [.sl 0 true [], .int .i64 0, .int .i64 1]) ?_ (wk_nil2 _ _)
      refine Pure.of_go mixed Tryz.func108 rfl (rs := [.tmp 4, .tmp 5, .tmp 6]) rfl (by kernel_rfl) (by simp -implicitDefEqProofs [go_sem]) ?_
      obtain ⟨ct, hct, t1, t2, t3, t4⟩ : ∃ ct, tol.av = .agg ct ∧ ct.length = 3 ∧ ct.take 3 = ct ∧ ct.drop 3 = [] ∧ roL ct := ⟨_, rfl, rfl, rfl, rfl, rq_cs_ro tol⟩
      rw [hct] at hs ⊢
      unfold hL at *
      simp -implicitDefEqProofs [go_sem, t1, t2]
      refine goC_pure _ hg (by simp -implicitDefEqProofs [go_sem]) ?_
      simp -implicitDefEqProofs [go_sem, t1, t2]
      refine goC_pure _ hs (by simp -implicitDefEqProofs [go_sem, t4]) ?_
      simp -implicitDefEqProofs [go_sem, hs0]
    · rw [if_neg h0]
      exact fwalk_pure l tol hz ht (by grind) (hT hG (by grind))
  · rw [if_pos hG]
    have hg := cgood_pure l hl (fun h hh => (hz h hh).w.sm.ok)
    rw [decide_eq_false hG] at hg
    refine Pure.weaken (r := .tup [.sl 0 true [], .int .i64 0, .int .i64 11]) ?_ (wk_nil2 _ _)
    refine Pure.of_go mixed Tryz.func108 rfl (rs := [.tmp 4, .tmp 5, .tmp 6]) rfl (by kernel_rfl) (by simp -implicitDefEqProofs [go_sem]) ?_
    unfold hL at *
    unfold RQ.av
    simp -implicitDefEqProofs [go_sem]
    refine goC_pure _ hg (by simp -implicitDefEqProofs [go_sem]) ?_
    simp -implicitDefEqProofs [go_sem]
theorem fcurve_pure (l : List HR) (tol : RQ) (hl : l.length < 1099511627776) (hz : ∀ h ∈ l, h.In 51) (ht : tol.In 1024) (hT : GoodC (l.map HR.val) → 0 < tol.val → Tr tol.val 51 14 (l.map HR.val)) :
    Pure Tryz.prog 57 [hL l, tol.av] (.tup [pL (fcv (l.map HR.val) tol.val).1, .int .i64 (fcv (l.map HR.val) tol.val).2.2]) := by
  have h := fwalk_all l tol hl hz ht hT
  refine Pure.of_go mixed Tryz.func57 rfl (rs := [.tmp 4, .tmp 5]) rfl (by kernel_rfl) (by simp only [ro, roL]; exact ⟨ro_pL _, trivial, trivial⟩) ?_
  generalize fcv (l.map HR.val) tol.val = r at *
  unfold hL fcvA pL RQ.av at *
  simp -implicitDefEqProofs [go_sem]
  refine goC_pure _ h (by simp -implicitDefEqProofs [go_sem]) ?_
  simp -implicitDefEqProofs [go_sem]
theorem fdeep_pure (l : List HR) (tol : RQ) (hl : l.length < 1099511627776) (hz : ∀ h ∈ l, h.In 51) (ht : tol.In 1024) (hT : GoodC (l.map HR.val) → 0 < tol.val → Tr tol.val 51 14 (l.map HR.val)) :
    Pure Tryz.prog 58 [hL l, tol.av] (.tup [.int .i64 (fcv (l.map HR.val) tol.val).2.1, .int .i64 (fcv (l.map HR.val) tol.val).2.2]) := by
  have h := fwalk_all l tol hl hz ht hT
  refine Pure.of_go mixed Tryz.func58 rfl (rs := [.tmp 4, .tmp 5]) rfl (by kernel_rfl) (by simp -implicitDefEqProofs [go_sem]) ?_
  generalize fcv (l.map HR.val) tol.val = r at *
  unfold hL fcvA pL RQ.av at *
  simp -implicitDefEqProofs [go_sem]
  refine goC_pure _ h (by simp -implicitDefEqProofs [go_sem]) ?_
  simp -implicitDefEqProofs [go_sem]
end Go.Proofs.YtmhnmaklgcppbaaGreat
namespace Go.Proofs.YtmhnmaklgcppbaaGreat
open Go Go.Proofs
set_option linter.unusedSimpArgs false
set_option linter.unusedVariables false
set_option maxRecDepth 20000

/-- The cells of a point with its weight, of the reference. -/
def gC (h : HQ) : List AV := [.bool (decide (h.x.num < 0)), qA h.x.num.natAbs, qA h.x.den, .bool (decide (h.y.num < 0)), qA h.y.num.natAbs, qA h.y.den, .bool (decide (h.w.num < 0)), qA h.w.num.natAbs, qA h.w.den]
theorem gA_gC (h : HQ) : gA h = .agg (gC h) := rfl
@[go_sem] theorem gC_len (h : HQ) : (gC h).length = 9 := rfl
@[go_sem] theorem gC_take (h : HQ) : (gC h).take 9 = gC h := rfl
@[go_sem] theorem gC_drop (h : HQ) : (gC h).drop 9 = [] := rfl
@[go_sem] theorem gC_x (h : HQ) : (gC h).take 3 = fC h.x := rfl
@[go_sem] theorem gC_y (h : HQ) : ((gC h).drop 3).take 3 = fC h.y := rfl
@[go_sem] theorem gC_w (h : HQ) : ((gC h).drop 6).take 3 = fC h.w := rfl
@[go_sem] theorem gC_w' (h : HQ) : (gC h).drop 6 = fC h.w := rfl
theorem ro_gC (h : HQ) : roL (gC h) := by have := ro_gA h; rw [gA_gC] at this; simpa only [ro] using this
@[go_sem] theorem clo_gC (n : Nat) (h : HQ) : cloL n (gC h) := cloL_ro _ (ro_gC h)
@[go_sem] theorem ren_gC (rn : Nat → Nat) (h : HQ) : renL rn (gC h) = gC h := renL_ro rn _ (ro_gC h)
@[go_sem] theorem fits_gC (f : Nat → BS) (h : HQ) : fitsL f (gC h) := fitsL_ro f _ (ro_gC h)
@[go_sem] theorem view_gC (f : Nat → BS) (h : HQ) : viewL f (gC h) = gC h := viewL_ro f _ (ro_gC h)
theorem getE_gC {l : List HQ} {i : Nat} (h : i < l.length) : getE (l.map gA) (i : Int) = .agg (gC l[i]) := getE_gA h
theorem getE_gC0 {l : List HQ} (h : 0 < l.length) : getE (l.map gA) 0 = .agg (gC l[0]) := getE_gC (i := 0) h

theorem gpoint_pure (h : HQ) (hs : h.sz ≤ 1073741824) (h0 : h.w ≠ 0) : Pure Tryz.prog 106 [gA h] (eA h.P) := by
  have z1 := h.sz_x; have z2 := h.sz_y; have z3 := h.sz_w
  have h1 := fdiv_pure h.x h.w (by omega) (by omega) h0
  have h2 := fdiv_pure h.y h.w (by omega) (by omega) h0
  simp only [gA_gC, eA_eC, fA_fC] at *
  refine Pure.of_go mixed Tryz.func106 rfl (rs := [.cell 2 61]) rfl (by kernel_rfl) (by simp -implicitDefEqProofs [go_sem, ro_eC]) ?_
  simp -implicitDefEqProofs [go_sem]
  refine goD_pure _ h1 (by simp -implicitDefEqProofs [go_sem, ro_fC]) ?_
  simp -implicitDefEqProofs [go_sem]
  refine goD_pure _ h2 (by simp -implicitDefEqProofs [go_sem, ro_fC]) ?_
  simp -implicitDefEqProofs [go_sem, rop, HQ.P]
theorem esame_pure (p q : PQ) (hp : p.sz ≤ 17179869184) (hq : q.sz ≤ 17179869184) : Pure Tryz.prog 200 [eA p, eA q] (.bool (decide (p = q))) := by
  obtain ⟨p1, p2⟩ := e_parts p hp
  obtain ⟨q1, q2⟩ := e_parts q hq
  have h1 := fcmp_pure p.x q.x p1 q1
  have h2 := fcmp_pure p.y q.y p2 q2
  have e1 : cmpQ p.x q.x = 0 ↔ p.x = q.x := by
    have a := @cmpQ_lt p.x q.x; have b := @cmpQ_gt p.x q.x
    constructor
    · intro h; have : ¬ p.x < q.x := fun hh => by have := a.2 hh; omega
      have : ¬ q.x < p.x := fun hh => by have := b.2 hh; omega
      grind
    · intro h; have : ¬ cmpQ p.x q.x < 0 := fun hh => by have := a.1 hh; grind
      have : ¬ 0 < cmpQ p.x q.x := fun hh => by have := b.1 hh; grind
      omega
  have e2 : cmpQ p.y q.y = 0 ↔ p.y = q.y := by
    have a := @cmpQ_lt p.y q.y; have b := @cmpQ_gt p.y q.y
    constructor
    · intro h; have : ¬ p.y < q.y := fun hh => by have := a.2 hh; omega
      have : ¬ q.y < p.y := fun hh => by have := b.2 hh; omega
      grind
    · intro h; have : ¬ cmpQ p.y q.y < 0 := fun hh => by have := a.1 hh; grind
      have : ¬ 0 < cmpQ p.y q.y := fun hh => by have := b.1 hh; grind
      omega
  have hE : (p = q) = (cmpQ p.x q.x = 0 ∧ cmpQ p.y q.y = 0) := by rw [PQ.eq_iff, e1, e2]
  simp only [hE]
  simp only [eA_eC, fA_fC] at *
  refine Pure.of_go mixed Tryz.func200 rfl (rs := [.tmp 4]) rfl (by kernel_rfl) (by simp -implicitDefEqProofs [go_sem]) ?_
  simp -implicitDefEqProofs [go_sem]
  refine goC_pure _ h1 (by simp -implicitDefEqProofs [go_sem, ro_fC]) ?_
  by_cases x1 : cmpQ p.x q.x = 0
  · simp -implicitDefEqProofs [go_sem, x1]
    refine goC_pure _ h2 (by simp -implicitDefEqProofs [go_sem, ro_fC]) ?_
    simp -implicitDefEqProofs [go_sem]
  · simp -implicitDefEqProofs [go_sem, x1]

/-- The nearest point of a segment. -/
def nrQ (p a b : PQ) : PQ :=
  if a = b ∨ (p.sub a).dot (b.sub a) ≤ 0 then a else if 0 ≤ (p.sub b).dot (b.sub a) then b else a.mix b ((p.sub a).dot (b.sub a) / (b.sub a).dot (b.sub a))
theorem nr_tsQ (p a b : PQ) : p.far (nrQ p a b) = tsQ p a b := by
  have eD : (p.sub b).dot (b.sub a) = (p.sub a).dot (b.sub a) - (b.sub a).dot (b.sub a) := by unfold PQ.dot PQ.sub; simp only; grind
  have hnn := (b.sub a).dot_nn
  by_cases hab : a = b
  · have : (b.sub a).dot (b.sub a) = 0 := by subst hab; unfold PQ.dot PQ.sub; simp only; grind
    unfold nrQ tsQ
    rw [if_pos (.inl hab), if_pos this]
  · have hD : (b.sub a).dot (b.sub a) ≠ 0 := fun h => hab (by
      have := PQ.dot0 h
      unfold PQ.sub at this
      simp only at this
      exact PQ.ext (by grind) (by grind))
    have hp : 0 < (b.sub a).dot (b.sub a) := by grind
    unfold nrQ tsQ
    rw [if_neg hD, eD]
    have et : (p.sub a).dot (b.sub a) = ((p.sub a).dot (b.sub a) / (b.sub a).dot (b.sub a)) * (b.sub a).dot (b.sub a) := by grind
    have m0 := mix_zero a b
    have m1 := mix_one a b
    generalize (p.sub a).dot (b.sub a) / (b.sub a).dot (b.sub a) = t at *
    rw [et]
    generalize (b.sub a).dot (b.sub a) = d at *
    rcases (Rat.le_total : t ≤ 0 ∨ 0 ≤ t) with h1 | h1
    · have : t * d ≤ 0 := by have := Rat.mul_nonneg (show 0 ≤ -t by grind) hnn; grind
      rw [if_pos (.inr this)]
      by_cases h2 : t < 0
      · rw [if_pos h2]
      · have : t = 0 := by grind
        subst this
        rw [if_neg (by grind), if_neg (by grind), m0]
    · rcases Classical.em (t = 0) with h3 | h3
      · subst h3
        rw [if_pos (.inr (by grind)), if_neg (by grind), if_neg (by grind), m0]
      · have hpos := Rat.mul_pos (show 0 < t by grind) hp
        rw [if_neg (by intro h; rcases h with h | h <;> grind), if_neg (by grind : ¬ t < 0)]
        rcases (Rat.le_total : t ≤ 1 ∨ 1 ≤ t) with h4 | h4
        · rcases Classical.em (t = 1) with h5 | h5
          · subst h5
            rw [if_pos (by grind), if_neg (by grind), m1]
          · have := Rat.mul_pos (show 0 < 1 - t by grind) hp
            rw [if_neg (by grind), if_neg (by grind)]
        · have := Rat.mul_nonneg (show 0 ≤ t - 1 by grind) hnn
          rw [if_pos (by grind)]
          rcases Classical.em (t = 1) with h5 | h5
          · subst h5; rw [if_neg (by grind), m1]
          · rw [if_pos (by grind)]
set_option maxHeartbeats 4000000 in
theorem enearpt_pure (p a b : PQ) (hp : p.sz ≤ 1048576) (ha : a.sz ≤ 1048576) (hb : b.sz ≤ 1048576) : Pure Tryz.prog 191 [eA p, eA a, eA b] (eA (nrQ p a b)) := by
  have z1 := PQ.sz_sub b a
  have z2 := PQ.sz_sub p a
  have z2' := PQ.sz_sub p b
  have z3 := PQ.sz_dot (p.sub a) (b.sub a)
  have z3' := PQ.sz_dot (p.sub b) (b.sub a)
  have z4 := PQ.sz_dot (b.sub a) (b.sub a)
  have z5 := sz_div ((p.sub a).dot (b.sub a)) ((b.sub a).dot (b.sub a))
  have h1 := esub_pure b a (by omega) (by omega)
  have h2 := esame_pure a b (by omega) (by omega)
  have h3 := esub_pure p a (by omega) (by omega)
  have h4 := edot_pure (p.sub a) (b.sub a) (by omega) (by omega)
  have h5 := fsign_pure ((p.sub a).dot (b.sub a))
  have h6 := esub_pure p b (by omega) (by omega)
  have h7 := edot_pure (p.sub b) (b.sub a) (by omega) (by omega)
  have h8 := fsign_pure ((p.sub b).dot (b.sub a))
  have h9 := edot_pure (b.sub a) (b.sub a) (by omega) (by omega)
  have h10 := emix_pure a b ((p.sub a).dot (b.sub a) / (b.sub a).dot (b.sub a)) (by omega) (by omega) (by omega)
  have hD : a ≠ b → (b.sub a).dot (b.sub a) ≠ 0 := fun hab h => hab (by
      have := PQ.dot0 h
      unfold PQ.sub at this
      simp only at this
      exact PQ.ext (by grind) (by grind))
  have h11 := fun hab => fdiv_pure ((p.sub a).dot (b.sub a)) ((b.sub a).dot (b.sub a)) (by omega) (by omega) (hD hab)
  refine Pure.of_go mixed Tryz.func191 rfl (rs := [.cell 6 61]) rfl (by kernel_rfl) (ro_eA _) ?_
  unfold nrQ
  generalize (p.sub a).dot (b.sub a) / (b.sub a).dot (b.sub a) = t at *
  generalize (p.sub a).dot (b.sub a) = x at *
  generalize (p.sub b).dot (b.sub a) = y at *
  generalize (b.sub a).dot (b.sub a) = d at *
  generalize p.sub a = pa at *
  generalize p.sub b = pb at *
  generalize b.sub a = ba at *
  generalize a.mix b t = mx at *
  have s1 := @sgnQ_le x
  have s2 := @sgnQ_ge y
  simp only [eA_eC, fA_fC] at h1 h2 h3 h4 h5 h6 h7 h8 h9 h10 h11 ⊢
  simp -implicitDefEqProofs [go_sem]
  refine goC_pure _ h1 (by simp -implicitDefEqProofs [go_sem, ro_eC]) ?_
  simp -implicitDefEqProofs [go_sem]
  refine goD_pure _ h2 (by simp -implicitDefEqProofs [go_sem, ro_eC]) ?_
  by_cases hab : a = b
  · rw [if_pos (Or.inl hab : a = b ∨ x ≤ 0)]
    simp -implicitDefEqProofs [go_sem, hab, rop]
  · have h11 := h11 hab
    simp -implicitDefEqProofs [go_sem, hab]
    refine goD_pure _ h3 (by simp -implicitDefEqProofs [go_sem, ro_eC]) ?_
    simp -implicitDefEqProofs [go_sem]
    refine goD_pure _ h4 (by simp -implicitDefEqProofs [go_sem, ro_eC]) ?_
    simp -implicitDefEqProofs [go_sem]
    refine goD_pure _ h5 (by simp -implicitDefEqProofs [go_sem, ro_fC]) ?_
    by_cases hx : x ≤ 0
    · simp -implicitDefEqProofs [go_sem, hx, s1.2 hx, rop]
    · have hx' : ¬ sgnQ x ≤ 0 := fun h => hx (s1.1 h)
      simp -implicitDefEqProofs [go_sem, hx, hx']
      refine goD_pure _ h6 (by simp -implicitDefEqProofs [go_sem, ro_eC]) ?_
      simp -implicitDefEqProofs [go_sem]
      refine goD_pure _ h7 (by simp -implicitDefEqProofs [go_sem, ro_eC]) ?_
      simp -implicitDefEqProofs [go_sem]
      refine goD_pure _ h8 (by simp -implicitDefEqProofs [go_sem, ro_fC]) ?_
      by_cases hy : 0 ≤ y
      · have hy1 := s2.2 hy
        have hy2 : ¬ sgnQ y < 0 := by omega
        simp -implicitDefEqProofs [go_sem, hy, hy1, hy2, rop]
      · have hy1 : ¬ 0 ≤ sgnQ y := fun h => hy (s2.1 h)
        have hy2 : sgnQ y < 0 := by omega
        simp -implicitDefEqProofs [go_sem, hy, hy1, hy2]
        refine goD_pure _ h3 (by simp -implicitDefEqProofs [go_sem, ro_eC]) ?_
        simp -implicitDefEqProofs [go_sem]
        refine goD_pure _ h4 (by simp -implicitDefEqProofs [go_sem, ro_eC]) ?_
        simp -implicitDefEqProofs [go_sem]
        refine goD_pure _ h9 (by simp -implicitDefEqProofs [go_sem, ro_eC]) ?_
        simp -implicitDefEqProofs [go_sem]
        refine goD_pure _ h11 (by simp -implicitDefEqProofs [go_sem, ro_fC]) ?_
        simp -implicitDefEqProofs [go_sem]
        refine goD_pure _ h10 (by simp -implicitDefEqProofs [go_sem, ro_eC, ro_fC]) ?_
        simp -implicitDefEqProofs [go_sem, rop]
theorem sz_nrQ {p a b : PQ} {n : Nat} (hp : p.sz ≤ n) (ha : a.sz ≤ n) (hb : b.sz ≤ n) : (nrQ p a b).sz ≤ 20 * n + 20 := by
  have z1 := PQ.sz_sub b a
  have z2 := PQ.sz_sub p a
  have z3 := PQ.sz_dot (p.sub a) (b.sub a)
  have z4 := PQ.sz_dot (b.sub a) (b.sub a)
  have z5 := sz_div ((p.sub a).dot (b.sub a)) ((b.sub a).dot (b.sub a))
  have z6 := PQ.sz_mix a b ((p.sub a).dot (b.sub a) / (b.sub a).dot (b.sub a))
  unfold nrQ
  split
  · omega
  · split <;> omega
theorem etoseg_pure (p a b : PQ) (hp : p.sz ≤ 1048576) (ha : a.sz ≤ 1048576) (hb : b.sz ≤ 1048576) : Pure Tryz.prog 172 [eA p, eA a, eA b] (fA (tsQ p a b)) := by
  have h1 := enearpt_pure p a b hp ha hb
  have z1 := sz_nrQ hp ha hb
  have h2 := efar_pure p (nrQ p a b) (by omega) (by omega)
  rw [nr_tsQ] at h2
  generalize nrQ p a b = q at *
  refine Pure.of_go mixed Tryz.func172 rfl (rs := [.cell 6 59]) rfl (by kernel_rfl) (ro_fA _) ?_
  simp only [eA_eC, fA_fC] at *
  simp -implicitDefEqProofs [go_sem]
  refine goD_pure _ h1 (by simp -implicitDefEqProofs [go_sem, ro_eC]) ?_
  simp -implicitDefEqProofs [go_sem]
  refine goD_pure _ h2 (by simp -implicitDefEqProofs [go_sem, ro_eC]) ?_
  simp -implicitDefEqProofs [go_sem, rop]
end Go.Proofs.YtmhnmaklgcppbaaGreat
namespace Go.Proofs.YtmhnmaklgcppbaaGreat
open Go Go.Proofs
set_option linter.unusedSimpArgs false
set_option linter.unusedVariables false
set_option maxRecDepth 20000

/-- The greatest of the first so many, and 0. -/
def hmx (l : List Rat) (i : Nat) : Rat := (l.take i).foldl (fun m x => if m < x then x else m) 0
theorem hmx_succ {l : List Rat} {i : Nat} (h : i < l.length) : hmx l (i + 1) = if hmx l i < l[i] then l[i] else hmx l i := by
  unfold hmx
  rw [List.take_succ_eq_append_getElem h, List.foldl_append]; rfl
theorem hmx_le {l : List Rat} {T : Rat} : ∀ i, i ≤ l.length → (hmx l i ≤ T ↔ 0 ≤ T ∧ ∀ x ∈ l.take i, x ≤ T)
  | 0, _ => by simp [hmx]
  | i + 1, hi => by
    have ih := hmx_le (T := T) (l := l) i (by omega)
    rw [hmx_succ (by omega), List.take_succ_eq_append_getElem (by omega)]
    constructor
    · intro h
      have h1 : hmx l i ≤ T ∧ l[i] ≤ T := by split at h <;> grind
      have h2 := ih.1 h1.1
      refine ⟨h2.1, fun x hx => ?_⟩
      rcases List.mem_append.1 hx with hx | hx
      · exact h2.2 x hx
      · simp at hx; rw [hx]; exact h1.2
    · rintro ⟨h1, h2⟩
      have h3 := ih.2 ⟨h1, fun x hx => h2 x (List.mem_append_left _ hx)⟩
      have h4 := h2 l[i] (List.mem_append_right _ (by simp))
      split <;> assumption
theorem hmx_sz {l : List Rat} {n : Nat} (hn : 1 ≤ n) (hs : ∀ x ∈ l, sz x ≤ n) : ∀ i, i ≤ l.length → sz (hmx l i) ≤ n
  | 0, _ => by unfold hmx; simp; have := sz_int 0; simp [nl_zero] at this; omega
  | i + 1, hi => by
    rw [hmx_succ (by omega)]
    split
    · exact hs _ (List.getElem_mem _)
    · exact hmx_sz hn hs i (by omega)
theorem hgap_flat {v : List HQ} {tol : Rat} : hmx (gapL v) v.length ≤ tol * tol ↔ flatQ v tol := by
  rw [← gapL_len v, hmx_le _ (Nat.le_refl _), List.take_length]
  unfold gapL flatQ
  simp only [List.mem_map, forall_exists_index, and_imp, forall_apply_eq_imp_iff₂]
  exact ⟨fun h => h.2, fun h => ⟨sq_nn tol, h⟩⟩
theorem psz_v {v : List HQ} {n : Nat} (hs : ∀ h ∈ v, h.sz ≤ n) : ∀ h ∈ v, h.P.sz ≤ 2 * n := fun h hh => by
  have := hs h hh; have := h.sz_P; omega

set_option maxHeartbeats 8000000 in
theorem egap_pure (v : List HQ) (hG : GoodC v) (hs : ∀ h ∈ v, h.sz ≤ 1024) : Pure Tryz.prog 146 [gL v] (fA (hmx (gapL v) v.length)) := by
  have h2 := hG.2.1; have h4 := hG.2.2
  have hsv := psz_v hs
  have m1 : v.headD hQ0 ∈ v := headD_mem (by omega)
  have m2 : v.getLastD hQ0 ∈ v := lastD_mem (by omega)
  have hpt : ∀ h ∈ v, Pure Tryz.prog 106 [.agg (gC h)] (.agg (eC h.P)) := fun h hh => gpoint_pure h (by have := hs h hh; omega) (by have := hG.1 h hh; grind)
  have p0 := hpt _ m1
  have pl := hpt _ m2
  have hts : ∀ h ∈ v, Pure Tryz.prog 172 [.agg (eC h.P), .agg (eC (v.headD hQ0).P), .agg (eC (v.getLastD hQ0).P)] (.agg (fC (tsQ h.P (v.headD hQ0).P (v.getLastD hQ0).P))) := fun h hh =>
    etoseg_pure _ _ _ (by have := hsv h hh; omega) (by have := hsv _ m1; omega) (by have := hsv _ m2; omega)
  have hgs : ∀ x ∈ gapL v, sz x ≤ 1048576 := fun x hx => by
    unfold gapL at hx
    obtain ⟨h, hh, rfl⟩ := List.mem_map.1 hx
    have := sz_tsQ (hsv h hh) (hsv _ m1) (hsv _ m2)
    omega
  have hmz := fun i hi => hmx_sz (l := gapL v) (by omega) hgs i hi
  have hstep : ∀ i (h : i < v.length), Pure Tryz.prog 171 [.agg (fC (hmx (gapL v) i)), .agg (fC (tsQ (v[i]).P (v.headD hQ0).P (v.getLastD hQ0).P))] (.agg (fC (hmx (gapL v) (i + 1)))) := fun i h => by
    have e : (gapL v)[i]'(by rw [gapL_len]; exact h) = tsQ (v[i]).P (v.headD hQ0).P (v.getLastD hQ0).P := by simp [gapL]
    rw [hmx_succ (by rw [gapL_len]; exact h), e]
    exact fmax_pure _ _ (by have := hmz i (by rw [gapL_len]; omega); omega) (by
      have := hgs _ (List.getElem_mem (l := gapL v) (n := i) (by rw [gapL_len]; exact h))
      rw [e] at this; omega)
  have hz := fof_pure 0 1 (by omega) (by omega) (by omega)
  rw [show ((0 : Int) : Rat) / ((1 : Int) : Rat) = 0 by grind] at hz
  have h00 : hmx (gapL v) 0 = 0 := rfl
  obtain ⟨n1, hn1⟩ : ∃ n1, n1 = v.length - 1 := ⟨_, rfl⟩
  have e0 := getE_gC0 (l := v) (by omega)
  have eh : v[0]'(by omega) = v.headD hQ0 := by
    cases v with
    | nil => simp at h2
    | cons a r => rfl
  rw [eh] at e0
  have el := getE_gC (l := v) (i := n1) (by omega)
  rw [lastD_get n1 (by omega) (by omega)] at el
  have eln : IntKind.i64.wrap ((v.length : Int) - 1) = (n1 : Int) := by rw [w64 (by omega)]; omega
  have hlt : n1 < v.length := by omega
  have hl0 : 0 < v.length := by omega
  have hvn : ¬ v = [] := fun h => by rw [h] at h2; simp at h2
  simp only [fA_fC] at hz ⊢
  refine Pure.of_go mixed Tryz.func146 rfl (rs := [.cell 2 59]) rfl (by kernel_rfl) (by simp -implicitDefEqProofs [go_sem, ro_fC]) ?_
  unfold gL
  generalize (v.headD hQ0).P = pa at *
  generalize (v.getLastD hQ0).P = pb at *
  generalize v.headD hQ0 = a at *
  generalize v.getLastD hQ0 = b at *
  simp -implicitDefEqProofs [go_sem, e0, hvn, eln, el]
  refine ⟨hl0, goD_pure _ p0 (by simp -implicitDefEqProofs [go_sem, ro_gC]) ?_⟩
  simp -implicitDefEqProofs [go_sem, eln, el]
  refine ⟨hlt, goD_pure _ pl (by simp -implicitDefEqProofs [go_sem, ro_gC]) ?_⟩
  simp -implicitDefEqProofs [go_sem]
  refine goC_pure _ hz (by simp -implicitDefEqProofs [go_sem]) ?_
  simp -implicitDefEqProofs [go_sem]
  refine go_loopN 17 (α := {i : Nat // i ≤ v.length}) (fun i => [(0, .sl 9 false (v.map gA)), (2, .ptr 0 0 0), (3, .ptr 12 0 0), (4, .ptr 13 0 0), (5, .ptr 16 0 0), (6, .int .i64 i.1)])
    (fun i => [(0, .live 3 [.agg [.bool false, .sl 0 true [], .sl 0 true []]]), (12, .live 6 [.agg (eC pa)]), (13, .live 6 [.agg (eC pb)]), (16, .live 3 [.agg (fC (hmx (gapL v) i.1))])]) (fun i => v.length - i.1) ⟨0, Nat.zero_le _⟩ [] (by simp) (by simp [nm]) (by omega) (by simp -implicitDefEqProofs [go_sem]) (by simp -implicitDefEqProofs [go_sem, h00]) fun ⟨i, hi⟩ => ?_
  simp -implicitDefEqProofs [go_sem]
  refine ⟨fun h5 => ?_, fun h5 => ?_⟩
  · have es : IntKind.i64.wrap ((i : Int) + 1) = (i + 1 : Nat) := by rw [w64 (by omega)]; omega
    have e1 := getE_gC (l := v) (i := i) h5
    have f1 := hpt v[i] (List.getElem_mem _)
    have f2 := hts v[i] (List.getElem_mem _)
    have f3 := hstep i h5
    generalize tsQ (v[i]).P pa pb = ts at *
    generalize (v[i]).P = p at *
    generalize hmx (gapL v) i = m0 at *
    obtain ⟨m1, hm1⟩ : ∃ m1, m1 = hmx (gapL v) (i + 1) := ⟨_, rfl⟩
    rw [← hm1] at f3
    generalize v[i] = x at *
    simp -implicitDefEqProofs [go_sem, e1]
    refine ⟨by omega, goD_pure _ f1 (by simp -implicitDefEqProofs [go_sem, ro_gC]) ?_⟩
    simp -implicitDefEqProofs [go_sem]
    refine goD_pure _ f2 (by simp -implicitDefEqProofs [go_sem, ro_eC]) ?_
    simp -implicitDefEqProofs [go_sem]
    refine goD_pure _ f3 (by simp -implicitDefEqProofs [go_sem, ro_fC]) ?_
    simp -implicitDefEqProofs [go_sem, es]
    refine go_again ⟨i + 1, h5⟩ (by simp only; omega) [] (by simp) (by simp [nm]) (by simp) (by simp -implicitDefEqProofs [go_sem, es]) (by simp -implicitDefEqProofs [go_sem, hm1])
  · have hil : i = v.length := by omega
    subst hil
    simp -implicitDefEqProofs [go_sem, rop]

theorem eis_pure (v : List HQ) (tol : Rat) (hG : GoodC v) (hs : ∀ h ∈ v, h.sz ≤ 1024) (ht : sz tol ≤ 1024) (h0 : 0 < tol) : Pure Tryz.prog 109 [gL v, fA tol] (.bool (decide (flatQ v tol))) := by
  have hg := ggood_pure v (by have := hG.2.2; omega)
  rw [decide_eq_true hG] at hg
  have hp := egap_pure v hG hs
  have hsg := fsign_pure tol
  have hm := fmul_pure tol tol (by omega) (by omega)
  have zm := sz_mul tol tol
  have hsv := psz_v hs
  have hzg : sz (hmx (gapL v) v.length) ≤ 1048576 := hmx_sz (l := gapL v) (by omega) (fun x hx => by
    unfold gapL at hx
    obtain ⟨h, hh, rfl⟩ := List.mem_map.1 hx
    have hp : 0 < v.length := by have := hG.2.1; omega
    have := sz_tsQ (hsv h hh) (hsv _ (headD_mem hp)) (hsv _ (lastD_mem hp))
    omega) _ (by rw [gapL_len]; exact Nat.le_refl _)
  have hc := fcmp_pure (hmx (gapL v) v.length) (tol * tol) (by omega) (by omega)
  have hfl := @hgap_flat v tol
  have hdec : decide (flatQ v tol) = decide (hmx (gapL v) v.length ≤ tol * tol) := by simp only [hfl]
  rw [hdec]
  generalize hmx (gapL v) v.length = g at *
  have hs0 : 0 ≤ sgnQ tol := sgnQ_ge.2 (by grind)
  have hs0' : ¬ sgnQ tol < 0 := by omega
  simp only [fA_fC] at *
  refine Pure.of_go mixed Tryz.func109 rfl (rs := [.tmp 4]) rfl (by kernel_rfl) (by simp -implicitDefEqProofs [go_sem]) ?_
  unfold gL at *
  simp -implicitDefEqProofs [go_sem]
  refine goD_pure _ hg (by simp -implicitDefEqProofs [go_sem]) ?_
  simp -implicitDefEqProofs [go_sem]
  refine goD_pure _ hsg (by simp -implicitDefEqProofs [go_sem, ro_fC]) ?_
  simp -implicitDefEqProofs [go_sem, hs0, hs0']
  refine goD_pure _ hp (by simp -implicitDefEqProofs [go_sem]) ?_
  simp -implicitDefEqProofs [go_sem]
  refine goD_pure _ hm (by simp -implicitDefEqProofs [go_sem, ro_fC]) ?_
  simp -implicitDefEqProofs [go_sem]
  refine goD_pure _ hc (by simp -implicitDefEqProofs [go_sem, ro_fC]) ?_
  by_cases hx : g ≤ tol * tol
  · have := cmpQ_le.2 hx
    simp -implicitDefEqProofs [go_sem, this, hx]
  · have : ¬ cmpQ g (tol * tol) ≤ 0 := fun hh => hx (cmpQ_le.1 hh)
    simp -implicitDefEqProofs [go_sem, this, hx]
end Go.Proofs.YtmhnmaklgcppbaaGreat
namespace Go.Proofs.YtmhnmaklgcppbaaGreat
open Go Go.Proofs
set_option linter.unusedSimpArgs false
set_option linter.unusedVariables false
set_option maxRecDepth 20000

/-- A part that is still to be told, of the reference. -/
def pg (x : List HR × Nat) : AV := .agg [gL (x.1.map HR.val), .int .i64 x.2]
theorem ro_pg (x : List HR × Nat) : ro (pg x) := by unfold pg; simp only [ro, roL]; exact ⟨ro_gL _, trivial, trivial⟩
@[go_sem] theorem roL_pg (l : List (List HR × Nat)) : roL (l.map pg) := roL_map ro_pg
def sr (tol : Rat) : List (List HR × Nat) → Nat
  | [] => 0
  | x :: L => max (x.2 + fdeep tol (14 - x.2) (x.1.map HR.val)) (sr tol L)
theorem sr_app (tol : Rat) (L M : List (List HR × Nat)) : sr tol (L ++ M) = max (sr tol L) (sr tol M) := by
  induction L with
  | nil => simp [sr]
  | cons a L ih => simp only [List.cons_append, sr, ih]; omega
theorem wr_cut {tol : Rat} {x : List HR × Nat} (h : Wo tol x) (hf : ¬ flatQ (x.1.map HR.val) tol) :
    let v := x.1.map HR.val
    sr tol [x] = max x.2 (sr tol [((cutR v.length v).map hc, x.2 + 1), ((cutL v.length v).map hc, x.2 + 1)]) := by
  intro v
  obtain ⟨h1, h2, h3⟩ := h
  have hlt : x.2 < 14 := by
    rcases Nat.lt_or_ge x.2 14 with h | h
    · exact h
    · have e : 14 - x.2 = 0 := by omega
      rw [e] at h2
      exact absurd h2.2 hf
  have e : 14 - x.2 = (14 - (x.2 + 1)) + 1 := by omega
  have hfd : fdeep tol (14 - (x.2 + 1) + 1) (x.1.map HR.val) = 1 + max (fdeep tol (14 - (x.2 + 1)) (cutL v.length v)) (fdeep tol (14 - (x.2 + 1)) (cutR v.length v)) := by
    conv => lhs; unfold fdeep
    rw [if_neg hf]
  simp only [sr, map_hc_val]
  rw [e, hfd]
  omega
/-- Where the walk stands. -/
structure Wr (tol : Rat) (S : List PQ) (D : Nat) (L : List (List HR × Nat)) (J : List AV) (o : List PQ) (dp : Nat) : Prop where
  wo : ∀ x ∈ L, Wo tol x
  out : o ++ sp tol L = S
  deep : max dp (sr tol L) = D
  num : sn tol L ≤ 32768
  one : 1 ≤ o.length
  few : S.length ≤ 16385
  ro : roL J
/-- What the reference tells. -/
def fcG (r : List PQ × Nat × Int) : AV := .agg [eL r.1, .int .i64 r.2.1, .int .i64 r.2.2]

set_option maxHeartbeats 8000000 in
theorem ecurve_ok (v : List HQ) (tol : Rat) (hs : ∀ h ∈ v, h.sz ≤ 51) (ht : sz tol ≤ 1024) (h0 : 0 < tol) (hT : Tr tol 51 14 v) :
    Pure Tryz.prog 59 [gL v, fA tol] (fcG ((v.headD hQ0).P :: ftree tol 14 v, fdeep tol 14 v, 0)) := by
  have hG := hT.good.1
  have h2 := hG.2.1; have h4 := hG.2.2
  have hg := ggood_pure v (by omega)
  rw [decide_eq_true hG] at hg
  have hsg := fsign_pure tol
  have hs0 : ¬ sgnQ tol ≤ 0 := fun hh => by have := sgnQ_le.1 hh; grind
  have hwp : ∀ (x : List HQ) (h : HQ), h ∈ x → (∀ h ∈ x, h.sz ≤ 51) → GoodC x → Pure Tryz.prog 106 [.agg (gC h)] (.agg (eC h.P)) := fun x h hh hx hxG =>
    gpoint_pure h (by have := hx h hh; omega) (by have := hxG.1 h hh; grind)
  have hp0 := hwp v (v.headD hQ0) (headD_mem (by omega)) hs hG
  have hge0 := getE_gC0 (l := v) (by omega)
  have ehd : v[0]'(by omega) = v.headD hQ0 := by
    cases v with
    | nil => simp at h2
    | cons a r => rfl
  rw [ehd] at hge0
  have his := fun (x : List HQ) (hx : ∀ h ∈ x, h.sz ≤ 51) (hxG : GoodC x) => eis_pure x tol hxG (fun h hh => by have := hx h hh; omega) ht h0
  obtain ⟨S, hS⟩ : ∃ S, S = (v.headD hQ0).P :: ftree tol 14 v := ⟨_, rfl⟩
  obtain ⟨D, hD⟩ : ∃ D, D = fdeep tol 14 v := ⟨_, rfl⟩
  have hw0 : Wr tol S D [(v.map hc, 0)] [] [(v.headD hQ0).P] 0 := by
    refine ⟨fun x hx => ?_, ?_, ?_, ?_, by simp, ?_, trivial⟩
    · simp at hx; subst hx
      refine ⟨by simp, by rw [map_hc_val]; exact hT, fun h hh => ?_⟩
      obtain ⟨y, hy, rfl⟩ := List.mem_map.1 hh
      exact hc_in (hs y hy)
    · rw [hS]; simp only [sp, List.reverse_cons, List.reverse_nil, List.nil_append, List.flatMap_cons, List.flatMap_nil, List.append_nil, map_hc_val, Nat.sub_zero, List.singleton_append]
    · rw [hD]; simp only [sr, Nat.sub_zero, map_hc_val]; omega
    · have := fnum_le tol 14 v; simp only [sn, map_hc_val, Nat.sub_zero]; omega
    · have := ftree_len tol 14 v; rw [hS]; simp; omega
  rw [← hS, ← hD]
  have hpv0 : pg (v.map hc, 0) = .agg [.sl 9 false (v.map gA), .int .i64 0] := by unfold pg gL; simp only [map_hc_val]; rfl
  generalize (v.headD hQ0).P = P0 at *
  generalize v.headD hQ0 = hd0 at *
  clear hS hD ehd
  have hro := ro_gL v
  refine Pure.of_ca (by unfold fcG; simp only [ro, roL]; exact ⟨ro_eL _, trivial, trivial, trivial⟩) (CA.of_go mixed Tryz.func59 rfl (rs := [.cell 4 102]) rfl (by kernel_rfl) ?_)
  simp only [fA_fC] at *
  unfold gL at hg hro ⊢
  simp -implicitDefEqProofs [go_sem]
  refine goC_pure _ hg (by simp -implicitDefEqProofs [go_sem]) ?_
  simp -implicitDefEqProofs [go_sem]
  refine goC_pure _ hsg (by simp -implicitDefEqProofs [go_sem, ro_fC]) ?_
  simp -implicitDefEqProofs [go_sem, hs0, hge0]
  refine ⟨by omega, goC_pure _ hp0 (by simp -implicitDefEqProofs [go_sem, ro_gC]) ?_⟩
  simp -implicitDefEqProofs [go_sem]
  refine go_loopN 5 (α := {s : List (List HR × Nat) × List AV × List PQ × Nat // Wr tol S D s.1 s.2.1 s.2.2.1 s.2.2.2}) (fun s => [(3, .ptr 0 0 0), (4, .ptr 1 0 0), (5, .ptr 3 0 0), (6, .own 2 4 0 s.1.1.length)])
    (fun s => [(0, .live 3 [.agg (fC tol)]), (1, .live 3 [.agg [.sl 0 true [], .int .i64 0, .int .i64 0]]), (2, .live 6 (s.1.2.2.1.map eA)), (3, .live 3 [.agg [.own 6 2 0 s.1.2.2.1.length, .int .i64 s.1.2.2.2, .int .i64 0]]), (4, .live 2 (s.1.1.map pg ++ s.1.2.1))]) (fun s => sn tol s.1.1) ⟨([(v.map hc, 0)], [], [P0], 0), hw0⟩ [] (by simp) (by simp [nm]) (by omega) (by simp -implicitDefEqProofs [go_sem]) (by simp -implicitDefEqProofs [go_sem, hpv0, eA_eC]) fun ⟨⟨L, J, o, dp⟩, hw⟩ => ?_
  simp only at hw ⊢
  obtain ⟨w1, w2, w3, w4, w5, w6, w7⟩ := hw
  have hol : o.length ≤ 16385 := by have := congrArg List.length w2; simp only [List.length_append] at this; omega
  have hor : roL (o.map eA) := roL_eA _
  have hLn := sn_len tol L
  have hcs : L = [] ∨ ∃ L' x, L = L' ++ [x] := by
    rcases List.eq_nil_or_concat L with h | ⟨L', x, h⟩
    · exact .inl h
    · exact .inr ⟨L', x, by rw [h, List.concat_eq_append]⟩
  rcases hcs with rfl | ⟨L', x, rfl⟩
  · have eS : o = S := by simpa [sp] using w2
    have eD : dp = D := by simpa [sr] using w3
    have et : (o.map eA).take o.length = o.map eA := List.take_of_length_le (by simp)
    subst eS eD
    simp -implicitDefEqProofs [go_sem, et, eL, fcG, rop]
    exact Wk.refl _
  · obtain ⟨l', dx⟩ := x
    obtain ⟨v1, v2, v3⟩ := w1 (l', dx) (by simp)
    have hfl := wo_flat (w1 (l', dx) (by simp))
    have hct' := wo_cut (w1 (l', dx) (by simp))
    have hcr' := wr_cut (w1 (l', dx) (by simp))
    simp only at v1 v2 v3 hfl hct' hcr'
    have hG' := v2.good.1
    have hsv' := v2.good.2
    have hi' := his (l'.map HR.val) hsv' hG'
    have g2 := hG'.2.1; have g4 := hG'.2.2
    have hcp := gcut_pure (l'.map HR.val) (fun h hh => by have := hsv' h hh; omega) (by omega) g4
    obtain ⟨n2, hn2⟩ : ∃ n2, n2 = (l'.map HR.val).length - 1 := ⟨_, rfl⟩
    have hpl := hwp (l'.map HR.val) ((l'.map HR.val).getLastD hQ0) (lastD_mem (by omega)) hsv' hG'
    have hgl := getE_gC (l := l'.map HR.val) (i := n2) (by omega)
    rw [lastD_get n2 (by omega) hn2] at hgl
    have e2 : IntKind.i64.wrap (((l'.map HR.val).length : Int) - 1) = (n2 : Int) := by rw [w64 (by omega)]; omega
    have eL' : IntKind.i64.wrap (L'.length : Int) = L'.length := by
      simp only [List.length_append, List.length_singleton] at hLn
      exact w64 (by omega)
    obtain ⟨M, hM⟩ : ∃ M, M = (L' ++ [(l', dx)]).map pg ++ J := ⟨_, rfl⟩
    have hMl : L'.length < M.length := by rw [hM]; simp
    have hMx : M[L'.length]'hMl = pg (l', dx) := by
      subst hM; simp
    have hMt : M.take L'.length = L'.map pg := by rw [hM]; simp
    rw [← hM]
    have hpr : roL (L'.map pg) := roL_pg _
    have hpx := ro_pg (l', dx)
    have hl1 : n2 < (l'.map HR.val).length := by omega
    unfold pg gL at hMx
    unfold gTwo gL at hcp
    unfold gL at hi'
    simp only at hMx
    generalize hvv : l'.map HR.val = v' at *
    obtain ⟨dm, hdm0⟩ : ∃ dm, dm = max dp dx := ⟨_, rfl⟩
    have hdm : (if dp < dx then (dx : Int) else (dp : Int)) = (dm : Int) := by split <;> omega
    simp -implicitDefEqProofs [go_sem, eL', hMx, hMl, hdm]
    refine ⟨by omega, by omega, goC_pure _ hi' (by simp -implicitDefEqProofs [go_sem, ro_fC]) ?_⟩
    by_cases hf : flatQ v' tol
    · obtain ⟨f1, f2, f3⟩ := hfl hf
      clear hct' hcp hcr'
      have n1 : ¬ 1048576 ≤ (o.length : Int) := by omega
      have hw' : Wr tol S D L' (pg (l', dx) :: J) (o ++ [(v'.getLastD hQ0).P]) dm := by
        refine ⟨fun x hx => w1 x (by simp [hx]), ?_, ?_, ?_, by simp, w6, ?_⟩
        · rw [← w2, sp_app]
          have : sp tol [(l', dx)] = [(v'.getLastD hQ0).P] := by simp [sp, hvv, f1]
          rw [this, List.append_assoc]
        · rw [← w3, sr_app]
          have : sr tol [(l', dx)] = dx := by simp [sr, hvv, f2]
          rw [this, hdm0]; omega
        · have := sn_app tol L' [(l', dx)]; omega
        · simp only [roL]; exact ⟨ro_pg _, w7⟩
      have hn : sn tol L' < sn tol (L' ++ [(l', dx)]) := by
        rw [sn_app]
        have := fnum_pos tol (14 - dx) (l'.map HR.val)
        simp only [sn]; omega
      have hMe : M = L'.map pg ++ pg (l', dx) :: J := by rw [hM]; simp
      have hMr : roL M := by rw [hMe]; exact roL_append.2 ⟨roL_pg _, by simp only [roL]; exact ⟨ro_pg _, w7⟩⟩
      generalize v'.getLastD hQ0 = lq at *
      simp -implicitDefEqProofs [go_sem, hf, n1, e2, hgl]
      refine ⟨by omega, goD_pure _ hpl (by simp -implicitDefEqProofs [go_sem, ro_gC]) ?_⟩
      generalize lq.P = p at *
      have hor' : roL ((o ++ [p]).map eA) := roL_eA _
      have heo : (o ++ [p]).map eA = o.map eA ++ [.agg (eC p)] := by simp [eA_eC]
      have het : (o.map eA).take o.length = o.map eA := List.take_of_length_le (by simp)
      rw [heo] at hor'
      have z1 := (renL_ro (nm [(2, 18)]) _ hor').symm
      have z2 := cloL_ro (n := 5) _ hor'
      have z3 := (renL_ro (nm [(2, 18)]) _ hMr).symm
      have z4 := cloL_ro (n := 5) _ hMr
      simp -implicitDefEqProofs [go_sem, het]
      refine ⟨by omega, ?_⟩
      refine go_again ⟨(L', pg (l', dx) :: J, o ++ [p], dm), hw'⟩ hn [(2, 18)] (by simp) (by simp [nm]) (by simp) (by simp -implicitDefEqProofs [go_sem]) (by simp only [heo, ← hMe]; simp -implicitDefEqProofs [go_sem, ← z1, z2, ← z3, z4])
    · obtain ⟨c1, c2, c3, c4, c5⟩ := hct' hf
      have c4 := hcr' hf
      clear hfl hct' hcr'
      have n1 : ¬ 64 ≤ (dx : Int) := by omega
      have edx : IntKind.i64.wrap ((dx : Int) + 1) = (dx + 1 : Nat) := by rw [w64 (by omega)]; omega
      have hw' : Wr tol S D (L' ++ [((cutR v'.length v').map hc, dx + 1), ((cutL v'.length v').map hc, dx + 1)]) [] o dm := by
        refine ⟨fun x hx => ?_, ?_, ?_, ?_, w5, w6, trivial⟩
        · simp only [List.mem_append, List.mem_cons, List.not_mem_nil, or_false] at hx
          rcases hx with hx | rfl | rfl
          · exact w1 x (by simp [hx])
          · exact c2
          · exact c1
        · rw [← w2, sp_app, sp_app, c3]
        · rw [← w3, sr_app, sr_app, c4, hdm0]; omega
        · have h1 := sn_app tol L' [(l', dx)]
          have h2 := sn_app tol L' [((cutR v'.length v').map hc, dx + 1), ((cutL v'.length v').map hc, dx + 1)]
          omega
      have hn : sn tol (L' ++ [((cutR v'.length v').map hc, dx + 1), ((cutL v'.length v').map hc, dx + 1)]) < sn tol (L' ++ [(l', dx)]) := by
        rw [sn_app, sn_app, c5]; omega
      have hLb : L'.length ≤ 32768 := by simp only [List.length_append, List.length_singleton] at hLn; omega
      have hMn : (L' ++ [((cutR v'.length v').map hc, dx + 1), ((cutL v'.length v').map hc, dx + 1)]).map pg = L'.map pg ++ [.agg [.sl 9 false ((cutR v'.length v').map gA), .int .i64 (dx + 1 : Nat)], .agg [.sl 9 false ((cutL v'.length v').map gA), .int .i64 (dx + 1 : Nat)]] := by
        simp only [List.map_append, List.map_cons, List.map_nil, pg, map_hc_val, gL]
      have hMr : roL ((L' ++ [((cutR v'.length v').map hc, dx + 1), ((cutL v'.length v').map hc, dx + 1)]).map pg) := roL_pg _
      rw [hMn] at hMr
      clear c1 c2 c3 c4 c5
      have z1 := (renL_ro (nm [(4, 8)]) _ hor).symm
      have z2 := cloL_ro (n := 5) _ hor
      have z3 := (renL_ro (nm [(4, 8)]) _ hMr).symm
      have z4 := cloL_ro (n := 5) _ hMr
      simp -implicitDefEqProofs [go_sem, hf, n1]
      refine goC_pure _ hcp (by simp -implicitDefEqProofs [go_sem]) ?_
      simp -implicitDefEqProofs [go_sem, edx, hMt]
      refine ⟨by omega, by omega, ?_⟩
      refine go_again ⟨(L' ++ [((cutR v'.length v').map hc, dx + 1), ((cutL v'.length v').map hc, dx + 1)], [], o, dm), hw'⟩ hn [(4, 8)] (by simp) (by simp [nm]) (by simp) (by simp -implicitDefEqProofs [go_sem]) (by simp only [hMn, List.append_nil]; simp -implicitDefEqProofs [go_sem, ← z1, z2, ← z3, z4]; exact ⟨(renL_ro _ _ hpr).symm, cloL_ro _ hpr⟩)
end Go.Proofs.YtmhnmaklgcppbaaGreat
namespace Go.Proofs.YtmhnmaklgcppbaaGreat
open Go Go.Proofs
set_option linter.unusedSimpArgs false
set_option linter.unusedVariables false
set_option maxRecDepth 20000

theorem ecurve_pure (v : List HQ) (tol : Rat) (hl : v.length < 1099511627776) (hs : ∀ h ∈ v, h.sz ≤ 51) (ht : sz tol ≤ 1024) (hT : GoodC v → 0 < tol → Tr tol 51 14 v) :
    Pure Tryz.prog 59 [gL v, fA tol] (fcG (fcv v tol)) := by
  have hg := ggood_pure v hl
  have wnil : ∀ e, Wk (.agg [.sl 0 true [], .int .i64 0, .int .i64 e]) (fcG ([], 0, e)) := fun e => Wk.agg (.cons (Wk.nil 0 6 true) (WkL.refl _))
  unfold fcv
  by_cases hG : GoodC v
  · rw [if_neg (not_not_intro hG)]
    rw [decide_eq_true hG] at hg
    by_cases h0 : tol ≤ 0
    · rw [if_pos h0]
      have hsg := fsign_pure tol
      have hs0 : sgnQ tol ≤ 0 := sgnQ_le.2 h0
      refine Pure.weaken (r := .agg [.sl 0 true [], .int .i64 0, .int .i64 1]) ?_ (wnil 1)
      refine Pure.of_go mixed Tryz.func59 rfl (rs := [.cell 4 102]) rfl (by kernel_rfl) (by simp -implicitDefEqProofs [go_sem]) ?_
      simp only [fA_fC] at *
      unfold gL at *
      simp -implicitDefEqProofs [go_sem]
      refine goC_pure _ hg (by simp -implicitDefEqProofs [go_sem]) ?_
      simp -implicitDefEqProofs [go_sem]
      refine goC_pure _ hsg (by simp -implicitDefEqProofs [go_sem, ro_fC]) ?_
      simp -implicitDefEqProofs [go_sem, hs0, rop]
    · rw [if_neg h0]
      exact ecurve_ok v tol hs ht (by grind) (hT hG (by grind))
  · rw [if_pos hG]
    rw [decide_eq_false hG] at hg
    refine Pure.weaken (r := .agg [.sl 0 true [], .int .i64 0, .int .i64 11]) ?_ (wnil 11)
    refine Pure.of_go mixed Tryz.func59 rfl (rs := [.cell 4 102]) rfl (by kernel_rfl) (by simp -implicitDefEqProofs [go_sem]) ?_
    simp only [fA_fC] at *
    unfold gL at *
    simp -implicitDefEqProofs [go_sem]
    refine goC_pure _ hg (by simp -implicitDefEqProofs [go_sem]) ?_
    simp -implicitDefEqProofs [go_sem, rop]

/-- The law's own curve. -/
def wF : List HQ := [.pt (wP 0 0), .pt (wP 1 2), .pt (wP 2 0)]
theorem wF_sz : ∀ h ∈ wF, h.sz ≤ 1 := by
  intro h hh
  simp only [wF, List.mem_cons, List.not_mem_nil, or_false] at hh
  rcases hh with rfl | rfl | rfl
  · have := sz_pt (wP 0 0); have := sz_wP (x := 0) (y := 0) (by omega) (by omega); omega
  · have := sz_pt (wP 1 2); have := sz_wP (x := 1) (y := 2) (by omega) (by omega); omega
  · have := sz_pt (wP 2 0); have := sz_wP (x := 2) (y := 0) (by omega) (by omega); omega
theorem wF_good : GoodC wF := by
  refine ⟨fun h hh => ?_, by decide, by decide⟩
  simp only [wF, List.mem_cons, List.not_mem_nil, or_false] at hh
  have h1 : (0 : Rat) < 1 := by grind
  rcases hh with rfl | rfl | rfl <;> exact h1
theorem wF_tr : Tr 1 51 14 wF := by
  refine tr_light wF_good (fun h hh => by have := wF_sz h hh; omega) (fun h hh => ?_) (fun h hh => ?_) (by grind)
  · simp only [wF, List.mem_cons, List.not_mem_nil, or_false] at hh
    rcases hh with rfl | rfl | rfl <;> (unfold HQ.pt wP; refine ⟨⟨?_, ?_⟩, ⟨?_, ?_⟩, ?_⟩ <;> simp only <;> decide +kernel)
  · simp only [wF, List.mem_cons, List.not_mem_nil, or_false] at hh
    rcases hh with rfl | rfl | rfl <;> (unfold HQ.pt; simp only; decide +kernel)
theorem wF_fcv : fcv wF 1 = ([wP 0 0, wP 1 1, wP 2 0], 1, 0) := by
  unfold fcv
  rw [if_neg (not_not_intro wF_good), if_neg (by grind)]
  have n0 : ¬ flatQ wF 1 := by decide +kernel
  have n1 : flatQ (cutL wF.length wF) 1 := by decide +kernel
  have n2 : flatQ (cutR wF.length wF) 1 := by decide +kernel
  have e1 : ftree 1 14 wF = [((cutL wF.length wF).getLastD hQ0).P] ++ [((cutR wF.length wF).getLastD hQ0).P] := by
    conv => lhs; unfold ftree
    rw [if_neg n0]
    congr 1
    · unfold ftree; rw [if_pos n1]
    · unfold ftree; rw [if_pos n2]
  have e2 : fdeep 1 14 wF = 1 := by
    unfold fdeep
    rw [if_neg n0]
    have a : fdeep 1 13 (cutL wF.length wF) = 0 := by unfold fdeep; rw [if_pos n1]
    have b : fdeep 1 13 (cutR wF.length wF) = 0 := by unfold fdeep; rw [if_pos n2]
    rw [a, b]; rfl
  rw [e1, e2]
  have q1 : (wF.headD hQ0).P = wP 0 0 := by refine PQ.ext ?_ ?_ <;> decide +kernel
  have q2 : ((cutL wF.length wF).getLastD hQ0).P = wP 1 1 := by refine PQ.ext ?_ ?_ <;> decide +kernel
  have q3 : ((cutR wF.length wF).getLastD hQ0).P = wP 2 0 := by refine PQ.ext ?_ ?_ <;> decide +kernel
  rw [q1, q2, q3]; rfl

set_option maxHeartbeats 4000000 in
theorem fwakes_pure : Pure Tryz.prog 56 [] (.bool true) := by
  have p00 := wP_pure 0 0 (by omega) (by omega)
  have p12 := wP_pure 1 2 (by omega) (by omega)
  have p20 := wP_pure 2 0 (by omega) (by omega)
  have p11 := wP_pure 1 1 (by omega) (by omega)
  have q11 := rof_pure 1 1 (by omega) (by omega) (by omega)
  rw [show ((1 : Int) : Rat) / ((1 : Int) : Rat) = 1 by grind] at q11
  have hq := quad_pure (wP 0 0) (wP 1 2) (wP 2 0)
  change Pure _ _ _ (qL wF) at hq
  have hin : ∀ h ∈ wF.map hc, h.In 51 := fun h hh => by
    obtain ⟨y, hy, rfl⟩ := List.mem_map.1 hh
    exact hc_in (by have := wF_sz y hy; omega)
  have hT : GoodC ((wF.map hc).map HR.val) → 0 < (qc 1).val → Tr (qc 1).val 51 14 ((wF.map hc).map HR.val) := fun _ _ => by rw [map_hc_val, qc_val]; exact wF_tr
  have hc1 := fcurve_pure (wF.map hc) (qc 1) (by decide) hin (qc_in (by rw [sz_one]; omega)) hT
  have hd1 := fdeep_pure (wF.map hc) (qc 1) (by decide) hin (qc_in (by rw [sz_one]; omega)) hT
  rw [map_hc_val, qc_val, wF_fcv, qL_hL] at hc1 hd1
  have hps := psame_self (wP 1 1) (by have := sz_wP (x := 1) (y := 1) (by omega) (by omega); omega)
  have hroC := ro_qL wF
  have hg : getE ([wP 0 0, wP 1 1, wP 2 0].map pA) 1 = .agg (pC (wP 1 1)) := rfl
  have hl3 : ([wP 0 0, wP 1 1, wP 2 0].map pA).length = 3 := rfl
  have hr3 : roL ([wP 0 0, wP 1 1, wP 2 0].map pA) := roL_pA _
  unfold pL at hc1
  simp only at hc1 hd1
  generalize [wP 0 0, wP 1 1, wP 2 0].map pA = L at *
  change Pure _ _ [_, rA 1] _ at hc1 hd1
  simp only [pA_pC, rA_rC] at *
  generalize qL wF = W at *
  refine Pure.of_go mixed Tryz.func56 rfl (rs := [.tmp 0]) rfl (by kernel_rfl) (by simp -implicitDefEqProofs [go_sem]) ?_
  simp -implicitDefEqProofs [go_sem]
  refine goC_pure _ p00 (by simp -implicitDefEqProofs [go_sem]) ?_
  simp -implicitDefEqProofs [go_sem]
  refine goC_pure _ p12 (by simp -implicitDefEqProofs [go_sem]) ?_
  simp -implicitDefEqProofs [go_sem]
  refine goC_pure _ p20 (by simp -implicitDefEqProofs [go_sem]) ?_
  simp -implicitDefEqProofs [go_sem]
  refine goC_pure _ hq (by simp -implicitDefEqProofs [go_sem, ro_pC]) ?_
  simp -implicitDefEqProofs [go_sem]
  refine goC_pure _ q11 (by simp -implicitDefEqProofs [go_sem]) ?_
  simp -implicitDefEqProofs [go_sem]
  refine goC_pure _ hc1 (by simp -implicitDefEqProofs [go_sem, ro_rC, hroC]) ?_
  simp -implicitDefEqProofs [go_sem]
  refine goC_pure _ p00 (by simp -implicitDefEqProofs [go_sem]) ?_
  simp -implicitDefEqProofs [go_sem]
  refine goC_pure _ p12 (by simp -implicitDefEqProofs [go_sem]) ?_
  simp -implicitDefEqProofs [go_sem]
  refine goC_pure _ p20 (by simp -implicitDefEqProofs [go_sem]) ?_
  simp -implicitDefEqProofs [go_sem]
  refine goC_pure _ hq (by simp -implicitDefEqProofs [go_sem, ro_pC]) ?_
  simp -implicitDefEqProofs [go_sem]
  refine goC_pure _ q11 (by simp -implicitDefEqProofs [go_sem]) ?_
  simp -implicitDefEqProofs [go_sem]
  refine goC_pure _ hd1 (by simp -implicitDefEqProofs [go_sem, ro_rC, hroC]) ?_
  simp -implicitDefEqProofs [go_sem, hl3, hg]
  refine goD_pure _ p11 (by simp -implicitDefEqProofs [go_sem]) ?_
  simp -implicitDefEqProofs [go_sem]
  refine goD_pure _ hps (by simp -implicitDefEqProofs [go_sem, ro_pC]) ?_
  simp -implicitDefEqProofs [go_sem]
end Go.Proofs.YtmhnmaklgcppbaaGreat
namespace Go.Proofs.YtmhnmaklgcppbaaGreat
open Go Go.Proofs
set_option linter.unusedSimpArgs false
set_option linter.unusedVariables false
set_option maxRecDepth 20000

/-- A control point that is light. -/
def BxL (h : HQ) : Prop := h.P.x.abs ≤ 64 ∧ h.P.y.abs ≤ 64 ∧ 1 / 64 ≤ h.w ∧ h.w ≤ 64
instance (h : HQ) : Decidable (BxL h) := inferInstanceAs (Decidable (_ ∧ _))
def LightF (l : List HR) (tol : RQ) : Prop := FairL l ∧ tol.sml 1 ∧ (¬ GoodC (l.map HR.val) ∨ tol.val ≤ 0 ∨ (1 / 64 ≤ tol.val ∧ ∀ h ∈ l.map HR.val, BxL h))
theorem abs_wi {x B : Rat} (h : x.abs ≤ B) : Wi B x := by
  have e : x.abs = x ∨ x.abs = -x := by unfold Rat.abs; split <;> simp
  have h0 : 0 ≤ x.abs := by
    unfold Rat.abs
    split
    · assumption
    · grind
  unfold Rat.abs at h h0
  split at h
  · exact ⟨by grind, h⟩
  · exact ⟨by grind, by grind⟩
theorem sz_abs (x : Rat) : sz x.abs ≤ sz x := by
  unfold Rat.abs
  split
  · exact Nat.le_refl _
  · have := sz_neg x; omega
theorem bxl_bx {h : HQ} (hp : 0 < h.w) (hb : BxL h) : Bx h := by
  obtain ⟨b1, b2, b3, b4⟩ := hb
  obtain ⟨x1, x2⟩ := abs_wi b1
  obtain ⟨y1, y2⟩ := abs_wi b2
  have ex : h.P.x * h.w = h.x := by unfold HQ.P; simp only; grind
  have ey : h.P.y * h.w = h.y := by unfold HQ.P; simp only; grind
  have := Rat.mul_nonneg (show 0 ≤ 64 - h.P.x by grind) (show 0 ≤ h.w by grind)
  have := Rat.mul_nonneg (show 0 ≤ 64 + h.P.x by grind) (show 0 ≤ h.w by grind)
  have := Rat.mul_nonneg (show 0 ≤ 64 - h.P.y by grind) (show 0 ≤ h.w by grind)
  have := Rat.mul_nonneg (show 0 ≤ 64 + h.P.y by grind) (show 0 ≤ h.w by grind)
  exact ⟨⟨by grind, by grind⟩, ⟨by grind, by grind⟩, b3⟩
theorem light_tr {l : List HR} {tol : RQ} (hm : ∀ h ∈ l, h.Lm) (h : LightF l tol) (hG : GoodC (l.map HR.val)) (h0 : 0 < tol.val) : Tr tol.val 51 14 (l.map HR.val) := by
  obtain ⟨h1, h2, h3⟩ := h
  have h4 : 1 / 64 ≤ tol.val ∧ ∀ h ∈ l.map HR.val, BxL h := by
    rcases h3 with h | h | h
    · exact absurd hG h
    · grind
    · exact h
  refine tr_light hG (fun h hh => ?_) (fun h hh => bxl_bx (hG.1 h hh) (h4.2 h hh)) (fun h hh => (h4.2 h hh).2.2.2) h4.1
  obtain ⟨y, hy, rfl⟩ := List.mem_map.1 hh
  exact ((hm y hy).inn (h1.1 y hy)).sz
noncomputable instance (l : List HR) (tol : RQ) : Decidable (LightF l tol) := Classical.propDecidable _

set_option maxHeartbeats 8000000 in
theorem flight_pure (l : List HR) (tol : RQ) (hl : l.length ≤ 9223372036854775807) (hm : ∀ h ∈ l, h.Lm) (ht : tol.Lm) : Pure Tryz.prog 55 [hL l, tol.av] (.bool (decide (LightF l tol))) := by
  have hf := fair_pure l hl
  have s1 := small_q tol 1
  change Pure _ _ _ (.bool (decide (tol.sml 1))) at s1
  rw [show ((1 : Nat) : Int) = 1 from rfl] at s1
  obtain ⟨ct, hct, t1, t2, t3, t4⟩ : ∃ ct, tol.av = .agg ct ∧ ct.length = 3 ∧ ct.take 3 = ct ∧ ct.drop 3 = [] ∧ roL ct := ⟨_, rfl, rfl, rfl, rfl, rq_cs_ro tol⟩
  refine Pure.of_go mixed Tryz.func55 rfl (rs := [.tmp 4]) rfl (by kernel_rfl) (by simp -implicitDefEqProofs [go_sem]) ?_
  by_cases a1 : FairL l
  · rw [decide_eq_true a1] at hf
    by_cases a2 : tol.sml 1
    · have hz : ∀ h ∈ l, h.In 4 := fun h hh => (hm h hh).inn (a1.1 h hh)
      have hl6 := a1.2
      have it := sml_in a2 ht
      have zt := it.sz
      have hins := gins_pure l (by omega) (fun h hh => (hz h hh).mono)
      have hgd := ggood_pure (l.map HR.val) (by simp; omega)
      have g1 := finr tol it.mono
      have g2 := fsign_pure tol.val
      have c64 := fof_pure 1 64 (by omega) (by omega) (by omega)
      have z64 := sz_frac (p := 1) (q := 64) (by omega) (by omega) (by omega)
      rw [show ((1 : Int) : Rat) / ((64 : Int) : Rat) = 1 / 64 by grind] at c64 z64
      have k64 := fof_pure 64 1 (by omega) (by omega) (by omega)
      have w64' := sz_frac (p := 64) (q := 1) (by omega) (by omega) (by omega)
      rw [show ((64 : Int) : Rat) / ((1 : Int) : Rat) = 64 by grind] at k64 w64'
      have g3 := fcmp_pure tol.val (1 / 64) (by omega) (by omega)
      have hLF : LightF l tol ↔ (¬ GoodC (l.map HR.val) ∨ tol.val ≤ 0 ∨ (1 / 64 ≤ tol.val ∧ ∀ h ∈ l.map HR.val, BxL h)) := ⟨fun h => h.2.2, fun h => ⟨a1, a2, h⟩⟩
      have hsv : ∀ h ∈ l.map HR.val, h.sz ≤ 4 := fun h hh => by
        obtain ⟨y, hy, rfl⟩ := List.mem_map.1 hh
        exact (hz y hy).sz
      rw [hct] at s1 g1 ⊢
      unfold hL gL at *
      obtain ⟨v, hv⟩ : ∃ v, v = l.map HR.val := ⟨_, rfl⟩
      rw [← hv] at hins hgd hLF hsv
      have hvl : v.length ≤ 6 := by rw [hv, List.length_map]; exact hl6
      simp only [fA_fC] at g1 g2 g3 c64 k64
      simp -implicitDefEqProofs [go_sem, t1, t2]
      refine goC_pure _ hf (by simp -implicitDefEqProofs [go_sem]) ?_
      simp -implicitDefEqProofs [go_sem, t1, t2]
      refine goC_pure _ s1 (by simp -implicitDefEqProofs [go_sem, t4]) ?_
      simp -implicitDefEqProofs [go_sem, a2, t1, t2]
      refine goD_pure _ hins (by simp -implicitDefEqProofs [go_sem]) ?_
      simp -implicitDefEqProofs [go_sem, t1, t2]
      refine goD_pure _ g1 (by simp -implicitDefEqProofs [go_sem, t4]) ?_
      simp -implicitDefEqProofs [go_sem]
      refine goC_pure _ hgd (by simp -implicitDefEqProofs [go_sem]) ?_
      by_cases hG : GoodC v
      · simp -implicitDefEqProofs [go_sem, hG]
        refine goC_pure _ g2 (by simp -implicitDefEqProofs [go_sem, ro_fC]) ?_
        by_cases h0 : tol.val ≤ 0
        · have e0 := sgnQ_le.2 h0
          have hd : decide (LightF l tol) = true := decide_eq_true (hLF.2 (.inr (.inl h0)))
          simp -implicitDefEqProofs [go_sem, e0, hd]
        · have e0 : ¬ sgnQ tol.val ≤ 0 := fun h => h0 (sgnQ_le.1 h)
          simp -implicitDefEqProofs [go_sem, e0]
          refine goD_pure _ c64 (by simp -implicitDefEqProofs [go_sem]) ?_
          simp -implicitDefEqProofs [go_sem]
          refine goD_pure _ g3 (by simp -implicitDefEqProofs [go_sem, ro_fC]) ?_
          by_cases h1 : tol.val < 1 / 64
          · have e1 := cmpQ_lt.2 h1
            have hd : decide (LightF l tol) = false := decide_eq_false (fun h => by
              rcases hLF.1 h with h | h | h
              · exact h hG
              · exact h0 h
              · grind)
            simp -implicitDefEqProofs [go_sem, e1, hd]
          · have e1 : ¬ cmpQ tol.val (1 / 64) < 0 := fun h => h1 (cmpQ_lt.1 h)
            have hLF' : LightF l tol ↔ ∀ h ∈ v, BxL h := by
              rw [hLF]
              constructor
              · intro h
                rcases h with h | h | h
                · exact absurd hG h
                · exact absurd h h0
                · exact h.2
              · intro h; exact .inr (.inr ⟨by grind, h⟩)
            simp -implicitDefEqProofs [go_sem, e1]
            refine goC_pure _ k64 (by simp -implicitDefEqProofs [go_sem]) ?_
            simp -implicitDefEqProofs [go_sem]
            refine go_loopN 13 (α := {i : Nat // i ≤ v.length ∧ ∀ h ∈ v.take i, BxL h}) (fun i => [(5, .sl 9 false (v.map gA)), (7, .ptr 12 0 0), (8, .int .i64 i.1)]) (fun i => [(12, .live 3 [.agg (fC 64)])]) (fun i => v.length - i.1) ⟨0, by simp⟩ [] (by simp) (by simp [nm]) (by omega) (by simp -implicitDefEqProofs [go_sem]) (by simp -implicitDefEqProofs [go_sem]) fun ⟨i, hi, hb⟩ => ?_
            simp -implicitDefEqProofs [go_sem]
            refine ⟨fun h5 => ?_, fun h5 => ?_⟩
            · have es : IntKind.i64.wrap ((i : Int) + 1) = (i + 1 : Nat) := by rw [w64 (by omega)]; omega
              have e1 := getE_gC (l := v) (i := i) h5
              have hmem : v[i] ∈ v := List.getElem_mem _
              have hsz := hsv _ hmem
              have hw := hG.1 _ hmem
              have hP := (v[i]).sz_P
              have f1 := gpoint_pure v[i] (by omega) (by grind)
              have hall : (∀ h ∈ v, BxL h) → BxL v[i] := fun h => h _ hmem
              have hnx : BxL v[i] → ∀ h ∈ v.take (i + 1), BxL h := fun hx h hh => by
                rw [List.take_succ_eq_append_getElem h5] at hh
                rcases List.mem_append.1 hh with hh | hh
                · exact hb h hh
                · simp at hh; rw [hh]; exact hx
              generalize v[i] = x at *
              have p1 := x.P.sz_x; have p2 := x.P.sz_y; have p3 := x.sz_w
              have q1 := sz_abs x.P.x; have q2 := sz_abs x.P.y
              have f2 := fabs_pure x.P.x
              have f3 := fcmp_pure x.P.x.abs 64 (by omega) (by omega)
              have f4 := fabs_pure x.P.y
              have f5 := fcmp_pure x.P.y.abs 64 (by omega) (by omega)
              have f6 := fcmp_pure x.w (1 / 64) (by omega) (by omega)
              have f7 := fcmp_pure x.w 64 (by omega) (by omega)
              have hno : ¬ BxL x → decide (LightF l tol) = false := fun h => decide_eq_false (fun hh => h (hall (hLF'.1 hh)))
              simp only [gA_gC, eA_eC, fA_fC] at f1 f2 f3 f4 f5 f6 f7
              simp -implicitDefEqProofs [go_sem, e1]
              refine ⟨by omega, goC_pure _ f1 (by simp -implicitDefEqProofs [go_sem, ro_gC]) ?_⟩
              simp -implicitDefEqProofs [go_sem]
              refine goD_pure _ f2 (by simp -implicitDefEqProofs [go_sem, ro_fC]) ?_
              simp -implicitDefEqProofs [go_sem]
              refine goD_pure _ f3 (by simp -implicitDefEqProofs [go_sem, ro_fC]) ?_
              by_cases b1 : 64 < x.P.x.abs
              · have c1 := cmpQ_gt.2 b1
                have hd := hno (fun h => by have := h.1; grind)
                simp -implicitDefEqProofs [go_sem, c1, hd]
              · have c1 : ¬ 0 < cmpQ x.P.x.abs 64 := fun h => b1 (cmpQ_gt.1 h)
                simp -implicitDefEqProofs [go_sem, c1]
                refine goD_pure _ f4 (by simp -implicitDefEqProofs [go_sem, ro_fC]) ?_
                simp -implicitDefEqProofs [go_sem]
                refine goD_pure _ f5 (by simp -implicitDefEqProofs [go_sem, ro_fC]) ?_
                by_cases b2 : 64 < x.P.y.abs
                · have c2 := cmpQ_gt.2 b2
                  have hd := hno (fun h => by have := h.2.1; grind)
                  simp -implicitDefEqProofs [go_sem, c2, hd]
                · have c2 : ¬ 0 < cmpQ x.P.y.abs 64 := fun h => b2 (cmpQ_gt.1 h)
                  simp -implicitDefEqProofs [go_sem, c2, e1]
                  refine ⟨by omega, goD_pure _ c64 (by simp -implicitDefEqProofs [go_sem]) ?_⟩
                  simp -implicitDefEqProofs [go_sem]
                  refine goD_pure _ f6 (by simp -implicitDefEqProofs [go_sem, ro_fC]) ?_
                  by_cases b3 : x.w < 1 / 64
                  · have c3 := cmpQ_lt.2 b3
                    have hd := hno (fun h => by have := h.2.2.1; grind)
                    simp -implicitDefEqProofs [go_sem, c3, hd]
                  · have c3 : ¬ cmpQ x.w (1 / 64) < 0 := fun h => b3 (cmpQ_lt.1 h)
                    simp -implicitDefEqProofs [go_sem, c3, e1]
                    refine ⟨by omega, goD_pure _ f7 (by simp -implicitDefEqProofs [go_sem, ro_fC]) ?_⟩
                    by_cases b4 : 64 < x.w
                    · have c4 := cmpQ_gt.2 b4
                      have hd := hno (fun h => by have := h.2.2.2; grind)
                      simp -implicitDefEqProofs [go_sem, c4, hd]
                    · have c4 : ¬ 0 < cmpQ x.w 64 := fun h => b4 (cmpQ_gt.1 h)
                      simp -implicitDefEqProofs [go_sem, c4, es]
                      refine go_again ⟨i + 1, h5, hnx ⟨by grind, by grind, by grind, by grind⟩⟩ (by simp only; omega) [] (by simp) (by simp [nm]) (by simp) (by simp -implicitDefEqProofs [go_sem, es]) (by simp -implicitDefEqProofs [go_sem])
            · have hil : i = v.length := by omega
              subst hil
              rw [List.take_length] at hb
              exact hLF'.2 hb
      · have hd : decide (LightF l tol) = true := decide_eq_true (hLF.2 (.inl hG))
        simp -implicitDefEqProofs [go_sem, hG, hd]
    · have hd : decide (LightF l tol) = false := decide_eq_false (fun h => a2 h.2.1)
      rw [hct] at s1 ⊢
      unfold hL at *
      simp -implicitDefEqProofs [go_sem, t1, t2]
      refine goC_pure _ hf (by simp -implicitDefEqProofs [go_sem]) ?_
      simp -implicitDefEqProofs [go_sem, t1, t2]
      refine goC_pure _ s1 (by simp -implicitDefEqProofs [go_sem, t4]) ?_
      simp -implicitDefEqProofs [go_sem, a2, hd]
  · rw [decide_eq_false a1] at hf
    have hd : decide (LightF l tol) = false := decide_eq_false (fun h => a1 h.1)
    rw [hct]
    unfold hL at *
    simp -implicitDefEqProofs [go_sem, t1, t2]
    refine goC_pure _ hf (by simp -implicitDefEqProofs [go_sem]) ?_
    simp -implicitDefEqProofs [go_sem, hd]
end Go.Proofs.YtmhnmaklgcppbaaGreat
namespace Go.Proofs.YtmhnmaklgcppbaaGreat
open Go Go.Proofs
set_option linter.unusedSimpArgs false
set_option linter.unusedVariables false
set_option maxRecDepth 20000

theorem ftree_sz {tol : Rat} {n : Nat} : ∀ (k : Nat) (v : List HQ), Tr tol n k v → ∀ p ∈ ftree tol k v, p.sz ≤ 2 * n
  | 0, v, h => fun p hp => by
    simp [ftree] at hp
    have hg := h.good
    have hm : v.getLastD hQ0 ∈ v := lastD_mem (by have := hg.1.2.1; omega)
    have h1 := (v.getLastD hQ0).sz_P
    have h2 := hg.2 _ hm
    rw [List.getLastD_eq_getLast?] at h1 h2
    subst hp
    simp only [Option.getD] at *
    omega
  | k + 1, v, h => fun p hp => by
    unfold ftree at hp
    split at hp
    · simp only [List.mem_singleton] at hp
      have hg := h.good
      have hm : v.getLastD hQ0 ∈ v := lastD_mem (by have := hg.1.2.1; omega)
      have h1 := (v.getLastD hQ0).sz_P
      have h2 := hg.2 _ hm
      subst hp
      omega
    · rename_i hf
      obtain ⟨t1, t2⟩ := h.2 hf
      rcases List.mem_append.1 hp with hp | hp
      · exact ftree_sz k _ t1 p hp
      · exact ftree_sz k _ t2 p hp
theorem fcv_ok {v : List HQ} {tol : Rat} (hs : ∀ h ∈ v, h.sz ≤ 51) (hT : GoodC v → 0 < tol → Tr tol 51 14 v) : (fcv v tol).1.length ≤ 16385 ∧ ∀ p ∈ (fcv v tol).1, p.sz ≤ 102 := by
  unfold fcv
  split
  · simp
  · rename_i hG
    have hG := Classical.not_not.1 hG
    split
    · simp
    · rename_i h0
      have hT := hT hG (by grind)
      have hl := ftree_len tol 14 v
      refine ⟨by simp only [List.length_cons]; omega, fun p hp => ?_⟩
      rcases List.mem_cons.1 hp with rfl | hp
      · have hm : v.headD hQ0 ∈ v := headD_mem (by have := hG.2.1; omega)
        have h1 := (v.headD hQ0).sz_P
        have h2 := hs _ hm
        omega
      · exact ftree_sz 14 v hT p hp

set_option maxHeartbeats 8000000 in
theorem fcurves_pure (l : List HR) (tol : RQ) (hl : l.length ≤ 9223372036854775807) (hm : ∀ h ∈ l, h.Lm) (ht : tol.Lm) : Pure Tryz.prog 10 [hL l, tol.av] (.bool true) := by
  have hlt := flight_pure l tol hl hm ht
  have hw := fwakes_pure
  obtain ⟨ct, hct, t1, t2, t3, t4⟩ : ∃ ct, tol.av = .agg ct ∧ ct.length = 3 ∧ ct.take 3 = ct ∧ ct.drop 3 = [] ∧ roL ct := ⟨_, rfl, rfl, rfl, rfl, rq_cs_ro tol⟩
  refine Pure.of_go mixed Tryz.func10 rfl (rs := [.tmp 4]) rfl (by kernel_rfl) (by simp -implicitDefEqProofs [go_sem]) ?_
  by_cases hLf : LightF l tol
  · rw [decide_eq_true hLf] at hlt
    have hT := fun a b => light_tr hm hLf a b
    obtain ⟨a1, a2, _⟩ := hLf
    have hz : ∀ h ∈ l, h.In 4 := fun h hh => (hm h hh).inn (a1.1 h hh)
    have hl6 := a1.2
    have it := sml_in a2 ht
    have zt := it.sz
    have hc := fcurve_pure l tol (by omega) (fun h hh => (hz h hh).mono) it.mono hT
    have hd := fdeep_pure l tol (by omega) (fun h hh => (hz h hh).mono) it.mono hT
    have hins := gins_pure l (by omega) (fun h hh => (hz h hh).mono)
    have g1 := finr tol it.mono
    have hsv : ∀ h ∈ l.map HR.val, h.sz ≤ 51 := fun h hh => by
      obtain ⟨y, hy, rfl⟩ := List.mem_map.1 hh
      have := (hz y hy).sz; omega
    have he := ecurve_pure (l.map HR.val) tol.val (by rw [List.length_map]; omega) hsv (by omega) hT
    obtain ⟨o1, o2⟩ := fcv_ok hsv hT
    have ho := eouts_pure (fcv (l.map HR.val) tol.val).1 (by omega) (fun p hp => by have := o2 p hp; omega)
    have hk := lines_self (fcv (l.map HR.val) tol.val).1 (by omega) (fun p hp => by have := o2 p hp; omega)
    have hE : 0 ≤ (fcv (l.map HR.val) tol.val).2.2 := by unfold fcv; split <;> (try split) <;> simp
    generalize l.map HR.val = v at *
    generalize fcv v tol.val = R at *
    rw [hct] at hlt hc hd g1 ⊢
    unfold fcG at he
    unfold hL gL pL eL at *
    simp only [fA_fC] at g1 he
    simp -implicitDefEqProofs [go_sem, t1, t2]
    refine goC_pure _ hlt (by simp -implicitDefEqProofs [go_sem, t4]) ?_
    simp -implicitDefEqProofs [go_sem, t1, t2]
    refine goC_pure _ hc (by simp -implicitDefEqProofs [go_sem, t4]) ?_
    simp -implicitDefEqProofs [go_sem, t1, t2]
    refine goC_pure _ hd (by simp -implicitDefEqProofs [go_sem, t4]) ?_
    simp -implicitDefEqProofs [go_sem, t1, t2]
    refine goD_pure _ hins (by simp -implicitDefEqProofs [go_sem]) ?_
    simp -implicitDefEqProofs [go_sem, t1, t2]
    refine goD_pure _ g1 (by simp -implicitDefEqProofs [go_sem, t4]) ?_
    simp -implicitDefEqProofs [go_sem]
    refine goD_pure _ he (by simp -implicitDefEqProofs [go_sem, ro_fC]) ?_
    simp -implicitDefEqProofs [go_sem]
    refine goC_pure _ ho (by simp -implicitDefEqProofs [go_sem]) ?_
    simp -implicitDefEqProofs [go_sem]
    refine goC_pure _ hk (by simp -implicitDefEqProofs [go_sem]) ?_
    by_cases hR : R.2.2 = 0
    · simp -implicitDefEqProofs [go_sem, hR]
      refine goC_pure _ hw (by simp -implicitDefEqProofs [go_sem]) ?_
      simp -implicitDefEqProofs [go_sem]
    · simp -implicitDefEqProofs [go_sem, hR]
      refine goC_pure _ hw (by simp -implicitDefEqProofs [go_sem]) ?_
      simp -implicitDefEqProofs [go_sem]
  · rw [decide_eq_false hLf] at hlt
    rw [hct] at hlt ⊢
    unfold hL at *
    simp -implicitDefEqProofs [go_sem, t1, t2]
    refine goC_pure _ hlt (by simp -implicitDefEqProofs [go_sem, t4]) ?_
    simp -implicitDefEqProofs [go_sem]
    refine goC_pure _ hw (by simp -implicitDefEqProofs [go_sem]) ?_
    simp -implicitDefEqProofs [go_sem]
end Go.Proofs.YtmhnmaklgcppbaaGreat
