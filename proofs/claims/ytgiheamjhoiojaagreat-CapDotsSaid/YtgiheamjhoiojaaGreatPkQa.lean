import Derived.Test.YtgiheamjhoiojaaGreatPkDa
import Derived.Test.YtgiheamjhoiojaaGreatPkPa
import Derived.Test.YtgiheamjhoiojaaGreatPkIa
import Derived.Test.YtgiheamjhoiojaaGreatPkEa
namespace Go.Proofs.YtgiheamjhoiojaaGreat
open Go Go.Proofs
set_option linter.unusedSimpArgs false
set_option linter.unusedVariables false
theorem uP_dot (m i : Nat) : (uP m i).dot (uP m i) = 1 := by
  have h := one_tt m i
  unfold uP kQ PQ.scale PQ.dot
  simp only
  have : (1 : Rat) / (1 + tQ m i * tQ m i) * (1 + tQ m i * tQ m i) = 1 := by grind
  generalize (1 : Rat) / (1 + tQ m i * tQ m i) = k at *
  generalize tQ m i = t at *
  have e : (1 - t * t) * k * ((1 - t * t) * k) + (t + t) * k * ((t + t) * k) = (k * (1 + t * t)) * (k * (1 + t * t)) := by grind
  rw [e, this]; grind
theorem rot_dot (p q : PQ) : p.rot.dot q.rot = p.dot q := by unfold PQ.rot PQ.dot; simp only; grind
theorem rotN_dot (j : Nat) (p q : PQ) : (rotN j p).dot (rotN j q) = p.dot q := by
  induction j with
  | zero => rfl
  | succ j ih => simp only [rotN, rot_dot, ih]
def dR (h : Rat) (m k : Nat) : PQ := (rotN (k / m) (uP m (k % m))).scale h
theorem dR_dot (h : Rat) (m k : Nat) : (dR h m k).dot (dR h m k) = h * h := by
  have := rotN_dot (k / m) (uP m (k % m)) (uP m (k % m))
  rw [uP_dot] at this
  unfold dR PQ.scale
  unfold PQ.dot at *
  simp only
  grind
theorem dL_dR {c : PQ} {h : Rat} {m k : Nat} (hm : 1 ≤ m) (hk : k < 4 * m) : (dL c h m 4)[k]'(by rw [dL_len]; omega) = c.add (dR h m k) := by
  rw [dL_get _ _ _ hm]; rfl
set_option maxRecDepth 20000
theorem rndF_cases (N : Nat → Bool) (D : Nat → List PQ) : ∀ k e, e + k = 13 → ((rndF N D k e).1 = [] ∧ (rndF N D k e).2 = 24) ∨ ∃ i, i ≤ 12 ∧ N i = false ∧ rndF N D k e = (D i, 0)
  | 0, e, _ => .inl ⟨rfl, rfl⟩
  | k + 1, e, h => by
    unfold rndF
    cases hn : N e with
    | true => simpa using rndF_cases N D k (e + 1) (by omega)
    | false => exact .inr ⟨e, by omega, hn, by simp⟩
theorem rnd_cases (c : PQ) (h tol : Rat) : ((rnd c h tol).1 = [] ∧ (rnd c h tol).2 ≠ 0) ∨ ∃ e, e ≤ 12 ∧ 0 < h ∧ 0 < tol ∧ nearB h (2 ^ e) (h - tol) = false ∧ rnd c h tol = (dL c h (2 ^ e) 4, 0) := by
  unfold rnd
  split
  · exact .inl ⟨rfl, by decide⟩
  · rename_i hn
    rcases rndF_cases (fun e => nearB h (2 ^ e) (h - tol)) (fun e => dL c h (2 ^ e) 4) 13 0 rfl with ⟨h1, h2⟩ | ⟨i, h1, h2, h3⟩
    · exact .inl ⟨h1, by rw [h2]; decide⟩
    · exact .inr ⟨i, h1, by grind, by grind, h2, h3⟩
theorem zero_add (c r : PQ) : ((⟨0, 0⟩ : PQ).add r).add c = c.add r := by
  unfold PQ.add
  exact PQ.ext (by simp only; grind) (by simp only; grind)
theorem dR_sz {h : Rat} {k i : Nat} (hk : 1 ≤ k) (hk2 : k ≤ 4096) : (dR h k i).sz ≤ 16 + sz h := by
  have h1 := sz_uP (m := k) (i := i % k) hk hk2 (Nat.le_of_lt (Nat.mod_lt _ (by omega)))
  have h2 := sz_rotN (i / k) (uP k (i % k))
  have h3 := PQ.sz_scale (rotN (i / k) (uP k (i % k))) h
  unfold dR; omega
theorem cmpQ_self (x : Rat) : cmpQ x x = 0 := by
  have a := @cmpQ_lt x x; have b := @cmpQ_gt x x
  have : ¬ cmpQ x x < 0 := fun h => by have := a.1 h; grind
  have : ¬ 0 < cmpQ x x := fun h => by have := b.1 h; grind
  omega
theorem far_add (c p : PQ) : (c.add p).far c = p.dot p := by
  unfold PQ.far PQ.add PQ.sub PQ.dot
  simp only
  grind
theorem dL_szs {c : PQ} {h : Rat} {m : Nat} (hm : 1 ≤ m) (hm2 : m ≤ 4096) : ∀ p ∈ dL c h m 4, p.sz ≤ c.sz + sz h + 17 := fun p hp => by
  obtain ⟨k, hk, rfl⟩ := List.mem_iff_getElem.1 hp
  rw [dL_len] at hk
  rw [dL_dR hm hk]
  have := PQ.sz_add c (dR h m k)
  have := dR_sz (h := h) (k := m) (i := k) hm hm2
  omega
end Go.Proofs.YtgiheamjhoiojaaGreat
