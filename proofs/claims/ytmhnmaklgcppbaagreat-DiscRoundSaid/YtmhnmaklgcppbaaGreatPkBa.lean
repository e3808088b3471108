/-
  Of the seat's texts, joined: ArB.
-/
import Derived.Test.YtmhnmaklgcppbaaGreatPkQa
namespace Go.Proofs.YtmhnmaklgcppbaaGreat
open Go Go.Proofs
set_option linter.unusedSimpArgs false
set_option linter.unusedVariables false
set_option maxRecDepth 20000

theorem orient_le (a b c : PQ) : PQ.orient a b c ≤ 1 := by
  unfold PQ.orient sgnQ sgnI
  split <;> (try split) <;> omega
set_option maxHeartbeats 8000000 in
theorem convex_pure (l : List PQ) (hl : 3 ≤ l.length) (hl2 : l.length ≤ 1048576) (hs : ∀ p ∈ l, p.sz ≤ 1073741824)
    (hne : ∀ i k (hi : i < l.length) (hk : k < l.length), k ≠ i → l[i] ≠ l[k])
    (ho : ∀ i k (hi : i < l.length) (hk : k < l.length), 0 ≤ PQ.orient l[i] (l[(i + 1) % l.length]'(Nat.mod_lt _ (by omega))) l[k])
    (h1 : 0 < PQ.orient (l[0]'(by omega)) (l[1]'(by omega)) (l[2]'(by omega))) : Pure Tryz.prog 54 [pL l] (.bool true) := by
  have hnx := fun i hi => anext_pure l i (by omega) (by omega) hi
  have hlw : IntKind.i64.wrap (l.length : Int) = l.length := w64 (by omega)
  have hl3 : ¬ (l.length : Int) < 3 := by omega
  refine Pure.of_go mixed Tryz.func54 rfl (rs := [.tmp 2]) rfl (by kernel_rfl) (by simp -implicitDefEqProofs [go_sem]) ?_
  unfold pL at *
  simp -implicitDefEqProofs [go_sem, hl3]
  refine go_loopN 0 (α := {s : Nat × Int // s.1 ≤ l.length ∧ 0 ≤ s.2 ∧ s.2 ≤ s.1 * 1048576 ∧ (0 < s.1 → 1 ≤ s.2)}) (fun s => [(0, .sl 6 false (l.map pA)), (3, .int .i64 s.1.2), (13, .sl 6 false (l.map pA)), (14, .int .i64 l.length), (15, .int .i64 s.1.1)])
    (fun s => []) (fun s => l.length - s.1.1) ⟨(0, 0), by simp⟩ [] (by simp) (fun _ _ _ _ h => h) (by omega) (by simp -implicitDefEqProofs [go_sem, hlw]) (by simp -implicitDefEqProofs [go_sem]) fun ⟨⟨i, T⟩, hi, t0, t1, t2⟩ => ?_
  simp only at hi t0 t1 t2
  simp -implicitDefEqProofs [go_sem]
  refine ⟨fun h5 => ?_, fun h5 => ?_⟩
  · have es : IntKind.i64.wrap ((i : Int) + 1) = (i + 1 : Nat) := by rw [w64 (by omega)]; omega
    have hlt : (i + 1) % l.length < l.length := Nat.mod_lt _ (by omega)
    have e1 := getE_pA (l := l) (i := i) h5
    have e2 := getE_pA hlt
    have n1 := hnx i h5
    have hro := ro_pC l[i]
    have hrq := ro_pC l[(i + 1) % l.length]
    have hor : ∀ k (hk : k < l.length), 0 ≤ PQ.orient l[i] (l[(i + 1) % l.length]'hlt) l[k] := fun k hk => ho i k h5 hk
    have hcn := fun k (hk : k < l.length) => porientq l[i] l[(i + 1) % l.length] l[k] (hs _ (List.getElem_mem h5)) (hs _ (List.getElem_mem hlt)) (hs _ (List.getElem_mem hk))
    have hsm := fun k (hk : k < l.length) => psameq_pure l[i] l[k] (by have := hs _ (List.getElem_mem h5); omega) (by have := hs _ (List.getElem_mem hk); omega)
    have hn2 := fun k (hk : k < l.length) => hne i k h5 hk
    have hi0 : i = 0 → ∀ h2 : 2 < l.length, 0 < PQ.orient l[i] l[(i + 1) % l.length] l[2] := fun hi0 h2 => by
      subst hi0
      have : (0 + 1) % l.length = 1 := Nat.mod_eq_of_lt (by omega)
      simp only [this]
      exact h1
    simp only [pA_pC] at hcn hsm
    generalize l[(i + 1) % l.length] = q at *
    generalize l[i] = p at *
    generalize (i + 1) % l.length = j at *
    simp -implicitDefEqProofs [go_sem, e1]
    refine ⟨by omega, goC_pure _ n1 (by simp -implicitDefEqProofs [go_sem]) ?_⟩
    simp -implicitDefEqProofs [go_sem, e2]
    refine ⟨by omega, ?_⟩
    refine go_loopN 2 (α := {s : Nat × Int // s.1 ≤ l.length ∧ 0 ≤ s.2 ∧ s.2 ≤ i * 1048576 + s.1 ∧ (0 < i ∨ 2 < s.1 → 1 ≤ s.2)}) (fun s => [(0, .sl 6 false (l.map pA)), (3, .int .i64 s.1.2), (4, .int .i64 i), (5, .ptr 0 0 0), (6, .ptr 1 0 0), (13, .sl 6 false (l.map pA)), (14, .int .i64 l.length), (15, .int .i64 i), (26, .sl 6 false (l.map pA)), (27, .int .i64 l.length), (28, .int .i64 s.1.1)])
      (fun s => [(0, .live 6 [.agg (pC p)]), (1, .live 6 [.agg (pC q)])]) (fun s => l.length - s.1.1) ⟨(0, T), by simp only; omega⟩ [] (by simp) (fun _ _ _ _ h => h) (by omega) (by simp -implicitDefEqProofs [go_sem, hlw]) (by simp -implicitDefEqProofs [go_sem]) fun ⟨⟨k, U⟩, hk, u0, u1, u2⟩ => ?_
    simp only at hk u0 u1 u2
    simp -implicitDefEqProofs [go_sem]
    refine ⟨fun h6 => ?_, fun h6 => ?_⟩
    · have ek : IntKind.i64.wrap ((k : Int) + 1) = (k + 1 : Nat) := by rw [w64 (by omega)]; omega
      have f1 := getE_pA (l := l) (i := k) h6
      have f2 := hcn k h6
      have f3 := hsm k h6
      have f4 := hor k h6
      have f5 := orient_le p q l[k]
      have f6 := hn2 k h6
      have f7 : i = 0 → k = 2 → 1 ≤ PQ.orient p q l[k] := fun a b => by subst b; have := hi0 a h6; omega
      generalize l[k] = r at *
      generalize PQ.orient p q r = O at *
      have eu : IntKind.i64.wrap (U + O) = U + O := w64 (by omega)
      have hO : ¬ O < 0 := by omega
      have hst : k + 1 ≤ l.length ∧ 0 ≤ U + O ∧ U + O ≤ i * 1048576 + (k + 1 : Nat) ∧ (0 < i ∨ 2 < k + 1 → 1 ≤ U + O) := by
        refine ⟨h6, by omega, by omega, fun h => ?_⟩
        by_cases ha : 0 < i ∨ 2 < k
        · have := u2 ha; omega
        · have := f7 (by omega) (by omega); omega
      by_cases hki : k = i
      · subst hki
        simp -implicitDefEqProofs [go_sem, f1]
        refine ⟨by omega, goC_pure _ f2 (by simp -implicitDefEqProofs [go_sem, ro_pC]) ?_⟩
        simp -implicitDefEqProofs [go_sem, hO, eu, ek]
        refine go_again ⟨(k + 1, U + O), hst⟩ (by simp only; omega) [] (by simp) (fun _ _ _ _ h => h) (by simp) (by simp -implicitDefEqProofs [go_sem, ek]) (by simp -implicitDefEqProofs [go_sem])
      · have hki' : ¬ (k : Int) = i := by omega
        have f6 := f6 hki
        simp -implicitDefEqProofs [go_sem, f1, hki']
        refine ⟨by omega, goC_pure _ f3 (by simp -implicitDefEqProofs [go_sem, ro_pC]) ?_⟩
        simp -implicitDefEqProofs [go_sem, f6]
        refine goC_pure _ f2 (by simp -implicitDefEqProofs [go_sem, ro_pC]) ?_
        simp -implicitDefEqProofs [go_sem, hO, eu, ek]
        refine go_again ⟨(k + 1, U + O), hst⟩ (by simp only; omega) [] (by simp) (fun _ _ _ _ h => h) (by simp) (by simp -implicitDefEqProofs [go_sem, ek]) (by simp -implicitDefEqProofs [go_sem])
    · simp -implicitDefEqProofs [go_sem, es]
      refine go_again ⟨(i + 1, U), by refine ⟨h5, u0, ?_, fun _ => u2 (.inr (by omega))⟩; simp only; omega⟩ (by simp only; omega) [] (by simp) (fun _ _ _ _ h => h) (by simp) (by simp -implicitDefEqProofs [go_sem, es]) (by simp -implicitDefEqProofs [go_sem])
  · have : 0 < T := by have := t2 (by omega); omega
    simp -implicitDefEqProofs [go_sem, this]
end Go.Proofs.YtmhnmaklgcppbaaGreat
