/-
  Layer 10: P10.2, blanks and commas between tokens change places alone.
-/
import Derived.Test.YtpmahilkkoengaaLxK
namespace Go.Proofs.Ytpmahilkkoengaa
open Go Go.Proofs
set_option linter.unusedSimpArgs false
set_option linter.unusedVariables false

theorem by_append (a b : ByteArray) : by_ (a ++ b) = by_ a ++ by_ b := by
  unfold by_
  rw [ByteArray.data_append, Array.toList_append]
def two (s t : ByteArray) : ByteArray := ⟨#[32, 44]⟩ ++ s ++ ⟨#[44, 32]⟩ ++ t ++ ⟨#[44, 44]⟩
theorem by_two (s t : ByteArray) : by_ (two s t) = 32 :: 44 :: (by_ s ++ 44 :: 32 :: (by_ t ++ [44, 44])) := by
  unfold two
  rw [by_append, by_append, by_append, by_append]
  simp [by_]
theorem two_size (s t : ByteArray) : (two s t).size = s.size + t.size + 6 := by
  rw [← by_len, by_two]; simp [by_len]; omega
theorem cutR_ok {s : ByteArray} (h : s.size ≤ 1048576) {l : List Tok} (hs : scan 0 (by_ s) = .ok l) : cutR s = (l, 0, 0) := by unfold cutR; rw [if_neg (by omega), hs]
theorem cutR_err {s : ByteArray} (h : s.size ≤ 1048576) {p : Nat} (hs : scan 0 (by_ s) = .error p) : cutR s = ([], (p : Int), 20) := by unfold cutR; rw [if_neg (by omega), hs]

theorem tok_lt' : ∀ (n : Nat) (l r : List Tok) (s : ByteArray) (to : Nat), r.length ≤ n → to ≤ s.size → scan to ((by_ s).drop to) = .ok r → ∀ t ∈ r, t.p < s.size := by
  intro n
  induction n with
  | zero =>
    intro l r s to hr h1 h t ht
    rw [List.eq_nil_of_length_eq_zero (by omega : r.length = 0)] at ht
    cases ht
  | succ n ih =>
    intro l r s to hr h1 h t ht
    cases r with
    | nil => cases ht
    | cons x r =>
      obtain ⟨g1, g2, g3, e, g4, g5, g6⟩ := scan_next s.size to (by omega) h1 h
      rcases List.mem_cons.1 ht with rfl | ht
      · exact g2
      · exact ih l r s e (by simpa using hr) g4 g6 t ht
theorem tok_lt {s : ByteArray} {r : List Tok} (h : scan 0 (by_ s) = .ok r) {t : Tok} (ht : t ∈ r) : t.p < s.size :=
  tok_lt' _ [] r s 0 (Nat.le_refl _) (by omega) (by rw [List.drop_zero]; exact h) t ht

theorem lexParts_pure (s t : ByteArray) : Pure Try.prog 4 [.str s, .str t] (.bool true) := by
  refine Pure.of_goz true mixed Try.func4 rfl (rs := [.tmp 4]) rfl (by kernel_rfl) (by simp only [ro]) ?_
  simp -implicitDefEqProofs [go_sem, aresK, oneOf, view, fits]
  refine ⟨fun hs => ⟨fun ht => ?_, fun ht => ?_⟩, fun hs => ?_⟩
  rotate_right
  · refine goC_pure _ wakes_pure (by simp [roL]) ?_
    simp -implicitDefEqProofs [go_sem, aresK, oneOf, view, fits]
  · refine goC_pure _ wakes_pure (by simp [roL]) ?_
    simp -implicitDefEqProofs [go_sem, aresK, oneOf, view, fits]
  refine goC_pure _ (cut_read s) (by simp [roL, ro]) ?_
  simp -implicitDefEqProofs [go_sem, aresK, oneOf, view, fits]
  refine goC_pure _ (cut_read t) (by simp [roL, ro]) ?_
  simp -implicitDefEqProofs [go_sem, aresK, oneOf, view, fits]
  refine ⟨by omega, by omega, by omega, by omega, ?_⟩
  refine goC_pure _ (cut_read (two s t)) (by simp [roL, ro]) ?_
  have hz := two_size s t
  have hA := cutR_len s
  have hB := cutR_len t
  have h2 := scan_two (by_ s) (by_ t)
  rw [← by_two] at h2
  cases ha : scan 0 (by_ s) with
  | error e =>
    rw [ha] at h2
    rw [cutR_err (by omega) ha, cutR_err (by omega) h2]
    simp -implicitDefEqProofs [go_sem, aresK, oneOf, view, fits]
    refine goC_pure _ wakes_pure (by simp [roL]) ?_
    simp -implicitDefEqProofs [go_sem, aresK, oneOf, view, fits]
  | ok a =>
    cases hb : scan 0 (by_ t) with
    | error e =>
      rw [ha, hb] at h2
      rw [cutR_ok (by omega) ha, cutR_err (by omega) hb, cutR_err (by omega) h2]
      simp -implicitDefEqProofs [go_sem, aresK, oneOf, view, fits]
      refine goC_pure _ wakes_pure (by simp [roL]) ?_
      simp -implicitDefEqProofs [go_sem, aresK, oneOf, view, fits]
    | ok b =>
      rw [ha, hb, by_len] at h2
      rw [cutR_ok (by omega) ha] at hA ⊢
      rw [cutR_ok (by omega) hb] at hB ⊢
      rw [cutR_ok (by omega) h2]
      simp only at hA hB ⊢
      have hla : ∀ i (h : i < a.length), a[i].p < s.size := fun i h => tok_lt ha (List.getElem_mem h)
      have hlb : ∀ i (h : i < b.length), b[i].p < t.size := fun i h => tok_lt hb (List.getElem_mem h)
      have hwl : IntKind.i64.wrap ((a.length : Int) + b.length) = a.length + b.length := w64 (by omega)
      generalize hC : List.map (shT 2) a ++ List.map (shT (4 + s.size)) b = C at *
      have hCl : C.length = a.length + b.length := by rw [← hC]; simp
      simp -implicitDefEqProofs [go_sem, aresK, oneOf, view, fits, hwl, hCl]
      refine go_loops (α := {i : Nat // i ≤ a.length + b.length}) (fun i => [(0, .str s), (5, .sl 4 false (a.map tokAV)), (8, .sl 4 false (b.map tokAV)), (11, .sl 4 false (C.map tokAV)), (14, .int .i64 i.1)]) (fun i => []) (fun i => a.length + b.length - i.1) ⟨0, by omega⟩ [] (by simp) (by simp) (by simp) (by simp -implicitDefEqProofs [go_sem, clo]) (by simp) fun ⟨i, hi⟩ => ?_
      simp -implicitDefEqProofs [go_sem, aresK, oneOf, view, fits, hCl]
      have hwi : IntKind.i64.wrap ((i : Int) + 1) = (i + 1 : Nat) := by rw [w64 (by omega)]; omega
      refine ⟨fun hi2 => ⟨fun h => ?_, fun h => ?_⟩, fun hi2 => ?_⟩
      · have hg1 : getE (a.map tokAV) (i : Int) = tokAV a[i] := getE_tok h
        have hg2 : getE (C.map tokAV) (i : Int) = tokAV (shT 2 a[i]) := by
          rw [getE_tok (by omega)]
          congr 1
          subst hC
          rw [List.getElem_append_left (by simpa using h), List.getElem_map]
        have hp := hla i h
        generalize a[i] = x at *
        have hw2 : IntKind.i64.wrap ((x.p : Int) + 2) = (x.p + 2 : Nat) := by rw [w64 (by omega)]; omega
        refine go_loose' (by kernel_rfl) ?_
        simp -implicitDefEqProofs [go_sem, aresK, oneOf, rop, view, fits, hCl, hg1, hg2, tokAV, shT, hw2, h]
        refine go_strict' (by kernel_rfl) ?_
        simp -implicitDefEqProofs [go_sem, aresK, oneOf, rop, view, fits, hCl, hg1, hg2, tokAV, shT, hw2]
        refine ⟨by omega, ?_⟩
        refine go_again ⟨i + 1, by omega⟩ (by simp only; omega) [] (by simp) (by simp) (by simp) (by simp [go_sem, clo, hwi]) (by simp)
      · have h' : i - a.length < b.length := by omega
        have hws : IntKind.i64.wrap ((i : Int) - a.length) = (i - a.length : Nat) := by rw [w64 (by omega)]; omega
        have hg1 : getE (b.map tokAV) ((i - a.length : Nat) : Int) = tokAV b[i - a.length] := getE_tok h'
        have hg2 : getE (C.map tokAV) (i : Int) = tokAV (shT (4 + s.size) b[i - a.length]) := by
          rw [getE_tok (by omega)]
          congr 1
          subst hC
          rw [List.getElem_append_right (by simpa using h), List.getElem_map]
          simp
        have hp := hlb _ h'
        generalize b[i - a.length] = x at *
        refine go_loose' (by kernel_rfl) ?_
        simp -implicitDefEqProofs [go_sem, aresK, oneOf, rop, view, fits, hCl, hws, hg1, hg2, tokAV, shT, h']
        refine go_strict' (by kernel_rfl) ?_
        have hw4 : IntKind.i64.wrap ((x.p : Int) + 4) = (x.p + 4 : Nat) := by rw [w64 (by omega)]; omega
        have hw5 : IntKind.i64.wrap ((x.p : Int) + 4 + s.size) = (x.p + 4 + s.size : Nat) := by rw [w64 (by omega)]; omega
        simp -implicitDefEqProofs [go_sem, aresK, oneOf, rop, view, fits, hCl, hg1, hg2, tokAV, shT, hw4, hw5]
        refine ⟨hi2, by omega, fun _ => ?_⟩
        refine go_again ⟨i + 1, by omega⟩ (by simp only; omega) [] (by simp) (by simp) (by simp) (by simp [go_sem, clo, hwi]) (by simp)
      · refine goC_pure _ wakes_pure (by simp [roL]) ?_
        simp -implicitDefEqProofs [go_sem, aresK, oneOf, view, fits]
end Go.Proofs.Ytpmahilkkoengaa
