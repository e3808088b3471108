/-
  Layer 10: bytes, runes, runs.
-/
import Derived.Test.YtpmahilkkoengaaLxA
namespace Go.Proofs.Ytpmahilkkoengaa
open Go Go.Proofs
set_option linter.unusedSimpArgs false
set_option linter.unusedVariables false

theorem by_len (s : ByteArray) : (by_ s).length = s.size := Array.length_toList

theorem get_bt (s : ByteArray) (p : Nat) : (s.get! p).toNat = bt s p := by
  unfold bt by_
  rw [List.getD_eq_getElem?_getD]
  unfold ByteArray.get!
  simp only [Array.getElem!_eq_getD, Array.getElem?_toList, Array.getD_eq_getD_getElem?]
  rfl
theorem dec_lo {s : ByteArray} {p : Nat} (h : bt s p < 128) : Utf8.decode s p = (bt s p, 1) := by
  have h0 := get_bt s p
  unfold Utf8.decode
  simp only [Nat.add_zero, h0, h, if_true]
theorem dec_hi {s : ByteArray} {p : Nat} (h : ¬ bt s p < 128) : 128 ≤ (Utf8.decode s p).1 := by
  have h0 := get_bt s p
  unfold Utf8.decode
  simp only [Nat.add_zero, h0, h, if_false]
  repeat' split
  all_goals simp only [Utf8.runeError]
  all_goals first | omega | (rename_i h1; simp at h1; omega)
theorem kind_hi {c : Int} (h : 128 ≤ c) : kind c = 0 := by unfold kind; grind
theorem kind_dec (s : ByteArray) (p : Nat) : kind ((Utf8.decode s p).1 : Nat) = kind (bt s p : Nat) := by
  by_cases h : bt s p < 128
  · rw [dec_lo h]
  · rw [kind_hi (by have := dec_hi h; omega), kind_hi (by omega)]
theorem kind_lo {c : Int} (h : kind c ≠ 0) : c < 128 := by
  refine Int.not_le.1 fun h1 => h (kind_hi h1)
theorem wid {s : ByteArray} {p : Nat} (h : kind (bt s p : Nat) ≠ 0) : Utf8.decode s p = (bt s p, 1) := dec_lo (by have := kind_lo h; omega)

/-- How many bytes of a kind stand ahead. -/
def runL (l : List UInt8) (k : Int) : Nat := (l.takeWhile fun b => kind (b.toNat : Nat) = k).length
theorem runL_le (l : List UInt8) (k : Int) : runL l k ≤ l.length := (List.takeWhile_sublist _).length_le

theorem runL_stop {l : List UInt8} {k : Int} {p : Nat} (h : ∀ j, j < p → kind ((l.getD j 0).toNat : Nat) = k) (hp : p < l.length) (hn : kind ((l.getD p 0).toNat : Nat) ≠ k) : runL l k = p := by
  induction l generalizing p with
  | nil => simp at hp
  | cons b l ih =>
    unfold runL
    cases p with
    | zero =>
      simp only [List.getD_cons_zero] at hn
      rw [List.takeWhile_cons_of_neg (by simpa using hn)]; rfl
    | succ p =>
      have h0 := h 0 (by omega)
      simp only [List.getD_cons_zero] at h0
      rw [List.takeWhile_cons_of_pos (by simpa using h0), List.length_cons]
      congr 1
      exact ih (fun j hj => by have := h (j + 1) (by omega); simpa using this) (by simpa using hp) (by simpa using hn)
theorem runL_all {l : List UInt8} {k : Int} (h : ∀ j, j < l.length → kind ((l.getD j 0).toNat : Nat) = k) : runL l k = l.length := by
  induction l with
  | nil => rfl
  | cons b l ih =>
    have h0 := h 0 (by simp)
    simp only [List.getD_cons_zero] at h0
    unfold runL
    rw [List.takeWhile_cons_of_pos (by simpa using h0), List.length_cons, List.length_cons]
    congr 1
    exact ih fun j hj => by have := h (j + 1) (by simpa using hj); simpa using this

theorem run_pure (s : ByteArray) (k : Int) (hk : k ≠ 0) : Pure Try.prog 12 [.str s, .int .i64 k] (.int .i64 (runL (by_ s) k)) := by
  refine Pure.of_go mixed Try.func12 rfl (rs := [.tmp 4]) rfl (by kernel_rfl) (by simp only [ro]) ?_
  simp [go_sem, aresK, oneOf, view, fits]
  refine go_loops (α := {p : Nat // p ≤ s.size ∧ ∀ j, j < p → kind (bt s j : Nat) = k}) (fun _ => [(0, .str s), (1, .int .i64 k), (8, .ptr 2 0 0)]) (fun p => [(2, .iter s p.1)]) (fun p => s.size - p.1) ⟨0, by simp⟩ [] (by simp) (by simp) (by simp) (by simp [go_sem, clo]) (by simp [go_sem, cloB]) fun ⟨p, hp1, hp2⟩ => ?_
  simp [go_sem]
  refine ⟨fun h => ?_, fun h => ?_⟩
  · refine goC_pure _ (kind_pure _) (by simp [roL, ro]) ?_
    simp [go_sem, aresK, oneOf, view, fits, kind_dec]
    refine ⟨fun h1 => ?_, fun h1 => ?_⟩
    · rw [runL_stop (fun j hj => hp2 j hj) (by rw [by_len]; exact h) h1]
    · rw [wid (by rw [h1]; exact hk)]
      exact go_again ⟨p + 1, by omega, fun j hj => (by rcases Nat.lt_succ_iff_lt_or_eq.1 hj with hj | rfl; exact hp2 j hj; exact h1)⟩ (by simp only; omega) [] (by simp) (by simp) (by simp) (by simp [go_sem, clo]) (by simp [go_sem, cloB])
  · simp [go_sem, aresK, oneOf, view, fits]
    rw [runL_all (fun j hj => hp2 j (by rw [by_len] at hj; omega)), by_len]
end Go.Proofs.Ytpmahilkkoengaa
