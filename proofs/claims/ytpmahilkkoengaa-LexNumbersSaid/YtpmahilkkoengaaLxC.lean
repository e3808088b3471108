/-
  Layer 10: numbers.
-/
import Derived.Test.YtpmahilkkoengaaLxB
namespace Go.Proofs.Ytpmahilkkoengaa
open Go Go.Proofs
set_option linter.unusedSimpArgs false
set_option linter.unusedVariables false

/-- A number out of digits, cut at 2 to the 62. -/
def numL (n : Int) : List UInt8 → Int
  | [] => n
  | b :: r => let d : Int := (b.toNat : Int) - 48
    if n > (4611686018427387904 - d) / 10 then 4611686018427387904 else numL (n * 10 + d) r

theorem kind_digit {c : Int} : kind c = 3 ↔ 48 ≤ c ∧ c ≤ 57 := by unfold kind; grind
theorem kind_minus {c : Int} : kind c = 4 ↔ c = 45 := by unfold kind; grind
theorem drop_bt {s : ByteArray} {p : Nat} (h : p < s.size) : (by_ s).drop p = (by_ s)[p]'(by rw [by_len]; exact h) :: (by_ s).drop (p + 1) := List.drop_eq_getElem_cons _
theorem bt_get {s : ByteArray} {p : Nat} (h : p < s.size) : ((by_ s)[p]'(by rw [by_len]; exact h)).toNat = bt s p := by
  unfold bt
  rw [List.getD_eq_getElem?_getD, List.getElem?_eq_getElem (by rw [by_len]; exact h)]
  rfl
theorem w32 {x : Int} (h : -2147483648 ≤ x ∧ x ≤ 2147483647) : IntKind.i32.wrap x = x := by
  simp only [IntKind.wrap, IntKind.bits, IntKind.signed]; simp; omega
theorem w8 {x : Int} (h : 0 ≤ x ∧ x ≤ 255) : IntKind.u8.wrap x = x := by
  simp only [IntKind.wrap, IntKind.bits, IntKind.signed]; simp; omega

theorem number_pure (s : ByteArray) (hd : ∀ j, j < s.size → kind (bt s j : Nat) = 3) : Pure Try.prog 13 [.str s] (.int .i64 (numL 0 (by_ s))) := by
  refine Pure.of_go mixed Try.func13 rfl (rs := [.tmp 2]) rfl (by kernel_rfl) (by simp only [ro]) ?_
  simp [go_sem, aresK, oneOf, view, fits]
  refine go_loops (α := {p : Nat × Int // p.1 ≤ s.size ∧ 0 ≤ p.2 ∧ p.2 ≤ 4611686018427387904 ∧ numL 0 (by_ s) = numL p.2 ((by_ s).drop p.1)}) (fun p => [(3, .int .i64 p.1.2), (8, .ptr 3 0 0)]) (fun p => [(3, .iter s p.1.1)]) (fun p => s.size - p.1.1) ⟨(0, 0), by simp⟩ [] (by simp) (by simp) (by simp) (by simp [go_sem, clo]) (by simp [go_sem, cloB]) fun ⟨⟨p, n⟩, hp1, hn0, hn1, hp2⟩ => ?_
  simp only at hp1 hn0 hn1 hp2
  simp [go_sem, aresK, oneOf, view, fits]
  refine ⟨fun h => ?_, fun h => ?_⟩
  · have hk := hd p h
    have hb := kind_digit.1 hk
    rw [wid (by rw [hk]; decide)]
    rw [drop_bt h] at hp2
    simp only [numL, bt_get h] at hp2
    simp only
    simp (disch := omega) only [w32, w64, Int.tdiv_eq_ediv_of_nonneg]
    refine ⟨fun h1 => ?_, fun h1 => ?_⟩
    · rw [hp2, if_pos (by omega)]
    · rw [if_neg (by omega)] at hp2
      simp (disch := omega) only [w64]
      exact go_again ⟨(p + 1, _), by simp only; omega, by simp only; omega, by simp only; omega, hp2⟩ (by simp only; omega) [] (by simp) (by simp) (by simp) (by simp [go_sem, clo]) (by simp [go_sem, cloB])
  · rw [hp2, List.drop_of_length_le (by rw [by_len]; omega)]
    rfl

theorem letter_pure (c : Nat) : Pure Try.prog 14 [.int .u8 c] (.bool (decide (kind c = 2))) := by
  refine Pure.of_go mixed Try.func14 rfl (rs := [.tmp 2]) rfl (by kernel_rfl) (by simp only [ro]) ?_
  simp [go_sem, aresK, oneOf, view, fits]
  repeat' (first | intro _ | apply And.intro)
  all_goals grind [kind]
theorem digit_pure (c : Nat) : Pure Try.prog 15 [.int .u8 c] (.bool (decide (kind c = 3))) := by
  refine Pure.of_go mixed Try.func15 rfl (rs := [.tmp 2]) rfl (by kernel_rfl) (by simp only [ro]) ?_
  simp [go_sem, aresK, oneOf, view, fits]
  repeat' (first | intro _ | apply And.intro)
  all_goals grind [kind]

/-- a number that may bear a sign -/
def refNum (l : List UInt8) : Int := if l.head? = some 45 then -numL 0 l.tail else numL 0 l

theorem refnum_pure (s : ByteArray) (hsz : s.size ≤ 9223372036854775807) (h0 : 0 < s.size) (h1 : bt s 0 = 45 ∨ kind (bt s 0 : Nat) = 3) (hd : ∀ j, 0 < j → j < s.size → kind (bt s j : Nat) = 3) : Pure Try.prog 16 [.str s] (.int .i64 (refNum (by_ s))) := by
  refine Pure.of_go mixed Try.func16 rfl (rs := [.tmp 2]) rfl (by kernel_rfl) (by simp only [ro]) ?_
  simp [go_sem, aresK, oneOf, view, fits]
  refine go_loops (α := {p : Nat × Int // p.1 ≤ s.size ∧ 0 ≤ p.2 ∧ p.2 ≤ 4611686018427387904 ∧ (if bt s 0 = 45 then numL 0 (by_ s).tail else numL 0 (by_ s)) = if bt s 0 = 45 ∧ p.1 = 0 then numL p.2 (by_ s).tail else numL p.2 ((by_ s).drop p.1)}) (fun p => [(0, .str s), (3, .int .i64 p.1.2), (4, .int .i64 p.1.1)]) (fun p => []) (fun p => s.size - p.1.1) ⟨(0, 0), by simp⟩ [] (by simp) (by simp) (by simp) (by simp [go_sem, clo]) (by simp [go_sem, cloB]) fun ⟨⟨p, n⟩, hp1, hn0, hn1, hp2⟩ => ?_
  simp only at hp1 hn0 hn1 hp2
  simp [go_sem, aresK, oneOf, view, fits]
  have h00 : bt s 0 = 45 → (by_ s).head? = some 45 := by
    intro h
    have := drop_bt h0
    rw [List.drop_zero] at this
    have h5 := bt_get h0
    rw [this, List.head?_cons]
    rw [h] at h5
    congr 1
    exact UInt8.toNat_inj.1 h5
  have h01 : (by_ s).head? = some 45 → bt s 0 = 45 := by
    intro h
    have := drop_bt h0
    rw [List.drop_zero] at this
    have h5 := bt_get h0
    rw [this, List.head?_cons] at h
    injection h with h
    rw [h] at h5
    exact h5.symm
  have fin : ∀ v, (if bt s 0 = 45 then numL 0 (by_ s).tail else numL 0 (by_ s)) = v → 0 ≤ v → v ≤ 4611686018427387904 → ((bt s 0 : Int) = 45 → IntKind.i64.wrap (-v) = refNum (by_ s)) ∧ (¬ (bt s 0 : Int) = 45 → v = refNum (by_ s)) := by
    intro v hv hv0 hv1
    refine ⟨fun h => ?_, fun h => ?_⟩
    · rw [if_pos (by omega)] at hv
      rw [w64 (by omega), refNum, if_pos (h00 (by omega)), hv]
    · rw [if_neg (by omega)] at hv
      rw [refNum, if_neg (fun h' => h (by rw [h01 h']; rfl)), hv]
  refine ⟨fun h => ⟨h, fun h2 => ?_, fun h2 => ?_⟩, fun h => ⟨h0, ?_⟩⟩
  · have hp0 : p = 0 := by
      rcases Nat.eq_zero_or_pos p with h' | h'
      · exact h'
      · have := kind_digit.1 (hd p h' h); omega
    subst hp0
    rw [w64 (by omega)]
    refine go_again ⟨(1, n), by simp only; omega, by simp only; omega, by simp only; omega, ?_⟩ (by simp only; omega) [] (by simp) (by simp) (by simp) (by simp [go_sem, clo]) (by simp [go_sem, cloB])
    rw [hp2, if_pos (by omega), if_neg (by simp)]
    simp
  · have hk : kind (bt s p : Nat) = 3 := by
      rcases Nat.eq_zero_or_pos p with h' | h'
      · subst h'; rcases h1 with h1 | h1
        · omega
        · exact h1
      · exact hd p h' h
    have hb := kind_digit.1 hk
    rw [if_neg (c := bt s 0 = 45 ∧ p = 0) (by rintro ⟨h3, rfl⟩; omega), drop_bt h] at hp2
    simp only [numL, bt_get h] at hp2
    simp (disch := omega) only [w8, w64, Int.tdiv_eq_ediv_of_nonneg]
    refine ⟨h, fun h3 => ⟨h0, ?_⟩, fun h3 => ?_⟩
    · exact fin _ (by rw [hp2, if_pos (by omega)]) (by decide) (by decide)
    · rw [if_neg (c := n > _) (by omega)] at hp2
      simp (disch := omega) only [w64]
      refine go_again ⟨(p + 1, n * 10 + ((bt s p : Nat) - 48)), by simp only; omega, by simp only; omega, by simp only; omega, ?_⟩ (by simp only; omega) [] (by simp) (by simp) (by simp) (by simp [go_sem, clo]) (by simp [go_sem, cloB])
      rw [hp2, if_neg (by simp)]
  · refine fin _ ?_ hn0 hn1
    rw [hp2, if_neg (by rintro ⟨h3, rfl⟩; omega), List.drop_of_length_le (by rw [by_len]; omega)]
    rfl
end Go.Proofs.Ytpmahilkkoengaa
