/-
  Layer 10: the types; a byte's kind; letters and digits.
-/
import Derived.Test.YtpmahilkkoengaaFwS
import Derived.Test.YtpmahilkkoengaaProg
namespace Go.Proofs.Ytpmahilkkoengaa
open Go Go.Proofs
set_option linter.unusedSimpArgs false
set_option linter.unusedVariables false

theorem mixed : Try.prog.follows .mixedOrders = true := by kernel_rfl
@[go_sem] theorem ti2 : tiOf Try.prog 2 = some ⟨1, 8, (.int .i64), [(.int .i64 0)]⟩ := by kernel_rfl
@[go_sem] theorem ti3 : tiOf Try.prog 3 = some ⟨1, 8, (.int .i64), [(.int .i64 0)]⟩ := by kernel_rfl
@[go_sem] theorem ti4 : tiOf Try.prog 4 = some ⟨1, 1, .bool, [(.bool false)]⟩ := by kernel_rfl
@[go_sem] theorem ti5 : tiOf Try.prog 5 = some ⟨1, 1, (.int .u8), [(.int .u8 0)]⟩ := by kernel_rfl
@[go_sem] theorem ti9 : tiOf Try.prog 9 = some ⟨1, 16, .string, [(.str ByteArray.empty)]⟩ := by kernel_rfl
@[go_sem] theorem ti21 : tiOf Try.prog 21 = some ⟨1, 4, (.int .i32), [(.int .i32 0)]⟩ := by kernel_rfl
@[go_sem] theorem ti23 : tiOf Try.prog 23 = some ⟨1, 24, (.slice 33), [(.sl 0 true [])]⟩ := by kernel_rfl
@[go_sem] theorem ti24 : tiOf Try.prog 24 = some ⟨1, 8, (.int .i64), [(.int .i64 0)]⟩ := by kernel_rfl
@[go_sem] theorem ti28 : tiOf Try.prog 28 = some ⟨3, 40, (.struct [(0, 23), (1, 3), (2, 3)]), [(.sl 0 true []), (.int .i64 0), (.int .i64 0)]⟩ := by kernel_rfl
@[go_sem] theorem ti33 : tiOf Try.prog 33 = some ⟨4, 40, (.struct [(0, 3), (1, 9), (2, 2), (3, 3)]), [(.int .i64 0), (.str ByteArray.empty), (.int .i64 0), (.int .i64 0)]⟩ := by kernel_rfl
@[go_sem] theorem ti35 : tiOf Try.prog 35 = some ⟨1, 8, (.int .u64), [(.int .u64 0)]⟩ := by kernel_rfl
@[go_sem] theorem ti36 : tiOf Try.prog 36 = some ⟨1, 24, (.slice 5), [(.sl 0 true [])]⟩ := by kernel_rfl

/-- A rune's kind. -/
def kind (c : Int) : Int :=
  if c = 32 ∨ c = 44 then 1 else if 97 ≤ c ∧ c ≤ 122 ∨ 65 ≤ c ∧ c ≤ 90 then 2 else if 48 ≤ c ∧ c ≤ 57 then 3 else if c = 45 then 4 else if c = 10 then 5 else 0

theorem kind_pure (c : Int) : Pure Try.prog 11 [.int .i32 c] (.int .i64 (kind c)) := by
  refine Pure.of_go mixed Try.func11 rfl (rs := [.tmp 2]) rfl (by kernel_rfl) (by simp only [ro]) ?_
  simp [go_sem, aresK, oneOf, view, fits]
  repeat' (first | intro _ | apply And.intro)
  all_goals (unfold kind; grind)
end Go.Proofs.Ytpmahilkkoengaa
