/-
  Layer 10: token by token; the check that all is awake.
-/
import Derived.Test.YtpmahilkkoengaaLxE
namespace Go.Proofs.Ytpmahilkkoengaa
open Go Go.Proofs
set_option linter.unusedSimpArgs false
set_option linter.unusedVariables false

theorem getE_tok {l : List Tok} {i : Nat} (h : i < l.length) : getE (l.map tokAV) (i : Int) = tokAV l[i] := by
  simp [getE, List.getD_eq_getElem?_getD, h]

theorem tokens_pure (l : List Tok) (hl : l.length ≤ 9223372036854775806) : Pure Try.prog 10 [.sl 4 false (l.map tokAV), .sl 4 false (l.map tokAV)] (.bool true) := by
  refine Pure.of_go mixed Try.func10 rfl (rs := [.tmp 4]) rfl (by kernel_rfl) (by simp only [ro]) ?_
  simp [go_sem, aresK, oneOf, view, fits]
  refine go_loops (α := {i : Nat // i ≤ l.length}) (fun i => [(0, .sl 4 false (l.map tokAV)), (1, .sl 4 false (l.map tokAV)), (5, .int .i64 i.1)]) (fun i => []) (fun i => l.length - i.1) ⟨0, by omega⟩ [] (by simp) (by simp) (by simp) (by simp [go_sem, clo]) (by simp) fun ⟨i, hi⟩ => ?_
  simp [go_sem, aresK, oneOf, view, fits]
  intro h
  have hw : IntKind.i64.wrap ((i : Int) + 1) = (i + 1 : Nat) := by rw [w64 (by omega)]; omega
  simp [go_sem, getE_tok h, tokAV, h]
  refine go_again ⟨i + 1, by omega⟩ (by simp only; omega) [] (by simp) (by simp) (by simp) (by simp [go_sem, clo, hw]) (by simp)

def cut1 : List Tok := [⟨1, bs [77], 0, 0⟩, ⟨2, ByteArray.empty, 10, 2⟩, ⟨2, ByteArray.empty, -5, 5⟩, ⟨3, ByteArray.empty, 0, 7⟩, ⟨1, bs [122], 0, 8⟩]
theorem scan1 : scan 0 [77, 32, 49, 48, 44, 45, 53, 10, 122] = .ok cut1 := by
  simp [scan, step, kind, runL, numL, Except.map, cut1]
theorem scan2 : scan 0 [77, 32, 49, 46, 53] = .error 3 := by
  simp [scan, step, kind, runL, numL, Except.map]
theorem cutAV1 : cutAV ⟨#[77, 32, 49, 48, 44, 45, 53, 10, 122]⟩ = .tup [slv 4 (cut1.map tokAV), .int .i64 0, .int .i64 0] := by
  have h : by_ ⟨#[77, 32, 49, 48, 44, 45, 53, 10, 122]⟩ = [77, 32, 49, 48, 44, 45, 53, 10, 122] := by simp only [by_]
  have hz : ByteArray.size ⟨#[77, 32, 49, 48, 44, 45, 53, 10, 122]⟩ = 9 := by rw [← by_len, h]; rfl
  rw [cutAV, hz, if_neg (by omega), h, scan1]
theorem cutAV2 : cutAV ⟨#[77, 32, 49, 46, 53]⟩ = .tup [.sl 0 true [], .int .i64 3, .int .i64 20] := by
  have h : by_ ⟨#[77, 32, 49, 46, 53]⟩ = [77, 32, 49, 46, 53] := by simp only [by_]
  have hz : ByteArray.size ⟨#[77, 32, 49, 46, 53]⟩ = 5 := by rw [← by_len, h]; rfl
  rw [cutAV, hz, if_neg (by omega), h, scan2]
  rfl
theorem cut1_len : cut1.length = 5 := rfl
theorem g0 : getE (cut1.map tokAV) 0 = .agg [.int .i64 1, .str ⟨#[77]⟩, .int .i64 0, .int .i64 0] := rfl
theorem g2 : getE (cut1.map tokAV) 2 = .agg [.int .i64 2, .str ByteArray.empty, .int .i64 (-5), .int .i64 5] := rfl
theorem g3 : getE (cut1.map tokAV) 3 = .agg [.int .i64 3, .str ByteArray.empty, .int .i64 0, .int .i64 7] := rfl
theorem g4 : getE (cut1.map tokAV) 4 = .agg [.int .i64 1, .str (bs [122]), .int .i64 0, .int .i64 8] := rfl
theorem slv1 : slv 4 (cut1.map tokAV) = .sl 4 false (cut1.map tokAV) := by
  unfold slv; rw [if_neg]; simp [cut1]
theorem cut1_pure : Pure Try.prog 8 [.str ⟨#[77, 32, 49, 48, 44, 45, 53, 10, 122]⟩] (.tup [.sl 4 false (cut1.map tokAV), .int .i64 0, .int .i64 0]) := by
  have h := cut_pure ⟨#[77, 32, 49, 48, 44, 45, 53, 10, 122]⟩
  rwa [cutAV1, slv1] at h
theorem cut2_pure : Pure Try.prog 8 [.str ⟨#[77, 32, 49, 46, 53]⟩] (.tup [.sl 0 true [], .int .i64 3, .int .i64 20]) := by
  have h := cut_pure ⟨#[77, 32, 49, 46, 53]⟩
  rwa [cutAV2] at h
theorem wakes_pure : Pure Try.prog 7 [] (.bool true) := by
  refine Pure.of_go mixed Try.func7 rfl (rs := [.tmp 0]) rfl (by kernel_rfl) (by simp only [ro]) ?_
  simp [go_sem, aresK, oneOf, view, fits]
  refine goC_pure _ cut1_pure (by simp [roL, ro, roL_tok]) ?_
  simp [go_sem, aresK, oneOf, view, fits]
  refine goC_pure _ cut2_pure (by simp [roL, ro]) ?_
  simp only [go_extract, go_move, go_ops_nil, extrV_tup, goV_some, goV_true, aev_tmp, putA_some, upd_lit', ↓reduceIte, Nat.reduceEqDiff, List.getD_cons_zero, List.getD_cons_succ, List.length_cons, List.length_nil, Nat.reduceAdd, Nat.reduceLT, true_and]
  rw [go_assign, go_assign, go_assign, go_ops_nil]
  simp only [aev_tmp, putA_some, upd_lit', ↓reduceIte, Nat.reduceEqDiff]
  rw [go_seq, go_region]
  simp [go_sem, aresK, oneOf, view, fits, g0, g2, g3, g4, cut1_len]
end Go.Proofs.Ytpmahilkkoengaa
