/-
  Layer 10: P10.1, where tokens stand.
-/
import Derived.Test.YtpmahilkkoengaaLxG
namespace Go.Proofs.Ytpmahilkkoengaa
open Go Go.Proofs
set_option linter.unusedSimpArgs false
set_option linter.unusedVariables false

/-- A token stands there, and ends ahead of e. -/
def Stands (s : ByteArray) (t : Tok) (e : Nat) : Prop :=
  (t.k = 1 ∧ 0 < t.s.size ∧ e = t.p + t.s.size ∧ s.extract t.p (t.p + t.s.size) = t.s) ∨
  (t.k = 2 ∧ e = t.p + 1 + runL ((by_ s).drop (t.p + 1)) 3) ∨
  (t.k = 3 ∧ e = t.p + 1 ∧ bt s t.p = 10)

theorem kind_blank {c : Int} : kind c = 1 ↔ c = 32 ∨ c = 44 := by unfold kind; grind
theorem kind_end {c : Int} : kind c = 5 ↔ c = 10 := by unfold kind; grind

theorem bs_size (l : List UInt8) : (bs l).size = l.length := by rw [← by_len, by_bs]
theorem step_stands {s : ByteArray} {p : Nat} (hp : p < s.size) {t : Tok} {m : Nat} (h : step p ((by_ s)[p]'(by rw [by_len]; exact hp)) ((by_ s).drop (p + 1)) = some (some t, m)) : t.p = p ∧ Stands s t (p + 1 + m) ∧ p + 1 + m ≤ s.size := by
  have hb := bt_get hp
  have h2 := runL_drop_le s (p + 1) 2
  have h3 := runL_drop_le s (p + 1) 3
  unfold step at h
  simp only [hb] at h
  split at h
  · simp at h
  split at h
  · simp only [Option.some.injEq, Prod.mk.injEq] at h
    obtain ⟨rfl, rfl⟩ := h
    refine ⟨rfl, .inl ⟨rfl, ?_, ?_, ?_⟩, by omega⟩
    · rw [bs_size]; simp
    · rw [bs_size]; simp [by_len]; omega
    · rw [extract_bs, bs_size]
      simp only
      simp [by_len]
      rw [drop_bt hp]
      rw [show min (runL ((by_ s).drop (p + 1)) 2) (s.size - (p + 1)) = runL ((by_ s).drop (p + 1)) 2 by omega]
      rw [List.take_succ_cons]
  split at h
  · simp only [Option.some.injEq, Prod.mk.injEq] at h
    obtain ⟨rfl, rfl⟩ := h
    exact ⟨rfl, .inr (.inl ⟨rfl, rfl⟩), by omega⟩
  split at h
  · split at h
    · cases h
    · simp only [Option.some.injEq, Prod.mk.injEq] at h
      obtain ⟨rfl, rfl⟩ := h
      exact ⟨rfl, .inr (.inl ⟨rfl, rfl⟩), by omega⟩
  split at h
  · rename_i hk
    simp only [Option.some.injEq, Prod.mk.injEq] at h
    obtain ⟨rfl, rfl⟩ := h
    have := kind_end.1 hk
    exact ⟨rfl, .inr (.inr ⟨rfl, rfl, by simp only; omega⟩), by omega⟩
  · cases h

/-- The next token: blanks alone ahead of it. -/
theorem scan_next {s : ByteArray} {t : Tok} {r : List Tok} : ∀ (n to : Nat), s.size - to ≤ n → to ≤ s.size → scan to ((by_ s).drop to) = .ok (t :: r) →
    to ≤ t.p ∧ t.p < s.size ∧ (∀ j, to ≤ j → j < t.p → (bt s j : Int) = 32 ∨ (bt s j : Int) = 44) ∧ ∃ e, e ≤ s.size ∧ Stands s t e ∧ scan e ((by_ s).drop e) = .ok r := by
  intro n
  induction n with
  | zero =>
    intro to hn h1 h
    rw [List.drop_of_length_le (by rw [by_len]; omega), scan] at h
    cases h
  | succ n ih =>
    intro to hn h1 h
    by_cases hto : to < s.size
    · rw [scan_at hto] at h
      cases hs : step to ((by_ s)[to]'(by rw [by_len]; exact hto)) ((by_ s).drop (to + 1)) with
      | none => rw [hs] at h; cases h
      | some q =>
        obtain ⟨t', m⟩ := q
        rw [hs] at h
        simp only at h
        cases t' with
        | none =>
          have hk : kind (bt s to : Nat) = 1 ∧ m = 0 := by
            have hb := bt_get hto
            unfold step at hs
            simp only [hb] at hs
            split at hs
            · rename_i hk; simp at hs; exact ⟨hk, hs.symm⟩
            · repeat' split at hs
              all_goals simp at hs
          obtain ⟨hk, rfl⟩ := hk
          have h' : scan (to + 1) ((by_ s).drop (to + 1)) = .ok (t :: r) := by
            cases hx : scan (to + 1) ((by_ s).drop (to + 1)) with
            | error e => simp only [Nat.add_zero] at h; rw [hx] at h; cases h
            | ok l => simp only [Nat.add_zero] at h; rw [hx] at h; simpa [Except.map] using h
          obtain ⟨g1, g2, g3, g4⟩ := ih (to + 1) (by omega) (by omega) h'
          refine ⟨by omega, g2, fun j hj hj2 => ?_, g4⟩
          rcases Nat.eq_or_lt_of_le hj with rfl | hj
          · exact kind_blank.1 hk
          · exact g3 j hj hj2
        | some t' =>
          obtain ⟨e1, e2, e3⟩ := step_stands hto hs
          cases hx : scan (to + 1 + m) ((by_ s).drop (to + 1 + m)) with
          | error e => rw [hx] at h; cases h
          | ok l =>
            rw [hx] at h
            simp [Except.map] at h
            obtain ⟨rfl, rfl⟩ := h
            exact ⟨by omega, by omega, fun j hj hj2 => by omega, _, e3, e2, hx⟩
    · rw [List.drop_of_length_le (by rw [by_len]; omega), scan] at h
      cases h

theorem scan_err {s : ByteArray} {e : Nat} : ∀ (n to : Nat), s.size - to ≤ n → to ≤ s.size → scan to ((by_ s).drop to) = .error e → e < s.size := by
  intro n
  induction n with
  | zero =>
    intro to hn h1 h
    rw [List.drop_of_length_le (by rw [by_len]; omega), scan] at h
    cases h
  | succ n ih =>
    intro to hn h1 h
    by_cases hto : to < s.size
    · rw [scan_at hto] at h
      cases hs : step to ((by_ s)[to]'(by rw [by_len]; exact hto)) ((by_ s).drop (to + 1)) with
      | none => rw [hs] at h; simp at h; omega
      | some q =>
        obtain ⟨t', m⟩ := q
        rw [hs] at h
        simp only at h
        cases hx : scan (to + 1 + m) ((by_ s).drop (to + 1 + m)) with
        | error e' =>
          rw [hx] at h; simp [Except.map] at h; subst h
          by_cases hle : to + 1 + m ≤ s.size
          · exact ih _ (by omega) hle hx
          · rw [List.drop_of_length_le (by rw [by_len]; omega), scan] at hx; cases hx
        | ok l => rw [hx] at h; cases h
    · rw [List.drop_of_length_le (by rw [by_len]; omega), scan] at h
      cases h

structure AtsS (s : ByteArray) (l : List Tok) where
  i : Nat
  to : Nat
  h1 : i ≤ l.length
  h2 : to ≤ s.size
  h3 : scan to ((by_ s).drop to) = .ok (l.drop i)

theorem lexAts_pure (s : ByteArray) : Pure Try.prog 6 [.str s] (.bool true) := by
  refine Pure.of_go mixed Try.func6 rfl (rs := [.tmp 2]) rfl (by kernel_rfl) (by simp only [ro]) ?_
  simp [go_sem, aresK, oneOf, view, fits]
  refine ⟨fun h => ?_, fun hsz => ?_⟩
  · refine goC_pure _ wakes_pure (by simp [roL]) ?_
    simp [go_sem, aresK, oneOf, view, fits]
  refine goC_pure _ (cut_read s) (by simp [roL, ro]) ?_
  have hl1 := cutR_len s
  cases hsc : scan 0 (by_ s) with
  | error e =>
    have hlt := scan_err (s := s) s.size 0 (by omega) (by omega) (by rw [List.drop_zero]; exact hsc)
    have hc : cutR s = ([], (e : Int), 20) := by unfold cutR; rw [if_neg (by omega), hsc]
    simp [go_sem, aresK, oneOf, view, fits, hc]
    refine ⟨fun _ => goC_pure _ wakes_pure (by simp [roL]) ?_, hlt⟩
    simp [go_sem, aresK, oneOf, view, fits]
  | ok l =>
    have hc : cutR s = (l, 0, 0) := by unfold cutR; rw [if_neg (by omega), hsc]
    rw [hc] at hl1 ⊢
    simp only at hl1 ⊢
    simp [go_sem, aresK, oneOf, view, fits]
    refine go_loops (α := AtsS s l) (fun x => [(0, .str s), (3, .sl 4 false (l.map tokAV)), (6, .int .i64 x.to), (7, .int .i64 x.i)]) (fun x => []) (fun x => l.length - x.i) ⟨0, 0, by omega, by omega, by simpa using hsc⟩ [] (by simp) (by simp) (by simp) (by simp [go_sem, clo]) (by simp) fun ⟨i, to, h1, h2, h3⟩ => ?_
    simp [go_sem, aresK, oneOf, view, fits]
    refine ⟨fun hi => ?_, fun hi => ?_⟩
    · obtain ⟨g1, g2, g3, e, g4, g5, g6⟩ := scan_next (t := l[i]) (r := l.drop (i + 1)) s.size to (by omega) h2 (by rw [h3, List.drop_eq_getElem_cons hi])
      have hg : getE (l.map tokAV) (i : Int) = tokAV l[i] := getE_tok hi
      generalize l[i] = t at *
      simp [go_sem, aresK, oneOf, rop, view, fits, hg, tokAV]
      refine ⟨hi, fun _ => ⟨g2, fun _ => ?_⟩, g1⟩
      have hwi : IntKind.i64.wrap ((i : Int) + 1) = (i + 1 : Nat) := by rw [w64 (by omega)]; omega
      have hwp : IntKind.i64.wrap ((t.p : Int) + 1) = (t.p + 1 : Nat) := by rw [w64 (by omega)]; omega
      refine go_loops (α := {k : Nat // to ≤ k ∧ k ≤ t.p}) (fun k => [(0, .str s), (3, .sl 4 false (l.map tokAV)), (6, .int .i64 to), (7, .int .i64 i), (8, .ptr 25 0 0), (9, .int .i64 k.1)]) (fun k => [(25, .live 4 [.agg [.int .i64 t.k, .str t.s, .int .i64 t.n, .int .i64 t.p]])]) (fun k => t.p - k.1) ⟨to, by omega, by omega⟩ [] (by simp) (by simp) (by simp) (by simp [go_sem, clo]) (by simp [go_sem, cloB, clo]) fun ⟨k, k1, k2⟩ => ?_
      simp [go_sem, aresK, oneOf, rop, view, fits]
      refine ⟨fun hk => ?_, fun hk => ?_⟩
      · have hb := g3 k k1 hk
        have hwk : IntKind.i64.wrap ((k : Int) + 1) = (k + 1 : Nat) := by rw [w64 (by omega)]; omega
        refine ⟨by omega, fun h32 => ⟨by omega, by omega, fun h44 => ?_⟩, fun h32 => ?_⟩
        · refine go_again ⟨k + 1, by omega, by omega⟩ (by simp only; omega) [] (by simp) (by simp) (by simp) (by simp [go_sem, clo, hwk]) (by simp [go_sem, cloB, clo])
        · refine go_again ⟨k + 1, by omega, by omega⟩ (by simp only; omega) [] (by simp) (by simp) (by simp) (by simp [go_sem, clo, hwk]) (by simp [go_sem, cloB, clo])
      · rcases g5 with ⟨t1, t2, t3, t4⟩ | ⟨t1, t2⟩ | ⟨t1, t2, t3⟩
        · have hws : IntKind.i64.wrap ((t.p : Int) + t.s.size) = (t.p + t.s.size : Nat) := by rw [w64 (by omega)]; omega
          have hts : ((t.p : Int) + t.s.size).toNat = t.p + t.s.size := by omega
          simp [t1, go_sem, aresK, oneOf, rop, view, fits, hws, hts, t4]
          have hne : ¬ t.s = ByteArray.empty := fun h => by rw [h] at t2; simp at t2
          refine ⟨fun _ => ⟨fun hle => ⟨by omega, ?_⟩, by omega⟩, hne⟩
          refine go_again ⟨i + 1, e, by omega, g4, g6⟩ (by simp only; omega) [] (by simp) (by simp) (by simp) (by simp [go_sem, clo, hwi, t3]) (by simp)
        · simp [t1, go_sem, aresK, oneOf, rop, view, fits, hwp]
          refine go_loops (α := RunS s (t.p + 1) (t.p + 1) 3) (fun x => [(0, .str s), (3, .sl 4 false (l.map tokAV)), (6, .int .i64 x.m), (7, .int .i64 i)]) (fun x => []) (fun x => s.size - x.m) ⟨t.p + 1, by omega, by omega, fun j hj hj2 => by omega⟩ [] (by simp) (by simp) (by simp) (by simp [go_sem, clo]) (by simp) fun ⟨m, m1, m2, m3⟩ => ?_
          have hwm : IntKind.i64.wrap ((m : Int) + 1) = (m + 1 : Nat) := by rw [w64 (by omega)]; omega
          have fin : (m < s.size → kind (bt s m : Nat) ≠ 3) → m = e := fun hs => by
            have := run_stop m1 m2 m3 hs
            omega
          simp [go_sem, aresK, oneOf, rop, view, fits]
          refine ⟨fun hm => ⟨hm, fun h48 => ⟨hm, fun h57 => ?_, fun h57 => ?_⟩, fun h48 => ?_⟩, fun hm => ?_⟩
          · refine go_again ⟨m + 1, by omega, by omega, fun j hj hj2 => (by rcases Nat.lt_succ_iff_lt_or_eq.1 hj2 with hj2 | rfl; exact m3 j hj hj2; exact kind_digit.2 ⟨h48, h57⟩)⟩ (by simp only; omega) [] (by simp) (by simp) (by simp) (by simp [go_sem, clo, hwm]) (by simp)
          · have := fin fun _ h => by have := kind_digit.1 h; omega
            refine go_again ⟨i + 1, e, by omega, g4, g6⟩ (by simp only; omega) [] (by simp) (by simp) (by simp) (by simp [go_sem, clo, hwi, this]) (by simp)
          · have := fin fun _ h => by have := kind_digit.1 h; omega
            refine go_again ⟨i + 1, e, by omega, g4, g6⟩ (by simp only; omega) [] (by simp) (by simp) (by simp) (by simp [go_sem, clo, hwi, this]) (by simp)
          · have := fin fun h => by omega
            refine go_again ⟨i + 1, e, by omega, g4, g6⟩ (by simp only; omega) [] (by simp) (by simp) (by simp) (by simp [go_sem, clo, hwi, this]) (by simp)
        · simp [t1, go_sem, aresK, oneOf, rop, view, fits, hwp]
          refine ⟨g2, by omega, fun _ => ?_⟩
          refine go_again ⟨i + 1, e, by omega, g4, g6⟩ (by simp only; omega) [] (by simp) (by simp) (by simp) (by simp [go_sem, clo, hwi, t2]) (by simp)
    · refine goC_pure _ wakes_pure (by simp [roL]) ?_
      simp [go_sem, aresK, oneOf, view, fits]
end Go.Proofs.Ytpmahilkkoengaa
