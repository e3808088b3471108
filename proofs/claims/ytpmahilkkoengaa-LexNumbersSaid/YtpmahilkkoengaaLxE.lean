/-
  Layer 10: the cut by definition.
-/
import Derived.Test.YtpmahilkkoengaaLxD
namespace Go.Proofs.Ytpmahilkkoengaa
open Go Go.Proofs
set_option linter.unusedSimpArgs false
set_option linter.unusedVariables false

def ofAV (s : ByteArray) : AV :=
  if 1048576 < s.size then .agg [.sl 0 true [], .int .i64 0, .int .i64 22]
  else match scan 0 (by_ s) with
    | .ok l => .agg [slv 4 (l.map tokAV), .int .i64 0, .int .i64 0]
    | .error p => .agg [.sl 0 true [], .int .i64 p, .int .i64 20]
theorem ro_of (s : ByteArray) : ro (ofAV s) := by
  unfold ofAV
  split
  · simp [ro, roL]
  · split
    · simp only [ro, roL, and_true]; exact ro_slv (roL_tok _)
    · simp [ro, roL]

structure OfS (s : ByteArray) where
  p : Nat
  l : List Tok
  h1 : p ≤ s.size
  h4 : scan 0 (by_ s) = (scan p ((by_ s).drop p)).map (l ++ ·)
  h5 : l.length ≤ p
structure RunS (s : ByteArray) (a b : Nat) (k : Int) where
  m : Nat
  h1 : b ≤ m
  h2 : m ≤ s.size
  h3 : ∀ j, a ≤ j → j < m → kind (bt s j : Nat) = k

theorem run_stop {s : ByteArray} {a m : Nat} {k : Int} (h1 : a ≤ m) (h2 : m ≤ s.size) (h3 : ∀ j, a ≤ j → j < m → kind (bt s j : Nat) = k) (h : m < s.size → kind (bt s m : Nat) ≠ k) : runL ((by_ s).drop a) k = m - a := by
  have hg : ∀ j, (((by_ s).drop a).getD j 0).toNat = bt s (a + j) := by
    intro j; simp [bt, List.getD_eq_getElem?_getD, List.getElem?_drop]
  rcases Nat.lt_or_ge m s.size with hm | hm
  · refine runL_stop (fun j hj => ?_) ?_ ?_
    · rw [hg]; exact h3 _ (by omega) (by omega)
    · rw [List.length_drop, by_len]; omega
    · rw [hg, show a + (m - a) = m by omega]; exact h hm
  · rw [runL_all (fun j hj => ?_), List.length_drop, by_len]
    · omega
    · rw [List.length_drop, by_len] at hj
      rw [hg]; exact h3 _ (by omega) (by omega)

theorem num_fin {s : ByteArray} {p m : Nat} {l : List Tok} (hp : p < s.size) (h4 : scan 0 (by_ s) = (scan p ((by_ s).drop p)).map (l ++ ·)) (hf : kind (bt s p : Nat) = 3 ∨ (bt s p : Int) = 45) (g1 : p + 1 ≤ m) (g2 : m ≤ s.size) (g3 : ∀ j, p + 1 ≤ j → j < m → kind (bt s j : Nat) = 3)
    (hs : m < s.size → kind (bt s m : Nat) ≠ 3) : (¬ ((bt s p : Int) = 45 ∧ m = p + 1) → scan 0 (by_ s) = (scan m ((by_ s).drop m)).map ((l ++ [⟨2, ByteArray.empty, refNum (by_ (s.extract p m)), p⟩]) ++ ·)) ∧ ((bt s p : Int) = 45 ∧ m = p + 1 → scan 0 (by_ s) = .error p) := by
  have hb := bt_get hp
  have hr := run_stop g1 g2 g3 hs
  have hx : by_ (s.extract p m) = (by_ s)[p]'(by rw [by_len]; exact hp) :: ((by_ s).drop (p + 1)).take (m - (p + 1)) := by
    rw [by_extract, drop_bt hp, show m - p = m - (p + 1) + 1 by omega, List.take_succ_cons]
  rcases hf with hk | h45
  · have hne : ¬ (bt s p : Int) = 45 := fun h => by rw [h] at hk; exact absurd hk (by decide)
    refine ⟨fun _ => ?_, fun h => absurd h.1 hne⟩
    have h4' := scan_step hp h4 (t := some ⟨2, ByteArray.empty, refNum (by_ (s.extract p m)), p⟩) (m := m - (p + 1)) (by
      simp [step, hb, hk, hr, hx, refNum]
      intro h
      exact absurd (by rw [← hb, h]; rfl) hne)
    rw [show p + 1 + (m - (p + 1)) = m by omega] at h4'
    exact h4'
  · have hk : kind (bt s p : Nat) = 4 := by rw [kind_minus]; exact h45
    have h45' : (by_ s)[p]'(by rw [by_len]; exact hp) = 45 := UInt8.toNat_inj.1 (by rw [hb]; show bt s p = 45; omega)
    refine ⟨fun h => ?_, fun h => scan_stop hp h4 (by simp [step, hb, hk, hr]; omega)⟩
    have h4' := scan_step hp h4 (t := some ⟨2, ByteArray.empty, refNum (by_ (s.extract p m)), p⟩) (m := m - (p + 1)) (by
      simp [step, hb, hk, hr, hx, refNum, h45', show kind 45 = 4 from by decide]
      omega)
    rw [show p + 1 + (m - (p + 1)) = m by omega] at h4'
    exact h4'

set_option maxHeartbeats 1000000 in
theorem of_pure (s : ByteArray) : Pure Try.prog 9 [.str s] (ofAV s) := by
  refine Pure.of_go mixed Try.func9 rfl (rs := [.cell 2 28]) rfl (by kernel_rfl) (ro_of s) ?_
  simp [go_sem, aresK, oneOf, rop, view, viewL, fits, fitsL]
  refine ⟨fun h => ?_, fun hsz => ?_⟩
  · rw [ofAV, if_pos (by omega)]
  refine go_loops (α := OfS s) (fun x => [(0, .str s), (2, .ptr 0 0 0), (3, apv 4 1 (x.l.map tokAV)), (4, .int .i64 x.p)]) (fun x => (0, .live 3 [.agg [.sl 0 true [], .int .i64 0, .int .i64 0]]) :: apb 4 1 (x.l.map tokAV)) (fun x => s.size - x.p) ⟨0, [], by omega, by simp [Except.map]; cases scan 0 (by_ s) <;> rfl, by simp⟩ [] (by simp) (by simp [go_sem]) (by simp) (by simp [go_sem, clo, cloL]) (by simp [go_sem, cloB, clo]) fun ⟨p, l, h1, h4, h5⟩ => ?_
  simp [go_sem, aresK, oneOf, view, viewL, fits, fitsL]
  refine ⟨fun hp => ?_, fun hp => ?_⟩
  · have hb := bt_get hp
    have hb8 : bt s p < 256 := by rw [← hb]; exact UInt8.toNat_lt _
    have hw : IntKind.i64.wrap ((p : Int) + 1) = (p + 1 : Nat) := by rw [w64 (by omega)]; omega
    refine ⟨hp, fun h32 => ⟨fun h44 => ?_, fun h44 => ⟨fun h10 => ?_, fun h10 => ?_⟩⟩, fun h32 => ?_⟩
    · have hk : kind (bt s p : Nat) = 1 := by grind [kind]
      have h4' := scan_step hp h4 (t := none) (m := 0) (by simp [step, hb, hk])
      refine go_again ⟨p + 1, l, by omega, by simpa using h4', by omega⟩ (by simp only; omega) [] (by simp) (by simp [go_sem]) (by simp) (by simp [go_sem, clo, hw]) ?_
      simp +contextual [go_sem, cloB, clo]
    · have hk : kind (bt s p : Nat) = 5 := by grind [kind]
      have h4' := scan_step hp h4 (t := some ⟨3, ByteArray.empty, 0, p⟩) (m := 0) (by simp [step, hb, hk])
      refine goApS_apv (.inl rfl) (by decide) (by decide) (by simp [go_sem]) (by simp; omega) (fun hl => by simp [go_sem] at hl ⊢; exact hl) ?_
      simp [go_sem, hw]
      refine go_again ⟨p + 1, l ++ [⟨3, ByteArray.empty, 0, p⟩], by omega, by simpa using h4', by simp; omega⟩ (by simp only; omega) [(1, 29)] (by simp) (by simp [go_sem]) (by simp) (by simp [go_sem, clo, hw]) ?_
      simp [go_sem, cloB, clo]
      rfl
    · refine goC_pure _ (letter_pure _) (by simp [roL, ro]) ?_
      simp [go_sem, aresK, oneOf, view, viewL, fits, fitsL]
      refine ⟨fun hk => ?_, fun hk => ?_⟩
      · -- a word
        have hc : runL ((by_ s).drop p) 2 = runL ((by_ s).drop (p + 1)) 2 + 1 := by rw [drop_bt hp]; exact runL_cons (by rw [hb]; exact hk)
        refine go_loops (α := RunS s p p 2) (fun x => [(0, .str s), (2, .ptr 0 0 0), (3, apv 4 1 (l.map tokAV)), (4, .int .i64 p), (6, .int .i64 x.m)]) (fun x => (0, .live 3 [.agg [.sl 0 true [], .int .i64 0, .int .i64 0]]) :: apb 4 1 (l.map tokAV)) (fun x => s.size - x.m) ⟨p, by omega, by omega, fun j hj hj2 => by omega⟩ [] (by simp) (by simp [go_sem]) (by simp) (by simp [go_sem, clo, cloL]) ?_ fun ⟨m, g1, g2, g3⟩ => ?_
        · simp +contextual [go_sem, cloB, clo]
        simp [go_sem, aresK, oneOf, view, viewL, fits, fitsL]
        have fin : (m < s.size → kind (bt s m : Nat) ≠ 2) → p < m ∧ scan 0 (by_ s) = (scan m ((by_ s).drop m)).map ((l ++ [⟨1, s.extract p m, 0, p⟩]) ++ ·) := by
          intro hs
          have hr := run_stop g1 g2 g3 hs
          have h4' := scan_step hp h4 (t := some ⟨1, s.extract p m, 0, p⟩) (m := m - p - 1) (by
            simp [step, hb, hk]
            rw [extract_bs, drop_bt hp, show m - p = runL ((by_ s).drop (p + 1)) 2 + 1 by omega]
            exact ⟨rfl, by omega⟩)
          rw [show p + 1 + (m - p - 1) = m by omega] at h4'
          exact ⟨by omega, h4'⟩
        have hwm : IntKind.i64.wrap ((m : Int) + 1) = (m + 1 : Nat) := by rw [w64 (by omega)]; omega
        refine ⟨fun hm => ⟨hm, goC_pure _ (letter_pure _) (by simp [roL, ro]) ?_⟩, fun hm => ⟨⟨g1, g2⟩, ?_⟩⟩
        · simp [go_sem, aresK, oneOf, view, viewL, fits, fitsL]
          refine ⟨fun hk2 => ?_, fun hk2 => ⟨⟨g1, g2⟩, ?_⟩⟩
          · refine go_again ⟨m + 1, by omega, by omega, fun j hj hj2 => (by rcases Nat.lt_succ_iff_lt_or_eq.1 hj2 with hj2 | rfl; exact g3 j hj hj2; exact hk2)⟩ (by simp only; omega) [] (by simp) (by simp [go_sem]) (by simp) (by simp [go_sem, clo, hwm]) ?_
            simp +contextual [go_sem, cloB, clo]
          · obtain ⟨f1, f2⟩ := fin fun _ => hk2
            refine goApS_apv (.inl rfl) (by decide) (by decide) (by simp [go_sem]) (by simp; omega) (fun hl => by simp [go_sem] at hl ⊢; exact hl) ?_
            simp [go_sem, hw]
            refine go_again ⟨m, l ++ [⟨1, s.extract p m, 0, p⟩], by omega, f2, by simp; omega⟩ (by simp only; omega) [(1, 46)] (by simp) (by simp [go_sem]) (by simp) (by simp [go_sem, clo, hw]) ?_
            simp [go_sem, cloB, clo]
            rfl
        · obtain ⟨f1, f2⟩ := fin fun h => by omega
          refine goApS_apv (.inl rfl) (by decide) (by decide) (by simp [go_sem]) (by simp; omega) (fun hl => by simp [go_sem] at hl ⊢; exact hl) ?_
          simp [go_sem, hw]
          refine go_again ⟨m, l ++ [⟨1, s.extract p m, 0, p⟩], by omega, f2, by simp; omega⟩ (by simp only; omega) [(1, 46)] (by simp) (by simp [go_sem]) (by simp) (by simp [go_sem, clo, hw]) ?_
          simp [go_sem, cloB, clo]
          rfl
      · refine goC_pure _ (digit_pure _) (by simp [roL, ro]) ?_
        simp [go_sem, aresK, oneOf, rop, view, viewL, fits, fitsL, hw]
        refine ⟨fun hk3 => ⟨fun h45 => ?_, fun h45 => ?_⟩, fun hk3 => ?_⟩
        · -- a number
          have hfacts : kind (bt s p : Nat) = 3 ∨ (bt s p : Int) = 45 := .inr h45
          refine go_loops (α := RunS s (p + 1) (p + 1) 3) (fun x => [(0, .str s), (2, .ptr 0 0 0), (3, apv 4 1 (l.map tokAV)), (4, .int .i64 p), (5, .int .u8 (bt s p : Nat)), (6, .int .i64 x.m)]) (fun x => (0, .live 3 [.agg [.sl 0 true [], .int .i64 0, .int .i64 0]]) :: apb 4 1 (l.map tokAV)) (fun x => s.size - x.m) ⟨p + 1, by omega, by omega, fun j hj hj2 => by omega⟩ [] (by simp) (by simp [go_sem]) (by simp) (by simp [go_sem, clo, cloL]) ?_ fun ⟨m, g1, g2, g3⟩ => ?_
          · simp +contextual [go_sem, cloB, clo]
          have hwm : IntKind.i64.wrap ((m : Int) + 1) = (m + 1 : Nat) := by rw [w64 (by omega)]; omega
          have fin : (m < s.size → kind (bt s m : Nat) ≠ 3) → (¬ ((bt s p : Int) = 45 ∧ m = p + 1) → scan 0 (by_ s) = (scan m ((by_ s).drop m)).map ((l ++ [⟨2, ByteArray.empty, refNum (by_ (s.extract p m)), p⟩]) ++ ·)) ∧ ((bt s p : Int) = 45 ∧ m = p + 1 → scan 0 (by_ s) = .error p) := fun hs => num_fin hp h4 hfacts g1 g2 g3 hs
          have hn := refnum_pure (s.extract p m) (by rw [← by_len, by_extract]; simp; omega) (by rw [← by_len, by_extract]; simp [by_len]; omega) (by rw [bt_extract (by omega), Nat.add_zero]; rcases hfacts with h | h; right; exact h; left; omega) (fun j hj0 hj => by
            rw [← by_len, by_extract] at hj
            simp at hj
            rw [bt_extract (by omega)]; exact g3 _ (by omega) (by omega))
          simp [go_sem, aresK, oneOf, rop, view, viewL, fits, fitsL, hw, h45]
          refine ⟨fun hm => ⟨hm, goC_pure _ (digit_pure _) (by simp [roL, ro]) ?_⟩, fun hm => ?_⟩
          · simp [go_sem, aresK, oneOf, rop, view, viewL, fits, fitsL, hw, h45]
            refine ⟨fun hk2 => ?_, fun hk2 => ?_⟩
            · refine go_again ⟨m + 1, by omega, by omega, fun j hj hj2 => (by rcases Nat.lt_succ_iff_lt_or_eq.1 hj2 with hj2 | rfl; exact g3 j hj hj2; exact hk2)⟩ (by simp only; omega) [] (by simp) (by simp [go_sem]) (by simp) (by simp [go_sem, clo, hwm]) ?_
              simp +contextual [go_sem, cloB, clo]
            · obtain ⟨f1, f2⟩ := fin fun _ => hk2
              refine ⟨fun hm1 => ?_, fun hm1 => ?_⟩
              · rw [ofAV, if_neg (by omega), f2 ⟨h45, by omega⟩]
              · refine ⟨by omega, goC_pure _ hn (by simp [roL, ro]) ?_⟩
                simp [go_sem, aresK, oneOf, rop, view, viewL, fits, fitsL, hw]
                refine goApS_apv (.inl rfl) (by decide) (by decide) (by simp [go_sem]) (by simp; omega) (fun hl => by simp [go_sem] at hl ⊢; exact hl) ?_
                simp [go_sem, hw]
                refine go_again ⟨m, l ++ [⟨2, ByteArray.empty, refNum (by_ (s.extract p m)), p⟩], by omega, f1 (by omega), by simp; omega⟩ (by simp only; omega) [(1, 65)] (by simp) (by simp [go_sem]) (by simp) (by simp [go_sem, clo, hw]) ?_
                simp [go_sem, cloB, clo]
                rfl
          · obtain ⟨f1, f2⟩ := fin fun h => by omega
            refine ⟨fun hm1 => ?_, fun hm1 => ?_⟩
            · rw [ofAV, if_neg (by omega), f2 ⟨h45, by omega⟩]
            · refine ⟨by omega, goC_pure _ hn (by simp [roL, ro]) ?_⟩
              simp [go_sem, aresK, oneOf, rop, view, viewL, fits, fitsL, hw]
              refine goApS_apv (.inl rfl) (by decide) (by decide) (by simp [go_sem]) (by simp; omega) (fun hl => by simp [go_sem] at hl ⊢; exact hl) ?_
              simp [go_sem, hw]
              refine go_again ⟨m, l ++ [⟨2, ByteArray.empty, refNum (by_ (s.extract p m)), p⟩], by omega, f1 (by omega), by simp; omega⟩ (by simp only; omega) [(1, 65)] (by simp) (by simp [go_sem]) (by simp) (by simp [go_sem, clo, hw]) ?_
              simp [go_sem, cloB, clo]
              rfl
        · have hk0 : kind (bt s p : Nat) = 0 := by grind [kind]
          rw [ofAV, if_neg (by omega), scan_stop hp h4 (by simp [step, hb, hk0])]
        · -- a number
          have h45n : ¬ (bt s p : Int) = 45 := fun h => by rw [h] at hk3; exact absurd hk3 (by decide)
          have hfacts : kind (bt s p : Nat) = 3 ∨ (bt s p : Int) = 45 := .inl hk3
          refine go_loops (α := RunS s (p + 1) (p + 1) 3) (fun x => [(0, .str s), (2, .ptr 0 0 0), (3, apv 4 1 (l.map tokAV)), (4, .int .i64 p), (5, .int .u8 (bt s p : Nat)), (6, .int .i64 x.m)]) (fun x => (0, .live 3 [.agg [.sl 0 true [], .int .i64 0, .int .i64 0]]) :: apb 4 1 (l.map tokAV)) (fun x => s.size - x.m) ⟨p + 1, by omega, by omega, fun j hj hj2 => by omega⟩ [] (by simp) (by simp [go_sem]) (by simp) (by simp [go_sem, clo, cloL]) ?_ fun ⟨m, g1, g2, g3⟩ => ?_
          · simp +contextual [go_sem, cloB, clo]
          have hwm : IntKind.i64.wrap ((m : Int) + 1) = (m + 1 : Nat) := by rw [w64 (by omega)]; omega
          have fin : (m < s.size → kind (bt s m : Nat) ≠ 3) → (¬ ((bt s p : Int) = 45 ∧ m = p + 1) → scan 0 (by_ s) = (scan m ((by_ s).drop m)).map ((l ++ [⟨2, ByteArray.empty, refNum (by_ (s.extract p m)), p⟩]) ++ ·)) ∧ ((bt s p : Int) = 45 ∧ m = p + 1 → scan 0 (by_ s) = .error p) := fun hs => num_fin hp h4 hfacts g1 g2 g3 hs
          have hn := refnum_pure (s.extract p m) (by rw [← by_len, by_extract]; simp; omega) (by rw [← by_len, by_extract]; simp [by_len]; omega) (by rw [bt_extract (by omega), Nat.add_zero]; rcases hfacts with h | h; right; exact h; left; omega) (fun j hj0 hj => by
            rw [← by_len, by_extract] at hj
            simp at hj
            rw [bt_extract (by omega)]; exact g3 _ (by omega) (by omega))
          simp [go_sem, aresK, oneOf, rop, view, viewL, fits, fitsL, hw, show ¬ (bt s p : Int) = 45 from fun h => by rw [h] at hk3; exact absurd hk3 (by decide)]
          refine ⟨fun hm => ⟨hm, goC_pure _ (digit_pure _) (by simp [roL, ro]) ?_⟩, fun hm => ?_⟩
          · simp [go_sem, aresK, oneOf, rop, view, viewL, fits, fitsL, hw, show ¬ (bt s p : Int) = 45 from fun h => by rw [h] at hk3; exact absurd hk3 (by decide)]
            refine ⟨fun hk2 => ?_, fun hk2 => ?_⟩
            · refine go_again ⟨m + 1, by omega, by omega, fun j hj hj2 => (by rcases Nat.lt_succ_iff_lt_or_eq.1 hj2 with hj2 | rfl; exact g3 j hj hj2; exact hk2)⟩ (by simp only; omega) [] (by simp) (by simp [go_sem]) (by simp) (by simp [go_sem, clo, hwm]) ?_
              simp +contextual [go_sem, cloB, clo]
            · obtain ⟨f1, f2⟩ := fin fun _ => hk2
              refine ⟨by omega, goC_pure _ hn (by simp [roL, ro]) ?_⟩
              simp [go_sem, aresK, oneOf, rop, view, viewL, fits, fitsL, hw]
              refine goApS_apv (.inl rfl) (by decide) (by decide) (by simp [go_sem]) (by simp; omega) (fun hl => by simp [go_sem] at hl ⊢; exact hl) ?_
              simp [go_sem, hw]
              refine go_again ⟨m, l ++ [⟨2, ByteArray.empty, refNum (by_ (s.extract p m)), p⟩], by omega, f1 (by omega), by simp; omega⟩ (by simp only; omega) [(1, 65)] (by simp) (by simp [go_sem]) (by simp) (by simp [go_sem, clo, hw]) ?_
              simp [go_sem, cloB, clo]
              rfl
          · obtain ⟨f1, f2⟩ := fin fun h => by omega
            refine ⟨by omega, goC_pure _ hn (by simp [roL, ro]) ?_⟩
            simp [go_sem, aresK, oneOf, rop, view, viewL, fits, fitsL, hw]
            refine goApS_apv (.inl rfl) (by decide) (by decide) (by simp [go_sem]) (by simp; omega) (fun hl => by simp [go_sem] at hl ⊢; exact hl) ?_
            simp [go_sem, hw]
            refine go_again ⟨m, l ++ [⟨2, ByteArray.empty, refNum (by_ (s.extract p m)), p⟩], by omega, f1 (by omega), by simp; omega⟩ (by simp only; omega) [(1, 65)] (by simp) (by simp [go_sem]) (by simp) (by simp [go_sem, clo, hw]) ?_
            simp [go_sem, cloB, clo]
            rfl
    · have hk : kind (bt s p : Nat) = 1 := by grind [kind]
      have h4' := scan_step hp h4 (t := none) (m := 0) (by simp [step, hb, hk])
      refine go_again ⟨p + 1, l, by omega, by simpa using h4', by omega⟩ (by simp only; omega) [] (by simp) (by simp [go_sem]) (by simp) (by simp [go_sem, clo, hw]) ?_
      simp +contextual [go_sem, cloB, clo]
  · have hs : scan 0 (by_ s) = .ok l := by
      rw [h4, List.drop_of_length_le (by rw [by_len]; omega), scan]
      simp [Except.map]
    rw [ofAV, if_neg (by omega), hs]
    by_cases hl : l = []
    · subst hl
      simp [go_sem, aresK, oneOf, rop, view, viewL, fits, fitsL, slv]
    · simp [go_sem, aresK, oneOf, rop, view, viewL, fits, fitsL, slv, hl, apv_ne, List.take_of_length_le]
end Go.Proofs.Ytpmahilkkoengaa
