/-
  Layer 10: tokens, by definition; the cut.
-/
import Derived.Test.YtpmahilkkoengaaFwT
import Derived.Test.YtpmahilkkoengaaLxC
namespace Go.Proofs.Ytpmahilkkoengaa
open Go Go.Proofs
set_option linter.unusedSimpArgs false
set_option linter.unusedVariables false

structure Tok where
  k : Int
  s : ByteArray
  n : Int
  p : Nat
def tokAV (t : Tok) : AV := .agg [.int .i64 t.k, .str t.s, .int .i64 t.n, .int .i64 t.p]
def bs (l : List UInt8) : ByteArray := ⟨l.toArray⟩

/-- A text's first token (or a blank), and how many bytes behind the first belong to it. -/
def step (p : Nat) (c : UInt8) (r : List UInt8) : Option (Option Tok × Nat) :=
  let k := kind (c.toNat : Nat)
  if k = 1 then some (none, 0)
  else if k = 2 then some (some ⟨1, bs (c :: r.take (runL r 2)), 0, p⟩, runL r 2)
  else if k = 3 then some (some ⟨2, ByteArray.empty, numL 0 (c :: r.take (runL r 3)), p⟩, runL r 3)
  else if k = 4 then if runL r 3 = 0 then none else some (some ⟨2, ByteArray.empty, -numL 0 (r.take (runL r 3)), p⟩, runL r 3)
  else if k = 5 then some (some ⟨3, ByteArray.empty, 0, p⟩, 0)
  else none
/-- A text's tokens, or where there is none. -/
def scan (p : Nat) : List UInt8 → Except Nat (List Tok)
  | [] => .ok []
  | c :: r => match step p c r with
    | none => .error p
    | some (t, m) => (scan (p + 1 + m) (r.drop m)).map (t.toList ++ ·)
termination_by l => l.length
decreasing_by simp; omega

def cutAV (s : ByteArray) : AV :=
  if 1048576 < s.size then .tup [.sl 0 true [], .int .i64 0, .int .i64 22]
  else match scan 0 (by_ s) with
    | .ok l => .tup [slv 4 (l.map tokAV), .int .i64 0, .int .i64 0]
    | .error p => .tup [.sl 0 true [], .int .i64 p, .int .i64 20]

theorem ro_tok (t : Tok) : ro (tokAV t) := by simp [tokAV, ro, roL]
theorem roL_tok (l : List Tok) : roL (l.map tokAV) := roL_map ro_tok
@[go_sem] theorem ren_tok (rn : Nat → Nat) (t : Tok) : ren rn (tokAV t) = tokAV t := ren_ro rn _ (ro_tok t)
@[go_sem] theorem clo_tok (n : Nat) (t : Tok) : clo n (tokAV t) := clo_ro _ (ro_tok t)
@[go_sem] theorem renL_tok (rn : Nat → Nat) (l : List Tok) : renL rn (l.map tokAV) = l.map tokAV := renL_ro rn _ (roL_tok l)
@[go_sem] theorem cloL_tok (n : Nat) (l : List Tok) : cloL n (l.map tokAV) := cloL_ro _ (roL_tok l)
theorem ro_slv {sz : Nat} {l : List AV} (h : roL l) : ro (slv sz l) := by
  unfold slv; split
  · simp [ro, roL]
  · exact h
theorem ro_cut (s : ByteArray) : ro (cutAV s) := by
  unfold cutAV
  split
  · simp [ro, roL]
  · split
    · simp only [ro, roL, and_true]; exact ro_slv (roL_tok _)
    · simp [ro, roL]

theorem scan_at {s : ByteArray} {q : Nat} (h : q < s.size) : scan q ((by_ s).drop q) = match step q ((by_ s)[q]'(by rw [by_len]; exact h)) ((by_ s).drop (q + 1)) with
    | none => .error q
    | some (t, m) => (scan (q + 1 + m) ((by_ s).drop (q + 1 + m))).map (t.toList ++ ·) := by
  rw [drop_bt h, scan]
  simp only [List.drop_drop]

theorem numL_bnd {l : List UInt8} : ∀ {n : Int}, (0 ≤ n ∧ n ≤ 4611686018427387904) → (∀ j, j < l.length → kind ((l.getD j 0).toNat : Nat) = 3) → 0 ≤ numL n l ∧ numL n l ≤ 4611686018427387904 := by
  induction l with
  | nil => intro n h _; exact h
  | cons b l ih =>
    intro n h hd
    have h0 := kind_digit.1 (hd 0 (by simp))
    simp only [List.getD_cons_zero] at h0
    simp only [numL]
    split
    · decide
    · exact ih (by omega) fun j hj => by have := hd (j + 1) (by simpa using hj); simpa using this
theorem by_extract (s : ByteArray) (a b : Nat) : by_ (s.extract a b) = ((by_ s).drop a).take (b - a) := by
  unfold by_
  simp [ByteArray.data_extract, Array.toList_extract, List.extract]
theorem bt_extract {s : ByteArray} {a b j : Nat} (h : a + j < b) : bt (s.extract a b) j = bt s (a + j) := by
  unfold bt
  rw [by_extract]
  simp [List.getD_eq_getElem?_getD, List.getElem?_take, List.getElem?_drop, show j < b - a by omega]
theorem by_bs (l : List UInt8) : by_ (bs l) = l := by simp [by_, bs]
theorem bs_by (s : ByteArray) : bs (by_ s) = s := by simp [by_, bs]
theorem extract_bs (s : ByteArray) (a b : Nat) : s.extract a b = bs (((by_ s).drop a).take (b - a)) := by rw [← by_extract, bs_by]
theorem map_map (x : Except Nat (List Tok)) (f g : List Tok → List Tok) : (x.map f).map g = x.map (fun l => g (f l)) := by cases x <;> rfl
theorem scan_step {s : ByteArray} {p : Nat} {l : List Tok} (h : p < s.size) (h4 : scan 0 (by_ s) = (scan p ((by_ s).drop p)).map (l ++ ·)) {t : Option Tok} {m : Nat} (hs : step p ((by_ s)[p]'(by rw [by_len]; exact h)) ((by_ s).drop (p + 1)) = some (t, m)) :
    scan 0 (by_ s) = (scan (p + 1 + m) ((by_ s).drop (p + 1 + m))).map ((l ++ t.toList) ++ ·) := by
  rw [h4, scan_at h, hs]
  simp only [map_map, List.append_assoc]
theorem scan_stop {s : ByteArray} {p : Nat} {l : List Tok} (h : p < s.size) (h4 : scan 0 (by_ s) = (scan p ((by_ s).drop p)).map (l ++ ·)) (hs : step p ((by_ s)[p]'(by rw [by_len]; exact h)) ((by_ s).drop (p + 1)) = none) :
    scan 0 (by_ s) = .error p := by
  rw [h4, scan_at h, hs]; rfl
theorem runL_kind {l : List UInt8} {k : Int} {j : Nat} (h : j < runL l k) : kind ((l.getD j 0).toNat : Nat) = k := by
  induction l generalizing j with
  | nil => simp [runL] at h
  | cons b l ih =>
    unfold runL at h
    by_cases hb : kind (b.toNat : Nat) = k
    · rw [List.takeWhile_cons_of_pos (by simpa using hb)] at h
      cases j with
      | zero => simpa using hb
      | succ j => simp only [List.length_cons] at h; simpa using ih (j := j) (by unfold runL; omega)
    · rw [List.takeWhile_cons_of_neg (by simpa using hb)] at h; simp at h
theorem runL_cons {b : UInt8} {l : List UInt8} {k : Int} (h : kind (b.toNat : Nat) = k) : runL (b :: l) k = runL l k + 1 := by
  unfold runL; rw [List.takeWhile_cons_of_pos (by simpa using h)]; rfl
theorem runL_bt {s : ByteArray} {a : Nat} {k : Int} {j : Nat} (h : j < runL ((by_ s).drop a) k) : kind (bt s (a + j) : Nat) = k := by
  have := runL_kind h
  simpa [bt, List.getD_eq_getElem?_getD, List.getElem?_drop] using this
theorem runL_drop_le (s : ByteArray) (a : Nat) (k : Int) : a + runL ((by_ s).drop a) k ≤ max a s.size := by
  have := runL_le ((by_ s).drop a) k
  rw [List.length_drop, by_len] at this
  omega

structure CutS (s : ByteArray) where
  p : Nat
  to : Nat
  l : List Tok
  h1 : p ≤ s.size
  h2 : to ≤ s.size
  h3 : ∀ j, p ≤ j → j < to → kind (bt s j : Nat) ≠ 0
  h4 : scan 0 (by_ s) = (scan (max p to) ((by_ s).drop (max p to))).map (l ++ ·)
  h5 : l.length ≤ max p to

theorem cut_pure (s : ByteArray) : Pure Try.prog 8 [.str s] (cutAV s) := by
  refine Pure.of_go mixed Try.func8 rfl (rs := [.tmp 2, .tmp 3, .tmp 4]) rfl (by kernel_rfl) (ro_cut s) ?_
  simp [go_sem, aresK, oneOf, view, viewL, fits, fitsL]
  refine ⟨fun h => ?_, fun hsz => ?_⟩
  · rw [cutAV, if_pos (by omega)]
  refine go_loops (α := CutS s) (fun x => [(0, .str s), (5, apv 4 0 (x.l.map tokAV)), (6, .int .i64 x.to), (15, .ptr 9 0 0)]) (fun x => (9, .iter s x.p) :: apb 4 0 (x.l.map tokAV)) (fun x => s.size - x.p) ⟨0, 0, [], by omega, by omega, fun j h h' => by omega, by simp [Except.map]; cases scan 0 (by_ s) <;> rfl, by simp⟩ [] (by simp) (by simp [go_sem]) (by simp) (by simp [go_sem, clo, cloL]) (by simp [go_sem, cloB]) fun ⟨p, to, l, h1, h2, h3, h4, h5⟩ => ?_
  simp [go_sem, aresK, oneOf, view, viewL, fits, fitsL]
  refine ⟨fun hp => ⟨fun ht => ?_, fun ht => ?_⟩, fun hp => ?_⟩
  · -- what is cut already
    rw [wid (h3 p (by omega) ht)]
    refine go_again ⟨p + 1, to, l, by omega, h2, fun j hj => h3 j (by omega), by rw [show max (p + 1) to = max p to by omega]; exact h4, by omega⟩ (by simp only; omega) [] (by simp) (by simp [go_sem]) (by simp) (by simp [go_sem, clo]) ?_
    simp +contextual [go_sem, cloB]
  · refine goC_pure _ (kind_pure _) (by simp [roL, ro]) ?_
    rw [kind_dec]
    rw [show max p to = p by omega] at h4 h5
    have hb := bt_get hp
    have hk : kind (bt s p : Nat) = 0 ∨ kind (bt s p : Nat) = 1 ∨ kind (bt s p : Nat) = 2 ∨ kind (bt s p : Nat) = 3 ∨ kind (bt s p : Nat) = 4 ∨ kind (bt s p : Nat) = 5 := by unfold kind; grind
    rcases hk with hk | hk | hk | hk | hk | hk
    · rw [hk]
      simp [go_sem, aresK, oneOf, view, viewL, fits, fitsL]
      rw [cutAV, if_neg (by omega), scan_stop hp h4 (by simp [step, hb, hk])]
    · rw [wid (by rw [hk]; decide), hk]
      simp [go_sem, aresK, oneOf, view, viewL, fits, fitsL]
      have h4' := scan_step hp h4 (t := none) (m := 0) (by simp [step, hb, hk])
      refine go_again ⟨p + 1, to, l, by omega, h2, fun j hj => by omega, by rw [show max (p + 1) to = p + 1 by omega]; simpa using h4', by omega⟩ (by simp only; omega) [] (by simp) (by simp [go_sem]) (by simp) (by simp [go_sem, clo]) ?_
      simp +contextual [go_sem, cloB]
    · rw [wid (by rw [hk]; decide), hk]
      simp [go_sem, aresK, oneOf, view, viewL, fits, fitsL]
      refine ⟨h1, goC_pure _ (run_pure _ 2 (by decide)) (by simp [roL, ro]) ?_⟩
      rw [by_extract, List.take_of_length_le (by rw [List.length_drop, by_len]; omega)]
      have hR := runL_drop_le s p 2
      have hc : runL ((by_ s).drop p) 2 = runL ((by_ s).drop (p + 1)) 2 + 1 := by rw [drop_bt hp]; exact runL_cons (by rw [hb]; exact hk)
      have hR2 : ∀ j, j < runL ((by_ s).drop p) 2 → kind (bt s (p + j) : Nat) = 2 := fun j hj => runL_bt hj
      generalize hRR : runL ((by_ s).drop p) 2 = R at *
      have hw : IntKind.i64.wrap ((p : Int) + R) = (p + R : Nat) := by rw [w64 (by omega)]; omega
      have ht' : ((p : Int) + R).toNat = p + R := by omega
      simp [go_sem, aresK, oneOf, view, viewL, fits, fitsL, hw, ht']
      refine ⟨by omega, goApS_apv (.inl rfl) (by decide) (by decide) (by simp [go_sem]) (by simp; omega) (fun hl => by simp [go_sem] at hl ⊢; exact hl) ?_⟩
      simp [go_sem, hw]
      have h4' := scan_step hp h4 (t := some ⟨1, s.extract p (p + R), 0, p⟩) (m := R - 1) (by
        simp [step, hb, hk, hc]
        rw [extract_bs, drop_bt hp, show p + (runL ((by_ s).drop (p + 1)) 2 + 1) - p = runL ((by_ s).drop (p + 1)) 2 + 1 by omega]
        rfl)
      refine go_again ⟨p + 1, p + R, l ++ [⟨1, s.extract p (p + R), 0, p⟩], by omega, by omega, fun j hj hj2 => (by have := hR2 (j - p) (by omega); rw [show p + (j - p) = j by omega] at this; rw [this]; decide), by rw [show max (p + 1) (p + R) = p + 1 + (R - 1) by omega]; simpa using h4', by simp; omega⟩ (by simp only; omega) [(0, 48)] (by simp) (by simp [go_sem]) (by simp) (by simp [go_sem, clo]) ?_
      simp [go_sem, cloB]
      rfl
    · rw [wid (by rw [hk]; decide), hk]
      simp [go_sem, aresK, oneOf, view, viewL, fits, fitsL]
      refine ⟨h1, goC_pure _ (run_pure _ 3 (by decide)) (by simp [roL, ro]) ?_⟩
      rw [by_extract, List.take_of_length_le (by rw [List.length_drop, by_len]; omega)]
      have hR := runL_drop_le s p 3
      have hc : runL ((by_ s).drop p) 3 = runL ((by_ s).drop (p + 1)) 3 + 1 := by rw [drop_bt hp]; exact runL_cons (by rw [hb]; exact hk)
      have hR2 : ∀ j, j < runL ((by_ s).drop p) 3 → kind (bt s (p + j) : Nat) = 3 := fun j hj => runL_bt hj
      generalize hRR : runL ((by_ s).drop p) 3 = R at *
      have hw : IntKind.i64.wrap ((p : Int) + R) = (p + R : Nat) := by rw [w64 (by omega)]; omega
      have ht' : ((p : Int) + R).toNat = p + R := by omega
      simp [go_sem, aresK, oneOf, view, viewL, fits, fitsL, hw, ht']
      refine ⟨by omega, goC_pure _ (number_pure _ fun j hj => ?_) (by simp [roL, ro]) ?_⟩
      · rw [← by_len, by_extract] at hj
        simp at hj
        rw [bt_extract (by omega)]; exact hR2 j (by omega)
      simp [go_sem, aresK, oneOf, view, viewL, fits, fitsL, hw, ht']
      refine goApS_apv (.inl rfl) (by decide) (by decide) (by simp [go_sem]) (by simp; omega) (fun hl => by simp [go_sem] at hl ⊢; exact hl) ?_
      simp [go_sem, hw]
      have h4' := scan_step hp h4 (t := some ⟨2, ByteArray.empty, numL 0 (by_ (s.extract p (p + R))), p⟩) (m := R - 1) (by
        simp [step, hb, hk, hc]
        rw [by_extract, drop_bt hp, show p + (runL ((by_ s).drop (p + 1)) 3 + 1) - p = runL ((by_ s).drop (p + 1)) 3 + 1 by omega]
        rfl)
      refine go_again ⟨p + 1, p + R, l ++ [⟨2, ByteArray.empty, numL 0 (by_ (s.extract p (p + R))), p⟩], by omega, by omega, fun j hj hj2 => (by have := hR2 (j - p) (by omega); rw [show p + (j - p) = j by omega] at this; rw [this]; decide), by rw [show max (p + 1) (p + R) = p + 1 + (R - 1) by omega]; simpa using h4', by simp; omega⟩ (by simp only; omega) [(0, 51)] (by simp) (by simp [go_sem]) (by simp) (by simp [go_sem, clo]) ?_
      simp [go_sem, cloB]
      rfl
    · rw [wid (by rw [hk]; decide), hk]
      have hw1 : IntKind.i64.wrap ((p : Int) + 1) = (p + 1 : Nat) := by rw [w64 (by omega)]; omega
      have ht1 : ((p : Int) + 1).toNat = p + 1 := by omega
      simp [go_sem, aresK, oneOf, view, viewL, fits, fitsL, hw1, ht1]
      refine ⟨by omega, goC_pure _ (run_pure _ 3 (by decide)) (by simp [roL, ro]) ?_⟩
      rw [by_extract, List.take_of_length_le (by rw [List.length_drop, by_len]; omega)]
      have hR := runL_drop_le s (p + 1) 3
      have hR2 : ∀ j, j < runL ((by_ s).drop (p + 1)) 3 → kind (bt s (p + 1 + j) : Nat) = 3 := fun j hj => runL_bt hj
      generalize hRR : runL ((by_ s).drop (p + 1)) 3 = R at *
      have hw : IntKind.i64.wrap ((p : Int) + 1 + R) = (p + 1 + R : Nat) := by rw [w64 (by omega)]; omega
      have hw2 : IntKind.i64.wrap ((R : Int) + 1) = (R + 1 : Nat) := by rw [w64 (by omega)]; omega
      have hw3 : IntKind.i64.wrap ((p : Int) + (R + 1)) = (p + (R + 1) : Nat) := by rw [w64 (by omega)]; omega
      have ht' : ((p : Int) + 1 + R).toNat = p + 1 + R := by omega
      simp [go_sem, aresK, oneOf, view, viewL, fits, fitsL, hw, hw1, ht1, ht']
      refine ⟨fun hr => ?_, fun hr => ?_⟩
      · rw [cutAV, if_neg (by omega), scan_stop hp h4 (by simp [step, hb, hk, hRR, hr])]
      refine ⟨by omega, goC_pure _ (number_pure _ fun j hj => ?_) (by simp [roL, ro]) ?_⟩
      · rw [← by_len, by_extract] at hj
        simp at hj
        rw [bt_extract (by omega)]; exact hR2 j (by omega)
      have hnn := numL_bnd (n := 0) (l := by_ (s.extract (p + 1) (p + 1 + R))) (by decide) (fun j hj => by
        rw [by_extract] at hj
        simp at hj
        show kind (bt _ j : Nat) = 3
        rw [bt_extract (by omega)]; exact hR2 j (by omega))
      have hwn : IntKind.i64.wrap (-numL 0 (by_ (s.extract (p + 1) (p + 1 + R)))) = -numL 0 (by_ (s.extract (p + 1) (p + 1 + R))) := w64 (by omega)
      simp [go_sem, aresK, oneOf, view, viewL, fits, fitsL, hw, hw1, ht1, ht', hwn]
      refine goApS_apv (.inl rfl) (by decide) (by decide) (by simp [go_sem]) (by simp; omega) (fun hl => by simp [go_sem] at hl ⊢; exact hl) ?_
      simp [go_sem, hw, hw2, hw3]
      have h4' := scan_step hp h4 (t := some ⟨2, ByteArray.empty, -numL 0 (by_ (s.extract (p + 1) (p + 1 + R))), p⟩) (m := R) (by
        simp [step, hb, hk, hRR, hr]
        rw [by_extract, show p + 1 + R - (p + 1) = R by omega])
      refine go_again ⟨p + 1, p + (R + 1), l ++ [⟨2, ByteArray.empty, -numL 0 (by_ (s.extract (p + 1) (p + 1 + R))), p⟩], by omega, by omega, fun j hj hj2 => (by have := hR2 (j - (p + 1)) (by omega); rw [show p + 1 + (j - (p + 1)) = j by omega] at this; rw [this]; decide), by rw [show max (p + 1) (p + (R + 1)) = p + 1 + R by omega]; simpa using h4', by simp; omega⟩ (by simp only; omega) [(0, 62)] (by simp) (by simp [go_sem]) (by simp) (by simp [go_sem, clo]) ?_
      simp [go_sem, cloB]
      rfl
    · rw [wid (by rw [hk]; decide), hk]
      simp [go_sem, aresK, oneOf, view, viewL, fits, fitsL]
      refine goApS_apv (.inl rfl) (by decide) (by decide) (by simp [go_sem]) (by simp; omega) (fun hl => by simp [go_sem] at hl ⊢; exact hl) ?_
      have hw : IntKind.i64.wrap ((p : Int) + 1) = (p + 1 : Nat) := by rw [w64 (by omega)]; omega
      simp [go_sem, hw]
      have h4' := scan_step hp h4 (t := some ⟨3, ByteArray.empty, 0, p⟩) (m := 0) (by simp [step, hb, hk])
      refine go_again ⟨p + 1, p + 1, l ++ [⟨3, ByteArray.empty, 0, p⟩], by omega, by omega, fun j hj hj2 => by omega, by simpa using h4', by simp; omega⟩ (by simp only; omega) [(0, 41)] (by simp) (by simp [go_sem]) (by simp) (by simp [go_sem, clo]) ?_
      simp [go_sem, cloB]
      rfl
  · have hs : scan 0 (by_ s) = .ok l := by
      rw [h4, List.drop_of_length_le (by rw [by_len]; omega), scan]
      simp [Except.map]
    rw [cutAV, if_neg (by omega), hs]
    by_cases hl : l = []
    · subst hl
      simp [go_sem, view, viewL, fits, fitsL, slv]
    · simp [go_sem, view, viewL, fits, fitsL, slv, hl, apv_ne, List.take_of_length_le]
end Go.Proofs.Ytpmahilkkoengaa
