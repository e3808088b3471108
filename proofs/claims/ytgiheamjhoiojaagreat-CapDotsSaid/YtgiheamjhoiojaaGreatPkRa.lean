import Derived.Test.YtgiheamjhoiojaaGreatPkNa
namespace Go.Proofs.YtgiheamjhoiojaaGreat
open Go Go.Proofs
set_option linter.unusedSimpArgs false
set_option linter.unusedVariables false
set_option maxRecDepth 20000
theorem trim32_pure (l : List Nat) (hl : LenX l) : Pure Tryz.prog 165 [mA l] (mA (trimL l)) := by
  unfold LenX at hl
  refine Pure.of_go mixed Tryz.func165 rfl (rs := [.tmp 2]) rfl (by kernel_rfl) (ro_mA _) ?_
  simp -implicitDefEqProofs [go_sem]
  refine go_loopN 9 (α := {k : Nat // k ≤ l.length ∧ trimL (l.take k) = trimL l}) (fun k => [(0, mA l), (3, .int .i64 k.1)]) (fun k => []) (fun k => k.1) ⟨l.length, by simp⟩ [] (by simp) (by simp) (by simp) (by simp -implicitDefEqProofs [go_sem]) (by simp) fun ⟨k, hk1, hk2⟩ => ?_
  have e1 : 0 < k → IntKind.i64.wrap ((k : Int) - 1) = (k - 1 : Nat) := fun h => by rw [w64 (by omega)]; omega
  rcases Nat.eq_zero_or_pos k with h | h
  · subst h
    have hz : trimL l = [] := by rw [← hk2]; rfl
    simp -implicitDefEqProofs [go_sem, hz]
  · have hg := uA_getE .u32 (l := l) (i := k - 1) (by omega)
    have hk : k - 1 < l.length := by omega
    simp -implicitDefEqProofs [go_sem, e1 h, hg, h]
    refine ⟨by omega, fun h0 => ?_, fun h0 => ?_⟩
    · have ht : trimL (l.take (k - 1)) = trimL l := by
        have := trim_take hk (by simpa using h0)
        rw [show k - 1 + 1 = k by omega] at this
        rw [← this, hk2]
      refine go_again ⟨k - 1, by omega, ht⟩ (by simp only; omega) [] (by simp) (by simp) (by simp) (by simp -implicitDefEqProofs [go_sem]) (by simp)
    · have := trim_stop hk (by simpa using h0)
      rw [show k - 1 + 1 = k by omega] at this
      refine ⟨hk1, by rw [uA_take, ← this, hk2], by rw [uA_take]; simp -implicitDefEqProofs [go_sem]⟩
theorem goC_grownK {z : Bool} {ne : Nat} {Q : AEx → St → Prop} {k : List Itm} {t : Nat → AV} {f : Nat → BS} {n : Nat} {g : FuncId} {d : Option Tmp} {id : Nat} {kd : IntKind} {l : List Nat} {r : AV} (hp : Pure Tryz.prog g [.sl 1 false (uA kd l)] r) (hf : l ≠ [] → f id = .live 1 (uA kd l)) (h : ∀ f', go Tryz.prog z ne Q k (putA t d r) f' n) : goC Tryz.prog z ne Q g [apv 1 id (uA kd l)] d k t f n := by
  by_cases hl : l = []
  · subst hl
    exact goC_pure _ (hp.args (.cons (Wk.nil 0 1 true) .nil)) (by simp -implicitDefEqProofs [go_sem]) (h _)
  · have hne : uA kd l ≠ [] := by simpa [uA] using hl
    rw [apv_ne hne]
    refine goC_dead [id] _ hp (by simp -implicitDefEqProofs [go_sem, hf hl, uA_self]) (by simp -implicitDefEqProofs [go_sem]) (by simp -implicitDefEqProofs [go_sem, hf hl]) (by simp -implicitDefEqProofs [go_sem, hf hl]) (h _)
def qA (n : Nat) : AV := mA (lims 4294967296 n)
theorem ro_qA (n : Nat) : ro (qA n) := ro_mA _
theorem cmp32_pure (a b : Nat) (ha : LenX (lims 4294967296 a)) (hb : LenX (lims 4294967296 b)) : Pure Tryz.prog 196 [qA a, qA b] (.int .i64 (cmpI a b)) := by
  unfold LenX at ha hb
  have hva := lv_lims (B := 4294967296) (by omega) a
  have hvb := lv_lims (B := 4294967296) (by omega) b
  have hla := lim_lims (B := 4294967296) (by omega) a
  have hlb := lim_lims (B := 4294967296) (by omega) b
  have hlt := lv_lt_len (B := 4294967296) (by omega) hla (n := b)
  have hgt := lv_lt_len (B := 4294967296) (by omega) hlb (n := a)
  unfold qA
  generalize lims 4294967296 a = x at *
  generalize lims 4294967296 b = y at *
  refine Pure.of_go mixed Tryz.func196 rfl (rs := [.tmp 4]) rfl (by kernel_rfl) (by simp -implicitDefEqProofs [go_sem]) ?_
  simp -implicitDefEqProofs [go_sem]
  refine ⟨fun hne => ⟨fun h => ?_, fun h => ?_⟩, fun heq => ?_⟩
  · rw [cmpI_lt]; have := hlt h; omega
  · rw [cmpI_gt]; have := hgt (by omega); omega
  · rw [w64 (by omega)]
    refine go_loopN 9 (α := {i : Nat // i ≤ x.length ∧ x.drop i = y.drop i}) (fun i => [(0, mA x), (1, mA y), (5, .int .i64 ((i.1 : Int) - 1))]) (fun i => []) (fun i => i.1) ⟨x.length, by simp; omega⟩ [] (by simp) (by simp) (by simp) (by simp -implicitDefEqProofs [go_sem]) (by simp) fun ⟨i, hi, hd⟩ => ?_
    simp -implicitDefEqProofs [go_sem]
    refine ⟨fun h => ?_, fun h => ?_⟩
    · obtain ⟨k, hk⟩ : ∃ k, k = i - 1 := ⟨_, rfl⟩
      have hik : i = k + 1 := by omega
      subst hik
      have e1 : (((k + 1 : Nat) : Int) - 1) = (k : Nat) := by omega
      have g1 := uA_getE .u32 (l := x) (i := k) (by omega)
      have g2 := uA_getE .u32 (l := y) (i := k) (by omega)
      have l1 := lv_lt_at (B := 4294967296) hla (x := x) (y := y) (k := k) (by omega) (by omega) hd
      have l2 := lv_lt_at (B := 4294967296) hlb (x := y) (y := x) (k := k) (by omega) (by omega) hd.symm
      rw [hva, hvb] at l1 l2
      have hkx : k < x.length := by omega
      have hky : k < y.length := by omega
      have hdd : x.getD k 0 = y.getD k 0 → x.drop k = y.drop k := fun e => by
        rw [List.drop_eq_getElem_cons hkx, List.drop_eq_getElem_cons hky, hd]
        congr 1
        rw [List.getD_eq_getElem?_getD, List.getD_eq_getElem?_getD, List.getElem?_eq_getElem hkx, List.getElem?_eq_getElem hky] at e
        exact e
      generalize x.getD k 0 = u at *
      generalize y.getD k 0 = w at *
      simp -implicitDefEqProofs [go_sem, e1, g1, g2]
      refine ⟨⟨by omega, hkx⟩, hky, fun hne => ⟨hkx, hky, fun h => ?_, fun h => ?_⟩, fun he => ?_⟩
      · rw [cmpI_lt]; have := l1 h; omega
      · rw [cmpI_gt]; have := l2 (by omega); omega
      · rw [w64 (by omega)]
        exact go_again ⟨k, by omega, hdd (by omega)⟩ (by simp only; omega) [] (by simp) (by simp) (by simp) (by simp -implicitDefEqProofs [go_sem]) (by simp)
    · have : i = 0 := by omega
      subst this
      simp only [List.drop_zero] at hd
      rw [show a = b by rw [← hva, ← hvb, hd], cmpI_eq]
theorem pow32 (i : Nat) : 4294967296 ^ (2 * i) = 18446744073709551616 ^ i := by
  rw [Nat.pow_mul]
theorem w32N (x : Nat) : IntKind.u32.wrap (x : Int) = (x % 4294967296 : Nat) := by
  simp only [IntKind.wrap, IntKind.bits, IntKind.signed]
  simp only [Bool.false_and, Bool.false_eq_true, if_false]
  omega
theorem shr32N (x : Nat) : (x : Int).fdiv 4294967296 = (x / 4294967296 : Nat) := by
  have := shrN x 32
  rw [show (2 : Int) ^ 32 = 4294967296 by rfl] at this
  rw [this]
@[go_sem] theorem apv_app2 (sz id : Nat) (l : List AV) (x y : AV) : apv sz id (l ++ [x, y]) = .own sz id 0 (l.length + 2) := by simp [apv]
@[go_sem] theorem apb_app2 (sz id : Nat) (l : List AV) (x y : AV) : apb sz id (l ++ [x, y]) = [(id, .live sz (l ++ [x, y]))] := by simp [apb]
theorem in_pure (a : List Nat) (ha : Len a) (la : Lim 18446744073709551616 a) : Pure Tryz.prog 108 [nA a] (qA (lv 18446744073709551616 a)) := by
  unfold Len at ha
  refine Pure.of_go mixed Tryz.func108 rfl (rs := [.tmp 2]) rfl (by kernel_rfl) (ro_qA _) ?_
  simp -implicitDefEqProofs [go_sem]
  refine go_loopN 9 (α := {p : List Nat × Nat // p.2 ≤ a.length ∧ p.1.length = 2 * p.2 ∧ Lim 4294967296 p.1 ∧ lv 4294967296 p.1 = lv 18446744073709551616 (a.take p.2)}) (fun p => [(0, nA a), (3, apv 1 8 (uA .u32 p.1.1)), (4, .int .i64 p.1.2)]) (fun p => apb 1 8 (uA .u32 p.1.1)) (fun p => a.length - p.1.2) ⟨([], 0), by simp [lim_nil]⟩ [] (by simp) (by simp [go_sem]) (by simp) (by simp -implicitDefEqProofs [go_sem]) (by simp [go_sem]) fun ⟨⟨out, i⟩, h1, h2, h3, h4⟩ => ?_
  simp only at h1 h2 h3 h4
  simp -implicitDefEqProofs [go_sem]
  refine ⟨fun h => ?_, fun h => ?_⟩
  · have hg := uA_getE .u64 (l := a) (i := i) (by omega)
    have hx := la.getD (by omega) i
    have t1 := lv_take_succ 18446744073709551616 a i
    obtain ⟨x, hxe⟩ : ∃ x, x = a.getD i 0 := ⟨_, rfl⟩
    rw [← hxe] at hg hx t1
    have e3 : IntKind.i64.wrap ((i : Int) + 1) = ((i + 1 : Nat) : Int) := by rw [w64 (by omega)]; omega
    have w1 := w32N x
    have w2 := w32N (x / 4294967296)
    obtain ⟨lo, hlo⟩ : ∃ j, j = x % 4294967296 := ⟨_, rfl⟩
    obtain ⟨hi, hhi⟩ : ∃ j, j = x / 4294967296 := ⟨_, rfl⟩
    have s1 := shr32N x
    rw [← hhi] at w2 s1
    rw [Nat.mod_eq_of_lt (by omega)] at w2
    rw [← hlo] at w1
    simp -implicitDefEqProofs [go_sem, hg, w1, w2, s1]
    refine ⟨h, goApS_apv (by simp [go_sem]) (by omega) (by omega) (by simp [go_sem]) (by simp; omega) (fun hne => by simp [go_sem, hne]) ?_⟩
    simp -implicitDefEqProofs [go_sem, e3]
    refine go_again ⟨(out ++ [lo, hi], i + 1), Nat.succ_le_of_lt h, by simp [h2]; omega, lim_append.2 ⟨h3, fun z hz => by simp at hz; omega⟩, ?_⟩ (by simp only; omega) [(8, 22)] (by simp) (by simp [go_sem, uA_append]) (by simp) (by simp -implicitDefEqProofs [go_sem, uA_append]) (by simp -implicitDefEqProofs [go_sem, uA_append])
    simp only
    rw [lv_append, h2, pow32, t1, h4]
    simp only [lv_cons, lv_nil, Nat.mul_zero, Nat.add_zero]
    rw [show lo + 4294967296 * hi = x by omega]
  · have e : i = a.length := by omega
    rw [e, List.take_length] at h4
    refine goC_grownK (kd := .u32) (trim32_pure out (by unfold LenX; omega)) (fun hne => by simp -implicitDefEqProofs [go_sem, uA, hne]) fun f' => ?_
    rw [trim_lims (by omega) h3, h4]
    simp -implicitDefEqProofs [go_sem, qA]
theorem of32_pure (v : Nat) (h : v < 18446744073709551616) : Pure Tryz.prog 109 [.int .u64 v] (qA v) := by
  refine Pure.of_go mixed Tryz.func109 rfl (rs := [.tmp 2]) rfl (by kernel_rfl) (ro_qA _) ?_
  have hin := in_pure [v] (by unfold Len; simp) (fun z hz => by simp at hz; omega)
  rw [show lv 18446744073709551616 [v] = v by simp] at hin
  simp -implicitDefEqProofs [go_sem]
  refine goC_dead [0] _ hin (by simp -implicitDefEqProofs [go_sem]) (by simp -implicitDefEqProofs [go_sem]) (by simp -implicitDefEqProofs [go_sem]) (by simp -implicitDefEqProofs [go_sem]) ?_
  simp -implicitDefEqProofs [go_sem, qA]
theorem getD_ge {l : List Nat} {i : Nat} (h : l.length ≤ i) : l.getD i 0 = 0 := by
  rw [List.getD_eq_getElem?_getD, List.getElem?_eq_none h]; rfl
set_option maxHeartbeats 2000000 in
theorem add32_pure (A V : Nat) (ha : Len (lims 4294967296 A)) (hb : Len (lims 4294967296 V)) : Pure Tryz.prog 209 [qA A, qA V] (qA (A + V)) := by
  unfold Len at ha hb
  have hva := lv_lims (B := 4294967296) (by omega) A
  have hvb := lv_lims (B := 4294967296) (by omega) V
  have la := lim_lims (B := 4294967296) (by omega) A
  have lb := lim_lims (B := 4294967296) (by omega) V
  refine Pure.of_go mixed Tryz.func209 rfl (rs := [.tmp 4]) rfl (by kernel_rfl) (ro_qA _) ?_
  unfold qA
  rw [← hva, ← hvb]
  rw [hva, hvb]
  generalize lims 4294967296 A = a at *
  generalize lims 4294967296 V = b at *
  obtain ⟨m, hm⟩ : ∃ m : Nat, m = max a.length b.length := ⟨_, rfl⟩
  have em : (if a.length < b.length then (b.length : Int) else a.length) = (m : Nat) := by split <;> omega
  have em1 : IntKind.i64.wrap ((m : Int) + 1) = (m : Int) + 1 := w64 (by omega)
  simp -implicitDefEqProofs [go_sem, em, em1]
  refine ⟨by omega, ?_⟩
  refine go_loopN 9 (α := {p : List Nat × Nat // (p.1.length ≤ m ∨ (p.1.length = m + 1 ∧ p.2 = 0)) ∧ p.2 ≤ 1 ∧ Lim 4294967296 p.1 ∧ lv 4294967296 p.1 + 4294967296 ^ p.1.length * p.2 = lv 4294967296 (a.take p.1.length) + lv 4294967296 (b.take p.1.length)}) (fun p => [(0, mA a), (1, mA b), (5, .own 1 0 0 p.1.1.length), (6, .int .u64 p.1.2), (7, .int .i64 p.1.1.length)]) (fun p => [(0, .live 1 (uA .u32 p.1.1))]) (fun p => m + 1 - p.1.1.length) ⟨([], 0), by simp [lim_nil]⟩ [] (by simp) (by simp) (by simp) (by simp -implicitDefEqProofs [go_sem]) (by simp -implicitDefEqProofs [go_sem]) fun ⟨⟨out, c⟩, h1, h2, h3, h4⟩ => ?_
  simp only at h1 h2 h3 h4
  obtain ⟨i, hi⟩ : ∃ i, i = out.length := ⟨_, rfl⟩
  have hx := la.getD (by omega) i
  have hy := lb.getD (by omega) i
  have t1 := lv_take_succ 4294967296 a i
  have t2 := lv_take_succ 4294967296 b i
  have ga := fun h => uA_getE .u32 (l := a) (i := i) h
  have gb := fun h => uA_getE .u32 (l := b) (i := i) h
  have za := fun h => getD_ge (l := a) (i := i) h
  have zb := fun h => getD_ge (l := b) (i := i) h
  obtain ⟨x, hxe⟩ : ∃ x, x = a.getD i 0 := ⟨_, rfl⟩
  obtain ⟨y, hye⟩ : ∃ y, y = b.getD i 0 := ⟨_, rfl⟩
  rw [← hxe] at hx t1 ga za
  rw [← hye] at hy t2 gb zb
  have wx : IntKind.u64.wrap (x : Int) = x := wu64 (by omega)
  have wy : IntKind.u64.wrap (y : Int) = y := wu64 (by omega)
  obtain ⟨cx, hcx⟩ : ∃ q, q = c + x := ⟨_, rfl⟩
  have wcx : IntKind.u64.wrap ((c : Int) + x) = (cx : Nat) := by rw [wu64 (by omega)]; omega
  obtain ⟨v, hv⟩ : ∃ q, q = cx + y := ⟨_, rfl⟩
  have wv : IntKind.u64.wrap ((cx : Int) + y) = (v : Nat) := by rw [wu64 (by omega)]; omega
  have wv2 : x = 0 → IntKind.u64.wrap ((c : Int) + y) = (v : Nat) := fun h => by rw [wu64 (by omega)]; omega
  have w1 := w32N v
  have s1 := shr32N v
  have hdm := Nat.mod_add_div v 4294967296
  have hlo : v % 4294967296 < 4294967296 := Nat.mod_lt _ (by omega)
  obtain ⟨lo, hlo2⟩ : ∃ j, j = v % 4294967296 := ⟨_, rfl⟩
  obtain ⟨c2, hc2⟩ : ∃ j, j = v / 4294967296 := ⟨_, rfl⟩
  rw [← hlo2] at w1 hdm hlo
  rw [← hc2] at s1 hdm
  have es : IntKind.i64.wrap ((i : Int) + 1) = (i + 1 : Nat) := by rw [w64 (by omega)]; omega
  have hcont : i < m ∨ 0 < c → m + 1 - (i + 1) < m + 1 - i ∧ (i + 1 ≤ m ∨ (i + 1 = m + 1 ∧ c2 = 0)) := fun h => by
    refine ⟨by omega, ?_⟩
    rcases Nat.lt_or_ge i m with h5 | h5
    · omega
    · right
      have := za (by omega); have := zb (by omega)
      omega
  have hinv : lv 4294967296 (out ++ [lo]) + 4294967296 ^ (i + 1) * c2 = lv 4294967296 (a.take (i + 1)) + lv 4294967296 (b.take (i + 1)) := by
    rw [lv_snoc, t1, t2, ← hi, Nat.pow_succ]
    rw [← hi] at h4
    have h7 : 4294967296 ^ i * (lo + 4294967296 * c2) = 4294967296 ^ i * (c + x + y) := by rw [hdm, hv, hcx]
    simp only [Nat.mul_add, ← Nat.mul_assoc] at h7 h4 ⊢
    omega
  rw [← hi] at h1 h4
  by_cases hgo : i < m ∨ 0 < c
  · obtain ⟨hc3, hc4⟩ := hcont hgo
    have hc2' : c2 ≤ 1 := by omega
    have hag : (out ++ [lo]).length = i + 1 := by simp [hi]
    have hlo3 : Lim 4294967296 (out ++ [lo]) := lim_append.2 ⟨h3, by simpa [Lim] using hlo⟩
    have htk : (uA .u32 out).take i = uA .u32 out := by rw [hi]; exact uA_self _ _
    by_cases ia : i < a.length
    · have ga := ga ia
      have im : i < m := by omega
      by_cases ib : i < b.length
      · have gb := gb ib
        simp -implicitDefEqProofs [go_sem, ← hi, em, ia, ib, im, ga, gb, wx, wy, wcx, wv, w1, s1, htk, es]
        refine ⟨by omega, go_again ⟨(out ++ [lo], c2), by simp only [hag]; exact hc4, hc2', hlo3, by simp only [hag]; exact hinv⟩ (by simp only [hag, ← hi]; exact hc3) [(0, 10)] (by simp) (by simp) (by simp) (by simp -implicitDefEqProofs [go_sem, ← hi]) (by simp -implicitDefEqProofs [go_sem, uA_append])⟩
      · have hy0 := zb (by omega)
        have hvx : v = cx := by omega
        rw [hvx] at w1 s1
        simp -implicitDefEqProofs [go_sem, ← hi, em, ia, ib, im, ga, wx, wcx, w1, s1, htk, es]
        refine ⟨by omega, go_again ⟨(out ++ [lo], c2), by simp only [hag]; exact hc4, hc2', hlo3, by simp only [hag]; exact hinv⟩ (by simp only [hag, ← hi]; exact hc3) [(0, 10)] (by simp) (by simp) (by simp) (by simp -implicitDefEqProofs [go_sem, ← hi]) (by simp -implicitDefEqProofs [go_sem, uA_append])⟩
    · have hx0 := za (by omega)
      by_cases ib : i < b.length
      · have gb := gb ib
        have im : i < m := by omega
        have wv2 := wv2 hx0
        simp -implicitDefEqProofs [go_sem, ← hi, em, ia, ib, im, gb, wy, wv2, w1, s1, htk, es]
        refine ⟨by omega, go_again ⟨(out ++ [lo], c2), by simp only [hag]; exact hc4, hc2', hlo3, by simp only [hag]; exact hinv⟩ (by simp only [hag, ← hi]; exact hc3) [(0, 10)] (by simp) (by simp) (by simp) (by simp -implicitDefEqProofs [go_sem, ← hi]) (by simp -implicitDefEqProofs [go_sem, uA_append])⟩
      · have hy0 := zb (by omega)
        have im : ¬ i < m := by omega
        have c0 : 0 < c := by omega
        have hvc : v = c := by omega
        rw [hvc] at w1 s1
        simp -implicitDefEqProofs [go_sem, ← hi, em, ia, ib, im, c0, w1, s1, htk, es]
        refine ⟨by omega, go_again ⟨(out ++ [lo], c2), by simp only [hag]; exact hc4, hc2', hlo3, by simp only [hag]; exact hinv⟩ (by simp only [hag, ← hi]; exact hc3) [(0, 10)] (by simp) (by simp) (by simp) (by simp -implicitDefEqProofs [go_sem, ← hi]) (by simp -implicitDefEqProofs [go_sem, uA_append])⟩
  · have im : ¬ i < m := by omega
    have c0 : c = 0 := by omega
    rw [c0, Nat.mul_zero, Nat.add_zero, List.take_of_length_le (by omega), List.take_of_length_le (by omega), hva, hvb] at h4
    simp -implicitDefEqProofs [go_sem, ← hi, em, im, c0]
    refine goC_dead [0] _ (trim32_pure out (by unfold LenX; omega)) (by simp -implicitDefEqProofs [go_sem, hi, uA_self]) (by simp -implicitDefEqProofs [go_sem]) (by simp -implicitDefEqProofs [go_sem, hi]) (by simp -implicitDefEqProofs [go_sem]) ?_
    rw [trim_lims (by omega) h3, h4]
    simp -implicitDefEqProofs [go_sem]
set_option maxHeartbeats 2000000 in
theorem sub32_pure (A V : Nat) (ha : Len (lims 4294967296 A)) (hb : Len (lims 4294967296 V)) (hAV : V ≤ A) : Pure Tryz.prog 199 [qA A, qA V] (qA (A - V)) := by
  unfold Len at ha hb
  have hva := lv_lims (B := 4294967296) (by omega) A
  have hvb := lv_lims (B := 4294967296) (by omega) V
  have la := lim_lims (B := 4294967296) (by omega) A
  have lb := lim_lims (B := 4294967296) (by omega) V
  have hlen : (lims 4294967296 V).length ≤ (lims 4294967296 A).length := by
    rcases Nat.lt_or_ge (lims 4294967296 A).length (lims 4294967296 V).length with h | h
    · exfalso
      have := lv_lt_len (B := 4294967296) (by omega) la (n := V) h
      omega
    · exact h
  refine Pure.of_go mixed Tryz.func199 rfl (rs := [.tmp 4]) rfl (by kernel_rfl) (ro_qA _) ?_
  unfold qA
  generalize lims 4294967296 A = a at *
  generalize lims 4294967296 V = b at *
  simp -implicitDefEqProofs [go_sem]
  refine ⟨by omega, ?_⟩
  refine go_loopN 9 (α := {p : List Nat × Nat // p.1.length ≤ a.length ∧ p.2 ≤ 1 ∧ Lim 4294967296 p.1 ∧ lv 4294967296 p.1 + lv 4294967296 (b.take p.1.length) = lv 4294967296 (a.take p.1.length) + 4294967296 ^ p.1.length * p.2}) (fun p => [(0, mA a), (1, mA b), (5, .own 1 0 0 p.1.1.length), (6, .int .u64 p.1.2), (7, .int .i64 p.1.1.length)]) (fun p => [(0, .live 1 (uA .u32 p.1.1))]) (fun p => a.length - p.1.1.length) ⟨([], 0), by simp [lim_nil]⟩ [] (by simp) (by simp) (by simp) (by simp -implicitDefEqProofs [go_sem]) (by simp -implicitDefEqProofs [go_sem]) fun ⟨⟨out, c⟩, h1, h2, h3, h4⟩ => ?_
  simp only at h1 h2 h3 h4
  obtain ⟨i, hi⟩ : ∃ i, i = out.length := ⟨_, rfl⟩
  rw [← hi] at h1 h4
  by_cases hgo : i < a.length
  · have hx := la.getD (by omega) i
    have hy := lb.getD (by omega) i
    have t1 := lv_take_succ 4294967296 a i
    have t2 := lv_take_succ 4294967296 b i
    have ga := uA_getE .u32 (l := a) (i := i) hgo
    have gb := fun h => uA_getE .u32 (l := b) (i := i) h
    have zb := fun h => getD_ge (l := b) (i := i) h
    obtain ⟨x, hxe⟩ : ∃ x, x = a.getD i 0 := ⟨_, rfl⟩
    obtain ⟨y, hye⟩ : ∃ y, y = b.getD i 0 := ⟨_, rfl⟩
    rw [← hxe] at hx t1 ga
    rw [← hye] at hy t2 gb zb
    have wx : IntKind.u64.wrap (x : Int) = x := wu64 (by omega)
    have wy : IntKind.u64.wrap (y : Int) = y := wu64 (by omega)
    obtain ⟨v, hv⟩ : ∃ q, q = c + y := ⟨_, rfl⟩
    have wv : IntKind.u64.wrap ((c : Int) + y) = (v : Nat) := by rw [wu64 (by omega)]; omega
    obtain ⟨x2, hx2⟩ : ∃ q, q = x + 4294967296 := ⟨_, rfl⟩
    have wx2 : IntKind.u64.wrap ((x : Int) + 4294967296) = (x2 : Nat) := by rw [wu64 (by omega)]; omega
    have htk : (uA .u32 out).take i = uA .u32 out := by rw [hi]; exact uA_self _ _
    have es : IntKind.i64.wrap ((i : Int) + 1) = (i + 1 : Nat) := by rw [w64 (by omega)]; omega
    obtain ⟨lo, c2, hc2, hlo, hsum, hlow, hhigh⟩ : ∃ lo c2 : Nat, c2 ≤ 1 ∧ lo < 4294967296 ∧ lo + c + y = x + 4294967296 * c2 ∧ (x < v → c2 = 1 ∧ IntKind.u32.wrap (IntKind.u64.wrap ((x2 : Int) - v)) = (lo : Nat)) ∧ (¬ x < v → c2 = 0 ∧ IntKind.u32.wrap (IntKind.u64.wrap ((x : Int) - v)) = (lo : Nat)) := by
      by_cases hxv : x < v
      · refine ⟨x2 - v, 1, by omega, by omega, by omega, fun _ => ⟨rfl, ?_⟩, fun h => absurd hxv h⟩
        rw [wu64 (by omega), show ((x2 : Int) - v) = (x2 - v : Nat) by omega, w32N, Nat.mod_eq_of_lt (by omega)]
      · refine ⟨x - v, 0, by omega, by omega, by omega, fun h => absurd h hxv, fun _ => ⟨rfl, ?_⟩⟩
        rw [wu64 (by omega), show ((x : Int) - v) = (x - v : Nat) by omega, w32N, Nat.mod_eq_of_lt (by omega)]
    have hag : (out ++ [lo]).length = i + 1 := by simp [hi]
    have hlo3 : Lim 4294967296 (out ++ [lo]) := lim_append.2 ⟨h3, by simpa [Lim] using hlo⟩
    have hinv : lv 4294967296 (out ++ [lo]) + lv 4294967296 (b.take (i + 1)) = lv 4294967296 (a.take (i + 1)) + 4294967296 ^ (i + 1) * c2 := by
      rw [lv_snoc, t1, t2, ← hi, Nat.pow_succ]
      have h7 : 4294967296 ^ i * (lo + c + y) = 4294967296 ^ i * (x + 4294967296 * c2) := by rw [hsum]
      simp only [Nat.mul_add, ← Nat.mul_assoc] at h7 h4 ⊢
      omega
    by_cases ib : i < b.length
    · have gb := gb ib
      by_cases hxv : x < v
      · obtain ⟨e1, e2⟩ := hlow hxv
        subst e1
        simp -implicitDefEqProofs [go_sem, ← hi, hgo, ib, ga, gb, wx, wy, wv, hxv, wx2, e2, htk, es]
        refine ⟨by omega, go_again ⟨(out ++ [lo], 1), by simp only [hag]; omega, hc2, hlo3, by simp only [hag]; exact hinv⟩ (by simp only [hag, ← hi]; omega) [(0, 10)] (by simp) (by simp) (by simp) (by simp -implicitDefEqProofs [go_sem, ← hi]) (by simp -implicitDefEqProofs [go_sem, uA_append])⟩
      · obtain ⟨e1, e2⟩ := hhigh hxv
        subst e1
        simp -implicitDefEqProofs [go_sem, ← hi, hgo, ib, ga, gb, wx, wy, wv, hxv, e2, htk, es]
        refine ⟨by omega, go_again ⟨(out ++ [lo], 0), by simp only [hag]; omega, hc2, hlo3, by simp only [hag]; exact hinv⟩ (by simp only [hag, ← hi]; omega) [(0, 10)] (by simp) (by simp) (by simp) (by simp -implicitDefEqProofs [go_sem, ← hi]) (by simp -implicitDefEqProofs [go_sem, uA_append])⟩
    · have hy0 := zb (by omega)
      have hvc : v = c := by omega
      rw [hvc] at hlow hhigh
      by_cases hxv : x < c
      · obtain ⟨e1, e2⟩ := hlow hxv
        subst e1
        simp -implicitDefEqProofs [go_sem, ← hi, hgo, ib, ga, wx, hxv, wx2, e2, htk, es]
        refine ⟨by omega, go_again ⟨(out ++ [lo], 1), by simp only [hag]; omega, hc2, hlo3, by simp only [hag]; exact hinv⟩ (by simp only [hag, ← hi]; omega) [(0, 10)] (by simp) (by simp) (by simp) (by simp -implicitDefEqProofs [go_sem, ← hi]) (by simp -implicitDefEqProofs [go_sem, uA_append])⟩
      · obtain ⟨e1, e2⟩ := hhigh hxv
        subst e1
        simp -implicitDefEqProofs [go_sem, ← hi, hgo, ib, ga, wx, hxv, e2, htk, es]
        refine ⟨by omega, go_again ⟨(out ++ [lo], 0), by simp only [hag]; omega, hc2, hlo3, by simp only [hag]; exact hinv⟩ (by simp only [hag, ← hi]; omega) [(0, 10)] (by simp) (by simp) (by simp) (by simp -implicitDefEqProofs [go_sem, ← hi]) (by simp -implicitDefEqProofs [go_sem, uA_append])⟩
  · have e : i = a.length := by omega
    rw [e, List.take_length, List.take_of_length_le (by omega), hva, hvb] at h4
    have hlo := lv_lt h3
    rw [← hi, e] at hlo
    have hA := lv_lt la
    rw [hva] at hA
    have hc0 : c = 0 := by
      rcases Nat.eq_zero_or_pos c with h6 | h6
      · exact h6
      · rw [show c = 1 by omega] at h4; omega
    rw [hc0, Nat.mul_zero, Nat.add_zero] at h4
    simp -implicitDefEqProofs [go_sem, ← hi, hgo]
    refine goC_dead [0] _ (trim32_pure out (by unfold LenX; omega)) (by simp -implicitDefEqProofs [go_sem, hi, uA_self]) (by simp -implicitDefEqProofs [go_sem]) (by simp -implicitDefEqProofs [go_sem, hi]) (by simp -implicitDefEqProofs [go_sem]) ?_
    rw [trim_lims (by omega) h3, show lv 4294967296 out = A - V by omega]
    simp -implicitDefEqProofs [go_sem]
set_option maxHeartbeats 4000000 in
theorem mul32_pure (A V : Nat) (ha : Len (lims 4294967296 A)) (hb : Len (lims 4294967296 V)) : Pure Tryz.prog 149 [qA A, qA V] (qA (A * V)) := by
  unfold Len at ha hb
  have hva := lv_lims (B := 4294967296) (by omega) A
  have hvb := lv_lims (B := 4294967296) (by omega) V
  have la := lim_lims (B := 4294967296) (by omega) A
  have lb := lim_lims (B := 4294967296) (by omega) V
  refine Pure.of_go mixed Tryz.func149 rfl (rs := [.tmp 4]) rfl (by kernel_rfl) (ro_qA _) ?_
  unfold qA
  generalize lims 4294967296 A = a at *
  generalize lims 4294967296 V = b at *
  obtain ⟨m, hm⟩ : ∃ m, m = a.length + b.length := ⟨_, rfl⟩
  have e0 : IntKind.i64.wrap ((a.length : Int) + b.length) = (m : Nat) := by rw [w64 (by omega)]; omega
  simp -implicitDefEqProofs [go_sem, e0]
  refine ⟨by omega, ?_⟩
  rw [uA_rep]
  refine go_loopN 9 (α := {p : List Nat × Nat // p.1.length = m ∧ p.2 ≤ a.length ∧ Lim 4294967296 p.1 ∧ lv 4294967296 p.1 = lv 4294967296 (a.take p.2) * lv 4294967296 b ∧ ∀ j, p.2 + b.length ≤ j → p.1.getD j 0 = 0}) (fun p => [(0, mA a), (1, mA b), (5, .own 1 0 0 m), (6, .int .i64 p.1.2)]) (fun p => [(0, .live 1 (uA .u32 p.1.1))]) (fun p => a.length - p.1.2) ⟨(List.replicate m 0, 0), by simp, by simp, fun x hx => by rw [(List.mem_replicate.1 hx).2]; decide, by simp [lv_zeros], fun j _ => by simp [List.getElem?_replicate]; split <;> rfl⟩ [] (by simp) (by simp) (by simp) (by simp -implicitDefEqProofs [go_sem]) (by simp -implicitDefEqProofs [go_sem]) fun ⟨⟨out, i⟩, h1, h2, h3, h4, h5⟩ => ?_
  simp only at h1 h2 h3 h4 h5
  simp -implicitDefEqProofs [go_sem]
  refine ⟨fun h => ?_, fun h => ?_⟩
  · have hga := uA_getE .u32 (l := a) (i := i) (by omega)
    have hx := la.getD (by omega) i
    have t1 := lv_take_succ 4294967296 a i
    obtain ⟨x, hxx⟩ : ∃ x, x = a.getD i 0 := ⟨_, rfl⟩
    rw [← hxx] at hx t1 hga
    refine go_loopN 9 (α := {p : List Nat × Nat × Nat // p.1.length = m ∧ p.2.1 ≤ b.length ∧ p.2.2 < 4294967296 ∧ Lim 4294967296 p.1 ∧ lv 4294967296 p.1 + 4294967296 ^ (i + p.2.1) * p.2.2 = lv 4294967296 (a.take i) * lv 4294967296 b + 4294967296 ^ i * (x * lv 4294967296 (b.take p.2.1)) ∧ ∀ j, i + b.length ≤ j → p.1.getD j 0 = 0}) (fun p => [(0, mA a), (1, mA b), (5, .own 1 0 0 m), (6, .int .i64 i), (7, .int .u64 p.1.2.2), (8, .int .i64 p.1.2.1)]) (fun p => [(0, .live 1 (uA .u32 p.1.1))]) (fun p => b.length - p.1.2.1) ⟨(out, 0, 0), h1, by simp, by simp, h3, by simp [h4], h5⟩ [] (by simp) (by simp) (by simp) (by simp -implicitDefEqProofs [go_sem]) (by simp -implicitDefEqProofs [go_sem]) fun ⟨⟨o2, k, c⟩, q1, q2, q3, q4, q5, q6⟩ => ?_
    simp only at q1 q2 q3 q4 q5 q6
    simp -implicitDefEqProofs [go_sem]
    refine ⟨fun hk => ?_, fun hk => ?_⟩
    · have hgb := uA_getE .u32 (l := b) (i := k) (by omega)
      have hy := lb.getD (by omega) k
      have t2 := lv_take_succ 4294967296 b k
      obtain ⟨y, hyy⟩ : ∃ y, y = b.getD k 0 := ⟨_, rfl⟩
      rw [← hyy] at hy t2 hgb
      obtain ⟨j, hj⟩ : ∃ j, j = i + k := ⟨_, rfl⟩
      rw [← hj] at q5
      have ej : IntKind.i64.wrap ((i : Int) + k) = (j : Nat) := by rw [w64 (by omega)]; omega
      have hjm : j < m := by omega
      have hjo : j < o2.length := by omega
      have hgo := uA_at .u32 (l := o2) (i := j) hjo
      have hw := q4.getD (by omega) j
      obtain ⟨w, hww⟩ : ∃ w, w = o2.getD j 0 := ⟨_, rfl⟩
      rw [← hww] at hgo hw
      have hxy : x * y ≤ 4294967295 * 4294967295 := Nat.mul_le_mul (by omega) (by omega)
      have wx : IntKind.u64.wrap (x : Int) = x := wu64 (by omega)
      have wy : IntKind.u64.wrap (y : Int) = y := wu64 (by omega)
      have ww : IntKind.u64.wrap (w : Int) = w := wu64 (by omega)
      have e1 : IntKind.u64.wrap ((x : Int) * y) = (x * y : Nat) := mulN (by omega)
      obtain ⟨xy, hxye⟩ : ∃ q, q = x * y := ⟨_, rfl⟩
      rw [← hxye] at e1 hxy
      have e2 : IntKind.u64.wrap ((w : Int) + xy) = (w + xy : Nat) := addN (by omega)
      obtain ⟨s1, hs1⟩ : ∃ q, q = w + xy := ⟨_, rfl⟩
      rw [← hs1] at e2
      have e3 : IntKind.u64.wrap ((s1 : Int) + c) = (s1 + c : Nat) := addN (by omega)
      obtain ⟨v, hv⟩ : ∃ q, q = s1 + c := ⟨_, rfl⟩
      rw [← hv] at e3
      have e4 := w32N v
      have e5 := shr32N v
      have hdm := Nat.mod_add_div v 4294967296
      have hlo : v % 4294967296 < 4294967296 := Nat.mod_lt _ (by omega)
      obtain ⟨lo, hlo2⟩ : ∃ j, j = v % 4294967296 := ⟨_, rfl⟩
      obtain ⟨c2, hc2⟩ : ∃ j, j = v / 4294967296 := ⟨_, rfl⟩
      rw [← hlo2] at e4 hdm hlo
      rw [← hc2] at e5 hdm
      have es : IntKind.i64.wrap ((k : Int) + 1) = (k + 1 : Nat) := by rw [w64 (by omega)]; omega
      have hset := lv_set 4294967296 lo hjo
      rw [← hww] at hset
      simp -implicitDefEqProofs [go_sem, hga, hgb, ej, hgo, wx, wy, ww, e1, e2, e3, e4, e5, es, uA_set]
      refine ⟨hjm, hjo, h, hk, hjm, hjo, go_again ⟨(o2.set j lo, k + 1, c2), by simp [q1], Nat.succ_le_of_lt hk, by simp only; omega, q4.set hlo j, ?_, fun j' hj' => by rw [getD_set_ne (by omega)]; exact q6 j' hj'⟩ (by simp only; omega) [] (by simp) (by simp) (by simp) (by simp -implicitDefEqProofs [go_sem]) (by simp -implicitDefEqProofs [go_sem, uA_set])⟩
      simp only
      rw [← Nat.add_assoc, ← hj, t2, Nat.pow_succ]
      have h7 : 4294967296 ^ j * (lo + 4294967296 * c2) = 4294967296 ^ j * (w + x * y + c) := by rw [hdm, hv, hs1, hxye]
      have h8 : 4294967296 ^ i * (x * (4294967296 ^ k * y)) = 4294967296 ^ j * (x * y) := by rw [hj, Nat.pow_add, Nat.mul_left_comm x, ← Nat.mul_assoc]
      simp only [Nat.mul_add, ← Nat.mul_assoc] at h7 h8 q5 hset ⊢
      omega
    · have hkk : k = b.length := by omega
      subst hkk
      obtain ⟨j, hj⟩ : ∃ j, j = i + b.length := ⟨_, rfl⟩
      have ej : IntKind.i64.wrap ((i : Int) + b.length) = (j : Nat) := by rw [w64 (by omega)]; omega
      have hjo : j < o2.length := by omega
      have hjm : j < m := by omega
      have hgj := uA_at .u32 (l := o2) (i := j) (by omega)
      have es : IntKind.i64.wrap ((i : Int) + 1) = (i + 1 : Nat) := by rw [w64 (by omega)]; omega
      have hset := lv_set 4294967296 c hjo
      rw [q6 j (by omega)] at hset
      rw [← hj, List.take_length] at q5
      have e4 := w32N c
      rw [Nat.mod_eq_of_lt q3] at e4
      simp -implicitDefEqProofs [go_sem, ej, hgj, es, e4]
      refine ⟨hjm, hjo, go_again ⟨(o2.set j c, i + 1), by simp [q1], Nat.succ_le_of_lt h, q4.set q3 j, ?_, fun j' hj' => by simp only at hj'; rw [getD_set_ne (by omega)]; exact q6 j' (by omega)⟩ (by simp only; omega) [] (by simp) (by simp) (by simp) (by simp -implicitDefEqProofs [go_sem]) (by simp -implicitDefEqProofs [go_sem, uA_set])⟩
      simp only
      rw [t1, Nat.add_mul, Nat.mul_assoc]
      omega
  · have hi : i = a.length := by omega
    rw [hi, List.take_length, hva, hvb] at h4
    refine goC_dead [0] _ (trim32_pure out (by unfold LenX; omega)) (by simp -implicitDefEqProofs [go_sem, ← h1, uA_self]) (by simp -implicitDefEqProofs [go_sem]) (by simp -implicitDefEqProofs [go_sem, h1]) (by simp -implicitDefEqProofs [go_sem]) ?_
    rw [trim_lims (by omega) h3, h4]
    simp -implicitDefEqProofs [go_sem]
theorem sor32 {r x : Nat} (hr : r < 4294967296) (hx : x < 4294967296) : orI .u64 (IntKind.u64.wrap ((r : Int) * 4294967296)) (x : Int) = (r * 4294967296 + x : Nat) := by
  have e : IntKind.u64.wrap ((r : Int) * 4294967296) = (r * 4294967296 : Nat) := by rw [wu64 (by omega)]; omega
  rw [e, orN (by omega) (by omega)]
  have h := Nat.two_pow_add_eq_or_of_lt (i := 32) (b := x) (by omega) r
  rw [show (2 : Nat) ^ 32 = 4294967296 by rfl, Nat.mul_comm] at h
  rw [← h]
set_option maxHeartbeats 2000000 in
theorem short_pure (A y : Nat) (ha : Len (lims 4294967296 A)) (hy : 0 < y) (hyB : y < 4294967296) : Pure Tryz.prog 197 [qA A, .int .u32 y] (.agg [qA (A / y), qA (A % y)]) := by
  unfold Len at ha
  have hva := lv_lims (B := 4294967296) (by omega) A
  have la := lim_lims (B := 4294967296) (by omega) A
  have hof := of32_pure (A % y) (by have := Nat.mod_lt A hy; omega)
  refine Pure.of_go mixed Tryz.func197 rfl (rs := [.cell 4 208]) rfl (by kernel_rfl) (by simp -implicitDefEqProofs [go_sem, qA]) ?_
  unfold qA at *
  generalize lims 4294967296 A = a at *
  simp -implicitDefEqProofs [go_sem]
  refine ⟨by omega, ?_⟩
  rw [uA_rep, w64 (by omega)]
  obtain ⟨QQ, hQQ⟩ : ∃ q, q = A / y := ⟨_, rfl⟩
  obtain ⟨RR, hRR⟩ : ∃ q, q = A % y := ⟨_, rfl⟩
  rw [← hRR] at hof
  rw [← hQQ, ← hRR]
  refine go_loopN 9 (α := {p : List Nat × Nat × Nat // p.1.length = a.length ∧ Lim 4294967296 p.1 ∧ p.2.1 < y ∧ p.2.2 ≤ a.length ∧ lv 4294967296 (a.drop p.2.2) = y * lv 4294967296 (p.1.drop p.2.2) + p.2.1}) (fun p => [(0, mA a), (1, .int .u32 y), (4, .ptr 0 0 0), (5, .own 1 1 0 a.length), (6, .int .u64 p.1.2.1), (7, .int .i64 ((p.1.2.2 : Int) - 1))]) (fun p => [(0, .live 2 [.agg [.sl 0 true [], .sl 0 true []]]), (1, .live 1 (uA .u32 p.1.1))]) (fun p => p.1.2.2) ⟨(List.replicate a.length 0, 0, a.length), by simp, fun x hx => by rw [(List.mem_replicate.1 hx).2]; decide, hy, by simp, by simp⟩ [] (by simp) (fun _ _ _ _ h => h) (by omega) (by simp -implicitDefEqProofs [go_sem]) (by simp -implicitDefEqProofs [go_sem]) fun ⟨⟨out, m, i⟩, q1, q2, q3, q4, q5⟩ => ?_
  simp only at q1 q2 q3 q4 q5
  simp -implicitDefEqProofs [go_sem]
  refine ⟨fun h0 => ?_, fun h0 => ?_⟩
  · obtain ⟨k, hik⟩ : ∃ k, i = k + 1 := ⟨i - 1, by omega⟩
    subst hik
    have g1 := uA_getE .u32 (l := a) (i := k) (by omega)
    have hx := la.getD (by omega) k
    have hko : k < out.length := by omega
    have g2 := uA_at .u32 (l := out) (i := k) hko
    have hd := lv_drop 4294967296 (l := a) (k := k) (by omega)
    obtain ⟨x, hxx⟩ : ∃ x, x = a.getD k 0 := ⟨_, rfl⟩
    rw [← hxx] at hx g1 hd
    have hdm := Nat.div_add_mod (m * 4294967296 + x) y
    have hml := Nat.mod_lt (m * 4294967296 + x) hy
    have hqB : (m * 4294967296 + x) / y < 4294967296 := by
      rw [Nat.div_lt_iff_lt_mul hy]
      have : (m + 1) * 4294967296 ≤ y * 4294967296 := Nat.mul_le_mul_right _ q3
      rw [Nat.mul_comm 4294967296]
      omega
    have e0 := sor32 (r := m) (x := x) (by omega) hx
    have wx : IntKind.u64.wrap (x : Int) = x := wu64 (by omega)
    have wy : IntKind.u64.wrap (y : Int) = y := wu64 (by omega)
    have ei : IntKind.i64.wrap (((k + 1 : Nat) : Int) - 1) = (k : Nat) := by rw [w64 (by omega)]; omega
    have ek : ((k + 1 : Nat) : Int) - 1 = (k : Nat) := by omega
    have ek2 : IntKind.i64.wrap ((k : Int) - 1) = (k : Int) - 1 := w64 (by omega)
    simp -implicitDefEqProofs [go_sem, ek, g1]
    refine ⟨by omega, ?_⟩
    obtain ⟨v, hv⟩ : ∃ v, v = m * 4294967296 + x := ⟨_, rfl⟩
    rw [← hv] at e0 hdm hml hqB
    have e1 : ((v : Int).tdiv (y : Int)) = (v / y : Nat) := by rw [Int.tdiv_eq_ediv_of_nonneg (by omega)]; rfl
    have e2 : ((v : Int).tmod (y : Int)) = (v % y : Nat) := by rw [Int.tmod_eq_emod_of_nonneg (by omega)]; rfl
    obtain ⟨q, hq⟩ : ∃ q, q = v / y := ⟨_, rfl⟩
    obtain ⟨m2, hm2⟩ : ∃ q, q = v % y := ⟨_, rfl⟩
    rw [← hq] at e1 hdm hqB
    rw [← hm2] at e2 hdm hml
    have e4 : IntKind.u64.wrap (q : Int) = q := wu64 (by omega)
    have e3 := w32N q
    rw [Nat.mod_eq_of_lt hqB] at e3
    have hy0 : ¬ y = 0 := by omega
    simp -implicitDefEqProofs [go_sem, ek, ek2, g1, g2, wx, wy, e0, e1, e2, e3, e4, hy0, g2, uA_set]
    refine ⟨by omega, hko, ?_⟩
    refine go_again ⟨(out.set k q, m2, k), by simp [q1], q2.set hqB k, hml, by simp only; omega, ?_⟩ (by simp only; omega) [] (by simp) (fun _ _ _ _ h => h) (by omega) (by simp -implicitDefEqProofs [go_sem]) (by simp -implicitDefEqProofs [go_sem, uA_set])
    simp only
    have e9 : (out.set k q).drop k = q :: out.drop (k + 1) := by
      rw [List.drop_eq_getElem_cons (by simpa using hko), List.drop_set_of_lt (by omega)]
      simp
    rw [e9, lv_cons, hd, q5]
    have h9 : 4294967296 * (y * lv 4294967296 (out.drop (k + 1)) + m) = y * (4294967296 * lv 4294967296 (out.drop (k + 1))) + m * 4294967296 := by
      rw [Nat.mul_add, Nat.mul_left_comm, Nat.mul_comm m]
    rw [h9, Nat.mul_add y]
    omega
  · have hi : i = 0 := by omega
    subst hi
    simp only [List.drop_zero] at q5
    have hQ : lv 4294967296 out = QQ := by rw [hQQ, ← hva, q5, Nat.mul_add_div hy, Nat.div_eq_of_lt q3, Nat.add_zero]
    have hR : m = RR := by rw [hRR, ← hva, q5, Nat.mul_add_mod, Nat.mod_eq_of_lt q3]
    refine goC_dead [1] _ (trim32_pure out (by unfold LenX; omega)) (by simp -implicitDefEqProofs [go_sem, ← q1, uA_self]) (by simp -implicitDefEqProofs [go_sem]) (by simp -implicitDefEqProofs [go_sem, q1]) (by simp -implicitDefEqProofs [go_sem]) ?_
    rw [trim_lims (by omega) q2, hQ, hR]
    simp -implicitDefEqProofs [go_sem]
    refine goC_pure _ hof (by simp -implicitDefEqProofs [go_sem]) ?_
    simp -implicitDefEqProofs [go_sem, rop]
theorem guess_top {R V p x bt : Nat} {r bl : List Nat} (hr : lv 4294967296 r = R) (hv : lv 4294967296 (bl ++ [bt]) = V) (lb : Lim 4294967296 bl) (hp : p = bl.length) (hpr : p ≤ r.length) (hx : x = lv 4294967296 (r.drop p)) : x / (bt + 1) * V ≤ R := by
  have h1 : R = lv 4294967296 (r.take p) + 4294967296 ^ p * x := by
    rw [hx, ← hr]
    conv => lhs; rw [← List.take_append_drop p r]
    rw [lv_append, List.length_take, Nat.min_eq_left hpr]
  have h2 : V ≤ 4294967296 ^ p * (bt + 1) := by
    have := lv_lt (B := 4294967296) lb
    rw [← hp] at this
    rw [← hv, lv_append, ← hp, lv_cons, lv_nil, Nat.mul_zero, Nat.add_zero, Nat.mul_add, Nat.mul_one]
    omega
  have h3 : x / (bt + 1) * (bt + 1) ≤ x := Nat.div_mul_le_self _ _
  calc x / (bt + 1) * V ≤ x / (bt + 1) * (4294967296 ^ p * (bt + 1)) := Nat.mul_le_mul_left _ h2
    _ = 4294967296 ^ p * (x / (bt + 1) * (bt + 1)) := by rw [Nat.mul_left_comm]
    _ ≤ 4294967296 ^ p * x := Nat.mul_le_mul_left _ h3
    _ ≤ R := by omega
theorem cmpI_le {x y : Int} : cmpI x y ≤ 0 ↔ x ≤ y := by
  unfold cmpI; split
  · constructor <;> omega
  · split <;> constructor <;> omega
theorem prod_len {A V k : Nat} (h : V < 4294967296 ^ k) : (lims 4294967296 (A * V)).length ≤ (lims 4294967296 A).length + k := by
  refine lims_len (by omega) ?_
  rw [Nat.pow_add]
  have h1 := lv_lt (lim_lims (B := 4294967296) (by omega) A)
  rw [lv_lims (by omega)] at h1
  exact Nat.mul_lt_mul'' h1 h
set_option maxHeartbeats 4000000 in
theorem guess32_pure (R V : Nat) (hr : Len (lims 4294967296 R)) (hb : Len (lims 4294967296 V)) (hVR : V ≤ R) (h0 : 0 < V) (hlt : R < V * 4294967296) : Pure Tryz.prog 198 [qA R, qA V] (.int .u32 (R / V : Nat)) := by
  have hmul := fun h (hh : h < 18446744073709551616) => mul32_pure V h hb (by unfold Len; have := lims_len (B := 4294967296) (n := h) (k := 2) (by omega) hh; omega)
  have hcmp := fun h (hh : h < 18446744073709551616) => cmp32_pure (V * h) R (by unfold Len at hb; unfold LenX; have := prod_len (A := V) (V := h) (k := 2) hh; omega) hr.x
  have hof := fun h (hh : h < 18446744073709551616) => of32_pure h hh
  unfold Len at hr hb
  have hvr := lv_lims (B := 4294967296) (by omega) R
  have hvb := lv_lims (B := 4294967296) (by omega) V
  have lr := lim_lims (B := 4294967296) (by omega) R
  have lb := lim_lims (B := 4294967296) (by omega) V
  obtain ⟨bl, bt, hbe, hbt⟩ := lims_last (B := 4294967296) (n := V) (by omega) (Nat.pos_iff_ne_zero.1 h0)
  obtain ⟨n, hn⟩ : ∃ n, n = (lims 4294967296 V).length := ⟨_, rfl⟩
  obtain ⟨m, hm⟩ : ∃ m, m = (lims 4294967296 R).length := ⟨_, rfl⟩
  have hnp : n = bl.length + 1 := by rw [hn, hbe]; simp
  have hmn : n ≤ m := by
    rw [hn, hm]
    rcases Nat.lt_or_ge (lims 4294967296 R).length (lims 4294967296 V).length with h | h
    · have := lv_lt_len (B := 4294967296) (by omega) lr h; omega
    · exact h
  have hmn1 : m ≤ n + 1 := by
    rw [hm]
    refine lims_len (by omega) ?_
    have h1 := lv_lt lb
    rw [hvb, ← hn] at h1
    have h2 : V * 4294967296 < 4294967296 ^ n * 4294967296 := Nat.mul_lt_mul_of_pos_right h1 (by omega)
    rw [Nat.pow_succ]; exact Nat.lt_trans hlt h2
  have lbl : Lim 4294967296 bl := by rw [hbe] at lb; exact (lim_append.1 lb).1
  have hbtB : bt < 4294967296 := by
    have h9 : bt ∈ lims 4294967296 V := by rw [hbe]; exact List.mem_append_right _ (List.mem_singleton_self _)
    exact lb bt h9
  have hgb := uA_getE .u32 (l := lims 4294967296 V) (i := bl.length) (by omega)
  rw [show (lims 4294967296 V).getD bl.length 0 = bt by rw [hbe, List.getD_eq_getElem?_getD, List.getElem?_append_right (Nat.le_refl _), Nat.sub_self]; rfl] at hgb
  have hvbl : lv 4294967296 (bl ++ [bt]) = V := by rw [← hbe]; exact hvb
  refine Pure.of_go mixed Tryz.func198 rfl (rs := [.tmp 4]) rfl (by kernel_rfl) (by simp -implicitDefEqProofs [go_sem]) ?_
  unfold qA at *
  generalize lims 4294967296 R = r at *
  generalize lims 4294967296 V = b at *
  obtain ⟨p, hp⟩ : ∃ p, p = bl.length := ⟨_, rfl⟩
  obtain ⟨mm, hmm⟩ : ∃ q, m = q + 1 := ⟨m - 1, by omega⟩
  have hg1 := uA_getE .u32 (l := r) (i := mm) (by omega)
  have hx1 := lr.getD (by omega) mm
  obtain ⟨r1, hr1⟩ : ∃ x, x = r.getD mm 0 := ⟨_, rfl⟩
  rw [← hr1] at hg1 hx1
  have e1 : IntKind.i64.wrap ((r.length : Int) - 1) = (mm : Nat) := by rw [w64 (by omega)]; omega
  have e2 : IntKind.u64.wrap (r1 : Int) = r1 := wu64 (by omega)
  have e3 : IntKind.i64.wrap ((b.length : Int) - 1) = (p : Nat) := by rw [w64 (by omega)]; omega
  rw [← hp] at hgb
  have e4 : IntKind.u64.wrap (bt : Int) = bt := wu64 (by omega)
  obtain ⟨x, hx⟩ : ∃ x, x = lv 4294967296 (r.drop p) := ⟨_, rfl⟩
  have hd := guess_top (p := p) (x := x) hvr hvbl lbl hp (by omega) hx
  have hxB : x < 18446744073709551616 := by
    have h1 := lv_lt (B := 4294967296) (lr.drop p)
    have h2 : 4294967296 ^ (r.drop p).length ≤ 4294967296 ^ 2 := Nat.pow_le_pow_right (by omega) (by rw [List.length_drop]; omega)
    rw [← hx] at h1
    omega
  obtain ⟨bt1, hbt1⟩ : ∃ q, q = bt + 1 := ⟨_, rfl⟩
  obtain ⟨d, hdd⟩ : ∃ q, q = x / bt1 := ⟨_, rfl⟩
  have e8 : IntKind.u64.wrap ((bt : Int) + 1) = (bt1 : Nat) := by rw [wu64 (by omega)]; omega
  have e9 : ¬ bt1 = 0 := by omega
  have e10 : (x : Int).tdiv (bt1 : Int) = (d : Nat) := by rw [Int.tdiv_eq_ediv_of_nonneg (by omega), hdd]; rfl
  have e10' : (x : Int) / (bt1 : Int) = (d : Nat) := by rw [hdd]; rfl
  have e11 : IntKind.u64.wrap (d : Int) = d := wu64 (by
    have : d ≤ x := by rw [hdd]; exact Nat.div_le_self _ _
    omega)
  rw [← hbt1, ← hdd] at hd
  rcases Nat.lt_or_ge b.length r.length with h | h
  case' inl =>
    have hg2 := uA_getE .u32 (l := r) (i := p) (by omega)
    have hx2 := lr.getD (by omega) p
    have d1 := lv_drop 4294967296 (l := r) (k := p) (by omega)
    have d2 := lv_drop 4294967296 (l := r) (k := p + 1) (by omega)
    rw [show r.drop (p + 1 + 1) = [] from List.drop_eq_nil_of_le (by omega), lv_nil] at d2
    rw [d2, ← hx, show p + 1 = mm by omega, ← hr1] at d1
    obtain ⟨r2, hr2⟩ : ∃ x, x = r.getD p 0 := ⟨_, rfl⟩
    rw [← hr2] at hg2 hx2 d1
    have e5 : IntKind.i64.wrap ((r.length : Int) - 2) = (p : Nat) := by rw [w64 (by omega)]; omega
    have e6 : IntKind.u64.wrap (r2 : Int) = r2 := wu64 (by omega)
    have e7 := sor32 hx1 hx2
    rw [show r1 * 4294967296 + r2 = x by omega] at e7
    clear d1 d2 hx2 hx1
    simp -implicitDefEqProofs [go_sem, e1, hg1, e2, h, e5, hg2, e6, e7, e3, e4, hgb, e8, e9, e10, e10', e11]
    refine ⟨by omega, by omega, by omega, ?_⟩
  case' inr =>
    have hxr : x = r1 := by
      have d1 := lv_drop 4294967296 (l := r) (k := p) (by omega)
      rw [show r.drop (p + 1) = [] from List.drop_eq_nil_of_le (by omega), lv_nil, ← hx, show p = mm by omega, ← hr1] at d1
      exact d1
    subst hxr
    simp -implicitDefEqProofs [go_sem, e1, hg1, e2, Nat.not_lt.2 h, e3, e4, hgb, e8, e9, e10, e10', e11]
    refine ⟨by omega, by omega, ?_⟩
  all_goals
    obtain ⟨Q, hQ⟩ : ∃ q, q = R / V := ⟨_, rfl⟩
    rw [← Nat.le_div_iff_mul_le h0, ← hQ] at hd
    have hQB : Q < 4294967296 := by rw [hQ, Nat.div_lt_iff_lt_mul h0, Nat.mul_comm]; exact hlt
    have hle : ∀ h, cmpI ((V * h : Nat) : Int) (R : Int) ≤ 0 ↔ h ≤ Q := fun h => by
      rw [cmpI_le, hQ, Nat.le_div_iff_mul_le h0, Nat.mul_comm h V]; omega
    rw [show ((R : Int) / (V : Int)) = (Q : Nat) by rw [hQ]; rfl]
    refine go_loopN 9 (α := {p : Nat × Nat × Nat // p.1 ≤ Q ∧ p.1 ≤ p.2.1 ∧ (p.2.1 = p.1 → p.2.1 = d) ∧ 1 ≤ p.2.2 ∧ p.2.2 ≤ p.2.1 + 1 ∧ p.2.1 ≤ 8589934592}) (fun p => [(0, mA r), (1, mA b), (8, .int .u64 p.1.1), (9, .int .u64 p.1.2.1), (10, .int .u64 p.1.2.2)]) (fun p => []) (fun p => 8589934592 - p.1.2.1) ⟨(d, d, 1), hd, by simp, fun _ => rfl, by simp, by simp only; omega, by simp only; omega⟩ [] (by simp) (by simp) (by simp) (by simp -implicitDefEqProofs [go_sem]) (by simp -implicitDefEqProofs [go_sem]) fun ⟨⟨lo, hi, st⟩, q1, q2, q3, q4, q5, q6⟩ => ?_
    simp only at q1 q2 q3 q4 q5 q6
    simp -implicitDefEqProofs [go_sem]
    refine goC_pure _ (hof hi (by omega)) (by simp -implicitDefEqProofs [go_sem]) ?_
    simp -implicitDefEqProofs [go_sem]
    refine goC_pure _ (hmul hi (by omega)) (by simp -implicitDefEqProofs [go_sem]) ?_
    have hc1 := hcmp hi (by omega)
    have hc2 := hle hi
    generalize V * hi = vh at *
    obtain ⟨c, hc⟩ : ∃ c, c = cmpI (vh : Int) (R : Int) := ⟨_, rfl⟩
    rw [← hc] at hc1 hc2
    simp -implicitDefEqProofs [go_sem]
    refine goC_pure _ hc1 (by simp -implicitDefEqProofs [go_sem]) ?_
    rcases Nat.lt_or_ge Q hi with hq | hq
    case' inr =>
      have hc3 : c ≤ 0 := by rw [hc2]; exact hq
      have hc4 : (hi : Int) < 4294967296 := by omega
      have w1 : IntKind.u64.wrap ((hi : Int) + st) = (hi + st : Nat) := addN (by omega)
      have w2 : IntKind.u64.wrap ((st : Int) * 2) = (st * 2 : Nat) := by rw [wu64 (by omega)]; omega
      obtain ⟨h2, hh2⟩ : ∃ h, h = hi + st := ⟨_, rfl⟩
      obtain ⟨s2, hs2⟩ : ∃ h, h = st * 2 := ⟨_, rfl⟩
      rw [← hh2] at w1
      rw [← hs2] at w2
      simp -implicitDefEqProofs [go_sem, hc3, hc4, w1, w2]
      exact go_again ⟨(hi, h2, s2), hq, by simp only; omega, by simp only; omega, by simp only; omega, by simp only; omega, by simp only; omega⟩ (by simp only; omega) [] (by simp) (by simp) (by simp) (by simp -implicitDefEqProofs [go_sem]) (by simp -implicitDefEqProofs [go_sem])
    case' inl =>
      have hc3 : ¬ c ≤ 0 := by rw [hc2]; omega
      obtain ⟨h3, hh3⟩ : ∃ h, h = min hi 4294967296 := ⟨_, rfl⟩
      have hm1 : (if 4294967296 < (hi : Int) then 4294967296 else (hi : Int)) = (h3 : Nat) := by split <;> omega
      simp -implicitDefEqProofs [go_sem, hc3, hm1]
      clear hc1 hc2 hc hm1
      refine go_loopN 9 (α := {p : Nat × Nat // p.1 ≤ Q ∧ Q < p.2 ∧ p.2 ≤ 4294967296}) (fun p => [(0, mA r), (1, mA b), (8, .int .u64 p.1.1), (9, .int .u64 p.1.2)]) (fun p => []) (fun p => p.1.2 - p.1.1) ⟨(lo, h3), q1, by simp only; omega, by simp only; omega⟩ [] (by simp) (by simp) (by simp) (by simp -implicitDefEqProofs [go_sem]) (by simp -implicitDefEqProofs [go_sem]) fun ⟨⟨lo, hi⟩, q1, q2, q3⟩ => ?_
      simp only at q1 q2 q3
      have w1 : IntKind.u64.wrap ((hi : Int) - lo) = (hi - lo : Nat) := by rw [wu64 (by omega)]; omega
      obtain ⟨df, hdf⟩ : ∃ h, h = hi - lo := ⟨_, rfl⟩
      rw [← hdf] at w1
      have w2 : IntKind.u64.wrap ((df : Int) / 2) = (df / 2 : Nat) := by rw [wu64 (by omega)]; omega
      obtain ⟨d2, hd2⟩ : ∃ h, h = df / 2 := ⟨_, rfl⟩
      rw [← hd2] at w2
      have w3 : IntKind.u64.wrap ((lo : Int) + d2) = (lo + d2 : Nat) := addN (by omega)
      obtain ⟨md, hmd⟩ : ∃ h, h = lo + d2 := ⟨_, rfl⟩
      rw [← hmd] at w3
      simp -implicitDefEqProofs [go_sem, w1]
      refine ⟨fun h5 => ?_, fun h5 => ?_⟩
      case' refine_1 =>
        simp -implicitDefEqProofs [go_sem, w1, w2, w3]
        refine goC_pure _ (hof md (by omega)) (by simp -implicitDefEqProofs [go_sem]) ?_
        simp -implicitDefEqProofs [go_sem]
        refine goC_pure _ (hmul md (by omega)) (by simp -implicitDefEqProofs [go_sem]) ?_
        have hc1 := hcmp md (by omega)
        have hc2 := hle md
        generalize V * md = vh at *
        obtain ⟨c, hc⟩ : ∃ c, c = cmpI (vh : Int) (R : Int) := ⟨_, rfl⟩
        rw [← hc] at hc1 hc2
        simp -implicitDefEqProofs [go_sem]
        refine goC_pure _ hc1 (by simp -implicitDefEqProofs [go_sem]) ?_
        simp -implicitDefEqProofs [go_sem]
        refine ⟨fun h6 => ?_, fun h6 => ?_⟩
        · exact go_again ⟨(md, hi), hc2.1 h6, q2, q3⟩ (by simp only; omega) [] (by simp) (by simp) (by simp) (by simp -implicitDefEqProofs [go_sem]) (by simp -implicitDefEqProofs [go_sem])
        · have h7 : ¬ md ≤ Q := fun h8 => by have := hc2.2 h8; omega
          exact go_again ⟨(lo, md), q1, by simp only; omega, by simp only; omega⟩ (by simp only; omega) [] (by simp) (by simp) (by simp) (by simp -implicitDefEqProofs [go_sem]) (by simp -implicitDefEqProofs [go_sem])
      case' refine_2 =>
        have hlo : lo = Q := by omega
        subst hlo
        have e20 := w32N lo
        rw [Nat.mod_eq_of_lt hQB] at e20
        simp -implicitDefEqProofs [go_sem, e20]
theorem le_wk {ne : Nat} {t t1 : Nat → AV} {f : Nat → BS} {n : Nat} {s0 : St} (hw : ∀ k, Wk (t k) (t1 k)) (h : le ne ⟨t1, f, n⟩ s0) : le ne ⟨t, f, n⟩ s0 := by
  rintro c0 N a w ⟨c, rfl, hk, hfr, ht, hN, hd, hs, h0, hne⟩
  exact h c0 N a _ ⟨c, rfl, hk, hfr, fun k => (hw k).1 c _ (ht k), hN, hd, hs, h0, hne⟩
theorem wk_upd {t : Nat → AV} {i : Nat} {v : AV} (h : Wk (t i) v) : ∀ k, Wk (t k) (upd t i v k) := fun k => by
  unfold upd; split
  · rename_i e; subst e; exact h
  · exact Wk.refl _
theorem go_loopW {P : Program} {z : Bool} {ne : Nat} {Q : AEx → St → Prop} {k : List Itm} {t : Nat → AV} {f : Nat → BS} {n : Nat} {c : Code} {α : Type} (i : Nat) (v : AV) (hw : Wk (t i) v) (n1 : Nat) (tl : α → List (Nat × AV)) (hl : α → List (Nat × BS)) (m : α → Nat) (x0 : α) (rl : List (Nat × Nat)) (hrl : ∀ p ∈ rl, ne ≤ p.1) (hri : ∀ p ∈ hl x0, ∀ q ∈ hl x0, nm rl p.1 = nm rl q.1 → p.1 = q.1) (hne : ne ≤ n1) (ht : ∀ p ∈ tl x0, upd t i v p.1 = ren (nm rl) p.2 ∧ clo n1 p.2) (hh : ∀ p ∈ hl x0, p.1 < n1 ∧ f (nm rl p.1) = renB (nm rl) p.2 ∧ cloP ne n1 p)
    (h : ∀ x, go P z ne Q (.code c :: .lp α (fun y => sof n1 (tl y) (hl y)) m x :: k) (tm (tl x)) (hp n1 (hl x)) n1) : go P z ne Q (.code (.loop c) :: k) t f n :=
  go_loop (fun y => sof n1 (tl y) (hl y)) m x0 (le_wk (wk_upd hw) (le_lists rl hrl hri hne ht hh)) h
theorem lims_mono {B x y : Nat} (hB : 2 ≤ B) (h : x ≤ y) : (lims B x).length ≤ (lims B y).length := by
  refine lims_len hB ?_
  have h1 := lv_lt (lim_lims (B := B) (by omega) y)
  rw [lv_lims (by omega)] at h1
  omega
theorem lv_drop_le (B : Nat) (hB : B ≠ 0) (l : List Nat) (k : Nat) : lv B (l.drop k) ≤ lv B l := by
  rcases Nat.lt_or_ge k l.length with h | h
  · have h1 : lv B l = lv B (l.take k) + B ^ k * lv B (l.drop k) := by
      conv => lhs; rw [← List.take_append_drop k l]
      rw [lv_append, List.length_take, Nat.min_eq_left (by omega)]
    have h2 : 1 * lv B (l.drop k) ≤ B ^ k * lv B (l.drop k) := Nat.mul_le_mul_right _ (Nat.pow_pos (by omega))
    omega
  · rw [List.drop_eq_nil_of_le h, lv_nil]; exact Nat.zero_le _
set_option maxHeartbeats 4000000 in
theorem divmod32_pure (A V : Nat) (ha : Len (lims 4294967296 A)) (hb : Len (lims 4294967296 V)) (h0 : 0 < V) : Pure Tryz.prog 167 [qA A, qA V] (.agg [qA (A / V), qA (A % V)]) := by
  have hcmp := cmp32_pure A V ha.x hb.x
  by_cases hlt : A < V
  · have hc : cmpI A V < 0 := by rw [cmpI_lt (by omega)]; omega
    rw [Nat.div_eq_of_lt hlt, Nat.mod_eq_of_lt hlt]
    refine (Pure.of_go (r := .agg [.sl 0 true [], qA A]) mixed Tryz.func167 rfl (rs := [.cell 4 208]) rfl (by kernel_rfl) (by simp -implicitDefEqProofs [go_sem, qA]) ?_).weaken (Wk.agg (.cons (by unfold qA; rw [lims_zero]; exact Wk.nil 0 1 true) (WkL.refl _)))
    unfold qA at *
    simp -implicitDefEqProofs [go_sem]
    refine goC_pure _ hcmp (by simp -implicitDefEqProofs [go_sem]) ?_
    simp -implicitDefEqProofs [go_sem, hc, rop]
  · have hVA : V ≤ A := by omega
    have hc : ¬ cmpI A V < 0 := by
      rcases Nat.lt_or_ge V A with h | h
      · rw [cmpI_gt (by omega)]; omega
      · rw [show A = V by omega, cmpI_eq]; omega
    have hva := lv_lims (B := 4294967296) (by omega) A
    have la := lim_lims (B := 4294967296) (by omega) A
    obtain ⟨QQ, hQQ⟩ : ∃ q, q = A / V := ⟨_, rfl⟩
    obtain ⟨RR, hRR⟩ : ∃ q, q = A % V := ⟨_, rfl⟩
    by_cases h1 : V < 4294967296
    · have hsh := short_pure A V ha h0 h1
      have hy1 := lims_small (B := 4294967296) (by omega) (Nat.pos_iff_ne_zero.1 h0) h1
      refine Pure.of_go mixed Tryz.func167 rfl (rs := [.cell 4 208]) rfl (by kernel_rfl) (by simp -implicitDefEqProofs [go_sem, qA]) ?_
      rw [← hQQ, ← hRR] at hsh ⊢
      have hva2 : (lims 4294967296 V).length = 1 := by rw [hy1]; rfl
      have hg := uA_getE .u32 (l := lims 4294967296 V) (i := 0) (by omega)
      rw [show (lims 4294967296 V).getD 0 0 = V by rw [hy1]; rfl] at hg
      unfold qA at *
      generalize lims 4294967296 V = b at *
      simp only [Int.natCast_zero, Int.ofNat_zero] at hg
      simp -implicitDefEqProofs [go_sem]
      refine goC_pure _ hcmp (by simp -implicitDefEqProofs [go_sem]) ?_
      simp -implicitDefEqProofs [go_sem, hc, hva2, hg]
      refine goC_pure _ hsh (by simp -implicitDefEqProofs [go_sem]) ?_
      simp -implicitDefEqProofs [go_sem, rop]
    · have hb2 : 2 ≤ (lims 4294967296 V).length := by
        rcases Nat.lt_or_ge (lims 4294967296 V).length 2 with h | h
        · exfalso
          have h2 := lv_lt (lim_lims (B := 4294967296) (by omega) V)
          rw [lv_lims (by omega)] at h2
          have h3 : 4294967296 ^ (lims 4294967296 V).length ≤ 4294967296 ^ 1 := Nat.pow_le_pow_right (by omega) (by omega)
          omega
        · exact h
      have hcm : ∀ x, x ≤ A → Pure Tryz.prog 196 [qA x, qA V] (.int .i64 (cmpI x V)) := fun x hx => cmp32_pure x V (Len.x (Nat.lt_of_le_of_lt (lims_mono (by omega) hx) ha)) hb.x
      have hgs : ∀ x, x ≤ A → V ≤ x → x < V * 4294967296 → Pure Tryz.prog 198 [qA x, qA V] (.int .u32 (x / V : Nat)) := fun x hx hv hl => guess32_pure x V (Nat.lt_of_le_of_lt (lims_mono (by omega) hx) ha) hb hv h0 hl
      have hml : ∀ d, d < 4294967296 → Pure Tryz.prog 149 [qA V, qA d] (qA (V * d)) := fun d hd => mul32_pure V d hb (by unfold Len; have := lims_len (B := 4294967296) (n := d) (k := 1) (by omega) (by omega); omega)
      have hsb : ∀ x y, x ≤ A → y ≤ x → Pure Tryz.prog 199 [qA x, qA y] (qA (x - y)) := fun x y hx hy => sub32_pure x y (Nat.lt_of_le_of_lt (lims_mono (by omega) hx) ha) (Nat.lt_of_le_of_lt (lims_mono (by omega) (Nat.le_trans hy hx)) ha) hy
      refine Pure.of_go mixed Tryz.func167 rfl (rs := [.cell 4 208]) rfl (by kernel_rfl) (by simp -implicitDefEqProofs [go_sem, qA]) ?_
      rw [← hQQ, ← hRR]
      unfold Len at ha
      unfold qA at *
      generalize lims 4294967296 A = a at *
      generalize hbe : lims 4294967296 V = b at *
      have hbl : ¬ (b.length : Int) = 1 := by omega
      simp -implicitDefEqProofs [go_sem]
      refine goC_pure _ hcmp (by simp -implicitDefEqProofs [go_sem]) ?_
      simp -implicitDefEqProofs [go_sem, hc, hbl]
      refine ⟨by omega, ?_⟩
      rw [uA_rep, w64 (by omega)]
      refine go_loopW 6 (mA (lims 4294967296 0)) (by rw [lims_zero]; exact Wk.nil 0 1 true) 9 (α := {p : List Nat × Nat × Nat // p.1.length = a.length ∧ Lim 4294967296 p.1 ∧ p.2.1 < V ∧ p.2.2 ≤ a.length ∧ lv 4294967296 (a.drop p.2.2) = V * lv 4294967296 (p.1.drop p.2.2) + p.2.1 ∧ ∀ j, j < p.2.2 → p.1.getD j 0 = 0}) (fun p => [(0, mA a), (1, mA b), (4, .ptr 0 0 0), (5, .own 1 1 0 a.length), (6, mA (lims 4294967296 p.1.2.1)), (7, .int .i64 ((p.1.2.2 : Int) - 1))]) (fun p => [(0, .live 2 [.agg [.sl 0 true [], .sl 0 true []]]), (1, .live 1 (uA .u32 p.1.1))]) (fun p => p.1.2.2) ⟨(List.replicate a.length 0, 0, a.length), by simp, fun x hx => by rw [(List.mem_replicate.1 hx).2]; decide, h0, by simp, by simp, fun j _ => by simp [List.getElem?_replicate]; split <;> rfl⟩ [] (by simp) (fun _ _ _ _ h => h) (by omega) (by simp -implicitDefEqProofs [go_sem]) (by simp -implicitDefEqProofs [go_sem]) fun ⟨⟨out, m, i⟩, q1, q2, q3, q4, q5, q6⟩ => ?_
      simp only at q1 q2 q3 q4 q5 q6
      simp -implicitDefEqProofs [go_sem]
      refine ⟨fun hi0 => ?_, fun hi0 => ?_⟩
      · obtain ⟨k, hik⟩ : ∃ k, i = k + 1 := ⟨i - 1, by omega⟩
        subst hik
        have ek : ((k + 1 : Nat) : Int) - 1 = (k : Nat) := by omega
        have g1 := uA_getE .u32 (l := a) (i := k) (by omega)
        have hx := la.getD (by omega) k
        have hko : k < out.length := by omega
        have g2 := uA_at .u32 (l := out) (i := k) hko
        have hd := lv_drop 4294967296 (l := a) (k := k) (by omega)
        obtain ⟨x, hxx⟩ : ∃ x, x = a.getD k 0 := ⟨_, rfl⟩
        rw [← hxx] at hx g1 hd
        simp -implicitDefEqProofs [go_sem, ek, g1]
        refine ⟨by omega, ?_⟩
        obtain ⟨r1, hr1⟩ : ∃ r, r = x + 4294967296 * m := ⟨_, rfl⟩
        have hmV : (lims 4294967296 m).length ≤ b.length := by rw [← hbe]; exact lims_mono (by omega) (by omega)
        unfold Len at hb
        have lxm : Lim 4294967296 (x :: lims 4294967296 m) := fun z hz => by
          rcases List.mem_cons.1 hz with e | e
          · subst e; exact hx
          · exact lim_lims (by omega) m z e
        have htl := trim_lims (B := 4294967296) (by omega) lxm
        rw [lv_cons, lv_lims (by omega), ← hr1] at htl
        have hr2 : lv 4294967296 (a.drop k) = V * (4294967296 * lv 4294967296 (out.drop (k + 1))) + r1 := by
          rw [hd, q5, hr1, Nat.mul_add, Nat.mul_left_comm]; omega
        have hrA : r1 ≤ A := by
          have := lv_drop_le 4294967296 (by omega) a k
          omega
        have hrV : r1 < V * 4294967296 := by
          have : (m + 1) * 4294967296 ≤ V * 4294967296 := Nat.mul_le_mul_right _ q3
          omega
        refine ⟨by omega, goC_dead [10] _ (trim32_pure (x :: lims 4294967296 m) (by unfold LenX; rw [List.length_cons]; omega)) (by simp -implicitDefEqProofs [go_sem]; rw [List.take_of_length_le (by simp; omega)]) (by simp -implicitDefEqProofs [go_sem]) (by simp -implicitDefEqProofs [go_sem]; omega) (by simp -implicitDefEqProofs [go_sem]) ?_⟩
        rw [htl]
        simp -implicitDefEqProofs [go_sem]
        refine goC_pure _ (hcm r1 hrA) (by simp -implicitDefEqProofs [go_sem]) ?_
        have ek2 : IntKind.i64.wrap ((k : Int) - 1) = (k : Int) - 1 := w64 (by omega)
        have hok := lv_drop 4294967296 hko
        rcases Nat.lt_or_ge r1 V with h9 | h9
        · have hc9 : cmpI r1 V < 0 := by rw [cmpI_lt (by omega)]; omega
          simp -implicitDefEqProofs [go_sem, hc9, ek2]
          refine go_again ⟨(out, r1, k), q1, q2, h9, by simp only; omega, ?_, fun j hj => q6 j (Nat.lt_succ_of_lt hj)⟩ (by simp only; omega) [] (by simp) (fun _ _ _ _ h => h) (by omega) (by simp -implicitDefEqProofs [go_sem]) (by simp -implicitDefEqProofs [go_sem])
          simp only
          rw [hok, q6 k (by omega), Nat.zero_add]; exact hr2
        · have hc9 : ¬ cmpI r1 V < 0 := by
            rcases Nat.lt_or_ge V r1 with h | h
            · rw [cmpI_gt (by omega)]; omega
            · rw [show r1 = V by omega, cmpI_eq]; omega
          have hg9 := hgs r1 hrA h9 hrV
          have hdm := Nat.div_add_mod r1 V
          have hlt9 := Nat.mod_lt r1 h0
          have hdB : r1 / V < 4294967296 := by rw [Nat.div_lt_iff_lt_mul h0, Nat.mul_comm]; exact hrV
          have hd0 : 0 < r1 / V := Nat.div_pos h9 h0
          obtain ⟨d, hdd⟩ : ∃ d, d = r1 / V := ⟨_, rfl⟩
          rw [← hdd] at hg9 hdm hdB hd0
          have hml9 := hml d hdB
          rw [lims_small (B := 4294967296) (by omega) (by omega) hdB] at hml9
          have hsb9 := hsb r1 (V * d) hrA (by omega)
          rw [show r1 - V * d = r1 % V by omega] at hsb9
          obtain ⟨r2, hr22⟩ : ∃ d, d = r1 % V := ⟨_, rfl⟩
          obtain ⟨vd, hvd⟩ : ∃ e, e = V * d := ⟨_, rfl⟩
          rw [← hr22] at hsb9 hdm hlt9
          rw [← hvd] at hsb9 hml9 hdm
          simp -implicitDefEqProofs [go_sem, hc9]
          refine goC_pure _ hg9 (by simp -implicitDefEqProofs [go_sem]) ?_
          simp -implicitDefEqProofs [go_sem, g2, uA_set]
          refine ⟨by omega, hko, goC_dead [11] _ hml9 (by simp -implicitDefEqProofs [go_sem]) (by simp -implicitDefEqProofs [go_sem]) (by simp -implicitDefEqProofs [go_sem]) (by simp -implicitDefEqProofs [go_sem]) ?_⟩
          simp -implicitDefEqProofs [go_sem]
          refine goC_pure _ hsb9 (by simp -implicitDefEqProofs [go_sem]) ?_
          simp -implicitDefEqProofs [go_sem, ek2]
          refine go_again ⟨(out.set k d, r2, k), by simp [q1], q2.set hdB k, hlt9, by simp only; omega, ?_, fun j hj => by simp only at hj; rw [getD_set_ne (by omega)]; exact q6 j (by omega)⟩ (by simp only; omega) [] (by simp) (fun _ _ _ _ h => h) (by omega) (by simp -implicitDefEqProofs [go_sem]) (by simp -implicitDefEqProofs [go_sem])
          simp only
          have e9 : (out.set k d).drop k = d :: out.drop (k + 1) := by
            rw [List.drop_eq_getElem_cons (by simpa using hko), List.drop_set_of_lt (by omega)]
            simp
          rw [e9, lv_cons, hr2, Nat.mul_add V, ← hdm, hvd]
          omega
      · have hi : i = 0 := by omega
        subst hi
        simp only [List.drop_zero] at q5
        have hQ : lv 4294967296 out = QQ := by rw [hQQ, ← hva, q5, Nat.mul_add_div (by omega), Nat.div_eq_of_lt q3, Nat.add_zero]
        have hR : m = RR := by rw [hRR, ← hva, q5, Nat.mul_add_mod, Nat.mod_eq_of_lt q3]
        refine goC_dead [1] _ (trim32_pure out (by unfold LenX; omega)) (by simp -implicitDefEqProofs [go_sem, ← q1, uA_self]) (by simp -implicitDefEqProofs [go_sem]) (by simp -implicitDefEqProofs [go_sem, q1]) (by simp -implicitDefEqProofs [go_sem]) ?_
        rw [trim_lims (by omega) q2, hQ, hR]
        simp -implicitDefEqProofs [go_sem, rop]
theorem gcd32_pure (A V : Nat) (ha : Len (lims 4294967296 A)) (hb : Len (lims 4294967296 V)) : Pure Tryz.prog 166 [qA A, qA V] (qA (Nat.gcd A V)) := by
  refine Pure.of_go mixed Tryz.func166 rfl (rs := [.tmp 4]) rfl (by kernel_rfl) (by simp -implicitDefEqProofs [go_sem, qA]) ?_
  unfold qA at *
  obtain ⟨g, hg⟩ : ∃ g, g = Nat.gcd A V := ⟨_, rfl⟩
  rw [← hg]
  simp -implicitDefEqProofs [go_sem]
  refine go_loopN 9 (α := {p : Nat × Nat // Len (lims 4294967296 p.1) ∧ Len (lims 4294967296 p.2) ∧ Nat.gcd p.1 p.2 = g}) (fun p => [(0, mA (lims 4294967296 p.1.1)), (1, mA (lims 4294967296 p.1.2))]) (fun p => []) (fun p => p.1.2) ⟨(A, V), ha, hb, hg.symm⟩ [] (by simp) (by simp) (by simp) (by simp -implicitDefEqProofs [go_sem]) (by simp -implicitDefEqProofs [go_sem]) fun ⟨⟨x, y⟩, h1, h2, h3⟩ => ?_
  simp only at h1 h2 h3
  simp -implicitDefEqProofs [go_sem]
  refine ⟨fun h => ?_, fun h => ?_⟩
  · have hy : 0 < y := by
      rcases Nat.eq_zero_or_pos y with hh | hh
      · subst hh; rw [lims_zero] at h; simp at h
      · exact hh
    have hd := divmod32_pure x y h1 h2 hy
    unfold qA at hd
    have hlt := Nat.mod_lt x hy
    obtain ⟨q, hq⟩ : ∃ q, q = x / y := ⟨_, rfl⟩
    obtain ⟨r, hr⟩ : ∃ q, q = x % y := ⟨_, rfl⟩
    rw [← hq, ← hr] at hd
    rw [← hr] at hlt
    refine goC_pure _ hd (by simp -implicitDefEqProofs [go_sem]) ?_
    simp -implicitDefEqProofs [go_sem]
    refine go_again ⟨(y, r), h2, Nat.lt_of_le_of_lt (lims_mono (by omega) (by simp only; omega)) h2, ?_⟩ (by simp only; omega) [] (by simp) (by simp) (by simp) (by simp -implicitDefEqProofs [go_sem]) (by simp)
    simp only
    rw [← h3, hr, Nat.gcd_comm, ← Nat.gcd_rec, Nat.gcd_comm]
  · have hy : y = 0 := by
      have : lims 4294967296 y = [] := by
        cases hl : lims 4294967296 y with
        | nil => rfl
        | cons c l => rw [hl] at h; simp at h
      exact (lims_nil_iff (by omega)).1 this
    rw [hy, Nat.gcd_zero_right] at h3
    rw [h3]
theorem out_eq {A : Nat} {out : List Nat} (l : Lim 18446744073709551616 out) (h : lv 18446744073709551616 out = A) (hl : 2 * out.length ≤ (lims 4294967296 A).length + 1) : out = lims 18446744073709551616 A := by
  have h1 := trim_lims (B := 18446744073709551616) (by omega) l
  rw [h] at h1
  have h2 := take_trim out
  have h3 : (trimL out).length = out.length := by
    rcases Nat.lt_or_ge (trimL out).length out.length with h4 | h4
    · exfalso
      by_cases h0 : A = 0
      · subst h0
        rw [lims_zero] at hl
        simp only [List.length_nil] at hl
        omega
      · obtain ⟨bl, bt, e, hbt⟩ := lims_last (B := 4294967296) (by omega) h0
        have hA := lv_lims (B := 4294967296) (by omega) A
        rw [e, lv_append, lv_cons, lv_nil, Nat.mul_zero, Nat.add_zero] at hA
        have h5 : 4294967296 ^ bl.length * 1 ≤ 4294967296 ^ bl.length * bt := Nat.mul_le_mul_left _ (Nat.pos_iff_ne_zero.2 hbt)
        have h6 := lv_lt (B := 18446744073709551616) l.trim
        rw [lv_trim, h, ← pow32] at h6
        rw [e, List.length_append, List.length_singleton] at hl
        have h7 : 4294967296 ^ (2 * (trimL out).length) ≤ 4294967296 ^ bl.length := Nat.pow_le_pow_right (by omega) (by omega)
        generalize 4294967296 ^ (2 * (trimL out).length) = u at *
        generalize 4294967296 ^ bl.length = w at *
        omega
    · have := trim_len out
      exact Nat.le_antisymm this h4
  rw [h3, List.take_length] at h2
  rw [← h1]
  exact h2
set_option maxHeartbeats 2000000 in
theorem out_pure (A : Nat) (ha : Len (lims 4294967296 A)) : Pure Tryz.prog 146 [qA A] (nA (lims 18446744073709551616 A)) := by
  unfold Len at ha
  have hva := lv_lims (B := 4294967296) (by omega) A
  have la := lim_lims (B := 4294967296) (by omega) A
  have hoe := fun out => @out_eq A out
  unfold qA
  refine Pure.of_ca (ro_nA _) (CA.of_go mixed Tryz.func146 rfl (rs := [.tmp 2]) rfl (by kernel_rfl) ?_)
  generalize lims 4294967296 A = a at *
  simp -implicitDefEqProofs [go_sem]
  refine go_loopN 9 (α := {p : List Nat × Nat // p.2 = 2 * p.1.length ∧ p.2 ≤ a.length + 1 ∧ Lim 18446744073709551616 p.1 ∧ lv 18446744073709551616 p.1 = lv 4294967296 (a.take p.2)}) (fun p => [(0, mA a), (3, apv 1 8 (uA .u64 p.1.1)), (4, .int .i64 p.1.2)]) (fun p => apb 1 8 (uA .u64 p.1.1)) (fun p => a.length + 1 - p.1.2) ⟨([], 0), by simp [lim_nil]⟩ [] (by simp) (by simp [go_sem]) (by simp) (by simp -implicitDefEqProofs [go_sem]) (by simp [go_sem]) fun ⟨⟨out, i⟩, h1, h2, h3, h4⟩ => ?_
  simp only at h1 h2 h3 h4
  simp -implicitDefEqProofs [go_sem]
  refine ⟨fun h => ?_, fun h => ?_⟩
  · have hg := uA_getE .u32 (l := a) (i := i) (by omega)
    have hx := la.getD (by omega) i
    have t1 := lv_take_succ 4294967296 a i
    have t2 := lv_take_succ 4294967296 a (i + 1)
    obtain ⟨x, hxe⟩ : ∃ x, x = a.getD i 0 := ⟨_, rfl⟩
    rw [← hxe] at hg hx t1
    have e1 : IntKind.u64.wrap (x : Int) = x := wu64 (by omega)
    have e2 : IntKind.i64.wrap ((i : Int) + 1) = ((i + 1 : Nat) : Int) := by rw [w64 (by omega)]; omega
    have e3 : IntKind.i64.wrap ((i : Int) + 2) = ((i + 2 : Nat) : Int) := by rw [w64 (by omega)]; omega
    have hpw : 4294967296 ^ i = 18446744073709551616 ^ out.length := by rw [h1, pow32]
    rcases Nat.lt_or_ge (i + 1) a.length with h5 | h5
    · have hg2 := uA_getE .u32 (l := a) (i := i + 1) (by omega)
      have hy := la.getD (by omega) (i + 1)
      obtain ⟨y, hye⟩ : ∃ x, x = a.getD (i + 1) 0 := ⟨_, rfl⟩
      rw [← hye] at hg2 hy t2
      obtain ⟨i1, hi1⟩ : ∃ j, j = i + 1 := ⟨_, rfl⟩
      rw [← hi1] at e2 hg2 h5
      have e4 : IntKind.u64.wrap (y : Int) = y := wu64 (by omega)
      have e5 : IntKind.u64.wrap ((y : Int) * 4294967296) = (y * 4294967296 : Nat) := by rw [wu64 (by omega)]; omega
      obtain ⟨y2, hy2⟩ : ∃ j, j = y * 4294967296 := ⟨_, rfl⟩
      rw [← hy2] at e5
      have e6 : IntKind.u64.wrap ((x : Int) + y2) = (x + y2 : Nat) := addN (by omega)
      obtain ⟨z, hz⟩ : ∃ j, j = x + y2 := ⟨_, rfl⟩
      rw [← hz] at e6
      simp -implicitDefEqProofs [go_sem, hg, hg2, e1, e2, e4, e5, e6, h5]
      refine ⟨h, goApS_apv (by simp [go_sem]) (by omega) (by omega) (by simp [go_sem]) (by simp; omega) (fun hne => by simp [go_sem, hne]) ?_⟩
      simp -implicitDefEqProofs [go_sem, e3]
      refine go_again ⟨(out ++ [z], i + 2), by simp [h1]; omega, by simp only; omega, lim_append.2 ⟨h3, fun w hw => by simp at hw; omega⟩, ?_⟩ (by simp only; omega) [(8, 10)] (by simp) (by simp [go_sem, uA_append]) (by simp) (by simp -implicitDefEqProofs [go_sem, uA_append]) (by simp -implicitDefEqProofs [go_sem, uA_append])
      simp only
      rw [lv_append, h4, lv_cons, lv_nil, Nat.mul_zero, Nat.add_zero, ← hpw, show i + 2 = i + 1 + 1 by omega, t2, t1, hz, hy2, Nat.mul_add, Nat.pow_succ, Nat.mul_assoc, Nat.mul_comm y]
      omega
    · have e7 : ¬ (i + 1 : Nat) < a.length := by omega
      have e8 : ¬ ((i + 1 : Nat) : Int) < a.length := by omega
      obtain ⟨i1, hi1⟩ : ∃ j, j = i + 1 := ⟨_, rfl⟩
      rw [← hi1] at e2 e7 e8
      simp -implicitDefEqProofs [go_sem, hg, e1, e2, e7]
      refine ⟨h, goApS_apv (by simp [go_sem]) (by omega) (by omega) (by simp [go_sem]) (by simp; omega) (fun hne => by simp [go_sem, hne]) ?_⟩
      simp -implicitDefEqProofs [go_sem, e3]
      refine go_again ⟨(out ++ [x], i + 2), by simp [h1]; omega, by simp only; omega, lim_append.2 ⟨h3, fun w hw => by simp at hw; omega⟩, ?_⟩ (by simp only; omega) [(8, 10)] (by simp) (by simp [go_sem, uA_append]) (by simp) (by simp -implicitDefEqProofs [go_sem, uA_append]) (by simp -implicitDefEqProofs [go_sem, uA_append])
      simp only
      rw [lv_append, h4, lv_cons, lv_nil, Nat.mul_zero, Nat.add_zero, ← hpw, ← t1, List.take_of_length_le (by omega), List.take_of_length_le (by omega)]
  · rw [List.take_of_length_le (by omega), hva] at h4
    have he := hoe out h3 h4 (by omega)
    rw [← he]
    by_cases h0 : out = []
    · subst h0
      simp -implicitDefEqProofs [go_sem, apv]
      exact Wk.nil 0 1 true
    · have hne : uA .u64 out ≠ [] := by simpa [uA] using h0
      simp -implicitDefEqProofs [go_sem, apv_ne hne, apb_ne hne, uA_self]
      exact Wk.refl _
end Go.Proofs.YtgiheamjhoiojaaGreat
