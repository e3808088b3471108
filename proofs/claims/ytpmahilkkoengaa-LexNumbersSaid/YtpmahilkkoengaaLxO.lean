/-
  Layer 10: P10.1, numbers: the walk.
-/
import Derived.Test.YtpmahilkkoengaaLxN
namespace Go.Proofs.Ytpmahilkkoengaa
open Go Go.Proofs
set_option linter.unusedSimpArgs false
set_option linter.unusedVariables false

theorem dig_of {v : Int} (h : 0 ≤ v) : kind (((UInt8.ofNat (IntKind.u8.wrap (48 + IntKind.u8.wrap (v.tmod 10))).toNat).toNat : Nat) : Int) = 3 ∧ ((UInt8.ofNat (IntKind.u8.wrap (48 + IntKind.u8.wrap (v.tmod 10))).toNat).toNat : Int) - 48 = v % 10 := by
  rw [Int.tmod_eq_emod_of_nonneg h]
  have h1 : IntKind.u8.wrap (v % 10) = v % 10 := w8 (by omega)
  rw [h1, w8 (by omega), kind_digit]
  have : (UInt8.ofNat (48 + v % 10).toNat).toNat = (48 + v % 10).toNat := by
    rw [UInt8.toNat_ofNat']
    exact Nat.mod_eq_of_lt (by omega)
  rw [this]
  omega

theorem tdiv10 {v : Int} (h : 0 ≤ v) : v.tdiv 10 = v / 10 := Int.tdiv_eq_ediv_of_nonneg h
theorem pow_step {k : Nat} (h : k ≤ 18) {v : Int} (h0 : 10 ≤ v ∨ v < 10) (hv : v < 10 ^ (20 - k)) : v / 10 < 10 ^ (20 - (k + 1)) := by
  have : (10 : Int) ^ (20 - k) = 10 ^ (20 - (k + 1)) * 10 := by rw [← Int.pow_succ]; congr 1; omega
  omega

theorem prep {sd s : ByteArray} {b : UInt8} (h : by_ sd = [b]) : by_ (sd ++ s) = b :: by_ s := by rw [by_append, h]; rfl
theorem prep_val {b : UInt8} {l : List UInt8} {v : Int} (hb : (b.toNat : Int) - 48 = v % 10) {d : Int} {k : Nat} (hk : k = l.length) (hd : v * 10 ^ k + valL 0 l = d) : (v / 10) * 10 ^ (k + 1) + valL 0 (b :: l) = d := by
  subst hk
  simp only [valL]
  rw [valL_lin, Int.pow_succ]
  generalize (10 : Int) ^ l.length = q at *
  have : v = v / 10 * 10 + v % 10 := by omega
  generalize v / 10 = a at *
  generalize v % 10 = r at *
  generalize (b.toNat : Int) = x at *
  grind
def noughts : List UInt8 := [48, 48, 48, 48, 48, 48, 48, 48, 48, 48, 48, 48, 48, 48, 48, 48, 48, 48, 48, 48, 48, 48]
theorem val_noughts {n : Int} : valL n noughts = n * 10000000000000000000000 := by
  simp only [noughts, valL]
  simp
  omega
theorem dig_noughts : Dig noughts := by
  intro b hb
  simp [noughts] at hb
  subst hb; decide
theorem cutR_num {s : ByteArray} {l : List UInt8} (h : s.size ≤ 1048576) (hs : by_ s = l) (hd : Dig l) (hl : l ≠ []) : cutR s = ([⟨2, ByteArray.empty, min (valL 0 l) 4611686018427387904, 0⟩], 0, 0) := by
  rw [cutR_ok h (by rw [hs]; exact scan_pos hd hl), numL_val l 0 hd (by omega) (by omega)]
theorem cutR_num' {s : ByteArray} {l : List UInt8} (h : s.size ≤ 1048576) (hs : by_ s = 45 :: l) (hd : Dig l) (hl : l ≠ []) : cutR s = ([⟨2, ByteArray.empty, -min (valL 0 l) 4611686018427387904, 0⟩], 0, 0) := by
  rw [cutR_ok h (by rw [hs]; exact scan_neg hd hl), numL_val l 0 hd (by omega) (by omega)]

theorem lexNumbers_pure (n : Int) (nt : Nat) (hn : -9223372036854775808 ≤ n ∧ n ≤ 9223372036854775807) (hnt : nt ≤ 255) : Pure Try.prog 5 [.int .i64 n, .int .u8 nt] (.bool true) := by
  refine Pure.of_go mixed Try.func5 rfl (rs := [.tmp 4]) rfl (by kernel_rfl) (by simp only [ro]) ?_
  simp -implicitDefEqProofs [go_sem, aresK, oneOf, view, fits]
  obtain ⟨d, hd⟩ : ∃ d : Int, d = if n < 0 then -n else n := ⟨_, rfl⟩
  have hd0 : 0 ≤ d ∧ d ≤ 9223372036854775808 := by split at hd <;> omega
  refine ⟨fun h => ?_, fun h => ?_⟩
  all_goals
    refine go_loops (α := {p : ByteArray × Int // Dig (by_ p.1) ∧ p.1.size ≤ 19 ∧ 0 ≤ p.2 ∧ p.2 * 10 ^ p.1.size + valL 0 (by_ p.1) = d ∧ p.2 < 10 ^ (20 - p.1.size)}) (fun p => [(0, .int .i64 n), (1, .int .u8 nt), (5, .bool (decide (n < 0))), (6, .int .u64 d), (7, .str p.1.1), (8, .int .u64 p.1.2)]) (fun p => []) (fun p => p.1.2.toNat) ⟨(ByteArray.empty, d), by simp [by_, Dig, valL]; omega⟩ [] (by simp) (by simp) (by simp) ?_ (by simp) fun ⟨⟨s, v⟩, hs1, hs2, hv0, hv1, hv2⟩ => ?_
  case refine_1.refine_1 =>
    rw [if_pos h] at hd
    have e1 : IntKind.i64.wrap (n + 1) = n + 1 := w64 (by omega)
    have e2 : IntKind.i64.wrap (-(n + 1)) = -(n + 1) := w64 (by omega)
    have e3 : IntKind.u64.wrap (-(n + 1)) = -(n + 1) := wu64 (by omega)
    have e4 : IntKind.u64.wrap (-(n + 1) + 1) = d := by rw [wu64 (by omega)]; omega
    simp [go_sem, clo, e1, e2, e3, e4]
    rfl
  case refine_2.refine_1 =>
    rw [if_neg (by omega)] at hd
    have e1 : IntKind.u64.wrap n = d := by rw [wu64 (by omega)]; omega
    simp [go_sem, clo, e1]
    rfl
  all_goals
    simp only at hs1 hs2 hv0 hv1 hv2
    obtain ⟨hk, hkv⟩ := dig_of hv0
    simp -implicitDefEqProofs [go_sem, aresK, oneOf, view, fits]
    obtain ⟨sd, hsd⟩ : ∃ sd, sd = strOf [IntKind.u8.wrap (48 + IntKind.u8.wrap (v.tmod 10))] := ⟨_, rfl⟩
    rw [← hsd]
    have hby : by_ sd = [UInt8.ofNat (IntKind.u8.wrap (48 + IntKind.u8.wrap (v.tmod 10))).toNat] := by rw [hsd]; rfl
    generalize UInt8.ofNat (IntKind.u8.wrap (48 + IntKind.u8.wrap (v.tmod 10))).toNat = b at hk hkv hby
    have hsz : sd.size = 1 := by rw [← by_len, hby]; rfl
    have hp := prep (s := s) hby
    have hpz : (sd ++ s).size = s.size + 1 := by rw [← by_len, hp]; simp [by_len]
    have hpv := prep_val hkv (l := by_ s) (k := s.size) (by rw [by_len]) hv1
    rw [← hp] at hpv
    have hpd : Dig (by_ (sd ++ s)) := by rw [hp]; exact dig_cons.2 ⟨hk, hs1⟩
    generalize sd ++ s = r at hp hpz hpv hpd
    refine ⟨by omega, fun hv => ?_, fun hv => ?_⟩
    rotate_left
    · have e1 : IntKind.u64.wrap (v.tdiv 10) = v / 10 := by
        rw [tdiv10 hv0, wu64]
        have : (1 : Int) ≤ 10 ^ s.size := Int.pow_pos (by decide)
        have h2 := valL_ge (by_ s) 0 hs1 (by omega)
        have : v * 1 ≤ v * 10 ^ s.size := Int.mul_le_mul_of_nonneg_left this hv0
        omega
      have hz18 : s.size ≤ 18 := by
        rcases Nat.lt_or_ge s.size 19 with h' | h'
        · omega
        · have : s.size = 19 := by omega
          rw [this] at hv2
          omega
      refine go_again ⟨(r, v / 10), hpd, by simp only; omega, by simp only; omega, by simp only; rw [hpz]; exact hpv, by simp only; rw [hpz]; exact pow_step hz18 (.inl hv) hv2⟩ (by simp only; omega) [] (by simp) (by simp) (by simp) (by simp [go_sem, clo, e1]) (by simp)
    have hvd : valL 0 (by_ r) = d := by
      rw [show v / 10 = 0 by omega] at hpv; simpa using hpv
    clear hpv hp hby hkv hk hv0 hv1 hv2 hs1
    refine go_loops (α := {p : ByteArray × Nat // Dig (by_ p.1) ∧ p.1.size ≤ 20 + p.2 ∧ 0 < p.1.size ∧ valL 0 (by_ p.1) = d ∧ p.2 ≤ 4}) (fun p => [(0, .int .i64 n), (1, .int .u8 nt), (5, .bool (decide (n < 0))), (6, .int .u64 d), (7, .str p.1.1), (9, .int .i64 p.1.2)]) (fun p => []) (fun p => 4 - p.1.2) ⟨(r, 0), hpd, by simp only; omega, by simp only; omega, hvd, by simp only; omega⟩ [] (by simp) (by simp) (by simp) (by simp [go_sem, clo]) (by simp) fun ⟨⟨q, i⟩, hq1, hq2, hq3, hq4, hq5⟩ => ?_
    simp only at hq1 hq2 hq3 hq4 hq5
    have e2 : IntKind.i64.wrap (nt : Int) = nt := w64 (by omega)
    have e3 : (nt : Int).tmod 5 = (nt % 5 : Nat) := by rw [Int.tmod_eq_emod_of_nonneg (by omega)]; omega
  all_goals
    rw [go_seq, go_seq]
    simp -implicitDefEqProofs [go_sem, aresK, oneOf, view, fits, e2, e3]
    refine ⟨fun hi => ⟨by omega, ?_⟩, fun hi => ?_⟩
  · have e4 : IntKind.i64.wrap ((i : Int) + 1) = (i + 1 : Nat) := by rw [w64 (by omega)]; omega
    have hp := prep (sd := ⟨#[48]⟩) (s := q) (b := 48) rfl
    have hpz : ((⟨#[48]⟩ : ByteArray) ++ q).size = q.size + 1 := by rw [← by_len, hp]; simp [by_len]
    refine go_again ⟨((⟨#[48]⟩ : ByteArray) ++ q, i + 1), by simp only; rw [hp]; exact dig_cons.2 ⟨by decide, hq1⟩, by simp only; omega, by simp only; omega, by simp only; rw [hp]; simpa [valL] using hq4, by simp only; omega⟩ (by simp only; omega) [] (by simp) (by simp) (by simp) (by simp [go_sem, clo, e4]) (by simp)
  · simp only [h, Int.not_le.2 h, true_implies, false_implies, and_true, true_and]
    have hne : by_ q ≠ [] := fun h' => by have := by_len q; rw [h'] at this; simp at this; omega
    have hne2 : by_ q ++ noughts ≠ [] := by simp [noughts]
    have hp := prep (sd := ⟨#[45]⟩) (s := q) (b := 45) rfl
    have hpz : ((⟨#[45]⟩ : ByteArray) ++ q).size = q.size + 1 := by rw [← by_len, hp]; simp [by_len]
    have hz : ((⟨#[45]⟩ : ByteArray) ++ q ++ (⟨#[48, 48, 48, 48, 48, 48, 48, 48, 48, 48, 48, 48, 48, 48, 48, 48, 48, 48, 48, 48, 48, 48]⟩ : ByteArray)).size = ((⟨#[45]⟩ : ByteArray) ++ q).size + 22 := by rw [← by_len, by_append, List.length_append, by_len, show (by_ (⟨#[48, 48, 48, 48, 48, 48, 48, 48, 48, 48, 48, 48, 48, 48, 48, 48, 48, 48, 48, 48, 48, 48]⟩ : ByteArray)).length = 22 from rfl]
    have h1 := cutR_num' (s := (⟨#[45]⟩ : ByteArray) ++ q) (l := by_ q) (by omega) hp hq1 hne
    have h2 := cutR_num' (s := (⟨#[45]⟩ : ByteArray) ++ q ++ (⟨#[48, 48, 48, 48, 48, 48, 48, 48, 48, 48, 48, 48, 48, 48, 48, 48, 48, 48, 48, 48, 48, 48]⟩ : ByteArray)) (l := by_ q ++ noughts) (by omega) (by rw [by_append, hp]; rfl) (dig_append.2 ⟨hq1, dig_noughts⟩) hne2
    rw [valL_append, hq4, val_noughts] at h2
    rw [hq4] at h1
    rw [if_pos h] at hd
    have e5 : IntKind.i64.wrap (-4611686018427387904) = -4611686018427387904 := w64 (by omega)
    refine ⟨fun h62 => ⟨by omega, ?_⟩, fun h62 => ⟨by omega, ?_⟩⟩
    all_goals
      first | rw [show min d 4611686018427387904 = 4611686018427387904 by omega] at h1 | rw [show min d 4611686018427387904 = d by omega] at h1
      rw [show min (d * 10000000000000000000000) 4611686018427387904 = 4611686018427387904 by omega] at h2
      have hn0 : ¬ n = 0 := by omega
      have hn1 : ¬ 0 < n := by omega
      have hdn : -d = n := by omega
      refine goC_pure _ (cut_read _) (by simp [roL, ro]) ?_
      rw [h1]
      simp -implicitDefEqProofs [go_sem, aresK, oneOf, view, fits, e5]
      refine ⟨by omega, ?_⟩
      refine goC_pure _ (cut_read _) (by simp [roL, ro]) ?_
      rw [h2]
      simp -implicitDefEqProofs [go_sem, aresK, oneOf, view, fits, e5, tokAV, getE, h, hn0, hn1, hdn]
      refine goC_pure _ wakes_pure (by simp [roL]) ?_
      simp -implicitDefEqProofs [go_sem, aresK, oneOf, view, fits]
  · have e4 : IntKind.i64.wrap ((i : Int) + 1) = (i + 1 : Nat) := by rw [w64 (by omega)]; omega
    have hp := prep (sd := ⟨#[48]⟩) (s := q) (b := 48) rfl
    have hpz : ((⟨#[48]⟩ : ByteArray) ++ q).size = q.size + 1 := by rw [← by_len, hp]; simp [by_len]
    refine go_again ⟨((⟨#[48]⟩ : ByteArray) ++ q, i + 1), by simp only; rw [hp]; exact dig_cons.2 ⟨by decide, hq1⟩, by simp only; omega, by simp only; omega, by simp only; rw [hp]; simpa [valL] using hq4, by simp only; omega⟩ (by simp only; omega) [] (by simp) (by simp) (by simp) (by simp [go_sem, clo, e4]) (by simp)
  · simp only [h, Int.not_lt.2 h, true_implies, false_implies, and_true, true_and]
    have hne : by_ q ≠ [] := fun h' => by have := by_len q; rw [h'] at this; simp at this; omega
    have hne2 : by_ q ++ noughts ≠ [] := by simp [noughts]
    have hz : (q ++ (⟨#[48, 48, 48, 48, 48, 48, 48, 48, 48, 48, 48, 48, 48, 48, 48, 48, 48, 48, 48, 48, 48, 48]⟩ : ByteArray)).size = (q).size + 22 := by rw [← by_len, by_append, List.length_append, by_len, show (by_ (⟨#[48, 48, 48, 48, 48, 48, 48, 48, 48, 48, 48, 48, 48, 48, 48, 48, 48, 48, 48, 48, 48, 48]⟩ : ByteArray)).length = 22 from rfl]
    have h1 := cutR_num (s := q) (l := by_ q) (by omega) rfl hq1 hne
    have h2 := cutR_num (s := q ++ (⟨#[48, 48, 48, 48, 48, 48, 48, 48, 48, 48, 48, 48, 48, 48, 48, 48, 48, 48, 48, 48, 48, 48]⟩ : ByteArray)) (l := by_ q ++ noughts) (by omega) (by rw [by_append]; rfl) (dig_append.2 ⟨hq1, dig_noughts⟩) hne2
    rw [valL_append, hq4, val_noughts] at h2
    rw [hq4] at h1
    rw [if_neg (by omega)] at hd
    have e5 : IntKind.i64.wrap (-4611686018427387904) = -4611686018427387904 := w64 (by omega)
    refine ⟨fun h62 => ?_, fun h62 => ?_⟩
    all_goals
      first | rw [show min d 4611686018427387904 = 4611686018427387904 by omega] at h1 | rw [show min d 4611686018427387904 = d by omega] at h1
      have hn1 : ¬ n < 0 := by omega
      have h2' : cutR (q ++ (⟨#[48, 48, 48, 48, 48, 48, 48, 48, 48, 48, 48, 48, 48, 48, 48, 48, 48, 48, 48, 48, 48, 48]⟩ : ByteArray)) = ([⟨2, ByteArray.empty, if n = 0 then 0 else 4611686018427387904, 0⟩], 0, 0) := by
        rw [h2]; congr 4; split <;> omega
      have hn2 : n = 0 ∨ 0 < n := by omega
      refine goC_pure _ (cut_read _) (by simp [roL, ro]) ?_
      rw [h1]
      simp -implicitDefEqProofs [go_sem, aresK, oneOf, view, fits, e5]
      refine ⟨by omega, ?_⟩
      refine goC_pure _ (cut_read _) (by simp [roL, ro]) ?_
      rw [h2']
      rcases hn2 with rfl | hn2
      · subst hd
        simp -implicitDefEqProofs [go_sem, aresK, oneOf, view, fits, e5, tokAV, getE]
        first
        | omega
        | (refine goC_pure _ wakes_pure (by simp [roL]) ?_
           simp -implicitDefEqProofs [go_sem, aresK, oneOf, view, fits])
      · have hn3 : ¬ n = 0 := by omega
        simp -implicitDefEqProofs [go_sem, aresK, oneOf, view, fits, e5, tokAV, getE, hn1, hn2, hn3, hd]
        refine goC_pure _ wakes_pure (by simp [roL]) ?_
        simp -implicitDefEqProofs [go_sem, aresK, oneOf, view, fits]
end Go.Proofs.Ytpmahilkkoengaa
