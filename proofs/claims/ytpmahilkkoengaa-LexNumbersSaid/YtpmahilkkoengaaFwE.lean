/-
  The machine does what the value operations say.
-/
import Derived.Test.YtpmahilkkoengaaFwD
namespace Go.Proofs.Ytpmahilkkoengaa
open Go
set_option linter.unusedSimpArgs false

theorem slice_sl {P : Program} {c : Cx} {t e : TypeId} {i : TypeInfo} (hd : P.underlying t = some (.slice e)) (hi : P.info? e = some i) {sz : Nat} {tight : Bool} {l : List AV} (hsz : i.size = sz ∨ l = []) {a : Value} (ha : Rv c (.sl sz tight l) a)
    {lo hi' mx : Option Int} {vl vh vm : Option Value}
    (hl : (vl = none ∧ lo = none) ∨ ∃ k m, vl = some (.int k m) ∧ lo = some m) (hh : (vh = none ∧ hi' = none) ∨ ∃ k m, vh = some (.int k m) ∧ hi' = some m)
    (hm : (vm = none ∧ mx = none) ∨ ∃ k m, vm = some (.int k m) ∧ mx = some m) (h4 : ¬ (mx.isSome = true ∧ hi'.isNone = true)) {s : Prop} {v : AV} (h : sliceA (.sl sz tight l) lo hi' mx = some (s, v)) (hs : s) :
    ∃ r, (Instr.sliceAt t a vl vh vm).run P c.w = .ok r c.w ∧ Rv c v r := by
  simp only [sliceA, Option.some.injEq, Prod.mk.injEq] at h
  obtain ⟨rfl, rfl⟩ := h
  obtain ⟨h0, h1, h2, h3⟩ := hs
  simp only [Rv] at ha
  obtain ⟨ad, cap, rfl, hc1, hc2, hc3⟩ := ha
  have hb := bounds_sound (P := P) c.w true l.length cap hc1 hl hh hm h0 h1 h2 h3 h4
  refine ⟨.slice (if mxCap mx cap = (lo.getD 0).toNat then ad else ad.map (·.add ((lo.getD 0).toNat * i.size))) ((hi'.getD l.length).toNat - (lo.getD 0).toNat) (mxCap mx cap - (lo.getD 0).toNat), ?_, ?_⟩
  · simp only [Instr.sliceAt, Sem.run_bind, run_underlying hd, Result.andThen_ok, Instr.slice, hb, sizeOf_run hi, Sem.run_pure]
  · simp only [Rv]
    have hlen : ((l.take (hi'.getD l.length).toNat).drop (lo.getD 0).toNat).length = (hi'.getD l.length).toNat - (lo.getD 0).toNat := by
      simp only [List.length_drop, List.length_take]; omega
    refine ⟨_, _, by rw [hlen], by rw [hlen]; cases mx <;> simp [mxOk, mxCap] at h3 ⊢ <;> omega, ?_, ?_⟩
    · rw [hlen]
      cases mx with
      | some m => simp only [decide_eq_true_eq]; rintro rfl; simp only [mxCap]
      | none =>
        simp only [Bool.and_eq_true]
        rintro ⟨ht, hn⟩
        cases hi' with
        | some _ => cases hn
        | none => simp [hc2 ht, mxCap]
    · by_cases hz : (hi'.getD l.length).toNat ≤ (lo.getD 0).toNat
      · exact .inl (List.eq_nil_of_length_eq_zero (by rw [hlen]; omega))
      · rcases hc3 with rfl | ⟨b, o, rfl, hb', hF, hre⟩
        · exact .inl (by simp)
        · refine .inr ⟨b, o + (lo.getD 0).toNat * sz, ?_, hb', hF, ?_⟩
          · have hne : ¬ mxCap mx cap = (lo.getD 0).toNat := by
              cases mx <;> simp [mxOk, mxCap] at h3 ⊢ <;> omega
            rw [if_neg hne]
            rcases hsz with rfl | rfl
            · simp [addr_add]
            · refine absurd ?_ hz; simp only [List.length_nil] at h2 ⊢; omega
          · have := hre.slice (lo.getD 0).toNat ((hi'.getD l.length).toNat - (lo.getD 0).toNat)
            rwa [show (l.drop (lo.getD 0).toNat).take ((hi'.getD l.length).toNat - (lo.getD 0).toNat) = (l.take (hi'.getD l.length).toNat).drop (lo.getD 0).toNat from (List.drop_take ..).symm] at this

theorem slice_own {P : Program} {c : Cx} {t e : TypeId} {i : TypeInfo} (hd : P.underlying t = some (.slice e)) (hi : P.info? e = some i) {sz id off len : Nat} (hsz : i.size = sz) {a : Value} (ha : Rv c (.own sz id off len) a)
    {lo hi' mx : Option Int} {vl vh vm : Option Value}
    (hl : (vl = none ∧ lo = none) ∨ ∃ k m, vl = some (.int k m) ∧ lo = some m) (hh : (vh = none ∧ hi' = none) ∨ ∃ k m, vh = some (.int k m) ∧ hi' = some m)
    (hm : (vm = none ∧ mx = none) ∨ ∃ k m, vm = some (.int k m) ∧ mx = some m) (h4 : ¬ (mx.isSome = true ∧ hi'.isNone = true)) {s : Prop} {v : AV} (h : sliceA (.own sz id off len) lo hi' mx = some (s, v)) (hs : s) :
    ∃ r, (Instr.sliceAt t a vl vh vm).run P c.w = .ok r c.w ∧ Rv c v r := by
  simp only [sliceA, Option.some.injEq, Prod.mk.injEq] at h
  obtain ⟨rfl, rfl⟩ := h
  obtain ⟨h0, h1, h2, h3⟩ := hs
  simp only [Rv] at ha
  obtain ⟨hU, hesz, ad, cap, rfl, hc1, hc3⟩ := ha
  have hb := bounds_sound (P := P) c.w true len cap hc1 hl hh hm h0 h1 h2 h3 h4
  refine ⟨.slice (if mxCap mx cap = (lo.getD 0).toNat then ad else ad.map (·.add ((lo.getD 0).toNat * i.size))) ((hi'.getD len).toNat - (lo.getD 0).toNat) (mxCap mx cap - (lo.getD 0).toNat), ?_, ?_⟩
  · simp only [Instr.sliceAt, Sem.run_bind, run_underlying hd, Result.andThen_ok, Instr.slice, hb, sizeOf_run hi, Sem.run_pure]
  · simp only [Rv]
    have hge : (hi'.getD len).toNat ≤ mxCap mx cap := by cases mx <;> simp [mxOk, mxCap] at h3 ⊢ <;> omega
    have hle : mxCap mx cap ≤ cap := by cases mx <;> simp [mxOk, mxCap] at h3 ⊢; omega
    refine ⟨hU, hesz, _, _, rfl, by omega, ?_⟩
    by_cases hz : mxCap mx cap = (lo.getD 0).toNat
    · left; omega
    · right
      rw [if_neg hz]
      rcases hc3 with rfl | ⟨b, o, rfl, hall⟩
      · omega
      · refine ⟨b, o + (lo.getD 0).toNat * i.size, by simp [addr_add], fun e' he' => ?_⟩
        obtain ⟨g1, g2, g3, g4⟩ := hall e' he'
        have g5 := hesz e' he'
        refine ⟨g1, g2, ?_, ?_⟩
        · rw [g3, hsz, ← g5, Nat.add_mul]; omega
        · refine Nat.le_trans ?_ g4
          rw [Nat.add_le_add_iff_left]
          exact Nat.mul_le_mul_right _ (by omega)

theorem slice_str {P : Program} {c : Cx} {t : TypeId} (hd : P.underlying t = some .string) {s : ByteArray}
    {lo hi' : Option Int} {vl vh : Option Value}
    (hl : (vl = none ∧ lo = none) ∨ ∃ k m, vl = some (.int k m) ∧ lo = some m) (hh : (vh = none ∧ hi' = none) ∨ ∃ k m, vh = some (.int k m) ∧ hi' = some m) {p : Prop} {v : AV} (h : sliceA (.str s) lo hi' none = some (p, v)) (hs : p) :
    ∃ r, (Instr.sliceAt t (.string s) vl vh none).run P c.w = .ok r c.w ∧ Rv c v r := by
  simp only [sliceA, Option.some.injEq, Prod.mk.injEq] at h
  obtain ⟨rfl, rfl⟩ := h
  obtain ⟨h0, h1, h2⟩ := hs
  have hb := bounds_sound (P := P) c.w false s.size s.size (Nat.le_refl _) hl hh (mx := none) (vm := none) (.inl ⟨rfl, rfl⟩) h0 h1 h2 trivial (by simp)
  refine ⟨_, ?_, rfl⟩
  simp only [Instr.sliceAt, Sem.run_bind, run_underlying hd, Result.andThen_ok, Instr.slice, hb, Option.isSome_none, Bool.false_eq_true, if_false, Sem.run_pure]

end Go.Proofs.Ytpmahilkkoengaa
