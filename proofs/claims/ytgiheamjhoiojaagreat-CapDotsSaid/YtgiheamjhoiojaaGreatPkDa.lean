import Derived.Test.YtgiheamjhoiojaaGreatPkPa
import Derived.Test.YtgiheamjhoiojaaGreatPkOa
import Derived.Test.YtgiheamjhoiojaaGreatPkFb
import Derived.Test.YtgiheamjhoiojaaGreatPkIa
namespace Go.Proofs.YtgiheamjhoiojaaGreat
open Go Go.Proofs
set_option linter.unusedSimpArgs false
set_option linter.unusedVariables false
set_option maxRecDepth 20000
mutual
def frn (g : Nat) (l : List AV) : AV → AV
  | .own sz id off len => if id = g ∧ off + len ≤ l.length then .sl sz false ((l.drop off).take len) else .own sz id off len
  | .agg cs => .agg (frnL g l cs)
  | a => a
def frnL (g : Nat) (l : List AV) : List AV → List AV
  | [] => []
  | a :: r => frn g l a :: frnL g l r
end
def frnB (g : Nat) (l : List AV) (j : Nat) (b : BS) : BS := if j = g then .dead else match b with
  | .live sz m => .live sz (m.map (frn g l))
  | b => b
theorem frn_isAgg (g : Nat) (l : List AV) (a : AV) : (frn g l a).isAgg = a.isAgg := by
  cases a <;> try rfl
  simp only [frn]; split <;> rfl
mutual
theorem frn_rv {c c' : Cx} {g : Nat} {l : List AV} (hown : ∀ sz id off len v, Rv c (.own sz id off len) v → Rv c' (frn g l (.own sz id off len)) v) (hrest : ∀ x v, Rv c x v → Rv c' x v) : ∀ (x : AV) (v : Value), Rv c x v → Rv c' (frn g l x) v
  | .own sz id off len, v, h => hown sz id off len v h
  | .agg cs, v, h => by
    simp only [frn, Rv] at h ⊢
    obtain ⟨vs, h1, h2, h3⟩ := h
    exact ⟨vs, h1, h2, frn_rl hown hrest cs vs.toList h3⟩
  | .any, v, h => hrest _ v h
  | .bool b, v, h => hrest _ v h
  | .int k n, v, h => hrest _ v h
  | .str s, v, h => hrest _ v h
  | .tup cs, v, h => hrest _ v h
  | .sl a b c, v, h => hrest _ v h
  | .ptr a b c, v, h => hrest _ v h
  | .rp cs, v, h => hrest _ v h
  | .fn a b c, v, h => hrest _ v h
  | .yld a, v, h => hrest _ v h
  | .mp a, v, h => hrest _ v h
  | .nilp, v, h => hrest _ v h
theorem frn_rl {c c' : Cx} {g : Nat} {l : List AV} (hown : ∀ sz id off len v, Rv c (.own sz id off len) v → Rv c' (frn g l (.own sz id off len)) v) (hrest : ∀ x v, Rv c x v → Rv c' x v) : ∀ (xs : List AV) (vs : List Value), Rl c xs vs → Rl c' (frnL g l xs) vs
  | [], vs, h => h
  | a :: r, vs, h => by
    simp only [frnL, Rl] at h ⊢
    obtain ⟨v, vs', h1, h2, h3⟩ := h
    exact ⟨v, vs', h1, frn_rv hown hrest a v h2, frn_rl hown hrest r vs' h3⟩
end
mutual
theorem frn_ro (g : Nat) (m : List AV) : ∀ a : AV, ro a → frn g m a = a
  | .own .., h => by simp only [ro] at h
  | .agg cs, h => by simp only [ro] at h; simp only [frn, frnL_ro g m cs h]
  | .any, _ | .bool _, _ | .int .., _ | .str _, _ | .tup _, _ | .sl .., _ | .ptr .., _ | .rp _, _ | .fn .., _ | .yld _, _ | .mp _, _ | .nilp, _ => rfl
theorem frnL_ro (g : Nat) (m : List AV) : ∀ l : List AV, roL l → frnL g m l = l
  | [], _ => rfl
  | a :: r, h => by simp only [roL] at h; simp only [frnL, frn_ro g m a h.1, frnL_ro g m r h.2]
end
theorem le_freezeN {ne : Nat} {t : Nat → AV} {f : Nat → BS} {n : Nat} (g sz : Nat) (l : List AV) (hg : f g = .live sz l) :
    le ne ⟨t, f, n⟩ ⟨fun k => frn g l (t k), fun j => frnB g l j (f j), n⟩ := by
  rintro c0 N a w ⟨c, rfl, hk, hfr, ht, hN, hd, hs, h0, hnn⟩
  obtain ⟨e, he, hesz, hnr, hreal⟩ := hk.live g sz l hg
  let c' : Cx := { w := c.w, mu := upd c.mu g none, U := c.U, F := fun b => c.F b ∧ (e.real = true → b ≠ e.block) }
  have hkr : Kr c c' := ⟨Nat.le_refl _, fun b _ _ o v h => h, fun _ h => h, fun id _ => by
    by_cases hid : id = g
    · right; subst hid; exact upd_same _ _ _
    · left; exact upd_ne _ _ _ hid, fun b _ h => h.1⟩
  have hmu : ∀ id e', c'.mu id = some e' → id ≠ g ∧ c.mu id = some e' := fun id e' h => by
    by_cases hid : id = g
    · subst hid; rw [show c'.mu id = none from upd_same _ _ _] at h; cases h
    · rw [show c'.mu id = c.mu id from upd_ne _ _ _ hid] at h; exact ⟨hid, h⟩
  have hmu2 : ∀ id, id ≠ g → c'.mu id = c.mu id := fun id h => upd_ne _ _ _ h
  have hrest : ∀ (x : AV) (v : Value), Rv c x v → Rv c' x v := fun x v h => Rv.keepR hkr x v h
  have key : ∀ (x : AV) (v : Value), Rv c x v → Rv c' (frn g l x) v := frn_rv (fun sz' id off len v h => by
      simp only [frn]
      split
      · rename_i hh
        obtain ⟨rfl, hle⟩ := hh
        simp only [Rv] at h ⊢
        obtain ⟨hU, h2, ad, cap, rfl, h3, h4⟩ := h
        have hsz' : sz = sz' := by rw [← hesz]; exact h2 e he
        subst hsz'
        have hlen : ((l.drop off).take len).length = len := by rw [List.length_take, List.length_drop]; omega
        refine ⟨ad, cap, by rw [hlen], by rw [hlen]; exact h3, by simp, ?_⟩
        rcases h4 with h4 | ⟨b, o, rfl, h5⟩
        · left; exact List.eq_nil_of_length_eq_zero (by rw [hlen]; omega)
        · obtain ⟨hr, rfl, rfl, _⟩ := h5 e he
          right
          obtain ⟨hre, _⟩ := hreal hr
          refine ⟨_, _, rfl, hk.lt he hr, fun hF => hF.2 hr rfl, ?_⟩
          rw [hesz]
          refine Re.of_get fun i x hi => ?_
          obtain ⟨v, g1, g2⟩ := (hre.slice off len).get i x hi
          exact ⟨v, g1.keepR hkr, g2⟩
      · exact hrest _ _ h) hrest
  have hfresh : ∀ j, frnB g l j (f j) = .fresh ↔ f j = .fresh := fun j => by
    unfold frnB
    split
    · rename_i h; subst h; rw [hg]; simp
    · cases f j <;> simp
  have hst : Stp c0 c' := by
    refine ⟨hs.os, hs.tape, hs.output, hs.size, hs.keep, hs.U, fun id h => ?_, fun id e' h hr => hs.new id e' (hmu id e' h).2 hr, fun b hb => ⟨fun h => (hs.F b hb).1 h.1, fun hn hF => ⟨(hs.F b hb).2 hn hF, fun hr hbe => ?_⟩⟩⟩
    · by_cases hid : id = g
      · subst hid; right; exact upd_same _ _ _
      · rw [hmu2 id hid]; exact hs.mu id h
    · subst hbe
      rcases hs.new g e he hr with h1 | ⟨j, e', hj, hr', hb'⟩
      · omega
      · exact hn j e' hj hr' hb'
  refine ⟨c', rfl, ?_, fun j => (hfresh j).trans (hfr j), fun k => key _ _ (ht k), hN, Marks.back (c := c) (c' := c') rfl (fun id e' h => ⟨id, (hmu id e' h).2⟩) hd, hst, h0, hnn⟩
  constructor
  · intro id; exact (hk.used id).trans (not_congr (hfresh id)).symm
  · intro id h
    by_cases hid : id = g
    · subst hid; exact upd_same _ _ _
    · rw [hmu2 id hid]
      refine hk.none id ?_
      change frnB g l id (f id) = .fresh ∨ frnB g l id (f id) = .dead at h
      change f id = .fresh ∨ f id = .dead
      unfold frnB at h
      simp only [if_neg hid] at h
      cases hf : f id with
      | fresh => exact .inl rfl
      | dead => exact .inr rfl
      | live s m => rw [hf] at h; simp at h
      | obj o t => rw [hf] at h; simp at h
  · intro id s m h
    change frnB g l id (f id) = _ at h
    unfold frnB at h
    split at h
    · cases h
    · rename_i hid
      cases hf : f id with
      | live s' m' =>
        rw [hf] at h
        simp only [BS.live.injEq] at h
        obtain ⟨rfl, rfl⟩ := h
        obtain ⟨e2, he2, h1, h2, h3⟩ := hk.live id s' m' hf
        refine ⟨e2, by rw [hmu2 id hid]; exact he2, h1, fun hr => by rw [h2 hr]; rfl, fun hr => ?_⟩
        obtain ⟨hre, htot, cs, ty, hh, hsz⟩ := h3 hr
        refine ⟨Re.of_get fun i x hi => ?_, by simpa using htot, cs, ty, hh, hsz⟩
        rw [List.getElem?_map] at hi
        cases hx : m'[i]? with
        | none => rw [hx] at hi; cases hi
        | some y =>
          rw [hx] at hi
          simp only [Option.map_some, Option.some.injEq] at hi
          subst hi
          obtain ⟨v, g1, g2, g3, g4, g5⟩ := hre.get i y hx
          exact ⟨v, key _ _ g1, g2, by rw [frn_isAgg]; exact g3, g4, g5⟩
      | fresh => rw [hf] at h; cases h
      | dead => rw [hf] at h; cases h
      | obj o t => rw [hf] at h; cases h
  · intro id o tt h
    change frnB g l id (f id) = _ at h
    unfold frnB at h
    split at h
    · cases h
    · rename_i hid
      cases hf : f id with
      | obj o' t' =>
        rw [hf] at h
        simp only [BS.obj.injEq] at h
        obtain ⟨rfl, rfl⟩ := h
        obtain ⟨e2, oo, he2, h1, h2, h3, hS, h4, h5, h6⟩ := hk.obj id o' t' hf
        exact ⟨e2, oo, by rw [hmu2 id hid]; exact he2, h1, h2, h3, hS, h4, fun k => (h5 k).keepR hkr, h6⟩
      | fresh => rw [hf] at h; cases h
      | dead => rw [hf] at h; cases h
      | live s m => rw [hf] at h; cases h
  · intro i j ei ej hi hj
    exact hk.inj i j ei ej (hmu i ei hi).2 (hmu j ej hj).2
  · intro id e2 h hr
    obtain ⟨hid, h2⟩ := hmu id e2 h
    exact ⟨hk.shut id e2 h2 hr, fun hre hb => hid (hk.inj id g e2 e h2 he hr hre hb)⟩
attribute [go_sem] frn frnL frnB
theorem CA.freeze {P : Program} {g : FuncId} {args : List AV} {f : Nat → BS} {n : Nat} {K : AV → (Nat → BS) → Nat → Prop}
    (h : CA P g args f n fun r f' n' => ∃ b sz l, f' b = .live sz l ∧ K (frn b l r) (fun j => frnB b l j (f' j)) n') : CA P g args f n K := by
  refine fun c vs h1 h2 h3 => (h c vs h1 h2 h3).mono fun v w' ⟨c', r, f', n', q1, ⟨b, sz, l, hb, hK⟩, q3, q4, q5, q6, q7⟩ => ?_
  have hle := le_freezeN (ne := n) (t := fun k => if k = 0 then r else .any) (n := n') b sz l hb
  have hU : ∀ j, c.U j → j < n := fun j hj => by
    rcases Nat.lt_or_ge j n with h | h
    · exact h
    · exact absurd ((h2 j).2 h) ((h1.used j).1 hj)
  obtain ⟨c2, k1, k2, k3, k4, k5, k6, k7, k8, k9⟩ := hle c 1 { tmps := #[v], defers := [] } w' ⟨c', q1, q3, q7, fun k => by
    by_cases hk : k = 0
    · subst hk; simp; exact q4
    · simp only [if_neg hk, Rv], rfl, trivial, q5, hU, q6⟩
  have hr := k4 0
  simp at hr
  exact ⟨c2, _, _, n', k1, hK, k2, hr, k7, q6, k3⟩
open Go Go.Proofs
set_option linter.unusedSimpArgs false
set_option linter.unusedVariables false
set_option maxRecDepth 20000
@[go_sem] theorem bld_pt (x y : Rat) : rC x ++ (rC y ++ List.drop 6 (rC x ++ [AV.bool false, AV.sl 0 true [], AV.sl 0 true []])) = pC ⟨x, y⟩ := rfl
def tQ (m i : Nat) : Rat := ((i : Int) : Rat) / ((m : Int) : Rat)
def kQ (m i : Nat) : Rat := 1 / (1 + tQ m i * tQ m i)
def uP (m i : Nat) : PQ := (⟨1 - tQ m i * tQ m i, tQ m i + tQ m i⟩ : PQ).scale (kQ m i)
def uL (m n : Nat) : List PQ := (List.range n).map (uP m)
theorem uL_len (m n : Nat) : (uL m n).length = n := by simp [uL]
theorem uL_succ (m n : Nat) : uL m (n + 1) = uL m n ++ [uP m n] := by simp [uL, List.range_succ]
theorem one_tt (m i : Nat) : 1 + tQ m i * tQ m i ≠ 0 := by
  have h : 0 ≤ tQ m i * tQ m i := by
    rcases (Rat.le_total : 0 ≤ tQ m i ∨ tQ m i ≤ 0) with h | h
    · exact Rat.mul_nonneg h h
    · have := Rat.mul_nonneg (show 0 ≤ -tQ m i by grind) (show 0 ≤ -tQ m i by grind)
      grind
  grind
theorem sz_tQ {m i : Nat} (hm : 1 ≤ m) (hm2 : m ≤ 4096) (hi : i ≤ m) : sz (tQ m i) ≤ 1 := sz_frac (by omega) (by omega) (by omega)
theorem sz_uP {m i : Nat} (hm : 1 ≤ m) (hm2 : m ≤ 4096) (hi : i ≤ m) : (uP m i).sz ≤ 16 := by
  have h1 := sz_tQ hm hm2 hi
  have h2 := sz_mul (tQ m i) (tQ m i)
  have h3 := sz_add 1 (tQ m i * tQ m i)
  have h4 := sz_sub 1 (tQ m i * tQ m i)
  have h5 := sz_add (tQ m i) (tQ m i)
  have h6 := sz_div 1 (1 + tQ m i * tQ m i)
  rw [sz_one] at h3 h4 h6
  have h7 := PQ.sz_scale (⟨1 - tQ m i * tQ m i, tQ m i + tQ m i⟩ : PQ) (kQ m i)
  have h8 : (⟨1 - tQ m i * tQ m i, tQ m i + tQ m i⟩ : PQ).sz ≤ 4 := by unfold PQ.sz; simp only; omega
  have h9 : sz (kQ m i) ≤ 5 := by unfold kQ; omega
  unfold uP
  omega
def circ (m : Nat) : Nat → List AV
  | 0 => [.agg [.int .u32 0, .int .i32 0, .int .u32 0, .int .i64 m, .sl 0 true []]]
  | _ + 1 => [.agg [.int .u32 1, .int .i32 0, .int .u32 0, .int .i64 m, .sl 6 false ((uL m m).map pA)]]
set_option maxHeartbeats 8000000 in
theorem circle_do (m : Nat) (hm : 1 ≤ m) (hm2 : m ≤ 4096) (j : Nat) {K : AV → (Nat → BS) → Nat → Prop} (hK : ∀ f' n', f' 0 = once1 5 [.int .u32 0, .int .i64 m, .sl 6 false ((uL m m).map pA)] → 1 ≤ n' → K (.tup []) f' n') :
    CA Tryz.prog 56 [.ptr 0 0 0, .fn (.func 204) [.ptr 0 0 0] []] (oneF 5 (circ m j)) 1 K := by
  cases j with
  | succ j => exact once_do1 (sz := 5) (rest := [.int .u32 0, .int .i64 m, .sl 6 false ((uL m m).map pA)]) rfl (hK _ _ rfl (Nat.le_refl _))
  | zero =>
    refine CA.freeze (once_do131 (sz := 5) (rest := [.int .u32 0, .int .i64 m, .sl 0 true []]) rfl ?_)
    refine CA.of_go mixed Tryz.func204 rfl (rs := []) rfl (by kernel_rfl) ?_
    have h1 := rof_pure 1 1 (by omega) (by omega) (by omega)
    rw [show ((1 : Int) : Rat) / ((1 : Int) : Rat) = 1 by grind, rA_rC] at h1
    simp -implicitDefEqProofs [go_sem, circ, onceL, once1]
    refine goC_pure _ h1 (by simp -implicitDefEqProofs [go_sem]) ?_
    simp -implicitDefEqProofs [go_sem]
    obtain ⟨V, hV⟩ : ∃ V : Nat → List AV, V = fun i => (uL m i).map pA := ⟨_, rfl⟩
    have hVl : ∀ i, (V i).length = i := fun i => by rw [hV]; simp [uL_len]
    have hVr : ∀ i, roL (V i) := fun i => by rw [hV]; exact roL_pA _
    have hV0 : V 0 = [] := by rw [hV]; rfl
    have hVs : ∀ i, V (i + 1) = V i ++ [.agg (pC (uP m i))] := fun i => by rw [hV]; simp only [uL_succ, List.map_append, List.map_singleton, pA_pC]
    refine go_loopN 3 (α := {i : Nat // i ≤ m}) (fun i => [(0, .ptr 0 0 0), (2, .ptr 1 0 0), (12, .int .i64 m), (13, .int .i64 i.1)])
      (fun i => [(0, .live 5 [.agg [.int .u32 0, .int .i32 1, .int .u32 0, .int .i64 m, apv 6 2 (V i.1)]]), (1, .live 3 [.agg (rC 1)])] ++ apb 6 2 (V i.1)) (fun i => m - i.1) ⟨0, Nat.zero_le _⟩ [] (by simp) (fun _ _ _ _ h => h) (by omega) (by simp -implicitDefEqProofs [go_sem]) (by simp -implicitDefEqProofs [go_sem, hV0]) fun ⟨i, hi⟩ => ?_
    simp only
    have hb : V i ≠ [] → hp 3 (apb 6 2 (V i)) 2 = .live 6 (V i) := fun h => by rw [apb_ne h]; simp [hp, upd]
    simp -implicitDefEqProofs [go_sem]
    refine ⟨fun h => ?_, fun h => ?_⟩
    · have es : IntKind.i64.wrap ((i : Int) + 1) = (i + 1 : Nat) := by rw [w64 (by omega)]; omega
      have r1 := rof_pure (i : Int) (m : Int) (by omega) (by omega) (by omega)
      rw [show ((i : Int) : Rat) / ((m : Int) : Rat) = tQ m i from rfl] at r1
      have z1 := sz_tQ hm hm2 hi
      have z2 := sz_mul (tQ m i) (tQ m i)
      have z3 := sz_add 1 (tQ m i * tQ m i)
      have z4 := sz_sub 1 (tQ m i * tQ m i)
      have z5 := sz_add (tQ m i) (tQ m i)
      have z6 := sz_div 1 (1 + tQ m i * tQ m i)
      rw [sz_one] at z3 z4 z6
      have r2 := rmulq (tQ m i) (tQ m i) (by omega) (by omega)
      have r3 := raddq 1 (tQ m i * tQ m i) (by rw [sz_one]; omega) (by omega)
      have r4 := rdivq 1 (1 + tQ m i * tQ m i) (by rw [sz_one]; omega) (by omega) (one_tt m i)
      have r5 := rsubq 1 (tQ m i * tQ m i) (by rw [sz_one]; omega) (by omega)
      have r6 := raddq (tQ m i) (tQ m i) (by omega) (by omega)
      have r7 := pscaleq ⟨1 - tQ m i * tQ m i, tQ m i + tQ m i⟩ (kQ m i) (by unfold PQ.sz; simp only; omega) (by unfold kQ; omega)
      rw [show (1 : Rat) / (1 + tQ m i * tQ m i) = kQ m i from rfl] at r4
      rw [show (⟨1 - tQ m i * tQ m i, tQ m i + tQ m i⟩ : PQ).scale (kQ m i) = uP m i from rfl] at r7
      have hs := hVs i
      have hl := hVl i
      have hr1 := hVr (i + 1)
      rw [hs] at hr1
      generalize uP m i = up at *
      generalize kQ m i = kq at *
      simp only [pA_pC, rA_rC] at r1 r2 r3 r4 r5 r6 r7
      generalize tQ m i * tQ m i = s at *
      generalize tQ m i + tQ m i = tt at *
      generalize tQ m i = t at *
      refine goC_pure _ r1 (by simp -implicitDefEqProofs [go_sem]) ?_
      simp -implicitDefEqProofs [go_sem]
      refine goC_pure _ r2 (by simp -implicitDefEqProofs [go_sem, ro_rC]) ?_
      simp -implicitDefEqProofs [go_sem]
      refine goD_pure _ r3 (by simp -implicitDefEqProofs [go_sem, ro_rC]) ?_
      simp -implicitDefEqProofs [go_sem]
      refine goD_pure _ r4 (by simp -implicitDefEqProofs [go_sem, ro_rC]) ?_
      simp -implicitDefEqProofs [go_sem]
      refine goD_pure _ r5 (by simp -implicitDefEqProofs [go_sem, ro_rC]) ?_
      simp -implicitDefEqProofs [go_sem]
      refine goD_pure _ r6 (by simp -implicitDefEqProofs [go_sem, ro_rC]) ?_
      simp -implicitDefEqProofs [go_sem]
      refine goD_pure _ r7 (by simp -implicitDefEqProofs [go_sem, ro_rC, ro_pC]) ?_
      simp -implicitDefEqProofs [go_sem]
      refine goApS_apv (.inl rfl) (by omega) (by omega) (by simp -implicitDefEqProofs [go_sem]) (by simp [hl] <;> omega) (by simp -implicitDefEqProofs [go_sem]; intro h; rw [if_neg h]; rfl) ?_
      simp -implicitDefEqProofs [go_sem, es]
      have hn1 : V (i + 1) ≠ [] := by rw [hs]; simp
      have q1 := (renL_ro (nm [(2, 31)]) _ hr1).symm
      have q2 := cloL_ro (n := 3) _ hr1
      have hl1 : (V (i + 1)).length = (V i).length + 1 := by rw [hs]; simp
      refine go_again ⟨i + 1, h⟩ (by simp only; omega) [(2, 31)] (by simp) (by simp only [apb_ne hn1]; simp [nm]) (by simp) (by simp -implicitDefEqProofs [go_sem, es]) (by simp only [apb_ne hn1, apv_ne hn1, hl1, hs]; simp -implicitDefEqProofs [go_sem, ← q1, q2])
    · have him : i = m := by omega
      subst him
      have hne : V i ≠ [] := by intro h; have := hVl i; rw [h] at this; simp at this; omega
      have hap := apv_ne (sz := 6) (id := 2) hne
      have hl := hVl i
      have ht : (V i).take i = V i := List.take_of_length_le (by omega)
      refine ⟨2, 6, V i, by simp -implicitDefEqProofs [go_sem, hne], hK _ _ ?_ (by omega)⟩
      simp -implicitDefEqProofs [go_sem, hap, once1, hl, ht]
      rw [hV]
def PQ.rot (p : PQ) : PQ := ⟨-p.y, p.x⟩
def rotN : Nat → PQ → PQ
  | 0, p => p
  | j + 1, p => (rotN j p).rot
theorem PQ.sz_rot (p : PQ) : p.rot.sz ≤ p.sz := by
  have := p.sz_x; have := p.sz_y; have := sz_neg p.y
  unfold PQ.rot
  conv => lhs; unfold PQ.sz
  simp only
  omega
theorem sz_rotN (j : Nat) (p : PQ) : (rotN j p).sz ≤ p.sz := by
  induction j with
  | zero => exact Nat.le_refl _
  | succ j ih => exact Nat.le_trans (PQ.sz_rot _) ih
set_option maxHeartbeats 8000000 in
theorem quarter_inx (m : Nat) (hm : 1 ≤ m) (hm2 : m ≤ 4096) (j j' : Nat) (hj : j ≤ 3) :
    InX Tryz.prog 173 [.ptr 0 0 0, .int .i64 j] 5 (circ m j') fun r l' => r = pL ((uL m m).map (rotN j)) ∧ l' = circ m (j' + 1) := by
  refine CA.freeze (CA.of_go mixed Tryz.func173 rfl (rs := [.tmp 4]) rfl (by kernel_rfl) ?_)
  obtain ⟨B, hB⟩ : ∃ B, B = circ m j' := ⟨_, rfl⟩
  have hcd := @circle_do m hm hm2 j'
  have hc1 : circ m (j' + 1) = [.agg [.int .u32 1, .int .i32 0, .int .u32 0, .int .i64 m, .sl 6 false ((uL m m).map pA)]] := rfl
  rw [hc1]
  rw [← hB] at hcd ⊢
  simp -implicitDefEqProofs [go_sem]
  refine hcd fun f' n' hf hn => ?_
  unfold once1 at hf
  simp -implicitDefEqProofs [go_sem, hf]
  obtain ⟨U, hU⟩ : ∃ U, U = (uL m m).map pA := ⟨_, rfl⟩
  have hUr : roL U := by rw [hU]; exact roL_pA _
  have hUl : U.length = m := by rw [hU]; simp [uL_len]
  have hUi : ∀ i, i < m → getE U (i : Int) = .agg (pC (uP m i)) := fun i h => by
    rw [hU, getE_pA (by rw [uL_len]; exact h)]
    congr 2
    simp [uL]
  obtain ⟨O, hO⟩ : ∃ O : Nat → List AV, O = fun i => ((uL m i).map (rotN j)).map pA := ⟨_, rfl⟩
  have hOr : ∀ i, roL (O i) := fun i => by rw [hO]; exact roL_pA _
  have hOl : ∀ i, (O i).length = i := fun i => by rw [hO]; simp [uL_len]
  have hO0 : O 0 = [] := by rw [hO]; rfl
  have hOs : ∀ i, O (i + 1) = O i ++ [.agg (pC (rotN j (uP m i)))] := fun i => by rw [hO]; simp only [uL_succ, List.map_append, List.map_singleton, pA_pC]
  have hOm : pL ((uL m m).map (rotN j)) = .sl 6 false (O m) := by rw [hO]; rfl
  rw [← hU] at hf ⊢
  rw [hOm, uL_len]
  refine go_loopN 2 (α := {i : Nat // i ≤ m}) (fun i => [(1, .int .i64 j), (5, apv 6 1 (O i.1)), (17, .sl 6 false U), (18, .int .i64 m), (19, .int .i64 i.1)])
    (fun i => (0, .live 5 [.agg [.int .u32 1, .int .i32 0, .int .u32 0, .int .i64 m, .sl 6 false U]]) :: apb 6 1 (O i.1)) (fun i => m - i.1) ⟨0, Nat.zero_le _⟩ [] (by simp) (by simp only [hO0, apb_nil]; simp [nm]) (by omega) (by simp -implicitDefEqProofs [go_sem, hO0]; exact ⟨(renL_ro _ _ hUr).symm, cloL_ro _ hUr⟩) (by simp -implicitDefEqProofs [go_sem, hO0, hf]; exact ⟨(renL_ro _ _ hUr).symm, cloL_ro _ hUr⟩) fun ⟨i, hi⟩ => ?_
  simp only
  have hb : O i ≠ [] → hp 2 (apb 6 1 (O i)) 1 = .live 6 (O i) := fun h => by rw [apb_ne h]; simp [hp, upd]
  have hl := hOl i
  simp -implicitDefEqProofs [go_sem]
  refine ⟨fun h => ?_, fun h => ?_⟩
  · have es : IntKind.i64.wrap ((i : Int) + 1) = (i + 1 : Nat) := by rw [w64 (by omega)]; omega
    have hg := hUi i h
    have hs := hOs i
    have hr1 := hOr (i + 1)
    have hsu := sz_uP hm hm2 hi
    have hr0 := hOr i
    simp -implicitDefEqProofs [go_sem, hg]
    have q1 := (renL_ro (nm []) _ hr0).symm
    have q2 := cloL_ro (n := 3) _ hr0
    have q3 := (renL_ro (nm []) _ hUr).symm
    have q4 := cloL_ro (n := 3) _ hUr
    refine ⟨by omega, go_loopN 3 (α := {r : Nat // r ≤ j}) (fun r => [(1, .int .i64 j), (5, apv 6 1 (O i)), (7, .ptr 2 0 0), (17, .sl 6 false U), (18, .int .i64 m), (19, .int .i64 i), (23, .int .i64 j), (24, .int .i64 r.1)])
      (fun r => (0, .live 5 [.agg [.int .u32 1, .int .i32 0, .int .u32 0, .int .i64 m, .sl 6 false U]]) :: (2, .live 6 [.agg (pC (rotN r.1 (uP m i)))]) :: apb 6 1 (O i)) (fun r => j - r.1) ⟨0, Nat.zero_le _⟩ [] (by simp) (fun _ _ _ _ h => h) (by omega) (by simp -implicitDefEqProofs [go_sem]; exact ⟨q3, q4⟩) (by simp -implicitDefEqProofs [go_sem, rotN]; exact ⟨⟨q3, q4⟩, fun h => ⟨by rw [if_neg h, ← q1], q2⟩⟩) fun ⟨r, hr⟩ => ?_⟩
    simp only
    have hb2 : O i ≠ [] → hp 3 (apb 6 1 (O i)) 1 = .live 6 (O i) := fun h => by rw [apb_ne h]; simp [hp, upd]
    have e1 : IntKind.i64.wrap ((r : Int) + 1) = (r + 1 : Nat) := by rw [w64 (by omega)]; omega
    simp -implicitDefEqProofs [go_sem]
    refine ⟨fun h2 => ?_, fun h2 => ?_⟩
    · have hsr := sz_rotN r (uP m i)
      have hsy := (rotN r (uP m i)).sz_y
      have hng := rnegq (rotN r (uP m i)).y (by omega)
      have hrr : pC (rotN (r + 1) (uP m i)) = pC ⟨-(rotN r (uP m i)).y, (rotN r (uP m i)).x⟩ := rfl
      generalize rotN r (uP m i) = p at *
      simp only [rA_rC] at hng
      refine goD_pure _ hng (by simp -implicitDefEqProofs [go_sem, ro_rC]) ?_
      simp -implicitDefEqProofs [go_sem, e1]
      refine go_again ⟨r + 1, by omega⟩ (by simp only; omega) [] (by simp) (fun _ _ _ _ h => h) (by simp) (by simp -implicitDefEqProofs [go_sem, e1]; exact ⟨q3, q4⟩) (by simp -implicitDefEqProofs [go_sem, hrr]; exact ⟨⟨q3, q4⟩, fun h => ⟨by rw [if_neg h, ← q1]; rfl, q2⟩⟩)
    · have hrj : r = j := by omega
      subst hrj
      generalize rotN r (uP m i) = p at *
      simp -implicitDefEqProofs [go_sem]
      refine goApS_apv (.inl rfl) (by omega) (by omega) (by simp -implicitDefEqProofs [go_sem]) (by simp [hl] <;> omega) (by simp -implicitDefEqProofs [go_sem] <;> (intro h; rw [if_neg h])) ?_
      simp -implicitDefEqProofs [go_sem, es]
      have hn1 : O (i + 1) ≠ [] := by rw [hs]; simp
      rw [hs] at hr1
      have u1 := (renL_ro (nm [(1, 4)]) _ hr1).symm
      have u2 := cloL_ro (n := 2) _ hr1
      have u3 := (renL_ro (nm [(1, 4)]) _ hUr).symm
      have u4 := cloL_ro (n := 2) _ hUr
      have hl1 : (O (i + 1)).length = (O i).length + 1 := by rw [hs]; simp
      refine go_again ⟨i + 1, h⟩ (by simp only; omega) [(1, 4)] (by simp) (by simp only [apb_ne hn1]; simp [nm]) (by simp) (by simp only [apv_ne hn1, hl1]; simp -implicitDefEqProofs [go_sem, es]; exact ⟨u3, u4⟩) (by simp only [apb_ne hn1, hs]; simp -implicitDefEqProofs [go_sem, ← u1, u2, ← u3, u4])
  · have him : i = m := by omega
    subst him
    have hne : O i ≠ [] := by intro h; rw [h] at hl; simp at hl; omega
    have hap := apv_ne (sz := 6) (id := 1) hne
    have ht : (O i).take i = O i := List.take_of_length_le (by omega)
    rw [hap, hl]
    refine ⟨1, 6, O i, by simp -implicitDefEqProofs [go_sem, hne], _, ⟨by simp -implicitDefEqProofs [go_sem, hl, ht], rfl⟩, ?_, .inl ?_, ?_⟩
    · simp -implicitDefEqProofs [go_sem, hUr]
    · simp -implicitDefEqProofs [go_sem, hl, ht, hOr]
    · simp -implicitDefEqProofs [go_sem, frnL_ro]
def dP (c : PQ) (h : Rat) (q : Nat) (p : PQ) : PQ := c.add ((rotN q p).scale h)
def dQ (c : PQ) (h : Rat) (m q : Nat) : List PQ := (uL m m).map (dP c h q)
def dL (c : PQ) (h : Rat) (m : Nat) : Nat → List PQ
  | 0 => []
  | q + 1 => dL c h m q ++ dQ c h m q
theorem dL_len (c : PQ) (h : Rat) (m q : Nat) : (dL c h m q).length = q * m := by
  induction q with
  | zero => simp [dL]
  | succ q ih => simp only [dL, List.length_append, ih, dQ, List.length_map, uL_len, Nat.succ_mul]
theorem ro_circ (m j : Nat) : roL (circ m j) := by
  cases j with
  | zero => unfold circ; simp -implicitDefEqProofs [go_sem]
  | succ j => unfold circ; simp -implicitDefEqProofs [go_sem]
set_option maxHeartbeats 8000000 in
theorem dpoints_pure (c : PR) (h : RQ) (m : Nat) (hc : c.In 1048576) (hh : h.In 1048576) (h0 : 0 < h.val) (hm : 1 ≤ m) (hm2 : m ≤ 4096) :
    Pure Tryz.prog 120 [c.av, h.av, .int .i64 m] (.tup [pL (dL c.val h.val m 4), .int .i64 0]) := by
  have hs := rsign_pure h hh.sm.ok
  have h1' : ¬ sgnQ h.val ≤ 0 := by
    have : 0 < sgnQ h.val := by rw [sgnQ_gt]; exact h0
    omega
  obtain ⟨cc, hcc, c1, c2, c3, c4⟩ : ∃ cc, c.av = .agg cc ∧ cc.length = 6 ∧ cc.take 6 = cc ∧ cc.drop 6 = [] ∧ roL cc := ⟨_, rfl, rfl, rfl, rfl, by have := ro_pr c; unfold PR.av at this; simpa only [ro] using this⟩
  obtain ⟨ch, hch, d1, d2, d3, d4⟩ : ∃ ch, h.av = .agg ch ∧ ch.length = 3 ∧ ch.take 3 = ch ∧ ch.drop 3 = [] ∧ roL ch := ⟨_, rfl, rfl, rfl, rfl, rq_cs_ro h⟩
  rw [hch] at hs
  rw [hcc, hch]
  refine Pure.of_ca (by simp only [ro, roL]; exact ⟨ro_pL _, trivial, trivial⟩) (CA.of_go mixed Tryz.func120 rfl (rs := [.tmp 6, .tmp 7]) rfl (by kernel_rfl) ?_)
  have n1 : ¬ (m : Int) < 1 := by omega
  have n2 : ¬ 4096 < (m : Int) := by omega
  simp -implicitDefEqProofs [go_sem, c1, c2, d1, d2]
  refine goC_pure _ hs (by simp -implicitDefEqProofs [go_sem, d4]) ?_
  simp -implicitDefEqProofs [go_sem, h1', n1, n2, hm2]
  have hcirc := ro_circ m
  have hq := fun j (hj : j ≤ 3) => quarter_inx m hm hm2 j j hj
  have hc0 : BS.live 5 [.agg [.int .u32 0, .int .i32 0, .int .u32 0, .int .i64 m, .sl 0 true []]] = BS.live 5 (circ m 0) := rfl
  rw [hc0]
  generalize circ m = C at *
  obtain ⟨O, hO⟩ : ∃ O : Nat → Nat → List AV, O = fun j i => (dL c.val h.val m j ++ (uL m i).map (dP c.val h.val j)).map pA := ⟨_, rfl⟩
  have hOr : ∀ j i, roL (O j i) := fun j i => by rw [hO]; exact roL_pA _
  have hOl : ∀ j i, (O j i).length = j * m + i := fun j i => by rw [hO]; simp [uL_len, dL_len]
  have hO0 : O 0 0 = [] := by rw [hO]; rfl
  have hOs : ∀ j i, O j (i + 1) = O j i ++ [.agg (pC (dP c.val h.val j (uP m i)))] := fun j i => by rw [hO]; simp only [uL_succ, List.map_append, List.map_singleton, pA_pC, List.append_assoc]
  have hOm : ∀ j, O j m = O (j + 1) 0 := fun j => by rw [hO]; simp [dL, dQ, uL]
  have hO4 : pL (dL c.val h.val m 4) = .sl 6 false (O 4 0) := by rw [hO]; simp [pL, uL]
  rw [hO4]
  have a1 := (renL_ro (nm []) _ c4).symm
  have a2 := cloL_ro (n := 4) _ c4
  have a3 := (renL_ro (nm []) _ d4).symm
  have a4 := cloL_ro (n := 4) _ d4
  have a5 := fun j => (renL_ro (nm []) _ (hcirc j)).symm
  have a6 := fun j => cloL_ro (n := 4) _ (hcirc j)
  refine go_loopN 4 (α := {j : Nat // j ≤ 4}) (fun j => [(2, .int .i64 m), (3, .ptr 0 0 0), (4, .ptr 1 0 0), (8, .ptr 2 0 0), (9, apv 6 3 (O j.1 0)), (27, .int .i64 j.1)])
    (fun j => (0, .live 6 [.agg cc]) :: (1, .live 3 [.agg ch]) :: (2, .live 5 (C j.1)) :: apb 6 3 (O j.1 0)) (fun j => 4 - j.1) ⟨0, Nat.zero_le _⟩ [] (by simp) (by simp only [hO0, apb_nil]; simp [nm]) (by omega) (by simp -implicitDefEqProofs [go_sem, hO0]) (by simp -implicitDefEqProofs [go_sem, hO0]; exact ⟨⟨a1, a2⟩, ⟨a3, a4⟩, a5 0, a6 0⟩) fun ⟨j, hj⟩ => ?_
  simp only
  have hb : O j 0 ≠ [] → hp 4 (apb 6 3 (O j 0)) 3 = .live 6 (O j 0) := fun h => by rw [apb_ne h]; simp [hp, upd]
  simp -implicitDefEqProofs [go_sem]
  refine ⟨fun h4 => ?_, fun h4 => ?_⟩
  · have ej : IntKind.i64.wrap ((j : Int) + 1) = (j + 1 : Nat) := by rw [w64 (by omega)]; omega
    refine goC_inx 2 (hq j (by omega)) (by simp -implicitDefEqProofs [go_sem]) (by simp -implicitDefEqProofs [go_sem]) (hcirc j) (by simp -implicitDefEqProofs [go_sem]) fun r0 l' ⟨hr0, hl'⟩ => ?_
    subst hr0 hl'
    unfold pL
    obtain ⟨W, hW⟩ : ∃ W, W = (List.map (rotN j) (uL m m)).map pA := ⟨_, rfl⟩
    have hWr : roL W := by rw [hW]; exact roL_pA _
    have hWl : W.length = m := by rw [hW]; simp [uL_len]
    have hWi : ∀ i, i < m → getE W (i : Int) = .agg (pC (rotN j (uP m i))) := fun i h => by
      rw [hW, getE_pA (by rw [List.length_map, uL_len]; exact h)]
      congr 2
      simp [uL]
    rw [← hW]
    have hWn : renL (fun _ => 2) W = W := renL_ro _ _ hWr
    simp -implicitDefEqProofs [go_sem, hWl, hWn]
    have w1 := (renL_ro (nm []) _ hWr).symm
    have w2 := cloL_ro (n := 4) _ hWr
    have o1 := (renL_ro (nm []) _ (hOr j 0)).symm
    have o2 := cloL_ro (n := 4) _ (hOr j 0)
    refine go_loopN 4 (α := {i : Nat // i ≤ m}) (fun i => [(2, .int .i64 m), (3, .ptr 0 0 0), (4, .ptr 1 0 0), (8, .ptr 2 0 0), (9, apv 6 3 (O j i.1)), (27, .int .i64 j), (32, .sl 6 false W), (33, .int .i64 m), (34, .int .i64 i.1)])
      (fun i => (0, .live 6 [.agg cc]) :: (1, .live 3 [.agg ch]) :: (2, .live 5 (C (j + 1))) :: apb 6 3 (O j i.1)) (fun i => m - i.1) ⟨0, Nat.zero_le _⟩ [] (by simp) (fun _ _ _ _ h => h) (by omega) (by simp -implicitDefEqProofs [go_sem]; exact ⟨w1, w2⟩) (by simp -implicitDefEqProofs [go_sem]; exact ⟨⟨a1, a2⟩, ⟨a3, a4⟩, ⟨a5 (j + 1), a6 (j + 1)⟩, fun h => ⟨by rw [if_neg h, ← o1], o2⟩⟩) fun ⟨i, hi⟩ => ?_
    simp only
    have hb2 : O j i ≠ [] → hp 4 (apb 6 3 (O j i)) 3 = .live 6 (O j i) := fun h => by rw [apb_ne h]; simp [hp, upd]
    have hl := hOl j i
    simp -implicitDefEqProofs [go_sem]
    refine ⟨fun h5 => ?_, fun h5 => ?_⟩
    · have es : IntKind.i64.wrap ((i : Int) + 1) = (i + 1 : Nat) := by rw [w64 (by omega)]; omega
      have hg := hWi i h5
      have hs1 := hOs j i
      have hr1 := hOr j (i + 1)
      have zu := sz_uP hm hm2 hi
      have zr := sz_rotN j (uP m i)
      have zh := hh.sz
      have zs := PQ.sz_scale (rotN j (uP m i)) h.val
      have k1 := pscale_pure (pc (rotN j (uP m i))) h (pc_in (by omega)) hh.mono
      rw [pc_val, hch] at k1
      have k2 := padd_pure c (pc ((rotN j (uP m i)).scale h.val)) hc.mono (pc_in (by omega))
      rw [pc_val, hcc] at k2
      change Pure _ _ [_, pA _] (pA (dP c.val h.val j (uP m i))) at k2
      generalize dP c.val h.val j (uP m i) = dp at *
      generalize (rotN j (uP m i)).scale h.val = sp at *
      change Pure _ _ [pA _, _] _ at k1
      generalize rotN j (uP m i) = rp at *
      simp only [pA_pC] at k1 k2
      have hjm : j * m ≤ 3 * 4096 := Nat.mul_le_mul (by omega) hm2
      generalize j * m = jm at *
      simp -implicitDefEqProofs [go_sem, hg, c1, c2, d1, d2]
      refine ⟨by omega, goD_pure _ k1 (by simp -implicitDefEqProofs [go_sem, ro_pC, d4]) ?_⟩
      simp -implicitDefEqProofs [go_sem]
      refine goD_pure _ k2 (by simp -implicitDefEqProofs [go_sem, ro_pC, c4]) ?_
      simp -implicitDefEqProofs [go_sem]
      refine goApS_apv (.inl rfl) (by omega) (by omega) (by simp -implicitDefEqProofs [go_sem]) (by simp [hl] <;> omega) (by simp -implicitDefEqProofs [go_sem] <;> (intro h; simp [h, fixB])) ?_
      simp -implicitDefEqProofs [go_sem, es]
      have hn1 : O j (i + 1) ≠ [] := by rw [hs1]; simp
      rw [hs1] at hr1
      have u1 := (renL_ro (nm [(3, 12)]) _ hr1).symm
      have u2 := cloL_ro (n := 4) _ hr1
      have u3 := (renL_ro (nm [(3, 12)]) _ c4).symm
      have u4 := (renL_ro (nm [(3, 12)]) _ d4).symm
      have u5 := (renL_ro (nm [(3, 12)]) _ (hcirc (j + 1))).symm
      have u6 := (renL_ro (nm [(3, 12)]) _ hWr).symm
      have hl1 : (O j (i + 1)).length = (O j i).length + 1 := by rw [hs1]; simp
      refine go_again ⟨i + 1, h5⟩ (by simp only; omega) [(3, 12)] (by simp) (by simp only [apb_ne hn1]; simp [nm]) (by simp) (by simp only [apv_ne hn1, hl1]; simp -implicitDefEqProofs [go_sem, es, ← u6, w2]) (by simp only [apb_ne hn1, hs1]; simp -implicitDefEqProofs [go_sem, ← u1, u2, ← u3, a2, ← u4, a4, ← u5, a6])
    · have him : i = m := by omega
      subst him
      rw [hOm]
      rw [hOm] at hb2
      have o3 := (renL_ro (nm []) _ (hOr (j + 1) 0)).symm
      have o4 := cloL_ro (n := 4) _ (hOr (j + 1) 0)
      simp -implicitDefEqProofs [go_sem, ej]
      refine go_again ⟨j + 1, by omega⟩ (by simp only; omega) [] (by simp) (fun _ _ _ _ h => h) (by simp) (by simp -implicitDefEqProofs [go_sem, ej]) (by simp -implicitDefEqProofs [go_sem]; exact ⟨⟨a1, a2⟩, ⟨a3, a4⟩, ⟨a5 (j + 1), a6 (j + 1)⟩, fun h => ⟨by rw [if_neg h, ← o3], o4⟩⟩)
  · have hj4 : j = 4 := by omega
    subst hj4
    obtain ⟨q1, q2, q3⟩ := apv_told (f := (upd (upd (upd (hp 4 (apb 6 3 (O 4 0))) 2 (BS.live 5 (C 4))) 1 (BS.live 3 [AV.agg ch])) 0 (BS.live 6 [AV.agg cc]))) (sz := 6) (id := 3) (hOr 4 0) (fun h => by simp -implicitDefEqProofs [go_sem, h])
    exact ⟨q1, q2, Wk.tup (.cons q3 (WkL.refl _))⟩
theorem uP_end {m : Nat} (hm : 1 ≤ m) : uP m m = (uP m 0).rot := by
  have hm0 : ((m : Int) : Rat) ≠ 0 := by
    have : (m : Int) ≠ 0 := by omega
    exact_mod_cast this
  have e1 : tQ m m = 1 := by unfold tQ; grind
  have e0 : tQ m 0 = 0 := by unfold tQ; simp; grind
  unfold uP kQ
  rw [e1, e0]
  refine PQ.ext ?_ ?_ <;> simp only [PQ.rot, PQ.scale] <;> grind
theorem rotN_rot (j : Nat) (p : PQ) : rotN j p.rot = rotN (j + 1) p := by
  induction j with
  | zero => rfl
  | succ j ih =>
    change (rotN j p.rot).rot = _
    rw [ih]; rfl
theorem rotN4 (p : PQ) : rotN 4 p = p := by
  refine PQ.ext ?_ ?_ <;> simp only [rotN, PQ.rot] <;> grind
theorem dL_get (c : PQ) (h : Rat) (m : Nat) (hm : 1 ≤ m) : ∀ (q k : Nat) (hk : k < (dL c h m q).length), (dL c h m q)[k] = dP c h (k / m) (uP m (k % m))
  | 0, k, hk => by simp [dL] at hk
  | q + 1, k, hk => by
    rw [dL_len] at hk
    by_cases h1 : k < q * m
    · have := dL_get c h m hm q k (by rw [dL_len]; exact h1)
      rw [← this]
      simp only [dL]
      exact List.getElem_append_left (by rw [dL_len]; exact h1)
    · have hq : k / m = q := by
        rw [Nat.succ_mul] at hk
        obtain ⟨r, hr, hrm⟩ : ∃ r, k = m * q + r ∧ r < m := ⟨k - q * m, by rw [Nat.mul_comm m q]; omega, by omega⟩
        rw [hr, Nat.mul_add_div (by omega), Nat.div_eq_of_lt hrm]; omega
      have hr : k % m = k - q * m := by
        have := Nat.div_add_mod k m
        rw [hq, Nat.mul_comm] at this; omega
      have e : (dL c h m (q + 1))[k]'(by rw [dL_len]; exact hk) = (dQ c h m q)[k - q * m]'(by rw [Nat.succ_mul] at hk; rw [dQ, List.length_map, uL_len]; omega) := by
        simp only [dL]
        rw [List.getElem_append_right (by rw [dL_len]; omega)]
        simp only [dL_len]
      rw [e, hq, hr]
      simp [dQ, uL]
theorem dL_next (c : PQ) (h : Rat) (m : Nat) (hm : 1 ≤ m) (k : Nat) (hk : k < 4 * m) : (dL c h m 4)[(k + 1) % (4 * m)]'(by rw [dL_len]; exact Nat.mod_lt _ (by omega)) = dP c h (k / m) (uP m (k % m + 1)) := by
  rw [dL_get c h m hm]
  have hdm := Nat.div_add_mod k m
  have hlt := Nat.mod_lt k (show 0 < m by omega)
  have hq4 : k / m < 4 := by rw [Nat.div_lt_iff_lt_mul (by omega)]; omega
  generalize k / m = q at *
  generalize k % m = i at *
  subst hdm
  by_cases hi : i + 1 < m
  · have hlt4 : m * q + i + 1 < 4 * m := by
      have : m * q + m ≤ 4 * m := by rw [← Nat.mul_succ, Nat.mul_comm 4]; exact Nat.mul_le_mul_left _ (by omega)
      omega
    rw [Nat.mod_eq_of_lt hlt4, Nat.add_assoc, Nat.mul_add_div (by omega), Nat.mul_add_mod, Nat.div_eq_of_lt hi, Nat.mod_eq_of_lt hi]
    rfl
  · have him : i + 1 = m := by omega
    rw [him, uP_end hm]
    have e : m * q + i + 1 = m * (q + 1) := by rw [Nat.mul_succ]; omega
    rw [e]
    unfold dP
    by_cases hq : q < 3
    · have : m * (q + 1) < 4 * m := by rw [Nat.mul_comm 4]; exact Nat.mul_lt_mul_of_pos_left (by omega) (by omega)
      rw [Nat.mod_eq_of_lt this, Nat.mul_div_cancel_left _ (by omega), Nat.mul_mod_right, rotN_rot]
    · have : q = 3 := by omega
      subst this
      rw [show m * (3 + 1) = 4 * m by omega, Nat.mod_self, Nat.zero_div, Nat.zero_mod, rotN_rot, rotN4]
      rfl
def nD (h : Rat) (m i : Nat) : Rat := h * h * ((((uP m i).x + (uP m (i + 1)).x) * half) * (((uP m i).x + (uP m (i + 1)).x) * half) + (((uP m i).y + (uP m (i + 1)).y) * half) * (((uP m i).y + (uP m (i + 1)).y) * half))
theorem nrm_rot (j : Nat) (p q : PQ) : ((rotN j p).x + (rotN j q).x) * ((rotN j p).x + (rotN j q).x) + ((rotN j p).y + (rotN j q).y) * ((rotN j p).y + (rotN j q).y) = (p.x + q.x) * (p.x + q.x) + (p.y + q.y) * (p.y + q.y) := by
  induction j with
  | zero => rfl
  | succ j ih => rw [← ih]; simp only [rotN, PQ.rot]; grind
theorem far_mid (c : PQ) (h : Rat) (j : Nat) (m i : Nat) : ((dP c h j (uP m i)).mix (dP c h j (uP m (i + 1))) half).far c = nD h m i := by
  have e := nrm_rot j (uP m i) (uP m (i + 1))
  unfold nD dP
  generalize uP m i = p at *
  generalize uP m (i + 1) = q at *
  generalize rotN j p = p' at *
  generalize rotN j q = q' at *
  simp only [PQ.far, PQ.dot, PQ.sub, PQ.mix, PQ.add, PQ.scale, half] at *
  grind
def nearB (h : Rat) (m : Nat) (d : Rat) : Bool := decide (0 < d) && (List.range m).any fun i => decide (nD h m i < d * d)
theorem dP_sz {c : PQ} {h : Rat} {q m i : Nat} (hc : c.sz ≤ 1048576) (hh : sz h ≤ 1048576) (hm : 1 ≤ m) (hm2 : m ≤ 4096) (hi : i ≤ m) : (dP c h q (uP m i)).sz ≤ 4194304 := by
  have z1 := sz_uP hm hm2 hi
  have z2 := sz_rotN q (uP m i)
  have z3 := PQ.sz_scale (rotN q (uP m i)) h
  have z4 := PQ.sz_add c ((rotN q (uP m i)).scale h)
  unfold dP; omega
set_option maxHeartbeats 4000000 in
theorem dnear_pure (c : PR) (h d : Rat) (m : Nat) (hc : c.In 1048576) (hh : sz h ≤ 1048576) (hd : sz d ≤ 1048576) (hm : 1 ≤ m) (hm2 : m ≤ 4096) :
    Pure Tryz.prog 121 [pL (dL c.val h m 4), c.av, rA d] (.bool (nearB h m d)) := by
  have hs := rsignq d (by omega)
  have h2 := rmulq d d (by omega) (by omega)
  have zd := sz_mul d d
  have hhf := rof_pure 1 2 (by omega) (by omega) (by omega)
  rw [← half_eq] at hhf
  have zhf := sz_half
  have hcz := hc.sz
  obtain ⟨cc, hcc, c1, c2, c3, c4⟩ : ∃ cc, c.av = .agg cc ∧ cc.length = 6 ∧ cc.take 6 = cc ∧ cc.drop 6 = [] ∧ roL cc := ⟨_, rfl, rfl, rfl, rfl, by have := ro_pr c; unfold PR.av at this; simpa only [ro] using this⟩
  have hfar := fun p (hp : PQ.sz p ≤ 1073741824) => pfar_pure c (pc p) hc.mono (pc_in hp)
  simp only [pc_val] at hfar
  rw [hcc] at hfar ⊢
  obtain ⟨L, hL⟩ : ∃ L, L = dL c.val h m 4 := ⟨_, rfl⟩
  have hLl : L.length = 4 * m := by rw [hL, dL_len]
  have hLg : ∀ k, k < 4 * m → ∃ hk : k < L.length, L[k] = dP c.val h (k / m) (uP m (k % m)) := fun k hk => ⟨by omega, by subst hL; exact dL_get _ _ _ hm _ _ _⟩
  have hLn : ∀ k, k < m → ∃ hk : k + 1 < L.length, L[k + 1] = dP c.val h 0 (uP m (k + 1)) := fun k hk => ⟨by omega, by
    have h1 := dL_next c.val h m hm k (by omega)
    have h2 : (k + 1) % (4 * m) = k + 1 := Nat.mod_eq_of_lt (by omega)
    simp only [h2, Nat.div_eq_of_lt hk, Nat.mod_eq_of_lt hk] at h1
    subst hL; exact h1⟩
  rw [← hL]
  refine Pure.of_go mixed Tryz.func121 rfl (rs := [.tmp 6]) rfl (by kernel_rfl) (by simp -implicitDefEqProofs [go_sem]) ?_
  simp only [rA_rC] at hs h2 hhf
  rw [rA_rC]
  unfold pL
  simp -implicitDefEqProofs [go_sem, c1, c2]
  refine goC_pure _ hs (by simp -implicitDefEqProofs [go_sem, ro_rC]) ?_
  by_cases h0 : d ≤ 0
  · have : sgnQ d ≤ 0 := by
      have : ¬ 0 < sgnQ d := by rw [sgnQ_gt]; grind
      omega
    have hn : nearB h m d = false := by
      unfold nearB
      rw [decide_eq_false (by grind)]; rfl
    simp -implicitDefEqProofs [go_sem, this, hn]
  · have : ¬ sgnQ d ≤ 0 := by
      have : 0 < sgnQ d := by rw [sgnQ_gt]; grind
      omega
    have hn : nearB h m d = (List.range m).any fun i => decide (nD h m i < d * d) := by
      unfold nearB
      rw [decide_eq_true (by grind)]; rfl
    rw [hn]
    have hq4 : (((4 * m : Nat) : Int).tdiv 4) = (m : Int) := by rw [Int.tdiv_eq_ediv_of_nonneg (by omega)]; omega
    simp -implicitDefEqProofs [go_sem, this]
    refine goC_pure _ h2 (by simp -implicitDefEqProofs [go_sem, ro_rC]) ?_
    rw [← hLl] at hq4
    simp -implicitDefEqProofs [go_sem, hq4]
    have hmw : IntKind.i64.wrap (m : Int) = m := w64 (by omega)
    have a1 := (renL_ro (nm []) _ c4).symm
    have a2 := cloL_ro (n := 3) _ c4
    refine go_loopN 3 (α := {i : Nat // i ≤ m ∧ ∀ k, k < i → ¬ nD h m k < d * d}) (fun i => [(0, .sl 6 false (L.map pA)), (4, .ptr 0 0 0), (7, .ptr 2 0 0), (17, .int .i64 m), (18, .int .i64 i.1)])
      (fun i => [(0, .live 6 [.agg cc]), (2, .live 3 [.agg (rC (d * d))])]) (fun i => m - i.1) ⟨0, Nat.zero_le _, fun _ h => by omega⟩ [] (by simp) (fun _ _ _ _ h => h) (by omega) (by simp -implicitDefEqProofs [go_sem, hmw]) (by simp -implicitDefEqProofs [go_sem]; exact ⟨a1, a2⟩) fun ⟨i, hi, hno⟩ => ?_
    simp -implicitDefEqProofs [go_sem]
    refine ⟨fun h5 => ?_, fun h5 => ?_⟩
    · have es : IntKind.i64.wrap ((i : Int) + 1) = (i + 1 : Nat) := by rw [w64 (by omega)]; omega
      obtain ⟨k1, g1⟩ := hLg i (by omega)
      obtain ⟨k2, g2⟩ := hLn i h5
      rw [Nat.div_eq_of_lt h5, Nat.mod_eq_of_lt h5] at g1
      have e1 := getE_pA k1
      have e2 := getE_pA k2
      rw [g1] at e1
      rw [g2] at e2
      have z1 := dP_sz (q := 0) (i := i) hcz hh hm hm2 (by omega)
      have z2 := dP_sz (q := 0) (i := i + 1) hcz hh hm hm2 (by omega)
      have hmx := pmixq (dP c.val h 0 (uP m i)) (dP c.val h 0 (uP m (i + 1))) half (by omega) (by omega) (by omega)
      have z3 := PQ.sz_mix (dP c.val h 0 (uP m i)) (dP c.val h 0 (uP m (i + 1))) half
      have hf1 := hfar _ (by omega : ((dP c.val h 0 (uP m i)).mix (dP c.val h 0 (uP m (i + 1))) half).sz ≤ 1073741824)
      have zf := PQ.sz_far c.val ((dP c.val h 0 (uP m i)).mix (dP c.val h 0 (uP m (i + 1))) half)
      have hcm := rcmpq (c.val.far ((dP c.val h 0 (uP m i)).mix (dP c.val h 0 (uP m (i + 1))) half)) (d * d) (by omega) (by omega)
      rw [far_comm, far_mid] at hf1 hcm
      generalize (dP c.val h 0 (uP m i)).mix (dP c.val h 0 (uP m (i + 1))) half = mp at *
      generalize dP c.val h 0 (uP m i) = p1 at *
      generalize dP c.val h 0 (uP m (i + 1)) = p2 at *
      change Pure _ _ [_, pA _] _ at hf1
      simp only [pA_pC, rA_rC] at hmx hf1 hcm
      obtain ⟨i1, hi1⟩ : ∃ i1, i1 = i + 1 := ⟨_, rfl⟩
      rw [← hi1] at es e2 k2
      simp -implicitDefEqProofs [go_sem, e1, es, e2, c1, c2]
      refine ⟨by omega, by omega, goD_pure _ hhf (by simp -implicitDefEqProofs [go_sem]) ?_⟩
      simp -implicitDefEqProofs [go_sem]
      refine goD_pure _ hmx (by simp -implicitDefEqProofs [go_sem, ro_pC, ro_rC]) ?_
      simp -implicitDefEqProofs [go_sem]
      refine goD_pure _ hf1 (by simp -implicitDefEqProofs [go_sem, ro_pC, c4]) ?_
      simp -implicitDefEqProofs [go_sem]
      refine goD_pure _ hcm (by simp -implicitDefEqProofs [go_sem, ro_rC]) ?_
      by_cases hlt : nD h m i < d * d
      · have : cmpQ (nD h m i) (d * d) < 0 := by rw [cmpQ_lt]; exact hlt
        simp -implicitDefEqProofs [go_sem, this]
        exact ⟨i, h5, hlt⟩
      · have : ¬ cmpQ (nD h m i) (d * d) < 0 := by rw [cmpQ_lt]; exact hlt
        simp -implicitDefEqProofs [go_sem, this, es]
        refine go_again ⟨i1, by omega, fun k hk => ?_⟩ (by simp only; omega) [] (by simp) (fun _ _ _ _ h => h) (by simp) (by simp -implicitDefEqProofs [go_sem, es]) (by simp -implicitDefEqProofs [go_sem]; exact ⟨a1, a2⟩)
        rcases (by omega : k < i ∨ k = i) with h | h
        · exact hno k h
        · subst h; exact hlt
    · have him : i = m := by omega
      subst him
      exact fun k hk => hno k hk
def rndF (N : Nat → Bool) (D : Nat → List PQ) : Nat → Nat → List PQ × Int
  | 0, _ => ([], 24)
  | f + 1, e => if N e = true then rndF N D f (e + 1) else (D e, 0)
def rnd (c : PQ) (h tol : Rat) : List PQ × Int :=
  if h ≤ 0 ∨ tol ≤ 0 then ([], 1) else rndF (fun e => nearB h (2 ^ e) (h - tol)) (fun e => dL c h (2 ^ e) 4) 13 0
theorem pow13 {e : Nat} (he : e ≤ 13) : 2 ^ e ≤ 8192 := by
  have : 2 ^ e ≤ 2 ^ 13 := Nat.pow_le_pow_right (by omega) he
  omega
theorem pow12 {e : Nat} (he : e ≤ 13) : 2 ^ e ≤ 4096 ↔ e ≤ 12 := by
  constructor
  · intro h
    rcases (by omega : e ≤ 12 ∨ e = 13) with h1 | h1
    · exact h1
    · subst h1; simp at h
  · intro h
    have : 2 ^ e ≤ 2 ^ 12 := Nat.pow_le_pow_right (by omega) h
    omega
set_option maxHeartbeats 4000000 in
theorem dround_pure (c : PR) (h tol : RQ) (hc : c.In 1024) (hh : h.In 1024) (ht : tol.In 1024) :
    Pure Tryz.prog 60 [c.av, h.av, tol.av] (.tup [pL (rnd c.val h.val tol.val).1, .int .i64 (rnd c.val h.val tol.val).2]) := by
  have hs := rsign_pure h hh.sm.ok
  have hs2 := rsign_pure tol ht.sm.ok
  have zc := hc.sz; have zh := hh.sz; have zt := ht.sz
  have hsub := rsub_pure h tol hh.sm ht.sm
  have zs := sz_sub h.val tol.val
  have hdp := fun m (h0 : 0 < h.val) hm hm2 => dpoints_pure c h m hc.mono hh.mono h0 hm hm2
  have hnr := fun m hm hm2 => dnear_pure c h.val (h.val - tol.val) m hc.mono (by omega) (by omega) hm hm2
  obtain ⟨cc, hcc, c1, c2, c3, c4⟩ : ∃ cc, c.av = .agg cc ∧ cc.length = 6 ∧ cc.take 6 = cc ∧ cc.drop 6 = [] ∧ roL cc := ⟨_, rfl, rfl, rfl, rfl, by have := ro_pr c; unfold PR.av at this; simpa only [ro] using this⟩
  obtain ⟨ch, hch, d1, d2, d3, d4⟩ : ∃ ch, h.av = .agg ch ∧ ch.length = 3 ∧ ch.take 3 = ch ∧ ch.drop 3 = [] ∧ roL ch := ⟨_, rfl, rfl, rfl, rfl, rq_cs_ro h⟩
  obtain ⟨ct, hct, t1, t2, t3, t4⟩ : ∃ ct, tol.av = .agg ct ∧ ct.length = 3 ∧ ct.take 3 = ct ∧ ct.drop 3 = [] ∧ roL ct := ⟨_, rfl, rfl, rfl, rfl, rq_cs_ro tol⟩
  simp only [hcc, hch, hct] at hs hs2 hsub hdp hnr
  rw [hcc, hch, hct]
  refine Pure.of_ca (by simp only [ro, roL]; exact ⟨ro_pL _, trivial, trivial⟩) (CA.of_go mixed Tryz.func60 rfl (rs := [.tmp 6, .tmp 7]) rfl (by kernel_rfl) ?_)
  have wnil : ∀ e, Wk (.tup [.sl 0 true [], .int .i64 e]) (.tup [pL [], .int .i64 e]) := fun e => Wk.tup (.cons (Wk.nil 0 6 true) (WkL.refl _))
  simp -implicitDefEqProofs [go_sem, c1, c2, d1, d2, t1, t2]
  refine goC_pure _ hs (by simp -implicitDefEqProofs [go_sem, d4]) ?_
  by_cases n1 : h.val ≤ 0
  · have : sgnQ h.val ≤ 0 := by
      have : ¬ 0 < sgnQ h.val := by rw [sgnQ_gt]; grind
      omega
    have hr : rnd c.val h.val tol.val = ([], 1) := if_pos (.inl n1)
    rw [hr]
    simp -implicitDefEqProofs [go_sem, this]
    exact wnil 1
  · have p1 : ¬ sgnQ h.val ≤ 0 := by
      have : 0 < sgnQ h.val := by rw [sgnQ_gt]; grind
      omega
    simp -implicitDefEqProofs [go_sem, p1, t1, t2]
    refine goC_pure _ hs2 (by simp -implicitDefEqProofs [go_sem, t4]) ?_
    by_cases n2 : tol.val ≤ 0
    · have : sgnQ tol.val ≤ 0 := by
        have : ¬ 0 < sgnQ tol.val := by rw [sgnQ_gt]; grind
        omega
      have hr : rnd c.val h.val tol.val = ([], 1) := if_pos (.inr n2)
      rw [hr]
      simp -implicitDefEqProofs [go_sem, this]
      exact wnil 1
    · have p2 : ¬ sgnQ tol.val ≤ 0 := by
        have : 0 < sgnQ tol.val := by rw [sgnQ_gt]; grind
        omega
      have hr : rnd c.val h.val tol.val = _ := if_neg (fun hh => hh.elim n1 n2)
      obtain ⟨R, hR⟩ : ∃ R, R = rndF (fun e => nearB h.val (2 ^ e) (h.val - tol.val)) (fun e => dL c.val h.val (2 ^ e) 4) 13 0 := ⟨_, rfl⟩
      rw [hr, ← hR]
      simp -implicitDefEqProofs [go_sem, p2]
      have a1 := (renL_ro (nm []) _ c4).symm
      have a2 := cloL_ro (n := 3) _ c4
      have a3 := (renL_ro (nm []) _ d4).symm
      have a4 := cloL_ro (n := 3) _ d4
      have a5 := (renL_ro (nm []) _ t4).symm
      have a6 := cloL_ro (n := 3) _ t4
      have h0 : 0 < h.val := by grind
      refine go_loopN 3 (α := {e : Nat // e ≤ 13 ∧ R = rndF (fun e => nearB h.val (2 ^ e) (h.val - tol.val)) (fun e => dL c.val h.val (2 ^ e) 4) (13 - e) e})
        (fun e => [(3, .ptr 0 0 0), (4, .ptr 1 0 0), (5, .ptr 2 0 0), (8, .int .i64 (2 ^ e.1 : Nat))]) (fun e => [(0, .live 6 [.agg cc]), (1, .live 3 [.agg ch]), (2, .live 3 [.agg ct])]) (fun e => 13 - e.1) ⟨0, by omega, hR⟩ [] (by simp) (fun _ _ _ _ h => h) (by omega) (by simp -implicitDefEqProofs [go_sem]) (by simp -implicitDefEqProofs [go_sem]; exact ⟨⟨a1, a2⟩, ⟨a3, a4⟩, a5, a6⟩) fun ⟨e, he, hre⟩ => ?_
      simp only
      have hpw := pow13 he
      have hp12 := pow12 he
      have hp1 : 1 ≤ 2 ^ e := Nat.pow_pos (by omega)
      have e2 : IntKind.i64.wrap (((2 ^ e : Nat) : Int) * 2) = ((2 ^ (e + 1) : Nat) : Int) := by rw [w64 (by omega), Nat.pow_succ]; omega
      obtain ⟨m, hm⟩ : ∃ m, m = 2 ^ e := ⟨_, rfl⟩
      rw [← hm] at hpw hp12 hp1 e2 ⊢
      simp -implicitDefEqProofs [go_sem]
      refine ⟨fun h5 => ?_, fun h5 => ?_⟩
      · have he12 : e ≤ 12 := hp12.1 (by omega)
        have hd := hdp m h0 hp1 (by omega)
        have hn := hnr m hp1 (by omega)
        have hst : rndF (fun e => nearB h.val (2 ^ e) (h.val - tol.val)) (fun e => dL c.val h.val (2 ^ e) 4) (13 - e) e = if nearB h.val m (h.val - tol.val) = true then rndF (fun e => nearB h.val (2 ^ e) (h.val - tol.val)) (fun e => dL c.val h.val (2 ^ e) 4) (13 - (e + 1)) (e + 1) else (dL c.val h.val m 4, 0) := by
          rw [show 13 - e = (13 - (e + 1)) + 1 by omega]
          simp only [rndF]
          rw [← hm]
        have hro := roL_pA (dL c.val h.val m 4)
        rw [hst] at hre
        unfold pL at hd hn
        generalize nearB h.val m (h.val - tol.val) = nb at *
        simp only [rA_rC] at hsub hn
        simp -implicitDefEqProofs [go_sem, c1, c2, d1, d2]
        refine goC_pure _ hd (by simp -implicitDefEqProofs [go_sem, c4, d4]) ?_
        simp -implicitDefEqProofs [go_sem, c1, c2, d1, d2, t1, t2]
        refine goD_pure _ hsub (by simp -implicitDefEqProofs [go_sem, d4, t4]) ?_
        simp -implicitDefEqProofs [go_sem]
        refine goD_pure _ hn (by simp -implicitDefEqProofs [go_sem, c4, ro_rC]) ?_
        cases nb with
        | true =>
          rw [if_pos rfl] at hre
          simp -implicitDefEqProofs [go_sem]
          rw [e2]
          refine go_again ⟨e + 1, by omega, hre⟩ (by simp only; omega) [] (by simp) (fun _ _ _ _ h => h) (by simp) (by simp -implicitDefEqProofs [go_sem]) (by simp -implicitDefEqProofs [go_sem]; exact ⟨⟨a1, a2⟩, ⟨a3, a4⟩, a5, a6⟩)
        | false =>
          rw [if_neg (by simp)] at hre
          subst hre
          simp -implicitDefEqProofs [go_sem, pL]
          exact Wk.refl _
      · have he13 : e = 13 := by
          have : ¬ e ≤ 12 := fun h => by have := hp12.2 h; omega
          omega
        subst he13
        have hre : R = ([], 24) := hre
        subst hre
        simp -implicitDefEqProofs [go_sem]
        exact wnil 24
def LightD (c : PR) (h tol : RQ) : Prop := (c.x.sml 1 ∧ c.y.sml 1) ∧ h.sml 1 ∧ tol.sml 1 ∧ (h.val ≤ 0 ∨ tol.val ≤ 0 ∨ h.val ≤ tol.val * 400)
instance (c : PR) (h tol : RQ) : Decidable (LightD c h tol) := inferInstanceAs (Decidable (_ ∧ _))
set_option maxHeartbeats 4000000 in
theorem dlight_pure (c : PR) (h tol : RQ) (hh : h.Lm) (ht : tol.Lm) : Pure Tryz.prog 91 [c.av, h.av, tol.av] (.bool (decide (LightD c h tol))) := by
  have s1 := smallpt_pure c 1
  have s2 := small_q h 1
  have s3 := small_q tol 1
  change Pure _ _ _ (.bool (decide (h.sml 1))) at s2
  change Pure _ _ _ (.bool (decide (tol.sml 1))) at s3
  rw [show ((1 : Nat) : Int) = 1 from rfl] at s1 s2 s3
  obtain ⟨cc, hcc, c1, c2, c3, c4⟩ : ∃ cc, c.av = .agg cc ∧ cc.length = 6 ∧ cc.take 6 = cc ∧ cc.drop 6 = [] ∧ roL cc := ⟨_, rfl, rfl, rfl, rfl, by have := ro_pr c; unfold PR.av at this; simpa only [ro] using this⟩
  obtain ⟨ch, hch, d1, d2, d3, d4⟩ : ∃ ch, h.av = .agg ch ∧ ch.length = 3 ∧ ch.take 3 = ch ∧ ch.drop 3 = [] ∧ roL ch := ⟨_, rfl, rfl, rfl, rfl, rq_cs_ro h⟩
  obtain ⟨ct, hct, t1, t2, t3, t4⟩ : ∃ ct, tol.av = .agg ct ∧ ct.length = 3 ∧ ct.take 3 = ct ∧ ct.drop 3 = [] ∧ roL ct := ⟨_, rfl, rfl, rfl, rfl, rq_cs_ro tol⟩
  have f1 := fun (a : h.sml 1) => finr h (sml_in a hh).mono
  have f2 := fun (a : tol.sml 1) => finr tol (sml_in a ht).mono
  rw [hcc] at s1
  simp only [hch, hct] at s2 s3 f1 f2
  refine Pure.of_go mixed Tryz.func91 rfl (rs := [.tmp 6]) rfl (by kernel_rfl) (by simp -implicitDefEqProofs [go_sem]) ?_
  rw [hcc, hch, hct]
  simp -implicitDefEqProofs [go_sem, c1, c2, d1, d2, t1, t2]
  refine goC_pure _ s1 (by simp -implicitDefEqProofs [go_sem, c4]) ?_
  by_cases a1 : c.x.sml 1 ∧ c.y.sml 1
  · simp -implicitDefEqProofs [go_sem, a1, d1, d2]
    refine goC_pure _ s2 (by simp -implicitDefEqProofs [go_sem, d4]) ?_
    by_cases a2 : h.sml 1
    · simp -implicitDefEqProofs [go_sem, a2, t1, t2]
      refine goC_pure _ s3 (by simp -implicitDefEqProofs [go_sem, t4]) ?_
      by_cases a3 : tol.sml 1
      · have g1 := f1 a2
        have g2 := f2 a3
        have zh := (sml_in a2 hh).sz
        have zt := (sml_in a3 ht).sz
        have h1 := fsign_pure h.val
        have h2 := fsign_pure tol.val
        have h3 := fof_pure 400 1 (by omega) (by omega) (by omega)
        have z3 := sz_frac (p := 400) (q := 1) (by omega) (by omega) (by omega)
        rw [show ((400 : Int) : Rat) / ((1 : Int) : Rat) = 400 by grind] at h3 z3
        have h4 := fmul_pure tol.val 400 (by omega) (by omega)
        have z4 := sz_mul tol.val 400
        have h5 := fcmp_pure h.val (tol.val * 400) (by omega) (by omega)
        have hLD : LightD c h tol ↔ (h.val ≤ 0 ∨ tol.val ≤ 0 ∨ h.val ≤ tol.val * 400) := ⟨fun h => h.2.2.2, fun h => ⟨a1, a2, a3, h⟩⟩
        simp only [hLD]
        simp only [fA_fC] at *
        simp -implicitDefEqProofs [go_sem, a3, d1, d2, t1, t2]
        refine goD_pure _ g1 (by simp -implicitDefEqProofs [go_sem, d4]) ?_
        simp -implicitDefEqProofs [go_sem, t1, t2]
        refine goD_pure _ g2 (by simp -implicitDefEqProofs [go_sem, t4]) ?_
        simp -implicitDefEqProofs [go_sem]
        refine goD_pure _ h1 (by simp -implicitDefEqProofs [go_sem, ro_fC]) ?_
        by_cases b1 : h.val ≤ 0
        · have := sgnQ_le.2 b1
          simp -implicitDefEqProofs [go_sem, this, b1]
        · have : ¬ sgnQ h.val ≤ 0 := fun hh => b1 (sgnQ_le.1 hh)
          simp -implicitDefEqProofs [go_sem, this, b1]
          refine goD_pure _ h2 (by simp -implicitDefEqProofs [go_sem, ro_fC]) ?_
          by_cases b2 : tol.val ≤ 0
          · have := sgnQ_le.2 b2
            simp -implicitDefEqProofs [go_sem, this, b2]
          · have : ¬ sgnQ tol.val ≤ 0 := fun hh => b2 (sgnQ_le.1 hh)
            simp -implicitDefEqProofs [go_sem, this, b2]
            refine goD_pure _ h3 (by simp -implicitDefEqProofs [go_sem]) ?_
            simp -implicitDefEqProofs [go_sem]
            refine goD_pure _ h4 (by simp -implicitDefEqProofs [go_sem, ro_fC]) ?_
            simp -implicitDefEqProofs [go_sem]
            refine goD_pure _ h5 (by simp -implicitDefEqProofs [go_sem, ro_fC]) ?_
            by_cases b3 : h.val ≤ tol.val * 400
            · have := cmpQ_le.2 b3
              simp -implicitDefEqProofs [go_sem, this, b3]
            · have : ¬ cmpQ h.val (tol.val * 400) ≤ 0 := fun hh => b3 (cmpQ_le.1 hh)
              simp -implicitDefEqProofs [go_sem, this, b3]
      · have hLD : ¬ LightD c h tol := fun h => a3 h.2.2.1
        simp -implicitDefEqProofs [go_sem, a3, hLD]
    · have hLD : ¬ LightD c h tol := fun h => a2 h.2.1
      simp -implicitDefEqProofs [go_sem, a2, hLD]
  · have hLD : ¬ LightD c h tol := fun h => a1 h.1
    simp -implicitDefEqProofs [go_sem, a1, hLD]
end Go.Proofs.YtgiheamjhoiojaaGreat
