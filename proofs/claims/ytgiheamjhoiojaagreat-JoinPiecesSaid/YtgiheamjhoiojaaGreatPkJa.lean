import Derived.Test.YtgiheamjhoiojaaGreatPkOa
import Derived.Test.YtgiheamjhoiojaaGreatPkFb
import Derived.Test.YtgiheamjhoiojaaGreatPkEa
namespace Go.Proofs.YtgiheamjhoiojaaGreat
open Go Go.Proofs
set_option linter.unusedSimpArgs false
set_option linter.unusedVariables false
set_option maxRecDepth 20000
def frp (g : Nat) (R : List AV) : AV → AV
  | .ptr id idx off => if id = g ∧ idx = 0 then .rp (R.drop off) else .ptr id idx off
  | a => a
def frpB (g : Nat) (j : Nat) (b : BS) : BS := if j = g then .dead else b
theorem le_freezeP {ne : Nat} {t : Nat → AV} {f : Nat → BS} {n : Nat} (g sz : Nat) (cs R : List AV) (hg : f g = .live sz [.agg cs]) (hw : WkL cs R) :
    le ne ⟨t, f, n⟩ ⟨fun k => frp g R (t k), fun j => frpB g j (f j), n⟩ := by
  rintro c0 N a w ⟨c, rfl, hk, hfr, ht, hN, hd, hs, h0, hnn⟩
  obtain ⟨e, he, hesz, hnr, hreal⟩ := hk.live g sz _ hg
  let c' : Cx := { w := c.w, mu := upd c.mu g none, U := c.U, F := fun b => c.F b ∧ (e.real = true → b ≠ e.block) }
  have hkr : Kr c c' := ⟨Nat.le_refl _, fun b _ _ o v h => h, fun _ h => h, fun id _ => by
    by_cases hid : id = g
    · right; subst hid; exact upd_same _ _ _
    · left; exact upd_ne _ _ _ hid, fun b _ h => h.1⟩
  have hmu : ∀ id e', c'.mu id = some e' → id ≠ g ∧ c.mu id = some e' := fun id e' h => by
    by_cases hid : id = g
    · subst hid; rw [show c'.mu id = none from upd_same _ _ _] at h; cases h
    · rw [show c'.mu id = c.mu id from upd_ne _ _ _ hid] at h; exact ⟨hid, h⟩
  have hmu2 : ∀ id, id ≠ g → c'.mu id = c.mu id := fun id h => upd_ne _ _ _ h
  have key : ∀ (x : AV) (v : Value), Rv c x v → Rv c' (frp g R x) v := by
    intro x v h
    cases x with
    | ptr id idx off =>
      simp only [frp]
      split
      · rename_i hh
        obtain ⟨rfl, rfl⟩ := hh
        simp only [Rv] at h ⊢
        obtain ⟨hU, b, o, rfl, h5⟩ := h
        obtain ⟨hr, rfl, rfl⟩ := h5 e he
        obtain ⟨hre, _⟩ := hreal hr
        obtain ⟨v0, q1, q2, q3, q4, q5⟩ := hre.get 0 _ rfl
        obtain ⟨vs, rfl, g1, g2⟩ := agg_ov q1
        simp only [Value.cells, Nat.zero_mul, Nat.add_zero] at q5 ⊢
        have g3 : Rl c' R vs.toList := hw.1 c' _ (g2.keepR hkr)
        refine ⟨_, _, vs.toList.drop off, rfl, hk.lt he hr, fun hF => hF.2 hr rfl, fun u hu => g1 u (List.mem_of_mem_drop hu), ?_, ?_⟩
        · refine Rl.of_get (by simp [g3.length]) fun i x u hx hu => ?_
          rw [List.getElem?_drop] at hx hu
          obtain ⟨u', k1, k2⟩ := g3.get _ x hx
          rw [k1] at hu; injection hu with hu; subst hu; exact k2
        · intro k u hu
          rw [List.getElem?_drop] at hu
          have := q5 (off + k) u hu
          rwa [← Nat.add_assoc] at this
      · exact Rv.keepR hkr _ _ h
    | _ => exact Rv.keepR hkr _ _ h
  have hfresh : ∀ j, frpB g j (f j) = .fresh ↔ f j = .fresh := fun j => by
    unfold frpB
    split
    · rename_i h; subst h; rw [hg]; simp
    · rfl
  have hst : Stp c0 c' := by
    refine ⟨hs.os, hs.tape, hs.output, hs.size, hs.keep, hs.U, fun id h => ?_, fun id e' h hr => hs.new id e' (hmu id e' h).2 hr, fun b hb => ⟨fun h => (hs.F b hb).1 h.1, fun hn hF => ⟨(hs.F b hb).2 hn hF, fun hr hbe => ?_⟩⟩⟩
    · by_cases hid : id = g
      · subst hid; right; exact upd_same _ _ _
      · rw [hmu2 id hid]; exact hs.mu id h
    · subst hbe
      rcases hs.new g e he hr with h1 | ⟨j, e', hj, hr', hb'⟩
      · omega
      · exact hn j e' hj hr' hb'
  refine ⟨c', rfl, ?_, fun j => (hfresh j).trans (hfr j), fun k => key _ _ (ht k), hN, Marks.back (c := c) (c' := c') rfl (fun id e' h => ⟨id, (hmu id e' h).2⟩) hd, hst, h0, hnn⟩
  have hne : ∀ id b, frpB g id (f id) = b → b ≠ .dead → id ≠ g ∧ f id = b := fun id b h hb => by
    unfold frpB at h
    split at h
    · exact absurd h.symm hb
    · exact ⟨by assumption, h⟩
  constructor
  · intro id; exact (hk.used id).trans (not_congr (hfresh id)).symm
  · intro id h
    by_cases hid : id = g
    · subst hid; exact upd_same _ _ _
    · rw [hmu2 id hid]
      refine hk.none id ?_
      change frpB g id (f id) = .fresh ∨ frpB g id (f id) = .dead at h
      unfold frpB at h
      simpa only [if_neg hid] using h
  · intro id s m h
    obtain ⟨hid, hf⟩ := hne id _ h (by simp)
    obtain ⟨e2, he2, h1, h2, h3⟩ := hk.live id s m hf
    refine ⟨e2, by rw [hmu2 id hid]; exact he2, h1, h2, fun hr => ?_⟩
    obtain ⟨hre, htot, cs, ty, hh, hsz⟩ := h3 hr
    refine ⟨Re.of_get fun i x hi => ?_, htot, cs, ty, hh, hsz⟩
    obtain ⟨v, g1, g2⟩ := hre.get i x hi
    exact ⟨v, g1.keepR hkr, g2⟩
  · intro id o tt h
    obtain ⟨hid, hf⟩ := hne id _ h (by simp)
    obtain ⟨e2, oo, he2, h1, h2, h3, hS, h4, h5, h6⟩ := hk.obj id o tt hf
    exact ⟨e2, oo, by rw [hmu2 id hid]; exact he2, h1, h2, h3, hS, h4, fun k => (h5 k).keepR hkr, h6⟩
  · intro i j ei ej hi hj
    exact hk.inj i j ei ej (hmu i ei hi).2 (hmu j ej hj).2
  · intro id e2 h hr
    obtain ⟨hid, h2⟩ := hmu id e2 h
    exact ⟨hk.shut id e2 h2 hr, fun hre hb => hid (hk.inj id g e2 e h2 he hr hre hb)⟩
section
variable {P : Program} {z : Bool} {ne : Nat} {Q : AEx → St → Prop} {k : List Itm} {t : Nat → AV} {f : Nat → BS} {n : Nat}
theorem goD_wk {bq : Bool} {g : FuncId} {args args' : List AV} {d : Option Tmp} (r : AV) (hp : Pure P g args' r) (hw : WkL args args') (hro : roL args') (h : go P z ne Q k (putA t d r) f n) : goD P z ne Q bq g args d k t f n := by
  refine goD_cv r (fun f' hf' c vs h1 h3 => ?_) h
  have hcv : CV P g args' f r := .of_pure (by rw [viewL_ro f args' hro]; exact hp) (by rw [viewL_ro f args' hro]; exact hro) (fitsL_ro f args' hro) (.inl hro)
  exact hcv f' hf' c vs h1 (hw.1 c vs h3)
end
attribute [go_sem] frp frpB
theorem frz_cx {c : Cx} {f : Nat → BS} {n : Nat} (hk : HOk c f) (hfr : ∀ j, f j = .fresh ↔ n ≤ j) (g sz : Nat) (cs R : List AV) (hg : f g = .live sz [.agg cs]) (hw : WkL cs R) {v : Value} {off : Nat} (hv : Rv c (.ptr g 0 off) v) :
    ∃ c', c'.w = c.w ∧ HOk c' (fun j => frpB g j (f j)) ∧ Stp c c' ∧ Rv c' (.rp (R.drop off)) v := by
  have hle := le_freezeP (ne := n) (t := fun k => if k = 0 then .ptr g 0 off else .any) (n := n) g sz cs R hg hw
  have hU : ∀ j, c.U j → j < n := fun j hj => by
    rcases Nat.lt_or_ge j n with h | h
    · exact h
    · exact absurd ((hfr j).2 h) ((hk.used j).1 hj)
  obtain ⟨c2, k1, k2, k3, k4, k5, k6, k7, k8, k9⟩ := hle c 1 { tmps := #[v], defers := [] } c.w ⟨c, rfl, hk, hfr, fun k => by
    by_cases hk : k = 0
    · subst hk; simp; exact hv
    · simp only [if_neg hk, Rv], rfl, trivial, Stp.refl c, hU, Nat.le_refl _⟩
  refine ⟨c2, k1, k2, k7, ?_⟩
  have h := k4 0
  simp only [if_true, frp] at h
  simpa [frp] using h
section
variable {P : Program} {z : Bool} {ne : Nat} {Q : AEx → St → Prop} {k : List Itm} {t : Nat → AV} {f : Nat → BS} {n : Nat}
theorem goC_fpure {g : FuncId} {d : Option Tmp} (id sz : Nat) (cs R : List AV) (hid : f id = .live sz [.agg cs]) (hw : WkL cs R) (hR : roL R) (r : AV) (hp : Pure P g [.rp R] r) (h : go P z ne Q k (putA t d r) (fun j => frpB id j (f j)) n) : goC P z ne Q g [.ptr id 0 0] d k t f n := by
  have h1 : goC P z ne Q g [.rp R] d k t (fun j => frpB id j (f j)) n := goC_pure r hp (by simp only [roL, ro]; exact ⟨hR, trivial⟩) h
  intro c vs q1 q2 q3
  simp only [Rl] at q3
  obtain ⟨v, rest, rfl, hv, rfl⟩ := q3
  obtain ⟨c', e1, e2, e3, e4⟩ := frz_cx q1 q2 id sz cs R hid hw hv
  have hfresh : ∀ j, frpB id j (f j) = .fresh ↔ n ≤ j := fun j => by
    rw [← q2 j]
    unfold frpB
    split
    · rename_i h; subst h; rw [hid]; simp
    · rfl
  have := h1 c' [v] e2 hfresh (by simp only [Rl]; exact ⟨v, [], rfl, by simpa using e4, rfl⟩)
  rw [e1] at this
  exact this.mono fun v w' ⟨c2, r2, f2, n2, s1, s2, s3, s4, s5, s6, s7⟩ => ⟨c2, r2, f2, n2, s1, s2, s3, s4, e3.trans s5, s6, s7⟩
end
def MkT (P : Program) (g : FuncId) (args : List AV) (sz : Nat) (e0 : Int) (R : Nat → List AV → Prop) : Prop :=
  CA P g args (fun _ => .fresh) 0 fun r f1 _ => ∃ id k l, r = .tup [.own sz id 0 k, .int .i64 e0] ∧ f1 id = .live sz l ∧ roL l ∧ R k l
theorem mkt_call {P : Program} {g : FuncId} {args : List AV} {sz : Nat} {e0 : Int} {R : Nat → List AV → Prop} (h : MkT P g args sz e0 R) {c : Cx} {f : Nat → BS} (hk : HOk c f) {n0 : Nat} (hn : f n0 = .fresh) (hro : roL args) {vs : List Value} (hv : Rl c args vs) :
    CallTo P g vs.toArray c.w fun v w' => ∃ c' k l, R k l ∧ roL l ∧ c'.w = w' ∧ HOk c' (upd f n0 (.live sz l)) ∧ Rv c' (.tup [.own sz n0 0 k, .int .i64 e0]) v ∧ Stp c c' := by
  have hU0 : ¬ c.U n0 := fun hu => (hk.used n0).1 hu hn
  have hk0 : HOk (c.bare c.F) (fun _ => .fresh) := by
    constructor
    · intro id; simp [Cx.bare]
    · intro id _; rfl
    · intro id sz l h; cases h
    · intro id o t h; cases h
    · intro i j ei ej h; cases h
    · intro id e h; cases h
  have hl0 : Rl (c.bare c.F) args vs := Rl.ro (c := c) (c' := c.bare c.F) rfl (fun _ _ h => h) args vs hro hv
  refine (h (c.bare c.F) vs hk0 (fun _ => by simp) hl0).mono fun v w' ⟨c1, r, f1, n', q1, ⟨id, k, l, q2, q3, q3r, q4⟩, q5, q6, q7, _, _⟩ => ?_
  subst q2
  obtain ⟨e, he, p1, p2, p3⟩ := q5.live id sz l q3
  have hnew : e.real = true → c.w.heap.size ≤ e.block := fun hre => by
    rcases q7.new id e he hre with h1 | ⟨j, e', hj, _⟩
    · exact h1
    · cases hj
  have hsz : c.w.heap.size ≤ c1.w.heap.size := q7.size
  have hkeep : ∀ b, b < c.w.heap.size → c1.w.heap[b]? = c.w.heap[b]? := fun b hb => q7.keep b hb (fun _ _ he => by cases he)
  let c' : Cx := { w := c1.w, mu := upd c.mu n0 (some e), U := fun j => c.U j ∨ j = n0, F := fun b => (c.F b ∧ b < c.w.heap.size) ∨ (e.real = true ∧ b = e.block) }
  have hF : ∀ b, b < c1.w.heap.size → c'.F b → c1.F b := by
    intro b _ hb
    rcases hb with ⟨h1, h2⟩ | ⟨h1, h2⟩
    · exact (q7.F b h2).2 (fun _ _ he => by cases he) h1
    · rw [h2]; exact q5.shut id e he h1
  have hst : Stp c c' := by
    refine ⟨q7.os, q7.tape, q7.output, q7.size, fun b hb _ => hkeep b hb, fun _ h => .inl h, fun j hj => ?_, fun j e' hj hre => ?_, fun b hb => ⟨fun h => ?_, fun _ h => .inl ⟨h, hb⟩⟩⟩
    · exact .inl (upd_ne _ _ _ fun hh => hU0 (hh ▸ hj))
    · by_cases hjn : j = n0
      · subst hjn
        simp only [c', upd_same, Option.some.injEq] at hj
        subst hj; exact .inl (hnew hre)
      · simp only [c'] at hj
        rw [upd_ne _ _ _ hjn] at hj
        exact .inr ⟨j, e', hj, hre, rfl⟩
    · rcases h with h | ⟨h1, h2⟩
      · exact h.1
      · have := hnew h1; omega
  refine ⟨c', k, l, q4, q3r, q1, ?_, ?_, hst⟩
  · constructor
    · intro j
      by_cases hj : j = n0
      · subst hj; rw [upd_same]; exact ⟨fun _ => by simp, fun _ => .inr rfl⟩
      · rw [upd_ne _ _ _ hj]
        exact ⟨fun h => (hk.used j).1 (h.resolve_right hj), fun h => .inl ((hk.used j).2 h)⟩
    · intro j hj
      by_cases hji : j = n0
      · subst hji; rw [upd_same] at hj; simp at hj
      · rw [upd_ne _ _ _ hji] at hj
        simp only [c']; rw [upd_ne _ _ _ hji]; exact hk.none j hj
    · intro j sz' l2 hj
      by_cases hji : j = n0
      · subst hji; rw [upd_same] at hj; cases hj
        refine ⟨e, by simp only [c', upd_same], p1, p2, fun hre => ?_⟩
        obtain ⟨u1, u2⟩ := p3 hre
        exact ⟨Re.ro (c := c1) (c' := c') rfl hF _ _ _ _ q3r u1, u2⟩
      · rw [upd_ne _ _ _ hji] at hj
        obtain ⟨e', he', u1, u2, u3⟩ := hk.live j sz' l2 hj
        refine ⟨e', by simp only [c']; rw [upd_ne _ _ _ hji]; exact he', u1, u2, fun hre => ?_⟩
        obtain ⟨hre1, htot, cs, ty, hh, hsz'⟩ := u3 hre
        have hb := hkeep _ (hk.lt he' hre)
        refine ⟨Re.of_get fun i a hi => ?_, htot, cs, ty, by rw [← hh]; exact hb, hsz'⟩
        obtain ⟨v', x1, x2, x3, x4, x5⟩ := hre1.get i a hi
        exact ⟨v', x1.keep hst hk.shut, x2, x3, x4, x5.block hb⟩
    · intro j o t hj
      by_cases hji : j = n0
      · subst hji; rw [upd_same] at hj; cases hj
      · rw [upd_ne _ _ _ hji] at hj
        obtain ⟨e', oo, he', u1, u2, u3, uS, u4, u5, u6⟩ := hk.obj j o t hj
        exact ⟨e', oo, by simp only [c']; rw [upd_ne _ _ _ hji]; exact he', u1, u2, u3, uS, (hkeep _ (hk.lt he' u1)).trans u4, fun k => (u5 k).keep hst hk.shut, u6⟩
    · intro i j ei ej hi hj hri hrj hb
      simp only [c'] at hi hj
      by_cases hii : i = n0
      · by_cases hjj : j = n0
        · rw [hii, hjj]
        · rw [hii, upd_same] at hi
          rw [upd_ne _ _ _ hjj] at hj
          injection hi with hi; subst hi
          have := hnew hri; have := hk.lt hj hrj; omega
      · rw [upd_ne _ _ _ hii] at hi
        by_cases hjj : j = n0
        · rw [hjj, upd_same] at hj
          injection hj with hj; subst hj
          have := hnew hrj; have := hk.lt hi hri; omega
        · rw [upd_ne _ _ _ hjj] at hj
          exact hk.inj i j ei ej hi hj hri hrj hb
    · intro j e' hj hre
      simp only [c'] at hj
      by_cases hjj : j = n0
      · rw [hjj, upd_same] at hj
        injection hj with hj; subst hj
        exact .inr ⟨hre, rfl⟩
      · rw [upd_ne _ _ _ hjj] at hj
        exact .inl ⟨hk.shut j e' hj hre, hk.lt hj hre⟩
  · simp only [Rv, Rl] at q6 ⊢
    obtain ⟨us, y1, w1, rest, y2, ⟨x1, x2, x3⟩, y3⟩ := q6
    rw [he] at x2 x3
    exact ⟨us, y1, w1, rest, y2, ⟨.inr rfl, fun e' he' => by simp only [c', upd_same, Option.some.injEq] at he'; subst he'; exact p1, by simpa [c'] using x3⟩, y3⟩
theorem goC_fmk {P : Program} {z : Bool} {ne : Nat} {Q : AEx → St → Prop} {k : List Itm} {t : Nat → AV} {f : Nat → BS} {n : Nat} {g : FuncId} {d : Option Tmp} {sz : Nat} {e0 : Int} {R : Nat → List AV → Prop} (id sz0 : Nat) (cs Rc : List AV) (hid : f id = .live sz0 [.agg cs]) (hw : WkL cs Rc) (hR : roL Rc) (hp : MkT P g [.rp Rc] sz e0 R)
    (h : ∀ m l, R m l → go P z ne Q k (putA t d (.tup [.own sz n 0 m, .int .i64 e0])) (upd (fun j => frpB id j (f j)) n (.live sz l)) (n + 1)) : goC P z ne Q g [.ptr id 0 0] d k t f n := by
  intro c vs q1 q2 q3
  simp only [Rl] at q3
  obtain ⟨v, rest, rfl, hv, rfl⟩ := q3
  obtain ⟨c', e1, e2, e3, e4⟩ := frz_cx q1 q2 id sz0 cs Rc hid hw hv
  have hfresh : ∀ j, frpB id j (f j) = .fresh ↔ n ≤ j := fun j => by
    rw [← q2 j]
    unfold frpB
    split
    · rename_i h; subst h; rw [hid]; simp
    · rfl
  have := mkt_call hp e2 ((hfresh n).2 (Nat.le_refl _)) (by simp only [roL, ro]; exact ⟨hR, trivial⟩) (vs := [v]) (by simp only [Rl]; exact ⟨v, [], rfl, by simpa using e4, rfl⟩)
  rw [e1] at this
  refine this.mono fun v w' ⟨c2, m, l, hRR, hrl, s1, s2, s3, s4⟩ => ⟨c2, _, _, n + 1, s1, h m l hRR, s2, s3, e3.trans s4, by omega, fun j => ?_⟩
  by_cases hj : j = n
  · subst hj; rw [upd_same]; simp
  · rw [upd_ne _ _ _ hj, hfresh j]; omega
def atl (x g m : Rat) : Prop := if 0 < g then 0 ≤ x ∧ g * g * m ≤ x * x else 0 ≤ x ∨ x * x ≤ g * g * m
instance (x g m : Rat) : Decidable (atl x g m) := by unfold atl; split <;> infer_instance
def sharpQ (u v : PQ) (m : Rat) : Prop := u ≠ ⟨0, 0⟩ ∧ v ≠ ⟨0, 0⟩ ∧ 0 < m ∧ atl (u.dot v) (2 / (m * m) - 1) (u.dot u * v.dot v)
instance (u v : PQ) (m : Rat) : Decidable (sharpQ u v m) := inferInstanceAs (Decidable (_ ∧ _))
def sided (n : PQ) (left : Bool) : PQ := if left then n else n.neg
def facQ (s ou ov : PQ) (h : Rat) (k : Nat) : Option Rat :=
  let x := s.dot ou; let y := s.dot ov
  let r := lowQ (h * h * ou.dot ou / (x * x)) k; let t := lowQ (h * h * ov.dot ov / (y * y)) k
  if 0 < x then (if 0 < y then some (if t < r then t else r) else some r) else if 0 < y then some t else none
def tipQ (u v : PQ) (h tol : Rat) (left : Bool) (k : Nat) : Option (List PQ) :=
  let a := sided (offQ u h k) left; let b := sided (offQ v h k) left
  let ou := sided u.rot left; let ov := sided v.rot left
  if a = ⟨0, 0⟩ ∨ b = ⟨0, 0⟩ then none else
  match facQ (a.add b) ou ov h k with
  | none => none
  | some r => if r < half then none else
    let t := (a.add b).scale r
    if atl (a.dot ou) (h - tol) (ou.dot ou) ∧ atl (t.dot ou) (h - tol) (ou.dot ou) ∧ atl (b.dot ov) (h - tol) (ov.dot ov) ∧ atl (t.dot ov) (h - tol) (ov.dot ov) then some [a, t, b] else none
def tipK (u v : PQ) (h tol : Rat) (left : Bool) : Nat → Nat → Option (List PQ)
  | 0, _ => none
  | f + 1, k => match tipQ u v h tol left k with
    | some l => some l
    | none => tipK u v h tol left f (k + 1)
def cutJ (u v : PQ) (h tol : Rat) (left : Bool) : Option (List PQ) :=
  match fitQ u h tol, fitQ v h tol with
  | some a, some b => some [sided a.1 left, sided b.1 left]
  | _, _ => none
theorem atl_mono {x g g' M : Rat} (hM : 0 ≤ M) (hg : g' ≤ g) (h : atl x g M) : atl x g' M := by
  unfold atl at *
  split at h
  · obtain ⟨h1, h2⟩ := h
    split
    · refine ⟨h1, ?_⟩
      have := Rat.mul_nonneg (Rat.mul_nonneg (show 0 ≤ g - g' by grind) (show 0 ≤ g + g' by grind)) hM
      grind
    · exact .inl h1
  · rw [if_neg (by grind)]
    rcases h with h | h
    · exact .inl h
    · right
      have := Rat.mul_nonneg (Rat.mul_nonneg (show 0 ≤ g - g' by grind) (show 0 ≤ - (g + g') by grind)) hM
      grind
theorem atl_scale {x g M k : Rat} (hk : 0 < k) : atl (k * x) g (k * k * M) ↔ atl x g M := by
  have hk2 := Rat.mul_pos hk hk
  have e1 : 0 ≤ k * x ↔ 0 ≤ x := by
    constructor
    · intro h
      rcases (Rat.le_total : 0 ≤ x ∨ x ≤ 0) with h1 | h1
      · exact h1
      · rcases Classical.em (x = 0) with h2 | h2
        · grind
        · have := Rat.mul_pos hk (show 0 < -x by grind); grind
    · intro h; exact Rat.mul_nonneg (by grind) h
  have cancel : ∀ a b : Rat, k * k * a ≤ k * k * b ↔ a ≤ b := fun a b => by
    constructor
    · intro h
      rcases Classical.em (a ≤ b) with h1 | h1
      · exact h1
      · have := Rat.mul_pos hk2 (show 0 < a - b by grind); grind
    · intro h
      have := Rat.mul_nonneg (show 0 ≤ k * k by grind) (show 0 ≤ b - a by grind); grind
  have e2 : g * g * (k * k * M) ≤ k * x * (k * x) ↔ g * g * M ≤ x * x := by
    rw [show g * g * (k * k * M) = k * k * (g * g * M) by grind, show k * x * (k * x) = k * k * (x * x) by grind, cancel]
  have e3 : k * x * (k * x) ≤ g * g * (k * k * M) ↔ x * x ≤ g * g * M := by
    rw [show g * g * (k * k * M) = k * k * (g * g * M) by grind, show k * x * (k * x) = k * k * (x * x) by grind, cancel]
  unfold atl
  rw [e1, e2, e3]
theorem dot_nn' (p : PQ) : 0 ≤ p.dot p := by
  have h1 := sq_nn p.x; have h2 := sq_nn p.y
  unfold PQ.dot; grind
theorem inv_le {m k : Rat} (hm : 0 < m) (h : m ≤ k) : 2 / (k * k) ≤ 2 / (m * m) := by
  have h1 := Rat.mul_pos hm hm
  have h2 := Rat.mul_pos (show 0 < k by grind) (show 0 < k by grind)
  have e1 : 2 / (k * k) * (k * k) = 2 := by grind
  have e2 : 2 / (m * m) * (m * m) = 2 := by grind
  have hle : m * m ≤ k * k := by have := Rat.mul_nonneg (show 0 ≤ k - m by grind) (show 0 ≤ k + m by grind); grind
  generalize 2 / (k * k) = a at *
  generalize 2 / (m * m) = b at *
  generalize k * k = K at *
  generalize m * m = M at *
  rcases Classical.em (a ≤ b) with h | h
  · exact h
  · have hb : 0 < b := by
      rcases Classical.em (0 < b) with h | h
      · exact h
      · have := Rat.mul_nonneg (show 0 ≤ -b by grind) (show 0 ≤ M by grind); grind
    have := Rat.mul_pos (show 0 < a - b by grind) h2
    have := Rat.mul_nonneg (show 0 ≤ b by grind) (show 0 ≤ K - M by grind)
    grind
theorem sharp_mono {u v : PQ} {m k : Rat} (h : m ≤ k) (hs : sharpQ u v m) : sharpQ u v k := by
  obtain ⟨h1, h2, h3, h4⟩ := hs
  refine ⟨h1, h2, by grind, atl_mono (Rat.mul_nonneg (dot_nn' u) (dot_nn' v)) ?_ h4⟩
  have := inv_le h3 h
  grind
theorem scale_ne {u : PQ} {k : Rat} (hk : k ≠ 0) : u.scale k ≠ ⟨0, 0⟩ ↔ u ≠ ⟨0, 0⟩ := by
  refine not_congr ⟨fun h => ?_, fun h => by subst h; unfold PQ.scale; exact PQ.ext (by simp only; grind) (by simp only; grind)⟩
  unfold PQ.scale at h
  rw [PQ.mk.injEq] at h
  refine PQ.ext ?_ ?_
  · rcases Rat.mul_eq_zero.1 h.1 with h | h
    · exact h
    · exact absurd h hk
  · rcases Rat.mul_eq_zero.1 h.2 with h | h
    · exact h
    · exact absurd h hk
theorem sharp_scale {u v : PQ} {m k : Rat} (hk : 0 < k) : sharpQ (u.scale k) v m ↔ sharpQ u v m := by
  unfold sharpQ
  rw [scale_ne (by grind)]
  have e1 : (u.scale k).dot v = k * u.dot v := by unfold PQ.scale PQ.dot; simp only; grind
  have e2 : (u.scale k).dot (u.scale k) * v.dot v = k * k * (u.dot u * v.dot v) := by unfold PQ.scale PQ.dot; simp only; grind
  rw [e1, e2, atl_scale hk]
theorem sharp_comm {u v : PQ} {m : Rat} : sharpQ v u m ↔ sharpQ u v m := by
  unfold sharpQ
  have e1 : v.dot u = u.dot v := by unfold PQ.dot; grind
  have e2 : v.dot v * u.dot u = u.dot u * v.dot v := by grind
  rw [e1, e2]
  constructor <;> rintro ⟨a, b, c⟩ <;> exact ⟨b, a, c⟩
theorem sharp_self {u : PQ} {m : Rat} (hu : u ≠ ⟨0, 0⟩) : sharpQ u u m ↔ 1 ≤ m := by
  have hp := dot_pos hu
  unfold sharpQ
  constructor
  · rintro ⟨_, _, hm, ha⟩
    have h1 := Rat.mul_pos hm hm
    have e2 : 2 / (m * m) * (m * m) = 2 := by grind
    rcases Classical.em (1 ≤ m) with h | h
    · exact h
    · exfalso
      have hlt : m * m < 1 := by have := Rat.mul_pos (show 0 < 1 - m by grind) (show 0 < 1 + m by grind); grind
      generalize 2 / (m * m) = c at *
      generalize m * m = M at *
      have hc : 2 < c := by
        rcases Classical.em (2 < c) with h | h
        · exact h
        · have := Rat.mul_nonneg (show 0 ≤ 2 - c by grind) (show 0 ≤ M by grind); grind
      unfold atl at ha
      rw [if_pos (by grind)] at ha
      obtain ⟨_, ha⟩ := ha
      generalize u.dot u = d at *
      have := Rat.mul_pos (Rat.mul_pos (show 0 < c - 2 by grind) (show 0 < c by grind)) (Rat.mul_pos hp hp)
      grind
  · intro hm
    refine ⟨hu, hu, by grind, ?_⟩
    have h1 := Rat.mul_pos (show 0 < m by grind) (show 0 < m by grind)
    have e2 : 2 / (m * m) * (m * m) = 2 := by grind
    have hle : 1 ≤ m * m := by have := Rat.mul_nonneg (show 0 ≤ m - 1 by grind) (show 0 ≤ m + 1 by grind); grind
    generalize 2 / (m * m) = c at *
    generalize m * m = M at *
    have hc : c ≤ 2 := by
      rcases Classical.em (c ≤ 2) with h | h
      · exact h
      · have := Rat.mul_pos (show 0 < c - 2 by grind) (show 0 < M by grind); grind
    unfold atl
    generalize u.dot u = d at *
    split
    · refine ⟨by grind, ?_⟩
      have := Rat.mul_nonneg (Rat.mul_nonneg (show 0 ≤ 2 - c by grind) (show 0 ≤ c by grind)) (show 0 ≤ d * d by exact sq_nn d)
      grind
    · exact .inl (by grind)
theorem sharp_back {u : PQ} {m : Rat} (hu : u ≠ ⟨0, 0⟩) : ¬ sharpQ u (u.scale (-1)) m := by
  have hp := dot_pos hu
  rintro ⟨_, _, hm, ha⟩
  have e1 : u.dot (u.scale (-1)) = -u.dot u := by unfold PQ.scale PQ.dot; simp only; grind
  have e3 : (u.scale (-1)).dot (u.scale (-1)) = u.dot u := by unfold PQ.scale PQ.dot; simp only; grind
  rw [e1, e3] at ha
  have h1 := Rat.mul_pos hm hm
  have e2 : 2 / (m * m) * (m * m) = 2 := by grind
  generalize 2 / (m * m) = c at *
  generalize m * m = M at *
  have hc : 0 < c := by
    rcases Classical.em (0 < c) with h | h
    · exact h
    · have := Rat.mul_nonneg (show 0 ≤ -c by grind) (show 0 ≤ M by grind); grind
  unfold atl at ha
  generalize u.dot u = d at *
  split at ha
  · obtain ⟨ha, _⟩ := ha; grind
  · rename_i hn
    rcases ha with ha | ha
    · grind
    · have := Rat.mul_pos (Rat.mul_pos hc (show 0 < 2 - c by grind)) (Rat.mul_pos hp hp)
      grind
theorem sided_dot (n : PQ) (left : Bool) : (sided n left).dot (sided n left) = n.dot n := by
  cases left
  · unfold sided PQ.neg PQ.dot; grind
  · rfl
theorem jnought_pure (p : PR) (hp : p.In 17179869184) : Pure Tryz.prog 92 [p.av] (.bool (decide (p.val = ⟨0, 0⟩))) := by
  have h := psamez p hp
  unfold pZ at h
  rw [PR.av_cs] at *
  have hc : p.cs.length = 6 := rfl
  have hr := p.ro_cs
  have hc2 : p.cs.take 6 = p.cs := rfl
  have hc3 : p.cs.drop 6 = [] := rfl
  generalize p.cs = cs at *
  refine Pure.of_go mixed Tryz.func92 rfl (rs := [.tmp 2]) rfl (by kernel_rfl) (by simp -implicitDefEqProofs [go_sem]) ?_
  simp -implicitDefEqProofs [go_sem, hc, hc2, hc3]
  refine goC_pure _ h (by simp -implicitDefEqProofs [go_sem, hr]) ?_
  simp -implicitDefEqProofs [go_sem]
theorem jnoughtq (p : PQ) (hp : p.sz ≤ 17179869184) : Pure Tryz.prog 92 [pA p] (.bool (decide (p = ⟨0, 0⟩))) := by
  have := jnought_pure (pc p) (pc_in hp)
  rw [pc_val] at this
  exact this
theorem jsquare_pure (a : RQ) (ha : a.In 17179869184) : Pure Tryz.prog 104 [a.av] (rA (a.val * a.val)) := by
  have h := rmul_pure a a ha.sm ha.sm
  generalize a.val * a.val = r at *
  rw [rA_rC] at *
  unfold RQ.av at *
  refine Pure.of_go mixed Tryz.func104 rfl (rs := [.cell 2 26]) rfl (by kernel_rfl) (by simp -implicitDefEqProofs [go_sem, ro_rC]) ?_
  simp -implicitDefEqProofs [go_sem]
  refine goC_pure _ h (by simp -implicitDefEqProofs [go_sem]) ?_
  simp -implicitDefEqProofs [go_sem, rop]
theorem jsquareq (a : Rat) (ha : sz a ≤ 17179869184) : Pure Tryz.prog 104 [rA a] (rA (a * a)) := by
  have := jsquare_pure (qc a) (qc_in ha)
  rw [qc_val] at this
  exact this
theorem atleast_pure (x g m : Rat) (hx : sz x ≤ 1073741824) (hg : sz g ≤ 1073741824) (hm : sz m ≤ 1073741824) : Pure Tryz.prog 105 [rA x, rA g, rA m] (.bool (decide (atl x g m))) := by
  have h1 := jsquareq x (by omega)
  have h2 := jsquareq g (by omega)
  have s1 := sz_mul x x
  have s2 := sz_mul g g
  have h3 := rmulq (g * g) m (by omega) (by omega)
  have s3 := sz_mul (g * g) m
  have h4 := rsignq g (by omega)
  have h5 := rsignq x (by omega)
  have h6 := rcmpq (x * x) (g * g * m) (by omega) (by omega)
  have z4 := sgnQ_gt (x := g)
  have z5 := sgnQ_ge (x := x)
  have z6 := cmpQ_ge (x := x * x) (y := g * g * m)
  have z7 := cmpQ_le (x := x * x) (y := g * g * m)
  obtain ⟨B, hB⟩ : ∃ B : Bool, B = decide (atl x g m) := ⟨_, rfl⟩
  have hen : B = true ↔ (if 0 < g then 0 ≤ x ∧ g * g * m ≤ x * x else 0 ≤ x ∨ x * x ≤ g * g * m) := by rw [hB, decide_eq_true_iff]; exact Iff.rfl
  rw [← hB]
  clear hB
  generalize cmpQ (x * x) (g * g * m) = cm at *
  generalize x * x = xx at *
  generalize g * g * m = gm at *
  generalize g * g = gg at *
  generalize sgnQ g = sn at *
  generalize sgnQ x = sx at *
  simp only [rA_rC] at *
  refine Pure.of_go mixed Tryz.func105 rfl (rs := [.tmp 6]) rfl (by kernel_rfl) (by simp -implicitDefEqProofs [go_sem]) ?_
  simp -implicitDefEqProofs [go_sem]
  refine goD_pure _ h1 (by simp -implicitDefEqProofs [go_sem, ro_rC]) ?_
  simp -implicitDefEqProofs [go_sem]
  refine goD_pure _ h2 (by simp -implicitDefEqProofs [go_sem, ro_rC]) ?_
  simp -implicitDefEqProofs [go_sem]
  refine goD_pure _ h3 (by simp -implicitDefEqProofs [go_sem, ro_rC]) ?_
  simp -implicitDefEqProofs [go_sem]
  refine goC_pure _ h4 (by simp -implicitDefEqProofs [go_sem, ro_rC]) ?_
  by_cases c1 : 0 < g
  · rw [if_pos c1] at hen
    simp -implicitDefEqProofs [go_sem, z4.2 c1]
    refine goC_pure _ h5 (by simp -implicitDefEqProofs [go_sem, ro_rC]) ?_
    by_cases c2 : 0 ≤ x
    · simp -implicitDefEqProofs [go_sem, z5.2 c2]
      refine goC_pure _ h6 (by simp -implicitDefEqProofs [go_sem, ro_rC]) ?_
      by_cases c3 : gm ≤ xx
      · have hb := hen.2 ⟨c2, c3⟩
        subst hb
        simp -implicitDefEqProofs [go_sem, z6.2 c3]
      · have hb : B = false := Bool.eq_false_iff.2 fun hh => c3 (hen.1 hh).2
        have c3' : ¬ 0 ≤ cm := fun hh => c3 (z6.1 hh)
        subst hb
        simp -implicitDefEqProofs [go_sem, c3']
    · have hb : B = false := Bool.eq_false_iff.2 fun hh => c2 (hen.1 hh).1
      have c2' : ¬ 0 ≤ sx := fun hh => c2 (z5.1 hh)
      subst hb
      simp -implicitDefEqProofs [go_sem, c2']
  · rw [if_neg c1] at hen
    have c1' : ¬ 0 < sn := fun hh => c1 (z4.1 hh)
    simp -implicitDefEqProofs [go_sem, c1']
    refine goC_pure _ h5 (by simp -implicitDefEqProofs [go_sem, ro_rC]) ?_
    by_cases c2 : 0 ≤ x
    · have hb := hen.2 (.inl c2)
      subst hb
      simp -implicitDefEqProofs [go_sem, z5.2 c2]
    · have c2' : ¬ 0 ≤ sx := fun hh => c2 (z5.1 hh)
      simp -implicitDefEqProofs [go_sem, c2']
      refine goC_pure _ h6 (by simp -implicitDefEqProofs [go_sem, ro_rC]) ?_
      by_cases c3 : xx ≤ gm
      · have hb := hen.2 (.inr c3)
        subst hb
        simp -implicitDefEqProofs [go_sem, z7.2 c3]
      · have hb : B = false := Bool.eq_false_iff.2 fun hh => (hen.1 hh).elim c2 c3
        have c3' : ¬ cm ≤ 0 := fun hh => c3 (z7.1 hh)
        subst hb
        simp -implicitDefEqProofs [go_sem, c3']
theorem sharp_pure (u v : PR) (m : RQ) (hu : u.In 1000) (hv : v.In 1000) (hm : m.In 1000) : Pure Tryz.prog 44 [u.av, v.av, m.av] (.bool (decide (sharpQ u.val v.val m.val))) := by
  have zu := hu.sz
  have zv := hv.sz
  have zm := hm.sz
  have g1 := jnought_pure u hu.mono
  have g2 := jnought_pure v hv.mono
  have g3 := rsign_pure m hm.sm.ok
  have z3 := sgnQ_le (x := m.val)
  have k1 := rof_pure 2 1 (by omega) (by omega) (by omega)
  have y1 := sz_frac (p := 2) (q := 1) (by omega) (by omega) (by omega)
  rw [show ((2 : Int) : Rat) / ((1 : Int) : Rat) = 2 by grind] at k1 y1
  have k2 := jsquare_pure m hm.mono
  have y2 := sz_mul m.val m.val
  have k3 := fun (h : 0 < m.val) => rdivq 2 (m.val * m.val) (by omega) (by omega) (by have := Rat.mul_pos h h; grind)
  have y3 := sz_div 2 (m.val * m.val)
  have k4 := pdot_pure u v hu.mono hv.mono
  have y4 := PQ.sz_dot u.val v.val
  have k5 := rof_pure 1 1 (by omega) (by omega) (by omega)
  rw [show ((1 : Int) : Rat) / ((1 : Int) : Rat) = 1 by grind] at k5
  have y5 := sz_one
  have k6 := rsubq (2 / (m.val * m.val)) 1 (by omega) (by omega)
  have y6 := sz_sub (2 / (m.val * m.val)) 1
  have k7 := pdot_pure u u hu.mono hu.mono
  have y7 := PQ.sz_dot u.val u.val
  have k8 := pdot_pure v v hv.mono hv.mono
  have y8 := PQ.sz_dot v.val v.val
  have k9 := rmulq (u.val.dot u.val) (v.val.dot v.val) (by omega) (by omega)
  have y9 := sz_mul (u.val.dot u.val) (v.val.dot v.val)
  have k10 := atleast_pure (u.val.dot v.val) (2 / (m.val * m.val) - 1) (u.val.dot u.val * v.val.dot v.val) (by omega) (by omega) (by omega)
  obtain ⟨B, hB⟩ : ∃ B : Bool, B = decide (sharpQ u.val v.val m.val) := ⟨_, rfl⟩
  have hen : B = true ↔ (u.val ≠ ⟨0, 0⟩ ∧ v.val ≠ ⟨0, 0⟩ ∧ 0 < m.val ∧ atl (u.val.dot v.val) (2 / (m.val * m.val) - 1) (u.val.dot u.val * v.val.dot v.val)) := by rw [hB, decide_eq_true_iff]; exact Iff.rfl
  rw [← hB]
  clear hB
  generalize sgnQ m.val = sm at *
  have c1 : u.cs.length = 6 := rfl
  have c2 : u.cs.take 6 = u.cs := rfl
  have c3 : u.cs.drop 6 = [] := rfl
  have c4 := u.ro_cs
  have d1 : v.cs.length = 6 := rfl
  have d2 : v.cs.take 6 = v.cs := rfl
  have d3 : v.cs.drop 6 = [] := rfl
  have d4 := v.ro_cs
  obtain ⟨ct, hct, t1, t2, t3, t4⟩ : ∃ ct, m.av = .agg ct ∧ ct.length = 3 ∧ ct.take 3 = ct ∧ ct.drop 3 = [] ∧ roL ct := ⟨_, rfl, rfl, rfl, rfl, rq_cs_ro m⟩
  simp only [PR.av_cs, rA_rC] at *
  rw [hct] at g3 k2 ⊢
  refine Pure.of_go mixed Tryz.func44 rfl (rs := [.tmp 6]) rfl (by kernel_rfl) (by simp -implicitDefEqProofs [go_sem]) ?_
  simp -implicitDefEqProofs [go_sem, c1, c2, c3, d1, d2, d3, t1, t2, t3]
  refine goC_pure _ g1 (by simp -implicitDefEqProofs [go_sem, c4]) ?_
  by_cases a1 : u.val = ⟨0, 0⟩
  · have hb : B = false := Bool.eq_false_iff.2 fun hh => (hen.1 hh).1 a1
    subst hb
    simp -implicitDefEqProofs [go_sem, a1]
  · simp -implicitDefEqProofs [go_sem, a1, c1, c2, c3, d1, d2, d3, t1, t2, t3]
    refine goC_pure _ g2 (by simp -implicitDefEqProofs [go_sem, d4]) ?_
    by_cases a2 : v.val = ⟨0, 0⟩
    · have hb : B = false := Bool.eq_false_iff.2 fun hh => (hen.1 hh).2.1 a2
      subst hb
      simp -implicitDefEqProofs [go_sem, a2]
    · simp -implicitDefEqProofs [go_sem, a2, c1, c2, c3, d1, d2, d3, t1, t2, t3]
      refine goC_pure _ g3 (by simp -implicitDefEqProofs [go_sem, t4]) ?_
      by_cases a3 : m.val ≤ 0
      · have hb : B = false := Bool.eq_false_iff.2 fun hh => absurd (hen.1 hh).2.2.1 (by grind)
        subst hb
        simp -implicitDefEqProofs [go_sem, z3.2 a3]
      · have a3' : ¬ sm ≤ 0 := fun hh => a3 (z3.1 hh)
        have k3' := k3 (by grind)
        have hb : B = decide (atl (u.val.dot v.val) (2 / (m.val * m.val) - 1) (u.val.dot u.val * v.val.dot v.val)) := by
          rw [Bool.eq_iff_iff, decide_eq_true_iff]
          exact ⟨fun hh => (hen.1 hh).2.2.2, fun hh => hen.2 ⟨a1, a2, by grind, hh⟩⟩
        rw [← hb] at k10
        generalize u.val.dot u.val * v.val.dot v.val = w1 at *
        generalize u.val.dot u.val = w2 at *
        generalize v.val.dot v.val = w3 at *
        generalize u.val.dot v.val = w4 at *
        generalize 2 / (m.val * m.val) - 1 = w5 at *
        generalize 2 / (m.val * m.val) = w6 at *
        generalize m.val * m.val = w7 at *
        simp -implicitDefEqProofs [go_sem, a3', c1, c2, c3, d1, d2, d3, t1, t2, t3]
        refine goD_pure _ k1 (by simp -implicitDefEqProofs [go_sem]) ?_
        simp -implicitDefEqProofs [go_sem, c1, c2, c3, d1, d2, d3, t1, t2, t3]
        refine goD_pure _ k2 (by simp -implicitDefEqProofs [go_sem, t4]) ?_
        simp -implicitDefEqProofs [go_sem, c1, c2, c3, d1, d2, d3, t1, t2, t3]
        refine goD_pure _ k3' (by simp -implicitDefEqProofs [go_sem, ro_rC]) ?_
        simp -implicitDefEqProofs [go_sem, c1, c2, c3, d1, d2, d3, t1, t2, t3]
        refine goD_pure _ k4 (by simp -implicitDefEqProofs [go_sem, c4, d4]) ?_
        simp -implicitDefEqProofs [go_sem, c1, c2, c3, d1, d2, d3, t1, t2, t3]
        refine goD_pure _ k5 (by simp -implicitDefEqProofs [go_sem]) ?_
        simp -implicitDefEqProofs [go_sem, c1, c2, c3, d1, d2, d3, t1, t2, t3]
        refine goD_pure _ k6 (by simp -implicitDefEqProofs [go_sem, ro_rC]) ?_
        simp -implicitDefEqProofs [go_sem, c1, c2, c3, d1, d2, d3, t1, t2, t3]
        refine goD_pure _ k7 (by simp -implicitDefEqProofs [go_sem, c4]) ?_
        simp -implicitDefEqProofs [go_sem, c1, c2, c3, d1, d2, d3, t1, t2, t3]
        refine goD_pure _ k8 (by simp -implicitDefEqProofs [go_sem, d4]) ?_
        simp -implicitDefEqProofs [go_sem, c1, c2, c3, d1, d2, d3, t1, t2, t3]
        refine goD_pure _ k9 (by simp -implicitDefEqProofs [go_sem, ro_rC]) ?_
        simp -implicitDefEqProofs [go_sem]
        refine goD_pure _ k10 (by simp -implicitDefEqProofs [go_sem, ro_rC]) ?_
        simp -implicitDefEqProofs [go_sem]
theorem same_pure (p : PQ) : Pure Tryz.prog 154 [pA p] (pA p) := by
  rw [pA_pC]
  refine Pure.of_go mixed Tryz.func154 rfl (rs := [.cell 2 28]) rfl (by kernel_rfl) (by simp -implicitDefEqProofs [go_sem, ro_pC]) ?_
  simp -implicitDefEqProofs [go_sem, rop]
theorem PQ.sz_neg (p : PQ) : p.neg.sz = p.sz := by
  unfold PQ.neg PQ.sz; simp only [Go.Proofs.YtgiheamjhoiojaaGreat.sz_neg]
theorem round_pure (p : PQ) (hp : p.sz ≤ 4294967296) : Pure Tryz.prog 155 [.any, pA p] (pA p.neg) := by
  have h := psub_pure prZ (pc p) prZ_in (pc_in (by omega))
  rw [prZ_val, pc_val] at h
  have e : PQ.sub ⟨0, 0⟩ p = p.neg := PQ.ext (by unfold PQ.sub PQ.neg; simp only; grind) (by unfold PQ.sub PQ.neg; simp only; grind)
  rw [e] at h
  have h2 : Pure Tryz.prog 26 [pZ, pA p] (pA p.neg) := h.args (.cons pZ_wk (.cons (Wk.refl _) .nil))
  unfold pZ at h2
  simp only [pA_pC] at *
  refine Pure.of_go mixed Tryz.func155 rfl (rs := [.cell 4 28]) rfl (by kernel_rfl) (by simp -implicitDefEqProofs [go_sem, ro_pC]) ?_
  simp -implicitDefEqProofs [go_sem]
  refine goC_pure _ h2 (by simp -implicitDefEqProofs [go_sem, ro_pC]) ?_
  simp -implicitDefEqProofs [go_sem, rop]
def cornL (u v : PR) (ou ov : PQ) (h : Rat) (tol : RQ) (x : AV) : List AV :=
  [.bool u.x.neg, nA u.x.p, nA u.x.q, .bool u.y.neg, nA u.y.p, nA u.y.q, .bool v.x.neg, nA v.x.p, nA v.x.q, .bool v.y.neg, nA v.y.p, nA v.y.q,
   .bool (qc ou.x).neg, nA (qc ou.x).p, nA (qc ou.x).q, .bool (qc ou.y).neg, nA (qc ou.y).p, nA (qc ou.y).q, .bool (qc ov.x).neg, nA (qc ov.x).p, nA (qc ov.x).q, .bool (qc ov.y).neg, nA (qc ov.y).p, nA (qc ov.y).q,
   .bool (qc h).neg, nA (qc h).p, nA (qc h).q, .bool tol.neg, nA tol.p, nA tol.q, x]
theorem ro_cornL (u v : PR) (ou ov : PQ) (h : Rat) (tol : RQ) (x : AV) (hx : ro x) : roL (cornL u v ou ov h tol x) := by
  unfold cornL; simp -implicitDefEqProofs [go_sem, hx]
theorem far_pure (u v : PR) (ou ov : PQ) (h : Rat) (tol : RQ) (x : AV) (p o : PQ) (hp : p.sz ≤ 1048576) (ho : o.sz ≤ 1048576) (hh : sz h ≤ 1048576) (ht : tol.In 1048576) :
    Pure Tryz.prog 158 [.rp (cornL u v ou ov h tol x), pA p, pA o] (.bool (decide (atl (p.dot o) (h - tol.val) (o.dot o)))) := by
  have zt := ht.sz
  have k1 := pdotq p o (by omega) (by omega)
  have y1 := PQ.sz_dot p o
  have k2 := rsub_pure (qc h) tol (qc_sm (by omega)) ht.sm
  rw [qc_val] at k2
  have y2 := sz_sub h tol.val
  have k3 := pdotq o o (by omega) (by omega)
  have y3 := PQ.sz_dot o o
  have k4 := atleast_pure (p.dot o) (h - tol.val) (o.dot o) (by omega) (by omega) (by omega)
  generalize decide (atl (p.dot o) (h - tol.val) (o.dot o)) = B at *
  generalize h - tol.val = w1 at *
  generalize p.dot o = w2 at *
  generalize o.dot o = w3 at *
  simp only [pA_pC, rA_rC] at *
  unfold RQ.av at k2
  unfold cornL
  refine Pure.of_go mixed Tryz.func158 rfl (rs := [.tmp 6]) rfl (by kernel_rfl) (by simp -implicitDefEqProofs [go_sem]) ?_
  simp -implicitDefEqProofs [go_sem]
  refine goD_pure _ k1 (by simp -implicitDefEqProofs [go_sem, ro_pC]) ?_
  simp -implicitDefEqProofs [go_sem]
  refine goD_pure _ k2 (by simp -implicitDefEqProofs [go_sem]) ?_
  simp -implicitDefEqProofs [go_sem]
  refine goD_pure _ k3 (by simp -implicitDefEqProofs [go_sem, ro_pC]) ?_
  simp -implicitDefEqProofs [go_sem]
  refine goD_pure _ k4 (by simp -implicitDefEqProofs [go_sem, ro_rC]) ?_
  simp -implicitDefEqProofs [go_sem]
def facA (o : Option Rat) : AV := match o with
  | some r => .tup [rA r, .bool true]
  | none => .tup [rZ, .bool false]
def facC (o : Option Rat) : List AV := match o with
  | some r => rC r
  | none => [.bool false, .sl 0 true [], .sl 0 true []]
theorem ro_facC (o : Option Rat) : roL (facC o) := by
  cases o
  · unfold facC; simp -implicitDefEqProofs [go_sem]
  · exact ro_rC _
theorem ro_facA (o : Option Rat) : ro (facA o) := by
  cases o
  · unfold facA rZ; simp -implicitDefEqProofs [go_sem]
  · unfold facA; simp -implicitDefEqProofs [go_sem, ro_rA]
theorem facC_len (o : Option Rat) : (facC o).length = 3 := by cases o <;> rfl
theorem facC_take (o : Option Rat) : (facC o).take 3 = facC o := by cases o <;> rfl
theorem facC_drop (o : Option Rat) : (facC o).drop 3 = [] := by cases o <;> rfl
theorem facA_C (o : Option Rat) : facA o = .tup [.agg (facC o), .bool o.isSome] := by
  cases o <;> rfl
def facR (s o : PQ) (h : Rat) (k : Nat) : Rat := lowQ (h * h * o.dot o / (s.dot o * s.dot o)) k
def facI (s ou ov : PQ) (h : Rat) (k : Nat) : Nat → Option Rat
  | 0 => none
  | 1 => if 0 < s.dot ou then some (facR s ou h k) else none
  | _ => facQ s ou ov h k
theorem facQ_eq (s ou ov : PQ) (h : Rat) (k : Nat) : facQ s ou ov h k = if 0 < s.dot ov then (match facI s ou ov h k 1 with
    | some r => some (if facR s ov h k < r then facR s ov h k else r)
    | none => some (facR s ov h k)) else facI s ou ov h k 1 := by
  unfold facQ facI facR
  simp only
  by_cases h1 : 0 < s.dot ou <;> by_cases h2 : 0 < s.dot ov <;> simp [h1, h2]
theorem facq_nn (s o : PQ) (h : Rat) : 0 ≤ h * h * o.dot o / (s.dot o * s.dot o) := by
  rw [Rat.div_def]
  have h1 := Rat.mul_nonneg (sq_nn h) (PQ.dot_nn o)
  rcases Classical.em (s.dot o * s.dot o = 0) with e | e
  · rw [e, Rat.inv_zero, Rat.mul_zero]; exact Rat.le_refl
  · have := sq_nn (s.dot o)
    exact Rat.mul_nonneg h1 (Rat.le_of_lt (Rat.inv_pos.2 (by grind)))
structure FacW (s o : PQ) (h : Rat) (k : Nat) : Prop where
  k1 : Pure Tryz.prog 33 [.agg (pC s), .agg (pC o)] (.agg (rC (s.dot o)))
  k2 : Pure Tryz.prog 32 [.agg (rC (s.dot o))] (.int .i64 (sgnQ (s.dot o)))
  k3 : Pure Tryz.prog 33 [.agg (pC o), .agg (pC o)] (.agg (rC (o.dot o)))
  k4 : Pure Tryz.prog 27 [.agg (rC (h * h)), .agg (rC (o.dot o))] (.agg (rC (h * h * o.dot o)))
  k5 : Pure Tryz.prog 104 [.agg (rC (s.dot o))] (.agg (rC (s.dot o * s.dot o)))
  k6 : 0 < s.dot o → Pure Tryz.prog 103 [.agg (rC (h * h * o.dot o)), .agg (rC (s.dot o * s.dot o))] (.tup [.agg (rC (h * h * o.dot o / (s.dot o * s.dot o))), .int .i64 0])
  k7 : Pure Tryz.prog 176 [.agg (rC (h * h * o.dot o / (s.dot o * s.dot o))), .int .i64 k] (.tup [.agg (rC (facR s o h k)), .int .i64 0])
  z : sz (facR s o h k) ≤ 17179869184
theorem facw (s o : PQ) (h : Rat) (k : Nat) (hk : k ≤ 4096) (hs : s.sz ≤ 1000) (ho : o.sz ≤ 10) (hh : sz h ≤ 10) : FacW s o h k := by
  have y1 := PQ.sz_dot s o
  have y2 := PQ.sz_dot o o
  have y3 := sz_mul h h
  have y4 := sz_mul (h * h) (o.dot o)
  have y5 := sz_mul (s.dot o) (s.dot o)
  have y6 := sz_div (h * h * o.dot o) (s.dot o * s.dot o)
  have y7 := sz_lowQ (q := h * h * o.dot o / (s.dot o * s.dot o)) hk
  exact ⟨pdotq s o (by omega) (by omega), rsignq _ (by omega), pdotq o o (by omega) (by omega), rmulq _ _ (by omega) (by omega), jsquareq _ (by omega),
    fun h0 => rdivq _ _ (by omega) (by omega) (by have := Rat.mul_pos h0 h0; grind), rlow_pure _ k hk (facq_nn s o h) (by omega), by unfold facR; omega⟩
set_option maxHeartbeats 8000000 in
theorem factor_pure (u v : PR) (ou ov : PQ) (h : Rat) (tol : RQ) (x : AV) (s : PQ) (k : Nat) (hk : k ≤ 4096) (hs : s.sz ≤ 1000) (hou : ou.sz ≤ 10) (hov : ov.sz ≤ 10) (hh : sz h ≤ 10) (hx : ro x) :
    Pure Tryz.prog 157 [.rp (cornL u v ou ov h tol x), pA s, .int .i64 k] (facA (facQ s ou ov h k)) := by
  have hC := ro_cornL u v ou ov h tol x hx
  have w1 := facw s ou h k hk hs hou hh
  have w2 := facw s ov h k hk hs hov hh
  have k0 := jsquareq h (by omega)
  have hcmp := fun (r : Rat) (hr : sz r ≤ 17179869184) => rcmpq (facR s ov h k) r w2.z hr
  have hfq := facQ_eq s ou ov h k
  have z1 := sgnQ_le (x := s.dot ou)
  have z2 := sgnQ_le (x := s.dot ov)
  refine Pure.of_ca (ro_facA _) (CA.of_go mixed Tryz.func157 rfl (rs := [.cell 6 26, .tmp 7]) rfl (by kernel_rfl) ?_)
  rw [facA_C]
  simp only [pA_pC, rA_rC] at *
  obtain ⟨C, hCe⟩ : ∃ C, C = cornL u v ou ov h tol x := ⟨_, rfl⟩
  have hl1 : ((C.drop 12).take 6) = pC ou := by rw [hCe]; rfl
  have hl2 : ((C.drop 18).take 6) = pC ov := by rw [hCe]; rfl
  have hl3 : ((C.drop 24).take 3) = rC h := by rw [hCe]; rfl
  have hlen : C.length = 31 := by rw [hCe]; rfl
  rw [← hCe] at hC ⊢
  clear hCe
  have hbv : ∀ a b, buildV Tryz.prog (some ⟨12, a, .array 2 28, b⟩) [(0, .agg (pC ou)), (1, .agg (pC ov))] = (if b.length = 12 then some (True, .agg (pC ou ++ pC ov)) else buildV Tryz.prog (some ⟨12, a, .array 2 28, b⟩) [(0, .agg (pC ou)), (1, .agg (pC ov))]) := fun a b => by
    split
    · rename_i hb
      have ht : tiOf Tryz.prog 28 = some ⟨6, 112, .struct [(0, 26), (3, 26)], [.bool false, .sl 0 true [], .sl 0 true [], .bool false, .sl 0 true [], .sl 0 true []]⟩ := by simp -implicitDefEqProofs [go_sem]
      unfold buildV
      simp only
      rw [ht]
      simp [fillV, AV.shaped, AV.cells, hb]
      refine ⟨rfl, ⟨rfl, Nat.le_of_eq rfl⟩, ?_⟩
      have e1 : List.take 6 (pC ou ++ List.drop 6 b) = pC ou := rfl
      have e2 : List.drop 12 (pC ou ++ List.drop 6 b) = [] := List.drop_of_length_le (by have : (pC ou).length = 6 := rfl; simp [this, hb])
      rw [e1, e2, List.append_nil]
    · rfl
  simp -implicitDefEqProofs [go_sem, hl1, hl2, hl3, hlen, hbv]
  have u1 := (renL_ro (nm []) _ hC).symm
  have u2 := cloL_ro (n := 3) _ hC
  have i1 : ∀ l, List.take 6 (pC ou ++ l) = pC ou := fun _ => rfl
  have i2 : ∀ l, List.drop 6 (pC ou ++ l) = l := fun _ => rfl
  have i3 : List.take 6 (pC ov) = pC ov := rfl
  obtain ⟨I, hI⟩ : ∃ I, I = facI s ou ov h k := ⟨_, rfl⟩
  have hI0 : I 0 = none := by rw [hI]; rfl
  have hI1 : I 1 = if 0 < s.dot ou then some (facR s ou h k) else none := by rw [hI]; rfl
  have hI2 : I 2 = if 0 < s.dot ov then (match I 1 with
    | some r => some (if facR s ov h k < r then facR s ov h k else r)
    | none => some (facR s ov h k)) else I 1 := by rw [hI]; exact hfq
  have hIQ : facQ s ou ov h k = I 2 := by rw [hI]; rfl
  rw [hIQ]
  have hIr : ∀ i, roL (facC (I i)) := fun i => ro_facC _
  clear hfq hI hIQ
  have v1 := fun i => (renL_ro (nm []) _ (hIr i)).symm
  have v2 := fun i => cloL_ro (n := 3) _ (hIr i)
  have rab := roL_append.2 ⟨ro_pC ou, ro_pC ov⟩
  have b1 := (renL_ro (nm []) _ rab).symm
  have b2 := cloL_ro (n := 3) _ rab
  refine go_loopN 3 (α := {i : Nat // i ≤ 2}) (fun i => [(0, .rp C), (2, .int .i64 k), (4, .ptr 0 0 0), (6, .ptr 1 0 0), (8, .ptr 2 0 0), (9, .bool (I i.1).isSome), (25, .agg (pC ou ++ pC ov)), (26, .int .i64 i.1)])
    (fun i => [(0, .live 6 [.agg (pC s)]), (1, .live 3 [rZ]), (2, .live 3 [.agg (facC (I i.1))])]) (fun i => 2 - i.1) ⟨0, by omega⟩ [] (by simp) (fun _ _ _ _ h => h) (by omega) (by simp -implicitDefEqProofs [go_sem, hI0]; exact ⟨u1, u2⟩) (by simp -implicitDefEqProofs [go_sem, hI0, rZ, facC]) fun ⟨i, hi⟩ => ?_
  simp -implicitDefEqProofs [go_sem]
  refine ⟨fun h2 => ?_, fun h2 => ?_⟩
  · rcases (show i = 0 ∨ i = 1 by omega) with rfl | rfl
    · simp -implicitDefEqProofs [go_sem, i1, i2, i3]
      refine goC_pure _ w1.k1 (by simp -implicitDefEqProofs [go_sem, ro_pC]) ?_
      simp -implicitDefEqProofs [go_sem]
      refine goC_pure _ w1.k2 (by simp -implicitDefEqProofs [go_sem, ro_rC]) ?_
      by_cases c1 : 0 < s.dot ou
      · have c1' : ¬ sgnQ (s.dot ou) ≤ 0 := fun hh => absurd (z1.1 hh) (by grind)
        rw [if_pos c1] at hI1
        simp -implicitDefEqProofs [go_sem, c1', hl3, hlen]
        refine goD_pure _ k0 (by simp -implicitDefEqProofs [go_sem, ro_rC]) ?_
        simp -implicitDefEqProofs [go_sem, i1, i2, i3]
        refine goD_pure _ w1.k3 (by simp -implicitDefEqProofs [go_sem, ro_pC]) ?_
        simp -implicitDefEqProofs [go_sem]
        refine goD_pure _ w1.k4 (by simp -implicitDefEqProofs [go_sem, ro_rC]) ?_
        simp -implicitDefEqProofs [go_sem]
        refine goD_pure _ w1.k5 (by simp -implicitDefEqProofs [go_sem, ro_rC]) ?_
        simp -implicitDefEqProofs [go_sem]
        refine goD_pure _ (w1.k6 c1) (by simp -implicitDefEqProofs [go_sem, ro_rC]) ?_
        simp -implicitDefEqProofs [go_sem]
        refine goC_pure _ w1.k7 (by simp -implicitDefEqProofs [go_sem, ro_rC]) ?_
        simp -implicitDefEqProofs [go_sem, hI0, facC]
        have r1 := ro_rC (facR s ou h k)
        have x1 := (renL_ro (nm []) _ r1).symm
        have x2 := cloL_ro (n := 3) _ r1
        exact go_again ⟨1, by omega⟩ (by simp only; omega) [] (by simp) (fun _ _ _ _ h => h) (by simp) (by simp -implicitDefEqProofs [go_sem, hI0, hI1]; exact ⟨⟨u1, u2⟩, rfl⟩) (by simp -implicitDefEqProofs [go_sem, hI0, hI1, rZ, facC])
      · have c1' : sgnQ (s.dot ou) ≤ 0 := z1.2 (by grind)
        rw [if_neg c1] at hI1
        simp -implicitDefEqProofs [go_sem, c1']
        refine go_again ⟨1, by omega⟩ (by simp only; omega) [] (by simp) (fun _ _ _ _ h => h) (by simp) (by simp -implicitDefEqProofs [go_sem, hI0, hI1]; exact ⟨⟨u1, u2⟩, rfl⟩) (by simp -implicitDefEqProofs [go_sem, hI0, hI1, rZ, facC])
    · simp -implicitDefEqProofs [go_sem, i1, i2, i3]
      refine goC_pure _ w2.k1 (by simp -implicitDefEqProofs [go_sem, ro_pC]) ?_
      simp -implicitDefEqProofs [go_sem]
      refine goC_pure _ w2.k2 (by simp -implicitDefEqProofs [go_sem, ro_rC]) ?_
      by_cases c1 : 0 < s.dot ov
      · have c1' : ¬ sgnQ (s.dot ov) ≤ 0 := fun hh => absurd (z2.1 hh) (by grind)
        rw [if_pos c1] at hI2
        simp -implicitDefEqProofs [go_sem, c1', hl3, hlen]
        refine goD_pure _ k0 (by simp -implicitDefEqProofs [go_sem, ro_rC]) ?_
        simp -implicitDefEqProofs [go_sem, i1, i2, i3]
        refine goD_pure _ w2.k3 (by simp -implicitDefEqProofs [go_sem, ro_pC]) ?_
        simp -implicitDefEqProofs [go_sem]
        refine goD_pure _ w2.k4 (by simp -implicitDefEqProofs [go_sem, ro_rC]) ?_
        simp -implicitDefEqProofs [go_sem]
        refine goD_pure _ w2.k5 (by simp -implicitDefEqProofs [go_sem, ro_rC]) ?_
        simp -implicitDefEqProofs [go_sem]
        refine goD_pure _ (w2.k6 c1) (by simp -implicitDefEqProofs [go_sem, ro_rC]) ?_
        simp -implicitDefEqProofs [go_sem]
        refine goC_pure _ w2.k7 (by simp -implicitDefEqProofs [go_sem, ro_rC]) ?_
        by_cases c2 : 0 < s.dot ou
        · rw [if_pos c2] at hI1
          simp only [hI1] at hI2
          have hc := hcmp (facR s ou h k) w1.z
          have z3 := cmpQ_lt (x := facR s ov h k) (y := facR s ou h k)
          generalize cmpQ (facR s ov h k) (facR s ou h k) = cm at *
          simp -implicitDefEqProofs [go_sem, hI1, facC]
          refine goC_pure _ hc (by simp -implicitDefEqProofs [go_sem, ro_rC]) ?_
          by_cases c3 : facR s ov h k < facR s ou h k
          · rw [if_pos c3] at hI2
            simp -implicitDefEqProofs [go_sem, z3.2 c3]
            exact go_again ⟨2, by omega⟩ (by simp only; omega) [] (by simp) (fun _ _ _ _ h => h) (by simp) (by simp -implicitDefEqProofs [go_sem, hI1, hI2]; exact ⟨⟨u1, u2⟩, rfl⟩) (by simp -implicitDefEqProofs [go_sem, hI1, hI2, rZ, facC])
          · rw [if_neg c3] at hI2
            have c3' : ¬ cm < 0 := fun hh => c3 (z3.1 hh)
            simp -implicitDefEqProofs [go_sem, c3']
            exact go_again ⟨2, by omega⟩ (by simp only; omega) [] (by simp) (fun _ _ _ _ h => h) (by simp) (by simp -implicitDefEqProofs [go_sem, hI1, hI2]; exact ⟨⟨u1, u2⟩, rfl⟩) (by simp -implicitDefEqProofs [go_sem, hI1, hI2, rZ, facC])
        · rw [if_neg c2] at hI1
          simp only [hI1] at hI2
          simp -implicitDefEqProofs [go_sem, hI1, facC]
          exact go_again ⟨2, by omega⟩ (by simp only; omega) [] (by simp) (fun _ _ _ _ h => h) (by simp) (by simp -implicitDefEqProofs [go_sem, hI1, hI2]; exact ⟨⟨u1, u2⟩, rfl⟩) (by simp -implicitDefEqProofs [go_sem, hI1, hI2, rZ, facC])
      · have c1' : sgnQ (s.dot ov) ≤ 0 := z2.2 (by grind)
        rw [if_neg c1] at hI2
        simp -implicitDefEqProofs [go_sem, c1']
        exact go_again ⟨2, by omega⟩ (by simp only; omega) [] (by simp) (fun _ _ _ _ h => h) (by simp) (by simp -implicitDefEqProofs [go_sem, hI2]; exact ⟨⟨u1, u2⟩, rfl⟩) (by simp -implicitDefEqProofs [go_sem, hI2, rZ]; exact ⟨v1 1, v2 1⟩)
  · have : i = 2 := by omega
    subst this
    have f3 := hIr 2
    simp -implicitDefEqProofs [go_sem, rop, rZ, facC_len, facC_take, facC_drop]
    rw [viewL_ro _ _ f3]
    exact ⟨fitsL_ro _ _ f3, f3, Wk.refl _⟩
theorem rC_ext (x : Rat) : rC x = [.bool (qc x).neg, nA (qc x).p, nA (qc x).q] := rfl
set_option maxHeartbeats 1000000 in
theorem nat_pure (v : PR) (h : Rat) (k : Nat) (hk : k ≤ 4096) (hv : v.In 1000) (hne : v.val ≠ ⟨0, 0⟩) (hh : sz h ≤ 1000) (h0 : 0 < h) :
    Pure Tryz.prog 156 [v.av, rA h, .int .i64 k] (.tup [pA (offQ v.val h k), .int .i64 0]) := by
  have g1 := nought_pure v hv.mono
  rw [decide_eq_false hne] at g1
  have g2 := rsignq h (by omega)
  have z2 : ¬ sgnQ h < 0 := fun hh => absurd (sgnQ_lt.1 hh) (by grind)
  have g3 := at_inx v h k hk hv hne hh 0 1 rfl
  have w1 : v.cs.length = 6 := rfl
  have w2 := v.ro_cs
  have w5 : v.cs.take 6 = v.cs := rfl
  have w6 : v.cs.drop 6 = [] := rfl
  have w7 : ∀ a b c, List.drop 9 (v.cs ++ [a, b, c]) = ([] : List AV) := fun a b c => rfl
  have rR := roL_append.2 ⟨w2, ro_rC h⟩
  generalize offQ v.val h k = n at *
  simp only [PR.av_cs, rA_rC, pA_pC] at *
  generalize v.cs = cs at *
  refine Pure.of_go mixed Tryz.func156 rfl (rs := [.cell 6 28, .tmp 7]) rfl (by kernel_rfl) (by simp -implicitDefEqProofs [go_sem, ro_pC]) ?_
  simp -implicitDefEqProofs [go_sem, w1, w5, w6]
  refine goC_pure _ g1 (by simp -implicitDefEqProofs [go_sem, w2]) ?_
  simp -implicitDefEqProofs [go_sem, w1, w5, w6]
  refine goC_pure _ g2 (by simp -implicitDefEqProofs [go_sem, ro_rC]) ?_
  simp -implicitDefEqProofs [go_sem, w1, w5, w6, z2, w7]
  refine goC_inx 3 g3 (by simp -implicitDefEqProofs [go_sem]) (by simp -implicitDefEqProofs [go_sem]) (by simp -implicitDefEqProofs [go_sem]; exact rR) (by simp -implicitDefEqProofs [go_sem]) fun r0 l' ⟨q1, q2⟩ => ?_
  subst q1 q2
  simp -implicitDefEqProofs [go_sem, rop]
def mayJ (s : SR) : Prop := 0 < s.width.val ∧ 0 < s.tol.val ∧ 0 ≤ s.join ∧ s.join ≤ 2 ∧ (s.join = 0 → 1 ≤ s.miter.val ∧ s.miter.val ≤ 64)
instance (s : SR) : Decidable (mayJ s) := inferInstanceAs (Decidable (_ ∧ _))
set_option maxHeartbeats 1000000 in
theorem jmay_pure (s : SR) (hw : s.width.In 1000) (hm : s.miter.In 1000) (ht : s.tol.In 1000) : Pure Tryz.prog 93 [s.av] (.bool (decide (mayJ s))) := by
  have zm := hm.sz
  have g1 := rsign_pure s.width hw.sm.ok
  have g2 := rsign_pure s.tol ht.sm.ok
  have z1 := sgnQ_le (x := s.width.val)
  have z2 := sgnQ_le (x := s.tol.val)
  have k1 := rof_pure 1 1 (by omega) (by omega) (by omega)
  rw [show ((1 : Int) : Rat) / ((1 : Int) : Rat) = 1 by grind] at k1
  have k2 := rof_pure 64 1 (by omega) (by omega) (by omega)
  have y2 := sz_frac (p := 64) (q := 1) (by omega) (by omega) (by omega)
  rw [show ((64 : Int) : Rat) / ((1 : Int) : Rat) = 64 by grind] at k2 y2
  have y1 := sz_one
  have k3 := rcmp_pure s.miter (qc 1) hm.sm (qc_sm (by omega))
  have k4 := rcmp_pure s.miter (qc 64) hm.sm (qc_sm (by omega))
  rw [qc_val] at k3 k4
  change Pure _ _ [_, rA 1] _ at k3
  change Pure _ _ [_, rA 64] _ at k4
  have z3 := cmpQ_ge (x := s.miter.val) (y := 1)
  have z4 := cmpQ_le (x := s.miter.val) (y := 64)
  obtain ⟨B, hB⟩ : ∃ B : Bool, B = decide (mayJ s) := ⟨_, rfl⟩
  have hen : B = true ↔ (0 < s.width.val ∧ 0 < s.tol.val ∧ 0 ≤ s.join ∧ s.join ≤ 2 ∧ (s.join = 0 → 1 ≤ s.miter.val ∧ s.miter.val ≤ 64)) := by rw [hB, decide_eq_true_iff]; exact Iff.rfl
  rw [← hB]
  clear hB
  generalize cmpQ s.miter.val 1 = c1 at *
  generalize cmpQ s.miter.val 64 = c2 at *
  generalize sgnQ s.width.val = s1 at *
  generalize sgnQ s.tol.val = s2 at *
  obtain ⟨J, hJ⟩ : ∃ J, J = s.join := ⟨_, rfl⟩
  rw [← hJ] at hen
  unfold SR.av SR.cs
  rw [← hJ]
  simp only [rA_rC] at *
  unfold RQ.av at *
  refine Pure.of_go mixed Tryz.func93 rfl (rs := [.tmp 2]) rfl (by kernel_rfl) (by simp -implicitDefEqProofs [go_sem]) ?_
  simp -implicitDefEqProofs [go_sem]
  refine goC_pure _ g1 (by simp -implicitDefEqProofs [go_sem]) ?_
  by_cases a1 : s.width.val ≤ 0
  · have hb : B = false := Bool.eq_false_iff.2 fun hh => absurd (hen.1 hh).1 (by grind)
    subst hb
    simp -implicitDefEqProofs [go_sem, z1.2 a1]
  · have a1' : ¬ s1 ≤ 0 := fun hh => a1 (z1.1 hh)
    simp -implicitDefEqProofs [go_sem, a1']
    refine goC_pure _ g2 (by simp -implicitDefEqProofs [go_sem]) ?_
    by_cases a2 : s.tol.val ≤ 0
    · have hb : B = false := Bool.eq_false_iff.2 fun hh => absurd (hen.1 hh).2.1 (by grind)
      subst hb
      simp -implicitDefEqProofs [go_sem, z2.2 a2]
    · have a2' : ¬ s2 ≤ 0 := fun hh => a2 (z2.1 hh)
      by_cases a3 : J < 0
      · have hb : B = false := Bool.eq_false_iff.2 fun hh => absurd (hen.1 hh).2.2.1 (by omega)
        subst hb
        simp -implicitDefEqProofs [go_sem, a2', a3]
      · by_cases a4 : 2 < J
        · have hb : B = false := Bool.eq_false_iff.2 fun hh => absurd (hen.1 hh).2.2.2.1 (by omega)
          subst hb
          simp -implicitDefEqProofs [go_sem, a2', a3, a4]
        · simp -implicitDefEqProofs [go_sem, a2', a3, a4]
          by_cases a5 : J = 0
          · simp -implicitDefEqProofs [go_sem, a5]
            refine goD_pure _ k1 (by simp -implicitDefEqProofs [go_sem]) ?_
            simp -implicitDefEqProofs [go_sem]
            refine goD_pure _ k3 (by simp -implicitDefEqProofs [go_sem, ro_rC]) ?_
            by_cases a6 : 1 ≤ s.miter.val
            · simp -implicitDefEqProofs [go_sem, z3.2 a6]
              refine goD_pure _ k2 (by simp -implicitDefEqProofs [go_sem]) ?_
              simp -implicitDefEqProofs [go_sem]
              refine goD_pure _ k4 (by simp -implicitDefEqProofs [go_sem, ro_rC]) ?_
              by_cases a7 : s.miter.val ≤ 64
              · have hb : B = true := hen.2 ⟨by grind, by grind, by omega, by omega, fun _ => ⟨a6, a7⟩⟩
                subst hb
                simp -implicitDefEqProofs [go_sem, z4.2 a7]
              · have a7' : ¬ c2 ≤ 0 := fun hh => a7 (z4.1 hh)
                have hb : B = false := Bool.eq_false_iff.2 fun hh => a7 ((hen.1 hh).2.2.2.2 a5).2
                subst hb
                simp -implicitDefEqProofs [go_sem, a7']
            · have a6' : ¬ 0 ≤ c1 := fun hh => a6 (z3.1 hh)
              have hb : B = false := Bool.eq_false_iff.2 fun hh => a6 ((hen.1 hh).2.2.2.2 a5).1
              subst hb
              simp -implicitDefEqProofs [go_sem, a6']
          · have hb : B = true := hen.2 ⟨by grind, by grind, by omega, by omega, fun h => absurd h a5⟩
            subst hb
            simp -implicitDefEqProofs [go_sem, a5]
def turnF (left : Bool) : AV := if left then .fn (.func 154) [] [] else .fn (.func 155) [.any] []
theorem ro_turnF (left : Bool) : ro (turnF left) := by cases left <;> (unfold turnF; simp -implicitDefEqProofs [go_sem])
def lisL (l : List PQ) : Nat → List AV → Prop := fun k m => k = l.length ∧ m = l.map pA
theorem fitA_some (n : PQ) (k : Nat) : fitA (some (n, k)) = .tup [pA n, .int .i64 k, .int .i64 0] := rfl
theorem fitA_none : fitA none = .tup [pZ, .int .i64 0, .int .i64 24] := rfl
theorem fit_sz {v : PQ} {h tol : Rat} {n : PQ} {k : Nat} (hf : fitQ v h tol = some (n, k)) (hv : v.sz ≤ 1000) (hh : sz h ≤ 1000) : n.sz ≤ 7261 := by
  obtain ⟨rfl, _, _, hk⟩ := fitK_some _ _ hf
  have := sz_off (v := v) (h := h) (k := k) (by omega)
  omega
theorem cutJ_some {u v : PQ} {h tol : Rat} {left : Bool} {l : List PQ} (hc : cutJ u v h tol left = some l) : ∃ a b j k, fitQ u h tol = some (a, j) ∧ fitQ v h tol = some (b, k) ∧ l = [sided a left, sided b left] := by
  unfold cutJ at hc
  split at hc
  · rename_i a b h1 h2
    injection hc with hc
    exact ⟨a.1, b.1, a.2, b.2, h1, h2, hc.symm⟩
  · cases hc
set_option maxHeartbeats 4000000 in
theorem cut_mk (u v : PR) (ou ov : PQ) (h : Rat) (tol : RQ) (left : Bool) (hu : u.In 1000) (hv : v.In 1000) (hu0 : u.val ≠ ⟨0, 0⟩) (hv0 : v.val ≠ ⟨0, 0⟩) (hh : sz h ≤ 1000) (h0 : 0 < h) (ht : tol.In 1000) (ht0 : 0 < tol.val) {l : List PQ} (hl : cutJ u.val v.val h tol.val left = some l) :
    MkT Tryz.prog 95 [.rp (cornL u v ou ov h tol (turnF left))] 6 0 (lisL l) := by
  obtain ⟨a, b, j, k, e1, e2, rfl⟩ := cutJ_some hl
  have g1 := fit_pure u h tol hu hu0 hh h0 ht ht0
  have g2 := fit_pure v h tol hv hv0 hh h0 ht ht0
  rw [e1, fitA_some] at g1
  rw [e2, fitA_some] at g2
  have za := fit_sz e1 hu.sz hh
  have zb := fit_sz e2 hv.sz hh
  refine CA.of_go mixed Tryz.func95 rfl (rs := [.tmp 2, .tmp 3]) rfl (by kernel_rfl) ?_
  unfold cornL
  simp only [rA_rC] at g1 g2
  simp only [pA_pC] at *
  unfold PR.av RQ.av at *
  have m1 := same_pure a
  have m2 := same_pure b
  have m3 := round_pure a (by omega)
  have m4 := round_pure b (by omega)
  simp only [pA_pC] at *
  cases left
  · simp -implicitDefEqProofs [go_sem, turnF]
    refine goD_pure _ g1 (by simp -implicitDefEqProofs [go_sem]) ?_
    simp -implicitDefEqProofs [go_sem]
    refine goD_pure _ g2 (by simp -implicitDefEqProofs [go_sem]) ?_
    simp -implicitDefEqProofs [go_sem]
    refine goD_pure _ m3 (by simp -implicitDefEqProofs [go_sem, ro_pC]) ?_
    simp -implicitDefEqProofs [go_sem]
    refine goD_pure _ m4 (by simp -implicitDefEqProofs [go_sem, ro_pC]) ?_
    simp -implicitDefEqProofs [go_sem]
    exact ⟨54, 2, ⟨rfl, rfl⟩, [.agg (pC a.neg), .agg (pC b.neg)], by simp [fixB], by simp -implicitDefEqProofs [go_sem, ro_pC], rfl, rfl⟩
  · simp -implicitDefEqProofs [go_sem, turnF]
    refine goD_pure _ g1 (by simp -implicitDefEqProofs [go_sem]) ?_
    simp -implicitDefEqProofs [go_sem]
    refine goD_pure _ g2 (by simp -implicitDefEqProofs [go_sem]) ?_
    simp -implicitDefEqProofs [go_sem]
    refine goD_pure _ m1 (by simp -implicitDefEqProofs [go_sem, ro_pC]) ?_
    simp -implicitDefEqProofs [go_sem]
    refine goD_pure _ m2 (by simp -implicitDefEqProofs [go_sem, ro_pC]) ?_
    simp -implicitDefEqProofs [go_sem]
    exact ⟨54, 2, ⟨rfl, rfl⟩, [.agg (pC a), .agg (pC b)], by simp [fixB], by simp -implicitDefEqProofs [go_sem, ro_pC], rfl, rfl⟩
theorem cutJ_none {u v : PQ} {h tol : Rat} {left : Bool} (hc : cutJ u v h tol left = none) : fitQ u h tol = none ∨ (∃ a j, fitQ u h tol = some (a, j)) ∧ fitQ v h tol = none := by
  unfold cutJ at hc
  cases h1 : fitQ u h tol with
  | none => exact .inl rfl
  | some a =>
    refine .inr ⟨⟨a.1, a.2, rfl⟩, ?_⟩
    cases h2 : fitQ v h tol with
    | none => rfl
    | some b => rw [h1, h2] at hc; cases hc
set_option maxHeartbeats 4000000 in
theorem cut_none (u v : PR) (ou ov : PQ) (h : Rat) (tol : RQ) (left : Bool) (hu : u.In 1000) (hv : v.In 1000) (hu0 : u.val ≠ ⟨0, 0⟩) (hv0 : v.val ≠ ⟨0, 0⟩) (hh : sz h ≤ 1000) (h0 : 0 < h) (ht : tol.In 1000) (ht0 : 0 < tol.val) (hl : cutJ u.val v.val h tol.val left = none) :
    Pure Tryz.prog 95 [.rp (cornL u v ou ov h tol (turnF left))] (.tup [.sl 0 true [], .int .i64 24]) := by
  have g1 := fit_pure u h tol hu hu0 hh h0 ht ht0
  have g2 := fit_pure v h tol hv hv0 hh h0 ht ht0
  have hx := ro_turnF left
  generalize turnF left = x at *
  refine Pure.of_go mixed Tryz.func95 rfl (rs := [.tmp 2, .tmp 3]) rfl (by kernel_rfl) (by simp -implicitDefEqProofs [go_sem]) ?_
  unfold cornL
  rcases cutJ_none hl with e1 | ⟨⟨a, j, e1⟩, e2⟩
  · rw [e1, fitA_none] at g1
    unfold pZ at g1
    simp only [rA_rC] at g1
    unfold PR.av RQ.av at *
    simp -implicitDefEqProofs [go_sem]
    refine goD_pure _ g1 (by simp -implicitDefEqProofs [go_sem]) ?_
    simp -implicitDefEqProofs [go_sem]
  · rw [e1, fitA_some] at g1
    rw [e2, fitA_none] at g2
    unfold pZ at g2
    simp only [rA_rC] at g1 g2
    simp only [pA_pC] at *
    unfold PR.av RQ.av at *
    simp -implicitDefEqProofs [go_sem]
    refine goD_pure _ g1 (by simp -implicitDefEqProofs [go_sem]) ?_
    simp -implicitDefEqProofs [go_sem]
    refine goD_pure _ g2 (by simp -implicitDefEqProofs [go_sem]) ?_
    simp -implicitDefEqProofs [go_sem]
end Go.Proofs.YtgiheamjhoiojaaGreat
