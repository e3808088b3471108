/-
  The machine does what the writing operations say: store, append.
-/
import Derived.Test.YtpmahilkkoengaaFwI
namespace Go.Proofs.Ytpmahilkkoengaa
open Go
set_option linter.unusedSimpArgs false
set_option linter.unusedVariables false

/-- The operation writes. -/
def LRun (P : Program) (c : Cx) (s : Sem Next) (K : AV → (Nat → BS) → Prop) : Prop :=
  ∃ r v f' c', (s.run P c.w = .ok (.value r) c'.w ∨ (s.run P c.w = .ok .skip c'.w ∧ r = undef)) ∧ K v f' ∧ Rv c' v r ∧ HOk c' f' ∧ Stp c c'

/-- One of the call's own blocks is written: its cells are others. -/
def Cx.wrote (c : Cx) (g : Nat) (cs : Array Value) : Cx := { c with w := c.w.setRow g cs }

theorem Stp.wrote {c : Cx} {f : Nat → BS} (hk : HOk c f) {id : Nat} {e : Ent} (he : c.mu id = some e) (hr : e.real = true) (cs : Array Value) : Stp c (c.wrote e.block cs) where
  os := rfl
  tape := rfl
  output := rfl
  size := by simp [Cx.wrote]
  keep := fun b hb hn => setRow_other _ _ _ _ (fun h => hn id e he hr h.symm)
  U := fun _ h => h
  mu := fun _ _ => .inl rfl
  new := fun j e' he' hr' => .inr ⟨j, e', he', hr', rfl⟩
  F := fun _ _ => Iff.rfl

theorem wrote_ok {c : Cx} {f : Nat → BS} (hk : HOk c f) {id sz : Nat} {l : List AV} (hf : f id = .live sz l) {e : Ent} (he : c.mu id = some e) (hr : e.real = true) {old cs : Array Value} {ty : TypeId}
    (hold : c.w.heap[e.block]? = some (.cells old ty (0, 0))) (hsz : cs.size = old.size) {l' : List AV} (hlen : e.base + l'.length * sz ≤ e.total)
    (hel : ∀ (i : Nat) a, l'[i]? = some a → ∃ v, Rv c a v ∧ v.cells.size = sz ∧ (a.isAgg = true ∨ v.oneCell' = true) ∧ (∀ u ∈ v.cells.toList, u.oneCell' = true) ∧ ∀ (j : Nat) u, v.cells.toList[j]? = some u → cs[e.base + i * sz + j]? = some u) :
    HOk (c.wrote e.block cs) (upd f id (.live sz l')) := by
  have hst := Stp.wrote hk he hr cs
  have hnew := setRow_heap c.w e.block old cs ty (0, 0) hold
  constructor
  · intro j
    by_cases hj : j = id
    · subst hj; simp [Cx.wrote, (hk.used j), hf]
    · rw [upd_ne _ _ _ hj]; exact hk.used j
  · intro j h
    by_cases hj : j = id
    · subst hj; rw [upd_same] at h; simp at h
    · rw [upd_ne _ _ _ hj] at h; exact hk.none j h
  · intro j s m h
    by_cases hj : j = id
    · subst hj
      rw [upd_same] at h
      injection h with h1 h2; subst h1; subst h2
      obtain ⟨e', he', h1, h2, h3⟩ := hk.live j sz l hf
      rw [he] at he'; injection he' with he'; subst he'
      obtain ⟨_, htot, cs0, ty0, hh, hs0⟩ := h3 hr
      rw [hold] at hh; injection hh with hh; injection hh with hh1 hh2; subst hh1; subst hh2
      refine ⟨e, he, h1, by simp [hr], fun _ => ⟨Re.of_get fun i a hi => ?_, hlen, cs, ty, hnew, by rw [hsz]; exact hs0⟩⟩
      obtain ⟨v, g1, g2, g3, g4, g5⟩ := hel i a hi
      refine ⟨v, g1.keep hst hk.shut, g2, g3, g4, fun j u hu => ?_⟩
      rw [show (c.wrote e.block cs).w = c.w.setRow e.block cs from rfl, cell_setRow_same c.w e.block _ old cs ty (0, 0) hold]
      exact g5 j u hu
    · rw [upd_ne _ _ _ hj] at h
      obtain ⟨en, hen, h1, h2, h3⟩ := hk.live j s m h
      refine ⟨en, hen, h1, h2, fun hrn => ?_⟩
      obtain ⟨hre, htot, cs0, ty0, hh, hs0⟩ := h3 hrn
      have hne : en.block ≠ e.block := fun hb => hj (hk.inj j id en e hen he hrn hr hb)
      have hb : (c.wrote e.block cs).w.heap[en.block]? = c.w.heap[en.block]? := setRow_other _ _ _ _ hne
      refine ⟨Re.of_get fun i a hi => ?_, htot, cs0, ty0, by rw [hb]; exact hh, hs0⟩
      obtain ⟨v, g1, g2, g3, g4, g5⟩ := hre.get i a hi
      exact ⟨v, g1.keep hst hk.shut, g2, g3, g4, g5.block hb⟩
  · intro j s p h
    by_cases hj : j = id
    · subst hj; rw [upd_same] at h; cases h
    · rw [upd_ne _ _ _ hj] at h
      obtain ⟨en, hen, h1, h2, h3, h4⟩ := hk.iter j s p h
      have hne : en.block ≠ e.block := fun hb => hj (hk.inj j id en e hen he h1 hr hb)
      have hb : (c.wrote e.block cs).w.heap[en.block]? = c.w.heap[en.block]? := setRow_other _ _ _ _ hne
      exact ⟨en, hen, h1, h2, h3, by rw [hb]; exact h4⟩
  · exact hk.inj
  · exact hk.shut

theorem store_sound {P : Program} {c : Cx} {f : Nat → BS} (hk : HOk c f) {t : TypeId} {ti : TI} (ht : tiOf P t = some ti) {id idx off sz : Nat} {l : List AV} (hf : f id = .live sz l) {a x : AV} {va vx : Value} (ha : Rv c (.ptr id idx off) va) (hx : Rv c x vx)
    (hsh : x.shaped ti.size = true) (hidx : idx < l.length) (hoff : off + ti.size ≤ (l.getD idx .any).cells.length) (hpos : 0 < ti.size) :
    ∃ c', (Instr.storeAt t va vx).run P c.w = .ok () c'.w ∧ HOk c' (upd f id (.live sz (l.set idx ((l.getD idx .any).lay off x.cells)))) ∧ Stp c c' := by
  obtain ⟨d, i, z, hd, hi, _, hsz, _⟩ := tiOf_some ht
  obtain ⟨e, he, hesz, hnr, hreal⟩ := hk.live id sz l hf
  simp only [Rv] at ha
  obtain ⟨hU, b, o, rfl, hall⟩ := ha
  obtain ⟨hr, rfl, rfl⟩ := hall e he
  obtain ⟨hre, htot, old, ty, hold, hosz⟩ := hreal hr
  obtain ⟨g1, g2, g3⟩ := shaped_cells hsh hx
  have hxl : x.cells.length = ti.size := shaped_len hsh
  -- the element at hand
  obtain ⟨v0, q1, q2, q3, q4, q5⟩ := hre.get idx _ (List.getElem?_eq_getElem hidx)
  have hget : l.getD idx .any = l[idx] := by rw [List.getD_eq_getElem?_getD, List.getElem?_eq_getElem hidx]; rfl
  rw [hget] at hoff ⊢
  have hrl := cells_rl q1 q3
  have hlen0 : v0.cells.toList.length = l[idx].cells.length := hrl.length
  have hcl : l[idx].cells.length = sz := by rw [← hlen0]; simpa using q2
  have hin : e.base + idx * sz + sz ≤ old.size := by
    rw [hosz]
    refine Nat.le_trans ?_ htot
    have : (idx + 1) * sz ≤ l.length * sz := Nat.mul_le_mul_right _ hidx
    rw [Nat.succ_mul] at this; omega
  let pos := e.base + idx * e.sz + off
  have hposn : pos = e.base + idx * sz + off := by simp only [pos, hesz]
  let cs := (old.toList.take pos ++ vx.cells.toList ++ old.toList.drop (pos + vx.cells.toList.length)).toArray
  have hfit : pos + 0 + vx.cells.toList.length ≤ old.size := by simp [g1]; omega
  have hrun := run_storeCells_at P e.block pos ty vx.cells.toList 0 old c.w hold hfit g2
  simp only [Nat.add_zero] at hrun
  have hcs : cs.size = old.size := by simp [cs, g1]; omega
  have hcget : ∀ k, cs[k]? = if k < pos then old[k]? else if k < pos + ti.size then vx.cells.toList[k - pos]? else old[k]? := by
    intro k
    have hvl : vx.cells.toList.length = ti.size := by simpa using g1
    have htl : (old.toList.take pos).length = pos := by simp; omega
    simp only [cs, List.getElem?_toArray]
    split
    · rename_i hk
      rw [List.append_assoc, List.getElem?_append_left (by omega), List.getElem?_take, if_pos hk]; simp
    · rename_i hk
      split
      · rename_i hk2
        rw [List.getElem?_append_left (by rw [List.length_append, htl, hvl]; omega), List.getElem?_append_right (by omega), htl]
      · rename_i hk2
        rw [List.getElem?_append_right (by rw [List.length_append, htl, hvl]; omega), List.getElem?_drop, List.length_append, htl, hvl]
        rw [show pos + ti.size + (k - (pos + ti.size)) = k by omega]; simp
  refine ⟨c.wrote e.block cs, ?_, wrote_ok hk hf he hr hold hcs (by simpa using htot) fun i a hi => ?_, Stp.wrote hk he hr cs⟩
  · simp only [Instr.storeAt, Sem.run_bind, Instr.sureAddr, Sem.run_pure, Result.andThen_ok, storeVar, sizeOf_run hi]
    rw [if_neg (by rw [g1, hsz]; simp)]
    exact hrun
  · rw [List.getElem?_set] at hi
    have hcold : ∀ k u, c.w.cell? ⟨e.block, k, none⟩ = some u → old[k]? = some u := by
      intro k u hu
      unfold World.cell? at hu
      simp only [hold] at hu
      simpa using hu
    split at hi
    · rename_i hii
      subst hii
      injection hi with hi
      -- the element that is written
      by_cases hag : l[idx].isAgg = true
      · -- an aggregate
          obtain ⟨cs0, hcs0⟩ : ∃ cs0, l[idx] = .agg cs0 := by cases hh : l[idx] <;> simp [AV.isAgg, hh] at hag; exact ⟨_, rfl⟩
          rw [hcs0] at q1 hi hcl hoff
          obtain ⟨vs0, rfl, r1, r2⟩ := agg_ov q1
          simp only [AV.lay] at hi
          subst hi
          simp only [AV.cells] at hcl hoff
          refine ⟨.agg (vs0.toList.take off ++ vx.cells.toList ++ vs0.toList.drop (off + ti.size)).toArray, ?_, ?_, .inl rfl, ?_, ?_⟩
          · simp only [Rv]
            refine ⟨_, rfl, ?_, ?_⟩
            · intro u hu
              simp only [List.mem_append] at hu
              rcases hu with (hu | hu) | hu
              · exact r1 u (List.mem_of_mem_take hu)
              · exact g2 u hu
              · exact r1 u (List.mem_of_mem_drop hu)
            · rw [hxl]; exact ((r2.take off).append g3).append (r2.drop _)
          · have hv0 : vs0.size = sz := q2
            have hvl : vx.cells.toList.length = ti.size := by simpa using g1
            show (vs0.toList.take off ++ vx.cells.toList ++ vs0.toList.drop (off + ti.size)).length = sz
            simp only [List.length_append, List.length_take, List.length_drop, hvl, Array.length_toList]
            omega
          · intro u hu
            change u ∈ (vs0.toList.take off ++ vx.cells.toList ++ vs0.toList.drop (off + ti.size)) at hu
            simp only [List.mem_append] at hu
            rcases hu with (hu | hu) | hu
            · exact r1 u (List.mem_of_mem_take hu)
            · exact g2 u hu
            · exact r1 u (List.mem_of_mem_drop hu)
          · intro j u hu
            change (vs0.toList.take off ++ vx.cells.toList ++ vs0.toList.drop (off + ti.size))[j]? = some u at hu
            have q2 : vs0.size = sz := q2
            have q5 : HasCells c.w e.block (e.base + idx * sz) vs0.toList := q5
            have hvl : vx.cells.toList.length = ti.size := by simpa using g1
            have htl : (vs0.toList.take off).length = off := by simp; omega
            have hj : j < sz := by
              rcases Nat.lt_or_ge j sz with h' | h'
              · exact h'
              · rw [List.getElem?_eq_none (by simp only [List.length_append, List.length_take, List.length_drop, hvl, Array.length_toList]; omega)] at hu; cases hu
            rw [hcget]
            by_cases c1 : j < off
            · rw [if_pos (by omega)]
              rw [List.append_assoc, List.getElem?_append_left (by omega), List.getElem?_take, if_pos c1] at hu
              have := q5 j u hu
              exact hcold _ _ this
            · rw [if_neg (by omega)]
              by_cases c2 : j < off + ti.size
              · rw [if_pos (by omega)]
                rw [List.getElem?_append_left (by rw [List.length_append, htl, hvl]; omega), List.getElem?_append_right (by omega), htl] at hu
                rw [show e.base + idx * sz + j - pos = j - off by omega]; exact hu
              · rw [if_neg (by omega)]
                rw [List.getElem?_append_right (by rw [List.length_append, htl, hvl]; omega), List.getElem?_drop, List.length_append, htl, hvl] at hu
                have := q5 j u (by rwa [show off + ti.size + (j - (off + ti.size)) = j by omega] at hu)
                exact hcold _ _ this
      · -- one cell
          have hag' : l[idx].isAgg = false := by simpa using hag
          have hc1 : l[idx].cells.length = 1 := by cases hh : l[idx] <;> simp [AV.cells, AV.isAgg, hh] at hag' ⊢
          have hlay : l[idx].lay off x.cells = x.cells.headD .any := by cases hh : l[idx] <;> simp [AV.lay, AV.isAgg, hh] at hag' ⊢
          have hsz1 : sz = 1 := by omega
          have hoff0 : off = 0 := by omega
          have hti1 : ti.size = 1 := by omega
          have h0 : 0 < x.cells.length := by omega
          obtain ⟨u0, hu0, hr0⟩ := g3.get 0 _ (List.getElem?_eq_getElem h0)
          have hu1 : u0.oneCell' = true := g2 u0 (List.mem_of_getElem? hu0)
          have hhd : x.cells.headD .any = x.cells[0] := by rw [List.headD_eq_head?_getD, List.head?_eq_getElem?, List.getElem?_eq_getElem h0]; rfl
          rw [hlay, hhd] at hi
          subst hi
          have hcell := one_cells hu1
          refine ⟨u0, hr0, by rw [hcell, hsz1]; rfl, .inr hu1, by rw [hcell]; simpa using hu1, fun j u hu => ?_⟩
          rw [hcell] at hu
          have hj : j = 0 := by
            rcases Nat.eq_zero_or_pos j with h' | h'
            · exact h'
            · rw [List.getElem?_eq_none (by simp; omega)] at hu; cases hu
          subst hj
          simp only [List.getElem?_cons_zero, Option.some.injEq] at hu
          subst hu
          rw [hcget, if_neg (by omega), if_pos (by omega)]
          rw [show e.base + idx * sz + 0 - pos = 0 by omega]
          exact hu0
    · rename_i hii
      obtain ⟨v, w1, w2, w3, w4, w5⟩ := hre.get i a hi
      refine ⟨v, w1, w2, w3, w4, fun j u hu => ?_⟩
      have hj : j < sz := by
        rw [← w2]
        rcases Nat.lt_or_ge j v.cells.size with h' | h'
        · exact h'
        · rw [List.getElem?_eq_none (by simpa using h')] at hu; cases hu
      have hcc := hcold _ _ (w5 j u hu)
      rw [hcget]
      have hdis : e.base + i * sz + j < pos ∨ pos + ti.size ≤ e.base + i * sz + j := by
        rcases Nat.lt_or_gt_of_ne (fun h => hii h.symm : i ≠ idx) with h' | h'
        · left
          have : (i + 1) * sz ≤ idx * sz := Nat.mul_le_mul_right _ h'
          rw [Nat.succ_mul] at this; omega
        · right
          have : (idx + 1) * sz ≤ i * sz := Nat.mul_le_mul_right _ h'
          rw [Nat.succ_mul] at this; omega
      rcases hdis with h' | h'
      · rw [if_pos h']; exact hcc
      · rw [if_neg (by omega), if_neg (by omega)]; exact hcc

end Go.Proofs.Ytpmahilkkoengaa
