import Derived.Test.YtgiheamjhoiojaaGreatProg
import Derived.Tactics
import Derived.Tactics2
import Derived.Defers
import Derived.Laws.Pointers
import Derived.Laws.LoneSync
import Derived.RegionTactic
import Derived.RegionCalls
import Derived.ChangeAlike
import Derived.Test.YtgiheamjhoiojaaGreatPkNa
namespace Go.Proofs.YtgiheamjhoiojaaGreat
open Go Go.Proofs
set_option maxRecDepth 100000
set_option maxHeartbeats 1600000
theorem on_disable (w : World) : (callFunc 228 #[]).run Tryz.prog w = .ok (.value (.tuple #[])) w := run_call_mark0 Tryz.func228 (by kernel_rfl) (by kernel_rfl) (by kernel_rfl) .disable (by kernel_rfl) w
theorem on_enable (w : World) : (callFunc 230 #[]).run Tryz.prog w = .ok (.value (.tuple #[])) w := run_call_mark0 Tryz.func230 (by kernel_rfl) (by kernel_rfl) (by kernel_rfl) .enable (by kernel_rfl) w
theorem on_acquire (a : Addr) (w : World) : (callFunc 231 #[.pointer (some a)]).run Tryz.prog w = .ok (.value (.tuple #[])) w := run_call_marked Tryz.func231 (by kernel_rfl) (by kernel_rfl) (by kernel_rfl) .acquire (by kernel_rfl) a w
theorem on_releaseMerge (a : Addr) (w : World) : (callFunc 233 #[.pointer (some a)]).run Tryz.prog w = .ok (.value (.tuple #[])) w := run_call_marked Tryz.func233 (by kernel_rfl) (by kernel_rfl) (by kernel_rfl) .releaseMerge (by kernel_rfl) a w
theorem on_store (a : Addr) (x : Value) (u : FrameMode) (w : World) (hc : w.cell? a = some x) (hz : w.frozen? a = false) :
    CallsD Tryz.prog 172 #[.pointer (some a), .bool true] u w fun e u' w' => u' = u ∧ (e = .returned (.tuple #[]) ∧ w' = w.drew.setCell a (.int .u32 1)) := by
  have hc' : w.drew.cell? a = some x := by go_simp
  have hz' : w.drew.frozen? a = false := by go_simp
  have hst := run_call_store (P := Tryz.prog) Tryz.func202 (by kernel_rfl) (by kernel_rfl) (by kernel_rfl) (by kernel_rfl) (k := .u32) (y := 1) hc' hz'
  go_enter_d Tryz.func172, Tryz.ntmps172
  go_wp2
  go_region_calls
  all_goals (go_end0; exact ⟨rfl, rfl⟩)
theorem on_unlock (a : Addr) (u : FrameMode) (w : World) (hc : w.cell? a = some (.int .i32 1)) (hz : w.frozen? a = false) :
    CallsD Tryz.prog 171 #[.pointer (some a)] u w fun e u' w' => u' = u ∧ (e = .returned (.tuple #[]) ∧ w' = w.setCell a (.int .i32 0)) := by
  have hd := on_disable
  have he := on_enable
  have hr := on_releaseMerge
  have hadd := run_call_add (P := Tryz.prog) Tryz.func234 (by kernel_rfl) (by kernel_rfl) (by kernel_rfl) .i32 (by kernel_rfl) (y := -1) (s := 0) hc hz (by simp [go_sem]; rfl)
  have hcv := run_convert_to_unsafe (P := Tryz.prog) (src := 266) (dst := 270) Tryz.underlying266 Tryz.underlying270 (by kernel_rfl) hc
  go_enter_d Tryz.func171, Tryz.ntmps171
  go_wp2
  go_end0
  go_wp2
  go_end0
  exact ⟨rfl, rfl⟩
theorem on_lock (a : Addr) (w : World) (hc : w.cell? a = some (.int .i32 0)) (hz : w.frozen? a = false) :
    Calls Tryz.prog 170 #[.pointer (some a)] w fun e w' => e = .returned (.tuple #[]) ∧ w' = w.setCell a (.int .i32 1) := by
  have hd := on_disable
  have he := on_enable
  have ha := on_acquire
  have hcas := run_call_cas_hit (P := Tryz.prog) Tryz.func229 (by kernel_rfl) (by kernel_rfl) (by kernel_rfl) .i32 (by kernel_rfl) (y := 1) hc hz
  have hc' : (w.setCell a (.int .i32 1)).cell? a = some (.int .i32 1) := World.cell?_setCell_same w a _ hc
  have hcv := run_convert_to_unsafe (P := Tryz.prog) (src := 266) (dst := 270) Tryz.underlying266 Tryz.underlying270 (by kernel_rfl) hc'
  go_enter Tryz.func170, Tryz.ntmps170
  go_wp2
  first | go_end0 | (simp only [Exit.inBlock, Exit.then]; refine bodyPost_ret (results_none rfl _ _ _) rfl ?_) | refine bodyPost_ret (results_none rfl _ _ _) rfl ?_
  go_wp2
  go_end0
  exact ⟨rfl, rfl⟩
theorem on_load0 (a : Addr) (w : World) (hc : w.cell? a = some (.int .u32 0)) :
    Calls Tryz.prog 114 #[.pointer (some a)] w fun e w' => e = .returned (.bool false) ∧ w' = w := by
  have hl := run_call_load (P := Tryz.prog) Tryz.func169 (by kernel_rfl) (by kernel_rfl) (by kernel_rfl) .u32 (by kernel_rfl) hc
  go_enter Tryz.func114, Tryz.ntmps114
  go_wp2
  refine bodyPost_ret (results_tmp rfl _ _ _) rfl ?_
  exact ⟨rfl, rfl⟩
theorem on_slow144 (b off : Nat) (v : Value) (w : World) (Q : World → Prop)
    (h0 : w.cell? ⟨b, off, none⟩ = some (.int .u32 0)) (h1 : w.cell? ⟨b, off + 1, none⟩ = some (.int .i32 0))
    (_f0 : w.frozen? ⟨b, off, none⟩ = false) (f1 : w.frozen? ⟨b, off + 1, none⟩ = false)
    (hfill : Calls Tryz.prog 132 #[v] (w.setCell ⟨b, off + 1, none⟩ (.int .i32 1)) fun e w2 => e = .returned (.tuple #[]) ∧
      w2.cell? ⟨b, off, none⟩ = some (.int .u32 0) ∧ w2.cell? ⟨b, off + 1, none⟩ = some (.int .i32 1) ∧ w2.frozen? ⟨b, off, none⟩ = false ∧ w2.frozen? ⟨b, off + 1, none⟩ = false ∧ Q w2) :
    Calls Tryz.prog 115 #[.pointer (some ⟨b, off, none⟩), .func (.func 132) #[v] #[]] w fun e w' => e = .returned (.tuple #[]) ∧
      ∃ w2, Q w2 ∧ w' = (w2.drew.setCell ⟨b, off, none⟩ (.int .u32 1)).setCell ⟨b, off + 1, none⟩ (.int .i32 0) := by
  have hl := on_load0 ⟨b, off, none⟩ (w.setCell ⟨b, off + 1, none⟩ (.int .i32 1)) ((World.cell?_setCell_other _ ⟨b, off + 1, none⟩ ⟨b, off, none⟩ _ (by simp)).trans h0)
  have hnot : ∀ (x : Bool) (w : World), (Op.unary .not (.bool x)).run Tryz.prog w = .ok (.bool (!x)) w := fun _ _ => rfl
  go_enter_defers Tryz.func115, Tryz.ntmps115
  go_wp2_with (first | (go_at_call 114; refine hl.mono ?_; rintro e w' ⟨rfl, rfl⟩) | (go_at_call 170; refine (on_lock ⟨b, off + 1, none⟩ _ (by go_simp) (by go_simp)).mono ?_; rintro e w' ⟨rfl, rfl⟩) | (go_at_call 132; refine hfill.mono ?_; rintro e w' ⟨rfl, g0, g1, g2, g3, gQ⟩))
  refine leaves_cons (f := 172) (args := #[.pointer (some ⟨b, off, none⟩), .bool true]) (by simp) (by simp [go_sem]) ?_
  refine (on_store ⟨b, off, none⟩ (.int .u32 0) .returning _ g0 (by simp [g2])).mono ?_
  rintro e u' w'' ⟨rfl, rfl, rfl⟩
  refine leaves_cons (f := 171) (args := #[.pointer (some ⟨b, off + 1, none⟩)]) (by simp [settle]) (by simp [go_sem]) ?_
  refine (on_unlock ⟨b, off + 1, none⟩ _ _ ?_ (by simp [g3])).mono ?_
  · refine (World.cell?_setCell_other _ ⟨b, off, none⟩ ⟨b, off + 1, none⟩ _ (by simp)).trans ?_
    rw [World.cell?_drew]
    exact g1
  rintro e u' w'' ⟨rfl, rfl, rfl⟩
  simp [Leaves, settle, results, Tryz.results115]
  exact ⟨_, gQ, rfl⟩
set_option linter.unusedSimpArgs false
set_option linter.unusedVariables false
set_option maxRecDepth 20000
theorem setCell_row {w : World} {b o : Nat} {old : Array Value} {ty : TypeId} {fr : Nat × Nat} (h : w.heap[b]? = some (.cells old ty fr)) (v : Value) : w.setCell ⟨b, o, none⟩ v = w.setRow b (old.setIfInBounds o v) := by
  unfold World.setCell World.setRow
  congr 1
  refine Array.ext_getElem? fun i => ?_
  rw [Array.getElem?_modify, Array.getElem?_modify]
  split
  · rename_i hi; simp only at hi; subst hi
    rw [h]; rfl
  · rfl
theorem Rl.set {c : Cx} {l : List AV} {vs : List Value} (h : Rl c l vs) (j : Nat) {a : AV} {v : Value} (ha : Rv c a v) : Rl c (l.set j a) (vs.set j v) := by
  refine Rl.of_get (by simp [h.length]) fun i x u hx hu => ?_
  rw [List.getElem?_set] at hx hu
  split at hx
  · rename_i hij
    subst hij
    rw [if_pos rfl] at hu
    split at hx
    · split at hu
      · injection hx with hx; injection hu with hu; subst hx; subst hu; exact ha
      · cases hu
    · cases hx
  · rename_i hij
    rw [if_neg hij] at hu
    obtain ⟨u', h1, h2⟩ := h.get i x hx
    rw [h1] at hu; injection hu with hu; subst hu; exact h2
theorem poke {c : Cx} {f : Nat → BS} (hk : HOk c f) {id sz : Nat} {cs : List AV} (hf : f id = .live sz [.agg cs]) {e : Ent} (he : c.mu id = some e) (hr : e.real = true) {j : Nat} (hj : j < cs.length) {a : AV} {v : Value} (ha : Rv c a v) (h1 : v.oneCell' = true) :
    ∃ c' : Cx, c'.w = c.w.setCell ⟨e.block, e.base + j, none⟩ v ∧ HOk c' (upd f id (.live sz [.agg (cs.set j a)])) ∧ Stp c c' ∧ c'.mu = c.mu := by
  obtain ⟨e', he', hsz, hnr, hreal⟩ := hk.live id sz _ hf
  rw [he] at he'; injection he' with he'; subst he'
  obtain ⟨hre, htot, old, ty, hold, hosz⟩ := hreal hr
  obtain ⟨v0, q1, q2, q3, q4, q5⟩ := hre.get 0 _ rfl
  obtain ⟨vs, rfl, g1, g2⟩ := agg_ov q1
  simp only [Value.cells, Nat.zero_mul, Nat.add_zero] at q2 q5
  have hlen := g2.length
  have hvs : vs.size = cs.length := by simpa using hlen
  have hcs : (old.setIfInBounds (e.base + j) v).size = old.size := by simp
  refine ⟨c.wrote e.block (old.setIfInBounds (e.base + j) v), ?_, ?_, Stp.wrote hk he hr _, rfl⟩
  · exact (setCell_row hold v).symm
  · refine wrote_ok hk hf he hr hold hcs (by simpa using htot) fun i a' hi => ?_
    cases i with
    | succ i => simp at hi
    | zero =>
      simp only [List.getElem?_cons_zero, Option.some.injEq] at hi
      subst hi
      refine ⟨.agg (vs.setIfInBounds j v), ?_, by simp [Value.cells, q2], .inl rfl, ?_, ?_⟩
      · simp only [Rv]
        refine ⟨_, rfl, fun u hu => ?_, ?_⟩
        · rw [Array.toList_setIfInBounds] at hu
          rcases List.mem_or_eq_of_mem_set hu with h | h
          · exact g1 u h
          · rw [h]; exact h1
        · rw [Array.toList_setIfInBounds]; exact g2.set j ha
      · intro u hu
        simp only [Value.cells, Array.toList_setIfInBounds] at hu
        rcases List.mem_or_eq_of_mem_set hu with h | h
        · exact g1 u h
        · rw [h]; exact h1
      · intro k u hu
        simp only [Value.cells, Array.toList_setIfInBounds, Nat.zero_mul, Nat.add_zero] at hu ⊢
        rw [List.getElem?_set] at hu
        have hcold : ∀ k u, c.w.cell? ⟨e.block, k, none⟩ = some u → old[k]? = some u := by
          intro k u hu
          unfold World.cell? at hu
          simp only [hold] at hu
          simpa using hu
        rw [Array.getElem?_setIfInBounds]
        split at hu
        · rename_i hjk
          subst hjk
          split at hu
          · injection hu with hu; subst hu
            have hlt : e.base + j < old.size := by
              have := hcold _ _ (q5 j vs[j] (by simp))
              exact (Array.getElem?_eq_some_iff.1 this).1
            rw [if_pos rfl, if_pos hlt]
          · cases hu
        · rename_i hjk
          rw [if_neg (by omega)]
          exact hcold _ _ (q5 k u (by simpa using hu))
theorem peek {c : Cx} {f : Nat → BS} (hk : HOk c f) {id sz : Nat} {cs : List AV} (hf : f id = .live sz [.agg cs]) {e : Ent} (he : c.mu id = some e) (hr : e.real = true) {j : Nat} {k : IntKind} {n : Int} (hj : cs[j]? = some (.int k n)) :
    c.w.cell? ⟨e.block, e.base + j, none⟩ = some (.int k n) ∧ c.w.frozen? ⟨e.block, e.base + j, none⟩ = false := by
  obtain ⟨e', he', hsz, hnr, hreal⟩ := hk.live id sz _ hf
  rw [he] at he'; injection he' with he'; subst he'
  obtain ⟨hre, htot, old, ty, hold, hosz⟩ := hreal hr
  obtain ⟨v0, q1, q2, q3, q4, q5⟩ := hre.get 0 _ rfl
  obtain ⟨vs, rfl, g1, g2⟩ := agg_ov q1
  simp only [Value.cells, Nat.zero_mul, Nat.add_zero] at q2 q5
  obtain ⟨u, h1, h2⟩ := g2.get j _ hj
  simp only [Rv] at h2; subst h2
  refine ⟨q5 j _ h1, ?_⟩
  unfold World.frozen?
  simp [hold]
theorem callsOf {P : Program} {g : FuncId} {fn : Func} {c : Code} (hf : P.funcs[g]? = some fn) (hb : fn.body = some c) (hname : (fn.name == "runtime.NumGoroutine") = false) {vs : Array Value} {w : World} {Post : Value → World → Prop}
    (h : CallTo P g vs w Post) : Calls P g vs w fun e w' => ∃ v, e = .returned v ∧ Post v w' := by
  have hc : (callFunc g vs).run P w = .ok (.enter g vs) w := by
    unfold callFunc
    simp only [Sem.run_bind, run_program, Result.andThen_ok, hf, hname, Bool.false_eq_true, if_false, hb, Option.isNone_some, Sem.run_pure]
  unfold CallTo at h
  rw [hc] at h
  exact h
def once0 (sz : Nat) (rest : List AV) : BS := .live sz [.agg (.int .u32 0 :: .int .i32 0 :: rest)]
def onceL (sz : Nat) (rest : List AV) : BS := .live sz [.agg (.int .u32 0 :: .int .i32 1 :: rest)]
def once1 (sz : Nat) (rest : List AV) : BS := .live sz [.agg (.int .u32 1 :: .int .i32 0 :: rest)]
theorem once_slow144 {f : Nat → BS} {n id sz : Nat} {rest : List AV} {K : AV → (Nat → BS) → Nat → Prop} (hf : f id = once0 sz rest)
    (hfill : CA Tryz.prog 132 [.ptr id 0 0] (upd f id (onceL sz rest)) n fun r f' n' => r = .tup [] ∧ ∃ rest', f' id = onceL sz rest' ∧ K (.tup []) (upd f' id (once1 sz rest')) n') :
    CA Tryz.prog 115 [.ptr id 0 0, .fn (.func 132) [.ptr id 0 0] []] f n K := by
  intro c vs hk hfr hl
  simp only [Rl] at hl
  obtain ⟨v1, r1, rfl, hv1, v2, r2, rfl, hv2, rfl⟩ := hl
  obtain ⟨e, he, hsz, hnr, hreal⟩ := hk.live id sz _ hf
  have hr : e.real = true := by
    cases h : e.real with
    | true => rfl
    | false => exact absurd (hnr h) (by simp)
  have hv1' := hv1
  simp only [Rv] at hv1'
  obtain ⟨hU, b, o, hv1e, hall⟩ := hv1'
  obtain ⟨_, hb, ho⟩ := hall e he
  simp only [Nat.zero_mul, Nat.add_zero] at ho
  subst hb; subst ho
  simp only [Rv] at hv2
  obtain ⟨fa, cb, rfl, h1, h2⟩ := hv2
  simp only [Rl] at h1 h2
  obtain ⟨v3, r3, h3, hv3, rfl⟩ := h1
  have hv3e : v3 = v1 := by
    simp only [Rv] at hv3
    obtain ⟨_, b, o, g1, g2⟩ := hv3
    obtain ⟨_, hb, ho⟩ := g2 e he
    simp only [Nat.zero_mul, Nat.add_zero] at ho
    rw [g1, hv1e, hb, ho]
  have hfa : fa = #[v1] := by
    apply Array.toList_inj.1; rw [h3, hv3e]
  have hcb : cb = #[] := Array.toList_inj.1 h2
  subst hfa; subst hcb
  refine callTo_enter Tryz.func115 rfl (by kernel_rfl) ?_
  obtain ⟨p0, p1⟩ := peek hk hf he hr (j := 0) (k := .u32) (n := 0) rfl
  obtain ⟨p2, p3⟩ := peek hk hf he hr (j := 1) (k := .i32) (n := 0) rfl
  simp only [Nat.add_zero] at p0 p1
  obtain ⟨c1, hc1, hk1, hs1, hm1⟩ := poke hk hf he hr (j := 1) (by simp) (a := .int .i32 1) (v := .int .i32 1) rfl rfl
  have hk1' : HOk c1 (upd f id (onceL sz rest)) := hk1
  have hfr1 : ∀ j, upd f id (onceL sz rest) j = .fresh ↔ n ≤ j := fun j => by
    by_cases hj : j = id
    · subst hj
      rw [upd_same, ← hfr j, hf]; simp [onceL, once0]
    · rw [upd_ne _ _ _ hj]; exact hfr j
  have hcall := hfill c1 [v1] hk1' hfr1 (by simp only [Rl]; exact ⟨v1, [], rfl, hv1.keep hs1 hk.shut, rfl⟩)
  rw [hc1] at hcall
  have hcalls := callsOf Tryz.func132 rfl (by kernel_rfl) hcall
  rw [hv1e]
  rw [hv1e] at hcalls
  refine (on_slow144 e.block e.base _ c.w (fun w2 => ∃ (c2 : Cx) (f2 : Nat → BS) (n2 : Nat) (rest' : List AV), c2.w = w2 ∧ HOk c2 f2 ∧ Stp c c2 ∧ c2.mu id = some e ∧ f2 id = onceL sz rest' ∧ K (.tup []) (upd f2 id (once1 sz rest')) n2 ∧ n ≤ n2 ∧ ∀ j, f2 j = .fresh ↔ n2 ≤ j) p0 p2 p1 p3 (hcalls.mono ?_)).mono ?_
  · rintro e' w' ⟨v, rfl, c2, r, f2, n2, rfl, ⟨rfl, rest', hf2, hK⟩, hk2, hrv, hs2, hn2, hfr2⟩
    obtain ⟨e2, he2, _⟩ := hk2.live id sz _ hf2
    have hee : c2.mu id = some e := by
      rcases hs2.mu id (hs1.U _ hU) with h | h
      · rw [h, hm1]; exact he
      · rw [h] at he2; cases he2
    obtain ⟨s0, s1⟩ := peek hk2 hf2 hee hr (j := 0) (k := .u32) (n := 0) rfl
    obtain ⟨s2, s3⟩ := peek hk2 hf2 hee hr (j := 1) (k := .i32) (n := 1) rfl
    simp only [Nat.add_zero] at s0 s1
    simp only [Rv] at hrv
    obtain ⟨us, rfl, hus⟩ := hrv
    simp only [Rl] at hus
    have : us = #[] := Array.toList_inj.1 hus
    subst this
    exact ⟨rfl, s0, s2, s1, s3, c2, f2, n2, rest', rfl, hk2, hs1.trans hs2, hee, hf2, hK, hn2, hfr2⟩
  · rintro e' w' ⟨rfl, w2, ⟨c2, f2, n2, rest', rfl, hk2, hs2, hee, hf2, hK, hn2, hfr2⟩, rfl⟩
    obtain ⟨c4, hc4, hk4, hs4, hm4⟩ := poke hk2.drew hf2 hee hr (j := 0) (by simp) (a := .int .u32 1) (v := .int .u32 1) rfl rfl
    obtain ⟨c5, hc5, hk5, hs5, hm5⟩ := poke hk4 (upd_same _ _ _) (by rw [hm4]; exact hee) hr (j := 1) (by simp) (a := .int .i32 0) (v := .int .i32 0) rfl rfl
    simp only [Nat.add_zero] at hc4
    refine ⟨_, rfl, c5, .tup [], upd f2 id (once1 sz rest'), n2, ?_, hK, ?_, ?_, ((hs2.trans (Stp.drew c2)).trans hs4).trans hs5, hn2, fun j => ?_⟩
    · rw [hc5, hc4]; rfl
    · have : upd (upd f2 id (.live sz [.agg ((.int .u32 0 :: .int .i32 1 :: rest').set 0 (.int .u32 1))])) id (.live sz [.agg (((.int .u32 0 :: .int .i32 1 :: rest').set 0 (.int .u32 1)).set 1 (.int .i32 0))]) = upd f2 id (once1 sz rest') := by
        funext j; unfold upd; split <;> rfl
      rw [← this]; exact hk5
    · simp only [Rv]; exact ⟨#[], rfl, by simp only [Rl]⟩
    · by_cases hj : j = id
      · subst hj
        rw [upd_same, ← hfr2 j, hf2]; simp [onceL, once1]
      · rw [upd_ne _ _ _ hj]; exact hfr2 j
theorem on_load (a : Addr) (x : Int) (w : World) (hc : w.cell? a = some (.int .u32 x)) :
    Calls Tryz.prog 114 #[.pointer (some a)] w fun e w' => e = .returned (.bool (x != 0)) ∧ w' = w := by
  have hl := run_call_load (P := Tryz.prog) Tryz.func169 (by kernel_rfl) (by kernel_rfl) (by kernel_rfl) .u32 (by kernel_rfl) hc
  go_enter Tryz.func114, Tryz.ntmps114
  go_wp2
  refine bodyPost_ret (results_tmp rfl _ _ _) rfl ?_
  exact ⟨rfl, rfl⟩
theorem once_load {f : Nat → BS} {n id sz : Nat} {x : Int} {rest : List AV} {K : AV → (Nat → BS) → Nat → Prop} (hf : f id = .live sz [.agg (.int .u32 x :: rest)]) (hK : K (.bool (x != 0)) f n) :
    CA Tryz.prog 114 [.ptr id 0 0] f n K := by
  intro c vs hk hfr hl
  simp only [Rl] at hl
  obtain ⟨v1, r1, rfl, hv1, rfl⟩ := hl
  obtain ⟨e, he, hsz, hnr, hreal⟩ := hk.live id sz _ hf
  have hr : e.real = true := by
    cases h : e.real with
    | true => rfl
    | false => exact absurd (hnr h) (by simp)
  simp only [Rv] at hv1
  obtain ⟨hU, b, o, hv1e, hall⟩ := hv1
  obtain ⟨_, hb, ho⟩ := hall e he
  simp only [Nat.zero_mul, Nat.add_zero] at ho
  subst hb; subst ho
  subst hv1e
  obtain ⟨p0, p1⟩ := peek hk hf he hr (j := 0) (k := .u32) (n := x) rfl
  simp only [Nat.add_zero] at p0
  refine callTo_enter Tryz.func114 rfl (by kernel_rfl) ((on_load _ x c.w p0).mono ?_)
  rintro e' w' ⟨rfl, rfl⟩
  exact ⟨_, rfl, c, _, f, n, rfl, hK, hk, by simp only [Rv], Stp.refl c, Nat.le_refl _, hfr⟩
theorem once_do1 {f : Nat → BS} {n id sz : Nat} {g : AV} {rest : List AV} {K : AV → (Nat → BS) → Nat → Prop} (hf : f id = once1 sz rest) (hK : K (.tup []) f n) :
    CA Tryz.prog 56 [.ptr id 0 0, g] f n K := by
  refine CA.of_go mixed Tryz.func56 rfl (rs := []) rfl (by kernel_rfl) ?_
  simp -implicitDefEqProofs [go_sem]
  refine once_load hf ?_
  simp -implicitDefEqProofs [go_sem]
  exact hK
theorem once_do144 {f : Nat → BS} {n id sz : Nat} {rest : List AV} {K : AV → (Nat → BS) → Nat → Prop} (hf : f id = once0 sz rest)
    (hfill : CA Tryz.prog 132 [.ptr id 0 0] (upd f id (onceL sz rest)) n fun r f' n' => r = .tup [] ∧ ∃ rest', f' id = onceL sz rest' ∧ K (.tup []) (upd f' id (once1 sz rest')) n') :
    CA Tryz.prog 56 [.ptr id 0 0, .fn (.func 132) [.ptr id 0 0] []] f n K := by
  refine CA.of_go mixed Tryz.func56 rfl (rs := []) rfl (by kernel_rfl) ?_
  simp -implicitDefEqProofs [go_sem]
  refine once_load hf ?_
  simp -implicitDefEqProofs [go_sem]
  refine once_slow144 hf (hfill.mono ?_)
  rintro r f' n' ⟨h1, rest', h2, h3⟩
  refine ⟨h1, rest', h2, ?_⟩
  simp -implicitDefEqProofs [go_sem]
  exact h3
set_option maxRecDepth 100000
theorem on_slow131 (b off : Nat) (v : Value) (w : World) (Q : World → Prop)
    (h0 : w.cell? ⟨b, off, none⟩ = some (.int .u32 0)) (h1 : w.cell? ⟨b, off + 1, none⟩ = some (.int .i32 0))
    (_f0 : w.frozen? ⟨b, off, none⟩ = false) (f1 : w.frozen? ⟨b, off + 1, none⟩ = false)
    (hfill : Calls Tryz.prog 204 #[v] (w.setCell ⟨b, off + 1, none⟩ (.int .i32 1)) fun e w2 => e = .returned (.tuple #[]) ∧
      w2.cell? ⟨b, off, none⟩ = some (.int .u32 0) ∧ w2.cell? ⟨b, off + 1, none⟩ = some (.int .i32 1) ∧ w2.frozen? ⟨b, off, none⟩ = false ∧ w2.frozen? ⟨b, off + 1, none⟩ = false ∧ Q w2) :
    Calls Tryz.prog 115 #[.pointer (some ⟨b, off, none⟩), .func (.func 204) #[v] #[]] w fun e w' => e = .returned (.tuple #[]) ∧
      ∃ w2, Q w2 ∧ w' = (w2.drew.setCell ⟨b, off, none⟩ (.int .u32 1)).setCell ⟨b, off + 1, none⟩ (.int .i32 0) := by
  have hl := on_load0 ⟨b, off, none⟩ (w.setCell ⟨b, off + 1, none⟩ (.int .i32 1)) ((World.cell?_setCell_other _ ⟨b, off + 1, none⟩ ⟨b, off, none⟩ _ (by simp)).trans h0)
  have hnot : ∀ (x : Bool) (w : World), (Op.unary .not (.bool x)).run Tryz.prog w = .ok (.bool (!x)) w := fun _ _ => rfl
  go_enter_defers Tryz.func115, Tryz.ntmps115
  go_wp2_with (first | (go_at_call 114; refine hl.mono ?_; rintro e w' ⟨rfl, rfl⟩) | (go_at_call 170; refine (on_lock ⟨b, off + 1, none⟩ _ (by go_simp) (by go_simp)).mono ?_; rintro e w' ⟨rfl, rfl⟩) | (go_at_call 204; refine hfill.mono ?_; rintro e w' ⟨rfl, g0, g1, g2, g3, gQ⟩))
  refine leaves_cons (f := 172) (args := #[.pointer (some ⟨b, off, none⟩), .bool true]) (by simp) (by simp [go_sem]) ?_
  refine (on_store ⟨b, off, none⟩ (.int .u32 0) .returning _ g0 (by simp [g2])).mono ?_
  rintro e u' w'' ⟨rfl, rfl, rfl⟩
  refine leaves_cons (f := 171) (args := #[.pointer (some ⟨b, off + 1, none⟩)]) (by simp [settle]) (by simp [go_sem]) ?_
  refine (on_unlock ⟨b, off + 1, none⟩ _ _ ?_ (by simp [g3])).mono ?_
  · refine (World.cell?_setCell_other _ ⟨b, off, none⟩ ⟨b, off + 1, none⟩ _ (by simp)).trans ?_
    rw [World.cell?_drew]
    exact g1
  rintro e u' w'' ⟨rfl, rfl, rfl⟩
  simp [Leaves, settle, results, Tryz.results115]
  exact ⟨_, gQ, rfl⟩
set_option maxRecDepth 20000
theorem once_slow131 {f : Nat → BS} {n id sz : Nat} {rest : List AV} {K : AV → (Nat → BS) → Nat → Prop} (hf : f id = once0 sz rest)
    (hfill : CA Tryz.prog 204 [.ptr id 0 0] (upd f id (onceL sz rest)) n fun r f' n' => r = .tup [] ∧ ∃ rest', f' id = onceL sz rest' ∧ K (.tup []) (upd f' id (once1 sz rest')) n') :
    CA Tryz.prog 115 [.ptr id 0 0, .fn (.func 204) [.ptr id 0 0] []] f n K := by
  intro c vs hk hfr hl
  simp only [Rl] at hl
  obtain ⟨v1, r1, rfl, hv1, v2, r2, rfl, hv2, rfl⟩ := hl
  obtain ⟨e, he, hsz, hnr, hreal⟩ := hk.live id sz _ hf
  have hr : e.real = true := by
    cases h : e.real with
    | true => rfl
    | false => exact absurd (hnr h) (by simp)
  have hv1' := hv1
  simp only [Rv] at hv1'
  obtain ⟨hU, b, o, hv1e, hall⟩ := hv1'
  obtain ⟨_, hb, ho⟩ := hall e he
  simp only [Nat.zero_mul, Nat.add_zero] at ho
  subst hb; subst ho
  simp only [Rv] at hv2
  obtain ⟨fa, cb, rfl, h1, h2⟩ := hv2
  simp only [Rl] at h1 h2
  obtain ⟨v3, r3, h3, hv3, rfl⟩ := h1
  have hv3e : v3 = v1 := by
    simp only [Rv] at hv3
    obtain ⟨_, b, o, g1, g2⟩ := hv3
    obtain ⟨_, hb, ho⟩ := g2 e he
    simp only [Nat.zero_mul, Nat.add_zero] at ho
    rw [g1, hv1e, hb, ho]
  have hfa : fa = #[v1] := by
    apply Array.toList_inj.1; rw [h3, hv3e]
  have hcb : cb = #[] := Array.toList_inj.1 h2
  subst hfa; subst hcb
  refine callTo_enter Tryz.func115 rfl (by kernel_rfl) ?_
  obtain ⟨p0, p1⟩ := peek hk hf he hr (j := 0) (k := .u32) (n := 0) rfl
  obtain ⟨p2, p3⟩ := peek hk hf he hr (j := 1) (k := .i32) (n := 0) rfl
  simp only [Nat.add_zero] at p0 p1
  obtain ⟨c1, hc1, hk1, hs1, hm1⟩ := poke hk hf he hr (j := 1) (by simp) (a := .int .i32 1) (v := .int .i32 1) rfl rfl
  have hk1' : HOk c1 (upd f id (onceL sz rest)) := hk1
  have hfr1 : ∀ j, upd f id (onceL sz rest) j = .fresh ↔ n ≤ j := fun j => by
    by_cases hj : j = id
    · subst hj
      rw [upd_same, ← hfr j, hf]; simp [onceL, once0]
    · rw [upd_ne _ _ _ hj]; exact hfr j
  have hcall := hfill c1 [v1] hk1' hfr1 (by simp only [Rl]; exact ⟨v1, [], rfl, hv1.keep hs1 hk.shut, rfl⟩)
  rw [hc1] at hcall
  have hcalls := callsOf Tryz.func204 rfl (by kernel_rfl) hcall
  rw [hv1e]
  rw [hv1e] at hcalls
  refine (on_slow131 e.block e.base _ c.w (fun w2 => ∃ (c2 : Cx) (f2 : Nat → BS) (n2 : Nat) (rest' : List AV), c2.w = w2 ∧ HOk c2 f2 ∧ Stp c c2 ∧ c2.mu id = some e ∧ f2 id = onceL sz rest' ∧ K (.tup []) (upd f2 id (once1 sz rest')) n2 ∧ n ≤ n2 ∧ ∀ j, f2 j = .fresh ↔ n2 ≤ j) p0 p2 p1 p3 (hcalls.mono ?_)).mono ?_
  · rintro e' w' ⟨v, rfl, c2, r, f2, n2, rfl, ⟨rfl, rest', hf2, hK⟩, hk2, hrv, hs2, hn2, hfr2⟩
    obtain ⟨e2, he2, _⟩ := hk2.live id sz _ hf2
    have hee : c2.mu id = some e := by
      rcases hs2.mu id (hs1.U _ hU) with h | h
      · rw [h, hm1]; exact he
      · rw [h] at he2; cases he2
    obtain ⟨s0, s1⟩ := peek hk2 hf2 hee hr (j := 0) (k := .u32) (n := 0) rfl
    obtain ⟨s2, s3⟩ := peek hk2 hf2 hee hr (j := 1) (k := .i32) (n := 1) rfl
    simp only [Nat.add_zero] at s0 s1
    simp only [Rv] at hrv
    obtain ⟨us, rfl, hus⟩ := hrv
    simp only [Rl] at hus
    have : us = #[] := Array.toList_inj.1 hus
    subst this
    exact ⟨rfl, s0, s2, s1, s3, c2, f2, n2, rest', rfl, hk2, hs1.trans hs2, hee, hf2, hK, hn2, hfr2⟩
  · rintro e' w' ⟨rfl, w2, ⟨c2, f2, n2, rest', rfl, hk2, hs2, hee, hf2, hK, hn2, hfr2⟩, rfl⟩
    obtain ⟨c4, hc4, hk4, hs4, hm4⟩ := poke hk2.drew hf2 hee hr (j := 0) (by simp) (a := .int .u32 1) (v := .int .u32 1) rfl rfl
    obtain ⟨c5, hc5, hk5, hs5, hm5⟩ := poke hk4 (upd_same _ _ _) (by rw [hm4]; exact hee) hr (j := 1) (by simp) (a := .int .i32 0) (v := .int .i32 0) rfl rfl
    simp only [Nat.add_zero] at hc4
    refine ⟨_, rfl, c5, .tup [], upd f2 id (once1 sz rest'), n2, ?_, hK, ?_, ?_, ((hs2.trans (Stp.drew c2)).trans hs4).trans hs5, hn2, fun j => ?_⟩
    · rw [hc5, hc4]; rfl
    · have : upd (upd f2 id (.live sz [.agg ((.int .u32 0 :: .int .i32 1 :: rest').set 0 (.int .u32 1))])) id (.live sz [.agg (((.int .u32 0 :: .int .i32 1 :: rest').set 0 (.int .u32 1)).set 1 (.int .i32 0))]) = upd f2 id (once1 sz rest') := by
        funext j; unfold upd; split <;> rfl
      rw [← this]; exact hk5
    · simp only [Rv]; exact ⟨#[], rfl, by simp only [Rl]⟩
    · by_cases hj : j = id
      · subst hj
        rw [upd_same, ← hfr2 j, hf2]; simp [onceL, once1]
      · rw [upd_ne _ _ _ hj]; exact hfr2 j
theorem once_do131 {f : Nat → BS} {n id sz : Nat} {rest : List AV} {K : AV → (Nat → BS) → Nat → Prop} (hf : f id = once0 sz rest)
    (hfill : CA Tryz.prog 204 [.ptr id 0 0] (upd f id (onceL sz rest)) n fun r f' n' => r = .tup [] ∧ ∃ rest', f' id = onceL sz rest' ∧ K (.tup []) (upd f' id (once1 sz rest')) n') :
    CA Tryz.prog 56 [.ptr id 0 0, .fn (.func 204) [.ptr id 0 0] []] f n K := by
  refine CA.of_go mixed Tryz.func56 rfl (rs := []) rfl (by kernel_rfl) ?_
  simp -implicitDefEqProofs [go_sem]
  refine once_load hf ?_
  simp -implicitDefEqProofs [go_sem]
  refine once_slow131 hf (hfill.mono ?_)
  rintro r f' n' ⟨h1, rest', h2, h3⟩
  refine ⟨h1, rest', h2, ?_⟩
  simp -implicitDefEqProofs [go_sem]
  exact h3
set_option maxRecDepth 100000
theorem on_slow21 (b off : Nat) (v : Value) (w : World) (Q : World → Prop)
    (h0 : w.cell? ⟨b, off, none⟩ = some (.int .u32 0)) (h1 : w.cell? ⟨b, off + 1, none⟩ = some (.int .i32 0))
    (_f0 : w.frozen? ⟨b, off, none⟩ = false) (f1 : w.frozen? ⟨b, off + 1, none⟩ = false)
    (hfill : Calls Tryz.prog 57 #[v] (w.setCell ⟨b, off + 1, none⟩ (.int .i32 1)) fun e w2 => e = .returned (.tuple #[]) ∧
      w2.cell? ⟨b, off, none⟩ = some (.int .u32 0) ∧ w2.cell? ⟨b, off + 1, none⟩ = some (.int .i32 1) ∧ w2.frozen? ⟨b, off, none⟩ = false ∧ w2.frozen? ⟨b, off + 1, none⟩ = false ∧ Q w2) :
    Calls Tryz.prog 115 #[.pointer (some ⟨b, off, none⟩), .func (.func 57) #[v] #[]] w fun e w' => e = .returned (.tuple #[]) ∧
      ∃ w2, Q w2 ∧ w' = (w2.drew.setCell ⟨b, off, none⟩ (.int .u32 1)).setCell ⟨b, off + 1, none⟩ (.int .i32 0) := by
  have hl := on_load0 ⟨b, off, none⟩ (w.setCell ⟨b, off + 1, none⟩ (.int .i32 1)) ((World.cell?_setCell_other _ ⟨b, off + 1, none⟩ ⟨b, off, none⟩ _ (by simp)).trans h0)
  have hnot : ∀ (x : Bool) (w : World), (Op.unary .not (.bool x)).run Tryz.prog w = .ok (.bool (!x)) w := fun _ _ => rfl
  go_enter_defers Tryz.func115, Tryz.ntmps115
  go_wp2_with (first | (go_at_call 114; refine hl.mono ?_; rintro e w' ⟨rfl, rfl⟩) | (go_at_call 170; refine (on_lock ⟨b, off + 1, none⟩ _ (by go_simp) (by go_simp)).mono ?_; rintro e w' ⟨rfl, rfl⟩) | (go_at_call 57; refine hfill.mono ?_; rintro e w' ⟨rfl, g0, g1, g2, g3, gQ⟩))
  refine leaves_cons (f := 172) (args := #[.pointer (some ⟨b, off, none⟩), .bool true]) (by simp) (by simp [go_sem]) ?_
  refine (on_store ⟨b, off, none⟩ (.int .u32 0) .returning _ g0 (by simp [g2])).mono ?_
  rintro e u' w'' ⟨rfl, rfl, rfl⟩
  refine leaves_cons (f := 171) (args := #[.pointer (some ⟨b, off + 1, none⟩)]) (by simp [settle]) (by simp [go_sem]) ?_
  refine (on_unlock ⟨b, off + 1, none⟩ _ _ ?_ (by simp [g3])).mono ?_
  · refine (World.cell?_setCell_other _ ⟨b, off, none⟩ ⟨b, off + 1, none⟩ _ (by simp)).trans ?_
    rw [World.cell?_drew]
    exact g1
  rintro e u' w'' ⟨rfl, rfl, rfl⟩
  simp [Leaves, settle, results, Tryz.results115]
  exact ⟨_, gQ, rfl⟩
set_option maxRecDepth 20000
theorem once_slow21 {f : Nat → BS} {n id sz : Nat} {rest : List AV} {K : AV → (Nat → BS) → Nat → Prop} (hf : f id = once0 sz rest)
    (hfill : CA Tryz.prog 57 [.ptr id 0 0] (upd f id (onceL sz rest)) n fun r f' n' => r = .tup [] ∧ ∃ rest', f' id = onceL sz rest' ∧ K (.tup []) (upd f' id (once1 sz rest')) n') :
    CA Tryz.prog 115 [.ptr id 0 0, .fn (.func 57) [.ptr id 0 0] []] f n K := by
  intro c vs hk hfr hl
  simp only [Rl] at hl
  obtain ⟨v1, r1, rfl, hv1, v2, r2, rfl, hv2, rfl⟩ := hl
  obtain ⟨e, he, hsz, hnr, hreal⟩ := hk.live id sz _ hf
  have hr : e.real = true := by
    cases h : e.real with
    | true => rfl
    | false => exact absurd (hnr h) (by simp)
  have hv1' := hv1
  simp only [Rv] at hv1'
  obtain ⟨hU, b, o, hv1e, hall⟩ := hv1'
  obtain ⟨_, hb, ho⟩ := hall e he
  simp only [Nat.zero_mul, Nat.add_zero] at ho
  subst hb; subst ho
  simp only [Rv] at hv2
  obtain ⟨fa, cb, rfl, h1, h2⟩ := hv2
  simp only [Rl] at h1 h2
  obtain ⟨v3, r3, h3, hv3, rfl⟩ := h1
  have hv3e : v3 = v1 := by
    simp only [Rv] at hv3
    obtain ⟨_, b, o, g1, g2⟩ := hv3
    obtain ⟨_, hb, ho⟩ := g2 e he
    simp only [Nat.zero_mul, Nat.add_zero] at ho
    rw [g1, hv1e, hb, ho]
  have hfa : fa = #[v1] := by
    apply Array.toList_inj.1; rw [h3, hv3e]
  have hcb : cb = #[] := Array.toList_inj.1 h2
  subst hfa; subst hcb
  refine callTo_enter Tryz.func115 rfl (by kernel_rfl) ?_
  obtain ⟨p0, p1⟩ := peek hk hf he hr (j := 0) (k := .u32) (n := 0) rfl
  obtain ⟨p2, p3⟩ := peek hk hf he hr (j := 1) (k := .i32) (n := 0) rfl
  simp only [Nat.add_zero] at p0 p1
  obtain ⟨c1, hc1, hk1, hs1, hm1⟩ := poke hk hf he hr (j := 1) (by simp) (a := .int .i32 1) (v := .int .i32 1) rfl rfl
  have hk1' : HOk c1 (upd f id (onceL sz rest)) := hk1
  have hfr1 : ∀ j, upd f id (onceL sz rest) j = .fresh ↔ n ≤ j := fun j => by
    by_cases hj : j = id
    · subst hj
      rw [upd_same, ← hfr j, hf]; simp [onceL, once0]
    · rw [upd_ne _ _ _ hj]; exact hfr j
  have hcall := hfill c1 [v1] hk1' hfr1 (by simp only [Rl]; exact ⟨v1, [], rfl, hv1.keep hs1 hk.shut, rfl⟩)
  rw [hc1] at hcall
  have hcalls := callsOf Tryz.func57 rfl (by kernel_rfl) hcall
  rw [hv1e]
  rw [hv1e] at hcalls
  refine (on_slow21 e.block e.base _ c.w (fun w2 => ∃ (c2 : Cx) (f2 : Nat → BS) (n2 : Nat) (rest' : List AV), c2.w = w2 ∧ HOk c2 f2 ∧ Stp c c2 ∧ c2.mu id = some e ∧ f2 id = onceL sz rest' ∧ K (.tup []) (upd f2 id (once1 sz rest')) n2 ∧ n ≤ n2 ∧ ∀ j, f2 j = .fresh ↔ n2 ≤ j) p0 p2 p1 p3 (hcalls.mono ?_)).mono ?_
  · rintro e' w' ⟨v, rfl, c2, r, f2, n2, rfl, ⟨rfl, rest', hf2, hK⟩, hk2, hrv, hs2, hn2, hfr2⟩
    obtain ⟨e2, he2, _⟩ := hk2.live id sz _ hf2
    have hee : c2.mu id = some e := by
      rcases hs2.mu id (hs1.U _ hU) with h | h
      · rw [h, hm1]; exact he
      · rw [h] at he2; cases he2
    obtain ⟨s0, s1⟩ := peek hk2 hf2 hee hr (j := 0) (k := .u32) (n := 0) rfl
    obtain ⟨s2, s3⟩ := peek hk2 hf2 hee hr (j := 1) (k := .i32) (n := 1) rfl
    simp only [Nat.add_zero] at s0 s1
    simp only [Rv] at hrv
    obtain ⟨us, rfl, hus⟩ := hrv
    simp only [Rl] at hus
    have : us = #[] := Array.toList_inj.1 hus
    subst this
    exact ⟨rfl, s0, s2, s1, s3, c2, f2, n2, rest', rfl, hk2, hs1.trans hs2, hee, hf2, hK, hn2, hfr2⟩
  · rintro e' w' ⟨rfl, w2, ⟨c2, f2, n2, rest', rfl, hk2, hs2, hee, hf2, hK, hn2, hfr2⟩, rfl⟩
    obtain ⟨c4, hc4, hk4, hs4, hm4⟩ := poke hk2.drew hf2 hee hr (j := 0) (by simp) (a := .int .u32 1) (v := .int .u32 1) rfl rfl
    obtain ⟨c5, hc5, hk5, hs5, hm5⟩ := poke hk4 (upd_same _ _ _) (by rw [hm4]; exact hee) hr (j := 1) (by simp) (a := .int .i32 0) (v := .int .i32 0) rfl rfl
    simp only [Nat.add_zero] at hc4
    refine ⟨_, rfl, c5, .tup [], upd f2 id (once1 sz rest'), n2, ?_, hK, ?_, ?_, ((hs2.trans (Stp.drew c2)).trans hs4).trans hs5, hn2, fun j => ?_⟩
    · rw [hc5, hc4]; rfl
    · have : upd (upd f2 id (.live sz [.agg ((.int .u32 0 :: .int .i32 1 :: rest').set 0 (.int .u32 1))])) id (.live sz [.agg (((.int .u32 0 :: .int .i32 1 :: rest').set 0 (.int .u32 1)).set 1 (.int .i32 0))]) = upd f2 id (once1 sz rest') := by
        funext j; unfold upd; split <;> rfl
      rw [← this]; exact hk5
    · simp only [Rv]; exact ⟨#[], rfl, by simp only [Rl]⟩
    · by_cases hj : j = id
      · subst hj
        rw [upd_same, ← hfr2 j, hf2]; simp [onceL, once1]
      · rw [upd_ne _ _ _ hj]; exact hfr2 j
theorem once_do21 {f : Nat → BS} {n id sz : Nat} {rest : List AV} {K : AV → (Nat → BS) → Nat → Prop} (hf : f id = once0 sz rest)
    (hfill : CA Tryz.prog 57 [.ptr id 0 0] (upd f id (onceL sz rest)) n fun r f' n' => r = .tup [] ∧ ∃ rest', f' id = onceL sz rest' ∧ K (.tup []) (upd f' id (once1 sz rest')) n') :
    CA Tryz.prog 56 [.ptr id 0 0, .fn (.func 57) [.ptr id 0 0] []] f n K := by
  refine CA.of_go mixed Tryz.func56 rfl (rs := []) rfl (by kernel_rfl) ?_
  simp -implicitDefEqProofs [go_sem]
  refine once_load hf ?_
  simp -implicitDefEqProofs [go_sem]
  refine once_slow21 hf (hfill.mono ?_)
  rintro r f' n' ⟨h1, rest', h2, h3⟩
  refine ⟨h1, rest', h2, ?_⟩
  simp -implicitDefEqProofs [go_sem]
  exact h3
end Go.Proofs.YtgiheamjhoiojaaGreat
