/-
  The machine does what the value operations say: all of them at once; and the reading ones.
-/
import Derived.Test.YtpmahilkkoengaaFwF
namespace Go.Proofs.Ytpmahilkkoengaa
open Go
set_option linter.unusedSimpArgs false
set_option linter.unusedVariables false

theorem vop_sound {P : Program} {c : Cx} {ρA : Operand → AV} {ρ : Operand → Value} (hr : ∀ x, Rv c (ρA x) (ρ x)) {s : Prop} {v : AV} {o : Oper} (h : vop P ρA o.op = some (s, v)) (hs : s) : VRun P c (execOp ρ o) v := by
  obtain ⟨dst, op, ty, pos, after, guard⟩ := o
  simp only at h
  cases op <;> (try (simp only [vop] at h; cases h; done))
  case move x =>
    simp only [vop] at h; injection h with h; injection h with h1 h2; subst h2
    exact ⟨ρ x, rfl, hr x⟩
  case assign x =>
    simp only [vop] at h; injection h with h; injection h with h1 h2; subst h2
    exact ⟨ρ x, rfl, hr x⟩
  case pick q a b =>
    simp only [vop] at h
    split at h
    · rename_i t hq
      injection h with h; injection h with h1 h2; subst h2
      have := hr q; rw [hq] at this; simp only [Rv] at this
      cases t
      · exact ⟨ρ b, by simp [execOp, this, asBool], by simpa using hr b⟩
      · exact ⟨ρ a, by simp [execOp, this, asBool], by simpa using hr a⟩
    · cases h
  case build t parts => exact VRun.of (v_build hr h hs)
  case nilCheck x =>
    simp only [vop] at h
    have hx := hr x
    split at h
    · rename_i id idx off hxa
      injection h with h; injection h with h1 h2; subst h2
      rw [hxa] at hx
      have hx' := hx
      simp only [Rv] at hx
      obtain ⟨hU, b, o, hxv, hall⟩ := hx
      rw [hxv] at hx'
      exact ⟨_, by simp only [execOp, hxv]; rfl, hx'⟩
    · rename_i cs hxa
      injection h with h; injection h with h1 h2; subst h2
      rw [hxa] at hx
      have hx' := hx
      simp only [Rv] at hx
      obtain ⟨b, o, vs, hxv, hall⟩ := hx
      rw [hxv] at hx'
      exact ⟨_, by simp only [execOp, hxv]; rfl, hx'⟩
    · cases h
  case binOp op t x y yt =>
    simp only [vop] at h
    have hx := hr x
    have hy := hr y
    split at h
    · rename_i a hxa
      split at h
      · rename_i ti ht
        split at h
        · rename_i hk
          obtain ⟨d, ii, z, hd, _, _, _, _, hk0, _⟩ := tiOf_some ht
          rw [hk0] at hk
          have := tk_bool hk; subst this
          rw [hxa] at hx; simp only [Rv] at hx
          obtain ⟨r, h1, h2⟩ := binA_bool (t := t) hd h hy
          refine ⟨r, run_value ?_, h2⟩
          rw [hx]
          simp only [Sem.run_bind, eqGuard_ok (P := P) (op := op) (t := t) (xo := x) (yo := y) (a := .bool a) (b := ρ y) c.w ⟨by simp, by simp⟩, Result.andThen_ok]
          exact h1
        · cases h
      · cases h
    · rename_i k a hxa
      rw [hxa] at hx; simp only [Rv] at hx
      obtain ⟨r, h1, h2⟩ := binA_int (P := P) (t := t) h hs hy
      refine ⟨r, run_value ?_, h2⟩
      rw [hx]
      simp only [Sem.run_bind, eqGuard_ok (P := P) (op := op) (t := t) (xo := x) (yo := y) (a := .int k a) (b := ρ y) c.w ⟨by simp, by simp⟩, Result.andThen_ok]
      exact h1
    · rename_i a hxa
      rw [hxa] at hx; simp only [Rv] at hx
      obtain ⟨r, h1, h2⟩ := binA_str (P := P) (t := t) h hs hy
      refine ⟨r, run_value ?_, h2⟩
      rw [hx]
      simp only [Sem.run_bind, eqGuard_ok (P := P) (op := op) (t := t) (xo := x) (yo := y) (a := .string a) (b := ρ y) c.w ⟨by simp, by simp⟩, Result.andThen_ok]
      exact h1
    · cases h
  case unOp op t x => simp only [vop] at h; exact VRun.of (unA_sound h (hr x))
  case makeFunc fn first cap =>
    simp only [vop] at h; injection h with h; injection h with h1 h2; subst h2
    refine ⟨_, by simp only [execOp, Instr.makeFunc]; rfl, ?_⟩
    simp only [Rv]
    exact ⟨_, _, rfl, by simpa using Rl.map hr first.toList, by simpa using Rl.map hr cap.toList⟩
  case fieldAddr t x f => exact VRun.of (v_fieldAddr hr h hs)
  case field t x f => exact VRun.of (v_field hr h hs)
  case indexAddr t x i => exact VRun.of (v_indexAddr hr h hs)
  case index t x i => exact VRun.of (v_index hr h hs)
  case extract x i =>
    simp only [vop] at h
    have hx := hr x
    split at h
    · rename_i cs hxa
      injection h with h; injection h with h1 h2; subst h1; subst h2
      rw [hxa] at hx; simp only [Rv] at hx
      obtain ⟨vs, hxv, hl⟩ := hx
      obtain ⟨u, hu, hru⟩ := hl.get i _ (List.getElem?_eq_getElem hs)
      refine VRun.of ⟨u, ?_, ?_⟩
      · have hu' : vs[i]? = some u := by simpa using hu
        simp only [Instr.extract, hxv, hu', Sem.run_pure]
      · rw [List.getD_eq_getElem?_getD, List.getElem?_eq_getElem hs]; exact hru
    · cases h
  case slice t x lo hi mx =>
    simp only [vop] at h
    have hx := hr x
    split at h
    · rename_i ti lo' hi' mx' ht hlo hhi hmx
      obtain ⟨d, ii, z, hd, _, _, _, _, hk0, _⟩ := tiOf_some ht
      split at h
      · rename_i e sz tight l hk hxa
        rw [hk0] at hk
        have := tk_slice hk; subst this
        rw [hxa] at hx
        split at h
        · rename_i te hte
          obtain ⟨d', i', z', hd', hi'', _, hsi, _⟩ := tiOf_some hte
          split at h
          · rename_i hsz
            split at h
            · cases h
            · rename_i h4
              exact VRun.of (slice_sl hd hi'' (by rw [← hsi]; exact hsz) hx (optInt_spec hr hlo) (optInt_spec hr hhi) (optInt_spec hr hmx) (by simpa using h4) h hs)
          · cases h
        · cases h
      · rename_i e sz id off len hk hxa
        rw [hk0] at hk
        have := tk_slice hk; subst this
        rw [hxa] at hx
        split at h
        · rename_i te hte
          obtain ⟨d', i', z', hd', hi'', _, hsi, _⟩ := tiOf_some hte
          split at h
          · rename_i hsz
            split at h
            · cases h
            · rename_i h4
              exact VRun.of (slice_own hd hi'' (by rw [← hsi]; exact hsz) hx (optInt_spec hr hlo) (optInt_spec hr hhi) (optInt_spec hr hmx) (by simpa using h4) h hs)
          · cases h
        · cases h
      · rename_i st hk hxa
        rw [hk0] at hk
        have := tk_string hk; subst this
        rw [hxa] at hx; simp only [Rv] at hx
        have hm := optInt_spec hr hmx
        rcases hm with ⟨hm0, rfl⟩ | ⟨k, m, _, rfl⟩
        · have := slice_str (P := P) (c := c) hd (optInt_spec hr hlo) (optInt_spec hr hhi) h hs
          rw [← hx, ← hm0] at this
          exact VRun.of this
        · simp [sliceA] at h
      · cases h
    · cases h
  case call cl =>
    obtain ⟨callee, args, argTypes⟩ := cl
    simp only [vop] at h
    split at h
    · -- len
      split at h
      · rename_i t x htl hxl
        have ha : args = #[x] := by
          have := congrArg List.toArray hxl; simpa using this
        have hat : argTypes = #[t] := by
          have := congrArg List.toArray htl; simpa using this
        have hx := hr x
        subst ha; subst hat
        have hex : ∀ r, (Builtin.len_ #[t] ty #[ρ x]).run P c.w = .ok r c.w → (execOp ρ ⟨dst, .call ⟨.builtin .len, #[x], #[t]⟩, ty, pos, after, guard⟩).run P c.w = .ok (.value r) c.w := fun r hrun => by
          simp only [execOp, resolve, Sem.run_bind, Sem.run_pure, Result.andThen_ok, invoke, builtin, List.map_toArray, List.map_cons, List.map_nil, hrun]
        split at h
        · rename_i ti st ht hxa
          split at h
          · rename_i hk
            injection h with h; injection h with h1 h2; subst h2
            obtain ⟨d, ii, z, hd, _, _, _, _, hk0, _⟩ := tiOf_some ht
            rw [hk0] at hk; have := tk_string hk; subst this
            rw [hxa] at hx; simp only [Rv] at hx
            exact ⟨_, hex _ (by simp [Builtin.len_, run_underlying hd, hx]; rfl), rfl⟩
          · cases h
        · rename_i ti sz tg l ht hxa
          split at h
          · rename_i e hk
            injection h with h; injection h with h1 h2; subst h2
            obtain ⟨d, ii, z, hd, _, _, _, _, hk0, _⟩ := tiOf_some ht
            rw [hk0] at hk; have := tk_slice hk; subst this
            rw [hxa] at hx; simp only [Rv] at hx
            obtain ⟨a, cap, hxv, _⟩ := hx
            exact ⟨_, hex _ (by simp [Builtin.len_, run_underlying hd, hxv]; rfl), rfl⟩
          · cases h
        · rename_i ti sz id off len ht hxa
          split at h
          · rename_i e hk
            injection h with h; injection h with h1 h2; subst h2
            obtain ⟨d, ii, z, hd, _, _, _, _, hk0, _⟩ := tiOf_some ht
            rw [hk0] at hk; have := tk_slice hk; subst this
            rw [hxa] at hx; simp only [Rv] at hx
            obtain ⟨_, _, a, cap, hxv, _⟩ := hx
            exact ⟨_, hex _ (by simp [Builtin.len_, run_underlying hd, hxv]; rfl), rfl⟩
          · cases h
        · rename_i ti ht _ _ _
          split at h
          · rename_i n e hk
            injection h with h; injection h with h1 h2; subst h2
            obtain ⟨d, ii, z, hd, _, _, _, _, hk0, _⟩ := tiOf_some ht
            rw [hk0] at hk; have := tk_array hk; subst this
            exact ⟨_, hex _ (by simp [Builtin.len_, run_underlying hd]; rfl), rfl⟩
          · cases h
        · cases h
      · cases h
    · split at h
      · rename_i x y hxl
        have ha : args = #[x, y] := by
          have := congrArg List.toArray hxl; simpa using this
        subst ha
        split at h
        · rename_i k a k' b hxa hya
          injection h with h; injection h with h1 h2; subst h2
          have hx := hr x; have hy := hr y
          rw [hxa] at hx; rw [hya] at hy; simp only [Rv] at hx hy
          refine ⟨_, ?_, rfl⟩
          simp only [execOp, resolve, Sem.run_bind, Sem.run_pure, Result.andThen_ok, invoke, builtin, List.map_toArray, List.map_cons, List.map_nil, Builtin.max_, List.foldlM_cons, List.foldlM_nil, hx, hy, Builtin.max2]
        · cases h
      · cases h
    · split at h
      · rename_i x y hxl
        have ha : args = #[x, y] := by
          have := congrArg List.toArray hxl; simpa using this
        subst ha
        split at h
        · rename_i k a k' b hxa hya
          injection h with h; injection h with h1 h2; subst h2
          have hx := hr x; have hy := hr y
          rw [hxa] at hx; rw [hya] at hy; simp only [Rv] at hx hy
          refine ⟨_, ?_, rfl⟩
          simp only [execOp, resolve, Sem.run_bind, Sem.run_pure, Result.andThen_ok, invoke, builtin, List.map_toArray, List.map_cons, List.map_nil, Builtin.min_, List.foldlM_cons, List.foldlM_nil, hx, hy, Builtin.min2]
        · cases h
      · cases h
    · cases h

end Go.Proofs.Ytpmahilkkoengaa
