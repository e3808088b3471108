/-
  Calls by their contracts: a call that only reads what it gets and tells a new value (Pure); a call in the heap at hand (CA). What an operation asks (aop), and that the machine carries it out.
-/
import Derived.Test.YtpmahilkkoengaaFwM
namespace Go.Proofs.Ytpmahilkkoengaa
open Go
set_option linter.unusedSimpArgs false
set_option linter.unusedVariables false

theorem lop_sound {P : Program} {id : Nat} {f : Nat → BS} {ρA : Operand → AV} {ρ : Operand → Value} {K : AV → (Nat → BS) → Prop} {o : Oper} (h : lop P id f ρA K o.op) {c : Cx} (hk : HOk c f) (hid : f id = .fresh) (hr : ∀ x, Rv c (ρA x) (ρ x)) :
    ∃ r v f' c', ((execOp ρ o).run P c.w = .ok (.value r) c'.w ∨ ((execOp ρ o).run P c.w = .ok .skip c'.w ∧ r = undef)) ∧ K v f' ∧ Rv c' v r ∧ HOk c' f' ∧ Stp c c' ∧ ∀ j, j ≠ id → f j = .fresh → f' j = .fresh := by
  obtain ⟨dst, op, ty, pos, after, guard⟩ := o
  simp only at h
  cases op <;> (try (simp only [lop] at h; done))
  case store t x v =>
    simp only [lop] at h
    split at h
    · rename_i ti i idx off ht hxa
      split at h
      · rename_i sz l hf
        obtain ⟨h1, h2, h3, h4, hK⟩ := h
        have hx := hr x
        rw [hxa] at hx
        obtain ⟨c', hrun, hk', hs⟩ := store_sound hk ht hf (a := .any) hx (hr v) h1 h2 h3 h4
        refine ⟨undef, .any, _, c', .inr ⟨?_, rfl⟩, hK, by simp only [Rv], hk', hs, fun j hj hfj => ?_⟩
        · simp only [execOp, Sem.run_bind, hrun, Result.andThen_ok, Sem.run_pure]
        · rw [upd_ne _ _ _ (fun h => by subst h; rw [hf] at hfj; cases hfj)]; exact hfj
      · exact h.elim
    · exact h.elim
  case range t x =>
    simp only [lop] at h
    split at h
    · rename_i ti s ht hxa
      split at h
      · rename_i hk1
        obtain ⟨d, i, z, hd, _, _, _, _, hk0, _⟩ := tiOf_some ht
        rw [hk0] at hk1; have := tk_string hk1; subst this
        have hx := hr x
        rw [hxa] at hx; simp only [Rv] at hx
        refine ⟨.pointer (some ⟨c.w.heap.size, 0, none⟩), _, _, c.more id (.stringIter s 0) ⟨true, c.w.heap.size, 0, 0, 0⟩, .inl ?_, h, more_ptr c id 0 _ _, iter_new hk hid s, Stp.more hk hid _ _ _, fun j hj hfj => by rw [upd_ne _ _ _ hj]; exact hfj⟩
        simp only [execOp, Instr.range, Sem.run_bind, run_underlying hd, hx, Result.andThen_ok, Sem.run_pure, run_newObj]
        rfl
      · exact h.elim
    · exact h.elim
  case next it b =>
    simp only [lop] at h
    split at h
    · rename_i i hxa
      split at h
      · rename_i s p hf
        obtain ⟨rfl, h⟩ := h
        have hx := hr it
        rw [hxa] at hx; simp only [Rv] at hx
        obtain ⟨hU, b, o, hxv, hall⟩ := hx
        obtain ⟨e, he, hre, hsz0, hb0, hobj⟩ := hk.iter i s p hf
        obtain ⟨_, rfl, rfl⟩ := hall e he
        rw [hsz0, hb0] at hxv
        simp only [Nat.zero_mul, Nat.add_zero] at hxv
        have hget : (getObj e.block).run P c.w = .ok (.stringIter s p) c.w := by
          simp only [getObj, Sem.run, hobj]
        split at h
        · rename_i hlt
          obtain ⟨q1, q2⟩ := iter_next hk hf he hre (p + (Utf8.decode s p).2)
          refine ⟨.tuple #[.bool true, goInt p, .int .i32 (Utf8.decode s p).1], _, _, c.obj e.block (.stringIter s (p + (Utf8.decode s p).2)), .inl ?_, h, ?_, q1, q2, fun j hj hfj => ?_⟩
          · simp only [execOp, Instr.next, hxv, Sem.run_bind, hget, Result.andThen_ok, hlt, if_true]
            have hset : (setObj e.block (.stringIter s (p + (Utf8.decode s p).2))).run P c.w = .ok () (c.obj e.block (.stringIter s (p + (Utf8.decode s p).2))).w := by
              simp only [setObj, Sem.run, hobj]; rfl
            rw [show (Utf8.decode s p) = ((Utf8.decode s p).1, (Utf8.decode s p).2) from rfl]
            simp only [Sem.run_bind, hset, Result.andThen_ok, Sem.run_pure]
          · simp only [Rv]
            refine ⟨_, rfl, ?_⟩
            simp only [Rl, Rv]
            exact ⟨_, _, rfl, rfl, _, _, rfl, rfl, _, _, rfl, rfl, rfl⟩
          · rw [upd_ne _ _ _ (fun h => by subst h; rw [hf] at hfj; cases hfj)]; exact hfj
        · rename_i hlt
          refine ⟨.tuple #[.bool false], _, _, c, .inl ?_, h, ?_, hk, Stp.refl c, fun j _ hfj => hfj⟩
          · simp only [execOp, Instr.next, hxv, Sem.run_bind, hget, Result.andThen_ok, hlt, if_false, Sem.run_pure]
          · simp only [Rv]
            refine ⟨_, rfl, ?_⟩
            simp only [Rl, Rv]
            exact ⟨_, _, rfl, rfl, rfl⟩
      · exact h.elim
    · exact h.elim
  case call cl =>
    obtain ⟨callee, args, argTypes⟩ := cl
    simp only [lop] at h
    split at h
    · rename_i t t' x y hat hal
      have ha : args = #[x, y] := by have := congrArg List.toArray hal; simpa using this
      have hat' : argTypes = #[t, t'] := by have := congrArg List.toArray hat; simpa using this
      subst ha; subst hat'
      split at h
      · rename_i ti ti' ht ht'
        split at h
        · rename_i e e' hke hke'
          obtain ⟨d, i, z, hd, _, _, _, _, hk0, _⟩ := tiOf_some ht
          rw [hk0] at hke; have := tk_slice hke; subst this
          obtain ⟨d', i', z', hd', _, _, _, _, hk0', _⟩ := tiOf_some ht'
          rw [hk0'] at hke'; have := tk_slice hke'; subst this
          have hex : ∀ r w', (Builtin.append_ #[t, t'] ty #[ρ x, ρ y]).run P c.w = .ok r w' → (execOp ρ ⟨dst, .call ⟨.builtin .append, #[x, y], #[t, t']⟩, ty, pos, after, guard⟩).run P c.w = .ok (.value r) w' := fun r w' hrun => by
            simp only [execOp, resolve, Sem.run_bind, Sem.run_pure, Result.andThen_ok, invoke, builtin, List.map_toArray, List.map_cons, List.map_nil, hrun]
          split at h
          · rename_i te hte
            have hx := hr x
            split at h
            · rename_i sz i off len new hxa hn
              rw [hxa] at hx
              split at h
              · rename_i sz' L hf
                obtain ⟨⟨g1, g2, g3, g4⟩, g5, g6, g7, hK⟩ := h
                obtain ⟨r, c', hrun, q1, q2, q3⟩ := append_own (ty := ty) hk hid hd hd' hte hf hx (hr y) hn g5 g1 g2 g3 g4 g6 g7
                refine ⟨r, _, _, c', .inl (hex r _ hrun), hK, q1, q2, q3, fun j hj hfj => ?_⟩
                rw [upd_ne _ _ _ hj, upd_ne _ _ _ (fun h => by subst h; rw [hf] at hfj; cases hfj)]; exact hfj
              · exact h.elim
            · rename_i sz tight l new hxa hn
              rw [hxa] at hx
              obtain ⟨g0, ⟨g1, g2, g3, g4, g8⟩, g5, g7, hK⟩ := h
              subst g0
              obtain ⟨r, c', hrun, q1, q2, q3⟩ := append_sl (ty := ty) hk hid hd hd' hte hx (hr y) hn g5 g1 g2 g3 g4 g8 g7
              refine ⟨r, _, _, c', .inl (hex r _ hrun), hK, q1, q2, q3, fun j hj hfj => ?_⟩
              rw [upd_ne _ _ _ hj]; exact hfj
            · exact h.elim
          · exact h.elim
        · exact h.elim
      · exact h.elim
    · exact h.elim

/-! ### Calls -/
def CallTo (P : Program) (g : FuncId) (vs : Array Value) (w : World) (Post : Value → World → Prop) : Prop :=
  match (callFunc g vs).run P w with
  | .ok (.value v) w' => Post v w'
  | .ok (.enter h args) w' => Calls P h args w' fun e w'' => ∃ v, e = .returned v ∧ Post v w''
  | _ => False

theorem CallTo.mono {P : Program} {g : FuncId} {vs : Array Value} {w : World} {Post Post' : Value → World → Prop} (h : CallTo P g vs w Post) (hp : ∀ v w', Post v w' → Post' v w') : CallTo P g vs w Post' := by
  unfold CallTo at *
  split at h
  · exact hp _ _ h
  · exact h.mono fun e w'' ⟨v, he, hv⟩ => ⟨v, he, hp _ _ hv⟩
  · exact h.elim

/-- The call of g with these arguments, in this heap. -/
def CA (P : Program) (g : FuncId) (args : List AV) (f : Nat → BS) (n : Nat) (K : AV → (Nat → BS) → Nat → Prop) : Prop :=
  ∀ (c : Cx) (vs : List Value), HOk c f → (∀ j, n ≤ j → f j = .fresh) → Rl c args vs → CallTo P g vs.toArray c.w fun v w' =>
    ∃ c' r f' n', c'.w = w' ∧ K r f' n' ∧ HOk c' f' ∧ Rv c' r v ∧ Stp c c' ∧ n ≤ n' ∧ (∀ j, j < n → f j = .fresh → f' j = .fresh) ∧ ∀ j, n' ≤ j → f' j = .fresh

/-- The call of g with these arguments tells r, and nothing that was there has turned. -/
def Pure (P : Program) (g : FuncId) (args : List AV) (r : AV) : Prop :=
  ro r ∧ ∀ (c : Cx) (vs : List Value), (∀ id, c.mu id = none) → (∀ id, ¬ c.U id) → Rl c args vs → CallTo P g vs.toArray c.w fun v w' => ∃ c', c'.w = w' ∧ Stp c c' ∧ Rv c' r v

theorem CA.mono {P : Program} {g : FuncId} {args : List AV} {f : Nat → BS} {n : Nat} {K K' : AV → (Nat → BS) → Nat → Prop} (h : CA P g args f n K) (hK : ∀ r f' n', K r f' n' → K' r f' n') : CA P g args f n K' :=
  fun c vs h1 h2 h3 => (h c vs h1 h2 h3).mono fun v w' ⟨c', r, f', n', q1, q2, q3⟩ => ⟨c', r, f', n', q1, hK _ _ _ q2, q3⟩

mutual
theorem view_ro (f : Nat → BS) : ∀ a : AV, ro a → view f a = a
  | .any, _ => rfl
  | .bool _, _ => rfl
  | .int _ _, _ => rfl
  | .str _, _ => rfl
  | .agg cs, h => by simp only [view]; rw [viewL_ro f cs (by simpa only [ro] using h)]
  | .tup cs, h => by simp only [view]; rw [viewL_ro f cs (by simpa only [ro] using h)]
  | .sl _ _ _, _ => rfl
  | .own _ _ _ _, h => by simp only [ro] at h
  | .ptr _ _ _, h => by simp only [ro] at h
  | .rp _, _ => rfl
  | .fn _ _ _, _ => rfl
  | .nilp, _ => rfl
theorem viewL_ro (f : Nat → BS) : ∀ l : List AV, roL l → viewL f l = l
  | [], _ => rfl
  | a :: l, h => by
    simp only [roL] at h
    simp only [viewL]; rw [view_ro f a h.1, viewL_ro f l h.2]
end

mutual
theorem fits_ro (f : Nat → BS) : ∀ a : AV, ro a → fits f a
  | .any, _ => by simp only [fits]
  | .bool _, _ => by simp only [fits]
  | .int _ _, _ => by simp only [fits]
  | .str _, _ => by simp only [fits]
  | .agg cs, h => by simp only [fits]; exact fitsL_ro f cs (by simpa only [ro] using h)
  | .tup cs, h => by simp only [fits]; exact fitsL_ro f cs (by simpa only [ro] using h)
  | .sl _ _ l, h => by simp only [fits]; exact fitsL_ro f l (by simpa only [ro] using h)
  | .own _ _ _ _, h => by simp only [ro] at h
  | .ptr _ _ _, h => by simp only [ro] at h
  | .rp cs, h => by simp only [fits]; exact fitsL_ro f cs (by simpa only [ro] using h)
  | .fn _ fs cap, h => by
    simp only [ro] at h
    simp only [fits]; exact ⟨fitsL_ro f fs h.1, fitsL_ro f cap h.2⟩
  | .nilp, _ => by simp only [fits]
theorem fitsL_ro (f : Nat → BS) : ∀ l : List AV, roL l → fitsL f l
  | [], _ => by simp only [fitsL]
  | a :: l, h => by
    simp only [roL] at h
    simp only [fitsL]; exact ⟨fits_ro f a h.1, fitsL_ro f l h.2⟩
end

theorem pure_call {P : Program} {g : FuncId} {args : List AV} {r : AV} {c : Cx} {f : Nat → BS} (hk : HOk c f) {vs : List Value} (hl : Rl c args vs) (hp : Pure P g (viewL f args) r) (hro : roL (viewL f args)) (hfit : fitsL f args) (hor : roL args ∨ flat r) :
    CallTo P g vs.toArray c.w fun v w' => ∃ c', c'.w = w' ∧ HOk c' f ∧ Rv c' r v ∧ Stp c c' := by
  have fin : ∀ (c0 c1 : Cx) (v : Value), c0.w = c.w → (∀ id, c0.mu id = none) → Stp c0 c1 → (∀ c' : Cx, c'.w = c1.w → (∀ b, b < c1.w.heap.size → c'.F b → c.F b ∧ b < c.w.heap.size) → Rv c' r v) →
      ∃ c', c'.w = c1.w ∧ HOk c' f ∧ Rv c' r v ∧ Stp c c' := by
    intro c0 c1 v hw0 hm0 hs hr
    have hkeep : ∀ b, b < c.w.heap.size → c1.w.heap[b]? = c.w.heap[b]? := fun b hb => by
      have := hs.keep b (by rw [hw0]; exact hb) (fun id e he => by rw [hm0] at he; cases he)
      rw [this, hw0]
    have hst : Stp c { w := c1.w, mu := c.mu, U := c.U, F := fun b => c.F b ∧ b < c.w.heap.size } := by
      refine ⟨hs.os.trans (by rw [hw0]), hs.tape.trans (by rw [hw0]), hs.output.trans (by rw [hw0]), Nat.le_trans (Nat.le_of_eq (by rw [hw0])) hs.size, fun b hb _ => hkeep b hb, fun _ h => h, fun _ _ => .inl rfl, fun id e h hr => .inr ⟨id, e, h, hr, rfl⟩, fun b hb => ⟨fun h => h.1, fun h => ⟨h, hb⟩⟩⟩
    refine ⟨{ w := c1.w, mu := c.mu, U := c.U, F := fun b => c.F b ∧ b < c.w.heap.size }, rfl, ?_, hr _ rfl (fun b _ h => h), hst⟩
    exact hk.of_step hst (fun _ => Iff.rfl) rfl (fun id e he hr => ⟨hk.shut id e he hr, hk.lt he hr⟩) (fun id e he hr => hkeep _ (hk.lt he hr))
  by_cases hra : roL args
  · have hv := viewL_ro f args hra
    rw [hv] at hp
    have hl0 : Rl (c.bare c.F) args vs := Rl.ro (c := c) (c' := c.bare c.F) rfl (fun _ _ h => h) args vs hra hl
    refine (hp.2 (c.bare c.F) vs (fun _ => rfl) (fun _ h => h) hl0).mono fun v w' ⟨c1, hw, hs, hrv⟩ => ?_
    obtain ⟨c', q1, q2⟩ := fin (c.bare c.F) c1 v rfl (fun _ => rfl) hs (fun c' hw' hF => Rv.ro (c := c1) hw' (fun b hb h => by
      have := hF b hb h
      exact (hs.F b this.2).2 this.1) r v hp.1 hrv)
    exact ⟨c', q1.trans hw, q2⟩
  · have hfl := hor.resolve_left hra
    have hl0 : Rl (c.bare fun _ => False) (viewL f args) vs := viewL_rv hk (fun _ _ h => h.elim) (fun _ _ _ _ h => h) args vs hfit hro hl
    refine (hp.2 _ vs (fun _ => rfl) (fun _ h => h) hl0).mono fun v w' ⟨c1, hw, hs, hrv⟩ => ?_
    obtain ⟨c', q1, q2⟩ := fin (c.bare fun _ => False) c1 v rfl (fun _ => rfl) hs (fun c' _ _ => Rv.flat r v hfl hrv)
    exact ⟨c', q1.trans hw, q2⟩

/-- A call by a pure contract, in the heap at hand. -/
theorem CA.of_pure {P : Program} {g : FuncId} {args args' : List AV} {r : AV} {f : Nat → BS} {n : Nat} {K : AV → (Nat → BS) → Nat → Prop} (hp : Pure P g args' r) (hv : viewL f args = args') (hro : roL args') (hfit : fitsL f args) (hor : roL args ∨ flat r)
    (hK : K r f n) : CA P g args f n K := by
  subst hv
  exact fun c vs h1 h2 h3 => (pure_call h1 h3 hp hro hfit hor).mono fun v w' ⟨c', q1, q2, q3, q4⟩ => ⟨c', r, f, n, q1, hK, q2, q3, q4, Nat.le_refl _, fun _ _ h => h, h2⟩

theorem CA.of_pure_ro {P : Program} {g : FuncId} {args : List AV} {r : AV} {f : Nat → BS} {n : Nat} {K : AV → (Nat → BS) → Nat → Prop} (hp : Pure P g args r) (hro : roL args) (hK : K r f n) : CA P g args f n K := by
  refine fun c vs h1 h2 h3 => ?_
  have hv := viewL_ro f args hro
  have hf := fitsL_ro f args hro
  exact (pure_call h1 h3 (by rw [hv]; exact hp) (by rw [hv]; exact hro) hf (.inl hro)).mono fun v w' ⟨c', q1, q2, q3, q4⟩ => ⟨c', r, f, n, q1, hK, q2, q3, q4, Nat.le_refl _, fun _ _ h => h, h2⟩

/-! ### What an operation asks -/
def calleeA (ρ : Operand → AV) (c : Call) : Option (FuncId × List AV) :=
  match c.callee with
  | .value x => match ρ x with
    | .fn (.func g) fs cap => some (g, fs ++ c.args.toList.map ρ ++ cap)
    | _ => none
  | _ => none

/-- What a load may see: in a loose region nothing of the call's own. -/
def fz (z : Bool) (f : Nat → BS) : Nat → BS := if z then fun _ => .dead else f
theorem rop_fz {P : Program} {z : Bool} {f : Nat → BS} {ρ : Operand → AV} {op : Op} {x : Prop × AV} (h : rop P (fz z f) ρ op = some x) : rop P f ρ op = some x := by
  cases z with
  | false => exact h
  | true =>
    cases op <;> (try (simp only [rop] at h; cases h; done))
    · rename_i t a
      simp only [rop, fz, if_true] at h ⊢
      split at h
      · exact h
      · cases h
      · cases h
    · rename_i a b y
      simp only [rop, fz, if_true] at h ⊢
      cases hx : ρ y <;> rw [hx] at h <;> simp only [convV] at h ⊢ <;> first | exact h | (exfalso; simp only [elemsA, slStr_none] at h; cases h)
def aop (P : Program) (z q : Bool) (id n : Nat) (op : Op) (ρ : Operand → AV) (f : Nat → BS) (K : AV → (Nat → BS) → Nat → Prop) : Prop :=
  match clsOf op with
  | .v => match vop P ρ op with
    | some (s, v) => s ∧ K v f n
    | none => False
  | .r => match rop P (fz (z && q) f) ρ op with
    | some (s, v) => s ∧ K v f n
    | none => False
  | .g => match gop P id ρ op with
    | some (s, v, b) => s ∧ K v (upd f id b) n
    | none => False
  | .l => lop P id f ρ (fun v f' => K v f' n) op
  | .c => match op with
    | .call c => match calleeA ρ c with
      | some (g, args) => if q then ∃ r, Pure P g (viewL f args) r ∧ roL (viewL f args) ∧ fitsL f args ∧ (roL args ∨ flat r) ∧ K r f n else CA P g args f n K
      | none => False
    | _ => False

theorem callee_run {P : Program} {c : Cx} {ρA : Operand → AV} {ρ : Operand → Value} (hr : ∀ x, Rv c (ρA x) (ρ x)) {o : Oper} {cl : Call} (ho : o.op = .call cl) {g : FuncId} {args : List AV} (h : calleeA ρA cl = some (g, args)) :
    ∃ vs : List Value, Rl c args vs ∧ (execOp ρ o).run P c.w = (callFunc g vs.toArray).run P c.w := by
  obtain ⟨dst, op, ty, pos, after, guard⟩ := o
  simp only at ho
  subst ho
  obtain ⟨callee, as, ats⟩ := cl
  simp only [calleeA] at h
  split at h
  · rename_i x
    split at h
    · rename_i g' fs cap hxa
      simp only [Option.some.injEq, Prod.mk.injEq] at h
      obtain ⟨rfl, rfl⟩ := h
      have hx := hr x
      rw [hxa] at hx
      simp only [Rv] at hx
      obtain ⟨a, b, hxv, h1, h2⟩ := hx
      refine ⟨a.toList ++ as.toList.map ρ ++ b.toList, (h1.append (Rl.map hr as.toList)).append h2, ?_⟩
      simp only [execOp, resolve, Sem.run_bind, hxv, Deferred.ofValue, Sem.run_pure, Result.andThen_ok, invoke]
      congr 2
      apply Array.ext'
      simp
    · cases h
  · cases h

theorem aop_sound {P : Program} {z : Bool} {q : Bool} {id n : Nat} {o : Oper} {ρA : Operand → AV} {f : Nat → BS} {K : AV → (Nat → BS) → Nat → Prop} (h : aop P z q id n o.op ρA f K) {c : Cx} {a : Act} (hk : HOk c f) (hfr : ∀ j, n ≤ j → f j = .fresh) (hid : f id = .fresh) (hidn : id < n)
    (hr : ∀ x, Rv c (ρA x) (a.eval x)) {next : Act → World → Prop} {Q : Exit → Act → World → Prop}
    (hn : ∀ v c' r f' n', K v f' n' → HOk c' f' → Stp c c' → Rv c' v r → n ≤ n' → (∀ j, j < n → j ≠ id → f j = .fresh → f' j = .fresh) → (∀ j, n' ≤ j → f' j = .fresh) → next (a.put o.dst r) c'.w) :
    o.wp P a c.w next Q := by
  unfold Oper.wp
  unfold aop at h
  split at h
  · -- value
    split at h
    · rename_i s v hv
      obtain ⟨r, h1, h2⟩ := vop_sound hr hv h.1
      rw [h1, Oper.upon_value]
      exact hn v c r f n h.2 hk (Stp.refl c) h2 (Nat.le_refl _) (fun _ _ _ h => h) hfr
    · exact h.elim
  · split at h
    · rename_i s v hv
      obtain ⟨r, h1, h2⟩ := rop_sound hk hr (rop_fz hv) h.1
      rw [h1, Oper.upon_value]
      exact hn v c r f n h.2 hk (Stp.refl c) h2 (Nat.le_refl _) (fun _ _ _ h => h) hfr
    · exact h.elim
  · split at h
    · rename_i s v b hv
      obtain ⟨r, c', h1, h2, h3, h4⟩ := gop_sound hk hid hr hv h.1
      rw [h1, Oper.upon_value]
      exact hn v c' r _ n h.2 h3 h4 h2 (Nat.le_refl _) (fun j _ hj h => by rw [upd_ne _ _ _ hj]; exact h) (fun j hj => by rw [upd_ne _ _ _ (by omega)]; exact hfr j hj)
    · exact h.elim
  · obtain ⟨r, v, f', c', h1, h2, h3, h4, h5, h6⟩ := lop_sound h hk hid hr
    rcases h1 with h1 | ⟨h1, rfl⟩
    · rw [h1, Oper.upon_value]
      exact hn v c' r f' n h2 h4 h5 h3 (Nat.le_refl _) (fun j _ hj h => h6 j hj h) (fun j hj => h6 j (by omega) (hfr j hj))
    · rw [h1, Oper.upon_skip]
      exact hn v c' undef f' n h2 h4 h5 h3 (Nat.le_refl _) (fun j _ hj h => h6 j hj h) (fun j hj => h6 j (by omega) (hfr j hj))
  · split at h
    · rename_i cl hop
      split at h
      · rename_i g args hca
        obtain ⟨vs, h1, h2⟩ := callee_run (P := P) hr hop hca
        rw [h2]
        have key : ∀ Post : Value → World → Prop, CallTo P g vs.toArray c.w Post → (∀ v w', Post v w' → next (a.put o.dst v) w') → o.upon P a next Q ((callFunc g vs.toArray).run P c.w) := by
          intro Post hc hp
          unfold CallTo at hc
          split at hc
          · rename_i v w' he
            rw [he, Oper.upon_value]; exact hp _ _ hc
          · rename_i g' as w' he
            rw [he, Oper.upon_enter]
            exact hc.mono fun e w'' ⟨v, he, hv⟩ => by subst he; exact hp _ _ hv
          · exact hc.elim
        split at h
        · obtain ⟨r, g1, g2, g3, g4, g5⟩ := h
          refine key _ (pure_call hk h1 g1 g2 g3 g4) fun v w' ⟨c', q1, q2, q3, q4⟩ => ?_
          subst q1
          exact hn r c' v f n g5 q2 q4 q3 (Nat.le_refl _) (fun _ _ _ h => h) hfr
        · refine key _ (h c vs hk hfr h1) fun v w' ⟨c', r, f', n', q1, q2, q3, q4, q5, q6, q7, q8⟩ => ?_
          subst q1
          exact hn r c' v f' n' q2 q3 q5 q4 q6 (fun j hj _ hf => q7 j hj hf) q8
      · exact h.elim
    · exact h.elim

end Go.Proofs.Ytpmahilkkoengaa
