/-
  The text's order serves every order: the commuting of two operations, and the theorem on a region.
-/
import Derived.Test.YtpmahilkkoengaaFwDr
namespace Go.Proofs.Ytpmahilkkoengaa
open Go
set_option linter.unusedSimpArgs false
set_option linter.unusedVariables false

/-- One operation of a region whose order is drawn. -/
def atA (P : Program) (z : Bool) (ops : Array Oper) (n0 n i : Nat) (K : (Nat → AV) → (Nat → BS) → Prop) (t : Nat → AV) (f : Nat → BS) : Prop :=
  match ops[i]? with
  | none => False
  | some o =>
    match o.guard with
    | none => aop P z true (n0 + i) n o.op (aev t) f fun v f' _ => K (putA t o.dst v) f'
    | some (j, want) =>
      match gslot ops j with
      | some d => match t d with
        | .bool b => (b = want → aop P z true (n0 + i) n o.op (aev t) f fun v f' _ => K (putA t o.dst v) f') ∧ (b = !want → K (putA t o.dst (.tup [])) f)
        | .tup [] => K (putA t o.dst (.tup [])) f
        | _ => False
      | none => False

def EffG (P : Program) (z : Bool) (ops : Array Oper) (n0 i : Nat) (o : Oper) (t : Nat → AV) (f : Nat → BS) (v : AV) (e : Option BS) : Prop :=
  match o.guard with
  | none => Eff P z (n0 + i) o.op (aev t) f v e
  | some (j, want) => ∃ d, gslot ops j = some d ∧ ((t d = .bool want ∧ Eff P z (n0 + i) o.op (aev t) f v e) ∨ ((t d = .bool (!want) ∨ t d = .tup []) ∧ v = .tup [] ∧ e = none))

theorem atA_eff {P : Program} {z : Bool} {ops : Array Oper} {n0 n i : Nat} {K : (Nat → AV) → (Nat → BS) → Prop} {t : Nat → AV} {f : Nat → BS} {o : Oper} (ho : ops[i]? = some o) (hc : clsOf o.op ≠ .l) :
    atA P z ops n0 n i K t f ↔ ∃ v e, EffG P z ops n0 i o t f v e ∧ K (putA t o.dst v) (appE f (n0 + i) e) := by
  unfold atA EffG
  simp only [ho]
  cases hg : o.guard with
  | none => simp only; exact aop_eff hc
  | some q =>
    obtain ⟨j, want⟩ := q
    simp only
    cases hgs : gslot ops j with
    | none => simp
    | some d =>
      simp only
      cases ht : t d with
      | bool b =>
        simp only
        constructor
        · intro ⟨h1, h2⟩
          by_cases hb : b = want
          · obtain ⟨v, e, g1, g2⟩ := (aop_eff hc).1 (h1 hb)
            exact ⟨v, e, ⟨d, rfl, .inl ⟨by rw [ht, hb], g1⟩⟩, g2⟩
          · have hb' : b = !want := by cases b <;> cases want <;> simp_all
            exact ⟨.tup [], none, ⟨d, rfl, .inr ⟨.inl (by rw [ht, hb']), rfl, rfl⟩⟩, h2 hb'⟩
        · rintro ⟨v, e, ⟨d', h1, h3⟩, h4⟩
          simp only [Option.some.injEq] at h1; subst h1
          rw [ht] at h3
          rcases h3 with ⟨g1, g2⟩ | ⟨g1, rfl, rfl⟩
          · injection g1 with g1
            exact ⟨fun _ => (aop_eff hc).2 ⟨v, e, g2, h4⟩, fun hb => by subst g1; cases b <;> simp at hb⟩
          · rcases g1 with g1 | g1
            · injection g1 with g1
              exact ⟨fun hb => by subst hb; cases b <;> simp at g1, fun _ => h4⟩
            · cases g1
      | tup cs =>
        cases cs with
        | nil =>
          simp only
          constructor
          · intro h; exact ⟨.tup [], none, ⟨d, rfl, .inr ⟨.inr ht, rfl, rfl⟩⟩, h⟩
          · rintro ⟨v, e, ⟨d', h1, h3⟩, h4⟩
            simp only [Option.some.injEq] at h1; subst h1
            rw [ht] at h3
            rcases h3 with ⟨g1, g2⟩ | ⟨g1, rfl, rfl⟩
            · cases g1
            · exact h4
        | cons c cs =>
          simp only [false_iff]
          rintro ⟨v, e, ⟨d', h1, h2⟩, _⟩
          simp only [Option.some.injEq] at h1; subst h1
          rw [ht] at h2; simp at h2
      | _ =>
        simp only [false_iff]
        rintro ⟨v, e, ⟨d', h1, h2⟩, _⟩
        simp only [Option.some.injEq] at h1; subst h1
        rw [ht] at h2; simp at h2

theorem aev_put {o : Oper} {ops : Array Oper} {t : Nat → AV} {dst : Option Tmp} {u : AV} (h : ∀ d, dst = some d → d ∉ o.looksAt ops) : ∀ x ∈ o.op.operands, aev (putA t dst u) x = aev t x := by
  intro x hx
  cases dst with
  | none => rfl
  | some d =>
    cases x with
    | tmp m =>
      simp only [aev, putA]
      refine upd_ne _ _ _ fun hm => ?_
      subst hm
      exact h m rfl (List.mem_append_left _ (List.mem_filterMap.2 ⟨.tmp m, by simpa using hx, rfl⟩))
    | _ => rfl
theorem slot_put {o : Oper} {ops : Array Oper} {t : Nat → AV} {dst : Option Tmp} {u : AV} (h : ∀ d, dst = some d → d ∉ o.looksAt ops) {j : Nat} {want : Bool} (hg : o.guard = some (j, want)) {d : Nat} (hd : gslot ops j = some d) : putA t dst u d = t d := by
  cases dst with
  | none => rfl
  | some m =>
    simp only [putA]
    refine upd_ne _ _ _ fun hm => ?_
    subst hm
    refine h d rfl ?_
    unfold gslot at hd
    simp [Oper.looksAt, hg, hd]

theorem EffG.put {P : Program} {z : Bool} {ops : Array Oper} {n0 i : Nat} {o : Oper} {t : Nat → AV} {f : Nat → BS} {v : AV} {e : Option BS} {dst : Option Tmp} {u : AV} (h : ∀ d, dst = some d → d ∉ o.looksAt ops) : EffG P z ops n0 i o (putA t dst u) f v e ↔ EffG P z ops n0 i o t f v e := by
  have ha := aev_put (o := o) (ops := ops) (t := t) (u := u) h
  have hE : Eff P z (n0 + i) o.op (aev (putA t dst u)) f v e ↔ Eff P z (n0 + i) o.op (aev t) f v e := ⟨Eff.congr ha, Eff.congr fun x hx => (ha x hx).symm⟩
  unfold EffG
  cases hg : o.guard with
  | none => exact hE
  | some q =>
    obtain ⟨j, want⟩ := q
    simp only
    constructor
    · rintro ⟨d, h1, h3⟩; rw [slot_put (t := t) (u := u) h hg h1] at h3; exact ⟨d, h1, h3.imp (fun ⟨x, y⟩ => ⟨x, hE.1 y⟩) id⟩
    · rintro ⟨d, h1, h3⟩; refine ⟨d, h1, ?_⟩; rw [slot_put (t := t) (u := u) h hg h1]; exact h3.imp (fun ⟨x, y⟩ => ⟨x, hE.2 y⟩) id
theorem EffG.grow {P : Program} {z : Bool} {ops : Array Oper} {n0 i : Nat} {o : Oper} {t : Nat → AV} {f : Nat → BS} {v : AV} {e : Option BS} (he : EffG P z ops n0 i o t f v e) {j : Nat} (hj : f j = .fresh) {b : BS} (hb : b ≠ .fresh) : EffG P z ops n0 i o t (upd f j b) v e := by
  unfold EffG at *
  split at he
  · exact he.grow hj hb
  · obtain ⟨d, h1, h3⟩ := he
    exact ⟨d, h1, h3.imp (fun ⟨x, y⟩ => ⟨x, y.grow hj hb⟩) id⟩
theorem EffG.indep {P : Program} {z : Bool} {ops : Array Oper} {n0 i : Nat} {o : Oper} {t : Nat → AV} {f f' : Nat → BS} {v : AV} {e : Option BS} (hc : clsOf o.op = .v ∨ clsOf o.op = .g ∨ (clsOf o.op = .r ∧ z = true)) (he : EffG P z ops n0 i o t f v e) : EffG P z ops n0 i o t f' v e := by
  unfold EffG at *
  split at he
  · exact he.indep hc
  · obtain ⟨d, h1, h3⟩ := he
    exact ⟨d, h1, h3.imp (fun ⟨x, y⟩ => ⟨x, y.indep hc⟩) id⟩
theorem EffG.made {P : Program} {z : Bool} {ops : Array Oper} {n0 i : Nat} {o : Oper} {t : Nat → AV} {f : Nat → BS} {v : AV} {b : BS} (he : EffG P z ops n0 i o t f v (some b)) : clsOf o.op = .g ∧ b ≠ .fresh := by
  unfold EffG at he
  split at he
  · exact he.made
  · obtain ⟨d, h1, h3⟩ := he
    rcases h3 with ⟨_, h3⟩ | ⟨_, _, h3⟩
    · exact h3.made
    · cases h3

theorem putA_comm (t : Nat → AV) {x y : Option Tmp} (v u : AV) (h : ∀ d, x = some d → y ≠ some d) : putA (putA t x v) y u = putA (putA t y u) x v := by
  cases x with
  | none => rfl
  | some d =>
    cases y with
    | none => rfl
    | some e => exact upd_comm t v u fun he => h d rfl (he ▸ rfl)

def compat (z : Bool) : Cls → Cls → Bool
  | .v, _ => true
  | .r, .l => z
  | .c, .l => false
  | .r, _ => true
  | .c, _ => true
  | .g, .v => true
  | .g, .g => true
  | _, _ => false

/-- Two operations that do not wait for one another. -/
theorem atA_comm {P : Program} {z : Bool} {ops : Array Oper} {n0 n i j : Nat} {K : (Nat → AV) → (Nat → BS) → Prop} {t : Nat → AV} {f : Nat → BS} {oi oj : Oper} (hi : ops[i]? = some oi) (hj : ops[j]? = some oj) (hne : i ≠ j) (hap : oi.apart ops oj = true) (hcp : compat z (clsOf oi.op) (clsOf oj.op) = true)
    (fi : f (n0 + i) = .fresh) (fj : f (n0 + j) = .fresh) (h : atA P z ops n0 n i (fun t f => atA P z ops n0 n j K t f) t f) : atA P z ops n0 n j (fun t f => atA P z ops n0 n i K t f) t f := by
  obtain ⟨a1, a2, a3⟩ := Oper.apart_spec hap
  have hli : clsOf oi.op ≠ .l := by intro he; rw [he] at hcp; cases hh : clsOf oj.op <;> rw [hh] at hcp <;> simp [compat] at hcp
  rw [atA_eff hi hli] at h
  obtain ⟨vi, ei, h1, h2⟩ := h
  by_cases hlj : clsOf oj.op = .l
  · -- j writes: i hangs on values alone
    have hv : clsOf oi.op = .v ∨ (clsOf oi.op = .r ∧ z = true) := by rw [hlj] at hcp; cases hh : clsOf oi.op <;> rw [hh] at hcp <;> simp [compat] at hcp <;> simp [hcp]
    have hei : ei = none := by
      cases ei with
      | none => rfl
      | some b => have := h1.made.1; rcases hv with hv | ⟨hv, _⟩ <;> rw [hv] at this <;> cases this
    subst hei
    simp only [appE] at h2
    have back : ∀ (u : AV) (f' : Nat → BS), K (putA (putA t oi.dst vi) oj.dst u) f' → atA P z ops n0 n i K (putA t oj.dst u) f' := by
      intro u f' hK
      rw [atA_eff hi hli]
      refine ⟨vi, none, (EffG.put a3).2 (h1.indep (hv.imp_right .inr)), ?_⟩
      simp only [appE]
      rwa [putA_comm t u vi (fun d hd => fun hx => a2 d hx hd)]
    unfold atA at h2 ⊢
    simp only [hj] at h2 ⊢
    have ha := aev_put (o := oj) (ops := ops) (t := t) (u := vi) a1
    have hop : ∀ K' : AV → (Nat → BS) → Nat → Prop, aop P z true (n0 + j) n oj.op (aev (putA t oi.dst vi)) f K' → aop P z true (n0 + j) n oj.op (aev t) f K' := by
      intro K' hK'
      unfold aop at hK' ⊢
      simp only [hlj] at hK' ⊢
      rwa [lop_congr ha] at hK'
    have hmono : ∀ K' K'' : AV → (Nat → BS) → Nat → Prop, (∀ v f', K' v f' n → K'' v f' n) → aop P z true (n0 + j) n oj.op (aev t) f K' → aop P z true (n0 + j) n oj.op (aev t) f K'' := by
      intro K' K'' hk hK'
      unfold aop at hK' ⊢
      simp only [hlj] at hK' ⊢
      obtain ⟨v, f', g1, g2, _⟩ := lop_out hK'
      exact g1 _ (hk v f' g2)
    cases hg : oj.guard with
    | none =>
      simp only [hg] at h2 ⊢
      exact hmono _ _ (fun v f' hK => back v f' hK) (hop _ h2)
    | some q =>
      obtain ⟨jj, want⟩ := q
      simp only [hg] at h2 ⊢
      cases hgs : gslot ops jj with
      | none => simp only [hgs] at h2
      | some d =>
        simp only [hgs] at h2 ⊢
        rw [slot_put a1 hg hgs] at h2
        cases htd : t d with
        | bool b =>
          simp only [htd] at h2 ⊢
          exact ⟨fun hb => hmono _ _ (fun v f' hK => back v f' hK) (hop _ (h2.1 hb)), fun hb => back _ _ (h2.2 hb)⟩
        | tup cs =>
          cases cs with
          | nil => simp only [htd] at h2 ⊢; exact back _ _ h2
          | cons c cs => simp only [htd] at h2
        | _ => simp only [htd] at h2
  · rw [atA_eff hj hlj] at h2
    obtain ⟨vj, ej, h3, h4⟩ := h2
    have h3' : EffG P z ops n0 j oj t f vj ej := by
      have h5 := (EffG.put a1).1 h3
      cases ei with
      | none => exact h5
      | some b =>
        have hg := h1.made.1
        rw [hg] at hcp
        refine h5.indep ?_
        cases hh : clsOf oj.op <;> rw [hh] at hcp <;> simp [compat] at hcp <;> simp
    rw [atA_eff hj hlj]
    refine ⟨vj, ej, h3', ?_⟩
    rw [atA_eff hi hli]
    refine ⟨vi, ei, (EffG.put a3).2 ?_, ?_⟩
    · cases ej with
      | none => exact h1
      | some b => exact h1.grow fj h3'.made.2
    · rw [putA_comm t vj vi (fun d hd => fun hx => a2 d hx hd)]
      have : appE (appE f (n0 + j) ej) (n0 + i) ei = appE (appE f (n0 + i) ei) (n0 + j) ej := by
        cases ei <;> cases ej <;> simp only [appE]
        exact upd_comm f _ _ (by omega)
      rw [this]
      exact h4

/-- What comes of an operation: others' numbers stay. -/
theorem atA_mono {P : Program} {z : Bool} {ops : Array Oper} {n0 n i : Nat} {K K' : (Nat → AV) → (Nat → BS) → Prop} {t : Nat → AV} {f : Nat → BS} (hK : ∀ t' f', (∀ m, m ≠ n0 + i → f m = .fresh → f' m = .fresh) → K t' f' → K' t' f') (h : atA P z ops n0 n i K t f) : atA P z ops n0 n i K' t f := by
  cases ho : ops[i]? with
  | none => simp [atA, ho] at h
  | some o =>
    by_cases hl : clsOf o.op = .l
    · have hm : ∀ J J' : AV → (Nat → BS) → Nat → Prop, (∀ v f', (∀ m, m ≠ n0 + i → f m = .fresh → f' m = .fresh) → J v f' n → J' v f' n) → aop P z true (n0 + i) n o.op (aev t) f J → aop P z true (n0 + i) n o.op (aev t) f J' := by
        intro J J' hj hJ
        unfold aop at hJ ⊢
        simp only [hl] at hJ ⊢
        obtain ⟨v, f', g1, g2, g3⟩ := lop_out hJ
        exact g1 _ (hj v f' g3 g2)
      unfold atA at h ⊢
      simp only [ho] at h ⊢
      cases hg : o.guard with
      | none => simp only [hg] at h ⊢; exact hm _ _ (fun v f' h1 h2 => hK _ _ h1 h2) h
      | some q =>
        obtain ⟨j, want⟩ := q
        simp only [hg] at h ⊢
        split at h
        · split at h
          · exact ⟨fun hb => hm _ _ (fun v f' h1 h2 => hK _ _ h1 h2) (h.1 hb), fun hb => hK _ _ (fun _ _ h => h) (h.2 hb)⟩
          · exact hK _ _ (fun _ _ h => h) h
          · exact h.elim
        · exact h.elim
    · rw [atA_eff ho hl] at h ⊢
      obtain ⟨v, e, h1, h2⟩ := h
      refine ⟨v, e, h1, hK _ _ (fun m hm hfm => ?_) h2⟩
      cases e with
      | none => exact hfm
      | some b => simp only [appE]; rw [upd_ne _ _ _ hm]; exact hfm
theorem atA_some {P : Program} {z : Bool} {ops : Array Oper} {n0 n i : Nat} {K : (Nat → AV) → (Nat → BS) → Prop} {t : Nat → AV} {f : Nat → BS} (h : atA P z ops n0 n i K t f) : ∃ t' f', K t' f' := by
  cases ho : ops[i]? with
  | none => simp [atA, ho] at h
  | some o =>
    by_cases hl : clsOf o.op = .l
    · have hm : ∀ J : AV → (Nat → BS) → Nat → Prop, aop P z true (n0 + i) n o.op (aev t) f J → ∃ v f', J v f' n := by
        intro J hJ
        unfold aop at hJ
        simp only [hl] at hJ
        obtain ⟨v, f', g1, g2, g3⟩ := lop_out hJ
        exact ⟨v, f', g2⟩
      unfold atA at h
      simp only [ho] at h
      cases hg : o.guard with
      | none => simp only [hg] at h; obtain ⟨v, f', h⟩ := hm _ h; exact ⟨_, _, h⟩
      | some q =>
        obtain ⟨j, want⟩ := q
        simp only [hg] at h
        split at h
        · split at h
          · rename_i b _
            by_cases hb : b = want
            · obtain ⟨v, f', h⟩ := hm _ (h.1 hb); exact ⟨_, _, h⟩
            · exact ⟨_, _, h.2 (by cases b <;> cases want <;> simp_all)⟩
          · exact ⟨_, _, h⟩
          · exact h.elim
        · exact h.elim
    · rw [atA_eff ho hl] at h
      obtain ⟨v, e, h1, h2⟩ := h
      exact ⟨_, _, h2⟩

/-- Whatever order is picked from here on. -/
def anyA (P : Program) (z : Bool) (ops : Array Oper) (n0 n : Nat) (K : (Nat → AV) → (Nat → BS) → Prop) : Nat → Array Bool → (Nat → AV) → (Nat → BS) → Prop
  | 0, listed, t, f => Region.ready .any ops listed = [] ∧ K t f
  | fuel + 1, listed, t, f => (Region.ready .any ops listed = [] → K t f) ∧ ∀ i ∈ Region.ready .any ops listed, atA P z ops n0 n i (fun t' f' => anyA P z ops n0 n K fuel (listed.setIfInBounds i true) t' f') t f

/-! ### Who waits for whom -/
/-- all that an operation waits for, as bits -/
def ups (acc : List Nat) (o : Oper) : Nat := o.after.toList.foldl (fun s e => if Region.binds .any e then s ||| (2 ^ e.on ||| acc.getD e.on 0) else s) 0
def bef (acc : List Nat) : List Oper → List Nat
  | [] => acc
  | o :: r => bef (acc ++ [ups acc o]) r
theorem ups_bit (acc : List Nat) (o : Oper) (i : Nat) (h : (ups acc o).testBit i = true) : ∃ e ∈ o.after.toList, Region.binds .any e = true ∧ (e.on = i ∨ (acc.getD e.on 0).testBit i = true) := by
  unfold ups at h
  have key : ∀ (l : List Edge) (s : Nat), (l.foldl (fun s e => if Region.binds .any e then s ||| (2 ^ e.on ||| acc.getD e.on 0) else s) s).testBit i = true → s.testBit i = true ∨ ∃ e ∈ l, Region.binds .any e = true ∧ (e.on = i ∨ (acc.getD e.on 0).testBit i = true) := by
    intro l
    induction l with
    | nil => intro s h; exact .inl h
    | cons e l ih =>
      intro s h
      simp only [List.foldl_cons] at h
      rcases ih _ h with h1 | ⟨e', h1, h2⟩
      · split at h1
        · rename_i hb
          simp only [Nat.testBit_or, Bool.or_eq_true, Nat.testBit_two_pow, decide_eq_true_eq] at h1
          rcases h1 with h1 | h1 | h1
          · exact .inl h1
          · exact .inr ⟨e, by simp, hb, .inl h1⟩
          · exact .inr ⟨e, by simp, hb, .inr h1⟩
        · exact .inl h1
      · exact .inr ⟨e', by simp [h1], h2⟩
  rcases key _ 0 h with h1 | h1
  · simp at h1
  · exact h1
/-- each entry tells what its operation waits for -/
def BefOk (ops : Array Oper) (acc : List Nat) : Prop := ∀ (j m : Nat), acc[j]? = some m → ∀ i, m.testBit i = true → ∃ o, ops[j]? = some o ∧ ∃ e ∈ o.after.toList, Region.binds .any e = true ∧ (e.on = i ∨ (e.on < j ∧ (acc.getD e.on 0).testBit i = true))
theorem bef_ok (ops : Array Oper) : ∀ (l : List Oper) (acc : List Nat), (∀ j, l[j]? = ops[acc.length + j]?) → BefOk ops acc → BefOk ops (bef acc l)
  | [], acc, _, h => h
  | o :: l, acc, hl, h => by
    refine bef_ok ops l _ (fun j => ?_) fun j m hj i hi => ?_
    · have := hl (j + 1)
      simpa [Nat.add_assoc, Nat.add_comm 1 j] using this
    · rcases Nat.lt_trichotomy j acc.length with hlt | heq | hgt
      · rw [List.getElem?_append_left hlt] at hj
        obtain ⟨o', h1, e, h2, h3, h4⟩ := h j m hj i hi
        refine ⟨o', h1, e, h2, h3, h4.imp id fun ⟨h5, h6⟩ => ⟨h5, ?_⟩⟩
        rw [List.getD_eq_getElem?_getD] at h6 ⊢
        rwa [List.getElem?_append_left (by omega)]
      · subst heq
        simp only [List.getElem?_append_right (Nat.le_refl _), Nat.sub_self, List.getElem?_cons_zero, Option.some.injEq] at hj
        subst hj
        have ho : ops[acc.length]? = some o := by have := hl 0; simpa using this.symm
        obtain ⟨e, h2, h3, h4⟩ := ups_bit acc o i hi
        refine ⟨o, ho, e, h2, h3, ?_⟩
        rcases h4 with h4 | h4
        · exact .inl h4
        · have hlt : e.on < acc.length := by
            rcases Nat.lt_or_ge e.on acc.length with h' | h'
            · exact h'
            · rw [List.getD_eq_getElem?_getD, List.getElem?_eq_none h'] at h4; simp at h4
          refine .inr ⟨hlt, ?_⟩
          rw [List.getD_eq_getElem?_getD] at h4 ⊢
          rwa [List.getElem?_append_left hlt]
      · rw [List.getElem?_eq_none (by simp; omega)] at hj; cases hj

/-- what has come up has all that it waited for behind it -/
def Shut (ops : Array Oper) (listed : Array Bool) : Prop := ∀ j, listed.getD j false = true → ∀ o, ops[j]? = some o → ∀ e ∈ o.after, Region.binds .any e = true → listed.getD e.on false = true

theorem waits_listed {ops : Array Oper} {listed : Array Bool} (hs : Shut ops listed) : ∀ (j : Nat), (∀ o, ops[j]? = some o → ∀ e ∈ o.after, Region.binds .any e = true → listed.getD e.on false = true) → ∀ i, ((bef [] ops.toList).getD j 0).testBit i = true → listed.getD i false = true := by
  have hok := bef_ok ops ops.toList [] (by simp) (fun j m h => by simp at h)
  intro j
  induction j using Nat.strongRecOn with
  | _ j ih =>
    intro hj i hi
    rw [List.getD_eq_getElem?_getD] at hi
    cases hm : (bef [] ops.toList)[j]? with
    | none => rw [hm] at hi; simp at hi
    | some m =>
      rw [hm] at hi
      simp only [Option.getD_some] at hi
      obtain ⟨o, h1, e, h2, h3, h4⟩ := hok j m hm i hi
      have he := hj o h1 e (by simpa using h2) h3
      rcases h4 with rfl | ⟨h5, h6⟩
      · exact he
      · exact ih e.on h5 (fun o' ho' => hs e.on he o' ho') i h6

def pairOk (z : Bool) (ops : Array Oper) (bs : List Nat) (i j : Nat) (oi oj : Oper) : Bool := (bs.getD j 0).testBit i || (oi.apart ops oj && compat z (clsOf oi.op) (clsOf oj.op))

theorem anyA_first {P : Program} {z : Bool} {ops : Array Oper} {n0 n : Nat} {K : (Nat → AV) → (Nat → BS) → Prop} {i : Nat} {oi : Oper} (hi : ops[i]? = some oi) : ∀ (fuel : Nat) (listed : Array Bool) (t : Nat → AV) (f : Nat → BS), Shut ops listed →
    (∀ j oj, ops[j]? = some oj → j ≠ i → listed.getD j true = false → pairOk z ops (bef [] ops.toList) i j oi oj = true) → i ∈ Region.ready .any ops listed → (∀ j, j < ops.size → listed.getD j true = false → f (n0 + j) = .fresh) →
    atA P z ops n0 n i (fun t' f' => anyA P z ops n0 n K fuel (listed.setIfInBounds i true) t' f') t f → anyA P z ops n0 n K (fuel + 1) listed t f := by
  intro fuel
  induction fuel with
  | zero =>
    intro listed t f _ _ hr _ H
    refine ⟨fun h => (by rw [h] at hr; cases hr), fun j hj => ?_⟩
    by_cases hji : j = i
    · subst hji; exact H
    · have := ready_mono hj hji
      obtain ⟨t', f', h1, _⟩ := atA_some H
      rw [h1] at this
      cases this
  | succ fuel ih =>
    intro listed t f hsh hp hr hids H
    refine ⟨fun h => (by rw [h] at hr; cases hr), fun j hj => ?_⟩
    by_cases hji : j = i
    · subst hji; exact H
    · obtain ⟨hjun, oj, hoj, hall⟩ := mem_ready.1 hj
      have hiun := (mem_ready.1 hr).1
      have hlti : i < ops.size := (Array.getElem?_eq_some_iff.1 hi).1
      have hltj : j < ops.size := (Array.getElem?_eq_some_iff.1 hoj).1
      have hpair := hp j oj hoj hji hjun
      have hnw : ((bef [] ops.toList).getD j 0).testBit i = false := by
        cases hb : ((bef [] ops.toList).getD j 0).testBit i with
        | false => rfl
        | true =>
          have := waits_listed hsh j (fun o ho e he hb => by rw [hoj] at ho; injection ho with ho; subst ho; exact hall e he hb) i hb
          rcases Nat.lt_or_ge i listed.size with h' | h'
          · simp [h'] at this hiun; rw [this] at hiun; cases hiun
          · simp [Array.getElem?_eq_none h'] at this
      simp only [pairOk, hnw, Bool.false_or, Bool.and_eq_true] at hpair
      have H1 : atA P z ops n0 n i (fun t' f' => atA P z ops n0 n j (fun t' f' => anyA P z ops n0 n K fuel ((listed.setIfInBounds i true).setIfInBounds j true) t' f') t' f') t f :=
        atA_mono (fun t' f' _ h => h.2 j (ready_mono hj hji)) H
      have H2 := atA_comm hi hoj (Ne.symm hji) hpair.1 hpair.2 (hids i hlti hiun) (hids j hltj hjun) H1
      refine atA_mono (fun t' f' hfr h => ih (listed.setIfInBounds j true) t' f' ?_ ?_ (ready_mono hr (Ne.symm hji)) ?_ ?_) H2
      · intro m hm o ho e he hb
        by_cases hmj : j = m
        · subst hmj; rw [hoj] at ho; injection ho with ho; subst ho; exact getD_set_true (hall e he hb)
        · rw [getD_set_ne false hmj] at hm; exact getD_set_true (hsh m hm o ho e he hb)
      · intro m om hom hmi hun
        refine hp m om hom hmi ?_
        by_cases hjm : j = m
        · subst hjm; exact hjun
        · rw [getD_set_ne true hjm] at hun; exact hun
      · intro m hm hun
        have hjm : j ≠ m := by
          intro he; subst he
          rcases Nat.lt_or_ge j listed.size with h' | h'
          · simp [h'] at hun
          · simp [Array.getElem?_eq_none h'] at hjun
        rw [getD_set_ne true hjm] at hun
        exact hfr _ (by omega) (hids m hm hun)
      · rw [Array.setIfInBounds_comm _ _ hji]
        exact h

/-- The check of a region. -/
def lexOk (z : Bool) (ops : Array Oper) : Bool :=
  ops.toList.zipIdx.all fun (oj, j) => (oj.after.toList.all fun e => !Region.binds .any e || decide (e.on < j)) &&
    (ops.toList.zipIdx.all fun (oi, i) => !decide (i < j) || pairOk z ops (bef [] ops.toList) i j oi oj)

theorem lexOk_spec {z : Bool} {ops : Array Oper} (h : lexOk z ops = true) {j : Nat} {oj : Oper} (hj : ops[j]? = some oj) : (∀ e ∈ oj.after, Region.binds .any e = true → e.on < j) ∧ ∀ i oi, ops[i]? = some oi → i < j → pairOk z ops (bef [] ops.toList) i j oi oj = true := by
  unfold lexOk at h
  rw [List.all_eq_true] at h
  have hmem : ∀ (i : Nat) (oi : Oper), ops[i]? = some oi → (oi, i) ∈ ops.toList.zipIdx := fun i oi hi => by
    rw [List.mem_zipIdx_iff_getElem?]; simpa using hi
  have h1 := h (oj, j) (hmem j oj hj)
  simp only [Bool.and_eq_true, List.all_eq_true] at h1
  refine ⟨fun e he hb => ?_, fun i oi hi hij => ?_⟩
  · have := h1.1 e (by simpa using he)
    simpa [hb] using this
  · have := h1.2 (oi, i) (hmem i oi hi)
    simpa [hij] using this

/-- **THE TEXT's ORDER SERVES EVERY ORDER.** -/
theorem anyA_lex {P : Program} {z : Bool} {ops : Array Oper} (hlex : lexOk z ops = true) {n0 n : Nat} {K : St → Prop} : ∀ (l : List Oper) (k : Nat) (listed : Array Bool) (t : Nat → AV) (f : Nat → BS), (∀ j, l[j]? = ops[k + j]?) → listed.size = ops.size → (∀ j, j < ops.size → listed.getD j true = decide (j < k)) →
    (∀ j, j < ops.size → k ≤ j → f (n0 + j) = .fresh) → aops P z true ops n0 K k l t f n → anyA P z ops n0 n (fun t f => K ⟨t, f, n⟩) l.length listed t f
  | [], k, listed, t, f, hl, hsz, hli, _, h => by
    simp only [aops] at h
    refine ⟨?_, h⟩
    have hk : ops.size ≤ k := by
      rcases Nat.lt_or_ge k ops.size with h' | h'
      · have := hl 0; simp [h'] at this
      · exact h'
    unfold Region.ready
    rw [List.filter_eq_nil_iff]
    intro j hj
    rw [List.mem_range] at hj
    have := hli j hj
    rw [this]
    simp; omega
  | o :: l, k, listed, t, f, hl, hsz, hli, hfr, h => by
    have ho : ops[k]? = some o := by have := hl 0; simpa using this.symm
    have hk : k < ops.size := (Array.getElem?_eq_some_iff.1 ho).1
    have hsh : Shut ops listed := by
      intro j hj o' ho' e he hb
      have hjs : j < ops.size := (Array.getElem?_eq_some_iff.1 ho').1
      have hjk : j < k := by
        have h1 := hli j hjs
        have h2 : listed.getD j true = true := by
          rw [Array.getD_eq_getD_getElem?] at hj ⊢
          rw [Array.getElem?_eq_getElem (by omega)] at hj ⊢
          simpa using hj
        rw [h2] at h1; simpa using h1.symm
      have hej := (lexOk_spec hlex ho').1 e he hb
      have h3 := hli e.on (by omega)
      rw [Array.getD_eq_getD_getElem?, Array.getElem?_eq_getElem (by omega)] at h3 ⊢
      simp only [Option.getD_some] at h3 ⊢
      rw [h3]; simp; omega
    refine anyA_first ho l.length listed t f hsh (fun j oj hoj hji hun => ?_) ?_ (fun j hj hun => ?_) ?_
    · have hjs : j < ops.size := (Array.getElem?_eq_some_iff.1 hoj).1
      rw [hli j hjs] at hun
      exact (lexOk_spec hlex hoj).2 k o ho (by simp at hun; omega)
    · rw [mem_ready]
      refine ⟨by rw [hli k hk]; simp, o, ho, fun e he hb => ?_⟩
      have hej := (lexOk_spec hlex ho).1 e he hb
      have h3 := hli e.on (by omega)
      rw [Array.getD_eq_getD_getElem?, Array.getElem?_eq_getElem (by omega)] at h3 ⊢
      simp only [Option.getD_some] at h3 ⊢
      rw [h3]; simp; omega
    · rw [hli j hj] at hun
      exact hfr j hj (by simp at hun; omega)
    · -- the operation itself, then the rest
      have conv : ∀ (J : AV → (Nat → BS) → Nat → Prop) (t0 : Nat → AV), aop P z true (n0 + k) n o.op (aev t0) f J → aop P z true (n0 + k) n o.op (aev t0) f fun v f' _ => J v f' n := by
        intro J t0 hJ
        unfold aop at hJ ⊢
        cases hc : clsOf o.op <;> simp only [hc] at hJ ⊢ <;> exact hJ
      have hnext : ∀ t' f', (∀ m, m ≠ n0 + k → f m = .fresh → f' m = .fresh) → aops P z true ops n0 K (k + 1) l t' f' n → anyA P z ops n0 n (fun t f => K ⟨t, f, n⟩) l.length (listed.setIfInBounds k true) t' f' := by
        intro t' f' hfr' h'
        refine anyA_lex hlex l (k + 1) _ t' f' (fun j => ?_) (by simpa using hsz) (fun j hj => ?_) (fun j hj hkj => hfr' _ (by omega) (hfr j hj (by omega))) h'
        · have := hl (j + 1); simpa [Nat.add_assoc, Nat.add_comm 1 j] using this
        · by_cases hkj : k = j
          · subst hkj; simp [hsz, hk]
          · rw [getD_set_ne true hkj, hli j hj]
            simp; omega
      simp only [aops] at h
      have hat : atA P z ops n0 n k (fun t' f' => aops P z true ops n0 K (k + 1) l t' f' n) t f := by
        unfold atA
        simp only [ho]
        cases hg : o.guard with
        | none => simp only [hg] at h ⊢; exact conv _ t h
        | some q =>
          obtain ⟨j, want⟩ := q
          simp only [hg] at h ⊢
          cases hgs : gslot ops j with
          | none => simp only [hgs] at h
          | some d =>
            simp only [hgs] at h ⊢
            cases htd : t d with
            | bool b =>
              simp only [htd] at h ⊢
              refine ⟨fun hb => ?_, fun hb => ?_⟩
              · have hu := upd_self t d (v := .bool want) (by rw [htd, hb])
                have := h.1 hb
                rw [hu] at this
                exact conv _ t this
              · have hu := upd_self t d (v := .bool (!want)) (by rw [htd, hb])
                have := h.2 hb
                rw [hu] at this
                exact this
            | tup cs =>
              cases cs with
              | nil => simp only [htd] at h ⊢; exact h
              | cons c cs => simp only [htd] at h
            | _ => simp only [htd] at h
      exact atA_mono (fun t' f' hfr' h' => hnext t' f' hfr' h') hat

/-- It is the machine's own. -/
theorem anyA_sound {P : Program} {z : Bool} {ops : Array Oper} {n0 n ne N : Nat} {c0 : Cx} {K : (Nat → AV) → (Nat → BS) → Prop} {Q : Exit → Act → World → Prop} (hdst : ∀ o ∈ ops.toList, ∀ d, o.dst = some d → d < N) (hn : n0 + ops.size ≤ n)
    (hQ : ∀ t f a w, K t f → Sat c0 ne N ⟨t, f, n⟩ a w → Q .normal a w) : ∀ (fuel : Nat) (listed : Array Bool) (t : Nat → AV) (f : Nat → BS) (a : Act) (c : Cx), anyA P z ops n0 n K fuel listed t f → HOk c f → (∀ j, n ≤ j → f j = .fresh) →
      (∀ j, j < ops.size → listed.getD j true = false → f (n0 + j) = .fresh) → (∀ k, Rv c (t k) (a.tmps.getD k undef)) → a.tmps.size = N → a.defers = [] → Stp c0 c → (∀ j, c0.U j → j < ne) → ne ≤ n → wpAny P .any ops Q fuel listed a c.w := by
  intro fuel
  induction fuel with
  | zero =>
    intro listed t f a c h hk hfr hids ht hN hd hs h0 hne
    exact ⟨h.1, hQ t f a c.w h.2 ⟨c, rfl, hk, hfr, ht, hN, hd, hs, h0, hne⟩⟩
  | succ fuel ih =>
    intro listed t f a c h hk hfr hids ht hN hd hs h0 hne
    refine ⟨fun hr => hQ t f a c.w (h.1 hr) ⟨c, rfl, hk, hfr, ht, hN, hd, hs, h0, hne⟩, fun i hi => ?_⟩
    have hat := h.2 i hi
    obtain ⟨hun, o, ho, hall⟩ := mem_ready.1 hi
    have hlt : i < ops.size := (Array.getElem?_eq_some_iff.1 ho).1
    have hds : ∀ d, o.dst = some d → d < a.tmps.size := fun d h => by rw [hN]; exact hdst o (by simpa using Array.mem_of_getElem? ho) d h
    have next : ∀ (t' : Nat → AV) (f' : Nat → BS) (a' : Act) (c' : Cx), anyA P z ops n0 n K fuel (listed.setIfInBounds i true) t' f' → HOk c' f' → Stp c c' → (∀ k, Rv c' (t' k) (a'.tmps.getD k undef)) → a'.tmps.size = N → a'.defers = [] →
        (∀ j, j < n → j ≠ n0 + i → f j = .fresh → f' j = .fresh) → (∀ j, n ≤ j → f' j = .fresh) → wpAny P .any ops Q fuel (listed.setIfInBounds i true) a' c'.w := by
      intro t' f' a' c' h1 h2 h3 h4 h5 h6 h7 h8
      refine ih _ t' f' a' c' h1 h2 h8 (fun j hj hun' => ?_) h4 h5 h6 (hs.trans h3) h0 hne
      have hij : i ≠ j := by
        intro he; subst he
        rcases Nat.lt_or_ge i listed.size with h' | h'
        · simp [h'] at hun'
        · simp [Array.getElem?_eq_none h'] at hun
      rw [getD_set_ne true hij] at hun'
      exact h7 _ (by omega) (by omega) (hids j hj hun')
    have step : aop P z true (n0 + i) n o.op (aev t) f (fun v f' _ => anyA P z ops n0 n K fuel (listed.setIfInBounds i true) (putA t o.dst v) f') → o.wp P a c.w (wpAny P .any ops Q fuel (listed.setIfInBounds i true)) Q := by
      intro hop
      refine aop_sound (z := z) (q := true) (K := fun v f' n' => n' = n ∧ anyA P z ops n0 n K fuel (listed.setIfInBounds i true) (putA t o.dst v) f') ?_ hk hfr (hids i hlt hun) (by omega) (aev_rv ht) fun v c' r f' n' hK hk' hs' hr' hn' hold hnew => ?_
      · unfold aop at hop ⊢
        cases hc : clsOf o.op <;> simp only [hc] at hop ⊢
        · split at hop
          · exact ⟨hop.1, trivial, hop.2⟩
          · exact hop
        · split at hop
          · exact ⟨hop.1, trivial, hop.2⟩
          · exact hop
        · split at hop
          · exact ⟨hop.1, trivial, hop.2⟩
          · exact hop
        · obtain ⟨v, f', g1, g2, _⟩ := lop_out hop
          exact g1 _ ⟨trivial, g2⟩
        · split at hop
          · split at hop
            · simp only [if_true] at hop ⊢
              obtain ⟨r, g1, g2, g3, g4, g5⟩ := hop
              exact ⟨r, g1, g2, g3, g4, trivial, g5⟩
            · exact hop
          · exact hop
      · obtain ⟨rfl, hK⟩ := hK
        exact next _ f' _ c' hK hk' hs' (put_rv (fun k => (ht k).keep hs' hk.shut) hds hr') (by rw [put_size]; exact hN) (by rw [put_defers]; exact hd) hold hnew
    unfold wpOp
    simp only [ho]
    unfold atA at hat
    simp only [ho] at hat
    cases hg : o.guard with
    | none =>
      simp only [hg] at hat
      rw [if_pos (by simp [Region.wanted, hg])]
      exact .inl (step hat)
    | some q =>
      obtain ⟨j, want⟩ := q
      simp only [hg] at hat
      split at hat
      · rename_i d hgs
        split at hat
        · rename_i b htd
          have hy := yielded_of ht hgs htd
          by_cases hb : b = want
          · rw [if_pos (by simp [Region.wanted, hg, hy, hb])]
            exact .inl (step (hat.1 hb))
          · rw [if_neg (by simp [Region.wanted, hg, hy, hb])]
            have hb' : b = !want := by cases b <;> cases want <;> simp_all
            exact next _ f _ c (hat.2 hb') hk (Stp.refl c) (put_rv ht hds (undef_rv c)) (by rw [put_size]; exact hN) (by rw [put_defers]; exact hd) (fun _ _ _ h => h) hfr
        · rename_i htd
          have hy := yielded_tup ht hgs htd
          rw [if_neg (by simp [Region.wanted, hg, hy])]
          exact next _ f _ c hat hk (Stp.refl c) (put_rv ht hds (undef_rv c)) (by rw [put_size]; exact hN) (by rw [put_defers]; exact hd) (fun _ _ _ h => h) hfr
        · exact hat.elim
      · exact hat.elim

/-- A region whose order is drawn: the text's order serves. -/
theorem draw_sound {P : Program} {z : Bool} (hm : P.follows .mixedOrders = true) {id ne N : Nat} {ops : Array Oper} (hlex : lexOk z ops = true) (hdst : ∀ o ∈ ops.toList, ∀ d, o.dst = some d → d < N) {c0 : Cx} {K : St → Prop} {Q : Exit → Act → World → Prop}
    (hQ : ∀ s a w, K s → Sat c0 ne N s a w → Q .normal a w) {s : St} {a : Act} {w : World} (h : aops P z true ops s.n K 0 ops.toList s.t s.f (s.n + ops.size)) (hs : Sat c0 ne N s a w) : (Code.region id ops true).wp P Q a w := by
  obtain ⟨c, rfl, hk, hfr, ht, hN, hd, hst, h0, hne⟩ := hs
  refine wp_region_any hm ?_
  have hany := anyA_lex hlex ops.toList 0 (Array.replicate ops.size false) s.t s.f (by simp) (by simp) (fun j hj => by simp [hj]) (fun j hj _ => hfr _ (by omega)) h
  rw [Array.length_toList] at hany
  exact anyA_sound (n0 := s.n) (n := s.n + ops.size) hdst (Nat.le_refl _) (fun t f a w hK hS => hQ ⟨t, f, s.n + ops.size⟩ a w hK hS) ops.size _ s.t s.f a c.drew hany hk.drew (fun j hj => hfr j (by omega)) (fun j hj _ => hfr _ (by omega)) (fun k => (ht k).keep (Stp.drew c) hk.shut) hN hd (hst.trans (Stp.drew c)) h0 (by omega)

end Go.Proofs.Ytpmahilkkoengaa
