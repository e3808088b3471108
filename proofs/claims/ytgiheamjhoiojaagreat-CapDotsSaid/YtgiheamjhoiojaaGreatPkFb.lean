import Derived.Test.YtgiheamjhoiojaaGreatPkFa
import Derived.Below
namespace Go.Proofs.YtgiheamjhoiojaaGreat
open Go
set_option linter.unusedSimpArgs false
set_option linter.unusedVariables false
def atA (P : Program) (z : Bool) (ops : Array Oper) (n0 n i : Nat) (K : (Nat → AV) → (Nat → BS) → Prop) (t : Nat → AV) (f : Nat → BS) : Prop :=
  match ops[i]? with
  | none => False
  | some o =>
    match o.guard with
    | none => aop P z true (barB ops i) (hdB z true ops n0 i) (n0 + i) n o.op (aev t) f fun v f' _ => K (putA t o.dst v) f'
    | some (j, want) =>
      match gslot ops j with
      | some d => match t d with
        | .bool b => (b = want → aop P z true (barB ops i) (hdB z true ops n0 i) (n0 + i) n o.op (aev t) f fun v f' _ => K (putA t o.dst v) f') ∧ (b = !want → K (putA t o.dst (.tup [])) f)
        | .tup [] => K (putA t o.dst (.tup [])) f
        | _ => False
      | none => False
def EffG (P : Program) (z : Bool) (ops : Array Oper) (n0 i : Nat) (o : Oper) (t : Nat → AV) (f : Nat → BS) (v : AV) (e : Option BS) : Prop :=
  match o.guard with
  | none => Eff P z (hdB z true ops n0 i) (n0 + i) o.op (aev t) f v e
  | some (j, want) => ∃ d, gslot ops j = some d ∧ ((t d = .bool want ∧ Eff P z (hdB z true ops n0 i) (n0 + i) o.op (aev t) f v e) ∨ ((t d = .bool (!want) ∨ t d = .tup []) ∧ v = .tup [] ∧ e = none))
theorem atA_eff {P : Program} {z : Bool} {ops : Array Oper} {n0 n i : Nat} {K : (Nat → AV) → (Nat → BS) → Prop} {t : Nat → AV} {f : Nat → BS} {o : Oper} (ho : ops[i]? = some o) (hc : clsOf o.op ≠ .l) (hb : barB ops i = false ∨ clsOf o.op ≠ .c) :
    atA P z ops n0 n i K t f ↔ ∃ v e, EffG P z ops n0 i o t f v e ∧ K (putA t o.dst v) (appE f (n0 + i) e) := by
  unfold atA EffG
  simp only [ho]
  have ebq : ∀ id ρ f (J : AV → (Nat → BS) → Nat → Prop), aop P z true (barB ops i) (hdB z true ops n0 i) id n o.op ρ f J = aop P z true false (hdB z true ops n0 i) id n o.op ρ f J := fun id ρ f J => by
    rcases hb with hb | hb
    · rw [hb]
    · exact aop_bq hb
  simp only [ebq]
  cases hg : o.guard with
  | none => simp only; exact aop_eff hc
  | some q =>
    obtain ⟨j, want⟩ := q
    simp only
    cases hgs : gslot ops j with
    | none => simp
    | some d =>
      simp only
      cases ht : t d with
      | bool b =>
        simp only
        constructor
        · intro ⟨h1, h2⟩
          by_cases hb : b = want
          · obtain ⟨v, e, g1, g2⟩ := (aop_eff hc).1 (h1 hb)
            exact ⟨v, e, ⟨d, rfl, .inl ⟨by rw [ht, hb], g1⟩⟩, g2⟩
          · have hb' : b = !want := by cases b <;> cases want <;> simp_all
            exact ⟨.tup [], none, ⟨d, rfl, .inr ⟨.inl (by rw [ht, hb']), rfl, rfl⟩⟩, h2 hb'⟩
        · rintro ⟨v, e, ⟨d', h1, h3⟩, h4⟩
          simp only [Option.some.injEq] at h1; subst h1
          rw [ht] at h3
          rcases h3 with ⟨g1, g2⟩ | ⟨g1, rfl, rfl⟩
          · injection g1 with g1
            exact ⟨fun _ => (aop_eff hc).2 ⟨v, e, g2, h4⟩, fun hb => by subst g1; cases b <;> simp at hb⟩
          · rcases g1 with g1 | g1
            · injection g1 with g1
              exact ⟨fun hb => by subst hb; cases b <;> simp at g1, fun _ => h4⟩
            · cases g1
      | tup cs =>
        cases cs with
        | nil =>
          simp only
          constructor
          · intro h; exact ⟨.tup [], none, ⟨d, rfl, .inr ⟨.inr ht, rfl, rfl⟩⟩, h⟩
          · rintro ⟨v, e, ⟨d', h1, h3⟩, h4⟩
            simp only [Option.some.injEq] at h1; subst h1
            rw [ht] at h3
            rcases h3 with ⟨g1, g2⟩ | ⟨g1, rfl, rfl⟩
            · cases g1
            · exact h4
        | cons c cs =>
          simp only [false_iff]
          rintro ⟨v, e, ⟨d', h1, h2⟩, _⟩
          simp only [Option.some.injEq] at h1; subst h1
          rw [ht] at h2; simp at h2
      | _ =>
        simp only [false_iff]
        rintro ⟨v, e, ⟨d', h1, h2⟩, _⟩
        simp only [Option.some.injEq] at h1; subst h1
        rw [ht] at h2; simp at h2
theorem aev_put {o : Oper} {ops : Array Oper} {t : Nat → AV} {dst : Option Tmp} {u : AV} (h : ∀ d, dst = some d → d ∉ o.looksAt ops) : ∀ x ∈ o.op.operands, aev (putA t dst u) x = aev t x := by
  intro x hx
  cases dst with
  | none => rfl
  | some d =>
    cases x with
    | tmp m =>
      simp only [aev, putA]
      refine upd_ne _ _ _ fun hm => ?_
      subst hm
      exact h m rfl (List.mem_append_left _ (List.mem_filterMap.2 ⟨.tmp m, by simpa using hx, rfl⟩))
    | _ => rfl
theorem slot_put {o : Oper} {ops : Array Oper} {t : Nat → AV} {dst : Option Tmp} {u : AV} (h : ∀ d, dst = some d → d ∉ o.looksAt ops) {j : Nat} {want : Bool} (hg : o.guard = some (j, want)) {d : Nat} (hd : gslot ops j = some d) : putA t dst u d = t d := by
  cases dst with
  | none => rfl
  | some m =>
    simp only [putA]
    refine upd_ne _ _ _ fun hm => ?_
    subst hm
    refine h d rfl ?_
    unfold gslot at hd
    simp [Oper.looksAt, hg, hd]
theorem EffG.put {P : Program} {z : Bool} {ops : Array Oper} {n0 i : Nat} {o : Oper} {t : Nat → AV} {f : Nat → BS} {v : AV} {e : Option BS} {dst : Option Tmp} {u : AV} (h : ∀ d, dst = some d → d ∉ o.looksAt ops) : EffG P z ops n0 i o (putA t dst u) f v e ↔ EffG P z ops n0 i o t f v e := by
  have ha := aev_put (o := o) (ops := ops) (t := t) (u := u) h
  have hE : Eff P z (hdB z true ops n0 i) (n0 + i) o.op (aev (putA t dst u)) f v e ↔ Eff P z (hdB z true ops n0 i) (n0 + i) o.op (aev t) f v e := ⟨Eff.congr ha, Eff.congr fun x hx => (ha x hx).symm⟩
  unfold EffG
  cases hg : o.guard with
  | none => exact hE
  | some q =>
    obtain ⟨j, want⟩ := q
    simp only
    constructor
    · rintro ⟨d, h1, h3⟩; rw [slot_put (t := t) (u := u) h hg h1] at h3; exact ⟨d, h1, h3.imp (fun ⟨x, y⟩ => ⟨x, hE.1 y⟩) id⟩
    · rintro ⟨d, h1, h3⟩; refine ⟨d, h1, ?_⟩; rw [slot_put (t := t) (u := u) h hg h1]; exact h3.imp (fun ⟨x, y⟩ => ⟨x, hE.2 y⟩) id
theorem EffG.grow {P : Program} {z : Bool} {ops : Array Oper} {n0 i : Nat} {o : Oper} {t : Nat → AV} {f : Nat → BS} {v : AV} {e : Option BS} (he : EffG P z ops n0 i o t f v e) {j : Nat} (hj : f j = .fresh) {b : BS} (hb : b ≠ .fresh) : EffG P z ops n0 i o t (upd f j b) v e := by
  unfold EffG at *
  split at he
  · exact he.grow hj hb
  · obtain ⟨d, h1, h3⟩ := he
    exact ⟨d, h1, h3.imp (fun ⟨x, y⟩ => ⟨x, y.grow hj hb⟩) id⟩
theorem EffG.indep {P : Program} {z : Bool} {ops : Array Oper} {n0 i : Nat} {o : Oper} {t : Nat → AV} {f f' : Nat → BS} {v : AV} {e : Option BS} (hc : clsOf o.op = .v ∨ clsOf o.op = .g ∨ (clsOf o.op = .r ∧ ∀ m, hdB z true ops n0 i m = false → f' m = f m)) (he : EffG P z ops n0 i o t f v e) : EffG P z ops n0 i o t f' v e := by
  unfold EffG at *
  split at he
  · exact he.indep hc
  · obtain ⟨d, h1, h3⟩ := he
    exact ⟨d, h1, h3.imp (fun ⟨x, y⟩ => ⟨x, y.indep hc⟩) id⟩
theorem EffG.hid {P : Program} {z : Bool} {ops : Array Oper} {n0 i : Nat} {o : Oper} {t : Nat → AV} {f : Nat → BS} {v : AV} {e : Option BS} (hc : clsOf o.op = .r) {j : Nat} (hj : hdB z true ops n0 i j = true) {b : BS} (he : EffG P z ops n0 i o t (upd f j b) v e) : EffG P z ops n0 i o t f v e := by
  unfold EffG at *
  split at he
  · exact he.hid hc hj
  · obtain ⟨d, h1, h3⟩ := he
    exact ⟨d, h1, h3.imp (fun ⟨x, y⟩ => ⟨x, y.hid hc hj⟩) id⟩
theorem EffG.made {P : Program} {z : Bool} {ops : Array Oper} {n0 i : Nat} {o : Oper} {t : Nat → AV} {f : Nat → BS} {v : AV} {b : BS} (he : EffG P z ops n0 i o t f v (some b)) : clsOf o.op = .g ∧ b ≠ .fresh := by
  unfold EffG at he
  split at he
  · exact he.made
  · obtain ⟨d, h1, h3⟩ := he
    rcases h3 with ⟨_, h3⟩ | ⟨_, _, h3⟩
    · exact h3.made
    · cases h3
theorem putA_comm (t : Nat → AV) {x y : Option Tmp} (v u : AV) (h : ∀ d, x = some d → y ≠ some d) : putA (putA t x v) y u = putA (putA t y u) x v := by
  cases x with
  | none => rfl
  | some d =>
    cases y with
    | none => rfl
    | some e => exact upd_comm t v u fun he => h d rfl (he ▸ rfl)
def compat (z : Bool) : Cls → Cls → Bool
  | .v, _ => true
  | .r, .l => z
  | .c, .l => false
  | .r, _ => true
  | .c, _ => true
  | .g, .v => true
  | .g, .g => true
  | .g, .r => true
  | _, _ => false
theorem atA_comm {P : Program} {z : Bool} {ops : Array Oper} {n0 n i j : Nat} {K : (Nat → AV) → (Nat → BS) → Prop} {t : Nat → AV} {f : Nat → BS} {oi oj : Oper} (hi : ops[i]? = some oi) (hj : ops[j]? = some oj) (hne : i ≠ j) (hap : oi.apart ops oj = true) (hcp : compat z (clsOf oi.op) (clsOf oj.op) = true) (hid : clsOf oi.op = .g → hidB ops j i = true)
    (bi : barB ops i = false) (bj : barB ops j = false) (fi : f (n0 + i) = .fresh) (fj : f (n0 + j) = .fresh) (h : atA P z ops n0 n i (fun t f => atA P z ops n0 n j K t f) t f) : atA P z ops n0 n j (fun t f => atA P z ops n0 n i K t f) t f := by
  obtain ⟨a1, a2, a3⟩ := Oper.apart_spec hap
  have hli : clsOf oi.op ≠ .l := by intro he; rw [he] at hcp; cases hh : clsOf oj.op <;> rw [hh] at hcp <;> simp [compat] at hcp
  rw [atA_eff hi hli (.inl bi)] at h
  obtain ⟨vi, ei, h1, h2⟩ := h
  by_cases hlj : clsOf oj.op = .l
  ·
    have hv : clsOf oi.op = .v ∨ (clsOf oi.op = .r ∧ z = true) := by rw [hlj] at hcp; cases hh : clsOf oi.op <;> rw [hh] at hcp <;> simp [compat] at hcp <;> simp [hcp]
    have hei : ei = none := by
      cases ei with
      | none => rfl
      | some b => have := h1.made.1; rcases hv with hv | ⟨hv, _⟩ <;> rw [hv] at this <;> cases this
    subst hei
    simp only [appE] at h2
    have hkz : ∀ f' : Nat → BS, ((z && true) = true → ∀ m, hdB z true ops n0 j m = false → f' m = f m) → clsOf oi.op = .v ∨ clsOf oi.op = .g ∨ (clsOf oi.op = .r ∧ ∀ m, hdB z true ops n0 i m = false → f' m = f m) := by
      intro f' hk
      rcases hv with h | ⟨h, hz⟩
      · exact .inl h
      · refine .inr (.inr ⟨h, fun m hm => ?_⟩)
        subst hz
        exact hk rfl m (by unfold hdB at hm ⊢; simpa using hm)
    have back : ∀ (u : AV) (f' : Nat → BS), ((z && true) = true → ∀ m, hdB z true ops n0 j m = false → f' m = f m) → K (putA (putA t oi.dst vi) oj.dst u) f' → atA P z ops n0 n i K (putA t oj.dst u) f' := by
      intro u f' hkp hK
      rw [atA_eff hi hli (.inl bi)]
      refine ⟨vi, none, (EffG.put a3).2 (h1.indep (hkz f' hkp)), ?_⟩
      simp only [appE]
      rwa [putA_comm t u vi (fun d hd => fun hx => a2 d hx hd)]
    unfold atA at h2 ⊢
    simp only [hj] at h2 ⊢
    have ha := aev_put (o := oj) (ops := ops) (t := t) (u := vi) a1
    have hop : ∀ K' : AV → (Nat → BS) → Nat → Prop, aop P z true (barB ops j) (hdB z true ops n0 j) (n0 + j) n oj.op (aev (putA t oi.dst vi)) f K' → aop P z true (barB ops j) (hdB z true ops n0 j) (n0 + j) n oj.op (aev t) f K' := by
      intro K' hK'
      unfold aop at hK' ⊢
      simp only [hlj] at hK' ⊢
      rwa [lop_congr ha] at hK'
    have hmono : ∀ K' K'' : AV → (Nat → BS) → Nat → Prop, (∀ v f', ((z && true) = true → ∀ m, hdB z true ops n0 j m = false → f' m = f m) → K' v f' n → K'' v f' n) → aop P z true (barB ops j) (hdB z true ops n0 j) (n0 + j) n oj.op (aev t) f K' → aop P z true (barB ops j) (hdB z true ops n0 j) (n0 + j) n oj.op (aev t) f K'' := by
      intro K' K'' hk hK'
      unfold aop at hK' ⊢
      simp only [hlj, nxt, cond_true, Bool.cond_self] at hK' ⊢
      obtain ⟨v, f', g1, g2, _⟩ := lop_out hK'
      exact g1 _ ⟨g2.1, hk v f' g2.1 g2.2⟩
    cases hg : oj.guard with
    | none =>
      simp only [hg] at h2 ⊢
      exact hmono _ _ (fun v f' hkp hK => back v f' hkp hK) (hop _ h2)
    | some q =>
      obtain ⟨jj, want⟩ := q
      simp only [hg] at h2 ⊢
      cases hgs : gslot ops jj with
      | none => simp only [hgs] at h2
      | some d =>
        simp only [hgs] at h2 ⊢
        rw [slot_put a1 hg hgs] at h2
        cases htd : t d with
        | bool b =>
          simp only [htd] at h2 ⊢
          exact ⟨fun hb => hmono _ _ (fun v f' hkp hK => back v f' hkp hK) (hop _ (h2.1 hb)), fun hb => back _ _ (fun _ _ _ => rfl) (h2.2 hb)⟩
        | tup cs =>
          cases cs with
          | nil => simp only [htd] at h2 ⊢; exact back _ _ (fun _ _ _ => rfl) h2
          | cons c cs => simp only [htd] at h2
        | _ => simp only [htd] at h2
  · rw [atA_eff hj hlj (.inl bj)] at h2
    obtain ⟨vj, ej, h3, h4⟩ := h2
    have h3' : EffG P z ops n0 j oj t f vj ej := by
      have h5 := (EffG.put a1).1 h3
      cases ei with
      | none => exact h5
      | some b =>
        have hg := h1.made.1
        have hhid := hid hg
        rw [hg] at hcp
        by_cases hr : clsOf oj.op = .r
        · exact h5.hid hr (by unfold hdB; simp [hhid])
        · refine h5.indep ?_
          cases hh : clsOf oj.op <;> rw [hh] at hcp <;> simp [compat] at hcp <;> first | (simp; done) | exact absurd hh hr
    rw [atA_eff hj hlj (.inl bj)]
    refine ⟨vj, ej, h3', ?_⟩
    rw [atA_eff hi hli (.inl bi)]
    refine ⟨vi, ei, (EffG.put a3).2 ?_, ?_⟩
    · cases ej with
      | none => exact h1
      | some b => exact h1.grow fj h3'.made.2
    · rw [putA_comm t vj vi (fun d hd => fun hx => a2 d hx hd)]
      have : appE (appE f (n0 + j) ej) (n0 + i) ei = appE (appE f (n0 + i) ei) (n0 + j) ej := by
        cases ei <;> cases ej <;> simp only [appE]
        exact upd_comm f _ _ (by omega)
      rw [this]
      exact h4
theorem atA_mono {P : Program} {z : Bool} {ops : Array Oper} {n0 n i : Nat} {K K' : (Nat → AV) → (Nat → BS) → Prop} {t : Nat → AV} {f : Nat → BS} (hK : ∀ t' f', (∀ m, m ≠ n0 + i → f m = .fresh → f' m = .fresh) → K t' f' → K' t' f') (h : atA P z ops n0 n i K t f) : atA P z ops n0 n i K' t f := by
  cases ho : ops[i]? with
  | none => simp [atA, ho] at h
  | some o =>
    by_cases hl : clsOf o.op = .l ∨ (clsOf o.op = .c ∧ barB ops i = true)
    · have hm : ∀ J J' : AV → (Nat → BS) → Nat → Prop, (∀ v f', (∀ m, m ≠ n0 + i → f m = .fresh → f' m = .fresh) → J v f' n → J' v f' n) → aop P z true (barB ops i) (hdB z true ops n0 i) (n0 + i) n o.op (aev t) f J → aop P z true (barB ops i) (hdB z true ops n0 i) (n0 + i) n o.op (aev t) f J' := by
        intro J J' hj hJ
        unfold aop at hJ ⊢
        rcases hl with hl | ⟨hl, _⟩
        · simp only [hl, nxt, cond_true, Bool.cond_self] at hJ ⊢
          obtain ⟨v, f', g1, g2, g3, _⟩ := lop_out hJ
          exact g1 _ ⟨g2.1, hj v f' g3 g2.2⟩
        · simp only [hl, if_true] at hJ ⊢
          split at hJ
          · split at hJ
            · rcases hJ with ⟨r, h1, h2⟩ | ⟨h1, h2⟩
              · exact .inl ⟨r, h1, hj _ _ (fun _ _ h => h) h2⟩
              · exact .inr ⟨h1, h2.mono fun r f' hf hr => hj _ _ (fun m _ h => (hf m).2 h) hr⟩
            · exact hJ
          · exact hJ
      unfold atA at h ⊢
      simp only [ho] at h ⊢
      cases hg : o.guard with
      | none => simp only [hg] at h ⊢; exact hm _ _ (fun v f' h1 h2 => hK _ _ h1 h2) h
      | some q =>
        obtain ⟨j, want⟩ := q
        simp only [hg] at h ⊢
        split at h
        · split at h
          · exact ⟨fun hb => hm _ _ (fun v f' h1 h2 => hK _ _ h1 h2) (h.1 hb), fun hb => hK _ _ (fun _ _ h => h) (h.2 hb)⟩
          · exact hK _ _ (fun _ _ h => h) h
          · exact h.elim
        · exact h.elim
    · have hl' : clsOf o.op ≠ .l := fun h => hl (.inl h)
      have hb' : barB ops i = false ∨ clsOf o.op ≠ .c := by
        cases hb : barB ops i with
        | false => exact .inl rfl
        | true => exact .inr fun h => hl (.inr ⟨h, hb⟩)
      rw [atA_eff ho hl' hb'] at h ⊢
      obtain ⟨v, e, h1, h2⟩ := h
      refine ⟨v, e, h1, hK _ _ (fun m hm hfm => ?_) h2⟩
      cases e with
      | none => exact hfm
      | some b => simp only [appE]; rw [upd_ne _ _ _ hm]; exact hfm
theorem atA_some {P : Program} {z : Bool} {ops : Array Oper} {n0 n i : Nat} {K : (Nat → AV) → (Nat → BS) → Prop} {t : Nat → AV} {f : Nat → BS} (hb : barB ops i = false) (h : atA P z ops n0 n i K t f) : ∃ t' f', K t' f' := by
  cases ho : ops[i]? with
  | none => simp [atA, ho] at h
  | some o =>
    by_cases hl : clsOf o.op = .l
    · have hm : ∀ J : AV → (Nat → BS) → Nat → Prop, aop P z true (barB ops i) (hdB z true ops n0 i) (n0 + i) n o.op (aev t) f J → ∃ v f', J v f' n := by
        intro J hJ
        unfold aop at hJ
        simp only [hl, nxt, cond_true, Bool.cond_self] at hJ
        obtain ⟨v, f', g1, g2, g3⟩ := lop_out hJ
        exact ⟨v, f', g2.2⟩
      unfold atA at h
      simp only [ho] at h
      cases hg : o.guard with
      | none => simp only [hg] at h; obtain ⟨v, f', h⟩ := hm _ h; exact ⟨_, _, h⟩
      | some q =>
        obtain ⟨j, want⟩ := q
        simp only [hg] at h
        split at h
        · split at h
          · rename_i b _
            by_cases hb : b = want
            · obtain ⟨v, f', h⟩ := hm _ (h.1 hb); exact ⟨_, _, h⟩
            · exact ⟨_, _, h.2 (by cases b <;> cases want <;> simp_all)⟩
          · exact ⟨_, _, h⟩
          · exact h.elim
        · exact h.elim
    · rw [atA_eff ho hl (.inl hb)] at h
      obtain ⟨v, e, h1, h2⟩ := h
      exact ⟨_, _, h2⟩
def anyA (P : Program) (z : Bool) (ops : Array Oper) (n0 n : Nat) (K : (Nat → AV) → (Nat → BS) → Prop) : Nat → Array Bool → (Nat → AV) → (Nat → BS) → Prop
  | 0, listed, t, f => Region.ready .any ops listed = [] ∧ K t f
  | fuel + 1, listed, t, f => (Region.ready .any ops listed = [] → K t f) ∧ ∀ i ∈ Region.ready .any ops listed, atA P z ops n0 n i (fun t' f' => anyA P z ops n0 n K fuel (listed.setIfInBounds i true) t' f') t f
theorem ups_bit (acc : List Nat) (o : Oper) (i : Nat) (h : (ups acc o).testBit i = true) : ∃ e ∈ o.after.toList, Region.binds .any e = true ∧ (e.on = i ∨ (acc.getD e.on 0).testBit i = true) := by
  unfold ups at h
  have key : ∀ (l : List Edge) (s : Nat), (l.foldl (fun s e => if Region.binds .any e then s ||| (2 ^ e.on ||| acc.getD e.on 0) else s) s).testBit i = true → s.testBit i = true ∨ ∃ e ∈ l, Region.binds .any e = true ∧ (e.on = i ∨ (acc.getD e.on 0).testBit i = true) := by
    intro l
    induction l with
    | nil => intro s h; exact .inl h
    | cons e l ih =>
      intro s h
      simp only [List.foldl_cons] at h
      rcases ih _ h with h1 | ⟨e', h1, h2⟩
      · split at h1
        · rename_i hb
          simp only [Nat.testBit_or, Bool.or_eq_true, Nat.testBit_two_pow, decide_eq_true_eq] at h1
          rcases h1 with h1 | h1 | h1
          · exact .inl h1
          · exact .inr ⟨e, by simp, hb, .inl h1⟩
          · exact .inr ⟨e, by simp, hb, .inr h1⟩
        · exact .inl h1
      · exact .inr ⟨e', by simp [h1], h2⟩
  rcases key _ 0 h with h1 | h1
  · simp at h1
  · exact h1
def BefOk (ops : Array Oper) (acc : List Nat) : Prop := ∀ (j m : Nat), acc[j]? = some m → ∀ i, m.testBit i = true → ∃ o, ops[j]? = some o ∧ ∃ e ∈ o.after.toList, Region.binds .any e = true ∧ (e.on = i ∨ (e.on < j ∧ (acc.getD e.on 0).testBit i = true))
theorem bef_ok (ops : Array Oper) : ∀ (l : List Oper) (acc : List Nat), (∀ j, l[j]? = ops[acc.length + j]?) → BefOk ops acc → BefOk ops (bef acc l)
  | [], acc, _, h => h
  | o :: l, acc, hl, h => by
    refine bef_ok ops l _ (fun j => ?_) fun j m hj i hi => ?_
    · have := hl (j + 1)
      simpa [Nat.add_assoc, Nat.add_comm 1 j] using this
    · rcases Nat.lt_trichotomy j acc.length with hlt | heq | hgt
      · rw [List.getElem?_append_left hlt] at hj
        obtain ⟨o', h1, e, h2, h3, h4⟩ := h j m hj i hi
        refine ⟨o', h1, e, h2, h3, h4.imp id fun ⟨h5, h6⟩ => ⟨h5, ?_⟩⟩
        rw [List.getD_eq_getElem?_getD] at h6 ⊢
        rwa [List.getElem?_append_left (by omega)]
      · subst heq
        simp only [List.getElem?_append_right (Nat.le_refl _), Nat.sub_self, List.getElem?_cons_zero, Option.some.injEq] at hj
        subst hj
        have ho : ops[acc.length]? = some o := by have := hl 0; simpa using this.symm
        obtain ⟨e, h2, h3, h4⟩ := ups_bit acc o i hi
        refine ⟨o, ho, e, h2, h3, ?_⟩
        rcases h4 with h4 | h4
        · exact .inl h4
        · have hlt : e.on < acc.length := by
            rcases Nat.lt_or_ge e.on acc.length with h' | h'
            · exact h'
            · rw [List.getD_eq_getElem?_getD, List.getElem?_eq_none h'] at h4; simp at h4
          refine .inr ⟨hlt, ?_⟩
          rw [List.getD_eq_getElem?_getD] at h4 ⊢
          rwa [List.getElem?_append_left hlt]
      · rw [List.getElem?_eq_none (by simp; omega)] at hj; cases hj
def Shut (ops : Array Oper) (listed : Array Bool) : Prop := ∀ j, listed.getD j false = true → ∀ o, ops[j]? = some o → ∀ e ∈ o.after, Region.binds .any e = true → listed.getD e.on false = true
theorem waits_listed {ops : Array Oper} {listed : Array Bool} (hs : Shut ops listed) : ∀ (j : Nat), (∀ o, ops[j]? = some o → ∀ e ∈ o.after, Region.binds .any e = true → listed.getD e.on false = true) → ∀ i, ((bef [] ops.toList).getD j 0).testBit i = true → listed.getD i false = true := by
  have hok := bef_ok ops ops.toList [] (by simp) (fun j m h => by simp at h)
  intro j
  induction j using Nat.strongRecOn with
  | _ j ih =>
    intro hj i hi
    rw [List.getD_eq_getElem?_getD] at hi
    cases hm : (bef [] ops.toList)[j]? with
    | none => rw [hm] at hi; simp at hi
    | some m =>
      rw [hm] at hi
      simp only [Option.getD_some] at hi
      obtain ⟨o, h1, e, h2, h3, h4⟩ := hok j m hm i hi
      have he := hj o h1 e (by simpa using h2) h3
      rcases h4 with rfl | ⟨h5, h6⟩
      · exact he
      · exact ih e.on h5 (fun o' ho' => hs e.on he o' ho') i h6
def pairOk (z : Bool) (ops : Array Oper) (bs : List Nat) (i j : Nat) (oi oj : Oper) : Bool := (bs.getD j 0).testBit i || (oi.apart ops oj && compat z (clsOf oi.op) (clsOf oj.op))
theorem bar_two {ops : Array Oper} {listed : Array Bool} (hs : Shut ops listed) {i j : Nat} (hi : i ∈ Region.ready .any ops listed) (hj : j ∈ Region.ready .any ops listed) (hij : i ≠ j) : barB ops i = false := by
  cases hb : barB ops i with
  | false => rfl
  | true =>
    obtain ⟨hiun, oi, hoi, halli⟩ := mem_ready.1 hi
    obtain ⟨hjun, oj, hoj, hallj⟩ := mem_ready.1 hj
    have key : ∀ (m k : Nat), m ∈ Region.ready .any ops listed → k ∈ Region.ready .any ops listed → ((bef [] ops.toList).getD m 0).testBit k = true → False := by
      intro m k hm hk hbit
      obtain ⟨_, om, hom, hallm⟩ := mem_ready.1 hm
      have hkun := (mem_ready.1 hk).1
      have := waits_listed hs m (fun o ho e he hb => by rw [hom] at ho; injection ho with ho; subst ho; exact hallm e he hb) k hbit
      rcases Nat.lt_or_ge k listed.size with h' | h'
      · simp [h'] at this hkun; rw [this] at hkun; cases hkun
      · simp [Array.getElem?_eq_none h'] at this
    unfold barB at hb
    rw [List.all_eq_true] at hb
    have := hb j (List.mem_range.2 (Array.getElem?_eq_some_iff.1 hoj).1)
    simp only [Bool.or_eq_true, beq_iff_eq] at this
    rcases this with h1 | h1 | h1
    · exact absurd h1.symm hij
    · exact (key i j hi hj h1).elim
    · exact (key j i hj hi h1).elim
theorem anyA_first {P : Program} {z : Bool} {ops : Array Oper} {n0 n : Nat} {K : (Nat → AV) → (Nat → BS) → Prop} {i : Nat} {oi : Oper} (hi : ops[i]? = some oi) : ∀ (fuel : Nat) (listed : Array Bool) (t : Nat → AV) (f : Nat → BS), Shut ops listed →
    (∀ j oj, ops[j]? = some oj → j ≠ i → listed.getD j true = false → i < j ∧ pairOk z ops (bef [] ops.toList) i j oi oj = true) → i ∈ Region.ready .any ops listed → (∀ j, j < ops.size → listed.getD j true = false → f (n0 + j) = .fresh) →
    atA P z ops n0 n i (fun t' f' => anyA P z ops n0 n K fuel (listed.setIfInBounds i true) t' f') t f → anyA P z ops n0 n K (fuel + 1) listed t f := by
  intro fuel
  induction fuel with
  | zero =>
    intro listed t f hsh _ hr _ H
    refine ⟨fun h => (by rw [h] at hr; cases hr), fun j hj => ?_⟩
    by_cases hji : j = i
    · subst hji; exact H
    · have := ready_mono hj hji
      obtain ⟨t', f', h1, _⟩ := atA_some (bar_two hsh hr hj (Ne.symm hji)) H
      rw [h1] at this
      cases this
  | succ fuel ih =>
    intro listed t f hsh hp hr hids H
    refine ⟨fun h => (by rw [h] at hr; cases hr), fun j hj => ?_⟩
    by_cases hji : j = i
    · subst hji; exact H
    · obtain ⟨hjun, oj, hoj, hall⟩ := mem_ready.1 hj
      have hiun := (mem_ready.1 hr).1
      have hlti : i < ops.size := (Array.getElem?_eq_some_iff.1 hi).1
      have hltj : j < ops.size := (Array.getElem?_eq_some_iff.1 hoj).1
      obtain ⟨hij, hpair⟩ := hp j oj hoj hji hjun
      have hnw : ((bef [] ops.toList).getD j 0).testBit i = false := by
        cases hb : ((bef [] ops.toList).getD j 0).testBit i with
        | false => rfl
        | true =>
          have := waits_listed hsh j (fun o ho e he hb => by rw [hoj] at ho; injection ho with ho; subst ho; exact hall e he hb) i hb
          rcases Nat.lt_or_ge i listed.size with h' | h'
          · simp [h'] at this hiun; rw [this] at hiun; cases hiun
          · simp [Array.getElem?_eq_none h'] at this
      simp only [pairOk, hnw, Bool.false_or, Bool.and_eq_true] at hpair
      have H1 : atA P z ops n0 n i (fun t' f' => atA P z ops n0 n j (fun t' f' => anyA P z ops n0 n K fuel ((listed.setIfInBounds i true).setIfInBounds j true) t' f') t' f') t f :=
        atA_mono (fun t' f' _ h => h.2 j (ready_mono hj hji)) H
      have H2 := atA_comm hi hoj (Ne.symm hji) hpair.1 hpair.2 (fun hg => by unfold hidB gB; rw [hnw]; simp [hij, hi, hg]) (bar_two hsh hr hj (Ne.symm hji)) (bar_two hsh hj hr hji) (hids i hlti hiun) (hids j hltj hjun) H1
      refine atA_mono (fun t' f' hfr h => ih (listed.setIfInBounds j true) t' f' ?_ ?_ (ready_mono hr (Ne.symm hji)) ?_ ?_) H2
      · intro m hm o ho e he hb
        by_cases hmj : j = m
        · subst hmj; rw [hoj] at ho; injection ho with ho; subst ho; exact getD_set_true (hall e he hb)
        · rw [getD_set_ne false hmj] at hm; exact getD_set_true (hsh m hm o ho e he hb)
      · intro m om hom hmi hun
        refine hp m om hom hmi ?_
        by_cases hjm : j = m
        · subst hjm; exact hjun
        · rw [getD_set_ne true hjm] at hun; exact hun
      · intro m hm hun
        have hjm : j ≠ m := by
          intro he; subst he
          rcases Nat.lt_or_ge j listed.size with h' | h'
          · simp [h'] at hun
          · simp [Array.getElem?_eq_none h'] at hjun
        rw [getD_set_ne true hjm] at hun
        exact hfr _ (by omega) (hids m hm hun)
      · rw [Array.setIfInBounds_comm _ _ hji]
        exact h
def lexOk (z : Bool) (ops : Array Oper) : Bool :=
  ops.toList.zipIdx.all fun (oj, j) => (oj.after.toList.all fun e => !Region.binds .any e || decide (e.on < j)) &&
    (ops.toList.zipIdx.all fun (oi, i) => !decide (i < j) || pairOk z ops (bef [] ops.toList) i j oi oj)
theorem lexOk_spec {z : Bool} {ops : Array Oper} (h : lexOk z ops = true) {j : Nat} {oj : Oper} (hj : ops[j]? = some oj) : (∀ e ∈ oj.after, Region.binds .any e = true → e.on < j) ∧ ∀ i oi, ops[i]? = some oi → i < j → pairOk z ops (bef [] ops.toList) i j oi oj = true := by
  unfold lexOk at h
  rw [List.all_eq_true] at h
  have hmem : ∀ (i : Nat) (oi : Oper), ops[i]? = some oi → (oi, i) ∈ ops.toList.zipIdx := fun i oi hi => by
    rw [List.mem_zipIdx_iff_getElem?]; simpa using hi
  have h1 := h (oj, j) (hmem j oj hj)
  simp only [Bool.and_eq_true, List.all_eq_true] at h1
  refine ⟨fun e he hb => ?_, fun i oi hi hij => ?_⟩
  · have := h1.1 e (by simpa using he)
    simpa [hb] using this
  · have := h1.2 (oi, i) (hmem i oi hi)
    simpa [hij] using this
theorem anyA_lex {P : Program} {z : Bool} {ops : Array Oper} (hlex : lexOk z ops = true) {n0 n : Nat} {K : St → Prop} : ∀ (l : List Oper) (k : Nat) (listed : Array Bool) (t : Nat → AV) (f : Nat → BS), (∀ j, l[j]? = ops[k + j]?) → listed.size = ops.size → (∀ j, j < ops.size → listed.getD j true = decide (j < k)) →
    (∀ j, j < ops.size → k ≤ j → f (n0 + j) = .fresh) → aops P z true ops n0 K k l t f n → anyA P z ops n0 n (fun t f => K ⟨t, dB n f, n⟩) l.length listed t f
  | [], k, listed, t, f, hl, hsz, hli, _, h => by
    simp only [aops] at h
    refine ⟨?_, h⟩
    have hk : ops.size ≤ k := by
      rcases Nat.lt_or_ge k ops.size with h' | h'
      · have := hl 0; simp [h'] at this
      · exact h'
    unfold Region.ready
    rw [List.filter_eq_nil_iff]
    intro j hj
    rw [List.mem_range] at hj
    have := hli j hj
    rw [this]
    simp; omega
  | o :: l, k, listed, t, f, hl, hsz, hli, hfr, h => by
    have ho : ops[k]? = some o := by have := hl 0; simpa using this.symm
    have hk : k < ops.size := (Array.getElem?_eq_some_iff.1 ho).1
    have hsh : Shut ops listed := by
      intro j hj o' ho' e he hb
      have hjs : j < ops.size := (Array.getElem?_eq_some_iff.1 ho').1
      have hjk : j < k := by
        have h1 := hli j hjs
        have h2 : listed.getD j true = true := by
          rw [Array.getD_eq_getD_getElem?] at hj ⊢
          rw [Array.getElem?_eq_getElem (by omega)] at hj ⊢
          simpa using hj
        rw [h2] at h1; simpa using h1.symm
      have hej := (lexOk_spec hlex ho').1 e he hb
      have h3 := hli e.on (by omega)
      rw [Array.getD_eq_getD_getElem?, Array.getElem?_eq_getElem (by omega)] at h3 ⊢
      simp only [Option.getD_some] at h3 ⊢
      rw [h3]; simp; omega
    refine anyA_first ho l.length listed t f hsh (fun j oj hoj hji hun => ?_) ?_ (fun j hj hun => ?_) ?_
    · have hjs : j < ops.size := (Array.getElem?_eq_some_iff.1 hoj).1
      rw [hli j hjs] at hun
      have hkj : k < j := by simp at hun; omega
      exact ⟨hkj, (lexOk_spec hlex hoj).2 k o ho hkj⟩
    · rw [mem_ready]
      refine ⟨by rw [hli k hk]; simp, o, ho, fun e he hb => ?_⟩
      have hej := (lexOk_spec hlex ho).1 e he hb
      have h3 := hli e.on (by omega)
      rw [Array.getD_eq_getD_getElem?, Array.getElem?_eq_getElem (by omega)] at h3 ⊢
      simp only [Option.getD_some] at h3 ⊢
      rw [h3]; simp; omega
    · rw [hli j hj] at hun
      exact hfr j hj (by simp at hun; omega)
    ·
      have conv : ∀ (J : AV → (Nat → BS) → Nat → Prop) (t0 : Nat → AV), aop P z true (barB ops k) (hdB z true ops n0 k) (n0 + k) n o.op (aev t0) f J → aop P z true (barB ops k) (hdB z true ops n0 k) (n0 + k) n o.op (aev t0) f fun v f' _ => J v f' n := by
        intro J t0 hJ
        unfold aop at hJ ⊢
        cases hc : clsOf o.op <;> simp only [hc, nxt, cond_true, Bool.cond_self] at hJ ⊢ <;> exact hJ
      have hnext : ∀ t' f', (∀ m, m ≠ n0 + k → f m = .fresh → f' m = .fresh) → aops P z true ops n0 K (k + 1) l t' f' n → anyA P z ops n0 n (fun t f => K ⟨t, dB n f, n⟩) l.length (listed.setIfInBounds k true) t' f' := by
        intro t' f' hfr' h'
        refine anyA_lex hlex l (k + 1) _ t' f' (fun j => ?_) (by simpa using hsz) (fun j hj => ?_) (fun j hj hkj => hfr' _ (by omega) (hfr j hj (by omega))) h'
        · have := hl (j + 1); simpa [Nat.add_assoc, Nat.add_comm 1 j] using this
        · by_cases hkj : k = j
          · subst hkj; simp [hsz, hk]
          · rw [getD_set_ne true hkj, hli j hj]
            simp; omega
      simp only [aops] at h
      have hat : atA P z ops n0 n k (fun t' f' => aops P z true ops n0 K (k + 1) l t' f' n) t f := by
        unfold atA
        simp only [ho]
        cases hg : o.guard with
        | none => simp only [hg] at h ⊢; exact conv _ t h
        | some q =>
          obtain ⟨j, want⟩ := q
          simp only [hg] at h ⊢
          cases hgs : gslot ops j with
          | none => simp only [hgs] at h
          | some d =>
            simp only [hgs] at h ⊢
            cases htd : t d with
            | bool b =>
              simp only [htd] at h ⊢
              refine ⟨fun hb => ?_, fun hb => ?_⟩
              · have hu := upd_self t d (v := .bool want) (by rw [htd, hb])
                have := h.1 hb
                rw [hu] at this
                exact conv _ t this
              · have hu := upd_self t d (v := .bool (!want)) (by rw [htd, hb])
                have := h.2 hb
                rw [hu] at this
                exact this
            | tup cs =>
              cases cs with
              | nil => simp only [htd] at h ⊢; exact h
              | cons c cs => simp only [htd] at h
            | _ => simp only [htd] at h
      exact atA_mono (fun t' f' hfr' h' => hnext t' f' hfr' h') hat
theorem anyA_sound {P : Program} {z : Bool} {rr : Option Nat} (hro : rr = rr) {ops : Array Oper} {n0 n ne N : Nat} {c0 : Cx} {K : (Nat → AV) → (Nat → BS) → Prop} {Q : Exit → Act → World → Prop} (hdst : ∀ o ∈ ops.toList, ∀ d, o.dst = some d → d < N) (hn : n0 + ops.size ≤ n)
    (hQ : ∀ t f a w, K t f → Sat c0 ne N ⟨t, dB n f, n⟩ a w → Q .normal a w) : ∀ (fuel : Nat) (listed : Array Bool) (t : Nat → AV) (f : Nat → BS) (a : Act) (c : Cx), anyA P z ops n0 n K fuel listed t f → HOk c f → (∀ j, n ≤ j → f j = .fresh) →
      (∀ j, j < ops.size → listed.getD j true = false → f (n0 + j) = .fresh) → (∀ k, Rv c (t k) (a.tmps.getD k undef)) → a.tmps.size = N → Marks c c0.w.heap.size a.defers → Stp c0 c → (∀ j, c0.U j → j < ne) → ne ≤ n → wpAnyIn (Fr rr) 0 P .any ops Q fuel listed a c.w := by
  intro fuel
  induction fuel with
  | zero =>
    intro listed t f a c h hk hfr hids ht hN hd hs h0 hne
    exact ⟨h.1, hQ t f a c.w h.2 ⟨c.past n, rfl, hk.past hfr, dB_fresh hfr, fun k => (ht k).keep (Stp.past c n) hk.shut, hN, hd.keep (Stp.past c n), hs.trans (Stp.past c n), h0, hne⟩⟩
  | succ fuel ih =>
    intro listed t f a c h hk hfr hids ht hN hd hs h0 hne
    refine ⟨fun hr => hQ t f a c.w (h.1 hr) ⟨c.past n, rfl, hk.past hfr, dB_fresh hfr, fun k => (ht k).keep (Stp.past c n) hk.shut, hN, hd.keep (Stp.past c n), hs.trans (Stp.past c n), h0, hne⟩, fun i hi => ?_⟩
    have hat := h.2 i hi
    obtain ⟨hun, o, ho, hall⟩ := mem_ready.1 hi
    have hlt : i < ops.size := (Array.getElem?_eq_some_iff.1 ho).1
    have hds : ∀ d, o.dst = some d → d < a.tmps.size := fun d h => by rw [hN]; exact hdst o (by simpa using Array.mem_of_getElem? ho) d h
    have next : ∀ (t' : Nat → AV) (f' : Nat → BS) (a' : Act) (c' : Cx), anyA P z ops n0 n K fuel (listed.setIfInBounds i true) t' f' → HOk c' f' → Stp c c' → (∀ k, Rv c' (t' k) (a'.tmps.getD k undef)) → a'.tmps.size = N → Marks c' c0.w.heap.size a'.defers →
        (∀ j, j < n → j ≠ n0 + i → f j = .fresh → f' j = .fresh) → (∀ j, n ≤ j → f' j = .fresh) → wpAnyIn (Fr rr) 0 P .any ops Q fuel (listed.setIfInBounds i true) a' c'.w := by
      intro t' f' a' c' h1 h2 h3 h4 h5 h6 h7 h8
      refine ih _ t' f' a' c' h1 h2 h8 (fun j hj hun' => ?_) h4 h5 h6 (hs.trans h3) h0 hne
      have hij : i ≠ j := by
        intro he; subst he
        rcases Nat.lt_or_ge i listed.size with h' | h'
        · simp [h'] at hun'
        · simp [Array.getElem?_eq_none h'] at hun
      rw [getD_set_ne true hij] at hun'
      exact h7 _ (by omega) (by omega) (hids j hj hun')
    have step : aop P z true (barB ops i) (hdB z true ops n0 i) (n0 + i) n o.op (aev t) f (fun v f' _ => anyA P z ops n0 n K fuel (listed.setIfInBounds i true) (putA t o.dst v) f') → o.wpIn (Fr rr) 0 P a c.w (wpAnyIn (Fr rr) 0 P .any ops Q fuel (listed.setIfInBounds i true)) Q := by
      intro hop
      refine aop_sound (z := z) (q := true) (bq := barB ops i) (hd := hdB z true ops n0 i) (K := fun v f' n' => n' = n ∧ anyA P z ops n0 n K fuel (listed.setIfInBounds i true) (putA t o.dst v) f') ?_ hk hfr (hids i hlt hun) (fun h => by cases h) (fun _ => by omega) (aev_rv ht) fun v c' r f' n' hK hk' hs' hr' hn' hold _ => ?_
      · unfold aop at hop ⊢
        cases hc : clsOf o.op <;> simp only [hc, nxt, cond_true, Bool.cond_self] at hop ⊢
        · split at hop
          · exact ⟨hop.1, trivial, hop.2⟩
          · exact hop
        · split at hop
          · exact ⟨hop.1, trivial, hop.2⟩
          · exact hop
        · split at hop
          · exact ⟨hop.1, trivial, hop.2⟩
          · exact hop
        · obtain ⟨v, f', g1, g2, _⟩ := lop_out hop
          exact g1 _ ⟨g2.1, trivial, g2.2⟩
        · split at hop
          · split at hop
            · simp only [if_true] at hop ⊢
              rcases hop with ⟨r, g1, g5⟩ | ⟨g1, g2⟩
              · exact .inl ⟨r, g1, trivial, g5⟩
              · exact .inr ⟨g1, g2.mono fun r f' _ q => ⟨trivial, q⟩⟩
            · exact hop
          · exact hop
        · exact hop.elim
      · obtain ⟨rfl, hK⟩ := hK
        exact next _ f' _ c' hK hk' hs' (put_rv (fun k => (ht k).keep hs' hk.shut) hds hr') (by rw [put_size]; exact hN) (by rw [put_defers]; exact hd.keep hs') (fun j _ hj hf => (hold rfl).2 j hj hf) (fun j hj => (hold rfl).2 j (by omega) (hfr j hj))
    unfold wpOpIn
    simp only [ho]
    unfold atA at hat
    simp only [ho] at hat
    cases hg : o.guard with
    | none =>
      simp only [hg] at hat
      rw [if_pos (by simp [Region.wanted, hg])]
      exact step hat
    | some q =>
      obtain ⟨j, want⟩ := q
      simp only [hg] at hat
      split at hat
      · rename_i d hgs
        split at hat
        · rename_i b htd
          have hy := yielded_of ht hgs htd
          by_cases hb : b = want
          · rw [if_pos (by simp [Region.wanted, hg, hy, hb])]
            exact step (hat.1 hb)
          · rw [if_neg (by simp [Region.wanted, hg, hy, hb])]
            have hb' : b = !want := by cases b <;> cases want <;> simp_all
            exact ⟨fun _ _ => trivial, next _ f _ c (hat.2 hb') hk (Stp.refl c) (put_rv ht hds (undef_rv c)) (by rw [put_size]; exact hN) (by rw [put_defers]; exact hd) (fun _ _ _ h => h) hfr⟩
        · rename_i htd
          have hy := yielded_tup ht hgs htd
          rw [if_neg (by simp [Region.wanted, hg, hy])]
          exact ⟨fun _ _ => trivial, next _ f _ c hat hk (Stp.refl c) (put_rv ht hds (undef_rv c)) (by rw [put_size]; exact hN) (by rw [put_defers]; exact hd) (fun _ _ _ h => h) hfr⟩
        · exact hat.elim
      · exact hat.elim
theorem draw_sound {P : Program} {z : Bool} {rr : Option Nat} (hm : P.follows .mixedOrders = true) {id ne N : Nat} {ops : Array Oper} (hlex : lexOk z ops = true) (hdst : ∀ o ∈ ops.toList, ∀ d, o.dst = some d → d < N) {c0 : Cx} {K : St → Prop} {Q : Exit → Act → World → Prop}
    (hQ : ∀ s a w, K s → Sat c0 ne N s a w → Q .normal a w) {s : St} {a : Act} {w : World} (h : aops P z true ops s.n K 0 ops.toList s.t s.f (s.n + ops.size)) (hs : Sat c0 ne N s a w) : (Code.region id ops true).wpIn (Fr rr) 0 P Q a w := by
  obtain ⟨c, rfl, hk, hfr, ht, hN, hd, hst, h0, hne⟩ := hs
  refine wpIn_region_any hm ?_
  have hany := anyA_lex hlex ops.toList 0 (Array.replicate ops.size false) s.t s.f (by simp) (by simp) (fun j hj => by simp [hj]) (fun j hj _ => (hfr _).2 (by omega)) h
  rw [Array.length_toList] at hany
  exact anyA_sound (rr := rr) rfl (n0 := s.n) (n := s.n + ops.size) hdst (Nat.le_refl _) (fun t f a w hK hS => hQ ⟨t, dB (s.n + ops.size) f, s.n + ops.size⟩ a w hK hS) ops.size _ s.t s.f a c.drew hany hk.drew (fun j hj => (hfr j).2 (by omega)) (fun j hj _ => (hfr _).2 (by omega)) (fun k => (ht k).keep (Stp.drew c) hk.shut) hN (hd.keep (Stp.drew c)) (hst.trans (Stp.drew c)) h0 (by omega)
theorem any_sound {P : Program} {z : Bool} {rr : Option Nat} (hm : P.follows .mixedOrders = true) {id ne N : Nat} {ops : Array Oper} (hdst : ∀ o ∈ ops.toList, ∀ d, o.dst = some d → d < N) {c0 : Cx} {K : St → Prop} {Q : Exit → Act → World → Prop}
    (hQ : ∀ s a w, K s → Sat c0 ne N s a w → Q .normal a w) {s : St} {a : Act} {w : World} (h : anyA P z ops s.n (s.n + ops.size) (fun t f => K ⟨t, dB (s.n + ops.size) f, s.n + ops.size⟩) ops.size (Array.replicate ops.size false) s.t s.f) (hs : Sat c0 ne N s a w) : (Code.region id ops true).wpIn (Fr rr) 0 P Q a w := by
  obtain ⟨c, rfl, hk, hfr, ht, hN, hd, hst, h0, hne⟩ := hs
  refine wpIn_region_any hm ?_
  exact anyA_sound (rr := rr) rfl (n0 := s.n) (n := s.n + ops.size) hdst (Nat.le_refl _) (fun t f a w hK hS => hQ ⟨t, dB (s.n + ops.size) f, s.n + ops.size⟩ a w hK hS) ops.size _ s.t s.f a c.drew h hk.drew (fun j hj => (hfr j).2 (by omega)) (fun j hj _ => (hfr _).2 (by omega)) (fun k => (ht k).keep (Stp.drew c) hk.shut) hN (hd.keep (Stp.drew c)) (hst.trans (Stp.drew c)) h0 (by omega)
inductive AEx where
  | normal
  | exit (id : Nat)
  | ret
mutual
def cloT (n : Nat) : AV → Bool
  | .own _ id _ _ => decide (id < n)
  | .ptr id _ _ => decide (id < n)
  | .agg cs => cloTL n cs
  | .tup cs => cloTL n cs
  | .sl _ _ l => cloTL n l
  | .rp cs => cloTL n cs
  | .fn _ fs cap => cloTL n fs && cloTL n cap
  | .yld id => decide (id < n)
  | .mp id => decide (id < n)
  | _ => true
def cloTL (n : Nat) : List AV → Bool
  | [] => true
  | a :: l => cloT n a && cloTL n l
end
mutual
theorem cloT_clo {n : Nat} : ∀ a : AV, cloT n a = true → clo n a
  | .own _ id _ _, h => by simpa [cloT, clo] using h
  | .ptr id _ _, h => by simpa [cloT, clo] using h
  | .agg cs, h => by simp only [clo]; exact cloTL_clo cs (by simpa only [cloT] using h)
  | .tup cs, h => by simp only [clo]; exact cloTL_clo cs (by simpa only [cloT] using h)
  | .sl _ _ l, h => by simp only [clo]; exact cloTL_clo l (by simpa only [cloT] using h)
  | .rp cs, h => by simp only [clo]; exact cloTL_clo cs (by simpa only [cloT] using h)
  | .fn _ fs cap, h => by
    simp only [cloT, Bool.and_eq_true] at h
    simp only [clo]; exact ⟨cloTL_clo fs h.1, cloTL_clo cap h.2⟩
  | .yld id, h => by simpa [cloT, clo] using h
  | .mp id, h => by simpa [cloT, clo] using h
  | .any, _ => by simp only [clo]
  | .bool _, _ => by simp only [clo]
  | .int _ _, _ => by simp only [clo]
  | .str _, _ => by simp only [clo]
  | .nilp, _ => by simp only [clo]
theorem cloTL_clo {n : Nat} : ∀ l : List AV, cloTL n l = true → cloL n l
  | [], _ => by simp only [cloL]
  | a :: l, h => by
    simp only [cloTL, Bool.and_eq_true] at h
    simp only [cloL]; exact ⟨cloT_clo a h.1, cloTL_clo l h.2⟩
end
def cl (n : Nat) (a : AV) : AV := bif cloT n a then a else .any
def cut (n : Nat) (t : Nat → AV) : Nat → AV := fun k => cl n (t k)
theorem cl_clo (n : Nat) (a : AV) : clo n (cl n a) := by
  unfold cl
  cases h : cloT n a with
  | true => exact cloT_clo a h
  | false => simp only [cond_false, clo]
theorem cl_rv {c : Cx} {n : Nat} {a : AV} {v : Value} (h : Rv c a v) : Rv c (cl n a) v := by
  unfold cl
  cases cloT n a with
  | true => exact h
  | false => simp only [cond_false, Rv]
def busyL (r : Loop) : Loop := { r with state := .busy }
def afterL (r : Loop) : AEx → Loop
  | .normal => r
  | .ret => { r with state := .done, pending := some .ret }
  | .exit i => { r with state := .done, pending := some (.exit i) }
def AEx.goes : AEx → Bool
  | .normal => true
  | _ => false
def putL (t : Nat → AV) : List Nat → List AV → Nat → AV
  | p :: ps, v :: vs => putL (upd t p v) ps vs
  | _, _ => t
def bodied (P : Program) (g : FuncId) : Prop := ∃ fn c, P.funcs[g]? = some fn ∧ fn.body = some c ∧ (fn.name == "runtime.NumGoroutine") = false
def RoundA (P : Program) (nr len : Nat) (t : Nat → AV) (r : Loop) (wpA wpB : Nat → (AEx → St → Prop) → St → Prop) (ps : List Nat) : Prop :=
  ∀ (vs : List AV) (f : Nat → BS) (n : Nat) (K : AV → (Nat → BS) → Nat → Prop), vs.length = len → f nr = .obj (.loop r) t → nr < n →
    wpA n (fun e s1 => e = .normal ∧ s1.f nr = .obj (.loop r) t ∧
      wpB n (fun e s2 => s2.f nr = .obj (.loop (busyL r)) t ∧ K (.bool e.goes) (upd s2.f nr (.obj (.loop (afterL r e)) t)) s2.n) ⟨s1.t, upd s1.f nr (.obj (.loop (busyL r)) t), s1.n⟩) ⟨putL t ps vs, f, n⟩ → YA P nr vs f n K
def awp (P : Program) (z : Bool) (ne : Nat) : Code → (AEx → St → Prop) → St → Prop
  | .skip, Q, s => Q .normal s
  | .label _, Q, s => Q .normal s
  | .region _ ops draw, Q, s => bif draw && z then aops P (!lexOk false ops) true ops s.n (Q .normal) 0 ops.toList s.t s.f (s.n + ops.size) ∨ anyA P false ops s.n (s.n + ops.size) (fun t f => Q .normal ⟨t, dB (s.n + ops.size) f, s.n + ops.size⟩) ops.size (Array.replicate ops.size false) s.t s.f
      else aops P false draw ops s.n (Q .normal) 0 ops.toList s.t s.f (bif draw then s.n + ops.size else s.n)
  | .seq a b, Q, s => awp P z ne a (fun e s' => match e with | .normal => awp P z ne b Q s' | e => Q e s') s
  | .cond c x y, Q, s => match aev s.t c with
    | .bool b => (b = true → awp P z ne x Q s) ∧ (b = false → awp P z ne y Q s)
    | _ => False
  | .block id c, Q, s => awp P z ne c (fun e s' => match e with | .exit i => if i = id then Q .normal s' else Q (.exit i) s' | e => Q e s') s
  | .loop c, Q, s => ∃ (α : Type) (st : α → St) (m : α → Nat) (x0 : α), le ne s (st x0) ∧ ∀ x, awp P z ne c (fun e s' => match e with | .normal => ∃ y, le ne s' (st y) ∧ m y < m x | e => Q e s') (st x)
  | .scope c, Q, s => awp P z ne c Q s
  | .exit id, Q, s => Q (.exit id) s
  | .ret, Q, s => Q .ret s
  | .rangeFunc g ps assign body, Q, s => match aev s.t g with
    | .fn (.func gf) fs cap => bodied P gf ∧ ∀ r : Loop, RoundA P s.n ps.size (cut s.n s.t) r (fun n => awp P z n assign) (fun n => awp P z n body) ps.toList →
        CA P gf (fs ++ [.yld s.n] ++ cap) (upd s.f s.n (.obj (.loop r) (cut s.n s.t))) (s.n + 1) fun _ f' n' => ∃ e, f' s.n = .obj (.loop (afterL r e)) (cut s.n s.t) ∧ Q e ⟨s.t, upd f' s.n .dead, n'⟩
    | _ => False
  | _, _, _ => False
def codeOkR (rr z : Bool) (N : Nat) : Code → Bool
  | .region _ ops draw => (ops.toList.all fun o => match o.dst with | some d => decide (d < N) | none => true) && (!draw || lexOk z ops)
  | .seq a b => codeOkR rr z N a && codeOkR rr z N b
  | .cond _ a b => codeOkR rr z N a && codeOkR rr z N b
  | .block _ a => codeOkR rr z N a
  | .loop a => codeOkR rr z N a
  | .scope a => codeOkR rr z N a
  | .rangeFunc _ ps a b => !rr && (ps.toList.all fun p => decide (p < N)) && codeOkR true z N a && codeOkR true z N b
  | _ => true
def codeOk (z : Bool) (N : Nat) (c : Code) : Bool := codeOkR false z N c
def QR (c0 : Cx) (ne N : Nat) (Q : AEx → St → Prop) : Exit → Act → World → Prop
  | .normal, a, w => ∃ s, Q .normal s ∧ Sat c0 ne N s a w
  | .exit i, a, w => ∃ s, Q (.exit i) s ∧ Sat c0 ne N s a w
  | .ret, a, w => ∃ s, Q .ret s ∧ Sat c0 ne N s a w
  | _, _, _ => False
theorem wpIn_loop_idx {F : Fence} {n : Nat} {P : Program} {c : Code} {Q : Exit → Act → World → Prop} {a : Act} {w : World} {α : Type} (I : α → Act → World → Prop) (μ : α → Nat) (x0 : α) (h₀ : I x0 a w)
    (round : ∀ x a w, I x a w → c.wpIn F n P (Exit.then (fun a' w' => ∃ y, I y a' w' ∧ μ y < μ x) Q) a w) : (Code.loop c).wpIn F n P Q a w := by
  intro b k cs hro hb hr
  have key : ∀ j x a w, μ x = j → I x a w →
      ∃ e a' w', Q e a' w' ∧ ArrivesIn (Machine.fenced P F) P (lone (b.atR a (.code c :: .inLoop c :: k)) cs w) b k cs e a' w' := by
    intro j
    induction j using Nat.strongRecOn with
    | _ j ih =>
      intro x a w hn hI
      obtain ⟨e, a₁, w₁, hq, harr⟩ := round x a w hI b (.inLoop c :: k) cs hro hb hr
      cases e with
      | normal =>
        obtain ⟨y, hI₁, hlt⟩ := hq
        obtain ⟨e₂, a₂, w₂, hq₂, harr₂⟩ := ih (μ y) (hn ▸ hlt) y a₁ w₁ rfl hI₁
        exact ⟨e₂, a₂, w₂, hq₂, .of_steps (StepsIn.trans harr (.one (fenced_calm hb hr rfl) stepR_inLoop)) harr₂⟩
      | exit id => exact ⟨_, a₁, w₁, hq, .pass (x := .inLoop c) rfl (fun _ _ => .inl (by simp)) harr⟩
      | goto l => exact ⟨_, a₁, w₁, hq, .pass (x := .inLoop c) rfl (fun _ _ => .inl (by simp)) harr⟩
      | ret => exact ⟨_, a₁, w₁, hq, .pass (x := .inLoop c) rfl (fun _ _ => .inl (by simp)) harr⟩
      | panic ch => exact ⟨_, a₁, w₁, hq, .pass (x := .inLoop c) rfl (fun _ _ => .inl (by simp)) harr⟩
      | outgrown => exact ⟨_, a₁, w₁, hq, .pass (x := .inLoop c) rfl (fun _ _ => .inl (by simp)) harr⟩
  obtain ⟨e, a', w', hq, harr⟩ := key _ x0 a w rfl h₀
  exact ⟨e, a', w', hq, .of_steps (.one (fenced_calm hb hr rfl) stepR_loop) harr⟩
theorem putL_rv {c : Cx} : ∀ (ps : List Nat) (vs : List AV) (us : List Value) (t : Nat → AV) (tmps : Array Value), Rl c vs us → (∀ p ∈ ps, p < tmps.size) → (∀ k, Rv c (t k) (tmps.getD k undef)) →
    (∀ k, Rv c (putL t ps vs k) (((ps.zip us).foldl (fun tmps (p : Nat × Value) => tmps.setIfInBounds p.1 p.2) tmps).getD k undef)) ∧ ((ps.zip us).foldl (fun tmps (p : Nat × Value) => tmps.setIfInBounds p.1 p.2) tmps).size = tmps.size
  | [], vs, us, t, tmps, _, _, h => by cases vs <;> exact ⟨by simpa [putL] using h, rfl⟩
  | p :: ps, [], us, t, tmps, hl, _, h => by
    simp only [Rl] at hl; subst hl
    exact ⟨by simpa [putL] using h, rfl⟩
  | p :: ps, v :: vs, us, t, tmps, hl, hp, h => by
    simp only [Rl] at hl
    obtain ⟨u, r, rfl, h1, h2⟩ := hl
    have hlt := hp p (by simp)
    have := putL_rv ps vs r (upd t p v) (tmps.setIfInBounds p u) h2 (fun q hq => by simpa using hp q (by simp [hq])) (fun k => by
      by_cases hk : k = p
      · subst hk; rw [upd_same]; simpa [Array.getElem?_setIfInBounds, hlt] using h1
      · rw [upd_ne _ _ _ hk]
        have := h k
        simpa [Array.getElem?_setIfInBounds_ne (Ne.symm hk)] using this)
    exact ⟨by simpa only [putL, List.zip_cons_cons, List.foldl_cons] using this.1, by simpa only [List.zip_cons_cons, List.foldl_cons, Array.size_setIfInBounds] using this.2⟩
open Go
set_option linter.unusedSimpArgs false
set_option linter.unusedVariables false
theorem fr_some (l : Nat) : Fr (some l) = Fence.wide.inRound l := rfl
theorem fr_none : Fr none = Fence.wide := rfl
def Snd (P : Program) (z : Bool) (c : Code) : Prop :=
  ∀ (rr : Option Nat) (c0 : Cx) (ne N : Nat) (Q : AEx → St → Prop) (s : St) (a : Act) (w : World), codeOkR rr.isSome z N c = true → awp P z ne c Q s → Sat c0 ne N s a w → c.wpIn (Fr rr) 0 P (QR c0 ne N Q) a w
theorem other_new (c : Cx) (o : Obj) : Stp c { c with w := c.w.alloc o } where
  os := rfl
  tape := rfl
  output := rfl
  size := by simp
  keep := fun b hb _ => Go.RowKit.Below.heap_alloc _ _ _ hb
  U := fun _ h => h
  mu := fun _ _ => .inl rfl
  new := fun id e h hr => .inr ⟨id, e, h, hr, rfl⟩
  F := fun _ _ => ⟨fun h => h, fun _ h => h⟩
theorem full_lt {c : Cx} {f : Nat → BS} {n : Nat} (hk : HOk c f) (hfull : ∀ j, f j = .fresh ↔ n ≤ j) : ∀ j, c.U j → j < n := fun j hj => by
  rcases Nat.lt_or_ge j n with h | h
  · exact h
  · exact absurd ((hfull j).2 h) ((hk.used j).1 hj)
theorem upd_full {f : Nat → BS} {n id : Nat} {b : BS} (hb : b ≠ .fresh) (hid : id < n) (hfull : ∀ j, f j = .fresh ↔ n ≤ j) : ∀ j, upd f id b j = .fresh ↔ n ≤ j := fun j => by
  by_cases hj : j = id
  · subst hj; rw [upd_same]; exact ⟨fun h => absurd h hb, fun h => by omega⟩
  · rw [upd_ne _ _ _ hj]; exact hfull j
theorem round_sound {P : Program} {z : Bool} {assign body : Code} (ia : Snd P z assign) (ib : Snd P z body) {N : Nat} (oka : codeOkR true z N assign = true) (okb : codeOkR true z N body = true) {nr : Nat} {t : Nat → AV} {r : Loop} {ps : Array Tmp} (hps : ∀ p ∈ ps.toList, p < N)
    (h1 : r.state = .ready) (h2 : r.pending = none) (h3 : r.tmps.size = N) (h4 : r.params = ps) (h5 : r.assign = assign) (h6 : r.body = body) : RoundA P nr ps.size t r (fun n => awp P z n assign) (fun n => awp P z n body) ps.toList := by
  intro vs f n K hlen hf hlt h c us l hk hfull hl hU hmu
  obtain ⟨e, oo, he, hr, hsz, hb, hS, hobj, htm, hcl⟩ := hk.obj nr _ _ hf
  simp only [simO] at hS; subst hS
  obtain ⟨_, rfl⟩ := hmu e he
  have hul := hl.length
  have hy := run_yield (P := P) (args := us.toArray) hobj (by rw [h4]; simp [hul, hlen])
  refine ⟨_, _, _, _, hy, ?_⟩
  rw [h4, h5, h6]
  have hput := putL_rv ps.toList vs us t r.tmps hl (fun p hp => by rw [h3]; exact hps p hp) (fun k => by simpa [objVals] using htm k)
  have hfold : (ps.zip us.toArray).foldl (fun tmps (x : Nat × Value) => tmps.setIfInBounds x.1 x.2) r.tmps = (ps.toList.zip us).foldl (fun tmps (p : Nat × Value) => tmps.setIfInBounds p.1 p.2) r.tmps := by
    rw [← Array.foldl_toList, Array.toList_zip]
  have hsat : Sat c n N ⟨putL t ps.toList vs, f, n⟩ { tmps := (ps.zip us.toArray).foldl (fun tmps (x : Nat × Value) => tmps.setIfInBounds x.1 x.2) r.tmps, defers := [] } c.w := by
    rw [hfold]
    exact ⟨c, rfl, hk, hfull, hput.1, by simp only; rw [hput.2]; exact h3, trivial, Stp.refl c, full_lt hk hfull, Nat.le_refl _⟩
  refine roundIn_of_wpIn (F := Fence.wide) trivial ?_
  rw [← fr_some]
  refine wpIn_mono (ia (some e.block) c n N _ _ _ _ oka h hsat) fun x a1 w1 hq => ?_
  have only : ∀ {x : AEx} {s1 : St} {p : Prop}, x = .normal ∧ p → x = .normal := fun h => h.1
  cases x <;> simp only [QR] at hq <;> simp only [Exit.then]
  case exit i => obtain ⟨s1, ⟨h, _⟩, _⟩ := hq; cases h
  case ret => obtain ⟨s1, ⟨h, _⟩, _⟩ := hq; cases h
  obtain ⟨s1, ⟨_, hf1, hbody⟩, c1, rfl, hk1, hfull1, ht1, hN1, hd1, hs1, h01, hne1⟩ := hq
  obtain ⟨e1, oo1, he1, hr1, _, _, hS1, hobj1, htm1, _⟩ := hk1.obj nr _ _ hf1
  simp only [simO] at hS1; subst hS1
  have hee : e1 = e := by
    rcases hs1.mu nr hU with h | h
    · rw [h, he] at he1; exact (Option.some.inj he1).symm
    · rw [h] at he1; cases he1
  subst hee
  obtain ⟨hk2, hs2⟩ := obj_set hk1 hf1 he1 hr1 (.loop (busyL r)) t (by simpa [objVals, busyL] using htm1) hcl
  refine ⟨_, run_beginRound hobj1 h1, ?_⟩
  have hsat2 : Sat c n N ⟨s1.t, upd s1.f nr (.obj (.loop (busyL r)) t), s1.n⟩ a1 (c1.w.putObj e1.block (.loop { r with state := .busy })) := by
    refine ⟨c1.obj e1.block (.loop (busyL r)), rfl, hk2, upd_full (n := s1.n) (by simp) (by omega) hfull1, fun k => (ht1 k).keep hs2 hk1.shut, hN1, hd1.keep hs2, hs1.trans hs2, h01, hne1⟩
  refine wpIn_mono (ib (some e1.block) c n N _ _ _ _ okb hbody hsat2) fun x a2 w2 hq => ?_
  have fin : ∀ (ex : AEx) (jump : Option Code) (s2 : St), (s2.f nr = .obj (.loop (busyL r)) t ∧ K (.bool ex.goes) (upd s2.f nr (.obj (.loop (afterL r ex)) t)) s2.n) → Sat c n N s2 a2 w2 →
      (afterL r ex = { busyL r with state := if jump.isNone then .ready else .done, pending := jump }) → jump.isNone = ex.goes →
      ∃ v w', (Instr.endRound e1.block jump).run P w2 = .ok v w' ∧ ∃ v', Ending.returned v = .returned v' ∧ ∃ c' r' f' n', c'.w = w' ∧ K r' f' n' ∧ HOk c' f' ∧ Rv c' r' v' ∧ Stp c c' ∧ n ≤ n' ∧ ∀ j, f' j = .fresh ↔ n' ≤ j := by
    rintro ex jump s2 ⟨hf2, hK⟩ ⟨c2, rfl, hk2', hfull2, ht2, hN2, hd2, hs2', h02, hne2⟩ haft hgo
    obtain ⟨e2, oo2, he2, hr2, _, _, hS2, hobj2, htm2, _⟩ := hk2'.obj nr _ _ hf2
    simp only [simO] at hS2; subst hS2
    have hee : e2 = e1 := by
      rcases hs2'.mu nr hU with h | h
      · rw [h, he] at he2; exact (Option.some.inj he2).symm
      · rw [h] at he2; cases he2
    subst hee
    obtain ⟨hk3, hs3⟩ := obj_set hk2' hf2 he2 hr2 (.loop (afterL r ex)) t (by
      have : (afterL r ex).tmps = r.tmps := by cases ex <;> rfl
      simpa [objVals, busyL, this] using htm2) hcl
    refine ⟨_, _, run_endRound jump hobj2, _, rfl, c2.obj e2.block (.loop (afterL r ex)), _, _, s2.n, ?_, hK, hk3, ?_, hs2'.trans hs3, hne2, upd_full (n := s2.n) (by simp) (by omega) hfull2⟩
    · rw [haft]; rfl
    · rw [hgo]; simp only [Rv]
  cases x <;> simp only [QR] at hq <;> simp only [roundPost]
  case normal =>
    obtain ⟨s2, g1, g2⟩ := hq
    exact fin .normal none s2 g1 g2 (by
      obtain ⟨a, b⟩ : r.state = .ready ∧ r.pending = none := ⟨h1, h2⟩
      cases r; simp only [afterL, busyL] at *; subst a; subst b; rfl) rfl
  case ret => obtain ⟨s2, g1, g2⟩ := hq; exact fin .ret (some .ret) s2 g1 g2 rfl rfl
  case exit i => obtain ⟨s2, g1, g2⟩ := hq; exact fin (.exit i) (some (.exit i)) s2 g1 g2 rfl rfl
theorem range_sound {P : Program} {z : Bool} {assign body : Code} (ia : Snd P z assign) (ib : Snd P z body) (g : Operand) (ps : Array Tmp) : Snd P z (.rangeFunc g ps assign body) := by
  intro rr c0 ne N Q s a w hok h hs
  simp only [codeOkR, Bool.and_eq_true, Bool.not_eq_true', List.all_eq_true] at hok
  obtain ⟨⟨⟨hro, hps⟩, oka⟩, okb⟩ := hok
  have hrr : rr = none := by cases rr <;> simp_all
  subst hrr
  simp only [awp] at h
  split at h
  · rename_i gf fs cap hg
    obtain ⟨⟨fn0, c00, hf0, hb0, hn0⟩, h⟩ := h
    obtain ⟨c, rfl, hk, hfull, ht, hN, hd, hst, h0, hne⟩ := hs
    have hev := aev_rv ht g
    rw [hg] at hev
    simp only [Rv] at hev
    obtain ⟨fa, ca, hev, hfa, hca⟩ := hev
    refine wpIn_rangeFunc fun fnn _ => ?_
    obtain ⟨r, hr⟩ : ∃ r : Loop, r = { state := .ready, pending := none, fn := fnn, tmps := a.tmps, params := ps, assign, body, defers := c.w.heap.size } := ⟨_, rfl⟩
    have hs1 : Stp c { c with w := c.w.alloc (.deferred (some [])) } := other_new c _
    have hk1 : HOk { c with w := c.w.alloc (.deferred (some [])) } s.f := hk.of_step hs1 (fun _ => Iff.rfl) rfl hk.shut (fun id e he hr => Go.RowKit.Below.heap_alloc _ _ _ (hk.lt he hr))
    have hfresh : s.f s.n = .fresh := (hfull s.n).2 (Nat.le_refl _)
    have hk2 := obj_new hk1 hfresh (.loop r) (cut s.n s.t) (fun k => by rw [hr]; exact cl_rv ((ht k).keep hs1 hk.shut)) (fun k => cl_clo _ _)
    have hs2 := Stp.more hk1 hfresh (.loop r) 0 0
    obtain ⟨c2, hc2⟩ : ∃ c2, c2 = Cx.more { c with w := c.w.alloc (.deferred (some [])) } s.n (.loop r) ⟨true, (c.w.alloc (.deferred (some []))).heap.size, 0, 0, 0⟩ := ⟨_, rfl⟩
    rw [← hc2] at hk2 hs2
    have hst2 : Stp c c2 := hs1.trans hs2
    have hw2 : c2.w = (c.w.alloc (.deferred (some []))).alloc (.loop r) := by rw [hc2]; rfl
    have hmu2 : c2.mu s.n = some ⟨true, c.w.heap.size + 1, 0, 0, 0⟩ := by
      rw [hc2]
      have : (c.w.alloc (.deferred (some []))).heap.size = c.w.heap.size + 1 := by simp
      simp only [Cx.more, upd_same, this]
    have hU2 : c2.U s.n := by rw [hc2]; exact .inr rfl
    have hD2 : c2.w.heap[c.w.heap.size]? = some (.deferred (some [])) := by
      rw [hw2]; exact (Go.RowKit.Below.heap_alloc _ _ _ (by simp)).trans (World.alloc_heap_new c.w _)
    have hDown : ∀ id e, c2.mu id = some e → e.real = true → e.block ≠ c.w.heap.size := by
      intro id e he hre hb
      rcases hst2.new id e he hre with h1 | ⟨j, e', hj, hr', hb'⟩
      · by_cases hid : id = s.n
        · subst hid; rw [hmu2] at he; injection he with he; subst he; simp at hb
        · have : c.mu id = some e := by
            rw [hc2] at he
            simp only [Cx.more] at he
            rwa [upd_ne _ _ _ hid] at he
          have := hk.lt this hre
          omega
      · have := hk.lt hj hr'; omega
    have hmarks : Marks c2 c0.w.heap.size ({ target := .collected c.w.heap.size, args := #[] } :: a.defers) := by
      refine ⟨⟨c.w.heap.size, rfl, hst.size, hD2, hDown⟩, fun hmem => ?_, hd.keep hst2⟩
      have : ∀ (ds : List Deferred), Marks c c0.w.heap.size ds → ({ target := .collected c.w.heap.size, args := #[] } : Deferred) ∉ ds := by
        intro ds
        induction ds with
        | nil => intro _ h; cases h
        | cons d ds ih =>
          rintro ⟨⟨D, hD, _, h3, _⟩, _, h6⟩ hm
          rcases List.mem_cons.1 hm with h7 | h7
          · rw [hD] at h7
            have h8 : c.w.heap.size = D := by injection h7 with h7 _; injection h7
            have := (Array.getElem?_eq_some_iff.1 h3).1
            omega
          · exact ih h6 h7
      exact this _ hd hmem
    have hround : RoundA P s.n ps.size (cut s.n s.t) r (fun n => awp P z n assign) (fun n => awp P z n body) ps.toList :=
      round_sound ia ib oka okb (fun p hp => by simpa using hps p hp) (by rw [hr]) (by rw [hr]) (by rw [hr]; exact hN) (by rw [hr]) (by rw [hr]) (by rw [hr])
    have hca2 := h r hround
    have hfull2 : ∀ j, upd s.f s.n (.obj (.loop r) (cut s.n s.t)) j = .fresh ↔ s.n + 1 ≤ j := by
      intro j
      by_cases hj : j = s.n
      · subst hj; rw [upd_same]; simp
      · rw [upd_ne _ _ _ hj, hfull j]; omega
    have hargs : Rl c2 (fs ++ [.yld s.n] ++ cap) (fa.toList ++ [Value.func (.yield (c.w.heap.size + 1)) #[] #[]] ++ ca.toList) := by
      refine Rl.append (Rl.append (hfa.keep hst2 hk.shut) ?_) (hca.keep hst2 hk.shut)
      simp only [Rl, Rv]
      exact ⟨_, _, rfl, ⟨hU2, _, rfl, fun e he => by rw [hmu2] at he; injection he with he; subst he; exact ⟨rfl, rfl⟩⟩, rfl⟩
    have hcall := hca2 c2 _ hk2 hfull2 hargs
    have henter : ∀ args w, (callFunc gf args).run P w = .ok (.enter gf args) w := fun args w => by
      unfold callFunc
      simp only [Sem.run_bind, run_program, Result.andThen_ok, hf0, hn0, Bool.false_eq_true, if_false, hb0, Option.isNone_some, Sem.run_pure]
    unfold CallTo at hcall
    rw [henter] at hcall
    simp only at hcall
    refine ⟨c.w.heap.size + 1, [{ target := .collected c.w.heap.size, args := #[] }], c2.w, { target := .fn (.func gf) ca, args := fa ++ #[Value.func (.yield (c.w.heap.size + 1)) #[] #[]] }, c2.w, gf,
      fa ++ #[Value.func (.yield (c.w.heap.size + 1)) #[] #[]] ++ ca, c2.w, ?_, ?_, fun _ _ => trivial, ?_, fr_depth, ?_⟩
    · rw [hw2, hr]; exact run_enterLoop_outer _ _ _ _ _
    · simp only [resolve, rangeCall, Sem.run_bind, hev, Deferred.ofValue, Sem.run_pure, Result.andThen_ok]
      simp [Act.eval]
    · simp only [invoke]; exact henter _ _
    · have harr : (fa.toList ++ [Value.func (.yield (c.w.heap.size + 1)) #[] #[]] ++ ca.toList).toArray = fa ++ #[Value.func (.yield (c.w.heap.size + 1)) #[] #[]] ++ ca := by
        apply Array.ext'; simp
      rw [harr] at hcall
      refine callsIn_fr (hcall.mono ?_)
      rintro ex w' ⟨v, rfl, c3, r3, f3, n3, rfl, ⟨ex, hf3, hQ⟩, hk3, _, hs3, hn3, hfull3⟩
      obtain ⟨e3, oo3, he3, hr3, _, _, hS3, hobj3, htm3, hcl3⟩ := hk3.obj s.n _ _ hf3
      simp only [simO] at hS3; subst hS3
      have hee : e3 = ⟨true, c.w.heap.size + 1, 0, 0, 0⟩ := by
        rcases hs3.mu s.n hU2 with h | h
        · rw [h, hmu2] at he3; exact (Option.some.inj he3).symm
        · rw [h] at he3; cases he3
      subst hee
      have hready : (afterL r ex).state ≠ .busy := by cases ex <;> simp [afterL, hr]
      obtain ⟨hk4, hs4⟩ := obj_set hk3 hf3 he3 hr3 (.loop { afterL r ex with state := .exhausted }) (cut s.n s.t) (by simpa [objVals] using htm3) hcl3
      have hk5 := hk4.kill (id := s.n) (by rw [upd_same]; simp)
      have hupd : upd (upd f3 s.n (.obj (.loop { afterL r ex with state := .exhausted }) (cut s.n s.t))) s.n .dead = upd f3 s.n .dead := by
        funext j; unfold upd; split <;> rfl
      rw [hupd] at hk5
      have hs5 := Stp.kill (c3.obj (c.w.heap.size + 1) (.loop { afterL r ex with state := .exhausted })) s.n
      have hs6 := (hs3.trans hs4).trans hs5
      have hsat : Sat c0 ne N ⟨s.t, upd f3 s.n .dead, n3⟩ { a with defers := [{ target := .collected c.w.heap.size, args := #[] }] ++ a.defers } (c3.w.putObj (c.w.heap.size + 1) (.loop { afterL r ex with state := .exhausted })) := by
        refine ⟨_, rfl, hk5, upd_full (n := n3) (by simp) (by omega) hfull3, fun k => (ht k).keep (hst2.trans hs6) hk.shut, hN, hmarks.keep hs6, hst.trans (hst2.trans hs6), h0, by simp only; omega⟩
      have hend := run_endLoop (P := P) hobj3 hready
      have hj : ∀ (j : Option Code), (afterL r ex).pending = j → (Instr.endLoop (c.w.heap.size + 1)).run P c3.w = .ok j (c3.w.putObj (c.w.heap.size + 1) (.loop { afterL r ex with state := .exhausted })) := fun j hj => by rw [← hj]; exact hend
      cases ex with
      | normal => exact ⟨none, _, hj none (by simp [afterL, hr]), ⟨_, hQ, hsat⟩⟩
      | ret => exact ⟨some .ret, _, hj _ rfl, wpIn_ret ⟨_, hQ, hsat⟩⟩
      | exit i => exact ⟨some (.exit i), _, hj _ rfl, wpIn_exit ⟨_, hQ, hsat⟩⟩
  · exact h.elim
theorem stepR_scope {P : Program} {b : Frame} {a : Act} {k : List Item} {cs : List Frame} {w : World} {c : Code} : step P (lone (b.atR a (.code (.scope c) :: k)) cs w) = .next (lone (b.atR a (.code c :: .inScope c :: k)) cs w) :=
  step_lone_go (by simp [stepG, stepG.exec, Frame.atR])
theorem stepR_inScope {P : Program} {b : Frame} {a : Act} {k : List Item} {cs : List Frame} {w : World} {c : Code} : step P (lone (b.atR a (.inScope c :: k)) cs w) = .next (lone (b.atR a k) cs w) :=
  step_lone_go (by simp [stepG, stepG.exec, Frame.atR])
theorem wpIn_scope {F : Fence} {n : Nat} {P : Program} {Q : Exit → Act → World → Prop} {a : Act} {w : World} {c : Code} (hg : ∀ l a w, ¬ Q (.goto l) a w) (h : c.wpIn F n P Q a w) : (Code.scope c).wpIn F n P Q a w := by
  intro b k cs hro hb hr
  have h0 : (lone (b.atR a (.code (.scope c) :: k)) cs w).fenced P F := fenced_calm hb hr rfl
  obtain ⟨e, a₁, w₁, hq, harr⟩ := h b (.inScope c :: k) cs hro hb hr
  cases e with
  | normal => exact ⟨.normal, a₁, w₁, hq, .head h0 stepR_scope (StepsIn.trans harr (.one (fenced_calm hb hr rfl) stepR_inScope))⟩
  | exit id =>
    have hx : exitTo id (.inScope c :: k) = exitTo id k := by simp [exitTo]
    exact ⟨.exit id, a₁, w₁, hq, fun k' hk => .head h0 stepR_scope (harr.1 k' (by rw [hx]; exact hk)), fun hr' hk => let ⟨k₁, h1, h2⟩ := harr.2 hr' (by rw [hx]; exact hk); ⟨k₁, h1, .head h0 stepR_scope h2⟩⟩
  | goto l => exact absurd hq (hg l _ _)
  | ret => exact ⟨_, a₁, w₁, hq, .of_steps (.one h0 stepR_scope) harr⟩
  | panic ch => exact ⟨_, a₁, w₁, hq, .of_steps (.one h0 stepR_scope) harr⟩
  | outgrown => exact ⟨_, a₁, w₁, hq, .of_steps (.one h0 stepR_scope) harr⟩
theorem awp_sound {P : Program} {z : Bool} (hm : P.follows .mixedOrders = true) : ∀ (c : Code), Snd P z c := by
  intro c
  induction c with
  | skip => intro rr c0 ne N Q s a w _ h hs; exact wpIn_skip ⟨s, h, hs⟩
  | label l => intro rr c0 ne N Q s a w _ h hs; exact wpIn_label ⟨s, h, hs⟩
  | exit i => intro rr c0 ne N Q s a w _ h hs; exact wpIn_exit ⟨s, h, hs⟩
  | ret => intro rr c0 ne N Q s a w _ h hs; exact wpIn_ret ⟨s, h, hs⟩
  | rangeFunc g ps assign body ia ib => exact range_sound ia ib g ps
  | region id ops draw =>
    intro rr c0 ne N Q s a w hok h hs
    simp only [codeOkR, Bool.and_eq_true, List.all_eq_true] at hok
    have hdst : ∀ o ∈ ops.toList, ∀ d, o.dst = some d → d < N := fun o ho d hd => by
      have := hok.1 o ho
      rw [hd] at this
      simpa using this
    cases draw with
    | false =>
      obtain ⟨c, rfl, hk, hfr, ht, hN, hd, hst, h0, hne⟩ := hs
      refine wpIn_region_list ?_
      simp only [awp] at h
      exact aops_sound (c0 := c0) (ne := ne) (N := N) (fun s a w hK hS => ⟨s, hK, hS⟩) ops.toList 0 s.t s.f s.n a c h hdst hk hfr ht hN hd hst h0 hne
    | true =>
      have h2 : lexOk z ops = true := by simpa using hok.2
      cases z with
      | false =>
        simp only [awp, Bool.and_false, cond_false, cond_true] at h
        exact draw_sound hm h2 hdst (fun s a w hK hS => ⟨s, hK, hS⟩) h hs
      | true =>
        simp only [awp, Bool.and_true, cond_true] at h
        rcases h with h | h
        · exact draw_sound hm (by
            cases h3 : lexOk false ops with
            | true => simpa using h3
            | false => simpa using h2) hdst (fun s a w hK hS => ⟨s, hK, hS⟩) h hs
        · exact any_sound hm hdst (fun s a w hK hS => ⟨s, hK, hS⟩) h hs
  | seq x y ihx ihy =>
    intro rr c0 ne N Q s a w hok h hs
    simp only [codeOkR, Bool.and_eq_true] at hok
    simp only [awp] at h
    refine wpIn_seq (wpIn_mono (ihx rr c0 ne N _ s a w hok.1 h hs) fun e a' w' hq => ?_)
    cases e <;> simp only [QR] at hq <;> simp only [Exit.then]
    case normal => obtain ⟨s', h1, h2⟩ := hq; exact ihy rr c0 ne N Q s' a' w' hok.2 h1 h2
    all_goals exact hq
  | cond c x y ihx ihy =>
    intro rr c0 ne N Q s a w hok h hs
    simp only [codeOkR, Bool.and_eq_true] at hok
    simp only [awp] at h
    split at h
    · rename_i b hb
      have hev : a.eval c = .bool b := by
        obtain ⟨cx, _, _, _, ht, _⟩ := hs
        have := aev_rv ht c
        rw [hb] at this; simpa only [Rv] using this
      exact wpIn_cond_split hev (fun h1 => ihx rr c0 ne N Q s a w hok.1 (h.1 h1) hs) (fun h1 => ihy rr c0 ne N Q s a w hok.2 (h.2 h1) hs)
    · exact h.elim
  | scope c ih =>
    intro rr c0 ne N Q s a w hok h hs
    simp only [codeOkR] at hok
    simp only [awp] at h
    exact wpIn_scope (fun l a w hq => by simp only [QR] at hq) (ih rr c0 ne N Q s a w hok h hs)
  | block id c ih =>
    intro rr c0 ne N Q s a w hok h hs
    simp only [codeOkR] at hok
    simp only [awp] at h
    refine wpIn_block (wpIn_mono (ih rr c0 ne N _ s a w hok h hs) fun e a' w' hq => ?_)
    cases e <;> simp only [QR] at hq <;> simp only [Exit.inBlock]
    case normal => exact hq
    case exit i =>
      obtain ⟨s', h1, h2⟩ := hq
      split at h1
      · rename_i hi; rw [if_pos hi]; exact ⟨s', h1, h2⟩
      · rename_i hi; rw [if_neg hi]; exact ⟨s', h1, h2⟩
    case ret => exact hq
  | loop c ih =>
    intro rr c0 ne N Q s a w hok h hs
    simp only [codeOkR] at hok
    simp only [awp] at h
    obtain ⟨α, st, m, x0, hle, hround⟩ := h
    refine wpIn_loop_idx (fun x a w => Sat c0 ne N (st x) a w) m x0 (hle c0 N a w hs) fun x a' w' hI => ?_
    refine wpIn_mono (ih rr c0 ne N _ (st x) a' w' hok (hround x) hI) fun e a2 w2 hq => ?_
    cases e <;> simp only [QR] at hq <;> simp only [Exit.then]
    case normal =>
      obtain ⟨s', ⟨y, h1, h2⟩, h3⟩ := hq
      exact ⟨y, h1 c0 N a2 w2 h3, h2⟩
    all_goals exact hq
  | _ => intro rr c0 ne N Q s a w _ h hs; simp only [awp] at h
def aresK (P : Program) (s : St) : List ResultVar → (List AV → Prop) → Prop
  | [], K => K []
  | .tmp t :: r, K => aresK P s r fun vs => K (s.t t :: vs)
  | .cell a ty :: r, K =>
    match rop P s.f (aev s.t) (.load ty (.tmp a)) with
    | some (p, v) => p ∧ aresK P s r fun vs => K (v :: vs)
    | none => False
def oneOf (vs : List AV) : AV :=
  match vs with
  | [v] => v
  | vs => .tup vs
def argT (args : List AV) : Nat → AV := fun k => args.getD k .any
def resOf (tmps : Array Value) : ResultVar → Sem Value
  | .tmp t => pure (tmps.getD t undef)
  | .cell a t => do loadVar t (← asAddr (tmps.getD a undef))
theorem results_eq (fn : Func) (tmps : Array Value) : results fn tmps = (do
    let vs ← fn.results.mapM (resOf tmps)
    pure (if h : vs.size = 1 then vs[0] else .tuple vs)) := by
  unfold results
  congr 1
theorem ares_run {P : Program} {c : Cx} {s : St} {a : Act} (hk : HOk c s.f) (ht : ∀ k, Rv c (s.t k) (a.tmps.getD k undef)) : ∀ (rs : List ResultVar) (K : List AV → Prop), aresK P s rs K →
    ∃ l vs, K l ∧ Rl c l vs ∧ (rs.mapM (resOf a.tmps) : Sem (List Value)).run P c.w = .ok vs c.w := by
  intro rs
  induction rs with
  | nil => intro K h; exact ⟨[], [], h, by simp [Rl], by simp⟩
  | cons r rs ih =>
    intro K h
    cases r with
    | tmp t =>
      simp only [aresK] at h
      obtain ⟨l, vs, h1, h2, h3⟩ := ih _ h
      refine ⟨s.t t :: l, a.tmps.getD t undef :: vs, h1, ?_, ?_⟩
      · simp only [Rl]; exact ⟨_, _, rfl, ht t, h2⟩
      · simp only [List.mapM_cons, resOf, Sem.run_bind, Sem.run_pure, Result.andThen_ok, h3]
    | cell ad t =>
      simp only [aresK] at h
      split at h
      · rename_i p v hv
        obtain ⟨l, vs, h1, h2, h3⟩ := ih _ h.2
        obtain ⟨r, g1, g2⟩ := rop_sound (o := ⟨none, .load t (.tmp ad), 0, "", #[], none⟩) hk (aev_rv ht) hv h.1
        refine ⟨v :: l, r :: vs, h1, ?_, ?_⟩
        · simp only [Rl]; exact ⟨_, _, rfl, g2, h2⟩
        · have hp : ∃ x, a.tmps.getD ad undef = .pointer (some x) := by
            have := ht ad
            simp only [rop, aev] at hv
            split at hv
            · rename_i ti cs hti hta
              rw [hta] at this; simp only [Rv] at this
              obtain ⟨b, o, _, hx, _⟩ := this
              exact ⟨_, hx⟩
            · rename_i ti id idx off hti hta
              rw [hta] at this; simp only [Rv] at this
              obtain ⟨_, b, o, hx, _⟩ := this
              exact ⟨_, hx⟩
            · cases hv
          obtain ⟨x, hx⟩ := hp
          have hl : (loadVar t x).run P c.w = .ok r c.w := by
            simp only [execOp, Act.eval, hx, Instr.loadAt, Instr.sureAddr, Sem.run_bind, Sem.run_pure, Result.andThen_ok] at g1
            cases hlv : (loadVar t x).run P c.w with
            | ok r' w' => rw [hlv] at g1; simpa using g1
            | halt e w' => rw [hlv] at g1; simp at g1
          have e1 : (asAddr (a.tmps.getD ad undef)).run P c.w = .ok x c.w := by rw [hx]; rfl
          simp only [List.mapM_cons, resOf, Sem.run_bind, e1, Sem.run_pure, Result.andThen_ok, hl, h3]
      · exact h.elim
theorem results_run {P : Program} {c : Cx} {s : St} {a : Act} {fn : Func} (hk : HOk c s.f) (ht : ∀ k, Rv c (s.t k) (a.tmps.getD k undef)) {K : List AV → Prop} (h : aresK P s fn.results.toList K) :
    ∃ l v, K l ∧ Rv c (oneOf l) v ∧ (results fn a.tmps).run P c.w = .ok v c.w := by
  obtain ⟨l, vs, h1, h2, h3⟩ := ares_run hk ht fn.results.toList K h
  have hr : (results fn a.tmps).run P c.w = .ok (if h : vs.toArray.size = 1 then vs.toArray[0] else .tuple vs.toArray) c.w := by
    rw [results_eq, Array.mapM_eq_mapM_toList]
    simp only [Sem.run_bind, Sem.run_map, Result.andThen_ok]
    rw [h3]
    simp only [Result.andThen_ok, Sem.run_pure]
  refine ⟨l, _, h1, ?_, hr⟩
  have hlen := h2.length
  match l, vs, h2, hlen with
  | [], [], _, _ => simp only [oneOf, Rv]; exact ⟨#[], rfl, by simp [Rl]⟩
  | [x], [v], h2, _ =>
    simp only [Rl] at h2
    obtain ⟨v', r, hv, hr, _⟩ := h2
    simp only [List.cons.injEq] at hv
    obtain ⟨rfl, _⟩ := hv
    simpa [oneOf] using hr
  | x :: y :: l, v :: u :: vs, h2, _ =>
    simp only [oneOf, Rv]
    exact ⟨(v :: u :: vs).toArray, by simp, h2⟩
theorem argT_rv {c : Cx} {args : List AV} {vs : List Value} (h : Rl c args vs) (N : Nat) : ∀ k, Rv c (argT args k) ((vs.toArray ++ Array.replicate (N - vs.toArray.size) undef).getD k undef) := by
  intro k
  have hlen := h.length
  unfold argT
  rw [List.getD_eq_getElem?_getD]
  cases ha : args[k]? with
  | none => simp only [Option.getD_none, Rv]
  | some x =>
    obtain ⟨v, hv, hr⟩ := h.get k x ha
    have hlt : k < vs.length := by
      rcases Nat.lt_or_ge k vs.length with h' | h'
      · exact h'
      · rw [List.getElem?_eq_none h'] at hv; cases hv
    simp only [Option.getD_some]
    rw [Array.getD_eq_getD_getElem?, Array.getElem?_append_left (by simpa using hlt)]
    simp only [List.getElem?_toArray, hv, Option.getD_some]
    exact hr
theorem callTo_enter {P : Program} {g : FuncId} {fn : Func} {c : Code} (hf : P.funcs[g]? = some fn) (hb : fn.body = some c) (hname : (fn.name == "runtime.NumGoroutine") = false) {vs : Array Value} {w : World} {Post : Value → World → Prop}
    (h : Calls P g vs w fun e w' => ∃ v, e = .returned v ∧ Post v w') : CallTo P g vs w Post := by
  have : (callFunc g vs).run P w = .ok (.enter g vs) w := by
    unfold callFunc
    simp only [Sem.run_bind, run_program, Result.andThen_ok, hf, hname, Bool.false_eq_true, if_false, hb, Option.isNone_some, Sem.run_pure]
  unfold CallTo
  rw [this]
  exact h
theorem shut_mark {c0 c : Cx} {f : Nat → BS} {D : Nat} (hk : HOk c f) (h1 : c.w.heap[D]? = some (.deferred (some []))) (h2 : ∀ id e, c.mu id = some e → e.real = true → e.block ≠ D) (hlo : c0.w.heap.size ≤ D) (hs : Stp c0 c) :
    HOk { c with w := c.w.putObj D (.deferred none) } f ∧ Kr c { c with w := c.w.putObj D (.deferred none) } ∧ Stp c0 { c with w := c.w.putObj D (.deferred none) } := by
  have hother : ∀ b, b ≠ D → (c.w.putObj D (.deferred none)).heap[b]? = c.w.heap[b]? := fun b hb => World.putObj_heap_other hb
  have hkr : Kr c { c with w := c.w.putObj D (.deferred none) } := by
    refine ⟨by simp, fun b hb hF o v hv => ?_, fun _ h => h, fun _ _ => .inl rfl, fun _ _ h => h⟩
    have hbD : b ≠ D := fun hbD => by
      subst hbD
      unfold World.cell? at hv
      rw [h1] at hv; cases hv
    rw [cell_of_block (hother b hbD)]; exact hv
  refine ⟨?_, hkr, ⟨hs.os, hs.tape, hs.output, by simp only [World.putObj_size]; exact hs.size, fun b hb hn => (hother b (by omega)).trans (hs.keep b hb hn), hs.U, hs.mu, hs.new, hs.F⟩⟩
  constructor
  · exact hk.used
  · exact hk.none
  · intro id sz l h
    obtain ⟨e, he, g1, g2, g3⟩ := hk.live id sz l h
    refine ⟨e, he, g1, g2, fun hr => ?_⟩
    obtain ⟨hre, htot, cs, ty, hh, hsz⟩ := g3 hr
    have hb := hother e.block (h2 id e he hr)
    refine ⟨Re.of_get fun i a hi => ?_, htot, cs, ty, hb.trans hh, hsz⟩
    obtain ⟨v, q1, q2, q3, q4, q5⟩ := hre.get i a hi
    exact ⟨v, q1.keepR hkr, q2, q3, q4, q5.block hb⟩
  · intro id o t h
    obtain ⟨e, oo, he, g1, g2, g3, gS, g4, g5, g6⟩ := hk.obj id o t h
    exact ⟨e, oo, he, g1, g2, g3, gS, (hother e.block (h2 id e he g1)).trans g4, fun k => (g5 k).keepR hkr, g6⟩
  · exact hk.inj
  · exact hk.shut
theorem leave_marks {P : Program} {fn : Func} {tmps : Array Value} {R : Ending → World → Prop} {c0 : Cx} {f : Nat → BS} {t : Nat → AV}
    (key : ∀ c : Cx, HOk c f → (∀ k, Rv c (t k) (tmps.getD k undef)) → Stp c0 c → ∃ v, (results fn tmps).run P c.w = .ok v c.w ∧ R (.returned v) c.w) :
    ∀ (ds : List Deferred) (c : Cx), HOk c f → (∀ k, Rv c (t k) (tmps.getD k undef)) → Stp c0 c → Marks c c0.w.heap.size ds → LeavesInM Fence.wide 0 P fn tmps R ds .returning c.w
  | [], c, hk, ht, hs, _ => key c hk ht hs
  | d :: ds, c, hk, ht, hs, ⟨⟨D, hd, hlo, h1, h2⟩, hnot, hrest⟩ => by
    obtain ⟨g1, g2, g3⟩ := shut_mark hk h1 h2 hlo hs
    refine ⟨by simp, .inl ⟨D, _, by rw [hd], run_takeDeferred h1, ?_⟩⟩
    refine leave_marks key ds { c with w := c.w.putObj D (.deferred none) } g1 (fun k => (ht k).keepR g2) g3 ?_
    have : ∀ ds : List Deferred, d ∉ ds → Marks c c0.w.heap.size ds → Marks { c with w := c.w.putObj D (.deferred none) } c0.w.heap.size ds := by
      intro ds
      induction ds with
      | nil => intro _ _; trivial
      | cons d' ds ih =>
        rintro hn ⟨⟨D', q1, q2, q3, q4⟩, q5, q6⟩
        simp only [List.mem_cons, not_or] at hn
        refine ⟨⟨D', q1, q2, ?_, q4⟩, q5, ih hn.2 q6⟩
        have hne : D' ≠ D := fun h => hn.1 (by rw [hd, q1, h])
        exact (World.putObj_heap_other hne).trans q3
    exact this ds hnot hrest
theorem CA.of_wp {P : Program} {z : Bool} (hm : P.follows .mixedOrders = true) {g : FuncId} {fn : Func} {c : Code} (hf : P.funcs[g]? = some fn) (hb : fn.body = some c) (hname : (fn.name == "runtime.NumGoroutine") = false) {args : List AV} (hN : args.length ≤ fn.ntmps) (hok : codeOk z fn.ntmps c = true)
    {f : Nat → BS} {n : Nat} {K : AV → (Nat → BS) → Nat → Prop}
    (h : awp P z n c (fun e s => match e with | .exit _ => False | _ => aresK P s fn.results.toList fun l => K (oneOf l) s.f s.n) ⟨argT args, f, n⟩) : CA P g args f n K := by
  intro cx vs hk hfr hl
  refine callTo_enter hf hb hname ?_
  refine callsIn_wide (n := 0).1 ?_
  refine callsIn_of_wp_marks hf hb trivial ?_
  have hlen := hl.length
  have hsat : Sat cx n fn.ntmps ⟨argT args, f, n⟩ { tmps := vs.toArray ++ Array.replicate (fn.ntmps - vs.toArray.size) undef, defers := [] } cx.w :=
    ⟨cx, rfl, hk, hfr, argT_rv hl fn.ntmps, by simp; omega, trivial, Stp.refl cx, full_lt hk hfr, Nat.le_refl _⟩
  rw [← fr_none]
  refine wpIn_mono (awp_sound hm c none cx n fn.ntmps _ _ _ _ hok h hsat) fun e a w hq => ?_
  have key : ∀ s, (aresK P s fn.results.toList fun l => K (oneOf l) s.f s.n) → Sat cx n fn.ntmps s a w → LeavesInM (Fr none) 0 P fn a.tmps (fun e w' => ∃ v, e = .returned v ∧
      ∃ c' r f' n', c'.w = w' ∧ K r f' n' ∧ HOk c' f' ∧ Rv c' r v ∧ Stp cx c' ∧ n ≤ n' ∧ ∀ j, f' j = .fresh ↔ n' ≤ j) a.defers .returning w := by
    rintro s hs ⟨c', rfl, hk', hfr', ht', hN', hd', hst', h0', hne'⟩
    refine leave_marks (c0 := cx) (f := s.f) (t := s.t) (fun c2 hk2 ht2 hs2 => ?_) a.defers c' hk' ht' hst' hd'
    obtain ⟨l, v, g1, g2, g3⟩ := results_run hk2 ht2 hs
    exact ⟨v, g3, v, rfl, c2, oneOf l, s.f, s.n, rfl, g1, hk2, g2, hs2, hne', hfr'⟩
  cases e <;> simp only [QR] at hq <;> simp only [bodyPostM]
  case normal => obtain ⟨s, h1, h2⟩ := hq; exact key s h1 h2
  case ret => obtain ⟨s, h1, h2⟩ := hq; exact key s h1 h2
  case exit i => obtain ⟨s, h1, h2⟩ := hq; exact h1
theorem Pure.of_wp {P : Program} {z : Bool} (hm : P.follows .mixedOrders = true) {g : FuncId} {fn : Func} {c : Code} (hf : P.funcs[g]? = some fn) (hb : fn.body = some c) (hname : (fn.name == "runtime.NumGoroutine") = false) {args : List AV} (hN : args.length ≤ fn.ntmps) (hok : codeOk z fn.ntmps c = true)
    {r : AV} (hro : ro r)
    (h : awp P z 0 c (fun e s => match e with | .exit _ => False | _ => aresK P s fn.results.toList fun l => view s.f (oneOf l) = r ∧ fits s.f (oneOf l)) ⟨argT args, fun _ => .fresh, 0⟩) : Pure P g args r := by
  refine ⟨hro, fun cx vs hm0 hU0 hl => ?_⟩
  have hk0 : HOk cx (fun _ => .fresh) := by
    constructor
    · intro id; simp [hU0 id]
    · intro id _; exact hm0 id
    · intro id sz l h; cases h
    · intro id o t h; cases h
    · intro i j ei ej h; rw [hm0] at h; cases h
    · intro id e h; rw [hm0] at h; cases h
  have hca : CA P g args (fun _ => .fresh) 0 (fun r0 f' n' => view f' r0 = r ∧ fits f' r0) := CA.of_wp hm hf hb hname hN hok h
  refine (hca cx vs hk0 (fun _ => by simp) hl).mono fun v w' ⟨c', r0, f', n', q1, q2, q3, q4, q5, _⟩ => ?_
  obtain ⟨g1, g2⟩ := q2
  refine ⟨c'.bare fun b => cx.F b ∧ b < cx.w.heap.size, q1, ?_, ?_⟩
  · refine ⟨q5.os, q5.tape, q5.output, q5.size, q5.keep, fun id h => absurd h (hU0 id), fun id h => absurd h (hU0 id), fun id e h => (by cases h), fun b hb => ⟨fun h => h.1, fun _ h => ⟨h, hb⟩⟩⟩
  · rw [← g1]
    refine view_rv q3 (fun b _ h => (q5.F b h.2).2 (fun id e he _ => absurd he (by rw [hm0 id]; exact fun h => nomatch h)) h.1) (fun id e he hr h => ?_) r0 v g2 (by rw [g1]; exact hro) q4
    rcases q5.new id e he hr with h1 | ⟨j, e', hj, _⟩
    · omega
    · rw [hm0] at hj; cases hj
inductive Itm : Type 1 where
  | code (c : Code)
  | ops (y q : Bool) (O : Array Oper) (n0 i : Nat) (l : List Oper)
  | blk (id : Nat)
  | lp (α : Type) (st : α → St) (m : α → Nat) (x : α)
mutual
def goS (P : Program) (z : Bool) (ne : Nat) (Q : AEx → St → Prop) : List Itm → St → Prop
  | [], s => Q .normal s
  | .code c :: k, s => awp P z ne c (fun e s' => match e with | .normal => goS P z ne Q k s' | .exit i => goX P z ne Q i k s' | .ret => Q .ret s') s
  | .ops y q O n0 i l :: k, s => aops P y q O n0 (fun s' => goS P z ne Q k s') i l s.t s.f s.n
  | .blk _ :: k, s => goS P z ne Q k s
  | .lp _ st m x :: _, s => ∃ y, le ne s (st y) ∧ m y < m x
def goX (P : Program) (z : Bool) (ne : Nat) (Q : AEx → St → Prop) (i : Nat) : List Itm → St → Prop
  | [], s => Q (.exit i) s
  | .blk j :: k, s => if i = j then goS P z ne Q k s else goX P z ne Q i k s
  | _ :: k, s => goX P z ne Q i k s
end
def go (P : Program) (z : Bool) (ne : Nat) (Q : AEx → St → Prop) (k : List Itm) (t : Nat → AV) (f : Nat → BS) (n : Nat) : Prop := goS P z ne Q k ⟨t, f, n⟩
def goE (P : Program) (z : Bool) (ne : Nat) (Q : AEx → St → Prop) (i : Nat) (k : List Itm) (t : Nat → AV) (f : Nat → BS) (n : Nat) : Prop := goX P z ne Q i k ⟨t, f, n⟩
def goV (P : Program) (z : Bool) (ne : Nat) (Q : AEx → St → Prop) (x : Res) (d : Option Tmp) (k : List Itm) (t : Nat → AV) (f : Nat → BS) (n : Nat) : Prop :=
  match x with
  | some (s, v) => s ∧ go P z ne Q k (putA t d v) f n
  | none => False
def goG (P : Program) (z : Bool) (ne : Nat) (Q : AEx → St → Prop) (id : Nat) (x : Option (Prop × AV × BS)) (d : Option Tmp) (k : List Itm) (t : Nat → AV) (f : Nat → BS) (n : Nat) : Prop :=
  match x with
  | some (s, v, b) => s ∧ go P z ne Q k (putA t d v) (upd f id b) n
  | none => False
def goC (P : Program) (z : Bool) (ne : Nat) (Q : AEx → St → Prop) (g : FuncId) (args : List AV) (d : Option Tmp) (k : List Itm) (t : Nat → AV) (f : Nat → BS) (n : Nat) : Prop :=
  CA P g args f n fun r f' n' => go P z ne Q k (putA t d r) f' n'
def goD (P : Program) (z : Bool) (ne : Nat) (Q : AEx → St → Prop) (bq : Bool) (g : FuncId) (args : List AV) (d : Option Tmp) (k : List Itm) (t : Nat → AV) (f : Nat → BS) (n : Nat) : Prop :=
  (∃ r, CV P g args f r ∧ go P z ne Q k (putA t d r) f n) ∨ (bq = true ∧ CE P g args f fun r f' => go P z ne Q k (putA t d r) f' n)
def goY (P : Program) (z : Bool) (ne : Nat) (Q : AEx → St → Prop) (id : Nat) (args : List AV) (d : Option Tmp) (k : List Itm) (t : Nat → AV) (f : Nat → BS) (n : Nat) : Prop :=
  YA P id args f n fun r f' n' => go P z ne Q k (putA t d r) f' n'
def goCall (P : Program) (z : Bool) (ne : Nat) (Q : AEx → St → Prop) (q bq : Bool) (x : Option (FuncId × List AV)) (y : Option Nat) (args : List AV) (d : Option Tmp) (k : List Itm) (t : Nat → AV) (f : Nat → BS) (n : Nat) : Prop :=
  match x with
  | some (g, args) => if q then goD P z ne Q bq g args d k t f n else goC P z ne Q g args d k t f n
  | none => if q then False else match y with
    | some id => goY P z ne Q id args d k t f n
    | none => False
def goB (P : Program) (z : Bool) (ne : Nat) (Q : AEx → St → Prop) (v : AV) (k1 k2 : List Itm) (t : Nat → AV) (f : Nat → BS) (n : Nat) : Prop :=
  match v with
  | .bool b => (b = true → go P z ne Q k1 t f n) ∧ (b = false → go P z ne Q k2 t f n)
  | _ => False
section
variable {P : Program} {z : Bool} {ne : Nat} {Q : AEx → St → Prop} {k : List Itm} {t : Nat → AV} {f : Nat → BS} {n : Nat}
theorem go_nil : go P z ne Q [] t f n = Q .normal ⟨t, f, n⟩ := rfl
theorem go_skip : go P z ne Q (.code .skip :: k) t f n = go P z ne Q k t f n := rfl
theorem go_label {l : Nat} : go P z ne Q (.code (.label l) :: k) t f n = go P z ne Q k t f n := rfl
theorem go_ret : go P z ne Q (.code .ret :: k) t f n = Q .ret ⟨t, f, n⟩ := rfl
theorem go_blk {id : Nat} : go P z ne Q (.blk id :: k) t f n = go P z ne Q k t f n := rfl
theorem go_exit {i : Nat} : go P z ne Q (.code (.exit i) :: k) t f n = goE P z ne Q i k t f n := rfl
theorem goE_nil {i : Nat} : goE P z ne Q i [] t f n = Q (.exit i) ⟨t, f, n⟩ := rfl
theorem goE_same {i : Nat} : goE P z ne Q i (.blk i :: k) t f n = go P z ne Q k t f n := by simp [goE, go, goX]
theorem goE_blk {i j : Nat} : goE P z ne Q i (.blk j :: k) t f n = if i = j then go P z ne Q k t f n else goE P z ne Q i k t f n := rfl
theorem goE_code {i : Nat} {c : Code} : goE P z ne Q i (.code c :: k) t f n = goE P z ne Q i k t f n := rfl
theorem goE_ops {i : Nat} {y q : Bool} {O : Array Oper} {n0 j : Nat} {l : List Oper} : goE P z ne Q i (.ops y q O n0 j l :: k) t f n = goE P z ne Q i k t f n := rfl
theorem goE_lp {i : Nat} {α : Type} {st : α → St} {m : α → Nat} {x : α} : goE P z ne Q i (.lp α st m x :: k) t f n = goE P z ne Q i k t f n := rfl
theorem go_seq {a b : Code} : go P z ne Q (.code (.seq a b) :: k) t f n = go P z ne Q (.code a :: .code b :: k) t f n := by
  simp only [go, goS, awp]
  congr 1
  funext e s
  cases e <;> rfl
theorem go_block {id : Nat} {c : Code} : go P z ne Q (.code (.block id c) :: k) t f n = go P z ne Q (.code c :: .blk id :: k) t f n := by
  simp only [go, goS, awp]
  congr 1
  funext e s
  cases e <;> rfl
theorem go_scope {c : Code} : go P z ne Q (.code (.scope c) :: k) t f n = go P z ne Q (.code c :: k) t f n := by
  simp only [go, goS, awp]
theorem go_region {id : Nat} {O : Array Oper} : go P z ne Q (.code (.region id O false) :: k) t f n = go P z ne Q (.ops false false O n 0 O.toList :: k) t f n := rfl
theorem go_regionD {id : Nat} {O : Array Oper} : go P false ne Q (.code (.region id O true) :: k) t f n = go P false ne Q (.ops false true O n 0 O.toList :: k) t f (n + O.size) := rfl
theorem go_cond {c : Operand} {x y : Code} : go P z ne Q (.code (.cond c x y) :: k) t f n = goB P z ne Q (aev t c) (.code x :: k) (.code y :: k) t f n := by
  simp only [go, goS, awp, goB] <;> (cases aev t c <;> rfl)
theorem go_strict' {id : Nat} {O : Array Oper} (h : lexOk false O = true) (g : go P z ne Q (.ops false true O n 0 O.toList :: k) t f (n + O.size)) : go P z ne Q (.code (.region id O true) :: k) t f n := by
  cases z with
  | false => exact g
  | true =>
    simp only [go, goS, awp, h, Bool.not_true, Bool.and_true, cond_true] at g ⊢
    exact .inl g
theorem go_any' {id : Nat} {O : Array Oper} (g : anyA P false O n (n + O.size) (fun t f => go P true ne Q k t (dB (n + O.size) f) (n + O.size)) O.size (Array.replicate O.size false) t f) : go P true ne Q (.code (.region id O true) :: k) t f n := by
  simp only [go, goS, awp, Bool.and_true, cond_true] at g ⊢
  exact .inr g
theorem goB_bool {b : Bool} {k1 k2 : List Itm} : goB P z ne Q (.bool b) k1 k2 t f n = ((b = true → go P z ne Q k1 t f n) ∧ (b = false → go P z ne Q k2 t f n)) := rfl
theorem go_loop {c : Code} {α : Type} (st : α → St) (m : α → Nat) (x0 : α) (h0 : le ne ⟨t, f, n⟩ (st x0)) (h : ∀ x, go P z ne Q (.code c :: .lp α st m x :: k) (st x).t (st x).f (st x).n) : go P z ne Q (.code (.loop c) :: k) t f n := by
  simp only [go, goS, awp]
  refine ⟨α, st, m, x0, h0, fun x => ?_⟩
  have := h x
  simp only [go, goS] at this
  refine Eq.mp ?_ this
  congr 1
  funext e s
  cases e <;> rfl
theorem go_lp {α : Type} {st : α → St} {m : α → Nat} {x : α} : go P z ne Q (.lp α st m x :: k) t f n = ∃ y, le ne ⟨t, f, n⟩ (st y) ∧ m y < m x := rfl
section ops
variable {y q : Bool} {O : Array Oper} {n0 i : Nat} {r : List Oper} {d : Option Tmp} {ty : TypeId} {pos : String} {after : Array Edge}
theorem go_ops_nil : go P z ne Q (.ops y false O n0 i [] :: k) t f n = go P z ne Q k t f n := rfl
theorem go_ops_nil' : go P z ne Q (.ops y true O n0 i [] :: k) t f n = go P z ne Q k t (dB n f) n := rfl
theorem goV_some {s : Prop} {v : AV} : goV P z ne Q (some (s, v)) d k t f n = (s ∧ go P z ne Q k (putA t d v) f n) := rfl
theorem goV_true {v : AV} : goV P z ne Q (some (True, v)) d k t f n = go P z ne Q k (putA t d v) f n := by simp [goV]
theorem goG_some {id : Nat} {s : Prop} {v : AV} {b : BS} : goG P z ne Q id (some (s, v, b)) d k t f n = (s ∧ go P z ne Q k (putA t d v) (upd f id b) n) := rfl
theorem goG_true {id : Nat} {v : AV} {b : BS} : goG P z ne Q id (some (True, v, b)) d k t f n = go P z ne Q k (putA t d v) (upd f id b) n := by simp [goG]
theorem goCall_c {g : FuncId} {args as : List AV} {yy : Option Nat} {bq : Bool} : goCall P z ne Q false bq (some (g, args)) yy as d k t f n = goC P z ne Q g args d k t f n := rfl
theorem goCall_y {id : Nat} {as : List AV} {bq : Bool} : goCall P z ne Q false bq none (some id) as d k t f n = goY P z ne Q id as d k t f n := rfl
theorem goCall_d {g : FuncId} {args as : List AV} {yy : Option Nat} {bq : Bool} : goCall P z ne Q true bq (some (g, args)) yy as d k t f n = goD P z ne Q bq g args d k t f n := rfl
theorem go_v {op : Op} (h : clsOf op = .v) : go P z ne Q (.ops y q O n0 i (⟨d, op, ty, pos, after, none⟩ :: r) :: k) t f n = goV P z ne Q (vop P (aev t) op) d (.ops y q O n0 (i + 1) r :: k) t f n := by
  simp only [go, goS, aops, aop, h, goV]
  cases vop P (aev t) op <;> rfl
theorem go_r {op : Op} (h : clsOf op = .r) : go P z ne Q (.ops y q O n0 i (⟨d, op, ty, pos, after, none⟩ :: r) :: k) t f n = goV P z ne Q (rop P (fz (hdB y q O n0 i) f) (aev t) op) d (.ops y q O n0 (i + 1) r :: k) t f n := by
  simp only [go, goS, aops, aop, h, goV]
  cases rop P (fz (hdB y q O n0 i) f) (aev t) op <;> rfl
theorem go_g {op : Op} (h : clsOf op = .g) : go P z ne Q (.ops y q O n0 i (⟨d, op, ty, pos, after, none⟩ :: r) :: k) t f n = goG P z ne Q (idn q n0 i n) (gop P (idn q n0 i n) (aev t) op) d (.ops y q O n0 (i + 1) r :: k) t f (nxt q n) := by
  simp only [go, goS, aops, aop, h, goG]
  cases gop P (idn q n0 i n) (aev t) op <;> rfl
theorem go_call {c : Call} (h : clsOf (.call c) = .c) : go P z ne Q (.ops y q O n0 i (⟨d, .call c, ty, pos, after, none⟩ :: r) :: k) t f n = goCall P z ne Q q (barB O i) (calleeA (aev t) c) (yldA (aev t) c) (c.args.toList.map (aev t)) d (.ops y q O n0 (i + 1) r :: k) t f n := by
  simp only [go, goS, aops, aop, h, goCall, goC, goD, goY]
  cases calleeA (aev t) c <;> cases yldA (aev t) c <;> rfl
theorem go_nq {op : Op} (h : clsOf op = .n) : go P z ne Q (.ops y false O n0 i (⟨d, op, ty, pos, after, none⟩ :: r) :: k) t f n = nop P (aev t) (fun v => go P z ne Q (.ops y false O n0 (i + 1) r :: k) (putA t d v) f n) op := by
  simp only [go, goS, aops, aop, h, Bool.false_eq_true, if_false]
def goGd (P : Program) (z : Bool) (ne : Nat) (Q : AEx → St → Prop) (v : AV) (e : Tmp) (want : Bool) (d : Option Tmp) (k1 k2 : List Itm) (t : Nat → AV) (f : Nat → BS) (n : Nat) : Prop :=
  match v with
  | .bool b => (b = want → go P z ne Q k1 (upd t e (.bool want)) f n) ∧ (b = !want → go P z ne Q k2 (putA (upd t e (.bool (!want))) d (.tup [])) f n)
  | .tup [] => go P z ne Q k2 (putA t d (.tup [])) f n
  | _ => False
theorem go_guard {op : Op} {j : Nat} {want : Bool} {e : Tmp} (h : gslot O j = some e) : go P z ne Q (.ops y q O n0 i (⟨d, op, ty, pos, after, some (j, want)⟩ :: r) :: k) t f n =
    goGd P z ne Q (t e) e want d (.ops y q O n0 i (⟨d, op, ty, pos, after, none⟩ :: r) :: k) (.ops y q O n0 (i + 1) r :: k) t f n := by
  simp only [go, goS, aops, h, goGd]
  generalize t e = v
  cases v <;> first | rfl | (rename_i cs; cases cs <;> rfl)
theorem goGd_yes {e : Tmp} {want : Bool} {k1 k2 : List Itm} : goGd P z ne Q (.bool want) e want d k1 k2 t f n = go P z ne Q k1 (upd t e (.bool want)) f n := by
  cases want <;> simp [goGd]
theorem goGd_no {e : Tmp} {want : Bool} {k1 k2 : List Itm} : goGd P z ne Q (.bool (!want)) e want d k1 k2 t f n = go P z ne Q k2 (putA (upd t e (.bool (!want))) d (.tup [])) f n := by
  cases want <;> simp [goGd]
theorem goGd_tup {e : Tmp} {want : Bool} {k1 k2 : List Itm} : goGd P z ne Q (.tup []) e want d k1 k2 t f n = go P z ne Q k2 (putA t d (.tup [])) f n := rfl
theorem goGd_bool {b : Bool} {e : Tmp} {want : Bool} {k1 k2 : List Itm} : goGd P z ne Q (.bool b) e want d k1 k2 t f n = ((b = want → go P z ne Q k1 (upd t e (.bool want)) f n) ∧ (b = !want → go P z ne Q k2 (putA (upd t e (.bool (!want))) d (.tup [])) f n)) := rfl
end ops
theorem goC_pure {g : FuncId} {args : List AV} {d : Option Tmp} (r : AV) (hp : Pure P g args r) (hro : roL args) (h : go P z ne Q k (putA t d r) f n) : goC P z ne Q g args d k t f n := CA.of_pure_ro hp hro h
theorem goD_cv {bq : Bool} {g : FuncId} {args : List AV} {d : Option Tmp} (r : AV) (hp : CV P g args f r) (h : go P z ne Q k (putA t d r) f n) : goD P z ne Q bq g args d k t f n := .inl ⟨r, hp, h⟩
theorem goD_pure {bq : Bool} {g : FuncId} {args : List AV} {d : Option Tmp} (r : AV) (hp : Pure P g args r) (hro : roL args) (h : go P z ne Q k (putA t d r) f n) : goD P z ne Q bq g args d k t f n := by
  refine .inl ⟨r, .of_pure ?_ ?_ (fitsL_ro f args hro) (.inl hro), h⟩
  · rw [viewL_ro f args hro]; exact hp
  · rw [viewL_ro f args hro]; exact hro
end
def retP (P : Program) (rs : List ResultVar) (r : AV) : AEx → St → Prop := fun e s =>
  match e with
  | .exit _ => False
  | _ => aresK P s rs fun l => view s.f (oneOf l) = r ∧ fits s.f (oneOf l)
def retC (P : Program) (rs : List ResultVar) (K : AV → (Nat → BS) → Nat → Prop) : AEx → St → Prop := fun e s =>
  match e with
  | .exit _ => False
  | _ => aresK P s rs fun l => K (oneOf l) s.f s.n
section
variable {P : Program} {rs : List ResultVar} {r : AV} {t : Nat → AV} {f f0 : Nat → BS} {n n0 : Nat} {K : AV → (Nat → BS) → Nat → Prop}
theorem retP_ret : retP P rs r .ret ⟨t, f, n⟩ = aresK P ⟨t, f, n⟩ rs fun l => view f (oneOf l) = r ∧ fits f (oneOf l) := rfl
theorem retP_normal : retP P rs r .normal ⟨t, f, n⟩ = aresK P ⟨t, f, n⟩ rs fun l => view f (oneOf l) = r ∧ fits f (oneOf l) := rfl
theorem retC_ret : retC P rs K .ret ⟨t, f, n⟩ = aresK P ⟨t, f, n⟩ rs fun l => K (oneOf l) f n := rfl
theorem retC_normal : retC P rs K .normal ⟨t, f, n⟩ = aresK P ⟨t, f, n⟩ rs fun l => K (oneOf l) f n := rfl
end
theorem awp_go {P : Program} {z : Bool} {ne : Nat} {Q : AEx → St → Prop} {c : Code} {t : Nat → AV} {f : Nat → BS} {n : Nat} (h : go P z ne Q [.code c] t f n) : awp P z ne c Q ⟨t, f, n⟩ := by
  simp only [go, goS] at h
  refine Eq.mp ?_ h
  congr 1
  funext e s
  cases e <;> rfl
theorem Pure.of_goz (z : Bool) {P : Program} (hm : P.follows .mixedOrders = true) {g : FuncId} {fn : Func} {c : Code} (hf : P.funcs[g]? = some fn) (hb : fn.body = some c) {rs : List ResultVar} (hrs : fn.results.toList = rs) {args : List AV} (hq : ((fn.name == "runtime.NumGoroutine") || !(codeOk z fn.ntmps c) || !decide (args.length ≤ fn.ntmps)) = false)
    {r : AV} (hro : ro r) (h : go P z 0 (retP P rs r) [.code c] (argT args) (fun _ => .fresh) 0) : Pure P g args r := by
  simp only [Bool.or_eq_false_iff, Bool.not_eq_false', decide_eq_true_eq] at hq
  subst hrs
  exact Pure.of_wp hm hf hb hq.1.1 hq.2 hq.1.2 hro (awp_go h)
theorem CA.of_goz (z : Bool) {P : Program} (hm : P.follows .mixedOrders = true) {g : FuncId} {fn : Func} {c : Code} (hf : P.funcs[g]? = some fn) (hb : fn.body = some c) {rs : List ResultVar} (hrs : fn.results.toList = rs) {args : List AV} (hq : ((fn.name == "runtime.NumGoroutine") || !(codeOk z fn.ntmps c) || !decide (args.length ≤ fn.ntmps)) = false)
    {f : Nat → BS} {n : Nat} {K : AV → (Nat → BS) → Nat → Prop} (h : go P z n (retC P rs K) [.code c] (argT args) f n) : CA P g args f n K := by
  simp only [Bool.or_eq_false_iff, Bool.not_eq_false', decide_eq_true_eq] at hq
  subst hrs
  exact CA.of_wp hm hf hb hq.1.1 hq.2 hq.1.2 (awp_go h)
theorem Pure.of_go {P : Program} (hm : P.follows .mixedOrders = true) {g : FuncId} {fn : Func} {c : Code} (hf : P.funcs[g]? = some fn) (hb : fn.body = some c) {rs : List ResultVar} (hrs : fn.results.toList = rs) {args : List AV} (hq : ((fn.name == "runtime.NumGoroutine") || !(codeOk false fn.ntmps c) || !decide (args.length ≤ fn.ntmps)) = false)
    {r : AV} (hro : ro r) (h : go P false 0 (retP P rs r) [.code c] (argT args) (fun _ => .fresh) 0) : Pure P g args r :=
  Pure.of_goz false hm hf hb hrs hq hro h
theorem CA.of_go {P : Program} (hm : P.follows .mixedOrders = true) {g : FuncId} {fn : Func} {c : Code} (hf : P.funcs[g]? = some fn) (hb : fn.body = some c) {rs : List ResultVar} (hrs : fn.results.toList = rs) {args : List AV} (hq : ((fn.name == "runtime.NumGoroutine") || !(codeOk false fn.ntmps c) || !decide (args.length ≤ fn.ntmps)) = false)
    {f : Nat → BS} {n : Nat} {K : AV → (Nat → BS) → Nat → Prop} (h : go P false n (retC P rs K) [.code c] (argT args) f n) : CA P g args f n K :=
  CA.of_goz false hm hf hb hrs hq h
def rndE (nr : Nat) (t : Nat → AV) (r : Loop) (K : AV → (Nat → BS) → Nat → Prop) : AEx → St → Prop := fun e s =>
  s.f nr = .obj (.loop (busyL r)) t ∧ K (.bool e.goes) (upd s.f nr (.obj (.loop (afterL r e)) t)) s.n
def rndA (P : Program) (z : Bool) (nr : Nat) (t : Nat → AV) (r : Loop) (n : Nat) (body : Code) (K : AV → (Nat → BS) → Nat → Prop) : AEx → St → Prop := fun e s =>
  e = .normal ∧ s.f nr = .obj (.loop r) t ∧ go P z n (rndE nr t r K) [.code body] s.t (upd s.f nr (.obj (.loop (busyL r)) t)) s.n
def Rnd (P : Program) (z : Bool) (nr len : Nat) (t : Nat → AV) (r : Loop) (assign body : Code) (ps : List Nat) : Prop :=
  ∀ (vs : List AV) (f : Nat → BS) (n : Nat) (K : AV → (Nat → BS) → Nat → Prop), vs.length = len → f nr = .obj (.loop r) t → nr < n → go P z n (rndA P z nr t r n body K) [.code assign] (putL t ps vs) f n → YA P nr vs f n K
def goRE (P : Program) (z : Bool) (ne : Nat) (Q : AEx → St → Prop) (e : AEx) (k : List Itm) (t : Nat → AV) (f : Nat → BS) (n : Nat) : Prop :=
  match e with
  | .normal => go P z ne Q k t f n
  | .exit i => goE P z ne Q i k t f n
  | .ret => Q .ret ⟨t, f, n⟩
def goRF (P : Program) (z : Bool) (ne : Nat) (Q : AEx → St → Prop) (v : AV) (ps : Array Tmp) (assign body : Code) (k : List Itm) (t : Nat → AV) (f : Nat → BS) (n : Nat) : Prop :=
  match v with
  | .fn (.func gf) fs cap => bodied P gf ∧ ∀ r : Loop, Rnd P z n ps.size (cut n t) r assign body ps.toList →
      CA P gf (fs ++ [.yld n] ++ cap) (upd f n (.obj (.loop r) (cut n t))) (n + 1) fun _ f' n' => ∃ e, f' n = .obj (.loop (afterL r e)) (cut n t) ∧ goRE P z ne Q e k t (upd f' n .dead) n'
  | _ => False
theorem rndE_mk {nr : Nat} {t : Nat → AV} {r : Loop} {K : AV → (Nat → BS) → Nat → Prop} {e : AEx} {t1 : Nat → AV} {f1 : Nat → BS} {n1 : Nat} : rndE nr t r K e ⟨t1, f1, n1⟩ = (f1 nr = .obj (.loop (busyL r)) t ∧ K (.bool e.goes) (upd f1 nr (.obj (.loop (afterL r e)) t)) n1) := rfl
theorem rndA_normal {P : Program} {z : Bool} {nr : Nat} {t : Nat → AV} {r : Loop} {n : Nat} {body : Code} {K : AV → (Nat → BS) → Nat → Prop} {t1 : Nat → AV} {f1 : Nat → BS} {n1 : Nat} :
    rndA P z nr t r n body K .normal ⟨t1, f1, n1⟩ = (f1 nr = .obj (.loop r) t ∧ go P z n (rndE nr t r K) [.code body] t1 (upd f1 nr (.obj (.loop (busyL r)) t)) n1) := by simp [rndA]
theorem goes_normal : AEx.goes .normal = true := rfl
theorem goes_ret : AEx.goes .ret = false := rfl
theorem goes_exit {i : Nat} : AEx.goes (.exit i) = false := rfl
section
variable {P : Program} {z : Bool} {ne : Nat} {Q : AEx → St → Prop} {k : List Itm} {t : Nat → AV} {f : Nat → BS} {n : Nat}
theorem goRE_normal : goRE P z ne Q .normal k t f n = go P z ne Q k t f n := rfl
theorem goRE_exit {i : Nat} : goRE P z ne Q (.exit i) k t f n = goE P z ne Q i k t f n := rfl
theorem goRE_ret : goRE P z ne Q .ret k t f n = Q .ret ⟨t, f, n⟩ := rfl
theorem goRF_fn {gf : FuncId} {fs cap : List AV} {ps : Array Tmp} {assign body : Code} : goRF P z ne Q (.fn (.func gf) fs cap) ps assign body k t f n = (bodied P gf ∧ ∀ r : Loop, Rnd P z n ps.size (cut n t) r assign body ps.toList →
      CA P gf (fs ++ [.yld n] ++ cap) (upd f n (.obj (.loop r) (cut n t))) (n + 1) fun _ f' n' => ∃ e, f' n = .obj (.loop (afterL r e)) (cut n t) ∧ goRE P z ne Q e k t (upd f' n .dead) n') := rfl
theorem go_one {c : Code} : go P z ne Q [.code c] t f n = awp P z ne c Q ⟨t, f, n⟩ := by
  simp only [go, goS]
  congr 1
  funext e s
  cases e <;> rfl
theorem go_rangeFunc {g : Operand} {ps : Array Tmp} {assign body : Code} : go P z ne Q (.code (.rangeFunc g ps assign body) :: k) t f n = goRF P z ne Q (aev t g) ps assign body k t f n := by
  have hr : ∀ r : Loop, Rnd P z n ps.size (cut n t) r assign body ps.toList = RoundA P n ps.size (cut n t) r (fun n => awp P z n assign) (fun n => awp P z n body) ps.toList := by
    intro r
    unfold Rnd RoundA
    simp only [go_one]
    have : ∀ (n1 : Nat) (K : AV → (Nat → BS) → Nat → Prop), rndA P z n (cut n t) r n1 body K = fun e s1 => e = .normal ∧ s1.f n = .obj (.loop r) (cut n t) ∧
      awp P z n1 body (fun e s2 => s2.f n = .obj (.loop (busyL r)) (cut n t) ∧ K (.bool e.goes) (upd s2.f n (.obj (.loop (afterL r e)) (cut n t))) s2.n) ⟨s1.t, upd s1.f n (.obj (.loop (busyL r)) (cut n t)), s1.n⟩ := by
      intro n1 K
      funext e s1
      unfold rndA
      rw [go_one]
      rfl
    simp only [this]
  have he : ∀ (e : AEx) (f' : Nat → BS) (n' : Nat), goRE P z ne Q e k t f' n' = (match e with | .normal => goS P z ne Q k ⟨t, f', n'⟩ | .exit i => goX P z ne Q i k ⟨t, f', n'⟩ | .ret => Q .ret ⟨t, f', n'⟩) := by
    intro e f' n'; cases e <;> rfl
  show awp P z ne (.rangeFunc g ps assign body) (fun e s' => match e with | .normal => goS P z ne Q k s' | .exit i => goX P z ne Q i k s' | .ret => Q .ret s') ⟨t, f, n⟩ = _
  simp only [awp, goRF, hr, he]
  first | done | (generalize aev t g = y; cases y <;> first | rfl | (rename_i fn _ _; cases fn <;> rfl))
end
theorem argT0 : argT [] = fun _ => AV.any := rfl
theorem argT1 (a : AV) : argT [a] = upd (fun _ => .any) 0 a := by
  funext k; unfold argT upd
  match k with
  | 0 => rfl
  | k + 1 => simp
theorem argT2 (a b : AV) : argT [a, b] = upd (upd (fun _ => .any) 0 a) 1 b := by
  funext k; unfold argT upd
  match k with
  | 0 => rfl
  | 1 => rfl
  | k + 2 => simp
theorem argT3 (a b c : AV) : argT [a, b, c] = upd (upd (upd (fun _ => .any) 0 a) 1 b) 2 c := by
  funext k; unfold argT upd
  match k with
  | 0 => rfl
  | 1 => rfl
  | 2 => rfl
  | k + 3 => simp
theorem argT4 (a b c d : AV) : argT [a, b, c, d] = upd (upd (upd (upd (fun _ => .any) 0 a) 1 b) 2 c) 3 d := by
  funext k; unfold argT upd
  match k with
  | 0 => rfl
  | 1 => rfl
  | 2 => rfl
  | 3 => rfl
  | k + 4 => simp
open Go
set_option linter.unusedSimpArgs false
set_option linter.unusedVariables false
attribute [go_sem] retP_ret retP_normal retC_ret retC_normal go_nil go_skip go_label go_ret go_blk go_exit goE_nil goE_same goE_blk goE_code goE_ops goE_lp go_seq go_block go_scope go_region go_regionD go_cond goB_bool go_ops_nil goV_true goV_some goG_true goG_some goCall_c goCall_d goCall_y go_ops_nil' go_rangeFunc goRF_fn goRE_normal goRE_exit goRE_ret rndE_mk rndA_normal goes_normal goes_ret goes_exit goGd_yes goGd_no goGd_tup goGd_bool argT0 argT1 argT2 argT3 argT4
@[go_sem] theorem idn_f (n0 i n : Nat) : idn false n0 i n = n := rfl
@[go_sem] theorem idn_t (n0 i n : Nat) : idn true n0 i n = n0 + i := rfl
@[go_sem] theorem nxt_f (n : Nat) : nxt false n = n + 1 := rfl
@[go_sem] theorem nxt_t (n : Nat) : nxt true n = n := rfl
@[go_sem] theorem dB_at (n : Nat) (f : Nat → BS) (j : Nat) : dB n f j = if j < n then fixB (f j) else f j := rfl
@[go_sem] theorem fixB_fresh : fixB .fresh = .dead := rfl
@[go_sem] theorem fixB_dead : fixB .dead = .dead := rfl
@[go_sem] theorem fixB_live (sz : Nat) (l : List AV) : fixB (.live sz l) = .live sz l := rfl
@[go_sem] theorem fixB_obj (o : Obj) (t : Nat → AV) : fixB (.obj o t) = .obj o t := rfl
attribute [go_sem] putL
@[go_sem] theorem cut_at (n : Nat) (t : Nat → AV) (k : Nat) : cut n t k = cl n (t k) := rfl
@[go_sem] theorem cl_any (n : Nat) : cl n .any = .any := rfl
@[go_sem] theorem cl_bool (n : Nat) (b : Bool) : cl n (.bool b) = .bool b := rfl
@[go_sem] theorem cl_int (n : Nat) (k : IntKind) (m : Int) : cl n (.int k m) = .int k m := rfl
@[go_sem] theorem cl_str (n : Nat) (s : ByteArray) : cl n (.str s) = .str s := rfl
@[go_sem] theorem cl_nilp (n : Nat) : cl n .nilp = .nilp := rfl
@[go_sem] theorem cl_ptr (n id idx off : Nat) : cl n (.ptr id idx off) = if id < n then .ptr id idx off else .any := by
  simp only [cl, cloT]; by_cases h : id < n <;> simp [h]
@[go_sem] theorem cl_own (n sz id off len : Nat) : cl n (.own sz id off len) = if id < n then .own sz id off len else .any := by
  simp only [cl, cloT]; by_cases h : id < n <;> simp [h]
@[go_sem] theorem cl_yld (n id : Nat) : cl n (.yld id) = if id < n then .yld id else .any := by
  simp only [cl, cloT]; by_cases h : id < n <;> simp [h]
@[go_sem] theorem cl_mp (n id : Nat) : cl n (.mp id) = if id < n then .mp id else .any := by
  simp only [cl, cloT]; by_cases h : id < n <;> simp [h]
@[go_sem] theorem cl_agg (n : Nat) (cs : List AV) : cl n (.agg cs) = if cloTL n cs = true then .agg cs else .any := by
  simp only [cl, cloT]; cases cloTL n cs <;> rfl
@[go_sem] theorem cl_sl (n sz : Nat) (tg : Bool) (cs : List AV) : cl n (.sl sz tg cs) = if cloTL n cs = true then .sl sz tg cs else .any := by
  simp only [cl, cloT]; cases cloTL n cs <;> rfl
@[go_sem] theorem cl_rp (n : Nat) (cs : List AV) : cl n (.rp cs) = if cloTL n cs = true then .rp cs else .any := by
  simp only [cl, cloT]; cases cloTL n cs <;> rfl
@[go_sem] theorem cl_tup (n : Nat) (cs : List AV) : cl n (.tup cs) = if cloTL n cs = true then .tup cs else .any := by
  simp only [cl, cloT]; cases cloTL n cs <;> rfl
@[go_sem] theorem cl_fn (n : Nat) (g : Fn) (fs cap : List AV) : cl n (.fn g fs cap) = if (cloTL n fs && cloTL n cap) = true then .fn g fs cap else .any := by
  simp only [cl, cloT]; cases cloTL n fs <;> cases cloTL n cap <;> rfl
attribute [go_sem] cloT cloTL
@[go_sem] theorem upd_lit' {α : Type} (g : Nat → α) (i : Nat) (x : α) (j : Nat) : upd g i x j = if j = i then x else g j := rfl
@[go_sem] theorem aev_tmp (t : Nat → AV) (k : Nat) : aev t (.tmp k) = t k := rfl
@[go_sem] theorem aev_int (t : Nat → AV) (k : IntKind) (n : Int) : aev t (.const (.int k n)) = .int k n := rfl
@[go_sem] theorem aev_bool (t : Nat → AV) (b : Bool) : aev t (.const (.bool b)) = .bool b := rfl
@[go_sem] theorem aev_str (t : Nat → AV) (s : ByteArray) : aev t (.const (.string s)) = .str s := rfl
@[go_sem] theorem aev_nil (t : Nat → AV) : aev t (.const (.slice none 0 0)) = .sl 0 true [] := rfl
@[go_sem] theorem aev_nilp (t : Nat → AV) : aev t (.const (.pointer none)) = .nilp := rfl
@[go_sem] theorem aev_nilf (t : Nat → AV) : aev t (.const .nilFunc) = .any := rfl
@[go_sem] theorem aev_func (t : Nat → AV) (g : FuncId) : aev t (.func g) = .fn (.func g) [] [] := rfl
@[go_sem] theorem putA_some (t : Nat → AV) (d : Nat) (v : AV) : putA t (some d) v = upd t d v := rfl
@[go_sem] theorem putA_none (t : Nat → AV) (v : AV) : putA t none v = t := rfl
def pickA (c a b : AV) : Res := match c with
  | .bool t => some (True, if t then a else b)
  | _ => none
@[go_sem] theorem pickA_true (a b : AV) : pickA (.bool true) a b = some (True, a) := rfl
@[go_sem] theorem pickA_false (a b : AV) : pickA (.bool false) a b = some (True, b) := rfl
def binV (P : Program) (op : BinOp) (t : TypeId) (x y : AV) : Res := match x with
  | .bool a => match tiOf P t with
    | some ti => match ti.kind with
      | .bool => binA op (.bool a) y
      | _ => none
    | none => none
  | .int k a => binA op (.int k a) y
  | .str a => binA op (.str a) y
  | _ => none
@[go_sem] theorem binV_int (P : Program) (op : BinOp) (t : TypeId) (k : IntKind) (a : Int) (y : AV) : binV P op t (.int k a) y = binA op (.int k a) y := rfl
@[go_sem] theorem binV_str (P : Program) (op : BinOp) (t : TypeId) (a : ByteArray) (y : AV) : binV P op t (.str a) y = binA op (.str a) y := rfl
def boolK (x : Option TI) (r : Res) : Res := match x with
  | some ti => match ti.kind with
    | .bool => r
    | _ => none
  | none => none
@[go_sem] theorem boolK_some (a b : Nat) (z : List AV) (r : Res) : boolK (some ⟨a, b, .bool, z⟩) r = r := rfl
@[go_sem] theorem binV_bool (P : Program) (op : BinOp) (t : TypeId) (a : Bool) (y : AV) : binV P op t (.bool a) y = boolK (tiOf P t) (binA op (.bool a) y) := by
  simp only [binV, boolK]
def andI (k : IntKind) (a b : Int) : Int := k.wrap ((BitVec.ofInt k.bits a &&& BitVec.ofInt k.bits b).toNat)
def orI (k : IntKind) (a b : Int) : Int := k.wrap ((BitVec.ofInt k.bits a ||| BitVec.ofInt k.bits b).toNat)
def xorI (k : IntKind) (a b : Int) : Int := k.wrap ((BitVec.ofInt k.bits a ^^^ BitVec.ofInt k.bits b).toNat)
section
variable (k : IntKind) (a b : Int) (k' : IntKind)
@[go_sem] theorem binA_shl : binA .shl (.int k a) (.int k' b) = some (0 ≤ b, .int k (k.wrap (a * 2 ^ (min b.toNat k.bits)))) := rfl
@[go_sem] theorem binA_shr : binA .shr (.int k a) (.int k' b) = some (0 ≤ b, .int k (a.fdiv (2 ^ (min b.toNat k.bits)))) := rfl
@[go_sem] theorem binA_add : binA .add (.int k a) (.int k b) = some (True, .int k (k.wrap (a + b))) := by simp [binA]
@[go_sem] theorem binA_sub : binA .sub (.int k a) (.int k b) = some (True, .int k (k.wrap (a - b))) := by simp [binA]
@[go_sem] theorem binA_mul : binA .mul (.int k a) (.int k b) = some (True, .int k (k.wrap (a * b))) := by simp [binA]
@[go_sem] theorem binA_quo : binA .quo (.int k a) (.int k b) = some (b ≠ 0, .int k (k.wrap (a.tdiv b))) := by simp [binA]
@[go_sem] theorem binA_rem : binA .rem (.int k a) (.int k b) = some (b ≠ 0, .int k (a.tmod b)) := by simp [binA]
@[go_sem] theorem binA_and : binA .and (.int k a) (.int k b) = some (True, .int k (andI k a b)) := by simp [binA, andI]
@[go_sem] theorem binA_or : binA .or (.int k a) (.int k b) = some (True, .int k (orI k a b)) := by simp [binA, orI]
@[go_sem] theorem binA_xor : binA .xor (.int k a) (.int k b) = some (True, .int k (xorI k a b)) := by simp [binA, xorI]
@[go_sem] theorem binA_eql : binA .eql (.int k a) (.int k b) = some (True, .bool (decide (a = b))) := by simp [binA]
@[go_sem] theorem binA_neq : binA .neq (.int k a) (.int k b) = some (True, .bool (!decide (a = b))) := by simp [binA]
@[go_sem] theorem binA_lss : binA .lss (.int k a) (.int k b) = some (True, .bool (decide (a < b))) := by simp [binA]
@[go_sem] theorem binA_leq : binA .leq (.int k a) (.int k b) = some (True, .bool (decide (a ≤ b))) := by simp [binA]
@[go_sem] theorem binA_gtr : binA .gtr (.int k a) (.int k b) = some (True, .bool (decide (a > b))) := by simp [binA]
@[go_sem] theorem binA_geq : binA .geq (.int k a) (.int k b) = some (True, .bool (decide (a ≥ b))) := by simp [binA]
end
@[go_sem] theorem binA_sadd (a b : ByteArray) : binA .add (.str a) (.str b) = some (((a.size + b.size : Nat) : Int) ≤ 9223372036854775807, .str (a ++ b)) := rfl
@[go_sem] theorem binA_seql (a b : ByteArray) : binA .eql (.str a) (.str b) = some (True, .bool (a.toList == b.toList)) := rfl
@[go_sem] theorem binA_sneq (a b : ByteArray) : binA .neq (.str a) (.str b) = some (True, .bool (!(a.toList == b.toList))) := rfl
@[go_sem] theorem binA_beql (a b : Bool) : binA .eql (.bool a) (.bool b) = some (True, .bool (a == b)) := rfl
@[go_sem] theorem binA_bneq (a b : Bool) : binA .neq (.bool a) (.bool b) = some (True, .bool (!(a == b))) := rfl
@[go_sem] theorem unA_not (b : Bool) : unA .not (.bool b) = some (True, .bool (!b)) := rfl
@[go_sem] theorem unA_neg (k : IntKind) (n : Int) : unA .neg (.int k n) = some (True, .int k (k.wrap (0 - n))) := rfl
@[go_sem] theorem unA_xor (k : IntKind) (n : Int) : unA .xor (.int k n) = some (True, .int k (k.wrap ((BitVec.ofInt k.bits (if k.signed then -1 else k.max) ^^^ BitVec.ofInt k.bits n).toNat))) := rfl
@[go_sem] theorem convV_int (P : Program) (f : Nat → BS) (x : TI) (a b : Nat) (k : IntKind) (z : List AV) (k' : IntKind) (n : Int) : convV P f (some x) (some ⟨a, b, .int k, z⟩) (.int k' n) = some (True, .int k (k.wrap n)) := rfl
@[go_sem] theorem convV_sl (P : Program) (f : Nat → BS) (a b : Nat) (e : TypeId) (z : List AV) (a' b' : Nat) (z' : List AV) (sz : Nat) (tg : Bool) (l : List AV) : convV P f (some ⟨a, b, .slice e, z⟩) (some ⟨a', b', .string, z'⟩) (.sl sz tg l) = strV (byteK (tiOf P e)) (some l) (sz = 1) := rfl
@[go_sem] theorem byteK_some (a b : Nat) (z : List AV) : byteK (some ⟨a, b, .int .u8, z⟩) = true := rfl
@[go_sem] theorem u8L_nil : u8L [] = some [] := rfl
@[go_sem] theorem u8L_cons (n : Int) (l : List AV) : u8L (.int .u8 n :: l) = (u8L l).map (n :: ·) := rfl
@[go_sem] theorem strV_some (ns : List Int) (l : List AV) (p : Prop) (h : u8L l = some ns) : strV true (some l) p = some (ns ≠ [] ∧ p, .str (strOf ns)) := by
  simp only [strV, Option.bind_some, h]
def fieldOff (x : Option TI) (i : Nat) : Option (Nat × TypeId) := match x with
  | some ti => match ti.kind with
    | .struct fs => fs[i]?
    | _ => none
  | none => none
@[go_sem] theorem fieldOff_some (a b : Nat) (fs : List (Nat × TypeId)) (z : List AV) (i : Nat) : fieldOff (some ⟨a, b, .struct fs, z⟩) i = fs[i]? := rfl
def faddrV (P : Program) (x : Option (Nat × TypeId)) (v : AV) : Res := match x with
  | some (off, t) => match tiOf P t with
    | some tf => if tf.size = 0 then none else match v with
      | .ptr id idx o => some (True, .ptr id idx (o + off))
      | .rp cs => some (True, .rp (cs.drop off))
      | _ => none
    | none => none
  | none => none
def sizeNz (x : Option TI) (r : Res) : Res := match x with
  | some tf => if tf.size = 0 then none else r
  | none => none
@[go_sem] theorem sizeNz_some (a b : Nat) (kd : TK) (z : List AV) (r : Res) : sizeNz (some ⟨a, b, kd, z⟩) r = if a = 0 then none else r := rfl
@[go_sem] theorem faddrV_ptr (P : Program) (off : Nat) (t : TypeId) (id idx o : Nat) : faddrV P (some (off, t)) (.ptr id idx o) = sizeNz (tiOf P t) (some (True, .ptr id idx (o + off))) := by
  simp only [faddrV, sizeNz]
@[go_sem] theorem faddrV_rp (P : Program) (off : Nat) (t : TypeId) (cs : List AV) : faddrV P (some (off, t)) (.rp cs) = sizeNz (tiOf P t) (some (True, .rp (cs.drop off))) := by
  simp only [faddrV, sizeNz]
def fieldV (P : Program) (x : Option (Nat × TypeId)) (v : AV) : Res := match x with
  | some (off, t) => match tiOf P t, v with
    | some tf, .agg cs => some (off + tf.size ≤ cs.length, pack tf.kind.agg ((cs.drop off).take tf.size))
    | _, _ => none
  | none => none
def partOf (x : Option TI) (off : Nat) (cs : List AV) : Res := match x with
  | some tf => some (off + tf.size ≤ cs.length, pack tf.kind.agg ((cs.drop off).take tf.size))
  | none => none
@[go_sem] theorem partOf_some (a b : Nat) (kd : TK) (z : List AV) (off : Nat) (cs : List AV) : partOf (some ⟨a, b, kd, z⟩) off cs = some (off + a ≤ cs.length, pack kd.agg ((cs.drop off).take a)) := rfl
@[go_sem] theorem fieldV_agg (P : Program) (off : Nat) (t : TypeId) (cs : List AV) : fieldV P (some (off, t)) (.agg cs) = partOf (tiOf P t) off cs := by
  simp only [fieldV, partOf]
  cases tiOf P t <;> rfl
@[go_sem] theorem agg_struct (fs : List (Nat × TypeId)) : (TK.struct fs).agg = true := rfl
@[go_sem] theorem agg_array (n : Nat) (e : TypeId) : (TK.array n e).agg = true := rfl
@[go_sem] theorem agg_int (k : IntKind) : (TK.int k).agg = false := rfl
@[go_sem] theorem agg_bool : TK.bool.agg = false := rfl
@[go_sem] theorem agg_string : TK.string.agg = false := rfl
@[go_sem] theorem agg_slice (e : TypeId) : (TK.slice e).agg = false := rfl
@[go_sem] theorem agg_pointer (e : TypeId) : (TK.pointer e).agg = false := rfl
@[go_sem] theorem agg_func : TK.func.agg = false := rfl
@[go_sem] theorem agg_other : TK.other.agg = false := rfl
@[go_sem] theorem pack_true (cs : List AV) : pack true cs = .agg cs := rfl
@[go_sem] theorem pack_false (c : AV) (cs : List AV) : pack false (c :: cs) = c := rfl
def elemTI (P : Program) (x : Option TI) : Option TI := match x with
  | some ti => match ti.kind with
    | .slice e => tiOf P e
    | _ => none
  | none => none
@[go_sem] theorem elemTI_some (P : Program) (a b : Nat) (e : TypeId) (z : List AV) : elemTI P (some ⟨a, b, .slice e, z⟩) = tiOf P e := rfl
def idxV (P : Program) (ti : Option TI) (x i : AV) : Res :=
  match ti, x, i with
  | some ti, .sl sz _ l, .int _ i => match ti.kind with
    | .slice e => match tiOf P e with
      | some te => if te.size = sz then some (0 ≤ i ∧ i < (l.length : Int), .rp (getE l i).cells) else none
      | none => none
    | _ => none
  | some ti, .own sz id off len, .int _ i => match ti.kind with
    | .slice e => match tiOf P e with
      | some te => if te.size = sz then some (0 ≤ i ∧ i < (len : Int), .ptr id (off + i.toNat) 0) else none
      | none => none
    | _ => none
  | some ti, .ptr id idx off, .int _ i => match ti.kind with
    | .array n e => match tiOf P e with
      | some te => some (0 ≤ i ∧ i < (n : Int), .ptr id idx (off + i.toNat * te.size))
      | none => none
    | _ => none
  | some ti, .rp cs, .int _ i => match ti.kind with
    | .array n e => match tiOf P e with
      | some te => some (0 ≤ i ∧ i < (n : Int), .rp (cs.drop (i.toNat * te.size)))
      | none => none
    | _ => none
  | _, _, _ => none
def szIs (x : Option TI) (sz : Nat) (r : Res) : Res := match x with
  | some te => if te.size = sz then r else none
  | none => none
@[go_sem] theorem szIs_some (a b : Nat) (kd : TK) (z : List AV) (r : Res) : szIs (some ⟨a, b, kd, z⟩) a r = r := by simp [szIs]
def withSz (x : Option TI) (r : Nat → Res) : Res := match x with
  | some te => r te.size
  | none => none
@[go_sem] theorem withSz_some (a b : Nat) (kd : TK) (z : List AV) (r : Nat → Res) : withSz (some ⟨a, b, kd, z⟩) r = r a := rfl
@[go_sem] theorem idxV_sl (P : Program) (a b : Nat) (e : TypeId) (z : List AV) (sz : Nat) (tg : Bool) (l : List AV) (k : IntKind) (i : Int) :
    idxV P (some ⟨a, b, .slice e, z⟩) (.sl sz tg l) (.int k i) = szIs (tiOf P e) sz (some (0 ≤ i ∧ i < (l.length : Int), .rp (getE l i).cells)) := by
  simp only [idxV, szIs]
@[go_sem] theorem idxV_own (P : Program) (a b : Nat) (e : TypeId) (z : List AV) (sz id off len : Nat) (k : IntKind) (i : Int) :
    idxV P (some ⟨a, b, .slice e, z⟩) (.own sz id off len) (.int k i) = szIs (tiOf P e) sz (some (0 ≤ i ∧ i < (len : Int), .ptr id (off + i.toNat) 0)) := by
  simp only [idxV, szIs]
@[go_sem] theorem idxV_ptr (P : Program) (a b m : Nat) (e : TypeId) (z : List AV) (id idx off : Nat) (k : IntKind) (i : Int) :
    idxV P (some ⟨a, b, .array m e, z⟩) (.ptr id idx off) (.int k i) = withSz (tiOf P e) fun s => some (0 ≤ i ∧ i < (m : Int), .ptr id idx (off + i.toNat * s)) := by
  simp only [idxV, withSz]
@[go_sem] theorem idxV_rp (P : Program) (a b m : Nat) (e : TypeId) (z : List AV) (cs : List AV) (k : IntKind) (i : Int) :
    idxV P (some ⟨a, b, .array m e, z⟩) (.rp cs) (.int k i) = withSz (tiOf P e) fun s => some (0 ≤ i ∧ i < (m : Int), .rp (cs.drop (i.toNat * s))) := by
  simp only [idxV, withSz]
def indexV (P : Program) (ti : Option TI) (x i : AV) : Res :=
  match ti, x, i with
  | some ti, .str s, .int _ i => match ti.kind with
    | .string => some (0 ≤ i ∧ i < (s.size : Int), .int .u8 ((s.data.toList.getD i.toNat 0).toNat : Nat))
    | _ => none
  | some ti, .agg cs, .int _ i => match ti.kind with
    | .array n e => match tiOf P e with
      | some te => some (0 ≤ i ∧ i < (n : Int) ∧ i.toNat * te.size + te.size ≤ cs.length, pack te.kind.agg ((cs.drop (i.toNat * te.size)).take te.size))
      | none => none
    | _ => none
  | _, _, _ => none
def by_ (s : ByteArray) : List UInt8 := s.data.toList
def bt (s : ByteArray) (p : Nat) : Nat := ((by_ s).getD p 0).toNat
@[go_sem] theorem indexV_str (P : Program) (a b : Nat) (z : List AV) (s : ByteArray) (k : IntKind) (i : Int) :
    indexV P (some ⟨a, b, .string, z⟩) (.str s) (.int k i) = some (0 ≤ i ∧ i < (s.size : Int), .int .u8 (bt s i.toNat : Nat)) := rfl
def aidx (x : Option TI) (n : Nat) (cs : List AV) (i : Int) : Res := match x with
  | some te => some (0 ≤ i ∧ i < (n : Int) ∧ i.toNat * te.size + te.size ≤ cs.length, pack te.kind.agg ((cs.drop (i.toNat * te.size)).take te.size))
  | none => none
@[go_sem] theorem aidx_some (a b : Nat) (kd : TK) (z : List AV) (n : Nat) (cs : List AV) (i : Int) : aidx (some ⟨a, b, kd, z⟩) n cs i = some (0 ≤ i ∧ i < (n : Int) ∧ i.toNat * a + a ≤ cs.length, pack kd.agg ((cs.drop (i.toNat * a)).take a)) := rfl
@[go_sem] theorem indexV_agg (P : Program) (a b m : Nat) (e : TypeId) (z : List AV) (cs : List AV) (k : IntKind) (i : Int) :
    indexV P (some ⟨a, b, .array m e, z⟩) (.agg cs) (.int k i) = aidx (tiOf P e) m cs i := by
  simp only [indexV, aidx]
def extrV (x : AV) (i : Nat) : Res := match x with
  | .tup cs => some (i < cs.length, cs.getD i .any)
  | _ => none
@[go_sem] theorem extrV_tup (cs : List AV) (i : Nat) : extrV (.tup cs) i = some (i < cs.length, cs.getD i .any) := rfl
def fillV (place : Nat → Option (Nat × Nat)) : List (Nat × AV) → List AV → Option (List AV)
  | [], cs => some cs
  | (i, x) :: r, cs =>
    match place i with
    | none => none
    | some (off, size) => if x.shaped size && decide (off + size ≤ cs.length) then fillV place r (cs.take off ++ x.cells ++ cs.drop (off + size)) else none
theorem fillA_V (place : Nat → Option (Nat × Nat)) (ρ : Operand → AV) : ∀ (l : List (Nat × Operand)) (cs : List AV), fillA place ρ l cs = fillV place (l.map fun p => (p.1, ρ p.2)) cs
  | [], cs => rfl
  | (i, x) :: l, cs => by
    simp only [fillA, List.map_cons, fillV]
    cases place i with
    | none => rfl
    | some q =>
      obtain ⟨off, size⟩ := q
      simp only [fillA_V place ρ l]
def lay1 (p : Option (Nat × Nat)) (x : AV) (cs : List AV) : Option (List AV) := match p with
  | some (off, size) => if x.shaped size && decide (off + size ≤ cs.length) then some (cs.take off ++ x.cells ++ cs.drop (off + size)) else none
  | none => none
def layN (P : Program) (fs : List (Nat × TypeId)) : List (Nat × AV) → Option (List AV) → Option (List AV)
  | [], cs => cs
  | (i, x) :: r, some cs => layN P fs r (lay1 ((fs[i]?).bind fun p => (tiOf P p.2).map fun tf => (p.1, tf.size)) x cs)
  | _ :: _, none => none
theorem layN_fill (P : Program) (fs : List (Nat × TypeId)) : ∀ (l : List (Nat × AV)) (cs : List AV), fillV (fun i => (fs[i]?).bind fun p => (tiOf P p.2).map fun tf => (p.1, tf.size)) l cs = layN P fs l (some cs)
  | [], cs => rfl
  | (i, x) :: l, cs => by
    simp only [fillV, layN, lay1]
    cases (fs[i]?).bind fun p => (tiOf P p.2).map fun tf => (p.1, tf.size) with
    | none => cases l <;> rfl
    | some q =>
      obtain ⟨off, size⟩ := q
      simp only
      split
      · exact layN_fill P fs l _
      · cases l <;> rfl
@[go_sem] theorem layN_nil (P : Program) (fs : List (Nat × TypeId)) (cs : List AV) : layN P fs [] (some cs) = some cs := rfl
@[go_sem] theorem layN_cons (P : Program) (fs : List (Nat × TypeId)) (i : Nat) (x : AV) (r : List (Nat × AV)) (cs : List AV) : layN P fs ((i, x) :: r) (some cs) = layN P fs r (lay1 ((fs[i]?).bind fun p => (tiOf P p.2).map fun tf => (p.1, tf.size)) x cs) := rfl
@[go_sem] theorem lay1_some (off size : Nat) (x : AV) (cs : List AV) : lay1 (some (off, size)) x cs = if x.shaped size && decide (off + size ≤ cs.length) then some (cs.take off ++ x.cells ++ cs.drop (off + size)) else none := rfl
def buildV (P : Program) (x : Option TI) (parts : List (Nat × AV)) : Res := match x with
  | some ti => match ti.kind with
    | .struct fs => (layN P fs parts (some ti.zero)).map fun cs => (True, .agg cs)
    | .array _ e => match tiOf P e with
      | some te => (fillV (fun i => some (i * te.size, te.size)) parts ti.zero).map fun cs => (True, .agg cs)
      | none => none
    | _ => none
  | none => none
@[go_sem] theorem buildV_struct (P : Program) (a b : Nat) (fs : List (Nat × TypeId)) (z : List AV) (parts : List (Nat × AV)) : buildV P (some ⟨a, b, .struct fs, z⟩) parts = (layN P fs parts (some z)).map fun cs => (True, .agg cs) := rfl
@[go_sem] theorem shaped_agg (cs : List AV) (n : Nat) : (AV.agg cs).shaped n = (cs.length == n) := rfl
@[go_sem] theorem shaped_bool (b : Bool) (n : Nat) : (AV.bool b).shaped n = (n == 1) := by simp [AV.shaped, AV.sca]
@[go_sem] theorem shaped_int (k : IntKind) (m : Int) (n : Nat) : (AV.int k m).shaped n = (n == 1) := by simp [AV.shaped, AV.sca]
@[go_sem] theorem shaped_str (s : ByteArray) (n : Nat) : (AV.str s).shaped n = (n == 1) := by simp [AV.shaped, AV.sca]
@[go_sem] theorem shaped_sl (a : Nat) (b : Bool) (l : List AV) (n : Nat) : (AV.sl a b l).shaped n = (n == 1) := by simp [AV.shaped, AV.sca]
@[go_sem] theorem shaped_own (a b c d : Nat) (n : Nat) : (AV.own a b c d).shaped n = (n == 1) := by simp [AV.shaped, AV.sca]
@[go_sem] theorem shaped_ptr (a b c : Nat) (n : Nat) : (AV.ptr a b c).shaped n = (n == 1) := by simp [AV.shaped, AV.sca]
@[go_sem] theorem shaped_rp (cs : List AV) (n : Nat) : (AV.rp cs).shaped n = (n == 1) := by simp [AV.shaped, AV.sca]
@[go_sem] theorem shaped_fn (g : Fn) (a b : List AV) (n : Nat) : (AV.fn g a b).shaped n = (n == 1) := by simp [AV.shaped, AV.sca]
@[go_sem] theorem shaped_nilp (n : Nat) : (AV.nilp).shaped n = (n == 1) := by simp [AV.shaped, AV.sca]
@[go_sem] theorem cells_agg (cs : List AV) : (AV.agg cs).cells = cs := rfl
@[go_sem] theorem cells_bool (b : Bool) : (AV.bool b).cells = [.bool b] := rfl
@[go_sem] theorem cells_int (k : IntKind) (m : Int) : (AV.int k m).cells = [.int k m] := rfl
@[go_sem] theorem cells_str (s : ByteArray) : (AV.str s).cells = [.str s] := rfl
@[go_sem] theorem cells_sl (a : Nat) (b : Bool) (l : List AV) : (AV.sl a b l).cells = [.sl a b l] := rfl
@[go_sem] theorem cells_own (a b c d : Nat) : (AV.own a b c d).cells = [.own a b c d] := rfl
@[go_sem] theorem cells_ptr (a b c : Nat) : (AV.ptr a b c).cells = [.ptr a b c] := rfl
@[go_sem] theorem cells_rp (cs : List AV) : (AV.rp cs).cells = [.rp cs] := rfl
@[go_sem] theorem cells_fn (g : Fn) (a b : List AV) : (AV.fn g a b).cells = [.fn g a b] := rfl
@[go_sem] theorem cells_nilp : (AV.nilp).cells = [.nilp] := rfl
@[go_sem] theorem cells_any : (AV.any).cells = [.any] := rfl
@[go_sem] theorem lay_agg (cs : List AV) (off : Nat) (new : List AV) : (AV.agg cs).lay off new = .agg (cs.take off ++ new ++ cs.drop (off + new.length)) := rfl
@[go_sem] theorem lay_bool (b : Bool) (off : Nat) (v : AV) : (AV.bool b).lay off [v] = v := rfl
@[go_sem] theorem lay_int (k : IntKind) (m : Int) (off : Nat) (v : AV) : (AV.int k m).lay off [v] = v := rfl
@[go_sem] theorem lay_str (s : ByteArray) (off : Nat) (v : AV) : (AV.str s).lay off [v] = v := rfl
@[go_sem] theorem lay_sl (a : Nat) (b : Bool) (l : List AV) (off : Nat) (v : AV) : (AV.sl a b l).lay off [v] = v := rfl
@[go_sem] theorem lay_own (a b c d : Nat) (off : Nat) (v : AV) : (AV.own a b c d).lay off [v] = v := rfl
@[go_sem] theorem lay_ptr (a b c : Nat) (off : Nat) (v : AV) : (AV.ptr a b c).lay off [v] = v := rfl
@[go_sem] theorem lay_rp (cs : List AV) (off : Nat) (v : AV) : (AV.rp cs).lay off [v] = v := rfl
@[go_sem] theorem lay_fn (g : Fn) (a b : List AV) (off : Nat) (v : AV) : (AV.fn g a b).lay off [v] = v := rfl
@[go_sem] theorem lay_nilp (off : Nat) (v : AV) : (AV.nilp).lay off [v] = v := rfl
def nilckV (x : AV) : Res := match x with
  | .ptr id idx off => some (True, .ptr id idx off)
  | .rp cs => some (True, .rp cs)
  | _ => none
@[go_sem] theorem nilckV_ptr (id idx off : Nat) : nilckV (.ptr id idx off) = some (True, .ptr id idx off) := rfl
@[go_sem] theorem nilckV_rp (cs : List AV) : nilckV (.rp cs) = some (True, .rp cs) := rfl
def bndV : Option AV → Option (Option Int)
  | none => some none
  | some (.int _ n) => some (some n)
  | _ => none
@[go_sem] theorem bndV_none : bndV none = some none := rfl
@[go_sem] theorem bndV_int (k : IntKind) (n : Int) : bndV (some (.int k n)) = some (some n) := rfl
def slV (P : Program) (x : Option TI) (v : AV) (lo hi mx : Option (Option Int)) : Res :=
  match x, lo, hi, mx with
  | some ti, some lo, some hi, some mx => match ti.kind, v with
    | .slice e, .sl sz tight l => match tiOf P e with
      | some te => if te.size = sz ∨ l = [] then (if mx.isSome && hi.isNone then none else sliceA (.sl sz tight l) lo hi mx) else none
      | none => none
    | .slice e, .own sz id off len => match tiOf P e with
      | some te => if te.size = sz then (if mx.isSome && hi.isNone then none else sliceA (.own sz id off len) lo hi mx) else none
      | none => none
    | .string, .str s => sliceA (.str s) lo hi mx
    | _, _ => none
  | _, _, _, _ => none
def szOr (x : Option TI) (sz : Nat) (l : List AV) (r : Res) : Res := match x with
  | some te => if te.size = sz ∨ l = [] then r else none
  | none => none
@[go_sem] theorem szOr_some (a b : Nat) (kd : TK) (z : List AV) (l : List AV) (r : Res) : szOr (some ⟨a, b, kd, z⟩) a l r = r := by simp [szOr]
@[go_sem] theorem szOr_nil (a b : Nat) (kd : TK) (z : List AV) (sz : Nat) (r : Res) : szOr (some ⟨a, b, kd, z⟩) sz [] r = r := by simp [szOr]
@[go_sem] theorem slV_sl (P : Program) (a b : Nat) (e : TypeId) (z : List AV) (sz : Nat) (tg : Bool) (l : List AV) (lo hi mx : Option Int) :
    slV P (some ⟨a, b, .slice e, z⟩) (.sl sz tg l) (some lo) (some hi) (some mx) = szOr (tiOf P e) sz l (if mx.isSome && hi.isNone then none else sliceA (.sl sz tg l) lo hi mx) := by
  simp only [slV, szOr]
@[go_sem] theorem slV_own (P : Program) (a b : Nat) (e : TypeId) (z : List AV) (sz id off len : Nat) (lo hi mx : Option Int) :
    slV P (some ⟨a, b, .slice e, z⟩) (.own sz id off len) (some lo) (some hi) (some mx) = szIs (tiOf P e) sz (if mx.isSome && hi.isNone then none else sliceA (.own sz id off len) lo hi mx) := by
  simp only [slV, szIs]
@[go_sem] theorem slV_str (P : Program) (a b : Nat) (z : List AV) (s : ByteArray) (lo hi mx : Option Int) : slV P (some ⟨a, b, .string, z⟩) (.str s) (some lo) (some hi) (some mx) = sliceA (.str s) lo hi mx := rfl
attribute [go_sem] sliceA mxOk
def lenV (x : Option TI) (v : AV) : Res := match x, v with
  | some ti, .str s => match ti.kind with
    | .string => some (True, .int .i64 s.size)
    | _ => none
  | some ti, .sl _ _ l => match ti.kind with
    | .slice _ => some (True, .int .i64 l.length)
    | _ => none
  | some ti, .own _ _ _ len => match ti.kind with
    | .slice _ => some (True, .int .i64 len)
    | _ => none
  | some ti, _ => match ti.kind with
    | .array n _ => some (True, .int .i64 n)
    | _ => none
  | _, _ => none
@[go_sem] theorem lenV_str (a b : Nat) (z : List AV) (s : ByteArray) : lenV (some ⟨a, b, .string, z⟩) (.str s) = some (True, .int .i64 s.size) := rfl
@[go_sem] theorem lenV_sl (a b : Nat) (e : TypeId) (z : List AV) (sz : Nat) (tg : Bool) (l : List AV) : lenV (some ⟨a, b, .slice e, z⟩) (.sl sz tg l) = some (True, .int .i64 l.length) := rfl
@[go_sem] theorem lenV_own (a b : Nat) (e : TypeId) (z : List AV) (sz id off len : Nat) : lenV (some ⟨a, b, .slice e, z⟩) (.own sz id off len) = some (True, .int .i64 len) := rfl
def maxV (x y : AV) : Res := match x, y with
  | .int k a, .int _ b => some (True, .int k (if b > a then b else a))
  | _, _ => none
def minV (x y : AV) : Res := match x, y with
  | .int k a, .int _ b => some (True, .int k (if b < a then b else a))
  | _, _ => none
@[go_sem] theorem maxV_int (k : IntKind) (a : Int) (k' : IntKind) (b : Int) : maxV (.int k a) (.int k' b) = some (True, .int k (if b > a then b else a)) := rfl
@[go_sem] theorem minV_int (k : IntKind) (a : Int) (k' : IntKind) (b : Int) : minV (.int k a) (.int k' b) = some (True, .int k (if b < a then b else a)) := rfl
def loadV (x : Option TI) (f : Nat → BS) (v : AV) : Res := match x, v with
  | some ti, .rp cs => some (ti.size ≤ cs.length ∧ (ti.kind.agg = true ∨ 0 < cs.length), pack ti.kind.agg (if ti.kind.agg then cs.take ti.size else cs))
  | some ti, .ptr id idx off => match f id with
    | .live _ l => let cs := (l.getD idx .any).cells.drop off
      some (idx < l.length ∧ ti.size ≤ cs.length ∧ (ti.kind.agg = true ∨ 0 < cs.length), pack ti.kind.agg (if ti.kind.agg then cs.take ti.size else cs))
    | _ => none
  | _, _ => none
def loadC (a : Nat) (g : Bool) (cs : List AV) : Res := some (a ≤ cs.length ∧ (g = true ∨ 0 < cs.length), pack g (if g then cs.take a else cs))
def loadL (a : Nat) (g : Bool) (b : BS) (idx off : Nat) : Res := match b with
  | .live _ l => some (idx < l.length ∧ a ≤ ((l.getD idx .any).cells.drop off).length ∧ (g = true ∨ 0 < ((l.getD idx .any).cells.drop off).length), pack g (if g then ((l.getD idx .any).cells.drop off).take a else (l.getD idx .any).cells.drop off))
  | _ => none
@[go_sem] theorem loadV_rp (a b : Nat) (kd : TK) (z : List AV) (f : Nat → BS) (cs : List AV) : loadV (some ⟨a, b, kd, z⟩) f (.rp cs) = loadC a kd.agg cs := rfl
@[go_sem] theorem loadV_ptr (a b : Nat) (kd : TK) (z : List AV) (f : Nat → BS) (id idx off : Nat) : loadV (some ⟨a, b, kd, z⟩) f (.ptr id idx off) = loadL a kd.agg (f id) idx off := by
  simp only [loadV, loadL]
@[go_sem] theorem loadC_agg (a : Nat) (cs : List AV) : loadC a true cs = some (a ≤ cs.length, .agg (cs.take a)) := by simp [loadC, pack]
@[go_sem] theorem loadC_one (c : AV) (cs : List AV) : loadC 1 false (c :: cs) = some (True, c) := by simp [loadC, pack]
@[go_sem] theorem loadL_agg (a sz : Nat) (l : List AV) (idx off : Nat) : loadL a true (.live sz l) idx off = some (idx < l.length ∧ a ≤ ((l.getD idx .any).cells.drop off).length, .agg (((l.getD idx .any).cells.drop off).take a)) := by simp [loadL, pack]
@[go_sem] theorem loadL_one (sz : Nat) (l : List AV) (idx off : Nat) : loadL 1 false (.live sz l) idx off = some (idx < l.length ∧ 0 < ((l.getD idx .any).cells.drop off).length, ((l.getD idx .any).cells.drop off).headD .any) := by
  simp only [loadL, pack, Bool.false_eq_true, if_false, false_or]
  congr 2
  simp only [eq_iff_iff]
  omega
def boxV (x : Option TI) (id : Nat) (v : AV) : Option (Prop × AV × BS) := x.bind fun ti => if v.shaped ti.size then some (True, .ptr id 0 0, .live ti.size [v]) else none
@[go_sem] theorem boxV_some (a b : Nat) (kd : TK) (z : List AV) (id : Nat) (v : AV) : boxV (some ⟨a, b, kd, z⟩) id v = if v.shaped a then some (True, .ptr id 0 0, .live a [v]) else none := rfl
def allocV (x : Option TI) (id : Nat) : Option (Prop × AV × BS) := x.map fun ti => (True, .ptr id 0 0, .live ti.size [ti.zval])
@[go_sem] theorem allocV_some (a b : Nat) (kd : TK) (z : List AV) (id : Nat) : allocV (some ⟨a, b, kd, z⟩) id = some (True, .ptr id 0 0, .live a [pack kd.agg z]) := rfl
def bslV (P : Program) (x : Option TI) (id len : Nat) (idxs : List Nat) (vs : List AV) : Option (Prop × AV × BS) := match elemTI P x with
  | some te => if idxs = List.range len ∧ (vs.all fun v => v.shaped te.size) = true ∧ len * te.size ≤ 16777216 then some (True, .own te.size id 0 len, .live te.size vs) else none
  | none => none
def bslE (x : Option TI) (id len : Nat) (idxs : List Nat) (vs : List AV) : Option (Prop × AV × BS) := match x with
  | some te => if idxs = List.range len ∧ (vs.all fun v => v.shaped te.size) = true ∧ len * te.size ≤ 16777216 then some (True, .own te.size id 0 len, .live te.size vs) else none
  | none => none
@[go_sem] theorem bslV_some (P : Program) (a b : Nat) (e : TypeId) (z : List AV) (id len : Nat) (idxs : List Nat) (vs : List AV) : bslV P (some ⟨a, b, .slice e, z⟩) id len idxs vs = bslE (tiOf P e) id len idxs vs := rfl
@[go_sem] theorem bslE_some (a b : Nat) (kd : TK) (z : List AV) (id len : Nat) (idxs : List Nat) (vs : List AV) : bslE (some ⟨a, b, kd, z⟩) id len idxs vs = if idxs = List.range len ∧ (vs.all fun v => v.shaped a) = true ∧ len * a ≤ 16777216 then some (True, .own a id 0 len, .live a vs) else none := rfl
def mkV (P : Program) (x : Option TI) (id : Nat) (l c : AV) : Option (Prop × AV × BS) := match x, l, c with
  | some ti, .int _ n, .int _ m => match ti.kind with
    | .slice e => match tiOf P e with
      | some te => some (0 ≤ n ∧ n ≤ m ∧ (te.bytes : Int) * m ≤ 281474976710656 ∧ m ≤ 9223372036854775807, .own te.size id 0 n.toNat, .live te.size (List.replicate n.toNat te.zval))
      | none => none
    | _ => none
  | _, _, _ => none
def mkE (x : Option TI) (id : Nat) (n m : Int) : Option (Prop × AV × BS) := match x with
  | some te => some (0 ≤ n ∧ n ≤ m ∧ (te.bytes : Int) * m ≤ 281474976710656 ∧ m ≤ 9223372036854775807, .own te.size id 0 n.toNat, .live te.size (List.replicate n.toNat te.zval))
  | none => none
@[go_sem] theorem mkV_some (P : Program) (a b : Nat) (e : TypeId) (z : List AV) (id : Nat) (k k' : IntKind) (n m : Int) : mkV P (some ⟨a, b, .slice e, z⟩) id (.int k n) (.int k' m) = mkE (tiOf P e) id n m := by
  simp only [mkV, mkE]
@[go_sem] theorem mkE_some (a b : Nat) (kd : TK) (z : List AV) (id : Nat) (n m : Int) : mkE (some ⟨a, b, kd, z⟩) id n m = some (0 ≤ n ∧ n ≤ m ∧ (b : Int) * m ≤ 281474976710656 ∧ m ≤ 9223372036854775807, .own a id 0 n.toNat, .live a (List.replicate n.toNat (pack kd.agg z))) := rfl
def calV (x : AV) (args : List AV) : Option (FuncId × List AV) := match x with
  | .fn (.func g) fs cap => some (g, fs ++ args ++ cap)
  | _ => none
def yldV (x : AV) : Option Nat := match x with
  | .yld id => some id
  | _ => none
@[go_sem] theorem yldV_yld (id : Nat) : yldV (.yld id) = some id := rfl
@[go_sem] theorem calV_yld (id : Nat) (args : List AV) : calV (.yld id) args = none := rfl
@[go_sem] theorem calV_fn (g : FuncId) (fs cap args : List AV) : calV (.fn (.func g) fs cap) args = some (g, fs ++ args ++ cap) := rfl
section
variable {P : Program} {zm : Bool} {ne : Nat} {Q : AEx → St → Prop} {k : List Itm} {t : Nat → AV} {f : Nat → BS} {n : Nat}
def goSt (P : Program) (zm : Bool) (ne : Nat) (Q : AEx → St → Prop) (ti : Option TI) (b : BS) (i idx off : Nat) (v : AV) (d : Option Tmp) (k : List Itm) (t : Nat → AV) (f : Nat → BS) (n : Nat) : Prop :=
  match ti, b with
  | some ti, .live sz l => v.shaped ti.size = true ∧ idx < l.length ∧ off + ti.size ≤ (l.getD idx .any).cells.length ∧ 0 < ti.size ∧ go P zm ne Q k (putA t d .any) (upd f i (.live sz (l.set idx ((l.getD idx .any).lay off v.cells)))) n
  | _, _ => False
@[go_sem] theorem goSt_some {a b : Nat} {kd : TK} {z : List AV} {sz : Nat} {l : List AV} {i idx off : Nat} {v : AV} {d : Option Tmp} :
    goSt P zm ne Q (some ⟨a, b, kd, z⟩) (.live sz l) i idx off v d k t f n = (v.shaped a = true ∧ idx < l.length ∧ off + a ≤ (l.getD idx .any).cells.length ∧ 0 < a ∧ go P zm ne Q k (putA t d .any) (upd f i (.live sz (l.set idx ((l.getD idx .any).lay off v.cells)))) n) := rfl
def goSp (P : Program) (zm : Bool) (ne : Nat) (Q : AEx → St → Prop) (ti : Option TI) (x v : AV) (d : Option Tmp) (k : List Itm) (t : Nat → AV) (f : Nat → BS) (n : Nat) : Prop :=
  match x with
  | .ptr i idx off => goSt P zm ne Q ti (f i) i idx off v d k t f n
  | _ => False
@[go_sem] theorem goSp_ptr {ti : Option TI} {i idx off : Nat} {v : AV} {d : Option Tmp} : goSp P zm ne Q ti (.ptr i idx off) v d k t f n = goSt P zm ne Q ti (f i) i idx off v d k t f n := rfl
def goAp (P : Program) (zm : Bool) (ne : Nat) (Q : AEx → St → Prop) (id : Nat) (te : Option TI) (x y : AV) (d : Option Tmp) (k : List Itm) (t : Nat → AV) (f : Nat → BS) (n : Nat) : Prop :=
  match te, x, elemsA f y with
  | some te, .own sz i off len, some new => match f i with
    | .live _ l => (te.size = sz ∧ (szA y = sz ∨ new = []) ∧ 0 < sz ∧ 0 < te.bytes) ∧ fitsA f y ∧ off + len ≤ l.length ∧ ((len + new.length : Nat) : Int) * te.bytes ≤ 70368744177664 ∧
        go P zm ne Q k (putA t d (.own sz id 0 (len + new.length))) (upd (upd f i .dead) id (.live sz ((l.drop off).take len ++ new))) n
    | _ => False
  | some te, .sl sz tight l, some new =>
    tight = true ∧ ((te.size = sz ∨ l = []) ∧ (szA y = te.size ∨ new = []) ∧ 0 < te.size ∧ 0 < te.bytes ∧ (l = [] ∨ new ≠ [])) ∧ fitsA f y ∧ ((l.length + new.length : Nat) : Int) * te.bytes ≤ 70368744177664 ∧
        go P zm ne Q k (putA t d (.own te.size id 0 (l.length + new.length))) (upd f id (.live te.size (l ++ new))) n
  | _, _, _ => False
def goApO (P : Program) (zm : Bool) (ne : Nat) (Q : AEx → St → Prop) (id i off len sz a b : Nat) (blk : BS) (y : AV) (new : List AV) (d : Option Tmp) (k : List Itm) (t : Nat → AV) (f : Nat → BS) (n : Nat) : Prop :=
  match blk with
  | .live _ l => (a = sz ∧ (szA y = sz ∨ new = []) ∧ 0 < sz ∧ 0 < b) ∧ fitsA f y ∧ off + len ≤ l.length ∧ ((len + new.length : Nat) : Int) * b ≤ 70368744177664 ∧
        go P zm ne Q k (putA t d (.own sz id 0 (len + new.length))) (upd (upd f i .dead) id (.live sz ((l.drop off).take len ++ new))) n
  | _ => False
@[go_sem] theorem goApO_live {id i off len sz a b s' : Nat} {l : List AV} {y : AV} {new : List AV} {d : Option Tmp} : goApO P zm ne Q id i off len sz a b (.live s' l) y new d k t f n = ((a = sz ∧ (szA y = sz ∨ new = []) ∧ 0 < sz ∧ 0 < b) ∧ fitsA f y ∧ off + len ≤ l.length ∧ ((len + new.length : Nat) : Int) * b ≤ 70368744177664 ∧
        go P zm ne Q k (putA t d (.own sz id 0 (len + new.length))) (upd (upd f i .dead) id (.live sz ((l.drop off).take len ++ new))) n) := rfl
def goApS (P : Program) (zm : Bool) (ne : Nat) (Q : AEx → St → Prop) (id : Nat) (te : Option TI) (x y : AV) (src : Option (List AV)) (d : Option Tmp) (k : List Itm) (t : Nat → AV) (f : Nat → BS) (n : Nat) : Prop :=
  match te, x, src with
  | some te, .own sz i off len, some new => goApO P zm ne Q id i off len sz te.size te.bytes (f i) y new d k t f n
  | some te, .sl sz tight l, some new =>
    tight = true ∧ ((te.size = sz ∨ l = []) ∧ (szA y = te.size ∨ new = []) ∧ 0 < te.size ∧ 0 < te.bytes ∧ (l = [] ∨ new ≠ [])) ∧ fitsA f y ∧ ((l.length + new.length : Nat) : Int) * te.bytes ≤ 70368744177664 ∧
        go P zm ne Q k (putA t d (.own te.size id 0 (l.length + new.length))) (upd f id (.live te.size (l ++ new))) n
  | _, _, _ => False
theorem goAp_S {id : Nat} {te : Option TI} {x y : AV} {d : Option Tmp} : goAp P zm ne Q id te x y d k t f n = goApS P zm ne Q id te x y (elemsA f y) d k t f n := by
  unfold goAp goApS
  cases te <;> cases x <;> cases elemsA f y <;> simp only [goApO]
@[go_sem] theorem goApS_own {id : Nat} {a b : Nat} {kd : TK} {z : List AV} {sz i off len : Nat} {y : AV} {new : List AV} {d : Option Tmp} :
    goApS P zm ne Q id (some ⟨a, b, kd, z⟩) (.own sz i off len) y (some new) d k t f n = goApO P zm ne Q id i off len sz a b (f i) y new d k t f n := rfl
@[go_sem] theorem goApS_sl {id : Nat} {a b : Nat} {kd : TK} {z : List AV} {sz : Nat} {tg : Bool} {l : List AV} {y : AV} {new : List AV} {d : Option Tmp} :
    goApS P zm ne Q id (some ⟨a, b, kd, z⟩) (.sl sz tg l) y (some new) d k t f n = (tg = true ∧ ((a = sz ∨ l = []) ∧ (szA y = a ∨ new = []) ∧ 0 < a ∧ 0 < b ∧ (l = [] ∨ new ≠ [])) ∧ fitsA f y ∧ ((l.length + new.length : Nat) : Int) * b ≤ 70368744177664 ∧
        go P zm ne Q k (putA t d (.own a id 0 (l.length + new.length))) (upd f id (.live a (l ++ new))) n) := rfl
def elemsB (b : BS) (off len : Nat) : Option (List AV) := match b with
  | .live _ l => some ((l.drop off).take len)
  | _ => none
@[go_sem] theorem elemsA_sl (sz : Nat) (tg : Bool) (l : List AV) : elemsA f (.sl sz tg l) = some l := rfl
@[go_sem] theorem elemsA_own (sz id off len : Nat) : elemsA f (.own sz id off len) = elemsB (f id) off len := rfl
@[go_sem] theorem elemsB_live (sz off len : Nat) (l : List AV) : elemsB (.live sz l) off len = some ((l.drop off).take len) := rfl
def fitsB (b : BS) (off len : Nat) : Prop := match b with
  | .live _ l => off + len ≤ l.length
  | _ => False
@[go_sem] theorem fitsA_sl (sz : Nat) (tg : Bool) (l : List AV) : fitsA f (.sl sz tg l) = True := rfl
@[go_sem] theorem fitsA_own (sz id off len : Nat) : fitsA f (.own sz id off len) = fitsB (f id) off len := rfl
@[go_sem] theorem fitsB_live (sz off len : Nat) (l : List AV) : fitsB (.live sz l) off len = (off + len ≤ l.length) := rfl
@[go_sem] theorem convV_own (P : Program) (f : Nat → BS) (a b : Nat) (e : TypeId) (z : List AV) (a' b' : Nat) (z' : List AV) (sz id off len : Nat) : convV P f (some ⟨a, b, .slice e, z⟩) (some ⟨a', b', .string, z'⟩) (.own sz id off len) = strV (byteK (tiOf P e)) (elemsB (f id) off len) (sz = 1 ∧ fitsB (f id) off len) := rfl
@[go_sem] theorem szA_sl (sz : Nat) (tg : Bool) (l : List AV) : szA (.sl sz tg l) = sz := rfl
@[go_sem] theorem szA_own (sz id off len : Nat) : szA (.own sz id off len) = sz := rfl
variable {yl q : Bool} {O : Array Oper} {n0 i : Nat} {r : List Oper} {d : Option Tmp} {ty : TypeId} {pos : String} {after : Array Edge}
@[go_sem] theorem go_move {x : Operand} : go P zm ne Q (.ops yl q O n0 i (⟨d, .move x, ty, pos, after, none⟩ :: r) :: k) t f n = go P zm ne Q (.ops yl q O n0 (i + 1) r :: k) (putA t d (aev t x)) f n := by rw [go_v rfl]; simp only [vop, goV_true]
@[go_sem] theorem go_assign {x : Operand} : go P zm ne Q (.ops yl q O n0 i (⟨d, .assign x, ty, pos, after, none⟩ :: r) :: k) t f n = go P zm ne Q (.ops yl q O n0 (i + 1) r :: k) (putA t d (aev t x)) f n := by rw [go_v rfl]; simp only [vop, goV_true]
@[go_sem] theorem go_pick {a b c : Operand} : go P zm ne Q (.ops yl q O n0 i (⟨d, .pick c a b, ty, pos, after, none⟩ :: r) :: k) t f n = goV P zm ne Q (pickA (aev t c) (aev t a) (aev t b)) d (.ops yl q O n0 (i + 1) r :: k) t f n := by rw [go_v rfl]; rfl
@[go_sem] theorem go_unOp {op : UnOp} {ty' : TypeId} {x : Operand} : go P zm ne Q (.ops yl q O n0 i (⟨d, .unOp op ty' x, ty, pos, after, none⟩ :: r) :: k) t f n = goV P zm ne Q (unA op (aev t x)) d (.ops yl q O n0 (i + 1) r :: k) t f n := by rw [go_v rfl]; rfl
@[go_sem] theorem go_binOp_t {op : BinOp} {ty' ty2 : TypeId} {x : Operand} {y : Tmp} : go P zm ne Q (.ops yl q O n0 i (⟨d, .binOp op ty' x (.tmp y) ty2, ty, pos, after, none⟩ :: r) :: k) t f n = goV P zm ne Q (binV P op ty' (aev t x) (aev t (.tmp y))) d (.ops yl q O n0 (i + 1) r :: k) t f n := by rw [go_v rfl]; rfl
@[go_sem] theorem go_binOp_i {op : BinOp} {ty' ty2 : TypeId} {x : Operand} {kk : IntKind} {y : Int} : go P zm ne Q (.ops yl q O n0 i (⟨d, .binOp op ty' x (.const (.int kk y)) ty2, ty, pos, after, none⟩ :: r) :: k) t f n = goV P zm ne Q (binV P op ty' (aev t x) (aev t (.const (.int kk y)))) d (.ops yl q O n0 (i + 1) r :: k) t f n := by rw [go_v rfl]; rfl
@[go_sem] theorem go_binOp_b {op : BinOp} {ty' ty2 : TypeId} {x : Operand} {y : Bool} : go P zm ne Q (.ops yl q O n0 i (⟨d, .binOp op ty' x (.const (.bool y)) ty2, ty, pos, after, none⟩ :: r) :: k) t f n = goV P zm ne Q (binV P op ty' (aev t x) (aev t (.const (.bool y)))) d (.ops yl q O n0 (i + 1) r :: k) t f n := by rw [go_v rfl]; rfl
@[go_sem] theorem go_binOp_s {op : BinOp} {ty' ty2 : TypeId} {x : Operand} {y : ByteArray} : go P zm ne Q (.ops yl q O n0 i (⟨d, .binOp op ty' x (.const (.string y)) ty2, ty, pos, after, none⟩ :: r) :: k) t f n = goV P zm ne Q (binV P op ty' (aev t x) (aev t (.const (.string y)))) d (.ops yl q O n0 (i + 1) r :: k) t f n := by rw [go_v rfl]; rfl
def nopV (op : BinOp) (x : Option TI) (v : AV) (K : AV → Prop) : Prop := match sliceT x, lenOf v with
  | true, some len => nilQ op len K
  | _, _ => False
@[go_sem] theorem nopV_sl (op : BinOp) (a b : Nat) (e : TypeId) (z : List AV) (sz : Nat) (tg : Bool) (l : List AV) (K : AV → Prop) : nopV op (some ⟨a, b, .slice e, z⟩) (.sl sz tg l) K = nilQ op l.length K := rfl
@[go_sem] theorem nopV_own (op : BinOp) (a b : Nat) (e : TypeId) (z : List AV) (sz id off len : Nat) (K : AV → Prop) : nopV op (some ⟨a, b, .slice e, z⟩) (.own sz id off len) K = nilQ op len K := rfl
@[go_sem] theorem nilQ_eql (len : Nat) (K : AV → Prop) : nilQ .eql len K = ((len = 0 → K (.bool true)) ∧ K (.bool false)) := rfl
@[go_sem] theorem nilQ_neq (len : Nat) (K : AV → Prop) : nilQ .neq len K = ((len = 0 → K (.bool false)) ∧ K (.bool true)) := rfl
@[go_sem] theorem go_nilq {op : BinOp} {ty' ty2 : TypeId} {x : Operand} : go P zm ne Q (.ops yl false O n0 i (⟨d, .binOp op ty' x (.const (.slice none 0 0)) ty2, ty, pos, after, none⟩ :: r) :: k) t f n =
    nopV op (tiOf P ty') (aev t x) (fun v => go P zm ne Q (.ops yl false O n0 (i + 1) r :: k) (putA t d v) f n) := by
  rw [go_nq rfl]; rfl
@[go_sem] theorem go_convert {a b : TypeId} {x : Operand} : go P zm ne Q (.ops yl q O n0 i (⟨d, .convert a b x, ty, pos, after, none⟩ :: r) :: k) t f n = goV P zm ne Q (convV P (fz (hdB yl q O n0 i) f) (tiOf P a) (tiOf P b) (aev t x)) d (.ops yl q O n0 (i + 1) r :: k) t f n := by rw [go_r rfl]; rfl
@[go_sem] theorem go_makeFunc {fn : Fn} {a b : Array Operand} : go P zm ne Q (.ops yl q O n0 i (⟨d, .makeFunc fn a b, ty, pos, after, none⟩ :: r) :: k) t f n = go P zm ne Q (.ops yl q O n0 (i + 1) r :: k) (putA t d (.fn fn (a.toList.map (aev t)) (b.toList.map (aev t)))) f n := by rw [go_v rfl]; simp only [vop, goV_true]
@[go_sem] theorem go_fieldAddr {s : TypeId} {x : Operand} {j : Nat} : go P zm ne Q (.ops yl q O n0 i (⟨d, .fieldAddr s x j, ty, pos, after, none⟩ :: r) :: k) t f n = goV P zm ne Q (faddrV P (fieldOff (tiOf P s) j) (aev t x)) d (.ops yl q O n0 (i + 1) r :: k) t f n := by
  rw [go_v rfl]; simp only [vop, faddrV, fieldOff]
  cases tiOf P s with
  | none => rfl
  | some ti => obtain ⟨a, b, kd, z⟩ := ti; cases kd <;> rfl
@[go_sem] theorem go_field {s : TypeId} {x : Operand} {j : Nat} : go P zm ne Q (.ops yl q O n0 i (⟨d, .field s x j, ty, pos, after, none⟩ :: r) :: k) t f n = goV P zm ne Q (fieldV P (fieldOff (tiOf P s) j) (aev t x)) d (.ops yl q O n0 (i + 1) r :: k) t f n := by
  rw [go_v rfl]; simp only [vop, fieldV, fieldOff]
  cases tiOf P s with
  | none => rfl
  | some ti => obtain ⟨a, b, kd, z⟩ := ti; cases kd <;> rfl
@[go_sem] theorem go_indexAddr {s : TypeId} {x j : Operand} : go P zm ne Q (.ops yl q O n0 i (⟨d, .indexAddr s x j, ty, pos, after, none⟩ :: r) :: k) t f n = goV P zm ne Q (idxV P (tiOf P s) (aev t x) (aev t j)) d (.ops yl q O n0 (i + 1) r :: k) t f n := by rw [go_v rfl]; rfl
@[go_sem] theorem go_index {s : TypeId} {x j : Operand} : go P zm ne Q (.ops yl q O n0 i (⟨d, .index s x j, ty, pos, after, none⟩ :: r) :: k) t f n = goV P zm ne Q (indexV P (tiOf P s) (aev t x) (aev t j)) d (.ops yl q O n0 (i + 1) r :: k) t f n := by rw [go_v rfl]; rfl
@[go_sem] theorem go_extract {x : Operand} {j : Nat} : go P zm ne Q (.ops yl q O n0 i (⟨d, .extract x j, ty, pos, after, none⟩ :: r) :: k) t f n = goV P zm ne Q (extrV (aev t x) j) d (.ops yl q O n0 (i + 1) r :: k) t f n := by rw [go_v rfl]; rfl
@[go_sem] theorem go_build {s : TypeId} {ps : Array (Nat × Operand)} : go P zm ne Q (.ops yl q O n0 i (⟨d, .build s ps, ty, pos, after, none⟩ :: r) :: k) t f n = goV P zm ne Q (buildV P (tiOf P s) (ps.toList.map fun p => (p.1, aev t p.2))) d (.ops yl q O n0 (i + 1) r :: k) t f n := by
  rw [go_v rfl]; simp only [vop, buildV]
  cases tiOf P s with
  | none => rfl
  | some ti => obtain ⟨a, b, kd, z⟩ := ti; cases kd <;> simp only [fillA_V, layN_fill] <;> rfl
@[go_sem] theorem go_nilCheck {x : Operand} : go P zm ne Q (.ops yl q O n0 i (⟨d, .nilCheck x, ty, pos, after, none⟩ :: r) :: k) t f n = goV P zm ne Q (nilckV (aev t x)) d (.ops yl q O n0 (i + 1) r :: k) t f n := by rw [go_v rfl]; rfl
@[go_sem] theorem go_slice {s : TypeId} {x : Operand} {lo hi mx : Option Operand} : go P zm ne Q (.ops yl q O n0 i (⟨d, .slice s x lo hi mx, ty, pos, after, none⟩ :: r) :: k) t f n = goV P zm ne Q (slV P (tiOf P s) (aev t x) (bndV (lo.map (aev t))) (bndV (hi.map (aev t))) (bndV (mx.map (aev t)))) d (.ops yl q O n0 (i + 1) r :: k) t f n := by
  rw [go_v rfl]
  have h : ∀ o : Option Operand, optInt (aev t) o = bndV (o.map (aev t)) := by
    intro o
    cases o with
    | none => rfl
    | some x => simp only [optInt, Option.map_some]; cases aev t x <;> rfl
  simp only [vop, slV, h]
  rfl
@[go_sem] theorem go_len {s : TypeId} {x : Operand} : go P zm ne Q (.ops yl q O n0 i (⟨d, .call ⟨.builtin .len, #[x], #[s]⟩, ty, pos, after, none⟩ :: r) :: k) t f n = goV P zm ne Q (lenV (tiOf P s) (aev t x)) d (.ops yl q O n0 (i + 1) r :: k) t f n := by rw [go_v rfl]; rfl
@[go_sem] theorem go_max {x y : Operand} {ts : Array TypeId} : go P zm ne Q (.ops yl q O n0 i (⟨d, .call ⟨.builtin .max, #[x, y], ts⟩, ty, pos, after, none⟩ :: r) :: k) t f n = goV P zm ne Q (maxV (aev t x) (aev t y)) d (.ops yl q O n0 (i + 1) r :: k) t f n := by rw [go_v rfl]; rfl
@[go_sem] theorem go_min {x y : Operand} {ts : Array TypeId} : go P zm ne Q (.ops yl q O n0 i (⟨d, .call ⟨.builtin .min, #[x, y], ts⟩, ty, pos, after, none⟩ :: r) :: k) t f n = goV P zm ne Q (minV (aev t x) (aev t y)) d (.ops yl q O n0 (i + 1) r :: k) t f n := by rw [go_v rfl]; rfl
attribute [go_sem] fz_f0 fz_f1 fz_z1 LK_upd
@[go_sem] theorem go_load {s : TypeId} {x : Operand} : go P zm ne Q (.ops yl q O n0 i (⟨d, .load s x, ty, pos, after, none⟩ :: r) :: k) t f n = goV P zm ne Q (loadV (tiOf P s) (fz (hdB yl q O n0 i) f) (aev t x)) d (.ops yl q O n0 (i + 1) r :: k) t f n := by rw [go_r rfl]; rfl
@[go_sem] theorem go_alloc {s : TypeId} : go P zm ne Q (.ops yl q O n0 i (⟨d, .alloc s, ty, pos, after, none⟩ :: r) :: k) t f n = goG P zm ne Q (idn q n0 i n) (allocV (tiOf P s) (idn q n0 i n)) d (.ops yl q O n0 (i + 1) r :: k) t f (nxt q n) := by rw [go_g rfl]; rfl
@[go_sem] theorem go_box {s : TypeId} {x : Operand} : go P zm ne Q (.ops yl q O n0 i (⟨d, .box s x, ty, pos, after, none⟩ :: r) :: k) t f n = goG P zm ne Q (idn q n0 i n) (boxV (tiOf P s) (idn q n0 i n) (aev t x)) d (.ops yl q O n0 (i + 1) r :: k) t f (nxt q n) := by rw [go_g rfl]; rfl
@[go_sem] theorem go_buildSlice {s : TypeId} {len : Nat} {ps : Array (Nat × Operand)} : go P zm ne Q (.ops yl q O n0 i (⟨d, .buildSlice s len ps, ty, pos, after, none⟩ :: r) :: k) t f n = goG P zm ne Q (idn q n0 i n) (bslV P (tiOf P s) (idn q n0 i n) len (ps.toList.map (·.1)) (ps.toList.map fun p => aev t p.2)) d (.ops yl q O n0 (i + 1) r :: k) t f (nxt q n) := by
  rw [go_g rfl]; simp only [gop, bslV, elemTI, List.all_map]
  cases tiOf P s with
  | none => rfl
  | some ti => obtain ⟨a, b, kd, z⟩ := ti; cases kd <;> rfl
@[go_sem] theorem go_makeSlice {s : TypeId} {l c : Operand} : go P zm ne Q (.ops yl q O n0 i (⟨d, .makeSlice s l c, ty, pos, after, none⟩ :: r) :: k) t f n = goG P zm ne Q (idn q n0 i n) (mkV P (tiOf P s) (idn q n0 i n) (aev t l) (aev t c)) d (.ops yl q O n0 (i + 1) r :: k) t f (nxt q n) := by rw [go_g rfl]; rfl
theorem go_l {op : Op} (h : clsOf op = .l) : go P zm ne Q (.ops false q O n0 i (⟨d, op, ty, pos, after, none⟩ :: r) :: k) t f n = lop P (idn q n0 i n) f (aev t) (fun v f' => go P zm ne Q (.ops false q O n0 (i + 1) r :: k) (putA t d v) f' (bif newB op then nxt q n else n)) op := by
  simp only [go, goS, aops, aop, h, Bool.false_and, Bool.false_eq_true, false_implies, true_and]
@[go_sem] theorem go_store {s : TypeId} {x y : Operand} : go P zm ne Q (.ops false q O n0 i (⟨d, .store s x y, ty, pos, after, none⟩ :: r) :: k) t f n = goSp P zm ne Q (tiOf P s) (aev t x) (aev t y) d (.ops false q O n0 (i + 1) r :: k) t f n := by
  rw [go_l rfl]; simp only [lop, goSp, goSt]
  cases tiOf P s <;> cases aev t x <;> first | rfl | (simp only; cases f _ <;> rfl)
def goStZ (P : Program) (zm : Bool) (ne : Nat) (Q : AEx → St → Prop) (O : Array Oper) (n0 j : Nat) (ti : Option TI) (b : BS) (i idx off : Nat) (v : AV) (d : Option Tmp) (k : List Itm) (t : Nat → AV) (f : Nat → BS) (n : Nat) : Prop :=
  match ti, b with
  | some ti, .live sz l => v.shaped ti.size = true ∧ idx < l.length ∧ off + ti.size ≤ (l.getD idx .any).cells.length ∧ 0 < ti.size ∧ LK O n0 j f (upd f i (.live sz (l.set idx ((l.getD idx .any).lay off v.cells)))) ∧ go P zm ne Q k (putA t d .any) (upd f i (.live sz (l.set idx ((l.getD idx .any).lay off v.cells)))) n
  | _, _ => False
@[go_sem] theorem goStZ_some {a b j : Nat} {kd : TK} {z : List AV} {sz : Nat} {l : List AV} {i idx off : Nat} {v : AV} {d : Option Tmp} :
    goStZ P zm ne Q O n0 j (some ⟨a, b, kd, z⟩) (.live sz l) i idx off v d k t f n = (v.shaped a = true ∧ idx < l.length ∧ off + a ≤ (l.getD idx .any).cells.length ∧ 0 < a ∧ LK O n0 j f (upd f i (.live sz (l.set idx ((l.getD idx .any).lay off v.cells)))) ∧ go P zm ne Q k (putA t d .any) (upd f i (.live sz (l.set idx ((l.getD idx .any).lay off v.cells)))) n) := rfl
def goSpZ (P : Program) (zm : Bool) (ne : Nat) (Q : AEx → St → Prop) (O : Array Oper) (n0 j : Nat) (ti : Option TI) (x v : AV) (d : Option Tmp) (k : List Itm) (t : Nat → AV) (f : Nat → BS) (n : Nat) : Prop :=
  match x with
  | .ptr i idx off => goStZ P zm ne Q O n0 j ti (f i) i idx off v d k t f n
  | _ => False
@[go_sem] theorem goSpZ_ptr {j : Nat} {ti : Option TI} {i idx off : Nat} {v : AV} {d : Option Tmp} : goSpZ P zm ne Q O n0 j ti (.ptr i idx off) v d k t f n = goStZ P zm ne Q O n0 j ti (f i) i idx off v d k t f n := rfl
@[go_sem] theorem go_storeZ {s : TypeId} {x y : Operand} : go P zm ne Q (.ops true true O n0 i (⟨d, .store s x y, ty, pos, after, none⟩ :: r) :: k) t f n = goSpZ P zm ne Q O n0 i (tiOf P s) (aev t x) (aev t y) d (.ops true true O n0 (i + 1) r :: k) t f n := by
  simp only [go, goS, aops, aop, clsOf, lop, goSpZ, goStZ, LK, newB, cond_false, Bool.and_self, true_implies]
  cases tiOf P s <;> cases aev t x <;> first | rfl | (simp only; cases f _ <;> first | rfl | (simp only [and_assoc]))
attribute [go_sem] keyAt
def insO (kd : IntKind) (i : Nat) (kd' : IntKind) (m : Int) (b : BS) (f : Nat → BS) (v : AV) (K : AV → (Nat → BS) → Prop) : Prop := match b with
  | .obj (.map es cl) tt => (kd' = kd ∧ keyAt kd m (es.toList.map fun e => e.key) 0 = some none ∧ clo i v) ∧ K .any (upd f i (.obj (.map (es.push ⟨.int kd m, undef, cl⟩) (cl + 1)) (upd tt es.size v)))
  | _ => False
@[go_sem] theorem insL_mp {kd kd' : IntKind} {f : Nat → BS} {i : Nat} {m : Int} {v : AV} {K : AV → (Nat → BS) → Prop} : insL (some kd) f (.mp i) (.int kd' m) v K = insO kd i kd' m (f i) f v K := rfl
@[go_sem] theorem insO_map {kd kd' : IntKind} {f : Nat → BS} {i : Nat} {m : Int} {v : AV} {K : AV → (Nat → BS) → Prop} {es : Array MapEntry} {cl : Nat} {tt : Nat → AV} : insO kd i kd' m (.obj (.map es cl) tt) f v K =
    ((kd' = kd ∧ keyAt kd m (es.toList.map fun e => e.key) 0 = some none ∧ clo i v) ∧ K .any (upd f i (.obj (.map (es.push ⟨.int kd m, undef, cl⟩) (cl + 1)) (upd tt es.size v)))) := rfl
def lookI (kd' kd : IntKind) (tt : Nat → AV) (x : Option (Option Nat)) : Res := match x with
  | some (some j) => some (kd' = kd, tt j)
  | _ => none
@[go_sem] theorem lookI_some {kd' kd : IntKind} {tt : Nat → AV} {j : Nat} : lookI kd' kd tt (some (some j)) = some (kd' = kd, tt j) := rfl
def lookO (kd kd' : IntKind) (m : Int) (b : BS) : Res := match b with
  | .obj (.map es _) tt => lookI kd' kd tt (keyAt kd m (es.toList.map fun e => e.key) 0)
  | _ => none
@[go_sem] theorem lookV_mp {kd kd' : IntKind} {f : Nat → BS} {i : Nat} {m : Int} : lookV (some kd) f (.mp i) (.int kd' m) = lookO kd kd' m (f i) := rfl
@[go_sem] theorem lookO_map {kd kd' : IntKind} {m : Int} {es : Array MapEntry} {cl : Nat} {tt : Nat → AV} : lookO kd kd' m (.obj (.map es cl) tt) = lookI kd' kd tt (keyAt kd m (es.toList.map fun e => e.key) 0) := rfl
@[go_sem] theorem go_makeMap {s : TypeId} : go P zm ne Q (.ops false q O n0 i (⟨d, .makeMap s none, ty, pos, after, none⟩ :: r) :: k) t f n = go P zm ne Q (.ops false q O n0 (i + 1) r :: k) (putA t d (.mp (idn q n0 i n))) (upd f (idn q n0 i n) (.obj (.map #[] 0) (fun _ => .any))) (nxt q n) := by
  rw [go_l rfl]; rfl
@[go_sem] theorem go_insert {s : TypeId} {a b c : Operand} : go P zm ne Q (.ops false q O n0 i (⟨d, .insert s a b c, ty, pos, after, none⟩ :: r) :: k) t f n = insL (mapInt P s) f (aev t a) (aev t b) (aev t c) (fun v f' => go P zm ne Q (.ops false q O n0 (i + 1) r :: k) (putA t d v) f' n) := by
  rw [go_l rfl]; rfl
@[go_sem] theorem go_lookup {s : TypeId} {a b : Operand} : go P zm ne Q (.ops yl q O n0 i (⟨d, .lookup s a b false, ty, pos, after, none⟩ :: r) :: k) t f n = goV P zm ne Q (lookV (mapInt P s) (fz (hdB yl q O n0 i) f) (aev t a) (aev t b)) d (.ops yl q O n0 (i + 1) r :: k) t f n := by rw [go_r rfl]; rfl
def goRg (P : Program) (zm : Bool) (ne : Nat) (Q : AEx → St → Prop) (id : Nat) (x : Option TI) (v : AV) (d : Option Tmp) (k : List Itm) (t : Nat → AV) (f : Nat → BS) (n : Nat) : Prop :=
  match x, v with
  | some ti, .str s => match ti.kind with
    | .string => go P zm ne Q k (putA t d (.ptr id 0 0)) (upd f id (.iter s 0)) n
    | _ => False
  | _, _ => False
@[go_sem] theorem goRg_str {id a b : Nat} {z : List AV} {s : ByteArray} : goRg P zm ne Q id (some ⟨a, b, .string, z⟩) (.str s) d k t f n = go P zm ne Q k (putA t d (.ptr id 0 0)) (upd f id (.iter s 0)) n := rfl
@[go_sem] theorem go_range {s : TypeId} {x : Operand} : go P zm ne Q (.ops false q O n0 i (⟨d, .range s x, ty, pos, after, none⟩ :: r) :: k) t f n = goRg P zm ne Q (idn q n0 i n) (tiOf P s) (aev t x) d (.ops false q O n0 (i + 1) r :: k) t f (nxt q n) := by
  rw [go_l rfl]; rfl
def goNx (P : Program) (zm : Bool) (ne : Nat) (Q : AEx → St → Prop) (i : Nat) (b : BS) (d : Option Tmp) (k : List Itm) (t : Nat → AV) (f : Nat → BS) (n : Nat) : Prop :=
  match b with
  | .obj (.stringIter s p) _ => (p < s.size → go P zm ne Q k (putA t d (.tup [.bool true, .int .i64 p, .int .i32 (Utf8.decode s p).1])) (upd f i (.iter s (p + (Utf8.decode s p).2))) n) ∧ (¬ p < s.size → go P zm ne Q k (putA t d (.tup [.bool false])) f n)
  | _ => False
@[go_sem] theorem goNx_iter {j : Nat} {s : ByteArray} {p : Nat} : goNx P zm ne Q j (.iter s p) d k t f n = ((p < s.size → go P zm ne Q k (putA t d (.tup [.bool true, .int .i64 p, .int .i32 (Utf8.decode s p).1])) (upd f j (.iter s (p + (Utf8.decode s p).2))) n) ∧ (¬ p < s.size → go P zm ne Q k (putA t d (.tup [.bool false])) f n)) := rfl
def goNp (P : Program) (zm : Bool) (ne : Nat) (Q : AEx → St → Prop) (v : AV) (d : Option Tmp) (k : List Itm) (t : Nat → AV) (f : Nat → BS) (n : Nat) : Prop :=
  match v with
  | .ptr i 0 0 => goNx P zm ne Q i (f i) d k t f n
  | _ => False
@[go_sem] theorem goNp_ptr {j : Nat} : goNp P zm ne Q (.ptr j 0 0) d k t f n = goNx P zm ne Q j (f j) d k t f n := rfl
@[go_sem] theorem go_next {x : Operand} : go P zm ne Q (.ops false q O n0 i (⟨d, .next x true, ty, pos, after, none⟩ :: r) :: k) t f n = goNp P zm ne Q (aev t x) d (.ops false q O n0 (i + 1) r :: k) t f n := by
  rw [go_l rfl]
  simp only [lop]
  generalize aev t x = v
  cases v <;> try rfl
  rename_i j a b
  rcases a with _ | a <;> rcases b with _ | b <;> try rfl
  simp only [goNp, goNx]
  cases f j with
  | obj o tt =>
    cases o <;> try rfl
    rename_i s p
    simp only [newB, cond_false, true_and]
    by_cases h : p < s.size <;> simp [h]
  | _ => rfl
def slK (x : Option TI) (p : Prop) : Prop := match x with
  | some ti => match ti.kind with
    | .slice _ => p
    | _ => False
  | none => False
@[go_sem] theorem slK_some {a b : Nat} {e : TypeId} {z : List AV} {p : Prop} : slK (some ⟨a, b, .slice e, z⟩) p = p := rfl
@[go_sem] theorem go_append {s s' : TypeId} {x y : Operand} : go P zm ne Q (.ops false q O n0 i (⟨d, .call ⟨.builtin .append, #[x, y], #[s, s']⟩, ty, pos, after, none⟩ :: r) :: k) t f n =
    slK (tiOf P s') (goApS P zm ne Q (idn q n0 i n) (elemTI P (tiOf P s)) (aev t x) (aev t y) (elemsA f (aev t y)) d (.ops false q O n0 (i + 1) r :: k) t f (nxt q n)) := by
  rw [go_l rfl, ← goAp_S]
  simp only [lop]
  cases tiOf P s with
  | none => cases tiOf P s' with
    | none => rfl
    | some ti' => obtain ⟨a', b', kd', z'⟩ := ti'; cases kd' <;> simp [slK, goAp, elemTI]
  | some ti =>
    obtain ⟨a, b, kd, z⟩ := ti
    cases tiOf P s' with
    | none => cases kd <;> rfl
    | some ti' =>
      obtain ⟨a', b', kd', z'⟩ := ti'
      cases kd' <;> cases kd <;> simp only [slK, goAp, elemTI] <;> first | rfl | (rename_i e' e; cases tiOf P e <;> cases aev t x <;> cases elemsA f (aev t y) <;> rfl)
def goGs (P : Program) (zm : Bool) (ne : Nat) (Q : AEx → St → Prop) (x : Option Tmp) (want : Bool) (d : Option Tmp) (k1 k2 : List Itm) (t : Nat → AV) (f : Nat → BS) (n : Nat) : Prop := match x with
  | some e => goGd P zm ne Q (t e) e want d k1 k2 t f n
  | none => False
@[go_sem] theorem goGs_some {e : Tmp} {want : Bool} {k1 k2 : List Itm} : goGs P zm ne Q (some e) want d k1 k2 t f n = goGd P zm ne Q (t e) e want d k1 k2 t f n := rfl
@[go_sem] theorem go_guarded {op : Op} {j : Nat} {want : Bool} : go P zm ne Q (.ops yl q O n0 i (⟨d, op, ty, pos, after, some (j, want)⟩ :: r) :: k) t f n =
    goGs P zm ne Q ((O[j]?).bind (·.dst)) want d (.ops yl q O n0 i (⟨d, op, ty, pos, after, none⟩ :: r) :: k) (.ops yl q O n0 (i + 1) r :: k) t f n := by
  cases h : gslot O j with
  | none =>
    simp only [go, goS, aops, h]
    unfold gslot at h
    rw [h]; rfl
  | some e =>
    rw [go_guard h]
    unfold gslot at h
    rw [h]; rfl
@[go_sem] theorem go_callF {x : Operand} {args : Array Operand} {ts : Array TypeId} : go P zm ne Q (.ops yl q O n0 i (⟨d, .call ⟨.value x, args, ts⟩, ty, pos, after, none⟩ :: r) :: k) t f n = goCall P zm ne Q q (barB O i) (calV (aev t x) (args.toList.map (aev t))) (yldV (aev t x)) (args.toList.map (aev t)) d (.ops yl q O n0 (i + 1) r :: k) t f n := by
  rw [go_call rfl]; simp only [calleeA, calV, yldA, yldV]
  rfl
end
theorem cloL_iff {n : Nat} {l : List AV} : cloL n l ↔ ∀ a ∈ l, clo n a := by
  induction l with
  | nil => simp [cloL]
  | cons a l ih => simp [cloL, ih]
mutual
theorem clo_ro {n : Nat} : ∀ a : AV, ro a → clo n a
  | .any, _ => by simp only [clo]
  | .bool _, _ => by simp only [clo]
  | .int _ _, _ => by simp only [clo]
  | .str _, _ => by simp only [clo]
  | .agg cs, h => by simp only [clo]; exact cloL_ro cs (by simpa only [ro] using h)
  | .tup cs, h => by simp only [clo]; exact cloL_ro cs (by simpa only [ro] using h)
  | .sl _ _ l, h => by simp only [clo]; exact cloL_ro l (by simpa only [ro] using h)
  | .own _ _ _ _, h => by simp only [ro] at h
  | .ptr _ _ _, h => by simp only [ro] at h
  | .rp cs, h => by simp only [clo]; exact cloL_ro cs (by simpa only [ro] using h)
  | .fn _ fs cap, h => by
    simp only [ro] at h
    simp only [clo]; exact ⟨cloL_ro fs h.1, cloL_ro cap h.2⟩
  | .yld _, h => by simp only [ro] at h
  | .mp _, h => by simp only [ro] at h
  | .nilp, _ => by simp only [clo]
theorem cloL_ro {n : Nat} : ∀ l : List AV, roL l → cloL n l
  | [], _ => by simp only [cloL]
  | a :: l, h => by
    simp only [roL] at h
    simp only [cloL]; exact ⟨clo_ro a h.1, cloL_ro l h.2⟩
end
mutual
def ren (rn : Nat → Nat) : AV → AV
  | .own sz id off len => .own sz (rn id) off len
  | .ptr id idx off => .ptr (rn id) idx off
  | .agg cs => .agg (renL rn cs)
  | .tup cs => .tup (renL rn cs)
  | .sl sz tight l => .sl sz tight (renL rn l)
  | .rp cs => .rp (renL rn cs)
  | .fn f fs cap => .fn f (renL rn fs) (renL rn cap)
  | .yld id => .yld (rn id)
  | .mp id => .mp (rn id)
  | a => a
def renL (rn : Nat → Nat) : List AV → List AV
  | [] => []
  | a :: l => ren rn a :: renL rn l
end
theorem renL_map (rn : Nat → Nat) (l : List AV) : renL rn l = l.map (ren rn) := by
  induction l with
  | nil => rfl
  | cons a l ih => simp only [renL, List.map_cons, ih]
theorem renL_append (rn : Nat → Nat) (l m : List AV) : renL rn (l ++ m) = renL rn l ++ renL rn m := by simp only [renL_map, List.map_append]
theorem cloL_append (n : Nat) (l m : List AV) : cloL n (l ++ m) = (cloL n l ∧ cloL n m) := by
  simp only [cloL_iff, List.mem_append, eq_iff_iff]
  exact ⟨fun h => ⟨fun a ha => h a (.inl ha), fun a ha => h a (.inr ha)⟩, fun h a ha => ha.elim (h.1 a) (h.2 a)⟩
theorem renL_length (rn : Nat → Nat) (l : List AV) : (renL rn l).length = l.length := by rw [renL_map, List.length_map]
mutual
theorem ren_ro (rn : Nat → Nat) : ∀ a : AV, ro a → ren rn a = a
  | .any, _ => rfl
  | .bool _, _ => rfl
  | .int _ _, _ => rfl
  | .str _, _ => rfl
  | .agg cs, h => by simp only [ren]; rw [renL_ro rn cs (by simpa only [ro] using h)]
  | .tup cs, h => by simp only [ren]; rw [renL_ro rn cs (by simpa only [ro] using h)]
  | .sl _ _ l, h => by simp only [ren]; rw [renL_ro rn l (by simpa only [ro] using h)]
  | .own _ _ _ _, h => by simp only [ro] at h
  | .ptr _ _ _, h => by simp only [ro] at h
  | .rp cs, h => by simp only [ren]; rw [renL_ro rn cs (by simpa only [ro] using h)]
  | .fn _ fs cap, h => by
    simp only [ro] at h
    simp only [ren]; rw [renL_ro rn fs h.1, renL_ro rn cap h.2]
  | .yld _, h => by simp only [ro] at h
  | .mp _, h => by simp only [ro] at h
  | .nilp, _ => rfl
theorem renL_ro (rn : Nat → Nat) : ∀ l : List AV, roL l → renL rn l = l
  | [], _ => rfl
  | a :: l, h => by
    simp only [roL] at h
    simp only [renL]; rw [ren_ro rn a h.1, renL_ro rn l h.2]
end
mutual
theorem ren_id : ∀ a : AV, ren id a = a
  | .any => rfl
  | .bool _ => rfl
  | .int _ _ => rfl
  | .str _ => rfl
  | .agg cs => by simp only [ren]; rw [renL_id cs]
  | .tup cs => by simp only [ren]; rw [renL_id cs]
  | .sl _ _ l => by simp only [ren]; rw [renL_id l]
  | .own _ _ _ _ => rfl
  | .ptr _ _ _ => rfl
  | .rp cs => by simp only [ren]; rw [renL_id cs]
  | .fn _ fs cap => by simp only [ren]; rw [renL_id fs, renL_id cap]
  | .yld _ => rfl
  | .mp _ => rfl
  | .nilp => rfl
theorem renL_id : ∀ l : List AV, renL id l = l
  | [] => rfl
  | a :: l => by simp only [renL]; rw [ren_id a, renL_id l]
end
theorem ren_isAgg (rn : Nat → Nat) (a : AV) : (ren rn a).isAgg = a.isAgg := by cases a <;> rfl
mutual
theorem Rv.clo {c c' : Cx} {n : Nat} (hw : c'.w = c.w) (hF : c'.F = c.F) (hU : ∀ id, id < n → c'.U id) {rn : Nat → Nat} (hm : ∀ id e, c'.mu id = some e → c.mu (rn id) = some e) : ∀ (a : AV) (v : Value), clo n a → Rv c (ren rn a) v → Rv c' a v
  | .any, _, _, _ => trivial
  | .bool _, _, _, h => h
  | .int _ _, _, _, h => h
  | .str _, _, _, h => h
  | .agg cs, v, hro, h => by
    simp only [Rv, ren] at h ⊢
    obtain ⟨vs, rfl, h1, h⟩ := h
    exact ⟨vs, rfl, h1, Rl.clo hw hF hU hm cs _ (by simpa only [Go.Proofs.YtgiheamjhoiojaaGreat.clo] using hro) h⟩
  | .tup cs, v, hro, h => by
    simp only [Rv, ren] at h ⊢
    obtain ⟨vs, rfl, h⟩ := h
    exact ⟨vs, rfl, Rl.clo hw hF hU hm cs _ (by simpa only [Go.Proofs.YtgiheamjhoiojaaGreat.clo] using hro) h⟩
  | .sl sz tight l, v, hro, h => by
    simp only [Rv, ren] at h ⊢
    obtain ⟨a, cap, h0, h1, h2, h3⟩ := h
    rw [renL_length] at h0 h1 h2
    subst h0
    replace h3 : l = [] ∨ _ := h3.imp_left fun h => List.eq_nil_of_length_eq_zero (by rw [← renL_length rn l, h]; rfl)
    refine ⟨a, cap, rfl, h1, h2, ?_⟩
    rcases h3 with h3 | ⟨b, o, rfl, hb, hFb, hre⟩
    · exact .inl h3
    · exact .inr ⟨b, o, rfl, by rw [hw]; exact hb, by rw [hF]; exact hFb, Re.clo hw hF hU hm sz _ b o (by simpa only [Go.Proofs.YtgiheamjhoiojaaGreat.clo] using hro) hre⟩
  | .own sz id off len, v, hro, h => by
    simp only [Rv, ren] at h ⊢
    simp only [Go.Proofs.YtgiheamjhoiojaaGreat.clo] at hro
    obtain ⟨h1, h2, a, cap, rfl, h3, h4⟩ := h
    exact ⟨hU id hro, fun e he => h2 e (hm id e he), a, cap, rfl, h3, h4.imp (fun x => x) fun ⟨b, o, ha, h5⟩ => ⟨b, o, ha, fun e he => h5 e (hm id e he)⟩⟩
  | .ptr id idx off, v, hro, h => by
    simp only [Rv, ren] at h ⊢
    simp only [Go.Proofs.YtgiheamjhoiojaaGreat.clo] at hro
    obtain ⟨h1, b, o, rfl, h2⟩ := h
    exact ⟨hU id hro, b, o, rfl, fun e he => h2 e (hm id e he)⟩
  | .rp cs, v, hro, h => by
    simp only [Rv, ren] at h ⊢
    obtain ⟨b, o, vs, rfl, hb, hFb, h0, h1, h2⟩ := h
    exact ⟨b, o, vs, rfl, by rw [hw]; exact hb, by rw [hF]; exact hFb, h0, Rl.clo hw hF hU hm cs vs (by simpa only [Go.Proofs.YtgiheamjhoiojaaGreat.clo] using hro) h1, by rw [hw]; exact h2⟩
  | .fn f fs cap, v, hro, h => by
    simp only [Rv, ren] at h ⊢
    simp only [Go.Proofs.YtgiheamjhoiojaaGreat.clo] at hro
    obtain ⟨a, b, rfl, h1, h2⟩ := h
    exact ⟨a, b, rfl, Rl.clo hw hF hU hm fs _ hro.1 h1, Rl.clo hw hF hU hm cap _ hro.2 h2⟩
  | .yld id, v, hro, h => by
    simp only [Rv, ren] at h ⊢
    simp only [Go.Proofs.YtgiheamjhoiojaaGreat.clo] at hro
    obtain ⟨_, l, rfl, h2⟩ := h
    exact ⟨hU id hro, l, rfl, fun e he => h2 e (hm id e he)⟩
  | .mp id, v, hro, h => by
    simp only [Rv, ren] at h ⊢
    simp only [Go.Proofs.YtgiheamjhoiojaaGreat.clo] at hro
    obtain ⟨_, l, rfl, h2⟩ := h
    exact ⟨hU id hro, l, rfl, fun e he => h2 e (hm id e he)⟩
  | .nilp, _, _, h => h
theorem Rl.clo {c c' : Cx} {n : Nat} (hw : c'.w = c.w) (hF : c'.F = c.F) (hU : ∀ id, id < n → c'.U id) {rn : Nat → Nat} (hm : ∀ id e, c'.mu id = some e → c.mu (rn id) = some e) : ∀ (l : List AV) (vs : List Value), cloL n l → Rl c (renL rn l) vs → Rl c' l vs
  | [], _, _, h => h
  | a :: l, vs, hro, h => by
    simp only [Rl, renL] at h ⊢
    simp only [cloL] at hro
    obtain ⟨v, r, rfl, h1, h2⟩ := h
    exact ⟨v, r, rfl, Rv.clo hw hF hU hm a v hro.1 h1, Rl.clo hw hF hU hm l r hro.2 h2⟩
theorem Re.clo {c c' : Cx} {n : Nat} (hw : c'.w = c.w) (hF : c'.F = c.F) (hU : ∀ id, id < n → c'.U id) {rn : Nat → Nat} (hm : ∀ id e, c'.mu id = some e → c.mu (rn id) = some e) (sz : Nat) : ∀ (l : List AV) (b o : Nat), cloL n l → Re c sz (renL rn l) b o → Re c' sz l b o
  | [], _, _, _, _ => trivial
  | a :: l, b, o, hro, h => by
    simp only [Re, renL, ren_isAgg] at h ⊢
    simp only [cloL] at hro
    obtain ⟨⟨v, h1, h2, h5, h0, h3⟩, h4⟩ := h
    exact ⟨⟨v, Rv.clo hw hF hU hm a v hro.1 h1, h2, h5, h0, by rw [hw]; exact h3⟩, Re.clo hw hF hU hm sz l b _ hro.2 h4⟩
end
mutual
theorem clo_mono {n m : Nat} (h : n ≤ m) : ∀ a : AV, clo n a → clo m a
  | .own _ id _ _, k => by simp only [clo] at k ⊢; omega
  | .ptr id _ _, k => by simp only [clo] at k ⊢; omega
  | .agg cs, k => by simp only [clo] at k ⊢; exact cloL_mono h cs k
  | .tup cs, k => by simp only [clo] at k ⊢; exact cloL_mono h cs k
  | .sl _ _ l, k => by simp only [clo] at k ⊢; exact cloL_mono h l k
  | .rp cs, k => by simp only [clo] at k ⊢; exact cloL_mono h cs k
  | .fn _ fs cap, k => by simp only [clo] at k ⊢; exact ⟨cloL_mono h fs k.1, cloL_mono h cap k.2⟩
  | .yld id, k => by simp only [clo] at k ⊢; omega
  | .mp id, k => by simp only [clo] at k ⊢; omega
  | .any, _ => by simp only [clo]
  | .bool _, _ => by simp only [clo]
  | .int _ _, _ => by simp only [clo]
  | .str _, _ => by simp only [clo]
  | .nilp, _ => by simp only [clo]
theorem cloL_mono {n m : Nat} (h : n ≤ m) : ∀ l : List AV, cloL n l → cloL m l
  | [], _ => by simp only [cloL]
  | a :: l, k => by simp only [cloL] at k ⊢; exact ⟨clo_mono h a k.1, cloL_mono h l k.2⟩
end
mutual
theorem ren_low {rn : Nat → Nat} {n : Nat} (h : ∀ id, id < n → rn id = id) : ∀ a : AV, clo n a → ren rn a = a
  | .own _ id _ _, k => by simp only [clo] at k; simp only [ren, h id k]
  | .ptr id _ _, k => by simp only [clo] at k; simp only [ren, h id k]
  | .agg cs, k => by simp only [clo] at k; simp only [ren, renL_low h cs k]
  | .tup cs, k => by simp only [clo] at k; simp only [ren, renL_low h cs k]
  | .sl _ _ l, k => by simp only [clo] at k; simp only [ren, renL_low h l k]
  | .rp cs, k => by simp only [clo] at k; simp only [ren, renL_low h cs k]
  | .fn _ fs cap, k => by simp only [clo] at k; simp only [ren, renL_low h fs k.1, renL_low h cap k.2]
  | .yld id, k => by simp only [clo] at k; simp only [ren, h id k]
  | .mp id, k => by simp only [clo] at k; simp only [ren, h id k]
  | .any, _ => rfl
  | .bool _, _ => rfl
  | .int _ _, _ => rfl
  | .str _, _ => rfl
  | .nilp, _ => rfl
theorem renL_low {rn : Nat → Nat} {n : Nat} (h : ∀ id, id < n → rn id = id) : ∀ l : List AV, cloL n l → renL rn l = l
  | [], _ => rfl
  | a :: l, k => by simp only [cloL] at k; simp only [renL, ren_low h a k.1, renL_low h l k.2]
end
theorem le_of {ne : Nat} {t t0 : Nat → AV} {f f0 : Nat → BS} {n n0 : Nat} (rn : Nat → Nat) (hne : ne ≤ n0) (hlow : ∀ id, id < ne → rn id = id) (hinj : ∀ i j, (f0 i ≠ .dead ∧ f0 i ≠ .fresh) → (f0 j ≠ .dead ∧ f0 j ≠ .fresh) → rn i = rn j → i = j)
    (ht : ∀ k, t0 k = .any ∨ (t k = ren rn (t0 k) ∧ clo n0 (t0 k))) (hl : ∀ id sz l, f0 id = .live sz l → f (rn id) = .live sz (renL rn l) ∧ cloL n0 l) (hi : ∀ id o tt, f0 id = .obj o tt → f (rn id) = .obj o tt ∧ (id < ne ∨ ∀ k, ro (tt k)))
    (hfr : ∀ id, f0 id = .fresh ↔ n0 ≤ id) : le ne ⟨t, f, n⟩ ⟨t0, f0, n0⟩ := by
  rintro c0 N a w ⟨c, rfl, hk, hfr', ht', hN, hd, hs, h0, hne'⟩
  have hmu : ∀ id e, (match f0 id with | .live .. | .obj .. => c.mu (rn id) | _ => none) = some e → c.mu (rn id) = some e := by
    intro id e h
    split at h <;> first | exact h | cases h
  have hlv : ∀ id e, (match f0 id with | .live .. | .obj .. => c.mu (rn id) | _ => none) = some e → f0 id ≠ .dead ∧ f0 id ≠ .fresh := by
    intro id e h
    split at h
    · rename_i h1; rw [h1]; simp
    · rename_i h1; rw [h1]; simp
    · cases h
  let c' : Cx := { w := c.w, mu := fun id => match f0 id with | .live .. | .obj .. => c.mu (rn id) | _ => none, U := fun id => f0 id ≠ .fresh, F := c.F }
  have hU : ∀ id, id < n0 → c'.U id := fun id hid h => by have := (hfr id).1 h; omega
  refine ⟨c', rfl, ?_, hfr, fun k => ?_, hN, Marks.back (c := c) (c' := c') rfl (fun id e h => ⟨rn id, hmu id e h⟩) hd, ?_, h0, hne⟩
  · constructor
    · intro id; exact Iff.rfl
    · intro id h; show (match f0 id with | .live .. | .obj .. => c.mu (rn id) | _ => none) = none
      simp only at h
      rcases h with h | h <;> rw [h]
    · intro id sz l h
      simp only at h
      obtain ⟨g1, g2⟩ := hl id sz l h
      obtain ⟨e, he, h1, h2, h3⟩ := hk.live (rn id) sz _ g1
      refine ⟨e, ?_, h1, fun hr => (List.eq_nil_of_length_eq_zero (by rw [← renL_length rn l, h2 hr]; rfl)), fun hr => ?_⟩
      · show (match f0 id with | .live .. | .obj .. => c.mu (rn id) | _ => none) = some e
        rw [h]; exact he
      · obtain ⟨hre, rest⟩ := h3 hr
        refine ⟨Re.clo (c := c) (c' := c') rfl rfl hU hmu sz l _ _ g2 hre, ?_⟩
        simpa only [renL_length] using rest
    · intro id o tt h
      simp only at h
      obtain ⟨g1, g2⟩ := hi id o tt h
      obtain ⟨e, oo, he, h1, h2, h3, hS, h4, h5, h6⟩ := hk.obj (rn id) o tt g1
      refine ⟨e, oo, ?_, h1, h2, h3, hS, h4, fun k => ?_, fun k => ?_⟩
      · show (match f0 id with | .live .. | .obj .. => c.mu (rn id) | _ => none) = some e
        rw [h]; exact he
      · rcases g2 with g2 | g2
        · have hid := hlow id g2
          have hcl := h6 k
          rw [hid] at hcl
          refine Rv.clo (c := c) (c' := c') rfl rfl hU hmu _ _ (clo_mono (by omega) _ hcl) ?_
          rw [ren_low hlow _ (clo_mono (by omega) _ hcl)]
          exact h5 k
        · refine Rv.clo (c := c) (c' := c') rfl rfl hU hmu _ _ (clo_ro (n := n0) _ (g2 k)) ?_
          rw [ren_ro rn _ (g2 k)]
          exact h5 k
      · rcases g2 with g2 | g2
        · have := h6 k; rwa [hlow id g2] at this
        · exact clo_ro _ (g2 k)
    · intro i j ei ej h1 h2 hr hrj hb
      exact hinj i j (hlv i ei h1) (hlv j ej h2) (hk.inj (rn i) (rn j) ei ej (hmu i ei h1) (hmu j ej h2) hr hrj hb)
    · intro id e h; exact hk.shut (rn id) e (hmu id e h)
  · rcases ht k with h | ⟨h1, h2⟩
    · simp only [h, Rv]
    · have := ht' k
      simp only at this
      rw [h1] at this
      exact Rv.clo (c := c) (c' := c') rfl rfl hU hmu _ _ h2 this
  · refine ⟨hs.os, hs.tape, hs.output, hs.size, hs.keep, fun id h => hU id (by have := h0 id h; omega), fun id h => ?_, fun id e h hr => hs.new (rn id) e (hmu id e h) hr, hs.F⟩
    show (match f0 id with | .live .. | .obj .. => c.mu (rn id) | _ => none) = c0.mu id ∨ (match f0 id with | .live .. | .obj .. => c.mu (rn id) | _ => none) = none
    rw [hlow id (h0 id h)]
    split
    · exact hs.mu id h
    · exact hs.mu id h
    · exact .inr rfl
def tm : List (Nat × AV) → Nat → AV
  | [] => fun _ => .any
  | (k, v) :: r => upd (tm r) k v
def hp (n : Nat) : List (Nat × BS) → Nat → BS
  | [] => fun id => if id < n then .dead else .fresh
  | (k, b) :: r => upd (hp n r) k b
@[go_sem] theorem tm_nil : tm [] = fun _ => AV.any := rfl
@[go_sem] theorem tm_cons (k : Nat) (v : AV) (r : List (Nat × AV)) : tm ((k, v) :: r) = upd (tm r) k v := rfl
@[go_sem] theorem hp_cons (n k : Nat) (b : BS) (r : List (Nat × BS)) : hp n ((k, b) :: r) = upd (hp n r) k b := rfl
def cloP (ne n : Nat) : Nat × BS → Prop
  | (_, .live _ l) => cloL n l
  | (_, .fresh) => False
  | (id, .obj _ t) => id < ne ∨ ∀ k, ro (t k)
  | (_, .dead) => True
@[go_sem] theorem cloP_live (ne n id sz : Nat) (l : List AV) : cloP ne n (id, .live sz l) = cloL n l := rfl
@[go_sem] theorem cloP_dead (ne n id : Nat) : cloP ne n (id, .dead) = True := rfl
@[go_sem] theorem cloP_iter (ne n id : Nat) (o : Obj) : cloP ne n (id, .obj o (fun _ => .any)) = True := by simp [cloP, ro]
@[go_sem] theorem cloP_obj (ne n id : Nat) (o : Obj) (k : Nat) (t : Nat → AV) : cloP ne n (id, .obj o (cut k t)) = (id < ne ∨ ∀ j, ro (cut k t j)) := rfl
@[go_sem] theorem cloP_objg (ne n id : Nat) (o : Obj) (t : Nat → AV) : cloP ne n (id, .obj o t) = (id < ne ∨ ∀ j, ro (t j)) := rfl
@[go_sem] theorem ro_updI {t : Nat → AV} {i : Nat} {v : AV} (h : ro v) : (∀ j, ro (upd t i v j)) ↔ ∀ j, j ≠ i → ro (t j) := by
  constructor
  · intro g j hj; have := g j; rwa [upd_ne _ _ _ hj] at this
  · intro g j; by_cases hj : j = i
    · subst hj; rw [upd_same]; exact h
    · rw [upd_ne _ _ _ hj]; exact g j hj
theorem tm_or (l : List (Nat × AV)) (k : Nat) : tm l k = .any ∨ ∃ p ∈ l, p.1 = k ∧ tm l k = p.2 := by
  induction l with
  | nil => exact .inl rfl
  | cons p l ih =>
    obtain ⟨j, v⟩ := p
    by_cases h : k = j
    · subst h; exact .inr ⟨(k, v), by simp, rfl, upd_same _ _ _⟩
    · rw [tm_cons, upd_ne _ _ _ h]
      exact ih.imp (fun x => x) fun ⟨p, h1, h2⟩ => ⟨p, by simp [h1], h2⟩
theorem hp_or (n : Nat) (l : List (Nat × BS)) (k : Nat) : hp n l k = (if k < n then .dead else .fresh) ∨ ∃ p ∈ l, p.1 = k ∧ hp n l k = p.2 := by
  induction l with
  | nil => exact .inl rfl
  | cons p l ih =>
    obtain ⟨j, v⟩ := p
    by_cases h : k = j
    · subst h; exact .inr ⟨(k, v), by simp, rfl, upd_same _ _ _⟩
    · rw [hp_cons, upd_ne _ _ _ h]
      exact ih.imp (fun x => x) fun ⟨p, h1, h2⟩ => ⟨p, by simp [h1], h2⟩
def nm : List (Nat × Nat) → Nat → Nat
  | [] => fun id => id
  | (k, v) :: r => fun id => if id = k then v else nm r id
@[go_sem] theorem nm_nil (id : Nat) : nm [] id = id := rfl
@[go_sem] theorem nm_cons (k v : Nat) (r : List (Nat × Nat)) (id : Nat) : nm ((k, v) :: r) id = if id = k then v else nm r id := rfl
def renB (rn : Nat → Nat) : BS → BS
  | .live sz l => .live sz (renL rn l)
  | b => b
@[go_sem] theorem renB_live (rn : Nat → Nat) (sz : Nat) (l : List AV) : renB rn (.live sz l) = .live sz (renL rn l) := rfl
@[go_sem] theorem renB_obj (rn : Nat → Nat) (o : Obj) (t : Nat → AV) : renB rn (.obj o t) = .obj o t := rfl
attribute [go_sem] ren renL renL_append cloL_append cloL
theorem le_lists {ne : Nat} {t : Nat → AV} {f : Nat → BS} {n n0 : Nat} {tl : List (Nat × AV)} {hl : List (Nat × BS)} (rl : List (Nat × Nat)) (hrl : ∀ p ∈ rl, ne ≤ p.1) (hri : ∀ p ∈ hl, ∀ q ∈ hl, nm rl p.1 = nm rl q.1 → p.1 = q.1) (hne : ne ≤ n0) (ht : ∀ p ∈ tl, t p.1 = ren (nm rl) p.2 ∧ clo n0 p.2) (hh : ∀ p ∈ hl, p.1 < n0 ∧ f (nm rl p.1) = renB (nm rl) p.2 ∧ cloP ne n0 p) :
    le ne ⟨t, f, n⟩ ⟨tm tl, hp n0 hl, n0⟩ := by
  have hmem : ∀ i, (hp n0 hl i ≠ .dead ∧ hp n0 hl i ≠ .fresh) → ∃ p ∈ hl, p.1 = i := by
    intro i hi
    rcases hp_or n0 hl i with h | ⟨p, h1, h2, _⟩
    · rw [h] at hi; split at hi <;> simp at hi
    · exact ⟨p, h1, h2⟩
  refine le_of (nm rl) hne (fun id hid => ?_) (fun i j hi hj hij => ?_) (fun k => ?_) (fun id sz l h => ?_) (fun id o tt h => ?_) fun id => ?_
  · clear hri ht hh
    induction rl with
    | nil => rfl
    | cons p rl ih =>
      obtain ⟨k, v⟩ := p
      have := hrl (k, v) (by simp)
      simp only at this
      rw [nm_cons, if_neg (by omega)]
      exact ih fun q hq => hrl q (by simp [hq])
  · obtain ⟨p, h1, rfl⟩ := hmem i hi
    obtain ⟨q, h2, rfl⟩ := hmem j hj
    exact hri p h1 q h2 hij
  · rcases tm_or tl k with h | ⟨p, h1, rfl, h3⟩
    · exact .inl h
    · rw [h3]; exact .inr (ht p h1)
  · rcases hp_or n0 hl id with h1 | ⟨p, h1, rfl, h3⟩
    · rw [h] at h1; split at h1 <;> cases h1
    · obtain ⟨_, g2, g3⟩ := hh p h1
      obtain ⟨pi, pb⟩ := p
      simp only at h3 g2
      rw [h3] at h; subst h
      exact ⟨g2, g3⟩
  · rcases hp_or n0 hl id with h1 | ⟨q, h1, rfl, h3⟩
    · rw [h] at h1; split at h1 <;> cases h1
    · obtain ⟨_, g2, g3⟩ := hh q h1
      obtain ⟨pi, pb⟩ := q
      simp only at h3 g2
      rw [h3] at h; subst h
      exact ⟨g2, g3⟩
  · rcases hp_or n0 hl id with h1 | ⟨p, h1, rfl, h3⟩
    · rw [h1]; split <;> simp <;> omega
    · obtain ⟨g1, g2, g3⟩ := hh p h1
      obtain ⟨pi, pb⟩ := p
      rw [h3]
      simp only at g1
      constructor
      · intro h; simp only at h; subst h; simp only [cloP] at g3
      · intro h; simp only at h; omega
def sof (n : Nat) (tl : List (Nat × AV)) (hl : List (Nat × BS)) : St := ⟨tm tl, hp n hl, n⟩
section
variable {P : Program} {z : Bool} {ne : Nat} {Q : AEx → St → Prop} {k : List Itm} {t : Nat → AV} {f : Nat → BS} {n : Nat}
theorem go_loops {c : Code} {α : Type} (tl : α → List (Nat × AV)) (hl : α → List (Nat × BS)) (m : α → Nat) (x0 : α) (rl : List (Nat × Nat)) (hrl : ∀ p ∈ rl, ne ≤ p.1) (hri : ∀ p ∈ hl x0, ∀ q ∈ hl x0, nm rl p.1 = nm rl q.1 → p.1 = q.1) (hne : ne ≤ n) (ht : ∀ p ∈ tl x0, t p.1 = ren (nm rl) p.2 ∧ clo n p.2) (hh : ∀ p ∈ hl x0, p.1 < n ∧ f (nm rl p.1) = renB (nm rl) p.2 ∧ cloP ne n p)
    (h : ∀ x, go P z ne Q (.code c :: .lp α (fun y => sof n (tl y) (hl y)) m x :: k) (tm (tl x)) (hp n (hl x)) n) : go P z ne Q (.code (.loop c) :: k) t f n :=
  go_loop (fun y => sof n (tl y) (hl y)) m x0 (le_lists rl hrl hri hne ht hh) h
theorem go_loopN {c : Code} {α : Type} (n1 : Nat) (tl : α → List (Nat × AV)) (hl : α → List (Nat × BS)) (m : α → Nat) (x0 : α) (rl : List (Nat × Nat)) (hrl : ∀ p ∈ rl, ne ≤ p.1) (hri : ∀ p ∈ hl x0, ∀ q ∈ hl x0, nm rl p.1 = nm rl q.1 → p.1 = q.1) (hne : ne ≤ n1) (ht : ∀ p ∈ tl x0, t p.1 = ren (nm rl) p.2 ∧ clo n1 p.2) (hh : ∀ p ∈ hl x0, p.1 < n1 ∧ f (nm rl p.1) = renB (nm rl) p.2 ∧ cloP ne n1 p)
    (h : ∀ x, go P z ne Q (.code c :: .lp α (fun y => sof n1 (tl y) (hl y)) m x :: k) (tm (tl x)) (hp n1 (hl x)) n1) : go P z ne Q (.code (.loop c) :: k) t f n :=
  go_loop (fun y => sof n1 (tl y) (hl y)) m x0 (le_lists rl hrl hri hne ht hh) h
theorem go_again {n0 : Nat} {α : Type} {tl : α → List (Nat × AV)} {hl : α → List (Nat × BS)} {m : α → Nat} {x : α} (y : α) (hm : m y < m x) (rl : List (Nat × Nat)) (hrl : ∀ p ∈ rl, ne ≤ p.1) (hri : ∀ p ∈ hl y, ∀ q ∈ hl y, nm rl p.1 = nm rl q.1 → p.1 = q.1) (hne : ne ≤ n0) (ht : ∀ p ∈ tl y, t p.1 = ren (nm rl) p.2 ∧ clo n0 p.2) (hh : ∀ p ∈ hl y, p.1 < n0 ∧ f (nm rl p.1) = renB (nm rl) p.2 ∧ cloP ne n0 p) :
    go P z ne Q (.lp α (fun y => sof n0 (tl y) (hl y)) m x :: k) t f n := by
  rw [go_lp]
  exact ⟨y, le_lists rl hrl hri hne ht hh, hm⟩
end
theorem w64 {x : Int} (h : -9223372036854775808 ≤ x ∧ x ≤ 9223372036854775807) : IntKind.i64.wrap x = x := by rw [IntKind.wrap_i64]; omega
theorem wu64 {x : Int} (h : 0 ≤ x ∧ x ≤ 18446744073709551615) : IntKind.u64.wrap x = x := by
  simp only [IntKind.wrap, IntKind.bits, IntKind.signed]
  simp only [Bool.false_and, Bool.false_eq_true, if_false]
  omega
open Go
set_option linter.unusedSimpArgs false
set_option linter.unusedVariables false
def apv (sz id : Nat) (l : List AV) : AV := if l = [] then .sl 0 true [] else .own sz id 0 l.length
def apb (sz id : Nat) (l : List AV) : List (Nat × BS) := if l = [] then [] else [(id, .live sz l)]
@[go_sem] theorem apv_nil (sz id : Nat) : apv sz id [] = .sl 0 true [] := rfl
@[go_sem] theorem apb_nil (sz id : Nat) : apb sz id [] = [] := rfl
theorem apv_ne {sz id : Nat} {l : List AV} (h : l ≠ []) : apv sz id l = .own sz id 0 l.length := by simp [apv, h]
theorem apb_ne {sz id : Nat} {l : List AV} (h : l ≠ []) : apb sz id l = [(id, .live sz l)] := by simp [apb, h]
@[go_sem] theorem apv_app (sz id : Nat) (l : List AV) (x : AV) : apv sz id (l ++ [x]) = .own sz id 0 (l.length + 1) := by simp [apv]
@[go_sem] theorem apb_app (sz id : Nat) (l : List AV) (x : AV) : apb sz id (l ++ [x]) = [(id, .live sz (l ++ [x]))] := by simp [apb]
def kill (id : Nat) (l : List AV) (f : Nat → BS) : Nat → BS := if l = [] then f else upd f id .dead
@[go_sem] theorem kill_at (id : Nat) (l : List AV) (f : Nat → BS) (j : Nat) : kill id l f j = if j = id then (if l = [] then f j else .dead) else f j := by
  unfold kill
  by_cases h : l = []
  · simp [h]
  · simp only [h, if_false, upd]
@[go_sem] theorem lenV_apv (a b : Nat) (e : TypeId) (z : List AV) (sz id : Nat) (l : List AV) : lenV (some ⟨a, b, .slice e, z⟩) (apv sz id l) = some (True, .int .i64 l.length) := by
  unfold apv; split
  · rename_i h; subst h; rfl
  · rfl
@[go_sem] theorem ren_apv (rn : Nat → Nat) (sz id : Nat) (l : List AV) : ren rn (apv sz id l) = apv sz (rn id) l := by
  unfold apv; split
  · rfl
  · rfl
@[go_sem] theorem all_apb {sz id : Nat} {l : List AV} {Q : Nat → BS → Prop} : (∀ a b, (a, b) ∈ apb sz id l → Q a b) = (l ≠ [] → Q id (.live sz l)) := by
  by_cases h : l = []
  · simp [apb, h]
  · simp [apb, h]
@[go_sem] theorem all_apb' {sz id : Nat} {l : List AV} {Q : Nat × BS → Prop} : (∀ a, a ∈ apb sz id l → Q a) = (l ≠ [] → Q (id, .live sz l)) := by
  by_cases h : l = []
  · simp [apb, h]
  · simp [apb, h]
@[go_sem] theorem hp_apb_at (n sz id : Nat) (l : List AV) (j : Nat) : hp n (apb sz id l) j = if j = id ∧ l ≠ [] then .live sz l else if j < n then .dead else .fresh := by
  by_cases h : l = []
  · simp [apb, h, hp]
  · rw [apb_ne h, hp_cons, upd_lit']; simp [h, hp]
@[go_sem] theorem clo_apv_iff (n sz id : Nat) (l : List AV) : clo n (apv sz id l) = (l ≠ [] → id < n) := by
  unfold apv; split <;> simp [clo, cloL, *]
section
variable {P : Program} {zm : Bool} {ne : Nat} {Q : AEx → St → Prop} {k : List Itm} {t : Nat → AV} {f : Nat → BS} {n : Nat}
theorem goApS_apv {id' id a b : Nat} {kd : TK} {z : List AV} {l : List AV} {y : AV} {new : List AV} {d : Option Tmp} (h1 : szA y = a ∨ new = []) (h2 : 0 < a) (h3 : 0 < b) (h4 : fitsA f y) (h5 : ((l.length + new.length : Nat) : Int) * b ≤ 70368744177664) (h6 : l ≠ [] → f id = .live a l)
    (h : go P zm ne Q k (putA t d (.own a id' 0 (l.length + new.length))) (upd (kill id l f) id' (.live a (l ++ new))) n) : goApS P zm ne Q id' (some ⟨a, b, kd, z⟩) (apv a id l) y (some new) d k t f n := by
  by_cases hl : l = []
  · subst hl
    rw [apv_nil, goApS_sl]
    exact ⟨rfl, ⟨.inr rfl, h1, h2, h3, .inl rfl⟩, h4, h5, by simpa [kill] using h⟩
  · rw [apv_ne hl, goApS_own, h6 hl, goApO_live]
    refine ⟨⟨rfl, h1, h2, h3⟩, h4, by omega, h5, ?_⟩
    simpa [kill, hl] using h
end
def Wk (a b : AV) : Prop := (∀ c v, Rv c a v → Rv c b v) ∧ (ro a → ro b)
def WkL (l m : List AV) : Prop := (∀ c vs, Rl c l vs → Rl c m vs) ∧ (roL l → roL m)
theorem Wk.refl (a : AV) : Wk a a := ⟨fun _ _ h => h, fun h => h⟩
theorem Wk.any (a : AV) : Wk a .any := ⟨fun _ _ _ => trivial, fun _ => trivial⟩
theorem Wk.sl (sz : Nat) (tight : Bool) (l : List AV) : Wk (.sl sz tight l) (.sl sz false l) := by
  refine ⟨fun c v h => ?_, fun h => h⟩
  simp only [Rv] at h ⊢
  obtain ⟨a, cap, h0, h1, h2, h3⟩ := h
  exact ⟨a, cap, h0, h1, fun h => (by cases h), h3⟩
theorem Wk.nil (sz sz' : Nat) (tight : Bool) : Wk (.sl sz tight []) (.sl sz' false []) := by
  refine ⟨fun c v h => ?_, fun h => h⟩
  simp only [Rv] at h ⊢
  obtain ⟨a, cap, h0, h1, h2, h3⟩ := h
  exact ⟨a, cap, h0, h1, fun h => (by cases h), .inl trivial⟩
theorem WkL.nil : WkL [] [] := ⟨fun _ _ h => h, fun h => h⟩
theorem WkL.cons {a b : AV} {l m : List AV} (h : Wk a b) (k : WkL l m) : WkL (a :: l) (b :: m) := by
  refine ⟨fun c vs hv => ?_, fun hr => ?_⟩
  · simp only [Rl] at hv ⊢
    obtain ⟨v, r, h0, h1, h2⟩ := hv
    exact ⟨v, r, h0, h.1 c v h1, k.1 c r h2⟩
  · simp only [roL] at hr ⊢
    exact ⟨h.2 hr.1, k.2 hr.2⟩
theorem WkL.refl (l : List AV) : WkL l l := ⟨fun _ _ h => h, fun h => h⟩
theorem Wk.tup {l m : List AV} (h : WkL l m) : Wk (.tup l) (.tup m) := by
  refine ⟨fun c v hv => ?_, fun hr => ?_⟩
  · simp only [Rv] at hv ⊢
    obtain ⟨vs, h0, h1⟩ := hv
    exact ⟨vs, h0, h.1 c _ h1⟩
  · simp only [ro] at hr ⊢; exact h.2 hr
theorem Wk.agg {l m : List AV} (h : WkL l m) : Wk (.agg l) (.agg m) := by
  refine ⟨fun c v hv => ?_, fun hr => ?_⟩
  · simp only [Rv] at hv ⊢
    obtain ⟨vs, h0, h2, h1⟩ := hv
    exact ⟨vs, h0, h2, h.1 c _ h1⟩
  · simp only [ro] at hr ⊢; exact h.2 hr
theorem Pure.weaken {P : Program} {g : FuncId} {args : List AV} {r r' : AV} (h : Pure P g args r) (hw : Wk r r') : Pure P g args r' :=
  ⟨hw.2 h.1, fun c vs h1 h2 h3 => (h.2 c vs h1 h2 h3).mono fun v w' ⟨c', q1, q2, q3⟩ => ⟨c', q1, q2, hw.1 c' v q3⟩⟩
theorem Pure.args {P : Program} {g : FuncId} {args args' : List AV} {r : AV} (h : Pure P g args' r) (hw : WkL args args') : Pure P g args r :=
  ⟨h.1, fun c vs h1 h2 h3 => h.2 c vs h1 h2 (hw.1 c vs h3)⟩
open Go Go.RowKit
theorem Pure.calls {P : Program} {g : FuncId} {fn : Func} {c : Code} (hf : P.funcs[g]? = some fn) (hb : fn.body = some c) (hname : (fn.name == "runtime.NumGoroutine") = false) {args : List AV} {r : AV} (h : Pure P g args r) {vs : List Value} {W : World}
    (hl : ∀ cx : Cx, cx.w = W → (∀ b, ¬ cx.F b) → Rl cx args vs) : Calls P g vs.toArray W fun e W' => ∃ v, e = .returned v ∧ Below W.heap.size W W' ∧ ∃ cx : Cx, cx.w = W' ∧ Rv cx r v := by
  have h1 := h.2 { w := W, mu := fun _ => none, U := fun _ => False, F := fun _ => False } vs (fun _ => rfl) (fun _ h => h) (hl _ rfl fun _ h => h)
  have hc : (callFunc g vs.toArray).run P W = .ok (.enter g vs.toArray) W := by
    unfold callFunc
    simp only [Sem.run_bind, run_program, Result.andThen_ok, hf, hname, Bool.false_eq_true, if_false, hb, Option.isNone_some, Sem.run_pure]
  unfold CallTo at h1
  rw [hc] at h1
  refine Calls.mono h1 ?_
  rintro e W' ⟨v, rfl, c', rfl, hs, hr⟩
  exact ⟨v, rfl, ⟨hs.os, hs.tape, hs.output, hs.size, fun b hb => hs.keep b hb fun id e he => (by cases he)⟩, c', rfl, hr⟩
def oneB : BS → BS
  | .fresh => .fresh
  | _ => .dead
def onlyB (kl : List Nat) (f : Nat → BS) : Nat → BS := fun j => if j ∈ kl then f j else oneB (f j)
def killL (kl : List Nat) (f : Nat → BS) : Nat → BS := fun j => if j ∈ kl then .dead else f j
@[go_sem] theorem onlyB_at (kl : List Nat) (f : Nat → BS) (j : Nat) : onlyB kl f j = if j ∈ kl then f j else oneB (f j) := rfl
@[go_sem] theorem killL_at (kl : List Nat) (f : Nat → BS) (j : Nat) : killL kl f j = if j ∈ kl then .dead else f j := rfl
def Cx.few (c : Cx) (p : Nat → Prop) [DecidablePred p] (F : Nat → Prop) : Cx := { w := c.w, mu := fun j => if p j then c.mu j else none, U := c.U, F := F }
theorem few_kr {c : Cx} {p : Nat → Prop} [DecidablePred p] {F : Nat → Prop} (hF : ∀ b, F b → c.F b) : Kr c (c.few p F) :=
  ⟨Nat.le_refl _, fun _ _ _ _ _ h => h, fun _ h => h, fun id _ => by simp only [Cx.few]; split <;> simp, fun b _ h => hF b h⟩
theorem few_ok {c : Cx} {f g : Nat → BS} (hk : HOk c f) {p : Nat → Prop} [DecidablePred p] {F : Nat → Prop} (hF : ∀ b, F b → c.F b)
    (hsh : ∀ id e, p id → c.mu id = some e → e.real = true → F e.block) (hg : ∀ j, (p j → g j = f j) ∧ (¬ p j → g j = .dead)) (hfr : ∀ j, ¬ p j → f j ≠ .fresh) : HOk (c.few p F) g := by
  have hkr : Kr c (c.few p F) := few_kr hF
  constructor
  · intro id
    have := hk.used id
    simp only [Cx.few]
    by_cases h : p id
    · rw [(hg id).1 h]; exact this
    · rw [(hg id).2 h]
      exact ⟨fun _ => by simp, fun _ => this.2 (hfr id h)⟩
  · intro id h
    simp only [Cx.few]
    split
    · rename_i hp; rw [(hg id).1 hp] at h; exact hk.none id h
    · rfl
  · intro id sz l h
    by_cases hp : p id
    · rw [(hg id).1 hp] at h
      obtain ⟨e, he, h1, h2, h3⟩ := hk.live id sz l h
      refine ⟨e, by simp only [Cx.few, if_pos hp]; exact he, h1, h2, fun hr => ?_⟩
      obtain ⟨hre, htot, cs, ty, hh, hsz⟩ := h3 hr
      refine ⟨Re.of_get fun i a hi => ?_, htot, cs, ty, hh, hsz⟩
      obtain ⟨v, g1, g2, g3, g4, g5⟩ := hre.get i a hi
      exact ⟨v, g1.keepR hkr, g2, g3, g4, g5⟩
    · rw [(hg id).2 hp] at h; cases h
  · intro id o t h
    by_cases hp : p id
    · rw [(hg id).1 hp] at h
      obtain ⟨e, oo, he, h1, h2, h3, hS, h4, h5, h6⟩ := hk.obj id o t h
      exact ⟨e, oo, by simp only [Cx.few, if_pos hp]; exact he, h1, h2, h3, hS, h4, fun k => (h5 k).keepR hkr, h6⟩
    · rw [(hg id).2 hp] at h; cases h
  · intro i j ei ej hi hj
    simp only [Cx.few] at hi hj
    split at hi
    · split at hj
      · exact hk.inj i j ei ej hi hj
      · cases hj
    · cases hi
  · intro id e h hr
    simp only [Cx.few] at h
    split at h
    · rename_i hp; exact hsh id e hp h hr
    · cases h
theorem pure_dead {P : Program} {g : FuncId} {args : List AV} {r : AV} {c : Cx} {f : Nat → BS} (kl : List Nat) (hk : HOk c f) {vs : List Value} (hl : Rl c args vs) (hp : Pure P g (viewL (onlyB kl f) args) r) (hro : roL (viewL (onlyB kl f) args)) (hfit : fitsL (onlyB kl f) args) (hfr : ∀ j ∈ kl, f j ≠ .fresh) :
    CallTo P g vs.toArray c.w fun v w' => ∃ c', c'.w = w' ∧ HOk c' (killL kl f) ∧ Rv c' r v ∧ Stp c c' := by
  classical
  let F0 : Nat → Prop := fun b => c.F b ∧ ∀ id e, id ∈ kl → c.mu id = some e → e.real = true → e.block ≠ b
  have hF0 : ∀ b, F0 b → c.F b := fun b h => h.1
  let c2 : Cx := c.few (fun j => j ∈ kl ∨ f j = .fresh) c.F
  have hk2 : HOk c2 (onlyB kl f) := few_ok hk (fun _ h => h) (fun id e _ h hr => hk.shut id e h hr) (fun j => ⟨fun h => by
    rw [onlyB_at]; split
    · rfl
    · rename_i hj; rw [h.resolve_left hj]; rfl, fun h => by
    rw [onlyB_at, if_neg fun hj => h (.inl hj)]
    cases hf : f j <;> first | rfl | exact absurd (.inr hf) h⟩) (fun j h hf => h (.inr hf))
  have hl2 : Rl c2 args vs := Rl.keepR (few_kr fun _ h => h) args vs hl
  have hl0 : Rl (c2.bare F0) (viewL (onlyB kl f) args) vs := viewL_rv hk2 (fun b _ h => h.1) (fun id e he hr h => by
    simp only [c2, Cx.few] at he
    split at he
    · rename_i hp
      rcases hp with hp | hp
      · exact h.2 id e hp he hr rfl
      · rw [hk.none id (.inl hp)] at he; cases he
    · cases he) args vs hfit hro hl2
  refine (hp.2 (c2.bare F0) vs (fun _ => rfl) (fun _ h => h) hl0).mono fun v w' ⟨c1, hw, hs, hrv⟩ => ?_
  have hkeep : ∀ b, b < c.w.heap.size → c1.w.heap[b]? = c.w.heap[b]? := fun b hb => hs.keep b hb (fun id e he => by cases he)
  have hst : Stp c { w := c1.w, mu := c.mu, U := c.U, F := fun b => c.F b ∧ b < c.w.heap.size } :=
    ⟨hs.os, hs.tape, hs.output, hs.size, fun b hb _ => hkeep b hb, fun _ h => h, fun _ _ => .inl rfl, fun id e h hr => .inr ⟨id, e, h, hr, rfl⟩, fun b hb => ⟨fun h => h.1, fun _ h => ⟨h, hb⟩⟩⟩
  have hk3 : HOk { w := c1.w, mu := c.mu, U := c.U, F := fun b => c.F b ∧ b < c.w.heap.size } f :=
    hk.of_step hst (fun _ => Iff.rfl) rfl (fun id e he hr => ⟨hk.shut id e he hr, hk.lt he hr⟩) (fun id e he hr => hkeep _ (hk.lt he hr))
  let c3 : Cx := Cx.few { w := c1.w, mu := c.mu, U := c.U, F := fun b => c.F b ∧ b < c.w.heap.size } (fun j => j ∉ kl) (fun b => F0 b ∧ b < c.w.heap.size)
  refine ⟨c3, hw, ?_, ?_, ?_⟩
  · refine few_ok hk3 (fun b h => ⟨h.1.1, h.2⟩) (fun id e hp he hr => ⟨⟨hk.shut id e he hr, fun j e' hj he' hr' hb => ?_⟩, hk.lt he hr⟩) (fun j => ⟨fun h => if_neg h, fun h => if_pos (Decidable.not_not.1 h)⟩) (fun j h => hfr j (Decidable.not_not.1 h))
    exact hp (hk.inj j id e' e he' he hr' hr hb ▸ hj)
  · refine Rv.ro (c := c1) (c' := c3) rfl (fun b hb h => ?_) r v hp.1 hrv
    exact (hs.F b h.2).2 (fun _ _ he => by cases he) h.1
  · refine ⟨hs.os, hs.tape, hs.output, hs.size, fun b hb _ => hkeep b hb, fun _ h => h, fun id _ => ?_, fun id e h hr => ?_, fun b hb => ⟨fun h => h.1.1, fun hn h => ⟨⟨h, fun id e _ he hr => hn id e he hr⟩, hb⟩⟩⟩
    · simp only [c3, Cx.few]; split <;> simp
    · simp only [c3, Cx.few] at h
      split at h
      · exact .inr ⟨id, e, h, hr, rfl⟩
      · cases h
theorem CA.of_pure_dead {P : Program} {g : FuncId} {args args' : List AV} {r : AV} {f : Nat → BS} {n : Nat} {K : AV → (Nat → BS) → Nat → Prop} (kl : List Nat) (hp : Pure P g args' r) (hv : viewL (onlyB kl f) args = args') (hro : roL args') (hfit : fitsL (onlyB kl f) args) (hfr : ∀ j ∈ kl, f j ≠ .fresh)
    (hK : K r (killL kl f) n) : CA P g args f n K := by
  subst hv
  refine fun c vs h1 h2 h3 => (pure_dead kl h1 h3 hp hro hfit hfr).mono fun v w' ⟨c', q1, q2, q3, q4⟩ => ⟨c', r, killL kl f, n, q1, hK, q2, q3, q4, Nat.le_refl _, fun j => ?_⟩
  rw [← h2 j, killL_at]
  split
  · rename_i hj
    exact ⟨fun h => by (cases h), fun h => absurd h (hfr j hj)⟩
  · exact Iff.rfl
theorem goC_dead {P : Program} {z : Bool} {ne : Nat} {Q : AEx → St → Prop} {k : List Itm} {t : Nat → AV} {f : Nat → BS} {n : Nat} {g : FuncId} {args args' : List AV} {d : Option Tmp} (kl : List Nat) (r : AV) (hp : Pure P g args' r) (hv : viewL (onlyB kl f) args = args') (hro : roL args') (hfit : fitsL (onlyB kl f) args) (hfr : ∀ j ∈ kl, f j ≠ .fresh) (h : go P z ne Q k (putA t d r) (killL kl f) n) : goC P z ne Q g args d k t f n := CA.of_pure_dead kl hp hv hro hfit hfr h
def oneF (sz : Nat) (l : List AV) : Nat → BS := fun j => if j = 0 then .live sz l else .fresh
@[go_sem] theorem oneF_at (sz : Nat) (l : List AV) (j : Nat) : oneF sz l j = if j = 0 then .live sz l else .fresh := rfl
def InX (P : Program) (g : FuncId) (args0 : List AV) (sz : Nat) (l : List AV) (R : AV → List AV → Prop) : Prop :=
  CA P g args0 (oneF sz l) 1 fun r f1 _ => ∃ l', R r l' ∧ roL l' ∧ (ro r ∨ ∃ s off k, r = .own s 0 off k) ∧ f1 0 = .live sz l'
def InP (P : Program) (g : FuncId) (args0 : List AV) (sz : Nat) (l : List AV) (r0 : AV) (l' : List AV) : Prop :=
  CA P g args0 (oneF sz l) 1 fun r f1 _ => r = r0 ∧ f1 0 = .live sz l'
theorem inx_call {P : Program} {g : FuncId} {args0 : List AV} {sz : Nat} {l : List AV} {R : AV → List AV → Prop} (h : InX P g args0 sz l R) {c : Cx} {f : Nat → BS} (hk : HOk c f) {id : Nat} (hf : f id = .live sz l) (hl : roL l) (hc : cloL 1 args0) {vs : List Value} (hv : Rl c (renL (fun _ => id) args0) vs) :
    CallTo P g vs.toArray c.w fun v w' => ∃ c' r0 l', R r0 l' ∧ c'.w = w' ∧ HOk c' (upd f id (.live sz l')) ∧ Rv c' (ren (fun _ => id) r0) v ∧ Stp c c' := by
  obtain ⟨e, he, g1, g2, g3⟩ := hk.live id sz l hf
  have hU : c.U id := (hk.used id).2 (by rw [hf]; simp)
  let c2 : Cx := { w := c.w, mu := fun j => if j = 0 then c.mu id else none, U := fun j => j = 0, F := c.F }
  have hk2 : HOk c2 (oneF sz l) := by
    constructor
    · intro j; simp only [c2, oneF]; by_cases hj : j = 0 <;> simp [hj]
    · intro j hj
      simp only [c2]; split
      · rename_i h0; subst h0; simp [oneF] at hj
      · rfl
    · intro j sz' l2 hj
      simp only [oneF] at hj
      split at hj
      · rename_i h0; subst h0
        cases hj
        refine ⟨e, by simp only [c2, if_pos rfl]; exact he, g1, g2, fun hre => ?_⟩
        obtain ⟨q1, q2, q3⟩ := g3 hre
        exact ⟨Re.ro (c := c) (c' := c2) rfl (fun _ _ h => h) _ _ _ _ hl q1, q2, q3⟩
      · cases hj
    · intro j o t hj
      simp only [oneF] at hj
      split at hj <;> cases hj
    · intro i j ei ej hi hj
      simp only [c2] at hi hj
      split at hi
      · split at hj
        · intros; omega
        · cases hj
      · cases hi
    · intro j e' hj hre
      simp only [c2] at hj
      split at hj
      · exact hk.shut id e' hj hre
      · cases hj
  have hl2 : Rl c2 args0 vs := Rl.clo (c := c) (c' := c2) (n := 1) rfl rfl (fun j hj => by simp only [c2]; omega) (rn := fun _ => id) (fun j e' hj => by
    simp only [c2] at hj
    split at hj
    · exact hj
    · cases hj) args0 vs hc hv
  refine (h c2 vs hk2 (fun j => by simp only [oneF]; by_cases hj : j = 0 <;> simp [hj]; omega) hl2).mono fun v w' ⟨c3, r, f1, n', q1, ⟨l', hR, hl', hr, q3⟩, q4, q5, q6, _, _⟩ => ?_
  obtain ⟨e3, he3, p1, p2, p3⟩ := q4.live 0 sz l' q3
  have h0 : e3 = e := by
    rcases q6.mu 0 (by simp only [c2]) with hm | hm
    · have h9 : c2.mu 0 = some e := he
      rw [he3, h9] at hm; injection hm
    · rw [he3] at hm; cases hm
  subst h0
  have hsz : c.w.heap.size ≤ c3.w.heap.size := q6.size
  have hno : ∀ b, (e3.real = true → e3.block ≠ b) → ∀ j e', c2.mu j = some e' → e'.real = true → e'.block ≠ b := by
    intro b hb j e' hj hre
    simp only [c2] at hj
    split at hj
    · rw [he] at hj; cases hj; exact hb hre
    · cases hj
  let c' : Cx := { w := c3.w, mu := c.mu, U := c.U, F := fun b => c.F b ∧ b < c.w.heap.size }
  have hF : ∀ b, b < c3.w.heap.size → c'.F b → c3.F b := by
    intro b _ hb
    by_cases hbb : e3.real = true ∧ e3.block = b
    · rw [← hbb.2]; exact q4.shut 0 e3 he3 hbb.1
    · exact (q6.F b hb.2).2 (hno b fun hre he => hbb ⟨hre, he⟩) hb.1
  have hst : Stp c c' := by
    refine ⟨q6.os, q6.tape, q6.output, q6.size, fun b hb hn => q6.keep b hb (hno b fun hre => hn id e3 he hre), fun _ h => h, fun _ _ => .inl rfl, fun j e' hj hre => .inr ⟨j, e', hj, hre, rfl⟩, fun b hb => ⟨fun h => h.1, fun _ h => ⟨h, hb⟩⟩⟩
  have hother : ∀ j e', j ≠ id → c.mu j = some e' → e'.real = true → c3.w.heap[e'.block]? = c.w.heap[e'.block]? := fun j e' hj hm hre =>
    q6.keep _ (hk.lt hm hre) (hno _ fun hre' hb => hj (hk.inj j id e' e3 hm he hre hre' hb.symm))
  refine ⟨c', r, l', hR, q1, ?_, ?_, hst⟩
  · constructor
    · intro j
      by_cases hj : j = id
      · subst hj; rw [upd_same]; exact ⟨fun _ => by simp, fun _ => hU⟩
      · rw [upd_ne _ _ _ hj]; exact hk.used j
    · intro j hj
      by_cases hji : j = id
      · subst hji; rw [upd_same] at hj; simp at hj
      · rw [upd_ne _ _ _ hji] at hj; exact hk.none j hj
    · intro j sz' l2 hj
      by_cases hji : j = id
      · subst hji; rw [upd_same] at hj; cases hj
        refine ⟨e3, he, p1, p2, fun hre => ?_⟩
        obtain ⟨u1, u2⟩ := p3 hre
        exact ⟨Re.ro (c := c3) (c' := c') rfl hF _ _ _ _ hl' u1, u2⟩
      · rw [upd_ne _ _ _ hji] at hj
        obtain ⟨e', he', u1, u2, u3⟩ := hk.live j sz' l2 hj
        refine ⟨e', he', u1, u2, fun hre => ?_⟩
        obtain ⟨hre1, htot, cs, ty, hh, hsz'⟩ := u3 hre
        have hb := hother j e' hji he' hre
        refine ⟨Re.of_get fun i a hi => ?_, htot, cs, ty, by rw [← hh]; exact hb, hsz'⟩
        obtain ⟨v', x1, x2, x3, x4, x5⟩ := hre1.get i a hi
        exact ⟨v', x1.keep hst hk.shut, x2, x3, x4, x5.block hb⟩
    · intro j o t hj
      by_cases hji : j = id
      · subst hji; rw [upd_same] at hj; cases hj
      · rw [upd_ne _ _ _ hji] at hj
        obtain ⟨e', oo, he', u1, u2, u3, uS, u4, u5, u6⟩ := hk.obj j o t hj
        exact ⟨e', oo, he', u1, u2, u3, uS, (hother j e' hji he' u1).trans u4, fun k => (u5 k).keep hst hk.shut, u6⟩
    · exact hk.inj
    · exact fun j e' hj hre => ⟨hk.shut j e' hj hre, hk.lt hj hre⟩
  · rcases hr with hr | ⟨s, off, k, rfl⟩
    · rw [ren_ro _ _ hr]
      exact Rv.ro (c := c3) (c' := c') rfl hF r v hr q5
    · simp only [ren, Rv] at q5 ⊢
      obtain ⟨x1, x2, x3⟩ := q5
      rw [he3] at x2 x3
      exact ⟨hU, fun e' he' => by rw [he] at he'; exact x2 e' he', by simpa [c', he] using x3⟩
theorem inp_call {P : Program} {g : FuncId} {args0 : List AV} {r0 : AV} {sz : Nat} {l l' : List AV} (h : InP P g args0 sz l r0 l') {c : Cx} {f : Nat → BS} (hk : HOk c f) {id : Nat} (hf : f id = .live sz l) (hl : roL l) (hl' : roL l') (hc : cloL 1 args0) (hr : ro r0 ∨ ∃ s off k, r0 = .own s 0 off k) {vs : List Value} (hv : Rl c (renL (fun _ => id) args0) vs) :
    CallTo P g vs.toArray c.w fun v w' => ∃ c', c'.w = w' ∧ HOk c' (upd f id (.live sz l')) ∧ Rv c' (ren (fun _ => id) r0) v ∧ Stp c c' := by
  have hx : InX P g args0 sz l fun r m => r = r0 ∧ m = l' := CA.mono h fun r f' n' ⟨e1, e2⟩ => ⟨l', ⟨e1, rfl⟩, hl', by rw [e1]; exact hr, e2⟩
  refine (inx_call hx hk hf hl hc hv).mono fun v w' ⟨c', r, m, ⟨e1, e2⟩, q⟩ => ?_
  subst e1; subst e2
  exact ⟨c', q⟩
theorem goC_inx {P : Program} {z : Bool} {ne : Nat} {Q : AEx → St → Prop} {k : List Itm} {t : Nat → AV} {f : Nat → BS} {n : Nat} {g : FuncId} {args args0 : List AV} {d : Option Tmp} {sz : Nat} {l : List AV} {R : AV → List AV → Prop} (id : Nat) (hp : InX P g args0 sz l R) (ha : renL (fun _ => id) args0 = args) (hf : f id = .live sz l) (hl : roL l) (hc : cloL 1 args0)
    (h : ∀ r0 l', R r0 l' → go P z ne Q k (putA t d (ren (fun _ => id) r0)) (upd f id (.live sz l')) n) : goC P z ne Q g args d k t f n := by
  subst ha
  refine fun c vs h1 h2 h3 => (inx_call hp h1 hf hl hc h3).mono fun v w' ⟨c', r0, l', hR, q1, q2, q3, q4⟩ => ⟨c', _, _, n, q1, h r0 l' hR, q2, q3, q4, Nat.le_refl _, fun j => ?_⟩
  by_cases hj : j = id
  · subst hj
    rw [upd_same, ← h2 j, hf]
    simp
  · rw [upd_ne _ _ _ hj]; exact h2 j
theorem goC_inp {P : Program} {z : Bool} {ne : Nat} {Q : AEx → St → Prop} {k : List Itm} {t : Nat → AV} {f : Nat → BS} {n : Nat} {g : FuncId} {args args0 : List AV} {d : Option Tmp} {sz : Nat} {l l' : List AV} {r0 : AV} (id : Nat) (hp : InP P g args0 sz l r0 l') (ha : renL (fun _ => id) args0 = args) (hf : f id = .live sz l) (hl : roL l) (hl' : roL l') (hc : cloL 1 args0) (hr : ro r0 ∨ ∃ s off k, r0 = .own s 0 off k)
    (h : go P z ne Q k (putA t d (ren (fun _ => id) r0)) (upd f id (.live sz l')) n) : goC P z ne Q g args d k t f n := by
  subst ha
  refine fun c vs h1 h2 h3 => (inp_call hp h1 hf hl hl' hc hr h3).mono fun v w' ⟨c', q1, q2, q3, q4⟩ => ⟨c', _, _, n, q1, h, q2, q3, q4, Nat.le_refl _, fun j => ?_⟩
  by_cases hj : j = id
  · subst hj
    rw [upd_same, ← h2 j, hf]
    simp
  · rw [upd_ne _ _ _ hj]; exact h2 j
theorem goD_inp {P : Program} {bq z : Bool} {ne : Nat} {Q : AEx → St → Prop} {k : List Itm} {t : Nat → AV} {f : Nat → BS} {n : Nat} {g : FuncId} {args args0 : List AV} {d : Option Tmp} {sz : Nat} {l : List AV} {r0 : AV} (id : Nat) (hp : InP P g args0 sz l r0 l) (ha : renL (fun _ => id) args0 = args) (hf : f id = .live sz l) (hl : roL l) (hc : cloL 1 args0) (hr : ro r0 ∨ ∃ s off k, r0 = .own s 0 off k)
    (h : go P z ne Q k (putA t d (ren (fun _ => id) r0)) f n) : goD P z ne Q bq g args d k t f n := by
  subst ha
  refine goD_cv _ (fun f' hf' c vs h1 h3 => ?_) h
  have hid : f' id = .live sz l := by rw [hf' id (by rw [hf]; simp), hf]
  refine (inp_call hp h1 hid hl hl hc hr h3).mono fun v w' ⟨c', q1, q2, q3, q4⟩ => ⟨c', q1, ?_, q3, q4⟩
  have e : upd f' id (.live sz l) = f' := by
    funext j
    by_cases hj : j = id
    · subst hj; rw [upd_same, hid]
    · rw [upd_ne _ _ _ hj]
  rw [← e]; exact q2
theorem goD_dead {P : Program} {bq z : Bool} {ne : Nat} {Q : AEx → St → Prop} {k : List Itm} {t : Nat → AV} {f : Nat → BS} {n : Nat} {g : FuncId} {args args' : List AV} {d : Option Tmp} (kl : List Nat) (r : AV) (hb : bq = true) (hp : Pure P g args' r) (hv : viewL (onlyB kl f) args = args') (hro : roL args') (hfit : fitsL (onlyB kl f) args) (hfr : ∀ j ∈ kl, f j ≠ .fresh) (h : go P z ne Q k (putA t d r) (killL kl f) n) : goD P z ne Q bq g args d k t f n := by
  subst hv
  refine .inr ⟨hb, fun c vs h1 h3 => (pure_dead kl h1 h3 hp hro hfit hfr).mono fun v w' ⟨c', q1, q2, q3, q4⟩ => ⟨c', r, killL kl f, q1, h, q2, q3, q4, fun j => ?_⟩⟩
  rw [killL_at]
  split
  · rename_i hj
    exact ⟨fun h => by (cases h), fun h => absurd h (hfr j hj)⟩
  · exact Iff.rfl
theorem goD_inx {P : Program} {bq z : Bool} {ne : Nat} {Q : AEx → St → Prop} {k : List Itm} {t : Nat → AV} {f : Nat → BS} {n : Nat} {g : FuncId} {args args0 : List AV} {d : Option Tmp} {sz : Nat} {l : List AV} {R : AV → List AV → Prop} (id : Nat) (hb : bq = true) (hp : InX P g args0 sz l R) (ha : renL (fun _ => id) args0 = args) (hf : f id = .live sz l) (hl : roL l) (hc : cloL 1 args0)
    (h : ∀ r0 l', R r0 l' → go P z ne Q k (putA t d (ren (fun _ => id) r0)) (upd f id (.live sz l')) n) : goD P z ne Q bq g args d k t f n := by
  subst ha
  refine .inr ⟨hb, fun c vs h1 h3 => (inx_call hp h1 hf hl hc h3).mono fun v w' ⟨c', r0, l', hR, q1, q2, q3, q4⟩ => ⟨c', _, _, q1, h r0 l' hR, q2, q3, q4, fun j => ?_⟩⟩
  by_cases hj : j = id
  · subst hj
    rw [upd_same, hf]
    simp
  · rw [upd_ne _ _ _ hj]
def MkX (P : Program) (g : FuncId) (args : List AV) (sz : Nat) (R : Nat → List AV → Prop) : Prop :=
  CA P g args (fun _ => .fresh) 0 fun r f1 _ => ∃ id k l, r = .own sz id 0 k ∧ f1 id = .live sz l ∧ roL l ∧ R k l
theorem mk_call {P : Program} {g : FuncId} {args : List AV} {sz : Nat} {R : Nat → List AV → Prop} (h : MkX P g args sz R) {c : Cx} {f : Nat → BS} (hk : HOk c f) {n0 : Nat} (hn : f n0 = .fresh) (hro : roL args) {vs : List Value} (hv : Rl c args vs) :
    CallTo P g vs.toArray c.w fun v w' => ∃ c' k l, R k l ∧ roL l ∧ c'.w = w' ∧ HOk c' (upd f n0 (.live sz l)) ∧ Rv c' (.own sz n0 0 k) v ∧ Stp c c' := by
  have hU0 : ¬ c.U n0 := fun hu => (hk.used n0).1 hu hn
  have hk0 : HOk (c.bare c.F) (fun _ => .fresh) := by
    constructor
    · intro id; simp [Cx.bare]
    · intro id _; rfl
    · intro id sz l h; cases h
    · intro id o t h; cases h
    · intro i j ei ej h; cases h
    · intro id e h; cases h
  have hl0 : Rl (c.bare c.F) args vs := Rl.ro (c := c) (c' := c.bare c.F) rfl (fun _ _ h => h) args vs hro hv
  refine (h (c.bare c.F) vs hk0 (fun _ => by simp) hl0).mono fun v w' ⟨c1, r, f1, n', q1, ⟨id, k, l, q2, q3, q3r, q4⟩, q5, q6, q7, _, _⟩ => ?_
  subst q2
  obtain ⟨e, he, p1, p2, p3⟩ := q5.live id sz l q3
  have hnew : e.real = true → c.w.heap.size ≤ e.block := fun hre => by
    rcases q7.new id e he hre with h1 | ⟨j, e', hj, _⟩
    · exact h1
    · cases hj
  have hsz : c.w.heap.size ≤ c1.w.heap.size := q7.size
  have hkeep : ∀ b, b < c.w.heap.size → c1.w.heap[b]? = c.w.heap[b]? := fun b hb => q7.keep b hb (fun _ _ he => by cases he)
  let c' : Cx := { w := c1.w, mu := upd c.mu n0 (some e), U := fun j => c.U j ∨ j = n0, F := fun b => (c.F b ∧ b < c.w.heap.size) ∨ (e.real = true ∧ b = e.block) }
  have hF : ∀ b, b < c1.w.heap.size → c'.F b → c1.F b := by
    intro b _ hb
    rcases hb with ⟨h1, h2⟩ | ⟨h1, h2⟩
    · exact (q7.F b h2).2 (fun _ _ he => by cases he) h1
    · rw [h2]; exact q5.shut id e he h1
  have hst : Stp c c' := by
    refine ⟨q7.os, q7.tape, q7.output, q7.size, fun b hb _ => hkeep b hb, fun _ h => .inl h, fun j hj => ?_, fun j e' hj hre => ?_, fun b hb => ⟨fun h => ?_, fun _ h => .inl ⟨h, hb⟩⟩⟩
    · exact .inl (upd_ne _ _ _ fun hh => hU0 (hh ▸ hj))
    · by_cases hjn : j = n0
      · subst hjn
        simp only [c', upd_same, Option.some.injEq] at hj
        subst hj; exact .inl (hnew hre)
      · simp only [c'] at hj
        rw [upd_ne _ _ _ hjn] at hj
        exact .inr ⟨j, e', hj, hre, rfl⟩
    · rcases h with h | ⟨h1, h2⟩
      · exact h.1
      · have := hnew h1; omega
  refine ⟨c', k, l, q4, q3r, q1, ?_, ?_, hst⟩
  · constructor
    · intro j
      by_cases hj : j = n0
      · subst hj; rw [upd_same]; exact ⟨fun _ => by simp, fun _ => .inr rfl⟩
      · rw [upd_ne _ _ _ hj]
        exact ⟨fun h => (hk.used j).1 (h.resolve_right hj), fun h => .inl ((hk.used j).2 h)⟩
    · intro j hj
      by_cases hji : j = n0
      · subst hji; rw [upd_same] at hj; simp at hj
      · rw [upd_ne _ _ _ hji] at hj
        simp only [c']; rw [upd_ne _ _ _ hji]; exact hk.none j hj
    · intro j sz' l2 hj
      by_cases hji : j = n0
      · subst hji; rw [upd_same] at hj; cases hj
        refine ⟨e, by simp only [c', upd_same], p1, p2, fun hre => ?_⟩
        obtain ⟨u1, u2⟩ := p3 hre
        exact ⟨Re.ro (c := c1) (c' := c') rfl hF _ _ _ _ q3r u1, u2⟩
      · rw [upd_ne _ _ _ hji] at hj
        obtain ⟨e', he', u1, u2, u3⟩ := hk.live j sz' l2 hj
        refine ⟨e', by simp only [c']; rw [upd_ne _ _ _ hji]; exact he', u1, u2, fun hre => ?_⟩
        obtain ⟨hre1, htot, cs, ty, hh, hsz'⟩ := u3 hre
        have hb := hkeep _ (hk.lt he' hre)
        refine ⟨Re.of_get fun i a hi => ?_, htot, cs, ty, by rw [← hh]; exact hb, hsz'⟩
        obtain ⟨v', x1, x2, x3, x4, x5⟩ := hre1.get i a hi
        exact ⟨v', x1.keep hst hk.shut, x2, x3, x4, x5.block hb⟩
    · intro j o t hj
      by_cases hji : j = n0
      · subst hji; rw [upd_same] at hj; cases hj
      · rw [upd_ne _ _ _ hji] at hj
        obtain ⟨e', oo, he', u1, u2, u3, uS, u4, u5, u6⟩ := hk.obj j o t hj
        exact ⟨e', oo, by simp only [c']; rw [upd_ne _ _ _ hji]; exact he', u1, u2, u3, uS, (hkeep _ (hk.lt he' u1)).trans u4, fun k => (u5 k).keep hst hk.shut, u6⟩
    · intro i j ei ej hi hj hri hrj hb
      simp only [c'] at hi hj
      by_cases hii : i = n0
      · by_cases hjj : j = n0
        · rw [hii, hjj]
        · rw [hii, upd_same] at hi
          rw [upd_ne _ _ _ hjj] at hj
          injection hi with hi; subst hi
          have := hnew hri; have := hk.lt hj hrj; omega
      · rw [upd_ne _ _ _ hii] at hi
        by_cases hjj : j = n0
        · rw [hjj, upd_same] at hj
          injection hj with hj; subst hj
          have := hnew hrj; have := hk.lt hi hri; omega
        · rw [upd_ne _ _ _ hjj] at hj
          exact hk.inj i j ei ej hi hj hri hrj hb
    · intro j e' hj hre
      simp only [c'] at hj
      by_cases hjj : j = n0
      · rw [hjj, upd_same] at hj
        injection hj with hj; subst hj
        exact .inr ⟨hre, rfl⟩
      · rw [upd_ne _ _ _ hjj] at hj
        exact .inl ⟨hk.shut j e' hj hre, hk.lt hj hre⟩
  · simp only [Rv] at q6 ⊢
    obtain ⟨x1, x2, x3⟩ := q6
    rw [he] at x2 x3
    exact ⟨.inr rfl, fun e' he' => by simp only [c', upd_same, Option.some.injEq] at he'; subst he'; exact p1, by simpa [c'] using x3⟩
theorem goC_mk {P : Program} {z : Bool} {ne : Nat} {Q : AEx → St → Prop} {k : List Itm} {t : Nat → AV} {f : Nat → BS} {n : Nat} {g : FuncId} {args : List AV} {d : Option Tmp} {sz : Nat} {R : Nat → List AV → Prop} (hp : MkX P g args sz R) (hro : roL args)
    (h : ∀ m l, R m l → go P z ne Q k (putA t d (.own sz n 0 m)) (upd f n (.live sz l)) (n + 1)) : goC P z ne Q g args d k t f n := by
  refine fun c vs h1 h2 h3 => (mk_call hp h1 ((h2 n).2 (Nat.le_refl _)) hro h3).mono fun v w' ⟨c', m, l, hR, hrl, q1, q2, q3, q4⟩ => ⟨c', _, _, n + 1, q1, h m l hR, q2, q3, q4, by omega, fun j => ?_⟩
  by_cases hj : j = n
  · subst hj; rw [upd_same]; simp
  · rw [upd_ne _ _ _ hj, h2 j]; omega
theorem Pure.of_ca {P : Program} {g : FuncId} {args : List AV} {r : AV} (hro : ro r) (hca : CA P g args (fun _ => .fresh) 0 fun r0 f' _ => fits f' r0 ∧ ro (view f' r0) ∧ Wk (view f' r0) r) : Pure P g args r := by
  refine ⟨hro, fun cx vs hm0 hU0 hl => ?_⟩
  have hk0 : HOk cx (fun _ => .fresh) := by
    constructor
    · intro id; simp [hU0 id]
    · intro id _; exact hm0 id
    · intro id sz l h; cases h
    · intro id o t h; cases h
    · intro i j ei ej h; rw [hm0] at h; cases h
    · intro id e h; rw [hm0] at h; cases h
  refine (hca cx vs hk0 (fun _ => by simp) hl).mono fun v w' ⟨c', r0, f', n', q1, q2, q3, q4, q5, _⟩ => ?_
  obtain ⟨g1, g2, g3⟩ := q2
  refine ⟨c'.bare fun b => cx.F b ∧ b < cx.w.heap.size, q1, ?_, ?_⟩
  · refine ⟨q5.os, q5.tape, q5.output, q5.size, q5.keep, fun id h => absurd h (hU0 id), fun id h => absurd h (hU0 id), fun id e h => (by cases h), fun b hb => ⟨fun h => h.1, fun _ h => ⟨h, hb⟩⟩⟩
  · refine g3.1 _ _ ?_
    refine view_rv q3 (fun b _ h => (q5.F b h.2).2 (fun id e he _ => absurd he (by rw [hm0 id]; exact fun h => nomatch h)) h.1) (fun id e he hr h => ?_) r0 v g1 g2 q4
    rcases q5.new id e he hr with h1 | ⟨j, e', hj, _⟩
    · omega
    · rw [hm0] at hj; cases hj
theorem le.trans {ne : Nat} {a b c : St} (h : le ne a b) (k : le ne b c) : le ne a c := fun c0 N x w hs => k c0 N x w (h c0 N x w hs)
def frz (g : Nat) (l : List AV) : AV → AV
  | .own sz id off len => if id = g ∧ off + len ≤ l.length then .sl sz false ((l.drop off).take len) else .own sz id off len
  | a => a
def frzB (g : Nat) (l : List AV) (j : Nat) (b : BS) : BS := if j = g then .dead else match b with
  | .live sz m => .live sz (m.map (frz g l))
  | b => b
section
variable {P : Program} {z : Bool} {ne : Nat} {Q : AEx → St → Prop} {k : List Itm} {t : Nat → AV} {f : Nat → BS} {n : Nat}
end
attribute [go_sem] frz frzB
theorem anyA_end {P : Program} {z : Bool} {ops : Array Oper} {n0 n : Nat} {K : (Nat → AV) → (Nat → BS) → Prop} {listed : Array Bool} {t : Nat → AV} {f : Nat → BS} (hr : Region.ready .any ops listed = []) (h : K t f) : anyA P z ops n0 n K 0 listed t f := by unfold anyA; exact ⟨hr, h⟩
theorem anyA_1 {P : Program} {z : Bool} {ops : Array Oper} {n0 n fuel : Nat} {K : (Nat → AV) → (Nat → BS) → Prop} {listed : Array Bool} {t : Nat → AV} {f : Nat → BS} {i : Nat} (hr : Region.ready .any ops listed = [i]) (h : atA P z ops n0 n i (fun t' f' => anyA P z ops n0 n K fuel (listed.setIfInBounds i true) t' f') t f) : anyA P z ops n0 n K (fuel + 1) listed t f := by
  unfold anyA
  rw [hr]
  refine ⟨fun e => (by cases e), fun j hj => ?_⟩
  simp only [List.mem_cons, List.not_mem_nil, or_false] at hj
  subst hj
  exact h
theorem anyA_2 {P : Program} {z : Bool} {ops : Array Oper} {n0 n fuel : Nat} {K : (Nat → AV) → (Nat → BS) → Prop} {listed : Array Bool} {t : Nat → AV} {f : Nat → BS} {i j : Nat} (hr : Region.ready .any ops listed = [i, j]) (h : atA P z ops n0 n i (fun t' f' => anyA P z ops n0 n K fuel (listed.setIfInBounds i true) t' f') t f) (h' : atA P z ops n0 n j (fun t' f' => anyA P z ops n0 n K fuel (listed.setIfInBounds j true) t' f') t f) : anyA P z ops n0 n K (fuel + 1) listed t f := by
  unfold anyA
  rw [hr]
  refine ⟨fun e => (by cases e), fun m hm => ?_⟩
  simp only [List.mem_cons, List.not_mem_nil, or_false] at hm
  rcases hm with rfl | rfl
  · exact h
  · exact h'
theorem atA_load {P : Program} {ops : Array Oper} {n0 n i : Nat} {K : (Nat → AV) → (Nat → BS) → Prop} {t : Nat → AV} {f : Nat → BS} {d a : Tmp} {ty T : TypeId} {pos : String} {af : Array Edge} {ti : TI} {b s : Nat} {cs : List AV}
    (ho : ops[i]? = some ⟨some d, .load ty (.tmp a), T, pos, af, none⟩) (hti : tiOf P ty = some ti) (hk : ti.kind.agg = true) (hm : cs.length = ti.size) (ha : t a = .ptr b 0 0) (hb : b < n0) (hf : f b = .live s [.agg cs]) (h : K (upd t d (.agg cs)) f) : atA P false ops n0 n i K t f := by
  have hz : fz (hdB false true ops n0 i) f b = .live s [.agg cs] := by rw [fz_f1, if_neg (by omega)]; exact hf
  have ht : cs.take ti.size = cs := by rw [← hm]; exact List.take_length
  unfold atA
  rw [ho]
  simp only [aop, clsOf, rop, hti, aev, ha, hz, hk, pack, AV.cells, List.getD_cons_zero, List.drop_zero, List.length_cons, List.length_nil, if_true, ht, hm, true_or, and_true, Nat.le_refl]
  exact ⟨by omega, h⟩
theorem atA_store {P : Program} {ops : Array Oper} {n0 n i : Nat} {K : (Nat → AV) → (Nat → BS) → Prop} {t : Nat → AV} {f : Nat → BS} {x v : Tmp} {ty T : TypeId} {pos : String} {af : Array Edge} {ti : TI} {b s : Nat} {cs w : List AV}
    (ho : ops[i]? = some ⟨none, .store ty (.tmp x) (.tmp v), T, pos, af, none⟩) (hti : tiOf P ty = some ti) (hm : cs.length = ti.size) (h0 : 0 < ti.size) (hx : t x = .ptr b 0 0) (hv : t v = .agg cs) (hf : f b = .live s [.agg w]) (hw : w.length = ti.size) (h : K t (upd f b (.live s [.agg cs]))) : atA P false ops n0 n i K t f := by
  have hl : (AV.agg w).lay 0 cs = .agg cs := by
    unfold AV.lay
    simp only [List.take_zero, List.nil_append, Nat.zero_add]
    rw [List.drop_of_length_le (by omega), List.append_nil]
  unfold atA
  rw [ho]
  simp only [aop, clsOf, lop, hti, aev, hx, hv, hf, AV.shaped, AV.cells, List.getD_cons_zero, List.length_cons, List.length_nil, hm, hw, hl, List.set_cons_zero, beq_self_eq_true, Nat.zero_add, Nat.le_refl, h0, Bool.false_and, Bool.false_eq_true, false_implies, true_and, putA]
  exact ⟨by omega, h⟩
def twoOk (O : Array Oper) : Bool :=
  let L := Array.replicate O.size false
  let s := fun (l : Array Bool) (i : Nat) => l.setIfInBounds i true
  decide (O.size = 4 ∧ Region.ready .any O L = [0, 1] ∧ Region.ready .any O (s L 0) = [1, 2] ∧ Region.ready .any O (s L 1) = [0] ∧ Region.ready .any O (s (s L 0) 1) = [2] ∧ Region.ready .any O (s (s L 0) 2) = [1] ∧ Region.ready .any O (s (s L 1) 0) = [2] ∧
    Region.ready .any O (s (s (s L 0) 1) 2) = [3] ∧ Region.ready .any O (s (s (s L 0) 2) 1) = [3] ∧ Region.ready .any O (s (s (s L 1) 0) 2) = [3] ∧
    Region.ready .any O (s (s (s (s L 0) 1) 2) 3) = [] ∧ Region.ready .any O (s (s (s (s L 0) 2) 1) 3) = [] ∧ Region.ready .any O (s (s (s (s L 1) 0) 2) 3) = [])
theorem go_two {P : Program} {ne : Nat} {Q : AEx → St → Prop} {k : List Itm} {t : Nat → AV} {f : Nat → BS} {n id : Nat} {O : Array Oper} {ty T0 T1 T2 T3 : TypeId} {p0 p1 p2 p3 : String} {a0 a1 a2 a3 : Array Edge} {a d0 d1 x2 x3 : Tmp}
    (o0 : O[0]? = some ⟨some d0, .load ty (.tmp a), T0, p0, a0, none⟩) (o1 : O[1]? = some ⟨some d1, .load ty (.tmp a), T1, p1, a1, none⟩) (o2 : O[2]? = some ⟨none, .store ty (.tmp x2) (.tmp d0), T2, p2, a2, none⟩) (o3 : O[3]? = some ⟨none, .store ty (.tmp x3) (.tmp d1), T3, p3, a3, none⟩)
    (hO : twoOk O = true) {ti : TI} (hti : tiOf P ty = some ti) (hk : ti.kind.agg = true) (h0 : 0 < ti.size) (hd : d0 ≠ d1 ∧ a ≠ d0 ∧ a ≠ d1 ∧ x2 ≠ d0 ∧ x2 ≠ d1 ∧ x3 ≠ d0 ∧ x3 ≠ d1)
    {i j2 j3 s s2 s3 : Nat} {cs w2 w3 : List AV} (ha : t a = .ptr i 0 0) (h2 : t x2 = .ptr j2 0 0) (h3 : t x3 = .ptr j3 0 0) (hi : i < n) (hij : i ≠ j2 ∧ i ≠ j3 ∧ j2 ≠ j3)
    (fi : f i = .live s [.agg cs]) (f2 : f j2 = .live s2 [.agg w2]) (f3 : f j3 = .live s3 [.agg w3]) (hcs : cs.length = ti.size) (hw2 : w2.length = ti.size) (hw3 : w3.length = ti.size)
    (g : go P true ne Q k (upd (upd t d0 (.agg cs)) d1 (.agg cs)) (dB (n + 4) (upd (upd f j2 (.live s2 [.agg cs])) j3 (.live s3 [.agg cs]))) (n + 4)) : go P true ne Q (.code (.region id O true) :: k) t f n := by
  obtain ⟨hs, r, r0, r1, r01, r02, r10, r012, r021, r102, e1, e2, e3⟩ := of_decide_eq_true hO
  obtain ⟨c1, c2, c3, c4, c5, c6, c7⟩ := hd
  obtain ⟨q1, q2, q3⟩ := hij
  refine go_any' ?_
  rw [hs] at r r0 r1 r01 r02 r10 r012 r021 r102 e1 e2 e3 ⊢
  have F2 : upd f j2 (.live s2 [.agg cs]) i = .live s [.agg cs] := by rw [upd_ne _ _ _ q1]; exact fi
  have F3 : upd f j2 (.live s2 [.agg cs]) j3 = .live s3 [.agg w3] := by rw [upd_ne _ _ _ (Ne.symm q3)]; exact f3
  have tc : upd (upd t d1 (.agg cs)) d0 (.agg cs) = upd (upd t d0 (.agg cs)) d1 (.agg cs) := (upd_comm t _ _ c1).symm
  have u2 : upd (upd t d0 (.agg cs)) d1 (.agg cs) x2 = .ptr j2 0 0 := by rw [upd_ne _ _ _ c5, upd_ne _ _ _ c4]; exact h2
  have u3 : upd (upd t d0 (.agg cs)) d1 (.agg cs) x3 = .ptr j3 0 0 := by rw [upd_ne _ _ _ c7, upd_ne _ _ _ c6]; exact h3
  have v0 : upd (upd t d0 (.agg cs)) d1 (.agg cs) d0 = .agg cs := by rw [upd_ne _ _ _ c1, upd_same]
  have v1 : upd (upd t d0 (.agg cs)) d1 (.agg cs) d1 = .agg cs := upd_same _ _ _
  refine anyA_2 r ?_ ?_
  · refine atA_load o0 hti hk hcs ha hi fi (anyA_2 r0 ?_ ?_)
    · refine atA_load o1 hti hk hcs (by rw [upd_ne _ _ _ c2]; exact ha) hi fi (anyA_1 r01 ?_)
      exact atA_store o2 hti hcs h0 u2 v0 f2 hw2 (anyA_1 r012 (atA_store o3 hti hcs h0 u3 v1 F3 hw3 (anyA_end e1 g)))
    · refine atA_store o2 hti hcs h0 (by rw [upd_ne _ _ _ c4]; exact h2) (upd_same _ _ _) f2 hw2 (anyA_1 r02 ?_)
      refine atA_load o1 hti hk hcs (by rw [upd_ne _ _ _ c2]; exact ha) hi F2 (anyA_1 r021 ?_)
      exact atA_store o3 hti hcs h0 u3 v1 F3 hw3 (anyA_end e2 g)
  · refine atA_load o1 hti hk hcs ha hi fi (anyA_1 r1 ?_)
    refine atA_load o0 hti hk hcs (by rw [upd_ne _ _ _ c3]; exact ha) hi fi (anyA_1 r10 ?_)
    rw [tc]
    exact atA_store o2 hti hcs h0 u2 v0 f2 hw2 (anyA_1 r102 (atA_store o3 hti hcs h0 u3 v1 F3 hw3 (anyA_end e3 g)))
end Go.Proofs.YtgiheamjhoiojaaGreat
