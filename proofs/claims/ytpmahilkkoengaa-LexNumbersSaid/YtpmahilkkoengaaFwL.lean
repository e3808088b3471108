/-
  The machine does what append says, onto a slice of the call's own, and onto one that is read alone and has no room.
-/
import Derived.Test.YtpmahilkkoengaaFwK
namespace Go.Proofs.Ytpmahilkkoengaa
open Go
set_option linter.unusedSimpArgs false
set_option linter.unusedVariables false

/-- A draw. -/
def Cx.drew (c : Cx) : Cx := { c with w := c.w.drew }
theorem Stp.drew (c : Cx) : Stp c c.drew :=
  ⟨rfl, rfl, rfl, Nat.le_refl _, fun _ _ _ => rfl, fun _ h => h, fun _ _ => .inl rfl, fun id e h hr => .inr ⟨id, e, h, hr, rfl⟩, fun _ _ => Iff.rfl⟩

theorem HOk.of_step {c c' : Cx} {f : Nat → BS} (hk : HOk c f) (hs : Stp c c') (hU : ∀ id, c'.U id ↔ c.U id) (hmu : c'.mu = c.mu) (hF : c'.shut) (hheap : ∀ id e, c.mu id = some e → e.real = true → c'.w.heap[e.block]? = c.w.heap[e.block]?) : HOk c' f := by
  constructor
  · intro id; rw [hU]; exact hk.used id
  · intro id h; rw [hmu]; exact hk.none id h
  · intro id sz l h
    obtain ⟨e, he, h1, h2, h3⟩ := hk.live id sz l h
    refine ⟨e, by rw [hmu]; exact he, h1, h2, fun hr => ?_⟩
    obtain ⟨hre, htot, cs, ty, hh, hsz⟩ := h3 hr
    have hb := hheap id e he hr
    refine ⟨Re.of_get fun i a hi => ?_, htot, cs, ty, by rw [hb]; exact hh, hsz⟩
    obtain ⟨v, g1, g2, g3, g4, g5⟩ := hre.get i a hi
    exact ⟨v, g1.keep hs hk.shut, g2, g3, g4, g5.block hb⟩
  · intro id s p h
    obtain ⟨e, he, h1, h2, h3, h4⟩ := hk.iter id s p h
    exact ⟨e, by rw [hmu]; exact he, h1, h2, h3, by rw [hheap id e he h1]; exact h4⟩
  · intro i j ei ej hi hj; rw [hmu] at hi hj; exact hk.inj i j ei ej hi hj
  · exact hF

theorem HOk.drew {c : Cx} {f : Nat → BS} (hk : HOk c f) : HOk c.drew f :=
  hk.of_step (Stp.drew c) (fun _ => Iff.rfl) rfl hk.shut (fun _ _ _ _ => rfl)

/-- A block is let go. -/
def Cx.kill (c : Cx) (id : Nat) : Cx := { c with mu := upd c.mu id none }
theorem kill_mu {c : Cx} {id j : Nat} {e : Ent} (h : (c.kill id).mu j = some e) : j ≠ id ∧ c.mu j = some e := by
  simp only [Cx.kill] at h
  by_cases hj : j = id
  · subst hj; rw [upd_same] at h; cases h
  · rw [upd_ne _ _ _ hj] at h; exact ⟨hj, h⟩
theorem Stp.kill (c : Cx) (id : Nat) : Stp c (c.kill id) where
  os := rfl
  tape := rfl
  output := rfl
  size := Nat.le_refl _
  keep := fun _ _ _ => rfl
  U := fun _ h => h
  mu := fun j _ => by
    by_cases hj : j = id
    · subst hj; right; exact upd_same _ _ _
    · left; exact upd_ne _ _ _ hj
  new := fun j e he hr => .inr ⟨j, e, (kill_mu he).2, hr, rfl⟩
  F := fun _ _ => Iff.rfl
theorem HOk.kill {c : Cx} {f : Nat → BS} (hk : HOk c f) {id : Nat} (hid : f id ≠ .fresh) : HOk (c.kill id) (upd f id .dead) := by
  constructor
  · intro j
    by_cases hj : j = id
    · subst hj; simp [Cx.kill, hk.used j, hid]
    · rw [upd_ne _ _ _ hj]; exact hk.used j
  · intro j h
    by_cases hj : j = id
    · subst hj; exact upd_same _ _ _
    · rw [upd_ne _ _ _ hj] at h
      rw [show (c.kill id).mu j = c.mu j from upd_ne _ _ _ hj]; exact hk.none j h
  · intro j sz l h
    by_cases hj : j = id
    · subst hj; rw [upd_same] at h; cases h
    · rw [upd_ne _ _ _ hj] at h
      obtain ⟨e, he, h1, h2, h3⟩ := hk.live j sz l h
      refine ⟨e, by rw [show (c.kill id).mu j = c.mu j from upd_ne _ _ _ hj]; exact he, h1, h2, fun hr => ?_⟩
      obtain ⟨hre, rest⟩ := h3 hr
      refine ⟨Re.of_get fun i a hi => ?_, rest⟩
      obtain ⟨v, g1, g2⟩ := hre.get i a hi
      exact ⟨v, g1.keep (Stp.kill c id) hk.shut, g2⟩
  · intro j s p h
    by_cases hj : j = id
    · subst hj; rw [upd_same] at h; cases h
    · rw [upd_ne _ _ _ hj] at h
      obtain ⟨e, he, h1⟩ := hk.iter j s p h
      exact ⟨e, by rw [show (c.kill id).mu j = c.mu j from upd_ne _ _ _ hj]; exact he, h1⟩
  · intro i j ei ej hi hj; exact hk.inj i j ei ej (kill_mu hi).2 (kill_mu hj).2
  · intro j e he hr; exact hk.shut j e (kill_mu he).2 hr

/-- A block gets a new number, and begins later. -/
def Cx.ren (c : Cx) (id id' : Nat) (e : Ent) : Cx := { c with mu := upd (upd c.mu id none) id' (some e), U := fun j => c.U j ∨ j = id' }
theorem ren_ok {c : Cx} {f : Nat → BS} (hk : HOk c f) {id id' sz : Nat} {l : List AV} (hf : f id = .live sz l) (hid : f id' = .fresh) {e : Ent} (he : c.mu id = some e) (off : Nat) (hoff : off ≤ l.length) :
    HOk (c.ren id id' { e with base := e.base + off * sz }) (upd (upd f id .dead) id' (.live sz (l.drop off))) ∧ Stp c (c.ren id id' { e with base := e.base + off * sz }) := by
  have hne : id' ≠ id := fun h => by subst h; rw [hf] at hid; cases hid
  have hm' : (c.ren id id' { e with base := e.base + off * sz }).mu id' = some { e with base := e.base + off * sz } := upd_same _ _ _
  have hm0 : (c.ren id id' { e with base := e.base + off * sz }).mu id = none := by
    simp only [Cx.ren]; rw [upd_ne _ _ _ (Ne.symm hne), upd_same]
  have hmj : ∀ j, j ≠ id → j ≠ id' → (c.ren id id' { e with base := e.base + off * sz }).mu j = c.mu j := fun j h1 h2 => by
    simp only [Cx.ren]; rw [upd_ne _ _ _ h2, upd_ne _ _ _ h1]
  have hback : ∀ j en, (c.ren id id' { e with base := e.base + off * sz }).mu j = some en → (j = id' ∧ en = { e with base := e.base + off * sz }) ∨ (j ≠ id' ∧ j ≠ id ∧ c.mu j = some en) := by
    intro j en h
    by_cases h1 : j = id'
    · subst h1; rw [hm'] at h; injection h with h; exact .inl ⟨rfl, h.symm⟩
    · by_cases h2 : j = id
      · subst h2; rw [hm0] at h; cases h
      · rw [hmj j h2 h1] at h; exact .inr ⟨h1, h2, h⟩
  have hst : Stp c (c.ren id id' { e with base := e.base + off * sz }) := by
    refine ⟨rfl, rfl, rfl, Nat.le_refl _, fun _ _ _ => rfl, fun _ h => .inl h, fun j hj => ?_, fun j en h hr => ?_, fun _ _ => Iff.rfl⟩
    · have h1 : j ≠ id' := fun h => by subst h; exact (hk.used j).1 hj hid
      by_cases h2 : j = id
      · subst h2; exact .inr hm0
      · exact .inl (hmj j h2 h1)
    · rcases hback j en h with ⟨_, rfl⟩ | ⟨_, _, h3⟩
      · exact .inr ⟨id, e, he, hr, rfl⟩
      · exact .inr ⟨j, en, h3, hr, rfl⟩
  refine ⟨?_, hst⟩
  constructor
  · intro j
    by_cases h1 : j = id'
    · subst h1; simp [Cx.ren]
    · rw [upd_ne _ _ _ h1]
      by_cases h2 : j = id
      · subst h2; simp [Cx.ren, hk.used j, hf]
      · rw [upd_ne _ _ _ h2]; simp [Cx.ren, hk.used j, h1]
  · intro j h
    by_cases h1 : j = id'
    · subst h1; rw [upd_same] at h; simp at h
    · rw [upd_ne _ _ _ h1] at h
      by_cases h2 : j = id
      · subst h2; exact hm0
      · rw [upd_ne _ _ _ h2] at h; rw [hmj j h2 h1]; exact hk.none j h
  · intro j s m h
    by_cases h1 : j = id'
    · subst h1
      rw [upd_same] at h; injection h with h3 h4; subst h3; subst h4
      obtain ⟨e', he', h5, h6, h7⟩ := hk.live id sz l hf
      rw [he] at he'; injection he' with he'; subst he'
      refine ⟨_, hm', h5, fun hr => by rw [h6 hr]; simp, fun hr => ?_⟩
      obtain ⟨hre, htot, cs, ty, hh, hsz⟩ := h7 hr
      refine ⟨Re.of_get fun i a hi => ?_, ?_, cs, ty, hh, hsz⟩
      · rw [List.getElem?_drop] at hi
        obtain ⟨v, g1, g2, g3, g4, g5⟩ := hre.get _ a hi
        refine ⟨v, g1.keep hst hk.shut, g2, g3, g4, ?_⟩
        rwa [show e.base + (off + i) * sz = e.base + off * sz + i * sz by rw [Nat.add_mul]; omega] at g5
      · show e.base + off * sz + (l.drop off).length * sz ≤ e.total
        rw [List.length_drop, Nat.add_assoc, ← Nat.add_mul, show off + (l.length - off) = l.length by omega]; exact htot
    · rw [upd_ne _ _ _ h1] at h
      by_cases h2 : j = id
      · subst h2; rw [upd_same] at h; cases h
      · rw [upd_ne _ _ _ h2] at h
        obtain ⟨en, hen, h5, h6, h7⟩ := hk.live j s m h
        refine ⟨en, by rw [hmj j h2 h1]; exact hen, h5, h6, fun hr => ?_⟩
        obtain ⟨hre, rest⟩ := h7 hr
        refine ⟨Re.of_get fun i a hi => ?_, rest⟩
        obtain ⟨v, g1, g2⟩ := hre.get i a hi
        exact ⟨v, g1.keep hst hk.shut, g2⟩
  · intro j s p h
    by_cases h1 : j = id'
    · subst h1; rw [upd_same] at h; cases h
    · rw [upd_ne _ _ _ h1] at h
      by_cases h2 : j = id
      · subst h2; rw [upd_same] at h; cases h
      · rw [upd_ne _ _ _ h2] at h
        obtain ⟨en, hen, h5⟩ := hk.iter j s p h
        exact ⟨en, by rw [hmj j h2 h1]; exact hen, h5⟩
  · intro i j ei ej hi hj hri hrj hb
    rcases hback i ei hi with ⟨rfl, rfl⟩ | ⟨hi1, hi2, hi3⟩ <;> rcases hback j ej hj with ⟨rfl, rfl⟩ | ⟨hj1, hj2, hj3⟩
    · rfl
    · exact absurd (hk.inj j id ej e hj3 he hrj hri hb.symm) hj2
    · exact absurd (hk.inj i id ei e hi3 he hri hrj hb) hi2
    · exact hk.inj i j ei ej hi3 hj3 hri hrj hb
  · intro j en h hr
    rcases hback j en h with ⟨_, rfl⟩ | ⟨_, _, h3⟩
    · exact hk.shut id e he hr
    · exact hk.shut j en h3 hr

/-- Where a slice's elements stand. -/
theorem els_of {c : Cx} {f : Nat → BS} (hk : HOk c f) {x : AV} {v : Value} (hx : Rv c x v) {new : List AV} (hn : elemsA f x = some new) (hfit : fitsA f x) : ∃ a cap vs, v = .slice a new.length cap ∧ Els c (szA x) new vs ∧
    (vs.flatMap (·.cells.toList) = [] ∨ ∃ b o, a = some ⟨b, o, none⟩ ∧ HasCells c.w b o (vs.flatMap (·.cells.toList))) := by
  cases x <;> simp only [elemsA] at hn <;> try (cases hn; done)
  case sl sz tight l =>
    injection hn with hn; subst hn
    simp only [Rv] at hx
    obtain ⟨a, cap, rfl, h1, h2, h3⟩ := hx
    rcases h3 with rfl | ⟨b, o, rfl, hb, hF, hre⟩
    · exact ⟨a, cap, [], rfl, Els.nil c _, .inl rfl⟩
    · obtain ⟨vs, e1, e2⟩ := hre.els
      exact ⟨_, cap, vs, rfl, e1, .inr ⟨b, o, rfl, e2⟩⟩
  case own sz id off len =>
    split at hn
    · rename_i sz' l hf
      injection hn with hn; subst hn
      simp only [Rv] at hx
      obtain ⟨hU, hesz, a, cap, rfl, h1, h2⟩ := hx
      obtain ⟨e, he, h3, h4, h5⟩ := hk.live id sz' l hf
      have hs := hesz e he
      simp only [fitsA, hf] at hfit
      have hlen : ((l.drop off).take len).length = len := by simp; omega
      rw [hlen]
      cases hr : e.real with
      | false =>
        have h0 := h4 hr; subst h0
        exact ⟨a, cap, [], rfl, by simpa using Els.nil c _, .inl rfl⟩
      | true =>
        obtain ⟨hre, _⟩ := h5 hr
        obtain ⟨vs, e1, e2⟩ := (hre.slice off len).els
        refine ⟨a, cap, vs, rfl, ?_, ?_⟩
        · simp only [szA]; rw [← hs, h3]; exact e1
        · rcases h2 with rfl | ⟨b, o, rfl, hall⟩
          · left
            have : len = 0 := by omega
            subst this
            have h0 : vs = [] := by
              have := e1.1; simp at this; exact this
            subst h0; rfl
          · right
            obtain ⟨_, rfl, rfl, _⟩ := hall e he
            refine ⟨_, _, rfl, ?_⟩
            rw [h3]; exact e2
    · cases hn

theorem null_ok {c : Cx} {f : Nat → BS} (hk : HOk c f) {id : Nat} (hid : f id = .fresh) (sz : Nat) :
    HOk { c with mu := upd c.mu id (some ⟨false, 0, 0, sz, 0⟩), U := fun j => c.U j ∨ j = id } (upd f id (.live sz [])) ∧ Stp c { c with mu := upd c.mu id (some ⟨false, 0, 0, sz, 0⟩), U := fun j => c.U j ∨ j = id } := by
  have hback : ∀ j e, upd c.mu id (some ⟨false, 0, 0, sz, 0⟩) j = some e → e.real = true → j ≠ id ∧ c.mu j = some e := by
    intro j e h hr
    by_cases hj : j = id
    · subst hj; rw [upd_same] at h; injection h with h; subst h; cases hr
    · rw [upd_ne _ _ _ hj] at h; exact ⟨hj, h⟩
  have hst : Stp c { c with mu := upd c.mu id (some ⟨false, 0, 0, sz, 0⟩), U := fun j => c.U j ∨ j = id } := by
    refine ⟨rfl, rfl, rfl, Nat.le_refl _, fun _ _ _ => rfl, fun _ h => .inl h, fun j hj => ?_, fun j e h hr => .inr ⟨j, e, (hback j e h hr).2, hr, rfl⟩, fun _ _ => Iff.rfl⟩
    have h1 : j ≠ id := fun h => by subst h; exact (hk.used j).1 hj hid
    exact .inl (upd_ne _ _ _ h1)
  refine ⟨?_, hst⟩
  constructor
  · intro j
    by_cases h1 : j = id
    · subst h1; simp
    · rw [upd_ne _ _ _ h1]; simp [hk.used j, h1]
  · intro j h
    by_cases h1 : j = id
    · subst h1; rw [upd_same] at h; simp at h
    · rw [upd_ne _ _ _ h1] at h
      show upd c.mu id _ j = _
      rw [upd_ne _ _ _ h1]; exact hk.none j h
  · intro j s m h
    by_cases h1 : j = id
    · subst h1; rw [upd_same] at h; injection h with h3 h4; subst h3; subst h4
      exact ⟨_, upd_same _ _ _, rfl, fun _ => rfl, fun h => by cases h⟩
    · rw [upd_ne _ _ _ h1] at h
      obtain ⟨en, hen, h5, h6, h7⟩ := hk.live j s m h
      refine ⟨en, by rw [← hen]; exact upd_ne _ _ _ h1, h5, h6, fun hr => ?_⟩
      obtain ⟨hre, rest⟩ := h7 hr
      refine ⟨Re.of_get fun i a hi => ?_, rest⟩
      obtain ⟨v, g1, g2⟩ := hre.get i a hi
      exact ⟨v, g1.keep hst hk.shut, g2⟩
  · intro j s p h
    by_cases h1 : j = id
    · subst h1; rw [upd_same] at h; cases h
    · rw [upd_ne _ _ _ h1] at h
      obtain ⟨en, hen, h5⟩ := hk.iter j s p h
      exact ⟨en, by rw [← hen]; exact upd_ne _ _ _ h1, h5⟩
  · intro i j ei ej hi hj hri hrj hb
    exact hk.inj i j ei ej (hback i ei hi hri).2 (hback j ej hj hrj).2 hri hrj hb
  · intro j e h hr; exact hk.shut j e (hback j e h hr).2 hr

theorem append_sl {P : Program} {c : Cx} {f : Nat → BS} (hk : HOk c f) {id : Nat} (hid : f id = .fresh) {t t' e e' ty : TypeId} {te : TI} (hd : P.underlying t = some (.slice e)) (hd' : P.underlying t' = some (.slice e')) (hte : tiOf P e = some te)
    {sz : Nat} {l new : List AV} {y : AV} {vx vy : Value} (hx : Rv c (.sl sz true l) vx) (hy : Rv c y vy) (hn : elemsA f y = some new) (hfit : fitsA f y) (hsz : te.size = sz ∨ l = []) (hsy : szA y = te.size ∨ new = []) (hpos : 0 < te.size) (hbp : 0 < te.bytes) (hln : l = [] ∨ new ≠ [])
    (hb : ((l.length + new.length : Nat) : Int) * te.bytes ≤ 70368744177664) :
    ∃ r c', (Builtin.append_ #[t, t'] ty #[vx, vy]).run P c.w = .ok r c'.w ∧ Rv c' (.own te.size id 0 (l.length + new.length)) r ∧ HOk c' (upd f id (.live te.size (l ++ new))) ∧ Stp c c' := by
  obtain ⟨d, i, z, hde, hi, hz, hisz, hby, _, _, hzs, _⟩ := tiOf_some hte
  obtain ⟨ya, ycap, vs, rfl, els, hcy⟩ := els_of hk hy hn hfit
  obtain ⟨xa, xcap, us, rfl, elx, hcx⟩ := els_of (f := f) hk hx (new := l) rfl trivial
  have hxt : xcap = l.length := by
    simp only [Rv] at hx
    obtain ⟨a, cap, h1, h2, h3, _⟩ := hx
    injection h1 with _ _ h1; rw [h1]; exact h3 trivial
  subst hxt
  have elx' : Els c te.size l us := by
    rcases hsz with h | rfl
    · rw [h]; exact elx
    · have := elx.1; simp at this; subst this; exact Els.nil _ _
  have els' : Els c te.size new vs := by
    rcases hsy with h | rfl
    · rw [← h]; exact els
    · have := els.1; simp at this; subst this; exact Els.nil _ _
  have hol := flatMap_len elx'.size
  have hnl := flatMap_len els'.size
  rw [elx'.1, hisz] at hol; rw [els'.1, hisz] at hnl
  have hbn : (l.length + new.length) * i.bytes ≤ 70368744177664 := by rw [← hby]; omega
  have hrn : new.length = 0 → l.length = 0 → (Builtin.append_ #[t, t'] ty #[.slice xa l.length l.length, .slice ya new.length ycap]).run P c.w = .ok (.slice xa 0 0) c.w := by
    intro g1 g2
    have hv0 : vs.flatMap (·.cells.toList) = [] := List.eq_nil_of_length_eq_zero (by rw [hnl, g1]; simp)
    rw [g1, g2]
    have := append_room (P := P) (ty := ty) hd hd' hi (w := c.w) (base := xa) (xa := ya) (sLen := 0) (sCap := 0) (n := 0) (xc := ycap) (news := []) (by simp) (.inl rfl) (by omega) (w' := c.w) (by cases xa <;> simp [storeCells])
    simpa using this
  by_cases h0 : new.length = 0
  · -- nothing comes: the slice itself
    have hnew : new = [] := List.eq_nil_of_length_eq_zero h0
    subst hnew
    have hl0 := hln.resolve_right (by simp)
    subst hl0
    have hrn := hrn rfl rfl
    simp only [List.length_nil] at hrn ⊢
    refine ⟨_, { c with mu := upd c.mu id (some ⟨false, 0, 0, te.size, 0⟩), U := fun j => c.U j ∨ j = id }, hrn, ?_, null_ok hk hid te.size⟩
    simp only [Rv]
    refine ⟨.inr trivial, fun e' he' => ?_, _, 0, rfl, Nat.le_refl _, .inl rfl⟩
    rw [upd_same] at he'; injection he' with he'; subst he'; rfl
  · have hnbytes : l.length + new.length ≤ 9223372036854775807 := by
      rw [← hby] at hbn
      have : (l.length + new.length) * 1 ≤ (l.length + new.length) * te.bytes := Nat.mul_le_mul_left _ hbp
      omega
    have hrun := append_grow (P := P) (ty := ty) hd hd' hi hz (w := c.w) (base := xa) (xa := ya) (sLen := l.length) (sCap := l.length) (n := new.length) (xc := ycap) hol hcx hnl hcy (by omega) (by omega) hnbytes
    have hge := grownCap_ge c.w (l.length + new.length) l.length e
    have hcells : (us.flatMap (·.cells.toList)).toArray ++ (vs.flatMap (·.cells.toList)).toArray ++ Builtin.zeroCells z.cells (grownCap c.w (l.length + new.length) l.length e - (l.length + new.length)) =
        ((us ++ vs).flatMap (·.cells.toList) ++ (Builtin.zeroCells z.cells (grownCap c.w (l.length + new.length) l.length e - (l.length + new.length))).toList).toArray := by
      apply Array.ext'; simp
    rw [hcells] at hrun
    have hlie := (elx'.append els').keep (Stp.drew c) hk.shut |>.lie _ _ (by rfl : (((us ++ vs).flatMap (·.cells.toList) ++ (Builtin.zeroCells z.cells (grownCap c.w (l.length + new.length) l.length e - (l.length + new.length))).toList).toArray).toList = _)
    refine ⟨_, _, hrun, more_own c.drew id te.size _ _ _ _ hge ?_, more_ok hk.drew hid e hlie, (Stp.drew c).trans (Stp.more hk.drew hid _ _ _)⟩
    have hfl := flatMap_len (elx'.append els').size
    rw [(elx'.append els').1] at hfl
    simp only [List.size_toArray, List.length_append, hfl, Array.length_toList, size_zeroCells, hzs, ← hisz] at hfl ⊢
    rw [← Nat.add_mul]
    refine Nat.mul_le_mul_right _ ?_
    omega

theorem append_own {P : Program} {c : Cx} {f : Nat → BS} (hk : HOk c f) {id : Nat} (hid : f id = .fresh) {t t' e e' ty : TypeId} {te : TI} (hd : P.underlying t = some (.slice e)) (hd' : P.underlying t' = some (.slice e')) (hte : tiOf P e = some te)
    {sz sz' i off len : Nat} {L new : List AV} {y : AV} {vx vy : Value} (hf : f i = .live sz' L) (hx : Rv c (.own sz i off len) vx) (hy : Rv c y vy) (hn : elemsA f y = some new) (hfit : fitsA f y) (hsz : te.size = sz) (hsy : szA y = sz ∨ new = []) (hpos : 0 < sz) (hbp : 0 < te.bytes)
    (hol : off + len ≤ L.length) (hb : ((len + new.length : Nat) : Int) * te.bytes ≤ 70368744177664) :
    ∃ r c', (Builtin.append_ #[t, t'] ty #[vx, vy]).run P c.w = .ok r c'.w ∧ Rv c' (.own sz id 0 (len + new.length)) r ∧ HOk c' (upd (upd f i .dead) id (.live sz ((L.drop off).take len ++ new))) ∧ Stp c c' := by
  have hne : id ≠ i := fun h => by subst h; rw [hf] at hid; cases hid
  obtain ⟨d, ii, z, hde, hi, hz, hisz, hby, _, _, hzs, _⟩ := tiOf_some hte
  obtain ⟨ya, ycap, vs, rfl, els, hcy⟩ := els_of hk hy hn hfit
  have hx' := hx
  simp only [Rv] at hx
  obtain ⟨hU, hesz, a, cap, rfl, hc1, hc2⟩ := hx
  obtain ⟨ent, hent, h3, h4, h5⟩ := hk.live i sz' L hf
  have hss : sz' = sz := by rw [← h3]; exact hesz ent hent
  subst hss
  have els' : Els c sz' new vs := by
    rcases hsy with h | rfl
    · rw [← h]; exact els
    · have := els.1; simp at this; subst this; exact Els.nil _ _
  have hnl := flatMap_len els'.size
  rw [els'.1, ← hsz, hisz] at hnl
  obtain ⟨oa, ocap, us, hov, elo, hco⟩ := els_of (f := f) hk hx' (new := (L.drop off).take len) (by simp [elemsA, hf]) (by simpa [fitsA, hf] using hol)
  have hol2 : ((L.drop off).take len).length = len := by simp; omega
  injection hov with ho1 ho2 ho3
  subst ho1
  have hoo := flatMap_len elo.size
  rw [elo.1, hol2, show szA (.own sz' i off len) = sz' from rfl, ← hsz, hisz] at hoo
  have hbn : (len + new.length) * ii.bytes ≤ 70368744177664 := by rw [← hby]; omega
  have hn63 : len + new.length ≤ 9223372036854775807 := by
    rw [← hby] at hbn
    have : (len + new.length) * 1 ≤ (len + new.length) * te.bytes := Nat.mul_le_mul_left _ hbp
    omega
  by_cases hroom : len + new.length ≤ cap
  · -- in place
    cases hr : ent.real with
    | false =>
      have hL := h4 hr
      subst hL
      have hlen0 : len = 0 := by simp at hol; omega
      subst hlen0
      rcases hc2 with rfl | ⟨b, o, rfl, hall⟩
      · have hnew : new.length = 0 := by omega
        have hv0 : vs.flatMap (·.cells.toList) = [] := List.eq_nil_of_length_eq_zero (by rw [hnl, hnew]; simp)
        have hnew' : new = [] := List.eq_nil_of_length_eq_zero hnew
        subst hnew'
        have hrun := append_room (P := P) (ty := ty) hd hd' hi (w := c.w) (base := a) (xa := ya) (sLen := 0) (sCap := 0) (n := 0) (xc := ycap) (news := []) (by simp) (.inl rfl) (by omega) (w' := c.w) (by cases a <;> simp [storeCells])
        have hk1 := hk.kill (id := i) (by rw [hf]; simp)
        obtain ⟨hk2, hs2⟩ := null_ok hk1 (id := id) (by rw [upd_ne _ _ _ hne]; exact hid) sz'
        refine ⟨_, { (c.kill i) with mu := upd (c.kill i).mu id (some ⟨false, 0, 0, sz', 0⟩), U := fun j => (c.kill i).U j ∨ j = id }, (by simpa [Cx.kill] using hrun), ?_, by simpa using hk2, (Stp.kill c i).trans hs2⟩
        simp only [Rv]
        refine ⟨.inr trivial, fun e' he' => ?_, _, 0, rfl, by simp, .inl rfl⟩
        rw [upd_same] at he'; injection he' with he'; subst he'; rfl
      · have := (hall ent hent).1; rw [hr] at this; cases this
    | true =>
      obtain ⟨hre, htot, old, tyo, hold, hosz⟩ := h5 hr
      rcases hc2 with rfl | ⟨b, o, rfl, hall⟩
      · -- no room at all, and nothing comes
        have hlen0 : len = 0 := by omega
        have hnew : new.length = 0 := by omega
        subst hlen0
        have hnew' : new = [] := List.eq_nil_of_length_eq_zero hnew
        subst hnew'
        have hrun := append_room (P := P) (ty := ty) hd hd' hi (w := c.w) (base := a) (xa := ya) (sLen := 0) (sCap := 0) (n := 0) (xc := ycap) (news := []) (by simp) (.inl rfl) (by omega) (w' := c.w) (by cases a <;> simp [storeCells])
        have hk1 := hk.kill (id := i) (by rw [hf]; simp)
        obtain ⟨hk2, hs2⟩ := null_ok hk1 (id := id) (by rw [upd_ne _ _ _ hne]; exact hid) sz'
        refine ⟨_, { (c.kill i) with mu := upd (c.kill i).mu id (some ⟨false, 0, 0, sz', 0⟩), U := fun j => (c.kill i).U j ∨ j = id }, (by simpa [Cx.kill] using hrun), ?_, by simpa using hk2, (Stp.kill c i).trans hs2⟩
        simp only [Rv]
        refine ⟨.inr trivial, fun e' he' => ?_, _, 0, rfl, by simp, .inl rfl⟩
        rw [upd_same] at he'; injection he' with he'; subst he'; rfl
      · obtain ⟨_, rfl, rfl, hcap⟩ := hall ent hent
        rw [h3] at hcap
        -- the cells are written behind the slice's end
        let pos := ent.base + off * ent.sz + len * ii.size
        have hiisz : ii.size = sz' := by rw [← hisz, hsz]
        have hposn : pos = ent.base + (off + len) * sz' := by simp only [pos, h3, hiisz, Nat.add_mul]; omega
        have hvl : (vs.flatMap (·.cells.toList)).length = new.length * sz' := by rw [hnl, hiisz]
        have hposle : pos + new.length * sz' ≤ old.size := by
          rw [hosz, hposn]
          refine Nat.le_trans ?_ hcap
          rw [Nat.add_assoc, ← Nat.add_mul, Nat.add_le_add_iff_left]
          exact Nat.mul_le_mul_right _ (by omega)
        have hst := run_storeCells_at P ent.block pos tyo (vs.flatMap (·.cells.toList)) 0 old c.w hold (by rw [hvl]; omega) els'.ones
        simp only [Nat.add_zero] at hst
        let cs := (old.toList.take pos ++ vs.flatMap (·.cells.toList) ++ old.toList.drop (pos + (vs.flatMap (·.cells.toList)).length)).toArray
        have hcs : cs.size = old.size := by simp only [cs, List.size_toArray, List.length_append, List.length_take, List.length_drop, hvl, Array.length_toList]; omega
        have hrun := append_room (P := P) (ty := ty) hd hd' hi (w := c.w) (base := some ⟨ent.block, ent.base + off * ent.sz, none⟩) (xa := ya) (sLen := len) (sCap := cap) (n := new.length) (xc := ycap) hnl hcy hroom (w' := c.w.setRow ent.block cs) (by
          simp only [addr_add]
          exact hst)
        have hcold : ∀ k u, c.w.cell? ⟨ent.block, k, none⟩ = some u → old[k]? = some u := by
          intro k u hu
          unfold World.cell? at hu
          simp only [hold] at hu
          simpa using hu
        have hcget : ∀ k, k < pos → cs[k]? = old[k]? := by
          intro k hk
          simp only [cs, List.getElem?_toArray]
          rw [List.append_assoc, List.getElem?_append_left (by simp; omega), List.getElem?_take, if_pos hk]; simp
        have hcget2 : ∀ k, k < new.length * sz' → cs[pos + k]? = (vs.flatMap (·.cells.toList))[k]? := by
          intro k hk
          have htl : (old.toList.take pos).length = pos := by simp; omega
          simp only [cs, List.getElem?_toArray]
          rw [List.getElem?_append_left (by rw [List.length_append, htl, hvl]; omega), List.getElem?_append_right (by omega), htl]
          congr 1; omega
        have hlt : (L.take (off + len)).length = off + len := by simp; omega
        have hw := wrote_ok hk hf hent hr hold hcs (l' := L.take (off + len) ++ new) (by
            rw [List.length_append, hlt]
            refine Nat.le_trans ?_ hcap
            rw [Nat.add_le_add_iff_left]
            exact Nat.mul_le_mul_right _ (by omega)) (fun k q hq => by
          rcases Nat.lt_or_ge k (off + len) with hk' | hk'
          · rw [List.getElem?_append_left (by omega), List.getElem?_take, if_pos hk'] at hq
            obtain ⟨v, w1, w2, w3, w4, w5⟩ := hre.get k q hq
            refine ⟨v, w1, w2, w3, w4, fun j u hu => ?_⟩
            have hj : j < sz' := by
              rw [← w2]
              rcases Nat.lt_or_ge j v.cells.size with h' | h'
              · exact h'
              · rw [List.getElem?_eq_none (by simpa using h')] at hu; cases hu
            have hlt2 : ent.base + k * sz' + j < pos := by
              rw [hposn]
              have : (k + 1) * sz' ≤ (off + len) * sz' := Nat.mul_le_mul_right _ hk'
              rw [Nat.succ_mul] at this; omega
            rw [hcget _ hlt2]
            exact hcold _ _ (w5 j u hu)
          · rw [List.getElem?_append_right (by omega), hlt] at hq
            have hlt3 : k - (off + len) < vs.length := by
              rw [els'.1]
              rcases Nat.lt_or_ge (k - (off + len)) new.length with h' | h'
              · exact h'
              · rw [List.getElem?_eq_none h'] at hq; cases hq
            obtain ⟨w1, w2, w3, w4⟩ := els'.2 _ q _ hq (List.getElem?_eq_getElem hlt3)
            refine ⟨vs[k - (off + len)], w1, w2, w3, w4, fun j u hu => ?_⟩
            have hj : j < sz' := by
              rw [← w2]
              rcases Nat.lt_or_ge j (vs[k - (off + len)]).cells.size with h' | h'
              · exact h'
              · rw [List.getElem?_eq_none (by simpa using h')] at hu; cases hu
            have hg := flatMap_get els'.size _ j _ u (List.getElem?_eq_getElem hlt3) hu
            have hin : (k - (off + len)) * sz' + j < new.length * sz' := by
              rw [els'.1] at hlt3
              have : (k - (off + len) + 1) * sz' ≤ new.length * sz' := Nat.mul_le_mul_right _ hlt3
              rw [Nat.succ_mul] at this; omega
            have := hcget2 _ hin
            rw [hg] at this
            rw [← this]
            congr 1
            rw [hposn]
            have : k * sz' = (off + len) * sz' + (k - (off + len)) * sz' := by rw [← Nat.add_mul]; congr 1; omega
            omega)
        obtain ⟨hk2, hs2⟩ := ren_ok hw (id := i) (id' := id) (upd_same _ _ _) (by rw [upd_ne _ _ _ hne]; exact hid) (e := ent) hent off (by simp; omega)
        refine ⟨_, _, hrun, ?_, ?_, (Stp.wrote hk hent hr cs).trans hs2⟩
        · simp only [Rv]
          have hm : ((c.wrote ent.block cs).ren i id { ent with base := ent.base + off * sz' }).mu id = some { ent with base := ent.base + off * sz' } := upd_same _ _ _
          refine ⟨.inr rfl, fun e' he' => ?_, _, cap, rfl, hroom, .inr ⟨_, _, rfl, fun e' he' => ?_⟩⟩
          · rw [hm] at he'; injection he' with he'; subst he'; exact h3
          · rw [hm] at he'; injection he' with he'; subst he'
            refine ⟨hr, rfl, by simp [h3], ?_⟩
            simp only [h3, Nat.zero_add]
            rw [Nat.add_assoc, ← Nat.add_mul]; exact hcap
        · have e1 : (L.take (off + len) ++ new).drop off = (L.drop off).take len ++ new := by
            rw [List.drop_append_of_le_length (by omega), List.drop_take]
            congr 2; omega
          rw [e1] at hk2
          have e2 : upd (upd (upd f i (.live sz' (L.take (off + len) ++ new))) i .dead) id (.live sz' ((L.drop off).take len ++ new)) = upd (upd f i .dead) id (.live sz' ((L.drop off).take len ++ new)) := by
            funext j; unfold upd; split <;> (try split) <;> rfl
          rw [e2] at hk2
          exact hk2
  · -- a new block
    have hrun := append_grow (P := P) (ty := ty) hd hd' hi hz (w := c.w) (base := a) (xa := ya) (sLen := len) (sCap := cap) (n := new.length) (xc := ycap) hoo hco hnl hcy (by omega) (by omega) hn63
    have hge := grownCap_ge c.w (len + new.length) cap e
    have hcells : (us.flatMap (·.cells.toList)).toArray ++ (vs.flatMap (·.cells.toList)).toArray ++ Builtin.zeroCells z.cells (grownCap c.w (len + new.length) cap e - (len + new.length)) =
        ((us ++ vs).flatMap (·.cells.toList) ++ (Builtin.zeroCells z.cells (grownCap c.w (len + new.length) cap e - (len + new.length))).toList).toArray := by
      apply Array.ext'; simp
    rw [hcells] at hrun
    have elo' : Els c sz' ((L.drop off).take len) us := elo
    have hk1 := (hk.kill (id := i) (by rw [hf]; simp)).drew
    have hs1 : Stp c (c.kill i).drew := (Stp.kill c i).trans (Stp.drew _)
    have hlie := (elo'.append els').keep hs1 hk.shut |>.lie _ _ (by rfl : (((us ++ vs).flatMap (·.cells.toList) ++ (Builtin.zeroCells z.cells (grownCap c.w (len + new.length) cap e - (len + new.length))).toList).toArray).toList = _)
    have hid1 : upd f i .dead id = .fresh := by rw [upd_ne _ _ _ hne]; exact hid
    refine ⟨_, _, hrun, more_own (c.kill i).drew id sz' _ _ _ _ hge ?_, more_ok hk1 hid1 e hlie, hs1.trans (Stp.more hk1 hid1 _ _ _)⟩
    have hfl := flatMap_len (elo'.append els').size
    rw [(elo'.append els').1] at hfl
    simp only [List.size_toArray, List.length_append, hol2, Array.length_toList, size_zeroCells, hzs, ← hisz, hsz] at hfl ⊢
    rw [hfl, ← Nat.add_mul]
    refine Nat.mul_le_mul_right _ ?_
    omega

/-! ### A string that is gone through -/
theorem iter_new {c : Cx} {f : Nat → BS} (hk : HOk c f) {id : Nat} (hid : f id = .fresh) (s : ByteArray) : HOk (c.more id (.stringIter s 0) ⟨true, c.w.heap.size, 0, 0, 0⟩) (upd f id (.iter s 0)) := by
  have hst := Stp.more hk hid (.stringIter s 0) 0 0
  have hmu : ∀ j, j ≠ id → (c.more id (.stringIter s 0) ⟨true, c.w.heap.size, 0, 0, 0⟩).mu j = c.mu j := fun j hj => upd_ne _ _ _ hj
  have hmu0 : (c.more id (.stringIter s 0) ⟨true, c.w.heap.size, 0, 0, 0⟩).mu id = some ⟨true, c.w.heap.size, 0, 0, 0⟩ := upd_same _ _ _
  have hb : ∀ en : Ent, (∃ j, c.mu j = some en) → en.real = true → (c.more id (.stringIter s 0) ⟨true, c.w.heap.size, 0, 0, 0⟩).w.heap[en.block]? = c.w.heap[en.block]? := fun en ⟨j, he⟩ hr => Go.RowKit.Below.heap_alloc _ _ _ (hk.lt he hr)
  constructor
  · intro j
    by_cases hj : j = id
    · subst hj; simp [Cx.more]
    · rw [upd_ne _ _ _ hj, ← hk.used j]; simp [Cx.more, hj]
  · intro j h
    by_cases hj : j = id
    · subst hj; rw [upd_same] at h; simp at h
    · rw [upd_ne _ _ _ hj] at h; rw [hmu j hj]; exact hk.none j h
  · intro j sz m h
    by_cases hj : j = id
    · subst hj; rw [upd_same] at h; cases h
    · rw [upd_ne _ _ _ hj] at h
      obtain ⟨en, he, h1, h2, h3⟩ := hk.live j sz m h
      refine ⟨en, by rw [hmu j hj]; exact he, h1, h2, fun hr => ?_⟩
      obtain ⟨hre, htot, cs, ty, hh, hsz⟩ := h3 hr
      have hb := hb en ⟨j, he⟩ hr
      refine ⟨Re.of_get fun i a hi => ?_, htot, cs, ty, by rw [hb]; exact hh, hsz⟩
      obtain ⟨v, g1, g2, g3, g4, g5⟩ := hre.get i a hi
      exact ⟨v, g1.keep hst hk.shut, g2, g3, g4, g5.block hb⟩
  · intro j s' p h
    by_cases hj : j = id
    · subst hj; rw [upd_same] at h; injection h with h1 h2; subst h1; subst h2
      exact ⟨_, hmu0, rfl, rfl, rfl, heap_alloc_at c.w _⟩
    · rw [upd_ne _ _ _ hj] at h
      obtain ⟨en, he, h1, h2, h3, h4⟩ := hk.iter j s' p h
      exact ⟨en, by rw [hmu j hj]; exact he, h1, h2, h3, by rw [hb en ⟨j, he⟩ h1]; exact h4⟩
  · intro i j ei ej hi hj hri hrj hbb
    by_cases h1 : i = id <;> by_cases h2 : j = id
    · rw [h1, h2]
    · subst h1
      rw [hmu0] at hi; injection hi with hi; subst hi
      rw [hmu j h2] at hj
      have := hk.lt hj hrj
      simp at hbb; omega
    · subst h2
      rw [hmu0] at hj; injection hj with hj; subst hj
      rw [hmu i h1] at hi
      have := hk.lt hi hri
      simp at hbb; omega
    · rw [hmu i h1] at hi; rw [hmu j h2] at hj
      exact hk.inj i j ei ej hi hj hri hrj hbb
  · intro j en he hr
    by_cases hj : j = id
    · subst hj; rw [hmu0] at he; injection he with he; subst he; exact .inr rfl
    · rw [hmu j hj] at he; exact .inl (hk.shut j en he hr)

/-- An object is written. -/
def Cx.obj (c : Cx) (g : Nat) (o : Obj) : Cx := { c with w := { c.w with heap := c.w.heap.setIfInBounds g o } }
theorem iter_next {c : Cx} {f : Nat → BS} (hk : HOk c f) {id : Nat} {s : ByteArray} {p : Nat} (hf : f id = .iter s p) {e : Ent} (he : c.mu id = some e) (hr : e.real = true) (q : Nat) :
    HOk (c.obj e.block (.stringIter s q)) (upd f id (.iter s q)) ∧ Stp c (c.obj e.block (.stringIter s q)) := by
  have hother : ∀ b, b ≠ e.block → (c.obj e.block (.stringIter s q)).w.heap[b]? = c.w.heap[b]? := fun b hb => by
    simp only [Cx.obj]; exact Array.getElem?_setIfInBounds_ne (Ne.symm hb)
  have hat : (c.obj e.block (.stringIter s q)).w.heap[e.block]? = some (.stringIter s q) := by
    simp only [Cx.obj]; rw [Array.getElem?_setIfInBounds_self_of_lt (hk.lt he hr)]
  have hst : Stp c (c.obj e.block (.stringIter s q)) := by
    refine ⟨rfl, rfl, rfl, by simp [Cx.obj], fun b hb hn => hother b (fun h => hn id e he hr h.symm), fun _ h => h, fun _ _ => .inl rfl, fun j e' he' hr' => .inr ⟨j, e', he', hr', rfl⟩, fun _ _ => Iff.rfl⟩
  refine ⟨?_, hst⟩
  constructor
  · intro j
    by_cases hj : j = id
    · subst hj; simp [Cx.obj, hk.used j, hf]
    · rw [upd_ne _ _ _ hj]; exact hk.used j
  · intro j h
    by_cases hj : j = id
    · subst hj; rw [upd_same] at h; simp at h
    · rw [upd_ne _ _ _ hj] at h; exact hk.none j h
  · intro j sz m h
    by_cases hj : j = id
    · subst hj; rw [upd_same] at h; cases h
    · rw [upd_ne _ _ _ hj] at h
      obtain ⟨en, hen, h1, h2, h3⟩ := hk.live j sz m h
      refine ⟨en, hen, h1, h2, fun hrn => ?_⟩
      obtain ⟨hre, htot, cs, ty, hh, hsz⟩ := h3 hrn
      have hb := hother en.block (fun hb => hj (hk.inj j id en e hen he hrn hr hb))
      refine ⟨Re.of_get fun i a hi => ?_, htot, cs, ty, by rw [hb]; exact hh, hsz⟩
      obtain ⟨v, g1, g2, g3, g4, g5⟩ := hre.get i a hi
      exact ⟨v, g1.keep hst hk.shut, g2, g3, g4, g5.block hb⟩
  · intro j s' p' h
    by_cases hj : j = id
    · subst hj; rw [upd_same] at h; injection h with h1 h2; subst h1; subst h2
      obtain ⟨e', he', g1, g2, g3, _⟩ := hk.iter j s p hf
      rw [he] at he'; injection he' with he'; subst he'
      exact ⟨e, he, hr, g2, g3, hat⟩
    · rw [upd_ne _ _ _ hj] at h
      obtain ⟨en, hen, h1, h2, h3, h4⟩ := hk.iter j s' p' h
      have hb := hother en.block (fun hb => hj (hk.inj j id en e hen he h1 hr hb))
      exact ⟨en, hen, h1, h2, h3, by rw [hb]; exact h4⟩
  · exact hk.inj
  · exact hk.shut

end Go.Proofs.Ytpmahilkkoengaa
