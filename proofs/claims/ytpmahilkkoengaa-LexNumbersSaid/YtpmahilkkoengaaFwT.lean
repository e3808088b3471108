/-
  Lists that grow; values of which less is said.
-/
import Derived.Test.YtpmahilkkoengaaFwS
namespace Go.Proofs.Ytpmahilkkoengaa
open Go
set_option linter.unusedSimpArgs false
set_option linter.unusedVariables false

/-- A list that grows: nothing yet, or a block of the call's own. -/
def apv (sz id : Nat) (l : List AV) : AV := if l = [] then .sl 0 true [] else .own sz id 0 l.length
def apb (sz id : Nat) (l : List AV) : List (Nat × BS) := if l = [] then [] else [(id, .live sz l)]
/-- As it reads. -/
def slv (sz : Nat) (l : List AV) : AV := if l = [] then .sl 0 true [] else .sl sz false l


@[go_sem] theorem apv_nil (sz id : Nat) : apv sz id [] = .sl 0 true [] := rfl
@[go_sem] theorem apb_nil (sz id : Nat) : apb sz id [] = [] := rfl
theorem apv_ne {sz id : Nat} {l : List AV} (h : l ≠ []) : apv sz id l = .own sz id 0 l.length := by simp [apv, h]
theorem apb_ne {sz id : Nat} {l : List AV} (h : l ≠ []) : apb sz id l = [(id, .live sz l)] := by simp [apb, h]
@[go_sem] theorem apv_app (sz id : Nat) (l : List AV) (x : AV) : apv sz id (l ++ [x]) = .own sz id 0 (l.length + 1) := by simp [apv]
@[go_sem] theorem apb_app (sz id : Nat) (l : List AV) (x : AV) : apb sz id (l ++ [x]) = [(id, .live sz (l ++ [x]))] := by simp [apb]
theorem clo_apv {n sz id : Nat} {l : List AV} (h : id < n) : clo n (apv sz id l) := by unfold apv; split <;> simp [clo, cloL, h]
/-- The old block is gone, if there was one. -/
def kill (id : Nat) (l : List AV) (f : Nat → BS) : Nat → BS := if l = [] then f else upd f id .dead
@[go_sem] theorem kill_at (id : Nat) (l : List AV) (f : Nat → BS) (j : Nat) : kill id l f j = if j = id then (if l = [] then f j else .dead) else f j := by
  unfold kill
  by_cases h : l = []
  · simp [h]
  · simp only [h, if_false, upd]
@[go_sem] theorem lenV_apv (a b : Nat) (e : TypeId) (z : List AV) (sz id : Nat) (l : List AV) : lenV (some ⟨a, b, .slice e, z⟩) (apv sz id l) = some (True, .int .i64 l.length) := by
  unfold apv; split
  · rename_i h; subst h; rfl
  · rfl
@[go_sem] theorem ren_apv (rn : Nat → Nat) (sz id : Nat) (l : List AV) : ren rn (apv sz id l) = apv sz (rn id) l := by
  unfold apv; split
  · rfl
  · rfl
@[go_sem] theorem all_apb {sz id : Nat} {l : List AV} {Q : Nat → BS → Prop} : (∀ a b, (a, b) ∈ apb sz id l → Q a b) = (l ≠ [] → Q id (.live sz l)) := by
  by_cases h : l = []
  · simp [apb, h]
  · simp [apb, h]
@[go_sem] theorem all_apb' {sz id : Nat} {l : List AV} {Q : Nat × BS → Prop} : (∀ a, a ∈ apb sz id l → Q a) = (l ≠ [] → Q (id, .live sz l)) := by
  by_cases h : l = []
  · simp [apb, h]
  · simp [apb, h]
@[go_sem] theorem hp_apb_at (n sz id : Nat) (l : List AV) (j : Nat) : hp n (apb sz id l) j = if j = id ∧ l ≠ [] then .live sz l else if j < n then .dead else .fresh := by
  by_cases h : l = []
  · simp [apb, h, hp]
  · rw [apb_ne h, hp_cons, upd_lit']; simp [h, hp]
@[go_sem] theorem clo_apv_iff (n sz id : Nat) (l : List AV) : clo n (apv sz id l) = (l ≠ [] → id < n) := by
  unfold apv; split <;> simp [clo, cloL, *]
theorem hp_apb (n sz id : Nat) (l : List AV) (h : l ≠ []) : hp n (apb sz id l) id = .live sz l := by
  rw [apb_ne h, hp_cons]; exact upd_same _ _ _
section
variable {P : Program} {zm : Bool} {ne : Nat} {Q : AEx → St → Prop} {k : List Itm} {t : Nat → AV} {f : Nat → BS} {n : Nat}
/-- A list grows. -/
theorem goApS_apv {id' id a b : Nat} {kd : TK} {z : List AV} {l : List AV} {y : AV} {new : List AV} {d : Option Tmp} (h1 : szA y = a ∨ new = []) (h2 : 0 < a) (h3 : 0 < b) (h4 : fitsA f y) (h5 : ((l.length + new.length : Nat) : Int) * b ≤ 70368744177664) (h6 : l ≠ [] → f id = .live a l)
    (h : go P zm ne Q k (putA t d (.own a id' 0 (l.length + new.length))) (upd (kill id l f) id' (.live a (l ++ new))) n) : goApS P zm ne Q id' (some ⟨a, b, kd, z⟩) (apv a id l) y (some new) d k t f n := by
  by_cases hl : l = []
  · subst hl
    rw [apv_nil, goApS_sl]
    exact ⟨rfl, ⟨.inr rfl, h1, h2, h3, .inl rfl⟩, h4, h5, by simpa [kill] using h⟩
  · rw [apv_ne hl, goApS_own, h6 hl, goApO_live]
    refine ⟨⟨rfl, h1, h2, h3⟩, h4, by omega, h5, ?_⟩
    simpa [kill, hl] using h
end

/-- b says no more than a. -/
def Wk (a b : AV) : Prop := (∀ c v, Rv c a v → Rv c b v) ∧ (ro a → ro b)
def WkL (l m : List AV) : Prop := (∀ c vs, Rl c l vs → Rl c m vs) ∧ (roL l → roL m)
theorem Wk.refl (a : AV) : Wk a a := ⟨fun _ _ h => h, fun h => h⟩
theorem Wk.any (a : AV) : Wk a .any := ⟨fun _ _ _ => trivial, fun _ => trivial⟩
theorem Wk.sl (sz : Nat) (tight : Bool) (l : List AV) : Wk (.sl sz tight l) (.sl sz false l) := by
  refine ⟨fun c v h => ?_, fun h => h⟩
  simp only [Rv] at h ⊢
  obtain ⟨a, cap, h0, h1, h2, h3⟩ := h
  exact ⟨a, cap, h0, h1, fun h => (by cases h), h3⟩
theorem Wk.nil (sz sz' : Nat) (tight : Bool) : Wk (.sl sz tight []) (.sl sz' false []) := by
  refine ⟨fun c v h => ?_, fun h => h⟩
  simp only [Rv] at h ⊢
  obtain ⟨a, cap, h0, h1, h2, h3⟩ := h
  exact ⟨a, cap, h0, h1, fun h => (by cases h), .inl trivial⟩
theorem Wk.slv (sz : Nat) (l : List AV) : Wk (slv sz l) (.sl sz false l) := by
  unfold Go.Proofs.Ytpmahilkkoengaa.slv
  split
  · rename_i h; subst h; exact Wk.nil 0 sz true
  · exact Wk.refl _
theorem WkL.nil : WkL [] [] := ⟨fun _ _ h => h, fun h => h⟩
theorem WkL.cons {a b : AV} {l m : List AV} (h : Wk a b) (k : WkL l m) : WkL (a :: l) (b :: m) := by
  refine ⟨fun c vs hv => ?_, fun hr => ?_⟩
  · simp only [Rl] at hv ⊢
    obtain ⟨v, r, h0, h1, h2⟩ := hv
    exact ⟨v, r, h0, h.1 c v h1, k.1 c r h2⟩
  · simp only [roL] at hr ⊢
    exact ⟨h.2 hr.1, k.2 hr.2⟩
theorem WkL.refl (l : List AV) : WkL l l := ⟨fun _ _ h => h, fun h => h⟩
theorem Wk.tup {l m : List AV} (h : WkL l m) : Wk (.tup l) (.tup m) := by
  refine ⟨fun c v hv => ?_, fun hr => ?_⟩
  · simp only [Rv] at hv ⊢
    obtain ⟨vs, h0, h1⟩ := hv
    exact ⟨vs, h0, h.1 c _ h1⟩
  · simp only [ro] at hr ⊢; exact h.2 hr
theorem Wk.agg {l m : List AV} (h : WkL l m) : Wk (.agg l) (.agg m) := by
  refine ⟨fun c v hv => ?_, fun hr => ?_⟩
  · simp only [Rv] at hv ⊢
    obtain ⟨vs, h0, h2, h1⟩ := hv
    exact ⟨vs, h0, h2, h.1 c _ h1⟩
  · simp only [ro] at hr ⊢; exact h.2 hr

theorem Pure.weaken {P : Program} {g : FuncId} {args : List AV} {r r' : AV} (h : Pure P g args r) (hw : Wk r r') : Pure P g args r' :=
  ⟨hw.2 h.1, fun c vs h1 h2 h3 => (h.2 c vs h1 h2 h3).mono fun v w' ⟨c', q1, q2, q3⟩ => ⟨c', q1, q2, hw.1 c' v q3⟩⟩
theorem Pure.args {P : Program} {g : FuncId} {args args' : List AV} {r : AV} (h : Pure P g args' r) (hw : WkL args args') : Pure P g args r :=
  ⟨h.1, fun c vs h1 h2 h3 => h.2 c vs h1 h2 (hw.1 c vs h3)⟩
end Go.Proofs.Ytpmahilkkoengaa
