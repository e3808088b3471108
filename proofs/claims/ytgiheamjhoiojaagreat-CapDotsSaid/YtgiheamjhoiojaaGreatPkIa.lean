import Derived.Test.YtgiheamjhoiojaaGreatPkFb
import Derived.ProofKit
import Derived.ChangeSlices
import Derived.Test.YtgiheamjhoiojaaGreatPkPa
import Derived.Carry
import Derived.OpenShut
namespace Go.Proofs.YtgiheamjhoiojaaGreat
open Go Go.Proofs
open Go.ChangeShapes
set_option linter.unusedSimpArgs false
set_option linter.unusedVariables false
section
variable {H : Type} {enc : TypeId × Value → H} {P : Program} {w : World}
def Opn (enc : TypeId × Value → H) (P : Program) (w : World) (t : TypeId) (Q : List AV → Prop) : Prop :=
  ∀ fuel cs x, DataW.trod enc P w 0 (fun _ => true) true fuel t cs = some x →
    ∃ l, Q l ∧ (∀ cx : Cx, cx.w = w → (∀ b, ¬ cx.F b) → Rl cx l cs) ∧ (∀ u ∈ cs, u.oneCell' = true)
theorem Opn.mono {t : TypeId} {Q Q' : List AV → Prop} (h : Opn enc P w t Q) (hq : ∀ l, Q l → Q' l) : Opn enc P w t Q' := fun fuel cs x hx => by
  obtain ⟨l, h1, h2⟩ := h fuel cs x hx
  exact ⟨l, hq l h1, h2⟩
theorem opn_bool {t : TypeId} (ht : P.underlying t = some .bool) : Opn enc P w t fun l => ∃ b, l = [.bool b] := fun fuel cs x h => by
  obtain ⟨b, rfl, _⟩ := DataW.trod_bool ht h
  exact ⟨_, ⟨b, rfl⟩, fun cx _ _ => by simp [Rl, Rv], by simp [Value.oneCell']⟩
theorem opn_int {t : TypeId} {k : IntKind} (ht : P.underlying t = some (.int k)) : Opn enc P w t fun l => ∃ n, l = [.int k n] ∧ (Lit.int k n).wf = true := fun fuel cs x h => by
  obtain ⟨n, rfl, _, hw⟩ := DataW.trod_int ht h
  exact ⟨_, ⟨n, rfl, hw⟩, fun cx _ _ => by simp [Rl, Rv], by simp [Value.oneCell']⟩
theorem list_of_each {A : Type} (n : Nat) (R : Nat → A → Prop) (h : ∀ i, i < n → ∃ a, R i a) : ∃ L : List A, L.length = n ∧ ∀ i a, L[i]? = some a → R i a := by
  induction n with
  | zero => exact ⟨[], rfl, by simp⟩
  | succ n ih =>
    obtain ⟨L, h1, h2⟩ := ih fun i hi => h i (by omega)
    obtain ⟨a, ha⟩ := h n (by omega)
    refine ⟨L ++ [a], by simp [h1], fun i b hb => ?_⟩
    by_cases hi : i < L.length
    · rw [List.getElem?_append_left hi] at hb; exact h2 i b hb
    · rw [List.getElem?_append_right (by omega)] at hb
      have : i = n := by
        have := (List.getElem?_eq_some_iff.1 hb).1
        simp at this; omega
      subst this
      rw [h1, Nat.sub_self] at hb
      simp at hb
      subst hb; exact ha
theorem add_off {b o i : Nat} : Addr.add ⟨b, o, none⟩ i = ⟨b, o + i, none⟩ := by
  unfold Addr.add
  split
  · next h => subst h; simp
  · rfl
theorem row_cells {a : Addr} {n : Nat} {cs : List Value} (hn : 0 < n) (h : w.cells? 0 a n = some cs) : a.spot = none ∧ a.block < w.heap.size ∧ cs.length = n ∧ HasCells w a.block a.off cs := by
  obtain ⟨_, h1, h2⟩ := World.cells?_some h
  have h0 := h2 0 hn
  have hc0 : cs[0]? = some (cs[0]'(by omega)) := List.getElem?_eq_getElem _
  rw [hc0] at h0
  have hs : a.spot = none ∧ a.block < w.heap.size := by
    have e0 : a.add 0 = a := by unfold Addr.add; simp
    rw [e0] at h0
    unfold World.cell? at h0
    split at h0
    · next hb =>
      split at h0
      · cases h0
      · next hsp => exact ⟨by simpa using hsp, (Array.getElem?_eq_some_iff.1 hb).1⟩
    · cases h0
  refine ⟨hs.1, hs.2, h1, fun i v hv => ?_⟩
  have hi : i < cs.length := (List.getElem?_eq_some_iff.1 hv).1
  have := h2 i (by omega)
  rw [hv] at this
  obtain ⟨b, o, s⟩ := a
  simp only at hs ⊢
  rw [hs.1, add_off] at this
  exact this
theorem opn_slice_core {t e : TypeId} {Q : List AV → Prop} {R : AV → Prop} {sz : Nat} (ht : P.underlying t = some (.slice e)) (hsz : P.cellsOf e = sz) (hpos : 0 < sz) (he : Opn enc P w e Q)
    (hR : ∀ (l : List AV) (cs : List Value), Q l → cs.length = sz → (∀ u ∈ cs, u.oneCell' = true) → ∃ a, R a ∧ ∃ v : Value, v.cells.toList = cs ∧ (a.isAgg = true ∨ v.oneCell' = true) ∧ ∀ cx : Cx, Rl cx l cs → Rv cx a v) :
    Opn enc P w t fun l => ∃ L : List AV, l = [.sl sz false L] ∧ L.length ≤ 9223372036854775807 ∧ ∀ a ∈ L, R a := fun fuel cs x h => by
  rcases DataW.trod_slice ht h with ⟨rfl, rfl⟩ | ⟨a, len, cap, elems, rest, n, _, rfl, rfl, hb, hl, hm, hlen, hel, _, _⟩
  · exact ⟨_, ⟨[], rfl, by simp, by simp⟩, fun cx _ _ => by simp [Rl, Rv], by simp [Value.oneCell']⟩
  have key : ∀ i, i < len → ∃ al : AV × List Value, R al.1 ∧ w.cells? 0 (a.add (i * sz)) sz = some al.2 ∧ (∀ u ∈ al.2, u.oneCell' = true) ∧ ∃ v : Value, v.cells.toList = al.2 ∧ (al.1.isAgg = true ∨ v.oneCell' = true) ∧ ∀ cx : Cx, cx.w = w → (∀ b, ¬ cx.F b) → Rv cx al.1 v := fun i hi => by
    have h1 := hel i hi
    rw [hsz, List.getElem?_eq_getElem (by omega), Option.bind_eq_some_iff] at h1
    obtain ⟨ci, h2, h3⟩ := h1
    obtain ⟨l, k1, k2, k3⟩ := he n ci _ h3
    obtain ⟨a', r1, v, r2, r3, r4⟩ := hR l ci k1 (World.cells?_some h2).2.1 k3
    exact ⟨(a', ci), r1, h2, k3, v, r2, r3, fun cx e1 e2 => r4 cx (k2 cx e1 e2)⟩
  obtain ⟨L, l1, l2⟩ := list_of_each len _ key
  refine ⟨_, ⟨L.map (·.1), rfl, by simp only [List.length_map, l1]; unfold maxLen at hm; omega, fun b hb => ?_⟩, fun cx e1 e2 => ?_, by simp [Value.oneCell']⟩
  · obtain ⟨y, hy, rfl⟩ := List.mem_map.1 hb
    obtain ⟨i, hi⟩ := List.getElem?_of_mem hy
    exact (l2 i y hi).1
  · simp only [Rl, Rv]
    refine ⟨_, _, rfl, ⟨some a, cap, by simp [l1], by simp [l1]; exact hl, by simp, ?_⟩, rfl⟩
    by_cases h0 : len = 0
    · left; apply List.length_eq_zero_iff.1; simp [l1, h0]
    · right
      have hz := (l2 0 _ (List.getElem?_eq_getElem (by omega))).2.1
      rw [Nat.zero_mul] at hz
      have e0 : a.add 0 = a := by unfold Addr.add; simp
      rw [e0] at hz
      obtain ⟨s1, s2, _, _⟩ := row_cells hpos hz
      obtain ⟨b, o, s⟩ := a
      simp only at s1 s2
      subst s1
      refine ⟨b, o, rfl, by rw [e1]; exact s2, e2 b, Re.of_get fun i y hy => ?_⟩
      rw [List.getElem?_map, Option.map_eq_some_iff] at hy
      obtain ⟨p, hp, rfl⟩ := hy
      obtain ⟨_, q1, q2, v, q3, q4, q5⟩ := l2 i p hp
      rw [add_off] at q1
      obtain ⟨_, _, g1, g2⟩ := row_cells hpos q1
      refine ⟨v, q5 cx e1 e2, ?_, q4, ?_, ?_⟩
      · rw [← Array.length_toList, q3]; exact g1
      · rw [q3]; exact q2
      · rw [q3, e1]; exact g2
theorem cells_one {v : Value} (h : v.oneCell' = true) : v.cells = #[v] := by cases v <;> simp_all [Value.oneCell', Value.cells]
theorem opn_slice_one {t e : TypeId} {Q : List AV → Prop} {R : AV → Prop} (hQ : ∀ l, Q l → ∃ a, l = [a] ∧ R a) (ht : P.underlying t = some (.slice e)) (hsz : P.cellsOf e = 1) (he : Opn enc P w e Q) :
    Opn enc P w t fun l => ∃ L : List AV, l = [.sl 1 false L] ∧ L.length ≤ 9223372036854775807 ∧ ∀ a ∈ L, R a :=
  opn_slice_core ht hsz (by omega) he fun l cs hq hl h1 => by
    obtain ⟨a, rfl, hr⟩ := hQ l hq
    match cs, hl with
    | [v], _ =>
      have hv := h1 v (by simp)
      refine ⟨a, hr, v, by rw [cells_one hv], .inr hv, fun cx hx => ?_⟩
      simp only [Rl] at hx
      obtain ⟨_, _, e, h, _⟩ := hx
      injection e with e1 _
      rw [e1]; exact h
theorem opn_struct2 {t : TypeId} {f0 f1 : Field} {Q0 Q1 : List AV → Prop} {n0 n1 : Nat} (ht : P.underlying t = some (.struct #[f0, f1])) (h0 : Opn enc P w f0.type Q0) (h1 : Opn enc P w f1.type Q1)
    (hc : (P.cellsOf f0.type, P.cellsOf f1.type, P.cellsOf t, f0.offset, f1.offset) = (n0, n1, n0 + n1, 0, n0)) : Opn enc P w t fun l => ∃ l0 l1, l = l0 ++ l1 ∧ Q0 l0 ∧ Q1 l1 := fun fuel cs x h => by
  simp only [Prod.mk.injEq] at hc
  obtain ⟨c0, c1, c2, c3, c4⟩ := hc
  obtain ⟨y0, y1, n, _, hl, k0, k1⟩ := trod_struct2 ht h
  rw [c3, c0, List.drop_zero] at k0
  rw [c4, c1] at k1
  obtain ⟨l0, a1, a2, a3⟩ := h0 _ _ _ k0
  obtain ⟨l1, b1, b2, b3⟩ := h1 _ _ _ k1
  have e : cs = cs.take n0 ++ (cs.drop n0).take n1 := by
    rw [List.take_of_length_le (l := cs.drop n0) (by simp; omega), List.take_append_drop]
  refine ⟨l0 ++ l1, ⟨l0, l1, rfl, a1, b1⟩, fun cx e1 e2 => ?_, fun u hu => ?_⟩
  · rw [e]; exact (a2 cx e1 e2).append (b2 cx e1 e2)
  · rw [e] at hu
    rcases List.mem_append.1 hu with h | h
    · exact a3 u h
    · exact b3 u h
def stOf (P : Program) (t : TypeId) : Option (List (Nat × TypeId)) := match P.underlying t with
  | some (.struct fs) => some (fs.toList.map fun f => (f.offset, f.type))
  | _ => none
theorem stOf_some {t : TypeId} {l : List (Nat × TypeId)} (h : stOf P t = some l) : ∃ fs : Array Field, P.underlying t = some (.struct fs) ∧ fs.toList.map (fun f => (f.offset, f.type)) = l := by
  unfold stOf at h
  split at h
  · next fs hf => exact ⟨fs, hf, by simpa using h⟩
  · cases h
theorem opn_st2 {t t0 t1 : TypeId} {Q0 Q1 : List AV → Prop} {n0 n1 : Nat} (ht : stOf P t = some [(0, t0), (n0, t1)]) (hc : (P.cellsOf t0, P.cellsOf t1, P.cellsOf t) = (n0, n1, n0 + n1))
    (h0 : Opn enc P w t0 Q0) (h1 : Opn enc P w t1 Q1) : Opn enc P w t fun l => ∃ l0 l1, l = l0 ++ l1 ∧ Q0 l0 ∧ Q1 l1 := by
  obtain ⟨⟨l⟩, k1, k2⟩ := stOf_some ht
  obtain ⟨f0, f1, rfl⟩ : ∃ f0 f1, l = [f0, f1] := by
    have hl : l.length = 2 := by simpa using congrArg List.length k2
    match l, hl with
    | [f0, f1], _ => exact ⟨f0, f1, rfl⟩
  · simp only [List.map_cons, List.map_nil, List.cons.injEq, Prod.mk.injEq, and_true] at k2
    obtain ⟨⟨a1, a2⟩, b1, b2⟩ := k2
    subst a2 b2
    simp only [Prod.mk.injEq] at hc
    exact opn_struct2 k1 h0 h1 (by rw [hc.1, hc.2.1, hc.2.2, a1, b1])
end
theorem nat_lits {L : List AV} (h : ∀ a ∈ L, ∃ n : Int, a = .int .u64 n ∧ (Lit.int .u64 n).wf = true) : ∃ p : List Nat, Lim 18446744073709551616 p ∧ L = uA .u64 p := by
  induction L with
  | nil => exact ⟨[], by simp [Lim], rfl⟩
  | cons a L ih =>
    obtain ⟨p, h1, rfl⟩ := ih fun x hx => h x (by simp [hx])
    obtain ⟨n, rfl, hw⟩ := h a (by simp)
    simp only [Lit.wf, Bool.and_eq_true, decide_eq_true_eq] at hw
    have e1 : IntKind.u64.min = 0 := by decide
    have e2 : IntKind.u64.max = 18446744073709551615 := by decide
    rw [e1, e2] at hw
    refine ⟨n.toNat :: p, fun x hx => ?_, ?_⟩
    · rcases List.mem_cons.1 hx with rfl | hx
      · omega
      · exact h1 x hx
    · simp only [uA, List.map_cons]
      rw [show ((n.toNat : Nat) : Int) = n by omega]
section
variable {H : Type} {enc : TypeId × Value → H} {w : World}
theorem opn_nat : Opn enc Tryz.prog w 22 fun l => ∃ p, Lim 18446744073709551616 p ∧ l = [nA p] :=
  (opn_slice_one (R := fun a => ∃ n : Int, a = .int .u64 n ∧ (Lit.int .u64 n).wf = true) (fun l ⟨n, h1, h2⟩ => ⟨_, h1, n, rfl, h2⟩) (e := 157) (by kernel_rfl) (by kernel_rfl) (opn_int (k := .u64) (by kernel_rfl))).mono fun l ⟨L, h1, h2, h3⟩ => by
    obtain ⟨p, hp, rfl⟩ := nat_lits h3
    exact ⟨p, hp, h1⟩
theorem opn_zed : Opn enc Tryz.prog w 24 fun l => ∃ s p, Lim 18446744073709551616 p ∧ l = [.bool s, nA p] :=
  (opn_st2 (t0 := 4) (t1 := 22) (n0 := 1) (n1 := 1) (by kernel_rfl) (by kernel_rfl) (opn_bool (by kernel_rfl)) opn_nat).mono fun l ⟨l0, l1, h, ⟨b, h0⟩, p, hp, h1⟩ => ⟨b, p, hp, by rw [h, h0, h1]; rfl⟩
def RQ.Lm (z : RQ) : Prop := Lim 18446744073709551616 z.p ∧ Lim 18446744073709551616 z.q
def PR.Lm (c : PR) : Prop := c.x.Lm ∧ c.y.Lm
def RQ.cs (z : RQ) : List AV := [.bool z.neg, nA z.p, nA z.q]
theorem opn_rat : Opn enc Tryz.prog w 26 fun l => ∃ z : RQ, z.Lm ∧ l = z.cs :=
  (opn_st2 (t0 := 24) (t1 := 22) (n0 := 2) (n1 := 1) (by kernel_rfl) (by kernel_rfl) opn_zed opn_nat).mono fun l ⟨l0, l1, h, ⟨b, p, hp, h0⟩, q, hq, h1⟩ => ⟨⟨b, p, q⟩, ⟨hp, hq⟩, by rw [h, h0, h1]; rfl⟩
end
open Go.ChangeShapes Go.WideShapes Go.ChangeAt Go.RowKit
theorem Tryz.own : ownKnob Tryz.prog.godebug = none := by kernel_rfl
theorem Tryz.laidOut : laidOutB Tryz.prog = true := by kernel_rfl
theorem Tryz.underBool : Tryz.prog.underlying 4 = some .bool := by kernel_rfl
theorem rl_two {cx : Cx} {a a' : AV} {v v' : Value} (h : Rl cx [a] [v]) (h' : Rl cx [a'] [v']) : Rl cx [a, a'] [v, v'] := h.append h'
theorem law2 {H : Type} {enc : TypeId × Value → H} {g : FuncId} {fn : Func} {c : Code} {s : ChangeSpec} {t t' : TypeId} {l : List AV} {W : World} {v0 v1 : Value} {d0 d1 : DataW H} {p0 p1 : List MemPlace}
    (hf : Tryz.prog.funcs[g]? = some fn) (hb : fn.body = some c) (hname : (fn.name == "runtime.NumGoroutine") = false) (hpar : fn.params = #[t, t']) (hres : fn.resultTypes = #[4]) (hvars : s.vars = [])
    (hfun : ∀ d d' : DataW H, s.fn H [d, d'] = { results := [.lit (.bool true)], args := [d, d'] })
    (hrd : (Tryz.prog.readableRec t && Tryz.prog.readableRec t') = true) (hsz : t < Tryz.prog.types.size ∧ t' < Tryz.prog.types.size)
    (hp : Pure Tryz.prog g l (.bool true)) (hrl : ∀ cx : Cx, cx.w = W → (∀ b, ¬ cx.F b) → Rl cx l [v0, v1])
    (h0 : DataW.Trod enc Tryz.prog W 0 (fun _ => true) true t v0 d0 p0) (h1 : DataW.Trod enc Tryz.prog W 0 (fun _ => true) true t' v1 d1 p1) (hW : DataW.Whole enc Tryz.prog fn.params.toList s.vars false W [v0, v1] [d0, d1] [] (p0 ++ p1)) :
    Calls Tryz.prog g #[v0, v1] W fun e W' => ∃ v, e = .returned v ∧ s.post enc Tryz.prog fn false true false false W #[v0, v1] v W' := by
  refine (Pure.calls hf hb hname hp (vs := [v0, v1]) hrl).mono fun e W' ⟨v, he, hB, cx, hw, hr⟩ => ?_
  subst he
  simp only [Rv] at hr
  subst hr
  simp only [Bool.and_eq_true] at hrd
  have hlt : ∀ x ∈ p0 ++ p1, x.block < W.heap.size := fun x hx => by simpa using hW.lt x hx
  refine ⟨_, rfl, [d0, d1], [], p0 ++ p1, [], p0 ++ p1, [], hW, ?_, ?_, ?_, hB.frame _, fun h => by cases h⟩
  · rw [hres, List.append_nil, hfun]
    exact trodAll_mk1 (shut_bool Tryz.underBool true)
  · rw [hpar, List.append_nil, hfun]
    exact trodAll_mk2 (Below.trod Tryz.laidOut hrd.1 hsz.1 h0 hB fun x hx => hlt x (List.mem_append_left _ hx)) (Below.trod Tryz.laidOut hrd.2 hsz.2 h1 hB fun x hx => hlt x (List.mem_append_right _ hx))
  · rw [hvars, List.append_nil, hfun]; rfl
section
variable {H : Type} {enc : TypeId × Value → H} {P : Program} {w : World}
def offs : Nat → List (TypeId × Nat) → List (Nat × TypeId)
  | _, [] => []
  | n, (t, k) :: r => (n, t) :: offs (n + k) r
def tots : List (TypeId × Nat) → Nat
  | [] => 0
  | (_, k) :: r => k + tots r
def Fits : List (TypeId × Nat × (List AV → Prop)) → List AV → Prop
  | [], l => l = []
  | (_, _, Q) :: r, l => ∃ a b, l = a ++ b ∧ Q a ∧ Fits r b
theorem opn_parts {cs : List Value} : ∀ (fs : List (TypeId × Nat × (List AV → Prop))) (off : Nat), (∀ f ∈ fs, Opn enc P w f.1 f.2.2) →
    (∀ (i : Nat) (o : Nat) (t : TypeId), (offs off (fs.map fun f => (f.1, f.2.1)))[i]? = some (o, t) → ∃ m x, DataW.trod enc P w 0 (fun _ => true) true m t ((cs.drop o).take (P.cellsOf t)) = some x) →
    fs.map (fun f => P.cellsOf f.1) = fs.map (fun f => f.2.1) →
    ∃ l, Fits fs l ∧ (∀ cx : Cx, cx.w = w → (∀ b, ¬ cx.F b) → Rl cx l ((cs.drop off).take (tots (fs.map fun f => (f.1, f.2.1))))) ∧ ∀ u ∈ (cs.drop off).take (tots (fs.map fun f => (f.1, f.2.1))), u.oneCell' = true
  | [], off, _, _, _ => ⟨[], rfl, fun cx _ _ => by simp [tots, Rl], by simp [tots]⟩
  | (t, k, Q) :: r, off, ho, hp, hc => by
    simp only [List.map_cons, List.cons.injEq] at hc
    obtain ⟨m, x, hx⟩ := hp 0 off t rfl
    rw [hc.1] at hx
    obtain ⟨a, a1, a2, a3⟩ := ho (t, k, Q) (by simp) _ _ _ hx
    obtain ⟨b, b1, b2, b3⟩ := opn_parts r (off + k) (fun f hf => ho f (by simp [hf])) (fun i o t' h => hp (i + 1) o t' h) hc.2
    have e : (cs.drop off).take (k + tots (r.map fun f => (f.1, f.2.1))) = (cs.drop off).take k ++ (cs.drop (off + k)).take (tots (r.map fun f => (f.1, f.2.1))) := by
      rw [List.take_add, List.drop_drop]
    refine ⟨a ++ b, ⟨a, b, rfl, a1, b1⟩, fun cx e1 e2 => ?_, fun u hu => ?_⟩
    · simp only [List.map_cons, tots]; rw [e]; exact (a2 cx e1 e2).append (b2 cx e1 e2)
    · simp only [List.map_cons, tots] at hu
      rw [e] at hu
      rcases List.mem_append.1 hu with h | h
      · exact a3 u h
      · exact b3 u h
theorem opn_st {t : TypeId} (fs : List (TypeId × Nat × (List AV → Prop))) (ht : stOf P t = some (offs 0 (fs.map fun f => (f.1, f.2.1)))) (hc : fs.map (fun f => P.cellsOf f.1) = fs.map (fun f => f.2.1)) (hn : P.cellsOf t = tots (fs.map fun f => (f.1, f.2.1)))
    (ho : ∀ f ∈ fs, Opn enc P w f.1 f.2.2) : Opn enc P w t (Fits fs) := fun fuel cs x h => by
  obtain ⟨gs, k1, k2⟩ := stOf_some ht
  obtain ⟨xs, m, _, rfl, hl, hlen, hf⟩ := DataW.trod_struct k1 h
  obtain ⟨l, l1, l2, l3⟩ := opn_parts (cs := cs) fs 0 ho (fun i o t' hi => by
    rw [← k2, List.getElem?_map] at hi
    cases hg : gs.toList[i]? with
    | none => rw [hg] at hi; cases hi
    | some g =>
      rw [hg] at hi
      simp only [Option.map_some, Option.some.injEq, Prod.mk.injEq] at hi
      obtain ⟨rfl, rfl⟩ := hi
      have h1 := hf i g (by simpa using hg)
      have hlt : i < gs.size := by simpa using (List.getElem?_eq_some_iff.1 hg).1
      rw [List.getElem?_eq_getElem (by omega)] at h1
      exact ⟨_, _, h1⟩) hc
  rw [List.drop_zero, List.take_of_length_le (by omega)] at l2 l3
  exact ⟨l, l1, l2, l3⟩
theorem arr_agg {W : World} {r : Reach} {b : Nat} {t e : TypeId} {n : Nat} {v : Value} (ht : P.underlying t = some (.array n e)) (h : Value.okWide P W r b t v) : ∃ vs, v = .agg vs := by
  unfold Value.okWide at h
  rw [ht] at h
  cases v <;> first | exact ⟨_, rfl⟩ | (simp [Cell.okWide, Cell.ok, ht] at h; done)
def isAggT (P : Program) (t : TypeId) : Bool := match P.underlying t with
  | some (.struct _) => true
  | some (.array _ _) => true
  | _ => false
theorem agg_agg {W : World} {r : Reach} {b : Nat} {t : TypeId} {v : Value} (ht : isAggT P t = true) (h : Value.okWide P W r b t v) : ∃ vs, v = .agg vs := by
  unfold isAggT at ht
  split at ht
  · next gs k1 =>
    unfold Value.okWide at h
    rw [k1] at h
    cases v <;> first | exact ⟨_, rfl⟩ | (simp [Cell.okWide, Cell.ok, k1] at h; done)
  · next n e k1 => exact arr_agg k1 h
  · cases ht
theorem rl_agg {cx : Cx} {l : List AV} {v : Value} (ha : ∃ vs, v = .agg vs) (h1 : ∀ u ∈ v.cells.toList, u.oneCell' = true) (h : Rl cx l v.cells.toList) : Rl cx [.agg l] [v] := by
  obtain ⟨vs, rfl⟩ := ha
  simp only [Rl, Rv]
  exact ⟨_, _, rfl, ⟨_, rfl, by simpa [Value.cells] using h1, by simpa [Value.cells] using h⟩, rfl⟩
end
section
variable {H : Type} {enc : TypeId × Value → H} {w : World}
def PR.co (c : PR) : List AV := c.x.cs ++ c.y.cs
theorem opn_pt : Opn enc Tryz.prog w 28 fun l => ∃ c : PR, c.Lm ∧ l = c.co :=
  (opn_st2 (t0 := 26) (t1 := 26) (n0 := 3) (n1 := 3) (by kernel_rfl) (by kernel_rfl) opn_rat opn_rat).mono fun l ⟨l0, l1, h, ⟨x, hx, h0⟩, y, hy, h1⟩ => ⟨⟨x, y⟩, ⟨hx, hy⟩, by rw [h, h0, h1]; rfl⟩
end
set_option maxRecDepth 20000
def RQ.sml (z : RQ) (m : Nat) : Prop := z.p.length ≤ m ∧ z.q.length ≤ m
instance (z : RQ) (m : Nat) : Decidable (z.sml m) := inferInstanceAs (Decidable (_ ∧ _))
theorem smallpt_pure (c : PR) (m : Nat) : Pure Tryz.prog 49 [c.av, .int .i64 m] (.bool (decide (c.x.sml m ∧ c.y.sml m))) := by
  have h1 := small_q c.x m
  have h2 := small_q c.y m
  change Pure _ _ _ (.bool (decide (c.x.sml m))) at h1
  change Pure _ _ _ (.bool (decide (c.y.sml m))) at h2
  refine Pure.of_go mixed Tryz.func49 rfl (rs := [.tmp 4]) rfl (by kernel_rfl) (by simp -implicitDefEqProofs [go_sem]) ?_
  unfold PR.av RQ.av at *
  simp -implicitDefEqProofs [go_sem]
  refine goC_pure _ h1 (by simp -implicitDefEqProofs [go_sem]) ?_
  by_cases a1 : c.x.sml m
  · simp -implicitDefEqProofs [go_sem, a1]
    refine goC_pure _ h2 (by simp -implicitDefEqProofs [go_sem]) ?_
    by_cases a2 : c.y.sml m
    · simp -implicitDefEqProofs [go_sem, a2]
    · simp -implicitDefEqProofs [go_sem, a2]
  · simp -implicitDefEqProofs [go_sem, a1]
theorem finr (z : RQ) (hz : z.In 17179869184) : Pure Tryz.prog 46 [z.av] (fA z.val) := fin_pure z hz.sm.ok (by
      have : nl z.num.natAbs ≤ z.p.length := by unfold RQ.num; rw [sgn_abs]; exact nl_lv hz.limp
      have := hz.lp; omega) (by
      have : nl z.den ≤ max 1 z.q.length := by
        unfold RQ.den; split
        · rw [nl_one]; omega
        · have := nl_lv hz.limq; omega
      have := hz.lq; omega)
theorem sml_in {z : RQ} {m : Nat} (h : z.sml m) (hl : z.Lm) : z.In m := ⟨h.1, hl.1, h.2, hl.2⟩
end Go.Proofs.YtgiheamjhoiojaaGreat
