/- From the contract of a law to what the given statement asks; readers of what can be turned; slices of whole numbers that a law is handed. -/
import Derived.Test.YtdbakmdcepkpmaaLub
import Derived.Below
import Derived.ProofKit
set_option linter.unusedSimpArgs false
set_option linter.unusedVariables false
namespace Go.E3
open Go.RowKit (Below)
/-- Everything that is there when a law is called is not to be turned; no object is known. -/
def gLaw (w : World) : G := ⟨fun _ => (0, 0), fun b => b < w.heap.size, fun _ => False⟩
theorem rel_law (w : World) : Rel (gLaw w) w noHp 0 :=
  { live := fun id ob h => (nomatch h), inj := fun id id' ob ob' h => (nomatch h), sep := fun id ob h => (nomatch h), blk := fun b h => h, lt := fun id h => False.elim h }
theorem Ext.below {w w' : World} {g g' : G} {h' : Hp} {n n' : Nat} (e : Ext g w noHp n g' w' h' n') : Below w.heap.size w w' :=
  ⟨e.os, e.tape, e.output, e.size, fun k hk => e.frame k hk (fun id ob h => by cases h)⟩
theorem law_calls {P : Program} {f : Nat} {fn : Func} {c : Code} {vs : List AV} {us : List Value} {w : World} (hf : P.funcs[f]? = some fn) (hname : (fn.name == "runtime.NumGoroutine") = false) (hb : fn.body = some c)
    (hc : CallsA P f vs noHp 0 fun r _ _ => r = .bool true) (hv : VRs (gLaw w) w vs us) : Calls P f us.toArray w fun e w' => e = .returned (.bool true) ∧ Below w.heap.size w w' := by
  have h := hc (gLaw w) w us (rel_law w) hv
  have hrun : (callFunc f us.toArray).run P w = .ok (.enter f us.toArray) w := by
    have hname' : ¬ fn.name = "runtime.NumGoroutine" := by simpa using hname
    simp [callFunc, go_sem, hf, hname', hb]
  unfold Ent at h
  rw [hrun] at h
  refine h.mono ?_
  rintro e w' ⟨u, rfl, g', r, h', n', rfl, hr, hvr, he⟩
  cases hvr
  exact ⟨rfl, he.below⟩
theorem PureF.law {P : Program} {f : Nat} {vs : List AV} (h : PureF P f vs (.bool true)) : CallsA P f vs noHp 0 fun r _ _ => r = .bool true :=
  (h noHp 0).mono fun r h' _ q => q.1
theorem VRs.nil_ (g : G) (w : World) : VRs g w [] [] := ⟨rfl, fun j v u h => by simp at h⟩
theorem VRs.cons_ {g : G} {w : World} {v : AV} {u : Value} {vs : List AV} {us : List Value} (h : VR g w v u) (hs : VRs g w vs us) : VRs g w (v :: vs) (u :: us) :=
  ⟨by simp [hs.1], fun j v' u' h1 h2 => by
    cases j with
    | zero => simp at h1 h2; subst h1; subst h2; exact h
    | succ j => exact hs.2 j v' u' (by simpa using h1) (by simpa using h2)⟩
end Go.E3
namespace Go.E3
def scalarA : AV → Bool
  | .int _ _ => true
  | .bool _ => true
  | _ => false
theorem VR.scalar {g g' : G} {w w' : World} {v : AV} {u : Value} (hs : scalarA v = true) (h : VR g w v u) : VR g' w' v u := by
  cases h <;> first | exact .int _ _ | exact .bool _ | (exact absurd hs (by simp [scalarA]))
theorem CallsA.reads {P : Program} {f : Nat} {vs vs' : List AV} {r0 : AV} {h : Hp} {n k : Nat} (hp : PureF P f vs' r0) (hs : scalarA r0 = true)
    (hf : vs.length = vs'.length ∧ ∀ (i : Nat) (v v' : AV), vs[i]? = some v → vs'[i]? = some v' → frz (fun _ => true) h k v = some v') : CallsA P f vs h n fun r h' _ => r = r0 ∧ h' = h := by
  intro g w us hr hv
  have hv' : VRs (g.still (fun _ => true) h) w vs' us := by
    refine ⟨by rw [hv.1, hf.1], fun j v' u h1 h2 => ?_⟩
    have hj : j < vs.length := by
      rw [hf.1]
      exact (List.getElem?_eq_some_iff.1 h1).1
    exact frz_sound hr k (hv.2 j vs[j] u (List.getElem?_eq_getElem hj) h2) (hf.2 j _ _ (List.getElem?_eq_getElem hj) h1)
  refine (hp _ n _ w us (hr.still (fun _ => true)) hv').mono ?_
  rintro u w' ⟨g', r, h', n', ⟨rfl, rfl⟩, q5, q6, q7⟩
  have agree : ∀ b, b < w.heap.size → w'.heap[b]? = w.heap[b]? := fun b hb => q7.frame b hb fun id ob q => by simp [dropHp] at q
  have hVR : ∀ {v : AV} {x : Value}, VR g w v x → VR g w' v x := fun q => q.mono (fun _ a => ⟨a, rfl⟩) (fun _ a => a) (fun b hb => agree b (hr.blk b hb)) q7.sized
  refine ⟨g, r, h, n, ⟨rfl, rfl⟩, { live := fun id ob hob => ?_, inj := hr.inj, sep := hr.sep, blk := fun b hb => Nat.lt_of_lt_of_le (hr.blk b hb) q7.size, lt := hr.lt }, q6.scalar hs, ?_⟩
  · obtain ⟨h1, h2⟩ := hr.live id ob hob
    refine ⟨h1, ?_⟩
    cases ob with
    | mp a b => exact h2
    | arr e sz els =>
      obtain ⟨cur, c1, c2, c3⟩ := h2
      have hb : (g.ι id).1 < w.heap.size := (Array.getElem?_eq_some_iff.1 c1).1
      refine ⟨cur, by rw [agree _ hb]; exact c1, c2, fun i x hx => ?_⟩
      obtain ⟨d1, d2, d3⟩ := c3 i x hx
      refine ⟨d1, d2, fun j c hc => ?_⟩
      obtain ⟨u, e1, e2⟩ := d3 j c hc
      exact ⟨u, e1, hVR e2⟩
  · exact { le := Nat.le_refl _, new := fun _ h => .inl h, os := q7.os, tape := q7.tape, output := q7.output, size := q7.size, A := fun _ h => ⟨h, rfl⟩, im := fun _ h => h, rw_ := fun id ob hob => .inl ⟨id, ob, hob, rfl⟩, frame := fun b hb _ => agree b hb, sized := q7.sized, imn := fun _ h => .inl h }
/-- A part of a walk that comes to one kind of state. -/
theorem wMid {P : Program} {a b : ACode} {Q : Out → St → Prop} {s : Nat → AV} {h : Hp} {n : Nat} (R : St → Prop) (h1 : wpA P a (normQ R) ⟨s, h, n⟩) (h2 : ∀ st, R st → wpA P b Q st) : wpA P (.seq a b) Q ⟨s, h, n⟩ := by
  simp only [wpA]
  refine wpA_mono a h1 fun o st hst => ?_
  cases o with
  | normal => exact h2 st hst
  | exit j => exact hst.elim
  | ret => exact hst.elim
end Go.E3
namespace Go.E3
theorem cell_lt {w : World} {a : Addr} {v : Value} (h : w.cell? a = some v) : a.block < w.heap.size := by
  by_cases hb : a.block < w.heap.size
  · exact hb
  · simp [World.cell?, Array.getElem?_eq_none (by omega : w.heap.size ≤ a.block)] at h
/-- A slice of numbers in memory. -/
def IsRow (k : IntKind) (w : World) (a : Option Addr) (len cap : Nat) (zs : List Int) : Prop :=
  (a = none ∧ len = 0 ∧ cap = 0 ∧ zs = []) ∨ ∃ x, a = some x ∧ x.spot = none ∧ len ≤ cap ∧ zs.length = cap ∧ ∀ i, i < zs.length → w.cell? (x.add i) = some (.int k (zs.getD i 0))
theorem vr_ints {k : IntKind} {w : World} {a : Option Addr} {len cap : Nat} {zs : List Int} (h : IsRow k w a len cap zs) : VR (gLaw w) w (.isl none false ((zs.take len).map (AV.int k))) (.slice a len cap) := by
  have hlen : ((zs.take len).map (AV.int k)).length = len := by
    rcases h with ⟨_, rfl, _, rfl⟩ | ⟨x, _, _, h1, h2, _⟩
    · rfl
    · simp; omega
  have key : VR (gLaw w) w (.isl none false ((zs.take len).map (AV.int k))) (.slice a ((zs.take len).map (AV.int k)).length cap) := by
    refine .isl none false _ 1 a cap ((zs.take len).map fun z => [Value.int k z]) (by simp) ?_ (fun q => by cases q) (fun b q => by cases q) ?_ ?_ ?_ ?_ ?_
    · rw [hlen]
      rcases h with ⟨_, rfl, _, rfl⟩ | ⟨x, _, _, h1, h2, _⟩
      · omega
      · exact h1
    · intro ha
      rcases h with ⟨_, _, rfl, _⟩ | ⟨x, rfl, _⟩
      · rfl
      · cases ha
    · intro ad ha
      rcases h with ⟨rfl, _⟩ | ⟨x, rfl, h0, h1, h2, h3⟩
      · cases ha
      · injection ha with ha
        subst ha
        refine ⟨h0, fun hne => ?_⟩
        have : 0 < zs.length := by
          rcases Nat.eq_zero_or_pos zs.length with q | q
          · have : zs = [] := List.length_eq_zero_iff.1 q
            subst this
            simp at hne
          · exact q
        exact cell_lt (h3 0 this)
    · intro i ul hul
      simp only [List.getElem?_map] at hul
      cases hz : (zs.take len)[i]? with
      | none => rw [hz] at hul; cases hul
      | some z =>
        rw [hz] at hul
        injection hul with hul
        subst hul
        refine ⟨rfl, fun ad ha j u hj => ?_⟩
        rcases h with ⟨rfl, _⟩ | ⟨x, rfl, h0, h1, h2, h3⟩
        · cases ha
        · injection ha with ha
          subst ha
          have hil : i < len ∧ i < zs.length := by
            have := (List.getElem?_eq_some_iff.1 hz).1
            simp at this
            omega
          have hzi : zs[i]? = some z := by rw [List.getElem?_take_of_lt hil.1] at hz; exact hz
          cases j with
          | zero =>
            simp at hj
            subst hj
            have := h3 i hil.2
            simp [hzi] at this
            simpa using this
          | succ j => simp at hj
    · intro i x ul hx hul
      simp only [List.getElem?_map] at hx hul
      cases hz : (zs.take len)[i]? with
      | none => rw [hz] at hul; cases hul
      | some z =>
        rw [hz] at hul hx
        injection hul with hul
        injection hx with hx
        subst hul hx
        exact ⟨rfl, fun c hc => by simp at hc; subst hc; rfl⟩
    · intro i x ul hx hul j c u hc hu
      simp only [List.getElem?_map] at hx hul
      cases hz : (zs.take len)[i]? with
      | none => rw [hz] at hul; cases hul
      | some z =>
        rw [hz] at hul hx
        injection hul with hul
        injection hx with hx
        subst hul hx
        cases j with
        | zero => simp at hc hu; subst hc hu; exact .int _ _
        | succ j => simp at hu
  rwa [hlen] at key
theorem okWide_spot {P : Program} {w : World} {r : Reach} {base : Nat} {t e : TypeId} {a : Addr} {len cap : Nat} (ht : P.underlying t = some (.slice e)) (h : Value.okWide P w r base t (.slice (some a) len cap)) : a.spot = none := by
  simp only [Value.okWide, ht, Cell.okWide, Cell.ok, World.has] at h
  first | exact h.2.1 | exact h.1.2.1 | exact h.2.2.1 | exact h.2.2.2.1 | (obtain ⟨_, _, h, _⟩ := h; exact h) | (obtain ⟨_, h, _⟩ := h; exact h)
end Go.E3
