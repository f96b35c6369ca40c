/- From the contract of a law to what the given statement asks: the law answers true and what lay in memory lies there as it did. -/
import Derived.Test.YtdbakmdcepkpmaaLub
import Derived.Below
set_option linter.unusedSimpArgs false
set_option linter.unusedVariables false
namespace Go.E3
open Go.RowKit (Below)
/-- Everything that is there when a law is called is not to be turned; no object is known. -/
def gLaw (w : World) : G := ⟨fun _ => (0, 0), fun b => b < w.heap.size, fun _ => False⟩
theorem rel_law (w : World) : Rel (gLaw w) w noHp 0 :=
  { live := fun id ob h => (nomatch h), inj := fun id id' ob ob' h => (nomatch h), sep := fun id ob h => (nomatch h), blk := fun b h => h, lt := fun id h => False.elim h }
theorem Ext.below {w w' : World} {g g' : G} {h' : Hp} {n n' : Nat} (e : Ext g w noHp n g' w' h' n') : Below w.heap.size w w' :=
  ⟨e.os, e.tape, e.output, e.size, fun k hk => e.frame k hk (fun id ob h => by cases h)⟩
theorem law_calls {P : Program} {f : Nat} {fn : Func} {c : Code} {vs : List AV} {us : List Value} {w : World} (hf : P.funcs[f]? = some fn) (hname : (fn.name == "runtime.NumGoroutine") = false) (hb : fn.body = some c)
    (hc : CallsA P f vs noHp 0 fun r _ _ => r = .bool true) (hv : VRs (gLaw w) w vs us) : Calls P f us.toArray w fun e w' => e = .returned (.bool true) ∧ Below w.heap.size w w' := by
  have h := hc (gLaw w) w us (rel_law w) hv
  have hrun : (callFunc f us.toArray).run P w = .ok (.enter f us.toArray) w := by
    have hname' : ¬ fn.name = "runtime.NumGoroutine" := by simpa using hname
    simp [callFunc, go_sem, hf, hname', hb]
  unfold Ent at h
  rw [hrun] at h
  refine h.mono ?_
  rintro e w' ⟨u, rfl, g', r, h', n', rfl, hr, hvr, he⟩
  cases hvr
  exact ⟨rfl, he.below⟩
theorem PureF.law {P : Program} {f : Nat} {vs : List AV} (h : PureF P f vs (.bool true)) : CallsA P f vs noHp 0 fun r _ _ => r = .bool true :=
  (h noHp 0).mono fun r h' _ q => q.1
theorem VRs.nil_ (g : G) (w : World) : VRs g w [] [] := ⟨rfl, fun j v u h => by simp at h⟩
theorem VRs.cons_ {g : G} {w : World} {v : AV} {u : Value} {vs : List AV} {us : List Value} (h : VR g w v u) (hs : VRs g w vs us) : VRs g w (v :: vs) (u :: us) :=
  ⟨by simp [hs.1], fun j v' u' h1 h2 => by
    cases j with
    | zero => simp at h1 h2; subst h1; subst h2; exact h
    | succ j => exact hs.2 j v' u' (by simpa using h1) (by simpa using h2)⟩
end Go.E3
