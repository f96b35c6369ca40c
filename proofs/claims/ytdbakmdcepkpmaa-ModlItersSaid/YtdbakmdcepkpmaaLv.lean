/- Code and functions. -/
import Derived.Test.YtdbakmdcepkpmaaLu
import Derived.Deep.LoopGhost
set_option linter.unusedSimpArgs false
set_option linter.unusedVariables false
namespace Go.E3
def compCode (P : Program) (N : Nat) (gs : Nat → Nat → Bool) : Code → Option ACode
  | .skip => some .skip
  | .label _ => some .skip
  | .region id ops draw => compRgn P N (gs id) ops draw
  | .seq a b => match compCode P N gs a, compCode P N gs b with
    | some x, some y => some (.seq x y)
    | _, _ => none
  | .cond c a b => match compX c, compCode P N gs a, compCode P N gs b with
    | some z, some x, some y => some (.cond z x y)
    | _, _, _ => none
  | .block id c => (compCode P N gs c).map (.block id)
  | .loop c => (compCode P N gs c).map .loop
  | .exit id => some (.exit id)
  | .ret => some .ret
  | _ => none
def Out.exit' : Out → Exit
  | .normal => .normal
  | .exit id => .exit id
  | .ret => .ret
theorem wpA_mono {P : Program} : ∀ (c : ACode) {K K' : Out → St → Prop} {st : St}, wpA P c K st → (∀ o st, K o st → K' o st) → wpA P c K' st
  | .skip, _, _, _, h, hk => hk _ _ h
  | .rgn k ops, K, K', st, h, hk => by
    have key : ∀ (ops : List AOper) (n0 : Nat) (st : St), wpOps P ops n0 (K .normal) st → wpOps P ops n0 (K' .normal) st := by
      intro ops
      induction ops with
      | nil => intro n0 st h; exact hk _ _ h
      | cons o r ih => intro n0 st h; rw [wpOps_cons_] at h ⊢; exact wpStep_mono h (ih n0)
    exact key ops _ _ h
  | .seq a b, K, K', st, h, hk => by
    refine wpA_mono a h fun o st h => ?_
    cases o with
    | normal => exact wpA_mono b h hk
    | exit id => exact hk _ _ h
    | ret => exact hk _ _ h
  | .cond c a b, K, K', st, h, hk => by
    simp only [wpA] at h ⊢
    split at h
    · rename_i t ht
      split at h
      · rename_i q; rw [if_pos q]; exact wpA_mono a h hk
      · rename_i q; rw [if_neg q]; exact wpA_mono b h hk
    · exact h
  | .block id c, K, K', st, h, hk => by
    refine wpA_mono c h fun o st h => ?_
    cases o with
    | normal => exact hk _ _ h
    | exit j => simp only at h ⊢; split at h <;> rename_i q <;> simp only [q, if_true, if_false] <;> exact hk _ _ h
    | ret => exact hk _ _ h
  | .loop c, K, K', st, h, hk => by
    obtain ⟨I, k, h0, hr⟩ := h
    refine ⟨I, k, h0, fun k st hi => wpA_mono c (hr k st hi) fun o st h => ?_⟩
    cases o with
    | normal => exact h
    | exit id => exact hk _ _ h
    | ret => exact hk _ _ h
  | .exit id, _, _, _, h, hk => hk _ _ h
  | .ret, _, _, _, h, hk => hk _ _ h
section
variable {P : Program} {N : Nat}
theorem code_sound (hm : P.follows .mixedOrders = true) {gs : Nat → Nat → Bool} : ∀ (c : Code) {ac : ACode}, compCode P N gs c = some ac → ∀ {K : Out → St → Prop} {Q : Exit → Act → World → Prop} {g : G} {w : World} {st : St} {a : Act},
    wpA P ac K st → RelS N g w st a → (∀ o g' st' a' w', K o st' → RelS N g' w' st' a' → Ext g w st.h st.n g' w' st'.h st'.n → Q o.exit' a' w') → c.wp P Q a w := by
  intro c
  induction c with
  | skip =>
    intro ac hc K Q g w st a hw hs hQ
    simp only [compCode, Option.some.injEq] at hc; subst hc
    exact wp_skip (hQ .normal g st a w hw hs (Ext.refl _ _ _ _))
  | label l =>
    intro ac hc K Q g w st a hw hs hQ
    simp only [compCode, Option.some.injEq] at hc; subst hc
    exact wp_label (hQ .normal g st a w hw hs (Ext.refl _ _ _ _))
  | region id ops draw =>
    intro ac hc K Q g w st a hw hs hQ
    simp only [compCode] at hc
    exact rgn_sound hm hc hw hs fun g' st' a' w' q1 q2 q3 => hQ .normal g' st' a' w' q1 q2 q3
  | seq x y ihx ihy =>
    intro ac hc K Q g w st a hw hs hQ
    simp only [compCode] at hc
    split at hc
    · rename_i ax ay hx hy
      injection hc with hc; subst hc
      simp only [wpA] at hw
      refine wp_seq (ihx hx hw hs ?_)
      intro o g1 st1 a1 w1 hk1 hs1 he1
      cases o with
      | normal => exact ihy hy hk1 hs1 fun o g' st' a' w' q1 q2 q3 => hQ o g' st' a' w' q1 q2 (he1.trans q3)
      | exit id => exact hQ (.exit id) g1 st1 a1 w1 hk1 hs1 he1
      | ret => exact hQ .ret g1 st1 a1 w1 hk1 hs1 he1
    · cases hc
  | cond z x y ihx ihy =>
    intro ac hc K Q g w st a hw hs hQ
    simp only [compCode] at hc
    split at hc
    · rename_i az ax ay hz hx hy
      injection hc with hc; subst hc
      simp only [wpA] at hw
      split at hw
      · rename_i t ht
        have hv := compX_spec hz hs.tmp
        rw [ht] at hv
        refine wp_cond_split hv.inv_bool (fun q => ?_) (fun q => ?_)
        · rw [if_pos q] at hw; exact ihx hx hw hs hQ
        · rw [if_neg (by simp [q])] at hw; exact ihy hy hw hs hQ
      · exact hw.elim
    · cases hc
  | block id x ih =>
    intro ac hc K Q g w st a hw hs hQ
    simp only [compCode] at hc
    obtain ⟨ax, hx, rfl⟩ := map_some hc
    simp only [wpA] at hw
    refine wp_block (ih hx hw hs ?_)
    intro o g1 st1 a1 w1 hk1 hs1 he1
    cases o with
    | normal => exact hQ .normal g1 st1 a1 w1 hk1 hs1 he1
    | exit j =>
      simp only [Out.exit', Exit.inBlock] at hk1 ⊢
      split at hk1
      · rename_i q; rw [if_pos q]; exact hQ .normal g1 st1 a1 w1 hk1 hs1 he1
      · rename_i q; rw [if_neg q]; exact hQ (.exit j) g1 st1 a1 w1 hk1 hs1 he1
    | ret => exact hQ .ret g1 st1 a1 w1 hk1 hs1 he1
  | loop x ih =>
    intro ac hc K Q g w st a hw hs hQ
    simp only [compCode] at hc
    obtain ⟨ax, hx, rfl⟩ := map_some hc
    simp only [wpA] at hw
    obtain ⟨I, k, h0, hround⟩ := hw
    refine wp_loop_ghost (fun n a1 w1 => ∃ g1 st1, I n st1 ∧ RelS N g1 w1 st1 a1 ∧ Ext g w st.h st.n g1 w1 st1.h st1.n) k ⟨g, st, h0, hs, Ext.refl _ _ _ _⟩ ?_
    rintro n a1 w1 ⟨g1, st1, hI, hs1, he1⟩
    refine ih hx (hround n st1 hI) hs1 ?_
    intro o g2 st2 a2 w2 hk2 hs2 he2
    cases o with
    | normal => obtain ⟨k', q1, q2⟩ := hk2; exact ⟨k', q1, g2, st2, q2, hs2, he1.trans he2⟩
    | exit id => exact hQ (.exit id) g2 st2 a2 w2 hk2 hs2 (he1.trans he2)
    | ret => exact hQ .ret g2 st2 a2 w2 hk2 hs2 (he1.trans he2)
  | exit id =>
    intro ac hc K Q g w st a hw hs hQ
    simp only [compCode, Option.some.injEq] at hc; subst hc
    exact wp_exit (hQ (.exit id) g st a w hw hs (Ext.refl _ _ _ _))
  | ret =>
    intro ac hc K Q g w st a hw hs hQ
    simp only [compCode, Option.some.injEq] at hc; subst hc
    exact wp_ret (hQ .ret g st a w hw hs (Ext.refl _ _ _ _))
  | rangeFunc => intro ac hc; simp [compCode] at hc
  | scope => intro ac hc; simp [compCode] at hc
  | goto => intro ac hc; simp [compCode] at hc
  | refuse => intro ac hc; simp [compCode] at hc
end
/-! ### Results -/
inductive ARes where
  | tmp (t : Nat)
  | cell (t size : Nat) (ag : Bool)
def ARes.ev (st : St) : ARes → Option AV
  | .tmp t => some (st.s t)
  | .cell t size ag => ldE st.h (st.s t) size ag
def resL (st : St) : List ARes → Option (List AV)
  | [] => some []
  | r :: rs => match r.ev st, resL st rs with
    | some v, some vs => some (v :: vs)
    | _, _ => none
def resV (rs : List ARes) (st : St) : Option AV :=
  match resL st rs with
  | some [v] => some v
  | some vs => some (.tup vs)
  | none => none
def compRes (P : Program) : ResultVar → Option ARes
  | .tmp t => some (.tmp t)
  | .cell a t => match sizeT P t, aggT P t with
    | some n, some b => some (.cell a n b)
    | _, _ => none
def compRess (P : Program) : List ResultVar → Option (List ARes)
  | [] => some []
  | r :: rs => match compRes P r, compRess P rs with
    | some x, some xs => some (x :: xs)
    | _, _ => none
section
variable {P : Program} {N : Nat} {g : G} {w : World} {st : St} {a : Act}
theorem loadVar_sound {t size : Nat} {ag : Bool} (hn : sizeT P t = some size) (hb : aggT P t = some ag) {h : Hp} {n : Nat} (hr : Rel g w h n) {p v : AV} {u : Value} (hp : VR g w p u) (hv : ldE h p size ag = some v) :
    ∃ u', (do loadVar t (← asAddr u) : Sem Value).run P w = .ok u' w ∧ VR g w v u' := by
  obtain ⟨u', h1, h2⟩ := ldE_sound hn hb hr hp hv
  refine ⟨u', ?_, h2⟩
  have hu : ∃ ad, u = .pointer (some ad) := by
    unfold ldE at hv
    split at hv
    · cases hp; exact ⟨_, rfl⟩
    · cases hp; exact ⟨_, rfl⟩
    · cases hv
  obtain ⟨ad, rfl⟩ := hu
  simp only [Instr.loadAt, Instr.sureAddr, Sem.run_bind, Sem.run_pure, Result.andThen_ok] at h1
  simp only [asAddr, Sem.run_bind, Sem.run_pure, Result.andThen_ok]
  exact h1
def oneRes (a : Act) (r : ResultVar) : Sem Value :=
  match r with
  | .tmp t => pure (a.tmps.getD t undef)
  | .cell b t => do loadVar t (← asAddr (a.tmps.getD b undef))
theorem results_sound (hs : RelS N g w st a) : ∀ {rvs : List ResultVar} {rs : List ARes} {vs : List AV}, compRess P rvs = some rs → resL st rs = some vs →
    ∃ us : List Value, (rvs.mapM (oneRes a)).run P w = .ok us w ∧ VRs g w vs us
  | [], rs, vs, hc, hv => by
    simp only [compRess, Option.some.injEq] at hc; subst hc
    simp only [resL, Option.some.injEq] at hv; subst hv
    exact ⟨[], by simp, rfl, fun j v u h => by simp at h⟩
  | r :: rvs, rs, vs, hc, hv => by
    simp only [compRess] at hc
    split at hc
    · rename_i x xs hx hxs
      injection hc with hc; subst hc
      simp only [resL] at hv
      split at hv
      · rename_i v vs' hv1 hv2
        injection hv with hv; subst hv
        obtain ⟨us, h1, h2, h3⟩ := results_sound hs hxs hv2
        have hone : ∃ u, (oneRes a r).run P w = .ok u w ∧ VR g w v u := by
          cases r with
          | tmp t =>
            simp only [compRes, Option.some.injEq] at hx; subst hx
            simp only [ARes.ev, Option.some.injEq] at hv1; subst hv1
            exact ⟨_, rfl, hs.tmp t⟩
          | cell b t =>
            simp only [compRes] at hx
            split at hx
            · rename_i n ag q1 q2
              injection hx with hx; subst hx
              exact loadVar_sound q1 q2 hs.rel (hs.tmp b) hv1
            · cases hx
        obtain ⟨u, q1, q2⟩ := hone
        refine ⟨u :: us, ?_, by simp [h2], fun j v' u' hv' hu' => ?_⟩
        · rw [List.mapM_cons, Sem.run_bind, q1]
          simp only [Result.andThen_ok, Sem.run_bind, h1, Sem.run_pure]
        · cases j with
          | zero => simp at hv' hu'; subst hv'; subst hu'; exact q2
          | succ j => exact h3 j v' u' (by simpa using hv') (by simpa using hu')
      · cases hv
    · cases hc
theorem resV_sound (hs : RelS N g w st a) {fn : Func} {rs : List ARes} {v : AV} (hc : compRess P fn.results.toList = some rs) (hv : resV rs st = some v) : ∃ u, (results fn a.tmps).run P w = .ok u w ∧ VR g w v u := by
  unfold resV at hv
  cases hl : resL st rs with
  | none => rw [hl] at hv; cases hv
  | some vs =>
    rw [hl] at hv
    obtain ⟨us, h1, h2, h3⟩ := results_sound hs hc hl
    have hrun : (results fn a.tmps).run P w = .ok (if h : us.toArray.size = 1 then us.toArray[0] else .tuple us.toArray) w := by
      have e : results fn a.tmps = (do let vs ← fn.results.mapM (oneRes a); pure (if h : vs.size = 1 then vs[0] else .tuple vs)) := by
        unfold results
        congr 1
      rw [e, Array.mapM_eq_mapM_toList]
      simp only [Sem.run_bind, Sem.run_map]
      rw [h1]
      rfl
    rw [hrun]
    refine ⟨_, rfl, ?_⟩
    by_cases h1' : us.length = 1
    · obtain ⟨u, rfl⟩ := List.length_eq_one_iff.1 h1'
      obtain ⟨v', rfl⟩ := List.length_eq_one_iff.1 (by rw [← h2]; rfl : vs.length = 1)
      simp only [Option.some.injEq] at hv; subst hv
      simpa using h3 0 v' u rfl rfl
    · rw [dif_neg (by simpa using h1')]
      have : v = .tup vs := by
        split at hv
        · rename_i q; injection q with q; subst q; simp at h2; exact absurd h2 h1'
        · rename_i q; injection q with q; subst q; injection hv with hv; exact hv.symm
        · cases hv
      subst this
      exact .tup vs us h2 h3
end
/-! ### A function -/
def retA (rs : List ARes) (K : AV → Hp → Nat → Prop) : Out → St → Prop
  | .exit _, _ => False
  | _, st => match resV rs st with
    | some v => K v st.h st.n
    | none => False
def argS (vs : List AV) : Nat → AV := fun t => vs.getD t .undef
theorem fn_sound {P : Program} (hm : P.follows .mixedOrders = true) {f : Nat} {fn : Func} {c : Code} {gs : Nat → Nat → Bool} {ac : ACode} {rs : List ARes} (hf : P.funcs[f]? = some fn) (hname : (fn.name == "runtime.NumGoroutine") = false) (hb : fn.body = some c)
    (hc : compCode P fn.ntmps gs c = some ac) (hrs : compRess P fn.results.toList = some rs) {vs : List AV} {h : Hp} {n : Nat} {K : AV → Hp → Nat → Prop} (hlen : vs.length ≤ fn.ntmps) (hw : wpA P ac (retA rs K) ⟨argS vs, h, n⟩) : CallsA P f vs h n K := by
  intro g w us hr hv
  have hrun : (callFunc f us.toArray).run P w = .ok (.enter f us.toArray) w := by
    have hname' : ¬ fn.name = "runtime.NumGoroutine" := by simpa using hname
    simp [callFunc, go_sem, hf, hname', hb]
  unfold Ent
  rw [hrun]
  refine calls_of_wp hf hb ?_
  have hs : RelS fn.ntmps g w ⟨argS vs, h, n⟩ { tmps := us.toArray ++ Array.replicate (fn.ntmps - us.toArray.size) undef, defers := [] } := by
    refine ⟨hr, fun t => ?_, ?_, rfl⟩
    · simp only [argS]
      by_cases ht : t < vs.length
      · have ht' : t < us.length := by rw [hv.1]; exact ht
        have := hv.2 t vs[t] us[t] (List.getElem?_eq_getElem ht) (List.getElem?_eq_getElem ht')
        simpa [ht, ht', Array.getElem?_append] using this
      · have e1 : vs.getD t .undef = .undef := by simp [List.getElem?_eq_none (by omega : vs.length ≤ t)]
        have e2 : (us.toArray ++ Array.replicate (fn.ntmps - us.toArray.size) undef).getD t undef = undef := by
          have ht' : ¬ t < us.length := by rw [hv.1]; exact ht
          rw [Array.getD_eq_getD_getElem?, Array.getElem?_append]
          simp only [List.size_toArray, ht', if_false, Array.getElem?_replicate]
          split <;> rfl
        rw [e1]
        show VR g w .undef ((us.toArray ++ Array.replicate (fn.ntmps - us.toArray.size) undef).getD t undef)
        rw [e2]
        exact VR.undef _ _
    · have := hv.1
      simp; omega
  refine code_sound hm c hc hw hs ?_
  intro o g' st' a' w' hk hs' he
  have fin : (match resV rs st' with
      | some v => K v st'.h st'.n
      | none => False) → a'.defers = [] ∧ ∃ v, (results fn a'.tmps).run P w' = .ok v w' ∧ ∃ u, Ending.returned v = .returned u ∧ ∃ g'' r h' n', K r h' n' ∧ Rel g'' w' h' n' ∧ VR g'' w' r u ∧ Ext g w h n g'' w' h' n' := by
    intro hk
    cases hv' : resV rs st' with
    | none => rw [hv'] at hk; exact hk.elim
    | some v =>
      rw [hv'] at hk
      obtain ⟨u, q1, q2⟩ := resV_sound hs' hrs hv'
      exact ⟨hs'.defers, u, q1, u, rfl, g', v, _, _, hk, hs'.rel, q2, he⟩
  cases o with
  | normal => exact fin hk
  | ret => exact fin hk
  | exit id => exact hk.elim
end Go.E3
