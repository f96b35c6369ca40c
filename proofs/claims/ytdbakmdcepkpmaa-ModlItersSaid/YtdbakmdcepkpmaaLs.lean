/- A call and its neighbours; an operation that nothing holds back may come first. -/
import Derived.Test.YtdbakmdcepkpmaaLr
set_option linter.unusedSimpArgs false
set_option linter.unusedVariables false
namespace Go.E3
theorem Ent.mono {P : Program} {f : Nat} {us : Array Value} {w : World} {R R' : Value → World → Prop} (h : Ent P f us w R) (hr : ∀ u w', R u w' → R' u w') : Ent P f us w R' := by
  unfold Ent at h ⊢
  split at h
  · exact hr _ _ h
  · exact h.mono fun e w'' ⟨u, he, q⟩ => ⟨u, he, hr _ _ q⟩
  · exact h.elim
theorem CallsA.mono {P : Program} {f : Nat} {vs : List AV} {h : Hp} {n : Nat} {K K' : AV → Hp → Nat → Prop} (hc : CallsA P f vs h n K) (hk : ∀ r h' n', K r h' n' → K' r h' n') : CallsA P f vs h n K' :=
  fun g w us hr hv => (hc g w us hr hv).mono fun _ _ ⟨g', r, h', n', q, q2⟩ => ⟨g', r, h', n', hk _ _ _ q, q2⟩
theorem doCall.mono {P : Program} {f : Nat} {vs : List AV} {gr : Bool} {bad : List Nat} {st : St} {K K' : AV → Hp → Nat → Prop} (hc : doCall P f vs gr bad st K) (hk : ∀ r h' n', K r h' n' → K' r h' n') : doCall P f vs gr bad st K' := by
  unfold doCall at hc ⊢
  split
  · rename_i q; rw [if_pos q] at hc
    obtain ⟨F, h1, h2⟩ := hc
    exact ⟨F, h1, h2.mono fun r h n ⟨q1, q2, q3⟩ => ⟨q1, q2, hk _ _ _ q3⟩⟩
  · rename_i q; rw [if_neg q] at hc; exact hc.mono hk
def wpStep (P : Program) (o : AOper) (n0 : Nat) (K : St → Prop) (st : St) : Prop :=
  match o.gd with
  | none => wpOp1 P o n0 K st
  | some (t, b) => match st.s t with
    | .bool c => if c = b then wpOp1 P o n0 K st else K (st.put o.dst .undef)
    | _ => False
theorem wpOps_cons_ {P : Program} (o : AOper) (r : List AOper) (n0 : Nat) (K : St → Prop) (st : St) : wpOps P (o :: r) n0 K st ↔ wpStep P o n0 (wpOps P r n0 K) st := by
  unfold wpStep
  simp only [wpOps]
  exact Iff.rfl
theorem wpStep_simple {P : Program} {o : AOper} (h : kindO o.op ≠ .C) (n0 : Nat) (K : St → Prop) (st : St) : wpStep P o n0 K st ↔ ∃ st', stepS o n0 st = some st' ∧ K st' := by
  have h1 : ∀ st, wpOp1 P o n0 K st ↔ ∃ st', (match evS o.op (n0 + o.ix) st with
      | some (v, h) => if clearOf o n0 st.s = true then some (St.put { st with h := h } o.dst v) else none
      | none => none) = some st' ∧ K st' := by
    intro st
    have e : wpOp1 P o n0 K st ↔ (match evS o.op (n0 + o.ix) st with
        | some (v, h) => clearOf o n0 st.s = true ∧ K (St.put { st with h := h } o.dst v)
        | none => False) := by
      unfold wpOp1
      cases hop : o.op <;> first | exact Iff.rfl | (exfalso; apply h; rw [hop]; rfl)
    rw [e]
    cases evS o.op (n0 + o.ix) st with
    | none => simp
    | some p =>
      obtain ⟨v, hh⟩ := p
      simp only
      constructor
      · rintro ⟨q1, q2⟩; exact ⟨_, if_pos q1, q2⟩
      · rintro ⟨st', q1, q2⟩
        split at q1
        · rename_i q; injection q1 with q1; subst q1; exact ⟨q, q2⟩
        · cases q1
  unfold stepS wpStep
  cases o.gd with
  | none => exact h1 st
  | some p =>
    obtain ⟨t, b⟩ := p
    simp only
    cases st.s t <;> simp only [reduceCtorEq, false_and, exists_false]
    rename_i c
    split
    · exact h1 st
    · simp
theorem apnW_mono {h : Hp} {nw e sz bytes : Nat} {ze v x : AV} {K K' : AV → Hp → Prop} (ha : apnW h nw e sz bytes ze v x K) (hk : ∀ v h, K v h → K' v h) : apnW h nw e sz bytes ze v x K' := by
  unfold apnW at ha ⊢
  split at ha
  · split at ha
    · rename_i q; rw [if_pos q]; exact hk _ _ ha
    · rename_i q; rw [if_neg q]; exact ⟨ha.1, fun c hc => hk _ _ (ha.2 c hc)⟩
  · exact ha
theorem apzW_mono {h : Hp} {nw e sz bytes : Nat} {ze v x : AV} {K K' : AV → Hp → Prop} (ha : apzW h nw e sz bytes ze v x K) (hk : ∀ v h, K v h → K' v h) : apzW h nw e sz bytes ze v x K' := by
  unfold apzW at ha ⊢
  split at ha
  · split at ha
    · exact ⟨ha.1, hk _ _ ha.2⟩
    · exact ha
  · exact ha
theorem wpOp1_mono {P : Program} {o : AOper} {n0 : Nat} {K K' : St → Prop} {st : St} (h : wpOp1 P o n0 K st) (hk : ∀ st, K st → K' st) : wpOp1 P o n0 K' st := by
  have hs : (match evS o.op (n0 + o.ix) st with
        | some (v, h) => clearOf o n0 st.s = true ∧ K (St.put { st with h := h } o.dst v)
        | none => False) → (match evS o.op (n0 + o.ix) st with
        | some (v, h) => clearOf o n0 st.s = true ∧ K' (St.put { st with h := h } o.dst v)
        | none => False) := by
    intro h
    split at h
    · exact ⟨h.1, hk _ h.2⟩
    · exact h
  unfold wpOp1 at h ⊢
  cases hop : o.op <;> simp only [hop] at h ⊢ <;> rw [hop] at hs <;> first
    | exact hs h
    | exact doCall.mono h fun _ _ _ q => hk _ q
    | exact apnW_mono h fun _ _ q => hk _ q
    | exact apzW_mono h fun _ _ q => hk _ q
    | skip
  split at h
  · exact doCall.mono h fun _ _ _ q => hk _ q
  · exact h
theorem wpStep_mono {P : Program} {o : AOper} {n0 : Nat} {K K' : St → Prop} {st : St} (h : wpStep P o n0 K st) (hk : ∀ st, K st → K' st) : wpStep P o n0 K' st := by
  unfold wpStep at h ⊢
  split at h
  · exact wpOp1_mono h hk
  · split at h
    · split at h
      · rename_i q; simp only [q, if_true]; exact wpOp1_mono h hk
      · rename_i q; simp only [q, if_false]; exact hk _ h
    · exact h
/-! ### The abstract heap's numbers -/
structure WF (st : St) : Prop where
  lt : ∀ id, st.h id ≠ none → id < st.n
theorem upd_dom {h : Hp} {id nw : Nat} {o : Option AObj} {j : Nat} (hj : upd h id o j ≠ none) (hid : h id ≠ none ∨ id = nw) : h j ≠ none ∨ j = nw := by
  by_cases e : j = id
  · subst e; exact hid
  · rw [upd_ne _ _ e] at hj; exact .inl hj
theorem evS_dom {op : AOp} {nw : Nat} {st : St} {v : AV} {h' : Hp} (h : evS op nw st = some (v, h')) (id : Nat) (hid : h' id ≠ none) : st.h id ≠ none ∨ id = nw := by
  by_cases hp : op.isPure = true
  · rw [evS_pure hp] at h
    obtain ⟨_, _, e⟩ := map_some h
    injection e with e1 e2; subst e2; exact .inl hid
  · cases op <;> simp only [AOp.isPure, not_true_eq_false, Bool.false_eq_true, not_false_eq_true] at hp <;> simp only [evS] at h
    case ld => obtain ⟨_, _, e⟩ := map_some h; injection e with e1 e2; subst e2; exact .inl hid
    case box => split at h
                · injection h with h; injection h with e1 e2; subst e2; exact upd_dom hid (.inr rfl)
                · cases h
    case new => split at h
                · injection h with h; injection h with e1 e2; subst e2; exact upd_dom hid (.inr rfl)
                · cases h
    case bsl => split at h
                · injection h with h; injection h with e1 e2; subst e2; exact upd_dom hid (.inr rfl)
                · cases h
    case st x size vv =>
      obtain ⟨_, hs, e⟩ := map_some h; injection e with e1 e2; subst e2
      unfold stE at hs
      repeat' (split at hs)
      all_goals first
        | (cases hs; done)
        | (rename_i q _ _ _ _; injection hs with hs; subst hs; exact upd_dom hid (.inl (by simp_all)))
        | (injection hs with hs; subst hs; exact upd_dom hid (.inl (by simp_all)))
    case cpy sz d x =>
      unfold cpyE at h
      repeat' (split at h)
      all_goals first
        | (cases h; done)
        | (injection h with h; injection h with e1 e2; subst e2; first | exact .inl hid | exact upd_dom hid (.inl (by simp_all)))
    case clr sz z x =>
      unfold clrE at h
      repeat' (split at h)
      all_goals first
        | (cases h; done)
        | (injection h with h; injection h with e1 e2; subst e2; first | exact .inl hid | exact upd_dom hid (.inl (by simp_all)))
    case app e sz bytes s x =>
      unfold appE at h
      repeat' (split at h)
      all_goals first
        | (cases h; done)
        | (injection h with h; injection h with e1 e2; subst e2; first
            | exact .inl hid
            | exact upd_dom hid (.inr rfl)
            | exact upd_dom hid (.inl (by simp_all))
            | (by_cases hj : id = nw
               · exact .inr hj
               · rw [upd_ne _ _ hj] at hid
                 first
                   | exact .inl hid
                   | (refine .inl fun q => hid ?_
                      unfold upd; split
                      · rfl
                      · exact q)))
    all_goals (exact absurd h (by simp [evP]))
theorem execS_dom {o : AOper} {n0 : Nat} {s : Nat → AV} {h h' : Hp} {v : AV} (hc : execS o n0 s h = some (v, h')) (id : Nat) (hid : h' id ≠ none) : h id ≠ none ∨ id = n0 + o.ix := by
  unfold execS at hc
  split at hc
  · rename_i v2 h2 he
    split at hc
    · injection hc with hc; injection hc with e1 e2; subst e1; subst e2
      exact evS_dom he id hid
    · cases hc
  · cases hc
theorem coreS_dom {o : AOper} {n0 : Nat} {s : Nat → AV} {h h' : Hp} {v : AV} (hc : coreS o n0 s h = some (v, h')) (id : Nat) (hid : h' id ≠ none) : h id ≠ none ∨ id = n0 + o.ix := by
  unfold coreS at hc
  split at hc
  · exact execS_dom hc id hid
  · split at hc
    · split at hc
      · exact execS_dom hc id hid
      · injection hc with hc; injection hc with e1 e2; subst e2; exact .inl hid
    · cases hc
theorem WF.step {o : AOper} {n0 : Nat} {st st' : St} (hw : WF st) (hn : n0 + o.ix < st.n) (h : stepS o n0 st = some st') : WF st' ∧ st'.n = st.n := by
  rw [stepS_core] at h
  obtain ⟨⟨v, h'⟩, hc, rfl⟩ := map_some h
  rw [put_eq]
  refine ⟨⟨fun id hid => ?_⟩, rfl⟩
  rcases coreS_dom hc id hid with q | q
  · exact hw.lt id q
  · simp only; omega
/-! ### A call behind an operation that does not order it -/
theorem merge_old {a b : Hp} {id : Nat} (h : a id = none) : merge a b id = b id := by unfold merge; rw [h]
theorem swap_call {P : Program} {k i : AOper} (hki : kindO i.op = .C) (hkk : kindO k.op ≠ .C) (hap : apart k i = true) (hc : commK k i = true) {n0 : Nat} {st s1 : St} (hw : WF st) (hn : n0 + k.ix < st.n) {K : St → Prop}
    (h1 : stepS k n0 st = some s1) (h2 : wpStep P i n0 K s1) : wpStep P i n0 (fun s => ∃ s2, stepS k n0 s = some s2 ∧ K s2) st := by
  obtain ⟨a1, a2, a3⟩ := apart_spec hap
  rw [stepS_core] at h1
  obtain ⟨⟨vk, hk⟩, ck, rfl⟩ := map_some h1
  rw [put_eq] at h2
  -- what is left to show behind the call
  have fin : ∀ {r : AV} {hb hb' : Hp} {n' : Nat}, coreS k n0 st.s hb = some (vk, hb') → K (St.put ⟨putS st.s k.dst vk, hb', n'⟩ i.dst r) → ∃ s2, stepS k n0 (St.put ⟨st.s, hb, n'⟩ i.dst r) = some s2 ∧ K s2 := by
    intro r hb hb' n' q1 q2
    refine ⟨_, ?_, q2⟩
    rw [stepS_core, put_eq]
    have : coreS k n0 (putS st.s i.dst r) hb = some (vk, hb') := by
      rw [← q1]; exact coreS_congr (fun t ht => putS_out (a2 t ht))
    simp only [this, Option.map_some, put_eq]
    rw [putS_comm a3]
  have hslots : ∀ t ∈ i.slots, putS st.s k.dst vk t = st.s t := fun t ht => putS_out (a1 t ht)
  have hopS : ∀ t ∈ i.op.slots, putS st.s k.dst vk t = st.s t := fun t ht => hslots t (List.mem_append_left _ (List.mem_append_left _ ht))
  -- the call itself
  have hcall : ∀ {f : Nat} {vs : List AV} {gr : Bool} {bad : List Nat}, (kindO k.op = .P ∨ gr = true) → (kindO k.op = .M → n0 + k.ix ∈ bad) → doCall P f vs gr bad ⟨putS st.s k.dst vk, hk, st.n⟩ (fun r h n => K (St.put ⟨putS st.s k.dst vk, h, n⟩ i.dst r)) →
      doCall P f vs gr bad st (fun r h n => ∃ s2, stepS k n0 (St.put ⟨st.s, h, n⟩ i.dst r) = some s2 ∧ K s2) := by
    intro f vs gr bad hgr hbad hd
    unfold doCall at hd ⊢
    by_cases hg : gr = true
    · rw [if_pos hg] at hd ⊢
      obtain ⟨F, hF0, hd⟩ := hd
      have hre : restr F hk = restr F st.h := by
        cases hkd : kindO k.op with
        | P => obtain ⟨rfl, _⟩ := coreS_P hkd ck; rfl
        | L => obtain ⟨rfl, _⟩ := coreS_L hkd ck; rfl
        | M =>
          obtain ⟨F2, rfl, _, hF⟩ := coreS_M hkd ck
          rcases hF with rfl | ⟨ob, rfl⟩
          · rfl
          · funext id
            unfold restr
            split
            · rename_i q
              refine upd_ne _ _ fun e => ?_
              rw [e, hF0 _ (hbad hkd)] at q; cases q
            · rfl
        | B => simp [commK, hkd, hki] at hc
        | C => exact absurd hkd hkk
      simp only [hre] at hd
      have hbig : ∀ (h : Hp) (id : Nat), restr F st.h id ≠ none → st.h id ≠ none := by
        intro h id q e
        apply q
        unfold restr; split
        · exact e
        · rfl
      refine ⟨F, hF0, hd.mono fun r h n ⟨q1, q2, q3⟩ => ?_⟩
      have q1' : ∀ id, restr F st.h id ≠ none → h id = st.h id := by
        intro id hid
        have := q1 id hid
        have h2 : restr F hk id = restr F st.h id := by rw [hre]
        unfold restr at hid h2
        split at hid
        · rename_i q; rw [if_pos q, if_pos q] at h2; rw [this]; exact h2
        · exact absurd rfl hid
      refine ⟨q1', q2, fin ?_ q3⟩
      cases hkd : kindO k.op with
      | P => obtain ⟨rfl, f⟩ := coreS_P hkd ck; exact f _
      | L =>
        obtain ⟨rfl, f⟩ := coreS_L hkd ck
        refine f _ fun id _ _ hs => ?_
        cases hh : h id with
        | none => exact merge_old hh
        | some ob =>
          rcases q2 id (by simp [hh]) with q | q
          · unfold merge; rw [hh]; simp only; rw [← hh]; exact q1' id q
          · have := hw.lt id (by intro e; simp [e] at hs)
            simp only at *; omega
      | M =>
        obtain ⟨F2, rfl, f, hF⟩ := coreS_M hkd ck
        have := f (merge h st.h)
        rcases hF with rfl | ⟨ob, rfl⟩
        · exact this
        · rw [this]
          congr 1; congr 1
          funext t
          simp only [upd, merge]
          split
          · rename_i q; subst q
            cases hh : h (n0 + k.ix) with
            | none => rfl
            | some ob =>
              exfalso
              rcases q2 (n0 + k.ix) (by simp [hh]) with q | q
              · apply q; unfold restr; rw [hF0 _ (hbad hkd)]; rfl
              · simp only at *; omega
          · rfl
      | B => simp [commK, hkd, hki] at hc
      | C => exact absurd hkd hkk
    · rw [if_neg hg] at hd ⊢
      have hkd : kindO k.op = .P := hgr.resolve_right hg
      obtain ⟨rfl, f⟩ := coreS_P hkd ck
      exact hd.mono fun r h n q => fin (f _) q
  have hgr : kindO k.op = .P ∨ i.op.grows = true := by
    unfold commK at hc
    cases hkd : kindO k.op <;> simp only [hkd, hki] at hc <;> first | exact .inl rfl | exact .inr hc | (cases hc; done) | exact .inr (by simp at hc; exact hc.1)
  have hbad : kindO k.op = .M → n0 + k.ix ∈ i.av.map (n0 + ·) := by
    intro hkd
    unfold commK at hc
    simp only [hkd, hki, Bool.and_eq_true] at hc
    exact List.mem_map.2 ⟨k.ix, by simpa using hc.2, rfl⟩
  have hop1 : wpOp1 P i n0 K ⟨putS st.s k.dst vk, hk, st.n⟩ → wpOp1 P i n0 (fun s => ∃ s2, stepS k n0 s = some s2 ∧ K s2) st := by
    intro h
    unfold wpOp1 at h ⊢
    cases hop : i.op <;> rw [hop] at hki hopS hgr <;> first | (simp [kindO] at hki; done) | skip
    rotate_left 2
    · rename_i f args gr
      simp only [hop] at h ⊢
      simp only [AOp.slots] at hopS
      rw [AX.evs_congr hopS] at h
      exact hcall hgr hbad h
    · rename_i x args gr
      simp only [hop] at h ⊢
      simp only [AOp.slots, List.mem_append] at hopS
      rw [AX.ev_congr (x := x) fun t ht => hopS t (.inl ht), AX.evs_congr fun t ht => hopS t (.inr ht)] at h
      split at h
      · exact hcall hgr hbad h
      · exact h
    · rename_i e sz bytes ze v x
      simp only [hop] at h ⊢
      have hkd : kindO k.op = .P := hgr.resolve_right (by simp [AOp.grows])
      obtain ⟨rfl, f⟩ := coreS_P hkd ck
      simp only [AOp.slots, List.mem_append] at hopS
      rw [AX.ev_congr (x := v) fun t ht => hopS t (.inl ht), AX.ev_congr (x := x) fun t ht => hopS t (.inr ht)] at h
      exact apnW_mono h fun _ _ q => fin (f _) q
    · rename_i e sz bytes ze v x
      simp only [hop] at h ⊢
      have hkd : kindO k.op = .P := hgr.resolve_right (by simp [AOp.grows])
      obtain ⟨rfl, f⟩ := coreS_P hkd ck
      simp only [AOp.slots, List.mem_append] at hopS
      rw [AX.ev_congr (x := v) fun t ht => hopS t (.inl ht), AX.ev_congr (x := x) fun t ht => hopS t (.inr ht)] at h
      exact apzW_mono h fun _ _ q => fin (f _) q
  unfold wpStep at h2 ⊢
  cases hg : i.gd with
  | none => simp only [hg] at h2 ⊢; exact hop1 h2
  | some p =>
    obtain ⟨t, b⟩ := p
    simp only [hg] at h2 ⊢
    have ht : putS st.s k.dst vk t = st.s t := hslots t (by simp [AOper.slots, hg])
    rw [ht] at h2
    cases hst : st.s t <;> simp only [hst] at h2 ⊢
    split at h2
    · rename_i q; simp only [q, if_true]; exact hop1 h2
    · rename_i q; simp only [q, if_false]
      exact fin (hb := st.h) ck h2
/-! ### To the front -/
theorem bubble {P : Program} {i : AOper} {post : List AOper} {n0 : Nat} {K : St → Prop} : ∀ (pre : List AOper) (st : St), (∀ k ∈ pre, kindO k.op ≠ .C ∧ apart k i = true ∧ commK k i = true ∧ n0 + k.ix < st.n) → WF st →
    wpOps P (pre ++ i :: post) n0 K st → wpStep P i n0 (wpOps P (pre ++ post) n0 K) st
  | [], st, _, _, h => by simpa using (wpOps_cons_ i post n0 K st).1 h
  | k :: pre, st, hp, hw, h => by
    obtain ⟨p1, p2, p3, p4⟩ := hp k (by simp)
    rw [List.cons_append, wpOps_cons_, wpStep_simple p1] at h
    obtain ⟨s1, h1, h2⟩ := h
    obtain ⟨hw1, hn1⟩ := hw.step p4 h1
    have ih := bubble pre s1 (fun k' hk' => by rw [hn1]; exact hp k' (by simp [hk'])) hw1 h2
    have e : ∀ s, wpOps P (k :: (pre ++ post)) n0 K s ↔ ∃ s2, stepS k n0 s = some s2 ∧ wpOps P (pre ++ post) n0 K s2 := fun s => by rw [wpOps_cons_, wpStep_simple p1]
    have goal : wpStep P i n0 (fun s => ∃ s2, stepS k n0 s = some s2 ∧ wpOps P (pre ++ post) n0 K s2) st := by
      by_cases hi : kindO i.op = .C
      · exact swap_call hi p1 p2 p3 hw p4 h1 ih
      · rw [wpStep_simple hi] at ih ⊢
        obtain ⟨s2, h3, h4⟩ := ih
        obtain ⟨s1', q1, q2⟩ := swap_simple hi p2 p3 h1 h3
        exact ⟨s1', q1, s2, q2, h4⟩
    exact wpStep_mono goal fun s q => (e s).2 q
end Go.E3
