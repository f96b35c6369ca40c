/- One operation of a region, calls too: as the model's. -/
import Derived.Test.YtdbakmdcepkpmaaLs
import Derived.Test.YtdbakmdcepkpmaaLpx
set_option linter.unusedSimpArgs false
set_option linter.unusedVariables false
namespace Go.E3
/-! ### Calls of the text -/
def compC (gr : Bool) (op : Op) : Option AOp :=
  match op with
  | .call c => match c.callee, compXs c.args.toList with
    | .value (.func f), some xs => some (.callS f xs gr)
    | .value (.tmp t), some xs => some (.callV (.t t) xs gr)
    | _, _ => none
  | _ => none
/-- Appends that tell the new array whole (where it is asked for), and appends of zeros. -/
def compN (P : Program) (gr : Bool) (op : Op) : Option AOp :=
  match op with
  | .call { callee := .builtin b, args, argTypes } => match b, args.toList, argTypes.toList with
    | .append, [s, x], [t, t'] => match P.underlying t with
      | some (.slice e) => match P.info? e, compX s, compX x with
        | some i, some s, some x => match i.zero, compZ P e i.size with
          | some zv, some z => if i.size = 0 ∨ zv.cells.size ≠ i.size then none else
            if t = t' then (if gr then none else some (.apn e i.size i.bytes (zeA i.size z) s x)) else (match P.underlying t' with
              | some (.int _) => some (.apz e i.size i.bytes (zeA i.size z) s x)
              | _ => none)
          | _, _ => none
        | _, _, _ => none
      | _ => none
    | _, _, _ => none
  | _ => none
def compOp (P : Program) (gr : Bool) (op : Op) : Option AOp :=
  match compN P gr op with
  | some a => some a
  | none => match compS P op with
    | some a => some a
    | none => compC gr op
def compGd (ops : Array Oper) : Option (Nat × Bool) → Option (Option (Nat × Bool))
  | none => some none
  | some (j, b) => match (ops[j]?).bind (·.dst) with
    | some t => some (some (t, b))
    | none => none
def dstOk (N : Nat) : Option Nat → Bool
  | some d => decide (d < N)
  | none => true
structure Ok1 (P : Program) (N : Nat) (ops : Array Oper) (o : Oper) (ao : AOper) : Prop where
  op : ∃ gr, compOp P gr o.op = some ao.op
  gd : compGd ops o.guard = some ao.gd
  dst : ao.dst = o.dst
  ok : dstOk N o.dst = true
structure RelS (N : Nat) (g : G) (w : World) (st : St) (a : Act) : Prop where
  rel : Rel g w st.h st.n
  tmp : RelT g w st.s a
  size : a.tmps.size = N
  defers : a.defers = []
theorem Ext.weaken {g g' : G} {w w' : World} {h h' : Hp} {n n' m : Nat} (e : Ext g w h n g' w' h' n') (hm : m ≤ n) : Ext g w h m g' w' h' n' :=
  { e with le := Nat.le_trans hm e.le, new := fun id hA => (e.new id hA).imp (fun q => q) (Nat.le_trans hm) }
section
variable {P : Program} {g : G} {w : World} {a : Act} {N : Nat}
theorem RelT.put {s : Nat → AV} {g' : G} {w' : World} (hs : ∀ t, VR g' w' (s t) (a.tmps.getD t undef)) (d : Option Nat) {v : AV} {u : Value} (hv : VR g' w' v u) (hd : dstOk a.tmps.size d = true) : RelT g' w' (putS s d v) (a.put d u) := by
  intro t
  cases d with
  | none => exact hs t
  | some d =>
    simp only [dstOk, decide_eq_true_eq] at hd
    simp only [putS, Act.put, upd]
    split
    · rename_i q; subst q
      simp [hd, hv]
    · rename_i q
      have := hs t
      simpa [Array.getElem?_setIfInBounds_ne (Ne.symm q)] using this
theorem RelS.put {st : St} {g' : G} {w' : World} {h' : Hp} {n' n0 : Nat} (hr : RelS N g w st a) (hx : Ext g w st.h n0 g' w' h' n') (hrel : Rel g' w' h' n') {d : Option Nat} {v : AV} {u : Value} (hv : VR g' w' v u) (hd : dstOk N d = true) :
    RelS N g' w' (St.put ⟨st.s, h', n'⟩ d v) (a.put d u) := by
  rw [put_eq]
  refine ⟨hrel, ?_, ?_, ?_⟩
  · exact RelT.put (fun t => hx.vr hr.rel (hr.tmp t)) d hv (by rw [hr.size]; exact hd)
  · cases d <;> simp [Act.put, hr.size]
  · cases d <;> simp [Act.put, hr.defers]
theorem Rel.wf {st : St} (hr : Rel g w st.h st.n) : WF st := ⟨fun id hid => by
  cases hh : st.h id with
  | none => exact absurd hh hid
  | some ob => exact hr.lt id (hr.live id ob hh).1⟩
/-! ### A call on a part of the heap -/
theorem restr_some {F : Nat → Bool} {h : Hp} {id : Nat} {ob : AObj} (hr : restr F h id = some ob) : F id = true ∧ h id = some ob := by
  unfold restr at hr
  split at hr
  · rename_i q; exact ⟨q, hr⟩
  · cases hr
theorem Rel.restr {F : Nat → Bool} {h : Hp} {n : Nat} (hr : Rel g w h n) : Rel g w (restr F h) n where
  live := fun id ob hob => hr.live id ob (restr_some hob).2
  inj := fun id id' ob ob' h1 h2 => hr.inj id id' ob ob' (restr_some h1).2 (restr_some h2).2
  sep := fun id ob hob => hr.sep id ob (restr_some hob).2
  blk := hr.blk
  lt := hr.lt
theorem merged {g' : G} {w' : World} {F : Nat → Bool} {h h' : Hp} {n n' : Nat} (hr : Rel g w h n) (hx : Ext g w (restr F h) n g' w' h' n') (hr' : Rel g' w' h' n') (hkeep : ∀ id, Go.E3.restr F h id ≠ none → h' id = h id) (hnew : ∀ id, h' id ≠ none → Go.E3.restr F h id ≠ none ∨ n ≤ id) :
    Rel g' w' (merge h' h) n' ∧ Ext g w h n g' w' (merge h' h) n' := by
  have hlv : ∀ id ob, merge h' h id = some ob → h' id = some ob ∨ (h' id = none ∧ h id = some ob ∧ F id = false) := by
    intro id ob hob
    unfold merge at hob
    cases hh : h' id with
    | none =>
      rw [hh] at hob
      refine .inr ⟨rfl, hob, ?_⟩
      cases hF : F id with
      | false => rfl
      | true =>
        have : Go.E3.restr F h id ≠ none := by unfold Go.E3.restr; rw [if_pos hF]; simp only at hob; rw [hob]; simp
        have := hkeep id this
        simp only at hob
        rw [hh, hob] at this; cases this
    | some ob' => rw [hh] at hob; exact .inl hob
  have hblk : ∀ id ob, h id = some ob → (g.ι id).1 < w.heap.size := by
    intro id ob hob
    obtain ⟨_, ho⟩ := hr.live id ob hob
    cases ob with
    | arr e sz els => obtain ⟨cur, hb, _⟩ := ho; exact (Array.getElem?_eq_some_iff.1 hb).1
    | mp t es => exact ho.elim
  have hι : ∀ id ob, h id = some ob → g'.A id ∧ g'.ι id = g.ι id := fun id ob hob => hx.A id (hr.live id ob hob).1
  -- a block of what the call hands back is none of those that it was not handed
  have hnewb : ∀ id ob, h' id = some ob → ∀ id2 ob2, h id2 = some ob2 → F id2 = false → (g'.ι id).1 ≠ (g.ι id2).1 := by
    intro id ob hob id2 ob2 h2 hF2 e
    rcases hx.rw_ id ob hob with ⟨id0, ob0, h0, e0⟩ | q
    · obtain ⟨hF0, h0⟩ := restr_some h0
      have := hr.inj _ _ _ _ h0 h2 (e0.symm.trans e)
      subst this; rw [hF0] at hF2; cases hF2
    · have := hblk _ _ h2; omega
  have hfr : ∀ id ob, h id = some ob → F id = false → w'.heap[(g.ι id).1]? = w.heap[(g.ι id).1]? := by
    intro id ob hob hF
    refine hx.frame _ (hblk _ _ hob) fun id2 ob2 h2 e => ?_
    obtain ⟨hF2, h2⟩ := restr_some h2
    have := hr.inj _ _ _ _ h2 hob e
    subst this; rw [hF] at hF2; cases hF2
  have hvr : ∀ {v u}, VR g w v u → VR g' w' v u := fun hv => hx.vr (hr.restr) hv
  refine ⟨⟨?_, ?_, ?_, hr'.blk, hr'.lt⟩, { hx with rw_ := ?_, frame := ?_, imn := ?_ }⟩
  · intro id ob hob
    rcases hlv id ob hob with q | ⟨_, q, hF⟩
    · exact hr'.live id ob q
    · obtain ⟨hA, ho⟩ := hr.live id ob q
      obtain ⟨q1, q2⟩ := hι id ob q
      refine ⟨q1, ?_⟩
      cases ob with
      | mp t es => exact ho.elim
      | arr e sz els =>
        obtain ⟨cur, h1, h2, h3⟩ := ho
        refine ⟨cur, by rw [q2, hfr id _ q hF]; exact h1, by rw [q2]; exact h2, ?_⟩
        intro i x hx'
        obtain ⟨r1, r2, r3⟩ := h3 i x hx'
        refine ⟨r1, r2, fun j c hc => ?_⟩
        obtain ⟨u, s1, s2⟩ := r3 j c hc
        exact ⟨u, by rw [q2]; exact s1, hvr s2⟩
  · intro id id' ob ob' h1 h2 he
    rcases hlv id ob h1 with q | ⟨_, q, hF⟩ <;> rcases hlv id' ob' h2 with q' | ⟨_, q', hF'⟩
    · exact hr'.inj _ _ _ _ q q' he
    · rw [(hι _ _ q').2] at he; exact absurd he (hnewb _ _ q _ _ q' hF')
    · rw [(hι _ _ q).2] at he; exact absurd he.symm (hnewb _ _ q' _ _ q hF)
    · rw [(hι _ _ q).2, (hι _ _ q').2] at he; exact hr.inj _ _ _ _ q q' he
  · intro id ob hob him
    rcases hlv id ob hob with q | ⟨_, q, hF⟩
    · exact hr'.sep _ _ q him
    · rw [(hι _ _ q).2] at him
      rcases hx.imn _ him with h1 | ⟨id0, ob0, h0, e⟩ | h1
      · exact hr.sep _ _ q h1
      · obtain ⟨hF0, h0⟩ := restr_some h0
        have := hr.inj _ _ _ _ h0 q e
        subst this; rw [hF] at hF0; cases hF0
      · have := hblk _ _ q; omega
  · intro id ob hob
    rcases hlv id ob hob with q | ⟨_, q, hF⟩
    · rcases hx.rw_ id ob q with ⟨id0, ob0, h0, e⟩ | h1
      · exact .inl ⟨id0, ob0, (restr_some h0).2, e⟩
      · exact .inr h1
    · exact .inl ⟨id, ob, q, by rw [(hι _ _ q).2]⟩
  · intro b hb hne; exact hx.frame b hb fun id ob h0 => hne id ob (restr_some h0).2
  · intro b hb
    rcases hx.imn b hb with h1 | ⟨id0, ob0, h0, e⟩ | h1
    · exact .inl h1
    · exact .inr (.inl ⟨id0, ob0, (restr_some h0).2, e⟩)
    · exact .inr (.inr h1)
theorem doCall_sound {f : Nat} {vs : List AV} {gr : Bool} {bad : List Nat} {st : St} {K : AV → Hp → Nat → Prop} (hd : doCall P f vs gr bad st K) (hr : Rel g w st.h st.n) {us : List Value} (hv : VRs g w vs us) :
    Ent P f us.toArray w fun u w' => ∃ g' r h' n', K r h' n' ∧ Rel g' w' h' n' ∧ VR g' w' r u ∧ Ext g w st.h st.n g' w' h' n' := by
  unfold doCall at hd
  split at hd
  · obtain ⟨F, _, hd⟩ := hd
    refine (hd g w us hr.restr hv).mono ?_
    rintro u w' ⟨g', r, h', n', ⟨q1, q1', q2⟩, q3, q4, q5⟩
    obtain ⟨m1, m2⟩ := merged hr q5 q3 q1 q1'
    exact ⟨g', r, _, n', q2, m1, q4, m2⟩
  · exact hd g w us hr hv
/-! ### One operation -/
theorem compXs_VRs {s : Nat → AV} {l : List Operand} {xs : List AX} (h : compXs l = some xs) (hr : RelT g w s a) : VRs g w (xs.map (·.ev s)) (l.map a.eval) := by
  obtain ⟨h1, h2⟩ := compXs_spec h hr
  exact ⟨by simp [h1], h2⟩
theorem VRs.append {vs vs' : List AV} {us us' : List Value} (h : VRs g w vs us) (h' : VRs g w vs' us') : VRs g w (vs ++ vs') (us ++ us') := by
  refine ⟨by simp [h.1, h'.1], fun j v u hv hu => ?_⟩
  by_cases hj : j < vs.length
  · rw [List.getElem?_append_left hj] at hv
    rw [List.getElem?_append_left (by rw [h.1]; exact hj)] at hu
    exact h.2 j v u hv hu
  · rw [List.getElem?_append_right (by omega)] at hv
    rw [List.getElem?_append_right (by rw [h.1]; omega), h.1] at hu
    exact h'.2 _ v u hv hu
theorem kindO_compS {op : Op} {ao : AOp} (h : compS P op = some ao) : kindO ao ≠ .C := by
  have hH : ∀ {ao}, compH P op = some ao → kindO ao ≠ .C := by
    intro ao h
    unfold compH at h
    repeat' (split at h)
    all_goals first
      | (cases h; done)
      | (injection h with h; subst h; simp [kindO]; done)
      | (obtain ⟨_, _, rfl⟩ := map_some h; simp [kindO]; done)
  unfold compS at h
  split at h
  · rename_i ao' hp
    injection h with h; subst h
    have := compP_pure hp
    intro hk
    cases ao' <;> simp [kindO, AOp.isPure] at *
  · exact hH h
/-- What is known behind one operation. -/
def After (N : Nat) (n0 nw : Nat) (g : G) (w : World) (st : St) (K : St → Prop) (a' : Act) (w' : World) : Prop :=
  ∃ g' st', K st' ∧ RelS N g' w' st' a' ∧ Ext g w st.h n0 g' w' st'.h st'.n ∧ st.n ≤ st'.n ∧ ∀ id, g'.A id → g.A id ∨ id = nw ∨ st.n ≤ id
theorem wpOp1_sound {o : Oper} {ao : AOper} {gr : Bool} (hop : compOp P gr o.op = some ao.op) (hdst : ao.dst = o.dst) (hok : dstOk N o.dst = true) {st : St} (hs : RelS N g w st a) {n0 : Nat} (hfresh : ¬ g.A (n0 + ao.ix)) (hlt : n0 + ao.ix < st.n) {K : St → Prop}
    (h : wpOp1 P ao n0 K st) {next : Act → World → Prop} {Q : Exit → Act → World → Prop} (hn : ∀ a' w', After N n0 (n0 + ao.ix) g w st K a' w' → next a' w') : o.wp P a w next Q := by
  unfold compOp at hop
  have hdid : ∀ {v : AV} {h' : Hp}, K (St.put { st with h := h' } ao.dst v) → Did P g w st.h st.n n0 (n0 + ao.ix) (execOp a.eval o) v h' → o.wp P a w next Q := by
    intro v h' hK hd
    obtain ⟨g', w', u, nx, r1, r2, r3, r4, r5, r6⟩ := hd
    have hput : After N n0 (n0 + ao.ix) g w st K (a.put o.dst u) w' := by
      refine ⟨g', _, hK, ?_, ?_, ?_, fun id hA => (r6 id hA).imp_right .inl⟩
      · rw [hdst]; exact hs.put r5 r4 r3 hok
      · rw [put_eq]; exact r5
      · rw [put_eq]; exact Nat.le_refl _
    unfold Oper.wp
    rw [r1]
    rcases r2 with rfl | ⟨rfl, rfl⟩
    · exact hn _ _ hput
    · exact hn _ _ hput
  cases hcn : compN P gr o.op with
  | some ao' =>
    rw [hcn] at hop
    injection hop with hop
    unfold wpOp1 at h
    rw [← hop] at h
    obtain ⟨dst, op, ty, pos, after, gd⟩ := o
    simp only at hcn hdst hok hdid ⊢
    unfold compN at hcn
    split at hcn
    · rename_i b args ats
      have hcall : execOp a.eval ⟨dst, .call { callee := .builtin b, args := args, argTypes := ats }, ty, pos, after, gd⟩ = builtin b ats ty (args.map fun | .const _ => true | _ => false) (args.map a.eval) := rfl
      rw [hcall] at hdid
      split at hcn
      · rename_i s x t t' hargs hats
        have ha : args = #[s, x] := by apply Array.ext'; simpa using hargs
        have hb : ats = #[t, t'] := by apply Array.ext'; simpa using hats
        subst ha; subst hb
        split at hcn
        · rename_i e ht
          split at hcn
          · rename_i i s' x' hi hxs hxx
            split at hcn
            · rename_i zv z hzv hz
              split at hcn
              · cases hcn
              · rename_i hno
                simp only [not_or, ne_eq, Decidable.not_not] at hno
                obtain ⟨hz0, hcs⟩ := hno
                split at hcn
                · rename_i htt; subst htt
                  split at hcn
                  · cases hcn
                  · injection hcn with hcn; subst hcn
                    simp only at h
                    obtain ⟨r, h', q1, q2⟩ := apn_did (P := P) (ty := ty) ht hi hzv hcs hz0 hz hs.rel (n0 := n0) (by omega) hfresh hlt (Nat.le_add_right _ _) (compX_spec hxs hs.tmp) (compX_spec hxx hs.tmp) h
                    refine hdid q1 ?_
                    simpa [builtin] using q2
                · split at hcn
                  · rename_i ik ht'
                    injection hcn with hcn; subst hcn
                    simp only at h
                    obtain ⟨r, h', q1, q2⟩ := apz_did (P := P) (ty := ty) ht ht' hi hzv hcs hz0 hz hs.rel (n0 := n0) hfresh hlt (Nat.le_add_right _ _) (compX_spec hxs hs.tmp) (compX_spec hxx hs.tmp) h
                    refine hdid q1 ?_
                    simpa [builtin] using q2
                  · cases hcn
            · cases hcn
          · cases hcn
        · cases hcn
      · cases hcn
    · cases hcn
  | none =>
  rw [hcn] at hop
  simp only at hop
  cases hcs : compS P o.op with
  | some ao' =>
    rw [hcs] at hop
    injection hop with hop; subst hop
    have hk := kindO_compS hcs
    have h' : match evS ao.op (n0 + ao.ix) st with
        | some (v, h) => clearOf ao n0 st.s = true ∧ K (St.put { st with h := h } ao.dst v)
        | none => False := by
      unfold wpOp1 at h
      revert h
      cases hop : ao.op <;> first | exact id | (exfalso; apply hk; rw [hop]; rfl)
    cases he : evS ao.op (n0 + ao.ix) st with
    | none => rw [he] at h'; exact h'.elim
    | some p =>
      obtain ⟨v, hh⟩ := p
      rw [he] at h'
      obtain ⟨_, hK⟩ := h'
      obtain ⟨g', w', u, nx, r1, r2, r3, r4, r5, r6⟩ := compS_sound (n0 := n0) o hcs hs.rel hs.tmp hfresh hlt (Nat.le_add_right _ _) he
      have hput : After N n0 (n0 + ao.ix) g w st K (a.put o.dst u) w' := by
        refine ⟨g', _, hK, ?_, ?_, ?_, fun id hA => (r6 id hA).imp_right .inl⟩
        · rw [hdst]; exact hs.put r5 r4 r3 hok
        · rw [put_eq]; exact r5
        · rw [put_eq]; exact Nat.le_refl _
      unfold Oper.wp
      rw [r1]
      rcases r2 with rfl | ⟨rfl, rfl⟩
      · exact hn _ _ hput
      · exact hn _ _ hput
  | none =>
    rw [hcs] at hop
    simp only [compC] at hop
    -- behind the call
    have hafter : ∀ {f : Nat} {vs : List AV} {gr : Bool} {bad : List Nat} {us : List Value}, doCall P f vs gr bad st (fun r h n => K (St.put { st with h := h, n := n } ao.dst r)) → VRs g w vs us →
        (execOp a.eval o).run P w = (callFunc f us.toArray).run P w → o.wp P a w next Q := by
      intro f vs gr bad us hd hv hrun
      have := doCall_sound hd hs.rel hv
      unfold Ent at this
      unfold Oper.wp
      rw [hrun]
      have fin : ∀ {u : Value} {w' : World}, (∃ g' r h' n', K (St.put { st with h := h', n := n' } ao.dst r) ∧ Rel g' w' h' n' ∧ VR g' w' r u ∧ Ext g w st.h st.n g' w' h' n') → next (a.put o.dst u) w' := by
        rintro u w' ⟨g', r, h', n', q1, q2, q3, q4⟩
        refine hn _ _ ⟨g', _, q1, ?_, ?_, ?_, fun id hA => (q4.new id hA).imp_right .inr⟩
        · rw [hdst]; exact hs.put q4 q2 q3 hok
        · rw [put_eq]; exact q4.weaken (by omega)
        · rw [put_eq]; exact q4.le
      generalize (callFunc f us.toArray).run P w = R at this ⊢
      cases R with
      | halt => exact this.elim
      | ok nx w' =>
        cases nx <;> first | exact this.elim | skip
        · exact fin this
        · exact this.mono fun e w'' ⟨u, he, q⟩ => by subst he; exact fin q
    obtain ⟨dst, op, ty, pos, after, gd⟩ := o
    simp only at hop hdst hok hafter ⊢
    cases op <;> first | (cases hop; done) | skip
    rename_i c
    obtain ⟨callee, args, ats⟩ := c
    simp only at hop
    cases hxs : compXs args.toList with
    | none => rw [hxs] at hop; split at hop <;> first | (cases hop; done) | (rename_i e; cases e; done)
    | some xs =>
      rw [hxs] at hop
      have hvs : VRs g w (xs.map (·.ev st.s)) (args.toList.map a.eval) := compXs_VRs hxs hs.tmp
      have hmap : args.map a.eval = (args.toList.map a.eval).toArray := by cases args; simp
      split at hop
      · rename_i f xs' e
        injection e with e; subst e
        injection hop with hop
        unfold wpOp1 at h
        rw [← hop] at h
        simp only at h
        refine hafter h hvs ?_
        simp [execOp, resolve, Deferred.ofValue, invoke, Act.eval, hmap]
      · rename_i t xs' e
        injection e with e; subst e
        injection hop with hop
        unfold wpOp1 at h
        rw [← hop] at h
        simp only [AX.ev] at h
        split at h
        · rename_i f caps hf
          have ht := hs.tmp t
          rw [hf] at ht
          generalize hu : a.tmps.getD t undef = u at ht
          cases ht with
          | fn _ _ us hl hv =>
            refine hafter h (hvs.append ⟨hl, hv⟩) ?_
            have he : a.eval (.tmp t) = .func (.func f) #[] us.toArray := hu
            simp only [execOp, resolve, he, Deferred.ofValue, invoke]
            simp [hmap]
        · exact h.elim
      · cases hop
theorem wpStep_sound {ops : Array Oper} {i : Nat} {o : Oper} {ao : AOper} (hi : ops[i]? = some o) (hao : Ok1 P N ops o ao) {st : St} (hs : RelS N g w st a) {n0 : Nat} (hfresh : ¬ g.A (n0 + ao.ix)) (hlt : n0 + ao.ix < st.n) {K : St → Prop}
    (h : wpStep P ao n0 K st) {next : Act → World → Prop} {Q : Exit → Act → World → Prop} (hn : ∀ a' w', After N n0 (n0 + ao.ix) g w st K a' w' → next a' w') : wpOp P ops Q i next a w := by
  obtain ⟨⟨gr, hop⟩, hgd, hdst, hok⟩ := hao
  unfold wpOp
  rw [hi]
  simp only
  unfold wpStep at h
  unfold compGd at hgd
  cases hg : o.guard with
  | none =>
    rw [hg] at hgd
    injection hgd with hgd
    rw [← hgd] at h
    simp only at h
    rw [if_pos (by simp [Region.wanted, hg])]
    exact .inl (wpOp1_sound hop hdst hok hs hfresh hlt h hn)
  | some p =>
    obtain ⟨j, b⟩ := p
    rw [hg] at hgd
    simp only at hgd
    cases hj : (ops[j]?).bind (·.dst) with
    | none => rw [hj] at hgd; cases hgd
    | some t =>
      rw [hj] at hgd
      injection hgd with hgd
      rw [← hgd] at h
      simp only at h
      cases hst : st.s t <;> rw [hst] at h <;> simp only at h
      rename_i c
      have ht := hs.tmp t
      rw [hst] at ht
      have ht := ht.inv_bool
      have hy : yielded ops a.tmps j = some c := by
        unfold yielded
        rw [hj]
        simp only [Option.bind_some]
        have : a.tmps[t]? = some (.bool c) := by
          rw [Array.getD_eq_getD_getElem?] at ht
          cases hq : a.tmps[t]? with
          | none => rw [hq] at ht; simp [undef] at ht
          | some z => rw [hq] at ht; simpa using ht
        rw [this]
      by_cases hcb : c = b
      · rw [if_pos hcb] at h
        rw [if_pos (by simp [Region.wanted, hg, hy, hcb])]
        exact .inl (wpOp1_sound hop hdst hok hs hfresh hlt h hn)
      · rw [if_neg hcb] at h
        rw [if_neg (by simp [Region.wanted, hg, hy, hcb])]
        have hx : Ext g w st.h n0 g w st.h st.n := { Ext.refl g w st.h n0 with le := by omega }
        refine hn _ _ ⟨g, _, h, ?_, ?_, ?_, fun id hA => .inl hA⟩
        · rw [hdst]; exact hs.put (v := .undef) hx hs.rel (VR.undef _ _) hok
        · rw [put_eq]; exact hx
        · rw [put_eq]; exact Nat.le_refl _
end
end Go.E3
