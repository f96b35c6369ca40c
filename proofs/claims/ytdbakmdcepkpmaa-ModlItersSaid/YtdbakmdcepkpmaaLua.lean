/- Local variables without memory: what is turned nowhere but by its own function lies in a temporary. Heaps that say more. -/
import Derived.Test.YtdbakmdcepkpmaaLyd
set_option linter.unusedSimpArgs false
set_option linter.unusedVariables false
namespace Go.E3
/-- What is told of a heap, told of another one too. -/
def Sub (a b : Hp) : Prop := ∀ id ob, a id = some ob → b id = some ob
theorem Sub.none {a b : Hp} (h : Sub a b) {id : Nat} (hb : b id = none) : a id = none := by
  cases ha : a id with
  | none => rfl
  | some ob => rw [h id ob ha] at hb; cases hb
theorem Sub.upd {a b : Hp} (h : Sub a b) (i : Nat) (o : Option AObj) : Sub (upd a i o) (upd b i o) := by
  intro id ob hid
  by_cases e : id = i
  · subst e; rw [upd_same] at hid ⊢; exact hid
  · rw [upd_ne _ _ e] at hid ⊢; exact h id ob hid
theorem ldE_sub {a b : Hp} (hs : Sub a b) {p : AV} {size : Nat} {ag : Bool} {v : AV} (h : ldE a p size ag = some v) : ldE b p size ag = some v := by
  cases p <;> first | exact h | skip
  rename_i id sz i o
  simp only [ldE] at h ⊢
  cases ha : a id with
  | none => rw [ha] at h; cases h
  | some ob => rw [ha] at h; rw [hs id ob ha]; exact h
theorem elems_sub {a b : Hp} (hs : Sub a b) {v : AV} {sz : Nat} {xs : List AV} (h : elems a v sz = some xs) : elems b v sz = some xs := by
  cases v <;> first | exact h | skip
  rename_i id sz' off len cap ex
  simp only [elems] at h ⊢
  cases ha : a id with
  | none => rw [ha] at h; cases h
  | some ob => rw [ha] at h; rw [hs id ob ha]; exact h
def Turn (a b : Hp) (nw : Nat) (a' b' : Hp) : Prop := Sub a' b' ∧ ∀ id, id ≠ nw → a id = none → b' id = b id
theorem turn_self {a b : Hp} (hs : Sub a b) (nw : Nat) : Turn a b nw a b := ⟨hs, fun _ _ _ => rfl⟩
theorem turn_upd {a b : Hp} (hs : Sub a b) (nw i : Nat) (o : Option AObj) (hi : i = nw ∨ a i ≠ none) : Turn a b nw (upd a i o) (upd b i o) :=
  ⟨hs.upd i o, fun id h1 h2 => upd_ne _ _ (by rintro rfl; rcases hi with h | h; exact h1 h; exact h h2)⟩
theorem stE_sub {a b : Hp} (hs : Sub a b) {p v : AV} {size : Nat} {a' : Hp} (h : stE a p v size = some a') (nw : Nat) : ∃ b', stE b p v size = some b' ∧ Turn a b nw a' b' := by
  cases p <;> first | (cases h; done) | skip
  rename_i id sz i o
  simp only [stE] at h ⊢
  cases ha : a id with
  | none => rw [ha] at h; cases h
  | some ob =>
    rw [ha] at h; rw [hs id ob ha]
    cases ob with
    | mp t es => cases h
    | arr e sz' els =>
      simp only at h ⊢
      split at h
      · rename_i q
        rw [if_pos q]
        cases hx : els[i]? with
        | none => rw [hx] at h; cases h
        | some x =>
          rw [hx] at h
          simp only at h ⊢
          split at h
          · rename_i q2
            injection h with h; subst h
            exact ⟨_, by rw [if_pos q2], turn_upd hs nw id _ (.inr (by simp [ha]))⟩
          · cases h
      · cases h
theorem appE_sub {a b : Hp} (hs : Sub a b) {nw : Nat} {e : TypeId} {sz bytes : Nat} {v x r : AV} {a' : Hp} (h : appE a nw e sz bytes v x = some (r, a')) : ∃ b', appE b nw e sz bytes v x = some (r, b') ∧ Turn a b nw a' b' := by
  unfold appE at h ⊢
  cases hx : elems a x sz with
  | none => rw [hx] at h; cases h
  | some ys =>
    rw [hx] at h; rw [elems_sub hs hx]
    simp only at h ⊢
    cases v <;> first | (cases h; done) | skip
    · rename_i id sz' off len cap ex
      simp only at h ⊢
      cases ha : a id with
      | none => rw [ha] at h; cases h
      | some ob =>
        rw [ha] at h; rw [hs id ob ha]
        cases ob with
        | mp t es => cases h
        | arr e' sz2 els =>
          simp only at h ⊢
          split at h
          · rename_i q1
            rw [if_pos q1]
            split at h
            · rename_i q2
              rw [if_pos q2]
              injection h with h; injection h with h1 h2; subst h1; subst h2
              exact ⟨_, rfl, turn_self hs nw⟩
            · rename_i q2
              rw [if_neg q2]
              split at h
              · rename_i q3
                rw [if_pos q3]
                split at h
                · rename_i q4
                  rw [if_pos q4]
                  injection h with h; injection h with h1 h2; subst h1; subst h2
                  exact ⟨_, rfl, turn_upd hs nw id _ (.inr (by simp [ha]))⟩
                · cases h
              · rename_i q3
                rw [if_neg q3]
                split at h
                · rename_i q4
                  rw [if_pos q4]
                  injection h with h; injection h with h1 h2; subst h1; subst h2
                  refine ⟨_, rfl, ?_⟩
                  cases ex with
                  | true => exact turn_upd hs nw nw _ (.inl rfl)
                  | false =>
                    simp only [Bool.false_eq_true, if_false]
                    refine ⟨(hs.upd id none).upd nw _, fun j h1 h2 => ?_⟩
                    rw [upd_ne _ _ h1, upd_ne _ _ (by rintro rfl; rw [ha] at h2; cases h2)]
                · cases h
          · cases h
    · rename_i nl ex xs
      simp only at h ⊢
      split at h
      · rename_i q
        rw [if_pos q]
        injection h with h; injection h with h1 h2; subst h1; subst h2
        exact ⟨_, rfl, turn_self hs nw⟩
      · rename_i q
        rw [if_neg q]
        split at h
        · rename_i q2
          rw [if_pos q2]
          injection h with h; injection h with h1 h2; subst h1; subst h2
          exact ⟨_, rfl, turn_upd hs nw nw _ (.inl rfl)⟩
        · cases h
theorem cpyE_sub {a b : Hp} (hs : Sub a b) {sz : Nat} {d x r : AV} {a' : Hp} (h : cpyE a sz d x = some (r, a')) (nw : Nat) : ∃ b', cpyE b sz d x = some (r, b') ∧ Turn a b nw a' b' := by
  unfold cpyE at h ⊢
  cases hx : elems a x sz with
  | none => rw [hx] at h; cases h
  | some ys =>
    rw [hx] at h; rw [elems_sub hs hx]
    simp only at h ⊢
    split at h
    · injection h with h; injection h with h1 h2; subst h1; subst h2
      exact ⟨_, rfl, turn_self hs nw⟩
    · rename_i id sz' off len cap ex
      cases ha : a id with
      | none => rw [ha] at h; cases h
      | some ob =>
        rw [ha] at h; rw [hs id ob ha]
        cases ob with
        | mp t es => cases h
        | arr e sz2 els =>
          simp only at h ⊢
          split at h
          · rename_i q
            rw [if_pos q]
            injection h with h; injection h with h1 h2; subst h1; subst h2
            exact ⟨_, rfl, turn_upd hs nw id _ (.inr (by simp [ha]))⟩
          · cases h
    · cases h
theorem clrE_sub {a b : Hp} (hs : Sub a b) {sz : Nat} {z : List AV} {x r : AV} {a' : Hp} (h : clrE a sz z x = some (r, a')) (nw : Nat) : ∃ b', clrE b sz z x = some (r, b') ∧ Turn a b nw a' b' := by
  unfold clrE at h ⊢
  split at h
  · injection h with h; injection h with h1 h2; subst h1; subst h2
    exact ⟨_, rfl, turn_self hs nw⟩
  · rename_i id sz' off len cap ex
    cases ha : a id with
    | none => rw [ha] at h; cases h
    | some ob =>
      rw [ha] at h; rw [hs id ob ha]
      cases ob with
      | mp t es => cases h
      | arr e sz2 els =>
        simp only at h ⊢
        split at h
        · rename_i q
          rw [if_pos q]
          injection h with h; injection h with h1 h2; subst h1; subst h2
          exact ⟨_, rfl, turn_upd hs nw id _ (.inr (by simp [ha]))⟩
        · cases h
  · cases h
theorem evS_sub {a b : Hp} (hs : Sub a b) {op : AOp} {nw : Nat} {s : Nat → AV} {n : Nat} {v : AV} {a' : Hp} (h : evS op nw ⟨s, a, n⟩ = some (v, a')) : ∃ b', evS op nw ⟨s, b, n⟩ = some (v, b') ∧ Turn a b nw a' b' := by
  by_cases hp : op.isPure = true
  · rw [evS_pure hp] at h ⊢
    cases he : evP op s with
    | none => simp only [he] at h; cases h
    | some u =>
      simp only [he, Option.map_some] at h
      injection h with h; injection h with h1 h2; subst h1; subst h2
      exact ⟨b, by simp only [he, Option.map_some], turn_self hs nw⟩
  · cases op <;> simp only [AOp.isPure, not_true_eq_false, Bool.false_eq_true, not_false_eq_true] at hp
    case ld x size ag =>
      simp only [evS] at h ⊢
      cases he : ldE a (x.ev s) size ag with
      | none => rw [he] at h; cases h
      | some u =>
        rw [he, Option.map_some] at h
        injection h with h; injection h with h1 h2; subst h1; subst h2
        rw [ldE_sub hs he]
        exact ⟨_, rfl, turn_self hs nw⟩
    case box e x =>
      simp only [evS] at h ⊢
      split at h
      · rename_i q
        rw [if_pos q]
        injection h with h; injection h with h1 h2; subst h1; subst h2
        exact ⟨_, rfl, turn_upd hs nw nw _ (.inl rfl)⟩
      · cases h
    case new e z =>
      simp only [evS] at h ⊢
      split at h
      · rename_i q
        rw [if_pos q]
        injection h with h; injection h with h1 h2; subst h1; subst h2
        exact ⟨_, rfl, turn_upd hs nw nw _ (.inl rfl)⟩
      · cases h
    case bsl e sz len z ps =>
      simp only [evS] at h ⊢
      cases he : fillA s z (ps.map fun p => (p.1 * sz, sz, p.2)) with
      | none => rw [he] at h; cases h
      | some cs =>
        rw [he] at h
        simp only at h ⊢
        injection h with h; injection h with h1 h2; subst h1; subst h2
        exact ⟨_, rfl, turn_upd hs nw nw _ (.inl rfl)⟩
    case app e sz bytes x y => exact appE_sub hs h
    case st x size y =>
      simp only [evS] at h ⊢
      cases he : stE a (x.ev s) (y.ev s) size with
      | none => rw [he] at h; cases h
      | some a2 =>
        rw [he, Option.map_some] at h
        injection h with h; injection h with h1 h2; subst h1; subst h2
        obtain ⟨b', q1, q2⟩ := stE_sub hs he nw
        rw [q1]
        exact ⟨_, rfl, q2⟩
    case cpy sz x y => exact cpyE_sub hs h nw
    case clr sz z x => exact clrE_sub hs h nw
    all_goals (simp only [evS, evP, Option.map_none] at h; cases h)
theorem apnW_sub {a b : Hp} (hs : Sub a b) {nw e sz bytes : Nat} {ze v x : AV} {K K' : AV → Hp → Prop} (h : apnW a nw e sz bytes ze v x K) (hk : ∀ r a' b', Turn a b nw a' b' → (∀ id, b' id ≠ none → b id ≠ none ∨ id = nw) → (∀ id, a' id ≠ none → a id ≠ none ∨ id = nw) → K r a' → K' r b') : apnW b nw e sz bytes ze v x K' := by
  unfold apnW at h ⊢
  split at h
  · rename_i ys xs c0 h1 h2 h3
    rw [elems_sub hs h1, elems_sub hs h2, h3]
    simp only
    split at h
    · rename_i q; rw [if_pos q]; exact hk _ _ _ (turn_self hs nw) (fun _ q => .inl q) (fun _ q => .inl q) h
    · rename_i q; rw [if_neg q]
      exact ⟨h.1, fun c hc => hk _ _ _ (turn_upd hs nw nw _ (.inl rfl)) (fun id hid => upd_dom hid (.inr rfl)) (fun id hid => upd_dom hid (.inr rfl)) (h.2 c hc)⟩
  · exact h.elim
theorem apzW_sub {a b : Hp} (hs : Sub a b) {nw e sz bytes : Nat} {ze v x : AV} {K K' : AV → Hp → Prop} (h : apzW a nw e sz bytes ze v x K) (hk : ∀ r a' b', Turn a b nw a' b' → (∀ id, b' id ≠ none → b id ≠ none ∨ id = nw) → (∀ id, a' id ≠ none → a id ≠ none ∨ id = nw) → K r a' → K' r b') : apzW b nw e sz bytes ze v x K' := by
  unfold apzW at h ⊢
  split at h
  · rename_i id sz' off len cap k m
    cases ha : a id with
    | none => rw [ha] at h; exact h.elim
    | some ob =>
      rw [ha] at h; rw [hs id ob ha]
      cases ob with
      | mp t es => exact h.elim
      | arr e' sz2 els => exact ⟨h.1, hk _ _ _ (turn_upd hs nw nw _ (.inl rfl)) (fun id hid => upd_dom hid (.inr rfl)) (fun id hid => upd_dom hid (.inr rfl)) h.2⟩
  · exact h.elim
/-! ### Calls -/
def over (F : Nat → Bool) (a b : Hp) : Hp := fun id => match a id with
  | some o => some o
  | none => if F id then none else b id
theorem over_some {F : Nat → Bool} {a b : Hp} {id : Nat} {ob : AObj} (h : over F a b id = some ob) : a id = some ob ∨ (a id = none ∧ b id = some ob ∧ F id = false) := by
  unfold over at h
  cases ha : a id with
  | some o => rw [ha] at h; exact .inl h
  | none =>
    rw [ha] at h
    simp only at h
    split at h
    · cases h
    · rename_i q; exact .inr ⟨rfl, h, by simpa using q⟩
theorem overd {g g' : G} {w w' : World} {F : Nat → Bool} {h h' h2 : Hp} {n n' : Nat} (hr : Rel g w h n) (hx : Ext g w (restr F h) n g' w' h' n') (hr' : Rel g' w' h' n') (hlv : ∀ id ob, h2 id = some ob → h' id = some ob ∨ (h' id = none ∧ h id = some ob ∧ F id = false)) :
    Rel g' w' h2 n' ∧ Ext g w h n g' w' h2 n' := by
  have hblk : ∀ id ob, h id = some ob → (g.ι id).1 < w.heap.size := by
    intro id ob hob
    obtain ⟨_, ho⟩ := hr.live id ob hob
    cases ob with
    | arr e sz els => obtain ⟨cur, hb, _⟩ := ho; exact (Array.getElem?_eq_some_iff.1 hb).1
    | mp t es => exact ho.elim
  have hι : ∀ id ob, h id = some ob → g'.A id ∧ g'.ι id = g.ι id := fun id ob hob => hx.A id (hr.live id ob hob).1
  have hnewb : ∀ id ob, h' id = some ob → ∀ id2 ob2, h id2 = some ob2 → F id2 = false → (g'.ι id).1 ≠ (g.ι id2).1 := by
    intro id ob hob id2 ob2 h2 hF2 e
    rcases hx.rw_ id ob hob with ⟨id0, ob0, h0, e0⟩ | q
    · obtain ⟨hF0, h0⟩ := restr_some h0
      have := hr.inj _ _ _ _ h0 h2 (e0.symm.trans e)
      subst this; rw [hF0] at hF2; cases hF2
    · have := hblk _ _ h2; omega
  have hfr : ∀ id ob, h id = some ob → F id = false → w'.heap[(g.ι id).1]? = w.heap[(g.ι id).1]? := by
    intro id ob hob hF
    refine hx.frame _ (hblk _ _ hob) fun id2 ob2 h2 e => ?_
    obtain ⟨hF2, h2⟩ := restr_some h2
    have := hr.inj _ _ _ _ h2 hob e
    subst this; rw [hF] at hF2; cases hF2
  have hvr : ∀ {v u}, VR g w v u → VR g' w' v u := fun hv => hx.vr (hr.restr) hv
  refine ⟨⟨?_, ?_, ?_, hr'.blk, hr'.lt⟩, { hx with rw_ := ?_, frame := ?_, imn := ?_ }⟩
  · intro id ob hob
    rcases hlv id ob hob with q | ⟨_, q, hF⟩
    · exact hr'.live id ob q
    · obtain ⟨hA, ho⟩ := hr.live id ob q
      obtain ⟨q1, q2⟩ := hι id ob q
      refine ⟨q1, ?_⟩
      cases ob with
      | mp t es => exact ho.elim
      | arr e sz els =>
        obtain ⟨cur, h1, h2, h3⟩ := ho
        refine ⟨cur, by rw [q2, hfr id _ q hF]; exact h1, by rw [q2]; exact h2, ?_⟩
        intro i x hx'
        obtain ⟨r1, r2, r3⟩ := h3 i x hx'
        refine ⟨r1, r2, fun j c hc => ?_⟩
        obtain ⟨u, s1, s2⟩ := r3 j c hc
        exact ⟨u, by rw [q2]; exact s1, hvr s2⟩
  · intro id id' ob ob' h1 h2 he
    rcases hlv id ob h1 with q | ⟨_, q, hF⟩ <;> rcases hlv id' ob' h2 with q' | ⟨_, q', hF'⟩
    · exact hr'.inj _ _ _ _ q q' he
    · rw [(hι _ _ q').2] at he; exact absurd he (hnewb _ _ q _ _ q' hF')
    · rw [(hι _ _ q).2] at he; exact absurd he.symm (hnewb _ _ q' _ _ q hF)
    · rw [(hι _ _ q).2, (hι _ _ q').2] at he; exact hr.inj _ _ _ _ q q' he
  · intro id ob hob him
    rcases hlv id ob hob with q | ⟨_, q, hF⟩
    · exact hr'.sep _ _ q him
    · rw [(hι _ _ q).2] at him
      rcases hx.imn _ him with h1 | ⟨id0, ob0, h0, e⟩ | h1
      · exact hr.sep _ _ q h1
      · obtain ⟨hF0, h0⟩ := restr_some h0
        have := hr.inj _ _ _ _ h0 q e
        subst this; rw [hF] at hF0; cases hF0
      · have := hblk _ _ q; omega
  · intro id ob hob
    rcases hlv id ob hob with q | ⟨_, q, hF⟩
    · rcases hx.rw_ id ob q with ⟨id0, ob0, h0, e⟩ | h1
      · exact .inl ⟨id0, ob0, (restr_some h0).2, e⟩
      · exact .inr h1
    · exact .inl ⟨id, ob, q, by rw [(hι _ _ q).2]⟩
  · intro b hb hne; exact hx.frame b hb fun id ob h0 => hne id ob (restr_some h0).2
  · intro b hb
    rcases hx.imn b hb with h1 | ⟨id0, ob0, h0, e⟩ | h1
    · exact .inl h1
    · exact .inr (.inl ⟨id0, ob0, (restr_some h0).2, e⟩)
    · exact .inr (.inr h1)
/-- What a call is not handed it does not turn. -/
theorem CallsA.frame {P : Program} {f : Nat} {vs : List AV} {h a : Hp} {n : Nat} {K : AV → Hp → Nat → Prop} (hs : Sub a h) (hc : CallsA P f vs a n K) :
    CallsA P f vs h n fun r h' n' => ∃ a', K r a' n' ∧ Sub a' h' ∧ (∀ id, h id ≠ none → a id = none → h' id = h id ∧ a' id = none) ∧ (∀ id, h' id ≠ none → id < n') ∧ n ≤ n' := by
  have ha : a = restr (fun id => (a id).isSome) h := by
    funext id
    unfold restr
    cases hid : a id with
    | none => rw [if_neg (by simp [hid])]
    | some ob => rw [if_pos (by simp [hid]), hs id ob hid]
  intro g w us hr hv
  have hr2 : Rel g w a n := by rw [ha]; exact hr.restr
  refine (hc g w us hr2 hv).mono ?_
  rintro u w' ⟨g', r, a', n', q1, q2, q3, q4⟩
  have q4' : Ext g w (restr (fun id => (a id).isSome) h) n g' w' a' n' := by rw [← ha]; exact q4
  obtain ⟨r1, r2⟩ := overd (h2 := over (fun id => (a id).isSome) a' h) hr q4' q2 fun id ob hob => over_some hob
  refine ⟨g', r, over (fun id => (a id).isSome) a' h, n', ⟨a', q1, fun id ob hid => by unfold over; rw [hid], fun id h1 h2 => ?_, ?_, q4.le⟩, r1, q3, r2⟩
  · have hn : a' id = none := by
      cases hai : a' id with
      | none => rfl
      | some ob =>
        exfalso
        cases hh : h id with
        | none => exact h1 hh
        | some ob0 =>
          obtain ⟨hA, ho⟩ := hr.live id ob0 hh
          have hι := (q4.A id hA).2
          have hlt : (g.ι id).1 < w.heap.size := by
            cases ob0 with
            | arr e sz els => obtain ⟨cur, hb, _⟩ := ho; exact (Array.getElem?_eq_some_iff.1 hb).1
            | mp t es => exact ho.elim
          rcases q4.rw_ id ob hai with ⟨id0, ob1, e1, e2⟩ | q
          · have := hr.inj _ _ _ _ hh (hs _ _ e1) (by rw [← e2, hι])
            subst this; rw [h2] at e1; cases e1
          · rw [hι] at q; omega
    refine ⟨?_, hn⟩
    unfold over
    rw [hn]
    simp [h2]
  · intro id hid
    exact (Rel.wf (st := ⟨fun _ => .undef, over (fun id => (a id).isSome) a' h, n'⟩) r1).lt id hid
end Go.E3
