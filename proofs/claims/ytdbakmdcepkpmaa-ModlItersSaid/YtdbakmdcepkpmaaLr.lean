/- Neighbours that nothing orders may change places. -/
import Derived.Test.YtdbakmdcepkpmaaLq
set_option linter.unusedSimpArgs false
set_option linter.unusedVariables false
namespace Go.E3
def execS (o : AOper) (n0 : Nat) (s : Nat → AV) (h : Hp) : Option (AV × Hp) :=
  match evS o.op (n0 + o.ix) ⟨s, h, 0⟩ with
  | some (v, h') => if clearOf o n0 s = true then some (v, h') else none
  | none => none
def coreS (o : AOper) (n0 : Nat) (s : Nat → AV) (h : Hp) : Option (AV × Hp) :=
  match o.gd with
  | none => execS o n0 s h
  | some (t, b) => match s t with
    | .bool c => if c = b then execS o n0 s h else some (.undef, h)
    | _ => none
theorem stepS_core (o : AOper) (n0 : Nat) (st : St) : stepS o n0 st = (coreS o n0 st.s st.h).map fun p => St.put { st with h := p.2 } o.dst p.1 := by
  have e : evS o.op (n0 + o.ix) st = evS o.op (n0 + o.ix) ⟨st.s, st.h, 0⟩ := (evS_n (st := st) (n' := 0)).symm
  have hx : (match evS o.op (n0 + o.ix) st with
      | some (v, h) => if clearOf o n0 st.s = true then some (St.put { st with h := h } o.dst v) else none
      | none => none) = (execS o n0 st.s st.h).map fun p => St.put { st with h := p.2 } o.dst p.1 := by
    unfold execS
    rw [e]
    cases evS o.op (n0 + o.ix) ⟨st.s, st.h, 0⟩ with
    | none => rfl
    | some p => obtain ⟨v, h⟩ := p; simp only; split <;> rfl
  unfold stepS coreS
  cases o.gd with
  | none => exact hx
  | some p =>
    obtain ⟨t, b⟩ := p
    simp only
    cases st.s t <;> try rfl
    simp only
    split
    · exact hx
    · rfl
theorem reads_congr {op : AOp} {s s' : Nat → AV} (h : ∀ t ∈ op.slots, s' t = s t) : op.reads s' = op.reads s := by
  cases op <;> first
    | rfl
    | (simp only [AOp.slots] at h; simp only [AOp.reads]; rw [AX.ev_congr h]; done)
    | (simp only [AOp.slots, List.mem_append] at h; simp only [AOp.reads]; rw [AX.ev_congr (x := _) fun t ht => h t (.inl ht)]; done)
    | (simp only [AOp.slots, List.mem_append] at h; simp only [AOp.reads]; rw [AX.ev_congr (x := _) fun t ht => h t (.inl ht), AX.ev_congr fun t ht => h t (.inr ht)]; done)
theorem tgt_congr {op : AOp} {s s' : Nat → AV} (h : ∀ t ∈ op.slots, s' t = s t) : op.tgt s' = op.tgt s := by
  cases op <;> first
    | rfl
    | (simp only [AOp.slots] at h; simp only [AOp.tgt]; rw [AX.ev_congr h]; done)
    | (simp only [AOp.slots, List.mem_append] at h; simp only [AOp.tgt]; rw [AX.ev_congr (x := _) fun t ht => h t (.inl ht)]; done)
theorem clearOf_congr {o : AOper} {n0 : Nat} {s s' : Nat → AV} (h : ∀ t ∈ o.slots, s' t = s t) : clearOf o n0 s' = clearOf o n0 s := by
  have h1 : ∀ t ∈ o.op.slots, s' t = s t := fun t ht => h t (List.mem_append_left _ (List.mem_append_left _ ht))
  have h2 : ∀ t ∈ o.avx, s' t = s t := fun t ht => h t (List.mem_append_right _ (List.mem_append_left _ ht))
  have h3 : ∀ t ∈ o.rt, s' t = s t := fun t ht => h t (List.mem_append_right _ (List.mem_append_right _ ht))
  unfold clearOf
  rw [reads_congr h1, tgt_congr h1]
  have e1 : (o.avx.all fun t => (s' t).ids.all fun id => !(o.op.tgt s).contains id) = (o.avx.all fun t => (s t).ids.all fun id => !(o.op.tgt s).contains id) := by
    rw [Bool.eq_iff_iff]
    simp only [List.all_eq_true]
    constructor
    · intro q t ht
      have := q t ht; rw [h2 t ht] at this; exact this
    · intro q t ht
      have := q t ht; rw [h2 t ht]; exact this
  have e2 : ∀ id, (o.rt.any fun r => (s' r).ids.contains id) = (o.rt.any fun r => (s r).ids.contains id) := by
    intro id
    rw [Bool.eq_iff_iff]
    simp only [List.any_eq_true]
    constructor
    · rintro ⟨t, ht, q⟩
      rw [h3 t ht] at q; exact ⟨t, ht, q⟩
    · rintro ⟨t, ht, q⟩
      rw [← h3 t ht] at q; exact ⟨t, ht, q⟩
  rw [e1]
  simp only [e2]
theorem clearOf_av {o : AOper} {n0 : Nat} {s : Nat → AV} (h : clearOf o n0 s = true) : ∀ m ∈ o.av, ∀ id ∈ o.op.reads s, id ≠ n0 + m := by
  intro m hm id hid e
  unfold clearOf at h
  simp only [Bool.and_eq_true, List.all_eq_true] at h
  have := h.1.1.1 m hm
  simp [← e, hid] at this
theorem clearOf_avx {o : AOper} {n0 : Nat} {s : Nat → AV} (h : clearOf o n0 s = true) : ∀ t ∈ o.avx, ∀ id ∈ (s t).ids, id ∉ o.op.tgt s := by
  intro t ht id hid e
  unfold clearOf at h
  simp only [Bool.and_eq_true, List.all_eq_true] at h
  have := h.1.1.2 t ht id hid
  simp [e] at this
theorem clearOf_rt {o : AOper} {n0 : Nat} {s : Nat → AV} (h : clearOf o n0 s = true) (hr : o.rt.isEmpty = false) : ∀ id ∈ o.op.reads s, ∃ r ∈ o.rt, id ∈ (s r).ids := by
  intro id hid
  unfold clearOf at h
  simp only [Bool.and_eq_true, List.all_eq_true, hr, Bool.false_or] at h
  have := h.1.2 id hid
  simpa using this
theorem clearOf_tg {o : AOper} {n0 : Nat} {s : Nat → AV} (h : clearOf o n0 s = true) (hr : o.tg.isEmpty = false) : ∀ id ∈ o.op.tgt s, ∃ m ∈ o.tg, id = n0 + m := by
  intro id hid
  unfold clearOf at h
  simp only [Bool.and_eq_true, List.all_eq_true, hr, Bool.false_or] at h
  have := h.2 id hid
  simpa using this
theorem coreS_congr {o : AOper} {n0 : Nat} {s s' : Nat → AV} {h : Hp} (hs : ∀ t ∈ o.slots, s' t = s t) : coreS o n0 s' h = coreS o n0 s h := by
  have h1 : ∀ t ∈ o.op.slots, s' t = s t := fun t ht => hs t (List.mem_append_left _ (List.mem_append_left _ ht))
  have hx : execS o n0 s' h = execS o n0 s h := by
    unfold execS
    have := evS_congr (op := o.op) (nw := n0 + o.ix) (st := ⟨s, h, 0⟩) (s' := s') h1
    simp only at this
    rw [this, clearOf_congr hs]
  unfold coreS
  cases hg : o.gd with
  | none => exact hx
  | some p =>
    obtain ⟨t, b⟩ := p
    have ht : s' t = s t := hs t (by simp [AOper.slots, hg])
    simp only [ht, hx]
theorem kindP_pure {op : AOp} (h : kindO op = .P) : op.isPure = true := by cases op <;> first | rfl | (simp [kindO] at h)
theorem coreS_P {o : AOper} {n0 : Nat} {s : Nat → AV} {h : Hp} {v : AV} {h' : Hp} (hk : kindO o.op = .P) (hc : coreS o n0 s h = some (v, h')) : h' = h ∧ ∀ h2, coreS o n0 s h2 = some (v, h2) := by
  have hp := kindP_pure hk
  have hx : ∀ {v h'}, execS o n0 s h = some (v, h') → h' = h ∧ ∀ h2, execS o n0 s h2 = some (v, h2) := by
    intro v h' hc
    unfold execS at hc ⊢
    simp only [evS_pure hp] at hc ⊢
    cases he : evP o.op s with
    | none => simp [he] at hc
    | some z =>
      simp only [he, Option.map_some] at hc ⊢
      split at hc
      · rename_i q
        injection hc with hc; injection hc with h1 h2; subst h1; subst h2
        exact ⟨rfl, fun h2 => if_pos q⟩
      · cases hc
  unfold coreS at hc ⊢
  cases hg : o.gd with
  | none => simp only [hg] at hc ⊢; exact hx hc
  | some p =>
    obtain ⟨t, b⟩ := p
    simp only [hg] at hc ⊢
    cases hst : s t <;> simp only [hst] at hc ⊢ <;> try cases hc
    split at hc
    · rename_i q; simp only [q, if_true]; exact hx hc
    · rename_i q; injection hc with hc; injection hc with h1 h2; subst h1; subst h2; exact ⟨rfl, fun _ => if_neg q⟩
theorem coreS_L {o : AOper} {n0 : Nat} {s : Nat → AV} {h : Hp} {v : AV} {h' : Hp} (hk : kindO o.op = .L) (hc : coreS o n0 s h = some (v, h')) :
    h' = h ∧ ∀ h2 : Hp, (∀ id, id ∈ o.op.reads s → clearOf o n0 s = true → (h id).isSome → h2 id = h id) → coreS o n0 s h2 = some (v, h2) := by
  have hx : ∀ {v h'}, execS o n0 s h = some (v, h') → h' = h ∧ ∀ h2 : Hp, (∀ id, id ∈ o.op.reads s → clearOf o n0 s = true → (h id).isSome → h2 id = h id) → execS o n0 s h2 = some (v, h2) := by
    intro v h' hc
    unfold execS at hc ⊢
    cases hop : o.op with
    | ld x size ag =>
      rw [hop] at hc
      simp only [evS] at hc ⊢
      cases he : ldE h (x.ev s) size ag with
      | none => simp [he] at hc
      | some z =>
        simp only [he, Option.map_some] at hc
        split at hc
        · rename_i q
          injection hc with hc; injection hc with h1 h2; subst h1; subst h2
          refine ⟨rfl, fun h2 hh => ?_⟩
          have : ldE h2 (x.ev s) size ag = some z := by
            rw [← he]
            unfold ldE
            cases hp : x.ev s <;> try rfl
            rename_i id sz i o'
            have hid : id ∈ (AOp.ld x size ag).reads s := by simp [AOp.reads, hp, AV.ids]
            have hsome : (h id).isSome = true := by
              unfold ldE at he; rw [hp] at he; simp only at he
              cases hh : h id with
              | none => simp [hh] at he
              | some _ => rfl
            simp only
            rw [hh id hid q hsome]
          simp only [this, Option.map_some]
          exact if_pos q
        · cases hc
    | _ => rw [hop] at hk; simp [kindO] at hk
  unfold coreS at hc ⊢
  cases hg : o.gd with
  | none => simp only [hg] at hc ⊢; exact hx hc
  | some p =>
    obtain ⟨t, b⟩ := p
    simp only [hg] at hc ⊢
    cases hst : s t <;> simp only [hst] at hc ⊢ <;> try cases hc
    split at hc
    · rename_i q; simp only [q, if_true]; exact hx hc
    · rename_i q; injection hc with hc; injection hc with h1 h2; subst h1; subst h2; exact ⟨rfl, fun _ _ => if_neg q⟩
theorem coreS_M {o : AOper} {n0 : Nat} {s : Nat → AV} {h : Hp} {v : AV} {h' : Hp} (hk : kindO o.op = .M) (hc : coreS o n0 s h = some (v, h')) :
    ∃ F : Hp → Hp, h' = F h ∧ (∀ h2, coreS o n0 s h2 = some (v, F h2)) ∧ (F = id ∨ ∃ ob, F = fun h => upd h (n0 + o.ix) (some ob)) := by
  have hx : ∀ {v h'}, execS o n0 s h = some (v, h') → ∃ F : Hp → Hp, h' = F h ∧ (∀ h2, execS o n0 s h2 = some (v, F h2)) ∧ (F = id ∨ ∃ ob, F = fun h => upd h (n0 + o.ix) (some ob)) := by
    intro v h' hc
    unfold execS at hc ⊢
    cases hop : o.op with
    | box e x =>
      rw [hop] at hc
      simp only [evS] at hc ⊢
      split at hc
      · rename_i v' h0 he
        split at hc
        · rename_i q
          injection hc with hc; injection hc with h1 h2; subst h1; subst h2
          split at he
          · rename_i q2
            injection he with he; injection he with h1 h2; subst h1; subst h2
            refine ⟨_, rfl, fun h2 => ?_, .inr ⟨_, rfl⟩⟩
            simp only [q2, if_true]
            exact if_pos q
          · cases he
        · cases hc
      · cases hc
    | new e z =>
      rw [hop] at hc
      simp only [evS] at hc ⊢
      split at hc
      · rename_i v' h0 he
        split at hc
        · rename_i q
          injection hc with hc; injection hc with h1 h2; subst h1; subst h2
          split at he
          · rename_i q2
            injection he with he; injection he with h1 h2; subst h1; subst h2
            refine ⟨_, rfl, fun h2 => ?_, .inr ⟨_, rfl⟩⟩
            simp only [q2, if_true]
            exact if_pos q
          · cases he
        · cases hc
      · cases hc
    | bsl e sz len z ps =>
      rw [hop] at hc
      simp only [evS] at hc ⊢
      cases hf : fillA s z (ps.map fun p => (p.1 * sz, sz, p.2)) with
      | none => simp [hf] at hc
      | some cs =>
        simp only [hf] at hc ⊢
        split at hc
        · rename_i q
          injection hc with hc; injection hc with h1 h2; subst h1; subst h2
          exact ⟨_, rfl, fun h2 => if_pos q, .inr ⟨_, rfl⟩⟩
        · cases hc
    | _ => rw [hop] at hk; simp [kindO] at hk
  unfold coreS at hc ⊢
  cases hg : o.gd with
  | none => simp only [hg] at hc ⊢; exact hx hc
  | some p =>
    obtain ⟨t, b⟩ := p
    simp only [hg] at hc ⊢
    cases hst : s t <;> simp only [hst] at hc ⊢ <;> try cases hc
    split at hc
    · rename_i q; simp only [q, if_true]; exact hx hc
    · rename_i q; injection hc with hc; injection hc with h1 h2; subst h1; subst h2; exact ⟨id, rfl, fun _ => if_neg q, .inl rfl⟩
/-! ### What writes -/
theorem ids_ne {v : AV} {j : Nat} (h : j ∉ v.ids) : (∀ id sz i o, v = .ptr id sz i o → id ≠ j) ∧ (∀ id sz off len cap ex, v = .sl id sz off len cap ex → id ≠ j) := by
  refine ⟨fun id sz i o e q => h (by subst e; simp [AV.ids, q]), fun id sz off len cap ex e q => h (by subst e; simp [AV.ids, q])⟩
theorem elems_upd {h : Hp} {v : AV} {sz j : Nat} {ob : Option AObj} (hj : j ∉ v.ids) : elems (upd h j ob) v sz = elems h v sz := by
  unfold elems
  cases v <;> try rfl
  rename_i id sz' off len cap ex
  simp only
  rw [upd_ne _ _ ((ids_ne hj).2 _ _ _ _ _ _ rfl)]
theorem upd_comm {α : Type} (f : Nat → α) {i j : Nat} (x y : α) (h : i ≠ j) : upd (upd f i x) j y = upd (upd f j y) i x := by
  funext t
  simp only [upd]
  split
  · rename_i q; subst q; rw [if_neg (fun e => h e.symm)]
  · rfl
theorem evS_B_frame {op : AOp} (hk : kindO op = .B) {nw : Nat} {s : Nat → AV} {h h' : Hp} {v : AV} (he : evS op nw ⟨s, h, 0⟩ = some (v, h')) {j : Nat} (hn : j ≠ nw) (ht : j ∉ op.tgt s) : h' j = h j := by
  cases op <;> simp only [kindO, reduceCtorEq] at hk <;> simp only [evS] at he <;> simp only [AOp.tgt] at ht
  case st x size vv =>
    obtain ⟨hh, hs, e⟩ := map_some he; injection e with e1 e2; subst e2
    unfold stE at hs
    repeat' (split at hs)
    all_goals first
      | (cases hs; done)
      | (injection hs with hs; subst hs; exact upd_ne _ _ (fun e => (ids_ne ht).1 _ _ _ _ (by assumption) e.symm))
  case cpy sz d x =>
    unfold cpyE at he
    repeat' (split at he)
    all_goals first
      | (cases he; done)
      | (injection he with he; injection he with e1 e2; subst e2; first | rfl | exact upd_ne _ _ (fun e => (ids_ne ht).2 _ _ _ _ _ _ (by assumption) e.symm))
  case clr sz z x =>
    unfold clrE at he
    repeat' (split at he)
    all_goals first
      | (cases he; done)
      | (injection he with he; injection he with e1 e2; subst e2; first | rfl | exact upd_ne _ _ (fun e => (ids_ne ht).2 _ _ _ _ _ _ (by assumption) e.symm))
  case app e sz bytes a x =>
    unfold appE at he
    repeat' (split at he)
    all_goals first
      | (cases he; done)
      | (injection he with he; injection he with e1 e2; subst e2; first
          | rfl
          | exact upd_ne _ _ hn
          | exact upd_ne _ _ (fun e => (ids_ne ht).2 _ _ _ _ _ _ (by assumption) e.symm)
          | (rw [upd_ne _ _ hn]; exact upd_ne _ _ (fun e => (ids_ne ht).2 _ _ _ _ _ _ (by assumption) e.symm)))
theorem evS_B_loc {op : AOp} (hk : kindO op = .B) {nw : Nat} {s : Nat → AV} {h : Hp} {j : Nat} {ob : Option AObj} (hn : j ≠ nw) (ht : j ∉ op.reads s) :
    evS op nw ⟨s, upd h j ob, 0⟩ = (evS op nw ⟨s, h, 0⟩).map fun p => (p.1, upd p.2 j ob) := by
  have hn' : nw ≠ j := fun e => hn e.symm
  cases op <;> simp only [kindO, reduceCtorEq] at hk <;> simp only [evS] <;> simp only [AOp.reads, List.mem_append, not_or] at ht
  case st x size vv =>
    unfold stE
    cases hx : x.ev s <;> try rfl
    rename_i id sz i o
    have hid := (ids_ne ht).1 _ _ _ _ hx
    simp only [upd_ne h ob hid]
    repeat' split
    all_goals first
      | rfl
      | (simp only [Option.map_some]; rw [upd_comm _ _ _ hid])
  case cpy sz d x =>
    unfold cpyE
    rw [elems_upd ht.2]
    split
    · rfl
    · cases hx : d.ev s <;> try rfl
      · rename_i id sz' off len cap ex
        have hid := (ids_ne ht.1).2 _ _ _ _ _ _ hx
        simp only [upd_ne h ob hid]
        repeat' split
        all_goals first
          | rfl
          | (simp only [Option.map_some]; rw [upd_comm _ _ _ hid])
      · rename_i nl ex xs; cases xs <;> rfl
  case clr sz z x =>
    unfold clrE
    cases hx : x.ev s <;> try rfl
    · rename_i id sz' off len cap ex
      have hid := (ids_ne ht).2 _ _ _ _ _ _ hx
      simp only [upd_ne h ob hid]
      repeat' split
      all_goals first
        | rfl
        | (simp only [Option.map_some]; rw [upd_comm _ _ _ hid])
    · rename_i nl ex xs; cases xs <;> rfl
  case app e sz bytes a x =>
    unfold appE
    rw [elems_upd ht.2]
    split
    · rfl
    · cases hx : a.ev s <;> try rfl
      · rename_i id sz' off len cap ex
        have hid := (ids_ne ht.1).2 _ _ _ _ _ _ hx
        simp only [upd_ne h ob hid]
        repeat' split
        all_goals first
          | rfl
          | (simp only [Option.map_some]; rw [upd_comm _ _ _ hid]; done)
          | (simp only [Option.map_some]; rw [upd_comm _ _ _ hn']; done)
          | (simp only [Option.map_some]; rw [upd_comm _ _ _ hn', upd_comm _ _ _ hid]; done)
      · simp only
        repeat' split
        all_goals first
          | rfl
          | (simp only [Option.map_some]; rw [upd_comm _ _ _ hn']; done)
theorem coreS_B_frame {o : AOper} {n0 : Nat} {s : Nat → AV} {h : Hp} {v : AV} {h' : Hp} (hk : kindO o.op = .B) (hc : coreS o n0 s h = some (v, h')) :
    h' = h ∨ (clearOf o n0 s = true ∧ ∀ j, j ≠ n0 + o.ix → j ∉ o.op.tgt s → h' j = h j) := by
  have hx : ∀ {v h'}, execS o n0 s h = some (v, h') → clearOf o n0 s = true ∧ ∀ j, j ≠ n0 + o.ix → j ∉ o.op.tgt s → h' j = h j := by
    intro v h' hc
    unfold execS at hc
    split at hc
    · rename_i v2 h2 he
      split at hc
      · rename_i q
        injection hc with hc; injection hc with e1 e2; subst e1; subst e2
        exact ⟨q, fun j h1 h2 => evS_B_frame hk he h1 h2⟩
      · cases hc
    · cases hc
  unfold coreS at hc
  split at hc
  · exact .inr (hx hc)
  · split at hc
    · split at hc
      · exact .inr (hx hc)
      · injection hc with hc; injection hc with e1 e2; subst e2; exact .inl rfl
    · cases hc
theorem coreS_B_loc {o : AOper} {n0 : Nat} {s : Nat → AV} {h : Hp} {v : AV} {h' : Hp} {m : Nat} {ob : Option AObj} (hk : kindO o.op = .B) (hm : m ∈ o.av) (hne : m ≠ o.ix) (hc : coreS o n0 s (upd h (n0 + m) ob) = some (v, h')) :
    ∃ hm, coreS o n0 s h = some (v, hm) ∧ h' = upd hm (n0 + m) ob := by
  have hx : ∀ {v h'}, execS o n0 s (upd h (n0 + m) ob) = some (v, h') → ∃ hm, execS o n0 s h = some (v, hm) ∧ h' = upd hm (n0 + m) ob := by
    intro v h' hc
    unfold execS at hc ⊢
    split at hc
    · rename_i v2 h2 he
      split at hc
      · rename_i q
        injection hc with hc; injection hc with e1 e2; subst e1; subst e2
        rw [evS_B_loc hk (by omega) (fun hr => clearOf_av q m hm _ hr rfl)] at he
        obtain ⟨⟨v3, h3⟩, q1, q2⟩ := map_some he
        injection q2 with q2 q3; simp only at q2 q3; subst q2; subst q3
        refine ⟨h3, ?_, rfl⟩
        rw [q1]; exact if_pos q
      · cases hc
    · cases hc
  unfold coreS at hc ⊢
  cases hg : o.gd with
  | none => simp only [hg] at hc ⊢; exact hx hc
  | some p =>
    obtain ⟨t, b⟩ := p
    simp only [hg] at hc ⊢
    cases hst : s t <;> simp only [hst] at hc ⊢ <;> try cases hc
    split at hc
    · rename_i q; simp only [q, if_true]; exact hx hc
    · rename_i q; injection hc with hc; injection hc with h1 h2; subst h1; subst h2; exact ⟨h, if_neg q, rfl⟩
/-! ### Neighbours -/
def apart (k i : AOper) : Bool :=
  (match k.dst with
   | some d => !i.slots.contains d && i.dst != some d
   | none => true) &&
  (match i.dst with
   | some d => !k.slots.contains d
   | none => true)
def AOp.grows : AOp → Bool
  | .callS _ _ g => g
  | .callV _ _ g => g
  | _ => false
def commK (k i : AOper) : Bool :=
  match kindO k.op, kindO i.op with
  | .P, _ => true
  | .L, .P => true
  | .M, .P => true
  | .B, .P => true
  | .L, .L => true
  | .L, .M => k.av.contains i.ix
  | .M, .L => i.av.contains k.ix
  | .M, .M => k.ix != i.ix
  | .L, .B => k.av.contains i.ix && ((!k.rt.isEmpty && k.rt.all fun r => i.avx.contains r) || (!i.tg.isEmpty && i.tg.all fun m => k.av.contains m))
  | .M, .B => i.av.contains k.ix && k.ix != i.ix
  | .L, .C => i.op.grows
  | .M, .C => i.op.grows && i.av.contains k.ix
  | _, _ => false
def putS (s : Nat → AV) (d : Option Nat) (v : AV) : Nat → AV :=
  match d with
  | some d => upd s d v
  | none => s
theorem put_eq (st : St) (d : Option Nat) (v : AV) : st.put d v = ⟨putS st.s d v, st.h, st.n⟩ := by
  cases d <;> rfl
theorem putS_out {s : Nat → AV} {d : Option Nat} {v : AV} {t : Nat} (h : d ≠ some t) : putS s d v t = s t := by
  cases d with
  | none => rfl
  | some d => exact upd_ne _ _ (fun e => h (by rw [e]))
theorem putS_comm {s : Nat → AV} {d e : Option Nat} {v u : AV} (h : ∀ x, d = some x → e ≠ some x) : putS (putS s d v) e u = putS (putS s e u) d v := by
  cases d with
  | none => rfl
  | some d =>
    cases e with
    | none => rfl
    | some e =>
      have hne : e ≠ d := fun q => h d rfl (by rw [q])
      funext t
      simp only [putS, upd]
      split
      · rename_i h1; subst h1; rw [if_neg hne]
      · rfl
theorem apart_spec {k i : AOper} (h : apart k i = true) : (∀ t ∈ i.slots, k.dst ≠ some t) ∧ (∀ t ∈ k.slots, i.dst ≠ some t) ∧ (∀ x, k.dst = some x → i.dst ≠ some x) := by
  unfold apart at h
  simp only [Bool.and_eq_true] at h
  obtain ⟨h1, h2⟩ := h
  refine ⟨fun t ht e => ?_, fun t ht e => ?_, fun x e e' => ?_⟩
  · rw [e] at h1; simp at h1; exact h1.1 ht
  · rw [e] at h2; simp at h2; exact h2 ht
  · rw [e] at h1; simp at h1; exact h1.2 e'
theorem swap_simple {k i : AOper} (hi : kindO i.op ≠ .C) (hap : apart k i = true) (hc : commK k i = true) {n0 : Nat} {st s1 s2 : St} (h1 : stepS k n0 st = some s1) (h2 : stepS i n0 s1 = some s2) :
    ∃ s1', stepS i n0 st = some s1' ∧ stepS k n0 s1' = some s2 := by
  obtain ⟨a1, a2, a3⟩ := apart_spec hap
  rw [stepS_core] at h1 h2
  obtain ⟨⟨vk, hk⟩, ck, rfl⟩ := map_some h1
  obtain ⟨⟨vi, hi'⟩, ci, rfl⟩ := map_some h2
  simp only [put_eq] at ci ⊢
  have ci' : coreS i n0 st.s hk = some (vi, hi') := by
    rw [← ci]; exact (coreS_congr (fun t ht => putS_out (a1 t ht))).symm
  have fin : ∀ {hm : Hp}, coreS i n0 st.s st.h = some (vi, hm) → coreS k n0 st.s hm = some (vk, hi') → ∃ s1', stepS i n0 st = some s1' ∧ stepS k n0 s1' = some (⟨putS (putS st.s k.dst vk) i.dst vi, hi', st.n⟩ : St) := by
    intro hm q1 q2
    refine ⟨⟨putS st.s i.dst vi, hm, st.n⟩, ?_, ?_⟩
    · rw [stepS_core, q1]; simp [put_eq]
    · rw [stepS_core]
      have : coreS k n0 (putS st.s i.dst vi) hm = some (vk, hi') := by
        rw [← q2]; exact coreS_congr (fun t ht => putS_out (a2 t ht))
      simp only [this, Option.map_some, put_eq]
      rw [putS_comm a3]
  unfold commK at hc
  cases hkk : kindO k.op <;> cases hki : kindO i.op <;> simp only [hkk, hki] at hc <;> first | (cases hc; done) | (exact absurd hki hi) | skip
  -- k pure
  · obtain ⟨rfl, f⟩ := coreS_P hkk ck; exact fin ci' (f _)
  · obtain ⟨rfl, f⟩ := coreS_P hkk ck; exact fin ci' (f _)
  · obtain ⟨rfl, f⟩ := coreS_P hkk ck; exact fin ci' (f _)
  · obtain ⟨rfl, f⟩ := coreS_P hkk ck; exact fin ci' (f _)
  -- k a load
  · obtain ⟨rfl, f⟩ := coreS_L hkk ck
    obtain ⟨rfl, f2⟩ := coreS_P hki ci'
    exact fin ci' ck
  · obtain ⟨rfl, f⟩ := coreS_L hkk ck
    obtain ⟨rfl, f2⟩ := coreS_L hki ci'
    exact fin ci' ck
  · obtain ⟨rfl, f⟩ := coreS_L hkk ck
    obtain ⟨F, rfl, f2, hF⟩ := coreS_M hki ci'
    refine fin ci' (f _ (fun id hid hcl _ => ?_))
    rcases hF with rfl | ⟨ob, rfl⟩
    · rfl
    · exact upd_ne _ _ (clearOf_av hcl i.ix (by simpa using hc) id hid)
  · obtain ⟨rfl, f⟩ := coreS_L hkk ck
    simp only [Bool.and_eq_true] at hc
    refine fin ci' (f _ (fun id hid hcl _ => ?_))
    rcases coreS_B_frame hki ci' with rfl | ⟨q1, q2⟩
    · rfl
    · refine q2 id (clearOf_av hcl i.ix (by simpa using hc.1) id hid) fun htg => ?_
      rw [Bool.or_eq_true] at hc
      rcases hc.2 with q3 | q3
      · simp only [Bool.and_eq_true, Bool.not_eq_true', List.all_eq_true] at q3
        obtain ⟨r, hr, hidr⟩ := clearOf_rt hcl q3.1 id hid
        exact clearOf_avx q1 r (by simpa using q3.2 r hr) id hidr htg
      · simp only [Bool.and_eq_true, Bool.not_eq_true', List.all_eq_true] at q3
        obtain ⟨m, hm, e⟩ := clearOf_tg q1 q3.1 id htg
        exact clearOf_av hcl m (by simpa using q3.2 m hm) id hid e
  -- k makes
  · obtain ⟨F, rfl, f, hF⟩ := coreS_M hkk ck
    obtain ⟨e, f2⟩ := coreS_P hki ci'
    subst e
    exact fin (f2 _) (f _)
  · obtain ⟨F, rfl, f, hF⟩ := coreS_M hkk ck
    obtain ⟨e, f2⟩ := coreS_L hki ci'
    subst e
    refine fin (f2 _ (fun id hid hcl _ => ?_)) (f _)
    rcases hF with rfl | ⟨ob, rfl⟩
    · rfl
    · exact (upd_ne _ _ (clearOf_av hcl k.ix (by simpa using hc) id hid)).symm
  · obtain ⟨F, rfl, f, hF⟩ := coreS_M hkk ck
    obtain ⟨F2, rfl, f2, hF2⟩ := coreS_M hki ci'
    have hcomm : F2 (F st.h) = F (F2 st.h) := by
      rcases hF with rfl | ⟨ob, rfl⟩ <;> rcases hF2 with rfl | ⟨ob2, rfl⟩ <;> try rfl
      have hne : k.ix ≠ i.ix := by simpa using hc
      funext t
      simp only [upd]
      split
      · rename_i q1; split
        · rename_i q2; omega
        · rfl
      · rfl
    have q := f (F2 st.h)
    rw [← hcomm] at q
    exact fin (f2 _) q
  · obtain ⟨F, rfl, f, hF⟩ := coreS_M hkk ck
    simp only [Bool.and_eq_true, bne_iff_ne, ne_eq] at hc
    rcases hF with rfl | ⟨ob, rfl⟩
    · exact fin ci' (f _)
    · obtain ⟨hm, q1, q2⟩ := coreS_B_loc hki (by simpa using hc.1) hc.2 ci'
      subst q2
      exact fin q1 (f _)
  -- k writes, i pure
  · obtain ⟨e, f2⟩ := coreS_P hki ci'
    subst e
    exact fin (f2 _) ck
end Go.E3
