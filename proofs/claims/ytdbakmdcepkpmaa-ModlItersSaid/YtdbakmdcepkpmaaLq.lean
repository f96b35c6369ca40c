/- In which order operations of a region may be carried out: whatever order they are in, the abstract run is the same. -/
import Derived.Test.YtdbakmdcepkpmaaLp
set_option linter.unusedSimpArgs false
set_option linter.unusedVariables false
namespace Go.E3
inductive Kind where
  | P | L | M | B | C
  deriving DecidableEq
def kindO : AOp → Kind
  | .ld .. => .L
  | .box .. | .new .. | .bsl .. => .M
  | .app .. | .st .. | .cpy .. | .clr .. => .B
  | .callS .. | .callV .. | .apn .. | .apz .. => .C
  | _ => .P
def AX.slot : AX → List Nat
  | .t i => [i]
  | .c _ => []
def AX.slots (l : List AX) : List Nat := l.flatMap AX.slot
def AOp.slots : AOp → List Nat
  | .mov x => x.slot
  | .pick c a b => c.slot ++ a.slot ++ b.slot
  | .build _ ps => AX.slots (ps.map (·.2.2))
  | .ext x _ => x.slot
  | .fld x _ _ _ => x.slot
  | .bin _ x y => x.slot ++ y.slot
  | .bib _ x y => x.slot ++ y.slot
  | .eqa _ _ x y => x.slot ++ y.slot
  | .isn _ _ x => x.slot
  | .un _ x => x.slot
  | .cvt _ x => x.slot
  | .mkf _ cs => AX.slots cs
  | .slc _ x lo hi mx => x.slot ++ AX.slots lo.toList ++ AX.slots hi.toList ++ AX.slots mx.toList
  | .fa x _ => x.slot
  | .ia _ x i => x.slot ++ i.slot
  | .iaa _ _ x i => x.slot ++ i.slot
  | .nck x => x.slot
  | .len x => x.slot
  | .lens x => x.slot
  | .cap x => x.slot
  | .max xs => AX.slots xs
  | .min xs => AX.slots xs
  | .ld x _ _ => x.slot
  | .box _ x => x.slot
  | .new _ _ => []
  | .bsl _ _ _ _ ps => AX.slots (ps.map (·.2))
  | .app _ _ _ s x => s.slot ++ x.slot
  | .apn _ _ _ _ s x => s.slot ++ x.slot
  | .apz _ _ _ _ s x => s.slot ++ x.slot
  | .st x _ v => x.slot ++ v.slot
  | .cpy _ d s => d.slot ++ s.slot
  | .clr _ _ x => x.slot
  | .callS _ args _ => AX.slots args
  | .callV x args _ => x.slot ++ AX.slots args
def AOper.slots (o : AOper) : List Nat := o.op.slots ++ (match o.gd with
  | some (t, _) => [t]
  | none => []) ++ (o.avx ++ o.rt)
theorem AX.ev_congr {x : AX} {s s' : Nat → AV} (h : ∀ t ∈ x.slot, s' t = s t) : x.ev s' = x.ev s := by
  cases x with
  | t i => exact h i (by simp [AX.slot])
  | c v => rfl
theorem AX.evs_congr {l : List AX} {s s' : Nat → AV} (h : ∀ t ∈ AX.slots l, s' t = s t) : l.map (·.ev s') = l.map (·.ev s) :=
  List.map_congr_left fun x hx => AX.ev_congr fun t ht => h t (List.mem_flatMap.2 ⟨x, hx, ht⟩)
theorem fillA_congr {s s' : Nat → AV} : ∀ (ps : List (Nat × Nat × AX)) (cs : List AV), (∀ t ∈ AX.slots (ps.map (·.2.2)), s' t = s t) → fillA s' cs ps = fillA s cs ps
  | [], _, _ => rfl
  | (o, n, x) :: r, cs, h => by
    have hx : x.ev s' = x.ev s := AX.ev_congr fun t ht => h t (by simp [AX.slots, ht])
    simp only [fillA, hx]
    split
    · exact fillA_congr r _ fun t ht => h t (by simp only [AX.slots, List.map_cons, List.flatMap_cons, List.mem_append]; exact .inr ht)
    · rfl
theorem opt_congr {s s' : Nat → AV} {o : Option AX} (h : ∀ t ∈ AX.slots o.toList, s' t = s t) : (o.map fun y => intOf? (y.ev s')) = (o.map fun y => intOf? (y.ev s)) := by
  cases o with
  | none => rfl
  | some x => simp only [Option.map_some]; rw [AX.ev_congr fun t ht => h t (by simp [AX.slots, ht])]
theorem evP_congr {op : AOp} {s s' : Nat → AV} (h : ∀ t ∈ op.slots, s' t = s t) : evP op s' = evP op s := by
  cases op <;> simp only [AOp.slots, List.mem_append] at h <;> simp only [evP] <;> first
    | rfl
    | (rw [fillA_congr _ _ h]; done)
    | (rw [AX.evs_congr h]; done)
    | (rw [AX.ev_congr h]; done)
    | (rw [AX.ev_congr (x := _) fun t ht => h t (.inl ht), AX.ev_congr fun t ht => h t (.inr ht)]; done)
    | (rename_i c a b; rw [AX.ev_congr (x := c) fun t ht => h t (.inl (.inl ht)), AX.ev_congr (x := a) fun t ht => h t (.inl (.inr ht)), AX.ev_congr (x := b) fun t ht => h t (.inr ht)]; done)
    | (rename_i sz x lo hi mx; rw [AX.ev_congr (x := x) fun t ht => h t (.inl (.inl (.inl ht))), opt_congr (o := lo) fun t ht => h t (.inl (.inl (.inr ht))), opt_congr (o := hi) fun t ht => h t (.inl (.inr ht)), opt_congr (o := mx) fun t ht => h t (.inr ht)]; done)
theorem evS_congr {op : AOp} {nw : Nat} {st : St} {s' : Nat → AV} (h : ∀ t ∈ op.slots, s' t = st.s t) : evS op nw { st with s := s' } = evS op nw st := by
  by_cases hp : op.isPure = true
  · rw [evS_pure hp, evS_pure hp, evP_congr h]
  · cases op <;> simp only [AOp.isPure, not_true_eq_false, Bool.false_eq_true, not_false_eq_true] at hp <;> simp only [AOp.slots, List.mem_append] at h <;> simp only [evS] <;> first
      | rfl
      | (rw [AX.ev_congr h]; done)
      | (rw [AX.ev_congr (x := _) fun t ht => h t (.inl ht), AX.ev_congr fun t ht => h t (.inr ht)]; done)
      | (rename_i e sz len z ps; rw [fillA_congr _ _ (by simpa [Function.comp_def] using h)]; done)
      | (simp only [evP]; done)
theorem evS_n {op : AOp} {nw : Nat} {st : St} {n' : Nat} : evS op nw { st with n := n' } = evS op nw st := by
  by_cases hp : op.isPure = true
  · rw [evS_pure hp, evS_pure hp]
  · cases op <;> first | rfl | (simp [AOp.isPure] at hp)
def stepS (o : AOper) (n0 : Nat) (st : St) : Option St :=
  match o.gd with
  | none => match evS o.op (n0 + o.ix) st with
    | some (v, h) => if clearOf o n0 st.s = true then some (St.put { st with h := h } o.dst v) else none
    | none => none
  | some (t, b) => match st.s t with
    | .bool c => if c = b then (match evS o.op (n0 + o.ix) st with
      | some (v, h) => if clearOf o n0 st.s = true then some (St.put { st with h := h } o.dst v) else none
      | none => none) else some (st.put o.dst .undef)
    | _ => none
theorem wpOps_simple {P : Program} {o : AOper} (h : kindO o.op ≠ .C) (r : List AOper) (n0 : Nat) (K : St → Prop) (st : St) :
    wpOps P (o :: r) n0 K st ↔ ∃ st', stepS o n0 st = some st' ∧ wpOps P r n0 K st' := by
  have h1 : ∀ st, wpOp1 P o n0 (wpOps P r n0 K) st ↔ ∃ st', (match evS o.op (n0 + o.ix) st with
      | some (v, h) => if clearOf o n0 st.s = true then some (St.put { st with h := h } o.dst v) else none
      | none => none) = some st' ∧ wpOps P r n0 K st' := by
    intro st
    have e : wpOp1 P o n0 (wpOps P r n0 K) st ↔ (match evS o.op (n0 + o.ix) st with
        | some (v, h) => clearOf o n0 st.s = true ∧ wpOps P r n0 K (St.put { st with h := h } o.dst v)
        | none => False) := by
      unfold wpOp1
      cases hop : o.op <;> first | exact Iff.rfl | (exfalso; apply h; rw [hop]; rfl)
    rw [e]
    cases evS o.op (n0 + o.ix) st with
    | none => simp
    | some p =>
      obtain ⟨v, hh⟩ := p
      simp only
      constructor
      · rintro ⟨q1, q2⟩; exact ⟨_, if_pos q1, q2⟩
      · rintro ⟨st', q1, q2⟩
        split at q1
        · rename_i q; injection q1 with q1; subst q1; exact ⟨q, q2⟩
        · cases q1
  unfold stepS
  simp only [wpOps]
  cases o.gd with
  | none => exact h1 st
  | some p =>
    obtain ⟨t, b⟩ := p
    simp only
    cases st.s t <;> simp only [reduceCtorEq, false_and, exists_false]
    rename_i c
    split
    · exact h1 st
    · simp
end Go.E3
