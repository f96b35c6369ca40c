/- A region, in whatever order. -/
import Derived.Test.YtdbakmdcepkpmaaLt
set_option linter.unusedSimpArgs false
set_option linter.unusedVariables false
namespace Go.E3
theorem Ext.trans_ {g g1 g2 : G} {w w1 w2 : World} {h h1 h2 : Hp} {n n1 n2 m : Nat} (a : Ext g w h n g1 w1 h1 n1) (b : Ext g1 w1 h1 m g2 w2 h2 n2) (hm : n ≤ m) : Ext g w h n g2 w2 h2 n2 := by
  have a' : Ext g w h n g1 w1 h1 m := { a with le := hm }
  exact a'.trans b
/-! ### Who is ahead of whom -/
def maskOf (T : List Nat) : List Edge → Nat
  | [] => 0
  | e :: r => if Region.binds .any e then ((1 <<< e.on) ||| T.getD e.on 0) ||| maskOf T r else maskOf T r
def mkT : List Oper → List Nat → List Nat
  | [], T => T
  | o :: r, T => mkT r (T ++ [maskOf T o.after.toList])
def tOkAt (ops : Array Oper) (T : List Nat) (i : Nat) : Bool :=
  match ops[i]? with
  | some o => (T.getD i 0 == maskOf T o.after.toList) && o.after.toList.all fun e => !Region.binds .any e || decide (e.on < i)
  | none => false
def tOk (ops : Array Oper) (T : List Nat) : Bool := (List.range ops.size).all (tOkAt ops T)
theorem maskOf_bit {T : List Nat} {k : Nat} : ∀ {es : List Edge}, (maskOf T es).testBit k = true → ∃ e ∈ es, Region.binds .any e = true ∧ (k = e.on ∨ (T.getD e.on 0).testBit k = true)
  | [], h => by simp [maskOf] at h
  | e :: r, h => by
    simp only [maskOf] at h
    split at h
    · rename_i hb
      rw [Nat.testBit_or, Nat.testBit_or, Bool.or_eq_true, Bool.or_eq_true, Nat.one_shiftLeft, Nat.testBit_two_pow] at h
      rcases h with (h | h) | h
      · exact ⟨e, by simp, hb, .inl (by simpa using (of_decide_eq_true h).symm)⟩
      · exact ⟨e, by simp, hb, .inr h⟩
      · obtain ⟨e', h1, h2⟩ := maskOf_bit h
        exact ⟨e', by simp [h1], h2⟩
    · obtain ⟨e', h1, h2⟩ := maskOf_bit h
      exact ⟨e', by simp [h1], h2⟩
theorem tOk_spec {ops : Array Oper} {T : List Nat} (h : tOk ops T = true) {i : Nat} {o : Oper} (hi : ops[i]? = some o) :
    (∀ e ∈ o.after, Region.binds .any e = true → e.on < i) ∧ ∀ k, (T.getD i 0).testBit k = true → ∃ e ∈ o.after, Region.binds .any e = true ∧ (k = e.on ∨ (T.getD e.on 0).testBit k = true) := by
  have hlt : i < ops.size := (Array.getElem?_eq_some_iff.1 hi).1
  have := List.all_eq_true.1 h i (List.mem_range.2 hlt)
  unfold tOkAt at this
  rw [hi] at this
  simp only [Bool.and_eq_true, beq_iff_eq, List.all_eq_true, Bool.or_eq_true, Bool.not_eq_true', decide_eq_true_eq] at this
  obtain ⟨h1, h2⟩ := this
  refine ⟨fun e he hb => (h2 e (by simpa using he)).resolve_left (by simp [hb]), fun k hk => ?_⟩
  rw [h1] at hk
  obtain ⟨e, q1, q2⟩ := maskOf_bit hk
  exact ⟨e, by simpa using q1, q2⟩
/-- What is listed has all ahead of it listed. -/
def Closed (ops : Array Oper) (listed : Array Bool) : Prop := ∀ i o, ops[i]? = some o → listed.getD i false = true → ∀ e ∈ o.after, Region.binds .any e = true → listed.getD e.on false = true
theorem closed_T {ops : Array Oper} {T : List Nat} {listed : Array Bool} (h : tOk ops T = true) (hc : Closed ops listed) : ∀ (i : Nat) (o : Oper), ops[i]? = some o → (∀ e ∈ o.after, Region.binds .any e = true → listed.getD e.on false = true) →
    ∀ k, (T.getD i 0).testBit k = true → listed.getD k false = true := by
  intro i
  induction i using Nat.strongRecOn with
  | ind i ih =>
    intro o hi hr k hk
    obtain ⟨h1, h2⟩ := tOk_spec h hi
    obtain ⟨e, he, hb, hcase⟩ := h2 k hk
    have hle := hr e he hb
    rcases hcase with rfl | hk'
    · exact hle
    · have hlt := h1 e he hb
      have hsz : i < ops.size := (Array.getElem?_eq_some_iff.1 hi).1
      have he' : ops[e.on]? = some ops[e.on] := Array.getElem?_eq_getElem (by omega)
      exact ih e.on hlt _ he' (fun e2 he2 hb2 => hc _ _ he' hle e2 he2 hb2) k hk'
/-! ### Compiling -/
def isMk : Op → Bool
  | .box .. => true
  | .alloc _ => true
  | .buildSlice .. => true
  | _ => false
def isB : Op → Bool
  | .call ⟨.builtin .append, _, _⟩ => true
  | .call ⟨.builtin .copy, _, _⟩ => true
  | .call ⟨.builtin .clear, _, _⟩ => true
  | .store .. => true
  | _ => false
def free2 (T : List Nat) (i k : Nat) : Bool := k != i && !(T.getD i 0).testBit k && !(T.getD k 0).testBit i
def isLd : Op → Bool
  | .load .. => true
  | _ => false
def isCl : Op → Bool
  | .call ⟨.value _, _, _⟩ => true
  | _ => false
def avOf (ops : Array Oper) (T : List Nat) (i : Nat) (o : Op) : List Nat :=
  if isLd o || isB o || isCl o then (List.range ops.size).filter fun k => free2 T i k && (match ops[k]? with
    | some o' => isMk o'.op || (isLd o && isB o'.op)
    | none => false) else []
/-- The slot from which an address comes, within a region. -/
def rootOf (ops : Array Oper) : Nat → Nat → Nat
  | 0, t => t
  | f + 1, t => match ops.toList.find? (·.dst == some t) with
    | some o => match o.op with
      | .fieldAddr _ (.tmp r) _ => rootOf ops f r
      | .indexAddr _ (.tmp r) _ => rootOf ops f r
      | .nilCheck (.tmp r) => rootOf ops f r
      | .move (.tmp r) => rootOf ops f r
      | _ => t
    | none => t
def avxOf (ops : Array Oper) (T : List Nat) (i : Nat) (o : Op) : List Nat :=
  if isB o then (List.range ops.size).filterMap fun k => if free2 T i k then (match ops[k]? with
    | some o' => match o'.op with
      | .load _ (.tmp t) => let r := rootOf ops ops.size t
        if ops.toList.any (·.dst == some r) then none else some r
      | _ => none
    | none => none) else none else []
def rtOf (ops : Array Oper) (T : List Nat) (i : Nat) (o : Op) : List Nat :=
  match o with
  | .load _ (.tmp t) => if (List.range ops.size).any fun k => free2 T i k && (match ops[k]? with
      | some o' => isB o'.op
      | none => false) then (let r := rootOf ops ops.size t
        if ops.toList.any (·.dst == some r) then [] else [r]) else []
  | _ => []
def tgOf (ops : Array Oper) (o : Op) : List Nat :=
  match o with
  | .store _ (.tmp t) _ => (List.range ops.size).filter fun k => match ops[k]? with
    | some o' => isMk o'.op && o'.dst == some t
    | none => false
  | _ => []
def compAt (P : Program) (N : Nat) (gs : Nat → Bool) (ops : Array Oper) (T : List Nat) (dr : Bool) (i : Nat) : Option AOper :=
  match ops[i]? with
  | none => none
  | some o => match compOp P (gs i) o.op, compGd ops o.guard with
    | some op, some gd => if dstOk N o.dst then some ⟨o.dst, gd, op, i, if dr then avOf ops T i o.op else [], if dr then avxOf ops T i o.op else [], if dr then rtOf ops T i o.op else [], if dr then tgOf ops o.op else []⟩ else none
    | _, _ => none
def rankO : Op → Nat
  | .call ⟨.value _, _, _⟩ => 2
  | .call ⟨.builtin .append, _, _⟩ => 1
  | .call ⟨.builtin .copy, _, _⟩ => 1
  | .call ⟨.builtin .clear, _, _⟩ => 1
  | .store .. => 1
  | _ => 0
def canon (ops : Array Oper) (T : List Nat) : Nat → Nat → List Nat
  | 0, _ => []
  | f + 1, done =>
    let rdy := (List.range ops.size).filter fun i => !done.testBit i && ((T.getD i 0) &&& done == T.getD i 0)
    let at_ (r : Nat) := rdy.find? fun i => match ops[i]? with
      | some o => rankO o.op == r
      | none => false
    match at_ 0 with
    | some i => i :: canon ops T f (done ||| (1 <<< i))
    | none => match at_ 1 with
      | some i => i :: canon ops T f (done ||| (1 <<< i))
      | none => match at_ 2 with
        | some i => i :: canon ops T f (done ||| (1 <<< i))
        | none => []
def okPair (T : List Nat) (k i : AOper) : Bool := (k.ix != i.ix) && ((T.getD i.ix 0).testBit k.ix || (kindO k.op != .C && apart k i && commK k i))
def pairwiseB {α : Type} (r : α → α → Bool) : List α → Bool
  | [] => true
  | x :: l => l.all (r x) && pairwiseB r l
theorem pairwiseB_spec {α : Type} {r : α → α → Bool} : ∀ {l : List α}, pairwiseB r l = true → l.Pairwise (fun x y => r x y = true)
  | [], _ => .nil
  | x :: l, h => by
    simp only [pairwiseB, Bool.and_eq_true, List.all_eq_true] at h
    exact .cons h.1 (pairwiseB_spec h.2)
def compRgn (P : Program) (N : Nat) (gs : Nat → Bool) (ops : Array Oper) (draw : Bool) : Option ACode :=
  if draw then
    let T := mkT ops.toList []
    let l := (canon ops T ops.size 0).filterMap (compAt P N gs ops T true)
    if tOk ops T && (l.length == ops.size) && (List.range ops.size).all (fun i => l.any (·.ix == i)) && pairwiseB (okPair T) l then some (.rgn ops.size l) else none
  else
    let l := (List.range ops.size).filterMap (compAt P N gs ops [] false)
    if l.length == ops.size then some (.rgn ops.size l) else none
section
variable {P : Program} {N : Nat} {ops : Array Oper}
theorem compAt_spec {gs : Nat → Bool} {T : List Nat} {dr : Bool} {i : Nat} {ao : AOper} (h : compAt P N gs ops T dr i = some ao) : ao.ix = i ∧ ∃ o, ops[i]? = some o ∧ Ok1 P N ops o ao := by
  unfold compAt at h
  split at h
  · cases h
  · rename_i o ho
    split at h
    · rename_i op gd h1 h2
      split at h
      · rename_i hd
        injection h with h; subst h
        exact ⟨rfl, o, ho, ⟨⟨_, h1⟩, h2, rfl, hd⟩⟩
      · cases h
    · cases h
structure Rem (P : Program) (N : Nat) (ops : Array Oper) (T : List Nat) (rem : List AOper) (listed : Array Bool) : Prop where
  ok : ∀ ao ∈ rem, ∃ o, ops[ao.ix]? = some o ∧ Ok1 P N ops o ao
  out : ∀ ao ∈ rem, listed.getD ao.ix false = false
  all : ∀ i < ops.size, listed.getD i false = false → ∃ ao ∈ rem, ao.ix = i
  pw : rem.Pairwise (fun k i => okPair T k i = true)
  size : listed.size = ops.size
theorem getD_tf {listed : Array Bool} {i : Nat} (h : listed.getD i true = false) : listed.getD i false = false ∧ i < listed.size := by
  by_cases hi : i < listed.size
  · refine ⟨?_, hi⟩
    simp [hi] at h ⊢; exact h
  · simp [Array.getElem?_eq_none (by omega : listed.size ≤ i)] at h
theorem least_unlisted (listed : Array Bool) : ∀ m, (∀ j < m, listed.getD j false = true) ∨ ∃ i < m, listed.getD i false = false ∧ ∀ j < i, listed.getD j false = true
  | 0 => .inl (fun j hj => by omega)
  | m + 1 => by
    rcases least_unlisted listed m with h | ⟨i, h1, h2⟩
    · by_cases hm : listed.getD m false = true
      · refine .inl fun j hj => ?_
        rcases Nat.lt_succ_iff_lt_or_eq.1 hj with q | rfl
        · exact h j q
        · exact hm
      · exact .inr ⟨m, by omega, by simpa using hm, h⟩
    · exact .inr ⟨i, by omega, h2⟩
theorem any_sound {T : List Nat} (hT : tOk ops T = true) {n0 : Nat} {K : St → Prop} {Q : Exit → Act → World → Prop} : ∀ (fuel : Nat) (rem : List AOper) (listed : Array Bool) (st : St) (a : Act) (w : World) (g : G),
    rem.length = fuel → Rem P N ops T rem listed → Closed ops listed → RelS N g w st a → wpOps P rem n0 K st → n0 + ops.size ≤ st.n → (∀ id, g.A id → id < n0 ∨ (∃ i, listed.getD i false = true ∧ id = n0 + i) ∨ n0 + ops.size ≤ id) →
    (∀ g' st' a' w', K st' → RelS N g' w' st' a' → Ext g w st.h n0 g' w' st'.h st'.n → Q .normal a' w') → wpAny P .any ops Q fuel listed a w
  | 0, rem, listed, st, a, w, g, hl, hrem, hcl, hs, hw, hn, hid, hQ => by
    have hnil : rem = [] := List.length_eq_zero_iff.1 hl
    subst hnil
    refine ⟨?_, hQ g st a w hw hs { Ext.refl g w st.h n0 with le := by omega }⟩
    cases hr : Region.ready .any ops listed with
    | nil => rfl
    | cons i is =>
      exfalso
      obtain ⟨q1, o, q2, _⟩ := mem_ready.1 (show i ∈ Region.ready .any ops listed by rw [hr]; simp)
      obtain ⟨ao, hao, _⟩ := hrem.all i (Array.getElem?_eq_some_iff.1 q2).1 (getD_tf q1).1
      cases hao
  | fuel + 1, rem, listed, st, a, w, g, hl, hrem, hcl, hs, hw, hn, hid, hQ => by
    refine ⟨fun hr => ?_, fun i hi => ?_⟩
    · exfalso
      obtain ⟨ao, hao⟩ : ∃ ao, ao ∈ rem := by
        cases rem with
        | nil => simp at hl
        | cons x _ => exact ⟨x, by simp⟩
      obtain ⟨o, ho, _⟩ := hrem.ok ao hao
      have hlt := (Array.getElem?_eq_some_iff.1 ho).1
      rcases least_unlisted listed ops.size with hall | ⟨i, h1, h2, h3⟩
      · have := hall _ hlt; rw [hrem.out ao hao] at this; cases this
      · have : i ∈ Region.ready .any ops listed := by
          rw [mem_ready]
          refine ⟨by rw [← h2]; simp [hrem.size, h1], ops[i], Array.getElem?_eq_getElem h1, fun e he hb => h3 _ ((tOk_spec hT (Array.getElem?_eq_getElem h1)).1 e he hb)⟩
        rw [hr] at this; cases this
    · obtain ⟨q1, o, q2, q3⟩ := mem_ready.1 hi
      obtain ⟨q1, hisz⟩ := getD_tf q1
      have hio := (Array.getElem?_eq_some_iff.1 q2).1
      obtain ⟨ao, hao, hix⟩ := hrem.all i hio q1
      subst hix
      obtain ⟨pre, post, hsplit⟩ := List.append_of_mem hao
      obtain ⟨o', ho', hok⟩ := hrem.ok ao hao
      rw [q2] at ho'; injection ho' with ho'; subst ho'
      have hpw := hrem.pw
      rw [hsplit] at hpw
      have hpw2 := (List.pairwise_append.1 hpw)
      have hpre : ∀ k ∈ pre, okPair T k ao = true := fun k hk => hpw2.2.2 k hk ao (by simp)
      have hcomm : ∀ k ∈ pre, kindO k.op ≠ .C ∧ apart k ao = true ∧ commK k ao = true ∧ n0 + k.ix < st.n := by
        intro k hk
        have := hpre k hk
        unfold okPair at this
        simp only [Bool.and_eq_true, Bool.or_eq_true, bne_iff_ne, ne_eq] at this
        have hkr : k ∈ rem := by rw [hsplit]; simp [hk]
        rcases this.2 with hb | ⟨⟨r1, r2⟩, r3⟩
        · exfalso
          have := closed_T hT hcl ao.ix o q2 q3 k.ix hb
          rw [hrem.out k hkr] at this; cases this
        · refine ⟨by simpa using r1, r2, r3, ?_⟩
          obtain ⟨ok, hok1, _⟩ := hrem.ok k hkr
          have := (Array.getElem?_eq_some_iff.1 hok1).1
          omega
      rw [hsplit] at hw
      have hstep := bubble pre st hcomm hs.rel.wf hw
      have hfresh : ¬ g.A (n0 + ao.ix) := by
        intro hA
        rcases hid _ hA with h | ⟨j, hj, e⟩ | h
        · omega
        · have : j = ao.ix := by omega
          subst this
          rw [q1] at hj; cases hj
        · omega
      refine wpStep_sound q2 hok hs hfresh (by omega) hstep ?_
      rintro a' w' ⟨g', st', k1, k2, k3, k4, k5⟩
      have hne : ∀ k, (k ∈ pre ∨ k ∈ post) → k.ix ≠ ao.ix := by
        intro k hk
        rcases hk with hk | hk
        · have := hpre k hk
          unfold okPair at this
          simp only [Bool.and_eq_true, bne_iff_ne] at this
          exact this.1
        · have := (List.pairwise_cons.1 hpw2.2.1).1 k hk
          unfold okPair at this
          simp only [Bool.and_eq_true, bne_iff_ne] at this
          exact fun e => this.1 e.symm
      have hmem : ∀ k, k ∈ pre ++ post → k ∈ rem ∧ k.ix ≠ ao.ix := by
        intro k hk
        rw [List.mem_append] at hk
        refine ⟨by rw [hsplit]; rcases hk with h | h <;> simp [h], hne k hk⟩
      refine any_sound hT fuel (pre ++ post) (listed.setIfInBounds ao.ix true) st' a' w' g' ?_ ⟨?_, ?_, ?_, ?_, by simp [hrem.size]⟩ ?_ k2 k1 (by omega) ?_ ?_
      · rw [hsplit] at hl; simp at hl ⊢; omega
      · exact fun k hk => hrem.ok k (hmem k hk).1
      · intro k hk
        rw [getD_set_ne false (Ne.symm (hmem k hk).2)]
        exact hrem.out k (hmem k hk).1
      · intro i hi hli
        by_cases hie : i = ao.ix
        · subst hie; rw [Array.getD_eq_getD_getElem?, Array.getElem?_setIfInBounds_self_of_lt hisz] at hli; cases hli
        · rw [getD_set_ne false (Ne.symm hie)] at hli
          obtain ⟨k, hk, hkix⟩ := hrem.all i hi hli
          refine ⟨k, ?_, hkix⟩
          rw [hsplit] at hk
          simp only [List.mem_append, List.mem_cons] at hk ⊢
          rcases hk with h | rfl | h
          · exact .inl h
          · exact absurd hkix.symm hie
          · exact .inr h
      · exact List.pairwise_append.2 ⟨hpw2.1, (List.pairwise_cons.1 hpw2.2.1).2, fun x hx y hy => hpw2.2.2 x hx y (by simp [hy])⟩
      · intro i o2 ho2 hli e he hb
        by_cases hie : i = ao.ix
        · subst hie
          rw [q2] at ho2; injection ho2 with ho2; subst ho2
          exact getD_set_true (q3 e he hb)
        · rw [getD_set_ne false (Ne.symm hie)] at hli
          exact getD_set_true (hcl i o2 ho2 hli e he hb)
      · intro id hA
        rcases k5 id hA with h | h | h
        · rcases hid id h with h | ⟨j, hj, e⟩ | h
          · exact .inl h
          · exact .inr (.inl ⟨j, getD_set_true hj, e⟩)
          · exact .inr (.inr h)
        · exact .inr (.inl ⟨ao.ix, by rw [Array.getD_eq_getD_getElem?, Array.getElem?_setIfInBounds_self_of_lt hisz]; rfl, h⟩)
        · exact .inr (.inr (by omega))
      · intro g2 st2 a2 w2 r1 r2 r3
        exact hQ g2 st2 a2 w2 r1 r2 (k3.trans_ r3 (Nat.le_refl _))
/-! ### In the text's order -/
theorem text_sound {n0 : Nat} {K : St → Prop} {Q : Exit → Act → World → Prop} : ∀ (rem : List AOper) (k : Nat) (st : St) (a : Act) (w : World) (g : G), rem.map (·.ix) = List.range' k rem.length → k + rem.length = ops.size →
    (∀ ao ∈ rem, ∃ o, ops[ao.ix]? = some o ∧ Ok1 P N ops o ao) → RelS N g w st a → wpOps P rem n0 K st → n0 + ops.size ≤ st.n → (∀ id, g.A id → id < n0 + k ∨ n0 + ops.size ≤ id) →
    (∀ g' st' a' w', K st' → RelS N g' w' st' a' → Ext g w st.h n0 g' w' st'.h st'.n → Q .normal a' w') → Go.wpOps P ops Q (List.range' k rem.length) a w
  | [], k, st, a, w, g, hm, hk, hok, hs, hw, hn, hid, hQ => hQ g st a w hw hs { Ext.refl g w st.h n0 with le := by omega }
  | ao :: rem, k, st, a, w, g, hm, hk, hok, hs, hw, hn, hid, hQ => by
    simp only [List.map_cons, List.length_cons, List.range'_succ, List.cons.injEq] at hm hk ⊢
    obtain ⟨hix, hm⟩ := hm
    rw [Go.wpOps_cons]
    obtain ⟨o, ho, hok1⟩ := hok ao (by simp)
    rw [wpOps_cons_] at hw
    rw [hix] at ho
    refine wpStep_sound ho hok1 hs (fun hA => ?_) (by omega) hw ?_
    · rcases hid _ hA with h | h <;> omega
    · rintro a' w' ⟨g', st', k1, k2, k3, k4, k5⟩
      refine text_sound rem (k + 1) st' a' w' g' hm (by omega) (fun x hx => hok x (by simp [hx])) k2 k1 (by omega) (fun id hA => ?_) (fun g2 st2 a2 w2 r1 r2 r3 => hQ g2 st2 a2 w2 r1 r2 (k3.trans_ r3 (Nat.le_refl _)))
      rcases k5 id hA with h | h | h
      · rcases hid id h with h | h <;> omega
      · omega
      · omega
theorem filterMap_ix {f : Nat → Option AOper} (hf : ∀ i ao, f i = some ao → ao.ix = i) : ∀ {is : List Nat}, (is.filterMap f).length = is.length → (is.filterMap f).map (·.ix) = is
  | [], _ => rfl
  | i :: is, h => by
    cases hfi : f i with
    | none =>
      rw [List.filterMap_cons_none hfi] at h
      have := List.length_filterMap_le f is
      simp only [List.length_cons] at h; omega
    | some ao =>
      rw [List.filterMap_cons_some hfi] at h ⊢
      simp only [List.length_cons, Nat.add_right_cancel_iff] at h
      simp only [List.map_cons, hf i ao hfi, filterMap_ix hf h]
/-! ### A region -/
theorem Rel.more {g : G} {w : World} {h : Hp} {n n' : Nat} (hr : Rel g w h n) (hn : n ≤ n') : Rel g w h n' := { hr with lt := fun id hA => Nat.lt_of_lt_of_le (hr.lt id hA) hn }
theorem Ext.drawn {g : G} {w : World} {h : Hp} {n : Nat} (d : Nat) : Ext g w h n g { w with drawn := d } h n :=
  ⟨Nat.le_refl _, fun _ h => .inl h, rfl, rfl, rfl, Nat.le_refl _, fun _ h => ⟨h, rfl⟩, fun _ h => h, fun id ob hob => .inl ⟨id, ob, hob, rfl⟩, fun _ _ _ => rfl, fun b m ⟨q1, q2, q3, q4, q5⟩ => ⟨q1, q2, q3, q4, q5⟩, fun _ h => .inl h⟩
theorem rgn_sound (hm : P.follows .mixedOrders = true) {gs : Nat → Bool} {draw : Bool} {c : ACode} (hc : compRgn P N gs ops draw = some c) {K : Out → St → Prop} {Q : Exit → Act → World → Prop} {g : G} {w : World} {st : St} {a : Act} {id : Nat}
    (hw : wpA P c K st) (hs : RelS N g w st a) (hQ : ∀ g' st' a' w', K .normal st' → RelS N g' w' st' a' → Ext g w st.h st.n g' w' st'.h st'.n → Q .normal a' w') : (Code.region id ops draw).wp P Q a w := by
  unfold compRgn at hc
  split at hc
  · rename_i hd
    subst hd
    simp only at hc
    split at hc
    · rename_i hchk
      injection hc with hc; subst hc
      simp only [Bool.and_eq_true, beq_iff_eq, List.all_eq_true, List.mem_range, List.any_eq_true] at hchk
      obtain ⟨⟨⟨hT, hlen⟩, hall⟩, hpw⟩ := hchk
      simp only [wpA] at hw
      refine wp_region_any hm ?_
      have hr0 : RelS N g { w with drawn := w.drawn + 1 } { st with n := st.n + ops.size } a := ⟨(hs.rel.more (Nat.le_add_right _ _)).heap rfl, fun t => VR.heap (w := w) (w1 := { w with drawn := w.drawn + 1 }) rfl (hs.tmp t), hs.size, hs.defers⟩
      refine any_sound hT ops.size _ _ _ a _ g hlen ⟨?_, ?_, ?_, pairwiseB_spec hpw, by simp⟩ ?_ hr0 hw (Nat.le_refl _) (fun id hA => .inl (hs.rel.lt id hA)) ?_
      · intro ao hao
        obtain ⟨i, _, hi⟩ := List.mem_filterMap.1 hao
        obtain ⟨rfl, o, q1, q2⟩ := compAt_spec hi
        exact ⟨o, q1, q2⟩
      · intro ao _
        by_cases hlt : ao.ix < ops.size <;> simp [hlt]
      · intro i hi _; exact hall i hi
      · intro i o _ hli
        exfalso
        by_cases hlt : i < ops.size <;> simp [hlt] at hli
      · intro g' st' a' w' k1 k2 k3
        exact hQ g' st' a' w' k1 k2 ((Ext.drawn _).trans_ k3 (Nat.le_refl _))
    · cases hc
  · rename_i hd
    simp only at hc
    split at hc
    · rename_i hlen
      injection hc with hc; subst hc
      simp only [beq_iff_eq] at hlen
      simp only [wpA] at hw
      have hd' : draw = false := by simpa using hd
      subst hd'
      refine wp_region ?_
      have hr0 : RelS N g w { st with n := st.n + ops.size } a := ⟨hs.rel.more (Nat.le_add_right _ _), hs.tmp, hs.size, hs.defers⟩
      have hix := filterMap_ix (f := compAt P N gs ops [] false) (fun i ao h => (compAt_spec h).1) (is := List.range ops.size) (by rw [hlen]; simp)
      have := text_sound (P := P) (N := N) (ops := ops) (n0 := st.n) (K := K .normal) (Q := Q) _ 0 _ a w g (by rw [hix, hlen, List.range_eq_range']) (by rw [hlen]; omega) (fun ao hao => ?_) hr0 hw (Nat.le_refl _) (fun id hA => .inl (hs.rel.lt id hA)) (fun g' st' a' w' k1 k2 k3 => hQ g' st' a' w' k1 k2 k3)
      · rw [hlen, ← List.range_eq_range'] at this
        exact this
      · obtain ⟨i, _, hi⟩ := List.mem_filterMap.1 hao
        obtain ⟨rfl, o, q1, q2⟩ := compAt_spec hi
        exact ⟨o, q1, q2⟩
    · cases hc
end
end Go.E3
