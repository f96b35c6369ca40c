/- Operations on memory: their code, and that they are as the model's. -/
import Derived.Test.YtdbakmdcepkpmaaLj
set_option linter.unusedSimpArgs false
set_option linter.unusedVariables false
namespace Go.E3
open Go.RowKit
def compZ (P : Program) (e : TypeId) (len : Nat) : Option (List AV) :=
  if len = 0 then some [] else
  match (P.info? e).bind (·.zero) with
  | some z => ofSs ((Array.range len).map (z.cells[· % z.cells.size]!)).toList
  | none => none
def compH (P : Program) (op : Op) : Option AOp :=
  match op with
  | .load t x => match sizeT P t, aggT P t, compX x with
    | some n, some b, some x => some (.ld x n b)
    | _, _, _ => none
  | .box t x => (compX x).map (.box t)
  | .alloc t => match (P.info? t).bind (·.zero) with
    | some z => (ofV z).map (.new t)
    | none => none
  | .buildSlice t len ps => match P.underlying t with
    | some (.slice e) => match sizeT P e with
      | some n => if len * n > 2 ^ 24 then none else match compZ P e (len * n), compParts (fun j => some (j, n)) ps.toList with
        | some z, some ps => some (.bsl e n len z (ps.map fun p => (p.1, p.2.2)))
        | _, _ => none
      | none => none
    | _ => none
  | .store t x v => match sizeT P t, compX x, compX v with
    | some n, some x, some v => some (.st x n v)
    | _, _, _ => none
  | .call { callee := .builtin b, args, argTypes } => match b, args.toList, argTypes.toList with
    | .append, [s, x], [t, t'] => if t ≠ t' then none else match P.underlying t with
      | some (.slice e) => match P.info? e, compX s, compX x with
        | some i, some s, some x => match i.zero with
          | some z => if z.cells.size = i.size then some (.app e i.size i.bytes s x) else none
          | none => none
        | _, _, _ => none
      | _ => none
    | .copy, [d, s], [t, t'] => match P.underlying t, P.underlying t' with
      | some (.slice e), some (.slice _) => match sizeT P e, compX d, compX s with
        | some n, some d, some s => some (.cpy n d s)
        | _, _, _ => none
      | _, _ => none
    | .clear, [x], [t] => match P.underlying t with
      | some (.slice e) => match P.info? e, compX x with
        | some i, some x => match i.zero with
          | some zv => if i.size = 0 ∨ zv.cells.size ≠ i.size then none else (compZ P e i.size).map fun z => .clr i.size z x
          | none => none
        | _, _ => none
      | _ => none
    | _, _, _ => none
  | _ => none
/-- What an operation on memory must be shown to do. -/
def Did (P : Program) (g : G) (w : World) (h : Hp) (n n0 nw : Nat) (m : Sem Next) (v : AV) (h' : Hp) : Prop :=
  ∃ g' w' u nx, m.run P w = .ok nx w' ∧ (nx = .value u ∨ nx = .skip ∧ u = undef) ∧ VR g' w' v u ∧ Rel g' w' h' n ∧ Ext g w h n0 g' w' h' n ∧ (∀ id, g'.A id → g.A id ∨ id = nw)
section
variable {P : Program} {g : G} {w : World} {s : Nat → AV} {a : Act} {h : Hp} {n n0 nw : Nat}
theorem Did.of_runs {m : Sem Value} {v : AV} (hr : Rel g w h n) (hn : n0 ≤ n) (hq : Runs P g w m v) : Did P g w h n n0 nw (do pure (.value (← m))) v h := by
  obtain ⟨u, h1, h2⟩ := hq
  exact ⟨g, w, u, .value u, by simp [h1], .inl rfl, h2, hr, { Ext.refl g w h n0 with le := hn }, fun id hA => .inl hA⟩
theorem VR.undef (g : G) (w : World) : VR g w .undef undef := VR.tup (g := g) (w := w) [] [] rfl (fun j c u h => by simp at h)
theorem box_did {e : TypeId} {v : AV} {u : Value} (hr : Rel g w h n) (hfresh : ¬ g.A nw) (hlt : nw < n) (hn0 : n0 ≤ nw) (hv : VR g w v u) (hf : v.cells.all AV.flat = true) :
    Did P g w h n n0 nw (do pure (.value (← (do pure (.pointer (some (← newVar e u))) : Sem Value)))) (.ptr nw v.cells.length 0 0) (upd h nw (some (.arr e v.cells.length [v]))) := by
  obtain ⟨us, hc, hrow⟩ := RowR.of_cells hv hf
  have hobj := alloc_obj (g := g) (w := w) hr hfresh hlt hn0 e v.cells.length [v] us.toArray (by simp [hrow.len]) (fun i x hx => by
    cases i with
    | zero =>
      simp at hx; subst hx
      refine ⟨rfl, hrow.flat, fun j c hcj => ?_⟩
      obtain ⟨u', q1, q2⟩ := hrow.get hcj
      exact ⟨u', by simpa using q1, q2⟩
    | succ i => simp at hx)
  obtain ⟨r1, r2, r3, r4, r5, _⟩ := hobj
  refine ⟨_, _, .pointer (some ⟨w.heap.size, 0, none⟩), .value (.pointer (some ⟨w.heap.size, 0, none⟩)), ?_, .inl rfl, ?_, r1, r2, r3⟩
  · simp [newVar, newRow, hc]
  · have := VR.ptr (g := g.add nw w.heap.size 0) (w := w.alloc (.cells us.toArray e)) nw v.cells.length 0 0 w.heap.size 0 r5 r4
    simpa using this
theorem chunk_get (sz : Nat) : ∀ (k : Nat) (cs : List AV) (i : Nat), i < k → (chunk sz k cs)[i]? = some (.agg ((cs.drop (i * sz)).take sz))
  | 0, cs, i, h => by omega
  | k + 1, cs, 0, _ => by simp [chunk]
  | k + 1, cs, i + 1, h => by
    simp only [chunk, List.getElem?_cons_succ]
    rw [chunk_get sz k (cs.drop sz) i (by omega), List.drop_drop]
    congr 4
    rw [Nat.add_mul]; omega
theorem chunk_len (sz : Nat) : ∀ (k : Nat) (cs : List AV), (chunk sz k cs).length = k
  | 0, cs => rfl
  | k + 1, cs => by simp [chunk, chunk_len sz k]
theorem Els.of_row {sz k : Nat} {cs : List AV} {us : List Value} (hrow : RowR g w cs us) (hl : cs.length = k * sz) : Els g w sz (if sz = 1 then cs else chunk sz k cs) us := by
  split
  · rename_i h1; subst h1
    refine ⟨by rw [hrow.len]; omega, fun i x hx => ?_⟩
    have hfl := hrow.flat x (List.mem_of_getElem? hx)
    have hcells : x.cells = [x] := by cases x <;> first | rfl | (simp [AV.flat] at hfl)
    rw [hcells]
    refine ⟨rfl, by simpa using hfl, fun j c hc => ?_⟩
    cases j with
    | zero => simp at hc; subst hc; simpa using hrow.get hx
    | succ j => simp at hc
  · refine ⟨by rw [hrow.len, chunk_len, hl], fun i x hx => ?_⟩
    have hi : i < k := by have := (List.getElem?_eq_some_iff.1 hx).1; rw [chunk_len] at this; exact this
    rw [chunk_get sz k cs i hi] at hx
    injection hx with hx; subst hx
    have hle : (i + 1) * sz ≤ k * sz := Nat.mul_le_mul_right _ hi
    rw [Nat.add_mul] at hle
    refine ⟨by simp [AV.cells]; omega, fun c hc => hrow.flat c (List.mem_of_mem_drop (List.mem_of_mem_take hc)), fun j c hc => ?_⟩
    simp only [AV.cells, List.getElem?_take] at hc
    split at hc
    · rw [List.getElem?_drop] at hc; exact hrow.get hc
    · cases hc
theorem Els.obj {sz : Nat} {els : List AV} {us : List Value} (a : Els g w sz els us) (pre rest : List Value) (f : Nat) (hf : pre.length = f) :
    ∀ i x, els[i]? = some x → x.cells.length = sz ∧ (∀ c ∈ x.cells, c.flat = true) ∧ ∀ (j : Nat) (c : AV), x.cells[j]? = some c → ∃ u, (pre ++ us ++ rest).toArray[f + i * sz + j]? = some u ∧ VR g w c u := by
  intro i x hx
  obtain ⟨q1, q2, q3⟩ := a.el i x hx
  refine ⟨q1, q2, fun j c hc => ?_⟩
  obtain ⟨u, r1, r2⟩ := q3 j c hc
  refine ⟨u, ?_, r2⟩
  have hlt := (List.getElem?_eq_some_iff.1 r1).1
  rw [List.getElem?_toArray, List.append_assoc, List.getElem?_append_right (by omega), List.getElem?_append_left (by omega)]
  rw [← r1]; congr 1; omega
theorem compZ_spec {e k : Nat} {z : List AV} (hz : compZ P e k = some z) : ∃ zz : Array Value, (if k = 0 then pure #[] else do pure (← zeroValue e).cells : Sem (Array Value)).run P w = .ok zz w ∧
    RowR g w z ((Array.range k).map (zz[· % zz.size]!)).toList := by
  unfold compZ at hz
  split at hz
  · rename_i h0
    injection hz with hz; subst hz
    exact ⟨#[], by simp [h0], by subst h0; exact ⟨by simp, by simp, by simp⟩⟩
  · rename_i h0
    split at hz
    · rename_i zv hzv
      cases hi : P.info? e with
      | none => simp [hi] at hzv
      | some i =>
        simp [hi] at hzv
        obtain ⟨q1, q2, q3⟩ := ofSs_spec g w hz
        exact ⟨zv.cells, by simp [h0, zeroValue, typeInfo, hi, hzv], q1, q2, q3⟩
    · cases hz
theorem bsl_did {t e : TypeId} {sz len : Nat} {z : List AV} {ps : List (Nat × Operand)} {ps' : List (Nat × Nat × AX)} {cs : List AV} (hr : Rel g w h n) (hfresh : ¬ g.A nw) (hlt : nw < n) (hn0 : n0 ≤ nw) (ht : P.underlying t = some (.slice e))
    (hsz : sizeT P e = some sz) (hle : ¬ len * sz > 2 ^ 24) (hz : compZ P e (len * sz) = some z) (hps : compParts (fun j => some (j, sz)) ps = some ps') (hs : RelT g w s a)
    (hf : fillA s z (ps'.map fun p => (p.1 * sz, sz, p.2.2)) = some cs) :
    Did P g w h n n0 nw (do pure (.value (← Instr.buildSlice t len (ps.map fun p => (p.1, a.eval p.2)).toArray))) (.sl nw sz 0 len len true) (upd h nw (some (.arr e sz (if sz = 1 then cs else chunk sz len cs)))) := by
  have hps2 : compParts (fun j => some (j * sz, sz)) ps = some (ps'.map fun p => (p.1 * sz, sz, p.2.2)) := by
    clear hf
    induction ps generalizing ps' with
    | nil => simp [compParts] at hps ⊢; subst hps; rfl
    | cons p r ih =>
      obtain ⟨i, x⟩ := p
      simp only [compParts] at hps ⊢
      split at hps
      · rename_i o m y ys q1 q2 q3
        injection q1 with q1; injection q1 with q1 q1'
        injection hps with hps; subst hps
        rw [q2, ih q3]
        simp [q1]
      · cases hps
  obtain ⟨zz, hzrun, hzr⟩ := compZ_spec (P := P) (g := g) (w := w) hz
  obtain ⟨vs, r1, r2⟩ := fill_rel (place := fun j => some (j * sz, sz)) hs (fun i p h => h) hps2 hzr hf
  have hlen : ∀ {ps : List (Nat × Nat × AX)} {z cs : List AV}, fillA s z ps = some cs → cs.length = z.length := by
    intro ps
    induction ps with
    | nil => intro z cs h; simp [fillA] at h; rw [h]
    | cons p r ih =>
      intro z cs h
      obtain ⟨o, m, x⟩ := p
      simp only [fillA] at h
      split at h
      · rename_i q
        rw [ih h]
        simp [splice]; omega
      · cases h
  have hcl : cs.length = len * sz := by rw [hlen hf, ← hzr.len]; simp
  have hel := Els.of_row r2 hcl
  have hell := hel.len
  have hcnt : (if sz = 1 then cs else chunk sz len cs).length = len := by
    split
    · rename_i h1; subst h1; omega
    · exact chunk_len sz len cs
  have hobj := alloc_obj (g := g) (w := w) hr hfresh hlt hn0 e sz (if sz = 1 then cs else chunk sz len cs) vs.toArray (by simp only [List.size_toArray]; omega) (fun i x hx => by
    have := hel.obj [] [] 0 rfl i x hx
    simpa using this)
  obtain ⟨k1, k2, k3, k4, k5, _⟩ := hobj
  refine ⟨_, _, .slice (some ⟨w.heap.size, 0, none⟩) len len, .value (.slice (some ⟨w.heap.size, 0, none⟩) len len), ?_, .inl rfl, ?_, k1, k2, k3⟩
  · simp only [Array.toArray_toList] at r1
    simp only [Instr.buildSlice, Sem.run_bind, run_underlying ht, Result.andThen_ok, run_sizeT w hsz, if_neg hle, Sem.run_pure]
    by_cases h0 : len * sz = 0
    · simp only [h0, if_true, Sem.run_pure, Result.ok.injEq, and_true] at hzrun r1
      subst hzrun
      simp only [h0, if_true, Sem.run_bind, Sem.run_pure, Result.andThen_ok, r1]
      simp [newRow]
    · simp only [h0, if_false, Sem.run_bind, Sem.run_pure] at hzrun
      cases hq : (zeroValue e).run P w with
      | halt x w' => simp [hq] at hzrun
      | ok zv w' =>
        simp only [hq, Result.andThen_ok, Result.ok.injEq] at hzrun
        obtain ⟨rfl, rfl⟩ := hzrun
        simp only [h0, if_false, Sem.run_bind, Sem.run_pure, hq, Result.andThen_ok, r1]
        simp [newRow]
  · have := VR.sl (g := g.add nw w.heap.size 0) (w := w.alloc (.cells vs.toArray e)) nw sz 0 len len true w.heap.size 0 len k5 k4 (Nat.le_refl _) (Nat.le_refl _) (fun _ => rfl)
      ⟨vs.toArray, e, (0, 0), heap_alloc_new w _, by simp; rw [hell, hcnt]; exact Nat.le_refl _⟩
    simpa using this
end
end Go.E3
