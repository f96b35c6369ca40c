/- Pure operations: literals, the least and the greatest; all of them together. -/
import Derived.Test.YtdbakmdcepkpmaaLf
set_option linter.unusedSimpArgs false
set_option linter.unusedVariables false
namespace Go.E3
/-- Rows of values, related cell by cell. -/
structure RowR (g : G) (w : World) (cs : List AV) (us : List Value) : Prop where
  len : us.length = cs.length
  flat : ∀ c ∈ cs, AV.flat c = true
  rel : ∀ (j : Nat) (c : AV) (u : Value), cs[j]? = some c → us[j]? = some u → VR g w c u
theorem RowR.one {g : G} {w : World} {cs : List AV} {us : List Value} (h : RowR g w cs us) : ∀ x ∈ us, x.oneCell' = true := by
  intro x hx
  obtain ⟨j, hj, rfl⟩ := List.mem_iff_getElem.1 hx
  have hj' : j < cs.length := by rw [← h.len]; exact hj
  exact (h.rel j cs[j] us[j] (List.getElem?_eq_getElem hj') (List.getElem?_eq_getElem hj)).oneCell (h.flat _ (List.getElem_mem hj'))
theorem RowR.get {g : G} {w : World} {cs : List AV} {us : List Value} (h : RowR g w cs us) {j : Nat} {c : AV} (hc : cs[j]? = some c) : ∃ u, us[j]? = some u ∧ VR g w c u := by
  have hj : j < us.length := by rw [h.len]; exact (List.getElem?_eq_some_iff.1 hc).1
  exact ⟨us[j], List.getElem?_eq_getElem hj, h.rel j c _ hc (List.getElem?_eq_getElem hj)⟩
theorem RowR.take {g : G} {w : World} {cs : List AV} {us : List Value} (h : RowR g w cs us) (n : Nat) : RowR g w (cs.take n) (us.take n) where
  len := by simp [h.len]
  flat := fun c hc => h.flat c (List.mem_of_mem_take hc)
  rel := fun j c u hc hu => by
    rw [List.getElem?_take] at hc hu
    split at hc
    · rename_i hj; simp only [hj, if_true] at hu; exact h.rel j c u hc hu
    · cases hc
theorem RowR.drop {g : G} {w : World} {cs : List AV} {us : List Value} (h : RowR g w cs us) (n : Nat) : RowR g w (cs.drop n) (us.drop n) where
  len := by simp [h.len]
  flat := fun c hc => h.flat c (List.mem_of_mem_drop hc)
  rel := fun j c u hc hu => by
    rw [List.getElem?_drop] at hc hu
    exact h.rel _ c u hc hu
theorem RowR.append {g : G} {w : World} {cs ds : List AV} {us vs : List Value} (h : RowR g w cs us) (k : RowR g w ds vs) : RowR g w (cs ++ ds) (us ++ vs) where
  len := by simp [h.len, k.len]
  flat := fun c hc => by exact (List.mem_append.1 hc).elim (h.flat c) (k.flat c)
  rel := fun j c u hc hu => by
    rw [List.getElem?_append] at hc hu
    rw [h.len] at hu
    split at hc
    · rename_i hj; simp only [hj, if_true] at hu; exact h.rel j c u hc hu
    · rename_i hj; simp only [hj, if_false] at hu; exact k.rel _ c u hc hu
theorem RowR.splice {g : G} {w : World} {cs ds : List AV} {us vs : List Value} (h : RowR g w cs us) (k : RowR g w ds vs) (o : Nat) : RowR g w (splice cs o ds) (us.take o ++ vs ++ us.drop (o + vs.length)) := by
  unfold E3.splice
  rw [k.len]
  exact ((h.take o).append k).append (h.drop _)
theorem RowR.of_cells {g : G} {w : World} {v : AV} {u : Value} (h : VR g w v u) (hf : v.cells.all AV.flat = true) : ∃ us : List Value, u.cells = us.toArray ∧ RowR g w v.cells us := by
  obtain ⟨us, h1, h2, h3, h4⟩ := h.cells_ hf
  exact ⟨us, h1, h2, fun c hc => by simp at hf; exact hf c hc, h4⟩
theorem RowR.agg {g : G} {w : World} {cs : List AV} {us : List Value} (h : RowR g w cs us) : VR g w (.agg cs) (.agg us.toArray) := .agg cs us h.len h.flat h.rel
/-! ### Filling a literal -/
theorem fold_set (off : Nat) : ∀ (l : List Value) (k : Nat) (cells : Array Value), off + k + l.length ≤ cells.size →
    ((l.zipIdx k).foldl (fun cs p => cs.setIfInBounds (off + p.2) p.1) cells).toList = cells.toList.take (off + k) ++ l ++ cells.toList.drop (off + k + l.length)
  | [], k, cells, _ => by simp
  | v :: l, k, cells, h => by
    simp only [List.zipIdx_cons, List.foldl_cons]
    have h' : off + k < cells.size := by simp at h; omega
    rw [fold_set off l (k + 1) _ (by simp at h ⊢; omega)]
    simp only [Array.toList_setIfInBounds, List.length_cons]
    rw [← Nat.add_assoc, List.drop_set_of_lt (by omega)]
    rw [show off + k + 1 = (off + k) + 1 from rfl, List.take_add_one]
    rw [List.take_set_of_le (by omega)]
    simp [h']
    congr 1; omega
theorem fill_step (place : Nat → Option (Nat × Nat)) (cells : Array Value) (i off size : Nat) (v : Value) (rest : List (Nat × Value)) (vs : List Value) (hp : place i = some (off, size)) (hv : v.cells = vs.toArray) (h1 : vs.length = size) (h2 : off + size ≤ cells.size) :
    Instr.fill place cells ((i, v) :: rest) = Instr.fill place (cells.toList.take off ++ vs ++ cells.toList.drop (off + vs.length)).toArray rest := by
  simp only [Instr.fill, hp, hv]
  have e : (vs.toArray.zipIdx.foldl (fun cs (x : Value × Nat) => cs.setIfInBounds (off + x.2) x.1) cells) = (cells.toList.take off ++ vs ++ cells.toList.drop (off + vs.length)).toArray := by
    apply Array.ext'
    rw [← Array.foldl_toList, Array.toList_zipIdx]
    have := fold_set off vs 0 cells (by omega)
    simpa using this
  have hsz : vs.toArray.size = size := by simp [h1]
  rw [hsz]
  rw [if_neg (by simp; omega)]
  congr 1
theorem fill_rel {g : G} {w : World} {s : Nat → AV} {a : Act} (hr : RelT g w s a) {fs place : Nat → Option (Nat × Nat)} (hfs : ∀ i p, fs i = some p → place i = some p) :
    ∀ {ps : List (Nat × Operand)} {ps' : List (Nat × Nat × AX)} {cs ds : List AV} {us : List Value}, compParts fs ps = some ps' → RowR g w cs us → fillA s cs ps' = some ds →
      ∃ vs : List Value, Instr.fill place us.toArray (ps.map fun p => (p.1, a.eval p.2)) = some vs.toArray ∧ RowR g w ds vs
  | [], ps', cs, ds, us, hc, hrow, hf => by
    simp [compParts] at hc; subst hc
    simp [fillA] at hf; subst hf
    exact ⟨us, rfl, hrow⟩
  | (i, x) :: r, ps', cs, ds, us, hc, hrow, hf => by
    simp only [compParts] at hc
    split at hc
    · rename_i o n y ys h1 h2 h3
      injection hc with hc; subst hc
      simp only [fillA] at hf
      split at hf
      · rename_i hcond
        obtain ⟨q1, q2, q3⟩ := hcond
        have hvx := compX_spec h2 hr
        obtain ⟨vs, hvc, hvr⟩ := RowR.of_cells hvx q3
        simp only [List.map_cons]
        rw [fill_step place us.toArray i o n (a.eval x) _ vs (hfs i _ h1) hvc (by rw [hvr.len, q1]) (by simp [hrow.len]; omega)]
        exact fill_rel hr hfs h3 (hrow.splice hvr o) hf
      · cases hf
    · cases hc
/-! ### The least and the greatest -/
theorem fold_runs {P : Program} {g : G} {w : World} (m2 : Value → Value → Sem Value) (f : Int → Int → Int) (hm : ∀ k x y, m2 (.int k x) (.int k y) = pure (.int k (f x y))) :
    ∀ (vs : List AV) (us : List Value) (k : IntKind) (n : Int) (v : AV), VRs g w vs us →
      vs.foldl (fun acc v => match acc, v with
        | some (AV.int k x), .int k' y => if k = k' then some (.int k (f x y)) else none
        | _, _ => none) (some (.int k n)) = some v → ∃ u, (us.foldlM m2 (.int k n)).run P w = .ok u w ∧ VR g w v u
  | [], us, k, n, v, hr, h => by
    have : us = [] := List.length_eq_zero_iff.1 (by simpa using hr.1)
    subst this
    simp at h; subst h
    exact ⟨_, rfl, .int _ _⟩
  | x :: vs, us, k, n, v, hr, h => by
    have hnone : ∀ vs : List AV, vs.foldl (fun acc v => match acc, v with
        | some (AV.int k x), .int k' y => if k = k' then some (.int k (f x y)) else none
        | _, _ => none) none = none := by
      intro vs; induction vs with
      | nil => rfl
      | cons a l ih => simpa using ih
    obtain ⟨hl, hv⟩ := hr
    cases us with
    | nil => simp at hl
    | cons u us =>
      have hx := hv 0 x u rfl rfl
      simp only [List.foldl_cons] at h
      cases x with
      | int k' y =>
        obtain rfl := hx.inv_int
        simp only at h
        split at h
        · rename_i hk; subst hk
          obtain ⟨u', h1, h2⟩ := fold_runs m2 f hm vs us k (f n y) v ⟨by simpa using hl, fun j c u hc hu => hv (j + 1) c u (by simpa using hc) (by simpa using hu)⟩ h
          refine ⟨u', ?_, h2⟩
          simp only [List.foldlM_cons, hm, Sem.run_bind, Sem.run_pure, Result.andThen_ok]
          exact h1
        · rw [hnone] at h; cases h
      | _ => simp only at h; rw [hnone] at h; cases h
theorem foldA_runs {P : Program} {g : G} {w : World} (m2 : Value → Value → Sem Value) (f : Int → Int → Int) (hm : ∀ k x y, m2 (.int k x) (.int k y) = pure (.int k (f x y))) {vs : List AV} {us : List Value} {v : AV} (hr : VRs g w vs us) (h : foldA f vs = some v) :
    ∃ x r, us = x :: r ∧ ∃ u, (r.foldlM m2 x).run P w = .ok u w ∧ VR g w v u := by
  unfold foldA at h
  split at h
  · rename_i k n r
    obtain ⟨hl, hv⟩ := hr
    cases us with
    | nil => simp at hl
    | cons u us =>
      obtain rfl := (hv 0 _ u rfl rfl).inv_int
      obtain ⟨u', h1, h2⟩ := fold_runs (P := P) m2 f hm r us k n v ⟨by simpa using hl, fun j c u hc hu => hv (j + 1) c u (by simpa using hc) (by simpa using hu)⟩ h
      exact ⟨_, _, rfl, u', h1, h2⟩
  · cases h
section
variable {P : Program} {g : G} {w : World} {s : Nat → AV} {a : Act}
theorem run_part1 {t : TypeId} (ha : aggT P t = some false) {xs : Array Value} {i : Nat} {v : Value} (hv : xs[i]? = some v) : (part t xs i).run P w = .ok v w := by
  unfold part
  rw [Sem.run_bind, run_aggT w ha]
  simp [hv]
theorem eqFields_runs (d : Nat) {xs ys : List AV} {us vs : List Value} (hx : ∀ (j : Nat) (c : AV) (u : Value), xs[j]? = some c → us[j]? = some u → VR g w c u) (hy : ∀ (j : Nat) (c : AV) (u : Value), ys[j]? = some c → vs[j]? = some u → VR g w c u)
    (hxl : us.length = xs.length) (hyl : vs.length = ys.length) : ∀ (fs : List Field) (i : Nat) {ks : List Nat} {b : Bool}, eqKinds P fs i = some ks → eqCells ks (xs.drop i) (ys.drop i) = some b →
    (Op.eqFields (d + 1) us.toArray vs.toArray fs).run P w = .ok b w
  | [], i, ks, b, hk, hc => by
    simp only [eqKinds, Option.some.injEq] at hk; subst hk
    have : b = true := by
      cases h1 : xs.drop i <;> cases h2 : ys.drop i <;> rw [h1, h2] at hc <;> simp [eqCells] at hc
      exact hc
    subst this
    simp [Op.eqFields]
  | f :: r, i, ks, b, hk, hc => by
    simp only [eqKinds] at hk
    split at hk
    · cases hk
    · rename_i hno
      simp only [not_or, ne_eq, Decidable.not_not] at hno
      obtain ⟨hname, hoff⟩ := hno
      -- the field's own kind
      have key : ∀ {k : Nat} {ks' : List Nat}, aggT P f.type = some false → (∀ (x y : AV) (u v : Value) (b : Bool), VR g w x u → VR g w y v → eqCell k x y = some b → (Op.equalIn (d + 1) f.type u v).run P w = .ok b w) →
          eqKinds P r (i + 1) = some ks' → eqCells (k :: ks') (xs.drop i) (ys.drop i) = some b → (Op.eqFields (d + 1) us.toArray vs.toArray (f :: r)).run P w = .ok b w := by
        intro k ks' hagg heq hks hc
        cases h1 : xs.drop i with
        | nil => rw [h1] at hc; simp [eqCells] at hc
        | cons x xr =>
          cases h2 : ys.drop i with
          | nil => rw [h1, h2] at hc; simp [eqCells] at hc
          | cons y yr =>
            rw [h1, h2] at hc
            simp only [eqCells] at hc
            split at hc
            · rename_i b1 b2 hb1 hb2
              injection hc with hc
              have hxi : xs[i]? = some x := by
                have : (xs.drop i)[0]? = some x := by rw [h1]; rfl
                simpa using this
              have hyi : ys[i]? = some y := by
                have : (ys.drop i)[0]? = some y := by rw [h2]; rfl
                simpa using this
              have hil : i < us.length := by rw [hxl]; exact (List.getElem?_eq_some_iff.1 hxi).1
              have hjl : i < vs.length := by rw [hyl]; exact (List.getElem?_eq_some_iff.1 hyi).1
              have q1 : (part f.type us.toArray f.offset).run P w = .ok us[i] w := run_part1 hagg (by rw [hoff]; simp [hil])
              have q2 : (part f.type vs.toArray f.offset).run P w = .ok vs[i] w := run_part1 hagg (by rw [hoff]; simp [hjl])
              have q3 := heq x y us[i] vs[i] b1 (hx i x _ hxi (List.getElem?_eq_getElem hil)) (hy i y _ hyi (List.getElem?_eq_getElem hjl)) hb1
              have hd1 : xs.drop (i + 1) = xr := by rw [← List.tail_drop, h1]; rfl
              have hd2 : ys.drop (i + 1) = yr := by rw [← List.tail_drop, h2]; rfl
              have ih := eqFields_runs d hx hy hxl hyl r (i + 1) hks (by rw [hd1, hd2]; exact hb2)
              simp only [Op.eqFields, hname, ne_eq, not_false_eq_true, if_true, Sem.run_bind, q1, q2, q3, Result.andThen_ok]
              cases b1
              · simp at hc; subst hc; simp
              · simp at hc; subst hc; simpa using ih
            · cases hc
      have hagg : ∀ {dsc}, P.underlying f.type = some dsc → (∀ n e, dsc ≠ .array n e) → (∀ fs, dsc ≠ .struct fs) → aggT P f.type = some false := by
        intro dsc h1 h2 h3
        unfold aggT; rw [h1]
        cases dsc <;> first | rfl | (exact absurd rfl (h2 _ _)) | (exact absurd rfl (h3 _))
      split at hk
      · rename_i k0 ks' h1 h2
        injection hk with hk; subst hk
        refine key (hagg h1 (fun _ _ => by simp) (fun _ => by simp)) ?_ h2 hc
        intro x y u v b hx hy he
        unfold eqCell at he
        split at he <;> first | (cases he; done) | skip
        · split at he
          · rename_i q; subst q; injection he with he; subst he
            obtain rfl := hx.inv_int; obtain rfl := hy.inv_int
            exact run_equalIn_int w d _ _ _ _ _ h1
          · cases he
        · exfalso; omega
        · exfalso; omega
      · rename_i ks' h1 h2
        injection hk with hk; subst hk
        refine key (hagg h1 (fun _ _ => by simp) (fun _ => by simp)) ?_ h2 hc
        intro x y u v b hx hy he
        unfold eqCell at he
        split at he <;> first | (cases he; done) | skip
        · exfalso; omega
        · injection he with he; subst he
          obtain rfl := hx.inv_bool; obtain rfl := hy.inv_bool
          exact run_equalIn_bool' w d _ _ _ h1
        · exfalso; omega
      · rename_i ks' h1 h2
        injection hk with hk; subst hk
        refine key (hagg h1 (fun _ _ => by simp) (fun _ => by simp)) ?_ h2 hc
        intro x y u v b hx hy he
        unfold eqCell at he
        split at he <;> first | (cases he; done) | skip
        · exfalso; omega
        · exfalso; omega
        · injection he with he; subst he
          obtain rfl := hx.inv_str; obtain rfl := hy.inv_str
          exact run_equalIn_string w d _ _ _ h1
      · cases hk
theorem eqa_runs (op : BinOp) (neg : Bool) (hop : op = if neg then .neq else .eql) {t : TypeId} {fs : Array Field} (ht : P.underlying t = some (.struct fs)) {ks : List Nat} (hk : eqStruct P t fs.toList = some ks) {x y v : AV} {ux uy : Value}
    (hx : VR g w x ux) (hy : VR g w y uy) (hv : eqaA neg ks x y = some v) (ox oy : Operand) : Runs P g w (do eqGuard op t ox oy ux uy; binOp op t ux uy) v := by
  unfold eqStruct at hk
  split at hk
  · cases hk
  · rename_i hg
    simp only [Bool.or_eq_true, not_or, Bool.not_eq_true] at hg
    unfold eqaA at hv
    split at hv
    · rename_i xs ys
      cases hb : eqCells ks xs ys with
      | none => rw [hb] at hv; cases hv
      | some b =>
        rw [hb] at hv
        simp only [Option.map_some, Option.some.injEq] at hv; subst hv
        obtain ⟨us, rfl, hl1, _, h1⟩ := hx.inv_agg
        obtain ⟨vs, rfl, hl2, _, h2⟩ := hy.inv_agg
        have hf : P.fieldsOf t = fs := by simp [Program.fieldsOf, ht]
        have heq : (Op.equalIn 10000 t (.agg us.toArray) (.agg vs.toArray)).run P w = .ok b w := by
          rw [show (10000 : Nat) = 9998 + 1 + 1 from rfl, run_equalIn_agg w _ t _ _ (by rw [hf]; exact ht) hg.1, hf]
          exact eqFields_runs 9998 h1 h2 hl1 hl2 fs.toList 0 hk (by simpa using hb)
        subst hop
        refine ⟨.bool (if neg then !b else b), ?_, .bool _⟩
        rw [Sem.run_bind, run_eqGuard_agg w _ t ox oy _ _ hg.2]
        cases neg
        · simp only [Result.andThen_ok, Bool.false_eq_true, if_false]
          rw [run_eql_struct, heq]; rfl
        · simp only [Result.andThen_ok, if_true]
          rw [run_neq_struct, heq]; rfl
    · cases hv
end
end Go.E3
