/- All pure operations are as the model's. -/
import Derived.Test.YtdbakmdcepkpmaaLg
set_option linter.unusedSimpArgs false
set_option linter.unusedVariables false
namespace Go.E3
section
variable {P : Program} {g : G} {w : World} {s : Nat → AV} {a : Act}
theorem of_runs {o : Oper} {m : Sem Value} {v : AV} (h : Runs P g w m v) (he : execOp a.eval o = (do pure (.value (← m)))) : ∃ u, (execOp a.eval o).run P w = .ok (.value u) w ∧ VR g w v u := by
  obtain ⟨u, h1, h2⟩ := h
  exact ⟨u, by rw [he]; simp [h1], h2⟩
theorem map_some {α β : Type} {f : α → β} {x : Option α} {y : β} (h : x.map f = some y) : ∃ z, x = some z ∧ f z = y := by
  cases x with
  | none => cases h
  | some z => exact ⟨z, rfl, by simpa using h⟩
theorem compP_sound (o : Oper) {ao : AOp} (hc : compP P o.op = some ao) (hr : RelT g w s a) {v : AV} (hv : evP ao s = some v) : ∃ u, (execOp a.eval o).run P w = .ok (.value u) w ∧ VR g w v u := by
  obtain ⟨dst, op, ty, pos, after, gd⟩ := o
  simp only at hc
  unfold compP at hc
  split at hc
  · obtain ⟨x, hx, rfl⟩ := map_some hc
    simp only [evP, Option.some.injEq] at hv; subst hv
    exact ⟨_, rfl, compX_spec hx hr⟩
  · obtain ⟨x, hx, rfl⟩ := map_some hc
    simp only [evP, Option.some.injEq] at hv; subst hv
    exact ⟨_, rfl, compX_spec hx hr⟩
  · split at hc
    · rename_i c a1 b1 c' a' b' h1 h2 h3
      injection hc with hc; subst hc
      simp only [evP, pickA] at hv
      split at hv
      · rename_i t ht
        injection hv with hv; subst hv
        have hc1 := compX_spec h1 hr
        rw [ht] at hc1
        have hb := hc1.inv_bool
        cases t
        · exact ⟨_, by simp [execOp, hb, asBool], compX_spec h3 hr⟩
        · exact ⟨_, by simp [execOp, hb, asBool], compX_spec h2 hr⟩
      · cases hv
    · cases hc
  · obtain ⟨x, hx, rfl⟩ := map_some hc
    exact of_runs (extract_runs (compX_spec hx hr) hv) rfl
  · split at hc
    · rename_i fs ht
      split at hc
      · rename_i fl hfl
        split at hc
        · rename_i n b x h1 h2 h3
          injection hc with hc; subst hc
          exact of_runs (field_runs ht hfl h1 h2 (compX_spec h3 hr) hv) rfl
        · cases hc
      · cases hc
    · cases hc
  · obtain ⟨x, hx, rfl⟩ := map_some hc
    exact of_runs (unary_runs _ (compX_spec hx hr) hv) rfl
  · split at hc
    · rename_i h1 h2
      obtain ⟨x, hx, rfl⟩ := map_some hc
      exact of_runs (convert_runs h1 h2 (compX_spec hx hr) hv) rfl
    · cases hc
  · split at hc
    · rename_i f first caps h0
      obtain ⟨xs, hxs, rfl⟩ := map_some hc
      simp only [evP, Option.some.injEq] at hv; subst hv
      obtain ⟨h1, h2⟩ := compXs_spec hxs hr
      have hf : first = #[] := by simpa using h0
      subst hf
      refine ⟨_, rfl, ?_⟩
      have := VR.fn (g := g) (w := w) f (xs.map (·.ev s)) (caps.toList.map a.eval) (by simp at h1; simp [h1]) h2
      have e : (caps.toList.map a.eval).toArray = caps.map a.eval := by apply Array.ext'; simp
      rw [e] at this
      have e0 : Array.map a.eval #[] = #[] := by simp
      rw [e0]
      exact this
    · cases hc
  · split at hc
    · rename_i fs ht
      split at hc
      · rename_i fl hfl
        split at hc
        · rename_i n x h1 h2
          split at hc
          · cases hc
          · rename_i hn0
            injection hc with hc; subst hc
            exact of_runs (fieldAt_runs ht hfl h1 hn0 (compX_spec h2 hr) hv) rfl
        · cases hc
      · cases hc
    · cases hc
  · split at hc
    · rename_i e x i h1 h2 h3
      obtain ⟨n, hn, rfl⟩ := map_some hc
      exact of_runs (indexAt_slice_runs h1 hn (compX_spec h2 hr) (compX_spec h3 hr) hv) rfl
    · rename_i m e x i h1 h2 h3
      obtain ⟨n, hn, rfl⟩ := map_some hc
      exact of_runs (indexAt_array_runs h1 hn (compX_spec h2 hr) (compX_spec h3 hr) hv) rfl
    · cases hc
  · obtain ⟨x, hx, rfl⟩ := map_some hc
    exact nck_runs rfl (compX_spec hx hr) hv
  · split at hc
    · rename_i e x lo hi mx h1 h2 h3 h4 h5
      split at hc
      · cases hc
      · rename_i hmx
        obtain ⟨n, hn, rfl⟩ := map_some hc
        exact of_runs (slice_runs' h1 hn (compX_spec h2 hr) h3 h4 h5 (by cases mx <;> cases hi <;> simp_all) hr hv) rfl
    · cases hc
  · split at hc
    · rename_i d x' y' h1 h2 h3
      split at hc
      · rename_i kd hk
        split at hc
        · injection hc with hc; subst hc
          exact of_runs (litNil_runs (neg := false) rfl h1 hk (compX_spec h2 hr) hv _ _) rfl
        · injection hc with hc; subst hc
          exact of_runs (litNil_runs (neg := true) rfl h1 hk (compX_spec h2 hr) hv _ _) rfl
        · cases hc
      · split at hc
        · injection hc with hc; subst hc
          exact of_runs (binOp_runs _ _ (compX_spec h2 hr) (compX_spec h3 hr) hv _ _) rfl
        · split at hc
          · injection hc with hc; subst hc
            exact of_runs (bib_runs _ false rfl _ h1 (compX_spec h2 hr) (compX_spec h3 hr) hv _ _) rfl
          · injection hc with hc; subst hc
            exact of_runs (bib_runs _ true rfl _ h1 (compX_spec h2 hr) (compX_spec h3 hr) hv _ _) rfl
          · cases hc
        · injection hc with hc; subst hc
          exact of_runs (binOp_runs _ _ (compX_spec h2 hr) (compX_spec h3 hr) hv _ _) rfl
        · split at hc
          · rename_i hks
            injection hc with hc; subst hc
            exact of_runs (eqa_runs _ false rfl h1 hks (compX_spec h2 hr) (compX_spec h3 hr) hv _ _) rfl
          · rename_i hks
            injection hc with hc; subst hc
            exact of_runs (eqa_runs _ true rfl h1 hks (compX_spec h2 hr) (compX_spec h3 hr) hv _ _) rfl
          · cases hc
        · cases hc
    · cases hc
  · split at hc
    · rename_i t ps o1 o2 i fs h1 h2
      split at hc
      · cases hc
      rename_i hall
      split at hc
      · rename_i z hz
        split at hc
        · rename_i z' ps' h3 h4
          injection hc with hc; subst hc
          obtain ⟨ds, hd, rfl⟩ := map_some hv
          obtain ⟨q1, q2, q3⟩ := ofSs_spec g w h3
          obtain ⟨vs, r1, r2⟩ := fill_rel (place := fun j => (fs[j]?).bind fun f => (sizeT P f.type).map fun n => (f.offset, n)) hr (fun i p h => h) h4 ⟨q1, q2, q3⟩ hd
          refine of_runs (m := Instr.build t (ps.map fun p => (p.1, a.eval p.2))) ⟨.agg vs.toArray, ?_, r2.agg⟩ rfl
          have hm : ∀ (l : List Field), (∀ f ∈ l, ∃ n, sizeT P f.type = some n) → (l.mapM fun f => (do pure (f.offset, ← sizeOf f.type) : Sem (Nat × Nat))).run P w = .ok (l.map fun f => (f.offset, (sizeT P f.type).getD 0)) w := by
            intro l hl
            induction l with
            | nil => simp
            | cons f l ih =>
              obtain ⟨n, hn⟩ := hl f (by simp)
              simp only [List.mapM_cons, Sem.run_bind, run_sizeT w hn, Result.andThen_ok, Sem.run_pure, ih (fun f hf => hl f (by simp [hf])), List.map_cons, hn, Option.getD_some]
          have hall' : ∀ f ∈ fs.toList, ∃ n, sizeT P f.type = some n := by
            intro f hf
            have : (fs.toList.all fun f => (sizeT P f.type).isSome) = true := by revert hall; cases (fs.toList.all fun f => (sizeT P f.type).isSome) <;> simp
            rw [List.all_eq_true] at this
            exact Option.isSome_iff_exists.1 (this f hf)
          have e1 : (ps.map fun p => (p.1, a.eval p.2)).toList = ps.toList.map fun p => (p.1, a.eval p.2) := by simp
          have r1' : Instr.fill (fun j => (fs[j]?).bind fun f : Field => (sizeT P f.type).map fun n => (f.offset, n)) z (ps.toList.map fun p => (p.1, a.eval p.2)) = some vs.toArray := by simpa using r1
          have e2 : (fun j : Nat => (fs.toList.map fun f : Field => (f.offset, (sizeT P f.type).getD 0)).toArray[j]?) = (fun j => (fs[j]?).bind fun f : Field => (sizeT P f.type).map fun n => (f.offset, n)) := by
            funext j
            cases hj : fs[j]? with
            | none => simp [hj]
            | some f =>
              obtain ⟨n, hn⟩ := hall' f (by rw [Array.getElem?_eq_some_iff] at hj; obtain ⟨hlt, rfl⟩ := hj; simp)
              simp [hj, hn]
          simp only [Instr.build, zeroValue, typeInfo, Sem.run_bind, run_program, h1, hz, Result.andThen_ok, Sem.run_pure, Value.cells, run_underlying h2, Array.mapM_eq_mapM_toList, Sem.run_map, hm fs.toList hall', e2, e1, r1']
        · cases hc
      · cases hc
    · rename_i t ps o1 o2 i m e h1 h2
      split at hc
      · rename_i z n hz hn
        split at hc
        · rename_i z' ps' h3 h4
          injection hc with hc; subst hc
          obtain ⟨ds, hd, rfl⟩ := map_some hv
          obtain ⟨q1, q2, q3⟩ := ofSs_spec g w h3
          obtain ⟨vs, r1, r2⟩ := fill_rel (place := fun j => some (j * n, n)) hr (fun i p h => h) h4 ⟨q1, q2, q3⟩ hd
          refine of_runs (m := Instr.build t (ps.map fun p => (p.1, a.eval p.2))) ⟨.agg vs.toArray, ?_, r2.agg⟩ rfl
          have e1 : (ps.map fun p => (p.1, a.eval p.2)).toList = ps.toList.map fun p => (p.1, a.eval p.2) := by simp
          have r1' : Instr.fill (fun i => some (i * n, n)) z (ps.toList.map fun p => (p.1, a.eval p.2)) = some vs.toArray := by simpa using r1
          simp [Instr.build, zeroValue, typeInfo, h1, hz, Value.cells, run_underlying h2, run_sizeT w hn, e1, r1']
        · cases hc
      · cases hc
    · cases hc
  · rename_i b args ats
    have hcall : execOp a.eval ⟨dst, .call { callee := .builtin b, args := args, argTypes := ats }, ty, pos, after, gd⟩ = builtin b ats ty (args.map fun | .const _ => true | _ => false) (args.map a.eval) := rfl
    rw [hcall]
    split at hc
    · rename_i x hargs
      have ha : args = #[x] := by apply Array.ext'; simpa using hargs
      subst ha
      split at hc
      · rename_i e x' h1 h2
        injection hc with hc; subst hc
        cases h0 : ats[0]? with
        | none => simp [h0] at h1
        | some t =>
          simp [h0] at h1
          obtain ⟨u, r1, r2⟩ := len_runs (ty := ty) h0 h1 (compX_spec h2 hr) hv
          exact ⟨u, by simp [builtin, r1], r2⟩
      · rename_i x' h1 h2
        injection hc with hc; subst hc
        cases h0 : ats[0]? with
        | none => simp [h0] at h1
        | some t =>
          simp [h0] at h1
          obtain ⟨u, r1, r2⟩ := lens_runs (ty := ty) h0 h1 (compX_spec h2 hr) hv
          exact ⟨u, by simp [builtin, r1], r2⟩
      · cases hc
    · rename_i x hargs
      have ha : args = #[x] := by apply Array.ext'; simpa using hargs
      subst ha
      split at hc
      · rename_i e x' h1 h2
        injection hc with hc; subst hc
        cases h0 : ats[0]? with
        | none => simp [h0] at h1
        | some t =>
          simp [h0] at h1
          obtain ⟨u, r1, r2⟩ := cap_runs (ty := ty) h0 h1 (compX_spec h2 hr) hv
          exact ⟨u, by simp [builtin, r1], r2⟩
      · cases hc
    · rename_i xs
      obtain ⟨ys, hys, rfl⟩ := map_some hc
      obtain ⟨h1, h2⟩ := compXs_spec hys hr
      obtain ⟨x, r, he, u, r1, r2⟩ := foldA_runs (P := P) (w := w) Builtin.max2 _ (fun k x y => rfl) (us := args.toList.map a.eval) ⟨by simp at h1; simp [h1], h2⟩ hv
      refine ⟨u, ?_, r2⟩
      have e2 : (args.map a.eval).toList = x :: r := by rw [← he]; simp
      simp only [builtin, Builtin.max_, Sem.run_bind]
      rw [e2]
      simp only [r1, Result.andThen_ok, Sem.run_pure]
    · rename_i xs
      obtain ⟨ys, hys, rfl⟩ := map_some hc
      obtain ⟨h1, h2⟩ := compXs_spec hys hr
      obtain ⟨x, r, he, u, r1, r2⟩ := foldA_runs (P := P) (w := w) Builtin.min2 _ (fun k x y => rfl) (us := args.toList.map a.eval) ⟨by simp at h1; simp [h1], h2⟩ hv
      refine ⟨u, ?_, r2⟩
      have e2 : (args.map a.eval).toList = x :: r := by rw [← he]; simp
      simp only [builtin, Builtin.min_, Sem.run_bind]
      rw [e2]
      simp only [r1, Result.andThen_ok, Sem.run_pure]
    · cases hc
  · cases hc
end
end Go.E3
