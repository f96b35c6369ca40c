/- All operations but calls are as the model's. -/
import Derived.Test.YtdbakmdcepkpmaaLo
set_option linter.unusedSimpArgs false
set_option linter.unusedVariables false
namespace Go.E3
open Go.RowKit
def compS (P : Program) (op : Op) : Option AOp :=
  match compP P op with
  | some a => some a
  | none => compH P op
def AOp.isPure : AOp → Bool
  | .ld .. | .box .. | .new .. | .bsl .. | .app .. | .apn .. | .apz .. | .st .. | .cpy .. | .clr .. | .callS .. | .callV .. => false
  | _ => true
theorem evS_pure {op : AOp} (h : op.isPure = true) (nw : Nat) (st : St) : evS op nw st = (evP op st.s).map fun v => (v, st.h) := by
  cases op <;> first | rfl | (simp [AOp.isPure] at h)
theorem compP_pure {P : Program} {op : Op} {ao : AOp} (h : compP P op = some ao) : ao.isPure = true := by
  unfold compP at h
  repeat' (split at h)
  all_goals first
    | (cases h; done)
    | (injection h with h; subst h; rfl)
    | (obtain ⟨x, _, rfl⟩ := map_some h; rfl)
section
variable {P : Program} {g : G} {w : World} {st : St} {a : Act} {n0 nw : Nat}
theorem compS_sound (o : Oper) {ao : AOp} (hc : compS P o.op = some ao) (hr : Rel g w st.h st.n) (hs : RelT g w st.s a) (hfresh : ¬ g.A nw) (hlt : nw < st.n) (hn0 : n0 ≤ nw) {v : AV} {h' : Hp} (hv : evS ao nw st = some (v, h')) :
    Did P g w st.h st.n n0 nw (execOp a.eval o) v h' := by
  have hn : n0 ≤ st.n := Nat.le_trans hn0 (Nat.le_of_lt hlt)
  unfold compS at hc
  split at hc
  · rename_i ao' hp
    injection hc with hc; subst hc
    rw [evS_pure (compP_pure hp)] at hv
    obtain ⟨v', hv', he⟩ := map_some hv
    injection he with he1 he2; subst he1; subst he2
    obtain ⟨u, h1, h2⟩ := compP_sound o hp hs hv'
    exact ⟨g, w, u, .value u, h1, .inl rfl, h2, hr, { Ext.refl g w st.h n0 with le := hn }, fun id hA => .inl hA⟩
  · rename_i hpn
    clear hpn
    obtain ⟨dst, op, ty, pos, after, gd⟩ := o
    simp only at hc
    unfold compH at hc
    split at hc
    · split at hc
      · rename_i n b x h1 h2 h3
        injection hc with hc; subst hc
        obtain ⟨v', hv', he⟩ := map_some hv
        injection he with he1 he2; subst he1; subst he2
        exact Did.of_runs (m := Instr.loadAt _ _) hr hn (ldE_sound h1 h2 hr (compX_spec h3 hs) hv')
      · cases hc
    · obtain ⟨x, hx, rfl⟩ := map_some hc
      simp only [evS] at hv
      split at hv
      · rename_i hf
        injection hv with hv; injection hv with hv1 hv2; subst hv1; subst hv2
        exact box_did hr hfresh hlt hn0 (compX_spec hx hs) hf
      · cases hv
    · split at hc
      · rename_i t o1 z hz
        obtain ⟨zv, hzv, rfl⟩ := map_some hc
        simp only [evS] at hv
        split at hv
        · rename_i hf
          injection hv with hv; injection hv with hv1 hv2; subst hv1; subst hv2
          have hb := box_did (P := P) (e := t) hr hfresh hlt hn0 (ofV_spec hzv g w) hf
          obtain ⟨g', w', u, nx, r1, r2⟩ := hb
          refine ⟨g', w', u, nx, ?_, r2⟩
          cases hi : P.info? t with
          | none => simp [hi] at hz
          | some i =>
            simp [hi] at hz
            rw [← r1]
            simp [execOp, Instr.alloc, zeroValue, typeInfo, hi, hz]
        · cases hv
      · cases hc
    · split at hc
      · rename_i t len ps o1 e ht
        split at hc
        · rename_i n hn1
          split at hc
          · cases hc
          · rename_i hle
            split at hc
            · rename_i z ps' h1 h2
              injection hc with hc; subst hc
              simp only [evS] at hv
              split at hv
              · rename_i cs hcs
                injection hv with hv; injection hv with hv1 hv2; subst hv1; subst hv2
                have := bsl_did (P := P) hr hfresh hlt hn0 ht hn1 hle h1 h2 hs (by simpa [Function.comp_def] using hcs)
                obtain ⟨g', w', u, nx, r1, r2⟩ := this
                refine ⟨g', w', u, nx, ?_, r2⟩
                rw [← r1]
                have : (ps.toList.map fun p => (p.1, a.eval p.2)).toArray = ps.map fun p => (p.1, a.eval p.2) := by apply Array.ext'; simp
                rw [this]; rfl
              · cases hv
            · cases hc
        · cases hc
      · cases hc
    · split at hc
      · rename_i n x v0 h1 h2 h3
        injection hc with hc; subst hc
        obtain ⟨hh, hv', he⟩ := map_some hv
        injection he with he1 he2; subst he1; subst he2
        exact store_did hr hn h1 (compX_spec h2 hs) (compX_spec h3 hs) hv'
      · cases hc
    · rename_i b args ats
      have hcall : execOp a.eval ⟨dst, .call { callee := .builtin b, args := args, argTypes := ats }, ty, pos, after, gd⟩ = builtin b ats ty (args.map fun | .const _ => true | _ => false) (args.map a.eval) := rfl
      rw [hcall]
      split at hc
      · rename_i s x t t' hargs hats
        have ha : args = #[s, x] := by apply Array.ext'; simpa using hargs
        have hb : ats = #[t, t'] := by apply Array.ext'; simpa using hats
        subst ha; subst hb
        split at hc
        · cases hc
        · rename_i htt
          have htt' : t = t' := Classical.not_not.1 htt
          subst htt'
          split at hc
          · rename_i e ht
            split at hc
            · rename_i i s' x' h1 h2 h3
              split at hc
              · rename_i z hz
                split at hc
                · rename_i hzs
                  injection hc with hc; subst hc
                  have e2 : Array.map a.eval #[s, x] = #[a.eval s, a.eval x] := by simp
                  rw [e2]
                  exact app_did (ty := ty) ht h1 hz hzs hr hfresh hlt hn0 (compX_spec h2 hs) (compX_spec h3 hs) hv
                · cases hc
              · cases hc
            · cases hc
          · cases hc
      · rename_i d s t t' hargs hats
        have ha : args = #[d, s] := by apply Array.ext'; simpa using hargs
        have hb : ats = #[t, t'] := by apply Array.ext'; simpa using hats
        subst ha; subst hb
        split at hc
        · rename_i e e' ht ht'
          split at hc
          · rename_i n d' s' h1 h2 h3
            injection hc with hc; subst hc
            have e2 : Array.map a.eval #[d, s] = #[a.eval d, a.eval s] := by simp
            rw [e2]
            exact cpy_did (nw := nw) (t' := t') (ty := ty) ht h1 hr hn (compX_spec h2 hs) (compX_spec h3 hs) hv
          · cases hc
        · cases hc
      · rename_i x t hargs hats
        have ha : args = #[x] := by apply Array.ext'; simpa using hargs
        have hb : ats = #[t] := by apply Array.ext'; simpa using hats
        subst ha; subst hb
        split at hc
        · rename_i e ht
          split at hc
          · rename_i i x' h1 h2
            split at hc
            · rename_i zv hzv
              split at hc
              · cases hc
              · rename_i hcond
                obtain ⟨z, hz, rfl⟩ := map_some hc
                simp only [not_or, Classical.not_not] at hcond
                have e2 : Array.map a.eval #[x] = #[a.eval x] := by simp
                rw [e2]
                exact clr_did (nw := nw) (ty := ty) ht (by simp [sizeT, h1]) hcond.1 hz (fun i' zv' hi' hz' => by rw [h1] at hi'; injection hi' with hi'; subst hi'; rw [hzv] at hz'; injection hz' with hz'; subst hz'; exact hcond.2) hr hn (compX_spec h2 hs) hv
            · cases hc
          · cases hc
        · cases hc
      · cases hc
    · cases hc
end
end Go.E3
