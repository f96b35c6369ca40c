/- Pure operations: nil, lengths, the least and the greatest, literals; and all of them. -/
import Derived.Test.YtdbakmdcepkpmaaLe
set_option linter.unusedSimpArgs false
set_option linter.unusedVariables false
namespace Go.E3
section
variable {P : Program} {g : G} {w : World} {s : Nat → AV} {a : Act}
theorem eq_nil_ptr (d : Nat) {t e : TypeId} (ht : P.underlying t = some (.pointer e)) (p : Option Addr) : (Op.equalIn (d + 1) t (.pointer p) (.pointer none)).run P w = .ok p.isNone w := by
  cases p <;> simp [Op.equalIn, run_underlying ht]
theorem eq_nil_slice (d : Nat) {t e : TypeId} (ht : P.underlying t = some (.slice e)) (p : Option Addr) (n c : Nat) : (Op.equalIn (d + 1) t (.slice p n c) (.slice none 0 0)).run P w = .ok p.isNone w := by
  cases p <;> simp [Op.equalIn, run_underlying ht]
theorem eq_nil_map (d : Nat) {t k e : TypeId} (ht : P.underlying t = some (.map k e)) (p : Option Nat) : (Op.equalIn (d + 1) t (.map p) (.map none)).run P w = .ok p.isNone w := by
  cases p <;> simp [Op.equalIn, run_underlying ht]
theorem eq_nil_fn (d : Nat) {t : TypeId} {ps rs : Array TypeId} {vr : Bool} (ht : P.underlying t = some (.func ps rs vr)) (f : Fn) (x y : Array Value) : (Op.equalIn (d + 1) t (.func f x y) .nilFunc).run P w = .ok false w := by
  simp [Op.equalIn, run_underlying ht]
theorem eq_nil_fn0 (d : Nat) {t : TypeId} {ps rs : Array TypeId} {vr : Bool} (ht : P.underlying t = some (.func ps rs vr)) : (Op.equalIn (d + 1) t .nilFunc .nilFunc).run P w = .ok true w := by
  simp [Op.equalIn, run_underlying ht]
theorem nil_fin {t : TypeId} {u y : Value} {b neg : Bool} (ox oy : Operand) (hq : ∀ op, (eqGuard op t ox oy u y).run P w = .ok () w) (h : (Op.equalIn (9999 + 1) t u y).run P w = .ok b w)
    (he : binOp .eql t u y = (do pure (.bool (← Op.equal t u y)))) (hn : binOp .neq t u y = (do pure (.bool (!(← Op.equal t u y))))) :
    Runs P g w (do eqGuard (if neg then .neq else .eql) t ox oy u y; binOp (if neg then .neq else .eql) t u y) (.bool (if neg then !b else b)) := by
  have h' : (Op.equal t u y).run P w = .ok b w := h
  refine ⟨_, ?_, .bool _⟩
  cases neg
  · simp only [Bool.false_eq_true, if_false, Sem.run_bind, hq, he, h', Result.andThen_ok, Sem.run_pure]
  · simp only [if_true, Sem.run_bind, hq, hn, h', Result.andThen_ok, Sem.run_pure]
theorem litNil_runs {op : BinOp} {neg : Bool} (hop : op = if neg then .neq else .eql) {t : TypeId} {d : TypeDesc} (ht : P.underlying t = some d) {y : Operand} {kd : Nat} (hy : litNilOp d y = some kd) {x v : AV} {u : Value} (hx : VR g w x u)
    (hv : (isNilA kd x).map (fun b => AV.bool (if neg then !b else b)) = some v) (ox oy : Operand) : Runs P g w (do eqGuard op t ox oy u (a.eval y); binOp op t u (a.eval y)) v := by
  subst hop
  cases hb : isNilA kd x with
  | none => simp [hb] at hv
  | some b =>
    simp [hb] at hv; subst hv
    unfold litNilOp at hy
    split at hy <;> first | (cases hy; done) | skip
    all_goals (injection hy with hy; subst hy)
    all_goals
      unfold isNilA at hb
      split at hb <;> first | (cases hb; done) | skip
    all_goals
      first | (rename_i h0; cases h0; done) | skip
    all_goals first
      | (injection hb with hb; done)
      | (injection hb with hb)
      | skip
    all_goals
      cases hx
    all_goals first
      | (have hq := ‹∀ b', _ = some b' → b' = Option.isNone _› b hb; subst hq)
      | skip
    all_goals
      subst_vars
    all_goals first
      | exact nil_fin ox oy (fun op => by cases op <;> rfl) (eq_nil_ptr 9999 ht _) rfl rfl
      | exact nil_fin ox oy (fun op => by cases op <;> rfl) (eq_nil_slice 9999 ht _ _ _) rfl rfl
      | exact nil_fin ox oy (fun op => by cases op <;> rfl) (eq_nil_map 9999 ht _) rfl rfl
      | exact nil_fin ox oy (fun op => by cases op <;> rfl) (eq_nil_fn 9999 ht _ _ _) rfl rfl
      | exact nil_fin ox oy (fun op => by cases op <;> rfl) (eq_nil_fn0 9999 ht) rfl rfl
theorem nck_runs {x v : AV} {o : Oper} {y : Operand} (ho : o.op = .nilCheck y) (hx : VR g w x (a.eval y)) (hv : nckA x = some v) : ∃ u, (execOp a.eval o).run P w = .ok (.value u) w ∧ VR g w v u := by
  obtain ⟨dst, op, ty, pos, after, gd⟩ := o
  simp only at ho; subst ho
  unfold nckA at hv
  split at hv <;> first | (cases hv; done) | (injection hv with hv; subst hv)
  all_goals
    generalize hz : a.eval y = z at hx
    cases hx
    refine ⟨_, by simp only [execOp, hz]; rfl, ?_⟩
  · constructor <;> assumption
  · constructor <;> assumption
  · constructor <;> assumption
theorem len_runs {ats : Array TypeId} {t ty e : TypeId} {x v : AV} {u : Value} (h0 : ats[0]? = some t) (ht : P.underlying t = some (.slice e)) (hx : VR g w x u) (hv : lenA x = some v) : Runs P g w (Builtin.len_ ats ty #[u]) v := by
  unfold lenA at hv
  split at hv <;> first | (cases hv; done) | (injection hv with hv; subst hv)
  all_goals
    cases hx
    refine ⟨_, ?_, .int _ _⟩
    simp [Builtin.len_, h0, run_underlying ht, goInt]
theorem lens_runs {ats : Array TypeId} {t ty : TypeId} {x v : AV} {u : Value} (h0 : ats[0]? = some t) (ht : P.underlying t = some .string) (hx : VR g w x u) (hv : lensA x = some v) : Runs P g w (Builtin.len_ ats ty #[u]) v := by
  unfold lensA at hv
  split at hv <;> first | (cases hv; done) | (injection hv with hv; subst hv)
  cases hx
  refine ⟨_, ?_, .int _ _⟩
  simp [Builtin.len_, h0, run_underlying ht, goInt]
theorem cap_runs {ats : Array TypeId} {t ty e : TypeId} {x v : AV} {u : Value} (h0 : ats[0]? = some t) (ht : P.underlying t = some (.slice e)) (hx : VR g w x u) (hv : capA x = some v) : Runs P g w (Builtin.cap_ ats ty #[u]) v := by
  unfold capA at hv
  split at hv <;> first | (cases hv; done) | (injection hv with hv; subst hv)
  · cases hx with
    | isl _ _ _ sz A c us hl h1 h2 =>
      refine ⟨_, ?_, .int _ _⟩
      simp [Builtin.cap_, h0, run_underlying ht, goInt, h2]
  · cases hx with
    | sl _ _ _ _ _ _ b f c hA hi h1 h2 h3 =>
      refine ⟨_, ?_, .int _ _⟩
      simp [Builtin.cap_, h0, run_underlying ht, goInt, h3]
end
end Go.E3
