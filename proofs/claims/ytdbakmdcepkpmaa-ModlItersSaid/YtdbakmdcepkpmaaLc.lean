/- How code of the model is turned into code of the abstract machine; pure operations are as the model's. -/
import Derived.Test.YtdbakmdcepkpmaaLb
import Derived.Laws.Entries
import Derived.Laws.StructEq
import Derived.Laws.Slices
import Derived.KernelRfl
set_option linter.unusedSimpArgs false
set_option linter.unusedVariables false
namespace Go.E3
/-! ### Values of the text -/
def ofS : Value → Option AV
  | .bool b => some (.bool b)
  | .int k n => some (.int k n)
  | .string s => some (.str s)
  | .pointer none => some .nilp
  | .slice none 0 0 => some .nils
  | .map none => some .nilm
  | .nilFunc => some .nilfn
  | _ => none
def ofSs : List Value → Option (List AV)
  | [] => some []
  | v :: r => match ofS v, ofSs r with
    | some x, some xs => some (x :: xs)
    | _, _ => none
def ofV : Value → Option AV
  | .agg cs => (ofSs cs.toList).map .agg
  | .tuple cs => if cs.size = 0 then some .undef else none
  | v => ofS v
theorem VR.nils (g : G) (w : World) : VR g w .nils (.slice none 0 0) := by
  refine .isl (some true) true [] 0 none 0 [] rfl (Nat.le_refl _) (fun _ => rfl) (fun b hb => by injection hb with hb; exact hb.symm) (fun _ => rfl) (fun ad h => by cases h) (fun i ul h => by simp at h) (fun i x ul h => by simp at h) (fun i x ul h => by simp at h)
theorem ofS_spec {v : Value} {x : AV} (h : ofS v = some x) (g : G) (w : World) : VR g w x v ∧ x.flat = true := by
  unfold ofS at h
  split at h <;> first | (injection h with h; subst h) | (cases h)
  · exact ⟨.bool _, rfl⟩
  · exact ⟨.int _ _, rfl⟩
  · exact ⟨.str _, rfl⟩
  · exact ⟨.nilp, rfl⟩
  · exact ⟨VR.nils g w, rfl⟩
  · exact ⟨.nilm, rfl⟩
  · exact ⟨.nilfn, rfl⟩
theorem ofSs_spec (g : G) (w : World) : ∀ {l : List Value} {xs : List AV}, ofSs l = some xs → l.length = xs.length ∧ (∀ c ∈ xs, c.flat = true) ∧ ∀ (j : Nat) (c : AV) (u : Value), xs[j]? = some c → l[j]? = some u → VR g w c u
  | [], xs, h => by simp [ofSs] at h; subst h; simp
  | v :: r, xs, h => by
    simp only [ofSs] at h
    split at h
    · rename_i x ys hx hy
      injection h with h; subst h
      obtain ⟨h1, h2, h3⟩ := ofSs_spec g w hy
      obtain ⟨q1, q2⟩ := ofS_spec hx g w
      refine ⟨by simp [h1], by simpa using ⟨q2, h2⟩, ?_⟩
      intro j c u hc hu
      cases j with
      | zero => simp at hc hu; subst hc; subst hu; exact q1
      | succ j => exact h3 j c u (by simpa using hc) (by simpa using hu)
    · cases h
theorem ofV_spec {v : Value} {x : AV} (h : ofV v = some x) (g : G) (w : World) : VR g w x v := by
  unfold ofV at h
  split at h
  · rename_i cs
    cases hc : ofSs cs.toList with
    | none => simp [hc] at h
    | some xs =>
      simp [hc] at h; subst h
      obtain ⟨h1, h2, h3⟩ := ofSs_spec g w hc
      have := VR.agg (g := g) (w := w) xs cs.toList h1 h2 h3
      simpa using this
  · rename_i cs
    split at h
    · rename_i h0
      injection h with h; subst h
      have : cs = #[] := by simpa using h0
      subst this
      exact VR.tup (g := g) (w := w) [] [] rfl (fun j c u h => by simp at h)
    · cases h
  · exact (ofS_spec h g w).1
/-! ### Operands -/
def compX : Operand → Option AX
  | .tmp t => some (.t t)
  | .const v => (ofV v).map .c
  | .func f => some (.c (.fn f []))
  | .global _ => none
def RelT (g : G) (w : World) (s : Nat → AV) (a : Act) : Prop := ∀ t, VR g w (s t) (a.tmps.getD t undef)
theorem compX_spec {x : Operand} {y : AX} (h : compX x = some y) {g : G} {w : World} {s : Nat → AV} {a : Act} (hr : RelT g w s a) : VR g w (y.ev s) (a.eval x) := by
  cases x with
  | tmp t => simp [compX] at h; subst h; exact hr t
  | const v =>
    simp only [compX] at h
    cases hv : ofV v with
    | none => simp [hv] at h
    | some z => simp [hv] at h; subst h; exact ofV_spec hv g w
  | func f => simp [compX] at h; subst h; exact VR.fn (g := g) (w := w) f [] [] rfl (fun j c u h => by simp at h)
  | global n => simp [compX] at h
/-! ### Inversion -/
theorem VR.inv_int {g : G} {w : World} {k : IntKind} {n : Int} {u : Value} (h : VR g w (.int k n) u) : u = .int k n := by cases h; rfl
theorem VR.inv_bool {g : G} {w : World} {b : Bool} {u : Value} (h : VR g w (.bool b) u) : u = .bool b := by cases h; rfl
theorem VR.inv_str {g : G} {w : World} {b : ByteArray} {u : Value} (h : VR g w (.str b) u) : u = .string b := by cases h; rfl
theorem VR.inv_agg {g : G} {w : World} {cs : List AV} {u : Value} (h : VR g w (.agg cs) u) : ∃ us : List Value, u = .agg us.toArray ∧ us.length = cs.length ∧ (∀ c ∈ cs, c.flat = true) ∧ ∀ (j : Nat) (c : AV) (u : Value), cs[j]? = some c → us[j]? = some u → VR g w c u := by
  cases h with
  | agg _ us hl hf hv => exact ⟨us, rfl, hl, hf, hv⟩
/-- A value's cells, related. -/
theorem VR.cells_ {g : G} {w : World} {v : AV} {u : Value} (h : VR g w v u) (hf : v.cells.all AV.flat = true) : ∃ us : List Value, u.cells = us.toArray ∧ us.length = v.cells.length ∧ (∀ x ∈ us, x.oneCell' = true) ∧
    ∀ (j : Nat) (c : AV) (u : Value), v.cells[j]? = some c → us[j]? = some u → VR g w c u := by
  have one : ∀ {v : AV} {u : Value}, VR g w v u → v.cells = [v] → u.cells = #[u] → v.flat = true → ∃ us : List Value, u.cells = us.toArray ∧ us.length = v.cells.length ∧ (∀ x ∈ us, x.oneCell' = true) ∧ ∀ (j : Nat) (c : AV) (u : Value), v.cells[j]? = some c → us[j]? = some u → VR g w c u := by
    intro v u hv h1 h2 h3
    refine ⟨[u], h2, by simp [h1], by simpa using hv.oneCell h3, ?_⟩
    intro j c u' hc hu
    rw [h1] at hc
    cases j with
    | zero => simp at hc hu; subst hc; subst hu; exact hv
    | succ j => simp at hc
  cases v with
  | agg cs =>
    obtain ⟨us, rfl, hl, hf', hv⟩ := h.inv_agg
    refine ⟨us, rfl, hl, fun x hx => ?_, hv⟩
    obtain ⟨j, hj, rfl⟩ := List.mem_iff_getElem.1 hx
    have hj' : j < cs.length := by omega
    exact (hv j cs[j] us[j] (List.getElem?_eq_getElem hj') (List.getElem?_eq_getElem hj)).oneCell (hf' _ (List.getElem_mem hj'))
  | tup cs => simp [AV.cells, AV.flat] at hf
  | _ => exact one h rfl (by cases h <;> rfl) rfl
theorem seg_spec {g : G} {w : World} {cs : List AV} {us : List Value} (hl : us.length = cs.length) (hf : ∀ c ∈ cs, AV.flat c = true) (hv : ∀ (j : Nat) (c : AV) (u : Value), cs[j]? = some c → us[j]? = some u → VR g w c u)
    {o size : Nat} {ag : Bool} {x : AV} (h : seg cs o size ag = some x) :
    o + size ≤ cs.length ∧ (if ag then VR g w x (.agg ((us.drop o).take size).toArray) else size = 1 ∧ ∃ u, us[o]? = some u ∧ VR g w x u ∧ x.flat = true) := by
  unfold seg at h
  split at h
  · rename_i hle
    refine ⟨hle, ?_⟩
    split at h
    · rename_i hag
      injection h with h; subst h
      rw [if_pos hag]
      refine .agg _ _ (by simp [hl]) (fun c hc => hf c (List.mem_of_mem_drop (List.mem_of_mem_take hc))) ?_
      intro j c u hc hu
      rw [List.getElem?_take] at hc hu
      split at hc
      · rename_i hj
        simp only [hj, if_true] at hu
        rw [List.getElem?_drop] at hc hu
        exact hv _ c u hc hu
      · cases hc
    · rename_i hag
      rw [if_neg hag]
      split at h
      · rename_i h1
        refine ⟨h1, ?_⟩
        have ho : o < us.length := by omega
        have hoc : o < cs.length := by omega
        rw [List.getElem?_eq_getElem hoc] at h
        injection h with h; subst h
        exact ⟨us[o], List.getElem?_eq_getElem ho, hv o _ _ (List.getElem?_eq_getElem hoc) (List.getElem?_eq_getElem ho), hf _ (List.getElem_mem hoc)⟩
      · cases h
  · cases h
end Go.E3
