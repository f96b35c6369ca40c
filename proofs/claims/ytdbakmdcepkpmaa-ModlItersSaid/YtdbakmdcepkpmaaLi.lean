/- Memory: reading an element, a new object, an object rewritten. -/
import Derived.Test.YtdbakmdcepkpmaaLh
import Derived.Laws.CopyRow
import Derived.Laws.Tables
set_option linter.unusedSimpArgs false
set_option linter.unusedVariables false
namespace Go.E3
open Go.RowKit
section
variable {P : Program} {g : G} {w : World} {h : Hp} {n : Nat}
/-- An element of an object: its cells in the model's world. -/
theorem ObjR.elem {id e sz : Nat} {els : List AV} (ho : ObjR g w id (.arr e sz els)) {i : Nat} {x : AV} (hx : els[i]? = some x) :
    ∃ us : List Value, RowR g w x.cells us ∧ x.cells.length = sz ∧ ∀ j u, us[j]? = some u → w.cell? ⟨(g.ι id).1, (g.ι id).2 + i * sz + j, none⟩ = some u := by
  obtain ⟨cur, hb, hsz, hel⟩ := ho
  obtain ⟨h1, h2, h3⟩ := hel i x hx
  have hi : i < els.length := (List.getElem?_eq_some_iff.1 hx).1
  have hle : (g.ι id).2 + i * sz + sz ≤ cur.size := by
    have : (i + 1) * sz ≤ els.length * sz := Nat.mul_le_mul_right _ hi
    rw [Nat.add_mul] at this; omega
  refine ⟨(cur.toList.drop ((g.ι id).2 + i * sz)).take sz, ⟨by simp; omega, h2, fun j c u hc hu => ?_⟩, h1, fun j u hu => ?_⟩
  · obtain ⟨u', q1, q2⟩ := h3 j c hc
    rw [List.getElem?_take] at hu
    split at hu
    · rw [List.getElem?_drop] at hu
      have : u' = u := by
        have q1' : cur.toList[(g.ι id).2 + i * sz + j]? = some u' := by simpa using q1
        rw [q1'] at hu; injection hu
      rw [← this]; exact q2
    · cases hu
  · rw [cell_of_row w _ _ cur e (0, 0) hb]
    rw [List.getElem?_take] at hu
    split at hu
    · rw [List.getElem?_drop] at hu; simpa using hu
    · cases hu
theorem run_loadVar {t size : Nat} {ag : Bool} (hn : sizeT P t = some size) (hb : aggT P t = some ag) (ad : Addr) (us : List Value) (hl : us.length = size) (hc : ∀ j u, us[j]? = some u → w.cell? (ad.add j) = some u) :
    (loadVar t ad).run P w = if ag then .ok (.agg us.toArray) w else match us with
      | u :: _ => .ok u w
      | [] => (load ad).run P w := by
  unfold loadVar
  rw [Sem.run_bind, run_aggT w hb]
  cases ag
  · simp only [Result.andThen_ok, Bool.false_eq_true, if_false]
    cases us with
    | nil => rfl
    | cons u us =>
      have := hc 0 u rfl
      simp only [Addr.add, if_true] at this
      simp [run_load, this]
  · simp only [Result.andThen_ok, if_true, Sem.run_bind, run_sizeT w hn, ← hl, run_loadCells_list (P := P) w ad us hc, Sem.run_pure]
theorem ldE_sound {t size : Nat} {ag : Bool} (hn : sizeT P t = some size) (hb : aggT P t = some ag) (hr : Rel g w h n) {p v : AV} {u : Value} (hp : VR g w p u) (hv : ldE h p size ag = some v) : Runs P g w (Instr.loadAt t u) v := by
  have key : ∀ (cs : List AV) (us : List Value) (ad : Addr) (o : Nat), RowR g w cs us → (∀ j u, us[j]? = some u → w.cell? (ad.add j) = some u) → ad.spot = none → seg cs o size ag = some v →
      Runs P g w (Instr.loadAt t (.pointer (some (ad.add o)))) v := by
    intro cs us ad o hrow hc hsp hs
    obtain ⟨hle, hseg⟩ := seg_spec hrow.len hrow.flat hrow.rel hs
    have hc' : ∀ j u, ((us.drop o).take size)[j]? = some u → w.cell? ((ad.add o).add j) = some u := by
      intro j u hu
      rw [List.getElem?_take] at hu
      split at hu
      · rw [List.getElem?_drop] at hu
        have := hc _ u hu
        rw [add_zero_ _ hsp] at this ⊢
        rw [add_zero_ _ rfl]; simpa [Nat.add_assoc] using this
      · cases hu
    have hlen : ((us.drop o).take size).length = size := by simp [hrow.len]; omega
    have hrun := run_loadVar (P := P) (w := w) hn hb (ad.add o) _ hlen hc'
    cases ag
    · simp only [Bool.false_eq_true, if_false] at hseg hrun
      obtain ⟨h1, u, hu, hvu, _⟩ := hseg
      refine ⟨u, ?_, hvu⟩
      simp only [Instr.loadAt, Instr.sureAddr, Sem.run_bind, Sem.run_pure, Result.andThen_ok]
      rw [hrun]
      subst h1
      have : (us.drop o).take 1 = [u] := by
        rw [List.take_one]
        rw [List.head?_drop, hu]; rfl
      rw [this]
    · simp only [if_true] at hseg hrun
      refine ⟨_, ?_, hseg⟩
      simp only [Instr.loadAt, Instr.sureAddr, Sem.run_bind, Sem.run_pure, Result.andThen_ok]
      rw [hrun]
  unfold ldE at hv
  split at hv
  · rename_i id sz i o
    split at hv
    · rename_i e sz' els hid
      split at hv
      · rename_i hsz; subst hsz
        split at hv
        · rename_i x hx
          obtain ⟨hA, ho⟩ := hr.live _ _ hid
          obtain ⟨us, hrow, hlen, hc⟩ := ho.elem hx
          cases hp with
          | ptr _ _ _ _ b f _ hi =>
            rw [hi] at hc
            have := key x.cells us ⟨b, f + i * sz, none⟩ o hrow (fun j u hu => by rw [add_zero_ _ rfl]; exact hc j u hu) rfl hv
            rw [add_zero_ _ rfl] at this
            exact this
        · cases hv
      · cases hv
    · cases hv
  · rename_i cs
    cases hp with
    | iptr _ ad us hsp hl him hf hc hv' =>
      have := key cs us ad 0 ⟨hl, hf, hv'⟩ hc hsp hv
      simpa [Addr.add] using this
  · cases hv
/-! ### A new object -/
def G.add (g : G) (id b : Nat) (f : Nat) : G := { ι := fun j => if j = id then (b, f) else g.ι j, im := g.im, A := fun j => g.A j ∨ j = id }
theorem sized_alloc (w : World) (o : Obj) (b m : Nat) (hs : Sized w b m) : Sized (w.alloc o) b m := by
  obtain ⟨cur, e, fr, h1, h2⟩ := hs
  refine ⟨cur, e, fr, ?_, h2⟩
  rw [Below.heap_alloc _ _ _ (Array.getElem?_eq_some_iff.1 h1).1]; exact h1
theorem VR.alloc {nw b f : Nat} (hfresh : ¬ g.A nw) (hr : Rel g w h n) (o : Obj) {v : AV} {u : Value} (hv : VR g w v u) : VR (g.add nw b f) (w.alloc o) v u := by
  refine VR.mono (g := g) (w := w) (g' := g.add nw b f) (w' := w.alloc o) (fun id hA => ⟨Or.inl hA, ?_⟩) (fun b hb => hb) (fun b hb => Below.heap_alloc _ _ _ (hr.blk b hb)) (sized_alloc w o) hv
  show (if id = nw then _ else _) = _
  rw [if_neg (by rintro rfl; exact hfresh hA)]
theorem alloc_obj (hr : Rel g w h n) {nw n0 : Nat} (hfresh : ¬ g.A nw) (hlt : nw < n) (hn0 : n0 ≤ nw) (e sz : Nat) (els : List AV) (cur : Array Value) (hsz : els.length * sz ≤ cur.size)
    (hel : ∀ i x, els[i]? = some x → x.cells.length = sz ∧ (∀ c ∈ x.cells, c.flat = true) ∧ ∀ (j : Nat) (c : AV), x.cells[j]? = some c → ∃ u, cur[i * sz + j]? = some u ∧ VR g w c u) :
    let g' := g.add nw w.heap.size 0
    let w' := w.alloc (.cells cur e)
    Rel g' w' (upd h nw (some (.arr e sz els))) n ∧ Ext g w h n0 g' w' (upd h nw (some (.arr e sz els))) n ∧ (∀ id, g'.A id → g.A id ∨ id = nw) ∧ g'.ι nw = (w.heap.size, 0) ∧ g'.A nw ∧ (∀ v u, VR g w v u → VR g' w' v u) := by
  intro g' w'
  have hι : ∀ id, g.A id → g'.ι id = g.ι id := fun id hA => by
    show (if id = nw then _ else _) = _
    rw [if_neg (by rintro rfl; exact hfresh hA)]
  have hnw : g'.ι nw = (w.heap.size, 0) := by show (if nw = nw then _ else _) = _; rw [if_pos rfl]
  have hvr : ∀ v u, VR g w v u → VR g' w' v u := fun v u hv => hv.alloc hfresh hr _
  have hlv : ∀ id ob, upd h nw (some (AObj.arr e sz els)) id = some ob → (id = nw ∧ ob = .arr e sz els) ∨ (id ≠ nw ∧ h id = some ob) := by
    intro id ob hob
    by_cases hid : id = nw
    · subst hid; rw [upd_same] at hob; injection hob with hob; exact .inl ⟨rfl, hob.symm⟩
    · rw [upd_ne _ _ hid] at hob; exact .inr ⟨hid, hob⟩
  have hblk : ∀ id ob, h id = some ob → (g.ι id).1 < w.heap.size := by
    intro id ob hob
    obtain ⟨_, ho⟩ := hr.live id ob hob
    cases ob with
    | arr e sz els => obtain ⟨cur, hb, _⟩ := ho; exact (Array.getElem?_eq_some_iff.1 hb).1
    | mp t es => exact ho.elim
  refine ⟨⟨?_, ?_, ?_, ?_, ?_⟩, ⟨Nat.le_trans hn0 (Nat.le_of_lt hlt), ?_, rfl, rfl, rfl, by simp [w'], fun id hA => ⟨.inl hA, hι id hA⟩, fun b hb => hb, ?_, ?_, sized_alloc w _, fun _ h => .inl h⟩, fun id hA => hA, hnw, .inr rfl, hvr⟩
  · intro id ob hob
    rcases hlv id ob hob with ⟨rfl, rfl⟩ | ⟨hid, hob⟩
    · refine ⟨.inr rfl, cur, ?_, ?_, ?_⟩
      · rw [hnw]; exact heap_alloc_new w _
      · rw [hnw]; simpa using hsz
      · intro i x hx
        obtain ⟨q1, q2, q3⟩ := hel i x hx
        refine ⟨q1, q2, fun j c hc => ?_⟩
        obtain ⟨u, r1, r2⟩ := q3 j c hc
        exact ⟨u, by rw [hnw]; simpa using r1, hvr _ _ r2⟩
    · obtain ⟨hA, ho⟩ := hr.live id ob hob
      refine ⟨.inl hA, ?_⟩
      cases ob with
      | mp t es => exact ho.elim
      | arr e2 sz2 els2 =>
        obtain ⟨cur2, hb, hs2, he2⟩ := ho
        refine ⟨cur2, ?_, ?_, ?_⟩
        · rw [hι id hA, Below.heap_alloc _ _ _ (Array.getElem?_eq_some_iff.1 hb).1]; exact hb
        · rw [hι id hA]; exact hs2
        · intro i x hx
          obtain ⟨q1, q2, q3⟩ := he2 i x hx
          refine ⟨q1, q2, fun j c hc => ?_⟩
          obtain ⟨u, r1, r2⟩ := q3 j c hc
          exact ⟨u, by rw [hι id hA]; exact r1, hvr _ _ r2⟩
  · intro id id' ob ob' h1 h2 he
    rcases hlv id ob h1 with ⟨e1, _⟩ | ⟨hid, k1⟩ <;> rcases hlv id' ob' h2 with ⟨e2, _⟩ | ⟨hid', k2⟩
    · rw [e1, e2]
    · have := hblk _ _ k2; rw [e1, hnw, hι id' (hr.live _ _ k2).1] at he; simp at he; omega
    · have := hblk _ _ k1; rw [e2, hnw, hι id (hr.live _ _ k1).1] at he; simp at he; omega
    · rw [hι id (hr.live _ _ k1).1, hι id' (hr.live _ _ k2).1] at he
      exact hr.inj _ _ _ _ k1 k2 he
  · intro id ob hob him
    rcases hlv id ob hob with ⟨rfl, rfl⟩ | ⟨hid, hob⟩
    · rw [hnw] at him; have := hr.blk _ him; simp at this
    · rw [hι id (hr.live _ _ hob).1] at him; exact hr.sep _ _ hob him
  · intro b hb; have := hr.blk b hb; simp [w']; omega
  · intro id hA
    rcases hA with hA | rfl
    · exact hr.lt id hA
    · exact hlt
  · intro id hA
    rcases hA with hA | rfl
    · exact .inl hA
    · exact .inr hn0
  · intro id ob hob
    rcases hlv id ob hob with ⟨rfl, rfl⟩ | ⟨hid, hob⟩
    · exact .inr (by rw [hnw]; exact Nat.le_refl _)
    · exact .inl ⟨id, ob, hob, by rw [hι id (hr.live _ _ hob).1]⟩
  · intro b hb _
    exact Below.heap_alloc _ _ _ hb
/-! ### An object rewritten -/
theorem setRow_obj (hr : Rel g w h n) {n0 : Nat} (hn0 : n0 ≤ n) {id e sz : Nat} {els els' : List AV} (hid : h id = some (.arr e sz els)) (cur cur' : Array Value) (hb : w.heap[(g.ι id).1]? = some (.cells cur e (0, 0))) (hcs : cur'.size = cur.size)
    (hsz : (g.ι id).2 + els'.length * sz ≤ cur.size)
    (hel : ∀ i x, els'[i]? = some x → x.cells.length = sz ∧ (∀ c ∈ x.cells, c.flat = true) ∧ ∀ (j : Nat) (c : AV), x.cells[j]? = some c → ∃ u, cur'[(g.ι id).2 + i * sz + j]? = some u ∧ VR g w c u) :
    let w' := w.setRow (g.ι id).1 cur'
    Rel g w' (upd h id (some (.arr e sz els'))) n ∧ Ext g w h n0 g w' (upd h id (some (.arr e sz els'))) n ∧ (∀ v u, VR g w v u → VR g w' v u) := by
  intro w'
  have hother : ∀ k, k ≠ (g.ι id).1 → w'.heap[k]? = w.heap[k]? := fun k hk => setRow_other w _ k cur' hk
  have hsame : w'.heap[(g.ι id).1]? = some (.cells cur' e (0, 0)) := setRow_heap w _ cur cur' e (0, 0) hb
  have hsized : ∀ b m, Sized w b m → Sized w' b m := by
    intro b m ⟨c, e', fr, q1, q2⟩
    by_cases hbb : b = (g.ι id).1
    · subst hbb
      rw [hb] at q1; injection q1 with q1; injection q1 with q1 q3 q4
      exact ⟨cur', e, (0, 0), hsame, by rw [hcs, q1]; exact q2⟩
    · exact ⟨c, e', fr, by rw [hother b hbb]; exact q1, q2⟩
  have hvr : ∀ v u, VR g w v u → VR g w' v u := fun v u hv => hv.mono (fun id hA => ⟨hA, rfl⟩) (fun b hb => hb) (fun b hbm => hother b (by rintro rfl; exact hr.sep _ _ hid hbm)) hsized
  have hlv : ∀ j ob, upd h id (some (AObj.arr e sz els')) j = some ob → (j = id ∧ ob = .arr e sz els') ∨ (j ≠ id ∧ h j = some ob) := by
    intro j ob hob
    by_cases hj : j = id
    · subst hj; rw [upd_same] at hob; injection hob with hob; exact .inl ⟨rfl, hob.symm⟩
    · rw [upd_ne _ _ hj] at hob; exact .inr ⟨hj, hob⟩
  have hlive : ∀ j ob, upd h id (some (AObj.arr e sz els')) j = some ob → ∃ ob0, h j = some ob0 := by
    intro j ob hob
    rcases hlv j ob hob with ⟨rfl, _⟩ | ⟨_, hob⟩
    · exact ⟨_, hid⟩
    · exact ⟨_, hob⟩
  refine ⟨⟨?_, ?_, ?_, ?_, hr.lt⟩, ⟨hn0, fun _ h => .inl h, rfl, rfl, rfl, by simp [w'], fun id hA => ⟨hA, rfl⟩, fun b hb => hb, ?_, ?_, hsized, fun _ h => .inl h⟩, hvr⟩
  · intro j ob hob
    rcases hlv j ob hob with ⟨rfl, rfl⟩ | ⟨hj, hob⟩
    · refine ⟨(hr.live _ _ hid).1, cur', hsame, by rw [hcs]; exact hsz, ?_⟩
      intro i x hx
      obtain ⟨q1, q2, q3⟩ := hel i x hx
      exact ⟨q1, q2, fun k c hc => by obtain ⟨u, r1, r2⟩ := q3 k c hc; exact ⟨u, r1, hvr _ _ r2⟩⟩
    · obtain ⟨hA, ho⟩ := hr.live j ob hob
      refine ⟨hA, ?_⟩
      cases ob with
      | mp t es => exact ho.elim
      | arr e2 sz2 els2 =>
        obtain ⟨cur2, hb2, hs2, he2⟩ := ho
        refine ⟨cur2, ?_, hs2, ?_⟩
        · rw [hother _ (fun he => hj (hr.inj _ _ _ _ hob hid he))]; exact hb2
        · intro i x hx
          obtain ⟨q1, q2, q3⟩ := he2 i x hx
          exact ⟨q1, q2, fun k c hc => by obtain ⟨u, r1, r2⟩ := q3 k c hc; exact ⟨u, r1, hvr _ _ r2⟩⟩
  · intro j j' ob ob' h1 h2 he
    obtain ⟨o1, h1⟩ := hlive _ _ h1
    obtain ⟨o2, h2⟩ := hlive _ _ h2
    exact hr.inj _ _ _ _ h1 h2 he
  · intro j ob hob
    obtain ⟨o1, h1⟩ := hlive _ _ hob
    exact hr.sep _ _ h1
  · intro b hbm; have := hr.blk b hbm; simpa [w'] using this
  · intro j ob hob
    obtain ⟨o1, h1⟩ := hlive _ _ hob
    exact .inl ⟨j, o1, h1, rfl⟩
  · intro b _ hne
    exact hother b (fun he => hne id _ hid he.symm)
end
end Go.E3
