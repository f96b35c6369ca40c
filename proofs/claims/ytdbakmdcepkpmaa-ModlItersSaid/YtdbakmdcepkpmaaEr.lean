/- What an iterator keeps, whatever else is done. -/
import Derived.Test.YtdbakmdcepkpmaaEq
set_option linter.unusedSimpArgs false
set_option linter.unusedVariables false
namespace Go.Proofs.Ytdbakmdcepkpmaa
open Go.E3
def isId (id : Int) (x : Iter) : Bool := decide (x.id = id)
theorem find_erase {a id : Int} (hne : a ≠ id) : ∀ (l : List Iter) (i : Nat), l.findIdx? (isId a) = some i → (l.eraseIdx i).find? (isId id) = l.find? (isId id)
  | [], _, h => by simp at h
  | x :: l, i, h => by
    rw [List.findIdx?_cons] at h
    by_cases hx : x.id = a
    · have hx2 : isId id x = false := by simp [isId]; omega
      simp [isId, hx] at h
      subst h
      simp [List.find?_cons, hx2]
    · simp [isId, hx] at h
      obtain ⟨j, hj, rfl⟩ := h
      have := find_erase hne l j hj
      simp [List.find?_cons, this]
theorem find_set {a id : Int} (hne : a ≠ id) : ∀ (l : List Iter) (i : Nat) (y : Iter), y.id = a → l.findIdx? (isId a) = some i → (l.set i y).find? (isId id) = l.find? (isId id)
  | [], _, _, _, h => by simp at h
  | x :: l, i, y, hy, h => by
    rw [List.findIdx?_cons] at h
    by_cases hx : x.id = a
    · have hx2 : isId id x = false := by simp [isId]; omega
      have hy2 : isId id y = false := by simp [isId]; omega
      simp [isId, hx] at h
      subst h
      simp [List.find?_cons, hx2, hy2]
    · simp [isId, hx] at h
      obtain ⟨j, hj, rfl⟩ := h
      have := find_set hne l j y hy hj
      simp [List.find?_cons, this]
theorem find_mine {id : Int} : ∀ (l : List Iter) (i : Nat), l.findIdx? (isId id) = some i → ∃ x, l[i]? = some x ∧ x.id = id ∧ l.find? (isId id) = some x ∧ ∀ y : Iter, y.id = id → (l.set i y).find? (isId id) = some y
  | [], _, h => by simp at h
  | x :: l, i, h => by
    rw [List.findIdx?_cons] at h
    by_cases hx : x.id = id
    · simp [isId, hx] at h
      subst h
      exact ⟨x, rfl, hx, by simp [List.find?_cons, isId, hx], fun y hy => by simp [List.find?_cons, isId, hy]⟩
    · simp [isId, hx] at h
      obtain ⟨j, hj, rfl⟩ := h
      obtain ⟨z, h1, h2, h3, h4⟩ := find_mine l j hj
      have hx2 : isId id x = false := by simp [isId, hx]
      exact ⟨z, by simpa using h1, h2, by simp [List.find?_cons, hx2, h3], fun y hy => by simp [List.find?_cons, hx2, h4 y hy]⟩
theorem find_some_idx {id : Int} {x : Iter} : ∀ {l : List Iter}, l.find? (isId id) = some x → ∃ i, l.findIdx? (isId id) = some i
  | [], h => by simp at h
  | y :: l, h => by
    by_cases hy : isId id y = true
    · exact ⟨0, by rw [List.findIdx?_cons, if_pos hy]⟩
    · rw [List.find?_cons] at h
      simp only [Bool.not_eq_true] at hy
      rw [hy] at h
      obtain ⟨i, hi⟩ := find_some_idx h
      exact ⟨i + 1, by rw [List.findIdx?_cons, if_neg (by simp [hy]), hi]; rfl⟩
/-- The iterator 'id' is there, and has yet to tell R; no number is used twice. -/
structure Has (m : Model) (id : Int) (R : List Sample) : Prop where
  it : m.iters.find? (isId id) = some ⟨id, R⟩
  le : id ≤ m.next
/-- No iterator's number is beyond the last. -/
def IdLe (m : Model) : Prop := ∀ x ∈ m.iters, x.id ≤ m.next
theorem serDo_its (m : Model) (o : Op) : ((serDo m o).1.iters = m.iters ∧ (serDo m o).1.next = m.next) ∨ ∃ R, (serDo m o).1.iters = m.iters ++ [⟨m.next + 1, R⟩] ∧ (serDo m o).1.next = m.next + 1 := by
  unfold serDo
  simp only
  repeat' split
  all_goals first | exact .inl ⟨rfl, rfl⟩ | exact .inr ⟨_, rfl, rfl⟩
theorem modDo_its (m : Model) (o : Op) : (modDo m o).1.iters = m.iters ∧ (modDo m o).1.next = m.next ∨ (modDo m o).1.iters = (itDo m.iters o).1 ∧ (modDo m o).1.next = m.next ∨ ∃ R, (modDo m o).1.iters = m.iters ++ [⟨m.next + 1, R⟩] ∧ (modDo m o).1.next = m.next + 1 := by
  unfold modDo
  split
  · exact .inl ⟨rfl, rfl⟩
  · split
    · unfold modStep
      split
      · exact .inr (.inl ⟨rfl, rfl⟩)
      · rcases serDo_its m o with h | h
        · exact .inl h
        · exact .inr (.inr h)
    · exact .inl ⟨rfl, rfl⟩
theorem itDo_ids (l : List Iter) (o : Op) (n : Int) (h : ∀ x ∈ l, x.id ≤ n) : ∀ x ∈ (itDo l o).1, x.id ≤ n := by
  unfold itDo
  split
  · exact h
  · split
    · exact h
    · rename_i x hx
      split
      · exact fun y hy => h y (List.mem_of_mem_eraseIdx hy)
      · intro y hy
        rcases List.mem_or_eq_of_mem_set hy with q | q
        · exact h y q
        · subst q; exact h x (List.mem_of_getElem? hx)
theorem IdLe.step {m : Model} (h : IdLe m) (o : Op) : IdLe (modDo m o).1 := by
  unfold IdLe
  rcases modDo_its m o with ⟨e1, e2⟩ | ⟨e1, e2⟩ | ⟨R, e1, e2⟩
  · rw [e1, e2]; exact h
  · rw [e1, e2]; exact itDo_ids _ _ _ h
  · rw [e1, e2]
    intro x hx
    rcases List.mem_append.1 hx with q | q
    · have := h x q; omega
    · rw [List.mem_singleton.1 q]; exact Int.le_refl _
theorem it_other {l : List Iter} {o : Op} {id : Int} (h : o.iter ≠ id) : (itDo l o).1.find? (isId id) = l.find? (isId id) := by
  unfold itDo
  split
  · rfl
  · rename_i i hi
    split
    · rfl
    · rename_i x hx
      split
      · exact find_erase h l i hi
      · obtain ⟨z, h1, h2, _⟩ := find_mine l i hi
        rw [hx] at h1; injection h1 with h1; subst h1
        exact find_set h l i _ h2 hi
theorem Has.other {m : Model} {id : Int} {R : List Sample} (h : Has m id R) {o : Op} (ho : o.iter ≠ id) : Has (modDo m o).1 id R := by
  have h1 := h.it
  have h2 := h.le
  rcases modDo_its m o with ⟨e1, e2⟩ | ⟨e1, e2⟩ | ⟨Q, e1, e2⟩
  · exact ⟨by rw [e1]; exact h1, by rw [e2]; exact h2⟩
  · exact ⟨by rw [e1, it_other ho]; exact h1, by rw [e2]; exact h2⟩
  · exact ⟨by rw [e1, List.find?_append, h1]; rfl, by rw [e2]; omega⟩
/-- What the next step of an iterator tells. -/
theorem Has.next {m : Model} {id : Int} {R : List Sample} (h : Has m id R) {q : Nat} (hq1 : 1 ≤ q) (hq2 : q ≤ 1000) :
    modDo m ⟨6, 0, id, 0, 0, 0, 0, q⟩ = ((modDo m ⟨6, 0, id, 0, 0, 0, 0, q⟩).1, ⟨0, 0, R.take q⟩) ∧ Has (modDo m ⟨6, 0, id, 0, 0, 0, 0, q⟩).1 id (R.drop q) := by
  obtain ⟨i, hi⟩ := find_some_idx h.it
  obtain ⟨x, h1, h2, h3, h4⟩ := find_mine m.iters i hi
  rw [h.it] at h3
  injection h3 with h3
  subst h3
  have hn : nextN ⟨6, 0, id, 0, 0, 0, 0, q⟩ R = min q R.length := by simp only [nextN]; omega
  have ht : R.take (min q R.length) = R.take q := by rw [List.take_eq_take_iff]; omega
  have hd : R.drop (min q R.length) = R.drop q := by
    rcases Nat.le_total q R.length with e | e
    · rw [Nat.min_eq_left e]
    · rw [Nat.min_eq_right e, List.drop_length, List.drop_eq_nil_of_le e]
  have hi' : m.iters.findIdx? (fun x => decide (x.id = id)) = some i := hi
  have e : modDo m ⟨6, 0, id, 0, 0, 0, 0, q⟩ = ({ m with iters := m.iters.set i ⟨id, R.drop q⟩ }, ⟨0, 0, R.take q⟩) := by
    simp [modDo, bad, modStep, itM, itDo, hi', h1, hn, ht, hd]
  rw [e]
  exact ⟨rfl, ⟨h4 _ rfl, h.le⟩⟩
end Go.Proofs.Ytdbakmdcepkpmaa
