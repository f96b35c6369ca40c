/- Rows of elements. -/
import Derived.Test.YtdbakmdcepkpmaaLi
set_option linter.unusedSimpArgs false
set_option linter.unusedVariables false
namespace Go.E3
open Go.RowKit
/-- Elements, cell by cell, as a row of values. -/
structure Els (g : G) (w : World) (sz : Nat) (ys : List AV) (us : List Value) : Prop where
  len : us.length = ys.length * sz
  el : ∀ (i : Nat) (x : AV), ys[i]? = some x → x.cells.length = sz ∧ (∀ c ∈ x.cells, AV.flat c = true) ∧ ∀ (j : Nat) (c : AV), x.cells[j]? = some c → ∃ u, us[i * sz + j]? = some u ∧ VR g w c u
section
variable {g : G} {w : World} {h : Hp} {n sz : Nat}
theorem Els.nil : Els g w sz [] [] := ⟨by simp, fun i x hx => by simp at hx⟩
theorem Els.append {ys zs : List AV} {us vs : List Value} (a : Els g w sz ys us) (b : Els g w sz zs vs) : Els g w sz (ys ++ zs) (us ++ vs) where
  len := by simp [a.len, b.len, Nat.add_mul]
  el := fun i x hx => by
    rw [List.getElem?_append] at hx
    split at hx
    · rename_i hi
      obtain ⟨q1, q2, q3⟩ := a.el i x hx
      refine ⟨q1, q2, fun j c hc => ?_⟩
      obtain ⟨u, r1, r2⟩ := q3 j c hc
      exact ⟨u, by rw [List.getElem?_append_left (List.getElem?_eq_some_iff.1 r1).1]; exact r1, r2⟩
    · rename_i hi
      obtain ⟨q1, q2, q3⟩ := b.el _ x hx
      refine ⟨q1, q2, fun j c hc => ?_⟩
      obtain ⟨u, r1, r2⟩ := q3 j c hc
      refine ⟨u, ?_, r2⟩
      have e : i * sz + j = us.length + ((i - ys.length) * sz + j) := by
        rw [a.len]
        have : i = ys.length + (i - ys.length) := by omega
        conv => lhs; rw [this, Nat.add_mul]
        omega
      rw [e, List.getElem?_append_right (by omega), Nat.add_sub_cancel_left]
      exact r1
theorem Els.take {ys : List AV} {us : List Value} (a : Els g w sz ys us) (k : Nat) : Els g w sz (ys.take k) (us.take (k * sz)) where
  len := by
    simp only [List.length_take, a.len]
    rcases Nat.le_total k ys.length with hk | hk
    · rw [Nat.min_eq_left hk, Nat.min_eq_left (Nat.mul_le_mul_right _ hk)]
    · rw [Nat.min_eq_right hk, Nat.min_eq_right (Nat.mul_le_mul_right _ hk)]
  el := fun i x hx => by
    rw [List.getElem?_take] at hx
    split at hx
    · rename_i hi
      obtain ⟨q1, q2, q3⟩ := a.el i x hx
      refine ⟨q1, q2, fun j c hc => ?_⟩
      obtain ⟨u, r1, r2⟩ := q3 j c hc
      have hj : j < sz := by rw [← q1]; exact (List.getElem?_eq_some_iff.1 hc).1
      have : (i + 1) * sz ≤ k * sz := Nat.mul_le_mul_right _ hi
      rw [Nat.add_mul] at this
      exact ⟨u, by rw [List.getElem?_take, if_pos (by omega)]; exact r1, r2⟩
    · cases hx
theorem Els.drop {ys : List AV} {us : List Value} (a : Els g w sz ys us) (k : Nat) : Els g w sz (ys.drop k) (us.drop (k * sz)) where
  len := by simp only [List.length_drop, a.len, Nat.sub_mul]
  el := fun i x hx => by
    rw [List.getElem?_drop] at hx
    obtain ⟨q1, q2, q3⟩ := a.el _ x hx
    refine ⟨q1, q2, fun j c hc => ?_⟩
    obtain ⟨u, r1, r2⟩ := q3 j c hc
    refine ⟨u, ?_, r2⟩
    rw [List.getElem?_drop]
    rw [Nat.add_mul] at r1
    rw [← Nat.add_assoc]; exact r1
theorem Els.one {ys : List AV} {us : List Value} (a : Els g w sz ys us) : ∀ u ∈ us, u.oneCell' = true := by
  intro u hu
  obtain ⟨k, hk, rfl⟩ := List.mem_iff_getElem.1 hu
  rw [a.len] at hk
  have hsz : 0 < sz := by
    rcases Nat.eq_zero_or_pos sz with h0 | h0
    · subst h0; simp at hk
    · exact h0
  have hi : k / sz < ys.length := Nat.div_lt_of_lt_mul (by rw [Nat.mul_comm]; exact hk)
  obtain ⟨q1, q2, q3⟩ := a.el (k / sz) ys[k / sz] (List.getElem?_eq_getElem hi)
  have hj : k % sz < (ys[k / sz]).cells.length := by rw [q1]; exact Nat.mod_lt _ hsz
  obtain ⟨u', r1, r2⟩ := q3 (k % sz) _ (List.getElem?_eq_getElem hj)
  have e : k / sz * sz + k % sz = k := by rw [Nat.mul_comm]; exact Nat.div_add_mod k sz
  rw [e, List.getElem?_eq_getElem (by rw [a.len]; exact hk)] at r1
  injection r1 with r1
  rw [r1]
  exact r2.oneCell (q2 _ (List.getElem_mem hj))
theorem Els.mono {g' : G} {w' : World} {ys : List AV} {us : List Value} (a : Els g w sz ys us) (hv : ∀ v u, VR g w v u → VR g' w' v u) : Els g' w' sz ys us where
  len := a.len
  el := fun i x hx => by
    obtain ⟨q1, q2, q3⟩ := a.el i x hx
    exact ⟨q1, q2, fun j c hc => by obtain ⟨u, r1, r2⟩ := q3 j c hc; exact ⟨u, r1, hv _ _ r2⟩⟩
theorem flatten_get : ∀ (us : List (List Value)) (i j : Nat) (ul : List Value), (∀ l ∈ us, l.length = sz) → us[i]? = some ul → j < sz → us.flatten[i * sz + j]? = ul[j]?
  | [], i, j, ul, _, h, _ => by simp at h
  | l :: us, 0, j, ul, hl, h, hj => by
    simp at h; subst h
    simp only [List.flatten_cons, Nat.zero_mul, Nat.zero_add]
    rw [List.getElem?_append_left (by rw [hl l (by simp)]; exact hj)]
  | l :: us, i + 1, j, ul, hl, h, hj => by
    simp only [List.flatten_cons]
    have e : (i + 1) * sz + j = l.length + (i * sz + j) := by rw [hl l (by simp), Nat.add_mul]; omega
    rw [e, List.getElem?_append_right (by omega), Nat.add_sub_cancel_left]
    exact flatten_get us i j ul (fun l hl' => hl l (by simp [hl'])) (by simpa using h) hj
theorem flatten_len (us : List (List Value)) (hl : ∀ l ∈ us, l.length = sz) : us.flatten.length = us.length * sz := by
  induction us with
  | nil => simp
  | cons l us ih => simp only [List.flatten_cons, List.length_append, List.length_cons, hl l (by simp), ih (fun l h => hl l (by simp [h])), Nat.add_mul]; omega
/-- An object's elements, and its whole row. -/
theorem ObjR.els {id e : Nat} {els : List AV} (ho : ObjR g w id (.arr e sz els)) : ∃ cur, w.heap[(g.ι id).1]? = some (.cells cur e (0, 0)) ∧ (g.ι id).2 + els.length * sz ≤ cur.size ∧
    Els g w sz els ((cur.toList.drop (g.ι id).2).take (els.length * sz)) := by
  obtain ⟨cur, hb, hsz, hel⟩ := ho
  refine ⟨cur, hb, hsz, by simp; omega, fun i x hx => ?_⟩
  obtain ⟨q1, q2, q3⟩ := hel i x hx
  refine ⟨q1, q2, fun j c hc => ?_⟩
  obtain ⟨u, r1, r2⟩ := q3 j c hc
  refine ⟨u, ?_, r2⟩
  have hj : j < sz := by rw [← q1]; exact (List.getElem?_eq_some_iff.1 hc).1
  have hi : i < els.length := (List.getElem?_eq_some_iff.1 hx).1
  have : (i + 1) * sz ≤ els.length * sz := Nat.mul_le_mul_right _ hi
  rw [Nat.add_mul] at this
  rw [List.getElem?_take, if_pos (by omega), List.getElem?_drop, ← Nat.add_assoc]
  simpa using r1
theorem elems_sound {v : AV} {u : Value} {ys : List AV} (hr : Rel g w h n) (hv : VR g w v u) (he : elems h v sz = some ys) :
    ∃ A c us, u = .slice A ys.length c ∧ Els g w sz ys us ∧ (∀ ad, A = some ad → ad.spot = none ∧ ∀ j u, us[j]? = some u → w.cell? (ad.add j) = some u) ∧ (A = none → ys = []) := by
  unfold elems at he
  split at he
  · rename_i nl ex xs
    split at he
    · rename_i hall
      injection he with he; subst he
      have hall' : ∀ x ∈ xs, x.cells.length = sz := by simpa using hall
      cases hv with
      | isl _ _ _ sz0 A c us hl h1 h2 h3 h4 hs hc hx hv' =>
        have hlen : ∀ l ∈ us, l.length = sz := by
          intro l hl'
          obtain ⟨k, hk, rfl⟩ := List.mem_iff_getElem.1 hl'
          have hk' : k < xs.length := by omega
          obtain ⟨q1, _⟩ := hx k _ _ (List.getElem?_eq_getElem hk') (List.getElem?_eq_getElem hk)
          rw [← q1]; exact hall' _ (List.getElem_mem hk')
        refine ⟨A, c, us.flatten, rfl, ⟨by rw [flatten_len us hlen, hl], fun i x hxi => ?_⟩, fun ad hA => ⟨(hs ad hA).1, fun j u hj => ?_⟩, fun hA => ?_⟩
        · have hi : i < us.length := by rw [hl]; exact (List.getElem?_eq_some_iff.1 hxi).1
          obtain ⟨q1, q2⟩ := hx i x _ hxi (List.getElem?_eq_getElem hi)
          refine ⟨hall' _ (List.mem_of_getElem? hxi), q2, fun j c hcj => ?_⟩
          have hj : j < sz := by rw [← hall' _ (List.mem_of_getElem? hxi)]; exact (List.getElem?_eq_some_iff.1 hcj).1
          have hju : j < (us[i]).length := by rw [hlen _ (List.getElem_mem hi)]; exact hj
          exact ⟨us[i][j], by rw [flatten_get us i j us[i] hlen (List.getElem?_eq_getElem hi) hj, List.getElem?_eq_getElem hju], hv' i x _ hxi (List.getElem?_eq_getElem hi) j c _ hcj (List.getElem?_eq_getElem hju)⟩
        · have hj' := (List.getElem?_eq_some_iff.1 hj).1
          rw [flatten_len us hlen] at hj'
          have hsz : 0 < sz := by
            rcases Nat.eq_zero_or_pos sz with h0 | h0
            · subst h0; simp at hj'
            · exact h0
          have hi : j / sz < us.length := Nat.div_lt_of_lt_mul (by rw [Nat.mul_comm]; exact hj')
          have e : j / sz * sz + j % sz = j := by rw [Nat.mul_comm]; exact Nat.div_add_mod j sz
          have hm := Nat.mod_lt j hsz
          obtain ⟨q1, q2⟩ := hc (j / sz) _ (List.getElem?_eq_getElem hi)
          have hs0 : sz0 = sz := by rw [← q1]; exact hlen _ (List.getElem_mem hi)
          have := q2 ad hA (j % sz) u (by rw [← flatten_get us (j / sz) (j % sz) _ hlen (List.getElem?_eq_getElem hi) hm, e]; exact hj)
          rw [hs0, e] at this
          exact this
        · have := h4 hA
          exact List.length_eq_zero_iff.1 (by omega)
    · cases he
  · rename_i id sz' off len cap ex
    split at he
    · rename_i e sz2 els hid
      split at he
      · rename_i hcond
        obtain ⟨rfl, rfl, hle⟩ := hcond
        injection he with he; subst he
        obtain ⟨hA, ho⟩ := hr.live _ _ hid
        obtain ⟨cur, hb, hsz, hels⟩ := ho.els
        cases hv with
        | sl _ _ _ _ _ _ b f c _ hi h1 h2 h3 hz =>
          rw [hi] at hb hsz hels
          have hlen : ((els.drop off).take len).length = len := by simp; omega
          have hel := (hels.drop off).take len
          refine ⟨some ⟨b, f + off * sz, none⟩, c, _, by rw [hlen], hel, fun ad had => ?_, fun q => by cases q⟩
          injection had with had; subst had
          refine ⟨rfl, fun j u hj => ?_⟩
          rw [add_zero_ _ rfl, cell_of_row w _ _ cur e (0, 0) hb]
          rw [List.getElem?_take] at hj
          split at hj
          · rw [List.getElem?_drop, List.getElem?_take] at hj
            split at hj
            · rw [List.getElem?_drop] at hj
              simpa [Nat.add_assoc] using hj
            · cases hj
          · cases hj
      · cases he
    · cases he
  · cases he
end
end Go.E3
