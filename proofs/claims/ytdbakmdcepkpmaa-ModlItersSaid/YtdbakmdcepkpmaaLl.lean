/- Stores and appends. -/
import Derived.Test.YtdbakmdcepkpmaaLk
import Derived.Laws.Append
set_option linter.unusedSimpArgs false
set_option linter.unusedVariables false
namespace Go.E3
open Go.RowKit
section
variable {P : Program} {g : G} {w : World} {s : Nat → AV} {a : Act} {h : Hp} {n n0 nw : Nat}
theorem flat_cells {c : AV} (h : c.flat = true) : c.cells = [c] := by cases c <;> first | rfl | (simp [AV.flat] at h)
theorem repack_cells {x : AV} {cs : List AV} (hx : ∀ c ∈ x.cells, c.flat = true) (hl : cs.length = x.cells.length) (hf : ∀ c ∈ cs, c.flat = true) : (repack x cs).cells = cs := by
  have one : x.cells = [x] → (∀ cs, repack x cs = cs.headD .undef) → (repack x cs).cells = cs := by
    intro h1 h2
    rw [h1] at hl
    obtain ⟨c, rfl⟩ := List.length_eq_one_iff.1 hl
    rw [h2]
    exact flat_cells (hf c (by simp))
  cases x with
  | agg ds => rfl
  | tup ds => simp [AV.cells, AV.flat] at hx
  | _ => exact one rfl (fun _ => rfl)
theorem store_did {t size : Nat} {p v : AV} {u uv : Value} {h' : Hp} (hr : Rel g w h n) (hn0 : n0 ≤ n) (ht : sizeT P t = some size) (hp : VR g w p u) (hv : VR g w v uv) (hs : stE h p v size = some h') :
    Did P g w h n n0 nw (do Instr.storeAt t u uv; pure .skip) .undef h' := by
  unfold stE at hs
  split at hs
  · rename_i id sz i o
    split at hs
    · rename_i e sz' els hid
      split at hs
      · rename_i hcond
        obtain ⟨rfl, hvl, hvf⟩ := hcond
        split at hs
        · rename_i x hx
          split at hs
          · rename_i hle
            injection hs with hs; subst hs
            obtain ⟨hA, ho⟩ := hr.live _ _ hid
            obtain ⟨cur, hb, hsz, hel⟩ := ho
            obtain ⟨us, huc, hrow⟩ := RowR.of_cells hv hvf
            obtain ⟨x1, x2, x3⟩ := hel i x hx
            have hi : i < els.length := (List.getElem?_eq_some_iff.1 hx).1
            have hmul : (i + 1) * sz ≤ els.length * sz := Nat.mul_le_mul_right _ hi
            rw [Nat.add_mul] at hmul
            have hul : us.length = size := by rw [hrow.len, hvl]
            cases hp with
            | ptr _ _ _ _ b f _ hi2 =>
              rw [hi2] at hb hsz hel x3
              have hb1 : (g.ι id).1 = b := by rw [hi2]
              have hb2 : (g.ι id).2 = f := by rw [hi2]
              have hst := run_storeCells_at P b (f + i * sz + o) e us 0 cur w hb (by simp only [Nat.add_zero]; simp only at hsz; omega) hrow.one
              simp only [Nat.add_zero] at hst
              have hlen : (cur.toList.take (f + i * sz + o) ++ us ++ cur.toList.drop (f + i * sz + o + us.length)).toArray.size = cur.size := by
                simp only at hsz
                simp; omega
              have hget : ∀ k, (cur.toList.take (f + i * sz + o) ++ us ++ cur.toList.drop (f + i * sz + o + us.length)).toArray[k]? = if k < f + i * sz + o then cur[k]? else if k < f + i * sz + o + us.length then us[k - (f + i * sz + o)]? else cur[k]? := by
                intro k
                simp only at hsz
                have htl : (cur.toList.take (f + i * sz + o)).length = f + i * sz + o := by simp; omega
                rw [List.getElem?_toArray, List.append_assoc]
                split
                · rename_i hk
                  rw [List.getElem?_append_left (by omega), List.getElem?_take, if_pos hk]; simp
                · rename_i hk
                  rw [List.getElem?_append_right (by omega), htl]
                  split
                  · rename_i hk2
                    rw [List.getElem?_append_left (by omega)]
                  · rename_i hk2
                    rw [List.getElem?_append_right (by omega), List.getElem?_drop]
                    rw [show f + i * sz + o + us.length + (k - (f + i * sz + o) - us.length) = k by omega]; simp
              obtain ⟨q1, q2, q3⟩ := setRow_obj (g := g) (w := w) hr (n0 := n0) hn0 (els' := els.set i (repack x (splice x.cells o v.cells))) hid cur _ (by rw [hb1]; exact hb) hlen (by rw [hb2]; simpa using hsz) (by
                intro k y hy
                rw [hb2]
                rw [List.getElem?_set] at hy
                by_cases hki : i = k
                · subst hki
                  simp only [if_true, hi] at hy
                  injection hy with hy; subst hy
                  have hsf : ∀ c ∈ splice x.cells o v.cells, c.flat = true := fun c hc => by
                    simp only [splice, List.mem_append] at hc
                    rcases hc with (hc | hc) | hc
                    · exact x2 c (List.mem_of_mem_take hc)
                    · exact List.all_eq_true.1 hvf c hc
                    · exact x2 c (List.mem_of_mem_drop hc)
                  have hyc := repack_cells x2 (cs := splice x.cells o v.cells) (by simp [splice]; omega) hsf
                  rw [hyc]
                  refine ⟨by simp [splice]; omega, hsf, fun j c hc => ?_⟩
                  · have htl : (x.cells.take o).length = o := by simp; omega
                    simp only [splice, List.append_assoc] at hc
                    rw [hget]
                    by_cases hj1 : j < o
                    · rw [List.getElem?_append_left (by omega), List.getElem?_take, if_pos hj1] at hc
                      rw [if_pos (by omega)]
                      exact x3 j c hc
                    · rw [List.getElem?_append_right (by omega), htl] at hc
                      rw [if_neg (by omega)]
                      by_cases hj2 : j < o + size
                      · rw [List.getElem?_append_left (by omega)] at hc
                        rw [if_pos (by omega)]
                        obtain ⟨u', r1, r2⟩ := hrow.get hc
                        exact ⟨u', by rw [← r1]; congr 1; omega, r2⟩
                      · rw [List.getElem?_append_right (by omega), List.getElem?_drop] at hc
                        rw [if_neg (by omega)]
                        have : o + v.cells.length + (j - o - v.cells.length) = j := by omega
                        rw [this] at hc
                        exact x3 j c hc
                · rw [if_neg hki] at hy
                  obtain ⟨y1, y2, y3⟩ := hel k y hy
                  refine ⟨y1, y2, fun j c hc => ?_⟩
                  obtain ⟨u', r1, r2⟩ := y3 j c hc
                  have hj : j < sz := by rw [← y1]; exact (List.getElem?_eq_some_iff.1 hc).1
                  refine ⟨u', ?_, r2⟩
                  rw [hget]
                  rcases Nat.lt_or_gt_of_ne hki with hlt | hgt
                  · have : (i + 1) * sz ≤ k * sz := Nat.mul_le_mul_right _ hlt
                    rw [Nat.add_mul] at this
                    rw [if_neg (by omega), if_neg (by omega)]; exact r1
                  · have : (k + 1) * sz ≤ i * sz := Nat.mul_le_mul_right _ hgt
                    rw [Nat.add_mul] at this
                    rw [if_pos (by omega)]; exact r1)
              refine ⟨g, _, undef, .skip, ?_, .inr ⟨rfl, rfl⟩, VR.undef _ _, q1, q2, fun id hA => .inl hA⟩
              rw [hb1]
              simp only [Instr.storeAt, Instr.sureAddr, storeVar, Sem.run_bind, Sem.run_pure, Result.andThen_ok, run_sizeT w ht, huc, List.size_toArray]
              simp [hul, hst]
          · cases hs
        · cases hs
      · cases hs
    · cases hs
  · cases hs
end
end Go.E3
