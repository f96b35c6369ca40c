/- The builtin append, whole. -/
import Derived.Test.YtdbakmdcepkpmaaLm
set_option linter.unusedSimpArgs false
set_option linter.unusedVariables false
namespace Go.E3
open Go.RowKit
section
variable {P : Program} {g : G} {w : World} {s : Nat → AV} {a : Act} {h : Hp} {n n0 nw : Nat}
theorem VR.heap {w1 : World} (e1 : w1.heap = w.heap) {v : AV} {u : Value} (hv : VR g w v u) : VR g w1 v u :=
  VR.mono (g := g) (w := w) (g' := g) (w' := w1) (fun _ h => ⟨h, rfl⟩) (fun _ h => h) (fun b _ => by rw [e1]) (fun b m ⟨q1, q2, q3, q4, q5⟩ => ⟨q1, q2, q3, by rw [e1]; exact q4, q5⟩) hv
theorem Rel.heap {w1 : World} (hr : Rel g w h n) (e1 : w1.heap = w.heap) : Rel g w1 h n := by
  refine ⟨fun id ob hob => ?_, hr.inj, hr.sep, fun b hb => by rw [e1]; exact hr.blk b hb, hr.lt⟩
  obtain ⟨q1, q2⟩ := hr.live id ob hob
  refine ⟨q1, ?_⟩
  cases ob with
  | mp t es => exact q2.elim
  | arr e2 sz2 els2 =>
    obtain ⟨cur2, hb2, hs2, he2⟩ := q2
    refine ⟨cur2, by rw [e1]; exact hb2, hs2, fun i x hx => ?_⟩
    obtain ⟨p1, p2, p3⟩ := he2 i x hx
    exact ⟨p1, p2, fun j c hc => by obtain ⟨u, r1, r2⟩ := p3 j c hc; exact ⟨u, r1, r2.heap e1⟩⟩
theorem Ext.heap {w1 : World} {h2 : Hp} (hsub : ∀ id ob, h2 id = some ob → h id = some ob) (e1 : w1.heap = w.heap) (e2 : w1.os = w.os) (e3 : w1.tape = w.tape) (e4 : w1.output = w.output) : Ext g w h n0 g w1 h2 n0 :=
  ⟨Nat.le_refl _, fun _ h => .inl h, e2, e3, e4, by rw [e1]; exact Nat.le_refl _, fun _ h => ⟨h, rfl⟩, fun _ h => h, fun j ob hj => .inl ⟨j, ob, hsub _ _ hj, rfl⟩, fun _ _ _ => by rw [e1], fun b m ⟨q1, q2, q3, q4, q5⟩ => ⟨q1, q2, q3, by rw [e1]; exact q4, q5⟩, fun _ h => .inl h⟩
theorem upd_none_sub (h : Hp) (id : Nat) : ∀ j ob, upd h id none j = some ob → h j = some ob := by
  intro j ob hj
  by_cases hji : j = id
  · subst hji; rw [upd_same] at hj; cases hj
  · rw [upd_ne _ _ hji] at hj; exact hj
theorem upd_upd {α : Type} (f : Nat → α) (i : Nat) (x y : α) : upd (upd f i x) i y = upd f i y := by
  funext j; unfold upd; split <;> rfl
theorem splice_row (cur : List Value) (f L k k2 : Nat) (news : List Value) (hf : f + L ≤ cur.length) (hk : k ≤ L) (hk2 : k2 ≤ L) :
    cur.take (f + k) ++ news ++ cur.drop (f + k2) = cur.take f ++ (((cur.drop f).take L).take k ++ news ++ ((cur.drop f).take L).drop k2) ++ (cur.drop f).drop L := by
  have hD : cur.drop f = (cur.drop f).take L ++ (cur.drop f).drop L := (List.take_append_drop L _).symm
  have hl : ((cur.drop f).take L).length = L := by simp; omega
  have e1 : cur.take (f + k) = cur.take f ++ ((cur.drop f).take L).take k := by
    rw [List.take_add, List.take_take, Nat.min_eq_left hk]
  have e2 : cur.drop (f + k2) = ((cur.drop f).take L).drop k2 ++ (cur.drop f).drop L := by
    rw [← List.drop_drop]
    conv => lhs; rw [hD]
    rw [List.drop_append_of_le_length (by omega)]
  rw [e1, e2]
  simp only [List.append_assoc]
/-- An append that made a new array. -/
theorem grown_did {e sz m cap : Nat} {xs : List AV} {row rest : List Value} {h2 : Hp} {md : Sem Value} (hr : Rel g w h2 n) (hsub : ∀ id ob, h2 id = some ob → h id = some ob) (hfresh : ¬ g.A nw) (hlt : nw < n) (hn0 : n0 ≤ nw)
    (hx : Els g w sz xs row) (hm : xs.length = m) (hcap : m ≤ cap) (hrest : rest.length = (cap - m) * sz) {w1 : World} (e1 : w1.heap = w.heap) (e2 : w1.os = w.os) (e3 : w1.tape = w.tape) (e4 : w1.output = w.output)
    (hrun : md.run P w = .ok (.slice (some ⟨w.heap.size, 0, none⟩) m cap) (w1.alloc (.cells (row ++ rest).toArray e))) :
    Did P g w h n n0 nw (do pure (.value (← md))) (.sl nw sz 0 m m false) (upd h2 nw (some (.arr e sz xs))) := by
  have hn : n0 ≤ n := Nat.le_trans hn0 (Nat.le_of_lt hlt)
  have hx1 : Els g w1 sz xs row := hx.mono (fun v u hv => hv.heap e1)
  have hobj := alloc_obj (g := g) (w := w1) (hr.heap e1) hfresh hlt hn0 e sz xs (row ++ rest).toArray (by simp [hx.len]) (fun i x hxi => by
    have := hx1.obj [] rest 0 rfl i x hxi
    simpa using this)
  obtain ⟨k1, k2, k3, k4, k5, _⟩ := hobj
  have hsz : w1.heap.size = w.heap.size := by rw [e1]
  refine ⟨_, _, .slice (some ⟨w.heap.size, 0, none⟩) m cap, .value (.slice (some ⟨w.heap.size, 0, none⟩) m cap), by simp [hrun], .inl rfl, ?_, k1, (Ext.heap hsub e1 e2 e3 e4).trans k2, k3⟩
  · have := VR.sl (g := g.add nw w1.heap.size 0) (w := w1.alloc (.cells (row ++ rest).toArray e)) nw sz 0 m m false w1.heap.size 0 cap k5 k4 (Nat.le_refl _) hcap (fun q => by cases q)
      ⟨(row ++ rest).toArray, e, (0, 0), heap_alloc_new w1 _, by
        simp only [List.size_toArray, List.length_append, hx.len, hrest, hm, Nat.zero_add]
        rw [← Nat.add_mul]; exact Nat.mul_le_mul_right _ (by omega)⟩
    rw [hsz] at this ⊢
    simpa using this
theorem app_did {t e ty : TypeId} {i : TypeInfo} {z : Value} (ht : P.underlying t = some (.slice e)) (hi : P.info? e = some i) (hz : i.zero = some z) (hzs : z.cells.size = i.size) (hr : Rel g w h n) (hfresh : ¬ g.A nw) (hlt : nw < n) (hn0 : n0 ≤ nw)
    {v x r : AV} {uv ux : Value} {h' : Hp} (hv : VR g w v uv) (hx : VR g w x ux) (ha : appE h nw e i.size i.bytes v x = some (r, h')) :
    Did P g w h n n0 nw (do pure (.value (← Builtin.append_ #[t, t] ty #[uv, ux]))) r h' := by
  have hn : n0 ≤ n := Nat.le_trans hn0 (Nat.le_of_lt hlt)
  unfold appE at ha
  split at ha
  · cases ha
  · rename_i ys hys
    obtain ⟨B, c, news, hxe, hnew, hBc, hB0⟩ := elems_sound hr hx hys
    subst hxe
    have hnews : ∀ ad, B = some ad → ∀ j u, news[j]? = some u → w.cell? (ad.add j) = some u := fun ad hB => (hBc ad hB).2
    have hB : B = none → ys.length = 0 := fun hq => by rw [hB0 hq]; rfl
    have hzero : ∀ k, (Builtin.zeroCells z.cells k).toList.length = k * i.size := fun k => by simp [Builtin.zeroCells, hzs]
    split at ha
    · rename_i nl ex xs
      split at ha
      · rename_i hys0
        injection ha with ha; injection ha with ha1 ha2; subst ha1; subst ha2
        subst hys0
        cases hv with
        | isl _ _ _ sz0 A c0 us hl h1 h2 h3 h4 hs hc hx' hv' =>
          exact Did.of_runs hr hn ⟨_, run_append_none (P := P) (ty := ty) ht hi A B xs.length c0 c h1, VR.isl (g := g) (w := w) nl ex xs sz0 A c0 us hl h1 h2 h3 h4 hs hc hx' hv'⟩
      · rename_i hys0
        split at ha
        · rename_i hcond
          obtain ⟨hex, hall, hbb, h63⟩ := hcond
          injection ha with ha; injection ha with ha1 ha2; subst ha1; subst ha2
          obtain ⟨A, c0, olds, he, hold, hAc, hA0⟩ := elems_sound (sz := i.size) (ys := xs) hr hv (by simp only [elems, hall, if_true])
          subst he
          have hcap0 : c0 = xs.length ∧ (A = none → c0 = 0) := by
            cases hv with
            | isl _ _ _ sz0 _ _ us hl h1 h2 h3 h4 => exact ⟨h2 hex, h4⟩
          have hm : 0 < ys.length := List.length_pos_iff.2 hys0
          obtain ⟨cap, hcap, w1, e1, e2, e3, e4, hrun⟩ := run_append_more (P := P) (w := w) (ty := ty) ht hi hz A xs.length c0 olds hold.len (fun ad hA => (hAc ad hA).2) (fun hA => by have := hcap0.2 hA; omega)
            B ys.length c news hnew.len hnews hB hm (by omega) h63 hbb
          refine grown_did (rest := (Builtin.zeroCells z.cells (cap - (xs.length + ys.length))).toList) (cap := cap) hr (fun _ _ q => q) hfresh hlt hn0 (hold.append hnew) (by simp) hcap (hzero _) e1 e2 e3 e4 ?_
          rw [hrun]
          congr 3
          apply Array.ext'; simp
        · cases ha
    · rename_i id sz' off len cap ex
      split at ha
      · rename_i e' sz2 els hid
        split at ha
        · rename_i hss
          obtain ⟨hs1, hs2⟩ := hss
          subst hs1; subst hs2
          have hobj := hr.live _ _ hid
          obtain ⟨cur, hb, hsz, hels⟩ := hobj.2.els
          have hvv := hv
          cases hv with
          | sl _ _ _ _ _ _ b f c0 hA hi2 h1 h2 h3 hsized =>
            have hb1 : (g.ι id).1 = b := by rw [hi2]
            have hb2 : (g.ι id).2 = f := by rw [hi2]
            rw [hb1] at hb; rw [hb2] at hsz hels
            have hcs : f + (off + c0) * i.size ≤ cur.size := by
              obtain ⟨c1, e1, fr, q1, q2⟩ := hsized
              rw [hb] at q1; injection q1 with q1; injection q1 with q1 _ _; rw [q1]; exact q2
            split at ha
            · rename_i hys0
              injection ha with ha; injection ha with ha1 ha2; subst ha1; subst ha2
              subst hys0
              exact Did.of_runs hr hn ⟨_, run_append_none (P := P) (ty := ty) ht hi _ B len c0 c (by omega), hvv⟩
            · rename_i hys0
              have hm : 0 < ys.length := List.length_pos_iff.2 hys0
              have room : len + ys.length ≤ c0 → (Builtin.append_ #[t, t] ty #[.slice (some ⟨b, f + off * i.size, none⟩) len c0, .slice B ys.length c]).run P w =
                  .ok (.slice (some ⟨b, f + off * i.size, none⟩) (len + ys.length) c0) (w.setRow b (cur.toList.take (f + (off + len) * i.size) ++ news ++ cur.toList.drop (f + (off + len) * i.size + news.length)).toArray) := by
                intro hroom
                have hfit : (off + (len + ys.length)) * i.size ≤ (off + c0) * i.size := Nat.mul_le_mul_right _ (by omega)
                have e0 : (off + (len + ys.length)) * i.size = off * i.size + len * i.size + ys.length * i.size := by rw [← Nat.add_assoc, Nat.add_mul, Nat.add_mul]
                have := run_append_room' (P := P) (w := w) (ty := ty) ht hi b (f + off * i.size) len c0 cur hb B ys.length c news hnew.len hnews hB hnew.one hroom (by have := hnew.len; omega)
                have e1 : f + off * i.size + len * i.size = f + (off + len) * i.size := by rw [Nat.add_mul]; omega
                rw [e1] at this
                exact this
              have newcur : ∀ k, ((cur.toList.take (f + k * i.size) ++ news ++ cur.toList.drop (f + k * i.size + news.length)).toArray).size = cur.size ∨ cur.size < f + k * i.size + news.length := by
                intro k
                rcases Nat.lt_or_ge cur.size (f + k * i.size + news.length) with q | q
                · exact .inr q
                · exact .inl (by simp; omega)
              split at ha
              · rename_i hle
                split at ha
                · rename_i hfit
                  injection ha with ha; injection ha with ha1 ha2; subst ha1; subst ha2
                  have hk1 : (off + len) * i.size ≤ els.length * i.size := Nat.mul_le_mul_right _ (by omega)
                  have hk2 : (off + len + ys.length) * i.size ≤ els.length * i.size := Nat.mul_le_mul_right _ (by omega)
                  have hnl := hnew.len
                  have hk3 : (off + len) * i.size + news.length = (off + len + ys.length) * i.size := by rw [hnl, Nat.add_mul (off + len)]
                  have hspl := splice_row cur.toList f (els.length * i.size) ((off + len) * i.size) ((off + len + ys.length) * i.size) news (by simpa using hsz) hk1 hk2
                  have hels' := ((hels.take (off + len)).append hnew).append (hels.drop (off + len + ys.length))
                  have hcur : (cur.toList.take (f + (off + len) * i.size) ++ news ++ cur.toList.drop (f + (off + len) * i.size + news.length)) = cur.toList.take f ++ (((cur.toList.drop f).take (els.length * i.size)).take ((off + len) * i.size) ++ news ++ ((cur.toList.drop f).take (els.length * i.size)).drop ((off + len + ys.length) * i.size)) ++ (cur.toList.drop f).drop (els.length * i.size) := by
                    rw [Nat.add_assoc f, hk3]; exact hspl
                  have hsize : (cur.toList.take (f + (off + len) * i.size) ++ news ++ cur.toList.drop (f + (off + len) * i.size + news.length)).toArray.size = cur.size := by
                    have : news.length = ys.length * i.size := hnl
                    simp; omega
                  obtain ⟨q1, q2, q3⟩ := setRow_obj (g := g) (w := w) hr (n0 := n0) hn (els' := els.take (off + len) ++ ys ++ els.drop (off + len + ys.length)) hid cur _ (by rw [hb1]; exact hb) hsize (by
                      rw [hb2]
                      have : (els.take (off + len) ++ ys ++ els.drop (off + len + ys.length)).length = els.length := by simp; omega
                      rw [this]; exact hsz) (by
                    rw [hb2, hcur]
                    exact hels'.obj (cur.toList.take f) _ f (by simp; omega))
                  rw [hb1] at q1 q2 q3
                  refine ⟨g, _, .slice (some ⟨b, f + off * i.size, none⟩) (len + ys.length) c0, .value (.slice (some ⟨b, f + off * i.size, none⟩) (len + ys.length) c0), by simp [room (by omega)], .inl rfl, ?_, q1, q2, fun id hA => .inl hA⟩
                  exact .sl id i.size off (len + ys.length) cap ex b f c0 hA hi2 (by omega) h2 h3 (q2.sized _ _ hsized)
                · cases ha
              · rename_i hle
                split at ha
                · rename_i hcond
                  obtain ⟨hol, hbb, h63, rfl⟩ := hcond
                  injection ha with ha; injection ha with ha1 ha2; subst ha1; subst ha2
                  have hold := (hels.drop off).take len
                  have hll : ((els.drop off).take len).length = len := by simp; omega
                  rcases Nat.lt_or_ge c0 (len + ys.length) with hgrow | hroom
                  · have hcells : ∀ ad, some (⟨b, f + off * i.size, none⟩ : Addr) = some ad → ∀ j u, ((((cur.toList.drop f).take (els.length * i.size)).drop (off * i.size)).take (len * i.size))[j]? = some u → w.cell? (ad.add j) = some u := by
                      intro ad had j u hj
                      injection had with had; subst had
                      rw [add_zero_ _ rfl, cell_of_row w _ _ cur e (0, 0) hb]
                      rw [List.getElem?_take] at hj
                      split at hj
                      · rw [List.getElem?_drop, List.getElem?_take] at hj
                        split at hj
                        · rw [List.getElem?_drop] at hj
                          simpa [Nat.add_assoc] using hj
                        · cases hj
                      · cases hj
                    obtain ⟨cp, hcap, w1, e1, e2, e3, e4, hrun⟩ := run_append_more (P := P) (w := w) (ty := ty) ht hi hz (some ⟨b, f + off * i.size, none⟩) len c0 _ (by rw [hold.len, hll]) hcells (fun q => by cases q)
                      B ys.length c news hnew.len hnews hB hm hgrow h63 hbb
                    have hsub : ∀ j ob, (if ex = true then h else upd h id none) j = some ob → h j = some ob := by
                      intro j ob; split
                      · exact fun q => q
                      · exact upd_none_sub h id j ob
                    have hr2 : Rel g w (if ex = true then h else upd h id none) n := by
                      split
                      · exact hr
                      · exact (kill hr hn id).1
                    refine grown_did (rest := (Builtin.zeroCells z.cells (cp - (len + ys.length))).toList) (cap := cp) hr2 hsub hfresh hlt hn0 (hold.append hnew) (by simp [hll]) hcap (hzero _) e1 e2 e3 e4 ?_
                    rw [hrun]
                    congr 3
                    apply Array.ext'; simp
                  · have hexf : ex = false := by
                      cases ex with
                      | false => rfl
                      | true => have := h3 rfl; omega
                    subst hexf
                    obtain ⟨k1, k2, k3, k4, k5, k6⟩ := reid (g := g) (w := w) hr hfresh hlt hn0 hid off len hol
                    rw [hb1, hb2] at k1 k2 k3 k4 k5 k6
                    have hfit : (off + (len + ys.length)) * i.size ≤ (off + c0) * i.size := Nat.mul_le_mul_right _ (by omega)
                    have e0 : (off + (len + ys.length)) * i.size = off * i.size + len * i.size + ys.length * i.size := by rw [← Nat.add_assoc, Nat.add_mul, Nat.add_mul]
                    have e5 : (off + len) * i.size = off * i.size + len * i.size := Nat.add_mul _ _ _
                    have hnl := hnew.len
                    have hsize : (cur.toList.take (f + (off + len) * i.size) ++ news ++ cur.toList.drop (f + (off + len) * i.size + news.length)).toArray.size = cur.size := by
                      simp; omega
                    have hk1 : (off + len) * i.size ≤ els.length * i.size := Nat.mul_le_mul_right _ hol
                    have hdt : ((cur.toList.drop f).take (els.length * i.size)).drop (off * i.size) = ((cur.toList.drop (f + off * i.size)).take (els.length * i.size - off * i.size)) := by
                      rw [List.drop_take, List.drop_drop]
                    have hcur : (cur.toList.take (f + (off + len) * i.size) ++ news ++ cur.toList.drop (f + (off + len) * i.size + news.length)) = cur.toList.take (f + off * i.size) ++ ((((cur.toList.drop f).take (els.length * i.size)).drop (off * i.size)).take (len * i.size) ++ news) ++ cur.toList.drop (f + (off + len) * i.size + news.length) := by
                      rw [hdt, List.take_take, Nat.min_eq_left (by omega), e5, ← Nat.add_assoc f, List.take_add]
                      simp only [List.append_assoc]
                    have hels2 := (hold.append hnew).mono k6
                    obtain ⟨q1, q2, q3⟩ := setRow_obj (g := g.add nw b (f + off * i.size)) (w := w) k1 (n0 := n0) hn (id := nw) (els := (els.drop off).take len) (els' := (els.drop off).take len ++ ys) (by rw [upd_same]) cur _ (by rw [k4]; exact hb) hsize (by
                        rw [k4]
                        have : ((els.drop off).take len ++ ys).length = len + ys.length := by simp [hll]
                        rw [this]; simp only [Nat.add_mul len]; omega) (by
                      rw [k4, hcur]
                      exact hels2.obj (cur.toList.take (f + off * i.size)) _ (f + off * i.size) (by simp; omega))
                    rw [k4] at q1 q2 q3
                    simp only [upd_upd] at q1 q2
                    have hro := room hroom
                    refine ⟨_, _, .slice (some ⟨b, f + off * i.size, none⟩) (len + ys.length) c0, .value (.slice (some ⟨b, f + off * i.size, none⟩) (len + ys.length) c0), by simp only [Sem.run_bind, hro, Result.andThen_ok, Sem.run_pure]; rfl, .inl rfl, ?_, by simpa using q1, ?_, k3⟩
                    · have := VR.sl (g := g.add nw b (f + off * i.size)) (w := w.setRow b (cur.toList.take (f + (off + len) * i.size) ++ news ++ cur.toList.drop (f + (off + len) * i.size + news.length)).toArray) nw i.size 0 (len + ys.length) (len + ys.length) false b (f + off * i.size) c0 k5 k4 (Nat.le_refl _) hroom (fun q => by cases q)
                        (q2.sized _ _ (hsized.le (by rw [Nat.zero_add, Nat.add_mul]; omega)))
                      simpa using this
                    · have k2' : Ext g w h n0 (g.add nw b (f + off * i.size)) w (upd (upd h id none) nw (some (.arr e i.size ((els.drop off).take len)))) n0 := { k2 with le := Nat.le_refl _ }
                      have := k2'.trans q2
                      simpa using this
                · cases ha
        · cases ha
      · cases ha
    · cases ha
end
end Go.E3
