/- copy, clear, new variables; all operations on memory. -/
import Derived.Test.YtdbakmdcepkpmaaLn
set_option linter.unusedSimpArgs false
set_option linter.unusedVariables false
namespace Go.E3
open Go.RowKit
section
variable {P : Program} {g : G} {w : World} {s : Nat → AV} {a : Act} {h : Hp} {n n0 nw : Nat}
theorem overwrite (hr : Rel g w h n) (hn : n0 ≤ n) {id e sz : Nat} {els ys : List AV} {news : List Value} (hid : h id = some (.arr e sz els)) (off : Nat) (hnew : Els g w sz ys news) (hle : off + ys.length ≤ els.length) {cur : Array Value} {b f : Nat}
    (hi2 : g.ι id = (b, f)) (hb : w.heap[b]? = some (.cells cur e (0, 0))) :
    f + off * sz + news.length ≤ cur.size ∧ (
    let w' := w.setRow b (cur.toList.take (f + off * sz) ++ news ++ cur.toList.drop (f + off * sz + news.length)).toArray
    Rel g w' (upd h id (some (.arr e sz (els.take off ++ ys ++ els.drop (off + ys.length))))) n ∧ Ext g w h n0 g w' (upd h id (some (.arr e sz (els.take off ++ ys ++ els.drop (off + ys.length))))) n) := by
  have hb1 : (g.ι id).1 = b := by rw [hi2]
  have hb2 : (g.ι id).2 = f := by rw [hi2]
  obtain ⟨cur', hb', hsz, hels⟩ := (hr.live _ _ hid).2.els
  rw [hb1, hb] at hb'; injection hb' with hb'; injection hb' with hb' _ _; subst hb'
  rw [hb2] at hsz hels
  have hk1 : off * sz ≤ els.length * sz := Nat.mul_le_mul_right _ (by omega)
  have hk2 : (off + ys.length) * sz ≤ els.length * sz := Nat.mul_le_mul_right _ hle
  have hnl := hnew.len
  have hk3 : off * sz + news.length = (off + ys.length) * sz := by rw [hnl, Nat.add_mul off]
  have hspl := splice_row cur.toList f (els.length * sz) (off * sz) ((off + ys.length) * sz) news (by simpa using hsz) hk1 hk2
  have hels' := ((hels.take off).append hnew).append (hels.drop (off + ys.length))
  have hcur : (cur.toList.take (f + off * sz) ++ news ++ cur.toList.drop (f + off * sz + news.length)) = cur.toList.take f ++ (((cur.toList.drop f).take (els.length * sz)).take (off * sz) ++ news ++ ((cur.toList.drop f).take (els.length * sz)).drop ((off + ys.length) * sz)) ++ (cur.toList.drop f).drop (els.length * sz) := by
    rw [Nat.add_assoc f, hk3]; exact hspl
  have hsize : (cur.toList.take (f + off * sz) ++ news ++ cur.toList.drop (f + off * sz + news.length)).toArray.size = cur.size := by
    simp; omega
  refine ⟨by omega, ?_⟩
  obtain ⟨q1, q2, q3⟩ := setRow_obj (g := g) (w := w) hr (n0 := n0) hn (els' := els.take off ++ ys ++ els.drop (off + ys.length)) hid cur _ (by rw [hb1]; exact hb) hsize (by
      rw [hb2]
      have : (els.take off ++ ys ++ els.drop (off + ys.length)).length = els.length := by simp; omega
      rw [this]; exact hsz) (by
    rw [hb2, hcur]
    exact hels'.obj (cur.toList.take f) _ f (by simp; omega))
  rw [hb1] at q1 q2
  exact ⟨q1, q2⟩
theorem cpy_did {t t' e ty : TypeId} {sz : Nat} (ht : P.underlying t = some (.slice e)) (hsz : sizeT P e = some sz) (hr : Rel g w h n) (hn : n0 ≤ n) {d x v : AV} {ud ux : Value} {h' : Hp} (hd : VR g w d ud) (hx : VR g w x ux)
    (hc : cpyE h sz d x = some (v, h')) :
    Did P g w h n n0 nw (do pure (.value (← Builtin.copy_ #[t, t'] ty #[ud, ux]))) v h' := by
  unfold cpyE at hc
  split at hc
  · cases hc
  · rename_i ys hys
    obtain ⟨B, c, news, hxe, hnew, hBc, hB0⟩ := elems_sound hr hx hys
    subst hxe
    have hfc : ∀ k, k ≤ ys.length → (Builtin.firstCells sz k (.slice B ys.length c)).run P w = .ok (news.take (k * sz)).toArray w := by
      intro k hk
      cases B with
      | none => have : ys = [] := hB0 rfl
                subst this
                have hk0 : k = 0 := by simpa using hk
                subst hk0
                simp [Builtin.firstCells]
      | some ad =>
        refine run_firstCells_some (P := P) w sz k ad ys.length c _ ?_ (fun j u hj => ?_)
        · have := Nat.mul_le_mul_right sz hk
          rw [List.length_take, hnew.len]; omega
        · rw [List.getElem?_take] at hj
          split at hj
          · exact (hBc ad rfl).2 j u hj
          · cases hj
    split at hc
    · rename_i nl ex
      injection hc with hc; injection hc with hc1 hc2; subst hc1; subst hc2
      cases hd with
      | isl _ _ _ sz0 A c0 us hl =>
        refine Did.of_runs hr hn ⟨.int .i64 0, ?_, .int _ _⟩
        have h0 := hfc 0 (Nat.zero_le _)
        simp only [Nat.zero_mul, List.take_zero] at h0
        cases A <;> simp [Builtin.copy_, run_underlying ht, Builtin.lenOf, run_sizeT w hsz, h0, goInt, storeCells]
    · rename_i id sz' off len cap ex
      split at hc
      · rename_i e2 sz2 els hid
        split at hc
        · rename_i hcond
          obtain ⟨hs1, hs2, hle⟩ := hcond
          subst hs1; subst hs2
          injection hc with hc; injection hc with hc1 hc2; subst hc1; subst hc2
          obtain ⟨cur, hb, _, _⟩ := (hr.live _ _ hid).2.els
          cases hd with
          | sl _ _ _ _ _ _ b f c0 hA hi2 h1 h2 h3 hsized =>
            have hb' : w.heap[b]? = some (.cells cur e2 (0, 0)) := by rw [hi2] at hb; exact hb
            have hmin : Min.min ys.length len ≤ ys.length := Nat.min_le_left _ _
            have hel := hnew.take (Min.min ys.length len)
            have hll : (ys.take (Min.min ys.length len)).length = Min.min ys.length len := by simp
            obtain ⟨q0, q1, q2⟩ := overwrite (g := g) (w := w) hr hn hid off hel (by rw [hll]; have := Nat.min_le_right ys.length len; omega) hi2 hb'
            rw [hll] at q1 q2
            refine ⟨g, _, .int .i64 (Min.min ys.length len : Nat), .value (.int .i64 (Min.min ys.length len : Nat)), ?_, .inl rfl, .int _ _, q1, q2, fun id hA => .inl hA⟩
            have hst := run_storeCells_at P b (f + off * sz) e2 (news.take (Min.min ys.length len * sz)) 0 cur w hb' (by simpa using q0) hel.one
            simp only [Nat.add_zero] at hst
            have hfc' := hfc _ hmin
            simp only [Builtin.copy_, Sem.run_bind, run_underlying ht, Result.andThen_ok, Builtin.lenOf, Sem.run_pure, run_sizeT w hsz, List.getElem?_toArray, List.getElem?_cons_zero, List.getElem?_cons_succ]
            rw [show Nat.min ys.length len = Min.min ys.length len from rfl, hfc']
            simp only [Result.andThen_ok]
            rw [hst]
            simp [goInt]
        · cases hc
      · cases hc
    · cases hc
theorem clr_did {t ty e : TypeId} {sz : Nat} {z : List AV} (ht : P.underlying t = some (.slice e)) (hsz : sizeT P e = some sz) (hz0 : sz ≠ 0) (hz : compZ P e sz = some z) (hzsz : ∀ i zv, P.info? e = some i → i.zero = some zv → zv.cells.size = sz)
    (hr : Rel g w h n) (hn : n0 ≤ n) {x v : AV} {ux : Value} {h' : Hp} (hx : VR g w x ux) (hc : clrE h sz z x = some (v, h')) :
    Did P g w h n n0 nw (do pure (.value (← Builtin.clear_ #[t] ty #[ux]))) v h' := by
  unfold clrE at hc
  split at hc
  · rename_i nl ex
    injection hc with hc; injection hc with hc1 hc2; subst hc1; subst hc2
    cases hx with
    | isl _ _ _ sz0 A c0 us hl =>
      refine Did.of_runs hr hn ⟨.tuple #[], ?_, VR.undef _ _⟩
      cases A <;> simp [Builtin.clear_, run_underlying ht]
  · rename_i id sz' off len cap ex
    split at hc
    · rename_i e2 sz2 els hid
      split at hc
      · rename_i hcond
        obtain ⟨hs1, hs2, hle, hzl⟩ := hcond
        subst hs1; subst hs2
        injection hc with hc; injection hc with hc1 hc2; subst hc1; subst hc2
        obtain ⟨cur, hb, _, _⟩ := (hr.live _ _ hid).2.els
        cases hx with
        | sl _ _ _ _ _ _ b f c0 hA hi2 h1 h2 h3 hsized =>
          have hb' : w.heap[b]? = some (.cells cur e2 (0, 0)) := by rw [hi2] at hb; exact hb
          -- the zero element
          unfold compZ at hz
          rw [if_neg hz0] at hz
          split at hz
          · rename_i zv hzv
            cases hi : P.info? e with
            | none => simp [hi] at hzv
            | some i =>
              simp [hi] at hzv
              have hcs := hzsz i zv hi hzv
              obtain ⟨p1, p2, p3⟩ := ofSs_spec g w hz
              have hid1 : ((Array.range sz).map (zv.cells[· % zv.cells.size]!)).toList = zv.cells.toList := by
                apply List.ext_getElem?
                intro j
                by_cases hj : j < sz
                · simp [hj, hcs, Nat.mod_eq_of_lt hj]
                · have hj' : sz ≤ j := by omega
                  rw [List.getElem?_eq_none (by simp; exact hj'), List.getElem?_eq_none (by simp [hcs]; exact hj')]
              rw [hid1] at p1 p3
              have hrow : RowR g w z zv.cells.toList := ⟨p1, p2, p3⟩
              have hrep : ∀ k, Els g w sz (List.replicate k (if sz = 1 then z.headD .undef else .agg z)) (List.replicate k zv.cells.toList).flatten := by
                intro k
                induction k with
                | zero => exact Els.nil
                | succ k ih =>
                  simp only [List.replicate_succ, List.flatten_cons]
                  have h1 : Els g w sz [if sz = 1 then z.headD .undef else .agg z] zv.cells.toList := by
                    have := Els.of_row (sz := sz) (k := 1) hrow (by rw [hzl]; omega)
                    split
                    · rename_i hq
                      simp only [hq, if_true] at this
                      have hz1 : z.length = 1 := by omega
                      obtain ⟨c, rfl⟩ := List.length_eq_one_iff.1 hz1
                      rw [hq]; exact this
                    · rename_i hq
                      simp only [hq, if_false, chunk] at this
                      rw [List.take_of_length_le (by omega)] at this
                      exact this
                  exact h1.append ih
              obtain ⟨q0, q1, q2⟩ := overwrite (g := g) (w := w) hr hn hid off (hrep len) (by simpa using hle) hi2 hb'
              simp only [List.length_replicate] at q1 q2
              refine ⟨g, _, .tuple #[], .value (.tuple #[]), ?_, .inl rfl, VR.undef _ _, q1, q2, fun id hA => .inl hA⟩
              have hst := run_storeCells_at P b (f + off * sz) e2 (List.replicate len zv.cells.toList).flatten 0 cur w hb' (by simpa using q0) (hrep len).one
              simp only [Nat.add_zero] at hst
              have hzc : (Builtin.zeroCells zv.cells len).toList = (List.replicate len zv.cells.toList).flatten := by
                apply List.ext_getElem?
                intro j
                have hfl : (List.replicate len zv.cells.toList).flatten.length = len * sz := by
                  rw [flatten_len (sz := sz) _ (fun l hl => by rw [List.eq_of_mem_replicate hl]; simpa using hcs)]; simp
                by_cases hj : j < len * sz
                · have hp : 0 < sz := by omega
                  have hm := Nat.mod_lt j hp
                  have hd : j / sz < len := Nat.div_lt_of_lt_mul (by rw [Nat.mul_comm]; exact hj)
                  have ee : j / sz * sz + j % sz = j := by rw [Nat.mul_comm]; exact Nat.div_add_mod j sz
                  have hg := flatten_get (sz := sz) (List.replicate len zv.cells.toList) (j / sz) (j % sz) zv.cells.toList (fun l hl => by rw [List.eq_of_mem_replicate hl]; simpa using hcs) (by rw [List.getElem?_replicate, if_pos hd]) hm
                  rw [ee] at hg
                  rw [hg]
                  simp [Builtin.zeroCells, hcs, hj, hm]
                · rw [List.getElem?_eq_none (by simp [Builtin.zeroCells, hcs]; omega), List.getElem?_eq_none (by omega)]
              simp only [Builtin.clear_, Sem.run_bind, run_underlying ht, Result.andThen_ok, Sem.run_pure, List.getElem?_toArray, List.getElem?_cons_zero]
              cases len with
              | zero =>
                simp only [List.replicate_zero, List.flatten_nil, List.length_nil, Nat.add_zero, List.append_nil, List.take_append_drop, Array.toArray_toList]
                rw [setRow_self w b cur e2 (0, 0) hb']
                simp
              | succ k =>
                simp [zeroValue, typeInfo, hi, hzv, hzc, hst]
          · cases hz
      · cases hc
    · cases hc
  · cases hc
end
end Go.E3
