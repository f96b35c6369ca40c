/- Appends whose new array is told whole, and appends of zeros. -/
import Derived.Test.YtdbakmdcepkpmaaLp
set_option linter.unusedSimpArgs false
set_option linter.unusedVariables false
namespace Go.E3
open Go.RowKit
section
variable {P : Program} {g : G} {w : World} {s : Nat → AV} {a : Act} {h : Hp} {n n0 nw : Nat}
def zeA (sz : Nat) (z : List AV) : AV := if sz = 1 then z.headD .undef else .agg z
theorem zero_els {e sz : Nat} {z : List AV} {i : TypeInfo} {zv : Value} (hz0 : sz ≠ 0) (hz : compZ P e sz = some z) (hi : P.info? e = some i) (hzv : i.zero = some zv) (hcs : zv.cells.size = sz) (k : Nat) :
    Els g w sz (List.replicate k (zeA sz z)) (Builtin.zeroCells zv.cells k).toList := by
  unfold compZ at hz
  rw [if_neg hz0] at hz
  simp only [hi, Option.bind_some, hzv] at hz
  obtain ⟨p1, p2, p3⟩ := ofSs_spec g w hz
  have hid1 : ((Array.range sz).map (zv.cells[· % zv.cells.size]!)).toList = zv.cells.toList := by
    apply List.ext_getElem?
    intro j
    by_cases hj : j < sz
    · simp [hj, hcs, Nat.mod_eq_of_lt hj]
    · have hj' : sz ≤ j := by omega
      rw [List.getElem?_eq_none (by simp; exact hj'), List.getElem?_eq_none (by simp [hcs]; exact hj')]
  rw [hid1] at p1 p3
  have hrow : RowR g w z zv.cells.toList := ⟨p1, p2, p3⟩
  have hzl : z.length = sz := by rw [← p1]; simpa using hcs
  have hrep : ∀ k, Els g w sz (List.replicate k (zeA sz z)) (List.replicate k zv.cells.toList).flatten := by
    intro k
    induction k with
    | zero => exact Els.nil
    | succ k ih =>
      simp only [List.replicate_succ, List.flatten_cons]
      have h1 : Els g w sz [zeA sz z] zv.cells.toList := by
        have := Els.of_row (sz := sz) (k := 1) hrow (by rw [hzl]; omega)
        unfold zeA
        split
        · rename_i hq
          simp only [hq, if_true] at this
          have hz1 : z.length = 1 := by omega
          obtain ⟨c, rfl⟩ := List.length_eq_one_iff.1 hz1
          rw [hq]; exact this
        · rename_i hq
          simp only [hq, if_false, chunk] at this
          rw [List.take_of_length_le (by omega)] at this
          exact this
      exact h1.append ih
  have hzc : (Builtin.zeroCells zv.cells k).toList = (List.replicate k zv.cells.toList).flatten := by
    apply List.ext_getElem?
    intro j
    have hfl : (List.replicate k zv.cells.toList).flatten.length = k * sz := by
      rw [flatten_len (sz := sz) _ (fun l hl => by rw [List.eq_of_mem_replicate hl]; simpa using hcs)]; simp
    by_cases hj : j < k * sz
    · have hp : 0 < sz := by omega
      have hm := Nat.mod_lt j hp
      have hd : j / sz < k := Nat.div_lt_of_lt_mul (by rw [Nat.mul_comm]; exact hj)
      have ee : j / sz * sz + j % sz = j := by rw [Nat.mul_comm]; exact Nat.div_add_mod j sz
      have hg := flatten_get (sz := sz) (List.replicate k zv.cells.toList) (j / sz) (j % sz) zv.cells.toList (fun l hl => by rw [List.eq_of_mem_replicate hl]; simpa using hcs) (by rw [List.getElem?_replicate, if_pos hd]) hm
      rw [ee] at hg
      rw [hg]
      simp [Builtin.zeroCells, hcs, hj, hm]
    · rw [List.getElem?_eq_none (by simp [Builtin.zeroCells, hcs]; omega), List.getElem?_eq_none (by omega)]
  rw [hzc]; exact hrep k
/-- A new array, all of it told. -/
theorem grownN_did {e sz m cap : Nat} {xs : List AV} {row : List Value} {md : Sem Value} (hr : Rel g w h n) (hfresh : ¬ g.A nw) (hlt : nw < n) (hn0 : n0 ≤ nw)
    (hx : Els g w sz xs row) (hm : xs.length = cap) (hcap : m ≤ cap) {w1 : World} (e1 : w1.heap = w.heap) (e2 : w1.os = w.os) (e3 : w1.tape = w.tape) (e4 : w1.output = w.output)
    (hrun : md.run P w = .ok (.slice (some ⟨w.heap.size, 0, none⟩) m cap) (w1.alloc (.cells row.toArray e))) :
    Did P g w h n n0 nw (do pure (.value (← md))) (.sl nw sz 0 m cap true) (upd h nw (some (.arr e sz xs))) := by
  have hx1 : Els g w1 sz xs row := hx.mono (fun v u hv => hv.heap e1)
  have hobj := alloc_obj (g := g) (w := w1) (hr.heap e1) hfresh hlt hn0 e sz xs row.toArray (by simp [hx.len]) (fun i x hxi => by
    have := hx1.obj [] [] 0 rfl i x hxi
    simpa using this)
  obtain ⟨k1, k2, k3, k4, k5, _⟩ := hobj
  have hsz : w1.heap.size = w.heap.size := by rw [e1]
  refine ⟨_, _, .slice (some ⟨w.heap.size, 0, none⟩) m cap, .value (.slice (some ⟨w.heap.size, 0, none⟩) m cap), by simp [hrun], .inl rfl, ?_, k1, (Ext.heap (fun _ _ q => q) e1 e2 e3 e4).trans k2, k3⟩
  have := VR.sl (g := g.add nw w1.heap.size 0) (w := w1.alloc (.cells row.toArray e)) nw sz 0 m cap true w1.heap.size 0 cap k5 k4 hcap (Nat.le_refl _) (fun _ => rfl)
    ⟨row.toArray, e, (0, 0), heap_alloc_new w1 _, by simp only [List.size_toArray, hx.len, hm, Nat.zero_add]; exact Nat.le_refl _⟩
  simpa [hsz] using this
theorem capX_spec {v : AV} {A : Option Addr} {l c k : Nat} (hv : VR g w v (.slice A l c)) (hk : capX v = some k) : c = k ∧ l ≤ c ∧ (A = none → c = 0) := by
  unfold capX at hk
  split at hk
  · injection hk with hk; subst hk
    cases hv with
    | isl _ _ _ sz0 _ _ us hl h1 h2 h3 h4 => exact ⟨h2 rfl, h1, h4⟩
  · injection hk with hk; subst hk
    cases hv with
    | sl _ _ _ _ _ _ b f c hA hi h1 h2 h3 => exact ⟨h3 rfl, by omega, fun q => by cases q⟩
  · cases hk
theorem apn_did {t e ty : TypeId} {i : TypeInfo} {zv : Value} {z : List AV} (ht : P.underlying t = some (.slice e)) (hi : P.info? e = some i) (hzv : i.zero = some zv) (hcs : zv.cells.size = i.size) (hz0 : i.size ≠ 0) (hz : compZ P e i.size = some z)
    (hr : Rel g w h n) (hn : n0 ≤ n) (hfresh : ¬ g.A nw) (hlt : nw < n) (hn0 : n0 ≤ nw) {v x : AV} {uv ux : Value} (hv : VR g w v uv) (hx : VR g w x ux) {K : AV → Hp → Prop} (ha : apnW h nw e i.size i.bytes (zeA i.size z) v x K) :
    ∃ r h', K r h' ∧ Did P g w h n n0 nw (do pure (.value (← Builtin.append_ #[t, t] ty #[uv, ux]))) r h' := by
  unfold apnW at ha
  split at ha
  · rename_i ys xs c0 hys hxs hcx
    obtain ⟨B, c, news, hxe, hnew, hBc, hB0⟩ := elems_sound hr hx hys
    subst hxe
    have hnews : ∀ ad, B = some ad → ∀ j u, news[j]? = some u → w.cell? (ad.add j) = some u := fun ad hB => (hBc ad hB).2
    have hB : B = none → ys.length = 0 := fun hq => by rw [hB0 hq]; rfl
    obtain ⟨A, c1, olds, he, hold, hAc, hA0⟩ := elems_sound hr hv hxs
    subst he
    obtain ⟨hc1, hlec, hAn⟩ := capX_spec hv hcx
    subst hc1
    split at ha
    · rename_i hys0
      subst hys0
      exact ⟨_, _, ha, Did.of_runs hr hn ⟨_, run_append_none (P := P) (ty := ty) ht hi A B xs.length c1 c hlec, hv⟩⟩
    · rename_i hys0
      obtain ⟨⟨hgrow, hbb, h63⟩, hK⟩ := ha
      have hm : 0 < ys.length := List.length_pos_iff.2 hys0
      obtain ⟨cap, hcap, w1, e1, e2, e3, e4, hrun⟩ := run_append_more (P := P) (w := w) (ty := ty) ht hi hzv A xs.length c1 olds hold.len (fun ad hA => (hAc ad hA).2) (fun hA => by have := hAn hA; omega)
        B ys.length c news hnew.len hnews hB hm hgrow h63 hbb
      refine ⟨_, _, hK cap hcap, grownN_did hr hfresh hlt hn0 ((hold.append hnew).append (zero_els hz0 hz hi hzv hcs (cap - (xs.length + ys.length)))) (by simp; omega) hcap e1 e2 e3 e4 ?_⟩
      rw [hrun]
      congr 3
      apply Array.ext'; simp
  · exact ha.elim
theorem run_append_zeros {t t' e : TypeId} {ty : TypeId} {ik : IntKind} {i : TypeInfo} {z : Value} (ht : P.underlying t = some (.slice e)) (ht' : P.underlying t' = some (.int ik)) (hi : P.info? e = some i) (hz : i.zero = some z)
    (ad : Addr) (sLen sCap : Nat) (olds : List Value) (hlo : olds.length = sLen * i.size) (holds : ∀ j v, olds[j]? = some v → w.cell? (ad.add j) = some v) (k : IntKind) (m : Nat)
    (hg : sCap < sLen + m) (h63 : sLen + m ≤ 9223372036854775807) (hb : (sLen + m) * i.bytes ≤ 140737488355328) (hs0 : i.size ≠ 0) (hm0 : 0 < m) :
    ∃ cap, sLen + m ≤ cap ∧ ∃ w1 : World, w1.heap = w.heap ∧ w1.os = w.os ∧ w1.tape = w.tape ∧ w1.output = w.output ∧
      (Builtin.append_ #[t, t'] ty #[.slice (some ad) sLen sCap, .int k m]).run P w = .ok (.slice (some ⟨w.heap.size, 0, none⟩) (sLen + m) cap)
        (w1.alloc (.cells (olds.toArray ++ Builtin.zeroCells z.cells m ++ Builtin.zeroCells z.cells (cap - (sLen + m))) e)) := by
  have hfit := growslice_fits (need := sLen + m) (old := sCap) (bytes := i.bytes) hg hb
  refine ⟨_, grownCap_ge w (sLen + m) sCap e, w.drew, rfl, rfl, rfl, rfl, ?_⟩
  have hn : ¬ (sLen + m ≤ sCap) := by omega
  have h63' : ¬ (9223372036854775807 < ((sLen : Int) + (m : Int))) := by omega
  have h48' : ¬ (281474976710656 < Builtin.nextslicecap (sLen + m) sCap * i.bytes) := by omega
  have hfo := run_firstCells_some (P := P) w.drew i.size sLen ad sLen sCap olds hlo (by simpa using holds)
  have hw : IntKind.i64.wrap (m : Int) = m := by
    have : (m : Int) ≤ 9223372036854775807 := by omega
    unfold IntKind.wrap
    simp [IntKind.signed, IntKind.bits]
    omega
  have hmb : ¬ (281474976710656 < (m : Int) * (i.bytes : Int)) := by
    have : m * i.bytes ≤ (sLen + m) * i.bytes := Nat.mul_le_mul_right _ (by omega)
    have h2 : ((m * i.bytes : Nat) : Int) = (m : Int) * (i.bytes : Int) := by push_cast; rfl
    omega
  have hm1 : ¬ ((m : Int) < 0) := by omega
  have hms : ¬ (m = 0 ∨ i.size = 0) := by omega
  have hms2 : ¬ (m * i.size = 0) := by
    intro q
    rcases Nat.mul_eq_zero.1 q with q | q <;> omega
  have hmt : (m : Int).toNat = m := by omega
  simp [Builtin.append_, run_underlying ht, run_underlying ht', sizeOf, typeInfo, zeroValue, hi, hz, Builtin.lenOf, hn, h63', h48', Question.forced, hfo, newRow, grownCap, asInt, asIntOf, hw, hmb, hm1, hms, hms2]
theorem apz_did {t t' e ty : TypeId} {ik : IntKind} {i : TypeInfo} {zv : Value} {z : List AV} (ht : P.underlying t = some (.slice e)) (ht' : P.underlying t' = some (.int ik)) (hi : P.info? e = some i) (hzv : i.zero = some zv) (hcs : zv.cells.size = i.size) (hz0 : i.size ≠ 0) (hz : compZ P e i.size = some z)
    (hr : Rel g w h n) (hfresh : ¬ g.A nw) (hlt : nw < n) (hn0 : n0 ≤ nw) {v x : AV} {uv ux : Value} (hv : VR g w v uv) (hx : VR g w x ux) {K : AV → Hp → Prop} (ha : apzW h nw e i.size i.bytes (zeA i.size z) v x K) :
    ∃ r h', K r h' ∧ Did P g w h n n0 nw (do pure (.value (← Builtin.append_ #[t, t'] ty #[uv, ux]))) r h' := by
  unfold apzW at ha
  split at ha
  · rename_i id sz' off len cap k m
    split at ha
    · rename_i e2 sz2 els hid
      obtain ⟨⟨rfl, rfl, hm0, hgrow, hle, hbb, h63⟩, hK⟩ := ha
      obtain rfl := hx.inv_int
      obtain ⟨A, c0, olds, he, hold, hAc, hA0⟩ := elems_sound (sz := i.size) (ys := (els.drop off).take len) hr hv (by simp [elems, hid, hle])
      have hll : ((els.drop off).take len).length = len := by simp; omega
      rw [hll] at he
      cases hv with
      | sl _ _ _ _ _ _ b f c0' hA hi2 h1 h2 h3 hsized =>
        injection he with he1 he2 he3
        subst he1; subst he3
        have hc0 : c0' = cap := h3 rfl
        subst hc0
        have hmn : (m.toNat : Int) = m := Int.toNat_of_nonneg hm0
        obtain ⟨cp, hcap, w1, e1, e2', e3, e4, hrun⟩ := run_append_zeros (P := P) (w := w) (ty := ty) ht ht' hi hzv ⟨b, f + off * i.size, none⟩ len c0' olds (by rw [hold.len, hll]) ((hAc _ rfl).2) k m.toNat hgrow h63 hbb hz0 (by omega)
        rw [hmn] at hrun
        refine ⟨_, _, hK, grown_did (rest := (Builtin.zeroCells zv.cells (cp - (len + m.toNat))).toList) (cap := cp) hr (fun _ _ q => q) hfresh hlt hn0 (hold.append (zero_els hz0 hz hi hzv hcs m.toNat)) (by simp [hll]) hcap (by simp [Builtin.zeroCells, hcs]) e1 e2' e3 e4 ?_⟩
        rw [hrun]
        congr 3
        apply Array.ext'; simp
    · exact ha.elim
  · exact ha.elim
end
end Go.E3
