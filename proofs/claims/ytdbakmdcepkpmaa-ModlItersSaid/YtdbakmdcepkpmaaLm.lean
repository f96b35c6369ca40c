/- Appends. -/
import Derived.Test.YtdbakmdcepkpmaaLl
set_option linter.unusedSimpArgs false
set_option linter.unusedVariables false
namespace Go.E3
open Go.RowKit
section
variable {P : Program} {g : G} {w : World} {s : Nat → AV} {a : Act} {h : Hp} {n n0 nw : Nat}
theorem kill (hr : Rel g w h n) (hn0 : n0 ≤ n) (id : Nat) : Rel g w (upd h id none) n ∧ Ext g w h n0 g w (upd h id none) n := by
  have hsub : ∀ j ob, upd h id none j = some ob → h j = some ob := by
    intro j ob hj
    by_cases hji : j = id
    · subst hji; rw [upd_same] at hj; cases hj
    · rw [upd_ne _ _ hji] at hj; exact hj
  exact ⟨⟨fun j ob hj => hr.live j ob (hsub _ _ hj), fun j j' ob ob' h1 h2 => hr.inj j j' ob ob' (hsub _ _ h1) (hsub _ _ h2), fun j ob hj => hr.sep j ob (hsub _ _ hj), hr.blk, hr.lt⟩,
    hn0, fun _ h => .inl h, rfl, rfl, rfl, Nat.le_refl _, fun _ h => ⟨h, rfl⟩, fun _ h => h, fun j ob hj => .inl ⟨j, ob, hsub _ _ hj, rfl⟩, fun _ _ _ => rfl, fun _ _ h => h, fun _ h => .inl h⟩
theorem reid (hr : Rel g w h n) (hfresh : ¬ g.A nw) (hlt : nw < n) (hn0 : n0 ≤ nw) {id e sz : Nat} {els : List AV} (hid : h id = some (.arr e sz els)) (off len : Nat) (hle : off + len ≤ els.length) :
    let g1 := g.add nw (g.ι id).1 ((g.ι id).2 + off * sz)
    let h1 := upd (upd h id none) nw (some (.arr e sz ((els.drop off).take len)))
    Rel g1 w h1 n ∧ Ext g w h n0 g1 w h1 n ∧ (∀ j, g1.A j → g.A j ∨ j = nw) ∧ g1.ι nw = ((g.ι id).1, (g.ι id).2 + off * sz) ∧ g1.A nw ∧ (∀ v u, VR g w v u → VR g1 w v u) := by
  intro g1 h1
  have hι : ∀ j, g.A j → g1.ι j = g.ι j := fun j hA => by
    show (if j = nw then _ else _) = _
    rw [if_neg (by rintro rfl; exact hfresh hA)]
  have hnw : g1.ι nw = ((g.ι id).1, (g.ι id).2 + off * sz) := by show (if nw = nw then _ else _) = _; rw [if_pos rfl]
  have hvr : ∀ v u, VR g w v u → VR g1 w v u := fun v u hv => VR.mono (g := g) (w := w) (g' := g1) (w' := w) (fun j hA => ⟨Or.inl hA, hι j hA⟩) (fun b hb => hb) (fun _ _ => rfl) (fun _ _ h => h) hv
  have hlv : ∀ j ob, h1 j = some ob → (j = nw ∧ ob = .arr e sz ((els.drop off).take len)) ∨ (j ≠ nw ∧ j ≠ id ∧ h j = some ob) := by
    intro j ob hob
    by_cases hj : j = nw
    · subst hj; simp only [h1, upd_same] at hob; injection hob with hob; exact .inl ⟨rfl, hob.symm⟩
    · simp only [h1, upd_ne _ _ hj] at hob
      by_cases hji : j = id
      · subst hji; rw [upd_same] at hob; cases hob
      · rw [upd_ne _ _ hji] at hob; exact .inr ⟨hj, hji, hob⟩
  obtain ⟨hAid, cur, hb, hsz, hel⟩ := hr.live _ _ hid
  refine ⟨⟨?_, ?_, ?_, ?_, ?_⟩, ⟨Nat.le_trans hn0 (Nat.le_of_lt hlt), ?_, rfl, rfl, rfl, Nat.le_refl _, fun j hA => ⟨.inl hA, hι j hA⟩, fun b hb => hb, ?_, fun _ _ _ => rfl, fun _ _ h => h, fun _ h => .inl h⟩, fun j hA => hA, hnw, .inr rfl, hvr⟩
  · intro j ob hob
    rcases hlv j ob hob with ⟨rfl, rfl⟩ | ⟨hj, hji, hob⟩
    · refine ⟨.inr rfl, cur, ?_, ?_, ?_⟩
      · rw [hnw]; exact hb
      · rw [hnw]
        have : (off + len) * sz ≤ els.length * sz := Nat.mul_le_mul_right _ hle
        rw [Nat.add_mul] at this
        have hl : ((els.drop off).take len).length = len := by simp; omega
        rw [hl]; simp only; omega
      · intro i x hx
        rw [List.getElem?_take] at hx
        split at hx
        · rw [List.getElem?_drop] at hx
          obtain ⟨q1, q2, q3⟩ := hel _ x hx
          refine ⟨q1, q2, fun k c hc => ?_⟩
          obtain ⟨u, r1, r2⟩ := q3 k c hc
          refine ⟨u, ?_, hvr _ _ r2⟩
          rw [hnw]; simp only
          rw [← r1]; congr 1; rw [Nat.add_mul]; omega
        · cases hx
    · obtain ⟨hA, ho⟩ := hr.live j ob hob
      refine ⟨.inl hA, ?_⟩
      cases ob with
      | mp t es => exact ho.elim
      | arr e2 sz2 els2 =>
        obtain ⟨cur2, hb2, hs2, he2⟩ := ho
        refine ⟨cur2, by rw [hι j hA]; exact hb2, by rw [hι j hA]; exact hs2, ?_⟩
        intro i x hx
        obtain ⟨q1, q2, q3⟩ := he2 i x hx
        exact ⟨q1, q2, fun k c hc => by obtain ⟨u, r1, r2⟩ := q3 k c hc; exact ⟨u, by rw [hι j hA]; exact r1, hvr _ _ r2⟩⟩
  · intro j j' ob ob' a1 a2 he
    rcases hlv j ob a1 with ⟨e1, _⟩ | ⟨hj, hji, k1⟩ <;> rcases hlv j' ob' a2 with ⟨e2, _⟩ | ⟨hj', hji', k2⟩
    · rw [e1, e2]
    · rw [e1, hnw, hι j' (hr.live _ _ k2).1] at he; exact absurd (hr.inj _ _ _ _ hid k2 he).symm hji'
    · rw [e2, hnw, hι j (hr.live _ _ k1).1] at he; exact absurd (hr.inj _ _ _ _ k1 hid he) hji
    · rw [hι j (hr.live _ _ k1).1, hι j' (hr.live _ _ k2).1] at he
      exact hr.inj _ _ _ _ k1 k2 he
  · intro j ob hob him
    rcases hlv j ob hob with ⟨rfl, rfl⟩ | ⟨hj, hji, hob⟩
    · rw [hnw] at him; exact hr.sep _ _ hid him
    · rw [hι j (hr.live _ _ hob).1] at him; exact hr.sep _ _ hob him
  · exact hr.blk
  · intro j hA
    rcases hA with hA | rfl
    · exact hr.lt j hA
    · exact hlt
  · intro j hA
    rcases hA with hA | rfl
    · exact .inl hA
    · exact .inr hn0
  · intro j ob hob
    rcases hlv j ob hob with ⟨rfl, rfl⟩ | ⟨hj, hji, hob⟩
    · exact .inl ⟨id, _, hid, by rw [hnw]⟩
    · exact .inl ⟨j, ob, hob, by rw [hι j (hr.live _ _ hob).1]⟩
/-! ### The builtin -/
theorem run_append_none {t e : TypeId} {ty : TypeId} {i : TypeInfo} (ht : P.underlying t = some (.slice e)) (hi : P.info? e = some i) (A B : Option Addr) (len c d : Nat) (hlc : len ≤ c) :
    (Builtin.append_ #[t, t] ty #[.slice A len c, .slice B 0 d]).run P w = .ok (.slice A len c) w := by
  have hf : ∀ W : World, (Builtin.firstCells i.size 0 (.slice B 0 d)).run P W = .ok #[] W := by
    intro W; cases B <;> simp [Builtin.firstCells, loadCells, loadCellsFrom]
  cases A <;> simp [Builtin.append_, run_underlying ht, sizeOf, typeInfo, hi, Builtin.lenOf, hlc, hf, storeCells]
theorem run_append_room' {t e : TypeId} {ty : TypeId} {i : TypeInfo} (ht : P.underlying t = some (.slice e)) (hi : P.info? e = some i)
    (b o sLen sCap : Nat) (cur : Array Value) {e' : TypeId} (hg : w.heap[b]? = some (.cells cur e' (0, 0)))
    (B : Option Addr) (m c : Nat) (news : List Value) (hl : news.length = m * i.size) (hnews : ∀ ad, B = some ad → ∀ j u, news[j]? = some u → w.cell? (ad.add j) = some u) (hB : B = none → m = 0) (h1 : ∀ u ∈ news, u.oneCell' = true)
    (hroom : sLen + m ≤ sCap) (hfit : o + sLen * i.size + news.length ≤ cur.size) :
    (Builtin.append_ #[t, t] ty #[.slice (some ⟨b, o, none⟩) sLen sCap, .slice B m c]).run P w =
      .ok (.slice (some ⟨b, o, none⟩) (sLen + m) sCap) (w.setRow b (cur.toList.take (o + sLen * i.size) ++ news ++ cur.toList.drop (o + sLen * i.size + news.length)).toArray) := by
  have hst := run_storeCells_at P b (o + sLen * i.size) e' news 0 cur w hg (by simpa using hfit) h1
  simp only [Nat.add_zero] at hst
  have hadd : (⟨b, o, none⟩ : Addr).add (sLen * i.size) = ⟨b, o + sLen * i.size, none⟩ := add_zero_ _ rfl _
  cases B with
  | none =>
    have hm := hB rfl
    subst hm
    have : news = [] := List.length_eq_zero_iff.1 (by simpa using hl)
    subst this
    simp [Builtin.append_, run_underlying ht, sizeOf, typeInfo, hi, Builtin.lenOf, hroom, Builtin.firstCells, hadd, hst]
    intro hq; omega
  | some ad =>
    have hf := run_firstCells_some (P := P) w i.size m ad m c news hl (hnews ad rfl)
    have hf' : (Builtin.firstCells i.size m (.slice (some ad) m c)).run P w = .ok news.toArray w := hf
    simp [Builtin.append_, run_underlying ht, sizeOf, typeInfo, hi, Builtin.lenOf, hroom, hf', hadd, hst]
theorem run_append_more {t e : TypeId} {ty : TypeId} {i : TypeInfo} {z : Value} (ht : P.underlying t = some (.slice e)) (hi : P.info? e = some i) (hz : i.zero = some z)
    (A : Option Addr) (sLen sCap : Nat) (olds : List Value) (hlo : olds.length = sLen * i.size) (holds : ∀ ad, A = some ad → ∀ j v, olds[j]? = some v → w.cell? (ad.add j) = some v) (hA : A = none → sLen = 0 ∧ sCap = 0)
    (B : Option Addr) (m c : Nat) (news : List Value) (hl : news.length = m * i.size) (hnews : ∀ ad, B = some ad → ∀ j u, news[j]? = some u → w.cell? (ad.add j) = some u) (hB : B = none → m = 0) (hm : 0 < m)
    (hg : sCap < sLen + m) (h63 : sLen + m ≤ 9223372036854775807) (hb : (sLen + m) * i.bytes ≤ 140737488355328) :
    ∃ cap, sLen + m ≤ cap ∧ ∃ w1 : World, w1.heap = w.heap ∧ w1.os = w.os ∧ w1.tape = w.tape ∧ w1.output = w.output ∧
      (Builtin.append_ #[t, t] ty #[.slice A sLen sCap, .slice B m c]).run P w = .ok (.slice (some ⟨w.heap.size, 0, none⟩) (sLen + m) cap)
        (w1.alloc (.cells (olds.toArray ++ news.toArray ++ Builtin.zeroCells z.cells (cap - (sLen + m))) e)) := by
  have hfit := growslice_fits (need := sLen + m) (old := sCap) (bytes := i.bytes) hg hb
  have hcap := grownCap_ge w (sLen + m) sCap e
  cases B with
  | none => have := hB rfl; omega
  | some bd =>
    cases A with
    | none =>
      obtain ⟨rfl, rfl⟩ := hA rfl
      have hol : olds = [] := List.length_eq_zero_iff.1 (by simpa using hlo)
      subst hol
      simp only [Nat.zero_add] at *
      refine ⟨_, hcap, w.drew, rfl, rfl, rfl, rfl, ?_⟩
      rw [run_append_nil (P := P) w t ty e i z ht hi hz bd m c news hl (hnews bd rfl) hm (by omega) (by omega)]
      simp
    | some ad =>
      refine ⟨_, hcap, w.drew, rfl, rfl, rfl, rfl, ?_⟩
      exact run_append_grow (P := P) w t ty e i z ht hi hz ad sLen sCap olds hlo (holds ad rfl) bd m c news hl (hnews bd rfl) hg (by omega) hfit
end
end Go.E3
