/- Still. -/
import Derived.Test.YtdbakmdcepkpmaaEf
import Derived.Test.YtdbakmdcepkpmaaEc
import Derived.Test.YtdbakmdcepkpmaaLyd
set_option linter.unusedSimpArgs false
set_option linter.unusedVariables false
namespace Go.Proofs.Ytdbakmdcepkpmaa
open Go.E3
theorem own_cells {h : Hp} {n0 n : Nat} {e : TypeId} {sz : Nat} {v : AV} {xs : List AV} (o : OwnSl h n0 n e sz v xs) : v.cells = [v] ∧ v.flat = true := by
  rcases o with ⟨rfl, _⟩ | ⟨id, ex, rfl, _⟩ <;> exact ⟨rfl, rfl⟩
theorem ex_cells {h : Hp} {n0 n : Nat} {e : TypeId} {sz : Nat} {v : AV} {xs : List AV} (o : ExSl h n0 n e sz v xs) : v.cells = [v] ∧ v.flat = true := by
  rcases o with ⟨rfl, _⟩ | ⟨id, tail, rfl, _⟩ <;> exact ⟨rfl, rfl⟩
theorem serA_sz (l : List Series) : (l.map serA).all (fun x => x.cells.length == 5) = true := by simp [serA]
theorem itA_sz (l : List Iter) : (l.map itA).all (fun x => x.cells.length == 2) = true := by simp [itA]
structure Small (m : Model) : Prop where
  ser : m.series.length < 2 ^ 40
  its : m.iters.length < 2 ^ 40
  lst : ∀ s ∈ m.series, s.list.length < 2 ^ 40
  rst : ∀ x ∈ m.iters, x.rest.length < 2 ^ 40
/-- A model in memory, all of it made here. -/
def ModH (h : Hp) (n n' : Nat) (r : AV) (m : Model) : Prop :=
  ∃ a b c sv iv slv ilv, n ≤ a ∧ a ≤ b ∧ b ≤ c ∧ c ≤ n' ∧ r = .agg [sv, iv, .int .i64 m.next] ∧ ExSl h n a 38 5 sv (List.zipWith serR m.series slv) ∧ OwnSl h a b 46 2 iv (List.zipWith itR m.iters ilv) ∧
    Lists h b c (m.series.map (·.list)) slv ∧ Lists h c n' (m.iters.map (·.rest)) ilv
def serRows (m : Model) (k : Nat) (slv : List AV) : List AV := List.zipWith serR (m.series.take k) slv ++ (m.series.drop k).map serA
def itRows (m : Model) (k : Nat) (ilv : List AV) : List AV := List.zipWith itR (m.iters.take k) ilv ++ (m.iters.drop k).map itA
theorem serRows_len {m : Model} {k : Nat} {slv : List AV} (hk : k ≤ m.series.length) (hl : slv.length = k) : (serRows m k slv).length = m.series.length := by
  simp [serRows, hl]; omega
theorem itRows_len {m : Model} {k : Nat} {ilv : List AV} (hk : k ≤ m.iters.length) (hl : ilv.length = k) : (itRows m k ilv).length = m.iters.length := by
  simp [itRows, hl]; omega
theorem zip_push {α : Type} (f : α → AV → AV) (g : α → AV) (l : List α) (k : Nat) (vs : List AV) (v : AV) (x : α) (hx : l[k]? = some x) (hl : vs.length = k) :
    (List.zipWith f (l.take k) vs ++ (l.drop k).map g).set k (f x v) = List.zipWith f (l.take (k + 1)) (vs ++ [v]) ++ (l.drop (k + 1)).map g := by
  obtain ⟨hk, hx'⟩ := List.getElem?_eq_some_iff.1 hx
  have h1 : l.drop k = x :: l.drop (k + 1) := by rw [List.drop_eq_getElem_cons hk, hx']
  have h2 : l.take (k + 1) = l.take k ++ [x] := by rw [List.take_add_one, hx]; rfl
  have h3 : (List.zipWith f (l.take k) vs).length = k := by simp [hl]; omega
  rw [h1, h2, List.zipWith_append (by simp [hl]; omega), List.set_append_right _ _ (by omega), h3]
  simp
theorem zip_at {α : Type} (f : α → AV → AV) (g : α → AV) (l : List α) (k : Nat) (vs : List AV) (x : α) (hx : l[k]? = some x) (hl : vs.length = k) :
    (List.zipWith f (l.take k) vs ++ (l.drop k).map g)[k]? = some (g x) := by
  obtain ⟨hk, hx'⟩ := List.getElem?_eq_some_iff.1 hx
  have h3 : (List.zipWith f (l.take k) vs).length = k := by simp [hl]; omega
  rw [List.getElem?_append_right (by omega), h3, Nat.sub_self, List.getElem?_map, List.getElem?_drop]
  simp [hx]
set_option maxHeartbeats 4000000 in
theorem s26 {m : Model} (hm : Small m) (h : Hp) (n : Nat) : CallsA Try.prog 26 [modA m] h n fun r h' n' => Keeps h n h' ∧ ModH h' n n' r m := by
  refine CallsA.wf fun hwf => ?_
  refine e26 (by simp) ?_
  rw [a26, r26]
  refine wRgn fun K hk => ?_
  simp [modA, slA]
  refine hk.out _ ?_
  clear hk K
  refine wRgn fun K hk => ?_
  simp
  refine ⟨by omega, ?_⟩
  refine doCall_new ?_ (fun h0 => s46 (serA_sz m.series) (by simpa using hm.ser) h0 _) (fun r h' h'' n' q1 q2 => ?_) ?_
  · exact wf_upd (n := n + 2) (wf_upd (n := n + 1) (wf_upd hwf (by omega) (by omega)) (by omega) (by omega)) (by simp) (by simp)
  · refine ExSl.mono q1 (fun id hid => q2 id ?_) (Nat.le_refl _)
    exact (q1.mut.ids id hid).1
  intro sv h1 n1 hn1 hk1 hw1 hsv
  simp at hn1 hk1 hsv
  simp
  refine doCall_new hw1 (fun h0 => s47 (itA_sz m.iters) (by simpa using hm.its) h0 _) (fun r h' h'' n' q1 q2 => q1.mono (fun id hid => q2 id (q1.ids id hid).1) (Nat.le_refl _)) ?_
  intro iv h2 n2 hn2 hk2 hw2 hiv
  simp at hn2 hk2 hiv
  obtain ⟨c1, c2⟩ := ex_cells hsv
  obtain ⟨c3, c4⟩ := own_cells hiv
  have ho : h2 (n + 2 + 9) = some (.arr 25 3 [.agg [.isl (some true) true [], .isl (some true) true [], .int .i64 0]]) := by
    rw [hk2.old _ (by omega), hk1.old _ (by omega)]; simp
  simp [c1, c2, c3, c4, ho]
  refine hk.out _ ?_
  clear hk K
  refine wSeq ?_
  have hsl : lenA sv = some (.int .i64 m.series.length) := by
    have := hsv.mut.len
    simpa using this
  have hil : lenA iv = some (.int .i64 m.iters.length) := by
    have := hiv.len
    simpa using this
  have hsi := hsv.mut.ids
  have hii := hiv.ids
  have hsv2 : ExSl h2 (n + 2 + 11) n1 38 5 sv (m.series.map serA) := hsv.mono (fun id hid => hk2.old id (hsi id hid).2) (Nat.le_refl _)
  refine wRgn fun K hk => ?_
  simp [hsl]
  refine hk.out _ ?_
  clear hk K
  refine wRange (fun k s h' n' => ∃ slv, s 3 = .ptr (n + 2 + 9) 3 0 0 ∧ s 2 = .ptr (n + 1) 3 0 0 ∧ n2 ≤ n' ∧ (∀ j, j < n2 → j ≠ n + 2 + 9 → j ∉ sv.ids → h' j = h2 j) ∧ h' (n + 2 + 9) = some (.arr 25 3 [.agg [sv, iv, .int .i64 m.next]]) ∧ ExSl h' (n + 2 + 11) n1 38 5 sv (serRows m k slv) ∧ Lists h' n2 n' ((m.series.take k).map (·.list)) slv) m.series.length (by have := hm.ser; omega) (by decide) (by decide) (by decide) (by decide) (by simp) (by simp) ?_ ?_ ?_
  · refine ⟨[], by simp, by simp, by omega, fun j hj hne hns => ?_, by simp, ?_, ?_⟩
    · simp [hne]
    · refine ExSl.mono (h := h2) ?_ (fun id hid => ?_) (Nat.le_refl _)
      · simpa [serRows] using hsv2
      · have := hsi id hid
        rw [upd_ne _ _ (by omega)]
    · simpa using Lists.nil _ _ _
  · rintro k s h' n' hk ⟨slv, s3, s2, hn', hold, ho', hex, hls⟩ s18 s17 K hN hE hB hR
    obtain ⟨x, hx⟩ : ∃ x, m.series[k]? = some x := ⟨m.series[k], List.getElem?_eq_getElem hk⟩
    have hlv : slv.length = k := by have := hls.len; simp at this; omega
    have hrl := serRows_len (m := m) (by omega) hlv
    rcases hex with ⟨_, h0⟩ | ⟨id, tail, rfl, hid, hid1, hid2⟩
    · rw [h0] at hrl; simp at hrl; omega
    have hl18 : (m.series.drop k).length ≠ 0 := by simp; omega
    clear hsv hsv2 c1 c2 hsl hil hiv hk1
    simp at hold hsi
    refine wBlock' ?_
    (refine wRgn fun K hk => ?_; simp [s18]; refine hk.out _ ?_; clear hk K)
    have hrow := zip_at serR serA m.series k slv x hx hlv
    have hrow2 : (serRows m k slv ++ tail)[k]? = some (serA x) := by rw [List.getElem?_append_left (by rw [hrl]; exact hk)]; exact hrow
    refine wRgn' fun K2 hk2 => ?_
    simp [s3, ho', hrl, hk, hid, hrow2, serA]
    refine doCallN (by simp) (fun h0 => s48' (smA_sz x.list) (by simpa using hm.lst x (List.mem_of_getElem? hx)) h0 _) (fun r h' h'' n' q1 q2 => q1.mono (fun id hid => q2 id (q1.ids id hid).1) (Nat.le_refl _)) ?_
    intro hw3 lv h3 n3 hn3 hk3 hw4 hlv3
    simp at hn3 hk3 hlv3
    obtain ⟨c5, c6⟩ := own_cells hlv3
    have hid3 : h3 id = some (AObj.arr 38 5 (serRows m k slv ++ tail)) := by rw [hk3.old _ (by omega)]; exact hid
    simp [hk, hid3, hrow2, c5, c6, serA]
    refine hk2.out _ (hN.out _ _ _ (by simp [s18]) (by simp [s17]) ?_)
    have hset := zip_push serR serA m.series k slv lv x hx hlv
    refine ⟨slv ++ [lv], by simp [s3], by simp [s2], by omega, fun j hj hne hns => ?_, ?_, ?_, ?_⟩
    · simp at hns
      rw [upd_ne _ _ hns, hk3.old _ (by omega)]
      exact hold j hj hne hns
    · rw [upd_ne _ _ (by omega), hk3.old _ (by omega)]; simpa using ho'
    · have hrl2 := serRows_len (m := m) (k := k + 1) (slv := slv ++ [lv]) (by omega) (by simp [hlv])
      refine .inr ⟨id, tail, by rw [hrl, hrl2], ?_, hid1, hid2⟩
      rw [upd_same]
      have : (serRows m k slv ++ tail).set k (serR x lv) = serRows m (k + 1) (slv ++ [lv]) ++ tail := by
        rw [List.set_append_left _ _ (by rw [hrl]; exact hk)]; unfold serRows; rw [hset]
      rw [← this]; rfl
    · have htk : List.map (fun x => x.list) (List.take (k + 1) m.series) = List.map (fun x => x.list) (List.take k m.series) ++ [x.list] := by
        rw [List.take_add_one, hx]; simp
      rw [htk]
      refine Lists.mono (h := h3) (n := n3) ?_ (fun j hj1 hj2 => upd_ne _ _ (by omega)) (by omega)
      exact (hls.mono (fun j _ hj => rfl) (Nat.le_refl _)).push (n := n') (n1 := n3) ⟨fun j hj => hk3.old j (by omega)⟩ hn' (by omega) (by
        rcases hlv3 with ⟨rfl, h2⟩ | ⟨id', ex, rfl, hid', p1, p2⟩
        · exact .inl ⟨rfl, h2⟩
        · exact .inr ⟨id', ex, rfl, hid', by omega, p2⟩)
  · rintro s h3 n3 ⟨slv, s3, s2, hn3, hold, ho', hex, hls⟩ s17
    have hslen : slv.length = m.series.length := by have := hls.len; simpa using this
    have hex2 : ExSl h3 (n + 2 + 11) n1 38 5 sv (List.zipWith serR m.series slv) := by simpa [serRows] using hex
    have hls2 : Lists h3 n2 n3 (m.series.map (·.list)) slv := by simpa using hls
    clear hls hex
    have hiv3 : OwnSl h3 n1 n2 46 2 iv (m.iters.map itA) := hiv.mono (fun id hid => by
      have h1 := hii id hid
      refine hold id (by omega) (by omega) fun h2 => ?_
      have := hsi id h2
      omega) (Nat.le_refl _)
    refine wSeq ?_
    (refine wRgn fun K hk => ?_; simp [s3, ho', hil]; refine hk.out _ ?_; clear hk K)
    refine wRange (fun k s h' n' => ∃ ilv, s 3 = .ptr (n + 2 + 9) 3 0 0 ∧ s 2 = .ptr (n + 1) 3 0 0 ∧ n3 ≤ n' ∧ (∀ j, j < n3 → j ∉ iv.ids → h' j = h3 j) ∧ OwnSl h' n1 n2 46 2 iv (itRows m k ilv) ∧ Lists h' n3 n' ((m.iters.take k).map (·.rest)) ilv) m.iters.length (by have := hm.its; omega) (by decide) (by decide) (by decide) (by decide) (by simp) (by simp) ?_ ?_ ?_
    · refine ⟨[], by simp [s3], by simp [s2], by omega, fun j hj hns => rfl, ?_, ?_⟩
      · simpa [itRows] using hiv3
      · simpa using Lists.nil _ _ _
    · rintro k s h' n' hk ⟨ilv, s3, s2, hn', hold2, hex, hls⟩ s37 s36 K hN hE hB hR
      obtain ⟨x, hx⟩ : ∃ x, m.iters[k]? = some x := ⟨m.iters[k], List.getElem?_eq_getElem hk⟩
      have hlv : ilv.length = k := by have := hls.len; simp at this; omega
      have hrl := itRows_len (m := m) (by omega) hlv
      have ho3 : h' (n + 2 + 9) = some (.arr 25 3 [.agg [sv, iv, .int .i64 m.next]]) := by
        rw [hold2 _ (by omega) fun q => ?_]
        · exact ho'
        · have := hii _ q; omega
      rcases hex with ⟨_, h0⟩ | ⟨id, ex, rfl, hid, hid1, hid2⟩
      · rw [h0] at hrl; simp at hrl; omega
      clear hiv hiv3 c3 c4 hil hk1 hk2 ho'
      simp at hold2 hii
      refine wBlock' ?_
      (refine wRgn fun K hk => ?_; simp [s37]; refine hk.out _ ?_; clear hk K)
      have hrow := zip_at itR itA m.iters k ilv x hx hlv
      have hrow2 : ∀ hh, (itRows m k ilv)[k]'hh = itA x := fun hh => by
        have : (itRows m k ilv)[k]? = some (itA x) := hrow
        rw [List.getElem?_eq_getElem hh] at this; injection this
      refine wRgn' fun K2 hk2 => ?_
      simp [s3, ho3, hrl, hk, hid, hrow2, itA]
      refine doCallN (by simp) (fun h0 => s48' (smA_sz x.rest) (by simpa using hm.rst x (List.mem_of_getElem? hx)) h0 _) (fun r h' h'' n' q1 q2 => q1.mono (fun id hid => q2 id (q1.ids id hid).1) (Nat.le_refl _)) ?_
      intro hw3 lv h4 n4 hn4 hk4 hw4 hlv4
      simp at hn4 hk4 hlv4
      obtain ⟨c5, c6⟩ := own_cells hlv4
      have hid3 : h4 id = some (AObj.arr 46 2 (itRows m k ilv)) := by rw [hk4.old _ (by omega)]; exact hid
      simp [hk, hrl, hid3, hrow2, c5, c6, itA]
      refine hk2.out _ (hN.out _ _ _ (by simp [s37]) (by simp [s36]) ?_)
      have hset := zip_push itR itA m.iters k ilv lv x hx hlv
      refine ⟨ilv ++ [lv], by simp [s3], by simp [s2], by omega, fun j hj hns => ?_, ?_, ?_⟩
      · simp at hns
        rw [upd_ne _ _ hns, hk4.old _ (by omega)]
        exact hold2 j hj hns
      · have hrl2 := itRows_len (m := m) (k := k + 1) (ilv := ilv ++ [lv]) (by omega) (by simp [hlv])
        refine .inr ⟨id, ex, by rw [hrl, hrl2], ?_, hid1, hid2⟩
        rw [upd_same]
        have : (itRows m k ilv).set k (itR x lv) = itRows m (k + 1) (ilv ++ [lv]) := by unfold itRows; rw [hset]
        rw [← this]; rfl
      · have htk : List.map (fun x => x.rest) (List.take (k + 1) m.iters) = List.map (fun x => x.rest) (List.take k m.iters) ++ [x.rest] := by
          rw [List.take_add_one, hx]; simp
        rw [htk]
        refine Lists.mono (h := h4) (n := n4) ?_ (fun j hj1 hj2 => upd_ne _ _ (by omega)) (by omega)
        exact (hls.mono (fun j _ hj => rfl) (Nat.le_refl _)).push (n := n') (n1 := n4) ⟨fun j hj => hk4.old j (by omega)⟩ hn' (by omega) (by
          rcases hlv4 with ⟨rfl, h2⟩ | ⟨id', ex, rfl, hid', p1, p2⟩
          · exact .inl ⟨rfl, h2⟩
          · exact .inr ⟨id', ex, rfl, hid', by omega, p2⟩)
    · rintro s h4 n4 ⟨ilv, s3, s2, hn4, hold2, hex3, hls3⟩ s36
      have hilen : ilv.length = m.iters.length := by have := hls3.len; simpa using this
      have ho4 : h4 (n + 2 + 9) = some (.arr 25 3 [.agg [sv, iv, .int .i64 m.next]]) := by
        rw [hold2 _ (by omega) fun q => ?_]
        · exact ho'
        · have := hii _ q; omega
      have hn1' : h4 (n + 1) = some (AObj.arr 25 3 [AV.agg [AV.isl (some true) true [], AV.isl (some true) true [], AV.int IntKind.i64 0]]) := by
        rw [hold2 _ (by omega) fun q => by have := hii _ q; omega, hold _ (by omega) (by omega) fun q => by have := hsi _ q; omega, hk2.old _ (by omega), hk1.old _ (by omega)]
        simp
      (refine wRgn fun K hk => ?_; simp [s3, s2, ho4, hn1', c1, c2, c3, c4]; refine hk.out _ ?_; clear hk K)
      refine wRet' ?_
      simp [s2]
      refine ⟨⟨fun j hj => ?_⟩, ?_⟩
      · rw [hold2 _ (by omega) fun q => by have := hii _ q; omega, hold _ (by omega) (by omega) fun q => by have := hsi _ q; omega, hk2.old _ (by omega), hk1.old _ (by omega), upd_ne _ _ (by omega), upd_ne _ _ (by omega), upd_ne _ _ (by omega)]
      · refine ⟨n1, n2, n3, sv, iv, slv, ilv, by omega, by omega, by omega, by omega, rfl, ?_, ?_, ?_, ?_⟩
        · refine ExSl.mono (h := h3) ?_ (fun j hj => ?_) (Nat.le_refl _)
          · rcases hex2 with h1 | ⟨id, tail, h1, h2, h3, h4⟩
            · exact .inl h1
            · exact .inr ⟨id, tail, h1, h2, by omega, h4⟩
          · have := hsi _ hj
            rw [upd_ne _ _ (by omega), hold2 _ (by omega) fun q => by have := hii _ q; omega]
        · refine OwnSl.mono (h := h4) ?_ (fun j hj => ?_) (Nat.le_refl _)
          · simpa [itRows] using hex3
          · have := hii _ hj
            rw [upd_ne _ _ (by omega)]
        · refine hls2.mono (fun j h1 h2 => ?_) (Nat.le_refl _)
          rw [upd_ne _ _ (by omega), hold2 _ (by omega) fun q => by have := hii _ q; omega]
        · have := hls3.mono (h' := upd h4 (n + 1) (some (AObj.arr 25 3 [AV.agg [sv, iv, AV.int IntKind.i64 m.next]]))) (n1 := n4 + 1 + 2) (fun j h1 h2 => upd_ne _ _ (by omega)) (by omega)
          simpa using this
end Go.Proofs.Ytdbakmdcepkpmaa
