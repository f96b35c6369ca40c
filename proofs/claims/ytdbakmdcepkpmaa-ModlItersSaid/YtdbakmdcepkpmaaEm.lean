/- Do. -/
import Derived.Test.YtdbakmdcepkpmaaEl
import Derived.Test.YtdbakmdcepkpmaaEb
set_option linter.unusedSimpArgs false
set_option linter.unusedVariables false
namespace Go.Proofs.Ytdbakmdcepkpmaa
open Go.E3
def itM (m : Model) (o : Op) : Model × Res := ({ m with iters := (itDo m.iters o).1 }, ⟨(itDo m.iters o).2.1, 0, (itDo m.iters o).2.2⟩)
def modStep (m : Model) (o : Op) : Model × Res := if o.kind = 6 ∨ o.kind = 7 then itM m o else serDo m o
def modDo (m : Model) (o : Op) : Model × Res :=
  if bad o then (m, ⟨4, 0, []⟩) else if (modStep m o).2.err = 0 then modStep m o else (m, (modStep m o).2)
/-- How great a model may be. -/
structure Room (m : Model) (k : Nat) : Prop where
  ser : m.series.length ≤ k
  its : m.iters.length ≤ k
  lst : ∀ s ∈ m.series, s.list.length ≤ k
  rst : ∀ x ∈ m.iters, x.rest.length ≤ k
  nx0 : 0 ≤ m.next
  nx1 : m.next ≤ k
theorem Room.small {m : Model} {k : Nat} (r : Room m k) (hk : k < 2 ^ 39) : Small m :=
  ⟨by have := r.ser; omega, by have := r.its; omega, fun s hs => by have := r.lst s hs; omega, fun s hs => by have := r.rst s hs; omega⟩
theorem frz_serP {h : Hp} {lo n : Nat} {D : Nat → Bool} (hD : ∀ id, lo ≤ id → D id = true) (k : Nat) {sp : List (Series × AV)} (hl : ∀ p ∈ sp, SmpL h lo n p.2 p.1.list) : mapO (frz D h (k + 4)) (sp.map serP) = some ((sp.map (·.1)).map serA) := by
  induction sp with
  | nil => rfl
  | cons p sp ih =>
    have h1 := (hl p (by simp)).frz hD k
    have e : frz D h (k + 4) (serP p) = some (serA p.1) := by
      simp [serP, serR, serA, h1]
    simp only [List.map_cons, mapO, e, ih fun q hq => hl q (by simp [hq])]
theorem frz_itP {h : Hp} {lo n : Nat} {D : Nat → Bool} (hD : ∀ id, lo ≤ id → D id = true) (k : Nat) {ip : List (Iter × AV)} (hl : ∀ p ∈ ip, SmpL h lo n p.2 p.1.rest) : mapO (frz D h (k + 4)) (ip.map itP) = some ((ip.map (·.1)).map itA) := by
  induction ip with
  | nil => rfl
  | cons p ip ih =>
    have h1 := (hl p (by simp)).frz hD k
    have e : frz D h (k + 4) (itP p) = some (itA p.1) := by
      simp [itP, itR, itA, h1]
    simp only [List.map_cons, mapO, e, ih fun q hq => hl q (by simp [hq])]
theorem ModP.frz {h : Hp} {lo n : Nat} {sv iv rl : AV} {sp : List (Series × AV)} {ip : List (Iter × AV)} {l : List Sample} (H : ModP h lo n sv iv rl sp ip l) {D : Nat → Bool} (hD : ∀ id, lo ≤ id → D id = true) (k : Nat) :
    frz D h (k + 5) sv = some (slA ((sp.map (·.1)).map serA)) ∧ frz D h (k + 5) iv = some (slA ((ip.map (·.1)).map itA)) ∧ frz D h (k + 5) rl = some (slA (l.map smA)) :=
  ⟨frz_sl H.ser.elems (fun id hid => hD id (H.ser.ids id hid).1) (frz_serP hD k H.ls), frz_sl H.its.elems (fun id hid => hD id (H.its.ids id hid).1) (frz_itP hD k H.li), H.rs.frz hD (k + 2)⟩
/-- What Do hands back. -/
def DoR (h' : Hp) (n n' : Nat) (r : AV) (m : Model) (q : Res) : Prop :=
  ∃ sv iv sp ip rl, r = .tup [.agg [sv, iv, .int .i64 m.next], resB q.err q.iter rl] ∧ ModP h' n n' sv iv rl sp ip q.list ∧ m.series = sp.map (·.1) ∧ m.iters = ip.map (·.1)
theorem ModI.lower {h : Hp} {lo lo' n : Nat} {sv iv : AV} {sp : List (Series × AV)} {ip : List (Iter × AV)} (H : ModI h lo n sv iv sp ip) (hlo : lo' ≤ lo) : ModI h lo' n sv iv sp ip := by
  refine ⟨?_, ?_, fun p hp => (H.ls p hp).mono (fun _ _ => rfl) hlo (Nat.le_refl _), fun p hp => (H.li p hp).mono (fun _ _ => rfl) hlo (Nat.le_refl _), H.apart⟩
  · rcases H.ser with h0 | ⟨id, tail, h1, h2, h3, h4⟩
    · exact .inl h0
    · exact .inr ⟨id, tail, h1, h2, by omega, h4⟩
  · rcases H.its with h0 | ⟨id, ex, h1, h2, h3, h4⟩
    · exact .inl h0
    · exact .inr ⟨id, ex, h1, h2, by omega, h4⟩
theorem ModP.lower {h : Hp} {lo lo' n : Nat} {sv iv rl : AV} {sp : List (Series × AV)} {ip : List (Iter × AV)} {l : List Sample} (H : ModP h lo n sv iv rl sp ip l) (hlo : lo' ≤ lo) : ModP h lo' n sv iv rl sp ip l := by
  refine ⟨?_, ?_, fun p hp => (H.ls p hp).mono (fun _ _ => rfl) hlo (Nat.le_refl _), fun p hp => (H.li p hp).mono (fun _ _ => rfl) hlo (Nat.le_refl _), H.rs.mono (fun _ _ => rfl) hlo (Nat.le_refl _), H.apart⟩
  · rcases H.ser with h0 | ⟨id, ex, tail, h1, h2, h3, h4⟩
    · exact .inl h0
    · exact .inr ⟨id, ex, tail, h1, h2, by omega, h4⟩
  · rcases H.its with h0 | ⟨id, ex, tail, h1, h2, h3, h4⟩
    · exact .inl h0
    · exact .inr ⟨id, ex, tail, h1, h2, by omega, h4⟩
/-- Still, in a call. -/
theorem callStill {bad : List Nat} {m : Model} (hm : Small m) {s : Nat → AV} {h : Hp} {n : Nat} {K : AV → Hp → Nat → Prop} (hbad : ∀ id ∈ bad, id < n)
    (hK : (∀ id, h id ≠ none → id < n) → ∀ sv iv sp ip h' n', n ≤ n' → Keeps h n h' → (∀ id, h' id ≠ none → id < n') → m.series = sp.map (·.1) → m.iters = ip.map (·.1) → ModI h' n n' sv iv sp ip → K (.agg [sv, iv, .int .i64 m.next]) h' n') : doCall Try.prog 26 [modA m] true bad ⟨s, h, n⟩ K := by
  refine doCallQ (R := fun r h' n' => ∃ sv iv sp ip, r = .agg [sv, iv, .int .i64 m.next] ∧ m.series = sp.map (·.1) ∧ m.iters = ip.map (·.1) ∧ ModI h' n n' sv iv sp ip) hbad (fun h0 => (s26 hm h0 n).mono fun r h' n' ⟨q1, q2⟩ => ⟨q1, q2.ids⟩) ?_ ?_
  · rintro r h' h'' n' ⟨sv, iv, sp, ip, e1, e2, e3, H⟩ hh
    exact ⟨sv, iv, sp, ip, e1, e2, e3, H.mono (fun id h1 _ => hh id h1) (Nat.le_refl _)⟩
  · rintro hwf r h' n' h1 h2 h3 ⟨sv, iv, sp, ip, rfl, e2, e3, H⟩
    exact hK hwf sv iv sp ip h' n' h1 h2 h3 e2 e3 H
set_option maxHeartbeats 4000000 in
theorem s11o {m : Model} {k : Nat} (hm : Room m k) (hk : k < 2 ^ 38) (o : Op) (h : Hp) (n : Nat) : CallsA Try.prog 11 [modA m, opA o] h n fun r h' n' => Keeps h n h' ∧ DoR h' n n' r (modDo m o).1 (modDo m o).2 := by
  refine CallsA.wf fun hwf => ?_
  refine e11 (by simp) ?_
  have hsm := hm.small (by omega)
  rw [a11, r11]
  (refine wRgn fun K hk => ?_; simp [modA, opA, slA]; refine hk.out _ ?_; clear hk K)
  refine wSeq ?_
  refine wRgn fun K hk => ?_
  simp
  refine PureF.doCall (s25 o) fun n1 hn1 => ?_
  simp only at hn1
  simp
  refine hk.out _ ?_
  clear hk K
  refine wCond (bad o) (by simp) (fun hb => ?_) (fun hb => wSkip ?_)
  · refine wSeq ?_
    refine wRgn fun K hk => ?_
    simp
    refine callStill hsm (by simp) fun hw1 sv iv sp ip h2 n2 hn2 hk2 hw2 e1 e2 H => ?_
    have c := mut_cells H.ser.mut
    have c' := mut_cells H.its.mut
    have b1 : h2 (n + 2) = some (AObj.arr 25 3 [AV.agg [AV.isl (some true) true [], AV.isl (some true) true [], AV.int IntKind.i64 0]]) := by rw [hk2.old _ (by omega)]; simp
    have b2 : h2 (n + 3) = some (AObj.arr 32 3 [AV.agg [AV.int IntKind.i64 0, AV.int IntKind.i64 0, AV.isl (some true) true []]]) := by rw [hk2.old _ (by omega)]; simp
    simp [b1, b2, c, c']
    refine hk.out _ ?_
    clear hk K
    refine wRet (retV (v := .tup [.agg [sv, iv, .int .i64 m.next], resB 4 0 nilA]) (by simp [resB, nilA]) ?_)
    have hold : ∀ j, j < n ∨ n + 4 ≤ j → ∀ a b, upd (upd h2 (n + 2) a) (n + 3) b j = h2 j := fun j hj a b => by (repeat (first | rw [upd_ne _ _ (by omega)] | rw [if_neg (by omega)]))
    have hd : modDo m o = (m, ⟨4, 0, []⟩) := by unfold modDo; rw [if_pos hb]
    rw [hd]
    refine ⟨⟨fun j hj => by rw [hold j (by omega), hk2.old j (by omega)]; (repeat (first | rw [upd_ne _ _ (by omega)] | rw [if_neg (by omega)]))⟩, sv, iv, sp, ip, nilA, rfl, ?_, e1, e2⟩
    exact (H.toP.mono (fun j h1 h2 => hold j (by omega) _ _) (by omega)).lower (by omega)
  · have hdo : modDo m o = if (modStep m o).2.err = 0 then modStep m o else (m, (modStep m o).2) := by unfold modDo; rw [if_neg (by simp [hb])]
    refine wRgn fun K hk => ?_
    simp
    refine callStill hsm (by simp) fun hw1 sv iv sp ip h2 n2 hn2 hk2 hw2 e1 e2 H => ?_
    have c := mut_cells H.ser.mut
    have c' := mut_cells H.its.mut
    simp [c, c']
    refine hk.out _ ?_
    clear hk K
    rw [upd_upd]
    (refine wRgn fun K hk => ?_; simp []; refine hk.out _ ?_; clear hk K)
    refine wState fun s h3 n3 hs hh3 hn3 => ?_
    have hold : ∀ j, j ≠ n1 + 2 → j ≠ n2 → h3 j = h2 j := fun j h1 h2 => by rw [hh3, upd_ne _ _ h2, upd_ne _ _ h1]
    have hp2 : h3 (n1 + 2) = mbox sv iv m.next := by rw [hh3, upd_ne _ _ (by omega), upd_same]; rfl
    have hq2 : h3 n2 = some (.arr 32 3 [.agg [.int .i64 0, .int .i64 0, .isl (some true) true []]]) := by rw [hh3, upd_same]
    have H2 : ModI h3 (n1 + 4) n2 sv iv sp ip := H.mono (fun j h1 h2 => hold j (by omega) (by omega)) (Nat.le_refl _)
    have hlow : ∀ j, j < n1 → h3 j = upd (upd (upd (upd h n (some (.arr 25 3 [modA m]))) (n + 1) (some (.arr 28 8 [opA o]))) (n + 2) (some (.arr 25 3 [.agg [nilA, nilA, .int .i64 0]]))) (n + 3) (some (.arr 32 3 [.agg [.int .i64 0, .int .i64 0, nilA]])) j := fun j hj => by
      rw [hold j (by omega) (by omega), hk2.old j (by omega)]; rfl
    have b2 : h3 (n + 1) = some (.arr 28 8 [opA o]) := by rw [hlow _ (by omega)]; (repeat (first | rw [upd_ne _ _ (by omega)] | rw [if_neg (by omega)])); simp
    simp only [opA] at b2
    have t2 : s 2 = .ptr n 3 0 0 := by rw [hs]; simp
    have t3 : s 3 = .ptr (n + 1) 8 0 0 := by rw [hs]; simp
    have t4 : s 4 = .ptr (n + 2) 3 0 0 := by rw [hs]; simp
    have t5 : s 5 = .ptr (n + 3) 3 0 0 := by rw [hs]; simp
    have t6 : s 6 = .ptr (n1 + 2) 3 0 0 := by rw [hs]; simp
    have t7 : s 7 = .ptr n2 3 0 0 := by rw [hs]; simp
    clear hs hh3
    refine seqJ (fun st => st.s 2 = .ptr n 3 0 0 ∧ st.s 4 = .ptr (n + 2) 3 0 0 ∧ st.s 5 = .ptr (n + 3) 3 0 0 ∧ st.s 6 = .ptr (n1 + 2) 3 0 0 ∧ st.s 7 = .ptr n2 3 0 0 ∧ n2 < st.n ∧ (∀ j, j < n1 → st.h j = upd (upd (upd (upd h n (some (.arr 25 3 [modA m]))) (n + 1) (some (.arr 28 8 [opA o]))) (n + 2) (some (.arr 25 3 [.agg [nilA, nilA, .int .i64 0]]))) (n + 3) (some (.arr 32 3 [.agg [.int .i64 0, .int .i64 0, nilA]])) j) ∧
      ∃ sv' iv' nx' sp' ip' rl, st.h (n1 + 2) = mbox sv' iv' nx' ∧ st.h n2 = some (.arr 32 3 [resB (modStep m o).2.err (modStep m o).2.iter rl]) ∧ ModP st.h (n1 + 4) st.n sv' iv' rl sp' ip' (modStep m o).2.list ∧ ((modStep m o).2.err = 0 → (modStep m o).1 = ⟨sp'.map (·.1), ip'.map (·.1), nx'⟩)) ?_ ?_
    · -- an iterator's op, or a series'
      have hl1 : ip.length < 2 ^ 39 := by have := hm.its; rw [e2] at this; simp at this; omega
      have hl2 : ∀ q ∈ ip, q.1.rest.length < 2 ^ 39 := fun q hq => by have := hm.rst q.1 (by rw [e2]; exact List.mem_map_of_mem hq); omega
      have hit : ∀ (h4 : Hp) (n4 : Nat) (iv' : AV) (ip' : List (Iter × AV)) (rl : AV) (N : Nat), n3 ≤ N → N ≤ n4 → (o.kind = 6 ∨ o.kind = 7) → (∀ j, j < N → j ≠ n1 + 2 → (j < n1 + 4 ∨ n2 ≤ j) → h4 j = h3 j) → h4 (n1 + 2) = mbox sv iv' m.next → ModP h4 (n1 + 4) n4 sv iv' rl sp ip' (itDo (ip.map (·.1)) o).2.2 → ip'.map (·.1) = (itDo (ip.map (·.1)) o).1 →
          ∀ s' : Nat → AV, s' 2 = s 2 → s' 4 = s 4 → s' 5 = s 5 → s' 6 = s 6 → s' 7 = s 7 → (fun st : St => st.s 2 = .ptr n 3 0 0 ∧ st.s 4 = .ptr (n + 2) 3 0 0 ∧ st.s 5 = .ptr (n + 3) 3 0 0 ∧ st.s 6 = .ptr (n1 + 2) 3 0 0 ∧ st.s 7 = .ptr n2 3 0 0 ∧ n2 < st.n ∧ (∀ j, j < n1 → st.h j = upd (upd (upd (upd h n (some (.arr 25 3 [modA m]))) (n + 1) (some (.arr 28 8 [opA o]))) (n + 2) (some (.arr 25 3 [.agg [nilA, nilA, .int .i64 0]]))) (n + 3) (some (.arr 32 3 [.agg [.int .i64 0, .int .i64 0, nilA]])) j) ∧
      ∃ sv' iv' nx' sp' ip' rl, st.h (n1 + 2) = mbox sv' iv' nx' ∧ st.h n2 = some (.arr 32 3 [resB (modStep m o).2.err (modStep m o).2.iter rl]) ∧ ModP st.h (n1 + 4) st.n sv' iv' rl sp' ip' (modStep m o).2.list ∧ ((modStep m o).2.err = 0 → (modStep m o).1 = ⟨sp'.map (·.1), ip'.map (·.1), nx'⟩)) ⟨s', upd h4 n2 (some (.arr 32 3 [resB (itDo (ip.map (·.1)) o).2.1 0 rl])), n4⟩ := by
        intro h4 n4 iv' ip' rl N hN hN4 hk67 q1 q2 q3 q4 s' z2 z4 z5 z6 z7
        have hst : modStep m o = itM m o := by unfold modStep; rw [if_pos hk67]
        have hq4 : h4 n2 = some (.arr 32 3 [.agg [.int .i64 0, .int .i64 0, .isl (some true) true []]]) := by rw [q1 n2 (by omega) (by omega) (by omega)]; exact hq2
        refine ⟨z2.trans t2, z4.trans t4, z5.trans t5, z6.trans t6, z7.trans t7, by simp only; omega, fun j hj => ?_, sv, iv', m.next, sp, ip', rl, ?_, ?_, ?_, fun _ => ?_⟩
        · simp only; rw [upd_ne _ _ (by omega), q1 j (by omega) (by omega) (by omega)]; exact hlow j hj
        · simp only; rw [upd_ne _ _ (by omega)]; exact q2
        · simp only [upd_same, hst, itM, e2]
        · rw [hst]
          simp only [itM, e2]
          refine q3.mono' (fun id _ _ e sz els e2 he' => upd_ne _ _ ?_) (Nat.le_refl _)
          rintro rfl
          rw [hq4] at e2
          cases e2; simp at he'
        · rw [hst]
          simp only [itM, q4, ← e1, e2]
      have htwo : ∀ (Q : Out → St → Prop), True := fun _ => trivial
      clear htwo
      by_cases h6 : o.kind = 6
      · (refine wRgn fun K hk => ?_; simp [t3, b2, h6]; refine hk.out _ ?_; clear hk K)
        refine wCond' true (by simp) (fun _ => ?_) (fun hc => by cases hc)
        refine wRgn' fun K hk => ?_
        simp [t3, b2, t6]
        refine doCallF (s27 (o := o) hp2 (by omega) (by omega) (by omega) H2 hl1 hl2) ?_
        rintro r h4 n4 ⟨q1, iv', ip', rl, rfl, q2, q3, q4⟩ hn4 hw4
        have hq4 : h4 n2 = some (.arr 32 3 [.agg [.int .i64 0, .int .i64 0, .isl (some true) true []]]) := by rw [q1 n2 (by omega) (by omega) (by omega)]; exact hq2
        have c5 := q3.rs.cells
        simp [t7, hq4, resB, c5]
        refine hk.out _ (hit h4 n4 iv' ip' rl _ ?_ hn4 (.inl h6) q1 q2 q3 q4 _ ?_ ?_ ?_ ?_ ?_) <;> first | omega | simp
      · by_cases h7 : o.kind = 7
        · (refine wRgn fun K hk => ?_; simp [t3, b2, h6, h7]; refine hk.out _ ?_; clear hk K)
          refine wCond' true (by simp) (fun _ => ?_) (fun hc => by cases hc)
          refine wRgn' fun K hk => ?_
          simp [t3, b2, t6]
          refine doCallF (s27 (o := o) hp2 (by omega) (by omega) (by omega) H2 hl1 hl2) ?_
          rintro r h4 n4 ⟨q1, iv', ip', rl, rfl, q2, q3, q4⟩ hn4 hw4
          have hq4 : h4 n2 = some (.arr 32 3 [.agg [.int .i64 0, .int .i64 0, .isl (some true) true []]]) := by rw [q1 n2 (by omega) (by omega) (by omega)]; exact hq2
          have c5 := q3.rs.cells
          simp [t7, hq4, resB, c5]
          refine hk.out _ (hit h4 n4 iv' ip' rl _ ?_ hn4 (.inr h7) q1 q2 q3 q4 _ ?_ ?_ ?_ ?_ ?_) <;> first | omega | simp
        · (refine wRgn fun K hk => ?_; simp [t3, b2, h6, h7]; refine hk.out _ ?_; clear hk K)
          refine wCond' false (by simp [h7]) (fun hc => by cases hc) (fun _ => ?_)
          refine wRgn' fun K hk => ?_
          simp [t3, b2, t6]
          refine doCallF (s28 (o := o) hp2 (by omega) (by omega) (by omega) H2 e1 e2 (by have := hm.ser; rw [e1] at this; simp at this; omega) hl1 (fun q hq => by have := hm.lst q.1 (by rw [e1]; exact List.mem_map_of_mem hq); omega) ⟨hm.nx0, by have := hm.nx1; omega⟩) ?_
          rintro r h4 n4 ⟨q1, sv', iv', nx', sp', ip', rl, rfl, q2, q3, q4⟩ hn4 hw4
          have hst : modStep m o = serDo m o := by unfold modStep; rw [if_neg (by omega)]
          have hq4 : h4 n2 = some (.arr 32 3 [.agg [.int .i64 0, .int .i64 0, .isl (some true) true []]]) := by rw [q1 n2 (by omega) (by omega) (by omega)]; exact hq2
          have c5 := q3.rs.cells
          simp [t7, hq4, resB, c5]
          refine hk.out _ ⟨by simp [t2], by simp [t4], by simp [t5], by simp [t6], by simp [t7], by simp only; omega, fun j hj => ?_, sv', iv', nx', sp', ip', rl, ?_, ?_, ?_, fun q => ?_⟩
          · simp only; rw [upd_ne _ _ (by omega), q1 j (by omega) (by omega) (by omega)]; exact hlow j hj
          · simp only; rw [upd_ne _ _ (by omega)]; exact q2
          · simp only [upd_same, hst, resB]
          · rw [hst]
            refine q3.mono' (fun id _ _ e sz els e2 he' => upd_ne _ _ ?_) (Nat.le_refl _)
            rintro rfl
            rw [hq4] at e2
            cases e2; simp at he'
          · rw [hst] at q ⊢; exact q4 q
    · rintro ⟨s, h4, n4⟩ ⟨t2, t4, t5, t6, t7, hn4, hlow, sv', iv', nx', sp', ip', rl, q1, q2, q3, q4⟩
      simp only at t2 t4 t5 t6 t7 hn4 hlow q1 q2 q3
      have b0 : h4 n = some (.arr 25 3 [modA m]) := by rw [hlow _ (by omega)]; (repeat (first | rw [upd_ne _ _ (by omega)] | rw [if_neg (by omega)])); simp
      have b4 : h4 (n + 2) = some (.arr 25 3 [.agg [.isl (some true) true [], .isl (some true) true [], .int .i64 0]]) := by rw [hlow _ (by omega)]; (repeat (first | rw [upd_ne _ _ (by omega)] | rw [if_neg (by omega)])); simp [nilA]
      have b5 : h4 (n + 3) = some (.arr 32 3 [.agg [.int .i64 0, .int .i64 0, .isl (some true) true []]]) := by rw [hlow _ (by omega)]; simp [nilA]
      have hkeep : ∀ j, j < n → h4 j = h j := fun j hj => by rw [hlow j (by omega)]; (repeat (first | rw [upd_ne _ _ (by omega)] | rw [if_neg (by omega)]))
      have c1 := mut_cells q3.ser
      have c2 := mut_cells q3.its
      have c3 := q3.rs.cells
      simp only [modA, slA] at b0
      simp only [resB] at q2
      simp only [mbox] at q1
      refine wSeq ?_
      (refine wRgn fun K hk => ?_; simp [t7, q2]; refine hk.out _ ?_; clear hk K)
      refine wCond (!decide ((modStep m o).2.err = 0)) (by simp; rw [Bool.eq_iff_iff]; simp) (fun hc => ?_) (fun hc => wSkip ?_)
      · have herr : ¬ (modStep m o).2.err = 0 := by simpa using hc
        rw [hdo, if_neg herr]
        refine wSeq ?_
        refine wRgn fun K hk => ?_
        simp [t2, t7, b0, q2]
        refine ⟨by omega, ?_⟩
        refine callStill hsm (by simp) fun hw1 sv2 iv2 sp2 ip2 h5 n5 hn5 hk5 hw5 d1 d2 H5 => ?_
        have c5 := mut_cells H5.ser.mut
        have c6 := mut_cells H5.its.mut
        have b4' : h5 (n + 2) = some (.arr 25 3 [.agg [.isl (some true) true [], .isl (some true) true [], .int .i64 0]]) := by rw [hk5.old _ (by omega)]; exact b4
        have b5' : h5 (n + 3) = some (.arr 32 3 [.agg [.int .i64 0, .int .i64 0, .isl (some true) true []]]) := by rw [hk5.old _ (by omega)]; exact b5
        simp [t4, t5, t7, b4', b5', c3, c5, c6]
        refine ⟨by omega, ?_⟩
        refine hk.out _ ?_
        clear hk K
        refine wRet (retV (v := .tup [.agg [sv2, iv2, .int .i64 m.next], resB (modStep m o).2.err (modStep m o).2.iter rl]) (by simp [resB, t4, t5]) ?_)
        have hold : ∀ j, j ≠ n + 2 → j ≠ n + 3 → ∀ a b, upd (upd h5 (n + 2) a) (n + 3) b j = h5 j := fun j h1 h2 a b => by rw [upd_ne _ _ h2, upd_ne _ _ h1]
        have H6 := (H5.toP.mono (h' := upd (upd h5 (n + 2) (some (.arr 25 3 [.agg [sv2, iv2, .int .i64 m.next]]))) (n + 3) (some (.arr 32 3 [.agg [.int .i64 (modStep m o).2.err, .int .i64 (modStep m o).2.iter, rl]]))) (n1 := n5) (fun j h1 h2 => hold j (by omega) (by omega) _ _) (by omega)).lower (lo' := n) (by omega)
        refine ⟨⟨fun j hj => by rw [hold j (by omega) (by omega), hk5.old j (by omega)]; exact hkeep j hj⟩, sv2, iv2, sp2, ip2, rl, rfl, ?_, d1, d2⟩
        refine ⟨H6.ser, H6.its, H6.ls, H6.li, q3.rs.mono (fun j hj => by
          have := q3.rs.ids j hj
          rw [hold j (by omega) (by omega), hk5.old j (by omega)]) (by omega) (by omega), .cons (fun x hx j hj hj2 => ?_) H5.apart⟩
        have h1 := (q3.rs.ids j hj).2
        have h2 := (H5.toP.ids x (.tail _ hx) j hj2).1
        omega
      · have herr : (modStep m o).2.err = 0 := by simpa using hc
        rw [hdo, if_pos herr]
        refine wRgn fun K hk => ?_
        simp [t6, t7, q1, q2, t4, t5, b4, b5, c1, c2, c3]
        refine ⟨by omega, by omega, ?_⟩
        refine hk.out _ ?_
        clear hk K
        have hq := q4 herr
        refine wRet' (retV (v := .tup [.agg [sv', iv', .int .i64 nx'], resB (modStep m o).2.err (modStep m o).2.iter rl]) (by simp [resB, t4, t5]) ?_)
        have hold : ∀ j, j ≠ n + 2 → j ≠ n + 3 → ∀ a b, upd (upd h4 (n + 2) a) (n + 3) b j = h4 j := fun j h1 h2 a b => by rw [upd_ne _ _ h2, upd_ne _ _ h1]
        refine ⟨⟨fun j hj => by rw [hold j (by omega) (by omega)]; exact hkeep j hj⟩, sv', iv', sp', ip', rl, by rw [hq], ?_, by rw [hq], by rw [hq]⟩
        exact (q3.mono (fun j h1 h2 => hold j (by omega) (by omega) _ _) (by omega)).lower (by omega)
/-- Do, as what answers, and turns nothing. -/
theorem s11 {m : Model} {k : Nat} (hm : Room m k) (hk : k < 2 ^ 38) (o : Op) : PureF Try.prog 11 [modA m, opA o] (.tup [modA (modDo m o).1, resA (modDo m o).2]) := by
  intro h n
  refine CallsA.pure 8 ((s11o hm hk o h n).mono ?_)
  rintro r h' n' ⟨q1, sv, iv, sp, ip, rl, rfl, H, e1, e2⟩
  refine ⟨q1, ?_⟩
  obtain ⟨f1, f2, f3⟩ := H.frz (D := fun id => decide (n ≤ id)) (fun id hid => by simpa using hid) 1
  simp [resB, f1, f2, f3, modA, resA, e1, e2]
end Go.Proofs.Ytdbakmdcepkpmaa
