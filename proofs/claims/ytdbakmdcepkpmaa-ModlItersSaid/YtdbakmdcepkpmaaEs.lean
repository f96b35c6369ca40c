/- ModlIters. -/
import Derived.Test.YtdbakmdcepkpmaaEr
import Derived.Test.YtdbakmdcepkpmaaLve
set_option linter.unusedSimpArgs false
set_option linter.unusedVariables false
namespace Go.Proofs.Ytdbakmdcepkpmaa
open Go.E3
def intA (x : Int) : AV := .int .i64 x
def runM (l : List Int) : Nat → Model
  | 0 => ⟨[], [], 0⟩
  | k + 1 => (modDo (runM l k) (opN (l.getD k 0) k)).1
/-- A model in memory, its lists' flags not told. -/
def ModV (v : AV) (m : Model) : Prop := ∃ e1 f1 e2 f2, v = .agg [.isl e1 f1 (m.series.map serA), .isl e2 f2 (m.iters.map itA), .int .i64 m.next]
theorem ModV.of (m : Model) : ModV (modA m) m := ⟨_, _, _, _, rfl⟩
theorem room_run (l : List Int) : ∀ k, Room (runM l k) k
  | 0 => room_empty
  | k + 1 => (room_run l k).step _
theorem ids_run (l : List Int) : ∀ k, IdLe (runM l k)
  | 0 => fun x hx => by simp [runM] at hx
  | k + 1 => (ids_run l k).step _
theorem and3 (n : Int) : bits .and .i64 n 3 = n % 4 := by
  have h3 : (BitVec.ofInt 64 3).toNat = 2 ^ 2 - 1 := by decide
  have key : (BitVec.ofInt 64 n &&& BitVec.ofInt 64 3).toNat = (n % ((2 ^ 64 : Nat) : Int)).toNat % 2 ^ 2 := by
    rw [BitVec.toNat_and, BitVec.toNat_ofInt, h3, Nat.and_two_pow_sub_one_eq_mod]
  show IntKind.i64.wrap ((BitVec.ofInt 64 n &&& BitVec.ofInt 64 3).toNat : Nat) = n % 4
  rw [key, IntKind.wrap_i64]
  omega
theorem findS_there {l : List Series} {id : Int} (h : (findS l id).2 = true) : ∃ s, l[(findS l id).1]? = some s := by
  unfold findS at h ⊢
  cases hf : l.findIdx? (fun s => decide (s.id ≥ id)) with
  | none => rw [hf] at h; cases h
  | some i =>
    have hi := (List.findIdx?_eq_some_iff_getElem.1 hf).1
    exact ⟨l[i], List.getElem?_eq_getElem hi⟩
theorem open_read (m : Model) (S F T : Int) (hid : IdLe m) :
    (¬ (modDo m ⟨5, S, 0, 0, 0, F, T, 0⟩).2.err = 0 → (modDo m ⟨5, S, 0, 0, 0, F, T, 0⟩).2.err = (modDo m ⟨2, S, 0, 0, 0, F, T, 0⟩).2.err ∨ (modDo m ⟨5, S, 0, 0, 0, F, T, 0⟩).2.err = 5) ∧
    ((modDo m ⟨5, S, 0, 0, 0, F, T, 0⟩).2.err = 0 → (modDo m ⟨2, S, 0, 0, 0, F, T, 0⟩).2.err = 0 ∧ (∀ k, Room m k → (modDo m ⟨2, S, 0, 0, 0, F, T, 0⟩).2.list.length ≤ k) ∧ Has (modDo m ⟨5, S, 0, 0, 0, F, T, 0⟩).1 (modDo m ⟨5, S, 0, 0, 0, F, T, 0⟩).2.iter (modDo m ⟨2, S, 0, 0, 0, F, T, 0⟩).2.list) := by
  by_cases hs : S < 0 ∨ 16 ≤ S
  · have hb : ∀ k, bad ⟨k, S, 0, 0, 0, F, T, 0⟩ = if k = 1 ∨ k = 2 ∨ k = 3 ∨ k = 4 ∨ k = 5 then true else bad ⟨k, S, 0, 0, 0, F, T, 0⟩ := by
      intro k
      split
      · rename_i hk
        unfold bad
        simp only [hk, if_true]
        rcases hs with h | h <;> simp [h]
      · rfl
    have h2 : bad ⟨2, S, 0, 0, 0, F, T, 0⟩ = true := by rw [hb]; simp
    have h5 : bad ⟨5, S, 0, 0, 0, F, T, 0⟩ = true := by rw [hb]; simp
    unfold modDo
    rw [if_pos h2, if_pos h5]
    exact ⟨fun _ => .inl rfl, fun h => by simp at h⟩
  · have g1 : ¬ S < 0 := fun h => hs (.inl h)
    have g2 : ¬ 16 ≤ S := fun h => hs (.inr h)
    have h2 : ¬ bad ⟨2, S, 0, 0, 0, F, T, 0⟩ = true := by simp [bad, g1, g2]
    have h5 : ¬ bad ⟨5, S, 0, 0, 0, F, T, 0⟩ = true := by simp [bad, g1, g2]
    unfold modDo
    rw [if_neg h2, if_neg h5]
    have e2 : modStep m ⟨2, S, 0, 0, 0, F, T, 0⟩ = serDo m ⟨2, S, 0, 0, 0, F, T, 0⟩ := by simp [modStep]
    have e5 : modStep m ⟨5, S, 0, 0, 0, F, T, 0⟩ = serDo m ⟨5, S, 0, 0, 0, F, T, 0⟩ := by simp [modStep]
    rw [e2, e5]
    cases hth : (findS m.series S).2 with
    | false => simp [serDo, hth]
    | true =>
      obtain ⟨s, hsx⟩ := findS_there hth
      have r2 : serDo m ⟨2, S, 0, 0, 0, F, T, 0⟩ = (m, ⟨0, 0, within s.list F T⟩) := by simp [serDo, hth, hsx]
      rw [r2]
      by_cases h8 : 8 ≤ m.iters.length
      · have r5 : serDo m ⟨5, S, 0, 0, 0, F, T, 0⟩ = (m, ⟨5, 0, []⟩) := by simp [serDo, hth, hsx, h8]
        rw [r5]
        simp
      · have r5 : serDo m ⟨5, S, 0, 0, 0, F, T, 0⟩ = ({ m with iters := m.iters ++ [⟨m.next + 1, within s.list F T⟩], next := m.next + 1 }, ⟨0, m.next + 1, []⟩) := by simp [serDo, hth, hsx, h8]
        rw [r5]
        refine ⟨fun h => by simp at h, fun _ => ⟨rfl, fun k hk => ?_, ⟨?_, Int.le_refl _⟩⟩⟩
        · have := length_within s.list F T
          have := hk.lst s (List.mem_of_getElem? hsx)
          simp only [if_true]
          omega
        · have hn : m.iters.find? (isId (m.next + 1)) = none := List.find?_eq_none.2 fun x hx => by have := hid x hx; simp [isId]; omega
          simp only [if_true]
          rw [List.find?_append, hn]
          simp [isId]
set_option maxRecDepth 100000 in
theorem s6 (l more : List Int) (a b c : Int) (h : Hp) (n : Nat) : CallsA Try.prog 6 [slA (l.map intA), .int .i64 a, .int .i64 b, slA (more.map intA), .int .i64 c] h n fun r h' _ => Keeps h n h' ∧ r = .bool true := by
  refine u6 (by simp) fun hwf => ?_
  rw [b6, q6]
  repeat refine wSeq ?_
  (refine wRgn fun K hk => ?_; simp []; refine hk.out _ ?_; clear hk K)
  repeat refine wSeq ?_
  (refine wRgn fun K hk => ?_; simp []; refine hk.out _ ?_; clear hk K)
  repeat refine wSeq ?_
  (refine wRgn fun K hk => ?_; simp []; refine hk.out _ ?_; clear hk K)
  repeat refine wSeq ?_
  refine wFor (fun k s h' n' => s 0 = slA (l.map intA) ∧ s 1 = .int .i64 a ∧ s 2 = .int .i64 b ∧ s 3 = slA (more.map intA) ∧ s 4 = .int .i64 c ∧ ModV (s 11) (runM l k) ∧ h' = h ∧ n ≤ n') (fun k => decide (k < l.length) && decide (k < 60)) (min l.length 60) (by omega) (fun k hk => by simp at hk; omega) (by simp) ?_ ?_ ?_ ?_
  · exact ⟨by simp, by simp, by simp, by simp, by simp, ⟨some true, true, some true, true, by simp [runM]⟩, rfl, by omega⟩
  · rintro k s h' n' hk ⟨s0, s1, s2, s3, s4, s11, rfl, hn⟩ s12
    simp only [slA] at s0
    have ec : ((k : Int) < 60) = (k < 60) := by rw [eq_iff_iff]; omega
    refine wRgn' fun K hk => ?_
    by_cases hkl : k < l.length
    · simp [s0, s12, hkl, ec]
      refine hk.out _ ⟨by simp; omega, by simp [s12], by simp [s0, slA], by simp [s1], by simp [s2], by simp [s3], by simp [s4], by simpa using s11, rfl, by simp only; omega⟩
    · simp [s0, s12, hkl, ec]
      refine hk.out _ ⟨by simp; omega, by simp [s12], by simp [s0, slA], by simp [s1], by simp [s2], by simp [s3], by simp [s4], by simpa using s11, rfl, by simp only; omega⟩
  · rintro k s h' n' hC ⟨s0, s1, s2, s3, s4, s11, rfl, hn⟩ s12 K hN hE hB hR
    simp at hC
    obtain ⟨hkl, hk60⟩ := hC
    obtain ⟨e1, f1, e2, f2, t11⟩ := s11
    simp only [slA] at s0
    refine wBlock' ?_
    refine wRgn' fun K2 hk2 => ?_
    simp [s0, t11, s12, hkl, intA]
    refine PureF.doCallX (s13 l[k] k) rfl fun n1 hn1 => ?_
    simp
    refine PureF.doCallX (s11 (room_run l k) (by omega) (opN l[k] k)) rfl fun n2 hn2 => ?_
    simp [modA, resA, slA, t11]
    refine hk2.out _ ?_
    refine hN.out _ _ _ (by simp [s12]) ⟨by simp [s0, slA], by simp [s1], by simp [s2], by simp [s3], by simp [s4], ⟨none, false, none, false, by simp [runM, hkl]⟩, rfl, by omega⟩
  · rintro k s h' n' hC hall ⟨s0, s1, s2, s3, s4, ⟨e1, f1, e2, f2, t11⟩, rfl, hn⟩ t12
    have hk60 : k ≤ 60 := by
      rcases Nat.lt_or_ge 60 k with q | q
      · have := hall 60 q; simp at this
      · exact q
    have hrm := (room_run l k)
    have hid := ids_run l k
    generalize runM l k = m at *
    clear hC hall
    (refine wRgn fun K hk => ?_; simp [s1]; refine hk.out _ ?_; clear hk K)
    (refine wRgn fun K hk => ?_; simp [s1, s2]; refine hk.out _ ?_; clear hk K)
    generalize bits .and .i64 a 3 = S
    generalize bits .and .i64 (a.fdiv (2 ^ min 2 IntKind.i64.bits)) 63 = F
    generalize bits .and .i64 b 127 = T
    obtain ⟨hor1, hor2⟩ := open_read m S F T hid
    obtain ⟨rd, hrd⟩ : ∃ x, modDo m ⟨2, S, 0, 0, 0, F, T, 0⟩ = x := ⟨_, rfl⟩
    obtain ⟨op, hop⟩ : ∃ x, modDo m ⟨5, S, 0, 0, 0, F, T, 0⟩ = x := ⟨_, rfl⟩
    rw [hrd, hop] at hor1 hor2
    have hro := hrm.step ⟨5, S, 0, 0, 0, F, T, 0⟩
    rw [hop] at hro
    (refine wRgn fun K hk => ?_; simp [t11])
    refine PureF.doCallX (s11 hrm (by omega) ⟨2, S, 0, 0, 0, F, T, 0⟩) rfl fun n1 hn1 => ?_
    rw [hrd]
    simp [modA, resA, slA]
    (refine hk.out _ ?_; clear hk K)
    (refine wRgn fun K hk => ?_; simp [t11])
    refine PureF.doCallX (s11 hrm (by omega) ⟨5, S, 0, 0, 0, F, T, 0⟩) rfl fun n2 hn2 => ?_
    rw [hop]
    simp [modA, resA, slA, t11]
    (refine hk.out _ ?_; clear hk K)
    repeat refine wSeq ?_
    (refine wRgn fun K hk => ?_; simp []; refine hk.out _ ?_; clear hk K)
    by_cases herr : op.2.err = 0
    · refine wCond false (by simp [herr]) (fun hc => by cases hc) (fun _ => wSkip ?_)
      obtain ⟨hr0, hrl, hhas⟩ := hor2 herr
      have hW := hrl k hrm
      obtain ⟨qn, hq, hq1, hq4⟩ : ∃ qn : Nat, c % 4 + 1 = qn ∧ 1 ≤ qn ∧ qn ≤ 4 := ⟨(c % 4 + 1).toNat, by omega, by omega, by omega⟩
      have hqw : IntKind.i64.wrap (c % 4 + 1) = qn := by rw [IntKind.wrap_i64]; omega
      repeat refine wSeq ?_
      (refine wRgn fun K hk => ?_; simp []; refine hk.out _ ?_; clear hk K)
      repeat refine wSeq ?_
      (refine wRgn fun K hk => ?_; simp []; refine hk.out _ ?_; clear hk K)
      refine wFor (fun i s h2 n2 => s 3 = slA (more.map intA) ∧ s 4 = .int .i64 c ∧ s 17 = .agg [.int .i64 rd.2.err, .int .i64 rd.2.iter, slA (rd.2.list.map smA)] ∧ s 18 = .agg [.int .i64 op.2.err, .int .i64 op.2.iter, slA (op.2.list.map smA)] ∧
        (∃ mi ci, ModV (s 11) mi ∧ Room mi (k + 1 + 2 * i) ∧ Has mi op.2.iter (rd.2.list.drop ci) ∧ min i rd.2.list.length ≤ ci ∧ OwnSl h2 n n2 44 2 (s 19) ((rd.2.list.take ci).map smA)) ∧ Keeps h' n h2 ∧ n ≤ n2) (fun k => decide (k < 100)) 100 (by omega) (fun k hk => by simpa using hk) (by simp) ?_ ?_ ?_ ?_
      · refine ⟨by simp [s3], by simp [s4], by simp [slA], by simp [slA], ⟨op.1, 0, ⟨none, false, none, false, by simp⟩, by simpa using hro, by simpa using hhas, by omega, .inl ⟨by simp, by simp⟩⟩, Keeps.refl _ _, by omega⟩
      · rintro i s h2 n2 hi ⟨u3, u4, u17, u18, ⟨mi, ci, uM, uR, uH, uc, uo⟩, uk, un⟩ u20
        refine wRgn' fun K hk => ?_
        simp [u20]
        refine hk.out _ ⟨by simp; omega, by simp [u20], by simp [u3], by simp [u4], by simp [u17], by simp [u18], ⟨mi, ci, by simpa using uM, uR, uH, uc, by simpa using uo.mono (n1 := n2 + 2) (fun _ _ => rfl) (by omega)⟩, uk, by show n ≤ n2 + 2; omega⟩
      · rintro i s h2 n2 hi ⟨u3, u4, u17, u18, ⟨mi, ci, uM, uR, uH, uc, uo⟩, uk, un⟩ u20 K hN hE hB hR
        have hi : i < 100 := by simpa using hi
        refine wBlock' ?_
        refine wMid (fun st => st.s 3 = slA (more.map intA) ∧ st.s 4 = .int .i64 c ∧ st.s 17 = s 17 ∧ st.s 18 = s 18 ∧ st.s 19 = s 19 ∧ st.s 20 = .int .i64 (i : Nat) ∧ (∃ mi, ModV (st.s 11) mi ∧ Room mi (k + 1 + 2 * i + 1) ∧ Has mi op.2.iter (rd.2.list.drop ci)) ∧ st.h = h2 ∧ n2 ≤ st.n) ?_ ?_
        · obtain ⟨e1, f1, e2, f2, vM⟩ := uM
          simp only [slA] at u3
          have hw60 : IntKind.i64.wrap (60 + (i : Int)) = 60 + (i : Int) := by rw [IntKind.wrap_i64]; omega
          (refine wRgn fun K hk => ?_; simp [u3, u20]; refine hk.out _ ?_; clear hk K)
          by_cases hil : i < more.length
          · refine wCond' true (by simp [hil]) (fun _ => ?_) (fun hc => by cases hc)
            refine wRgn fun K hk => ?_
            simp [u3, u20, hil, intA, hw60]
            refine PureF.doCallX (s13 more[i] (60 + i)) rfl fun n4 hn4 => ?_
            simp [opA]
            (refine hk.out _ ?_; clear hk K)
            repeat refine wSeq ?_
            generalize hox : opN more[i] (60 + i) = ox
            by_cases hoi : ox.iter = op.2.iter
            · (refine wRgn fun K hk => ?_; simp [u18, hoi]; refine hk.out _ ?_; clear hk K)
              refine wCond' false (by simp) (fun hc => by cases hc) (fun _ => wSkip' ?_)
              refine ⟨by simp [u3, slA], by simp [u4], by simp, by simp, by simp, by simp [u20], ⟨mi, ⟨e1, f1, e2, f2, by simp [vM]⟩, uR.up, uH⟩, rfl, by dsimp only; omega⟩
            · (refine wRgn fun K hk => ?_; simp [u18, hoi]; refine hk.out _ ?_; clear hk K)
              refine wCond' true (by simp [hoi]) (fun _ => ?_) (fun hc => by cases hc)
              refine wRgn' fun K hk => ?_
              simp [vM]
              refine PureF.doCallX (s11 uR (by omega) ox) rfl fun n5 hn5 => ?_
              simp [modA, slA, vM]
              refine hk.out _ ⟨by simp [u3, slA], by simp [u4], by simp, by simp, by simp, by simp [u20], ⟨(modDo mi ox).1, ⟨none, false, none, false, by simp⟩, uR.step ox, uH.other hoi⟩, rfl, by dsimp only; omega⟩
          · refine wCond' false (by simp [hil]) (fun hc => by cases hc) (fun _ => wSkip' ?_)
            refine ⟨by simp [u3, slA], by simp [u4], by simp, by simp, by simp, by simp [u20], ⟨mi, ⟨e1, f1, e2, f2, by simp [vM]⟩, uR.up, uH⟩, rfl, by dsimp only; omega⟩
        · rintro ⟨s', h2', n3⟩ ⟨v3, v4, v17, v18, v19, v20, ⟨mj, ⟨e1, f1, e2, f2, vM⟩, vR, vH⟩, rfl, vn⟩
          simp only at v3 v4 v17 v18 v19 v20 vM vn
          rw [u17] at v17
          rw [u18] at v18
          obtain ⟨hnx, hhx⟩ := vH.next hq1 (by omega)
          have hrx := vR.step ⟨6, 0, op.2.iter, 0, 0, 0, 0, qn⟩
          generalize hmx : (modDo mj ⟨6, 0, op.2.iter, 0, 0, 0, 0, qn⟩).1 = mx at *
          repeat refine wSeq ?_
          (refine wRgn fun K hk => ?_; simp [vM, v18, v4, and3, hqw])
          refine PureF.doCallX (s11 vR (by omega) ⟨6, 0, op.2.iter, 0, 0, 0, 0, qn⟩) rfl fun n4 hn4 => ?_
          rw [hnx]
          simp [modA, resA, slA]
          (refine hk.out _ ?_; clear hk K)
          have hgt : ¬ (qn : Int) < ((min qn (rd.2.list.length - ci) : Nat) : Int) := by omega
          repeat refine wSeq ?_
          (refine wRgn fun K hk => ?_; simp [v4, and3, hqw, hgt]; refine hk.out _ ?_; clear hk K)
          refine wCond false (by simp) (fun hc => by cases hc) (fun _ => wSkip ?_)
          repeat refine wSeq ?_
          (refine wRgn fun K hk => ?_; simp [vM]; refine hk.out _ ?_; clear hk K)
          refine wRgn' fun K2 hk2 => ?_
          simp [v19]
          have hys : elems h2' (AV.isl none false (List.take qn (List.drop ci (List.map smA rd.2.list)))) 2 = some (((rd.2.list.drop ci).take qn).map smA) := by
            simp
            intro x hx
            obtain ⟨y, _, rfl⟩ := List.mem_map.1 (List.mem_of_mem_drop (List.mem_of_mem_take hx))
            rfl
          refine app_step (n0 := n) (n := n2) (xs := (rd.2.list.take ci).map smA) (ys := ((rd.2.list.drop ci).take qn).map smA) uo hys (by omega) (by omega) (by simp; omega) (by simp; omega) fun v' h3 q1 q2 q3 q4 => ?_
          simp
          refine hk2.out _ (hN.out _ _ _ (by simp [v20]) ⟨by simp [v3], by simp [v4], by simp [v17], by simp [v18], ⟨mx, ci + qn, ⟨none, false, none, false, by simp⟩, ?_, ?_, by omega, ?_⟩, uk.trans q2 (Nat.le_refl _), by omega⟩)
          · exact hrx
          · rw [← List.drop_drop]; exact hhx
          · have e : (rd.2.list.take (ci + qn)).map smA = (rd.2.list.take ci).map smA ++ ((rd.2.list.drop ci).take qn).map smA := by rw [List.take_add, List.map_append]
            rw [e]
            simpa using q1.mono (fun _ _ => rfl) (by omega)
      · rintro i s h2 n2 hi hall ⟨u3, u4, u17, u18, ⟨mi, ci, uM, uR, uH, uc, uo⟩, uk, un⟩ u20
        have hi : 100 ≤ i := by simpa using hi
        have htk : rd.2.list.take ci = rd.2.list := List.take_of_length_le (by omega)
        rw [htk] at uo
        have hsm := SmpL.of uo
        rw [hr0] at u17
        refine wRgn fun K hk => ?_
        simp [u17, slA]
        refine doCallP (v := .bool (decide (rd.2.list = rd.2.list))) (CallsA.reads (k := 3) (s19 (a := rd.2.list) (b := rd.2.list) (by omega)) rfl ⟨rfl, fun j v v' h1 h2 => ?_⟩) fun n5 hn5 => ?_
        · rcases j with _ | _ | j
          · simp at h1 h2
            subst h1 h2
            exact hsm.frz (fun _ _ => rfl) 0
          · simp at h1 h2
            subst h1 h2
            show (mapO (frz (fun _ => true) h2 (0 + 2)) (rd.2.list.map smA)).map (AV.isl none false) = some _
            rw [frz_sms]
            rfl
          · simp at h1
        · simp
          refine PureF.doCallX s12 rfl fun n6 hn6 => ?_
          simp
          (refine hk.out _ ?_; clear hk K)
          exact wRet' (retV (v := .bool true) (by simp) ⟨uk, rfl⟩)
    · refine wCond true (by simp [herr]) (fun _ => ?_) (fun hc => by cases hc)
      repeat refine wSeq ?_
      by_cases he2 : op.2.err = rd.2.err
      · refine wRgn fun K hk => ?_
        simp [he2]
        refine PureF.doCallX s12 rfl fun n3 hn3 => ?_
        simp
        (refine hk.out _ ?_; clear hk K)
        refine wRet (retV (v := .bool true) (by simp) ⟨Keeps.refl _ _, rfl⟩)
      · have h5 : op.2.err = 5 := (hor1 herr).resolve_left he2
        have h6 : ¬ (5 : Int) = rd.2.err := by rw [← h5]; exact he2
        refine wRgn fun K hk => ?_
        simp [h5, h6]
        refine PureF.doCallX s12 rfl fun n3 hn3 => ?_
        simp
        (refine hk.out _ ?_; clear hk K)
        refine wRet (retV (v := .bool true) (by simp) ⟨Keeps.refl _ _, rfl⟩)
end Go.Proofs.Ytdbakmdcepkpmaa
