/- Samples of a span. -/
import Derived.Test.YtdbakmdcepkpmaaEa
import Derived.Test.YtdbakmdcepkpmaaLy
set_option linter.unusedSimpArgs false
set_option linter.unusedVariables false
namespace Go.Proofs.Ytdbakmdcepkpmaa
open Go.E3
theorem frz_smA (D : Nat → Bool) (h : Hp) (k : Nat) (s : Sample) : frz D h (k + 2) (smA s) = some (smA s) := by simp [smA]
theorem frz_sms (D : Nat → Bool) (h : Hp) (k : Nat) (l : List Sample) : mapO (frz D h (k + 2)) (l.map smA) = some (l.map smA) :=
  mapO_self fun x hx => by obtain ⟨s, _, rfl⟩ := List.mem_map.1 hx; exact frz_smA D h k s
theorem smA_sz (l : List Sample) : (l.map smA).all (fun x => x.cells.length == 2) = true := by
  simp [smA]
def within (l : List Sample) (f t : Int) : List Sample := l.filter fun s => decide (s.t ≥ f) && decide (s.t ≤ t)
theorem s59 {v r : AV} {L : Nat} (hl : lenA v = some (.int .i64 L)) (hr : slcA v 2 none (some (L : Int)) (some (L : Int)) = some r) (h : Hp) (n : Nat) : CallsA Try.prog 59 [v] h n fun r' h' _ => r' = r ∧ h' = h :=
  e59 (by simp) (clip_wp (sz := 2) hl hr fun _ _ => ⟨rfl, rfl⟩)
/-- A list of samples, in memory of one's own. -/
def SmpL (h : Hp) (lo n : Nat) (v : AV) (l : List Sample) : Prop :=
  (∃ b, v = .isl (some b) true [] ∧ l = []) ∨ ∃ id ex, v = .sl id 2 0 l.length l.length ex ∧ h id = some (.arr 44 2 (l.map smA)) ∧ lo ≤ id ∧ id < n
theorem SmpL.of {h : Hp} {lo n : Nat} {v : AV} {l : List Sample} (o : OwnSl h lo n 44 2 v (l.map smA)) : SmpL h lo n v l := by
  rcases o with ⟨rfl, h0⟩ | ⟨id, ex, rfl, h1, h2, h3⟩
  · exact .inl ⟨true, rfl, by simpa using h0⟩
  · exact .inr ⟨id, ex, by simp, h1, h2, h3⟩
theorem SmpL.ids {h : Hp} {lo n : Nat} {v : AV} {l : List Sample} (o : SmpL h lo n v l) : ∀ id ∈ v.ids, lo ≤ id ∧ id < n := by
  rcases o with ⟨b, rfl, rfl⟩ | ⟨id, ex, rfl, h1, h2, h3⟩
  · simp
  · simpa using ⟨h2, h3⟩
theorem SmpL.mono {h h' : Hp} {lo lo' n n1 : Nat} {v : AV} {l : List Sample} (o : SmpL h lo n v l) (hh : ∀ id ∈ v.ids, h' id = h id) (hlo : lo' ≤ lo) (hn : n ≤ n1) : SmpL h' lo' n1 v l := by
  rcases o with ⟨b, rfl, rfl⟩ | ⟨id, ex, rfl, h1, h2, h3⟩
  · exact .inl ⟨b, rfl, rfl⟩
  · exact .inr ⟨id, ex, rfl, by rw [hh id (by simp)]; exact h1, by omega, by omega⟩
theorem SmpL.elems {h : Hp} {lo n : Nat} {v : AV} {l : List Sample} (o : SmpL h lo n v l) : elems h v 2 = some (l.map smA) := by
  rcases o with ⟨b, rfl, rfl⟩ | ⟨id, ex, rfl, h1, h2, h3⟩
  · rfl
  · simp [h1]; exact List.take_of_length_le (by simp)
theorem SmpL.cells {h : Hp} {lo n : Nat} {v : AV} {l : List Sample} (o : SmpL h lo n v l) : v.cells = [v] ∧ v.flat = true := by
  rcases o with ⟨b, rfl, rfl⟩ | ⟨id, ex, rfl, h1, h2, h3⟩ <;> exact ⟨rfl, rfl⟩
theorem SmpL.len {h : Hp} {lo n : Nat} {v : AV} {l : List Sample} (o : SmpL h lo n v l) : lenA v = some (.int .i64 l.length) := by
  rcases o with ⟨b, rfl, rfl⟩ | ⟨id, ex, rfl, h1, h2, h3⟩ <;> rfl
theorem SmpL.frz {h : Hp} {lo n : Nat} {v : AV} {l : List Sample} {D : Nat → Bool} (o : SmpL h lo n v l) (hD : ∀ id, lo ≤ id → D id = true) (k : Nat) : frz D h (k + 3) v = some (slA (l.map smA)) :=
  frz_sl o.elems (fun id hid => hD id (o.ids id hid).1) (frz_sms _ _ _ _)
theorem clip_smp {h : Hp} {lo n : Nat} {v : AV} {l : List Sample} (o : OwnSl h lo n 44 2 v (l.map smA)) : ∃ r, slcA v 2 none (some ((l.map smA).length : Int)) (some ((l.map smA).length : Int)) = some r ∧ SmpL h lo n r l := by
  rcases o with ⟨rfl, h0⟩ | ⟨id, ex, rfl, hid, h1, h2⟩
  · have : l = [] := by simpa using h0
    subst this
    exact ⟨.isl (some true) true [], by rfl, .inl ⟨true, rfl, rfl⟩⟩
  · by_cases hx : l = []
    · subst hx
      exact ⟨.isl (some false) true [], by simp, .inl ⟨false, rfl, rfl⟩⟩
    · have hl : 0 < l.length := List.length_pos_iff.2 hx
      refine ⟨.sl id 2 0 l.length l.length true, ?_, .inr ⟨id, true, rfl, hid, h1, h2⟩⟩
      simp only [slcA, Option.getD_some, Option.getD_none, if_true]
      rw [if_pos ⟨by omega, by omega, by omega, by simp⟩, if_pos (by simp; omega)]
      simp
set_option maxHeartbeats 2000000 in
theorem s54o {v : AV} {l : List Sample} (f t : Int) {h : Hp} (he : elems h v 2 = some (l.map smA)) (hl : l.length < 2 ^ 40) (n : Nat) :
    CallsA Try.prog 54 [v, .int .i64 f, .int .i64 t] h n fun r h' n' => Keeps h n h' ∧ SmpL h' n n' r (within l f t) := by
  refine CallsA.wf fun hwf => ?_
  refine e54 (by simp) ?_
  have hlen := elems_len he
  simp at hlen
  rw [a54, r54]
  (refine wRgn fun K hk => ?_; simp []; refine hk.out _ ?_; clear hk K)
  (refine wRgn fun K hk => ?_; simp []; refine hk.out _ ?_; clear hk K)
  refine wSeq ?_
  (refine wRgn fun K hk => ?_; simp [hlen]; refine hk.out _ ?_; clear hk K)
  refine wBlock ?_
  refine wLoop (fun k st => k = l.length - (l.length - k) ∧ ∃ i ov, i + k = l.length ∧ n ≤ st.n ∧ Keeps h n st.h ∧ st.s 0 = v ∧ st.s 1 = .int .i64 f ∧ st.s 2 = .int .i64 t ∧ st.s 10 = v ∧ st.s 11 = .int .i64 l.length ∧ st.s 12 = .int .i64 (i : Int) ∧ st.s 7 = ov ∧ OwnSl st.h n st.n 44 2 ov ((within (l.take i) f t).map smA)) l.length ?_ ?_
  · refine ⟨by omega, 0, _, by omega, by simp; omega, by simp, by simp, by simp, by simp, by simp, by simp, by simp, by simp; rfl, ?_⟩
    simp [within]
    exact .nil _ _ _ _ _
  · rintro k s h1 n1 ⟨-, i, ov, hik, hn, hk1, s0, s1, s2, s10, s11, s12, s7, ho⟩ K hn' he' hr'
    simp only at hn hk1 s0 s1 s2 s10 s11 s12 s7 ho
    (refine wRgn fun K hk => ?_; simp [s11, s12]; refine hk.out _ ?_; clear hk K)
    refine wCond (decide ((i : Int) < l.length)) (by simp) (fun hc => ?_) (fun hc => ?_)
    · have hi : i < l.length := by simpa using hc
      refine wSkip (wBlock ?_)
      obtain ⟨x, hx⟩ : ∃ x, l[i]? = some x := ⟨l[i], List.getElem?_eq_getElem hi⟩
      obtain ⟨p, hp1, hp2, -, -⟩ := ia_elem (k := .i64) (elems_keeps hwf hk1 he) (i := i) (x := smA x) (by simp [hx]) rfl
      have hp3 := hp2 2 true
      simp [smA] at hp3
      (refine wRgn fun K hk => ?_; simp [s10, s12, hp1, hp3]; refine hk.out _ ?_; clear hk K)
      have hnext : ∀ (s' : Nat → AV) (h' : Hp) (n' : Nat) (ov' : AV), n1 ≤ n' → Keeps h n h' → (∀ j, j = 0 ∨ j = 1 ∨ j = 2 ∨ j = 10 ∨ j = 11 ∨ j = 12 → s' j = s j) → s' 7 = ov' → OwnSl h' n n' 44 2 ov' ((within (l.take (i + 1)) f t).map smA) → wpA Try.prog (.rgn 2 [
          ⟨(some 30), none, (.bin .add (.t 12) (.c (.int .i64 1))), 0, [], [], [], []⟩,
          ⟨(some 12), none, (.mov (.t 30)), 1, [], [], [], []⟩]) K ⟨s', h', n'⟩ := by
        intro s' h' n' ov' hn2 hk2 hs' hs7 ho'
        have e12 : s' 12 = .int .i64 i := (hs' 12 (by simp)).trans s12
        refine wRgn' fun K2 hk2' => ?_
        have hw : IntKind.i64.wrap ((i : Int) + 1) = (i : Int) + 1 := by
          unfold IntKind.wrap
          simp [IntKind.signed, IntKind.bits]
          omega
        simp [e12, hw]
        refine hk2'.out _ (hn'.out _ ⟨k - 1, by omega, by omega, i + 1, ov', by omega, by simp; omega, hk2, ?_⟩)
        simp [hs' 0, hs' 1, hs' 2, hs' 10, hs' 11, s0, s1, s2, s10, s11, hs7]
        exact ho'.mono (fun _ _ => rfl) (by omega)
      have htake : l.take (i + 1) = l.take i ++ [x] := by rw [List.take_add_one, hx]; rfl
      have hwl : (within (l.take i) f t).length ≤ i := by
        have := List.length_filter_le (fun s : Sample => decide (s.t ≥ f) && decide (s.t ≤ t)) (l.take i)
        simp only [within]; simp at this ⊢; omega
      by_cases hf : f ≤ x.t
      · by_cases ht : x.t ≤ t
        · have hwi : within (l.take (i + 1)) f t = within (l.take i) f t ++ [x] := by simp [within, htake, List.filter_append, hf, ht]
          (refine wRgn fun K hk => ?_; simp [s10, s12, s1, s2, hf, ht]; refine hk.out _ ?_; clear hk K)
          refine wCond' true (by simp) (fun _ => ?_) (fun hc => by cases hc)
          refine wRgn' fun K2 hk2 => ?_
          simp [s7]
          refine app_step (n0 := n) (n := n1) (xs := (within (l.take i) f t).map smA) (ys := [smA x]) (ho.mono (fun id hid => ?_) (Nat.le_refl _)) (by simp [smA]) (by omega) (by omega) (by simp; omega) (by simp; omega) fun v' h' q1 q2 q3 q4 => ?_
          · have := (ho.ids id hid).2
            repeat (first | rfl | rw [upd_ne _ _ (by omega)])
          simp
          refine hk2.out _ (hnext _ _ _ v' (by omega) ?_ (fun j hj => ?_) (by simp) ?_)
          · refine Keeps.trans ?_ q2 (Nat.le_refl _)
            repeat (first | exact hk1 | refine Keeps.upd ?_ (by omega) _)
          · rcases hj with rfl | rfl | rfl | rfl | rfl | rfl <;> simp
          · rw [hwi, List.map_append]; exact q1.mono (fun _ _ => rfl) (by omega)
        · have hwi : within (l.take (i + 1)) f t = within (l.take i) f t := by simp [within, htake, List.filter_append, hf, ht]
          (refine wRgn fun K hk => ?_; simp [s10, s12, s1, s2, hf, ht]; refine hk.out _ ?_; clear hk K)
          refine wCond' false (by simp) (fun hc => by cases hc) (fun _ => wSkip' ?_)
          change wpA Try.prog (.rgn 2 _) K _
          refine hnext _ _ _ ov (by omega) ?_ (fun j hj => ?_) (by simp [s7]) ?_
          · repeat (first | exact hk1 | refine Keeps.upd ?_ (by omega) _)
          · rcases hj with rfl | rfl | rfl | rfl | rfl | rfl <;> simp
          · rw [hwi]; refine ho.mono (fun id hid => ?_) (by omega)
            have := (ho.ids id hid).2
            repeat (first | rfl | rw [upd_ne _ _ (by omega)])
      · have hwi : within (l.take (i + 1)) f t = within (l.take i) f t := by simp [within, htake, List.filter_append, hf]
        (refine wRgn fun K hk => ?_; simp [s10, s12, s1, s2, hf]; refine hk.out _ ?_; clear hk K)
        refine wCond' false (by simp) (fun hc => by cases hc) (fun _ => wSkip' ?_)
        change wpA Try.prog (.rgn 2 _) K _
        refine hnext _ _ _ ov (by omega) ?_ (fun j hj => ?_) (by simp [s7]) ?_
        · repeat (first | exact hk1 | refine Keeps.upd ?_ (by omega) _)
        · rcases hj with rfl | rfl | rfl | rfl | rfl | rfl <;> simp
        · rw [hwi]; refine ho.mono (fun id hid => ?_) (by omega)
          have := (ho.ids id hid).2
          repeat (first | rfl | rw [upd_ne _ _ (by omega)])
    · have hi : i = l.length := by have : ¬ (i : Int) < l.length := by simpa using hc
                                   omega
      subst hi
      refine wExit (he'.out 0 _ ?_)
      simp only [if_true]
      rw [List.take_length] at ho
      refine wRgn fun K2 hk2 => ?_
      simp [s7]
      obtain ⟨r, r1, r2⟩ := clip_smp ho
      refine doCall_keep ((s59 ho.len r1 _ _).more.mono ?_)
      rintro r' h' n' ⟨⟨rfl, rfl⟩, q2, -⟩
      refine ⟨fun _ _ => rfl, fun _ q => .inl q, ?_⟩
      simp
      refine hk2.out _ (wRet' ?_)
      simp
      simp at q2
      exact ⟨hk1, r2.mono (fun _ _ => rfl) (Nat.le_refl _) (by omega)⟩
theorem s54 {v : AV} {l : List Sample} (f t : Int) {h : Hp} (he : elems h v 2 = some (l.map smA)) (hl : l.length < 2 ^ 40) (n : Nat) :
    CallsA Try.prog 54 [v, .int .i64 f, .int .i64 t] h n fun r h' _ => r = slA ((within l f t).map smA) ∧ h' = h :=
  CallsA.pure 3 ((s54o f t he hl n).mono fun r h' n' ⟨q1, q2⟩ => ⟨q1, q2.frz (fun id hid => by simpa using hid) 0⟩)
end Go.Proofs.Ytdbakmdcepkpmaa
