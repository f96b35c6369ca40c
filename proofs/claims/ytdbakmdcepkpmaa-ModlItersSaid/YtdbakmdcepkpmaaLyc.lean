/- slices.Clone, its array told whole. -/
import Derived.Test.YtdbakmdcepkpmaaLyb
set_option linter.unusedSimpArgs false
set_option linter.unusedVariables false
namespace Go.E3
/-- A slice whose array was made here, is known whole, and whose capacity is known. -/
def ExSl (h : Hp) (n0 n : Nat) (e : TypeId) (sz : Nat) (v : AV) (xs : List AV) : Prop :=
  (v = .isl (some true) true [] ∧ xs = []) ∨ ∃ id tail, v = .sl id sz 0 xs.length (xs.length + tail.length) true ∧ h id = some (.arr e sz (xs ++ tail)) ∧ n0 ≤ id ∧ id < n
theorem ExSl.mut {h : Hp} {n0 n : Nat} {e : TypeId} {sz : Nat} {v : AV} {xs : List AV} (o : ExSl h n0 n e sz v xs) : MutSl h n0 n e sz v xs := by
  rcases o with h1 | ⟨id, tail, rfl, hid, h1, h2⟩
  · exact .inl h1
  · exact .inr ⟨id, true, tail, rfl, hid, h1, h2⟩
theorem ExSl.mono {h h' : Hp} {n0 n n1 : Nat} {e : TypeId} {sz : Nat} {v : AV} {xs : List AV} (o : ExSl h n0 n e sz v xs) (hh : ∀ id ∈ v.ids, h' id = h id) (hn : n ≤ n1) : ExSl h' n0 n1 e sz v xs := by
  rcases o with ⟨rfl, rfl⟩ | ⟨id, tail, rfl, hid, h1, h2⟩
  · exact .inl ⟨rfl, rfl⟩
  · exact .inr ⟨id, tail, rfl, by rw [hh id (by simp)]; exact hid, h1, by omega⟩
def cloneCodeN (e : TypeId) (sz bytes : Nat) (ze : AV) : ACode :=
  (.seq
   (.rgn 1 [
    ⟨(some 2), none, (.mov (.c (.isl (some true) true []))), 0, [], [], [], []⟩])
  (.seq
   (.seq
    (.rgn 2 [
     ⟨(some 3), none, (.mov (.t 0)), 0, [], [], [], []⟩,
     ⟨(some 4), none, (.isn 1 false (.t 3)), 1, [], [], [], []⟩])
   (.cond (.t 4)
     (.seq
      (.rgn 1 [
       ⟨(some 2), none, (.mov (.c (.isl (some true) true []))), 0, [], [], [], []⟩])
     .ret)
     .skip))
  (.seq
   (.rgn 4 [
    ⟨(some 5), none, (.bsl e sz 0 [] []), 0, [], [], [], []⟩,
    ⟨(some 6), none, (.mov (.t 0)), 1, [], [], [], []⟩,
    ⟨(some 7), none, (.apn e sz bytes ze (.t 5) (.t 6)), 2, [], [], [], []⟩,
    ⟨(some 2), none, (.mov (.t 7)), 3, [], [], [], []⟩])
  .ret)))
theorem apn_step {h : Hp} {nw id : Nat} {e e' : TypeId} {sz bytes : Nat} {ze x : AV} {ys : List AV} {K : AV → Hp → Prop} (hid : h id = some (.arr e' sz [])) (hx : elems h x sz = some ys) (hb : ys.length * bytes ≤ 140737488355328) (h63 : ys.length ≤ 9223372036854775807)
    (h0 : ys = [] → K (.sl id sz 0 0 0 true) h) (h1 : ∀ c, ys.length ≤ c → K (.sl nw sz 0 ys.length c true) (upd h nw (some (.arr e sz (ys ++ List.replicate (c - ys.length) ze))))) : apnW h nw e sz bytes ze (.sl id sz 0 0 0 true) x K := by
  unfold apnW
  have he : elems h (.sl id sz 0 0 0 true) sz = some [] := by simp [hid]
  simp only [hx, he, capX]
  split
  · rename_i q; exact h0 q
  · rename_i q
    have : 0 < ys.length := List.length_pos_iff.2 q
    refine ⟨⟨by simp; omega, by simpa using hb, by simpa using h63⟩, fun c hc => ?_⟩
    have := h1 c (by simpa using hc)
    simpa using this
theorem cloneN_wp {P : Program} {e : TypeId} {sz bytes : Nat} {ze v : AV} {xs : List AV} {b : Bool} {h : Hp} {n : Nat} {K : AV → Hp → Nat → Prop} (hwf : ∀ id, h id ≠ none → id < n) (he : elems h v sz = some xs) (hb : isNilA 1 v = some b) (hbx : b = true → xs = [])
    (hbb : xs.length * bytes ≤ 140737488355328) (h63 : xs.length ≤ 9223372036854775807) (hK : ∀ r h' n', n ≤ n' → Keeps h n h' → ExSl h' n n' e sz r xs → K r h' n') : wpA P (cloneCodeN e sz bytes ze) (retA [.tmp 2] K) ⟨argS [v], h, n⟩ := by
  unfold cloneCodeN
  (refine wRgn fun K hk => ?_; simp []; refine hk.out _ ?_; clear hk K)
  refine wSeq ?_
  (refine wRgn fun K hk => ?_; simp [hb]; refine hk.out _ ?_; clear hk K)
  refine wCond b (by simp) (fun hc => ?_) (fun hc => ?_)
  · refine wSeq ?_
    (refine wRgn fun K hk => ?_; simp []; refine hk.out _ ?_; clear hk K)
    refine wRet ?_
    simp
    exact hK _ _ _ (by omega) (Keeps.refl _ _) (by rw [hbx hc]; exact .inl ⟨rfl, rfl⟩)
  · refine wSkip (wRgn fun K hk => ?_)
    have hk1 : Keeps h n (upd h (n + 1 + 2) (some (.arr e sz []))) := (Keeps.refl _ _).upd (by omega) _
    simp
    refine apn_step (upd_same _ _ _) (elems_keeps hwf hk1 he) hbb h63 (fun h0 => ?_) (fun c hc => ?_)
    · simp
      refine hk.out _ (wRet' ?_)
      simp
      exact hK _ _ _ (by omega) hk1 (.inr ⟨n + 1 + 2, [], by simp [h0], by simp [h0], by omega, by omega⟩)
    · simp
      refine hk.out _ (wRet' ?_)
      simp
      refine hK _ _ _ (by omega) (hk1.upd (by omega) _) (.inr ⟨n + 1 + 2 + 2, List.replicate (c - xs.length) ze, ?_, by simp, by omega, by omega⟩)
      congr 1; simp; omega
/-- A call that asks nothing of the heap, and hands back what is new: whatever it is handed. -/
theorem doCall_new {P : Program} {f : Nat} {vs : List AV} {bad : List Nat} {st : St} {K R : AV → Hp → Nat → Prop} (hwf : ∀ id, st.h id ≠ none → id < st.n) (hc : ∀ h0, CallsA P f vs h0 st.n fun r h' n' => Keeps h0 st.n h' ∧ R r h' n')
    (hR : ∀ r h' h'' n', R r h' n' → (∀ id, st.n ≤ id → h'' id = h' id) → R r h'' n') (hK : ∀ r h' n', st.n ≤ n' → Keeps st.h st.n h' → (∀ id, h' id ≠ none → id < n') → R r h' n' → K r h' n') : doCall P f vs true bad st K := by
  unfold doCall
  rw [if_pos rfl]
  refine ⟨fun id => !bad.contains id, fun id hid => by simp [hid], ?_⟩
  refine (hc (restr (fun id => !bad.contains id) st.h)).more.mono ?_
  rintro r h' n' ⟨⟨q1, q2⟩, q3, q4⟩
  have hsub : ∀ id, restr (fun id => !bad.contains id) st.h id ≠ none → restr (fun id => !bad.contains id) st.h id = st.h id ∧ id < st.n := by
    intro id hid
    unfold restr at hid ⊢
    split
    · rename_i q; rw [if_pos q] at hid; exact ⟨rfl, hwf id hid⟩
    · rename_i q; rw [if_neg q] at hid; exact absurd rfl hid
  have hm : ∀ id, st.n ≤ id → merge h' st.h id = h' id := by
    intro id hid
    unfold merge
    cases hh : h' id with
    | some ob => rfl
    | none =>
      simp only
      cases hs : st.h id with
      | none => rfl
      | some ob => have := hwf id (by simp [hs]); omega
  have hk : Keeps st.h st.n (merge h' st.h) := by
    refine ⟨fun id hid => ?_⟩
    unfold merge
    cases hh : h' id with
    | none => rfl
    | some ob =>
      simp only
      have := q1.old id hid
      rw [hh] at this
      have := (hsub id (by rw [← this]; simp)).1
      rw [← this]; assumption
  refine ⟨fun id hid => ?_, fun id hid => ?_, hK r _ n' q3 hk (fun id hid => ?_) (hR r h' _ n' q2 hm)⟩
  · obtain ⟨e1, e2⟩ := hsub id hid
    rw [q1.old id e2, e1]
  · rcases Nat.lt_or_ge id st.n with q | q
    · rw [q1.old id q] at hid; exact .inl hid
    · exact .inr q
  · unfold merge at hid
    cases hh : h' id with
    | some ob => exact q4 id (by simp [hh])
    | none =>
      rw [hh] at hid
      have := hwf id hid
      omega
theorem wf_upd {h : Hp} {n m j : Nat} {ob : Option AObj} (hwf : ∀ id, h id ≠ none → id < n) (hn : n ≤ m) (hj : j < m) : ∀ id, upd h j ob id ≠ none → id < m := by
  intro id hid
  by_cases e : id = j
  · omega
  · rw [upd_ne _ _ e] at hid; have := hwf id hid; omega
end Go.E3
