/- Are two the same. -/
import Derived.Test.YtdbakmdcepkpmaaEm
set_option linter.unusedSimpArgs false
set_option linter.unusedVariables false
namespace Go.Proofs.Ytdbakmdcepkpmaa
open Go.E3
theorem eqs_smA (a b : Sample) : eqCells [0, 0] [.int .i64 a.t, .int .u64 a.v] [.int .i64 b.t, .int .u64 b.v] = some (decide (a = b)) := by
  simp
  cases a; cases b
  rw [Bool.eq_iff_iff]; simp
/-- slices.Equal of samples. -/
theorem s36 {a b : List Sample} (hl : a.length < 2 ^ 40) : PureF Try.prog 36 [slA (a.map smA), slA (b.map smA)] (.bool (decide (a = b))) := by
  intro h n
  refine CallsA.pure 1 (e36 (by simp) ?_)
  rw [a36, r36]
  (refine wRgn fun K hk => ?_; simp [slA]; refine hk.out _ ?_; clear hk K)
  refine wSeq ?_
  (refine wRgn fun K hk => ?_; simp []; refine hk.out _ ?_; clear hk K)
  by_cases hab : a.length = b.length
  · refine wCond false (by simp [hab]) (fun hc => by cases hc) (fun _ => wSkip ?_)
    refine wSeq ?_
    (refine wRgn fun K hk => ?_; simp []; refine hk.out _ ?_; clear hk K)
    refine wRange (fun k s h' n' => s 0 = slA (a.map smA) ∧ s 1 = slA (b.map smA) ∧ h' = h ∧ ∀ j, j < k → a[j]? = b[j]?) a.length (by omega) (by decide) (by decide) (by decide) (by decide) (by simp) (by simp) ?_ ?_ ?_
    · exact ⟨by simp [slA], by simp [slA], rfl, fun j hj => by omega⟩
    · rintro k s h' n' hk ⟨s0, s1, rfl, hj⟩ s13 s12 K hN hE hB hR
      have hkb : k < b.length := by omega
      simp only [slA] at s0 s1
      refine wBlock' ?_
      (refine wRgn fun K hk => ?_; simp [s13]; refine hk.out _ ?_; clear hk K)
      have heq := eqs_smA a[k] b[k]
      refine wRgn fun K2 hk2 => ?_
      simp [s0, s1, hk, hkb, smA, -eqCells, heq]
      refine hk2.out _ ?_
      clear hk2 K2
      refine wCond' (!decide (a[k] = b[k])) (by simp) (fun hc => ?_) (fun hc => wSkip' ?_)
      · (refine wRgn fun K hk => ?_; simp []; refine hk.out _ ?_; clear hk K)
        refine wRet' (hR.out _ ?_)
        refine retV (v := .bool false) (by simp) ⟨Keeps.refl _ _, ?_⟩
        have : ¬ a = b := by rintro rfl; simp at hc
        simp [this]
      · refine hN.out _ _ _ (by simp [s13]) (by simp [s12]) ⟨by simp [s0, slA], by simp [s1, slA], rfl, fun j hj2 => ?_⟩
        by_cases e : j = k
        · subst e
          simp at hc
          simp [hk, hkb, hc]
        · exact hj j (by omega)
    · rintro s h' n' ⟨s0, s1, rfl, hj⟩ s12
      (refine wRgn fun K hk => ?_; simp []; refine hk.out _ ?_; clear hk K)
      refine wRet' (retV (v := .bool true) (by simp) ⟨Keeps.refl _ _, ?_⟩)
      have : a = b := by
        refine List.ext_getElem? fun j => ?_
        by_cases hjl : j < a.length
        · exact hj j hjl
        · rw [List.getElem?_eq_none (by omega), List.getElem?_eq_none (by omega)]
      simp [this]
  · refine wCond true (by simp; omega) (fun _ => ?_) (fun hc => by cases hc)
    refine wSeq ?_
    (refine wRgn fun K hk => ?_; simp []; refine hk.out _ ?_; clear hk K)
    refine wRet (retV (v := .bool false) (by simp) ⟨Keeps.refl _ _, ?_⟩)
    have : ¬ a = b := by rintro rfl; exact hab rfl
    simp [this]
/-- The document's own. -/
theorem s19 {a b : List Sample} (hl : a.length < 2 ^ 40) : PureF Try.prog 19 [slA (a.map smA), slA (b.map smA)] (.bool (decide (a = b))) := by
  intro h n
  refine CallsA.pure 1 (e19 (by simp) ?_)
  rw [a19, r19]
  (refine wRgn fun K hk => ?_; simp [slA]; refine hk.out _ ?_; clear hk K)
  refine wSeq ?_
  (refine wRgn fun K hk => ?_; simp []; refine hk.out _ ?_; clear hk K)
  by_cases hab : a.length = b.length
  · refine wCond false (by simp [hab]) (fun hc => by cases hc) (fun _ => wSkip ?_)
    refine wSeq ?_
    (refine wRgn fun K hk => ?_; simp []; refine hk.out _ ?_; clear hk K)
    refine wFor (fun k s h' n' => s 0 = slA (a.map smA) ∧ s 1 = slA (b.map smA) ∧ h' = h ∧ ∀ j, j < k → a[j]? = b[j]?) (fun k => decide (k < a.length)) a.length (by omega) (fun k hk => by simpa using hk) (by simp) ?_ ?_ ?_ ?_
    · exact ⟨by simp [slA], by simp [slA], rfl, fun j hj => by omega⟩
    · rintro k s h' n' hk ⟨s0, s1, rfl, hj⟩ s5
      refine wRgn' fun K hk => ?_
      simp [s0, s5, slA]
      exact hk.out _ ⟨by simp, by simp [s5], by simp [s0, slA], by simp [s1], rfl, hj⟩
    · rintro k s h' n' hC ⟨s0, s1, rfl, hj⟩ s5 K hN hE hB hR
      have hk : k < a.length := by simpa using hC
      have hkb : k < b.length := by omega
      simp only [slA] at s0 s1
      refine wBlock' ?_
      have heq := eqs_smA a[k] b[k]
      refine wRgn fun K2 hk2 => ?_
      simp [s0, s1, s5, hk, hkb, smA, -eqCells, heq]
      refine hk2.out _ ?_
      clear hk2 K2
      refine wCond' (!decide (a[k] = b[k])) (by simp) (fun hc => ?_) (fun hc => wSkip' ?_)
      · (refine wRgn fun K hk => ?_; simp []; refine hk.out _ ?_; clear hk K)
        refine wRet' (hR.out _ ?_)
        refine retV (v := .bool false) (by simp) ⟨Keeps.refl _ _, ?_⟩
        have : ¬ a = b := by rintro rfl; simp at hc
        simp [this]
      · refine hN.out _ _ _ (by simp [s5]) ⟨by simp [s0, slA], by simp [s1, slA], rfl, fun j hj2 => ?_⟩
        by_cases e : j = k
        · subst e
          simp at hc
          simp [hk, hkb, hc]
        · exact hj j (by omega)
    · rintro k s h' n' hC hall ⟨s0, s1, rfl, hj⟩ s5
      have hk : a.length ≤ k := by simpa using hC
      (refine wRgn fun K hk => ?_; simp []; refine hk.out _ ?_; clear hk K)
      refine wRet' (retV (v := .bool true) (by simp) ⟨Keeps.refl _ _, ?_⟩)
      have : a = b := by
        refine List.ext_getElem? fun j => ?_
        by_cases hjl : j < a.length
        · exact hj j (by omega)
        · rw [List.getElem?_eq_none (by omega), List.getElem?_eq_none (by omega)]
      simp [this]
  · refine wCond true (by simp; omega) (fun _ => ?_) (fun hc => by cases hc)
    refine wSeq ?_
    (refine wRgn fun K hk => ?_; simp []; refine hk.out _ ?_; clear hk K)
    refine wRet (retV (v := .bool false) (by simp) ⟨Keeps.refl _ _, ?_⟩)
    have : ¬ a = b := by rintro rfl; exact hab rfl
    simp [this]
theorem s37 {a b : Iter} (hl : a.rest.length < 2 ^ 40) : PureF Try.prog 37 [itA a, itA b] (.bool (decide (a = b))) := by
  intro h n
  have hall : decide (a = b) = ((a.id == b.id) && decide (a.rest = b.rest)) := by
    cases a; cases b
    rw [Bool.eq_iff_iff]; simp
  rw [hall]
  refine CallsA.pure 1 (e37 (by simp) ?_)
  rw [a37, r37]
  cases e1 : (a.id == b.id)
  · (refine wRgn fun K hk => ?_; simp [itA, slA]; refine hk.out _ ?_; clear hk K)
    refine wRgn fun K hk => ?_
    simp [e1]
    exact hk.out _ (wRet' (retV (v := .bool false) (by simp) (by simp)))
  · (refine wRgn fun K hk => ?_; simp [itA, slA]; refine hk.out _ ?_; clear hk K)
    refine wRgn fun K hk => ?_
    simp [e1]
    refine PureF.doCall (s36 hl) fun n' hn' => ?_
    simp
    exact hk.out _ (wRet' (retV (v := .bool (decide (a.rest = b.rest))) (by simp) (by simp)))
theorem s35 {a b : Series} (hl : a.list.length < 2 ^ 40) : PureF Try.prog 35 [serA a, serA b] (.bool (decide (a = b))) := by
  intro h n
  have hall : decide (a = b) = ((a.id == b.id) && ((a.sealed_ == b.sealed_) && ((a.any == b.any) && ((a.last == b.last) && decide (a.list = b.list))))) := by
    cases a; cases b
    rw [Bool.eq_iff_iff]; simp
  rw [hall]
  refine CallsA.pure 1 (e35 (by simp) ?_)
  rw [a35, r35]
  cases e1 : (a.id == b.id) <;> cases e2 : (a.sealed_ == b.sealed_) <;> cases e3 : (a.any == b.any) <;> cases e4 : (a.last == b.last) <;> ((refine wRgn fun K hk => ?_; simp [serA, slA]; refine hk.out _ ?_; clear hk K)) <;> refine wRgn fun K hk => ?_ <;> simp [e1, e2, e3, e4]
  rotate_right
  · refine PureF.doCall (s36 hl) fun n' hn' => ?_
    simp
    exact hk.out _ (wRet' (retV (v := .bool (decide (a.list = b.list))) (by simp) (by simp)))
  all_goals exact hk.out _ (wRet' (retV (v := .bool false) (by simp) (by simp)))
/-- slices.EqualFunc. -/
def equalFuncCode (e sz : Nat) (z : List AV) : ACode :=
  (.seq
   (.rgn 1 [
    ⟨(some 6), none, (.mov (.c (.bool false))), 0, [], [], [], []⟩])
  (.seq
   (.seq
    (.rgn 5 [
     ⟨(some 10), none, (.mov (.t 0)), 0, [], [], [], []⟩,
     ⟨(some 11), none, (.len (.t 10)), 1, [], [], [], []⟩,
     ⟨(some 12), none, (.mov (.t 1)), 2, [], [], [], []⟩,
     ⟨(some 13), none, (.len (.t 12)), 3, [], [], [], []⟩,
     ⟨(some 14), none, (.bin .neq (.t 11) (.t 13)), 4, [], [], [], []⟩])
   (.cond (.t 14)
     (.seq
      (.rgn 1 [
       ⟨(some 6), none, (.mov (.c (.bool false))), 0, [], [], [], []⟩])
     .ret)
     .skip))
  (.seq
   (.seq
    (.rgn 3 [
     ⟨(some 15), none, (.mov (.t 0)), 0, [], [], [], []⟩,
     ⟨(some 16), none, (.len (.t 15)), 1, [], [], [], []⟩,
     ⟨(some 17), none, (.mov (.c (.int .i64 0))), 2, [], [], [], []⟩])
   (rangeCode 0 18 17 16 31
      (.block 1
       (.seq
        (.rgn 6 [
         ⟨(some 19), none, (.mov (.t 17)), 0, [], [], [], []⟩,
         ⟨(some 20), none, (.ia sz (.t 15) (.t 17)), 1, [], [], [], []⟩,
         ⟨(some 21), none, (.ld (.t 20) sz true), 2, [], [], [], []⟩,
         ⟨(some 8), none, (.new e (.agg z)), 3, [], [], [], []⟩,
         ⟨(some 7), none, (.mov (.t 19)), 4, [], [], [], []⟩,
         ⟨none, none, (.st (.t 8) sz (.t 21)), 5, [], [], [], []⟩])
       (.seq
        (.rgn 6 [
         ⟨(some 22), none, (.mov (.t 1)), 0, [], [], [], []⟩,
         ⟨(some 23), none, (.mov (.t 7)), 1, [], [], [], []⟩,
         ⟨(some 24), none, (.ia sz (.t 22) (.t 23)), 2, [], [], [], []⟩,
         ⟨(some 25), none, (.ld (.t 24) sz true), 3, [], [], [], []⟩,
         ⟨(some 9), none, (.new e (.agg z)), 4, [], [], [], []⟩,
         ⟨none, none, (.st (.t 9) sz (.t 25)), 5, [], [], [], []⟩])
       (.seq
        (.rgn 5 [
         ⟨(some 26), none, (.mov (.t 2)), 0, [], [], [], []⟩,
         ⟨(some 27), none, (.ld (.t 8) sz true), 1, [], [], [], []⟩,
         ⟨(some 28), none, (.ld (.t 9) sz true), 2, [], [], [], []⟩,
         ⟨(some 29), none, (.callV (.t 26) [(.t 27), (.t 28)] true), 3, [], [], [], []⟩,
         ⟨(some 30), none, (.un .not (.t 29)), 4, [], [], [], []⟩])
       (.cond (.t 30)
         (.seq
          (.rgn 1 [
           ⟨(some 6), none, (.mov (.c (.bool false))), 0, [], [], [], []⟩])
         .ret)
         .skip)))))))
  (.seq
   (.rgn 1 [
    ⟨(some 6), none, (.mov (.c (.bool true))), 0, [], [], [], []⟩])
  .ret))))
theorem equalFunc_wp {P : Program} {α : Type} [DecidableEq α] (g : α → AV) {e sz f : Nat} {z : List AV} {a b : List α} (hz : z.length = sz) (hzf : ∀ x ∈ z, x.flat = true) (hg : ∀ x, ∃ cs, g x = .agg cs ∧ cs.length = sz ∧ ∀ y ∈ cs, y.flat = true) (hl : a.length < 2 ^ 40)
    (hf : ∀ x ∈ a, ∀ y, PureF P f [g x, g y] (.bool (decide (x = y)))) {h : Hp} {n : Nat} : wpA P (equalFuncCode e sz z) (retA [.tmp 6] fun r h' _ => Keeps h n h' ∧ r = .bool (decide (a = b))) ⟨argS [slA (a.map g), slA (b.map g), .fn f []], h, n⟩ := by
  unfold equalFuncCode
  (refine wRgn fun K hk => ?_; simp [slA]; refine hk.out _ ?_; clear hk K)
  refine wSeq ?_
  (refine wRgn fun K hk => ?_; simp []; refine hk.out _ ?_; clear hk K)
  by_cases hab : a.length = b.length
  · refine wCond false (by simp [hab]) (fun hc => by cases hc) (fun _ => wSkip ?_)
    refine wSeq ?_
    (refine wRgn fun K hk => ?_; simp []; refine hk.out _ ?_; clear hk K)
    refine wRange (fun k s h' n' => s 0 = slA (a.map g) ∧ s 1 = slA (b.map g) ∧ s 2 = .fn f [] ∧ s 15 = slA (a.map g) ∧ n ≤ n' ∧ Keeps h n h' ∧ ∀ j, j < k → a[j]? = b[j]?) a.length (by omega) (by decide) (by decide) (by decide) (by decide) (by simp) (by simp) ?_ ?_ ?_
    · exact ⟨by simp [slA], by simp [slA], by simp, by simp [slA], by omega, Keeps.refl _ _, fun j hj => by omega⟩
    · rintro k s h' n' hk ⟨s0, s1, s2, s15, hn', hkp, hj⟩ s17 s16 K hN hE hB hR
      have hkb : k < b.length := by omega
      obtain ⟨ca, ea, la, fa⟩ := hg a[k]
      obtain ⟨cb, eb, lb, fb⟩ := hg b[k]
      simp only [slA] at s0 s1 s15
      have ta : List.take sz ca = ca := List.take_of_length_le (by omega)
      have tb : List.take sz cb = cb := List.take_of_length_le (by omega)
      have ta2 : ca ++ List.drop ca.length z = ca := by rw [List.drop_of_length_le (by omega), List.append_nil]
      have tb2 : cb ++ List.drop cb.length z = cb := by rw [List.drop_of_length_le (by omega), List.append_nil]
      refine wBlock' ?_
      refine wRgn fun K2 hk2 => ?_
      simp [s15, s17, hk, ea, la, ta, hz, ta2]
      refine ⟨hzf, fa, ?_⟩
      refine hk2.out _ ?_
      clear hk2 K2
      refine wRgn fun K2 hk2 => ?_
      simp [s1, hkb, eb, lb, tb, hz, tb2]
      refine ⟨hzf, fb, ?_⟩
      refine hk2.out _ ?_
      clear hk2 K2
      refine wRgn fun K2 hk2 => ?_
      simp [s2, ta, la, tb, lb, ta2, tb2]
      have hpf := hf a[k] (List.getElem_mem hk) b[k]
      rw [ea, eb] at hpf
      refine PureF.doCall hpf fun n2 hn2 => ?_
      simp
      refine hk2.out _ ?_
      clear hk2 K2
      simp only at hn2
      refine wCond' (!decide (a[k] = b[k])) (by simp) (fun hc => ?_) (fun hc => wSkip' ?_)
      · (refine wRgn fun K hk => ?_; simp []; refine hk.out _ ?_; clear hk K)
        refine wRet' (hR.out _ ?_)
        refine retV (v := .bool false) (by simp) ⟨(by repeat (first | exact hkp | refine Keeps.upd ?_ (by omega) _)), ?_⟩
        have : ¬ a = b := by rintro rfl; simp at hc
        simp [this]
      · refine hN.out _ _ _ (by simp [s17]) (by simp [s16]) ⟨by simp [s0, slA], by simp [s1, slA], by simp [s2], by simp [s15, slA], by omega, (by repeat (first | exact hkp | refine Keeps.upd ?_ (by omega) _)), fun j hj2 => ?_⟩
        by_cases e : j = k
        · subst e
          simp at hc
          simp [hk, hkb, hc]
        · exact hj j (by omega)
    · rintro s h' n' ⟨s0, s1, s2, s15, hn', hkp, hj⟩ s12
      (refine wRgn fun K hk => ?_; simp []; refine hk.out _ ?_; clear hk K)
      refine wRet' (retV (v := .bool true) (by simp) ⟨hkp, ?_⟩)
      have : a = b := by
        refine List.ext_getElem? fun j => ?_
        by_cases hjl : j < a.length
        · exact hj j hjl
        · rw [List.getElem?_eq_none (by omega), List.getElem?_eq_none (by omega)]
      simp [this]
  · refine wCond true (by simp; omega) (fun _ => ?_) (fun hc => by cases hc)
    refine wSeq ?_
    (refine wRgn fun K hk => ?_; simp []; refine hk.out _ ?_; clear hk K)
    refine wRet (retV (v := .bool false) (by simp) ⟨Keeps.refl _ _, ?_⟩)
    have : ¬ a = b := by rintro rfl; exact hab rfl
    simp [this]
theorem s38 {a b : List Series} (hl : a.length < 2 ^ 40) (hls : ∀ x ∈ a, x.list.length < 2 ^ 40) : PureF Try.prog 38 [slA (a.map serA), slA (b.map serA), .fn 35 []] (.bool (decide (a = b))) := fun h n =>
  CallsA.pureB (e38 (by simp) (equalFunc_wp serA (e := 38) (sz := 5) (z := [.int .i64 0, .bool false, .bool false, .int .i64 0, .isl (some true) true []]) rfl (by simp) (fun x => ⟨_, rfl, rfl, by simp [slA]⟩) hl (fun x hx y => s35 (hls x hx))))
theorem s39 {a b : List Iter} (hl : a.length < 2 ^ 40) (hls : ∀ x ∈ a, x.rest.length < 2 ^ 40) : PureF Try.prog 39 [slA (a.map itA), slA (b.map itA), .fn 37 []] (.bool (decide (a = b))) := fun h n =>
  CallsA.pureB (e39 (by simp) (equalFunc_wp itA (e := 46) (sz := 2) (z := [.int .i64 0, .isl (some true) true []]) rfl (by simp) (fun x => ⟨_, rfl, rfl, by simp [slA]⟩) hl (fun x hx y => s37 (hls x hx))))
/-- Two models. -/
theorem s17 {a b : Model} (hm : Small a) : PureF Try.prog 17 [modA a, modA b] (.bool (decide (a = b))) := by
  intro h n
  have hall : decide (a = b) = ((a.next == b.next) && (decide (a.series = b.series) && decide (a.iters = b.iters))) := by
    cases a; cases b
    rw [Bool.eq_iff_iff]; simp; constructor <;> (rintro ⟨h1, h2, h3⟩; simp [h1, h2, h3])
  rw [hall]
  refine CallsA.pure 1 (e17 (by simp) ?_)
  rw [a17, r17]
  cases e1 : (a.next == b.next)
  · (refine wRgn fun K hk => ?_; simp [modA, slA]; refine hk.out _ ?_; clear hk K)
    (refine wRgn fun K hk => ?_; simp []; refine hk.out _ ?_; clear hk K)
    (refine wRgn fun K hk => ?_; simp []; refine hk.out _ ?_; clear hk K)
    refine wRgn fun K hk => ?_
    simp [e1]
    exact hk.out _ (wRet' (retV (v := .bool false) (by simp) (by simp)))
  · (refine wRgn fun K hk => ?_; simp [modA, slA]; refine hk.out _ ?_; clear hk K)
    (refine wRgn fun K hk => ?_; simp []; refine hk.out _ ?_; clear hk K)
    (refine wRgn fun K hk => ?_; simp []; refine hk.out _ ?_; clear hk K)
    refine wRgn fun K hk => ?_
    simp [e1]
    refine PureF.doCall (s38 hm.ser hm.lst) fun n2 hn2 => ?_
    simp
    by_cases e2 : a.series = b.series
    · simp [e2]
      refine PureF.doCall (s39 hm.its hm.rst) fun n3 hn3 => ?_
      simp
      exact hk.out _ (wRet' (retV (v := .bool (decide (a.iters = b.iters))) (by simp) (by simp [e2])))
    · simp [e2]
      exact hk.out _ (wRet' (retV (v := .bool false) (by simp) (by simp [e2])))
/-- Two results. -/
theorem s18 {a b : Res} (hl : a.list.length < 2 ^ 40) : PureF Try.prog 18 [resA a, resA b] (.bool (decide (a = b))) := by
  intro h n
  have hall : decide (a = b) = ((a.err == b.err) && ((a.iter == b.iter) && decide (a.list = b.list))) := by
    cases a; cases b
    rw [Bool.eq_iff_iff]; simp
  rw [hall]
  refine CallsA.pure 1 (e18 (by simp) ?_)
  rw [a18, r18]
  cases e1 : (a.err == b.err) <;> cases e2 : (a.iter == b.iter) <;> ((refine wRgn fun K hk => ?_; simp [resA, slA]; refine hk.out _ ?_; clear hk K)) <;> refine wRgn fun K hk => ?_ <;> simp [e1, e2]
  rotate_right
  · refine PureF.doCall (s36 hl) fun n' hn' => ?_
    simp
    exact hk.out _ (wRet' (retV (v := .bool (decide (a.list = b.list))) (by simp) (by simp)))
  all_goals exact hk.out _ (wRet' (retV (v := .bool false) (by simp) (by simp)))
end Go.Proofs.Ytdbakmdcepkpmaa
