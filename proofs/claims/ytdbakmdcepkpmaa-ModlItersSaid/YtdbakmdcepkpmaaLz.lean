/- slices.IndexFunc, slices.Delete. -/
import Derived.Test.YtdbakmdcepkpmaaLy
set_option linter.unusedSimpArgs false
set_option linter.unusedVariables false
namespace Go.E3
/-- Where the first stands of which p holds; -1: nowhere. -/
def idxOf (p : AV → Bool) (xs : List AV) : Int :=
  match xs.findIdx? p with
  | some i => i
  | none => -1
def indexFuncCode (sz : Nat) : ACode :=
  (.seq
   (.rgn 1 [
    ⟨(some 4), none, (.mov (.c (.int .i64 0))), 0, [], [], [], []⟩])
  (.seq
   (.seq
    (.rgn 3 [
     ⟨(some 6), none, (.mov (.t 0)), 0, [], [], [], []⟩,
     ⟨(some 7), none, (.len (.t 6)), 1, [], [], [], []⟩,
     ⟨(some 8), none, (.mov (.c (.int .i64 0))), 2, [], [], [], []⟩])
   (.block 0
    (.loop
     (.seq
      (.rgn 1 [
       ⟨(some 9), none, (.bin .lss (.t 8) (.t 7)), 0, [], [], [], []⟩])
     (.seq
      (.cond (.t 9)
        .skip
        (.exit 0))
     (.seq
      (.block 1
       (.seq
        (.rgn 2 [
         ⟨(some 10), none, (.mov (.t 8)), 0, [], [], [], []⟩,
         ⟨(some 5), none, (.mov (.t 10)), 1, [], [], [], []⟩])
       (.seq
        (.rgn 6 [
         ⟨(some 11), none, (.mov (.t 1)), 0, [], [], [], []⟩,
         ⟨(some 12), none, (.mov (.t 0)), 1, [], [], [], []⟩,
         ⟨(some 13), none, (.mov (.t 5)), 2, [], [], [], []⟩,
         ⟨(some 14), none, (.ia sz (.t 12) (.t 13)), 3, [], [], [], []⟩,
         ⟨(some 15), none, (.ld (.t 14) sz true), 4, [], [], [], []⟩,
         ⟨(some 16), none, (.callV (.t 11) [(.t 15)] true), 5, [], [], [], []⟩])
       (.cond (.t 16)
         (.seq
          (.rgn 2 [
           ⟨(some 17), none, (.mov (.t 5)), 0, [], [], [], []⟩,
           ⟨(some 4), none, (.mov (.t 17)), 1, [], [], [], []⟩])
         .ret)
         .skip))))
     (.rgn 2 [
      ⟨(some 18), none, (.bin .add (.t 8) (.c (.int .i64 1))), 0, [], [], [], []⟩,
      ⟨(some 8), none, (.mov (.t 18)), 1, [], [], [], []⟩])))))))
  (.seq
   (.rgn 1 [
    ⟨(some 4), none, (.mov (.c (.int .i64 (-1)))), 0, [], [], [], []⟩])
  .ret)))
theorem findIdx_none {p : AV → Bool} {xs : List AV} {i : Nat} (h : ∀ j x, j < i → xs[j]? = some x → p x = false) (hi : xs.length ≤ i) : xs.findIdx? p = none := by
  rw [List.findIdx?_eq_none_iff]
  intro x hx
  obtain ⟨j, hj, rfl⟩ := List.mem_iff_getElem.1 hx
  exact h j _ (by omega) (List.getElem?_eq_getElem hj)
theorem findIdx_some {p : AV → Bool} {xs : List AV} {i : Nat} {x : AV} (h : ∀ j x, j < i → xs[j]? = some x → p x = false) (hx : xs[i]? = some x) (hp : p x = true) : xs.findIdx? p = some i := by
  rw [List.findIdx?_eq_some_iff_getElem]
  obtain ⟨hi, rfl⟩ := List.getElem?_eq_some_iff.1 hx
  exact ⟨hi, hp, fun j hj => by simpa using h j _ hj (List.getElem?_eq_getElem (by omega))⟩
set_option maxHeartbeats 2000000 in
theorem indexFunc_wp {P : Program} {sz f : Nat} {caps : List AV} {v : AV} {xs : List AV} {h : Hp} {n : Nat} {p : AV → Bool} {K : AV → Hp → Nat → Prop} (he : elems h v sz = some xs) (hl : xs.length < 2 ^ 40)
    (hsz : ∀ x ∈ xs, ∃ cs, x = .agg cs ∧ cs.length = sz) (hf : ∀ x ∈ xs, ∀ n', n ≤ n' → CallsA P f (x :: caps) h n' fun r h' _ => r = .bool (p x) ∧ h' = h) (hK : ∀ n', n ≤ n' → K (.int .i64 (idxOf p xs)) h n') :
    wpA P (indexFuncCode sz) (retA [.tmp 4] K) ⟨argS [v, .fn f caps], h, n⟩ := by
  unfold indexFuncCode
  have hlen := elems_len he
  (refine wRgn fun K hk => ?_; simp []; refine hk.out _ ?_; clear hk K)
  refine wSeq ?_
  (refine wRgn fun K hk => ?_; simp [hlen]; refine hk.out _ ?_; clear hk K)
  refine wBlock ?_
  refine wLoop (fun k st => ∃ i, i + k = xs.length ∧ n ≤ st.n ∧ st.h = h ∧ st.s 0 = v ∧ st.s 1 = .fn f caps ∧ st.s 7 = .int .i64 xs.length ∧ st.s 8 = .int .i64 (i : Int) ∧ ∀ j x, j < i → xs[j]? = some x → p x = false) xs.length ?_ ?_
  · exact ⟨0, by omega, by simp; omega, rfl, by simp, by simp, by simp, by simp, fun j x hj => by omega⟩
  · rintro k s h1 n1 ⟨i, hik, hn, rfl, s0, s1, s7, s8, hno⟩ K1 hn' he' hr'
    simp only at hn s0 s1 s7 s8
    (refine wRgn fun K hk => ?_; simp [s7, s8]; refine hk.out _ ?_; clear hk K)
    refine wCond (decide ((i : Int) < xs.length)) (by simp) (fun hc => ?_) (fun hc => ?_)
    · have hi : i < xs.length := by simpa using hc
      have hx : xs[i]? = some xs[i] := List.getElem?_eq_getElem hi
      have hxm : xs[i] ∈ xs := List.getElem_mem hi
      generalize hxe : xs[i] = x at hx hxm
      obtain ⟨cs, rfl, hcs⟩ := hsz x hxm
      obtain ⟨q, hq1, hq2, -, -⟩ := ia_elem (k := .i64) he (i := i) hx hcs
      have hq3 := hq2 sz true
      simp [hcs] at hq3
      rw [List.take_of_length_le (by omega)] at hq3
      refine wSkip (wBlock ?_)
      (refine wRgn fun K hk => ?_; simp [s8]; refine hk.out _ ?_; clear hk K)
      refine wRgn fun K2 hk2 => ?_
      simp [s0, s1, s8, hq1, hq3]
      refine doCall_keep ((hf _ hxm _ (by simp; omega)).more.mono ?_)
      rintro r h' n' ⟨⟨rfl, rfl⟩, q2, -⟩
      refine ⟨fun _ _ => rfl, fun _ q => .inl q, ?_⟩
      simp
      refine hk2.out _ ?_
      simp only at q2
      clear hk2 K2
      refine wCond' (p (.agg cs)) (by simp) (fun hp => ?_) (fun hp => ?_)
      · (refine wRgn fun K hk => ?_; simp [s8]; refine hk.out _ ?_; clear hk K)
        refine wRet' (hr'.out _ ?_)
        have := hK (n' + 2) (by omega)
        simp only [idxOf, findIdx_some hno hx hp] at this
        simpa using this
      · refine wSkip' ?_
        change wpA P (.rgn 2 _) K1 _
        refine wRgn' fun K2 hk2 => ?_
        simp [s8, wrap_i64 (i := (i : Int) + 1) (by omega) (by omega)]
        refine hk2.out _ (hn'.out _ ⟨k - 1, by omega, i + 1, by omega, by simp; omega, by simp, by simp [s0], by simp [s1], by simp [s7], by simp, fun j x hj hx' => ?_⟩)
        rcases Nat.lt_succ_iff_lt_or_eq.1 hj with q | rfl
        · exact hno j x q hx'
        · rw [hx] at hx'; injection hx' with hx'; subst hx'; exact hp
    · have hi : xs.length ≤ i := by have : ¬ (i : Int) < xs.length := by simpa using hc
                                    omega
      refine wExit (he'.out 0 _ ?_)
      simp only [if_true]
      (refine wRgn fun K hk => ?_; simp []; refine hk.out _ ?_; clear hk K)
      refine wRet' ?_
      have := hK (n1 + 1 + 1) (by omega)
      simp only [idxOf, findIdx_none hno hi] at this
      simpa using this
/-! ### Slices that are turned in place -/
/-- A slice whose array was made here, and is known whole; with room behind it that is known, too. -/
def MutSl (h : Hp) (n0 n : Nat) (e : TypeId) (sz : Nat) (v : AV) (xs : List AV) : Prop :=
  (v = .isl (some true) true [] ∧ xs = []) ∨ ∃ id ex tail, v = .sl id sz 0 xs.length (xs.length + tail.length) ex ∧ h id = some (.arr e sz (xs ++ tail)) ∧ n0 ≤ id ∧ id < n
theorem OwnSl.mut {h : Hp} {n0 n : Nat} {e : TypeId} {sz : Nat} {v : AV} {xs : List AV} (o : OwnSl h n0 n e sz v xs) : MutSl h n0 n e sz v xs := by
  rcases o with h1 | ⟨id, ex, rfl, hid, h1, h2⟩
  · exact .inl h1
  · exact .inr ⟨id, ex, [], by simp, by simpa using hid, h1, h2⟩
theorem MutSl.elems {h : Hp} {n0 n : Nat} {e : TypeId} {sz : Nat} {v : AV} {xs : List AV} (o : MutSl h n0 n e sz v xs) : elems h v sz = some xs := by
  rcases o with ⟨rfl, rfl⟩ | ⟨id, ex, tail, rfl, hid, _, _⟩
  · rfl
  · simp [hid]
theorem MutSl.len {h : Hp} {n0 n : Nat} {e : TypeId} {sz : Nat} {v : AV} {xs : List AV} (o : MutSl h n0 n e sz v xs) : lenA v = some (.int .i64 xs.length) := by
  rcases o with ⟨rfl, rfl⟩ | ⟨id, ex, tail, rfl, hid, _, _⟩ <;> rfl
theorem MutSl.ids {h : Hp} {n0 n : Nat} {e : TypeId} {sz : Nat} {v : AV} {xs : List AV} (o : MutSl h n0 n e sz v xs) : ∀ id ∈ v.ids, n0 ≤ id ∧ id < n := by
  rcases o with ⟨rfl, rfl⟩ | ⟨id, ex, tail, rfl, hid, h1, h2⟩
  · simp
  · simp; exact ⟨h1, h2⟩
theorem MutSl.mono {h h' : Hp} {n0 n n1 : Nat} {e : TypeId} {sz : Nat} {v : AV} {xs : List AV} (o : MutSl h n0 n e sz v xs) (hh : ∀ id ∈ v.ids, h' id = h id) (hn : n ≤ n1) : MutSl h' n0 n1 e sz v xs := by
  rcases o with ⟨rfl, rfl⟩ | ⟨id, ex, tail, rfl, hid, h1, h2⟩
  · exact .inl ⟨rfl, rfl⟩
  · exact .inr ⟨id, ex, tail, rfl, by rw [hh id (by simp)]; exact hid, h1, by omega⟩
/-! ### slices.Delete -/
def deleteCode (e : TypeId) (sz bytes : Nat) (z : List AV) : ACode :=
  (.seq
   (.rgn 1 [
    ⟨(some 6), none, (.mov (.c (.isl (some true) true []))), 0, [], [], [], []⟩])
  (.seq
   (.rgn 6 [
    ⟨(some 8), none, (.mov (.t 0)), 0, [], [], [], []⟩,
    ⟨(some 9), none, (.mov (.t 1)), 1, [], [], [], []⟩,
    ⟨(some 10), none, (.mov (.t 2)), 2, [], [], [], []⟩,
    ⟨(some 11), none, (.mov (.t 0)), 3, [], [], [], []⟩,
    ⟨(some 12), none, (.len (.t 11)), 4, [], [], [], []⟩,
    ⟨(some 13), none, (.slc sz (.t 8) (some (.t 9)) (some (.t 10)) (some (.t 12))), 5, [], [], [], []⟩])
  (.seq
   (.seq
    (.rgn 3 [
     ⟨(some 14), none, (.mov (.t 1)), 0, [], [], [], []⟩,
     ⟨(some 15), none, (.mov (.t 2)), 1, [], [], [], []⟩,
     ⟨(some 16), none, (.bin .eql (.t 14) (.t 15)), 2, [], [], [], []⟩])
   (.cond (.t 16)
     (.seq
      (.rgn 2 [
       ⟨(some 17), none, (.mov (.t 0)), 0, [], [], [], []⟩,
       ⟨(some 6), none, (.mov (.t 17)), 1, [], [], [], []⟩])
     .ret)
     .skip))
  (.seq
   (.rgn 3 [
    ⟨(some 18), none, (.mov (.t 0)), 0, [], [], [], []⟩,
    ⟨(some 19), none, (.len (.t 18)), 1, [], [], [], []⟩,
    ⟨(some 7), none, (.mov (.t 19)), 2, [], [], [], []⟩])
  (.seq
   (.rgn 8 [
    ⟨(some 20), none, (.mov (.t 0)), 0, [], [], [], []⟩,
    ⟨(some 21), none, (.mov (.t 1)), 1, [], [], [], []⟩,
    ⟨(some 22), none, (.slc sz (.t 20) none (some (.t 21)) none), 2, [], [], [], []⟩,
    ⟨(some 23), none, (.mov (.t 0)), 3, [], [], [], []⟩,
    ⟨(some 24), none, (.mov (.t 2)), 4, [], [], [], []⟩,
    ⟨(some 25), none, (.slc sz (.t 23) (some (.t 24)) none none), 5, [], [], [], []⟩,
    ⟨(some 26), none, (.app e sz bytes (.t 22) (.t 25)), 6, [], [], [], []⟩,
    ⟨(some 0), none, (.mov (.t 26)), 7, [], [], [], []⟩])
  (.seq
   (.rgn 6 [
    ⟨(some 27), none, (.mov (.t 0)), 0, [], [], [], []⟩,
    ⟨(some 28), none, (.mov (.t 0)), 1, [], [], [], []⟩,
    ⟨(some 29), none, (.len (.t 28)), 2, [], [], [], []⟩,
    ⟨(some 30), none, (.mov (.t 7)), 3, [], [], [], []⟩,
    ⟨(some 31), none, (.slc sz (.t 27) (some (.t 29)) (some (.t 30)) none), 4, [], [], [], []⟩,
    ⟨none, none, (.clr sz z (.t 31)), 5, [], [], [], []⟩])
  (.seq
   (.rgn 2 [
    ⟨(some 32), none, (.mov (.t 0)), 0, [], [], [], []⟩,
    ⟨(some 6), none, (.mov (.t 32)), 1, [], [], [], []⟩])
  .ret)))))))
theorem clr_at {h : Hp} {sz id off len cap : Nat} {z : List AV} {ex : Bool} {e : TypeId} {els : List AV} (hid : h id = some (.arr e sz els)) (hle : off + len ≤ els.length) (hz : z.length = sz) :
    clrE h sz z (.sl id sz off len cap ex) = some (.undef, upd h id (some (.arr e sz (els.take off ++ List.replicate len (if sz = 1 then z.headD .undef else .agg z) ++ els.drop (off + len))))) := by
  unfold clrE
  simp only [hid]
  rw [if_pos ⟨trivial, trivial, hle, hz⟩]
theorem app_in {h : Hp} {nw id sz off len cap bytes : Nat} {ex : Bool} {e e' : TypeId} {els ys : List AV} {x : AV} (hid : h id = some (.arr e' sz els)) (hx : elems h x sz = some ys) (hne : ys ≠ []) (hroom : len + ys.length ≤ cap) (hle : off + len + ys.length ≤ els.length) :
    appE h nw e sz bytes (.sl id sz off len cap ex) x = some (.sl id sz off (len + ys.length) cap ex, upd h id (some (.arr e' sz (els.take (off + len) ++ ys ++ els.drop (off + len + ys.length))))) := by
  unfold appE
  simp only [hx, hid]
  rw [if_pos ⟨trivial, trivial⟩, if_neg hne, if_pos hroom, if_pos hle]
theorem app_none {h : Hp} {nw id sz off len cap bytes : Nat} {ex : Bool} {e e' : TypeId} {els : List AV} {x : AV} (hid : h id = some (.arr e' sz els)) (hx : elems h x sz = some []) :
    appE h nw e sz bytes (.sl id sz off len cap ex) x = some (.sl id sz off len cap ex, h) := by
  unfold appE
  simp only [hx, hid]
  simp
set_option maxHeartbeats 2000000 in
theorem delete_wp {P : Program} {e : TypeId} {sz bytes : Nat} {z : List AV} {id : Nat} {ex : Bool} {xs tail : List AV} {h : Hp} {n i j : Nat} {K : AV → Hp → Nat → Prop} (hid : h id = some (.arr e sz (xs ++ tail))) (hz : z.length = sz) (hij : i < j) (hj : j ≤ xs.length)
    (hK : ∀ n', n ≤ n' → K (.sl id sz 0 (xs.length - (j - i)) (xs.length + tail.length) ex) (upd h id (some (.arr e sz ((xs.take i ++ xs.drop j) ++ (List.replicate (j - i) (if sz = 1 then z.headD .undef else .agg z) ++ tail))))) n') :
    wpA P (deleteCode e sz bytes z) (retA [.tmp 6] K) ⟨argS [.sl id sz 0 xs.length (xs.length + tail.length) ex, .int .i64 i, .int .i64 j], h, n⟩ := by
  unfold deleteCode
  (refine wRgn fun K hk => ?_; simp []; refine hk.out _ ?_; clear hk K)
  refine wRgn fun K hk => ?_
  have c1 : (i : Int) ≤ (j : Int) ∧ (j : Int) ≤ (xs.length : Int) := by omega
  have c2 : i < xs.length := by omega
  have c3 : (xs.length : Int) ≤ (xs.length : Int) + (tail.length : Int) := by omega
  simp [c1, c2, c3]
  refine hk.out _ ?_
  clear hk K
  refine wSeq ?_
  (refine wRgn fun K hk => ?_; simp []; refine hk.out _ ?_; clear hk K)
  have c4 : ((i : Int) == (j : Int)) = false := by
    have : ¬ (i : Int) = (j : Int) := by omega
    simpa using this
  refine wCond false (by simp [c4]) (fun hc => by cases hc) (fun _ => wSkip ?_)
  (refine wRgn fun K hk => ?_; simp []; refine hk.out _ ?_; clear hk K)
  refine wRgn fun K hk => ?_
  have c5 : (i : Int) ≤ (xs.length : Int) + (tail.length : Int) := by omega
  have c6 : 0 < xs.length + tail.length := by omega
  have c7 : (j : Int) ≤ (xs.length : Int) := by omega
  -- the slice ahead, and the one behind
  have hs1 : slcA (.sl id sz 0 xs.length (xs.length + tail.length) ex) sz none (some (i : Int)) none = some (.sl id sz 0 i (xs.length + tail.length) ex) := by
    simp [c5, c6]
  obtain ⟨v2, hs2, he2, hids2⟩ : ∃ v2, slcA (.sl id sz 0 xs.length (xs.length + tail.length) ex) sz (some (j : Int)) none none = some v2 ∧ elems h v2 sz = some (xs.drop j) ∧ True := by
    by_cases hjc : j < xs.length + tail.length
    · refine ⟨.sl id sz j (xs.length - j) (xs.length + tail.length - j) ex, ?_, ?_, trivial⟩
      · simp [c7, c3]; omega
      · have e1 : j + (xs.length - j) ≤ xs.length + tail.length := by omega
        simp [hid, e1]
        rw [List.drop_append_of_le_length hj, List.take_append_of_le_length (by simp)]
        exact List.take_of_length_le (by simp)
    · have hjl : j = xs.length := by omega
      have htl : tail = [] := List.length_eq_zero_iff.1 (by omega)
      refine ⟨.isl (some false) ex [], ?_, ?_, trivial⟩
      · have hx0 : xs ≠ [] := by rintro rfl; simp at hj; omega
        subst htl; simp [hjl, hx0]
      · simp [hjl]
  clear hids2
  have happ : ∃ h2, appE h (n + 1 + 6 + 3 + 3 + 6) e sz bytes (.sl id sz 0 i (xs.length + tail.length) ex) v2 = some (.sl id sz 0 (xs.length - (j - i)) (xs.length + tail.length) ex, h2) ∧ h2 id = some (.arr e sz ((xs.take i ++ xs.drop j) ++ ((xs ++ tail).drop (xs.length - (j - i))))) ∧ ∀ ob, upd h2 id ob = upd h id ob := by
    by_cases hjl : j = xs.length
    · rw [hjl, List.drop_length] at he2
      refine ⟨h, ?_, ?_, fun _ => rfl⟩
      · rw [app_none hid he2]; congr 3; omega
      · rw [hid, hjl, show xs.length - (xs.length - i) = i by omega, List.drop_length, List.append_nil, List.drop_append_of_le_length (by omega), ← List.append_assoc, List.take_append_drop]
    · have hne : xs.drop j ≠ [] := by simp; omega
      have el : (xs ++ tail).take (0 + i) ++ xs.drop j ++ (xs ++ tail).drop (0 + i + (xs.drop j).length) = (xs.take i ++ xs.drop j) ++ (xs ++ tail).drop (xs.length - (j - i)) := by
        rw [Nat.zero_add, List.take_append_of_le_length (by omega)]
        congr 2
        simp; omega
      have hL : i + (xs.drop j).length = xs.length - (j - i) := by simp; omega
      refine ⟨upd h id (some (.arr e sz ((xs.take i ++ xs.drop j) ++ (xs ++ tail).drop (xs.length - (j - i))))), ?_, upd_same _ _ _, fun ob => upd_upd _ _ _ _⟩
      rw [app_in hid he2 hne (by simp; omega) (by simp; omega), el, hL]
  obtain ⟨h2, ha1, ha2, ha3⟩ := happ
  simp [-slcA_sl, hs1, hs2, ha1]
  refine hk.out _ ?_
  clear hk K
  refine wRgn fun K hk => ?_
  have hlen : xs.length - (j - i) < xs.length + tail.length := by omega
  have hs3 : slcA (.sl id sz 0 (xs.length - (j - i)) (xs.length + tail.length) ex) sz (some ((xs.length - (j - i) : Nat) : Int)) (some (xs.length : Int)) none = some (.sl id sz (xs.length - (j - i)) (j - i) (tail.length + (j - i)) ex) := by
    rw [slcA_sl]
    simp only [Option.getD_some, if_true]
    rw [if_pos ⟨by omega, by omega, by omega⟩, if_pos (by omega)]
    congr 2 <;> omega
  have hclr := clr_at (cap := tail.length + (j - i)) (ex := ex) (len := j - i) (off := xs.length - (j - i)) ha2 (by simp; omega) hz
  simp [-slcA_sl, hs3, hclr]
  refine hk.out _ ?_
  clear hk K
  (refine wRgn fun K hk => ?_; simp []; refine hk.out _ ?_; clear hk K)
  refine wRet' ?_
  simp
  have hfin := hK (n + 1 + 6 + 3 + 3 + 8 + 6 + 2) (by omega)
  rw [ha3]
  have hl1 : (xs.take i ++ xs.drop j).length = xs.length - (j - i) := by simp; omega
  have hl2 : (xs ++ tail).drop (xs.length - (j - i)) = (xs.drop (xs.length - (j - i))) ++ tail := by rw [List.drop_append_of_le_length (by omega)]
  have e1 : List.take (xs.length - (j - i)) (xs.take i ++ (xs.drop j ++ (xs ++ tail).drop (xs.length - (j - i)))) = xs.take i ++ xs.drop j := by
    rw [← List.append_assoc, List.take_append_of_le_length (by omega), List.take_of_length_le (by omega)]
  have e2 : List.drop (xs.length - (j - i) + (j - i)) (xs.take i ++ (xs.drop j ++ (xs ++ tail).drop (xs.length - (j - i)))) = tail := by
    rw [← List.append_assoc, List.drop_append, List.drop_of_length_le (by omega), List.nil_append, hl1, hl2, List.drop_append, List.drop_of_length_le (by simp; omega), List.nil_append]
    have : xs.length - (j - i) + (j - i) - (xs.length - (j - i)) - (xs.drop (xs.length - (j - i))).length = 0 := by simp; omega
    rw [this, List.drop_zero]
  simp only [e1, e2, List.append_assoc, List.headD_eq_head?_getD] at hfin ⊢
  exact hfin
end Go.E3
