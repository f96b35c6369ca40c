/- slices.Insert of one element. -/
import Derived.Test.YtdbakmdcepkpmaaLya
set_option linter.unusedSimpArgs false
set_option linter.unusedVariables false
namespace Go.E3
def insertCode (e : TypeId) (sz bytes : Nat) (ze : AV) (fo fr : Nat) : ACode :=
  (.seq
   (.rgn 1 [
    ⟨(some 6), none, (.mov (.c (.isl (some true) true []))), 0, [], [], [], []⟩])
  (.seq
   (.rgn 3 [
    ⟨(some 10), none, (.mov (.t 0)), 0, [], [], [], []⟩,
    ⟨(some 11), none, (.mov (.t 1)), 1, [], [], [], []⟩,
    ⟨(some 12), none, (.slc sz (.t 10) (some (.t 11)) none none), 2, [], [], [], []⟩])
  (.seq
   (.rgn 3 [
    ⟨(some 13), none, (.mov (.t 2)), 0, [], [], [], []⟩,
    ⟨(some 14), none, (.len (.t 13)), 1, [], [], [], []⟩,
    ⟨(some 7), none, (.mov (.t 14)), 2, [], [], [], []⟩])
  (.seq
   (.seq
    (.rgn 2 [
     ⟨(some 15), none, (.mov (.t 7)), 0, [], [], [], []⟩,
     ⟨(some 16), none, (.bin .eql (.t 15) (.c (.int .i64 0))), 1, [], [], [], []⟩])
   (.cond (.t 16)
     (.seq
      (.rgn 2 [
       ⟨(some 17), none, (.mov (.t 0)), 0, [], [], [], []⟩,
       ⟨(some 6), none, (.mov (.t 17)), 1, [], [], [], []⟩])
     .ret)
     .skip))
  (.seq
   (.rgn 3 [
    ⟨(some 18), none, (.mov (.t 0)), 0, [], [], [], []⟩,
    ⟨(some 19), none, (.len (.t 18)), 1, [], [], [], []⟩,
    ⟨(some 8), none, (.mov (.t 19)), 2, [], [], [], []⟩])
  (.seq
   (.seq
    (.rgn 3 [
     ⟨(some 20), none, (.mov (.t 1)), 0, [], [], [], []⟩,
     ⟨(some 21), none, (.mov (.t 8)), 1, [], [], [], []⟩,
     ⟨(some 22), none, (.bin .eql (.t 20) (.t 21)), 2, [], [], [], []⟩])
   (.cond (.t 22)
     (.seq
      (.rgn 4 [
       ⟨(some 23), none, (.mov (.t 0)), 0, [], [], [], []⟩,
       ⟨(some 24), none, (.mov (.t 2)), 1, [], [], [], []⟩,
       ⟨(some 25), none, (.app e sz bytes (.t 23) (.t 24)), 2, [], [], [], []⟩,
       ⟨(some 6), none, (.mov (.t 25)), 3, [], [], [], []⟩])
     .ret)
     .skip))
  (.seq
   (.seq
    (.rgn 6 [
     ⟨(some 26), none, (.mov (.t 8)), 0, [], [], [], []⟩,
     ⟨(some 27), none, (.mov (.t 7)), 1, [], [], [], []⟩,
     ⟨(some 28), none, (.bin .add (.t 26) (.t 27)), 2, [], [], [], []⟩,
     ⟨(some 29), none, (.mov (.t 0)), 3, [], [], [], []⟩,
     ⟨(some 30), none, (.cap (.t 29)), 4, [], [], [], []⟩,
     ⟨(some 31), none, (.bin .gtr (.t 28) (.t 30)), 5, [], [], [], []⟩])
   (.cond (.t 31)
     (.seq
      (.rgn 10 [
       ⟨(some 32), none, (.mov (.t 0)), 0, [], [], [], []⟩,
       ⟨(some 33), none, (.mov (.t 1)), 1, [], [], [], []⟩,
       ⟨(some 34), none, (.slc sz (.t 32) none (some (.t 33)) none), 2, [], [], [], []⟩,
       ⟨(some 35), none, (.mov (.t 8)), 3, [], [], [], []⟩,
       ⟨(some 36), none, (.mov (.t 7)), 4, [], [], [], []⟩,
       ⟨(some 37), none, (.bin .add (.t 35) (.t 36)), 5, [], [], [], []⟩,
       ⟨(some 38), none, (.mov (.t 1)), 6, [], [], [], []⟩,
       ⟨(some 39), none, (.bin .sub (.t 37) (.t 38)), 7, [], [], [], []⟩,
       ⟨(some 40), none, (.apz e sz bytes ze (.t 34) (.t 39)), 8, [], [], [], []⟩,
       ⟨(some 9), none, (.mov (.t 40)), 9, [], [], [], []⟩])
     (.seq
      (.rgn 5 [
       ⟨(some 41), none, (.mov (.t 9)), 0, [], [], [], []⟩,
       ⟨(some 42), none, (.mov (.t 1)), 1, [], [], [], []⟩,
       ⟨(some 43), none, (.slc sz (.t 41) (some (.t 42)) none none), 2, [], [], [], []⟩,
       ⟨(some 44), none, (.mov (.t 2)), 3, [], [], [], []⟩,
       ⟨(some 45), none, (.cpy sz (.t 43) (.t 44)), 4, [], [], [], []⟩])
     (.seq
      (.rgn 9 [
       ⟨(some 46), none, (.mov (.t 9)), 0, [], [], [], []⟩,
       ⟨(some 47), none, (.mov (.t 1)), 1, [], [], [], []⟩,
       ⟨(some 48), none, (.mov (.t 7)), 2, [], [], [], []⟩,
       ⟨(some 49), none, (.bin .add (.t 47) (.t 48)), 3, [], [], [], []⟩,
       ⟨(some 50), none, (.slc sz (.t 46) (some (.t 49)) none none), 4, [], [], [], []⟩,
       ⟨(some 51), none, (.mov (.t 0)), 5, [], [], [], []⟩,
       ⟨(some 52), none, (.mov (.t 1)), 6, [], [], [], []⟩,
       ⟨(some 53), none, (.slc sz (.t 51) (some (.t 52)) none none), 7, [], [], [], []⟩,
       ⟨(some 54), none, (.cpy sz (.t 50) (.t 53)), 8, [], [], [], []⟩])
     (.seq
      (.rgn 2 [
       ⟨(some 55), none, (.mov (.t 9)), 0, [], [], [], []⟩,
       ⟨(some 6), none, (.mov (.t 55)), 1, [], [], [], []⟩])
     .ret))))
     .skip))
  (.seq
   (.rgn 6 [
    ⟨(some 56), none, (.mov (.t 0)), 0, [], [], [], []⟩,
    ⟨(some 57), none, (.mov (.t 8)), 1, [], [], [], []⟩,
    ⟨(some 58), none, (.mov (.t 7)), 2, [], [], [], []⟩,
    ⟨(some 59), none, (.bin .add (.t 57) (.t 58)), 3, [], [], [], []⟩,
    ⟨(some 60), none, (.slc sz (.t 56) none (some (.t 59)) none), 4, [], [], [], []⟩,
    ⟨(some 0), none, (.mov (.t 60)), 5, [], [], [], []⟩])
  (.seq
   (.seq
    (.rgn 8 [
     ⟨(some 61), none, (.mov (.t 2)), 0, [], [], [], []⟩,
     ⟨(some 62), none, (.mov (.t 0)), 1, [], [], [], []⟩,
     ⟨(some 63), none, (.mov (.t 1)), 2, [], [], [], []⟩,
     ⟨(some 64), none, (.mov (.t 7)), 3, [], [], [], []⟩,
     ⟨(some 65), none, (.bin .add (.t 63) (.t 64)), 4, [], [], [], []⟩,
     ⟨(some 66), none, (.slc sz (.t 62) (some (.t 65)) none none), 5, [], [], [], []⟩,
     ⟨(some 67), none, (.callS fo [(.t 61), (.t 66)] true), 6, [], [], [], []⟩,
     ⟨(some 68), none, (.un .not (.t 67)), 7, [], [], [], []⟩])
   (.cond (.t 68)
     (.seq
      (.rgn 9 [
       ⟨(some 69), none, (.mov (.t 0)), 0, [], [], [], []⟩,
       ⟨(some 70), none, (.mov (.t 1)), 1, [], [], [], []⟩,
       ⟨(some 71), none, (.mov (.t 7)), 2, [], [], [], []⟩,
       ⟨(some 72), none, (.bin .add (.t 70) (.t 71)), 3, [], [], [], []⟩,
       ⟨(some 73), none, (.slc sz (.t 69) (some (.t 72)) none none), 4, [], [], [], []⟩,
       ⟨(some 74), none, (.mov (.t 0)), 5, [], [], [], []⟩,
       ⟨(some 75), none, (.mov (.t 1)), 6, [], [], [], []⟩,
       ⟨(some 76), none, (.slc sz (.t 74) (some (.t 75)) none none), 7, [], [], [], []⟩,
       ⟨(some 77), none, (.cpy sz (.t 73) (.t 76)), 8, [], [], [], []⟩])
     (.seq
      (.rgn 5 [
       ⟨(some 78), none, (.mov (.t 0)), 0, [], [], [], []⟩,
       ⟨(some 79), none, (.mov (.t 1)), 1, [], [], [], []⟩,
       ⟨(some 80), none, (.slc sz (.t 78) (some (.t 79)) none none), 2, [], [], [], []⟩,
       ⟨(some 81), none, (.mov (.t 2)), 3, [], [], [], []⟩,
       ⟨(some 82), none, (.cpy sz (.t 80) (.t 81)), 4, [], [], [], []⟩])
     (.seq
      (.rgn 2 [
       ⟨(some 83), none, (.mov (.t 0)), 0, [], [], [], []⟩,
       ⟨(some 6), none, (.mov (.t 83)), 1, [], [], [], []⟩])
     .ret)))
     .skip))
  (.seq
   (.rgn 5 [
    ⟨(some 84), none, (.mov (.t 0)), 0, [], [], [], []⟩,
    ⟨(some 85), none, (.mov (.t 8)), 1, [], [], [], []⟩,
    ⟨(some 86), none, (.slc sz (.t 84) (some (.t 85)) none none), 2, [], [], [], []⟩,
    ⟨(some 87), none, (.mov (.t 2)), 3, [], [], [], []⟩,
    ⟨(some 88), none, (.cpy sz (.t 86) (.t 87)), 4, [], [], [], []⟩])
  (.seq
   (.rgn 5 [
    ⟨(some 89), none, (.mov (.t 0)), 0, [], [], [], []⟩,
    ⟨(some 90), none, (.mov (.t 1)), 1, [], [], [], []⟩,
    ⟨(some 91), none, (.slc sz (.t 89) (some (.t 90)) none none), 2, [], [], [], []⟩,
    ⟨(some 92), none, (.mov (.t 7)), 3, [], [], [], []⟩,
    ⟨(some 93), none, (.callS fr [(.t 91), (.t 92)] false), 4, [], [], [], []⟩])
  (.seq
   (.rgn 2 [
    ⟨(some 94), none, (.mov (.t 0)), 0, [], [], [], []⟩,
    ⟨(some 6), none, (.mov (.t 94)), 1, [], [], [], []⟩])
  .ret))))))))))))
theorem app_mut {h : Hp} {n0 n nw : Nat} {e : TypeId} {sz bytes : Nat} {v x : AV} {xs ys : List AV} (o : MutSl h n0 n e sz v xs) (hx : elems h x sz = some ys) (hne : ys ≠ []) (hnw : n ≤ nw) (hn0 : n0 ≤ nw) (hb : (xs.length + ys.length) * bytes ≤ 140737488355328) (h63 : xs.length + ys.length ≤ 9223372036854775807)
    (hsz : xs.length + ys.length < 2 ^ 60) :
    ∃ v' h', appE h nw e sz bytes v x = some (v', h') ∧ MutSl h' n0 (nw + 1) e sz v' (xs ++ ys) ∧ (∀ j, j ≠ nw → j ∉ v.ids → h' j = h j) ∧ ∀ j ∈ v'.ids, j = nw ∨ j ∈ v.ids := by
  rcases o with ⟨rfl, rfl⟩ | ⟨id, ex, tail, rfl, hid, h1, h2⟩
  · obtain ⟨v', h', q1, q2, q3, q4, q5⟩ := app_own (bytes := bytes) (OwnSl.nil h n0 n e sz) hx hnw hn0 hb h63
    exact ⟨v', h', q1, q2.mut, q4, q5⟩
  · by_cases hroom : xs.length + ys.length ≤ xs.length + tail.length
    · refine ⟨.sl id sz 0 (xs.length + ys.length) (xs.length + tail.length) ex, upd h id (some (.arr e sz ((xs ++ ys) ++ tail.drop ys.length))), ?_, .inr ⟨id, ex, tail.drop ys.length, ?_, by simp, h1, by omega⟩, fun j hj hji => ?_, fun j hj => .inr hj⟩
      · rw [app_in hid hx hne hroom (by simp; omega)]
        congr 4
        rw [Nat.zero_add, List.take_left', List.drop_append, List.drop_of_length_le (by omega), List.nil_append, show xs.length + ys.length - xs.length = ys.length by omega]
        rfl
      · congr 1 <;> simp <;> omega
      · simp at hji; exact upd_ne _ _ hji
    · have hlen : xs.length ≤ (xs ++ tail).length := by simp
      refine ⟨.sl nw sz 0 (xs.length + ys.length) (xs.length + ys.length) false, upd (if ex then h else upd h id none) nw (some (.arr e sz (xs ++ ys))), ?_, .inr ⟨nw, false, [], by simp, by simp, hn0, by omega⟩, fun j hj hji => ?_, fun j hj => ?_⟩
      · unfold appE
        simp only [hx, hid, and_self, if_true, hne, if_false, hroom, Nat.zero_add, hlen, hb, h63, List.drop_zero, List.take_left']
      · rw [upd_ne _ _ hj]
        simp at hji
        split
        · rfl
        · exact upd_ne _ _ hji
      · simp at hj; exact .inl hj
theorem mut_tail {h : Hp} {n0 n : Nat} {e : TypeId} {sz : Nat} {v : AV} {xs : List AV} (o : MutSl h n0 n e sz v xs) {i : Nat} (hi : i ≤ xs.length) : ∃ r, slcA v sz (some (i : Int)) none none = some r := by
  rcases o with ⟨rfl, rfl⟩ | ⟨id, ex, tail, rfl, hid, h1, h2⟩
  · have : i = 0 := by simpa using hi
    subst this
    exact ⟨_, rfl⟩
  · rw [slcA_sl]
    simp only [Option.getD_some, Option.getD_none, if_true]
    rw [if_pos ⟨by omega, by omega, by omega⟩]
    split
    · exact ⟨_, rfl⟩
    · split <;> exact ⟨_, rfl⟩
section
variable {P : Program} {e : TypeId} {sz bytes : Nat} {ze : AV} {fo fr : Nat} {h : Hp} {n0 n : Nat} {x y : AV} {xs : List AV} {K : AV → Hp → Nat → Prop}
set_option maxHeartbeats 2000000 in
/-- At the end. -/
theorem insert_end {v : AV} (o : MutSl h n0 n e sz v xs) (hx : elems h x sz = some [y]) (hn0 : n0 ≤ n) (hb : (xs.length + 1) * bytes ≤ 140737488355328) (hsz : xs.length + 1 < 2 ^ 60)
    (hK : ∀ r h' n', n ≤ n' → MutSl h' n0 n' e sz r (xs ++ [y]) → (∀ j, j < n → j ∉ v.ids → h' j = h j) → (∀ j ∈ r.ids, n ≤ j ∨ j ∈ v.ids) → K r h' n') :
    wpA P (insertCode e sz bytes ze fo fr) (retA [.tmp 6] K) ⟨argS [v, .int .i64 xs.length, x], h, n⟩ := by
  unfold insertCode
  have hxl := elems_len hx
  obtain ⟨r0, hr0⟩ := mut_tail o (Nat.le_refl xs.length)
  (refine wRgn fun K hk => ?_; simp []; refine hk.out _ ?_; clear hk K)
  refine wRgn fun K hk => ?_
  simp [-slcA_sl, -slcA_isl, hr0]
  refine hk.out _ ?_
  clear hk K
  (refine wRgn fun K hk => ?_; simp [hxl]; refine hk.out _ ?_; clear hk K)
  refine wSeq ?_
  (refine wRgn fun K hk => ?_; simp []; refine hk.out _ ?_; clear hk K)
  refine wCond false (by simp) (fun hc => by cases hc) (fun _ => wSkip ?_)
  (refine wRgn fun K hk => ?_; simp [o.len]; refine hk.out _ ?_; clear hk K)
  refine wSeq ?_
  (refine wRgn fun K hk => ?_; simp []; refine hk.out _ ?_; clear hk K)
  refine wCond true (by simp) (fun _ => ?_) (fun hc => by cases hc)
  refine wSeq (wRgn fun K hk => ?_)
  obtain ⟨v', h', q1, q2, q3, q4⟩ := app_mut (nw := n + 1 + 3 + 3 + 2 + 3 + 3 + 2) (bytes := bytes) o hx (by simp) (by omega) (by omega) (by simpa using hb) (by simp; omega) (by simpa using hsz)
  simp [q1]
  refine hk.out _ (wRet ?_)
  simp
  exact hK _ _ _ (by omega) (q2.mono (fun _ _ => rfl) (by omega)) (fun j hj hji => q3 j (by omega) hji) (fun j hj => by rcases q4 j hj with q | q <;> first | exact .inl (by omega) | exact .inr q)
theorem apz_step {nw id off len cap m : Nat} {e' : TypeId} {els : List AV} {k : IntKind} {mi : Int} {K : AV → Hp → Prop} (hid : h id = some (.arr e' sz els)) (hm : mi = (m : Int)) (hg : cap < len + m) (hle : off + len ≤ els.length) (hb : (len + m) * bytes ≤ 140737488355328) (h63 : len + m ≤ 9223372036854775807)
    (hk : K (.sl nw sz 0 (len + m) (len + m) false) (upd h nw (some (.arr e sz ((els.drop off).take len ++ List.replicate m ze))))) : apzW h nw e sz bytes ze (.sl id sz off len cap true) (.int k mi) K := by
  subst hm
  unfold apzW
  simp only [hid]
  have : ((m : Int)).toNat = m := by omega
  rw [this]
  exact ⟨⟨trivial, trivial, by omega, hg, hle, hb, h63⟩, hk⟩
theorem cpy_at {id off len cap : Nat} {ex : Bool} {e' : TypeId} {els ys : List AV} {w : AV} (hid : h id = some (.arr e' sz els)) (hw : elems h w sz = some ys) (hle : off + len ≤ els.length) (hl : ys.length ≤ len ∨ len ≤ ys.length) :
    cpyE h sz (.sl id sz off len cap ex) w = some (.int .i64 (Min.min ys.length len : Nat), upd h id (some (.arr e' sz (els.take off ++ ys.take (Min.min ys.length len) ++ els.drop (off + Min.min ys.length len))))) := by
  unfold cpyE
  simp only [hw, hid]
  rw [if_pos ⟨trivial, trivial, hle⟩]
theorem slc_from {id L cap i : Nat} {ex : Bool} (hi : i < cap) (hl : i ≤ L) (hc : L ≤ cap) : slcA (.sl id sz 0 L cap ex) sz (some (i : Int)) none none = some (.sl id sz i (L - i) (cap - i) ex) := by
  rw [slcA_sl]
  simp only [Option.getD_some, Option.getD_none, if_true]
  rw [if_pos ⟨by omega, by omega, by omega⟩, if_pos (by omega)]
  congr 2 <;> omega
theorem slc_to {id L cap i : Nat} {ex : Bool} (hi : i ≤ cap) (hc : 0 < cap) : slcA (.sl id sz 0 L cap ex) sz none (some (i : Int)) none = some (.sl id sz 0 i cap ex) := by
  rw [slcA_sl]
  simp only [Option.getD_some, Option.getD_none, if_true]
  rw [if_pos ⟨by omega, by omega, by omega⟩, if_pos (by omega)]
  simp
set_option maxHeartbeats 4000000 in
/-- Where there is no room. -/
theorem insert_grow {id i : Nat} (hid : h id = some (.arr e sz xs)) (hx : elems h x sz = some [y]) (hxi : ∀ j ∈ x.ids, j < n) (hidn : id < n) (hn0 : n0 ≤ n) (hi : i < xs.length) (hb : (xs.length + 1) * bytes ≤ 140737488355328) (hsz : xs.length + 1 < 2 ^ 60)
    (hK : ∀ r h' n', n ≤ n' → MutSl h' n0 n' e sz r (xs.take i ++ y :: xs.drop i) → (∀ j, j < n → h' j = h j) → (∀ j ∈ r.ids, n ≤ j) → K r h' n') :
    wpA P (insertCode e sz bytes ze fo fr) (retA [.tmp 6] K) ⟨argS [.sl id sz 0 xs.length xs.length true, .int .i64 i, x], h, n⟩ := by
  unfold insertCode
  have hxl := elems_len hx
  have s1 := slc_from (sz := sz) (id := id) (L := xs.length) (cap := xs.length) (i := i) (ex := true) hi (by omega) (by omega)
  (refine wRgn fun K hk => ?_; simp []; refine hk.out _ ?_; clear hk K)
  refine wRgn fun K hk => ?_
  simp [-slcA_sl, -slcA_isl, s1]
  refine hk.out _ ?_
  clear hk K
  (refine wRgn fun K hk => ?_; simp [hxl]; refine hk.out _ ?_; clear hk K)
  refine wSeq ?_
  (refine wRgn fun K hk => ?_; simp []; refine hk.out _ ?_; clear hk K)
  refine wCond false (by simp) (fun hc => by cases hc) (fun _ => wSkip ?_)
  (refine wRgn fun K hk => ?_; simp []; refine hk.out _ ?_; clear hk K)
  refine wSeq ?_
  (refine wRgn fun K hk => ?_; simp []; refine hk.out _ ?_; clear hk K)
  have c0 : ((i : Int) == (xs.length : Int)) = false := by
    have : ¬ (i : Int) = (xs.length : Int) := by omega
    simpa using this
  refine wCond false (by simp [c0]) (fun hc => by cases hc) (fun _ => wSkip ?_)
  refine wSeq ?_
  have w1 : IntKind.i64.wrap ((xs.length : Int) + 1) = (xs.length : Int) + 1 := wrap_i64 (by omega) (by omega)
  (refine wRgn fun K hk => ?_; simp [w1]; refine hk.out _ ?_; clear hk K)
  refine wCond true (by simp; omega) (fun _ => ?_) (fun hc => by cases hc)
  refine wSeq (wRgn fun K hk => ?_)
  have s2 := slc_to (sz := sz) (id := id) (L := xs.length) (cap := xs.length) (i := i) (ex := true) (by omega) (by omega)
  have w2 : IntKind.i64.wrap ((xs.length : Int) + 1 - (i : Int)) = ((xs.length + 1 - i : Nat) : Int) := by
    rw [wrap_i64 (by omega) (by omega)]; omega
  simp [-slcA_sl, s2, w1, w2]
  refine apz_step (m := xs.length + 1 - i) (len := i) (cap := xs.length) (off := 0) hid rfl (by omega) (by omega) (by rw [show i + (xs.length + 1 - i) = xs.length + 1 by omega]; exact hb) (by omega) ?_
  rw [show i + (xs.length + 1 - i) = xs.length + 1 by omega]
  simp
  refine hk.out _ ?_
  clear hk K
  -- the element
  refine wSeq (wRgn fun K hk => ?_)
  have s3 := slc_from (sz := sz) (id := n + 1 + 3 + 3 + 2 + 3 + 3 + 6 + 8) (L := xs.length + 1) (cap := xs.length + 1) (i := i) (ex := false) (by omega) (by omega) (by omega)
  have hZ : (xs.take i ++ List.replicate (xs.length + 1 - i) ze).length = xs.length + 1 := by simp; omega
  have hx2 : ∀ ob, elems (upd h (n + 1 + 3 + 3 + 2 + 3 + 3 + 6 + 8) ob) x sz = some [y] := fun ob => by
    rw [elems_same fun j hj => upd_ne _ _ (by have := hxi j hj; omega)]; exact hx
  have q1 := cpy_at (id := n + 1 + 3 + 3 + 2 + 3 + 3 + 6 + 8) (off := i) (len := xs.length + 1 - i) (cap := xs.length + 1 - i) (ex := false) (sz := sz) (e' := e) (upd_same h (n + 1 + 3 + 3 + 2 + 3 + 3 + 6 + 8) (some (.arr e sz (xs.take i ++ List.replicate (xs.length + 1 - i) ze)))) (hx2 _) (by rw [hZ]; omega) (.inl (by simp; omega))
  simp only [List.length_cons, List.length_nil, Nat.zero_add, show Min.min 1 (xs.length + 1 - i) = 1 by omega] at q1
  simp [-slcA_sl, s3, q1]
  refine hk.out _ ?_
  clear hk K
  -- the tail
  refine wSeq (wRgn fun K hk => ?_)
  have hZ2 : (List.take i (xs.take i ++ List.replicate (xs.length + 1 - i) ze) ++ y :: List.drop (i + 1) (xs.take i ++ List.replicate (xs.length + 1 - i) ze)) = xs.take i ++ y :: List.replicate (xs.length - i) ze := by
    have hl : (xs.take i).length = i := by simp; omega
    rw [List.take_append_of_le_length (by omega), List.take_of_length_le (by omega), List.drop_append, List.drop_of_length_le (by omega), List.nil_append, hl, List.drop_replicate]
    congr 3; omega
  rw [hZ2, upd_upd]
  have hne : id ≠ n + 1 + 3 + 3 + 2 + 3 + 3 + 6 + 8 := by omega
  have s4 : slcA (.sl (n + 1 + 3 + 3 + 2 + 3 + 3 + 6 + 8) sz 0 (xs.length + 1) (xs.length + 1) false) sz (some ((i : Int) + 1)) none none = some (.sl (n + 1 + 3 + 3 + 2 + 3 + 3 + 6 + 8) sz (i + 1) (xs.length - i) (xs.length - i) false) := by
    have := slc_from (sz := sz) (id := n + 1 + 3 + 3 + 2 + 3 + 3 + 6 + 8) (L := xs.length + 1) (cap := xs.length + 1) (i := i + 1) (ex := false) (by omega) (by omega) (by omega)
    rw [show xs.length + 1 - (i + 1) = xs.length - i by omega] at this
    exact this
  have w3 : IntKind.i64.wrap ((i : Int) + 1) = (i : Int) + 1 := wrap_i64 (by omega) (by omega)
  have he3 : ∀ ob, elems (upd h (n + 1 + 3 + 3 + 2 + 3 + 3 + 6 + 8) ob) (.sl id sz i (xs.length - i) (xs.length - i) true) sz = some (xs.drop i) := fun ob => by
    rw [elems_same (h := h) fun j hj => upd_ne _ _ (by simp at hj; omega)]
    have : i + (xs.length - i) ≤ xs.length := by omega
    simp [hid, this]
    exact List.take_of_length_le (by simp)
  have q2 := cpy_at (id := n + 1 + 3 + 3 + 2 + 3 + 3 + 6 + 8) (off := i + 1) (len := xs.length - i) (cap := xs.length - i) (ex := false) (sz := sz) (e' := e) (upd_same h (n + 1 + 3 + 3 + 2 + 3 + 3 + 6 + 8) (some (.arr e sz (xs.take i ++ y :: List.replicate (xs.length - i) ze)))) (he3 _) (by simp; omega) (.inl (by simp))
  simp only [List.length_drop, Nat.min_self, upd_upd] at q2
  have hZ3 : List.take (i + 1) (xs.take i ++ y :: List.replicate (xs.length - i) ze) ++ List.take (xs.length - i) (xs.drop i) ++ List.drop (i + 1 + (xs.length - i)) (xs.take i ++ y :: List.replicate (xs.length - i) ze) = xs.take i ++ y :: xs.drop i := by
    have hl : (xs.take i).length = i := by simp; omega
    have e1 : List.drop (i + 1 + (xs.length - i)) (xs.take i ++ y :: List.replicate (xs.length - i) ze) = [] := List.drop_of_length_le (by simp; omega)
    have e2 : List.take (xs.length - i) (xs.drop i) = xs.drop i := List.take_of_length_le (by simp)
    have e3 : List.take (i + 1) (xs.take i ++ y :: List.replicate (xs.length - i) ze) = xs.take i ++ [y] := by
      rw [List.take_append, List.take_of_length_le (by omega), hl, show i + 1 - i = 1 by omega]
      rfl
    rw [e1, e2, e3]
    simp
  rw [hZ3] at q2
  simp [-slcA_sl, s4, s1, w3, q2]
  refine hk.out _ ?_
  clear hk K
  (refine wRgn fun K hk => ?_; simp []; refine hk.out _ ?_; clear hk K)
  refine wRet' ?_
  simp
  refine hK _ _ _ (by omega) (.inr ⟨n + 1 + 3 + 3 + 2 + 3 + 3 + 6 + 8, false, [], ?_, by simp, by omega, by omega⟩) (fun j hj => upd_ne _ _ (by omega)) (fun j hj => by simp at hj; omega)
  congr 1 <;> simp <;> omega
set_option maxHeartbeats 4000000 in
/-- Where there is room. -/
theorem insert_room {id i idx cx : Nat} {exx : Bool} {tail : List AV} (hid : h id = some (.arr e sz (xs ++ tail))) (ht : 0 < tail.length) (hx : elems h (.sl idx sz 0 1 cx exx) sz = some [y]) (hne : idx ≠ id) (hidn : id < n) (hid0 : n0 ≤ id) (hn0 : n0 ≤ n) (hi : i < xs.length) (hsz : xs.length + 1 < 2 ^ 60)
    (hov : ∀ n', n ≤ n' → CallsA P fo [.sl idx sz 0 1 cx exx, .sl id sz (i + 1) (xs.length - i) (xs.length + tail.length - (i + 1)) true] h n' fun r h' _ => r = .bool false ∧ h' = h)
    (hK : ∀ r h' n', n ≤ n' → MutSl h' n0 n' e sz r (xs.take i ++ y :: xs.drop i) → (∀ j, j ≠ id → h' j = h j) → (∀ j ∈ r.ids, j = id) → K r h' n') :
    wpA P (insertCode e sz bytes ze fo fr) (retA [.tmp 6] K) ⟨argS [.sl id sz 0 xs.length (xs.length + tail.length) true, .int .i64 i, .sl idx sz 0 1 cx exx], h, n⟩ := by
  unfold insertCode
  have s1 := slc_from (sz := sz) (id := id) (L := xs.length) (cap := xs.length + tail.length) (i := i) (ex := true) (by omega) (by omega) (by omega)
  (refine wRgn fun K hk => ?_; simp []; refine hk.out _ ?_; clear hk K)
  refine wRgn fun K hk => ?_
  simp [-slcA_sl, -slcA_isl, s1]
  refine hk.out _ ?_
  clear hk K
  (refine wRgn fun K hk => ?_; simp []; refine hk.out _ ?_; clear hk K)
  refine wSeq ?_
  (refine wRgn fun K hk => ?_; simp []; refine hk.out _ ?_; clear hk K)
  refine wCond false (by simp) (fun hc => by cases hc) (fun _ => wSkip ?_)
  (refine wRgn fun K hk => ?_; simp []; refine hk.out _ ?_; clear hk K)
  refine wSeq ?_
  (refine wRgn fun K hk => ?_; simp []; refine hk.out _ ?_; clear hk K)
  have c0 : ((i : Int) == (xs.length : Int)) = false := by
    have : ¬ (i : Int) = (xs.length : Int) := by omega
    simpa using this
  refine wCond false (by simp [c0]) (fun hc => by cases hc) (fun _ => wSkip ?_)
  refine wSeq ?_
  have w1 : IntKind.i64.wrap ((xs.length : Int) + 1) = (xs.length : Int) + 1 := wrap_i64 (by omega) (by omega)
  have w3 : IntKind.i64.wrap ((i : Int) + 1) = (i : Int) + 1 := wrap_i64 (by omega) (by omega)
  (refine wRgn fun K hk => ?_; simp [w1]; refine hk.out _ ?_; clear hk K)
  refine wCond false (by simp; omega) (fun hc => by cases hc) (fun _ => wSkip ?_)
  have s2 : slcA (.sl id sz 0 xs.length (xs.length + tail.length) true) sz none (some ((xs.length : Int) + 1)) none = some (.sl id sz 0 (xs.length + 1) (xs.length + tail.length) true) :=
    slc_to (sz := sz) (id := id) (L := xs.length) (cap := xs.length + tail.length) (i := xs.length + 1) (ex := true) (by omega) (by omega)
  refine wRgn fun K hk => ?_
  simp [-slcA_sl, s2, w1]
  refine hk.out _ ?_
  clear hk K
  refine wSeq (wRgn fun K hk => ?_)
  have s3 : slcA (.sl id sz 0 (xs.length + 1) (xs.length + tail.length) true) sz (some ((i : Int) + 1)) none none = some (.sl id sz (i + 1) (xs.length - i) (xs.length + tail.length - (i + 1)) true) := by
    have := slc_from (sz := sz) (id := id) (L := xs.length + 1) (cap := xs.length + tail.length) (i := i + 1) (ex := true) (by omega) (by omega) (by omega)
    rw [show xs.length + 1 - (i + 1) = xs.length - i by omega] at this
    exact this
  simp [-slcA_sl, s3, w3]
  refine doCall_keep ((hov _ (by simp; omega)).more.mono ?_)
  rintro r h' n' ⟨⟨rfl, rfl⟩, hn', -⟩
  refine ⟨fun _ _ => rfl, fun _ q => .inl q, ?_⟩
  simp at hn'
  simp
  refine hk.out _ ?_
  clear hk K
  refine wCond true (by simp) (fun _ => ?_) (fun hc => by cases hc)
  refine wSeq (wRgn fun K hk => ?_)
  have s4 := slc_from (sz := sz) (id := id) (L := xs.length + 1) (cap := xs.length + tail.length) (i := i) (ex := true) (by omega) (by omega) (by omega)
  have he4 : elems h' (.sl id sz i (xs.length + 1 - i) (xs.length + tail.length - i) true) sz = some (((xs ++ tail).drop i).take (xs.length + 1 - i)) := by
    have : i + (xs.length + 1 - i) ≤ xs.length + tail.length := by omega
    simp [hid, this]
  have hle : (((xs ++ tail).drop i).take (xs.length + 1 - i)).length = xs.length + 1 - i := by simp; omega
  have q2 := cpy_at (off := i + 1) (len := xs.length - i) (cap := xs.length + tail.length - (i + 1)) (ex := true) (sz := sz) hid he4 (by simp; omega) (.inr (by omega))
  rw [hle, show Min.min (xs.length + 1 - i) (xs.length - i) = xs.length - i by omega] at q2
  have hZ : List.take (i + 1) (xs ++ tail) ++ List.take (xs.length - i) (((xs ++ tail).drop i).take (xs.length + 1 - i)) ++ List.drop (i + 1 + (xs.length - i)) (xs ++ tail) = xs.take (i + 1) ++ (xs.drop i ++ tail.tail) := by
    have e1 : List.drop (i + 1 + (xs.length - i)) (xs ++ tail) = tail.tail := by
      rw [show i + 1 + (xs.length - i) = xs.length + 1 by omega, List.drop_append, List.drop_of_length_le (by omega), List.nil_append, show xs.length + 1 - xs.length = 1 by omega, List.drop_one]
    have e2 : List.take (xs.length - i) (((xs ++ tail).drop i).take (xs.length + 1 - i)) = xs.drop i := by
      rw [List.take_take, show Min.min (xs.length - i) (xs.length + 1 - i) = xs.length - i by omega, List.drop_append_of_le_length (by omega), List.take_append_of_le_length (by simp)]
      exact List.take_of_length_le (by simp)
    rw [e1, e2, List.take_append_of_le_length (by omega), List.append_assoc]
  rw [hZ] at q2
  simp [-slcA_sl, s3, s4, w3, q2]
  refine hk.out _ ?_
  clear hk K
  refine wSeq (wRgn fun K hk => ?_)
  have hx2 : ∀ ob, elems (upd h' id ob) (.sl idx sz 0 1 cx exx) sz = some [y] := fun ob => by
    rw [elems_same (h := h') fun j hj => upd_ne _ _ (by simp at hj; omega)]; exact hx
  have q3 := cpy_at (off := i) (len := xs.length + 1 - i) (cap := xs.length + tail.length - i) (ex := true) (sz := sz) (upd_same h' id (some (.arr e sz (xs.take (i + 1) ++ (xs.drop i ++ tail.tail))))) (hx2 _) (by simp; omega) (.inl (by simp; omega))
  simp only [List.length_cons, List.length_nil, Nat.zero_add, show Min.min 1 (xs.length + 1 - i) = 1 by omega, upd_upd] at q3
  have hZ2 : List.take i (xs.take (i + 1) ++ (xs.drop i ++ tail.tail)) ++ List.take 1 [y] ++ List.drop (i + 1) (xs.take (i + 1) ++ (xs.drop i ++ tail.tail)) = (xs.take i ++ y :: xs.drop i) ++ tail.tail := by
    have hl : (xs.take (i + 1)).length = i + 1 := by simp; omega
    rw [List.take_append_of_le_length (by omega), List.take_take, show Min.min i (i + 1) = i by omega, List.drop_append, List.drop_of_length_le (by omega), List.nil_append, hl, Nat.sub_self, List.drop_zero]
    simp
  rw [hZ2] at q3
  simp [-slcA_sl, s4, q3]
  refine hk.out _ ?_
  clear hk K
  (refine wRgn fun K hk => ?_; simp []; refine hk.out _ ?_; clear hk K)
  refine wRet' ?_
  simp
  refine hK _ _ _ (by omega) (.inr ⟨id, true, tail.tail, ?_, by simp, hid0, by omega⟩) (fun j hj => upd_ne _ _ hj) (fun j hj => by simp at hj; exact hj)
  congr 1 <;> simp <;> omega
end
end Go.E3
