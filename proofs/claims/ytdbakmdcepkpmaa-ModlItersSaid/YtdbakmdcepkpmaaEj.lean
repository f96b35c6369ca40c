/- add. -/
import Derived.Test.YtdbakmdcepkpmaaEi
set_option linter.unusedSimpArgs false
set_option linter.unusedVariables false
namespace Go.Proofs.Ytdbakmdcepkpmaa
open Go.E3
def nilA : AV := .isl (some true) true []
def newSer (id : Int) : Series := ⟨id, false, false, 0, []⟩
/-- Where the row is made, if it was not there. -/
def madeP (sp : List (Series × AV)) (id : Int) (i : Nat) (there : Bool) : List (Series × AV) := if there then sp else sp.take i ++ (newSer id, nilA) :: sp.drop i
def made (l : List Series) (id : Int) (i : Nat) (there : Bool) : List Series := if there then l else l.take i ++ newSer id :: l.drop i
theorem madeP_fst (sp : List (Series × AV)) (id : Int) (i : Nat) (there : Bool) : (madeP sp id i there).map (·.1) = made (sp.map (·.1)) id i there := by
  unfold madeP made
  split <;> simp
def addErr (s : Series) (o : Op) : Int := if s.sealed_ then 2 else if s.any && decide (o.t ≤ s.last) then 1 else 0
def addTo (s : Series) (o : Op) : Series := { s with any := true, last := o.t, list := s.list ++ [⟨o.t, o.v⟩] }
theorem nilA_smp (h : Hp) (lo n : Nat) : SmpL h lo n nilA [] := .inl ⟨true, rfl, rfl⟩
theorem nilA_apart (v : AV) : Apart nilA v := fun id h => by simp [nilA] at h
theorem pw_ins {l m : List AV} (h : (l ++ m).Pairwise Apart) {y : AV} (hy : y.ids = []) (i : Nat) : ((l.take i ++ y :: l.drop i) ++ m).Pairwise Apart := by
  have hp : ((l.take i ++ y :: l.drop i) ++ m).Perm (y :: (l ++ m)) := by
    refine (List.Perm.append_right m (List.perm_middle (a := y) (l₁ := l.take i) (l₂ := l.drop i))).trans ?_
    rw [List.take_append_drop]; rfl
  rw [hp.pairwise_iff (fun {a b} => Apart.symm)]
  exact .cons (fun x _ id hid => by rw [hy] at hid; simp at hid) h
theorem ModI.toP {h : Hp} {lo n : Nat} {sv iv : AV} {sp : List (Series × AV)} {ip : List (Iter × AV)} (H : ModI h lo n sv iv sp ip) : ModP h lo n sv iv nilA sp ip [] :=
  ⟨H.ser.mut, H.its.mut, H.ls, H.li, nilA_smp _ _ _, .cons (fun x _ => nilA_apart x) H.apart⟩
theorem ModP.ids {h : Hp} {lo n : Nat} {sv iv rl : AV} {sp : List (Series × AV)} {ip : List (Iter × AV)} {l : List Sample} (H : ModP h lo n sv iv rl sp ip l) : ∀ x ∈ rl :: sv :: iv :: (sp.map (·.2) ++ ip.map (·.2)), ∀ id ∈ x.ids, lo ≤ id ∧ id < n := by
  intro x hx id hid
  simp only [List.mem_cons, List.mem_append, List.mem_map] at hx
  rcases hx with rfl | rfl | rfl | ⟨p, hp, rfl⟩ | ⟨p, hp, rfl⟩
  · exact H.rs.ids id hid
  · exact H.ser.ids id hid
  · exact H.its.ids id hid
  · exact (H.ls p hp).ids id hid
  · exact (H.li p hp).ids id hid
theorem mut_lo {h h' : Hp} {lo n n1 : Nat} {e sz : Nat} {v : AV} {xs : List AV} (o : MutSl h lo n e sz v xs) (hh : ∀ id ∈ v.ids, h' id = h id) (hn : n ≤ n1) : MutSl h' lo n1 e sz v xs := o.mono hh hn
/-- What lies where nothing was turned is as it was. -/
theorem ModP.mono {h h' : Hp} {lo n n1 : Nat} {sv iv rl : AV} {sp : List (Series × AV)} {ip : List (Iter × AV)} {l : List Sample} (H : ModP h lo n sv iv rl sp ip l) (hh : ∀ id, lo ≤ id → id < n → h' id = h id) (hn : n ≤ n1) : ModP h' lo n1 sv iv rl sp ip l :=
  ⟨H.ser.mono (fun id hid => hh id (H.ser.ids id hid).1 (H.ser.ids id hid).2) hn, H.its.mono (fun id hid => hh id (H.its.ids id hid).1 (H.its.ids id hid).2) hn,
    fun p hp => (H.ls p hp).mono (fun id hid => hh id ((H.ls p hp).ids id hid).1 ((H.ls p hp).ids id hid).2) (Nat.le_refl _) hn,
    fun p hp => (H.li p hp).mono (fun id hid => hh id ((H.li p hp).ids id hid).1 ((H.li p hp).ids id hid).2) (Nat.le_refl _) hn,
    H.rs.mono (fun id hid => hh id (H.rs.ids id hid).1 (H.rs.ids id hid).2) (Nat.le_refl _) hn, H.apart⟩
theorem mut_cells {h : Hp} {lo n : Nat} {e sz : Nat} {v : AV} {xs : List AV} (o : MutSl h lo n e sz v xs) : v.cells = [v] ∧ v.flat = true := by
  rcases o with ⟨rfl, _⟩ | ⟨id, ex, tail, rfl, _⟩ <;> exact ⟨rfl, rfl⟩
def mbox (sv iv : AV) (nx : Int) : Option AObj := some (.arr 25 3 [.agg [sv, iv, .int .i64 nx]])
set_option maxHeartbeats 4000000 in
theorem s53 {p lo hi n i : Nat} {sv iv : AV} {nx : Int} {sp : List (Series × AV)} {ip : List (Iter × AV)} {o : Op} {there : Bool} {h : Hp} (hp : h p = mbox sv iv nx) (hpl : p < lo) (hlo : lo ≤ hi) (hhi : hi ≤ n) (H : ModI h lo hi sv iv sp ip)
    (hi' : i ≤ sp.length) (ht : there = true → i < sp.length) (hl : sp.length < 2 ^ 39) (hls : ∀ q ∈ sp, q.1.list.length < 2 ^ 39) :
    CallsA Try.prog 53 [.ptr p 3 0 0, .int .i64 i, .bool there, opA o] h n fun r h' n' => (∀ j, j < n → j ≠ p → (j < lo ∨ hi ≤ j) → h' j = h j) ∧
      ∃ s sv' sp', (made (sp.map (·.1)) o.series i there)[i]? = some s ∧ r = .int .i64 (addErr s o) ∧ h' p = mbox sv' iv nx ∧ ModP h' lo n' sv' iv nilA sp' ip [] ∧ (addErr s o = 0 → sp'.map (·.1) = (made (sp.map (·.1)) o.series i there).set i (addTo s o)) := by
  refine CallsA.wf fun hwf => ?_
  refine e53 (by simp) ?_
  have hpn : p ≠ n := by omega
  rw [a53, r53]
  (refine wRgn fun K hk => ?_; simp [opA]; refine hk.out _ ?_; clear hk K)
  refine seqJ (fun st => st.s 0 = .ptr p 3 0 0 ∧ st.s 1 = .int .i64 i ∧ st.s 7 = .ptr n 8 0 0 ∧ st.h n = some (.arr 28 8 [opA o]) ∧ n + 2 ≤ st.n ∧ (∀ j, j < n → j ≠ p → (j < lo ∨ hi ≤ j) → st.h j = h j) ∧ ∃ sv1, st.h p = mbox sv1 iv nx ∧ (∀ j ∈ sv1.ids, n ≤ j ∨ j < hi) ∧ ModP st.h lo st.n sv1 iv nilA (madeP sp o.series i there) ip []) ?_ ?_
  · (refine wRgn fun K hk => ?_; simp []; refine hk.out _ ?_; clear hk K)
    cases there with
    | true =>
      refine wCond' false (by simp) (fun hc => by cases hc) (fun _ => wSkip' ?_)
      refine ⟨by simp, by simp, by simp, by simp [opA], by simp, fun j hj hjp _ => ?_, sv, ?_, fun j hj => .inr (H.ser.mut.ids j hj).2, ?_⟩
      · simp only []; rw [upd_ne _ _ (by omega)]
      · simp [hpn, hp]
      · exact H.toP.mono (fun id h1 h2 => upd_ne _ _ (by omega)) (by simp; omega)
    | false =>
      refine wCond' true (by simp) (fun _ => ?_) (fun hc => by cases hc)
      refine wRgn' fun K hk => ?_
      simp [hpn, hp, mbox]
      refine ⟨by omega, ?_⟩
      have hex : ∀ h' : Hp, (∀ j, lo ≤ j → j < hi → h' j = h j) → ∀ m, hi ≤ m → ExSl h' lo m 38 5 sv (sp.map serP) := fun h' hh m hm => H.ser.mono (fun id hid => hh id (H.ser.mut.ids id hid).1 (H.ser.mut.ids id hid).2) hm
      have hsi := H.ser.mut.ids
      refine doCallF (s58 (lo := lo) (xs := sp.map serP) (y := serP (newSer o.series, nilA)) (hex _ (fun j h1 h2 => ?_) _ ?_) (by simp; rfl) (by simp [serP, serR, newSer, nilA]) (by simp) (fun q => ?_) ?_ (by simpa using hi') (by simp; omega)) ?_
      · (repeat (first | rw [upd_ne _ _ (by omega)] | rw [if_neg (by omega)]))
      · omega
      · have := hsi _ q; omega
      · omega
      rintro sv1 h2 n2 ⟨q1, q2, q3⟩ hn2 hwf2
      simp at hn2 q2 q3
      have c := mut_cells q1
      have hp2 : h2 p = mbox sv iv nx := by
        rw [q2 p (by omega) (fun q => by have := hsi _ q; omega)]; (repeat (first | rw [upd_ne _ _ (by omega)] | rw [if_neg (by omega)])); exact hp
      simp [hp2, mbox, c]
      refine hk.out _ ⟨by simp, by simp, by simp, ?_, ?_, ?_, sv1, by simp [mbox], fun j hj => by rcases q3 j hj with q | q; exact .inl (by omega); exact .inr (hsi j q).2, ?_⟩
      · simp [hpn.symm]
        rw [q2 n (by omega) (fun q => by have := hsi _ q; omega)]
        simp [opA]
        omega
      · simp; omega
      · intro j hj hjp hjl
        simp only
        rw [upd_ne _ _ hjp, q2 j (by omega) (fun q => by have := hsi _ q; omega)]; (repeat (first | rw [upd_ne _ _ (by omega)] | rw [if_neg (by omega)]))
      · have hold : ∀ j, j < n → j ∉ sv.ids → j ≠ p → upd h2 p (some (AObj.arr 25 3 [AV.agg [sv1, iv, AV.int IntKind.i64 nx]])) j = h j := fun j hj hjs hjp => by
          rw [upd_ne _ _ hjp, q2 j (by omega) hjs]; (repeat (first | rw [upd_ne _ _ (by omega)] | rw [if_neg (by omega)]))
        have hap := H.apart
        rw [List.pairwise_cons] at hap
        have hid1 : ∀ id ∈ sv1.ids, lo ≤ id := fun id hid => (q1.ids id hid).1
        simp only
        have q1' : MutSl (upd h2 p (some (AObj.arr 25 3 [AV.agg [sv1, iv, AV.int IntKind.i64 nx]]))) lo n2 38 5 sv1 _ := q1.mono (fun id hid => upd_ne _ _ (by have := hid1 id hid; omega)) (Nat.le_refl _)
        refine ⟨?_, ?_, ?_, ?_, nilA_smp _ _ _, ?_⟩
        · simpa [madeP, List.map_take, List.map_drop] using q1'
        · refine H.its.mut.mono (fun id hid => hold id ?_ ?_ ?_) (by omega)
          · have := H.its.ids id hid; omega
          · intro q; exact hap.1 iv (by simp) id q hid
          · have := H.its.ids id hid; omega
        · intro q hq
          simp [madeP] at hq
          have hq' : q ∈ sp ∨ q = (newSer o.series, nilA) := by
            rcases hq with hq | rfl | hq
            · exact .inl (List.mem_of_mem_take hq)
            · exact .inr rfl
            · exact .inl (List.mem_of_mem_drop hq)
          rcases hq' with hq | rfl
          · have := (H.ls q hq).ids
            refine (H.ls q hq).mono (fun id hid => hold id ?_ (fun q2 => ?_) ?_) (Nat.le_refl _) (by omega)
            · have := this id hid; omega
            · exact hap.1 q.2 (by simp; exact .inr (.inl ⟨q.1, hq⟩)) id q2 hid
            · have := this id hid; omega
          · exact nilA_smp _ _ _
        · intro q hq
          have := (H.li q hq).ids
          refine (H.li q hq).mono (fun id hid => hold id ?_ (fun q2 => ?_) ?_) (Nat.le_refl _) (by omega)
          · have := this id hid; omega
          · exact hap.1 q.2 (by simp; exact .inr (.inr ⟨q.1, hq⟩)) id q2 hid
          · have := this id hid; omega
        · refine .cons (fun x _ => nilA_apart x) ?_
          have hlt : ∀ z ∈ (sv :: iv :: (sp.map (·.2) ++ ip.map (·.2))), ∀ id ∈ z.ids, id < n + 2 + 2 + 14 := fun z hz id hid => by
            have := H.toP.ids z (.tail _ hz) id hid; omega
          have w1 := pw_turn H.apart (i := 0) (y := sv1) rfl hlt q3
          simp only [List.set_cons_zero] at w1
          have w2 := pw_ins (l := sv1 :: iv :: sp.map (fun x : Series × AV => x.2)) (m := ip.map (fun x : Iter × AV => x.2)) w1 (y := nilA) rfl (i + 2)
          simpa [madeP, List.map_take, List.map_drop] using w2
  · rintro ⟨s, h1, n1⟩ ⟨s0, s1, s7, hn, hn1, hfr, sv1, hp1, hsvi, H1⟩
    simp only at s0 s1 s7 hn hn1 hfr hp1 H1
    generalize hSP : madeP sp o.series i there = SP at H1
    have hfst : SP.map (·.1) = made (sp.map (·.1)) o.series i there := by rw [← hSP]; exact madeP_fst _ _ _ _
    have hiS : i < SP.length := by
      rw [← hSP]; unfold madeP
      cases there with
      | true => simpa using ht rfl
      | false => simp; omega
    obtain ⟨⟨sr, lv⟩, hx⟩ : ∃ x, SP[i]? = some x := ⟨SP[i], List.getElem?_eq_getElem hiS⟩
    have hlv := H1.ls _ (List.mem_of_getElem? hx)
    simp only at hlv
    have hsl : sr.list.length < 2 ^ 39 := by
      have hm := List.mem_of_getElem? hx
      rw [← hSP] at hm
      unfold madeP at hm
      split at hm
      · exact hls _ hm
      · rcases List.mem_append.1 hm with hm | hm
        · exact hls _ (List.mem_of_mem_take hm)
        · rcases List.mem_cons.1 hm with hm | hm
          · injection hm with h1 h2; subst h1; simp [newSer]
          · exact hls _ (List.mem_of_mem_drop hm)
    have hlvh : ∀ j ∈ lv.ids, j < hi := by
      have hm := List.mem_of_getElem? hx
      rw [← hSP] at hm
      unfold madeP at hm
      split at hm
      · exact fun j hj => ((H.ls _ hm).ids j hj).2
      · rcases List.mem_append.1 hm with hm | hm
        · exact fun j hj => ((H.ls _ (List.mem_of_mem_take hm)).ids j hj).2
        · rcases List.mem_cons.1 hm with hm | hm
          · injection hm with h1 h2; subst h2; intro j hj; simp [nilA] at hj
          · exact fun j hj => ((H.ls _ (List.mem_of_mem_drop hm)).ids j hj).2
    have hsr : (made (sp.map (·.1)) o.series i there)[i]? = some sr := by rw [← hfst]; simp [hx]
    have hids := H1.ids
    have hserids := H1.ser.ids
    rcases H1.ser with ⟨_, h0⟩ | ⟨id, ex, tail, rfl, hid, hid1, hid2⟩
    · have : SP = [] := by simpa using h0
      rw [this] at hiS; simp at hiS
    obtain ⟨c1, c2⟩ := hlv.cells
    have hrow : (SP.map serP ++ tail)[i]? = some (serR sr lv) := by
      rw [List.getElem?_append_left (by simpa using hiS)]; simp [hx, serP]
    have hpn1 : p ≠ n := by omega
    have hpid : p ≠ id := by omega
    have hnid : n ≠ id := by rintro rfl; rw [hn] at hid; cases hid
    simp only [mbox] at hp1
    (refine wRgn fun K hk => ?_; simp [s0, s1, hp1, hiS]; refine hk.out _ ?_; clear hk K)
    refine seqJ (fun st => st.s 7 = .ptr n 8 0 0 ∧ st.s 9 = .ptr id 5 i 0 ∧ st.h = h1 ∧ n1 ≤ st.n ∧ addErr sr o = 0) ?_ ?_
    · refine wBlock' ?_
      (refine wRgn fun K hk => ?_; simp [hid, hrow, serR]; refine hk.out _ ?_; clear hk K)
      refine wCond' sr.sealed_ (by simp) (fun hc => ?_) (fun hc => ?_)
      · (refine wRgn fun K hk => ?_; simp []; refine hk.out _ ?_; clear hk K)
        refine wRet' (retV (v := .int .i64 2) (by simp) ?_)
        exact ⟨hfr, sr, _, SP, hsr, by simp [addErr, hc], hp1, H1.mono (fun _ _ _ => rfl) (by omega), fun q => by simp [addErr, hc] at q⟩
      · cases ha : sr.any with
        | false =>
          (refine wRgn fun K hk => ?_; simp [s7, hn, hid, hrow, serR, opA, ha]; refine hk.out _ ?_; clear hk K)
          refine wCond' false (by simp) (fun hc => by cases hc) (fun _ => wSkip' ?_)
          exact ⟨by simp [s7], by simp, rfl, by simp; omega, by simp [addErr, hc, ha]⟩
        | true =>
          (refine wRgn fun K hk => ?_; simp [s7, hn, hid, hrow, serR, opA, ha]; refine hk.out _ ?_; clear hk K)
          refine wCond' (decide (o.t ≤ sr.last)) (by simp) (fun hd => ?_) (fun hd => wSkip' ?_)
          · (refine wRgn fun K hk => ?_; simp []; refine hk.out _ ?_; clear hk K)
            refine wRet' (retV (v := .int .i64 1) (by simp) ?_)
            exact ⟨hfr, sr, _, SP, hsr, by simp [addErr, hc, ha]; simpa using hd, hp1, H1.mono (fun _ _ _ => rfl) (by omega), fun q => by simp [addErr, hc, ha] at q; simp at hd; omega⟩
          · exact ⟨by simp [s7], by simp, rfl, by simp; omega, by simp [addErr, hc, ha]; simpa using hd⟩
    · rintro ⟨s', h', n'⟩ ⟨t7, t9, hh, hn', herr⟩
      simp only at t7 t9 hn' hh
      subst hh
      refine wRgn fun K hk => ?_
      simp [t7, t9, hn, hid, hrow, serR, opA]
      have hap := H1.apart
      have hap2 : Apart (.sl id 5 0 (SP.map serP).length ((SP.map serP).length + tail.length) ex) lv := apart_at hap (i := 1) (j := i + 3) (by omega) rfl (by
        simp only [List.getElem?_cons_succ]
        rw [List.getElem?_append_left (by simpa using hiS)]; simp [hx])
      have hidlv : id ∉ lv.ids := hap2 id (by simp)
      have hlvi := hlv.ids
      have hnlv : n ∉ lv.ids := by
        intro q
        rcases hlv with ⟨b, rfl, _⟩ | ⟨id', ex', rfl, e1, _, _⟩
        · simp at q
        · simp at q; subst q; rw [hn] at e1; cases e1
      have hlv2 : ∀ ob, SmpL (upd h' (n' + 14) ob) lo n1 lv sr.list := fun ob => hlv.mono (fun j hj => upd_ne _ _ (by have := hlvi j hj; omega)) (Nat.le_refl _) (Nat.le_refl _)
      obtain ⟨lv', h2, q1, q2, q3, q4, c3, c4⟩ := smp_app (s := ⟨o.t, o.v⟩) (nw := n' + 15) (x := .sl (n' + 14) 2 0 1 1 true) (hlv2 (some (AObj.arr 44 2 [AV.agg [AV.int IntKind.i64 o.t, AV.int IntKind.u64 o.v]]))) (by simp [smA]) (by omega) (by omega) (by omega)
      have e1 : h2 id = h' id := by rw [q3 id (by omega) hidlv]; (repeat (first | rw [upd_ne _ _ (by omega)] | rw [if_neg (by omega)]))
      refine ⟨⟨by omega, by omega, by omega⟩, by omega, ?_⟩
      have hlen : i < (SP.map serP ++ tail).length := by simp; omega
      have hset : ∀ a, ((SP.map serP ++ tail).set i a)[i]? = some a := fun a => List.getElem?_set_self hlen
      simp [t7, t9, q1, e1, hid, hrow, serR, c3, c4, hnlv, hnid, hnid.symm, hset, List.set_set, upd_upd]
      refine hk.out _ ?_
      clear hk K
      (refine wRgn fun K hk => ?_; simp []; refine hk.out _ ?_; clear hk K)
      refine wRet' (retV (v := .int .i64 0) (by simp) ?_)
      have hold : ∀ j, j < n' → j ≠ id → j ∉ lv.ids → ∀ ob, upd h2 id ob j = h' j := fun j hj hji hjl ob => by
        rw [upd_ne _ _ hji, q3 j (by omega) hjl]; (repeat (first | rw [upd_ne _ _ (by omega)] | rw [if_neg (by omega)]))
      have hapx : ∀ (k : Nat) (x : AV), k ≠ i + 3 → (nilA :: .sl id 5 0 (SP.map serP).length ((SP.map serP).length + tail.length) ex :: iv :: (SP.map (·.2) ++ ip.map (·.2)))[k]? = some x → Apart x lv := fun k x hk hx' => apart_at hap (i := k) (j := i + 3) hk hx' (by
        simp only [List.getElem?_cons_succ]
        rw [List.getElem?_append_left (by simpa using hiS)]; simp [hx])
      have hapy : ∀ (k : Nat) (x : AV), k ≠ 1 → (nilA :: .sl id 5 0 (SP.map serP).length ((SP.map serP).length + tail.length) ex :: iv :: (SP.map (·.2) ++ ip.map (·.2)))[k]? = some x → id ∉ x.ids := fun k x hk hx' => apart_at hap (i := 1) (j := k) (Ne.symm hk) rfl hx' id (by simp)
      have hkeep : ∀ (k : Nat) (x : AV), k ≠ 1 → k ≠ i + 3 → (nilA :: .sl id 5 0 (SP.map serP).length ((SP.map serP).length + tail.length) ex :: iv :: (SP.map (·.2) ++ ip.map (·.2)))[k]? = some x → (∀ j ∈ x.ids, j < n') → ∀ j ∈ x.ids, ∀ ob, upd h2 id ob j = h' j := fun k x k1 k2 hx' hlt j hj ob =>
        hold j (hlt j hj) (fun e => hapy k x k1 hx' (e ▸ hj)) (hapx k x k2 hx' j hj) ob
      have hsvi' := hsvi id (by simp)
      refine ⟨fun j hj hjp hjl => ?_, sr, .sl id 5 0 (SP.map serP).length ((SP.map serP).length + tail.length) ex, SP.set i (addTo sr o, lv'), hsr, by rw [herr], ?_, ⟨.inr ⟨id, ex, tail, ?_, ?_, hid1, by omega⟩, ?_, ?_, ?_, nilA_smp _ _ _, ?_⟩, fun _ => ?_⟩
      · rw [hold j (by omega) (by omega) (fun q => ?_), hfr j hj hjp hjl]
        have := hlvh j q; have := hlvi j q; omega
      · rw [hold p (by omega) hpid (fun q => by have := hlvi p q; omega), hp1]; rfl
      · simp
      · rw [upd_same]
        have : (SP.map serP ++ tail).set i (serR (addTo sr o) lv') = (SP.set i (addTo sr o, lv')).map serP ++ tail := by
          rw [List.set_append_left _ _ (by simpa using hiS), List.map_set]; rfl
        rw [← this]; rfl
      · exact H1.its.mono (fun j hj => hkeep 2 iv (by omega) (by omega) rfl (fun j hj => by have := (H1.its.ids j hj).2; omega) j hj _) (by omega)
      · intro q hq
        rcases mem_set hq with rfl | ⟨j, hji, hj⟩
        · exact q2.mono (fun k hk => upd_ne _ _ (by rintro rfl; rcases q4 _ hk with q | q; omega; exact hidlv q)) (Nat.le_refl _) (by omega)
        · have hq2 := H1.ls q (List.mem_of_getElem? hj)
          refine hq2.mono (fun k hk => hkeep (j + 3) q.2 (by omega) (by omega) ?_ (fun j hj => by have := (hq2.ids j hj).2; omega) k hk _) (Nat.le_refl _) (by omega)
          have hjl := (List.getElem?_eq_some_iff.1 hj).1
          simp only [List.getElem?_cons_succ]
          rw [List.getElem?_append_left (by simpa using hjl)]; simp [hj]
      · intro q hq
        obtain ⟨j, hj⟩ := List.mem_iff_getElem?.1 hq
        have hq2 := H1.li q hq
        refine hq2.mono (fun k hk => hkeep (SP.length + j + 3) q.2 (by omega) (by omega) ?_ (fun j hj => by have := (hq2.ids j hj).2; omega) k hk _) (Nat.le_refl _) (by omega)
        simp only [List.getElem?_cons_succ]
        rw [List.getElem?_append_right (by simp)]; simp [hj]
      · have w := pw_turn hap (i := i + 3) (x := lv) (y := lv') (n := n' + 15) (by
          simp only [List.getElem?_cons_succ]
          rw [List.getElem?_append_left (by simpa using hiS)]; simp [hx]) (fun z hz k hk => by have := (H1.ids z hz k hk).2; omega) (fun k hk => by rcases q4 k hk with q | q; exact .inl (by omega); exact .inr q)
        simp only [List.set_cons_succ] at w
        rw [List.set_append_left _ _ (by simpa using hiS)] at w
        rw [List.map_set]; exact w
      · rw [List.map_set, hfst]
end Go.Proofs.Ytdbakmdcepkpmaa
