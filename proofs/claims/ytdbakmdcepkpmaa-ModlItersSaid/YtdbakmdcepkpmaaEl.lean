/- What is asked of a series. -/
import Derived.Test.YtdbakmdcepkpmaaEk
set_option linter.unusedSimpArgs false
set_option linter.unusedVariables false
namespace Go.Proofs.Ytdbakmdcepkpmaa
open Go.E3
def findS (l : List Series) (id : Int) : Nat × Bool :=
  match l.findIdx? (fun s => decide (s.id ≥ id)) with
  | some i => (i, ((l.map (·.id)).getD i 0) == id)
  | none => (l.length, false)
def serDo (m : Model) (o : Op) : Model × Res :=
  let i := (findS m.series o.series).1
  let there := (findS m.series o.series).2
  if o.kind = 1 then
    match (made m.series o.series i there)[i]? with
    | some s => ({ m with series := (made m.series o.series i there).set i (addTo s o) }, ⟨addErr s o, 0, []⟩)
    | none => (m, ⟨0, 0, []⟩)
  else if there = false then (m, ⟨3, 0, []⟩)
  else match m.series[i]? with
    | none => (m, ⟨0, 0, []⟩)
    | some s =>
      if o.kind = 2 then (m, ⟨0, 0, within s.list o.frm o.to⟩)
      else if o.kind = 3 then (if s.sealed_ then (m, ⟨2, 0, []⟩) else ({ m with series := m.series.set i { s with sealed_ := true } }, ⟨0, 0, []⟩))
      else if o.kind = 4 then ({ m with series := m.series.eraseIdx i }, ⟨0, 0, []⟩)
      else if o.kind = 5 then (if 8 ≤ m.iters.length then (m, ⟨5, 0, []⟩) else ({ m with iters := m.iters ++ [⟨m.next + 1, within s.list o.frm o.to⟩], next := m.next + 1 }, ⟨0, m.next + 1, []⟩))
      else (m, ⟨0, 0, []⟩)
theorem find_ser (sp : List (Series × AV)) (id : Int) : findA (sp.map serP) id = (((findS (sp.map (·.1)) id).1 : Int), (findS (sp.map (·.1)) id).2) := by
  have e : (sp.map serP).findIdx? (fun x => decide (keyA x ≥ id)) = (sp.map (·.1)).findIdx? (fun s => decide (s.id ≥ id)) := by
    rw [List.findIdx?_map, List.findIdx?_map]; rfl
  unfold findA findS
  rw [e]
  cases h : (sp.map (·.1)).findIdx? (fun s => decide (s.id ≥ id)) with
  | none => simp
  | some i =>
    have hi := (List.findIdx?_eq_some_iff_getElem.1 h).1
    simp at hi
    simp [hi, serP, serR, keyA]
theorem findS_le (l : List Series) (id : Int) : (findS l id).1 ≤ l.length ∧ ((findS l id).2 = true → (findS l id).1 < l.length) := by
  unfold findS
  cases h : l.findIdx? (fun s => decide (s.id ≥ id)) with
  | none => simp
  | some i =>
    have hi := (List.findIdx?_eq_some_iff_getElem.1 h).1
    simp; omega
theorem ser_keyed {h : Hp} {lo n : Nat} {sp : List (Series × AV)} (hl : ∀ p ∈ sp, SmpL h lo n p.2 p.1.list) : Keyed 4 (sp.map serP) ∧ ∀ x ∈ sp.map serP, x.cells.all AV.flat = true := by
  refine ⟨fun x hx => ?_, fun x hx => ?_⟩
  · obtain ⟨p, hp, rfl⟩ := List.mem_map.1 hx
    exact ⟨p.1.id, _, rfl, rfl⟩
  · obtain ⟨p, hp, rfl⟩ := List.mem_map.1 hx
    have := (hl p hp).cells.2
    simp [serP, serR, this]
theorem ModI.mono {h h' : Hp} {lo n n1 : Nat} {sv iv : AV} {sp : List (Series × AV)} {ip : List (Iter × AV)} (H : ModI h lo n sv iv sp ip) (hh : ∀ id, lo ≤ id → id < n → h' id = h id) (hn : n ≤ n1) : ModI h' lo n1 sv iv sp ip :=
  ⟨H.ser.mono (fun id hid => hh id (H.ser.mut.ids id hid).1 (H.ser.mut.ids id hid).2) hn, H.its.mono (fun id hid => hh id (H.its.ids id hid).1 (H.its.ids id hid).2) hn,
    fun p hp => (H.ls p hp).mono (fun id hid => hh id ((H.ls p hp).ids id hid).1 ((H.ls p hp).ids id hid).2) (Nat.le_refl _) hn,
    fun p hp => (H.li p hp).mono (fun id hid => hh id ((H.li p hp).ids id hid).1 ((H.li p hp).ids id hid).2) (Nat.le_refl _) hn, H.apart⟩
theorem MutSl.at {h : Hp} {lo n : Nat} {e sz : Nat} {v : AV} {xs : List AV} (o : MutSl h lo n e sz v xs) : ∀ id ∈ v.ids, ∃ els, h id = some (.arr e sz els) := by
  rcases o with ⟨rfl, _⟩ | ⟨id, ex, tail, rfl, h1, _⟩
  · simp
  · simp [h1]
theorem SmpL.at {h : Hp} {lo n : Nat} {v : AV} {l : List Sample} (o : SmpL h lo n v l) : ∀ id ∈ v.ids, ∃ els, h id = some (.arr 44 2 els) := by
  rcases o with ⟨b, rfl, _⟩ | ⟨id, ex, rfl, h1, _⟩
  · simp
  · simp [h1]
/-- Boxes may be turned. -/
theorem ModP.mono' {h h' : Hp} {lo n n1 : Nat} {sv iv rl : AV} {sp : List (Series × AV)} {ip : List (Iter × AV)} {l : List Sample} (H : ModP h lo n sv iv rl sp ip l)
    (hh : ∀ id, lo ≤ id → id < n → ∀ e sz els, h id = some (.arr e sz els) → (e = 38 ∨ e = 46 ∨ e = 44) → h' id = h id) (hn : n ≤ n1) : ModP h' lo n1 sv iv rl sp ip l := by
  have k1 : ∀ {v l}, SmpL h lo n v l → SmpL h' lo n1 v l := fun o => o.mono (fun id hid => by
    obtain ⟨els, e⟩ := o.at id hid
    exact hh id (o.ids id hid).1 (o.ids id hid).2 _ _ _ e (by simp)) (Nat.le_refl _) hn
  have k2 : ∀ {v : AV} {e sz : Nat} {xs : List AV}, (e = 38 ∨ e = 46 ∨ e = 44) → MutSl h lo n e sz v xs → MutSl h' lo n1 e sz v xs := fun he o => o.mono (fun id hid => by
    obtain ⟨els, e⟩ := MutSl.at o id hid
    exact hh id (o.ids id hid).1 (o.ids id hid).2 _ _ _ e he) hn
  exact ⟨k2 (by simp) H.ser, k2 (by simp) H.its, fun p hp => k1 (H.ls p hp), fun p hp => k1 (H.li p hp), k1 H.rs, H.apart⟩
theorem set_same {α : Type} {l : List α} {i : Nat} {x : α} (h : l[i]? = some x) : l.set i x = l := by
  obtain ⟨hi, rfl⟩ := List.getElem?_eq_some_iff.1 h
  exact List.set_getElem_self hi
set_option maxHeartbeats 8000000 in
theorem s28 {p lo hi n : Nat} {sv iv : AV} {m : Model} {sp : List (Series × AV)} {ip : List (Iter × AV)} {o : Op} {h : Hp} (hp : h p = mbox sv iv m.next) (hpl : p < lo) (hlo : lo ≤ hi) (hhi : hi ≤ n) (H : ModI h lo hi sv iv sp ip)
    (hms : m.series = sp.map (·.1)) (hmi : m.iters = ip.map (·.1)) (hl : sp.length < 2 ^ 39) (hl2 : ip.length < 2 ^ 39) (hls : ∀ q ∈ sp, q.1.list.length < 2 ^ 39) (hnx : 0 ≤ m.next ∧ m.next < 2 ^ 62) :
    CallsA Try.prog 28 [.ptr p 3 0 0, opA o] h n fun r h' n' => (∀ j, j < n → j ≠ p → (j < lo ∨ hi ≤ j) → h' j = h j) ∧
      ∃ sv' iv' nx' sp' ip' rl, r = resB (serDo m o).2.err (serDo m o).2.iter rl ∧ h' p = mbox sv' iv' nx' ∧ ModP h' lo n' sv' iv' rl sp' ip' (serDo m o).2.list ∧
        ((serDo m o).2.err = 0 → (serDo m o).1 = ⟨sp'.map (·.1), ip'.map (·.1), nx'⟩) := by
  refine CallsA.wf fun hwf => ?_
  refine e28 (by simp) ?_
  have hpn : p ≠ n := by omega
  have hpn1 : p ≠ n + 1 := by omega
  have hsi := H.ser.mut.ids
  have hii := H.its.ids
  have hap := H.apart
  have hP := H.toP
  obtain ⟨hkd, hfl⟩ := ser_keyed H.ls
  have c := mut_cells H.its.mut
  have c' := mut_cells H.ser.mut
  obtain ⟨hf1, hf2⟩ := findS_le (sp.map (·.1)) o.series
  have hfa := find_ser sp o.series
  rw [a28, r28]
  (refine wRgn fun K hk => ?_; simp [opA]; refine hk.out _ ?_; clear hk K)
  have he : ∀ h' : Hp, (∀ j, lo ≤ j → j < hi → h' j = h j) → elems h' sv 5 = some (sp.map serP) := fun h' hh => by
    rw [elems_same fun id hid => hh id (hsi id hid).1 (hsi id hid).2]; exact H.ser.mut.elems
  refine wRgn fun K hk => ?_
  simp [hpn, hpn1, hp, mbox]
  refine doCallP (v := .tup [.int .i64 (findA (sp.map serP) o.series).1, .bool (findA (sp.map serP) o.series).2]) (s52 (he _ fun j h1 h2 => by (repeat (first | rw [upd_ne _ _ (by omega)] | rw [if_neg (by omega)]))) hkd hfl (by simp; omega) _) fun n1 hn1 => ?_
  simp
  refine hk.out _ ?_
  clear hk K
  rw [hfa]
  generalize hi0 : (findS (sp.map (·.1)) o.series).1 = i at *
  generalize ht0 : (findS (sp.map (·.1)) o.series).2 = there at *
  simp only [List.length_map] at hf1 hf2
  refine wSeq ?_
  (refine wRgn fun K hk => ?_; simp []; refine hk.out _ ?_; clear hk K)
  have hbx : ∀ j, j < n → ∀ a b, upd (upd h n a) (n + 1) b j = h j := fun j hj a b => by (repeat (first | rw [upd_ne _ _ (by omega)] | rw [if_neg (by omega)]))
  refine wCond (decide (o.kind = 1)) (by simp; rw [Bool.eq_iff_iff]; simp) (fun hc => ?_) (fun hc => wSkip ?_)
  · have hk1 : o.kind = 1 := by simpa using hc
    refine wSeq ?_
    refine wRgn fun K hk => ?_
    simp
    refine doCallF (s53 (o := o) (lo := lo) (hi := hi) (ip := ip) (nx := m.next) (iv := iv) (sv := sv) (sp := sp) (by rw [hbx p (by omega)]; exact hp) hpl hlo (by omega) (H.mono (fun j h1 h2 => hbx j (by omega) _ _) (Nat.le_refl _)) hf1 hf2 hl hls) ?_
    rintro r h2 n2 ⟨q1, s, sv', sp', q2, rfl, q3, q4, q5⟩ hn2 hwf2
    have e1 : h2 (n + 1) = some (AObj.arr 32 3 [AV.agg [AV.int IntKind.i64 0, AV.int IntKind.i64 0, AV.isl (some true) true []]]) := by
      rw [q1 (n + 1) (by omega) (by omega) (by omega)]; simp
    simp [e1]
    refine hk.out _ ?_
    clear hk K
    refine wRet (retV (v := resB (addErr s o) 0 nilA) (by simp [resB, nilA]) ?_)
    have hd : serDo m o = ({ m with series := (made m.series o.series i there).set i (addTo s o) }, ⟨addErr s o, 0, []⟩) := by
      unfold serDo
      rw [hms, hi0, ht0]
      simp only [hk1, if_true, q2]
    rw [hd]
    refine ⟨fun j hj hjp hjl => ?_, sv', iv, m.next, sp', ip, nilA, rfl, ?_, ?_, fun q => ?_⟩
    · rw [upd_ne _ _ (by omega), q1 j (by omega) hjp hjl]; exact hbx j hj _ _
    · rw [upd_ne _ _ (by omega)]; exact q3
    · refine q4.mono' (fun id _ _ e sz els e2 he' => upd_ne _ _ ?_) (by omega)
      rintro rfl
      rw [e1] at e2
      cases e2; simp at he'
    · simp only at q
      rw [q5 q, ← hmi, ← hms]
  · have hk1 : ¬ o.kind = 1 := by simpa using hc
    -- what is answered where nothing is turned
    have hbox : ∀ (n' : Nat) (ob : Option AObj), n + 2 ≤ n' → ModP (upd (upd (upd h n (some (.arr 28 8 [opA o]))) (n + 1) (some (.arr 32 3 [.agg [.int .i64 0, .int .i64 0, nilA]]))) (n + 1) ob) lo n' sv iv nilA sp ip [] := fun n' ob hn' =>
      hP.mono (fun j h1 h2 => by (repeat (first | rw [upd_ne _ _ (by omega)] | rw [if_neg (by omega)]))) (by omega)
    refine wSeq ?_
    (refine wRgn fun K hk => ?_; simp []; refine hk.out _ ?_; clear hk K)
    cases there with
    | false =>
      refine wCond true (by simp) (fun _ => ?_) (fun hc => by cases hc)
      refine wSeq ?_
      (refine wRgn fun K hk => ?_; simp []; refine hk.out _ ?_; clear hk K)
      refine wRet (retV (v := resB 3 0 nilA) (by simp [resB, nilA]) ?_)
      have hd : serDo m o = (m, ⟨3, 0, []⟩) := by
        unfold serDo
        rw [hms, hi0, ht0]
        simp [hk1]
      rw [hd]
      refine ⟨fun j hj hjp hjl => by (repeat (first | rw [upd_ne _ _ (by omega)] | rw [if_neg (by omega)])), sv, iv, m.next, sp, ip, nilA, rfl, by (repeat (first | rw [upd_ne _ _ (by omega)] | rw [if_neg (by omega)])); exact hp, hbox _ _ (by omega), fun q => by simp at q⟩
    | true =>
      have hi1 := hf2 rfl
      obtain ⟨⟨sr, lv⟩, hx⟩ : ∃ x, sp[i]? = some x := ⟨sp[i], List.getElem?_eq_getElem hi1⟩
      have hx1 : m.series[i]? = some sr := by rw [hms]; simp [hx]
      have hlv := H.ls _ (List.mem_of_getElem? hx)
      have hrl := hls _ (List.mem_of_getElem? hx)
      simp only at hlv hrl
      obtain ⟨c1, c2⟩ := hlv.cells
      have hser := H.ser
      rcases hser with ⟨_, h0⟩ | ⟨id, tail, rfl, hid, hid1, hid2⟩
      · have : sp = [] := by simpa using h0
        rw [this] at hi1; simp at hi1
      have hrow : (sp.map serP ++ tail)[i]? = some (serR sr lv) := by
        rw [List.getElem?_append_left (by simpa using hi1)]; simp [hx, serP]
      have hidn : id ≠ n := by omega
      have hidn1 : id ≠ n + 1 := by omega
      have hpid : p ≠ id := by omega
      have hlen : i < (sp.map serP ++ tail).length := by simp; omega
      have hset : ∀ a, ((sp.map serP ++ tail).set i a)[i]? = some a := fun a => List.getElem?_set_self hlen
      have hd : serDo m o = (
          if o.kind = 2 then (m, ⟨0, 0, within sr.list o.frm o.to⟩)
          else if o.kind = 3 then (if sr.sealed_ then (m, ⟨2, 0, []⟩) else ({ m with series := m.series.set i { sr with sealed_ := true } }, ⟨0, 0, []⟩))
          else if o.kind = 4 then ({ m with series := m.series.eraseIdx i }, ⟨0, 0, []⟩)
          else if o.kind = 5 then (if 8 ≤ m.iters.length then (m, ⟨5, 0, []⟩) else ({ m with iters := m.iters ++ [⟨m.next + 1, within sr.list o.frm o.to⟩], next := m.next + 1 }, ⟨0, m.next + 1, []⟩))
          else (m, ⟨0, 0, []⟩)) := by
        unfold serDo
        rw [← hms] at hi0 ht0
        simp only [hi0, ht0, hk1, if_false, hx1, Bool.true_eq_false]
      refine wCond false (by simp) (fun hc => by cases hc) (fun _ => wSkip ?_)
      (refine wRgn fun K hk => ?_; simp [hpn, hpn1, hp, mbox, hi1]; refine hk.out _ ?_; clear hk K)
      refine wSeq ?_
      (refine wRgn fun K hk => ?_; simp []; refine hk.out _ ?_; clear hk K)
      refine seqJ (fun st => st.s 4 = .ptr (n + 1) 3 0 0 ∧ st.h (n + 1) = some (.arr 32 3 [.agg [.int .i64 0, .int .i64 0, nilA]]) ∧ n + 2 ≤ st.n ∧ (∀ j, j < n → j ≠ p → (j < lo ∨ hi ≤ j) → st.h j = h j) ∧
          ∃ sv' iv' nx' sp' ip', st.h p = mbox sv' iv' nx' ∧ ModP st.h lo st.n sv' iv' nilA sp' ip' [] ∧ serDo m o = (⟨sp'.map (·.1), ip'.map (·.1), nx'⟩, ⟨0, 0, []⟩)) ?_ ?_
      · refine wBlock' ?_
        (refine wRgn fun K hk => ?_; simp []; refine hk.out _ ?_; clear hk K)
        refine wCond' (decide (o.kind = 2)) (by simp; rw [Bool.eq_iff_iff]; simp) (fun hc => ?_) (fun hc => ?_)
        · have hk2 : o.kind = 2 := by simpa using hc
          rw [if_pos hk2] at hd
          refine wRgn fun K hk => ?_
          simp [hpn, hpn1, hp, mbox, hi1, hid, hrow, hidn, hidn1, serR]
          refine doCallM (s54o o.frm o.to (l := sr.list) (hlv.mono (h' := upd (upd h n (some (.arr 28 8 [opA o]))) (n + 1) (some (.arr 32 3 [.agg [.int .i64 0, .int .i64 0, nilA]]))) (fun j hj => by have := hlv.ids j hj; (repeat (first | rw [upd_ne _ _ (by omega)] | rw [if_neg (by omega)]))) (Nat.le_refl _) (Nat.le_refl _)).elems (by omega) _) fun _ rl h2 n2 hn2 hk2' hw2 hrl2 => ?_
          have e1 : h2 (n + 1) = some (AObj.arr 32 3 [AV.agg [AV.int IntKind.i64 0, AV.int IntKind.i64 0, nilA]]) := by
            rw [hk2'.old _ (by omega)]; simp; rfl
          have c3 := hrl2.cells
          simp [e1, c3]
          refine hk.out _ ?_
          clear hk K
          refine wRet' (retV (v := resB 0 0 rl) (by simp [resB]) ?_)
          rw [hd]
          have hold : ∀ j, j < n → ∀ ob, upd h2 (n + 1) ob j = h j := fun j hj ob => by rw [upd_ne _ _ (by omega), hk2'.old _ (by omega)]; (repeat (first | rw [upd_ne _ _ (by omega)] | rw [if_neg (by omega)]))
          refine ⟨fun j hj hjp hjl => hold j hj _, _, iv, m.next, sp, ip, rl, rfl, by rw [hold p (by omega)]; exact hp, ?_, fun _ => by rw [← hms, ← hmi] <;> rfl⟩
          have hP2 := hP.mono (h' := upd h2 (n + 1) (some (AObj.arr 32 3 [AV.agg [AV.int IntKind.i64 0, AV.int IntKind.i64 0, rl]]))) (n1 := n2) (fun j h1 h2 => hold j (by omega) _) (by omega)
          refine ⟨hP2.ser, hP2.its, hP2.ls, hP2.li, hrl2.mono (fun k hk => upd_ne _ _ (by have := hrl2.ids k hk; omega)) (by omega) (Nat.le_refl _), .cons (fun x hx k hk hk2 => ?_) hap⟩
          have := hrl2.ids k hk
          have := (hP.ids x (.tail _ hx) k hk2).2
          omega
        · have hk2 : ¬ o.kind = 2 := by simpa using hc
          rw [if_neg hk2] at hd
          (refine wRgn fun K hk => ?_; simp []; refine hk.out _ ?_; clear hk K)
          refine wCond' (decide (o.kind = 3)) (by simp; rw [Bool.eq_iff_iff]; simp) (fun hc => ?_) (fun hc => ?_)
          · have hk3 : o.kind = 3 := by simpa using hc
            rw [if_pos hk3] at hd
            refine wSeq ?_
            (refine wRgn fun K hk => ?_; simp [hpn, hpn1, hp, mbox, hi1, hid, hrow, hidn, hidn1, serR]; refine hk.out _ ?_; clear hk K)
            cases hse : sr.sealed_ with
            | true =>
              refine wCond true (by simp [hse]) (fun _ => ?_) (fun hc => by cases hc)
              refine wSeq ?_
              (refine wRgn fun K hk => ?_; simp []; refine hk.out _ ?_; clear hk K)
              refine wRet (retV (v := resB 2 0 nilA) (by simp [resB, nilA]) ?_)
              rw [if_pos hse] at hd
              rw [hd]
              exact ⟨fun j hj hjp hjl => by (repeat (first | rw [upd_ne _ _ (by omega)] | rw [if_neg (by omega)])), _, iv, m.next, sp, ip, nilA, rfl, by (repeat (first | rw [upd_ne _ _ (by omega)] | rw [if_neg (by omega)])); exact hp, hbox _ _ (by omega), fun q => by simp at q⟩
            | false =>
              refine wCond false (by simp [hse]) (fun hc => by cases hc) (fun _ => wSkip ?_)
              rw [if_neg (by simp [hse])] at hd
              refine wRgn' fun K hk => ?_
              simp [hid, hrow, hidn, hidn1, serR]
              refine hk.out _ ?_
              clear hk K
              have hold : ∀ j, j < n → j ≠ id → ∀ a b ob, upd (upd (upd h n a) (n + 1) b) id ob j = h j := fun j hj hji a b ob => by rw [upd_ne _ _ hji]; (repeat (first | rw [upd_ne _ _ (by omega)] | rw [if_neg (by omega)]))
              have hidf : ∀ k x, k ≠ 0 → (.sl id 5 0 (sp.map serP).length ((sp.map serP).length + tail.length) true :: iv :: (sp.map (·.2) ++ ip.map (·.2)))[k]? = some x → id ∉ x.ids := fun k x hk hx => apart_at hap (i := 0) (j := k) (Ne.symm hk) rfl hx id (by simp)
              have hkeep : ∀ k x, k ≠ 0 → (.sl id 5 0 (sp.map serP).length ((sp.map serP).length + tail.length) true :: iv :: (sp.map (·.2) ++ ip.map (·.2)))[k]? = some x → ∀ j ∈ x.ids, ∀ a b ob, upd (upd (upd h n a) (n + 1) b) id ob j = h j := fun k x hk hx j hj a b ob => by
                have := (hP.ids x (.tail _ (List.mem_of_getElem? hx)) j hj).2
                exact hold j (by omega) (fun e => hidf k x hk hx (e ▸ hj)) a b ob
              have hls' : ∀ q ∈ sp, ∀ a b ob n', n ≤ n' → SmpL (upd (upd (upd h n a) (n + 1) b) id ob) lo n' q.2 q.1.list := by
                intro q hq a b ob n' hn'
                obtain ⟨j, hj⟩ := List.mem_iff_getElem?.1 hq
                have hjl := (List.getElem?_eq_some_iff.1 hj).1
                exact (H.ls q hq).mono (fun k hk => hkeep (j + 2) q.2 (by omega) (by
                  simp only [List.getElem?_cons_succ]
                  rw [List.getElem?_append_left (by simpa using hjl)]; simp [hj]) k hk _ _ _) (Nat.le_refl _) (by omega)
              refine ⟨by simp, by simp [hidn1.symm, nilA], by simp; omega, fun j hj hjp hjl => hold j hj (by omega) _ _ _, .sl id 5 0 (sp.map serP).length ((sp.map serP).length + tail.length) true, iv, m.next, sp.set i ({ sr with sealed_ := true }, lv), ip, ?_, ⟨.inr ⟨id, true, tail, by simp, ?_, hid1, by simp; omega⟩, ?_, ?_, ?_, nilA_smp _ _ _, ?_⟩, ?_⟩
              · simp only; rw [hold p (by omega) hpid]; exact hp
              · simp only
                rw [upd_same]
                have : (sp.map serP ++ tail).set i (serR { sr with sealed_ := true } lv) = (sp.set i ({ sr with sealed_ := true }, lv)).map serP ++ tail := by
                  rw [List.set_append_left _ _ (by simpa using hi1), List.map_set]; rfl
                rw [← this]; rfl
              · exact H.its.mut.mono (fun j hj => hkeep 1 iv (by omega) rfl j hj _ _ _) (by simp; omega)
              · intro q hq
                rcases mem_set hq with rfl | ⟨j, hji, hj⟩
                · exact hls' (sr, lv) (List.mem_of_getElem? hx) _ _ _ _ (by simp; omega)
                · exact hls' q (List.mem_of_getElem? hj) _ _ _ _ (by simp; omega)
              · intro q hq
                obtain ⟨j, hj⟩ := List.mem_iff_getElem?.1 hq
                exact (H.li q hq).mono (fun k hk => hkeep (sp.length + j + 2) q.2 (by omega) (by
                  simp only [List.getElem?_cons_succ]
                  rw [List.getElem?_append_right (by simp)]; simp [hj]) k hk _ _ _) (Nat.le_refl _) (by simp; omega)
              · refine .cons (fun x _ => nilA_apart x) ?_
                have e : (sp.set i ({ sr with sealed_ := true }, lv)).map (·.2) = sp.map (·.2) := by
                  rw [List.map_set]
                  exact set_same (by simp [hx])
                rw [e]; exact hap
              · rw [hd, hms, hmi, List.map_set]
          · have hk3 : ¬ o.kind = 3 := by simpa using hc
            rw [if_neg hk3] at hd
            (refine wRgn fun K hk => ?_; simp []; refine hk.out _ ?_; clear hk K)
            refine wCond' (decide (o.kind = 4)) (by simp; rw [Bool.eq_iff_iff]; simp) (fun hc => ?_) (fun hc => ?_)
            · have hk4 : o.kind = 4 := by simpa using hc
              rw [if_pos hk4] at hd
              refine wRgn' fun K hk => ?_
              simp [hpn, hpn1, hp, mbox, wrap_i64 (i := (i : Int) + 1) (by omega) (by omega)]
              have hser2 : ∀ a b n', n ≤ n' → MutSl (upd (upd h n a) (n + 1) b) lo n' 38 5 (.sl id 5 0 (sp.map serP).length ((sp.map serP).length + tail.length) true) (sp.map serP) := fun a b n' hn' => H.ser.mut.mono (fun j hj => by have := hsi j hj; (repeat (first | rw [upd_ne _ _ (by omega)] | rw [if_neg (by omega)]))) (by omega)
              simp only [List.length_map] at hser2
              refine doCallF (s55 (lo := lo) (i := i) (xs := sp.map serP) (hser2 _ _ _ (by omega)) (by simpa using hi1)) ?_
              rintro sv' h2 n2 ⟨q1, q2, q3⟩ hn2 hwf2
              simp only [ids_sl, List.mem_singleton] at q2 q3
              have c3 := mut_cells q1
              have hold : ∀ j, j < n → j ≠ id → h2 j = h j := fun j hj hji => by rw [q2 j (by omega) hji]; (repeat (first | rw [upd_ne _ _ (by omega)] | rw [if_neg (by omega)]))
              have hp2 : h2 p = mbox (.sl id 5 0 (sp.map serP).length ((sp.map serP).length + tail.length) true) iv m.next := by
                rw [hold p (by omega) hpid]; exact hp
              have hn12 : h2 (n + 1) = some (AObj.arr 32 3 [AV.agg [AV.int IntKind.i64 0, AV.int IntKind.i64 0, nilA]]) := by
                rw [q2 (n + 1) (by omega) (by omega)]; simp; rfl
              simp [hp2, mbox, c3]
              refine hk.out _ ?_
              clear hk K
              have hold2 : ∀ j, j < n → j ≠ p → j ≠ id → ∀ a, upd h2 p a j = h j := fun j hj hjp hji a => by rw [upd_ne _ _ hjp, hold j hj hji]
              have hidf : ∀ k x, k ≠ 0 → (.sl id 5 0 (sp.map serP).length ((sp.map serP).length + tail.length) true :: iv :: (sp.map (·.2) ++ ip.map (·.2)))[k]? = some x → id ∉ x.ids := fun k x hk hx => apart_at hap (i := 0) (j := k) (Ne.symm hk) rfl hx id (by simp)
              have hkeep : ∀ k x, k ≠ 0 → (.sl id 5 0 (sp.map serP).length ((sp.map serP).length + tail.length) true :: iv :: (sp.map (·.2) ++ ip.map (·.2)))[k]? = some x → ∀ j ∈ x.ids, ∀ a, upd h2 p a j = h j := fun k x hk hx j hj a => by
                have := hP.ids x (.tail _ (List.mem_of_getElem? hx)) j hj
                exact hold2 j (by omega) (by omega) (fun e => hidf k x hk hx (e ▸ hj)) a
              refine ⟨by simp, by simp only; rw [upd_ne _ _ (by omega)]; exact hn12, by simp; omega, fun j hj hjp hjl => hold2 j hj hjp (by omega) _, sv', iv, m.next, sp.eraseIdx i, ip, by simp [mbox], ⟨?_, ?_, ?_, ?_, nilA_smp _ _ _, ?_⟩, ?_⟩
              · rw [← map_erase]
                exact q1.mono (fun j hj => upd_ne _ _ (by have := (q1.ids j hj).1; omega)) (by simp)
              · exact H.its.mut.mono (fun j hj => hkeep 1 iv (by omega) rfl j hj _) (by simp; omega)
              · intro q hq
                have hq := List.mem_of_mem_eraseIdx hq
                obtain ⟨j, hj⟩ := List.mem_iff_getElem?.1 hq
                have hjl := (List.getElem?_eq_some_iff.1 hj).1
                exact (H.ls q hq).mono (fun k hk => hkeep (j + 2) q.2 (by omega) (by
                  simp only [List.getElem?_cons_succ]
                  rw [List.getElem?_append_left (by simpa using hjl)]; simp [hj]) k hk _) (Nat.le_refl _) (by simp; omega)
              · intro q hq
                obtain ⟨j, hj⟩ := List.mem_iff_getElem?.1 hq
                exact (H.li q hq).mono (fun k hk => hkeep (sp.length + j + 2) q.2 (by omega) (by
                  simp only [List.getElem?_cons_succ]
                  rw [List.getElem?_append_right (by simp)]; simp [hj]) k hk _) (Nat.le_refl _) (by simp; omega)
              · refine .cons (fun x _ => nilA_apart x) ?_
                have w := pw_turn hap (i := 0) (y := sv') (n := n) rfl (fun z hz k hk => by have := (hP.ids z (.tail _ hz) k hk).2; omega) (fun k hk => by rcases q3 k hk with q | q; exact .inl (by omega); exact .inr (by simpa using q))
                simp only [List.set_cons_zero] at w
                refine w.sublist (.cons_cons _ (.cons_cons _ ?_))
                refine List.Sublist.append ?_ (List.Sublist.refl _)
                rw [← map_erase]
                exact List.eraseIdx_sublist _ _
              · rw [hd, ← map_erase, hms, hmi]
            · have hk4 : ¬ o.kind = 4 := by simpa using hc
              rw [if_neg hk4] at hd
              (refine wRgn fun K hk => ?_; simp []; refine hk.out _ ?_; clear hk K)
              refine wCond' (decide (o.kind = 5)) (by simp; rw [Bool.eq_iff_iff]; simp) (fun hc => ?_) (fun hc => wSkip' ?_)
              · have hk5 : o.kind = 5 := by simpa using hc
                rw [if_pos hk5] at hd
                have hil := H.its.len
                refine wSeq ?_
                (refine wRgn fun K hk => ?_; simp [hpn, hpn1, hp, mbox, hil]; refine hk.out _ ?_; clear hk K)
                refine wCond (decide (8 ≤ ip.length)) (by simp; try omega) (fun hc => ?_) (fun hc => wSkip ?_)
                · have h8 : 8 ≤ m.iters.length := by rw [hmi]; simpa using hc
                  rw [if_pos h8] at hd
                  refine wSeq ?_
                  (refine wRgn fun K hk => ?_; simp []; refine hk.out _ ?_; clear hk K)
                  refine wRet (retV (v := resB 5 0 nilA) (by simp [resB, nilA]) ?_)
                  rw [hd]
                  exact ⟨fun j hj hjp hjl => by (repeat (first | rw [upd_ne _ _ (by omega)] | rw [if_neg (by omega)])), _, iv, m.next, sp, ip, nilA, rfl, by (repeat (first | rw [upd_ne _ _ (by omega)] | rw [if_neg (by omega)])); exact hp, hbox _ _ (by omega), fun q => by simp at q⟩
                · have h8 : ¬ 8 ≤ m.iters.length := by rw [hmi]; simpa using hc
                  rw [if_neg h8] at hd
                  (refine wRgn fun K hk => ?_; simp [hpn, hpn1, hp, mbox, wrap_i64 (i := m.next + 1) (by omega) (by omega)]; refine hk.out _ ?_; clear hk K)
                  refine wRgn fun K hk => ?_
                  simp [hid, hrow, hidn, hidn1, serR, hpid, hpid.symm, hpn.symm, hpn1.symm]
                  refine ⟨by omega, ?_⟩
                  refine doCallM (s54o o.frm o.to (l := sr.list) (hlv.mono (fun j hj => by have := hlv.ids j hj; (repeat (first | rw [upd_ne _ _ (by omega)] | rw [if_neg (by omega)]))) (Nat.le_refl _) (Nat.le_refl _)).elems (by omega) _) fun _ rl h2 n2 hn2 hk2' hw2 hrl2 => ?_
                  have c3 := hrl2.cells
                  simp [c3]
                  have hold : ∀ j, j < n → j ≠ p → h2 j = h j := fun j hj hjp => by rw [hk2'.old _ (by omega)]; (repeat (first | rw [upd_ne _ _ (by omega)] | rw [if_neg (by omega)]))
                  have hoiv : OwnSl (upd h2 (n1 + 3 + 2 + 7 + 2 + 2 + 2 + 2 + 2 + 6 + 8 + 19) (some (.arr 46 2 [.agg [.int .i64 (m.next + 1), rl]]))) lo hi 46 2 iv (ip.map itP) := H.its.mono (fun j hj => by
                    have := hii j hj
                    rw [upd_ne _ _ (by omega)]; exact hold j (by omega) (by omega)) (Nat.le_refl _)
                  obtain ⟨iv', h4, a1, a2, -, a4, a5⟩ := app_own (bytes := 32) (nw := n1 + 3 + 2 + 7 + 2 + 2 + 2 + 2 + 2 + 6 + 8 + 20) (x := .sl (n1 + 3 + 2 + 7 + 2 + 2 + 2 + 2 + 2 + 6 + 8 + 19) 2 0 1 1 true) (ys := [.agg [.int .i64 (m.next + 1), rl]]) hoiv (by simp) (by omega) (by omega) (by simp; omega) (by simp; omega)
                  have hii2 : ∀ j, j < lo ∨ hi ≤ j → j ∉ iv.ids := fun j hj q => by have := hii j q; omega
                  have hold4 : ∀ j, j < n → j ≠ p → j ∉ iv.ids → h4 j = h j := fun j hj hjp hji => by
                    rw [a4 j (by omega) hji, upd_ne _ _ (by omega)]; exact hold j hj hjp
                  have hp4 : h4 p = some (.arr 25 3 [.agg [.sl id 5 0 (sp.map serP).length ((sp.map serP).length + tail.length) true, iv, .int .i64 (m.next + 1)]]) := by
                    rw [a4 p (by omega) (hii2 p (by omega)), upd_ne _ _ (by omega), hk2'.old _ (by omega)]; simp
                  have hb4 : h4 (n + 1) = some (AObj.arr 32 3 [AV.agg [AV.int IntKind.i64 0, AV.int IntKind.i64 0, AV.isl (some true) true []]]) := by
                    rw [a4 _ (by omega) (hii2 _ (by omega)), upd_ne _ _ (by omega), hk2'.old _ (by omega)]; simp [hpn1.symm]
                  have c4 := own_cells a2
                  simp [a1, hp4, c4]
                  refine hk.out _ ?_
                  clear hk K
                  (refine wRgn fun K hk => ?_; simp [hb4, hpn1, hpn1.symm, mbox]; refine hk.out _ ?_; clear hk K)
                  refine wRet' (retV (v := resB 0 (m.next + 1) nilA) (by simp [resB, nilA]) ?_)
                  rw [hd]
                  have hlast : ∀ j, j ≠ p → j ≠ n + 1 → ∀ a b, upd (upd h4 p a) (n + 1) b j = h4 j := fun j h1 h2 a b => by rw [upd_ne _ _ h2, upd_ne _ _ h1]
                  have hivf : ∀ k x, k ≠ 1 → (.sl id 5 0 (sp.map serP).length ((sp.map serP).length + tail.length) true :: iv :: (sp.map (·.2) ++ ip.map (·.2)))[k]? = some x → Apart iv x := fun k x hk hx => apart_at hap (i := 1) (j := k) (Ne.symm hk) rfl hx
                  have hkeep : ∀ k x, k ≠ 1 → (.sl id 5 0 (sp.map serP).length ((sp.map serP).length + tail.length) true :: iv :: (sp.map (·.2) ++ ip.map (·.2)))[k]? = some x → ∀ j ∈ x.ids, ∀ a b, upd (upd h4 p a) (n + 1) b j = h j := fun k x hk hx j hj a b => by
                    have := hP.ids x (.tail _ (List.mem_of_getElem? hx)) j hj
                    rw [hlast j (by omega) (by omega), hold4 j (by omega) (by omega) (fun q => hivf k x hk hx j q hj)]
                  refine ⟨fun j hj hjp hjl => by rw [hlast j hjp (by omega), hold4 j hj hjp (hii2 j hjl)], .sl id 5 0 (sp.map serP).length ((sp.map serP).length + tail.length) true, iv', m.next + 1, sp, ip ++ [(⟨m.next + 1, within sr.list o.frm o.to⟩, rl)], nilA, rfl, ?_, ⟨?_, ?_, ?_, ?_, nilA_smp _ _ _, ?_⟩, fun _ => ?_⟩
                  · rw [upd_ne _ _ hpn1, upd_same]; simp [mbox]
                  · exact H.ser.mut.mono (fun j hj => hkeep 0 _ (by omega) rfl j hj _ _) (by omega)
                  · have : (ip ++ [((⟨m.next + 1, within sr.list o.frm o.to⟩ : Iter), rl)]).map itP = ip.map itP ++ [.agg [.int .i64 (m.next + 1), rl]] := by simp [itP, itR]
                    rw [this]
                    exact a2.mut.mono (fun j hj => hlast j (by have := (a2.ids j hj).1; omega) (by rcases a5 j hj with q | q; omega; have := hii j q; omega) _ _) (by omega)
                  · intro q hq
                    obtain ⟨j, hj⟩ := List.mem_iff_getElem?.1 hq
                    have hjl := (List.getElem?_eq_some_iff.1 hj).1
                    exact (H.ls q hq).mono (fun k hk => hkeep (j + 2) q.2 (by omega) (by
                      simp only [List.getElem?_cons_succ]
                      rw [List.getElem?_append_left (by simpa using hjl)]; simp [hj]) k hk _ _) (Nat.le_refl _) (by omega)
                  · intro q hq
                    rcases List.mem_append.1 hq with hq | hq
                    · obtain ⟨j, hj⟩ := List.mem_iff_getElem?.1 hq
                      exact (H.li q hq).mono (fun k hk => hkeep (sp.length + j + 2) q.2 (by omega) (by
                        simp only [List.getElem?_cons_succ]
                        rw [List.getElem?_append_right (by simp)]; simp [hj]) k hk _ _) (Nat.le_refl _) (by omega)
                    · simp at hq; subst hq
                      exact hrl2.mono (fun k hk => by
                        have := hrl2.ids k hk
                        rw [hlast k (by omega) (by omega), a4 k (by omega) (hii2 k (by omega)), upd_ne _ _ (by omega)]) (by omega) (by omega)
                  · refine .cons (fun x _ => nilA_apart x) ?_
                    have w := pw_turn hap (i := 1) (x := iv) (y := iv') (n := n) rfl (fun z hz k hk => by have := (hP.ids z (.tail _ hz) k hk).2; omega) (fun k hk => by rcases a5 k hk with q | q; exact .inl (by omega); exact .inr q)
                    simp only [List.set_cons_succ, List.set_cons_zero] at w
                    have w2 : (rl :: .sl id 5 0 (sp.map serP).length ((sp.map serP).length + tail.length) true :: iv' :: (sp.map (·.2) ++ ip.map (·.2))).Pairwise Apart := by
                      refine .cons (fun x hx k hk hk2 => ?_) w
                      have h1 := hrl2.ids k hk
                      simp only [List.mem_cons] at hx
                      have hbig : ∀ z, z ∈ (.sl id 5 0 (sp.map serP).length ((sp.map serP).length + tail.length) true :: iv :: (sp.map (·.2) ++ ip.map (·.2))) → k ∉ z.ids := fun z hz hk => by have := (hP.ids z (.tail _ hz) k hk).2; omega
                      rcases hx with rfl | rfl | hx
                      · exact hbig _ (by simp) hk2
                      · rcases a5 k hk2 with q | q
                        · omega
                        · have := hii k q; omega
                      · exact hbig x (by simp only [List.mem_cons]; exact .inr (.inr hx)) hk2
                    have hperm : (.sl id 5 0 (sp.map serP).length ((sp.map serP).length + tail.length) true :: iv' :: (sp.map (·.2) ++ (ip ++ [((⟨m.next + 1, within sr.list o.frm o.to⟩ : Iter), rl)]).map (·.2))).Perm (rl :: .sl id 5 0 (sp.map serP).length ((sp.map serP).length + tail.length) true :: iv' :: (sp.map (·.2) ++ ip.map (·.2))) := by
                      rw [List.map_append, ← List.append_assoc]
                      exact List.perm_append_singleton rl (.sl id 5 0 (sp.map serP).length ((sp.map serP).length + tail.length) true :: iv' :: (sp.map (·.2) ++ ip.map (·.2)))
                    rw [hperm.pairwise_iff (fun {a b} => Apart.symm)]
                    exact w2
                  · rw [List.map_append, ← hms, ← hmi]; rfl
              · have hk5 : ¬ o.kind = 5 := by simpa using hc
                rw [if_neg hk5] at hd
                refine ⟨by simp, by simp [nilA], by simp; omega, fun j hj hjp hjl => by simp only; (repeat (first | rw [upd_ne _ _ (by omega)] | rw [if_neg (by omega)])), _, iv, m.next, sp, ip, by simp only; (repeat (first | rw [upd_ne _ _ (by omega)] | rw [if_neg (by omega)])); exact hp, ?_, by rw [hd, ← hms, ← hmi]⟩
                exact hP.mono (fun j h1 h2 => by simp only; (repeat (first | rw [upd_ne _ _ (by omega)] | rw [if_neg (by omega)]))) (by simp; omega)
      · rintro ⟨s', h2, n2⟩ ⟨t4, e1, hn2, hfr, sv', iv', nx', sp', ip', q1, q2, q3⟩
        simp only at t4 e1 hn2 hfr q1 q2
        simp only [nilA] at e1
        (refine wRgn fun K hk => ?_; simp [t4, e1]; refine hk.out _ ?_; clear hk K)
        refine wRet' (retV (v := resB 0 0 nilA) (by simp [resB, nilA, t4]) ?_)
        rw [q3]
        refine ⟨fun j hj hjp hjl => by rw [upd_ne _ _ (by omega)]; exact hfr j hj hjp hjl, sv', iv', nx', sp', ip', nilA, rfl, by rw [upd_ne _ _ (by omega)]; exact q1, ?_, fun _ => rfl⟩
        refine q2.mono' (fun k _ _ e sz els e2 he' => upd_ne _ _ ?_) (by omega)
        rintro rfl
        rw [e1] at e2
        cases e2; simp at he'
end Go.Proofs.Ytdbakmdcepkpmaa
