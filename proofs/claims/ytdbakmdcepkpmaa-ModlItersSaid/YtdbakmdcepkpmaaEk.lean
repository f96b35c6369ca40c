/- What is asked of an iterator. -/
import Derived.Test.YtdbakmdcepkpmaaEj
set_option linter.unusedSimpArgs false
set_option linter.unusedVariables false
namespace Go.Proofs.Ytdbakmdcepkpmaa
open Go.E3
def nextN (o : Op) (l : List Sample) : Nat := (min (min (max o.n 0) 1000) (l.length : Int)).toNat
def itDo (l : List Iter) (o : Op) : List Iter × Int × List Sample :=
  match l.findIdx? (fun x => decide (x.id = o.iter)) with
  | none => (l, 3, [])
  | some i => match l[i]? with
    | none => (l, 0, [])
    | some x => if o.kind = 7 then (l.eraseIdx i, 0, []) else (l.set i { x with rest := x.rest.drop (nextN o x.rest) }, 0, x.rest.take (nextN o x.rest))
theorem find_it (ip : List (Iter × AV)) (o : Op) : (ip.map itP).findIdx? (fun x => decide (keyA x = o.iter)) = (ip.map (·.1)).findIdx? (fun x => decide (x.id = o.iter)) := by
  rw [List.findIdx?_map, List.findIdx?_map]; rfl
theorem map_erase {α β : Type} (f : α → β) (l : List α) (i : Nat) : (l.map f).eraseIdx i = (l.eraseIdx i).map f := by
  rw [List.eraseIdx_eq_take_drop_succ, List.eraseIdx_eq_take_drop_succ]; simp
def resB (err it : Int) (rl : AV) : AV := .agg [.int .i64 err, .int .i64 it, rl]
theorem its_keyed {h : Hp} {lo n : Nat} {ip : List (Iter × AV)} (hl : ∀ p ∈ ip, SmpL h lo n p.2 p.1.rest) : Keyed 1 (ip.map itP) ∧ ∀ x ∈ ip.map itP, x.cells.all AV.flat = true := by
  refine ⟨fun x hx => ?_, fun x hx => ?_⟩
  · obtain ⟨p, hp, rfl⟩ := List.mem_map.1 hx
    exact ⟨p.1.id, [p.2], rfl, rfl⟩
  · obtain ⟨p, hp, rfl⟩ := List.mem_map.1 hx
    have := (hl p hp).cells.2
    simp [itP, itR, this]
set_option maxHeartbeats 4000000 in
theorem s27 {p lo hi n : Nat} {sv iv : AV} {nx : Int} {sp : List (Series × AV)} {ip : List (Iter × AV)} {o : Op} {h : Hp} (hp : h p = mbox sv iv nx) (hpl : p < lo) (hlo : lo ≤ hi) (hhi : hi ≤ n) (H : ModI h lo hi sv iv sp ip)
    (hl : ip.length < 2 ^ 39) (hls : ∀ q ∈ ip, q.1.rest.length < 2 ^ 39) :
    CallsA Try.prog 27 [.ptr p 3 0 0, opA o] h n fun r h' n' => (∀ j, j < n → j ≠ p → (j < lo ∨ hi ≤ j) → h' j = h j) ∧
      ∃ iv' ip' rl, r = resB (itDo (ip.map (·.1)) o).2.1 0 rl ∧ h' p = mbox sv iv' nx ∧ ModP h' lo n' sv iv' rl sp ip' (itDo (ip.map (·.1)) o).2.2 ∧ ip'.map (·.1) = (itDo (ip.map (·.1)) o).1 := by
  refine CallsA.wf fun hwf => ?_
  refine e27 (by simp) ?_
  have hpn : p ≠ n := by omega
  have hpn1 : p ≠ n + 1 := by omega
  have hii := H.its.ids
  have hap := H.apart
  obtain ⟨hkd, hfl⟩ := its_keyed H.li
  have c := mut_cells H.its.mut
  rw [a27, r27]
  (refine wRgn fun K hk => ?_; simp [opA]; refine hk.out _ ?_; clear hk K)
  have he : ∀ h' : Hp, (∀ j, lo ≤ j → j < hi → h' j = h j) → elems h' iv 2 = some (ip.map itP) := fun h' hh => by
    rw [elems_same fun id hid => hh id (hii id hid).1 (hii id hid).2]; exact H.its.elems
  refine wRgn fun K hk => ?_
  simp [hpn, hpn1, hp, mbox]
  refine doCallP (v := .int .i64 (idxOf (fun x => decide (keyA x = o.iter)) (ip.map itP))) (s49 (e := 28) (o := o) (by simp [opA]) (he _ fun j h1 h2 => by (repeat (first | rw [upd_ne _ _ (by omega)] | rw [if_neg (by omega)]))) hkd hfl (by simp; omega) _) fun n1 hn1 => ?_
  simp
  refine hk.out _ ?_
  clear hk K
  have hP := H.toP
  refine wSeq ?_
  (refine wRgn fun K hk => ?_; simp []; refine hk.out _ ?_; clear hk K)
  have hfi := find_it ip o
  have hboxes : ∀ j, j < n → upd (upd h n (some (.arr 28 8 [opA o]))) (n + 1) (some (.arr 32 3 [.agg [.int .i64 0, .int .i64 0, nilA]])) j = h j := fun j hj => by (repeat (first | rw [upd_ne _ _ (by omega)] | rw [if_neg (by omega)]))
  cases hf : (ip.map (·.1)).findIdx? (fun x => decide (x.id = o.iter)) with
  | none =>
    rw [hf] at hfi
    refine wCond true (by simp [idxOf, hfi]) (fun _ => ?_) (fun hc => by cases hc)
    refine wSeq ?_
    (refine wRgn fun K hk => ?_; simp []; refine hk.out _ ?_; clear hk K)
    refine wRet (retV (v := resB 3 0 nilA) (by simp [resB, nilA]) ?_)
    refine ⟨fun j hj hjp hjl => ?_, iv, ip, nilA, by simp [itDo, hf], ?_, ?_, by simp [itDo, hf]⟩
    · (repeat (first | rw [upd_ne _ _ (by omega)] | rw [if_neg (by omega)]))
    · (repeat (first | rw [upd_ne _ _ (by omega)] | rw [if_neg (by omega)])); exact hp
    · simp only [itDo, hf]
      exact hP.mono (fun j h1 h2 => by (repeat (first | rw [upd_ne _ _ (by omega)] | rw [if_neg (by omega)]))) (by omega)
  | some i =>
    rw [hf] at hfi
    have hi0 : i < ip.length := by have := (List.findIdx?_eq_some_iff_getElem.1 hf).1; simpa using this
    have hidx : idxOf (fun x => decide (keyA x = o.iter)) (ip.map itP) = (i : Int) := by simp [idxOf, hfi]
    obtain ⟨⟨it, lv⟩, hx⟩ : ∃ x, ip[i]? = some x := ⟨ip[i], List.getElem?_eq_getElem hi0⟩
    have hx1 : (ip.map (·.1))[i]? = some it := by simp [hx]
    have hlv := H.li _ (List.mem_of_getElem? hx)
    have hrl := hls _ (List.mem_of_getElem? hx)
    simp only at hlv hrl
    obtain ⟨c1, c2⟩ := hlv.cells
    rw [hidx]
    refine wCond false (by simp) (fun hc => by cases hc) (fun _ => wSkip ?_)
    refine wSeq ?_
    (refine wRgn fun K hk => ?_; simp []; refine hk.out _ ?_; clear hk K)
    refine wCond (decide (o.kind = 7)) (by simp; rw [Bool.eq_iff_iff]; simp) (fun hc => ?_) (fun hc => wSkip ?_)
    · -- it is closed
      have hk7 : o.kind = 7 := by simpa using hc
      refine wSeq ?_
      refine wRgn fun K hk => ?_
      simp [hpn, hpn1, hp, mbox, wrap_i64 (i := (i : Int) + 1) (by omega) (by omega)]
      refine doCallF (s51 (lo := lo) (i := i) (xs := ip.map itP) (H.its.mut.mono (fun id hid => ?_) ?_) (by simpa using hi0)) ?_
      · have := hii id hid; (repeat (first | rw [upd_ne _ _ (by omega)] | rw [if_neg (by omega)]))
      · omega
      rintro iv' h2 n2 ⟨q1, q2, q3⟩ hn2 hwf2
      have c3 := mut_cells q1
      have hold : ∀ j, j < n → j ∉ iv.ids → h2 j = h j := fun j hj hji => by rw [q2 j (by omega) hji]; (repeat (first | rw [upd_ne _ _ (by omega)] | rw [if_neg (by omega)]))
      have hp2 : h2 p = mbox sv iv nx := by
        rw [hold p (by omega) (fun q => by have := hii _ q; omega)]; exact hp
      have hn12 : h2 (n + 1) = some (AObj.arr 32 3 [AV.agg [AV.int IntKind.i64 0, AV.int IntKind.i64 0, AV.isl (some true) true []]]) := by
        rw [q2 (n + 1) (by omega) (fun q => by have := hii _ q; omega)]; simp
      simp [hp2, mbox, c3]
      refine hk.out _ ?_
      clear hk K
      refine wSeq ?_
      (refine wRgn fun K hk => ?_; simp [hn12, hpn1.symm]; refine hk.out _ ?_; clear hk K)
      refine wRet (retV (v := resB 0 0 nilA) (by simp [resB, nilA]) ?_)
      have hid' : itDo (ip.map (·.1)) o = ((ip.map (·.1)).eraseIdx i, 0, []) := by simp only [itDo, hf, hx1, hk7, if_true]
      rw [hid']
      have hlast : ∀ j, j ≠ p → j ≠ n + 1 → ∀ a b, upd (upd h2 p a) (n + 1) b j = h2 j := fun j h1 h2 a b => by rw [upd_ne _ _ h2, upd_ne _ _ h1]
      have hivf : ∀ k x, k ≠ 1 → (sv :: iv :: (sp.map (·.2) ++ ip.map (·.2)))[k]? = some x → Apart iv x := fun k x hk hx => apart_at hap (i := 1) (j := k) (Ne.symm hk) rfl hx
      have hkeep : ∀ k x, k ≠ 1 → (sv :: iv :: (sp.map (·.2) ++ ip.map (·.2)))[k]? = some x → ∀ j ∈ x.ids, ∀ a b, upd (upd h2 p a) (n + 1) b j = h j := fun k x hk hx j hj a b => by
        have := hP.ids x (.tail _ (List.mem_of_getElem? hx)) j hj
        rw [hlast j (by omega) (by omega), hold j (by omega) (fun q => hivf k x hk hx j q hj)]
      refine ⟨fun j hj hjp hjl => ?_, iv', ip.eraseIdx i, nilA, rfl, ?_, ⟨?_, ?_, ?_, ?_, nilA_smp _ _ _, ?_⟩, ?_⟩
      · rw [hlast j hjp (by omega), hold j hj fun q => by have := hii _ q; omega]
      · (repeat (first | rw [upd_ne _ _ (by omega)] | rw [if_neg (by omega)])); simp [mbox]
      · exact H.ser.mut.mono (fun j hj => hkeep 0 sv (by omega) rfl j hj _ _) (by omega)
      · have q : ∀ a b, MutSl (upd (upd h2 p a) (n + 1) b) lo (n2 + 2) 46 2 iv' ((ip.map itP).eraseIdx i) := fun a b => q1.mono (fun j hj => hlast j (by have := (q1.ids j hj).1; omega) (by rcases q3 j hj with q | q; omega; have := hii j q; omega) _ _) (by omega)
        rw [← map_erase]; exact q _ _
      · intro q hq
        obtain ⟨j, hj⟩ := List.mem_iff_getElem?.1 hq
        have hjl := (List.getElem?_eq_some_iff.1 hj).1
        exact (H.ls q hq).mono (fun k hk => hkeep (j + 2) q.2 (by omega) (by
          simp only [List.getElem?_cons_succ]
          rw [List.getElem?_append_left (by simpa using hjl)]; simp [hj]) k hk _ _) (Nat.le_refl _) (by omega)
      · intro q hq
        have hq := List.mem_of_mem_eraseIdx hq
        obtain ⟨j, hj⟩ := List.mem_iff_getElem?.1 hq
        exact (H.li q hq).mono (fun k hk => hkeep (sp.length + j + 2) q.2 (by omega) (by
          simp only [List.getElem?_cons_succ]
          rw [List.getElem?_append_right (by simp)]; simp [hj]) k hk _ _) (Nat.le_refl _) (by omega)
      · refine .cons (fun x _ => nilA_apart x) ?_
        have w := pw_turn hap (i := 1) (x := iv) (y := iv') (n := n) rfl (fun z hz k hk => by have := (hP.ids z (.tail _ hz) k hk).2; omega) (fun k hk => by rcases q3 k hk with q | q; exact .inl (by omega); exact .inr q)
        simp only [List.set_cons_succ, List.set_cons_zero] at w
        refine w.sublist (.cons_cons _ (.cons_cons _ ?_))
        refine List.Sublist.append (List.Sublist.refl _) ?_
        rw [← map_erase]
        exact List.eraseIdx_sublist _ _
      · rw [← map_erase]
    · -- samples are told
      have hk7 : ¬ o.kind = 7 := by simpa using hc
      have hits := H.its
      rcases hits with ⟨_, h0⟩ | ⟨id, ex, rfl, hid, hid1, hid2⟩
      · have : ip = [] := by simpa using h0
        rw [this] at hi0; simp at hi0
      have hrow : (ip.map itP)[i]? = some (itR it lv) := by simp [hx, itP]
      have hidn : id ≠ n := by omega
      have hidn1 : id ≠ n + 1 := by omega
      have hmn : foldA (fun x y => if y < x then y else x) [.int .i64 (if 0 > o.n then 0 else o.n), .int .i64 1000, .int .i64 it.rest.length] = some (.int .i64 (nextN o it.rest)) := by
        simp only [foldA, List.foldl_cons, List.foldl_nil, if_true, Option.some.injEq, AV.int.injEq, true_and, nextN]
        omega
      have hmx : foldA (fun x y => if y > x then y else x) [.int .i64 o.n, .int .i64 0] = some (.int .i64 (if 0 > o.n then 0 else o.n)) := by
        simp only [foldA, List.foldl_cons, List.foldl_nil, if_true]
      have hnl : nextN o it.rest ≤ it.rest.length := by unfold nextN; omega
      have hlvb : SmpL (upd (upd h n (some (.arr 28 8 [opA o]))) (n + 1) (some (.arr 32 3 [.agg [.int .i64 0, .int .i64 0, .isl (some true) true []]]))) lo hi lv it.rest :=
        hlv.mono (fun j hj => by have := hlv.ids j hj; (repeat (first | rw [upd_ne _ _ (by omega)] | rw [if_neg (by omega)]))) (Nat.le_refl _) (Nat.le_refl _)
      obtain ⟨r1, a1, a2, b1, a3, a4⟩ := smp_to hlvb hnl
      obtain ⟨r2, d1, d2, b2, d3, d4⟩ := smp_from hlvb hnl
      (refine wRgn fun K hk => ?_; simp [hpn, hpn1, hp, mbox, hi0, hid, hrow, hidn, hidn1, itR]; refine hk.out _ ?_; clear hk K)
      (refine wRgn fun K hk => ?_; simp [hid, hrow, hidn, hidn1, itR, hlv.len, hmx, hmn]; refine hk.out _ ?_; clear hk K)
      refine wRgn fun K hk => ?_
      simp [-slcA_sl, -slcA_isl, hid, hrow, hidn, hidn1, itR, a1]
      refine doCallM (s48 a2 a3 a4 (by simp; omega)) fun hw1 out h2 n2 hn2 hk2 hw2 hout => ?_
      simp
      refine hk.out _ ?_
      clear hk K
      have hid2' : h2 id = some (.arr 46 2 (ip.map itP)) := by rw [hk2.old _ (by omega)]; simp [hidn, hidn1, hid]
      refine wRgn fun K hk => ?_
      simp [-slcA_sl, -slcA_isl, hid2', hrow, itR, d1]
      refine doCallM (s48 (elems_keeps hw1 hk2 d2) d3 d4 (by simp; omega)) fun _ rst h3 n3 hn3 hk3 hw3 hrst => ?_
      have hid3 : h3 id = some (.arr 46 2 (ip.map itP)) := by rw [hk3.old _ (by omega)]; exact hid2'
      obtain ⟨c3, c4⟩ := own_cells hrst
      obtain ⟨c5, c6⟩ := own_cells hout
      simp [hid3, hrow, itR, c3, c4]
      refine hk.out _ ?_
      clear hk K
      have hn13 : h3 (n + 1) = some (AObj.arr 32 3 [AV.agg [AV.int IntKind.i64 0, AV.int IntKind.i64 0, AV.isl (some true) true []]]) := by
        rw [hk3.old _ (by omega), hk2.old _ (by omega)]; simp
      (refine wRgn fun K hk => ?_; simp [hidn1.symm, hn13, c5, c6]; refine hk.out _ ?_; clear hk K)
      refine wRet' (retV (v := resB 0 0 out) (by simp [resB]) ?_)
      have hid' : itDo (ip.map (·.1)) o = ((ip.map (·.1)).set i { it with rest := it.rest.drop (nextN o it.rest) }, 0, it.rest.take (nextN o it.rest)) := by simp only [itDo, hf, hx1, hk7, if_false]
      rw [hid']
      have hold : ∀ j, j < n → j ≠ id → ∀ a b, upd (upd h3 id a) (n + 1) b j = h j := fun j h1 h2 a b => by
        rw [upd_ne _ _ (by omega), upd_ne _ _ h2, hk3.old _ (by omega), hk2.old _ (by omega)]; (repeat (first | rw [upd_ne _ _ (by omega)] | rw [if_neg (by omega)]))
      have hidf : ∀ k x, k ≠ 1 → (sv :: .sl id 2 0 (ip.map itP).length (ip.map itP).length ex :: (sp.map (·.2) ++ ip.map (·.2)))[k]? = some x → id ∉ x.ids := fun k x hk hx => apart_at hap (i := 1) (j := k) (Ne.symm hk) rfl hx id (by simp)
      have hkeep : ∀ k x, k ≠ 1 → (sv :: .sl id 2 0 (ip.map itP).length (ip.map itP).length ex :: (sp.map (·.2) ++ ip.map (·.2)))[k]? = some x → ∀ j ∈ x.ids, ∀ a b, upd (upd h3 id a) (n + 1) b j = h j := fun k x hk hx j hj a b => by
        have := hP.ids x (.tail _ (List.mem_of_getElem? hx)) j hj
        exact hold j (by omega) (fun e => hidf k x hk hx (e ▸ hj)) a b
      have hiS : i < (ip.map (·.2)).length := by simpa using hi0
      refine ⟨fun j hj hjp hjl => ?_, .sl id 2 0 (ip.map itP).length (ip.map itP).length ex, ip.set i ({ it with rest := it.rest.drop (nextN o it.rest) }, rst), out, rfl, ?_, ⟨?_, .inr ⟨id, ex, [], ?_, ?_, hid1, by omega⟩, ?_, ?_, ?_, ?_⟩, ?_⟩
      · exact hold j hj (by omega) _ _
      · rw [hold p (by omega) (by omega), hp]
      · exact H.ser.mut.mono (fun j hj => hkeep 0 sv (by omega) rfl j hj _ _) (by omega)
      · simp
      · rw [upd_ne _ _ (by omega), upd_same]
        have : (ip.map itP).set i (itR { it with rest := it.rest.drop (nextN o it.rest) } rst) = (ip.set i ({ it with rest := it.rest.drop (nextN o it.rest) }, rst)).map itP ++ [] := by
          rw [List.map_set, List.append_nil]; rfl
        rw [← this]; rfl
      · intro q hq
        obtain ⟨j, hj⟩ := List.mem_iff_getElem?.1 hq
        have hjl := (List.getElem?_eq_some_iff.1 hj).1
        exact (H.ls q hq).mono (fun k hk => hkeep (j + 2) q.2 (by omega) (by
          simp only [List.getElem?_cons_succ]
          rw [List.getElem?_append_left (by simpa using hjl)]; simp [hj]) k hk _ _) (Nat.le_refl _) (by omega)
      · intro q hq
        rcases mem_set hq with rfl | ⟨j, hji, hj⟩
        · exact (SmpL.of hrst).mono (fun k hk => by
            have := (hrst.ids k hk).1
            rw [upd_ne _ _ (by omega), upd_ne _ _ (by omega)]) (by omega) (by omega)
        · exact (H.li q (List.mem_of_getElem? hj)).mono (fun k hk => hkeep (sp.length + j + 2) q.2 (by omega) (by
            simp only [List.getElem?_cons_succ]
            rw [List.getElem?_append_right (by simp)]; simp [hj]) k hk _ _) (Nat.le_refl _) (by omega)
      · exact (SmpL.of hout).mono (fun k hk => by
          have := hout.ids k hk
          rw [upd_ne _ _ (by omega), upd_ne _ _ (by omega), hk3.old _ (by omega)]) (by omega) (by omega)
      · have w := pw_turn hap (i := sp.length + i + 2) (x := lv) (y := rst) (n := n2) (by
          simp only [List.getElem?_cons_succ]
          rw [List.getElem?_append_right (by simp)]; simp [hx]) (fun z hz k hk => by have := (hP.ids z (.tail _ hz) k hk).2; omega) (fun k hk => .inl (by have := (hrst.ids k hk).1; omega))
        simp only [List.set_cons_succ] at w
        rw [List.set_append_right _ _ (by simp), show sp.length + i - (sp.map (fun x : Series × AV => x.2)).length = i by simp] at w
        rw [List.map_set]
        refine .cons (fun x hx k hk hk2 => ?_) w
        have h1 := hout.ids k hk
        simp only [List.mem_cons, List.mem_append] at hx
        have hbig : ∀ z, z ∈ (sv :: .sl id 2 0 (ip.map itP).length (ip.map itP).length ex :: (sp.map (·.2) ++ ip.map (·.2))) → k ∉ z.ids := fun z hz hk => by have := (hP.ids z (.tail _ hz) k hk).2; omega
        rcases hx with rfl | rfl | hx | hx
        · exact hbig _ (by simp) hk2
        · exact hbig _ (by simp) hk2
        · exact hbig x (by simp only [List.mem_cons, List.mem_append]; exact .inr (.inr (.inl hx))) hk2
        · rcases mem_set hx with rfl | ⟨j, _, hj⟩
          · have := (hrst.ids k hk2).1; omega
          · exact hbig x (by simp only [List.mem_cons, List.mem_append]; exact .inr (.inr (.inr (List.mem_of_getElem? hj)))) hk2
      · rw [List.map_set]
end Go.Proofs.Ytdbakmdcepkpmaa
