/- An op of a number; a model grows by one at most. -/
import Derived.Test.YtdbakmdcepkpmaaEo
set_option linter.unusedSimpArgs false
set_option linter.unusedVariables false
namespace Go.Proofs.Ytdbakmdcepkpmaa
open Go.E3
theorem length_within (l : List Sample) (f t : Int) : (within l f t).length ≤ l.length := List.length_filter_le _ _
theorem Room.up {m : Model} {k : Nat} (r : Room m k) : Room m (k + 1) :=
  ⟨by have := r.ser; omega, by have := r.its; omega, fun s hs => by have := r.lst s hs; omega, fun s hs => by have := r.rst s hs; omega, r.nx0, by have := r.nx1; omega⟩
theorem Room.step {m : Model} {k : Nat} (r : Room m k) (o : Op) : Room (modDo m o).1 (k + 1) := by
  have hmade : ∀ i b, (made m.series o.series i b).length ≤ k + 1 ∧ ∀ s ∈ made m.series o.series i b, s.list.length ≤ k := by
    intro i b
    have := r.ser
    unfold made
    cases b
    · refine ⟨by simp; omega, fun s hs => ?_⟩
      simp at hs
      rcases hs with h | h | h
      · exact r.lst s (List.mem_of_mem_take h)
      · subst h; simp [newSer]
      · exact r.lst s (List.mem_of_mem_drop h)
    · exact ⟨by simp; omega, fun s hs => r.lst s hs⟩
  have hser : Room (serDo m o).1 (k + 1) := by
    unfold serDo
    simp only
    split
    · split
      · rename_i s hs
        obtain ⟨h1, h2⟩ := hmade (findS m.series o.series).1 (findS m.series o.series).2
        refine ⟨by simpa using h1, r.up.its, fun x hx => ?_, r.up.rst, r.nx0, r.up.nx1⟩
        rcases List.mem_or_eq_of_mem_set hx with h | h
        · have := h2 x h; omega
        · subst h
          have := h2 s (List.mem_of_getElem? hs)
          simp [addTo]; omega
      · exact r.up
    · split
      · exact r.up
      · split
        · exact r.up
        · rename_i s hs
          have hsm : s ∈ m.series := List.mem_of_getElem? hs
          split
          · exact r.up
          · split
            · split
              · exact r.up
              · refine ⟨by simpa using r.up.ser, r.up.its, fun x hx => ?_, r.up.rst, r.nx0, r.up.nx1⟩
                rcases List.mem_or_eq_of_mem_set hx with h | h
                · exact r.up.lst x h
                · subst h; exact r.up.lst s hsm
            · split
              · refine ⟨?_, r.up.its, fun x hx => r.up.lst x (List.mem_of_mem_eraseIdx hx), r.up.rst, r.nx0, r.up.nx1⟩
                have := List.length_eraseIdx_le m.series (findS m.series o.series).1
                have := r.ser
                simp only; omega
              · split
                · split
                  · exact r.up
                  · have := r.its
                    have := r.nx0
                    have := r.nx1
                    refine ⟨r.up.ser, by simp; omega, r.up.lst, fun x hx => ?_, by simp only; omega, by simp only; omega⟩
                    rcases List.mem_append.1 hx with h | h
                    · exact r.up.rst x h
                    · rw [List.mem_singleton.1 h]
                      have := length_within s.list o.frm o.to
                      have := r.lst s hsm
                      simp only; omega
                · exact r.up
  have hit : Room (itM m o).1 (k + 1) := by
    unfold itM itDo
    simp only
    split
    · exact r.up
    · split
      · exact r.up
      · rename_i x hx
        have hxm := List.mem_of_getElem? hx
        split
        · refine ⟨r.up.ser, ?_, r.up.lst, fun y hy => r.up.rst y (List.mem_of_mem_eraseIdx hy), r.nx0, r.up.nx1⟩
          rename_i i _ _ _
          have := List.length_eraseIdx_le m.iters i
          have := r.its
          simp only; omega
        · refine ⟨r.up.ser, by simpa using r.up.its, r.up.lst, fun y hy => ?_, r.nx0, r.up.nx1⟩
          rcases List.mem_or_eq_of_mem_set hy with h | h
          · exact r.up.rst y h
          · subst h
            have := r.rst x hxm
            simp; omega
  unfold modDo
  split
  · exact r.up
  · split
    · unfold modStep
      split
      · exact hit
      · exact hser
    · exact r.up
theorem room_empty : Room ⟨[], [], 0⟩ 0 := ⟨by simp, by simp, by simp, by simp, by simp, by simp⟩
def shA (n : Int) (c : Nat) (m : Int) : Int := bits .and .i64 (n.fdiv (2 ^ min c IntKind.i64.bits)) m
/-- The op of a number. -/
def opN (n a : Int) : Op :=
  let o : Op := ⟨0, shA n 6 3, shA n 8 7, IntKind.i64.wrap (a + shA n 11 3), IntKind.u64.wrap (shA n 13 255), IntKind.i64.wrap (a - shA n 13 63), IntKind.i64.wrap (IntKind.i64.wrap (a + shA n 19 15) - 4), shA n 23 15⟩
  if bits .and .i64 n 63 < 34 then (if shA n 21 7 = 0 then { o with kind := 1, v := IntKind.u64.wrap (IntKind.u64.wrap n * 11400714819323198485) } else { o with kind := 1 })
  else if bits .and .i64 n 63 < 44 then { o with kind := 2 }
  else if bits .and .i64 n 63 < 46 then (if 0 < shA n 23 3 then { o with kind := 2 } else { o with kind := 3 })
  else if bits .and .i64 n 63 < 48 then (if 0 < shA n 23 3 then { o with kind := 1 } else { o with kind := 4 })
  else if bits .and .i64 n 63 < 53 then { o with kind := 5 }
  else if bits .and .i64 n 63 < 60 then { o with kind := 6 }
  else if bits .and .i64 n 63 < 62 then { o with kind := 7 }
  else { o with kind := shA n 6 15, series := IntKind.i64.wrap (shA n 10 31 - 5) }
set_option maxRecDepth 100000 in
set_option maxHeartbeats 4000000 in
theorem s13 (a b : Int) : PureF Try.prog 13 [.int .i64 a, .int .i64 b] (opA (opN a b)) := by
  intro h n
  refine u13 (by simp) fun _ => ?_
  rw [b13, q13]
  repeat refine wSeq ?_
  (refine wRgn fun K hk => ?_; simp []; refine hk.out _ ?_; clear hk K)
  repeat refine wSeq ?_
  (refine wRgn fun K hk => ?_; simp []; refine hk.out _ ?_; clear hk K)
  repeat refine wSeq ?_
  (refine wRgn fun K hk => ?_; simp []; refine hk.out _ ?_; clear hk K)
  by_cases h1 : bits .and .i64 a 63 < 34
  · by_cases h2 : shA a 21 7 = 0
    · unfold shA at h2
      (repeat' (first | (refine wRgn fun K hk => ?_; simp [h1, h2]; refine hk.out _ ?_; clear hk K) | refine wSeq ?_ | refine wSkip ?_ | refine wRet ?_ | refine wExit ?_ | refine wBlock ?_ | (refine wCond _ (by simp [h1, h2]; rfl) (fun hc => ?_) (fun hc => ?_) <;> simp [h1, h2] at hc) | (refine wRgn' fun K hk => ?_; simp [h1, h2]; refine hk.out _ ?_; clear hk K) | refine wRet' ?_ | refine wExit' ?_ | refine wSkip' ?_ | refine wBlock' ?_ | (refine wCond' _ (by simp [h1, h2]; rfl) (fun hc => ?_) (fun hc => ?_) <;> simp [h1, h2] at hc))) <;> exact (retV (rs := [ARes.tmp 4]) (v := opA (opN a b)) (by simp [opA, opN, shA, h1, h2]) ⟨rfl, rfl⟩)
    · unfold shA at h2
      (repeat' (first | (refine wRgn fun K hk => ?_; simp [h1, h2]; refine hk.out _ ?_; clear hk K) | refine wSeq ?_ | refine wSkip ?_ | refine wRet ?_ | refine wExit ?_ | refine wBlock ?_ | (refine wCond _ (by simp [h1, h2]; rfl) (fun hc => ?_) (fun hc => ?_) <;> simp [h1, h2] at hc) | (refine wRgn' fun K hk => ?_; simp [h1, h2]; refine hk.out _ ?_; clear hk K) | refine wRet' ?_ | refine wExit' ?_ | refine wSkip' ?_ | refine wBlock' ?_ | (refine wCond' _ (by simp [h1, h2]; rfl) (fun hc => ?_) (fun hc => ?_) <;> simp [h1, h2] at hc))) <;> exact (retV (rs := [ARes.tmp 4]) (v := opA (opN a b)) (by simp [opA, opN, shA, h1, h2]) ⟨rfl, rfl⟩)
  by_cases h3 : bits .and .i64 a 63 < 44
  · (repeat' (first | (refine wRgn fun K hk => ?_; simp [h1, h3]; refine hk.out _ ?_; clear hk K) | refine wSeq ?_ | refine wSkip ?_ | refine wRet ?_ | refine wExit ?_ | refine wBlock ?_ | (refine wCond _ (by simp [h1, h3]; rfl) (fun hc => ?_) (fun hc => ?_) <;> simp [h1, h3] at hc) | (refine wRgn' fun K hk => ?_; simp [h1, h3]; refine hk.out _ ?_; clear hk K) | refine wRet' ?_ | refine wExit' ?_ | refine wSkip' ?_ | refine wBlock' ?_ | (refine wCond' _ (by simp [h1, h3]; rfl) (fun hc => ?_) (fun hc => ?_) <;> simp [h1, h3] at hc))) <;> exact (retV (rs := [ARes.tmp 4]) (v := opA (opN a b)) (by simp [opA, opN, shA, h1, h3]) ⟨rfl, rfl⟩)
  by_cases h4 : bits .and .i64 a 63 < 46
  · by_cases h2 : 0 < shA a 23 3
    · unfold shA at h2
      (repeat' (first | (refine wRgn fun K hk => ?_; simp [h1, h2, h3, h4]; refine hk.out _ ?_; clear hk K) | refine wSeq ?_ | refine wSkip ?_ | refine wRet ?_ | refine wExit ?_ | refine wBlock ?_ | (refine wCond _ (by simp [h1, h2, h3, h4]; rfl) (fun hc => ?_) (fun hc => ?_) <;> simp [h1, h2, h3, h4] at hc) | (refine wRgn' fun K hk => ?_; simp [h1, h2, h3, h4]; refine hk.out _ ?_; clear hk K) | refine wRet' ?_ | refine wExit' ?_ | refine wSkip' ?_ | refine wBlock' ?_ | (refine wCond' _ (by simp [h1, h2, h3, h4]; rfl) (fun hc => ?_) (fun hc => ?_) <;> simp [h1, h2, h3, h4] at hc))) <;> exact (retV (rs := [ARes.tmp 4]) (v := opA (opN a b)) (by simp [opA, opN, shA, h1, h2, h3, h4]) ⟨rfl, rfl⟩)
    · unfold shA at h2
      (repeat' (first | (refine wRgn fun K hk => ?_; simp [h1, h2, h3, h4]; refine hk.out _ ?_; clear hk K) | refine wSeq ?_ | refine wSkip ?_ | refine wRet ?_ | refine wExit ?_ | refine wBlock ?_ | (refine wCond _ (by simp [h1, h2, h3, h4]; rfl) (fun hc => ?_) (fun hc => ?_) <;> simp [h1, h2, h3, h4] at hc) | (refine wRgn' fun K hk => ?_; simp [h1, h2, h3, h4]; refine hk.out _ ?_; clear hk K) | refine wRet' ?_ | refine wExit' ?_ | refine wSkip' ?_ | refine wBlock' ?_ | (refine wCond' _ (by simp [h1, h2, h3, h4]; rfl) (fun hc => ?_) (fun hc => ?_) <;> simp [h1, h2, h3, h4] at hc))) <;> exact (retV (rs := [ARes.tmp 4]) (v := opA (opN a b)) (by simp [opA, opN, shA, h1, h2, h3, h4]) ⟨rfl, rfl⟩)
  by_cases h5 : bits .and .i64 a 63 < 48
  · by_cases h2 : 0 < shA a 23 3
    · unfold shA at h2
      (repeat' (first | (refine wRgn fun K hk => ?_; simp [h1, h2, h3, h4, h5]; refine hk.out _ ?_; clear hk K) | refine wSeq ?_ | refine wSkip ?_ | refine wRet ?_ | refine wExit ?_ | refine wBlock ?_ | (refine wCond _ (by simp [h1, h2, h3, h4, h5]; rfl) (fun hc => ?_) (fun hc => ?_) <;> simp [h1, h2, h3, h4, h5] at hc) | (refine wRgn' fun K hk => ?_; simp [h1, h2, h3, h4, h5]; refine hk.out _ ?_; clear hk K) | refine wRet' ?_ | refine wExit' ?_ | refine wSkip' ?_ | refine wBlock' ?_ | (refine wCond' _ (by simp [h1, h2, h3, h4, h5]; rfl) (fun hc => ?_) (fun hc => ?_) <;> simp [h1, h2, h3, h4, h5] at hc))) <;> exact (retV (rs := [ARes.tmp 4]) (v := opA (opN a b)) (by simp [opA, opN, shA, h1, h2, h3, h4, h5]) ⟨rfl, rfl⟩)
    · unfold shA at h2
      (repeat' (first | (refine wRgn fun K hk => ?_; simp [h1, h2, h3, h4, h5]; refine hk.out _ ?_; clear hk K) | refine wSeq ?_ | refine wSkip ?_ | refine wRet ?_ | refine wExit ?_ | refine wBlock ?_ | (refine wCond _ (by simp [h1, h2, h3, h4, h5]; rfl) (fun hc => ?_) (fun hc => ?_) <;> simp [h1, h2, h3, h4, h5] at hc) | (refine wRgn' fun K hk => ?_; simp [h1, h2, h3, h4, h5]; refine hk.out _ ?_; clear hk K) | refine wRet' ?_ | refine wExit' ?_ | refine wSkip' ?_ | refine wBlock' ?_ | (refine wCond' _ (by simp [h1, h2, h3, h4, h5]; rfl) (fun hc => ?_) (fun hc => ?_) <;> simp [h1, h2, h3, h4, h5] at hc))) <;> exact (retV (rs := [ARes.tmp 4]) (v := opA (opN a b)) (by simp [opA, opN, shA, h1, h2, h3, h4, h5]) ⟨rfl, rfl⟩)
  by_cases h6 : bits .and .i64 a 63 < 53
  · (repeat' (first | (refine wRgn fun K hk => ?_; simp [h1, h3, h4, h5, h6]; refine hk.out _ ?_; clear hk K) | refine wSeq ?_ | refine wSkip ?_ | refine wRet ?_ | refine wExit ?_ | refine wBlock ?_ | (refine wCond _ (by simp [h1, h3, h4, h5, h6]; rfl) (fun hc => ?_) (fun hc => ?_) <;> simp [h1, h3, h4, h5, h6] at hc) | (refine wRgn' fun K hk => ?_; simp [h1, h3, h4, h5, h6]; refine hk.out _ ?_; clear hk K) | refine wRet' ?_ | refine wExit' ?_ | refine wSkip' ?_ | refine wBlock' ?_ | (refine wCond' _ (by simp [h1, h3, h4, h5, h6]; rfl) (fun hc => ?_) (fun hc => ?_) <;> simp [h1, h3, h4, h5, h6] at hc))) <;> exact (retV (rs := [ARes.tmp 4]) (v := opA (opN a b)) (by simp [opA, opN, shA, h1, h3, h4, h5, h6]) ⟨rfl, rfl⟩)
  by_cases h7 : bits .and .i64 a 63 < 60
  · (repeat' (first | (refine wRgn fun K hk => ?_; simp [h1, h3, h4, h5, h6, h7]; refine hk.out _ ?_; clear hk K) | refine wSeq ?_ | refine wSkip ?_ | refine wRet ?_ | refine wExit ?_ | refine wBlock ?_ | (refine wCond _ (by simp [h1, h3, h4, h5, h6, h7]; rfl) (fun hc => ?_) (fun hc => ?_) <;> simp [h1, h3, h4, h5, h6, h7] at hc) | (refine wRgn' fun K hk => ?_; simp [h1, h3, h4, h5, h6, h7]; refine hk.out _ ?_; clear hk K) | refine wRet' ?_ | refine wExit' ?_ | refine wSkip' ?_ | refine wBlock' ?_ | (refine wCond' _ (by simp [h1, h3, h4, h5, h6, h7]; rfl) (fun hc => ?_) (fun hc => ?_) <;> simp [h1, h3, h4, h5, h6, h7] at hc))) <;> exact (retV (rs := [ARes.tmp 4]) (v := opA (opN a b)) (by simp [opA, opN, shA, h1, h3, h4, h5, h6, h7]) ⟨rfl, rfl⟩)
  by_cases h8 : bits .and .i64 a 63 < 62
  · (repeat' (first | (refine wRgn fun K hk => ?_; simp [h1, h3, h4, h5, h6, h7, h8]; refine hk.out _ ?_; clear hk K) | refine wSeq ?_ | refine wSkip ?_ | refine wRet ?_ | refine wExit ?_ | refine wBlock ?_ | (refine wCond _ (by simp [h1, h3, h4, h5, h6, h7, h8]; rfl) (fun hc => ?_) (fun hc => ?_) <;> simp [h1, h3, h4, h5, h6, h7, h8] at hc) | (refine wRgn' fun K hk => ?_; simp [h1, h3, h4, h5, h6, h7, h8]; refine hk.out _ ?_; clear hk K) | refine wRet' ?_ | refine wExit' ?_ | refine wSkip' ?_ | refine wBlock' ?_ | (refine wCond' _ (by simp [h1, h3, h4, h5, h6, h7, h8]; rfl) (fun hc => ?_) (fun hc => ?_) <;> simp [h1, h3, h4, h5, h6, h7, h8] at hc))) <;> exact (retV (rs := [ARes.tmp 4]) (v := opA (opN a b)) (by simp [opA, opN, shA, h1, h3, h4, h5, h6, h7, h8]) ⟨rfl, rfl⟩)
  · (repeat' (first | (refine wRgn fun K hk => ?_; simp [h1, h3, h4, h5, h6, h7, h8]; refine hk.out _ ?_; clear hk K) | refine wSeq ?_ | refine wSkip ?_ | refine wRet ?_ | refine wExit ?_ | refine wBlock ?_ | (refine wCond _ (by simp [h1, h3, h4, h5, h6, h7, h8]; rfl) (fun hc => ?_) (fun hc => ?_) <;> simp [h1, h3, h4, h5, h6, h7, h8] at hc) | (refine wRgn' fun K hk => ?_; simp [h1, h3, h4, h5, h6, h7, h8]; refine hk.out _ ?_; clear hk K) | refine wRet' ?_ | refine wExit' ?_ | refine wSkip' ?_ | refine wBlock' ?_ | (refine wCond' _ (by simp [h1, h3, h4, h5, h6, h7, h8]; rfl) (fun hc => ?_) (fun hc => ?_) <;> simp [h1, h3, h4, h5, h6, h7, h8] at hc))) <;> exact (retV (rs := [ARes.tmp 4]) (v := opA (opN a b)) (by simp [opA, opN, shA, h1, h3, h4, h5, h6, h7, h8]) ⟨rfl, rfl⟩)
end Go.Proofs.Ytdbakmdcepkpmaa
