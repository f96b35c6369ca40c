/- ModlEdges. -/
import Derived.Test.YtdbakmdcepkpmaaEo
set_option linter.unusedSimpArgs false
set_option linter.unusedVariables false
namespace Go.Proofs.Ytdbakmdcepkpmaa
open Go.E3
theorem s10 {m : Model} (hm : Room m 100) (o : Op) : PureF Try.prog 10 [modA m, opA o] (.tup [modA (modDo m o).1, .int .i64 (modDo m o).2.err]) := by
  intro h n
  refine u10 (by simp) fun _ => ?_
  rw [b10, q10]
  refine wSeq ?_
  (refine wRgn fun K hk => ?_; simp [modA, opA, slA]; refine hk.out _ ?_; clear hk K)
  refine wSeq ?_
  (refine wRgn fun K hk => ?_; simp [])
  refine PureF.doCallX (s11 hm (by omega) o) rfl fun n1 hn1 => ?_
  simp [modA, resA, slA]
  (refine hk.out _ ?_; clear hk K)
  refine wSeq ?_
  (refine wRgn fun K hk => ?_; simp []; refine hk.out _ ?_; clear hk K)
  refine wSeq ?_
  (refine wRgn fun K hk => ?_; simp []; refine hk.out _ ?_; clear hk K)
  exact wRet (retV (v := .tup [modA (modDo m o).1, .int .i64 (modDo m o).2.err]) (by simp [modA, slA]) ⟨rfl, rfl⟩)
def nIter (t : Int) (i : Nat) : Iter := ⟨(i : Int) + 1, [⟨t, 1⟩]⟩
def sealedM (t : Int) (l : List Iter) (nx : Int) : Model := ⟨[⟨5, true, true, t, [⟨t, 1⟩]⟩], l, nx⟩
def openM (t : Int) (j : Nat) : Model := sealedM t ((List.range j).map (nIter t)) j
theorem edge_a (t : Int) : modDo M0 ⟨1, 5, 0, t, 1, 0, 0, 0⟩ = (⟨[⟨5, false, true, t, [⟨t, 1⟩]⟩], [], 0⟩, ⟨0, 0, []⟩) := by rfl
theorem edge_b (t : Int) : modDo ⟨[⟨5, false, true, t, [⟨t, 1⟩]⟩], [], 0⟩ ⟨3, 5, 0, 0, 0, 0, 0, 0⟩ = (openM t 0, ⟨0, 0, []⟩) := by rfl
theorem edge_c (t : Int) : modDo (openM t 0) ⟨1, 5, 0, 9223372036854775807, 0, 0, 0, 0⟩ = (openM t 0, ⟨2, 0, []⟩) := by rfl
theorem edge_d (t : Int) : modDo (openM t 0) ⟨3, 5, 0, 0, 0, 0, 0, 0⟩ = (openM t 0, ⟨2, 0, []⟩) := by rfl
theorem edge_r (t : Int) : modDo (openM t 0) ⟨2, 5, 0, 0, 0, t, t, 0⟩ = (openM t 0, ⟨0, 0, [⟨t, 1⟩]⟩) := by
  simp [modDo, bad, modStep, serDo, openM, sealedM, findS, within]
theorem edge_open (t : Int) (j : Nat) (f : Int) (to : Int) (l : List Iter) (nx : Int) : modDo (sealedM t l nx) ⟨5, 5, 0, 0, 0, f, to, 0⟩ = if 8 ≤ l.length then (sealedM t l nx, ⟨5, 0, []⟩) else (sealedM t (l ++ [⟨nx + 1, within [⟨t, 1⟩] f to⟩]) (nx + 1), ⟨0, nx + 1, []⟩) := by
  by_cases h : 8 ≤ l.length <;> simp [modDo, bad, modStep, serDo, sealedM, findS, h]
theorem edge_openM (t : Int) (j : Nat) (hj : j ≤ 8) : modDo (openM t j) ⟨5, 5, 0, 0, 0, t, t, 0⟩ = if j < 8 then (openM t (j + 1), ⟨0, (j + 1 : Nat), []⟩) else (openM t j, ⟨5, 0, []⟩) := by
  unfold openM
  rw [edge_open t j]
  by_cases h : j < 8
  · rw [if_pos h, if_neg (by simp; omega), List.range_succ, List.map_append]
    simp [nIter, within]
  · rw [if_neg h, if_pos (by simp; omega)]
theorem edge_find (t : Int) (c : Nat) : ∀ j, ((List.range j).map (nIter t)).findIdx? (fun x => decide (x.id = (c : Int) + 1)) = if c < j then some c else none
  | 0 => by simp
  | j + 1 => by
    rw [List.range_succ, List.map_append, List.findIdx?_append, edge_find t c j]
    by_cases h : c < j
    · rw [if_pos h, if_pos (by omega)]; rfl
    · rw [if_neg h]
      by_cases h2 : c = j
      · subst h2
        simp [nIter]
      · rw [if_neg (by omega)]
        simp [nIter]; omega
theorem edge_close (t : Int) (c j : Nat) : modDo (openM t j) ⟨7, 0, (c : Int) + 1, 0, 0, 0, 0, 0⟩ = if c < j then (sealedM t (((List.range j).map (nIter t)).eraseIdx c) j, ⟨0, 0, []⟩) else (openM t j, ⟨3, 0, []⟩) := by
  have hf := edge_find t c j
  by_cases h : c < j
  · rw [if_pos h] at hf ⊢
    simp [modDo, bad, modStep, itM, itDo, openM, sealedM, hf, h]
  · rw [if_neg h] at hf ⊢
    simp [modDo, bad, modStep, itM, itDo, openM, sealedM, hf]
theorem edge_del (t : Int) (l : List Iter) (nx : Int) : modDo (sealedM t l nx) ⟨4, 5, 0, 0, 0, 0, 0, 0⟩ = (⟨[], l, nx⟩, ⟨0, 0, []⟩) := by
  simp [modDo, bad, modStep, serDo, sealedM, findS]
theorem edge_new (l : List Iter) (nx : Int) : modDo ⟨[], l, nx⟩ ⟨1, 5, 0, -9223372036854775808, 0, 0, 0, 0⟩ = (⟨[⟨5, false, true, -9223372036854775808, [⟨-9223372036854775808, 0⟩]⟩], l, nx⟩, ⟨0, 0, []⟩) := by
  simp [modDo, bad, modStep, serDo, findS, made, addErr, addTo, newSer]
theorem room_sealed (t : Int) {l : List Iter} {nx : Int} (hl : l.length ≤ 100) (hr : ∀ x ∈ l, x.rest.length ≤ 100) (h0 : 0 ≤ nx) (h1 : nx ≤ 100) : Room (sealedM t l nx) 100 :=
  ⟨by simp [sealedM], hl, by simp [sealedM], hr, h0, h1⟩
theorem room_open (t : Int) {j : Nat} (hj : j ≤ 8) : Room (openM t j) 100 :=
  room_sealed t (by simp; omega) (fun x hx => by obtain ⟨i, _, rfl⟩ := List.mem_map.1 hx; simp [nIter]) (by omega) (by omega)
theorem edge_closed (t : Int) {c k : Nat} (hc : c < 8) : ∃ (l : List Iter) (e : Int), modDo (openM t (min k 8)) ⟨7, 0, (c : Int) + 1, 0, 0, 0, 0, 0⟩ = (sealedM t l (min k 8 : Nat), ⟨e, 0, []⟩) ∧ l.length < 8 ∧ (∀ x ∈ l, x.rest.length ≤ 1) ∧ (e = 0 ∧ c < k ∨ e = 3 ∧ k ≤ c) := by
  have hcl := edge_close t c (min k 8)
  have hm : ∀ x ∈ (List.range (min k 8)).map (nIter t), x.rest.length ≤ 1 := fun x hx => by obtain ⟨i, _, rfl⟩ := List.mem_map.1 hx; simp [nIter]
  by_cases h : c < k
  · rw [if_pos (by omega)] at hcl
    refine ⟨_, _, hcl, ?_, fun x hx => hm x (List.mem_of_mem_eraseIdx hx), Or.inl ⟨rfl, h⟩⟩
    rw [List.length_eraseIdx_of_lt (by simp; omega)]
    simp; omega
  · rw [if_neg (by omega)] at hcl
    exact ⟨_, _, hcl, by simp; omega, hm, Or.inr ⟨rfl, by omega⟩⟩
theorem and15 (n : Int) : bits .and .i64 n 15 = n % 16 := by
  have h15 : (BitVec.ofInt 64 15).toNat = 2 ^ 4 - 1 := by decide
  have key : (BitVec.ofInt 64 n &&& BitVec.ofInt 64 15).toNat = (n % ((2 ^ 64 : Nat) : Int)).toNat % 2 ^ 4 := by
    rw [BitVec.toNat_and, BitVec.toNat_ofInt, h15, Nat.and_two_pow_sub_one_eq_mod]
  show IntKind.i64.wrap ((BitVec.ofInt 64 n &&& BitVec.ofInt 64 15).toNat : Nat) = n % 16
  rw [key, IntKind.wrap_i64]
  omega
theorem and7 (n : Int) : bits .and .i64 n 7 = n % 8 := by
  have h7 : (BitVec.ofInt 64 7).toNat = 2 ^ 3 - 1 := by decide
  have key : (BitVec.ofInt 64 n &&& BitVec.ofInt 64 7).toNat = (n % ((2 ^ 64 : Nat) : Int)).toNat % 2 ^ 3 := by
    rw [BitVec.toNat_and, BitVec.toNat_ofInt, h7, Nat.and_two_pow_sub_one_eq_mod]
  show IntKind.i64.wrap ((BitVec.ofInt 64 n &&& BitVec.ofInt 64 7).toNat : Nat) = n % 8
  rw [key, IntKind.wrap_i64]
  omega
set_option maxRecDepth 100000 in
theorem s3 (t n0 k0 : Int) : PureF Try.prog 3 [.int .i64 t, .int .i64 n0, .int .i64 k0] (.bool true) := by
  obtain ⟨N, hN, hN2⟩ : ∃ N : Nat, n0 % 16 = N ∧ N < 16 := ⟨(n0 % 16).toNat, by omega, by omega⟩
  obtain ⟨c, hc7, hc8⟩ : ∃ c : Nat, k0 % 8 = c ∧ c < 8 := ⟨(k0 % 8).toNat, by omega, by omega⟩
  intro h n
  refine u3 (by simp) fun _ => ?_
  rw [b3, q3]
  refine wSeq ?_
  (refine wRgn fun K hk => ?_; simp []; refine hk.out _ ?_; clear hk K)
  refine wSeq ?_
  (refine wRgn fun K hk => ?_; simp []; refine hk.out _ ?_; clear hk K)
  refine wSeq ?_
  (refine wRgn fun K hk => ?_; simp [])
  refine PureF.doCallX (s10 (m := M0) room0 ⟨1, 5, 0, t, 1, 0, 0, 0⟩) rfl fun n1 hn1 => ?_
  simp [edge_a, modA, slA]
  (refine hk.out _ ?_; clear hk K)
  refine wSeq ?_
  (refine wRgn fun K hk => ?_; simp [])
  refine PureF.doCallX (s10 (m := ⟨[⟨5, false, true, t, [⟨t, 1⟩]⟩], [], 0⟩) ⟨by simp, by simp, by simp, by simp, by simp, by simp⟩ ⟨3, 5, 0, 0, 0, 0, 0, 0⟩) rfl fun n2 hn2 => ?_
  simp [edge_b, modA, slA, openM, sealedM]
  (refine hk.out _ ?_; clear hk K)
  refine wSeq ?_
  (refine wRgn fun K hk => ?_; simp [])
  refine PureF.doCallX (s10 (m := openM t 0) (room_open t (by omega)) ⟨1, 5, 0, 9223372036854775807, 0, 0, 0, 0⟩) rfl fun n3 hn3 => ?_
  simp [edge_c, modA, slA]
  (refine hk.out _ ?_; clear hk K)
  refine wSeq ?_
  (refine wRgn fun K hk => ?_; simp [])
  refine PureF.doCallX (s10 (m := openM t 0) (room_open t (by omega)) ⟨3, 5, 0, 0, 0, 0, 0, 0⟩) rfl fun n4 hn4 => ?_
  simp [edge_d, modA, slA]
  (refine hk.out _ ?_; clear hk K)
  refine wSeq ?_
  (refine wRgn fun K hk => ?_; simp [])
  refine PureF.doCallX (s11 (m := openM t 0) (room_open t (by omega)) (by omega) ⟨2, 5, 0, 0, 0, t, t, 0⟩) rfl fun n5 hn5 => ?_
  simp [edge_r, modA, resA, slA]
  (refine hk.out _ ?_; clear hk K)
  refine wSeq ?_
  refine wSeq ?_
  (refine wRgn fun K hk => ?_; simp []; refine hk.out _ ?_; clear hk K)
  (refine wCond _ (by simp []; rfl) (fun hc => ?_) (fun hc => ?_) <;> simp [] at hc)
  refine wSkip ?_
  refine wSeq ?_
  (refine wRgn fun K hk => ?_; simp [and15, hN]; refine hk.out _ ?_; clear hk K)
  refine wSeq ?_
  (refine wRgn fun K hk => ?_; simp []; refine hk.out _ ?_; clear hk K)
  refine wForA 1 (fun k s h' n' => s 0 = .int .i64 t ∧ s 1 = .int .i64 N ∧ s 2 = .int .i64 k0 ∧ s 7 = .fn 10 [] ∧ s 8 = modA (openM t (min k 8)) ∧ h' = h) (fun k => decide (k < N)) N (by omega) (fun k hk => by simpa using hk) (by simp) ?_ ?_ ?_ ?_
  · exact ⟨by simp, by simp [and15, hN], by simp, by simp, by simp [modA, openM, sealedM, slA], rfl⟩
  · rintro k s h' n' hk ⟨s0, s1, s2, s7, s8, rfl⟩ s17
    refine wRgn' fun K hk => ?_
    simp [s1, s17]
    refine hk.out _ ⟨by simp; omega, by simp [s17], by simp [s0], by simp [s1], by simp [s2], by simp [s7], by simp [s8], rfl⟩
  · rintro k s h' n' hC ⟨s0, s1, s2, s7, s8, rfl⟩ s17 K hNx hE hB hR
    have hk : k < N := by simpa using hC
    have hrm : Room (openM t (min k 8)) 100 := room_open t (by omega)
    have hop := edge_openM t (min k 8) (by omega)
    refine wBlock' ?_
    simp only [modA, slA] at s8
    (refine wRgn fun K hk => ?_; simp [s0, s7, s8])
    refine PureF.doCallX (s10 hrm ⟨5, 5, 0, 0, 0, t, t, 0⟩) rfl fun n6 hn6 => ?_
    rw [hop]
    by_cases h8 : k < 8
    · rw [Nat.min_eq_left (by omega), if_pos h8]
      simp [modA, slA]
      (refine hk.out _ ?_; clear hk K)
      refine wSeq ?_
      have h9 : (1 : Int) + (k : Int) ≤ 8 := by omega
      (refine wRgn fun K hk => ?_; simp [s17, h9]; refine hk.out _ ?_; clear hk K)
      (refine wCond _ (by simp []; rfl) (fun hc => ?_) (fun hc => ?_) <;> simp [] at hc)
      refine wSkip ?_
      (refine wRgn' fun K hk => ?_; simp [s8]; refine hk.out _ ?_; clear hk K)
      refine hNx.out _ _ _ (by simp [s17]) ⟨by simp [s0], by simp [s1], by simp [s2], by simp [s7], by simp [modA, slA, Nat.min_eq_left (show k + 1 ≤ 8 by omega)], rfl⟩
    · rw [Nat.min_eq_right (by omega), if_neg (by omega)]
      simp [modA, slA]
      (refine hk.out _ ?_; clear hk K)
      refine wSeq ?_
      have h9 : ¬ (1 : Int) + (k : Int) ≤ 8 := by omega
      (refine wRgn fun K hk => ?_; simp [s17, h9]; refine hk.out _ ?_; clear hk K)
      (refine wCond _ (by simp []; rfl) (fun hc => ?_) (fun hc => ?_) <;> simp [] at hc)
      refine wSkip ?_
      (refine wRgn' fun K hk => ?_; simp [s8]; refine hk.out _ ?_; clear hk K)
      refine hNx.out _ _ _ (by simp [s17]) ⟨by simp [s0], by simp [s1], by simp [s2], by simp [s7], by simp [modA, slA, Nat.min_eq_right (show 8 ≤ k + 1 by omega)], rfl⟩
  · rintro k s h' n' hC hall ⟨s0, s1, s2, s7, s8, rfl⟩ s17
    have hkN : k = N := by
      rcases Nat.lt_or_ge N k with h1 | h1
      · have := hall N h1; simp at this
      · have : N ≤ k := by simpa using hC
        omega
    subst hkN
    have hrm : Room (openM t (min k 8)) 100 := room_open t (by omega)
    obtain ⟨l, e, hcl, hl8, hlr, hce⟩ := edge_closed t (c := c) (k := k) hc8
    have hro : Room (sealedM t l (min k 8 : Nat)) 100 := room_sealed t (by omega) (fun x hx => by have := hlr x hx; omega) (by omega) (by omega)
    have hrc : Room (sealedM t (l ++ [⟨((min k 8 : Nat) : Int) + 1, within [⟨t, 1⟩] 0 0⟩]) ((min k 8 : Nat) + 1)) 100 := room_sealed t (by simp; omega) (fun x hx => by
      rcases List.mem_append.1 hx with h | h
      · have := hlr x h; omega
      · rw [List.mem_singleton.1 h]; exact Nat.le_trans (List.length_filter_le _ _) (by simp)) (by omega) (by omega)
    have hop := edge_open t 0 0 0 l (min k 8 : Nat)
    rw [if_neg (by omega)] at hop
    have hdl := edge_del t (l ++ [⟨((min k 8 : Nat) : Int) + 1, within [⟨t, 1⟩] 0 0⟩]) ((min k 8 : Nat) + 1)
    have hnw := edge_new (l ++ [⟨((min k 8 : Nat) : Int) + 1, within [⟨t, 1⟩] 0 0⟩]) ((min k 8 : Nat) + 1)
    have hrn : Room ⟨[], l ++ [⟨((min k 8 : Nat) : Int) + 1, within [⟨t, 1⟩] 0 0⟩], (min k 8 : Nat) + 1⟩ 100 := ⟨by simp, hrc.2, by simp, hrc.4, hrc.5, hrc.6⟩
    generalize hj : l ++ [⟨((min k 8 : Nat) : Int) + 1, within [⟨t, 1⟩] 0 0⟩] = l2 at *
    have hw : IntKind.i64.wrap ((c : Int) + 1) = (c : Int) + 1 := by rw [IntKind.wrap_i64]; omega
    have hwk : IntKind.i64.wrap ((k : Int) + 1) = (k : Int) + 1 := by rw [IntKind.wrap_i64]; omega
    simp only [modA, slA] at s8
    (refine wRgn fun K hk => ?_; simp [s0, s1, s2, s7, s8, and7, hc7, hw])
    refine PureF.doCallX (s10 hrm ⟨7, 0, (c : Int) + 1, 0, 0, 0, 0, 0⟩) rfl fun n6 hn6 => ?_
    rw [hcl]
    simp [modA, slA, s8]
    (refine hk.out _ ?_; clear hk K)
    have fm : foldA (fun x y => if y < x then y else x) [.int .i64 (k : Int), .int .i64 8] = some (.int .i64 (min k 8 : Nat)) := by
      simp [foldA]
      split <;> omega
    rcases hce with ⟨rfl, hck⟩ | ⟨rfl, hck⟩
    · have f1 : (c : Int) + 1 ≤ (min k 8 : Nat) := by omega
      repeat refine wSeq ?_
      (refine wRgn fun K hk => ?_; simp [s1, s2, and7, hc7, hw, f1, fm]; refine hk.out _ ?_; clear hk K)
      (refine wCond _ (by simp []; rfl) (fun hc => ?_) (fun hc => ?_) <;> simp [] at hc)
      refine wSkip ?_
      repeat refine wSeq ?_
      (refine wRgn fun K hk => ?_; simp [])
      refine PureF.doCallX (s11 hro (by omega) ⟨5, 5, 0, 0, 0, 0, 0, 0⟩) rfl fun n7 hn7 => ?_
      rw [hop]
      simp [modA, resA, slA]
      (refine hk.out _ ?_; clear hk K)
      repeat refine wSeq ?_
      have fk : (k : Int) < 8 ∨ (k : Int) = 8 ∨ ¬ (k : Int) ≤ 8 := by omega
      rcases fk with fk | fk | fk
      · have fk1 : (k : Int) ≤ 8 := by omega
        have fk2 : ¬ 8 ≤ (k : Int) := by omega
        have ff : ((min k 8 : Nat) : Int) = k := by omega
        rw [ff] at hrc hdl hrn hnw
        (refine wRgn fun K hk => ?_; simp [s1, fk, fk1, fk2, hwk, ff]; refine hk.out _ ?_; clear hk K)
        (refine wCond _ (by simp []; rfl) (fun hc => ?_) (fun hc => ?_) <;> simp [] at hc)
        refine wSkip ?_
        repeat refine wSeq ?_
        (refine wRgn fun K hk => ?_; simp [s7])
        refine PureF.doCallX (s10 hrc ⟨4, 5, 0, 0, 0, 0, 0, 0⟩) rfl fun n8 hn8 => ?_
        rw [hdl]
        simp [modA, slA]
        (refine hk.out _ ?_; clear hk K)
        repeat refine wSeq ?_
        (refine wRgn fun K hk => ?_; simp [s7])
        refine PureF.doCallX (s10 hrn ⟨1, 5, 0, -9223372036854775808, 0, 0, 0, 0⟩) rfl fun n9 hn9 => ?_
        rw [hnw]
        simp [modA, slA]
        (refine hk.out _ ?_; clear hk K)
        repeat refine wSeq ?_
        refine wRgn fun K hk => ?_
        simp [serA, slA]
        refine PureF.doCallX s12 rfl fun n10 hn10 => ?_
        simp
        (refine hk.out _ ?_; clear hk K)
        refine wRet' (retV (v := .bool true) (by simp) ⟨rfl, rfl⟩)
      · have fk1 : (k : Int) ≤ 8 := by omega
        have fk2 : ¬ (k : Int) < 8 := by omega
        have ff : ((min k 8 : Nat) : Int) = 8 := by omega
        rw [ff, show (8 : Int) + 1 = 9 from rfl] at hrc hdl hrn hnw
        (refine wRgn fun K hk => ?_; simp [s1, fk, fk1, fk2, hwk, ff]; refine hk.out _ ?_; clear hk K)
        (refine wCond _ (by simp []; rfl) (fun hc => ?_) (fun hc => ?_) <;> simp [] at hc)
        refine wSkip ?_
        repeat refine wSeq ?_
        (refine wRgn fun K hk => ?_; simp [s7])
        refine PureF.doCallX (s10 hrc ⟨4, 5, 0, 0, 0, 0, 0, 0⟩) rfl fun n8 hn8 => ?_
        rw [hdl]
        simp [modA, slA]
        (refine hk.out _ ?_; clear hk K)
        repeat refine wSeq ?_
        (refine wRgn fun K hk => ?_; simp [s7])
        refine PureF.doCallX (s10 hrn ⟨1, 5, 0, -9223372036854775808, 0, 0, 0, 0⟩) rfl fun n9 hn9 => ?_
        rw [hnw]
        simp [modA, slA]
        (refine hk.out _ ?_; clear hk K)
        repeat refine wSeq ?_
        refine wRgn fun K hk => ?_
        simp [serA, slA]
        refine PureF.doCallX s12 rfl fun n10 hn10 => ?_
        simp
        (refine hk.out _ ?_; clear hk K)
        refine wRet' (retV (v := .bool true) (by simp) ⟨rfl, rfl⟩)
      · have fk1 : 8 ≤ (k : Int) := by omega
        have fk2 : ¬ (k : Int) < 8 := by omega
        have ff : ((min k 8 : Nat) : Int) = 8 := by omega
        rw [ff, show (8 : Int) + 1 = 9 from rfl] at hrc hdl hrn hnw
        (refine wRgn fun K hk => ?_; simp [s1, fk, fk1, fk2, hwk, ff]; refine hk.out _ ?_; clear hk K)
        (refine wCond _ (by simp []; rfl) (fun hc => ?_) (fun hc => ?_) <;> simp [] at hc)
        refine wSkip ?_
        repeat refine wSeq ?_
        (refine wRgn fun K hk => ?_; simp [s7])
        refine PureF.doCallX (s10 hrc ⟨4, 5, 0, 0, 0, 0, 0, 0⟩) rfl fun n8 hn8 => ?_
        rw [hdl]
        simp [modA, slA]
        (refine hk.out _ ?_; clear hk K)
        repeat refine wSeq ?_
        (refine wRgn fun K hk => ?_; simp [s7])
        refine PureF.doCallX (s10 hrn ⟨1, 5, 0, -9223372036854775808, 0, 0, 0, 0⟩) rfl fun n9 hn9 => ?_
        rw [hnw]
        simp [modA, slA]
        (refine hk.out _ ?_; clear hk K)
        repeat refine wSeq ?_
        refine wRgn fun K hk => ?_
        simp [serA, slA]
        refine PureF.doCallX s12 rfl fun n10 hn10 => ?_
        simp
        (refine hk.out _ ?_; clear hk K)
        refine wRet' (retV (v := .bool true) (by simp) ⟨rfl, rfl⟩)
    · have f1 : ¬ (c : Int) + 1 ≤ (min k 8 : Nat) := by omega
      repeat refine wSeq ?_
      (refine wRgn fun K hk => ?_; simp [s1, s2, and7, hc7, hw, f1, fm]; refine hk.out _ ?_; clear hk K)
      (refine wCond _ (by simp []; rfl) (fun hc => ?_) (fun hc => ?_) <;> simp [] at hc)
      refine wSkip ?_
      repeat refine wSeq ?_
      (refine wRgn fun K hk => ?_; simp [])
      refine PureF.doCallX (s11 hro (by omega) ⟨5, 5, 0, 0, 0, 0, 0, 0⟩) rfl fun n7 hn7 => ?_
      rw [hop]
      simp [modA, resA, slA]
      (refine hk.out _ ?_; clear hk K)
      repeat refine wSeq ?_
      have fk : (k : Int) < 8 := by omega
      · have fk1 : (k : Int) ≤ 8 := by omega
        have fk2 : ¬ 8 ≤ (k : Int) := by omega
        have ff : ((min k 8 : Nat) : Int) = k := by omega
        rw [ff] at hrc hdl hrn hnw
        (refine wRgn fun K hk => ?_; simp [s1, fk, fk1, fk2, hwk, ff]; refine hk.out _ ?_; clear hk K)
        (refine wCond _ (by simp []; rfl) (fun hc => ?_) (fun hc => ?_) <;> simp [] at hc)
        refine wSkip ?_
        repeat refine wSeq ?_
        (refine wRgn fun K hk => ?_; simp [s7])
        refine PureF.doCallX (s10 hrc ⟨4, 5, 0, 0, 0, 0, 0, 0⟩) rfl fun n8 hn8 => ?_
        rw [hdl]
        simp [modA, slA]
        (refine hk.out _ ?_; clear hk K)
        repeat refine wSeq ?_
        (refine wRgn fun K hk => ?_; simp [s7])
        refine PureF.doCallX (s10 hrn ⟨1, 5, 0, -9223372036854775808, 0, 0, 0, 0⟩) rfl fun n9 hn9 => ?_
        rw [hnw]
        simp [modA, slA]
        (refine hk.out _ ?_; clear hk K)
        repeat refine wSeq ?_
        refine wRgn fun K hk => ?_
        simp [serA, slA]
        refine PureF.doCallX s12 rfl fun n10 hn10 => ?_
        simp
        (refine hk.out _ ?_; clear hk K)
        refine wRet' (retV (v := .bool true) (by simp) ⟨rfl, rfl⟩)
end Go.Proofs.Ytdbakmdcepkpmaa
