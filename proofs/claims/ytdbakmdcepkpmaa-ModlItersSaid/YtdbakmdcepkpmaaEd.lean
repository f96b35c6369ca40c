/- Where a series stands. -/
import Derived.Test.YtdbakmdcepkpmaaEa
import Derived.Test.YtdbakmdcepkpmaaLyb
set_option linter.unusedSimpArgs false
set_option linter.unusedVariables false
namespace Go.Proofs.Ytdbakmdcepkpmaa
open Go.E3
/-- The number with which a row's cells begin. -/
def keyA : AV → Int
  | .agg (.int _ k :: _) => k
  | _ => 0
/-- Rows of a series' form, of an iterator's form. -/
def Keyed (m : Nat) (xs : List AV) : Prop := ∀ x ∈ xs, ∃ k rest, x = .agg (.int .i64 k :: rest) ∧ rest.length = m
theorem s57 {k id : Int} {rest : List AV} {idp e : Nat} {h : Hp} (hp : h idp = some (.arr e 1 [.int .i64 id])) (hr : rest.length = 4) (hf : (AV.agg (.int .i64 k :: rest)).cells.all AV.flat = true) (n : Nat) :
    CallsA Try.prog 57 [.agg (.int .i64 k :: rest), .ptr idp 1 0 0] h n fun r h' _ => r = .bool (decide (k ≥ id)) ∧ h' = h := by
  refine CallsA.wf fun hwf => ?_
  refine CallsA.pure 1 (e57 (by simp) ?_)
  have hlt := hwf idp (by simp [hp])
  have hne : ¬ idp = n := by omega
  simp at hf
  rw [a57, r57]
  refine wRgn fun K hk => ?_
  simp [hf]
  refine ⟨hf, hk.out _ ?_⟩
  clear hk K
  refine wRgn fun K hk => ?_
  simp [hr, hne, hp]
  refine hk.out _ (wRet' ?_)
  simp
theorem s56 {id : Int} {v : AV} {xs : List AV} {idp e : Nat} {h : Hp} (hp : h idp = some (.arr e 1 [.int .i64 id])) (he : elems h v 5 = some xs) (hk : Keyed 4 xs) (hf : ∀ x ∈ xs, x.cells.all AV.flat = true) (hl : xs.length < 2 ^ 40) (n : Nat) :
    CallsA Try.prog 56 [v, .fn 57 [.ptr idp 1 0 0]] h n fun r h' _ => r = .int .i64 (idxOf (fun x => decide (keyA x ≥ id)) xs) ∧ h' = h := by
  refine e56 (by simp) (indexFunc_wp (sz := 5) (p := fun x => decide (keyA x ≥ id)) he hl ?_ ?_ ?_)
  · intro x hx
    obtain ⟨k, rest, rfl, hr⟩ := hk x hx
    exact ⟨_, rfl, by simp [hr]⟩
  · intro x hx n' _
    have hfx := hf x hx
    obtain ⟨k, rest, rfl, hr⟩ := hk x hx
    exact s57 hp hr hfx n'
  · intro n' _; exact ⟨rfl, rfl⟩
def findA (xs : List AV) (id : Int) : Int × Bool :=
  match xs.findIdx? (fun x => decide (keyA x ≥ id)) with
  | some i => (i, keyA (xs.getD i .undef) == id)
  | none => (xs.length, false)
set_option maxHeartbeats 1000000 in
theorem s52 {id : Int} {v : AV} {xs : List AV} {h : Hp} (he : elems h v 5 = some xs) (hk : Keyed 4 xs) (hf : ∀ x ∈ xs, x.cells.all AV.flat = true) (hl : xs.length < 2 ^ 40) (n : Nat) :
    CallsA Try.prog 52 [v, .int .i64 id] h n fun r h' _ => r = .tup [.int .i64 (findA xs id).1, .bool (findA xs id).2] ∧ h' = h := by
  refine CallsA.wf fun hwf => ?_
  refine CallsA.pure 2 (e52 (by simp) ?_)
  have hlen := elems_len he
  rw [a52, r52]
  (refine wRgn fun K hk => ?_; simp []; refine hk.out _ ?_; clear hk K)
  refine wRgn fun K hk2 => ?_
  simp
  have hkp : Keeps h n (upd h n (some (.arr 3 1 [.int .i64 id]))) := (Keeps.refl _ _).upd (Nat.le_refl _) _
  have he2 := elems_keeps hwf hkp he
  refine doCall_keep ((s56 (upd_same h n _) he2 hk hf hl _).more.mono ?_)
  rintro r h' n' ⟨⟨rfl, rfl⟩, hn', -⟩
  refine ⟨fun _ _ => rfl, fun _ q => .inl q, ?_⟩
  simp at hn'
  simp
  refine hk2.out _ ?_
  clear hk2 K
  refine wSeq ?_
  (refine wRgn fun K hk => ?_; simp []; refine hk.out _ ?_; clear hk K)
  cases hfi : xs.findIdx? (fun x => decide (keyA x ≥ id)) with
  | none =>
    refine wCond true (by simp [idxOf, hfi]) (fun _ => ?_) (fun hc => by cases hc)
    refine wSeq ?_
    (refine wRgn fun K hk => ?_; simp [hlen]; refine hk.out _ ?_; clear hk K)
    refine wRet ?_
    simp [findA, hfi]
  | some i =>
    refine wCond false (by simp [idxOf, hfi]) (fun hc => by cases hc) (fun _ => wSkip ?_)
    have hi : i < xs.length := (List.findIdx?_eq_some_iff_getElem.1 hfi).1
    obtain ⟨k, rest, hx, hr⟩ := hk xs[i] (List.getElem_mem hi)
    obtain ⟨p, hp1, _, hp3, _⟩ := ia_elem (k := .i64) he2 (i := i) (x := xs[i]) (List.getElem?_eq_getElem hi) (by rw [hx]; simp [hr])
    obtain ⟨p', hp4, hp5⟩ := hp3 0 (by omega)
    have hp6 := hp5 1 false
    rw [hx] at hp6
    simp [hr] at hp6
    have hii : idxOf (fun x => decide (keyA x ≥ id)) xs = (i : Int) := by simp [idxOf, hfi]
    refine wRgn fun K hk2 => ?_
    simp [hii, hp1, hp4, hp6]
    refine hk2.out _ (wRet' ?_)
    have hfa : findA xs id = ((i : Int), k == id) := by
      have : xs.getD i .undef = xs[i] := by simp [hi]
      simp only [findA, hfi, this, hx]
      rfl
    simp [hfa]
end Go.Proofs.Ytdbakmdcepkpmaa
