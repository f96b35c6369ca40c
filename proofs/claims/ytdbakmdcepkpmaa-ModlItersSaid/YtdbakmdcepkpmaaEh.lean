/- The generic functions on the model's slices. -/
import Derived.Test.YtdbakmdcepkpmaaEg
set_option linter.unusedSimpArgs false
set_option linter.unusedVariables false
namespace Go.Proofs.Ytdbakmdcepkpmaa
open Go.E3
theorem s50 {k : Int} {rest : List AV} {oid e : Nat} {o : Op} {h : Hp} (hp : h oid = some (.arr e 8 [opA o])) (hr : rest.length = 1) (hf : (AV.agg (.int .i64 k :: rest)).cells.all AV.flat = true) (n : Nat) :
    CallsA Try.prog 50 [.agg (.int .i64 k :: rest), .ptr oid 8 0 0] h n fun r h' _ => r = .bool (decide (k = o.iter)) ∧ h' = h := by
  refine CallsA.wf fun hwf => ?_
  refine CallsA.pure 1 (e50 (by simp) ?_)
  have hlt := hwf oid (by simp [hp])
  have hne : ¬ oid = n := by omega
  simp at hf
  rw [a50, r50]
  refine wRgn fun K hk => ?_
  simp [hf]
  refine ⟨hf, hk.out _ ?_⟩
  clear hk K
  refine wRgn fun K hk => ?_
  simp [hr, hne, hp, opA]
  refine hk.out _ (wRet' ?_)
  simp
  rw [Bool.eq_iff_iff]; simp
theorem s49 {o : Op} {v : AV} {xs : List AV} {oid e : Nat} {h : Hp} (hp : h oid = some (.arr e 8 [opA o])) (he : elems h v 2 = some xs) (hk : Keyed 1 xs) (hf : ∀ x ∈ xs, x.cells.all AV.flat = true) (hl : xs.length < 2 ^ 40) (n : Nat) :
    CallsA Try.prog 49 [v, .fn 50 [.ptr oid 8 0 0]] h n fun r h' _ => r = .int .i64 (idxOf (fun x => decide (keyA x = o.iter)) xs) ∧ h' = h := by
  refine e49 (by simp) (indexFunc_wp (sz := 2) (p := fun x => decide (keyA x = o.iter)) he hl ?_ ?_ ?_)
  · intro x hx
    obtain ⟨k, rest, rfl, hr⟩ := hk x hx
    exact ⟨_, rfl, by simp [hr]⟩
  · intro x hx n' _
    have hfx := hf x hx
    obtain ⟨k, rest, rfl, hr⟩ := hk x hx
    exact s50 hp hr hfx n'
  · intro n' _; exact ⟨rfl, rfl⟩
/-- What a slice's turning says. -/
def TurnSl (h : Hp) (n lo : Nat) (e sz : Nat) (v : AV) (ys : List AV) (r : AV) (h' : Hp) (n' : Nat) : Prop :=
  MutSl h' lo n' e sz r ys ∧ (∀ j, j < n → j ∉ v.ids → h' j = h j) ∧ (∀ j ∈ r.ids, n ≤ j ∨ j ∈ v.ids)
theorem s51 {h : Hp} {lo n i : Nat} {v : AV} {xs : List AV} (o : MutSl h lo n 46 2 v xs) (hi : i < xs.length) :
    CallsA Try.prog 51 [v, .int .i64 i, .int .i64 (i + 1 : Nat)] h n fun r h' n' => TurnSl h n lo 46 2 v (xs.eraseIdx i) r h' n' :=
  e51 (by simp) (delete_mut (z := [.int .i64 0, .isl (some true) true []]) o rfl (by omega) (by omega) fun r h' n' q1 q2 q3 q4 => ⟨by rw [List.eraseIdx_eq_take_drop_succ]; exact q2.mono (fun _ _ => rfl) q1, fun j _ hj => q3 j hj, fun j hj => .inr (q4 j hj)⟩)
theorem s55 {h : Hp} {lo n i : Nat} {v : AV} {xs : List AV} (o : MutSl h lo n 38 5 v xs) (hi : i < xs.length) :
    CallsA Try.prog 55 [v, .int .i64 i, .int .i64 (i + 1 : Nat)] h n fun r h' n' => TurnSl h n lo 38 5 v (xs.eraseIdx i) r h' n' :=
  e55 (by simp) (delete_mut (z := [.int .i64 0, .bool false, .bool false, .int .i64 0, .isl (some true) true []]) o rfl (by omega) (by omega) fun r h' n' q1 q2 q3 q4 => ⟨by rw [List.eraseIdx_eq_take_drop_succ]; exact q2.mono (fun _ _ => rfl) q1, fun j _ hj => q3 j hj, fun j hj => .inr (q4 j hj)⟩)
theorem s60 {ida sa oa la ca idb sb ob lb cb : Nat} {exa exb : Bool} {h : Hp} {n : Nat} {oba obb : AObj} (ha : h ida = some oba) (hb : h idb = some obb) (hne : ida ≠ idb) :
    CallsA Try.prog 60 [.sl ida sa oa la ca exa, .sl idb sb ob lb cb exb] h n fun r h' _ => r = .bool false ∧ h' = h :=
  by
  have q1 : Try.prog.funcs[60]? = some Try.f60 := by kernel_rfl
  have q2 : (Try.f60.name == "runtime.NumGoroutine") = false := by kernel_rfl
  have q3 : Try.f60.body.isNone = true := by kernel_rfl
  have q4 : Extern.findNext Try.f60 = none := by kernel_rfl
  have q5 : Extern.find Try.f60 = some (Extern.SlicesOverlaps.overlaps #[22, 22] #[4]) := by kernel_rfl
  have q6 : Try.prog.underlying 22 = some (.slice 38) := by kernel_rfl
  have q7 : sizeT Try.prog 38 = some 5 := by kernel_rfl
  exact @overlaps_calls Try.prog 60 Try.f60 #[22, 22] #[4] 22 38 5 q1 q2 q3 q4 q5 rfl q6 q7 ida sa oa la ca idb sb ob lb cb exa exb h n oba obb ha hb hne
theorem s58 {h : Hp} {lo n i idx cx : Nat} {exx : Bool} {y : AV} {v : AV} {xs : List AV} {obx : AObj} (o : ExSl h lo n 38 5 v xs) (hox : h idx = some obx) (hx : elems h (.sl idx 5 0 1 cx exx) 5 = some [y]) (hidx : idx < n) (hne : idx ∉ v.ids) (hlo : lo ≤ n) (hi : i ≤ xs.length) (hl : xs.length < 2 ^ 40) :
    CallsA Try.prog 58 [v, .int .i64 i, .sl idx 5 0 1 cx exx] h n fun r h' n' => TurnSl h n lo 38 5 v (xs.take i ++ y :: xs.drop i) r h' n' := by
  refine e58 (by simp) (insert_any (bytes := 48) (ze := zeSer) (fo := 60) (fr := 61) o hx hidx hne hlo hi (by omega) (by omega) ?_ fun r h' n' q1 q2 q3 q4 => ⟨q2, q3, q4⟩)
  intro id cap n' hv hn'
  subst hv
  rcases o with ⟨h1, _⟩ | ⟨id', tail, h1, h2, _, _⟩
  · cases h1
  · have hne' : idx ≠ id := by simpa using hne
    have h1' : id = id' := by injection h1
    subst h1'
    exact @s60 _ _ _ _ _ _ _ _ _ _ _ _ h n' _ _ hox h2 hne'
end Go.Proofs.Ytdbakmdcepkpmaa
