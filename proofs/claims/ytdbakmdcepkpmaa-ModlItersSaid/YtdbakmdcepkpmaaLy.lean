/- Slices of one's own; functions of package slices, by their code's form. -/
import Derived.Test.YtdbakmdcepkpmaaLx
set_option linter.unusedSimpArgs false
set_option linter.unusedVariables false
namespace Go.E3
/-- A slice whose array was made here, and is known whole. -/
def OwnSl (h : Hp) (n0 n : Nat) (e : TypeId) (sz : Nat) (v : AV) (xs : List AV) : Prop :=
  (v = .isl (some true) true [] ∧ xs = []) ∨ ∃ id ex, v = .sl id sz 0 xs.length xs.length ex ∧ h id = some (.arr e sz xs) ∧ n0 ≤ id ∧ id < n
theorem OwnSl.nil (h : Hp) (n0 n : Nat) (e : TypeId) (sz : Nat) : OwnSl h n0 n e sz (.isl (some true) true []) [] := .inl ⟨rfl, rfl⟩
theorem OwnSl.elems {h : Hp} {n0 n : Nat} {e : TypeId} {sz : Nat} {v : AV} {xs : List AV} (o : OwnSl h n0 n e sz v xs) : elems h v sz = some xs := by
  rcases o with ⟨rfl, rfl⟩ | ⟨id, ex, rfl, hid, _, _⟩
  · rfl
  · simp [hid]
theorem OwnSl.len {h : Hp} {n0 n : Nat} {e : TypeId} {sz : Nat} {v : AV} {xs : List AV} (o : OwnSl h n0 n e sz v xs) : lenA v = some (.int .i64 xs.length) := by
  rcases o with ⟨rfl, rfl⟩ | ⟨id, ex, rfl, hid, _, _⟩ <;> rfl
theorem OwnSl.ids {h : Hp} {n0 n : Nat} {e : TypeId} {sz : Nat} {v : AV} {xs : List AV} (o : OwnSl h n0 n e sz v xs) : ∀ id ∈ v.ids, n0 ≤ id ∧ id < n := by
  rcases o with ⟨rfl, rfl⟩ | ⟨id, ex, rfl, hid, h1, h2⟩
  · simp
  · simp; exact ⟨h1, h2⟩
theorem OwnSl.mono {h h' : Hp} {n0 n n1 : Nat} {e : TypeId} {sz : Nat} {v : AV} {xs : List AV} (o : OwnSl h n0 n e sz v xs) (hh : ∀ id ∈ v.ids, h' id = h id) (hn : n ≤ n1) : OwnSl h' n0 n1 e sz v xs := by
  rcases o with ⟨rfl, rfl⟩ | ⟨id, ex, rfl, hid, h1, h2⟩
  · exact .inl ⟨rfl, rfl⟩
  · exact .inr ⟨id, ex, rfl, by rw [hh id (by simp)]; exact hid, h1, by omega⟩
theorem elems_same {h h' : Hp} {v : AV} {sz : Nat} (hh : ∀ id ∈ v.ids, h' id = h id) : elems h' v sz = elems h v sz := by
  unfold elems
  cases v <;> try rfl
  rename_i id sz' off len cap ex
  simp only
  rw [hh id (by simp)]
theorem elems_lt {h : Hp} {n : Nat} {v : AV} {sz : Nat} {xs : List AV} (hwf : ∀ id, h id ≠ none → id < n) (he : elems h v sz = some xs) : ∀ id ∈ v.ids, id < n := by
  intro id hid
  cases v <;> simp at hid <;> subst hid <;> simp only [Go.E3.elems, reduceCtorEq] at he
  refine hwf _ fun q => ?_
  rw [q] at he; cases he
theorem elems_keeps {h h' : Hp} {n : Nat} {v : AV} {sz : Nat} {xs : List AV} (hwf : ∀ id, h id ≠ none → id < n) (k : Keeps h n h') (he : elems h v sz = some xs) : elems h' v sz = some xs := by
  rw [elems_same fun id hid => k.old id (elems_lt hwf he id hid)]; exact he
theorem elems_len {h : Hp} {v : AV} {sz : Nat} {xs : List AV} (he : elems h v sz = some xs) : lenA v = some (.int .i64 xs.length) := by
  cases v <;> simp only [Go.E3.elems, reduceCtorEq] at he
  · split at he
    · rename_i e sz2 els hid
      split at he
      · rename_i hc
        injection he with he; subst he
        simp; omega
      · cases he
    · cases he
  · split at he
    · injection he with he; subst he; rfl
    · cases he
theorem elems_sz {h : Hp} {v : AV} {sz : Nat} {nl : Option Bool} {ex : Bool} {xs ys : List AV} (hv : v = .isl nl ex xs) (he : elems h v sz = some ys) : ys = xs ∧ xs.all (fun x => x.cells.length == sz) = true := by
  subst hv
  simp only [Go.E3.elems] at he
  split at he
  · rename_i q; injection he with he; exact ⟨he.symm, q⟩
  · cases he
/-- An append to a slice of one's own. -/
theorem app_own {h : Hp} {n0 n nw : Nat} {e : TypeId} {sz bytes : Nat} {v x : AV} {xs ys : List AV} (o : OwnSl h n0 n e sz v xs) (hx : elems h x sz = some ys) (hnw : n ≤ nw) (hn0 : n0 ≤ nw) (hb : (xs.length + ys.length) * bytes ≤ 140737488355328) (h63 : xs.length + ys.length ≤ 9223372036854775807) :
    ∃ v' h', appE h nw e sz bytes v x = some (v', h') ∧ OwnSl h' n0 (nw + 1) e sz v' (xs ++ ys) ∧ Keeps h n0 h' ∧ (∀ j, j ≠ nw → j ∉ v.ids → h' j = h j) ∧ ∀ j ∈ v'.ids, j = nw ∨ j ∈ v.ids := by
  unfold appE
  rw [hx]
  simp only
  rcases o with ⟨rfl, rfl⟩ | ⟨id, ex, rfl, hid, h1, h2⟩
  · by_cases hys : ys = []
    · subst hys
      exact ⟨_, _, by simp, .inl ⟨rfl, rfl⟩, Keeps.refl _ _, fun j _ _ => rfl, fun j hj => .inr hj⟩
    · refine ⟨.sl nw sz 0 ys.length ys.length false, upd h nw (some (.arr e sz ys)), ?_, .inr ⟨nw, false, by simp, by simp, hn0, by omega⟩, (Keeps.refl _ _).upd hn0 _, fun j hj _ => upd_ne _ _ hj, fun j hj => ?_⟩
      · simp at hb h63
        simp [hys, hb, h63]
      · simp at hj; exact .inl hj
  · by_cases hys : ys = []
    · subst hys
      exact ⟨_, _, by simp [hid], .inr ⟨id, ex, by simp, by simpa using hid, h1, by omega⟩, Keeps.refl _ _, fun j _ _ => rfl, fun j hj => .inr hj⟩
    · have hlen : ¬ xs.length + ys.length ≤ xs.length := by have := List.length_pos_iff.2 hys; omega
      refine ⟨.sl nw sz 0 (xs.length + ys.length) (xs.length + ys.length) false, upd (if ex then h else upd h id none) nw (some (.arr e sz (xs ++ ys))), ?_, .inr ⟨nw, false, by simp, by simp, hn0, by omega⟩, ⟨fun j hj => ?_⟩, fun j hj hji => ?_, fun j hj => ?_⟩
      · simp only [hid, and_self, if_true, hys, if_false, hlen, Nat.zero_add, Nat.le_refl, hb, h63, List.drop_zero, List.take_length]
      · rw [upd_ne _ _ (by omega)]
        split
        · rfl
        · exact upd_ne _ _ (by omega)
      · rw [upd_ne _ _ hj]
        simp at hji
        split
        · rfl
        · exact upd_ne _ _ hji
      · simp at hj; exact .inl hj
theorem app_step {h : Hp} {n0 n nw : Nat} {e : TypeId} {sz bytes : Nat} {v x : AV} {xs ys : List AV} {K : AV × Hp → Prop} (o : OwnSl h n0 n e sz v xs) (hx : elems h x sz = some ys) (hnw : n ≤ nw) (hn0 : n0 ≤ nw) (hb : (xs.length + ys.length) * bytes ≤ 140737488355328) (h63 : xs.length + ys.length ≤ 9223372036854775807)
    (hk : ∀ v' h', OwnSl h' n0 (nw + 1) e sz v' (xs ++ ys) → Keeps h n0 h' → (∀ j, j ≠ nw → j ∉ v.ids → h' j = h j) → (∀ j ∈ v'.ids, j = nw ∨ j ∈ v.ids) → K (v', h')) : bindO (appE h nw e sz bytes v x) K := by
  obtain ⟨v', h', q1, q2, q3, q4, q5⟩ := app_own (bytes := bytes) o hx hnw hn0 hb h63
  rw [q1]; exact hk v' h' q2 q3 q4 q5
theorem wrap_i64 {i : Int} (h1 : -9223372036854775808 ≤ i) (h2 : i ≤ 9223372036854775807) : IntKind.i64.wrap i = i := by
  unfold IntKind.wrap
  simp [IntKind.signed, IntKind.bits]
  omega
/-! ### Elements -/
theorem seg_drop {cs : List AV} {off size : Nat} {ag : Bool} (ho : off ≤ cs.length) : seg (cs.drop off) 0 size ag = seg cs off size ag := by
  unfold seg
  simp only [List.length_drop, List.drop_zero, Nat.zero_add]
  by_cases hc : off + size ≤ cs.length
  · rw [if_pos (by omega), if_pos hc]
    split
    · rfl
    · split
      · simp
      · rfl
  · rw [if_neg (by omega), if_neg hc]
/-- The address of an element, and what is read there. -/
theorem ia_elem {h : Hp} {v : AV} {sz i : Nat} {xs : List AV} {x : AV} {k : IntKind} (he : elems h v sz = some xs) (hx : xs[i]? = some x) (hxs : x.cells.length = sz) :
    ∃ p, iaA sz v (.int k i) = some p ∧ (∀ size ag, ldE h p size ag = seg x.cells 0 size ag) ∧ (∀ off, off ≤ sz → ∃ p', faA off p = some p' ∧ ∀ size ag, ldE h p' size ag = seg x.cells off size ag) ∧ ∀ id ∈ p.ids, id ∈ v.ids := by
  cases v <;> simp only [elems, reduceCtorEq] at he
  · rename_i id sz' off len cap ex
    split at he
    · rename_i e sz2 els hid
      split at he
      · rename_i hc
        obtain ⟨rfl, rfl, hle⟩ := hc
        injection he with he; subst he
        have hi : i < len := by have := (List.getElem?_eq_some_iff.1 hx).1; simp at this; omega
        have hx' : els[off + i]? = some x := by
          rw [List.getElem?_take] at hx
          rw [if_pos hi, List.getElem?_drop] at hx; exact hx
        refine ⟨.ptr id sz (off + i) 0, by simp; omega, fun size ag => by simp [hid, hx'], fun o ho => ⟨.ptr id sz (off + i) o, by simp, fun size ag => by simp [hid, hx']⟩, by simp⟩
      · cases he
    · cases he
  · rename_i nl ex ys
    split at he
    · injection he with he; subst he
      refine ⟨.iptr x.cells, by simp [hx, hxs], fun size ag => by simp, fun o ho => ⟨.iptr (x.cells.drop o), by simp, fun size ag => ?_⟩, by simp⟩
      rw [ld_iptr]; exact seg_drop (by omega)
    · cases he
/-! ### slices.Clone -/
def cloneCode (e : TypeId) (sz bytes : Nat) : ACode :=
  (.seq
   (.rgn 1 [
    ⟨(some 2), none, (.mov (.c (.isl (some true) true []))), 0, [], [], [], []⟩])
  (.seq
   (.seq
    (.rgn 2 [
     ⟨(some 3), none, (.mov (.t 0)), 0, [], [], [], []⟩,
     ⟨(some 4), none, (.isn 1 false (.t 3)), 1, [], [], [], []⟩])
   (.cond (.t 4)
     (.seq
      (.rgn 1 [
       ⟨(some 2), none, (.mov (.c (.isl (some true) true []))), 0, [], [], [], []⟩])
     .ret)
     .skip))
  (.seq
   (.rgn 4 [
    ⟨(some 5), none, (.bsl e sz 0 [] []), 0, [], [], [], []⟩,
    ⟨(some 6), none, (.mov (.t 0)), 1, [], [], [], []⟩,
    ⟨(some 7), none, (.app e sz bytes (.t 5) (.t 6)), 2, [], [], [], []⟩,
    ⟨(some 2), none, (.mov (.t 7)), 3, [], [], [], []⟩])
  .ret)))
theorem clone_wp {P : Program} {e : TypeId} {sz bytes : Nat} {v : AV} {xs : List AV} {b : Bool} {h : Hp} {n : Nat} {K : AV → Hp → Nat → Prop} (hwf : ∀ id, h id ≠ none → id < n) (he : elems h v sz = some xs) (hb : isNilA 1 v = some b) (hbx : b = true → xs = [])
    (hbb : xs.length * bytes ≤ 140737488355328) (h63 : xs.length ≤ 9223372036854775807) (hK : ∀ r h' n', n ≤ n' → Keeps h n h' → OwnSl h' n n' e sz r xs → K r h' n') : wpA P (cloneCode e sz bytes) (retA [.tmp 2] K) ⟨argS [v], h, n⟩ := by
  unfold cloneCode
  refine wRgn fun K hk => ?_
  simp
  refine hk.out _ ?_
  refine wSeq (wRgn fun K hk => ?_)
  simp [hb]
  refine hk.out _ ?_
  refine wCond b (by simp) (fun hc => ?_) (fun hc => ?_)
  · refine wSeq (wRgn fun K hk => ?_)
    simp
    refine hk.out _ (wRet ?_)
    simp
    exact hK _ _ _ (by omega) (Keeps.refl _ _) (by rw [hbx hc]; exact .nil _ _ _ _ _)
  · refine wSkip (wRgn fun K hk => ?_)
    have hk1 : Keeps h n (upd h (n + 1 + 2) (some (.arr e sz (if sz = 1 then [] else [])))) := (Keeps.refl _ _).upd (by omega) _
    have ho : OwnSl (upd h (n + 1 + 2) (some (.arr e sz (if sz = 1 then [] else [])))) n (n + 1 + 2 + 1) e sz (.sl (n + 1 + 2) sz 0 0 0 true) [] := .inr ⟨_, true, rfl, by simp, by omega, by omega⟩
    obtain ⟨v', h', q1, q2, q3, _, _⟩ := app_own (nw := n + 1 + 2 + 2) (bytes := bytes) ho (elems_keeps hwf hk1 he) (by omega) (by omega) (by simpa using hbb) (by simpa using h63)
    simp at q1
    simp [q1]
    refine hk.out _ (wRet' ?_)
    simp
    exact hK _ _ _ (by omega) (hk1.trans q3 (Nat.le_refl _)) (q2.mono (fun _ _ => rfl) (by omega))
/-! ### Frozen slices -/
theorem frz_sl {D : Nat → Bool} {h : Hp} {k sz : Nat} {v : AV} {xs ys : List AV} (he : elems h v sz = some xs) (hD : ∀ id ∈ v.ids, D id = true) (hx : mapO (frz D h k) xs = some ys) : frz D h (k + 1) v = some (.isl none false ys) := by
  cases v <;> simp only [Go.E3.elems, reduceCtorEq] at he
  · rename_i id sz' off len cap ex
    have := hD id (by simp)
    split at he
    · rename_i e sz2 els hid
      split at he
      · rename_i hc
        injection he with he; subst he
        simp only [frz, this, hid, if_true]
        rw [if_pos ⟨by omega, hc.2.2⟩, hx]; rfl
      · cases he
    · cases he
  · split at he
    · injection he with he; subst he
      simp only [frz, hx, Option.map_some]
    · cases he
theorem mapO_self {α : Type} {f : α → Option α} {l : List α} (h : ∀ x ∈ l, f x = some x) : mapO f l = some l := by
  induction l with
  | nil => rfl
  | cons x l ih => simp only [mapO, h x (by simp), ih fun y hy => h y (by simp [hy])]
/-! ### slices.Clip -/
def clipCode (sz : Nat) : ACode :=
  (.seq
   (.rgn 1 [
    ⟨(some 2), none, (.mov (.c (.isl (some true) true []))), 0, [], [], [], []⟩])
  (.seq
   (.rgn 7 [
    ⟨(some 3), none, (.mov (.t 0)), 0, [], [], [], []⟩,
    ⟨(some 4), none, (.mov (.t 0)), 1, [], [], [], []⟩,
    ⟨(some 5), none, (.len (.t 4)), 2, [], [], [], []⟩,
    ⟨(some 6), none, (.mov (.t 0)), 3, [], [], [], []⟩,
    ⟨(some 7), none, (.len (.t 6)), 4, [], [], [], []⟩,
    ⟨(some 8), none, (.slc sz (.t 3) none (some (.t 5)) (some (.t 7))), 5, [], [], [], []⟩,
    ⟨(some 2), none, (.mov (.t 8)), 6, [], [], [], []⟩])
  .ret))
theorem clip_own {h : Hp} {n0 n : Nat} {e : TypeId} {sz : Nat} {v : AV} {xs : List AV} (o : OwnSl h n0 n e sz v xs) : ∃ r, slcA v sz none (some xs.length) (some xs.length) = some r ∧ elems h r sz = some xs ∧ (∀ id ∈ r.ids, id ∈ v.ids) := by
  rcases o with ⟨rfl, rfl⟩ | ⟨id, ex, rfl, hid, h1, h2⟩
  · exact ⟨_, by rfl, by rfl, by simp⟩
  · by_cases hx : xs = []
    · subst hx
      exact ⟨.isl (some false) true [], by simp, by rfl, by simp⟩
    · have hl : 0 < xs.length := List.length_pos_iff.2 hx
      refine ⟨.sl id sz 0 xs.length xs.length true, ?_, by simp [hid], by simp⟩
      have : ((xs.length : Int)).toNat = xs.length := by omega
      simp only [slcA, Option.getD_some, Option.getD_none, if_true]
      rw [if_pos ⟨by omega, by omega, by omega, by omega⟩, if_pos (by omega)]
      simp
theorem clip_wp {P : Program} {sz L : Nat} {v r : AV} {h : Hp} {n : Nat} {K : AV → Hp → Nat → Prop} (hl : lenA v = some (.int .i64 L)) (hr : slcA v sz none (some (L : Int)) (some (L : Int)) = some r) (hK : ∀ n', n ≤ n' → K r h n') :
    wpA P (clipCode sz) (retA [.tmp 2] K) ⟨argS [v], h, n⟩ := by
  unfold clipCode
  refine wRgn fun K hk => ?_
  simp
  refine hk.out _ ?_
  refine wRgn fun K hk => ?_
  simp [hl, slcO, hr]
  refine hk.out _ (wRet' ?_)
  simp
  exact hK _ (by omega)
end Go.E3
