/- A model in memory, turned. -/
import Derived.Test.YtdbakmdcepkpmaaEh
set_option linter.unusedSimpArgs false
set_option linter.unusedVariables false
namespace Go.Proofs.Ytdbakmdcepkpmaa
open Go.E3
def Apart (a b : AV) : Prop := ∀ id ∈ a.ids, id ∉ b.ids
theorem Apart.symm {a b : AV} (h : Apart a b) : Apart b a := fun id h1 h2 => h id h2 h1
def serP (p : Series × AV) : AV := serR p.1 p.2
def itP (p : Iter × AV) : AV := itR p.1 p.2
/-- As Still hands it back. -/
structure ModI (h : Hp) (lo n : Nat) (sv iv : AV) (sp : List (Series × AV)) (ip : List (Iter × AV)) : Prop where
  ser : ExSl h lo n 38 5 sv (sp.map serP)
  its : OwnSl h lo n 46 2 iv (ip.map itP)
  ls : ∀ p ∈ sp, SmpL h lo n p.2 p.1.list
  li : ∀ p ∈ ip, SmpL h lo n p.2 p.1.rest
  apart : (sv :: iv :: (sp.map (·.2) ++ ip.map (·.2))).Pairwise Apart
/-- As it is behind what was done; with what is answered. -/
structure ModP (h : Hp) (lo n : Nat) (sv iv rl : AV) (sp : List (Series × AV)) (ip : List (Iter × AV)) (l : List Sample) : Prop where
  ser : MutSl h lo n 38 5 sv (sp.map serP)
  its : MutSl h lo n 46 2 iv (ip.map itP)
  ls : ∀ p ∈ sp, SmpL h lo n p.2 p.1.list
  li : ∀ p ∈ ip, SmpL h lo n p.2 p.1.rest
  rs : SmpL h lo n rl l
  apart : (rl :: sv :: iv :: (sp.map (·.2) ++ ip.map (·.2))).Pairwise Apart
theorem zipWith_zip {α β γ : Type} (f : α → β → γ) (l : List α) (m : List β) : List.zipWith f l m = (l.zip m).map fun p => f p.1 p.2 := by
  rw [List.zip, List.map_zipWith]
theorem zip_fst {α β : Type} (l : List α) (m : List β) (h : m.length = l.length) : (l.zip m).map (·.1) = l := by
  rw [List.map_fst_zip]; omega
theorem zip_snd {α β : Type} (l : List α) (m : List β) (h : m.length = l.length) : (l.zip m).map (·.2) = m := by
  rw [List.map_snd_zip]; omega
theorem Lists.zip {α : Type} {h : Hp} {n0 n : Nat} {g : α → List Sample} {l : List α} {lvs : List AV} (o : Lists h n0 n (l.map g) lvs) : ∀ p ∈ l.zip lvs, SmpL h n0 n p.2 (g p.1) := by
  intro p hp
  obtain ⟨j, hj, rfl⟩ := List.mem_iff_getElem.1 hp
  have hj' : j < l.length ∧ j < lvs.length := by simp at hj; omega
  rw [List.getElem_zip]
  exact .of (o.own j (g l[j]) lvs[j] (by simp [hj'.1]) (by simp [hj'.2]))
theorem ModH.ids {h : Hp} {n n' : Nat} {r : AV} {m : Model} (H : ModH h n n' r m) : ∃ sv iv sp ip, r = .agg [sv, iv, .int .i64 m.next] ∧ m.series = sp.map (·.1) ∧ m.iters = ip.map (·.1) ∧ ModI h n n' sv iv sp ip := by
  obtain ⟨a, b, c, sv, iv, slv, ilv, h1, h2, h3, h4, rfl, q1, q2, q3, q4⟩ := H
  have l1 : slv.length = m.series.length := by have := q3.len; simpa using this
  have l2 : ilv.length = m.iters.length := by have := q4.len; simpa using this
  refine ⟨sv, iv, m.series.zip slv, m.iters.zip ilv, rfl, (zip_fst _ _ l1).symm, (zip_fst _ _ l2).symm, ?_, ?_, ?_, ?_, ?_⟩
  · rw [zipWith_zip] at q1
    exact q1.mono (fun _ _ => rfl) (by omega)
  · rw [zipWith_zip] at q2
    rcases q2 with h0 | ⟨id, ex, e1, e2, e3, e4⟩
    · exact .inl h0
    · exact .inr ⟨id, ex, e1, e2, by omega, by omega⟩
  · intro p hp; exact (q3.zip (g := fun s : Series => s.list) p hp).mono (fun _ _ => rfl) (by omega) (by omega)
  · intro p hp; exact (q4.zip (g := fun s : Iter => s.rest) p hp).mono (fun _ _ => rfl) (by omega) (by omega)
  · rw [zip_snd _ _ l1, zip_snd _ _ l2]
    have i1 := q1.mut.ids
    have i2 := q2.ids
    have i3 := q3.ids
    have i4 := q4.ids
    have far : ∀ x ∈ slv ++ ilv, ∀ id ∈ x.ids, b ≤ id := by
      intro x hx id hid
      rcases List.mem_append.1 hx with hx | hx
      · exact (i3 x hx id hid).1
      · have := (i4 x hx id hid).1; omega
    refine .cons ?_ (.cons ?_ ?_)
    · intro x hx id hid hid2
      have := i1 id hid
      rcases List.mem_cons.1 hx with rfl | hx
      · have := i2 id hid2; omega
      · have := far x hx id hid2; omega
    · intro x hx id hid hid2
      have := i2 id hid
      have := far x hx id hid2; omega
    · rw [List.pairwise_append]
      refine ⟨q3.apart, q4.apart, fun x hx y hy id hid hid2 => ?_⟩
      have := i3 x hx id hid
      have := i4 y hy id hid2
      omega
/-! ### What is done to a list's value -/
theorem pw_set {α : Type} {R : α → α → Prop} (hs : ∀ a b, R a b → R b a) {l : List α} (h : l.Pairwise R) (i : Nat) (x : α) (hx : ∀ j y, j ≠ i → l[j]? = some y → R x y) : (l.set i x).Pairwise R := by
  rw [List.pairwise_iff_getElem] at h ⊢
  intro a b ha hb hab
  simp at ha hb
  rw [List.getElem_set, List.getElem_set]
  split
  · rename_i q; subst q
    rw [if_neg (by omega)]
    exact hx b _ (by omega) (List.getElem?_eq_getElem hb)
  · rename_i q
    split
    · rename_i q2; subst q2
      exact hs _ _ (hx a _ (by omega) (List.getElem?_eq_getElem ha))
    · exact h a b ha hb hab
/-- One of many is turned into another that lies where it lay, or apart from all. -/
theorem pw_turn {l : List AV} (h : l.Pairwise Apart) {i : Nat} {x y : AV} (hx : l[i]? = some x) {n : Nat} (hn : ∀ z ∈ l, ∀ id ∈ z.ids, id < n) (hy : ∀ id ∈ y.ids, n ≤ id ∨ id ∈ x.ids) : (l.set i y).Pairwise Apart := by
  refine pw_set (fun a b => Apart.symm) h i y fun j z hj hz id h1 h2 => ?_
  have hlt := hn z (List.mem_of_getElem? hz) id h2
  rcases hy id h1 with q | q
  · omega
  · obtain ⟨hi, rfl⟩ := List.getElem?_eq_some_iff.1 hx
    obtain ⟨hj', rfl⟩ := List.getElem?_eq_some_iff.1 hz
    rw [List.pairwise_iff_getElem] at h
    rcases Nat.lt_or_gt_of_ne hj with q2 | q2
    · exact h j i hj' hi q2 id h2 q
    · exact h i j hi hj' q2 id q h2
theorem apart_at {l : List AV} (h : l.Pairwise Apart) {i j : Nat} {x y : AV} (hij : i ≠ j) (hx : l[i]? = some x) (hy : l[j]? = some y) : Apart x y := by
  obtain ⟨hi, rfl⟩ := List.getElem?_eq_some_iff.1 hx
  obtain ⟨hj, rfl⟩ := List.getElem?_eq_some_iff.1 hy
  rw [List.pairwise_iff_getElem] at h
  rcases Nat.lt_or_gt_of_ne hij with q | q
  · exact h i j hi hj q
  · exact (h j i hj hi q).symm
theorem mem_set {α : Type} {l : List α} {i : Nat} {a q : α} (h : q ∈ l.set i a) : q = a ∨ ∃ j, j ≠ i ∧ l[j]? = some q := by
  obtain ⟨j, hj⟩ := List.mem_iff_getElem?.1 h
  rw [List.getElem?_set] at hj
  split at hj
  · split at hj
    · injection hj with hj; exact .inl hj.symm
    · cases hj
  · rename_i q; exact .inr ⟨j, fun e => q e.symm, hj⟩
theorem pw_erase {l : List AV} (h : l.Pairwise Apart) (i : Nat) : (l.eraseIdx i).Pairwise Apart := h.sublist (List.eraseIdx_sublist _ _)
theorem smp_app {h : Hp} {lo n nw : Nat} {lv x : AV} {l : List Sample} {s : Sample} (o : SmpL h lo n lv l) (hx : elems h x 2 = some [smA s]) (hnw : n ≤ nw) (hlo : lo ≤ nw) (hl : l.length < 2 ^ 40) :
    ∃ v' h', appE h nw 44 2 16 lv x = some (v', h') ∧ SmpL h' lo (nw + 1) v' (l ++ [s]) ∧ (∀ j, j ≠ nw → j ∉ lv.ids → h' j = h j) ∧ (∀ j ∈ v'.ids, j = nw ∨ j ∈ lv.ids) ∧ v'.cells = [v'] ∧ v'.flat = true := by
  rcases o with ⟨b, rfl, rfl⟩ | ⟨id, ex, rfl, h1, h2, h3⟩
  · refine ⟨.sl nw 2 0 1 1 false, upd h nw (some (.arr 44 2 [smA s])), ?_, .inr ⟨nw, false, rfl, by simp, hlo, by omega⟩, fun j hj _ => upd_ne _ _ hj, by simp, rfl, rfl⟩
    unfold appE
    simp [hx]
  · have ho : OwnSl h lo n 44 2 (.sl id 2 0 l.length l.length ex) (l.map smA) := .inr ⟨id, ex, by rw [List.length_map], h1, h2, h3⟩
    obtain ⟨v', h', q1, q2, -, q4, q5⟩ := app_own (bytes := 16) (nw := nw) ho hx hnw hlo (by simp; omega) (by simp; omega)
    refine ⟨v', h', q1, .of (by simpa using q2), q4, q5, ?_, ?_⟩ <;> exact (by have := (SmpL.of (l := l ++ [s]) (by simpa using q2)).cells; first | exact this.1 | exact this.2)
theorem smp_to {h : Hp} {lo n : Nat} {lv : AV} {l : List Sample} (o : SmpL h lo n lv l) {k : Nat} (hk : k ≤ l.length) : ∃ r, slcA lv 2 none (some (k : Int)) none = some r ∧ elems h r 2 = some ((l.take k).map smA) ∧ ∃ b, isNilA 1 r = some b ∧ (b = true → (l.take k).map smA = []) := by
  rcases o with ⟨b, rfl, rfl⟩ | ⟨id, ex, rfl, h1, h2, h3⟩
  · have : k = 0 := by simpa using hk
    subst this
    exact ⟨.isl (some b) (true && decide ((0 : Int) = 0)) [], rfl, rfl, b, rfl, fun _ => rfl⟩
  · rw [slcA_sl]
    simp only [Option.getD_some, Option.getD_none, if_true]
    rw [if_pos ⟨by omega, by omega, by omega⟩]
    split
    · refine ⟨_, rfl, ?_, false, rfl, fun q => by cases q⟩
      have e1 : (0 + ((0 : Int)).toNat) + ((k : Int) - 0).toNat ≤ l.length := by omega
      simp [h1, hk]
    · rename_i q
      have : l = [] := List.length_eq_zero_iff.1 (by omega)
      subst this
      have : k = 0 := by simpa using hk
      subst this
      refine ⟨_, rfl, ?_, false, by simp, fun q => by cases q⟩
      simp [h1]
theorem smp_from {h : Hp} {lo n : Nat} {lv : AV} {l : List Sample} (o : SmpL h lo n lv l) {k : Nat} (hk : k ≤ l.length) : ∃ r, slcA lv 2 (some (k : Int)) none none = some r ∧ elems h r 2 = some ((l.drop k).map smA) ∧ ∃ b, isNilA 1 r = some b ∧ (b = true → (l.drop k).map smA = []) := by
  rcases o with ⟨b, rfl, rfl⟩ | ⟨id, ex, rfl, h1, h2, h3⟩
  · have : k = 0 := by simpa using hk
    subst this
    exact ⟨_, rfl, rfl, b, rfl, fun _ => rfl⟩
  · rw [slcA_sl]
    simp only [Option.getD_some, Option.getD_none, if_true]
    rw [if_pos ⟨by omega, by omega, by omega⟩]
    split
    · refine ⟨_, rfl, ?_, false, rfl, fun q => by cases q⟩
      have e1 : k + (l.length - k) ≤ l.length := by omega
      have e2 : ((l.length : Int) - (k : Int)).toNat = l.length - k := by omega
      simp [h1, e1, e2]
      exact List.take_of_length_le (by simp)
    · rename_i q
      have hkl : k = l.length := by omega
      subst hkl
      split
      · rename_i q2
        have : l = [] := List.length_eq_zero_iff.1 (by omega)
        subst this
        refine ⟨_, rfl, ?_, false, rfl, fun q => by cases q⟩
        simp [h1]
      · exact ⟨_, rfl, by simp, false, rfl, fun q => by cases q⟩
end Go.Proofs.Ytdbakmdcepkpmaa
