/- A model of its own memory. -/
import Derived.Test.YtdbakmdcepkpmaaEe
set_option linter.unusedSimpArgs false
set_option linter.unusedVariables false
namespace Go.Proofs.Ytdbakmdcepkpmaa
open Go.E3
def serR (s : Series) (lv : AV) : AV := .agg [.int .i64 s.id, .bool s.sealed_, .bool s.any, .int .i64 s.last, lv]
def itR (x : Iter) (lv : AV) : AV := .agg [.int .i64 x.id, lv]
/-- Rows whose lists are of one's own; one behind the other in memory. -/
structure Lists (h : Hp) (n0 n : Nat) (ls : List (List Sample)) (lvs : List AV) : Prop where
  len : lvs.length = ls.length
  own : ∀ (j : Nat) (l : List Sample) (lv : AV), ls[j]? = some l → lvs[j]? = some lv → OwnSl h n0 n 44 2 lv (l.map smA)
  apart : lvs.Pairwise fun a b => ∀ id ∈ a.ids, id ∉ b.ids
theorem Lists.nil (h : Hp) (n0 n : Nat) : Lists h n0 n [] [] := ⟨rfl, fun j l lv h => by simp at h, .nil⟩
theorem Lists.ids {h : Hp} {n0 n : Nat} {ls : List (List Sample)} {lvs : List AV} (o : Lists h n0 n ls lvs) : ∀ lv ∈ lvs, ∀ id ∈ lv.ids, n0 ≤ id ∧ id < n := by
  intro lv hlv id hid
  obtain ⟨j, hj, rfl⟩ := List.mem_iff_getElem.1 hlv
  have hj' : j < ls.length := by rw [← o.len]; exact hj
  exact (o.own j ls[j] lvs[j] (List.getElem?_eq_getElem hj') (List.getElem?_eq_getElem hj)).ids id hid
theorem Lists.mono {h h' : Hp} {n0 n n1 : Nat} {ls : List (List Sample)} {lvs : List AV} (o : Lists h n0 n ls lvs) (hh : ∀ id, n0 ≤ id → id < n → h' id = h id) (hn : n ≤ n1) : Lists h' n0 n1 ls lvs where
  len := o.len
  own := fun j l lv hl hlv => (o.own j l lv hl hlv).mono (fun id hid => by
    have := o.ids lv (List.mem_of_getElem? hlv) id hid
    exact hh id this.1 this.2) hn
  apart := o.apart
/-- One list more, made behind all the others. -/
theorem Lists.push {h h' : Hp} {n0 n n1 : Nat} {ls : List (List Sample)} {lvs : List AV} {l : List Sample} {lv : AV} (o : Lists h n0 n ls lvs) (hk : Keeps h n h') (hn0 : n0 ≤ n) (hn : n ≤ n1) (ho : OwnSl h' n n1 44 2 lv (l.map smA)) : Lists h' n0 n1 (ls ++ [l]) (lvs ++ [lv]) where
  len := by simp [o.len]
  own := fun j l' lv' hl hlv => by
    have o2 := o.mono (h' := h') (n1 := n1) (fun id _ hid => hk.old id hid) hn
    by_cases hj : j < ls.length
    · rw [List.getElem?_append_left hj] at hl
      rw [List.getElem?_append_left (by rw [o.len]; exact hj)] at hlv
      exact o2.own j l' lv' hl hlv
    · rw [List.getElem?_append_right (by omega)] at hl
      rw [List.getElem?_append_right (by rw [o.len]; omega), o.len] at hlv
      have hj0 : j - ls.length = 0 := by
        have := (List.getElem?_eq_some_iff.1 hl).1
        simp at this; omega
      rw [hj0] at hl hlv
      simp at hl hlv
      subst hl; subst hlv
      rcases ho with ⟨rfl, h2⟩ | ⟨id, ex, rfl, hid, h1, h2⟩
      · exact .inl ⟨rfl, h2⟩
      · exact .inr ⟨id, ex, rfl, hid, by omega, h2⟩
  apart := by
    rw [List.pairwise_append]
    refine ⟨o.apart, List.pairwise_singleton _ _, fun a ha b hb id hid => ?_⟩
    simp at hb; subst hb
    intro hid2
    have h1 := (o.ids a ha id hid).2
    have h2 := (ho.ids id hid2).1
    omega
end Go.Proofs.Ytdbakmdcepkpmaa
