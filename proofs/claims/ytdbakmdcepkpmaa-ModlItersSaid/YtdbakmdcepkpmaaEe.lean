/- Clones of the model's slices. -/
import Derived.Test.YtdbakmdcepkpmaaEd
import Derived.Test.YtdbakmdcepkpmaaLyc
set_option linter.unusedSimpArgs false
set_option linter.unusedVariables false
namespace Go.Proofs.Ytdbakmdcepkpmaa
open Go.E3
def zeSer : AV := .agg [.int .i64 0, .bool false, .bool false, .int .i64 0, .isl (some true) true []]
theorem elems_slA (h : Hp) (sz : Nat) (xs : List AV) (hs : xs.all (fun x => x.cells.length == sz) = true) (nl : Option Bool) (ex : Bool) : elems h (.isl nl ex xs) sz = some xs := by
  rw [elems_isl, if_pos hs]
theorem s46 {xs : List AV} (hs : xs.all (fun x => x.cells.length == 5) = true) (hl : xs.length < 2 ^ 40) (h : Hp) (n : Nat) :
    CallsA Try.prog 46 [slA xs] h n fun r h' n' => Keeps h n h' ∧ ExSl h' n n' 38 5 r xs := by
  refine CallsA.wf fun hwf => ?_
  refine CallsA.nils 0 (ex := false) (xs := xs) rfl (fun h0 => ?_) ?_
  · exact e46 (by simp) (cloneN_wp (e := 38) (sz := 5) (bytes := 48) (ze := zeSer) (xs := xs) hwf (elems_slA _ _ _ hs _ _) (nil_isl _ _ _) (fun _ => h0) (by omega) (by omega) fun r h' n' _ q1 q2 => ⟨q1, q2⟩)
  · exact e46 (by simp) (cloneN_wp (e := 38) (sz := 5) (bytes := 48) (ze := zeSer) (xs := xs) hwf (elems_slA _ _ _ hs _ _) (nil_isl _ _ _) (fun q => by cases q) (by omega) (by omega) fun r h' n' _ q1 q2 => ⟨q1, q2⟩)
theorem s47 {xs : List AV} (hs : xs.all (fun x => x.cells.length == 2) = true) (hl : xs.length < 2 ^ 40) (h : Hp) (n : Nat) :
    CallsA Try.prog 47 [slA xs] h n fun r h' n' => Keeps h n h' ∧ OwnSl h' n n' 46 2 r xs := by
  refine CallsA.wf fun hwf => ?_
  refine CallsA.nils 0 (ex := false) (xs := xs) rfl (fun h0 => ?_) ?_
  · exact e47 (by simp) (clone_wp (e := 46) (sz := 2) (bytes := 32) (xs := xs) hwf (elems_slA _ _ _ hs _ _) (nil_isl _ _ _) (fun _ => h0) (by omega) (by omega) fun r h' n' _ q1 q2 => ⟨q1, q2⟩)
  · exact e47 (by simp) (clone_wp (e := 46) (sz := 2) (bytes := 32) (xs := xs) hwf (elems_slA _ _ _ hs _ _) (nil_isl _ _ _) (fun q => by cases q) (by omega) (by omega) fun r h' n' _ q1 q2 => ⟨q1, q2⟩)
/-- Of samples; of whatever slice. -/
theorem s48 {v : AV} {b : Bool} {xs : List AV} {h : Hp} {n : Nat} (he : elems h v 2 = some xs) (hb : isNilA 1 v = some b) (hbx : b = true → xs = []) (hl : xs.length < 2 ^ 40) :
    CallsA Try.prog 48 [v] h n fun r h' n' => Keeps h n h' ∧ OwnSl h' n n' 44 2 r xs := by
  refine CallsA.wf fun hwf => ?_
  exact e48 (by simp) (clone_wp (e := 44) (sz := 2) (bytes := 16) (xs := xs) hwf he hb hbx (by omega) (by omega) fun r h' n' _ q1 q2 => ⟨q1, q2⟩)
theorem s48' {xs : List AV} (hs : xs.all (fun x => x.cells.length == 2) = true) (hl : xs.length < 2 ^ 40) (h : Hp) (n : Nat) :
    CallsA Try.prog 48 [slA xs] h n fun r h' n' => Keeps h n h' ∧ OwnSl h' n n' 44 2 r xs :=
  CallsA.nils 0 (ex := false) (xs := xs) rfl (fun h0 => s48 (elems_slA _ _ _ hs _ _) (nil_isl _ _ _) (fun _ => h0) hl) (s48 (elems_slA _ _ _ hs _ _) (nil_isl _ _ _) (fun q => by cases q) hl)
end Go.Proofs.Ytdbakmdcepkpmaa
