/- Rules for contracts of calls: weaker results, objects forgotten, results frozen. -/
import Derived.Test.YtdbakmdcepkpmaaLv
set_option linter.unusedSimpArgs false
set_option linter.unusedVariables false
namespace Go.E3
theorem VR.isl_weak {g : G} {w : World} {nl nl' : Option Bool} {ex ex' : Bool} {xs : List AV} {u : Value} (h : VR g w (.isl nl ex xs) u) (hn : ∀ b, nl' = some b → nl = some b) (he : ex' = true → ex = true) : VR g w (.isl nl' ex' xs) u := by
  cases h with
  | isl _ _ _ sz A c us hl h1 h2 h3 h4 hs hc hx hv => exact .isl nl' ex' xs sz A c us hl h1 (fun q => h2 (he q)) (fun b q => h3 b (hn b q)) h4 hs hc hx hv
theorem VR.isl_nil {g : G} {w : World} {ex : Bool} {xs : List AV} {u : Value} (h : VR g w (.isl none ex xs) u) : (VR g w (.isl (some true) ex xs) u ∧ xs = []) ∨ VR g w (.isl (some false) ex xs) u := by
  cases h with
  | isl _ _ _ sz A c us hl h1 h2 h3 h4 hs hc hx hv =>
    cases hA : A with
    | none =>
      subst hA
      have : xs = [] := by
        have := h4 rfl
        exact List.length_eq_zero_iff.1 (by omega)
      exact .inl ⟨.isl (some true) ex xs sz none c us hl h1 h2 (fun b q => by injection q with q; exact q.symm) h4 hs hc hx hv, this⟩
    | some ad =>
      subst hA
      exact .inr (.isl (some false) ex xs sz (some ad) c us hl h1 h2 (fun b q => by injection q with q; exact q.symm) h4 hs hc hx hv)
/-! ### Frozen values -/
def mapO {α β : Type} (f : α → Option β) : List α → Option (List β)
  | [] => some []
  | x :: r => match f x, mapO f r with
    | some y, some ys => some (y :: ys)
    | _, _ => none
theorem mapO_spec {α β : Type} {f : α → Option β} : ∀ {l : List α} {r : List β}, mapO f l = some r → l.length = r.length ∧ ∀ (i : Nat) (x : α) (y : β), l[i]? = some x → r[i]? = some y → f x = some y
  | [], r, h => by simp [mapO] at h; subst h; simp
  | x :: l, r, h => by
    simp only [mapO] at h
    split at h
    · rename_i y ys h1 h2
      injection h with h; subst h
      obtain ⟨q1, q2⟩ := mapO_spec h2
      refine ⟨by simp [q1], fun i a b ha hb => ?_⟩
      cases i with
      | zero => simp at ha hb; subst ha; subst hb; exact h1
      | succ i => exact q2 i a b (by simpa using ha) (by simpa using hb)
    · cases h
/-- A value whose objects (those in D) are not turned any more. -/
def frz (D : Nat → Bool) (h : Hp) : Nat → AV → Option AV
  | 0, _ => none
  | k + 1, v => match v with
    | .int a b => some (.int a b)
    | .bool b => some (.bool b)
    | .str s => some (.str s)
    | .nilp => some .nilp
    | .nilm => some .nilm
    | .nilfn => some .nilfn
    | .fn f [] => some (.fn f [])
    | .agg cs => (mapO (frz D h k) cs).map .agg
    | .tup cs => (mapO (frz D h k) cs).map .tup
    | .isl _ _ xs => (mapO (frz D h k) xs).map (.isl none false)
    | .sl id sz off len _ _ => if D id then (match h id with
      | some (.arr _ sz2 els) => if sz = sz2 ∧ off + len ≤ els.length then (mapO (frz D h k) ((els.drop off).take len)).map (.isl none false) else none
      | _ => none) else none
    | _ => none
/-- The blocks of the objects in D are still from now on. -/
def G.still (g : G) (D : Nat → Bool) (h : Hp) : G := { g with im := fun b => g.im b ∨ ∃ id ob, D id = true ∧ h id = some ob ∧ (g.ι id).1 = b }
def dropHp (D : Nat → Bool) (h : Hp) : Hp := fun id => if D id then none else h id
theorem dropHp_some {D : Nat → Bool} {h : Hp} {id : Nat} {ob : AObj} (q : dropHp D h id = some ob) : D id = false ∧ h id = some ob := by
  unfold dropHp at q
  split at q
  · cases q
  · rename_i hd; exact ⟨by simpa using hd, q⟩
section
variable {g : G} {w : World} {h : Hp} {n : Nat}
theorem VR.still (D : Nat → Bool) {v : AV} {u : Value} (hv : VR g w v u) : VR (g.still D h) w v u :=
  VR.mono (g := g) (w := w) (g' := g.still D h) (w' := w) (fun _ hA => ⟨hA, rfl⟩) (fun _ hb => .inl hb) (fun _ _ => rfl) (fun _ _ q => q) hv
theorem ObjR.still (D : Nat → Bool) {id : Nat} {ob : AObj} (ho : ObjR g w id ob) : ObjR (g.still D h) w id ob := by
  cases ob with
  | mp t es => exact ho.elim
  | arr e sz els =>
    obtain ⟨cur, h1, h2, h3⟩ := ho
    exact ⟨cur, h1, h2, fun i x hx => by
      obtain ⟨q1, q2, q3⟩ := h3 i x hx
      exact ⟨q1, q2, fun j c hc => by obtain ⟨u, r1, r2⟩ := q3 j c hc; exact ⟨u, r1, r2.still D⟩⟩⟩
theorem Rel.still (D : Nat → Bool) (hr : Rel g w h n) : Rel (g.still D h) w (dropHp D h) n where
  live := fun id ob hob => ⟨(hr.live id ob (dropHp_some hob).2).1, (hr.live id ob (dropHp_some hob).2).2.still D⟩
  inj := fun id id' ob ob' h1 h2 => hr.inj id id' ob ob' (dropHp_some h1).2 (dropHp_some h2).2
  sep := fun id ob hob him => by
    obtain ⟨hd, hob⟩ := dropHp_some hob
    rcases him with q | ⟨id2, ob2, hd2, h2, e⟩
    · exact hr.sep id ob hob q
    · have := hr.inj _ _ _ _ h2 hob e
      subst this; rw [hd] at hd2; cases hd2
  blk := fun b hb => by
    rcases hb with q | ⟨id, ob, _, h2, e⟩
    · exact hr.blk b q
    · obtain ⟨_, ho⟩ := hr.live id ob h2
      cases ob with
      | mp t es => exact ho.elim
      | arr e2 sz els =>
        obtain ⟨cur, hb, _⟩ := ho
        rw [← e]; exact (Array.getElem?_eq_some_iff.1 hb).1
  lt := hr.lt
theorem frz_flat {D : Nat → Bool} : ∀ {k : Nat} {v v' : AV}, frz D h k v = some v' → v.flat = true → v'.flat = true := by
  intro k v v' hf hv
  cases k with
  | zero => cases hf
  | succ k =>
    simp only [frz] at hf
    split at hf <;> first
      | (cases hf; done)
      | (injection hf with hf; subst hf; rfl)
      | (simp [AV.flat] at hv; done)
      | (obtain ⟨_, _, rfl⟩ := map_some hf; rfl)
      | (split at hf
         · split at hf
           · split at hf
             · obtain ⟨_, _, rfl⟩ := map_some hf; rfl
             · cases hf
           · cases hf
         · cases hf)
theorem frz_cells {D : Nat → Bool} {k : Nat} {x y : AV} (hf : frz D h (k + 1) x = some y) (hx : x.cells.all AV.flat = true) : y.cells.length = x.cells.length ∧ (∀ c ∈ y.cells, c.flat = true) ∧
    ∀ (j : Nat) (c d : AV), x.cells[j]? = some c → y.cells[j]? = some d → frz D h (k + 1) c = some d ∨ frz D h k c = some d := by
  by_cases hagg : ∃ cs, x = .agg cs
  · obtain ⟨cs, rfl⟩ := hagg
    simp only [frz] at hf
    obtain ⟨ds, hds, rfl⟩ := map_some hf
    obtain ⟨q1, q2⟩ := mapO_spec hds
    refine ⟨q1.symm, fun d hd => ?_, fun j c d hc hd => .inr (q2 j c d hc hd)⟩
    obtain ⟨j, hj, rfl⟩ := List.mem_iff_getElem.1 hd
    have hj' : j < cs.length := by rw [q1]; exact hj
    have := q2 j cs[j] ds[j] (List.getElem?_eq_getElem hj') (List.getElem?_eq_getElem hj)
    exact frz_flat this (List.all_eq_true.1 hx _ (List.getElem_mem hj'))
  · have hxc : x.cells = [x] := by cases x <;> first | rfl | (exact absurd ⟨_, rfl⟩ hagg)
    have hxf : x.flat = true := by rw [hxc] at hx; simpa using hx
    have hyf := frz_flat hf hxf
    have hyc : y.cells = [y] := by cases y <;> first | rfl | (simp [AV.flat] at hyf)
    rw [hxc, hyc]
    refine ⟨rfl, by simpa using hyf, fun j c d hc hd => ?_⟩
    cases j with
    | zero => simp at hc hd; subst hc; subst hd; exact .inl hf
    | succ j => simp at hc
theorem frz_sound (hr : Rel g w h n) {D : Nat → Bool} : ∀ (k : Nat) {v v' : AV} {u : Value}, VR g w v u → frz D h k v = some v' → VR (g.still D h) w v' u := by
  intro k
  induction k with
  | zero => intro v v' u _ hf; cases hf
  | succ k ih =>
    have ihl : ∀ {cs ds : List AV} {us : List Value}, mapO (frz D h k) cs = some ds → us.length = cs.length → (∀ (j : Nat) (c : AV) (u : Value), cs[j]? = some c → us[j]? = some u → VR g w c u) →
        us.length = ds.length ∧ ∀ (j : Nat) (c : AV) (u : Value), ds[j]? = some c → us[j]? = some u → VR (g.still D h) w c u := by
      intro cs ds us hm hl hv
      obtain ⟨q1, q2⟩ := mapO_spec hm
      refine ⟨hl.trans q1, fun j d u hd hu => ?_⟩
      have hj : j < cs.length := by rw [q1]; exact (List.getElem?_eq_some_iff.1 hd).1
      exact ih (hv j cs[j] u (List.getElem?_eq_getElem hj) hu) (q2 j cs[j] d (List.getElem?_eq_getElem hj) hd)
    have flatl : ∀ {cs ds : List AV}, mapO (frz D h k) cs = some ds → (∀ c ∈ cs, c.flat = true) → ∀ d ∈ ds, AV.flat d = true := by
      intro cs ds hm hc d hd
      obtain ⟨q1, q2⟩ := mapO_spec hm
      obtain ⟨j, hj, rfl⟩ := List.mem_iff_getElem.1 hd
      have hj' : j < cs.length := by rw [q1]; exact hj
      exact frz_flat (q2 j cs[j] ds[j] (List.getElem?_eq_getElem hj') (List.getElem?_eq_getElem hj)) (hc _ (List.getElem_mem hj'))
    intro v v' u hv hf
    simp only [frz] at hf
    cases hv with
    | int a b => injection hf with hf; subst hf; exact .int a b
    | bool b => injection hf with hf; subst hf; exact .bool b
    | str s => injection hf with hf; subst hf; exact .str s
    | nilp => injection hf with hf; subst hf; exact .nilp
    | ptr => cases hf
    | iptr => cases hf
    | nilm => injection hf with hf; subst hf; exact .nilm
    | mapr => cases hf
    | nilfn => injection hf with hf; subst hf; exact .nilfn
    | fn f caps us hl hv =>
      cases caps with
      | nil => injection hf with hf; subst hf; exact .fn f [] us hl (fun j c u h => by simp at h)
      | cons _ _ => cases hf
    | agg cs us hl hfl hv =>
      obtain ⟨ds, hds, rfl⟩ := map_some hf
      obtain ⟨q1, q2⟩ := ihl hds hl hv
      exact .agg ds us q1 (flatl hds hfl) q2
    | tup cs us hl hv =>
      obtain ⟨ds, hds, rfl⟩ := map_some hf
      obtain ⟨q1, q2⟩ := ihl hds hl hv
      exact .tup ds us q1 q2
    | isl nl ex xs sz A c us hl h1 h2 h3 h4 hs hc hx hv =>
      obtain ⟨ds, hds, rfl⟩ := map_some hf
      obtain ⟨q1, q2⟩ := mapO_spec hds
      have hne : ds ≠ [] → xs ≠ [] := by rintro h0 rfl; exact h0 (List.length_eq_zero_iff.1 (by rw [← q1]; rfl))
      have hel : ∀ (i : Nat) (d : AV) (ul : List Value), ds[i]? = some d → us[i]? = some ul → ∃ x, xs[i]? = some x ∧ frz D h k x = some d := by
        intro i d ul hd hu
        have hi : i < xs.length := by rw [q1]; exact (List.getElem?_eq_some_iff.1 hd).1
        exact ⟨xs[i], List.getElem?_eq_getElem hi, q2 i _ d (List.getElem?_eq_getElem hi) hd⟩
      rw [q1]
      refine .isl none false ds sz A c us (hl.trans q1) (by omega) (fun q => by cases q) (fun b q => by cases q) h4 (fun ad ha => ⟨(hs ad ha).1, fun h0 => .inl ((hs ad ha).2 (hne h0))⟩) hc ?_ ?_
      · intro i d ul hd hu
        obtain ⟨x, hxi, hfx⟩ := hel i d ul hd hu
        obtain ⟨p1, p2⟩ := hx i x ul hxi hu
        cases k with
        | zero => cases hfx
        | succ k =>
          obtain ⟨r1, r2, _⟩ := frz_cells hfx (List.all_eq_true.2 p2)
          exact ⟨r1.trans p1, r2⟩
      · intro i d ul hd hu j c u' hc' hu'
        obtain ⟨x, hxi, hfx⟩ := hel i d ul hd hu
        obtain ⟨p1, p2⟩ := hx i x ul hxi hu
        have hvx := hv i x ul hxi hu
        -- the element as a whole
        by_cases hagg : ∃ cs, x = .agg cs
        · obtain ⟨cs, rfl⟩ := hagg
          have hva : VR g w (.agg cs) (.agg ul.toArray) := .agg cs ul p1.symm p2 hvx
          have := ih hva hfx
          obtain ⟨us2, e, _, _, hh⟩ := (by
            cases k with
            | zero => cases hfx
            | succ k =>
              simp only [frz] at hfx
              obtain ⟨es, hes, rfl⟩ := map_some hfx
              exact this.inv_agg : ∃ us2 : List Value, Value.agg ul.toArray = .agg us2.toArray ∧ us2.length = d.cells.length ∧ (∀ c ∈ d.cells, c.flat = true) ∧ ∀ (j : Nat) (c : AV) (u : Value), d.cells[j]? = some c → us2[j]? = some u → VR (g.still D h) w c u)
          injection e with e
          have e : ul = us2 := by simpa using e
          subst e
          exact hh j c u' hc' hu'
        · have hxc : x.cells = [x] := by cases x <;> first | rfl | (exact absurd ⟨_, rfl⟩ hagg)
          have hxf : x.flat = true := p2 x (by rw [hxc]; simp)
          have hyf := frz_flat hfx hxf
          have hyc : d.cells = [d] := by cases d <;> first | rfl | (simp [AV.flat] at hyf)
          rw [hyc] at hc'
          cases j with
          | zero =>
            simp at hc'; subst hc'
            exact ih (hvx 0 x u' (by rw [hxc]; rfl) hu') hfx
          | succ j => simp at hc'
    | sl id sz off len cap ex b f c hA hi h1 h2 h3 hz =>
      simp only at hf
      split at hf
      · rename_i hD
        split at hf
        · rename_i e sz2 els hid
          split at hf
          · rename_i hcond
            obtain ⟨rfl, hle⟩ := hcond
            obtain ⟨ds, hds, rfl⟩ := map_some hf
            obtain ⟨q1, q2⟩ := mapO_spec hds
            have hlen : ((els.drop off).take len).length = len := by simp; omega
            obtain ⟨_, cur, hb, hsz, hel⟩ := hr.live _ _ hid
            rw [hi] at hb hsz hel
            simp only at hb hsz hel
            have hdl : len = ds.length := by rw [← q1, hlen]
            -- the rows of the elements
            have hmul : (off + len) * sz ≤ els.length * sz := Nat.mul_le_mul_right _ hle
            rw [Nat.add_mul] at hmul
            have hget : ∀ i x, ((els.drop off).take len)[i]? = some x → x.cells.length = sz ∧ (∀ c ∈ x.cells, c.flat = true) ∧ ∀ (j : Nat) (c : AV), x.cells[j]? = some c → ∃ u, cur[f + off * sz + (i * sz + j)]? = some u ∧ VR g w c u := by
              intro i x hx
              rw [List.getElem?_take] at hx
              split at hx
              · rw [List.getElem?_drop] at hx
                obtain ⟨p1, p2, p3⟩ := hel _ x hx
                refine ⟨p1, p2, fun j c hc => ?_⟩
                obtain ⟨u, r1, r2⟩ := p3 j c hc
                exact ⟨u, by rw [← r1]; congr 1; rw [Nat.add_mul]; omega, r2⟩
              · cases hx
            let rows : List (List Value) := (List.range len).map fun i => (cur.toList.drop (f + off * sz + i * sz)).take sz
            have hrow : ∀ i ul, rows[i]? = some ul → i < len ∧ ul = (cur.toList.drop (f + off * sz + i * sz)).take sz := by
              intro i ul hul
              have hi' : i < len := by have := (List.getElem?_eq_some_iff.1 hul).1; simpa [rows] using this
              refine ⟨hi', ?_⟩
              have : rows[i]? = some ((cur.toList.drop (f + off * sz + i * sz)).take sz) := by simp [rows, hi']
              rw [this] at hul; injection hul with hul; exact hul.symm
            have hrl : ∀ i, i < len → ((cur.toList.drop (f + off * sz + i * sz)).take sz).length = sz := by
              intro i hi'
              have : (i + 1) * sz ≤ len * sz := Nat.mul_le_mul_right _ hi'
              rw [Nat.add_mul] at this
              simp; omega
            have hcell : ∀ i, i < len → ∀ (j : Nat) (u : Value), ((cur.toList.drop (f + off * sz + i * sz)).take sz)[j]? = some u → cur[f + off * sz + (i * sz + j)]? = some u := by
              intro i hi' j u hu
              rw [List.getElem?_take] at hu
              split at hu
              · rw [List.getElem?_drop] at hu
                simpa [Nat.add_assoc] using hu
              · cases hu
            have e1 : (Value.slice (some ⟨b, f + off * sz, none⟩) len c) = .slice (some ⟨b, f + off * sz, none⟩) ds.length c := by rw [← hdl]
            rw [e1]
            have hel2 : ∀ (i : Nat) (d : AV) (ul : List Value), ds[i]? = some d → rows[i]? = some ul → ∃ x, ((els.drop off).take len)[i]? = some x ∧ frz D h k x = some d := by
              intro i d ul hd hu
              have hi' : i < ((els.drop off).take len).length := by rw [q1]; exact (List.getElem?_eq_some_iff.1 hd).1
              exact ⟨_, List.getElem?_eq_getElem hi', q2 i _ d (List.getElem?_eq_getElem hi') hd⟩
            refine .isl none false ds sz (some ⟨b, f + off * sz, none⟩) c rows (by simp [rows, hdl]) (by omega) (fun q => by cases q) (fun b q => by cases q) (fun q => by cases q) ?_ ?_ ?_ ?_
            · intro ad ha
              injection ha with ha; subst ha
              exact ⟨rfl, fun _ => .inr ⟨id, _, hD, hid, by rw [hi]⟩⟩
            · intro i ul hul
              obtain ⟨hi', rfl⟩ := hrow i ul hul
              refine ⟨hrl i hi', fun ad ha j u hu => ?_⟩
              injection ha with ha; subst ha
              rw [add_zero_ _ rfl, cell_of_row w _ _ cur e (0, 0) hb]
              have := hcell i hi' j u hu
              simpa [Nat.add_assoc] using this
            · intro i d ul hd hu
              obtain ⟨x, hxi, hfx⟩ := hel2 i d ul hd hu
              obtain ⟨hi', rfl⟩ := hrow i ul hu
              obtain ⟨p1, p2, p3⟩ := hget i x hxi
              cases k with
              | zero => cases hfx
              | succ k =>
                obtain ⟨r1, r2, _⟩ := frz_cells hfx (List.all_eq_true.2 p2)
                exact ⟨by rw [r1, p1, hrl i hi'], r2⟩
            · intro i d ul hd hu j c' u' hc' hu'
              obtain ⟨x, hxi, hfx⟩ := hel2 i d ul hd hu
              obtain ⟨hi', rfl⟩ := hrow i ul hu
              obtain ⟨p1, p2, p3⟩ := hget i x hxi
              have hvx : ∀ (j : Nat) (c : AV) (u : Value), x.cells[j]? = some c → ((cur.toList.drop (f + off * sz + i * sz)).take sz)[j]? = some u → VR g w c u := by
                intro j c u hc hu
                obtain ⟨u2, r1, r2⟩ := p3 j c hc
                have := hcell i hi' j u hu
                rw [this] at r1; injection r1 with r1; subst r1; exact r2
              have hpl : x.cells.length = ((cur.toList.drop (f + off * sz + i * sz)).take sz).length := by rw [p1, hrl i hi']
              generalize ((cur.toList.drop (f + off * sz + i * sz)).take sz) = ul at hu' hvx hpl
              by_cases hagg : ∃ cs, x = .agg cs
              · obtain ⟨cs, rfl⟩ := hagg
                have hva : VR g w (.agg cs) (.agg ul.toArray) := .agg cs ul hpl.symm p2 hvx
                have := ih hva hfx
                obtain ⟨us2, e, _, _, hh⟩ := (by
                  cases k with
                  | zero => cases hfx
                  | succ k =>
                    simp only [frz] at hfx
                    obtain ⟨es, hes, rfl⟩ := map_some hfx
                    exact this.inv_agg : ∃ us2 : List Value, Value.agg ul.toArray = .agg us2.toArray ∧ us2.length = d.cells.length ∧ (∀ c ∈ d.cells, c.flat = true) ∧ ∀ (j : Nat) (c : AV) (u : Value), d.cells[j]? = some c → us2[j]? = some u → VR (g.still D h) w c u)
                injection e with e
                have e : ul = us2 := by simpa using e
                subst e
                exact hh j c' u' hc' hu'
              · have hxc : x.cells = [x] := by cases x <;> first | rfl | (exact absurd ⟨_, rfl⟩ hagg)
                have hxf : x.flat = true := p2 x (by rw [hxc]; simp)
                have hyf := frz_flat hfx hxf
                have hyc : d.cells = [d] := by cases d <;> first | rfl | (simp [AV.flat] at hyf)
                rw [hyc] at hc'
                cases j with
                | zero =>
                  simp at hc'; subst hc'
                  exact ih (hvx 0 x u' (by rw [hxc]; rfl) hu') hfx
                | succ j => simp at hc'
          · cases hf
        · cases hf
      · cases hf
end
/-! ### Rules for contracts -/
section
variable {P : Program} {f : Nat} {vs : List AV} {h : Hp} {n : Nat} {K K' : AV → Hp → Nat → Prop}
/-- What every contract may be taken to say besides. -/
theorem CallsA.more (hc : CallsA P f vs h n K) : CallsA P f vs h n fun r h' n' => K r h' n' ∧ n ≤ n' ∧ ∀ id, h' id ≠ none → id < n' :=
  fun g w us hr hv => (hc g w us hr hv).mono fun _ _ ⟨g', r, h', n', q, q2, q3, q4⟩ => ⟨g', r, h', n', ⟨q, q4.le, (Rel.wf (st := ⟨fun _ => .undef, h', n'⟩) q2).lt⟩, q2, q3, q4⟩
theorem CallsA.wf (hc : (∀ id, h id ≠ none → id < n) → CallsA P f vs h n K) : CallsA P f vs h n K :=
  fun g w us hr hv => hc (Rel.wf (st := ⟨fun _ => .undef, h, n⟩) hr).lt g w us hr hv
/-- A value that says less. -/
def LeA (v v' : AV) : Prop := ∀ g w u, VR g w v u → VR g w v' u
theorem CallsA.weaken (hc : CallsA P f vs h n fun r h' n' => ∃ r', LeA r r' ∧ K r' h' n') : CallsA P f vs h n K :=
  fun g w us hr hv => (hc g w us hr hv).mono fun _ _ ⟨g', r, h', n', ⟨r', q1, q⟩, q2, q3, q4⟩ => ⟨g', r', h', n', q, q2, q1 _ _ _ q3, q4⟩
theorem CallsA.freeze {k : Nat} (hc : CallsA P f vs h n fun r h' n' => (∀ id, h id ≠ none → h' id = h id) ∧ (∀ id, h' id ≠ none → h id ≠ none ∨ n ≤ id) ∧ ∃ r', frz (fun id => decide (n ≤ id)) h' k r = some r' ∧ K r' h n') : CallsA P f vs h n K := by
  refine CallsA.wf fun hwf => ?_
  intro g w us hr hv
  refine (hc g w us hr hv).mono ?_
  rintro u w' ⟨g', r, h', n', ⟨q1, q2, r', q3, q4⟩, q5, q6, q7⟩
  have he : dropHp (fun id => decide (n ≤ id)) h' = h := by
    funext id
    unfold dropHp
    cases hh : h id with
    | some ob =>
      have := hwf id (by simp [hh])
      rw [if_neg (by simp; omega), q1 id (by simp [hh]), hh]
    | none =>
      split
      · rfl
      · rename_i hd
        cases hh' : h' id with
        | none => rfl
        | some ob =>
          rcases q2 id (by simp [hh']) with q | q
          · exact absurd hh q
          · simp at hd; omega
  have hrel := q5.still (fun id => decide (n ≤ id))
  rw [he] at hrel
  refine ⟨_, r', h, n', q4, hrel, frz_sound q5 k q6 q3, { q7 with im := fun b hb => .inl (q7.im b hb), rw_ := ?_, imn := ?_ }⟩
  · intro id ob hob
    exact q7.rw_ id ob (by rw [q1 id (by simp [hob])]; exact hob)
  · intro b hb
    rcases hb with hb | ⟨id, ob, _, hob, e⟩
    · exact q7.imn b hb
    · rcases q7.rw_ id ob hob with ⟨id0, ob0, h0, e0⟩ | hge
      · exact .inr (.inl ⟨id0, ob0, h0, by rw [← e0, e]⟩)
      · exact .inr (.inr (by rw [← e]; exact hge))
/-- Objects that nobody asks for any more. -/
theorem CallsA.forget (hc : CallsA P f vs h n fun r h' n' => ∃ h2 : Hp, (∀ id ob, h2 id = some ob → h' id = some ob) ∧ K r h2 n') : CallsA P f vs h n K := by
  intro g w us hr hv
  refine (hc g w us hr hv).mono ?_
  rintro u w' ⟨g', r, h', n', ⟨h2, q1, q⟩, q2, q3, q4⟩
  exact ⟨g', r, h2, n', q, { live := fun id ob hob => q2.live id ob (q1 _ _ hob), inj := fun id id' ob ob' a b => q2.inj id id' ob ob' (q1 _ _ a) (q1 _ _ b), sep := fun id ob hob => q2.sep id ob (q1 _ _ hob), blk := q2.blk, lt := q2.lt }, q3,
    { q4 with rw_ := fun id ob hob => q4.rw_ id ob (q1 _ _ hob) }⟩
/-- An argument of which it is not told whether it is nil: both. -/
theorem VRs.set_ {g : G} {w : World} {vs : List AV} {us : List Value} {i : Nat} {v' : AV} (hv : VRs g w vs us) (h1 : ∀ u, us[i]? = some u → VR g w v' u) : VRs g w (vs.set i v') us := by
  refine ⟨by simp [hv.1], fun j v u hj hu => ?_⟩
  rw [List.getElem?_set] at hj
  split at hj
  · rename_i q; subst q
    split at hj
    · injection hj with hj; subst hj; exact h1 u hu
    · cases hj
  · exact hv.2 j v u hj hu
theorem CallsA.nils (i : Nat) {ex : Bool} {xs : List AV} (hi : vs[i]? = some (.isl none ex xs)) (h1 : xs = [] → CallsA P f (vs.set i (.isl (some true) ex xs)) h n K) (h2 : CallsA P f (vs.set i (.isl (some false) ex xs)) h n K) : CallsA P f vs h n K := by
  intro g w us hr hv
  have hlt : i < us.length := by rw [hv.1]; exact (List.getElem?_eq_some_iff.1 hi).1
  rcases VR.isl_nil (hv.2 i _ us[i] hi (List.getElem?_eq_getElem hlt)) with ⟨q, q0⟩ | q
  · exact h1 q0 g w us hr (hv.set_ fun u hu => by rw [List.getElem?_eq_getElem hlt] at hu; injection hu with hu; subst hu; exact q)
  · exact h2 g w us hr (hv.set_ fun u hu => by rw [List.getElem?_eq_getElem hlt] at hu; injection hu with hu; subst hu; exact q)
/-- A function that answers, and turns nothing. -/
def PureF (P : Program) (f : Nat) (vs : List AV) (r : AV) : Prop := ∀ h n, CallsA P f vs h n fun r' h' _ => r' = r ∧ h' = h
theorem PureF.doCall {P : Program} {f : Nat} {vs : List AV} {r : AV} (hp : PureF P f vs r) {gr : Bool} {bad : List Nat} {st : St} {K : AV → Hp → Nat → Prop} (hk : ∀ n', st.n ≤ n' → K r st.h n') : Go.E3.doCall P f vs gr bad st K := by
  unfold Go.E3.doCall
  have hm : ∀ (F : Nat → Bool), merge (restr F st.h) st.h = st.h := by
    intro F
    funext id
    unfold merge restr
    split
    · rename_i ob q
      split at q
      · exact q.symm
      · cases q
    · rfl
  split
  · refine ⟨fun id => !bad.contains id, fun id hid => by simp [hid], ?_⟩
    refine (hp _ _).more.mono ?_
    rintro r' h' n' ⟨⟨rfl, rfl⟩, q2, _⟩
    refine ⟨fun id hid => ?_, fun id hid => .inl hid, ?_⟩
    · unfold restr at hid ⊢
      split
      · rfl
      · rename_i q; rw [if_neg q] at hid; exact absurd rfl hid
    · rw [hm]; exact hk n' q2
  · refine (hp _ _).more.mono ?_
    rintro r' h' n' ⟨⟨rfl, rfl⟩, q2, _⟩
    exact hk n' q2
theorem doCall_keep {st : St} {K : AV → Hp → Nat → Prop} (hc : CallsA P f vs st.h st.n fun r h n => (∀ id, st.h id ≠ none → h id = st.h id) ∧ (∀ id, h id ≠ none → st.h id ≠ none ∨ st.n ≤ id) ∧ K r h n) : Go.E3.doCall P f vs true [] st K := by
  unfold Go.E3.doCall
  rw [if_pos rfl]
  have e : restr (fun _ => true) st.h = st.h := by funext id; rfl
  refine ⟨fun _ => true, fun id hid => by simp at hid, ?_⟩
  rw [e]
  refine hc.mono ?_
  rintro r h n ⟨q1, q2, q3⟩
  refine ⟨q1, q2, ?_⟩
  have : merge h st.h = h := by
    funext id
    unfold merge
    cases hh : h id with
    | some ob => rfl
    | none =>
      simp only
      cases hs : st.h id with
      | none => rfl
      | some ob =>
        have := q1 id (by simp [hs])
        rw [hh, hs] at this; cases this
  rw [this]; exact q3
end
end Go.E3
