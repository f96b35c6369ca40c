/- The abstract machine: values, heap, the relation to the model's world. -/
import Derived.Orders
import Derived.Below
import Derived.Laws.AppendOwn
import Derived.Laws.Cells
import Derived.Laws.Rows
import Derived.Laws.StructEq
set_option linter.unusedSimpArgs false
set_option linter.unusedVariables false
namespace Go.E3
/-! ### Values and heaps -/
inductive AV where
  | int (k : IntKind) (n : Int)
  | bool (b : Bool)
  | str (s : ByteArray)
  | nilp
  | ptr (id sz i o : Nat)
  | iptr (cs : List AV)
  | sl (id sz off len cap : Nat) (ex : Bool)
  | isl (nl : Option Bool) (ex : Bool) (xs : List AV)
  | nilm
  | mapr (id : Nat)
  | fn (f : Nat) (caps : List AV)
  | nilfn
  | agg (cs : List AV)
  | tup (vs : List AV)
  deriving Inhabited
def AV.cells : AV → List AV
  | .agg cs => cs
  | v => [v]
def AV.flat : AV → Bool
  | .agg _ => false
  | .tup _ => false
  | _ => true
def AV.undef : AV := .tup []
def AV.nils : AV := .isl (some true) true []
inductive AObj where
  | arr (e : TypeId) (sz : Nat) (els : List AV)
  | mp (t : TypeId) (es : List (AV × AV))
abbrev Hp := Nat → Option AObj
def upd {α : Type} (f : Nat → α) (i : Nat) (v : α) : Nat → α := fun j => if j = i then v else f j
theorem upd_same {α : Type} (f : Nat → α) (i : Nat) (v : α) : upd f i v i = v := by simp [upd]
theorem upd_ne {α : Type} (f : Nat → α) {i j : Nat} (v : α) (h : j ≠ i) : upd f i v j = f j := by simp [upd, h]
structure St where
  s : Nat → AV
  h : Hp
  n : Nat
/-! ### The relation -/
structure G where
  ι : Nat → Nat × Nat
  im : Nat → Prop
  A : Nat → Prop
def Sized (w : World) (b m : Nat) : Prop := ∃ cur e fr, w.heap[b]? = some (.cells cur e fr) ∧ m ≤ cur.size
inductive VR (g : G) (w : World) : AV → Value → Prop
  | int (k : IntKind) (n : Int) : VR g w (.int k n) (.int k n)
  | bool (b : Bool) : VR g w (.bool b) (.bool b)
  | str (s : ByteArray) : VR g w (.str s) (.string s)
  | nilp : VR g w .nilp (.pointer none)
  | ptr (id sz i o b f : Nat) (hA : g.A id) (hi : g.ι id = (b, f)) : VR g w (.ptr id sz i o) (.pointer (some ⟨b, f + i * sz + o, none⟩))
  | iptr (cs : List AV) (a : Addr) (us : List Value) (hs : a.spot = none) (hl : us.length = cs.length) (him : cs ≠ [] → g.im a.block) (hf : ∀ c ∈ cs, AV.flat c = true)
      (hc : ∀ (j : Nat) (u : Value), us[j]? = some u → w.cell? (a.add j) = some u) (hv : ∀ (j : Nat) (c : AV) (u : Value), cs[j]? = some c → us[j]? = some u → VR g w c u) :
      VR g w (.iptr cs) (.pointer (some a))
  | sl (id sz off len cap : Nat) (ex : Bool) (b f c : Nat) (hA : g.A id) (hi : g.ι id = (b, f)) (h1 : len ≤ cap) (h2 : cap ≤ c) (h3 : ex = true → c = cap)
      (hz : Sized w b (f + (off + c) * sz)) : VR g w (.sl id sz off len cap ex) (.slice (some ⟨b, f + off * sz, none⟩) len c)
  | isl (nl : Option Bool) (ex : Bool) (xs : List AV) (sz : Nat) (A : Option Addr) (c : Nat) (us : List (List Value)) (hl : us.length = xs.length) (h1 : xs.length ≤ c) (h2 : ex = true → c = xs.length)
      (h3 : ∀ b, nl = some b → b = A.isNone) (h4 : A = none → c = 0) (hs : ∀ ad, A = some ad → ad.spot = none ∧ (xs ≠ [] → g.im ad.block))
      (hc : ∀ (i : Nat) (ul : List Value), us[i]? = some ul → ul.length = sz ∧ ∀ (ad : Addr), A = some ad → ∀ (j : Nat) (u : Value), ul[j]? = some u → w.cell? (ad.add (i * sz + j)) = some u)
      (hx : ∀ (i : Nat) (x : AV) (ul : List Value), xs[i]? = some x → us[i]? = some ul → x.cells.length = ul.length ∧ ∀ c ∈ x.cells, AV.flat c = true)
      (hv : ∀ (i : Nat) (x : AV) (ul : List Value), xs[i]? = some x → us[i]? = some ul → ∀ (j : Nat) (c : AV) (u : Value), x.cells[j]? = some c → ul[j]? = some u → VR g w c u) :
      VR g w (.isl nl ex xs) (.slice A xs.length c)
  | nilm : VR g w .nilm (.map none)
  | mapr (id b f : Nat) (hA : g.A id) (hi : g.ι id = (b, f)) : VR g w (.mapr id) (.map (some b))
  | fn (f : Nat) (caps : List AV) (us : List Value) (hl : us.length = caps.length) (hv : ∀ (j : Nat) (c : AV) (u : Value), caps[j]? = some c → us[j]? = some u → VR g w c u) :
      VR g w (.fn f caps) (.func (.func f) #[] us.toArray)
  | nilfn : VR g w .nilfn .nilFunc
  | agg (cs : List AV) (us : List Value) (hl : us.length = cs.length) (hf : ∀ c ∈ cs, AV.flat c = true) (hv : ∀ (j : Nat) (c : AV) (u : Value), cs[j]? = some c → us[j]? = some u → VR g w c u) :
      VR g w (.agg cs) (.agg us.toArray)
  | tup (cs : List AV) (us : List Value) (hl : us.length = cs.length) (hv : ∀ (j : Nat) (c : AV) (u : Value), cs[j]? = some c → us[j]? = some u → VR g w c u) :
      VR g w (.tup cs) (.tuple us.toArray)
theorem VR.oneCell {g : G} {w : World} {v : AV} {u : Value} (h : VR g w v u) (hf : v.flat = true) : u.oneCell' = true := by
  cases h <;> first | rfl | (simp [AV.flat] at hf)
def ObjR (g : G) (w : World) (id : Nat) : AObj → Prop
  | .arr e sz els => ∃ cur, w.heap[(g.ι id).1]? = some (.cells cur e (0, 0)) ∧ (g.ι id).2 + els.length * sz ≤ cur.size ∧
      ∀ i x, els[i]? = some x → x.cells.length = sz ∧ (∀ c ∈ x.cells, c.flat = true) ∧ ∀ j c, x.cells[j]? = some c → ∃ u, cur[(g.ι id).2 + i * sz + j]? = some u ∧ VR g w c u
  | .mp _ _ => False
structure Rel (g : G) (w : World) (h : Hp) (n : Nat) : Prop where
  live : ∀ id ob, h id = some ob → g.A id ∧ ObjR g w id ob
  inj : ∀ id id' ob ob', h id = some ob → h id' = some ob' → (g.ι id).1 = (g.ι id').1 → id = id'
  sep : ∀ id ob, h id = some ob → ¬ g.im (g.ι id).1
  blk : ∀ b, g.im b → b < w.heap.size
  lt : ∀ id, g.A id → id < n
structure Ext (g : G) (w : World) (h : Hp) (n : Nat) (g' : G) (w' : World) (h' : Hp) (n' : Nat) : Prop where
  le : n ≤ n'
  new : ∀ id, g'.A id → g.A id ∨ n ≤ id
  os : w'.os = w.os
  tape : w'.tape = w.tape
  output : w'.output = w.output
  size : w.heap.size ≤ w'.heap.size
  A : ∀ id, g.A id → g'.A id ∧ g'.ι id = g.ι id
  im : ∀ b, g.im b → g'.im b
  rw_ : ∀ id ob, h' id = some ob → (∃ id0 ob0, h id0 = some ob0 ∧ (g'.ι id).1 = (g.ι id0).1) ∨ w.heap.size ≤ (g'.ι id).1
  frame : ∀ b, b < w.heap.size → (∀ id ob, h id = some ob → (g.ι id).1 ≠ b) → w'.heap[b]? = w.heap[b]?
  sized : ∀ b m, Sized w b m → Sized w' b m
  imn : ∀ b, g'.im b → g.im b ∨ (∃ id ob, h id = some ob ∧ (g.ι id).1 = b) ∨ w.heap.size ≤ b
theorem Ext.refl (g : G) (w : World) (h : Hp) (n : Nat) : Ext g w h n g w h n :=
  ⟨Nat.le_refl _, fun _ h => .inl h, rfl, rfl, rfl, Nat.le_refl _, fun _ h => ⟨h, rfl⟩, fun _ h => h, fun id ob hob => .inl ⟨id, ob, hob, rfl⟩, fun _ _ _ => rfl, fun _ _ h => h, fun _ h => .inl h⟩
theorem Ext.trans {g g1 g2 : G} {w w1 w2 : World} {h h1 h2 : Hp} {n n1 n2 : Nat} (a : Ext g w h n g1 w1 h1 n1) (b : Ext g1 w1 h1 n1 g2 w2 h2 n2) : Ext g w h n g2 w2 h2 n2 where
  le := Nat.le_trans a.le b.le
  new := fun id hA => by
    rcases b.new id hA with h | h
    · exact a.new id h
    · exact .inr (Nat.le_trans a.le h)
  os := b.os.trans a.os
  tape := b.tape.trans a.tape
  output := b.output.trans a.output
  size := Nat.le_trans a.size b.size
  A := fun id hA => ⟨(b.A id (a.A id hA).1).1, (b.A id (a.A id hA).1).2.trans (a.A id hA).2⟩
  im := fun x hx => b.im x (a.im x hx)
  rw_ := fun id ob hob => by
    rcases b.rw_ id ob hob with ⟨id0, ob0, h0, e0⟩ | hge
    · rcases a.rw_ id0 ob0 h0 with ⟨id1, ob1, h1, e1⟩ | hge
      · exact .inl ⟨id1, ob1, h1, e0.trans e1⟩
      · exact .inr (by rw [e0]; exact hge)
    · exact .inr (Nat.le_trans a.size hge)
  frame := fun x hx hne => by
    rw [b.frame x (Nat.lt_of_lt_of_le hx a.size) (fun id ob hob e => ?_), a.frame x hx hne]
    rcases a.rw_ id ob hob with ⟨id0, ob0, h0, e0⟩ | hge
    · exact hne id0 ob0 h0 (e0.symm.trans e)
    · omega
  sized := fun x m hs => b.sized x m (a.sized x m hs)
  imn := fun x hx => by
    rcases b.imn x hx with h | ⟨id, ob, hob, e⟩ | h
    · exact a.imn x h
    · rcases a.rw_ id ob hob with ⟨id0, ob0, h0, e0⟩ | hge
      · exact .inr (.inl ⟨id0, ob0, h0, e0.symm.trans e⟩)
      · exact .inr (.inr (by omega))
    · exact .inr (.inr (Nat.le_trans a.size h))
theorem VR.mono {g g' : G} {w w' : World} (hA : ∀ id, g.A id → g'.A id ∧ g'.ι id = g.ι id) (him : ∀ b, g.im b → g'.im b)
    (hk : ∀ b, g.im b → w'.heap[b]? = w.heap[b]?) (hz : ∀ b m, Sized w b m → Sized w' b m) {v : AV} {u : Value} (h : VR g w v u) : VR g' w' v u := by
  induction h with
  | int k n => exact .int k n
  | bool b => exact .bool b
  | str s => exact .str s
  | nilp => exact .nilp
  | ptr id sz i o b f h1 h2 => exact .ptr id sz i o b f (hA id h1).1 ((hA id h1).2.trans h2)
  | iptr cs a us hs hl hm hf hc _ ih =>
    refine .iptr cs a us hs hl (fun hne => him _ (hm hne)) hf (fun j u hj => ?_) ih
    have hne : cs ≠ [] := by
      rintro rfl
      have : us = [] := List.length_eq_zero_iff.1 (by simpa using hl)
      simp [this] at hj
    have hb : (a.add j).block = a.block := by unfold Addr.add; split <;> rfl
    rw [World.cell?_of_block (w := w) (by rw [hb]; exact hk _ (hm hne))]
    exact hc j u hj
  | sl id sz off len cap ex b f c h1 h2 h3 h4 h5 h6 => exact .sl id sz off len cap ex b f c (hA id h1).1 ((hA id h1).2.trans h2) h3 h4 h5 (hz _ _ h6)
  | isl nl ex xs sz A c us hl h1 h2 h3 h4 hs hc hx _ ih =>
    refine .isl nl ex xs sz A c us hl h1 h2 h3 h4 (fun ad ha => ⟨(hs ad ha).1, fun hne => him _ ((hs ad ha).2 hne)⟩) (fun i ul hi => ⟨(hc i ul hi).1, fun ad ha j u hj => ?_⟩) hx ih
    have hne : xs ≠ [] := by
      rintro rfl
      have : us = [] := List.length_eq_zero_iff.1 (by simpa using hl)
      simp [this] at hi
    have hb : (ad.add (i * sz + j)).block = ad.block := by unfold Addr.add; split <;> rfl
    rw [World.cell?_of_block (w := w) (by rw [hb]; exact hk _ ((hs ad ha).2 hne))]
    exact (hc i ul hi).2 ad ha j u hj
  | nilm => exact .nilm
  | mapr id b f h1 h2 => exact .mapr id b f (hA id h1).1 ((hA id h1).2.trans h2)
  | fn f caps us hl _ ih => exact .fn f caps us hl ih
  | nilfn => exact .nilfn
  | agg cs us hl hf _ ih => exact .agg cs us hl hf ih
  | tup cs us hl _ ih => exact .tup cs us hl ih
theorem Ext.vr {g g' : G} {w w' : World} {h h' : Hp} {n n' m : Nat} (e : Ext g w h m g' w' h' n') (r : Rel g w h n) {v : AV} {u : Value} (hv : VR g w v u) : VR g' w' v u :=
  hv.mono e.A e.im (fun b hb => e.frame b (r.blk b hb) (fun id ob hob he => r.sep id ob hob (he ▸ hb))) e.sized
end Go.E3
