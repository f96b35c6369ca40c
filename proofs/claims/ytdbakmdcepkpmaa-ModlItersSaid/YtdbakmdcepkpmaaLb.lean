/- The abstract machine: operations, code, and what a run of them must meet. -/
import Derived.Test.YtdbakmdcepkpmaaLa
import Derived.Laws.Bits
import Derived.Laws.Entries
set_option linter.unusedSimpArgs false
set_option linter.unusedVariables false
namespace Go.E3
inductive AX where
  | t (i : Nat)
  | c (v : AV)
def AX.ev (s : Nat → AV) : AX → AV
  | .t i => s i
  | .c v => v
inductive AOp where
  | mov (x : AX)
  | pick (c a b : AX)
  | build (z : List AV) (ps : List (Nat × Nat × AX))
  | ext (x : AX) (i : Nat)
  | fld (x : AX) (off size : Nat) (ag : Bool)
  | bin (op : BinOp) (x y : AX)
  | bib (neg : Bool) (x y : AX)
  | eqa (neg : Bool) (ks : List Nat) (x y : AX)
  | isn (kd : Nat) (neg : Bool) (x : AX)
  | un (op : UnOp) (x : AX)
  | cvt (k : IntKind) (x : AX)
  | mkf (f : Nat) (cs : List AX)
  | slc (sz : Nat) (x : AX) (lo hi mx : Option AX)
  | fa (x : AX) (off : Nat)
  | ia (sz : Nat) (x i : AX)
  | iaa (n sz : Nat) (x i : AX)
  | nck (x : AX)
  | len (x : AX)
  | lens (x : AX)
  | cap (x : AX)
  | max (xs : List AX)
  | min (xs : List AX)
  | ld (x : AX) (size : Nat) (ag : Bool)
  | box (e : TypeId) (x : AX)
  | new (e : TypeId) (z : AV)
  | bsl (e : TypeId) (sz len : Nat) (z : List AV) (ps : List (Nat × AX))
  | app (e : TypeId) (sz bytes : Nat) (s x : AX)
  | apn (e : TypeId) (sz bytes : Nat) (ze : AV) (s x : AX)
  | apz (e : TypeId) (sz bytes : Nat) (ze : AV) (s k : AX)
  | st (x : AX) (size : Nat) (v : AX)
  | cpy (sz : Nat) (d s : AX)
  | clr (sz : Nat) (z : List AV) (x : AX)
  | callS (f : Nat) (args : List AX) (g : Bool)
  | callV (x : AX) (args : List AX) (g : Bool)
structure AOper where
  dst : Option Nat
  gd : Option (Nat × Bool)
  op : AOp
  ix : Nat
  av : List Nat
  avx : List Nat
  rt : List Nat
  tg : List Nat
inductive ACode where
  | skip
  | rgn (k : Nat) (ops : List AOper)
  | seq (a b : ACode)
  | cond (c : AX) (a b : ACode)
  | block (id : Nat) (c : ACode)
  | loop (c : ACode)
  | exit (id : Nat)
  | ret
/-! ### Pure operations -/
def binI (op : BinOp) (k : IntKind) (a b : Int) : Option AV :=
  match op with
  | .add => some (.int k (k.wrap (a + b)))
  | .sub => some (.int k (k.wrap (a - b)))
  | .mul => some (.int k (k.wrap (a * b)))
  | .quo => if b = 0 then none else some (.int k (k.wrap (a.tdiv b)))
  | .rem => if b = 0 then none else some (.int k (a.tmod b))
  | .and => some (.int k (Go.bits .and k a b))
  | .or => some (.int k (Go.bits .or k a b))
  | .xor => some (.int k (Go.bits .xor k a b))
  | .andNot => some (.int k (Go.bits .andNot k a b))
  | .eql => some (.bool (a == b))
  | .neq => some (.bool (a != b))
  | .lss => some (.bool (decide (a < b)))
  | .leq => some (.bool (decide (a ≤ b)))
  | .gtr => some (.bool (decide (a > b)))
  | .geq => some (.bool (decide (a ≥ b)))
  | _ => none
def shI (op : BinOp) (k : IntKind) (a b : Int) : Option AV :=
  if b < 0 then none else
  match op with
  | .shl => some (.int k (k.wrap (a * 2 ^ (Min.min b.toNat k.bits))))
  | .shr => some (.int k (a.fdiv (2 ^ (Min.min b.toNat k.bits))))
  | _ => none
def isShift : BinOp → Bool
  | .shl => true
  | .shr => true
  | _ => false
/-- Whether a value is nil: a pointer (0), a slice (1), a map (2), a function (3). -/
def isNilA : Nat → AV → Option Bool
  | 0, .nilp => some true
  | 0, .ptr .. => some false
  | 0, .iptr _ => some false
  | 1, .isl nl _ _ => nl
  | 1, .sl .. => some false
  | 2, .nilm => some true
  | 2, .mapr _ => some false
  | 3, .nilfn => some true
  | 3, .fn .. => some false
  | _, _ => none
def binA (op : BinOp) (x y : AV) : Option AV :=
  match x, y with
  | .int k a, .int k' b => if isShift op then shI op k a b else if k = k' then binI op k a b else none
  | .str a, .str b => match op with
    | .eql => some (.bool (a.toList == b.toList))
    | .neq => some (.bool (!(a.toList == b.toList)))
    | _ => none
  | _, _ => none
def unA (op : UnOp) (x : AV) : Option AV :=
  match op, x with
  | .neg, .int k n => some (.int k (k.wrap (0 - n)))
  | .xor, .int k n => binI .xor k (if k.signed then -1 else k.max) n
  | .not, .bool b => some (.bool (!b))
  | _, _ => none
def seg (cs : List AV) (o size : Nat) (ag : Bool) : Option AV :=
  if o + size ≤ cs.length then (if ag then some (.agg ((cs.drop o).take size)) else if size = 1 then cs[o]? else none) else none
/-- Scalars of a struct, compared cell by cell; the kinds: an int (0), a bool (1), a string (2). -/
def eqCell : Nat → AV → AV → Option Bool
  | 0, .int k a, .int k' b => if k = k' then some (a == b) else none
  | 1, .bool a, .bool b => some (a == b)
  | 2, .str a, .str b => some (a.toList == b.toList)
  | _, _, _ => none
def eqCells : List Nat → List AV → List AV → Option Bool
  | [], [], [] => some true
  | k :: ks, a :: as, b :: bs => match eqCell k a b, eqCells ks as bs with
    | some x, some y => some (x && y)
    | _, _ => none
  | _, _, _ => none
def slcA (v : AV) (sz : Nat) (l h : Option Int) (m : Option Int) : Option AV :=
  match v with
  | .isl nl ex xs =>
    let n : Int := xs.length
    let h' := h.getD n
    let l' := l.getD 0
    if xs.all (fun x => x.cells.length == sz) = false then none else
    match m with
    | none => if 0 ≤ l' ∧ l' ≤ h' ∧ h' ≤ n then some (.isl nl (ex && decide (h' = n)) ((xs.take h'.toNat).drop l'.toNat)) else none
    | some m => if 0 ≤ l' ∧ l' ≤ h' ∧ h' ≤ m ∧ m ≤ n then some (.isl nl (decide (h' = m)) ((xs.take h'.toNat).drop l'.toNat)) else none
  | .sl id sz' off len cap ex =>
    let h' := h.getD len
    let l' := l.getD 0
    if sz = sz' then
      match m with
      | none => if 0 ≤ l' ∧ l' ≤ h' ∧ h' ≤ cap then
          (if l' < cap then some (.sl id sz (off + l'.toNat) (h' - l').toNat (cap - l'.toNat) ex) else if l' = 0 then some (.sl id sz off h'.toNat cap ex) else some (.isl (some false) ex [])) else none
      | some m => if 0 ≤ l' ∧ l' ≤ h' ∧ h' ≤ m ∧ m ≤ cap then
          (if l' < m then some (.sl id sz (off + l'.toNat) (h' - l').toNat (m - l').toNat true) else some (.isl (some false) true [])) else none
    else none
  | _ => none
def slcO (v : AV) (sz : Nat) (l h m : Option (Option Int)) : Option AV :=
  if l = some none ∨ h = some none ∨ m = some none then none else slcA v sz l.join h.join m.join
def foldA (f : Int → Int → Int) : List AV → Option AV
  | .int k a :: r => r.foldl (fun acc v => match acc, v with
    | some (.int k x), .int k' y => if k = k' then some (.int k (f x y)) else none
    | _, _ => none) (some (.int k a))
  | _ => none
def splice (cs : List AV) (o : Nat) (us : List AV) : List AV := cs.take o ++ us ++ cs.drop (o + us.length)
def fillA (s : Nat → AV) (cs : List AV) : List (Nat × Nat × AX) → Option (List AV)
  | [] => some cs
  | (o, size, x) :: r =>
    let v := x.ev s
    if v.cells.length = size ∧ o + size ≤ cs.length ∧ v.cells.all AV.flat then fillA s (splice cs o v.cells) r else none
/-- An array's elements out of cells: size by size. -/
def chunk (sz : Nat) : Nat → List AV → List AV
  | 0, _ => []
  | n + 1, cs => .agg (cs.take sz) :: chunk sz n (cs.drop sz)
def faA (off : Nat) : AV → Option AV
  | .ptr id sz i o => some (.ptr id sz i (o + off))
  | .iptr cs => some (.iptr (cs.drop off))
  | _ => none
def iaA (sz : Nat) (x i : AV) : Option AV :=
  match x, i with
  | .isl _ _ xs, .int _ n => if 0 ≤ n then (match xs[n.toNat]? with
    | some e => if e.cells.length = sz then some (.iptr e.cells) else none
    | none => none) else none
  | .sl id sz' off len _ _, .int _ n => if sz = sz' ∧ 0 ≤ n ∧ n < len then some (.ptr id sz (off + n.toNat) 0) else none
  | _, _ => none
def iaaA (m sz : Nat) (x i : AV) : Option AV :=
  match x, i with
  | .ptr id z j o, .int _ n => if 0 ≤ n ∧ n < m then some (.ptr id z j (o + n.toNat * sz)) else none
  | .iptr cs, .int _ n => if 0 ≤ n ∧ n < m then some (.iptr (cs.drop (n.toNat * sz))) else none
  | _, _ => none
def bibA (neg : Bool) (x y : AV) : Option AV :=
  match x, y with
  | .bool a, .bool b => some (.bool (if neg then !(a == b) else (a == b)))
  | _, _ => none
def eqaA (neg : Bool) (ks : List Nat) (x y : AV) : Option AV :=
  match x, y with
  | .agg xs, .agg ys => (eqCells ks xs ys).map fun b => .bool (if neg then !b else b)
  | _, _ => none
def nckA : AV → Option AV
  | .ptr id sz i o => some (.ptr id sz i o)
  | .iptr cs => some (.iptr cs)
  | .fn f cs => some (.fn f cs)
  | _ => none
def lenA : AV → Option AV
  | .isl _ _ xs => some (.int .i64 xs.length)
  | .sl _ _ _ len _ _ => some (.int .i64 len)
  | _ => none
def lensA : AV → Option AV
  | .str b => some (.int .i64 b.size)
  | _ => none
def capA : AV → Option AV
  | .isl _ true xs => some (.int .i64 xs.length)
  | .sl _ _ _ _ cap true => some (.int .i64 cap)
  | _ => none
def extA (i : Nat) : AV → Option AV
  | .tup vs => vs[i]?
  | _ => none
def fldA (off size : Nat) (ag : Bool) : AV → Option AV
  | .agg cs => seg cs off size ag
  | _ => none
def pickA (c a b : AV) : Option AV :=
  match c with
  | .bool t => some (if t then a else b)
  | _ => none
def cvtA (k : IntKind) : AV → Option AV
  | .int _ n => some (.int k (k.wrap n))
  | _ => none
def intOf? : AV → Option Int
  | .int _ n => some n
  | _ => none
def evP (op : AOp) (s : Nat → AV) : Option AV :=
  match op with
  | .mov x => some (x.ev s)
  | .pick c a b => pickA (c.ev s) (a.ev s) (b.ev s)
  | .build z ps => (fillA s z ps).map .agg
  | .ext x i => extA i (x.ev s)
  | .fld x off size ag => fldA off size ag (x.ev s)
  | .bin op x y => binA op (x.ev s) (y.ev s)
  | .bib neg x y => bibA neg (x.ev s) (y.ev s)
  | .eqa neg ks x y => eqaA neg ks (x.ev s) (y.ev s)
  | .isn kd neg x => (isNilA kd (x.ev s)).map fun b => .bool (if neg then !b else b)
  | .un op x => unA op (x.ev s)
  | .cvt k x => cvtA k (x.ev s)
  | .mkf f cs => some (.fn f (cs.map (·.ev s)))
  | .slc sz x lo hi mx => slcO (x.ev s) sz (lo.map fun y => intOf? (y.ev s)) (hi.map fun y => intOf? (y.ev s)) (mx.map fun y => intOf? (y.ev s))
  | .fa x off => faA off (x.ev s)
  | .ia sz x i => iaA sz (x.ev s) (i.ev s)
  | .iaa m sz x i => iaaA m sz (x.ev s) (i.ev s)
  | .nck x => nckA (x.ev s)
  | .len x => lenA (x.ev s)
  | .lens x => lensA (x.ev s)
  | .cap x => capA (x.ev s)
  | .max xs => foldA (fun x y => if y > x then y else x) (xs.map (·.ev s))
  | .min xs => foldA (fun x y => if y < x then y else x) (xs.map (·.ev s))
  | _ => none
/-! ### Operations on the heap -/
def ldE (h : Hp) (p : AV) (size : Nat) (ag : Bool) : Option AV :=
  match p with
  | .ptr id sz i o => match h id with
    | some (.arr _ sz' els) => if sz = sz' then (match els[i]? with
      | some x => seg x.cells o size ag
      | none => none) else none
    | _ => none
  | .iptr cs => seg cs 0 size ag
  | _ => none
def repack (x : AV) (cs : List AV) : AV :=
  match x with
  | .agg _ => .agg cs
  | _ => cs.headD .undef
def stE (h : Hp) (p v : AV) (size : Nat) : Option Hp :=
  match p with
  | .ptr id sz i o => match h id with
    | some (.arr e sz' els) => if sz = sz' ∧ v.cells.length = size ∧ v.cells.all AV.flat then (match els[i]? with
      | some x => if o + size ≤ x.cells.length then some (upd h id (some (.arr e sz (els.set i (repack x (splice x.cells o v.cells)))))) else none
      | none => none) else none
    | _ => none
  | _ => none
/-- A slice's elements. -/
def elems (h : Hp) (v : AV) (sz : Nat) : Option (List AV) :=
  match v with
  | .isl _ _ xs => if xs.all (fun x => x.cells.length == sz) then some xs else none
  | .sl id sz' off len _ _ => match h id with
    | some (.arr _ sz2 els) => if sz = sz' ∧ sz = sz2 ∧ off + len ≤ els.length then some ((els.drop off).take len) else none
    | _ => none
  | _ => none
def appE (h : Hp) (nw : Nat) (e : TypeId) (sz bytes : Nat) (v x : AV) : Option (AV × Hp) :=
  match elems h x sz with
  | none => none
  | some ys =>
    match v with
    | .isl nl ex xs =>
      if ys = [] then some (v, h)
      else if ex = true ∧ xs.all (fun x => x.cells.length == sz) ∧ (xs.length + ys.length) * bytes ≤ 140737488355328 ∧ xs.length + ys.length ≤ 9223372036854775807 then
        some (.sl nw sz 0 (xs.length + ys.length) (xs.length + ys.length) false, upd h nw (some (.arr e sz (xs ++ ys))))
      else none
    | .sl id sz' off len cap ex => match h id with
      | some (.arr e' sz2 els) =>
        if sz = sz' ∧ sz = sz2 then
          if ys = [] then some (v, h)
          else if len + ys.length ≤ cap then
            (if off + len + ys.length ≤ els.length then
              some (.sl id sz off (len + ys.length) cap ex, upd h id (some (.arr e' sz (els.take (off + len) ++ ys ++ els.drop (off + len + ys.length))))) else none)
          else if off + len ≤ els.length ∧ (len + ys.length) * bytes ≤ 140737488355328 ∧ len + ys.length ≤ 9223372036854775807 ∧ e = e' then
            some (.sl nw sz 0 (len + ys.length) (len + ys.length) false,
              upd (if ex then h else upd h id none) nw (some (.arr e sz ((els.drop off).take len ++ ys))))
          else none
        else none
      | _ => none
    | _ => none
def cpyE (h : Hp) (sz : Nat) (d x : AV) : Option (AV × Hp) :=
  match elems h x sz with
  | none => none
  | some ys => match d with
    | .isl _ _ [] => some (.int .i64 0, h)
    | .sl id sz' off len _ _ => match h id with
      | some (.arr e sz2 els) => if sz = sz' ∧ sz = sz2 ∧ off + len ≤ els.length then
          some (.int .i64 (Min.min ys.length len : Nat), upd h id (some (.arr e sz (els.take off ++ ys.take (Min.min ys.length len) ++ els.drop (off + Min.min ys.length len))))) else none
      | _ => none
    | _ => none
def clrE (h : Hp) (sz : Nat) (z : List AV) (x : AV) : Option (AV × Hp) :=
  match x with
  | .isl _ _ [] => some (.undef, h)
  | .sl id sz' off len _ _ => match h id with
    | some (.arr e sz2 els) => if sz = sz' ∧ sz = sz2 ∧ off + len ≤ els.length ∧ z.length = sz then
        some (.undef, upd h id (some (.arr e sz (els.take off ++ List.replicate len (if sz = 1 then z.headD .undef else .agg z) ++ els.drop (off + len))))) else none
    | _ => none
  | _ => none
def evS (op : AOp) (nw : Nat) (st : St) : Option (AV × Hp) :=
  match op with
  | .ld x size ag => (ldE st.h (x.ev st.s) size ag).map fun v => (v, st.h)
  | .box e x => let v := x.ev st.s
    if v.cells.all AV.flat then some (.ptr nw v.cells.length 0 0, upd st.h nw (some (.arr e v.cells.length [v]))) else none
  | .new e z => if z.cells.all AV.flat then some (.ptr nw z.cells.length 0 0, upd st.h nw (some (.arr e z.cells.length [z]))) else none
  | .bsl e sz len z ps => match fillA st.s z (ps.map fun p => (p.1 * sz, sz, p.2)) with
    | some cs => some (.sl nw sz 0 len len true, upd st.h nw (some (.arr e sz (if sz = 1 then cs else chunk sz len cs))))
    | none => none
  | .app e sz bytes s x => appE st.h nw e sz bytes (s.ev st.s) (x.ev st.s)
  | .st x size v => (stE st.h (x.ev st.s) (v.ev st.s) size).map fun h => (.undef, h)
  | .cpy sz d s => cpyE st.h sz (d.ev st.s) (s.ev st.s)
  | .clr sz z x => clrE st.h sz z (x.ev st.s)
  | op => (evP op st.s).map fun v => (v, st.h)
/-! ### What a call, an operation, code must meet -/
def VRs (g : G) (w : World) (vs : List AV) (us : List Value) : Prop := us.length = vs.length ∧ ∀ (j : Nat) (v : AV) (u : Value), vs[j]? = some v → us[j]? = some u → VR g w v u
/-- What a call comes to: an extern answers here and now, a function with a body is entered. -/
def Ent (P : Program) (f : Nat) (us : Array Value) (w : World) (R : Value → World → Prop) : Prop :=
  match (callFunc f us).run P w with
  | .ok (.value v) w' => R v w'
  | .ok (.enter f' us') w' => Calls P f' us' w' fun e w'' => ∃ u, e = .returned u ∧ R u w''
  | _ => False
def CallsA (P : Program) (f : Nat) (vs : List AV) (h : Hp) (n : Nat) (K : AV → Hp → Nat → Prop) : Prop :=
  ∀ (g : G) (w : World) (us : List Value), Rel g w h n → VRs g w vs us →
    Ent P f us.toArray w fun u w' => ∃ g' r h' n', K r h' n' ∧ Rel g' w' h' n' ∧ VR g' w' r u ∧ Ext g w h n g' w' h' n'
def St.put (st : St) (d : Option Nat) (v : AV) : St :=
  match d with
  | some d => { st with s := upd st.s d v }
  | none => st
def noHp : Hp := fun _ => none
def merge (a b : Hp) : Hp := fun id => match a id with
  | some o => some o
  | none => b id
/-- The part of a heap that a call is handed. -/
def restr (F : Nat → Bool) (h : Hp) : Hp := fun id => if F id then h id else none
/-- A call. Where it is told to keep (g): it is handed a part of the heap, without the objects in 'bad', and turns nothing of it. -/
def doCall (P : Program) (f : Nat) (vs : List AV) (g : Bool) (bad : List Nat) (st : St) (K : AV → Hp → Nat → Prop) : Prop :=
  if g then ∃ F : Nat → Bool, (∀ id ∈ bad, F id = false) ∧ CallsA P f vs (restr F st.h) st.n fun r h n =>
    (∀ id, restr F st.h id ≠ none → h id = st.h id) ∧ (∀ id, h id ≠ none → restr F st.h id ≠ none ∨ st.n ≤ id) ∧ K r (merge h st.h) n
  else CallsA P f vs st.h st.n K
def AV.ids : AV → List Nat
  | .ptr id _ _ _ => [id]
  | .sl id _ _ _ _ _ => [id]
  | .mapr id => [id]
  | _ => []
/-- The objects that an operation reads or turns; those that it turns. -/
def AOp.reads (op : AOp) (s : Nat → AV) : List Nat :=
  match op with
  | .ld x _ _ => (x.ev s).ids
  | .st x _ _ => (x.ev s).ids
  | .app _ _ _ a x => (a.ev s).ids ++ (x.ev s).ids
  | .cpy _ d x => (d.ev s).ids ++ (x.ev s).ids
  | .clr _ _ x => (x.ev s).ids
  | _ => []
def AOp.tgt (op : AOp) (s : Nat → AV) : List Nat :=
  match op with
  | .st x _ _ => (x.ev s).ids
  | .app _ _ _ a _ => (a.ev s).ids
  | .cpy _ d _ => (d.ev s).ids
  | .clr _ _ x => (x.ev s).ids
  | _ => []
def clearOf (o : AOper) (n0 : Nat) (s : Nat → AV) : Bool :=
  (o.av.all fun m => !(o.op.reads s).contains (n0 + m)) && (o.avx.all fun t => (s t).ids.all fun id => !(o.op.tgt s).contains id) &&
  (o.rt.isEmpty || (o.op.reads s).all fun id => o.rt.any fun r => (s r).ids.contains id) && (o.tg.isEmpty || (o.op.tgt s).all fun id => o.tg.any fun m => id == n0 + m)
/-- A slice's capacity, where it is known. -/
def capX : AV → Option Nat
  | .isl _ true xs => some xs.length
  | .sl _ _ _ _ cap true => some cap
  | _ => none
/-- An append whose array's capacity is told: whatever it is. -/
def apnW (h : Hp) (nw : Nat) (e : TypeId) (sz bytes : Nat) (ze v x : AV) (K : AV → Hp → Prop) : Prop :=
  match elems h x sz, elems h v sz, capX v with
  | some ys, some xs, some c0 => if ys = [] then K v h else
    (c0 < xs.length + ys.length ∧ (xs.length + ys.length) * bytes ≤ 140737488355328 ∧ xs.length + ys.length ≤ 9223372036854775807) ∧
    ∀ c, xs.length + ys.length ≤ c → K (.sl nw sz 0 (xs.length + ys.length) c true) (upd h nw (some (.arr e sz (xs ++ ys ++ List.replicate (c - (xs.length + ys.length)) ze))))
  | _, _, _ => False
/-- An append of zeros, where there is no room. -/
def apzW (h : Hp) (nw : Nat) (e : TypeId) (sz bytes : Nat) (ze v k : AV) (K : AV → Hp → Prop) : Prop :=
  match v, k with
  | .sl id sz' off len cap true, .int _ m => match h id with
    | some (.arr _ sz2 els) => (sz = sz' ∧ sz = sz2 ∧ 0 ≤ m ∧ cap < len + m.toNat ∧ off + len ≤ els.length ∧ (len + m.toNat) * bytes ≤ 140737488355328 ∧ len + m.toNat ≤ 9223372036854775807) ∧
      K (.sl nw sz 0 (len + m.toNat) (len + m.toNat) false) (upd h nw (some (.arr e sz ((els.drop off).take len ++ List.replicate m.toNat ze))))
    | _ => False
  | _, _ => False
def wpOp1 (P : Program) (o : AOper) (n0 : Nat) (K : St → Prop) (st : St) : Prop :=
  match o.op with
  | .callS f args g => doCall P f (args.map (·.ev st.s)) g (o.av.map (n0 + ·)) st fun r h n => K (St.put { st with h := h, n := n } o.dst r)
  | .callV x args g => match x.ev st.s with
    | .fn f caps => doCall P f (args.map (·.ev st.s) ++ caps) g (o.av.map (n0 + ·)) st fun r h n => K (St.put { st with h := h, n := n } o.dst r)
    | _ => False
  | .apn e sz bytes ze s x => apnW st.h (n0 + o.ix) e sz bytes ze (s.ev st.s) (x.ev st.s) fun v h => K (St.put { st with h := h } o.dst v)
  | .apz e sz bytes ze s k => apzW st.h (n0 + o.ix) e sz bytes ze (s.ev st.s) (k.ev st.s) fun v h => K (St.put { st with h := h } o.dst v)
  | op => match evS op (n0 + o.ix) st with
    | some (v, h) => clearOf o n0 st.s = true ∧ K (St.put { st with h := h } o.dst v)
    | none => False
def wpOps (P : Program) : List AOper → Nat → (St → Prop) → St → Prop
  | [], _, K, st => K st
  | o :: r, n0, K, st => match o.gd with
    | none => wpOp1 P o n0 (wpOps P r n0 K) st
    | some (t, b) => match st.s t with
      | .bool c => if c = b then wpOp1 P o n0 (wpOps P r n0 K) st else wpOps P r n0 K (st.put o.dst .undef)
      | _ => False
inductive Out where
  | normal
  | exit (id : Nat)
  | ret
def wpA (P : Program) : ACode → (Out → St → Prop) → St → Prop
  | .skip, Q, st => Q .normal st
  | .rgn k ops, Q, st => wpOps P ops st.n (Q .normal) { st with n := st.n + k }
  | .seq a b, Q, st => wpA P a (fun o st => match o with
    | .normal => wpA P b Q st
    | o => Q o st) st
  | .cond c a b, Q, st => match c.ev st.s with
    | .bool t => if t = true then wpA P a Q st else wpA P b Q st
    | _ => False
  | .block id c, Q, st => wpA P c (fun o st => match o with
    | .exit j => if j = id then Q .normal st else Q (.exit j) st
    | o => Q o st) st
  | .loop c, Q, st => ∃ (I : Nat → St → Prop) (k : Nat), I k st ∧ ∀ k st, I k st → wpA P c (fun o st => match o with
    | .normal => ∃ k', k' < k ∧ I k' st
    | o => Q o st) st
  | .exit id, Q, st => Q (.exit id) st
  | .ret, Q, st => Q .ret st
end Go.E3
