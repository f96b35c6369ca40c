/- Local variables without memory: the turning of code, and that it is right. -/
import Derived.Test.YtdbakmdcepkpmaaLua
set_option linter.unusedSimpArgs false
set_option linter.unusedVariables false
namespace Go.E3
/-- Which temporaries are boxes (and of how many cells), which may point into one. -/
structure UB where
  N : Nat
  bx : List (Nat × Nat)
  tn : List Nat
def UB.nrm (u : UB) (t : Nat) : Bool := decide (t < u.N) && (u.bx.lookup t).isNone && !u.tn.contains t
def UB.nx (u : UB) : AX → Bool
  | .t i => u.nrm i
  | .c _ => true
structure Cx where
  M : List (Nat × Nat × Nat × Option (Nat × Bool))
  cr : List (Nat × Nat)
  dn : List Nat
  fo : Bool
  ok : List Nat
def UB.look (u : UB) (c : Cx) (g : Option (Nat × Bool)) : AX → Option (Nat × Nat)
  | .t i => match u.bx.lookup i with
    | some _ => some (i, 0)
    | none => match c.M.lookup i with
      | some (t0, off, gd) => if gd = none ∨ gd = g then some (t0, off) else none
      | none => none
  | .c _ => none
def gdN (u : UB) : Option (Nat × Bool) → Bool
  | some (t, _) => u.nrm t
  | none => true
def dstN (u : UB) : Option Nat → Bool
  | some d => u.nrm d
  | none => true
/-- What is known of aliases where a temporary is written anew. -/
def clrM (M : List (Nat × Nat × Nat × Option (Nat × Bool))) (d : Option Nat) : List (Nat × Nat × Nat × Option (Nat × Bool)) :=
  if M.any (fun p => match p.2.2.2, d with
    | some (t, _), some d => t == d
    | _, _ => false) then [] else M
def pop (d : Option Nat) (g : Option (Nat × Bool)) (op : AOp) (ix : Nat) : AOper := ⟨d, g, op, ix, [], [], [], []⟩
def freeCall : AOp → Bool
  | .callS _ _ g => !g
  | .callV _ _ g => !g
  | _ => false
def AOp.dyn : AOp → Bool
  | .callS .. => false
  | .callV .. => false
  | _ => true
def ubNorm (u : UB) (c : Cx) (o : AOper) : Option (List AOper × Cx) :=
  if o.op.slots.all u.nrm && dstN u o.dst && o.rt.all u.nrm && o.avx.all (fun t => u.nrm t || (match u.look c o.gd (.t t) with
    | some (t1, _) => c.ok.contains t1
    | none => false)) then
    some ([{ o with avx := o.avx.filter u.nrm }], { c with M := clrM c.M o.dst, dn := o.ix :: c.dn, fo := c.fo && !freeCall o.op }) else none
def ubAlias (u : UB) (c : Cx) (o : AOper) (t0 off : Nat) : Option (List AOper × Cx) :=
  match o.dst with
  | some tk => if u.tn.contains tk && (u.bx.lookup tk).isNone && decide (tk < u.N) then
      some ([pop (some tk) o.gd (.fld (.t t0) 0 0 true) o.ix], { c with M := (tk, t0, off, o.gd) :: c.M, dn := o.ix :: c.dn, ok := if o.gd = none then t0 :: c.ok else c.ok }) else none
  | none => none
def ldOk (u : UB) (c : Cx) (o : AOper) (t0 : Nat) : Bool := dstN u o.dst && (match c.cr.lookup t0 with
    | some i => !o.av.contains i
    | none => true) && (o.rt.isEmpty || o.rt.any (fun r => match u.look c o.gd (.t r) with
    | some (t1, _) => t1 == t0
    | none => false))
def ubLd (u : UB) (c : Cx) (o : AOper) (t0 off size : Nat) (ag : Bool) : Option (List AOper × Cx) :=
  bif ldOk u c o t0 then
    some ([pop o.dst o.gd (.fld (.t t0) off size ag) o.ix], { c with M := clrM c.M o.dst, dn := o.ix :: c.dn, ok := if o.gd = none then t0 :: c.ok else c.ok }) else none
def stOk (u : UB) (c : Cx) (o : AOper) (t0 off size len : Nat) (v : AX) : Bool := u.nx v && o.dst.isNone && o.gd.isNone && decide (t0 < u.N) && decide (off + size ≤ len) && (match c.cr.lookup t0 with
      | some i => !o.av.contains i && (o.tg.isEmpty || o.tg.contains i)
      | none => o.tg.isEmpty) && (o.rt.isEmpty || o.rt.any (fun r => match u.look c none (.t r) with
      | some (t1, _) => t1 == t0
      | none => false)) && o.avx.all (fun t => match u.look c none (.t t) with
      | some (t1, _) => t1 != t0 && c.ok.contains t1
      | none => false)
def ubSt (u : UB) (c : Cx) (o : AOper) (t0 off size : Nat) (v : AX) : Option (List AOper × Cx) :=
  match u.bx.lookup t0 with
  | some len =>
    bif stOk u c o t0 off size len v then
      some ([pop (some u.N) none (.fld (.t t0) 0 off true) o.ix, pop (some (u.N + 1)) none (.fld (.t t0) (off + size) (len - off - size) true) o.ix,
        pop (some t0) none (.build (List.replicate len .undef) [(0, off, .t u.N), (off, size, v), (off + size, len - off - size, .t (u.N + 1))]) o.ix], { c with dn := o.ix :: c.dn, ok := t0 :: c.ok }) else none
  | none => none
def ubMk (u : UB) (c : Cx) (o : AOper) (t0 : Nat) (op : AOp) : Option (List AOper × Cx) :=
  if o.gd.isNone && c.fo then
    some ([pop (some t0) none op o.ix], { c with M := if c.M.any (fun p => p.2.1 == t0) then [] else c.M, cr := (t0, o.ix) :: c.cr, dn := o.ix :: c.dn, ok := t0 :: c.ok }) else none
def ubOp (u : UB) (k : Nat) (c : Cx) (o : AOper) : Option (List AOper × Cx) :=
  if decide (o.ix < k) && !c.dn.contains o.ix && gdN u o.gd then
    match o.op with
    | .new e z => match o.dst.bind (fun d => u.bx.lookup d) with
      | some len => if z.cells.length = len ∧ z.cells.all AV.flat = true then ubMk u c o (o.dst.getD 0) (.mov (.c (.agg z.cells))) else none
      | none => ubNorm u c o
    | .box e x => match o.dst.bind (fun d => u.bx.lookup d) with
      | some len => if u.nx x then ubMk u c o (o.dst.getD 0) (.build (List.replicate len .undef) [(0, len, x)]) else none
      | none => ubNorm u c o
    | .fa x off => match u.look c o.gd x with
      | some (t0, o0) => ubAlias u c o t0 (o0 + off)
      | none => ubNorm u c o
    | .mov x => match u.look c o.gd x with
      | some (t0, o0) => ubAlias u c o t0 o0
      | none => ubNorm u c o
    | .nck x => match u.look c o.gd x with
      | some (t0, o0) => ubAlias u c o t0 o0
      | none => ubNorm u c o
    | .ld x size ag => match u.look c o.gd x with
      | some (t0, off) => ubLd u c o t0 off size ag
      | none => ubNorm u c o
    | .st x size v => match u.look c o.gd x with
      | some (t0, off) => ubSt u c o t0 off size v
      | none => ubNorm u c o
    | _ => ubNorm u c o
  else none
/-! ### The relation -/
structure UbR (u : UB) (c : Cx) (k n0 : Nat) (s : Nat → AV) (h : Hp) (su : Nat → AV) (hu : Hp) (n : Nat) : Prop where
  eq : ∀ t, u.nrm t = true → s t = su t
  bx : ∀ t len cs, u.bx.lookup t = some len → su t = .agg cs → ∃ id e x, s t = .ptr id len 0 0 ∧ h id = some (.arr e len [x]) ∧ x.cells = cs ∧ cs.length = len ∧ (∀ c ∈ cs, c.flat = true) ∧ hu id = none ∧ id < n ∧
    ((∃ ix, c.cr.lookup t = some ix ∧ id = n0 + ix) ∨ (c.cr.lookup t = none ∧ id < n0))
  dis : ∀ t t' cs cs' id id' len len', t ≠ t' → u.bx.lookup t = some len → u.bx.lookup t' = some len' → su t = .agg cs → su t' = .agg cs' → s t = .ptr id len 0 0 → s t' = .ptr id' len' 0 0 → id ≠ id'
  al : ∀ tk t0 off gd, c.M.lookup tk = some (t0, off, gd) → (∀ t b, gd = some (t, b) → su t = .bool b) → ∀ id len, s t0 = .ptr id len 0 0 → u.bx.lookup t0 = some len → s tk = .ptr id len 0 off
  am : ∀ p ∈ c.M, (u.bx.lookup p.2.1).isSome = true ∧ (∀ t b, p.2.2.2 = some (t, b) → u.nrm t = true) ∧ u.nrm p.1 = false ∧ (u.bx.lookup p.1).isNone = true ∧ p.1 < u.N
  ok : ∀ t ∈ c.ok, (u.bx.lookup t).isSome = true ∧ ∃ cs, su t = .agg cs
  cd : ∀ p ∈ c.cr, c.dn.contains p.2 = true
  sub : Sub hu h
  wf : ∀ id, h id ≠ none → id < n
  fr : c.fo = true → ∀ i, i < k → c.dn.contains i = false → h (n0 + i) = none
  nk : n0 + k ≤ n
  bn : ∀ t len, u.bx.lookup t = some len → t < u.N
theorem nrm_lt {u : UB} {t : Nat} (h : u.nrm t = true) : t < u.N := by
  unfold UB.nrm at h; simp at h; exact h.1.1
theorem nrm_bx {u : UB} {t : Nat} (h : u.nrm t = true) : u.bx.lookup t = none := by
  unfold UB.nrm at h
  rw [Bool.and_eq_true, Bool.and_eq_true] at h
  exact Option.isNone_iff_eq_none.1 h.1.2
theorem nrm_tn {u : UB} {t : Nat} (h : u.nrm t = true) : u.tn.contains t = false := by
  unfold UB.nrm at h; simp at h; simpa using h.2
theorem lookup_mem {α β : Type} [BEq α] [LawfulBEq α] {l : List (α × β)} {a : α} {b : β} (h : l.lookup a = some b) : (a, b) ∈ l := by
  induction l with
  | nil => simp at h
  | cons p l ih =>
    obtain ⟨x, y⟩ := p
    rw [List.lookup_cons] at h
    split at h
    · rename_i q; simp at q h; subst q; subst h; simp
    · exact List.mem_cons_of_mem _ (ih h)
/-- A box that is meant. -/
theorem look_box {u : UB} {c : Cx} {k n0 : Nat} {s : Nat → AV} {h : Hp} {su : Nat → AV} {hu : Hp} {n : Nat} (R : UbR u c k n0 s h su hu n) {g : Option (Nat × Bool)} {x : AX} {t0 off : Nat} (hx : u.look c g x = some (t0, off))
    (hg : ∀ t b, g = some (t, b) → su t = .bool b) {cs : List AV} (hcs : su t0 = .agg cs) : ∃ len id e y, u.bx.lookup t0 = some len ∧ s t0 = .ptr id len 0 0 ∧ x.ev s = .ptr id len 0 off ∧ h id = some (.arr e len [y]) ∧ y.cells = cs ∧ cs.length = len ∧ (∀ c ∈ cs, c.flat = true) ∧ hu id = none ∧ id < n ∧
    ((∃ ix, c.cr.lookup t0 = some ix ∧ id = n0 + ix) ∨ (c.cr.lookup t0 = none ∧ id < n0)) := by
  cases x with
  | c v => cases hx
  | t i =>
    simp only [UB.look] at hx
    cases hb : u.bx.lookup i with
    | some len =>
      rw [hb] at hx
      injection hx with hx; injection hx with h1 h2; subst h1; subst h2
      obtain ⟨id, e, y, q1, q2, q3, q4, q5, q6, q7, q8⟩ := R.bx i len cs hb hcs
      exact ⟨len, id, e, y, hb, q1, q1, q2, q3, q4, q5, q6, q7, q8⟩
    | none =>
      rw [hb] at hx
      simp only at hx
      cases hm : c.M.lookup i with
      | none => rw [hm] at hx; cases hx
      | some p =>
        obtain ⟨t1, o1, gd⟩ := p
        rw [hm] at hx
        simp only at hx
        split at hx
        · rename_i hgd
          injection hx with hx; injection hx with h1 h2; subst h1; subst h2
          obtain ⟨len, hl⟩ := Option.isSome_iff_exists.1 (R.am _ (lookup_mem hm)).1
          simp only at hl
          obtain ⟨id, e, y, q1, q2, q3, q4, q5, q6, q7, q8⟩ := R.bx t1 len cs hl hcs
          refine ⟨len, id, e, y, hl, q1, R.al i t1 o1 gd hm (fun t b e2 => ?_) id len q1 hl, q2, q3, q4, q5, q6, q7, q8⟩
          rcases hgd with q | q
          · rw [q] at e2; cases e2
          · exact hg t b (by rw [← q]; exact e2)
        · cases hx
theorem clrM_lookup {M : List (Nat × Nat × Nat × Option (Nat × Bool))} {d : Option Nat} {tk t0 off : Nat} {gd : Option (Nat × Bool)} (h : (clrM M d).lookup tk = some (t0, off, gd)) : M.lookup tk = some (t0, off, gd) ∧ ∀ t b, gd = some (t, b) → d ≠ some t := by
  unfold clrM at h
  split at h
  · simp at h
  · rename_i q
    refine ⟨h, fun t b e hd => q ?_⟩
    rw [List.any_eq_true]
    refine ⟨_, lookup_mem h, ?_⟩
    simp [e, hd]
theorem clrM_mem {M : List (Nat × Nat × Nat × Option (Nat × Bool))} {d : Option Nat} {p : Nat × Nat × Nat × Option (Nat × Bool)} (h : p ∈ clrM M d) : p ∈ M := by
  unfold clrM at h
  split at h
  · simp at h
  · exact h
theorem dst_ne {u : UB} {d : Option Nat} (hd : dstN u d = true) {t len : Nat} (ht : u.bx.lookup t = some len) : d ≠ some t := by
  rintro rfl
  have := nrm_bx (u := u) hd
  rw [this] at ht; cases ht
/-- An operation that has nothing to do with boxes. -/
theorem UbR.norm {u : UB} {c : Cx} {k n0 : Nat} {s : Nat → AV} {h : Hp} {su : Nat → AV} {hu : Hp} {n : Nat} (R : UbR u c k n0 s h su hu n) {d : Option Nat} (hd : dstN u d = true) {v : AV} {h' hu' : Hp} {n' ix : Nat} {fo : Bool}
    (ht : Sub hu' h') (hb : ∀ id, h id ≠ none → hu id = none → id ≠ n0 + ix → h' id = h id ∧ hu' id = none) (hfr : ∀ id, n0 ≤ id → id < n0 + k → id ≠ n0 + ix → h id = none → fo = true → h' id = none) (hw : ∀ id, h' id ≠ none → id < n') (hn : n ≤ n') (hfo : fo = true → c.fo = true) (hdn : c.dn.contains ix = false) :
    UbR u { c with M := clrM c.M d, dn := ix :: c.dn, fo := fo } k n0 (putS s d v) h' (putS su d v) hu' n' := by
  have hp : ∀ (f : Nat → AV) (t : Nat), d ≠ some t → putS f d v t = f t := fun f t ht => putS_out ht
  refine ⟨fun t htn => ?_, fun t len cs hl hsu => ?_, ?_, ?_, fun p hp => R.am p (clrM_mem hp), fun t ht => ?_, fun p hp => ?_, ht, hw, fun hf i hi hc => ?_, by have := R.nk; omega, R.bn⟩
  · by_cases e : d = some t
    · subst e; simp only [putS_some, upd_same]
    · rw [hp _ _ e, hp _ _ e]; exact R.eq t htn
  · rw [hp _ _ (dst_ne hd hl)] at hsu ⊢
    obtain ⟨id, e, x, q1, q2, q3, q4, q5, q6, q7, q8⟩ := R.bx t len cs hl hsu
    have hne : id ≠ n0 + ix := by
      rcases q8 with ⟨i, e1, e2⟩ | ⟨_, e2⟩
      · have := R.cd _ (lookup_mem e1)
        rintro q
        have : i = ix := by omega
        subst this
        simp only at *
        rw [hdn] at this; cases this
      · omega
    obtain ⟨r1, r2⟩ := hb id (by rw [q2]; simp) q6 hne
    exact ⟨id, e, x, q1, by rw [r1]; exact q2, q3, q4, q5, r2, by omega, q8⟩
  · intro t t' cs cs' id id' len len' htt hl hl' hsu hsu' hs hs'
    rw [hp _ _ (dst_ne hd hl)] at hsu hs
    rw [hp _ _ (dst_ne hd hl')] at hsu' hs'
    exact R.dis t t' cs cs' id id' len len' htt hl hl' hsu hsu' hs hs'
  · intro tk t0 off gd hM hgd id len hs hl
    obtain ⟨m1, m2⟩ := clrM_lookup hM
    rw [hp _ _ (dst_ne hd hl)] at hs
    have e : d ≠ some tk := by
      rintro rfl
      have := (R.am _ (lookup_mem m1)).2.2.1
      simp only at this
      rw [show u.nrm tk = true from hd] at this; cases this
    rw [hp _ _ e]
    refine R.al tk t0 off gd m1 (fun t b e2 => ?_) id len hs hl
    have := hgd t b e2
    rwa [hp _ _ (m2 t b e2)] at this
  · obtain ⟨q0, cs, q⟩ := R.ok t ht
    obtain ⟨len, hl⟩ := Option.isSome_iff_exists.1 q0
    exact ⟨q0, cs, by rw [hp _ _ (dst_ne hd hl)]; exact q⟩
  · have := R.cd p hp
    simp only [List.contains_cons, this, Bool.or_true]
  · simp only [List.contains_cons, Bool.or_eq_false_iff] at hc
    have hii : i ≠ ix := by simpa using hc.1
    exact hfr _ (by omega) (by omega) (by omega) (R.fr (hfo hf) i hi hc.2) hf
theorem wpOp1_simple {P : Program} {o : AOper} (h : kindO o.op ≠ .C) (n0 : Nat) (K : St → Prop) (st : St) : wpOp1 P o n0 K st ↔ ∃ v h', evS o.op (n0 + o.ix) st = some (v, h') ∧ clearOf o n0 st.s = true ∧ K (St.put { st with h := h' } o.dst v) := by
  have e : wpOp1 P o n0 K st = (match evS o.op (n0 + o.ix) st with
      | some (v, h) => clearOf o n0 st.s = true ∧ K (St.put { st with h := h } o.dst v)
      | none => False) := by
    obtain ⟨d, g, op, ix, av, avx, rt, tg⟩ := o
    unfold wpOp1
    cases op <;> first | rfl | (exfalso; apply h; rfl)
  rw [e]
  cases evS o.op (n0 + o.ix) st with
  | none => exact ⟨fun q => q.elim, fun ⟨v2, h2, e, _⟩ => by cases e⟩
  | some p =>
    obtain ⟨v, h'⟩ := p
    exact ⟨fun ⟨a, b⟩ => ⟨v, h', rfl, a, b⟩, fun ⟨v2, h2, e, a, b⟩ => by injection e with e; injection e with e1 e2; subst e1; subst e2; exact ⟨a, b⟩⟩
/-- Guards. -/
theorem gd_split {P : Program} {o o' : AOper} {n0 : Nat} {K Ku : St → Prop} {s su : Nat → AV} {h hu : Hp} {n : Nat} (hgd : o'.gd = o.gd) (hdst : o'.dst = o.dst) (hn : ∀ t b, o.gd = some (t, b) → s t = su t)
    (h1 : (∀ t b, o.gd = some (t, b) → su t = .bool b) → wpOp1 P o' n0 Ku ⟨su, hu, n⟩ → wpOp1 P o n0 K ⟨s, h, n⟩) (h2 : (∃ t b c, o.gd = some (t, b) ∧ su t = .bool c ∧ c ≠ b) → Ku (St.put ⟨su, hu, n⟩ o.dst .undef) → K (St.put ⟨s, h, n⟩ o.dst .undef))
    (hw : wpOps P [o'] n0 Ku ⟨su, hu, n⟩) : wpStep P o n0 K ⟨s, h, n⟩ := by
  have hw : wpStep P o' n0 Ku ⟨su, hu, n⟩ := (wpOps_cons_ _ _ _ _ _).1 hw
  unfold wpStep at hw ⊢
  rw [hgd, hdst] at hw
  cases hg : o.gd with
  | none => rw [hg] at hw; exact h1 (fun t b e => by rw [hg] at e; cases e) hw
  | some p =>
    obtain ⟨t, b⟩ := p
    rw [hg] at hw
    simp only at hw ⊢
    rw [hn t b hg]
    cases hs : su t <;> rw [hs] at hw <;> first | exact hw.elim | skip
    rename_i c
    simp only at hw ⊢
    split at hw
    · rename_i q
      rw [if_pos q]
      refine h1 (fun t' b' e => ?_) hw
      rw [hg] at e; injection e with e; injection e with e1 e2; subst e1; subst e2; rw [hs, q]
    · rename_i q
      rw [if_neg q]
      exact h2 ⟨t, b, c, hg, hs, q⟩ hw
theorem tgt_dom {op : AOp} {nw : Nat} {s : Nat → AV} {h : Hp} {n : Nat} {v : AV} {h' : Hp} (he : evS op nw ⟨s, h, n⟩ = some (v, h')) : ∀ id ∈ op.tgt s, h id ≠ none := by
  intro id hid
  cases op <;> simp only [AOp.tgt, List.not_mem_nil] at hid
  case st x size y =>
    cases hx : x.ev s <;> rw [hx] at hid <;> simp at hid
    all_goals subst hid
    all_goals simp only [evS, hx, stE] at he
    all_goals intro q
    all_goals simp only [q, Option.map_none] at he
    all_goals cases he
  case app e sz bytes a x =>
    simp only [evS, appE] at he
    cases hx : elems h (x.ev s) sz with
    | none => rw [hx] at he; cases he
    | some ys =>
      rw [hx] at he
      cases ha : a.ev s <;> rw [ha] at hid he <;> simp at hid
      all_goals subst hid
      all_goals intro q
      all_goals simp only [q] at he
      all_goals cases he
  case cpy sz d x =>
    simp only [evS, cpyE] at he
    cases hx : elems h (x.ev s) sz with
    | none => rw [hx] at he; cases he
    | some ys =>
      rw [hx] at he
      cases ha : d.ev s <;> rw [ha] at hid he <;> simp at hid
      all_goals subst hid
      all_goals intro q
      all_goals simp only [q] at he
      all_goals cases he
  case clr sz z x =>
    cases hx : x.ev s <;> rw [hx] at hid <;> simp at hid
    all_goals subst hid
    all_goals simp only [evS, hx, clrE] at he
    all_goals intro q
    all_goals try simp only [q] at he
    all_goals cases he
theorem callS_keep {P : Program} {f : Nat} {vs : List AV} {bad : List Nat} {s su : Nat → AV} {h hu : Hp} {n : Nat} {K Ku : AV → Hp → Nat → Prop} (hs : Sub hu h) (hwf : ∀ id, h id ≠ none → id < n)
    (hk : ∀ r h' hu' n', Sub hu' h' → (∀ id, h id ≠ none → hu id = none → h' id = h id ∧ hu' id = none) → (∀ id, id < n → h id = none → h' id = none) → (∀ id, h' id ≠ none → id < n') → n ≤ n' → Ku r hu' n' → K r h' n') (hw : doCall P f vs true bad ⟨su, hu, n⟩ Ku) : doCall P f vs true bad ⟨s, h, n⟩ K := by
  unfold doCall at hw ⊢
  rw [if_pos rfl] at hw ⊢
  obtain ⟨F, hF, hc⟩ := hw
  have e : restr (fun id => F id && (hu id).isSome) h = restr F hu := by
    funext id
    unfold restr
    cases hid : hu id with
    | none => simp [hid]
    | some ob =>
      cases hFi : F id with
      | false => simp [hFi]
      | true => simp [hFi, hid, hs id ob hid]
  refine ⟨fun id => F id && (hu id).isSome, fun id hid => by simp [hF id hid], ?_⟩
  simp only at hc ⊢
  rw [e]
  refine hc.more.mono ?_
  rintro r h' n' ⟨⟨q1, q2, q3⟩, q4, q5⟩
  have hnone : ∀ id, id < n → hu id = none → h' id = none := by
    intro id hid hn
    cases hh : h' id with
    | none => rfl
    | some ob =>
      exfalso
      rcases q2 id (by simp [hh]) with q | q
      · apply q; unfold restr; simp [hn]
      · omega
  have q1' : ∀ id, restr F hu id ≠ none → h' id = h id := fun id hid => by
    rw [q1 id hid]
    unfold restr at hid
    split at hid
    · cases hh : hu id with
      | none => exact absurd hh hid
      | some ob => rw [hs id ob hh]
    · exact absurd rfl hid
  refine ⟨q1', q2, hk r (merge h' h) (merge h' hu) n' (fun id ob hid => ?_) (fun id h1 h2 => ?_) (fun id h1 h2 => ?_) (fun id hid => ?_) q4 q3⟩
  · unfold merge at hid ⊢
    cases hh : h' id with
    | some o => rw [hh] at hid; exact hid
    | none => rw [hh] at hid; exact hs id ob hid
  · have := hnone id (hwf id h1) h2
    unfold merge; rw [this]; exact ⟨rfl, h2⟩
  · have := hnone id h1 (hs.none h2)
    unfold merge; rw [this]; exact h2
  · unfold merge at hid
    cases hh : h' id with
    | some o => exact q5 id (by simp [hh])
    | none => rw [hh] at hid; have := hwf id hid; omega
theorem callS_free {P : Program} {f : Nat} {vs : List AV} {bad : List Nat} {s su : Nat → AV} {h hu : Hp} {n : Nat} {K Ku : AV → Hp → Nat → Prop} (hs : Sub hu h)
    (hk : ∀ r h' hu' n', Sub hu' h' → (∀ id, h id ≠ none → hu id = none → h' id = h id ∧ hu' id = none) → (∀ id, h' id ≠ none → id < n') → n ≤ n' → Ku r hu' n' → K r h' n') (hw : doCall P f vs false bad ⟨su, hu, n⟩ Ku) : doCall P f vs false bad ⟨s, h, n⟩ K := by
  unfold doCall at hw ⊢
  rw [if_neg (by simp)] at hw ⊢
  exact (hw.frame hs).mono fun r h' n' ⟨a', q1, q2, q3, q4, q5⟩ => hk r h' a' n' q2 q3 q4 q5 q1
section
variable {P : Program} {u : UB} {c c' : Cx} {k n0 n : Nat} {s su : Nat → AV} {h hu : Hp} {o : AOper} {us : List AOper} {K Ku : St → Prop}
theorem ub_norm (hop : ubNorm u c o = some (us, c')) (hix : o.ix < k) (hdn : c.dn.contains o.ix = false) (hgd : gdN u o.gd = true) (R : UbR u c k n0 s h su hu n)
    (hK : ∀ s' h' su' hu' n', UbR u c' k n0 s' h' su' hu' n' → n ≤ n' → Ku ⟨su', hu', n'⟩ → K ⟨s', h', n'⟩) (hw : wpOps P us n0 Ku ⟨su, hu, n⟩) : wpStep P o n0 K ⟨s, h, n⟩ := by
  unfold ubNorm at hop
  split at hop
  · rename_i hq
    injection hop with hop; injection hop with e1 e2; subst e1; subst e2
    simp only [Bool.and_eq_true, List.all_eq_true] at hq
    obtain ⟨⟨⟨hsl, hd⟩, hrt⟩, havx⟩ := hq
    have hsl' : ∀ t ∈ o.op.slots, s t = su t := fun t ht => R.eq t (hsl t ht)
    have hgn : ∀ t b, o.gd = some (t, b) → s t = su t := fun t b e => R.eq t (by rw [e] at hgd; exact hgd)
    have hnk := R.nk
    refine gd_split (o' := { o with avx := o.avx.filter u.nrm }) rfl rfl hgn (fun hact h1 => ?_) (fun hgd2 h1 => ?_) hw
    · -- the operation is carried out
      by_cases hkd : kindO o.op = .C
      · obtain ⟨d, g, op, ix, av, avx, rt, tg⟩ := o
        simp only at *
        have put_e : ∀ (f : Nat → AV) (h : Hp) (n : Nat) (v : AV), St.put ⟨f, h, n⟩ d v = ⟨putS f d v, h, n⟩ := fun f h n v => put_eq ⟨f, h, n⟩ d v
        have hargs : ∀ (l : List AX), (∀ t ∈ AX.slots l, s t = su t) → l.map (·.ev s) = l.map (·.ev su) := fun l hl => AX.evs_congr hl
        cases op <;> simp only [kindO, reduceCtorEq] at hkd
        case callS f args g =>
          simp only [wpOp1] at h1 ⊢
          rw [hargs args (by simpa [AOp.slots] using hsl')]
          cases g with
          | true =>
            refine callS_keep R.sub R.wf (fun r h' hu' n' q1 q2 q3 q4 q5 q6 => ?_) h1
            rw [put_e] at q6 ⊢
            exact hK _ _ _ _ _ (R.norm (h' := h') (hu' := hu') (n' := n') (ix := ix) hd q1 (fun id a b _ => q2 id a b) (fun id a b _ e _ => q3 id (by omega) e) q4 q5 (by simp [freeCall]) hdn) q5 q6
          | false =>
            refine callS_free R.sub (fun r h' hu' n' q1 q2 q4 q5 q6 => ?_) h1
            rw [put_e] at q6 ⊢
            exact hK _ _ _ _ _ (R.norm (h' := h') (hu' := hu') (n' := n') (ix := ix) hd q1 (fun id a b _ => q2 id a b) (fun id a b _ e q => by simp [freeCall] at q) q4 q5 (by simp [freeCall]) hdn) q5 q6
        case callV x args g =>
          simp only [wpOp1] at h1 ⊢
          rw [hargs args (fun t ht => hsl' t (by simp [AOp.slots, ht])), AX.ev_congr (x := x) (s := su) (s' := s) (fun t ht => hsl' t (by simp [AOp.slots, ht]))]
          cases hx : x.ev su <;> rw [hx] at h1 <;> first | exact h1.elim | skip
          simp only at h1 ⊢
          cases g with
          | true =>
            refine callS_keep R.sub R.wf (fun r h' hu' n' q1 q2 q3 q4 q5 q6 => ?_) h1
            rw [put_e] at q6 ⊢
            exact hK _ _ _ _ _ (R.norm (h' := h') (hu' := hu') (n' := n') (ix := ix) hd q1 (fun id a b _ => q2 id a b) (fun id a b _ e _ => q3 id (by omega) e) q4 q5 (by simp [freeCall]) hdn) q5 q6
          | false =>
            refine callS_free R.sub (fun r h' hu' n' q1 q2 q4 q5 q6 => ?_) h1
            rw [put_e] at q6 ⊢
            exact hK _ _ _ _ _ (R.norm (h' := h') (hu' := hu') (n' := n') (ix := ix) hd q1 (fun id a b _ => q2 id a b) (fun id a b _ e q => by simp [freeCall] at q) q4 q5 (by simp [freeCall]) hdn) q5 q6
        case apn e sz bytes ze a x =>
          simp only [wpOp1] at h1 ⊢
          rw [AX.ev_congr (x := a) (s := su) (s' := s) (fun t ht => hsl' t (by simp [AOp.slots, ht])), AX.ev_congr (x := x) (s := su) (s' := s) (fun t ht => hsl' t (by simp [AOp.slots, ht]))]
          refine apnW_sub R.sub h1 fun r a' b' q1 q2 q0 q3 => ?_
          rw [put_e] at q3 ⊢
          exact hK _ _ _ _ _ (R.norm (h' := b') (hu' := a') (n' := n) (ix := ix) hd q1.1 (fun id x y e => ⟨q1.2 id e y, by
            cases hh : a' id with
            | none => rfl
            | some ob =>
              rcases q0 id (by simp [hh]) with q | q
              · exact absurd y q
              · omega⟩) (fun id _ _ e e2 _ => by
            cases hh : b' id with
            | none => rfl
            | some ob =>
              rcases q2 id (by simp [hh]) with q | q
              · exact absurd e2 q
              · omega) (fun id hid => by
            rcases q2 id hid with q | q
            · exact R.wf id q
            · omega) (Nat.le_refl _) (by simp [freeCall]) hdn) (Nat.le_refl _) q3
        case apz e sz bytes ze a x =>
          simp only [wpOp1] at h1 ⊢
          rw [AX.ev_congr (x := a) (s := su) (s' := s) (fun t ht => hsl' t (by simp [AOp.slots, ht])), AX.ev_congr (x := x) (s := su) (s' := s) (fun t ht => hsl' t (by simp [AOp.slots, ht]))]
          refine apzW_sub R.sub h1 fun r a' b' q1 q2 q0 q3 => ?_
          rw [put_e] at q3 ⊢
          exact hK _ _ _ _ _ (R.norm (h' := b') (hu' := a') (n' := n) (ix := ix) hd q1.1 (fun id x y e => ⟨q1.2 id e y, by
            cases hh : a' id with
            | none => rfl
            | some ob =>
              rcases q0 id (by simp [hh]) with q | q
              · exact absurd y q
              · omega⟩) (fun id _ _ e e2 _ => by
            cases hh : b' id with
            | none => rfl
            | some ob =>
              rcases q2 id (by simp [hh]) with q | q
              · exact absurd e2 q
              · omega) (fun id hid => by
            rcases q2 id hid with q | q
            · exact R.wf id q
            · omega) (Nat.le_refl _) (by simp [freeCall]) hdn) (Nat.le_refl _) q3
      · rw [wpOp1_simple (o := { o with avx := o.avx.filter u.nrm }) hkd] at h1
        rw [wpOp1_simple hkd]
        obtain ⟨v, hu', q1, q2, q3⟩ := h1
        simp only at q1 q2 q3
        obtain ⟨h', p1, p2, p3⟩ := evS_sub R.sub q1
        have p1' : evS o.op (n0 + o.ix) ⟨s, h, n⟩ = some (v, h') := by rw [← p1]; exact evS_congr (st := ⟨su, h, n⟩) hsl'
        have htg := tgt_congr hsl'
        have hrd := reads_congr hsl'
        rw [put_eq] at q3
        refine ⟨v, h', p1', ?_, ?_⟩
        · simp only
          unfold clearOf at q2 ⊢
          rw [hrd, htg]
          simp only [Bool.and_eq_true, List.all_eq_true] at q2 ⊢
          obtain ⟨⟨⟨c1, c2⟩, c3⟩, c4⟩ := q2
          refine ⟨⟨⟨c1, fun t ht id hid => ?_⟩, ?_⟩, c4⟩
          · cases hn : u.nrm t with
            | true =>
              rw [R.eq t hn] at hid
              exact c2 t (List.mem_filter.2 ⟨ht, hn⟩) id hid
            | false =>
              have := havx t ht
              rw [hn, Bool.false_or] at this
              cases hl : u.look c o.gd (.t t) with
              | none => rw [hl] at this; cases this
              | some p =>
                obtain ⟨t1, off⟩ := p
                rw [hl] at this
                simp only at this
                obtain ⟨_, cs, hcs⟩ := R.ok t1 (by simpa using this)
                obtain ⟨len, id2, e, y, _, _, b3, _, _, _, _, b8, _⟩ := look_box R hl hact hcs
                have b3 : s t = .ptr id2 len 0 off := b3
                rw [b3] at hid
                simp at hid
                subst hid
                have := tgt_dom q1 id
                simpa using fun q => this q b8
          · rw [Bool.or_eq_true] at c3 ⊢
            rcases c3 with c3 | c3
            · exact .inl c3
            · refine .inr ?_
              rw [List.all_eq_true] at c3 ⊢
              intro id hid
              have := c3 id hid
              rw [List.any_eq_true] at this ⊢
              obtain ⟨r, r1, r2⟩ := this
              exact ⟨r, r1, by rw [R.eq r (hrt r r1)]; exact r2⟩
        · rw [put_eq]
          simp only at q3 ⊢
          have hdom := fun id hid => evS_dom p1' id hid
          refine hK _ _ _ _ _ (R.norm (h' := h') (hu' := hu') (n' := n) (ix := o.ix) hd p2 (fun id a b e => ⟨p3 id e b, ?_⟩) (fun id a b e e2 _ => ?_) (fun id hid => ?_) (Nat.le_refl _) (fun q => by simp at q; exact q.1) hdn) (Nat.le_refl _) q3
          · cases hh : hu' id with
            | none => rfl
            | some ob =>
              rcases evS_dom q1 id (by simp [hh]) with q | q
              · exact absurd b q
              · omega
          · cases hh : h' id with
            | none => rfl
            | some ob =>
              rcases hdom id (by simp [hh]) with q | q
              · exact absurd e2 q
              · omega
          · rcases hdom id hid with q | q
            · exact R.wf id q
            · omega
    · rw [put_eq] at h1 ⊢
      exact hK _ _ _ _ _ (R.norm (ix := o.ix) hd R.sub (fun id _ b _ => ⟨rfl, b⟩) (fun id _ _ _ e _ => e) R.wf (Nat.le_refl _) (fun q => by simp at q; exact q.1) hdn) (Nat.le_refl _) h1
  · cases hop
theorem UbR.addok (R : UbR u c k n0 s h su hu n) {t : Nat} (ht : (u.bx.lookup t).isSome = true) {cs : List AV} (hcs : su t = .agg cs) : UbR u { c with ok := t :: c.ok } k n0 s h su hu n := by
  refine ⟨R.eq, R.bx, R.dis, R.al, R.am, fun t' ht' => ?_, R.cd, R.sub, R.wf, R.fr, R.nk, R.bn⟩
  rcases List.mem_cons.1 ht' with rfl | q
  · exact ⟨ht, cs, hcs⟩
  · exact R.ok t' q
theorem clearOf_nil {o : AOper} {s : Nat → AV} (h1 : o.op.reads s = []) (h2 : o.op.tgt s = []) : clearOf o n0 s = true := by
  unfold clearOf
  rw [h1, h2]
  simp
theorem look_some (R : UbR u c k n0 s h su hu n) {g : Option (Nat × Bool)} {x : AX} {t0 off : Nat} (hx : u.look c g x = some (t0, off)) : (u.bx.lookup t0).isSome = true := by
  cases x with
  | c v => cases hx
  | t i =>
    simp only [UB.look] at hx
    cases hb : u.bx.lookup i with
    | some len =>
      rw [hb] at hx
      injection hx with hx; injection hx with h1 h2; subst h1
      rw [hb]; rfl
    | none =>
      rw [hb] at hx
      simp only at hx
      cases hm : c.M.lookup i with
      | none => rw [hm] at hx; cases hx
      | some p =>
        obtain ⟨t1, o1, gd⟩ := p
        rw [hm] at hx
        simp only at hx
        split at hx
        · injection hx with hx; injection hx with h1 h2; subst h1
          exact (R.am _ (lookup_mem hm)).1
        · cases hx
/-- A temporary that may point into a box is written. -/
theorem UbR.alias (R : UbR u c k n0 s h su hu n) {tk t0 off : Nat} {gd : Option (Nat × Bool)} (htn : u.tn.contains tk = true) (hbn : u.bx.lookup tk = none) (hlt : tk < u.N) (ht0 : (u.bx.lookup t0).isSome = true) (hg : gdN u gd = true) {v vu : AV} {ix : Nat}
    (hv : (∀ t b, gd = some (t, b) → su t = .bool b) → ∀ id len, s t0 = .ptr id len 0 0 → u.bx.lookup t0 = some len → v = .ptr id len 0 off) : UbR u { c with M := (tk, t0, off, gd) :: c.M, dn := ix :: c.dn } k n0 (upd s tk v) h (upd su tk vu) hu n := by
  have hnn : u.nrm tk = false := by
    cases q : u.nrm tk with
    | false => rfl
    | true => rw [nrm_tn q] at htn; cases htn
  have hne : ∀ t, u.nrm t = true → t ≠ tk := by rintro t q rfl; rw [hnn] at q; cases q
  have hnb : ∀ {t len}, u.bx.lookup t = some len → t ≠ tk := by rintro t len q rfl; rw [hbn] at q; cases q
  refine ⟨fun t htn => ?_, fun t len cs hl hsu => ?_, ?_, ?_, fun p hp => ?_, fun t ht => ?_, fun p hp => ?_, R.sub, R.wf, fun hf i hi hc => ?_, R.nk, R.bn⟩
  · rw [upd_ne _ _ (hne t htn), upd_ne _ _ (hne t htn)]; exact R.eq t htn
  · rw [upd_ne _ _ (hnb hl)] at hsu ⊢
    exact R.bx t len cs hl hsu
  · intro t t' cs cs' id id' len len' htt hl hl' hsu hsu' hs hs'
    rw [upd_ne _ _ (hnb hl)] at hsu hs
    rw [upd_ne _ _ (hnb hl')] at hsu' hs'
    exact R.dis t t' cs cs' id id' len len' htt hl hl' hsu hsu' hs hs'
  · intro tk' t0' off' gd' hM hgd id len hs hl
    rw [upd_ne _ _ (hnb hl)] at hs
    simp only [List.lookup_cons] at hM
    split at hM
    · rename_i q
      have q : tk' = tk := by simpa using q
      subst q
      injection hM with hM
      injection hM with h1 hM; injection hM with h2 h3
      subst h1; subst h2; subst h3
      rw [upd_same]
      refine hv (fun t b e => ?_) id len hs hl
      have := hgd t b e
      rwa [upd_ne _ _ (hne t (by rw [e] at hg; exact hg))] at this
    · rename_i q
      have q : tk' ≠ tk := by simpa using q
      rw [upd_ne _ _ q]
      refine R.al tk' t0' off' gd' hM (fun t b e => ?_) id len hs hl
      have := hgd t b e
      rwa [upd_ne _ _ (hne t ((R.am _ (lookup_mem hM)).2.1 t b e))] at this
  · rcases List.mem_cons.1 hp with rfl | q
    · refine ⟨ht0, fun t b e => ?_, hnn, by rw [hbn]; rfl, hlt⟩
      simp only at e
      rw [e] at hg; exact hg
    · exact R.am p q
  · obtain ⟨q0, cs, q⟩ := R.ok t ht
    obtain ⟨len, hl⟩ := Option.isSome_iff_exists.1 q0
    exact ⟨q0, cs, by rw [upd_ne _ _ (hnb hl)]; exact q⟩
  · have := R.cd p hp
    simp only [List.contains_cons, this, Bool.or_true]
  · simp only [List.contains_cons, Bool.or_eq_false_iff] at hc
    exact R.fr hf i hi hc.2
theorem fld_agg_of {off size : Nat} {ag : Bool} {x v : AV} (h : fldA off size ag x = some v) : ∃ cs, x = .agg cs ∧ seg cs off size ag = some v := by
  cases x <;> first | (cases h; done) | exact ⟨_, rfl, h⟩
theorem wp_pure {d : Option Nat} {g : Option (Nat × Bool)} {op : AOp} {ix : Nat} {Kx : St → Prop} {st : St} (hp : op.isPure = true) (hk : kindO op ≠ .C) : wpOp1 P (pop d g op ix) n0 Kx st ↔ ∃ v, evP op st.s = some v ∧ Kx (St.put st d v) := by
  rw [wpOp1_simple (o := pop d g op ix) hk]
  simp only [pop]
  rw [evS_pure hp]
  constructor
  · rintro ⟨v, h', e, _, q⟩
    cases he : evP op st.s with
    | none => simp only [he] at e; cases e
    | some w =>
      simp only [he, Option.map_some] at e
      injection e with e; injection e with e1 e2; subst e1; subst e2
      exact ⟨w, rfl, q⟩
  · rintro ⟨v, e, q⟩
    exact ⟨v, st.h, by simp only [e, Option.map_some], by simp [clearOf], q⟩
theorem ub_alias {x : AX} {t0 o0 off : Nat} (hop : ubAlias u c o t0 off = some (us, c')) (hx : u.look c o.gd x = some (t0, o0)) (hpu : o.op.isPure = true) (hkp : kindO o.op ≠ .C) (hrd : o.op.reads s = [] ∧ o.op.tgt s = [])
    (hev : ∀ id len, x.ev s = .ptr id len 0 o0 → evP o.op s = some (.ptr id len 0 off)) (hgd : gdN u o.gd = true) (R : UbR u c k n0 s h su hu n)
    (hK : ∀ s' h' su' hu' n', UbR u c' k n0 s' h' su' hu' n' → n ≤ n' → Ku ⟨su', hu', n'⟩ → K ⟨s', h', n'⟩) (hw : wpOps P us n0 Ku ⟨su, hu, n⟩) : wpStep P o n0 K ⟨s, h, n⟩ := by
  unfold ubAlias at hop
  cases hd : o.dst with
  | none => rw [hd] at hop; cases hop
  | some tk =>
    rw [hd] at hop
    simp only at hop
    split at hop
    · rename_i hq
      injection hop with hop; injection hop with e1 e2; subst e1; subst e2
      simp only [Bool.and_eq_true, decide_eq_true_eq] at hq
      obtain ⟨⟨htn, hbn⟩, hlt⟩ := hq
      have hbn : u.bx.lookup tk = none := Option.isNone_iff_eq_none.1 hbn
      have ht0 := look_some R hx
      have hgn : ∀ t b, o.gd = some (t, b) → s t = su t := fun t b e => R.eq t (by rw [e] at hgd; exact hgd)
      refine gd_split (o' := pop (some tk) o.gd (.fld (.t t0) 0 0 true) o.ix) rfl hd.symm hgn (fun hact h1 => ?_) (fun hin h1 => ?_) hw
      · obtain ⟨v, e, h1⟩ := (wp_pure rfl (by simp [kindO])).1 h1
        obtain ⟨cs, hcs, _⟩ := fld_agg_of e
        simp only [AX.ev] at hcs
        obtain ⟨len, id, ee, y, b1, b2, b3, b4, b5, b6, b7, b8, b9, b10⟩ := look_box R hx hact hcs
        rw [wpOp1_simple hkp]
        refine ⟨.ptr id len 0 off, h, ?_, ?_, ?_⟩
        · rw [evS_pure hpu]
          simp only [hev id len b3, Option.map_some]
        · exact clearOf_nil hrd.1 hrd.2
        · rw [hd]
          have R2 := R.alias (v := .ptr id len 0 off) (vu := v) (ix := o.ix) (off := off) htn hbn hlt ht0 hgd (fun _ id' len' hs' hl' => by rw [b2] at hs'; injection hs' with q1 q2; subst q1; subst q2; rfl)
          refine hK _ _ _ _ _ ?_ (Nat.le_refl _) h1
          split
          · refine UbR.addok R2 ht0 (cs := cs) ?_
            rw [upd_ne _ _ (by rintro rfl; rw [hbn] at b1; cases b1)]; exact hcs
          · exact R2
      · rw [hd] at h1 ⊢
        obtain ⟨t, b, c1, g1, g2, g3⟩ := hin
        have R2 := R.alias (v := .undef) (vu := .undef) (ix := o.ix) (off := off) htn hbn hlt ht0 hgd (fun hact => by
          have := hact t b g1
          rw [g2] at this; injection this with this; exact absurd this g3)
        refine hK _ _ _ _ _ ?_ (Nat.le_refl _) h1
        rw [if_neg (by rw [g1]; simp)]
        exact R2
    · cases hop
theorem ub_ld {x : AX} {t0 off size : Nat} {ag : Bool} (hop : ubLd u c o t0 off size ag = some (us, c')) (hxo : o.op = .ld x size ag) (hx : u.look c o.gd x = some (t0, off)) (hdn : c.dn.contains o.ix = false) (hgd : gdN u o.gd = true) (R : UbR u c k n0 s h su hu n)
    (hK : ∀ s' h' su' hu' n', UbR u c' k n0 s' h' su' hu' n' → n ≤ n' → Ku ⟨su', hu', n'⟩ → K ⟨s', h', n'⟩) (hw : wpOps P us n0 Ku ⟨su, hu, n⟩) : wpStep P o n0 K ⟨s, h, n⟩ := by
  unfold ubLd at hop
  cases hq : ldOk u c o t0 with
  | false => rw [hq] at hop; cases hop
  | true =>
    rw [hq] at hop
    injection hop with hop; injection hop with e1 e2; subst e1; subst e2
    unfold ldOk at hq
    simp only [Bool.and_eq_true] at hq
    obtain ⟨⟨hd, hav⟩, hrt⟩ := hq
    have ht0 := look_some R hx
    have hgn : ∀ t b, o.gd = some (t, b) → s t = su t := fun t b e => R.eq t (by rw [e] at hgd; exact hgd)
    have hR : ∀ v, UbR u { c with M := clrM c.M o.dst, dn := o.ix :: c.dn } k n0 (putS s o.dst v) h (putS su o.dst v) hu n := fun v =>
      R.norm (h' := h) (hu' := hu) (n' := n) (ix := o.ix) (fo := c.fo) hd R.sub (fun id _ b _ => ⟨rfl, b⟩) (fun id _ _ _ e _ => e) R.wf (Nat.le_refl _) id hdn
    refine gd_split (o' := pop o.dst o.gd (.fld (.t t0) off size ag) o.ix) rfl rfl hgn (fun hact h1 => ?_) (fun hin h1 => ?_) hw
    · obtain ⟨v, e, h1⟩ := (wp_pure rfl (by simp [kindO])).1 h1
      obtain ⟨cs, hcs, hseg⟩ := fld_agg_of e
      simp only [AX.ev] at hcs
      obtain ⟨len, id, ee, y, b1, b2, b3, b4, b5, b6, b7, b8, b9, b10⟩ := look_box R hx hact hcs
      rw [wpOp1_simple (by rw [hxo]; simp [kindO])]
      refine ⟨v, h, ?_, ?_, ?_⟩
      · rw [hxo]
        simp only [evS, b3, ldE, b4, if_true, List.getElem?_cons_zero, b5, hseg, Option.map_some]
      · have hrd : o.op.reads s = [id] := by rw [hxo]; simp only [AOp.reads, b3, ids_ptr]
        have htg : o.op.tgt s = [] := by rw [hxo]; rfl
        unfold clearOf
        rw [hrd, htg]
        simp only [List.contains_nil, Bool.not_false, List.all_nil, Bool.or_true, Bool.and_true, List.all_cons]
        simp only [Bool.and_eq_true, List.all_eq_true]
        refine ⟨⟨fun m hm => ?_, fun _ _ _ _ => trivial⟩, ?_⟩
        · have : id ≠ n0 + m := by
            rcases b10 with ⟨ix, q1, q2⟩ | ⟨_, q2⟩
            · rw [q1] at hav
              simp only at hav
              have : ix ≠ m := by
                rintro rfl
                have : o.av.contains ix = true := by simpa using hm
                rw [this] at hav; cases hav
              omega
            · omega
          simpa using fun q : n0 + m = id => this q.symm
        · rw [Bool.or_eq_true] at hrt ⊢
          rcases hrt with q | q
          · exact .inl q
          · refine .inr ?_
            rw [List.any_eq_true] at q ⊢
            obtain ⟨r, r1, r2⟩ := q
            refine ⟨r, r1, ?_⟩
            cases hl : u.look c o.gd (.t r) with
            | none => rw [hl] at r2; cases r2
            | some p =>
              obtain ⟨t1, o1⟩ := p
              rw [hl] at r2
              have : t1 = t0 := by simpa using r2
              subst this
              obtain ⟨len', id', _, _, _, d2, d3, _⟩ := look_box R hl hact hcs
              rw [b2] at d2
              injection d2 with d2 d4; subst d2
              have d3 : s r = _ := d3
              rw [d3]; simp
      · rw [put_eq] at h1 ⊢
        refine hK _ _ _ _ _ ?_ (Nat.le_refl _) h1
        split
        · refine UbR.addok (hR v) ht0 (cs := cs) ?_
          rw [putS_out (dst_ne hd b1)]; exact hcs
        · exact hR v
    · obtain ⟨t, b, c1, g1, g2, g3⟩ := hin
      rw [put_eq] at h1 ⊢
      refine hK _ _ _ _ _ ?_ (Nat.le_refl _) h1
      rw [if_neg (by rw [g1]; simp)]
      exact hR _
theorem repack_ub {y : AV} {cs : List AV} (hl : y.cells.length = cs.length) (hf : ∀ c ∈ cs, c.flat = true) (hy : ∀ c ∈ y.cells, c.flat = true) : (repack y cs).cells = cs := by
  have one : y.cells = [y] → (repack y cs = cs.headD .undef) → (repack y cs).cells = cs := fun h1 h2 => by
    rw [h1] at hl
    match cs, hl with
    | [x], _ =>
      rw [h2]
      have := hf x (by simp)
      cases x <;> first | rfl | (cases this)
  cases y <;> first | exact one rfl rfl | rfl
theorem fill3 {su : Nat → AV} {len off size rest : Nat} {cs : List AV} {a b : Nat} {v : AX} {w : List AV} (hcs : cs.length = len) (hlen : off + size + rest = len) (hf : ∀ c ∈ cs, c.flat = true) (ha : su a = .agg (cs.take off)) (hb : su b = .agg (cs.drop (off + size)))
    (h : fillA su (List.replicate len .undef) [(0, off, .t a), (off, size, v), (off + size, rest, .t b)] = some w) : (v.ev su).cells.length = size ∧ (v.ev su).cells.all AV.flat = true ∧ w = splice cs off (v.ev su).cells := by
  have l1 : (cs.take off).length = off := by simp; omega
  have l2 : (cs.drop (off + size)).length = rest := by simp; omega
  have f1 : (cs.take off).all AV.flat = true := List.all_eq_true.2 fun c hc => hf c (List.mem_of_mem_take hc)
  have f2 : (cs.drop (off + size)).all AV.flat = true := List.all_eq_true.2 fun c hc => hf c (List.mem_of_mem_drop hc)
  have ha' : (AX.t a).ev su = .agg (cs.take off) := ha
  have hb' : (AX.t b).ev su = .agg (cs.drop (off + size)) := hb
  generalize hvv : v.ev su = vv at *
  unfold fillA at h
  simp only [ha', cells_agg] at h
  rw [if_pos ⟨l1, by simp; omega, f1⟩] at h
  unfold fillA at h
  simp only [hvv] at h
  split at h
  · rename_i q
    unfold fillA at h
    simp only [hb', cells_agg] at h
    refine ⟨q.1, q.2.2, ?_⟩
    split at h
    · unfold fillA at h
      injection h with h
      rw [← h]
      obtain ⟨q1, q2, q3⟩ := q
      generalize vv.cells = vs at q1 q2 q3 ⊢
      unfold splice
      rw [l1, l2, q1]
      simp only [List.take_zero, List.nil_append, Nat.zero_add]
      have e1 : List.take (off + size) (List.take off (cs.take off ++ List.drop off (List.replicate len AV.undef)) ++ vs ++ List.drop (off + size) (cs.take off ++ List.drop off (List.replicate len AV.undef))) = cs.take off ++ vs := by
        rw [List.take_append_of_le_length (by simp [q1]; omega), List.take_of_length_le (by simp [q1]; omega), List.take_append_of_le_length (by omega), List.take_of_length_le (by omega)]
      rw [e1]
      have e2 : List.drop (off + size + rest) (List.take off (cs.take off ++ List.drop off (List.replicate len AV.undef)) ++ vs ++ List.drop (off + size) (cs.take off ++ List.drop off (List.replicate len AV.undef))) = [] := by
        apply List.drop_of_length_le
        simp [q1]; omega
      rw [e2]
      simp
    · cases h
  · cases h
theorem seg_all {cs : List AV} {off size : Nat} (h : off + size ≤ cs.length) : seg cs off size true = some (.agg ((cs.drop off).take size)) := by
  unfold seg
  rw [if_pos h, if_pos rfl]
theorem ub_st {x v : AX} {t0 off size : Nat} (hop : ubSt u c o t0 off size v = some (us, c')) (hxo : o.op = .st x size v) (hx : u.look c o.gd x = some (t0, off)) (hdn : c.dn.contains o.ix = false) (R : UbR u c k n0 s h su hu n)
    (hK : ∀ s' h' su' hu' n', UbR u c' k n0 s' h' su' hu' n' → n ≤ n' → Ku ⟨su', hu', n'⟩ → K ⟨s', h', n'⟩) (hw : wpOps P us n0 Ku ⟨su, hu, n⟩) : wpStep P o n0 K ⟨s, h, n⟩ := by
  unfold ubSt at hop
  cases hlen : u.bx.lookup t0 with
  | none => rw [hlen] at hop; cases hop
  | some len =>
    rw [hlen] at hop
    simp only at hop
    cases hq : stOk u c o t0 off size len v with
    | false => rw [hq] at hop; cases hop
    | true =>
      rw [hq] at hop
      injection hop with hop; injection hop with e1 e2; subst e1; subst e2
      unfold stOk at hq
      simp only [Bool.and_eq_true, decide_eq_true_eq] at hq
      obtain ⟨⟨⟨⟨⟨⟨⟨hnv, hdst⟩, hgd⟩, htN⟩, hle⟩, hav⟩, hrt⟩, havx⟩ := hq
      have hdst : o.dst = none := Option.isNone_iff_eq_none.1 hdst
      have hgd : o.gd = none := Option.isNone_iff_eq_none.1 hgd
      have hact : ∀ t b, o.gd = some (t, b) → su t = .bool b := fun t b e => by rw [hgd] at e; cases e
      have hact' : ∀ t b, (none : Option (Nat × Bool)) = some (t, b) → su t = .bool b := fun t b e => by cases e
      -- the three operations
      have w1 : wpStep P _ n0 _ _ := (wpOps_cons_ _ _ _ _ _).1 hw
      obtain ⟨v1, f1, w2⟩ := (wp_pure (P := P) (n0 := n0) (g := none) (op := .fld (.t t0) 0 off true) (d := some u.N) (ix := o.ix) rfl (by simp [kindO])).1 w1
      obtain ⟨cs, hcs, g1⟩ := fld_agg_of f1
      simp only [AX.ev] at hcs
      obtain ⟨len', id, ee, y, b1, b2, b3, b4, b5, b6, b7, b8, b9, b10⟩ := look_box R hx hact hcs
      rw [hlen] at b1; injection b1 with b1; subst b1
      rw [seg_all (by omega)] at g1
      injection g1 with g1
      rw [List.drop_zero] at g1
      have w3 : wpStep P _ n0 _ _ := (wpOps_cons_ _ _ _ _ _).1 w2
      obtain ⟨v2, f2, w4⟩ := (wp_pure (P := P) (n0 := n0) (g := none) (op := .fld (.t t0) (off + size) (len - off - size) true) (d := some (u.N + 1)) (ix := o.ix) rfl (by simp [kindO])).1 w3
      have hsu1 : upd su u.N v1 t0 = .agg cs := by rw [upd_ne _ _ (by omega)]; exact hcs
      have f2' : fldA (off + size) (len - off - size) true (upd su u.N v1 t0) = some v2 := f2
      rw [hsu1, fld_agg, seg_all (by omega)] at f2'
      injection f2' with g2
      rw [List.take_of_length_le (by simp; omega)] at g2
      have w5 : wpStep P _ n0 _ _ := (wpOps_cons_ _ _ _ _ _).1 w4
      obtain ⟨v3, f3, w6⟩ := (wp_pure (P := P) (n0 := n0) (g := none) (op := .build (List.replicate len .undef) [(0, off, .t u.N), (off, size, v), (off + size, len - off - size, .t (u.N + 1))]) (d := some t0) (ix := o.ix) rfl (by simp [kindO])).1 w5
      -- what they come to
      have f3' : (fillA (upd (upd su u.N v1) (u.N + 1) v2) (List.replicate len .undef) [(0, off, .t u.N), (off, size, v), (off + size, len - off - size, .t (u.N + 1))]).map .agg = some v3 := f3
      cases hfill : fillA (upd (upd su u.N v1) (u.N + 1) v2) (List.replicate len .undef) [(0, off, .t u.N), (off, size, v), (off + size, len - off - size, .t (u.N + 1))] with
      | none => rw [hfill] at f3'; cases f3'
      | some w =>
        rw [hfill] at f3'
        injection f3' with f3'
        obtain ⟨r1, r2, r3⟩ := fill3 (cs := cs) b6 (by omega) b7 (by rw [upd_ne _ _ (by omega), upd_same, ← g1]) (by rw [upd_same, ← g2]) hfill
        have hvs : v.ev (upd (upd su u.N v1) (u.N + 1) v2) = v.ev s := by
          cases v with
          | c vv => rfl
          | t i =>
            have hn : u.nrm i = true := hnv
            have := nrm_lt hn
            show upd (upd su u.N v1) (u.N + 1) v2 i = s i
            rw [upd_ne _ _ (by omega), upd_ne _ _ (by omega), R.eq i hn]
        rw [hvs] at r1 r2 r3
        -- the boxed one
        unfold wpStep
        rw [hgd]
        simp only
        rw [wpOp1_simple (by rw [hxo]; simp [kindO])]
        have hw2 : ∀ c ∈ w, c.flat = true := by
          intro c hc
          rw [r3] at hc
          unfold splice at hc
          rcases List.mem_append.1 hc with hc | hc
          · rcases List.mem_append.1 hc with hc | hc
            · exact b7 c (List.mem_of_mem_take hc)
            · exact List.all_eq_true.1 r2 c hc
          · exact b7 c (List.mem_of_mem_drop hc)
        have hwl : w.length = len := by rw [r3]; unfold splice; rw [List.length_append, List.length_append, List.length_take, List.length_drop, r1]; omega
        refine ⟨.undef, upd h id (some (.arr ee len [repack y w])), ?_, ?_, ?_⟩
        · rw [hxo]
          simp only [evS, b3, stE, b4]
          rw [if_pos ⟨trivial, r1, r2⟩]
          simp only [List.getElem?_cons_zero, b5]
          rw [if_pos (by omega), ← r3]
          rfl
        · have hrd : o.op.reads s = [id] := by rw [hxo]; simp only [AOp.reads, b3, ids_ptr]
          have htg : o.op.tgt s = [id] := by rw [hxo]; simp only [AOp.tgt, b3, ids_ptr]
          unfold clearOf
          rw [hrd, htg]
          simp only [List.all_cons, List.all_nil, Bool.and_true]
          simp only [Bool.and_eq_true, List.all_eq_true]
          have hlook : ∀ r t1 o1, u.look c none (.t r) = some (t1, o1) → ∀ cs', su t1 = .agg cs' → ∃ len' id', u.bx.lookup t1 = some len' ∧ s t1 = .ptr id' len' 0 0 ∧ (s r).ids = [id'] := fun r t1 o1 hl cs' hcs' => by
            obtain ⟨len', id', _, _, d1, d2, d3, _⟩ := look_box R hl hact' hcs'
            have d3 : s r = _ := d3
            exact ⟨len', id', d1, d2, by rw [d3]; simp⟩
          refine ⟨⟨⟨fun m hm => ?_, fun t ht i hi => ?_⟩, ?_⟩, ?_⟩
          · have : id ≠ n0 + m := by
              rcases b10 with ⟨ix, q1, q2⟩ | ⟨_, q2⟩
              · rw [q1] at hav
                simp only [Bool.and_eq_true] at hav
                have : ix ≠ m := by
                  rintro rfl
                  have : o.av.contains ix = true := by simpa using hm
                  rw [this] at hav; cases hav.1
                omega
              · omega
            simpa using fun q : n0 + m = id => this q.symm
          · rw [List.all_eq_true] at havx
            have := havx t ht
            cases hl : u.look c none (.t t) with
            | none => rw [hl] at this; cases this
            | some p =>
              obtain ⟨t1, o1⟩ := p
              rw [hl] at this
              simp only [Bool.and_eq_true, bne_iff_ne, ne_eq] at this
              obtain ⟨_, cs', hcs'⟩ := R.ok t1 (by simpa using this.2)
              obtain ⟨len', id', d1, d2, d3⟩ := hlook t t1 o1 hl cs' hcs'
              rw [d3] at hi
              simp at hi
              subst hi
              have := R.dis t0 t1 cs cs' id i len len' (fun e => this.1 e.symm) hlen d1 hcs hcs' b2 d2
              simpa using fun q : i = id => this q.symm
          · rw [Bool.or_eq_true] at hrt ⊢
            rcases hrt with q | q
            · exact .inl q
            · refine .inr ?_
              rw [List.any_eq_true] at q ⊢
              obtain ⟨r, r1, r2⟩ := q
              refine ⟨r, r1, ?_⟩
              cases hl : u.look c none (.t r) with
              | none => rw [hl] at r2; cases r2
              | some p =>
                obtain ⟨t1, o1⟩ := p
                rw [hl] at r2
                have : t1 = t0 := by simpa using r2
                subst this
                obtain ⟨len', id', d1, d2, d3⟩ := hlook r t1 o1 hl cs hcs
                rw [b2] at d2
                injection d2 with d2 d4; subst d2
                rw [d3]; simp
          · rcases b10 with ⟨ix, q1, q2⟩ | ⟨q1, _⟩
            · rw [q1] at hav
              simp only [Bool.and_eq_true, Bool.or_eq_true] at hav
              rw [Bool.or_eq_true]
              rcases hav.2 with q | q
              · exact .inl q
              · refine .inr ?_
                rw [List.any_eq_true]
                exact ⟨ix, by simpa using q, by simp [q2]⟩
            · rw [q1] at hav
              simp only at hav
              rw [hav]; rfl
        · rw [hdst]
          refine hK _ _ _ _ _ ?_ (Nat.le_refl _) w6
          have hne0 : ∀ t, u.nrm t = true → t ≠ t0 := by rintro t ht rfl; rw [nrm_bx ht] at hlen; cases hlen
          have hsame : ∀ t, t ≠ t0 → t < u.N → upd (upd (upd su u.N v1) (u.N + 1) v2) t0 v3 t = su t := fun t h1 h2 => by
            rw [upd_ne _ _ h1, upd_ne _ _ (by omega), upd_ne _ _ (by omega)]
          have hid : h id ≠ none := by rw [b4]; simp
          show UbR u _ k n0 s _ (upd (upd (upd su u.N v1) (u.N + 1) v2) t0 v3) hu n
          refine ⟨fun t ht => ?_, fun t l cs' hl hsu => ?_, ?_, ?_, R.am, fun t ht => ?_, fun p hp => ?_, fun i ob hi => ?_, fun i hi => ?_, fun hf i hi hc => ?_, R.nk, R.bn⟩
          · rw [hsame t (hne0 t ht) (nrm_lt ht)]; exact R.eq t ht
          · by_cases e : t = t0
            · subst e
              rw [upd_same, ← f3'] at hsu
              injection hsu with hsu
              rw [hlen] at hl; injection hl with hl; subst hl; subst hsu
              exact ⟨id, ee, repack y w, b2, upd_same _ _ _, repack_ub (by rw [b5]; omega) hw2 (by rw [b5]; exact b7), hwl, hw2, b8, b9, b10⟩
            · rw [hsame t e (R.bn t l hl)] at hsu
              obtain ⟨id', e', x', q1, q2, q3, q4, q5, q6, q7, q8⟩ := R.bx t l cs' hl hsu
              have := R.dis t t0 cs' cs id' id l len e hl hlen hsu hcs q1 b2
              exact ⟨id', e', x', q1, by rw [upd_ne _ _ this]; exact q2, q3, q4, q5, q6, q7, q8⟩
          · intro t t' cs1 cs2 id1 id2 l1 l2 htt hl1 hl2 hs1 hs2 hp1 hp2
            have old : ∀ t l cs', u.bx.lookup t = some l → upd (upd (upd su u.N v1) (u.N + 1) v2) t0 v3 t = .agg cs' → ∃ cs'', su t = .agg cs'' := fun t l cs' hl hsu => by
              by_cases e : t = t0
              · subst e; exact ⟨cs, hcs⟩
              · rw [hsame t e (R.bn t l hl)] at hsu; exact ⟨cs', hsu⟩
            obtain ⟨_, o1⟩ := old t l1 cs1 hl1 hs1
            obtain ⟨_, o2⟩ := old t' l2 cs2 hl2 hs2
            exact R.dis t t' _ _ id1 id2 l1 l2 htt hl1 hl2 o1 o2 hp1 hp2
          · intro tk t1 o1 gd hM hgd' id1 l1 hs1 hl1
            refine R.al tk t1 o1 gd hM (fun t b e => ?_) id1 l1 hs1 hl1
            have hn := (R.am _ (lookup_mem hM)).2.1 t b e
            have := hgd' t b e
            rwa [hsame t (hne0 t hn) (nrm_lt hn)] at this
          · rcases List.mem_cons.1 ht with rfl | ht
            · exact ⟨by rw [hlen]; rfl, w, by rw [upd_same, ← f3']⟩
            · obtain ⟨q0, cs', q⟩ := R.ok t ht
              obtain ⟨l, hl⟩ := Option.isSome_iff_exists.1 q0
              refine ⟨q0, ?_⟩
              by_cases e : t = t0
              · subst e; exact ⟨w, by rw [upd_same, ← f3']⟩
              · exact ⟨cs', by rw [hsame t e (R.bn t l hl)]; exact q⟩
          · have := R.cd p hp
            simp only [List.contains_cons, this, Bool.or_true]
          · rw [upd_ne _ _ (by rintro rfl; rw [b8] at hi; cases hi)]; exact R.sub i ob hi
          · by_cases e : i = id
            · subst e; exact b9
            · rw [upd_ne _ _ e] at hi; exact R.wf i hi
          · simp only [List.contains_cons, Bool.or_eq_false_iff] at hc
            have := R.fr hf i hi hc.2
            rw [upd_ne _ _ (by rintro e; rw [e] at this; exact hid this)]; exact this
/-- A box is made. -/
theorem ub_mk {op : AOp} {t0 len e : Nat} {y : AV} (hop : ubMk u c o t0 op = some (us, c')) (hdst : o.dst = some t0) (hlen : u.bx.lookup t0 = some len) (hix : o.ix < k) (hdn : c.dn.contains o.ix = false) (hpu : op.isPure = true) (hkp : kindO op ≠ .C)
    (hm : ∀ v, evP op su = some v → v = .agg y.cells ∧ y.cells.length = len ∧ (∀ c ∈ y.cells, c.flat = true) ∧ wpOp1 P o n0 K ⟨s, h, n⟩ = K (St.put ⟨s, upd h (n0 + o.ix) (some (.arr e len [y])), n⟩ (some t0) (.ptr (n0 + o.ix) len 0 0))) (R : UbR u c k n0 s h su hu n)
    (hK : ∀ s' h' su' hu' n', UbR u c' k n0 s' h' su' hu' n' → n ≤ n' → Ku ⟨su', hu', n'⟩ → K ⟨s', h', n'⟩) (hw : wpOps P us n0 Ku ⟨su, hu, n⟩) : wpStep P o n0 K ⟨s, h, n⟩ := by
  unfold ubMk at hop
  split at hop
  · rename_i hq
    injection hop with hop; injection hop with e1 e2; subst e1; subst e2
    simp only [Bool.and_eq_true] at hq
    obtain ⟨hgd, hfo⟩ := hq
    have hgd : o.gd = none := Option.isNone_iff_eq_none.1 hgd
    have w1 : wpStep P _ n0 _ _ := (wpOps_cons_ _ _ _ _ _).1 hw
    obtain ⟨v, f1, w2⟩ := (wp_pure (P := P) (n0 := n0) (g := none) (op := op) (d := some t0) (ix := o.ix) hpu hkp).1 w1
    obtain ⟨rfl, hyl, hyf, hwp⟩ := hm v f1
    unfold wpStep
    rw [hgd]
    simp only
    rw [hwp]
    have hfresh : h (n0 + o.ix) = none := R.fr hfo o.ix hix hdn
    have hnk := R.nk
    refine hK _ _ _ _ _ ?_ (Nat.le_refl _) w2
    have hne0 : ∀ t, u.nrm t = true → t ≠ t0 := by rintro t ht rfl; rw [nrm_bx ht] at hlen; cases hlen
    show UbR u _ k n0 (upd s t0 _) (upd h (n0 + o.ix) (some (.arr e len [y]))) (upd su t0 (.agg y.cells)) hu n
    refine ⟨fun t ht => ?_, fun t l cs' hl hsu => ?_, ?_, ?_, fun p hp => ?_, fun t ht => ?_, fun p hp => ?_, fun i ob hi => ?_, fun i hi => ?_, fun hf i hi hc => ?_, R.nk, R.bn⟩
    · rw [upd_ne _ _ (hne0 t ht), upd_ne _ _ (hne0 t ht)]; exact R.eq t ht
    · by_cases e' : t = t0
      · subst e'
        rw [upd_same] at hsu ⊢
        injection hsu with hsu; subst hsu
        rw [hlen] at hl; injection hl with hl; subst hl
        refine ⟨n0 + o.ix, e, y, rfl, upd_same _ _ _, rfl, hyl, hyf, R.sub.none hfresh, by omega, .inl ⟨o.ix, by simp, rfl⟩⟩
      · rw [upd_ne _ _ e'] at hsu ⊢
        obtain ⟨id', e2, x', q1, q2, q3, q4, q5, q6, q7, q8⟩ := R.bx t l cs' hl hsu
        refine ⟨id', e2, x', q1, by rw [upd_ne _ _ (by rintro rfl; rw [hfresh] at q2; cases q2)]; exact q2, q3, q4, q5, q6, q7, ?_⟩
        have : (t == t0) = false := by simpa using e'
        simp only [List.lookup_cons, this]
        exact q8
    · intro t t' cs1 cs2 id1 id2 l1 l2 htt hl1 hl2 hs1 hs2 hp1 hp2
      have far : ∀ t l cs' id', t ≠ t0 → u.bx.lookup t = some l → su t = .agg cs' → s t = .ptr id' l 0 0 → id' ≠ n0 + o.ix := by
        intro t l cs' id' _ hl hsu hs
        obtain ⟨id2, e2, x', q1, q2, _⟩ := R.bx t l cs' hl hsu
        rw [q1] at hs; injection hs with hs _; subst hs
        rintro rfl; rw [hfresh] at q2; cases q2
      by_cases e1 : t = t0
      · subst e1
        have e2 : t' ≠ t := fun q => htt q.symm
        rw [upd_same] at hp1
        injection hp1 with hp1 _; subst hp1
        rw [upd_ne _ _ e2] at hs2 hp2
        exact (far t' l2 cs2 id2 e2 hl2 hs2 hp2).symm
      · rw [upd_ne _ _ e1] at hs1 hp1
        by_cases e2 : t' = t0
        · subst e2
          rw [upd_same] at hp2
          injection hp2 with hp2 _; subst hp2
          exact far t l1 cs1 id1 e1 hl1 hs1 hp1
        · rw [upd_ne _ _ e2] at hs2 hp2
          exact R.dis t t' cs1 cs2 id1 id2 l1 l2 htt hl1 hl2 hs1 hs2 hp1 hp2
    · intro tk t1 o1 gd hM hgd' id1 l1 hs1 hl1
      simp only at hM
      split at hM
      · simp at hM
      · rename_i hany
        have hm1 := lookup_mem hM
        have hne : t1 ≠ t0 := by
          rintro rfl
          apply hany
          rw [List.any_eq_true]
          exact ⟨_, hm1, by simp⟩
        have hk1 : tk ≠ t0 := by
          rintro rfl
          have := (R.am _ hm1).2.2.2.1
          simp only at this
          rw [hlen] at this; cases this
        rw [upd_ne _ _ hne] at hs1
        rw [upd_ne _ _ hk1]
        refine R.al tk t1 o1 gd hM (fun t b e => ?_) id1 l1 hs1 hl1
        have := hgd' t b e
        rwa [upd_ne _ _ (hne0 t ((R.am _ hm1).2.1 t b e))] at this
    · simp only at hp
      split at hp
      · simp at hp
      · exact R.am p hp
    · rcases List.mem_cons.1 ht with rfl | ht
      · exact ⟨by rw [hlen]; rfl, _, upd_same _ _ _⟩
      · obtain ⟨q0, cs', q⟩ := R.ok t ht
        refine ⟨q0, ?_⟩
        by_cases e' : t = t0
        · subst e'; exact ⟨_, upd_same _ _ _⟩
        · exact ⟨cs', by rw [upd_ne _ _ e']; exact q⟩
    · rcases List.mem_cons.1 hp with rfl | hp
      · simp
      · have := R.cd p hp
        simp only [List.contains_cons, this, Bool.or_true]
    · rw [upd_ne _ _ (by rintro rfl; rw [R.sub.none hfresh] at hi; cases hi)]; exact R.sub i ob hi
    · by_cases e' : i = n0 + o.ix
      · omega
      · rw [upd_ne _ _ e'] at hi; exact R.wf i hi
    · simp only [List.contains_cons, Bool.or_eq_false_iff] at hc
      have hii : i ≠ o.ix := by simpa using hc.1
      rw [upd_ne _ _ (by omega)]; exact R.fr hf i hi hc.2
  · cases hop
theorem ub_op (hop : ubOp u k c o = some (us, c')) (R : UbR u c k n0 s h su hu n)
    (hK : ∀ s' h' su' hu' n', UbR u c' k n0 s' h' su' hu' n' → n ≤ n' → Ku ⟨su', hu', n'⟩ → K ⟨s', h', n'⟩) (hw : wpOps P us n0 Ku ⟨su, hu, n⟩) : wpStep P o n0 K ⟨s, h, n⟩ := by
  unfold ubOp at hop
  split at hop
  · rename_i hq
    simp only [Bool.and_eq_true, decide_eq_true_eq, Bool.not_eq_true'] at hq
    obtain ⟨⟨hix, hdn⟩, hgd⟩ := hq
    have hnorm : ubNorm u c o = some (us, c') → wpStep P o n0 K ⟨s, h, n⟩ := fun q => ub_norm q hix hdn hgd R hK hw
    split at hop
    · -- new
      rename_i e z hoo
      cases hd : o.dst.bind (fun d => u.bx.lookup d) with
      | none => rw [hd] at hop; exact hnorm hop
      | some len =>
        rw [hd] at hop
        obtain ⟨t0, hdst, hlen⟩ := Option.bind_eq_some_iff.1 hd
        simp only [hdst, Option.getD_some] at hop
        split at hop
        · rename_i hz
          refine ub_mk (e := e) (y := z) hop hdst hlen hix hdn rfl (by simp [kindO]) (fun v hv => ?_) R hK hw
          injection hv with hv
          refine ⟨hv.symm, hz.1, List.all_eq_true.1 hz.2, ?_⟩
          rw [eq_iff_iff, wpOp1_simple (by rw [hoo]; simp [kindO]), hoo, hdst]
          constructor
          · rintro ⟨v, h', q1, _, q3⟩
            simp only [evS] at q1
            rw [if_pos hz.2] at q1
            injection q1 with q1; injection q1 with q1 q2; subst q1; subst q2
            rw [hz.1] at q3; exact q3
          · intro q
            refine ⟨.ptr (n0 + o.ix) len 0 0, _, ?_, clearOf_nil (by rw [hoo]; rfl) (by rw [hoo]; rfl), q⟩
            simp only [evS]
            rw [if_pos hz.2, hz.1]
        · cases hop
    · -- box
      rename_i e x hoo
      cases hd : o.dst.bind (fun d => u.bx.lookup d) with
      | none => rw [hd] at hop; exact hnorm hop
      | some len =>
        rw [hd] at hop
        obtain ⟨t0, hdst, hlen⟩ := Option.bind_eq_some_iff.1 hd
        simp only [hdst, Option.getD_some] at hop
        split at hop
        · rename_i hnx
          have hxs : x.ev su = x.ev s := by
            cases x with
            | c v => rfl
            | t i => exact (R.eq i hnx).symm
          refine ub_mk (e := e) (y := x.ev s) hop hdst hlen hix hdn rfl (by simp [kindO]) (fun v hv => ?_) R hK hw
          have hv : (fillA su (List.replicate len .undef) [(0, len, x)]).map .agg = some v := hv
          unfold fillA at hv
          simp only [hxs] at hv
          split at hv
          · rename_i hz
            obtain ⟨z1, z2, z3⟩ := hz
            unfold fillA at hv
            injection hv with hv
            have hsp : splice (List.replicate len AV.undef) 0 (x.ev s).cells = (x.ev s).cells := by
              unfold splice
              rw [List.take_zero, List.nil_append, Nat.zero_add, List.drop_of_length_le (by rw [z1]; simp), List.append_nil]
            rw [hsp] at hv
            refine ⟨hv.symm, z1, List.all_eq_true.1 z3, ?_⟩
            rw [eq_iff_iff, wpOp1_simple (by rw [hoo]; simp [kindO]), hoo, hdst]
            constructor
            · rintro ⟨v, h', q1, _, q3⟩
              simp only [evS] at q1
              rw [if_pos z3] at q1
              injection q1 with q1; injection q1 with q1 q2; subst q1; subst q2
              rw [z1] at q3; exact q3
            · intro q
              refine ⟨.ptr (n0 + o.ix) len 0 0, _, ?_, clearOf_nil (by rw [hoo]; rfl) (by rw [hoo]; rfl), q⟩
              simp only [evS]
              rw [if_pos z3, z1]
          · cases hv
        · cases hop
    · -- a field's address
      rename_i x off hoo
      cases hl : u.look c o.gd x with
      | none => rw [hl] at hop; exact hnorm hop
      | some p =>
        obtain ⟨t0, o0⟩ := p
        rw [hl] at hop
        exact ub_alias hop hl (by rw [hoo]; rfl) (by rw [hoo]; simp [kindO]) (by rw [hoo]; exact ⟨rfl, rfl⟩) (fun id len e => by rw [hoo]; simp only [evP, e]; rfl) hgd R hK hw
    · rename_i x hoo
      cases hl : u.look c o.gd x with
      | none => rw [hl] at hop; exact hnorm hop
      | some p =>
        obtain ⟨t0, o0⟩ := p
        rw [hl] at hop
        exact ub_alias hop hl (by rw [hoo]; rfl) (by rw [hoo]; simp [kindO]) (by rw [hoo]; exact ⟨rfl, rfl⟩) (fun id len e => by rw [hoo]; simp only [evP, e]) hgd R hK hw
    · rename_i x hoo
      cases hl : u.look c o.gd x with
      | none => rw [hl] at hop; exact hnorm hop
      | some p =>
        obtain ⟨t0, o0⟩ := p
        rw [hl] at hop
        exact ub_alias hop hl (by rw [hoo]; rfl) (by rw [hoo]; simp [kindO]) (by rw [hoo]; exact ⟨rfl, rfl⟩) (fun id len e => by rw [hoo]; simp only [evP, e]; rfl) hgd R hK hw
    · rename_i x size ag hoo
      cases hl : u.look c o.gd x with
      | none => rw [hl] at hop; exact hnorm hop
      | some p =>
        obtain ⟨t0, off⟩ := p
        rw [hl] at hop
        exact ub_ld hop hoo hl hdn hgd R hK hw
    · rename_i x size v hoo
      cases hl : u.look c o.gd x with
      | none => rw [hl] at hop; exact hnorm hop
      | some p =>
        obtain ⟨t0, off⟩ := p
        rw [hl] at hop
        exact ub_st hop hoo hl hdn R hK hw
    · exact hnorm hop
  · cases hop
end
def ubOps (u : UB) (k : Nat) : Cx → List AOper → Option (List AOper)
  | _, [] => some []
  | c, o :: r => match ubOp u k c o with
    | some (us, c') => match ubOps u k c' r with
      | some vs => some (us ++ vs)
      | none => none
    | none => none
theorem wpOps_append {P : Program} (a b : List AOper) (n0 : Nat) (K : St → Prop) (st : St) : wpOps P (a ++ b) n0 K st ↔ wpOps P a n0 (wpOps P b n0 K) st := by
  induction a generalizing st with
  | nil => exact Iff.rfl
  | cons o r ih =>
    rw [List.cons_append, wpOps_cons_, wpOps_cons_]
    exact ⟨fun q => wpStep_mono q fun st q => (ih st).1 q, fun q => wpStep_mono q fun st q => (ih st).2 q⟩
/-- The relation between regions. -/
structure UbS (u : UB) (st su : St) : Prop where
  n : su.n = st.n
  eq : ∀ t, u.nrm t = true → st.s t = su.s t
  bx : ∀ t len cs, u.bx.lookup t = some len → su.s t = .agg cs → ∃ id e x, st.s t = .ptr id len 0 0 ∧ st.h id = some (.arr e len [x]) ∧ x.cells = cs ∧ cs.length = len ∧ (∀ c ∈ cs, c.flat = true) ∧ su.h id = none ∧ id < st.n
  dis : ∀ t t' cs cs' id id' len len', t ≠ t' → u.bx.lookup t = some len → u.bx.lookup t' = some len' → su.s t = .agg cs → su.s t' = .agg cs' → st.s t = .ptr id len 0 0 → st.s t' = .ptr id' len' 0 0 → id ≠ id'
  sub : Sub su.h st.h
  wf : ∀ id, st.h id ≠ none → id < st.n
  bn : ∀ t len, u.bx.lookup t = some len → t < u.N
theorem ub_ops {P : Program} {u : UB} {k n0 : Nat} {K Ku : St → Prop} (hK : ∀ st su, UbS u st su → Ku su → K st) : ∀ {ops us : List AOper} {c : Cx} {s su : Nat → AV} {h hu : Hp} {n : Nat}, ubOps u k c ops = some us → UbR u c k n0 s h su hu n → wpOps P us n0 Ku ⟨su, hu, n⟩ → wpOps P ops n0 K ⟨s, h, n⟩
  | [], us, c, s, su, h, hu, n, ho, R, hw => by
    injection ho with ho; subst ho
    exact hK ⟨s, h, n⟩ ⟨su, hu, n⟩ ⟨rfl, R.eq, fun t len cs hl hs => by
      obtain ⟨id, e, x, q1, q2, q3, q4, q5, q6, q7, _⟩ := R.bx t len cs hl hs
      exact ⟨id, e, x, q1, q2, q3, q4, q5, q6, q7⟩, R.dis, R.sub, R.wf, R.bn⟩ hw
  | o :: r, us, c, s, su, h, hu, n, ho, R, hw => by
    simp only [ubOps] at ho
    split at ho
    · rename_i us1 c1 h1
      split at ho
      · rename_i vs h2
        injection ho with ho; subst ho
        rw [wpOps_cons_]
        rw [wpOps_append] at hw
        exact ub_op h1 R (fun s' h' su' hu' n' R' _ hw' => ub_ops hK h2 R' hw') hw
      · cases ho
    · cases ho
def ubCode (u : UB) (chk : List AOper) : ACode → Option ACode
  | .skip => some .skip
  | .rgn k ops => (ubOps u k ⟨[], [], [], true, []⟩ ops).map (.rgn k)
  | .seq a b => match ubCode u chk a, ubCode u chk b with
    | some x, some y => some (.seq x y)
    | _, _ => none
  | .cond x a b => bif u.nx x then (match ubCode u chk a, ubCode u chk b with
    | some y, some z => some (.cond x y z)
    | _, _ => none) else none
  | .block id c => (ubCode u chk c).map (.block id)
  | .loop c => (ubCode u chk c).map .loop
  | .exit id => some (.exit id)
  | .ret => match chk with
    | [] => some .ret
    | _ => some (.seq (.rgn 0 chk) .ret)
/-- Results that lie in boxes are looked at ahead of the end. -/
def chkOps (u : UB) : List ARes → List AOper
  | [] => []
  | .cell t _ _ :: r => match u.bx.lookup t with
    | some _ => pop (some u.N) none (.fld (.t t) 0 0 true) 0 :: chkOps u r
    | none => chkOps u r
  | .tmp _ :: r => chkOps u r
def ubRes (u : UB) : List ARes → Option (List ARes)
  | [] => some []
  | .tmp t :: r => bif u.nrm t then (ubRes u r).map (.tmp t :: ·) else none
  | .cell t size ag :: r => match u.bx.lookup t with
    | some len => bif ag && size == len then (ubRes u r).map (.tmp t :: ·) else none
    | none => bif u.nrm t then (ubRes u r).map (.cell t size ag :: ·) else none
theorem UbS.toR {u : UB} {st su : St} (S : UbS u st su) (k : Nat) : UbR u ⟨[], [], [], true, []⟩ k st.n st.s st.h su.s su.h (st.n + k) :=
  ⟨S.eq, fun t len cs hl hs => by
    obtain ⟨id, e, x, q1, q2, q3, q4, q5, q6, q7⟩ := S.bx t len cs hl hs
    exact ⟨id, e, x, q1, q2, q3, q4, q5, q6, by omega, .inr ⟨rfl, q7⟩⟩, S.dis, fun tk t0 off gd h => by simp at h, fun p hp => by simp at hp, fun t ht => by simp at ht, fun p hp => by simp at hp, S.sub, fun id hid => by have := S.wf id hid; omega,
    fun _ i _ _ => by
      cases hh : st.h (st.n + i) with
      | none => rfl
      | some ob => have := S.wf _ (by rw [hh]; simp : st.h (st.n + i) ≠ none); omega, Nat.le_refl _, S.bn⟩
/-- The check of the results. -/
def Chk (u : UB) (rs : List ARes) (su : Nat → AV) : Prop := ∀ t size ag len, ARes.cell t size ag ∈ rs → u.bx.lookup t = some len → ∃ cs, su t = .agg cs
theorem chk_sound {P : Program} {u : UB} (hbn : ∀ t len, u.bx.lookup t = some len → t < u.N) : ∀ (rs : List ARes) {n0 : Nat} {K : St → Prop} {su : Nat → AV} {hu : Hp} {n : Nat}, wpOps P (chkOps u rs) n0 K ⟨su, hu, n⟩ → ∃ su', (∀ t, t < u.N → su' t = su t) ∧ Chk u rs su ∧ K ⟨su', hu, n⟩
  | [], n0, K, su, hu, n, h => ⟨su, fun _ _ => rfl, fun t size ag len hm => by simp at hm, h⟩
  | .tmp i :: r, n0, K, su, hu, n, h => by
    obtain ⟨su', q1, q2, q3⟩ := chk_sound hbn r h
    exact ⟨su', q1, fun t size ag len hm hl => by
      rcases List.mem_cons.1 hm with q | q
      · cases q
      · exact q2 t size ag len q hl, q3⟩
  | .cell i sz a :: r, n0, K, su, hu, n, h => by
    simp only [chkOps] at h
    split at h
    · rename_i len0 hl0
      have w1 : wpStep P _ n0 _ _ := (wpOps_cons_ _ _ _ _ _).1 h
      obtain ⟨v, f1, w2⟩ := (wp_pure (P := P) (n0 := n0) (g := none) (op := .fld (.t i) 0 0 true) (d := some u.N) (ix := 0) rfl (by simp [kindO])).1 w1
      obtain ⟨cs, hcs, _⟩ := fld_agg_of f1
      have hcs : su i = .agg cs := hcs
      obtain ⟨su', q1, q2, q3⟩ := chk_sound hbn r (su := upd su u.N v) w2
      refine ⟨su', fun t ht => by rw [q1 t ht, upd_ne _ _ (by omega)], fun t size ag len hm hl => ?_, q3⟩
      rcases List.mem_cons.1 hm with q | q
      · injection q with q _ _; subst q; exact ⟨cs, hcs⟩
      · obtain ⟨cs', e⟩ := q2 t size ag len q hl
        rw [upd_ne _ _ (by have := hbn t len hl; omega)] at e
        exact ⟨cs', e⟩
    · rename_i hl0
      obtain ⟨su', q1, q2, q3⟩ := chk_sound hbn r h
      refine ⟨su', q1, fun t size ag len hm hl => ?_, q3⟩
      rcases List.mem_cons.1 hm with q | q
      · injection q with q _ _; subst q; rw [hl0] at hl; cases hl
      · exact q2 t size ag len q hl
theorem UbS.low {u : UB} {st su : St} (S : UbS u st su) {f : Nat → AV} (hf : ∀ t, t < u.N → f t = su.s t) : UbS u st ⟨f, su.h, su.n⟩ :=
  ⟨S.n, fun t ht => by rw [S.eq t ht]; exact (hf t (nrm_lt ht)).symm, fun t len cs hl hs => S.bx t len cs hl (by rw [← hf t (S.bn t len hl)]; exact hs),
    fun t t' cs cs' id id' len len' h1 h2 h3 h4 h5 => S.dis t t' cs cs' id id' len len' h1 h2 h3 (by rw [← hf t (S.bn t len h2)]; exact h4) (by rw [← hf t' (S.bn t' len' h3)]; exact h5), S.sub, S.wf, S.bn⟩
theorem ret_sound {P : Program} {u : UB} {rs : List ARes} {c' : ACode} {Ku : Out → St → Prop} {st su : St} (hc : ubCode u (chkOps u rs) .ret = some c') (S : UbS u st su) (hw : wpA P c' Ku su) : ∃ su', UbS u st su' ∧ Chk u rs su'.s ∧ Ku .ret su' := by
  have key : wpOps P (chkOps u rs) su.n (Ku .ret) su → ∃ su', UbS u st su' ∧ Chk u rs su'.s ∧ Ku .ret su' := fun h => by
    obtain ⟨s2, h2, n2⟩ := su
    obtain ⟨su', q1, q2, q3⟩ := chk_sound S.bn rs h
    refine ⟨⟨su', h2, n2⟩, S.low q1, fun t size ag len hm hl => ?_, q3⟩
    obtain ⟨cs, e⟩ := q2 t size ag len hm hl
    exact ⟨cs, (q1 t (S.bn t len hl)).trans e⟩
  simp only [ubCode] at hc
  split at hc
  · rename_i e
    injection hc with hc; subst hc
    exact key (by rw [e]; exact hw)
  · injection hc with hc; subst hc
    exact key hw
theorem ub_code {P : Program} {u : UB} {rs : List ARes} : ∀ (c : ACode) {c' : ACode} {K Ku : Out → St → Prop} {st su : St}, ubCode u (chkOps u rs) c = some c' → UbS u st su → (∀ o st su, UbS u st su → (o = .ret → Chk u rs su.s) → Ku o su → K o st) → wpA P c' Ku su → wpA P c K st
  | .skip, c', K, Ku, st, su, hc, S, hK, hw => by
    injection hc with hc; subst hc
    exact hK _ _ _ S (fun q => by cases q) hw
  | .rgn k ops, c', K, Ku, st, su, hc, S, hK, hw => by
    simp only [ubCode] at hc
    obtain ⟨us, hu, rfl⟩ := map_some hc
    obtain ⟨s, h, n⟩ := st
    obtain ⟨s2, h2, n2⟩ := su
    have hn : n2 = n := S.n
    subst hn
    exact ub_ops (fun st su S q => hK _ _ _ S (fun q => by cases q) q) hu (S.toR k) hw
  | .seq a b, c', K, Ku, st, su, hc, S, hK, hw => by
    simp only [ubCode] at hc
    split at hc
    · rename_i x y hx hy
      injection hc with hc; subst hc
      refine ub_code a hx S (fun o st su S hr q => ?_) hw
      cases o with
      | normal => exact ub_code b hy S hK q
      | exit i => exact hK _ _ _ S (fun q => by cases q) q
      | ret => exact hK _ _ _ S hr q
    · cases hc
  | .cond x a b, c', K, Ku, st, su, hc, S, hK, hw => by
    simp only [ubCode] at hc
    cases hx : u.nx x with
    | false => rw [hx] at hc; cases hc
    | true =>
      rw [hx] at hc
      simp only [cond_true] at hc
      split at hc
      · rename_i y z hy hz
        injection hc with hc; subst hc
        have hxe : x.ev st.s = x.ev su.s := by
          cases x with
          | c v => rfl
          | t i => exact S.eq i hx
        simp only [wpA] at hw ⊢
        rw [hxe]
        split at hw
        · rename_i t ht
          split at hw
          · rename_i q; rw [if_pos q]; exact ub_code a hy S hK hw
          · rename_i q; rw [if_neg q]; exact ub_code b hz S hK hw
        · exact hw.elim
      · cases hc
  | .block id c, c', K, Ku, st, su, hc, S, hK, hw => by
    simp only [ubCode] at hc
    obtain ⟨x, hx, rfl⟩ := map_some hc
    refine ub_code c hx S (fun o st su S hr q => ?_) hw
    cases o with
    | normal => exact hK _ _ _ S (fun q => by cases q) q
    | exit j =>
      simp only at q ⊢
      split at q
      · rename_i e; rw [if_pos e]; exact hK _ _ _ S (fun q => by cases q) q
      · rename_i e; rw [if_neg e]; exact hK _ _ _ S (fun q => by cases q) q
    | ret => exact hK _ _ _ S hr q
  | .loop c, c', K, Ku, st, su, hc, S, hK, hw => by
    simp only [ubCode] at hc
    obtain ⟨x, hx, rfl⟩ := map_some hc
    obtain ⟨I, k, h0, hr⟩ := hw
    refine ⟨fun k st => ∃ su, UbS u st su ∧ I k su, k, ⟨su, S, h0⟩, ?_⟩
    rintro k st ⟨su, S, hI⟩
    refine ub_code c hx S (fun o st su S hrr q => ?_) (hr k su hI)
    cases o with
    | normal => obtain ⟨k', q1, q2⟩ := q; exact ⟨k', q1, su, S, q2⟩
    | exit i => exact hK _ _ _ S (fun q => by cases q) q
    | ret => exact hK _ _ _ S hrr q
  | .exit id, c', K, Ku, st, su, hc, S, hK, hw => by
    injection hc with hc; subst hc
    exact hK _ _ _ S (fun q => by cases q) hw
  | .ret, c', K, Ku, st, su, hc, S, hK, hw => by
    obtain ⟨su', q1, q2, q3⟩ := ret_sound hc S hw
    exact hK .ret st su' q1 (fun _ => q2) q3
theorem ub_res {u : UB} {st su : St} (S : UbS u st su) : ∀ {rs rs' : List ARes} {vs : List AV}, Chk u rs su.s → ubRes u rs = some rs' → resL su rs' = some vs → resL st rs = some vs
  | [], rs', vs, hC, h, hv => by
    injection h with h; subst h; exact hv
  | .tmp t :: r, rs', vs, hC, h, hv => by
    simp only [ubRes] at h
    cases hn : u.nrm t with
    | false => rw [hn] at h; cases h
    | true =>
      rw [hn] at h
      simp only [cond_true] at h
      obtain ⟨r', hr, rfl⟩ := map_some h
      simp only [resL, ARes.ev] at hv ⊢
      cases hv' : resL su r' with
      | none => rw [hv'] at hv; cases hv
      | some ws =>
        rw [hv'] at hv
        rw [ub_res S (fun t size ag len hm hl => hC t size ag len (List.mem_cons_of_mem _ hm) hl) hr hv', S.eq t hn]
        exact hv
  | .cell t size ag :: r, rs', vs, hC, h, hv => by
    simp only [ubRes] at h
    have hC' : Chk u r su.s := fun t size ag len hm hl => hC t size ag len (List.mem_cons_of_mem _ hm) hl
    cases hl : u.bx.lookup t with
    | some len =>
      rw [hl] at h
      simp only at h
      cases hg : (ag && size == len) with
      | false => rw [hg] at h; cases h
      | true =>
        rw [hg] at h
        simp only [cond_true] at h
        obtain ⟨r', hr, rfl⟩ := map_some h
        rw [Bool.and_eq_true, beq_iff_eq] at hg
        obtain ⟨rfl, rfl⟩ := hg
        obtain ⟨cs, hcs⟩ := hC t size true size (by simp) hl
        obtain ⟨id, e, x, q1, q2, q3, q4, q5, q6, q7⟩ := S.bx t size cs hl hcs
        simp only [resL, ARes.ev] at hv ⊢
        cases hv' : resL su r' with
        | none => rw [hv'] at hv; cases hv
        | some ws =>
          rw [hv', hcs] at hv
          rw [ub_res S hC' hr hv', q1]
          simp only [ldE, q2, if_true, List.getElem?_cons_zero, q3]
          rw [seg_all (by omega), List.drop_zero, List.take_of_length_le (by omega)]
          exact hv
    | none =>
      rw [hl] at h
      simp only at h
      cases hn : u.nrm t with
      | false => rw [hn] at h; cases h
      | true =>
        rw [hn] at h
        simp only [cond_true] at h
        obtain ⟨r', hr, rfl⟩ := map_some h
        simp only [resL, ARes.ev] at hv ⊢
        cases hld : ldE su.h (su.s t) size ag with
        | none => rw [hld] at hv; cases hv
        | some w =>
          rw [hld] at hv
          cases hv' : resL su r' with
          | none => rw [hv'] at hv; cases hv
          | some ws =>
            rw [hv'] at hv
            rw [ub_res S hC' hr hv', S.eq t hn, ldE_sub S.sub hld]
            exact hv
/-- A function's code, without memory for its own variables. -/
theorem ub_fn {P : Program} {u : UB} {ac bc : ACode} {rs rs' : List ARes} (hc : ubCode u (chkOps u rs) (.seq ac .ret) = some bc) (hr : ubRes u rs = some rs') (hN : u.bx.all (fun p => decide (p.1 < u.N)) = true) {vs : List AV} (hvs : u.bx.all (fun p => decide (vs.length ≤ p.1)) = true) {h : Hp} {n : Nat} {K : AV → Hp → Nat → Prop}
    (hwf : ∀ id, h id ≠ none → id < n) (hw : wpA P bc (retA rs' K) ⟨argS vs, h, n⟩) : wpA P ac (retA rs fun r h' n' => ∃ h2 : Hp, (∀ id ob, h2 id = some ob → h' id = some ob) ∧ K r h2 n') ⟨argS vs, h, n⟩ := by
  rw [List.all_eq_true] at hN hvs
  have hbn : ∀ t len, u.bx.lookup t = some len → t < u.N := fun t len hl => by simpa using hN _ (lookup_mem hl)
  have hund : ∀ t len cs, u.bx.lookup t = some len → argS vs t ≠ .agg cs := fun t len cs hl hs => by
    have : vs.length ≤ t := by simpa using hvs _ (lookup_mem hl)
    simp only [argS, List.getD_eq_getElem?_getD, List.getElem?_eq_none this, Option.getD_none] at hs
    cases hs
  have S0 : UbS u ⟨argS vs, h, n⟩ ⟨argS vs, h, n⟩ := ⟨rfl, fun _ _ => rfl, fun t len cs hl hs => absurd hs (hund t len cs hl), fun t t' cs cs' id id' len len' h1 h2 h3 h4 => absurd h4 (hund t len cs h2), fun _ _ h => h, hwf, hbn⟩
  have hfin : ∀ st su, UbS u st su → Chk u rs su.s → retA rs' K .ret su → retA rs (fun r h' n' => ∃ h2 : Hp, (∀ id ob, h2 id = some ob → h' id = some ob) ∧ K r h2 n') .ret st := by
    intro st su S hC hq
    simp only [retA] at hq ⊢
    unfold resV at hq ⊢
    cases hv : resL su rs' with
    | none => rw [hv] at hq; exact hq.elim
    | some ws =>
      rw [hv] at hq
      rw [ub_res S hC hr hv]
      match ws with
      | [] => exact ⟨su.h, S.sub, by rw [← S.n]; exact hq⟩
      | [w] => exact ⟨su.h, S.sub, by rw [← S.n]; exact hq⟩
      | w :: w2 :: ws => exact ⟨su.h, S.sub, by rw [← S.n]; exact hq⟩
  simp only [ubCode] at hc
  split at hc
  · rename_i x y hx hy
    injection hc with hc; subst hc
    refine ub_code ac hx S0 (fun o st su S hC hq => ?_) hw
    cases o with
    | normal =>
      obtain ⟨su', q1, q2, q3⟩ := ret_sound (rs := rs) hy S hq
      exact hfin st su' q1 q2 q3
    | exit i => exact hq.elim
    | ret => exact hfin st su S (hC rfl) hq
  · cases hc
theorem ub_use {P : Program} {f : Nat} {u : UB} {ac bc : ACode} {rs rs' : List ARes} {m : Nat} (hc : ubCode u (chkOps u rs) (.seq ac .ret) = some bc) (hr : ubRes u rs = some rs') (hN : (u.bx.all (fun p => decide (p.1 < u.N)) && u.bx.all (fun p => decide (m ≤ p.1))) = true) {vs : List AV} (hvs : vs.length ≤ m) {h : Hp} {n : Nat} {K : AV → Hp → Nat → Prop}
    (hw : (∀ id, h id ≠ none → id < n) → wpA P bc (retA rs' K) ⟨argS vs, h, n⟩) (he : ∀ {K : AV → Hp → Nat → Prop}, wpA P ac (retA rs K) ⟨argS vs, h, n⟩ → CallsA P f vs h n K) : CallsA P f vs h n K := by
  rw [Bool.and_eq_true] at hN
  refine CallsA.wf fun hwf => CallsA.forget (he (ub_fn hc hr hN.1 ?_ hwf (hw hwf)))
  rw [List.all_eq_true] at hN ⊢
  intro p hp
  have := List.all_eq_true.1 hN.2 p hp
  simp only [decide_eq_true_eq] at this ⊢
  omega
end Go.E3
