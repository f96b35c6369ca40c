/- Pure operations: their code, and that they are as the model's. -/
import Derived.Test.YtdbakmdcepkpmaaLc
set_option linter.unusedSimpArgs false
set_option linter.unusedVariables false
namespace Go.E3
def sizeT (P : Program) (t : TypeId) : Option Nat := (P.info? t).map (·.size)
def aggT (P : Program) (t : TypeId) : Option Bool :=
  match P.underlying t with
  | some (.struct _) => some true
  | some (.array _ _) => some true
  | some _ => some false
  | none => none
section
variable {P : Program} (w : World)
theorem run_underlying' {t : TypeId} {d : TypeDesc} (h : P.underlying t = some d) : (underlying t).run P w = .ok d w := run_underlying h w
theorem run_sizeT {t : TypeId} {n : Nat} (h : sizeT P t = some n) : (sizeOf t).run P w = .ok n w := by
  unfold sizeT at h
  cases hi : P.info? t with
  | none => simp [hi] at h
  | some i => simp [hi] at h; simp [sizeOf, typeInfo, hi, h]
theorem run_aggT {t : TypeId} {b : Bool} (h : aggT P t = some b) : (isAgg t).run P w = .ok b w := by
  unfold aggT at h
  cases hu : P.underlying t with
  | none => simp [hu] at h
  | some d =>
    unfold isAgg
    rw [Sem.run_bind, run_underlying hu w]
    cases d <;> simp_all
end
/-! ### The code of pure operations -/
def compXs : List Operand → Option (List AX)
  | [] => some []
  | x :: r => match compX x, compXs r with
    | some y, some ys => some (y :: ys)
    | _, _ => none
def compO : Option Operand → Option (Option AX)
  | none => some none
  | some x => (compX x).map some
def compParts (fs : Nat → Option (Nat × Nat)) : List (Nat × Operand) → Option (List (Nat × Nat × AX))
  | [] => some []
  | (i, x) :: r => match fs i, compX x, compParts fs r with
    | some (o, n), some y, some ys => some ((o, n, y) :: ys)
    | _, _, _ => none
def litNilOp (t : TypeDesc) (y : Operand) : Option Nat :=
  match t, y with
  | .pointer _, .const (.pointer none) => some 0
  | .slice _, .const (.slice none 0 0) => some 1
  | .map _ _, .const (.map none) => some 2
  | .func _ _ _, .const .nilFunc => some 3
  | _, _ => none
/-- The kinds of a struct's fields, where all of them are scalars. -/
def eqKinds (P : Program) : List Field → Nat → Option (List Nat)
  | [], _ => some []
  | f :: r, i => if f.name = "_" ∨ f.offset ≠ i then none else
    match P.underlying f.type, eqKinds P r (i + 1) with
    | some (.int _), some ks => some (0 :: ks)
    | some .bool, some ks => some (1 :: ks)
    | some .string, some ks => some (2 :: ks)
    | _, _ => none
def eqStruct (P : Program) (t : TypeId) (fs : List Field) : Option (List Nat) :=
  if P.stoodInHeld t || P.eqGuardType P.depth t then none else eqKinds P fs 0
def compP (P : Program) (op : Op) : Option AOp :=
  match op with
  | .move x => (compX x).map .mov
  | .assign x => (compX x).map .mov
  | .pick c a b => match compX c, compX a, compX b with
    | some c, some a, some b => some (.pick c a b)
    | _, _, _ => none
  | .extract t i => (compX t).map (.ext · i)
  | .field t x f => match P.underlying t with
    | some (.struct fs) => match fs[f]? with
      | some fl => match sizeT P fl.type, aggT P fl.type, compX x with
        | some n, some b, some x => some (.fld x fl.offset n b)
        | _, _, _ => none
      | none => none
    | _ => none
  | .unOp op _ x => (compX x).map (.un op)
  | .convert src dst x => match P.underlying src, P.underlying dst with
    | some (.int _), some (.int k) => (compX x).map (.cvt k)
    | _, _ => none
  | .makeFunc (.func f) first caps => if first.size = 0 then (compXs caps.toList).map (.mkf f) else none
  | .fieldAddr t x f => match P.underlying t with
    | some (.struct fs) => match fs[f]? with
      | some fl => match sizeT P fl.type, compX x with
        | some n, some x => if n = 0 then none else some (.fa x fl.offset)
        | _, _ => none
      | none => none
    | _ => none
  | .indexAddr t x i => match P.underlying t, compX x, compX i with
    | some (.slice e), some x, some i => (sizeT P e).map fun n => .ia n x i
    | some (.array m e), some x, some i => (sizeT P e).map fun n => .iaa m n x i
    | _, _, _ => none
  | .nilCheck x => (compX x).map .nck
  | .slice t x lo hi mx => match P.underlying t, compX x, compO lo, compO hi, compO mx with
    | some (.slice e), some x, some lo, some hi, some mx => if mx.isSome && hi.isNone then none else (sizeT P e).map fun n => .slc n x lo hi mx
    | _, _, _, _, _ => none
  | .binOp op t x y _ => match P.underlying t, compX x, compX y with
    | some d, some x', some y' =>
      match litNilOp d y with
      | some kd => (match op with
        | .eql => some (.isn kd false x')
        | .neq => some (.isn kd true x')
        | _ => none)
      | none => (match d with
        | .int _ => some (.bin op x' y')
        | .bool => (match op with
          | .eql => some (.bib false x' y')
          | .neq => some (.bib true x' y')
          | _ => none)
        | .string => some (.bin op x' y')
        | .struct fs => (match eqStruct P t fs.toList, op with
          | some ks, .eql => some (.eqa false ks x' y')
          | some ks, .neq => some (.eqa true ks x' y')
          | _, _ => none)
        | _ => none)
    | _, _, _ => none
  | .build t ps => match P.info? t, P.underlying t with
    | some i, some (.struct fs) => if fs.toList.all (fun f => (sizeT P f.type).isSome) = false then none else match i.zero with
      | some (.agg z) => match ofSs z.toList, compParts (fun j => (fs[j]?).bind fun f => (sizeT P f.type).map fun n => (f.offset, n)) ps.toList with
        | some z, some ps => some (.build z ps)
        | _, _ => none
      | _ => none
    | some i, some (.array _ e) => match i.zero, sizeT P e with
      | some (.agg z), some n => match ofSs z.toList, compParts (fun j => some (j * n, n)) ps.toList with
        | some z, some ps => some (.build z ps)
        | _, _ => none
      | _, _ => none
    | _, _ => none
  | .call { callee := .builtin b, args, argTypes } => match b, args.toList with
    | .len, [x] => match (argTypes[0]?).bind P.underlying, compX x with
      | some (.slice _), some x => some (.len x)
      | some .string, some x => some (.lens x)
      | _, _ => none
    | .cap, [x] => match (argTypes[0]?).bind P.underlying, compX x with
      | some (.slice _), some x => some (.cap x)
      | _, _ => none
    | .max, xs => (compXs xs).map .max
    | .min, xs => (compXs xs).map .min
    | _, _ => none
  | _ => none
section
variable {P : Program} {g : G} {w : World} {s : Nat → AV} {a : Act}
theorem compXs_spec : ∀ {l : List Operand} {xs : List AX}, compXs l = some xs → RelT g w s a → l.length = xs.length ∧ ∀ (j : Nat) (v : AV) (u : Value), (xs.map (·.ev s))[j]? = some v → (l.map a.eval)[j]? = some u → VR g w v u
  | [], xs, h, _ => by simp [compXs] at h; subst h; simp
  | x :: r, xs, h, hr => by
    simp only [compXs] at h
    split at h
    · rename_i y ys hy hys
      injection h with h; subst h
      obtain ⟨h1, h2⟩ := compXs_spec hys hr
      refine ⟨by simp [h1], fun j v u hv hu => ?_⟩
      cases j with
      | zero => simp at hv hu; subst hv; subst hu; exact compX_spec hy hr
      | succ j => exact h2 j v u (by simpa using hv) (by simpa using hu)
    · cases h
/-- What a pure operation must be shown to do. -/
def Runs (P : Program) (g : G) (w : World) (m : Sem Value) (v : AV) : Prop := ∃ u, m.run P w = .ok u w ∧ VR g w v u
theorem fieldAt_runs {t f : Nat} {fs : Array Field} {fl : Field} {n : Nat} (ht : P.underlying t = some (.struct fs)) (hf : fs[f]? = some fl) (hn : sizeT P fl.type = some n) (h0 : n ≠ 0)
    {x v : AV} {u : Value} (hx : VR g w x u) (hv : faA fl.offset x = some v) : Runs P g w (Instr.fieldAt t u f) v := by
  have hrun : ∀ ad : Addr, (Instr.fieldAt t (.pointer (some ad)) f).run P w = .ok (.pointer (some (ad.add fl.offset))) w := by
    intro ad
    simp [Instr.fieldAt, Instr.sureAddr, run_underlying ht, hf, fieldPlace, run_sizeT w hn, h0]
  unfold faA at hv
  split at hv
  · rename_i id sz i o
    injection hv with hv; subst hv
    cases hx with
    | ptr id sz i o b f' hA hi =>
      refine ⟨_, hrun _, ?_⟩
      have : (⟨b, f' + i * sz + o, none⟩ : Addr).add fl.offset = ⟨b, f' + i * sz + (o + fl.offset), none⟩ := by
        unfold Addr.add; split
        · rename_i h; simp [h]
        · simp [Nat.add_assoc]
      rw [this]
      exact .ptr id sz i (o + fl.offset) b f' hA hi
  · rename_i cs
    injection hv with hv; subst hv
    cases hx with
    | iptr cs ad us hs hl him hf' hc hv' =>
      refine ⟨_, hrun _, ?_⟩
      have hb : (ad.add fl.offset).block = ad.block := by unfold Addr.add; split <;> rfl
      have hadd : ∀ j, (ad.add fl.offset).add j = ad.add (fl.offset + j) := by
        intro j; unfold Addr.add; (repeat' split) <;> simp_all <;> omega
      refine .iptr (cs.drop fl.offset) (ad.add fl.offset) (us.drop fl.offset) (by unfold Addr.add; split <;> simp [hs]) (by simp [hl]) (fun hne => ?_) (fun c hc' => hf' c (List.mem_of_mem_drop hc')) (fun j u hj => ?_) (fun j c u hc' hu => ?_)
      · rw [hb]; exact him (by rintro rfl; simp at hne)
      · rw [hadd]; rw [List.getElem?_drop] at hj; exact hc _ u hj
      · rw [List.getElem?_drop] at hc' hu; exact hv' _ c u hc' hu
  · cases hv
theorem add_zero_ (a : Addr) (h : a.spot = none) (n : Nat) : a.add n = ⟨a.block, a.off + n, none⟩ := by
  unfold Addr.add; split
  · rename_i h0; subst h0; cases a; simp_all
  · simp [h]
theorem indexAt_slice_runs {t e n : Nat} (ht : P.underlying t = some (.slice e)) (hn : sizeT P e = some n)
    {x i v : AV} {u ui : Value} (hx : VR g w x u) (hi : VR g w i ui) (hv : iaA n x i = some v) : Runs P g w (Instr.indexAt t u ui) v := by
  have hrun : ∀ (ad : Addr) (len c : Nat) (kk : IntKind) (k : Int), 0 ≤ k → k < len → (Instr.indexAt t (.slice (some ad) len c) (.int kk k)).run P w = .ok (.pointer (some (ad.add (k.toNat * n)))) w := by
    intro ad len c kk k h0 h1
    simp [Instr.indexAt, asIntOf, run_underlying ht, run_sizeT w hn, h0, h1]
  unfold iaA at hv
  split at hv
  · rename_i nl ex xs kk k
    split at hv
    · rename_i h0
      split at hv
      · rename_i el hel
        split at hv
        · rename_i hlen
          injection hv with hv; subst hv
          have hi' := hi.inv_int; subst hi'
          cases hx with
          | isl _ _ _ sz A c us hl h1 h2 h3 h4 hs hc hx' hv' =>
            have hk : k.toNat < xs.length := (List.getElem?_eq_some_iff.1 hel).1
            have hul : k.toNat < us.length := by omega
            obtain ⟨ul, hule⟩ : ∃ ul, us[k.toNat]? = some ul := ⟨_, List.getElem?_eq_getElem hul⟩
            cases A with
            | none => have := h4 rfl; omega
            | some ad =>
              obtain ⟨hsp, him⟩ := hs ad rfl
              obtain ⟨hsz, hcell⟩ := hc _ _ hule
              obtain ⟨hxl, hfl⟩ := hx' _ _ _ hel hule
              have hszn : sz = n := by omega
              subst hszn
              refine ⟨_, hrun ad xs.length c kk k h0 (by omega), ?_⟩
              have hne : xs ≠ [] := by rintro rfl; simp at hel
              refine .iptr el.cells (ad.add (k.toNat * sz)) ul (by rw [add_zero_ _ hsp]) (by omega) (fun _ => by rw [add_zero_ _ hsp]; exact him hne) hfl (fun j u hj => ?_) (hv' _ _ _ hel hule)
              have := hcell ad rfl j u hj
              rw [add_zero_ _ hsp] at this ⊢
              rw [add_zero_ _ rfl]
              simpa [Nat.add_assoc] using this
        · cases hv
      · cases hv
    · cases hv
  · rename_i id sz' off len cap ex kk k
    split at hv
    · rename_i hcond
      obtain ⟨rfl, h0, h1⟩ := hcond
      injection hv with hv; subst hv
      have hi' := hi.inv_int; subst hi'
      cases hx with
      | sl _ _ _ _ _ _ b f c hA hi2 h1' h2 h3 hz =>
        refine ⟨_, hrun _ len c kk k h0 h1, ?_⟩
        rw [add_zero_ _ rfl]
        have : f + off * n + k.toNat * n = f + (off + k.toNat) * n + 0 := by rw [Nat.add_mul]; omega
        simp only [this]
        exact .ptr id n (off + k.toNat) 0 b f hA hi2
    · cases hv
  · cases hv
theorem indexAt_array_runs {t e m n : Nat} (ht : P.underlying t = some (.array m e)) (hn : sizeT P e = some n)
    {x i v : AV} {u ui : Value} (hx : VR g w x u) (hi : VR g w i ui) (hv : iaaA m n x i = some v) : Runs P g w (Instr.indexAt t u ui) v := by
  have hrun : ∀ (ad : Addr) (kk : IntKind) (k : Int), 0 ≤ k → k < m → (Instr.indexAt t (.pointer (some ad)) (.int kk k)).run P w = .ok (.pointer (some (ad.add (k.toNat * n)))) w := by
    intro ad kk k h0 h1
    simp [Instr.indexAt, Instr.sureAddr, asIntOf, run_underlying ht, run_sizeT w hn, h0, h1]
  unfold iaaA at hv
  split at hv
  · rename_i id z j o kk k
    split at hv
    · rename_i hc
      injection hv with hv; subst hv
      have hi' := hi.inv_int; subst hi'
      cases hx with
      | ptr _ _ _ _ b f' hA hi2 =>
        refine ⟨_, hrun _ kk k hc.1 hc.2, ?_⟩
        rw [add_zero_ _ rfl]
        simp only [Nat.add_assoc]
        rw [← Nat.add_assoc f']
        exact .ptr id z j _ b f' hA hi2
    · cases hv
  · rename_i cs kk k
    split at hv
    · rename_i hcnd
      injection hv with hv; subst hv
      have hi' := hi.inv_int; subst hi'
      cases hx with
      | iptr _ ad us hs hl him hf' hc hv' =>
        refine ⟨_, hrun _ kk k hcnd.1 hcnd.2, ?_⟩
        refine .iptr (cs.drop _) (ad.add _) (us.drop (k.toNat * n)) (by rw [add_zero_ _ hs]) (by simp [hl]) (fun hne => ?_) (fun c hc' => hf' c (List.mem_of_mem_drop hc')) (fun j u hj => ?_) (fun j c u hc' hu => ?_)
        · rw [add_zero_ _ hs]; exact him (by rintro rfl; simp at hne)
        · rw [add_zero_ _ hs, add_zero_ _ rfl]; rw [List.getElem?_drop] at hj; have := hc _ u hj; rw [add_zero_ _ hs] at this; simpa [Nat.add_assoc] using this
        · rw [List.getElem?_drop] at hc' hu; exact hv' _ c u hc' hu
    · cases hv
  · cases hv
theorem binOp_runs (op : BinOp) (t : TypeId) {x y v : AV} {ux uy : Value} (hx : VR g w x ux) (hy : VR g w y uy) (hv : binA op x y = some v) (ox oy : Operand) :
    Runs P g w (do eqGuard op t ox oy ux uy; binOp op t ux uy) v := by
  unfold binA at hv
  split at hv
  · rename_i k a k' b
    obtain rfl := hx.inv_int; obtain rfl := hy.inv_int
    have hq : (eqGuard op t ox oy (.int k a) (.int k' b)).run P w = .ok () w := by cases op <;> simp [eqGuard]
    unfold Runs
    simp only [Sem.run_bind, hq, Result.andThen_ok]
    split at hv
    · rename_i hsh
      unfold shI at hv
      split at hv
      · cases hv
      · rename_i hb
        cases op <;> simp [isShift] at hsh <;> (injection hv with hv; subst hv; refine ⟨_, ?_, .int _ _⟩; simp [binOp, Op.shift, hb])
    · rename_i hsh
      split at hv
      · rename_i hk; subst hk
        cases op <;> simp only [binI] at hv <;> first
          | (simp [isShift] at hsh; done)
          | (split at hv
             · cases hv
             · injection hv with hv; subst hv; refine ⟨_, ?_, .int _ _⟩; rename_i h0; simp [binOp, Op.intDiv, h0]; done)
          | (injection hv with hv; subst hv; refine ⟨_, ?_, .int _ _⟩; simp [binOp, Op.intArith]; done)
          | (injection hv with hv; subst hv; refine ⟨_, ?_, .bool _⟩; simp [binOp, Op.intCmp]; done)
          | (injection hv with hv; subst hv; refine ⟨_, ?_, .int _ _⟩; simp only [binOp, ne_eq, not_true_eq_false, if_false]; rfl)
      · cases hv
  · rename_i a b
    obtain rfl := hx.inv_str; obtain rfl := hy.inv_str
    have hq : (eqGuard op t ox oy (.string a) (.string b)).run P w = .ok () w := by cases op <;> simp [eqGuard]
    unfold Runs
    simp only [Sem.run_bind, hq, Result.andThen_ok]
    cases op <;> first | (cases hv; done) | (injection hv with hv; subst hv; refine ⟨_, ?_, .bool _⟩; simp [binOp, Op.stringOp])
  · cases hv
theorem bib_runs (op : BinOp) (neg : Bool) (hop : op = if neg then .neq else .eql) (t : TypeId) (ht : P.underlying t = some .bool) {x y v : AV} {ux uy : Value} (hx : VR g w x ux) (hy : VR g w y uy)
    (hv : bibA neg x y = some v) (ox oy : Operand) : Runs P g w (do eqGuard op t ox oy ux uy; binOp op t ux uy) v := by
  unfold bibA at hv
  split at hv
  · rename_i a b
    obtain rfl := hx.inv_bool; obtain rfl := hy.inv_bool
    have hq : (eqGuard op t ox oy (.bool a) (.bool b)).run P w = .ok () w := by cases op <;> simp [eqGuard]
    unfold Runs
    simp only [Sem.run_bind, hq, Result.andThen_ok]
    injection hv with hv; subst hv; subst hop
    refine ⟨_, ?_, .bool _⟩
    cases neg <;> simp [binOp, Op.equal, Op.maxDepth, run_equalIn_bool w _ t a b ht]
  · cases hv
end
end Go.E3
