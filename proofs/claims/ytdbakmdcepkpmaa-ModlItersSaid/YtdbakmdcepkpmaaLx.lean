/- What a function keeps; lemmas for walking. -/
import Derived.Test.YtdbakmdcepkpmaaLw
set_option linter.unusedSimpArgs false
set_option linter.unusedVariables false
namespace Go.E3
structure Keeps (h : Hp) (n : Nat) (h' : Hp) : Prop where
  old : ∀ id, id < n → h' id = h id
theorem Keeps.refl (h : Hp) (n : Nat) : Keeps h n h := ⟨fun _ _ => rfl⟩
theorem Keeps.upd {h : Hp} {n : Nat} {h' : Hp} (k : Keeps h n h') {id : Nat} (hid : n ≤ id) (o : Option AObj) : Keeps h n (upd h' id o) :=
  ⟨fun j hj => by rw [upd_ne _ _ (by omega)]; exact k.old j hj⟩
theorem Keeps.trans {h : Hp} {n : Nat} {h' : Hp} {n' : Nat} {h'' : Hp} (k : Keeps h n h') (k' : Keeps h' n' h'') (hn : n ≤ n') : Keeps h n h'' :=
  ⟨fun j hj => by rw [k'.old j (by omega), k.old j hj]⟩
section
variable {P : Program} {f : Nat} {vs : List AV} {h : Hp} {n : Nat}
/-- A function's result, frozen; all else that it made is forgotten. -/
theorem CallsA.pure (k : Nat) {r : AV} (hc : CallsA P f vs h n fun r0 h' _ => Keeps h n h' ∧ frz (fun id => decide (n ≤ id)) h' k r0 = some r) : CallsA P f vs h n fun r' h' _ => r' = r ∧ h' = h := by
  refine CallsA.wf fun hwf => ?_
  refine CallsA.freeze (k := k) (hc.mono ?_)
  rintro r0 h' n' ⟨q1, q2⟩
  refine ⟨fun id hid => q1.old id (hwf id hid), fun id hid => ?_, r, q2, rfl, rfl⟩
  rcases Nat.lt_or_ge id n with q | q
  · rw [q1.old id q] at hid; exact .inl hid
  · exact .inr q
end
/-! ### Walking -/
theorem upd_at {α : Type} (f : Nat → α) (i : Nat) (v : α) (j : Nat) : upd f i v j = if j = i then v else f j := rfl
theorem putS_some (s : Nat → AV) (d : Nat) (v : AV) : putS s (some d) v = upd s d v := rfl
theorem put_some (s : Nat → AV) (h : Hp) (n d : Nat) (v : AV) : St.put ⟨s, h, n⟩ (some d) v = ⟨upd s d v, h, n⟩ := rfl
theorem put_none (st : St) (v : AV) : St.put st none v = st := rfl
section
variable {P : Program} {Q : Out → St → Prop} {st : St}
theorem seqK {a b : ACode} (h : ∀ K : Out → St → Prop, (∀ st, wpA P b Q st → K .normal st) → (∀ i st, Q (.exit i) st → K (.exit i) st) → (∀ st, Q .ret st → K .ret st) → wpA P a K st) : wpA P (.seq a b) Q st :=
  h _ (fun _ q => q) (fun _ _ q => q) (fun _ q => q)
theorem blockK {id : Nat} {c : ACode} (h : ∀ K : Out → St → Prop, (∀ st, Q .normal st → K .normal st) → (∀ st, Q .normal st → K (.exit id) st) → (∀ i st, i ≠ id → Q (.exit i) st → K (.exit i) st) → (∀ st, Q .ret st → K .ret st) → wpA P c K st) : wpA P (.block id c) Q st :=
  h _ (fun _ q => q) (fun st q => by simpa using q) (fun i st hi q => by simpa [hi] using q) (fun _ q => q)
/-- Where code comes together: what holds there. -/
theorem seqJ {a b : ACode} (J : St → Prop) (h1 : wpA P a (fun o st => match o with
    | .normal => J st
    | o => Q o st) st) (h2 : ∀ st, J st → wpA P b Q st) : wpA P (.seq a b) Q st := by
  refine wpA_mono a h1 fun o st h => ?_
  cases o with
  | normal => exact h2 st h
  | exit id => exact h
  | ret => exact h
theorem blockJ {id : Nat} {c : ACode} (J : St → Prop) (h1 : wpA P c (fun o st => match o with
    | .normal => J st
    | .exit j => if j = id then J st else Q (.exit j) st
    | .ret => Q .ret st) st) (h2 : ∀ st, J st → Q .normal st) : wpA P (.block id c) Q st := by
  refine wpA_mono c h1 fun o st h => ?_
  cases o with
  | normal => exact h2 st h
  | exit j => simp only at h ⊢; split at h <;> rename_i q <;> simp only [q, if_true, if_false] <;> first | exact h2 st h | exact h
  | ret => exact h
end
/-! ### A walk, step by step -/
/-- A fact that the simplifier leaves alone. -/
def Hid (p : Prop) : Prop := p
theorem Hid.out {p : Prop} (h : Hid p) : p := h
section
variable {P : Program} {Q : Out → St → Prop} {s : Nat → AV} {h : Hp} {n : Nat} {a b c d : ACode}
theorem wSeq (hh : wpA P (.seq a (.seq b d)) Q ⟨s, h, n⟩) : wpA P (.seq (.seq a b) d) Q ⟨s, h, n⟩ := by
  simp only [wpA] at hh ⊢
  refine wpA_mono a hh fun o st q => ?_
  cases o <;> exact q
theorem wSkip (hh : wpA P d Q ⟨s, h, n⟩) : wpA P (.seq .skip d) Q ⟨s, h, n⟩ := hh
theorem wRet (hh : Q .ret ⟨s, h, n⟩) : wpA P (.seq .ret d) Q ⟨s, h, n⟩ := hh
theorem wRet' (hh : Q .ret ⟨s, h, n⟩) : wpA P .ret Q ⟨s, h, n⟩ := hh
theorem wExit {i : Nat} (hh : Q (.exit i) ⟨s, h, n⟩) : wpA P (.seq (.exit i) d) Q ⟨s, h, n⟩ := hh
theorem wRgn {k : Nat} {ops : List AOper} (hh : ∀ K : St → Prop, Hid (∀ st, wpA P b Q st → K st) → wpOps P ops n K ⟨s, h, n + k⟩) : wpA P (.seq (.rgn k ops) b) Q ⟨s, h, n⟩ :=
  hh _ (fun _ q => q)
theorem wRgn' {k : Nat} {ops : List AOper} (hh : ∀ K : St → Prop, Hid (∀ st, Q .normal st → K st) → wpOps P ops n K ⟨s, h, n + k⟩) : wpA P (.rgn k ops) Q ⟨s, h, n⟩ :=
  hh _ (fun _ q => q)
theorem wCond {x : AX} (t : Bool) (hc : x.ev s = .bool t) (h1 : t = true → wpA P (.seq a d) Q ⟨s, h, n⟩) (h2 : t = false → wpA P (.seq b d) Q ⟨s, h, n⟩) : wpA P (.seq (.cond x a b) d) Q ⟨s, h, n⟩ := by
  simp only [wpA, hc]
  cases t
  · rw [if_neg (by simp)]; exact h2 rfl
  · rw [if_pos rfl]; exact h1 rfl
theorem wCond' {x : AX} (t : Bool) (hc : x.ev s = .bool t) (h1 : t = true → wpA P a Q ⟨s, h, n⟩) (h2 : t = false → wpA P b Q ⟨s, h, n⟩) : wpA P (.cond x a b) Q ⟨s, h, n⟩ := by
  simp only [wpA, hc]
  cases t
  · rw [if_neg (by simp)]; exact h2 rfl
  · rw [if_pos rfl]; exact h1 rfl
theorem wExit' {i : Nat} (hh : Q (.exit i) ⟨s, h, n⟩) : wpA P (.exit i) Q ⟨s, h, n⟩ := hh
theorem wSkip' (hh : Q .normal ⟨s, h, n⟩) : wpA P .skip Q ⟨s, h, n⟩ := hh
theorem wLoop (I : Nat → St → Prop) (k : Nat) (h0 : I k ⟨s, h, n⟩) (hr : ∀ k s h n, I k ⟨s, h, n⟩ → ∀ K : Out → St → Prop, Hid (∀ st, (∃ k', k' < k ∧ I k' st) → K .normal st) → Hid (∀ i st, Q (.exit i) st → K (.exit i) st) → Hid (∀ st, Q .ret st → K .ret st) → wpA P c K ⟨s, h, n⟩) :
    wpA P (.loop c) Q ⟨s, h, n⟩ :=
  ⟨I, k, h0, fun k ⟨s, h, n⟩ hi => hr k s h n hi _ (fun _ q => q) (fun _ _ q => q) (fun _ q => q)⟩
theorem wBlock' {id : Nat} (hh : wpA P c (fun o st => match o with
    | .normal => Q .normal st
    | .exit j => if j = id then Q .normal st else Q (.exit j) st
    | .ret => Q .ret st) ⟨s, h, n⟩) : wpA P (.block id c) Q ⟨s, h, n⟩ := by
  refine wpA_mono c hh fun o st q => ?_
  cases o <;> exact q
theorem wBlock {id : Nat} (hh : wpA P c (fun o st => match o with
    | .normal => wpA P d Q st
    | .exit j => if j = id then wpA P d Q st else Q (.exit j) st
    | .ret => Q .ret st) ⟨s, h, n⟩) : wpA P (.seq (.block id c) d) Q ⟨s, h, n⟩ := by
  refine wpA_mono c hh fun o st q => ?_
  cases o with
  | normal => exact q
  | exit j => simp only at q ⊢; split at q <;> rename_i e <;> simp only [e, if_true, if_false] <;> exact q
  | ret => exact q
end
theorem keeps_upd {h : Hp} {n : Nat} {h' : Hp} {id : Nat} {o : Option AObj} (hid : n ≤ id) : Keeps h n (upd h' id o) ↔ Keeps h n h' :=
  ⟨fun k => ⟨fun j hj => by have := k.old j hj; rw [upd_ne _ _ (by omega)] at this; exact this⟩, fun k => k.upd hid o⟩
/-! ### Operations, one by one -/
def bindO {α : Type} (o : Option α) (K : α → Prop) : Prop :=
  match o with
  | some v => K v
  | none => False
theorem bindO_some {α : Type} (v : α) (K : α → Prop) : bindO (some v) K = K v := rfl
theorem bindO_none {α : Type} (K : α → Prop) : bindO none K = False := rfl
theorem bindO_ite {α : Type} (p : Prop) [Decidable p] (a b : Option α) (K : α → Prop) : bindO (if p then a else b) K = if p then bindO a K else bindO b K := by split <;> rfl
theorem bindO_map {α β : Type} (f : α → β) (o : Option α) (K : β → Prop) : bindO (o.map f) K = bindO o fun v => K (f v) := by cases o <;> rfl
/-- What is still to come behind an operation: folded, so that the simplifier does not go into it ahead of time. -/
def bindK (o : Option AV) (K : St → Prop) (s : Nat → AV) (h : Hp) (n : Nat) (d : Option Nat) : Prop := bindO o fun v => K (St.put ⟨s, h, n⟩ d v)
theorem bindK_some (v : AV) (K : St → Prop) (s : Nat → AV) (h : Hp) (n d : Nat) : bindK (some v) K s h n (some d) = K ⟨upd s d v, h, n⟩ := rfl
theorem bindK_some' (v : AV) (K : St → Prop) (s : Nat → AV) (h : Hp) (n : Nat) : bindK (some v) K s h n none = K ⟨s, h, n⟩ := rfl
theorem bindK_none (K : St → Prop) (s : Nat → AV) (h : Hp) (n : Nat) (d : Option Nat) : bindK none K s h n d = False := rfl
theorem bindK_ite (p : Prop) [Decidable p] (a b : Option AV) (K : St → Prop) (s : Nat → AV) (h : Hp) (n : Nat) (d : Option Nat) : bindK (if p then a else b) K s h n d = if p then bindK a K s h n d else bindK b K s h n d := by split <;> rfl
theorem bindK_mite {α : Type} (f : α → AV) (p : Prop) [Decidable p] (a b : Option α) (K : St → Prop) (s : Nat → AV) (h : Hp) (n : Nat) (d : Option Nat) : bindK ((if p then a else b).map f) K s h n d = if p then bindK (a.map f) K s h n d else bindK (b.map f) K s h n d := by split <;> rfl
/-- The same, with a condition. -/
def bindKC (c : Bool) (o : Option AV) (K : St → Prop) (s : Nat → AV) (h : Hp) (n : Nat) (d : Option Nat) : Prop := bindO o fun v => c = true ∧ K (St.put ⟨s, h, n⟩ d v)
theorem bindKC_some (c : Bool) (v : AV) (K : St → Prop) (s : Nat → AV) (h : Hp) (n d : Nat) : bindKC c (some v) K s h n (some d) = (c = true ∧ K ⟨upd s d v, h, n⟩) := rfl
theorem bindKC_none (c : Bool) (K : St → Prop) (s : Nat → AV) (h : Hp) (n : Nat) (d : Option Nat) : bindKC c none K s h n d = False := rfl
/-- Operations that turn the heap. -/
def bindH (o : Option (AV × Hp)) (K : St → Prop) (s : Nat → AV) (n : Nat) (d : Option Nat) : Prop := bindO o fun p => K (St.put ⟨s, p.2, n⟩ d p.1)
theorem bindH_some (v : AV) (h : Hp) (K : St → Prop) (s : Nat → AV) (n d : Nat) : bindH (some (v, h)) K s n (some d) = K ⟨upd s d v, h, n⟩ := rfl
theorem bindH_some' (v : AV) (h : Hp) (K : St → Prop) (s : Nat → AV) (n : Nat) : bindH (some (v, h)) K s n none = K ⟨s, h, n⟩ := rfl
def bindHC (c : Bool) (o : Option (AV × Hp)) (K : St → Prop) (s : Nat → AV) (n : Nat) (d : Option Nat) : Prop := bindO o fun p => c = true ∧ K (St.put ⟨s, p.2, n⟩ d p.1)
theorem bindHC_some (c : Bool) (v : AV) (h : Hp) (K : St → Prop) (s : Nat → AV) (n d : Nat) : bindHC c (some (v, h)) K s n (some d) = (c = true ∧ K ⟨upd s d v, h, n⟩) := rfl
def bindS (o : Option Hp) (K : St → Prop) (s : Nat → AV) (n : Nat) : Prop := bindO o fun h => K ⟨s, h, n⟩
theorem bindS_some (h : Hp) (K : St → Prop) (s : Nat → AV) (n : Nat) : bindS (some h) K s n = K ⟨s, h, n⟩ := rfl
theorem bindS_none (K : St → Prop) (s : Nat → AV) (n : Nat) : bindS none K s n = False := rfl
def bindSC (c : Bool) (o : Option Hp) (K : St → Prop) (s : Nat → AV) (n : Nat) : Prop := bindO o fun h => c = true ∧ K ⟨s, h, n⟩
theorem bindSC_some (c : Bool) (h : Hp) (K : St → Prop) (s : Nat → AV) (n : Nat) : bindSC c (some h) K s n = (c = true ∧ K ⟨s, h, n⟩) := rfl
theorem bindS_ite (p : Prop) [Decidable p] (a b : Option Hp) (K : St → Prop) (s : Nat → AV) (n : Nat) : bindS (if p then a else b) K s n = if p then bindS a K s n else bindS b K s n := by split <;> rfl
theorem bindSC_ite (c : Bool) (p : Prop) [Decidable p] (a b : Option Hp) (K : St → Prop) (s : Nat → AV) (n : Nat) : bindSC c (if p then a else b) K s n = if p then bindSC c a K s n else bindSC c b K s n := by split <;> rfl
theorem bindSC_none (c : Bool) (K : St → Prop) (s : Nat → AV) (n : Nat) : bindSC c none K s n = False := rfl
theorem bindKC_ite (c : Bool) (p : Prop) [Decidable p] (a b : Option AV) (K : St → Prop) (s : Nat → AV) (h : Hp) (n : Nat) (d : Option Nat) : bindKC c (if p then a else b) K s h n d = if p then bindKC c a K s h n d else bindKC c b K s h n d := by split <;> rfl
theorem bindH_ite (p : Prop) [Decidable p] (a b : Option (AV × Hp)) (K : St → Prop) (s : Nat → AV) (n : Nat) (d : Option Nat) : bindH (if p then a else b) K s n d = if p then bindH a K s n d else bindH b K s n d := by split <;> rfl
theorem bindH_none (K : St → Prop) (s : Nat → AV) (n : Nat) (d : Option Nat) : bindH none K s n d = False := rfl
def updO (h : Hp) (id : Nat) (o : Option AObj) : Option Hp := o.map fun ob => upd h id (some ob)
theorem updO_some (h : Hp) (id : Nat) (ob : AObj) : updO h id (some ob) = some (upd h id (some ob)) := rfl
theorem updO_none (h : Hp) (id : Nat) : updO h id none = none := rfl
theorem updO_ite (h : Hp) (id : Nat) (p : Prop) [Decidable p] (a b : Option AObj) : updO h id (if p then a else b) = if p then updO h id a else updO h id b := by split <;> rfl
def bindL (o : Option (List AV)) (K : St → Prop) (s : Nat → AV) (h : Hp) (n : Nat) (d : Option Nat) (id e sz len : Nat) : Prop := bindO o fun cs => K (St.put ⟨s, upd h id (some (.arr e sz (if sz = 1 then cs else chunk sz len cs))), n⟩ d (.sl id sz 0 len len true))
theorem bindL_some (cs : List AV) (K : St → Prop) (s : Nat → AV) (h : Hp) (n d : Nat) (id e sz len : Nat) : bindL (some cs) K s h n (some d) id e sz len = K ⟨upd s d (.sl id sz 0 len len true), upd h id (some (.arr e sz (if sz = 1 then cs else chunk sz len cs))), n⟩ := rfl
theorem bindL_ite (p : Prop) [Decidable p] (a b : Option (List AV)) (K : St → Prop) (s : Nat → AV) (h : Hp) (n : Nat) (d : Option Nat) (id e sz len : Nat) : bindL (if p then a else b) K s h n d id e sz len = if p then bindL a K s h n d id e sz len else bindL b K s h n d id e sz len := by split <;> rfl
theorem bindL_none (K : St → Prop) (s : Nat → AV) (h : Hp) (n : Nat) (d : Option Nat) (id e sz len : Nat) : bindL none K s h n d id e sz len = False := rfl
/-- A guarded operation. -/
def ifB (v : AV) (b : Bool) (A B : St → Prop) (s : Nat → AV) (h : Hp) (n : Nat) (d : Option Nat) : Prop :=
  match v with
  | .bool c => if c = b then A ⟨s, h, n⟩ else B (St.put ⟨s, h, n⟩ d .undef)
  | _ => False
theorem ifB_bool (c b : Bool) (A B : St → Prop) (s : Nat → AV) (h : Hp) (n d : Nat) : ifB (.bool c) b A B s h n (some d) = if c = b then A ⟨s, h, n⟩ else B ⟨upd s d .undef, h, n⟩ := rfl
theorem ifB_bool' (c b : Bool) (A B : St → Prop) (s : Nat → AV) (h : Hp) (n : Nat) : ifB (.bool c) b A B s h n none = if c = b then A ⟨s, h, n⟩ else B ⟨s, h, n⟩ := rfl
theorem wpOps_congr {P : Program} {ops : List AOper} {n0 n1 : Nat} {K : St → Prop} {st st' : St} (h : st = st') (hn : n0 = n1) : wpOps P ops n0 K st = wpOps P ops n1 K st' := by rw [h, hn]
theorem wpOp1_congr {P : Program} {o : AOper} {n0 : Nat} {K : St → Prop} {st st' : St} (h : st = st') : wpOp1 P o n0 K st = wpOp1 P o n0 K st' := by rw [h]
theorem wpA_congr {P : Program} {c : ACode} {K : Out → St → Prop} {st st' : St} (h : st = st') : wpA P c K st = wpA P c K st' := by rw [h]
theorem doCall_congr {P : Program} {f : Nat} {vs vs' : List AV} {g : Bool} {bad bad' : List Nat} {st st' : St} {K : AV → Hp → Nat → Prop} (h1 : vs = vs') (h2 : bad = bad') (h3 : st = st') : doCall P f vs g bad st K = doCall P f vs' g bad' st' K := by rw [h1, h2, h3]
theorem apnW_congr {h h' : Hp} {nw nw' : Nat} {e : TypeId} {sz bytes : Nat} {ze v v' x x' : AV} {K : AV → Hp → Prop} (h1 : h = h') (h2 : nw = nw') (h3 : v = v') (h4 : x = x') : apnW h nw e sz bytes ze v x K = apnW h' nw' e sz bytes ze v' x' K := by rw [h1, h2, h3, h4]
theorem apzW_congr {h h' : Hp} {nw nw' : Nat} {e : TypeId} {sz bytes : Nat} {ze v v' x x' : AV} {K : AV → Hp → Prop} (h1 : h = h') (h2 : nw = nw') (h3 : v = v') (h4 : x = x') : apzW h nw e sz bytes ze v x K = apzW h' nw' e sz bytes ze v' x' K := by rw [h1, h2, h3, h4]
theorem evS_bind {P : Program} {d : Option Nat} {g : Option (Nat × Bool)} {op : AOp} {ix : Nat} {n0 : Nat} {K : St → Prop} {st : St} (hk : kindO op ≠ .C) :
    wpOp1 P ⟨d, g, op, ix, [], [], [], []⟩ n0 K st = bindO (evS op (n0 + ix) st) fun p => K (St.put { st with h := p.2 } d p.1) := by
  have e : wpOp1 P ⟨d, g, op, ix, [], [], [], []⟩ n0 K st = (match evS op (n0 + ix) st with
      | some (v, h) => clearOf ⟨d, g, op, ix, [], [], [], []⟩ n0 st.s = true ∧ K (St.put { st with h := h } d v)
      | none => False) := by
    unfold wpOp1
    cases op <;> first | rfl | (exfalso; apply hk; rfl)
  rw [e]
  cases evS op (n0 + ix) st with
  | none => rfl
  | some p => simp [bindO, clearOf]
section
variable {P : Program} {d : Option Nat} {g : Option (Nat × Bool)} {ix n0 : Nat} {K : St → Prop} {s : Nat → AV} {h : Hp} {n : Nat} {st : St}
theorem wo_nil : wpOps P [] n0 K st = K st := rfl
theorem wo_cons (op : AOp) (ix : Nat) (av avx rt tg : List Nat) (r : List AOper) : wpOps P (⟨d, none, op, ix, av, avx, rt, tg⟩ :: r) n0 K st = wpOp1 P ⟨d, none, op, ix, av, avx, rt, tg⟩ n0 (wpOps P r n0 K) st := rfl
theorem wo_gd (t : Nat) (b : Bool) (op : AOp) (ix : Nat) (av avx rt tg : List Nat) (r : List AOper) : wpOps P (⟨d, some (t, b), op, ix, av, avx, rt, tg⟩ :: r) n0 K ⟨s, h, n⟩ = ifB (s t) b (wpOp1 P ⟨d, some (t, b), op, ix, av, avx, rt, tg⟩ n0 (wpOps P r n0 K)) (wpOps P r n0 K) s h n d := rfl
theorem w_mov (x : AX) : wpOp1 P ⟨d, g, .mov x, ix, [], [], [], []⟩ n0 K ⟨s, h, n⟩ = bindK (some (x.ev s)) K s h n d := by
  rw [evS_bind (by simp [kindO]), evS_pure rfl, bindO_map]
  rfl
theorem w_pick (c a b : AX) : wpOp1 P ⟨d, g, .pick c a b, ix, [], [], [], []⟩ n0 K ⟨s, h, n⟩ = bindK (pickA (c.ev s) (a.ev s) (b.ev s)) K s h n d := by
  rw [evS_bind (by simp [kindO]), evS_pure rfl, bindO_map]
  rfl
theorem w_build (z : List AV) (ps : List (Nat × Nat × AX)) : wpOp1 P ⟨d, g, .build z ps, ix, [], [], [], []⟩ n0 K ⟨s, h, n⟩ = bindK ((fillA s z ps).map .agg) K s h n d := by
  rw [evS_bind (by simp [kindO]), evS_pure rfl, bindO_map]
  rfl
theorem w_ext (x : AX) (i : Nat) : wpOp1 P ⟨d, g, .ext x i, ix, [], [], [], []⟩ n0 K ⟨s, h, n⟩ = bindK (extA i (x.ev s)) K s h n d := by
  rw [evS_bind (by simp [kindO]), evS_pure rfl, bindO_map]
  rfl
theorem w_fld (x : AX) (off size : Nat) (ag : Bool) : wpOp1 P ⟨d, g, .fld x off size ag, ix, [], [], [], []⟩ n0 K ⟨s, h, n⟩ = bindK (fldA off size ag (x.ev s)) K s h n d := by
  rw [evS_bind (by simp [kindO]), evS_pure rfl, bindO_map]
  rfl
theorem w_bin (op : BinOp) (x y : AX) : wpOp1 P ⟨d, g, .bin op x y, ix, [], [], [], []⟩ n0 K ⟨s, h, n⟩ = bindK (binA op (x.ev s) (y.ev s)) K s h n d := by
  rw [evS_bind (by simp [kindO]), evS_pure rfl, bindO_map]
  rfl
theorem w_bib (neg : Bool) (x y : AX) : wpOp1 P ⟨d, g, .bib neg x y, ix, [], [], [], []⟩ n0 K ⟨s, h, n⟩ = bindK (bibA neg (x.ev s) (y.ev s)) K s h n d := by
  rw [evS_bind (by simp [kindO]), evS_pure rfl, bindO_map]
  rfl
theorem w_eqa (neg : Bool) (ks : List Nat) (x y : AX) : wpOp1 P ⟨d, g, .eqa neg ks x y, ix, [], [], [], []⟩ n0 K ⟨s, h, n⟩ = bindK (eqaA neg ks (x.ev s) (y.ev s)) K s h n d := by
  rw [evS_bind (by simp [kindO]), evS_pure rfl, bindO_map]
  rfl
theorem w_isn (kd : Nat) (neg : Bool) (x : AX) : wpOp1 P ⟨d, g, .isn kd neg x, ix, [], [], [], []⟩ n0 K ⟨s, h, n⟩ = bindK ((isNilA kd (x.ev s)).map fun b => .bool (if neg then !b else b)) K s h n d := by
  rw [evS_bind (by simp [kindO]), evS_pure rfl, bindO_map]
  rfl
theorem w_un (op : UnOp) (x : AX) : wpOp1 P ⟨d, g, .un op x, ix, [], [], [], []⟩ n0 K ⟨s, h, n⟩ = bindK (unA op (x.ev s)) K s h n d := by
  rw [evS_bind (by simp [kindO]), evS_pure rfl, bindO_map]
  rfl
theorem w_cvt (k : IntKind) (x : AX) : wpOp1 P ⟨d, g, .cvt k x, ix, [], [], [], []⟩ n0 K ⟨s, h, n⟩ = bindK (cvtA k (x.ev s)) K s h n d := by
  rw [evS_bind (by simp [kindO]), evS_pure rfl, bindO_map]
  rfl
theorem w_mkf (f : Nat) (cs : List AX) : wpOp1 P ⟨d, g, .mkf f cs, ix, [], [], [], []⟩ n0 K ⟨s, h, n⟩ = bindK (some (.fn f (cs.map (·.ev s)))) K s h n d := by
  rw [evS_bind (by simp [kindO]), evS_pure rfl, bindO_map]
  rfl
theorem w_slc (sz : Nat) (x : AX) (lo hi mx : Option AX) : wpOp1 P ⟨d, g, .slc sz x lo hi mx, ix, [], [], [], []⟩ n0 K ⟨s, h, n⟩ = bindK (slcO (x.ev s) sz (lo.map fun y => intOf? (y.ev s)) (hi.map fun y => intOf? (y.ev s)) (mx.map fun y => intOf? (y.ev s))) K s h n d := by
  rw [evS_bind (by simp [kindO]), evS_pure rfl, bindO_map]
  rfl
theorem w_fa (x : AX) (off : Nat) : wpOp1 P ⟨d, g, .fa x off, ix, [], [], [], []⟩ n0 K ⟨s, h, n⟩ = bindK (faA off (x.ev s)) K s h n d := by
  rw [evS_bind (by simp [kindO]), evS_pure rfl, bindO_map]
  rfl
theorem w_ia (sz : Nat) (x i : AX) : wpOp1 P ⟨d, g, .ia sz x i, ix, [], [], [], []⟩ n0 K ⟨s, h, n⟩ = bindK (iaA sz (x.ev s) (i.ev s)) K s h n d := by
  rw [evS_bind (by simp [kindO]), evS_pure rfl, bindO_map]
  rfl
theorem w_iaa (m sz : Nat) (x i : AX) : wpOp1 P ⟨d, g, .iaa m sz x i, ix, [], [], [], []⟩ n0 K ⟨s, h, n⟩ = bindK (iaaA m sz (x.ev s) (i.ev s)) K s h n d := by
  rw [evS_bind (by simp [kindO]), evS_pure rfl, bindO_map]
  rfl
theorem w_nck (x : AX) : wpOp1 P ⟨d, g, .nck x, ix, [], [], [], []⟩ n0 K ⟨s, h, n⟩ = bindK (nckA (x.ev s)) K s h n d := by
  rw [evS_bind (by simp [kindO]), evS_pure rfl, bindO_map]
  rfl
theorem w_len (x : AX) : wpOp1 P ⟨d, g, .len x, ix, [], [], [], []⟩ n0 K ⟨s, h, n⟩ = bindK (lenA (x.ev s)) K s h n d := by
  rw [evS_bind (by simp [kindO]), evS_pure rfl, bindO_map]
  rfl
theorem w_lens (x : AX) : wpOp1 P ⟨d, g, .lens x, ix, [], [], [], []⟩ n0 K ⟨s, h, n⟩ = bindK (lensA (x.ev s)) K s h n d := by
  rw [evS_bind (by simp [kindO]), evS_pure rfl, bindO_map]
  rfl
theorem w_cap (x : AX) : wpOp1 P ⟨d, g, .cap x, ix, [], [], [], []⟩ n0 K ⟨s, h, n⟩ = bindK (capA (x.ev s)) K s h n d := by
  rw [evS_bind (by simp [kindO]), evS_pure rfl, bindO_map]
  rfl
theorem w_max (xs : List AX) : wpOp1 P ⟨d, g, .max xs, ix, [], [], [], []⟩ n0 K ⟨s, h, n⟩ = bindK (foldA (fun x y => if y > x then y else x) (xs.map (·.ev s))) K s h n d := by
  rw [evS_bind (by simp [kindO]), evS_pure rfl, bindO_map]
  rfl
theorem w_min (xs : List AX) : wpOp1 P ⟨d, g, .min xs, ix, [], [], [], []⟩ n0 K ⟨s, h, n⟩ = bindK (foldA (fun x y => if y < x then y else x) (xs.map (·.ev s))) K s h n d := by
  rw [evS_bind (by simp [kindO]), evS_pure rfl, bindO_map]
  rfl
theorem w_ld (x : AX) (size : Nat) (ag : Bool) : wpOp1 P ⟨d, g, .ld x size ag, ix, [], [], [], []⟩ n0 K ⟨s, h, n⟩ = bindK (ldE h (x.ev s) size ag) K s h n d := by
  rw [evS_bind (by simp [kindO])]
  simp only [evS, bindO_map, bindK]
theorem w_box (e : TypeId) (x : AX) : wpOp1 P ⟨d, g, .box e x, ix, [], [], [], []⟩ n0 K ⟨s, h, n⟩ = ((x.ev s).cells.all AV.flat = true ∧ K (St.put ⟨s, upd h (n0 + ix) (some (.arr e (x.ev s).cells.length [x.ev s])), n⟩ d (.ptr (n0 + ix) (x.ev s).cells.length 0 0))) := by
  rw [evS_bind (by simp [kindO])]
  simp only [evS, bindO_ite, bindO_some, bindO_none]
  split
  · rename_i q; simp only [q, true_and]
  · rename_i q; simp [q]
theorem w_new (e : TypeId) (z : AV) : wpOp1 P ⟨d, g, .new e z, ix, [], [], [], []⟩ n0 K ⟨s, h, n⟩ = (z.cells.all AV.flat = true ∧ K (St.put ⟨s, upd h (n0 + ix) (some (.arr e z.cells.length [z])), n⟩ d (.ptr (n0 + ix) z.cells.length 0 0))) := by
  rw [evS_bind (by simp [kindO])]
  simp only [evS, bindO_ite, bindO_some, bindO_none]
  split
  · rename_i q; simp only [q, true_and]
  · rename_i q; simp [q]
theorem w_bsl (e : TypeId) (sz len : Nat) (z : List AV) (ps : List (Nat × AX)) : wpOp1 P ⟨d, g, .bsl e sz len z ps, ix, [], [], [], []⟩ n0 K ⟨s, h, n⟩ = bindL (fillA s z (ps.map fun p => (p.1 * sz, sz, p.2))) K s h n d (n0 + ix) e sz len := by
  rw [evS_bind (by simp [kindO])]
  simp only [evS, bindL]
  cases fillA s z (ps.map fun p => (p.1 * sz, sz, p.2)) <;> rfl
theorem w_app (e : TypeId) (sz bytes : Nat) (a x : AX) : wpOp1 P ⟨d, g, .app e sz bytes a x, ix, [], [], [], []⟩ n0 K ⟨s, h, n⟩ = bindH (appE h (n0 + ix) e sz bytes (a.ev s) (x.ev s)) K s n d := by
  rw [evS_bind (by simp [kindO])]
  simp only [evS, bindH]
theorem put_undef (s : Nat → AV) (h : Hp) (n : Nat) : St.put ⟨s, h, n⟩ none .undef = ⟨s, h, n⟩ := rfl
theorem w_st (x : AX) (size : Nat) (v : AX) : wpOp1 P ⟨none, g, .st x size v, ix, [], [], [], []⟩ n0 K ⟨s, h, n⟩ = bindS (stE h (x.ev s) (v.ev s) size) K s n := by
  rw [evS_bind (by simp [kindO])]
  simp only [evS, bindO_map, bindS]
  rfl
theorem w_cpy (sz : Nat) (a x : AX) : wpOp1 P ⟨d, g, .cpy sz a x, ix, [], [], [], []⟩ n0 K ⟨s, h, n⟩ = bindH (cpyE h sz (a.ev s) (x.ev s)) K s n d := by
  rw [evS_bind (by simp [kindO])]
  simp only [evS, bindH]
theorem w_clr (sz : Nat) (z : List AV) (x : AX) : wpOp1 P ⟨d, g, .clr sz z x, ix, [], [], [], []⟩ n0 K ⟨s, h, n⟩ = bindH (clrE h sz z (x.ev s)) K s n d := by
  rw [evS_bind (by simp [kindO])]
  simp only [evS, bindH]
theorem w_ldc (x : AX) (size : Nat) (ag : Bool) (av avx rt tg : List Nat) : wpOp1 P ⟨d, g, .ld x size ag, ix, av, avx, rt, tg⟩ n0 K ⟨s, h, n⟩ = bindKC (clearOf ⟨d, g, .ld x size ag, ix, av, avx, rt, tg⟩ n0 s) (ldE h (x.ev s) size ag) K s h n d := by
  simp only [wpOp1, evS, bindKC]
  cases ldE h (x.ev s) size ag <;> rfl
theorem w_stc (x : AX) (size : Nat) (v : AX) (av avx rt tg : List Nat) : wpOp1 P ⟨none, g, .st x size v, ix, av, avx, rt, tg⟩ n0 K ⟨s, h, n⟩ = bindSC (clearOf ⟨none, g, .st x size v, ix, av, avx, rt, tg⟩ n0 s) (stE h (x.ev s) (v.ev s) size) K s n := by
  simp only [wpOp1, evS, bindSC]
  cases stE h (x.ev s) (v.ev s) size <;> rfl
theorem w_appc (e : TypeId) (sz bytes : Nat) (a x : AX) (av avx rt tg : List Nat) : wpOp1 P ⟨d, g, .app e sz bytes a x, ix, av, avx, rt, tg⟩ n0 K ⟨s, h, n⟩ = bindHC (clearOf ⟨d, g, .app e sz bytes a x, ix, av, avx, rt, tg⟩ n0 s) (appE h (n0 + ix) e sz bytes (a.ev s) (x.ev s)) K s n d := by
  simp only [wpOp1, evS, bindHC]
  cases appE h (n0 + ix) e sz bytes (a.ev s) (x.ev s) <;> rfl
/-- What is still to come behind a call (folded, so that the simplifier stays out of it). -/
def callK (K : St → Prop) (d : Option Nat) (s : Nat → AV) (r : AV) (h : Hp) (n : Nat) : Prop := K (St.put ⟨s, h, n⟩ d r)
theorem callK_some (K : St → Prop) (d : Nat) (s : Nat → AV) (r : AV) (h : Hp) (n : Nat) : callK K (some d) s r h n = K ⟨upd s d r, h, n⟩ := rfl
theorem callK_none (K : St → Prop) (s : Nat → AV) (r : AV) (h : Hp) (n : Nat) : callK K none s r h n = K ⟨s, h, n⟩ := rfl
theorem w_call (f : Nat) (args : List AX) (gr : Bool) (av avx rt tg : List Nat) : wpOp1 P ⟨d, g, .callS f args gr, ix, av, avx, rt, tg⟩ n0 K ⟨s, h, n⟩ = doCall P f (args.map (·.ev s)) gr (av.map (n0 + ·)) ⟨s, h, n⟩ (callK K d s) := rfl
/-- A function value. -/
def fnO : AV → Option (Nat × List AV)
  | .fn f caps => some (f, caps)
  | _ => none
def callO (P : Program) (o : Option (Nat × List AV)) (args : List AV) (gr : Bool) (bad : List Nat) (st : St) (K : AV → Hp → Nat → Prop) : Prop := bindO o fun p => doCall P p.1 (args ++ p.2) gr bad st K
theorem callO_some (P : Program) (f : Nat) (caps args : List AV) (gr : Bool) (bad : List Nat) (st : St) (K : AV → Hp → Nat → Prop) : callO P (some (f, caps)) args gr bad st K = doCall P f (args ++ caps) gr bad st K := rfl
theorem w_callv (x : AX) (args : List AX) (gr : Bool) (av avx rt tg : List Nat) : wpOp1 P ⟨d, g, .callV x args gr, ix, av, avx, rt, tg⟩ n0 K ⟨s, h, n⟩ = callO P (fnO (x.ev s)) (args.map (·.ev s)) gr (av.map (n0 + ·)) ⟨s, h, n⟩ (callK K d s) := by
  simp only [wpOp1, callO]
  cases x.ev s <;> rfl
def apK (K : St → Prop) (d : Option Nat) (s : Nat → AV) (n : Nat) (v : AV) (h : Hp) : Prop := K (St.put ⟨s, h, n⟩ d v)
theorem apK_some (K : St → Prop) (d : Nat) (s : Nat → AV) (n : Nat) (v : AV) (h : Hp) : apK K (some d) s n v h = K ⟨upd s d v, h, n⟩ := rfl
theorem w_apn (e : TypeId) (sz bytes : Nat) (ze : AV) (a x : AX) (av avx rt tg : List Nat) : wpOp1 P ⟨d, g, .apn e sz bytes ze a x, ix, av, avx, rt, tg⟩ n0 K ⟨s, h, n⟩ = apnW h (n0 + ix) e sz bytes ze (a.ev s) (x.ev s) (apK K d s n) := rfl
theorem w_apz (e : TypeId) (sz bytes : Nat) (ze : AV) (a k : AX) (av avx rt tg : List Nat) : wpOp1 P ⟨d, g, .apz e sz bytes ze a k, ix, av, avx, rt, tg⟩ n0 K ⟨s, h, n⟩ = apzW h (n0 + ix) e sz bytes ze (a.ev s) (k.ev s) (apK K d s n) := rfl
end
theorem argS_at (vs : List AV) (t : Nat) : argS vs t = vs.getD t .undef := rfl
theorem nil_isl (nl : Option Bool) (ex : Bool) (xs : List AV) : isNilA 1 (.isl nl ex xs) = nl := rfl
theorem nil_sl (id sz off len cap : Nat) (ex : Bool) : isNilA 1 (.sl id sz off len cap ex) = some false := rfl
theorem nil_nilp : isNilA 0 .nilp = some true := rfl
theorem nil_ptr (id sz i o : Nat) : isNilA 0 (.ptr id sz i o) = some false := rfl
theorem nil_iptr (cs : List AV) : isNilA 0 (.iptr cs) = some false := rfl
theorem nil_nilm : isNilA 2 .nilm = some true := rfl
theorem nil_mapr (id : Nat) : isNilA 2 (.mapr id) = some false := rfl
theorem nil_nilfn : isNilA 3 .nilfn = some true := rfl
theorem nil_fn (f : Nat) (cs : List AV) : isNilA 3 (.fn f cs) = some false := rfl
attribute [simp] argS_at nil_isl nil_sl nil_nilp nil_ptr nil_iptr nil_nilm nil_mapr nil_nilfn nil_fn
attribute [congr] wpOps_congr wpOp1_congr wpA_congr doCall_congr apnW_congr apzW_congr
/-- The value under a some. -/
def bindV {α β : Type} (o : Option α) (f : α → Option β) : Option β :=
  match o with
  | some x => f x
  | none => none
/-! ### What the functions of the code answer, form by form -/
theorem cells_int (a : IntKind) (b : Int) : AV.cells (.int a b) = [.int a b] := rfl
theorem flat_int (a : IntKind) (b : Int) : AV.flat (.int a b) = true := rfl
theorem ids_int (a : IntKind) (b : Int) : AV.ids (.int a b) = [] := rfl
theorem cells_bool (b : Bool) : AV.cells (.bool b) = [.bool b] := rfl
theorem flat_bool (b : Bool) : AV.flat (.bool b) = true := rfl
theorem ids_bool (b : Bool) : AV.ids (.bool b) = [] := rfl
theorem cells_str (s : ByteArray) : AV.cells (.str s) = [.str s] := rfl
theorem flat_str (s : ByteArray) : AV.flat (.str s) = true := rfl
theorem ids_str (s : ByteArray) : AV.ids (.str s) = [] := rfl
theorem cells_nilp : AV.cells (.nilp) = [.nilp] := rfl
theorem flat_nilp : AV.flat (.nilp) = true := rfl
theorem ids_nilp : AV.ids (.nilp) = [] := rfl
theorem cells_ptr (id sz i o : Nat) : AV.cells (.ptr id sz i o) = [.ptr id sz i o] := rfl
theorem flat_ptr (id sz i o : Nat) : AV.flat (.ptr id sz i o) = true := rfl
theorem ids_ptr (id sz i o : Nat) : AV.ids (.ptr id sz i o) = [id] := rfl
theorem cells_iptr (cs : List AV) : AV.cells (.iptr cs) = [.iptr cs] := rfl
theorem flat_iptr (cs : List AV) : AV.flat (.iptr cs) = true := rfl
theorem ids_iptr (cs : List AV) : AV.ids (.iptr cs) = [] := rfl
theorem cells_sl (id sz off len cap : Nat) (ex : Bool) : AV.cells (.sl id sz off len cap ex) = [.sl id sz off len cap ex] := rfl
theorem flat_sl (id sz off len cap : Nat) (ex : Bool) : AV.flat (.sl id sz off len cap ex) = true := rfl
theorem ids_sl (id sz off len cap : Nat) (ex : Bool) : AV.ids (.sl id sz off len cap ex) = [id] := rfl
theorem cells_isl (nl : Option Bool) (ex : Bool) (xs : List AV) : AV.cells (.isl nl ex xs) = [.isl nl ex xs] := rfl
theorem flat_isl (nl : Option Bool) (ex : Bool) (xs : List AV) : AV.flat (.isl nl ex xs) = true := rfl
theorem ids_isl (nl : Option Bool) (ex : Bool) (xs : List AV) : AV.ids (.isl nl ex xs) = [] := rfl
theorem cells_nilm : AV.cells (.nilm) = [.nilm] := rfl
theorem flat_nilm : AV.flat (.nilm) = true := rfl
theorem ids_nilm : AV.ids (.nilm) = [] := rfl
theorem cells_mapr (id : Nat) : AV.cells (.mapr id) = [.mapr id] := rfl
theorem flat_mapr (id : Nat) : AV.flat (.mapr id) = true := rfl
theorem ids_mapr (id : Nat) : AV.ids (.mapr id) = [id] := rfl
theorem cells_fn (f : Nat) (caps : List AV) : AV.cells (.fn f caps) = [.fn f caps] := rfl
theorem flat_fn (f : Nat) (caps : List AV) : AV.flat (.fn f caps) = true := rfl
theorem ids_fn (f : Nat) (caps : List AV) : AV.ids (.fn f caps) = [] := rfl
theorem cells_nilfn : AV.cells (.nilfn) = [.nilfn] := rfl
theorem flat_nilfn : AV.flat (.nilfn) = true := rfl
theorem ids_nilfn : AV.ids (.nilfn) = [] := rfl
theorem cells_agg (cs : List AV) : AV.cells (.agg cs) = cs := rfl
theorem flat_agg (cs : List AV) : AV.flat (.agg cs) = false := rfl
theorem ids_agg (cs : List AV) : AV.ids (.agg cs) = [] := rfl
theorem cells_tup (vs : List AV) : AV.cells (.tup vs) = [.tup vs] := rfl
theorem flat_tup (vs : List AV) : AV.flat (.tup vs) = false := rfl
theorem ids_tup (vs : List AV) : AV.ids (.tup vs) = [] := rfl
theorem fa_ptr (off id sz i o : Nat) : faA off (.ptr id sz i o) = some (.ptr id sz i (o + off)) := rfl
theorem fa_iptr (off : Nat) (cs : List AV) : faA off (.iptr cs) = some (.iptr (cs.drop off)) := rfl
theorem len_isl (nl : Option Bool) (ex : Bool) (xs : List AV) : lenA (.isl nl ex xs) = some (.int .i64 xs.length) := rfl
theorem len_sl (id sz off len cap : Nat) (ex : Bool) : lenA (.sl id sz off len cap ex) = some (.int .i64 len) := rfl
theorem lens_str (b : ByteArray) : lensA (.str b) = some (.int .i64 b.size) := rfl
theorem cap_isl (nl : Option Bool) (xs : List AV) : capA (.isl nl true xs) = some (.int .i64 xs.length) := rfl
theorem cap_sl (id sz off len cap : Nat) : capA (.sl id sz off len cap true) = some (.int .i64 cap) := rfl
theorem intOf_int (k : IntKind) (n : Int) : intOf? (.int k n) = some n := rfl
theorem ext_tup (i : Nat) (vs : List AV) : extA i (.tup vs) = vs[i]? := rfl
theorem fld_agg (off size : Nat) (ag : Bool) (cs : List AV) : fldA off size ag (.agg cs) = seg cs off size ag := rfl
theorem pick_bool (t : Bool) (a b : AV) : pickA (.bool t) a b = some (if t then a else b) := rfl
theorem cvt_int (k k2 : IntKind) (n : Int) : cvtA k (.int k2 n) = some (.int k (k.wrap n)) := rfl
theorem nck_ptr (id sz i o : Nat) : nckA (.ptr id sz i o) = some (.ptr id sz i o) := rfl
theorem nck_iptr (cs : List AV) : nckA (.iptr cs) = some (.iptr cs) := rfl
theorem nck_fn (f : Nat) (cs : List AV) : nckA (.fn f cs) = some (.fn f cs) := rfl
theorem bib_bool (neg a b : Bool) : bibA neg (.bool a) (.bool b) = some (.bool (if neg then !(a == b) else (a == b))) := rfl
theorem eqa_agg (neg : Bool) (ks : List Nat) (xs ys : List AV) : eqaA neg ks (.agg xs) (.agg ys) = (eqCells ks xs ys).map fun b => .bool (if neg then !b else b) := rfl
theorem eqc_int (k k2 : IntKind) (a b : Int) : eqCell 0 (.int k a) (.int k2 b) = if k = k2 then some (a == b) else none := rfl
theorem eqc_bool (a b : Bool) : eqCell 1 (.bool a) (.bool b) = some (a == b) := rfl
theorem eqc_str (a b : ByteArray) : eqCell 2 (.str a) (.str b) = some (a.toList == b.toList) := rfl
theorem un_neg (k : IntKind) (n : Int) : unA .neg (.int k n) = some (.int k (k.wrap (0 - n))) := rfl
theorem un_xor (k : IntKind) (n : Int) : unA .xor (.int k n) = binI .xor k (if k.signed then -1 else k.max) n := rfl
theorem un_not (b : Bool) : unA .not (.bool b) = some (.bool (!b)) := rfl
theorem bin_int (op : BinOp) (k k2 : IntKind) (a b : Int) : binA op (.int k a) (.int k2 b) = if isShift op then shI op k a b else if k = k2 then binI op k a b else none := rfl
theorem bin_seq (a b : ByteArray) : binA .eql (.str a) (.str b) = some (.bool (a.toList == b.toList)) := rfl
theorem bin_sne (a b : ByteArray) : binA .neq (.str a) (.str b) = some (.bool (!(a.toList == b.toList))) := rfl
theorem bi_add (k : IntKind) (a b : Int) : binI .add k a b = some (.int k (k.wrap (a + b))) := rfl
theorem sh_add : isShift .add = false := rfl
theorem bi_sub (k : IntKind) (a b : Int) : binI .sub k a b = some (.int k (k.wrap (a - b))) := rfl
theorem sh_sub : isShift .sub = false := rfl
theorem bi_mul (k : IntKind) (a b : Int) : binI .mul k a b = some (.int k (k.wrap (a * b))) := rfl
theorem sh_mul : isShift .mul = false := rfl
theorem bi_quo (k : IntKind) (a b : Int) : binI .quo k a b = if b = 0 then none else some (.int k (k.wrap (a.tdiv b))) := rfl
theorem sh_quo : isShift .quo = false := rfl
theorem bi_rem (k : IntKind) (a b : Int) : binI .rem k a b = if b = 0 then none else some (.int k (a.tmod b)) := rfl
theorem sh_rem : isShift .rem = false := rfl
theorem bi_and (k : IntKind) (a b : Int) : binI .and k a b = some (.int k (Go.bits .and k a b)) := rfl
theorem sh_and : isShift .and = false := rfl
theorem bi_or (k : IntKind) (a b : Int) : binI .or k a b = some (.int k (Go.bits .or k a b)) := rfl
theorem sh_or : isShift .or = false := rfl
theorem bi_xor (k : IntKind) (a b : Int) : binI .xor k a b = some (.int k (Go.bits .xor k a b)) := rfl
theorem sh_xor : isShift .xor = false := rfl
theorem bi_andNot (k : IntKind) (a b : Int) : binI .andNot k a b = some (.int k (Go.bits .andNot k a b)) := rfl
theorem sh_andNot : isShift .andNot = false := rfl
theorem bi_eql (k : IntKind) (a b : Int) : binI .eql k a b = some (.bool (a == b)) := rfl
theorem sh_eql : isShift .eql = false := rfl
theorem bi_neq (k : IntKind) (a b : Int) : binI .neq k a b = some (.bool (a != b)) := rfl
theorem sh_neq : isShift .neq = false := rfl
theorem bi_lss (k : IntKind) (a b : Int) : binI .lss k a b = some (.bool (decide (a < b))) := rfl
theorem sh_lss : isShift .lss = false := rfl
theorem bi_leq (k : IntKind) (a b : Int) : binI .leq k a b = some (.bool (decide (a ≤ b))) := rfl
theorem sh_leq : isShift .leq = false := rfl
theorem bi_gtr (k : IntKind) (a b : Int) : binI .gtr k a b = some (.bool (decide (a > b))) := rfl
theorem sh_gtr : isShift .gtr = false := rfl
theorem bi_geq (k : IntKind) (a b : Int) : binI .geq k a b = some (.bool (decide (a ≥ b))) := rfl
theorem sh_geq : isShift .geq = false := rfl
theorem sh_shl : isShift .shl = true := rfl
theorem sh_shr : isShift .shr = true := rfl
theorem si_shl (k : IntKind) (a b : Int) : shI .shl k a b = if b < 0 then none else some (.int k (k.wrap (a * 2 ^ (Min.min b.toNat k.bits)))) := rfl
theorem si_shr (k : IntKind) (a b : Int) : shI .shr k a b = if b < 0 then none else some (.int k (a.fdiv (2 ^ (Min.min b.toNat k.bits)))) := rfl
theorem ia_isl (sz : Nat) (nl : Option Bool) (ex : Bool) (xs : List AV) (k : IntKind) (n : Int) : iaA sz (.isl nl ex xs) (.int k n) = if 0 ≤ n then (match xs[n.toNat]? with
  | some e => if e.cells.length = sz then some (.iptr e.cells) else none
  | none => none) else none := rfl
theorem ia_sl (sz id sz2 off len cap : Nat) (ex : Bool) (k : IntKind) (n : Int) : iaA sz (.sl id sz2 off len cap ex) (.int k n) = if sz = sz2 ∧ 0 ≤ n ∧ n < len then some (.ptr id sz (off + n.toNat) 0) else none := rfl
theorem iaa_ptr (m sz id z j o : Nat) (k : IntKind) (n : Int) : iaaA m sz (.ptr id z j o) (.int k n) = if 0 ≤ n ∧ n < m then some (.ptr id z j (o + n.toNat * sz)) else none := rfl
theorem iaa_iptr (m sz : Nat) (cs : List AV) (k : IntKind) (n : Int) : iaaA m sz (.iptr cs) (.int k n) = if 0 ≤ n ∧ n < m then some (.iptr (cs.drop (n.toNat * sz))) else none := rfl
theorem ld_iptr (h : Hp) (cs : List AV) (size : Nat) (ag : Bool) : ldE h (.iptr cs) size ag = seg cs 0 size ag := rfl
theorem repack_agg (xs cs : List AV) : repack (.agg xs) cs = .agg cs := rfl
theorem repack_int (a : IntKind) (b : Int) (cs2 : List AV) : repack (.int a b) cs2 = cs2.headD .undef := rfl
theorem repack_bool (b : Bool) (cs2 : List AV) : repack (.bool b) cs2 = cs2.headD .undef := rfl
theorem repack_str (s : ByteArray) (cs2 : List AV) : repack (.str s) cs2 = cs2.headD .undef := rfl
theorem repack_nilp (cs2 : List AV) : repack (.nilp) cs2 = cs2.headD .undef := rfl
theorem repack_ptr (id sz i o : Nat) (cs2 : List AV) : repack (.ptr id sz i o) cs2 = cs2.headD .undef := rfl
theorem repack_sl (id sz off len cap : Nat) (ex : Bool) (cs2 : List AV) : repack (.sl id sz off len cap ex) cs2 = cs2.headD .undef := rfl
theorem repack_isl (nl : Option Bool) (ex : Bool) (xs : List AV) (cs2 : List AV) : repack (.isl nl ex xs) cs2 = cs2.headD .undef := rfl
theorem repack_nilm (cs2 : List AV) : repack (.nilm) cs2 = cs2.headD .undef := rfl
theorem repack_mapr (id : Nat) (cs2 : List AV) : repack (.mapr id) cs2 = cs2.headD .undef := rfl
theorem repack_fn (f : Nat) (caps : List AV) (cs2 : List AV) : repack (.fn f caps) cs2 = cs2.headD .undef := rfl
theorem repack_nilfn (cs2 : List AV) : repack (.nilfn) cs2 = cs2.headD .undef := rfl
theorem repack_iptr (cs : List AV) (cs2 : List AV) : repack (.iptr cs) cs2 = cs2.headD .undef := rfl
theorem elems_isl (h : Hp) (sz : Nat) (nl : Option Bool) (ex : Bool) (xs : List AV) : elems h (.isl nl ex xs) sz = if xs.all (fun x => x.cells.length == sz) then some xs else none := rfl
theorem fnO_fn (f : Nat) (caps : List AV) : fnO (.fn f caps) = some (f, caps) := rfl
theorem slcA_sl (id sz2 off len cap : Nat) (ex : Bool) (sz : Nat) (l h m : Option Int) : slcA (.sl id sz2 off len cap ex) sz l h m = (if sz = sz2 then
   match m with
   | none => if 0 ≤ l.getD 0 ∧ l.getD 0 ≤ h.getD len ∧ h.getD len ≤ cap then
     (if l.getD 0 < cap then some (.sl id sz (off + (l.getD 0).toNat) (h.getD len - l.getD 0).toNat (cap - (l.getD 0).toNat) ex) else if l.getD 0 = 0 then some (.sl id sz off (h.getD len).toNat cap ex) else some (.isl (some false) ex [])) else none
   | some m => if 0 ≤ l.getD 0 ∧ l.getD 0 ≤ h.getD len ∧ h.getD len ≤ m ∧ m ≤ cap then
     (if l.getD 0 < m then some (.sl id sz (off + (l.getD 0).toNat) (h.getD len - l.getD 0).toNat (m - l.getD 0).toNat true) else some (.isl (some false) true [])) else none
  else none) := rfl
theorem slcA_isl (nl : Option Bool) (ex : Bool) (xs : List AV) (sz : Nat) (l h m : Option Int) : slcA (.isl nl ex xs) sz l h m = (if xs.all (fun x => x.cells.length == sz) = false then none else
  match m with
  | none => if 0 ≤ l.getD 0 ∧ l.getD 0 ≤ h.getD xs.length ∧ h.getD xs.length ≤ (xs.length : Int) then some (.isl nl (ex && decide (h.getD xs.length = (xs.length : Int))) ((xs.take (h.getD xs.length).toNat).drop (l.getD 0).toNat)) else none
  | some m => if 0 ≤ l.getD 0 ∧ l.getD 0 ≤ h.getD xs.length ∧ h.getD xs.length ≤ m ∧ m ≤ (xs.length : Int) then some (.isl nl (decide (h.getD xs.length = m)) ((xs.take (h.getD xs.length).toNat).drop (l.getD 0).toNat)) else none) := rfl
section
variable (D : Nat → Bool) (h : Hp) (k : Nat)
theorem frz_int (a : IntKind) (b : Int) : frz D h (k + 1) (.int a b) = some (.int a b) := rfl
theorem frz_bool (b : Bool) : frz D h (k + 1) (.bool b) = some (.bool b) := rfl
theorem frz_str (b : ByteArray) : frz D h (k + 1) (.str b) = some (.str b) := rfl
theorem frz_nilp : frz D h (k + 1) .nilp = some .nilp := rfl
theorem frz_agg (cs : List AV) : frz D h (k + 1) (.agg cs) = (mapO (frz D h k) cs).map .agg := rfl
theorem frz_tup (cs : List AV) : frz D h (k + 1) (.tup cs) = (mapO (frz D h k) cs).map .tup := rfl
theorem frz_isl (nl : Option Bool) (ex : Bool) (xs : List AV) : frz D h (k + 1) (.isl nl ex xs) = (mapO (frz D h k) xs).map (.isl none false) := rfl
end
def ldO (o : Option AObj) (sz i off size : Nat) (ag : Bool) : Option AV := ldE (fun _ => o) (.ptr 0 sz i off) size ag
def elemsO (o : Option AObj) (sz sz' off len : Nat) : Option (List AV) := elems (fun _ => o) (.sl 0 sz' off len 0 false) sz
/-- What a store leaves of an object. -/
def stV (o : Option AObj) (sz i off : Nat) (v : AV) (size : Nat) : Option AObj :=
  match o with
  | some (.arr e sz' els) => if sz = sz' ∧ v.cells.length = size ∧ v.cells.all AV.flat then (match els[i]? with
      | some x => if off + size ≤ x.cells.length then some (.arr e sz (els.set i (repack x (splice x.cells off v.cells)))) else none
      | none => none) else none
  | _ => none
theorem ld_ptr (h : Hp) (id sz i o size : Nat) (ag : Bool) : ldE h (.ptr id sz i o) size ag = ldO (h id) sz i o size ag := rfl
theorem elems_slh (h : Hp) (id sz' off len cap : Nat) (ex : Bool) (sz : Nat) : elems h (.sl id sz' off len cap ex) sz = elemsO (h id) sz sz' off len := rfl
theorem st_ptr (h : Hp) (id sz i o size : Nat) (v : AV) : stE h (.ptr id sz i o) v size = updO h id (stV (h id) sz i o v size) := by
  show _ = (stV (h id) sz i o v size).map fun ob => upd h id (some ob)
  cases hh : h id with
  | none => simp only [stE, stV, hh, Option.map_none]
  | some ob =>
    cases ob with
    | mp t es => simp only [stE, stV, hh, Option.map_none]
    | arr e sz' els =>
      simp only [stE, stV, hh]
      split
      · cases els[i]? with
        | none => rfl
        | some x => simp only; split <;> rfl
      · rfl
theorem ldO_arr (e : TypeId) (sz' : Nat) (els : List AV) (sz i off size : Nat) (ag : Bool) : ldO (some (.arr e sz' els)) sz i off size ag = if sz = sz' then bindV (els[i]?) fun x => seg x.cells off size ag else none := by
  unfold ldO ldE
  simp only
  split
  · cases els[i]? <;> rfl
  · rfl
theorem elemsO_arr (e : TypeId) (sz2 : Nat) (els : List AV) (sz sz' off len : Nat) : elemsO (some (.arr e sz2 els)) sz sz' off len = if sz = sz' ∧ sz = sz2 ∧ off + len ≤ els.length then some ((els.drop off).take len) else none := rfl
theorem stV_arr (e : TypeId) (sz' : Nat) (els : List AV) (sz i o : Nat) (v : AV) (size : Nat) : stV (some (.arr e sz' els)) sz i o v size = if sz = sz' ∧ v.cells.length = size ∧ v.cells.all AV.flat then (bindV (els[i]?) fun x =>
    if o + size ≤ x.cells.length then some (.arr e sz (els.set i (repack x (splice x.cells o v.cells)))) else none) else none := by
  unfold stV
  simp only
  split
  · cases els[i]? <;> rfl
  · rfl
theorem elems_nil (h : Hp) (sz : Nat) (nl : Option Bool) (ex : Bool) : elems h (.isl nl ex []) sz = some [] := rfl
theorem bindV_some {α β : Type} (x : α) (f : α → Option β) : bindV (some x) f = f x := rfl
theorem bindV_none {α β : Type} (f : α → Option β) : bindV none f = none := rfl
attribute [simp] bindS_ite bindSC_ite bindSC_none bindKC_ite bindH_ite bindH_none ifB_bool ifB_bool' bindK_some bindK_some' bindK_none bindK_ite bindK_mite bindKC_some bindKC_none bindH_some bindH_some' bindHC_some bindS_some bindS_none bindSC_some updO_some updO_none updO_ite bindL_some bindL_ite bindL_none callO_some apK_some keeps_upd Keeps.refl mapO frz_int frz_bool frz_str frz_nilp frz_agg frz_tup frz_isl upd_at put_some put_none bindO_some bindO_none bindO_ite bindO_map wo_nil wo_cons wo_gd w_mov w_pick w_build w_ext w_fld w_bin w_bib w_eqa w_isn w_un w_cvt w_mkf w_slc w_fa w_ia w_iaa w_nck w_len w_lens w_cap w_max w_min w_ld w_box w_new w_bsl w_app w_st w_cpy w_clr w_ldc w_stc w_appc callK_some callK_none w_call w_callv w_apn w_apz ld_ptr st_ptr elems_slh ldO_arr stV_arr elemsO_arr elems_nil bindV_some bindV_none AX.ev clearOf AOp.reads AOp.tgt seg splice eqCells slcO fillA AV.nils resL ARes.ev retA resV chunk cells_int flat_int ids_int cells_bool flat_bool ids_bool cells_str flat_str ids_str cells_nilp flat_nilp ids_nilp cells_ptr flat_ptr ids_ptr cells_iptr flat_iptr ids_iptr cells_sl flat_sl ids_sl cells_isl flat_isl ids_isl cells_nilm flat_nilm ids_nilm cells_mapr flat_mapr ids_mapr cells_fn flat_fn ids_fn cells_nilfn flat_nilfn ids_nilfn cells_agg flat_agg ids_agg cells_tup flat_tup ids_tup fa_ptr fa_iptr len_isl len_sl lens_str cap_isl cap_sl intOf_int ext_tup fld_agg pick_bool cvt_int nck_ptr nck_iptr nck_fn bib_bool eqa_agg eqc_int eqc_bool eqc_str un_neg un_xor un_not bin_int bin_seq bin_sne bi_add sh_add bi_sub sh_sub bi_mul sh_mul bi_quo sh_quo bi_rem sh_rem bi_and sh_and bi_or sh_or bi_xor sh_xor bi_andNot sh_andNot bi_eql sh_eql bi_neq sh_neq bi_lss sh_lss bi_leq sh_leq bi_gtr sh_gtr bi_geq sh_geq sh_shl sh_shr si_shl si_shr ia_isl ia_sl iaa_ptr iaa_iptr ld_iptr repack_agg repack_int repack_bool repack_str repack_nilp repack_ptr repack_sl repack_isl repack_nilm repack_mapr repack_fn repack_nilfn repack_iptr elems_isl fnO_fn slcA_sl slcA_isl
end Go.E3
