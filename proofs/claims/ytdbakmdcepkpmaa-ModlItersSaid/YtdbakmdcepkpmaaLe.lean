/- Pure operations, the rest of them. -/
import Derived.Test.YtdbakmdcepkpmaaLd
set_option linter.unusedSimpArgs false
set_option linter.unusedVariables false
namespace Go.E3
section
variable {P : Program} {g : G} {w : World} {s : Nat → AV} {a : Act}
theorem extract_runs {i : Nat} {x v : AV} {u : Value} (hx : VR g w x u) (hv : extA i x = some v) : Runs P g w (Instr.extract u i) v := by
  cases hx <;> first | (simp [extA] at hv; done) | skip
  rename_i cs us hl hv'
  simp only [extA] at hv
  have hi : i < cs.length := (List.getElem?_eq_some_iff.1 hv).1
  have hi' : i < us.length := by omega
  refine ⟨us[i], ?_, hv' i v _ hv (List.getElem?_eq_getElem hi')⟩
  simp [Instr.extract, hi']
theorem run_part {t n : Nat} {b : Bool} (hn : sizeT P t = some n) (hb : aggT P t = some b) (cs : Array Value) (off : Nat) :
    (part t cs off).run P w = if b then .ok (.agg (cs.extract off (off + n))) w else match cs[off]? with
      | some v => .ok v w
      | none => (stuck "part: no such cell" : Sem Value).run P w := by
  unfold part
  rw [Sem.run_bind, run_aggT w hb]
  cases b
  · simp only [Result.andThen_ok, Bool.false_eq_true, if_false]
    split <;> simp [*]
  · simp [run_sizeT w hn]
theorem field_runs {t f : Nat} {fs : Array Field} {fl : Field} {n : Nat} {b : Bool} (ht : P.underlying t = some (.struct fs)) (hf : fs[f]? = some fl) (hn : sizeT P fl.type = some n) (hb : aggT P fl.type = some b)
    {x v : AV} {u : Value} (hx : VR g w x u) (hv : fldA fl.offset n b x = some v) : Runs P g w (Instr.field t u f) v := by
  cases x <;> first | (simp [fldA] at hv; done) | skip
  rename_i cs
  simp only [fldA] at hv
  obtain ⟨us, rfl, hl, hfl, hv'⟩ := hx.inv_agg
  obtain ⟨hle, hseg⟩ := seg_spec hl hfl hv' hv
  cases b
  · simp only [Bool.false_eq_true, if_false] at hseg
    obtain ⟨h1, u, hu, hvu, _⟩ := hseg
    refine ⟨u, ?_, hvu⟩
    simp [Instr.field, run_underlying ht, hf, asAgg, run_part hn hb, hu]
  · simp only [if_true] at hseg
    refine ⟨_, ?_, hseg⟩
    simp [Instr.field, run_underlying ht, hf, asAgg, run_part hn hb]
theorem unary_runs (op : UnOp) {x v : AV} {u : Value} (hx : VR g w x u) (hv : unA op x = some v) : Runs P g w (Op.unary op u) v := by
  unfold unA at hv
  split at hv
  · obtain rfl := hx.inv_int
    injection hv with hv; subst hv
    exact ⟨_, by simp [Op.unary, Op.intArith], .int _ _⟩
  · obtain rfl := hx.inv_int
    simp only [binI] at hv
    injection hv with hv; subst hv
    exact ⟨_, by simp only [Op.unary]; rfl, .int _ _⟩
  · obtain rfl := hx.inv_bool
    injection hv with hv; subst hv
    exact ⟨_, by simp [Op.unary], .bool _⟩
  · cases hv
theorem convert_runs {src dst : Nat} {k k' : IntKind} (hs : P.underlying src = some (.int k')) (hd : P.underlying dst = some (.int k)) {x v : AV} {u : Value} (hx : VR g w x u) (hv : cvtA k x = some v) : Runs P g w (convert src dst u) v := by
  unfold cvtA at hv
  split at hv
  · obtain rfl := hx.inv_int
    injection hv with hv; subst hv
    exact ⟨_, by simp [convert, run_underlying hs, run_underlying hd, Conv.intToInt], .int _ _⟩
  · cases hv
theorem intOf?_spec {x : AV} {n : Int} (h : intOf? x = some n) {u : Value} (hx : VR g w x u) : ∃ k, u = .int k n := by
  unfold intOf? at h
  split at h
  · injection h with h; subst h; exact ⟨_, hx.inv_int⟩
  · cases h
/-- The bounds of a slice expression. -/
theorem run_bounds (len cap : Nat) (hlc : len ≤ cap) (lo hi mx : Option Value) (l h m : Option Int) (hl : ∀ v, lo = some v → ∃ k n, v = .int k n ∧ l = some n) (hl0 : lo = none → l = none)
    (hh : ∀ v, hi = some v → ∃ k n, v = .int k n ∧ h = some n) (hh0 : hi = none → h = none) (hm : ∀ v, mx = some v → ∃ k n, v = .int k n ∧ m = some n) (hm0 : mx = none → m = none) (hmh : mx.isSome = true → hi.isSome = true)
    (h1 : 0 ≤ l.getD 0) (h2 : l.getD 0 ≤ h.getD len) (h3 : h.getD len ≤ m.getD cap) (h4 : m.getD cap ≤ cap) :
    (Instr.sliceBounds true len cap lo hi mx).run P w = .ok ((l.getD 0).toNat, (h.getD len).toNat, (m.getD cap).toNat) w := by
  have one : ∀ (k : IntKind) (n : Int) (y : Nat) (c : BoundsCode), 0 ≤ n → n ≤ y → (Instr.sliceBound (.int k n) y c).run P w = .ok n.toNat w := by
    intro k n y c a b
    simp [Instr.sliceBound, asIntOf, a, b]
  rcases mx with _ | vm
  · obtain rfl := hm0 rfl
    rcases hi with _ | vh
    · obtain rfl := hh0 rfl
      rcases lo with _ | vl
      · obtain rfl := hl0 rfl
        simp [Instr.sliceBounds]
      · obtain ⟨k, n, rfl, rfl⟩ := hl vl rfl
        simp only [Option.getD_some, Option.getD_none] at *
        simp [Instr.sliceBounds, one k n len _ h1 h2]
    · obtain ⟨kh, nh, rfl, rfl⟩ := hh vh rfl
      rcases lo with _ | vl
      · obtain rfl := hl0 rfl
        simp only [Option.getD_some, Option.getD_none] at *
        simp [Instr.sliceBounds, one kh nh cap _ (by omega) h3]
      · obtain ⟨k, n, rfl, rfl⟩ := hl vl rfl
        simp only [Option.getD_some, Option.getD_none] at *
        simp [Instr.sliceBounds, one kh nh cap _ (by omega) h3, one k n nh.toNat _ h1 (by omega)]
  · obtain ⟨km, nm, rfl, rfl⟩ := hm vm rfl
    rcases hi with _ | vh
    · simp at hmh
    · obtain ⟨kh, nh, rfl, rfl⟩ := hh vh rfl
      rcases lo with _ | vl
      · obtain rfl := hl0 rfl
        simp only [Option.getD_some, Option.getD_none] at *
        simp [Instr.sliceBounds, one km nm cap _ (by omega) h4, one kh nh nm.toNat _ (by omega) (by omega)]
      · obtain ⟨k, n, rfl, rfl⟩ := hl vl rfl
        simp only [Option.getD_some, Option.getD_none] at *
        simp [Instr.sliceBounds, one km nm cap _ (by omega) h4, one kh nh nm.toNat _ (by omega) (by omega), one k n nh.toNat _ h1 (by omega)]
theorem Sized.le {w : World} {b m m' : Nat} (h : Sized w b m) (hle : m' ≤ m) : Sized w b m' := by
  obtain ⟨cur, e, fr, h1, h2⟩ := h
  exact ⟨cur, e, fr, h1, by omega⟩
theorem VR.isl_part {nl : Option Bool} {ex : Bool} {xs : List AV} {A : Option Addr} {c n : Nat} (h : VR g w (.isl nl ex xs) (.slice A n c)) (sz : Nat) (hsz : ∀ x ∈ xs, x.cells.length = sz) (l h' m : Nat) (hl : l ≤ h') (hh : h' ≤ n) (hm : h' ≤ m) (hmc : m ≤ c) (ex' : Bool)
    (hex : ex' = true → m = h') : VR g w (.isl nl ex' ((xs.take h').drop l)) (.slice (if m = l then A else A.map (·.add (l * sz))) (h' - l) (m - l)) := by
  cases h with
  | isl _ _ _ sz0 _ _ us hul h1 h2 h3 h4 hs hc hx hv =>
    have hlen : ((xs.take h').drop l).length = h' - l := by simp; omega
    have e : VR g w (.isl nl ex' ((xs.take h').drop l)) (.slice (if m = l then A else A.map (·.add (l * sz))) ((xs.take h').drop l).length (m - l)) := by
      refine .isl nl ex' _ sz0 _ (m - l) ((us.take h').drop l) (by simp; omega) (by rw [hlen]; omega) (fun hx' => by rw [hlen]; have := hex hx'; omega) ?_ ?_ ?_ ?_ ?_ ?_
      · intro b hb
        rw [h3 b hb]; split
        · rfl
        · cases A <;> rfl
      · intro hA
        cases A with
        | none => have := h4 rfl; omega
        | some ad => exfalso; revert hA; split <;> simp
      · intro ad hA
        cases A with
        | none => exfalso; revert hA; split <;> simp
        | some ad0 =>
          obtain ⟨p1, p2⟩ := hs ad0 rfl
          have hne : (xs.take h').drop l ≠ [] → xs ≠ [] := by rintro h0 rfl; simp at h0
          split at hA
          · injection hA with hA; subst hA
            exact ⟨p1, fun h0 => p2 (hne h0)⟩
          · simp only [Option.map_some, Option.some.injEq] at hA; subst hA
            rw [add_zero_ _ p1]
            exact ⟨rfl, fun h0 => p2 (hne h0)⟩
      · intro i ul hi
        rw [List.getElem?_drop, List.getElem?_take] at hi
        split at hi
        · rename_i hlt
          obtain ⟨q1, q2⟩ := hc _ ul hi
          refine ⟨q1, fun ad hA j u hj => ?_⟩
          cases A with
          | none => exfalso; revert hA; split <;> simp
          | some ad0 =>
            obtain ⟨p1, p2⟩ := hs ad0 rfl
            have hx0 : l + i < xs.length := by omega
            obtain ⟨hq, _⟩ := hx _ _ _ (List.getElem?_eq_getElem hx0) hi
            have hs0 : sz0 = sz := by rw [← q1, ← hq]; exact hsz _ (List.getElem_mem hx0)
            have := q2 ad0 rfl j u hj
            rw [add_zero_ _ p1] at this
            split at hA
            · omega
            · simp only [Option.map_some, Option.some.injEq] at hA; subst hA
              rw [add_zero_ _ p1, add_zero_ _ rfl]
              subst hs0
              have e2 : ad0.off + l * sz0 + (i * sz0 + j) = ad0.off + ((l + i) * sz0 + j) := by rw [Nat.add_mul]; omega
              simp only [e2]; exact this
        · cases hi
      · intro i x ul hi hu
        rw [List.getElem?_drop, List.getElem?_take] at hi hu
        split at hi
        · rename_i hlt; simp only [hlt, if_true] at hu; exact hx _ x ul hi hu
        · cases hi
      · intro i x ul hi hu
        rw [List.getElem?_drop, List.getElem?_take] at hi hu
        split at hi
        · rename_i hlt; simp only [hlt, if_true] at hu; exact hv _ x ul hi hu
        · cases hi
    rw [hlen] at e
    exact e
theorem slice_runs {t e sz : Nat} (ht : P.underlying t = some (.slice e)) (hn : sizeT P e = some sz) {x v : AV} {u : Value} (hx : VR g w x u) {lo hi mx : Option Value} {l h m : Option Int}
    (hl : ∀ v, lo = some v → ∃ k n, v = .int k n ∧ l = some n) (hl0 : lo = none → l = none) (hh : ∀ v, hi = some v → ∃ k n, v = .int k n ∧ h = some n) (hh0 : hi = none → h = none)
    (hm : ∀ v, mx = some v → ∃ k n, v = .int k n ∧ m = some n) (hm0 : mx = none → m = none) (hmh : mx.isSome = true → hi.isSome = true) (hv : slcA x sz l h m = some v) : Runs P g w (Instr.sliceAt t u lo hi mx) v := by
  have hrun : ∀ (A : Option Addr) (len cap : Nat), len ≤ cap → 0 ≤ l.getD 0 → l.getD 0 ≤ h.getD len → h.getD len ≤ m.getD cap → m.getD cap ≤ cap →
      (Instr.sliceAt t (.slice A len cap) lo hi mx).run P w = .ok (.slice (if (m.getD cap).toNat = (l.getD 0).toNat then A else A.map (·.add ((l.getD 0).toNat * sz))) ((h.getD len).toNat - (l.getD 0).toNat) ((m.getD cap).toNat - (l.getD 0).toNat)) w := by
    intro A len cap q0 q1 q2 q3 q4
    simp only [Instr.sliceAt, Instr.slice, Sem.run_bind, run_underlying ht, Result.andThen_ok, run_bounds (w := w) len cap q0 lo hi mx l h m hl hl0 hh hh0 hm hm0 hmh q1 q2 q3 q4, run_sizeT w hn, Sem.run_pure]
  unfold slcA at hv
  split at hv
  · rename_i nl ex xs
    simp only at hv
    split at hv
    · cases hv
    · rename_i hall
      have hall' : ∀ x ∈ xs, x.cells.length = sz := by simpa using hall
      cases hx with
      | isl _ _ _ sz0 A c us hul h1 h2 h3 h4 hs hc hx' hv' =>
        have hvr := VR.isl (g := g) (w := w) nl ex xs sz0 A c us hul h1 h2 h3 h4 hs hc hx' hv'
        split at hv
        · split at hv
          · rename_i q
            injection hv with hv; subst hv
            refine ⟨_, hrun A xs.length c h1 q.1 q.2.1 (by simp; omega) (by simp), ?_⟩
            simp only [Option.getD_none, Int.toNat_natCast]
            exact hvr.isl_part sz hall' _ _ c (by omega) (by omega) (by omega) (Nat.le_refl _) _ (fun q2 => by simp only [Bool.and_eq_true, decide_eq_true_eq] at q2; have := h2 q2.1; omega)
          · cases hv
        · rename_i mm
          split at hv
          · rename_i q
            injection hv with hv; subst hv
            refine ⟨_, hrun A xs.length c h1 q.1 q.2.1 (by simpa using q.2.2.1) (by simp; omega), ?_⟩
            simp only [Option.getD_some]
            exact hvr.isl_part sz hall' _ _ mm.toNat (by omega) (by omega) (by omega) (by omega) _ (fun q2 => by simp only [decide_eq_true_eq] at q2; omega)
          · cases hv
  · rename_i id sz' off len cap ex
    simp only at hv
    split at hv
    · rename_i hsz; subst hsz
      cases hx with
      | sl _ _ _ _ _ _ b f c hA hi' h1 h2 h3 hz =>
        have empty : ∀ (ad : Addr) (c' : Nat) (ex' : Bool), ad.spot = none → (ex' = true → c' = 0) → VR g w (.isl (some false) ex' []) (.slice (some ad) 0 c') := fun ad c' ex' hsp hc' =>
          .isl (some false) ex' [] 0 (some ad) c' [] rfl (Nat.zero_le _) hc' (fun b hb => by injection hb with hb; exact hb.symm) (fun q => by cases q) (fun ad' q => by injection q with q; subst q; exact ⟨hsp, fun q => absurd rfl q⟩) (fun i ul q => by simp at q) (fun i x ul q => by simp at q) (fun i x ul q => by simp at q)
        split at hv
        · split at hv
          · rename_i q
            have hr := hrun (some ⟨b, f + off * sz, none⟩) len c (by omega) q.1 q.2.1 (by simp; omega) (by simp)
            simp only [Option.getD_none, Int.toNat_natCast] at hr
            split at hv
            · rename_i hlt
              injection hv with hv; subst hv
              refine ⟨_, hr, ?_⟩
              rw [if_neg (by omega), Option.map_some, add_zero_ _ rfl]
              have e1 : f + off * sz + (l.getD 0).toNat * sz = f + (off + (l.getD 0).toNat) * sz := by rw [Nat.add_mul]; omega
              have e2 : (h.getD ↑len).toNat - (l.getD 0).toNat = (h.getD ↑len - l.getD 0).toNat := by omega
              simp only [e1, e2]
              have e3 : off + (l.getD 0).toNat + (c - (l.getD 0).toNat) = off + c := by omega
              exact .sl id sz _ _ _ ex b f _ hA hi' (by omega) (by omega) (fun qe => by have := h3 qe; omega) (by rw [e3]; exact hz)
            · rename_i hlt
              split at hv
              · rename_i hl0'
                injection hv with hv; subst hv
                refine ⟨_, hr, ?_⟩
                simp only [hl0', Int.toNat_zero, Nat.zero_mul, Nat.sub_zero]
                have e1 : (if c = 0 then some (⟨b, f + off * sz, none⟩ : Addr) else Option.map (fun x : Addr => x.add 0) (some (⟨b, f + off * sz, none⟩ : Addr))) = some ⟨b, f + off * sz, none⟩ := by split <;> rfl
                rw [e1]
                exact .sl id sz off _ cap ex b f c hA hi' (by omega) h2 h3 hz
              · injection hv with hv; subst hv
                refine ⟨_, hr, ?_⟩
                have e2 : (h.getD ↑len).toNat - (l.getD 0).toNat = 0 := by omega
                rw [e2]
                have e1 : ∀ k, ∃ ad : Addr, ad.spot = none ∧ (if c = k then some (⟨b, f + off * sz, none⟩ : Addr) else Option.map (fun x : Addr => x.add (k * sz)) (some (⟨b, f + off * sz, none⟩ : Addr))) = some ad := fun k => by
                  split
                  · exact ⟨_, rfl, rfl⟩
                  · exact ⟨(⟨b, f + off * sz, none⟩ : Addr).add (k * sz), by rw [add_zero_ _ rfl], rfl⟩
                obtain ⟨ad, hsp, he⟩ := e1 (l.getD 0).toNat
                rw [he]
                exact empty ad _ ex hsp (fun qe => by have := h3 qe; omega)
          · cases hv
        · rename_i mm
          split at hv
          · rename_i q
            have hr := hrun (some ⟨b, f + off * sz, none⟩) len c (by omega) q.1 q.2.1 (by simpa using q.2.2.1) (by simp; omega)
            simp only [Option.getD_some] at hr
            split at hv
            · rename_i hlt
              injection hv with hv; subst hv
              refine ⟨_, hr, ?_⟩
              rw [if_neg (by omega), Option.map_some, add_zero_ _ rfl]
              have e1 : f + off * sz + (l.getD 0).toNat * sz = f + (off + (l.getD 0).toNat) * sz := by rw [Nat.add_mul]; omega
              have e2 : (h.getD ↑len).toNat - (l.getD 0).toNat = (h.getD ↑len - l.getD 0).toNat := by omega
              have e4 : mm.toNat - (l.getD 0).toNat = (mm - l.getD 0).toNat := by omega
              simp only [e1, e2, e4]
              exact .sl id sz _ _ _ true b f _ hA hi' (by omega) (by omega) (fun _ => rfl) (hz.le (by apply Nat.add_le_add_left; apply Nat.mul_le_mul_right; omega))
            · injection hv with hv; subst hv
              refine ⟨_, hr, ?_⟩
              have e2 : (h.getD ↑len).toNat - (l.getD 0).toNat = 0 := by omega
              have e4 : mm.toNat - (l.getD 0).toNat = 0 := by omega
              rw [e2, e4, if_pos (by omega)]
              exact empty _ _ true rfl (fun _ => rfl)
          · cases hv
    · cases hv
  · cases hv
theorem slice_runs' {t e sz : Nat} (ht : P.underlying t = some (.slice e)) (hn : sizeT P e = some sz) {x v : AV} {u : Value} (hx : VR g w x u) {lo hi mx : Option Operand} {lo' hi' mx' : Option AX}
    (hlo : compO lo = some lo') (hhi : compO hi = some hi') (hmx : compO mx = some mx') (hmh : (mx'.isSome && hi'.isNone) = false) (hr : RelT g w s a)
    (hv : slcO x sz (lo'.map fun y => intOf? (y.ev s)) (hi'.map fun y => intOf? (y.ev s)) (mx'.map fun y => intOf? (y.ev s)) = some v) : Runs P g w (Instr.sliceAt t u (lo.map a.eval) (hi.map a.eval) (mx.map a.eval)) v := by
  have key : ∀ {o : Option Operand} {o' : Option AX}, compO o = some o' → ¬ (o'.map fun y => intOf? (y.ev s)) = some none →
      (∀ v, o.map a.eval = some v → ∃ k n, v = .int k n ∧ (o'.map fun y => intOf? (y.ev s)).join = some n) ∧ (o.map a.eval = none → (o'.map fun y => intOf? (y.ev s)).join = none) ∧ o.isSome = o'.isSome := by
    intro o o' ho hne
    cases o with
    | none => simp [compO] at ho; subst ho; simp
    | some x =>
      simp only [compO] at ho
      cases hx : compX x with
      | none => simp [hx] at ho
      | some y =>
        simp [hx] at ho; subst ho
        cases hq : intOf? (y.ev s) with
        | none => simp [hq] at hne
        | some n =>
          obtain ⟨k, hk⟩ := intOf?_spec hq (compX_spec hx hr)
          refine ⟨fun v hv => ?_, by simp, rfl⟩
          simp at hv; subst hv
          exact ⟨k, n, hk, by simp [hq]⟩
  unfold slcO at hv
  split at hv
  · cases hv
  · rename_i hn3
    simp only [not_or] at hn3
    obtain ⟨a1, a2, a3⟩ := key hlo hn3.1
    obtain ⟨b1, b2, b3⟩ := key hhi hn3.2.1
    obtain ⟨c1, c2, c3⟩ := key hmx hn3.2.2
    refine slice_runs ht hn hx a1 a2 b1 b2 c1 c2 (fun q => ?_) hv
    rw [Option.isSome_map] at q ⊢
    rw [c3] at q; rw [b3]
    cases hi' <;> simp_all
end
end Go.E3
