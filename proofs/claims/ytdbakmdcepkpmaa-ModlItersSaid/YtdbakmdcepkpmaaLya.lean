/- slices.overlaps: two rows that are not one. -/
import Derived.Test.YtdbakmdcepkpmaaLz
import Derived.Laws.Externs
import Derived.KernelRfl
set_option linter.unusedSimpArgs false
set_option linter.unusedVariables false
namespace Go.E3
theorem overlaps_eq (ps rs : Array TypeId) (a b : Addr) (la lb ca cb : Nat) : Extern.SlicesOverlaps.overlaps ps rs #[.slice (some a) la ca, .slice (some b) lb cb] = (do
    let some t := ps[0]? | stuck "slices.overlaps: no parameter types"
    let .slice elem ← underlying t | stuck "slices.overlaps: slice type expected"
    let size ← sizeOf elem
    if la = 0 ∨ lb = 0 ∨ size = 0 then pure (.bool false)
    else if a.block != b.block && (← frozen a) && (← frozen b) then unsupported .addressObserved
    else do
      if a.block != b.block then do
        noView a; noView b
        if ← mayBeOne a b then return .bool ((← choose (.extern "sameAddr.stringBytes" 2)) == 1)
      pure (.bool (a.block == b.block && a.off < b.off + lb * size && b.off < a.off + la * size))) := by kernel_rfl
section
variable {P : Program} {w : World}
theorem overlaps_apart {ps rs : Array TypeId} {t e : TypeId} {sz : Nat} (h0 : ps[0]? = some t) (ht : P.underlying t = some (.slice e)) (hsz : sizeT P e = some sz) {a b : Addr} {la lb ca cb : Nat} {ra rb : Array Value} {ea eb : TypeId}
    (ha : w.heap[a.block]? = some (.cells ra ea (0, 0))) (hb : w.heap[b.block]? = some (.cells rb eb (0, 0))) (hne : a.block ≠ b.block) :
    (Extern.SlicesOverlaps.overlaps ps rs #[.slice (some a) la ca, .slice (some b) lb cb]).run P w = .ok (.bool false) w := by
  have hne' : (a.block != b.block) = true := by simpa using hne
  have hne2 : (a.block == b.block) = false := by simpa using hne
  have hfa : w.frozen? a = false := by simp [World.frozen?, ha]
  have hfb : w.frozen? b = false := by simp [World.frozen?, hb]
  have hfa2 : w.frozen? ⟨a.block, ra.size, none⟩ = false := by simp [World.frozen?, ha]
  have hfb2 : w.frozen? ⟨b.block, rb.size, none⟩ = false := by simp [World.frozen?, hb]
  rw [overlaps_eq]
  simp [h0, run_underlying ht, run_sizeT w hsz, hne', hne2, noView, viewAt, mayBeOne, stringish, shape, frozen, Sem.run, hfa, hfb, World.shape?, ha, hb, hfa2, hfb2]
/-- The contract of slices.overlaps where the two lie in different objects. -/
theorem overlaps_calls {f : Nat} {fn : Func} {ps rs : Array TypeId} {t e : TypeId} {sz : Nat} (hf : P.funcs[f]? = some fn) (hname : (fn.name == "runtime.NumGoroutine") = false) (hb : fn.body.isNone = true) (hn : Extern.findNext fn = none)
    (hx : Extern.find fn = some (Extern.SlicesOverlaps.overlaps ps rs)) (h0 : ps[0]? = some t) (ht : P.underlying t = some (.slice e)) (hsz : sizeT P e = some sz)
    {ida sa oa la ca idb sb ob lb cb : Nat} {exa exb : Bool} {h : Hp} {n : Nat} {oba obb : AObj} (ha : h ida = some oba) (hb2 : h idb = some obb) (hne : ida ≠ idb) :
    CallsA P f [.sl ida sa oa la ca exa, .sl idb sb ob lb cb exb] h n fun r h' _ => r = .bool false ∧ h' = h := by
  intro g w us hr hv
  obtain ⟨hl, hv⟩ := hv
  match us, hl with
  | [ua, ub], _ =>
    have h1 := hv 0 _ _ rfl rfl
    have h2 := hv 1 _ _ rfl rfl
    cases h1 with
    | sl _ _ _ _ _ _ ba fa ca' hA hi _ _ _ _ =>
      cases h2 with
      | sl _ _ _ _ _ _ bb fb cb' hA2 hi2 _ _ _ _ =>
        obtain ⟨_, qa⟩ := hr.live _ _ ha
        obtain ⟨_, qb⟩ := hr.live _ _ hb2
        have hbl : ba ≠ bb := by
          intro q
          apply hne
          refine hr.inj _ _ _ _ ha hb2 ?_
          rw [hi, hi2]; exact q
        cases oba with
        | mp t es => exact qa.elim
        | arr ea za la' =>
          cases obb with
          | mp t es => exact qb.elim
          | arr eb zb lb' =>
            obtain ⟨ra, k1, _, _⟩ := qa
            obtain ⟨rb, k2, _, _⟩ := qb
            rw [hi] at k1; rw [hi2] at k2
            have := overlaps_apart (P := P) (w := w) (ps := ps) (rs := rs) h0 ht hsz (a := ⟨ba, fa + oa * sa, none⟩) (b := ⟨bb, fb + ob * sb, none⟩) (la := la) (lb := lb) (ca := ca') (cb := cb') k1 k2 hbl
            unfold Ent
            rw [run_callFunc_extern hf hname hb hn hx]
            rw [this]
            exact ⟨g, .bool false, h, n, ⟨rfl, rfl⟩, hr, .bool false, Ext.refl _ _ _ _⟩
end
end Go.E3
