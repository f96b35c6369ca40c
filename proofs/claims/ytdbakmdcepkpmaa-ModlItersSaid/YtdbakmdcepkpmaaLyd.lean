/- Loops over a range. -/
import Derived.Test.YtdbakmdcepkpmaaLyc
set_option linter.unusedSimpArgs false
set_option linter.unusedVariables false
namespace Go.E3
def rangeCode (b c i l u : Nat) (body : ACode) : ACode :=
  (.block b
    (.loop
     (.seq
      (.rgn 1 [
       ⟨(some c), none, (.bin .lss (.t i) (.t l)), 0, [], [], [], []⟩])
     (.seq
      (.cond (.t c)
        .skip
        (.exit b))
     (.seq
      body
     (.rgn 2 [
      ⟨(some u), none, (.bin .add (.t i) (.c (.int .i64 1))), 0, [], [], [], []⟩,
      ⟨(some i), none, (.mov (.t u)), 1, [], [], [], []⟩]))))))
section
variable {P : Program} {Q : Out → St → Prop} {s : Nat → AV} {h : Hp} {n : Nat} {b c i l u : Nat} {body d : ACode}
theorem wRange' (I : Nat → (Nat → AV) → Hp → Nat → Prop) (L : Nat) (hL : L < 2 ^ 62) (hil : i ≠ l) (hcl : c ≠ l) (hci : c ≠ i) (hul : u ≠ l) (h0 : s i = .int .i64 0) (hl : s l = .int .i64 L) (hI : I 0 s h n)
    (hb : ∀ k s h n, k < L → I k s h n → s i = .int .i64 k → s l = .int .i64 L → ∀ K : Out → St → Prop,
      Hid (∀ s' h' n', s' i = .int .i64 k → s' l = .int .i64 L → I (k + 1) (upd (upd s' u (.int .i64 (k + 1 : Nat))) i (.int .i64 (k + 1 : Nat))) h' (n' + 2) → K .normal ⟨s', h', n'⟩) →
      Hid (∀ j st, j ≠ b → Q (.exit j) st → K (.exit j) st) → Hid (∀ st, Q .normal st → K (.exit b) st) → Hid (∀ st, Q .ret st → K .ret st) → wpA P body K ⟨upd s c (.bool true), h, n + 1⟩)
    (hq : ∀ s h n, I L s h n → s l = .int .i64 L → Q .normal ⟨upd s c (.bool false), h, n + 1⟩) : wpA P (rangeCode b c i l u body) Q ⟨s, h, n⟩ := by
  unfold rangeCode
  refine wBlock' ?_
  refine wLoop (fun m st => ∃ k, k + m = L ∧ I k st.s st.h st.n ∧ st.s i = .int .i64 k ∧ st.s l = .int .i64 L) L ⟨0, by omega, hI, h0, hl⟩ ?_
  rintro m s h n ⟨k, hk, hIk, hi, hl⟩ K hN hE hR
  simp only at hIk hi hl
  refine wRgn fun K2 hk2 => ?_
  simp [hi, hl]
  refine hk2.out _ ?_
  clear hk2 K2
  refine wCond (decide ((k : Int) < L)) (by simp) (fun hc => ?_) (fun hc => ?_)
  · have hkL : k < L := by simpa using hc
    have e : (decide ((k : Int) < L)) = true := hc
    simp only [hkL, decide_true]
    refine wSkip ?_
    refine seqK fun K2 q1 q2 q3 => ?_
    have h64 : IntKind.i64.wrap ((k : Int) + 1) = ((k + 1 : Nat) : Int) := by
      rw [wrap_i64 (by omega) (by omega)]; omega
    refine hb k s h n hkL hIk hi hl K2 (fun s' h' n' e1 e2 e3 => q1 _ ?_) (fun j st hj q => q2 j st (hE.out j st ?_)) (fun st q => q2 b st (hE.out b st ?_)) (fun st q => q3 st (hR.out st q))
    · refine wRgn' fun K3 hk3 => ?_
      simp [e1, h64]
      refine hk3.out _ (hN.out _ ⟨m - 1, by omega, k + 1, by omega, ?_, by simp, ?_⟩)
      · simpa using e3
      · simp only [upd_at]
        rw [if_neg (Ne.symm hil), if_neg (Ne.symm hul)]; exact e2
    · simp only [hj, if_false]; exact q
    · simp only [if_true]; exact q
  · have hkL : k = L := by
      have : ¬ (k : Int) < L := by simpa using hc
      omega
    subst hkL
    simp only [Nat.lt_irrefl, decide_false]
    refine wExit (hE.out b _ ?_)
    simp only [if_true]
    have := hq s h n hIk hl
    simpa using this
theorem wRange (I : Nat → (Nat → AV) → Hp → Nat → Prop) (L : Nat) (hL : L < 2 ^ 62) (hil : i ≠ l) (hcl : c ≠ l) (hci : c ≠ i) (hul : u ≠ l) (h0 : s i = .int .i64 0) (hl : s l = .int .i64 L) (hI : I 0 s h n)
    (hb : ∀ k s h n, k < L → I k s h n → s i = .int .i64 k → s l = .int .i64 L → ∀ K : Out → St → Prop,
      Hid (∀ s' h' n', s' i = .int .i64 k → s' l = .int .i64 L → I (k + 1) (upd (upd s' u (.int .i64 (k + 1 : Nat))) i (.int .i64 (k + 1 : Nat))) h' (n' + 2) → K .normal ⟨s', h', n'⟩) →
      Hid (∀ j st, j ≠ b → Q (.exit j) st → K (.exit j) st) → Hid (∀ st, wpA P d Q st → K (.exit b) st) → Hid (∀ st, Q .ret st → K .ret st) → wpA P body K ⟨upd s c (.bool true), h, n + 1⟩)
    (hq : ∀ s h n, I L s h n → s l = .int .i64 L → wpA P d Q ⟨upd s c (.bool false), h, n + 1⟩) : wpA P (.seq (rangeCode b c i l u body) d) Q ⟨s, h, n⟩ := by
  refine seqK fun K q1 q2 q3 => ?_
  refine wRange' (Q := K) I L hL hil hcl hci hul h0 hl hI ?_ (fun s h n e1 e2 => q1 _ (hq s h n e1 e2))
  intro k s h n hk hIk e1 e2 K2 p1 p2 p3 p4
  exact hb k s h n hk hIk e1 e2 K2 p1 (fun j st hj q => p2.out j st hj (q2 j st q)) (fun st q => p3.out st (q1 st q)) (fun st q => p4.out st (q3 st q))
end
/-- A call that asks nothing of the heap, and hands back what is new. -/
theorem doCallN {P : Program} {f : Nat} {vs : List AV} {bad : List Nat} {st : St} {K R : AV → Hp → Nat → Prop} (hbad : ∀ id ∈ bad, id < st.n) (hc : ∀ h0, CallsA P f vs h0 st.n fun r h' n' => Keeps h0 st.n h' ∧ R r h' n')
    (hR : ∀ r h' h'' n', R r h' n' → (∀ id, st.n ≤ id → h'' id = h' id) → R r h'' n')
    (hK : (∀ id, st.h id ≠ none → id < st.n) → ∀ r h' n', st.n ≤ n' → Keeps st.h st.n h' → (∀ id, h' id ≠ none → id < n') → R r h' n' → K r h' n') : doCall P f vs true bad st K := by
  unfold doCall
  rw [if_pos rfl]
  refine ⟨fun id => !bad.contains id, fun id hid => by simp [hid], ?_⟩
  refine CallsA.wf fun hwf0 => ?_
  have hwf : ∀ id, st.h id ≠ none → id < st.n := by
    intro id hid
    by_cases hb : id ∈ bad
    · exact hbad id hb
    · exact hwf0 id (by simp [restr, hb]; exact hid)
  refine (hc (restr (fun id => !bad.contains id) st.h)).more.mono ?_
  rintro r h' n' ⟨⟨q1, q2⟩, q3, q4⟩
  have hsub : ∀ id, restr (fun id => !bad.contains id) st.h id ≠ none → restr (fun id => !bad.contains id) st.h id = st.h id ∧ id < st.n := by
    intro id hid
    unfold restr at hid ⊢
    split
    · rename_i q; rw [if_pos q] at hid; exact ⟨rfl, hwf id hid⟩
    · rename_i q; rw [if_neg q] at hid; exact absurd rfl hid
  have hm : ∀ id, st.n ≤ id → merge h' st.h id = h' id := by
    intro id hid
    unfold merge
    cases hh : h' id with
    | some ob => rfl
    | none =>
      simp only
      cases hs : st.h id with
      | none => rfl
      | some ob => have := hwf id (by simp [hs]); omega
  have hk : Keeps st.h st.n (merge h' st.h) := by
    refine ⟨fun id hid => ?_⟩
    unfold merge
    cases hh : h' id with
    | none => rfl
    | some ob =>
      simp only
      have := q1.old id hid
      rw [hh] at this
      have := (hsub id (by rw [← this]; simp)).1
      rw [← this]; assumption
  refine ⟨fun id hid => ?_, fun id hid => ?_, hK hwf r _ n' q3 hk (fun id hid => ?_) (hR r h' _ n' q2 hm)⟩
  · obtain ⟨e1, e2⟩ := hsub id hid
    rw [q1.old id e2, e1]
  · rcases Nat.lt_or_ge id st.n with q | q
    · rw [q1.old id q] at hid; exact .inl hid
    · exact .inr q
  · unfold merge at hid
    cases hh : h' id with
    | some ob => exact q4 id (by simp [hh])
    | none =>
      rw [hh] at hid
      have := hwf id hid
      omega
/-- slices.Delete, of one's own. -/
theorem delete_mut {P : Program} {e : TypeId} {sz bytes : Nat} {z : List AV} {h : Hp} {lo hi n i j : Nat} {v : AV} {xs : List AV} {K : AV → Hp → Nat → Prop} (o : MutSl h lo hi e sz v xs) (hz : z.length = sz) (hij : i < j) (hj : j ≤ xs.length)
    (hK : ∀ r h' n', n ≤ n' → MutSl h' lo hi e sz r (xs.take i ++ xs.drop j) → (∀ k, k ∉ v.ids → h' k = h k) → (∀ k ∈ r.ids, k ∈ v.ids) → K r h' n') :
    wpA P (deleteCode e sz bytes z) (retA [.tmp 6] K) ⟨argS [v, .int .i64 i, .int .i64 j], h, n⟩ := by
  rcases o with ⟨rfl, rfl⟩ | ⟨id, ex, tail, rfl, hid, h1, h2⟩
  · simp at hj; omega
  · refine delete_wp hid hz hij hj fun n' hn' => ?_
    refine hK _ _ _ hn' (.inr ⟨id, ex, List.replicate (j - i) (if sz = 1 then z.headD .undef else .agg z) ++ tail, ?_, by simp, h1, h2⟩) (fun k hk => ?_) (fun k hk => ?_)
    · congr 1 <;> simp <;> omega
    · simp at hk; exact upd_ne _ _ hk
    · simpa using hk
/-- slices.Insert of one, wherever. -/
theorem insert_any {P : Program} {e : TypeId} {sz bytes : Nat} {ze : AV} {fo fr : Nat} {h : Hp} {lo n i idx cx : Nat} {exx : Bool} {y : AV} {xs : List AV} {v : AV} {K : AV → Hp → Nat → Prop} (o : ExSl h lo n e sz v xs) (hx : elems h (.sl idx sz 0 1 cx exx) sz = some [y]) (hidx : idx < n) (hne : idx ∉ v.ids) (hlo : lo ≤ n) (hi : i ≤ xs.length)
    (hb : (xs.length + 1) * bytes ≤ 140737488355328) (hsz : xs.length + 1 < 2 ^ 59)
    (hov : ∀ id cap n', v = .sl id sz 0 xs.length cap true → n ≤ n' → CallsA P fo [.sl idx sz 0 1 cx exx, .sl id sz (i + 1) (xs.length - i) (cap - (i + 1)) true] h n' fun r h' _ => r = .bool false ∧ h' = h)
    (hK : ∀ r h' n', n ≤ n' → MutSl h' lo n' e sz r (xs.take i ++ y :: xs.drop i) → (∀ j, j < n → j ∉ v.ids → h' j = h j) → (∀ j ∈ r.ids, n ≤ j ∨ j ∈ v.ids) → K r h' n') :
    wpA P (insertCode e sz bytes ze fo fr) (retA [.tmp 6] K) ⟨argS [v, .int .i64 i, .sl idx sz 0 1 cx exx], h, n⟩ := by
  by_cases hil : i = xs.length
  · subst hil
    refine insert_end o.mut hx hlo hb (by omega) fun r h' n' q1 q2 q3 q4 => hK r h' n' q1 ?_ q3 q4
    simpa using q2
  · rcases o with ⟨rfl, rfl⟩ | ⟨id, tail, rfl, hid, h1, h2⟩
    · simp at hi hil; omega
    · simp at hne
      by_cases ht : tail = []
      · subst ht
        refine insert_grow (n0 := lo) (by simpa using hid) hx (by simpa using hidx) h2 hlo (by omega) hb (by omega) fun r h' n' q1 q2 q3 q4 => hK r h' n' q1 q2 (fun j hj _ => q3 j hj) (fun j hj => .inl (q4 j hj))
      · refine insert_room (n0 := lo) hid (List.length_pos_iff.2 ht) hx hne h2 h1 hlo (by omega) (by omega) (fun n' hn' => hov _ _ n' rfl hn') fun r h' n' q1 q2 q3 q4 => hK r h' n' q1 q2 (fun j _ hj => q3 j (by simpa using hj)) (fun j hj => .inr (by simpa using q4 j hj))
section
variable {P : Program} {f : Nat} {vs : List AV} {s : Nat → AV} {h : Hp} {n : Nat} {K R : AV → Hp → Nat → Prop}
/-- A call that is handed the heap itself. -/
theorem doCallF {bad : List Nat} (hc : CallsA P f vs h n R) (hK : ∀ r h' n', R r h' n' → n ≤ n' → (∀ id, h' id ≠ none → id < n') → K r h' n') : doCall P f vs false bad ⟨s, h, n⟩ K := by
  unfold doCall
  rw [if_neg (by simp)]
  exact hc.more.mono fun r h' n' ⟨q1, q2, q3⟩ => hK r h' n' q1 q2 q3
/-- A call that answers, and turns nothing, with what it reads out of the heap. -/
theorem doCallP {v : AV} (hc : CallsA P f vs h n fun r h' _ => r = v ∧ h' = h) (hK : ∀ n', n ≤ n' → K v h n') : doCall P f vs true [] ⟨s, h, n⟩ K := by
  refine doCall_keep (hc.more.mono ?_)
  rintro r h' n' ⟨⟨rfl, rfl⟩, q2, -⟩
  exact ⟨fun _ _ => rfl, fun _ q => .inl q, hK n' q2⟩
/-- A call that turns nothing, and hands back what is new. -/
theorem doCallM (hc : CallsA P f vs h n fun r h' n' => Keeps h n h' ∧ R r h' n')
    (hK : (∀ id, h id ≠ none → id < n) → ∀ r h' n', n ≤ n' → Keeps h n h' → (∀ id, h' id ≠ none → id < n') → R r h' n' → K r h' n') : doCall P f vs true [] ⟨s, h, n⟩ K := by
  refine doCall_keep (CallsA.wf fun hwf => hc.more.mono ?_)
  rintro r h' n' ⟨⟨q1, q2⟩, q3, q4⟩
  refine ⟨fun id hid => q1.old id (hwf id hid), fun id hid => ?_, hK hwf r h' n' q3 q1 q4 q2⟩
  rcases Nat.lt_or_ge id n with q | q
  · rw [q1.old id q] at hid; exact .inl hid
  · exact .inr q
/-- A call that asks nothing of the heap, and hands back what is new. -/
theorem doCallQ {bad : List Nat} (hbad : ∀ id ∈ bad, id < n) (hc : ∀ h0, CallsA P f vs h0 n fun r h' n' => Keeps h0 n h' ∧ R r h' n')
    (hR : ∀ r h' h'' n', R r h' n' → (∀ id, n ≤ id → h'' id = h' id) → R r h'' n')
    (hK : (∀ id, h id ≠ none → id < n) → ∀ r h' n', n ≤ n' → Keeps h n h' → (∀ id, h' id ≠ none → id < n') → R r h' n' → K r h' n') : doCall P f vs true bad ⟨s, h, n⟩ K :=
  doCallN hbad hc hR hK
end
/-- What is handed back. -/
theorem retV {rs : List ARes} {K : AV → Hp → Nat → Prop} {s : Nat → AV} {h : Hp} {n : Nat} {v : AV} (hv : resV rs ⟨s, h, n⟩ = some v) (hk : K v h n) : retA rs K .ret ⟨s, h, n⟩ := by
  simp only [retA, hv]; exact hk
/-- A name for the heap; for the heap and the temporaries. -/
theorem wHeap {P : Program} {c : ACode} {Q : Out → St → Prop} {s : Nat → AV} {h : Hp} {n : Nat} (hh : ∀ h', h' = h → wpA P c Q ⟨s, h', n⟩) : wpA P c Q ⟨s, h, n⟩ := hh h rfl
theorem wState {P : Program} {c : ACode} {Q : Out → St → Prop} {s : Nat → AV} {h : Hp} {n : Nat} (hh : ∀ s' h' n', s' = s → h' = h → n' = n → wpA P c Q ⟨s', h', n'⟩) : wpA P c Q ⟨s, h, n⟩ := hh s h n rfl rfl rfl
/-! ### Loops with a counter and a condition of their own -/
def forCode (b c i u w : Nat) (cr body : ACode) : ACode :=
  (.block b
    (.loop
     (.seq
      (.seq cr
      (.cond (.t c)
        .skip
        (.exit b)))
     (.seq
      body
     (.rgn 3 [
      ⟨(some u), none, (.mov (.t i)), 0, [], [], [], []⟩,
      ⟨(some w), none, (.bin .add (.t u) (.c (.int .i64 1))), 1, [], [], [], []⟩,
      ⟨(some i), none, (.mov (.t w)), 2, [], [], [], []⟩])))))
def normQ (R : St → Prop) : Out → St → Prop
  | .normal, st => R st
  | _, _ => False
section
variable {P : Program} {Q : Out → St → Prop} {s : Nat → AV} {h : Hp} {n : Nat} {b c i u w : Nat} {cr body d : ACode}
theorem wFor' (I : Nat → (Nat → AV) → Hp → Nat → Prop) (C : Nat → Bool) (N : Nat) (hN : N < 2 ^ 62) (hC : ∀ k, C k = true → k < N) (h0 : s i = .int .i64 0) (hI : I 0 s h n)
    (hcr : ∀ k s h n, k ≤ N → I k s h n → s i = .int .i64 k → wpA P cr (normQ fun st => st.s c = .bool (C k) ∧ st.s i = .int .i64 k ∧ I k st.s st.h st.n) ⟨s, h, n⟩)
    (hb : ∀ k s h n, C k = true → I k s h n → s i = .int .i64 k → ∀ K : Out → St → Prop,
      Hid (∀ s' h' n', s' i = .int .i64 k → I (k + 1) (upd (upd (upd s' u (.int .i64 k)) w (.int .i64 (k + 1 : Nat))) i (.int .i64 (k + 1 : Nat))) h' (n' + 3) → K .normal ⟨s', h', n'⟩) →
      Hid (∀ j st, j ≠ b → Q (.exit j) st → K (.exit j) st) → Hid (∀ st, Q .normal st → K (.exit b) st) → Hid (∀ st, Q .ret st → K .ret st) → wpA P body K ⟨s, h, n⟩)
    (hq : ∀ k s h n, C k = false → (∀ j, j < k → C j = true) → I k s h n → s i = .int .i64 k → Q .normal ⟨s, h, n⟩) : wpA P (forCode b c i u w cr body) Q ⟨s, h, n⟩ := by
  unfold forCode
  refine wBlock' ?_
  refine wLoop (fun m st => ∃ k, k + m = N ∧ I k st.s st.h st.n ∧ st.s i = .int .i64 k ∧ ∀ j, j < k → C j = true) N ⟨0, by omega, hI, h0, fun j hj => by omega⟩ ?_
  rintro m s h n ⟨k, hk, hIk, hi, hCk⟩ K hN' hE hR
  simp only at hIk hi
  refine seqK fun K2 q1 q2 q3 => ?_
  refine seqK fun K3 p1 p2 p3 => ?_
  refine wpA_mono cr (hcr k s h n (by omega) hIk hi) fun o st hst => ?_
  cases o with
  | exit j => exact hst.elim
  | ret => exact hst.elim
  | normal =>
    obtain ⟨s', h', n'⟩ := st
    obtain ⟨e1, e2, e3⟩ := hst
    simp only at e1 e2 e3
    refine p1 _ ?_
    cases hck : C k with
    | false =>
      refine wCond' false (by rw [← hck]; exact e1) (fun q => by cases q) (fun _ => wExit' ?_)
      refine q2 b _ (hE.out b _ ?_)
      simp only [if_true]
      exact hq k s' h' n' hck hCk e3 e2
    | true =>
      have hkN := hC k hck
      refine wCond' true (by rw [← hck]; exact e1) (fun _ => wSkip' ?_) (fun q => by cases q)
      refine q1 _ ?_
      refine seqK fun K4 r1 r2 r3 => ?_
      have h64 : IntKind.i64.wrap ((k : Int) + 1) = ((k + 1 : Nat) : Int) := by
        rw [wrap_i64 (by omega) (by omega)]; omega
      refine hb k s' h' n' hck e3 e2 K4 (fun s2 h2 n2 t1 t2 => r1 _ ?_) (fun j st hj q => r2 j st (hE.out j st ?_)) (fun st q => r2 b st (hE.out b st ?_)) (fun st q => r3 st (hR.out st q))
      · refine wRgn' fun K5 hk5 => ?_
        simp [t1, h64]
        refine hk5.out _ (hN'.out _ ⟨m - 1, by omega, k + 1, by omega, ?_, by simp, ?_⟩)
        · simpa using t2
        · intro j hj
          by_cases e : j = k
          · rw [e]; exact hck
          · exact hCk j (by omega)
      · simp only [hj, if_false]; exact q
      · simp only [if_true]; exact q
theorem wFor (I : Nat → (Nat → AV) → Hp → Nat → Prop) (C : Nat → Bool) (N : Nat) (hN : N < 2 ^ 62) (hC : ∀ k, C k = true → k < N) (h0 : s i = .int .i64 0) (hI : I 0 s h n)
    (hcr : ∀ k s h n, k ≤ N → I k s h n → s i = .int .i64 k → wpA P cr (normQ fun st => st.s c = .bool (C k) ∧ st.s i = .int .i64 k ∧ I k st.s st.h st.n) ⟨s, h, n⟩)
    (hb : ∀ k s h n, C k = true → I k s h n → s i = .int .i64 k → ∀ K : Out → St → Prop,
      Hid (∀ s' h' n', s' i = .int .i64 k → I (k + 1) (upd (upd (upd s' u (.int .i64 k)) w (.int .i64 (k + 1 : Nat))) i (.int .i64 (k + 1 : Nat))) h' (n' + 3) → K .normal ⟨s', h', n'⟩) →
      Hid (∀ j st, j ≠ b → Q (.exit j) st → K (.exit j) st) → Hid (∀ st, wpA P d Q st → K (.exit b) st) → Hid (∀ st, Q .ret st → K .ret st) → wpA P body K ⟨s, h, n⟩)
    (hq : ∀ k s h n, C k = false → (∀ j, j < k → C j = true) → I k s h n → s i = .int .i64 k → wpA P d Q ⟨s, h, n⟩) : wpA P (.seq (forCode b c i u w cr body) d) Q ⟨s, h, n⟩ := by
  refine seqK fun K q1 q2 q3 => ?_
  refine wFor' (Q := K) I C N hN hC h0 hI hcr ?_ (fun k s h n e1 e2 e3 e4 => q1 _ (hq k s h n e1 e2 e3 e4))
  intro k s h n e1 e2 e3 K2 p1 p2 p3 p4
  exact hb k s h n e1 e2 e3 K2 p1 (fun j st hj q => p2.out j st hj (q2 j st q)) (fun st q => p3.out st (q1 st q)) (fun st q => p4.out st (q3 st q))
theorem wForA' (a : Nat) (I : Nat → (Nat → AV) → Hp → Nat → Prop) (C : Nat → Bool) (N : Nat) (hN : a + N < 2 ^ 62) (hC : ∀ k, C k = true → k < N) (h0 : s i = .int .i64 a) (hI : I 0 s h n)
    (hcr : ∀ k s h n, k ≤ N → I k s h n → s i = .int .i64 (a + k : Nat) → wpA P cr (normQ fun st => st.s c = .bool (C k) ∧ st.s i = .int .i64 (a + k : Nat) ∧ I k st.s st.h st.n) ⟨s, h, n⟩)
    (hb : ∀ k s h n, C k = true → I k s h n → s i = .int .i64 (a + k : Nat) → ∀ K : Out → St → Prop,
      Hid (∀ s' h' n', s' i = .int .i64 (a + k : Nat) → I (k + 1) (upd (upd (upd s' u (.int .i64 (a + k : Nat))) w (.int .i64 (a + k + 1 : Nat))) i (.int .i64 (a + k + 1 : Nat))) h' (n' + 3) → K .normal ⟨s', h', n'⟩) →
      Hid (∀ j st, j ≠ b → Q (.exit j) st → K (.exit j) st) → Hid (∀ st, Q .normal st → K (.exit b) st) → Hid (∀ st, Q .ret st → K .ret st) → wpA P body K ⟨s, h, n⟩)
    (hq : ∀ k s h n, C k = false → (∀ j, j < k → C j = true) → I k s h n → s i = .int .i64 (a + k : Nat) → Q .normal ⟨s, h, n⟩) : wpA P (forCode b c i u w cr body) Q ⟨s, h, n⟩ := by
  unfold forCode
  refine wBlock' ?_
  refine wLoop (fun m st => ∃ k, k + m = N ∧ I k st.s st.h st.n ∧ st.s i = .int .i64 (a + k : Nat) ∧ ∀ j, j < k → C j = true) N ⟨0, by omega, hI, h0, fun j hj => by omega⟩ ?_
  rintro m s h n ⟨k, hk, hIk, hi, hCk⟩ K hN' hE hR
  simp only at hIk hi
  refine seqK fun K2 q1 q2 q3 => ?_
  refine seqK fun K3 p1 p2 p3 => ?_
  refine wpA_mono cr (hcr k s h n (by omega) hIk hi) fun o st hst => ?_
  cases o with
  | exit j => exact hst.elim
  | ret => exact hst.elim
  | normal =>
    obtain ⟨s', h', n'⟩ := st
    obtain ⟨e1, e2, e3⟩ := hst
    simp only at e1 e2 e3
    refine p1 _ ?_
    cases hck : C k with
    | false =>
      refine wCond' false (by rw [← hck]; exact e1) (fun q => by cases q) (fun _ => wExit' ?_)
      refine q2 b _ (hE.out b _ ?_)
      simp only [if_true]
      exact hq k s' h' n' hck hCk e3 e2
    | true =>
      have hkN := hC k hck
      refine wCond' true (by rw [← hck]; exact e1) (fun _ => wSkip' ?_) (fun q => by cases q)
      refine q1 _ ?_
      refine seqK fun K4 r1 r2 r3 => ?_
      have h64 : IntKind.i64.wrap (((a + k : Nat) : Int) + 1) = ((a + k + 1 : Nat) : Int) := by
        rw [wrap_i64 (by omega) (by omega)]; omega
      refine hb k s' h' n' hck e3 e2 K4 (fun s2 h2 n2 t1 t2 => r1 _ ?_) (fun j st hj q => r2 j st (hE.out j st ?_)) (fun st q => r2 b st (hE.out b st ?_)) (fun st q => r3 st (hR.out st q))
      · refine wRgn' fun K5 hk5 => ?_
        simp only [wo_cons, w_mov, w_bin, AX.ev, t1, bindK_some, upd_same, bin_int, sh_add, bi_add, h64, if_true, Bool.false_eq_true, if_false, wo_nil]
        refine hk5.out _ (hN'.out _ ⟨m - 1, by omega, k + 1, by omega, t2, by simp only [upd_same]; rfl, ?_⟩)
        · intro j hj
          by_cases e : j = k
          · rw [e]; exact hck
          · exact hCk j (by omega)
      · simp only [hj, if_false]; exact q
      · simp only [if_true]; exact q
theorem wForA (a : Nat) (I : Nat → (Nat → AV) → Hp → Nat → Prop) (C : Nat → Bool) (N : Nat) (hN : a + N < 2 ^ 62) (hC : ∀ k, C k = true → k < N) (h0 : s i = .int .i64 a) (hI : I 0 s h n)
    (hcr : ∀ k s h n, k ≤ N → I k s h n → s i = .int .i64 (a + k : Nat) → wpA P cr (normQ fun st => st.s c = .bool (C k) ∧ st.s i = .int .i64 (a + k : Nat) ∧ I k st.s st.h st.n) ⟨s, h, n⟩)
    (hb : ∀ k s h n, C k = true → I k s h n → s i = .int .i64 (a + k : Nat) → ∀ K : Out → St → Prop,
      Hid (∀ s' h' n', s' i = .int .i64 (a + k : Nat) → I (k + 1) (upd (upd (upd s' u (.int .i64 (a + k : Nat))) w (.int .i64 (a + k + 1 : Nat))) i (.int .i64 (a + k + 1 : Nat))) h' (n' + 3) → K .normal ⟨s', h', n'⟩) →
      Hid (∀ j st, j ≠ b → Q (.exit j) st → K (.exit j) st) → Hid (∀ st, wpA P d Q st → K (.exit b) st) → Hid (∀ st, Q .ret st → K .ret st) → wpA P body K ⟨s, h, n⟩)
    (hq : ∀ k s h n, C k = false → (∀ j, j < k → C j = true) → I k s h n → s i = .int .i64 (a + k : Nat) → wpA P d Q ⟨s, h, n⟩) : wpA P (.seq (forCode b c i u w cr body) d) Q ⟨s, h, n⟩ := by
  refine seqK fun K q1 q2 q3 => ?_
  refine wForA' (Q := K) a I C N hN hC h0 hI hcr ?_ (fun k s h n e1 e2 e3 e4 => q1 _ (hq k s h n e1 e2 e3 e4))
  intro k s h n e1 e2 e3 K2 p1 p2 p3 p4
  exact hb k s h n e1 e2 e3 K2 p1 (fun j st hj q => p2.out j st hj (q2 j st q)) (fun st q => p3.out st (q1 st q)) (fun st q => p4.out st (q3 st q))
end
theorem CallsA.pureB {P : Program} {f : Nat} {vs : List AV} {h : Hp} {n : Nat} {b : Bool} (hc : CallsA P f vs h n fun r h' _ => Keeps h n h' ∧ r = .bool b) : CallsA P f vs h n fun r h' _ => r = .bool b ∧ h' = h :=
  CallsA.pure 1 (hc.mono fun r h' _ ⟨q1, q2⟩ => ⟨q1, by rw [q2]; rfl⟩)
/-! ### Arguments of which less is told -/
def wk1 : AV → AV
  | .isl _ _ xs => .isl none false xs
  | v => v
def wk : AV → AV
  | .agg cs => .agg (cs.map wk1)
  | v => wk1 v
theorem VR.wk1 {g : G} {w : World} {v : AV} {u : Value} (h : VR g w v u) : VR g w (wk1 v) u := by
  cases v <;> try exact h
  exact h.isl_weak (fun b q => by cases q) (fun q => by cases q)
theorem wk1_flat (v : AV) (h : v.flat = true) : (wk1 v).flat = true := by cases v <;> first | exact h | rfl
theorem VR.wk {g : G} {w : World} {v : AV} {u : Value} (h : VR g w v u) : VR g w (wk v) u := by
  cases v with
  | agg cs =>
    obtain ⟨us, rfl, hl, hf, hv⟩ := h.inv_agg
    refine .agg _ us (by simpa using hl) (fun c hc => ?_) (fun j c u hc hu => ?_)
    · obtain ⟨c', hc', rfl⟩ := List.mem_map.1 hc
      exact wk1_flat _ (hf c' hc')
    · rw [List.getElem?_map] at hc
      cases hcs : cs[j]? with
      | none => rw [hcs] at hc; cases hc
      | some c' =>
        rw [hcs] at hc
        injection hc with hc; subst hc
        exact (hv j c' u hcs hu).wk1
  | _ => exact h.wk1
theorem CallsA.wk {P : Program} {f : Nat} {vs : List AV} {h : Hp} {n : Nat} {K : AV → Hp → Nat → Prop} (hc : CallsA P f (vs.map Go.E3.wk) h n K) : CallsA P f vs h n K := by
  intro g w us hr hv
  refine hc g w us hr ⟨by simpa using hv.1, fun j v u hj hu => ?_⟩
  rw [List.getElem?_map] at hj
  cases hvs : vs[j]? with
  | none => rw [hvs] at hj; cases hj
  | some v' =>
    rw [hvs] at hj
    injection hj with hj; subst hj
    exact (hv.2 j v' u hvs hu).wk
theorem PureF.doCallW {P : Program} {f : Nat} {vs vs' : List AV} {r : AV} {gr : Bool} {bad : List Nat} {s : Nat → AV} {h : Hp} {n : Nat} {K : AV → Hp → Nat → Prop} (hvs : vs.map Go.E3.wk = vs'.map Go.E3.wk) (hp : PureF P f (vs'.map Go.E3.wk) r) (hk : ∀ n', n ≤ n' → K r h n') : Go.E3.doCall P f vs gr bad ⟨s, h, n⟩ K := by
  refine PureF.doCall (r := r) (fun h n => CallsA.wk ?_) hk
  rw [hvs]
  exact hp h n
/-- The same, where it is told which arguments are meant. -/
theorem PureF.doCallX {P : Program} {f : Nat} {vs vs' : List AV} {r : AV} {gr : Bool} {bad : List Nat} {s : Nat → AV} {h : Hp} {n : Nat} {K : AV → Hp → Nat → Prop} (hp : PureF P f vs' r) (hvs : vs.map Go.E3.wk = vs') (hk : ∀ n', n ≤ n' → K r h n') : Go.E3.doCall P f vs gr bad ⟨s, h, n⟩ K := by
  refine PureF.doCall (r := r) (fun h n => CallsA.wk ?_) hk
  rw [hvs]
  exact hp h n
theorem ite_ne {α : Type} {a b : Nat} {x y : α} (h : a ≠ b) : (if a = b then x else y) = y := if_neg h
end Go.E3
