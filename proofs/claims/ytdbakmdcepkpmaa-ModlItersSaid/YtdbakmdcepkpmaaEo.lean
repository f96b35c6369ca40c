/- What the document fixes of one hand. -/
import Derived.Test.YtdbakmdcepkpmaaEn
import Derived.Test.YtdbakmdcepkpmaaEU
set_option linter.unusedSimpArgs false
set_option linter.unusedVariables false
namespace Go.Proofs.Ytdbakmdcepkpmaa
open Go.E3
theorem doLit (m : Model) (o : Op) (m' : Model) (r : Res) (e : modDo m o = (m', r)) (hm : Room m 100) : PureF Try.prog 11 [modA m, opA o] (.tup [modA m', resA r]) := by
  have := s11 hm (by omega) o
  rw [e] at this
  exact this
def M0 : Model := ⟨[], [], 0⟩
def M1 : Model := ⟨[⟨3, false, true, 5, [⟨5, 7⟩]⟩], [], 0⟩
def M2 : Model := ⟨[⟨3, false, true, 5, [⟨5, 7⟩]⟩], [⟨1, [⟨5, 7⟩]⟩], 1⟩
def M3 : Model := ⟨[], [⟨1, [⟨5, 7⟩]⟩], 1⟩
def M4 : Model := ⟨[], [⟨1, []⟩], 1⟩
theorem room0 : Room M0 100 := ⟨by decide, by decide, by simp [M0], by simp [M0], by decide, by decide⟩
theorem room1 : Room M1 100 := ⟨by decide, by decide, by simp [M1], by simp [M1], by decide, by decide⟩
theorem room2 : Room M2 100 := ⟨by decide, by decide, by simp [M2], by simp [M2], by decide, by decide⟩
theorem room3 : Room M3 100 := ⟨by decide, by decide, by simp [M3], by simp [M3], by decide, by decide⟩
def R0 : Res := ⟨0, 0, []⟩
def R1 : Res := ⟨0, 1, []⟩
def R2 : Res := ⟨0, 0, [⟨5, 7⟩]⟩
def R3 : Res := ⟨1, 0, []⟩
def R4 : Res := ⟨4, 0, []⟩
set_option maxRecDepth 100000 in
theorem s12 : PureF Try.prog 12 [] (.bool true) := by
  intro h n
  refine u12 (by simp) fun _ => ?_
  rw [b12, q12]
  refine wSeq ?_
  (refine wRgn fun K hk => ?_; simp []; refine hk.out _ ?_; clear hk K)
  refine wSeq ?_
  (refine wRgn fun K hk => ?_; simp [])
  refine PureF.doCallX (doLit M0 ⟨1, 3, 0, 5, 7, 0, 0, 0⟩ M1 R0 (by rfl) room0) rfl fun n1 hn1 => ?_
  simp [modA, resA, slA]
  (refine hk.out _ ?_; clear hk K)
  refine wSeq ?_
  (refine wRgn fun K hk => ?_; simp [])
  refine PureF.doCallX (doLit M1 ⟨5, 3, 0, 0, 0, 0, 9, 0⟩ M2 R1 (by rfl) room1) rfl fun n2 hn2 => ?_
  simp [modA, resA, slA]
  (refine hk.out _ ?_; clear hk K)
  refine wSeq ?_
  (refine wRgn fun K hk => ?_; simp [])
  refine PureF.doCallX (doLit M2 ⟨4, 3, 0, 0, 0, 0, 0, 0⟩ M3 R0 (by rfl) room2) rfl fun n3 hn3 => ?_
  simp [modA, resA, slA]
  (refine hk.out _ ?_; clear hk K)
  refine wSeq ?_
  (refine wRgn fun K hk => ?_; simp [])
  refine PureF.doCallX (doLit M3 ⟨6, 0, 1, 0, 0, 0, 0, 5⟩ M4 R2 (by rfl) room3) rfl fun n4 hn4 => ?_
  simp [modA, resA, slA]
  (refine hk.out _ ?_; clear hk K)
  refine wSeq ?_
  (refine wRgn fun K hk => ?_; simp [])
  refine PureF.doCallX (doLit M1 ⟨1, 3, 0, 5, 0, 0, 0, 0⟩ M1 R3 (by rfl) room1) rfl fun n5 hn5 => ?_
  simp [modA, resA, slA]
  (refine hk.out _ ?_; clear hk K)
  refine wSeq ?_
  (refine wRgn fun K hk => ?_; simp [])
  refine PureF.doCallX (doLit M1 ⟨2, 16, 0, 0, 0, 0, 0, 0⟩ M1 R4 (by rfl) room1) rfl fun n6 hn6 => ?_
  simp [modA, resA, slA]
  (refine hk.out _ ?_; clear hk K)
  refine wSeq ?_
  (refine wRgn fun K hk => ?_; simp [R0, R1, R2, R3, R4, M1, M2, M3, M4, smA])
  refine PureF.doCallX (s17 (a := M1) (b := M1) (room1.small (by omega))) rfl fun n7 hn7 => ?_
  simp
  refine PureF.doCallX (s17 (a := M1) (b := M3) (room1.small (by omega))) rfl fun n8 hn8 => ?_
  simp [show ¬ M1 = M3 by decide]
  refine PureF.doCallX (s18 (a := R0) (b := R0) (by decide)) rfl fun n9 hn9 => ?_
  simp
  refine PureF.doCallX (s18 (a := R0) (b := R1) (by decide)) rfl fun n10 hn10 => ?_
  simp [show ¬ R0 = R1 by decide]
  (refine hk.out _ ?_; clear hk K)
  exact wRet (retV (v := .bool true) (by simp) ⟨rfl, rfl⟩)
end Go.Proofs.Ytdbakmdcepkpmaa
