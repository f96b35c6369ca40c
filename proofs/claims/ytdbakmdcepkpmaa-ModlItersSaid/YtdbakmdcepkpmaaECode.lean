/- The code of the functions, as the abstract machine has it: printed by a program, and held against the given code by the kernel. -/
import Derived.Test.YtdbakmdcepkpmaaLw
import Derived.Test.YtdbakmdcepkpmaaProg
import Derived.KernelRfl
set_option linter.unusedSimpArgs false
set_option linter.unusedVariables false
namespace Go.Proofs.Ytdbakmdcepkpmaa
open Go.E3
def ngOf (l : List (Nat × Nat)) : Nat → Nat → Bool := fun r i => !(l.any fun p => p.1 == r && p.2 == i)
theorem mo : Try.prog.follows .mixedOrders = true := by kernel_rfl
def a10 : ACode :=
  (.seq
   (.rgn 4 [
    ⟨(some 2), none, (.box 25 (.t 0)), 0, [], [], [], []⟩,
    ⟨(some 3), none, (.box 28 (.t 1)), 1, [], [], [], []⟩,
    ⟨(some 4), none, (.new 25 (.agg [(.isl (some true) true []), (.isl (some true) true []), (.int .i64 0)])), 2, [], [], [], []⟩,
    ⟨(some 5), none, (.mov (.c (.int .i64 0))), 3, [], [], [], []⟩])
  (.seq
   (.rgn 10 [
    ⟨(some 9), none, (.ld (.t 2) 3 true), 0, [], [], [], []⟩,
    ⟨(some 10), none, (.ld (.t 3) 8 true), 1, [], [], [], []⟩,
    ⟨(some 11), none, (.callS 11 [(.t 9), (.t 10)] true), 2, [], [], [], []⟩,
    ⟨(some 8), none, (.mov (.t 11)), 3, [], [], [], []⟩,
    ⟨(some 12), none, (.ext (.t 8) 0), 4, [], [], [], []⟩,
    ⟨(some 13), none, (.ext (.t 8) 1), 5, [], [], [], []⟩,
    ⟨(some 6), none, (.new 25 (.agg [(.isl (some true) true []), (.isl (some true) true []), (.int .i64 0)])), 6, [], [], [], []⟩,
    ⟨(some 7), none, (.new 32 (.agg [(.int .i64 0), (.int .i64 0), (.isl (some true) true [])])), 7, [], [], [], []⟩,
    ⟨none, none, (.st (.t 6) 3 (.t 12)), 8, [], [], [], []⟩,
    ⟨none, none, (.st (.t 7) 3 (.t 13)), 9, [], [], [], []⟩])
  (.seq
   (.rgn 5 [
    ⟨(some 14), none, (.ld (.t 6) 3 true), 0, [], [], [], []⟩,
    ⟨(some 15), none, (.fa (.t 7) 0), 1, [], [], [], []⟩,
    ⟨(some 16), none, (.ld (.t 15) 1 false), 2, [3], [], [7], []⟩,
    ⟨none, none, (.st (.t 4) 3 (.t 14)), 3, [], [7], [], []⟩,
    ⟨(some 5), none, (.mov (.t 16)), 4, [], [], [], []⟩])
  .ret)))
def r10 : List ARes := [(.cell 4 3 true), (.tmp 5)]
theorem k10 : compCode Try.prog 17 (ngOf []) (Try.f10.body.getD .skip) = some a10 := by kernel_rfl
theorem e10 {vs : List AV} {h : Hp} {n : Nat} {K : AV → Hp → Nat → Prop} (hl : vs.length ≤ 17) (hw : wpA Try.prog a10 (retA r10 K) ⟨argS vs, h, n⟩) : CallsA Try.prog 10 vs h n K :=
  fn_sound (fn := Try.f10) (c := Try.f10.body.getD .skip) mo (by kernel_rfl) (by kernel_rfl) (by kernel_rfl) k10 (by kernel_rfl) hl hw
def a11 : ACode :=
  (.seq
   (.rgn 4 [
    ⟨(some 2), none, (.box 25 (.t 0)), 0, [], [], [], []⟩,
    ⟨(some 3), none, (.box 28 (.t 1)), 1, [], [], [], []⟩,
    ⟨(some 4), none, (.new 25 (.agg [(.isl (some true) true []), (.isl (some true) true []), (.int .i64 0)])), 2, [], [], [], []⟩,
    ⟨(some 5), none, (.new 32 (.agg [(.int .i64 0), (.int .i64 0), (.isl (some true) true [])])), 3, [], [], [], []⟩])
  (.seq
   (.seq
    (.rgn 2 [
     ⟨(some 8), none, (.ld (.t 3) 8 true), 0, [], [], [], []⟩,
     ⟨(some 9), none, (.callS 25 [(.t 8)] true), 1, [], [], [], []⟩])
   (.cond (.t 9)
     (.seq
      (.rgn 5 [
       ⟨(some 10), none, (.ld (.t 2) 3 true), 0, [], [], [], []⟩,
       ⟨(some 11), none, (.callS 26 [(.t 10)] true), 1, [], [], [], []⟩,
       ⟨(some 12), none, (.build [(.int .i64 0), (.int .i64 0), (.isl (some true) true [])] [(0, (1, (.c (.int .i64 4))))]), 2, [], [], [], []⟩,
       ⟨none, none, (.st (.t 4) 3 (.t 11)), 3, [], [], [], []⟩,
       ⟨none, none, (.st (.t 5) 3 (.t 12)), 4, [], [], [], []⟩])
     .ret)
     .skip))
  (.seq
   (.rgn 4 [
    ⟨(some 13), none, (.ld (.t 2) 3 true), 0, [], [], [], []⟩,
    ⟨(some 14), none, (.callS 26 [(.t 13)] true), 1, [], [], [], []⟩,
    ⟨(some 6), none, (.new 25 (.agg [(.isl (some true) true []), (.isl (some true) true []), (.int .i64 0)])), 2, [], [], [], []⟩,
    ⟨none, none, (.st (.t 6) 3 (.t 14)), 3, [], [], [], []⟩])
  (.seq
   (.rgn 1 [
    ⟨(some 7), none, (.new 32 (.agg [(.int .i64 0), (.int .i64 0), (.isl (some true) true [])])), 0, [], [], [], []⟩])
  (.seq
   (.seq
    (.rgn 8 [
     ⟨(some 15), none, (.fa (.t 3) 0), 0, [], [], [], []⟩,
     ⟨(some 16), none, (.ld (.t 15) 1 false), 1, [], [], [], []⟩,
     ⟨(some 17), none, (.bin .eql (.t 16) (.c (.int .i64 6))), 2, [], [], [], []⟩,
     ⟨(some 18), none, (.mov (.t 17)), 3, [], [], [], []⟩,
     ⟨(some 19), (some (18, false)), (.fa (.t 3) 0), 4, [], [], [], []⟩,
     ⟨(some 20), (some (18, false)), (.ld (.t 19) 1 false), 5, [], [], [], []⟩,
     ⟨(some 21), (some (18, false)), (.bin .eql (.t 20) (.c (.int .i64 7))), 6, [], [], [], []⟩,
     ⟨(some 22), none, (.pick (.t 18) (.c (.bool true)) (.t 21)), 7, [], [], [], []⟩])
   (.cond (.t 22)
     (.rgn 3 [
      ⟨(some 23), none, (.ld (.t 3) 8 true), 0, [], [], [], []⟩,
      ⟨(some 24), none, (.callS 27 [(.t 6), (.t 23)] false), 1, [], [], [], []⟩,
      ⟨none, none, (.st (.t 7) 3 (.t 24)), 2, [], [], [], []⟩])
     (.rgn 3 [
      ⟨(some 25), none, (.ld (.t 3) 8 true), 0, [], [], [], []⟩,
      ⟨(some 26), none, (.callS 28 [(.t 6), (.t 25)] false), 1, [], [], [], []⟩,
      ⟨none, none, (.st (.t 7) 3 (.t 26)), 2, [], [], [], []⟩])))
  (.seq
   (.seq
    (.rgn 3 [
     ⟨(some 27), none, (.fa (.t 7) 0), 0, [], [], [], []⟩,
     ⟨(some 28), none, (.ld (.t 27) 1 false), 1, [], [], [], []⟩,
     ⟨(some 29), none, (.bin .neq (.t 28) (.c (.int .i64 0))), 2, [], [], [], []⟩])
   (.cond (.t 29)
     (.seq
      (.rgn 5 [
       ⟨(some 30), none, (.ld (.t 2) 3 true), 0, [], [], [], []⟩,
       ⟨(some 32), none, (.ld (.t 7) 3 true), 2, [3], [], [7], []⟩,
       ⟨(some 31), none, (.callS 26 [(.t 30)] true), 1, [], [], [], []⟩,
       ⟨none, none, (.st (.t 4) 3 (.t 31)), 3, [], [7], [], []⟩,
       ⟨none, none, (.st (.t 5) 3 (.t 32)), 4, [], [], [], []⟩])
     .ret)
     .skip))
  (.seq
   (.rgn 4 [
    ⟨(some 33), none, (.ld (.t 6) 3 true), 0, [], [], [], []⟩,
    ⟨(some 34), none, (.ld (.t 7) 3 true), 1, [2], [], [7], []⟩,
    ⟨none, none, (.st (.t 4) 3 (.t 33)), 2, [], [7], [], []⟩,
    ⟨none, none, (.st (.t 5) 3 (.t 34)), 3, [], [], [], []⟩])
  .ret)))))))
def r11 : List ARes := [(.cell 4 3 true), (.cell 5 3 true)]
theorem k11 : compCode Try.prog 35 (ngOf [(6,1), (7,1)]) (Try.f11.body.getD .skip) = some a11 := by kernel_rfl
theorem e11 {vs : List AV} {h : Hp} {n : Nat} {K : AV → Hp → Nat → Prop} (hl : vs.length ≤ 35) (hw : wpA Try.prog a11 (retA r11 K) ⟨argS vs, h, n⟩) : CallsA Try.prog 11 vs h n K :=
  fn_sound (fn := Try.f11) (c := Try.f11.body.getD .skip) mo (by kernel_rfl) (by kernel_rfl) (by kernel_rfl) k11 (by kernel_rfl) hl hw
def a12 : ACode :=
  (.seq
   (.rgn 1 [
    ⟨(some 0), none, (.mov (.c (.bool false))), 0, [], [], [], []⟩])
  (.seq
   (.rgn 10 [
    ⟨(some 13), none, (.build [(.isl (some true) true []), (.isl (some true) true []), (.int .i64 0)] []), 0, [], [], [], []⟩,
    ⟨(some 14), none, (.build [(.int .i64 0), (.int .i64 0), (.int .i64 0), (.int .i64 0), (.int .u64 0), (.int .i64 0), (.int .i64 0), (.int .i64 0)] [(0, (1, (.c (.int .i64 1)))), (1, (1, (.c (.int .i64 3)))), (3, (1, (.c (.int .i64 5)))), (4, (1, (.c (.int .u64 7))))]), 1, [], [], [], []⟩,
    ⟨(some 15), none, (.callS 11 [(.t 13), (.t 14)] true), 2, [], [], [], []⟩,
    ⟨(some 12), none, (.mov (.t 15)), 3, [], [], [], []⟩,
    ⟨(some 16), none, (.ext (.t 12) 0), 4, [], [], [], []⟩,
    ⟨(some 17), none, (.ext (.t 12) 1), 5, [], [], [], []⟩,
    ⟨(some 1), none, (.new 25 (.agg [(.isl (some true) true []), (.isl (some true) true []), (.int .i64 0)])), 6, [], [], [], []⟩,
    ⟨(some 2), none, (.new 32 (.agg [(.int .i64 0), (.int .i64 0), (.isl (some true) true [])])), 7, [], [], [], []⟩,
    ⟨none, none, (.st (.t 1) 3 (.t 16)), 8, [], [], [], []⟩,
    ⟨none, none, (.st (.t 2) 3 (.t 17)), 9, [], [], [], []⟩])
  (.seq
   (.rgn 10 [
    ⟨(some 19), none, (.ld (.t 1) 3 true), 0, [], [], [], []⟩,
    ⟨(some 20), none, (.build [(.int .i64 0), (.int .i64 0), (.int .i64 0), (.int .i64 0), (.int .u64 0), (.int .i64 0), (.int .i64 0), (.int .i64 0)] [(0, (1, (.c (.int .i64 5)))), (1, (1, (.c (.int .i64 3)))), (5, (1, (.c (.int .i64 0)))), (6, (1, (.c (.int .i64 9))))]), 1, [], [], [], []⟩,
    ⟨(some 21), none, (.callS 11 [(.t 19), (.t 20)] true), 2, [], [], [], []⟩,
    ⟨(some 18), none, (.mov (.t 21)), 3, [], [], [], []⟩,
    ⟨(some 22), none, (.ext (.t 18) 0), 4, [], [], [], []⟩,
    ⟨(some 23), none, (.ext (.t 18) 1), 5, [], [], [], []⟩,
    ⟨(some 3), none, (.new 25 (.agg [(.isl (some true) true []), (.isl (some true) true []), (.int .i64 0)])), 6, [], [], [], []⟩,
    ⟨(some 4), none, (.new 32 (.agg [(.int .i64 0), (.int .i64 0), (.isl (some true) true [])])), 7, [], [], [], []⟩,
    ⟨none, none, (.st (.t 3) 3 (.t 22)), 8, [], [], [], []⟩,
    ⟨none, none, (.st (.t 4) 3 (.t 23)), 9, [], [], [], []⟩])
  (.seq
   (.rgn 9 [
    ⟨(some 25), none, (.ld (.t 3) 3 true), 0, [], [], [], []⟩,
    ⟨(some 26), none, (.build [(.int .i64 0), (.int .i64 0), (.int .i64 0), (.int .i64 0), (.int .u64 0), (.int .i64 0), (.int .i64 0), (.int .i64 0)] [(0, (1, (.c (.int .i64 4)))), (1, (1, (.c (.int .i64 3))))]), 1, [], [], [], []⟩,
    ⟨(some 27), none, (.callS 11 [(.t 25), (.t 26)] true), 2, [], [], [], []⟩,
    ⟨(some 24), none, (.mov (.t 27)), 3, [], [], [], []⟩,
    ⟨(some 28), none, (.ext (.t 24) 0), 4, [], [], [], []⟩,
    ⟨(some 29), none, (.ext (.t 24) 1), 5, [], [], [], []⟩,
    ⟨(some 5), none, (.new 32 (.agg [(.int .i64 0), (.int .i64 0), (.isl (some true) true [])])), 6, [], [], [], []⟩,
    ⟨none, none, (.st (.t 3) 3 (.t 28)), 7, [], [], [], []⟩,
    ⟨none, none, (.st (.t 5) 3 (.t 29)), 8, [], [], [], []⟩])
  (.seq
   (.rgn 10 [
    ⟨(some 31), none, (.ld (.t 3) 3 true), 0, [], [], [], []⟩,
    ⟨(some 32), none, (.build [(.int .i64 0), (.int .i64 0), (.int .i64 0), (.int .i64 0), (.int .u64 0), (.int .i64 0), (.int .i64 0), (.int .i64 0)] [(0, (1, (.c (.int .i64 6)))), (2, (1, (.c (.int .i64 1)))), (7, (1, (.c (.int .i64 5))))]), 1, [], [], [], []⟩,
    ⟨(some 33), none, (.callS 11 [(.t 31), (.t 32)] true), 2, [], [], [], []⟩,
    ⟨(some 30), none, (.mov (.t 33)), 3, [], [], [], []⟩,
    ⟨(some 34), none, (.ext (.t 30) 0), 4, [], [], [], []⟩,
    ⟨(some 35), none, (.ext (.t 30) 1), 5, [], [], [], []⟩,
    ⟨(some 6), none, (.new 25 (.agg [(.isl (some true) true []), (.isl (some true) true []), (.int .i64 0)])), 6, [], [], [], []⟩,
    ⟨(some 7), none, (.new 32 (.agg [(.int .i64 0), (.int .i64 0), (.isl (some true) true [])])), 7, [], [], [], []⟩,
    ⟨none, none, (.st (.t 6) 3 (.t 34)), 8, [], [], [], []⟩,
    ⟨none, none, (.st (.t 7) 3 (.t 35)), 9, [], [], [], []⟩])
  (.seq
   (.rgn 10 [
    ⟨(some 37), none, (.ld (.t 1) 3 true), 0, [], [], [], []⟩,
    ⟨(some 38), none, (.build [(.int .i64 0), (.int .i64 0), (.int .i64 0), (.int .i64 0), (.int .u64 0), (.int .i64 0), (.int .i64 0), (.int .i64 0)] [(0, (1, (.c (.int .i64 1)))), (1, (1, (.c (.int .i64 3)))), (3, (1, (.c (.int .i64 5))))]), 1, [], [], [], []⟩,
    ⟨(some 39), none, (.callS 11 [(.t 37), (.t 38)] true), 2, [], [], [], []⟩,
    ⟨(some 36), none, (.mov (.t 39)), 3, [], [], [], []⟩,
    ⟨(some 40), none, (.ext (.t 36) 0), 4, [], [], [], []⟩,
    ⟨(some 41), none, (.ext (.t 36) 1), 5, [], [], [], []⟩,
    ⟨(some 8), none, (.new 25 (.agg [(.isl (some true) true []), (.isl (some true) true []), (.int .i64 0)])), 6, [], [], [], []⟩,
    ⟨(some 9), none, (.new 32 (.agg [(.int .i64 0), (.int .i64 0), (.isl (some true) true [])])), 7, [], [], [], []⟩,
    ⟨none, none, (.st (.t 8) 3 (.t 40)), 8, [], [], [], []⟩,
    ⟨none, none, (.st (.t 9) 3 (.t 41)), 9, [], [], [], []⟩])
  (.seq
   (.rgn 10 [
    ⟨(some 43), none, (.ld (.t 1) 3 true), 0, [], [], [], []⟩,
    ⟨(some 44), none, (.build [(.int .i64 0), (.int .i64 0), (.int .i64 0), (.int .i64 0), (.int .u64 0), (.int .i64 0), (.int .i64 0), (.int .i64 0)] [(0, (1, (.c (.int .i64 2)))), (1, (1, (.c (.int .i64 16))))]), 1, [], [], [], []⟩,
    ⟨(some 45), none, (.callS 11 [(.t 43), (.t 44)] true), 2, [], [], [], []⟩,
    ⟨(some 42), none, (.mov (.t 45)), 3, [], [], [], []⟩,
    ⟨(some 46), none, (.ext (.t 42) 0), 4, [], [], [], []⟩,
    ⟨(some 47), none, (.ext (.t 42) 1), 5, [], [], [], []⟩,
    ⟨(some 10), none, (.new 25 (.agg [(.isl (some true) true []), (.isl (some true) true []), (.int .i64 0)])), 6, [], [], [], []⟩,
    ⟨(some 11), none, (.new 32 (.agg [(.int .i64 0), (.int .i64 0), (.isl (some true) true [])])), 7, [], [], [], []⟩,
    ⟨none, none, (.st (.t 10) 3 (.t 46)), 8, [], [], [], []⟩,
    ⟨none, none, (.st (.t 11) 3 (.t 47)), 9, [], [], [], []⟩])
  (.seq
   (.rgn 66 [
    ⟨(some 48), none, (.fa (.t 2) 0), 0, [], [], [], []⟩,
    ⟨(some 49), none, (.ld (.t 48) 1 false), 1, [], [], [], []⟩,
    ⟨(some 50), none, (.bin .eql (.t 49) (.c (.int .i64 0))), 2, [], [], [], []⟩,
    ⟨(some 51), none, (.mov (.t 50)), 3, [], [], [], []⟩,
    ⟨(some 52), (some (51, true)), (.fa (.t 4) 1), 4, [], [], [], []⟩,
    ⟨(some 53), (some (51, true)), (.ld (.t 52) 1 false), 5, [], [], [], []⟩,
    ⟨(some 54), (some (51, true)), (.bin .eql (.t 53) (.c (.int .i64 1))), 6, [], [], [], []⟩,
    ⟨(some 55), none, (.pick (.t 51) (.t 54) (.c (.bool false))), 7, [], [], [], []⟩,
    ⟨(some 56), none, (.mov (.t 55)), 8, [], [], [], []⟩,
    ⟨(some 57), (some (56, true)), (.fa (.t 5) 0), 9, [], [], [], []⟩,
    ⟨(some 58), (some (56, true)), (.ld (.t 57) 1 false), 10, [], [], [], []⟩,
    ⟨(some 59), (some (56, true)), (.bin .eql (.t 58) (.c (.int .i64 0))), 11, [], [], [], []⟩,
    ⟨(some 60), none, (.pick (.t 56) (.t 59) (.c (.bool false))), 12, [], [], [], []⟩,
    ⟨(some 61), none, (.mov (.t 60)), 13, [], [], [], []⟩,
    ⟨(some 62), (some (61, true)), (.fa (.t 3) 0), 14, [], [], [], []⟩,
    ⟨(some 63), (some (61, true)), (.ld (.t 62) 1 false), 15, [], [], [], []⟩,
    ⟨(some 64), (some (61, true)), (.len (.t 63)), 16, [], [], [], []⟩,
    ⟨(some 65), (some (61, true)), (.bin .eql (.t 64) (.c (.int .i64 0))), 17, [], [], [], []⟩,
    ⟨(some 66), none, (.pick (.t 61) (.t 65) (.c (.bool false))), 18, [], [], [], []⟩,
    ⟨(some 67), none, (.mov (.t 66)), 19, [], [], [], []⟩,
    ⟨(some 68), (some (67, true)), (.fa (.t 7) 2), 20, [], [], [], []⟩,
    ⟨(some 69), (some (67, true)), (.ld (.t 68) 1 false), 21, [], [], [], []⟩,
    ⟨(some 70), (some (67, true)), (.len (.t 69)), 22, [], [], [], []⟩,
    ⟨(some 71), (some (67, true)), (.bin .eql (.t 70) (.c (.int .i64 1))), 23, [], [], [], []⟩,
    ⟨(some 72), none, (.pick (.t 67) (.t 71) (.c (.bool false))), 24, [], [], [], []⟩,
    ⟨(some 73), none, (.mov (.t 72)), 25, [], [], [], []⟩,
    ⟨(some 74), (some (73, true)), (.fa (.t 7) 2), 26, [], [], [], []⟩,
    ⟨(some 75), (some (73, true)), (.ld (.t 74) 1 false), 27, [], [], [], []⟩,
    ⟨(some 76), (some (73, true)), (.ia 2 (.t 75) (.c (.int .i64 0))), 28, [], [], [], []⟩,
    ⟨(some 77), (some (73, true)), (.fa (.t 76) 1), 29, [], [], [], []⟩,
    ⟨(some 78), (some (73, true)), (.ld (.t 77) 1 false), 30, [], [], [], []⟩,
    ⟨(some 79), (some (73, true)), (.bin .eql (.t 78) (.c (.int .u64 7))), 31, [], [], [], []⟩,
    ⟨(some 80), none, (.pick (.t 73) (.t 79) (.c (.bool false))), 32, [], [], [], []⟩,
    ⟨(some 81), none, (.mov (.t 80)), 33, [], [], [], []⟩,
    ⟨(some 82), (some (81, true)), (.fa (.t 9) 0), 34, [], [], [], []⟩,
    ⟨(some 83), (some (81, true)), (.ld (.t 82) 1 false), 35, [], [], [], []⟩,
    ⟨(some 84), (some (81, true)), (.bin .eql (.t 83) (.c (.int .i64 1))), 36, [], [], [], []⟩,
    ⟨(some 85), none, (.pick (.t 81) (.t 84) (.c (.bool false))), 37, [], [], [], []⟩,
    ⟨(some 86), none, (.mov (.t 85)), 38, [], [], [], []⟩,
    ⟨(some 87), (some (86, true)), (.fa (.t 11) 0), 39, [], [], [], []⟩,
    ⟨(some 88), (some (86, true)), (.ld (.t 87) 1 false), 40, [], [], [], []⟩,
    ⟨(some 89), (some (86, true)), (.bin .eql (.t 88) (.c (.int .i64 4))), 41, [], [], [], []⟩,
    ⟨(some 90), none, (.pick (.t 86) (.t 89) (.c (.bool false))), 42, [], [], [], []⟩,
    ⟨(some 91), none, (.mov (.t 90)), 43, [], [], [], []⟩,
    ⟨(some 92), (some (91, true)), (.ld (.t 1) 3 true), 44, [], [], [], []⟩,
    ⟨(some 93), (some (91, true)), (.ld (.t 1) 3 true), 45, [], [], [], []⟩,
    ⟨(some 94), (some (91, true)), (.callS 17 [(.t 92), (.t 93)] true), 46, [], [], [], []⟩,
    ⟨(some 95), none, (.pick (.t 91) (.t 94) (.c (.bool false))), 47, [], [], [], []⟩,
    ⟨(some 96), none, (.mov (.t 95)), 48, [], [], [], []⟩,
    ⟨(some 97), (some (96, true)), (.ld (.t 1) 3 true), 49, [], [], [], []⟩,
    ⟨(some 98), (some (96, true)), (.ld (.t 3) 3 true), 50, [], [], [], []⟩,
    ⟨(some 99), (some (96, true)), (.callS 17 [(.t 97), (.t 98)] true), 51, [], [], [], []⟩,
    ⟨(some 100), (some (96, true)), (.un .not (.t 99)), 52, [], [], [], []⟩,
    ⟨(some 101), none, (.pick (.t 96) (.t 100) (.c (.bool false))), 53, [], [], [], []⟩,
    ⟨(some 102), none, (.mov (.t 101)), 54, [], [], [], []⟩,
    ⟨(some 103), (some (102, true)), (.ld (.t 2) 3 true), 55, [], [], [], []⟩,
    ⟨(some 104), (some (102, true)), (.ld (.t 5) 3 true), 56, [], [], [], []⟩,
    ⟨(some 105), (some (102, true)), (.callS 18 [(.t 103), (.t 104)] true), 57, [], [], [], []⟩,
    ⟨(some 106), none, (.pick (.t 102) (.t 105) (.c (.bool false))), 58, [], [], [], []⟩,
    ⟨(some 107), none, (.mov (.t 106)), 59, [], [], [], []⟩,
    ⟨(some 108), (some (107, true)), (.ld (.t 2) 3 true), 60, [], [], [], []⟩,
    ⟨(some 109), (some (107, true)), (.ld (.t 4) 3 true), 61, [], [], [], []⟩,
    ⟨(some 110), (some (107, true)), (.callS 18 [(.t 108), (.t 109)] true), 62, [], [], [], []⟩,
    ⟨(some 111), (some (107, true)), (.un .not (.t 110)), 63, [], [], [], []⟩,
    ⟨(some 112), none, (.pick (.t 107) (.t 111) (.c (.bool false))), 64, [], [], [], []⟩,
    ⟨(some 0), none, (.mov (.t 112)), 65, [], [], [], []⟩])
  .ret))))))))
def r12 : List ARes := [(.tmp 0)]
theorem k12 : compCode Try.prog 113 (ngOf []) (Try.f12.body.getD .skip) = some a12 := by kernel_rfl
theorem e12 {vs : List AV} {h : Hp} {n : Nat} {K : AV → Hp → Nat → Prop} (hl : vs.length ≤ 113) (hw : wpA Try.prog a12 (retA r12 K) ⟨argS vs, h, n⟩) : CallsA Try.prog 12 vs h n K :=
  fn_sound (fn := Try.f12) (c := Try.f12.body.getD .skip) mo (by kernel_rfl) (by kernel_rfl) (by kernel_rfl) k12 (by kernel_rfl) hl hw
def a13 : ACode :=
  (.seq
   (.rgn 1 [
    ⟨(some 4), none, (.new 28 (.agg [(.int .i64 0), (.int .i64 0), (.int .i64 0), (.int .i64 0), (.int .u64 0), (.int .i64 0), (.int .i64 0), (.int .i64 0)])), 0, [], [], [], []⟩])
  (.seq
   (.rgn 32 [
    ⟨(some 7), none, (.mov (.t 0)), 0, [], [], [], []⟩,
    ⟨(some 8), none, (.bin .shr (.t 7) (.c (.int .u64 6))), 1, [], [], [], []⟩,
    ⟨(some 9), none, (.bin .and (.t 8) (.c (.int .i64 3))), 2, [], [], [], []⟩,
    ⟨(some 10), none, (.mov (.t 0)), 3, [], [], [], []⟩,
    ⟨(some 11), none, (.bin .shr (.t 10) (.c (.int .u64 8))), 4, [], [], [], []⟩,
    ⟨(some 12), none, (.bin .and (.t 11) (.c (.int .i64 7))), 5, [], [], [], []⟩,
    ⟨(some 13), none, (.mov (.t 1)), 6, [], [], [], []⟩,
    ⟨(some 14), none, (.mov (.t 0)), 7, [], [], [], []⟩,
    ⟨(some 15), none, (.bin .shr (.t 14) (.c (.int .u64 11))), 8, [], [], [], []⟩,
    ⟨(some 16), none, (.bin .and (.t 15) (.c (.int .i64 3))), 9, [], [], [], []⟩,
    ⟨(some 17), none, (.bin .add (.t 13) (.t 16)), 10, [], [], [], []⟩,
    ⟨(some 18), none, (.mov (.t 0)), 11, [], [], [], []⟩,
    ⟨(some 19), none, (.bin .shr (.t 18) (.c (.int .u64 13))), 12, [], [], [], []⟩,
    ⟨(some 20), none, (.bin .and (.t 19) (.c (.int .i64 255))), 13, [], [], [], []⟩,
    ⟨(some 21), none, (.cvt .u64 (.t 20)), 14, [], [], [], []⟩,
    ⟨(some 22), none, (.mov (.t 1)), 15, [], [], [], []⟩,
    ⟨(some 23), none, (.mov (.t 0)), 16, [], [], [], []⟩,
    ⟨(some 24), none, (.bin .shr (.t 23) (.c (.int .u64 13))), 17, [], [], [], []⟩,
    ⟨(some 25), none, (.bin .and (.t 24) (.c (.int .i64 63))), 18, [], [], [], []⟩,
    ⟨(some 26), none, (.bin .sub (.t 22) (.t 25)), 19, [], [], [], []⟩,
    ⟨(some 27), none, (.mov (.t 1)), 20, [], [], [], []⟩,
    ⟨(some 28), none, (.mov (.t 0)), 21, [], [], [], []⟩,
    ⟨(some 29), none, (.bin .shr (.t 28) (.c (.int .u64 19))), 22, [], [], [], []⟩,
    ⟨(some 30), none, (.bin .and (.t 29) (.c (.int .i64 15))), 23, [], [], [], []⟩,
    ⟨(some 31), none, (.bin .add (.t 27) (.t 30)), 24, [], [], [], []⟩,
    ⟨(some 32), none, (.bin .sub (.t 31) (.c (.int .i64 4))), 25, [], [], [], []⟩,
    ⟨(some 33), none, (.mov (.t 0)), 26, [], [], [], []⟩,
    ⟨(some 34), none, (.bin .shr (.t 33) (.c (.int .u64 23))), 27, [], [], [], []⟩,
    ⟨(some 35), none, (.bin .and (.t 34) (.c (.int .i64 15))), 28, [], [], [], []⟩,
    ⟨(some 36), none, (.build [(.int .i64 0), (.int .i64 0), (.int .i64 0), (.int .i64 0), (.int .u64 0), (.int .i64 0), (.int .i64 0), (.int .i64 0)] [(1, (1, (.t 9))), (2, (1, (.t 12))), (3, (1, (.t 17))), (4, (1, (.t 21))), (5, (1, (.t 26))), (6, (1, (.t 32))), (7, (1, (.t 35)))]), 29, [], [], [], []⟩,
    ⟨(some 5), none, (.new 28 (.agg [(.int .i64 0), (.int .i64 0), (.int .i64 0), (.int .i64 0), (.int .u64 0), (.int .i64 0), (.int .i64 0), (.int .i64 0)])), 30, [], [], [], []⟩,
    ⟨none, none, (.st (.t 5) 8 (.t 36)), 31, [], [], [], []⟩])
  (.seq
   (.rgn 3 [
    ⟨(some 37), none, (.mov (.t 0)), 0, [], [], [], []⟩,
    ⟨(some 38), none, (.bin .and (.t 37) (.c (.int .i64 63))), 1, [], [], [], []⟩,
    ⟨(some 6), none, (.mov (.t 38)), 2, [], [], [], []⟩])
  (.seq
   (.block 0
    (.seq
     (.rgn 3 [
      ⟨(some 49), none, (.mov (.t 6)), 0, [], [], [], []⟩,
      ⟨(some 50), none, (.bin .lss (.t 49) (.c (.int .i64 34))), 1, [], [], [], []⟩,
      ⟨(some 48), none, (.mov (.t 50)), 2, [], [], [], []⟩])
    (.cond (.t 48)
      (.seq
       (.rgn 2 [
        ⟨(some 51), none, (.fa (.t 5) 0), 0, [], [], [], []⟩,
        ⟨none, none, (.st (.t 51) 1 (.c (.int .i64 1))), 1, [], [], [], []⟩])
      (.seq
       (.rgn 4 [
        ⟨(some 52), none, (.mov (.t 0)), 0, [], [], [], []⟩,
        ⟨(some 53), none, (.bin .shr (.t 52) (.c (.int .u64 21))), 1, [], [], [], []⟩,
        ⟨(some 54), none, (.bin .and (.t 53) (.c (.int .i64 7))), 2, [], [], [], []⟩,
        ⟨(some 55), none, (.bin .eql (.t 54) (.c (.int .i64 0))), 3, [], [], [], []⟩])
      (.cond (.t 55)
        (.rgn 5 [
         ⟨(some 56), none, (.mov (.t 0)), 0, [], [], [], []⟩,
         ⟨(some 57), none, (.cvt .u64 (.t 56)), 1, [], [], [], []⟩,
         ⟨(some 58), none, (.bin .mul (.t 57) (.c (.int .u64 11400714819323198485))), 2, [], [], [], []⟩,
         ⟨(some 59), none, (.fa (.t 5) 4), 3, [], [], [], []⟩,
         ⟨none, none, (.st (.t 59) 1 (.t 58)), 4, [], [], [], []⟩])
        .skip)))
      (.seq
       (.rgn 3 [
        ⟨(some 61), none, (.mov (.t 6)), 0, [], [], [], []⟩,
        ⟨(some 62), none, (.bin .lss (.t 61) (.c (.int .i64 44))), 1, [], [], [], []⟩,
        ⟨(some 60), none, (.mov (.t 62)), 2, [], [], [], []⟩])
      (.cond (.t 60)
        (.rgn 2 [
         ⟨(some 63), none, (.fa (.t 5) 0), 0, [], [], [], []⟩,
         ⟨none, none, (.st (.t 63) 1 (.c (.int .i64 2))), 1, [], [], [], []⟩])
        (.seq
         (.rgn 3 [
          ⟨(some 65), none, (.mov (.t 6)), 0, [], [], [], []⟩,
          ⟨(some 66), none, (.bin .lss (.t 65) (.c (.int .i64 46))), 1, [], [], [], []⟩,
          ⟨(some 64), none, (.mov (.t 66)), 2, [], [], [], []⟩])
        (.cond (.t 64)
          (.seq
           (.rgn 2 [
            ⟨(some 67), none, (.fa (.t 5) 0), 0, [], [], [], []⟩,
            ⟨none, none, (.st (.t 67) 1 (.c (.int .i64 3))), 1, [], [], [], []⟩])
          (.seq
           (.rgn 4 [
            ⟨(some 68), none, (.mov (.t 0)), 0, [], [], [], []⟩,
            ⟨(some 69), none, (.bin .shr (.t 68) (.c (.int .u64 23))), 1, [], [], [], []⟩,
            ⟨(some 70), none, (.bin .and (.t 69) (.c (.int .i64 3))), 2, [], [], [], []⟩,
            ⟨(some 71), none, (.bin .gtr (.t 70) (.c (.int .i64 0))), 3, [], [], [], []⟩])
          (.cond (.t 71)
            (.rgn 2 [
             ⟨(some 72), none, (.fa (.t 5) 0), 0, [], [], [], []⟩,
             ⟨none, none, (.st (.t 72) 1 (.c (.int .i64 2))), 1, [], [], [], []⟩])
            .skip)))
          (.seq
           (.rgn 3 [
            ⟨(some 74), none, (.mov (.t 6)), 0, [], [], [], []⟩,
            ⟨(some 75), none, (.bin .lss (.t 74) (.c (.int .i64 48))), 1, [], [], [], []⟩,
            ⟨(some 73), none, (.mov (.t 75)), 2, [], [], [], []⟩])
          (.cond (.t 73)
            (.seq
             (.rgn 2 [
              ⟨(some 76), none, (.fa (.t 5) 0), 0, [], [], [], []⟩,
              ⟨none, none, (.st (.t 76) 1 (.c (.int .i64 4))), 1, [], [], [], []⟩])
            (.seq
             (.rgn 4 [
              ⟨(some 77), none, (.mov (.t 0)), 0, [], [], [], []⟩,
              ⟨(some 78), none, (.bin .shr (.t 77) (.c (.int .u64 23))), 1, [], [], [], []⟩,
              ⟨(some 79), none, (.bin .and (.t 78) (.c (.int .i64 3))), 2, [], [], [], []⟩,
              ⟨(some 80), none, (.bin .gtr (.t 79) (.c (.int .i64 0))), 3, [], [], [], []⟩])
            (.cond (.t 80)
              (.rgn 2 [
               ⟨(some 81), none, (.fa (.t 5) 0), 0, [], [], [], []⟩,
               ⟨none, none, (.st (.t 81) 1 (.c (.int .i64 1))), 1, [], [], [], []⟩])
              .skip)))
            (.seq
             (.rgn 3 [
              ⟨(some 83), none, (.mov (.t 6)), 0, [], [], [], []⟩,
              ⟨(some 84), none, (.bin .lss (.t 83) (.c (.int .i64 53))), 1, [], [], [], []⟩,
              ⟨(some 82), none, (.mov (.t 84)), 2, [], [], [], []⟩])
            (.cond (.t 82)
              (.rgn 2 [
               ⟨(some 85), none, (.fa (.t 5) 0), 0, [], [], [], []⟩,
               ⟨none, none, (.st (.t 85) 1 (.c (.int .i64 5))), 1, [], [], [], []⟩])
              (.seq
               (.rgn 3 [
                ⟨(some 87), none, (.mov (.t 6)), 0, [], [], [], []⟩,
                ⟨(some 88), none, (.bin .lss (.t 87) (.c (.int .i64 60))), 1, [], [], [], []⟩,
                ⟨(some 86), none, (.mov (.t 88)), 2, [], [], [], []⟩])
              (.cond (.t 86)
                (.rgn 2 [
                 ⟨(some 89), none, (.fa (.t 5) 0), 0, [], [], [], []⟩,
                 ⟨none, none, (.st (.t 89) 1 (.c (.int .i64 6))), 1, [], [], [], []⟩])
                (.seq
                 (.rgn 3 [
                  ⟨(some 91), none, (.mov (.t 6)), 0, [], [], [], []⟩,
                  ⟨(some 92), none, (.bin .lss (.t 91) (.c (.int .i64 62))), 1, [], [], [], []⟩,
                  ⟨(some 90), none, (.mov (.t 92)), 2, [], [], [], []⟩])
                (.cond (.t 90)
                  (.rgn 2 [
                   ⟨(some 93), none, (.fa (.t 5) 0), 0, [], [], [], []⟩,
                   ⟨none, none, (.st (.t 93) 1 (.c (.int .i64 7))), 1, [], [], [], []⟩])
                  (.seq
                   (.rgn 5 [
                    ⟨(some 39), none, (.mov (.t 0)), 0, [], [], [], []⟩,
                    ⟨(some 40), none, (.bin .shr (.t 39) (.c (.int .u64 6))), 1, [], [], [], []⟩,
                    ⟨(some 41), none, (.bin .and (.t 40) (.c (.int .i64 15))), 2, [], [], [], []⟩,
                    ⟨(some 42), none, (.fa (.t 5) 0), 3, [], [], [], []⟩,
                    ⟨none, none, (.st (.t 42) 1 (.t 41)), 4, [], [], [], []⟩])
                  (.rgn 6 [
                   ⟨(some 43), none, (.mov (.t 0)), 0, [], [], [], []⟩,
                   ⟨(some 44), none, (.bin .shr (.t 43) (.c (.int .u64 10))), 1, [], [], [], []⟩,
                   ⟨(some 45), none, (.bin .and (.t 44) (.c (.int .i64 31))), 2, [], [], [], []⟩,
                   ⟨(some 46), none, (.bin .sub (.t 45) (.c (.int .i64 5))), 3, [], [], [], []⟩,
                   ⟨(some 47), none, (.fa (.t 5) 1), 4, [], [], [], []⟩,
                   ⟨none, none, (.st (.t 47) 1 (.t 46)), 5, [], [], [], []⟩])))))))))))))))))
  (.seq
   (.rgn 2 [
    ⟨(some 94), none, (.ld (.t 5) 8 true), 0, [], [], [], []⟩,
    ⟨none, none, (.st (.t 4) 8 (.t 94)), 1, [], [], [], []⟩])
  .ret)))))
def r13 : List ARes := [(.cell 4 8 true)]
theorem k13 : compCode Try.prog 95 (ngOf []) (Try.f13.body.getD .skip) = some a13 := by kernel_rfl
theorem e13 {vs : List AV} {h : Hp} {n : Nat} {K : AV → Hp → Nat → Prop} (hl : vs.length ≤ 95) (hw : wpA Try.prog a13 (retA r13 K) ⟨argS vs, h, n⟩) : CallsA Try.prog 13 vs h n K :=
  fn_sound (fn := Try.f13) (c := Try.f13.body.getD .skip) mo (by kernel_rfl) (by kernel_rfl) (by kernel_rfl) k13 (by kernel_rfl) hl hw
def a14 : ACode :=
  (.seq
   (.rgn 4 [
    ⟨(some 2), none, (.box 25 (.t 0)), 0, [], [], [], []⟩,
    ⟨(some 3), none, (.box 28 (.t 1)), 1, [], [], [], []⟩,
    ⟨(some 4), none, (.new 25 (.agg [(.isl (some true) true []), (.isl (some true) true []), (.int .i64 0)])), 2, [], [], [], []⟩,
    ⟨(some 5), none, (.new 32 (.agg [(.int .i64 0), (.int .i64 0), (.isl (some true) true [])])), 3, [], [], [], []⟩])
  (.seq
   (.rgn 3 [
    ⟨(some 13), none, (.ld (.t 2) 3 true), 0, [], [], [], []⟩,
    ⟨(some 14), none, (.callS 29 [(.t 13)] true), 1, [], [], [], []⟩,
    ⟨none, none, (.st (.t 2) 3 (.t 14)), 2, [], [], [], []⟩])
  (.seq
   (.rgn 5 [
    ⟨(some 15), none, (.ld (.t 2) 3 true), 0, [], [], [], []⟩,
    ⟨(some 16), none, (.fa (.t 3) 1), 1, [], [], [], []⟩,
    ⟨(some 17), none, (.ld (.t 16) 1 false), 2, [], [], [], []⟩,
    ⟨(some 18), none, (.callS 30 [(.t 15), (.t 17)] true), 3, [], [], [], []⟩,
    ⟨(some 6), none, (.mov (.t 18)), 4, [], [], [], []⟩])
  (.seq
   (.rgn 9 [
    ⟨(some 19), none, (.fa (.t 3) 1), 0, [], [], [], []⟩,
    ⟨(some 20), none, (.ld (.t 19) 1 false), 1, [], [], [], []⟩,
    ⟨(some 21), none, (.bin .geq (.t 20) (.c (.int .i64 0))), 2, [], [], [], []⟩,
    ⟨(some 22), none, (.mov (.t 21)), 3, [], [], [], []⟩,
    ⟨(some 23), (some (22, true)), (.fa (.t 3) 1), 4, [], [], [], []⟩,
    ⟨(some 24), (some (22, true)), (.ld (.t 23) 1 false), 5, [], [], [], []⟩,
    ⟨(some 25), (some (22, true)), (.bin .leq (.t 24) (.c (.int .i64 15))), 6, [], [], [], []⟩,
    ⟨(some 26), none, (.pick (.t 22) (.t 25) (.c (.bool false))), 7, [], [], [], []⟩,
    ⟨(some 7), none, (.mov (.t 26)), 8, [], [], [], []⟩])
  (.seq
   (.seq
    (.rgn 2 [
     ⟨(some 27), none, (.fa (.t 3) 0), 0, [], [], [], []⟩,
     ⟨(some 28), none, (.ld (.t 27) 1 false), 1, [], [], [], []⟩])
   (.block 0
    (.seq
     (.seq
      (.rgn 2 [
       ⟨(some 32), none, (.bin .eql (.t 28) (.c (.int .i64 1))), 0, [], [], [], []⟩,
       ⟨(some 31), none, (.mov (.t 32)), 1, [], [], [], []⟩])
     (.cond (.t 31)
       .skip
       (.seq
        (.rgn 2 [
         ⟨(some 33), none, (.bin .eql (.t 28) (.c (.int .i64 2))), 0, [], [], [], []⟩,
         ⟨(some 31), none, (.mov (.t 33)), 1, [], [], [], []⟩])
       (.cond (.t 31)
         .skip
         (.seq
          (.rgn 2 [
           ⟨(some 34), none, (.bin .eql (.t 28) (.c (.int .i64 3))), 0, [], [], [], []⟩,
           ⟨(some 31), none, (.mov (.t 34)), 1, [], [], [], []⟩])
         (.cond (.t 31)
           .skip
           (.seq
            (.rgn 2 [
             ⟨(some 35), none, (.bin .eql (.t 28) (.c (.int .i64 4))), 0, [], [], [], []⟩,
             ⟨(some 31), none, (.mov (.t 35)), 1, [], [], [], []⟩])
           (.cond (.t 31)
             .skip
             (.rgn 2 [
              ⟨(some 36), none, (.bin .eql (.t 28) (.c (.int .i64 5))), 0, [], [], [], []⟩,
              ⟨(some 31), none, (.mov (.t 36)), 1, [], [], [], []⟩])))))))))
    (.cond (.t 31)
      (.seq
       (.seq
        (.rgn 2 [
         ⟨(some 37), none, (.mov (.t 7)), 0, [], [], [], []⟩,
         ⟨(some 38), none, (.un .not (.t 37)), 1, [], [], [], []⟩])
       (.cond (.t 38)
         (.seq
          (.rgn 4 [
           ⟨(some 39), none, (.ld (.t 2) 3 true), 0, [], [], [], []⟩,
           ⟨(some 40), none, (.build [(.int .i64 0), (.int .i64 0), (.isl (some true) true [])] [(0, (1, (.c (.int .i64 4))))]), 1, [], [], [], []⟩,
           ⟨none, none, (.st (.t 4) 3 (.t 39)), 2, [], [], [], []⟩,
           ⟨none, none, (.st (.t 5) 3 (.t 40)), 3, [], [], [], []⟩])
         .ret)
         .skip))
      (.seq
       (.rgn 7 [
        ⟨(some 41), none, (.mov (.t 6)), 0, [], [], [], []⟩,
        ⟨(some 42), none, (.bin .lss (.t 41) (.c (.int .i64 0))), 1, [], [], [], []⟩,
        ⟨(some 43), none, (.mov (.t 42)), 2, [], [], [], []⟩,
        ⟨(some 44), (some (43, true)), (.fa (.t 3) 0), 3, [], [], [], []⟩,
        ⟨(some 45), (some (43, true)), (.ld (.t 44) 1 false), 4, [], [], [], []⟩,
        ⟨(some 46), (some (43, true)), (.bin .neq (.t 45) (.c (.int .i64 1))), 5, [], [], [], []⟩,
        ⟨(some 47), none, (.pick (.t 43) (.t 46) (.c (.bool false))), 6, [], [], [], []⟩])
      (.cond (.t 47)
        (.seq
         (.rgn 4 [
          ⟨(some 48), none, (.ld (.t 2) 3 true), 0, [], [], [], []⟩,
          ⟨(some 49), none, (.build [(.int .i64 0), (.int .i64 0), (.isl (some true) true [])] [(0, (1, (.c (.int .i64 3))))]), 1, [], [], [], []⟩,
          ⟨none, none, (.st (.t 4) 3 (.t 48)), 2, [], [], [], []⟩,
          ⟨none, none, (.st (.t 5) 3 (.t 49)), 3, [], [], [], []⟩])
        .ret)
        .skip)))
      (.seq
       (.seq
        (.rgn 2 [
         ⟨(some 51), none, (.bin .eql (.t 28) (.c (.int .i64 6))), 0, [], [], [], []⟩,
         ⟨(some 50), none, (.mov (.t 51)), 1, [], [], [], []⟩])
       (.cond (.t 50)
         .skip
         (.rgn 2 [
          ⟨(some 52), none, (.bin .eql (.t 28) (.c (.int .i64 7))), 0, [], [], [], []⟩,
          ⟨(some 50), none, (.mov (.t 52)), 1, [], [], [], []⟩])))
      (.cond (.t 50)
        (.seq
         (.rgn 5 [
          ⟨(some 53), none, (.ld (.t 2) 3 true), 0, [], [], [], []⟩,
          ⟨(some 54), none, (.fa (.t 3) 2), 1, [], [], [], []⟩,
          ⟨(some 55), none, (.ld (.t 54) 1 false), 2, [], [], [], []⟩,
          ⟨(some 56), none, (.callS 31 [(.t 53), (.t 55)] true), 3, [], [], [], []⟩,
          ⟨(some 6), none, (.mov (.t 56)), 4, [], [], [], []⟩])
        (.seq
         (.rgn 2 [
          ⟨(some 57), none, (.mov (.t 6)), 0, [], [], [], []⟩,
          ⟨(some 58), none, (.bin .lss (.t 57) (.c (.int .i64 0))), 1, [], [], [], []⟩])
        (.cond (.t 58)
          (.seq
           (.rgn 4 [
            ⟨(some 59), none, (.ld (.t 2) 3 true), 0, [], [], [], []⟩,
            ⟨(some 60), none, (.build [(.int .i64 0), (.int .i64 0), (.isl (some true) true [])] [(0, (1, (.c (.int .i64 3))))]), 1, [], [], [], []⟩,
            ⟨none, none, (.st (.t 4) 3 (.t 59)), 2, [], [], [], []⟩,
            ⟨none, none, (.st (.t 5) 3 (.t 60)), 3, [], [], [], []⟩])
          .ret)
          .skip)))
        (.seq
         (.rgn 4 [
          ⟨(some 29), none, (.ld (.t 2) 3 true), 0, [], [], [], []⟩,
          ⟨(some 30), none, (.build [(.int .i64 0), (.int .i64 0), (.isl (some true) true [])] [(0, (1, (.c (.int .i64 4))))]), 1, [], [], [], []⟩,
          ⟨none, none, (.st (.t 4) 3 (.t 29)), 2, [], [], [], []⟩,
          ⟨none, none, (.st (.t 5) 3 (.t 30)), 3, [], [], [], []⟩])
        .ret)))))))
  (.seq
   (.rgn 3 [
    ⟨(some 61), none, (.build [(.int .i64 0), (.int .i64 0), (.isl (some true) true [])] []), 0, [], [], [], []⟩,
    ⟨(some 8), none, (.new 32 (.agg [(.int .i64 0), (.int .i64 0), (.isl (some true) true [])])), 1, [], [], [], []⟩,
    ⟨none, none, (.st (.t 8) 3 (.t 61)), 2, [], [], [], []⟩])
  (.seq
   (.seq
    (.rgn 2 [
     ⟨(some 62), none, (.fa (.t 3) 0), 0, [], [], [], []⟩,
     ⟨(some 63), none, (.ld (.t 62) 1 false), 1, [], [], [], []⟩])
   (.block 1
    (.seq
     (.rgn 2 [
      ⟨(some 65), none, (.bin .eql (.t 63) (.c (.int .i64 1))), 0, [], [], [], []⟩,
      ⟨(some 64), none, (.mov (.t 65)), 1, [], [], [], []⟩])
    (.cond (.t 64)
      (.seq
       (.seq
        (.rgn 10 [
         ⟨(some 66), none, (.mov (.t 6)), 0, [], [], [], []⟩,
         ⟨(some 67), none, (.bin .geq (.t 66) (.c (.int .i64 0))), 1, [], [], [], []⟩,
         ⟨(some 68), none, (.mov (.t 67)), 2, [], [], [], []⟩,
         ⟨(some 69), (some (68, true)), (.fa (.t 2) 0), 3, [], [], [], []⟩,
         ⟨(some 70), (some (68, true)), (.ld (.t 69) 1 false), 4, [], [], [], []⟩,
         ⟨(some 71), (some (68, true)), (.mov (.t 6)), 5, [], [], [], []⟩,
         ⟨(some 72), (some (68, true)), (.ia 5 (.t 70) (.t 71)), 6, [], [], [], []⟩,
         ⟨(some 73), (some (68, true)), (.fa (.t 72) 1), 7, [], [], [], []⟩,
         ⟨(some 74), (some (68, true)), (.ld (.t 73) 1 false), 8, [], [], [], []⟩,
         ⟨(some 75), none, (.pick (.t 68) (.t 74) (.c (.bool false))), 9, [], [], [], []⟩])
       (.cond (.t 75)
         (.seq
          (.rgn 4 [
           ⟨(some 76), none, (.ld (.t 2) 3 true), 0, [], [], [], []⟩,
           ⟨(some 77), none, (.build [(.int .i64 0), (.int .i64 0), (.isl (some true) true [])] [(0, (1, (.c (.int .i64 2))))]), 1, [], [], [], []⟩,
           ⟨none, none, (.st (.t 4) 3 (.t 76)), 2, [], [], [], []⟩,
           ⟨none, none, (.st (.t 5) 3 (.t 77)), 3, [], [], [], []⟩])
         .ret)
         .skip))
      (.seq
       (.seq
        (.rgn 21 [
         ⟨(some 78), none, (.mov (.t 6)), 0, [], [], [], []⟩,
         ⟨(some 79), none, (.bin .geq (.t 78) (.c (.int .i64 0))), 1, [], [], [], []⟩,
         ⟨(some 80), none, (.mov (.t 79)), 2, [], [], [], []⟩,
         ⟨(some 81), (some (80, true)), (.fa (.t 2) 0), 3, [], [], [], []⟩,
         ⟨(some 82), (some (80, true)), (.ld (.t 81) 1 false), 4, [], [], [], []⟩,
         ⟨(some 83), (some (80, true)), (.mov (.t 6)), 5, [], [], [], []⟩,
         ⟨(some 84), (some (80, true)), (.ia 5 (.t 82) (.t 83)), 6, [], [], [], []⟩,
         ⟨(some 85), (some (80, true)), (.fa (.t 84) 2), 7, [], [], [], []⟩,
         ⟨(some 86), (some (80, true)), (.ld (.t 85) 1 false), 8, [], [], [], []⟩,
         ⟨(some 87), none, (.pick (.t 80) (.t 86) (.c (.bool false))), 9, [], [], [], []⟩,
         ⟨(some 88), none, (.mov (.t 87)), 10, [], [], [], []⟩,
         ⟨(some 89), (some (88, true)), (.fa (.t 3) 3), 11, [], [], [], []⟩,
         ⟨(some 90), (some (88, true)), (.ld (.t 89) 1 false), 12, [], [], [], []⟩,
         ⟨(some 91), (some (88, true)), (.fa (.t 2) 0), 13, [], [], [], []⟩,
         ⟨(some 92), (some (88, true)), (.ld (.t 91) 1 false), 14, [], [], [], []⟩,
         ⟨(some 93), (some (88, true)), (.mov (.t 6)), 15, [], [], [], []⟩,
         ⟨(some 94), (some (88, true)), (.ia 5 (.t 92) (.t 93)), 16, [], [], [], []⟩,
         ⟨(some 95), (some (88, true)), (.fa (.t 94) 3), 17, [], [], [], []⟩,
         ⟨(some 96), (some (88, true)), (.ld (.t 95) 1 false), 18, [], [], [], []⟩,
         ⟨(some 97), (some (88, true)), (.bin .leq (.t 90) (.t 96)), 19, [], [], [], []⟩,
         ⟨(some 98), none, (.pick (.t 88) (.t 97) (.c (.bool false))), 20, [], [], [], []⟩])
       (.cond (.t 98)
         (.seq
          (.rgn 4 [
           ⟨(some 99), none, (.ld (.t 2) 3 true), 0, [], [], [], []⟩,
           ⟨(some 100), none, (.build [(.int .i64 0), (.int .i64 0), (.isl (some true) true [])] [(0, (1, (.c (.int .i64 1))))]), 1, [], [], [], []⟩,
           ⟨none, none, (.st (.t 4) 3 (.t 99)), 2, [], [], [], []⟩,
           ⟨none, none, (.st (.t 5) 3 (.t 100)), 3, [], [], [], []⟩])
         .ret)
         .skip))
      (.seq
       (.rgn 10 [
        ⟨(some 102), none, (.ld (.t 2) 3 true), 0, [], [], [], []⟩,
        ⟨(some 103), none, (.fa (.t 3) 1), 1, [], [], [], []⟩,
        ⟨(some 104), none, (.ld (.t 103) 1 false), 2, [], [], [], []⟩,
        ⟨(some 105), none, (.callS 32 [(.t 102), (.t 104)] true), 3, [], [], [], []⟩,
        ⟨(some 101), none, (.mov (.t 105)), 4, [], [], [], []⟩,
        ⟨(some 106), none, (.ext (.t 101) 0), 5, [], [], [], []⟩,
        ⟨(some 107), none, (.ext (.t 101) 1), 6, [], [], [], []⟩,
        ⟨(some 9), none, (.new 25 (.agg [(.isl (some true) true []), (.isl (some true) true []), (.int .i64 0)])), 7, [], [], [], []⟩,
        ⟨none, none, (.st (.t 9) 3 (.t 106)), 8, [], [], [], []⟩,
        ⟨(some 10), none, (.mov (.t 107)), 9, [], [], [], []⟩])
      (.seq
       (.rgn 2 [
        ⟨(some 108), none, (.ld (.t 9) 3 true), 0, [], [], [], []⟩,
        ⟨none, none, (.st (.t 2) 3 (.t 108)), 1, [], [], [], []⟩])
      (.seq
       (.rgn 7 [
        ⟨(some 109), none, (.fa (.t 2) 0), 0, [], [], [], []⟩,
        ⟨(some 110), none, (.ld (.t 109) 1 false), 1, [], [], [], []⟩,
        ⟨(some 111), none, (.mov (.t 10)), 2, [], [], [], []⟩,
        ⟨(some 112), none, (.ia 5 (.t 110) (.t 111)), 3, [], [], [], []⟩,
        ⟨(some 113), none, (.ld (.t 112) 5 true), 4, [], [], [], []⟩,
        ⟨(some 11), none, (.new 38 (.agg [(.int .i64 0), (.bool false), (.bool false), (.int .i64 0), (.isl (some true) true [])])), 5, [], [], [], []⟩,
        ⟨none, none, (.st (.t 11) 5 (.t 113)), 6, [], [], [], []⟩])
      (.seq
       (.rgn 18 [
        ⟨(some 114), none, (.fa (.t 3) 3), 0, [], [], [], []⟩,
        ⟨(some 115), none, (.ld (.t 114) 1 false), 1, [10, 11, 13], [], [3], []⟩,
        ⟨(some 116), none, (.fa (.t 11) 4), 2, [], [], [], []⟩,
        ⟨(some 117), none, (.ld (.t 116) 1 false), 3, [10], [], [], []⟩,
        ⟨(some 119), none, (.fa (.t 3) 3), 5, [], [], [], []⟩,
        ⟨(some 120), none, (.ld (.t 119) 1 false), 6, [], [], [], []⟩,
        ⟨(some 121), none, (.fa (.t 3) 4), 7, [], [], [], []⟩,
        ⟨(some 122), none, (.ld (.t 121) 1 false), 8, [], [], [], []⟩,
        ⟨(some 123), none, (.build [(.int .i64 0), (.int .u64 0)] [(0, (1, (.t 120))), (1, (1, (.t 122)))]), 9, [], [], [], []⟩,
        ⟨(some 124), none, (.bsl 44 2 1 [(.int .i64 0), (.int .u64 0)] [(0, (.t 123))]), 10, [], [], [], []⟩,
        ⟨(some 126), none, (.fa (.t 11) 2), 12, [], [], [], []⟩,
        ⟨(some 118), none, (.callS 33 [(.t 117)] true), 4, [10], [], [], []⟩,
        ⟨(some 125), none, (.app 44 2 16 (.t 118) (.t 124)), 11, [], [3], [], []⟩,
        ⟨none, none, (.st (.t 126) 1 (.c (.bool true))), 13, [], [3], [], []⟩,
        ⟨(some 127), none, (.fa (.t 11) 3), 14, [], [], [], []⟩,
        ⟨none, none, (.st (.t 127) 1 (.t 115)), 15, [], [], [], []⟩,
        ⟨(some 128), none, (.fa (.t 11) 4), 16, [], [], [], []⟩,
        ⟨none, none, (.st (.t 128) 1 (.t 125)), 17, [], [], [], []⟩])
      (.rgn 6 [
       ⟨(some 129), none, (.fa (.t 2) 0), 0, [], [], [], []⟩,
       ⟨(some 130), none, (.ld (.t 129) 1 false), 1, [], [], [], []⟩,
       ⟨(some 131), none, (.mov (.t 10)), 2, [], [], [], []⟩,
       ⟨(some 132), none, (.ld (.t 11) 5 true), 3, [], [], [], []⟩,
       ⟨(some 133), none, (.ia 5 (.t 130) (.t 131)), 4, [], [], [], []⟩,
       ⟨none, none, (.st (.t 133) 5 (.t 132)), 5, [], [], [], []⟩])))))))
      (.seq
       (.rgn 2 [
        ⟨(some 135), none, (.bin .eql (.t 63) (.c (.int .i64 2))), 0, [], [], [], []⟩,
        ⟨(some 134), none, (.mov (.t 135)), 1, [], [], [], []⟩])
      (.cond (.t 134)
        (.rgn 13 [
         ⟨(some 136), none, (.fa (.t 2) 0), 0, [], [], [], []⟩,
         ⟨(some 137), none, (.ld (.t 136) 1 false), 1, [], [], [], []⟩,
         ⟨(some 138), none, (.mov (.t 6)), 2, [], [], [], []⟩,
         ⟨(some 139), none, (.ia 5 (.t 137) (.t 138)), 3, [], [], [], []⟩,
         ⟨(some 140), none, (.fa (.t 139) 4), 4, [], [], [], []⟩,
         ⟨(some 141), none, (.ld (.t 140) 1 false), 5, [], [], [], []⟩,
         ⟨(some 142), none, (.fa (.t 3) 5), 6, [], [], [], []⟩,
         ⟨(some 143), none, (.ld (.t 142) 1 false), 7, [], [], [], []⟩,
         ⟨(some 144), none, (.fa (.t 3) 6), 8, [], [], [], []⟩,
         ⟨(some 145), none, (.ld (.t 144) 1 false), 9, [], [], [], []⟩,
         ⟨(some 146), none, (.callS 34 [(.t 141), (.t 143), (.t 145)] true), 10, [], [], [], []⟩,
         ⟨(some 147), none, (.fa (.t 8) 2), 11, [], [], [], []⟩,
         ⟨none, none, (.st (.t 147) 1 (.t 146)), 12, [], [], [], []⟩])
        (.seq
         (.rgn 2 [
          ⟨(some 149), none, (.bin .eql (.t 63) (.c (.int .i64 3))), 0, [], [], [], []⟩,
          ⟨(some 148), none, (.mov (.t 149)), 1, [], [], [], []⟩])
        (.cond (.t 148)
          (.seq
           (.seq
            (.rgn 6 [
             ⟨(some 150), none, (.fa (.t 2) 0), 0, [], [], [], []⟩,
             ⟨(some 151), none, (.ld (.t 150) 1 false), 1, [], [], [], []⟩,
             ⟨(some 152), none, (.mov (.t 6)), 2, [], [], [], []⟩,
             ⟨(some 153), none, (.ia 5 (.t 151) (.t 152)), 3, [], [], [], []⟩,
             ⟨(some 154), none, (.fa (.t 153) 1), 4, [], [], [], []⟩,
             ⟨(some 155), none, (.ld (.t 154) 1 false), 5, [], [], [], []⟩])
           (.cond (.t 155)
             (.seq
              (.rgn 4 [
               ⟨(some 156), none, (.ld (.t 2) 3 true), 0, [], [], [], []⟩,
               ⟨(some 157), none, (.build [(.int .i64 0), (.int .i64 0), (.isl (some true) true [])] [(0, (1, (.c (.int .i64 2))))]), 1, [], [], [], []⟩,
               ⟨none, none, (.st (.t 4) 3 (.t 156)), 2, [], [], [], []⟩,
               ⟨none, none, (.st (.t 5) 3 (.t 157)), 3, [], [], [], []⟩])
             .ret)
             .skip))
          (.rgn 6 [
           ⟨(some 158), none, (.fa (.t 2) 0), 0, [], [], [], []⟩,
           ⟨(some 159), none, (.ld (.t 158) 1 false), 1, [], [], [], []⟩,
           ⟨(some 160), none, (.mov (.t 6)), 2, [], [], [], []⟩,
           ⟨(some 161), none, (.ia 5 (.t 159) (.t 160)), 3, [], [], [], []⟩,
           ⟨(some 162), none, (.fa (.t 161) 1), 4, [], [], [], []⟩,
           ⟨none, none, (.st (.t 162) 1 (.c (.bool true))), 5, [], [], [], []⟩]))
          (.seq
           (.rgn 2 [
            ⟨(some 164), none, (.bin .eql (.t 63) (.c (.int .i64 4))), 0, [], [], [], []⟩,
            ⟨(some 163), none, (.mov (.t 164)), 1, [], [], [], []⟩])
          (.cond (.t 163)
            (.rgn 14 [
             ⟨(some 165), none, (.bsl 38 5 0 [] []), 0, [], [], [], []⟩,
             ⟨(some 166), none, (.fa (.t 2) 0), 1, [], [], [], []⟩,
             ⟨(some 167), none, (.ld (.t 166) 1 false), 2, [0], [], [], []⟩,
             ⟨(some 168), none, (.mov (.t 6)), 3, [], [], [], []⟩,
             ⟨(some 169), none, (.slc 5 (.t 167) none (some (.t 168)) none), 4, [], [], [], []⟩,
             ⟨(some 171), none, (.fa (.t 2) 0), 6, [], [], [], []⟩,
             ⟨(some 172), none, (.ld (.t 171) 1 false), 7, [0, 5], [], [2], []⟩,
             ⟨(some 173), none, (.mov (.t 6)), 8, [], [], [], []⟩,
             ⟨(some 174), none, (.bin .add (.t 173) (.c (.int .i64 1))), 9, [], [], [], []⟩,
             ⟨(some 175), none, (.slc 5 (.t 172) (some (.t 174)) none none), 10, [], [], [], []⟩,
             ⟨(some 170), none, (.app 38 5 48 (.t 165) (.t 169)), 5, [], [2], [], []⟩,
             ⟨(some 176), none, (.app 38 5 48 (.t 170) (.t 175)), 11, [], [], [], []⟩,
             ⟨(some 177), none, (.fa (.t 2) 0), 12, [], [], [], []⟩,
             ⟨none, none, (.st (.t 177) 1 (.t 176)), 13, [], [], [], []⟩])
            (.seq
             (.rgn 2 [
              ⟨(some 179), none, (.bin .eql (.t 63) (.c (.int .i64 5))), 0, [], [], [], []⟩,
              ⟨(some 178), none, (.mov (.t 179)), 1, [], [], [], []⟩])
            (.cond (.t 178)
              (.seq
               (.seq
                (.rgn 4 [
                 ⟨(some 180), none, (.fa (.t 2) 1), 0, [], [], [], []⟩,
                 ⟨(some 181), none, (.ld (.t 180) 1 false), 1, [], [], [], []⟩,
                 ⟨(some 182), none, (.len (.t 181)), 2, [], [], [], []⟩,
                 ⟨(some 183), none, (.bin .geq (.t 182) (.c (.int .i64 8))), 3, [], [], [], []⟩])
               (.cond (.t 183)
                 (.seq
                  (.rgn 4 [
                   ⟨(some 184), none, (.ld (.t 2) 3 true), 0, [], [], [], []⟩,
                   ⟨(some 185), none, (.build [(.int .i64 0), (.int .i64 0), (.isl (some true) true [])] [(0, (1, (.c (.int .i64 5))))]), 1, [], [], [], []⟩,
                   ⟨none, none, (.st (.t 4) 3 (.t 184)), 2, [], [], [], []⟩,
                   ⟨none, none, (.st (.t 5) 3 (.t 185)), 3, [], [], [], []⟩])
                 .ret)
                 .skip))
              (.seq
               (.rgn 5 [
                ⟨(some 186), none, (.fa (.t 2) 2), 0, [], [], [], []⟩,
                ⟨(some 187), none, (.ld (.t 186) 1 false), 1, [], [], [], []⟩,
                ⟨(some 188), none, (.bin .add (.t 187) (.c (.int .i64 1))), 2, [], [], [], []⟩,
                ⟨(some 189), none, (.fa (.t 2) 2), 3, [], [], [], []⟩,
                ⟨none, none, (.st (.t 189) 1 (.t 188)), 4, [], [], [], []⟩])
              (.seq
               (.rgn 20 [
                ⟨(some 190), none, (.fa (.t 2) 1), 0, [], [], [], []⟩,
                ⟨(some 191), none, (.ld (.t 190) 1 false), 1, [16], [], [], []⟩,
                ⟨(some 192), none, (.fa (.t 2) 2), 2, [], [], [], []⟩,
                ⟨(some 193), none, (.ld (.t 192) 1 false), 3, [], [], [], []⟩,
                ⟨(some 194), none, (.fa (.t 2) 0), 4, [], [], [], []⟩,
                ⟨(some 195), none, (.ld (.t 194) 1 false), 5, [], [], [], []⟩,
                ⟨(some 196), none, (.mov (.t 6)), 6, [], [], [], []⟩,
                ⟨(some 197), none, (.ia 5 (.t 195) (.t 196)), 7, [], [], [], []⟩,
                ⟨(some 198), none, (.fa (.t 197) 4), 8, [], [], [], []⟩,
                ⟨(some 199), none, (.ld (.t 198) 1 false), 9, [], [], [], []⟩,
                ⟨(some 200), none, (.fa (.t 3) 5), 10, [], [], [], []⟩,
                ⟨(some 201), none, (.ld (.t 200) 1 false), 11, [], [], [], []⟩,
                ⟨(some 202), none, (.fa (.t 3) 6), 12, [], [], [], []⟩,
                ⟨(some 203), none, (.ld (.t 202) 1 false), 13, [], [], [], []⟩,
                ⟨(some 204), none, (.callS 34 [(.t 199), (.t 201), (.t 203)] true), 14, [], [], [], []⟩,
                ⟨(some 205), none, (.build [(.int .i64 0), (.isl (some true) true [])] [(0, (1, (.t 193))), (1, (1, (.t 204)))]), 15, [], [], [], []⟩,
                ⟨(some 206), none, (.bsl 46 2 1 [(.int .i64 0), (.isl (some true) true [])] [(0, (.t 205))]), 16, [], [], [], []⟩,
                ⟨(some 207), none, (.app 46 2 32 (.t 191) (.t 206)), 17, [], [], [], []⟩,
                ⟨(some 208), none, (.fa (.t 2) 1), 18, [], [], [], []⟩,
                ⟨none, none, (.st (.t 208) 1 (.t 207)), 19, [], [], [], []⟩])
              (.rgn 4 [
               ⟨(some 209), none, (.fa (.t 2) 2), 0, [], [], [], []⟩,
               ⟨(some 210), none, (.ld (.t 209) 1 false), 1, [], [], [], []⟩,
               ⟨(some 211), none, (.fa (.t 8) 1), 2, [], [], [], []⟩,
               ⟨none, none, (.st (.t 211) 1 (.t 210)), 3, [], [], [], []⟩]))))
              (.seq
               (.rgn 2 [
                ⟨(some 213), none, (.bin .eql (.t 63) (.c (.int .i64 6))), 0, [], [], [], []⟩,
                ⟨(some 212), none, (.mov (.t 213)), 1, [], [], [], []⟩])
              (.cond (.t 212)
                (.seq
                 (.rgn 12 [
                  ⟨(some 214), none, (.fa (.t 3) 7), 0, [], [], [], []⟩,
                  ⟨(some 215), none, (.ld (.t 214) 1 false), 1, [], [], [], []⟩,
                  ⟨(some 216), none, (.max [(.t 215), (.c (.int .i64 0))]), 2, [], [], [], []⟩,
                  ⟨(some 217), none, (.fa (.t 2) 1), 3, [], [], [], []⟩,
                  ⟨(some 218), none, (.ld (.t 217) 1 false), 4, [], [], [], []⟩,
                  ⟨(some 219), none, (.mov (.t 6)), 5, [], [], [], []⟩,
                  ⟨(some 220), none, (.ia 2 (.t 218) (.t 219)), 6, [], [], [], []⟩,
                  ⟨(some 221), none, (.fa (.t 220) 1), 7, [], [], [], []⟩,
                  ⟨(some 222), none, (.ld (.t 221) 1 false), 8, [], [], [], []⟩,
                  ⟨(some 223), none, (.len (.t 222)), 9, [], [], [], []⟩,
                  ⟨(some 224), none, (.min [(.t 216), (.c (.int .i64 1000)), (.t 223)]), 10, [], [], [], []⟩,
                  ⟨(some 12), none, (.mov (.t 224)), 11, [], [], [], []⟩])
                (.seq
                 (.rgn 11 [
                  ⟨(some 225), none, (.fa (.t 2) 1), 0, [], [], [], []⟩,
                  ⟨(some 226), none, (.ld (.t 225) 1 false), 1, [], [], [], []⟩,
                  ⟨(some 227), none, (.mov (.t 6)), 2, [], [], [], []⟩,
                  ⟨(some 228), none, (.ia 2 (.t 226) (.t 227)), 3, [], [], [], []⟩,
                  ⟨(some 229), none, (.fa (.t 228) 1), 4, [], [], [], []⟩,
                  ⟨(some 230), none, (.ld (.t 229) 1 false), 5, [], [], [], []⟩,
                  ⟨(some 231), none, (.mov (.t 12)), 6, [], [], [], []⟩,
                  ⟨(some 232), none, (.slc 2 (.t 230) none (some (.t 231)) none), 7, [], [], [], []⟩,
                  ⟨(some 233), none, (.callS 33 [(.t 232)] true), 8, [], [], [], []⟩,
                  ⟨(some 234), none, (.fa (.t 8) 2), 9, [], [], [], []⟩,
                  ⟨none, none, (.st (.t 234) 1 (.t 233)), 10, [], [], [], []⟩])
                (.rgn 15 [
                 ⟨(some 235), none, (.fa (.t 2) 1), 0, [], [], [], []⟩,
                 ⟨(some 236), none, (.ld (.t 235) 1 false), 1, [], [], [], []⟩,
                 ⟨(some 237), none, (.mov (.t 6)), 2, [], [], [], []⟩,
                 ⟨(some 238), none, (.fa (.t 2) 1), 3, [], [], [], []⟩,
                 ⟨(some 239), none, (.ld (.t 238) 1 false), 4, [], [], [], []⟩,
                 ⟨(some 240), none, (.mov (.t 6)), 5, [], [], [], []⟩,
                 ⟨(some 241), none, (.ia 2 (.t 239) (.t 240)), 6, [], [], [], []⟩,
                 ⟨(some 242), none, (.fa (.t 241) 1), 7, [], [], [], []⟩,
                 ⟨(some 243), none, (.ld (.t 242) 1 false), 8, [], [], [], []⟩,
                 ⟨(some 244), none, (.mov (.t 12)), 9, [], [], [], []⟩,
                 ⟨(some 245), none, (.slc 2 (.t 243) (some (.t 244)) none none), 10, [], [], [], []⟩,
                 ⟨(some 246), none, (.callS 33 [(.t 245)] true), 11, [], [], [], []⟩,
                 ⟨(some 247), none, (.ia 2 (.t 236) (.t 237)), 12, [], [], [], []⟩,
                 ⟨(some 248), none, (.fa (.t 247) 1), 13, [], [], [], []⟩,
                 ⟨none, none, (.st (.t 248) 1 (.t 246)), 14, [], [], [], []⟩])))
                (.seq
                 (.rgn 2 [
                  ⟨(some 250), none, (.bin .eql (.t 63) (.c (.int .i64 7))), 0, [], [], [], []⟩,
                  ⟨(some 249), none, (.mov (.t 250)), 1, [], [], [], []⟩])
                (.cond (.t 249)
                  (.rgn 14 [
                   ⟨(some 251), none, (.bsl 46 2 0 [] []), 0, [], [], [], []⟩,
                   ⟨(some 252), none, (.fa (.t 2) 1), 1, [], [], [], []⟩,
                   ⟨(some 253), none, (.ld (.t 252) 1 false), 2, [0], [], [], []⟩,
                   ⟨(some 254), none, (.mov (.t 6)), 3, [], [], [], []⟩,
                   ⟨(some 255), none, (.slc 2 (.t 253) none (some (.t 254)) none), 4, [], [], [], []⟩,
                   ⟨(some 257), none, (.fa (.t 2) 1), 6, [], [], [], []⟩,
                   ⟨(some 258), none, (.ld (.t 257) 1 false), 7, [0, 5], [], [2], []⟩,
                   ⟨(some 259), none, (.mov (.t 6)), 8, [], [], [], []⟩,
                   ⟨(some 260), none, (.bin .add (.t 259) (.c (.int .i64 1))), 9, [], [], [], []⟩,
                   ⟨(some 261), none, (.slc 2 (.t 258) (some (.t 260)) none none), 10, [], [], [], []⟩,
                   ⟨(some 256), none, (.app 46 2 32 (.t 251) (.t 255)), 5, [], [2], [], []⟩,
                   ⟨(some 262), none, (.app 46 2 32 (.t 256) (.t 261)), 11, [], [], [], []⟩,
                   ⟨(some 263), none, (.fa (.t 2) 1), 12, [], [], [], []⟩,
                   ⟨none, none, (.st (.t 263) 1 (.t 262)), 13, [], [], [], []⟩])
                  .skip))))))))))))))))
  (.seq
   (.rgn 4 [
    ⟨(some 264), none, (.ld (.t 2) 3 true), 0, [], [], [], []⟩,
    ⟨(some 265), none, (.ld (.t 8) 3 true), 1, [2], [], [8], []⟩,
    ⟨none, none, (.st (.t 4) 3 (.t 264)), 2, [], [8], [], []⟩,
    ⟨none, none, (.st (.t 5) 3 (.t 265)), 3, [], [], [], []⟩])
  .ret))))))))
def r14 : List ARes := [(.cell 4 3 true), (.cell 5 3 true)]
theorem k14 : compCode Try.prog 266 (ngOf []) (Try.f14.body.getD .skip) = some a14 := by kernel_rfl
theorem e14 {vs : List AV} {h : Hp} {n : Nat} {K : AV → Hp → Nat → Prop} (hl : vs.length ≤ 266) (hw : wpA Try.prog a14 (retA r14 K) ⟨argS vs, h, n⟩) : CallsA Try.prog 14 vs h n K :=
  fn_sound (fn := Try.f14) (c := Try.f14.body.getD .skip) mo (by kernel_rfl) (by kernel_rfl) (by kernel_rfl) k14 (by kernel_rfl) hl hw
def a15 : ACode :=
  (.seq
   (.rgn 3 [
    ⟨(some 2), none, (.box 25 (.t 0)), 0, [], [], [], []⟩,
    ⟨(some 3), none, (.box 25 (.t 1)), 1, [], [], [], []⟩,
    ⟨(some 4), none, (.mov (.c (.bool false))), 2, [], [], [], []⟩])
  (.seq
   (.seq
    (.rgn 23 [
     ⟨(some 9), none, (.fa (.t 2) 2), 0, [], [], [], []⟩,
     ⟨(some 10), none, (.ld (.t 9) 1 false), 1, [], [], [], []⟩,
     ⟨(some 11), none, (.fa (.t 3) 2), 2, [], [], [], []⟩,
     ⟨(some 12), none, (.ld (.t 11) 1 false), 3, [], [], [], []⟩,
     ⟨(some 13), none, (.bin .neq (.t 10) (.t 12)), 4, [], [], [], []⟩,
     ⟨(some 14), none, (.mov (.t 13)), 5, [], [], [], []⟩,
     ⟨(some 15), (some (14, false)), (.fa (.t 2) 0), 6, [], [], [], []⟩,
     ⟨(some 16), (some (14, false)), (.ld (.t 15) 1 false), 7, [], [], [], []⟩,
     ⟨(some 17), (some (14, false)), (.len (.t 16)), 8, [], [], [], []⟩,
     ⟨(some 18), (some (14, false)), (.fa (.t 3) 0), 9, [], [], [], []⟩,
     ⟨(some 19), (some (14, false)), (.ld (.t 18) 1 false), 10, [], [], [], []⟩,
     ⟨(some 20), (some (14, false)), (.len (.t 19)), 11, [], [], [], []⟩,
     ⟨(some 21), (some (14, false)), (.bin .neq (.t 17) (.t 20)), 12, [], [], [], []⟩,
     ⟨(some 22), none, (.pick (.t 14) (.c (.bool true)) (.t 21)), 13, [], [], [], []⟩,
     ⟨(some 23), none, (.mov (.t 22)), 14, [], [], [], []⟩,
     ⟨(some 24), (some (23, false)), (.fa (.t 2) 1), 15, [], [], [], []⟩,
     ⟨(some 25), (some (23, false)), (.ld (.t 24) 1 false), 16, [], [], [], []⟩,
     ⟨(some 26), (some (23, false)), (.len (.t 25)), 17, [], [], [], []⟩,
     ⟨(some 27), (some (23, false)), (.fa (.t 3) 1), 18, [], [], [], []⟩,
     ⟨(some 28), (some (23, false)), (.ld (.t 27) 1 false), 19, [], [], [], []⟩,
     ⟨(some 29), (some (23, false)), (.len (.t 28)), 20, [], [], [], []⟩,
     ⟨(some 30), (some (23, false)), (.bin .neq (.t 26) (.t 29)), 21, [], [], [], []⟩,
     ⟨(some 31), none, (.pick (.t 23) (.c (.bool true)) (.t 30)), 22, [], [], [], []⟩])
   (.cond (.t 31)
     (.seq
      (.rgn 1 [
       ⟨(some 4), none, (.mov (.c (.bool false))), 0, [], [], [], []⟩])
     .ret)
     .skip))
  (.seq
   (.seq
    (.rgn 1 [
     ⟨(some 5), none, (.mov (.c (.int .i64 0))), 0, [], [], [], []⟩])
   (.block 0
    (.loop
     (.seq
      (.seq
       (.rgn 5 [
        ⟨(some 32), none, (.mov (.t 5)), 0, [], [], [], []⟩,
        ⟨(some 33), none, (.fa (.t 2) 0), 1, [], [], [], []⟩,
        ⟨(some 34), none, (.ld (.t 33) 1 false), 2, [], [], [], []⟩,
        ⟨(some 35), none, (.len (.t 34)), 3, [], [], [], []⟩,
        ⟨(some 36), none, (.bin .lss (.t 32) (.t 35)), 4, [], [], [], []⟩])
      (.cond (.t 36)
        .skip
        (.exit 0)))
     (.seq
      (.block 1
       (.seq
        (.rgn 14 [
         ⟨(some 39), none, (.fa (.t 2) 0), 0, [], [], [], []⟩,
         ⟨(some 40), none, (.ld (.t 39) 1 false), 1, [10, 11], [], [], []⟩,
         ⟨(some 41), none, (.mov (.t 5)), 2, [], [], [], []⟩,
         ⟨(some 42), none, (.ia 5 (.t 40) (.t 41)), 3, [], [], [], []⟩,
         ⟨(some 43), none, (.ld (.t 42) 5 true), 4, [10, 11], [], [], []⟩,
         ⟨(some 44), none, (.fa (.t 3) 0), 5, [], [], [], []⟩,
         ⟨(some 45), none, (.ld (.t 44) 1 false), 6, [10, 11, 12], [], [3], []⟩,
         ⟨(some 46), none, (.mov (.t 5)), 7, [], [], [], []⟩,
         ⟨(some 47), none, (.ia 5 (.t 45) (.t 46)), 8, [], [], [], []⟩,
         ⟨(some 48), none, (.ld (.t 47) 5 true), 9, [10, 11, 12], [], [], []⟩,
         ⟨(some 6), none, (.new 38 (.agg [(.int .i64 0), (.bool false), (.bool false), (.int .i64 0), (.isl (some true) true [])])), 10, [], [], [], []⟩,
         ⟨(some 7), none, (.new 38 (.agg [(.int .i64 0), (.bool false), (.bool false), (.int .i64 0), (.isl (some true) true [])])), 11, [], [], [], []⟩,
         ⟨none, none, (.st (.t 6) 5 (.t 43)), 12, [], [3], [], [10]⟩,
         ⟨none, none, (.st (.t 7) 5 (.t 48)), 13, [], [], [], [11]⟩])
       (.seq
        (.rgn 34 [
         ⟨(some 49), none, (.fa (.t 6) 0), 0, [], [], [], []⟩,
         ⟨(some 50), none, (.ld (.t 49) 1 false), 1, [], [], [], []⟩,
         ⟨(some 51), none, (.fa (.t 7) 0), 2, [], [], [], []⟩,
         ⟨(some 52), none, (.ld (.t 51) 1 false), 3, [], [], [], []⟩,
         ⟨(some 53), none, (.bin .neq (.t 50) (.t 52)), 4, [], [], [], []⟩,
         ⟨(some 54), none, (.mov (.t 53)), 5, [], [], [], []⟩,
         ⟨(some 55), (some (54, false)), (.fa (.t 6) 1), 6, [], [], [], []⟩,
         ⟨(some 56), (some (54, false)), (.ld (.t 55) 1 false), 7, [], [], [], []⟩,
         ⟨(some 57), (some (54, false)), (.fa (.t 7) 1), 8, [], [], [], []⟩,
         ⟨(some 58), (some (54, false)), (.ld (.t 57) 1 false), 9, [], [], [], []⟩,
         ⟨(some 59), (some (54, false)), (.bib true (.t 56) (.t 58)), 10, [], [], [], []⟩,
         ⟨(some 60), none, (.pick (.t 54) (.c (.bool true)) (.t 59)), 11, [], [], [], []⟩,
         ⟨(some 61), none, (.mov (.t 60)), 12, [], [], [], []⟩,
         ⟨(some 62), (some (61, false)), (.fa (.t 6) 2), 13, [], [], [], []⟩,
         ⟨(some 63), (some (61, false)), (.ld (.t 62) 1 false), 14, [], [], [], []⟩,
         ⟨(some 64), (some (61, false)), (.fa (.t 7) 2), 15, [], [], [], []⟩,
         ⟨(some 65), (some (61, false)), (.ld (.t 64) 1 false), 16, [], [], [], []⟩,
         ⟨(some 66), (some (61, false)), (.bib true (.t 63) (.t 65)), 17, [], [], [], []⟩,
         ⟨(some 67), none, (.pick (.t 61) (.c (.bool true)) (.t 66)), 18, [], [], [], []⟩,
         ⟨(some 68), none, (.mov (.t 67)), 19, [], [], [], []⟩,
         ⟨(some 69), (some (68, false)), (.fa (.t 6) 3), 20, [], [], [], []⟩,
         ⟨(some 70), (some (68, false)), (.ld (.t 69) 1 false), 21, [], [], [], []⟩,
         ⟨(some 71), (some (68, false)), (.fa (.t 7) 3), 22, [], [], [], []⟩,
         ⟨(some 72), (some (68, false)), (.ld (.t 71) 1 false), 23, [], [], [], []⟩,
         ⟨(some 73), (some (68, false)), (.bin .neq (.t 70) (.t 72)), 24, [], [], [], []⟩,
         ⟨(some 74), none, (.pick (.t 68) (.c (.bool true)) (.t 73)), 25, [], [], [], []⟩,
         ⟨(some 75), none, (.mov (.t 74)), 26, [], [], [], []⟩,
         ⟨(some 76), (some (75, false)), (.fa (.t 6) 4), 27, [], [], [], []⟩,
         ⟨(some 77), (some (75, false)), (.ld (.t 76) 1 false), 28, [], [], [], []⟩,
         ⟨(some 78), (some (75, false)), (.fa (.t 7) 4), 29, [], [], [], []⟩,
         ⟨(some 79), (some (75, false)), (.ld (.t 78) 1 false), 30, [], [], [], []⟩,
         ⟨(some 80), (some (75, false)), (.callS 19 [(.t 77), (.t 79)] true), 31, [], [], [], []⟩,
         ⟨(some 81), (some (75, false)), (.un .not (.t 80)), 32, [], [], [], []⟩,
         ⟨(some 82), none, (.pick (.t 75) (.c (.bool true)) (.t 81)), 33, [], [], [], []⟩])
       (.cond (.t 82)
         (.seq
          (.rgn 1 [
           ⟨(some 4), none, (.mov (.c (.bool false))), 0, [], [], [], []⟩])
         .ret)
         .skip))))
     (.rgn 3 [
      ⟨(some 37), none, (.mov (.t 5)), 0, [], [], [], []⟩,
      ⟨(some 38), none, (.bin .add (.t 37) (.c (.int .i64 1))), 1, [], [], [], []⟩,
      ⟨(some 5), none, (.mov (.t 38)), 2, [], [], [], []⟩]))))))
  (.seq
   (.seq
    (.rgn 1 [
     ⟨(some 8), none, (.mov (.c (.int .i64 0))), 0, [], [], [], []⟩])
   (.block 2
    (.loop
     (.seq
      (.seq
       (.rgn 5 [
        ⟨(some 83), none, (.mov (.t 8)), 0, [], [], [], []⟩,
        ⟨(some 84), none, (.fa (.t 2) 1), 1, [], [], [], []⟩,
        ⟨(some 85), none, (.ld (.t 84) 1 false), 2, [], [], [], []⟩,
        ⟨(some 86), none, (.len (.t 85)), 3, [], [], [], []⟩,
        ⟨(some 87), none, (.bin .lss (.t 83) (.t 86)), 4, [], [], [], []⟩])
      (.cond (.t 87)
        .skip
        (.exit 2)))
     (.seq
      (.block 3
       (.seq
        (.rgn 29 [
         ⟨(some 90), none, (.fa (.t 2) 1), 0, [], [], [], []⟩,
         ⟨(some 91), none, (.ld (.t 90) 1 false), 1, [], [], [], []⟩,
         ⟨(some 92), none, (.mov (.t 8)), 2, [], [], [], []⟩,
         ⟨(some 93), none, (.ia 2 (.t 91) (.t 92)), 3, [], [], [], []⟩,
         ⟨(some 94), none, (.fa (.t 93) 0), 4, [], [], [], []⟩,
         ⟨(some 95), none, (.ld (.t 94) 1 false), 5, [], [], [], []⟩,
         ⟨(some 96), none, (.fa (.t 3) 1), 6, [], [], [], []⟩,
         ⟨(some 97), none, (.ld (.t 96) 1 false), 7, [], [], [], []⟩,
         ⟨(some 98), none, (.mov (.t 8)), 8, [], [], [], []⟩,
         ⟨(some 99), none, (.ia 2 (.t 97) (.t 98)), 9, [], [], [], []⟩,
         ⟨(some 100), none, (.fa (.t 99) 0), 10, [], [], [], []⟩,
         ⟨(some 101), none, (.ld (.t 100) 1 false), 11, [], [], [], []⟩,
         ⟨(some 102), none, (.bin .neq (.t 95) (.t 101)), 12, [], [], [], []⟩,
         ⟨(some 103), none, (.mov (.t 102)), 13, [], [], [], []⟩,
         ⟨(some 104), (some (103, false)), (.fa (.t 2) 1), 14, [], [], [], []⟩,
         ⟨(some 105), (some (103, false)), (.ld (.t 104) 1 false), 15, [], [], [], []⟩,
         ⟨(some 106), (some (103, false)), (.mov (.t 8)), 16, [], [], [], []⟩,
         ⟨(some 107), (some (103, false)), (.ia 2 (.t 105) (.t 106)), 17, [], [], [], []⟩,
         ⟨(some 108), (some (103, false)), (.fa (.t 107) 1), 18, [], [], [], []⟩,
         ⟨(some 109), (some (103, false)), (.ld (.t 108) 1 false), 19, [], [], [], []⟩,
         ⟨(some 110), (some (103, false)), (.fa (.t 3) 1), 20, [], [], [], []⟩,
         ⟨(some 111), (some (103, false)), (.ld (.t 110) 1 false), 21, [], [], [], []⟩,
         ⟨(some 112), (some (103, false)), (.mov (.t 8)), 22, [], [], [], []⟩,
         ⟨(some 113), (some (103, false)), (.ia 2 (.t 111) (.t 112)), 23, [], [], [], []⟩,
         ⟨(some 114), (some (103, false)), (.fa (.t 113) 1), 24, [], [], [], []⟩,
         ⟨(some 115), (some (103, false)), (.ld (.t 114) 1 false), 25, [], [], [], []⟩,
         ⟨(some 116), (some (103, false)), (.callS 19 [(.t 109), (.t 115)] true), 26, [], [], [], []⟩,
         ⟨(some 117), (some (103, false)), (.un .not (.t 116)), 27, [], [], [], []⟩,
         ⟨(some 118), none, (.pick (.t 103) (.c (.bool true)) (.t 117)), 28, [], [], [], []⟩])
       (.cond (.t 118)
         (.seq
          (.rgn 1 [
           ⟨(some 4), none, (.mov (.c (.bool false))), 0, [], [], [], []⟩])
         .ret)
         .skip)))
     (.rgn 3 [
      ⟨(some 88), none, (.mov (.t 8)), 0, [], [], [], []⟩,
      ⟨(some 89), none, (.bin .add (.t 88) (.c (.int .i64 1))), 1, [], [], [], []⟩,
      ⟨(some 8), none, (.mov (.t 89)), 2, [], [], [], []⟩]))))))
  (.seq
   (.rgn 1 [
    ⟨(some 4), none, (.mov (.c (.bool true))), 0, [], [], [], []⟩])
  .ret)))))
def r15 : List ARes := [(.tmp 4)]
theorem k15 : compCode Try.prog 119 (ngOf []) (Try.f15.body.getD .skip) = some a15 := by kernel_rfl
theorem e15 {vs : List AV} {h : Hp} {n : Nat} {K : AV → Hp → Nat → Prop} (hl : vs.length ≤ 119) (hw : wpA Try.prog a15 (retA r15 K) ⟨argS vs, h, n⟩) : CallsA Try.prog 15 vs h n K :=
  fn_sound (fn := Try.f15) (c := Try.f15.body.getD .skip) mo (by kernel_rfl) (by kernel_rfl) (by kernel_rfl) k15 (by kernel_rfl) hl hw
def a16 : ACode :=
  (.seq
   (.rgn 3 [
    ⟨(some 2), none, (.box 32 (.t 0)), 0, [], [], [], []⟩,
    ⟨(some 3), none, (.box 32 (.t 1)), 1, [], [], [], []⟩,
    ⟨(some 4), none, (.mov (.c (.bool false))), 2, [], [], [], []⟩])
  (.seq
   (.rgn 20 [
    ⟨(some 5), none, (.fa (.t 2) 0), 0, [], [], [], []⟩,
    ⟨(some 6), none, (.ld (.t 5) 1 false), 1, [], [], [], []⟩,
    ⟨(some 7), none, (.fa (.t 3) 0), 2, [], [], [], []⟩,
    ⟨(some 8), none, (.ld (.t 7) 1 false), 3, [], [], [], []⟩,
    ⟨(some 9), none, (.bin .eql (.t 6) (.t 8)), 4, [], [], [], []⟩,
    ⟨(some 10), none, (.mov (.t 9)), 5, [], [], [], []⟩,
    ⟨(some 11), (some (10, true)), (.fa (.t 2) 1), 6, [], [], [], []⟩,
    ⟨(some 12), (some (10, true)), (.ld (.t 11) 1 false), 7, [], [], [], []⟩,
    ⟨(some 13), (some (10, true)), (.fa (.t 3) 1), 8, [], [], [], []⟩,
    ⟨(some 14), (some (10, true)), (.ld (.t 13) 1 false), 9, [], [], [], []⟩,
    ⟨(some 15), (some (10, true)), (.bin .eql (.t 12) (.t 14)), 10, [], [], [], []⟩,
    ⟨(some 16), none, (.pick (.t 10) (.t 15) (.c (.bool false))), 11, [], [], [], []⟩,
    ⟨(some 17), none, (.mov (.t 16)), 12, [], [], [], []⟩,
    ⟨(some 18), (some (17, true)), (.fa (.t 2) 2), 13, [], [], [], []⟩,
    ⟨(some 19), (some (17, true)), (.ld (.t 18) 1 false), 14, [], [], [], []⟩,
    ⟨(some 20), (some (17, true)), (.fa (.t 3) 2), 15, [], [], [], []⟩,
    ⟨(some 21), (some (17, true)), (.ld (.t 20) 1 false), 16, [], [], [], []⟩,
    ⟨(some 22), (some (17, true)), (.callS 19 [(.t 19), (.t 21)] true), 17, [], [], [], []⟩,
    ⟨(some 23), none, (.pick (.t 17) (.t 22) (.c (.bool false))), 18, [], [], [], []⟩,
    ⟨(some 4), none, (.mov (.t 23)), 19, [], [], [], []⟩])
  .ret))
def r16 : List ARes := [(.tmp 4)]
theorem k16 : compCode Try.prog 24 (ngOf []) (Try.f16.body.getD .skip) = some a16 := by kernel_rfl
theorem e16 {vs : List AV} {h : Hp} {n : Nat} {K : AV → Hp → Nat → Prop} (hl : vs.length ≤ 24) (hw : wpA Try.prog a16 (retA r16 K) ⟨argS vs, h, n⟩) : CallsA Try.prog 16 vs h n K :=
  fn_sound (fn := Try.f16) (c := Try.f16.body.getD .skip) mo (by kernel_rfl) (by kernel_rfl) (by kernel_rfl) k16 (by kernel_rfl) hl hw
def a17 : ACode :=
  (.seq
   (.rgn 3 [
    ⟨(some 2), none, (.box 25 (.t 0)), 0, [], [], [], []⟩,
    ⟨(some 3), none, (.box 25 (.t 1)), 1, [], [], [], []⟩,
    ⟨(some 4), none, (.mov (.c (.bool false))), 2, [], [], [], []⟩])
  (.seq
   (.rgn 1 [
    ⟨(some 5), none, (.mov (.c (.fn 35 []))), 0, [], [], [], []⟩])
  (.seq
   (.rgn 1 [
    ⟨(some 6), none, (.mov (.c (.fn 37 []))), 0, [], [], [], []⟩])
  (.seq
   (.rgn 22 [
    ⟨(some 7), none, (.fa (.t 2) 2), 0, [], [], [], []⟩,
    ⟨(some 8), none, (.ld (.t 7) 1 false), 1, [], [], [], []⟩,
    ⟨(some 9), none, (.fa (.t 3) 2), 2, [], [], [], []⟩,
    ⟨(some 10), none, (.ld (.t 9) 1 false), 3, [], [], [], []⟩,
    ⟨(some 11), none, (.bin .eql (.t 8) (.t 10)), 4, [], [], [], []⟩,
    ⟨(some 12), none, (.mov (.t 11)), 5, [], [], [], []⟩,
    ⟨(some 13), (some (12, true)), (.fa (.t 2) 0), 6, [], [], [], []⟩,
    ⟨(some 14), (some (12, true)), (.ld (.t 13) 1 false), 7, [], [], [], []⟩,
    ⟨(some 15), (some (12, true)), (.fa (.t 3) 0), 8, [], [], [], []⟩,
    ⟨(some 16), (some (12, true)), (.ld (.t 15) 1 false), 9, [], [], [], []⟩,
    ⟨(some 17), (some (12, true)), (.mov (.t 5)), 10, [], [], [], []⟩,
    ⟨(some 18), (some (12, true)), (.callS 38 [(.t 14), (.t 16), (.t 17)] true), 11, [], [], [], []⟩,
    ⟨(some 19), none, (.pick (.t 12) (.t 18) (.c (.bool false))), 12, [], [], [], []⟩,
    ⟨(some 20), none, (.mov (.t 19)), 13, [], [], [], []⟩,
    ⟨(some 21), (some (20, true)), (.fa (.t 2) 1), 14, [], [], [], []⟩,
    ⟨(some 22), (some (20, true)), (.ld (.t 21) 1 false), 15, [], [], [], []⟩,
    ⟨(some 23), (some (20, true)), (.fa (.t 3) 1), 16, [], [], [], []⟩,
    ⟨(some 24), (some (20, true)), (.ld (.t 23) 1 false), 17, [], [], [], []⟩,
    ⟨(some 25), (some (20, true)), (.mov (.t 6)), 18, [], [], [], []⟩,
    ⟨(some 26), (some (20, true)), (.callS 39 [(.t 22), (.t 24), (.t 25)] true), 19, [], [], [], []⟩,
    ⟨(some 27), none, (.pick (.t 20) (.t 26) (.c (.bool false))), 20, [], [], [], []⟩,
    ⟨(some 4), none, (.mov (.t 27)), 21, [], [], [], []⟩])
  .ret))))
def r17 : List ARes := [(.tmp 4)]
theorem k17 : compCode Try.prog 28 (ngOf []) (Try.f17.body.getD .skip) = some a17 := by kernel_rfl
theorem e17 {vs : List AV} {h : Hp} {n : Nat} {K : AV → Hp → Nat → Prop} (hl : vs.length ≤ 28) (hw : wpA Try.prog a17 (retA r17 K) ⟨argS vs, h, n⟩) : CallsA Try.prog 17 vs h n K :=
  fn_sound (fn := Try.f17) (c := Try.f17.body.getD .skip) mo (by kernel_rfl) (by kernel_rfl) (by kernel_rfl) k17 (by kernel_rfl) hl hw
def a18 : ACode :=
  (.seq
   (.rgn 3 [
    ⟨(some 2), none, (.box 32 (.t 0)), 0, [], [], [], []⟩,
    ⟨(some 3), none, (.box 32 (.t 1)), 1, [], [], [], []⟩,
    ⟨(some 4), none, (.mov (.c (.bool false))), 2, [], [], [], []⟩])
  (.seq
   (.rgn 20 [
    ⟨(some 5), none, (.fa (.t 2) 0), 0, [], [], [], []⟩,
    ⟨(some 6), none, (.ld (.t 5) 1 false), 1, [], [], [], []⟩,
    ⟨(some 7), none, (.fa (.t 3) 0), 2, [], [], [], []⟩,
    ⟨(some 8), none, (.ld (.t 7) 1 false), 3, [], [], [], []⟩,
    ⟨(some 9), none, (.bin .eql (.t 6) (.t 8)), 4, [], [], [], []⟩,
    ⟨(some 10), none, (.mov (.t 9)), 5, [], [], [], []⟩,
    ⟨(some 11), (some (10, true)), (.fa (.t 2) 1), 6, [], [], [], []⟩,
    ⟨(some 12), (some (10, true)), (.ld (.t 11) 1 false), 7, [], [], [], []⟩,
    ⟨(some 13), (some (10, true)), (.fa (.t 3) 1), 8, [], [], [], []⟩,
    ⟨(some 14), (some (10, true)), (.ld (.t 13) 1 false), 9, [], [], [], []⟩,
    ⟨(some 15), (some (10, true)), (.bin .eql (.t 12) (.t 14)), 10, [], [], [], []⟩,
    ⟨(some 16), none, (.pick (.t 10) (.t 15) (.c (.bool false))), 11, [], [], [], []⟩,
    ⟨(some 17), none, (.mov (.t 16)), 12, [], [], [], []⟩,
    ⟨(some 18), (some (17, true)), (.fa (.t 2) 2), 13, [], [], [], []⟩,
    ⟨(some 19), (some (17, true)), (.ld (.t 18) 1 false), 14, [], [], [], []⟩,
    ⟨(some 20), (some (17, true)), (.fa (.t 3) 2), 15, [], [], [], []⟩,
    ⟨(some 21), (some (17, true)), (.ld (.t 20) 1 false), 16, [], [], [], []⟩,
    ⟨(some 22), (some (17, true)), (.callS 36 [(.t 19), (.t 21)] true), 17, [], [], [], []⟩,
    ⟨(some 23), none, (.pick (.t 17) (.t 22) (.c (.bool false))), 18, [], [], [], []⟩,
    ⟨(some 4), none, (.mov (.t 23)), 19, [], [], [], []⟩])
  .ret))
def r18 : List ARes := [(.tmp 4)]
theorem k18 : compCode Try.prog 24 (ngOf []) (Try.f18.body.getD .skip) = some a18 := by kernel_rfl
theorem e18 {vs : List AV} {h : Hp} {n : Nat} {K : AV → Hp → Nat → Prop} (hl : vs.length ≤ 24) (hw : wpA Try.prog a18 (retA r18 K) ⟨argS vs, h, n⟩) : CallsA Try.prog 18 vs h n K :=
  fn_sound (fn := Try.f18) (c := Try.f18.body.getD .skip) mo (by kernel_rfl) (by kernel_rfl) (by kernel_rfl) k18 (by kernel_rfl) hl hw
def a19 : ACode :=
  (.seq
   (.rgn 1 [
    ⟨(some 4), none, (.mov (.c (.bool false))), 0, [], [], [], []⟩])
  (.seq
   (.seq
    (.rgn 5 [
     ⟨(some 6), none, (.mov (.t 0)), 0, [], [], [], []⟩,
     ⟨(some 7), none, (.len (.t 6)), 1, [], [], [], []⟩,
     ⟨(some 8), none, (.mov (.t 1)), 2, [], [], [], []⟩,
     ⟨(some 9), none, (.len (.t 8)), 3, [], [], [], []⟩,
     ⟨(some 10), none, (.bin .neq (.t 7) (.t 9)), 4, [], [], [], []⟩])
   (.cond (.t 10)
     (.seq
      (.rgn 1 [
       ⟨(some 4), none, (.mov (.c (.bool false))), 0, [], [], [], []⟩])
     .ret)
     .skip))
  (.seq
   (.seq
    (.rgn 1 [
     ⟨(some 5), none, (.mov (.c (.int .i64 0))), 0, [], [], [], []⟩])
   (.block 0
    (.loop
     (.seq
      (.seq
       (.rgn 4 [
        ⟨(some 11), none, (.mov (.t 5)), 0, [], [], [], []⟩,
        ⟨(some 12), none, (.mov (.t 0)), 1, [], [], [], []⟩,
        ⟨(some 13), none, (.len (.t 12)), 2, [], [], [], []⟩,
        ⟨(some 14), none, (.bin .lss (.t 11) (.t 13)), 3, [], [], [], []⟩])
      (.cond (.t 14)
        .skip
        (.exit 0)))
     (.seq
      (.block 1
       (.seq
        (.rgn 9 [
         ⟨(some 17), none, (.mov (.t 0)), 0, [], [], [], []⟩,
         ⟨(some 18), none, (.mov (.t 5)), 1, [], [], [], []⟩,
         ⟨(some 19), none, (.ia 2 (.t 17) (.t 18)), 2, [], [], [], []⟩,
         ⟨(some 20), none, (.ld (.t 19) 2 true), 3, [], [], [], []⟩,
         ⟨(some 21), none, (.mov (.t 1)), 4, [], [], [], []⟩,
         ⟨(some 22), none, (.mov (.t 5)), 5, [], [], [], []⟩,
         ⟨(some 23), none, (.ia 2 (.t 21) (.t 22)), 6, [], [], [], []⟩,
         ⟨(some 24), none, (.ld (.t 23) 2 true), 7, [], [], [], []⟩,
         ⟨(some 25), none, (.eqa true [0, 0] (.t 20) (.t 24)), 8, [], [], [], []⟩])
       (.cond (.t 25)
         (.seq
          (.rgn 1 [
           ⟨(some 4), none, (.mov (.c (.bool false))), 0, [], [], [], []⟩])
         .ret)
         .skip)))
     (.rgn 3 [
      ⟨(some 15), none, (.mov (.t 5)), 0, [], [], [], []⟩,
      ⟨(some 16), none, (.bin .add (.t 15) (.c (.int .i64 1))), 1, [], [], [], []⟩,
      ⟨(some 5), none, (.mov (.t 16)), 2, [], [], [], []⟩]))))))
  (.seq
   (.rgn 1 [
    ⟨(some 4), none, (.mov (.c (.bool true))), 0, [], [], [], []⟩])
  .ret))))
def r19 : List ARes := [(.tmp 4)]
theorem k19 : compCode Try.prog 26 (ngOf []) (Try.f19.body.getD .skip) = some a19 := by kernel_rfl
theorem e19 {vs : List AV} {h : Hp} {n : Nat} {K : AV → Hp → Nat → Prop} (hl : vs.length ≤ 26) (hw : wpA Try.prog a19 (retA r19 K) ⟨argS vs, h, n⟩) : CallsA Try.prog 19 vs h n K :=
  fn_sound (fn := Try.f19) (c := Try.f19.body.getD .skip) mo (by kernel_rfl) (by kernel_rfl) (by kernel_rfl) k19 (by kernel_rfl) hl hw
def a25 : ACode :=
  (.seq
   (.rgn 2 [
    ⟨(some 1), none, (.box 28 (.t 0)), 0, [], [], [], []⟩,
    ⟨(some 2), none, (.mov (.c (.bool false))), 1, [], [], [], []⟩])
  (.seq
   (.seq
    (.rgn 2 [
     ⟨(some 3), none, (.fa (.t 1) 0), 0, [], [], [], []⟩,
     ⟨(some 4), none, (.ld (.t 3) 1 false), 1, [], [], [], []⟩])
   (.block 0
    (.seq
     (.seq
      (.rgn 2 [
       ⟨(some 6), none, (.bin .eql (.t 4) (.c (.int .i64 1))), 0, [], [], [], []⟩,
       ⟨(some 5), none, (.mov (.t 6)), 1, [], [], [], []⟩])
     (.cond (.t 5)
       .skip
       (.seq
        (.rgn 2 [
         ⟨(some 7), none, (.bin .eql (.t 4) (.c (.int .i64 2))), 0, [], [], [], []⟩,
         ⟨(some 5), none, (.mov (.t 7)), 1, [], [], [], []⟩])
       (.cond (.t 5)
         .skip
         (.seq
          (.rgn 2 [
           ⟨(some 8), none, (.bin .eql (.t 4) (.c (.int .i64 3))), 0, [], [], [], []⟩,
           ⟨(some 5), none, (.mov (.t 8)), 1, [], [], [], []⟩])
         (.cond (.t 5)
           .skip
           (.seq
            (.rgn 2 [
             ⟨(some 9), none, (.bin .eql (.t 4) (.c (.int .i64 4))), 0, [], [], [], []⟩,
             ⟨(some 5), none, (.mov (.t 9)), 1, [], [], [], []⟩])
           (.cond (.t 5)
             .skip
             (.rgn 2 [
              ⟨(some 10), none, (.bin .eql (.t 4) (.c (.int .i64 5))), 0, [], [], [], []⟩,
              ⟨(some 5), none, (.mov (.t 10)), 1, [], [], [], []⟩])))))))))
    (.cond (.t 5)
      (.seq
       (.rgn 9 [
        ⟨(some 11), none, (.fa (.t 1) 1), 0, [], [], [], []⟩,
        ⟨(some 12), none, (.ld (.t 11) 1 false), 1, [], [], [], []⟩,
        ⟨(some 13), none, (.bin .lss (.t 12) (.c (.int .i64 0))), 2, [], [], [], []⟩,
        ⟨(some 14), none, (.mov (.t 13)), 3, [], [], [], []⟩,
        ⟨(some 15), (some (14, false)), (.fa (.t 1) 1), 4, [], [], [], []⟩,
        ⟨(some 16), (some (14, false)), (.ld (.t 15) 1 false), 5, [], [], [], []⟩,
        ⟨(some 17), (some (14, false)), (.bin .geq (.t 16) (.c (.int .i64 16))), 6, [], [], [], []⟩,
        ⟨(some 18), none, (.pick (.t 14) (.c (.bool true)) (.t 17)), 7, [], [], [], []⟩,
        ⟨(some 2), none, (.mov (.t 18)), 8, [], [], [], []⟩])
      .ret)
      .skip))))
  (.seq
   (.rgn 9 [
    ⟨(some 19), none, (.fa (.t 1) 0), 0, [], [], [], []⟩,
    ⟨(some 20), none, (.ld (.t 19) 1 false), 1, [], [], [], []⟩,
    ⟨(some 21), none, (.bin .neq (.t 20) (.c (.int .i64 6))), 2, [], [], [], []⟩,
    ⟨(some 22), none, (.mov (.t 21)), 3, [], [], [], []⟩,
    ⟨(some 23), (some (22, true)), (.fa (.t 1) 0), 4, [], [], [], []⟩,
    ⟨(some 24), (some (22, true)), (.ld (.t 23) 1 false), 5, [], [], [], []⟩,
    ⟨(some 25), (some (22, true)), (.bin .neq (.t 24) (.c (.int .i64 7))), 6, [], [], [], []⟩,
    ⟨(some 26), none, (.pick (.t 22) (.t 25) (.c (.bool false))), 7, [], [], [], []⟩,
    ⟨(some 2), none, (.mov (.t 26)), 8, [], [], [], []⟩])
  .ret)))
def r25 : List ARes := [(.tmp 2)]
theorem k25 : compCode Try.prog 27 (ngOf []) (Try.f25.body.getD .skip) = some a25 := by kernel_rfl
theorem e25 {vs : List AV} {h : Hp} {n : Nat} {K : AV → Hp → Nat → Prop} (hl : vs.length ≤ 27) (hw : wpA Try.prog a25 (retA r25 K) ⟨argS vs, h, n⟩) : CallsA Try.prog 25 vs h n K :=
  fn_sound (fn := Try.f25) (c := Try.f25.body.getD .skip) mo (by kernel_rfl) (by kernel_rfl) (by kernel_rfl) k25 (by kernel_rfl) hl hw
def a26 : ACode :=
  (.seq
   (.rgn 2 [
    ⟨(some 1), none, (.box 25 (.t 0)), 0, [], [], [], []⟩,
    ⟨(some 2), none, (.new 25 (.agg [(.isl (some true) true []), (.isl (some true) true []), (.int .i64 0)])), 1, [], [], [], []⟩])
  (.seq
   (.rgn 11 [
    ⟨(some 6), none, (.fa (.t 1) 0), 0, [], [], [], []⟩,
    ⟨(some 7), none, (.ld (.t 6) 1 false), 1, [9], [], [], []⟩,
    ⟨(some 9), none, (.fa (.t 1) 1), 3, [], [], [], []⟩,
    ⟨(some 10), none, (.ld (.t 9) 1 false), 4, [9], [], [], []⟩,
    ⟨(some 12), none, (.fa (.t 1) 2), 6, [], [], [], []⟩,
    ⟨(some 13), none, (.ld (.t 12) 1 false), 7, [9], [], [], []⟩,
    ⟨(some 3), none, (.new 25 (.agg [(.isl (some true) true []), (.isl (some true) true []), (.int .i64 0)])), 9, [], [], [], []⟩,
    ⟨(some 8), none, (.callS 46 [(.t 7)] true), 2, [9], [], [], []⟩,
    ⟨(some 11), none, (.callS 47 [(.t 10)] true), 5, [9], [], [], []⟩,
    ⟨(some 14), none, (.build [(.isl (some true) true []), (.isl (some true) true []), (.int .i64 0)] [(0, (1, (.t 8))), (1, (1, (.t 11))), (2, (1, (.t 13)))]), 8, [], [], [], []⟩,
    ⟨none, none, (.st (.t 3) 3 (.t 14)), 10, [], [], [], [9]⟩])
  (.seq
   (.seq
    (.rgn 4 [
     ⟨(some 15), none, (.fa (.t 3) 0), 0, [], [], [], []⟩,
     ⟨(some 16), none, (.ld (.t 15) 1 false), 1, [], [], [], []⟩,
     ⟨(some 17), none, (.len (.t 16)), 2, [], [], [], []⟩,
     ⟨(some 18), none, (.mov (.c (.int .i64 0))), 3, [], [], [], []⟩])
   (.block 0
    (.loop
     (.seq
      (.rgn 1 [
       ⟨(some 19), none, (.bin .lss (.t 18) (.t 17)), 0, [], [], [], []⟩])
     (.seq
      (.cond (.t 19)
        .skip
        (.exit 0))
     (.seq
      (.block 1
       (.seq
        (.rgn 2 [
         ⟨(some 20), none, (.mov (.t 18)), 0, [], [], [], []⟩,
         ⟨(some 4), none, (.mov (.t 20)), 1, [], [], [], []⟩])
       (.rgn 13 [
        ⟨(some 21), none, (.fa (.t 3) 0), 0, [], [], [], []⟩,
        ⟨(some 22), none, (.ld (.t 21) 1 false), 1, [], [], [], []⟩,
        ⟨(some 23), none, (.mov (.t 4)), 2, [], [], [], []⟩,
        ⟨(some 24), none, (.fa (.t 3) 0), 3, [], [], [], []⟩,
        ⟨(some 25), none, (.ld (.t 24) 1 false), 4, [], [], [], []⟩,
        ⟨(some 26), none, (.mov (.t 4)), 5, [], [], [], []⟩,
        ⟨(some 27), none, (.ia 5 (.t 25) (.t 26)), 6, [], [], [], []⟩,
        ⟨(some 28), none, (.fa (.t 27) 4), 7, [], [], [], []⟩,
        ⟨(some 29), none, (.ld (.t 28) 1 false), 8, [], [], [], []⟩,
        ⟨(some 30), none, (.callS 48 [(.t 29)] true), 9, [], [], [], []⟩,
        ⟨(some 31), none, (.ia 5 (.t 22) (.t 23)), 10, [], [], [], []⟩,
        ⟨(some 32), none, (.fa (.t 31) 4), 11, [], [], [], []⟩,
        ⟨none, none, (.st (.t 32) 1 (.t 30)), 12, [], [], [], []⟩])))
     (.rgn 2 [
      ⟨(some 33), none, (.bin .add (.t 18) (.c (.int .i64 1))), 0, [], [], [], []⟩,
      ⟨(some 18), none, (.mov (.t 33)), 1, [], [], [], []⟩])))))))
  (.seq
   (.seq
    (.rgn 4 [
     ⟨(some 34), none, (.fa (.t 3) 1), 0, [], [], [], []⟩,
     ⟨(some 35), none, (.ld (.t 34) 1 false), 1, [], [], [], []⟩,
     ⟨(some 36), none, (.len (.t 35)), 2, [], [], [], []⟩,
     ⟨(some 37), none, (.mov (.c (.int .i64 0))), 3, [], [], [], []⟩])
   (.block 2
    (.loop
     (.seq
      (.rgn 1 [
       ⟨(some 38), none, (.bin .lss (.t 37) (.t 36)), 0, [], [], [], []⟩])
     (.seq
      (.cond (.t 38)
        .skip
        (.exit 2))
     (.seq
      (.block 3
       (.seq
        (.rgn 2 [
         ⟨(some 39), none, (.mov (.t 37)), 0, [], [], [], []⟩,
         ⟨(some 5), none, (.mov (.t 39)), 1, [], [], [], []⟩])
       (.rgn 13 [
        ⟨(some 40), none, (.fa (.t 3) 1), 0, [], [], [], []⟩,
        ⟨(some 41), none, (.ld (.t 40) 1 false), 1, [], [], [], []⟩,
        ⟨(some 42), none, (.mov (.t 5)), 2, [], [], [], []⟩,
        ⟨(some 43), none, (.fa (.t 3) 1), 3, [], [], [], []⟩,
        ⟨(some 44), none, (.ld (.t 43) 1 false), 4, [], [], [], []⟩,
        ⟨(some 45), none, (.mov (.t 5)), 5, [], [], [], []⟩,
        ⟨(some 46), none, (.ia 2 (.t 44) (.t 45)), 6, [], [], [], []⟩,
        ⟨(some 47), none, (.fa (.t 46) 1), 7, [], [], [], []⟩,
        ⟨(some 48), none, (.ld (.t 47) 1 false), 8, [], [], [], []⟩,
        ⟨(some 49), none, (.callS 48 [(.t 48)] true), 9, [], [], [], []⟩,
        ⟨(some 50), none, (.ia 2 (.t 41) (.t 42)), 10, [], [], [], []⟩,
        ⟨(some 51), none, (.fa (.t 50) 1), 11, [], [], [], []⟩,
        ⟨none, none, (.st (.t 51) 1 (.t 49)), 12, [], [], [], []⟩])))
     (.rgn 2 [
      ⟨(some 52), none, (.bin .add (.t 37) (.c (.int .i64 1))), 0, [], [], [], []⟩,
      ⟨(some 37), none, (.mov (.t 52)), 1, [], [], [], []⟩])))))))
  (.seq
   (.rgn 2 [
    ⟨(some 53), none, (.ld (.t 3) 3 true), 0, [], [], [], []⟩,
    ⟨none, none, (.st (.t 2) 3 (.t 53)), 1, [], [], [], []⟩])
  .ret)))))
def r26 : List ARes := [(.cell 2 3 true)]
theorem k26 : compCode Try.prog 54 (ngOf []) (Try.f26.body.getD .skip) = some a26 := by kernel_rfl
theorem e26 {vs : List AV} {h : Hp} {n : Nat} {K : AV → Hp → Nat → Prop} (hl : vs.length ≤ 54) (hw : wpA Try.prog a26 (retA r26 K) ⟨argS vs, h, n⟩) : CallsA Try.prog 26 vs h n K :=
  fn_sound (fn := Try.f26) (c := Try.f26.body.getD .skip) mo (by kernel_rfl) (by kernel_rfl) (by kernel_rfl) k26 (by kernel_rfl) hl hw
def a27 : ACode :=
  (.seq
   (.rgn 2 [
    ⟨(some 3), none, (.box 28 (.t 1)), 0, [], [], [], []⟩,
    ⟨(some 4), none, (.new 32 (.agg [(.int .i64 0), (.int .i64 0), (.isl (some true) true [])])), 1, [], [], [], []⟩])
  (.seq
   (.rgn 7 [
    ⟨(some 9), none, (.mov (.t 0)), 0, [], [], [], []⟩,
    ⟨(some 10), none, (.nck (.t 9)), 1, [], [], [], []⟩,
    ⟨(some 11), none, (.fa (.t 10) 1), 2, [], [], [], []⟩,
    ⟨(some 12), none, (.ld (.t 11) 1 false), 3, [], [], [], []⟩,
    ⟨(some 13), none, (.mkf 50 [(.t 3)]), 4, [], [], [], []⟩,
    ⟨(some 14), none, (.callS 49 [(.t 12), (.t 13)] true), 5, [], [], [], []⟩,
    ⟨(some 5), none, (.mov (.t 14)), 6, [], [], [], []⟩])
  (.seq
   (.seq
    (.rgn 2 [
     ⟨(some 15), none, (.mov (.t 5)), 0, [], [], [], []⟩,
     ⟨(some 16), none, (.bin .lss (.t 15) (.c (.int .i64 0))), 1, [], [], [], []⟩])
   (.cond (.t 16)
     (.seq
      (.rgn 2 [
       ⟨(some 17), none, (.build [(.int .i64 0), (.int .i64 0), (.isl (some true) true [])] [(0, (1, (.c (.int .i64 3))))]), 0, [], [], [], []⟩,
       ⟨none, none, (.st (.t 4) 3 (.t 17)), 1, [], [], [], []⟩])
     .ret)
     .skip))
  (.seq
   (.seq
    (.rgn 3 [
     ⟨(some 18), none, (.fa (.t 3) 0), 0, [], [], [], []⟩,
     ⟨(some 19), none, (.ld (.t 18) 1 false), 1, [], [], [], []⟩,
     ⟨(some 20), none, (.bin .eql (.t 19) (.c (.int .i64 7))), 2, [], [], [], []⟩])
   (.cond (.t 20)
     (.seq
      (.rgn 12 [
       ⟨(some 21), none, (.mov (.t 0)), 0, [], [], [], []⟩,
       ⟨(some 22), none, (.mov (.t 0)), 1, [], [], [], []⟩,
       ⟨(some 23), none, (.nck (.t 22)), 2, [], [], [], []⟩,
       ⟨(some 24), none, (.fa (.t 23) 1), 3, [], [], [], []⟩,
       ⟨(some 25), none, (.ld (.t 24) 1 false), 4, [], [], [], []⟩,
       ⟨(some 26), none, (.mov (.t 5)), 5, [], [], [], []⟩,
       ⟨(some 27), none, (.mov (.t 5)), 6, [], [], [], []⟩,
       ⟨(some 28), none, (.bin .add (.t 27) (.c (.int .i64 1))), 7, [], [], [], []⟩,
       ⟨(some 29), none, (.callS 51 [(.t 25), (.t 26), (.t 28)] false), 8, [], [], [], []⟩,
       ⟨(some 30), none, (.nck (.t 21)), 9, [], [], [], []⟩,
       ⟨(some 31), none, (.fa (.t 30) 1), 10, [], [], [], []⟩,
       ⟨none, none, (.st (.t 31) 1 (.t 29)), 11, [], [], [], []⟩])
     (.seq
      (.rgn 2 [
       ⟨(some 32), none, (.build [(.int .i64 0), (.int .i64 0), (.isl (some true) true [])] []), 0, [], [], [], []⟩,
       ⟨none, none, (.st (.t 4) 3 (.t 32)), 1, [], [], [], []⟩])
     .ret))
     .skip))
  (.seq
   (.rgn 7 [
    ⟨(some 33), none, (.mov (.t 0)), 0, [], [], [], []⟩,
    ⟨(some 34), none, (.nck (.t 33)), 1, [], [], [], []⟩,
    ⟨(some 35), none, (.fa (.t 34) 1), 2, [], [], [], []⟩,
    ⟨(some 36), none, (.ld (.t 35) 1 false), 3, [], [], [], []⟩,
    ⟨(some 37), none, (.mov (.t 5)), 4, [], [], [], []⟩,
    ⟨(some 38), none, (.ia 2 (.t 36) (.t 37)), 5, [], [], [], []⟩,
    ⟨(some 6), none, (.mov (.t 38)), 6, [], [], [], []⟩])
  (.seq
   (.rgn 10 [
    ⟨(some 39), none, (.fa (.t 3) 7), 0, [], [], [], []⟩,
    ⟨(some 40), none, (.ld (.t 39) 1 false), 1, [], [], [], []⟩,
    ⟨(some 41), none, (.max [(.t 40), (.c (.int .i64 0))]), 2, [], [], [], []⟩,
    ⟨(some 42), none, (.mov (.t 6)), 3, [], [], [], []⟩,
    ⟨(some 43), none, (.nck (.t 42)), 4, [], [], [], []⟩,
    ⟨(some 44), none, (.fa (.t 43) 1), 5, [], [], [], []⟩,
    ⟨(some 45), none, (.ld (.t 44) 1 false), 6, [], [], [], []⟩,
    ⟨(some 46), none, (.len (.t 45)), 7, [], [], [], []⟩,
    ⟨(some 47), none, (.min [(.t 41), (.c (.int .i64 1000)), (.t 46)]), 8, [], [], [], []⟩,
    ⟨(some 7), none, (.mov (.t 47)), 9, [], [], [], []⟩])
  (.seq
   (.rgn 8 [
    ⟨(some 48), none, (.mov (.t 6)), 0, [], [], [], []⟩,
    ⟨(some 49), none, (.nck (.t 48)), 1, [], [], [], []⟩,
    ⟨(some 50), none, (.fa (.t 49) 1), 2, [], [], [], []⟩,
    ⟨(some 51), none, (.ld (.t 50) 1 false), 3, [], [], [], []⟩,
    ⟨(some 52), none, (.mov (.t 7)), 4, [], [], [], []⟩,
    ⟨(some 53), none, (.slc 2 (.t 51) none (some (.t 52)) none), 5, [], [], [], []⟩,
    ⟨(some 54), none, (.callS 48 [(.t 53)] true), 6, [], [], [], []⟩,
    ⟨(some 8), none, (.mov (.t 54)), 7, [], [], [], []⟩])
  (.seq
   (.rgn 11 [
    ⟨(some 55), none, (.mov (.t 6)), 0, [], [], [], []⟩,
    ⟨(some 56), none, (.mov (.t 6)), 1, [], [], [], []⟩,
    ⟨(some 57), none, (.nck (.t 56)), 2, [], [], [], []⟩,
    ⟨(some 58), none, (.fa (.t 57) 1), 3, [], [], [], []⟩,
    ⟨(some 59), none, (.ld (.t 58) 1 false), 4, [], [], [], []⟩,
    ⟨(some 60), none, (.mov (.t 7)), 5, [], [], [], []⟩,
    ⟨(some 61), none, (.slc 2 (.t 59) (some (.t 60)) none none), 6, [], [], [], []⟩,
    ⟨(some 62), none, (.callS 48 [(.t 61)] true), 7, [], [], [], []⟩,
    ⟨(some 63), none, (.nck (.t 55)), 8, [], [], [], []⟩,
    ⟨(some 64), none, (.fa (.t 63) 1), 9, [], [], [], []⟩,
    ⟨none, none, (.st (.t 64) 1 (.t 62)), 10, [], [], [], []⟩])
  (.seq
   (.rgn 3 [
    ⟨(some 65), none, (.mov (.t 8)), 0, [], [], [], []⟩,
    ⟨(some 66), none, (.build [(.int .i64 0), (.int .i64 0), (.isl (some true) true [])] [(2, (1, (.t 65)))]), 1, [], [], [], []⟩,
    ⟨none, none, (.st (.t 4) 3 (.t 66)), 2, [], [], [], []⟩])
  .ret)))))))))
def r27 : List ARes := [(.cell 4 3 true)]
theorem k27 : compCode Try.prog 67 (ngOf [(5,8)]) (Try.f27.body.getD .skip) = some a27 := by kernel_rfl
theorem e27 {vs : List AV} {h : Hp} {n : Nat} {K : AV → Hp → Nat → Prop} (hl : vs.length ≤ 67) (hw : wpA Try.prog a27 (retA r27 K) ⟨argS vs, h, n⟩) : CallsA Try.prog 27 vs h n K :=
  fn_sound (fn := Try.f27) (c := Try.f27.body.getD .skip) mo (by kernel_rfl) (by kernel_rfl) (by kernel_rfl) k27 (by kernel_rfl) hl hw
def a28 : ACode :=
  (.seq
   (.rgn 2 [
    ⟨(some 3), none, (.box 28 (.t 1)), 0, [], [], [], []⟩,
    ⟨(some 4), none, (.new 32 (.agg [(.int .i64 0), (.int .i64 0), (.isl (some true) true [])])), 1, [], [], [], []⟩])
  (.seq
   (.rgn 12 [
    ⟨(some 9), none, (.mov (.t 0)), 0, [], [], [], []⟩,
    ⟨(some 10), none, (.nck (.t 9)), 1, [], [], [], []⟩,
    ⟨(some 11), none, (.fa (.t 10) 0), 2, [], [], [], []⟩,
    ⟨(some 12), none, (.ld (.t 11) 1 false), 3, [], [], [], []⟩,
    ⟨(some 13), none, (.fa (.t 3) 1), 4, [], [], [], []⟩,
    ⟨(some 14), none, (.ld (.t 13) 1 false), 5, [], [], [], []⟩,
    ⟨(some 15), none, (.callS 52 [(.t 12), (.t 14)] true), 6, [], [], [], []⟩,
    ⟨(some 8), none, (.mov (.t 15)), 7, [], [], [], []⟩,
    ⟨(some 16), none, (.ext (.t 8) 0), 8, [], [], [], []⟩,
    ⟨(some 17), none, (.ext (.t 8) 1), 9, [], [], [], []⟩,
    ⟨(some 5), none, (.mov (.t 16)), 10, [], [], [], []⟩,
    ⟨(some 6), none, (.mov (.t 17)), 11, [], [], [], []⟩])
  (.seq
   (.seq
    (.rgn 3 [
     ⟨(some 18), none, (.fa (.t 3) 0), 0, [], [], [], []⟩,
     ⟨(some 19), none, (.ld (.t 18) 1 false), 1, [], [], [], []⟩,
     ⟨(some 20), none, (.bin .eql (.t 19) (.c (.int .i64 1))), 2, [], [], [], []⟩])
   (.cond (.t 20)
     (.seq
      (.rgn 7 [
       ⟨(some 21), none, (.mov (.t 0)), 0, [], [], [], []⟩,
       ⟨(some 22), none, (.mov (.t 5)), 1, [], [], [], []⟩,
       ⟨(some 23), none, (.mov (.t 6)), 2, [], [], [], []⟩,
       ⟨(some 24), none, (.ld (.t 3) 8 true), 3, [], [], [], []⟩,
       ⟨(some 25), none, (.callS 53 [(.t 21), (.t 22), (.t 23), (.t 24)] false), 4, [], [], [], []⟩,
       ⟨(some 26), none, (.build [(.int .i64 0), (.int .i64 0), (.isl (some true) true [])] [(0, (1, (.t 25)))]), 5, [], [], [], []⟩,
       ⟨none, none, (.st (.t 4) 3 (.t 26)), 6, [], [], [], []⟩])
     .ret)
     .skip))
  (.seq
   (.seq
    (.rgn 2 [
     ⟨(some 27), none, (.mov (.t 6)), 0, [], [], [], []⟩,
     ⟨(some 28), none, (.un .not (.t 27)), 1, [], [], [], []⟩])
   (.cond (.t 28)
     (.seq
      (.rgn 2 [
       ⟨(some 29), none, (.build [(.int .i64 0), (.int .i64 0), (.isl (some true) true [])] [(0, (1, (.c (.int .i64 3))))]), 0, [], [], [], []⟩,
       ⟨none, none, (.st (.t 4) 3 (.t 29)), 1, [], [], [], []⟩])
     .ret)
     .skip))
  (.seq
   (.rgn 7 [
    ⟨(some 30), none, (.mov (.t 0)), 0, [], [], [], []⟩,
    ⟨(some 31), none, (.nck (.t 30)), 1, [], [], [], []⟩,
    ⟨(some 32), none, (.fa (.t 31) 0), 2, [], [], [], []⟩,
    ⟨(some 33), none, (.ld (.t 32) 1 false), 3, [], [], [], []⟩,
    ⟨(some 34), none, (.mov (.t 5)), 4, [], [], [], []⟩,
    ⟨(some 35), none, (.ia 5 (.t 33) (.t 34)), 5, [], [], [], []⟩,
    ⟨(some 7), none, (.mov (.t 35)), 6, [], [], [], []⟩])
  (.seq
   (.seq
    (.rgn 2 [
     ⟨(some 36), none, (.fa (.t 3) 0), 0, [], [], [], []⟩,
     ⟨(some 37), none, (.ld (.t 36) 1 false), 1, [], [], [], []⟩])
   (.block 0
    (.seq
     (.rgn 2 [
      ⟨(some 39), none, (.bin .eql (.t 37) (.c (.int .i64 2))), 0, [], [], [], []⟩,
      ⟨(some 38), none, (.mov (.t 39)), 1, [], [], [], []⟩])
    (.cond (.t 38)
      (.seq
       (.rgn 11 [
        ⟨(some 40), none, (.mov (.t 7)), 0, [], [], [], []⟩,
        ⟨(some 41), none, (.nck (.t 40)), 1, [], [], [], []⟩,
        ⟨(some 42), none, (.fa (.t 41) 4), 2, [], [], [], []⟩,
        ⟨(some 43), none, (.ld (.t 42) 1 false), 3, [], [], [], []⟩,
        ⟨(some 44), none, (.fa (.t 3) 5), 4, [], [], [], []⟩,
        ⟨(some 45), none, (.ld (.t 44) 1 false), 5, [], [], [], []⟩,
        ⟨(some 46), none, (.fa (.t 3) 6), 6, [], [], [], []⟩,
        ⟨(some 47), none, (.ld (.t 46) 1 false), 7, [], [], [], []⟩,
        ⟨(some 48), none, (.callS 54 [(.t 43), (.t 45), (.t 47)] true), 8, [], [], [], []⟩,
        ⟨(some 49), none, (.build [(.int .i64 0), (.int .i64 0), (.isl (some true) true [])] [(2, (1, (.t 48)))]), 9, [], [], [], []⟩,
        ⟨none, none, (.st (.t 4) 3 (.t 49)), 10, [], [], [], []⟩])
      .ret)
      (.seq
       (.rgn 2 [
        ⟨(some 51), none, (.bin .eql (.t 37) (.c (.int .i64 3))), 0, [], [], [], []⟩,
        ⟨(some 50), none, (.mov (.t 51)), 1, [], [], [], []⟩])
      (.cond (.t 50)
        (.seq
         (.seq
          (.rgn 4 [
           ⟨(some 52), none, (.mov (.t 7)), 0, [], [], [], []⟩,
           ⟨(some 53), none, (.nck (.t 52)), 1, [], [], [], []⟩,
           ⟨(some 54), none, (.fa (.t 53) 1), 2, [], [], [], []⟩,
           ⟨(some 55), none, (.ld (.t 54) 1 false), 3, [], [], [], []⟩])
         (.cond (.t 55)
           (.seq
            (.rgn 2 [
             ⟨(some 56), none, (.build [(.int .i64 0), (.int .i64 0), (.isl (some true) true [])] [(0, (1, (.c (.int .i64 2))))]), 0, [], [], [], []⟩,
             ⟨none, none, (.st (.t 4) 3 (.t 56)), 1, [], [], [], []⟩])
           .ret)
           .skip))
        (.rgn 4 [
         ⟨(some 57), none, (.mov (.t 7)), 0, [], [], [], []⟩,
         ⟨(some 58), none, (.nck (.t 57)), 1, [], [], [], []⟩,
         ⟨(some 59), none, (.fa (.t 58) 1), 2, [], [], [], []⟩,
         ⟨none, none, (.st (.t 59) 1 (.c (.bool true))), 3, [], [], [], []⟩]))
        (.seq
         (.rgn 2 [
          ⟨(some 61), none, (.bin .eql (.t 37) (.c (.int .i64 4))), 0, [], [], [], []⟩,
          ⟨(some 60), none, (.mov (.t 61)), 1, [], [], [], []⟩])
        (.cond (.t 60)
          (.rgn 12 [
           ⟨(some 62), none, (.mov (.t 0)), 0, [], [], [], []⟩,
           ⟨(some 63), none, (.mov (.t 0)), 1, [], [], [], []⟩,
           ⟨(some 64), none, (.nck (.t 63)), 2, [], [], [], []⟩,
           ⟨(some 65), none, (.fa (.t 64) 0), 3, [], [], [], []⟩,
           ⟨(some 66), none, (.ld (.t 65) 1 false), 4, [], [], [], []⟩,
           ⟨(some 67), none, (.mov (.t 5)), 5, [], [], [], []⟩,
           ⟨(some 68), none, (.mov (.t 5)), 6, [], [], [], []⟩,
           ⟨(some 69), none, (.bin .add (.t 68) (.c (.int .i64 1))), 7, [], [], [], []⟩,
           ⟨(some 70), none, (.callS 55 [(.t 66), (.t 67), (.t 69)] false), 8, [], [], [], []⟩,
           ⟨(some 71), none, (.nck (.t 62)), 9, [], [], [], []⟩,
           ⟨(some 72), none, (.fa (.t 71) 0), 10, [], [], [], []⟩,
           ⟨none, none, (.st (.t 72) 1 (.t 70)), 11, [], [], [], []⟩])
          (.seq
           (.rgn 2 [
            ⟨(some 74), none, (.bin .eql (.t 37) (.c (.int .i64 5))), 0, [], [], [], []⟩,
            ⟨(some 73), none, (.mov (.t 74)), 1, [], [], [], []⟩])
          (.cond (.t 73)
            (.seq
             (.seq
              (.rgn 6 [
               ⟨(some 75), none, (.mov (.t 0)), 0, [], [], [], []⟩,
               ⟨(some 76), none, (.nck (.t 75)), 1, [], [], [], []⟩,
               ⟨(some 77), none, (.fa (.t 76) 1), 2, [], [], [], []⟩,
               ⟨(some 78), none, (.ld (.t 77) 1 false), 3, [], [], [], []⟩,
               ⟨(some 79), none, (.len (.t 78)), 4, [], [], [], []⟩,
               ⟨(some 80), none, (.bin .geq (.t 79) (.c (.int .i64 8))), 5, [], [], [], []⟩])
             (.cond (.t 80)
               (.seq
                (.rgn 2 [
                 ⟨(some 81), none, (.build [(.int .i64 0), (.int .i64 0), (.isl (some true) true [])] [(0, (1, (.c (.int .i64 5))))]), 0, [], [], [], []⟩,
                 ⟨none, none, (.st (.t 4) 3 (.t 81)), 1, [], [], [], []⟩])
               .ret)
               .skip))
            (.seq
             (.rgn 8 [
              ⟨(some 82), none, (.mov (.t 0)), 0, [], [], [], []⟩,
              ⟨(some 83), none, (.nck (.t 82)), 1, [], [], [], []⟩,
              ⟨(some 84), none, (.fa (.t 83) 2), 2, [], [], [], []⟩,
              ⟨(some 85), none, (.ld (.t 84) 1 false), 3, [], [], [], []⟩,
              ⟨(some 86), none, (.bin .add (.t 85) (.c (.int .i64 1))), 4, [], [], [], []⟩,
              ⟨(some 87), none, (.nck (.t 82)), 5, [], [], [], []⟩,
              ⟨(some 88), none, (.fa (.t 87) 2), 6, [], [], [], []⟩,
              ⟨none, none, (.st (.t 88) 1 (.t 86)), 7, [], [], [], []⟩])
            (.seq
             (.rgn 24 [
              ⟨(some 89), none, (.mov (.t 0)), 0, [], [], [], []⟩,
              ⟨(some 90), none, (.mov (.t 0)), 1, [], [], [], []⟩,
              ⟨(some 91), none, (.nck (.t 90)), 2, [], [], [], []⟩,
              ⟨(some 92), none, (.fa (.t 91) 1), 3, [], [], [], []⟩,
              ⟨(some 93), none, (.ld (.t 92) 1 false), 4, [19], [], [], []⟩,
              ⟨(some 94), none, (.mov (.t 0)), 5, [], [], [], []⟩,
              ⟨(some 95), none, (.nck (.t 94)), 6, [], [], [], []⟩,
              ⟨(some 96), none, (.fa (.t 95) 2), 7, [], [], [], []⟩,
              ⟨(some 97), none, (.ld (.t 96) 1 false), 8, [], [], [], []⟩,
              ⟨(some 98), none, (.mov (.t 7)), 9, [], [], [], []⟩,
              ⟨(some 99), none, (.nck (.t 98)), 10, [], [], [], []⟩,
              ⟨(some 100), none, (.fa (.t 99) 4), 11, [], [], [], []⟩,
              ⟨(some 101), none, (.ld (.t 100) 1 false), 12, [], [], [], []⟩,
              ⟨(some 102), none, (.fa (.t 3) 5), 13, [], [], [], []⟩,
              ⟨(some 103), none, (.ld (.t 102) 1 false), 14, [], [], [], []⟩,
              ⟨(some 104), none, (.fa (.t 3) 6), 15, [], [], [], []⟩,
              ⟨(some 105), none, (.ld (.t 104) 1 false), 16, [], [], [], []⟩,
              ⟨(some 106), none, (.callS 54 [(.t 101), (.t 103), (.t 105)] true), 17, [], [], [], []⟩,
              ⟨(some 107), none, (.build [(.int .i64 0), (.isl (some true) true [])] [(0, (1, (.t 97))), (1, (1, (.t 106)))]), 18, [], [], [], []⟩,
              ⟨(some 108), none, (.bsl 46 2 1 [(.int .i64 0), (.isl (some true) true [])] [(0, (.t 107))]), 19, [], [], [], []⟩,
              ⟨(some 109), none, (.app 46 2 32 (.t 93) (.t 108)), 20, [], [], [], []⟩,
              ⟨(some 110), none, (.nck (.t 89)), 21, [], [], [], []⟩,
              ⟨(some 111), none, (.fa (.t 110) 1), 22, [], [], [], []⟩,
              ⟨none, none, (.st (.t 111) 1 (.t 109)), 23, [], [], [], []⟩])
            (.seq
             (.rgn 6 [
              ⟨(some 112), none, (.mov (.t 0)), 0, [], [], [], []⟩,
              ⟨(some 113), none, (.nck (.t 112)), 1, [], [], [], []⟩,
              ⟨(some 114), none, (.fa (.t 113) 2), 2, [], [], [], []⟩,
              ⟨(some 115), none, (.ld (.t 114) 1 false), 3, [], [], [], []⟩,
              ⟨(some 116), none, (.build [(.int .i64 0), (.int .i64 0), (.isl (some true) true [])] [(1, (1, (.t 115)))]), 4, [], [], [], []⟩,
              ⟨none, none, (.st (.t 4) 3 (.t 116)), 5, [], [], [], []⟩])
            .ret))))
            .skip))))))))))
  (.seq
   (.rgn 2 [
    ⟨(some 117), none, (.build [(.int .i64 0), (.int .i64 0), (.isl (some true) true [])] []), 0, [], [], [], []⟩,
    ⟨none, none, (.st (.t 4) 3 (.t 117)), 1, [], [], [], []⟩])
  .ret)))))))
def r28 : List ARes := [(.cell 4 3 true)]
theorem k28 : compCode Try.prog 118 (ngOf [(3,4), (15,8)]) (Try.f28.body.getD .skip) = some a28 := by kernel_rfl
theorem e28 {vs : List AV} {h : Hp} {n : Nat} {K : AV → Hp → Nat → Prop} (hl : vs.length ≤ 118) (hw : wpA Try.prog a28 (retA r28 K) ⟨argS vs, h, n⟩) : CallsA Try.prog 28 vs h n K :=
  fn_sound (fn := Try.f28) (c := Try.f28.body.getD .skip) mo (by kernel_rfl) (by kernel_rfl) (by kernel_rfl) k28 (by kernel_rfl) hl hw
def a29 : ACode :=
  (.seq
   (.rgn 2 [
    ⟨(some 1), none, (.box 25 (.t 0)), 0, [], [], [], []⟩,
    ⟨(some 2), none, (.new 25 (.agg [(.isl (some true) true []), (.isl (some true) true []), (.int .i64 0)])), 1, [], [], [], []⟩])
  (.seq
   (.rgn 5 [
    ⟨(some 7), none, (.fa (.t 1) 2), 0, [], [], [], []⟩,
    ⟨(some 8), none, (.ld (.t 7) 1 false), 1, [], [], [], []⟩,
    ⟨(some 9), none, (.build [(.isl (some true) true []), (.isl (some true) true []), (.int .i64 0)] [(2, (1, (.t 8)))]), 2, [], [], [], []⟩,
    ⟨(some 3), none, (.new 25 (.agg [(.isl (some true) true []), (.isl (some true) true []), (.int .i64 0)])), 3, [], [], [], []⟩,
    ⟨none, none, (.st (.t 3) 3 (.t 9)), 4, [], [], [], []⟩])
  (.seq
   (.seq
    (.rgn 1 [
     ⟨(some 4), none, (.mov (.c (.int .i64 0))), 0, [], [], [], []⟩])
   (.block 0
    (.loop
     (.seq
      (.seq
       (.rgn 5 [
        ⟨(some 10), none, (.mov (.t 4)), 0, [], [], [], []⟩,
        ⟨(some 11), none, (.fa (.t 1) 0), 1, [], [], [], []⟩,
        ⟨(some 12), none, (.ld (.t 11) 1 false), 2, [], [], [], []⟩,
        ⟨(some 13), none, (.len (.t 12)), 3, [], [], [], []⟩,
        ⟨(some 14), none, (.bin .lss (.t 10) (.t 13)), 4, [], [], [], []⟩])
      (.cond (.t 14)
        .skip
        (.exit 0)))
     (.seq
      (.block 1
       (.seq
        (.rgn 7 [
         ⟨(some 17), none, (.fa (.t 1) 0), 0, [], [], [], []⟩,
         ⟨(some 18), none, (.ld (.t 17) 1 false), 1, [], [], [], []⟩,
         ⟨(some 19), none, (.mov (.t 4)), 2, [], [], [], []⟩,
         ⟨(some 20), none, (.ia 5 (.t 18) (.t 19)), 3, [], [], [], []⟩,
         ⟨(some 21), none, (.ld (.t 20) 5 true), 4, [], [], [], []⟩,
         ⟨(some 5), none, (.new 38 (.agg [(.int .i64 0), (.bool false), (.bool false), (.int .i64 0), (.isl (some true) true [])])), 5, [], [], [], []⟩,
         ⟨none, none, (.st (.t 5) 5 (.t 21)), 6, [], [], [], []⟩])
       (.seq
        (.rgn 5 [
         ⟨(some 22), none, (.fa (.t 5) 4), 0, [], [], [], []⟩,
         ⟨(some 23), none, (.ld (.t 22) 1 false), 1, [], [], [], []⟩,
         ⟨(some 24), none, (.callS 33 [(.t 23)] true), 2, [], [], [], []⟩,
         ⟨(some 25), none, (.fa (.t 5) 4), 3, [], [], [], []⟩,
         ⟨none, none, (.st (.t 25) 1 (.t 24)), 4, [], [], [], []⟩])
       (.rgn 7 [
        ⟨(some 26), none, (.fa (.t 3) 0), 0, [], [], [], []⟩,
        ⟨(some 27), none, (.ld (.t 26) 1 false), 1, [], [], [], []⟩,
        ⟨(some 28), none, (.ld (.t 5) 5 true), 2, [], [], [], []⟩,
        ⟨(some 29), none, (.bsl 38 5 1 [(.int .i64 0), (.bool false), (.bool false), (.int .i64 0), (.isl (some true) true [])] [(0, (.t 28))]), 3, [], [], [], []⟩,
        ⟨(some 30), none, (.app 38 5 48 (.t 27) (.t 29)), 4, [], [], [], []⟩,
        ⟨(some 31), none, (.fa (.t 3) 0), 5, [], [], [], []⟩,
        ⟨none, none, (.st (.t 31) 1 (.t 30)), 6, [], [], [], []⟩]))))
     (.rgn 3 [
      ⟨(some 15), none, (.mov (.t 4)), 0, [], [], [], []⟩,
      ⟨(some 16), none, (.bin .add (.t 15) (.c (.int .i64 1))), 1, [], [], [], []⟩,
      ⟨(some 4), none, (.mov (.t 16)), 2, [], [], [], []⟩]))))))
  (.seq
   (.seq
    (.rgn 1 [
     ⟨(some 6), none, (.mov (.c (.int .i64 0))), 0, [], [], [], []⟩])
   (.block 2
    (.loop
     (.seq
      (.seq
       (.rgn 5 [
        ⟨(some 32), none, (.mov (.t 6)), 0, [], [], [], []⟩,
        ⟨(some 33), none, (.fa (.t 1) 1), 1, [], [], [], []⟩,
        ⟨(some 34), none, (.ld (.t 33) 1 false), 2, [], [], [], []⟩,
        ⟨(some 35), none, (.len (.t 34)), 3, [], [], [], []⟩,
        ⟨(some 36), none, (.bin .lss (.t 32) (.t 35)), 4, [], [], [], []⟩])
      (.cond (.t 36)
        .skip
        (.exit 2)))
     (.seq
      (.block 3
       (.rgn 20 [
        ⟨(some 39), none, (.fa (.t 3) 1), 0, [], [], [], []⟩,
        ⟨(some 40), none, (.ld (.t 39) 1 false), 1, [16], [], [], []⟩,
        ⟨(some 41), none, (.fa (.t 1) 1), 2, [], [], [], []⟩,
        ⟨(some 42), none, (.ld (.t 41) 1 false), 3, [], [], [], []⟩,
        ⟨(some 43), none, (.mov (.t 6)), 4, [], [], [], []⟩,
        ⟨(some 44), none, (.ia 2 (.t 42) (.t 43)), 5, [], [], [], []⟩,
        ⟨(some 45), none, (.fa (.t 44) 0), 6, [], [], [], []⟩,
        ⟨(some 46), none, (.ld (.t 45) 1 false), 7, [], [], [], []⟩,
        ⟨(some 47), none, (.fa (.t 1) 1), 8, [], [], [], []⟩,
        ⟨(some 48), none, (.ld (.t 47) 1 false), 9, [], [], [], []⟩,
        ⟨(some 49), none, (.mov (.t 6)), 10, [], [], [], []⟩,
        ⟨(some 50), none, (.ia 2 (.t 48) (.t 49)), 11, [], [], [], []⟩,
        ⟨(some 51), none, (.fa (.t 50) 1), 12, [], [], [], []⟩,
        ⟨(some 52), none, (.ld (.t 51) 1 false), 13, [], [], [], []⟩,
        ⟨(some 53), none, (.callS 33 [(.t 52)] true), 14, [], [], [], []⟩,
        ⟨(some 54), none, (.build [(.int .i64 0), (.isl (some true) true [])] [(0, (1, (.t 46))), (1, (1, (.t 53)))]), 15, [], [], [], []⟩,
        ⟨(some 55), none, (.bsl 46 2 1 [(.int .i64 0), (.isl (some true) true [])] [(0, (.t 54))]), 16, [], [], [], []⟩,
        ⟨(some 56), none, (.app 46 2 32 (.t 40) (.t 55)), 17, [], [], [], []⟩,
        ⟨(some 57), none, (.fa (.t 3) 1), 18, [], [], [], []⟩,
        ⟨none, none, (.st (.t 57) 1 (.t 56)), 19, [], [], [], []⟩]))
     (.rgn 3 [
      ⟨(some 37), none, (.mov (.t 6)), 0, [], [], [], []⟩,
      ⟨(some 38), none, (.bin .add (.t 37) (.c (.int .i64 1))), 1, [], [], [], []⟩,
      ⟨(some 6), none, (.mov (.t 38)), 2, [], [], [], []⟩]))))))
  (.seq
   (.rgn 2 [
    ⟨(some 58), none, (.ld (.t 3) 3 true), 0, [], [], [], []⟩,
    ⟨none, none, (.st (.t 2) 3 (.t 58)), 1, [], [], [], []⟩])
  .ret)))))
def r29 : List ARes := [(.cell 2 3 true)]
theorem k29 : compCode Try.prog 59 (ngOf []) (Try.f29.body.getD .skip) = some a29 := by kernel_rfl
theorem e29 {vs : List AV} {h : Hp} {n : Nat} {K : AV → Hp → Nat → Prop} (hl : vs.length ≤ 59) (hw : wpA Try.prog a29 (retA r29 K) ⟨argS vs, h, n⟩) : CallsA Try.prog 29 vs h n K :=
  fn_sound (fn := Try.f29) (c := Try.f29.body.getD .skip) mo (by kernel_rfl) (by kernel_rfl) (by kernel_rfl) k29 (by kernel_rfl) hl hw
def a30 : ACode :=
  (.seq
   (.rgn 2 [
    ⟨(some 2), none, (.box 25 (.t 0)), 0, [], [], [], []⟩,
    ⟨(some 4), none, (.mov (.c (.int .i64 0))), 1, [], [], [], []⟩])
  (.seq
   (.seq
    (.rgn 1 [
     ⟨(some 5), none, (.mov (.c (.int .i64 0))), 0, [], [], [], []⟩])
   (.block 0
    (.loop
     (.seq
      (.seq
       (.rgn 5 [
        ⟨(some 6), none, (.mov (.t 5)), 0, [], [], [], []⟩,
        ⟨(some 7), none, (.fa (.t 2) 0), 1, [], [], [], []⟩,
        ⟨(some 8), none, (.ld (.t 7) 1 false), 2, [], [], [], []⟩,
        ⟨(some 9), none, (.len (.t 8)), 3, [], [], [], []⟩,
        ⟨(some 10), none, (.bin .lss (.t 6) (.t 9)), 4, [], [], [], []⟩])
      (.cond (.t 10)
        .skip
        (.exit 0)))
     (.seq
      (.block 1
       (.seq
        (.rgn 8 [
         ⟨(some 13), none, (.fa (.t 2) 0), 0, [], [], [], []⟩,
         ⟨(some 14), none, (.ld (.t 13) 1 false), 1, [], [], [], []⟩,
         ⟨(some 15), none, (.mov (.t 5)), 2, [], [], [], []⟩,
         ⟨(some 16), none, (.ia 5 (.t 14) (.t 15)), 3, [], [], [], []⟩,
         ⟨(some 17), none, (.fa (.t 16) 0), 4, [], [], [], []⟩,
         ⟨(some 18), none, (.ld (.t 17) 1 false), 5, [], [], [], []⟩,
         ⟨(some 19), none, (.mov (.t 1)), 6, [], [], [], []⟩,
         ⟨(some 20), none, (.bin .eql (.t 18) (.t 19)), 7, [], [], [], []⟩])
       (.cond (.t 20)
         (.seq
          (.rgn 2 [
           ⟨(some 21), none, (.mov (.t 5)), 0, [], [], [], []⟩,
           ⟨(some 4), none, (.mov (.t 21)), 1, [], [], [], []⟩])
         .ret)
         .skip)))
     (.rgn 3 [
      ⟨(some 11), none, (.mov (.t 5)), 0, [], [], [], []⟩,
      ⟨(some 12), none, (.bin .add (.t 11) (.c (.int .i64 1))), 1, [], [], [], []⟩,
      ⟨(some 5), none, (.mov (.t 12)), 2, [], [], [], []⟩]))))))
  (.seq
   (.rgn 1 [
    ⟨(some 4), none, (.mov (.c (.int .i64 (-1)))), 0, [], [], [], []⟩])
  .ret)))
def r30 : List ARes := [(.tmp 4)]
theorem k30 : compCode Try.prog 22 (ngOf []) (Try.f30.body.getD .skip) = some a30 := by kernel_rfl
theorem e30 {vs : List AV} {h : Hp} {n : Nat} {K : AV → Hp → Nat → Prop} (hl : vs.length ≤ 22) (hw : wpA Try.prog a30 (retA r30 K) ⟨argS vs, h, n⟩) : CallsA Try.prog 30 vs h n K :=
  fn_sound (fn := Try.f30) (c := Try.f30.body.getD .skip) mo (by kernel_rfl) (by kernel_rfl) (by kernel_rfl) k30 (by kernel_rfl) hl hw
def a31 : ACode :=
  (.seq
   (.rgn 2 [
    ⟨(some 2), none, (.box 25 (.t 0)), 0, [], [], [], []⟩,
    ⟨(some 4), none, (.mov (.c (.int .i64 0))), 1, [], [], [], []⟩])
  (.seq
   (.seq
    (.rgn 1 [
     ⟨(some 5), none, (.mov (.c (.int .i64 0))), 0, [], [], [], []⟩])
   (.block 0
    (.loop
     (.seq
      (.seq
       (.rgn 5 [
        ⟨(some 6), none, (.mov (.t 5)), 0, [], [], [], []⟩,
        ⟨(some 7), none, (.fa (.t 2) 1), 1, [], [], [], []⟩,
        ⟨(some 8), none, (.ld (.t 7) 1 false), 2, [], [], [], []⟩,
        ⟨(some 9), none, (.len (.t 8)), 3, [], [], [], []⟩,
        ⟨(some 10), none, (.bin .lss (.t 6) (.t 9)), 4, [], [], [], []⟩])
      (.cond (.t 10)
        .skip
        (.exit 0)))
     (.seq
      (.block 1
       (.seq
        (.rgn 8 [
         ⟨(some 13), none, (.fa (.t 2) 1), 0, [], [], [], []⟩,
         ⟨(some 14), none, (.ld (.t 13) 1 false), 1, [], [], [], []⟩,
         ⟨(some 15), none, (.mov (.t 5)), 2, [], [], [], []⟩,
         ⟨(some 16), none, (.ia 2 (.t 14) (.t 15)), 3, [], [], [], []⟩,
         ⟨(some 17), none, (.fa (.t 16) 0), 4, [], [], [], []⟩,
         ⟨(some 18), none, (.ld (.t 17) 1 false), 5, [], [], [], []⟩,
         ⟨(some 19), none, (.mov (.t 1)), 6, [], [], [], []⟩,
         ⟨(some 20), none, (.bin .eql (.t 18) (.t 19)), 7, [], [], [], []⟩])
       (.cond (.t 20)
         (.seq
          (.rgn 2 [
           ⟨(some 21), none, (.mov (.t 5)), 0, [], [], [], []⟩,
           ⟨(some 4), none, (.mov (.t 21)), 1, [], [], [], []⟩])
         .ret)
         .skip)))
     (.rgn 3 [
      ⟨(some 11), none, (.mov (.t 5)), 0, [], [], [], []⟩,
      ⟨(some 12), none, (.bin .add (.t 11) (.c (.int .i64 1))), 1, [], [], [], []⟩,
      ⟨(some 5), none, (.mov (.t 12)), 2, [], [], [], []⟩]))))))
  (.seq
   (.rgn 1 [
    ⟨(some 4), none, (.mov (.c (.int .i64 (-1)))), 0, [], [], [], []⟩])
  .ret)))
def r31 : List ARes := [(.tmp 4)]
theorem k31 : compCode Try.prog 22 (ngOf []) (Try.f31.body.getD .skip) = some a31 := by kernel_rfl
theorem e31 {vs : List AV} {h : Hp} {n : Nat} {K : AV → Hp → Nat → Prop} (hl : vs.length ≤ 22) (hw : wpA Try.prog a31 (retA r31 K) ⟨argS vs, h, n⟩) : CallsA Try.prog 31 vs h n K :=
  fn_sound (fn := Try.f31) (c := Try.f31.body.getD .skip) mo (by kernel_rfl) (by kernel_rfl) (by kernel_rfl) k31 (by kernel_rfl) hl hw
def a32 : ACode :=
  (.seq
   (.rgn 3 [
    ⟨(some 2), none, (.box 25 (.t 0)), 0, [], [], [], []⟩,
    ⟨(some 4), none, (.new 25 (.agg [(.isl (some true) true []), (.isl (some true) true []), (.int .i64 0)])), 1, [], [], [], []⟩,
    ⟨(some 5), none, (.mov (.c (.int .i64 0))), 2, [], [], [], []⟩])
  (.seq
   (.rgn 1 [
    ⟨(some 6), none, (.mov (.c (.int .i64 0))), 0, [], [], [], []⟩])
  (.seq
   (.block 0
    (.loop
     (.seq
      (.seq
       (.rgn 15 [
        ⟨(some 8), none, (.mov (.t 6)), 0, [], [], [], []⟩,
        ⟨(some 9), none, (.fa (.t 2) 0), 1, [], [], [], []⟩,
        ⟨(some 10), none, (.ld (.t 9) 1 false), 2, [], [], [], []⟩,
        ⟨(some 11), none, (.len (.t 10)), 3, [], [], [], []⟩,
        ⟨(some 12), none, (.bin .lss (.t 8) (.t 11)), 4, [], [], [], []⟩,
        ⟨(some 13), none, (.mov (.t 12)), 5, [], [], [], []⟩,
        ⟨(some 14), (some (13, true)), (.fa (.t 2) 0), 6, [], [], [], []⟩,
        ⟨(some 15), (some (13, true)), (.ld (.t 14) 1 false), 7, [], [], [], []⟩,
        ⟨(some 16), (some (13, true)), (.mov (.t 6)), 8, [], [], [], []⟩,
        ⟨(some 17), (some (13, true)), (.ia 5 (.t 15) (.t 16)), 9, [], [], [], []⟩,
        ⟨(some 18), (some (13, true)), (.fa (.t 17) 0), 10, [], [], [], []⟩,
        ⟨(some 19), (some (13, true)), (.ld (.t 18) 1 false), 11, [], [], [], []⟩,
        ⟨(some 20), (some (13, true)), (.mov (.t 1)), 12, [], [], [], []⟩,
        ⟨(some 21), (some (13, true)), (.bin .lss (.t 19) (.t 20)), 13, [], [], [], []⟩,
        ⟨(some 22), none, (.pick (.t 13) (.t 21) (.c (.bool false))), 14, [], [], [], []⟩])
      (.cond (.t 22)
        .skip
        (.exit 0)))
     (.block 1
      (.rgn 3 [
       ⟨(some 23), none, (.mov (.t 6)), 0, [], [], [], []⟩,
       ⟨(some 24), none, (.bin .add (.t 23) (.c (.int .i64 1))), 1, [], [], [], []⟩,
       ⟨(some 6), none, (.mov (.t 24)), 2, [], [], [], []⟩])))))
  (.seq
   (.seq
    (.rgn 15 [
     ⟨(some 25), none, (.mov (.t 6)), 0, [], [], [], []⟩,
     ⟨(some 26), none, (.fa (.t 2) 0), 1, [], [], [], []⟩,
     ⟨(some 27), none, (.ld (.t 26) 1 false), 2, [], [], [], []⟩,
     ⟨(some 28), none, (.len (.t 27)), 3, [], [], [], []⟩,
     ⟨(some 29), none, (.bin .lss (.t 25) (.t 28)), 4, [], [], [], []⟩,
     ⟨(some 30), none, (.mov (.t 29)), 5, [], [], [], []⟩,
     ⟨(some 31), (some (30, true)), (.fa (.t 2) 0), 6, [], [], [], []⟩,
     ⟨(some 32), (some (30, true)), (.ld (.t 31) 1 false), 7, [], [], [], []⟩,
     ⟨(some 33), (some (30, true)), (.mov (.t 6)), 8, [], [], [], []⟩,
     ⟨(some 34), (some (30, true)), (.ia 5 (.t 32) (.t 33)), 9, [], [], [], []⟩,
     ⟨(some 35), (some (30, true)), (.fa (.t 34) 0), 10, [], [], [], []⟩,
     ⟨(some 36), (some (30, true)), (.ld (.t 35) 1 false), 11, [], [], [], []⟩,
     ⟨(some 37), (some (30, true)), (.mov (.t 1)), 12, [], [], [], []⟩,
     ⟨(some 38), (some (30, true)), (.bin .eql (.t 36) (.t 37)), 13, [], [], [], []⟩,
     ⟨(some 39), none, (.pick (.t 30) (.t 38) (.c (.bool false))), 14, [], [], [], []⟩])
   (.cond (.t 39)
     (.seq
      (.rgn 4 [
       ⟨(some 40), none, (.ld (.t 2) 3 true), 0, [], [], [], []⟩,
       ⟨(some 41), none, (.mov (.t 6)), 1, [], [], [], []⟩,
       ⟨none, none, (.st (.t 4) 3 (.t 40)), 2, [], [], [], []⟩,
       ⟨(some 5), none, (.mov (.t 41)), 3, [], [], [], []⟩])
     .ret)
     .skip))
  (.seq
   (.rgn 7 [
    ⟨(some 42), none, (.bsl 38 5 0 [] []), 0, [], [], [], []⟩,
    ⟨(some 43), none, (.fa (.t 2) 0), 1, [], [], [], []⟩,
    ⟨(some 44), none, (.ld (.t 43) 1 false), 2, [], [], [], []⟩,
    ⟨(some 45), none, (.mov (.t 6)), 3, [], [], [], []⟩,
    ⟨(some 46), none, (.slc 5 (.t 44) none (some (.t 45)) none), 4, [], [], [], []⟩,
    ⟨(some 47), none, (.app 38 5 48 (.t 42) (.t 46)), 5, [], [], [], []⟩,
    ⟨(some 7), none, (.mov (.t 47)), 6, [], [], [], []⟩])
  (.seq
   (.rgn 11 [
    ⟨(some 48), none, (.mov (.t 7)), 0, [], [], [], []⟩,
    ⟨(some 49), none, (.mov (.t 1)), 1, [], [], [], []⟩,
    ⟨(some 50), none, (.build [(.int .i64 0), (.bool false), (.bool false), (.int .i64 0), (.isl (some true) true [])] [(0, (1, (.t 49)))]), 2, [], [], [], []⟩,
    ⟨(some 51), none, (.bsl 38 5 1 [(.int .i64 0), (.bool false), (.bool false), (.int .i64 0), (.isl (some true) true [])] [(0, (.t 50))]), 3, [], [], [], []⟩,
    ⟨(some 53), none, (.fa (.t 2) 0), 5, [], [], [], []⟩,
    ⟨(some 54), none, (.ld (.t 53) 1 false), 6, [3, 4], [], [2], []⟩,
    ⟨(some 55), none, (.mov (.t 6)), 7, [], [], [], []⟩,
    ⟨(some 56), none, (.slc 5 (.t 54) (some (.t 55)) none none), 8, [], [], [], []⟩,
    ⟨(some 52), none, (.app 38 5 48 (.t 48) (.t 51)), 4, [], [2], [], []⟩,
    ⟨(some 57), none, (.app 38 5 48 (.t 52) (.t 56)), 9, [], [], [], []⟩,
    ⟨(some 7), none, (.mov (.t 57)), 10, [], [], [], []⟩])
  (.seq
   (.rgn 3 [
    ⟨(some 58), none, (.mov (.t 7)), 0, [], [], [], []⟩,
    ⟨(some 59), none, (.fa (.t 2) 0), 1, [], [], [], []⟩,
    ⟨none, none, (.st (.t 59) 1 (.t 58)), 2, [], [], [], []⟩])
  (.seq
   (.rgn 4 [
    ⟨(some 60), none, (.ld (.t 2) 3 true), 0, [], [], [], []⟩,
    ⟨(some 61), none, (.mov (.t 6)), 1, [], [], [], []⟩,
    ⟨none, none, (.st (.t 4) 3 (.t 60)), 2, [], [], [], []⟩,
    ⟨(some 5), none, (.mov (.t 61)), 3, [], [], [], []⟩])
  .ret))))))))
def r32 : List ARes := [(.cell 4 3 true), (.tmp 5)]
theorem k32 : compCode Try.prog 62 (ngOf []) (Try.f32.body.getD .skip) = some a32 := by kernel_rfl
theorem e32 {vs : List AV} {h : Hp} {n : Nat} {K : AV → Hp → Nat → Prop} (hl : vs.length ≤ 62) (hw : wpA Try.prog a32 (retA r32 K) ⟨argS vs, h, n⟩) : CallsA Try.prog 32 vs h n K :=
  fn_sound (fn := Try.f32) (c := Try.f32.body.getD .skip) mo (by kernel_rfl) (by kernel_rfl) (by kernel_rfl) k32 (by kernel_rfl) hl hw
def a33 : ACode :=
  (.seq
   (.rgn 1 [
    ⟨(some 2), none, (.mov (.c (.isl (some true) true []))), 0, [], [], [], []⟩])
  (.seq
   (.rgn 4 [
    ⟨(some 3), none, (.bsl 44 2 0 [] []), 0, [], [], [], []⟩,
    ⟨(some 4), none, (.mov (.t 0)), 1, [], [], [], []⟩,
    ⟨(some 5), none, (.app 44 2 16 (.t 3) (.t 4)), 2, [], [], [], []⟩,
    ⟨(some 2), none, (.mov (.t 5)), 3, [], [], [], []⟩])
  .ret))
def r33 : List ARes := [(.tmp 2)]
theorem k33 : compCode Try.prog 6 (ngOf []) (Try.f33.body.getD .skip) = some a33 := by kernel_rfl
theorem e33 {vs : List AV} {h : Hp} {n : Nat} {K : AV → Hp → Nat → Prop} (hl : vs.length ≤ 6) (hw : wpA Try.prog a33 (retA r33 K) ⟨argS vs, h, n⟩) : CallsA Try.prog 33 vs h n K :=
  fn_sound (fn := Try.f33) (c := Try.f33.body.getD .skip) mo (by kernel_rfl) (by kernel_rfl) (by kernel_rfl) k33 (by kernel_rfl) hl hw
def a34 : ACode :=
  (.seq
   (.rgn 1 [
    ⟨(some 6), none, (.mov (.c (.isl (some true) true []))), 0, [], [], [], []⟩])
  (.seq
   (.rgn 1 [
    ⟨(some 7), none, (.mov (.c (.isl (some true) true []))), 0, [], [], [], []⟩])
  (.seq
   (.seq
    (.rgn 1 [
     ⟨(some 8), none, (.mov (.c (.int .i64 0))), 0, [], [], [], []⟩])
   (.block 0
    (.loop
     (.seq
      (.seq
       (.rgn 4 [
        ⟨(some 9), none, (.mov (.t 8)), 0, [], [], [], []⟩,
        ⟨(some 10), none, (.mov (.t 0)), 1, [], [], [], []⟩,
        ⟨(some 11), none, (.len (.t 10)), 2, [], [], [], []⟩,
        ⟨(some 12), none, (.bin .lss (.t 9) (.t 11)), 3, [], [], [], []⟩])
      (.cond (.t 12)
        .skip
        (.exit 0)))
     (.seq
      (.block 1
       (.seq
        (.rgn 16 [
         ⟨(some 15), none, (.mov (.t 0)), 0, [], [], [], []⟩,
         ⟨(some 16), none, (.mov (.t 8)), 1, [], [], [], []⟩,
         ⟨(some 17), none, (.ia 2 (.t 15) (.t 16)), 2, [], [], [], []⟩,
         ⟨(some 18), none, (.fa (.t 17) 0), 3, [], [], [], []⟩,
         ⟨(some 19), none, (.ld (.t 18) 1 false), 4, [], [], [], []⟩,
         ⟨(some 20), none, (.mov (.t 1)), 5, [], [], [], []⟩,
         ⟨(some 21), none, (.bin .geq (.t 19) (.t 20)), 6, [], [], [], []⟩,
         ⟨(some 22), none, (.mov (.t 21)), 7, [], [], [], []⟩,
         ⟨(some 23), (some (22, true)), (.mov (.t 0)), 8, [], [], [], []⟩,
         ⟨(some 24), (some (22, true)), (.mov (.t 8)), 9, [], [], [], []⟩,
         ⟨(some 25), (some (22, true)), (.ia 2 (.t 23) (.t 24)), 10, [], [], [], []⟩,
         ⟨(some 26), (some (22, true)), (.fa (.t 25) 0), 11, [], [], [], []⟩,
         ⟨(some 27), (some (22, true)), (.ld (.t 26) 1 false), 12, [], [], [], []⟩,
         ⟨(some 28), (some (22, true)), (.mov (.t 2)), 13, [], [], [], []⟩,
         ⟨(some 29), (some (22, true)), (.bin .leq (.t 27) (.t 28)), 14, [], [], [], []⟩,
         ⟨(some 30), none, (.pick (.t 22) (.t 29) (.c (.bool false))), 15, [], [], [], []⟩])
       (.cond (.t 30)
         (.rgn 8 [
          ⟨(some 31), none, (.mov (.t 7)), 0, [], [], [], []⟩,
          ⟨(some 32), none, (.mov (.t 0)), 1, [], [], [], []⟩,
          ⟨(some 33), none, (.mov (.t 8)), 2, [], [], [], []⟩,
          ⟨(some 34), none, (.ia 2 (.t 32) (.t 33)), 3, [], [], [], []⟩,
          ⟨(some 35), none, (.ld (.t 34) 2 true), 4, [], [], [], []⟩,
          ⟨(some 36), none, (.bsl 44 2 1 [(.int .i64 0), (.int .u64 0)] [(0, (.t 35))]), 5, [], [], [], []⟩,
          ⟨(some 37), none, (.app 44 2 16 (.t 31) (.t 36)), 6, [], [], [], []⟩,
          ⟨(some 7), none, (.mov (.t 37)), 7, [], [], [], []⟩])
         .skip)))
     (.rgn 3 [
      ⟨(some 13), none, (.mov (.t 8)), 0, [], [], [], []⟩,
      ⟨(some 14), none, (.bin .add (.t 13) (.c (.int .i64 1))), 1, [], [], [], []⟩,
      ⟨(some 8), none, (.mov (.t 14)), 2, [], [], [], []⟩]))))))
  (.seq
   (.rgn 2 [
    ⟨(some 38), none, (.mov (.t 7)), 0, [], [], [], []⟩,
    ⟨(some 6), none, (.mov (.t 38)), 1, [], [], [], []⟩])
  .ret))))
def r34 : List ARes := [(.tmp 6)]
theorem k34 : compCode Try.prog 39 (ngOf []) (Try.f34.body.getD .skip) = some a34 := by kernel_rfl
theorem e34 {vs : List AV} {h : Hp} {n : Nat} {K : AV → Hp → Nat → Prop} (hl : vs.length ≤ 39) (hw : wpA Try.prog a34 (retA r34 K) ⟨argS vs, h, n⟩) : CallsA Try.prog 34 vs h n K :=
  fn_sound (fn := Try.f34) (c := Try.f34.body.getD .skip) mo (by kernel_rfl) (by kernel_rfl) (by kernel_rfl) k34 (by kernel_rfl) hl hw
def a35 : ACode :=
  (.seq
   (.rgn 3 [
    ⟨(some 2), none, (.box 38 (.t 0)), 0, [], [], [], []⟩,
    ⟨(some 3), none, (.box 38 (.t 1)), 1, [], [], [], []⟩,
    ⟨(some 4), none, (.mov (.c (.bool false))), 2, [], [], [], []⟩])
  (.seq
   (.rgn 34 [
    ⟨(some 5), none, (.fa (.t 2) 0), 0, [], [], [], []⟩,
    ⟨(some 6), none, (.ld (.t 5) 1 false), 1, [], [], [], []⟩,
    ⟨(some 7), none, (.fa (.t 3) 0), 2, [], [], [], []⟩,
    ⟨(some 8), none, (.ld (.t 7) 1 false), 3, [], [], [], []⟩,
    ⟨(some 9), none, (.bin .eql (.t 6) (.t 8)), 4, [], [], [], []⟩,
    ⟨(some 10), none, (.mov (.t 9)), 5, [], [], [], []⟩,
    ⟨(some 11), (some (10, true)), (.fa (.t 2) 1), 6, [], [], [], []⟩,
    ⟨(some 12), (some (10, true)), (.ld (.t 11) 1 false), 7, [], [], [], []⟩,
    ⟨(some 13), (some (10, true)), (.fa (.t 3) 1), 8, [], [], [], []⟩,
    ⟨(some 14), (some (10, true)), (.ld (.t 13) 1 false), 9, [], [], [], []⟩,
    ⟨(some 15), (some (10, true)), (.bib false (.t 12) (.t 14)), 10, [], [], [], []⟩,
    ⟨(some 16), none, (.pick (.t 10) (.t 15) (.c (.bool false))), 11, [], [], [], []⟩,
    ⟨(some 17), none, (.mov (.t 16)), 12, [], [], [], []⟩,
    ⟨(some 18), (some (17, true)), (.fa (.t 2) 2), 13, [], [], [], []⟩,
    ⟨(some 19), (some (17, true)), (.ld (.t 18) 1 false), 14, [], [], [], []⟩,
    ⟨(some 20), (some (17, true)), (.fa (.t 3) 2), 15, [], [], [], []⟩,
    ⟨(some 21), (some (17, true)), (.ld (.t 20) 1 false), 16, [], [], [], []⟩,
    ⟨(some 22), (some (17, true)), (.bib false (.t 19) (.t 21)), 17, [], [], [], []⟩,
    ⟨(some 23), none, (.pick (.t 17) (.t 22) (.c (.bool false))), 18, [], [], [], []⟩,
    ⟨(some 24), none, (.mov (.t 23)), 19, [], [], [], []⟩,
    ⟨(some 25), (some (24, true)), (.fa (.t 2) 3), 20, [], [], [], []⟩,
    ⟨(some 26), (some (24, true)), (.ld (.t 25) 1 false), 21, [], [], [], []⟩,
    ⟨(some 27), (some (24, true)), (.fa (.t 3) 3), 22, [], [], [], []⟩,
    ⟨(some 28), (some (24, true)), (.ld (.t 27) 1 false), 23, [], [], [], []⟩,
    ⟨(some 29), (some (24, true)), (.bin .eql (.t 26) (.t 28)), 24, [], [], [], []⟩,
    ⟨(some 30), none, (.pick (.t 24) (.t 29) (.c (.bool false))), 25, [], [], [], []⟩,
    ⟨(some 31), none, (.mov (.t 30)), 26, [], [], [], []⟩,
    ⟨(some 32), (some (31, true)), (.fa (.t 2) 4), 27, [], [], [], []⟩,
    ⟨(some 33), (some (31, true)), (.ld (.t 32) 1 false), 28, [], [], [], []⟩,
    ⟨(some 34), (some (31, true)), (.fa (.t 3) 4), 29, [], [], [], []⟩,
    ⟨(some 35), (some (31, true)), (.ld (.t 34) 1 false), 30, [], [], [], []⟩,
    ⟨(some 36), (some (31, true)), (.callS 36 [(.t 33), (.t 35)] true), 31, [], [], [], []⟩,
    ⟨(some 37), none, (.pick (.t 31) (.t 36) (.c (.bool false))), 32, [], [], [], []⟩,
    ⟨(some 4), none, (.mov (.t 37)), 33, [], [], [], []⟩])
  .ret))
def r35 : List ARes := [(.tmp 4)]
theorem k35 : compCode Try.prog 38 (ngOf []) (Try.f35.body.getD .skip) = some a35 := by kernel_rfl
theorem e35 {vs : List AV} {h : Hp} {n : Nat} {K : AV → Hp → Nat → Prop} (hl : vs.length ≤ 38) (hw : wpA Try.prog a35 (retA r35 K) ⟨argS vs, h, n⟩) : CallsA Try.prog 35 vs h n K :=
  fn_sound (fn := Try.f35) (c := Try.f35.body.getD .skip) mo (by kernel_rfl) (by kernel_rfl) (by kernel_rfl) k35 (by kernel_rfl) hl hw
def a36 : ACode :=
  (.seq
   (.rgn 1 [
    ⟨(some 4), none, (.mov (.c (.bool false))), 0, [], [], [], []⟩])
  (.seq
   (.seq
    (.rgn 5 [
     ⟨(some 6), none, (.mov (.t 0)), 0, [], [], [], []⟩,
     ⟨(some 7), none, (.len (.t 6)), 1, [], [], [], []⟩,
     ⟨(some 8), none, (.mov (.t 1)), 2, [], [], [], []⟩,
     ⟨(some 9), none, (.len (.t 8)), 3, [], [], [], []⟩,
     ⟨(some 10), none, (.bin .neq (.t 7) (.t 9)), 4, [], [], [], []⟩])
   (.cond (.t 10)
     (.seq
      (.rgn 1 [
       ⟨(some 4), none, (.mov (.c (.bool false))), 0, [], [], [], []⟩])
     .ret)
     .skip))
  (.seq
   (.seq
    (.rgn 3 [
     ⟨(some 11), none, (.mov (.t 0)), 0, [], [], [], []⟩,
     ⟨(some 12), none, (.len (.t 11)), 1, [], [], [], []⟩,
     ⟨(some 13), none, (.mov (.c (.int .i64 0))), 2, [], [], [], []⟩])
   (.block 0
    (.loop
     (.seq
      (.rgn 1 [
       ⟨(some 14), none, (.bin .lss (.t 13) (.t 12)), 0, [], [], [], []⟩])
     (.seq
      (.cond (.t 14)
        .skip
        (.exit 0))
     (.seq
      (.block 1
       (.seq
        (.rgn 2 [
         ⟨(some 15), none, (.mov (.t 13)), 0, [], [], [], []⟩,
         ⟨(some 5), none, (.mov (.t 15)), 1, [], [], [], []⟩])
       (.seq
        (.rgn 9 [
         ⟨(some 16), none, (.mov (.t 0)), 0, [], [], [], []⟩,
         ⟨(some 17), none, (.mov (.t 5)), 1, [], [], [], []⟩,
         ⟨(some 18), none, (.ia 2 (.t 16) (.t 17)), 2, [], [], [], []⟩,
         ⟨(some 19), none, (.ld (.t 18) 2 true), 3, [], [], [], []⟩,
         ⟨(some 20), none, (.mov (.t 1)), 4, [], [], [], []⟩,
         ⟨(some 21), none, (.mov (.t 5)), 5, [], [], [], []⟩,
         ⟨(some 22), none, (.ia 2 (.t 20) (.t 21)), 6, [], [], [], []⟩,
         ⟨(some 23), none, (.ld (.t 22) 2 true), 7, [], [], [], []⟩,
         ⟨(some 24), none, (.eqa true [0, 0] (.t 19) (.t 23)), 8, [], [], [], []⟩])
       (.cond (.t 24)
         (.seq
          (.rgn 1 [
           ⟨(some 4), none, (.mov (.c (.bool false))), 0, [], [], [], []⟩])
         .ret)
         .skip))))
     (.rgn 2 [
      ⟨(some 25), none, (.bin .add (.t 13) (.c (.int .i64 1))), 0, [], [], [], []⟩,
      ⟨(some 13), none, (.mov (.t 25)), 1, [], [], [], []⟩])))))))
  (.seq
   (.rgn 1 [
    ⟨(some 4), none, (.mov (.c (.bool true))), 0, [], [], [], []⟩])
  .ret))))
def r36 : List ARes := [(.tmp 4)]
theorem k36 : compCode Try.prog 26 (ngOf []) (Try.f36.body.getD .skip) = some a36 := by kernel_rfl
theorem e36 {vs : List AV} {h : Hp} {n : Nat} {K : AV → Hp → Nat → Prop} (hl : vs.length ≤ 26) (hw : wpA Try.prog a36 (retA r36 K) ⟨argS vs, h, n⟩) : CallsA Try.prog 36 vs h n K :=
  fn_sound (fn := Try.f36) (c := Try.f36.body.getD .skip) mo (by kernel_rfl) (by kernel_rfl) (by kernel_rfl) k36 (by kernel_rfl) hl hw
def a37 : ACode :=
  (.seq
   (.rgn 3 [
    ⟨(some 2), none, (.box 46 (.t 0)), 0, [], [], [], []⟩,
    ⟨(some 3), none, (.box 46 (.t 1)), 1, [], [], [], []⟩,
    ⟨(some 4), none, (.mov (.c (.bool false))), 2, [], [], [], []⟩])
  (.seq
   (.rgn 13 [
    ⟨(some 5), none, (.fa (.t 2) 0), 0, [], [], [], []⟩,
    ⟨(some 6), none, (.ld (.t 5) 1 false), 1, [], [], [], []⟩,
    ⟨(some 7), none, (.fa (.t 3) 0), 2, [], [], [], []⟩,
    ⟨(some 8), none, (.ld (.t 7) 1 false), 3, [], [], [], []⟩,
    ⟨(some 9), none, (.bin .eql (.t 6) (.t 8)), 4, [], [], [], []⟩,
    ⟨(some 10), none, (.mov (.t 9)), 5, [], [], [], []⟩,
    ⟨(some 11), (some (10, true)), (.fa (.t 2) 1), 6, [], [], [], []⟩,
    ⟨(some 12), (some (10, true)), (.ld (.t 11) 1 false), 7, [], [], [], []⟩,
    ⟨(some 13), (some (10, true)), (.fa (.t 3) 1), 8, [], [], [], []⟩,
    ⟨(some 14), (some (10, true)), (.ld (.t 13) 1 false), 9, [], [], [], []⟩,
    ⟨(some 15), (some (10, true)), (.callS 36 [(.t 12), (.t 14)] true), 10, [], [], [], []⟩,
    ⟨(some 16), none, (.pick (.t 10) (.t 15) (.c (.bool false))), 11, [], [], [], []⟩,
    ⟨(some 4), none, (.mov (.t 16)), 12, [], [], [], []⟩])
  .ret))
def r37 : List ARes := [(.tmp 4)]
theorem k37 : compCode Try.prog 17 (ngOf []) (Try.f37.body.getD .skip) = some a37 := by kernel_rfl
theorem e37 {vs : List AV} {h : Hp} {n : Nat} {K : AV → Hp → Nat → Prop} (hl : vs.length ≤ 17) (hw : wpA Try.prog a37 (retA r37 K) ⟨argS vs, h, n⟩) : CallsA Try.prog 37 vs h n K :=
  fn_sound (fn := Try.f37) (c := Try.f37.body.getD .skip) mo (by kernel_rfl) (by kernel_rfl) (by kernel_rfl) k37 (by kernel_rfl) hl hw
def a38 : ACode :=
  (.seq
   (.rgn 1 [
    ⟨(some 6), none, (.mov (.c (.bool false))), 0, [], [], [], []⟩])
  (.seq
   (.seq
    (.rgn 5 [
     ⟨(some 10), none, (.mov (.t 0)), 0, [], [], [], []⟩,
     ⟨(some 11), none, (.len (.t 10)), 1, [], [], [], []⟩,
     ⟨(some 12), none, (.mov (.t 1)), 2, [], [], [], []⟩,
     ⟨(some 13), none, (.len (.t 12)), 3, [], [], [], []⟩,
     ⟨(some 14), none, (.bin .neq (.t 11) (.t 13)), 4, [], [], [], []⟩])
   (.cond (.t 14)
     (.seq
      (.rgn 1 [
       ⟨(some 6), none, (.mov (.c (.bool false))), 0, [], [], [], []⟩])
     .ret)
     .skip))
  (.seq
   (.seq
    (.rgn 3 [
     ⟨(some 15), none, (.mov (.t 0)), 0, [], [], [], []⟩,
     ⟨(some 16), none, (.len (.t 15)), 1, [], [], [], []⟩,
     ⟨(some 17), none, (.mov (.c (.int .i64 0))), 2, [], [], [], []⟩])
   (.block 0
    (.loop
     (.seq
      (.rgn 1 [
       ⟨(some 18), none, (.bin .lss (.t 17) (.t 16)), 0, [], [], [], []⟩])
     (.seq
      (.cond (.t 18)
        .skip
        (.exit 0))
     (.seq
      (.block 1
       (.seq
        (.rgn 6 [
         ⟨(some 19), none, (.mov (.t 17)), 0, [], [], [], []⟩,
         ⟨(some 20), none, (.ia 5 (.t 15) (.t 17)), 1, [], [], [], []⟩,
         ⟨(some 21), none, (.ld (.t 20) 5 true), 2, [], [], [], []⟩,
         ⟨(some 8), none, (.new 38 (.agg [(.int .i64 0), (.bool false), (.bool false), (.int .i64 0), (.isl (some true) true [])])), 3, [], [], [], []⟩,
         ⟨(some 7), none, (.mov (.t 19)), 4, [], [], [], []⟩,
         ⟨none, none, (.st (.t 8) 5 (.t 21)), 5, [], [], [], []⟩])
       (.seq
        (.rgn 6 [
         ⟨(some 22), none, (.mov (.t 1)), 0, [], [], [], []⟩,
         ⟨(some 23), none, (.mov (.t 7)), 1, [], [], [], []⟩,
         ⟨(some 24), none, (.ia 5 (.t 22) (.t 23)), 2, [], [], [], []⟩,
         ⟨(some 25), none, (.ld (.t 24) 5 true), 3, [], [], [], []⟩,
         ⟨(some 9), none, (.new 38 (.agg [(.int .i64 0), (.bool false), (.bool false), (.int .i64 0), (.isl (some true) true [])])), 4, [], [], [], []⟩,
         ⟨none, none, (.st (.t 9) 5 (.t 25)), 5, [], [], [], []⟩])
       (.seq
        (.rgn 5 [
         ⟨(some 26), none, (.mov (.t 2)), 0, [], [], [], []⟩,
         ⟨(some 27), none, (.ld (.t 8) 5 true), 1, [], [], [], []⟩,
         ⟨(some 28), none, (.ld (.t 9) 5 true), 2, [], [], [], []⟩,
         ⟨(some 29), none, (.callV (.t 26) [(.t 27), (.t 28)] true), 3, [], [], [], []⟩,
         ⟨(some 30), none, (.un .not (.t 29)), 4, [], [], [], []⟩])
       (.cond (.t 30)
         (.seq
          (.rgn 1 [
           ⟨(some 6), none, (.mov (.c (.bool false))), 0, [], [], [], []⟩])
         .ret)
         .skip)))))
     (.rgn 2 [
      ⟨(some 31), none, (.bin .add (.t 17) (.c (.int .i64 1))), 0, [], [], [], []⟩,
      ⟨(some 17), none, (.mov (.t 31)), 1, [], [], [], []⟩])))))))
  (.seq
   (.rgn 1 [
    ⟨(some 6), none, (.mov (.c (.bool true))), 0, [], [], [], []⟩])
  .ret))))
def r38 : List ARes := [(.tmp 6)]
theorem k38 : compCode Try.prog 32 (ngOf []) (Try.f38.body.getD .skip) = some a38 := by kernel_rfl
theorem e38 {vs : List AV} {h : Hp} {n : Nat} {K : AV → Hp → Nat → Prop} (hl : vs.length ≤ 32) (hw : wpA Try.prog a38 (retA r38 K) ⟨argS vs, h, n⟩) : CallsA Try.prog 38 vs h n K :=
  fn_sound (fn := Try.f38) (c := Try.f38.body.getD .skip) mo (by kernel_rfl) (by kernel_rfl) (by kernel_rfl) k38 (by kernel_rfl) hl hw
def a39 : ACode :=
  (.seq
   (.rgn 1 [
    ⟨(some 6), none, (.mov (.c (.bool false))), 0, [], [], [], []⟩])
  (.seq
   (.seq
    (.rgn 5 [
     ⟨(some 10), none, (.mov (.t 0)), 0, [], [], [], []⟩,
     ⟨(some 11), none, (.len (.t 10)), 1, [], [], [], []⟩,
     ⟨(some 12), none, (.mov (.t 1)), 2, [], [], [], []⟩,
     ⟨(some 13), none, (.len (.t 12)), 3, [], [], [], []⟩,
     ⟨(some 14), none, (.bin .neq (.t 11) (.t 13)), 4, [], [], [], []⟩])
   (.cond (.t 14)
     (.seq
      (.rgn 1 [
       ⟨(some 6), none, (.mov (.c (.bool false))), 0, [], [], [], []⟩])
     .ret)
     .skip))
  (.seq
   (.seq
    (.rgn 3 [
     ⟨(some 15), none, (.mov (.t 0)), 0, [], [], [], []⟩,
     ⟨(some 16), none, (.len (.t 15)), 1, [], [], [], []⟩,
     ⟨(some 17), none, (.mov (.c (.int .i64 0))), 2, [], [], [], []⟩])
   (.block 0
    (.loop
     (.seq
      (.rgn 1 [
       ⟨(some 18), none, (.bin .lss (.t 17) (.t 16)), 0, [], [], [], []⟩])
     (.seq
      (.cond (.t 18)
        .skip
        (.exit 0))
     (.seq
      (.block 1
       (.seq
        (.rgn 6 [
         ⟨(some 19), none, (.mov (.t 17)), 0, [], [], [], []⟩,
         ⟨(some 20), none, (.ia 2 (.t 15) (.t 17)), 1, [], [], [], []⟩,
         ⟨(some 21), none, (.ld (.t 20) 2 true), 2, [], [], [], []⟩,
         ⟨(some 8), none, (.new 46 (.agg [(.int .i64 0), (.isl (some true) true [])])), 3, [], [], [], []⟩,
         ⟨(some 7), none, (.mov (.t 19)), 4, [], [], [], []⟩,
         ⟨none, none, (.st (.t 8) 2 (.t 21)), 5, [], [], [], []⟩])
       (.seq
        (.rgn 6 [
         ⟨(some 22), none, (.mov (.t 1)), 0, [], [], [], []⟩,
         ⟨(some 23), none, (.mov (.t 7)), 1, [], [], [], []⟩,
         ⟨(some 24), none, (.ia 2 (.t 22) (.t 23)), 2, [], [], [], []⟩,
         ⟨(some 25), none, (.ld (.t 24) 2 true), 3, [], [], [], []⟩,
         ⟨(some 9), none, (.new 46 (.agg [(.int .i64 0), (.isl (some true) true [])])), 4, [], [], [], []⟩,
         ⟨none, none, (.st (.t 9) 2 (.t 25)), 5, [], [], [], []⟩])
       (.seq
        (.rgn 5 [
         ⟨(some 26), none, (.mov (.t 2)), 0, [], [], [], []⟩,
         ⟨(some 27), none, (.ld (.t 8) 2 true), 1, [], [], [], []⟩,
         ⟨(some 28), none, (.ld (.t 9) 2 true), 2, [], [], [], []⟩,
         ⟨(some 29), none, (.callV (.t 26) [(.t 27), (.t 28)] true), 3, [], [], [], []⟩,
         ⟨(some 30), none, (.un .not (.t 29)), 4, [], [], [], []⟩])
       (.cond (.t 30)
         (.seq
          (.rgn 1 [
           ⟨(some 6), none, (.mov (.c (.bool false))), 0, [], [], [], []⟩])
         .ret)
         .skip)))))
     (.rgn 2 [
      ⟨(some 31), none, (.bin .add (.t 17) (.c (.int .i64 1))), 0, [], [], [], []⟩,
      ⟨(some 17), none, (.mov (.t 31)), 1, [], [], [], []⟩])))))))
  (.seq
   (.rgn 1 [
    ⟨(some 6), none, (.mov (.c (.bool true))), 0, [], [], [], []⟩])
  .ret))))
def r39 : List ARes := [(.tmp 6)]
theorem k39 : compCode Try.prog 32 (ngOf []) (Try.f39.body.getD .skip) = some a39 := by kernel_rfl
theorem e39 {vs : List AV} {h : Hp} {n : Nat} {K : AV → Hp → Nat → Prop} (hl : vs.length ≤ 32) (hw : wpA Try.prog a39 (retA r39 K) ⟨argS vs, h, n⟩) : CallsA Try.prog 39 vs h n K :=
  fn_sound (fn := Try.f39) (c := Try.f39.body.getD .skip) mo (by kernel_rfl) (by kernel_rfl) (by kernel_rfl) k39 (by kernel_rfl) hl hw
def a46 : ACode :=
  (.seq
   (.rgn 1 [
    ⟨(some 2), none, (.mov (.c (.isl (some true) true []))), 0, [], [], [], []⟩])
  (.seq
   (.seq
    (.rgn 2 [
     ⟨(some 3), none, (.mov (.t 0)), 0, [], [], [], []⟩,
     ⟨(some 4), none, (.isn 1 false (.t 3)), 1, [], [], [], []⟩])
   (.cond (.t 4)
     (.seq
      (.rgn 1 [
       ⟨(some 2), none, (.mov (.c (.isl (some true) true []))), 0, [], [], [], []⟩])
     .ret)
     .skip))
  (.seq
   (.rgn 4 [
    ⟨(some 5), none, (.bsl 38 5 0 [] []), 0, [], [], [], []⟩,
    ⟨(some 6), none, (.mov (.t 0)), 1, [], [], [], []⟩,
    ⟨(some 7), none, (.apn 38 5 48 (.agg [(.int .i64 0), (.bool false), (.bool false), (.int .i64 0), (.isl (some true) true [])]) (.t 5) (.t 6)), 2, [], [], [], []⟩,
    ⟨(some 2), none, (.mov (.t 7)), 3, [], [], [], []⟩])
  .ret)))
def r46 : List ARes := [(.tmp 2)]
theorem k46 : compCode Try.prog 8 (ngOf [(3,2)]) (Try.f46.body.getD .skip) = some a46 := by kernel_rfl
theorem e46 {vs : List AV} {h : Hp} {n : Nat} {K : AV → Hp → Nat → Prop} (hl : vs.length ≤ 8) (hw : wpA Try.prog a46 (retA r46 K) ⟨argS vs, h, n⟩) : CallsA Try.prog 46 vs h n K :=
  fn_sound (fn := Try.f46) (c := Try.f46.body.getD .skip) mo (by kernel_rfl) (by kernel_rfl) (by kernel_rfl) k46 (by kernel_rfl) hl hw
def a47 : ACode :=
  (.seq
   (.rgn 1 [
    ⟨(some 2), none, (.mov (.c (.isl (some true) true []))), 0, [], [], [], []⟩])
  (.seq
   (.seq
    (.rgn 2 [
     ⟨(some 3), none, (.mov (.t 0)), 0, [], [], [], []⟩,
     ⟨(some 4), none, (.isn 1 false (.t 3)), 1, [], [], [], []⟩])
   (.cond (.t 4)
     (.seq
      (.rgn 1 [
       ⟨(some 2), none, (.mov (.c (.isl (some true) true []))), 0, [], [], [], []⟩])
     .ret)
     .skip))
  (.seq
   (.rgn 4 [
    ⟨(some 5), none, (.bsl 46 2 0 [] []), 0, [], [], [], []⟩,
    ⟨(some 6), none, (.mov (.t 0)), 1, [], [], [], []⟩,
    ⟨(some 7), none, (.app 46 2 32 (.t 5) (.t 6)), 2, [], [], [], []⟩,
    ⟨(some 2), none, (.mov (.t 7)), 3, [], [], [], []⟩])
  .ret)))
def r47 : List ARes := [(.tmp 2)]
theorem k47 : compCode Try.prog 8 (ngOf []) (Try.f47.body.getD .skip) = some a47 := by kernel_rfl
theorem e47 {vs : List AV} {h : Hp} {n : Nat} {K : AV → Hp → Nat → Prop} (hl : vs.length ≤ 8) (hw : wpA Try.prog a47 (retA r47 K) ⟨argS vs, h, n⟩) : CallsA Try.prog 47 vs h n K :=
  fn_sound (fn := Try.f47) (c := Try.f47.body.getD .skip) mo (by kernel_rfl) (by kernel_rfl) (by kernel_rfl) k47 (by kernel_rfl) hl hw
def a48 : ACode :=
  (.seq
   (.rgn 1 [
    ⟨(some 2), none, (.mov (.c (.isl (some true) true []))), 0, [], [], [], []⟩])
  (.seq
   (.seq
    (.rgn 2 [
     ⟨(some 3), none, (.mov (.t 0)), 0, [], [], [], []⟩,
     ⟨(some 4), none, (.isn 1 false (.t 3)), 1, [], [], [], []⟩])
   (.cond (.t 4)
     (.seq
      (.rgn 1 [
       ⟨(some 2), none, (.mov (.c (.isl (some true) true []))), 0, [], [], [], []⟩])
     .ret)
     .skip))
  (.seq
   (.rgn 4 [
    ⟨(some 5), none, (.bsl 44 2 0 [] []), 0, [], [], [], []⟩,
    ⟨(some 6), none, (.mov (.t 0)), 1, [], [], [], []⟩,
    ⟨(some 7), none, (.app 44 2 16 (.t 5) (.t 6)), 2, [], [], [], []⟩,
    ⟨(some 2), none, (.mov (.t 7)), 3, [], [], [], []⟩])
  .ret)))
def r48 : List ARes := [(.tmp 2)]
theorem k48 : compCode Try.prog 8 (ngOf []) (Try.f48.body.getD .skip) = some a48 := by kernel_rfl
theorem e48 {vs : List AV} {h : Hp} {n : Nat} {K : AV → Hp → Nat → Prop} (hl : vs.length ≤ 8) (hw : wpA Try.prog a48 (retA r48 K) ⟨argS vs, h, n⟩) : CallsA Try.prog 48 vs h n K :=
  fn_sound (fn := Try.f48) (c := Try.f48.body.getD .skip) mo (by kernel_rfl) (by kernel_rfl) (by kernel_rfl) k48 (by kernel_rfl) hl hw
def a49 : ACode :=
  (.seq
   (.rgn 1 [
    ⟨(some 4), none, (.mov (.c (.int .i64 0))), 0, [], [], [], []⟩])
  (.seq
   (.seq
    (.rgn 3 [
     ⟨(some 6), none, (.mov (.t 0)), 0, [], [], [], []⟩,
     ⟨(some 7), none, (.len (.t 6)), 1, [], [], [], []⟩,
     ⟨(some 8), none, (.mov (.c (.int .i64 0))), 2, [], [], [], []⟩])
   (.block 0
    (.loop
     (.seq
      (.rgn 1 [
       ⟨(some 9), none, (.bin .lss (.t 8) (.t 7)), 0, [], [], [], []⟩])
     (.seq
      (.cond (.t 9)
        .skip
        (.exit 0))
     (.seq
      (.block 1
       (.seq
        (.rgn 2 [
         ⟨(some 10), none, (.mov (.t 8)), 0, [], [], [], []⟩,
         ⟨(some 5), none, (.mov (.t 10)), 1, [], [], [], []⟩])
       (.seq
        (.rgn 6 [
         ⟨(some 11), none, (.mov (.t 1)), 0, [], [], [], []⟩,
         ⟨(some 12), none, (.mov (.t 0)), 1, [], [], [], []⟩,
         ⟨(some 13), none, (.mov (.t 5)), 2, [], [], [], []⟩,
         ⟨(some 14), none, (.ia 2 (.t 12) (.t 13)), 3, [], [], [], []⟩,
         ⟨(some 15), none, (.ld (.t 14) 2 true), 4, [], [], [], []⟩,
         ⟨(some 16), none, (.callV (.t 11) [(.t 15)] true), 5, [], [], [], []⟩])
       (.cond (.t 16)
         (.seq
          (.rgn 2 [
           ⟨(some 17), none, (.mov (.t 5)), 0, [], [], [], []⟩,
           ⟨(some 4), none, (.mov (.t 17)), 1, [], [], [], []⟩])
         .ret)
         .skip))))
     (.rgn 2 [
      ⟨(some 18), none, (.bin .add (.t 8) (.c (.int .i64 1))), 0, [], [], [], []⟩,
      ⟨(some 8), none, (.mov (.t 18)), 1, [], [], [], []⟩])))))))
  (.seq
   (.rgn 1 [
    ⟨(some 4), none, (.mov (.c (.int .i64 (-1)))), 0, [], [], [], []⟩])
  .ret)))
def r49 : List ARes := [(.tmp 4)]
theorem k49 : compCode Try.prog 19 (ngOf []) (Try.f49.body.getD .skip) = some a49 := by kernel_rfl
theorem e49 {vs : List AV} {h : Hp} {n : Nat} {K : AV → Hp → Nat → Prop} (hl : vs.length ≤ 19) (hw : wpA Try.prog a49 (retA r49 K) ⟨argS vs, h, n⟩) : CallsA Try.prog 49 vs h n K :=
  fn_sound (fn := Try.f49) (c := Try.f49.body.getD .skip) mo (by kernel_rfl) (by kernel_rfl) (by kernel_rfl) k49 (by kernel_rfl) hl hw
def a50 : ACode :=
  (.seq
   (.rgn 2 [
    ⟨(some 2), none, (.box 46 (.t 0)), 0, [], [], [], []⟩,
    ⟨(some 3), none, (.mov (.c (.bool false))), 1, [], [], [], []⟩])
  (.seq
   (.rgn 6 [
    ⟨(some 4), none, (.fa (.t 2) 0), 0, [], [], [], []⟩,
    ⟨(some 5), none, (.ld (.t 4) 1 false), 1, [], [], [], []⟩,
    ⟨(some 6), none, (.fa (.t 1) 2), 2, [], [], [], []⟩,
    ⟨(some 7), none, (.ld (.t 6) 1 false), 3, [], [], [], []⟩,
    ⟨(some 8), none, (.bin .eql (.t 5) (.t 7)), 4, [], [], [], []⟩,
    ⟨(some 3), none, (.mov (.t 8)), 5, [], [], [], []⟩])
  .ret))
def r50 : List ARes := [(.tmp 3)]
theorem k50 : compCode Try.prog 9 (ngOf []) (Try.f50.body.getD .skip) = some a50 := by kernel_rfl
theorem e50 {vs : List AV} {h : Hp} {n : Nat} {K : AV → Hp → Nat → Prop} (hl : vs.length ≤ 9) (hw : wpA Try.prog a50 (retA r50 K) ⟨argS vs, h, n⟩) : CallsA Try.prog 50 vs h n K :=
  fn_sound (fn := Try.f50) (c := Try.f50.body.getD .skip) mo (by kernel_rfl) (by kernel_rfl) (by kernel_rfl) k50 (by kernel_rfl) hl hw
def a51 : ACode :=
  (.seq
   (.rgn 1 [
    ⟨(some 6), none, (.mov (.c (.isl (some true) true []))), 0, [], [], [], []⟩])
  (.seq
   (.rgn 6 [
    ⟨(some 8), none, (.mov (.t 0)), 0, [], [], [], []⟩,
    ⟨(some 9), none, (.mov (.t 1)), 1, [], [], [], []⟩,
    ⟨(some 10), none, (.mov (.t 2)), 2, [], [], [], []⟩,
    ⟨(some 11), none, (.mov (.t 0)), 3, [], [], [], []⟩,
    ⟨(some 12), none, (.len (.t 11)), 4, [], [], [], []⟩,
    ⟨(some 13), none, (.slc 2 (.t 8) (some (.t 9)) (some (.t 10)) (some (.t 12))), 5, [], [], [], []⟩])
  (.seq
   (.seq
    (.rgn 3 [
     ⟨(some 14), none, (.mov (.t 1)), 0, [], [], [], []⟩,
     ⟨(some 15), none, (.mov (.t 2)), 1, [], [], [], []⟩,
     ⟨(some 16), none, (.bin .eql (.t 14) (.t 15)), 2, [], [], [], []⟩])
   (.cond (.t 16)
     (.seq
      (.rgn 2 [
       ⟨(some 17), none, (.mov (.t 0)), 0, [], [], [], []⟩,
       ⟨(some 6), none, (.mov (.t 17)), 1, [], [], [], []⟩])
     .ret)
     .skip))
  (.seq
   (.rgn 3 [
    ⟨(some 18), none, (.mov (.t 0)), 0, [], [], [], []⟩,
    ⟨(some 19), none, (.len (.t 18)), 1, [], [], [], []⟩,
    ⟨(some 7), none, (.mov (.t 19)), 2, [], [], [], []⟩])
  (.seq
   (.rgn 8 [
    ⟨(some 20), none, (.mov (.t 0)), 0, [], [], [], []⟩,
    ⟨(some 21), none, (.mov (.t 1)), 1, [], [], [], []⟩,
    ⟨(some 22), none, (.slc 2 (.t 20) none (some (.t 21)) none), 2, [], [], [], []⟩,
    ⟨(some 23), none, (.mov (.t 0)), 3, [], [], [], []⟩,
    ⟨(some 24), none, (.mov (.t 2)), 4, [], [], [], []⟩,
    ⟨(some 25), none, (.slc 2 (.t 23) (some (.t 24)) none none), 5, [], [], [], []⟩,
    ⟨(some 26), none, (.app 46 2 32 (.t 22) (.t 25)), 6, [], [], [], []⟩,
    ⟨(some 0), none, (.mov (.t 26)), 7, [], [], [], []⟩])
  (.seq
   (.rgn 6 [
    ⟨(some 27), none, (.mov (.t 0)), 0, [], [], [], []⟩,
    ⟨(some 28), none, (.mov (.t 0)), 1, [], [], [], []⟩,
    ⟨(some 29), none, (.len (.t 28)), 2, [], [], [], []⟩,
    ⟨(some 30), none, (.mov (.t 7)), 3, [], [], [], []⟩,
    ⟨(some 31), none, (.slc 2 (.t 27) (some (.t 29)) (some (.t 30)) none), 4, [], [], [], []⟩,
    ⟨none, none, (.clr 2 [(.int .i64 0), (.isl (some true) true [])] (.t 31)), 5, [], [], [], []⟩])
  (.seq
   (.rgn 2 [
    ⟨(some 32), none, (.mov (.t 0)), 0, [], [], [], []⟩,
    ⟨(some 6), none, (.mov (.t 32)), 1, [], [], [], []⟩])
  .ret)))))))
def r51 : List ARes := [(.tmp 6)]
theorem k51 : compCode Try.prog 33 (ngOf []) (Try.f51.body.getD .skip) = some a51 := by kernel_rfl
theorem e51 {vs : List AV} {h : Hp} {n : Nat} {K : AV → Hp → Nat → Prop} (hl : vs.length ≤ 33) (hw : wpA Try.prog a51 (retA r51 K) ⟨argS vs, h, n⟩) : CallsA Try.prog 51 vs h n K :=
  fn_sound (fn := Try.f51) (c := Try.f51.body.getD .skip) mo (by kernel_rfl) (by kernel_rfl) (by kernel_rfl) k51 (by kernel_rfl) hl hw
def a52 : ACode :=
  (.seq
   (.rgn 3 [
    ⟨(some 3), none, (.box 3 (.t 1)), 0, [], [], [], []⟩,
    ⟨(some 4), none, (.mov (.c (.int .i64 0))), 1, [], [], [], []⟩,
    ⟨(some 5), none, (.mov (.c (.bool false))), 2, [], [], [], []⟩])
  (.seq
   (.rgn 4 [
    ⟨(some 7), none, (.mov (.t 0)), 0, [], [], [], []⟩,
    ⟨(some 8), none, (.mkf 57 [(.t 3)]), 1, [], [], [], []⟩,
    ⟨(some 9), none, (.callS 56 [(.t 7), (.t 8)] true), 2, [], [], [], []⟩,
    ⟨(some 6), none, (.mov (.t 9)), 3, [], [], [], []⟩])
  (.seq
   (.seq
    (.rgn 2 [
     ⟨(some 10), none, (.mov (.t 6)), 0, [], [], [], []⟩,
     ⟨(some 11), none, (.bin .lss (.t 10) (.c (.int .i64 0))), 1, [], [], [], []⟩])
   (.cond (.t 11)
     (.seq
      (.rgn 4 [
       ⟨(some 12), none, (.mov (.t 0)), 0, [], [], [], []⟩,
       ⟨(some 13), none, (.len (.t 12)), 1, [], [], [], []⟩,
       ⟨(some 4), none, (.mov (.t 13)), 2, [], [], [], []⟩,
       ⟨(some 5), none, (.mov (.c (.bool false))), 3, [], [], [], []⟩])
     .ret)
     .skip))
  (.seq
   (.rgn 10 [
    ⟨(some 14), none, (.mov (.t 6)), 0, [], [], [], []⟩,
    ⟨(some 15), none, (.mov (.t 0)), 1, [], [], [], []⟩,
    ⟨(some 16), none, (.mov (.t 6)), 2, [], [], [], []⟩,
    ⟨(some 17), none, (.ia 5 (.t 15) (.t 16)), 3, [], [], [], []⟩,
    ⟨(some 18), none, (.fa (.t 17) 0), 4, [], [], [], []⟩,
    ⟨(some 19), none, (.ld (.t 18) 1 false), 5, [], [], [], []⟩,
    ⟨(some 20), none, (.ld (.t 3) 1 false), 6, [], [], [], []⟩,
    ⟨(some 21), none, (.bin .eql (.t 19) (.t 20)), 7, [], [], [], []⟩,
    ⟨(some 4), none, (.mov (.t 14)), 8, [], [], [], []⟩,
    ⟨(some 5), none, (.mov (.t 21)), 9, [], [], [], []⟩])
  .ret))))
def r52 : List ARes := [(.tmp 4), (.tmp 5)]
theorem k52 : compCode Try.prog 22 (ngOf []) (Try.f52.body.getD .skip) = some a52 := by kernel_rfl
theorem e52 {vs : List AV} {h : Hp} {n : Nat} {K : AV → Hp → Nat → Prop} (hl : vs.length ≤ 22) (hw : wpA Try.prog a52 (retA r52 K) ⟨argS vs, h, n⟩) : CallsA Try.prog 52 vs h n K :=
  fn_sound (fn := Try.f52) (c := Try.f52.body.getD .skip) mo (by kernel_rfl) (by kernel_rfl) (by kernel_rfl) k52 (by kernel_rfl) hl hw
def a53 : ACode :=
  (.seq
   (.rgn 2 [
    ⟨(some 7), none, (.box 28 (.t 3)), 0, [], [], [], []⟩,
    ⟨(some 8), none, (.mov (.c (.int .i64 0))), 1, [], [], [], []⟩])
  (.seq
   (.seq
    (.rgn 2 [
     ⟨(some 10), none, (.mov (.t 2)), 0, [], [], [], []⟩,
     ⟨(some 11), none, (.un .not (.t 10)), 1, [], [], [], []⟩])
   (.cond (.t 11)
     (.rgn 14 [
      ⟨(some 12), none, (.mov (.t 0)), 0, [], [], [], []⟩,
      ⟨(some 13), none, (.mov (.t 0)), 1, [], [], [], []⟩,
      ⟨(some 14), none, (.nck (.t 13)), 2, [], [], [], []⟩,
      ⟨(some 15), none, (.fa (.t 14) 0), 3, [], [], [], []⟩,
      ⟨(some 16), none, (.ld (.t 15) 1 false), 4, [9], [], [], []⟩,
      ⟨(some 17), none, (.mov (.t 1)), 5, [], [], [], []⟩,
      ⟨(some 18), none, (.fa (.t 7) 1), 6, [], [], [], []⟩,
      ⟨(some 19), none, (.ld (.t 18) 1 false), 7, [], [], [], []⟩,
      ⟨(some 20), none, (.build [(.int .i64 0), (.bool false), (.bool false), (.int .i64 0), (.isl (some true) true [])] [(0, (1, (.t 19)))]), 8, [], [], [], []⟩,
      ⟨(some 21), none, (.bsl 38 5 1 [(.int .i64 0), (.bool false), (.bool false), (.int .i64 0), (.isl (some true) true [])] [(0, (.t 20))]), 9, [], [], [], []⟩,
      ⟨(some 22), none, (.callS 58 [(.t 16), (.t 17), (.t 21)] false), 10, [], [], [], []⟩,
      ⟨(some 23), none, (.nck (.t 12)), 11, [], [], [], []⟩,
      ⟨(some 24), none, (.fa (.t 23) 0), 12, [], [], [], []⟩,
      ⟨none, none, (.st (.t 24) 1 (.t 22)), 13, [], [], [], []⟩])
     .skip))
  (.seq
   (.rgn 7 [
    ⟨(some 25), none, (.mov (.t 0)), 0, [], [], [], []⟩,
    ⟨(some 26), none, (.nck (.t 25)), 1, [], [], [], []⟩,
    ⟨(some 27), none, (.fa (.t 26) 0), 2, [], [], [], []⟩,
    ⟨(some 28), none, (.ld (.t 27) 1 false), 3, [], [], [], []⟩,
    ⟨(some 29), none, (.mov (.t 1)), 4, [], [], [], []⟩,
    ⟨(some 30), none, (.ia 5 (.t 28) (.t 29)), 5, [], [], [], []⟩,
    ⟨(some 9), none, (.mov (.t 30)), 6, [], [], [], []⟩])
  (.seq
   (.block 0
    (.seq
     (.rgn 5 [
      ⟨(some 32), none, (.mov (.t 9)), 0, [], [], [], []⟩,
      ⟨(some 33), none, (.nck (.t 32)), 1, [], [], [], []⟩,
      ⟨(some 34), none, (.fa (.t 33) 1), 2, [], [], [], []⟩,
      ⟨(some 35), none, (.ld (.t 34) 1 false), 3, [], [], [], []⟩,
      ⟨(some 31), none, (.mov (.t 35)), 4, [], [], [], []⟩])
    (.cond (.t 31)
      (.seq
       (.rgn 1 [
        ⟨(some 8), none, (.mov (.c (.int .i64 2))), 0, [], [], [], []⟩])
      .ret)
      (.seq
       (.rgn 14 [
        ⟨(some 37), none, (.mov (.t 9)), 0, [], [], [], []⟩,
        ⟨(some 38), none, (.nck (.t 37)), 1, [], [], [], []⟩,
        ⟨(some 39), none, (.fa (.t 38) 2), 2, [], [], [], []⟩,
        ⟨(some 40), none, (.ld (.t 39) 1 false), 3, [], [], [], []⟩,
        ⟨(some 41), none, (.mov (.t 40)), 4, [], [], [], []⟩,
        ⟨(some 42), (some (41, true)), (.fa (.t 7) 3), 5, [], [], [], []⟩,
        ⟨(some 43), (some (41, true)), (.ld (.t 42) 1 false), 6, [], [], [], []⟩,
        ⟨(some 44), (some (41, true)), (.mov (.t 9)), 7, [], [], [], []⟩,
        ⟨(some 45), (some (41, true)), (.nck (.t 44)), 8, [], [], [], []⟩,
        ⟨(some 46), (some (41, true)), (.fa (.t 45) 3), 9, [], [], [], []⟩,
        ⟨(some 47), (some (41, true)), (.ld (.t 46) 1 false), 10, [], [], [], []⟩,
        ⟨(some 48), (some (41, true)), (.bin .leq (.t 43) (.t 47)), 11, [], [], [], []⟩,
        ⟨(some 49), none, (.pick (.t 41) (.t 48) (.c (.bool false))), 12, [], [], [], []⟩,
        ⟨(some 36), none, (.mov (.t 49)), 13, [], [], [], []⟩])
      (.cond (.t 36)
        (.seq
         (.rgn 1 [
          ⟨(some 8), none, (.mov (.c (.int .i64 1))), 0, [], [], [], []⟩])
        .ret)
        .skip)))))
  (.seq
   (.rgn 25 [
    ⟨(some 50), none, (.mov (.t 9)), 0, [], [], [], []⟩,
    ⟨(some 51), none, (.mov (.t 9)), 1, [], [], [], []⟩,
    ⟨(some 52), none, (.mov (.t 9)), 2, [], [], [], []⟩,
    ⟨(some 53), none, (.fa (.t 7) 3), 3, [], [], [], []⟩,
    ⟨(some 54), none, (.ld (.t 53) 1 false), 4, [14, 15, 18], [], [7], []⟩,
    ⟨(some 55), none, (.mov (.t 9)), 5, [], [], [], []⟩,
    ⟨(some 56), none, (.nck (.t 55)), 6, [], [], [], []⟩,
    ⟨(some 57), none, (.fa (.t 56) 4), 7, [], [], [], []⟩,
    ⟨(some 58), none, (.ld (.t 57) 1 false), 8, [14], [], [], []⟩,
    ⟨(some 59), none, (.fa (.t 7) 3), 9, [], [], [], []⟩,
    ⟨(some 60), none, (.ld (.t 59) 1 false), 10, [], [], [], []⟩,
    ⟨(some 61), none, (.fa (.t 7) 4), 11, [], [], [], []⟩,
    ⟨(some 62), none, (.ld (.t 61) 1 false), 12, [], [], [], []⟩,
    ⟨(some 63), none, (.build [(.int .i64 0), (.int .u64 0)] [(0, (1, (.t 60))), (1, (1, (.t 62)))]), 13, [], [], [], []⟩,
    ⟨(some 64), none, (.bsl 44 2 1 [(.int .i64 0), (.int .u64 0)] [(0, (.t 63))]), 14, [], [], [], []⟩,
    ⟨(some 65), none, (.app 44 2 16 (.t 58) (.t 64)), 15, [], [7], [], []⟩,
    ⟨(some 66), none, (.nck (.t 50)), 16, [], [], [], []⟩,
    ⟨(some 67), none, (.fa (.t 66) 2), 17, [], [], [], []⟩,
    ⟨none, none, (.st (.t 67) 1 (.c (.bool true))), 18, [], [7], [], []⟩,
    ⟨(some 68), none, (.nck (.t 51)), 19, [], [], [], []⟩,
    ⟨(some 69), none, (.fa (.t 68) 3), 20, [], [], [], []⟩,
    ⟨none, none, (.st (.t 69) 1 (.t 54)), 21, [], [], [], []⟩,
    ⟨(some 70), none, (.nck (.t 52)), 22, [], [], [], []⟩,
    ⟨(some 71), none, (.fa (.t 70) 4), 23, [], [], [], []⟩,
    ⟨none, none, (.st (.t 71) 1 (.t 65)), 24, [], [], [], []⟩])
  (.seq
   (.rgn 1 [
    ⟨(some 8), none, (.mov (.c (.int .i64 0))), 0, [], [], [], []⟩])
  .ret))))))
def r53 : List ARes := [(.tmp 8)]
theorem k53 : compCode Try.prog 72 (ngOf [(2,10)]) (Try.f53.body.getD .skip) = some a53 := by kernel_rfl
theorem e53 {vs : List AV} {h : Hp} {n : Nat} {K : AV → Hp → Nat → Prop} (hl : vs.length ≤ 72) (hw : wpA Try.prog a53 (retA r53 K) ⟨argS vs, h, n⟩) : CallsA Try.prog 53 vs h n K :=
  fn_sound (fn := Try.f53) (c := Try.f53.body.getD .skip) mo (by kernel_rfl) (by kernel_rfl) (by kernel_rfl) k53 (by kernel_rfl) hl hw
def a54 : ACode :=
  (.seq
   (.rgn 1 [
    ⟨(some 6), none, (.mov (.c (.isl (some true) true []))), 0, [], [], [], []⟩])
  (.seq
   (.rgn 1 [
    ⟨(some 7), none, (.mov (.c (.isl (some true) true []))), 0, [], [], [], []⟩])
  (.seq
   (.seq
    (.rgn 3 [
     ⟨(some 10), none, (.mov (.t 0)), 0, [], [], [], []⟩,
     ⟨(some 11), none, (.len (.t 10)), 1, [], [], [], []⟩,
     ⟨(some 12), none, (.mov (.c (.int .i64 0))), 2, [], [], [], []⟩])
   (.block 0
    (.loop
     (.seq
      (.rgn 1 [
       ⟨(some 13), none, (.bin .lss (.t 12) (.t 11)), 0, [], [], [], []⟩])
     (.seq
      (.cond (.t 13)
        .skip
        (.exit 0))
     (.seq
      (.block 1
       (.seq
        (.rgn 4 [
         ⟨(some 14), none, (.ia 2 (.t 10) (.t 12)), 0, [], [], [], []⟩,
         ⟨(some 15), none, (.ld (.t 14) 2 true), 1, [], [], [], []⟩,
         ⟨(some 9), none, (.new 44 (.agg [(.int .i64 0), (.int .u64 0)])), 2, [], [], [], []⟩,
         ⟨none, none, (.st (.t 9) 2 (.t 15)), 3, [], [], [], []⟩])
       (.seq
        (.rgn 10 [
         ⟨(some 16), none, (.fa (.t 9) 0), 0, [], [], [], []⟩,
         ⟨(some 17), none, (.ld (.t 16) 1 false), 1, [], [], [], []⟩,
         ⟨(some 18), none, (.mov (.t 1)), 2, [], [], [], []⟩,
         ⟨(some 19), none, (.bin .geq (.t 17) (.t 18)), 3, [], [], [], []⟩,
         ⟨(some 20), none, (.mov (.t 19)), 4, [], [], [], []⟩,
         ⟨(some 21), (some (20, true)), (.fa (.t 9) 0), 5, [], [], [], []⟩,
         ⟨(some 22), (some (20, true)), (.ld (.t 21) 1 false), 6, [], [], [], []⟩,
         ⟨(some 23), (some (20, true)), (.mov (.t 2)), 7, [], [], [], []⟩,
         ⟨(some 24), (some (20, true)), (.bin .leq (.t 22) (.t 23)), 8, [], [], [], []⟩,
         ⟨(some 25), none, (.pick (.t 20) (.t 24) (.c (.bool false))), 9, [], [], [], []⟩])
       (.cond (.t 25)
         (.rgn 5 [
          ⟨(some 26), none, (.mov (.t 7)), 0, [], [], [], []⟩,
          ⟨(some 27), none, (.ld (.t 9) 2 true), 1, [], [], [], []⟩,
          ⟨(some 28), none, (.bsl 44 2 1 [(.int .i64 0), (.int .u64 0)] [(0, (.t 27))]), 2, [], [], [], []⟩,
          ⟨(some 29), none, (.app 44 2 16 (.t 26) (.t 28)), 3, [], [], [], []⟩,
          ⟨(some 7), none, (.mov (.t 29)), 4, [], [], [], []⟩])
         .skip))))
     (.rgn 2 [
      ⟨(some 30), none, (.bin .add (.t 12) (.c (.int .i64 1))), 0, [], [], [], []⟩,
      ⟨(some 12), none, (.mov (.t 30)), 1, [], [], [], []⟩])))))))
  (.seq
   (.rgn 3 [
    ⟨(some 31), none, (.mov (.t 7)), 0, [], [], [], []⟩,
    ⟨(some 32), none, (.callS 59 [(.t 31)] true), 1, [], [], [], []⟩,
    ⟨(some 6), none, (.mov (.t 32)), 2, [], [], [], []⟩])
  .ret))))
def r54 : List ARes := [(.tmp 6)]
theorem k54 : compCode Try.prog 33 (ngOf []) (Try.f54.body.getD .skip) = some a54 := by kernel_rfl
theorem e54 {vs : List AV} {h : Hp} {n : Nat} {K : AV → Hp → Nat → Prop} (hl : vs.length ≤ 33) (hw : wpA Try.prog a54 (retA r54 K) ⟨argS vs, h, n⟩) : CallsA Try.prog 54 vs h n K :=
  fn_sound (fn := Try.f54) (c := Try.f54.body.getD .skip) mo (by kernel_rfl) (by kernel_rfl) (by kernel_rfl) k54 (by kernel_rfl) hl hw
def a55 : ACode :=
  (.seq
   (.rgn 1 [
    ⟨(some 6), none, (.mov (.c (.isl (some true) true []))), 0, [], [], [], []⟩])
  (.seq
   (.rgn 6 [
    ⟨(some 8), none, (.mov (.t 0)), 0, [], [], [], []⟩,
    ⟨(some 9), none, (.mov (.t 1)), 1, [], [], [], []⟩,
    ⟨(some 10), none, (.mov (.t 2)), 2, [], [], [], []⟩,
    ⟨(some 11), none, (.mov (.t 0)), 3, [], [], [], []⟩,
    ⟨(some 12), none, (.len (.t 11)), 4, [], [], [], []⟩,
    ⟨(some 13), none, (.slc 5 (.t 8) (some (.t 9)) (some (.t 10)) (some (.t 12))), 5, [], [], [], []⟩])
  (.seq
   (.seq
    (.rgn 3 [
     ⟨(some 14), none, (.mov (.t 1)), 0, [], [], [], []⟩,
     ⟨(some 15), none, (.mov (.t 2)), 1, [], [], [], []⟩,
     ⟨(some 16), none, (.bin .eql (.t 14) (.t 15)), 2, [], [], [], []⟩])
   (.cond (.t 16)
     (.seq
      (.rgn 2 [
       ⟨(some 17), none, (.mov (.t 0)), 0, [], [], [], []⟩,
       ⟨(some 6), none, (.mov (.t 17)), 1, [], [], [], []⟩])
     .ret)
     .skip))
  (.seq
   (.rgn 3 [
    ⟨(some 18), none, (.mov (.t 0)), 0, [], [], [], []⟩,
    ⟨(some 19), none, (.len (.t 18)), 1, [], [], [], []⟩,
    ⟨(some 7), none, (.mov (.t 19)), 2, [], [], [], []⟩])
  (.seq
   (.rgn 8 [
    ⟨(some 20), none, (.mov (.t 0)), 0, [], [], [], []⟩,
    ⟨(some 21), none, (.mov (.t 1)), 1, [], [], [], []⟩,
    ⟨(some 22), none, (.slc 5 (.t 20) none (some (.t 21)) none), 2, [], [], [], []⟩,
    ⟨(some 23), none, (.mov (.t 0)), 3, [], [], [], []⟩,
    ⟨(some 24), none, (.mov (.t 2)), 4, [], [], [], []⟩,
    ⟨(some 25), none, (.slc 5 (.t 23) (some (.t 24)) none none), 5, [], [], [], []⟩,
    ⟨(some 26), none, (.app 38 5 48 (.t 22) (.t 25)), 6, [], [], [], []⟩,
    ⟨(some 0), none, (.mov (.t 26)), 7, [], [], [], []⟩])
  (.seq
   (.rgn 6 [
    ⟨(some 27), none, (.mov (.t 0)), 0, [], [], [], []⟩,
    ⟨(some 28), none, (.mov (.t 0)), 1, [], [], [], []⟩,
    ⟨(some 29), none, (.len (.t 28)), 2, [], [], [], []⟩,
    ⟨(some 30), none, (.mov (.t 7)), 3, [], [], [], []⟩,
    ⟨(some 31), none, (.slc 5 (.t 27) (some (.t 29)) (some (.t 30)) none), 4, [], [], [], []⟩,
    ⟨none, none, (.clr 5 [(.int .i64 0), (.bool false), (.bool false), (.int .i64 0), (.isl (some true) true [])] (.t 31)), 5, [], [], [], []⟩])
  (.seq
   (.rgn 2 [
    ⟨(some 32), none, (.mov (.t 0)), 0, [], [], [], []⟩,
    ⟨(some 6), none, (.mov (.t 32)), 1, [], [], [], []⟩])
  .ret)))))))
def r55 : List ARes := [(.tmp 6)]
theorem k55 : compCode Try.prog 33 (ngOf []) (Try.f55.body.getD .skip) = some a55 := by kernel_rfl
theorem e55 {vs : List AV} {h : Hp} {n : Nat} {K : AV → Hp → Nat → Prop} (hl : vs.length ≤ 33) (hw : wpA Try.prog a55 (retA r55 K) ⟨argS vs, h, n⟩) : CallsA Try.prog 55 vs h n K :=
  fn_sound (fn := Try.f55) (c := Try.f55.body.getD .skip) mo (by kernel_rfl) (by kernel_rfl) (by kernel_rfl) k55 (by kernel_rfl) hl hw
def a56 : ACode :=
  (.seq
   (.rgn 1 [
    ⟨(some 4), none, (.mov (.c (.int .i64 0))), 0, [], [], [], []⟩])
  (.seq
   (.seq
    (.rgn 3 [
     ⟨(some 6), none, (.mov (.t 0)), 0, [], [], [], []⟩,
     ⟨(some 7), none, (.len (.t 6)), 1, [], [], [], []⟩,
     ⟨(some 8), none, (.mov (.c (.int .i64 0))), 2, [], [], [], []⟩])
   (.block 0
    (.loop
     (.seq
      (.rgn 1 [
       ⟨(some 9), none, (.bin .lss (.t 8) (.t 7)), 0, [], [], [], []⟩])
     (.seq
      (.cond (.t 9)
        .skip
        (.exit 0))
     (.seq
      (.block 1
       (.seq
        (.rgn 2 [
         ⟨(some 10), none, (.mov (.t 8)), 0, [], [], [], []⟩,
         ⟨(some 5), none, (.mov (.t 10)), 1, [], [], [], []⟩])
       (.seq
        (.rgn 6 [
         ⟨(some 11), none, (.mov (.t 1)), 0, [], [], [], []⟩,
         ⟨(some 12), none, (.mov (.t 0)), 1, [], [], [], []⟩,
         ⟨(some 13), none, (.mov (.t 5)), 2, [], [], [], []⟩,
         ⟨(some 14), none, (.ia 5 (.t 12) (.t 13)), 3, [], [], [], []⟩,
         ⟨(some 15), none, (.ld (.t 14) 5 true), 4, [], [], [], []⟩,
         ⟨(some 16), none, (.callV (.t 11) [(.t 15)] true), 5, [], [], [], []⟩])
       (.cond (.t 16)
         (.seq
          (.rgn 2 [
           ⟨(some 17), none, (.mov (.t 5)), 0, [], [], [], []⟩,
           ⟨(some 4), none, (.mov (.t 17)), 1, [], [], [], []⟩])
         .ret)
         .skip))))
     (.rgn 2 [
      ⟨(some 18), none, (.bin .add (.t 8) (.c (.int .i64 1))), 0, [], [], [], []⟩,
      ⟨(some 8), none, (.mov (.t 18)), 1, [], [], [], []⟩])))))))
  (.seq
   (.rgn 1 [
    ⟨(some 4), none, (.mov (.c (.int .i64 (-1)))), 0, [], [], [], []⟩])
  .ret)))
def r56 : List ARes := [(.tmp 4)]
theorem k56 : compCode Try.prog 19 (ngOf []) (Try.f56.body.getD .skip) = some a56 := by kernel_rfl
theorem e56 {vs : List AV} {h : Hp} {n : Nat} {K : AV → Hp → Nat → Prop} (hl : vs.length ≤ 19) (hw : wpA Try.prog a56 (retA r56 K) ⟨argS vs, h, n⟩) : CallsA Try.prog 56 vs h n K :=
  fn_sound (fn := Try.f56) (c := Try.f56.body.getD .skip) mo (by kernel_rfl) (by kernel_rfl) (by kernel_rfl) k56 (by kernel_rfl) hl hw
def a57 : ACode :=
  (.seq
   (.rgn 2 [
    ⟨(some 2), none, (.box 38 (.t 0)), 0, [], [], [], []⟩,
    ⟨(some 3), none, (.mov (.c (.bool false))), 1, [], [], [], []⟩])
  (.seq
   (.rgn 5 [
    ⟨(some 4), none, (.fa (.t 2) 0), 0, [], [], [], []⟩,
    ⟨(some 5), none, (.ld (.t 4) 1 false), 1, [], [], [], []⟩,
    ⟨(some 6), none, (.ld (.t 1) 1 false), 2, [], [], [], []⟩,
    ⟨(some 7), none, (.bin .geq (.t 5) (.t 6)), 3, [], [], [], []⟩,
    ⟨(some 3), none, (.mov (.t 7)), 4, [], [], [], []⟩])
  .ret))
def r57 : List ARes := [(.tmp 3)]
theorem k57 : compCode Try.prog 8 (ngOf []) (Try.f57.body.getD .skip) = some a57 := by kernel_rfl
theorem e57 {vs : List AV} {h : Hp} {n : Nat} {K : AV → Hp → Nat → Prop} (hl : vs.length ≤ 8) (hw : wpA Try.prog a57 (retA r57 K) ⟨argS vs, h, n⟩) : CallsA Try.prog 57 vs h n K :=
  fn_sound (fn := Try.f57) (c := Try.f57.body.getD .skip) mo (by kernel_rfl) (by kernel_rfl) (by kernel_rfl) k57 (by kernel_rfl) hl hw
def a58 : ACode :=
  (.seq
   (.rgn 1 [
    ⟨(some 6), none, (.mov (.c (.isl (some true) true []))), 0, [], [], [], []⟩])
  (.seq
   (.rgn 3 [
    ⟨(some 10), none, (.mov (.t 0)), 0, [], [], [], []⟩,
    ⟨(some 11), none, (.mov (.t 1)), 1, [], [], [], []⟩,
    ⟨(some 12), none, (.slc 5 (.t 10) (some (.t 11)) none none), 2, [], [], [], []⟩])
  (.seq
   (.rgn 3 [
    ⟨(some 13), none, (.mov (.t 2)), 0, [], [], [], []⟩,
    ⟨(some 14), none, (.len (.t 13)), 1, [], [], [], []⟩,
    ⟨(some 7), none, (.mov (.t 14)), 2, [], [], [], []⟩])
  (.seq
   (.seq
    (.rgn 2 [
     ⟨(some 15), none, (.mov (.t 7)), 0, [], [], [], []⟩,
     ⟨(some 16), none, (.bin .eql (.t 15) (.c (.int .i64 0))), 1, [], [], [], []⟩])
   (.cond (.t 16)
     (.seq
      (.rgn 2 [
       ⟨(some 17), none, (.mov (.t 0)), 0, [], [], [], []⟩,
       ⟨(some 6), none, (.mov (.t 17)), 1, [], [], [], []⟩])
     .ret)
     .skip))
  (.seq
   (.rgn 3 [
    ⟨(some 18), none, (.mov (.t 0)), 0, [], [], [], []⟩,
    ⟨(some 19), none, (.len (.t 18)), 1, [], [], [], []⟩,
    ⟨(some 8), none, (.mov (.t 19)), 2, [], [], [], []⟩])
  (.seq
   (.seq
    (.rgn 3 [
     ⟨(some 20), none, (.mov (.t 1)), 0, [], [], [], []⟩,
     ⟨(some 21), none, (.mov (.t 8)), 1, [], [], [], []⟩,
     ⟨(some 22), none, (.bin .eql (.t 20) (.t 21)), 2, [], [], [], []⟩])
   (.cond (.t 22)
     (.seq
      (.rgn 4 [
       ⟨(some 23), none, (.mov (.t 0)), 0, [], [], [], []⟩,
       ⟨(some 24), none, (.mov (.t 2)), 1, [], [], [], []⟩,
       ⟨(some 25), none, (.app 38 5 48 (.t 23) (.t 24)), 2, [], [], [], []⟩,
       ⟨(some 6), none, (.mov (.t 25)), 3, [], [], [], []⟩])
     .ret)
     .skip))
  (.seq
   (.seq
    (.rgn 6 [
     ⟨(some 26), none, (.mov (.t 8)), 0, [], [], [], []⟩,
     ⟨(some 27), none, (.mov (.t 7)), 1, [], [], [], []⟩,
     ⟨(some 28), none, (.bin .add (.t 26) (.t 27)), 2, [], [], [], []⟩,
     ⟨(some 29), none, (.mov (.t 0)), 3, [], [], [], []⟩,
     ⟨(some 30), none, (.cap (.t 29)), 4, [], [], [], []⟩,
     ⟨(some 31), none, (.bin .gtr (.t 28) (.t 30)), 5, [], [], [], []⟩])
   (.cond (.t 31)
     (.seq
      (.rgn 10 [
       ⟨(some 32), none, (.mov (.t 0)), 0, [], [], [], []⟩,
       ⟨(some 33), none, (.mov (.t 1)), 1, [], [], [], []⟩,
       ⟨(some 34), none, (.slc 5 (.t 32) none (some (.t 33)) none), 2, [], [], [], []⟩,
       ⟨(some 35), none, (.mov (.t 8)), 3, [], [], [], []⟩,
       ⟨(some 36), none, (.mov (.t 7)), 4, [], [], [], []⟩,
       ⟨(some 37), none, (.bin .add (.t 35) (.t 36)), 5, [], [], [], []⟩,
       ⟨(some 38), none, (.mov (.t 1)), 6, [], [], [], []⟩,
       ⟨(some 39), none, (.bin .sub (.t 37) (.t 38)), 7, [], [], [], []⟩,
       ⟨(some 40), none, (.apz 38 5 48 (.agg [(.int .i64 0), (.bool false), (.bool false), (.int .i64 0), (.isl (some true) true [])]) (.t 34) (.t 39)), 8, [], [], [], []⟩,
       ⟨(some 9), none, (.mov (.t 40)), 9, [], [], [], []⟩])
     (.seq
      (.rgn 5 [
       ⟨(some 41), none, (.mov (.t 9)), 0, [], [], [], []⟩,
       ⟨(some 42), none, (.mov (.t 1)), 1, [], [], [], []⟩,
       ⟨(some 43), none, (.slc 5 (.t 41) (some (.t 42)) none none), 2, [], [], [], []⟩,
       ⟨(some 44), none, (.mov (.t 2)), 3, [], [], [], []⟩,
       ⟨(some 45), none, (.cpy 5 (.t 43) (.t 44)), 4, [], [], [], []⟩])
     (.seq
      (.rgn 9 [
       ⟨(some 46), none, (.mov (.t 9)), 0, [], [], [], []⟩,
       ⟨(some 47), none, (.mov (.t 1)), 1, [], [], [], []⟩,
       ⟨(some 48), none, (.mov (.t 7)), 2, [], [], [], []⟩,
       ⟨(some 49), none, (.bin .add (.t 47) (.t 48)), 3, [], [], [], []⟩,
       ⟨(some 50), none, (.slc 5 (.t 46) (some (.t 49)) none none), 4, [], [], [], []⟩,
       ⟨(some 51), none, (.mov (.t 0)), 5, [], [], [], []⟩,
       ⟨(some 52), none, (.mov (.t 1)), 6, [], [], [], []⟩,
       ⟨(some 53), none, (.slc 5 (.t 51) (some (.t 52)) none none), 7, [], [], [], []⟩,
       ⟨(some 54), none, (.cpy 5 (.t 50) (.t 53)), 8, [], [], [], []⟩])
     (.seq
      (.rgn 2 [
       ⟨(some 55), none, (.mov (.t 9)), 0, [], [], [], []⟩,
       ⟨(some 6), none, (.mov (.t 55)), 1, [], [], [], []⟩])
     .ret))))
     .skip))
  (.seq
   (.rgn 6 [
    ⟨(some 56), none, (.mov (.t 0)), 0, [], [], [], []⟩,
    ⟨(some 57), none, (.mov (.t 8)), 1, [], [], [], []⟩,
    ⟨(some 58), none, (.mov (.t 7)), 2, [], [], [], []⟩,
    ⟨(some 59), none, (.bin .add (.t 57) (.t 58)), 3, [], [], [], []⟩,
    ⟨(some 60), none, (.slc 5 (.t 56) none (some (.t 59)) none), 4, [], [], [], []⟩,
    ⟨(some 0), none, (.mov (.t 60)), 5, [], [], [], []⟩])
  (.seq
   (.seq
    (.rgn 8 [
     ⟨(some 61), none, (.mov (.t 2)), 0, [], [], [], []⟩,
     ⟨(some 62), none, (.mov (.t 0)), 1, [], [], [], []⟩,
     ⟨(some 63), none, (.mov (.t 1)), 2, [], [], [], []⟩,
     ⟨(some 64), none, (.mov (.t 7)), 3, [], [], [], []⟩,
     ⟨(some 65), none, (.bin .add (.t 63) (.t 64)), 4, [], [], [], []⟩,
     ⟨(some 66), none, (.slc 5 (.t 62) (some (.t 65)) none none), 5, [], [], [], []⟩,
     ⟨(some 67), none, (.callS 60 [(.t 61), (.t 66)] true), 6, [], [], [], []⟩,
     ⟨(some 68), none, (.un .not (.t 67)), 7, [], [], [], []⟩])
   (.cond (.t 68)
     (.seq
      (.rgn 9 [
       ⟨(some 69), none, (.mov (.t 0)), 0, [], [], [], []⟩,
       ⟨(some 70), none, (.mov (.t 1)), 1, [], [], [], []⟩,
       ⟨(some 71), none, (.mov (.t 7)), 2, [], [], [], []⟩,
       ⟨(some 72), none, (.bin .add (.t 70) (.t 71)), 3, [], [], [], []⟩,
       ⟨(some 73), none, (.slc 5 (.t 69) (some (.t 72)) none none), 4, [], [], [], []⟩,
       ⟨(some 74), none, (.mov (.t 0)), 5, [], [], [], []⟩,
       ⟨(some 75), none, (.mov (.t 1)), 6, [], [], [], []⟩,
       ⟨(some 76), none, (.slc 5 (.t 74) (some (.t 75)) none none), 7, [], [], [], []⟩,
       ⟨(some 77), none, (.cpy 5 (.t 73) (.t 76)), 8, [], [], [], []⟩])
     (.seq
      (.rgn 5 [
       ⟨(some 78), none, (.mov (.t 0)), 0, [], [], [], []⟩,
       ⟨(some 79), none, (.mov (.t 1)), 1, [], [], [], []⟩,
       ⟨(some 80), none, (.slc 5 (.t 78) (some (.t 79)) none none), 2, [], [], [], []⟩,
       ⟨(some 81), none, (.mov (.t 2)), 3, [], [], [], []⟩,
       ⟨(some 82), none, (.cpy 5 (.t 80) (.t 81)), 4, [], [], [], []⟩])
     (.seq
      (.rgn 2 [
       ⟨(some 83), none, (.mov (.t 0)), 0, [], [], [], []⟩,
       ⟨(some 6), none, (.mov (.t 83)), 1, [], [], [], []⟩])
     .ret)))
     .skip))
  (.seq
   (.rgn 5 [
    ⟨(some 84), none, (.mov (.t 0)), 0, [], [], [], []⟩,
    ⟨(some 85), none, (.mov (.t 8)), 1, [], [], [], []⟩,
    ⟨(some 86), none, (.slc 5 (.t 84) (some (.t 85)) none none), 2, [], [], [], []⟩,
    ⟨(some 87), none, (.mov (.t 2)), 3, [], [], [], []⟩,
    ⟨(some 88), none, (.cpy 5 (.t 86) (.t 87)), 4, [], [], [], []⟩])
  (.seq
   (.rgn 5 [
    ⟨(some 89), none, (.mov (.t 0)), 0, [], [], [], []⟩,
    ⟨(some 90), none, (.mov (.t 1)), 1, [], [], [], []⟩,
    ⟨(some 91), none, (.slc 5 (.t 89) (some (.t 90)) none none), 2, [], [], [], []⟩,
    ⟨(some 92), none, (.mov (.t 7)), 3, [], [], [], []⟩,
    ⟨(some 93), none, (.callS 61 [(.t 91), (.t 92)] false), 4, [], [], [], []⟩])
  (.seq
   (.rgn 2 [
    ⟨(some 94), none, (.mov (.t 0)), 0, [], [], [], []⟩,
    ⟨(some 6), none, (.mov (.t 94)), 1, [], [], [], []⟩])
  .ret))))))))))))
def r58 : List ARes := [(.tmp 6)]
theorem k58 : compCode Try.prog 95 (ngOf [(19,4)]) (Try.f58.body.getD .skip) = some a58 := by kernel_rfl
theorem e58 {vs : List AV} {h : Hp} {n : Nat} {K : AV → Hp → Nat → Prop} (hl : vs.length ≤ 95) (hw : wpA Try.prog a58 (retA r58 K) ⟨argS vs, h, n⟩) : CallsA Try.prog 58 vs h n K :=
  fn_sound (fn := Try.f58) (c := Try.f58.body.getD .skip) mo (by kernel_rfl) (by kernel_rfl) (by kernel_rfl) k58 (by kernel_rfl) hl hw
def a59 : ACode :=
  (.seq
   (.rgn 1 [
    ⟨(some 2), none, (.mov (.c (.isl (some true) true []))), 0, [], [], [], []⟩])
  (.seq
   (.rgn 7 [
    ⟨(some 3), none, (.mov (.t 0)), 0, [], [], [], []⟩,
    ⟨(some 4), none, (.mov (.t 0)), 1, [], [], [], []⟩,
    ⟨(some 5), none, (.len (.t 4)), 2, [], [], [], []⟩,
    ⟨(some 6), none, (.mov (.t 0)), 3, [], [], [], []⟩,
    ⟨(some 7), none, (.len (.t 6)), 4, [], [], [], []⟩,
    ⟨(some 8), none, (.slc 2 (.t 3) none (some (.t 5)) (some (.t 7))), 5, [], [], [], []⟩,
    ⟨(some 2), none, (.mov (.t 8)), 6, [], [], [], []⟩])
  .ret))
def r59 : List ARes := [(.tmp 2)]
theorem k59 : compCode Try.prog 9 (ngOf []) (Try.f59.body.getD .skip) = some a59 := by kernel_rfl
theorem e59 {vs : List AV} {h : Hp} {n : Nat} {K : AV → Hp → Nat → Prop} (hl : vs.length ≤ 9) (hw : wpA Try.prog a59 (retA r59 K) ⟨argS vs, h, n⟩) : CallsA Try.prog 59 vs h n K :=
  fn_sound (fn := Try.f59) (c := Try.f59.body.getD .skip) mo (by kernel_rfl) (by kernel_rfl) (by kernel_rfl) k59 (by kernel_rfl) hl hw
def a61 : ACode :=
  (.rgn 6 [
   ⟨(some 4), none, (.mov (.t 0)), 0, [], [], [], []⟩,
   ⟨(some 5), none, (.mov (.t 0)), 1, [], [], [], []⟩,
   ⟨(some 6), none, (.len (.t 5)), 2, [], [], [], []⟩,
   ⟨(some 7), none, (.mov (.t 1)), 3, [], [], [], []⟩,
   ⟨(some 8), none, (.bin .sub (.t 6) (.t 7)), 4, [], [], [], []⟩,
   ⟨(some 9), none, (.callS 62 [(.t 4), (.t 8)] false), 5, [], [], [], []⟩])
def r61 : List ARes := []
theorem k61 : compCode Try.prog 10 (ngOf [(0,5)]) (Try.f61.body.getD .skip) = some a61 := by kernel_rfl
theorem e61 {vs : List AV} {h : Hp} {n : Nat} {K : AV → Hp → Nat → Prop} (hl : vs.length ≤ 10) (hw : wpA Try.prog a61 (retA r61 K) ⟨argS vs, h, n⟩) : CallsA Try.prog 61 vs h n K :=
  fn_sound (fn := Try.f61) (c := Try.f61.body.getD .skip) mo (by kernel_rfl) (by kernel_rfl) (by kernel_rfl) k61 (by kernel_rfl) hl hw
def a62 : ACode :=
  (.seq
   (.rgn 4 [
    ⟨(some 4), none, (.mov (.t 0)), 0, [], [], [], []⟩,
    ⟨(some 5), none, (.mov (.t 1)), 1, [], [], [], []⟩,
    ⟨(some 6), none, (.slc 5 (.t 4) none (some (.t 5)) none), 2, [], [], [], []⟩,
    ⟨(some 7), none, (.callS 63 [(.t 6)] false), 3, [], [], [], []⟩])
  (.seq
   (.rgn 4 [
    ⟨(some 8), none, (.mov (.t 0)), 0, [], [], [], []⟩,
    ⟨(some 9), none, (.mov (.t 1)), 1, [], [], [], []⟩,
    ⟨(some 10), none, (.slc 5 (.t 8) (some (.t 9)) none none), 2, [], [], [], []⟩,
    ⟨(some 11), none, (.callS 63 [(.t 10)] false), 3, [], [], [], []⟩])
  (.rgn 2 [
   ⟨(some 12), none, (.mov (.t 0)), 0, [], [], [], []⟩,
   ⟨(some 13), none, (.callS 63 [(.t 12)] false), 1, [], [], [], []⟩])))
def r62 : List ARes := []
theorem k62 : compCode Try.prog 14 (ngOf [(0,3), (1,3), (2,1)]) (Try.f62.body.getD .skip) = some a62 := by kernel_rfl
theorem e62 {vs : List AV} {h : Hp} {n : Nat} {K : AV → Hp → Nat → Prop} (hl : vs.length ≤ 14) (hw : wpA Try.prog a62 (retA r62 K) ⟨argS vs, h, n⟩) : CallsA Try.prog 62 vs h n K :=
  fn_sound (fn := Try.f62) (c := Try.f62.body.getD .skip) mo (by kernel_rfl) (by kernel_rfl) (by kernel_rfl) k62 (by kernel_rfl) hl hw
def a63 : ACode :=
  (.seq
   (.rgn 5 [
    ⟨(some 4), none, (.mov (.t 0)), 0, [], [], [], []⟩,
    ⟨(some 5), none, (.len (.t 4)), 1, [], [], [], []⟩,
    ⟨(some 6), none, (.bin .sub (.t 5) (.c (.int .i64 1))), 2, [], [], [], []⟩,
    ⟨(some 2), none, (.mov (.c (.int .i64 0))), 3, [], [], [], []⟩,
    ⟨(some 3), none, (.mov (.t 6)), 4, [], [], [], []⟩])
  (.block 0
   (.loop
    (.seq
     (.seq
      (.rgn 3 [
       ⟨(some 7), none, (.mov (.t 2)), 0, [], [], [], []⟩,
       ⟨(some 8), none, (.mov (.t 3)), 1, [], [], [], []⟩,
       ⟨(some 9), none, (.bin .lss (.t 7) (.t 8)), 2, [], [], [], []⟩])
     (.cond (.t 9)
       .skip
       (.exit 0)))
    (.seq
     (.block 1
      (.rgn 16 [
       ⟨(some 14), none, (.mov (.t 0)), 0, [], [], [], []⟩,
       ⟨(some 15), none, (.mov (.t 2)), 1, [], [], [], []⟩,
       ⟨(some 16), none, (.mov (.t 0)), 2, [], [], [], []⟩,
       ⟨(some 17), none, (.mov (.t 3)), 3, [], [], [], []⟩,
       ⟨(some 18), none, (.mov (.t 0)), 4, [], [], [], []⟩,
       ⟨(some 19), none, (.mov (.t 3)), 5, [], [], [], []⟩,
       ⟨(some 20), none, (.ia 5 (.t 18) (.t 19)), 6, [], [], [], []⟩,
       ⟨(some 21), none, (.ld (.t 20) 5 true), 7, [], [], [], []⟩,
       ⟨(some 22), none, (.mov (.t 0)), 8, [], [], [], []⟩,
       ⟨(some 23), none, (.mov (.t 2)), 9, [], [], [], []⟩,
       ⟨(some 24), none, (.ia 5 (.t 22) (.t 23)), 10, [], [], [], []⟩,
       ⟨(some 25), none, (.ld (.t 24) 5 true), 11, [], [], [], []⟩,
       ⟨(some 26), none, (.ia 5 (.t 14) (.t 15)), 12, [], [], [], []⟩,
       ⟨none, none, (.st (.t 26) 5 (.t 21)), 13, [], [], [], []⟩,
       ⟨(some 27), none, (.ia 5 (.t 16) (.t 17)), 14, [], [], [], []⟩,
       ⟨none, none, (.st (.t 27) 5 (.t 25)), 15, [], [], [], []⟩]))
    (.rgn 6 [
     ⟨(some 10), none, (.mov (.t 2)), 0, [], [], [], []⟩,
     ⟨(some 11), none, (.bin .add (.t 10) (.c (.int .i64 1))), 1, [], [], [], []⟩,
     ⟨(some 12), none, (.mov (.t 3)), 2, [], [], [], []⟩,
     ⟨(some 13), none, (.bin .sub (.t 12) (.c (.int .i64 1))), 3, [], [], [], []⟩,
     ⟨(some 2), none, (.mov (.t 11)), 4, [], [], [], []⟩,
     ⟨(some 3), none, (.mov (.t 13)), 5, [], [], [], []⟩]))))))
def r63 : List ARes := []
theorem k63 : compCode Try.prog 28 (ngOf []) (Try.f63.body.getD .skip) = some a63 := by kernel_rfl
theorem e63 {vs : List AV} {h : Hp} {n : Nat} {K : AV → Hp → Nat → Prop} (hl : vs.length ≤ 28) (hw : wpA Try.prog a63 (retA r63 K) ⟨argS vs, h, n⟩) : CallsA Try.prog 63 vs h n K :=
  fn_sound (fn := Try.f63) (c := Try.f63.body.getD .skip) mo (by kernel_rfl) (by kernel_rfl) (by kernel_rfl) k63 (by kernel_rfl) hl hw
def a3 : ACode :=
  (.seq
   (.rgn 1 [
    ⟨(some 6), none, (.mov (.c (.bool false))), 0, [], [], [], []⟩])
  (.seq
   (.rgn 1 [
    ⟨(some 7), none, (.mov (.c (.fn 10 []))), 0, [], [], [], []⟩])
  (.seq
   (.rgn 11 [
    ⟨(some 26), none, (.mov (.t 7)), 0, [], [], [], []⟩,
    ⟨(some 27), none, (.build [(.isl (some true) true []), (.isl (some true) true []), (.int .i64 0)] []), 1, [], [], [], []⟩,
    ⟨(some 28), none, (.mov (.t 0)), 2, [], [], [], []⟩,
    ⟨(some 29), none, (.build [(.int .i64 0), (.int .i64 0), (.int .i64 0), (.int .i64 0), (.int .u64 0), (.int .i64 0), (.int .i64 0), (.int .i64 0)] [(0, (1, (.c (.int .i64 1)))), (1, (1, (.c (.int .i64 5)))), (3, (1, (.t 28))), (4, (1, (.c (.int .u64 1))))]), 3, [], [], [], []⟩,
    ⟨(some 30), none, (.callV (.t 26) [(.t 27), (.t 29)] true), 4, [], [], [], []⟩,
    ⟨(some 25), none, (.mov (.t 30)), 5, [], [], [], []⟩,
    ⟨(some 31), none, (.ext (.t 25) 0), 6, [], [], [], []⟩,
    ⟨(some 32), none, (.ext (.t 25) 1), 7, [], [], [], []⟩,
    ⟨(some 8), none, (.new 25 (.agg [(.isl (some true) true []), (.isl (some true) true []), (.int .i64 0)])), 8, [], [], [], []⟩,
    ⟨none, none, (.st (.t 8) 3 (.t 31)), 9, [], [], [], []⟩,
    ⟨(some 9), none, (.mov (.t 32)), 10, [], [], [], []⟩])
  (.seq
   (.rgn 9 [
    ⟨(some 34), none, (.mov (.t 7)), 0, [], [], [], []⟩,
    ⟨(some 35), none, (.ld (.t 8) 3 true), 1, [], [], [], []⟩,
    ⟨(some 36), none, (.build [(.int .i64 0), (.int .i64 0), (.int .i64 0), (.int .i64 0), (.int .u64 0), (.int .i64 0), (.int .i64 0), (.int .i64 0)] [(0, (1, (.c (.int .i64 3)))), (1, (1, (.c (.int .i64 5))))]), 2, [], [], [], []⟩,
    ⟨(some 37), none, (.callV (.t 34) [(.t 35), (.t 36)] true), 3, [], [], [], []⟩,
    ⟨(some 33), none, (.mov (.t 37)), 4, [], [], [], []⟩,
    ⟨(some 38), none, (.ext (.t 33) 0), 5, [], [], [], []⟩,
    ⟨(some 39), none, (.ext (.t 33) 1), 6, [], [], [], []⟩,
    ⟨none, none, (.st (.t 8) 3 (.t 38)), 7, [], [], [], []⟩,
    ⟨(some 10), none, (.mov (.t 39)), 8, [], [], [], []⟩])
  (.seq
   (.rgn 10 [
    ⟨(some 41), none, (.mov (.t 7)), 0, [], [], [], []⟩,
    ⟨(some 42), none, (.ld (.t 8) 3 true), 1, [], [], [], []⟩,
    ⟨(some 43), none, (.build [(.int .i64 0), (.int .i64 0), (.int .i64 0), (.int .i64 0), (.int .u64 0), (.int .i64 0), (.int .i64 0), (.int .i64 0)] [(0, (1, (.c (.int .i64 1)))), (1, (1, (.c (.int .i64 5)))), (3, (1, (.c (.int .i64 9223372036854775807))))]), 2, [], [], [], []⟩,
    ⟨(some 44), none, (.callV (.t 41) [(.t 42), (.t 43)] true), 3, [], [], [], []⟩,
    ⟨(some 40), none, (.mov (.t 44)), 4, [], [], [], []⟩,
    ⟨(some 45), none, (.ext (.t 40) 0), 5, [], [], [], []⟩,
    ⟨(some 46), none, (.ext (.t 40) 1), 6, [], [], [], []⟩,
    ⟨(some 11), none, (.new 25 (.agg [(.isl (some true) true []), (.isl (some true) true []), (.int .i64 0)])), 7, [], [], [], []⟩,
    ⟨none, none, (.st (.t 11) 3 (.t 45)), 8, [], [], [], []⟩,
    ⟨(some 12), none, (.mov (.t 46)), 9, [], [], [], []⟩])
  (.seq
   (.rgn 10 [
    ⟨(some 48), none, (.mov (.t 7)), 0, [], [], [], []⟩,
    ⟨(some 49), none, (.ld (.t 8) 3 true), 1, [], [], [], []⟩,
    ⟨(some 50), none, (.build [(.int .i64 0), (.int .i64 0), (.int .i64 0), (.int .i64 0), (.int .u64 0), (.int .i64 0), (.int .i64 0), (.int .i64 0)] [(0, (1, (.c (.int .i64 3)))), (1, (1, (.c (.int .i64 5))))]), 2, [], [], [], []⟩,
    ⟨(some 51), none, (.callV (.t 48) [(.t 49), (.t 50)] true), 3, [], [], [], []⟩,
    ⟨(some 47), none, (.mov (.t 51)), 4, [], [], [], []⟩,
    ⟨(some 52), none, (.ext (.t 47) 0), 5, [], [], [], []⟩,
    ⟨(some 53), none, (.ext (.t 47) 1), 6, [], [], [], []⟩,
    ⟨(some 13), none, (.new 25 (.agg [(.isl (some true) true []), (.isl (some true) true []), (.int .i64 0)])), 7, [], [], [], []⟩,
    ⟨none, none, (.st (.t 13) 3 (.t 52)), 8, [], [], [], []⟩,
    ⟨(some 14), none, (.mov (.t 53)), 9, [], [], [], []⟩])
  (.seq
   (.rgn 12 [
    ⟨(some 55), none, (.ld (.t 8) 3 true), 0, [], [], [], []⟩,
    ⟨(some 56), none, (.mov (.t 0)), 1, [], [], [], []⟩,
    ⟨(some 57), none, (.mov (.t 0)), 2, [], [], [], []⟩,
    ⟨(some 58), none, (.build [(.int .i64 0), (.int .i64 0), (.int .i64 0), (.int .i64 0), (.int .u64 0), (.int .i64 0), (.int .i64 0), (.int .i64 0)] [(0, (1, (.c (.int .i64 2)))), (1, (1, (.c (.int .i64 5)))), (5, (1, (.t 56))), (6, (1, (.t 57)))]), 3, [], [], [], []⟩,
    ⟨(some 59), none, (.callS 11 [(.t 55), (.t 58)] true), 4, [], [], [], []⟩,
    ⟨(some 54), none, (.mov (.t 59)), 5, [], [], [], []⟩,
    ⟨(some 60), none, (.ext (.t 54) 0), 6, [], [], [], []⟩,
    ⟨(some 61), none, (.ext (.t 54) 1), 7, [], [], [], []⟩,
    ⟨(some 15), none, (.new 25 (.agg [(.isl (some true) true []), (.isl (some true) true []), (.int .i64 0)])), 8, [], [], [], []⟩,
    ⟨(some 16), none, (.new 32 (.agg [(.int .i64 0), (.int .i64 0), (.isl (some true) true [])])), 9, [], [], [], []⟩,
    ⟨none, none, (.st (.t 15) 3 (.t 60)), 10, [], [], [], []⟩,
    ⟨none, none, (.st (.t 16) 3 (.t 61)), 11, [], [], [], []⟩])
  (.seq
   (.seq
    (.rgn 20 [
     ⟨(some 62), none, (.mov (.t 9)), 0, [], [], [], []⟩,
     ⟨(some 63), none, (.bin .neq (.t 62) (.c (.int .i64 0))), 1, [], [], [], []⟩,
     ⟨(some 64), none, (.mov (.t 63)), 2, [], [], [], []⟩,
     ⟨(some 65), (some (64, false)), (.mov (.t 10)), 3, [], [], [], []⟩,
     ⟨(some 66), (some (64, false)), (.bin .neq (.t 65) (.c (.int .i64 0))), 4, [], [], [], []⟩,
     ⟨(some 67), none, (.pick (.t 64) (.c (.bool true)) (.t 66)), 5, [], [], [], []⟩,
     ⟨(some 68), none, (.mov (.t 67)), 6, [], [], [], []⟩,
     ⟨(some 69), (some (68, false)), (.mov (.t 12)), 7, [], [], [], []⟩,
     ⟨(some 70), (some (68, false)), (.bin .neq (.t 69) (.c (.int .i64 2))), 8, [], [], [], []⟩,
     ⟨(some 71), none, (.pick (.t 68) (.c (.bool true)) (.t 70)), 9, [], [], [], []⟩,
     ⟨(some 72), none, (.mov (.t 71)), 10, [], [], [], []⟩,
     ⟨(some 73), (some (72, false)), (.mov (.t 14)), 11, [], [], [], []⟩,
     ⟨(some 74), (some (72, false)), (.bin .neq (.t 73) (.c (.int .i64 2))), 12, [], [], [], []⟩,
     ⟨(some 75), none, (.pick (.t 72) (.c (.bool true)) (.t 74)), 13, [], [], [], []⟩,
     ⟨(some 76), none, (.mov (.t 75)), 14, [], [], [], []⟩,
     ⟨(some 77), (some (76, false)), (.fa (.t 16) 2), 15, [], [], [], []⟩,
     ⟨(some 78), (some (76, false)), (.ld (.t 77) 1 false), 16, [], [], [], []⟩,
     ⟨(some 79), (some (76, false)), (.len (.t 78)), 17, [], [], [], []⟩,
     ⟨(some 80), (some (76, false)), (.bin .neq (.t 79) (.c (.int .i64 1))), 18, [], [], [], []⟩,
     ⟨(some 81), none, (.pick (.t 76) (.c (.bool true)) (.t 80)), 19, [], [], [], []⟩])
   (.cond (.t 81)
     (.seq
      (.rgn 1 [
       ⟨(some 6), none, (.mov (.c (.bool false))), 0, [], [], [], []⟩])
     .ret)
     .skip))
  (.seq
   (.rgn 3 [
    ⟨(some 82), none, (.mov (.t 1)), 0, [], [], [], []⟩,
    ⟨(some 83), none, (.bin .and (.t 82) (.c (.int .i64 15))), 1, [], [], [], []⟩,
    ⟨(some 1), none, (.mov (.t 83)), 2, [], [], [], []⟩])
  (.seq
   (.seq
    (.rgn 1 [
     ⟨(some 17), none, (.mov (.c (.int .i64 1))), 0, [], [], [], []⟩])
   (.block 0
    (.loop
     (.seq
      (.seq
       (.rgn 3 [
        ⟨(some 84), none, (.mov (.t 17)), 0, [], [], [], []⟩,
        ⟨(some 85), none, (.mov (.t 1)), 1, [], [], [], []⟩,
        ⟨(some 86), none, (.bin .leq (.t 84) (.t 85)), 2, [], [], [], []⟩])
      (.cond (.t 86)
        .skip
        (.exit 0)))
     (.seq
      (.block 1
       (.seq
        (.rgn 12 [
         ⟨(some 90), none, (.mov (.t 7)), 0, [], [], [], []⟩,
         ⟨(some 91), none, (.ld (.t 8) 3 true), 1, [], [], [], []⟩,
         ⟨(some 92), none, (.mov (.t 0)), 2, [], [], [], []⟩,
         ⟨(some 93), none, (.mov (.t 0)), 3, [], [], [], []⟩,
         ⟨(some 94), none, (.build [(.int .i64 0), (.int .i64 0), (.int .i64 0), (.int .i64 0), (.int .u64 0), (.int .i64 0), (.int .i64 0), (.int .i64 0)] [(0, (1, (.c (.int .i64 5)))), (1, (1, (.c (.int .i64 5)))), (5, (1, (.t 92))), (6, (1, (.t 93)))]), 4, [], [], [], []⟩,
         ⟨(some 95), none, (.callV (.t 90) [(.t 91), (.t 94)] true), 5, [], [], [], []⟩,
         ⟨(some 89), none, (.mov (.t 95)), 6, [], [], [], []⟩,
         ⟨(some 96), none, (.ext (.t 89) 0), 7, [], [], [], []⟩,
         ⟨(some 97), none, (.ext (.t 89) 1), 8, [], [], [], []⟩,
         ⟨(some 18), none, (.new 25 (.agg [(.isl (some true) true []), (.isl (some true) true []), (.int .i64 0)])), 9, [], [], [], []⟩,
         ⟨none, none, (.st (.t 18) 3 (.t 96)), 10, [], [], [], []⟩,
         ⟨(some 19), none, (.mov (.t 97)), 11, [], [], [], []⟩])
       (.seq
        (.seq
         (.rgn 13 [
          ⟨(some 98), none, (.mov (.t 19)), 0, [], [], [], []⟩,
          ⟨(some 99), none, (.bin .eql (.t 98) (.c (.int .i64 0))), 1, [], [], [], []⟩,
          ⟨(some 100), none, (.mov (.t 17)), 2, [], [], [], []⟩,
          ⟨(some 101), none, (.bin .leq (.t 100) (.c (.int .i64 8))), 3, [], [], [], []⟩,
          ⟨(some 102), none, (.bib true (.t 99) (.t 101)), 4, [], [], [], []⟩,
          ⟨(some 103), none, (.mov (.t 102)), 5, [], [], [], []⟩,
          ⟨(some 104), (some (103, false)), (.mov (.t 19)), 6, [], [], [], []⟩,
          ⟨(some 105), (some (103, false)), (.bin .neq (.t 104) (.c (.int .i64 0))), 7, [], [], [], []⟩,
          ⟨(some 106), (some (103, false)), (.mov (.t 105)), 8, [], [], [], []⟩,
          ⟨(some 107), (some (106, true)), (.mov (.t 19)), 9, [], [], [], []⟩,
          ⟨(some 108), (some (106, true)), (.bin .neq (.t 107) (.c (.int .i64 5))), 10, [], [], [], []⟩,
          ⟨(some 109), (some (103, false)), (.pick (.t 106) (.t 108) (.c (.bool false))), 11, [], [], [], []⟩,
          ⟨(some 110), none, (.pick (.t 103) (.c (.bool true)) (.t 109)), 12, [], [], [], []⟩])
        (.cond (.t 110)
          (.seq
           (.rgn 1 [
            ⟨(some 6), none, (.mov (.c (.bool false))), 0, [], [], [], []⟩])
          .ret)
          .skip))
       (.rgn 2 [
        ⟨(some 111), none, (.ld (.t 18) 3 true), 0, [], [], [], []⟩,
        ⟨none, none, (.st (.t 8) 3 (.t 111)), 1, [], [], [], []⟩]))))
     (.rgn 3 [
      ⟨(some 87), none, (.mov (.t 17)), 0, [], [], [], []⟩,
      ⟨(some 88), none, (.bin .add (.t 87) (.c (.int .i64 1))), 1, [], [], [], []⟩,
      ⟨(some 17), none, (.mov (.t 88)), 2, [], [], [], []⟩]))))))
  (.seq
   (.rgn 12 [
    ⟨(some 113), none, (.mov (.t 7)), 0, [], [], [], []⟩,
    ⟨(some 114), none, (.ld (.t 8) 3 true), 1, [], [], [], []⟩,
    ⟨(some 115), none, (.mov (.t 2)), 2, [], [], [], []⟩,
    ⟨(some 116), none, (.bin .and (.t 115) (.c (.int .i64 7))), 3, [], [], [], []⟩,
    ⟨(some 117), none, (.bin .add (.t 116) (.c (.int .i64 1))), 4, [], [], [], []⟩,
    ⟨(some 118), none, (.build [(.int .i64 0), (.int .i64 0), (.int .i64 0), (.int .i64 0), (.int .u64 0), (.int .i64 0), (.int .i64 0), (.int .i64 0)] [(0, (1, (.c (.int .i64 7)))), (2, (1, (.t 117)))]), 5, [], [], [], []⟩,
    ⟨(some 119), none, (.callV (.t 113) [(.t 114), (.t 118)] true), 6, [], [], [], []⟩,
    ⟨(some 112), none, (.mov (.t 119)), 7, [], [], [], []⟩,
    ⟨(some 120), none, (.ext (.t 112) 0), 8, [], [], [], []⟩,
    ⟨(some 121), none, (.ext (.t 112) 1), 9, [], [], [], []⟩,
    ⟨none, none, (.st (.t 8) 3 (.t 120)), 10, [], [], [], []⟩,
    ⟨(some 20), none, (.mov (.t 121)), 11, [], [], [], []⟩])
  (.seq
   (.seq
    (.rgn 9 [
     ⟨(some 122), none, (.mov (.t 20)), 0, [], [], [], []⟩,
     ⟨(some 123), none, (.bin .eql (.t 122) (.c (.int .i64 0))), 1, [], [], [], []⟩,
     ⟨(some 124), none, (.mov (.t 2)), 2, [], [], [], []⟩,
     ⟨(some 125), none, (.bin .and (.t 124) (.c (.int .i64 7))), 3, [], [], [], []⟩,
     ⟨(some 126), none, (.bin .add (.t 125) (.c (.int .i64 1))), 4, [], [], [], []⟩,
     ⟨(some 127), none, (.mov (.t 1)), 5, [], [], [], []⟩,
     ⟨(some 128), none, (.min [(.t 127), (.c (.int .i64 8))]), 6, [], [], [], []⟩,
     ⟨(some 129), none, (.bin .leq (.t 126) (.t 128)), 7, [], [], [], []⟩,
     ⟨(some 130), none, (.bib true (.t 123) (.t 129)), 8, [], [], [], []⟩])
   (.cond (.t 130)
     (.seq
      (.rgn 1 [
       ⟨(some 6), none, (.mov (.c (.bool false))), 0, [], [], [], []⟩])
     .ret)
     .skip))
  (.seq
   (.rgn 10 [
    ⟨(some 132), none, (.ld (.t 8) 3 true), 0, [], [], [], []⟩,
    ⟨(some 133), none, (.build [(.int .i64 0), (.int .i64 0), (.int .i64 0), (.int .i64 0), (.int .u64 0), (.int .i64 0), (.int .i64 0), (.int .i64 0)] [(0, (1, (.c (.int .i64 5)))), (1, (1, (.c (.int .i64 5))))]), 1, [], [], [], []⟩,
    ⟨(some 134), none, (.callS 11 [(.t 132), (.t 133)] true), 2, [], [], [], []⟩,
    ⟨(some 131), none, (.mov (.t 134)), 3, [], [], [], []⟩,
    ⟨(some 135), none, (.ext (.t 131) 0), 4, [], [], [], []⟩,
    ⟨(some 136), none, (.ext (.t 131) 1), 5, [], [], [], []⟩,
    ⟨(some 21), none, (.new 25 (.agg [(.isl (some true) true []), (.isl (some true) true []), (.int .i64 0)])), 6, [], [], [], []⟩,
    ⟨(some 22), none, (.new 32 (.agg [(.int .i64 0), (.int .i64 0), (.isl (some true) true [])])), 7, [], [], [], []⟩,
    ⟨none, none, (.st (.t 21) 3 (.t 135)), 8, [], [], [], []⟩,
    ⟨none, none, (.st (.t 22) 3 (.t 136)), 9, [], [], [], []⟩])
  (.seq
   (.seq
    (.rgn 26 [
     ⟨(some 137), none, (.mov (.t 1)), 0, [], [], [], []⟩,
     ⟨(some 138), none, (.bin .leq (.t 137) (.c (.int .i64 8))), 1, [], [], [], []⟩,
     ⟨(some 139), none, (.mov (.t 138)), 2, [], [], [], []⟩,
     ⟨(some 140), (some (139, true)), (.mov (.t 1)), 3, [], [], [], []⟩,
     ⟨(some 141), (some (139, true)), (.bin .lss (.t 140) (.c (.int .i64 8))), 4, [], [], [], []⟩,
     ⟨(some 142), none, (.pick (.t 139) (.t 141) (.c (.bool false))), 5, [], [], [], []⟩,
     ⟨(some 143), none, (.mov (.t 142)), 6, [], [], [], []⟩,
     ⟨(some 144), (some (143, true)), (.fa (.t 22) 1), 7, [], [], [], []⟩,
     ⟨(some 145), (some (143, true)), (.ld (.t 144) 1 false), 8, [], [], [], []⟩,
     ⟨(some 146), (some (143, true)), (.mov (.t 1)), 9, [], [], [], []⟩,
     ⟨(some 147), (some (143, true)), (.bin .add (.t 146) (.c (.int .i64 1))), 10, [], [], [], []⟩,
     ⟨(some 148), (some (143, true)), (.bin .neq (.t 145) (.t 147)), 11, [], [], [], []⟩,
     ⟨(some 149), none, (.pick (.t 143) (.t 148) (.c (.bool false))), 12, [], [], [], []⟩,
     ⟨(some 150), none, (.mov (.t 149)), 13, [], [], [], []⟩,
     ⟨(some 151), (some (150, false)), (.mov (.t 1)), 14, [], [], [], []⟩,
     ⟨(some 152), (some (150, false)), (.bin .geq (.t 151) (.c (.int .i64 8))), 15, [], [], [], []⟩,
     ⟨(some 153), (some (150, false)), (.mov (.t 152)), 16, [], [], [], []⟩,
     ⟨(some 154), (some (153, true)), (.mov (.t 20)), 17, [], [], [], []⟩,
     ⟨(some 155), (some (153, true)), (.bin .eql (.t 154) (.c (.int .i64 0))), 18, [], [], [], []⟩,
     ⟨(some 156), (some (150, false)), (.pick (.t 153) (.t 155) (.c (.bool false))), 19, [], [], [], []⟩,
     ⟨(some 157), (some (150, false)), (.mov (.t 156)), 20, [], [], [], []⟩,
     ⟨(some 158), (some (157, true)), (.fa (.t 22) 1), 21, [], [], [], []⟩,
     ⟨(some 159), (some (157, true)), (.ld (.t 158) 1 false), 22, [], [], [], []⟩,
     ⟨(some 160), (some (157, true)), (.bin .neq (.t 159) (.c (.int .i64 9))), 23, [], [], [], []⟩,
     ⟨(some 161), (some (150, false)), (.pick (.t 157) (.t 160) (.c (.bool false))), 24, [], [], [], []⟩,
     ⟨(some 162), none, (.pick (.t 150) (.c (.bool true)) (.t 161)), 25, [], [], [], []⟩])
   (.cond (.t 162)
     (.seq
      (.rgn 1 [
       ⟨(some 6), none, (.mov (.c (.bool false))), 0, [], [], [], []⟩])
     .ret)
     .skip))
  (.seq
   (.rgn 9 [
    ⟨(some 164), none, (.mov (.t 7)), 0, [], [], [], []⟩,
    ⟨(some 165), none, (.ld (.t 21) 3 true), 1, [], [], [], []⟩,
    ⟨(some 166), none, (.build [(.int .i64 0), (.int .i64 0), (.int .i64 0), (.int .i64 0), (.int .u64 0), (.int .i64 0), (.int .i64 0), (.int .i64 0)] [(0, (1, (.c (.int .i64 4)))), (1, (1, (.c (.int .i64 5))))]), 2, [], [], [], []⟩,
    ⟨(some 167), none, (.callV (.t 164) [(.t 165), (.t 166)] true), 3, [], [], [], []⟩,
    ⟨(some 163), none, (.mov (.t 167)), 4, [], [], [], []⟩,
    ⟨(some 168), none, (.ext (.t 163) 0), 5, [], [], [], []⟩,
    ⟨(some 169), none, (.ext (.t 163) 1), 6, [], [], [], []⟩,
    ⟨none, none, (.st (.t 21) 3 (.t 168)), 7, [], [], [], []⟩,
    ⟨(some 23), none, (.mov (.t 169)), 8, [], [], [], []⟩])
  (.seq
   (.rgn 9 [
    ⟨(some 171), none, (.mov (.t 7)), 0, [], [], [], []⟩,
    ⟨(some 172), none, (.ld (.t 21) 3 true), 1, [], [], [], []⟩,
    ⟨(some 173), none, (.build [(.int .i64 0), (.int .i64 0), (.int .i64 0), (.int .i64 0), (.int .u64 0), (.int .i64 0), (.int .i64 0), (.int .i64 0)] [(0, (1, (.c (.int .i64 1)))), (1, (1, (.c (.int .i64 5)))), (3, (1, (.c (.int .i64 (-9223372036854775808)))))]), 2, [], [], [], []⟩,
    ⟨(some 174), none, (.callV (.t 171) [(.t 172), (.t 173)] true), 3, [], [], [], []⟩,
    ⟨(some 170), none, (.mov (.t 174)), 4, [], [], [], []⟩,
    ⟨(some 175), none, (.ext (.t 170) 0), 5, [], [], [], []⟩,
    ⟨(some 176), none, (.ext (.t 170) 1), 6, [], [], [], []⟩,
    ⟨none, none, (.st (.t 21) 3 (.t 175)), 7, [], [], [], []⟩,
    ⟨(some 24), none, (.mov (.t 176)), 8, [], [], [], []⟩])
  (.seq
   (.rgn 33 [
    ⟨(some 177), none, (.mov (.t 23)), 0, [], [], [], []⟩,
    ⟨(some 178), none, (.bin .eql (.t 177) (.c (.int .i64 0))), 1, [], [], [], []⟩,
    ⟨(some 179), none, (.mov (.t 178)), 2, [], [], [], []⟩,
    ⟨(some 180), (some (179, true)), (.mov (.t 24)), 3, [], [], [], []⟩,
    ⟨(some 181), (some (179, true)), (.bin .eql (.t 180) (.c (.int .i64 0))), 4, [], [], [], []⟩,
    ⟨(some 182), none, (.pick (.t 179) (.t 181) (.c (.bool false))), 5, [], [], [], []⟩,
    ⟨(some 183), none, (.mov (.t 182)), 6, [], [], [], []⟩,
    ⟨(some 184), (some (183, true)), (.fa (.t 21) 0), 7, [], [], [], []⟩,
    ⟨(some 185), (some (183, true)), (.ld (.t 184) 1 false), 8, [], [], [], []⟩,
    ⟨(some 186), (some (183, true)), (.len (.t 185)), 9, [], [], [], []⟩,
    ⟨(some 187), (some (183, true)), (.bin .eql (.t 186) (.c (.int .i64 1))), 10, [], [], [], []⟩,
    ⟨(some 188), none, (.pick (.t 183) (.t 187) (.c (.bool false))), 11, [], [], [], []⟩,
    ⟨(some 189), none, (.mov (.t 188)), 12, [], [], [], []⟩,
    ⟨(some 190), (some (189, true)), (.fa (.t 21) 0), 13, [], [], [], []⟩,
    ⟨(some 191), (some (189, true)), (.ld (.t 190) 1 false), 14, [], [], [], []⟩,
    ⟨(some 192), (some (189, true)), (.ia 5 (.t 191) (.c (.int .i64 0))), 15, [], [], [], []⟩,
    ⟨(some 193), (some (189, true)), (.fa (.t 192) 4), 16, [], [], [], []⟩,
    ⟨(some 194), (some (189, true)), (.ld (.t 193) 1 false), 17, [], [], [], []⟩,
    ⟨(some 195), (some (189, true)), (.len (.t 194)), 18, [], [], [], []⟩,
    ⟨(some 196), (some (189, true)), (.bin .eql (.t 195) (.c (.int .i64 1))), 19, [], [], [], []⟩,
    ⟨(some 197), none, (.pick (.t 189) (.t 196) (.c (.bool false))), 20, [], [], [], []⟩,
    ⟨(some 198), none, (.mov (.t 197)), 21, [], [], [], []⟩,
    ⟨(some 199), (some (198, true)), (.fa (.t 21) 0), 22, [], [], [], []⟩,
    ⟨(some 200), (some (198, true)), (.ld (.t 199) 1 false), 23, [], [], [], []⟩,
    ⟨(some 201), (some (198, true)), (.ia 5 (.t 200) (.c (.int .i64 0))), 24, [], [], [], []⟩,
    ⟨(some 202), (some (198, true)), (.fa (.t 201) 1), 25, [], [], [], []⟩,
    ⟨(some 203), (some (198, true)), (.ld (.t 202) 1 false), 26, [], [], [], []⟩,
    ⟨(some 204), (some (198, true)), (.un .not (.t 203)), 27, [], [], [], []⟩,
    ⟨(some 205), none, (.pick (.t 198) (.t 204) (.c (.bool false))), 28, [], [], [], []⟩,
    ⟨(some 206), none, (.mov (.t 205)), 29, [], [], [], []⟩,
    ⟨(some 207), (some (206, true)), (.callS 12 [] true), 30, [], [], [], []⟩,
    ⟨(some 208), none, (.pick (.t 206) (.t 207) (.c (.bool false))), 31, [], [], [], []⟩,
    ⟨(some 6), none, (.mov (.t 208)), 32, [], [], [], []⟩])
  .ret)))))))))))))))))
def r3 : List ARes := [(.tmp 6)]
theorem k3 : compCode Try.prog 209 (ngOf []) (Try.f3.body.getD .skip) = some a3 := by kernel_rfl
theorem e3 {vs : List AV} {h : Hp} {n : Nat} {K : AV → Hp → Nat → Prop} (hl : vs.length ≤ 209) (hw : wpA Try.prog a3 (retA r3 K) ⟨argS vs, h, n⟩) : CallsA Try.prog 3 vs h n K :=
  fn_sound (fn := Try.f3) (c := Try.f3.body.getD .skip) mo (by kernel_rfl) (by kernel_rfl) (by kernel_rfl) k3 (by kernel_rfl) hl hw
def a4 : ACode :=
  (.seq
   (.rgn 1 [
    ⟨(some 4), none, (.mov (.c (.bool false))), 0, [], [], [], []⟩])
  (.seq
   (.rgn 2 [
    ⟨(some 5), none, (.new 25 (.agg [(.isl (some true) true []), (.isl (some true) true []), (.int .i64 0)])), 0, [], [], [], []⟩,
    ⟨(some 6), none, (.new 25 (.agg [(.isl (some true) true []), (.isl (some true) true []), (.int .i64 0)])), 1, [], [], [], []⟩])
  (.seq
   (.seq
    (.rgn 1 [
     ⟨(some 7), none, (.mov (.c (.int .i64 0))), 0, [], [], [], []⟩])
   (.block 0
    (.loop
     (.seq
      (.seq
       (.rgn 8 [
        ⟨(some 15), none, (.mov (.t 7)), 0, [], [], [], []⟩,
        ⟨(some 16), none, (.mov (.t 0)), 1, [], [], [], []⟩,
        ⟨(some 17), none, (.len (.t 16)), 2, [], [], [], []⟩,
        ⟨(some 18), none, (.bin .lss (.t 15) (.t 17)), 3, [], [], [], []⟩,
        ⟨(some 19), none, (.mov (.t 18)), 4, [], [], [], []⟩,
        ⟨(some 20), (some (19, true)), (.mov (.t 7)), 5, [], [], [], []⟩,
        ⟨(some 21), (some (19, true)), (.bin .lss (.t 20) (.c (.int .i64 50))), 6, [], [], [], []⟩,
        ⟨(some 22), none, (.pick (.t 19) (.t 21) (.c (.bool false))), 7, [], [], [], []⟩])
      (.cond (.t 22)
        .skip
        (.exit 0)))
     (.seq
      (.block 1
       (.seq
        (.rgn 12 [
         ⟨(some 26), none, (.ld (.t 5) 3 true), 0, [], [], [], []⟩,
         ⟨(some 27), none, (.mov (.t 0)), 1, [], [], [], []⟩,
         ⟨(some 28), none, (.mov (.t 7)), 2, [], [], [], []⟩,
         ⟨(some 29), none, (.ia 1 (.t 27) (.t 28)), 3, [], [], [], []⟩,
         ⟨(some 30), none, (.ld (.t 29) 1 false), 4, [], [], [], []⟩,
         ⟨(some 31), none, (.mov (.t 7)), 5, [], [], [], []⟩,
         ⟨(some 32), none, (.callS 13 [(.t 30), (.t 31)] true), 6, [], [], [], []⟩,
         ⟨(some 33), none, (.callS 11 [(.t 26), (.t 32)] true), 7, [], [], [], []⟩,
         ⟨(some 25), none, (.mov (.t 33)), 8, [], [], [], []⟩,
         ⟨(some 34), none, (.ext (.t 25) 0), 9, [], [], [], []⟩,
         ⟨(some 35), none, (.ext (.t 25) 1), 10, [], [], [], []⟩,
         ⟨none, none, (.st (.t 5) 3 (.t 34)), 11, [], [], [], []⟩])
       (.rgn 12 [
        ⟨(some 37), none, (.ld (.t 6) 3 true), 0, [], [], [], []⟩,
        ⟨(some 38), none, (.mov (.t 0)), 1, [], [], [], []⟩,
        ⟨(some 39), none, (.mov (.t 7)), 2, [], [], [], []⟩,
        ⟨(some 40), none, (.ia 1 (.t 38) (.t 39)), 3, [], [], [], []⟩,
        ⟨(some 41), none, (.ld (.t 40) 1 false), 4, [], [], [], []⟩,
        ⟨(some 42), none, (.mov (.t 7)), 5, [], [], [], []⟩,
        ⟨(some 43), none, (.callS 13 [(.t 41), (.t 42)] true), 6, [], [], [], []⟩,
        ⟨(some 44), none, (.callS 14 [(.t 37), (.t 43)] true), 7, [], [], [], []⟩,
        ⟨(some 36), none, (.mov (.t 44)), 8, [], [], [], []⟩,
        ⟨(some 45), none, (.ext (.t 36) 0), 9, [], [], [], []⟩,
        ⟨(some 46), none, (.ext (.t 36) 1), 10, [], [], [], []⟩,
        ⟨none, none, (.st (.t 6) 3 (.t 45)), 11, [], [], [], []⟩])))
     (.rgn 3 [
      ⟨(some 23), none, (.mov (.t 7)), 0, [], [], [], []⟩,
      ⟨(some 24), none, (.bin .add (.t 23) (.c (.int .i64 1))), 1, [], [], [], []⟩,
      ⟨(some 7), none, (.mov (.t 24)), 2, [], [], [], []⟩]))))))
  (.seq
   (.rgn 11 [
    ⟨(some 48), none, (.ld (.t 5) 3 true), 0, [7, 8], [], [], []⟩,
    ⟨(some 49), none, (.mov (.t 1)), 1, [], [], [], []⟩,
    ⟨(some 8), none, (.new 25 (.agg [(.isl (some true) true []), (.isl (some true) true []), (.int .i64 0)])), 7, [], [], [], []⟩,
    ⟨(some 9), none, (.new 32 (.agg [(.int .i64 0), (.int .i64 0), (.isl (some true) true [])])), 8, [], [], [], []⟩,
    ⟨(some 50), none, (.callS 13 [(.t 49), (.c (.int .i64 50))] true), 2, [7, 8], [], [], []⟩,
    ⟨(some 51), none, (.callS 11 [(.t 48), (.t 50)] true), 3, [7, 8], [], [], []⟩,
    ⟨(some 47), none, (.mov (.t 51)), 4, [], [], [], []⟩,
    ⟨(some 52), none, (.ext (.t 47) 0), 5, [], [], [], []⟩,
    ⟨(some 53), none, (.ext (.t 47) 1), 6, [], [], [], []⟩,
    ⟨none, none, (.st (.t 8) 3 (.t 52)), 9, [], [], [], [7]⟩,
    ⟨none, none, (.st (.t 9) 3 (.t 53)), 10, [], [], [], [8]⟩])
  (.seq
   (.seq
    (.rgn 4 [
     ⟨(some 54), none, (.fa (.t 8) 0), 0, [], [], [], []⟩,
     ⟨(some 55), none, (.ld (.t 54) 1 false), 1, [], [], [], []⟩,
     ⟨(some 56), none, (.len (.t 55)), 2, [], [], [], []⟩,
     ⟨(some 57), none, (.mov (.c (.int .i64 0))), 3, [], [], [], []⟩])
   (.block 2
    (.loop
     (.seq
      (.rgn 1 [
       ⟨(some 58), none, (.bin .lss (.t 57) (.t 56)), 0, [], [], [], []⟩])
     (.seq
      (.cond (.t 58)
        .skip
        (.exit 2))
     (.seq
      (.block 3
       (.seq
        (.rgn 2 [
         ⟨(some 59), none, (.mov (.t 57)), 0, [], [], [], []⟩,
         ⟨(some 10), none, (.mov (.t 59)), 1, [], [], [], []⟩])
       (.seq
        (.rgn 6 [
         ⟨(some 60), none, (.fa (.t 8) 0), 0, [], [], [], []⟩,
         ⟨(some 61), none, (.ld (.t 60) 1 false), 1, [], [], [], []⟩,
         ⟨(some 62), none, (.mov (.t 10)), 2, [], [], [], []⟩,
         ⟨(some 63), none, (.ia 5 (.t 61) (.t 62)), 3, [], [], [], []⟩,
         ⟨(some 64), none, (.fa (.t 63) 3), 4, [], [], [], []⟩,
         ⟨none, none, (.st (.t 64) 1 (.c (.int .i64 777))), 5, [], [], [], []⟩])
       (.seq
        (.rgn 8 [
         ⟨(some 65), none, (.fa (.t 8) 0), 0, [], [], [], []⟩,
         ⟨(some 66), none, (.ld (.t 65) 1 false), 1, [], [], [], []⟩,
         ⟨(some 67), none, (.mov (.t 10)), 2, [], [], [], []⟩,
         ⟨(some 68), none, (.ia 5 (.t 66) (.t 67)), 3, [], [], [], []⟩,
         ⟨(some 69), none, (.fa (.t 68) 4), 4, [], [], [], []⟩,
         ⟨(some 70), none, (.ld (.t 69) 1 false), 5, [], [], [], []⟩,
         ⟨(some 71), none, (.len (.t 70)), 6, [], [], [], []⟩,
         ⟨(some 72), none, (.mov (.c (.int .i64 0))), 7, [], [], [], []⟩])
       (.block 4
        (.loop
         (.seq
          (.rgn 1 [
           ⟨(some 73), none, (.bin .lss (.t 72) (.t 71)), 0, [], [], [], []⟩])
         (.seq
          (.cond (.t 73)
            .skip
            (.exit 4))
         (.seq
          (.block 5
           (.seq
            (.rgn 2 [
             ⟨(some 74), none, (.mov (.t 72)), 0, [], [], [], []⟩,
             ⟨(some 11), none, (.mov (.t 74)), 1, [], [], [], []⟩])
           (.rgn 14 [
            ⟨(some 75), none, (.fa (.t 8) 0), 0, [], [], [], []⟩,
            ⟨(some 76), none, (.ld (.t 75) 1 false), 1, [], [], [], []⟩,
            ⟨(some 77), none, (.mov (.t 10)), 2, [], [], [], []⟩,
            ⟨(some 78), none, (.ia 5 (.t 76) (.t 77)), 3, [], [], [], []⟩,
            ⟨(some 79), none, (.fa (.t 78) 4), 4, [], [], [], []⟩,
            ⟨(some 80), none, (.ld (.t 79) 1 false), 5, [], [], [], []⟩,
            ⟨(some 81), none, (.mov (.t 11)), 6, [], [], [], []⟩,
            ⟨(some 82), none, (.ia 2 (.t 80) (.t 81)), 7, [], [], [], []⟩,
            ⟨(some 83), none, (.fa (.t 82) 1), 8, [], [], [], []⟩,
            ⟨(some 84), none, (.ld (.t 83) 1 false), 9, [], [], [], []⟩,
            ⟨(some 85), none, (.bin .add (.t 84) (.c (.int .u64 1))), 10, [], [], [], []⟩,
            ⟨(some 86), none, (.ia 2 (.t 80) (.t 81)), 11, [], [], [], []⟩,
            ⟨(some 87), none, (.fa (.t 86) 1), 12, [], [], [], []⟩,
            ⟨none, none, (.st (.t 87) 1 (.t 85)), 13, [], [], [], []⟩])))
         (.rgn 2 [
          ⟨(some 88), none, (.bin .add (.t 72) (.c (.int .i64 1))), 0, [], [], [], []⟩,
          ⟨(some 72), none, (.mov (.t 88)), 1, [], [], [], []⟩]))))))))))
     (.rgn 2 [
      ⟨(some 89), none, (.bin .add (.t 57) (.c (.int .i64 1))), 0, [], [], [], []⟩,
      ⟨(some 57), none, (.mov (.t 89)), 1, [], [], [], []⟩])))))))
  (.seq
   (.seq
    (.rgn 4 [
     ⟨(some 90), none, (.fa (.t 8) 1), 0, [], [], [], []⟩,
     ⟨(some 91), none, (.ld (.t 90) 1 false), 1, [], [], [], []⟩,
     ⟨(some 92), none, (.len (.t 91)), 2, [], [], [], []⟩,
     ⟨(some 93), none, (.mov (.c (.int .i64 0))), 3, [], [], [], []⟩])
   (.block 6
    (.loop
     (.seq
      (.rgn 1 [
       ⟨(some 94), none, (.bin .lss (.t 93) (.t 92)), 0, [], [], [], []⟩])
     (.seq
      (.cond (.t 94)
        .skip
        (.exit 6))
     (.seq
      (.block 7
       (.seq
        (.rgn 2 [
         ⟨(some 95), none, (.mov (.t 93)), 0, [], [], [], []⟩,
         ⟨(some 12), none, (.mov (.t 95)), 1, [], [], [], []⟩])
       (.seq
        (.rgn 8 [
         ⟨(some 96), none, (.fa (.t 8) 1), 0, [], [], [], []⟩,
         ⟨(some 97), none, (.ld (.t 96) 1 false), 1, [], [], [], []⟩,
         ⟨(some 98), none, (.mov (.t 12)), 2, [], [], [], []⟩,
         ⟨(some 99), none, (.ia 2 (.t 97) (.t 98)), 3, [], [], [], []⟩,
         ⟨(some 100), none, (.fa (.t 99) 1), 4, [], [], [], []⟩,
         ⟨(some 101), none, (.ld (.t 100) 1 false), 5, [], [], [], []⟩,
         ⟨(some 102), none, (.len (.t 101)), 6, [], [], [], []⟩,
         ⟨(some 103), none, (.mov (.c (.int .i64 0))), 7, [], [], [], []⟩])
       (.block 8
        (.loop
         (.seq
          (.rgn 1 [
           ⟨(some 104), none, (.bin .lss (.t 103) (.t 102)), 0, [], [], [], []⟩])
         (.seq
          (.cond (.t 104)
            .skip
            (.exit 8))
         (.seq
          (.block 9
           (.seq
            (.rgn 2 [
             ⟨(some 105), none, (.mov (.t 103)), 0, [], [], [], []⟩,
             ⟨(some 13), none, (.mov (.t 105)), 1, [], [], [], []⟩])
           (.rgn 14 [
            ⟨(some 106), none, (.fa (.t 8) 1), 0, [], [], [], []⟩,
            ⟨(some 107), none, (.ld (.t 106) 1 false), 1, [], [], [], []⟩,
            ⟨(some 108), none, (.mov (.t 12)), 2, [], [], [], []⟩,
            ⟨(some 109), none, (.ia 2 (.t 107) (.t 108)), 3, [], [], [], []⟩,
            ⟨(some 110), none, (.fa (.t 109) 1), 4, [], [], [], []⟩,
            ⟨(some 111), none, (.ld (.t 110) 1 false), 5, [], [], [], []⟩,
            ⟨(some 112), none, (.mov (.t 13)), 6, [], [], [], []⟩,
            ⟨(some 113), none, (.ia 2 (.t 111) (.t 112)), 7, [], [], [], []⟩,
            ⟨(some 114), none, (.fa (.t 113) 1), 8, [], [], [], []⟩,
            ⟨(some 115), none, (.ld (.t 114) 1 false), 9, [], [], [], []⟩,
            ⟨(some 116), none, (.bin .add (.t 115) (.c (.int .u64 1))), 10, [], [], [], []⟩,
            ⟨(some 117), none, (.ia 2 (.t 111) (.t 112)), 11, [], [], [], []⟩,
            ⟨(some 118), none, (.fa (.t 117) 1), 12, [], [], [], []⟩,
            ⟨none, none, (.st (.t 118) 1 (.t 116)), 13, [], [], [], []⟩])))
         (.rgn 2 [
          ⟨(some 119), none, (.bin .add (.t 103) (.c (.int .i64 1))), 0, [], [], [], []⟩,
          ⟨(some 103), none, (.mov (.t 119)), 1, [], [], [], []⟩])))))))))
     (.rgn 2 [
      ⟨(some 120), none, (.bin .add (.t 93) (.c (.int .i64 1))), 0, [], [], [], []⟩,
      ⟨(some 93), none, (.mov (.t 120)), 1, [], [], [], []⟩])))))))
  (.seq
   (.seq
    (.rgn 4 [
     ⟨(some 121), none, (.fa (.t 9) 2), 0, [], [], [], []⟩,
     ⟨(some 122), none, (.ld (.t 121) 1 false), 1, [], [], [], []⟩,
     ⟨(some 123), none, (.len (.t 122)), 2, [], [], [], []⟩,
     ⟨(some 124), none, (.mov (.c (.int .i64 0))), 3, [], [], [], []⟩])
   (.block 10
    (.loop
     (.seq
      (.rgn 1 [
       ⟨(some 125), none, (.bin .lss (.t 124) (.t 123)), 0, [], [], [], []⟩])
     (.seq
      (.cond (.t 125)
        .skip
        (.exit 10))
     (.seq
      (.block 11
       (.seq
        (.rgn 2 [
         ⟨(some 126), none, (.mov (.t 124)), 0, [], [], [], []⟩,
         ⟨(some 14), none, (.mov (.t 126)), 1, [], [], [], []⟩])
       (.rgn 10 [
        ⟨(some 127), none, (.fa (.t 9) 2), 0, [], [], [], []⟩,
        ⟨(some 128), none, (.ld (.t 127) 1 false), 1, [], [], [], []⟩,
        ⟨(some 129), none, (.mov (.t 14)), 2, [], [], [], []⟩,
        ⟨(some 130), none, (.ia 2 (.t 128) (.t 129)), 3, [], [], [], []⟩,
        ⟨(some 131), none, (.fa (.t 130) 0), 4, [], [], [], []⟩,
        ⟨(some 132), none, (.ld (.t 131) 1 false), 5, [], [], [], []⟩,
        ⟨(some 133), none, (.bin .add (.t 132) (.c (.int .i64 1))), 6, [], [], [], []⟩,
        ⟨(some 134), none, (.ia 2 (.t 128) (.t 129)), 7, [], [], [], []⟩,
        ⟨(some 135), none, (.fa (.t 134) 0), 8, [], [], [], []⟩,
        ⟨none, none, (.st (.t 135) 1 (.t 133)), 9, [], [], [], []⟩])))
     (.rgn 2 [
      ⟨(some 136), none, (.bin .add (.t 124) (.c (.int .i64 1))), 0, [], [], [], []⟩,
      ⟨(some 124), none, (.mov (.t 136)), 1, [], [], [], []⟩])))))))
  (.seq
   (.rgn 7 [
    ⟨(some 137), none, (.ld (.t 5) 3 true), 0, [], [], [], []⟩,
    ⟨(some 138), none, (.ld (.t 6) 3 true), 1, [], [], [], []⟩,
    ⟨(some 139), none, (.callS 15 [(.t 137), (.t 138)] true), 2, [], [], [], []⟩,
    ⟨(some 140), none, (.mov (.t 139)), 3, [], [], [], []⟩,
    ⟨(some 141), (some (140, true)), (.callS 12 [] true), 4, [], [], [], []⟩,
    ⟨(some 142), none, (.pick (.t 140) (.t 141) (.c (.bool false))), 5, [], [], [], []⟩,
    ⟨(some 4), none, (.mov (.t 142)), 6, [], [], [], []⟩])
  .ret))))))))
def r4 : List ARes := [(.tmp 4)]
theorem k4 : compCode Try.prog 143 (ngOf []) (Try.f4.body.getD .skip) = some a4 := by kernel_rfl
theorem e4 {vs : List AV} {h : Hp} {n : Nat} {K : AV → Hp → Nat → Prop} (hl : vs.length ≤ 143) (hw : wpA Try.prog a4 (retA r4 K) ⟨argS vs, h, n⟩) : CallsA Try.prog 4 vs h n K :=
  fn_sound (fn := Try.f4) (c := Try.f4.body.getD .skip) mo (by kernel_rfl) (by kernel_rfl) (by kernel_rfl) k4 (by kernel_rfl) hl hw
def a5 : ACode :=
  (.seq
   (.rgn 1 [
    ⟨(some 4), none, (.mov (.c (.bool false))), 0, [], [], [], []⟩])
  (.seq
   (.rgn 2 [
    ⟨(some 5), none, (.new 25 (.agg [(.isl (some true) true []), (.isl (some true) true []), (.int .i64 0)])), 0, [], [], [], []⟩,
    ⟨(some 6), none, (.new 25 (.agg [(.isl (some true) true []), (.isl (some true) true []), (.int .i64 0)])), 1, [], [], [], []⟩])
  (.seq
   (.seq
    (.rgn 1 [
     ⟨(some 7), none, (.mov (.c (.int .i64 0))), 0, [], [], [], []⟩])
   (.block 0
    (.loop
     (.seq
      (.seq
       (.rgn 8 [
        ⟨(some 13), none, (.mov (.t 7)), 0, [], [], [], []⟩,
        ⟨(some 14), none, (.mov (.t 0)), 1, [], [], [], []⟩,
        ⟨(some 15), none, (.len (.t 14)), 2, [], [], [], []⟩,
        ⟨(some 16), none, (.bin .lss (.t 13) (.t 15)), 3, [], [], [], []⟩,
        ⟨(some 17), none, (.mov (.t 16)), 4, [], [], [], []⟩,
        ⟨(some 18), (some (17, true)), (.mov (.t 7)), 5, [], [], [], []⟩,
        ⟨(some 19), (some (17, true)), (.bin .lss (.t 18) (.c (.int .i64 120))), 6, [], [], [], []⟩,
        ⟨(some 20), none, (.pick (.t 17) (.t 19) (.c (.bool false))), 7, [], [], [], []⟩])
      (.cond (.t 20)
        .skip
        (.exit 0)))
     (.seq
      (.block 1
       (.seq
        (.rgn 8 [
         ⟨(some 23), none, (.mov (.t 0)), 0, [], [], [], []⟩,
         ⟨(some 24), none, (.mov (.t 7)), 1, [], [], [], []⟩,
         ⟨(some 25), none, (.ia 1 (.t 23) (.t 24)), 2, [], [], [], []⟩,
         ⟨(some 26), none, (.ld (.t 25) 1 false), 3, [], [], [], []⟩,
         ⟨(some 27), none, (.mov (.t 7)), 4, [], [], [], []⟩,
         ⟨(some 28), none, (.callS 13 [(.t 26), (.t 27)] true), 5, [], [], [], []⟩,
         ⟨(some 8), none, (.new 28 (.agg [(.int .i64 0), (.int .i64 0), (.int .i64 0), (.int .i64 0), (.int .u64 0), (.int .i64 0), (.int .i64 0), (.int .i64 0)])), 6, [], [], [], []⟩,
         ⟨none, none, (.st (.t 8) 8 (.t 28)), 7, [], [], [], []⟩])
       (.seq
        (.seq
         (.rgn 13 [
          ⟨(some 29), none, (.mov (.t 0)), 0, [], [], [], []⟩,
          ⟨(some 30), none, (.mov (.t 7)), 1, [], [], [], []⟩,
          ⟨(some 31), none, (.ia 1 (.t 29) (.t 30)), 2, [], [], [], []⟩,
          ⟨(some 32), none, (.ld (.t 31) 1 false), 3, [], [], [], []⟩,
          ⟨(some 33), none, (.bin .shr (.t 32) (.c (.int .u64 28))), 4, [], [], [], []⟩,
          ⟨(some 34), none, (.bin .and (.t 33) (.c (.int .i64 3))), 5, [], [], [], []⟩,
          ⟨(some 35), none, (.bin .eql (.t 34) (.c (.int .i64 0))), 6, [], [], [], []⟩,
          ⟨(some 36), none, (.mov (.t 35)), 7, [], [], [], []⟩,
          ⟨(some 37), (some (36, true)), (.mov (.t 7)), 8, [], [], [], []⟩,
          ⟨(some 38), (some (36, true)), (.mov (.t 1)), 9, [], [], [], []⟩,
          ⟨(some 39), (some (36, true)), (.len (.t 38)), 10, [], [], [], []⟩,
          ⟨(some 40), (some (36, true)), (.bin .lss (.t 37) (.t 39)), 11, [], [], [], []⟩,
          ⟨(some 41), none, (.pick (.t 36) (.t 40) (.c (.bool false))), 12, [], [], [], []⟩])
        (.cond (.t 41)
          (.rgn 5 [
           ⟨(some 42), none, (.mov (.t 1)), 0, [], [], [], []⟩,
           ⟨(some 43), none, (.mov (.t 7)), 1, [], [], [], []⟩,
           ⟨(some 44), none, (.ia 8 (.t 42) (.t 43)), 2, [], [], [], []⟩,
           ⟨(some 45), none, (.ld (.t 44) 8 true), 3, [], [], [], []⟩,
           ⟨none, none, (.st (.t 8) 8 (.t 45)), 4, [], [], [], []⟩])
          .skip))
       (.seq
        (.rgn 10 [
         ⟨(some 47), none, (.ld (.t 5) 3 true), 0, [], [], [], []⟩,
         ⟨(some 48), none, (.ld (.t 8) 8 true), 1, [], [], [], []⟩,
         ⟨(some 49), none, (.callS 11 [(.t 47), (.t 48)] true), 2, [], [], [], []⟩,
         ⟨(some 46), none, (.mov (.t 49)), 3, [], [], [], []⟩,
         ⟨(some 50), none, (.ext (.t 46) 0), 4, [], [], [], []⟩,
         ⟨(some 51), none, (.ext (.t 46) 1), 5, [], [], [], []⟩,
         ⟨(some 9), none, (.new 25 (.agg [(.isl (some true) true []), (.isl (some true) true []), (.int .i64 0)])), 6, [], [], [], []⟩,
         ⟨(some 10), none, (.new 32 (.agg [(.int .i64 0), (.int .i64 0), (.isl (some true) true [])])), 7, [], [], [], []⟩,
         ⟨none, none, (.st (.t 9) 3 (.t 50)), 8, [], [], [], []⟩,
         ⟨none, none, (.st (.t 10) 3 (.t 51)), 9, [], [], [], []⟩])
       (.seq
        (.rgn 10 [
         ⟨(some 53), none, (.ld (.t 6) 3 true), 0, [], [], [], []⟩,
         ⟨(some 54), none, (.ld (.t 8) 8 true), 1, [], [], [], []⟩,
         ⟨(some 55), none, (.callS 14 [(.t 53), (.t 54)] true), 2, [], [], [], []⟩,
         ⟨(some 52), none, (.mov (.t 55)), 3, [], [], [], []⟩,
         ⟨(some 56), none, (.ext (.t 52) 0), 4, [], [], [], []⟩,
         ⟨(some 57), none, (.ext (.t 52) 1), 5, [], [], [], []⟩,
         ⟨(some 11), none, (.new 25 (.agg [(.isl (some true) true []), (.isl (some true) true []), (.int .i64 0)])), 6, [], [], [], []⟩,
         ⟨(some 12), none, (.new 32 (.agg [(.int .i64 0), (.int .i64 0), (.isl (some true) true [])])), 7, [], [], [], []⟩,
         ⟨none, none, (.st (.t 11) 3 (.t 56)), 8, [], [], [], []⟩,
         ⟨none, none, (.st (.t 12) 3 (.t 57)), 9, [], [], [], []⟩])
       (.seq
        (.seq
         (.rgn 28 [
          ⟨(some 58), none, (.ld (.t 9) 3 true), 0, [], [], [], []⟩,
          ⟨(some 59), none, (.ld (.t 11) 3 true), 1, [], [], [], []⟩,
          ⟨(some 60), none, (.callS 15 [(.t 58), (.t 59)] true), 2, [], [], [], []⟩,
          ⟨(some 61), none, (.un .not (.t 60)), 3, [], [], [], []⟩,
          ⟨(some 62), none, (.mov (.t 61)), 4, [], [], [], []⟩,
          ⟨(some 63), (some (62, false)), (.ld (.t 10) 3 true), 5, [], [], [], []⟩,
          ⟨(some 64), (some (62, false)), (.ld (.t 12) 3 true), 6, [], [], [], []⟩,
          ⟨(some 65), (some (62, false)), (.callS 16 [(.t 63), (.t 64)] true), 7, [], [], [], []⟩,
          ⟨(some 66), (some (62, false)), (.un .not (.t 65)), 8, [], [], [], []⟩,
          ⟨(some 67), none, (.pick (.t 62) (.c (.bool true)) (.t 66)), 9, [], [], [], []⟩,
          ⟨(some 68), none, (.mov (.t 67)), 10, [], [], [], []⟩,
          ⟨(some 69), (some (68, false)), (.ld (.t 5) 3 true), 11, [], [], [], []⟩,
          ⟨(some 70), (some (68, false)), (.ld (.t 9) 3 true), 12, [], [], [], []⟩,
          ⟨(some 72), (some (68, false)), (.ld (.t 6) 3 true), 14, [], [], [], []⟩,
          ⟨(some 73), (some (68, false)), (.ld (.t 11) 3 true), 15, [], [], [], []⟩,
          ⟨(some 71), (some (68, false)), (.callS 17 [(.t 69), (.t 70)] true), 13, [], [], [], []⟩,
          ⟨(some 74), (some (68, false)), (.callS 15 [(.t 72), (.t 73)] true), 16, [], [], [], []⟩,
          ⟨(some 75), (some (68, false)), (.bib true (.t 71) (.t 74)), 17, [], [], [], []⟩,
          ⟨(some 76), none, (.pick (.t 68) (.c (.bool true)) (.t 75)), 18, [], [], [], []⟩,
          ⟨(some 77), none, (.mov (.t 76)), 19, [], [], [], []⟩,
          ⟨(some 78), (some (77, false)), (.ld (.t 10) 3 true), 20, [], [], [], []⟩,
          ⟨(some 79), (some (77, false)), (.ld (.t 12) 3 true), 21, [], [], [], []⟩,
          ⟨(some 81), (some (77, false)), (.ld (.t 10) 3 true), 23, [], [], [], []⟩,
          ⟨(some 82), (some (77, false)), (.ld (.t 12) 3 true), 24, [], [], [], []⟩,
          ⟨(some 80), (some (77, false)), (.callS 18 [(.t 78), (.t 79)] true), 22, [], [], [], []⟩,
          ⟨(some 83), (some (77, false)), (.callS 16 [(.t 81), (.t 82)] true), 25, [], [], [], []⟩,
          ⟨(some 84), (some (77, false)), (.bib true (.t 80) (.t 83)), 26, [], [], [], []⟩,
          ⟨(some 85), none, (.pick (.t 77) (.c (.bool true)) (.t 84)), 27, [], [], [], []⟩])
        (.cond (.t 85)
          (.seq
           (.rgn 1 [
            ⟨(some 4), none, (.mov (.c (.bool false))), 0, [], [], [], []⟩])
          .ret)
          .skip))
       (.rgn 4 [
        ⟨(some 86), none, (.ld (.t 9) 3 true), 0, [], [], [], []⟩,
        ⟨(some 87), none, (.ld (.t 11) 3 true), 1, [2], [], [11], []⟩,
        ⟨none, none, (.st (.t 5) 3 (.t 86)), 2, [], [11], [], []⟩,
        ⟨none, none, (.st (.t 6) 3 (.t 87)), 3, [], [], [], []⟩])))))))
     (.rgn 3 [
      ⟨(some 21), none, (.mov (.t 7)), 0, [], [], [], []⟩,
      ⟨(some 22), none, (.bin .add (.t 21) (.c (.int .i64 1))), 1, [], [], [], []⟩,
      ⟨(some 7), none, (.mov (.t 22)), 2, [], [], [], []⟩]))))))
  (.seq
   (.rgn 2 [
    ⟨(some 88), none, (.callS 12 [] true), 0, [], [], [], []⟩,
    ⟨(some 4), none, (.mov (.t 88)), 1, [], [], [], []⟩])
  .ret))))
def r5 : List ARes := [(.tmp 4)]
theorem k5 : compCode Try.prog 89 (ngOf []) (Try.f5.body.getD .skip) = some a5 := by kernel_rfl
theorem e5 {vs : List AV} {h : Hp} {n : Nat} {K : AV → Hp → Nat → Prop} (hl : vs.length ≤ 89) (hw : wpA Try.prog a5 (retA r5 K) ⟨argS vs, h, n⟩) : CallsA Try.prog 5 vs h n K :=
  fn_sound (fn := Try.f5) (c := Try.f5.body.getD .skip) mo (by kernel_rfl) (by kernel_rfl) (by kernel_rfl) k5 (by kernel_rfl) hl hw
def a6 : ACode :=
  (.seq
   (.rgn 1 [
    ⟨(some 10), none, (.mov (.c (.bool false))), 0, [], [], [], []⟩])
  (.seq
   (.rgn 1 [
    ⟨(some 11), none, (.new 25 (.agg [(.isl (some true) true []), (.isl (some true) true []), (.int .i64 0)])), 0, [], [], [], []⟩])
  (.seq
   (.seq
    (.rgn 1 [
     ⟨(some 12), none, (.mov (.c (.int .i64 0))), 0, [], [], [], []⟩])
   (.block 0
    (.loop
     (.seq
      (.seq
       (.rgn 8 [
        ⟨(some 24), none, (.mov (.t 12)), 0, [], [], [], []⟩,
        ⟨(some 25), none, (.mov (.t 0)), 1, [], [], [], []⟩,
        ⟨(some 26), none, (.len (.t 25)), 2, [], [], [], []⟩,
        ⟨(some 27), none, (.bin .lss (.t 24) (.t 26)), 3, [], [], [], []⟩,
        ⟨(some 28), none, (.mov (.t 27)), 4, [], [], [], []⟩,
        ⟨(some 29), (some (28, true)), (.mov (.t 12)), 5, [], [], [], []⟩,
        ⟨(some 30), (some (28, true)), (.bin .lss (.t 29) (.c (.int .i64 60))), 6, [], [], [], []⟩,
        ⟨(some 31), none, (.pick (.t 28) (.t 30) (.c (.bool false))), 7, [], [], [], []⟩])
      (.cond (.t 31)
        .skip
        (.exit 0)))
     (.seq
      (.block 1
       (.rgn 12 [
        ⟨(some 35), none, (.ld (.t 11) 3 true), 0, [], [], [], []⟩,
        ⟨(some 36), none, (.mov (.t 0)), 1, [], [], [], []⟩,
        ⟨(some 37), none, (.mov (.t 12)), 2, [], [], [], []⟩,
        ⟨(some 38), none, (.ia 1 (.t 36) (.t 37)), 3, [], [], [], []⟩,
        ⟨(some 39), none, (.ld (.t 38) 1 false), 4, [], [], [], []⟩,
        ⟨(some 40), none, (.mov (.t 12)), 5, [], [], [], []⟩,
        ⟨(some 41), none, (.callS 13 [(.t 39), (.t 40)] true), 6, [], [], [], []⟩,
        ⟨(some 42), none, (.callS 11 [(.t 35), (.t 41)] true), 7, [], [], [], []⟩,
        ⟨(some 34), none, (.mov (.t 42)), 8, [], [], [], []⟩,
        ⟨(some 43), none, (.ext (.t 34) 0), 9, [], [], [], []⟩,
        ⟨(some 44), none, (.ext (.t 34) 1), 10, [], [], [], []⟩,
        ⟨none, none, (.st (.t 11) 3 (.t 43)), 11, [], [], [], []⟩]))
     (.rgn 3 [
      ⟨(some 32), none, (.mov (.t 12)), 0, [], [], [], []⟩,
      ⟨(some 33), none, (.bin .add (.t 32) (.c (.int .i64 1))), 1, [], [], [], []⟩,
      ⟨(some 12), none, (.mov (.t 33)), 2, [], [], [], []⟩]))))))
  (.seq
   (.rgn 3 [
    ⟨(some 45), none, (.mov (.t 1)), 0, [], [], [], []⟩,
    ⟨(some 46), none, (.bin .and (.t 45) (.c (.int .i64 3))), 1, [], [], [], []⟩,
    ⟨(some 13), none, (.mov (.t 46)), 2, [], [], [], []⟩])
  (.seq
   (.rgn 7 [
    ⟨(some 47), none, (.mov (.t 1)), 0, [], [], [], []⟩,
    ⟨(some 48), none, (.bin .shr (.t 47) (.c (.int .u64 2))), 1, [], [], [], []⟩,
    ⟨(some 49), none, (.bin .and (.t 48) (.c (.int .i64 63))), 2, [], [], [], []⟩,
    ⟨(some 50), none, (.mov (.t 2)), 3, [], [], [], []⟩,
    ⟨(some 51), none, (.bin .and (.t 50) (.c (.int .i64 127))), 4, [], [], [], []⟩,
    ⟨(some 14), none, (.mov (.t 49)), 5, [], [], [], []⟩,
    ⟨(some 15), none, (.mov (.t 51)), 6, [], [], [], []⟩])
  (.seq
   (.rgn 13 [
    ⟨(some 53), none, (.ld (.t 11) 3 true), 0, [], [], [], []⟩,
    ⟨(some 54), none, (.mov (.t 13)), 1, [], [], [], []⟩,
    ⟨(some 55), none, (.mov (.t 14)), 2, [], [], [], []⟩,
    ⟨(some 56), none, (.mov (.t 15)), 3, [], [], [], []⟩,
    ⟨(some 57), none, (.build [(.int .i64 0), (.int .i64 0), (.int .i64 0), (.int .i64 0), (.int .u64 0), (.int .i64 0), (.int .i64 0), (.int .i64 0)] [(0, (1, (.c (.int .i64 2)))), (1, (1, (.t 54))), (5, (1, (.t 55))), (6, (1, (.t 56)))]), 4, [], [], [], []⟩,
    ⟨(some 58), none, (.callS 11 [(.t 53), (.t 57)] true), 5, [], [], [], []⟩,
    ⟨(some 52), none, (.mov (.t 58)), 6, [], [], [], []⟩,
    ⟨(some 59), none, (.ext (.t 52) 0), 7, [], [], [], []⟩,
    ⟨(some 60), none, (.ext (.t 52) 1), 8, [], [], [], []⟩,
    ⟨(some 16), none, (.new 25 (.agg [(.isl (some true) true []), (.isl (some true) true []), (.int .i64 0)])), 9, [], [], [], []⟩,
    ⟨(some 17), none, (.new 32 (.agg [(.int .i64 0), (.int .i64 0), (.isl (some true) true [])])), 10, [], [], [], []⟩,
    ⟨none, none, (.st (.t 16) 3 (.t 59)), 11, [], [], [], []⟩,
    ⟨none, none, (.st (.t 17) 3 (.t 60)), 12, [], [], [], []⟩])
  (.seq
   (.rgn 12 [
    ⟨(some 62), none, (.ld (.t 11) 3 true), 0, [], [], [], []⟩,
    ⟨(some 63), none, (.mov (.t 13)), 1, [], [], [], []⟩,
    ⟨(some 64), none, (.mov (.t 14)), 2, [], [], [], []⟩,
    ⟨(some 65), none, (.mov (.t 15)), 3, [], [], [], []⟩,
    ⟨(some 66), none, (.build [(.int .i64 0), (.int .i64 0), (.int .i64 0), (.int .i64 0), (.int .u64 0), (.int .i64 0), (.int .i64 0), (.int .i64 0)] [(0, (1, (.c (.int .i64 5)))), (1, (1, (.t 63))), (5, (1, (.t 64))), (6, (1, (.t 65)))]), 4, [], [], [], []⟩,
    ⟨(some 67), none, (.callS 11 [(.t 62), (.t 66)] true), 5, [], [], [], []⟩,
    ⟨(some 61), none, (.mov (.t 67)), 6, [], [], [], []⟩,
    ⟨(some 68), none, (.ext (.t 61) 0), 7, [], [], [], []⟩,
    ⟨(some 69), none, (.ext (.t 61) 1), 8, [], [], [], []⟩,
    ⟨(some 18), none, (.new 32 (.agg [(.int .i64 0), (.int .i64 0), (.isl (some true) true [])])), 9, [], [], [], []⟩,
    ⟨none, none, (.st (.t 11) 3 (.t 68)), 10, [], [], [], []⟩,
    ⟨none, none, (.st (.t 18) 3 (.t 69)), 11, [], [], [], []⟩])
  (.seq
   (.seq
    (.rgn 3 [
     ⟨(some 70), none, (.fa (.t 18) 0), 0, [], [], [], []⟩,
     ⟨(some 71), none, (.ld (.t 70) 1 false), 1, [], [], [], []⟩,
     ⟨(some 72), none, (.bin .neq (.t 71) (.c (.int .i64 0))), 2, [], [], [], []⟩])
   (.cond (.t 72)
     (.seq
      (.rgn 14 [
       ⟨(some 73), none, (.fa (.t 18) 0), 0, [], [], [], []⟩,
       ⟨(some 74), none, (.ld (.t 73) 1 false), 1, [], [], [], []⟩,
       ⟨(some 75), none, (.fa (.t 17) 0), 2, [], [], [], []⟩,
       ⟨(some 76), none, (.ld (.t 75) 1 false), 3, [], [], [], []⟩,
       ⟨(some 77), none, (.bin .eql (.t 74) (.t 76)), 4, [], [], [], []⟩,
       ⟨(some 78), none, (.mov (.t 77)), 5, [], [], [], []⟩,
       ⟨(some 79), (some (78, false)), (.fa (.t 18) 0), 6, [], [], [], []⟩,
       ⟨(some 80), (some (78, false)), (.ld (.t 79) 1 false), 7, [], [], [], []⟩,
       ⟨(some 81), (some (78, false)), (.bin .eql (.t 80) (.c (.int .i64 5))), 8, [], [], [], []⟩,
       ⟨(some 82), none, (.pick (.t 78) (.c (.bool true)) (.t 81)), 9, [], [], [], []⟩,
       ⟨(some 83), none, (.mov (.t 82)), 10, [], [], [], []⟩,
       ⟨(some 84), (some (83, true)), (.callS 12 [] true), 11, [], [], [], []⟩,
       ⟨(some 85), none, (.pick (.t 83) (.t 84) (.c (.bool false))), 12, [], [], [], []⟩,
       ⟨(some 10), none, (.mov (.t 85)), 13, [], [], [], []⟩])
     .ret)
     .skip))
  (.seq
   (.rgn 1 [
    ⟨(some 19), none, (.mov (.c (.isl (some true) true []))), 0, [], [], [], []⟩])
  (.seq
   (.seq
    (.rgn 1 [
     ⟨(some 20), none, (.mov (.c (.int .i64 0))), 0, [], [], [], []⟩])
   (.block 2
    (.loop
     (.seq
      (.seq
       (.rgn 2 [
        ⟨(some 86), none, (.mov (.t 20)), 0, [], [], [], []⟩,
        ⟨(some 87), none, (.bin .lss (.t 86) (.c (.int .i64 100))), 1, [], [], [], []⟩])
      (.cond (.t 87)
        .skip
        (.exit 2)))
     (.seq
      (.block 3
       (.seq
        (.seq
         (.rgn 4 [
          ⟨(some 90), none, (.mov (.t 20)), 0, [], [], [], []⟩,
          ⟨(some 91), none, (.mov (.t 3)), 1, [], [], [], []⟩,
          ⟨(some 92), none, (.len (.t 91)), 2, [], [], [], []⟩,
          ⟨(some 93), none, (.bin .lss (.t 90) (.t 92)), 3, [], [], [], []⟩])
        (.cond (.t 93)
          (.seq
           (.rgn 9 [
            ⟨(some 94), none, (.mov (.t 3)), 0, [], [], [], []⟩,
            ⟨(some 95), none, (.mov (.t 20)), 1, [], [], [], []⟩,
            ⟨(some 96), none, (.ia 1 (.t 94) (.t 95)), 2, [], [], [], []⟩,
            ⟨(some 97), none, (.ld (.t 96) 1 false), 3, [], [], [], []⟩,
            ⟨(some 98), none, (.mov (.t 20)), 4, [], [], [], []⟩,
            ⟨(some 99), none, (.bin .add (.c (.int .i64 60)) (.t 98)), 5, [], [], [], []⟩,
            ⟨(some 100), none, (.callS 13 [(.t 97), (.t 99)] true), 6, [], [], [], []⟩,
            ⟨(some 21), none, (.new 28 (.agg [(.int .i64 0), (.int .i64 0), (.int .i64 0), (.int .i64 0), (.int .u64 0), (.int .i64 0), (.int .i64 0), (.int .i64 0)])), 7, [], [], [], []⟩,
            ⟨none, none, (.st (.t 21) 8 (.t 100)), 8, [], [], [], []⟩])
          (.seq
           (.rgn 5 [
            ⟨(some 101), none, (.fa (.t 21) 2), 0, [], [], [], []⟩,
            ⟨(some 102), none, (.ld (.t 101) 1 false), 1, [], [], [], []⟩,
            ⟨(some 103), none, (.fa (.t 18) 1), 2, [], [], [], []⟩,
            ⟨(some 104), none, (.ld (.t 103) 1 false), 3, [], [], [], []⟩,
            ⟨(some 105), none, (.bin .neq (.t 102) (.t 104)), 4, [], [], [], []⟩])
          (.cond (.t 105)
            (.rgn 7 [
             ⟨(some 107), none, (.ld (.t 11) 3 true), 0, [], [], [], []⟩,
             ⟨(some 108), none, (.ld (.t 21) 8 true), 1, [], [], [], []⟩,
             ⟨(some 109), none, (.callS 11 [(.t 107), (.t 108)] true), 2, [], [], [], []⟩,
             ⟨(some 106), none, (.mov (.t 109)), 3, [], [], [], []⟩,
             ⟨(some 110), none, (.ext (.t 106) 0), 4, [], [], [], []⟩,
             ⟨(some 111), none, (.ext (.t 106) 1), 5, [], [], [], []⟩,
             ⟨none, none, (.st (.t 11) 3 (.t 110)), 6, [], [], [], []⟩])
            .skip)))
          .skip))
       (.seq
        (.rgn 15 [
         ⟨(some 113), none, (.ld (.t 11) 3 true), 0, [], [], [], []⟩,
         ⟨(some 114), none, (.fa (.t 18) 1), 1, [], [], [], []⟩,
         ⟨(some 115), none, (.ld (.t 114) 1 false), 2, [], [], [], []⟩,
         ⟨(some 116), none, (.mov (.t 4)), 3, [], [], [], []⟩,
         ⟨(some 117), none, (.bin .and (.t 116) (.c (.int .i64 3))), 4, [], [], [], []⟩,
         ⟨(some 118), none, (.bin .add (.t 117) (.c (.int .i64 1))), 5, [], [], [], []⟩,
         ⟨(some 119), none, (.build [(.int .i64 0), (.int .i64 0), (.int .i64 0), (.int .i64 0), (.int .u64 0), (.int .i64 0), (.int .i64 0), (.int .i64 0)] [(0, (1, (.c (.int .i64 6)))), (2, (1, (.t 115))), (7, (1, (.t 118)))]), 6, [], [], [], []⟩,
         ⟨(some 120), none, (.callS 11 [(.t 113), (.t 119)] true), 7, [], [], [], []⟩,
         ⟨(some 112), none, (.mov (.t 120)), 8, [], [], [], []⟩,
         ⟨(some 121), none, (.ext (.t 112) 0), 9, [], [], [], []⟩,
         ⟨(some 122), none, (.ext (.t 112) 1), 10, [], [], [], []⟩,
         ⟨(some 22), none, (.new 25 (.agg [(.isl (some true) true []), (.isl (some true) true []), (.int .i64 0)])), 11, [], [], [], []⟩,
         ⟨(some 23), none, (.new 32 (.agg [(.int .i64 0), (.int .i64 0), (.isl (some true) true [])])), 12, [], [], [], []⟩,
         ⟨none, none, (.st (.t 22) 3 (.t 121)), 13, [], [], [], []⟩,
         ⟨none, none, (.st (.t 23) 3 (.t 122)), 14, [], [], [], []⟩])
       (.seq
        (.seq
         (.rgn 12 [
          ⟨(some 123), none, (.fa (.t 23) 0), 0, [], [], [], []⟩,
          ⟨(some 124), none, (.ld (.t 123) 1 false), 1, [], [], [], []⟩,
          ⟨(some 125), none, (.bin .neq (.t 124) (.c (.int .i64 0))), 2, [], [], [], []⟩,
          ⟨(some 126), none, (.mov (.t 125)), 3, [], [], [], []⟩,
          ⟨(some 127), (some (126, false)), (.fa (.t 23) 2), 4, [], [], [], []⟩,
          ⟨(some 128), (some (126, false)), (.ld (.t 127) 1 false), 5, [], [], [], []⟩,
          ⟨(some 129), (some (126, false)), (.len (.t 128)), 6, [], [], [], []⟩,
          ⟨(some 130), (some (126, false)), (.mov (.t 4)), 7, [], [], [], []⟩,
          ⟨(some 131), (some (126, false)), (.bin .and (.t 130) (.c (.int .i64 3))), 8, [], [], [], []⟩,
          ⟨(some 132), (some (126, false)), (.bin .add (.t 131) (.c (.int .i64 1))), 9, [], [], [], []⟩,
          ⟨(some 133), (some (126, false)), (.bin .gtr (.t 129) (.t 132)), 10, [], [], [], []⟩,
          ⟨(some 134), none, (.pick (.t 126) (.c (.bool true)) (.t 133)), 11, [], [], [], []⟩])
        (.cond (.t 134)
          (.seq
           (.rgn 1 [
            ⟨(some 10), none, (.mov (.c (.bool false))), 0, [], [], [], []⟩])
          .ret)
          .skip))
       (.seq
        (.rgn 2 [
         ⟨(some 135), none, (.ld (.t 22) 3 true), 0, [], [], [], []⟩,
         ⟨none, none, (.st (.t 11) 3 (.t 135)), 1, [], [], [], []⟩])
       (.rgn 5 [
        ⟨(some 136), none, (.mov (.t 19)), 0, [], [], [], []⟩,
        ⟨(some 137), none, (.fa (.t 23) 2), 1, [], [], [], []⟩,
        ⟨(some 138), none, (.ld (.t 137) 1 false), 2, [], [], [], []⟩,
        ⟨(some 139), none, (.app 44 2 16 (.t 136) (.t 138)), 3, [], [], [], []⟩,
        ⟨(some 19), none, (.mov (.t 139)), 4, [], [], [], []⟩]))))))
     (.rgn 3 [
      ⟨(some 88), none, (.mov (.t 20)), 0, [], [], [], []⟩,
      ⟨(some 89), none, (.bin .add (.t 88) (.c (.int .i64 1))), 1, [], [], [], []⟩,
      ⟨(some 20), none, (.mov (.t 89)), 2, [], [], [], []⟩]))))))
  (.seq
   (.rgn 13 [
    ⟨(some 140), none, (.fa (.t 17) 0), 0, [], [], [], []⟩,
    ⟨(some 141), none, (.ld (.t 140) 1 false), 1, [], [], [], []⟩,
    ⟨(some 142), none, (.bin .eql (.t 141) (.c (.int .i64 0))), 2, [], [], [], []⟩,
    ⟨(some 143), none, (.mov (.t 142)), 3, [], [], [], []⟩,
    ⟨(some 144), (some (143, true)), (.mov (.t 19)), 4, [], [], [], []⟩,
    ⟨(some 145), (some (143, true)), (.fa (.t 17) 2), 5, [], [], [], []⟩,
    ⟨(some 146), (some (143, true)), (.ld (.t 145) 1 false), 6, [], [], [], []⟩,
    ⟨(some 147), (some (143, true)), (.callS 19 [(.t 144), (.t 146)] true), 7, [], [], [], []⟩,
    ⟨(some 148), none, (.pick (.t 143) (.t 147) (.c (.bool false))), 8, [], [], [], []⟩,
    ⟨(some 149), none, (.mov (.t 148)), 9, [], [], [], []⟩,
    ⟨(some 150), (some (149, true)), (.callS 12 [] true), 10, [], [], [], []⟩,
    ⟨(some 151), none, (.pick (.t 149) (.t 150) (.c (.bool false))), 11, [], [], [], []⟩,
    ⟨(some 10), none, (.mov (.t 151)), 12, [], [], [], []⟩])
  .ret)))))))))))
def r6 : List ARes := [(.tmp 10)]
theorem k6 : compCode Try.prog 152 (ngOf []) (Try.f6.body.getD .skip) = some a6 := by kernel_rfl
theorem e6 {vs : List AV} {h : Hp} {n : Nat} {K : AV → Hp → Nat → Prop} (hl : vs.length ≤ 152) (hw : wpA Try.prog a6 (retA r6 K) ⟨argS vs, h, n⟩) : CallsA Try.prog 6 vs h n K :=
  fn_sound (fn := Try.f6) (c := Try.f6.body.getD .skip) mo (by kernel_rfl) (by kernel_rfl) (by kernel_rfl) k6 (by kernel_rfl) hl hw
end Go.Proofs.Ytdbakmdcepkpmaa
