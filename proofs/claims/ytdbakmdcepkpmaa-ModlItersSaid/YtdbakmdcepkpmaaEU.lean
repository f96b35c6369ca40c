/- The code of the functions, its local variables in temporaries: printed by a program, and held by the kernel against the code of E1Code. -/
import Derived.Test.YtdbakmdcepkpmaaECode
import Derived.Test.YtdbakmdcepkpmaaLub
set_option linter.unusedSimpArgs false
set_option linter.unusedVariables false
namespace Go.Proofs.Ytdbakmdcepkpmaa
open Go.E3
def b3 : ACode :=
  (.seq
   (.seq
    (.rgn 1 [
     ⟨(some 6), none, (.mov (.c (.bool false))), 0, [], [], [], []⟩])
   (.seq
    (.rgn 1 [
     ⟨(some 7), none, (.mov (.c (.fn 10 []))), 0, [], [], [], []⟩])
   (.seq
    (.rgn 11 [
     ⟨(some 26), none, (.mov (.t 7)), 0, [], [], [], []⟩,
     ⟨(some 27), none, (.build [(.isl (some true) true []), (.isl (some true) true []), (.int .i64 0)] []), 1, [], [], [], []⟩,
     ⟨(some 28), none, (.mov (.t 0)), 2, [], [], [], []⟩,
     ⟨(some 29), none, (.build [(.int .i64 0), (.int .i64 0), (.int .i64 0), (.int .i64 0), (.int .u64 0), (.int .i64 0), (.int .i64 0), (.int .i64 0)] [(0, (1, (.c (.int .i64 1)))), (1, (1, (.c (.int .i64 5)))), (3, (1, (.t 28))), (4, (1, (.c (.int .u64 1))))]), 3, [], [], [], []⟩,
     ⟨(some 30), none, (.callV (.t 26) [(.t 27), (.t 29)] true), 4, [], [], [], []⟩,
     ⟨(some 25), none, (.mov (.t 30)), 5, [], [], [], []⟩,
     ⟨(some 31), none, (.ext (.t 25) 0), 6, [], [], [], []⟩,
     ⟨(some 32), none, (.ext (.t 25) 1), 7, [], [], [], []⟩,
     ⟨(some 8), none, (.mov (.c (.agg [(.isl (some true) true []), (.isl (some true) true []), (.int .i64 0)]))), 8, [], [], [], []⟩,
     ⟨(some 209), none, (.fld (.t 8) 0 0 true), 9, [], [], [], []⟩,
     ⟨(some 210), none, (.fld (.t 8) 3 0 true), 9, [], [], [], []⟩,
     ⟨(some 8), none, (.build [.undef, .undef, .undef] [(0, 0, (.t 209)), (0, 3, (.t 31)), (3, 0, (.t 210))]), 9, [], [], [], []⟩,
     ⟨(some 9), none, (.mov (.t 32)), 10, [], [], [], []⟩])
   (.seq
    (.rgn 9 [
     ⟨(some 34), none, (.mov (.t 7)), 0, [], [], [], []⟩,
     ⟨(some 35), none, (.fld (.t 8) 0 3 true), 1, [], [], [], []⟩,
     ⟨(some 36), none, (.build [(.int .i64 0), (.int .i64 0), (.int .i64 0), (.int .i64 0), (.int .u64 0), (.int .i64 0), (.int .i64 0), (.int .i64 0)] [(0, (1, (.c (.int .i64 3)))), (1, (1, (.c (.int .i64 5))))]), 2, [], [], [], []⟩,
     ⟨(some 37), none, (.callV (.t 34) [(.t 35), (.t 36)] true), 3, [], [], [], []⟩,
     ⟨(some 33), none, (.mov (.t 37)), 4, [], [], [], []⟩,
     ⟨(some 38), none, (.ext (.t 33) 0), 5, [], [], [], []⟩,
     ⟨(some 39), none, (.ext (.t 33) 1), 6, [], [], [], []⟩,
     ⟨(some 209), none, (.fld (.t 8) 0 0 true), 7, [], [], [], []⟩,
     ⟨(some 210), none, (.fld (.t 8) 3 0 true), 7, [], [], [], []⟩,
     ⟨(some 8), none, (.build [.undef, .undef, .undef] [(0, 0, (.t 209)), (0, 3, (.t 38)), (3, 0, (.t 210))]), 7, [], [], [], []⟩,
     ⟨(some 10), none, (.mov (.t 39)), 8, [], [], [], []⟩])
   (.seq
    (.rgn 10 [
     ⟨(some 41), none, (.mov (.t 7)), 0, [], [], [], []⟩,
     ⟨(some 42), none, (.fld (.t 8) 0 3 true), 1, [], [], [], []⟩,
     ⟨(some 43), none, (.build [(.int .i64 0), (.int .i64 0), (.int .i64 0), (.int .i64 0), (.int .u64 0), (.int .i64 0), (.int .i64 0), (.int .i64 0)] [(0, (1, (.c (.int .i64 1)))), (1, (1, (.c (.int .i64 5)))), (3, (1, (.c (.int .i64 9223372036854775807))))]), 2, [], [], [], []⟩,
     ⟨(some 44), none, (.callV (.t 41) [(.t 42), (.t 43)] true), 3, [], [], [], []⟩,
     ⟨(some 40), none, (.mov (.t 44)), 4, [], [], [], []⟩,
     ⟨(some 45), none, (.ext (.t 40) 0), 5, [], [], [], []⟩,
     ⟨(some 46), none, (.ext (.t 40) 1), 6, [], [], [], []⟩,
     ⟨(some 11), none, (.mov (.c (.agg [(.isl (some true) true []), (.isl (some true) true []), (.int .i64 0)]))), 7, [], [], [], []⟩,
     ⟨(some 209), none, (.fld (.t 11) 0 0 true), 8, [], [], [], []⟩,
     ⟨(some 210), none, (.fld (.t 11) 3 0 true), 8, [], [], [], []⟩,
     ⟨(some 11), none, (.build [.undef, .undef, .undef] [(0, 0, (.t 209)), (0, 3, (.t 45)), (3, 0, (.t 210))]), 8, [], [], [], []⟩,
     ⟨(some 12), none, (.mov (.t 46)), 9, [], [], [], []⟩])
   (.seq
    (.rgn 10 [
     ⟨(some 48), none, (.mov (.t 7)), 0, [], [], [], []⟩,
     ⟨(some 49), none, (.fld (.t 8) 0 3 true), 1, [], [], [], []⟩,
     ⟨(some 50), none, (.build [(.int .i64 0), (.int .i64 0), (.int .i64 0), (.int .i64 0), (.int .u64 0), (.int .i64 0), (.int .i64 0), (.int .i64 0)] [(0, (1, (.c (.int .i64 3)))), (1, (1, (.c (.int .i64 5))))]), 2, [], [], [], []⟩,
     ⟨(some 51), none, (.callV (.t 48) [(.t 49), (.t 50)] true), 3, [], [], [], []⟩,
     ⟨(some 47), none, (.mov (.t 51)), 4, [], [], [], []⟩,
     ⟨(some 52), none, (.ext (.t 47) 0), 5, [], [], [], []⟩,
     ⟨(some 53), none, (.ext (.t 47) 1), 6, [], [], [], []⟩,
     ⟨(some 13), none, (.mov (.c (.agg [(.isl (some true) true []), (.isl (some true) true []), (.int .i64 0)]))), 7, [], [], [], []⟩,
     ⟨(some 209), none, (.fld (.t 13) 0 0 true), 8, [], [], [], []⟩,
     ⟨(some 210), none, (.fld (.t 13) 3 0 true), 8, [], [], [], []⟩,
     ⟨(some 13), none, (.build [.undef, .undef, .undef] [(0, 0, (.t 209)), (0, 3, (.t 52)), (3, 0, (.t 210))]), 8, [], [], [], []⟩,
     ⟨(some 14), none, (.mov (.t 53)), 9, [], [], [], []⟩])
   (.seq
    (.rgn 12 [
     ⟨(some 55), none, (.fld (.t 8) 0 3 true), 0, [], [], [], []⟩,
     ⟨(some 56), none, (.mov (.t 0)), 1, [], [], [], []⟩,
     ⟨(some 57), none, (.mov (.t 0)), 2, [], [], [], []⟩,
     ⟨(some 58), none, (.build [(.int .i64 0), (.int .i64 0), (.int .i64 0), (.int .i64 0), (.int .u64 0), (.int .i64 0), (.int .i64 0), (.int .i64 0)] [(0, (1, (.c (.int .i64 2)))), (1, (1, (.c (.int .i64 5)))), (5, (1, (.t 56))), (6, (1, (.t 57)))]), 3, [], [], [], []⟩,
     ⟨(some 59), none, (.callS 11 [(.t 55), (.t 58)] true), 4, [], [], [], []⟩,
     ⟨(some 54), none, (.mov (.t 59)), 5, [], [], [], []⟩,
     ⟨(some 60), none, (.ext (.t 54) 0), 6, [], [], [], []⟩,
     ⟨(some 61), none, (.ext (.t 54) 1), 7, [], [], [], []⟩,
     ⟨(some 15), none, (.mov (.c (.agg [(.isl (some true) true []), (.isl (some true) true []), (.int .i64 0)]))), 8, [], [], [], []⟩,
     ⟨(some 16), none, (.mov (.c (.agg [(.int .i64 0), (.int .i64 0), (.isl (some true) true [])]))), 9, [], [], [], []⟩,
     ⟨(some 209), none, (.fld (.t 15) 0 0 true), 10, [], [], [], []⟩,
     ⟨(some 210), none, (.fld (.t 15) 3 0 true), 10, [], [], [], []⟩,
     ⟨(some 15), none, (.build [.undef, .undef, .undef] [(0, 0, (.t 209)), (0, 3, (.t 60)), (3, 0, (.t 210))]), 10, [], [], [], []⟩,
     ⟨(some 209), none, (.fld (.t 16) 0 0 true), 11, [], [], [], []⟩,
     ⟨(some 210), none, (.fld (.t 16) 3 0 true), 11, [], [], [], []⟩,
     ⟨(some 16), none, (.build [.undef, .undef, .undef] [(0, 0, (.t 209)), (0, 3, (.t 61)), (3, 0, (.t 210))]), 11, [], [], [], []⟩])
   (.seq
    (.seq
     (.rgn 20 [
      ⟨(some 62), none, (.mov (.t 9)), 0, [], [], [], []⟩,
      ⟨(some 63), none, (.bin .neq (.t 62) (.c (.int .i64 0))), 1, [], [], [], []⟩,
      ⟨(some 64), none, (.mov (.t 63)), 2, [], [], [], []⟩,
      ⟨(some 65), (some (64, false)), (.mov (.t 10)), 3, [], [], [], []⟩,
      ⟨(some 66), (some (64, false)), (.bin .neq (.t 65) (.c (.int .i64 0))), 4, [], [], [], []⟩,
      ⟨(some 67), none, (.pick (.t 64) (.c (.bool true)) (.t 66)), 5, [], [], [], []⟩,
      ⟨(some 68), none, (.mov (.t 67)), 6, [], [], [], []⟩,
      ⟨(some 69), (some (68, false)), (.mov (.t 12)), 7, [], [], [], []⟩,
      ⟨(some 70), (some (68, false)), (.bin .neq (.t 69) (.c (.int .i64 2))), 8, [], [], [], []⟩,
      ⟨(some 71), none, (.pick (.t 68) (.c (.bool true)) (.t 70)), 9, [], [], [], []⟩,
      ⟨(some 72), none, (.mov (.t 71)), 10, [], [], [], []⟩,
      ⟨(some 73), (some (72, false)), (.mov (.t 14)), 11, [], [], [], []⟩,
      ⟨(some 74), (some (72, false)), (.bin .neq (.t 73) (.c (.int .i64 2))), 12, [], [], [], []⟩,
      ⟨(some 75), none, (.pick (.t 72) (.c (.bool true)) (.t 74)), 13, [], [], [], []⟩,
      ⟨(some 76), none, (.mov (.t 75)), 14, [], [], [], []⟩,
      ⟨(some 77), (some (76, false)), (.fld (.t 16) 0 0 true), 15, [], [], [], []⟩,
      ⟨(some 78), (some (76, false)), (.fld (.t 16) 2 1 false), 16, [], [], [], []⟩,
      ⟨(some 79), (some (76, false)), (.len (.t 78)), 17, [], [], [], []⟩,
      ⟨(some 80), (some (76, false)), (.bin .neq (.t 79) (.c (.int .i64 1))), 18, [], [], [], []⟩,
      ⟨(some 81), none, (.pick (.t 76) (.c (.bool true)) (.t 80)), 19, [], [], [], []⟩])
    (.cond (.t 81)
      (.seq
       (.rgn 1 [
        ⟨(some 6), none, (.mov (.c (.bool false))), 0, [], [], [], []⟩])
      .ret)
      .skip))
   (.seq
    (.rgn 3 [
     ⟨(some 82), none, (.mov (.t 1)), 0, [], [], [], []⟩,
     ⟨(some 83), none, (.bin .and (.t 82) (.c (.int .i64 15))), 1, [], [], [], []⟩,
     ⟨(some 1), none, (.mov (.t 83)), 2, [], [], [], []⟩])
   (.seq
    (.seq
     (.rgn 1 [
      ⟨(some 17), none, (.mov (.c (.int .i64 1))), 0, [], [], [], []⟩])
    (.block 0
     (.loop
      (.seq
       (.seq
        (.rgn 3 [
         ⟨(some 84), none, (.mov (.t 17)), 0, [], [], [], []⟩,
         ⟨(some 85), none, (.mov (.t 1)), 1, [], [], [], []⟩,
         ⟨(some 86), none, (.bin .leq (.t 84) (.t 85)), 2, [], [], [], []⟩])
       (.cond (.t 86)
         .skip
         (.exit 0)))
      (.seq
       (.block 1
        (.seq
         (.rgn 12 [
          ⟨(some 90), none, (.mov (.t 7)), 0, [], [], [], []⟩,
          ⟨(some 91), none, (.fld (.t 8) 0 3 true), 1, [], [], [], []⟩,
          ⟨(some 92), none, (.mov (.t 0)), 2, [], [], [], []⟩,
          ⟨(some 93), none, (.mov (.t 0)), 3, [], [], [], []⟩,
          ⟨(some 94), none, (.build [(.int .i64 0), (.int .i64 0), (.int .i64 0), (.int .i64 0), (.int .u64 0), (.int .i64 0), (.int .i64 0), (.int .i64 0)] [(0, (1, (.c (.int .i64 5)))), (1, (1, (.c (.int .i64 5)))), (5, (1, (.t 92))), (6, (1, (.t 93)))]), 4, [], [], [], []⟩,
          ⟨(some 95), none, (.callV (.t 90) [(.t 91), (.t 94)] true), 5, [], [], [], []⟩,
          ⟨(some 89), none, (.mov (.t 95)), 6, [], [], [], []⟩,
          ⟨(some 96), none, (.ext (.t 89) 0), 7, [], [], [], []⟩,
          ⟨(some 97), none, (.ext (.t 89) 1), 8, [], [], [], []⟩,
          ⟨(some 18), none, (.mov (.c (.agg [(.isl (some true) true []), (.isl (some true) true []), (.int .i64 0)]))), 9, [], [], [], []⟩,
          ⟨(some 209), none, (.fld (.t 18) 0 0 true), 10, [], [], [], []⟩,
          ⟨(some 210), none, (.fld (.t 18) 3 0 true), 10, [], [], [], []⟩,
          ⟨(some 18), none, (.build [.undef, .undef, .undef] [(0, 0, (.t 209)), (0, 3, (.t 96)), (3, 0, (.t 210))]), 10, [], [], [], []⟩,
          ⟨(some 19), none, (.mov (.t 97)), 11, [], [], [], []⟩])
        (.seq
         (.seq
          (.rgn 13 [
           ⟨(some 98), none, (.mov (.t 19)), 0, [], [], [], []⟩,
           ⟨(some 99), none, (.bin .eql (.t 98) (.c (.int .i64 0))), 1, [], [], [], []⟩,
           ⟨(some 100), none, (.mov (.t 17)), 2, [], [], [], []⟩,
           ⟨(some 101), none, (.bin .leq (.t 100) (.c (.int .i64 8))), 3, [], [], [], []⟩,
           ⟨(some 102), none, (.bib true (.t 99) (.t 101)), 4, [], [], [], []⟩,
           ⟨(some 103), none, (.mov (.t 102)), 5, [], [], [], []⟩,
           ⟨(some 104), (some (103, false)), (.mov (.t 19)), 6, [], [], [], []⟩,
           ⟨(some 105), (some (103, false)), (.bin .neq (.t 104) (.c (.int .i64 0))), 7, [], [], [], []⟩,
           ⟨(some 106), (some (103, false)), (.mov (.t 105)), 8, [], [], [], []⟩,
           ⟨(some 107), (some (106, true)), (.mov (.t 19)), 9, [], [], [], []⟩,
           ⟨(some 108), (some (106, true)), (.bin .neq (.t 107) (.c (.int .i64 5))), 10, [], [], [], []⟩,
           ⟨(some 109), (some (103, false)), (.pick (.t 106) (.t 108) (.c (.bool false))), 11, [], [], [], []⟩,
           ⟨(some 110), none, (.pick (.t 103) (.c (.bool true)) (.t 109)), 12, [], [], [], []⟩])
         (.cond (.t 110)
           (.seq
            (.rgn 1 [
             ⟨(some 6), none, (.mov (.c (.bool false))), 0, [], [], [], []⟩])
           .ret)
           .skip))
        (.rgn 2 [
         ⟨(some 111), none, (.fld (.t 18) 0 3 true), 0, [], [], [], []⟩,
         ⟨(some 209), none, (.fld (.t 8) 0 0 true), 1, [], [], [], []⟩,
         ⟨(some 210), none, (.fld (.t 8) 3 0 true), 1, [], [], [], []⟩,
         ⟨(some 8), none, (.build [.undef, .undef, .undef] [(0, 0, (.t 209)), (0, 3, (.t 111)), (3, 0, (.t 210))]), 1, [], [], [], []⟩]))))
      (.rgn 3 [
       ⟨(some 87), none, (.mov (.t 17)), 0, [], [], [], []⟩,
       ⟨(some 88), none, (.bin .add (.t 87) (.c (.int .i64 1))), 1, [], [], [], []⟩,
       ⟨(some 17), none, (.mov (.t 88)), 2, [], [], [], []⟩]))))))
   (.seq
    (.rgn 12 [
     ⟨(some 113), none, (.mov (.t 7)), 0, [], [], [], []⟩,
     ⟨(some 114), none, (.fld (.t 8) 0 3 true), 1, [], [], [], []⟩,
     ⟨(some 115), none, (.mov (.t 2)), 2, [], [], [], []⟩,
     ⟨(some 116), none, (.bin .and (.t 115) (.c (.int .i64 7))), 3, [], [], [], []⟩,
     ⟨(some 117), none, (.bin .add (.t 116) (.c (.int .i64 1))), 4, [], [], [], []⟩,
     ⟨(some 118), none, (.build [(.int .i64 0), (.int .i64 0), (.int .i64 0), (.int .i64 0), (.int .u64 0), (.int .i64 0), (.int .i64 0), (.int .i64 0)] [(0, (1, (.c (.int .i64 7)))), (2, (1, (.t 117)))]), 5, [], [], [], []⟩,
     ⟨(some 119), none, (.callV (.t 113) [(.t 114), (.t 118)] true), 6, [], [], [], []⟩,
     ⟨(some 112), none, (.mov (.t 119)), 7, [], [], [], []⟩,
     ⟨(some 120), none, (.ext (.t 112) 0), 8, [], [], [], []⟩,
     ⟨(some 121), none, (.ext (.t 112) 1), 9, [], [], [], []⟩,
     ⟨(some 209), none, (.fld (.t 8) 0 0 true), 10, [], [], [], []⟩,
     ⟨(some 210), none, (.fld (.t 8) 3 0 true), 10, [], [], [], []⟩,
     ⟨(some 8), none, (.build [.undef, .undef, .undef] [(0, 0, (.t 209)), (0, 3, (.t 120)), (3, 0, (.t 210))]), 10, [], [], [], []⟩,
     ⟨(some 20), none, (.mov (.t 121)), 11, [], [], [], []⟩])
   (.seq
    (.seq
     (.rgn 9 [
      ⟨(some 122), none, (.mov (.t 20)), 0, [], [], [], []⟩,
      ⟨(some 123), none, (.bin .eql (.t 122) (.c (.int .i64 0))), 1, [], [], [], []⟩,
      ⟨(some 124), none, (.mov (.t 2)), 2, [], [], [], []⟩,
      ⟨(some 125), none, (.bin .and (.t 124) (.c (.int .i64 7))), 3, [], [], [], []⟩,
      ⟨(some 126), none, (.bin .add (.t 125) (.c (.int .i64 1))), 4, [], [], [], []⟩,
      ⟨(some 127), none, (.mov (.t 1)), 5, [], [], [], []⟩,
      ⟨(some 128), none, (.min [(.t 127), (.c (.int .i64 8))]), 6, [], [], [], []⟩,
      ⟨(some 129), none, (.bin .leq (.t 126) (.t 128)), 7, [], [], [], []⟩,
      ⟨(some 130), none, (.bib true (.t 123) (.t 129)), 8, [], [], [], []⟩])
    (.cond (.t 130)
      (.seq
       (.rgn 1 [
        ⟨(some 6), none, (.mov (.c (.bool false))), 0, [], [], [], []⟩])
      .ret)
      .skip))
   (.seq
    (.rgn 10 [
     ⟨(some 132), none, (.fld (.t 8) 0 3 true), 0, [], [], [], []⟩,
     ⟨(some 133), none, (.build [(.int .i64 0), (.int .i64 0), (.int .i64 0), (.int .i64 0), (.int .u64 0), (.int .i64 0), (.int .i64 0), (.int .i64 0)] [(0, (1, (.c (.int .i64 5)))), (1, (1, (.c (.int .i64 5))))]), 1, [], [], [], []⟩,
     ⟨(some 134), none, (.callS 11 [(.t 132), (.t 133)] true), 2, [], [], [], []⟩,
     ⟨(some 131), none, (.mov (.t 134)), 3, [], [], [], []⟩,
     ⟨(some 135), none, (.ext (.t 131) 0), 4, [], [], [], []⟩,
     ⟨(some 136), none, (.ext (.t 131) 1), 5, [], [], [], []⟩,
     ⟨(some 21), none, (.mov (.c (.agg [(.isl (some true) true []), (.isl (some true) true []), (.int .i64 0)]))), 6, [], [], [], []⟩,
     ⟨(some 22), none, (.mov (.c (.agg [(.int .i64 0), (.int .i64 0), (.isl (some true) true [])]))), 7, [], [], [], []⟩,
     ⟨(some 209), none, (.fld (.t 21) 0 0 true), 8, [], [], [], []⟩,
     ⟨(some 210), none, (.fld (.t 21) 3 0 true), 8, [], [], [], []⟩,
     ⟨(some 21), none, (.build [.undef, .undef, .undef] [(0, 0, (.t 209)), (0, 3, (.t 135)), (3, 0, (.t 210))]), 8, [], [], [], []⟩,
     ⟨(some 209), none, (.fld (.t 22) 0 0 true), 9, [], [], [], []⟩,
     ⟨(some 210), none, (.fld (.t 22) 3 0 true), 9, [], [], [], []⟩,
     ⟨(some 22), none, (.build [.undef, .undef, .undef] [(0, 0, (.t 209)), (0, 3, (.t 136)), (3, 0, (.t 210))]), 9, [], [], [], []⟩])
   (.seq
    (.seq
     (.rgn 26 [
      ⟨(some 137), none, (.mov (.t 1)), 0, [], [], [], []⟩,
      ⟨(some 138), none, (.bin .leq (.t 137) (.c (.int .i64 8))), 1, [], [], [], []⟩,
      ⟨(some 139), none, (.mov (.t 138)), 2, [], [], [], []⟩,
      ⟨(some 140), (some (139, true)), (.mov (.t 1)), 3, [], [], [], []⟩,
      ⟨(some 141), (some (139, true)), (.bin .lss (.t 140) (.c (.int .i64 8))), 4, [], [], [], []⟩,
      ⟨(some 142), none, (.pick (.t 139) (.t 141) (.c (.bool false))), 5, [], [], [], []⟩,
      ⟨(some 143), none, (.mov (.t 142)), 6, [], [], [], []⟩,
      ⟨(some 144), (some (143, true)), (.fld (.t 22) 0 0 true), 7, [], [], [], []⟩,
      ⟨(some 145), (some (143, true)), (.fld (.t 22) 1 1 false), 8, [], [], [], []⟩,
      ⟨(some 146), (some (143, true)), (.mov (.t 1)), 9, [], [], [], []⟩,
      ⟨(some 147), (some (143, true)), (.bin .add (.t 146) (.c (.int .i64 1))), 10, [], [], [], []⟩,
      ⟨(some 148), (some (143, true)), (.bin .neq (.t 145) (.t 147)), 11, [], [], [], []⟩,
      ⟨(some 149), none, (.pick (.t 143) (.t 148) (.c (.bool false))), 12, [], [], [], []⟩,
      ⟨(some 150), none, (.mov (.t 149)), 13, [], [], [], []⟩,
      ⟨(some 151), (some (150, false)), (.mov (.t 1)), 14, [], [], [], []⟩,
      ⟨(some 152), (some (150, false)), (.bin .geq (.t 151) (.c (.int .i64 8))), 15, [], [], [], []⟩,
      ⟨(some 153), (some (150, false)), (.mov (.t 152)), 16, [], [], [], []⟩,
      ⟨(some 154), (some (153, true)), (.mov (.t 20)), 17, [], [], [], []⟩,
      ⟨(some 155), (some (153, true)), (.bin .eql (.t 154) (.c (.int .i64 0))), 18, [], [], [], []⟩,
      ⟨(some 156), (some (150, false)), (.pick (.t 153) (.t 155) (.c (.bool false))), 19, [], [], [], []⟩,
      ⟨(some 157), (some (150, false)), (.mov (.t 156)), 20, [], [], [], []⟩,
      ⟨(some 158), (some (157, true)), (.fld (.t 22) 0 0 true), 21, [], [], [], []⟩,
      ⟨(some 159), (some (157, true)), (.fld (.t 22) 1 1 false), 22, [], [], [], []⟩,
      ⟨(some 160), (some (157, true)), (.bin .neq (.t 159) (.c (.int .i64 9))), 23, [], [], [], []⟩,
      ⟨(some 161), (some (150, false)), (.pick (.t 157) (.t 160) (.c (.bool false))), 24, [], [], [], []⟩,
      ⟨(some 162), none, (.pick (.t 150) (.c (.bool true)) (.t 161)), 25, [], [], [], []⟩])
    (.cond (.t 162)
      (.seq
       (.rgn 1 [
        ⟨(some 6), none, (.mov (.c (.bool false))), 0, [], [], [], []⟩])
      .ret)
      .skip))
   (.seq
    (.rgn 9 [
     ⟨(some 164), none, (.mov (.t 7)), 0, [], [], [], []⟩,
     ⟨(some 165), none, (.fld (.t 21) 0 3 true), 1, [], [], [], []⟩,
     ⟨(some 166), none, (.build [(.int .i64 0), (.int .i64 0), (.int .i64 0), (.int .i64 0), (.int .u64 0), (.int .i64 0), (.int .i64 0), (.int .i64 0)] [(0, (1, (.c (.int .i64 4)))), (1, (1, (.c (.int .i64 5))))]), 2, [], [], [], []⟩,
     ⟨(some 167), none, (.callV (.t 164) [(.t 165), (.t 166)] true), 3, [], [], [], []⟩,
     ⟨(some 163), none, (.mov (.t 167)), 4, [], [], [], []⟩,
     ⟨(some 168), none, (.ext (.t 163) 0), 5, [], [], [], []⟩,
     ⟨(some 169), none, (.ext (.t 163) 1), 6, [], [], [], []⟩,
     ⟨(some 209), none, (.fld (.t 21) 0 0 true), 7, [], [], [], []⟩,
     ⟨(some 210), none, (.fld (.t 21) 3 0 true), 7, [], [], [], []⟩,
     ⟨(some 21), none, (.build [.undef, .undef, .undef] [(0, 0, (.t 209)), (0, 3, (.t 168)), (3, 0, (.t 210))]), 7, [], [], [], []⟩,
     ⟨(some 23), none, (.mov (.t 169)), 8, [], [], [], []⟩])
   (.seq
    (.rgn 9 [
     ⟨(some 171), none, (.mov (.t 7)), 0, [], [], [], []⟩,
     ⟨(some 172), none, (.fld (.t 21) 0 3 true), 1, [], [], [], []⟩,
     ⟨(some 173), none, (.build [(.int .i64 0), (.int .i64 0), (.int .i64 0), (.int .i64 0), (.int .u64 0), (.int .i64 0), (.int .i64 0), (.int .i64 0)] [(0, (1, (.c (.int .i64 1)))), (1, (1, (.c (.int .i64 5)))), (3, (1, (.c (.int .i64 (-9223372036854775808)))))]), 2, [], [], [], []⟩,
     ⟨(some 174), none, (.callV (.t 171) [(.t 172), (.t 173)] true), 3, [], [], [], []⟩,
     ⟨(some 170), none, (.mov (.t 174)), 4, [], [], [], []⟩,
     ⟨(some 175), none, (.ext (.t 170) 0), 5, [], [], [], []⟩,
     ⟨(some 176), none, (.ext (.t 170) 1), 6, [], [], [], []⟩,
     ⟨(some 209), none, (.fld (.t 21) 0 0 true), 7, [], [], [], []⟩,
     ⟨(some 210), none, (.fld (.t 21) 3 0 true), 7, [], [], [], []⟩,
     ⟨(some 21), none, (.build [.undef, .undef, .undef] [(0, 0, (.t 209)), (0, 3, (.t 175)), (3, 0, (.t 210))]), 7, [], [], [], []⟩,
     ⟨(some 24), none, (.mov (.t 176)), 8, [], [], [], []⟩])
   (.seq
    (.rgn 33 [
     ⟨(some 177), none, (.mov (.t 23)), 0, [], [], [], []⟩,
     ⟨(some 178), none, (.bin .eql (.t 177) (.c (.int .i64 0))), 1, [], [], [], []⟩,
     ⟨(some 179), none, (.mov (.t 178)), 2, [], [], [], []⟩,
     ⟨(some 180), (some (179, true)), (.mov (.t 24)), 3, [], [], [], []⟩,
     ⟨(some 181), (some (179, true)), (.bin .eql (.t 180) (.c (.int .i64 0))), 4, [], [], [], []⟩,
     ⟨(some 182), none, (.pick (.t 179) (.t 181) (.c (.bool false))), 5, [], [], [], []⟩,
     ⟨(some 183), none, (.mov (.t 182)), 6, [], [], [], []⟩,
     ⟨(some 184), (some (183, true)), (.fld (.t 21) 0 0 true), 7, [], [], [], []⟩,
     ⟨(some 185), (some (183, true)), (.fld (.t 21) 0 1 false), 8, [], [], [], []⟩,
     ⟨(some 186), (some (183, true)), (.len (.t 185)), 9, [], [], [], []⟩,
     ⟨(some 187), (some (183, true)), (.bin .eql (.t 186) (.c (.int .i64 1))), 10, [], [], [], []⟩,
     ⟨(some 188), none, (.pick (.t 183) (.t 187) (.c (.bool false))), 11, [], [], [], []⟩,
     ⟨(some 189), none, (.mov (.t 188)), 12, [], [], [], []⟩,
     ⟨(some 190), (some (189, true)), (.fld (.t 21) 0 0 true), 13, [], [], [], []⟩,
     ⟨(some 191), (some (189, true)), (.fld (.t 21) 0 1 false), 14, [], [], [], []⟩,
     ⟨(some 192), (some (189, true)), (.ia 5 (.t 191) (.c (.int .i64 0))), 15, [], [], [], []⟩,
     ⟨(some 193), (some (189, true)), (.fa (.t 192) 4), 16, [], [], [], []⟩,
     ⟨(some 194), (some (189, true)), (.ld (.t 193) 1 false), 17, [], [], [], []⟩,
     ⟨(some 195), (some (189, true)), (.len (.t 194)), 18, [], [], [], []⟩,
     ⟨(some 196), (some (189, true)), (.bin .eql (.t 195) (.c (.int .i64 1))), 19, [], [], [], []⟩,
     ⟨(some 197), none, (.pick (.t 189) (.t 196) (.c (.bool false))), 20, [], [], [], []⟩,
     ⟨(some 198), none, (.mov (.t 197)), 21, [], [], [], []⟩,
     ⟨(some 199), (some (198, true)), (.fld (.t 21) 0 0 true), 22, [], [], [], []⟩,
     ⟨(some 200), (some (198, true)), (.fld (.t 21) 0 1 false), 23, [], [], [], []⟩,
     ⟨(some 201), (some (198, true)), (.ia 5 (.t 200) (.c (.int .i64 0))), 24, [], [], [], []⟩,
     ⟨(some 202), (some (198, true)), (.fa (.t 201) 1), 25, [], [], [], []⟩,
     ⟨(some 203), (some (198, true)), (.ld (.t 202) 1 false), 26, [], [], [], []⟩,
     ⟨(some 204), (some (198, true)), (.un .not (.t 203)), 27, [], [], [], []⟩,
     ⟨(some 205), none, (.pick (.t 198) (.t 204) (.c (.bool false))), 28, [], [], [], []⟩,
     ⟨(some 206), none, (.mov (.t 205)), 29, [], [], [], []⟩,
     ⟨(some 207), (some (206, true)), (.callS 12 [] true), 30, [], [], [], []⟩,
     ⟨(some 208), none, (.pick (.t 206) (.t 207) (.c (.bool false))), 31, [], [], [], []⟩,
     ⟨(some 6), none, (.mov (.t 208)), 32, [], [], [], []⟩])
   .ret)))))))))))))))))
  .ret)
def q3 : List ARes := [(.tmp 6)]
def v3 : UB := ⟨209, [(8, 3), (11, 3), (13, 3), (15, 3), (16, 3), (18, 3), (21, 3), (22, 3)], [77, 144, 158, 184, 190, 199]⟩
theorem kb3 : ubCode v3 (chkOps v3 r3) (.seq a3 .ret) = some b3 := by kernel_rfl
theorem kq3 : ubRes v3 r3 = some q3 := by kernel_rfl
theorem u3 {vs : List AV} {h : Hp} {n : Nat} {K : AV → Hp → Nat → Prop} (hl : vs.length ≤ 8) (hw : (∀ id, h id ≠ none → id < n) → wpA Try.prog b3 (retA q3 K) ⟨argS vs, h, n⟩) : CallsA Try.prog 3 vs h n K :=
  ub_use kb3 kq3 (m := 8) (by kernel_rfl) hl hw fun hw => e3 (by omega) hw
def b4 : ACode :=
  (.seq
   (.seq
    (.rgn 1 [
     ⟨(some 4), none, (.mov (.c (.bool false))), 0, [], [], [], []⟩])
   (.seq
    (.rgn 2 [
     ⟨(some 5), none, (.mov (.c (.agg [(.isl (some true) true []), (.isl (some true) true []), (.int .i64 0)]))), 0, [], [], [], []⟩,
     ⟨(some 6), none, (.mov (.c (.agg [(.isl (some true) true []), (.isl (some true) true []), (.int .i64 0)]))), 1, [], [], [], []⟩])
   (.seq
    (.seq
     (.rgn 1 [
      ⟨(some 7), none, (.mov (.c (.int .i64 0))), 0, [], [], [], []⟩])
    (.block 0
     (.loop
      (.seq
       (.seq
        (.rgn 8 [
         ⟨(some 15), none, (.mov (.t 7)), 0, [], [], [], []⟩,
         ⟨(some 16), none, (.mov (.t 0)), 1, [], [], [], []⟩,
         ⟨(some 17), none, (.len (.t 16)), 2, [], [], [], []⟩,
         ⟨(some 18), none, (.bin .lss (.t 15) (.t 17)), 3, [], [], [], []⟩,
         ⟨(some 19), none, (.mov (.t 18)), 4, [], [], [], []⟩,
         ⟨(some 20), (some (19, true)), (.mov (.t 7)), 5, [], [], [], []⟩,
         ⟨(some 21), (some (19, true)), (.bin .lss (.t 20) (.c (.int .i64 50))), 6, [], [], [], []⟩,
         ⟨(some 22), none, (.pick (.t 19) (.t 21) (.c (.bool false))), 7, [], [], [], []⟩])
       (.cond (.t 22)
         .skip
         (.exit 0)))
      (.seq
       (.block 1
        (.seq
         (.rgn 12 [
          ⟨(some 26), none, (.fld (.t 5) 0 3 true), 0, [], [], [], []⟩,
          ⟨(some 27), none, (.mov (.t 0)), 1, [], [], [], []⟩,
          ⟨(some 28), none, (.mov (.t 7)), 2, [], [], [], []⟩,
          ⟨(some 29), none, (.ia 1 (.t 27) (.t 28)), 3, [], [], [], []⟩,
          ⟨(some 30), none, (.ld (.t 29) 1 false), 4, [], [], [], []⟩,
          ⟨(some 31), none, (.mov (.t 7)), 5, [], [], [], []⟩,
          ⟨(some 32), none, (.callS 13 [(.t 30), (.t 31)] true), 6, [], [], [], []⟩,
          ⟨(some 33), none, (.callS 11 [(.t 26), (.t 32)] true), 7, [], [], [], []⟩,
          ⟨(some 25), none, (.mov (.t 33)), 8, [], [], [], []⟩,
          ⟨(some 34), none, (.ext (.t 25) 0), 9, [], [], [], []⟩,
          ⟨(some 35), none, (.ext (.t 25) 1), 10, [], [], [], []⟩,
          ⟨(some 143), none, (.fld (.t 5) 0 0 true), 11, [], [], [], []⟩,
          ⟨(some 144), none, (.fld (.t 5) 3 0 true), 11, [], [], [], []⟩,
          ⟨(some 5), none, (.build [.undef, .undef, .undef] [(0, 0, (.t 143)), (0, 3, (.t 34)), (3, 0, (.t 144))]), 11, [], [], [], []⟩])
        (.rgn 12 [
         ⟨(some 37), none, (.fld (.t 6) 0 3 true), 0, [], [], [], []⟩,
         ⟨(some 38), none, (.mov (.t 0)), 1, [], [], [], []⟩,
         ⟨(some 39), none, (.mov (.t 7)), 2, [], [], [], []⟩,
         ⟨(some 40), none, (.ia 1 (.t 38) (.t 39)), 3, [], [], [], []⟩,
         ⟨(some 41), none, (.ld (.t 40) 1 false), 4, [], [], [], []⟩,
         ⟨(some 42), none, (.mov (.t 7)), 5, [], [], [], []⟩,
         ⟨(some 43), none, (.callS 13 [(.t 41), (.t 42)] true), 6, [], [], [], []⟩,
         ⟨(some 44), none, (.callS 14 [(.t 37), (.t 43)] true), 7, [], [], [], []⟩,
         ⟨(some 36), none, (.mov (.t 44)), 8, [], [], [], []⟩,
         ⟨(some 45), none, (.ext (.t 36) 0), 9, [], [], [], []⟩,
         ⟨(some 46), none, (.ext (.t 36) 1), 10, [], [], [], []⟩,
         ⟨(some 143), none, (.fld (.t 6) 0 0 true), 11, [], [], [], []⟩,
         ⟨(some 144), none, (.fld (.t 6) 3 0 true), 11, [], [], [], []⟩,
         ⟨(some 6), none, (.build [.undef, .undef, .undef] [(0, 0, (.t 143)), (0, 3, (.t 45)), (3, 0, (.t 144))]), 11, [], [], [], []⟩])))
      (.rgn 3 [
       ⟨(some 23), none, (.mov (.t 7)), 0, [], [], [], []⟩,
       ⟨(some 24), none, (.bin .add (.t 23) (.c (.int .i64 1))), 1, [], [], [], []⟩,
       ⟨(some 7), none, (.mov (.t 24)), 2, [], [], [], []⟩]))))))
   (.seq
    (.rgn 11 [
     ⟨(some 48), none, (.fld (.t 5) 0 3 true), 0, [], [], [], []⟩,
     ⟨(some 49), none, (.mov (.t 1)), 1, [], [], [], []⟩,
     ⟨(some 8), none, (.mov (.c (.agg [(.isl (some true) true []), (.isl (some true) true []), (.int .i64 0)]))), 7, [], [], [], []⟩,
     ⟨(some 9), none, (.mov (.c (.agg [(.int .i64 0), (.int .i64 0), (.isl (some true) true [])]))), 8, [], [], [], []⟩,
     ⟨(some 50), none, (.callS 13 [(.t 49), (.c (.int .i64 50))] true), 2, [7, 8], [], [], []⟩,
     ⟨(some 51), none, (.callS 11 [(.t 48), (.t 50)] true), 3, [7, 8], [], [], []⟩,
     ⟨(some 47), none, (.mov (.t 51)), 4, [], [], [], []⟩,
     ⟨(some 52), none, (.ext (.t 47) 0), 5, [], [], [], []⟩,
     ⟨(some 53), none, (.ext (.t 47) 1), 6, [], [], [], []⟩,
     ⟨(some 143), none, (.fld (.t 8) 0 0 true), 9, [], [], [], []⟩,
     ⟨(some 144), none, (.fld (.t 8) 3 0 true), 9, [], [], [], []⟩,
     ⟨(some 8), none, (.build [.undef, .undef, .undef] [(0, 0, (.t 143)), (0, 3, (.t 52)), (3, 0, (.t 144))]), 9, [], [], [], []⟩,
     ⟨(some 143), none, (.fld (.t 9) 0 0 true), 10, [], [], [], []⟩,
     ⟨(some 144), none, (.fld (.t 9) 3 0 true), 10, [], [], [], []⟩,
     ⟨(some 9), none, (.build [.undef, .undef, .undef] [(0, 0, (.t 143)), (0, 3, (.t 53)), (3, 0, (.t 144))]), 10, [], [], [], []⟩])
   (.seq
    (.seq
     (.rgn 4 [
      ⟨(some 54), none, (.fld (.t 8) 0 0 true), 0, [], [], [], []⟩,
      ⟨(some 55), none, (.fld (.t 8) 0 1 false), 1, [], [], [], []⟩,
      ⟨(some 56), none, (.len (.t 55)), 2, [], [], [], []⟩,
      ⟨(some 57), none, (.mov (.c (.int .i64 0))), 3, [], [], [], []⟩])
    (.block 2
     (.loop
      (.seq
       (.rgn 1 [
        ⟨(some 58), none, (.bin .lss (.t 57) (.t 56)), 0, [], [], [], []⟩])
      (.seq
       (.cond (.t 58)
         .skip
         (.exit 2))
      (.seq
       (.block 3
        (.seq
         (.rgn 2 [
          ⟨(some 59), none, (.mov (.t 57)), 0, [], [], [], []⟩,
          ⟨(some 10), none, (.mov (.t 59)), 1, [], [], [], []⟩])
        (.seq
         (.rgn 6 [
          ⟨(some 60), none, (.fld (.t 8) 0 0 true), 0, [], [], [], []⟩,
          ⟨(some 61), none, (.fld (.t 8) 0 1 false), 1, [], [], [], []⟩,
          ⟨(some 62), none, (.mov (.t 10)), 2, [], [], [], []⟩,
          ⟨(some 63), none, (.ia 5 (.t 61) (.t 62)), 3, [], [], [], []⟩,
          ⟨(some 64), none, (.fa (.t 63) 3), 4, [], [], [], []⟩,
          ⟨none, none, (.st (.t 64) 1 (.c (.int .i64 777))), 5, [], [], [], []⟩])
        (.seq
         (.rgn 8 [
          ⟨(some 65), none, (.fld (.t 8) 0 0 true), 0, [], [], [], []⟩,
          ⟨(some 66), none, (.fld (.t 8) 0 1 false), 1, [], [], [], []⟩,
          ⟨(some 67), none, (.mov (.t 10)), 2, [], [], [], []⟩,
          ⟨(some 68), none, (.ia 5 (.t 66) (.t 67)), 3, [], [], [], []⟩,
          ⟨(some 69), none, (.fa (.t 68) 4), 4, [], [], [], []⟩,
          ⟨(some 70), none, (.ld (.t 69) 1 false), 5, [], [], [], []⟩,
          ⟨(some 71), none, (.len (.t 70)), 6, [], [], [], []⟩,
          ⟨(some 72), none, (.mov (.c (.int .i64 0))), 7, [], [], [], []⟩])
        (.block 4
         (.loop
          (.seq
           (.rgn 1 [
            ⟨(some 73), none, (.bin .lss (.t 72) (.t 71)), 0, [], [], [], []⟩])
          (.seq
           (.cond (.t 73)
             .skip
             (.exit 4))
          (.seq
           (.block 5
            (.seq
             (.rgn 2 [
              ⟨(some 74), none, (.mov (.t 72)), 0, [], [], [], []⟩,
              ⟨(some 11), none, (.mov (.t 74)), 1, [], [], [], []⟩])
            (.rgn 14 [
             ⟨(some 75), none, (.fld (.t 8) 0 0 true), 0, [], [], [], []⟩,
             ⟨(some 76), none, (.fld (.t 8) 0 1 false), 1, [], [], [], []⟩,
             ⟨(some 77), none, (.mov (.t 10)), 2, [], [], [], []⟩,
             ⟨(some 78), none, (.ia 5 (.t 76) (.t 77)), 3, [], [], [], []⟩,
             ⟨(some 79), none, (.fa (.t 78) 4), 4, [], [], [], []⟩,
             ⟨(some 80), none, (.ld (.t 79) 1 false), 5, [], [], [], []⟩,
             ⟨(some 81), none, (.mov (.t 11)), 6, [], [], [], []⟩,
             ⟨(some 82), none, (.ia 2 (.t 80) (.t 81)), 7, [], [], [], []⟩,
             ⟨(some 83), none, (.fa (.t 82) 1), 8, [], [], [], []⟩,
             ⟨(some 84), none, (.ld (.t 83) 1 false), 9, [], [], [], []⟩,
             ⟨(some 85), none, (.bin .add (.t 84) (.c (.int .u64 1))), 10, [], [], [], []⟩,
             ⟨(some 86), none, (.ia 2 (.t 80) (.t 81)), 11, [], [], [], []⟩,
             ⟨(some 87), none, (.fa (.t 86) 1), 12, [], [], [], []⟩,
             ⟨none, none, (.st (.t 87) 1 (.t 85)), 13, [], [], [], []⟩])))
          (.rgn 2 [
           ⟨(some 88), none, (.bin .add (.t 72) (.c (.int .i64 1))), 0, [], [], [], []⟩,
           ⟨(some 72), none, (.mov (.t 88)), 1, [], [], [], []⟩]))))))))))
      (.rgn 2 [
       ⟨(some 89), none, (.bin .add (.t 57) (.c (.int .i64 1))), 0, [], [], [], []⟩,
       ⟨(some 57), none, (.mov (.t 89)), 1, [], [], [], []⟩])))))))
   (.seq
    (.seq
     (.rgn 4 [
      ⟨(some 90), none, (.fld (.t 8) 0 0 true), 0, [], [], [], []⟩,
      ⟨(some 91), none, (.fld (.t 8) 1 1 false), 1, [], [], [], []⟩,
      ⟨(some 92), none, (.len (.t 91)), 2, [], [], [], []⟩,
      ⟨(some 93), none, (.mov (.c (.int .i64 0))), 3, [], [], [], []⟩])
    (.block 6
     (.loop
      (.seq
       (.rgn 1 [
        ⟨(some 94), none, (.bin .lss (.t 93) (.t 92)), 0, [], [], [], []⟩])
      (.seq
       (.cond (.t 94)
         .skip
         (.exit 6))
      (.seq
       (.block 7
        (.seq
         (.rgn 2 [
          ⟨(some 95), none, (.mov (.t 93)), 0, [], [], [], []⟩,
          ⟨(some 12), none, (.mov (.t 95)), 1, [], [], [], []⟩])
        (.seq
         (.rgn 8 [
          ⟨(some 96), none, (.fld (.t 8) 0 0 true), 0, [], [], [], []⟩,
          ⟨(some 97), none, (.fld (.t 8) 1 1 false), 1, [], [], [], []⟩,
          ⟨(some 98), none, (.mov (.t 12)), 2, [], [], [], []⟩,
          ⟨(some 99), none, (.ia 2 (.t 97) (.t 98)), 3, [], [], [], []⟩,
          ⟨(some 100), none, (.fa (.t 99) 1), 4, [], [], [], []⟩,
          ⟨(some 101), none, (.ld (.t 100) 1 false), 5, [], [], [], []⟩,
          ⟨(some 102), none, (.len (.t 101)), 6, [], [], [], []⟩,
          ⟨(some 103), none, (.mov (.c (.int .i64 0))), 7, [], [], [], []⟩])
        (.block 8
         (.loop
          (.seq
           (.rgn 1 [
            ⟨(some 104), none, (.bin .lss (.t 103) (.t 102)), 0, [], [], [], []⟩])
          (.seq
           (.cond (.t 104)
             .skip
             (.exit 8))
          (.seq
           (.block 9
            (.seq
             (.rgn 2 [
              ⟨(some 105), none, (.mov (.t 103)), 0, [], [], [], []⟩,
              ⟨(some 13), none, (.mov (.t 105)), 1, [], [], [], []⟩])
            (.rgn 14 [
             ⟨(some 106), none, (.fld (.t 8) 0 0 true), 0, [], [], [], []⟩,
             ⟨(some 107), none, (.fld (.t 8) 1 1 false), 1, [], [], [], []⟩,
             ⟨(some 108), none, (.mov (.t 12)), 2, [], [], [], []⟩,
             ⟨(some 109), none, (.ia 2 (.t 107) (.t 108)), 3, [], [], [], []⟩,
             ⟨(some 110), none, (.fa (.t 109) 1), 4, [], [], [], []⟩,
             ⟨(some 111), none, (.ld (.t 110) 1 false), 5, [], [], [], []⟩,
             ⟨(some 112), none, (.mov (.t 13)), 6, [], [], [], []⟩,
             ⟨(some 113), none, (.ia 2 (.t 111) (.t 112)), 7, [], [], [], []⟩,
             ⟨(some 114), none, (.fa (.t 113) 1), 8, [], [], [], []⟩,
             ⟨(some 115), none, (.ld (.t 114) 1 false), 9, [], [], [], []⟩,
             ⟨(some 116), none, (.bin .add (.t 115) (.c (.int .u64 1))), 10, [], [], [], []⟩,
             ⟨(some 117), none, (.ia 2 (.t 111) (.t 112)), 11, [], [], [], []⟩,
             ⟨(some 118), none, (.fa (.t 117) 1), 12, [], [], [], []⟩,
             ⟨none, none, (.st (.t 118) 1 (.t 116)), 13, [], [], [], []⟩])))
          (.rgn 2 [
           ⟨(some 119), none, (.bin .add (.t 103) (.c (.int .i64 1))), 0, [], [], [], []⟩,
           ⟨(some 103), none, (.mov (.t 119)), 1, [], [], [], []⟩])))))))))
      (.rgn 2 [
       ⟨(some 120), none, (.bin .add (.t 93) (.c (.int .i64 1))), 0, [], [], [], []⟩,
       ⟨(some 93), none, (.mov (.t 120)), 1, [], [], [], []⟩])))))))
   (.seq
    (.seq
     (.rgn 4 [
      ⟨(some 121), none, (.fld (.t 9) 0 0 true), 0, [], [], [], []⟩,
      ⟨(some 122), none, (.fld (.t 9) 2 1 false), 1, [], [], [], []⟩,
      ⟨(some 123), none, (.len (.t 122)), 2, [], [], [], []⟩,
      ⟨(some 124), none, (.mov (.c (.int .i64 0))), 3, [], [], [], []⟩])
    (.block 10
     (.loop
      (.seq
       (.rgn 1 [
        ⟨(some 125), none, (.bin .lss (.t 124) (.t 123)), 0, [], [], [], []⟩])
      (.seq
       (.cond (.t 125)
         .skip
         (.exit 10))
      (.seq
       (.block 11
        (.seq
         (.rgn 2 [
          ⟨(some 126), none, (.mov (.t 124)), 0, [], [], [], []⟩,
          ⟨(some 14), none, (.mov (.t 126)), 1, [], [], [], []⟩])
        (.rgn 10 [
         ⟨(some 127), none, (.fld (.t 9) 0 0 true), 0, [], [], [], []⟩,
         ⟨(some 128), none, (.fld (.t 9) 2 1 false), 1, [], [], [], []⟩,
         ⟨(some 129), none, (.mov (.t 14)), 2, [], [], [], []⟩,
         ⟨(some 130), none, (.ia 2 (.t 128) (.t 129)), 3, [], [], [], []⟩,
         ⟨(some 131), none, (.fa (.t 130) 0), 4, [], [], [], []⟩,
         ⟨(some 132), none, (.ld (.t 131) 1 false), 5, [], [], [], []⟩,
         ⟨(some 133), none, (.bin .add (.t 132) (.c (.int .i64 1))), 6, [], [], [], []⟩,
         ⟨(some 134), none, (.ia 2 (.t 128) (.t 129)), 7, [], [], [], []⟩,
         ⟨(some 135), none, (.fa (.t 134) 0), 8, [], [], [], []⟩,
         ⟨none, none, (.st (.t 135) 1 (.t 133)), 9, [], [], [], []⟩])))
      (.rgn 2 [
       ⟨(some 136), none, (.bin .add (.t 124) (.c (.int .i64 1))), 0, [], [], [], []⟩,
       ⟨(some 124), none, (.mov (.t 136)), 1, [], [], [], []⟩])))))))
   (.seq
    (.rgn 7 [
     ⟨(some 137), none, (.fld (.t 5) 0 3 true), 0, [], [], [], []⟩,
     ⟨(some 138), none, (.fld (.t 6) 0 3 true), 1, [], [], [], []⟩,
     ⟨(some 139), none, (.callS 15 [(.t 137), (.t 138)] true), 2, [], [], [], []⟩,
     ⟨(some 140), none, (.mov (.t 139)), 3, [], [], [], []⟩,
     ⟨(some 141), (some (140, true)), (.callS 12 [] true), 4, [], [], [], []⟩,
     ⟨(some 142), none, (.pick (.t 140) (.t 141) (.c (.bool false))), 5, [], [], [], []⟩,
     ⟨(some 4), none, (.mov (.t 142)), 6, [], [], [], []⟩])
   .ret))))))))
  .ret)
def q4 : List ARes := [(.tmp 4)]
def v4 : UB := ⟨143, [(5, 3), (6, 3), (8, 3), (9, 3)], [54, 60, 65, 75, 90, 96, 106, 121, 127]⟩
theorem kb4 : ubCode v4 (chkOps v4 r4) (.seq a4 .ret) = some b4 := by kernel_rfl
theorem kq4 : ubRes v4 r4 = some q4 := by kernel_rfl
theorem u4 {vs : List AV} {h : Hp} {n : Nat} {K : AV → Hp → Nat → Prop} (hl : vs.length ≤ 5) (hw : (∀ id, h id ≠ none → id < n) → wpA Try.prog b4 (retA q4 K) ⟨argS vs, h, n⟩) : CallsA Try.prog 4 vs h n K :=
  ub_use kb4 kq4 (m := 5) (by kernel_rfl) hl hw fun hw => e4 (by omega) hw
def b5 : ACode :=
  (.seq
   (.seq
    (.rgn 1 [
     ⟨(some 4), none, (.mov (.c (.bool false))), 0, [], [], [], []⟩])
   (.seq
    (.rgn 2 [
     ⟨(some 5), none, (.mov (.c (.agg [(.isl (some true) true []), (.isl (some true) true []), (.int .i64 0)]))), 0, [], [], [], []⟩,
     ⟨(some 6), none, (.mov (.c (.agg [(.isl (some true) true []), (.isl (some true) true []), (.int .i64 0)]))), 1, [], [], [], []⟩])
   (.seq
    (.seq
     (.rgn 1 [
      ⟨(some 7), none, (.mov (.c (.int .i64 0))), 0, [], [], [], []⟩])
    (.block 0
     (.loop
      (.seq
       (.seq
        (.rgn 8 [
         ⟨(some 13), none, (.mov (.t 7)), 0, [], [], [], []⟩,
         ⟨(some 14), none, (.mov (.t 0)), 1, [], [], [], []⟩,
         ⟨(some 15), none, (.len (.t 14)), 2, [], [], [], []⟩,
         ⟨(some 16), none, (.bin .lss (.t 13) (.t 15)), 3, [], [], [], []⟩,
         ⟨(some 17), none, (.mov (.t 16)), 4, [], [], [], []⟩,
         ⟨(some 18), (some (17, true)), (.mov (.t 7)), 5, [], [], [], []⟩,
         ⟨(some 19), (some (17, true)), (.bin .lss (.t 18) (.c (.int .i64 120))), 6, [], [], [], []⟩,
         ⟨(some 20), none, (.pick (.t 17) (.t 19) (.c (.bool false))), 7, [], [], [], []⟩])
       (.cond (.t 20)
         .skip
         (.exit 0)))
      (.seq
       (.block 1
        (.seq
         (.rgn 8 [
          ⟨(some 23), none, (.mov (.t 0)), 0, [], [], [], []⟩,
          ⟨(some 24), none, (.mov (.t 7)), 1, [], [], [], []⟩,
          ⟨(some 25), none, (.ia 1 (.t 23) (.t 24)), 2, [], [], [], []⟩,
          ⟨(some 26), none, (.ld (.t 25) 1 false), 3, [], [], [], []⟩,
          ⟨(some 27), none, (.mov (.t 7)), 4, [], [], [], []⟩,
          ⟨(some 28), none, (.callS 13 [(.t 26), (.t 27)] true), 5, [], [], [], []⟩,
          ⟨(some 8), none, (.mov (.c (.agg [(.int .i64 0), (.int .i64 0), (.int .i64 0), (.int .i64 0), (.int .u64 0), (.int .i64 0), (.int .i64 0), (.int .i64 0)]))), 6, [], [], [], []⟩,
          ⟨(some 89), none, (.fld (.t 8) 0 0 true), 7, [], [], [], []⟩,
          ⟨(some 90), none, (.fld (.t 8) 8 0 true), 7, [], [], [], []⟩,
          ⟨(some 8), none, (.build [.undef, .undef, .undef, .undef, .undef, .undef, .undef, .undef] [(0, 0, (.t 89)), (0, 8, (.t 28)), (8, 0, (.t 90))]), 7, [], [], [], []⟩])
        (.seq
         (.seq
          (.rgn 13 [
           ⟨(some 29), none, (.mov (.t 0)), 0, [], [], [], []⟩,
           ⟨(some 30), none, (.mov (.t 7)), 1, [], [], [], []⟩,
           ⟨(some 31), none, (.ia 1 (.t 29) (.t 30)), 2, [], [], [], []⟩,
           ⟨(some 32), none, (.ld (.t 31) 1 false), 3, [], [], [], []⟩,
           ⟨(some 33), none, (.bin .shr (.t 32) (.c (.int .u64 28))), 4, [], [], [], []⟩,
           ⟨(some 34), none, (.bin .and (.t 33) (.c (.int .i64 3))), 5, [], [], [], []⟩,
           ⟨(some 35), none, (.bin .eql (.t 34) (.c (.int .i64 0))), 6, [], [], [], []⟩,
           ⟨(some 36), none, (.mov (.t 35)), 7, [], [], [], []⟩,
           ⟨(some 37), (some (36, true)), (.mov (.t 7)), 8, [], [], [], []⟩,
           ⟨(some 38), (some (36, true)), (.mov (.t 1)), 9, [], [], [], []⟩,
           ⟨(some 39), (some (36, true)), (.len (.t 38)), 10, [], [], [], []⟩,
           ⟨(some 40), (some (36, true)), (.bin .lss (.t 37) (.t 39)), 11, [], [], [], []⟩,
           ⟨(some 41), none, (.pick (.t 36) (.t 40) (.c (.bool false))), 12, [], [], [], []⟩])
         (.cond (.t 41)
           (.rgn 5 [
            ⟨(some 42), none, (.mov (.t 1)), 0, [], [], [], []⟩,
            ⟨(some 43), none, (.mov (.t 7)), 1, [], [], [], []⟩,
            ⟨(some 44), none, (.ia 8 (.t 42) (.t 43)), 2, [], [], [], []⟩,
            ⟨(some 45), none, (.ld (.t 44) 8 true), 3, [], [], [], []⟩,
            ⟨(some 89), none, (.fld (.t 8) 0 0 true), 4, [], [], [], []⟩,
            ⟨(some 90), none, (.fld (.t 8) 8 0 true), 4, [], [], [], []⟩,
            ⟨(some 8), none, (.build [.undef, .undef, .undef, .undef, .undef, .undef, .undef, .undef] [(0, 0, (.t 89)), (0, 8, (.t 45)), (8, 0, (.t 90))]), 4, [], [], [], []⟩])
           .skip))
        (.seq
         (.rgn 10 [
          ⟨(some 47), none, (.fld (.t 5) 0 3 true), 0, [], [], [], []⟩,
          ⟨(some 48), none, (.fld (.t 8) 0 8 true), 1, [], [], [], []⟩,
          ⟨(some 49), none, (.callS 11 [(.t 47), (.t 48)] true), 2, [], [], [], []⟩,
          ⟨(some 46), none, (.mov (.t 49)), 3, [], [], [], []⟩,
          ⟨(some 50), none, (.ext (.t 46) 0), 4, [], [], [], []⟩,
          ⟨(some 51), none, (.ext (.t 46) 1), 5, [], [], [], []⟩,
          ⟨(some 9), none, (.mov (.c (.agg [(.isl (some true) true []), (.isl (some true) true []), (.int .i64 0)]))), 6, [], [], [], []⟩,
          ⟨(some 10), none, (.mov (.c (.agg [(.int .i64 0), (.int .i64 0), (.isl (some true) true [])]))), 7, [], [], [], []⟩,
          ⟨(some 89), none, (.fld (.t 9) 0 0 true), 8, [], [], [], []⟩,
          ⟨(some 90), none, (.fld (.t 9) 3 0 true), 8, [], [], [], []⟩,
          ⟨(some 9), none, (.build [.undef, .undef, .undef] [(0, 0, (.t 89)), (0, 3, (.t 50)), (3, 0, (.t 90))]), 8, [], [], [], []⟩,
          ⟨(some 89), none, (.fld (.t 10) 0 0 true), 9, [], [], [], []⟩,
          ⟨(some 90), none, (.fld (.t 10) 3 0 true), 9, [], [], [], []⟩,
          ⟨(some 10), none, (.build [.undef, .undef, .undef] [(0, 0, (.t 89)), (0, 3, (.t 51)), (3, 0, (.t 90))]), 9, [], [], [], []⟩])
        (.seq
         (.rgn 10 [
          ⟨(some 53), none, (.fld (.t 6) 0 3 true), 0, [], [], [], []⟩,
          ⟨(some 54), none, (.fld (.t 8) 0 8 true), 1, [], [], [], []⟩,
          ⟨(some 55), none, (.callS 14 [(.t 53), (.t 54)] true), 2, [], [], [], []⟩,
          ⟨(some 52), none, (.mov (.t 55)), 3, [], [], [], []⟩,
          ⟨(some 56), none, (.ext (.t 52) 0), 4, [], [], [], []⟩,
          ⟨(some 57), none, (.ext (.t 52) 1), 5, [], [], [], []⟩,
          ⟨(some 11), none, (.mov (.c (.agg [(.isl (some true) true []), (.isl (some true) true []), (.int .i64 0)]))), 6, [], [], [], []⟩,
          ⟨(some 12), none, (.mov (.c (.agg [(.int .i64 0), (.int .i64 0), (.isl (some true) true [])]))), 7, [], [], [], []⟩,
          ⟨(some 89), none, (.fld (.t 11) 0 0 true), 8, [], [], [], []⟩,
          ⟨(some 90), none, (.fld (.t 11) 3 0 true), 8, [], [], [], []⟩,
          ⟨(some 11), none, (.build [.undef, .undef, .undef] [(0, 0, (.t 89)), (0, 3, (.t 56)), (3, 0, (.t 90))]), 8, [], [], [], []⟩,
          ⟨(some 89), none, (.fld (.t 12) 0 0 true), 9, [], [], [], []⟩,
          ⟨(some 90), none, (.fld (.t 12) 3 0 true), 9, [], [], [], []⟩,
          ⟨(some 12), none, (.build [.undef, .undef, .undef] [(0, 0, (.t 89)), (0, 3, (.t 57)), (3, 0, (.t 90))]), 9, [], [], [], []⟩])
        (.seq
         (.seq
          (.rgn 28 [
           ⟨(some 58), none, (.fld (.t 9) 0 3 true), 0, [], [], [], []⟩,
           ⟨(some 59), none, (.fld (.t 11) 0 3 true), 1, [], [], [], []⟩,
           ⟨(some 60), none, (.callS 15 [(.t 58), (.t 59)] true), 2, [], [], [], []⟩,
           ⟨(some 61), none, (.un .not (.t 60)), 3, [], [], [], []⟩,
           ⟨(some 62), none, (.mov (.t 61)), 4, [], [], [], []⟩,
           ⟨(some 63), (some (62, false)), (.fld (.t 10) 0 3 true), 5, [], [], [], []⟩,
           ⟨(some 64), (some (62, false)), (.fld (.t 12) 0 3 true), 6, [], [], [], []⟩,
           ⟨(some 65), (some (62, false)), (.callS 16 [(.t 63), (.t 64)] true), 7, [], [], [], []⟩,
           ⟨(some 66), (some (62, false)), (.un .not (.t 65)), 8, [], [], [], []⟩,
           ⟨(some 67), none, (.pick (.t 62) (.c (.bool true)) (.t 66)), 9, [], [], [], []⟩,
           ⟨(some 68), none, (.mov (.t 67)), 10, [], [], [], []⟩,
           ⟨(some 69), (some (68, false)), (.fld (.t 5) 0 3 true), 11, [], [], [], []⟩,
           ⟨(some 70), (some (68, false)), (.fld (.t 9) 0 3 true), 12, [], [], [], []⟩,
           ⟨(some 72), (some (68, false)), (.fld (.t 6) 0 3 true), 14, [], [], [], []⟩,
           ⟨(some 73), (some (68, false)), (.fld (.t 11) 0 3 true), 15, [], [], [], []⟩,
           ⟨(some 71), (some (68, false)), (.callS 17 [(.t 69), (.t 70)] true), 13, [], [], [], []⟩,
           ⟨(some 74), (some (68, false)), (.callS 15 [(.t 72), (.t 73)] true), 16, [], [], [], []⟩,
           ⟨(some 75), (some (68, false)), (.bib true (.t 71) (.t 74)), 17, [], [], [], []⟩,
           ⟨(some 76), none, (.pick (.t 68) (.c (.bool true)) (.t 75)), 18, [], [], [], []⟩,
           ⟨(some 77), none, (.mov (.t 76)), 19, [], [], [], []⟩,
           ⟨(some 78), (some (77, false)), (.fld (.t 10) 0 3 true), 20, [], [], [], []⟩,
           ⟨(some 79), (some (77, false)), (.fld (.t 12) 0 3 true), 21, [], [], [], []⟩,
           ⟨(some 81), (some (77, false)), (.fld (.t 10) 0 3 true), 23, [], [], [], []⟩,
           ⟨(some 82), (some (77, false)), (.fld (.t 12) 0 3 true), 24, [], [], [], []⟩,
           ⟨(some 80), (some (77, false)), (.callS 18 [(.t 78), (.t 79)] true), 22, [], [], [], []⟩,
           ⟨(some 83), (some (77, false)), (.callS 16 [(.t 81), (.t 82)] true), 25, [], [], [], []⟩,
           ⟨(some 84), (some (77, false)), (.bib true (.t 80) (.t 83)), 26, [], [], [], []⟩,
           ⟨(some 85), none, (.pick (.t 77) (.c (.bool true)) (.t 84)), 27, [], [], [], []⟩])
         (.cond (.t 85)
           (.seq
            (.rgn 1 [
             ⟨(some 4), none, (.mov (.c (.bool false))), 0, [], [], [], []⟩])
           .ret)
           .skip))
        (.rgn 4 [
         ⟨(some 86), none, (.fld (.t 9) 0 3 true), 0, [], [], [], []⟩,
         ⟨(some 87), none, (.fld (.t 11) 0 3 true), 1, [], [], [], []⟩,
         ⟨(some 89), none, (.fld (.t 5) 0 0 true), 2, [], [], [], []⟩,
         ⟨(some 90), none, (.fld (.t 5) 3 0 true), 2, [], [], [], []⟩,
         ⟨(some 5), none, (.build [.undef, .undef, .undef] [(0, 0, (.t 89)), (0, 3, (.t 86)), (3, 0, (.t 90))]), 2, [], [], [], []⟩,
         ⟨(some 89), none, (.fld (.t 6) 0 0 true), 3, [], [], [], []⟩,
         ⟨(some 90), none, (.fld (.t 6) 3 0 true), 3, [], [], [], []⟩,
         ⟨(some 6), none, (.build [.undef, .undef, .undef] [(0, 0, (.t 89)), (0, 3, (.t 87)), (3, 0, (.t 90))]), 3, [], [], [], []⟩])))))))
      (.rgn 3 [
       ⟨(some 21), none, (.mov (.t 7)), 0, [], [], [], []⟩,
       ⟨(some 22), none, (.bin .add (.t 21) (.c (.int .i64 1))), 1, [], [], [], []⟩,
       ⟨(some 7), none, (.mov (.t 22)), 2, [], [], [], []⟩]))))))
   (.seq
    (.rgn 2 [
     ⟨(some 88), none, (.callS 12 [] true), 0, [], [], [], []⟩,
     ⟨(some 4), none, (.mov (.t 88)), 1, [], [], [], []⟩])
   .ret))))
  .ret)
def q5 : List ARes := [(.tmp 4)]
def v5 : UB := ⟨89, [(5, 3), (6, 3), (8, 8), (9, 3), (10, 3), (11, 3), (12, 3)], []⟩
theorem kb5 : ubCode v5 (chkOps v5 r5) (.seq a5 .ret) = some b5 := by kernel_rfl
theorem kq5 : ubRes v5 r5 = some q5 := by kernel_rfl
theorem u5 {vs : List AV} {h : Hp} {n : Nat} {K : AV → Hp → Nat → Prop} (hl : vs.length ≤ 5) (hw : (∀ id, h id ≠ none → id < n) → wpA Try.prog b5 (retA q5 K) ⟨argS vs, h, n⟩) : CallsA Try.prog 5 vs h n K :=
  ub_use kb5 kq5 (m := 5) (by kernel_rfl) hl hw fun hw => e5 (by omega) hw
def b6 : ACode :=
  (.seq
   (.seq
    (.rgn 1 [
     ⟨(some 10), none, (.mov (.c (.bool false))), 0, [], [], [], []⟩])
   (.seq
    (.rgn 1 [
     ⟨(some 11), none, (.mov (.c (.agg [(.isl (some true) true []), (.isl (some true) true []), (.int .i64 0)]))), 0, [], [], [], []⟩])
   (.seq
    (.seq
     (.rgn 1 [
      ⟨(some 12), none, (.mov (.c (.int .i64 0))), 0, [], [], [], []⟩])
    (.block 0
     (.loop
      (.seq
       (.seq
        (.rgn 8 [
         ⟨(some 24), none, (.mov (.t 12)), 0, [], [], [], []⟩,
         ⟨(some 25), none, (.mov (.t 0)), 1, [], [], [], []⟩,
         ⟨(some 26), none, (.len (.t 25)), 2, [], [], [], []⟩,
         ⟨(some 27), none, (.bin .lss (.t 24) (.t 26)), 3, [], [], [], []⟩,
         ⟨(some 28), none, (.mov (.t 27)), 4, [], [], [], []⟩,
         ⟨(some 29), (some (28, true)), (.mov (.t 12)), 5, [], [], [], []⟩,
         ⟨(some 30), (some (28, true)), (.bin .lss (.t 29) (.c (.int .i64 60))), 6, [], [], [], []⟩,
         ⟨(some 31), none, (.pick (.t 28) (.t 30) (.c (.bool false))), 7, [], [], [], []⟩])
       (.cond (.t 31)
         .skip
         (.exit 0)))
      (.seq
       (.block 1
        (.rgn 12 [
         ⟨(some 35), none, (.fld (.t 11) 0 3 true), 0, [], [], [], []⟩,
         ⟨(some 36), none, (.mov (.t 0)), 1, [], [], [], []⟩,
         ⟨(some 37), none, (.mov (.t 12)), 2, [], [], [], []⟩,
         ⟨(some 38), none, (.ia 1 (.t 36) (.t 37)), 3, [], [], [], []⟩,
         ⟨(some 39), none, (.ld (.t 38) 1 false), 4, [], [], [], []⟩,
         ⟨(some 40), none, (.mov (.t 12)), 5, [], [], [], []⟩,
         ⟨(some 41), none, (.callS 13 [(.t 39), (.t 40)] true), 6, [], [], [], []⟩,
         ⟨(some 42), none, (.callS 11 [(.t 35), (.t 41)] true), 7, [], [], [], []⟩,
         ⟨(some 34), none, (.mov (.t 42)), 8, [], [], [], []⟩,
         ⟨(some 43), none, (.ext (.t 34) 0), 9, [], [], [], []⟩,
         ⟨(some 44), none, (.ext (.t 34) 1), 10, [], [], [], []⟩,
         ⟨(some 152), none, (.fld (.t 11) 0 0 true), 11, [], [], [], []⟩,
         ⟨(some 153), none, (.fld (.t 11) 3 0 true), 11, [], [], [], []⟩,
         ⟨(some 11), none, (.build [.undef, .undef, .undef] [(0, 0, (.t 152)), (0, 3, (.t 43)), (3, 0, (.t 153))]), 11, [], [], [], []⟩]))
      (.rgn 3 [
       ⟨(some 32), none, (.mov (.t 12)), 0, [], [], [], []⟩,
       ⟨(some 33), none, (.bin .add (.t 32) (.c (.int .i64 1))), 1, [], [], [], []⟩,
       ⟨(some 12), none, (.mov (.t 33)), 2, [], [], [], []⟩]))))))
   (.seq
    (.rgn 3 [
     ⟨(some 45), none, (.mov (.t 1)), 0, [], [], [], []⟩,
     ⟨(some 46), none, (.bin .and (.t 45) (.c (.int .i64 3))), 1, [], [], [], []⟩,
     ⟨(some 13), none, (.mov (.t 46)), 2, [], [], [], []⟩])
   (.seq
    (.rgn 7 [
     ⟨(some 47), none, (.mov (.t 1)), 0, [], [], [], []⟩,
     ⟨(some 48), none, (.bin .shr (.t 47) (.c (.int .u64 2))), 1, [], [], [], []⟩,
     ⟨(some 49), none, (.bin .and (.t 48) (.c (.int .i64 63))), 2, [], [], [], []⟩,
     ⟨(some 50), none, (.mov (.t 2)), 3, [], [], [], []⟩,
     ⟨(some 51), none, (.bin .and (.t 50) (.c (.int .i64 127))), 4, [], [], [], []⟩,
     ⟨(some 14), none, (.mov (.t 49)), 5, [], [], [], []⟩,
     ⟨(some 15), none, (.mov (.t 51)), 6, [], [], [], []⟩])
   (.seq
    (.rgn 13 [
     ⟨(some 53), none, (.fld (.t 11) 0 3 true), 0, [], [], [], []⟩,
     ⟨(some 54), none, (.mov (.t 13)), 1, [], [], [], []⟩,
     ⟨(some 55), none, (.mov (.t 14)), 2, [], [], [], []⟩,
     ⟨(some 56), none, (.mov (.t 15)), 3, [], [], [], []⟩,
     ⟨(some 57), none, (.build [(.int .i64 0), (.int .i64 0), (.int .i64 0), (.int .i64 0), (.int .u64 0), (.int .i64 0), (.int .i64 0), (.int .i64 0)] [(0, (1, (.c (.int .i64 2)))), (1, (1, (.t 54))), (5, (1, (.t 55))), (6, (1, (.t 56)))]), 4, [], [], [], []⟩,
     ⟨(some 58), none, (.callS 11 [(.t 53), (.t 57)] true), 5, [], [], [], []⟩,
     ⟨(some 52), none, (.mov (.t 58)), 6, [], [], [], []⟩,
     ⟨(some 59), none, (.ext (.t 52) 0), 7, [], [], [], []⟩,
     ⟨(some 60), none, (.ext (.t 52) 1), 8, [], [], [], []⟩,
     ⟨(some 16), none, (.mov (.c (.agg [(.isl (some true) true []), (.isl (some true) true []), (.int .i64 0)]))), 9, [], [], [], []⟩,
     ⟨(some 17), none, (.mov (.c (.agg [(.int .i64 0), (.int .i64 0), (.isl (some true) true [])]))), 10, [], [], [], []⟩,
     ⟨(some 152), none, (.fld (.t 16) 0 0 true), 11, [], [], [], []⟩,
     ⟨(some 153), none, (.fld (.t 16) 3 0 true), 11, [], [], [], []⟩,
     ⟨(some 16), none, (.build [.undef, .undef, .undef] [(0, 0, (.t 152)), (0, 3, (.t 59)), (3, 0, (.t 153))]), 11, [], [], [], []⟩,
     ⟨(some 152), none, (.fld (.t 17) 0 0 true), 12, [], [], [], []⟩,
     ⟨(some 153), none, (.fld (.t 17) 3 0 true), 12, [], [], [], []⟩,
     ⟨(some 17), none, (.build [.undef, .undef, .undef] [(0, 0, (.t 152)), (0, 3, (.t 60)), (3, 0, (.t 153))]), 12, [], [], [], []⟩])
   (.seq
    (.rgn 12 [
     ⟨(some 62), none, (.fld (.t 11) 0 3 true), 0, [], [], [], []⟩,
     ⟨(some 63), none, (.mov (.t 13)), 1, [], [], [], []⟩,
     ⟨(some 64), none, (.mov (.t 14)), 2, [], [], [], []⟩,
     ⟨(some 65), none, (.mov (.t 15)), 3, [], [], [], []⟩,
     ⟨(some 66), none, (.build [(.int .i64 0), (.int .i64 0), (.int .i64 0), (.int .i64 0), (.int .u64 0), (.int .i64 0), (.int .i64 0), (.int .i64 0)] [(0, (1, (.c (.int .i64 5)))), (1, (1, (.t 63))), (5, (1, (.t 64))), (6, (1, (.t 65)))]), 4, [], [], [], []⟩,
     ⟨(some 67), none, (.callS 11 [(.t 62), (.t 66)] true), 5, [], [], [], []⟩,
     ⟨(some 61), none, (.mov (.t 67)), 6, [], [], [], []⟩,
     ⟨(some 68), none, (.ext (.t 61) 0), 7, [], [], [], []⟩,
     ⟨(some 69), none, (.ext (.t 61) 1), 8, [], [], [], []⟩,
     ⟨(some 18), none, (.mov (.c (.agg [(.int .i64 0), (.int .i64 0), (.isl (some true) true [])]))), 9, [], [], [], []⟩,
     ⟨(some 152), none, (.fld (.t 11) 0 0 true), 10, [], [], [], []⟩,
     ⟨(some 153), none, (.fld (.t 11) 3 0 true), 10, [], [], [], []⟩,
     ⟨(some 11), none, (.build [.undef, .undef, .undef] [(0, 0, (.t 152)), (0, 3, (.t 68)), (3, 0, (.t 153))]), 10, [], [], [], []⟩,
     ⟨(some 152), none, (.fld (.t 18) 0 0 true), 11, [], [], [], []⟩,
     ⟨(some 153), none, (.fld (.t 18) 3 0 true), 11, [], [], [], []⟩,
     ⟨(some 18), none, (.build [.undef, .undef, .undef] [(0, 0, (.t 152)), (0, 3, (.t 69)), (3, 0, (.t 153))]), 11, [], [], [], []⟩])
   (.seq
    (.seq
     (.rgn 3 [
      ⟨(some 70), none, (.fld (.t 18) 0 0 true), 0, [], [], [], []⟩,
      ⟨(some 71), none, (.fld (.t 18) 0 1 false), 1, [], [], [], []⟩,
      ⟨(some 72), none, (.bin .neq (.t 71) (.c (.int .i64 0))), 2, [], [], [], []⟩])
    (.cond (.t 72)
      (.seq
       (.rgn 14 [
        ⟨(some 73), none, (.fld (.t 18) 0 0 true), 0, [], [], [], []⟩,
        ⟨(some 74), none, (.fld (.t 18) 0 1 false), 1, [], [], [], []⟩,
        ⟨(some 75), none, (.fld (.t 17) 0 0 true), 2, [], [], [], []⟩,
        ⟨(some 76), none, (.fld (.t 17) 0 1 false), 3, [], [], [], []⟩,
        ⟨(some 77), none, (.bin .eql (.t 74) (.t 76)), 4, [], [], [], []⟩,
        ⟨(some 78), none, (.mov (.t 77)), 5, [], [], [], []⟩,
        ⟨(some 79), (some (78, false)), (.fld (.t 18) 0 0 true), 6, [], [], [], []⟩,
        ⟨(some 80), (some (78, false)), (.fld (.t 18) 0 1 false), 7, [], [], [], []⟩,
        ⟨(some 81), (some (78, false)), (.bin .eql (.t 80) (.c (.int .i64 5))), 8, [], [], [], []⟩,
        ⟨(some 82), none, (.pick (.t 78) (.c (.bool true)) (.t 81)), 9, [], [], [], []⟩,
        ⟨(some 83), none, (.mov (.t 82)), 10, [], [], [], []⟩,
        ⟨(some 84), (some (83, true)), (.callS 12 [] true), 11, [], [], [], []⟩,
        ⟨(some 85), none, (.pick (.t 83) (.t 84) (.c (.bool false))), 12, [], [], [], []⟩,
        ⟨(some 10), none, (.mov (.t 85)), 13, [], [], [], []⟩])
      .ret)
      .skip))
   (.seq
    (.rgn 1 [
     ⟨(some 19), none, (.mov (.c (.isl (some true) true []))), 0, [], [], [], []⟩])
   (.seq
    (.seq
     (.rgn 1 [
      ⟨(some 20), none, (.mov (.c (.int .i64 0))), 0, [], [], [], []⟩])
    (.block 2
     (.loop
      (.seq
       (.seq
        (.rgn 2 [
         ⟨(some 86), none, (.mov (.t 20)), 0, [], [], [], []⟩,
         ⟨(some 87), none, (.bin .lss (.t 86) (.c (.int .i64 100))), 1, [], [], [], []⟩])
       (.cond (.t 87)
         .skip
         (.exit 2)))
      (.seq
       (.block 3
        (.seq
         (.seq
          (.rgn 4 [
           ⟨(some 90), none, (.mov (.t 20)), 0, [], [], [], []⟩,
           ⟨(some 91), none, (.mov (.t 3)), 1, [], [], [], []⟩,
           ⟨(some 92), none, (.len (.t 91)), 2, [], [], [], []⟩,
           ⟨(some 93), none, (.bin .lss (.t 90) (.t 92)), 3, [], [], [], []⟩])
         (.cond (.t 93)
           (.seq
            (.rgn 9 [
             ⟨(some 94), none, (.mov (.t 3)), 0, [], [], [], []⟩,
             ⟨(some 95), none, (.mov (.t 20)), 1, [], [], [], []⟩,
             ⟨(some 96), none, (.ia 1 (.t 94) (.t 95)), 2, [], [], [], []⟩,
             ⟨(some 97), none, (.ld (.t 96) 1 false), 3, [], [], [], []⟩,
             ⟨(some 98), none, (.mov (.t 20)), 4, [], [], [], []⟩,
             ⟨(some 99), none, (.bin .add (.c (.int .i64 60)) (.t 98)), 5, [], [], [], []⟩,
             ⟨(some 100), none, (.callS 13 [(.t 97), (.t 99)] true), 6, [], [], [], []⟩,
             ⟨(some 21), none, (.mov (.c (.agg [(.int .i64 0), (.int .i64 0), (.int .i64 0), (.int .i64 0), (.int .u64 0), (.int .i64 0), (.int .i64 0), (.int .i64 0)]))), 7, [], [], [], []⟩,
             ⟨(some 152), none, (.fld (.t 21) 0 0 true), 8, [], [], [], []⟩,
             ⟨(some 153), none, (.fld (.t 21) 8 0 true), 8, [], [], [], []⟩,
             ⟨(some 21), none, (.build [.undef, .undef, .undef, .undef, .undef, .undef, .undef, .undef] [(0, 0, (.t 152)), (0, 8, (.t 100)), (8, 0, (.t 153))]), 8, [], [], [], []⟩])
           (.seq
            (.rgn 5 [
             ⟨(some 101), none, (.fld (.t 21) 0 0 true), 0, [], [], [], []⟩,
             ⟨(some 102), none, (.fld (.t 21) 2 1 false), 1, [], [], [], []⟩,
             ⟨(some 103), none, (.fld (.t 18) 0 0 true), 2, [], [], [], []⟩,
             ⟨(some 104), none, (.fld (.t 18) 1 1 false), 3, [], [], [], []⟩,
             ⟨(some 105), none, (.bin .neq (.t 102) (.t 104)), 4, [], [], [], []⟩])
           (.cond (.t 105)
             (.rgn 7 [
              ⟨(some 107), none, (.fld (.t 11) 0 3 true), 0, [], [], [], []⟩,
              ⟨(some 108), none, (.fld (.t 21) 0 8 true), 1, [], [], [], []⟩,
              ⟨(some 109), none, (.callS 11 [(.t 107), (.t 108)] true), 2, [], [], [], []⟩,
              ⟨(some 106), none, (.mov (.t 109)), 3, [], [], [], []⟩,
              ⟨(some 110), none, (.ext (.t 106) 0), 4, [], [], [], []⟩,
              ⟨(some 111), none, (.ext (.t 106) 1), 5, [], [], [], []⟩,
              ⟨(some 152), none, (.fld (.t 11) 0 0 true), 6, [], [], [], []⟩,
              ⟨(some 153), none, (.fld (.t 11) 3 0 true), 6, [], [], [], []⟩,
              ⟨(some 11), none, (.build [.undef, .undef, .undef] [(0, 0, (.t 152)), (0, 3, (.t 110)), (3, 0, (.t 153))]), 6, [], [], [], []⟩])
             .skip)))
           .skip))
        (.seq
         (.rgn 15 [
          ⟨(some 113), none, (.fld (.t 11) 0 3 true), 0, [], [], [], []⟩,
          ⟨(some 114), none, (.fld (.t 18) 0 0 true), 1, [], [], [], []⟩,
          ⟨(some 115), none, (.fld (.t 18) 1 1 false), 2, [], [], [], []⟩,
          ⟨(some 116), none, (.mov (.t 4)), 3, [], [], [], []⟩,
          ⟨(some 117), none, (.bin .and (.t 116) (.c (.int .i64 3))), 4, [], [], [], []⟩,
          ⟨(some 118), none, (.bin .add (.t 117) (.c (.int .i64 1))), 5, [], [], [], []⟩,
          ⟨(some 119), none, (.build [(.int .i64 0), (.int .i64 0), (.int .i64 0), (.int .i64 0), (.int .u64 0), (.int .i64 0), (.int .i64 0), (.int .i64 0)] [(0, (1, (.c (.int .i64 6)))), (2, (1, (.t 115))), (7, (1, (.t 118)))]), 6, [], [], [], []⟩,
          ⟨(some 120), none, (.callS 11 [(.t 113), (.t 119)] true), 7, [], [], [], []⟩,
          ⟨(some 112), none, (.mov (.t 120)), 8, [], [], [], []⟩,
          ⟨(some 121), none, (.ext (.t 112) 0), 9, [], [], [], []⟩,
          ⟨(some 122), none, (.ext (.t 112) 1), 10, [], [], [], []⟩,
          ⟨(some 22), none, (.mov (.c (.agg [(.isl (some true) true []), (.isl (some true) true []), (.int .i64 0)]))), 11, [], [], [], []⟩,
          ⟨(some 23), none, (.mov (.c (.agg [(.int .i64 0), (.int .i64 0), (.isl (some true) true [])]))), 12, [], [], [], []⟩,
          ⟨(some 152), none, (.fld (.t 22) 0 0 true), 13, [], [], [], []⟩,
          ⟨(some 153), none, (.fld (.t 22) 3 0 true), 13, [], [], [], []⟩,
          ⟨(some 22), none, (.build [.undef, .undef, .undef] [(0, 0, (.t 152)), (0, 3, (.t 121)), (3, 0, (.t 153))]), 13, [], [], [], []⟩,
          ⟨(some 152), none, (.fld (.t 23) 0 0 true), 14, [], [], [], []⟩,
          ⟨(some 153), none, (.fld (.t 23) 3 0 true), 14, [], [], [], []⟩,
          ⟨(some 23), none, (.build [.undef, .undef, .undef] [(0, 0, (.t 152)), (0, 3, (.t 122)), (3, 0, (.t 153))]), 14, [], [], [], []⟩])
        (.seq
         (.seq
          (.rgn 12 [
           ⟨(some 123), none, (.fld (.t 23) 0 0 true), 0, [], [], [], []⟩,
           ⟨(some 124), none, (.fld (.t 23) 0 1 false), 1, [], [], [], []⟩,
           ⟨(some 125), none, (.bin .neq (.t 124) (.c (.int .i64 0))), 2, [], [], [], []⟩,
           ⟨(some 126), none, (.mov (.t 125)), 3, [], [], [], []⟩,
           ⟨(some 127), (some (126, false)), (.fld (.t 23) 0 0 true), 4, [], [], [], []⟩,
           ⟨(some 128), (some (126, false)), (.fld (.t 23) 2 1 false), 5, [], [], [], []⟩,
           ⟨(some 129), (some (126, false)), (.len (.t 128)), 6, [], [], [], []⟩,
           ⟨(some 130), (some (126, false)), (.mov (.t 4)), 7, [], [], [], []⟩,
           ⟨(some 131), (some (126, false)), (.bin .and (.t 130) (.c (.int .i64 3))), 8, [], [], [], []⟩,
           ⟨(some 132), (some (126, false)), (.bin .add (.t 131) (.c (.int .i64 1))), 9, [], [], [], []⟩,
           ⟨(some 133), (some (126, false)), (.bin .gtr (.t 129) (.t 132)), 10, [], [], [], []⟩,
           ⟨(some 134), none, (.pick (.t 126) (.c (.bool true)) (.t 133)), 11, [], [], [], []⟩])
         (.cond (.t 134)
           (.seq
            (.rgn 1 [
             ⟨(some 10), none, (.mov (.c (.bool false))), 0, [], [], [], []⟩])
           .ret)
           .skip))
        (.seq
         (.rgn 2 [
          ⟨(some 135), none, (.fld (.t 22) 0 3 true), 0, [], [], [], []⟩,
          ⟨(some 152), none, (.fld (.t 11) 0 0 true), 1, [], [], [], []⟩,
          ⟨(some 153), none, (.fld (.t 11) 3 0 true), 1, [], [], [], []⟩,
          ⟨(some 11), none, (.build [.undef, .undef, .undef] [(0, 0, (.t 152)), (0, 3, (.t 135)), (3, 0, (.t 153))]), 1, [], [], [], []⟩])
        (.rgn 5 [
         ⟨(some 136), none, (.mov (.t 19)), 0, [], [], [], []⟩,
         ⟨(some 137), none, (.fld (.t 23) 0 0 true), 1, [], [], [], []⟩,
         ⟨(some 138), none, (.fld (.t 23) 2 1 false), 2, [], [], [], []⟩,
         ⟨(some 139), none, (.app 44 2 16 (.t 136) (.t 138)), 3, [], [], [], []⟩,
         ⟨(some 19), none, (.mov (.t 139)), 4, [], [], [], []⟩]))))))
      (.rgn 3 [
       ⟨(some 88), none, (.mov (.t 20)), 0, [], [], [], []⟩,
       ⟨(some 89), none, (.bin .add (.t 88) (.c (.int .i64 1))), 1, [], [], [], []⟩,
       ⟨(some 20), none, (.mov (.t 89)), 2, [], [], [], []⟩]))))))
   (.seq
    (.rgn 13 [
     ⟨(some 140), none, (.fld (.t 17) 0 0 true), 0, [], [], [], []⟩,
     ⟨(some 141), none, (.fld (.t 17) 0 1 false), 1, [], [], [], []⟩,
     ⟨(some 142), none, (.bin .eql (.t 141) (.c (.int .i64 0))), 2, [], [], [], []⟩,
     ⟨(some 143), none, (.mov (.t 142)), 3, [], [], [], []⟩,
     ⟨(some 144), (some (143, true)), (.mov (.t 19)), 4, [], [], [], []⟩,
     ⟨(some 145), (some (143, true)), (.fld (.t 17) 0 0 true), 5, [], [], [], []⟩,
     ⟨(some 146), (some (143, true)), (.fld (.t 17) 2 1 false), 6, [], [], [], []⟩,
     ⟨(some 147), (some (143, true)), (.callS 19 [(.t 144), (.t 146)] true), 7, [], [], [], []⟩,
     ⟨(some 148), none, (.pick (.t 143) (.t 147) (.c (.bool false))), 8, [], [], [], []⟩,
     ⟨(some 149), none, (.mov (.t 148)), 9, [], [], [], []⟩,
     ⟨(some 150), (some (149, true)), (.callS 12 [] true), 10, [], [], [], []⟩,
     ⟨(some 151), none, (.pick (.t 149) (.t 150) (.c (.bool false))), 11, [], [], [], []⟩,
     ⟨(some 10), none, (.mov (.t 151)), 12, [], [], [], []⟩])
   .ret)))))))))))
  .ret)
def q6 : List ARes := [(.tmp 10)]
def v6 : UB := ⟨152, [(11, 3), (16, 3), (17, 3), (18, 3), (21, 8), (22, 3), (23, 3)], [70, 73, 75, 79, 101, 103, 114, 123, 127, 137, 140, 145]⟩
theorem kb6 : ubCode v6 (chkOps v6 r6) (.seq a6 .ret) = some b6 := by kernel_rfl
theorem kq6 : ubRes v6 r6 = some q6 := by kernel_rfl
theorem u6 {vs : List AV} {h : Hp} {n : Nat} {K : AV → Hp → Nat → Prop} (hl : vs.length ≤ 11) (hw : (∀ id, h id ≠ none → id < n) → wpA Try.prog b6 (retA q6 K) ⟨argS vs, h, n⟩) : CallsA Try.prog 6 vs h n K :=
  ub_use kb6 kq6 (m := 11) (by kernel_rfl) hl hw fun hw => e6 (by omega) hw
def b10 : ACode :=
  (.seq
   (.seq
    (.rgn 4 [
     ⟨(some 2), none, (.build [.undef, .undef, .undef] [(0, 3, (.t 0))]), 0, [], [], [], []⟩,
     ⟨(some 3), none, (.build [.undef, .undef, .undef, .undef, .undef, .undef, .undef, .undef] [(0, 8, (.t 1))]), 1, [], [], [], []⟩,
     ⟨(some 4), none, (.mov (.c (.agg [(.isl (some true) true []), (.isl (some true) true []), (.int .i64 0)]))), 2, [], [], [], []⟩,
     ⟨(some 5), none, (.mov (.c (.int .i64 0))), 3, [], [], [], []⟩])
   (.seq
    (.rgn 10 [
     ⟨(some 9), none, (.fld (.t 2) 0 3 true), 0, [], [], [], []⟩,
     ⟨(some 10), none, (.fld (.t 3) 0 8 true), 1, [], [], [], []⟩,
     ⟨(some 11), none, (.callS 11 [(.t 9), (.t 10)] true), 2, [], [], [], []⟩,
     ⟨(some 8), none, (.mov (.t 11)), 3, [], [], [], []⟩,
     ⟨(some 12), none, (.ext (.t 8) 0), 4, [], [], [], []⟩,
     ⟨(some 13), none, (.ext (.t 8) 1), 5, [], [], [], []⟩,
     ⟨(some 6), none, (.mov (.c (.agg [(.isl (some true) true []), (.isl (some true) true []), (.int .i64 0)]))), 6, [], [], [], []⟩,
     ⟨(some 7), none, (.mov (.c (.agg [(.int .i64 0), (.int .i64 0), (.isl (some true) true [])]))), 7, [], [], [], []⟩,
     ⟨(some 17), none, (.fld (.t 6) 0 0 true), 8, [], [], [], []⟩,
     ⟨(some 18), none, (.fld (.t 6) 3 0 true), 8, [], [], [], []⟩,
     ⟨(some 6), none, (.build [.undef, .undef, .undef] [(0, 0, (.t 17)), (0, 3, (.t 12)), (3, 0, (.t 18))]), 8, [], [], [], []⟩,
     ⟨(some 17), none, (.fld (.t 7) 0 0 true), 9, [], [], [], []⟩,
     ⟨(some 18), none, (.fld (.t 7) 3 0 true), 9, [], [], [], []⟩,
     ⟨(some 7), none, (.build [.undef, .undef, .undef] [(0, 0, (.t 17)), (0, 3, (.t 13)), (3, 0, (.t 18))]), 9, [], [], [], []⟩])
   (.seq
    (.rgn 5 [
     ⟨(some 14), none, (.fld (.t 6) 0 3 true), 0, [], [], [], []⟩,
     ⟨(some 15), none, (.fld (.t 7) 0 0 true), 1, [], [], [], []⟩,
     ⟨(some 16), none, (.fld (.t 7) 0 1 false), 2, [], [], [], []⟩,
     ⟨(some 17), none, (.fld (.t 4) 0 0 true), 3, [], [], [], []⟩,
     ⟨(some 18), none, (.fld (.t 4) 3 0 true), 3, [], [], [], []⟩,
     ⟨(some 4), none, (.build [.undef, .undef, .undef] [(0, 0, (.t 17)), (0, 3, (.t 14)), (3, 0, (.t 18))]), 3, [], [], [], []⟩,
     ⟨(some 5), none, (.mov (.t 16)), 4, [], [], [], []⟩])
   (.seq
    (.rgn 0 [
     ⟨(some 17), none, (.fld (.t 4) 0 0 true), 0, [], [], [], []⟩])
   .ret))))
  (.seq
   (.rgn 0 [
    ⟨(some 17), none, (.fld (.t 4) 0 0 true), 0, [], [], [], []⟩])
  .ret))
def q10 : List ARes := [(.tmp 4), (.tmp 5)]
def v10 : UB := ⟨17, [(2, 3), (3, 8), (4, 3), (6, 3), (7, 3)], [15]⟩
theorem kb10 : ubCode v10 (chkOps v10 r10) (.seq a10 .ret) = some b10 := by kernel_rfl
theorem kq10 : ubRes v10 r10 = some q10 := by kernel_rfl
theorem u10 {vs : List AV} {h : Hp} {n : Nat} {K : AV → Hp → Nat → Prop} (hl : vs.length ≤ 2) (hw : (∀ id, h id ≠ none → id < n) → wpA Try.prog b10 (retA q10 K) ⟨argS vs, h, n⟩) : CallsA Try.prog 10 vs h n K :=
  ub_use kb10 kq10 (m := 2) (by kernel_rfl) hl hw fun hw => e10 (by omega) hw
def b11 : ACode :=
  (.seq
   (.seq
    (.rgn 4 [
     ⟨(some 2), none, (.build [.undef, .undef, .undef] [(0, 3, (.t 0))]), 0, [], [], [], []⟩,
     ⟨(some 3), none, (.build [.undef, .undef, .undef, .undef, .undef, .undef, .undef, .undef] [(0, 8, (.t 1))]), 1, [], [], [], []⟩,
     ⟨(some 4), none, (.mov (.c (.agg [(.isl (some true) true []), (.isl (some true) true []), (.int .i64 0)]))), 2, [], [], [], []⟩,
     ⟨(some 5), none, (.mov (.c (.agg [(.int .i64 0), (.int .i64 0), (.isl (some true) true [])]))), 3, [], [], [], []⟩])
   (.seq
    (.seq
     (.rgn 2 [
      ⟨(some 8), none, (.fld (.t 3) 0 8 true), 0, [], [], [], []⟩,
      ⟨(some 9), none, (.callS 25 [(.t 8)] true), 1, [], [], [], []⟩])
    (.cond (.t 9)
      (.seq
       (.rgn 5 [
        ⟨(some 10), none, (.fld (.t 2) 0 3 true), 0, [], [], [], []⟩,
        ⟨(some 11), none, (.callS 26 [(.t 10)] true), 1, [], [], [], []⟩,
        ⟨(some 12), none, (.build [(.int .i64 0), (.int .i64 0), (.isl (some true) true [])] [(0, (1, (.c (.int .i64 4))))]), 2, [], [], [], []⟩,
        ⟨(some 35), none, (.fld (.t 4) 0 0 true), 3, [], [], [], []⟩,
        ⟨(some 36), none, (.fld (.t 4) 3 0 true), 3, [], [], [], []⟩,
        ⟨(some 4), none, (.build [.undef, .undef, .undef] [(0, 0, (.t 35)), (0, 3, (.t 11)), (3, 0, (.t 36))]), 3, [], [], [], []⟩,
        ⟨(some 35), none, (.fld (.t 5) 0 0 true), 4, [], [], [], []⟩,
        ⟨(some 36), none, (.fld (.t 5) 3 0 true), 4, [], [], [], []⟩,
        ⟨(some 5), none, (.build [.undef, .undef, .undef] [(0, 0, (.t 35)), (0, 3, (.t 12)), (3, 0, (.t 36))]), 4, [], [], [], []⟩])
      (.seq
       (.rgn 0 [
        ⟨(some 35), none, (.fld (.t 4) 0 0 true), 0, [], [], [], []⟩,
        ⟨(some 35), none, (.fld (.t 5) 0 0 true), 0, [], [], [], []⟩])
      .ret))
      .skip))
   (.seq
    (.rgn 4 [
     ⟨(some 13), none, (.fld (.t 2) 0 3 true), 0, [], [], [], []⟩,
     ⟨(some 14), none, (.callS 26 [(.t 13)] true), 1, [], [], [], []⟩,
     ⟨(some 6), none, (.new 25 (.agg [(.isl (some true) true []), (.isl (some true) true []), (.int .i64 0)])), 2, [], [], [], []⟩,
     ⟨none, none, (.st (.t 6) 3 (.t 14)), 3, [], [], [], []⟩])
   (.seq
    (.rgn 1 [
     ⟨(some 7), none, (.mov (.c (.agg [(.int .i64 0), (.int .i64 0), (.isl (some true) true [])]))), 0, [], [], [], []⟩])
   (.seq
    (.seq
     (.rgn 8 [
      ⟨(some 15), none, (.fld (.t 3) 0 0 true), 0, [], [], [], []⟩,
      ⟨(some 16), none, (.fld (.t 3) 0 1 false), 1, [], [], [], []⟩,
      ⟨(some 17), none, (.bin .eql (.t 16) (.c (.int .i64 6))), 2, [], [], [], []⟩,
      ⟨(some 18), none, (.mov (.t 17)), 3, [], [], [], []⟩,
      ⟨(some 19), (some (18, false)), (.fld (.t 3) 0 0 true), 4, [], [], [], []⟩,
      ⟨(some 20), (some (18, false)), (.fld (.t 3) 0 1 false), 5, [], [], [], []⟩,
      ⟨(some 21), (some (18, false)), (.bin .eql (.t 20) (.c (.int .i64 7))), 6, [], [], [], []⟩,
      ⟨(some 22), none, (.pick (.t 18) (.c (.bool true)) (.t 21)), 7, [], [], [], []⟩])
    (.cond (.t 22)
      (.rgn 3 [
       ⟨(some 23), none, (.fld (.t 3) 0 8 true), 0, [], [], [], []⟩,
       ⟨(some 24), none, (.callS 27 [(.t 6), (.t 23)] false), 1, [], [], [], []⟩,
       ⟨(some 35), none, (.fld (.t 7) 0 0 true), 2, [], [], [], []⟩,
       ⟨(some 36), none, (.fld (.t 7) 3 0 true), 2, [], [], [], []⟩,
       ⟨(some 7), none, (.build [.undef, .undef, .undef] [(0, 0, (.t 35)), (0, 3, (.t 24)), (3, 0, (.t 36))]), 2, [], [], [], []⟩])
      (.rgn 3 [
       ⟨(some 25), none, (.fld (.t 3) 0 8 true), 0, [], [], [], []⟩,
       ⟨(some 26), none, (.callS 28 [(.t 6), (.t 25)] false), 1, [], [], [], []⟩,
       ⟨(some 35), none, (.fld (.t 7) 0 0 true), 2, [], [], [], []⟩,
       ⟨(some 36), none, (.fld (.t 7) 3 0 true), 2, [], [], [], []⟩,
       ⟨(some 7), none, (.build [.undef, .undef, .undef] [(0, 0, (.t 35)), (0, 3, (.t 26)), (3, 0, (.t 36))]), 2, [], [], [], []⟩])))
   (.seq
    (.seq
     (.rgn 3 [
      ⟨(some 27), none, (.fld (.t 7) 0 0 true), 0, [], [], [], []⟩,
      ⟨(some 28), none, (.fld (.t 7) 0 1 false), 1, [], [], [], []⟩,
      ⟨(some 29), none, (.bin .neq (.t 28) (.c (.int .i64 0))), 2, [], [], [], []⟩])
    (.cond (.t 29)
      (.seq
       (.rgn 5 [
        ⟨(some 30), none, (.fld (.t 2) 0 3 true), 0, [], [], [], []⟩,
        ⟨(some 32), none, (.fld (.t 7) 0 3 true), 2, [], [], [], []⟩,
        ⟨(some 31), none, (.callS 26 [(.t 30)] true), 1, [], [], [], []⟩,
        ⟨(some 35), none, (.fld (.t 4) 0 0 true), 3, [], [], [], []⟩,
        ⟨(some 36), none, (.fld (.t 4) 3 0 true), 3, [], [], [], []⟩,
        ⟨(some 4), none, (.build [.undef, .undef, .undef] [(0, 0, (.t 35)), (0, 3, (.t 31)), (3, 0, (.t 36))]), 3, [], [], [], []⟩,
        ⟨(some 35), none, (.fld (.t 5) 0 0 true), 4, [], [], [], []⟩,
        ⟨(some 36), none, (.fld (.t 5) 3 0 true), 4, [], [], [], []⟩,
        ⟨(some 5), none, (.build [.undef, .undef, .undef] [(0, 0, (.t 35)), (0, 3, (.t 32)), (3, 0, (.t 36))]), 4, [], [], [], []⟩])
      (.seq
       (.rgn 0 [
        ⟨(some 35), none, (.fld (.t 4) 0 0 true), 0, [], [], [], []⟩,
        ⟨(some 35), none, (.fld (.t 5) 0 0 true), 0, [], [], [], []⟩])
      .ret))
      .skip))
   (.seq
    (.rgn 4 [
     ⟨(some 33), none, (.ld (.t 6) 3 true), 0, [], [], [], []⟩,
     ⟨(some 34), none, (.fld (.t 7) 0 3 true), 1, [], [], [], []⟩,
     ⟨(some 35), none, (.fld (.t 4) 0 0 true), 2, [], [], [], []⟩,
     ⟨(some 36), none, (.fld (.t 4) 3 0 true), 2, [], [], [], []⟩,
     ⟨(some 4), none, (.build [.undef, .undef, .undef] [(0, 0, (.t 35)), (0, 3, (.t 33)), (3, 0, (.t 36))]), 2, [], [], [], []⟩,
     ⟨(some 35), none, (.fld (.t 5) 0 0 true), 3, [], [], [], []⟩,
     ⟨(some 36), none, (.fld (.t 5) 3 0 true), 3, [], [], [], []⟩,
     ⟨(some 5), none, (.build [.undef, .undef, .undef] [(0, 0, (.t 35)), (0, 3, (.t 34)), (3, 0, (.t 36))]), 3, [], [], [], []⟩])
   (.seq
    (.rgn 0 [
     ⟨(some 35), none, (.fld (.t 4) 0 0 true), 0, [], [], [], []⟩,
     ⟨(some 35), none, (.fld (.t 5) 0 0 true), 0, [], [], [], []⟩])
   .ret))))))))
  (.seq
   (.rgn 0 [
    ⟨(some 35), none, (.fld (.t 4) 0 0 true), 0, [], [], [], []⟩,
    ⟨(some 35), none, (.fld (.t 5) 0 0 true), 0, [], [], [], []⟩])
  .ret))
def q11 : List ARes := [(.tmp 4), (.tmp 5)]
def v11 : UB := ⟨35, [(2, 3), (3, 8), (4, 3), (5, 3), (7, 3)], [15, 19, 27]⟩
theorem kb11 : ubCode v11 (chkOps v11 r11) (.seq a11 .ret) = some b11 := by kernel_rfl
theorem kq11 : ubRes v11 r11 = some q11 := by kernel_rfl
theorem u11 {vs : List AV} {h : Hp} {n : Nat} {K : AV → Hp → Nat → Prop} (hl : vs.length ≤ 2) (hw : (∀ id, h id ≠ none → id < n) → wpA Try.prog b11 (retA q11 K) ⟨argS vs, h, n⟩) : CallsA Try.prog 11 vs h n K :=
  ub_use kb11 kq11 (m := 2) (by kernel_rfl) hl hw fun hw => e11 (by omega) hw
def b12 : ACode :=
  (.seq
   (.seq
    (.rgn 1 [
     ⟨(some 0), none, (.mov (.c (.bool false))), 0, [], [], [], []⟩])
   (.seq
    (.rgn 10 [
     ⟨(some 13), none, (.build [(.isl (some true) true []), (.isl (some true) true []), (.int .i64 0)] []), 0, [], [], [], []⟩,
     ⟨(some 14), none, (.build [(.int .i64 0), (.int .i64 0), (.int .i64 0), (.int .i64 0), (.int .u64 0), (.int .i64 0), (.int .i64 0), (.int .i64 0)] [(0, (1, (.c (.int .i64 1)))), (1, (1, (.c (.int .i64 3)))), (3, (1, (.c (.int .i64 5)))), (4, (1, (.c (.int .u64 7))))]), 1, [], [], [], []⟩,
     ⟨(some 15), none, (.callS 11 [(.t 13), (.t 14)] true), 2, [], [], [], []⟩,
     ⟨(some 12), none, (.mov (.t 15)), 3, [], [], [], []⟩,
     ⟨(some 16), none, (.ext (.t 12) 0), 4, [], [], [], []⟩,
     ⟨(some 17), none, (.ext (.t 12) 1), 5, [], [], [], []⟩,
     ⟨(some 1), none, (.mov (.c (.agg [(.isl (some true) true []), (.isl (some true) true []), (.int .i64 0)]))), 6, [], [], [], []⟩,
     ⟨(some 2), none, (.mov (.c (.agg [(.int .i64 0), (.int .i64 0), (.isl (some true) true [])]))), 7, [], [], [], []⟩,
     ⟨(some 113), none, (.fld (.t 1) 0 0 true), 8, [], [], [], []⟩,
     ⟨(some 114), none, (.fld (.t 1) 3 0 true), 8, [], [], [], []⟩,
     ⟨(some 1), none, (.build [.undef, .undef, .undef] [(0, 0, (.t 113)), (0, 3, (.t 16)), (3, 0, (.t 114))]), 8, [], [], [], []⟩,
     ⟨(some 113), none, (.fld (.t 2) 0 0 true), 9, [], [], [], []⟩,
     ⟨(some 114), none, (.fld (.t 2) 3 0 true), 9, [], [], [], []⟩,
     ⟨(some 2), none, (.build [.undef, .undef, .undef] [(0, 0, (.t 113)), (0, 3, (.t 17)), (3, 0, (.t 114))]), 9, [], [], [], []⟩])
   (.seq
    (.rgn 10 [
     ⟨(some 19), none, (.fld (.t 1) 0 3 true), 0, [], [], [], []⟩,
     ⟨(some 20), none, (.build [(.int .i64 0), (.int .i64 0), (.int .i64 0), (.int .i64 0), (.int .u64 0), (.int .i64 0), (.int .i64 0), (.int .i64 0)] [(0, (1, (.c (.int .i64 5)))), (1, (1, (.c (.int .i64 3)))), (5, (1, (.c (.int .i64 0)))), (6, (1, (.c (.int .i64 9))))]), 1, [], [], [], []⟩,
     ⟨(some 21), none, (.callS 11 [(.t 19), (.t 20)] true), 2, [], [], [], []⟩,
     ⟨(some 18), none, (.mov (.t 21)), 3, [], [], [], []⟩,
     ⟨(some 22), none, (.ext (.t 18) 0), 4, [], [], [], []⟩,
     ⟨(some 23), none, (.ext (.t 18) 1), 5, [], [], [], []⟩,
     ⟨(some 3), none, (.mov (.c (.agg [(.isl (some true) true []), (.isl (some true) true []), (.int .i64 0)]))), 6, [], [], [], []⟩,
     ⟨(some 4), none, (.mov (.c (.agg [(.int .i64 0), (.int .i64 0), (.isl (some true) true [])]))), 7, [], [], [], []⟩,
     ⟨(some 113), none, (.fld (.t 3) 0 0 true), 8, [], [], [], []⟩,
     ⟨(some 114), none, (.fld (.t 3) 3 0 true), 8, [], [], [], []⟩,
     ⟨(some 3), none, (.build [.undef, .undef, .undef] [(0, 0, (.t 113)), (0, 3, (.t 22)), (3, 0, (.t 114))]), 8, [], [], [], []⟩,
     ⟨(some 113), none, (.fld (.t 4) 0 0 true), 9, [], [], [], []⟩,
     ⟨(some 114), none, (.fld (.t 4) 3 0 true), 9, [], [], [], []⟩,
     ⟨(some 4), none, (.build [.undef, .undef, .undef] [(0, 0, (.t 113)), (0, 3, (.t 23)), (3, 0, (.t 114))]), 9, [], [], [], []⟩])
   (.seq
    (.rgn 9 [
     ⟨(some 25), none, (.fld (.t 3) 0 3 true), 0, [], [], [], []⟩,
     ⟨(some 26), none, (.build [(.int .i64 0), (.int .i64 0), (.int .i64 0), (.int .i64 0), (.int .u64 0), (.int .i64 0), (.int .i64 0), (.int .i64 0)] [(0, (1, (.c (.int .i64 4)))), (1, (1, (.c (.int .i64 3))))]), 1, [], [], [], []⟩,
     ⟨(some 27), none, (.callS 11 [(.t 25), (.t 26)] true), 2, [], [], [], []⟩,
     ⟨(some 24), none, (.mov (.t 27)), 3, [], [], [], []⟩,
     ⟨(some 28), none, (.ext (.t 24) 0), 4, [], [], [], []⟩,
     ⟨(some 29), none, (.ext (.t 24) 1), 5, [], [], [], []⟩,
     ⟨(some 5), none, (.mov (.c (.agg [(.int .i64 0), (.int .i64 0), (.isl (some true) true [])]))), 6, [], [], [], []⟩,
     ⟨(some 113), none, (.fld (.t 3) 0 0 true), 7, [], [], [], []⟩,
     ⟨(some 114), none, (.fld (.t 3) 3 0 true), 7, [], [], [], []⟩,
     ⟨(some 3), none, (.build [.undef, .undef, .undef] [(0, 0, (.t 113)), (0, 3, (.t 28)), (3, 0, (.t 114))]), 7, [], [], [], []⟩,
     ⟨(some 113), none, (.fld (.t 5) 0 0 true), 8, [], [], [], []⟩,
     ⟨(some 114), none, (.fld (.t 5) 3 0 true), 8, [], [], [], []⟩,
     ⟨(some 5), none, (.build [.undef, .undef, .undef] [(0, 0, (.t 113)), (0, 3, (.t 29)), (3, 0, (.t 114))]), 8, [], [], [], []⟩])
   (.seq
    (.rgn 10 [
     ⟨(some 31), none, (.fld (.t 3) 0 3 true), 0, [], [], [], []⟩,
     ⟨(some 32), none, (.build [(.int .i64 0), (.int .i64 0), (.int .i64 0), (.int .i64 0), (.int .u64 0), (.int .i64 0), (.int .i64 0), (.int .i64 0)] [(0, (1, (.c (.int .i64 6)))), (2, (1, (.c (.int .i64 1)))), (7, (1, (.c (.int .i64 5))))]), 1, [], [], [], []⟩,
     ⟨(some 33), none, (.callS 11 [(.t 31), (.t 32)] true), 2, [], [], [], []⟩,
     ⟨(some 30), none, (.mov (.t 33)), 3, [], [], [], []⟩,
     ⟨(some 34), none, (.ext (.t 30) 0), 4, [], [], [], []⟩,
     ⟨(some 35), none, (.ext (.t 30) 1), 5, [], [], [], []⟩,
     ⟨(some 6), none, (.mov (.c (.agg [(.isl (some true) true []), (.isl (some true) true []), (.int .i64 0)]))), 6, [], [], [], []⟩,
     ⟨(some 7), none, (.mov (.c (.agg [(.int .i64 0), (.int .i64 0), (.isl (some true) true [])]))), 7, [], [], [], []⟩,
     ⟨(some 113), none, (.fld (.t 6) 0 0 true), 8, [], [], [], []⟩,
     ⟨(some 114), none, (.fld (.t 6) 3 0 true), 8, [], [], [], []⟩,
     ⟨(some 6), none, (.build [.undef, .undef, .undef] [(0, 0, (.t 113)), (0, 3, (.t 34)), (3, 0, (.t 114))]), 8, [], [], [], []⟩,
     ⟨(some 113), none, (.fld (.t 7) 0 0 true), 9, [], [], [], []⟩,
     ⟨(some 114), none, (.fld (.t 7) 3 0 true), 9, [], [], [], []⟩,
     ⟨(some 7), none, (.build [.undef, .undef, .undef] [(0, 0, (.t 113)), (0, 3, (.t 35)), (3, 0, (.t 114))]), 9, [], [], [], []⟩])
   (.seq
    (.rgn 10 [
     ⟨(some 37), none, (.fld (.t 1) 0 3 true), 0, [], [], [], []⟩,
     ⟨(some 38), none, (.build [(.int .i64 0), (.int .i64 0), (.int .i64 0), (.int .i64 0), (.int .u64 0), (.int .i64 0), (.int .i64 0), (.int .i64 0)] [(0, (1, (.c (.int .i64 1)))), (1, (1, (.c (.int .i64 3)))), (3, (1, (.c (.int .i64 5))))]), 1, [], [], [], []⟩,
     ⟨(some 39), none, (.callS 11 [(.t 37), (.t 38)] true), 2, [], [], [], []⟩,
     ⟨(some 36), none, (.mov (.t 39)), 3, [], [], [], []⟩,
     ⟨(some 40), none, (.ext (.t 36) 0), 4, [], [], [], []⟩,
     ⟨(some 41), none, (.ext (.t 36) 1), 5, [], [], [], []⟩,
     ⟨(some 8), none, (.mov (.c (.agg [(.isl (some true) true []), (.isl (some true) true []), (.int .i64 0)]))), 6, [], [], [], []⟩,
     ⟨(some 9), none, (.mov (.c (.agg [(.int .i64 0), (.int .i64 0), (.isl (some true) true [])]))), 7, [], [], [], []⟩,
     ⟨(some 113), none, (.fld (.t 8) 0 0 true), 8, [], [], [], []⟩,
     ⟨(some 114), none, (.fld (.t 8) 3 0 true), 8, [], [], [], []⟩,
     ⟨(some 8), none, (.build [.undef, .undef, .undef] [(0, 0, (.t 113)), (0, 3, (.t 40)), (3, 0, (.t 114))]), 8, [], [], [], []⟩,
     ⟨(some 113), none, (.fld (.t 9) 0 0 true), 9, [], [], [], []⟩,
     ⟨(some 114), none, (.fld (.t 9) 3 0 true), 9, [], [], [], []⟩,
     ⟨(some 9), none, (.build [.undef, .undef, .undef] [(0, 0, (.t 113)), (0, 3, (.t 41)), (3, 0, (.t 114))]), 9, [], [], [], []⟩])
   (.seq
    (.rgn 10 [
     ⟨(some 43), none, (.fld (.t 1) 0 3 true), 0, [], [], [], []⟩,
     ⟨(some 44), none, (.build [(.int .i64 0), (.int .i64 0), (.int .i64 0), (.int .i64 0), (.int .u64 0), (.int .i64 0), (.int .i64 0), (.int .i64 0)] [(0, (1, (.c (.int .i64 2)))), (1, (1, (.c (.int .i64 16))))]), 1, [], [], [], []⟩,
     ⟨(some 45), none, (.callS 11 [(.t 43), (.t 44)] true), 2, [], [], [], []⟩,
     ⟨(some 42), none, (.mov (.t 45)), 3, [], [], [], []⟩,
     ⟨(some 46), none, (.ext (.t 42) 0), 4, [], [], [], []⟩,
     ⟨(some 47), none, (.ext (.t 42) 1), 5, [], [], [], []⟩,
     ⟨(some 10), none, (.mov (.c (.agg [(.isl (some true) true []), (.isl (some true) true []), (.int .i64 0)]))), 6, [], [], [], []⟩,
     ⟨(some 11), none, (.mov (.c (.agg [(.int .i64 0), (.int .i64 0), (.isl (some true) true [])]))), 7, [], [], [], []⟩,
     ⟨(some 113), none, (.fld (.t 10) 0 0 true), 8, [], [], [], []⟩,
     ⟨(some 114), none, (.fld (.t 10) 3 0 true), 8, [], [], [], []⟩,
     ⟨(some 10), none, (.build [.undef, .undef, .undef] [(0, 0, (.t 113)), (0, 3, (.t 46)), (3, 0, (.t 114))]), 8, [], [], [], []⟩,
     ⟨(some 113), none, (.fld (.t 11) 0 0 true), 9, [], [], [], []⟩,
     ⟨(some 114), none, (.fld (.t 11) 3 0 true), 9, [], [], [], []⟩,
     ⟨(some 11), none, (.build [.undef, .undef, .undef] [(0, 0, (.t 113)), (0, 3, (.t 47)), (3, 0, (.t 114))]), 9, [], [], [], []⟩])
   (.seq
    (.rgn 66 [
     ⟨(some 48), none, (.fld (.t 2) 0 0 true), 0, [], [], [], []⟩,
     ⟨(some 49), none, (.fld (.t 2) 0 1 false), 1, [], [], [], []⟩,
     ⟨(some 50), none, (.bin .eql (.t 49) (.c (.int .i64 0))), 2, [], [], [], []⟩,
     ⟨(some 51), none, (.mov (.t 50)), 3, [], [], [], []⟩,
     ⟨(some 52), (some (51, true)), (.fld (.t 4) 0 0 true), 4, [], [], [], []⟩,
     ⟨(some 53), (some (51, true)), (.fld (.t 4) 1 1 false), 5, [], [], [], []⟩,
     ⟨(some 54), (some (51, true)), (.bin .eql (.t 53) (.c (.int .i64 1))), 6, [], [], [], []⟩,
     ⟨(some 55), none, (.pick (.t 51) (.t 54) (.c (.bool false))), 7, [], [], [], []⟩,
     ⟨(some 56), none, (.mov (.t 55)), 8, [], [], [], []⟩,
     ⟨(some 57), (some (56, true)), (.fld (.t 5) 0 0 true), 9, [], [], [], []⟩,
     ⟨(some 58), (some (56, true)), (.fld (.t 5) 0 1 false), 10, [], [], [], []⟩,
     ⟨(some 59), (some (56, true)), (.bin .eql (.t 58) (.c (.int .i64 0))), 11, [], [], [], []⟩,
     ⟨(some 60), none, (.pick (.t 56) (.t 59) (.c (.bool false))), 12, [], [], [], []⟩,
     ⟨(some 61), none, (.mov (.t 60)), 13, [], [], [], []⟩,
     ⟨(some 62), (some (61, true)), (.fld (.t 3) 0 0 true), 14, [], [], [], []⟩,
     ⟨(some 63), (some (61, true)), (.fld (.t 3) 0 1 false), 15, [], [], [], []⟩,
     ⟨(some 64), (some (61, true)), (.len (.t 63)), 16, [], [], [], []⟩,
     ⟨(some 65), (some (61, true)), (.bin .eql (.t 64) (.c (.int .i64 0))), 17, [], [], [], []⟩,
     ⟨(some 66), none, (.pick (.t 61) (.t 65) (.c (.bool false))), 18, [], [], [], []⟩,
     ⟨(some 67), none, (.mov (.t 66)), 19, [], [], [], []⟩,
     ⟨(some 68), (some (67, true)), (.fld (.t 7) 0 0 true), 20, [], [], [], []⟩,
     ⟨(some 69), (some (67, true)), (.fld (.t 7) 2 1 false), 21, [], [], [], []⟩,
     ⟨(some 70), (some (67, true)), (.len (.t 69)), 22, [], [], [], []⟩,
     ⟨(some 71), (some (67, true)), (.bin .eql (.t 70) (.c (.int .i64 1))), 23, [], [], [], []⟩,
     ⟨(some 72), none, (.pick (.t 67) (.t 71) (.c (.bool false))), 24, [], [], [], []⟩,
     ⟨(some 73), none, (.mov (.t 72)), 25, [], [], [], []⟩,
     ⟨(some 74), (some (73, true)), (.fld (.t 7) 0 0 true), 26, [], [], [], []⟩,
     ⟨(some 75), (some (73, true)), (.fld (.t 7) 2 1 false), 27, [], [], [], []⟩,
     ⟨(some 76), (some (73, true)), (.ia 2 (.t 75) (.c (.int .i64 0))), 28, [], [], [], []⟩,
     ⟨(some 77), (some (73, true)), (.fa (.t 76) 1), 29, [], [], [], []⟩,
     ⟨(some 78), (some (73, true)), (.ld (.t 77) 1 false), 30, [], [], [], []⟩,
     ⟨(some 79), (some (73, true)), (.bin .eql (.t 78) (.c (.int .u64 7))), 31, [], [], [], []⟩,
     ⟨(some 80), none, (.pick (.t 73) (.t 79) (.c (.bool false))), 32, [], [], [], []⟩,
     ⟨(some 81), none, (.mov (.t 80)), 33, [], [], [], []⟩,
     ⟨(some 82), (some (81, true)), (.fld (.t 9) 0 0 true), 34, [], [], [], []⟩,
     ⟨(some 83), (some (81, true)), (.fld (.t 9) 0 1 false), 35, [], [], [], []⟩,
     ⟨(some 84), (some (81, true)), (.bin .eql (.t 83) (.c (.int .i64 1))), 36, [], [], [], []⟩,
     ⟨(some 85), none, (.pick (.t 81) (.t 84) (.c (.bool false))), 37, [], [], [], []⟩,
     ⟨(some 86), none, (.mov (.t 85)), 38, [], [], [], []⟩,
     ⟨(some 87), (some (86, true)), (.fld (.t 11) 0 0 true), 39, [], [], [], []⟩,
     ⟨(some 88), (some (86, true)), (.fld (.t 11) 0 1 false), 40, [], [], [], []⟩,
     ⟨(some 89), (some (86, true)), (.bin .eql (.t 88) (.c (.int .i64 4))), 41, [], [], [], []⟩,
     ⟨(some 90), none, (.pick (.t 86) (.t 89) (.c (.bool false))), 42, [], [], [], []⟩,
     ⟨(some 91), none, (.mov (.t 90)), 43, [], [], [], []⟩,
     ⟨(some 92), (some (91, true)), (.fld (.t 1) 0 3 true), 44, [], [], [], []⟩,
     ⟨(some 93), (some (91, true)), (.fld (.t 1) 0 3 true), 45, [], [], [], []⟩,
     ⟨(some 94), (some (91, true)), (.callS 17 [(.t 92), (.t 93)] true), 46, [], [], [], []⟩,
     ⟨(some 95), none, (.pick (.t 91) (.t 94) (.c (.bool false))), 47, [], [], [], []⟩,
     ⟨(some 96), none, (.mov (.t 95)), 48, [], [], [], []⟩,
     ⟨(some 97), (some (96, true)), (.fld (.t 1) 0 3 true), 49, [], [], [], []⟩,
     ⟨(some 98), (some (96, true)), (.fld (.t 3) 0 3 true), 50, [], [], [], []⟩,
     ⟨(some 99), (some (96, true)), (.callS 17 [(.t 97), (.t 98)] true), 51, [], [], [], []⟩,
     ⟨(some 100), (some (96, true)), (.un .not (.t 99)), 52, [], [], [], []⟩,
     ⟨(some 101), none, (.pick (.t 96) (.t 100) (.c (.bool false))), 53, [], [], [], []⟩,
     ⟨(some 102), none, (.mov (.t 101)), 54, [], [], [], []⟩,
     ⟨(some 103), (some (102, true)), (.fld (.t 2) 0 3 true), 55, [], [], [], []⟩,
     ⟨(some 104), (some (102, true)), (.fld (.t 5) 0 3 true), 56, [], [], [], []⟩,
     ⟨(some 105), (some (102, true)), (.callS 18 [(.t 103), (.t 104)] true), 57, [], [], [], []⟩,
     ⟨(some 106), none, (.pick (.t 102) (.t 105) (.c (.bool false))), 58, [], [], [], []⟩,
     ⟨(some 107), none, (.mov (.t 106)), 59, [], [], [], []⟩,
     ⟨(some 108), (some (107, true)), (.fld (.t 2) 0 3 true), 60, [], [], [], []⟩,
     ⟨(some 109), (some (107, true)), (.fld (.t 4) 0 3 true), 61, [], [], [], []⟩,
     ⟨(some 110), (some (107, true)), (.callS 18 [(.t 108), (.t 109)] true), 62, [], [], [], []⟩,
     ⟨(some 111), (some (107, true)), (.un .not (.t 110)), 63, [], [], [], []⟩,
     ⟨(some 112), none, (.pick (.t 107) (.t 111) (.c (.bool false))), 64, [], [], [], []⟩,
     ⟨(some 0), none, (.mov (.t 112)), 65, [], [], [], []⟩])
   .ret))))))))
  .ret)
def q12 : List ARes := [(.tmp 0)]
def v12 : UB := ⟨113, [(1, 3), (2, 3), (3, 3), (4, 3), (5, 3), (6, 3), (7, 3), (8, 3), (9, 3), (10, 3), (11, 3)], [48, 52, 57, 62, 68, 74, 82, 87]⟩
theorem kb12 : ubCode v12 (chkOps v12 r12) (.seq a12 .ret) = some b12 := by kernel_rfl
theorem kq12 : ubRes v12 r12 = some q12 := by kernel_rfl
theorem u12 {vs : List AV} {h : Hp} {n : Nat} {K : AV → Hp → Nat → Prop} (hl : vs.length ≤ 1) (hw : (∀ id, h id ≠ none → id < n) → wpA Try.prog b12 (retA q12 K) ⟨argS vs, h, n⟩) : CallsA Try.prog 12 vs h n K :=
  ub_use kb12 kq12 (m := 1) (by kernel_rfl) hl hw fun hw => e12 (by omega) hw
def b13 : ACode :=
  (.seq
   (.seq
    (.rgn 1 [
     ⟨(some 4), none, (.mov (.c (.agg [(.int .i64 0), (.int .i64 0), (.int .i64 0), (.int .i64 0), (.int .u64 0), (.int .i64 0), (.int .i64 0), (.int .i64 0)]))), 0, [], [], [], []⟩])
   (.seq
    (.rgn 32 [
     ⟨(some 7), none, (.mov (.t 0)), 0, [], [], [], []⟩,
     ⟨(some 8), none, (.bin .shr (.t 7) (.c (.int .u64 6))), 1, [], [], [], []⟩,
     ⟨(some 9), none, (.bin .and (.t 8) (.c (.int .i64 3))), 2, [], [], [], []⟩,
     ⟨(some 10), none, (.mov (.t 0)), 3, [], [], [], []⟩,
     ⟨(some 11), none, (.bin .shr (.t 10) (.c (.int .u64 8))), 4, [], [], [], []⟩,
     ⟨(some 12), none, (.bin .and (.t 11) (.c (.int .i64 7))), 5, [], [], [], []⟩,
     ⟨(some 13), none, (.mov (.t 1)), 6, [], [], [], []⟩,
     ⟨(some 14), none, (.mov (.t 0)), 7, [], [], [], []⟩,
     ⟨(some 15), none, (.bin .shr (.t 14) (.c (.int .u64 11))), 8, [], [], [], []⟩,
     ⟨(some 16), none, (.bin .and (.t 15) (.c (.int .i64 3))), 9, [], [], [], []⟩,
     ⟨(some 17), none, (.bin .add (.t 13) (.t 16)), 10, [], [], [], []⟩,
     ⟨(some 18), none, (.mov (.t 0)), 11, [], [], [], []⟩,
     ⟨(some 19), none, (.bin .shr (.t 18) (.c (.int .u64 13))), 12, [], [], [], []⟩,
     ⟨(some 20), none, (.bin .and (.t 19) (.c (.int .i64 255))), 13, [], [], [], []⟩,
     ⟨(some 21), none, (.cvt .u64 (.t 20)), 14, [], [], [], []⟩,
     ⟨(some 22), none, (.mov (.t 1)), 15, [], [], [], []⟩,
     ⟨(some 23), none, (.mov (.t 0)), 16, [], [], [], []⟩,
     ⟨(some 24), none, (.bin .shr (.t 23) (.c (.int .u64 13))), 17, [], [], [], []⟩,
     ⟨(some 25), none, (.bin .and (.t 24) (.c (.int .i64 63))), 18, [], [], [], []⟩,
     ⟨(some 26), none, (.bin .sub (.t 22) (.t 25)), 19, [], [], [], []⟩,
     ⟨(some 27), none, (.mov (.t 1)), 20, [], [], [], []⟩,
     ⟨(some 28), none, (.mov (.t 0)), 21, [], [], [], []⟩,
     ⟨(some 29), none, (.bin .shr (.t 28) (.c (.int .u64 19))), 22, [], [], [], []⟩,
     ⟨(some 30), none, (.bin .and (.t 29) (.c (.int .i64 15))), 23, [], [], [], []⟩,
     ⟨(some 31), none, (.bin .add (.t 27) (.t 30)), 24, [], [], [], []⟩,
     ⟨(some 32), none, (.bin .sub (.t 31) (.c (.int .i64 4))), 25, [], [], [], []⟩,
     ⟨(some 33), none, (.mov (.t 0)), 26, [], [], [], []⟩,
     ⟨(some 34), none, (.bin .shr (.t 33) (.c (.int .u64 23))), 27, [], [], [], []⟩,
     ⟨(some 35), none, (.bin .and (.t 34) (.c (.int .i64 15))), 28, [], [], [], []⟩,
     ⟨(some 36), none, (.build [(.int .i64 0), (.int .i64 0), (.int .i64 0), (.int .i64 0), (.int .u64 0), (.int .i64 0), (.int .i64 0), (.int .i64 0)] [(1, (1, (.t 9))), (2, (1, (.t 12))), (3, (1, (.t 17))), (4, (1, (.t 21))), (5, (1, (.t 26))), (6, (1, (.t 32))), (7, (1, (.t 35)))]), 29, [], [], [], []⟩,
     ⟨(some 5), none, (.mov (.c (.agg [(.int .i64 0), (.int .i64 0), (.int .i64 0), (.int .i64 0), (.int .u64 0), (.int .i64 0), (.int .i64 0), (.int .i64 0)]))), 30, [], [], [], []⟩,
     ⟨(some 95), none, (.fld (.t 5) 0 0 true), 31, [], [], [], []⟩,
     ⟨(some 96), none, (.fld (.t 5) 8 0 true), 31, [], [], [], []⟩,
     ⟨(some 5), none, (.build [.undef, .undef, .undef, .undef, .undef, .undef, .undef, .undef] [(0, 0, (.t 95)), (0, 8, (.t 36)), (8, 0, (.t 96))]), 31, [], [], [], []⟩])
   (.seq
    (.rgn 3 [
     ⟨(some 37), none, (.mov (.t 0)), 0, [], [], [], []⟩,
     ⟨(some 38), none, (.bin .and (.t 37) (.c (.int .i64 63))), 1, [], [], [], []⟩,
     ⟨(some 6), none, (.mov (.t 38)), 2, [], [], [], []⟩])
   (.seq
    (.block 0
     (.seq
      (.rgn 3 [
       ⟨(some 49), none, (.mov (.t 6)), 0, [], [], [], []⟩,
       ⟨(some 50), none, (.bin .lss (.t 49) (.c (.int .i64 34))), 1, [], [], [], []⟩,
       ⟨(some 48), none, (.mov (.t 50)), 2, [], [], [], []⟩])
     (.cond (.t 48)
       (.seq
        (.rgn 2 [
         ⟨(some 51), none, (.fld (.t 5) 0 0 true), 0, [], [], [], []⟩,
         ⟨(some 95), none, (.fld (.t 5) 0 0 true), 1, [], [], [], []⟩,
         ⟨(some 96), none, (.fld (.t 5) 1 7 true), 1, [], [], [], []⟩,
         ⟨(some 5), none, (.build [.undef, .undef, .undef, .undef, .undef, .undef, .undef, .undef] [(0, 0, (.t 95)), (0, 1, (.c (.int .i64 1))), (1, 7, (.t 96))]), 1, [], [], [], []⟩])
       (.seq
        (.rgn 4 [
         ⟨(some 52), none, (.mov (.t 0)), 0, [], [], [], []⟩,
         ⟨(some 53), none, (.bin .shr (.t 52) (.c (.int .u64 21))), 1, [], [], [], []⟩,
         ⟨(some 54), none, (.bin .and (.t 53) (.c (.int .i64 7))), 2, [], [], [], []⟩,
         ⟨(some 55), none, (.bin .eql (.t 54) (.c (.int .i64 0))), 3, [], [], [], []⟩])
       (.cond (.t 55)
         (.rgn 5 [
          ⟨(some 56), none, (.mov (.t 0)), 0, [], [], [], []⟩,
          ⟨(some 57), none, (.cvt .u64 (.t 56)), 1, [], [], [], []⟩,
          ⟨(some 58), none, (.bin .mul (.t 57) (.c (.int .u64 11400714819323198485))), 2, [], [], [], []⟩,
          ⟨(some 59), none, (.fld (.t 5) 0 0 true), 3, [], [], [], []⟩,
          ⟨(some 95), none, (.fld (.t 5) 0 4 true), 4, [], [], [], []⟩,
          ⟨(some 96), none, (.fld (.t 5) 5 3 true), 4, [], [], [], []⟩,
          ⟨(some 5), none, (.build [.undef, .undef, .undef, .undef, .undef, .undef, .undef, .undef] [(0, 4, (.t 95)), (4, 1, (.t 58)), (5, 3, (.t 96))]), 4, [], [], [], []⟩])
         .skip)))
       (.seq
        (.rgn 3 [
         ⟨(some 61), none, (.mov (.t 6)), 0, [], [], [], []⟩,
         ⟨(some 62), none, (.bin .lss (.t 61) (.c (.int .i64 44))), 1, [], [], [], []⟩,
         ⟨(some 60), none, (.mov (.t 62)), 2, [], [], [], []⟩])
       (.cond (.t 60)
         (.rgn 2 [
          ⟨(some 63), none, (.fld (.t 5) 0 0 true), 0, [], [], [], []⟩,
          ⟨(some 95), none, (.fld (.t 5) 0 0 true), 1, [], [], [], []⟩,
          ⟨(some 96), none, (.fld (.t 5) 1 7 true), 1, [], [], [], []⟩,
          ⟨(some 5), none, (.build [.undef, .undef, .undef, .undef, .undef, .undef, .undef, .undef] [(0, 0, (.t 95)), (0, 1, (.c (.int .i64 2))), (1, 7, (.t 96))]), 1, [], [], [], []⟩])
         (.seq
          (.rgn 3 [
           ⟨(some 65), none, (.mov (.t 6)), 0, [], [], [], []⟩,
           ⟨(some 66), none, (.bin .lss (.t 65) (.c (.int .i64 46))), 1, [], [], [], []⟩,
           ⟨(some 64), none, (.mov (.t 66)), 2, [], [], [], []⟩])
         (.cond (.t 64)
           (.seq
            (.rgn 2 [
             ⟨(some 67), none, (.fld (.t 5) 0 0 true), 0, [], [], [], []⟩,
             ⟨(some 95), none, (.fld (.t 5) 0 0 true), 1, [], [], [], []⟩,
             ⟨(some 96), none, (.fld (.t 5) 1 7 true), 1, [], [], [], []⟩,
             ⟨(some 5), none, (.build [.undef, .undef, .undef, .undef, .undef, .undef, .undef, .undef] [(0, 0, (.t 95)), (0, 1, (.c (.int .i64 3))), (1, 7, (.t 96))]), 1, [], [], [], []⟩])
           (.seq
            (.rgn 4 [
             ⟨(some 68), none, (.mov (.t 0)), 0, [], [], [], []⟩,
             ⟨(some 69), none, (.bin .shr (.t 68) (.c (.int .u64 23))), 1, [], [], [], []⟩,
             ⟨(some 70), none, (.bin .and (.t 69) (.c (.int .i64 3))), 2, [], [], [], []⟩,
             ⟨(some 71), none, (.bin .gtr (.t 70) (.c (.int .i64 0))), 3, [], [], [], []⟩])
           (.cond (.t 71)
             (.rgn 2 [
              ⟨(some 72), none, (.fld (.t 5) 0 0 true), 0, [], [], [], []⟩,
              ⟨(some 95), none, (.fld (.t 5) 0 0 true), 1, [], [], [], []⟩,
              ⟨(some 96), none, (.fld (.t 5) 1 7 true), 1, [], [], [], []⟩,
              ⟨(some 5), none, (.build [.undef, .undef, .undef, .undef, .undef, .undef, .undef, .undef] [(0, 0, (.t 95)), (0, 1, (.c (.int .i64 2))), (1, 7, (.t 96))]), 1, [], [], [], []⟩])
             .skip)))
           (.seq
            (.rgn 3 [
             ⟨(some 74), none, (.mov (.t 6)), 0, [], [], [], []⟩,
             ⟨(some 75), none, (.bin .lss (.t 74) (.c (.int .i64 48))), 1, [], [], [], []⟩,
             ⟨(some 73), none, (.mov (.t 75)), 2, [], [], [], []⟩])
           (.cond (.t 73)
             (.seq
              (.rgn 2 [
               ⟨(some 76), none, (.fld (.t 5) 0 0 true), 0, [], [], [], []⟩,
               ⟨(some 95), none, (.fld (.t 5) 0 0 true), 1, [], [], [], []⟩,
               ⟨(some 96), none, (.fld (.t 5) 1 7 true), 1, [], [], [], []⟩,
               ⟨(some 5), none, (.build [.undef, .undef, .undef, .undef, .undef, .undef, .undef, .undef] [(0, 0, (.t 95)), (0, 1, (.c (.int .i64 4))), (1, 7, (.t 96))]), 1, [], [], [], []⟩])
             (.seq
              (.rgn 4 [
               ⟨(some 77), none, (.mov (.t 0)), 0, [], [], [], []⟩,
               ⟨(some 78), none, (.bin .shr (.t 77) (.c (.int .u64 23))), 1, [], [], [], []⟩,
               ⟨(some 79), none, (.bin .and (.t 78) (.c (.int .i64 3))), 2, [], [], [], []⟩,
               ⟨(some 80), none, (.bin .gtr (.t 79) (.c (.int .i64 0))), 3, [], [], [], []⟩])
             (.cond (.t 80)
               (.rgn 2 [
                ⟨(some 81), none, (.fld (.t 5) 0 0 true), 0, [], [], [], []⟩,
                ⟨(some 95), none, (.fld (.t 5) 0 0 true), 1, [], [], [], []⟩,
                ⟨(some 96), none, (.fld (.t 5) 1 7 true), 1, [], [], [], []⟩,
                ⟨(some 5), none, (.build [.undef, .undef, .undef, .undef, .undef, .undef, .undef, .undef] [(0, 0, (.t 95)), (0, 1, (.c (.int .i64 1))), (1, 7, (.t 96))]), 1, [], [], [], []⟩])
               .skip)))
             (.seq
              (.rgn 3 [
               ⟨(some 83), none, (.mov (.t 6)), 0, [], [], [], []⟩,
               ⟨(some 84), none, (.bin .lss (.t 83) (.c (.int .i64 53))), 1, [], [], [], []⟩,
               ⟨(some 82), none, (.mov (.t 84)), 2, [], [], [], []⟩])
             (.cond (.t 82)
               (.rgn 2 [
                ⟨(some 85), none, (.fld (.t 5) 0 0 true), 0, [], [], [], []⟩,
                ⟨(some 95), none, (.fld (.t 5) 0 0 true), 1, [], [], [], []⟩,
                ⟨(some 96), none, (.fld (.t 5) 1 7 true), 1, [], [], [], []⟩,
                ⟨(some 5), none, (.build [.undef, .undef, .undef, .undef, .undef, .undef, .undef, .undef] [(0, 0, (.t 95)), (0, 1, (.c (.int .i64 5))), (1, 7, (.t 96))]), 1, [], [], [], []⟩])
               (.seq
                (.rgn 3 [
                 ⟨(some 87), none, (.mov (.t 6)), 0, [], [], [], []⟩,
                 ⟨(some 88), none, (.bin .lss (.t 87) (.c (.int .i64 60))), 1, [], [], [], []⟩,
                 ⟨(some 86), none, (.mov (.t 88)), 2, [], [], [], []⟩])
               (.cond (.t 86)
                 (.rgn 2 [
                  ⟨(some 89), none, (.fld (.t 5) 0 0 true), 0, [], [], [], []⟩,
                  ⟨(some 95), none, (.fld (.t 5) 0 0 true), 1, [], [], [], []⟩,
                  ⟨(some 96), none, (.fld (.t 5) 1 7 true), 1, [], [], [], []⟩,
                  ⟨(some 5), none, (.build [.undef, .undef, .undef, .undef, .undef, .undef, .undef, .undef] [(0, 0, (.t 95)), (0, 1, (.c (.int .i64 6))), (1, 7, (.t 96))]), 1, [], [], [], []⟩])
                 (.seq
                  (.rgn 3 [
                   ⟨(some 91), none, (.mov (.t 6)), 0, [], [], [], []⟩,
                   ⟨(some 92), none, (.bin .lss (.t 91) (.c (.int .i64 62))), 1, [], [], [], []⟩,
                   ⟨(some 90), none, (.mov (.t 92)), 2, [], [], [], []⟩])
                 (.cond (.t 90)
                   (.rgn 2 [
                    ⟨(some 93), none, (.fld (.t 5) 0 0 true), 0, [], [], [], []⟩,
                    ⟨(some 95), none, (.fld (.t 5) 0 0 true), 1, [], [], [], []⟩,
                    ⟨(some 96), none, (.fld (.t 5) 1 7 true), 1, [], [], [], []⟩,
                    ⟨(some 5), none, (.build [.undef, .undef, .undef, .undef, .undef, .undef, .undef, .undef] [(0, 0, (.t 95)), (0, 1, (.c (.int .i64 7))), (1, 7, (.t 96))]), 1, [], [], [], []⟩])
                   (.seq
                    (.rgn 5 [
                     ⟨(some 39), none, (.mov (.t 0)), 0, [], [], [], []⟩,
                     ⟨(some 40), none, (.bin .shr (.t 39) (.c (.int .u64 6))), 1, [], [], [], []⟩,
                     ⟨(some 41), none, (.bin .and (.t 40) (.c (.int .i64 15))), 2, [], [], [], []⟩,
                     ⟨(some 42), none, (.fld (.t 5) 0 0 true), 3, [], [], [], []⟩,
                     ⟨(some 95), none, (.fld (.t 5) 0 0 true), 4, [], [], [], []⟩,
                     ⟨(some 96), none, (.fld (.t 5) 1 7 true), 4, [], [], [], []⟩,
                     ⟨(some 5), none, (.build [.undef, .undef, .undef, .undef, .undef, .undef, .undef, .undef] [(0, 0, (.t 95)), (0, 1, (.t 41)), (1, 7, (.t 96))]), 4, [], [], [], []⟩])
                   (.rgn 6 [
                    ⟨(some 43), none, (.mov (.t 0)), 0, [], [], [], []⟩,
                    ⟨(some 44), none, (.bin .shr (.t 43) (.c (.int .u64 10))), 1, [], [], [], []⟩,
                    ⟨(some 45), none, (.bin .and (.t 44) (.c (.int .i64 31))), 2, [], [], [], []⟩,
                    ⟨(some 46), none, (.bin .sub (.t 45) (.c (.int .i64 5))), 3, [], [], [], []⟩,
                    ⟨(some 47), none, (.fld (.t 5) 0 0 true), 4, [], [], [], []⟩,
                    ⟨(some 95), none, (.fld (.t 5) 0 1 true), 5, [], [], [], []⟩,
                    ⟨(some 96), none, (.fld (.t 5) 2 6 true), 5, [], [], [], []⟩,
                    ⟨(some 5), none, (.build [.undef, .undef, .undef, .undef, .undef, .undef, .undef, .undef] [(0, 1, (.t 95)), (1, 1, (.t 46)), (2, 6, (.t 96))]), 5, [], [], [], []⟩])))))))))))))))))
   (.seq
    (.rgn 2 [
     ⟨(some 94), none, (.fld (.t 5) 0 8 true), 0, [], [], [], []⟩,
     ⟨(some 95), none, (.fld (.t 4) 0 0 true), 1, [], [], [], []⟩,
     ⟨(some 96), none, (.fld (.t 4) 8 0 true), 1, [], [], [], []⟩,
     ⟨(some 4), none, (.build [.undef, .undef, .undef, .undef, .undef, .undef, .undef, .undef] [(0, 0, (.t 95)), (0, 8, (.t 94)), (8, 0, (.t 96))]), 1, [], [], [], []⟩])
   (.seq
    (.rgn 0 [
     ⟨(some 95), none, (.fld (.t 4) 0 0 true), 0, [], [], [], []⟩])
   .ret))))))
  (.seq
   (.rgn 0 [
    ⟨(some 95), none, (.fld (.t 4) 0 0 true), 0, [], [], [], []⟩])
  .ret))
def q13 : List ARes := [(.tmp 4)]
def v13 : UB := ⟨95, [(4, 8), (5, 8)], [42, 47, 51, 59, 63, 67, 72, 76, 81, 85, 89, 93]⟩
theorem kb13 : ubCode v13 (chkOps v13 r13) (.seq a13 .ret) = some b13 := by kernel_rfl
theorem kq13 : ubRes v13 r13 = some q13 := by kernel_rfl
theorem u13 {vs : List AV} {h : Hp} {n : Nat} {K : AV → Hp → Nat → Prop} (hl : vs.length ≤ 4) (hw : (∀ id, h id ≠ none → id < n) → wpA Try.prog b13 (retA q13 K) ⟨argS vs, h, n⟩) : CallsA Try.prog 13 vs h n K :=
  ub_use kb13 kq13 (m := 4) (by kernel_rfl) hl hw fun hw => e13 (by omega) hw
def b14 : ACode :=
  (.seq
   (.seq
    (.rgn 4 [
     ⟨(some 2), none, (.build [.undef, .undef, .undef] [(0, 3, (.t 0))]), 0, [], [], [], []⟩,
     ⟨(some 3), none, (.build [.undef, .undef, .undef, .undef, .undef, .undef, .undef, .undef] [(0, 8, (.t 1))]), 1, [], [], [], []⟩,
     ⟨(some 4), none, (.mov (.c (.agg [(.isl (some true) true []), (.isl (some true) true []), (.int .i64 0)]))), 2, [], [], [], []⟩,
     ⟨(some 5), none, (.mov (.c (.agg [(.int .i64 0), (.int .i64 0), (.isl (some true) true [])]))), 3, [], [], [], []⟩])
   (.seq
    (.rgn 3 [
     ⟨(some 13), none, (.fld (.t 2) 0 3 true), 0, [], [], [], []⟩,
     ⟨(some 14), none, (.callS 29 [(.t 13)] true), 1, [], [], [], []⟩,
     ⟨(some 266), none, (.fld (.t 2) 0 0 true), 2, [], [], [], []⟩,
     ⟨(some 267), none, (.fld (.t 2) 3 0 true), 2, [], [], [], []⟩,
     ⟨(some 2), none, (.build [.undef, .undef, .undef] [(0, 0, (.t 266)), (0, 3, (.t 14)), (3, 0, (.t 267))]), 2, [], [], [], []⟩])
   (.seq
    (.rgn 5 [
     ⟨(some 15), none, (.fld (.t 2) 0 3 true), 0, [], [], [], []⟩,
     ⟨(some 16), none, (.fld (.t 3) 0 0 true), 1, [], [], [], []⟩,
     ⟨(some 17), none, (.fld (.t 3) 1 1 false), 2, [], [], [], []⟩,
     ⟨(some 18), none, (.callS 30 [(.t 15), (.t 17)] true), 3, [], [], [], []⟩,
     ⟨(some 6), none, (.mov (.t 18)), 4, [], [], [], []⟩])
   (.seq
    (.rgn 9 [
     ⟨(some 19), none, (.fld (.t 3) 0 0 true), 0, [], [], [], []⟩,
     ⟨(some 20), none, (.fld (.t 3) 1 1 false), 1, [], [], [], []⟩,
     ⟨(some 21), none, (.bin .geq (.t 20) (.c (.int .i64 0))), 2, [], [], [], []⟩,
     ⟨(some 22), none, (.mov (.t 21)), 3, [], [], [], []⟩,
     ⟨(some 23), (some (22, true)), (.fld (.t 3) 0 0 true), 4, [], [], [], []⟩,
     ⟨(some 24), (some (22, true)), (.fld (.t 3) 1 1 false), 5, [], [], [], []⟩,
     ⟨(some 25), (some (22, true)), (.bin .leq (.t 24) (.c (.int .i64 15))), 6, [], [], [], []⟩,
     ⟨(some 26), none, (.pick (.t 22) (.t 25) (.c (.bool false))), 7, [], [], [], []⟩,
     ⟨(some 7), none, (.mov (.t 26)), 8, [], [], [], []⟩])
   (.seq
    (.seq
     (.rgn 2 [
      ⟨(some 27), none, (.fld (.t 3) 0 0 true), 0, [], [], [], []⟩,
      ⟨(some 28), none, (.fld (.t 3) 0 1 false), 1, [], [], [], []⟩])
    (.block 0
     (.seq
      (.seq
       (.rgn 2 [
        ⟨(some 32), none, (.bin .eql (.t 28) (.c (.int .i64 1))), 0, [], [], [], []⟩,
        ⟨(some 31), none, (.mov (.t 32)), 1, [], [], [], []⟩])
      (.cond (.t 31)
        .skip
        (.seq
         (.rgn 2 [
          ⟨(some 33), none, (.bin .eql (.t 28) (.c (.int .i64 2))), 0, [], [], [], []⟩,
          ⟨(some 31), none, (.mov (.t 33)), 1, [], [], [], []⟩])
        (.cond (.t 31)
          .skip
          (.seq
           (.rgn 2 [
            ⟨(some 34), none, (.bin .eql (.t 28) (.c (.int .i64 3))), 0, [], [], [], []⟩,
            ⟨(some 31), none, (.mov (.t 34)), 1, [], [], [], []⟩])
          (.cond (.t 31)
            .skip
            (.seq
             (.rgn 2 [
              ⟨(some 35), none, (.bin .eql (.t 28) (.c (.int .i64 4))), 0, [], [], [], []⟩,
              ⟨(some 31), none, (.mov (.t 35)), 1, [], [], [], []⟩])
            (.cond (.t 31)
              .skip
              (.rgn 2 [
               ⟨(some 36), none, (.bin .eql (.t 28) (.c (.int .i64 5))), 0, [], [], [], []⟩,
               ⟨(some 31), none, (.mov (.t 36)), 1, [], [], [], []⟩])))))))))
     (.cond (.t 31)
       (.seq
        (.seq
         (.rgn 2 [
          ⟨(some 37), none, (.mov (.t 7)), 0, [], [], [], []⟩,
          ⟨(some 38), none, (.un .not (.t 37)), 1, [], [], [], []⟩])
        (.cond (.t 38)
          (.seq
           (.rgn 4 [
            ⟨(some 39), none, (.fld (.t 2) 0 3 true), 0, [], [], [], []⟩,
            ⟨(some 40), none, (.build [(.int .i64 0), (.int .i64 0), (.isl (some true) true [])] [(0, (1, (.c (.int .i64 4))))]), 1, [], [], [], []⟩,
            ⟨(some 266), none, (.fld (.t 4) 0 0 true), 2, [], [], [], []⟩,
            ⟨(some 267), none, (.fld (.t 4) 3 0 true), 2, [], [], [], []⟩,
            ⟨(some 4), none, (.build [.undef, .undef, .undef] [(0, 0, (.t 266)), (0, 3, (.t 39)), (3, 0, (.t 267))]), 2, [], [], [], []⟩,
            ⟨(some 266), none, (.fld (.t 5) 0 0 true), 3, [], [], [], []⟩,
            ⟨(some 267), none, (.fld (.t 5) 3 0 true), 3, [], [], [], []⟩,
            ⟨(some 5), none, (.build [.undef, .undef, .undef] [(0, 0, (.t 266)), (0, 3, (.t 40)), (3, 0, (.t 267))]), 3, [], [], [], []⟩])
          (.seq
           (.rgn 0 [
            ⟨(some 266), none, (.fld (.t 4) 0 0 true), 0, [], [], [], []⟩,
            ⟨(some 266), none, (.fld (.t 5) 0 0 true), 0, [], [], [], []⟩])
          .ret))
          .skip))
       (.seq
        (.rgn 7 [
         ⟨(some 41), none, (.mov (.t 6)), 0, [], [], [], []⟩,
         ⟨(some 42), none, (.bin .lss (.t 41) (.c (.int .i64 0))), 1, [], [], [], []⟩,
         ⟨(some 43), none, (.mov (.t 42)), 2, [], [], [], []⟩,
         ⟨(some 44), (some (43, true)), (.fld (.t 3) 0 0 true), 3, [], [], [], []⟩,
         ⟨(some 45), (some (43, true)), (.fld (.t 3) 0 1 false), 4, [], [], [], []⟩,
         ⟨(some 46), (some (43, true)), (.bin .neq (.t 45) (.c (.int .i64 1))), 5, [], [], [], []⟩,
         ⟨(some 47), none, (.pick (.t 43) (.t 46) (.c (.bool false))), 6, [], [], [], []⟩])
       (.cond (.t 47)
         (.seq
          (.rgn 4 [
           ⟨(some 48), none, (.fld (.t 2) 0 3 true), 0, [], [], [], []⟩,
           ⟨(some 49), none, (.build [(.int .i64 0), (.int .i64 0), (.isl (some true) true [])] [(0, (1, (.c (.int .i64 3))))]), 1, [], [], [], []⟩,
           ⟨(some 266), none, (.fld (.t 4) 0 0 true), 2, [], [], [], []⟩,
           ⟨(some 267), none, (.fld (.t 4) 3 0 true), 2, [], [], [], []⟩,
           ⟨(some 4), none, (.build [.undef, .undef, .undef] [(0, 0, (.t 266)), (0, 3, (.t 48)), (3, 0, (.t 267))]), 2, [], [], [], []⟩,
           ⟨(some 266), none, (.fld (.t 5) 0 0 true), 3, [], [], [], []⟩,
           ⟨(some 267), none, (.fld (.t 5) 3 0 true), 3, [], [], [], []⟩,
           ⟨(some 5), none, (.build [.undef, .undef, .undef] [(0, 0, (.t 266)), (0, 3, (.t 49)), (3, 0, (.t 267))]), 3, [], [], [], []⟩])
         (.seq
          (.rgn 0 [
           ⟨(some 266), none, (.fld (.t 4) 0 0 true), 0, [], [], [], []⟩,
           ⟨(some 266), none, (.fld (.t 5) 0 0 true), 0, [], [], [], []⟩])
         .ret))
         .skip)))
       (.seq
        (.seq
         (.rgn 2 [
          ⟨(some 51), none, (.bin .eql (.t 28) (.c (.int .i64 6))), 0, [], [], [], []⟩,
          ⟨(some 50), none, (.mov (.t 51)), 1, [], [], [], []⟩])
        (.cond (.t 50)
          .skip
          (.rgn 2 [
           ⟨(some 52), none, (.bin .eql (.t 28) (.c (.int .i64 7))), 0, [], [], [], []⟩,
           ⟨(some 50), none, (.mov (.t 52)), 1, [], [], [], []⟩])))
       (.cond (.t 50)
         (.seq
          (.rgn 5 [
           ⟨(some 53), none, (.fld (.t 2) 0 3 true), 0, [], [], [], []⟩,
           ⟨(some 54), none, (.fld (.t 3) 0 0 true), 1, [], [], [], []⟩,
           ⟨(some 55), none, (.fld (.t 3) 2 1 false), 2, [], [], [], []⟩,
           ⟨(some 56), none, (.callS 31 [(.t 53), (.t 55)] true), 3, [], [], [], []⟩,
           ⟨(some 6), none, (.mov (.t 56)), 4, [], [], [], []⟩])
         (.seq
          (.rgn 2 [
           ⟨(some 57), none, (.mov (.t 6)), 0, [], [], [], []⟩,
           ⟨(some 58), none, (.bin .lss (.t 57) (.c (.int .i64 0))), 1, [], [], [], []⟩])
         (.cond (.t 58)
           (.seq
            (.rgn 4 [
             ⟨(some 59), none, (.fld (.t 2) 0 3 true), 0, [], [], [], []⟩,
             ⟨(some 60), none, (.build [(.int .i64 0), (.int .i64 0), (.isl (some true) true [])] [(0, (1, (.c (.int .i64 3))))]), 1, [], [], [], []⟩,
             ⟨(some 266), none, (.fld (.t 4) 0 0 true), 2, [], [], [], []⟩,
             ⟨(some 267), none, (.fld (.t 4) 3 0 true), 2, [], [], [], []⟩,
             ⟨(some 4), none, (.build [.undef, .undef, .undef] [(0, 0, (.t 266)), (0, 3, (.t 59)), (3, 0, (.t 267))]), 2, [], [], [], []⟩,
             ⟨(some 266), none, (.fld (.t 5) 0 0 true), 3, [], [], [], []⟩,
             ⟨(some 267), none, (.fld (.t 5) 3 0 true), 3, [], [], [], []⟩,
             ⟨(some 5), none, (.build [.undef, .undef, .undef] [(0, 0, (.t 266)), (0, 3, (.t 60)), (3, 0, (.t 267))]), 3, [], [], [], []⟩])
           (.seq
            (.rgn 0 [
             ⟨(some 266), none, (.fld (.t 4) 0 0 true), 0, [], [], [], []⟩,
             ⟨(some 266), none, (.fld (.t 5) 0 0 true), 0, [], [], [], []⟩])
           .ret))
           .skip)))
         (.seq
          (.rgn 4 [
           ⟨(some 29), none, (.fld (.t 2) 0 3 true), 0, [], [], [], []⟩,
           ⟨(some 30), none, (.build [(.int .i64 0), (.int .i64 0), (.isl (some true) true [])] [(0, (1, (.c (.int .i64 4))))]), 1, [], [], [], []⟩,
           ⟨(some 266), none, (.fld (.t 4) 0 0 true), 2, [], [], [], []⟩,
           ⟨(some 267), none, (.fld (.t 4) 3 0 true), 2, [], [], [], []⟩,
           ⟨(some 4), none, (.build [.undef, .undef, .undef] [(0, 0, (.t 266)), (0, 3, (.t 29)), (3, 0, (.t 267))]), 2, [], [], [], []⟩,
           ⟨(some 266), none, (.fld (.t 5) 0 0 true), 3, [], [], [], []⟩,
           ⟨(some 267), none, (.fld (.t 5) 3 0 true), 3, [], [], [], []⟩,
           ⟨(some 5), none, (.build [.undef, .undef, .undef] [(0, 0, (.t 266)), (0, 3, (.t 30)), (3, 0, (.t 267))]), 3, [], [], [], []⟩])
         (.seq
          (.rgn 0 [
           ⟨(some 266), none, (.fld (.t 4) 0 0 true), 0, [], [], [], []⟩,
           ⟨(some 266), none, (.fld (.t 5) 0 0 true), 0, [], [], [], []⟩])
         .ret))))))))
   (.seq
    (.rgn 3 [
     ⟨(some 61), none, (.build [(.int .i64 0), (.int .i64 0), (.isl (some true) true [])] []), 0, [], [], [], []⟩,
     ⟨(some 8), none, (.mov (.c (.agg [(.int .i64 0), (.int .i64 0), (.isl (some true) true [])]))), 1, [], [], [], []⟩,
     ⟨(some 266), none, (.fld (.t 8) 0 0 true), 2, [], [], [], []⟩,
     ⟨(some 267), none, (.fld (.t 8) 3 0 true), 2, [], [], [], []⟩,
     ⟨(some 8), none, (.build [.undef, .undef, .undef] [(0, 0, (.t 266)), (0, 3, (.t 61)), (3, 0, (.t 267))]), 2, [], [], [], []⟩])
   (.seq
    (.seq
     (.rgn 2 [
      ⟨(some 62), none, (.fld (.t 3) 0 0 true), 0, [], [], [], []⟩,
      ⟨(some 63), none, (.fld (.t 3) 0 1 false), 1, [], [], [], []⟩])
    (.block 1
     (.seq
      (.rgn 2 [
       ⟨(some 65), none, (.bin .eql (.t 63) (.c (.int .i64 1))), 0, [], [], [], []⟩,
       ⟨(some 64), none, (.mov (.t 65)), 1, [], [], [], []⟩])
     (.cond (.t 64)
       (.seq
        (.seq
         (.rgn 10 [
          ⟨(some 66), none, (.mov (.t 6)), 0, [], [], [], []⟩,
          ⟨(some 67), none, (.bin .geq (.t 66) (.c (.int .i64 0))), 1, [], [], [], []⟩,
          ⟨(some 68), none, (.mov (.t 67)), 2, [], [], [], []⟩,
          ⟨(some 69), (some (68, true)), (.fld (.t 2) 0 0 true), 3, [], [], [], []⟩,
          ⟨(some 70), (some (68, true)), (.fld (.t 2) 0 1 false), 4, [], [], [], []⟩,
          ⟨(some 71), (some (68, true)), (.mov (.t 6)), 5, [], [], [], []⟩,
          ⟨(some 72), (some (68, true)), (.ia 5 (.t 70) (.t 71)), 6, [], [], [], []⟩,
          ⟨(some 73), (some (68, true)), (.fa (.t 72) 1), 7, [], [], [], []⟩,
          ⟨(some 74), (some (68, true)), (.ld (.t 73) 1 false), 8, [], [], [], []⟩,
          ⟨(some 75), none, (.pick (.t 68) (.t 74) (.c (.bool false))), 9, [], [], [], []⟩])
        (.cond (.t 75)
          (.seq
           (.rgn 4 [
            ⟨(some 76), none, (.fld (.t 2) 0 3 true), 0, [], [], [], []⟩,
            ⟨(some 77), none, (.build [(.int .i64 0), (.int .i64 0), (.isl (some true) true [])] [(0, (1, (.c (.int .i64 2))))]), 1, [], [], [], []⟩,
            ⟨(some 266), none, (.fld (.t 4) 0 0 true), 2, [], [], [], []⟩,
            ⟨(some 267), none, (.fld (.t 4) 3 0 true), 2, [], [], [], []⟩,
            ⟨(some 4), none, (.build [.undef, .undef, .undef] [(0, 0, (.t 266)), (0, 3, (.t 76)), (3, 0, (.t 267))]), 2, [], [], [], []⟩,
            ⟨(some 266), none, (.fld (.t 5) 0 0 true), 3, [], [], [], []⟩,
            ⟨(some 267), none, (.fld (.t 5) 3 0 true), 3, [], [], [], []⟩,
            ⟨(some 5), none, (.build [.undef, .undef, .undef] [(0, 0, (.t 266)), (0, 3, (.t 77)), (3, 0, (.t 267))]), 3, [], [], [], []⟩])
          (.seq
           (.rgn 0 [
            ⟨(some 266), none, (.fld (.t 4) 0 0 true), 0, [], [], [], []⟩,
            ⟨(some 266), none, (.fld (.t 5) 0 0 true), 0, [], [], [], []⟩])
          .ret))
          .skip))
       (.seq
        (.seq
         (.rgn 21 [
          ⟨(some 78), none, (.mov (.t 6)), 0, [], [], [], []⟩,
          ⟨(some 79), none, (.bin .geq (.t 78) (.c (.int .i64 0))), 1, [], [], [], []⟩,
          ⟨(some 80), none, (.mov (.t 79)), 2, [], [], [], []⟩,
          ⟨(some 81), (some (80, true)), (.fld (.t 2) 0 0 true), 3, [], [], [], []⟩,
          ⟨(some 82), (some (80, true)), (.fld (.t 2) 0 1 false), 4, [], [], [], []⟩,
          ⟨(some 83), (some (80, true)), (.mov (.t 6)), 5, [], [], [], []⟩,
          ⟨(some 84), (some (80, true)), (.ia 5 (.t 82) (.t 83)), 6, [], [], [], []⟩,
          ⟨(some 85), (some (80, true)), (.fa (.t 84) 2), 7, [], [], [], []⟩,
          ⟨(some 86), (some (80, true)), (.ld (.t 85) 1 false), 8, [], [], [], []⟩,
          ⟨(some 87), none, (.pick (.t 80) (.t 86) (.c (.bool false))), 9, [], [], [], []⟩,
          ⟨(some 88), none, (.mov (.t 87)), 10, [], [], [], []⟩,
          ⟨(some 89), (some (88, true)), (.fld (.t 3) 0 0 true), 11, [], [], [], []⟩,
          ⟨(some 90), (some (88, true)), (.fld (.t 3) 3 1 false), 12, [], [], [], []⟩,
          ⟨(some 91), (some (88, true)), (.fld (.t 2) 0 0 true), 13, [], [], [], []⟩,
          ⟨(some 92), (some (88, true)), (.fld (.t 2) 0 1 false), 14, [], [], [], []⟩,
          ⟨(some 93), (some (88, true)), (.mov (.t 6)), 15, [], [], [], []⟩,
          ⟨(some 94), (some (88, true)), (.ia 5 (.t 92) (.t 93)), 16, [], [], [], []⟩,
          ⟨(some 95), (some (88, true)), (.fa (.t 94) 3), 17, [], [], [], []⟩,
          ⟨(some 96), (some (88, true)), (.ld (.t 95) 1 false), 18, [], [], [], []⟩,
          ⟨(some 97), (some (88, true)), (.bin .leq (.t 90) (.t 96)), 19, [], [], [], []⟩,
          ⟨(some 98), none, (.pick (.t 88) (.t 97) (.c (.bool false))), 20, [], [], [], []⟩])
        (.cond (.t 98)
          (.seq
           (.rgn 4 [
            ⟨(some 99), none, (.fld (.t 2) 0 3 true), 0, [], [], [], []⟩,
            ⟨(some 100), none, (.build [(.int .i64 0), (.int .i64 0), (.isl (some true) true [])] [(0, (1, (.c (.int .i64 1))))]), 1, [], [], [], []⟩,
            ⟨(some 266), none, (.fld (.t 4) 0 0 true), 2, [], [], [], []⟩,
            ⟨(some 267), none, (.fld (.t 4) 3 0 true), 2, [], [], [], []⟩,
            ⟨(some 4), none, (.build [.undef, .undef, .undef] [(0, 0, (.t 266)), (0, 3, (.t 99)), (3, 0, (.t 267))]), 2, [], [], [], []⟩,
            ⟨(some 266), none, (.fld (.t 5) 0 0 true), 3, [], [], [], []⟩,
            ⟨(some 267), none, (.fld (.t 5) 3 0 true), 3, [], [], [], []⟩,
            ⟨(some 5), none, (.build [.undef, .undef, .undef] [(0, 0, (.t 266)), (0, 3, (.t 100)), (3, 0, (.t 267))]), 3, [], [], [], []⟩])
          (.seq
           (.rgn 0 [
            ⟨(some 266), none, (.fld (.t 4) 0 0 true), 0, [], [], [], []⟩,
            ⟨(some 266), none, (.fld (.t 5) 0 0 true), 0, [], [], [], []⟩])
          .ret))
          .skip))
       (.seq
        (.rgn 10 [
         ⟨(some 102), none, (.fld (.t 2) 0 3 true), 0, [], [], [], []⟩,
         ⟨(some 103), none, (.fld (.t 3) 0 0 true), 1, [], [], [], []⟩,
         ⟨(some 104), none, (.fld (.t 3) 1 1 false), 2, [], [], [], []⟩,
         ⟨(some 105), none, (.callS 32 [(.t 102), (.t 104)] true), 3, [], [], [], []⟩,
         ⟨(some 101), none, (.mov (.t 105)), 4, [], [], [], []⟩,
         ⟨(some 106), none, (.ext (.t 101) 0), 5, [], [], [], []⟩,
         ⟨(some 107), none, (.ext (.t 101) 1), 6, [], [], [], []⟩,
         ⟨(some 9), none, (.mov (.c (.agg [(.isl (some true) true []), (.isl (some true) true []), (.int .i64 0)]))), 7, [], [], [], []⟩,
         ⟨(some 266), none, (.fld (.t 9) 0 0 true), 8, [], [], [], []⟩,
         ⟨(some 267), none, (.fld (.t 9) 3 0 true), 8, [], [], [], []⟩,
         ⟨(some 9), none, (.build [.undef, .undef, .undef] [(0, 0, (.t 266)), (0, 3, (.t 106)), (3, 0, (.t 267))]), 8, [], [], [], []⟩,
         ⟨(some 10), none, (.mov (.t 107)), 9, [], [], [], []⟩])
       (.seq
        (.rgn 2 [
         ⟨(some 108), none, (.fld (.t 9) 0 3 true), 0, [], [], [], []⟩,
         ⟨(some 266), none, (.fld (.t 2) 0 0 true), 1, [], [], [], []⟩,
         ⟨(some 267), none, (.fld (.t 2) 3 0 true), 1, [], [], [], []⟩,
         ⟨(some 2), none, (.build [.undef, .undef, .undef] [(0, 0, (.t 266)), (0, 3, (.t 108)), (3, 0, (.t 267))]), 1, [], [], [], []⟩])
       (.seq
        (.rgn 7 [
         ⟨(some 109), none, (.fld (.t 2) 0 0 true), 0, [], [], [], []⟩,
         ⟨(some 110), none, (.fld (.t 2) 0 1 false), 1, [], [], [], []⟩,
         ⟨(some 111), none, (.mov (.t 10)), 2, [], [], [], []⟩,
         ⟨(some 112), none, (.ia 5 (.t 110) (.t 111)), 3, [], [], [], []⟩,
         ⟨(some 113), none, (.ld (.t 112) 5 true), 4, [], [], [], []⟩,
         ⟨(some 11), none, (.mov (.c (.agg [(.int .i64 0), (.bool false), (.bool false), (.int .i64 0), (.isl (some true) true [])]))), 5, [], [], [], []⟩,
         ⟨(some 266), none, (.fld (.t 11) 0 0 true), 6, [], [], [], []⟩,
         ⟨(some 267), none, (.fld (.t 11) 5 0 true), 6, [], [], [], []⟩,
         ⟨(some 11), none, (.build [.undef, .undef, .undef, .undef, .undef] [(0, 0, (.t 266)), (0, 5, (.t 113)), (5, 0, (.t 267))]), 6, [], [], [], []⟩])
       (.seq
        (.rgn 18 [
         ⟨(some 114), none, (.fld (.t 3) 0 0 true), 0, [], [], [], []⟩,
         ⟨(some 115), none, (.fld (.t 3) 3 1 false), 1, [], [], [], []⟩,
         ⟨(some 116), none, (.fld (.t 11) 0 0 true), 2, [], [], [], []⟩,
         ⟨(some 117), none, (.fld (.t 11) 4 1 false), 3, [], [], [], []⟩,
         ⟨(some 119), none, (.fld (.t 3) 0 0 true), 5, [], [], [], []⟩,
         ⟨(some 120), none, (.fld (.t 3) 3 1 false), 6, [], [], [], []⟩,
         ⟨(some 121), none, (.fld (.t 3) 0 0 true), 7, [], [], [], []⟩,
         ⟨(some 122), none, (.fld (.t 3) 4 1 false), 8, [], [], [], []⟩,
         ⟨(some 123), none, (.build [(.int .i64 0), (.int .u64 0)] [(0, (1, (.t 120))), (1, (1, (.t 122)))]), 9, [], [], [], []⟩,
         ⟨(some 124), none, (.bsl 44 2 1 [(.int .i64 0), (.int .u64 0)] [(0, (.t 123))]), 10, [], [], [], []⟩,
         ⟨(some 126), none, (.fld (.t 11) 0 0 true), 12, [], [], [], []⟩,
         ⟨(some 118), none, (.callS 33 [(.t 117)] true), 4, [10], [], [], []⟩,
         ⟨(some 125), none, (.app 44 2 16 (.t 118) (.t 124)), 11, [], [], [], []⟩,
         ⟨(some 266), none, (.fld (.t 11) 0 2 true), 13, [], [], [], []⟩,
         ⟨(some 267), none, (.fld (.t 11) 3 2 true), 13, [], [], [], []⟩,
         ⟨(some 11), none, (.build [.undef, .undef, .undef, .undef, .undef] [(0, 2, (.t 266)), (2, 1, (.c (.bool true))), (3, 2, (.t 267))]), 13, [], [], [], []⟩,
         ⟨(some 127), none, (.fld (.t 11) 0 0 true), 14, [], [], [], []⟩,
         ⟨(some 266), none, (.fld (.t 11) 0 3 true), 15, [], [], [], []⟩,
         ⟨(some 267), none, (.fld (.t 11) 4 1 true), 15, [], [], [], []⟩,
         ⟨(some 11), none, (.build [.undef, .undef, .undef, .undef, .undef] [(0, 3, (.t 266)), (3, 1, (.t 115)), (4, 1, (.t 267))]), 15, [], [], [], []⟩,
         ⟨(some 128), none, (.fld (.t 11) 0 0 true), 16, [], [], [], []⟩,
         ⟨(some 266), none, (.fld (.t 11) 0 4 true), 17, [], [], [], []⟩,
         ⟨(some 267), none, (.fld (.t 11) 5 0 true), 17, [], [], [], []⟩,
         ⟨(some 11), none, (.build [.undef, .undef, .undef, .undef, .undef] [(0, 4, (.t 266)), (4, 1, (.t 125)), (5, 0, (.t 267))]), 17, [], [], [], []⟩])
       (.rgn 6 [
        ⟨(some 129), none, (.fld (.t 2) 0 0 true), 0, [], [], [], []⟩,
        ⟨(some 130), none, (.fld (.t 2) 0 1 false), 1, [], [], [], []⟩,
        ⟨(some 131), none, (.mov (.t 10)), 2, [], [], [], []⟩,
        ⟨(some 132), none, (.fld (.t 11) 0 5 true), 3, [], [], [], []⟩,
        ⟨(some 133), none, (.ia 5 (.t 130) (.t 131)), 4, [], [], [], []⟩,
        ⟨none, none, (.st (.t 133) 5 (.t 132)), 5, [], [], [], []⟩])))))))
       (.seq
        (.rgn 2 [
         ⟨(some 135), none, (.bin .eql (.t 63) (.c (.int .i64 2))), 0, [], [], [], []⟩,
         ⟨(some 134), none, (.mov (.t 135)), 1, [], [], [], []⟩])
       (.cond (.t 134)
         (.rgn 13 [
          ⟨(some 136), none, (.fld (.t 2) 0 0 true), 0, [], [], [], []⟩,
          ⟨(some 137), none, (.fld (.t 2) 0 1 false), 1, [], [], [], []⟩,
          ⟨(some 138), none, (.mov (.t 6)), 2, [], [], [], []⟩,
          ⟨(some 139), none, (.ia 5 (.t 137) (.t 138)), 3, [], [], [], []⟩,
          ⟨(some 140), none, (.fa (.t 139) 4), 4, [], [], [], []⟩,
          ⟨(some 141), none, (.ld (.t 140) 1 false), 5, [], [], [], []⟩,
          ⟨(some 142), none, (.fld (.t 3) 0 0 true), 6, [], [], [], []⟩,
          ⟨(some 143), none, (.fld (.t 3) 5 1 false), 7, [], [], [], []⟩,
          ⟨(some 144), none, (.fld (.t 3) 0 0 true), 8, [], [], [], []⟩,
          ⟨(some 145), none, (.fld (.t 3) 6 1 false), 9, [], [], [], []⟩,
          ⟨(some 146), none, (.callS 34 [(.t 141), (.t 143), (.t 145)] true), 10, [], [], [], []⟩,
          ⟨(some 147), none, (.fld (.t 8) 0 0 true), 11, [], [], [], []⟩,
          ⟨(some 266), none, (.fld (.t 8) 0 2 true), 12, [], [], [], []⟩,
          ⟨(some 267), none, (.fld (.t 8) 3 0 true), 12, [], [], [], []⟩,
          ⟨(some 8), none, (.build [.undef, .undef, .undef] [(0, 2, (.t 266)), (2, 1, (.t 146)), (3, 0, (.t 267))]), 12, [], [], [], []⟩])
         (.seq
          (.rgn 2 [
           ⟨(some 149), none, (.bin .eql (.t 63) (.c (.int .i64 3))), 0, [], [], [], []⟩,
           ⟨(some 148), none, (.mov (.t 149)), 1, [], [], [], []⟩])
         (.cond (.t 148)
           (.seq
            (.seq
             (.rgn 6 [
              ⟨(some 150), none, (.fld (.t 2) 0 0 true), 0, [], [], [], []⟩,
              ⟨(some 151), none, (.fld (.t 2) 0 1 false), 1, [], [], [], []⟩,
              ⟨(some 152), none, (.mov (.t 6)), 2, [], [], [], []⟩,
              ⟨(some 153), none, (.ia 5 (.t 151) (.t 152)), 3, [], [], [], []⟩,
              ⟨(some 154), none, (.fa (.t 153) 1), 4, [], [], [], []⟩,
              ⟨(some 155), none, (.ld (.t 154) 1 false), 5, [], [], [], []⟩])
            (.cond (.t 155)
              (.seq
               (.rgn 4 [
                ⟨(some 156), none, (.fld (.t 2) 0 3 true), 0, [], [], [], []⟩,
                ⟨(some 157), none, (.build [(.int .i64 0), (.int .i64 0), (.isl (some true) true [])] [(0, (1, (.c (.int .i64 2))))]), 1, [], [], [], []⟩,
                ⟨(some 266), none, (.fld (.t 4) 0 0 true), 2, [], [], [], []⟩,
                ⟨(some 267), none, (.fld (.t 4) 3 0 true), 2, [], [], [], []⟩,
                ⟨(some 4), none, (.build [.undef, .undef, .undef] [(0, 0, (.t 266)), (0, 3, (.t 156)), (3, 0, (.t 267))]), 2, [], [], [], []⟩,
                ⟨(some 266), none, (.fld (.t 5) 0 0 true), 3, [], [], [], []⟩,
                ⟨(some 267), none, (.fld (.t 5) 3 0 true), 3, [], [], [], []⟩,
                ⟨(some 5), none, (.build [.undef, .undef, .undef] [(0, 0, (.t 266)), (0, 3, (.t 157)), (3, 0, (.t 267))]), 3, [], [], [], []⟩])
              (.seq
               (.rgn 0 [
                ⟨(some 266), none, (.fld (.t 4) 0 0 true), 0, [], [], [], []⟩,
                ⟨(some 266), none, (.fld (.t 5) 0 0 true), 0, [], [], [], []⟩])
              .ret))
              .skip))
           (.rgn 6 [
            ⟨(some 158), none, (.fld (.t 2) 0 0 true), 0, [], [], [], []⟩,
            ⟨(some 159), none, (.fld (.t 2) 0 1 false), 1, [], [], [], []⟩,
            ⟨(some 160), none, (.mov (.t 6)), 2, [], [], [], []⟩,
            ⟨(some 161), none, (.ia 5 (.t 159) (.t 160)), 3, [], [], [], []⟩,
            ⟨(some 162), none, (.fa (.t 161) 1), 4, [], [], [], []⟩,
            ⟨none, none, (.st (.t 162) 1 (.c (.bool true))), 5, [], [], [], []⟩]))
           (.seq
            (.rgn 2 [
             ⟨(some 164), none, (.bin .eql (.t 63) (.c (.int .i64 4))), 0, [], [], [], []⟩,
             ⟨(some 163), none, (.mov (.t 164)), 1, [], [], [], []⟩])
           (.cond (.t 163)
             (.rgn 14 [
              ⟨(some 165), none, (.bsl 38 5 0 [] []), 0, [], [], [], []⟩,
              ⟨(some 166), none, (.fld (.t 2) 0 0 true), 1, [], [], [], []⟩,
              ⟨(some 167), none, (.fld (.t 2) 0 1 false), 2, [], [], [], []⟩,
              ⟨(some 168), none, (.mov (.t 6)), 3, [], [], [], []⟩,
              ⟨(some 169), none, (.slc 5 (.t 167) none (some (.t 168)) none), 4, [], [], [], []⟩,
              ⟨(some 171), none, (.fld (.t 2) 0 0 true), 6, [], [], [], []⟩,
              ⟨(some 172), none, (.fld (.t 2) 0 1 false), 7, [], [], [], []⟩,
              ⟨(some 173), none, (.mov (.t 6)), 8, [], [], [], []⟩,
              ⟨(some 174), none, (.bin .add (.t 173) (.c (.int .i64 1))), 9, [], [], [], []⟩,
              ⟨(some 175), none, (.slc 5 (.t 172) (some (.t 174)) none none), 10, [], [], [], []⟩,
              ⟨(some 170), none, (.app 38 5 48 (.t 165) (.t 169)), 5, [], [], [], []⟩,
              ⟨(some 176), none, (.app 38 5 48 (.t 170) (.t 175)), 11, [], [], [], []⟩,
              ⟨(some 177), none, (.fld (.t 2) 0 0 true), 12, [], [], [], []⟩,
              ⟨(some 266), none, (.fld (.t 2) 0 0 true), 13, [], [], [], []⟩,
              ⟨(some 267), none, (.fld (.t 2) 1 2 true), 13, [], [], [], []⟩,
              ⟨(some 2), none, (.build [.undef, .undef, .undef] [(0, 0, (.t 266)), (0, 1, (.t 176)), (1, 2, (.t 267))]), 13, [], [], [], []⟩])
             (.seq
              (.rgn 2 [
               ⟨(some 179), none, (.bin .eql (.t 63) (.c (.int .i64 5))), 0, [], [], [], []⟩,
               ⟨(some 178), none, (.mov (.t 179)), 1, [], [], [], []⟩])
             (.cond (.t 178)
               (.seq
                (.seq
                 (.rgn 4 [
                  ⟨(some 180), none, (.fld (.t 2) 0 0 true), 0, [], [], [], []⟩,
                  ⟨(some 181), none, (.fld (.t 2) 1 1 false), 1, [], [], [], []⟩,
                  ⟨(some 182), none, (.len (.t 181)), 2, [], [], [], []⟩,
                  ⟨(some 183), none, (.bin .geq (.t 182) (.c (.int .i64 8))), 3, [], [], [], []⟩])
                (.cond (.t 183)
                  (.seq
                   (.rgn 4 [
                    ⟨(some 184), none, (.fld (.t 2) 0 3 true), 0, [], [], [], []⟩,
                    ⟨(some 185), none, (.build [(.int .i64 0), (.int .i64 0), (.isl (some true) true [])] [(0, (1, (.c (.int .i64 5))))]), 1, [], [], [], []⟩,
                    ⟨(some 266), none, (.fld (.t 4) 0 0 true), 2, [], [], [], []⟩,
                    ⟨(some 267), none, (.fld (.t 4) 3 0 true), 2, [], [], [], []⟩,
                    ⟨(some 4), none, (.build [.undef, .undef, .undef] [(0, 0, (.t 266)), (0, 3, (.t 184)), (3, 0, (.t 267))]), 2, [], [], [], []⟩,
                    ⟨(some 266), none, (.fld (.t 5) 0 0 true), 3, [], [], [], []⟩,
                    ⟨(some 267), none, (.fld (.t 5) 3 0 true), 3, [], [], [], []⟩,
                    ⟨(some 5), none, (.build [.undef, .undef, .undef] [(0, 0, (.t 266)), (0, 3, (.t 185)), (3, 0, (.t 267))]), 3, [], [], [], []⟩])
                  (.seq
                   (.rgn 0 [
                    ⟨(some 266), none, (.fld (.t 4) 0 0 true), 0, [], [], [], []⟩,
                    ⟨(some 266), none, (.fld (.t 5) 0 0 true), 0, [], [], [], []⟩])
                  .ret))
                  .skip))
               (.seq
                (.rgn 5 [
                 ⟨(some 186), none, (.fld (.t 2) 0 0 true), 0, [], [], [], []⟩,
                 ⟨(some 187), none, (.fld (.t 2) 2 1 false), 1, [], [], [], []⟩,
                 ⟨(some 188), none, (.bin .add (.t 187) (.c (.int .i64 1))), 2, [], [], [], []⟩,
                 ⟨(some 189), none, (.fld (.t 2) 0 0 true), 3, [], [], [], []⟩,
                 ⟨(some 266), none, (.fld (.t 2) 0 2 true), 4, [], [], [], []⟩,
                 ⟨(some 267), none, (.fld (.t 2) 3 0 true), 4, [], [], [], []⟩,
                 ⟨(some 2), none, (.build [.undef, .undef, .undef] [(0, 2, (.t 266)), (2, 1, (.t 188)), (3, 0, (.t 267))]), 4, [], [], [], []⟩])
               (.seq
                (.rgn 20 [
                 ⟨(some 190), none, (.fld (.t 2) 0 0 true), 0, [], [], [], []⟩,
                 ⟨(some 191), none, (.fld (.t 2) 1 1 false), 1, [], [], [], []⟩,
                 ⟨(some 192), none, (.fld (.t 2) 0 0 true), 2, [], [], [], []⟩,
                 ⟨(some 193), none, (.fld (.t 2) 2 1 false), 3, [], [], [], []⟩,
                 ⟨(some 194), none, (.fld (.t 2) 0 0 true), 4, [], [], [], []⟩,
                 ⟨(some 195), none, (.fld (.t 2) 0 1 false), 5, [], [], [], []⟩,
                 ⟨(some 196), none, (.mov (.t 6)), 6, [], [], [], []⟩,
                 ⟨(some 197), none, (.ia 5 (.t 195) (.t 196)), 7, [], [], [], []⟩,
                 ⟨(some 198), none, (.fa (.t 197) 4), 8, [], [], [], []⟩,
                 ⟨(some 199), none, (.ld (.t 198) 1 false), 9, [], [], [], []⟩,
                 ⟨(some 200), none, (.fld (.t 3) 0 0 true), 10, [], [], [], []⟩,
                 ⟨(some 201), none, (.fld (.t 3) 5 1 false), 11, [], [], [], []⟩,
                 ⟨(some 202), none, (.fld (.t 3) 0 0 true), 12, [], [], [], []⟩,
                 ⟨(some 203), none, (.fld (.t 3) 6 1 false), 13, [], [], [], []⟩,
                 ⟨(some 204), none, (.callS 34 [(.t 199), (.t 201), (.t 203)] true), 14, [], [], [], []⟩,
                 ⟨(some 205), none, (.build [(.int .i64 0), (.isl (some true) true [])] [(0, (1, (.t 193))), (1, (1, (.t 204)))]), 15, [], [], [], []⟩,
                 ⟨(some 206), none, (.bsl 46 2 1 [(.int .i64 0), (.isl (some true) true [])] [(0, (.t 205))]), 16, [], [], [], []⟩,
                 ⟨(some 207), none, (.app 46 2 32 (.t 191) (.t 206)), 17, [], [], [], []⟩,
                 ⟨(some 208), none, (.fld (.t 2) 0 0 true), 18, [], [], [], []⟩,
                 ⟨(some 266), none, (.fld (.t 2) 0 1 true), 19, [], [], [], []⟩,
                 ⟨(some 267), none, (.fld (.t 2) 2 1 true), 19, [], [], [], []⟩,
                 ⟨(some 2), none, (.build [.undef, .undef, .undef] [(0, 1, (.t 266)), (1, 1, (.t 207)), (2, 1, (.t 267))]), 19, [], [], [], []⟩])
               (.rgn 4 [
                ⟨(some 209), none, (.fld (.t 2) 0 0 true), 0, [], [], [], []⟩,
                ⟨(some 210), none, (.fld (.t 2) 2 1 false), 1, [], [], [], []⟩,
                ⟨(some 211), none, (.fld (.t 8) 0 0 true), 2, [], [], [], []⟩,
                ⟨(some 266), none, (.fld (.t 8) 0 1 true), 3, [], [], [], []⟩,
                ⟨(some 267), none, (.fld (.t 8) 2 1 true), 3, [], [], [], []⟩,
                ⟨(some 8), none, (.build [.undef, .undef, .undef] [(0, 1, (.t 266)), (1, 1, (.t 210)), (2, 1, (.t 267))]), 3, [], [], [], []⟩]))))
               (.seq
                (.rgn 2 [
                 ⟨(some 213), none, (.bin .eql (.t 63) (.c (.int .i64 6))), 0, [], [], [], []⟩,
                 ⟨(some 212), none, (.mov (.t 213)), 1, [], [], [], []⟩])
               (.cond (.t 212)
                 (.seq
                  (.rgn 12 [
                   ⟨(some 214), none, (.fld (.t 3) 0 0 true), 0, [], [], [], []⟩,
                   ⟨(some 215), none, (.fld (.t 3) 7 1 false), 1, [], [], [], []⟩,
                   ⟨(some 216), none, (.max [(.t 215), (.c (.int .i64 0))]), 2, [], [], [], []⟩,
                   ⟨(some 217), none, (.fld (.t 2) 0 0 true), 3, [], [], [], []⟩,
                   ⟨(some 218), none, (.fld (.t 2) 1 1 false), 4, [], [], [], []⟩,
                   ⟨(some 219), none, (.mov (.t 6)), 5, [], [], [], []⟩,
                   ⟨(some 220), none, (.ia 2 (.t 218) (.t 219)), 6, [], [], [], []⟩,
                   ⟨(some 221), none, (.fa (.t 220) 1), 7, [], [], [], []⟩,
                   ⟨(some 222), none, (.ld (.t 221) 1 false), 8, [], [], [], []⟩,
                   ⟨(some 223), none, (.len (.t 222)), 9, [], [], [], []⟩,
                   ⟨(some 224), none, (.min [(.t 216), (.c (.int .i64 1000)), (.t 223)]), 10, [], [], [], []⟩,
                   ⟨(some 12), none, (.mov (.t 224)), 11, [], [], [], []⟩])
                 (.seq
                  (.rgn 11 [
                   ⟨(some 225), none, (.fld (.t 2) 0 0 true), 0, [], [], [], []⟩,
                   ⟨(some 226), none, (.fld (.t 2) 1 1 false), 1, [], [], [], []⟩,
                   ⟨(some 227), none, (.mov (.t 6)), 2, [], [], [], []⟩,
                   ⟨(some 228), none, (.ia 2 (.t 226) (.t 227)), 3, [], [], [], []⟩,
                   ⟨(some 229), none, (.fa (.t 228) 1), 4, [], [], [], []⟩,
                   ⟨(some 230), none, (.ld (.t 229) 1 false), 5, [], [], [], []⟩,
                   ⟨(some 231), none, (.mov (.t 12)), 6, [], [], [], []⟩,
                   ⟨(some 232), none, (.slc 2 (.t 230) none (some (.t 231)) none), 7, [], [], [], []⟩,
                   ⟨(some 233), none, (.callS 33 [(.t 232)] true), 8, [], [], [], []⟩,
                   ⟨(some 234), none, (.fld (.t 8) 0 0 true), 9, [], [], [], []⟩,
                   ⟨(some 266), none, (.fld (.t 8) 0 2 true), 10, [], [], [], []⟩,
                   ⟨(some 267), none, (.fld (.t 8) 3 0 true), 10, [], [], [], []⟩,
                   ⟨(some 8), none, (.build [.undef, .undef, .undef] [(0, 2, (.t 266)), (2, 1, (.t 233)), (3, 0, (.t 267))]), 10, [], [], [], []⟩])
                 (.rgn 15 [
                  ⟨(some 235), none, (.fld (.t 2) 0 0 true), 0, [], [], [], []⟩,
                  ⟨(some 236), none, (.fld (.t 2) 1 1 false), 1, [], [], [], []⟩,
                  ⟨(some 237), none, (.mov (.t 6)), 2, [], [], [], []⟩,
                  ⟨(some 238), none, (.fld (.t 2) 0 0 true), 3, [], [], [], []⟩,
                  ⟨(some 239), none, (.fld (.t 2) 1 1 false), 4, [], [], [], []⟩,
                  ⟨(some 240), none, (.mov (.t 6)), 5, [], [], [], []⟩,
                  ⟨(some 241), none, (.ia 2 (.t 239) (.t 240)), 6, [], [], [], []⟩,
                  ⟨(some 242), none, (.fa (.t 241) 1), 7, [], [], [], []⟩,
                  ⟨(some 243), none, (.ld (.t 242) 1 false), 8, [], [], [], []⟩,
                  ⟨(some 244), none, (.mov (.t 12)), 9, [], [], [], []⟩,
                  ⟨(some 245), none, (.slc 2 (.t 243) (some (.t 244)) none none), 10, [], [], [], []⟩,
                  ⟨(some 246), none, (.callS 33 [(.t 245)] true), 11, [], [], [], []⟩,
                  ⟨(some 247), none, (.ia 2 (.t 236) (.t 237)), 12, [], [], [], []⟩,
                  ⟨(some 248), none, (.fa (.t 247) 1), 13, [], [], [], []⟩,
                  ⟨none, none, (.st (.t 248) 1 (.t 246)), 14, [], [], [], []⟩])))
                 (.seq
                  (.rgn 2 [
                   ⟨(some 250), none, (.bin .eql (.t 63) (.c (.int .i64 7))), 0, [], [], [], []⟩,
                   ⟨(some 249), none, (.mov (.t 250)), 1, [], [], [], []⟩])
                 (.cond (.t 249)
                   (.rgn 14 [
                    ⟨(some 251), none, (.bsl 46 2 0 [] []), 0, [], [], [], []⟩,
                    ⟨(some 252), none, (.fld (.t 2) 0 0 true), 1, [], [], [], []⟩,
                    ⟨(some 253), none, (.fld (.t 2) 1 1 false), 2, [], [], [], []⟩,
                    ⟨(some 254), none, (.mov (.t 6)), 3, [], [], [], []⟩,
                    ⟨(some 255), none, (.slc 2 (.t 253) none (some (.t 254)) none), 4, [], [], [], []⟩,
                    ⟨(some 257), none, (.fld (.t 2) 0 0 true), 6, [], [], [], []⟩,
                    ⟨(some 258), none, (.fld (.t 2) 1 1 false), 7, [], [], [], []⟩,
                    ⟨(some 259), none, (.mov (.t 6)), 8, [], [], [], []⟩,
                    ⟨(some 260), none, (.bin .add (.t 259) (.c (.int .i64 1))), 9, [], [], [], []⟩,
                    ⟨(some 261), none, (.slc 2 (.t 258) (some (.t 260)) none none), 10, [], [], [], []⟩,
                    ⟨(some 256), none, (.app 46 2 32 (.t 251) (.t 255)), 5, [], [], [], []⟩,
                    ⟨(some 262), none, (.app 46 2 32 (.t 256) (.t 261)), 11, [], [], [], []⟩,
                    ⟨(some 263), none, (.fld (.t 2) 0 0 true), 12, [], [], [], []⟩,
                    ⟨(some 266), none, (.fld (.t 2) 0 1 true), 13, [], [], [], []⟩,
                    ⟨(some 267), none, (.fld (.t 2) 2 1 true), 13, [], [], [], []⟩,
                    ⟨(some 2), none, (.build [.undef, .undef, .undef] [(0, 1, (.t 266)), (1, 1, (.t 262)), (2, 1, (.t 267))]), 13, [], [], [], []⟩])
                   .skip))))))))))))))))
   (.seq
    (.rgn 4 [
     ⟨(some 264), none, (.fld (.t 2) 0 3 true), 0, [], [], [], []⟩,
     ⟨(some 265), none, (.fld (.t 8) 0 3 true), 1, [], [], [], []⟩,
     ⟨(some 266), none, (.fld (.t 4) 0 0 true), 2, [], [], [], []⟩,
     ⟨(some 267), none, (.fld (.t 4) 3 0 true), 2, [], [], [], []⟩,
     ⟨(some 4), none, (.build [.undef, .undef, .undef] [(0, 0, (.t 266)), (0, 3, (.t 264)), (3, 0, (.t 267))]), 2, [], [], [], []⟩,
     ⟨(some 266), none, (.fld (.t 5) 0 0 true), 3, [], [], [], []⟩,
     ⟨(some 267), none, (.fld (.t 5) 3 0 true), 3, [], [], [], []⟩,
     ⟨(some 5), none, (.build [.undef, .undef, .undef] [(0, 0, (.t 266)), (0, 3, (.t 265)), (3, 0, (.t 267))]), 3, [], [], [], []⟩])
   (.seq
    (.rgn 0 [
     ⟨(some 266), none, (.fld (.t 4) 0 0 true), 0, [], [], [], []⟩,
     ⟨(some 266), none, (.fld (.t 5) 0 0 true), 0, [], [], [], []⟩])
   .ret)))))))))
  (.seq
   (.rgn 0 [
    ⟨(some 266), none, (.fld (.t 4) 0 0 true), 0, [], [], [], []⟩,
    ⟨(some 266), none, (.fld (.t 5) 0 0 true), 0, [], [], [], []⟩])
  .ret))
def q14 : List ARes := [(.tmp 4), (.tmp 5)]
def v14 : UB := ⟨266, [(2, 3), (3, 8), (4, 3), (5, 3), (8, 3), (9, 3), (11, 5)], [16, 19, 23, 27, 44, 54, 62, 69, 81, 89, 91, 103, 109, 114, 116, 119, 121, 126, 127, 128, 129, 136, 142, 144, 147, 150, 158, 166, 171, 177, 180, 186, 189, 190, 192, 194, 200, 202, 208, 209, 211, 214, 217, 225, 234, 235, 238, 252, 257, 263]⟩
theorem kb14 : ubCode v14 (chkOps v14 r14) (.seq a14 .ret) = some b14 := by kernel_rfl
theorem kq14 : ubRes v14 r14 = some q14 := by kernel_rfl
theorem u14 {vs : List AV} {h : Hp} {n : Nat} {K : AV → Hp → Nat → Prop} (hl : vs.length ≤ 2) (hw : (∀ id, h id ≠ none → id < n) → wpA Try.prog b14 (retA q14 K) ⟨argS vs, h, n⟩) : CallsA Try.prog 14 vs h n K :=
  ub_use kb14 kq14 (m := 2) (by kernel_rfl) hl hw fun hw => e14 (by omega) hw
def b15 : ACode :=
  (.seq
   (.seq
    (.rgn 3 [
     ⟨(some 2), none, (.build [.undef, .undef, .undef] [(0, 3, (.t 0))]), 0, [], [], [], []⟩,
     ⟨(some 3), none, (.build [.undef, .undef, .undef] [(0, 3, (.t 1))]), 1, [], [], [], []⟩,
     ⟨(some 4), none, (.mov (.c (.bool false))), 2, [], [], [], []⟩])
   (.seq
    (.seq
     (.rgn 23 [
      ⟨(some 9), none, (.fld (.t 2) 0 0 true), 0, [], [], [], []⟩,
      ⟨(some 10), none, (.fld (.t 2) 2 1 false), 1, [], [], [], []⟩,
      ⟨(some 11), none, (.fld (.t 3) 0 0 true), 2, [], [], [], []⟩,
      ⟨(some 12), none, (.fld (.t 3) 2 1 false), 3, [], [], [], []⟩,
      ⟨(some 13), none, (.bin .neq (.t 10) (.t 12)), 4, [], [], [], []⟩,
      ⟨(some 14), none, (.mov (.t 13)), 5, [], [], [], []⟩,
      ⟨(some 15), (some (14, false)), (.fld (.t 2) 0 0 true), 6, [], [], [], []⟩,
      ⟨(some 16), (some (14, false)), (.fld (.t 2) 0 1 false), 7, [], [], [], []⟩,
      ⟨(some 17), (some (14, false)), (.len (.t 16)), 8, [], [], [], []⟩,
      ⟨(some 18), (some (14, false)), (.fld (.t 3) 0 0 true), 9, [], [], [], []⟩,
      ⟨(some 19), (some (14, false)), (.fld (.t 3) 0 1 false), 10, [], [], [], []⟩,
      ⟨(some 20), (some (14, false)), (.len (.t 19)), 11, [], [], [], []⟩,
      ⟨(some 21), (some (14, false)), (.bin .neq (.t 17) (.t 20)), 12, [], [], [], []⟩,
      ⟨(some 22), none, (.pick (.t 14) (.c (.bool true)) (.t 21)), 13, [], [], [], []⟩,
      ⟨(some 23), none, (.mov (.t 22)), 14, [], [], [], []⟩,
      ⟨(some 24), (some (23, false)), (.fld (.t 2) 0 0 true), 15, [], [], [], []⟩,
      ⟨(some 25), (some (23, false)), (.fld (.t 2) 1 1 false), 16, [], [], [], []⟩,
      ⟨(some 26), (some (23, false)), (.len (.t 25)), 17, [], [], [], []⟩,
      ⟨(some 27), (some (23, false)), (.fld (.t 3) 0 0 true), 18, [], [], [], []⟩,
      ⟨(some 28), (some (23, false)), (.fld (.t 3) 1 1 false), 19, [], [], [], []⟩,
      ⟨(some 29), (some (23, false)), (.len (.t 28)), 20, [], [], [], []⟩,
      ⟨(some 30), (some (23, false)), (.bin .neq (.t 26) (.t 29)), 21, [], [], [], []⟩,
      ⟨(some 31), none, (.pick (.t 23) (.c (.bool true)) (.t 30)), 22, [], [], [], []⟩])
    (.cond (.t 31)
      (.seq
       (.rgn 1 [
        ⟨(some 4), none, (.mov (.c (.bool false))), 0, [], [], [], []⟩])
      .ret)
      .skip))
   (.seq
    (.seq
     (.rgn 1 [
      ⟨(some 5), none, (.mov (.c (.int .i64 0))), 0, [], [], [], []⟩])
    (.block 0
     (.loop
      (.seq
       (.seq
        (.rgn 5 [
         ⟨(some 32), none, (.mov (.t 5)), 0, [], [], [], []⟩,
         ⟨(some 33), none, (.fld (.t 2) 0 0 true), 1, [], [], [], []⟩,
         ⟨(some 34), none, (.fld (.t 2) 0 1 false), 2, [], [], [], []⟩,
         ⟨(some 35), none, (.len (.t 34)), 3, [], [], [], []⟩,
         ⟨(some 36), none, (.bin .lss (.t 32) (.t 35)), 4, [], [], [], []⟩])
       (.cond (.t 36)
         .skip
         (.exit 0)))
      (.seq
       (.block 1
        (.seq
         (.rgn 14 [
          ⟨(some 39), none, (.fld (.t 2) 0 0 true), 0, [], [], [], []⟩,
          ⟨(some 40), none, (.fld (.t 2) 0 1 false), 1, [], [], [], []⟩,
          ⟨(some 41), none, (.mov (.t 5)), 2, [], [], [], []⟩,
          ⟨(some 42), none, (.ia 5 (.t 40) (.t 41)), 3, [], [], [], []⟩,
          ⟨(some 43), none, (.ld (.t 42) 5 true), 4, [10, 11], [], [], []⟩,
          ⟨(some 44), none, (.fld (.t 3) 0 0 true), 5, [], [], [], []⟩,
          ⟨(some 45), none, (.fld (.t 3) 0 1 false), 6, [], [], [], []⟩,
          ⟨(some 46), none, (.mov (.t 5)), 7, [], [], [], []⟩,
          ⟨(some 47), none, (.ia 5 (.t 45) (.t 46)), 8, [], [], [], []⟩,
          ⟨(some 48), none, (.ld (.t 47) 5 true), 9, [10, 11, 12], [], [], []⟩,
          ⟨(some 6), none, (.mov (.c (.agg [(.int .i64 0), (.bool false), (.bool false), (.int .i64 0), (.isl (some true) true [])]))), 10, [], [], [], []⟩,
          ⟨(some 7), none, (.mov (.c (.agg [(.int .i64 0), (.bool false), (.bool false), (.int .i64 0), (.isl (some true) true [])]))), 11, [], [], [], []⟩,
          ⟨(some 119), none, (.fld (.t 6) 0 0 true), 12, [], [], [], []⟩,
          ⟨(some 120), none, (.fld (.t 6) 5 0 true), 12, [], [], [], []⟩,
          ⟨(some 6), none, (.build [.undef, .undef, .undef, .undef, .undef] [(0, 0, (.t 119)), (0, 5, (.t 43)), (5, 0, (.t 120))]), 12, [], [], [], []⟩,
          ⟨(some 119), none, (.fld (.t 7) 0 0 true), 13, [], [], [], []⟩,
          ⟨(some 120), none, (.fld (.t 7) 5 0 true), 13, [], [], [], []⟩,
          ⟨(some 7), none, (.build [.undef, .undef, .undef, .undef, .undef] [(0, 0, (.t 119)), (0, 5, (.t 48)), (5, 0, (.t 120))]), 13, [], [], [], []⟩])
        (.seq
         (.rgn 34 [
          ⟨(some 49), none, (.fld (.t 6) 0 0 true), 0, [], [], [], []⟩,
          ⟨(some 50), none, (.fld (.t 6) 0 1 false), 1, [], [], [], []⟩,
          ⟨(some 51), none, (.fld (.t 7) 0 0 true), 2, [], [], [], []⟩,
          ⟨(some 52), none, (.fld (.t 7) 0 1 false), 3, [], [], [], []⟩,
          ⟨(some 53), none, (.bin .neq (.t 50) (.t 52)), 4, [], [], [], []⟩,
          ⟨(some 54), none, (.mov (.t 53)), 5, [], [], [], []⟩,
          ⟨(some 55), (some (54, false)), (.fld (.t 6) 0 0 true), 6, [], [], [], []⟩,
          ⟨(some 56), (some (54, false)), (.fld (.t 6) 1 1 false), 7, [], [], [], []⟩,
          ⟨(some 57), (some (54, false)), (.fld (.t 7) 0 0 true), 8, [], [], [], []⟩,
          ⟨(some 58), (some (54, false)), (.fld (.t 7) 1 1 false), 9, [], [], [], []⟩,
          ⟨(some 59), (some (54, false)), (.bib true (.t 56) (.t 58)), 10, [], [], [], []⟩,
          ⟨(some 60), none, (.pick (.t 54) (.c (.bool true)) (.t 59)), 11, [], [], [], []⟩,
          ⟨(some 61), none, (.mov (.t 60)), 12, [], [], [], []⟩,
          ⟨(some 62), (some (61, false)), (.fld (.t 6) 0 0 true), 13, [], [], [], []⟩,
          ⟨(some 63), (some (61, false)), (.fld (.t 6) 2 1 false), 14, [], [], [], []⟩,
          ⟨(some 64), (some (61, false)), (.fld (.t 7) 0 0 true), 15, [], [], [], []⟩,
          ⟨(some 65), (some (61, false)), (.fld (.t 7) 2 1 false), 16, [], [], [], []⟩,
          ⟨(some 66), (some (61, false)), (.bib true (.t 63) (.t 65)), 17, [], [], [], []⟩,
          ⟨(some 67), none, (.pick (.t 61) (.c (.bool true)) (.t 66)), 18, [], [], [], []⟩,
          ⟨(some 68), none, (.mov (.t 67)), 19, [], [], [], []⟩,
          ⟨(some 69), (some (68, false)), (.fld (.t 6) 0 0 true), 20, [], [], [], []⟩,
          ⟨(some 70), (some (68, false)), (.fld (.t 6) 3 1 false), 21, [], [], [], []⟩,
          ⟨(some 71), (some (68, false)), (.fld (.t 7) 0 0 true), 22, [], [], [], []⟩,
          ⟨(some 72), (some (68, false)), (.fld (.t 7) 3 1 false), 23, [], [], [], []⟩,
          ⟨(some 73), (some (68, false)), (.bin .neq (.t 70) (.t 72)), 24, [], [], [], []⟩,
          ⟨(some 74), none, (.pick (.t 68) (.c (.bool true)) (.t 73)), 25, [], [], [], []⟩,
          ⟨(some 75), none, (.mov (.t 74)), 26, [], [], [], []⟩,
          ⟨(some 76), (some (75, false)), (.fld (.t 6) 0 0 true), 27, [], [], [], []⟩,
          ⟨(some 77), (some (75, false)), (.fld (.t 6) 4 1 false), 28, [], [], [], []⟩,
          ⟨(some 78), (some (75, false)), (.fld (.t 7) 0 0 true), 29, [], [], [], []⟩,
          ⟨(some 79), (some (75, false)), (.fld (.t 7) 4 1 false), 30, [], [], [], []⟩,
          ⟨(some 80), (some (75, false)), (.callS 19 [(.t 77), (.t 79)] true), 31, [], [], [], []⟩,
          ⟨(some 81), (some (75, false)), (.un .not (.t 80)), 32, [], [], [], []⟩,
          ⟨(some 82), none, (.pick (.t 75) (.c (.bool true)) (.t 81)), 33, [], [], [], []⟩])
        (.cond (.t 82)
          (.seq
           (.rgn 1 [
            ⟨(some 4), none, (.mov (.c (.bool false))), 0, [], [], [], []⟩])
          .ret)
          .skip))))
      (.rgn 3 [
       ⟨(some 37), none, (.mov (.t 5)), 0, [], [], [], []⟩,
       ⟨(some 38), none, (.bin .add (.t 37) (.c (.int .i64 1))), 1, [], [], [], []⟩,
       ⟨(some 5), none, (.mov (.t 38)), 2, [], [], [], []⟩]))))))
   (.seq
    (.seq
     (.rgn 1 [
      ⟨(some 8), none, (.mov (.c (.int .i64 0))), 0, [], [], [], []⟩])
    (.block 2
     (.loop
      (.seq
       (.seq
        (.rgn 5 [
         ⟨(some 83), none, (.mov (.t 8)), 0, [], [], [], []⟩,
         ⟨(some 84), none, (.fld (.t 2) 0 0 true), 1, [], [], [], []⟩,
         ⟨(some 85), none, (.fld (.t 2) 1 1 false), 2, [], [], [], []⟩,
         ⟨(some 86), none, (.len (.t 85)), 3, [], [], [], []⟩,
         ⟨(some 87), none, (.bin .lss (.t 83) (.t 86)), 4, [], [], [], []⟩])
       (.cond (.t 87)
         .skip
         (.exit 2)))
      (.seq
       (.block 3
        (.seq
         (.rgn 29 [
          ⟨(some 90), none, (.fld (.t 2) 0 0 true), 0, [], [], [], []⟩,
          ⟨(some 91), none, (.fld (.t 2) 1 1 false), 1, [], [], [], []⟩,
          ⟨(some 92), none, (.mov (.t 8)), 2, [], [], [], []⟩,
          ⟨(some 93), none, (.ia 2 (.t 91) (.t 92)), 3, [], [], [], []⟩,
          ⟨(some 94), none, (.fa (.t 93) 0), 4, [], [], [], []⟩,
          ⟨(some 95), none, (.ld (.t 94) 1 false), 5, [], [], [], []⟩,
          ⟨(some 96), none, (.fld (.t 3) 0 0 true), 6, [], [], [], []⟩,
          ⟨(some 97), none, (.fld (.t 3) 1 1 false), 7, [], [], [], []⟩,
          ⟨(some 98), none, (.mov (.t 8)), 8, [], [], [], []⟩,
          ⟨(some 99), none, (.ia 2 (.t 97) (.t 98)), 9, [], [], [], []⟩,
          ⟨(some 100), none, (.fa (.t 99) 0), 10, [], [], [], []⟩,
          ⟨(some 101), none, (.ld (.t 100) 1 false), 11, [], [], [], []⟩,
          ⟨(some 102), none, (.bin .neq (.t 95) (.t 101)), 12, [], [], [], []⟩,
          ⟨(some 103), none, (.mov (.t 102)), 13, [], [], [], []⟩,
          ⟨(some 104), (some (103, false)), (.fld (.t 2) 0 0 true), 14, [], [], [], []⟩,
          ⟨(some 105), (some (103, false)), (.fld (.t 2) 1 1 false), 15, [], [], [], []⟩,
          ⟨(some 106), (some (103, false)), (.mov (.t 8)), 16, [], [], [], []⟩,
          ⟨(some 107), (some (103, false)), (.ia 2 (.t 105) (.t 106)), 17, [], [], [], []⟩,
          ⟨(some 108), (some (103, false)), (.fa (.t 107) 1), 18, [], [], [], []⟩,
          ⟨(some 109), (some (103, false)), (.ld (.t 108) 1 false), 19, [], [], [], []⟩,
          ⟨(some 110), (some (103, false)), (.fld (.t 3) 0 0 true), 20, [], [], [], []⟩,
          ⟨(some 111), (some (103, false)), (.fld (.t 3) 1 1 false), 21, [], [], [], []⟩,
          ⟨(some 112), (some (103, false)), (.mov (.t 8)), 22, [], [], [], []⟩,
          ⟨(some 113), (some (103, false)), (.ia 2 (.t 111) (.t 112)), 23, [], [], [], []⟩,
          ⟨(some 114), (some (103, false)), (.fa (.t 113) 1), 24, [], [], [], []⟩,
          ⟨(some 115), (some (103, false)), (.ld (.t 114) 1 false), 25, [], [], [], []⟩,
          ⟨(some 116), (some (103, false)), (.callS 19 [(.t 109), (.t 115)] true), 26, [], [], [], []⟩,
          ⟨(some 117), (some (103, false)), (.un .not (.t 116)), 27, [], [], [], []⟩,
          ⟨(some 118), none, (.pick (.t 103) (.c (.bool true)) (.t 117)), 28, [], [], [], []⟩])
        (.cond (.t 118)
          (.seq
           (.rgn 1 [
            ⟨(some 4), none, (.mov (.c (.bool false))), 0, [], [], [], []⟩])
          .ret)
          .skip)))
      (.rgn 3 [
       ⟨(some 88), none, (.mov (.t 8)), 0, [], [], [], []⟩,
       ⟨(some 89), none, (.bin .add (.t 88) (.c (.int .i64 1))), 1, [], [], [], []⟩,
       ⟨(some 8), none, (.mov (.t 89)), 2, [], [], [], []⟩]))))))
   (.seq
    (.rgn 1 [
     ⟨(some 4), none, (.mov (.c (.bool true))), 0, [], [], [], []⟩])
   .ret)))))
  .ret)
def q15 : List ARes := [(.tmp 4)]
def v15 : UB := ⟨119, [(2, 3), (3, 3), (6, 5), (7, 5)], [9, 11, 15, 18, 24, 27, 33, 39, 44, 49, 51, 55, 57, 62, 64, 69, 71, 76, 78, 84, 90, 96, 104, 110]⟩
theorem kb15 : ubCode v15 (chkOps v15 r15) (.seq a15 .ret) = some b15 := by kernel_rfl
theorem kq15 : ubRes v15 r15 = some q15 := by kernel_rfl
theorem u15 {vs : List AV} {h : Hp} {n : Nat} {K : AV → Hp → Nat → Prop} (hl : vs.length ≤ 2) (hw : (∀ id, h id ≠ none → id < n) → wpA Try.prog b15 (retA q15 K) ⟨argS vs, h, n⟩) : CallsA Try.prog 15 vs h n K :=
  ub_use kb15 kq15 (m := 2) (by kernel_rfl) hl hw fun hw => e15 (by omega) hw
def b16 : ACode :=
  (.seq
   (.seq
    (.rgn 3 [
     ⟨(some 2), none, (.build [.undef, .undef, .undef] [(0, 3, (.t 0))]), 0, [], [], [], []⟩,
     ⟨(some 3), none, (.build [.undef, .undef, .undef] [(0, 3, (.t 1))]), 1, [], [], [], []⟩,
     ⟨(some 4), none, (.mov (.c (.bool false))), 2, [], [], [], []⟩])
   (.seq
    (.rgn 20 [
     ⟨(some 5), none, (.fld (.t 2) 0 0 true), 0, [], [], [], []⟩,
     ⟨(some 6), none, (.fld (.t 2) 0 1 false), 1, [], [], [], []⟩,
     ⟨(some 7), none, (.fld (.t 3) 0 0 true), 2, [], [], [], []⟩,
     ⟨(some 8), none, (.fld (.t 3) 0 1 false), 3, [], [], [], []⟩,
     ⟨(some 9), none, (.bin .eql (.t 6) (.t 8)), 4, [], [], [], []⟩,
     ⟨(some 10), none, (.mov (.t 9)), 5, [], [], [], []⟩,
     ⟨(some 11), (some (10, true)), (.fld (.t 2) 0 0 true), 6, [], [], [], []⟩,
     ⟨(some 12), (some (10, true)), (.fld (.t 2) 1 1 false), 7, [], [], [], []⟩,
     ⟨(some 13), (some (10, true)), (.fld (.t 3) 0 0 true), 8, [], [], [], []⟩,
     ⟨(some 14), (some (10, true)), (.fld (.t 3) 1 1 false), 9, [], [], [], []⟩,
     ⟨(some 15), (some (10, true)), (.bin .eql (.t 12) (.t 14)), 10, [], [], [], []⟩,
     ⟨(some 16), none, (.pick (.t 10) (.t 15) (.c (.bool false))), 11, [], [], [], []⟩,
     ⟨(some 17), none, (.mov (.t 16)), 12, [], [], [], []⟩,
     ⟨(some 18), (some (17, true)), (.fld (.t 2) 0 0 true), 13, [], [], [], []⟩,
     ⟨(some 19), (some (17, true)), (.fld (.t 2) 2 1 false), 14, [], [], [], []⟩,
     ⟨(some 20), (some (17, true)), (.fld (.t 3) 0 0 true), 15, [], [], [], []⟩,
     ⟨(some 21), (some (17, true)), (.fld (.t 3) 2 1 false), 16, [], [], [], []⟩,
     ⟨(some 22), (some (17, true)), (.callS 19 [(.t 19), (.t 21)] true), 17, [], [], [], []⟩,
     ⟨(some 23), none, (.pick (.t 17) (.t 22) (.c (.bool false))), 18, [], [], [], []⟩,
     ⟨(some 4), none, (.mov (.t 23)), 19, [], [], [], []⟩])
   .ret))
  .ret)
def q16 : List ARes := [(.tmp 4)]
def v16 : UB := ⟨24, [(2, 3), (3, 3)], [5, 7, 11, 13, 18, 20]⟩
theorem kb16 : ubCode v16 (chkOps v16 r16) (.seq a16 .ret) = some b16 := by kernel_rfl
theorem kq16 : ubRes v16 r16 = some q16 := by kernel_rfl
theorem u16 {vs : List AV} {h : Hp} {n : Nat} {K : AV → Hp → Nat → Prop} (hl : vs.length ≤ 2) (hw : (∀ id, h id ≠ none → id < n) → wpA Try.prog b16 (retA q16 K) ⟨argS vs, h, n⟩) : CallsA Try.prog 16 vs h n K :=
  ub_use kb16 kq16 (m := 2) (by kernel_rfl) hl hw fun hw => e16 (by omega) hw
def b17 : ACode :=
  (.seq
   (.seq
    (.rgn 3 [
     ⟨(some 2), none, (.build [.undef, .undef, .undef] [(0, 3, (.t 0))]), 0, [], [], [], []⟩,
     ⟨(some 3), none, (.build [.undef, .undef, .undef] [(0, 3, (.t 1))]), 1, [], [], [], []⟩,
     ⟨(some 4), none, (.mov (.c (.bool false))), 2, [], [], [], []⟩])
   (.seq
    (.rgn 1 [
     ⟨(some 5), none, (.mov (.c (.fn 35 []))), 0, [], [], [], []⟩])
   (.seq
    (.rgn 1 [
     ⟨(some 6), none, (.mov (.c (.fn 37 []))), 0, [], [], [], []⟩])
   (.seq
    (.rgn 22 [
     ⟨(some 7), none, (.fld (.t 2) 0 0 true), 0, [], [], [], []⟩,
     ⟨(some 8), none, (.fld (.t 2) 2 1 false), 1, [], [], [], []⟩,
     ⟨(some 9), none, (.fld (.t 3) 0 0 true), 2, [], [], [], []⟩,
     ⟨(some 10), none, (.fld (.t 3) 2 1 false), 3, [], [], [], []⟩,
     ⟨(some 11), none, (.bin .eql (.t 8) (.t 10)), 4, [], [], [], []⟩,
     ⟨(some 12), none, (.mov (.t 11)), 5, [], [], [], []⟩,
     ⟨(some 13), (some (12, true)), (.fld (.t 2) 0 0 true), 6, [], [], [], []⟩,
     ⟨(some 14), (some (12, true)), (.fld (.t 2) 0 1 false), 7, [], [], [], []⟩,
     ⟨(some 15), (some (12, true)), (.fld (.t 3) 0 0 true), 8, [], [], [], []⟩,
     ⟨(some 16), (some (12, true)), (.fld (.t 3) 0 1 false), 9, [], [], [], []⟩,
     ⟨(some 17), (some (12, true)), (.mov (.t 5)), 10, [], [], [], []⟩,
     ⟨(some 18), (some (12, true)), (.callS 38 [(.t 14), (.t 16), (.t 17)] true), 11, [], [], [], []⟩,
     ⟨(some 19), none, (.pick (.t 12) (.t 18) (.c (.bool false))), 12, [], [], [], []⟩,
     ⟨(some 20), none, (.mov (.t 19)), 13, [], [], [], []⟩,
     ⟨(some 21), (some (20, true)), (.fld (.t 2) 0 0 true), 14, [], [], [], []⟩,
     ⟨(some 22), (some (20, true)), (.fld (.t 2) 1 1 false), 15, [], [], [], []⟩,
     ⟨(some 23), (some (20, true)), (.fld (.t 3) 0 0 true), 16, [], [], [], []⟩,
     ⟨(some 24), (some (20, true)), (.fld (.t 3) 1 1 false), 17, [], [], [], []⟩,
     ⟨(some 25), (some (20, true)), (.mov (.t 6)), 18, [], [], [], []⟩,
     ⟨(some 26), (some (20, true)), (.callS 39 [(.t 22), (.t 24), (.t 25)] true), 19, [], [], [], []⟩,
     ⟨(some 27), none, (.pick (.t 20) (.t 26) (.c (.bool false))), 20, [], [], [], []⟩,
     ⟨(some 4), none, (.mov (.t 27)), 21, [], [], [], []⟩])
   .ret))))
  .ret)
def q17 : List ARes := [(.tmp 4)]
def v17 : UB := ⟨28, [(2, 3), (3, 3)], [7, 9, 13, 15, 21, 23]⟩
theorem kb17 : ubCode v17 (chkOps v17 r17) (.seq a17 .ret) = some b17 := by kernel_rfl
theorem kq17 : ubRes v17 r17 = some q17 := by kernel_rfl
theorem u17 {vs : List AV} {h : Hp} {n : Nat} {K : AV → Hp → Nat → Prop} (hl : vs.length ≤ 2) (hw : (∀ id, h id ≠ none → id < n) → wpA Try.prog b17 (retA q17 K) ⟨argS vs, h, n⟩) : CallsA Try.prog 17 vs h n K :=
  ub_use kb17 kq17 (m := 2) (by kernel_rfl) hl hw fun hw => e17 (by omega) hw
def b18 : ACode :=
  (.seq
   (.seq
    (.rgn 3 [
     ⟨(some 2), none, (.build [.undef, .undef, .undef] [(0, 3, (.t 0))]), 0, [], [], [], []⟩,
     ⟨(some 3), none, (.build [.undef, .undef, .undef] [(0, 3, (.t 1))]), 1, [], [], [], []⟩,
     ⟨(some 4), none, (.mov (.c (.bool false))), 2, [], [], [], []⟩])
   (.seq
    (.rgn 20 [
     ⟨(some 5), none, (.fld (.t 2) 0 0 true), 0, [], [], [], []⟩,
     ⟨(some 6), none, (.fld (.t 2) 0 1 false), 1, [], [], [], []⟩,
     ⟨(some 7), none, (.fld (.t 3) 0 0 true), 2, [], [], [], []⟩,
     ⟨(some 8), none, (.fld (.t 3) 0 1 false), 3, [], [], [], []⟩,
     ⟨(some 9), none, (.bin .eql (.t 6) (.t 8)), 4, [], [], [], []⟩,
     ⟨(some 10), none, (.mov (.t 9)), 5, [], [], [], []⟩,
     ⟨(some 11), (some (10, true)), (.fld (.t 2) 0 0 true), 6, [], [], [], []⟩,
     ⟨(some 12), (some (10, true)), (.fld (.t 2) 1 1 false), 7, [], [], [], []⟩,
     ⟨(some 13), (some (10, true)), (.fld (.t 3) 0 0 true), 8, [], [], [], []⟩,
     ⟨(some 14), (some (10, true)), (.fld (.t 3) 1 1 false), 9, [], [], [], []⟩,
     ⟨(some 15), (some (10, true)), (.bin .eql (.t 12) (.t 14)), 10, [], [], [], []⟩,
     ⟨(some 16), none, (.pick (.t 10) (.t 15) (.c (.bool false))), 11, [], [], [], []⟩,
     ⟨(some 17), none, (.mov (.t 16)), 12, [], [], [], []⟩,
     ⟨(some 18), (some (17, true)), (.fld (.t 2) 0 0 true), 13, [], [], [], []⟩,
     ⟨(some 19), (some (17, true)), (.fld (.t 2) 2 1 false), 14, [], [], [], []⟩,
     ⟨(some 20), (some (17, true)), (.fld (.t 3) 0 0 true), 15, [], [], [], []⟩,
     ⟨(some 21), (some (17, true)), (.fld (.t 3) 2 1 false), 16, [], [], [], []⟩,
     ⟨(some 22), (some (17, true)), (.callS 36 [(.t 19), (.t 21)] true), 17, [], [], [], []⟩,
     ⟨(some 23), none, (.pick (.t 17) (.t 22) (.c (.bool false))), 18, [], [], [], []⟩,
     ⟨(some 4), none, (.mov (.t 23)), 19, [], [], [], []⟩])
   .ret))
  .ret)
def q18 : List ARes := [(.tmp 4)]
def v18 : UB := ⟨24, [(2, 3), (3, 3)], [5, 7, 11, 13, 18, 20]⟩
theorem kb18 : ubCode v18 (chkOps v18 r18) (.seq a18 .ret) = some b18 := by kernel_rfl
theorem kq18 : ubRes v18 r18 = some q18 := by kernel_rfl
theorem u18 {vs : List AV} {h : Hp} {n : Nat} {K : AV → Hp → Nat → Prop} (hl : vs.length ≤ 2) (hw : (∀ id, h id ≠ none → id < n) → wpA Try.prog b18 (retA q18 K) ⟨argS vs, h, n⟩) : CallsA Try.prog 18 vs h n K :=
  ub_use kb18 kq18 (m := 2) (by kernel_rfl) hl hw fun hw => e18 (by omega) hw
def b25 : ACode :=
  (.seq
   (.seq
    (.rgn 2 [
     ⟨(some 1), none, (.build [.undef, .undef, .undef, .undef, .undef, .undef, .undef, .undef] [(0, 8, (.t 0))]), 0, [], [], [], []⟩,
     ⟨(some 2), none, (.mov (.c (.bool false))), 1, [], [], [], []⟩])
   (.seq
    (.seq
     (.rgn 2 [
      ⟨(some 3), none, (.fld (.t 1) 0 0 true), 0, [], [], [], []⟩,
      ⟨(some 4), none, (.fld (.t 1) 0 1 false), 1, [], [], [], []⟩])
    (.block 0
     (.seq
      (.seq
       (.rgn 2 [
        ⟨(some 6), none, (.bin .eql (.t 4) (.c (.int .i64 1))), 0, [], [], [], []⟩,
        ⟨(some 5), none, (.mov (.t 6)), 1, [], [], [], []⟩])
      (.cond (.t 5)
        .skip
        (.seq
         (.rgn 2 [
          ⟨(some 7), none, (.bin .eql (.t 4) (.c (.int .i64 2))), 0, [], [], [], []⟩,
          ⟨(some 5), none, (.mov (.t 7)), 1, [], [], [], []⟩])
        (.cond (.t 5)
          .skip
          (.seq
           (.rgn 2 [
            ⟨(some 8), none, (.bin .eql (.t 4) (.c (.int .i64 3))), 0, [], [], [], []⟩,
            ⟨(some 5), none, (.mov (.t 8)), 1, [], [], [], []⟩])
          (.cond (.t 5)
            .skip
            (.seq
             (.rgn 2 [
              ⟨(some 9), none, (.bin .eql (.t 4) (.c (.int .i64 4))), 0, [], [], [], []⟩,
              ⟨(some 5), none, (.mov (.t 9)), 1, [], [], [], []⟩])
            (.cond (.t 5)
              .skip
              (.rgn 2 [
               ⟨(some 10), none, (.bin .eql (.t 4) (.c (.int .i64 5))), 0, [], [], [], []⟩,
               ⟨(some 5), none, (.mov (.t 10)), 1, [], [], [], []⟩])))))))))
     (.cond (.t 5)
       (.seq
        (.rgn 9 [
         ⟨(some 11), none, (.fld (.t 1) 0 0 true), 0, [], [], [], []⟩,
         ⟨(some 12), none, (.fld (.t 1) 1 1 false), 1, [], [], [], []⟩,
         ⟨(some 13), none, (.bin .lss (.t 12) (.c (.int .i64 0))), 2, [], [], [], []⟩,
         ⟨(some 14), none, (.mov (.t 13)), 3, [], [], [], []⟩,
         ⟨(some 15), (some (14, false)), (.fld (.t 1) 0 0 true), 4, [], [], [], []⟩,
         ⟨(some 16), (some (14, false)), (.fld (.t 1) 1 1 false), 5, [], [], [], []⟩,
         ⟨(some 17), (some (14, false)), (.bin .geq (.t 16) (.c (.int .i64 16))), 6, [], [], [], []⟩,
         ⟨(some 18), none, (.pick (.t 14) (.c (.bool true)) (.t 17)), 7, [], [], [], []⟩,
         ⟨(some 2), none, (.mov (.t 18)), 8, [], [], [], []⟩])
       .ret)
       .skip))))
   (.seq
    (.rgn 9 [
     ⟨(some 19), none, (.fld (.t 1) 0 0 true), 0, [], [], [], []⟩,
     ⟨(some 20), none, (.fld (.t 1) 0 1 false), 1, [], [], [], []⟩,
     ⟨(some 21), none, (.bin .neq (.t 20) (.c (.int .i64 6))), 2, [], [], [], []⟩,
     ⟨(some 22), none, (.mov (.t 21)), 3, [], [], [], []⟩,
     ⟨(some 23), (some (22, true)), (.fld (.t 1) 0 0 true), 4, [], [], [], []⟩,
     ⟨(some 24), (some (22, true)), (.fld (.t 1) 0 1 false), 5, [], [], [], []⟩,
     ⟨(some 25), (some (22, true)), (.bin .neq (.t 24) (.c (.int .i64 7))), 6, [], [], [], []⟩,
     ⟨(some 26), none, (.pick (.t 22) (.t 25) (.c (.bool false))), 7, [], [], [], []⟩,
     ⟨(some 2), none, (.mov (.t 26)), 8, [], [], [], []⟩])
   .ret)))
  .ret)
def q25 : List ARes := [(.tmp 2)]
def v25 : UB := ⟨27, [(1, 8)], [3, 11, 15, 19, 23]⟩
theorem kb25 : ubCode v25 (chkOps v25 r25) (.seq a25 .ret) = some b25 := by kernel_rfl
theorem kq25 : ubRes v25 r25 = some q25 := by kernel_rfl
theorem u25 {vs : List AV} {h : Hp} {n : Nat} {K : AV → Hp → Nat → Prop} (hl : vs.length ≤ 1) (hw : (∀ id, h id ≠ none → id < n) → wpA Try.prog b25 (retA q25 K) ⟨argS vs, h, n⟩) : CallsA Try.prog 25 vs h n K :=
  ub_use kb25 kq25 (m := 1) (by kernel_rfl) hl hw fun hw => e25 (by omega) hw
def b26 : ACode :=
  (.seq
   (.seq
    (.rgn 2 [
     ⟨(some 1), none, (.build [.undef, .undef, .undef] [(0, 3, (.t 0))]), 0, [], [], [], []⟩,
     ⟨(some 2), none, (.mov (.c (.agg [(.isl (some true) true []), (.isl (some true) true []), (.int .i64 0)]))), 1, [], [], [], []⟩])
   (.seq
    (.rgn 11 [
     ⟨(some 6), none, (.fld (.t 1) 0 0 true), 0, [], [], [], []⟩,
     ⟨(some 7), none, (.fld (.t 1) 0 1 false), 1, [], [], [], []⟩,
     ⟨(some 9), none, (.fld (.t 1) 0 0 true), 3, [], [], [], []⟩,
     ⟨(some 10), none, (.fld (.t 1) 1 1 false), 4, [], [], [], []⟩,
     ⟨(some 12), none, (.fld (.t 1) 0 0 true), 6, [], [], [], []⟩,
     ⟨(some 13), none, (.fld (.t 1) 2 1 false), 7, [], [], [], []⟩,
     ⟨(some 3), none, (.mov (.c (.agg [(.isl (some true) true []), (.isl (some true) true []), (.int .i64 0)]))), 9, [], [], [], []⟩,
     ⟨(some 8), none, (.callS 46 [(.t 7)] true), 2, [9], [], [], []⟩,
     ⟨(some 11), none, (.callS 47 [(.t 10)] true), 5, [9], [], [], []⟩,
     ⟨(some 14), none, (.build [(.isl (some true) true []), (.isl (some true) true []), (.int .i64 0)] [(0, (1, (.t 8))), (1, (1, (.t 11))), (2, (1, (.t 13)))]), 8, [], [], [], []⟩,
     ⟨(some 54), none, (.fld (.t 3) 0 0 true), 10, [], [], [], []⟩,
     ⟨(some 55), none, (.fld (.t 3) 3 0 true), 10, [], [], [], []⟩,
     ⟨(some 3), none, (.build [.undef, .undef, .undef] [(0, 0, (.t 54)), (0, 3, (.t 14)), (3, 0, (.t 55))]), 10, [], [], [], []⟩])
   (.seq
    (.seq
     (.rgn 4 [
      ⟨(some 15), none, (.fld (.t 3) 0 0 true), 0, [], [], [], []⟩,
      ⟨(some 16), none, (.fld (.t 3) 0 1 false), 1, [], [], [], []⟩,
      ⟨(some 17), none, (.len (.t 16)), 2, [], [], [], []⟩,
      ⟨(some 18), none, (.mov (.c (.int .i64 0))), 3, [], [], [], []⟩])
    (.block 0
     (.loop
      (.seq
       (.rgn 1 [
        ⟨(some 19), none, (.bin .lss (.t 18) (.t 17)), 0, [], [], [], []⟩])
      (.seq
       (.cond (.t 19)
         .skip
         (.exit 0))
      (.seq
       (.block 1
        (.seq
         (.rgn 2 [
          ⟨(some 20), none, (.mov (.t 18)), 0, [], [], [], []⟩,
          ⟨(some 4), none, (.mov (.t 20)), 1, [], [], [], []⟩])
        (.rgn 13 [
         ⟨(some 21), none, (.fld (.t 3) 0 0 true), 0, [], [], [], []⟩,
         ⟨(some 22), none, (.fld (.t 3) 0 1 false), 1, [], [], [], []⟩,
         ⟨(some 23), none, (.mov (.t 4)), 2, [], [], [], []⟩,
         ⟨(some 24), none, (.fld (.t 3) 0 0 true), 3, [], [], [], []⟩,
         ⟨(some 25), none, (.fld (.t 3) 0 1 false), 4, [], [], [], []⟩,
         ⟨(some 26), none, (.mov (.t 4)), 5, [], [], [], []⟩,
         ⟨(some 27), none, (.ia 5 (.t 25) (.t 26)), 6, [], [], [], []⟩,
         ⟨(some 28), none, (.fa (.t 27) 4), 7, [], [], [], []⟩,
         ⟨(some 29), none, (.ld (.t 28) 1 false), 8, [], [], [], []⟩,
         ⟨(some 30), none, (.callS 48 [(.t 29)] true), 9, [], [], [], []⟩,
         ⟨(some 31), none, (.ia 5 (.t 22) (.t 23)), 10, [], [], [], []⟩,
         ⟨(some 32), none, (.fa (.t 31) 4), 11, [], [], [], []⟩,
         ⟨none, none, (.st (.t 32) 1 (.t 30)), 12, [], [], [], []⟩])))
      (.rgn 2 [
       ⟨(some 33), none, (.bin .add (.t 18) (.c (.int .i64 1))), 0, [], [], [], []⟩,
       ⟨(some 18), none, (.mov (.t 33)), 1, [], [], [], []⟩])))))))
   (.seq
    (.seq
     (.rgn 4 [
      ⟨(some 34), none, (.fld (.t 3) 0 0 true), 0, [], [], [], []⟩,
      ⟨(some 35), none, (.fld (.t 3) 1 1 false), 1, [], [], [], []⟩,
      ⟨(some 36), none, (.len (.t 35)), 2, [], [], [], []⟩,
      ⟨(some 37), none, (.mov (.c (.int .i64 0))), 3, [], [], [], []⟩])
    (.block 2
     (.loop
      (.seq
       (.rgn 1 [
        ⟨(some 38), none, (.bin .lss (.t 37) (.t 36)), 0, [], [], [], []⟩])
      (.seq
       (.cond (.t 38)
         .skip
         (.exit 2))
      (.seq
       (.block 3
        (.seq
         (.rgn 2 [
          ⟨(some 39), none, (.mov (.t 37)), 0, [], [], [], []⟩,
          ⟨(some 5), none, (.mov (.t 39)), 1, [], [], [], []⟩])
        (.rgn 13 [
         ⟨(some 40), none, (.fld (.t 3) 0 0 true), 0, [], [], [], []⟩,
         ⟨(some 41), none, (.fld (.t 3) 1 1 false), 1, [], [], [], []⟩,
         ⟨(some 42), none, (.mov (.t 5)), 2, [], [], [], []⟩,
         ⟨(some 43), none, (.fld (.t 3) 0 0 true), 3, [], [], [], []⟩,
         ⟨(some 44), none, (.fld (.t 3) 1 1 false), 4, [], [], [], []⟩,
         ⟨(some 45), none, (.mov (.t 5)), 5, [], [], [], []⟩,
         ⟨(some 46), none, (.ia 2 (.t 44) (.t 45)), 6, [], [], [], []⟩,
         ⟨(some 47), none, (.fa (.t 46) 1), 7, [], [], [], []⟩,
         ⟨(some 48), none, (.ld (.t 47) 1 false), 8, [], [], [], []⟩,
         ⟨(some 49), none, (.callS 48 [(.t 48)] true), 9, [], [], [], []⟩,
         ⟨(some 50), none, (.ia 2 (.t 41) (.t 42)), 10, [], [], [], []⟩,
         ⟨(some 51), none, (.fa (.t 50) 1), 11, [], [], [], []⟩,
         ⟨none, none, (.st (.t 51) 1 (.t 49)), 12, [], [], [], []⟩])))
      (.rgn 2 [
       ⟨(some 52), none, (.bin .add (.t 37) (.c (.int .i64 1))), 0, [], [], [], []⟩,
       ⟨(some 37), none, (.mov (.t 52)), 1, [], [], [], []⟩])))))))
   (.seq
    (.rgn 2 [
     ⟨(some 53), none, (.fld (.t 3) 0 3 true), 0, [], [], [], []⟩,
     ⟨(some 54), none, (.fld (.t 2) 0 0 true), 1, [], [], [], []⟩,
     ⟨(some 55), none, (.fld (.t 2) 3 0 true), 1, [], [], [], []⟩,
     ⟨(some 2), none, (.build [.undef, .undef, .undef] [(0, 0, (.t 54)), (0, 3, (.t 53)), (3, 0, (.t 55))]), 1, [], [], [], []⟩])
   (.seq
    (.rgn 0 [
     ⟨(some 54), none, (.fld (.t 2) 0 0 true), 0, [], [], [], []⟩])
   .ret))))))
  (.seq
   (.rgn 0 [
    ⟨(some 54), none, (.fld (.t 2) 0 0 true), 0, [], [], [], []⟩])
  .ret))
def q26 : List ARes := [(.tmp 2)]
def v26 : UB := ⟨54, [(1, 3), (2, 3), (3, 3)], [6, 9, 12, 15, 21, 24, 34, 40, 43]⟩
theorem kb26 : ubCode v26 (chkOps v26 r26) (.seq a26 .ret) = some b26 := by kernel_rfl
theorem kq26 : ubRes v26 r26 = some q26 := by kernel_rfl
theorem u26 {vs : List AV} {h : Hp} {n : Nat} {K : AV → Hp → Nat → Prop} (hl : vs.length ≤ 1) (hw : (∀ id, h id ≠ none → id < n) → wpA Try.prog b26 (retA q26 K) ⟨argS vs, h, n⟩) : CallsA Try.prog 26 vs h n K :=
  ub_use kb26 kq26 (m := 1) (by kernel_rfl) hl hw fun hw => e26 (by omega) hw
def b27 : ACode :=
  (.seq
   (.seq
    (.rgn 2 [
     ⟨(some 3), none, (.box 28 (.t 1)), 0, [], [], [], []⟩,
     ⟨(some 4), none, (.mov (.c (.agg [(.int .i64 0), (.int .i64 0), (.isl (some true) true [])]))), 1, [], [], [], []⟩])
   (.seq
    (.rgn 7 [
     ⟨(some 9), none, (.mov (.t 0)), 0, [], [], [], []⟩,
     ⟨(some 10), none, (.nck (.t 9)), 1, [], [], [], []⟩,
     ⟨(some 11), none, (.fa (.t 10) 1), 2, [], [], [], []⟩,
     ⟨(some 12), none, (.ld (.t 11) 1 false), 3, [], [], [], []⟩,
     ⟨(some 13), none, (.mkf 50 [(.t 3)]), 4, [], [], [], []⟩,
     ⟨(some 14), none, (.callS 49 [(.t 12), (.t 13)] true), 5, [], [], [], []⟩,
     ⟨(some 5), none, (.mov (.t 14)), 6, [], [], [], []⟩])
   (.seq
    (.seq
     (.rgn 2 [
      ⟨(some 15), none, (.mov (.t 5)), 0, [], [], [], []⟩,
      ⟨(some 16), none, (.bin .lss (.t 15) (.c (.int .i64 0))), 1, [], [], [], []⟩])
    (.cond (.t 16)
      (.seq
       (.rgn 2 [
        ⟨(some 17), none, (.build [(.int .i64 0), (.int .i64 0), (.isl (some true) true [])] [(0, (1, (.c (.int .i64 3))))]), 0, [], [], [], []⟩,
        ⟨(some 67), none, (.fld (.t 4) 0 0 true), 1, [], [], [], []⟩,
        ⟨(some 68), none, (.fld (.t 4) 3 0 true), 1, [], [], [], []⟩,
        ⟨(some 4), none, (.build [.undef, .undef, .undef] [(0, 0, (.t 67)), (0, 3, (.t 17)), (3, 0, (.t 68))]), 1, [], [], [], []⟩])
      (.seq
       (.rgn 0 [
        ⟨(some 67), none, (.fld (.t 4) 0 0 true), 0, [], [], [], []⟩])
      .ret))
      .skip))
   (.seq
    (.seq
     (.rgn 3 [
      ⟨(some 18), none, (.fa (.t 3) 0), 0, [], [], [], []⟩,
      ⟨(some 19), none, (.ld (.t 18) 1 false), 1, [], [], [], []⟩,
      ⟨(some 20), none, (.bin .eql (.t 19) (.c (.int .i64 7))), 2, [], [], [], []⟩])
    (.cond (.t 20)
      (.seq
       (.rgn 12 [
        ⟨(some 21), none, (.mov (.t 0)), 0, [], [], [], []⟩,
        ⟨(some 22), none, (.mov (.t 0)), 1, [], [], [], []⟩,
        ⟨(some 23), none, (.nck (.t 22)), 2, [], [], [], []⟩,
        ⟨(some 24), none, (.fa (.t 23) 1), 3, [], [], [], []⟩,
        ⟨(some 25), none, (.ld (.t 24) 1 false), 4, [], [], [], []⟩,
        ⟨(some 26), none, (.mov (.t 5)), 5, [], [], [], []⟩,
        ⟨(some 27), none, (.mov (.t 5)), 6, [], [], [], []⟩,
        ⟨(some 28), none, (.bin .add (.t 27) (.c (.int .i64 1))), 7, [], [], [], []⟩,
        ⟨(some 29), none, (.callS 51 [(.t 25), (.t 26), (.t 28)] false), 8, [], [], [], []⟩,
        ⟨(some 30), none, (.nck (.t 21)), 9, [], [], [], []⟩,
        ⟨(some 31), none, (.fa (.t 30) 1), 10, [], [], [], []⟩,
        ⟨none, none, (.st (.t 31) 1 (.t 29)), 11, [], [], [], []⟩])
      (.seq
       (.rgn 2 [
        ⟨(some 32), none, (.build [(.int .i64 0), (.int .i64 0), (.isl (some true) true [])] []), 0, [], [], [], []⟩,
        ⟨(some 67), none, (.fld (.t 4) 0 0 true), 1, [], [], [], []⟩,
        ⟨(some 68), none, (.fld (.t 4) 3 0 true), 1, [], [], [], []⟩,
        ⟨(some 4), none, (.build [.undef, .undef, .undef] [(0, 0, (.t 67)), (0, 3, (.t 32)), (3, 0, (.t 68))]), 1, [], [], [], []⟩])
      (.seq
       (.rgn 0 [
        ⟨(some 67), none, (.fld (.t 4) 0 0 true), 0, [], [], [], []⟩])
      .ret)))
      .skip))
   (.seq
    (.rgn 7 [
     ⟨(some 33), none, (.mov (.t 0)), 0, [], [], [], []⟩,
     ⟨(some 34), none, (.nck (.t 33)), 1, [], [], [], []⟩,
     ⟨(some 35), none, (.fa (.t 34) 1), 2, [], [], [], []⟩,
     ⟨(some 36), none, (.ld (.t 35) 1 false), 3, [], [], [], []⟩,
     ⟨(some 37), none, (.mov (.t 5)), 4, [], [], [], []⟩,
     ⟨(some 38), none, (.ia 2 (.t 36) (.t 37)), 5, [], [], [], []⟩,
     ⟨(some 6), none, (.mov (.t 38)), 6, [], [], [], []⟩])
   (.seq
    (.rgn 10 [
     ⟨(some 39), none, (.fa (.t 3) 7), 0, [], [], [], []⟩,
     ⟨(some 40), none, (.ld (.t 39) 1 false), 1, [], [], [], []⟩,
     ⟨(some 41), none, (.max [(.t 40), (.c (.int .i64 0))]), 2, [], [], [], []⟩,
     ⟨(some 42), none, (.mov (.t 6)), 3, [], [], [], []⟩,
     ⟨(some 43), none, (.nck (.t 42)), 4, [], [], [], []⟩,
     ⟨(some 44), none, (.fa (.t 43) 1), 5, [], [], [], []⟩,
     ⟨(some 45), none, (.ld (.t 44) 1 false), 6, [], [], [], []⟩,
     ⟨(some 46), none, (.len (.t 45)), 7, [], [], [], []⟩,
     ⟨(some 47), none, (.min [(.t 41), (.c (.int .i64 1000)), (.t 46)]), 8, [], [], [], []⟩,
     ⟨(some 7), none, (.mov (.t 47)), 9, [], [], [], []⟩])
   (.seq
    (.rgn 8 [
     ⟨(some 48), none, (.mov (.t 6)), 0, [], [], [], []⟩,
     ⟨(some 49), none, (.nck (.t 48)), 1, [], [], [], []⟩,
     ⟨(some 50), none, (.fa (.t 49) 1), 2, [], [], [], []⟩,
     ⟨(some 51), none, (.ld (.t 50) 1 false), 3, [], [], [], []⟩,
     ⟨(some 52), none, (.mov (.t 7)), 4, [], [], [], []⟩,
     ⟨(some 53), none, (.slc 2 (.t 51) none (some (.t 52)) none), 5, [], [], [], []⟩,
     ⟨(some 54), none, (.callS 48 [(.t 53)] true), 6, [], [], [], []⟩,
     ⟨(some 8), none, (.mov (.t 54)), 7, [], [], [], []⟩])
   (.seq
    (.rgn 11 [
     ⟨(some 55), none, (.mov (.t 6)), 0, [], [], [], []⟩,
     ⟨(some 56), none, (.mov (.t 6)), 1, [], [], [], []⟩,
     ⟨(some 57), none, (.nck (.t 56)), 2, [], [], [], []⟩,
     ⟨(some 58), none, (.fa (.t 57) 1), 3, [], [], [], []⟩,
     ⟨(some 59), none, (.ld (.t 58) 1 false), 4, [], [], [], []⟩,
     ⟨(some 60), none, (.mov (.t 7)), 5, [], [], [], []⟩,
     ⟨(some 61), none, (.slc 2 (.t 59) (some (.t 60)) none none), 6, [], [], [], []⟩,
     ⟨(some 62), none, (.callS 48 [(.t 61)] true), 7, [], [], [], []⟩,
     ⟨(some 63), none, (.nck (.t 55)), 8, [], [], [], []⟩,
     ⟨(some 64), none, (.fa (.t 63) 1), 9, [], [], [], []⟩,
     ⟨none, none, (.st (.t 64) 1 (.t 62)), 10, [], [], [], []⟩])
   (.seq
    (.rgn 3 [
     ⟨(some 65), none, (.mov (.t 8)), 0, [], [], [], []⟩,
     ⟨(some 66), none, (.build [(.int .i64 0), (.int .i64 0), (.isl (some true) true [])] [(2, (1, (.t 65)))]), 1, [], [], [], []⟩,
     ⟨(some 67), none, (.fld (.t 4) 0 0 true), 2, [], [], [], []⟩,
     ⟨(some 68), none, (.fld (.t 4) 3 0 true), 2, [], [], [], []⟩,
     ⟨(some 4), none, (.build [.undef, .undef, .undef] [(0, 0, (.t 67)), (0, 3, (.t 66)), (3, 0, (.t 68))]), 2, [], [], [], []⟩])
   (.seq
    (.rgn 0 [
     ⟨(some 67), none, (.fld (.t 4) 0 0 true), 0, [], [], [], []⟩])
   .ret))))))))))
  (.seq
   (.rgn 0 [
    ⟨(some 67), none, (.fld (.t 4) 0 0 true), 0, [], [], [], []⟩])
  .ret))
def q27 : List ARes := [(.tmp 4)]
def v27 : UB := ⟨67, [(4, 3)], []⟩
theorem kb27 : ubCode v27 (chkOps v27 r27) (.seq a27 .ret) = some b27 := by kernel_rfl
theorem kq27 : ubRes v27 r27 = some q27 := by kernel_rfl
theorem u27 {vs : List AV} {h : Hp} {n : Nat} {K : AV → Hp → Nat → Prop} (hl : vs.length ≤ 4) (hw : (∀ id, h id ≠ none → id < n) → wpA Try.prog b27 (retA q27 K) ⟨argS vs, h, n⟩) : CallsA Try.prog 27 vs h n K :=
  ub_use kb27 kq27 (m := 4) (by kernel_rfl) hl hw fun hw => e27 (by omega) hw
def b28 : ACode :=
  (.seq
   (.seq
    (.rgn 2 [
     ⟨(some 3), none, (.build [.undef, .undef, .undef, .undef, .undef, .undef, .undef, .undef] [(0, 8, (.t 1))]), 0, [], [], [], []⟩,
     ⟨(some 4), none, (.mov (.c (.agg [(.int .i64 0), (.int .i64 0), (.isl (some true) true [])]))), 1, [], [], [], []⟩])
   (.seq
    (.rgn 12 [
     ⟨(some 9), none, (.mov (.t 0)), 0, [], [], [], []⟩,
     ⟨(some 10), none, (.nck (.t 9)), 1, [], [], [], []⟩,
     ⟨(some 11), none, (.fa (.t 10) 0), 2, [], [], [], []⟩,
     ⟨(some 12), none, (.ld (.t 11) 1 false), 3, [], [], [], []⟩,
     ⟨(some 13), none, (.fld (.t 3) 0 0 true), 4, [], [], [], []⟩,
     ⟨(some 14), none, (.fld (.t 3) 1 1 false), 5, [], [], [], []⟩,
     ⟨(some 15), none, (.callS 52 [(.t 12), (.t 14)] true), 6, [], [], [], []⟩,
     ⟨(some 8), none, (.mov (.t 15)), 7, [], [], [], []⟩,
     ⟨(some 16), none, (.ext (.t 8) 0), 8, [], [], [], []⟩,
     ⟨(some 17), none, (.ext (.t 8) 1), 9, [], [], [], []⟩,
     ⟨(some 5), none, (.mov (.t 16)), 10, [], [], [], []⟩,
     ⟨(some 6), none, (.mov (.t 17)), 11, [], [], [], []⟩])
   (.seq
    (.seq
     (.rgn 3 [
      ⟨(some 18), none, (.fld (.t 3) 0 0 true), 0, [], [], [], []⟩,
      ⟨(some 19), none, (.fld (.t 3) 0 1 false), 1, [], [], [], []⟩,
      ⟨(some 20), none, (.bin .eql (.t 19) (.c (.int .i64 1))), 2, [], [], [], []⟩])
    (.cond (.t 20)
      (.seq
       (.rgn 7 [
        ⟨(some 21), none, (.mov (.t 0)), 0, [], [], [], []⟩,
        ⟨(some 22), none, (.mov (.t 5)), 1, [], [], [], []⟩,
        ⟨(some 23), none, (.mov (.t 6)), 2, [], [], [], []⟩,
        ⟨(some 24), none, (.fld (.t 3) 0 8 true), 3, [], [], [], []⟩,
        ⟨(some 25), none, (.callS 53 [(.t 21), (.t 22), (.t 23), (.t 24)] false), 4, [], [], [], []⟩,
        ⟨(some 26), none, (.build [(.int .i64 0), (.int .i64 0), (.isl (some true) true [])] [(0, (1, (.t 25)))]), 5, [], [], [], []⟩,
        ⟨(some 118), none, (.fld (.t 4) 0 0 true), 6, [], [], [], []⟩,
        ⟨(some 119), none, (.fld (.t 4) 3 0 true), 6, [], [], [], []⟩,
        ⟨(some 4), none, (.build [.undef, .undef, .undef] [(0, 0, (.t 118)), (0, 3, (.t 26)), (3, 0, (.t 119))]), 6, [], [], [], []⟩])
      (.seq
       (.rgn 0 [
        ⟨(some 118), none, (.fld (.t 4) 0 0 true), 0, [], [], [], []⟩])
      .ret))
      .skip))
   (.seq
    (.seq
     (.rgn 2 [
      ⟨(some 27), none, (.mov (.t 6)), 0, [], [], [], []⟩,
      ⟨(some 28), none, (.un .not (.t 27)), 1, [], [], [], []⟩])
    (.cond (.t 28)
      (.seq
       (.rgn 2 [
        ⟨(some 29), none, (.build [(.int .i64 0), (.int .i64 0), (.isl (some true) true [])] [(0, (1, (.c (.int .i64 3))))]), 0, [], [], [], []⟩,
        ⟨(some 118), none, (.fld (.t 4) 0 0 true), 1, [], [], [], []⟩,
        ⟨(some 119), none, (.fld (.t 4) 3 0 true), 1, [], [], [], []⟩,
        ⟨(some 4), none, (.build [.undef, .undef, .undef] [(0, 0, (.t 118)), (0, 3, (.t 29)), (3, 0, (.t 119))]), 1, [], [], [], []⟩])
      (.seq
       (.rgn 0 [
        ⟨(some 118), none, (.fld (.t 4) 0 0 true), 0, [], [], [], []⟩])
      .ret))
      .skip))
   (.seq
    (.rgn 7 [
     ⟨(some 30), none, (.mov (.t 0)), 0, [], [], [], []⟩,
     ⟨(some 31), none, (.nck (.t 30)), 1, [], [], [], []⟩,
     ⟨(some 32), none, (.fa (.t 31) 0), 2, [], [], [], []⟩,
     ⟨(some 33), none, (.ld (.t 32) 1 false), 3, [], [], [], []⟩,
     ⟨(some 34), none, (.mov (.t 5)), 4, [], [], [], []⟩,
     ⟨(some 35), none, (.ia 5 (.t 33) (.t 34)), 5, [], [], [], []⟩,
     ⟨(some 7), none, (.mov (.t 35)), 6, [], [], [], []⟩])
   (.seq
    (.seq
     (.rgn 2 [
      ⟨(some 36), none, (.fld (.t 3) 0 0 true), 0, [], [], [], []⟩,
      ⟨(some 37), none, (.fld (.t 3) 0 1 false), 1, [], [], [], []⟩])
    (.block 0
     (.seq
      (.rgn 2 [
       ⟨(some 39), none, (.bin .eql (.t 37) (.c (.int .i64 2))), 0, [], [], [], []⟩,
       ⟨(some 38), none, (.mov (.t 39)), 1, [], [], [], []⟩])
     (.cond (.t 38)
       (.seq
        (.rgn 11 [
         ⟨(some 40), none, (.mov (.t 7)), 0, [], [], [], []⟩,
         ⟨(some 41), none, (.nck (.t 40)), 1, [], [], [], []⟩,
         ⟨(some 42), none, (.fa (.t 41) 4), 2, [], [], [], []⟩,
         ⟨(some 43), none, (.ld (.t 42) 1 false), 3, [], [], [], []⟩,
         ⟨(some 44), none, (.fld (.t 3) 0 0 true), 4, [], [], [], []⟩,
         ⟨(some 45), none, (.fld (.t 3) 5 1 false), 5, [], [], [], []⟩,
         ⟨(some 46), none, (.fld (.t 3) 0 0 true), 6, [], [], [], []⟩,
         ⟨(some 47), none, (.fld (.t 3) 6 1 false), 7, [], [], [], []⟩,
         ⟨(some 48), none, (.callS 54 [(.t 43), (.t 45), (.t 47)] true), 8, [], [], [], []⟩,
         ⟨(some 49), none, (.build [(.int .i64 0), (.int .i64 0), (.isl (some true) true [])] [(2, (1, (.t 48)))]), 9, [], [], [], []⟩,
         ⟨(some 118), none, (.fld (.t 4) 0 0 true), 10, [], [], [], []⟩,
         ⟨(some 119), none, (.fld (.t 4) 3 0 true), 10, [], [], [], []⟩,
         ⟨(some 4), none, (.build [.undef, .undef, .undef] [(0, 0, (.t 118)), (0, 3, (.t 49)), (3, 0, (.t 119))]), 10, [], [], [], []⟩])
       (.seq
        (.rgn 0 [
         ⟨(some 118), none, (.fld (.t 4) 0 0 true), 0, [], [], [], []⟩])
       .ret))
       (.seq
        (.rgn 2 [
         ⟨(some 51), none, (.bin .eql (.t 37) (.c (.int .i64 3))), 0, [], [], [], []⟩,
         ⟨(some 50), none, (.mov (.t 51)), 1, [], [], [], []⟩])
       (.cond (.t 50)
         (.seq
          (.seq
           (.rgn 4 [
            ⟨(some 52), none, (.mov (.t 7)), 0, [], [], [], []⟩,
            ⟨(some 53), none, (.nck (.t 52)), 1, [], [], [], []⟩,
            ⟨(some 54), none, (.fa (.t 53) 1), 2, [], [], [], []⟩,
            ⟨(some 55), none, (.ld (.t 54) 1 false), 3, [], [], [], []⟩])
          (.cond (.t 55)
            (.seq
             (.rgn 2 [
              ⟨(some 56), none, (.build [(.int .i64 0), (.int .i64 0), (.isl (some true) true [])] [(0, (1, (.c (.int .i64 2))))]), 0, [], [], [], []⟩,
              ⟨(some 118), none, (.fld (.t 4) 0 0 true), 1, [], [], [], []⟩,
              ⟨(some 119), none, (.fld (.t 4) 3 0 true), 1, [], [], [], []⟩,
              ⟨(some 4), none, (.build [.undef, .undef, .undef] [(0, 0, (.t 118)), (0, 3, (.t 56)), (3, 0, (.t 119))]), 1, [], [], [], []⟩])
            (.seq
             (.rgn 0 [
              ⟨(some 118), none, (.fld (.t 4) 0 0 true), 0, [], [], [], []⟩])
            .ret))
            .skip))
         (.rgn 4 [
          ⟨(some 57), none, (.mov (.t 7)), 0, [], [], [], []⟩,
          ⟨(some 58), none, (.nck (.t 57)), 1, [], [], [], []⟩,
          ⟨(some 59), none, (.fa (.t 58) 1), 2, [], [], [], []⟩,
          ⟨none, none, (.st (.t 59) 1 (.c (.bool true))), 3, [], [], [], []⟩]))
         (.seq
          (.rgn 2 [
           ⟨(some 61), none, (.bin .eql (.t 37) (.c (.int .i64 4))), 0, [], [], [], []⟩,
           ⟨(some 60), none, (.mov (.t 61)), 1, [], [], [], []⟩])
         (.cond (.t 60)
           (.rgn 12 [
            ⟨(some 62), none, (.mov (.t 0)), 0, [], [], [], []⟩,
            ⟨(some 63), none, (.mov (.t 0)), 1, [], [], [], []⟩,
            ⟨(some 64), none, (.nck (.t 63)), 2, [], [], [], []⟩,
            ⟨(some 65), none, (.fa (.t 64) 0), 3, [], [], [], []⟩,
            ⟨(some 66), none, (.ld (.t 65) 1 false), 4, [], [], [], []⟩,
            ⟨(some 67), none, (.mov (.t 5)), 5, [], [], [], []⟩,
            ⟨(some 68), none, (.mov (.t 5)), 6, [], [], [], []⟩,
            ⟨(some 69), none, (.bin .add (.t 68) (.c (.int .i64 1))), 7, [], [], [], []⟩,
            ⟨(some 70), none, (.callS 55 [(.t 66), (.t 67), (.t 69)] false), 8, [], [], [], []⟩,
            ⟨(some 71), none, (.nck (.t 62)), 9, [], [], [], []⟩,
            ⟨(some 72), none, (.fa (.t 71) 0), 10, [], [], [], []⟩,
            ⟨none, none, (.st (.t 72) 1 (.t 70)), 11, [], [], [], []⟩])
           (.seq
            (.rgn 2 [
             ⟨(some 74), none, (.bin .eql (.t 37) (.c (.int .i64 5))), 0, [], [], [], []⟩,
             ⟨(some 73), none, (.mov (.t 74)), 1, [], [], [], []⟩])
           (.cond (.t 73)
             (.seq
              (.seq
               (.rgn 6 [
                ⟨(some 75), none, (.mov (.t 0)), 0, [], [], [], []⟩,
                ⟨(some 76), none, (.nck (.t 75)), 1, [], [], [], []⟩,
                ⟨(some 77), none, (.fa (.t 76) 1), 2, [], [], [], []⟩,
                ⟨(some 78), none, (.ld (.t 77) 1 false), 3, [], [], [], []⟩,
                ⟨(some 79), none, (.len (.t 78)), 4, [], [], [], []⟩,
                ⟨(some 80), none, (.bin .geq (.t 79) (.c (.int .i64 8))), 5, [], [], [], []⟩])
              (.cond (.t 80)
                (.seq
                 (.rgn 2 [
                  ⟨(some 81), none, (.build [(.int .i64 0), (.int .i64 0), (.isl (some true) true [])] [(0, (1, (.c (.int .i64 5))))]), 0, [], [], [], []⟩,
                  ⟨(some 118), none, (.fld (.t 4) 0 0 true), 1, [], [], [], []⟩,
                  ⟨(some 119), none, (.fld (.t 4) 3 0 true), 1, [], [], [], []⟩,
                  ⟨(some 4), none, (.build [.undef, .undef, .undef] [(0, 0, (.t 118)), (0, 3, (.t 81)), (3, 0, (.t 119))]), 1, [], [], [], []⟩])
                (.seq
                 (.rgn 0 [
                  ⟨(some 118), none, (.fld (.t 4) 0 0 true), 0, [], [], [], []⟩])
                .ret))
                .skip))
             (.seq
              (.rgn 8 [
               ⟨(some 82), none, (.mov (.t 0)), 0, [], [], [], []⟩,
               ⟨(some 83), none, (.nck (.t 82)), 1, [], [], [], []⟩,
               ⟨(some 84), none, (.fa (.t 83) 2), 2, [], [], [], []⟩,
               ⟨(some 85), none, (.ld (.t 84) 1 false), 3, [], [], [], []⟩,
               ⟨(some 86), none, (.bin .add (.t 85) (.c (.int .i64 1))), 4, [], [], [], []⟩,
               ⟨(some 87), none, (.nck (.t 82)), 5, [], [], [], []⟩,
               ⟨(some 88), none, (.fa (.t 87) 2), 6, [], [], [], []⟩,
               ⟨none, none, (.st (.t 88) 1 (.t 86)), 7, [], [], [], []⟩])
             (.seq
              (.rgn 24 [
               ⟨(some 89), none, (.mov (.t 0)), 0, [], [], [], []⟩,
               ⟨(some 90), none, (.mov (.t 0)), 1, [], [], [], []⟩,
               ⟨(some 91), none, (.nck (.t 90)), 2, [], [], [], []⟩,
               ⟨(some 92), none, (.fa (.t 91) 1), 3, [], [], [], []⟩,
               ⟨(some 93), none, (.ld (.t 92) 1 false), 4, [19], [], [], []⟩,
               ⟨(some 94), none, (.mov (.t 0)), 5, [], [], [], []⟩,
               ⟨(some 95), none, (.nck (.t 94)), 6, [], [], [], []⟩,
               ⟨(some 96), none, (.fa (.t 95) 2), 7, [], [], [], []⟩,
               ⟨(some 97), none, (.ld (.t 96) 1 false), 8, [], [], [], []⟩,
               ⟨(some 98), none, (.mov (.t 7)), 9, [], [], [], []⟩,
               ⟨(some 99), none, (.nck (.t 98)), 10, [], [], [], []⟩,
               ⟨(some 100), none, (.fa (.t 99) 4), 11, [], [], [], []⟩,
               ⟨(some 101), none, (.ld (.t 100) 1 false), 12, [], [], [], []⟩,
               ⟨(some 102), none, (.fld (.t 3) 0 0 true), 13, [], [], [], []⟩,
               ⟨(some 103), none, (.fld (.t 3) 5 1 false), 14, [], [], [], []⟩,
               ⟨(some 104), none, (.fld (.t 3) 0 0 true), 15, [], [], [], []⟩,
               ⟨(some 105), none, (.fld (.t 3) 6 1 false), 16, [], [], [], []⟩,
               ⟨(some 106), none, (.callS 54 [(.t 101), (.t 103), (.t 105)] true), 17, [], [], [], []⟩,
               ⟨(some 107), none, (.build [(.int .i64 0), (.isl (some true) true [])] [(0, (1, (.t 97))), (1, (1, (.t 106)))]), 18, [], [], [], []⟩,
               ⟨(some 108), none, (.bsl 46 2 1 [(.int .i64 0), (.isl (some true) true [])] [(0, (.t 107))]), 19, [], [], [], []⟩,
               ⟨(some 109), none, (.app 46 2 32 (.t 93) (.t 108)), 20, [], [], [], []⟩,
               ⟨(some 110), none, (.nck (.t 89)), 21, [], [], [], []⟩,
               ⟨(some 111), none, (.fa (.t 110) 1), 22, [], [], [], []⟩,
               ⟨none, none, (.st (.t 111) 1 (.t 109)), 23, [], [], [], []⟩])
             (.seq
              (.rgn 6 [
               ⟨(some 112), none, (.mov (.t 0)), 0, [], [], [], []⟩,
               ⟨(some 113), none, (.nck (.t 112)), 1, [], [], [], []⟩,
               ⟨(some 114), none, (.fa (.t 113) 2), 2, [], [], [], []⟩,
               ⟨(some 115), none, (.ld (.t 114) 1 false), 3, [], [], [], []⟩,
               ⟨(some 116), none, (.build [(.int .i64 0), (.int .i64 0), (.isl (some true) true [])] [(1, (1, (.t 115)))]), 4, [], [], [], []⟩,
               ⟨(some 118), none, (.fld (.t 4) 0 0 true), 5, [], [], [], []⟩,
               ⟨(some 119), none, (.fld (.t 4) 3 0 true), 5, [], [], [], []⟩,
               ⟨(some 4), none, (.build [.undef, .undef, .undef] [(0, 0, (.t 118)), (0, 3, (.t 116)), (3, 0, (.t 119))]), 5, [], [], [], []⟩])
             (.seq
              (.rgn 0 [
               ⟨(some 118), none, (.fld (.t 4) 0 0 true), 0, [], [], [], []⟩])
             .ret)))))
             .skip))))))))))
   (.seq
    (.rgn 2 [
     ⟨(some 117), none, (.build [(.int .i64 0), (.int .i64 0), (.isl (some true) true [])] []), 0, [], [], [], []⟩,
     ⟨(some 118), none, (.fld (.t 4) 0 0 true), 1, [], [], [], []⟩,
     ⟨(some 119), none, (.fld (.t 4) 3 0 true), 1, [], [], [], []⟩,
     ⟨(some 4), none, (.build [.undef, .undef, .undef] [(0, 0, (.t 118)), (0, 3, (.t 117)), (3, 0, (.t 119))]), 1, [], [], [], []⟩])
   (.seq
    (.rgn 0 [
     ⟨(some 118), none, (.fld (.t 4) 0 0 true), 0, [], [], [], []⟩])
   .ret))))))))
  (.seq
   (.rgn 0 [
    ⟨(some 118), none, (.fld (.t 4) 0 0 true), 0, [], [], [], []⟩])
  .ret))
def q28 : List ARes := [(.tmp 4)]
def v28 : UB := ⟨118, [(3, 8), (4, 3)], [13, 18, 36, 44, 46, 102, 104]⟩
theorem kb28 : ubCode v28 (chkOps v28 r28) (.seq a28 .ret) = some b28 := by kernel_rfl
theorem kq28 : ubRes v28 r28 = some q28 := by kernel_rfl
theorem u28 {vs : List AV} {h : Hp} {n : Nat} {K : AV → Hp → Nat → Prop} (hl : vs.length ≤ 3) (hw : (∀ id, h id ≠ none → id < n) → wpA Try.prog b28 (retA q28 K) ⟨argS vs, h, n⟩) : CallsA Try.prog 28 vs h n K :=
  ub_use kb28 kq28 (m := 3) (by kernel_rfl) hl hw fun hw => e28 (by omega) hw
def b29 : ACode :=
  (.seq
   (.seq
    (.rgn 2 [
     ⟨(some 1), none, (.build [.undef, .undef, .undef] [(0, 3, (.t 0))]), 0, [], [], [], []⟩,
     ⟨(some 2), none, (.mov (.c (.agg [(.isl (some true) true []), (.isl (some true) true []), (.int .i64 0)]))), 1, [], [], [], []⟩])
   (.seq
    (.rgn 5 [
     ⟨(some 7), none, (.fld (.t 1) 0 0 true), 0, [], [], [], []⟩,
     ⟨(some 8), none, (.fld (.t 1) 2 1 false), 1, [], [], [], []⟩,
     ⟨(some 9), none, (.build [(.isl (some true) true []), (.isl (some true) true []), (.int .i64 0)] [(2, (1, (.t 8)))]), 2, [], [], [], []⟩,
     ⟨(some 3), none, (.mov (.c (.agg [(.isl (some true) true []), (.isl (some true) true []), (.int .i64 0)]))), 3, [], [], [], []⟩,
     ⟨(some 59), none, (.fld (.t 3) 0 0 true), 4, [], [], [], []⟩,
     ⟨(some 60), none, (.fld (.t 3) 3 0 true), 4, [], [], [], []⟩,
     ⟨(some 3), none, (.build [.undef, .undef, .undef] [(0, 0, (.t 59)), (0, 3, (.t 9)), (3, 0, (.t 60))]), 4, [], [], [], []⟩])
   (.seq
    (.seq
     (.rgn 1 [
      ⟨(some 4), none, (.mov (.c (.int .i64 0))), 0, [], [], [], []⟩])
    (.block 0
     (.loop
      (.seq
       (.seq
        (.rgn 5 [
         ⟨(some 10), none, (.mov (.t 4)), 0, [], [], [], []⟩,
         ⟨(some 11), none, (.fld (.t 1) 0 0 true), 1, [], [], [], []⟩,
         ⟨(some 12), none, (.fld (.t 1) 0 1 false), 2, [], [], [], []⟩,
         ⟨(some 13), none, (.len (.t 12)), 3, [], [], [], []⟩,
         ⟨(some 14), none, (.bin .lss (.t 10) (.t 13)), 4, [], [], [], []⟩])
       (.cond (.t 14)
         .skip
         (.exit 0)))
      (.seq
       (.block 1
        (.seq
         (.rgn 7 [
          ⟨(some 17), none, (.fld (.t 1) 0 0 true), 0, [], [], [], []⟩,
          ⟨(some 18), none, (.fld (.t 1) 0 1 false), 1, [], [], [], []⟩,
          ⟨(some 19), none, (.mov (.t 4)), 2, [], [], [], []⟩,
          ⟨(some 20), none, (.ia 5 (.t 18) (.t 19)), 3, [], [], [], []⟩,
          ⟨(some 21), none, (.ld (.t 20) 5 true), 4, [], [], [], []⟩,
          ⟨(some 5), none, (.mov (.c (.agg [(.int .i64 0), (.bool false), (.bool false), (.int .i64 0), (.isl (some true) true [])]))), 5, [], [], [], []⟩,
          ⟨(some 59), none, (.fld (.t 5) 0 0 true), 6, [], [], [], []⟩,
          ⟨(some 60), none, (.fld (.t 5) 5 0 true), 6, [], [], [], []⟩,
          ⟨(some 5), none, (.build [.undef, .undef, .undef, .undef, .undef] [(0, 0, (.t 59)), (0, 5, (.t 21)), (5, 0, (.t 60))]), 6, [], [], [], []⟩])
        (.seq
         (.rgn 5 [
          ⟨(some 22), none, (.fld (.t 5) 0 0 true), 0, [], [], [], []⟩,
          ⟨(some 23), none, (.fld (.t 5) 4 1 false), 1, [], [], [], []⟩,
          ⟨(some 24), none, (.callS 33 [(.t 23)] true), 2, [], [], [], []⟩,
          ⟨(some 25), none, (.fld (.t 5) 0 0 true), 3, [], [], [], []⟩,
          ⟨(some 59), none, (.fld (.t 5) 0 4 true), 4, [], [], [], []⟩,
          ⟨(some 60), none, (.fld (.t 5) 5 0 true), 4, [], [], [], []⟩,
          ⟨(some 5), none, (.build [.undef, .undef, .undef, .undef, .undef] [(0, 4, (.t 59)), (4, 1, (.t 24)), (5, 0, (.t 60))]), 4, [], [], [], []⟩])
        (.rgn 7 [
         ⟨(some 26), none, (.fld (.t 3) 0 0 true), 0, [], [], [], []⟩,
         ⟨(some 27), none, (.fld (.t 3) 0 1 false), 1, [], [], [], []⟩,
         ⟨(some 28), none, (.fld (.t 5) 0 5 true), 2, [], [], [], []⟩,
         ⟨(some 29), none, (.bsl 38 5 1 [(.int .i64 0), (.bool false), (.bool false), (.int .i64 0), (.isl (some true) true [])] [(0, (.t 28))]), 3, [], [], [], []⟩,
         ⟨(some 30), none, (.app 38 5 48 (.t 27) (.t 29)), 4, [], [], [], []⟩,
         ⟨(some 31), none, (.fld (.t 3) 0 0 true), 5, [], [], [], []⟩,
         ⟨(some 59), none, (.fld (.t 3) 0 0 true), 6, [], [], [], []⟩,
         ⟨(some 60), none, (.fld (.t 3) 1 2 true), 6, [], [], [], []⟩,
         ⟨(some 3), none, (.build [.undef, .undef, .undef] [(0, 0, (.t 59)), (0, 1, (.t 30)), (1, 2, (.t 60))]), 6, [], [], [], []⟩]))))
      (.rgn 3 [
       ⟨(some 15), none, (.mov (.t 4)), 0, [], [], [], []⟩,
       ⟨(some 16), none, (.bin .add (.t 15) (.c (.int .i64 1))), 1, [], [], [], []⟩,
       ⟨(some 4), none, (.mov (.t 16)), 2, [], [], [], []⟩]))))))
   (.seq
    (.seq
     (.rgn 1 [
      ⟨(some 6), none, (.mov (.c (.int .i64 0))), 0, [], [], [], []⟩])
    (.block 2
     (.loop
      (.seq
       (.seq
        (.rgn 5 [
         ⟨(some 32), none, (.mov (.t 6)), 0, [], [], [], []⟩,
         ⟨(some 33), none, (.fld (.t 1) 0 0 true), 1, [], [], [], []⟩,
         ⟨(some 34), none, (.fld (.t 1) 1 1 false), 2, [], [], [], []⟩,
         ⟨(some 35), none, (.len (.t 34)), 3, [], [], [], []⟩,
         ⟨(some 36), none, (.bin .lss (.t 32) (.t 35)), 4, [], [], [], []⟩])
       (.cond (.t 36)
         .skip
         (.exit 2)))
      (.seq
       (.block 3
        (.rgn 20 [
         ⟨(some 39), none, (.fld (.t 3) 0 0 true), 0, [], [], [], []⟩,
         ⟨(some 40), none, (.fld (.t 3) 1 1 false), 1, [], [], [], []⟩,
         ⟨(some 41), none, (.fld (.t 1) 0 0 true), 2, [], [], [], []⟩,
         ⟨(some 42), none, (.fld (.t 1) 1 1 false), 3, [], [], [], []⟩,
         ⟨(some 43), none, (.mov (.t 6)), 4, [], [], [], []⟩,
         ⟨(some 44), none, (.ia 2 (.t 42) (.t 43)), 5, [], [], [], []⟩,
         ⟨(some 45), none, (.fa (.t 44) 0), 6, [], [], [], []⟩,
         ⟨(some 46), none, (.ld (.t 45) 1 false), 7, [], [], [], []⟩,
         ⟨(some 47), none, (.fld (.t 1) 0 0 true), 8, [], [], [], []⟩,
         ⟨(some 48), none, (.fld (.t 1) 1 1 false), 9, [], [], [], []⟩,
         ⟨(some 49), none, (.mov (.t 6)), 10, [], [], [], []⟩,
         ⟨(some 50), none, (.ia 2 (.t 48) (.t 49)), 11, [], [], [], []⟩,
         ⟨(some 51), none, (.fa (.t 50) 1), 12, [], [], [], []⟩,
         ⟨(some 52), none, (.ld (.t 51) 1 false), 13, [], [], [], []⟩,
         ⟨(some 53), none, (.callS 33 [(.t 52)] true), 14, [], [], [], []⟩,
         ⟨(some 54), none, (.build [(.int .i64 0), (.isl (some true) true [])] [(0, (1, (.t 46))), (1, (1, (.t 53)))]), 15, [], [], [], []⟩,
         ⟨(some 55), none, (.bsl 46 2 1 [(.int .i64 0), (.isl (some true) true [])] [(0, (.t 54))]), 16, [], [], [], []⟩,
         ⟨(some 56), none, (.app 46 2 32 (.t 40) (.t 55)), 17, [], [], [], []⟩,
         ⟨(some 57), none, (.fld (.t 3) 0 0 true), 18, [], [], [], []⟩,
         ⟨(some 59), none, (.fld (.t 3) 0 1 true), 19, [], [], [], []⟩,
         ⟨(some 60), none, (.fld (.t 3) 2 1 true), 19, [], [], [], []⟩,
         ⟨(some 3), none, (.build [.undef, .undef, .undef] [(0, 1, (.t 59)), (1, 1, (.t 56)), (2, 1, (.t 60))]), 19, [], [], [], []⟩]))
      (.rgn 3 [
       ⟨(some 37), none, (.mov (.t 6)), 0, [], [], [], []⟩,
       ⟨(some 38), none, (.bin .add (.t 37) (.c (.int .i64 1))), 1, [], [], [], []⟩,
       ⟨(some 6), none, (.mov (.t 38)), 2, [], [], [], []⟩]))))))
   (.seq
    (.rgn 2 [
     ⟨(some 58), none, (.fld (.t 3) 0 3 true), 0, [], [], [], []⟩,
     ⟨(some 59), none, (.fld (.t 2) 0 0 true), 1, [], [], [], []⟩,
     ⟨(some 60), none, (.fld (.t 2) 3 0 true), 1, [], [], [], []⟩,
     ⟨(some 2), none, (.build [.undef, .undef, .undef] [(0, 0, (.t 59)), (0, 3, (.t 58)), (3, 0, (.t 60))]), 1, [], [], [], []⟩])
   (.seq
    (.rgn 0 [
     ⟨(some 59), none, (.fld (.t 2) 0 0 true), 0, [], [], [], []⟩])
   .ret))))))
  (.seq
   (.rgn 0 [
    ⟨(some 59), none, (.fld (.t 2) 0 0 true), 0, [], [], [], []⟩])
  .ret))
def q29 : List ARes := [(.tmp 2)]
def v29 : UB := ⟨59, [(1, 3), (2, 3), (3, 3), (5, 5)], [7, 11, 17, 22, 25, 26, 31, 33, 39, 41, 47, 57]⟩
theorem kb29 : ubCode v29 (chkOps v29 r29) (.seq a29 .ret) = some b29 := by kernel_rfl
theorem kq29 : ubRes v29 r29 = some q29 := by kernel_rfl
theorem u29 {vs : List AV} {h : Hp} {n : Nat} {K : AV → Hp → Nat → Prop} (hl : vs.length ≤ 1) (hw : (∀ id, h id ≠ none → id < n) → wpA Try.prog b29 (retA q29 K) ⟨argS vs, h, n⟩) : CallsA Try.prog 29 vs h n K :=
  ub_use kb29 kq29 (m := 1) (by kernel_rfl) hl hw fun hw => e29 (by omega) hw
def b30 : ACode :=
  (.seq
   (.seq
    (.rgn 2 [
     ⟨(some 2), none, (.build [.undef, .undef, .undef] [(0, 3, (.t 0))]), 0, [], [], [], []⟩,
     ⟨(some 4), none, (.mov (.c (.int .i64 0))), 1, [], [], [], []⟩])
   (.seq
    (.seq
     (.rgn 1 [
      ⟨(some 5), none, (.mov (.c (.int .i64 0))), 0, [], [], [], []⟩])
    (.block 0
     (.loop
      (.seq
       (.seq
        (.rgn 5 [
         ⟨(some 6), none, (.mov (.t 5)), 0, [], [], [], []⟩,
         ⟨(some 7), none, (.fld (.t 2) 0 0 true), 1, [], [], [], []⟩,
         ⟨(some 8), none, (.fld (.t 2) 0 1 false), 2, [], [], [], []⟩,
         ⟨(some 9), none, (.len (.t 8)), 3, [], [], [], []⟩,
         ⟨(some 10), none, (.bin .lss (.t 6) (.t 9)), 4, [], [], [], []⟩])
       (.cond (.t 10)
         .skip
         (.exit 0)))
      (.seq
       (.block 1
        (.seq
         (.rgn 8 [
          ⟨(some 13), none, (.fld (.t 2) 0 0 true), 0, [], [], [], []⟩,
          ⟨(some 14), none, (.fld (.t 2) 0 1 false), 1, [], [], [], []⟩,
          ⟨(some 15), none, (.mov (.t 5)), 2, [], [], [], []⟩,
          ⟨(some 16), none, (.ia 5 (.t 14) (.t 15)), 3, [], [], [], []⟩,
          ⟨(some 17), none, (.fa (.t 16) 0), 4, [], [], [], []⟩,
          ⟨(some 18), none, (.ld (.t 17) 1 false), 5, [], [], [], []⟩,
          ⟨(some 19), none, (.mov (.t 1)), 6, [], [], [], []⟩,
          ⟨(some 20), none, (.bin .eql (.t 18) (.t 19)), 7, [], [], [], []⟩])
        (.cond (.t 20)
          (.seq
           (.rgn 2 [
            ⟨(some 21), none, (.mov (.t 5)), 0, [], [], [], []⟩,
            ⟨(some 4), none, (.mov (.t 21)), 1, [], [], [], []⟩])
          .ret)
          .skip)))
      (.rgn 3 [
       ⟨(some 11), none, (.mov (.t 5)), 0, [], [], [], []⟩,
       ⟨(some 12), none, (.bin .add (.t 11) (.c (.int .i64 1))), 1, [], [], [], []⟩,
       ⟨(some 5), none, (.mov (.t 12)), 2, [], [], [], []⟩]))))))
   (.seq
    (.rgn 1 [
     ⟨(some 4), none, (.mov (.c (.int .i64 (-1)))), 0, [], [], [], []⟩])
   .ret)))
  .ret)
def q30 : List ARes := [(.tmp 4)]
def v30 : UB := ⟨22, [(2, 3)], [7, 13]⟩
theorem kb30 : ubCode v30 (chkOps v30 r30) (.seq a30 .ret) = some b30 := by kernel_rfl
theorem kq30 : ubRes v30 r30 = some q30 := by kernel_rfl
theorem u30 {vs : List AV} {h : Hp} {n : Nat} {K : AV → Hp → Nat → Prop} (hl : vs.length ≤ 2) (hw : (∀ id, h id ≠ none → id < n) → wpA Try.prog b30 (retA q30 K) ⟨argS vs, h, n⟩) : CallsA Try.prog 30 vs h n K :=
  ub_use kb30 kq30 (m := 2) (by kernel_rfl) hl hw fun hw => e30 (by omega) hw
def b31 : ACode :=
  (.seq
   (.seq
    (.rgn 2 [
     ⟨(some 2), none, (.build [.undef, .undef, .undef] [(0, 3, (.t 0))]), 0, [], [], [], []⟩,
     ⟨(some 4), none, (.mov (.c (.int .i64 0))), 1, [], [], [], []⟩])
   (.seq
    (.seq
     (.rgn 1 [
      ⟨(some 5), none, (.mov (.c (.int .i64 0))), 0, [], [], [], []⟩])
    (.block 0
     (.loop
      (.seq
       (.seq
        (.rgn 5 [
         ⟨(some 6), none, (.mov (.t 5)), 0, [], [], [], []⟩,
         ⟨(some 7), none, (.fld (.t 2) 0 0 true), 1, [], [], [], []⟩,
         ⟨(some 8), none, (.fld (.t 2) 1 1 false), 2, [], [], [], []⟩,
         ⟨(some 9), none, (.len (.t 8)), 3, [], [], [], []⟩,
         ⟨(some 10), none, (.bin .lss (.t 6) (.t 9)), 4, [], [], [], []⟩])
       (.cond (.t 10)
         .skip
         (.exit 0)))
      (.seq
       (.block 1
        (.seq
         (.rgn 8 [
          ⟨(some 13), none, (.fld (.t 2) 0 0 true), 0, [], [], [], []⟩,
          ⟨(some 14), none, (.fld (.t 2) 1 1 false), 1, [], [], [], []⟩,
          ⟨(some 15), none, (.mov (.t 5)), 2, [], [], [], []⟩,
          ⟨(some 16), none, (.ia 2 (.t 14) (.t 15)), 3, [], [], [], []⟩,
          ⟨(some 17), none, (.fa (.t 16) 0), 4, [], [], [], []⟩,
          ⟨(some 18), none, (.ld (.t 17) 1 false), 5, [], [], [], []⟩,
          ⟨(some 19), none, (.mov (.t 1)), 6, [], [], [], []⟩,
          ⟨(some 20), none, (.bin .eql (.t 18) (.t 19)), 7, [], [], [], []⟩])
        (.cond (.t 20)
          (.seq
           (.rgn 2 [
            ⟨(some 21), none, (.mov (.t 5)), 0, [], [], [], []⟩,
            ⟨(some 4), none, (.mov (.t 21)), 1, [], [], [], []⟩])
          .ret)
          .skip)))
      (.rgn 3 [
       ⟨(some 11), none, (.mov (.t 5)), 0, [], [], [], []⟩,
       ⟨(some 12), none, (.bin .add (.t 11) (.c (.int .i64 1))), 1, [], [], [], []⟩,
       ⟨(some 5), none, (.mov (.t 12)), 2, [], [], [], []⟩]))))))
   (.seq
    (.rgn 1 [
     ⟨(some 4), none, (.mov (.c (.int .i64 (-1)))), 0, [], [], [], []⟩])
   .ret)))
  .ret)
def q31 : List ARes := [(.tmp 4)]
def v31 : UB := ⟨22, [(2, 3)], [7, 13]⟩
theorem kb31 : ubCode v31 (chkOps v31 r31) (.seq a31 .ret) = some b31 := by kernel_rfl
theorem kq31 : ubRes v31 r31 = some q31 := by kernel_rfl
theorem u31 {vs : List AV} {h : Hp} {n : Nat} {K : AV → Hp → Nat → Prop} (hl : vs.length ≤ 2) (hw : (∀ id, h id ≠ none → id < n) → wpA Try.prog b31 (retA q31 K) ⟨argS vs, h, n⟩) : CallsA Try.prog 31 vs h n K :=
  ub_use kb31 kq31 (m := 2) (by kernel_rfl) hl hw fun hw => e31 (by omega) hw
def b32 : ACode :=
  (.seq
   (.seq
    (.rgn 3 [
     ⟨(some 2), none, (.build [.undef, .undef, .undef] [(0, 3, (.t 0))]), 0, [], [], [], []⟩,
     ⟨(some 4), none, (.mov (.c (.agg [(.isl (some true) true []), (.isl (some true) true []), (.int .i64 0)]))), 1, [], [], [], []⟩,
     ⟨(some 5), none, (.mov (.c (.int .i64 0))), 2, [], [], [], []⟩])
   (.seq
    (.rgn 1 [
     ⟨(some 6), none, (.mov (.c (.int .i64 0))), 0, [], [], [], []⟩])
   (.seq
    (.block 0
     (.loop
      (.seq
       (.seq
        (.rgn 15 [
         ⟨(some 8), none, (.mov (.t 6)), 0, [], [], [], []⟩,
         ⟨(some 9), none, (.fld (.t 2) 0 0 true), 1, [], [], [], []⟩,
         ⟨(some 10), none, (.fld (.t 2) 0 1 false), 2, [], [], [], []⟩,
         ⟨(some 11), none, (.len (.t 10)), 3, [], [], [], []⟩,
         ⟨(some 12), none, (.bin .lss (.t 8) (.t 11)), 4, [], [], [], []⟩,
         ⟨(some 13), none, (.mov (.t 12)), 5, [], [], [], []⟩,
         ⟨(some 14), (some (13, true)), (.fld (.t 2) 0 0 true), 6, [], [], [], []⟩,
         ⟨(some 15), (some (13, true)), (.fld (.t 2) 0 1 false), 7, [], [], [], []⟩,
         ⟨(some 16), (some (13, true)), (.mov (.t 6)), 8, [], [], [], []⟩,
         ⟨(some 17), (some (13, true)), (.ia 5 (.t 15) (.t 16)), 9, [], [], [], []⟩,
         ⟨(some 18), (some (13, true)), (.fa (.t 17) 0), 10, [], [], [], []⟩,
         ⟨(some 19), (some (13, true)), (.ld (.t 18) 1 false), 11, [], [], [], []⟩,
         ⟨(some 20), (some (13, true)), (.mov (.t 1)), 12, [], [], [], []⟩,
         ⟨(some 21), (some (13, true)), (.bin .lss (.t 19) (.t 20)), 13, [], [], [], []⟩,
         ⟨(some 22), none, (.pick (.t 13) (.t 21) (.c (.bool false))), 14, [], [], [], []⟩])
       (.cond (.t 22)
         .skip
         (.exit 0)))
      (.block 1
       (.rgn 3 [
        ⟨(some 23), none, (.mov (.t 6)), 0, [], [], [], []⟩,
        ⟨(some 24), none, (.bin .add (.t 23) (.c (.int .i64 1))), 1, [], [], [], []⟩,
        ⟨(some 6), none, (.mov (.t 24)), 2, [], [], [], []⟩])))))
   (.seq
    (.seq
     (.rgn 15 [
      ⟨(some 25), none, (.mov (.t 6)), 0, [], [], [], []⟩,
      ⟨(some 26), none, (.fld (.t 2) 0 0 true), 1, [], [], [], []⟩,
      ⟨(some 27), none, (.fld (.t 2) 0 1 false), 2, [], [], [], []⟩,
      ⟨(some 28), none, (.len (.t 27)), 3, [], [], [], []⟩,
      ⟨(some 29), none, (.bin .lss (.t 25) (.t 28)), 4, [], [], [], []⟩,
      ⟨(some 30), none, (.mov (.t 29)), 5, [], [], [], []⟩,
      ⟨(some 31), (some (30, true)), (.fld (.t 2) 0 0 true), 6, [], [], [], []⟩,
      ⟨(some 32), (some (30, true)), (.fld (.t 2) 0 1 false), 7, [], [], [], []⟩,
      ⟨(some 33), (some (30, true)), (.mov (.t 6)), 8, [], [], [], []⟩,
      ⟨(some 34), (some (30, true)), (.ia 5 (.t 32) (.t 33)), 9, [], [], [], []⟩,
      ⟨(some 35), (some (30, true)), (.fa (.t 34) 0), 10, [], [], [], []⟩,
      ⟨(some 36), (some (30, true)), (.ld (.t 35) 1 false), 11, [], [], [], []⟩,
      ⟨(some 37), (some (30, true)), (.mov (.t 1)), 12, [], [], [], []⟩,
      ⟨(some 38), (some (30, true)), (.bin .eql (.t 36) (.t 37)), 13, [], [], [], []⟩,
      ⟨(some 39), none, (.pick (.t 30) (.t 38) (.c (.bool false))), 14, [], [], [], []⟩])
    (.cond (.t 39)
      (.seq
       (.rgn 4 [
        ⟨(some 40), none, (.fld (.t 2) 0 3 true), 0, [], [], [], []⟩,
        ⟨(some 41), none, (.mov (.t 6)), 1, [], [], [], []⟩,
        ⟨(some 62), none, (.fld (.t 4) 0 0 true), 2, [], [], [], []⟩,
        ⟨(some 63), none, (.fld (.t 4) 3 0 true), 2, [], [], [], []⟩,
        ⟨(some 4), none, (.build [.undef, .undef, .undef] [(0, 0, (.t 62)), (0, 3, (.t 40)), (3, 0, (.t 63))]), 2, [], [], [], []⟩,
        ⟨(some 5), none, (.mov (.t 41)), 3, [], [], [], []⟩])
      (.seq
       (.rgn 0 [
        ⟨(some 62), none, (.fld (.t 4) 0 0 true), 0, [], [], [], []⟩])
      .ret))
      .skip))
   (.seq
    (.rgn 7 [
     ⟨(some 42), none, (.bsl 38 5 0 [] []), 0, [], [], [], []⟩,
     ⟨(some 43), none, (.fld (.t 2) 0 0 true), 1, [], [], [], []⟩,
     ⟨(some 44), none, (.fld (.t 2) 0 1 false), 2, [], [], [], []⟩,
     ⟨(some 45), none, (.mov (.t 6)), 3, [], [], [], []⟩,
     ⟨(some 46), none, (.slc 5 (.t 44) none (some (.t 45)) none), 4, [], [], [], []⟩,
     ⟨(some 47), none, (.app 38 5 48 (.t 42) (.t 46)), 5, [], [], [], []⟩,
     ⟨(some 7), none, (.mov (.t 47)), 6, [], [], [], []⟩])
   (.seq
    (.rgn 11 [
     ⟨(some 48), none, (.mov (.t 7)), 0, [], [], [], []⟩,
     ⟨(some 49), none, (.mov (.t 1)), 1, [], [], [], []⟩,
     ⟨(some 50), none, (.build [(.int .i64 0), (.bool false), (.bool false), (.int .i64 0), (.isl (some true) true [])] [(0, (1, (.t 49)))]), 2, [], [], [], []⟩,
     ⟨(some 51), none, (.bsl 38 5 1 [(.int .i64 0), (.bool false), (.bool false), (.int .i64 0), (.isl (some true) true [])] [(0, (.t 50))]), 3, [], [], [], []⟩,
     ⟨(some 53), none, (.fld (.t 2) 0 0 true), 5, [], [], [], []⟩,
     ⟨(some 54), none, (.fld (.t 2) 0 1 false), 6, [], [], [], []⟩,
     ⟨(some 55), none, (.mov (.t 6)), 7, [], [], [], []⟩,
     ⟨(some 56), none, (.slc 5 (.t 54) (some (.t 55)) none none), 8, [], [], [], []⟩,
     ⟨(some 52), none, (.app 38 5 48 (.t 48) (.t 51)), 4, [], [], [], []⟩,
     ⟨(some 57), none, (.app 38 5 48 (.t 52) (.t 56)), 9, [], [], [], []⟩,
     ⟨(some 7), none, (.mov (.t 57)), 10, [], [], [], []⟩])
   (.seq
    (.rgn 3 [
     ⟨(some 58), none, (.mov (.t 7)), 0, [], [], [], []⟩,
     ⟨(some 59), none, (.fld (.t 2) 0 0 true), 1, [], [], [], []⟩,
     ⟨(some 62), none, (.fld (.t 2) 0 0 true), 2, [], [], [], []⟩,
     ⟨(some 63), none, (.fld (.t 2) 1 2 true), 2, [], [], [], []⟩,
     ⟨(some 2), none, (.build [.undef, .undef, .undef] [(0, 0, (.t 62)), (0, 1, (.t 58)), (1, 2, (.t 63))]), 2, [], [], [], []⟩])
   (.seq
    (.rgn 4 [
     ⟨(some 60), none, (.fld (.t 2) 0 3 true), 0, [], [], [], []⟩,
     ⟨(some 61), none, (.mov (.t 6)), 1, [], [], [], []⟩,
     ⟨(some 62), none, (.fld (.t 4) 0 0 true), 2, [], [], [], []⟩,
     ⟨(some 63), none, (.fld (.t 4) 3 0 true), 2, [], [], [], []⟩,
     ⟨(some 4), none, (.build [.undef, .undef, .undef] [(0, 0, (.t 62)), (0, 3, (.t 60)), (3, 0, (.t 63))]), 2, [], [], [], []⟩,
     ⟨(some 5), none, (.mov (.t 61)), 3, [], [], [], []⟩])
   (.seq
    (.rgn 0 [
     ⟨(some 62), none, (.fld (.t 4) 0 0 true), 0, [], [], [], []⟩])
   .ret)))))))))
  (.seq
   (.rgn 0 [
    ⟨(some 62), none, (.fld (.t 4) 0 0 true), 0, [], [], [], []⟩])
  .ret))
def q32 : List ARes := [(.tmp 4), (.tmp 5)]
def v32 : UB := ⟨62, [(2, 3), (4, 3)], [9, 14, 26, 31, 43, 53, 59]⟩
theorem kb32 : ubCode v32 (chkOps v32 r32) (.seq a32 .ret) = some b32 := by kernel_rfl
theorem kq32 : ubRes v32 r32 = some q32 := by kernel_rfl
theorem u32 {vs : List AV} {h : Hp} {n : Nat} {K : AV → Hp → Nat → Prop} (hl : vs.length ≤ 2) (hw : (∀ id, h id ≠ none → id < n) → wpA Try.prog b32 (retA q32 K) ⟨argS vs, h, n⟩) : CallsA Try.prog 32 vs h n K :=
  ub_use kb32 kq32 (m := 2) (by kernel_rfl) hl hw fun hw => e32 (by omega) hw
def b35 : ACode :=
  (.seq
   (.seq
    (.rgn 3 [
     ⟨(some 2), none, (.build [.undef, .undef, .undef, .undef, .undef] [(0, 5, (.t 0))]), 0, [], [], [], []⟩,
     ⟨(some 3), none, (.build [.undef, .undef, .undef, .undef, .undef] [(0, 5, (.t 1))]), 1, [], [], [], []⟩,
     ⟨(some 4), none, (.mov (.c (.bool false))), 2, [], [], [], []⟩])
   (.seq
    (.rgn 34 [
     ⟨(some 5), none, (.fld (.t 2) 0 0 true), 0, [], [], [], []⟩,
     ⟨(some 6), none, (.fld (.t 2) 0 1 false), 1, [], [], [], []⟩,
     ⟨(some 7), none, (.fld (.t 3) 0 0 true), 2, [], [], [], []⟩,
     ⟨(some 8), none, (.fld (.t 3) 0 1 false), 3, [], [], [], []⟩,
     ⟨(some 9), none, (.bin .eql (.t 6) (.t 8)), 4, [], [], [], []⟩,
     ⟨(some 10), none, (.mov (.t 9)), 5, [], [], [], []⟩,
     ⟨(some 11), (some (10, true)), (.fld (.t 2) 0 0 true), 6, [], [], [], []⟩,
     ⟨(some 12), (some (10, true)), (.fld (.t 2) 1 1 false), 7, [], [], [], []⟩,
     ⟨(some 13), (some (10, true)), (.fld (.t 3) 0 0 true), 8, [], [], [], []⟩,
     ⟨(some 14), (some (10, true)), (.fld (.t 3) 1 1 false), 9, [], [], [], []⟩,
     ⟨(some 15), (some (10, true)), (.bib false (.t 12) (.t 14)), 10, [], [], [], []⟩,
     ⟨(some 16), none, (.pick (.t 10) (.t 15) (.c (.bool false))), 11, [], [], [], []⟩,
     ⟨(some 17), none, (.mov (.t 16)), 12, [], [], [], []⟩,
     ⟨(some 18), (some (17, true)), (.fld (.t 2) 0 0 true), 13, [], [], [], []⟩,
     ⟨(some 19), (some (17, true)), (.fld (.t 2) 2 1 false), 14, [], [], [], []⟩,
     ⟨(some 20), (some (17, true)), (.fld (.t 3) 0 0 true), 15, [], [], [], []⟩,
     ⟨(some 21), (some (17, true)), (.fld (.t 3) 2 1 false), 16, [], [], [], []⟩,
     ⟨(some 22), (some (17, true)), (.bib false (.t 19) (.t 21)), 17, [], [], [], []⟩,
     ⟨(some 23), none, (.pick (.t 17) (.t 22) (.c (.bool false))), 18, [], [], [], []⟩,
     ⟨(some 24), none, (.mov (.t 23)), 19, [], [], [], []⟩,
     ⟨(some 25), (some (24, true)), (.fld (.t 2) 0 0 true), 20, [], [], [], []⟩,
     ⟨(some 26), (some (24, true)), (.fld (.t 2) 3 1 false), 21, [], [], [], []⟩,
     ⟨(some 27), (some (24, true)), (.fld (.t 3) 0 0 true), 22, [], [], [], []⟩,
     ⟨(some 28), (some (24, true)), (.fld (.t 3) 3 1 false), 23, [], [], [], []⟩,
     ⟨(some 29), (some (24, true)), (.bin .eql (.t 26) (.t 28)), 24, [], [], [], []⟩,
     ⟨(some 30), none, (.pick (.t 24) (.t 29) (.c (.bool false))), 25, [], [], [], []⟩,
     ⟨(some 31), none, (.mov (.t 30)), 26, [], [], [], []⟩,
     ⟨(some 32), (some (31, true)), (.fld (.t 2) 0 0 true), 27, [], [], [], []⟩,
     ⟨(some 33), (some (31, true)), (.fld (.t 2) 4 1 false), 28, [], [], [], []⟩,
     ⟨(some 34), (some (31, true)), (.fld (.t 3) 0 0 true), 29, [], [], [], []⟩,
     ⟨(some 35), (some (31, true)), (.fld (.t 3) 4 1 false), 30, [], [], [], []⟩,
     ⟨(some 36), (some (31, true)), (.callS 36 [(.t 33), (.t 35)] true), 31, [], [], [], []⟩,
     ⟨(some 37), none, (.pick (.t 31) (.t 36) (.c (.bool false))), 32, [], [], [], []⟩,
     ⟨(some 4), none, (.mov (.t 37)), 33, [], [], [], []⟩])
   .ret))
  .ret)
def q35 : List ARes := [(.tmp 4)]
def v35 : UB := ⟨38, [(2, 5), (3, 5)], [5, 7, 11, 13, 18, 20, 25, 27, 32, 34]⟩
theorem kb35 : ubCode v35 (chkOps v35 r35) (.seq a35 .ret) = some b35 := by kernel_rfl
theorem kq35 : ubRes v35 r35 = some q35 := by kernel_rfl
theorem u35 {vs : List AV} {h : Hp} {n : Nat} {K : AV → Hp → Nat → Prop} (hl : vs.length ≤ 2) (hw : (∀ id, h id ≠ none → id < n) → wpA Try.prog b35 (retA q35 K) ⟨argS vs, h, n⟩) : CallsA Try.prog 35 vs h n K :=
  ub_use kb35 kq35 (m := 2) (by kernel_rfl) hl hw fun hw => e35 (by omega) hw
def b37 : ACode :=
  (.seq
   (.seq
    (.rgn 3 [
     ⟨(some 2), none, (.build [.undef, .undef] [(0, 2, (.t 0))]), 0, [], [], [], []⟩,
     ⟨(some 3), none, (.build [.undef, .undef] [(0, 2, (.t 1))]), 1, [], [], [], []⟩,
     ⟨(some 4), none, (.mov (.c (.bool false))), 2, [], [], [], []⟩])
   (.seq
    (.rgn 13 [
     ⟨(some 5), none, (.fld (.t 2) 0 0 true), 0, [], [], [], []⟩,
     ⟨(some 6), none, (.fld (.t 2) 0 1 false), 1, [], [], [], []⟩,
     ⟨(some 7), none, (.fld (.t 3) 0 0 true), 2, [], [], [], []⟩,
     ⟨(some 8), none, (.fld (.t 3) 0 1 false), 3, [], [], [], []⟩,
     ⟨(some 9), none, (.bin .eql (.t 6) (.t 8)), 4, [], [], [], []⟩,
     ⟨(some 10), none, (.mov (.t 9)), 5, [], [], [], []⟩,
     ⟨(some 11), (some (10, true)), (.fld (.t 2) 0 0 true), 6, [], [], [], []⟩,
     ⟨(some 12), (some (10, true)), (.fld (.t 2) 1 1 false), 7, [], [], [], []⟩,
     ⟨(some 13), (some (10, true)), (.fld (.t 3) 0 0 true), 8, [], [], [], []⟩,
     ⟨(some 14), (some (10, true)), (.fld (.t 3) 1 1 false), 9, [], [], [], []⟩,
     ⟨(some 15), (some (10, true)), (.callS 36 [(.t 12), (.t 14)] true), 10, [], [], [], []⟩,
     ⟨(some 16), none, (.pick (.t 10) (.t 15) (.c (.bool false))), 11, [], [], [], []⟩,
     ⟨(some 4), none, (.mov (.t 16)), 12, [], [], [], []⟩])
   .ret))
  .ret)
def q37 : List ARes := [(.tmp 4)]
def v37 : UB := ⟨17, [(2, 2), (3, 2)], [5, 7, 11, 13]⟩
theorem kb37 : ubCode v37 (chkOps v37 r37) (.seq a37 .ret) = some b37 := by kernel_rfl
theorem kq37 : ubRes v37 r37 = some q37 := by kernel_rfl
theorem u37 {vs : List AV} {h : Hp} {n : Nat} {K : AV → Hp → Nat → Prop} (hl : vs.length ≤ 2) (hw : (∀ id, h id ≠ none → id < n) → wpA Try.prog b37 (retA q37 K) ⟨argS vs, h, n⟩) : CallsA Try.prog 37 vs h n K :=
  ub_use kb37 kq37 (m := 2) (by kernel_rfl) hl hw fun hw => e37 (by omega) hw
def b38 : ACode :=
  (.seq
   (.seq
    (.rgn 1 [
     ⟨(some 6), none, (.mov (.c (.bool false))), 0, [], [], [], []⟩])
   (.seq
    (.seq
     (.rgn 5 [
      ⟨(some 10), none, (.mov (.t 0)), 0, [], [], [], []⟩,
      ⟨(some 11), none, (.len (.t 10)), 1, [], [], [], []⟩,
      ⟨(some 12), none, (.mov (.t 1)), 2, [], [], [], []⟩,
      ⟨(some 13), none, (.len (.t 12)), 3, [], [], [], []⟩,
      ⟨(some 14), none, (.bin .neq (.t 11) (.t 13)), 4, [], [], [], []⟩])
    (.cond (.t 14)
      (.seq
       (.rgn 1 [
        ⟨(some 6), none, (.mov (.c (.bool false))), 0, [], [], [], []⟩])
      .ret)
      .skip))
   (.seq
    (.seq
     (.rgn 3 [
      ⟨(some 15), none, (.mov (.t 0)), 0, [], [], [], []⟩,
      ⟨(some 16), none, (.len (.t 15)), 1, [], [], [], []⟩,
      ⟨(some 17), none, (.mov (.c (.int .i64 0))), 2, [], [], [], []⟩])
    (.block 0
     (.loop
      (.seq
       (.rgn 1 [
        ⟨(some 18), none, (.bin .lss (.t 17) (.t 16)), 0, [], [], [], []⟩])
      (.seq
       (.cond (.t 18)
         .skip
         (.exit 0))
      (.seq
       (.block 1
        (.seq
         (.rgn 6 [
          ⟨(some 19), none, (.mov (.t 17)), 0, [], [], [], []⟩,
          ⟨(some 20), none, (.ia 5 (.t 15) (.t 17)), 1, [], [], [], []⟩,
          ⟨(some 21), none, (.ld (.t 20) 5 true), 2, [], [], [], []⟩,
          ⟨(some 8), none, (.mov (.c (.agg [(.int .i64 0), (.bool false), (.bool false), (.int .i64 0), (.isl (some true) true [])]))), 3, [], [], [], []⟩,
          ⟨(some 7), none, (.mov (.t 19)), 4, [], [], [], []⟩,
          ⟨(some 32), none, (.fld (.t 8) 0 0 true), 5, [], [], [], []⟩,
          ⟨(some 33), none, (.fld (.t 8) 5 0 true), 5, [], [], [], []⟩,
          ⟨(some 8), none, (.build [.undef, .undef, .undef, .undef, .undef] [(0, 0, (.t 32)), (0, 5, (.t 21)), (5, 0, (.t 33))]), 5, [], [], [], []⟩])
        (.seq
         (.rgn 6 [
          ⟨(some 22), none, (.mov (.t 1)), 0, [], [], [], []⟩,
          ⟨(some 23), none, (.mov (.t 7)), 1, [], [], [], []⟩,
          ⟨(some 24), none, (.ia 5 (.t 22) (.t 23)), 2, [], [], [], []⟩,
          ⟨(some 25), none, (.ld (.t 24) 5 true), 3, [], [], [], []⟩,
          ⟨(some 9), none, (.mov (.c (.agg [(.int .i64 0), (.bool false), (.bool false), (.int .i64 0), (.isl (some true) true [])]))), 4, [], [], [], []⟩,
          ⟨(some 32), none, (.fld (.t 9) 0 0 true), 5, [], [], [], []⟩,
          ⟨(some 33), none, (.fld (.t 9) 5 0 true), 5, [], [], [], []⟩,
          ⟨(some 9), none, (.build [.undef, .undef, .undef, .undef, .undef] [(0, 0, (.t 32)), (0, 5, (.t 25)), (5, 0, (.t 33))]), 5, [], [], [], []⟩])
        (.seq
         (.rgn 5 [
          ⟨(some 26), none, (.mov (.t 2)), 0, [], [], [], []⟩,
          ⟨(some 27), none, (.fld (.t 8) 0 5 true), 1, [], [], [], []⟩,
          ⟨(some 28), none, (.fld (.t 9) 0 5 true), 2, [], [], [], []⟩,
          ⟨(some 29), none, (.callV (.t 26) [(.t 27), (.t 28)] true), 3, [], [], [], []⟩,
          ⟨(some 30), none, (.un .not (.t 29)), 4, [], [], [], []⟩])
        (.cond (.t 30)
          (.seq
           (.rgn 1 [
            ⟨(some 6), none, (.mov (.c (.bool false))), 0, [], [], [], []⟩])
          .ret)
          .skip)))))
      (.rgn 2 [
       ⟨(some 31), none, (.bin .add (.t 17) (.c (.int .i64 1))), 0, [], [], [], []⟩,
       ⟨(some 17), none, (.mov (.t 31)), 1, [], [], [], []⟩])))))))
   (.seq
    (.rgn 1 [
     ⟨(some 6), none, (.mov (.c (.bool true))), 0, [], [], [], []⟩])
   .ret))))
  .ret)
def q38 : List ARes := [(.tmp 6)]
def v38 : UB := ⟨32, [(8, 5), (9, 5)], []⟩
theorem kb38 : ubCode v38 (chkOps v38 r38) (.seq a38 .ret) = some b38 := by kernel_rfl
theorem kq38 : ubRes v38 r38 = some q38 := by kernel_rfl
theorem u38 {vs : List AV} {h : Hp} {n : Nat} {K : AV → Hp → Nat → Prop} (hl : vs.length ≤ 8) (hw : (∀ id, h id ≠ none → id < n) → wpA Try.prog b38 (retA q38 K) ⟨argS vs, h, n⟩) : CallsA Try.prog 38 vs h n K :=
  ub_use kb38 kq38 (m := 8) (by kernel_rfl) hl hw fun hw => e38 (by omega) hw
def b39 : ACode :=
  (.seq
   (.seq
    (.rgn 1 [
     ⟨(some 6), none, (.mov (.c (.bool false))), 0, [], [], [], []⟩])
   (.seq
    (.seq
     (.rgn 5 [
      ⟨(some 10), none, (.mov (.t 0)), 0, [], [], [], []⟩,
      ⟨(some 11), none, (.len (.t 10)), 1, [], [], [], []⟩,
      ⟨(some 12), none, (.mov (.t 1)), 2, [], [], [], []⟩,
      ⟨(some 13), none, (.len (.t 12)), 3, [], [], [], []⟩,
      ⟨(some 14), none, (.bin .neq (.t 11) (.t 13)), 4, [], [], [], []⟩])
    (.cond (.t 14)
      (.seq
       (.rgn 1 [
        ⟨(some 6), none, (.mov (.c (.bool false))), 0, [], [], [], []⟩])
      .ret)
      .skip))
   (.seq
    (.seq
     (.rgn 3 [
      ⟨(some 15), none, (.mov (.t 0)), 0, [], [], [], []⟩,
      ⟨(some 16), none, (.len (.t 15)), 1, [], [], [], []⟩,
      ⟨(some 17), none, (.mov (.c (.int .i64 0))), 2, [], [], [], []⟩])
    (.block 0
     (.loop
      (.seq
       (.rgn 1 [
        ⟨(some 18), none, (.bin .lss (.t 17) (.t 16)), 0, [], [], [], []⟩])
      (.seq
       (.cond (.t 18)
         .skip
         (.exit 0))
      (.seq
       (.block 1
        (.seq
         (.rgn 6 [
          ⟨(some 19), none, (.mov (.t 17)), 0, [], [], [], []⟩,
          ⟨(some 20), none, (.ia 2 (.t 15) (.t 17)), 1, [], [], [], []⟩,
          ⟨(some 21), none, (.ld (.t 20) 2 true), 2, [], [], [], []⟩,
          ⟨(some 8), none, (.mov (.c (.agg [(.int .i64 0), (.isl (some true) true [])]))), 3, [], [], [], []⟩,
          ⟨(some 7), none, (.mov (.t 19)), 4, [], [], [], []⟩,
          ⟨(some 32), none, (.fld (.t 8) 0 0 true), 5, [], [], [], []⟩,
          ⟨(some 33), none, (.fld (.t 8) 2 0 true), 5, [], [], [], []⟩,
          ⟨(some 8), none, (.build [.undef, .undef] [(0, 0, (.t 32)), (0, 2, (.t 21)), (2, 0, (.t 33))]), 5, [], [], [], []⟩])
        (.seq
         (.rgn 6 [
          ⟨(some 22), none, (.mov (.t 1)), 0, [], [], [], []⟩,
          ⟨(some 23), none, (.mov (.t 7)), 1, [], [], [], []⟩,
          ⟨(some 24), none, (.ia 2 (.t 22) (.t 23)), 2, [], [], [], []⟩,
          ⟨(some 25), none, (.ld (.t 24) 2 true), 3, [], [], [], []⟩,
          ⟨(some 9), none, (.mov (.c (.agg [(.int .i64 0), (.isl (some true) true [])]))), 4, [], [], [], []⟩,
          ⟨(some 32), none, (.fld (.t 9) 0 0 true), 5, [], [], [], []⟩,
          ⟨(some 33), none, (.fld (.t 9) 2 0 true), 5, [], [], [], []⟩,
          ⟨(some 9), none, (.build [.undef, .undef] [(0, 0, (.t 32)), (0, 2, (.t 25)), (2, 0, (.t 33))]), 5, [], [], [], []⟩])
        (.seq
         (.rgn 5 [
          ⟨(some 26), none, (.mov (.t 2)), 0, [], [], [], []⟩,
          ⟨(some 27), none, (.fld (.t 8) 0 2 true), 1, [], [], [], []⟩,
          ⟨(some 28), none, (.fld (.t 9) 0 2 true), 2, [], [], [], []⟩,
          ⟨(some 29), none, (.callV (.t 26) [(.t 27), (.t 28)] true), 3, [], [], [], []⟩,
          ⟨(some 30), none, (.un .not (.t 29)), 4, [], [], [], []⟩])
        (.cond (.t 30)
          (.seq
           (.rgn 1 [
            ⟨(some 6), none, (.mov (.c (.bool false))), 0, [], [], [], []⟩])
          .ret)
          .skip)))))
      (.rgn 2 [
       ⟨(some 31), none, (.bin .add (.t 17) (.c (.int .i64 1))), 0, [], [], [], []⟩,
       ⟨(some 17), none, (.mov (.t 31)), 1, [], [], [], []⟩])))))))
   (.seq
    (.rgn 1 [
     ⟨(some 6), none, (.mov (.c (.bool true))), 0, [], [], [], []⟩])
   .ret))))
  .ret)
def q39 : List ARes := [(.tmp 6)]
def v39 : UB := ⟨32, [(8, 2), (9, 2)], []⟩
theorem kb39 : ubCode v39 (chkOps v39 r39) (.seq a39 .ret) = some b39 := by kernel_rfl
theorem kq39 : ubRes v39 r39 = some q39 := by kernel_rfl
theorem u39 {vs : List AV} {h : Hp} {n : Nat} {K : AV → Hp → Nat → Prop} (hl : vs.length ≤ 8) (hw : (∀ id, h id ≠ none → id < n) → wpA Try.prog b39 (retA q39 K) ⟨argS vs, h, n⟩) : CallsA Try.prog 39 vs h n K :=
  ub_use kb39 kq39 (m := 8) (by kernel_rfl) hl hw fun hw => e39 (by omega) hw
def b50 : ACode :=
  (.seq
   (.seq
    (.rgn 2 [
     ⟨(some 2), none, (.build [.undef, .undef] [(0, 2, (.t 0))]), 0, [], [], [], []⟩,
     ⟨(some 3), none, (.mov (.c (.bool false))), 1, [], [], [], []⟩])
   (.seq
    (.rgn 6 [
     ⟨(some 4), none, (.fld (.t 2) 0 0 true), 0, [], [], [], []⟩,
     ⟨(some 5), none, (.fld (.t 2) 0 1 false), 1, [], [], [], []⟩,
     ⟨(some 6), none, (.fa (.t 1) 2), 2, [], [], [], []⟩,
     ⟨(some 7), none, (.ld (.t 6) 1 false), 3, [], [], [], []⟩,
     ⟨(some 8), none, (.bin .eql (.t 5) (.t 7)), 4, [], [], [], []⟩,
     ⟨(some 3), none, (.mov (.t 8)), 5, [], [], [], []⟩])
   .ret))
  .ret)
def q50 : List ARes := [(.tmp 3)]
def v50 : UB := ⟨9, [(2, 2)], [4]⟩
theorem kb50 : ubCode v50 (chkOps v50 r50) (.seq a50 .ret) = some b50 := by kernel_rfl
theorem kq50 : ubRes v50 r50 = some q50 := by kernel_rfl
theorem u50 {vs : List AV} {h : Hp} {n : Nat} {K : AV → Hp → Nat → Prop} (hl : vs.length ≤ 2) (hw : (∀ id, h id ≠ none → id < n) → wpA Try.prog b50 (retA q50 K) ⟨argS vs, h, n⟩) : CallsA Try.prog 50 vs h n K :=
  ub_use kb50 kq50 (m := 2) (by kernel_rfl) hl hw fun hw => e50 (by omega) hw
def b53 : ACode :=
  (.seq
   (.seq
    (.rgn 2 [
     ⟨(some 7), none, (.build [.undef, .undef, .undef, .undef, .undef, .undef, .undef, .undef] [(0, 8, (.t 3))]), 0, [], [], [], []⟩,
     ⟨(some 8), none, (.mov (.c (.int .i64 0))), 1, [], [], [], []⟩])
   (.seq
    (.seq
     (.rgn 2 [
      ⟨(some 10), none, (.mov (.t 2)), 0, [], [], [], []⟩,
      ⟨(some 11), none, (.un .not (.t 10)), 1, [], [], [], []⟩])
    (.cond (.t 11)
      (.rgn 14 [
       ⟨(some 12), none, (.mov (.t 0)), 0, [], [], [], []⟩,
       ⟨(some 13), none, (.mov (.t 0)), 1, [], [], [], []⟩,
       ⟨(some 14), none, (.nck (.t 13)), 2, [], [], [], []⟩,
       ⟨(some 15), none, (.fa (.t 14) 0), 3, [], [], [], []⟩,
       ⟨(some 16), none, (.ld (.t 15) 1 false), 4, [9], [], [], []⟩,
       ⟨(some 17), none, (.mov (.t 1)), 5, [], [], [], []⟩,
       ⟨(some 18), none, (.fld (.t 7) 0 0 true), 6, [], [], [], []⟩,
       ⟨(some 19), none, (.fld (.t 7) 1 1 false), 7, [], [], [], []⟩,
       ⟨(some 20), none, (.build [(.int .i64 0), (.bool false), (.bool false), (.int .i64 0), (.isl (some true) true [])] [(0, (1, (.t 19)))]), 8, [], [], [], []⟩,
       ⟨(some 21), none, (.bsl 38 5 1 [(.int .i64 0), (.bool false), (.bool false), (.int .i64 0), (.isl (some true) true [])] [(0, (.t 20))]), 9, [], [], [], []⟩,
       ⟨(some 22), none, (.callS 58 [(.t 16), (.t 17), (.t 21)] false), 10, [], [], [], []⟩,
       ⟨(some 23), none, (.nck (.t 12)), 11, [], [], [], []⟩,
       ⟨(some 24), none, (.fa (.t 23) 0), 12, [], [], [], []⟩,
       ⟨none, none, (.st (.t 24) 1 (.t 22)), 13, [], [], [], []⟩])
      .skip))
   (.seq
    (.rgn 7 [
     ⟨(some 25), none, (.mov (.t 0)), 0, [], [], [], []⟩,
     ⟨(some 26), none, (.nck (.t 25)), 1, [], [], [], []⟩,
     ⟨(some 27), none, (.fa (.t 26) 0), 2, [], [], [], []⟩,
     ⟨(some 28), none, (.ld (.t 27) 1 false), 3, [], [], [], []⟩,
     ⟨(some 29), none, (.mov (.t 1)), 4, [], [], [], []⟩,
     ⟨(some 30), none, (.ia 5 (.t 28) (.t 29)), 5, [], [], [], []⟩,
     ⟨(some 9), none, (.mov (.t 30)), 6, [], [], [], []⟩])
   (.seq
    (.block 0
     (.seq
      (.rgn 5 [
       ⟨(some 32), none, (.mov (.t 9)), 0, [], [], [], []⟩,
       ⟨(some 33), none, (.nck (.t 32)), 1, [], [], [], []⟩,
       ⟨(some 34), none, (.fa (.t 33) 1), 2, [], [], [], []⟩,
       ⟨(some 35), none, (.ld (.t 34) 1 false), 3, [], [], [], []⟩,
       ⟨(some 31), none, (.mov (.t 35)), 4, [], [], [], []⟩])
     (.cond (.t 31)
       (.seq
        (.rgn 1 [
         ⟨(some 8), none, (.mov (.c (.int .i64 2))), 0, [], [], [], []⟩])
       .ret)
       (.seq
        (.rgn 14 [
         ⟨(some 37), none, (.mov (.t 9)), 0, [], [], [], []⟩,
         ⟨(some 38), none, (.nck (.t 37)), 1, [], [], [], []⟩,
         ⟨(some 39), none, (.fa (.t 38) 2), 2, [], [], [], []⟩,
         ⟨(some 40), none, (.ld (.t 39) 1 false), 3, [], [], [], []⟩,
         ⟨(some 41), none, (.mov (.t 40)), 4, [], [], [], []⟩,
         ⟨(some 42), (some (41, true)), (.fld (.t 7) 0 0 true), 5, [], [], [], []⟩,
         ⟨(some 43), (some (41, true)), (.fld (.t 7) 3 1 false), 6, [], [], [], []⟩,
         ⟨(some 44), (some (41, true)), (.mov (.t 9)), 7, [], [], [], []⟩,
         ⟨(some 45), (some (41, true)), (.nck (.t 44)), 8, [], [], [], []⟩,
         ⟨(some 46), (some (41, true)), (.fa (.t 45) 3), 9, [], [], [], []⟩,
         ⟨(some 47), (some (41, true)), (.ld (.t 46) 1 false), 10, [], [], [], []⟩,
         ⟨(some 48), (some (41, true)), (.bin .leq (.t 43) (.t 47)), 11, [], [], [], []⟩,
         ⟨(some 49), none, (.pick (.t 41) (.t 48) (.c (.bool false))), 12, [], [], [], []⟩,
         ⟨(some 36), none, (.mov (.t 49)), 13, [], [], [], []⟩])
       (.cond (.t 36)
         (.seq
          (.rgn 1 [
           ⟨(some 8), none, (.mov (.c (.int .i64 1))), 0, [], [], [], []⟩])
         .ret)
         .skip)))))
   (.seq
    (.rgn 25 [
     ⟨(some 50), none, (.mov (.t 9)), 0, [], [], [], []⟩,
     ⟨(some 51), none, (.mov (.t 9)), 1, [], [], [], []⟩,
     ⟨(some 52), none, (.mov (.t 9)), 2, [], [], [], []⟩,
     ⟨(some 53), none, (.fld (.t 7) 0 0 true), 3, [], [], [], []⟩,
     ⟨(some 54), none, (.fld (.t 7) 3 1 false), 4, [], [], [], []⟩,
     ⟨(some 55), none, (.mov (.t 9)), 5, [], [], [], []⟩,
     ⟨(some 56), none, (.nck (.t 55)), 6, [], [], [], []⟩,
     ⟨(some 57), none, (.fa (.t 56) 4), 7, [], [], [], []⟩,
     ⟨(some 58), none, (.ld (.t 57) 1 false), 8, [14], [], [], []⟩,
     ⟨(some 59), none, (.fld (.t 7) 0 0 true), 9, [], [], [], []⟩,
     ⟨(some 60), none, (.fld (.t 7) 3 1 false), 10, [], [], [], []⟩,
     ⟨(some 61), none, (.fld (.t 7) 0 0 true), 11, [], [], [], []⟩,
     ⟨(some 62), none, (.fld (.t 7) 4 1 false), 12, [], [], [], []⟩,
     ⟨(some 63), none, (.build [(.int .i64 0), (.int .u64 0)] [(0, (1, (.t 60))), (1, (1, (.t 62)))]), 13, [], [], [], []⟩,
     ⟨(some 64), none, (.bsl 44 2 1 [(.int .i64 0), (.int .u64 0)] [(0, (.t 63))]), 14, [], [], [], []⟩,
     ⟨(some 65), none, (.app 44 2 16 (.t 58) (.t 64)), 15, [], [], [], []⟩,
     ⟨(some 66), none, (.nck (.t 50)), 16, [], [], [], []⟩,
     ⟨(some 67), none, (.fa (.t 66) 2), 17, [], [], [], []⟩,
     ⟨none, none, (.st (.t 67) 1 (.c (.bool true))), 18, [], [], [], []⟩,
     ⟨(some 68), none, (.nck (.t 51)), 19, [], [], [], []⟩,
     ⟨(some 69), none, (.fa (.t 68) 3), 20, [], [], [], []⟩,
     ⟨none, none, (.st (.t 69) 1 (.t 54)), 21, [], [], [], []⟩,
     ⟨(some 70), none, (.nck (.t 52)), 22, [], [], [], []⟩,
     ⟨(some 71), none, (.fa (.t 70) 4), 23, [], [], [], []⟩,
     ⟨none, none, (.st (.t 71) 1 (.t 65)), 24, [], [], [], []⟩])
   (.seq
    (.rgn 1 [
     ⟨(some 8), none, (.mov (.c (.int .i64 0))), 0, [], [], [], []⟩])
   .ret))))))
  .ret)
def q53 : List ARes := [(.tmp 8)]
def v53 : UB := ⟨72, [(7, 8)], [18, 42, 53, 59, 61]⟩
theorem kb53 : ubCode v53 (chkOps v53 r53) (.seq a53 .ret) = some b53 := by kernel_rfl
theorem kq53 : ubRes v53 r53 = some q53 := by kernel_rfl
theorem u53 {vs : List AV} {h : Hp} {n : Nat} {K : AV → Hp → Nat → Prop} (hl : vs.length ≤ 7) (hw : (∀ id, h id ≠ none → id < n) → wpA Try.prog b53 (retA q53 K) ⟨argS vs, h, n⟩) : CallsA Try.prog 53 vs h n K :=
  ub_use kb53 kq53 (m := 7) (by kernel_rfl) hl hw fun hw => e53 (by omega) hw
def b54 : ACode :=
  (.seq
   (.seq
    (.rgn 1 [
     ⟨(some 6), none, (.mov (.c (.isl (some true) true []))), 0, [], [], [], []⟩])
   (.seq
    (.rgn 1 [
     ⟨(some 7), none, (.mov (.c (.isl (some true) true []))), 0, [], [], [], []⟩])
   (.seq
    (.seq
     (.rgn 3 [
      ⟨(some 10), none, (.mov (.t 0)), 0, [], [], [], []⟩,
      ⟨(some 11), none, (.len (.t 10)), 1, [], [], [], []⟩,
      ⟨(some 12), none, (.mov (.c (.int .i64 0))), 2, [], [], [], []⟩])
    (.block 0
     (.loop
      (.seq
       (.rgn 1 [
        ⟨(some 13), none, (.bin .lss (.t 12) (.t 11)), 0, [], [], [], []⟩])
      (.seq
       (.cond (.t 13)
         .skip
         (.exit 0))
      (.seq
       (.block 1
        (.seq
         (.rgn 4 [
          ⟨(some 14), none, (.ia 2 (.t 10) (.t 12)), 0, [], [], [], []⟩,
          ⟨(some 15), none, (.ld (.t 14) 2 true), 1, [], [], [], []⟩,
          ⟨(some 9), none, (.mov (.c (.agg [(.int .i64 0), (.int .u64 0)]))), 2, [], [], [], []⟩,
          ⟨(some 33), none, (.fld (.t 9) 0 0 true), 3, [], [], [], []⟩,
          ⟨(some 34), none, (.fld (.t 9) 2 0 true), 3, [], [], [], []⟩,
          ⟨(some 9), none, (.build [.undef, .undef] [(0, 0, (.t 33)), (0, 2, (.t 15)), (2, 0, (.t 34))]), 3, [], [], [], []⟩])
        (.seq
         (.rgn 10 [
          ⟨(some 16), none, (.fld (.t 9) 0 0 true), 0, [], [], [], []⟩,
          ⟨(some 17), none, (.fld (.t 9) 0 1 false), 1, [], [], [], []⟩,
          ⟨(some 18), none, (.mov (.t 1)), 2, [], [], [], []⟩,
          ⟨(some 19), none, (.bin .geq (.t 17) (.t 18)), 3, [], [], [], []⟩,
          ⟨(some 20), none, (.mov (.t 19)), 4, [], [], [], []⟩,
          ⟨(some 21), (some (20, true)), (.fld (.t 9) 0 0 true), 5, [], [], [], []⟩,
          ⟨(some 22), (some (20, true)), (.fld (.t 9) 0 1 false), 6, [], [], [], []⟩,
          ⟨(some 23), (some (20, true)), (.mov (.t 2)), 7, [], [], [], []⟩,
          ⟨(some 24), (some (20, true)), (.bin .leq (.t 22) (.t 23)), 8, [], [], [], []⟩,
          ⟨(some 25), none, (.pick (.t 20) (.t 24) (.c (.bool false))), 9, [], [], [], []⟩])
        (.cond (.t 25)
          (.rgn 5 [
           ⟨(some 26), none, (.mov (.t 7)), 0, [], [], [], []⟩,
           ⟨(some 27), none, (.fld (.t 9) 0 2 true), 1, [], [], [], []⟩,
           ⟨(some 28), none, (.bsl 44 2 1 [(.int .i64 0), (.int .u64 0)] [(0, (.t 27))]), 2, [], [], [], []⟩,
           ⟨(some 29), none, (.app 44 2 16 (.t 26) (.t 28)), 3, [], [], [], []⟩,
           ⟨(some 7), none, (.mov (.t 29)), 4, [], [], [], []⟩])
          .skip))))
      (.rgn 2 [
       ⟨(some 30), none, (.bin .add (.t 12) (.c (.int .i64 1))), 0, [], [], [], []⟩,
       ⟨(some 12), none, (.mov (.t 30)), 1, [], [], [], []⟩])))))))
   (.seq
    (.rgn 3 [
     ⟨(some 31), none, (.mov (.t 7)), 0, [], [], [], []⟩,
     ⟨(some 32), none, (.callS 59 [(.t 31)] true), 1, [], [], [], []⟩,
     ⟨(some 6), none, (.mov (.t 32)), 2, [], [], [], []⟩])
   .ret))))
  .ret)
def q54 : List ARes := [(.tmp 6)]
def v54 : UB := ⟨33, [(9, 2)], [16, 21]⟩
theorem kb54 : ubCode v54 (chkOps v54 r54) (.seq a54 .ret) = some b54 := by kernel_rfl
theorem kq54 : ubRes v54 r54 = some q54 := by kernel_rfl
theorem u54 {vs : List AV} {h : Hp} {n : Nat} {K : AV → Hp → Nat → Prop} (hl : vs.length ≤ 9) (hw : (∀ id, h id ≠ none → id < n) → wpA Try.prog b54 (retA q54 K) ⟨argS vs, h, n⟩) : CallsA Try.prog 54 vs h n K :=
  ub_use kb54 kq54 (m := 9) (by kernel_rfl) hl hw fun hw => e54 (by omega) hw
def b57 : ACode :=
  (.seq
   (.seq
    (.rgn 2 [
     ⟨(some 2), none, (.build [.undef, .undef, .undef, .undef, .undef] [(0, 5, (.t 0))]), 0, [], [], [], []⟩,
     ⟨(some 3), none, (.mov (.c (.bool false))), 1, [], [], [], []⟩])
   (.seq
    (.rgn 5 [
     ⟨(some 4), none, (.fld (.t 2) 0 0 true), 0, [], [], [], []⟩,
     ⟨(some 5), none, (.fld (.t 2) 0 1 false), 1, [], [], [], []⟩,
     ⟨(some 6), none, (.ld (.t 1) 1 false), 2, [], [], [], []⟩,
     ⟨(some 7), none, (.bin .geq (.t 5) (.t 6)), 3, [], [], [], []⟩,
     ⟨(some 3), none, (.mov (.t 7)), 4, [], [], [], []⟩])
   .ret))
  .ret)
def q57 : List ARes := [(.tmp 3)]
def v57 : UB := ⟨8, [(2, 5)], [4]⟩
theorem kb57 : ubCode v57 (chkOps v57 r57) (.seq a57 .ret) = some b57 := by kernel_rfl
theorem kq57 : ubRes v57 r57 = some q57 := by kernel_rfl
theorem u57 {vs : List AV} {h : Hp} {n : Nat} {K : AV → Hp → Nat → Prop} (hl : vs.length ≤ 2) (hw : (∀ id, h id ≠ none → id < n) → wpA Try.prog b57 (retA q57 K) ⟨argS vs, h, n⟩) : CallsA Try.prog 57 vs h n K :=
  ub_use kb57 kq57 (m := 2) (by kernel_rfl) hl hw fun hw => e57 (by omega) hw
end Go.Proofs.Ytdbakmdcepkpmaa
