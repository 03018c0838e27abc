/-
  More functions of the program in the evaluator's own form (printed by program), and that they are the program's.
-/
import Derived.Test.YtlikgpehalhgkaaQWIr
namespace Go.Ai.Wire
open Go.Proofs

/- riposte/ripostelaw25.WireOnce -/
/- riposte/ripostelaw25.WireTurned -/
def ir9 : IFunc := ⟨[.tmp 2],
 (.seq (.region [⟨(some 2), .mv (.c (.bool false)), none⟩])
 (.seq (.region [⟨(some 16), .call (.c (.func (.func 37) #[] #[])) [], none⟩,
  ⟨(some 17), .build [(.int .i64 0), (.slice none 0 0), (.int .i64 0), (.slice none 0 0), (.int .i64 0), (.slice none 0 0), (.int .i64 0), (.slice none 0 0), (.slice none 0 0), (.slice none 0 0), (.slice none 0 0), (.slice none 0 0), (.slice none 0 0), (.bool false)] [(0, 9, (.t 16))], none⟩,
  ⟨(some 18), .box 14 (.t 17), none⟩,
  ⟨(some 19), .call (.c (.func (.func 37) #[] #[])) [], none⟩,
  ⟨(some 4), .mk [(.int .i64 0), (.slice none 0 0), (.int .i64 0), (.slice none 0 0), (.int .i64 0), (.slice none 0 0), (.int .i64 0), (.slice none 0 0), (.slice none 0 0)], none⟩,
  ⟨(some 3), .mv (.t 18), none⟩,
  ⟨none, .store 9 (.t 4) (.t 19), none⟩])
 (.seq (.seq (.region [⟨(some 5), .mv (.c (.int .i64 0)), none⟩])
 (.block 0
  (.loop
   (.seq (.seq (.region [⟨(some 20), .mv (.t 5), none⟩,
    ⟨(some 21), .mv (.t 0), none⟩,
    ⟨(some 22), .len (.t 21), none⟩,
    ⟨(some 23), .bin .num .lss (.t 20) (.t 22), none⟩,
    ⟨(some 24), .mv (.t 23), none⟩,
    ⟨(some 25), .mv (.t 5), (some (24, true))⟩,
    ⟨(some 26), .bin .num .lss (.t 25) (.c (.int .i64 80)), (some (24, true))⟩,
    ⟨(some 27), .pick (.t 24) (.t 26) (.c (.bool false)), none⟩])
   (.cond (.t 27)
    .skip
    (.exit 0)))
   (.seq (.block 1
    (.seq (.region [⟨(some 30), .mv (.t 3), none⟩,
     ⟨(some 31), .mv (.t 0), none⟩,
     ⟨(some 32), .mv (.t 5), none⟩,
     ⟨(some 33), .idxS 3 (.t 31) (.t 32), none⟩,
     ⟨(some 34), .loadN 3 (.t 33), none⟩,
     ⟨(some 35), .call (.c (.func (.func 38) #[] #[])) [(.t 30), (.t 34)], none⟩,
     ⟨(some 6), .mk [(.int .u8 0), (.int .i64 0), (.int .i64 0), (.int .i64 0), (.int .i64 0), (.slice none 0 0)], none⟩,
     ⟨none, .store 6 (.t 6) (.t 35), none⟩])
    (.seq (.region [⟨(some 36), .loadN 6 (.t 6), none⟩,
     ⟨(some 7), .mk [(.int .u8 0), (.int .i64 0), (.int .i64 0), (.int .i64 0), (.int .i64 0), (.slice none 0 0)], none⟩,
     ⟨none, .store 6 (.t 7) (.t 36), none⟩])
    (.seq (.seq (.region [⟨(some 37), .faddr 0 (.t 6), none⟩,
     ⟨(some 38), .load1 (.t 37), none⟩,
     ⟨(some 39), .bin .num .eql (.t 38) (.c (.int .u8 1)), none⟩,
     ⟨(some 40), .mv (.t 39), none⟩,
     ⟨(some 41), .faddr 0 (.t 6), (some (40, false))⟩,
     ⟨(some 42), .load1 (.t 41), (some (40, false))⟩,
     ⟨(some 43), .bin .num .eql (.t 42) (.c (.int .u8 2)), (some (40, false))⟩,
     ⟨(some 44), .pick (.t 40) (.c (.bool true)) (.t 43), none⟩])
    (.cond (.t 44)
     (.region [⟨(some 45), .faddr 1 (.t 6), none⟩,
      ⟨(some 46), .load1 (.t 45), none⟩,
      ⟨(some 47), .bin .num .sub (.c (.int .i64 1)) (.t 46), none⟩,
      ⟨(some 48), .faddr 1 (.t 7), none⟩,
      ⟨none, .store 1 (.t 48) (.t 47), none⟩])
     .skip))
    (.seq (.region [⟨(some 49), .buildSlice 0 [] [], none⟩,
     ⟨(some 50), .faddr 5 (.t 6), none⟩,
     ⟨(some 51), .load1 (.t 50), none⟩,
     ⟨(some 52), .append 1 1 (.t 49) (.t 51), none⟩,
     ⟨(some 53), .faddr 5 (.t 7), none⟩,
     ⟨none, .store 1 (.t 53) (.t 52), none⟩])
    (.seq (.dregion [(0, ⟨(some 55), .mv (.t 3), none⟩, []),
     (1, ⟨(some 56), .nilCheck (.t 55), none⟩, []),
     (2, ⟨(some 57), .faddr 0 (.t 56), none⟩, []),
     (3, ⟨(some 58), .loadN 9 (.t 57), none⟩, []),
     (4, ⟨(some 59), .call (.c (.func (.func 25) #[] #[])) [(.t 58)], none⟩, []),
     (5, ⟨(some 60), .loadN 6 (.t 6), none⟩, [0, 1]),
     (6, ⟨(some 61), .call (.c (.func (.func 39) #[] #[])) [(.t 59), (.t 60)], none⟩, []),
     (7, ⟨(some 54), .mv (.t 61), none⟩, []),
     (8, ⟨(some 62), .extract 0 (.t 54), none⟩, []),
     (9, ⟨(some 63), .extract 1 (.t 54), none⟩, []),
     (10, ⟨(some 64), .extract 2 (.t 54), none⟩, []),
     (11, ⟨(some 8), .mk [(.int .i64 0), (.slice none 0 0), (.int .i64 0), (.slice none 0 0), (.int .i64 0), (.slice none 0 0), (.int .i64 0), (.slice none 0 0), (.slice none 0 0)], none⟩, [4, 5, 6, 7]),
     (12, ⟨none, .store 9 (.t 8) (.t 62), none⟩, []),
     (13, ⟨(some 9), .mv (.t 63), none⟩, []),
     (14, ⟨(some 10), .mv (.t 64), none⟩, [])])
    (.seq (.region [⟨(some 66), .loadN 9 (.t 4), none⟩,
     ⟨(some 67), .loadN 6 (.t 7), none⟩,
     ⟨(some 68), .call (.c (.func (.func 39) #[] #[])) [(.t 66), (.t 67)], none⟩,
     ⟨(some 65), .mv (.t 68), none⟩,
     ⟨(some 69), .extract 0 (.t 65), none⟩,
     ⟨(some 70), .extract 1 (.t 65), none⟩,
     ⟨(some 71), .extract 2 (.t 65), none⟩,
     ⟨(some 11), .mk [(.int .i64 0), (.slice none 0 0), (.int .i64 0), (.slice none 0 0), (.int .i64 0), (.slice none 0 0), (.int .i64 0), (.slice none 0 0), (.slice none 0 0)], none⟩,
     ⟨none, .store 9 (.t 11) (.t 69), none⟩,
     ⟨(some 12), .mv (.t 70), none⟩,
     ⟨(some 13), .mv (.t 71), none⟩])
    (.seq (.seq (.region [⟨(some 72), .mv (.t 10), none⟩,
     ⟨(some 73), .mv (.t 13), none⟩,
     ⟨(some 74), .bin .num .neq (.t 72) (.t 73), none⟩,
     ⟨(some 75), .mv (.t 74), none⟩,
     ⟨(some 76), .mv (.t 9), (some (75, false))⟩,
     ⟨(some 77), .mv (.t 12), (some (75, false))⟩,
     ⟨(some 78), .call (.c (.func (.func 31) #[] #[])) [(.t 76), (.t 77)], (some (75, false))⟩,
     ⟨(some 79), .not (.t 78), (some (75, false))⟩,
     ⟨(some 80), .pick (.t 75) (.c (.bool true)) (.t 79), none⟩])
    (.cond (.t 80)
     (.seq (.region [⟨(some 2), .mv (.c (.bool false)), none⟩])
     .ret)
     .skip))
    (.seq (.seq (.region [⟨(some 81), .mv (.t 10), none⟩,
     ⟨(some 82), .bin .num .neq (.t 81) (.c (.int .i64 0)), none⟩])
    (.cond (.t 82)
     (.seq (.region [⟨(some 83), .mv (.t 3), none⟩,
      ⟨(some 84), .nilCheck (.t 83), none⟩,
      ⟨(some 85), .faddr 0 (.t 84), none⟩,
      ⟨(some 86), .loadN 9 (.t 85), none⟩,
      ⟨(some 87), .call (.c (.func (.func 40) #[] #[])) [(.t 86)], none⟩,
      ⟨none, .store 9 (.t 4) (.t 87), none⟩])
     (.exit 1))
     .skip))
    (.seq (.dregion [(0, ⟨(some 88), .mv (.t 3), none⟩, []),
     (1, ⟨(some 89), .loadN 9 (.t 8), none⟩, []),
     (2, ⟨(some 90), .loadN 9 (.t 11), none⟩, [0]),
     (3, ⟨(some 91), .nilCheck (.t 88), none⟩, []),
     (4, ⟨(some 92), .faddr 0 (.t 91), none⟩, []),
     (5, ⟨none, .store 9 (.t 92) (.t 89), none⟩, [2]),
     (6, ⟨none, .store 9 (.t 4) (.t 90), none⟩, [])])
    (.seq (.region [⟨(some 93), .mv (.t 3), none⟩,
     ⟨(some 94), .mv (.t 3), none⟩,
     ⟨(some 95), .nilCheck (.t 94), none⟩,
     ⟨(some 96), .faddr 13 (.t 95), none⟩,
     ⟨(some 97), .load1 (.t 96), none⟩,
     ⟨(some 98), .mv (.t 97), none⟩,
     ⟨(some 99), .faddr 0 (.t 6), (some (98, false))⟩,
     ⟨(some 100), .load1 (.t 99), (some (98, false))⟩,
     ⟨(some 101), .bin .num .eql (.t 100) (.c (.int .u8 6)), (some (98, false))⟩,
     ⟨(some 102), .pick (.t 98) (.c (.bool true)) (.t 101), none⟩,
     ⟨(some 103), .nilCheck (.t 93), none⟩,
     ⟨(some 104), .faddr 13 (.t 103), none⟩,
     ⟨none, .store 1 (.t 104) (.t 102), none⟩])
    (.seq (.dregion [(0, ⟨(some 105), .mv (.t 3), none⟩, []),
     (1, ⟨(some 106), .nilCheck (.t 105), none⟩, []),
     (2, ⟨(some 107), .faddr 0 (.t 106), none⟩, []),
     (3, ⟨(some 108), .loadN 9 (.t 107), none⟩, []),
     (4, ⟨(some 109), .call (.c (.func (.func 40) #[] #[])) [(.t 108)], none⟩, []),
     (5, ⟨(some 110), .loadN 9 (.t 4), none⟩, [0, 1]),
     (6, ⟨(some 111), .call (.c (.func (.func 41) #[] #[])) [(.t 109), (.t 110)], none⟩, []),
     (7, ⟨(some 112), .not (.t 111), none⟩, [])])
    (.cond (.t 112)
     (.seq (.region [⟨(some 2), .mv (.c (.bool false)), none⟩])
     .ret)
     .skip)))))))))))))
   (.region [⟨(some 28), .mv (.t 5), none⟩,
    ⟨(some 29), .bin .num .add (.t 28) (.c (.int .i64 1)), none⟩,
    ⟨(some 5), .mv (.t 29), none⟩]))))))
 (.seq (.region [⟨(some 114), .mv (.t 3), none⟩,
  ⟨(some 115), .nilCheck (.t 114), none⟩,
  ⟨(some 116), .faddr 0 (.t 115), none⟩,
  ⟨(some 117), .loadN 9 (.t 116), none⟩,
  ⟨(some 118), .call (.c (.func (.func 40) #[] #[])) [(.t 117)], none⟩,
  ⟨(some 119), .call (.c (.func (.func 42) #[] #[])) [(.t 118)], none⟩,
  ⟨(some 113), .mv (.t 119), none⟩,
  ⟨(some 120), .extract 0 (.t 113), none⟩,
  ⟨(some 121), .extract 1 (.t 113), none⟩,
  ⟨(some 14), .mk [(.int .i64 0), (.slice none 0 0), (.int .i64 0), (.slice none 0 0), (.int .i64 0), (.slice none 0 0), (.int .i64 0), (.slice none 0 0), (.slice none 0 0)], none⟩,
  ⟨none, .store 9 (.t 14) (.t 120), none⟩,
  ⟨(some 15), .mv (.t 121), none⟩])
 (.seq (.dregion [(0, ⟨(some 122), .mv (.t 15), none⟩, []),
  (1, ⟨(some 123), .bin .num .eql (.t 122) (.c (.int .i64 0)), none⟩, []),
  (2, ⟨(some 124), .mv (.t 123), none⟩, []),
  (3, ⟨(some 125), .loadN 9 (.t 14), (some (124, true))⟩, []),
  (4, ⟨(some 126), .mv (.t 3), (some (124, true))⟩, []),
  (5, ⟨(some 127), .nilCheck (.t 126), (some (124, true))⟩, []),
  (6, ⟨(some 128), .faddr 0 (.t 127), (some (124, true))⟩, []),
  (7, ⟨(some 129), .loadN 9 (.t 128), (some (124, true))⟩, [3]),
  (8, ⟨(some 130), .call (.c (.func (.func 41) #[] #[])) [(.t 125), (.t 129)], (some (124, true))⟩, []),
  (9, ⟨(some 131), .pick (.t 124) (.t 130) (.c (.bool false)), none⟩, []),
  (10, ⟨(some 132), .mv (.t 131), none⟩, []),
  (11, ⟨(some 133), .call (.c (.func (.func 13) #[] #[])) [], (some (132, true))⟩, []),
  (12, ⟨(some 134), .pick (.t 132) (.t 133) (.c (.bool false)), none⟩, []),
  (13, ⟨(some 2), .mv (.t 134), none⟩, [])])
 .ret)))))⟩

/- riposte/ripostelaw25.WireOld -/
/- riposte/ripostelaw25.WireAll -/
def ir11 : IFunc := ⟨[.tmp 2],
 (.seq (.region [⟨(some 2), .mv (.c (.bool false)), none⟩])
 (.seq (.region [⟨(some 13), .mv (.t 0), none⟩,
  ⟨(some 14), .call (.c (.func (.func 36) #[] #[])) [(.t 13)], none⟩,
  ⟨(some 12), .mv (.t 14), none⟩,
  ⟨(some 15), .extract 0 (.t 12), none⟩,
  ⟨(some 16), .extract 1 (.t 12), none⟩,
  ⟨(some 3), .mv (.t 15), none⟩,
  ⟨(some 4), .mv (.t 16), none⟩])
 (.seq (.seq (.region [⟨(some 17), .mv (.t 4), none⟩,
  ⟨(some 18), .not (.t 17), none⟩])
 (.cond (.t 18)
  (.seq (.region [⟨(some 2), .mv (.c (.bool false)), none⟩])
  .ret)
  .skip))
 (.seq (.region [⟨(some 20), .mv (.t 3), none⟩,
  ⟨(some 21), .nilCheck (.t 20), none⟩,
  ⟨(some 22), .faddr 0 (.t 21), none⟩,
  ⟨(some 23), .loadN 9 (.t 22), none⟩,
  ⟨(some 24), .call (.c (.func (.func 25) #[] #[])) [(.t 23)], none⟩,
  ⟨(some 25), .call (.c (.func (.func 43) #[] #[])) [(.t 24)], none⟩,
  ⟨(some 19), .mv (.t 25), none⟩,
  ⟨(some 26), .extract 0 (.t 19), none⟩,
  ⟨(some 27), .extract 1 (.t 19), none⟩,
  ⟨(some 28), .extract 2 (.t 19), none⟩,
  ⟨(some 5), .mk [(.int .i64 0), (.slice none 0 0), (.int .i64 0), (.slice none 0 0), (.int .i64 0), (.slice none 0 0), (.int .i64 0), (.slice none 0 0), (.slice none 0 0)], none⟩,
  ⟨(some 6), .mk [(.slice none 0 0), (.slice none 0 0)], none⟩,
  ⟨none, .store 9 (.t 5) (.t 26), none⟩,
  ⟨none, .store 2 (.t 6) (.t 27), none⟩,
  ⟨(some 7), .mv (.t 28), none⟩])
 (.seq (.seq (.dregion [(0, ⟨(some 29), .mv (.t 7), none⟩, []),
  (1, ⟨(some 30), .bin .num .neq (.t 29) (.c (.int .i64 0)), none⟩, []),
  (2, ⟨(some 31), .mv (.t 30), none⟩, []),
  (3, ⟨(some 32), .mv (.t 3), (some (31, false))⟩, []),
  (4, ⟨(some 33), .nilCheck (.t 32), (some (31, false))⟩, []),
  (5, ⟨(some 34), .faddr 11 (.t 33), (some (31, false))⟩, []),
  (6, ⟨(some 35), .idxA 2 1 (.t 34) (.c (.int .i64 0)), (some (31, false))⟩, []),
  (7, ⟨(some 36), .load1 (.t 35), (some (31, false))⟩, []),
  (8, ⟨(some 37), .idxA 2 1 (.t 6) (.c (.int .i64 0)), (some (31, false))⟩, []),
  (9, ⟨(some 38), .load1 (.t 37), (some (31, false))⟩, [1]),
  (10, ⟨(some 39), .append 1 24 (.t 36) (.t 38), (some (31, false))⟩, []),
  (11, ⟨(some 40), .mv (.t 3), (some (31, false))⟩, []),
  (12, ⟨(some 41), .nilCheck (.t 40), (some (31, false))⟩, []),
  (13, ⟨(some 42), .faddr 9 (.t 41), (some (31, false))⟩, []),
  (14, ⟨(some 43), .idxA 2 1 (.t 42) (.c (.int .i64 1)), (some (31, false))⟩, []),
  (15, ⟨(some 44), .load1 (.t 43), (some (31, false))⟩, [4, 5, 7]),
  (16, ⟨(some 45), .call (.c (.func (.func 31) #[] #[])) [(.t 39), (.t 44)], (some (31, false))⟩, []),
  (17, ⟨(some 46), .not (.t 45), (some (31, false))⟩, []),
  (18, ⟨(some 47), .pick (.t 31) (.c (.bool true)) (.t 46), none⟩, []),
  (19, ⟨(some 48), .mv (.t 47), none⟩, []),
  (20, ⟨(some 49), .mv (.t 3), (some (48, false))⟩, []),
  (21, ⟨(some 50), .nilCheck (.t 49), (some (48, false))⟩, []),
  (22, ⟨(some 51), .faddr 11 (.t 50), (some (48, false))⟩, []),
  (23, ⟨(some 52), .idxA 2 1 (.t 51) (.c (.int .i64 1)), (some (48, false))⟩, []),
  (24, ⟨(some 53), .load1 (.t 52), (some (48, false))⟩, []),
  (25, ⟨(some 54), .idxA 2 1 (.t 6) (.c (.int .i64 1)), (some (48, false))⟩, []),
  (26, ⟨(some 55), .load1 (.t 54), (some (48, false))⟩, [1]),
  (27, ⟨(some 56), .append 1 24 (.t 53) (.t 55), (some (48, false))⟩, []),
  (28, ⟨(some 57), .mv (.t 3), (some (48, false))⟩, []),
  (29, ⟨(some 58), .nilCheck (.t 57), (some (48, false))⟩, []),
  (30, ⟨(some 59), .faddr 9 (.t 58), (some (48, false))⟩, []),
  (31, ⟨(some 60), .idxA 2 1 (.t 59) (.c (.int .i64 0)), (some (48, false))⟩, []),
  (32, ⟨(some 61), .load1 (.t 60), (some (48, false))⟩, [4, 5, 7]),
  (33, ⟨(some 62), .call (.c (.func (.func 31) #[] #[])) [(.t 56), (.t 61)], (some (48, false))⟩, []),
  (34, ⟨(some 63), .not (.t 62), (some (48, false))⟩, []),
  (35, ⟨(some 64), .pick (.t 48) (.c (.bool true)) (.t 63), none⟩, [])])
 (.cond (.t 64)
  (.seq (.region [⟨(some 2), .mv (.c (.bool false)), none⟩])
  .ret)
  .skip))
 (.seq (.seq (.region [⟨(some 8), .mv (.c (.int .i64 0)), none⟩])
 (.block 0
  (.loop
   (.seq (.seq (.region [⟨(some 65), .mv (.t 8), none⟩,
    ⟨(some 66), .bin .num .lss (.t 65) (.c (.int .i64 2)), none⟩])
   (.cond (.t 66)
    .skip
    (.exit 0)))
   (.seq (.block 1
    (.seq (.dregion [(0, ⟨(some 69), .mv (.t 8), none⟩, []),
     (1, ⟨(some 70), .faddr 0 (.t 5), none⟩, []),
     (2, ⟨(some 71), .idxA 2 4 (.t 70) (.t 69), none⟩, []),
     (3, ⟨(some 72), .faddr 1 (.t 71), none⟩, []),
     (4, ⟨(some 73), .load1 (.t 72), none⟩, []),
     (5, ⟨(some 74), .len (.t 73), none⟩, []),
     (6, ⟨(some 75), .bin .num .neq (.t 74) (.c (.int .i64 0)), none⟩, []),
     (7, ⟨(some 76), .mv (.t 75), none⟩, []),
     (8, ⟨(some 77), .mv (.t 8), (some (76, false))⟩, []),
     (9, ⟨(some 78), .faddr 0 (.t 5), (some (76, false))⟩, []),
     (10, ⟨(some 79), .idxA 2 4 (.t 78) (.t 77), (some (76, false))⟩, []),
     (11, ⟨(some 80), .faddr 3 (.t 79), (some (76, false))⟩, []),
     (12, ⟨(some 81), .load1 (.t 80), (some (76, false))⟩, []),
     (13, ⟨(some 82), .len (.t 81), (some (76, false))⟩, []),
     (14, ⟨(some 83), .bin .num .neq (.t 82) (.c (.int .i64 0)), (some (76, false))⟩, []),
     (15, ⟨(some 84), .pick (.t 76) (.c (.bool true)) (.t 83), none⟩, []),
     (16, ⟨(some 85), .mv (.t 84), none⟩, []),
     (17, ⟨(some 86), .mv (.t 8), (some (85, false))⟩, []),
     (18, ⟨(some 87), .faddr 0 (.t 5), (some (85, false))⟩, []),
     (19, ⟨(some 88), .idxA 2 4 (.t 87) (.t 86), (some (85, false))⟩, []),
     (20, ⟨(some 89), .faddr 2 (.t 88), (some (85, false))⟩, []),
     (21, ⟨(some 90), .load1 (.t 89), (some (85, false))⟩, []),
     (22, ⟨(some 91), .mv (.t 3), (some (85, false))⟩, []),
     (23, ⟨(some 92), .mv (.t 8), (some (85, false))⟩, []),
     (24, ⟨(some 93), .bin .num .sub (.c (.int .i64 1)) (.t 92), (some (85, false))⟩, []),
     (25, ⟨(some 94), .nilCheck (.t 91), (some (85, false))⟩, []),
     (26, ⟨(some 95), .faddr 9 (.t 94), (some (85, false))⟩, []),
     (27, ⟨(some 96), .idxA 2 1 (.t 95) (.t 93), (some (85, false))⟩, []),
     (28, ⟨(some 97), .load1 (.t 96), (some (85, false))⟩, [6]),
     (29, ⟨(some 98), .len (.t 97), (some (85, false))⟩, []),
     (30, ⟨(some 99), .bin .num .neq (.t 90) (.t 98), (some (85, false))⟩, []),
     (31, ⟨(some 100), .pick (.t 85) (.c (.bool true)) (.t 99), none⟩, []),
     (32, ⟨(some 101), .mv (.t 100), none⟩, []),
     (33, ⟨(some 102), .mv (.t 8), (some (101, false))⟩, []),
     (34, ⟨(some 103), .faddr 0 (.t 5), (some (101, false))⟩, []),
     (35, ⟨(some 104), .idxA 2 4 (.t 103) (.t 102), (some (101, false))⟩, []),
     (36, ⟨(some 105), .faddr 0 (.t 104), (some (101, false))⟩, []),
     (37, ⟨(some 106), .load1 (.t 105), (some (101, false))⟩, []),
     (38, ⟨(some 107), .mv (.t 3), (some (101, false))⟩, []),
     (39, ⟨(some 108), .mv (.t 8), (some (101, false))⟩, []),
     (40, ⟨(some 109), .nilCheck (.t 107), (some (101, false))⟩, []),
     (41, ⟨(some 110), .faddr 9 (.t 109), (some (101, false))⟩, []),
     (42, ⟨(some 111), .idxA 2 1 (.t 110) (.t 108), (some (101, false))⟩, []),
     (43, ⟨(some 112), .load1 (.t 111), (some (101, false))⟩, [5]),
     (44, ⟨(some 113), .len (.t 112), (some (101, false))⟩, []),
     (45, ⟨(some 114), .bin .num .neq (.t 106) (.t 113), (some (101, false))⟩, []),
     (46, ⟨(some 115), .pick (.t 101) (.c (.bool true)) (.t 114), none⟩, [])])
    (.cond (.t 115)
     (.seq (.region [⟨(some 2), .mv (.c (.bool false)), none⟩])
     .ret)
     .skip)))
   (.region [⟨(some 67), .mv (.t 8), none⟩,
    ⟨(some 68), .bin .num .add (.t 67) (.c (.int .i64 1)), none⟩,
    ⟨(some 8), .mv (.t 68), none⟩]))))))
 (.seq (.region [⟨(some 117), .loadN 9 (.t 5), none⟩,
  ⟨(some 118), .call (.c (.func (.func 25) #[] #[])) [(.t 117)], none⟩,
  ⟨(some 119), .call (.c (.func (.func 43) #[] #[])) [(.t 118)], none⟩,
  ⟨(some 116), .mv (.t 119), none⟩,
  ⟨(some 120), .extract 0 (.t 116), none⟩,
  ⟨(some 121), .extract 1 (.t 116), none⟩,
  ⟨(some 122), .extract 2 (.t 116), none⟩,
  ⟨(some 9), .mk [(.int .i64 0), (.slice none 0 0), (.int .i64 0), (.slice none 0 0), (.int .i64 0), (.slice none 0 0), (.int .i64 0), (.slice none 0 0), (.slice none 0 0)], none⟩,
  ⟨(some 10), .mk [(.slice none 0 0), (.slice none 0 0)], none⟩,
  ⟨none, .store 9 (.t 9) (.t 120), none⟩,
  ⟨none, .store 2 (.t 10) (.t 121), none⟩,
  ⟨(some 11), .mv (.t 122), none⟩])
 (.seq (.region [⟨(some 123), .faddr 8 (.t 5), none⟩,
  ⟨(some 124), .load1 (.t 123), none⟩,
  ⟨(some 125), .len (.t 124), none⟩,
  ⟨(some 126), .bin .num .eql (.t 125) (.c (.int .i64 0)), none⟩,
  ⟨(some 127), .mv (.t 126), none⟩,
  ⟨(some 128), .mv (.t 11), (some (127, true))⟩,
  ⟨(some 129), .bin .num .eql (.t 128) (.c (.int .i64 0)), (some (127, true))⟩,
  ⟨(some 130), .pick (.t 127) (.t 129) (.c (.bool false)), none⟩,
  ⟨(some 131), .mv (.t 130), none⟩,
  ⟨(some 132), .loadN 9 (.t 5), (some (131, true))⟩,
  ⟨(some 133), .loadN 9 (.t 9), (some (131, true))⟩,
  ⟨(some 134), .call (.c (.func (.func 41) #[] #[])) [(.t 132), (.t 133)], (some (131, true))⟩,
  ⟨(some 135), .pick (.t 131) (.t 134) (.c (.bool false)), none⟩,
  ⟨(some 136), .mv (.t 135), none⟩,
  ⟨(some 137), .idxA 2 1 (.t 10) (.c (.int .i64 0)), (some (136, true))⟩,
  ⟨(some 138), .load1 (.t 137), (some (136, true))⟩,
  ⟨(some 139), .len (.t 138), (some (136, true))⟩,
  ⟨(some 140), .idxA 2 1 (.t 10) (.c (.int .i64 1)), (some (136, true))⟩,
  ⟨(some 141), .load1 (.t 140), (some (136, true))⟩,
  ⟨(some 142), .len (.t 141), (some (136, true))⟩,
  ⟨(some 143), .bin .num .add (.t 139) (.t 142), (some (136, true))⟩,
  ⟨(some 144), .bin .num .eql (.t 143) (.c (.int .i64 0)), (some (136, true))⟩,
  ⟨(some 145), .pick (.t 136) (.t 144) (.c (.bool false)), none⟩,
  ⟨(some 146), .mv (.t 145), none⟩,
  ⟨(some 147), .call (.c (.func (.func 13) #[] #[])) [], (some (146, true))⟩,
  ⟨(some 148), .pick (.t 146) (.t 147) (.c (.bool false)), none⟩,
  ⟨(some 2), .mv (.t 148), none⟩])
 .ret))))))))⟩

/- riposte/ripostelaw25.lived -/
def ir36 : IFunc := ⟨[.tmp 2, .tmp 3],
 (.seq (.region [⟨(some 2), .mv (.c (.pointer none)), none⟩,
  ⟨(some 3), .mv (.c (.bool false)), none⟩])
 (.seq (.region [⟨(some 6), .call (.c (.func (.func 37) #[] #[])) [], none⟩,
  ⟨(some 7), .build [(.int .i64 0), (.slice none 0 0), (.int .i64 0), (.slice none 0 0), (.int .i64 0), (.slice none 0 0), (.int .i64 0), (.slice none 0 0), (.slice none 0 0), (.slice none 0 0), (.slice none 0 0), (.slice none 0 0), (.slice none 0 0), (.bool false)] [(0, 9, (.t 6))], none⟩,
  ⟨(some 8), .box 14 (.t 7), none⟩,
  ⟨(some 4), .mv (.t 8), none⟩])
 (.seq (.seq (.region [⟨(some 9), .mv (.t 4), none⟩,
  ⟨(some 10), .nilCheck (.t 9), none⟩,
  ⟨(some 11), .faddr 0 (.t 10), none⟩,
  ⟨(some 12), .loadN 9 (.t 11), none⟩,
  ⟨(some 13), .build [(.int .i64 0), (.slice none 0 0), (.int .i64 0), (.slice none 0 0), (.int .i64 0), (.slice none 0 0), (.int .i64 0), (.slice none 0 0), (.slice none 0 0)] [], none⟩,
  ⟨(some 14), .call (.c (.func (.func 41) #[] #[])) [(.t 12), (.t 13)], none⟩,
  ⟨(some 15), .not (.t 14), none⟩])
 (.cond (.t 15)
  (.seq (.region [⟨(some 16), .mv (.t 4), none⟩,
   ⟨(some 2), .mv (.t 16), none⟩,
   ⟨(some 3), .mv (.c (.bool false)), none⟩])
  .ret)
  .skip))
 (.seq (.seq (.region [⟨(some 5), .mv (.c (.int .i64 0)), none⟩])
 (.block 0
  (.loop
   (.seq (.seq (.region [⟨(some 17), .mv (.t 5), none⟩,
    ⟨(some 18), .mv (.t 0), none⟩,
    ⟨(some 19), .len (.t 18), none⟩,
    ⟨(some 20), .bin .num .lss (.t 17) (.t 19), none⟩,
    ⟨(some 21), .mv (.t 20), none⟩,
    ⟨(some 22), .mv (.t 5), (some (21, true))⟩,
    ⟨(some 23), .bin .num .lss (.t 22) (.c (.int .i64 80)), (some (21, true))⟩,
    ⟨(some 24), .pick (.t 21) (.t 23) (.c (.bool false)), none⟩])
   (.cond (.t 24)
    .skip
    (.exit 0)))
   (.seq (.block 1
    (.seq (.region [⟨(some 27), .mv (.t 4), none⟩,
     ⟨(some 28), .mv (.t 0), none⟩,
     ⟨(some 29), .mv (.t 5), none⟩,
     ⟨(some 30), .idxS 3 (.t 28) (.t 29), none⟩,
     ⟨(some 31), .loadN 3 (.t 30), none⟩,
     ⟨(some 32), .call (.c (.func (.func 65) #[] #[])) [(.t 27), (.t 31)], none⟩,
     ⟨(some 33), .not (.t 32), none⟩])
    (.cond (.t 33)
     (.seq (.region [⟨(some 34), .mv (.t 4), none⟩,
      ⟨(some 2), .mv (.t 34), none⟩,
      ⟨(some 3), .mv (.c (.bool false)), none⟩])
     .ret)
     .skip)))
   (.region [⟨(some 25), .mv (.t 5), none⟩,
    ⟨(some 26), .bin .num .add (.t 25) (.c (.int .i64 1)), none⟩,
    ⟨(some 5), .mv (.t 26), none⟩]))))))
 (.seq (.region [⟨(some 35), .mv (.t 4), none⟩,
  ⟨(some 2), .mv (.t 35), none⟩,
  ⟨(some 3), .mv (.c (.bool true)), none⟩])
 .ret)))))⟩

/- (*riposte/ripostelaw25.story).act -/
def ir38 : IFunc := ⟨[.cellN 4 6],
 (.seq (.region [⟨(some 3), .box 3 (.t 1), none⟩,
  ⟨(some 4), .mk [(.int .u8 0), (.int .i64 0), (.int .i64 0), (.int .i64 0), (.int .i64 0), (.slice none 0 0)], none⟩])
 (.seq (.dregion [(0, ⟨(some 10), .idxA 3 1 (.t 3) (.c (.int .i64 0)), none⟩, []),
  (1, ⟨(some 11), .load1 (.t 10), none⟩, []),
  (2, ⟨(some 12), .bin .num .rem (.t 11) (.c (.int .u8 16)), none⟩, []),
  (3, ⟨(some 13), .idxA 3 1 (.t 3) (.c (.int .i64 1)), none⟩, []),
  (4, ⟨(some 14), .load1 (.t 13), none⟩, [2]),
  (5, ⟨(some 15), .conv .i64 (.t 14), none⟩, []),
  (6, ⟨(some 5), .mv (.t 12), none⟩, []),
  (7, ⟨(some 6), .mv (.t 15), none⟩, [])])
 (.seq (.region [⟨(some 16), .idxA 3 1 (.t 3) (.c (.int .i64 1)), none⟩,
  ⟨(some 17), .load1 (.t 16), none⟩,
  ⟨(some 18), .buildSlice 1 [(.int .u8 0)] [(0, 1, (.t 17))], none⟩,
  ⟨(some 19), .idxA 3 1 (.t 3) (.c (.int .i64 2)), none⟩,
  ⟨(some 20), .load1 (.t 19), none⟩,
  ⟨(some 21), .conv .i64 (.t 20), none⟩,
  ⟨(some 22), .bin .num .rem (.t 21) (.c (.int .i64 9)), none⟩,
  ⟨(some 23), .appendZ 1 [(.int .u8 0)] (.t 18) (.t 22), none⟩,
  ⟨(some 7), .mv (.t 23), none⟩])
 (.seq (.seq (.region [⟨(some 24), .mv (.t 0), none⟩,
  ⟨(some 25), .nilCheck (.t 24), none⟩,
  ⟨(some 26), .faddr 0 (.t 25), none⟩,
  ⟨(some 27), .faddr 8 (.t 26), none⟩,
  ⟨(some 28), .load1 (.t 27), none⟩,
  ⟨(some 29), .len (.t 28), none⟩,
  ⟨(some 8), .mv (.t 29), none⟩])
 (.seq (.region [⟨(some 30), .mv (.t 8), none⟩,
  ⟨(some 31), .bin .num .gtr (.t 30) (.c (.int .i64 0)), none⟩,
  ⟨(some 32), .mv (.t 31), none⟩,
  ⟨(some 33), .mv (.t 5), (some (32, true))⟩,
  ⟨(some 34), .bin .num .geq (.t 33) (.c (.int .u8 6)), (some (32, true))⟩,
  ⟨(some 35), .pick (.t 32) (.t 34) (.c (.bool false)), none⟩])
 (.cond (.t 35)
  (.seq (.region [⟨(some 36), .mv (.t 6), none⟩,
   ⟨(some 37), .mv (.t 8), none⟩,
   ⟨(some 38), .bin .num .rem (.t 36) (.t 37), none⟩,
   ⟨(some 6), .mv (.t 38), none⟩])
  (.seq (.region [⟨(some 39), .mv (.t 6), none⟩,
   ⟨(some 40), .build [(.int .u8 0), (.int .i64 0), (.int .i64 0), (.int .i64 0), (.int .i64 0), (.slice none 0 0)] [(0, 1, (.c (.int .u8 3))), (2, 1, (.t 39))], none⟩,
   ⟨(some 9), .mk [(.int .u8 0), (.int .i64 0), (.int .i64 0), (.int .i64 0), (.int .i64 0), (.slice none 0 0)], none⟩,
   ⟨none, .store 6 (.t 9) (.t 40), none⟩])
  (.seq (.block 0
   (.seq (.region [⟨(some 42), .mv (.t 5), none⟩,
    ⟨(some 43), .bin .num .eql (.t 42) (.c (.int .u8 12)), none⟩,
    ⟨(some 41), .mv (.t 43), none⟩])
   (.cond (.t 41)
    (.region [⟨(some 44), .faddr 0 (.t 9), none⟩,
     ⟨none, .store 1 (.t 44) (.c (.int .u8 4)), none⟩])
    (.seq (.region [⟨(some 46), .mv (.t 5), none⟩,
     ⟨(some 47), .bin .num .eql (.t 46) (.c (.int .u8 13)), none⟩,
     ⟨(some 45), .mv (.t 47), none⟩])
    (.cond (.t 45)
     (.region [⟨(some 48), .faddr 0 (.t 9), none⟩,
      ⟨none, .store 1 (.t 48) (.c (.int .u8 5)), none⟩])
     (.seq (.region [⟨(some 50), .mv (.t 5), none⟩,
      ⟨(some 51), .bin .num .eql (.t 50) (.c (.int .u8 14)), none⟩,
      ⟨(some 52), .mv (.t 51), none⟩,
      ⟨(some 53), .mv (.t 0), (some (52, true))⟩,
      ⟨(some 54), .nilCheck (.t 53), (some (52, true))⟩,
      ⟨(some 55), .faddr 13 (.t 54), (some (52, true))⟩,
      ⟨(some 56), .load1 (.t 55), (some (52, true))⟩,
      ⟨(some 57), .not (.t 56), (some (52, true))⟩,
      ⟨(some 58), .pick (.t 52) (.t 57) (.c (.bool false)), none⟩,
      ⟨(some 59), .mv (.t 58), none⟩,
      ⟨(some 60), .mv (.t 0), (some (59, true))⟩,
      ⟨(some 61), .nilCheck (.t 60), (some (59, true))⟩,
      ⟨(some 62), .faddr 0 (.t 61), (some (59, true))⟩,
      ⟨(some 63), .faddr 8 (.t 62), (some (59, true))⟩,
      ⟨(some 64), .load1 (.t 63), (some (59, true))⟩,
      ⟨(some 65), .mv (.t 6), (some (59, true))⟩,
      ⟨(some 66), .idxS 2 (.t 64) (.t 65), (some (59, true))⟩,
      ⟨(some 67), .faddr 1 (.t 66), (some (59, true))⟩,
      ⟨(some 68), .load1 (.t 67), (some (59, true))⟩,
      ⟨(some 69), .len (.t 68), (some (59, true))⟩,
      ⟨(some 70), .bin .num .gtr (.t 69) (.c (.int .i64 0)), (some (59, true))⟩,
      ⟨(some 71), .pick (.t 59) (.t 70) (.c (.bool false)), none⟩,
      ⟨(some 49), .mv (.t 71), none⟩])
     (.cond (.t 49)
      (.dregion [(0, ⟨(some 72), .idxA 3 1 (.t 3) (.c (.int .i64 2)), none⟩, []),
       (1, ⟨(some 73), .load1 (.t 72), none⟩, []),
       (2, ⟨(some 74), .conv .i64 (.t 73), none⟩, []),
       (3, ⟨(some 75), .mv (.t 0), none⟩, []),
       (4, ⟨(some 76), .nilCheck (.t 75), none⟩, []),
       (5, ⟨(some 77), .faddr 0 (.t 76), none⟩, []),
       (6, ⟨(some 78), .faddr 8 (.t 77), none⟩, []),
       (7, ⟨(some 79), .load1 (.t 78), none⟩, [5]),
       (8, ⟨(some 80), .mv (.t 6), none⟩, []),
       (9, ⟨(some 81), .idxS 2 (.t 79) (.t 80), none⟩, []),
       (10, ⟨(some 82), .faddr 1 (.t 81), none⟩, []),
       (11, ⟨(some 83), .load1 (.t 82), none⟩, [9]),
       (12, ⟨(some 84), .len (.t 83), none⟩, []),
       (13, ⟨(some 85), .bin .num .rem (.t 74) (.t 84), none⟩, []),
       (14, ⟨(some 86), .mv (.t 6), none⟩, []),
       (15, ⟨(some 87), .idxA 3 1 (.t 3) (.c (.int .i64 2)), none⟩, []),
       (16, ⟨(some 88), .load1 (.t 87), none⟩, [4, 8, 14]),
       (17, ⟨(some 89), .conv .i64 (.t 88), none⟩, []),
       (18, ⟨(some 90), .bin .num .mul (.t 86) (.t 89), none⟩, []),
       (19, ⟨(some 91), .bin .num .rem (.t 90) (.c (.int .i64 255)), none⟩, []),
       (20, ⟨(some 92), .bin .num .add (.c (.int .i64 1)) (.t 91), none⟩, []),
       (21, ⟨(some 93), .faddr 0 (.t 9), none⟩, []),
       (22, ⟨none, .store 1 (.t 93) (.c (.int .u8 6)), none⟩, [5, 10, 14, 20]),
       (23, ⟨(some 94), .faddr 3 (.t 9), none⟩, []),
       (24, ⟨none, .store 1 (.t 94) (.t 85), none⟩, [7]),
       (25, ⟨(some 95), .faddr 4 (.t 9), none⟩, []),
       (26, ⟨none, .store 1 (.t 95) (.t 92), none⟩, [])])
      .skip)))))))
  (.seq (.region [⟨(some 96), .loadN 6 (.t 9), none⟩,
   ⟨none, .store 6 (.t 4) (.t 96), none⟩])
  .ret))))
  .skip)))
 (.seq (.seq (.region [⟨(some 97), .mv (.t 5), none⟩,
  ⟨(some 98), .bin .num .rem (.t 97) (.c (.int .u8 3)), none⟩,
  ⟨(some 99), .bin .num .eql (.t 98) (.c (.int .u8 2)), none⟩])
 (.cond (.t 99)
  (.seq (.region [⟨(some 100), .mv (.t 6), none⟩,
   ⟨(some 101), .bin .num .rem (.t 100) (.c (.int .i64 2)), none⟩,
   ⟨(some 102), .build [(.int .u8 0), (.int .i64 0), (.int .i64 0), (.int .i64 0), (.int .i64 0), (.slice none 0 0)] [(0, 1, (.c (.int .u8 2))), (1, 1, (.t 101))], none⟩,
   ⟨none, .store 6 (.t 4) (.t 102), none⟩])
  .ret)
  .skip))
 (.seq (.region [⟨(some 103), .mv (.t 6), none⟩,
  ⟨(some 104), .bin .num .rem (.t 103) (.c (.int .i64 2)), none⟩,
  ⟨(some 105), .mv (.t 7), none⟩,
  ⟨(some 106), .build [(.int .u8 0), (.int .i64 0), (.int .i64 0), (.int .i64 0), (.int .i64 0), (.slice none 0 0)] [(0, 1, (.c (.int .u8 1))), (1, 1, (.t 104)), (5, 1, (.t 105))], none⟩,
  ⟨none, .store 6 (.t 4) (.t 106), none⟩])
 .ret))))))⟩

/- riposte/ripostelaw25.turned -/
def ir40 : IFunc := ⟨[.cellN 2 9],
 (.seq (.region [⟨(some 1), .box 9 (.t 0), none⟩,
  ⟨(some 2), .mk [(.int .i64 0), (.slice none 0 0), (.int .i64 0), (.slice none 0 0), (.int .i64 0), (.slice none 0 0), (.int .i64 0), (.slice none 0 0), (.slice none 0 0)], none⟩])
 (.seq (.region [⟨(some 6), .loadN 9 (.t 1), none⟩,
  ⟨(some 7), .call (.c (.func (.func 25) #[] #[])) [(.t 6)], none⟩,
  ⟨(some 8), .call (.c (.func (.func 42) #[] #[])) [(.t 7)], none⟩,
  ⟨(some 5), .mv (.t 8), none⟩,
  ⟨(some 9), .extract 0 (.t 5), none⟩,
  ⟨(some 10), .extract 1 (.t 5), none⟩,
  ⟨(some 3), .mk [(.int .i64 0), (.slice none 0 0), (.int .i64 0), (.slice none 0 0), (.int .i64 0), (.slice none 0 0), (.int .i64 0), (.slice none 0 0), (.slice none 0 0)], none⟩,
  ⟨none, .store 9 (.t 3) (.t 9), none⟩,
  ⟨(some 4), .mv (.t 10), none⟩])
 (.seq (.region [⟨(some 11), .loadN 9 (.t 3), none⟩,
  ⟨none, .store 9 (.t 2) (.t 11), none⟩])
 .ret)))⟩

/- riposte/riposteref25.Same -/
def ir41 : IFunc := ⟨[.tmp 4],
 (.seq (.region [⟨(some 2), .box 9 (.t 0), none⟩,
  ⟨(some 3), .box 9 (.t 1), none⟩,
  ⟨(some 4), .mv (.c (.bool false)), none⟩])
 (.seq (.seq (.region [⟨(some 6), .faddr 0 (.t 2), none⟩,
  ⟨(some 7), .idxA 2 4 (.t 6) (.c (.int .i64 0)), none⟩,
  ⟨(some 8), .loadN 4 (.t 7), none⟩,
  ⟨(some 9), .faddr 0 (.t 3), none⟩,
  ⟨(some 10), .idxA 2 4 (.t 9) (.c (.int .i64 0)), none⟩,
  ⟨(some 11), .loadN 4 (.t 10), none⟩,
  ⟨(some 12), .call (.c (.func (.func 30) #[] #[])) [(.t 8), (.t 11)], none⟩,
  ⟨(some 13), .not (.t 12), none⟩,
  ⟨(some 14), .mv (.t 13), none⟩,
  ⟨(some 15), .faddr 0 (.t 2), (some (14, false))⟩,
  ⟨(some 16), .idxA 2 4 (.t 15) (.c (.int .i64 1)), (some (14, false))⟩,
  ⟨(some 17), .loadN 4 (.t 16), (some (14, false))⟩,
  ⟨(some 18), .faddr 0 (.t 3), (some (14, false))⟩,
  ⟨(some 19), .idxA 2 4 (.t 18) (.c (.int .i64 1)), (some (14, false))⟩,
  ⟨(some 20), .loadN 4 (.t 19), (some (14, false))⟩,
  ⟨(some 21), .call (.c (.func (.func 30) #[] #[])) [(.t 17), (.t 20)], (some (14, false))⟩,
  ⟨(some 22), .not (.t 21), (some (14, false))⟩,
  ⟨(some 23), .pick (.t 14) (.c (.bool true)) (.t 22), none⟩,
  ⟨(some 24), .mv (.t 23), none⟩,
  ⟨(some 25), .faddr 8 (.t 2), (some (24, false))⟩,
  ⟨(some 26), .load1 (.t 25), (some (24, false))⟩,
  ⟨(some 27), .len (.t 26), (some (24, false))⟩,
  ⟨(some 28), .faddr 8 (.t 3), (some (24, false))⟩,
  ⟨(some 29), .load1 (.t 28), (some (24, false))⟩,
  ⟨(some 30), .len (.t 29), (some (24, false))⟩,
  ⟨(some 31), .bin .num .neq (.t 27) (.t 30), (some (24, false))⟩,
  ⟨(some 32), .pick (.t 24) (.c (.bool true)) (.t 31), none⟩])
 (.cond (.t 32)
  (.seq (.region [⟨(some 4), .mv (.c (.bool false)), none⟩])
  .ret)
  .skip))
 (.seq (.seq (.region [⟨(some 5), .mv (.c (.int .i64 0)), none⟩])
 (.block 0
  (.loop
   (.seq (.seq (.region [⟨(some 33), .mv (.t 5), none⟩,
    ⟨(some 34), .faddr 8 (.t 2), none⟩,
    ⟨(some 35), .load1 (.t 34), none⟩,
    ⟨(some 36), .len (.t 35), none⟩,
    ⟨(some 37), .bin .num .lss (.t 33) (.t 36), none⟩])
   (.cond (.t 37)
    .skip
    (.exit 0)))
   (.seq (.block 1
    (.seq (.dregion [(0, ⟨(some 40), .faddr 8 (.t 2), none⟩, []),
     (1, ⟨(some 41), .load1 (.t 40), none⟩, []),
     (2, ⟨(some 42), .mv (.t 5), none⟩, []),
     (3, ⟨(some 43), .idxS 2 (.t 41) (.t 42), none⟩, []),
     (4, ⟨(some 44), .faddr 0 (.t 43), none⟩, []),
     (5, ⟨(some 45), .load1 (.t 44), none⟩, []),
     (6, ⟨(some 46), .faddr 8 (.t 3), none⟩, []),
     (7, ⟨(some 47), .load1 (.t 46), none⟩, [1, 5]),
     (8, ⟨(some 48), .mv (.t 5), none⟩, []),
     (9, ⟨(some 49), .idxS 2 (.t 47) (.t 48), none⟩, []),
     (10, ⟨(some 50), .faddr 0 (.t 49), none⟩, []),
     (11, ⟨(some 51), .load1 (.t 50), none⟩, [5, 9]),
     (12, ⟨(some 52), .bin .num .neq (.t 45) (.t 51), none⟩, []),
     (13, ⟨(some 53), .mv (.t 52), none⟩, []),
     (14, ⟨(some 54), .faddr 8 (.t 2), (some (53, false))⟩, []),
     (15, ⟨(some 55), .load1 (.t 54), (some (53, false))⟩, []),
     (16, ⟨(some 56), .mv (.t 5), (some (53, false))⟩, []),
     (17, ⟨(some 57), .idxS 2 (.t 55) (.t 56), (some (53, false))⟩, []),
     (18, ⟨(some 58), .faddr 1 (.t 57), (some (53, false))⟩, []),
     (19, ⟨(some 59), .load1 (.t 58), (some (53, false))⟩, []),
     (20, ⟨(some 60), .toStr (.t 59), (some (53, false))⟩, []),
     (21, ⟨(some 61), .faddr 8 (.t 3), (some (53, false))⟩, []),
     (22, ⟨(some 62), .load1 (.t 61), (some (53, false))⟩, [1, 2, 6]),
     (23, ⟨(some 63), .mv (.t 5), (some (53, false))⟩, []),
     (24, ⟨(some 64), .idxS 2 (.t 62) (.t 63), (some (53, false))⟩, []),
     (25, ⟨(some 65), .faddr 1 (.t 64), (some (53, false))⟩, []),
     (26, ⟨(some 66), .load1 (.t 65), (some (53, false))⟩, [5, 6, 10]),
     (27, ⟨(some 67), .toStr (.t 66), (some (53, false))⟩, [6, 7, 11]),
     (28, ⟨(some 68), .bin .str .neq (.t 60) (.t 67), (some (53, false))⟩, []),
     (29, ⟨(some 69), .pick (.t 53) (.c (.bool true)) (.t 68), none⟩, [])])
    (.cond (.t 69)
     (.seq (.region [⟨(some 4), .mv (.c (.bool false)), none⟩])
     .ret)
     .skip)))
   (.region [⟨(some 38), .mv (.t 5), none⟩,
    ⟨(some 39), .bin .num .add (.t 38) (.c (.int .i64 1)), none⟩,
    ⟨(some 5), .mv (.t 39), none⟩]))))))
 (.seq (.region [⟨(some 4), .mv (.c (.bool true)), none⟩])
 .ret))))⟩

/- riposte/wire.Turn -/
def ir42 : IFunc := ⟨[.cellN 2 9, .tmp 3],
 (.seq (.region [⟨(some 1), .box 9 (.t 0), none⟩,
  ⟨(some 2), .mk [(.int .i64 0), (.slice none 0 0), (.int .i64 0), (.slice none 0 0), (.int .i64 0), (.slice none 0 0), (.int .i64 0), (.slice none 0 0), (.slice none 0 0)], none⟩,
  ⟨(some 3), .mv (.c (.int .i64 0)), none⟩])
 (.seq (.region [⟨(some 8), .loadN 9 (.t 1), none⟩,
  ⟨(some 9), .call (.c (.func (.func 57) #[] #[])) [(.t 8)], none⟩,
  ⟨(some 7), .mv (.t 9), none⟩,
  ⟨(some 10), .extract 0 (.t 7), none⟩,
  ⟨(some 11), .extract 1 (.t 7), none⟩,
  ⟨(some 4), .mv (.t 10), none⟩,
  ⟨(some 5), .mv (.t 11), none⟩])
 (.seq (.seq (.region [⟨(some 12), .mv (.t 5), none⟩,
  ⟨(some 13), .bin .num .neq (.t 12) (.c (.int .i64 0)), none⟩])
 (.cond (.t 13)
  (.seq (.region [⟨(some 14), .build [(.int .i64 0), (.slice none 0 0), (.int .i64 0), (.slice none 0 0), (.int .i64 0), (.slice none 0 0), (.int .i64 0), (.slice none 0 0), (.slice none 0 0)] [], none⟩,
   ⟨(some 15), .mv (.t 5), none⟩,
   ⟨none, .store 9 (.t 2) (.t 14), none⟩,
   ⟨(some 3), .mv (.t 15), none⟩])
  .ret)
  .skip))
 (.seq (.dregion [(0, ⟨(some 16), .mv (.t 4), none⟩, []),
  (1, ⟨(some 17), .mv (.t 4), none⟩, []),
  (2, ⟨(some 18), .mv (.t 4), none⟩, []),
  (3, ⟨(some 19), .nilCheck (.t 18), none⟩, []),
  (4, ⟨(some 20), .faddr 0 (.t 19), none⟩, []),
  (5, ⟨(some 21), .idxA 2 1 (.t 20) (.c (.int .i64 1)), none⟩, []),
  (6, ⟨(some 22), .load1 (.t 21), none⟩, []),
  (7, ⟨(some 23), .mv (.t 4), none⟩, []),
  (8, ⟨(some 24), .nilCheck (.t 23), none⟩, []),
  (9, ⟨(some 25), .faddr 0 (.t 24), none⟩, []),
  (10, ⟨(some 26), .idxA 2 1 (.t 25) (.c (.int .i64 0)), none⟩, []),
  (11, ⟨(some 27), .load1 (.t 26), none⟩, [4]),
  (12, ⟨(some 28), .nilCheck (.t 16), none⟩, []),
  (13, ⟨(some 29), .faddr 0 (.t 28), none⟩, []),
  (14, ⟨(some 30), .idxA 2 1 (.t 29) (.c (.int .i64 0)), none⟩, []),
  (15, ⟨none, .store 1 (.t 30) (.t 22), none⟩, []),
  (16, ⟨(some 31), .nilCheck (.t 17), none⟩, []),
  (17, ⟨(some 32), .faddr 0 (.t 31), none⟩, []),
  (18, ⟨(some 33), .idxA 2 1 (.t 32) (.c (.int .i64 1)), none⟩, []),
  (19, ⟨none, .store 1 (.t 33) (.t 27), none⟩, [])])
 (.seq (.seq (.region [⟨(some 34), .mv (.t 4), none⟩,
  ⟨(some 35), .nilCheck (.t 34), none⟩,
  ⟨(some 36), .faddr 2 (.t 35), none⟩,
  ⟨(some 37), .load1 (.t 36), none⟩,
  ⟨(some 38), .len (.t 37), none⟩,
  ⟨(some 39), .mv (.c (.int .i64 0)), none⟩])
 (.block 0
  (.loop
   (.seq (.region [⟨(some 40), .bin .num .lss (.t 39) (.t 38), none⟩])
   (.seq (.cond (.t 40)
    .skip
    (.exit 0))
   (.seq (.block 1
    (.seq (.region [⟨(some 41), .mv (.t 39), none⟩,
     ⟨(some 6), .mv (.t 41), none⟩])
    (.dregion [(0, ⟨(some 42), .mv (.t 4), none⟩, []),
     (1, ⟨(some 43), .nilCheck (.t 42), none⟩, []),
     (2, ⟨(some 44), .faddr 2 (.t 43), none⟩, []),
     (3, ⟨(some 45), .load1 (.t 44), none⟩, []),
     (4, ⟨(some 46), .mv (.t 6), none⟩, []),
     (5, ⟨(some 47), .mv (.t 4), none⟩, []),
     (6, ⟨(some 48), .nilCheck (.t 47), none⟩, []),
     (7, ⟨(some 49), .faddr 2 (.t 48), none⟩, []),
     (8, ⟨(some 50), .load1 (.t 49), none⟩, [4]),
     (9, ⟨(some 51), .mv (.t 6), none⟩, []),
     (10, ⟨(some 52), .idxS 2 (.t 50) (.t 51), none⟩, []),
     (11, ⟨(some 53), .faddr 0 (.t 52), none⟩, []),
     (12, ⟨(some 54), .load1 (.t 53), none⟩, [8]),
     (13, ⟨(some 55), .bin .num .sub (.c (.int .i64 1)) (.t 54), none⟩, []),
     (14, ⟨(some 56), .idxS 2 (.t 45) (.t 46), none⟩, []),
     (15, ⟨(some 57), .faddr 0 (.t 56), none⟩, []),
     (16, ⟨none, .store 1 (.t 57) (.t 55), none⟩, [])])))
   (.region [⟨(some 58), .bin .num .add (.t 39) (.c (.int .i64 1)), none⟩,
    ⟨(some 39), .mv (.t 58), none⟩])))))))
 (.seq (.region [⟨(some 59), .mv (.t 4), none⟩,
  ⟨(some 60), .call (.c (.func (.func 67) #[] #[])) [(.t 59)], none⟩,
  ⟨none, .store 9 (.t 2) (.t 60), none⟩,
  ⟨(some 3), .mv (.c (.int .i64 0)), none⟩])
 .ret))))))⟩

/- riposte/wire.Settle -/
def ir43 : IFunc := ⟨[.cellN 2 9, .cellN 3 2, .tmp 4],
 (.seq (.region [⟨(some 1), .box 9 (.t 0), none⟩,
  ⟨(some 2), .mk [(.int .i64 0), (.slice none 0 0), (.int .i64 0), (.slice none 0 0), (.int .i64 0), (.slice none 0 0), (.int .i64 0), (.slice none 0 0), (.slice none 0 0)], none⟩,
  ⟨(some 3), .mk [(.slice none 0 0), (.slice none 0 0)], none⟩,
  ⟨(some 4), .mv (.c (.int .i64 0)), none⟩])
 (.seq (.region [⟨(some 10), .loadN 9 (.t 1), none⟩,
  ⟨(some 11), .call (.c (.func (.func 57) #[] #[])) [(.t 10)], none⟩,
  ⟨(some 9), .mv (.t 11), none⟩,
  ⟨(some 12), .extract 0 (.t 9), none⟩,
  ⟨(some 13), .extract 1 (.t 9), none⟩,
  ⟨(some 5), .mv (.t 12), none⟩,
  ⟨(some 6), .mv (.t 13), none⟩])
 (.seq (.seq (.region [⟨(some 14), .mv (.t 6), none⟩,
  ⟨(some 15), .bin .num .neq (.t 14) (.c (.int .i64 0)), none⟩])
 (.cond (.t 15)
  (.seq (.region [⟨(some 16), .build [(.int .i64 0), (.slice none 0 0), (.int .i64 0), (.slice none 0 0), (.int .i64 0), (.slice none 0 0), (.int .i64 0), (.slice none 0 0), (.slice none 0 0)] [], none⟩,
   ⟨(some 17), .build [(.slice none 0 0), (.slice none 0 0)] [], none⟩,
   ⟨(some 18), .mv (.t 6), none⟩,
   ⟨none, .store 9 (.t 2) (.t 16), none⟩,
   ⟨none, .store 2 (.t 3) (.t 17), none⟩,
   ⟨(some 4), .mv (.t 18), none⟩])
  .ret)
  .skip))
 (.seq (.region [⟨(some 19), .mv (.t 5), none⟩,
  ⟨(some 20), .call (.c (.func (.func 69) #[] #[])) [(.t 19)], none⟩])
 (.seq (.seq (.region [⟨(some 21), .mv (.c (.int .i64 0)), none⟩])
 (.block 0
  (.loop
   (.seq (.region [⟨(some 22), .bin .num .lss (.t 21) (.c (.int .i64 2)), none⟩])
   (.seq (.cond (.t 22)
    .skip
    (.exit 0))
   (.seq (.block 1
    (.seq (.region [⟨(some 23), .mv (.t 21), none⟩,
     ⟨(some 7), .mv (.t 23), none⟩])
    (.seq (.seq (.region [⟨(some 24), .mv (.t 5), none⟩,
     ⟨(some 25), .mv (.t 7), none⟩,
     ⟨(some 26), .build [(.int .u8 0), (.int .i64 0), (.int .i64 0), (.int .i64 0), (.int .i64 0), (.slice none 0 0)] [(0, 1, (.c (.int .u8 2))), (1, 1, (.t 25))], none⟩,
     ⟨(some 27), .call (.c (.func (.func 66) #[] #[])) [(.t 24), (.t 26)], none⟩,
     ⟨(some 8), .mv (.t 27), none⟩])
    (.seq (.region [⟨(some 28), .mv (.t 8), none⟩,
     ⟨(some 29), .bin .num .neq (.t 28) (.c (.int .i64 0)), none⟩])
    (.cond (.t 29)
     (.seq (.region [⟨(some 30), .build [(.int .i64 0), (.slice none 0 0), (.int .i64 0), (.slice none 0 0), (.int .i64 0), (.slice none 0 0), (.int .i64 0), (.slice none 0 0), (.slice none 0 0)] [], none⟩,
      ⟨(some 31), .build [(.slice none 0 0), (.slice none 0 0)] [], none⟩,
      ⟨(some 32), .mv (.t 8), none⟩,
      ⟨none, .store 9 (.t 2) (.t 30), none⟩,
      ⟨none, .store 2 (.t 3) (.t 31), none⟩,
      ⟨(some 4), .mv (.t 32), none⟩])
     .ret)
     .skip)))
    (.region [⟨(some 33), .mv (.t 5), none⟩,
     ⟨(some 34), .call (.c (.func (.func 69) #[] #[])) [(.t 33)], none⟩]))))
   (.region [⟨(some 35), .bin .num .add (.t 21) (.c (.int .i64 1)), none⟩,
    ⟨(some 21), .mv (.t 35), none⟩])))))))
 (.seq (.dregion [(0, ⟨(some 36), .mv (.t 5), none⟩, []),
  (1, ⟨(some 37), .call (.c (.func (.func 67) #[] #[])) [(.t 36)], none⟩, []),
  (2, ⟨(some 38), .mv (.t 5), none⟩, []),
  (3, ⟨(some 39), .nilCheck (.t 38), none⟩, []),
  (4, ⟨(some 40), .faddr 3 (.t 39), none⟩, []),
  (5, ⟨(some 41), .loadN 2 (.t 40), none⟩, [3]),
  (6, ⟨none, .store 9 (.t 2) (.t 37), none⟩, [0]),
  (7, ⟨none, .store 2 (.t 3) (.t 41), none⟩, []),
  (8, ⟨(some 4), .mv (.c (.int .i64 0)), none⟩, [])])
 .ret))))))⟩

/- (*riposte/ripostelaw25.story).step -/
def ir65 : IFunc := ⟨[.tmp 4],
 (.seq (.region [⟨(some 3), .box 3 (.t 1), none⟩,
  ⟨(some 4), .mv (.c (.bool false)), none⟩])
 (.seq (.region [⟨(some 11), .mv (.t 0), none⟩,
  ⟨(some 12), .loadN 3 (.t 3), none⟩,
  ⟨(some 13), .call (.c (.func (.func 38) #[] #[])) [(.t 11), (.t 12)], none⟩,
  ⟨(some 5), .mk [(.int .u8 0), (.int .i64 0), (.int .i64 0), (.int .i64 0), (.int .i64 0), (.slice none 0 0)], none⟩,
  ⟨none, .store 6 (.t 5) (.t 13), none⟩])
 (.seq (.dregion [(0, ⟨(some 14), .mv (.t 0), none⟩, []),
  (1, ⟨(some 15), .nilCheck (.t 14), none⟩, []),
  (2, ⟨(some 16), .faddr 0 (.t 15), none⟩, []),
  (3, ⟨(some 17), .loadN 9 (.t 16), none⟩, []),
  (4, ⟨(some 18), .loadN 6 (.t 5), none⟩, [0]),
  (5, ⟨(some 19), .call (.c (.func (.func 86) #[] #[])) [(.t 17), (.t 18)], none⟩, []),
  (6, ⟨(some 6), .mv (.t 19), none⟩, [])])
 (.seq (.dregion [(0, ⟨(some 21), .mv (.t 0), none⟩, []),
  (1, ⟨(some 22), .nilCheck (.t 21), none⟩, []),
  (2, ⟨(some 23), .faddr 0 (.t 22), none⟩, []),
  (3, ⟨(some 24), .loadN 9 (.t 23), none⟩, []),
  (4, ⟨(some 25), .call (.c (.func (.func 25) #[] #[])) [(.t 24)], none⟩, []),
  (5, ⟨(some 26), .loadN 6 (.t 5), none⟩, [0, 1]),
  (6, ⟨(some 27), .call (.c (.func (.func 39) #[] #[])) [(.t 25), (.t 26)], none⟩, []),
  (7, ⟨(some 20), .mv (.t 27), none⟩, []),
  (8, ⟨(some 28), .extract 0 (.t 20), none⟩, []),
  (9, ⟨(some 29), .extract 1 (.t 20), none⟩, []),
  (10, ⟨(some 30), .extract 2 (.t 20), none⟩, []),
  (11, ⟨(some 7), .mk [(.int .i64 0), (.slice none 0 0), (.int .i64 0), (.slice none 0 0), (.int .i64 0), (.slice none 0 0), (.int .i64 0), (.slice none 0 0), (.slice none 0 0)], none⟩, [4, 5, 6, 7]),
  (12, ⟨none, .store 9 (.t 7) (.t 28), none⟩, []),
  (13, ⟨(some 8), .mv (.t 29), none⟩, []),
  (14, ⟨(some 9), .mv (.t 30), none⟩, [])])
 (.seq (.seq (.region [⟨(some 31), .mv (.t 9), none⟩,
  ⟨(some 32), .bin .num .neq (.t 31) (.c (.int .i64 0)), none⟩])
 (.cond (.t 32)
  (.seq (.dregion [(0, ⟨(some 33), .mv (.t 9), none⟩, []),
   (1, ⟨(some 34), .bin .num .eql (.t 33) (.c (.int .i64 8)), none⟩, []),
   (2, ⟨(some 35), .mv (.t 34), none⟩, []),
   (3, ⟨(some 36), .faddr 0 (.t 5), (some (35, true))⟩, []),
   (4, ⟨(some 37), .load1 (.t 36), (some (35, true))⟩, []),
   (5, ⟨(some 38), .bin .num .eql (.t 37) (.c (.int .u8 1)), (some (35, true))⟩, []),
   (6, ⟨(some 39), .pick (.t 35) (.t 38) (.c (.bool false)), none⟩, []),
   (7, ⟨(some 40), .mv (.t 39), none⟩, []),
   (8, ⟨(some 41), .mv (.t 0), (some (40, true))⟩, []),
   (9, ⟨(some 42), .faddr 1 (.t 5), (some (40, true))⟩, []),
   (10, ⟨(some 43), .load1 (.t 42), (some (40, true))⟩, []),
   (11, ⟨(some 44), .nilCheck (.t 41), (some (40, true))⟩, []),
   (12, ⟨(some 45), .faddr 0 (.t 44), (some (40, true))⟩, []),
   (13, ⟨(some 46), .faddr 0 (.t 45), (some (40, true))⟩, []),
   (14, ⟨(some 47), .idxA 2 4 (.t 46) (.t 43), (some (40, true))⟩, []),
   (15, ⟨(some 48), .faddr 1 (.t 47), (some (40, true))⟩, []),
   (16, ⟨(some 49), .load1 (.t 48), (some (40, true))⟩, []),
   (17, ⟨(some 50), .len (.t 49), (some (40, true))⟩, []),
   (18, ⟨(some 51), .bin .num .eql (.t 50) (.c (.int .i64 8)), (some (40, true))⟩, []),
   (19, ⟨(some 52), .pick (.t 40) (.t 51) (.c (.bool false)), none⟩, []),
   (20, ⟨(some 4), .mv (.t 52), none⟩, [])])
  .ret)
  .skip))
 (.seq (.seq (.region [⟨(some 10), .mv (.c (.int .i64 0)), none⟩])
 (.block 0
  (.loop
   (.seq (.seq (.region [⟨(some 53), .mv (.t 10), none⟩,
    ⟨(some 54), .bin .num .lss (.t 53) (.c (.int .i64 2)), none⟩])
   (.cond (.t 54)
    .skip
    (.exit 0)))
   (.seq (.block 1
    (.seq (.dregion [(0, ⟨(some 57), .mv (.t 10), none⟩, []),
     (1, ⟨(some 58), .faddr 0 (.t 7), none⟩, []),
     (2, ⟨(some 59), .idxA 2 4 (.t 58) (.t 57), none⟩, []),
     (3, ⟨(some 60), .faddr 0 (.t 59), none⟩, []),
     (4, ⟨(some 61), .load1 (.t 60), none⟩, []),
     (5, ⟨(some 62), .mv (.t 0), none⟩, []),
     (6, ⟨(some 63), .mv (.t 10), none⟩, []),
     (7, ⟨(some 64), .nilCheck (.t 62), none⟩, []),
     (8, ⟨(some 65), .faddr 0 (.t 64), none⟩, []),
     (9, ⟨(some 66), .faddr 0 (.t 65), none⟩, []),
     (10, ⟨(some 67), .idxA 2 4 (.t 66) (.t 63), none⟩, []),
     (11, ⟨(some 68), .faddr 0 (.t 67), none⟩, []),
     (12, ⟨(some 69), .load1 (.t 68), none⟩, [7]),
     (13, ⟨(some 70), .bin .num .lss (.t 61) (.t 69), none⟩, []),
     (14, ⟨(some 71), .mv (.t 70), none⟩, []),
     (15, ⟨(some 72), .mv (.t 10), (some (71, false))⟩, []),
     (16, ⟨(some 73), .faddr 0 (.t 7), (some (71, false))⟩, []),
     (17, ⟨(some 74), .idxA 2 4 (.t 73) (.t 72), (some (71, false))⟩, []),
     (18, ⟨(some 75), .faddr 2 (.t 74), (some (71, false))⟩, []),
     (19, ⟨(some 76), .load1 (.t 75), (some (71, false))⟩, []),
     (20, ⟨(some 77), .mv (.t 0), (some (71, false))⟩, []),
     (21, ⟨(some 78), .mv (.t 10), (some (71, false))⟩, []),
     (22, ⟨(some 79), .nilCheck (.t 77), (some (71, false))⟩, []),
     (23, ⟨(some 80), .faddr 0 (.t 79), (some (71, false))⟩, []),
     (24, ⟨(some 81), .faddr 0 (.t 80), (some (71, false))⟩, []),
     (25, ⟨(some 82), .idxA 2 4 (.t 81) (.t 78), (some (71, false))⟩, []),
     (26, ⟨(some 83), .faddr 2 (.t 82), (some (71, false))⟩, []),
     (27, ⟨(some 84), .load1 (.t 83), (some (71, false))⟩, [7]),
     (28, ⟨(some 85), .bin .num .lss (.t 76) (.t 84), (some (71, false))⟩, []),
     (29, ⟨(some 86), .pick (.t 71) (.c (.bool true)) (.t 85), none⟩, [])])
    (.cond (.t 86)
     (.seq (.region [⟨(some 4), .mv (.c (.bool false)), none⟩])
     .ret)
     .skip)))
   (.region [⟨(some 55), .mv (.t 10), none⟩,
    ⟨(some 56), .bin .num .add (.t 55) (.c (.int .i64 1)), none⟩,
    ⟨(some 10), .mv (.t 56), none⟩]))))))
 (.seq (.region [⟨(some 87), .mv (.t 0), none⟩,
  ⟨(some 88), .mv (.t 0), none⟩,
  ⟨(some 89), .nilCheck (.t 88), none⟩,
  ⟨(some 90), .faddr 13 (.t 89), none⟩,
  ⟨(some 91), .load1 (.t 90), none⟩,
  ⟨(some 92), .mv (.t 91), none⟩,
  ⟨(some 93), .faddr 0 (.t 5), (some (92, false))⟩,
  ⟨(some 94), .load1 (.t 93), (some (92, false))⟩,
  ⟨(some 95), .bin .num .eql (.t 94) (.c (.int .u8 6)), (some (92, false))⟩,
  ⟨(some 96), .pick (.t 92) (.c (.bool true)) (.t 95), none⟩,
  ⟨(some 97), .nilCheck (.t 87), none⟩,
  ⟨(some 98), .faddr 13 (.t 97), none⟩,
  ⟨none, .store 1 (.t 98) (.t 96), none⟩])
 (.seq (.seq (.region [⟨(some 99), .faddr 0 (.t 5), none⟩,
  ⟨(some 100), .load1 (.t 99), none⟩,
  ⟨(some 101), .bin .num .eql (.t 100) (.c (.int .u8 1)), none⟩])
 (.cond (.t 101)
  (.dregion [(0, ⟨(some 102), .mv (.t 0), none⟩, []),
   (1, ⟨(some 103), .faddr 1 (.t 5), none⟩, []),
   (2, ⟨(some 104), .load1 (.t 103), none⟩, []),
   (3, ⟨(some 105), .mv (.t 0), none⟩, []),
   (4, ⟨(some 106), .faddr 1 (.t 5), none⟩, []),
   (5, ⟨(some 107), .load1 (.t 106), none⟩, [2]),
   (6, ⟨(some 108), .nilCheck (.t 105), none⟩, []),
   (7, ⟨(some 109), .faddr 9 (.t 108), none⟩, []),
   (8, ⟨(some 110), .idxA 2 1 (.t 109) (.t 107), none⟩, []),
   (9, ⟨(some 111), .load1 (.t 110), none⟩, [6]),
   (10, ⟨(some 112), .buildSlice 0 [] [], none⟩, [0, 4, 7]),
   (11, ⟨(some 113), .faddr 5 (.t 5), none⟩, []),
   (12, ⟨(some 114), .load1 (.t 113), none⟩, [1, 2, 6, 9]),
   (13, ⟨(some 115), .append 1 1 (.t 112) (.t 114), none⟩, [3, 7, 10]),
   (14, ⟨(some 116), .buildSlice 1 [(.slice none 0 0)] [(0, 1, (.t 115))], none⟩, [4, 8, 11]),
   (15, ⟨(some 117), .append 1 24 (.t 111) (.t 116), none⟩, [12]),
   (16, ⟨(some 118), .nilCheck (.t 102), none⟩, []),
   (17, ⟨(some 119), .faddr 9 (.t 118), none⟩, []),
   (18, ⟨(some 120), .idxA 2 1 (.t 119) (.t 104), none⟩, []),
   (19, ⟨none, .store 1 (.t 120) (.t 117), none⟩, [])])
  .skip))
 (.seq (.region [⟨(some 121), .mv (.t 0), none⟩,
  ⟨(some 122), .loadN 9 (.t 7), none⟩,
  ⟨(some 123), .nilCheck (.t 121), none⟩,
  ⟨(some 124), .faddr 0 (.t 123), none⟩,
  ⟨none, .store 9 (.t 124) (.t 122), none⟩])
 (.seq (.dregion [(0, ⟨(some 125), .mv (.t 0), none⟩, []),
  (1, ⟨(some 126), .mv (.t 6), none⟩, []),
  (2, ⟨(some 127), .mv (.t 0), none⟩, []),
  (3, ⟨(some 128), .mv (.t 6), none⟩, []),
  (4, ⟨(some 129), .nilCheck (.t 127), none⟩, []),
  (5, ⟨(some 130), .faddr 11 (.t 129), none⟩, []),
  (6, ⟨(some 131), .idxA 2 1 (.t 130) (.t 128), none⟩, []),
  (7, ⟨(some 132), .load1 (.t 131), none⟩, []),
  (8, ⟨(some 133), .mv (.t 8), none⟩, []),
  (9, ⟨(some 134), .append 1 24 (.t 132) (.t 133), none⟩, []),
  (10, ⟨(some 135), .nilCheck (.t 125), none⟩, []),
  (11, ⟨(some 136), .faddr 11 (.t 135), none⟩, []),
  (12, ⟨(some 137), .idxA 2 1 (.t 136) (.t 126), none⟩, []),
  (13, ⟨none, .store 1 (.t 137) (.t 134), none⟩, [])])
 (.seq (.dregion [(0, ⟨(some 138), .loadN 9 (.t 7), none⟩, []),
  (1, ⟨(some 139), .call (.c (.func (.func 26) #[] #[])) [(.t 138)], none⟩, []),
  (2, ⟨(some 140), .mv (.t 139), none⟩, []),
  (3, ⟨(some 141), .mv (.t 0), (some (140, true))⟩, []),
  (4, ⟨(some 142), .nilCheck (.t 141), (some (140, true))⟩, []),
  (5, ⟨(some 143), .faddr 11 (.t 142), (some (140, true))⟩, []),
  (6, ⟨(some 144), .idxA 2 1 (.t 143) (.c (.int .i64 0)), (some (140, true))⟩, []),
  (7, ⟨(some 145), .load1 (.t 144), (some (140, true))⟩, []),
  (8, ⟨(some 146), .mv (.t 0), (some (140, true))⟩, []),
  (9, ⟨(some 147), .nilCheck (.t 146), (some (140, true))⟩, []),
  (10, ⟨(some 148), .faddr 9 (.t 147), (some (140, true))⟩, []),
  (11, ⟨(some 149), .idxA 2 1 (.t 148) (.c (.int .i64 1)), (some (140, true))⟩, []),
  (12, ⟨(some 150), .load1 (.t 149), (some (140, true))⟩, [4]),
  (13, ⟨(some 151), .call (.c (.func (.func 87) #[] #[])) [(.t 145), (.t 150)], (some (140, true))⟩, []),
  (14, ⟨(some 152), .pick (.t 140) (.t 151) (.c (.bool false)), none⟩, []),
  (15, ⟨(some 153), .mv (.t 152), none⟩, []),
  (16, ⟨(some 154), .mv (.t 0), (some (153, true))⟩, []),
  (17, ⟨(some 155), .nilCheck (.t 154), (some (153, true))⟩, []),
  (18, ⟨(some 156), .faddr 11 (.t 155), (some (153, true))⟩, []),
  (19, ⟨(some 157), .idxA 2 1 (.t 156) (.c (.int .i64 1)), (some (153, true))⟩, []),
  (20, ⟨(some 158), .load1 (.t 157), (some (153, true))⟩, []),
  (21, ⟨(some 159), .mv (.t 0), (some (153, true))⟩, []),
  (22, ⟨(some 160), .nilCheck (.t 159), (some (153, true))⟩, []),
  (23, ⟨(some 161), .faddr 9 (.t 160), (some (153, true))⟩, []),
  (24, ⟨(some 162), .idxA 2 1 (.t 161) (.c (.int .i64 0)), (some (153, true))⟩, []),
  (25, ⟨(some 163), .load1 (.t 162), (some (153, true))⟩, [4]),
  (26, ⟨(some 164), .call (.c (.func (.func 87) #[] #[])) [(.t 158), (.t 163)], (some (153, true))⟩, []),
  (27, ⟨(some 165), .pick (.t 153) (.t 164) (.c (.bool false)), none⟩, []),
  (28, ⟨(some 4), .mv (.t 165), none⟩, [])])
 .ret)))))))))))⟩

/- riposte/riposteref25.Hears -/
def ir86 : IFunc := ⟨[.tmp 4],
 (.seq (.region [⟨(some 2), .box 9 (.t 0), none⟩,
  ⟨(some 3), .box 6 (.t 1), none⟩,
  ⟨(some 4), .mv (.c (.int .i64 0)), none⟩])
 (.seq (.seq (.region [⟨(some 5), .faddr 0 (.t 3), none⟩,
  ⟨(some 6), .load1 (.t 5), none⟩,
  ⟨(some 7), .bin .num .eql (.t 6) (.c (.int .u8 3)), none⟩,
  ⟨(some 8), .mv (.t 7), none⟩,
  ⟨(some 9), .faddr 2 (.t 3), (some (8, true))⟩,
  ⟨(some 10), .load1 (.t 9), (some (8, true))⟩,
  ⟨(some 11), .faddr 8 (.t 2), (some (8, true))⟩,
  ⟨(some 12), .load1 (.t 11), (some (8, true))⟩,
  ⟨(some 13), .len (.t 12), (some (8, true))⟩,
  ⟨(some 14), .bin .num .sub (.t 13) (.c (.int .i64 1)), (some (8, true))⟩,
  ⟨(some 15), .call (.c (.func (.func 55) #[] #[])) [(.t 10), (.c (.int .i64 0)), (.t 14)], (some (8, true))⟩,
  ⟨(some 16), .pick (.t 8) (.t 15) (.c (.bool false)), none⟩])
 (.cond (.t 16)
  (.seq (.region [⟨(some 17), .faddr 8 (.t 2), none⟩,
   ⟨(some 18), .load1 (.t 17), none⟩,
   ⟨(some 19), .faddr 2 (.t 3), none⟩,
   ⟨(some 20), .load1 (.t 19), none⟩,
   ⟨(some 21), .idxS 2 (.t 18) (.t 20), none⟩,
   ⟨(some 22), .faddr 0 (.t 21), none⟩,
   ⟨(some 23), .load1 (.t 22), none⟩,
   ⟨(some 4), .mv (.t 23), none⟩])
  .ret)
  .skip))
 (.seq (.region [⟨(some 4), .mv (.c (.int .i64 0)), none⟩])
 .ret)))⟩

/- riposte/ripostelaw25.begins -/
def ir87 : IFunc := ⟨[.tmp 4],
 (.seq (.region [⟨(some 4), .mv (.c (.bool false)), none⟩])
 (.seq (.region [⟨(some 5), .mv (.t 0), none⟩,
  ⟨(some 6), .len (.t 5), none⟩,
  ⟨(some 7), .mv (.t 1), none⟩,
  ⟨(some 8), .len (.t 7), none⟩,
  ⟨(some 9), .bin .num .leq (.t 6) (.t 8), none⟩,
  ⟨(some 10), .mv (.t 9), none⟩,
  ⟨(some 11), .mv (.t 0), (some (10, true))⟩,
  ⟨(some 12), .mv (.t 1), (some (10, true))⟩,
  ⟨(some 13), .mv (.t 0), (some (10, true))⟩,
  ⟨(some 14), .len (.t 13), (some (10, true))⟩,
  ⟨(some 15), .sliceS 1 (.t 12) none (some (.t 14)) none, (some (10, true))⟩,
  ⟨(some 16), .call (.c (.func (.func 31) #[] #[])) [(.t 11), (.t 15)], (some (10, true))⟩,
  ⟨(some 17), .pick (.t 10) (.t 16) (.c (.bool false)), none⟩,
  ⟨(some 4), .mv (.t 17), none⟩])
 .ret))⟩

theorem get9 (w : World) : (ctxW w).funcs.get 9 = some ir9 := by kernel_rfl
theorem get11 (w : World) : (ctxW w).funcs.get 11 = some ir11 := by kernel_rfl
theorem get36 (w : World) : (ctxW w).funcs.get 36 = some ir36 := by kernel_rfl
theorem get38 (w : World) : (ctxW w).funcs.get 38 = some ir38 := by kernel_rfl
theorem get40 (w : World) : (ctxW w).funcs.get 40 = some ir40 := by kernel_rfl
theorem get41 (w : World) : (ctxW w).funcs.get 41 = some ir41 := by kernel_rfl
theorem get42 (w : World) : (ctxW w).funcs.get 42 = some ir42 := by kernel_rfl
theorem get43 (w : World) : (ctxW w).funcs.get 43 = some ir43 := by kernel_rfl
theorem get65 (w : World) : (ctxW w).funcs.get 65 = some ir65 := by kernel_rfl
theorem get86 (w : World) : (ctxW w).funcs.get 86 = some ir86 := by kernel_rfl
theorem get87 (w : World) : (ctxW w).funcs.get 87 = some ir87 := by kernel_rfl
end Go.Ai.Wire
