/-
  More functions of the program in the evaluator's own form (printed by program), and that they are the program's.
-/
import Derived.Test.YtlikgpehalhgkaaWIr
namespace Go.Ai.Wire
open Go.Proofs

/- riposte/ripostelaw25.WireOnce -/
def ir8 : IFunc := ⟨[.tmp 2],
 (.seq (.region [⟨(some 2), .mv (.c (.bool false)), none⟩])
 (.seq (.region [⟨(some 6), .mv (.t 0), none⟩,
  ⟨(some 7), .call (.c (.func (.func 36) #[] #[])) [(.t 6)], none⟩,
  ⟨(some 5), .mv (.t 7), none⟩,
  ⟨(some 8), .extract 0 (.t 5), none⟩,
  ⟨(some 9), .extract 1 (.t 5), none⟩,
  ⟨(some 3), .mv (.t 8), none⟩,
  ⟨(some 4), .mv (.t 9), none⟩])
 (.seq (.region [⟨(some 10), .mv (.t 4), none⟩,
  ⟨(some 11), .mv (.t 10), none⟩,
  ⟨(some 12), .call (.c (.func (.func 13) #[] #[])) [], (some (11, true))⟩,
  ⟨(some 13), .pick (.t 11) (.t 12) (.c (.bool false)), none⟩,
  ⟨(some 2), .mv (.t 13), none⟩])
 .ret)))⟩

/- riposte/ripostelaw25.WireOld -/
def ir10 : IFunc := ⟨[.tmp 2],
 (.seq (.region [⟨(some 2), .mv (.c (.bool false)), none⟩])
 (.seq (.region [⟨(some 16), .mv (.t 0), none⟩,
  ⟨(some 17), .call (.c (.func (.func 36) #[] #[])) [(.t 16)], none⟩,
  ⟨(some 15), .mv (.t 17), none⟩,
  ⟨(some 18), .extract 0 (.t 15), none⟩,
  ⟨(some 19), .extract 1 (.t 15), none⟩,
  ⟨(some 3), .mv (.t 18), none⟩,
  ⟨(some 4), .mv (.t 19), none⟩])
 (.seq (.seq (.region [⟨(some 5), .mv (.c (.int .i64 0)), none⟩])
 (.block 0
  (.loop
   (.seq (.seq (.region [⟨(some 20), .mv (.t 4), none⟩,
    ⟨(some 21), .mv (.t 20), none⟩,
    ⟨(some 22), .mv (.t 5), (some (21, true))⟩,
    ⟨(some 23), .mv (.t 3), (some (21, true))⟩,
    ⟨(some 24), .nilCheck (.t 23), (some (21, true))⟩,
    ⟨(some 25), .faddr 0 (.t 24), (some (21, true))⟩,
    ⟨(some 26), .faddr 8 (.t 25), (some (21, true))⟩,
    ⟨(some 27), .load1 (.t 26), (some (21, true))⟩,
    ⟨(some 28), .len (.t 27), (some (21, true))⟩,
    ⟨(some 29), .bin .num .lss (.t 22) (.t 28), (some (21, true))⟩,
    ⟨(some 30), .pick (.t 21) (.t 29) (.c (.bool false)), none⟩])
   (.cond (.t 30)
    .skip
    (.exit 0)))
   (.seq (.block 1
    (.seq (.region [⟨(some 33), .mv (.t 3), none⟩,
     ⟨(some 34), .nilCheck (.t 33), none⟩,
     ⟨(some 35), .faddr 0 (.t 34), none⟩,
     ⟨(some 36), .faddr 8 (.t 35), none⟩,
     ⟨(some 37), .load1 (.t 36), none⟩,
     ⟨(some 38), .mv (.t 5), none⟩,
     ⟨(some 39), .idxS 2 (.t 37) (.t 38), none⟩,
     ⟨(some 40), .loadN 2 (.t 39), none⟩,
     ⟨(some 6), .mk [(.int .i64 0), (.slice none 0 0)], none⟩,
     ⟨none, .store 2 (.t 6) (.t 40), none⟩])
    (.seq (.dregion [(0, ⟨(some 42), .mv (.t 3), none⟩, []),
     (1, ⟨(some 43), .faddr 0 (.t 6), none⟩, []),
     (2, ⟨(some 44), .load1 (.t 43), none⟩, []),
     (3, ⟨(some 45), .nilCheck (.t 42), none⟩, []),
     (4, ⟨(some 46), .faddr 0 (.t 45), none⟩, []),
     (5, ⟨(some 47), .faddr 0 (.t 46), none⟩, []),
     (6, ⟨(some 48), .idxA 2 4 (.t 47) (.t 44), none⟩, []),
     (7, ⟨(some 49), .loadN 4 (.t 48), none⟩, []),
     (8, ⟨(some 50), .call (.c (.func (.func 22) #[] #[])) [(.t 49)], none⟩, []),
     (9, ⟨(some 51), .buildSlice 0 [] [], none⟩, [0, 1, 6]),
     (10, ⟨(some 52), .faddr 1 (.t 6), none⟩, []),
     (11, ⟨(some 53), .load1 (.t 52), none⟩, [1, 2, 3, 8]),
     (12, ⟨(some 54), .append 1 1 (.t 51) (.t 53), none⟩, []),
     (13, ⟨(some 55), .call (.c (.func (.func 28) #[] #[])) [(.t 50), (.t 54)], none⟩, []),
     (14, ⟨(some 41), .mv (.t 55), none⟩, []),
     (15, ⟨(some 56), .extract 0 (.t 41), none⟩, []),
     (16, ⟨(some 57), .extract 1 (.t 41), none⟩, []),
     (17, ⟨(some 58), .extract 2 (.t 41), none⟩, []),
     (18, ⟨(some 59), .extract 3 (.t 41), none⟩, []),
     (19, ⟨(some 7), .mk [(.int .i64 0), (.slice none 0 0), (.int .i64 0), (.slice none 0 0)], none⟩, [5, 6, 7, 9, 10, 11, 16]),
     (20, ⟨none, .store 4 (.t 7) (.t 56), none⟩, []),
     (21, ⟨(some 8), .mv (.t 57), none⟩, []),
     (22, ⟨(some 9), .mv (.t 58), none⟩, []),
     (23, ⟨(some 10), .mv (.t 59), none⟩, [])])
    (.seq (.dregion [(0, ⟨(some 61), .loadN 4 (.t 7), none⟩, []),
     (1, ⟨(some 62), .call (.c (.func (.func 22) #[] #[])) [(.t 61)], none⟩, []),
     (2, ⟨(some 63), .buildSlice 0 [] [], none⟩, [0, 1]),
     (3, ⟨(some 64), .faddr 1 (.t 6), none⟩, []),
     (4, ⟨(some 65), .load1 (.t 64), none⟩, [1, 2, 3]),
     (5, ⟨(some 66), .append 1 1 (.t 63) (.t 65), none⟩, []),
     (6, ⟨(some 67), .call (.c (.func (.func 28) #[] #[])) [(.t 62), (.t 66)], none⟩, []),
     (7, ⟨(some 60), .mv (.t 67), none⟩, []),
     (8, ⟨(some 68), .extract 0 (.t 60), none⟩, []),
     (9, ⟨(some 69), .extract 1 (.t 60), none⟩, []),
     (10, ⟨(some 70), .extract 2 (.t 60), none⟩, []),
     (11, ⟨(some 71), .extract 3 (.t 60), none⟩, []),
     (12, ⟨(some 11), .mk [(.int .i64 0), (.slice none 0 0), (.int .i64 0), (.slice none 0 0)], none⟩, [5, 6, 7, 9, 10, 11]),
     (13, ⟨none, .store 4 (.t 11) (.t 68), none⟩, []),
     (14, ⟨(some 12), .mv (.t 69), none⟩, []),
     (15, ⟨(some 13), .mv (.t 70), none⟩, []),
     (16, ⟨(some 14), .mv (.t 71), none⟩, [])])
    (.region [⟨(some 72), .mv (.t 10), none⟩,
     ⟨(some 73), .bin .num .eql (.t 72) (.c (.int .i64 0)), none⟩,
     ⟨(some 74), .mv (.t 73), none⟩,
     ⟨(some 75), .mv (.t 14), (some (74, true))⟩,
     ⟨(some 76), .bin .num .eql (.t 75) (.c (.int .i64 0)), (some (74, true))⟩,
     ⟨(some 77), .pick (.t 74) (.t 76) (.c (.bool false)), none⟩,
     ⟨(some 78), .mv (.t 77), none⟩,
     ⟨(some 79), .mv (.t 12), (some (78, true))⟩,
     ⟨(some 80), .len (.t 79), (some (78, true))⟩,
     ⟨(some 81), .bin .num .eql (.t 80) (.c (.int .i64 0)), (some (78, true))⟩,
     ⟨(some 82), .pick (.t 78) (.t 81) (.c (.bool false)), none⟩,
     ⟨(some 83), .mv (.t 82), none⟩,
     ⟨(some 84), .mv (.t 9), (some (83, true))⟩,
     ⟨(some 85), .toStr (.t 84), (some (83, true))⟩,
     ⟨(some 86), .mv (.t 13), (some (83, true))⟩,
     ⟨(some 87), .toStr (.t 86), (some (83, true))⟩,
     ⟨(some 88), .bin .str .eql (.t 85) (.t 87), (some (83, true))⟩,
     ⟨(some 89), .pick (.t 83) (.t 88) (.c (.bool false)), none⟩,
     ⟨(some 90), .mv (.t 89), none⟩,
     ⟨(some 91), .loadN 4 (.t 7), (some (90, true))⟩,
     ⟨(some 92), .loadN 4 (.t 11), (some (90, true))⟩,
     ⟨(some 93), .call (.c (.func (.func 30) #[] #[])) [(.t 91), (.t 92)], (some (90, true))⟩,
     ⟨(some 94), .pick (.t 90) (.t 93) (.c (.bool false)), none⟩,
     ⟨(some 4), .mv (.t 94), none⟩])))))
   (.region [⟨(some 31), .mv (.t 5), none⟩,
    ⟨(some 32), .bin .num .add (.t 31) (.c (.int .i64 1)), none⟩,
    ⟨(some 5), .mv (.t 32), none⟩]))))))
 (.seq (.region [⟨(some 95), .mv (.t 4), none⟩,
  ⟨(some 96), .mv (.t 95), none⟩,
  ⟨(some 97), .call (.c (.func (.func 13) #[] #[])) [], (some (96, true))⟩,
  ⟨(some 98), .pick (.t 96) (.t 97) (.c (.bool false)), none⟩,
  ⟨(some 2), .mv (.t 98), none⟩])
 .ret))))⟩

/- riposte/ripostelaw25.lived -/
def ir36 : IFunc := ⟨[.tmp 2, .tmp 3],
 (.seq (.region [⟨(some 2), .mv (.c (.pointer none)), none⟩,
  ⟨(some 3), .mv (.c (.bool false)), none⟩])
 (.seq (.region [⟨(some 6), .call (.c (.func (.func 37) #[] #[])) [], none⟩,
  ⟨(some 7), .build [(.int .i64 0), (.slice none 0 0), (.int .i64 0), (.slice none 0 0), (.int .i64 0), (.slice none 0 0), (.int .i64 0), (.slice none 0 0), (.slice none 0 0), (.slice none 0 0), (.slice none 0 0), (.slice none 0 0), (.slice none 0 0), (.bool false)] [(0, 9, (.t 6))], none⟩,
  ⟨(some 8), .box 14 (.t 7), none⟩,
  ⟨(some 4), .mv (.t 8), none⟩])
 (.seq (.seq (.region [⟨(some 9), .mv (.t 4), none⟩,
  ⟨(some 10), .nilCheck (.t 9), none⟩,
  ⟨(some 11), .faddr 0 (.t 10), none⟩,
  ⟨(some 12), .loadN 9 (.t 11), none⟩,
  ⟨(some 13), .build [(.int .i64 0), (.slice none 0 0), (.int .i64 0), (.slice none 0 0), (.int .i64 0), (.slice none 0 0), (.int .i64 0), (.slice none 0 0), (.slice none 0 0)] [], none⟩,
  ⟨(some 14), .call (.c (.func (.func 41) #[] #[])) [(.t 12), (.t 13)], none⟩,
  ⟨(some 15), .not (.t 14), none⟩])
 (.cond (.t 15)
  (.seq (.region [⟨(some 16), .mv (.t 4), none⟩,
   ⟨(some 2), .mv (.t 16), none⟩,
   ⟨(some 3), .mv (.c (.bool false)), none⟩])
  .ret)
  .skip))
 (.seq (.seq (.region [⟨(some 5), .mv (.c (.int .i64 0)), none⟩])
 (.block 0
  (.loop
   (.seq (.seq (.region [⟨(some 17), .mv (.t 5), none⟩,
    ⟨(some 18), .mv (.t 0), none⟩,
    ⟨(some 19), .len (.t 18), none⟩,
    ⟨(some 20), .bin .num .lss (.t 17) (.t 19), none⟩,
    ⟨(some 21), .mv (.t 20), none⟩,
    ⟨(some 22), .mv (.t 5), (some (21, true))⟩,
    ⟨(some 23), .bin .num .lss (.t 22) (.c (.int .i64 80)), (some (21, true))⟩,
    ⟨(some 24), .pick (.t 21) (.t 23) (.c (.bool false)), none⟩])
   (.cond (.t 24)
    .skip
    (.exit 0)))
   (.seq (.block 1
    (.seq (.region [⟨(some 27), .mv (.t 4), none⟩,
     ⟨(some 28), .mv (.t 0), none⟩,
     ⟨(some 29), .mv (.t 5), none⟩,
     ⟨(some 30), .idxS 3 (.t 28) (.t 29), none⟩,
     ⟨(some 31), .loadN 3 (.t 30), none⟩,
     ⟨(some 32), .call (.c (.func (.func 65) #[] #[])) [(.t 27), (.t 31)], none⟩,
     ⟨(some 33), .not (.t 32), none⟩])
    (.cond (.t 33)
     (.seq (.region [⟨(some 34), .mv (.t 4), none⟩,
      ⟨(some 2), .mv (.t 34), none⟩,
      ⟨(some 3), .mv (.c (.bool false)), none⟩])
     .ret)
     .skip)))
   (.region [⟨(some 25), .mv (.t 5), none⟩,
    ⟨(some 26), .bin .num .add (.t 25) (.c (.int .i64 1)), none⟩,
    ⟨(some 5), .mv (.t 26), none⟩]))))))
 (.seq (.region [⟨(some 35), .mv (.t 4), none⟩,
  ⟨(some 2), .mv (.t 35), none⟩,
  ⟨(some 3), .mv (.c (.bool true)), none⟩])
 .ret)))))⟩

/- (*riposte/ripostelaw25.story).act -/
def ir38 : IFunc := ⟨[.cellN 4 6],
 (.seq (.region [⟨(some 3), .box 3 (.t 1), none⟩,
  ⟨(some 4), .mk [(.int .u8 0), (.int .i64 0), (.int .i64 0), (.int .i64 0), (.int .i64 0), (.slice none 0 0)], none⟩])
 (.seq (.dregion [(0, ⟨(some 10), .idxA 3 1 (.t 3) (.c (.int .i64 0)), none⟩, []),
  (1, ⟨(some 11), .load1 (.t 10), none⟩, []),
  (2, ⟨(some 12), .bin .num .rem (.t 11) (.c (.int .u8 16)), none⟩, []),
  (3, ⟨(some 13), .idxA 3 1 (.t 3) (.c (.int .i64 1)), none⟩, []),
  (4, ⟨(some 14), .load1 (.t 13), none⟩, [2]),
  (5, ⟨(some 15), .conv .i64 (.t 14), none⟩, []),
  (6, ⟨(some 5), .mv (.t 12), none⟩, []),
  (7, ⟨(some 6), .mv (.t 15), none⟩, [])])
 (.seq (.region [⟨(some 16), .idxA 3 1 (.t 3) (.c (.int .i64 1)), none⟩,
  ⟨(some 17), .load1 (.t 16), none⟩,
  ⟨(some 18), .buildSlice 1 [(.int .u8 0)] [(0, 1, (.t 17))], none⟩,
  ⟨(some 19), .idxA 3 1 (.t 3) (.c (.int .i64 2)), none⟩,
  ⟨(some 20), .load1 (.t 19), none⟩,
  ⟨(some 21), .conv .i64 (.t 20), none⟩,
  ⟨(some 22), .bin .num .rem (.t 21) (.c (.int .i64 9)), none⟩,
  ⟨(some 23), .appendZ 1 [(.int .u8 0)] (.t 18) (.t 22), none⟩,
  ⟨(some 7), .mv (.t 23), none⟩])
 (.seq (.seq (.region [⟨(some 24), .mv (.t 0), none⟩,
  ⟨(some 25), .nilCheck (.t 24), none⟩,
  ⟨(some 26), .faddr 0 (.t 25), none⟩,
  ⟨(some 27), .faddr 8 (.t 26), none⟩,
  ⟨(some 28), .load1 (.t 27), none⟩,
  ⟨(some 29), .len (.t 28), none⟩,
  ⟨(some 8), .mv (.t 29), none⟩])
 (.seq (.region [⟨(some 30), .mv (.t 8), none⟩,
  ⟨(some 31), .bin .num .gtr (.t 30) (.c (.int .i64 0)), none⟩,
  ⟨(some 32), .mv (.t 31), none⟩,
  ⟨(some 33), .mv (.t 5), (some (32, true))⟩,
  ⟨(some 34), .bin .num .geq (.t 33) (.c (.int .u8 6)), (some (32, true))⟩,
  ⟨(some 35), .pick (.t 32) (.t 34) (.c (.bool false)), none⟩])
 (.cond (.t 35)
  (.seq (.region [⟨(some 36), .mv (.t 6), none⟩,
   ⟨(some 37), .mv (.t 8), none⟩,
   ⟨(some 38), .bin .num .rem (.t 36) (.t 37), none⟩,
   ⟨(some 6), .mv (.t 38), none⟩])
  (.seq (.region [⟨(some 39), .mv (.t 6), none⟩,
   ⟨(some 40), .build [(.int .u8 0), (.int .i64 0), (.int .i64 0), (.int .i64 0), (.int .i64 0), (.slice none 0 0)] [(0, 1, (.c (.int .u8 3))), (2, 1, (.t 39))], none⟩,
   ⟨(some 9), .mk [(.int .u8 0), (.int .i64 0), (.int .i64 0), (.int .i64 0), (.int .i64 0), (.slice none 0 0)], none⟩,
   ⟨none, .store 6 (.t 9) (.t 40), none⟩])
  (.seq (.block 0
   (.seq (.region [⟨(some 42), .mv (.t 5), none⟩,
    ⟨(some 43), .bin .num .eql (.t 42) (.c (.int .u8 12)), none⟩,
    ⟨(some 41), .mv (.t 43), none⟩])
   (.cond (.t 41)
    (.region [⟨(some 44), .faddr 0 (.t 9), none⟩,
     ⟨none, .store 1 (.t 44) (.c (.int .u8 4)), none⟩])
    (.seq (.region [⟨(some 46), .mv (.t 5), none⟩,
     ⟨(some 47), .bin .num .eql (.t 46) (.c (.int .u8 13)), none⟩,
     ⟨(some 45), .mv (.t 47), none⟩])
    (.cond (.t 45)
     (.region [⟨(some 48), .faddr 0 (.t 9), none⟩,
      ⟨none, .store 1 (.t 48) (.c (.int .u8 5)), none⟩])
     (.seq (.region [⟨(some 50), .mv (.t 5), none⟩,
      ⟨(some 51), .bin .num .eql (.t 50) (.c (.int .u8 14)), none⟩,
      ⟨(some 52), .mv (.t 51), none⟩,
      ⟨(some 53), .mv (.t 0), (some (52, true))⟩,
      ⟨(some 54), .nilCheck (.t 53), (some (52, true))⟩,
      ⟨(some 55), .faddr 13 (.t 54), (some (52, true))⟩,
      ⟨(some 56), .load1 (.t 55), (some (52, true))⟩,
      ⟨(some 57), .not (.t 56), (some (52, true))⟩,
      ⟨(some 58), .pick (.t 52) (.t 57) (.c (.bool false)), none⟩,
      ⟨(some 59), .mv (.t 58), none⟩,
      ⟨(some 60), .mv (.t 0), (some (59, true))⟩,
      ⟨(some 61), .nilCheck (.t 60), (some (59, true))⟩,
      ⟨(some 62), .faddr 0 (.t 61), (some (59, true))⟩,
      ⟨(some 63), .faddr 8 (.t 62), (some (59, true))⟩,
      ⟨(some 64), .load1 (.t 63), (some (59, true))⟩,
      ⟨(some 65), .mv (.t 6), (some (59, true))⟩,
      ⟨(some 66), .idxS 2 (.t 64) (.t 65), (some (59, true))⟩,
      ⟨(some 67), .faddr 1 (.t 66), (some (59, true))⟩,
      ⟨(some 68), .load1 (.t 67), (some (59, true))⟩,
      ⟨(some 69), .len (.t 68), (some (59, true))⟩,
      ⟨(some 70), .bin .num .gtr (.t 69) (.c (.int .i64 0)), (some (59, true))⟩,
      ⟨(some 71), .pick (.t 59) (.t 70) (.c (.bool false)), none⟩,
      ⟨(some 49), .mv (.t 71), none⟩])
     (.cond (.t 49)
      (.dregion [(0, ⟨(some 72), .idxA 3 1 (.t 3) (.c (.int .i64 2)), none⟩, []),
       (1, ⟨(some 73), .load1 (.t 72), none⟩, []),
       (2, ⟨(some 74), .conv .i64 (.t 73), none⟩, []),
       (3, ⟨(some 75), .mv (.t 0), none⟩, []),
       (4, ⟨(some 76), .nilCheck (.t 75), none⟩, []),
       (5, ⟨(some 77), .faddr 0 (.t 76), none⟩, []),
       (6, ⟨(some 78), .faddr 8 (.t 77), none⟩, []),
       (7, ⟨(some 79), .load1 (.t 78), none⟩, [5]),
       (8, ⟨(some 80), .mv (.t 6), none⟩, []),
       (9, ⟨(some 81), .idxS 2 (.t 79) (.t 80), none⟩, []),
       (10, ⟨(some 82), .faddr 1 (.t 81), none⟩, []),
       (11, ⟨(some 83), .load1 (.t 82), none⟩, [9]),
       (12, ⟨(some 84), .len (.t 83), none⟩, []),
       (13, ⟨(some 85), .bin .num .rem (.t 74) (.t 84), none⟩, []),
       (14, ⟨(some 86), .mv (.t 6), none⟩, []),
       (15, ⟨(some 87), .idxA 3 1 (.t 3) (.c (.int .i64 2)), none⟩, []),
       (16, ⟨(some 88), .load1 (.t 87), none⟩, [4, 8, 14]),
       (17, ⟨(some 89), .conv .i64 (.t 88), none⟩, []),
       (18, ⟨(some 90), .bin .num .mul (.t 86) (.t 89), none⟩, []),
       (19, ⟨(some 91), .bin .num .rem (.t 90) (.c (.int .i64 255)), none⟩, []),
       (20, ⟨(some 92), .bin .num .add (.c (.int .i64 1)) (.t 91), none⟩, []),
       (21, ⟨(some 93), .faddr 0 (.t 9), none⟩, []),
       (22, ⟨none, .store 1 (.t 93) (.c (.int .u8 6)), none⟩, [5, 10, 14, 20]),
       (23, ⟨(some 94), .faddr 3 (.t 9), none⟩, []),
       (24, ⟨none, .store 1 (.t 94) (.t 85), none⟩, [7]),
       (25, ⟨(some 95), .faddr 4 (.t 9), none⟩, []),
       (26, ⟨none, .store 1 (.t 95) (.t 92), none⟩, [])])
      .skip)))))))
  (.seq (.region [⟨(some 96), .loadN 6 (.t 9), none⟩,
   ⟨none, .store 6 (.t 4) (.t 96), none⟩])
  .ret))))
  .skip)))
 (.seq (.seq (.region [⟨(some 97), .mv (.t 5), none⟩,
  ⟨(some 98), .bin .num .rem (.t 97) (.c (.int .u8 3)), none⟩,
  ⟨(some 99), .bin .num .eql (.t 98) (.c (.int .u8 2)), none⟩])
 (.cond (.t 99)
  (.seq (.region [⟨(some 100), .mv (.t 6), none⟩,
   ⟨(some 101), .bin .num .rem (.t 100) (.c (.int .i64 2)), none⟩,
   ⟨(some 102), .build [(.int .u8 0), (.int .i64 0), (.int .i64 0), (.int .i64 0), (.int .i64 0), (.slice none 0 0)] [(0, 1, (.c (.int .u8 2))), (1, 1, (.t 101))], none⟩,
   ⟨none, .store 6 (.t 4) (.t 102), none⟩])
  .ret)
  .skip))
 (.seq (.region [⟨(some 103), .mv (.t 6), none⟩,
  ⟨(some 104), .bin .num .rem (.t 103) (.c (.int .i64 2)), none⟩,
  ⟨(some 105), .mv (.t 7), none⟩,
  ⟨(some 106), .build [(.int .u8 0), (.int .i64 0), (.int .i64 0), (.int .i64 0), (.int .i64 0), (.slice none 0 0)] [(0, 1, (.c (.int .u8 1))), (1, 1, (.t 104)), (5, 1, (.t 105))], none⟩,
  ⟨none, .store 6 (.t 4) (.t 106), none⟩])
 .ret))))))⟩

/- riposte/riposteref25.Same -/
def ir41 : IFunc := ⟨[.tmp 4],
 (.seq (.region [⟨(some 2), .box 9 (.t 0), none⟩,
  ⟨(some 3), .box 9 (.t 1), none⟩,
  ⟨(some 4), .mv (.c (.bool false)), none⟩])
 (.seq (.seq (.region [⟨(some 6), .faddr 0 (.t 2), none⟩,
  ⟨(some 7), .idxA 2 4 (.t 6) (.c (.int .i64 0)), none⟩,
  ⟨(some 8), .loadN 4 (.t 7), none⟩,
  ⟨(some 9), .faddr 0 (.t 3), none⟩,
  ⟨(some 10), .idxA 2 4 (.t 9) (.c (.int .i64 0)), none⟩,
  ⟨(some 11), .loadN 4 (.t 10), none⟩,
  ⟨(some 12), .call (.c (.func (.func 30) #[] #[])) [(.t 8), (.t 11)], none⟩,
  ⟨(some 13), .not (.t 12), none⟩,
  ⟨(some 14), .mv (.t 13), none⟩,
  ⟨(some 15), .faddr 0 (.t 2), (some (14, false))⟩,
  ⟨(some 16), .idxA 2 4 (.t 15) (.c (.int .i64 1)), (some (14, false))⟩,
  ⟨(some 17), .loadN 4 (.t 16), (some (14, false))⟩,
  ⟨(some 18), .faddr 0 (.t 3), (some (14, false))⟩,
  ⟨(some 19), .idxA 2 4 (.t 18) (.c (.int .i64 1)), (some (14, false))⟩,
  ⟨(some 20), .loadN 4 (.t 19), (some (14, false))⟩,
  ⟨(some 21), .call (.c (.func (.func 30) #[] #[])) [(.t 17), (.t 20)], (some (14, false))⟩,
  ⟨(some 22), .not (.t 21), (some (14, false))⟩,
  ⟨(some 23), .pick (.t 14) (.c (.bool true)) (.t 22), none⟩,
  ⟨(some 24), .mv (.t 23), none⟩,
  ⟨(some 25), .faddr 8 (.t 2), (some (24, false))⟩,
  ⟨(some 26), .load1 (.t 25), (some (24, false))⟩,
  ⟨(some 27), .len (.t 26), (some (24, false))⟩,
  ⟨(some 28), .faddr 8 (.t 3), (some (24, false))⟩,
  ⟨(some 29), .load1 (.t 28), (some (24, false))⟩,
  ⟨(some 30), .len (.t 29), (some (24, false))⟩,
  ⟨(some 31), .bin .num .neq (.t 27) (.t 30), (some (24, false))⟩,
  ⟨(some 32), .pick (.t 24) (.c (.bool true)) (.t 31), none⟩])
 (.cond (.t 32)
  (.seq (.region [⟨(some 4), .mv (.c (.bool false)), none⟩])
  .ret)
  .skip))
 (.seq (.seq (.region [⟨(some 5), .mv (.c (.int .i64 0)), none⟩])
 (.block 0
  (.loop
   (.seq (.seq (.region [⟨(some 33), .mv (.t 5), none⟩,
    ⟨(some 34), .faddr 8 (.t 2), none⟩,
    ⟨(some 35), .load1 (.t 34), none⟩,
    ⟨(some 36), .len (.t 35), none⟩,
    ⟨(some 37), .bin .num .lss (.t 33) (.t 36), none⟩])
   (.cond (.t 37)
    .skip
    (.exit 0)))
   (.seq (.block 1
    (.seq (.dregion [(0, ⟨(some 40), .faddr 8 (.t 2), none⟩, []),
     (1, ⟨(some 41), .load1 (.t 40), none⟩, []),
     (2, ⟨(some 42), .mv (.t 5), none⟩, []),
     (3, ⟨(some 43), .idxS 2 (.t 41) (.t 42), none⟩, []),
     (4, ⟨(some 44), .faddr 0 (.t 43), none⟩, []),
     (5, ⟨(some 45), .load1 (.t 44), none⟩, []),
     (6, ⟨(some 46), .faddr 8 (.t 3), none⟩, []),
     (7, ⟨(some 47), .load1 (.t 46), none⟩, [1, 5]),
     (8, ⟨(some 48), .mv (.t 5), none⟩, []),
     (9, ⟨(some 49), .idxS 2 (.t 47) (.t 48), none⟩, []),
     (10, ⟨(some 50), .faddr 0 (.t 49), none⟩, []),
     (11, ⟨(some 51), .load1 (.t 50), none⟩, [5, 9]),
     (12, ⟨(some 52), .bin .num .neq (.t 45) (.t 51), none⟩, []),
     (13, ⟨(some 53), .mv (.t 52), none⟩, []),
     (14, ⟨(some 54), .faddr 8 (.t 2), (some (53, false))⟩, []),
     (15, ⟨(some 55), .load1 (.t 54), (some (53, false))⟩, []),
     (16, ⟨(some 56), .mv (.t 5), (some (53, false))⟩, []),
     (17, ⟨(some 57), .idxS 2 (.t 55) (.t 56), (some (53, false))⟩, []),
     (18, ⟨(some 58), .faddr 1 (.t 57), (some (53, false))⟩, []),
     (19, ⟨(some 59), .load1 (.t 58), (some (53, false))⟩, []),
     (20, ⟨(some 60), .toStr (.t 59), (some (53, false))⟩, []),
     (21, ⟨(some 61), .faddr 8 (.t 3), (some (53, false))⟩, []),
     (22, ⟨(some 62), .load1 (.t 61), (some (53, false))⟩, [1, 2, 6]),
     (23, ⟨(some 63), .mv (.t 5), (some (53, false))⟩, []),
     (24, ⟨(some 64), .idxS 2 (.t 62) (.t 63), (some (53, false))⟩, []),
     (25, ⟨(some 65), .faddr 1 (.t 64), (some (53, false))⟩, []),
     (26, ⟨(some 66), .load1 (.t 65), (some (53, false))⟩, [5, 6, 10]),
     (27, ⟨(some 67), .toStr (.t 66), (some (53, false))⟩, [6, 7, 11]),
     (28, ⟨(some 68), .bin .str .neq (.t 60) (.t 67), (some (53, false))⟩, []),
     (29, ⟨(some 69), .pick (.t 53) (.c (.bool true)) (.t 68), none⟩, [])])
    (.cond (.t 69)
     (.seq (.region [⟨(some 4), .mv (.c (.bool false)), none⟩])
     .ret)
     .skip)))
   (.region [⟨(some 38), .mv (.t 5), none⟩,
    ⟨(some 39), .bin .num .add (.t 38) (.c (.int .i64 1)), none⟩,
    ⟨(some 5), .mv (.t 39), none⟩]))))))
 (.seq (.region [⟨(some 4), .mv (.c (.bool true)), none⟩])
 .ret))))⟩

/- (*riposte/ripostelaw25.story).step -/
def ir65 : IFunc := ⟨[.tmp 4],
 (.seq (.region [⟨(some 3), .box 3 (.t 1), none⟩,
  ⟨(some 4), .mv (.c (.bool false)), none⟩])
 (.seq (.region [⟨(some 11), .mv (.t 0), none⟩,
  ⟨(some 12), .loadN 3 (.t 3), none⟩,
  ⟨(some 13), .call (.c (.func (.func 38) #[] #[])) [(.t 11), (.t 12)], none⟩,
  ⟨(some 5), .mk [(.int .u8 0), (.int .i64 0), (.int .i64 0), (.int .i64 0), (.int .i64 0), (.slice none 0 0)], none⟩,
  ⟨none, .store 6 (.t 5) (.t 13), none⟩])
 (.seq (.dregion [(0, ⟨(some 14), .mv (.t 0), none⟩, []),
  (1, ⟨(some 15), .nilCheck (.t 14), none⟩, []),
  (2, ⟨(some 16), .faddr 0 (.t 15), none⟩, []),
  (3, ⟨(some 17), .loadN 9 (.t 16), none⟩, []),
  (4, ⟨(some 18), .loadN 6 (.t 5), none⟩, [0]),
  (5, ⟨(some 19), .call (.c (.func (.func 86) #[] #[])) [(.t 17), (.t 18)], none⟩, []),
  (6, ⟨(some 6), .mv (.t 19), none⟩, [])])
 (.seq (.dregion [(0, ⟨(some 21), .mv (.t 0), none⟩, []),
  (1, ⟨(some 22), .nilCheck (.t 21), none⟩, []),
  (2, ⟨(some 23), .faddr 0 (.t 22), none⟩, []),
  (3, ⟨(some 24), .loadN 9 (.t 23), none⟩, []),
  (4, ⟨(some 25), .call (.c (.func (.func 25) #[] #[])) [(.t 24)], none⟩, []),
  (5, ⟨(some 26), .loadN 6 (.t 5), none⟩, [0, 1]),
  (6, ⟨(some 27), .call (.c (.func (.func 39) #[] #[])) [(.t 25), (.t 26)], none⟩, []),
  (7, ⟨(some 20), .mv (.t 27), none⟩, []),
  (8, ⟨(some 28), .extract 0 (.t 20), none⟩, []),
  (9, ⟨(some 29), .extract 1 (.t 20), none⟩, []),
  (10, ⟨(some 30), .extract 2 (.t 20), none⟩, []),
  (11, ⟨(some 7), .mk [(.int .i64 0), (.slice none 0 0), (.int .i64 0), (.slice none 0 0), (.int .i64 0), (.slice none 0 0), (.int .i64 0), (.slice none 0 0), (.slice none 0 0)], none⟩, [4, 5, 6, 7]),
  (12, ⟨none, .store 9 (.t 7) (.t 28), none⟩, []),
  (13, ⟨(some 8), .mv (.t 29), none⟩, []),
  (14, ⟨(some 9), .mv (.t 30), none⟩, [])])
 (.seq (.seq (.region [⟨(some 31), .mv (.t 9), none⟩,
  ⟨(some 32), .bin .num .neq (.t 31) (.c (.int .i64 0)), none⟩])
 (.cond (.t 32)
  (.seq (.dregion [(0, ⟨(some 33), .mv (.t 9), none⟩, []),
   (1, ⟨(some 34), .bin .num .eql (.t 33) (.c (.int .i64 8)), none⟩, []),
   (2, ⟨(some 35), .mv (.t 34), none⟩, []),
   (3, ⟨(some 36), .faddr 0 (.t 5), (some (35, true))⟩, []),
   (4, ⟨(some 37), .load1 (.t 36), (some (35, true))⟩, []),
   (5, ⟨(some 38), .bin .num .eql (.t 37) (.c (.int .u8 1)), (some (35, true))⟩, []),
   (6, ⟨(some 39), .pick (.t 35) (.t 38) (.c (.bool false)), none⟩, []),
   (7, ⟨(some 40), .mv (.t 39), none⟩, []),
   (8, ⟨(some 41), .mv (.t 0), (some (40, true))⟩, []),
   (9, ⟨(some 42), .faddr 1 (.t 5), (some (40, true))⟩, []),
   (10, ⟨(some 43), .load1 (.t 42), (some (40, true))⟩, []),
   (11, ⟨(some 44), .nilCheck (.t 41), (some (40, true))⟩, []),
   (12, ⟨(some 45), .faddr 0 (.t 44), (some (40, true))⟩, []),
   (13, ⟨(some 46), .faddr 0 (.t 45), (some (40, true))⟩, []),
   (14, ⟨(some 47), .idxA 2 4 (.t 46) (.t 43), (some (40, true))⟩, []),
   (15, ⟨(some 48), .faddr 1 (.t 47), (some (40, true))⟩, []),
   (16, ⟨(some 49), .load1 (.t 48), (some (40, true))⟩, []),
   (17, ⟨(some 50), .len (.t 49), (some (40, true))⟩, []),
   (18, ⟨(some 51), .bin .num .eql (.t 50) (.c (.int .i64 8)), (some (40, true))⟩, []),
   (19, ⟨(some 52), .pick (.t 40) (.t 51) (.c (.bool false)), none⟩, []),
   (20, ⟨(some 4), .mv (.t 52), none⟩, [])])
  .ret)
  .skip))
 (.seq (.seq (.region [⟨(some 10), .mv (.c (.int .i64 0)), none⟩])
 (.block 0
  (.loop
   (.seq (.seq (.region [⟨(some 53), .mv (.t 10), none⟩,
    ⟨(some 54), .bin .num .lss (.t 53) (.c (.int .i64 2)), none⟩])
   (.cond (.t 54)
    .skip
    (.exit 0)))
   (.seq (.block 1
    (.seq (.dregion [(0, ⟨(some 57), .mv (.t 10), none⟩, []),
     (1, ⟨(some 58), .faddr 0 (.t 7), none⟩, []),
     (2, ⟨(some 59), .idxA 2 4 (.t 58) (.t 57), none⟩, []),
     (3, ⟨(some 60), .faddr 0 (.t 59), none⟩, []),
     (4, ⟨(some 61), .load1 (.t 60), none⟩, []),
     (5, ⟨(some 62), .mv (.t 0), none⟩, []),
     (6, ⟨(some 63), .mv (.t 10), none⟩, []),
     (7, ⟨(some 64), .nilCheck (.t 62), none⟩, []),
     (8, ⟨(some 65), .faddr 0 (.t 64), none⟩, []),
     (9, ⟨(some 66), .faddr 0 (.t 65), none⟩, []),
     (10, ⟨(some 67), .idxA 2 4 (.t 66) (.t 63), none⟩, []),
     (11, ⟨(some 68), .faddr 0 (.t 67), none⟩, []),
     (12, ⟨(some 69), .load1 (.t 68), none⟩, [7]),
     (13, ⟨(some 70), .bin .num .lss (.t 61) (.t 69), none⟩, []),
     (14, ⟨(some 71), .mv (.t 70), none⟩, []),
     (15, ⟨(some 72), .mv (.t 10), (some (71, false))⟩, []),
     (16, ⟨(some 73), .faddr 0 (.t 7), (some (71, false))⟩, []),
     (17, ⟨(some 74), .idxA 2 4 (.t 73) (.t 72), (some (71, false))⟩, []),
     (18, ⟨(some 75), .faddr 2 (.t 74), (some (71, false))⟩, []),
     (19, ⟨(some 76), .load1 (.t 75), (some (71, false))⟩, []),
     (20, ⟨(some 77), .mv (.t 0), (some (71, false))⟩, []),
     (21, ⟨(some 78), .mv (.t 10), (some (71, false))⟩, []),
     (22, ⟨(some 79), .nilCheck (.t 77), (some (71, false))⟩, []),
     (23, ⟨(some 80), .faddr 0 (.t 79), (some (71, false))⟩, []),
     (24, ⟨(some 81), .faddr 0 (.t 80), (some (71, false))⟩, []),
     (25, ⟨(some 82), .idxA 2 4 (.t 81) (.t 78), (some (71, false))⟩, []),
     (26, ⟨(some 83), .faddr 2 (.t 82), (some (71, false))⟩, []),
     (27, ⟨(some 84), .load1 (.t 83), (some (71, false))⟩, [7]),
     (28, ⟨(some 85), .bin .num .lss (.t 76) (.t 84), (some (71, false))⟩, []),
     (29, ⟨(some 86), .pick (.t 71) (.c (.bool true)) (.t 85), none⟩, [])])
    (.cond (.t 86)
     (.seq (.region [⟨(some 4), .mv (.c (.bool false)), none⟩])
     .ret)
     .skip)))
   (.region [⟨(some 55), .mv (.t 10), none⟩,
    ⟨(some 56), .bin .num .add (.t 55) (.c (.int .i64 1)), none⟩,
    ⟨(some 10), .mv (.t 56), none⟩]))))))
 (.seq (.region [⟨(some 87), .mv (.t 0), none⟩,
  ⟨(some 88), .mv (.t 0), none⟩,
  ⟨(some 89), .nilCheck (.t 88), none⟩,
  ⟨(some 90), .faddr 13 (.t 89), none⟩,
  ⟨(some 91), .load1 (.t 90), none⟩,
  ⟨(some 92), .mv (.t 91), none⟩,
  ⟨(some 93), .faddr 0 (.t 5), (some (92, false))⟩,
  ⟨(some 94), .load1 (.t 93), (some (92, false))⟩,
  ⟨(some 95), .bin .num .eql (.t 94) (.c (.int .u8 6)), (some (92, false))⟩,
  ⟨(some 96), .pick (.t 92) (.c (.bool true)) (.t 95), none⟩,
  ⟨(some 97), .nilCheck (.t 87), none⟩,
  ⟨(some 98), .faddr 13 (.t 97), none⟩,
  ⟨none, .store 1 (.t 98) (.t 96), none⟩])
 (.seq (.seq (.region [⟨(some 99), .faddr 0 (.t 5), none⟩,
  ⟨(some 100), .load1 (.t 99), none⟩,
  ⟨(some 101), .bin .num .eql (.t 100) (.c (.int .u8 1)), none⟩])
 (.cond (.t 101)
  (.dregion [(0, ⟨(some 102), .mv (.t 0), none⟩, []),
   (1, ⟨(some 103), .faddr 1 (.t 5), none⟩, []),
   (2, ⟨(some 104), .load1 (.t 103), none⟩, []),
   (3, ⟨(some 105), .mv (.t 0), none⟩, []),
   (4, ⟨(some 106), .faddr 1 (.t 5), none⟩, []),
   (5, ⟨(some 107), .load1 (.t 106), none⟩, [2]),
   (6, ⟨(some 108), .nilCheck (.t 105), none⟩, []),
   (7, ⟨(some 109), .faddr 9 (.t 108), none⟩, []),
   (8, ⟨(some 110), .idxA 2 1 (.t 109) (.t 107), none⟩, []),
   (9, ⟨(some 111), .load1 (.t 110), none⟩, [6]),
   (10, ⟨(some 112), .buildSlice 0 [] [], none⟩, [0, 4, 7]),
   (11, ⟨(some 113), .faddr 5 (.t 5), none⟩, []),
   (12, ⟨(some 114), .load1 (.t 113), none⟩, [1, 2, 6, 9]),
   (13, ⟨(some 115), .append 1 1 (.t 112) (.t 114), none⟩, [3, 7, 10]),
   (14, ⟨(some 116), .buildSlice 1 [(.slice none 0 0)] [(0, 1, (.t 115))], none⟩, [4, 8, 11]),
   (15, ⟨(some 117), .append 1 24 (.t 111) (.t 116), none⟩, [12]),
   (16, ⟨(some 118), .nilCheck (.t 102), none⟩, []),
   (17, ⟨(some 119), .faddr 9 (.t 118), none⟩, []),
   (18, ⟨(some 120), .idxA 2 1 (.t 119) (.t 104), none⟩, []),
   (19, ⟨none, .store 1 (.t 120) (.t 117), none⟩, [])])
  .skip))
 (.seq (.region [⟨(some 121), .mv (.t 0), none⟩,
  ⟨(some 122), .loadN 9 (.t 7), none⟩,
  ⟨(some 123), .nilCheck (.t 121), none⟩,
  ⟨(some 124), .faddr 0 (.t 123), none⟩,
  ⟨none, .store 9 (.t 124) (.t 122), none⟩])
 (.seq (.dregion [(0, ⟨(some 125), .mv (.t 0), none⟩, []),
  (1, ⟨(some 126), .mv (.t 6), none⟩, []),
  (2, ⟨(some 127), .mv (.t 0), none⟩, []),
  (3, ⟨(some 128), .mv (.t 6), none⟩, []),
  (4, ⟨(some 129), .nilCheck (.t 127), none⟩, []),
  (5, ⟨(some 130), .faddr 11 (.t 129), none⟩, []),
  (6, ⟨(some 131), .idxA 2 1 (.t 130) (.t 128), none⟩, []),
  (7, ⟨(some 132), .load1 (.t 131), none⟩, []),
  (8, ⟨(some 133), .mv (.t 8), none⟩, []),
  (9, ⟨(some 134), .append 1 24 (.t 132) (.t 133), none⟩, []),
  (10, ⟨(some 135), .nilCheck (.t 125), none⟩, []),
  (11, ⟨(some 136), .faddr 11 (.t 135), none⟩, []),
  (12, ⟨(some 137), .idxA 2 1 (.t 136) (.t 126), none⟩, []),
  (13, ⟨none, .store 1 (.t 137) (.t 134), none⟩, [])])
 (.seq (.dregion [(0, ⟨(some 138), .loadN 9 (.t 7), none⟩, []),
  (1, ⟨(some 139), .call (.c (.func (.func 26) #[] #[])) [(.t 138)], none⟩, []),
  (2, ⟨(some 140), .mv (.t 139), none⟩, []),
  (3, ⟨(some 141), .mv (.t 0), (some (140, true))⟩, []),
  (4, ⟨(some 142), .nilCheck (.t 141), (some (140, true))⟩, []),
  (5, ⟨(some 143), .faddr 11 (.t 142), (some (140, true))⟩, []),
  (6, ⟨(some 144), .idxA 2 1 (.t 143) (.c (.int .i64 0)), (some (140, true))⟩, []),
  (7, ⟨(some 145), .load1 (.t 144), (some (140, true))⟩, []),
  (8, ⟨(some 146), .mv (.t 0), (some (140, true))⟩, []),
  (9, ⟨(some 147), .nilCheck (.t 146), (some (140, true))⟩, []),
  (10, ⟨(some 148), .faddr 9 (.t 147), (some (140, true))⟩, []),
  (11, ⟨(some 149), .idxA 2 1 (.t 148) (.c (.int .i64 1)), (some (140, true))⟩, []),
  (12, ⟨(some 150), .load1 (.t 149), (some (140, true))⟩, [4]),
  (13, ⟨(some 151), .call (.c (.func (.func 87) #[] #[])) [(.t 145), (.t 150)], (some (140, true))⟩, []),
  (14, ⟨(some 152), .pick (.t 140) (.t 151) (.c (.bool false)), none⟩, []),
  (15, ⟨(some 153), .mv (.t 152), none⟩, []),
  (16, ⟨(some 154), .mv (.t 0), (some (153, true))⟩, []),
  (17, ⟨(some 155), .nilCheck (.t 154), (some (153, true))⟩, []),
  (18, ⟨(some 156), .faddr 11 (.t 155), (some (153, true))⟩, []),
  (19, ⟨(some 157), .idxA 2 1 (.t 156) (.c (.int .i64 1)), (some (153, true))⟩, []),
  (20, ⟨(some 158), .load1 (.t 157), (some (153, true))⟩, []),
  (21, ⟨(some 159), .mv (.t 0), (some (153, true))⟩, []),
  (22, ⟨(some 160), .nilCheck (.t 159), (some (153, true))⟩, []),
  (23, ⟨(some 161), .faddr 9 (.t 160), (some (153, true))⟩, []),
  (24, ⟨(some 162), .idxA 2 1 (.t 161) (.c (.int .i64 0)), (some (153, true))⟩, []),
  (25, ⟨(some 163), .load1 (.t 162), (some (153, true))⟩, [4]),
  (26, ⟨(some 164), .call (.c (.func (.func 87) #[] #[])) [(.t 158), (.t 163)], (some (153, true))⟩, []),
  (27, ⟨(some 165), .pick (.t 153) (.t 164) (.c (.bool false)), none⟩, []),
  (28, ⟨(some 4), .mv (.t 165), none⟩, [])])
 .ret)))))))))))⟩

/- riposte/riposteref25.Hears -/
def ir86 : IFunc := ⟨[.tmp 4],
 (.seq (.region [⟨(some 2), .box 9 (.t 0), none⟩,
  ⟨(some 3), .box 6 (.t 1), none⟩,
  ⟨(some 4), .mv (.c (.int .i64 0)), none⟩])
 (.seq (.seq (.region [⟨(some 5), .faddr 0 (.t 3), none⟩,
  ⟨(some 6), .load1 (.t 5), none⟩,
  ⟨(some 7), .bin .num .eql (.t 6) (.c (.int .u8 3)), none⟩,
  ⟨(some 8), .mv (.t 7), none⟩,
  ⟨(some 9), .faddr 2 (.t 3), (some (8, true))⟩,
  ⟨(some 10), .load1 (.t 9), (some (8, true))⟩,
  ⟨(some 11), .faddr 8 (.t 2), (some (8, true))⟩,
  ⟨(some 12), .load1 (.t 11), (some (8, true))⟩,
  ⟨(some 13), .len (.t 12), (some (8, true))⟩,
  ⟨(some 14), .bin .num .sub (.t 13) (.c (.int .i64 1)), (some (8, true))⟩,
  ⟨(some 15), .call (.c (.func (.func 55) #[] #[])) [(.t 10), (.c (.int .i64 0)), (.t 14)], (some (8, true))⟩,
  ⟨(some 16), .pick (.t 8) (.t 15) (.c (.bool false)), none⟩])
 (.cond (.t 16)
  (.seq (.region [⟨(some 17), .faddr 8 (.t 2), none⟩,
   ⟨(some 18), .load1 (.t 17), none⟩,
   ⟨(some 19), .faddr 2 (.t 3), none⟩,
   ⟨(some 20), .load1 (.t 19), none⟩,
   ⟨(some 21), .idxS 2 (.t 18) (.t 20), none⟩,
   ⟨(some 22), .faddr 0 (.t 21), none⟩,
   ⟨(some 23), .load1 (.t 22), none⟩,
   ⟨(some 4), .mv (.t 23), none⟩])
  .ret)
  .skip))
 (.seq (.region [⟨(some 4), .mv (.c (.int .i64 0)), none⟩])
 .ret)))⟩

/- riposte/ripostelaw25.begins -/
def ir87 : IFunc := ⟨[.tmp 4],
 (.seq (.region [⟨(some 4), .mv (.c (.bool false)), none⟩])
 (.seq (.region [⟨(some 5), .mv (.t 0), none⟩,
  ⟨(some 6), .len (.t 5), none⟩,
  ⟨(some 7), .mv (.t 1), none⟩,
  ⟨(some 8), .len (.t 7), none⟩,
  ⟨(some 9), .bin .num .leq (.t 6) (.t 8), none⟩,
  ⟨(some 10), .mv (.t 9), none⟩,
  ⟨(some 11), .mv (.t 0), (some (10, true))⟩,
  ⟨(some 12), .mv (.t 1), (some (10, true))⟩,
  ⟨(some 13), .mv (.t 0), (some (10, true))⟩,
  ⟨(some 14), .len (.t 13), (some (10, true))⟩,
  ⟨(some 15), .sliceS 1 (.t 12) none (some (.t 14)) none, (some (10, true))⟩,
  ⟨(some 16), .call (.c (.func (.func 31) #[] #[])) [(.t 11), (.t 15)], (some (10, true))⟩,
  ⟨(some 17), .pick (.t 10) (.t 16) (.c (.bool false)), none⟩,
  ⟨(some 4), .mv (.t 17), none⟩])
 .ret))⟩

theorem get8 (w : World) : (ctxW w).funcs.get 8 = some ir8 := by kernel_rfl
theorem get10 (w : World) : (ctxW w).funcs.get 10 = some ir10 := by kernel_rfl
theorem get36 (w : World) : (ctxW w).funcs.get 36 = some ir36 := by kernel_rfl
theorem get38 (w : World) : (ctxW w).funcs.get 38 = some ir38 := by kernel_rfl
theorem get41 (w : World) : (ctxW w).funcs.get 41 = some ir41 := by kernel_rfl
theorem get65 (w : World) : (ctxW w).funcs.get 65 = some ir65 := by kernel_rfl
theorem get86 (w : World) : (ctxW w).funcs.get 86 = some ir86 := by kernel_rfl
theorem get87 (w : World) : (ctxW w).funcs.get 87 = some ir87 := by kernel_rfl
end Go.Ai.Wire
