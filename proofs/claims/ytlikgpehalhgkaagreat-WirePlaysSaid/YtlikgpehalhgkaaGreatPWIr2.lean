/-
  More functions of the program in the evaluator's own form (printed by program), and that they are the program's.
-/
import Derived.Test.YtlikgpehalhgkaaGreatPWIr
namespace Go.Ai.Wire
open Go.Proofs

/- riposte/ripostelaw25.Thin -/
def ir6 : IFunc := ⟨[.tmp 2],
(.seq (.region [⟨(some 1), .box 9 (.t 0), none⟩,
⟨(some 2), .mv (.c (.bool false)), none⟩])
(.seq (.seq (.region [⟨(some 4), .faddr 0 (.t 1), none⟩,
⟨(some 5), .idxA 2 4 (.t 4) (.c (.int .i64 0)), none⟩,
⟨(some 6), .loadN 4 (.t 5), none⟩,
⟨(some 7), .call (.c (.func (.func 20) #[] #[])) [(.t 6)], none⟩,
⟨(some 8), .not (.t 7), none⟩,
⟨(some 9), .mv (.t 8), none⟩,
⟨(some 10), .faddr 0 (.t 1), (some (9, false))⟩,
⟨(some 11), .idxA 2 4 (.t 10) (.c (.int .i64 1)), (some (9, false))⟩,
⟨(some 12), .loadN 4 (.t 11), (some (9, false))⟩,
⟨(some 13), .call (.c (.func (.func 20) #[] #[])) [(.t 12)], (some (9, false))⟩,
⟨(some 14), .not (.t 13), (some (9, false))⟩,
⟨(some 15), .pick (.t 9) (.c (.bool true)) (.t 14), none⟩,
⟨(some 16), .mv (.t 15), none⟩,
⟨(some 17), .faddr 8 (.t 1), (some (16, false))⟩,
⟨(some 18), .load1 (.t 17), (some (16, false))⟩,
⟨(some 19), .len (.t 18), (some (16, false))⟩,
⟨(some 20), .bin .num .gtr (.t 19) (.c (.int .i64 70)), (some (16, false))⟩,
⟨(some 21), .pick (.t 16) (.c (.bool true)) (.t 20), none⟩])
(.cond (.t 21)
(.seq (.region [⟨(some 2), .mv (.c (.bool false)), none⟩])
.ret)
.skip))
(.seq (.seq (.region [⟨(some 3), .mv (.c (.int .i64 0)), none⟩])
(.block 0
(.loop
(.seq (.seq (.region [⟨(some 22), .mv (.t 3), none⟩,
⟨(some 23), .faddr 8 (.t 1), none⟩,
⟨(some 24), .load1 (.t 23), none⟩,
⟨(some 25), .len (.t 24), none⟩,
⟨(some 26), .bin .num .lss (.t 22) (.t 25), none⟩])
(.cond (.t 26)
.skip
(.exit 0)))
(.seq (.block 1
(.seq (.region [⟨(some 29), .faddr 8 (.t 1), none⟩,
⟨(some 30), .load1 (.t 29), none⟩,
⟨(some 31), .mv (.t 3), none⟩,
⟨(some 32), .idxS 2 (.t 30) (.t 31), none⟩,
⟨(some 33), .faddr 1 (.t 32), none⟩,
⟨(some 34), .load1 (.t 33), none⟩,
⟨(some 35), .len (.t 34), none⟩,
⟨(some 36), .bin .num .gtr (.t 35) (.c (.int .i64 500)), none⟩])
(.cond (.t 36)
(.seq (.region [⟨(some 2), .mv (.c (.bool false)), none⟩])
.ret)
.skip)))
(.region [⟨(some 27), .mv (.t 3), none⟩,
⟨(some 28), .bin .num .add (.t 27) (.c (.int .i64 1)), none⟩,
⟨(some 3), .mv (.t 28), none⟩]))))))
(.seq (.region [⟨(some 2), .mv (.c (.bool true)), none⟩])
.ret))))⟩

/- riposte/riposteref25.CopyEnd -/
def ir26 : IFunc := ⟨[.cellN 2 4],
(.seq (.region [⟨(some 1), .box 4 (.t 0), none⟩,
⟨(some 2), .mk [(.int .i64 0), (.slice none 0 0), (.int .i64 0), (.slice none 0 0)], none⟩])
(.seq (.dregion [(2, ⟨(some 5), .faddr 1 (.t 1), none⟩, []),
(3, ⟨(some 6), .load1 (.t 5), none⟩, []),
(4, ⟨(some 7), .call (.c (.func (.func 49) #[] #[])) [(.t 6)], none⟩, []),
(7, ⟨(some 10), .faddr 3 (.t 1), none⟩, []),
(8, ⟨(some 11), .load1 (.t 10), none⟩, [1, 2]),
(9, ⟨(some 12), .call (.c (.func (.func 49) #[] #[])) [(.t 11)], none⟩, []),
(0, ⟨(some 3), .faddr 0 (.t 1), none⟩, []),
(1, ⟨(some 4), .load1 (.t 3), none⟩, [1, 2, 4, 5]),
(5, ⟨(some 8), .faddr 2 (.t 1), none⟩, []),
(6, ⟨(some 9), .load1 (.t 8), none⟩, [1, 3, 4, 6, 7]),
(10, ⟨(some 13), .build [(.int .i64 0), (.slice none 0 0), (.int .i64 0), (.slice none 0 0)] [(0, 1, (.t 4)), (1, 1, (.t 7)), (2, 1, (.t 9)), (3, 1, (.t 12))], none⟩, []),
(11, ⟨none, .store 4 (.t 2) (.t 13), none⟩, [])])
.ret))⟩

/- riposte/riposteref25.IsEnd -/
def ir50 : IFunc := ⟨[.tmp 2],
(.seq (.region [⟨(some 1), .box 4 (.t 0), none⟩,
⟨(some 2), .mv (.c (.bool false)), none⟩])
(.seq (.seq (.region [⟨(some 7), .faddr 0 (.t 1), none⟩,
⟨(some 8), .load1 (.t 7), none⟩,
⟨(some 9), .call (.c (.func (.func 51) #[] #[])) [(.t 8), (.c (.int .i64 0)), (.c (.int .i64 60000))], none⟩,
⟨(some 10), .not (.t 9), none⟩,
⟨(some 11), .mv (.t 10), none⟩,
⟨(some 12), .faddr 2 (.t 1), (some (11, false))⟩,
⟨(some 13), .load1 (.t 12), (some (11, false))⟩,
⟨(some 14), .call (.c (.func (.func 51) #[] #[])) [(.t 13), (.c (.int .i64 0)), (.c (.int .i64 60000))], (some (11, false))⟩,
⟨(some 15), .not (.t 14), (some (11, false))⟩,
⟨(some 16), .pick (.t 11) (.c (.bool true)) (.t 15), none⟩,
⟨(some 17), .mv (.t 16), none⟩,
⟨(some 18), .faddr 1 (.t 1), (some (17, false))⟩,
⟨(some 19), .load1 (.t 18), (some (17, false))⟩,
⟨(some 20), .len (.t 19), (some (17, false))⟩,
⟨(some 21), .bin .num .gtr (.t 20) (.c (.int .i64 8)), (some (17, false))⟩,
⟨(some 22), .pick (.t 17) (.c (.bool true)) (.t 21), none⟩])
(.cond (.t 22)
(.seq (.region [⟨(some 2), .mv (.c (.bool false)), none⟩])
.ret)
.skip))
(.seq (.seq (.region [⟨(some 3), .mv (.c (.int .i64 0)), none⟩])
(.block 0
(.loop
(.seq (.seq (.region [⟨(some 23), .mv (.t 3), none⟩,
⟨(some 24), .faddr 1 (.t 1), none⟩,
⟨(some 25), .load1 (.t 24), none⟩,
⟨(some 26), .len (.t 25), none⟩,
⟨(some 27), .bin .num .lss (.t 23) (.t 26), none⟩])
(.cond (.t 27)
.skip
(.exit 0)))
(.seq (.block 1
(.seq (.region [⟨(some 30), .faddr 1 (.t 1), none⟩,
⟨(some 31), .load1 (.t 30), none⟩,
⟨(some 32), .mv (.t 3), none⟩,
⟨(some 33), .idxS 2 (.t 31) (.t 32), none⟩,
⟨(some 34), .faddr 0 (.t 33), none⟩,
⟨(some 35), .load1 (.t 34), none⟩,
⟨(some 4), .mv (.t 35), none⟩])
(.seq (.region [⟨(some 36), .mv (.t 4), none⟩,
⟨(some 37), .faddr 0 (.t 1), none⟩,
⟨(some 38), .load1 (.t 37), none⟩,
⟨(some 39), .faddr 1 (.t 1), none⟩,
⟨(some 40), .load1 (.t 39), none⟩,
⟨(some 41), .len (.t 40), none⟩,
⟨(some 42), .bin .num .sub (.t 38) (.t 41), none⟩,
⟨(some 43), .bin .num .add (.t 42) (.c (.int .i64 1)), none⟩,
⟨(some 44), .mv (.t 3), none⟩,
⟨(some 45), .bin .num .add (.t 43) (.t 44), none⟩,
⟨(some 46), .bin .num .neq (.t 36) (.t 45), none⟩,
⟨(some 47), .mv (.t 46), none⟩,
⟨(some 48), .mv (.t 4), (some (47, false))⟩,
⟨(some 49), .bin .num .lss (.t 48) (.c (.int .i64 1)), (some (47, false))⟩,
⟨(some 50), .pick (.t 47) (.c (.bool true)) (.t 49), none⟩,
⟨(some 51), .mv (.t 50), none⟩,
⟨(some 52), .faddr 1 (.t 1), (some (51, false))⟩,
⟨(some 53), .load1 (.t 52), (some (51, false))⟩,
⟨(some 54), .mv (.t 3), (some (51, false))⟩,
⟨(some 55), .idxS 2 (.t 53) (.t 54), (some (51, false))⟩,
⟨(some 56), .faddr 1 (.t 55), (some (51, false))⟩,
⟨(some 57), .load1 (.t 56), (some (51, false))⟩,
⟨(some 58), .call (.c (.func (.func 55) #[] #[])) [(.t 57)], (some (51, false))⟩,
⟨(some 59), .not (.t 58), (some (51, false))⟩,
⟨(some 60), .pick (.t 51) (.c (.bool true)) (.t 59), none⟩])
(.cond (.t 60)
(.seq (.region [⟨(some 2), .mv (.c (.bool false)), none⟩])
.ret)
.skip))))
(.region [⟨(some 28), .mv (.t 3), none⟩,
⟨(some 29), .bin .num .add (.t 28) (.c (.int .i64 1)), none⟩,
⟨(some 3), .mv (.t 29), none⟩]))))))
(.seq (.seq (.region [⟨(some 5), .mv (.c (.int .i64 0)), none⟩])
(.block 2
(.loop
(.seq (.seq (.region [⟨(some 61), .mv (.t 5), none⟩,
⟨(some 62), .faddr 3 (.t 1), none⟩,
⟨(some 63), .load1 (.t 62), none⟩,
⟨(some 64), .len (.t 63), none⟩,
⟨(some 65), .bin .num .lss (.t 61) (.t 64), none⟩])
(.cond (.t 65)
.skip
(.exit 2)))
(.seq (.block 3
(.seq (.region [⟨(some 68), .faddr 3 (.t 1), none⟩,
⟨(some 69), .load1 (.t 68), none⟩,
⟨(some 70), .mv (.t 5), none⟩,
⟨(some 71), .idxS 2 (.t 69) (.t 70), none⟩,
⟨(some 72), .faddr 0 (.t 71), none⟩,
⟨(some 73), .load1 (.t 72), none⟩,
⟨(some 6), .mv (.t 73), none⟩])
(.seq (.region [⟨(some 74), .mv (.t 6), none⟩,
⟨(some 75), .faddr 2 (.t 1), none⟩,
⟨(some 76), .load1 (.t 75), none⟩,
⟨(some 77), .bin .num .add (.t 76) (.c (.int .i64 2)), none⟩,
⟨(some 78), .faddr 2 (.t 1), none⟩,
⟨(some 79), .load1 (.t 78), none⟩,
⟨(some 80), .bin .num .add (.t 79) (.c (.int .i64 8)), none⟩,
⟨(some 81), .minI (.t 80) (.c (.int .i64 60000)), none⟩,
⟨(some 82), .call (.c (.func (.func 51) #[] #[])) [(.t 74), (.t 77), (.t 81)], none⟩,
⟨(some 83), .not (.t 82), none⟩,
⟨(some 84), .mv (.t 83), none⟩,
⟨(some 85), .mv (.t 5), (some (84, false))⟩,
⟨(some 86), .bin .num .gtr (.t 85) (.c (.int .i64 0)), (some (84, false))⟩,
⟨(some 87), .mv (.t 86), (some (84, false))⟩,
⟨(some 88), .mv (.t 6), (some (87, true))⟩,
⟨(some 89), .faddr 3 (.t 1), (some (87, true))⟩,
⟨(some 90), .load1 (.t 89), (some (87, true))⟩,
⟨(some 91), .mv (.t 5), (some (87, true))⟩,
⟨(some 92), .bin .num .sub (.t 91) (.c (.int .i64 1)), (some (87, true))⟩,
⟨(some 93), .idxS 2 (.t 90) (.t 92), (some (87, true))⟩,
⟨(some 94), .faddr 0 (.t 93), (some (87, true))⟩,
⟨(some 95), .load1 (.t 94), (some (87, true))⟩,
⟨(some 96), .bin .num .leq (.t 88) (.t 95), (some (87, true))⟩,
⟨(some 97), .pick (.t 87) (.t 96) (.c (.bool false)), (some (84, false))⟩,
⟨(some 98), .pick (.t 84) (.c (.bool true)) (.t 97), none⟩,
⟨(some 99), .mv (.t 98), none⟩,
⟨(some 100), .faddr 3 (.t 1), (some (99, false))⟩,
⟨(some 101), .load1 (.t 100), (some (99, false))⟩,
⟨(some 102), .mv (.t 5), (some (99, false))⟩,
⟨(some 103), .idxS 2 (.t 101) (.t 102), (some (99, false))⟩,
⟨(some 104), .faddr 1 (.t 103), (some (99, false))⟩,
⟨(some 105), .load1 (.t 104), (some (99, false))⟩,
⟨(some 106), .call (.c (.func (.func 55) #[] #[])) [(.t 105)], (some (99, false))⟩,
⟨(some 107), .not (.t 106), (some (99, false))⟩,
⟨(some 108), .pick (.t 99) (.c (.bool true)) (.t 107), none⟩])
(.cond (.t 108)
(.seq (.region [⟨(some 2), .mv (.c (.bool false)), none⟩])
.ret)
.skip))))
(.region [⟨(some 66), .mv (.t 5), none⟩,
⟨(some 67), .bin .num .add (.t 66) (.c (.int .i64 1)), none⟩,
⟨(some 5), .mv (.t 67), none⟩]))))))
(.seq (.region [⟨(some 2), .mv (.c (.bool true)), none⟩])
.ret)))))⟩

/- riposte/riposteref25.Copy -/
def ir9 : IFunc := ⟨[.cellN 2 9],
(.seq (.region [⟨(some 1), .box 9 (.t 0), none⟩,
⟨(some 2), .mk [(.int .i64 0), (.slice none 0 0), (.int .i64 0), (.slice none 0 0), (.int .i64 0), (.slice none 0 0), (.int .i64 0), (.slice none 0 0), (.slice none 0 0)], none⟩])
(.seq (.dregion [(0, ⟨(some 5), .faddr 0 (.t 1), none⟩, []),
(1, ⟨(some 6), .idxA 2 4 (.t 5) (.c (.int .i64 0)), none⟩, []),
(2, ⟨(some 7), .loadN 4 (.t 6), none⟩, []),
(3, ⟨(some 8), .call (.c (.func (.func 26) #[] #[])) [(.t 7)], none⟩, []),
(4, ⟨(some 9), .faddr 0 (.t 1), none⟩, []),
(5, ⟨(some 10), .idxA 2 4 (.t 9) (.c (.int .i64 1)), none⟩, []),
(6, ⟨(some 11), .loadN 4 (.t 10), none⟩, [2, 3]),
(7, ⟨(some 12), .call (.c (.func (.func 26) #[] #[])) [(.t 11)], none⟩, []),
(8, ⟨(some 13), .build [(.int .i64 0), (.slice none 0 0), (.int .i64 0), (.slice none 0 0), (.int .i64 0), (.slice none 0 0), (.int .i64 0), (.slice none 0 0)] [(0, 4, (.t 8)), (4, 4, (.t 12))], none⟩, []),
(9, ⟨(some 14), .build [(.int .i64 0), (.slice none 0 0), (.int .i64 0), (.slice none 0 0), (.int .i64 0), (.slice none 0 0), (.int .i64 0), (.slice none 0 0), (.slice none 0 0)] [(0, 8, (.t 13))], none⟩, []),
(10, ⟨(some 3), .mk [(.int .i64 0), (.slice none 0 0), (.int .i64 0), (.slice none 0 0), (.int .i64 0), (.slice none 0 0), (.int .i64 0), (.slice none 0 0), (.slice none 0 0)], none⟩, [2, 3, 6, 7]),
(11, ⟨none, .store 9 (.t 3) (.t 14), none⟩, [])])
(.seq (.seq (.region [⟨(some 4), .mv (.c (.int .i64 0)), none⟩])
(.block 0
(.loop
(.seq (.seq (.region [⟨(some 15), .mv (.t 4), none⟩,
⟨(some 16), .faddr 8 (.t 1), none⟩,
⟨(some 17), .load1 (.t 16), none⟩,
⟨(some 18), .len (.t 17), none⟩,
⟨(some 19), .bin .num .lss (.t 15) (.t 18), none⟩])
(.cond (.t 19)
.skip
(.exit 0)))
(.seq (.block 1
(.dregion [(0, ⟨(some 22), .faddr 8 (.t 3), none⟩, []),
(1, ⟨(some 23), .load1 (.t 22), none⟩, []),
(2, ⟨(some 24), .faddr 8 (.t 1), none⟩, []),
(3, ⟨(some 25), .load1 (.t 24), none⟩, [1]),
(4, ⟨(some 26), .mv (.t 4), none⟩, []),
(5, ⟨(some 27), .idxS 2 (.t 25) (.t 26), none⟩, []),
(6, ⟨(some 28), .faddr 0 (.t 27), none⟩, []),
(7, ⟨(some 29), .load1 (.t 28), none⟩, [5]),
(8, ⟨(some 30), .buildSlice 0 [] [], none⟩, [0, 4, 6]),
(9, ⟨(some 31), .faddr 8 (.t 1), none⟩, []),
(10, ⟨(some 32), .load1 (.t 31), none⟩, [1, 2, 6, 8]),
(11, ⟨(some 33), .mv (.t 4), none⟩, []),
(12, ⟨(some 34), .idxS 2 (.t 32) (.t 33), none⟩, []),
(13, ⟨(some 35), .faddr 1 (.t 34), none⟩, []),
(14, ⟨(some 36), .load1 (.t 35), none⟩, [5, 6, 10, 12]),
(15, ⟨(some 37), .append 1 1 (.t 30) (.t 36), none⟩, [7, 11, 13]),
(16, ⟨(some 38), .build [(.int .i64 0), (.slice none 0 0)] [(0, 1, (.t 29)), (1, 1, (.t 37))], none⟩, []),
(17, ⟨(some 39), .buildSlice 1 [(.int .i64 0), (.slice none 0 0)] [(0, 2, (.t 38))], none⟩, [15]),
(18, ⟨(some 40), .append 2 32 (.t 23) (.t 39), none⟩, []),
(19, ⟨(some 41), .faddr 8 (.t 3), none⟩, []),
(20, ⟨none, .store 1 (.t 41) (.t 40), none⟩, [])]))
(.region [⟨(some 20), .mv (.t 4), none⟩,
⟨(some 21), .bin .num .add (.t 20) (.c (.int .i64 1)), none⟩,
⟨(some 4), .mv (.t 21), none⟩]))))))
(.seq (.region [⟨(some 42), .loadN 9 (.t 3), none⟩,
⟨none, .store 9 (.t 2) (.t 42), none⟩])
.ret))))⟩

/- riposte/riposteref25.IsLine -/
def ir27 : IFunc := ⟨[.tmp 2],
(.seq (.region [⟨(some 1), .box 9 (.t 0), none⟩,
⟨(some 2), .mv (.c (.bool false)), none⟩])
(.seq (.seq (.region [⟨(some 4), .faddr 0 (.t 1), none⟩,
⟨(some 5), .idxA 2 4 (.t 4) (.c (.int .i64 0)), none⟩,
⟨(some 6), .loadN 4 (.t 5), none⟩,
⟨(some 7), .call (.c (.func (.func 50) #[] #[])) [(.t 6)], none⟩,
⟨(some 8), .not (.t 7), none⟩,
⟨(some 9), .mv (.t 8), none⟩,
⟨(some 10), .faddr 0 (.t 1), (some (9, false))⟩,
⟨(some 11), .idxA 2 4 (.t 10) (.c (.int .i64 1)), (some (9, false))⟩,
⟨(some 12), .loadN 4 (.t 11), (some (9, false))⟩,
⟨(some 13), .call (.c (.func (.func 50) #[] #[])) [(.t 12)], (some (9, false))⟩,
⟨(some 14), .not (.t 13), (some (9, false))⟩,
⟨(some 15), .pick (.t 9) (.c (.bool true)) (.t 14), none⟩,
⟨(some 16), .mv (.t 15), none⟩,
⟨(some 17), .faddr 8 (.t 1), (some (16, false))⟩,
⟨(some 18), .load1 (.t 17), (some (16, false))⟩,
⟨(some 19), .len (.t 18), (some (16, false))⟩,
⟨(some 20), .bin .num .gtr (.t 19) (.c (.int .i64 60)), (some (16, false))⟩,
⟨(some 21), .pick (.t 16) (.c (.bool true)) (.t 20), none⟩])
(.cond (.t 21)
(.seq (.region [⟨(some 2), .mv (.c (.bool false)), none⟩])
.ret)
.skip))
(.seq (.seq (.region [⟨(some 3), .mv (.c (.int .i64 0)), none⟩])
(.block 0
(.loop
(.seq (.seq (.region [⟨(some 22), .mv (.t 3), none⟩,
⟨(some 23), .faddr 8 (.t 1), none⟩,
⟨(some 24), .load1 (.t 23), none⟩,
⟨(some 25), .len (.t 24), none⟩,
⟨(some 26), .bin .num .lss (.t 22) (.t 25), none⟩])
(.cond (.t 26)
.skip
(.exit 0)))
(.seq (.block 1
(.seq (.region [⟨(some 29), .faddr 8 (.t 1), none⟩,
⟨(some 30), .load1 (.t 29), none⟩,
⟨(some 31), .mv (.t 3), none⟩,
⟨(some 32), .idxS 2 (.t 30) (.t 31), none⟩,
⟨(some 33), .faddr 0 (.t 32), none⟩,
⟨(some 34), .load1 (.t 33), none⟩,
⟨(some 35), .call (.c (.func (.func 51) #[] #[])) [(.t 34), (.c (.int .i64 0)), (.c (.int .i64 1))], none⟩,
⟨(some 36), .not (.t 35), none⟩,
⟨(some 37), .mv (.t 36), none⟩,
⟨(some 38), .faddr 8 (.t 1), (some (37, false))⟩,
⟨(some 39), .load1 (.t 38), (some (37, false))⟩,
⟨(some 40), .mv (.t 3), (some (37, false))⟩,
⟨(some 41), .idxS 2 (.t 39) (.t 40), (some (37, false))⟩,
⟨(some 42), .faddr 1 (.t 41), (some (37, false))⟩,
⟨(some 43), .load1 (.t 42), (some (37, false))⟩,
⟨(some 44), .len (.t 43), (some (37, false))⟩,
⟨(some 45), .call (.c (.func (.func 51) #[] #[])) [(.t 44), (.c (.int .i64 1)), (.c (.int .i64 408))], (some (37, false))⟩,
⟨(some 46), .not (.t 45), (some (37, false))⟩,
⟨(some 47), .pick (.t 37) (.c (.bool true)) (.t 46), none⟩])
(.cond (.t 47)
(.seq (.region [⟨(some 2), .mv (.c (.bool false)), none⟩])
.ret)
.skip)))
(.region [⟨(some 27), .mv (.t 3), none⟩,
⟨(some 28), .bin .num .add (.t 27) (.c (.int .i64 1)), none⟩,
⟨(some 3), .mv (.t 28), none⟩]))))))
(.seq (.region [⟨(some 2), .mv (.c (.bool true)), none⟩])
.ret))))⟩

/- riposte/ripostelaw25.ThinEnd -/
def ir20 : IFunc := ⟨[.tmp 2],
(.seq (.region [⟨(some 1), .box 4 (.t 0), none⟩,
⟨(some 2), .mv (.c (.bool false)), none⟩])
(.seq (.seq (.region [⟨(some 5), .faddr 1 (.t 1), none⟩,
⟨(some 6), .load1 (.t 5), none⟩,
⟨(some 7), .len (.t 6), none⟩,
⟨(some 8), .bin .num .gtr (.t 7) (.c (.int .i64 12)), none⟩,
⟨(some 9), .mv (.t 8), none⟩,
⟨(some 10), .faddr 3 (.t 1), (some (9, false))⟩,
⟨(some 11), .load1 (.t 10), (some (9, false))⟩,
⟨(some 12), .len (.t 11), (some (9, false))⟩,
⟨(some 13), .bin .num .gtr (.t 12) (.c (.int .i64 12)), (some (9, false))⟩,
⟨(some 14), .pick (.t 9) (.c (.bool true)) (.t 13), none⟩])
(.cond (.t 14)
(.seq (.region [⟨(some 2), .mv (.c (.bool false)), none⟩])
.ret)
.skip))
(.seq (.seq (.region [⟨(some 3), .mv (.c (.int .i64 0)), none⟩])
(.block 0
(.loop
(.seq (.seq (.region [⟨(some 15), .mv (.t 3), none⟩,
⟨(some 16), .faddr 1 (.t 1), none⟩,
⟨(some 17), .load1 (.t 16), none⟩,
⟨(some 18), .len (.t 17), none⟩,
⟨(some 19), .bin .num .lss (.t 15) (.t 18), none⟩])
(.cond (.t 19)
.skip
(.exit 0)))
(.seq (.block 1
(.seq (.region [⟨(some 22), .faddr 1 (.t 1), none⟩,
⟨(some 23), .load1 (.t 22), none⟩,
⟨(some 24), .mv (.t 3), none⟩,
⟨(some 25), .idxS 2 (.t 23) (.t 24), none⟩,
⟨(some 26), .faddr 1 (.t 25), none⟩,
⟨(some 27), .load1 (.t 26), none⟩,
⟨(some 28), .len (.t 27), none⟩,
⟨(some 29), .bin .num .gtr (.t 28) (.c (.int .i64 500)), none⟩])
(.cond (.t 29)
(.seq (.region [⟨(some 2), .mv (.c (.bool false)), none⟩])
.ret)
.skip)))
(.region [⟨(some 20), .mv (.t 3), none⟩,
⟨(some 21), .bin .num .add (.t 20) (.c (.int .i64 1)), none⟩,
⟨(some 3), .mv (.t 21), none⟩]))))))
(.seq (.seq (.region [⟨(some 4), .mv (.c (.int .i64 0)), none⟩])
(.block 2
(.loop
(.seq (.seq (.region [⟨(some 30), .mv (.t 4), none⟩,
⟨(some 31), .faddr 3 (.t 1), none⟩,
⟨(some 32), .load1 (.t 31), none⟩,
⟨(some 33), .len (.t 32), none⟩,
⟨(some 34), .bin .num .lss (.t 30) (.t 33), none⟩])
(.cond (.t 34)
.skip
(.exit 2)))
(.seq (.block 3
(.seq (.region [⟨(some 37), .faddr 3 (.t 1), none⟩,
⟨(some 38), .load1 (.t 37), none⟩,
⟨(some 39), .mv (.t 4), none⟩,
⟨(some 40), .idxS 2 (.t 38) (.t 39), none⟩,
⟨(some 41), .faddr 1 (.t 40), none⟩,
⟨(some 42), .load1 (.t 41), none⟩,
⟨(some 43), .len (.t 42), none⟩,
⟨(some 44), .bin .num .gtr (.t 43) (.c (.int .i64 500)), none⟩])
(.cond (.t 44)
(.seq (.region [⟨(some 2), .mv (.c (.bool false)), none⟩])
.ret)
.skip)))
(.region [⟨(some 35), .mv (.t 4), none⟩,
⟨(some 36), .bin .num .add (.t 35) (.c (.int .i64 1)), none⟩,
⟨(some 4), .mv (.t 36), none⟩]))))))
(.seq (.region [⟨(some 2), .mv (.c (.bool true)), none⟩])
.ret)))))⟩

/- riposte/riposteref25.CopyItems -/
def ir49 : IFunc := ⟨[.tmp 2],
(.seq (.region [⟨(some 2), .mv (.c (.slice none 0 0)), none⟩])
(.seq (.region [⟨(some 3), .mv (.c (.slice none 0 0)), none⟩])
(.seq (.seq (.region [⟨(some 4), .mv (.c (.int .i64 0)), none⟩])
(.block 0
(.loop
(.seq (.seq (.region [⟨(some 5), .mv (.t 4), none⟩,
⟨(some 6), .mv (.t 0), none⟩,
⟨(some 7), .len (.t 6), none⟩,
⟨(some 8), .bin .num .lss (.t 5) (.t 7), none⟩])
(.cond (.t 8)
.skip
(.exit 0)))
(.seq (.block 1
(.dregion [(0, ⟨(some 11), .mv (.t 3), none⟩, []),
(1, ⟨(some 12), .mv (.t 0), none⟩, []),
(2, ⟨(some 13), .mv (.t 4), none⟩, []),
(3, ⟨(some 14), .idxS 2 (.t 12) (.t 13), none⟩, []),
(4, ⟨(some 15), .faddr 0 (.t 14), none⟩, []),
(5, ⟨(some 16), .load1 (.t 15), none⟩, []),
(6, ⟨(some 17), .buildSlice 0 [] [], none⟩, [0]),
(7, ⟨(some 18), .mv (.t 0), none⟩, []),
(8, ⟨(some 19), .mv (.t 4), none⟩, []),
(9, ⟨(some 20), .idxS 2 (.t 18) (.t 19), none⟩, []),
(10, ⟨(some 21), .faddr 1 (.t 20), none⟩, []),
(11, ⟨(some 22), .load1 (.t 21), none⟩, [4, 5]),
(12, ⟨(some 23), .append 1 1 (.t 17) (.t 22), none⟩, [6]),
(13, ⟨(some 24), .build [(.int .i64 0), (.slice none 0 0)] [(0, 1, (.t 16)), (1, 1, (.t 23))], none⟩, []),
(14, ⟨(some 25), .buildSlice 1 [(.int .i64 0), (.slice none 0 0)] [(0, 2, (.t 24))], none⟩, []),
(15, ⟨(some 26), .append 2 32 (.t 11) (.t 25), none⟩, []),
(16, ⟨(some 3), .mv (.t 26), none⟩, [])]))
(.region [⟨(some 9), .mv (.t 4), none⟩,
⟨(some 10), .bin .num .add (.t 9) (.c (.int .i64 1)), none⟩,
⟨(some 4), .mv (.t 10), none⟩]))))))
(.seq (.region [⟨(some 27), .mv (.t 3), none⟩,
⟨(some 2), .mv (.t 27), none⟩])
.ret))))⟩

/- riposte/wire.openLine -/
def ir23 : IFunc := ⟨[.tmp 2, .tmp 3],
(.seq (.region [⟨(some 1), .box 9 (.t 0), none⟩,
⟨(some 2), .mv (.c (.pointer none)), none⟩,
⟨(some 3), .mv (.c (.int .i64 0)), none⟩])
(.seq (.seq (.region [⟨(some 4), .faddr 8 (.t 1), none⟩,
⟨(some 5), .load1 (.t 4), none⟩,
⟨(some 6), .len (.t 5), none⟩,
⟨(some 7), .bin .num .gtr (.t 6) (.c (.int .i64 60)), none⟩,
⟨(some 8), .mv (.t 7), none⟩,
⟨(some 9), .faddr 0 (.t 1), (some (8, false))⟩,
⟨(some 10), .sliceA 2 4 (.t 9) none none none, (some (8, false))⟩,
⟨(some 11), .call (.c (.func (.func 40) #[] #[])) [(.t 10), (.c (.func (.func 41) #[] #[]))], (some (8, false))⟩,
⟨(some 12), .not (.t 11), (some (8, false))⟩,
⟨(some 13), .pick (.t 8) (.c (.bool true)) (.t 12), none⟩,
⟨(some 14), .mv (.t 13), none⟩,
⟨(some 15), .faddr 8 (.t 1), (some (14, false))⟩,
⟨(some 16), .load1 (.t 15), (some (14, false))⟩,
⟨(some 17), .call (.c (.func (.func 42) #[] #[])) [(.t 16), (.c (.func (.func 43) #[] #[]))], (some (14, false))⟩,
⟨(some 18), .not (.t 17), (some (14, false))⟩,
⟨(some 19), .pick (.t 14) (.c (.bool true)) (.t 18), none⟩])
(.cond (.t 19)
(.seq (.region [⟨(some 2), .mv (.c (.pointer none)), none⟩,
⟨(some 3), .mv (.c (.int .i64 4)), none⟩])
.ret)
.skip))
(.seq (.dregion [(0, ⟨(some 20), .faddr 0 (.t 1), none⟩, []),
(1, ⟨(some 21), .idxA 2 4 (.t 20) (.c (.int .i64 0)), none⟩, []),
(2, ⟨(some 22), .loadN 4 (.t 21), none⟩, []),
(3, ⟨(some 23), .call (.c (.func (.func 44) #[] #[])) [(.t 22)], none⟩, []),
(4, ⟨(some 24), .faddr 0 (.t 1), none⟩, []),
(5, ⟨(some 25), .idxA 2 4 (.t 24) (.c (.int .i64 1)), none⟩, []),
(6, ⟨(some 26), .loadN 4 (.t 25), none⟩, [2, 3]),
(7, ⟨(some 27), .call (.c (.func (.func 44) #[] #[])) [(.t 26)], none⟩, []),
(9, ⟨(some 29), .faddr 8 (.t 1), none⟩, []),
(10, ⟨(some 30), .load1 (.t 29), none⟩, [1, 2, 5, 6]),
(11, ⟨(some 31), .call (.c (.func (.func 45) #[] #[])) [(.t 30), (.c (.func (.func 46) #[] #[]))], none⟩, []),
(8, ⟨(some 28), .build [(.pointer none), (.pointer none)] [(0, 1, (.t 23)), (1, 1, (.t 27))], none⟩, []),
(12, ⟨(some 32), .build [(.pointer none), (.pointer none), (.slice none 0 0), (.slice none 0 0), (.slice none 0 0)] [(0, 2, (.t 28)), (2, 1, (.t 31))], none⟩, []),
(13, ⟨(some 33), .box 5 (.t 32), none⟩, []),
(14, ⟨(some 2), .mv (.t 33), none⟩, []),
(15, ⟨(some 3), .mv (.c (.int .i64 0)), none⟩, [])])
.ret)))⟩

/- riposte/wire.isRight -/
def ir41 : IFunc := ⟨[.tmp 2],
(.seq (.region [⟨(some 1), .box 4 (.t 0), none⟩,
⟨(some 2), .mv (.c (.bool false)), none⟩])
(.seq (.region [⟨(some 3), .mv (.c (.func (.func 66) #[] #[])), none⟩])
(.seq (.seq (.region [⟨(some 10), .faddr 0 (.t 1), none⟩,
⟨(some 11), .load1 (.t 10), none⟩,
⟨(some 12), .call (.c (.func (.func 60) #[] #[])) [(.t 11)], none⟩,
⟨(some 13), .not (.t 12), none⟩,
⟨(some 14), .mv (.t 13), none⟩,
⟨(some 15), .faddr 2 (.t 1), (some (14, false))⟩,
⟨(some 16), .load1 (.t 15), (some (14, false))⟩,
⟨(some 17), .call (.c (.func (.func 60) #[] #[])) [(.t 16)], (some (14, false))⟩,
⟨(some 18), .not (.t 17), (some (14, false))⟩,
⟨(some 19), .pick (.t 14) (.c (.bool true)) (.t 18), none⟩,
⟨(some 20), .mv (.t 19), none⟩,
⟨(some 21), .faddr 1 (.t 1), (some (20, false))⟩,
⟨(some 22), .load1 (.t 21), (some (20, false))⟩,
⟨(some 23), .len (.t 22), (some (20, false))⟩,
⟨(some 24), .bin .num .gtr (.t 23) (.c (.int .i64 8)), (some (20, false))⟩,
⟨(some 25), .pick (.t 20) (.c (.bool true)) (.t 24), none⟩,
⟨(some 26), .mv (.t 25), none⟩,
⟨(some 27), .faddr 3 (.t 1), (some (26, false))⟩,
⟨(some 28), .load1 (.t 27), (some (26, false))⟩,
⟨(some 29), .len (.t 28), (some (26, false))⟩,
⟨(some 30), .bin .num .gtr (.t 29) (.c (.int .i64 8)), (some (26, false))⟩,
⟨(some 31), .pick (.t 26) (.c (.bool true)) (.t 30), none⟩,
⟨(some 32), .mv (.t 31), none⟩,
⟨(some 33), .faddr 1 (.t 1), (some (32, false))⟩,
⟨(some 34), .load1 (.t 33), (some (32, false))⟩,
⟨(some 35), .mv (.t 3), (some (32, false))⟩,
⟨(some 36), .call (.c (.func (.func 67) #[] #[])) [(.t 34), (.t 35)], (some (32, false))⟩,
⟨(some 37), .not (.t 36), (some (32, false))⟩,
⟨(some 38), .pick (.t 32) (.c (.bool true)) (.t 37), none⟩,
⟨(some 39), .mv (.t 38), none⟩,
⟨(some 40), .faddr 3 (.t 1), (some (39, false))⟩,
⟨(some 41), .load1 (.t 40), (some (39, false))⟩,
⟨(some 42), .mv (.t 3), (some (39, false))⟩,
⟨(some 43), .call (.c (.func (.func 67) #[] #[])) [(.t 41), (.t 42)], (some (39, false))⟩,
⟨(some 44), .not (.t 43), (some (39, false))⟩,
⟨(some 45), .pick (.t 39) (.c (.bool true)) (.t 44), none⟩])
(.cond (.t 45)
(.seq (.region [⟨(some 2), .mv (.c (.bool false)), none⟩])
.ret)
.skip))
(.seq (.region [⟨(some 46), .faddr 0 (.t 1), none⟩,
⟨(some 47), .load1 (.t 46), none⟩,
⟨(some 48), .faddr 1 (.t 1), none⟩,
⟨(some 49), .load1 (.t 48), none⟩,
⟨(some 50), .len (.t 49), none⟩,
⟨(some 51), .bin .num .sub (.t 47) (.t 50), none⟩,
⟨(some 52), .bin .num .add (.t 51) (.c (.int .i64 1)), none⟩,
⟨(some 4), .mv (.t 52), none⟩])
(.seq (.seq (.region [⟨(some 53), .faddr 1 (.t 1), none⟩,
⟨(some 54), .load1 (.t 53), none⟩,
⟨(some 55), .len (.t 54), none⟩,
⟨(some 56), .mv (.c (.int .i64 0)), none⟩])
(.block 0
(.loop
(.seq (.region [⟨(some 57), .bin .num .lss (.t 56) (.t 55), none⟩])
(.seq (.cond (.t 57)
.skip
(.exit 0))
(.seq (.block 1
(.seq (.region [⟨(some 58), .mv (.t 56), none⟩,
⟨(some 59), .idxS 2 (.t 54) (.t 56), none⟩,
⟨(some 60), .loadN 2 (.t 59), none⟩,
⟨(some 6), .mk [(.int .i64 0), (.slice none 0 0)], none⟩,
⟨(some 5), .mv (.t 58), none⟩,
⟨none, .store 2 (.t 6) (.t 60), none⟩])
(.seq (.region [⟨(some 61), .faddr 0 (.t 6), none⟩,
⟨(some 62), .load1 (.t 61), none⟩,
⟨(some 63), .mv (.t 4), none⟩,
⟨(some 64), .mv (.t 5), none⟩,
⟨(some 65), .bin .num .add (.t 63) (.t 64), none⟩,
⟨(some 66), .bin .num .neq (.t 62) (.t 65), none⟩,
⟨(some 67), .mv (.t 66), none⟩,
⟨(some 68), .faddr 0 (.t 6), (some (67, false))⟩,
⟨(some 69), .load1 (.t 68), (some (67, false))⟩,
⟨(some 70), .bin .num .lss (.t 69) (.c (.int .i64 1)), (some (67, false))⟩,
⟨(some 71), .pick (.t 67) (.c (.bool true)) (.t 70), none⟩])
(.cond (.t 71)
(.seq (.region [⟨(some 2), .mv (.c (.bool false)), none⟩])
.ret)
.skip))))
(.region [⟨(some 72), .bin .num .add (.t 56) (.c (.int .i64 1)), none⟩,
⟨(some 56), .mv (.t 72), none⟩])))))))
(.seq (.region [⟨(some 73), .faddr 2 (.t 1), none⟩,
⟨(some 74), .load1 (.t 73), none⟩,
⟨(some 75), .bin .num .add (.t 74) (.c (.int .i64 2)), none⟩,
⟨(some 7), .mv (.t 75), none⟩])
(.seq (.seq (.region [⟨(some 76), .faddr 3 (.t 1), none⟩,
⟨(some 77), .load1 (.t 76), none⟩,
⟨(some 78), .len (.t 77), none⟩,
⟨(some 79), .mv (.c (.int .i64 0)), none⟩])
(.block 2
(.loop
(.seq (.region [⟨(some 80), .bin .num .lss (.t 79) (.t 78), none⟩])
(.seq (.cond (.t 80)
.skip
(.exit 2))
(.seq (.block 3
(.seq (.region [⟨(some 81), .idxS 2 (.t 77) (.t 79), none⟩,
⟨(some 82), .loadN 2 (.t 81), none⟩,
⟨(some 9), .mk [(.int .i64 0), (.slice none 0 0)], none⟩,
⟨none, .store 2 (.t 9) (.t 82), none⟩])
(.seq (.seq (.region [⟨(some 83), .faddr 0 (.t 9), none⟩,
⟨(some 84), .load1 (.t 83), none⟩,
⟨(some 85), .mv (.t 7), none⟩,
⟨(some 86), .faddr 2 (.t 1), none⟩,
⟨(some 87), .load1 (.t 86), none⟩,
⟨(some 88), .bin .num .add (.t 87) (.c (.int .i64 8)), none⟩,
⟨(some 89), .minI (.t 88) (.c (.int .i64 60000)), none⟩,
⟨(some 90), .call (.c (.func (.func 68) #[] #[])) [(.t 84), (.t 85), (.t 89)], none⟩,
⟨(some 91), .not (.t 90), none⟩])
(.cond (.t 91)
(.seq (.region [⟨(some 2), .mv (.c (.bool false)), none⟩])
.ret)
.skip))
(.region [⟨(some 92), .faddr 0 (.t 9), none⟩,
⟨(some 93), .load1 (.t 92), none⟩,
⟨(some 94), .bin .num .add (.t 93) (.c (.int .i64 1)), none⟩,
⟨(some 7), .mv (.t 94), none⟩]))))
(.region [⟨(some 95), .bin .num .add (.t 79) (.c (.int .i64 1)), none⟩,
⟨(some 79), .mv (.t 95), none⟩])))))))
(.seq (.region [⟨(some 2), .mv (.c (.bool true)), none⟩])
.ret))))))))⟩

/- riposte/wire.newEnd -/
def ir44 : IFunc := ⟨[.tmp 2],
(.seq (.region [⟨(some 1), .box 4 (.t 0), none⟩,
⟨(some 2), .mv (.c (.pointer none)), none⟩])
(.seq (.dregion [(0, ⟨(some 3), .faddr 1 (.t 1), none⟩, []),
(1, ⟨(some 4), .load1 (.t 3), none⟩, []),
(2, ⟨(some 5), .call (.c (.func (.func 71) #[] #[])) [(.t 4), (.c (.func (.func 72) #[] #[]))], none⟩, []),
(3, ⟨(some 6), .faddr 3 (.t 1), none⟩, []),
(4, ⟨(some 7), .load1 (.t 6), none⟩, [1, 2]),
(5, ⟨(some 8), .call (.c (.func (.func 71) #[] #[])) [(.t 7), (.c (.func (.func 72) #[] #[]))], none⟩, []),
(6, ⟨(some 9), .faddr 1 (.t 1), none⟩, []),
(7, ⟨none, .store 1 (.t 9) (.t 5), none⟩, []),
(8, ⟨(some 10), .faddr 3 (.t 1), none⟩, []),
(9, ⟨none, .store 1 (.t 10) (.t 8), none⟩, [])])
(.seq (.region [⟨(some 11), .loadN 4 (.t 1), none⟩,
⟨(some 12), .build [(.int .i64 0), (.slice none 0 0), (.int .i64 0), (.slice none 0 0)] [(0, 4, (.t 11))], none⟩,
⟨(some 13), .box 4 (.t 12), none⟩,
⟨(some 2), .mv (.t 13), none⟩])
.ret)))⟩

/- riposte/wire.all[riposte/api.WireEnd] -/
def ir40 : IFunc := ⟨[.tmp 4],
(.seq (.region [⟨(some 3), .box 1 (.t 1), none⟩,
⟨(some 4), .mv (.c (.bool false)), none⟩])
(.seq (.region [⟨(some 5), .mv (.t 0), none⟩,
⟨(some 6), .mkfn (.func 65) [] [(.t 3)], none⟩,
⟨(some 7), .call (.c (.func (.func 64) #[] #[])) [(.t 5), (.t 6)], none⟩,
⟨(some 8), .not (.t 7), none⟩,
⟨(some 4), .mv (.t 8), none⟩])
.ret))⟩

/- riposte/wire.all[riposte/api.WireFlight] -/
def ir42 : IFunc := ⟨[.tmp 4],
(.seq (.region [⟨(some 3), .box 1 (.t 1), none⟩,
⟨(some 4), .mv (.c (.bool false)), none⟩])
(.seq (.region [⟨(some 5), .mv (.t 0), none⟩,
⟨(some 6), .mkfn (.func 70) [] [(.t 3)], none⟩,
⟨(some 7), .call (.c (.func (.func 69) #[] #[])) [(.t 5), (.t 6)], none⟩,
⟨(some 8), .not (.t 7), none⟩,
⟨(some 4), .mv (.t 8), none⟩])
.ret))⟩

/- riposte/wire.isFlight -/
def ir43 : IFunc := ⟨[.tmp 2],
(.seq (.region [⟨(some 1), .box 2 (.t 0), none⟩,
⟨(some 2), .mv (.c (.bool false)), none⟩])
(.seq (.region [⟨(some 3), .faddr 0 (.t 1), none⟩,
⟨(some 4), .load1 (.t 3), none⟩,
⟨(some 5), .call (.c (.func (.func 68) #[] #[])) [(.t 4), (.c (.int .i64 0)), (.c (.int .i64 1))], none⟩,
⟨(some 6), .mv (.t 5), none⟩,
⟨(some 7), .faddr 1 (.t 1), (some (6, true))⟩,
⟨(some 8), .load1 (.t 7), (some (6, true))⟩,
⟨(some 9), .len (.t 8), (some (6, true))⟩,
⟨(some 10), .call (.c (.func (.func 68) #[] #[])) [(.t 9), (.c (.int .i64 1)), (.c (.int .i64 408))], (some (6, true))⟩,
⟨(some 11), .pick (.t 6) (.t 10) (.c (.bool false)), none⟩,
⟨(some 2), .mv (.t 11), none⟩])
.ret))⟩

/- riposte/wire.mapped[riposte/api.WireFlight,riposte/api.WireFlight] -/
def ir45 : IFunc := ⟨[.tmp 4],
(.seq (.region [⟨(some 4), .mv (.c (.slice none 0 0)), none⟩])
(.seq (.seq (.region [⟨(some 7), .mv (.t 0), none⟩,
⟨(some 8), .len (.t 7), none⟩,
⟨(some 9), .mv (.c (.int .i64 0)), none⟩])
(.block 0
(.loop
(.seq (.region [⟨(some 10), .bin .num .lss (.t 9) (.t 8), none⟩])
(.seq (.cond (.t 10)
.skip
(.exit 0))
(.seq (.block 1
(.seq (.region [⟨(some 11), .idxS 2 (.t 7) (.t 9), none⟩,
⟨(some 12), .loadN 2 (.t 11), none⟩,
⟨(some 6), .mk [(.int .i64 0), (.slice none 0 0)], none⟩,
⟨none, .store 2 (.t 6) (.t 12), none⟩])
(.region [⟨(some 13), .mv (.t 4), none⟩,
⟨(some 14), .mv (.t 1), none⟩,
⟨(some 15), .loadN 2 (.t 6), none⟩,
⟨(some 16), .call (.t 14) [(.t 15)], none⟩,
⟨(some 17), .buildSlice 1 [(.int .i64 0), (.slice none 0 0)] [(0, 2, (.t 16))], none⟩,
⟨(some 18), .append 2 32 (.t 13) (.t 17), none⟩,
⟨(some 4), .mv (.t 18), none⟩])))
(.region [⟨(some 19), .bin .num .add (.t 9) (.c (.int .i64 1)), none⟩,
⟨(some 9), .mv (.t 19), none⟩])))))))
(.seq (.region [⟨(some 20), .mv (.t 4), none⟩,
⟨(some 4), .mv (.t 20), none⟩])
.ret)))⟩

/- riposte/wire.copyFlight -/
def ir46 : IFunc := ⟨[.cellN 2 2],
(.seq (.region [⟨(some 1), .box 2 (.t 0), none⟩,
⟨(some 2), .mk [(.int .i64 0), (.slice none 0 0)], none⟩])
(.seq (.region [⟨(some 3), .faddr 1 (.t 1), none⟩,
⟨(some 4), .load1 (.t 3), none⟩,
⟨(some 5), .call (.c (.func (.func 73) #[] #[])) [(.t 4)], none⟩,
⟨(some 6), .faddr 1 (.t 1), none⟩,
⟨none, .store 1 (.t 6) (.t 5), none⟩])
(.seq (.region [⟨(some 7), .loadN 2 (.t 1), none⟩,
⟨none, .store 2 (.t 2) (.t 7), none⟩])
.ret)))⟩

/- riposte/wire.isRight$1 -/
def ir66 : IFunc := ⟨[.tmp 2],
(.seq (.region [⟨(some 1), .box 2 (.t 0), none⟩,
⟨(some 2), .mv (.c (.bool false)), none⟩])
(.seq (.region [⟨(some 3), .faddr 1 (.t 1), none⟩,
⟨(some 4), .load1 (.t 3), none⟩,
⟨(some 5), .call (.c (.func (.func 61) #[] #[])) [(.t 4)], none⟩,
⟨(some 2), .mv (.t 5), none⟩])
.ret))⟩

/- riposte/wire.all[riposte/api.WireItem] -/
def ir67 : IFunc := ⟨[.tmp 4],
(.seq (.region [⟨(some 3), .box 1 (.t 1), none⟩,
⟨(some 4), .mv (.c (.bool false)), none⟩])
(.seq (.region [⟨(some 5), .mv (.t 0), none⟩,
⟨(some 6), .mkfn (.func 90) [] [(.t 3)], none⟩,
⟨(some 7), .call (.c (.func (.func 89) #[] #[])) [(.t 5), (.t 6)], none⟩,
⟨(some 8), .not (.t 7), none⟩,
⟨(some 4), .mv (.t 8), none⟩])
.ret))⟩

/- riposte/wire.mapped[riposte/api.WireItem,riposte/api.WireItem] -/
def ir71 : IFunc := ⟨[.tmp 4],
(.seq (.region [⟨(some 4), .mv (.c (.slice none 0 0)), none⟩])
(.seq (.seq (.region [⟨(some 7), .mv (.t 0), none⟩,
⟨(some 8), .len (.t 7), none⟩,
⟨(some 9), .mv (.c (.int .i64 0)), none⟩])
(.block 0
(.loop
(.seq (.region [⟨(some 10), .bin .num .lss (.t 9) (.t 8), none⟩])
(.seq (.cond (.t 10)
.skip
(.exit 0))
(.seq (.block 1
(.seq (.region [⟨(some 11), .idxS 2 (.t 7) (.t 9), none⟩,
⟨(some 12), .loadN 2 (.t 11), none⟩,
⟨(some 6), .mk [(.int .i64 0), (.slice none 0 0)], none⟩,
⟨none, .store 2 (.t 6) (.t 12), none⟩])
(.region [⟨(some 13), .mv (.t 4), none⟩,
⟨(some 14), .mv (.t 1), none⟩,
⟨(some 15), .loadN 2 (.t 6), none⟩,
⟨(some 16), .call (.t 14) [(.t 15)], none⟩,
⟨(some 17), .buildSlice 1 [(.int .i64 0), (.slice none 0 0)] [(0, 2, (.t 16))], none⟩,
⟨(some 18), .append 2 32 (.t 13) (.t 17), none⟩,
⟨(some 4), .mv (.t 18), none⟩])))
(.region [⟨(some 19), .bin .num .add (.t 9) (.c (.int .i64 1)), none⟩,
⟨(some 9), .mv (.t 19), none⟩])))))))
(.seq (.region [⟨(some 20), .mv (.t 4), none⟩,
⟨(some 4), .mv (.t 20), none⟩])
.ret)))⟩

/- riposte/wire.copyItem -/
def ir72 : IFunc := ⟨[.cellN 2 2],
(.seq (.region [⟨(some 1), .box 2 (.t 0), none⟩,
⟨(some 2), .mk [(.int .i64 0), (.slice none 0 0)], none⟩])
(.seq (.region [⟨(some 3), .faddr 1 (.t 1), none⟩,
⟨(some 4), .load1 (.t 3), none⟩,
⟨(some 5), .call (.c (.func (.func 73) #[] #[])) [(.t 4)], none⟩,
⟨(some 6), .faddr 1 (.t 1), none⟩,
⟨none, .store 1 (.t 6) (.t 5), none⟩])
(.seq (.region [⟨(some 7), .loadN 2 (.t 1), none⟩,
⟨none, .store 2 (.t 2) (.t 7), none⟩])
.ret)))⟩

/- slices.ContainsFunc[[]riposte/api.WireEnd,riposte/api.WireEnd] -/
def ir64 : IFunc := ⟨[.tmp 4],
(.seq (.region [⟨(some 4), .mv (.c (.bool false)), none⟩])
(.seq (.region [⟨(some 5), .mv (.t 0), none⟩,
⟨(some 6), .mv (.t 1), none⟩,
⟨(some 7), .call (.c (.func (.func 88) #[] #[])) [(.t 5), (.t 6)], none⟩,
⟨(some 8), .bin .num .geq (.t 7) (.c (.int .i64 0)), none⟩,
⟨(some 4), .mv (.t 8), none⟩])
.ret))⟩

/- riposte/wire.all[riposte/api.WireEnd]$1 -/
def ir65 : IFunc := ⟨[.tmp 3],
(.seq (.region [⟨(some 2), .box 4 (.t 0), none⟩,
⟨(some 3), .mv (.c (.bool false)), none⟩])
(.seq (.region [⟨(some 4), .load1 (.t 1), none⟩,
⟨(some 5), .loadN 4 (.t 2), none⟩,
⟨(some 6), .call (.t 4) [(.t 5)], none⟩,
⟨(some 7), .not (.t 6), none⟩,
⟨(some 3), .mv (.t 7), none⟩])
.ret))⟩

/- slices.ContainsFunc[[]riposte/api.WireFlight,riposte/api.WireFlight] -/
def ir69 : IFunc := ⟨[.tmp 4],
(.seq (.region [⟨(some 4), .mv (.c (.bool false)), none⟩])
(.seq (.region [⟨(some 5), .mv (.t 0), none⟩,
⟨(some 6), .mv (.t 1), none⟩,
⟨(some 7), .call (.c (.func (.func 91) #[] #[])) [(.t 5), (.t 6)], none⟩,
⟨(some 8), .bin .num .geq (.t 7) (.c (.int .i64 0)), none⟩,
⟨(some 4), .mv (.t 8), none⟩])
.ret))⟩

/- riposte/wire.all[riposte/api.WireFlight]$1 -/
def ir70 : IFunc := ⟨[.tmp 3],
(.seq (.region [⟨(some 2), .box 2 (.t 0), none⟩,
⟨(some 3), .mv (.c (.bool false)), none⟩])
(.seq (.region [⟨(some 4), .load1 (.t 1), none⟩,
⟨(some 5), .loadN 2 (.t 2), none⟩,
⟨(some 6), .call (.t 4) [(.t 5)], none⟩,
⟨(some 7), .not (.t 6), none⟩,
⟨(some 3), .mv (.t 7), none⟩])
.ret))⟩

/- slices.IndexFunc[[]riposte/api.WireItem,riposte/api.WireItem] -/
def ir102 : IFunc := ⟨[.tmp 4],
(.seq (.region [⟨(some 4), .mv (.c (.int .i64 0)), none⟩])
(.seq (.seq (.region [⟨(some 6), .mv (.t 0), none⟩,
⟨(some 7), .len (.t 6), none⟩,
⟨(some 8), .mv (.c (.int .i64 0)), none⟩])
(.block 0
(.loop
(.seq (.region [⟨(some 9), .bin .num .lss (.t 8) (.t 7), none⟩])
(.seq (.cond (.t 9)
.skip
(.exit 0))
(.seq (.block 1
(.seq (.region [⟨(some 10), .mv (.t 8), none⟩,
⟨(some 5), .mv (.t 10), none⟩])
(.seq (.region [⟨(some 11), .mv (.t 1), none⟩,
⟨(some 12), .mv (.t 0), none⟩,
⟨(some 13), .mv (.t 5), none⟩,
⟨(some 14), .idxS 2 (.t 12) (.t 13), none⟩,
⟨(some 15), .loadN 2 (.t 14), none⟩,
⟨(some 16), .call (.t 11) [(.t 15)], none⟩])
(.cond (.t 16)
(.seq (.region [⟨(some 17), .mv (.t 5), none⟩,
⟨(some 4), .mv (.t 17), none⟩])
.ret)
.skip))))
(.region [⟨(some 18), .bin .num .add (.t 8) (.c (.int .i64 1)), none⟩,
⟨(some 8), .mv (.t 18), none⟩])))))))
(.seq (.region [⟨(some 4), .mv (.c (.int .i64 (-1))), none⟩])
.ret)))⟩

/- slices.ContainsFunc[[]riposte/api.WireItem,riposte/api.WireItem] -/
def ir89 : IFunc := ⟨[.tmp 4],
(.seq (.region [⟨(some 4), .mv (.c (.bool false)), none⟩])
(.seq (.region [⟨(some 5), .mv (.t 0), none⟩,
⟨(some 6), .mv (.t 1), none⟩,
⟨(some 7), .call (.c (.func (.func 102) #[] #[])) [(.t 5), (.t 6)], none⟩,
⟨(some 8), .bin .num .geq (.t 7) (.c (.int .i64 0)), none⟩,
⟨(some 4), .mv (.t 8), none⟩])
.ret))⟩

/- riposte/wire.all[riposte/api.WireItem]$1 -/
def ir90 : IFunc := ⟨[.tmp 3],
(.seq (.region [⟨(some 2), .box 2 (.t 0), none⟩,
⟨(some 3), .mv (.c (.bool false)), none⟩])
(.seq (.region [⟨(some 4), .load1 (.t 1), none⟩,
⟨(some 5), .loadN 2 (.t 2), none⟩,
⟨(some 6), .call (.t 4) [(.t 5)], none⟩,
⟨(some 7), .not (.t 6), none⟩,
⟨(some 3), .mv (.t 7), none⟩])
.ret))⟩

/- slices.IndexFunc[[]riposte/api.WireEnd,riposte/api.WireEnd] -/
def ir88 : IFunc := ⟨[.tmp 4],
(.seq (.region [⟨(some 4), .mv (.c (.int .i64 0)), none⟩])
(.seq (.seq (.region [⟨(some 6), .mv (.t 0), none⟩,
⟨(some 7), .len (.t 6), none⟩,
⟨(some 8), .mv (.c (.int .i64 0)), none⟩])
(.block 0
(.loop
(.seq (.region [⟨(some 9), .bin .num .lss (.t 8) (.t 7), none⟩])
(.seq (.cond (.t 9)
.skip
(.exit 0))
(.seq (.block 1
(.seq (.region [⟨(some 10), .mv (.t 8), none⟩,
⟨(some 5), .mv (.t 10), none⟩])
(.seq (.region [⟨(some 11), .mv (.t 1), none⟩,
⟨(some 12), .mv (.t 0), none⟩,
⟨(some 13), .mv (.t 5), none⟩,
⟨(some 14), .idxS 4 (.t 12) (.t 13), none⟩,
⟨(some 15), .loadN 4 (.t 14), none⟩,
⟨(some 16), .call (.t 11) [(.t 15)], none⟩])
(.cond (.t 16)
(.seq (.region [⟨(some 17), .mv (.t 5), none⟩,
⟨(some 4), .mv (.t 17), none⟩])
.ret)
.skip))))
(.region [⟨(some 18), .bin .num .add (.t 8) (.c (.int .i64 1)), none⟩,
⟨(some 8), .mv (.t 18), none⟩])))))))
(.seq (.region [⟨(some 4), .mv (.c (.int .i64 (-1))), none⟩])
.ret)))⟩

/- slices.IndexFunc[[]riposte/api.WireFlight,riposte/api.WireFlight] -/
def ir91 : IFunc := ⟨[.tmp 4],
(.seq (.region [⟨(some 4), .mv (.c (.int .i64 0)), none⟩])
(.seq (.seq (.region [⟨(some 6), .mv (.t 0), none⟩,
⟨(some 7), .len (.t 6), none⟩,
⟨(some 8), .mv (.c (.int .i64 0)), none⟩])
(.block 0
(.loop
(.seq (.region [⟨(some 9), .bin .num .lss (.t 8) (.t 7), none⟩])
(.seq (.cond (.t 9)
.skip
(.exit 0))
(.seq (.block 1
(.seq (.region [⟨(some 10), .mv (.t 8), none⟩,
⟨(some 5), .mv (.t 10), none⟩])
(.seq (.region [⟨(some 11), .mv (.t 1), none⟩,
⟨(some 12), .mv (.t 0), none⟩,
⟨(some 13), .mv (.t 5), none⟩,
⟨(some 14), .idxS 2 (.t 12) (.t 13), none⟩,
⟨(some 15), .loadN 2 (.t 14), none⟩,
⟨(some 16), .call (.t 11) [(.t 15)], none⟩])
(.cond (.t 16)
(.seq (.region [⟨(some 17), .mv (.t 5), none⟩,
⟨(some 4), .mv (.t 17), none⟩])
.ret)
.skip))))
(.region [⟨(some 18), .bin .num .add (.t 8) (.c (.int .i64 1)), none⟩,
⟨(some 8), .mv (.t 18), none⟩])))))))
(.seq (.region [⟨(some 4), .mv (.c (.int .i64 (-1))), none⟩])
.ret)))⟩

theorem get6 (w : World) : (ctxW w).funcs.get 6 = some ir6 := by kernel_rfl
theorem get26 (w : World) : (ctxW w).funcs.get 26 = some ir26 := by kernel_rfl
theorem get50 (w : World) : (ctxW w).funcs.get 50 = some ir50 := by kernel_rfl
theorem get9 (w : World) : (ctxW w).funcs.get 9 = some ir9 := by kernel_rfl
theorem get27 (w : World) : (ctxW w).funcs.get 27 = some ir27 := by kernel_rfl
theorem get20 (w : World) : (ctxW w).funcs.get 20 = some ir20 := by kernel_rfl
theorem get49 (w : World) : (ctxW w).funcs.get 49 = some ir49 := by kernel_rfl
theorem get23 (w : World) : (ctxW w).funcs.get 23 = some ir23 := by kernel_rfl
theorem get41 (w : World) : (ctxW w).funcs.get 41 = some ir41 := by kernel_rfl
theorem get44 (w : World) : (ctxW w).funcs.get 44 = some ir44 := by kernel_rfl
theorem get40 (w : World) : (ctxW w).funcs.get 40 = some ir40 := by kernel_rfl
theorem get42 (w : World) : (ctxW w).funcs.get 42 = some ir42 := by kernel_rfl
theorem get43 (w : World) : (ctxW w).funcs.get 43 = some ir43 := by kernel_rfl
theorem get45 (w : World) : (ctxW w).funcs.get 45 = some ir45 := by kernel_rfl
theorem get46 (w : World) : (ctxW w).funcs.get 46 = some ir46 := by kernel_rfl
theorem get66 (w : World) : (ctxW w).funcs.get 66 = some ir66 := by kernel_rfl
theorem get67 (w : World) : (ctxW w).funcs.get 67 = some ir67 := by kernel_rfl
theorem get71 (w : World) : (ctxW w).funcs.get 71 = some ir71 := by kernel_rfl
theorem get72 (w : World) : (ctxW w).funcs.get 72 = some ir72 := by kernel_rfl
theorem get64 (w : World) : (ctxW w).funcs.get 64 = some ir64 := by kernel_rfl
theorem get65 (w : World) : (ctxW w).funcs.get 65 = some ir65 := by kernel_rfl
theorem get69 (w : World) : (ctxW w).funcs.get 69 = some ir69 := by kernel_rfl
theorem get70 (w : World) : (ctxW w).funcs.get 70 = some ir70 := by kernel_rfl
theorem get102 (w : World) : (ctxW w).funcs.get 102 = some ir102 := by kernel_rfl
theorem get89 (w : World) : (ctxW w).funcs.get 89 = some ir89 := by kernel_rfl
theorem get90 (w : World) : (ctxW w).funcs.get 90 = some ir90 := by kernel_rfl
theorem get88 (w : World) : (ctxW w).funcs.get 88 = some ir88 := by kernel_rfl
theorem get91 (w : World) : (ctxW w).funcs.get 91 = some ir91 := by kernel_rfl
end Go.Ai.Wire
