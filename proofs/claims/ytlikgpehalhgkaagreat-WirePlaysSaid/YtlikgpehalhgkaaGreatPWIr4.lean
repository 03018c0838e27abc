/-
  More functions of the program in the evaluator's own form (printed by program), and that they are the program's.
-/
import Derived.Test.YtlikgpehalhgkaaGreatPWIr
namespace Go.Ai.Wire
open Go.Proofs

/- riposte/riposteref25.Take -/
def ir37 : IFunc := ⟨[.cellN 4 4, .tmp 5, .tmp 6, .tmp 7],
(.seq (.region [⟨(some 2), .box 4 (.t 0), none⟩,
⟨(some 4), .mk [(.int .i64 0), (.slice none 0 0), (.int .i64 0), (.slice none 0 0)], none⟩,
⟨(some 5), .mv (.c (.slice none 0 0)), none⟩,
⟨(some 6), .mv (.c (.slice none 0 0)), none⟩,
⟨(some 7), .mv (.c (.int .i64 0)), none⟩])
(.seq (.seq (.region [⟨(some 14), .loadN 4 (.t 2), none⟩,
⟨(some 15), .call (.c (.func (.func 50) #[] #[])) [(.t 14)], none⟩,
⟨(some 16), .not (.t 15), none⟩])
(.cond (.t 16)
(.seq (.region [⟨(some 17), .build [(.int .i64 0), (.slice none 0 0), (.int .i64 0), (.slice none 0 0)] [], none⟩,
⟨none, .store 4 (.t 4) (.t 17), none⟩,
⟨(some 5), .mv (.c (.slice none 0 0)), none⟩,
⟨(some 6), .mv (.c (.slice none 0 0)), none⟩,
⟨(some 7), .mv (.c (.int .i64 4)), none⟩])
.ret)
.skip))
(.seq (.region [⟨(some 18), .loadN 4 (.t 2), none⟩,
⟨(some 19), .call (.c (.func (.func 26) #[] #[])) [(.t 18)], none⟩,
⟨(some 8), .mk [(.int .i64 0), (.slice none 0 0), (.int .i64 0), (.slice none 0 0)], none⟩,
⟨none, .store 4 (.t 8) (.t 19), none⟩])
(.seq (.region [⟨(some 21), .mv (.t 1), none⟩,
⟨(some 22), .call (.c (.func (.func 58) #[] #[])) [(.t 21)], none⟩,
⟨(some 20), .mv (.t 22), none⟩,
⟨(some 23), .extract 0 (.t 20), none⟩,
⟨(some 24), .extract 1 (.t 20), none⟩,
⟨(some 9), .mk [(.int .i64 0), (.int .i64 0), (.slice none 0 0)], none⟩,
⟨none, .store 3 (.t 9) (.t 23), none⟩,
⟨(some 10), .mv (.t 24), none⟩])
(.seq (.seq (.region [⟨(some 25), .mv (.t 10), none⟩,
⟨(some 26), .bin .num .neq (.t 25) (.c (.int .i64 0)), none⟩,
⟨(some 27), .mv (.t 26), none⟩,
⟨(some 28), .faddr 1 (.t 9), (some (27, false))⟩,
⟨(some 29), .load1 (.t 28), (some (27, false))⟩,
⟨(some 30), .faddr 0 (.t 2), (some (27, false))⟩,
⟨(some 31), .load1 (.t 30), (some (27, false))⟩,
⟨(some 32), .bin .num .gtr (.t 29) (.t 31), (some (27, false))⟩,
⟨(some 33), .pick (.t 27) (.c (.bool true)) (.t 32), none⟩])
(.cond (.t 33)
(.seq (.region [⟨(some 34), .loadN 4 (.t 8), none⟩,
⟨none, .store 4 (.t 4) (.t 34), none⟩,
⟨(some 5), .mv (.c (.slice none 0 0)), none⟩,
⟨(some 6), .mv (.c (.slice none 0 0)), none⟩,
⟨(some 7), .mv (.c (.int .i64 0)), none⟩])
.ret)
.skip))
(.seq (.block 0
(.loop
(.seq (.seq (.dregion [(0, ⟨(some 35), .faddr 1 (.t 8), none⟩, []),
(1, ⟨(some 36), .load1 (.t 35), none⟩, []),
(2, ⟨(some 37), .len (.t 36), none⟩, []),
(3, ⟨(some 38), .bin .num .gtr (.t 37) (.c (.int .i64 0)), none⟩, []),
(4, ⟨(some 39), .mv (.t 38), none⟩, []),
(5, ⟨(some 40), .faddr 1 (.t 8), (some (39, true))⟩, []),
(6, ⟨(some 41), .load1 (.t 40), (some (39, true))⟩, []),
(7, ⟨(some 42), .idxS 2 (.t 41) (.c (.int .i64 0)), (some (39, true))⟩, []),
(8, ⟨(some 43), .faddr 0 (.t 42), (some (39, true))⟩, []),
(9, ⟨(some 44), .load1 (.t 43), (some (39, true))⟩, []),
(10, ⟨(some 45), .faddr 1 (.t 9), (some (39, true))⟩, []),
(11, ⟨(some 46), .load1 (.t 45), (some (39, true))⟩, [1, 4]),
(12, ⟨(some 47), .bin .num .leq (.t 44) (.t 46), (some (39, true))⟩, []),
(13, ⟨(some 48), .pick (.t 39) (.t 47) (.c (.bool false)), none⟩, [])])
(.cond (.t 48)
.skip
(.exit 0)))
(.block 1
(.region [⟨(some 49), .faddr 1 (.t 8), none⟩,
⟨(some 50), .load1 (.t 49), none⟩,
⟨(some 51), .sliceS 2 (.t 50) (some (.c (.int .i64 1))) none none, none⟩,
⟨(some 52), .faddr 1 (.t 8), none⟩,
⟨none, .store 1 (.t 52) (.t 51), none⟩])))))
(.seq (.seq (.region [⟨(some 53), .faddr 0 (.t 9), none⟩,
⟨(some 54), .load1 (.t 53), none⟩,
⟨(some 55), .bin .num .eql (.t 54) (.c (.int .i64 0)), none⟩])
(.cond (.t 55)
(.seq (.region [⟨(some 56), .loadN 4 (.t 8), none⟩,
⟨none, .store 4 (.t 4) (.t 56), none⟩,
⟨(some 5), .mv (.c (.slice none 0 0)), none⟩,
⟨(some 6), .mv (.c (.slice none 0 0)), none⟩,
⟨(some 7), .mv (.c (.int .i64 0)), none⟩])
.ret)
.skip))
(.seq (.region [⟨(some 11), .mv (.c (.slice none 0 0)), none⟩])
(.seq (.seq (.region [⟨(some 57), .faddr 0 (.t 9), none⟩,
⟨(some 58), .load1 (.t 57), none⟩,
⟨(some 59), .faddr 2 (.t 8), none⟩,
⟨(some 60), .load1 (.t 59), none⟩,
⟨(some 61), .bin .num .add (.t 60) (.c (.int .i64 1)), none⟩,
⟨(some 62), .faddr 2 (.t 8), none⟩,
⟨(some 63), .load1 (.t 62), none⟩,
⟨(some 64), .bin .num .add (.t 63) (.c (.int .i64 8)), none⟩,
⟨(some 65), .call (.c (.func (.func 51) #[] #[])) [(.t 58), (.t 61), (.t 64)], none⟩])
(.cond (.t 65)
(.dregion [(0, ⟨(some 66), .faddr 3 (.t 8), none⟩, []),
(1, ⟨(some 67), .load1 (.t 66), none⟩, []),
(2, ⟨(some 68), .faddr 0 (.t 9), none⟩, []),
(3, ⟨(some 69), .load1 (.t 68), none⟩, [1]),
(4, ⟨(some 70), .buildSlice 0 [] [], none⟩, [0, 2]),
(5, ⟨(some 71), .faddr 2 (.t 9), none⟩, []),
(6, ⟨(some 72), .load1 (.t 71), none⟩, [1, 2, 4]),
(7, ⟨(some 73), .append 1 1 (.t 70) (.t 72), none⟩, [3, 5]),
(8, ⟨(some 74), .build [(.int .i64 0), (.slice none 0 0)] [(0, 1, (.t 69)), (1, 1, (.t 73))], none⟩, []),
(9, ⟨(some 75), .call (.c (.func (.func 59) #[] #[])) [(.t 67), (.t 74)], none⟩, []),
(10, ⟨(some 76), .faddr 3 (.t 8), none⟩, []),
(11, ⟨none, .store 1 (.t 76) (.t 75), none⟩, [])])
.skip))
(.seq (.block 2
(.loop
(.seq (.seq (.dregion [(0, ⟨(some 77), .faddr 3 (.t 8), none⟩, []),
(1, ⟨(some 78), .load1 (.t 77), none⟩, []),
(2, ⟨(some 79), .len (.t 78), none⟩, []),
(3, ⟨(some 80), .bin .num .gtr (.t 79) (.c (.int .i64 0)), none⟩, []),
(4, ⟨(some 81), .mv (.t 80), none⟩, []),
(5, ⟨(some 82), .faddr 3 (.t 8), (some (81, true))⟩, []),
(6, ⟨(some 83), .load1 (.t 82), (some (81, true))⟩, []),
(7, ⟨(some 84), .idxS 2 (.t 83) (.c (.int .i64 0)), (some (81, true))⟩, []),
(8, ⟨(some 85), .faddr 0 (.t 84), (some (81, true))⟩, []),
(9, ⟨(some 86), .load1 (.t 85), (some (81, true))⟩, []),
(10, ⟨(some 87), .faddr 2 (.t 8), (some (81, true))⟩, []),
(11, ⟨(some 88), .load1 (.t 87), (some (81, true))⟩, [1, 4]),
(12, ⟨(some 89), .bin .num .add (.t 88) (.c (.int .i64 1)), (some (81, true))⟩, []),
(13, ⟨(some 90), .bin .num .eql (.t 86) (.t 89), (some (81, true))⟩, []),
(14, ⟨(some 91), .pick (.t 81) (.t 90) (.c (.bool false)), none⟩, [])])
(.cond (.t 91)
.skip
(.exit 2)))
(.block 3
(.seq (.region [⟨(some 92), .mv (.t 11), none⟩,
⟨(some 93), .faddr 3 (.t 8), none⟩,
⟨(some 94), .load1 (.t 93), none⟩,
⟨(some 95), .idxS 2 (.t 94) (.c (.int .i64 0)), none⟩,
⟨(some 96), .faddr 1 (.t 95), none⟩,
⟨(some 97), .load1 (.t 96), none⟩,
⟨(some 98), .buildSlice 1 [(.slice none 0 0)] [(0, 1, (.t 97))], none⟩,
⟨(some 99), .append 1 24 (.t 92) (.t 98), none⟩,
⟨(some 11), .mv (.t 99), none⟩])
(.seq (.region [⟨(some 100), .faddr 2 (.t 8), none⟩,
⟨(some 101), .load1 (.t 100), none⟩,
⟨(some 102), .bin .num .add (.t 101) (.c (.int .i64 1)), none⟩,
⟨(some 103), .faddr 2 (.t 8), none⟩,
⟨none, .store 1 (.t 103) (.t 102), none⟩])
(.region [⟨(some 104), .faddr 3 (.t 8), none⟩,
⟨(some 105), .load1 (.t 104), none⟩,
⟨(some 106), .sliceS 2 (.t 105) (some (.c (.int .i64 1))) none none, none⟩,
⟨(some 107), .faddr 3 (.t 8), none⟩,
⟨none, .store 1 (.t 107) (.t 106), none⟩])))))))
(.seq (.region [⟨(some 109), .faddr 2 (.t 8), none⟩,
⟨(some 110), .load1 (.t 109), none⟩,
⟨(some 111), .build [(.int .i64 0), (.int .i64 0), (.slice none 0 0)] [(1, 1, (.t 110))], none⟩,
⟨(some 112), .call (.c (.func (.func 57) #[] #[])) [(.t 111)], none⟩,
⟨(some 108), .mv (.t 112), none⟩,
⟨(some 113), .extract 0 (.t 108), none⟩,
⟨(some 114), .extract 1 (.t 108), none⟩,
⟨(some 12), .mv (.t 113), none⟩,
⟨(some 13), .mv (.t 114), none⟩])
(.seq (.region [⟨(some 115), .loadN 4 (.t 8), none⟩,
⟨(some 116), .mv (.t 11), none⟩,
⟨(some 117), .mv (.t 12), none⟩,
⟨none, .store 4 (.t 4) (.t 115), none⟩,
⟨(some 5), .mv (.t 116), none⟩,
⟨(some 6), .mv (.t 117), none⟩,
⟨(some 7), .mv (.c (.int .i64 0)), none⟩])
.ret))))))))))))⟩

/- (*riposte/wire.end).take -/
def ir83 : IFunc := ⟨[.tmp 4, .tmp 5],
(.seq (.region [⟨(some 4), .mv (.c (.slice none 0 0)), none⟩,
⟨(some 5), .mv (.c (.slice none 0 0)), none⟩])
(.seq (.region [⟨(some 10), .mv (.t 1), none⟩,
⟨(some 11), .call (.c (.func (.func 97) #[] #[])) [(.t 10)], none⟩,
⟨(some 9), .mv (.t 11), none⟩,
⟨(some 12), .extract 0 (.t 9), none⟩,
⟨(some 13), .extract 1 (.t 9), none⟩,
⟨(some 6), .mk [(.int .i64 0), (.int .i64 0), (.slice none 0 0)], none⟩,
⟨none, .store 3 (.t 6) (.t 12), none⟩,
⟨(some 7), .mv (.t 13), none⟩])
(.seq (.seq (.dregion [(0, ⟨(some 14), .mv (.t 7), none⟩, []),
(1, ⟨(some 15), .bin .num .neq (.t 14) (.c (.int .i64 0)), none⟩, []),
(2, ⟨(some 16), .mv (.t 15), none⟩, []),
(3, ⟨(some 17), .faddr 1 (.t 6), (some (16, false))⟩, []),
(4, ⟨(some 18), .load1 (.t 17), (some (16, false))⟩, []),
(5, ⟨(some 19), .mv (.t 0), (some (16, false))⟩, []),
(6, ⟨(some 20), .nilCheck (.t 19), (some (16, false))⟩, []),
(7, ⟨(some 21), .faddr 0 (.t 20), (some (16, false))⟩, []),
(8, ⟨(some 22), .faddr 0 (.t 21), (some (16, false))⟩, []),
(9, ⟨(some 23), .load1 (.t 22), (some (16, false))⟩, [4]),
(10, ⟨(some 24), .bin .num .gtr (.t 18) (.t 23), (some (16, false))⟩, []),
(11, ⟨(some 25), .pick (.t 16) (.c (.bool true)) (.t 24), none⟩, [])])
(.cond (.t 25)
(.seq (.region [⟨(some 4), .mv (.c (.slice none 0 0)), none⟩,
⟨(some 5), .mv (.c (.slice none 0 0)), none⟩])
.ret)
.skip))
(.seq (.region [⟨(some 26), .mv (.t 0), none⟩,
⟨(some 27), .mv (.t 0), none⟩,
⟨(some 28), .nilCheck (.t 27), none⟩,
⟨(some 29), .faddr 0 (.t 28), none⟩,
⟨(some 30), .faddr 1 (.t 29), none⟩,
⟨(some 31), .load1 (.t 30), none⟩,
⟨(some 32), .mkfn (.func 99) [] [(.t 6)], none⟩,
⟨(some 33), .call (.c (.func (.func 98) #[] #[])) [(.t 31), (.t 32)], none⟩,
⟨(some 34), .nilCheck (.t 26), none⟩,
⟨(some 35), .faddr 0 (.t 34), none⟩,
⟨(some 36), .faddr 1 (.t 35), none⟩,
⟨none, .store 1 (.t 36) (.t 33), none⟩])
(.seq (.seq (.region [⟨(some 37), .faddr 0 (.t 6), none⟩,
⟨(some 38), .load1 (.t 37), none⟩,
⟨(some 39), .bin .num .eql (.t 38) (.c (.int .i64 0)), none⟩])
(.cond (.t 39)
(.seq (.region [⟨(some 4), .mv (.c (.slice none 0 0)), none⟩,
⟨(some 5), .mv (.c (.slice none 0 0)), none⟩])
.ret)
.skip))
(.seq (.seq (.dregion [(0, ⟨(some 40), .faddr 0 (.t 6), none⟩, []),
(1, ⟨(some 41), .load1 (.t 40), none⟩, []),
(2, ⟨(some 42), .mv (.t 0), none⟩, []),
(3, ⟨(some 43), .nilCheck (.t 42), none⟩, []),
(4, ⟨(some 44), .faddr 0 (.t 43), none⟩, []),
(5, ⟨(some 45), .faddr 2 (.t 44), none⟩, []),
(6, ⟨(some 46), .load1 (.t 45), none⟩, [4]),
(7, ⟨(some 47), .bin .num .sub (.t 41) (.t 46), none⟩, []),
(8, ⟨(some 8), .mv (.t 47), none⟩, [])])
(.block 0
(.seq (.region [⟨(some 49), .mv (.t 8), none⟩,
⟨(some 50), .bin .num .eql (.t 49) (.c (.int .i64 1)), none⟩,
⟨(some 48), .mv (.t 50), none⟩])
(.cond (.t 48)
(.region [⟨(some 51), .mv (.t 0), none⟩,
⟨(some 52), .faddr 2 (.t 6), none⟩,
⟨(some 53), .load1 (.t 52), none⟩,
⟨(some 54), .call (.c (.func (.func 100) #[] #[])) [(.t 51), (.t 53)], none⟩,
⟨(some 4), .mv (.t 54), none⟩])
(.seq (.region [⟨(some 56), .mv (.t 8), none⟩,
⟨(some 57), .call (.c (.func (.func 68) #[] #[])) [(.t 56), (.c (.int .i64 2)), (.c (.int .i64 8))], none⟩,
⟨(some 55), .mv (.t 57), none⟩])
(.cond (.t 55)
(.region [⟨(some 58), .mv (.t 0), none⟩,
⟨(some 59), .loadN 3 (.t 6), none⟩,
⟨(some 60), .call (.c (.func (.func 101) #[] #[])) [(.t 58), (.t 59)], none⟩])
.skip))))))
(.seq (.region [⟨(some 61), .mv (.t 4), none⟩,
⟨(some 62), .mv (.t 0), none⟩,
⟨(some 63), .nilCheck (.t 62), none⟩,
⟨(some 64), .faddr 0 (.t 63), none⟩,
⟨(some 65), .faddr 2 (.t 64), none⟩,
⟨(some 66), .load1 (.t 65), none⟩,
⟨(some 67), .build [(.int .i64 0), (.int .i64 0), (.slice none 0 0)] [(1, 1, (.t 66))], none⟩,
⟨(some 68), .build [(.int .i64 0), (.int .i64 0), (.slice none 0 0)] [(0, 3, (.t 67))], none⟩,
⟨(some 69), .call (.c (.func (.func 39) #[] #[])) [(.t 68)], none⟩,
⟨(some 4), .mv (.t 61), none⟩,
⟨(some 5), .mv (.t 69), none⟩])
.ret)))))))⟩

/- riposte/riposteref25.early -/
def ir59 : IFunc := ⟨[.tmp 4],
(.seq (.region [⟨(some 3), .box 2 (.t 1), none⟩,
⟨(some 4), .mv (.c (.slice none 0 0)), none⟩])
(.seq (.region [⟨(some 5), .mv (.c (.slice none 0 0)), none⟩])
(.seq (.region [⟨(some 6), .mv (.c (.bool false)), none⟩])
(.seq (.seq (.region [⟨(some 7), .mv (.c (.int .i64 0)), none⟩])
(.block 0
(.loop
(.seq (.seq (.region [⟨(some 8), .mv (.t 7), none⟩,
⟨(some 9), .mv (.t 0), none⟩,
⟨(some 10), .len (.t 9), none⟩,
⟨(some 11), .bin .num .lss (.t 8) (.t 10), none⟩])
(.cond (.t 11)
.skip
(.exit 0)))
(.seq (.block 1
(.seq (.seq (.dregion [(0, ⟨(some 14), .mv (.t 0), none⟩, []),
(1, ⟨(some 15), .mv (.t 7), none⟩, []),
(2, ⟨(some 16), .idxS 2 (.t 14) (.t 15), none⟩, []),
(3, ⟨(some 17), .faddr 0 (.t 16), none⟩, []),
(4, ⟨(some 18), .load1 (.t 17), none⟩, []),
(5, ⟨(some 19), .faddr 0 (.t 3), none⟩, []),
(6, ⟨(some 20), .load1 (.t 19), none⟩, [1]),
(7, ⟨(some 21), .bin .num .eql (.t 18) (.t 20), none⟩, [])])
(.cond (.t 21)
(.seq (.region [⟨(some 22), .mv (.t 0), none⟩,
⟨(some 4), .mv (.t 22), none⟩])
.ret)
.skip))
(.seq (.seq (.dregion [(0, ⟨(some 23), .mv (.t 0), none⟩, []),
(1, ⟨(some 24), .mv (.t 7), none⟩, []),
(2, ⟨(some 25), .idxS 2 (.t 23) (.t 24), none⟩, []),
(3, ⟨(some 26), .faddr 0 (.t 25), none⟩, []),
(4, ⟨(some 27), .load1 (.t 26), none⟩, []),
(5, ⟨(some 28), .faddr 0 (.t 3), none⟩, []),
(6, ⟨(some 29), .load1 (.t 28), none⟩, [1]),
(7, ⟨(some 30), .bin .num .gtr (.t 27) (.t 29), none⟩, []),
(8, ⟨(some 31), .mv (.t 30), none⟩, []),
(9, ⟨(some 32), .mv (.t 6), (some (31, true))⟩, []),
(10, ⟨(some 33), .not (.t 32), (some (31, true))⟩, []),
(11, ⟨(some 34), .pick (.t 31) (.t 33) (.c (.bool false)), none⟩, [])])
(.cond (.t 34)
(.region [⟨(some 35), .mv (.t 5), none⟩,
⟨(some 36), .loadN 2 (.t 3), none⟩,
⟨(some 37), .buildSlice 1 [(.int .i64 0), (.slice none 0 0)] [(0, 2, (.t 36))], none⟩,
⟨(some 38), .append 2 32 (.t 35) (.t 37), none⟩,
⟨(some 5), .mv (.t 38), none⟩,
⟨(some 6), .mv (.c (.bool true)), none⟩])
.skip))
(.region [⟨(some 39), .mv (.t 5), none⟩,
⟨(some 40), .mv (.t 0), none⟩,
⟨(some 41), .mv (.t 7), none⟩,
⟨(some 42), .idxS 2 (.t 40) (.t 41), none⟩,
⟨(some 43), .loadN 2 (.t 42), none⟩,
⟨(some 44), .buildSlice 1 [(.int .i64 0), (.slice none 0 0)] [(0, 2, (.t 43))], none⟩,
⟨(some 45), .append 2 32 (.t 39) (.t 44), none⟩,
⟨(some 5), .mv (.t 45), none⟩]))))
(.region [⟨(some 12), .mv (.t 7), none⟩,
⟨(some 13), .bin .num .add (.t 12) (.c (.int .i64 1)), none⟩,
⟨(some 7), .mv (.t 13), none⟩]))))))
(.seq (.seq (.region [⟨(some 46), .mv (.t 6), none⟩,
⟨(some 47), .not (.t 46), none⟩])
(.cond (.t 47)
(.region [⟨(some 48), .mv (.t 5), none⟩,
⟨(some 49), .loadN 2 (.t 3), none⟩,
⟨(some 50), .buildSlice 1 [(.int .i64 0), (.slice none 0 0)] [(0, 2, (.t 49))], none⟩,
⟨(some 51), .append 2 32 (.t 48) (.t 50), none⟩,
⟨(some 5), .mv (.t 51), none⟩])
.skip))
(.seq (.region [⟨(some 52), .mv (.t 5), none⟩,
⟨(some 4), .mv (.t 52), none⟩])
.ret))))))⟩

/- slices.DeleteFunc[[]riposte/api.WireItem,riposte/api.WireItem] -/
def ir98 : IFunc := ⟨[.tmp 4],
(.seq (.region [⟨(some 4), .mv (.c (.slice none 0 0)), none⟩])
(.seq (.region [⟨(some 8), .mv (.t 0), none⟩,
⟨(some 9), .mv (.t 1), none⟩,
⟨(some 10), .call (.c (.func (.func 102) #[] #[])) [(.t 8), (.t 9)], none⟩,
⟨(some 5), .mv (.t 10), none⟩])
(.seq (.seq (.region [⟨(some 11), .mv (.t 5), none⟩,
⟨(some 12), .bin .num .eql (.t 11) (.c (.int .i64 (-1))), none⟩])
(.cond (.t 12)
(.seq (.region [⟨(some 13), .mv (.t 0), none⟩,
⟨(some 4), .mv (.t 13), none⟩])
.ret)
.skip))
(.seq (.seq (.region [⟨(some 14), .mv (.t 5), none⟩,
⟨(some 15), .bin .num .add (.t 14) (.c (.int .i64 1)), none⟩,
⟨(some 6), .mv (.t 15), none⟩])
(.block 0
(.loop
(.seq (.seq (.region [⟨(some 16), .mv (.t 6), none⟩,
⟨(some 17), .mv (.t 0), none⟩,
⟨(some 18), .len (.t 17), none⟩,
⟨(some 19), .bin .num .lss (.t 16) (.t 18), none⟩])
(.cond (.t 19)
.skip
(.exit 0)))
(.seq (.block 1
(.seq (.region [⟨(some 22), .mv (.t 0), none⟩,
⟨(some 23), .mv (.t 6), none⟩,
⟨(some 24), .idxS 2 (.t 22) (.t 23), none⟩,
⟨(some 25), .loadN 2 (.t 24), none⟩,
⟨(some 7), .mk [(.int .i64 0), (.slice none 0 0)], none⟩,
⟨none, .store 2 (.t 7) (.t 25), none⟩])
(.seq (.region [⟨(some 26), .mv (.t 1), none⟩,
⟨(some 27), .loadN 2 (.t 7), none⟩,
⟨(some 28), .call (.t 26) [(.t 27)], none⟩,
⟨(some 29), .not (.t 28), none⟩])
(.cond (.t 29)
(.seq (.region [⟨(some 30), .mv (.t 0), none⟩,
⟨(some 31), .mv (.t 5), none⟩,
⟨(some 32), .loadN 2 (.t 7), none⟩,
⟨(some 33), .idxS 2 (.t 30) (.t 31), none⟩,
⟨none, .store 2 (.t 33) (.t 32), none⟩])
(.region [⟨(some 34), .mv (.t 5), none⟩,
⟨(some 35), .bin .num .add (.t 34) (.c (.int .i64 1)), none⟩,
⟨(some 5), .mv (.t 35), none⟩]))
.skip))))
(.region [⟨(some 20), .mv (.t 6), none⟩,
⟨(some 21), .bin .num .add (.t 20) (.c (.int .i64 1)), none⟩,
⟨(some 6), .mv (.t 21), none⟩]))))))
(.seq (.region [⟨(some 36), .mv (.t 0), none⟩,
⟨(some 37), .mv (.t 5), none⟩,
⟨(some 38), .sliceS 2 (.t 36) (some (.t 37)) none none, none⟩,
⟨none, .clear [(.int .i64 0), (.slice none 0 0)] (.t 38), none⟩])
(.seq (.region [⟨(some 39), .mv (.t 0), none⟩,
⟨(some 40), .mv (.t 5), none⟩,
⟨(some 41), .sliceS 2 (.t 39) none (some (.t 40)) none, none⟩,
⟨(some 4), .mv (.t 41), none⟩])
.ret))))))⟩

/- (*riposte/wire.end).take$1 -/
def ir99 : IFunc := ⟨[.tmp 3],
(.seq (.region [⟨(some 2), .box 2 (.t 0), none⟩,
⟨(some 3), .mv (.c (.bool false)), none⟩])
(.seq (.region [⟨(some 4), .faddr 0 (.t 2), none⟩,
⟨(some 5), .load1 (.t 4), none⟩,
⟨(some 6), .faddr 1 (.t 1), none⟩,
⟨(some 7), .load1 (.t 6), none⟩,
⟨(some 8), .bin .num .leq (.t 5) (.t 7), none⟩,
⟨(some 3), .mv (.t 8), none⟩])
.ret))⟩

/- (*riposte/wire.end).hand -/
def ir100 : IFunc := ⟨[.tmp 4],
(.seq (.region [⟨(some 4), .mv (.c (.slice none 0 0)), none⟩])
(.seq (.region [⟨(some 5), .mv (.t 4), none⟩,
⟨(some 6), .mv (.t 1), none⟩,
⟨(some 7), .buildSlice 1 [(.slice none 0 0)] [(0, 1, (.t 6))], none⟩,
⟨(some 8), .append 1 24 (.t 5) (.t 7), none⟩,
⟨(some 4), .mv (.t 8), none⟩])
(.seq (.region [⟨(some 9), .mv (.t 0), none⟩,
⟨(some 10), .nilCheck (.t 9), none⟩,
⟨(some 11), .faddr 0 (.t 10), none⟩,
⟨(some 12), .faddr 2 (.t 11), none⟩,
⟨(some 13), .load1 (.t 12), none⟩,
⟨(some 14), .bin .num .add (.t 13) (.c (.int .i64 1)), none⟩,
⟨(some 15), .nilCheck (.t 9), none⟩,
⟨(some 16), .faddr 0 (.t 15), none⟩,
⟨(some 17), .faddr 2 (.t 16), none⟩,
⟨none, .store 1 (.t 17) (.t 14), none⟩])
(.seq (.block 0
(.loop
(.seq (.seq (.dregion [(0, ⟨(some 18), .mv (.t 0), none⟩, []),
(1, ⟨(some 19), .nilCheck (.t 18), none⟩, []),
(2, ⟨(some 20), .faddr 0 (.t 19), none⟩, []),
(3, ⟨(some 21), .faddr 3 (.t 20), none⟩, []),
(4, ⟨(some 22), .load1 (.t 21), none⟩, []),
(5, ⟨(some 23), .len (.t 22), none⟩, []),
(6, ⟨(some 24), .bin .num .gtr (.t 23) (.c (.int .i64 0)), none⟩, []),
(7, ⟨(some 25), .mv (.t 24), none⟩, []),
(8, ⟨(some 26), .mv (.t 0), (some (25, true))⟩, []),
(9, ⟨(some 27), .nilCheck (.t 26), (some (25, true))⟩, []),
(10, ⟨(some 28), .faddr 0 (.t 27), (some (25, true))⟩, []),
(11, ⟨(some 29), .faddr 3 (.t 28), (some (25, true))⟩, []),
(12, ⟨(some 30), .load1 (.t 29), (some (25, true))⟩, []),
(13, ⟨(some 31), .idxS 2 (.t 30) (.c (.int .i64 0)), (some (25, true))⟩, []),
(14, ⟨(some 32), .faddr 0 (.t 31), (some (25, true))⟩, []),
(15, ⟨(some 33), .load1 (.t 32), (some (25, true))⟩, []),
(16, ⟨(some 34), .mv (.t 0), (some (25, true))⟩, []),
(17, ⟨(some 35), .nilCheck (.t 34), (some (25, true))⟩, []),
(18, ⟨(some 36), .faddr 0 (.t 35), (some (25, true))⟩, []),
(19, ⟨(some 37), .faddr 2 (.t 36), (some (25, true))⟩, []),
(20, ⟨(some 38), .load1 (.t 37), (some (25, true))⟩, [4, 7]),
(21, ⟨(some 39), .bin .num .add (.t 38) (.c (.int .i64 1)), (some (25, true))⟩, []),
(22, ⟨(some 40), .bin .num .eql (.t 33) (.t 39), (some (25, true))⟩, []),
(23, ⟨(some 41), .pick (.t 25) (.t 40) (.c (.bool false)), none⟩, [])])
(.cond (.t 41)
.skip
(.exit 0)))
(.block 1
(.seq (.region [⟨(some 42), .mv (.t 4), none⟩,
⟨(some 43), .mv (.t 0), none⟩,
⟨(some 44), .nilCheck (.t 43), none⟩,
⟨(some 45), .faddr 0 (.t 44), none⟩,
⟨(some 46), .faddr 3 (.t 45), none⟩,
⟨(some 47), .load1 (.t 46), none⟩,
⟨(some 48), .idxS 2 (.t 47) (.c (.int .i64 0)), none⟩,
⟨(some 49), .faddr 1 (.t 48), none⟩,
⟨(some 50), .load1 (.t 49), none⟩,
⟨(some 51), .buildSlice 1 [(.slice none 0 0)] [(0, 1, (.t 50))], none⟩,
⟨(some 52), .append 1 24 (.t 42) (.t 51), none⟩,
⟨(some 4), .mv (.t 52), none⟩])
(.seq (.region [⟨(some 53), .mv (.t 0), none⟩,
⟨(some 54), .mv (.t 0), none⟩,
⟨(some 55), .nilCheck (.t 54), none⟩,
⟨(some 56), .faddr 0 (.t 55), none⟩,
⟨(some 57), .faddr 3 (.t 56), none⟩,
⟨(some 58), .load1 (.t 57), none⟩,
⟨(some 59), .sliceS 2 (.t 58) (some (.c (.int .i64 1))) none none, none⟩,
⟨(some 60), .nilCheck (.t 53), none⟩,
⟨(some 61), .faddr 0 (.t 60), none⟩,
⟨(some 62), .faddr 3 (.t 61), none⟩,
⟨none, .store 1 (.t 62) (.t 59), none⟩])
(.region [⟨(some 63), .mv (.t 0), none⟩,
⟨(some 64), .nilCheck (.t 63), none⟩,
⟨(some 65), .faddr 0 (.t 64), none⟩,
⟨(some 66), .faddr 2 (.t 65), none⟩,
⟨(some 67), .load1 (.t 66), none⟩,
⟨(some 68), .bin .num .add (.t 67) (.c (.int .i64 1)), none⟩,
⟨(some 69), .nilCheck (.t 63), none⟩,
⟨(some 70), .faddr 0 (.t 69), none⟩,
⟨(some 71), .faddr 2 (.t 70), none⟩,
⟨none, .store 1 (.t 71) (.t 68), none⟩])))))))
(.seq (.region [⟨(some 72), .mv (.t 4), none⟩,
⟨(some 4), .mv (.t 72), none⟩])
.ret)))))⟩

/- (*riposte/wire.end).keep -/
def ir101 : IFunc := ⟨[],
(.seq (.region [⟨(some 3), .box 3 (.t 1), none⟩])
(.seq (.dregion [(0, ⟨(some 7), .mv (.t 0), none⟩, []),
(1, ⟨(some 8), .nilCheck (.t 7), none⟩, []),
(2, ⟨(some 9), .faddr 0 (.t 8), none⟩, []),
(3, ⟨(some 10), .faddr 3 (.t 9), none⟩, []),
(4, ⟨(some 11), .load1 (.t 10), none⟩, []),
(5, ⟨(some 12), .faddr 0 (.t 3), none⟩, []),
(6, ⟨(some 13), .load1 (.t 12), none⟩, [1]),
(7, ⟨(some 14), .call (.c (.func (.func 109) #[] #[])) [(.t 11), (.t 13), (.c (.func (.func 110) #[] #[]))], none⟩, []),
(8, ⟨(some 6), .mv (.t 14), none⟩, []),
(9, ⟨(some 15), .extract 0 (.t 6), none⟩, []),
(10, ⟨(some 16), .extract 1 (.t 6), none⟩, []),
(11, ⟨(some 4), .mv (.t 15), none⟩, []),
(12, ⟨(some 5), .mv (.t 16), none⟩, [])])
(.seq (.region [⟨(some 17), .mv (.t 5), none⟩,
⟨(some 18), .not (.t 17), none⟩])
(.cond (.t 18)
(.dregion [(1, ⟨(some 20), .mv (.t 0), none⟩, []),
(2, ⟨(some 21), .nilCheck (.t 20), none⟩, []),
(3, ⟨(some 22), .faddr 0 (.t 21), none⟩, []),
(4, ⟨(some 23), .faddr 3 (.t 22), none⟩, []),
(5, ⟨(some 24), .load1 (.t 23), none⟩, []),
(6, ⟨(some 25), .mv (.t 4), none⟩, []),
(7, ⟨(some 26), .faddr 0 (.t 3), none⟩, []),
(8, ⟨(some 27), .load1 (.t 26), none⟩, [2]),
(9, ⟨(some 28), .faddr 2 (.t 3), none⟩, []),
(10, ⟨(some 29), .load1 (.t 28), none⟩, [1, 4]),
(11, ⟨(some 30), .build [(.int .i64 0), (.slice none 0 0)] [(0, 1, (.t 27)), (1, 1, (.t 29))], none⟩, []),
(12, ⟨(some 31), .buildSlice 1 [(.int .i64 0), (.slice none 0 0)] [(0, 2, (.t 30))], none⟩, [6]),
(13, ⟨(some 32), .call (.c (.func (.func 111) #[] #[])) [(.t 24), (.t 25), (.t 31)], none⟩, []),
(0, ⟨(some 19), .mv (.t 0), none⟩, []),
(14, ⟨(some 33), .nilCheck (.t 19), none⟩, []),
(15, ⟨(some 34), .faddr 0 (.t 33), none⟩, []),
(16, ⟨(some 35), .faddr 3 (.t 34), none⟩, []),
(17, ⟨none, .store 1 (.t 35) (.t 32), none⟩, [])])
.skip))))⟩

/- slices.BinarySearchFunc[[]riposte/api.WireItem,riposte/api.WireItem,int] -/
def ir109 : IFunc := ⟨[.tmp 6, .tmp 7],
(.seq (.region [⟨(some 6), .mv (.c (.int .i64 0)), none⟩,
⟨(some 7), .mv (.c (.bool false)), none⟩])
(.seq (.region [⟨(some 12), .mv (.t 0), none⟩,
⟨(some 13), .len (.t 12), none⟩,
⟨(some 8), .mv (.t 13), none⟩])
(.seq (.region [⟨(some 14), .mv (.t 8), none⟩,
⟨(some 9), .mv (.c (.int .i64 0)), none⟩,
⟨(some 10), .mv (.t 14), none⟩])
(.seq (.block 0
(.loop
(.seq (.seq (.region [⟨(some 15), .mv (.t 9), none⟩,
⟨(some 16), .mv (.t 10), none⟩,
⟨(some 17), .bin .num .lss (.t 15) (.t 16), none⟩])
(.cond (.t 17)
.skip
(.exit 0)))
(.block 1
(.seq (.region [⟨(some 18), .mv (.t 9), none⟩,
⟨(some 19), .mv (.t 10), none⟩,
⟨(some 20), .bin .num .add (.t 18) (.t 19), none⟩,
⟨(some 21), .conv .u64 (.t 20), none⟩,
⟨(some 22), .bin .num .shr (.t 21) (.c (.int .u64 1)), none⟩,
⟨(some 23), .conv .i64 (.t 22), none⟩,
⟨(some 11), .mv (.t 23), none⟩])
(.seq (.region [⟨(some 24), .mv (.t 2), none⟩,
⟨(some 25), .mv (.t 0), none⟩,
⟨(some 26), .mv (.t 11), none⟩,
⟨(some 27), .idxS 2 (.t 25) (.t 26), none⟩,
⟨(some 28), .loadN 2 (.t 27), none⟩,
⟨(some 29), .mv (.t 1), none⟩,
⟨(some 30), .call (.t 24) [(.t 28), (.t 29)], none⟩,
⟨(some 31), .bin .num .lss (.t 30) (.c (.int .i64 0)), none⟩])
(.cond (.t 31)
(.region [⟨(some 32), .mv (.t 11), none⟩,
⟨(some 33), .bin .num .add (.t 32) (.c (.int .i64 1)), none⟩,
⟨(some 9), .mv (.t 33), none⟩])
(.region [⟨(some 34), .mv (.t 11), none⟩,
⟨(some 10), .mv (.t 34), none⟩]))))))))
(.seq (.region [⟨(some 35), .mv (.t 9), none⟩,
⟨(some 36), .mv (.t 9), none⟩,
⟨(some 37), .mv (.t 8), none⟩,
⟨(some 38), .bin .num .lss (.t 36) (.t 37), none⟩,
⟨(some 39), .mv (.t 38), none⟩,
⟨(some 40), .mv (.t 2), (some (39, true))⟩,
⟨(some 41), .mv (.t 0), (some (39, true))⟩,
⟨(some 42), .mv (.t 9), (some (39, true))⟩,
⟨(some 43), .idxS 2 (.t 41) (.t 42), (some (39, true))⟩,
⟨(some 44), .loadN 2 (.t 43), (some (39, true))⟩,
⟨(some 45), .mv (.t 1), (some (39, true))⟩,
⟨(some 46), .call (.t 40) [(.t 44), (.t 45)], (some (39, true))⟩,
⟨(some 47), .bin .num .eql (.t 46) (.c (.int .i64 0)), (some (39, true))⟩,
⟨(some 48), .pick (.t 39) (.t 47) (.c (.bool false)), none⟩,
⟨(some 6), .mv (.t 35), none⟩,
⟨(some 7), .mv (.t 48), none⟩])
.ret)))))⟩

/- riposte/wire.compareNumber -/
def ir110 : IFunc := ⟨[.tmp 4],
(.seq (.region [⟨(some 2), .box 2 (.t 0), none⟩,
⟨(some 4), .mv (.c (.int .i64 0)), none⟩])
(.seq (.region [⟨(some 5), .faddr 0 (.t 2), none⟩,
⟨(some 6), .load1 (.t 5), none⟩,
⟨(some 7), .mv (.t 1), none⟩,
⟨(some 8), .bin .num .sub (.t 6) (.t 7), none⟩,
⟨(some 4), .mv (.t 8), none⟩])
.ret))⟩

/- slices.Insert[[]riposte/api.WireItem,riposte/api.WireItem] -/
def ir111 : IFunc := ⟨[.tmp 6],
(.seq (.region [⟨(some 6), .mv (.c (.slice none 0 0)), none⟩])
(.seq (.region [⟨(some 10), .mv (.t 0), none⟩,
⟨(some 11), .mv (.t 1), none⟩,
⟨(some 12), .sliceS 2 (.t 10) (some (.t 11)) none none, none⟩])
(.seq (.region [⟨(some 13), .mv (.t 2), none⟩,
⟨(some 14), .len (.t 13), none⟩,
⟨(some 7), .mv (.t 14), none⟩])
(.seq (.seq (.region [⟨(some 15), .mv (.t 7), none⟩,
⟨(some 16), .bin .num .eql (.t 15) (.c (.int .i64 0)), none⟩])
(.cond (.t 16)
(.seq (.region [⟨(some 17), .mv (.t 0), none⟩,
⟨(some 6), .mv (.t 17), none⟩])
.ret)
.skip))
(.seq (.region [⟨(some 18), .mv (.t 0), none⟩,
⟨(some 19), .len (.t 18), none⟩,
⟨(some 8), .mv (.t 19), none⟩])
(.seq (.seq (.region [⟨(some 20), .mv (.t 1), none⟩,
⟨(some 21), .mv (.t 8), none⟩,
⟨(some 22), .bin .num .eql (.t 20) (.t 21), none⟩])
(.cond (.t 22)
(.seq (.region [⟨(some 23), .mv (.t 0), none⟩,
⟨(some 24), .mv (.t 2), none⟩,
⟨(some 25), .append 2 32 (.t 23) (.t 24), none⟩,
⟨(some 6), .mv (.t 25), none⟩])
.ret)
.skip))
(.seq (.seq (.region [⟨(some 26), .mv (.t 8), none⟩,
⟨(some 27), .mv (.t 7), none⟩,
⟨(some 28), .bin .num .add (.t 26) (.t 27), none⟩,
⟨(some 29), .mv (.t 0), none⟩,
⟨(some 30), .cap (.t 29), none⟩,
⟨(some 31), .bin .num .gtr (.t 28) (.t 30), none⟩])
(.cond (.t 31)
(.seq (.region [⟨(some 32), .mv (.t 0), none⟩,
⟨(some 33), .mv (.t 1), none⟩,
⟨(some 34), .sliceS 2 (.t 32) none (some (.t 33)) none, none⟩,
⟨(some 35), .mv (.t 8), none⟩,
⟨(some 36), .mv (.t 7), none⟩,
⟨(some 37), .bin .num .add (.t 35) (.t 36), none⟩,
⟨(some 38), .mv (.t 1), none⟩,
⟨(some 39), .bin .num .sub (.t 37) (.t 38), none⟩,
⟨(some 40), .appendZ 32 [(.int .i64 0), (.slice none 0 0)] (.t 34) (.t 39), none⟩,
⟨(some 9), .mv (.t 40), none⟩])
(.seq (.region [⟨(some 41), .mv (.t 9), none⟩,
⟨(some 42), .mv (.t 1), none⟩,
⟨(some 43), .sliceS 2 (.t 41) (some (.t 42)) none none, none⟩,
⟨(some 44), .mv (.t 2), none⟩,
⟨(some 45), .copy 2 (.t 43) (.t 44), none⟩])
(.seq (.dregion [(0, ⟨(some 46), .mv (.t 9), none⟩, []),
(1, ⟨(some 47), .mv (.t 1), none⟩, []),
(2, ⟨(some 48), .mv (.t 7), none⟩, []),
(3, ⟨(some 49), .bin .num .add (.t 47) (.t 48), none⟩, []),
(4, ⟨(some 50), .sliceS 2 (.t 46) (some (.t 49)) none none, none⟩, []),
(5, ⟨(some 51), .mv (.t 0), none⟩, []),
(6, ⟨(some 52), .mv (.t 1), none⟩, []),
(7, ⟨(some 53), .sliceS 2 (.t 51) (some (.t 52)) none none, none⟩, [2]),
(8, ⟨(some 54), .copy 2 (.t 50) (.t 53), none⟩, [])])
(.seq (.region [⟨(some 55), .mv (.t 9), none⟩,
⟨(some 6), .mv (.t 55), none⟩])
.ret))))
.skip))
(.seq (.region [⟨(some 56), .mv (.t 0), none⟩,
⟨(some 57), .mv (.t 8), none⟩,
⟨(some 58), .mv (.t 7), none⟩,
⟨(some 59), .bin .num .add (.t 57) (.t 58), none⟩,
⟨(some 60), .sliceS 2 (.t 56) none (some (.t 59)) none, none⟩,
⟨(some 0), .mv (.t 60), none⟩])
(.seq (.seq (.region [⟨(some 61), .mv (.t 2), none⟩,
⟨(some 62), .mv (.t 0), none⟩,
⟨(some 63), .mv (.t 1), none⟩,
⟨(some 64), .mv (.t 7), none⟩,
⟨(some 65), .bin .num .add (.t 63) (.t 64), none⟩,
⟨(some 66), .sliceS 2 (.t 62) (some (.t 65)) none none, none⟩,
⟨(some 67), .call (.c (.func (.func 113) #[] #[])) [(.t 61), (.t 66)], none⟩,
⟨(some 68), .not (.t 67), none⟩])
(.cond (.t 68)
(.seq (.dregion [(0, ⟨(some 69), .mv (.t 0), none⟩, []),
(1, ⟨(some 70), .mv (.t 1), none⟩, []),
(2, ⟨(some 71), .mv (.t 7), none⟩, []),
(3, ⟨(some 72), .bin .num .add (.t 70) (.t 71), none⟩, []),
(4, ⟨(some 73), .sliceS 2 (.t 69) (some (.t 72)) none none, none⟩, []),
(5, ⟨(some 74), .mv (.t 0), none⟩, []),
(6, ⟨(some 75), .mv (.t 1), none⟩, []),
(7, ⟨(some 76), .sliceS 2 (.t 74) (some (.t 75)) none none, none⟩, [2]),
(8, ⟨(some 77), .copy 2 (.t 73) (.t 76), none⟩, [])])
(.seq (.region [⟨(some 78), .mv (.t 0), none⟩,
⟨(some 79), .mv (.t 1), none⟩,
⟨(some 80), .sliceS 2 (.t 78) (some (.t 79)) none none, none⟩,
⟨(some 81), .mv (.t 2), none⟩,
⟨(some 82), .copy 2 (.t 80) (.t 81), none⟩])
(.seq (.region [⟨(some 83), .mv (.t 0), none⟩,
⟨(some 6), .mv (.t 83), none⟩])
.ret)))
.skip))
(.seq (.region [⟨(some 84), .mv (.t 0), none⟩,
⟨(some 85), .mv (.t 8), none⟩,
⟨(some 86), .sliceS 2 (.t 84) (some (.t 85)) none none, none⟩,
⟨(some 87), .mv (.t 2), none⟩,
⟨(some 88), .copy 2 (.t 86) (.t 87), none⟩])
(.seq (.region [⟨(some 89), .mv (.t 0), none⟩,
⟨(some 90), .mv (.t 1), none⟩,
⟨(some 91), .sliceS 2 (.t 89) (some (.t 90)) none none, none⟩,
⟨(some 92), .mv (.t 7), none⟩,
⟨(some 93), .call (.c (.func (.func 114) #[] #[])) [(.t 91), (.t 92)], none⟩])
(.seq (.region [⟨(some 94), .mv (.t 0), none⟩,
⟨(some 6), .mv (.t 94), none⟩])
.ret))))))))))))⟩

theorem get37 (w : World) : (ctxW w).funcs.get 37 = some ir37 := by kernel_rfl
theorem get83 (w : World) : (ctxW w).funcs.get 83 = some ir83 := by kernel_rfl
theorem get59 (w : World) : (ctxW w).funcs.get 59 = some ir59 := by kernel_rfl
theorem get98 (w : World) : (ctxW w).funcs.get 98 = some ir98 := by kernel_rfl
theorem get99 (w : World) : (ctxW w).funcs.get 99 = some ir99 := by kernel_rfl
theorem get100 (w : World) : (ctxW w).funcs.get 100 = some ir100 := by kernel_rfl
theorem get101 (w : World) : (ctxW w).funcs.get 101 = some ir101 := by kernel_rfl
theorem get109 (w : World) : (ctxW w).funcs.get 109 = some ir109 := by kernel_rfl
theorem get110 (w : World) : (ctxW w).funcs.get 110 = some ir110 := by kernel_rfl
theorem get111 (w : World) : (ctxW w).funcs.get 111 = some ir111 := by kernel_rfl
end Go.Ai.Wire
