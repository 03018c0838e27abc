/-
  More functions of the program in the evaluator's own form (printed by program), and that they are the program's.
-/
import Derived.Test.YtlikgpehalhgkaaGreatPWIr
namespace Go.Ai.Wire
open Go.Proofs

/- riposte/riposteref25.SameEnd -/
def ir29 : IFunc := ⟨[.tmp 4],
(.seq (.region [⟨(some 2), .box 4 (.t 0), none⟩,
⟨(some 3), .box 4 (.t 1), none⟩,
⟨(some 4), .mv (.c (.bool false)), none⟩])
(.seq (.region [⟨(some 5), .faddr 0 (.t 2), none⟩,
⟨(some 6), .load1 (.t 5), none⟩,
⟨(some 7), .faddr 0 (.t 3), none⟩,
⟨(some 8), .load1 (.t 7), none⟩,
⟨(some 9), .bin .num .eql (.t 6) (.t 8), none⟩,
⟨(some 10), .mv (.t 9), none⟩,
⟨(some 11), .faddr 2 (.t 2), (some (10, true))⟩,
⟨(some 12), .load1 (.t 11), (some (10, true))⟩,
⟨(some 13), .faddr 2 (.t 3), (some (10, true))⟩,
⟨(some 14), .load1 (.t 13), (some (10, true))⟩,
⟨(some 15), .bin .num .eql (.t 12) (.t 14), (some (10, true))⟩,
⟨(some 16), .pick (.t 10) (.t 15) (.c (.bool false)), none⟩,
⟨(some 17), .mv (.t 16), none⟩,
⟨(some 18), .faddr 1 (.t 2), (some (17, true))⟩,
⟨(some 19), .load1 (.t 18), (some (17, true))⟩,
⟨(some 20), .faddr 1 (.t 3), (some (17, true))⟩,
⟨(some 21), .load1 (.t 20), (some (17, true))⟩,
⟨(some 22), .call (.c (.func (.func 52) #[] #[])) [(.t 19), (.t 21)], (some (17, true))⟩,
⟨(some 23), .pick (.t 17) (.t 22) (.c (.bool false)), none⟩,
⟨(some 24), .mv (.t 23), none⟩,
⟨(some 25), .faddr 3 (.t 2), (some (24, true))⟩,
⟨(some 26), .load1 (.t 25), (some (24, true))⟩,
⟨(some 27), .faddr 3 (.t 3), (some (24, true))⟩,
⟨(some 28), .load1 (.t 27), (some (24, true))⟩,
⟨(some 29), .call (.c (.func (.func 52) #[] #[])) [(.t 26), (.t 28)], (some (24, true))⟩,
⟨(some 30), .pick (.t 24) (.t 29) (.c (.bool false)), none⟩,
⟨(some 4), .mv (.t 30), none⟩])
.ret))⟩

/- riposte/riposteref25.SameFrames -/
def ir13 : IFunc := ⟨[.tmp 4],
(.seq (.region [⟨(some 4), .mv (.c (.bool false)), none⟩])
(.seq (.seq (.region [⟨(some 6), .mv (.t 0), none⟩,
⟨(some 7), .len (.t 6), none⟩,
⟨(some 8), .mv (.t 1), none⟩,
⟨(some 9), .len (.t 8), none⟩,
⟨(some 10), .bin .num .neq (.t 7) (.t 9), none⟩])
(.cond (.t 10)
(.seq (.region [⟨(some 4), .mv (.c (.bool false)), none⟩])
.ret)
.skip))
(.seq (.seq (.region [⟨(some 5), .mv (.c (.int .i64 0)), none⟩])
(.block 0
(.loop
(.seq (.seq (.region [⟨(some 11), .mv (.t 5), none⟩,
⟨(some 12), .mv (.t 0), none⟩,
⟨(some 13), .len (.t 12), none⟩,
⟨(some 14), .bin .num .lss (.t 11) (.t 13), none⟩])
(.cond (.t 14)
.skip
(.exit 0)))
(.seq (.block 1
(.seq (.dregion [(0, ⟨(some 17), .mv (.t 0), none⟩, []),
(1, ⟨(some 18), .mv (.t 5), none⟩, []),
(2, ⟨(some 19), .idxS 1 (.t 17) (.t 18), none⟩, []),
(3, ⟨(some 20), .load1 (.t 19), none⟩, []),
(4, ⟨(some 21), .toStr (.t 20), none⟩, []),
(5, ⟨(some 22), .mv (.t 1), none⟩, []),
(6, ⟨(some 23), .mv (.t 5), none⟩, []),
(7, ⟨(some 24), .idxS 1 (.t 22) (.t 23), none⟩, []),
(8, ⟨(some 25), .load1 (.t 24), none⟩, [3, 4]),
(9, ⟨(some 26), .toStr (.t 25), none⟩, [4, 5]),
(10, ⟨(some 27), .bin .str .neq (.t 21) (.t 26), none⟩, [])])
(.cond (.t 27)
(.seq (.region [⟨(some 4), .mv (.c (.bool false)), none⟩])
.ret)
.skip)))
(.region [⟨(some 15), .mv (.t 5), none⟩,
⟨(some 16), .bin .num .add (.t 15) (.c (.int .i64 1)), none⟩,
⟨(some 5), .mv (.t 16), none⟩]))))))
(.seq (.region [⟨(some 4), .mv (.c (.bool true)), none⟩])
.ret))))⟩

/- riposte/riposteref25.Send -/
def ir33 : IFunc := ⟨[.cellN 4 4, .tmp 5, .tmp 6],
(.seq (.region [⟨(some 2), .box 4 (.t 0), none⟩,
⟨(some 4), .mk [(.int .i64 0), (.slice none 0 0), (.int .i64 0), (.slice none 0 0)], none⟩,
⟨(some 5), .mv (.c (.slice none 0 0)), none⟩,
⟨(some 6), .mv (.c (.int .i64 0)), none⟩])
(.seq (.block 0
(.seq (.region [⟨(some 11), .loadN 4 (.t 2), none⟩,
⟨(some 12), .call (.c (.func (.func 50) #[] #[])) [(.t 11)], none⟩,
⟨(some 13), .not (.t 12), none⟩,
⟨(some 10), .mv (.t 13), none⟩])
(.cond (.t 10)
(.seq (.region [⟨(some 14), .build [(.int .i64 0), (.slice none 0 0), (.int .i64 0), (.slice none 0 0)] [], none⟩,
⟨none, .store 4 (.t 4) (.t 14), none⟩,
⟨(some 5), .mv (.c (.slice none 0 0)), none⟩,
⟨(some 6), .mv (.c (.int .i64 4)), none⟩])
.ret)
(.seq (.region [⟨(some 16), .mv (.t 1), none⟩,
⟨(some 17), .call (.c (.func (.func 55) #[] #[])) [(.t 16)], none⟩,
⟨(some 18), .not (.t 17), none⟩,
⟨(some 15), .mv (.t 18), none⟩])
(.cond (.t 15)
(.seq (.region [⟨(some 19), .build [(.int .i64 0), (.slice none 0 0), (.int .i64 0), (.slice none 0 0)] [], none⟩,
⟨none, .store 4 (.t 4) (.t 19), none⟩,
⟨(some 5), .mv (.c (.slice none 0 0)), none⟩,
⟨(some 6), .mv (.c (.int .i64 2)), none⟩])
.ret)
(.seq (.region [⟨(some 21), .faddr 0 (.t 2), none⟩,
⟨(some 22), .load1 (.t 21), none⟩,
⟨(some 23), .bin .num .eql (.t 22) (.c (.int .i64 60000)), none⟩,
⟨(some 20), .mv (.t 23), none⟩])
(.cond (.t 20)
(.seq (.region [⟨(some 24), .build [(.int .i64 0), (.slice none 0 0), (.int .i64 0), (.slice none 0 0)] [], none⟩,
⟨none, .store 4 (.t 4) (.t 24), none⟩,
⟨(some 5), .mv (.c (.slice none 0 0)), none⟩,
⟨(some 6), .mv (.c (.int .i64 5)), none⟩])
.ret)
(.seq (.region [⟨(some 26), .faddr 1 (.t 2), none⟩,
⟨(some 27), .load1 (.t 26), none⟩,
⟨(some 28), .len (.t 27), none⟩,
⟨(some 29), .bin .num .eql (.t 28) (.c (.int .i64 8)), none⟩,
⟨(some 25), .mv (.t 29), none⟩])
(.cond (.t 25)
(.seq (.region [⟨(some 30), .build [(.int .i64 0), (.slice none 0 0), (.int .i64 0), (.slice none 0 0)] [], none⟩,
⟨none, .store 4 (.t 4) (.t 30), none⟩,
⟨(some 5), .mv (.c (.slice none 0 0)), none⟩,
⟨(some 6), .mv (.c (.int .i64 8)), none⟩])
.ret)
.skip)))))))))
(.seq (.region [⟨(some 31), .loadN 4 (.t 2), none⟩,
⟨(some 32), .call (.c (.func (.func 26) #[] #[])) [(.t 31)], none⟩,
⟨(some 7), .mk [(.int .i64 0), (.slice none 0 0), (.int .i64 0), (.slice none 0 0)], none⟩,
⟨none, .store 4 (.t 7) (.t 32), none⟩])
(.seq (.region [⟨(some 33), .faddr 0 (.t 7), none⟩,
⟨(some 34), .load1 (.t 33), none⟩,
⟨(some 35), .bin .num .add (.t 34) (.c (.int .i64 1)), none⟩,
⟨(some 36), .faddr 0 (.t 7), none⟩,
⟨none, .store 1 (.t 36) (.t 35), none⟩])
(.seq (.dregion [(0, ⟨(some 37), .faddr 1 (.t 7), none⟩, []),
(1, ⟨(some 38), .load1 (.t 37), none⟩, []),
(2, ⟨(some 39), .faddr 0 (.t 7), none⟩, []),
(3, ⟨(some 40), .load1 (.t 39), none⟩, [1]),
(4, ⟨(some 41), .buildSlice 0 [] [], none⟩, [0, 2]),
(5, ⟨(some 42), .mv (.t 1), none⟩, []),
(6, ⟨(some 43), .append 1 1 (.t 41) (.t 42), none⟩, [2, 4]),
(7, ⟨(some 44), .build [(.int .i64 0), (.slice none 0 0)] [(0, 1, (.t 40)), (1, 1, (.t 43))], none⟩, []),
(8, ⟨(some 45), .buildSlice 1 [(.int .i64 0), (.slice none 0 0)] [(0, 2, (.t 44))], none⟩, [6]),
(9, ⟨(some 46), .append 2 32 (.t 38) (.t 45), none⟩, []),
(10, ⟨(some 47), .faddr 1 (.t 7), none⟩, []),
(11, ⟨none, .store 1 (.t 47) (.t 46), none⟩, [])])
(.seq (.region [⟨(some 49), .faddr 0 (.t 7), none⟩,
⟨(some 50), .load1 (.t 49), none⟩,
⟨(some 51), .faddr 2 (.t 7), none⟩,
⟨(some 52), .load1 (.t 51), none⟩,
⟨(some 53), .mv (.t 1), none⟩,
⟨(some 54), .build [(.int .i64 0), (.int .i64 0), (.slice none 0 0)] [(0, 1, (.t 50)), (1, 1, (.t 52)), (2, 1, (.t 53))], none⟩,
⟨(some 55), .call (.c (.func (.func 57) #[] #[])) [(.t 54)], none⟩,
⟨(some 48), .mv (.t 55), none⟩,
⟨(some 56), .extract 0 (.t 48), none⟩,
⟨(some 57), .extract 1 (.t 48), none⟩,
⟨(some 8), .mv (.t 56), none⟩,
⟨(some 9), .mv (.t 57), none⟩])
(.seq (.region [⟨(some 58), .loadN 4 (.t 7), none⟩,
⟨(some 59), .mv (.t 8), none⟩,
⟨none, .store 4 (.t 4) (.t 58), none⟩,
⟨(some 5), .mv (.t 59), none⟩,
⟨(some 6), .mv (.c (.int .i64 0)), none⟩])
.ret)))))))⟩

/- riposte/riposteref25.Again -/
def ir35 : IFunc := ⟨[.tmp 2, .tmp 3],
(.seq (.region [⟨(some 1), .box 4 (.t 0), none⟩,
⟨(some 2), .mv (.c (.slice none 0 0)), none⟩,
⟨(some 3), .mv (.c (.int .i64 0)), none⟩])
(.seq (.seq (.region [⟨(some 8), .loadN 4 (.t 1), none⟩,
⟨(some 9), .call (.c (.func (.func 50) #[] #[])) [(.t 8)], none⟩,
⟨(some 10), .not (.t 9), none⟩])
(.cond (.t 10)
(.seq (.region [⟨(some 2), .mv (.c (.slice none 0 0)), none⟩,
⟨(some 3), .mv (.c (.int .i64 4)), none⟩])
.ret)
.skip))
(.seq (.region [⟨(some 4), .mv (.c (.slice none 0 0)), none⟩])
(.seq (.seq (.region [⟨(some 5), .mv (.c (.int .i64 0)), none⟩])
(.block 0
(.loop
(.seq (.seq (.region [⟨(some 11), .mv (.t 5), none⟩,
⟨(some 12), .faddr 1 (.t 1), none⟩,
⟨(some 13), .load1 (.t 12), none⟩,
⟨(some 14), .len (.t 13), none⟩,
⟨(some 15), .bin .num .lss (.t 11) (.t 14), none⟩])
(.cond (.t 15)
.skip
(.exit 0)))
(.seq (.block 1
(.seq (.dregion [(0, ⟨(some 19), .faddr 1 (.t 1), none⟩, []),
(1, ⟨(some 20), .load1 (.t 19), none⟩, []),
(2, ⟨(some 21), .mv (.t 5), none⟩, []),
(3, ⟨(some 22), .idxS 2 (.t 20) (.t 21), none⟩, []),
(4, ⟨(some 23), .faddr 0 (.t 22), none⟩, []),
(5, ⟨(some 24), .load1 (.t 23), none⟩, []),
(6, ⟨(some 25), .faddr 2 (.t 1), none⟩, []),
(7, ⟨(some 26), .load1 (.t 25), none⟩, [1, 5]),
(8, ⟨(some 27), .faddr 1 (.t 1), none⟩, []),
(9, ⟨(some 28), .load1 (.t 27), none⟩, [1, 3, 7]),
(10, ⟨(some 29), .mv (.t 5), none⟩, []),
(11, ⟨(some 30), .idxS 2 (.t 28) (.t 29), none⟩, []),
(12, ⟨(some 31), .faddr 1 (.t 30), none⟩, []),
(13, ⟨(some 32), .load1 (.t 31), none⟩, [5, 7, 11]),
(14, ⟨(some 33), .build [(.int .i64 0), (.int .i64 0), (.slice none 0 0)] [(0, 1, (.t 24)), (1, 1, (.t 26)), (2, 1, (.t 32))], none⟩, []),
(15, ⟨(some 34), .call (.c (.func (.func 57) #[] #[])) [(.t 33)], none⟩, []),
(16, ⟨(some 18), .mv (.t 34), none⟩, []),
(17, ⟨(some 35), .extract 0 (.t 18), none⟩, []),
(18, ⟨(some 36), .extract 1 (.t 18), none⟩, []),
(19, ⟨(some 6), .mv (.t 35), none⟩, []),
(20, ⟨(some 7), .mv (.t 36), none⟩, [])])
(.region [⟨(some 37), .mv (.t 4), none⟩,
⟨(some 38), .mv (.t 6), none⟩,
⟨(some 39), .buildSlice 1 [(.slice none 0 0)] [(0, 1, (.t 38))], none⟩,
⟨(some 40), .append 1 24 (.t 37) (.t 39), none⟩,
⟨(some 4), .mv (.t 40), none⟩])))
(.region [⟨(some 16), .mv (.t 5), none⟩,
⟨(some 17), .bin .num .add (.t 16) (.c (.int .i64 1)), none⟩,
⟨(some 5), .mv (.t 17), none⟩]))))))
(.seq (.region [⟨(some 41), .mv (.t 4), none⟩,
⟨(some 2), .mv (.t 41), none⟩,
⟨(some 3), .mv (.c (.int .i64 0)), none⟩])
.ret)))))⟩

/- riposte/riposteref25.sameItems -/
def ir52 : IFunc := ⟨[.tmp 4],
(.seq (.region [⟨(some 4), .mv (.c (.bool false)), none⟩])
(.seq (.seq (.region [⟨(some 6), .mv (.t 0), none⟩,
⟨(some 7), .len (.t 6), none⟩,
⟨(some 8), .mv (.t 1), none⟩,
⟨(some 9), .len (.t 8), none⟩,
⟨(some 10), .bin .num .neq (.t 7) (.t 9), none⟩])
(.cond (.t 10)
(.seq (.region [⟨(some 4), .mv (.c (.bool false)), none⟩])
.ret)
.skip))
(.seq (.seq (.region [⟨(some 5), .mv (.c (.int .i64 0)), none⟩])
(.block 0
(.loop
(.seq (.seq (.region [⟨(some 11), .mv (.t 5), none⟩,
⟨(some 12), .mv (.t 0), none⟩,
⟨(some 13), .len (.t 12), none⟩,
⟨(some 14), .bin .num .lss (.t 11) (.t 13), none⟩])
(.cond (.t 14)
.skip
(.exit 0)))
(.seq (.block 1
(.seq (.dregion [(0, ⟨(some 17), .mv (.t 0), none⟩, []),
(1, ⟨(some 18), .mv (.t 5), none⟩, []),
(2, ⟨(some 19), .idxS 2 (.t 17) (.t 18), none⟩, []),
(3, ⟨(some 20), .faddr 0 (.t 19), none⟩, []),
(4, ⟨(some 21), .load1 (.t 20), none⟩, []),
(5, ⟨(some 22), .mv (.t 1), none⟩, []),
(6, ⟨(some 23), .mv (.t 5), none⟩, []),
(7, ⟨(some 24), .idxS 2 (.t 22) (.t 23), none⟩, []),
(8, ⟨(some 25), .faddr 0 (.t 24), none⟩, []),
(9, ⟨(some 26), .load1 (.t 25), none⟩, [4]),
(10, ⟨(some 27), .bin .num .neq (.t 21) (.t 26), none⟩, []),
(11, ⟨(some 28), .mv (.t 27), none⟩, []),
(12, ⟨(some 29), .mv (.t 0), (some (28, false))⟩, []),
(13, ⟨(some 30), .mv (.t 5), (some (28, false))⟩, []),
(14, ⟨(some 31), .idxS 2 (.t 29) (.t 30), (some (28, false))⟩, []),
(15, ⟨(some 32), .faddr 1 (.t 31), (some (28, false))⟩, []),
(16, ⟨(some 33), .load1 (.t 32), (some (28, false))⟩, []),
(17, ⟨(some 34), .toStr (.t 33), (some (28, false))⟩, []),
(18, ⟨(some 35), .mv (.t 1), (some (28, false))⟩, []),
(19, ⟨(some 36), .mv (.t 5), (some (28, false))⟩, []),
(20, ⟨(some 37), .idxS 2 (.t 35) (.t 36), (some (28, false))⟩, []),
(21, ⟨(some 38), .faddr 1 (.t 37), (some (28, false))⟩, []),
(22, ⟨(some 39), .load1 (.t 38), (some (28, false))⟩, [4, 5]),
(23, ⟨(some 40), .toStr (.t 39), (some (28, false))⟩, [5, 6]),
(24, ⟨(some 41), .bin .str .neq (.t 34) (.t 40), (some (28, false))⟩, []),
(25, ⟨(some 42), .pick (.t 28) (.c (.bool true)) (.t 41), none⟩, [])])
(.cond (.t 42)
(.seq (.region [⟨(some 4), .mv (.c (.bool false)), none⟩])
.ret)
.skip)))
(.region [⟨(some 15), .mv (.t 5), none⟩,
⟨(some 16), .bin .num .add (.t 15) (.c (.int .i64 1)), none⟩,
⟨(some 5), .mv (.t 16), none⟩]))))))
(.seq (.region [⟨(some 4), .mv (.c (.bool true)), none⟩])
.ret))))⟩

/- (*riposte/wire.end).send -/
def ir94 : IFunc := ⟨[.tmp 4, .tmp 5],
(.seq (.region [⟨(some 4), .mv (.c (.slice none 0 0)), none⟩,
⟨(some 5), .mv (.c (.int .i64 0)), none⟩])
(.seq (.block 0
(.seq (.region [⟨(some 8), .mv (.t 0), none⟩,
⟨(some 9), .nilCheck (.t 8), none⟩,
⟨(some 10), .faddr 0 (.t 9), none⟩,
⟨(some 11), .faddr 0 (.t 10), none⟩,
⟨(some 12), .load1 (.t 11), none⟩,
⟨(some 13), .bin .num .eql (.t 12) (.c (.int .i64 60000)), none⟩,
⟨(some 7), .mv (.t 13), none⟩])
(.cond (.t 7)
(.seq (.region [⟨(some 4), .mv (.c (.slice none 0 0)), none⟩,
⟨(some 5), .mv (.c (.int .i64 5)), none⟩])
.ret)
(.seq (.region [⟨(some 15), .mv (.t 0), none⟩,
⟨(some 16), .nilCheck (.t 15), none⟩,
⟨(some 17), .faddr 0 (.t 16), none⟩,
⟨(some 18), .faddr 1 (.t 17), none⟩,
⟨(some 19), .load1 (.t 18), none⟩,
⟨(some 20), .len (.t 19), none⟩,
⟨(some 21), .bin .num .eql (.t 20) (.c (.int .i64 8)), none⟩,
⟨(some 14), .mv (.t 21), none⟩])
(.cond (.t 14)
(.seq (.region [⟨(some 4), .mv (.c (.slice none 0 0)), none⟩,
⟨(some 5), .mv (.c (.int .i64 8)), none⟩])
.ret)
.skip)))))
(.seq (.region [⟨(some 22), .mv (.t 0), none⟩,
⟨(some 23), .nilCheck (.t 22), none⟩,
⟨(some 24), .faddr 0 (.t 23), none⟩,
⟨(some 25), .faddr 0 (.t 24), none⟩,
⟨(some 26), .load1 (.t 25), none⟩,
⟨(some 27), .bin .num .add (.t 26) (.c (.int .i64 1)), none⟩,
⟨(some 28), .nilCheck (.t 22), none⟩,
⟨(some 29), .faddr 0 (.t 28), none⟩,
⟨(some 30), .faddr 0 (.t 29), none⟩,
⟨none, .store 1 (.t 30) (.t 27), none⟩])
(.seq (.dregion [(5, ⟨(some 36), .mv (.t 1), none⟩, []),
(6, ⟨(some 37), .call (.c (.func (.func 73) #[] #[])) [(.t 36)], none⟩, []),
(0, ⟨(some 31), .mv (.t 0), none⟩, []),
(1, ⟨(some 32), .nilCheck (.t 31), none⟩, []),
(2, ⟨(some 33), .faddr 0 (.t 32), none⟩, []),
(3, ⟨(some 34), .faddr 0 (.t 33), none⟩, []),
(4, ⟨(some 35), .load1 (.t 34), none⟩, [4]),
(7, ⟨(some 38), .build [(.int .i64 0), (.slice none 0 0)] [(0, 1, (.t 35)), (1, 1, (.t 37))], none⟩, []),
(8, ⟨(some 6), .mk [(.int .i64 0), (.slice none 0 0)], none⟩, [1, 6]),
(9, ⟨none, .store 2 (.t 6) (.t 38), none⟩, [])])
(.seq (.dregion [(0, ⟨(some 39), .mv (.t 0), none⟩, []),
(1, ⟨(some 40), .mv (.t 0), none⟩, []),
(2, ⟨(some 41), .nilCheck (.t 40), none⟩, []),
(3, ⟨(some 42), .faddr 0 (.t 41), none⟩, []),
(4, ⟨(some 43), .faddr 1 (.t 42), none⟩, []),
(5, ⟨(some 44), .load1 (.t 43), none⟩, []),
(6, ⟨(some 45), .loadN 2 (.t 6), none⟩, [0]),
(7, ⟨(some 46), .buildSlice 1 [(.int .i64 0), (.slice none 0 0)] [(0, 2, (.t 45))], none⟩, [1]),
(8, ⟨(some 47), .append 2 32 (.t 44) (.t 46), none⟩, []),
(9, ⟨(some 48), .nilCheck (.t 39), none⟩, []),
(10, ⟨(some 49), .faddr 0 (.t 48), none⟩, []),
(11, ⟨(some 50), .faddr 1 (.t 49), none⟩, []),
(12, ⟨none, .store 1 (.t 50) (.t 47), none⟩, [])])
(.seq (.region [⟨(some 51), .mv (.t 0), none⟩,
⟨(some 52), .loadN 2 (.t 6), none⟩,
⟨(some 53), .call (.c (.func (.func 105) #[] #[])) [(.t 51), (.t 52)], none⟩,
⟨(some 4), .mv (.t 53), none⟩,
⟨(some 5), .mv (.c (.int .i64 0)), none⟩])
.ret))))))⟩

/- (*riposte/wire.end).again -/
def ir95 : IFunc := ⟨[.tmp 2],
(.seq (.region [⟨(some 1), .box 1 (.t 0), none⟩,
⟨(some 2), .mv (.c .nilFunc), none⟩])
(.seq (.region [⟨(some 3), .mkfn (.func 106) [] [(.t 1)], none⟩,
⟨(some 2), .mv (.t 3), none⟩])
.ret))⟩

/- (*riposte/wire.end).of -/
def ir105 : IFunc := ⟨[.tmp 4],
(.seq (.region [⟨(some 3), .box 2 (.t 1), none⟩,
⟨(some 4), .mv (.c (.slice none 0 0)), none⟩])
(.seq (.dregion [(0, ⟨(some 5), .faddr 0 (.t 3), none⟩, []),
(1, ⟨(some 6), .load1 (.t 5), none⟩, []),
(2, ⟨(some 7), .mv (.t 0), none⟩, []),
(3, ⟨(some 8), .nilCheck (.t 7), none⟩, []),
(4, ⟨(some 9), .faddr 0 (.t 8), none⟩, []),
(5, ⟨(some 10), .faddr 2 (.t 9), none⟩, []),
(6, ⟨(some 11), .load1 (.t 10), none⟩, [4]),
(7, ⟨(some 12), .faddr 1 (.t 3), none⟩, []),
(8, ⟨(some 13), .load1 (.t 12), none⟩, [1, 6]),
(9, ⟨(some 14), .build [(.int .i64 0), (.int .i64 0), (.slice none 0 0)] [(0, 1, (.t 6)), (1, 1, (.t 11)), (2, 1, (.t 13))], none⟩, []),
(10, ⟨(some 15), .build [(.int .i64 0), (.int .i64 0), (.slice none 0 0)] [(0, 3, (.t 14))], none⟩, []),
(11, ⟨(some 16), .call (.c (.func (.func 39) #[] #[])) [(.t 15)], none⟩, []),
(12, ⟨(some 4), .mv (.t 16), none⟩, [])])
.ret))⟩

/- (*riposte/wire.end).again$1 -/
def ir106 : IFunc := ⟨[],
(.seq (.region [⟨(some 5), .load1 (.t 1), none⟩,
⟨(some 6), .nilCheck (.t 5), none⟩,
⟨(some 7), .faddr 0 (.t 6), none⟩,
⟨(some 8), .faddr 1 (.t 7), none⟩,
⟨(some 9), .load1 (.t 8), none⟩,
⟨(some 10), .len (.t 9), none⟩,
⟨(some 11), .mv (.c (.int .i64 0)), none⟩])
(.block 0
(.loop
(.seq (.region [⟨(some 12), .bin .num .lss (.t 11) (.t 10), none⟩])
(.seq (.cond (.t 12)
.skip
(.exit 0))
(.seq (.block 1
(.seq (.region [⟨(some 13), .idxS 2 (.t 9) (.t 11), none⟩,
⟨(some 14), .loadN 2 (.t 13), none⟩,
⟨(some 4), .mk [(.int .i64 0), (.slice none 0 0)], none⟩,
⟨none, .store 2 (.t 4) (.t 14), none⟩])
(.seq (.region [⟨(some 15), .mv (.t 0), none⟩,
⟨(some 16), .load1 (.t 1), none⟩,
⟨(some 17), .loadN 2 (.t 4), none⟩,
⟨(some 18), .call (.c (.func (.func 105) #[] #[])) [(.t 16), (.t 17)], none⟩,
⟨(some 19), .call (.t 15) [(.t 18)], none⟩,
⟨(some 20), .not (.t 19), none⟩])
(.cond (.t 20)
.ret
.skip))))
(.region [⟨(some 21), .bin .num .add (.t 11) (.c (.int .i64 1)), none⟩,
⟨(some 11), .mv (.t 21), none⟩])))))))⟩

theorem get29 (w : World) : (ctxW w).funcs.get 29 = some ir29 := by kernel_rfl
theorem get13 (w : World) : (ctxW w).funcs.get 13 = some ir13 := by kernel_rfl
theorem get33 (w : World) : (ctxW w).funcs.get 33 = some ir33 := by kernel_rfl
theorem get35 (w : World) : (ctxW w).funcs.get 35 = some ir35 := by kernel_rfl
theorem get52 (w : World) : (ctxW w).funcs.get 52 = some ir52 := by kernel_rfl
theorem get94 (w : World) : (ctxW w).funcs.get 94 = some ir94 := by kernel_rfl
theorem get95 (w : World) : (ctxW w).funcs.get 95 = some ir95 := by kernel_rfl
theorem get105 (w : World) : (ctxW w).funcs.get 105 = some ir105 := by kernel_rfl
theorem get106 (w : World) : (ctxW w).funcs.get 106 = some ir106 := by kernel_rfl
end Go.Ai.Wire
