/-
  More functions of the program in the evaluator's own form (printed by program), and that they are the program's.
-/
import Derived.Test.YtlikgpehalhgkaaGreatPWIr
namespace Go.Ai.Wire
open Go.Proofs

/- riposte/ripostelaw25.WirePlays -/
def ir3 : IFunc := ⟨[.tmp 4],
(.seq (.region [⟨(some 2), .box 9 (.t 0), none⟩,
⟨(some 4), .mv (.c (.bool false)), none⟩])
(.seq (.seq (.region [⟨(some 12), .loadN 9 (.t 2), none⟩,
⟨(some 13), .call (.c (.func (.func 6) #[] #[])) [(.t 12)], none⟩,
⟨(some 14), .not (.t 13), none⟩,
⟨(some 15), .mv (.t 14), none⟩,
⟨(some 16), .mv (.t 1), (some (15, false))⟩,
⟨(some 17), .len (.t 16), (some (15, false))⟩,
⟨(some 18), .bin .num .gtr (.t 17) (.c (.int .i64 60)), (some (15, false))⟩,
⟨(some 19), .pick (.t 15) (.c (.bool true)) (.t 18), none⟩])
(.cond (.t 19)
(.seq (.region [⟨(some 20), .call (.c (.func (.func 7) #[] #[])) [], none⟩,
⟨(some 4), .mv (.t 20), none⟩])
.ret)
.skip))
(.seq (.seq (.region [⟨(some 5), .mv (.c (.int .i64 0)), none⟩])
(.block 0
(.loop
(.seq (.seq (.region [⟨(some 21), .mv (.t 5), none⟩,
⟨(some 22), .mv (.t 1), none⟩,
⟨(some 23), .len (.t 22), none⟩,
⟨(some 24), .bin .num .lss (.t 21) (.t 23), none⟩])
(.cond (.t 24)
.skip
(.exit 0)))
(.seq (.block 1
(.seq (.region [⟨(some 27), .mv (.t 1), none⟩,
⟨(some 28), .mv (.t 5), none⟩,
⟨(some 29), .idxS 6 (.t 27) (.t 28), none⟩,
⟨(some 30), .faddr 5 (.t 29), none⟩,
⟨(some 31), .load1 (.t 30), none⟩,
⟨(some 32), .len (.t 31), none⟩,
⟨(some 33), .bin .num .gtr (.t 32) (.c (.int .i64 500)), none⟩])
(.cond (.t 33)
(.seq (.region [⟨(some 34), .call (.c (.func (.func 7) #[] #[])) [], none⟩,
⟨(some 4), .mv (.t 34), none⟩])
.ret)
.skip)))
(.region [⟨(some 25), .mv (.t 5), none⟩,
⟨(some 26), .bin .num .add (.t 25) (.c (.int .i64 1)), none⟩,
⟨(some 5), .mv (.t 26), none⟩]))))))
(.seq (.region [⟨(some 36), .loadN 9 (.t 2), none⟩,
⟨(some 37), .call (.c (.func (.func 9) #[] #[])) [(.t 36)], none⟩,
⟨(some 38), .mv (.t 1), none⟩,
⟨(some 39), .call (.c (.func (.func 10) #[] #[])) [(.t 38)], none⟩,
⟨(some 40), .call (.c (.func (.func 8) #[] #[])) [(.t 37), (.t 39)], none⟩,
⟨(some 35), .mv (.t 40), none⟩,
⟨(some 41), .extract 0 (.t 35), none⟩,
⟨(some 42), .extract 1 (.t 35), none⟩,
⟨(some 43), .extract 2 (.t 35), none⟩,
⟨(some 6), .mk [(.int .i64 0), (.slice none 0 0), (.int .i64 0), (.slice none 0 0), (.int .i64 0), (.slice none 0 0), (.int .i64 0), (.slice none 0 0), (.slice none 0 0)], none⟩,
⟨(some 7), .mk [(.slice none 0 0), (.slice none 0 0)], none⟩,
⟨none, .store 9 (.t 6) (.t 41), none⟩,
⟨none, .store 2 (.t 7) (.t 42), none⟩,
⟨(some 8), .mv (.t 43), none⟩])
(.seq (.region [⟨(some 45), .loadN 9 (.t 2), none⟩,
⟨(some 46), .mv (.t 1), none⟩,
⟨(some 47), .call (.c (.func (.func 11) #[] #[])) [(.t 45), (.t 46)], none⟩,
⟨(some 44), .mv (.t 47), none⟩,
⟨(some 48), .extract 0 (.t 44), none⟩,
⟨(some 49), .extract 1 (.t 44), none⟩,
⟨(some 50), .extract 2 (.t 44), none⟩,
⟨(some 9), .mk [(.int .i64 0), (.slice none 0 0), (.int .i64 0), (.slice none 0 0), (.int .i64 0), (.slice none 0 0), (.int .i64 0), (.slice none 0 0), (.slice none 0 0)], none⟩,
⟨(some 10), .mk [(.slice none 0 0), (.slice none 0 0)], none⟩,
⟨none, .store 9 (.t 9) (.t 48), none⟩,
⟨none, .store 2 (.t 10) (.t 49), none⟩,
⟨(some 11), .mv (.t 50), none⟩])
(.seq (.region [⟨(some 51), .mv (.t 8), none⟩,
⟨(some 52), .mv (.t 11), none⟩,
⟨(some 53), .bin .num .eql (.t 51) (.t 52), none⟩,
⟨(some 54), .mv (.t 53), none⟩,
⟨(some 55), .loadN 9 (.t 6), (some (54, true))⟩,
⟨(some 56), .loadN 9 (.t 9), (some (54, true))⟩,
⟨(some 57), .call (.c (.func (.func 12) #[] #[])) [(.t 55), (.t 56)], (some (54, true))⟩,
⟨(some 58), .pick (.t 54) (.t 57) (.c (.bool false)), none⟩,
⟨(some 59), .mv (.t 58), none⟩,
⟨(some 60), .idxA 2 1 (.t 7) (.c (.int .i64 0)), (some (59, true))⟩,
⟨(some 61), .load1 (.t 60), (some (59, true))⟩,
⟨(some 62), .idxA 2 1 (.t 10) (.c (.int .i64 0)), (some (59, true))⟩,
⟨(some 63), .load1 (.t 62), (some (59, true))⟩,
⟨(some 64), .call (.c (.func (.func 13) #[] #[])) [(.t 61), (.t 63)], (some (59, true))⟩,
⟨(some 65), .pick (.t 59) (.t 64) (.c (.bool false)), none⟩,
⟨(some 66), .mv (.t 65), none⟩,
⟨(some 67), .idxA 2 1 (.t 7) (.c (.int .i64 1)), (some (66, true))⟩,
⟨(some 68), .load1 (.t 67), (some (66, true))⟩,
⟨(some 69), .idxA 2 1 (.t 10) (.c (.int .i64 1)), (some (66, true))⟩,
⟨(some 70), .load1 (.t 69), (some (66, true))⟩,
⟨(some 71), .call (.c (.func (.func 13) #[] #[])) [(.t 68), (.t 70)], (some (66, true))⟩,
⟨(some 72), .pick (.t 66) (.t 71) (.c (.bool false)), none⟩,
⟨(some 73), .mv (.t 72), none⟩,
⟨(some 74), .call (.c (.func (.func 7) #[] #[])) [], (some (73, true))⟩,
⟨(some 75), .pick (.t 73) (.t 74) (.c (.bool false)), none⟩,
⟨(some 4), .mv (.t 75), none⟩])
.ret))))))⟩

/- riposte/ripostelaw25.WireSettles -/
/- riposte/ripostelaw25.WireActs -/
/- riposte/wire.Play -/
def ir8 : IFunc := ⟨[.cellN 4 9, .cellN 5 2, .tmp 6],
(.seq (.region [⟨(some 2), .box 9 (.t 0), none⟩,
⟨(some 4), .mk [(.int .i64 0), (.slice none 0 0), (.int .i64 0), (.slice none 0 0), (.int .i64 0), (.slice none 0 0), (.int .i64 0), (.slice none 0 0), (.slice none 0 0)], none⟩,
⟨(some 5), .mk [(.slice none 0 0), (.slice none 0 0)], none⟩,
⟨(some 6), .mv (.c (.int .i64 0)), none⟩])
(.seq (.region [⟨(some 13), .loadN 9 (.t 2), none⟩,
⟨(some 14), .call (.c (.func (.func 23) #[] #[])) [(.t 13)], none⟩,
⟨(some 12), .mv (.t 14), none⟩,
⟨(some 15), .extract 0 (.t 12), none⟩,
⟨(some 16), .extract 1 (.t 12), none⟩,
⟨(some 7), .mv (.t 15), none⟩,
⟨(some 8), .mv (.t 16), none⟩])
(.seq (.seq (.region [⟨(some 17), .mv (.t 8), none⟩,
⟨(some 18), .bin .num .neq (.t 17) (.c (.int .i64 0)), none⟩])
(.cond (.t 18)
(.seq (.region [⟨(some 19), .build [(.int .i64 0), (.slice none 0 0), (.int .i64 0), (.slice none 0 0), (.int .i64 0), (.slice none 0 0), (.int .i64 0), (.slice none 0 0), (.slice none 0 0)] [], none⟩,
⟨(some 20), .build [(.slice none 0 0), (.slice none 0 0)] [], none⟩,
⟨(some 21), .mv (.t 8), none⟩,
⟨none, .store 9 (.t 4) (.t 19), none⟩,
⟨none, .store 2 (.t 5) (.t 20), none⟩,
⟨(some 6), .mv (.t 21), none⟩])
.ret)
.skip))
(.seq (.seq (.region [⟨(some 22), .mv (.t 1), none⟩,
⟨(some 23), .len (.t 22), none⟩,
⟨(some 24), .mv (.c (.int .i64 0)), none⟩])
(.block 0
(.loop
(.seq (.region [⟨(some 25), .bin .num .lss (.t 24) (.t 23), none⟩])
(.seq (.cond (.t 25)
.skip
(.exit 0))
(.seq (.block 1
(.seq (.region [⟨(some 26), .idxS 6 (.t 22) (.t 24), none⟩,
⟨(some 27), .loadN 6 (.t 26), none⟩,
⟨(some 10), .mk [(.int .u8 0), (.int .i64 0), (.int .i64 0), (.int .i64 0), (.int .i64 0), (.slice none 0 0)], none⟩,
⟨none, .store 6 (.t 10) (.t 27), none⟩])
(.seq (.region [⟨(some 28), .mv (.t 7), none⟩,
⟨(some 29), .loadN 6 (.t 10), none⟩,
⟨(some 30), .call (.c (.func (.func 24) #[] #[])) [(.t 28), (.t 29)], none⟩,
⟨(some 11), .mv (.t 30), none⟩])
(.seq (.region [⟨(some 31), .mv (.t 11), none⟩,
⟨(some 32), .bin .num .neq (.t 31) (.c (.int .i64 0)), none⟩])
(.cond (.t 32)
(.seq (.dregion [(0, ⟨(some 33), .mv (.t 7), none⟩, []),
(1, ⟨(some 34), .call (.c (.func (.func 25) #[] #[])) [(.t 33)], none⟩, []),
(2, ⟨(some 35), .mv (.t 7), none⟩, []),
(3, ⟨(some 36), .nilCheck (.t 35), none⟩, []),
(4, ⟨(some 37), .faddr 3 (.t 36), none⟩, []),
(5, ⟨(some 38), .loadN 2 (.t 37), none⟩, [3]),
(6, ⟨(some 39), .mv (.t 11), none⟩, []),
(7, ⟨none, .store 9 (.t 4) (.t 34), none⟩, [1]),
(8, ⟨none, .store 2 (.t 5) (.t 38), none⟩, []),
(9, ⟨(some 6), .mv (.t 39), none⟩, [])])
.ret)
.skip)))))
(.region [⟨(some 40), .bin .num .add (.t 24) (.c (.int .i64 1)), none⟩,
⟨(some 24), .mv (.t 40), none⟩])))))))
(.seq (.dregion [(0, ⟨(some 41), .mv (.t 7), none⟩, []),
(1, ⟨(some 42), .call (.c (.func (.func 25) #[] #[])) [(.t 41)], none⟩, []),
(2, ⟨(some 43), .mv (.t 7), none⟩, []),
(3, ⟨(some 44), .nilCheck (.t 43), none⟩, []),
(4, ⟨(some 45), .faddr 3 (.t 44), none⟩, []),
(5, ⟨(some 46), .loadN 2 (.t 45), none⟩, [3]),
(6, ⟨none, .store 9 (.t 4) (.t 42), none⟩, [0]),
(7, ⟨none, .store 2 (.t 5) (.t 46), none⟩, []),
(8, ⟨(some 6), .mv (.c (.int .i64 0)), none⟩, [])])
.ret)))))⟩

/- riposte/ripostelaw25.copyActs -/
def ir10 : IFunc := ⟨[.tmp 2],
(.seq (.region [⟨(some 2), .mv (.c (.slice none 0 0)), none⟩])
(.seq (.region [⟨(some 3), .mv (.c (.slice none 0 0)), none⟩])
(.seq (.seq (.region [⟨(some 4), .mv (.c (.int .i64 0)), none⟩])
(.block 0
(.loop
(.seq (.seq (.region [⟨(some 6), .mv (.t 4), none⟩,
⟨(some 7), .mv (.t 0), none⟩,
⟨(some 8), .len (.t 7), none⟩,
⟨(some 9), .bin .num .lss (.t 6) (.t 8), none⟩])
(.cond (.t 9)
.skip
(.exit 0)))
(.seq (.block 1
(.seq (.region [⟨(some 12), .mv (.t 0), none⟩,
⟨(some 13), .mv (.t 4), none⟩,
⟨(some 14), .idxS 6 (.t 12) (.t 13), none⟩,
⟨(some 15), .loadN 6 (.t 14), none⟩,
⟨(some 5), .mk [(.int .u8 0), (.int .i64 0), (.int .i64 0), (.int .i64 0), (.int .i64 0), (.slice none 0 0)], none⟩,
⟨none, .store 6 (.t 5) (.t 15), none⟩])
(.seq (.region [⟨(some 16), .buildSlice 0 [] [], none⟩,
⟨(some 17), .faddr 5 (.t 5), none⟩,
⟨(some 18), .load1 (.t 17), none⟩,
⟨(some 19), .append 1 1 (.t 16) (.t 18), none⟩,
⟨(some 20), .faddr 5 (.t 5), none⟩,
⟨none, .store 1 (.t 20) (.t 19), none⟩])
(.region [⟨(some 21), .mv (.t 3), none⟩,
⟨(some 22), .loadN 6 (.t 5), none⟩,
⟨(some 23), .buildSlice 1 [(.int .u8 0), (.int .i64 0), (.int .i64 0), (.int .i64 0), (.int .i64 0), (.slice none 0 0)] [(0, 6, (.t 22))], none⟩,
⟨(some 24), .append 6 64 (.t 21) (.t 23), none⟩,
⟨(some 3), .mv (.t 24), none⟩]))))
(.region [⟨(some 10), .mv (.t 4), none⟩,
⟨(some 11), .bin .num .add (.t 10) (.c (.int .i64 1)), none⟩,
⟨(some 4), .mv (.t 11), none⟩]))))))
(.seq (.region [⟨(some 25), .mv (.t 3), none⟩,
⟨(some 2), .mv (.t 25), none⟩])
.ret))))⟩

/- riposte/riposteref25.Play -/
def ir11 : IFunc := ⟨[.cellN 4 9, .cellN 5 2, .tmp 6],
(.seq (.region [⟨(some 2), .box 9 (.t 0), none⟩,
⟨(some 4), .mk [(.int .i64 0), (.slice none 0 0), (.int .i64 0), (.slice none 0 0), (.int .i64 0), (.slice none 0 0), (.int .i64 0), (.slice none 0 0), (.slice none 0 0)], none⟩,
⟨(some 5), .mk [(.slice none 0 0), (.slice none 0 0)], none⟩,
⟨(some 6), .mv (.c (.int .i64 0)), none⟩])
(.seq (.region [⟨(some 7), .mk [(.slice none 0 0), (.slice none 0 0)], none⟩])
(.seq (.seq (.region [⟨(some 14), .loadN 9 (.t 2), none⟩,
⟨(some 15), .call (.c (.func (.func 27) #[] #[])) [(.t 14)], none⟩,
⟨(some 16), .not (.t 15), none⟩])
(.cond (.t 16)
(.seq (.dregion [(0, ⟨(some 17), .build [(.int .i64 0), (.slice none 0 0), (.int .i64 0), (.slice none 0 0), (.int .i64 0), (.slice none 0 0), (.int .i64 0), (.slice none 0 0), (.slice none 0 0)] [], none⟩, []),
(1, ⟨(some 18), .loadN 2 (.t 7), none⟩, []),
(2, ⟨none, .store 9 (.t 4) (.t 17), none⟩, [0]),
(3, ⟨none, .store 2 (.t 5) (.t 18), none⟩, []),
(4, ⟨(some 6), .mv (.c (.int .i64 4)), none⟩, [])])
.ret)
.skip))
(.seq (.region [⟨(some 19), .loadN 9 (.t 2), none⟩,
⟨(some 20), .call (.c (.func (.func 9) #[] #[])) [(.t 19)], none⟩,
⟨(some 8), .mk [(.int .i64 0), (.slice none 0 0), (.int .i64 0), (.slice none 0 0), (.int .i64 0), (.slice none 0 0), (.int .i64 0), (.slice none 0 0), (.slice none 0 0)], none⟩,
⟨none, .store 9 (.t 8) (.t 20), none⟩])
(.seq (.seq (.region [⟨(some 9), .mv (.c (.int .i64 0)), none⟩])
(.block 0
(.loop
(.seq (.seq (.region [⟨(some 21), .mv (.t 9), none⟩,
⟨(some 22), .mv (.t 1), none⟩,
⟨(some 23), .len (.t 22), none⟩,
⟨(some 24), .bin .num .lss (.t 21) (.t 23), none⟩])
(.cond (.t 24)
.skip
(.exit 0)))
(.seq (.block 1
(.seq (.dregion [(0, ⟨(some 27), .loadN 9 (.t 8), none⟩, []),
(1, ⟨(some 28), .mv (.t 1), none⟩, []),
(2, ⟨(some 29), .mv (.t 9), none⟩, []),
(3, ⟨(some 30), .idxS 6 (.t 28) (.t 29), none⟩, []),
(4, ⟨(some 31), .loadN 6 (.t 30), none⟩, [3]),
(5, ⟨(some 32), .call (.c (.func (.func 28) #[] #[])) [(.t 27), (.t 31)], none⟩, []),
(6, ⟨(some 10), .mv (.t 32), none⟩, [])])
(.seq (.dregion [(0, ⟨(some 34), .loadN 9 (.t 8), none⟩, []),
(1, ⟨(some 35), .mv (.t 1), none⟩, []),
(2, ⟨(some 36), .mv (.t 9), none⟩, []),
(3, ⟨(some 37), .idxS 6 (.t 35) (.t 36), none⟩, []),
(4, ⟨(some 38), .loadN 6 (.t 37), none⟩, [3]),
(5, ⟨(some 39), .call (.c (.func (.func 19) #[] #[])) [(.t 34), (.t 38)], none⟩, []),
(6, ⟨(some 33), .mv (.t 39), none⟩, []),
(7, ⟨(some 40), .extract 0 (.t 33), none⟩, []),
(8, ⟨(some 41), .extract 1 (.t 33), none⟩, []),
(9, ⟨(some 42), .extract 2 (.t 33), none⟩, []),
(10, ⟨(some 11), .mk [(.int .i64 0), (.slice none 0 0), (.int .i64 0), (.slice none 0 0), (.int .i64 0), (.slice none 0 0), (.int .i64 0), (.slice none 0 0), (.slice none 0 0)], none⟩, [4, 5, 9]),
(11, ⟨none, .store 9 (.t 11) (.t 40), none⟩, []),
(12, ⟨(some 12), .mv (.t 41), none⟩, []),
(13, ⟨(some 13), .mv (.t 42), none⟩, [])])
(.seq (.seq (.region [⟨(some 43), .mv (.t 13), none⟩,
⟨(some 44), .bin .num .neq (.t 43) (.c (.int .i64 0)), none⟩])
(.cond (.t 44)
(.seq (.dregion [(0, ⟨(some 45), .loadN 9 (.t 8), none⟩, []),
(1, ⟨(some 46), .loadN 2 (.t 7), none⟩, [0]),
(2, ⟨(some 47), .mv (.t 13), none⟩, []),
(3, ⟨none, .store 9 (.t 4) (.t 45), none⟩, [1]),
(4, ⟨none, .store 2 (.t 5) (.t 46), none⟩, []),
(5, ⟨(some 6), .mv (.t 47), none⟩, [])])
.ret)
.skip))
(.seq (.region [⟨(some 48), .loadN 9 (.t 11), none⟩,
⟨none, .store 9 (.t 8) (.t 48), none⟩])
(.region [⟨(some 49), .mv (.t 10), none⟩,
⟨(some 50), .mv (.t 10), none⟩,
⟨(some 51), .idxA 2 1 (.t 7) (.t 50), none⟩,
⟨(some 52), .load1 (.t 51), none⟩,
⟨(some 53), .mv (.t 12), none⟩,
⟨(some 54), .append 1 24 (.t 52) (.t 53), none⟩,
⟨(some 55), .idxA 2 1 (.t 7) (.t 49), none⟩,
⟨none, .store 1 (.t 55) (.t 54), none⟩]))))))
(.region [⟨(some 25), .mv (.t 9), none⟩,
⟨(some 26), .bin .num .add (.t 25) (.c (.int .i64 1)), none⟩,
⟨(some 9), .mv (.t 26), none⟩]))))))
(.seq (.dregion [(0, ⟨(some 56), .loadN 9 (.t 8), none⟩, []),
(1, ⟨(some 57), .loadN 2 (.t 7), none⟩, [0]),
(2, ⟨none, .store 9 (.t 4) (.t 56), none⟩, [0]),
(3, ⟨none, .store 2 (.t 5) (.t 57), none⟩, []),
(4, ⟨(some 6), .mv (.c (.int .i64 0)), none⟩, [])])
.ret))))))⟩

/- riposte/riposteref25.Settle -/
/- riposte/riposteref25.Turn -/
/- riposte/riposteref25.Do -/
def ir19 : IFunc := ⟨[.cellN 4 9, .tmp 5, .tmp 6],
(.seq (.region [⟨(some 2), .box 9 (.t 0), none⟩,
⟨(some 3), .box 6 (.t 1), none⟩,
⟨(some 4), .mk [(.int .i64 0), (.slice none 0 0), (.int .i64 0), (.slice none 0 0), (.int .i64 0), (.slice none 0 0), (.int .i64 0), (.slice none 0 0), (.slice none 0 0)], none⟩,
⟨(some 5), .mv (.c (.slice none 0 0)), none⟩,
⟨(some 6), .mv (.c (.int .i64 0)), none⟩])
(.seq (.seq (.region [⟨(some 19), .loadN 9 (.t 2), none⟩,
⟨(some 20), .call (.c (.func (.func 27) #[] #[])) [(.t 19)], none⟩,
⟨(some 21), .not (.t 20), none⟩])
(.cond (.t 21)
(.seq (.region [⟨(some 22), .build [(.int .i64 0), (.slice none 0 0), (.int .i64 0), (.slice none 0 0), (.int .i64 0), (.slice none 0 0), (.int .i64 0), (.slice none 0 0), (.slice none 0 0)] [], none⟩,
⟨none, .store 9 (.t 4) (.t 22), none⟩,
⟨(some 5), .mv (.c (.slice none 0 0)), none⟩,
⟨(some 6), .mv (.c (.int .i64 4)), none⟩])
.ret)
.skip))
(.seq (.seq (.region [⟨(some 23), .loadN 9 (.t 2), none⟩,
⟨(some 24), .loadN 6 (.t 3), none⟩,
⟨(some 25), .call (.c (.func (.func 32) #[] #[])) [(.t 23), (.t 24)], none⟩,
⟨(some 26), .not (.t 25), none⟩])
(.cond (.t 26)
(.seq (.region [⟨(some 27), .build [(.int .i64 0), (.slice none 0 0), (.int .i64 0), (.slice none 0 0), (.int .i64 0), (.slice none 0 0), (.int .i64 0), (.slice none 0 0), (.slice none 0 0)] [], none⟩,
⟨none, .store 9 (.t 4) (.t 27), none⟩,
⟨(some 5), .mv (.c (.slice none 0 0)), none⟩,
⟨(some 6), .mv (.c (.int .i64 2)), none⟩])
.ret)
.skip))
(.seq (.region [⟨(some 28), .loadN 9 (.t 2), none⟩,
⟨(some 29), .call (.c (.func (.func 9) #[] #[])) [(.t 28)], none⟩,
⟨(some 7), .mk [(.int .i64 0), (.slice none 0 0), (.int .i64 0), (.slice none 0 0), (.int .i64 0), (.slice none 0 0), (.int .i64 0), (.slice none 0 0), (.slice none 0 0)], none⟩,
⟨none, .store 9 (.t 7) (.t 29), none⟩])
(.seq (.seq (.region [⟨(some 30), .faddr 0 (.t 3), none⟩,
⟨(some 31), .load1 (.t 30), none⟩])
(.block 0
(.seq (.region [⟨(some 33), .bin .num .eql (.t 31) (.c (.int .u8 1)), none⟩,
⟨(some 32), .mv (.t 33), none⟩])
(.cond (.t 32)
(.seq (.dregion [(0, ⟨(some 35), .faddr 1 (.t 3), none⟩, []),
(1, ⟨(some 36), .load1 (.t 35), none⟩, []),
(2, ⟨(some 37), .faddr 0 (.t 7), none⟩, []),
(3, ⟨(some 38), .idxA 2 4 (.t 37) (.t 36), none⟩, []),
(4, ⟨(some 39), .loadN 4 (.t 38), none⟩, []),
(5, ⟨(some 40), .faddr 5 (.t 3), none⟩, []),
(6, ⟨(some 41), .load1 (.t 40), none⟩, [1, 4]),
(7, ⟨(some 42), .call (.c (.func (.func 33) #[] #[])) [(.t 39), (.t 41)], none⟩, []),
(8, ⟨(some 34), .mv (.t 42), none⟩, []),
(9, ⟨(some 43), .extract 0 (.t 34), none⟩, []),
(10, ⟨(some 44), .extract 1 (.t 34), none⟩, []),
(11, ⟨(some 45), .extract 2 (.t 34), none⟩, []),
(12, ⟨(some 8), .mk [(.int .i64 0), (.slice none 0 0), (.int .i64 0), (.slice none 0 0)], none⟩, [4, 5, 7, 10]),
(13, ⟨none, .store 4 (.t 8) (.t 43), none⟩, []),
(14, ⟨(some 9), .mv (.t 44), none⟩, []),
(15, ⟨(some 10), .mv (.t 45), none⟩, [])])
(.seq (.seq (.region [⟨(some 46), .mv (.t 10), none⟩,
⟨(some 47), .bin .num .neq (.t 46) (.c (.int .i64 0)), none⟩])
(.cond (.t 47)
(.seq (.region [⟨(some 48), .build [(.int .i64 0), (.slice none 0 0), (.int .i64 0), (.slice none 0 0), (.int .i64 0), (.slice none 0 0), (.int .i64 0), (.slice none 0 0), (.slice none 0 0)] [], none⟩,
⟨(some 49), .mv (.t 10), none⟩,
⟨none, .store 9 (.t 4) (.t 48), none⟩,
⟨(some 5), .mv (.c (.slice none 0 0)), none⟩,
⟨(some 6), .mv (.t 49), none⟩])
.ret)
.skip))
(.seq (.region [⟨(some 50), .faddr 1 (.t 3), none⟩,
⟨(some 51), .load1 (.t 50), none⟩,
⟨(some 52), .loadN 4 (.t 8), none⟩,
⟨(some 53), .faddr 0 (.t 7), none⟩,
⟨(some 54), .idxA 2 4 (.t 53) (.t 51), none⟩,
⟨none, .store 4 (.t 54) (.t 52), none⟩])
(.region [⟨(some 55), .faddr 1 (.t 3), none⟩,
⟨(some 56), .load1 (.t 55), none⟩,
⟨(some 57), .bin .num .sub (.c (.int .i64 1)) (.t 56), none⟩,
⟨(some 58), .mv (.t 9), none⟩,
⟨(some 59), .call (.c (.func (.func 34) #[] #[])) [(.t 7), (.t 57), (.t 58)], none⟩]))))
(.seq (.region [⟨(some 61), .bin .num .eql (.t 31) (.c (.int .u8 2)), none⟩,
⟨(some 60), .mv (.t 61), none⟩])
(.cond (.t 60)
(.seq (.region [⟨(some 63), .faddr 1 (.t 3), none⟩,
⟨(some 64), .load1 (.t 63), none⟩,
⟨(some 65), .faddr 0 (.t 7), none⟩,
⟨(some 66), .idxA 2 4 (.t 65) (.t 64), none⟩,
⟨(some 67), .loadN 4 (.t 66), none⟩,
⟨(some 68), .call (.c (.func (.func 35) #[] #[])) [(.t 67)], none⟩,
⟨(some 62), .mv (.t 68), none⟩,
⟨(some 69), .extract 0 (.t 62), none⟩,
⟨(some 70), .extract 1 (.t 62), none⟩,
⟨(some 11), .mv (.t 69), none⟩,
⟨(some 12), .mv (.t 70), none⟩])
(.seq (.region [⟨(some 13), .mv (.c (.int .i64 0)), none⟩])
(.block 1
(.loop
(.seq (.seq (.region [⟨(some 71), .mv (.t 13), none⟩,
⟨(some 72), .mv (.t 11), none⟩,
⟨(some 73), .len (.t 72), none⟩,
⟨(some 74), .bin .num .lss (.t 71) (.t 73), none⟩])
(.cond (.t 74)
.skip
(.exit 1)))
(.seq (.block 2
(.dregion [(0, ⟨(some 77), .faddr 1 (.t 3), none⟩, []),
(1, ⟨(some 78), .load1 (.t 77), none⟩, []),
(2, ⟨(some 79), .bin .num .sub (.c (.int .i64 1)) (.t 78), none⟩, []),
(3, ⟨(some 80), .mv (.t 11), none⟩, []),
(4, ⟨(some 81), .mv (.t 13), none⟩, []),
(5, ⟨(some 82), .idxS 1 (.t 80) (.t 81), none⟩, []),
(6, ⟨(some 83), .load1 (.t 82), none⟩, [4]),
(7, ⟨(some 84), .call (.c (.func (.func 34) #[] #[])) [(.t 7), (.t 79), (.t 83)], none⟩, [])]))
(.region [⟨(some 75), .mv (.t 13), none⟩,
⟨(some 76), .bin .num .add (.t 75) (.c (.int .i64 1)), none⟩,
⟨(some 13), .mv (.t 76), none⟩])))))))
(.seq (.region [⟨(some 86), .bin .num .eql (.t 31) (.c (.int .u8 3)), none⟩,
⟨(some 85), .mv (.t 86), none⟩])
(.cond (.t 85)
(.seq (.region [⟨(some 87), .faddr 8 (.t 7), none⟩,
⟨(some 88), .load1 (.t 87), none⟩,
⟨(some 89), .faddr 2 (.t 3), none⟩,
⟨(some 90), .load1 (.t 89), none⟩,
⟨(some 91), .idxS 2 (.t 88) (.t 90), none⟩,
⟨(some 92), .loadN 2 (.t 91), none⟩,
⟨(some 14), .mk [(.int .i64 0), (.slice none 0 0)], none⟩,
⟨none, .store 2 (.t 14) (.t 92), none⟩])
(.seq (.region [⟨(some 93), .faddr 8 (.t 7), none⟩,
⟨(some 94), .load1 (.t 93), none⟩,
⟨(some 95), .faddr 2 (.t 3), none⟩,
⟨(some 96), .load1 (.t 95), none⟩,
⟨(some 97), .call (.c (.func (.func 36) #[] #[])) [(.t 94), (.t 96)], none⟩,
⟨(some 98), .faddr 8 (.t 7), none⟩,
⟨none, .store 1 (.t 98) (.t 97), none⟩])
(.seq (.dregion [(0, ⟨(some 100), .faddr 0 (.t 14), none⟩, []),
(1, ⟨(some 101), .load1 (.t 100), none⟩, []),
(2, ⟨(some 102), .faddr 0 (.t 7), none⟩, []),
(3, ⟨(some 103), .idxA 2 4 (.t 102) (.t 101), none⟩, []),
(4, ⟨(some 104), .loadN 4 (.t 103), none⟩, []),
(5, ⟨(some 105), .faddr 1 (.t 14), none⟩, []),
(6, ⟨(some 106), .load1 (.t 105), none⟩, [1, 4]),
(7, ⟨(some 107), .call (.c (.func (.func 37) #[] #[])) [(.t 104), (.t 106)], none⟩, []),
(8, ⟨(some 99), .mv (.t 107), none⟩, []),
(9, ⟨(some 108), .extract 0 (.t 99), none⟩, []),
(10, ⟨(some 109), .extract 1 (.t 99), none⟩, []),
(11, ⟨(some 110), .extract 2 (.t 99), none⟩, []),
(12, ⟨(some 111), .extract 3 (.t 99), none⟩, []),
(13, ⟨(some 15), .mk [(.int .i64 0), (.slice none 0 0), (.int .i64 0), (.slice none 0 0)], none⟩, [5, 6, 8, 11]),
(14, ⟨none, .store 4 (.t 15) (.t 108), none⟩, []),
(15, ⟨(some 16), .mv (.t 109), none⟩, []),
(16, ⟨(some 17), .mv (.t 110), none⟩, []),
(17, ⟨(some 18), .mv (.t 111), none⟩, [])])
(.seq (.region [⟨(some 112), .faddr 0 (.t 14), none⟩,
⟨(some 113), .load1 (.t 112), none⟩,
⟨(some 114), .loadN 4 (.t 15), none⟩,
⟨(some 115), .faddr 0 (.t 7), none⟩,
⟨(some 116), .idxA 2 4 (.t 115) (.t 113), none⟩,
⟨none, .store 4 (.t 116) (.t 114), none⟩])
(.seq (.seq (.region [⟨(some 117), .mv (.t 17), none⟩,
⟨(some 118), .len (.t 117), none⟩,
⟨(some 119), .bin .num .gtr (.t 118) (.c (.int .i64 0)), none⟩])
(.cond (.t 119)
(.region [⟨(some 120), .faddr 0 (.t 14), none⟩,
⟨(some 121), .load1 (.t 120), none⟩,
⟨(some 122), .bin .num .sub (.c (.int .i64 1)) (.t 121), none⟩,
⟨(some 123), .mv (.t 17), none⟩,
⟨(some 124), .call (.c (.func (.func 34) #[] #[])) [(.t 7), (.t 122), (.t 123)], none⟩])
.skip))
(.seq (.region [⟨(some 125), .loadN 9 (.t 7), none⟩,
⟨(some 126), .mv (.t 16), none⟩,
⟨none, .store 9 (.t 4) (.t 125), none⟩,
⟨(some 5), .mv (.t 126), none⟩,
⟨(some 6), .mv (.c (.int .i64 0)), none⟩])
.ret))))))
(.seq (.region [⟨(some 128), .bin .num .eql (.t 31) (.c (.int .u8 4)), none⟩,
⟨(some 127), .mv (.t 128), none⟩])
(.cond (.t 127)
(.region [⟨(some 129), .faddr 8 (.t 7), none⟩,
⟨(some 130), .load1 (.t 129), none⟩,
⟨(some 131), .faddr 2 (.t 3), none⟩,
⟨(some 132), .load1 (.t 131), none⟩,
⟨(some 133), .call (.c (.func (.func 36) #[] #[])) [(.t 130), (.t 132)], none⟩,
⟨(some 134), .faddr 8 (.t 7), none⟩,
⟨none, .store 1 (.t 134) (.t 133), none⟩])
(.seq (.region [⟨(some 136), .bin .num .eql (.t 31) (.c (.int .u8 5)), none⟩,
⟨(some 135), .mv (.t 136), none⟩])
(.cond (.t 135)
(.dregion [(0, ⟨(some 137), .faddr 8 (.t 7), none⟩, []),
(1, ⟨(some 138), .load1 (.t 137), none⟩, []),
(2, ⟨(some 139), .faddr 2 (.t 3), none⟩, []),
(3, ⟨(some 140), .load1 (.t 139), none⟩, [1]),
(4, ⟨(some 141), .idxS 2 (.t 138) (.t 140), none⟩, []),
(5, ⟨(some 142), .faddr 0 (.t 141), none⟩, []),
(6, ⟨(some 143), .load1 (.t 142), none⟩, []),
(7, ⟨(some 144), .buildSlice 0 [] [], none⟩, [0, 3, 5]),
(8, ⟨(some 145), .faddr 8 (.t 7), none⟩, []),
(9, ⟨(some 146), .load1 (.t 145), none⟩, [1, 2, 5, 7]),
(10, ⟨(some 147), .faddr 2 (.t 3), none⟩, []),
(11, ⟨(some 148), .load1 (.t 147), none⟩, [1, 3, 4, 7, 9]),
(12, ⟨(some 149), .idxS 2 (.t 146) (.t 148), none⟩, []),
(13, ⟨(some 150), .faddr 1 (.t 149), none⟩, []),
(14, ⟨(some 151), .load1 (.t 150), none⟩, [6, 7, 10, 12]),
(15, ⟨(some 152), .append 1 1 (.t 144) (.t 151), none⟩, [8, 11, 13]),
(16, ⟨(some 153), .call (.c (.func (.func 34) #[] #[])) [(.t 7), (.t 143), (.t 152)], none⟩, [])])
(.seq (.region [⟨(some 155), .bin .num .eql (.t 31) (.c (.int .u8 6)), none⟩,
⟨(some 154), .mv (.t 155), none⟩])
(.cond (.t 154)
(.dregion [(0, ⟨(some 156), .faddr 8 (.t 7), none⟩, []),
(1, ⟨(some 157), .load1 (.t 156), none⟩, []),
(2, ⟨(some 158), .faddr 2 (.t 3), none⟩, []),
(3, ⟨(some 159), .load1 (.t 158), none⟩, [1]),
(4, ⟨(some 160), .idxS 2 (.t 157) (.t 159), none⟩, []),
(5, ⟨(some 161), .faddr 1 (.t 160), none⟩, []),
(6, ⟨(some 162), .load1 (.t 161), none⟩, []),
(7, ⟨(some 163), .faddr 3 (.t 3), none⟩, []),
(8, ⟨(some 164), .load1 (.t 163), none⟩, [1, 4, 6]),
(9, ⟨(some 165), .idxS 1 (.t 162) (.t 164), none⟩, []),
(10, ⟨(some 166), .load1 (.t 165), none⟩, []),
(11, ⟨(some 167), .faddr 4 (.t 3), none⟩, []),
(12, ⟨(some 168), .load1 (.t 167), none⟩, [1, 3, 5, 8, 10]),
(13, ⟨(some 169), .conv .u8 (.t 168), none⟩, []),
(14, ⟨(some 170), .bin .num .xor (.t 166) (.t 169), none⟩, []),
(15, ⟨(some 171), .idxS 1 (.t 162) (.t 164), none⟩, []),
(16, ⟨none, .store 1 (.t 171) (.t 170), none⟩, [])])
.skip))))))))))))))
(.seq (.region [⟨(some 172), .loadN 9 (.t 7), none⟩,
⟨none, .store 9 (.t 4) (.t 172), none⟩,
⟨(some 5), .mv (.c (.slice none 0 0)), none⟩,
⟨(some 6), .mv (.c (.int .i64 0)), none⟩])
.ret))))))⟩

/- riposte/riposteref25.fits -/
def ir32 : IFunc := ⟨[.tmp 4],
(.seq (.region [⟨(some 2), .box 9 (.t 0), none⟩,
⟨(some 3), .box 6 (.t 1), none⟩,
⟨(some 4), .mv (.c (.bool false)), none⟩])
(.seq (.region [⟨(some 6), .faddr 0 (.t 3), none⟩,
⟨(some 7), .load1 (.t 6), none⟩,
⟨(some 8), .build [(.int .u8 0), (.int .i64 0), (.int .i64 0), (.int .i64 0), (.int .i64 0), (.slice none 0 0)] [(0, 1, (.t 7))], none⟩,
⟨(some 5), .mk [(.int .u8 0), (.int .i64 0), (.int .i64 0), (.int .i64 0), (.int .i64 0), (.slice none 0 0)], none⟩,
⟨none, .store 6 (.t 5) (.t 8), none⟩])
(.seq (.seq (.region [⟨(some 9), .faddr 0 (.t 3), none⟩,
⟨(some 10), .load1 (.t 9), none⟩])
(.block 0
(.seq (.region [⟨(some 12), .bin .num .eql (.t 10) (.c (.int .u8 1)), none⟩,
⟨(some 11), .mv (.t 12), none⟩])
(.cond (.t 11)
(.seq (.region [⟨(some 13), .faddr 1 (.t 3), none⟩,
⟨(some 14), .load1 (.t 13), none⟩,
⟨(some 15), .faddr 1 (.t 5), none⟩,
⟨none, .store 1 (.t 15) (.t 14), none⟩])
(.seq (.region [⟨(some 16), .faddr 1 (.t 3), none⟩,
⟨(some 17), .load1 (.t 16), none⟩,
⟨(some 18), .call (.c (.func (.func 51) #[] #[])) [(.t 17), (.c (.int .i64 0)), (.c (.int .i64 1))], none⟩,
⟨(some 19), .mv (.t 18), none⟩,
⟨(some 20), .faddr 5 (.t 3), (some (19, true))⟩,
⟨(some 21), .load1 (.t 20), (some (19, true))⟩,
⟨(some 22), .call (.c (.func (.func 55) #[] #[])) [(.t 21)], (some (19, true))⟩,
⟨(some 23), .pick (.t 19) (.t 22) (.c (.bool false)), none⟩,
⟨(some 24), .mv (.t 23), none⟩,
⟨(some 25), .loadN 6 (.t 3), (some (24, true))⟩,
⟨(some 26), .loadN 6 (.t 5), (some (24, true))⟩,
⟨(some 27), .call (.c (.func (.func 56) #[] #[])) [(.t 25), (.t 26)], (some (24, true))⟩,
⟨(some 28), .pick (.t 24) (.t 27) (.c (.bool false)), none⟩,
⟨(some 4), .mv (.t 28), none⟩])
.ret))
(.seq (.region [⟨(some 30), .bin .num .eql (.t 10) (.c (.int .u8 2)), none⟩,
⟨(some 29), .mv (.t 30), none⟩])
(.cond (.t 29)
(.seq (.region [⟨(some 31), .faddr 1 (.t 3), none⟩,
⟨(some 32), .load1 (.t 31), none⟩,
⟨(some 33), .faddr 1 (.t 5), none⟩,
⟨none, .store 1 (.t 33) (.t 32), none⟩])
(.seq (.region [⟨(some 34), .faddr 1 (.t 3), none⟩,
⟨(some 35), .load1 (.t 34), none⟩,
⟨(some 36), .call (.c (.func (.func 51) #[] #[])) [(.t 35), (.c (.int .i64 0)), (.c (.int .i64 1))], none⟩,
⟨(some 37), .mv (.t 36), none⟩,
⟨(some 38), .faddr 5 (.t 3), (some (37, true))⟩,
⟨(some 39), .load1 (.t 38), (some (37, true))⟩,
⟨(some 40), .len (.t 39), (some (37, true))⟩,
⟨(some 41), .bin .num .eql (.t 40) (.c (.int .i64 0)), (some (37, true))⟩,
⟨(some 42), .pick (.t 37) (.t 41) (.c (.bool false)), none⟩,
⟨(some 43), .mv (.t 42), none⟩,
⟨(some 44), .loadN 6 (.t 3), (some (43, true))⟩,
⟨(some 45), .loadN 6 (.t 5), (some (43, true))⟩,
⟨(some 46), .call (.c (.func (.func 56) #[] #[])) [(.t 44), (.t 45)], (some (43, true))⟩,
⟨(some 47), .pick (.t 43) (.t 46) (.c (.bool false)), none⟩,
⟨(some 4), .mv (.t 47), none⟩])
.ret))
(.seq (.seq (.region [⟨(some 49), .bin .num .eql (.t 10) (.c (.int .u8 3)), none⟩,
⟨(some 48), .mv (.t 49), none⟩])
(.cond (.t 48)
.skip
(.seq (.region [⟨(some 50), .bin .num .eql (.t 10) (.c (.int .u8 4)), none⟩,
⟨(some 48), .mv (.t 50), none⟩])
(.cond (.t 48)
.skip
(.region [⟨(some 51), .bin .num .eql (.t 10) (.c (.int .u8 5)), none⟩,
⟨(some 48), .mv (.t 51), none⟩])))))
(.cond (.t 48)
(.seq (.region [⟨(some 52), .faddr 2 (.t 3), none⟩,
⟨(some 53), .load1 (.t 52), none⟩,
⟨(some 54), .faddr 2 (.t 5), none⟩,
⟨none, .store 1 (.t 54) (.t 53), none⟩])
(.seq (.region [⟨(some 55), .faddr 2 (.t 3), none⟩,
⟨(some 56), .load1 (.t 55), none⟩,
⟨(some 57), .faddr 8 (.t 2), none⟩,
⟨(some 58), .load1 (.t 57), none⟩,
⟨(some 59), .len (.t 58), none⟩,
⟨(some 60), .bin .num .sub (.t 59) (.c (.int .i64 1)), none⟩,
⟨(some 61), .call (.c (.func (.func 51) #[] #[])) [(.t 56), (.c (.int .i64 0)), (.t 60)], none⟩,
⟨(some 62), .mv (.t 61), none⟩,
⟨(some 63), .faddr 5 (.t 3), (some (62, true))⟩,
⟨(some 64), .load1 (.t 63), (some (62, true))⟩,
⟨(some 65), .len (.t 64), (some (62, true))⟩,
⟨(some 66), .bin .num .eql (.t 65) (.c (.int .i64 0)), (some (62, true))⟩,
⟨(some 67), .pick (.t 62) (.t 66) (.c (.bool false)), none⟩,
⟨(some 68), .mv (.t 67), none⟩,
⟨(some 69), .loadN 6 (.t 3), (some (68, true))⟩,
⟨(some 70), .loadN 6 (.t 5), (some (68, true))⟩,
⟨(some 71), .call (.c (.func (.func 56) #[] #[])) [(.t 69), (.t 70)], (some (68, true))⟩,
⟨(some 72), .pick (.t 68) (.t 71) (.c (.bool false)), none⟩,
⟨(some 4), .mv (.t 72), none⟩])
.ret))
(.seq (.region [⟨(some 74), .bin .num .eql (.t 10) (.c (.int .u8 6)), none⟩,
⟨(some 73), .mv (.t 74), none⟩])
(.cond (.t 73)
(.seq (.dregion [(0, ⟨(some 75), .faddr 2 (.t 3), none⟩, []),
(1, ⟨(some 76), .load1 (.t 75), none⟩, []),
(2, ⟨(some 77), .faddr 3 (.t 3), none⟩, []),
(3, ⟨(some 78), .load1 (.t 77), none⟩, [1]),
(4, ⟨(some 79), .faddr 4 (.t 3), none⟩, []),
(5, ⟨(some 80), .load1 (.t 79), none⟩, [1, 3]),
(6, ⟨(some 81), .faddr 2 (.t 5), none⟩, []),
(7, ⟨none, .store 1 (.t 81) (.t 76), none⟩, [1, 3]),
(8, ⟨(some 82), .faddr 3 (.t 5), none⟩, []),
(9, ⟨none, .store 1 (.t 82) (.t 78), none⟩, [3]),
(10, ⟨(some 83), .faddr 4 (.t 5), none⟩, []),
(11, ⟨none, .store 1 (.t 83) (.t 80), none⟩, [])])
(.seq (.dregion [(0, ⟨(some 84), .faddr 2 (.t 3), none⟩, []),
(1, ⟨(some 85), .load1 (.t 84), none⟩, []),
(2, ⟨(some 86), .faddr 8 (.t 2), none⟩, []),
(3, ⟨(some 87), .load1 (.t 86), none⟩, [1]),
(4, ⟨(some 88), .len (.t 87), none⟩, []),
(5, ⟨(some 89), .bin .num .sub (.t 88) (.c (.int .i64 1)), none⟩, []),
(6, ⟨(some 90), .call (.c (.func (.func 51) #[] #[])) [(.t 85), (.c (.int .i64 0)), (.t 89)], none⟩, []),
(7, ⟨(some 91), .mv (.t 90), none⟩, []),
(8, ⟨(some 92), .faddr 3 (.t 3), (some (91, true))⟩, []),
(9, ⟨(some 93), .load1 (.t 92), (some (91, true))⟩, []),
(10, ⟨(some 94), .faddr 8 (.t 2), (some (91, true))⟩, []),
(11, ⟨(some 95), .load1 (.t 94), (some (91, true))⟩, [1]),
(12, ⟨(some 96), .faddr 2 (.t 3), (some (91, true))⟩, []),
(13, ⟨(some 97), .load1 (.t 96), (some (91, true))⟩, [1, 3]),
(14, ⟨(some 98), .idxS 2 (.t 95) (.t 97), (some (91, true))⟩, []),
(15, ⟨(some 99), .faddr 1 (.t 98), (some (91, true))⟩, []),
(16, ⟨(some 100), .load1 (.t 99), (some (91, true))⟩, [6]),
(17, ⟨(some 101), .len (.t 100), (some (91, true))⟩, []),
(18, ⟨(some 102), .bin .num .sub (.t 101) (.c (.int .i64 1)), (some (91, true))⟩, []),
(19, ⟨(some 103), .call (.c (.func (.func 51) #[] #[])) [(.t 93), (.c (.int .i64 0)), (.t 102)], (some (91, true))⟩, []),
(20, ⟨(some 104), .pick (.t 91) (.t 103) (.c (.bool false)), none⟩, []),
(21, ⟨(some 105), .mv (.t 104), none⟩, []),
(22, ⟨(some 106), .faddr 4 (.t 3), (some (105, true))⟩, []),
(23, ⟨(some 107), .load1 (.t 106), (some (105, true))⟩, []),
(24, ⟨(some 108), .call (.c (.func (.func 51) #[] #[])) [(.t 107), (.c (.int .i64 1)), (.c (.int .i64 255))], (some (105, true))⟩, []),
(25, ⟨(some 109), .pick (.t 105) (.t 108) (.c (.bool false)), none⟩, []),
(26, ⟨(some 110), .mv (.t 109), none⟩, []),
(27, ⟨(some 111), .faddr 5 (.t 3), (some (110, true))⟩, []),
(28, ⟨(some 112), .load1 (.t 111), (some (110, true))⟩, []),
(29, ⟨(some 113), .len (.t 112), (some (110, true))⟩, []),
(30, ⟨(some 114), .bin .num .eql (.t 113) (.c (.int .i64 0)), (some (110, true))⟩, []),
(31, ⟨(some 115), .pick (.t 110) (.t 114) (.c (.bool false)), none⟩, []),
(32, ⟨(some 116), .mv (.t 115), none⟩, []),
(33, ⟨(some 117), .loadN 6 (.t 3), (some (116, true))⟩, []),
(34, ⟨(some 118), .loadN 6 (.t 5), (some (116, true))⟩, [0]),
(35, ⟨(some 119), .call (.c (.func (.func 56) #[] #[])) [(.t 117), (.t 118)], (some (116, true))⟩, []),
(36, ⟨(some 120), .pick (.t 116) (.t 119) (.c (.bool false)), none⟩, []),
(37, ⟨(some 4), .mv (.t 120), none⟩, [])])
.ret))
.skip))))))))))
(.seq (.region [⟨(some 4), .mv (.c (.bool false)), none⟩])
.ret))))⟩

/- riposte/riposteref25.put -/
def ir34 : IFunc := ⟨[],
(.seq (.region [⟨(some 6), .mv (.t 0), none⟩,
⟨(some 7), .nilCheck (.t 6), none⟩,
⟨(some 8), .faddr 8 (.t 7), none⟩,
⟨(some 9), .load1 (.t 8), none⟩,
⟨(some 10), .len (.t 9), none⟩,
⟨(some 11), .bin .num .lss (.t 10) (.c (.int .i64 60)), none⟩])
(.cond (.t 11)
(.region [⟨(some 12), .mv (.t 0), none⟩,
⟨(some 13), .mv (.t 0), none⟩,
⟨(some 14), .nilCheck (.t 13), none⟩,
⟨(some 15), .faddr 8 (.t 14), none⟩,
⟨(some 16), .load1 (.t 15), none⟩,
⟨(some 17), .mv (.t 1), none⟩,
⟨(some 18), .mv (.t 2), none⟩,
⟨(some 19), .build [(.int .i64 0), (.slice none 0 0)] [(0, 1, (.t 17)), (1, 1, (.t 18))], none⟩,
⟨(some 20), .buildSlice 1 [(.int .i64 0), (.slice none 0 0)] [(0, 2, (.t 19))], none⟩,
⟨(some 21), .append 2 32 (.t 16) (.t 20), none⟩,
⟨(some 22), .nilCheck (.t 12), none⟩,
⟨(some 23), .faddr 8 (.t 22), none⟩,
⟨none, .store 1 (.t 23) (.t 21), none⟩])
.skip))⟩

/- riposte/riposteref25.without -/
def ir36 : IFunc := ⟨[.tmp 4],
(.seq (.region [⟨(some 4), .mv (.c (.slice none 0 0)), none⟩])
(.seq (.dregion [(0, ⟨(some 5), .buildSlice 0 [] [], none⟩, []),
(1, ⟨(some 6), .mv (.t 0), none⟩, []),
(2, ⟨(some 7), .mv (.t 1), none⟩, []),
(3, ⟨(some 8), .sliceS 2 (.t 6) none (some (.t 7)) none, none⟩, [2]),
(4, ⟨(some 9), .append 2 32 (.t 5) (.t 8), none⟩, []),
(5, ⟨(some 10), .mv (.t 0), none⟩, []),
(6, ⟨(some 11), .mv (.t 1), none⟩, []),
(7, ⟨(some 12), .bin .num .add (.t 11) (.c (.int .i64 1)), none⟩, []),
(8, ⟨(some 13), .sliceS 2 (.t 10) (some (.t 12)) none none, none⟩, [3, 4, 7]),
(9, ⟨(some 14), .append 2 32 (.t 9) (.t 13), none⟩, []),
(10, ⟨(some 4), .mv (.t 14), none⟩, [])])
.ret))⟩

/- riposte/riposteref25.same -/
def ir56 : IFunc := ⟨[.tmp 4],
(.seq (.region [⟨(some 2), .box 6 (.t 0), none⟩,
⟨(some 3), .box 6 (.t 1), none⟩,
⟨(some 4), .mv (.c (.bool false)), none⟩])
(.seq (.region [⟨(some 5), .faddr 1 (.t 2), none⟩,
⟨(some 6), .load1 (.t 5), none⟩,
⟨(some 7), .faddr 1 (.t 3), none⟩,
⟨(some 8), .load1 (.t 7), none⟩,
⟨(some 9), .bin .num .eql (.t 6) (.t 8), none⟩,
⟨(some 10), .mv (.t 9), none⟩,
⟨(some 11), .faddr 2 (.t 2), (some (10, true))⟩,
⟨(some 12), .load1 (.t 11), (some (10, true))⟩,
⟨(some 13), .faddr 2 (.t 3), (some (10, true))⟩,
⟨(some 14), .load1 (.t 13), (some (10, true))⟩,
⟨(some 15), .bin .num .eql (.t 12) (.t 14), (some (10, true))⟩,
⟨(some 16), .pick (.t 10) (.t 15) (.c (.bool false)), none⟩,
⟨(some 17), .mv (.t 16), none⟩,
⟨(some 18), .faddr 3 (.t 2), (some (17, true))⟩,
⟨(some 19), .load1 (.t 18), (some (17, true))⟩,
⟨(some 20), .faddr 3 (.t 3), (some (17, true))⟩,
⟨(some 21), .load1 (.t 20), (some (17, true))⟩,
⟨(some 22), .bin .num .eql (.t 19) (.t 21), (some (17, true))⟩,
⟨(some 23), .pick (.t 17) (.t 22) (.c (.bool false)), none⟩,
⟨(some 24), .mv (.t 23), none⟩,
⟨(some 25), .faddr 4 (.t 2), (some (24, true))⟩,
⟨(some 26), .load1 (.t 25), (some (24, true))⟩,
⟨(some 27), .faddr 4 (.t 3), (some (24, true))⟩,
⟨(some 28), .load1 (.t 27), (some (24, true))⟩,
⟨(some 29), .bin .num .eql (.t 26) (.t 28), (some (24, true))⟩,
⟨(some 30), .pick (.t 24) (.t 29) (.c (.bool false)), none⟩,
⟨(some 4), .mv (.t 30), none⟩])
.ret))⟩

theorem get3 (w : World) : (ctxW w).funcs.get 3 = some ir3 := by kernel_rfl
theorem get8 (w : World) : (ctxW w).funcs.get 8 = some ir8 := by kernel_rfl
theorem get10 (w : World) : (ctxW w).funcs.get 10 = some ir10 := by kernel_rfl
theorem get11 (w : World) : (ctxW w).funcs.get 11 = some ir11 := by kernel_rfl
theorem get19 (w : World) : (ctxW w).funcs.get 19 = some ir19 := by kernel_rfl
theorem get32 (w : World) : (ctxW w).funcs.get 32 = some ir32 := by kernel_rfl
theorem get34 (w : World) : (ctxW w).funcs.get 34 = some ir34 := by kernel_rfl
theorem get36 (w : World) : (ctxW w).funcs.get 36 = some ir36 := by kernel_rfl
theorem get56 (w : World) : (ctxW w).funcs.get 56 = some ir56 := by kernel_rfl
end Go.Ai.Wire
