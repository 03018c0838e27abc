/-
  More functions of the program in the evaluator's own form (printed by program), and that they are the program's.
-/
import Derived.Test.YtlikgpehalhgkaaGreatSWIr
namespace Go.Ai.Wire
open Go.Proofs

/- riposte/riposteref25.Same -/
def ir12 : IFunc := ⟨[.tmp 4],
(.seq (.region [⟨(some 2), .box 9 (.t 0), none⟩,
⟨(some 3), .box 9 (.t 1), none⟩,
⟨(some 4), .mv (.c (.bool false)), none⟩])
(.seq (.seq (.region [⟨(some 6), .faddr 0 (.t 2), none⟩,
⟨(some 7), .idxA 2 4 (.t 6) (.c (.int .i64 0)), none⟩,
⟨(some 8), .loadN 4 (.t 7), none⟩,
⟨(some 9), .faddr 0 (.t 3), none⟩,
⟨(some 10), .idxA 2 4 (.t 9) (.c (.int .i64 0)), none⟩,
⟨(some 11), .loadN 4 (.t 10), none⟩,
⟨(some 12), .call (.c (.func (.func 29) #[] #[])) [(.t 8), (.t 11)], none⟩,
⟨(some 13), .not (.t 12), none⟩,
⟨(some 14), .mv (.t 13), none⟩,
⟨(some 15), .faddr 0 (.t 2), (some (14, false))⟩,
⟨(some 16), .idxA 2 4 (.t 15) (.c (.int .i64 1)), (some (14, false))⟩,
⟨(some 17), .loadN 4 (.t 16), (some (14, false))⟩,
⟨(some 18), .faddr 0 (.t 3), (some (14, false))⟩,
⟨(some 19), .idxA 2 4 (.t 18) (.c (.int .i64 1)), (some (14, false))⟩,
⟨(some 20), .loadN 4 (.t 19), (some (14, false))⟩,
⟨(some 21), .call (.c (.func (.func 29) #[] #[])) [(.t 17), (.t 20)], (some (14, false))⟩,
⟨(some 22), .not (.t 21), (some (14, false))⟩,
⟨(some 23), .pick (.t 14) (.c (.bool true)) (.t 22), none⟩,
⟨(some 24), .mv (.t 23), none⟩,
⟨(some 25), .faddr 8 (.t 2), (some (24, false))⟩,
⟨(some 26), .load1 (.t 25), (some (24, false))⟩,
⟨(some 27), .len (.t 26), (some (24, false))⟩,
⟨(some 28), .faddr 8 (.t 3), (some (24, false))⟩,
⟨(some 29), .load1 (.t 28), (some (24, false))⟩,
⟨(some 30), .len (.t 29), (some (24, false))⟩,
⟨(some 31), .bin .num .neq (.t 27) (.t 30), (some (24, false))⟩,
⟨(some 32), .pick (.t 24) (.c (.bool true)) (.t 31), none⟩])
(.cond (.t 32)
(.seq (.region [⟨(some 4), .mv (.c (.bool false)), none⟩])
.ret)
.skip))
(.seq (.seq (.region [⟨(some 5), .mv (.c (.int .i64 0)), none⟩])
(.block 0
(.loop
(.seq (.seq (.region [⟨(some 33), .mv (.t 5), none⟩,
⟨(some 34), .faddr 8 (.t 2), none⟩,
⟨(some 35), .load1 (.t 34), none⟩,
⟨(some 36), .len (.t 35), none⟩,
⟨(some 37), .bin .num .lss (.t 33) (.t 36), none⟩])
(.cond (.t 37)
.skip
(.exit 0)))
(.seq (.block 1
(.seq (.dregion [(0, ⟨(some 40), .faddr 8 (.t 2), none⟩, []),
(1, ⟨(some 41), .load1 (.t 40), none⟩, []),
(2, ⟨(some 42), .mv (.t 5), none⟩, []),
(3, ⟨(some 43), .idxS 2 (.t 41) (.t 42), none⟩, []),
(4, ⟨(some 44), .faddr 0 (.t 43), none⟩, []),
(5, ⟨(some 45), .load1 (.t 44), none⟩, []),
(6, ⟨(some 46), .faddr 8 (.t 3), none⟩, []),
(7, ⟨(some 47), .load1 (.t 46), none⟩, [1, 5]),
(8, ⟨(some 48), .mv (.t 5), none⟩, []),
(9, ⟨(some 49), .idxS 2 (.t 47) (.t 48), none⟩, []),
(10, ⟨(some 50), .faddr 0 (.t 49), none⟩, []),
(11, ⟨(some 51), .load1 (.t 50), none⟩, [5, 9]),
(12, ⟨(some 52), .bin .num .neq (.t 45) (.t 51), none⟩, []),
(13, ⟨(some 53), .mv (.t 52), none⟩, []),
(14, ⟨(some 54), .faddr 8 (.t 2), (some (53, false))⟩, []),
(15, ⟨(some 55), .load1 (.t 54), (some (53, false))⟩, []),
(16, ⟨(some 56), .mv (.t 5), (some (53, false))⟩, []),
(17, ⟨(some 57), .idxS 2 (.t 55) (.t 56), (some (53, false))⟩, []),
(18, ⟨(some 58), .faddr 1 (.t 57), (some (53, false))⟩, []),
(19, ⟨(some 59), .load1 (.t 58), (some (53, false))⟩, []),
(20, ⟨(some 60), .toStr (.t 59), (some (53, false))⟩, []),
(21, ⟨(some 61), .faddr 8 (.t 3), (some (53, false))⟩, []),
(22, ⟨(some 62), .load1 (.t 61), (some (53, false))⟩, [1, 2, 6]),
(23, ⟨(some 63), .mv (.t 5), (some (53, false))⟩, []),
(24, ⟨(some 64), .idxS 2 (.t 62) (.t 63), (some (53, false))⟩, []),
(25, ⟨(some 65), .faddr 1 (.t 64), (some (53, false))⟩, []),
(26, ⟨(some 66), .load1 (.t 65), (some (53, false))⟩, [5, 6, 10]),
(27, ⟨(some 67), .toStr (.t 66), (some (53, false))⟩, [6, 7, 11]),
(28, ⟨(some 68), .bin .str .neq (.t 60) (.t 67), (some (53, false))⟩, []),
(29, ⟨(some 69), .pick (.t 53) (.c (.bool true)) (.t 68), none⟩, [])])
(.cond (.t 69)
(.seq (.region [⟨(some 4), .mv (.c (.bool false)), none⟩])
.ret)
.skip)))
(.region [⟨(some 38), .mv (.t 5), none⟩,
⟨(some 39), .bin .num .add (.t 38) (.c (.int .i64 1)), none⟩,
⟨(some 5), .mv (.t 39), none⟩]))))))
(.seq (.region [⟨(some 4), .mv (.c (.bool true)), none⟩])
.ret))))⟩

/- riposte/wire.Turn -/
def ir16 : IFunc := ⟨[.cellN 2 9, .tmp 3],
(.seq (.region [⟨(some 1), .box 9 (.t 0), none⟩,
⟨(some 2), .mk [(.int .i64 0), (.slice none 0 0), (.int .i64 0), (.slice none 0 0), (.int .i64 0), (.slice none 0 0), (.int .i64 0), (.slice none 0 0), (.slice none 0 0)], none⟩,
⟨(some 3), .mv (.c (.int .i64 0)), none⟩])
(.seq (.region [⟨(some 8), .loadN 9 (.t 1), none⟩,
⟨(some 9), .call (.c (.func (.func 23) #[] #[])) [(.t 8)], none⟩,
⟨(some 7), .mv (.t 9), none⟩,
⟨(some 10), .extract 0 (.t 7), none⟩,
⟨(some 11), .extract 1 (.t 7), none⟩,
⟨(some 4), .mv (.t 10), none⟩,
⟨(some 5), .mv (.t 11), none⟩])
(.seq (.seq (.region [⟨(some 12), .mv (.t 5), none⟩,
⟨(some 13), .bin .num .neq (.t 12) (.c (.int .i64 0)), none⟩])
(.cond (.t 13)
(.seq (.region [⟨(some 14), .build [(.int .i64 0), (.slice none 0 0), (.int .i64 0), (.slice none 0 0), (.int .i64 0), (.slice none 0 0), (.int .i64 0), (.slice none 0 0), (.slice none 0 0)] [], none⟩,
⟨(some 15), .mv (.t 5), none⟩,
⟨none, .store 9 (.t 2) (.t 14), none⟩,
⟨(some 3), .mv (.t 15), none⟩])
.ret)
.skip))
(.seq (.dregion [(0, ⟨(some 16), .mv (.t 4), none⟩, []),
(1, ⟨(some 17), .mv (.t 4), none⟩, []),
(2, ⟨(some 18), .mv (.t 4), none⟩, []),
(3, ⟨(some 19), .nilCheck (.t 18), none⟩, []),
(4, ⟨(some 20), .faddr 0 (.t 19), none⟩, []),
(5, ⟨(some 21), .idxA 2 1 (.t 20) (.c (.int .i64 1)), none⟩, []),
(6, ⟨(some 22), .load1 (.t 21), none⟩, []),
(7, ⟨(some 23), .mv (.t 4), none⟩, []),
(8, ⟨(some 24), .nilCheck (.t 23), none⟩, []),
(9, ⟨(some 25), .faddr 0 (.t 24), none⟩, []),
(10, ⟨(some 26), .idxA 2 1 (.t 25) (.c (.int .i64 0)), none⟩, []),
(11, ⟨(some 27), .load1 (.t 26), none⟩, [4]),
(12, ⟨(some 28), .nilCheck (.t 16), none⟩, []),
(13, ⟨(some 29), .faddr 0 (.t 28), none⟩, []),
(14, ⟨(some 30), .idxA 2 1 (.t 29) (.c (.int .i64 0)), none⟩, []),
(15, ⟨none, .store 1 (.t 30) (.t 22), none⟩, []),
(16, ⟨(some 31), .nilCheck (.t 17), none⟩, []),
(17, ⟨(some 32), .faddr 0 (.t 31), none⟩, []),
(18, ⟨(some 33), .idxA 2 1 (.t 32) (.c (.int .i64 1)), none⟩, []),
(19, ⟨none, .store 1 (.t 33) (.t 27), none⟩, [])])
(.seq (.seq (.region [⟨(some 34), .mv (.t 4), none⟩,
⟨(some 35), .nilCheck (.t 34), none⟩,
⟨(some 36), .faddr 2 (.t 35), none⟩,
⟨(some 37), .load1 (.t 36), none⟩,
⟨(some 38), .len (.t 37), none⟩,
⟨(some 39), .mv (.c (.int .i64 0)), none⟩])
(.block 0
(.loop
(.seq (.region [⟨(some 40), .bin .num .lss (.t 39) (.t 38), none⟩])
(.seq (.cond (.t 40)
.skip
(.exit 0))
(.seq (.block 1
(.seq (.region [⟨(some 41), .mv (.t 39), none⟩,
⟨(some 6), .mv (.t 41), none⟩])
(.dregion [(0, ⟨(some 42), .mv (.t 4), none⟩, []),
(1, ⟨(some 43), .nilCheck (.t 42), none⟩, []),
(2, ⟨(some 44), .faddr 2 (.t 43), none⟩, []),
(3, ⟨(some 45), .load1 (.t 44), none⟩, []),
(4, ⟨(some 46), .mv (.t 6), none⟩, []),
(5, ⟨(some 47), .mv (.t 4), none⟩, []),
(6, ⟨(some 48), .nilCheck (.t 47), none⟩, []),
(7, ⟨(some 49), .faddr 2 (.t 48), none⟩, []),
(8, ⟨(some 50), .load1 (.t 49), none⟩, [4]),
(9, ⟨(some 51), .mv (.t 6), none⟩, []),
(10, ⟨(some 52), .idxS 2 (.t 50) (.t 51), none⟩, []),
(11, ⟨(some 53), .faddr 0 (.t 52), none⟩, []),
(12, ⟨(some 54), .load1 (.t 53), none⟩, [8]),
(13, ⟨(some 55), .bin .num .sub (.c (.int .i64 1)) (.t 54), none⟩, []),
(14, ⟨(some 56), .idxS 2 (.t 45) (.t 46), none⟩, []),
(15, ⟨(some 57), .faddr 0 (.t 56), none⟩, []),
(16, ⟨none, .store 1 (.t 57) (.t 55), none⟩, [])])))
(.region [⟨(some 58), .bin .num .add (.t 39) (.c (.int .i64 1)), none⟩,
⟨(some 39), .mv (.t 58), none⟩])))))))
(.seq (.region [⟨(some 59), .mv (.t 4), none⟩,
⟨(some 60), .call (.c (.func (.func 25) #[] #[])) [(.t 59)], none⟩,
⟨none, .store 9 (.t 2) (.t 60), none⟩,
⟨(some 3), .mv (.c (.int .i64 0)), none⟩])
.ret))))))⟩

/- riposte/wire.Settle -/
def ir14 : IFunc := ⟨[.cellN 2 9, .cellN 3 2, .tmp 4],
(.seq (.region [⟨(some 1), .box 9 (.t 0), none⟩,
⟨(some 2), .mk [(.int .i64 0), (.slice none 0 0), (.int .i64 0), (.slice none 0 0), (.int .i64 0), (.slice none 0 0), (.int .i64 0), (.slice none 0 0), (.slice none 0 0)], none⟩,
⟨(some 3), .mk [(.slice none 0 0), (.slice none 0 0)], none⟩,
⟨(some 4), .mv (.c (.int .i64 0)), none⟩])
(.seq (.region [⟨(some 10), .loadN 9 (.t 1), none⟩,
⟨(some 11), .call (.c (.func (.func 23) #[] #[])) [(.t 10)], none⟩,
⟨(some 9), .mv (.t 11), none⟩,
⟨(some 12), .extract 0 (.t 9), none⟩,
⟨(some 13), .extract 1 (.t 9), none⟩,
⟨(some 5), .mv (.t 12), none⟩,
⟨(some 6), .mv (.t 13), none⟩])
(.seq (.seq (.region [⟨(some 14), .mv (.t 6), none⟩,
⟨(some 15), .bin .num .neq (.t 14) (.c (.int .i64 0)), none⟩])
(.cond (.t 15)
(.seq (.region [⟨(some 16), .build [(.int .i64 0), (.slice none 0 0), (.int .i64 0), (.slice none 0 0), (.int .i64 0), (.slice none 0 0), (.int .i64 0), (.slice none 0 0), (.slice none 0 0)] [], none⟩,
⟨(some 17), .build [(.slice none 0 0), (.slice none 0 0)] [], none⟩,
⟨(some 18), .mv (.t 6), none⟩,
⟨none, .store 9 (.t 2) (.t 16), none⟩,
⟨none, .store 2 (.t 3) (.t 17), none⟩,
⟨(some 4), .mv (.t 18), none⟩])
.ret)
.skip))
(.seq (.region [⟨(some 19), .mv (.t 5), none⟩,
⟨(some 20), .call (.c (.func (.func 30) #[] #[])) [(.t 19)], none⟩])
(.seq (.seq (.region [⟨(some 21), .mv (.c (.int .i64 0)), none⟩])
(.block 0
(.loop
(.seq (.region [⟨(some 22), .bin .num .lss (.t 21) (.c (.int .i64 2)), none⟩])
(.seq (.cond (.t 22)
.skip
(.exit 0))
(.seq (.block 1
(.seq (.region [⟨(some 23), .mv (.t 21), none⟩,
⟨(some 7), .mv (.t 23), none⟩])
(.seq (.seq (.region [⟨(some 24), .mv (.t 5), none⟩,
⟨(some 25), .mv (.t 7), none⟩,
⟨(some 26), .build [(.int .u8 0), (.int .i64 0), (.int .i64 0), (.int .i64 0), (.int .i64 0), (.slice none 0 0)] [(0, 1, (.c (.int .u8 2))), (1, 1, (.t 25))], none⟩,
⟨(some 27), .call (.c (.func (.func 24) #[] #[])) [(.t 24), (.t 26)], none⟩,
⟨(some 8), .mv (.t 27), none⟩])
(.seq (.region [⟨(some 28), .mv (.t 8), none⟩,
⟨(some 29), .bin .num .neq (.t 28) (.c (.int .i64 0)), none⟩])
(.cond (.t 29)
(.seq (.region [⟨(some 30), .build [(.int .i64 0), (.slice none 0 0), (.int .i64 0), (.slice none 0 0), (.int .i64 0), (.slice none 0 0), (.int .i64 0), (.slice none 0 0), (.slice none 0 0)] [], none⟩,
⟨(some 31), .build [(.slice none 0 0), (.slice none 0 0)] [], none⟩,
⟨(some 32), .mv (.t 8), none⟩,
⟨none, .store 9 (.t 2) (.t 30), none⟩,
⟨none, .store 2 (.t 3) (.t 31), none⟩,
⟨(some 4), .mv (.t 32), none⟩])
.ret)
.skip)))
(.region [⟨(some 33), .mv (.t 5), none⟩,
⟨(some 34), .call (.c (.func (.func 30) #[] #[])) [(.t 33)], none⟩]))))
(.region [⟨(some 35), .bin .num .add (.t 21) (.c (.int .i64 1)), none⟩,
⟨(some 21), .mv (.t 35), none⟩])))))))
(.seq (.dregion [(0, ⟨(some 36), .mv (.t 5), none⟩, []),
(1, ⟨(some 37), .call (.c (.func (.func 25) #[] #[])) [(.t 36)], none⟩, []),
(2, ⟨(some 38), .mv (.t 5), none⟩, []),
(3, ⟨(some 39), .nilCheck (.t 38), none⟩, []),
(4, ⟨(some 40), .faddr 3 (.t 39), none⟩, []),
(5, ⟨(some 41), .loadN 2 (.t 40), none⟩, [3]),
(6, ⟨none, .store 9 (.t 2) (.t 37), none⟩, [0]),
(7, ⟨none, .store 2 (.t 3) (.t 41), none⟩, []),
(8, ⟨(some 4), .mv (.c (.int .i64 0)), none⟩, [])])
.ret))))))⟩

/- riposte/riposteref25.Hears -/
theorem get12 (w : World) : (ctxW w).funcs.get 12 = some ir12 := by kernel_rfl
theorem get16 (w : World) : (ctxW w).funcs.get 16 = some ir16 := by kernel_rfl
theorem get14 (w : World) : (ctxW w).funcs.get 14 = some ir14 := by kernel_rfl
end Go.Ai.Wire
