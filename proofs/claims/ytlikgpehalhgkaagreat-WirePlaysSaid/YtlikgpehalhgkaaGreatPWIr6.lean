/-
  More functions of the program in the evaluator's own form (printed by program), and that they are the program's.
-/
import Derived.Test.YtlikgpehalhgkaaGreatPWIr
namespace Go.Ai.Wire
open Go.Proofs

/- riposte/riposteref25.Same -/
def ir12 : IFunc := ⟨[.tmp 4],
(.seq (.region [⟨(some 2), .box 9 (.t 0), none⟩,
⟨(some 3), .box 9 (.t 1), none⟩,
⟨(some 4), .mv (.c (.bool false)), none⟩])
(.seq (.seq (.region [⟨(some 6), .faddr 0 (.t 2), none⟩,
⟨(some 7), .idxA 2 4 (.t 6) (.c (.int .i64 0)), none⟩,
⟨(some 8), .loadN 4 (.t 7), none⟩,
⟨(some 9), .faddr 0 (.t 3), none⟩,
⟨(some 10), .idxA 2 4 (.t 9) (.c (.int .i64 0)), none⟩,
⟨(some 11), .loadN 4 (.t 10), none⟩,
⟨(some 12), .call (.c (.func (.func 29) #[] #[])) [(.t 8), (.t 11)], none⟩,
⟨(some 13), .not (.t 12), none⟩,
⟨(some 14), .mv (.t 13), none⟩,
⟨(some 15), .faddr 0 (.t 2), (some (14, false))⟩,
⟨(some 16), .idxA 2 4 (.t 15) (.c (.int .i64 1)), (some (14, false))⟩,
⟨(some 17), .loadN 4 (.t 16), (some (14, false))⟩,
⟨(some 18), .faddr 0 (.t 3), (some (14, false))⟩,
⟨(some 19), .idxA 2 4 (.t 18) (.c (.int .i64 1)), (some (14, false))⟩,
⟨(some 20), .loadN 4 (.t 19), (some (14, false))⟩,
⟨(some 21), .call (.c (.func (.func 29) #[] #[])) [(.t 17), (.t 20)], (some (14, false))⟩,
⟨(some 22), .not (.t 21), (some (14, false))⟩,
⟨(some 23), .pick (.t 14) (.c (.bool true)) (.t 22), none⟩,
⟨(some 24), .mv (.t 23), none⟩,
⟨(some 25), .faddr 8 (.t 2), (some (24, false))⟩,
⟨(some 26), .load1 (.t 25), (some (24, false))⟩,
⟨(some 27), .len (.t 26), (some (24, false))⟩,
⟨(some 28), .faddr 8 (.t 3), (some (24, false))⟩,
⟨(some 29), .load1 (.t 28), (some (24, false))⟩,
⟨(some 30), .len (.t 29), (some (24, false))⟩,
⟨(some 31), .bin .num .neq (.t 27) (.t 30), (some (24, false))⟩,
⟨(some 32), .pick (.t 24) (.c (.bool true)) (.t 31), none⟩])
(.cond (.t 32)
(.seq (.region [⟨(some 4), .mv (.c (.bool false)), none⟩])
.ret)
.skip))
(.seq (.seq (.region [⟨(some 5), .mv (.c (.int .i64 0)), none⟩])
(.block 0
(.loop
(.seq (.seq (.region [⟨(some 33), .mv (.t 5), none⟩,
⟨(some 34), .faddr 8 (.t 2), none⟩,
⟨(some 35), .load1 (.t 34), none⟩,
⟨(some 36), .len (.t 35), none⟩,
⟨(some 37), .bin .num .lss (.t 33) (.t 36), none⟩])
(.cond (.t 37)
.skip
(.exit 0)))
(.seq (.block 1
(.seq (.dregion [(0, ⟨(some 40), .faddr 8 (.t 2), none⟩, []),
(1, ⟨(some 41), .load1 (.t 40), none⟩, []),
(2, ⟨(some 42), .mv (.t 5), none⟩, []),
(3, ⟨(some 43), .idxS 2 (.t 41) (.t 42), none⟩, []),
(4, ⟨(some 44), .faddr 0 (.t 43), none⟩, []),
(5, ⟨(some 45), .load1 (.t 44), none⟩, []),
(6, ⟨(some 46), .faddr 8 (.t 3), none⟩, []),
(7, ⟨(some 47), .load1 (.t 46), none⟩, [1, 5]),
(8, ⟨(some 48), .mv (.t 5), none⟩, []),
(9, ⟨(some 49), .idxS 2 (.t 47) (.t 48), none⟩, []),
(10, ⟨(some 50), .faddr 0 (.t 49), none⟩, []),
(11, ⟨(some 51), .load1 (.t 50), none⟩, [5, 9]),
(12, ⟨(some 52), .bin .num .neq (.t 45) (.t 51), none⟩, []),
(13, ⟨(some 53), .mv (.t 52), none⟩, []),
(14, ⟨(some 54), .faddr 8 (.t 2), (some (53, false))⟩, []),
(15, ⟨(some 55), .load1 (.t 54), (some (53, false))⟩, []),
(16, ⟨(some 56), .mv (.t 5), (some (53, false))⟩, []),
(17, ⟨(some 57), .idxS 2 (.t 55) (.t 56), (some (53, false))⟩, []),
(18, ⟨(some 58), .faddr 1 (.t 57), (some (53, false))⟩, []),
(19, ⟨(some 59), .load1 (.t 58), (some (53, false))⟩, []),
(20, ⟨(some 60), .toStr (.t 59), (some (53, false))⟩, []),
(21, ⟨(some 61), .faddr 8 (.t 3), (some (53, false))⟩, []),
(22, ⟨(some 62), .load1 (.t 61), (some (53, false))⟩, [1, 2, 6]),
(23, ⟨(some 63), .mv (.t 5), (some (53, false))⟩, []),
(24, ⟨(some 64), .idxS 2 (.t 62) (.t 63), (some (53, false))⟩, []),
(25, ⟨(some 65), .faddr 1 (.t 64), (some (53, false))⟩, []),
(26, ⟨(some 66), .load1 (.t 65), (some (53, false))⟩, [5, 6, 10]),
(27, ⟨(some 67), .toStr (.t 66), (some (53, false))⟩, [6, 7, 11]),
(28, ⟨(some 68), .bin .str .neq (.t 60) (.t 67), (some (53, false))⟩, []),
(29, ⟨(some 69), .pick (.t 53) (.c (.bool true)) (.t 68), none⟩, [])])
(.cond (.t 69)
(.seq (.region [⟨(some 4), .mv (.c (.bool false)), none⟩])
.ret)
.skip)))
(.region [⟨(some 38), .mv (.t 5), none⟩,
⟨(some 39), .bin .num .add (.t 38) (.c (.int .i64 1)), none⟩,
⟨(some 5), .mv (.t 39), none⟩]))))))
(.seq (.region [⟨(some 4), .mv (.c (.bool true)), none⟩])
.ret))))⟩

/- riposte/wire.Turn -/
/- riposte/wire.Settle -/
/- riposte/riposteref25.Hears -/
def ir28 : IFunc := ⟨[.tmp 4],
(.seq (.region [⟨(some 2), .box 9 (.t 0), none⟩,
⟨(some 3), .box 6 (.t 1), none⟩,
⟨(some 4), .mv (.c (.int .i64 0)), none⟩])
(.seq (.seq (.region [⟨(some 5), .faddr 0 (.t 3), none⟩,
⟨(some 6), .load1 (.t 5), none⟩,
⟨(some 7), .bin .num .eql (.t 6) (.c (.int .u8 3)), none⟩,
⟨(some 8), .mv (.t 7), none⟩,
⟨(some 9), .faddr 2 (.t 3), (some (8, true))⟩,
⟨(some 10), .load1 (.t 9), (some (8, true))⟩,
⟨(some 11), .faddr 8 (.t 2), (some (8, true))⟩,
⟨(some 12), .load1 (.t 11), (some (8, true))⟩,
⟨(some 13), .len (.t 12), (some (8, true))⟩,
⟨(some 14), .bin .num .sub (.t 13) (.c (.int .i64 1)), (some (8, true))⟩,
⟨(some 15), .call (.c (.func (.func 51) #[] #[])) [(.t 10), (.c (.int .i64 0)), (.t 14)], (some (8, true))⟩,
⟨(some 16), .pick (.t 8) (.t 15) (.c (.bool false)), none⟩])
(.cond (.t 16)
(.seq (.region [⟨(some 17), .faddr 8 (.t 2), none⟩,
⟨(some 18), .load1 (.t 17), none⟩,
⟨(some 19), .faddr 2 (.t 3), none⟩,
⟨(some 20), .load1 (.t 19), none⟩,
⟨(some 21), .idxS 2 (.t 18) (.t 20), none⟩,
⟨(some 22), .faddr 0 (.t 21), none⟩,
⟨(some 23), .load1 (.t 22), none⟩,
⟨(some 4), .mv (.t 23), none⟩])
.ret)
.skip))
(.seq (.region [⟨(some 4), .mv (.c (.int .i64 0)), none⟩])
.ret)))⟩

theorem get12 (w : World) : (ctxW w).funcs.get 12 = some ir12 := by kernel_rfl
theorem get28 (w : World) : (ctxW w).funcs.get 28 = some ir28 := by kernel_rfl
end Go.Ai.Wire
