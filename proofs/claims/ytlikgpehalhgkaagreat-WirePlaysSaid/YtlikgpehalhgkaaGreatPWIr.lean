/-
  The functions that 'WireBytes' and 'WireSpoilt' reach, in the evaluator's own form (printed by program), and that they are the program's.
-/
import Derived.Test.YtlikgpehalhgkaaGreatPAiF
import Derived.Test.YtlikgpehalhgkaaGreatProg
namespace Go.Ai.Wire
open Go.Proofs

/- riposte/wire.Bytes -/
/- riposte/riposteref25.Bytes -/
def ir57 : IFunc := ⟨[.tmp 2, .tmp 3],
(.seq (.region [⟨(some 1), .box 3 (.t 0), none⟩,
⟨(some 2), .mv (.c (.slice none 0 0)), none⟩,
⟨(some 3), .mv (.c (.int .i64 0)), none⟩])
(.seq (.seq (.region [⟨(some 5), .loadN 3 (.t 1), none⟩,
⟨(some 6), .call (.c (.func (.func 85) #[] #[])) [(.t 5)], none⟩,
⟨(some 7), .not (.t 6), none⟩])
(.cond (.t 7)
(.seq (.region [⟨(some 2), .mv (.c (.slice none 0 0)), none⟩,
⟨(some 3), .mv (.c (.int .i64 4)), none⟩])
.ret)
.skip))
(.seq (.dregion [(0, ⟨(some 8), .faddr 0 (.t 1), none⟩, []),
(1, ⟨(some 9), .load1 (.t 8), none⟩, []),
(2, ⟨(some 10), .call (.c (.func (.func 86) #[] #[])) [(.t 9)], none⟩, []),
(3, ⟨(some 11), .faddr 1 (.t 1), none⟩, []),
(4, ⟨(some 12), .load1 (.t 11), none⟩, [1, 2]),
(5, ⟨(some 13), .call (.c (.func (.func 86) #[] #[])) [(.t 12)], none⟩, []),
(6, ⟨(some 14), .append 1 1 (.t 10) (.t 13), none⟩, []),
(7, ⟨(some 4), .mv (.t 14), none⟩, [])])
(.seq (.dregion [(1, ⟨(some 16), .faddr 2 (.t 1), none⟩, []),
(2, ⟨(some 17), .load1 (.t 16), none⟩, []),
(3, ⟨(some 18), .len (.t 17), none⟩, []),
(4, ⟨(some 19), .call (.c (.func (.func 86) #[] #[])) [(.t 18)], none⟩, []),
(0, ⟨(some 15), .mv (.t 4), none⟩, []),
(5, ⟨(some 20), .append 1 1 (.t 15) (.t 19), none⟩, []),
(6, ⟨(some 21), .faddr 2 (.t 1), none⟩, []),
(7, ⟨(some 22), .load1 (.t 21), none⟩, [1, 3, 5]),
(8, ⟨(some 23), .append 1 1 (.t 20) (.t 22), none⟩, []),
(9, ⟨(some 4), .mv (.t 23), none⟩, [])])
(.seq (.region [⟨(some 24), .mv (.t 4), none⟩,
⟨(some 25), .mv (.t 4), none⟩,
⟨(some 26), .call (.c (.func (.func 87) #[] #[])) [(.t 25)], none⟩,
⟨(some 27), .call (.c (.func (.func 86) #[] #[])) [(.t 26)], none⟩,
⟨(some 28), .append 1 1 (.t 24) (.t 27), none⟩,
⟨(some 2), .mv (.t 28), none⟩,
⟨(some 3), .mv (.c (.int .i64 0)), none⟩])
.ret)))))⟩

/- riposte/wire.Read -/
def ir97 : IFunc := ⟨[.cellN 2 3, .tmp 3],
(.seq (.region [⟨(some 2), .mk [(.int .i64 0), (.int .i64 0), (.slice none 0 0)], none⟩,
⟨(some 3), .mv (.c (.int .i64 0)), none⟩])
(.seq (.seq (.region [⟨(some 5), .mv (.t 0), none⟩,
⟨(some 6), .len (.t 5), none⟩,
⟨(some 7), .call (.c (.func (.func 68) #[] #[])) [(.t 6), (.c (.int .i64 8)), (.c (.int .i64 408))], none⟩,
⟨(some 8), .not (.t 7), none⟩])
(.cond (.t 8)
(.seq (.region [⟨(some 9), .build [(.int .i64 0), (.int .i64 0), (.slice none 0 0)] [], none⟩,
⟨none, .store 3 (.t 2) (.t 9), none⟩,
⟨(some 3), .mv (.c (.int .i64 4)), none⟩])
.ret)
.skip))
(.seq (.dregion [(0, ⟨(some 10), .mv (.t 0), none⟩, []),
(1, ⟨(some 11), .call (.c (.func (.func 107) #[] #[])) [(.t 10), (.c (.int .i64 0))], none⟩, []),
(2, ⟨(some 12), .mv (.t 0), none⟩, []),
(3, ⟨(some 13), .call (.c (.func (.func 107) #[] #[])) [(.t 12), (.c (.int .i64 2))], none⟩, []),
(4, ⟨(some 14), .mv (.t 0), none⟩, []),
(5, ⟨(some 15), .mv (.t 0), none⟩, []),
(6, ⟨(some 16), .len (.t 15), none⟩, []),
(7, ⟨(some 17), .bin .num .sub (.t 16) (.c (.int .i64 2)), none⟩, []),
(8, ⟨(some 18), .sliceS 1 (.t 14) (some (.c (.int .i64 6))) (some (.t 17)) none, none⟩, [4, 6]),
(9, ⟨(some 19), .call (.c (.func (.func 73) #[] #[])) [(.t 18)], none⟩, []),
(10, ⟨(some 20), .build [(.int .i64 0), (.int .i64 0), (.slice none 0 0)] [(0, 1, (.t 11)), (1, 1, (.t 13)), (2, 1, (.t 19))], none⟩, []),
(11, ⟨(some 21), .build [(.int .i64 0), (.int .i64 0), (.slice none 0 0)] [(0, 3, (.t 20))], none⟩, []),
(12, ⟨(some 4), .mk [(.int .i64 0), (.int .i64 0), (.slice none 0 0)], none⟩, [2, 3, 8, 10]),
(13, ⟨none, .store 3 (.t 4) (.t 21), none⟩, [])])
(.seq (.seq (.region [⟨(some 22), .loadN 3 (.t 4), none⟩,
⟨(some 23), .call (.c (.func (.func 38) #[] #[])) [(.t 22)], none⟩,
⟨(some 24), .not (.t 23), none⟩,
⟨(some 25), .mv (.t 24), none⟩,
⟨(some 26), .loadN 3 (.t 4), (some (25, false))⟩,
⟨(some 27), .call (.c (.func (.func 39) #[] #[])) [(.t 26)], (some (25, false))⟩,
⟨(some 28), .mv (.t 0), (some (25, false))⟩,
⟨(some 29), .call (.c (.func (.func 108) #[] #[])) [(.t 27), (.t 28)], (some (25, false))⟩,
⟨(some 30), .not (.t 29), (some (25, false))⟩,
⟨(some 31), .pick (.t 25) (.c (.bool true)) (.t 30), none⟩])
(.cond (.t 31)
(.seq (.region [⟨(some 32), .build [(.int .i64 0), (.int .i64 0), (.slice none 0 0)] [], none⟩,
⟨none, .store 3 (.t 2) (.t 32), none⟩,
⟨(some 3), .mv (.c (.int .i64 4)), none⟩])
.ret)
.skip))
(.seq (.region [⟨(some 33), .faddr 0 (.t 4), none⟩,
⟨(some 34), .loadN 3 (.t 33), none⟩,
⟨none, .store 3 (.t 2) (.t 34), none⟩,
⟨(some 3), .mv (.c (.int .i64 0)), none⟩])
.ret)))))⟩

/- riposte/riposteref25.Read -/
def ir58 : IFunc := ⟨[.cellN 2 3, .tmp 3],
(.seq (.region [⟨(some 2), .mk [(.int .i64 0), (.int .i64 0), (.slice none 0 0)], none⟩,
⟨(some 3), .mv (.c (.int .i64 0)), none⟩])
(.seq (.seq (.region [⟨(some 7), .mv (.t 0), none⟩,
⟨(some 8), .len (.t 7), none⟩,
⟨(some 9), .bin .num .lss (.t 8) (.c (.int .i64 8)), none⟩])
(.cond (.t 9)
(.seq (.region [⟨(some 10), .build [(.int .i64 0), (.int .i64 0), (.slice none 0 0)] [], none⟩,
⟨none, .store 3 (.t 2) (.t 10), none⟩,
⟨(some 3), .mv (.c (.int .i64 4)), none⟩])
.ret)
.skip))
(.seq (.dregion [(0, ⟨(some 11), .mv (.t 0), none⟩, []),
(1, ⟨(some 12), .idxS 1 (.t 11) (.c (.int .i64 0)), none⟩, []),
(2, ⟨(some 13), .load1 (.t 12), none⟩, []),
(3, ⟨(some 14), .conv .i64 (.t 13), none⟩, []),
(4, ⟨(some 15), .bin .num .mul (.t 14) (.c (.int .i64 256)), none⟩, []),
(5, ⟨(some 16), .mv (.t 0), none⟩, []),
(6, ⟨(some 17), .idxS 1 (.t 16) (.c (.int .i64 1)), none⟩, []),
(7, ⟨(some 18), .load1 (.t 17), none⟩, [4]),
(8, ⟨(some 19), .conv .i64 (.t 18), none⟩, []),
(9, ⟨(some 20), .bin .num .add (.t 15) (.t 19), none⟩, []),
(10, ⟨(some 21), .mv (.t 0), none⟩, []),
(11, ⟨(some 22), .idxS 1 (.t 21) (.c (.int .i64 2)), none⟩, []),
(12, ⟨(some 23), .load1 (.t 22), none⟩, [4, 9]),
(13, ⟨(some 24), .conv .i64 (.t 23), none⟩, []),
(14, ⟨(some 25), .bin .num .mul (.t 24) (.c (.int .i64 256)), none⟩, []),
(15, ⟨(some 26), .mv (.t 0), none⟩, []),
(16, ⟨(some 27), .idxS 1 (.t 26) (.c (.int .i64 3)), none⟩, []),
(17, ⟨(some 28), .load1 (.t 27), none⟩, [4, 9, 14]),
(18, ⟨(some 29), .conv .i64 (.t 28), none⟩, []),
(19, ⟨(some 30), .bin .num .add (.t 25) (.t 29), none⟩, []),
(20, ⟨(some 31), .buildSlice 0 [] [], none⟩, [2, 7, 12, 17]),
(21, ⟨(some 32), .mv (.t 0), none⟩, []),
(22, ⟨(some 33), .mv (.t 0), none⟩, []),
(23, ⟨(some 34), .len (.t 33), none⟩, []),
(24, ⟨(some 35), .bin .num .sub (.t 34) (.c (.int .i64 2)), none⟩, []),
(25, ⟨(some 36), .sliceS 1 (.t 32) (some (.c (.int .i64 6))) (some (.t 35)) none, none⟩, [4, 7, 12, 17, 22]),
(26, ⟨(some 37), .append 1 1 (.t 31) (.t 36), none⟩, [8, 13, 18, 23]),
(27, ⟨(some 38), .build [(.int .i64 0), (.int .i64 0), (.slice none 0 0)] [(0, 1, (.t 20)), (1, 1, (.t 30)), (2, 1, (.t 37))], none⟩, []),
(28, ⟨(some 4), .mk [(.int .i64 0), (.int .i64 0), (.slice none 0 0)], none⟩, [1, 2, 7, 10, 15, 20, 25]),
(29, ⟨none, .store 3 (.t 4) (.t 38), none⟩, [])])
(.seq (.region [⟨(some 40), .loadN 3 (.t 4), none⟩,
⟨(some 41), .call (.c (.func (.func 57) #[] #[])) [(.t 40)], none⟩,
⟨(some 39), .mv (.t 41), none⟩,
⟨(some 42), .extract 0 (.t 39), none⟩,
⟨(some 43), .extract 1 (.t 39), none⟩,
⟨(some 5), .mv (.t 42), none⟩,
⟨(some 6), .mv (.t 43), none⟩])
(.seq (.seq (.region [⟨(some 44), .mv (.t 6), none⟩,
⟨(some 45), .bin .num .neq (.t 44) (.c (.int .i64 0)), none⟩,
⟨(some 46), .mv (.t 45), none⟩,
⟨(some 47), .mv (.t 5), (some (46, false))⟩,
⟨(some 48), .toStr (.t 47), (some (46, false))⟩,
⟨(some 49), .mv (.t 0), (some (46, false))⟩,
⟨(some 50), .toStr (.t 49), (some (46, false))⟩,
⟨(some 51), .bin .str .neq (.t 48) (.t 50), (some (46, false))⟩,
⟨(some 52), .pick (.t 46) (.c (.bool true)) (.t 51), none⟩])
(.cond (.t 52)
(.seq (.region [⟨(some 53), .build [(.int .i64 0), (.int .i64 0), (.slice none 0 0)] [], none⟩,
⟨none, .store 3 (.t 2) (.t 53), none⟩,
⟨(some 3), .mv (.c (.int .i64 4)), none⟩])
.ret)
.skip))
(.seq (.region [⟨(some 54), .loadN 3 (.t 4), none⟩,
⟨none, .store 3 (.t 2) (.t 54), none⟩,
⟨(some 3), .mv (.c (.int .i64 0)), none⟩])
.ret))))))⟩

/- riposte/wire.Sum -/
def ir63 : IFunc := ⟨[.tmp 2],
(.seq (.region [⟨(some 2), .mv (.c (.int .i64 0)), none⟩])
(.seq (.region [⟨(some 3), .mv (.c (.int .i64 0)), none⟩])
(.seq (.seq (.region [⟨(some 5), .mv (.t 0), none⟩,
⟨(some 6), .len (.t 5), none⟩,
⟨(some 7), .mv (.c (.int .i64 0)), none⟩])
(.block 0
(.loop
(.seq (.region [⟨(some 8), .bin .num .lss (.t 7) (.t 6), none⟩])
(.seq (.cond (.t 8)
.skip
(.exit 0))
(.seq (.block 1
(.seq (.region [⟨(some 9), .mv (.t 7), none⟩,
⟨(some 4), .mv (.t 9), none⟩])
(.region [⟨(some 10), .mv (.t 3), none⟩,
⟨(some 11), .mv (.t 0), none⟩,
⟨(some 12), .mv (.t 4), none⟩,
⟨(some 13), .idxS 1 (.t 11) (.t 12), none⟩,
⟨(some 14), .load1 (.t 13), none⟩,
⟨(some 15), .conv .i64 (.t 14), none⟩,
⟨(some 16), .bin .num .add (.t 15) (.c (.int .i64 1)), none⟩,
⟨(some 17), .mv (.t 4), none⟩,
⟨(some 18), .bin .num .add (.t 17) (.c (.int .i64 1)), none⟩,
⟨(some 19), .bin .num .mul (.t 16) (.t 18), none⟩,
⟨(some 20), .bin .num .add (.t 10) (.t 19), none⟩,
⟨(some 21), .bin .num .rem (.t 20) (.c (.int .i64 65521)), none⟩,
⟨(some 3), .mv (.t 21), none⟩])))
(.region [⟨(some 22), .bin .num .add (.t 7) (.c (.int .i64 1)), none⟩,
⟨(some 7), .mv (.t 22), none⟩])))))))
(.seq (.region [⟨(some 23), .mv (.t 3), none⟩,
⟨(some 2), .mv (.t 23), none⟩])
.ret))))⟩

/- riposte/riposteref25.Sum -/
def ir87 : IFunc := ⟨[.tmp 2],
(.seq (.region [⟨(some 2), .mv (.c (.int .i64 0)), none⟩])
(.seq (.region [⟨(some 3), .mv (.c (.int .i64 0)), none⟩])
(.seq (.seq (.region [⟨(some 4), .mv (.c (.int .i64 0)), none⟩])
(.block 0
(.loop
(.seq (.seq (.region [⟨(some 5), .mv (.t 4), none⟩,
⟨(some 6), .mv (.t 0), none⟩,
⟨(some 7), .len (.t 6), none⟩,
⟨(some 8), .bin .num .lss (.t 5) (.t 7), none⟩])
(.cond (.t 8)
.skip
(.exit 0)))
(.seq (.block 1
(.region [⟨(some 11), .mv (.t 3), none⟩,
⟨(some 12), .mv (.t 4), none⟩,
⟨(some 13), .bin .num .add (.t 12) (.c (.int .i64 1)), none⟩,
⟨(some 14), .mv (.t 0), none⟩,
⟨(some 15), .mv (.t 4), none⟩,
⟨(some 16), .idxS 1 (.t 14) (.t 15), none⟩,
⟨(some 17), .load1 (.t 16), none⟩,
⟨(some 18), .conv .i64 (.t 17), none⟩,
⟨(some 19), .bin .num .add (.t 18) (.c (.int .i64 1)), none⟩,
⟨(some 20), .bin .num .mul (.t 13) (.t 19), none⟩,
⟨(some 21), .bin .num .add (.t 11) (.t 20), none⟩,
⟨(some 22), .bin .num .rem (.t 21) (.c (.int .i64 65521)), none⟩,
⟨(some 3), .mv (.t 22), none⟩]))
(.region [⟨(some 9), .mv (.t 4), none⟩,
⟨(some 10), .bin .num .add (.t 9) (.c (.int .i64 1)), none⟩,
⟨(some 4), .mv (.t 10), none⟩]))))))
(.seq (.region [⟨(some 23), .mv (.t 3), none⟩,
⟨(some 2), .mv (.t 23), none⟩])
.ret))))⟩

/- (riposte/wire.packet).isRight -/
def ir38 : IFunc := ⟨[.tmp 2],
(.seq (.region [⟨(some 1), .box 3 (.t 0), none⟩,
⟨(some 2), .mv (.c (.bool false)), none⟩])
(.seq (.seq (.region [⟨(some 3), .faddr 0 (.t 1), none⟩,
⟨(some 4), .faddr 1 (.t 3), none⟩,
⟨(some 5), .load1 (.t 4), none⟩,
⟨(some 6), .call (.c (.func (.func 60) #[] #[])) [(.t 5)], none⟩,
⟨(some 7), .not (.t 6), none⟩,
⟨(some 8), .mv (.t 7), none⟩,
⟨(some 9), .faddr 0 (.t 1), (some (8, false))⟩,
⟨(some 10), .faddr 0 (.t 9), (some (8, false))⟩,
⟨(some 11), .load1 (.t 10), (some (8, false))⟩,
⟨(some 12), .call (.c (.func (.func 60) #[] #[])) [(.t 11)], (some (8, false))⟩,
⟨(some 13), .not (.t 12), (some (8, false))⟩,
⟨(some 14), .pick (.t 8) (.c (.bool true)) (.t 13), none⟩])
(.cond (.t 14)
(.seq (.region [⟨(some 2), .mv (.c (.bool false)), none⟩])
.ret)
.skip))
(.seq (.seq (.region [⟨(some 15), .faddr 0 (.t 1), none⟩,
⟨(some 16), .faddr 0 (.t 15), none⟩,
⟨(some 17), .load1 (.t 16), none⟩,
⟨(some 18), .bin .num .eql (.t 17) (.c (.int .i64 0)), none⟩])
(.cond (.t 18)
(.seq (.region [⟨(some 19), .faddr 0 (.t 1), none⟩,
⟨(some 20), .faddr 2 (.t 19), none⟩,
⟨(some 21), .load1 (.t 20), none⟩,
⟨(some 22), .len (.t 21), none⟩,
⟨(some 23), .bin .num .eql (.t 22) (.c (.int .i64 0)), none⟩,
⟨(some 2), .mv (.t 23), none⟩])
.ret)
.skip))
(.seq (.region [⟨(some 24), .faddr 0 (.t 1), none⟩,
⟨(some 25), .faddr 2 (.t 24), none⟩,
⟨(some 26), .load1 (.t 25), none⟩,
⟨(some 27), .call (.c (.func (.func 61) #[] #[])) [(.t 26)], none⟩,
⟨(some 2), .mv (.t 27), none⟩])
.ret))))⟩

/- (riposte/wire.packet).bytes -/
def ir39 : IFunc := ⟨[.tmp 2],
(.seq (.region [⟨(some 1), .box 3 (.t 0), none⟩,
⟨(some 2), .mv (.c (.slice none 0 0)), none⟩])
(.seq (.dregion [(0, ⟨(some 4), .faddr 0 (.t 1), none⟩, []),
(1, ⟨(some 5), .faddr 0 (.t 4), none⟩, []),
(2, ⟨(some 6), .load1 (.t 5), none⟩, []),
(3, ⟨(some 7), .faddr 0 (.t 1), none⟩, []),
(4, ⟨(some 8), .faddr 1 (.t 7), none⟩, []),
(5, ⟨(some 9), .load1 (.t 8), none⟩, [2]),
(6, ⟨(some 10), .faddr 0 (.t 1), none⟩, []),
(7, ⟨(some 11), .faddr 2 (.t 10), none⟩, []),
(8, ⟨(some 12), .load1 (.t 11), none⟩, [2, 5]),
(9, ⟨(some 13), .len (.t 12), none⟩, []),
(10, ⟨(some 14), .buildSlice 3 [(.int .i64 0), (.int .i64 0), (.int .i64 0)] [(0, 1, (.t 6)), (1, 1, (.t 9)), (2, 1, (.t 13))], none⟩, []),
(11, ⟨(some 15), .call (.c (.func (.func 62) #[] #[])) [(.c (.slice none 0 0)), (.t 14)], none⟩, []),
(12, ⟨(some 16), .faddr 0 (.t 1), none⟩, []),
(13, ⟨(some 17), .faddr 2 (.t 16), none⟩, []),
(14, ⟨(some 18), .load1 (.t 17), none⟩, [2, 3, 5, 8, 11]),
(15, ⟨(some 19), .append 1 1 (.t 15) (.t 18), none⟩, []),
(16, ⟨(some 3), .mv (.t 19), none⟩, [])])
(.seq (.region [⟨(some 20), .mv (.t 3), none⟩,
⟨(some 21), .mv (.t 3), none⟩,
⟨(some 22), .call (.c (.func (.func 63) #[] #[])) [(.t 21)], none⟩,
⟨(some 23), .buildSlice 1 [(.int .i64 0)] [(0, 1, (.t 22))], none⟩,
⟨(some 24), .call (.c (.func (.func 62) #[] #[])) [(.t 20), (.t 23)], none⟩,
⟨(some 2), .mv (.t 24), none⟩])
.ret)))⟩

/- riposte/riposteref25.IsPacket -/
def ir85 : IFunc := ⟨[.tmp 2],
(.seq (.region [⟨(some 1), .box 3 (.t 0), none⟩,
⟨(some 2), .mv (.c (.bool false)), none⟩])
(.seq (.seq (.region [⟨(some 3), .faddr 1 (.t 1), none⟩,
⟨(some 4), .load1 (.t 3), none⟩,
⟨(some 5), .call (.c (.func (.func 51) #[] #[])) [(.t 4), (.c (.int .i64 0)), (.c (.int .i64 60000))], none⟩,
⟨(some 6), .not (.t 5), none⟩])
(.cond (.t 6)
(.seq (.region [⟨(some 2), .mv (.c (.bool false)), none⟩])
.ret)
.skip))
(.seq (.seq (.region [⟨(some 7), .faddr 0 (.t 1), none⟩,
⟨(some 8), .load1 (.t 7), none⟩,
⟨(some 9), .bin .num .eql (.t 8) (.c (.int .i64 0)), none⟩])
(.cond (.t 9)
(.seq (.region [⟨(some 10), .faddr 2 (.t 1), none⟩,
⟨(some 11), .load1 (.t 10), none⟩,
⟨(some 12), .len (.t 11), none⟩,
⟨(some 13), .bin .num .eql (.t 12) (.c (.int .i64 0)), none⟩,
⟨(some 2), .mv (.t 13), none⟩])
.ret)
.skip))
(.seq (.region [⟨(some 14), .faddr 0 (.t 1), none⟩,
⟨(some 15), .load1 (.t 14), none⟩,
⟨(some 16), .call (.c (.func (.func 51) #[] #[])) [(.t 15), (.c (.int .i64 1)), (.c (.int .i64 60000))], none⟩,
⟨(some 17), .mv (.t 16), none⟩,
⟨(some 18), .faddr 2 (.t 1), (some (17, true))⟩,
⟨(some 19), .load1 (.t 18), (some (17, true))⟩,
⟨(some 20), .call (.c (.func (.func 55) #[] #[])) [(.t 19)], (some (17, true))⟩,
⟨(some 21), .pick (.t 17) (.t 20) (.c (.bool false)), none⟩,
⟨(some 2), .mv (.t 21), none⟩])
.ret))))⟩

/- riposte/riposteref25.two -/
def ir86 : IFunc := ⟨[.tmp 2],
(.seq (.region [⟨(some 2), .mv (.c (.slice none 0 0)), none⟩])
(.seq (.region [⟨(some 3), .mv (.t 0), none⟩,
⟨(some 4), .bin .num .quo (.t 3) (.c (.int .i64 256)), none⟩,
⟨(some 5), .conv .u8 (.t 4), none⟩,
⟨(some 6), .mv (.t 0), none⟩,
⟨(some 7), .bin .num .rem (.t 6) (.c (.int .i64 256)), none⟩,
⟨(some 8), .conv .u8 (.t 7), none⟩,
⟨(some 9), .buildSlice 2 [(.int .u8 0), (.int .u8 0)] [(0, 1, (.t 5)), (1, 1, (.t 8))], none⟩,
⟨(some 2), .mv (.t 9), none⟩])
.ret))⟩

/- riposte/wire.within -/
def ir68 : IFunc := ⟨[.tmp 6],
(.seq (.region [⟨(some 6), .mv (.c (.bool false)), none⟩])
(.seq (.region [⟨(some 7), .mv (.t 0), none⟩,
⟨(some 8), .mv (.t 1), none⟩,
⟨(some 9), .bin .num .geq (.t 7) (.t 8), none⟩,
⟨(some 10), .mv (.t 9), none⟩,
⟨(some 11), .mv (.t 0), (some (10, true))⟩,
⟨(some 12), .mv (.t 2), (some (10, true))⟩,
⟨(some 13), .bin .num .leq (.t 11) (.t 12), (some (10, true))⟩,
⟨(some 14), .pick (.t 10) (.t 13) (.c (.bool false)), none⟩,
⟨(some 6), .mv (.t 14), none⟩])
.ret))⟩

/- riposte/wire.field -/
def ir107 : IFunc := ⟨[.tmp 4],
(.seq (.region [⟨(some 4), .mv (.c (.int .i64 0)), none⟩])
(.seq (.dregion [(0, ⟨(some 5), .mv (.t 0), none⟩, []),
(1, ⟨(some 6), .mv (.t 1), none⟩, []),
(2, ⟨(some 7), .idxS 1 (.t 5) (.t 6), none⟩, []),
(3, ⟨(some 8), .load1 (.t 7), none⟩, []),
(4, ⟨(some 9), .conv .i64 (.t 8), none⟩, []),
(5, ⟨(some 10), .bin .num .mul (.t 9) (.c (.int .i64 256)), none⟩, []),
(6, ⟨(some 11), .mv (.t 0), none⟩, []),
(7, ⟨(some 12), .mv (.t 1), none⟩, []),
(8, ⟨(some 13), .bin .num .add (.t 12) (.c (.int .i64 1)), none⟩, []),
(9, ⟨(some 14), .idxS 1 (.t 11) (.t 13), none⟩, []),
(10, ⟨(some 15), .load1 (.t 14), none⟩, [6]),
(11, ⟨(some 16), .conv .i64 (.t 15), none⟩, []),
(12, ⟨(some 17), .bin .num .add (.t 10) (.t 16), none⟩, []),
(13, ⟨(some 4), .mv (.t 17), none⟩, [])])
.ret))⟩

/- slices.Clone[[]byte,byte] -/
def ir73 : IFunc := ⟨[.tmp 2],
(.seq (.region [⟨(some 2), .mv (.c (.slice none 0 0)), none⟩])
(.seq (.seq (.region [⟨(some 3), .mv (.t 0), none⟩,
⟨(some 4), .bin .slc .eql (.t 3) (.c (.slice none 0 0)), none⟩])
(.cond (.t 4)
(.seq (.region [⟨(some 2), .mv (.c (.slice none 0 0)), none⟩])
.ret)
.skip))
(.seq (.region [⟨(some 5), .buildSlice 0 [] [], none⟩,
⟨(some 6), .mv (.t 0), none⟩,
⟨(some 7), .append 1 1 (.t 5) (.t 6), none⟩,
⟨(some 2), .mv (.t 7), none⟩])
.ret)))⟩

/- slices.Equal[[]byte,byte] -/
def ir108 : IFunc := ⟨[.tmp 4],
(.seq (.region [⟨(some 4), .mv (.c (.bool false)), none⟩])
(.seq (.seq (.region [⟨(some 6), .mv (.t 0), none⟩,
⟨(some 7), .len (.t 6), none⟩,
⟨(some 8), .mv (.t 1), none⟩,
⟨(some 9), .len (.t 8), none⟩,
⟨(some 10), .bin .num .neq (.t 7) (.t 9), none⟩])
(.cond (.t 10)
(.seq (.region [⟨(some 4), .mv (.c (.bool false)), none⟩])
.ret)
.skip))
(.seq (.seq (.region [⟨(some 11), .mv (.t 0), none⟩,
⟨(some 12), .len (.t 11), none⟩,
⟨(some 13), .mv (.c (.int .i64 0)), none⟩])
(.block 0
(.loop
(.seq (.region [⟨(some 14), .bin .num .lss (.t 13) (.t 12), none⟩])
(.seq (.cond (.t 14)
.skip
(.exit 0))
(.seq (.block 1
(.seq (.region [⟨(some 15), .mv (.t 13), none⟩,
⟨(some 5), .mv (.t 15), none⟩])
(.seq (.dregion [(0, ⟨(some 16), .mv (.t 0), none⟩, []),
(1, ⟨(some 17), .mv (.t 5), none⟩, []),
(2, ⟨(some 18), .idxS 1 (.t 16) (.t 17), none⟩, []),
(3, ⟨(some 19), .load1 (.t 18), none⟩, []),
(4, ⟨(some 20), .mv (.t 1), none⟩, []),
(5, ⟨(some 21), .mv (.t 5), none⟩, []),
(6, ⟨(some 22), .idxS 1 (.t 20) (.t 21), none⟩, []),
(7, ⟨(some 23), .load1 (.t 22), none⟩, [3]),
(8, ⟨(some 24), .bin .num .neq (.t 19) (.t 23), none⟩, [])])
(.cond (.t 24)
(.seq (.region [⟨(some 4), .mv (.c (.bool false)), none⟩])
.ret)
.skip))))
(.region [⟨(some 25), .bin .num .add (.t 13) (.c (.int .i64 1)), none⟩,
⟨(some 13), .mv (.t 25), none⟩])))))))
(.seq (.region [⟨(some 4), .mv (.c (.bool true)), none⟩])
.ret))))⟩

/- riposte/riposteref25.In -/
def ir51 : IFunc := ⟨[.tmp 6],
(.seq (.region [⟨(some 6), .mv (.c (.bool false)), none⟩])
(.seq (.region [⟨(some 7), .mv (.t 0), none⟩,
⟨(some 8), .mv (.t 1), none⟩,
⟨(some 9), .bin .num .geq (.t 7) (.t 8), none⟩,
⟨(some 10), .mv (.t 9), none⟩,
⟨(some 11), .mv (.t 0), (some (10, true))⟩,
⟨(some 12), .mv (.t 2), (some (10, true))⟩,
⟨(some 13), .bin .num .leq (.t 11) (.t 12), (some (10, true))⟩,
⟨(some 14), .pick (.t 10) (.t 13) (.c (.bool false)), none⟩,
⟨(some 6), .mv (.t 14), none⟩])
.ret))⟩

/- riposte/riposteref25.IsFrame -/
def ir55 : IFunc := ⟨[.tmp 2],
(.seq (.region [⟨(some 2), .mv (.c (.bool false)), none⟩])
(.seq (.region [⟨(some 3), .mv (.t 0), none⟩,
⟨(some 4), .len (.t 3), none⟩,
⟨(some 5), .call (.c (.func (.func 51) #[] #[])) [(.t 4), (.c (.int .i64 1)), (.c (.int .i64 400))], none⟩,
⟨(some 2), .mv (.t 5), none⟩])
.ret))⟩

/- riposte/wire.isFrame -/
def ir61 : IFunc := ⟨[.tmp 2],
(.seq (.region [⟨(some 2), .mv (.c (.bool false)), none⟩])
(.seq (.region [⟨(some 3), .mv (.t 0), none⟩,
⟨(some 4), .len (.t 3), none⟩,
⟨(some 5), .call (.c (.func (.func 68) #[] #[])) [(.t 4), (.c (.int .i64 1)), (.c (.int .i64 400))], none⟩,
⟨(some 2), .mv (.t 5), none⟩])
.ret))⟩

/- riposte/wire.isCount -/
def ir60 : IFunc := ⟨[.tmp 2],
(.seq (.region [⟨(some 2), .mv (.c (.bool false)), none⟩])
(.seq (.region [⟨(some 3), .mv (.t 0), none⟩,
⟨(some 4), .call (.c (.func (.func 68) #[] #[])) [(.t 3), (.c (.int .i64 0)), (.c (.int .i64 60000))], none⟩,
⟨(some 2), .mv (.t 4), none⟩])
.ret))⟩

/- riposte/wire.two -/
def ir62 : IFunc := ⟨[.tmp 4],
(.seq (.region [⟨(some 4), .mv (.c (.slice none 0 0)), none⟩])
(.seq (.seq (.region [⟨(some 7), .mv (.t 1), none⟩,
⟨(some 8), .len (.t 7), none⟩,
⟨(some 9), .mv (.c (.int .i64 0)), none⟩])
(.block 0
(.loop
(.seq (.region [⟨(some 10), .bin .num .lss (.t 9) (.t 8), none⟩])
(.seq (.cond (.t 10)
.skip
(.exit 0))
(.seq (.block 1
(.seq (.region [⟨(some 11), .idxS 1 (.t 7) (.t 9), none⟩,
⟨(some 12), .load1 (.t 11), none⟩,
⟨(some 6), .mv (.t 12), none⟩])
(.region [⟨(some 13), .mv (.t 0), none⟩,
⟨(some 14), .mv (.t 6), none⟩,
⟨(some 15), .bin .num .quo (.t 14) (.c (.int .i64 256)), none⟩,
⟨(some 16), .conv .u8 (.t 15), none⟩,
⟨(some 17), .mv (.t 6), none⟩,
⟨(some 18), .conv .u8 (.t 17), none⟩,
⟨(some 19), .buildSlice 2 [(.int .u8 0), (.int .u8 0)] [(0, 1, (.t 16)), (1, 1, (.t 18))], none⟩,
⟨(some 20), .append 1 1 (.t 13) (.t 19), none⟩,
⟨(some 0), .mv (.t 20), none⟩])))
(.region [⟨(some 21), .bin .num .add (.t 9) (.c (.int .i64 1)), none⟩,
⟨(some 9), .mv (.t 21), none⟩])))))))
(.seq (.region [⟨(some 22), .mv (.t 0), none⟩,
⟨(some 4), .mv (.t 22), none⟩])
.ret)))⟩


/-- What 'slices.Insert' of one element of two cells does ahead of the end. -/
def insA (args : List Value) (M : Nat → Option AObj) : Option (Value × Option (Nat × List AVer)) := match args with
  | [.slice (some a) n c, .int .i64 i, .slice (some va) m vc] => match M a.block, M va.block with
    | some (.cells vs), some (.cells us) => match vs[ver a]?, us[ver va]? with
      | some v, some u =>
        if m = 1 ∧ (v.esz = 0 ∨ v.esz = 2) ∧ 0 ≤ i ∧ i.toNat < n ∧ n ≤ c ∧ n ≤ 1000000 ∧ va.block ≠ a.block ∧ a.off + c * 2 ≤ v.cells.length ∧ va.off + 2 ≤ u.cells.length ∧ v.cells.all scalar = true ∧ u.cells.all scalar = true then
          some (.slice (some (mkAddr a.block vs.length 0)) (n + 1) (n + 1), some (a.block, setVer vs (ver a) (v.cells.take (a.off + i.toNat * 2)) ++
            [⟨2, (v.cells.drop a.off).take (i.toNat * 2) ++ ((u.cells.drop va.off).take 2 ++ ((v.cells.drop (a.off + i.toNat * 2)).take ((n - i.toNat) * 2)))⟩]))
        else none
      | _, _ => none
    | _, _ => none
  | _ => none

/-- 'awake' is known, and 'slices.Insert' ahead of the end. -/
def knownW (k : FuncId) (args : List Value) (M : Nat → Option AObj) : Option (Value × Option (Nat × List AVer)) :=
  bif Nat.beq k 111 then insA args M else match args with
  | [] => if k = 7 then some (.bool true, none) else none
  | _ => none

/-- The context of the proofs about functions with parameters. -/
noncomputable def ctxW (w : World) : Ctx := { funcs := funcsFrom Tryz.prog (List.range 150) .leaf, w0 := w, known := knownW, eqb := fun a b => @decide (a = b) (Classical.propDecidable _) }

theorem get57 (w : World) : (ctxW w).funcs.get 57 = some ir57 := by kernel_rfl
theorem get97 (w : World) : (ctxW w).funcs.get 97 = some ir97 := by kernel_rfl
theorem get58 (w : World) : (ctxW w).funcs.get 58 = some ir58 := by kernel_rfl
theorem get63 (w : World) : (ctxW w).funcs.get 63 = some ir63 := by kernel_rfl
theorem get87 (w : World) : (ctxW w).funcs.get 87 = some ir87 := by kernel_rfl
theorem get38 (w : World) : (ctxW w).funcs.get 38 = some ir38 := by kernel_rfl
theorem get39 (w : World) : (ctxW w).funcs.get 39 = some ir39 := by kernel_rfl
theorem get85 (w : World) : (ctxW w).funcs.get 85 = some ir85 := by kernel_rfl
theorem get86 (w : World) : (ctxW w).funcs.get 86 = some ir86 := by kernel_rfl
theorem get68 (w : World) : (ctxW w).funcs.get 68 = some ir68 := by kernel_rfl
theorem get107 (w : World) : (ctxW w).funcs.get 107 = some ir107 := by kernel_rfl
theorem get73 (w : World) : (ctxW w).funcs.get 73 = some ir73 := by kernel_rfl
theorem get108 (w : World) : (ctxW w).funcs.get 108 = some ir108 := by kernel_rfl
theorem get51 (w : World) : (ctxW w).funcs.get 51 = some ir51 := by kernel_rfl
theorem get55 (w : World) : (ctxW w).funcs.get 55 = some ir55 := by kernel_rfl
theorem get61 (w : World) : (ctxW w).funcs.get 61 = some ir61 := by kernel_rfl
theorem get60 (w : World) : (ctxW w).funcs.get 60 = some ir60 := by kernel_rfl
theorem get62 (w : World) : (ctxW w).funcs.get 62 = some ir62 := by kernel_rfl
end Go.Ai.Wire
