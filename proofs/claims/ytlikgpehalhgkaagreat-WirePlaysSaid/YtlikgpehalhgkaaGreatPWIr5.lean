/-
  More functions of the program in the evaluator's own form (printed by program), and that they are the program's.
-/
import Derived.Test.YtlikgpehalhgkaaGreatPWIr
namespace Go.Ai.Wire
open Go.Proofs

/- riposte/wire.New -/
/- riposte/wire.Do -/
/- (*riposte/wire.line).do -/
def ir24 : IFunc := ⟨[.tmp 4],
(.seq (.region [⟨(some 3), .box 6 (.t 1), none⟩,
⟨(some 4), .mv (.c (.int .i64 0)), none⟩])
(.seq (.region [⟨(some 6), .loadN 6 (.t 3), none⟩,
⟨(some 7), .mv (.t 0), none⟩,
⟨(some 8), .build [(.int .u8 0), (.int .i64 0), (.int .i64 0), (.int .i64 0), (.int .i64 0), (.slice none 0 0), (.pointer none)] [(0, 6, (.t 6)), (6, 1, (.t 7))], none⟩,
⟨(some 5), .mk [(.int .u8 0), (.int .i64 0), (.int .i64 0), (.int .i64 0), (.int .i64 0), (.slice none 0 0), (.pointer none)], none⟩,
⟨none, .store 7 (.t 5) (.t 8), none⟩])
(.seq (.seq (.region [⟨(some 9), .loadN 7 (.t 5), none⟩,
⟨(some 10), .call (.c (.func (.func 47) #[] #[])) [(.t 9)], none⟩,
⟨(some 11), .not (.t 10), none⟩])
(.cond (.t 11)
(.seq (.region [⟨(some 4), .mv (.c (.int .i64 2)), none⟩])
.ret)
.skip))
(.seq (.dregion [(0, ⟨(some 12), .call (.c (.func (.func 48) #[] #[])) [], none⟩, []),
(1, ⟨(some 13), .faddr 0 (.t 3), none⟩, []),
(2, ⟨(some 14), .load1 (.t 13), none⟩, [1]),
(3, ⟨(some 15), .lookup .nilFunc false (.t 12) (.t 14), none⟩, []),
(4, ⟨(some 16), .loadN 7 (.t 5), none⟩, [0, 1, 3]),
(5, ⟨(some 17), .call (.t 15) [(.t 16)], none⟩, []),
(6, ⟨(some 4), .mv (.t 17), none⟩, [])])
.ret))))⟩

/- (*riposte/wire.line).plain -/
def ir25 : IFunc := ⟨[.cellN 2 9],
(.seq (.region [⟨(some 2), .mk [(.int .i64 0), (.slice none 0 0), (.int .i64 0), (.slice none 0 0), (.int .i64 0), (.slice none 0 0), (.int .i64 0), (.slice none 0 0), (.slice none 0 0)], none⟩])
(.seq (.dregion [(0, ⟨(some 3), .mv (.t 0), none⟩, []),
(1, ⟨(some 4), .nilCheck (.t 3), none⟩, []),
(2, ⟨(some 5), .faddr 0 (.t 4), none⟩, []),
(3, ⟨(some 6), .idxA 2 1 (.t 5) (.c (.int .i64 0)), none⟩, []),
(4, ⟨(some 7), .load1 (.t 6), none⟩, []),
(5, ⟨(some 8), .nilCheck (.t 7), none⟩, []),
(6, ⟨(some 9), .faddr 0 (.t 8), none⟩, []),
(7, ⟨(some 10), .loadN 4 (.t 9), none⟩, []),
(8, ⟨(some 11), .call (.c (.func (.func 44) #[] #[])) [(.t 10)], none⟩, []),
(12, ⟨(some 15), .mv (.t 0), none⟩, []),
(13, ⟨(some 16), .nilCheck (.t 15), none⟩, []),
(14, ⟨(some 17), .faddr 0 (.t 16), none⟩, []),
(15, ⟨(some 18), .idxA 2 1 (.t 17) (.c (.int .i64 1)), none⟩, []),
(16, ⟨(some 19), .load1 (.t 18), none⟩, [4, 5, 8]),
(17, ⟨(some 20), .nilCheck (.t 19), none⟩, []),
(18, ⟨(some 21), .faddr 0 (.t 20), none⟩, []),
(19, ⟨(some 22), .loadN 4 (.t 21), none⟩, [7, 8, 11]),
(20, ⟨(some 23), .call (.c (.func (.func 44) #[] #[])) [(.t 22)], none⟩, []),
(25, ⟨(some 28), .mv (.t 0), none⟩, []),
(26, ⟨(some 29), .nilCheck (.t 28), none⟩, []),
(27, ⟨(some 30), .faddr 2 (.t 29), none⟩, []),
(28, ⟨(some 31), .load1 (.t 30), none⟩, [3, 4, 7, 12, 13, 16]),
(29, ⟨(some 32), .call (.c (.func (.func 45) #[] #[])) [(.t 31), (.c (.func (.func 46) #[] #[]))], none⟩, []),
(9, ⟨(some 12), .nilCheck (.t 11), none⟩, []),
(10, ⟨(some 13), .faddr 0 (.t 12), none⟩, []),
(11, ⟨(some 14), .loadN 4 (.t 13), none⟩, [2, 3, 7, 8, 11]),
(21, ⟨(some 24), .nilCheck (.t 23), none⟩, []),
(22, ⟨(some 25), .faddr 0 (.t 24), none⟩, []),
(23, ⟨(some 26), .loadN 4 (.t 25), none⟩, [2, 5, 6]),
(24, ⟨(some 27), .build [(.int .i64 0), (.slice none 0 0), (.int .i64 0), (.slice none 0 0), (.int .i64 0), (.slice none 0 0), (.int .i64 0), (.slice none 0 0)] [(0, 4, (.t 14)), (4, 4, (.t 26))], none⟩, []),
(30, ⟨(some 33), .build [(.int .i64 0), (.slice none 0 0), (.int .i64 0), (.slice none 0 0), (.int .i64 0), (.slice none 0 0), (.int .i64 0), (.slice none 0 0), (.slice none 0 0)] [(0, 8, (.t 27)), (8, 1, (.t 32))], none⟩, []),
(31, ⟨none, .store 9 (.t 2) (.t 33), none⟩, [])])
.ret))⟩

/- slices.Concat[[][]byte,[]byte] -/
/- (*riposte/wire.line).calm -/
/- (riposte/wire.deed).isFine -/
def ir47 : IFunc := ⟨[.tmp 2],
(.seq (.region [⟨(some 1), .box 7 (.t 0), none⟩,
⟨(some 2), .mv (.c (.bool false)), none⟩])
(.seq (.dregion [(0, ⟨(some 6), .call (.c (.func (.func 74) #[] #[])) [], none⟩, []),
(1, ⟨(some 7), .faddr 0 (.t 1), none⟩, []),
(2, ⟨(some 8), .faddr 0 (.t 7), none⟩, []),
(3, ⟨(some 9), .load1 (.t 8), none⟩, [2]),
(4, ⟨(some 10), .lookup (.agg #[(.bool false), (.bool false), (.bool false), (.bool false)]) true (.t 6) (.t 9), none⟩, []),
(5, ⟨(some 5), .mv (.t 10), none⟩, []),
(6, ⟨(some 11), .extract 0 (.t 5), none⟩, []),
(7, ⟨(some 12), .extract 1 (.t 5), none⟩, []),
(8, ⟨(some 3), .mk [(.bool false), (.bool false), (.bool false), (.bool false)], none⟩, [3, 4, 7]),
(9, ⟨none, .store 4 (.t 3) (.t 11), none⟩, []),
(10, ⟨(some 4), .mv (.t 12), none⟩, [])])
(.seq (.seq (.region [⟨(some 13), .mv (.t 4), none⟩,
⟨(some 14), .not (.t 13), none⟩,
⟨(some 15), .mv (.t 14), none⟩,
⟨(some 16), .faddr 3 (.t 3), (some (15, false))⟩,
⟨(some 17), .load1 (.t 16), (some (15, false))⟩,
⟨(some 18), .faddr 0 (.t 1), (some (15, false))⟩,
⟨(some 19), .faddr 5 (.t 18), (some (15, false))⟩,
⟨(some 20), .load1 (.t 19), (some (15, false))⟩,
⟨(some 21), .len (.t 20), (some (15, false))⟩,
⟨(some 22), .bin .num .gtr (.t 21) (.c (.int .i64 0)), (some (15, false))⟩,
⟨(some 23), .bin .boo .neq (.t 17) (.t 22), (some (15, false))⟩,
⟨(some 24), .pick (.t 15) (.c (.bool true)) (.t 23), none⟩,
⟨(some 25), .mv (.t 24), none⟩,
⟨(some 26), .faddr 3 (.t 3), (some (25, false))⟩,
⟨(some 27), .load1 (.t 26), (some (25, false))⟩,
⟨(some 28), .mv (.t 27), (some (25, false))⟩,
⟨(some 29), .faddr 0 (.t 1), (some (28, true))⟩,
⟨(some 30), .faddr 5 (.t 29), (some (28, true))⟩,
⟨(some 31), .load1 (.t 30), (some (28, true))⟩,
⟨(some 32), .call (.c (.func (.func 61) #[] #[])) [(.t 31)], (some (28, true))⟩,
⟨(some 33), .not (.t 32), (some (28, true))⟩,
⟨(some 34), .pick (.t 28) (.t 33) (.c (.bool false)), (some (25, false))⟩,
⟨(some 35), .pick (.t 25) (.c (.bool true)) (.t 34), none⟩,
⟨(some 36), .mv (.t 35), none⟩,
⟨(some 37), .faddr 0 (.t 3), (some (36, false))⟩,
⟨(some 38), .load1 (.t 37), (some (36, false))⟩,
⟨(some 39), .not (.t 38), (some (36, false))⟩,
⟨(some 40), .mv (.t 39), (some (36, false))⟩,
⟨(some 41), .faddr 0 (.t 1), (some (40, true))⟩,
⟨(some 42), .faddr 1 (.t 41), (some (40, true))⟩,
⟨(some 43), .load1 (.t 42), (some (40, true))⟩,
⟨(some 44), .bin .num .neq (.t 43) (.c (.int .i64 0)), (some (40, true))⟩,
⟨(some 45), .pick (.t 40) (.t 44) (.c (.bool false)), (some (36, false))⟩,
⟨(some 46), .pick (.t 36) (.c (.bool true)) (.t 45), none⟩,
⟨(some 47), .mv (.t 46), none⟩,
⟨(some 48), .faddr 0 (.t 1), (some (47, false))⟩,
⟨(some 49), .faddr 1 (.t 48), (some (47, false))⟩,
⟨(some 50), .load1 (.t 49), (some (47, false))⟩,
⟨(some 51), .call (.c (.func (.func 68) #[] #[])) [(.t 50), (.c (.int .i64 0)), (.c (.int .i64 1))], (some (47, false))⟩,
⟨(some 52), .not (.t 51), (some (47, false))⟩,
⟨(some 53), .pick (.t 47) (.c (.bool true)) (.t 52), none⟩])
(.cond (.t 53)
(.seq (.region [⟨(some 2), .mv (.c (.bool false)), none⟩])
.ret)
.skip))
(.seq (.seq (.region [⟨(some 54), .faddr 1 (.t 3), none⟩,
⟨(some 55), .load1 (.t 54), none⟩,
⟨(some 56), .not (.t 55), none⟩])
(.cond (.t 56)
(.seq (.region [⟨(some 57), .faddr 0 (.t 1), none⟩,
⟨(some 58), .faddr 2 (.t 57), none⟩,
⟨(some 59), .load1 (.t 58), none⟩,
⟨(some 60), .faddr 0 (.t 1), none⟩,
⟨(some 61), .faddr 3 (.t 60), none⟩,
⟨(some 62), .load1 (.t 61), none⟩,
⟨(some 63), .faddr 0 (.t 1), none⟩,
⟨(some 64), .faddr 4 (.t 63), none⟩,
⟨(some 65), .load1 (.t 64), none⟩,
⟨(some 66), .buildSlice 3 [(.int .i64 0), (.int .i64 0), (.int .i64 0)] [(0, 1, (.t 59)), (1, 1, (.t 62)), (2, 1, (.t 65))], none⟩,
⟨(some 67), .call (.c (.func (.func 75) #[] #[])) [(.t 66)], none⟩,
⟨(some 2), .mv (.t 67), none⟩])
.ret)
.skip))
(.seq (.seq (.dregion [(0, ⟨(some 68), .faddr 0 (.t 1), none⟩, []),
(1, ⟨(some 69), .faddr 2 (.t 68), none⟩, []),
(2, ⟨(some 70), .load1 (.t 69), none⟩, []),
(3, ⟨(some 71), .faddr 6 (.t 1), none⟩, []),
(4, ⟨(some 72), .load1 (.t 71), none⟩, [1]),
(5, ⟨(some 73), .nilCheck (.t 72), none⟩, []),
(6, ⟨(some 74), .faddr 2 (.t 73), none⟩, []),
(7, ⟨(some 75), .load1 (.t 74), none⟩, [4]),
(8, ⟨(some 76), .len (.t 75), none⟩, []),
(9, ⟨(some 77), .bin .num .sub (.t 76) (.c (.int .i64 1)), none⟩, []),
(10, ⟨(some 78), .call (.c (.func (.func 68) #[] #[])) [(.t 70), (.c (.int .i64 0)), (.t 77)], none⟩, []),
(11, ⟨(some 79), .not (.t 78), none⟩, [])])
(.cond (.t 79)
(.seq (.region [⟨(some 2), .mv (.c (.bool false)), none⟩])
.ret)
.skip))
(.seq (.seq (.region [⟨(some 80), .faddr 2 (.t 3), none⟩,
⟨(some 81), .load1 (.t 80), none⟩,
⟨(some 82), .not (.t 81), none⟩])
(.cond (.t 82)
(.seq (.region [⟨(some 83), .faddr 0 (.t 1), none⟩,
⟨(some 84), .faddr 3 (.t 83), none⟩,
⟨(some 85), .load1 (.t 84), none⟩,
⟨(some 86), .faddr 0 (.t 1), none⟩,
⟨(some 87), .faddr 4 (.t 86), none⟩,
⟨(some 88), .load1 (.t 87), none⟩,
⟨(some 89), .buildSlice 2 [(.int .i64 0), (.int .i64 0)] [(0, 1, (.t 85)), (1, 1, (.t 88))], none⟩,
⟨(some 90), .call (.c (.func (.func 75) #[] #[])) [(.t 89)], none⟩,
⟨(some 2), .mv (.t 90), none⟩])
.ret)
.skip))
(.seq (.dregion [(0, ⟨(some 91), .faddr 0 (.t 1), none⟩, []),
(1, ⟨(some 92), .faddr 3 (.t 91), none⟩, []),
(2, ⟨(some 93), .load1 (.t 92), none⟩, []),
(3, ⟨(some 94), .faddr 6 (.t 1), none⟩, []),
(4, ⟨(some 95), .load1 (.t 94), none⟩, [1]),
(5, ⟨(some 96), .nilCheck (.t 95), none⟩, []),
(6, ⟨(some 97), .faddr 2 (.t 96), none⟩, []),
(7, ⟨(some 98), .load1 (.t 97), none⟩, [4]),
(8, ⟨(some 99), .faddr 0 (.t 1), none⟩, []),
(9, ⟨(some 100), .faddr 2 (.t 99), none⟩, []),
(10, ⟨(some 101), .load1 (.t 100), none⟩, [2, 5, 7]),
(11, ⟨(some 102), .idxS 2 (.t 98) (.t 101), none⟩, []),
(12, ⟨(some 103), .faddr 1 (.t 102), none⟩, []),
(13, ⟨(some 104), .load1 (.t 103), none⟩, [10]),
(14, ⟨(some 105), .len (.t 104), none⟩, []),
(15, ⟨(some 106), .bin .num .sub (.t 105) (.c (.int .i64 1)), none⟩, []),
(16, ⟨(some 107), .call (.c (.func (.func 68) #[] #[])) [(.t 93), (.c (.int .i64 0)), (.t 106)], none⟩, []),
(17, ⟨(some 108), .mv (.t 107), none⟩, []),
(18, ⟨(some 109), .faddr 0 (.t 1), (some (108, true))⟩, []),
(19, ⟨(some 110), .faddr 4 (.t 109), (some (108, true))⟩, []),
(20, ⟨(some 111), .load1 (.t 110), (some (108, true))⟩, []),
(21, ⟨(some 112), .call (.c (.func (.func 68) #[] #[])) [(.t 111), (.c (.int .i64 1)), (.c (.int .i64 255))], (some (108, true))⟩, []),
(22, ⟨(some 113), .pick (.t 108) (.t 112) (.c (.bool false)), none⟩, []),
(23, ⟨(some 2), .mv (.t 113), none⟩, [])])
.ret)))))))⟩

/- riposte/wire.does -/
def ir48 : IFunc := ⟨[.tmp 0],
(.seq (.region [⟨(some 0), .mv (.c (.map none)), none⟩])
(.seq (.region [⟨(some 1), .mkmap, none⟩,
⟨none, .insert (.t 1) (.c (.int .u8 1)) (.c (.func (.func 76) #[] #[])), none⟩,
⟨none, .insert (.t 1) (.c (.int .u8 2)) (.c (.func (.func 77) #[] #[])), none⟩,
⟨none, .insert (.t 1) (.c (.int .u8 3)) (.c (.func (.func 78) #[] #[])), none⟩,
⟨none, .insert (.t 1) (.c (.int .u8 4)) (.c (.func (.func 79) #[] #[])), none⟩,
⟨none, .insert (.t 1) (.c (.int .u8 5)) (.c (.func (.func 80) #[] #[])), none⟩,
⟨none, .insert (.t 1) (.c (.int .u8 6)) (.c (.func (.func 81) #[] #[])), none⟩,
⟨(some 2), .mv (.t 1), none⟩,
⟨(some 0), .mv (.t 2), none⟩])
.ret))⟩

/- slices.Grow[[][]byte,[]byte] -/
/- (*riposte/wire.line).come -/
def ir53 : IFunc := ⟨[],
(.seq (.region [⟨(some 7), .mv (.t 0), none⟩,
⟨(some 8), .mv (.t 1), none⟩,
⟨(some 9), .call (.c (.func (.func 82) #[] #[])) [(.t 7), (.t 8)], none⟩,
⟨(some 4), .mk [(.int .i64 0), (.slice none 0 0)], none⟩,
⟨none, .store 2 (.t 4) (.t 9), none⟩])
(.seq (.dregion [(0, ⟨(some 11), .mv (.t 0), none⟩, []),
(1, ⟨(some 12), .faddr 0 (.t 4), none⟩, []),
(2, ⟨(some 13), .load1 (.t 12), none⟩, []),
(3, ⟨(some 14), .nilCheck (.t 11), none⟩, []),
(4, ⟨(some 15), .faddr 0 (.t 14), none⟩, []),
(5, ⟨(some 16), .idxA 2 1 (.t 15) (.t 13), none⟩, []),
(6, ⟨(some 17), .load1 (.t 16), none⟩, []),
(7, ⟨(some 18), .faddr 1 (.t 4), none⟩, []),
(8, ⟨(some 19), .load1 (.t 18), none⟩, [1, 5]),
(9, ⟨(some 20), .call (.c (.func (.func 83) #[] #[])) [(.t 17), (.t 19)], none⟩, []),
(10, ⟨(some 10), .mv (.t 20), none⟩, []),
(11, ⟨(some 21), .extract 0 (.t 10), none⟩, []),
(12, ⟨(some 22), .extract 1 (.t 10), none⟩, []),
(13, ⟨(some 5), .mv (.t 21), none⟩, []),
(14, ⟨(some 6), .mv (.t 22), none⟩, [])])
(.seq (.dregion [(0, ⟨(some 23), .mv (.t 0), none⟩, []),
(1, ⟨(some 24), .faddr 0 (.t 4), none⟩, []),
(2, ⟨(some 25), .load1 (.t 24), none⟩, []),
(3, ⟨(some 26), .mv (.t 0), none⟩, []),
(4, ⟨(some 27), .faddr 0 (.t 4), none⟩, []),
(5, ⟨(some 28), .load1 (.t 27), none⟩, [2]),
(6, ⟨(some 29), .nilCheck (.t 26), none⟩, []),
(7, ⟨(some 30), .faddr 3 (.t 29), none⟩, []),
(8, ⟨(some 31), .idxA 2 1 (.t 30) (.t 28), none⟩, []),
(9, ⟨(some 32), .load1 (.t 31), none⟩, [6]),
(10, ⟨(some 33), .mv (.t 5), none⟩, []),
(11, ⟨(some 34), .append 1 24 (.t 32) (.t 33), none⟩, [8]),
(12, ⟨(some 35), .nilCheck (.t 23), none⟩, []),
(13, ⟨(some 36), .faddr 3 (.t 35), none⟩, []),
(14, ⟨(some 37), .idxA 2 1 (.t 36) (.t 25), none⟩, []),
(15, ⟨none, .store 1 (.t 37) (.t 34), none⟩, [])])
(.seq (.region [⟨(some 38), .mv (.t 6), none⟩,
⟨(some 39), .len (.t 38), none⟩,
⟨(some 40), .bin .num .gtr (.t 39) (.c (.int .i64 0)), none⟩])
(.cond (.t 40)
(.region [⟨(some 41), .mv (.t 0), none⟩,
⟨(some 42), .faddr 0 (.t 4), none⟩,
⟨(some 43), .load1 (.t 42), none⟩,
⟨(some 44), .bin .num .sub (.c (.int .i64 1)) (.t 43), none⟩,
⟨(some 45), .mv (.t 6), none⟩,
⟨(some 46), .buildSlice 1 [(.slice none 0 0)] [(0, 1, (.t 45))], none⟩,
⟨(some 47), .call (.c (.func (.func 84) #[] #[])) [(.t 41), (.t 44), (.t 46)], none⟩])
.skip)))))⟩

/- riposte/wire.fields -/
def ir74 : IFunc := ⟨[.tmp 0],
(.seq (.region [⟨(some 0), .mv (.c (.map none)), none⟩])
(.seq (.region [⟨(some 1), .mkmap, none⟩,
⟨(some 2), .build [(.bool false), (.bool false), (.bool false), (.bool false)] [(0, 1, (.c (.bool true))), (3, 1, (.c (.bool true)))], none⟩,
⟨none, .insert (.t 1) (.c (.int .u8 1)) (.t 2), none⟩,
⟨(some 3), .build [(.bool false), (.bool false), (.bool false), (.bool false)] [(0, 1, (.c (.bool true)))], none⟩,
⟨none, .insert (.t 1) (.c (.int .u8 2)) (.t 3), none⟩,
⟨(some 4), .build [(.bool false), (.bool false), (.bool false), (.bool false)] [(1, 1, (.c (.bool true)))], none⟩,
⟨none, .insert (.t 1) (.c (.int .u8 3)) (.t 4), none⟩,
⟨(some 5), .build [(.bool false), (.bool false), (.bool false), (.bool false)] [(1, 1, (.c (.bool true)))], none⟩,
⟨none, .insert (.t 1) (.c (.int .u8 4)) (.t 5), none⟩,
⟨(some 6), .build [(.bool false), (.bool false), (.bool false), (.bool false)] [(1, 1, (.c (.bool true)))], none⟩,
⟨none, .insert (.t 1) (.c (.int .u8 5)) (.t 6), none⟩,
⟨(some 7), .build [(.bool false), (.bool false), (.bool false), (.bool false)] [(1, 1, (.c (.bool true))), (2, 1, (.c (.bool true)))], none⟩,
⟨none, .insert (.t 1) (.c (.int .u8 6)) (.t 7), none⟩,
⟨(some 8), .mv (.t 1), none⟩,
⟨(some 0), .mv (.t 8), none⟩])
.ret))⟩

/- riposte/wire.isZero -/
def ir75 : IFunc := ⟨[.tmp 2],
(.seq (.region [⟨(some 2), .mv (.c (.bool false)), none⟩])
(.seq (.region [⟨(some 3), .mv (.t 0), none⟩,
⟨(some 4), .call (.c (.func (.func 92) #[] #[])) [(.t 3), (.c (.func (.func 93) #[] #[]))], none⟩,
⟨(some 2), .mv (.t 4), none⟩])
.ret))⟩

/- (riposte/wire.deed).say -/
def ir76 : IFunc := ⟨[.tmp 2],
(.seq (.region [⟨(some 1), .box 7 (.t 0), none⟩,
⟨(some 2), .mv (.c (.int .i64 0)), none⟩])
(.seq (.dregion [(0, ⟨(some 6), .faddr 6 (.t 1), none⟩, []),
(1, ⟨(some 7), .load1 (.t 6), none⟩, []),
(2, ⟨(some 8), .faddr 0 (.t 1), none⟩, []),
(3, ⟨(some 9), .faddr 1 (.t 8), none⟩, []),
(4, ⟨(some 10), .load1 (.t 9), none⟩, [2]),
(5, ⟨(some 11), .nilCheck (.t 7), none⟩, []),
(6, ⟨(some 12), .faddr 0 (.t 11), none⟩, []),
(7, ⟨(some 13), .idxA 2 1 (.t 12) (.t 10), none⟩, []),
(8, ⟨(some 14), .load1 (.t 13), none⟩, []),
(9, ⟨(some 15), .faddr 0 (.t 1), none⟩, []),
(10, ⟨(some 16), .faddr 5 (.t 15), none⟩, []),
(11, ⟨(some 17), .load1 (.t 16), none⟩, [2, 6, 9]),
(12, ⟨(some 18), .call (.c (.func (.func 94) #[] #[])) [(.t 14), (.t 17)], none⟩, []),
(13, ⟨(some 5), .mv (.t 18), none⟩, []),
(14, ⟨(some 19), .extract 0 (.t 5), none⟩, []),
(15, ⟨(some 20), .extract 1 (.t 5), none⟩, []),
(16, ⟨(some 3), .mv (.t 19), none⟩, []),
(17, ⟨(some 4), .mv (.t 20), none⟩, [])])
(.seq (.seq (.region [⟨(some 21), .mv (.t 4), none⟩,
⟨(some 22), .bin .num .eql (.t 21) (.c (.int .i64 0)), none⟩])
(.cond (.t 22)
(.region [⟨(some 23), .faddr 6 (.t 1), none⟩,
⟨(some 24), .load1 (.t 23), none⟩,
⟨(some 25), .faddr 0 (.t 1), none⟩,
⟨(some 26), .faddr 1 (.t 25), none⟩,
⟨(some 27), .load1 (.t 26), none⟩,
⟨(some 28), .bin .num .sub (.c (.int .i64 1)) (.t 27), none⟩,
⟨(some 29), .mv (.t 3), none⟩,
⟨(some 30), .buildSlice 1 [(.slice none 0 0)] [(0, 1, (.t 29))], none⟩,
⟨(some 31), .call (.c (.func (.func 84) #[] #[])) [(.t 24), (.t 28), (.t 30)], none⟩])
.skip))
(.seq (.region [⟨(some 32), .mv (.t 4), none⟩,
⟨(some 2), .mv (.t 32), none⟩])
.ret))))⟩

/- (riposte/wire.deed).again -/
def ir77 : IFunc := ⟨[.tmp 2],
(.seq (.region [⟨(some 1), .box 7 (.t 0), none⟩,
⟨(some 2), .mv (.c (.int .i64 0)), none⟩])
(.seq (.seq (.dregion [(0, ⟨(some 4), .faddr 6 (.t 1), none⟩, []),
(1, ⟨(some 5), .load1 (.t 4), none⟩, []),
(2, ⟨(some 6), .faddr 0 (.t 1), none⟩, []),
(3, ⟨(some 7), .faddr 1 (.t 6), none⟩, []),
(4, ⟨(some 8), .load1 (.t 7), none⟩, [2]),
(5, ⟨(some 9), .nilCheck (.t 5), none⟩, []),
(6, ⟨(some 10), .faddr 0 (.t 9), none⟩, []),
(7, ⟨(some 11), .idxA 2 1 (.t 10) (.t 8), none⟩, []),
(8, ⟨(some 12), .load1 (.t 11), none⟩, []),
(9, ⟨(some 13), .call (.c (.func (.func 95) #[] #[])) [(.t 12)], none⟩, [])])
(.block 0
(.rangeFunc (.t 13) [14]
(.region [⟨(some 3), .mv (.t 14), none⟩])
(.block 1
(.region [⟨(some 15), .faddr 6 (.t 1), none⟩,
⟨(some 16), .load1 (.t 15), none⟩,
⟨(some 17), .faddr 0 (.t 1), none⟩,
⟨(some 18), .faddr 1 (.t 17), none⟩,
⟨(some 19), .load1 (.t 18), none⟩,
⟨(some 20), .bin .num .sub (.c (.int .i64 1)) (.t 19), none⟩,
⟨(some 21), .mv (.t 3), none⟩,
⟨(some 22), .buildSlice 1 [(.slice none 0 0)] [(0, 1, (.t 21))], none⟩,
⟨(some 23), .call (.c (.func (.func 84) #[] #[])) [(.t 16), (.t 20), (.t 22)], none⟩])))))
(.seq (.region [⟨(some 2), .mv (.c (.int .i64 0)), none⟩])
.ret)))⟩

/- (riposte/wire.deed).arrive -/
def ir78 : IFunc := ⟨[.tmp 2],
(.seq (.region [⟨(some 1), .box 7 (.t 0), none⟩,
⟨(some 2), .mv (.c (.int .i64 0)), none⟩])
(.seq (.region [⟨(some 3), .faddr 6 (.t 1), none⟩,
⟨(some 4), .load1 (.t 3), none⟩,
⟨(some 5), .faddr 0 (.t 1), none⟩,
⟨(some 6), .faddr 2 (.t 5), none⟩,
⟨(some 7), .load1 (.t 6), none⟩,
⟨(some 8), .call (.c (.func (.func 53) #[] #[])) [(.t 4), (.t 7)], none⟩])
(.seq (.region [⟨(some 2), .mv (.c (.int .i64 0)), none⟩])
.ret)))⟩

/- (riposte/wire.deed).lose -/
def ir79 : IFunc := ⟨[.tmp 2],
(.seq (.region [⟨(some 1), .box 7 (.t 0), none⟩,
⟨(some 2), .mv (.c (.int .i64 0)), none⟩])
(.seq (.region [⟨(some 3), .faddr 6 (.t 1), none⟩,
⟨(some 4), .load1 (.t 3), none⟩,
⟨(some 5), .faddr 0 (.t 1), none⟩,
⟨(some 6), .faddr 2 (.t 5), none⟩,
⟨(some 7), .load1 (.t 6), none⟩,
⟨(some 8), .call (.c (.func (.func 82) #[] #[])) [(.t 4), (.t 7)], none⟩])
(.seq (.region [⟨(some 2), .mv (.c (.int .i64 0)), none⟩])
.ret)))⟩

/- (riposte/wire.deed).twice -/
def ir80 : IFunc := ⟨[.tmp 2],
(.seq (.region [⟨(some 1), .box 7 (.t 0), none⟩,
⟨(some 2), .mv (.c (.int .i64 0)), none⟩])
(.seq (.dregion [(0, ⟨(some 3), .faddr 6 (.t 1), none⟩, []),
(1, ⟨(some 4), .load1 (.t 3), none⟩, []),
(2, ⟨(some 5), .faddr 6 (.t 1), none⟩, []),
(3, ⟨(some 6), .load1 (.t 5), none⟩, [1]),
(4, ⟨(some 7), .nilCheck (.t 6), none⟩, []),
(5, ⟨(some 8), .faddr 2 (.t 7), none⟩, []),
(6, ⟨(some 9), .load1 (.t 8), none⟩, [4]),
(7, ⟨(some 10), .faddr 0 (.t 1), none⟩, []),
(8, ⟨(some 11), .faddr 2 (.t 10), none⟩, []),
(9, ⟨(some 12), .load1 (.t 11), none⟩, [2, 5, 7]),
(10, ⟨(some 13), .idxS 2 (.t 9) (.t 12), none⟩, []),
(11, ⟨(some 14), .faddr 0 (.t 13), none⟩, []),
(12, ⟨(some 15), .load1 (.t 14), none⟩, [10]),
(13, ⟨(some 16), .faddr 6 (.t 1), none⟩, []),
(14, ⟨(some 17), .load1 (.t 16), none⟩, [1, 4, 7, 10, 12]),
(15, ⟨(some 18), .nilCheck (.t 17), none⟩, []),
(16, ⟨(some 19), .faddr 2 (.t 18), none⟩, []),
(17, ⟨(some 20), .load1 (.t 19), none⟩, [4, 7, 10, 13, 15]),
(18, ⟨(some 21), .faddr 0 (.t 1), none⟩, []),
(19, ⟨(some 22), .faddr 2 (.t 21), none⟩, []),
(20, ⟨(some 23), .load1 (.t 22), none⟩, [2, 5, 7, 10, 13, 16, 18]),
(21, ⟨(some 24), .idxS 2 (.t 20) (.t 23), none⟩, []),
(22, ⟨(some 25), .faddr 1 (.t 24), none⟩, []),
(23, ⟨(some 26), .load1 (.t 25), none⟩, [10, 13, 16, 19, 21]),
(24, ⟨(some 27), .buildSlice 1 [(.slice none 0 0)] [(0, 1, (.t 26))], none⟩, [11, 14, 17, 20, 22]),
(25, ⟨(some 28), .call (.c (.func (.func 84) #[] #[])) [(.t 4), (.t 15), (.t 27)], none⟩, [])])
(.seq (.region [⟨(some 2), .mv (.c (.int .i64 0)), none⟩])
.ret)))⟩

/- (riposte/wire.deed).spoil -/
def ir81 : IFunc := ⟨[.tmp 2],
(.seq (.region [⟨(some 1), .box 7 (.t 0), none⟩,
⟨(some 2), .mv (.c (.int .i64 0)), none⟩])
(.seq (.dregion [(0, ⟨(some 3), .faddr 6 (.t 1), none⟩, []),
(1, ⟨(some 4), .load1 (.t 3), none⟩, []),
(2, ⟨(some 5), .nilCheck (.t 4), none⟩, []),
(3, ⟨(some 6), .faddr 2 (.t 5), none⟩, []),
(4, ⟨(some 7), .load1 (.t 6), none⟩, []),
(5, ⟨(some 8), .faddr 0 (.t 1), none⟩, []),
(6, ⟨(some 9), .faddr 2 (.t 8), none⟩, []),
(7, ⟨(some 10), .load1 (.t 9), none⟩, [2, 5]),
(8, ⟨(some 11), .idxS 2 (.t 7) (.t 10), none⟩, []),
(9, ⟨(some 12), .faddr 1 (.t 11), none⟩, []),
(10, ⟨(some 13), .load1 (.t 12), none⟩, []),
(11, ⟨(some 14), .faddr 0 (.t 1), none⟩, []),
(12, ⟨(some 15), .faddr 3 (.t 14), none⟩, []),
(13, ⟨(some 16), .load1 (.t 15), none⟩, [2, 5, 8, 11]),
(14, ⟨(some 17), .idxS 1 (.t 13) (.t 16), none⟩, []),
(15, ⟨(some 18), .load1 (.t 17), none⟩, []),
(16, ⟨(some 19), .faddr 0 (.t 1), none⟩, []),
(17, ⟨(some 20), .faddr 4 (.t 19), none⟩, []),
(18, ⟨(some 21), .load1 (.t 20), none⟩, [2, 4, 7, 10, 13, 16]),
(19, ⟨(some 22), .conv .u8 (.t 21), none⟩, []),
(20, ⟨(some 23), .bin .num .xor (.t 18) (.t 22), none⟩, []),
(21, ⟨(some 24), .idxS 1 (.t 13) (.t 16), none⟩, []),
(22, ⟨none, .store 1 (.t 24) (.t 23), none⟩, [])])
(.seq (.region [⟨(some 2), .mv (.c (.int .i64 0)), none⟩])
.ret)))⟩

/- (*riposte/wire.line).away -/
def ir82 : IFunc := ⟨[.cellN 4 2],
(.seq (.region [⟨(some 4), .mk [(.int .i64 0), (.slice none 0 0)], none⟩])
(.seq (.region [⟨(some 6), .mv (.t 0), none⟩,
⟨(some 7), .nilCheck (.t 6), none⟩,
⟨(some 8), .faddr 2 (.t 7), none⟩,
⟨(some 9), .load1 (.t 8), none⟩,
⟨(some 10), .mv (.t 1), none⟩,
⟨(some 11), .idxS 2 (.t 9) (.t 10), none⟩,
⟨(some 12), .loadN 2 (.t 11), none⟩,
⟨(some 5), .mk [(.int .i64 0), (.slice none 0 0)], none⟩,
⟨none, .store 2 (.t 5) (.t 12), none⟩])
(.seq (.region [⟨(some 13), .mv (.t 0), none⟩,
⟨(some 14), .mv (.t 0), none⟩,
⟨(some 15), .nilCheck (.t 14), none⟩,
⟨(some 16), .faddr 2 (.t 15), none⟩,
⟨(some 17), .load1 (.t 16), none⟩,
⟨(some 18), .mv (.t 1), none⟩,
⟨(some 19), .mv (.t 1), none⟩,
⟨(some 20), .bin .num .add (.t 19) (.c (.int .i64 1)), none⟩,
⟨(some 21), .call (.c (.func (.func 96) #[] #[])) [(.t 17), (.t 18), (.t 20)], none⟩,
⟨(some 22), .nilCheck (.t 13), none⟩,
⟨(some 23), .faddr 2 (.t 22), none⟩,
⟨none, .store 1 (.t 23) (.t 21), none⟩])
(.seq (.region [⟨(some 24), .loadN 2 (.t 5), none⟩,
⟨none, .store 2 (.t 4) (.t 24), none⟩])
.ret))))⟩

/- (*riposte/wire.line).put -/
def ir84 : IFunc := ⟨[],
(.seq (.region [⟨(some 8), .mv (.t 2), none⟩,
⟨(some 9), .len (.t 8), none⟩,
⟨(some 10), .mv (.c (.int .i64 0)), none⟩])
(.block 0
(.loop
(.seq (.region [⟨(some 11), .bin .num .lss (.t 10) (.t 9), none⟩])
(.seq (.cond (.t 11)
.skip
(.exit 0))
(.seq (.block 1
(.seq (.region [⟨(some 12), .idxS 1 (.t 8) (.t 10), none⟩,
⟨(some 13), .load1 (.t 12), none⟩,
⟨(some 7), .mv (.t 13), none⟩])
(.seq (.region [⟨(some 14), .mv (.t 0), none⟩,
⟨(some 15), .nilCheck (.t 14), none⟩,
⟨(some 16), .faddr 2 (.t 15), none⟩,
⟨(some 17), .load1 (.t 16), none⟩,
⟨(some 18), .len (.t 17), none⟩,
⟨(some 19), .bin .num .lss (.t 18) (.c (.int .i64 60)), none⟩])
(.cond (.t 19)
(.dregion [(6, ⟨(some 26), .mv (.t 7), none⟩, []),
(7, ⟨(some 27), .call (.c (.func (.func 73) #[] #[])) [(.t 26)], none⟩, []),
(0, ⟨(some 20), .mv (.t 0), none⟩, []),
(1, ⟨(some 21), .mv (.t 0), none⟩, []),
(2, ⟨(some 22), .nilCheck (.t 21), none⟩, []),
(3, ⟨(some 23), .faddr 2 (.t 22), none⟩, []),
(4, ⟨(some 24), .load1 (.t 23), none⟩, [4]),
(5, ⟨(some 25), .mv (.t 1), none⟩, []),
(8, ⟨(some 28), .build [(.int .i64 0), (.slice none 0 0)] [(0, 1, (.t 25)), (1, 1, (.t 27))], none⟩, []),
(9, ⟨(some 29), .buildSlice 1 [(.int .i64 0), (.slice none 0 0)] [(0, 2, (.t 28))], none⟩, [2]),
(10, ⟨(some 30), .append 2 32 (.t 24) (.t 29), none⟩, []),
(11, ⟨(some 31), .nilCheck (.t 20), none⟩, []),
(12, ⟨(some 32), .faddr 2 (.t 31), none⟩, []),
(13, ⟨none, .store 1 (.t 32) (.t 30), none⟩, [])])
.skip))))
(.region [⟨(some 33), .bin .num .add (.t 10) (.c (.int .i64 1)), none⟩,
⟨(some 10), .mv (.t 33), none⟩])))))))⟩

/- riposte/wire.all[int] -/
def ir92 : IFunc := ⟨[.tmp 4],
(.seq (.region [⟨(some 3), .box 1 (.t 1), none⟩,
⟨(some 4), .mv (.c (.bool false)), none⟩])
(.seq (.region [⟨(some 5), .mv (.t 0), none⟩,
⟨(some 6), .mkfn (.func 104) [] [(.t 3)], none⟩,
⟨(some 7), .call (.c (.func (.func 103) #[] #[])) [(.t 5), (.t 6)], none⟩,
⟨(some 8), .not (.t 7), none⟩,
⟨(some 4), .mv (.t 8), none⟩])
.ret))⟩

/- riposte/wire.isZero$1 -/
def ir93 : IFunc := ⟨[.tmp 2],
(.seq (.region [⟨(some 2), .mv (.c (.bool false)), none⟩])
(.seq (.region [⟨(some 3), .mv (.t 0), none⟩,
⟨(some 4), .bin .num .eql (.t 3) (.c (.int .i64 0)), none⟩,
⟨(some 2), .mv (.t 4), none⟩])
.ret))⟩

/- slices.Delete[[]riposte/api.WireFlight,riposte/api.WireFlight] -/
def ir96 : IFunc := ⟨[.tmp 6],
(.seq (.region [⟨(some 6), .mv (.c (.slice none 0 0)), none⟩])
(.seq (.region [⟨(some 8), .mv (.t 0), none⟩,
⟨(some 9), .mv (.t 1), none⟩,
⟨(some 10), .mv (.t 2), none⟩,
⟨(some 11), .mv (.t 0), none⟩,
⟨(some 12), .len (.t 11), none⟩,
⟨(some 13), .sliceS 2 (.t 8) (some (.t 9)) (some (.t 10)) (some (.t 12)), none⟩])
(.seq (.seq (.region [⟨(some 14), .mv (.t 1), none⟩,
⟨(some 15), .mv (.t 2), none⟩,
⟨(some 16), .bin .num .eql (.t 14) (.t 15), none⟩])
(.cond (.t 16)
(.seq (.region [⟨(some 17), .mv (.t 0), none⟩,
⟨(some 6), .mv (.t 17), none⟩])
.ret)
.skip))
(.seq (.region [⟨(some 18), .mv (.t 0), none⟩,
⟨(some 19), .len (.t 18), none⟩,
⟨(some 7), .mv (.t 19), none⟩])
(.seq (.dregion [(0, ⟨(some 20), .mv (.t 0), none⟩, []),
(1, ⟨(some 21), .mv (.t 1), none⟩, []),
(2, ⟨(some 22), .sliceS 2 (.t 20) none (some (.t 21)) none, none⟩, []),
(3, ⟨(some 23), .mv (.t 0), none⟩, []),
(4, ⟨(some 24), .mv (.t 2), none⟩, []),
(5, ⟨(some 25), .sliceS 2 (.t 23) (some (.t 24)) none none, none⟩, [2]),
(6, ⟨(some 26), .append 2 32 (.t 22) (.t 25), none⟩, []),
(7, ⟨(some 0), .mv (.t 26), none⟩, [])])
(.seq (.region [⟨(some 27), .mv (.t 0), none⟩,
⟨(some 28), .mv (.t 0), none⟩,
⟨(some 29), .len (.t 28), none⟩,
⟨(some 30), .mv (.t 7), none⟩,
⟨(some 31), .sliceS 2 (.t 27) (some (.t 29)) (some (.t 30)) none, none⟩,
⟨none, .clear [(.int .i64 0), (.slice none 0 0)] (.t 31), none⟩])
(.seq (.region [⟨(some 32), .mv (.t 0), none⟩,
⟨(some 6), .mv (.t 32), none⟩])
.ret)))))))⟩

/- slices.ContainsFunc[[]int,int] -/
def ir103 : IFunc := ⟨[.tmp 4],
(.seq (.region [⟨(some 4), .mv (.c (.bool false)), none⟩])
(.seq (.region [⟨(some 5), .mv (.t 0), none⟩,
⟨(some 6), .mv (.t 1), none⟩,
⟨(some 7), .call (.c (.func (.func 112) #[] #[])) [(.t 5), (.t 6)], none⟩,
⟨(some 8), .bin .num .geq (.t 7) (.c (.int .i64 0)), none⟩,
⟨(some 4), .mv (.t 8), none⟩])
.ret))⟩

/- riposte/wire.all[int]$1 -/
def ir104 : IFunc := ⟨[.tmp 3],
(.seq (.region [⟨(some 3), .mv (.c (.bool false)), none⟩])
(.seq (.region [⟨(some 4), .load1 (.t 1), none⟩,
⟨(some 5), .mv (.t 0), none⟩,
⟨(some 6), .call (.t 4) [(.t 5)], none⟩,
⟨(some 7), .not (.t 6), none⟩,
⟨(some 3), .mv (.t 7), none⟩])
.ret))⟩

/- slices.IndexFunc[[]int,int] -/
def ir112 : IFunc := ⟨[.tmp 4],
(.seq (.region [⟨(some 4), .mv (.c (.int .i64 0)), none⟩])
(.seq (.seq (.region [⟨(some 6), .mv (.t 0), none⟩,
⟨(some 7), .len (.t 6), none⟩,
⟨(some 8), .mv (.c (.int .i64 0)), none⟩])
(.block 0
(.loop
(.seq (.region [⟨(some 9), .bin .num .lss (.t 8) (.t 7), none⟩])
(.seq (.cond (.t 9)
.skip
(.exit 0))
(.seq (.block 1
(.seq (.region [⟨(some 10), .mv (.t 8), none⟩,
⟨(some 5), .mv (.t 10), none⟩])
(.seq (.region [⟨(some 11), .mv (.t 1), none⟩,
⟨(some 12), .mv (.t 0), none⟩,
⟨(some 13), .mv (.t 5), none⟩,
⟨(some 14), .idxS 1 (.t 12) (.t 13), none⟩,
⟨(some 15), .load1 (.t 14), none⟩,
⟨(some 16), .call (.t 11) [(.t 15)], none⟩])
(.cond (.t 16)
(.seq (.region [⟨(some 17), .mv (.t 5), none⟩,
⟨(some 4), .mv (.t 17), none⟩])
.ret)
.skip))))
(.region [⟨(some 18), .bin .num .add (.t 8) (.c (.int .i64 1)), none⟩,
⟨(some 8), .mv (.t 18), none⟩])))))))
(.seq (.region [⟨(some 4), .mv (.c (.int .i64 (-1))), none⟩])
.ret)))⟩

theorem get24 (w : World) : (ctxW w).funcs.get 24 = some ir24 := by kernel_rfl
theorem get25 (w : World) : (ctxW w).funcs.get 25 = some ir25 := by kernel_rfl
theorem get47 (w : World) : (ctxW w).funcs.get 47 = some ir47 := by kernel_rfl
theorem get48 (w : World) : (ctxW w).funcs.get 48 = some ir48 := by kernel_rfl
theorem get53 (w : World) : (ctxW w).funcs.get 53 = some ir53 := by kernel_rfl
theorem get74 (w : World) : (ctxW w).funcs.get 74 = some ir74 := by kernel_rfl
theorem get75 (w : World) : (ctxW w).funcs.get 75 = some ir75 := by kernel_rfl
theorem get76 (w : World) : (ctxW w).funcs.get 76 = some ir76 := by kernel_rfl
theorem get77 (w : World) : (ctxW w).funcs.get 77 = some ir77 := by kernel_rfl
theorem get78 (w : World) : (ctxW w).funcs.get 78 = some ir78 := by kernel_rfl
theorem get79 (w : World) : (ctxW w).funcs.get 79 = some ir79 := by kernel_rfl
theorem get80 (w : World) : (ctxW w).funcs.get 80 = some ir80 := by kernel_rfl
theorem get81 (w : World) : (ctxW w).funcs.get 81 = some ir81 := by kernel_rfl
theorem get82 (w : World) : (ctxW w).funcs.get 82 = some ir82 := by kernel_rfl
theorem get84 (w : World) : (ctxW w).funcs.get 84 = some ir84 := by kernel_rfl
theorem get92 (w : World) : (ctxW w).funcs.get 92 = some ir92 := by kernel_rfl
theorem get93 (w : World) : (ctxW w).funcs.get 93 = some ir93 := by kernel_rfl
theorem get96 (w : World) : (ctxW w).funcs.get 96 = some ir96 := by kernel_rfl
theorem get103 (w : World) : (ctxW w).funcs.get 103 = some ir103 := by kernel_rfl
theorem get104 (w : World) : (ctxW w).funcs.get 104 = some ir104 := by kernel_rfl
theorem get112 (w : World) : (ctxW w).funcs.get 112 = some ir112 := by kernel_rfl
end Go.Ai.Wire
