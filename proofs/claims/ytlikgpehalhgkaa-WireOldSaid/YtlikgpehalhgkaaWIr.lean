/-
  The functions that 'WireBytes' and 'WireSpoilt' reach, in the evaluator's own form (printed by program), and that they are the program's.
-/
import Derived.Test.YtlikgpehalhgkaaAiF
import Derived.Test.YtlikgpehalhgkaaProg
namespace Go.Ai.Wire
open Go.Proofs

/- riposte/ripostelaw25.WireBytes -/
def ir3 : IFunc := ⟨[.tmp 4],
 (.seq (.region [⟨(some 2), .box 3 (.t 0), none⟩,
  ⟨(some 4), .mv (.c (.bool false)), none⟩])
 (.seq (.seq (.region [⟨(some 13), .faddr 2 (.t 2), none⟩,
  ⟨(some 14), .load1 (.t 13), none⟩,
  ⟨(some 15), .len (.t 14), none⟩,
  ⟨(some 16), .bin .num .gtr (.t 15) (.c (.int .i64 500)), none⟩,
  ⟨(some 17), .mv (.t 16), none⟩,
  ⟨(some 18), .mv (.t 1), (some (17, false))⟩,
  ⟨(some 19), .len (.t 18), (some (17, false))⟩,
  ⟨(some 20), .bin .num .gtr (.t 19) (.c (.int .i64 500)), (some (17, false))⟩,
  ⟨(some 21), .pick (.t 17) (.c (.bool true)) (.t 20), none⟩])
 (.cond (.t 21)
  (.seq (.region [⟨(some 22), .call (.c (.func (.func 13) #[] #[])) [], none⟩,
   ⟨(some 4), .mv (.t 22), none⟩])
  .ret)
  .skip))
 (.seq (.dregion [(0, ⟨(some 24), .faddr 0 (.t 2), none⟩, []),
  (1, ⟨(some 25), .load1 (.t 24), none⟩, []),
  (2, ⟨(some 26), .faddr 1 (.t 2), none⟩, []),
  (3, ⟨(some 27), .load1 (.t 26), none⟩, [1]),
  (4, ⟨(some 28), .buildSlice 0 [] [], none⟩, [0, 2]),
  (5, ⟨(some 29), .faddr 2 (.t 2), none⟩, []),
  (6, ⟨(some 30), .load1 (.t 29), none⟩, [1, 2, 4]),
  (7, ⟨(some 31), .append 1 1 (.t 28) (.t 30), none⟩, [3, 5]),
  (8, ⟨(some 32), .build [(.int .i64 0), (.int .i64 0), (.slice none 0 0)] [(0, 1, (.t 25)), (1, 1, (.t 27)), (2, 1, (.t 31))], none⟩, []),
  (9, ⟨(some 33), .call (.c (.func (.func 14) #[] #[])) [(.t 32)], none⟩, []),
  (10, ⟨(some 23), .mv (.t 33), none⟩, []),
  (11, ⟨(some 34), .extract 0 (.t 23), none⟩, []),
  (12, ⟨(some 35), .extract 1 (.t 23), none⟩, []),
  (13, ⟨(some 5), .mv (.t 34), none⟩, []),
  (14, ⟨(some 6), .mv (.t 35), none⟩, [])])
 (.seq (.region [⟨(some 37), .loadN 3 (.t 2), none⟩,
  ⟨(some 38), .call (.c (.func (.func 15) #[] #[])) [(.t 37)], none⟩,
  ⟨(some 36), .mv (.t 38), none⟩,
  ⟨(some 39), .extract 0 (.t 36), none⟩,
  ⟨(some 40), .extract 1 (.t 36), none⟩,
  ⟨(some 7), .mv (.t 39), none⟩,
  ⟨(some 8), .mv (.t 40), none⟩])
 (.seq (.region [⟨(some 42), .buildSlice 0 [] [], none⟩,
  ⟨(some 43), .mv (.t 1), none⟩,
  ⟨(some 44), .append 1 1 (.t 42) (.t 43), none⟩,
  ⟨(some 45), .call (.c (.func (.func 16) #[] #[])) [(.t 44)], none⟩,
  ⟨(some 41), .mv (.t 45), none⟩,
  ⟨(some 46), .extract 0 (.t 41), none⟩,
  ⟨(some 47), .extract 1 (.t 41), none⟩,
  ⟨(some 9), .mk [(.int .i64 0), (.int .i64 0), (.slice none 0 0)], none⟩,
  ⟨none, .store 3 (.t 9) (.t 46), none⟩,
  ⟨(some 10), .mv (.t 47), none⟩])
 (.seq (.region [⟨(some 49), .mv (.t 1), none⟩,
  ⟨(some 50), .call (.c (.func (.func 17) #[] #[])) [(.t 49)], none⟩,
  ⟨(some 48), .mv (.t 50), none⟩,
  ⟨(some 51), .extract 0 (.t 48), none⟩,
  ⟨(some 52), .extract 1 (.t 48), none⟩,
  ⟨(some 11), .mk [(.int .i64 0), (.int .i64 0), (.slice none 0 0)], none⟩,
  ⟨none, .store 3 (.t 11) (.t 51), none⟩,
  ⟨(some 12), .mv (.t 52), none⟩])
 (.seq (.region [⟨(some 53), .mv (.t 6), none⟩,
  ⟨(some 54), .mv (.t 8), none⟩,
  ⟨(some 55), .bin .num .eql (.t 53) (.t 54), none⟩,
  ⟨(some 56), .mv (.t 55), none⟩,
  ⟨(some 57), .mv (.t 5), (some (56, true))⟩,
  ⟨(some 58), .toStr (.t 57), (some (56, true))⟩,
  ⟨(some 59), .mv (.t 7), (some (56, true))⟩,
  ⟨(some 60), .toStr (.t 59), (some (56, true))⟩,
  ⟨(some 61), .bin .str .eql (.t 58) (.t 60), (some (56, true))⟩,
  ⟨(some 62), .pick (.t 56) (.t 61) (.c (.bool false)), none⟩,
  ⟨(some 63), .mv (.t 62), none⟩,
  ⟨(some 64), .mv (.t 10), (some (63, true))⟩,
  ⟨(some 65), .mv (.t 12), (some (63, true))⟩,
  ⟨(some 66), .bin .num .eql (.t 64) (.t 65), (some (63, true))⟩,
  ⟨(some 67), .pick (.t 63) (.t 66) (.c (.bool false)), none⟩,
  ⟨(some 68), .mv (.t 67), none⟩,
  ⟨(some 69), .faddr 0 (.t 9), (some (68, true))⟩,
  ⟨(some 70), .load1 (.t 69), (some (68, true))⟩,
  ⟨(some 71), .faddr 0 (.t 11), (some (68, true))⟩,
  ⟨(some 72), .load1 (.t 71), (some (68, true))⟩,
  ⟨(some 73), .bin .num .eql (.t 70) (.t 72), (some (68, true))⟩,
  ⟨(some 74), .pick (.t 68) (.t 73) (.c (.bool false)), none⟩,
  ⟨(some 75), .mv (.t 74), none⟩,
  ⟨(some 76), .faddr 1 (.t 9), (some (75, true))⟩,
  ⟨(some 77), .load1 (.t 76), (some (75, true))⟩,
  ⟨(some 78), .faddr 1 (.t 11), (some (75, true))⟩,
  ⟨(some 79), .load1 (.t 78), (some (75, true))⟩,
  ⟨(some 80), .bin .num .eql (.t 77) (.t 79), (some (75, true))⟩,
  ⟨(some 81), .pick (.t 75) (.t 80) (.c (.bool false)), none⟩,
  ⟨(some 82), .mv (.t 81), none⟩,
  ⟨(some 83), .faddr 2 (.t 9), (some (82, true))⟩,
  ⟨(some 84), .load1 (.t 83), (some (82, true))⟩,
  ⟨(some 85), .toStr (.t 84), (some (82, true))⟩,
  ⟨(some 86), .faddr 2 (.t 11), (some (82, true))⟩,
  ⟨(some 87), .load1 (.t 86), (some (82, true))⟩,
  ⟨(some 88), .toStr (.t 87), (some (82, true))⟩,
  ⟨(some 89), .bin .str .eql (.t 85) (.t 88), (some (82, true))⟩,
  ⟨(some 90), .pick (.t 82) (.t 89) (.c (.bool false)), none⟩,
  ⟨(some 91), .mv (.t 90), none⟩,
  ⟨(some 92), .buildSlice 0 [] [], (some (91, true))⟩,
  ⟨(some 93), .mv (.t 1), (some (91, true))⟩,
  ⟨(some 94), .append 1 1 (.t 92) (.t 93), (some (91, true))⟩,
  ⟨(some 95), .call (.c (.func (.func 18) #[] #[])) [(.t 94)], (some (91, true))⟩,
  ⟨(some 96), .mv (.t 1), (some (91, true))⟩,
  ⟨(some 97), .call (.c (.func (.func 19) #[] #[])) [(.t 96)], (some (91, true))⟩,
  ⟨(some 98), .bin .num .eql (.t 95) (.t 97), (some (91, true))⟩,
  ⟨(some 99), .pick (.t 91) (.t 98) (.c (.bool false)), none⟩,
  ⟨(some 100), .mv (.t 99), none⟩,
  ⟨(some 101), .call (.c (.func (.func 13) #[] #[])) [], (some (100, true))⟩,
  ⟨(some 102), .pick (.t 100) (.t 101) (.c (.bool false)), none⟩,
  ⟨(some 4), .mv (.t 102), none⟩])
 .ret)))))))⟩

/- riposte/ripostelaw25.WireSpoilt -/
def ir4 : IFunc := ⟨[.tmp 6],
 (.seq (.region [⟨(some 4), .box 2 (.t 1), none⟩,
  ⟨(some 5), .box 2 (.t 2), none⟩,
  ⟨(some 6), .mv (.c (.bool false)), none⟩])
 (.seq (.seq (.region [⟨(some 15), .mv (.t 0), none⟩,
  ⟨(some 16), .len (.t 15), none⟩,
  ⟨(some 17), .bin .num .gtr (.t 16) (.c (.int .i64 400)), none⟩])
 (.cond (.t 17)
  (.seq (.region [⟨(some 18), .call (.c (.func (.func 13) #[] #[])) [], none⟩,
   ⟨(some 6), .mv (.t 18), none⟩])
  .ret)
  .skip))
 (.seq (.dregion [(0, ⟨(some 19), .idxA 2 1 (.t 4) (.c (.int .i64 0)), none⟩, []),
  (1, ⟨(some 20), .load1 (.t 19), none⟩, []),
  (2, ⟨(some 21), .conv .i64 (.t 20), none⟩, []),
  (3, ⟨(some 22), .bin .num .rem (.t 21) (.c (.int .i64 60001)), none⟩, []),
  (4, ⟨(some 23), .buildSlice 0 [] [], none⟩, [2]),
  (5, ⟨(some 24), .mv (.t 0), none⟩, []),
  (6, ⟨(some 25), .append 1 1 (.t 23) (.t 24), none⟩, [4]),
  (7, ⟨(some 26), .build [(.int .i64 0), (.int .i64 0), (.slice none 0 0)] [(1, 1, (.t 22)), (2, 1, (.t 25))], none⟩, []),
  (8, ⟨(some 7), .mk [(.int .i64 0), (.int .i64 0), (.slice none 0 0)], none⟩, [1, 3, 6]),
  (9, ⟨none, .store 3 (.t 7) (.t 26), none⟩, [])])
 (.seq (.seq (.region [⟨(some 27), .mv (.t 0), none⟩,
  ⟨(some 28), .len (.t 27), none⟩,
  ⟨(some 29), .bin .num .gtr (.t 28) (.c (.int .i64 0)), none⟩])
 (.cond (.t 29)
  (.region [⟨(some 30), .idxA 2 1 (.t 4) (.c (.int .i64 1)), none⟩,
   ⟨(some 31), .load1 (.t 30), none⟩,
   ⟨(some 32), .conv .i64 (.t 31), none⟩,
   ⟨(some 33), .bin .num .rem (.t 32) (.c (.int .i64 60000)), none⟩,
   ⟨(some 34), .bin .num .add (.c (.int .i64 1)) (.t 33), none⟩,
   ⟨(some 35), .faddr 0 (.t 7), none⟩,
   ⟨none, .store 1 (.t 35) (.t 34), none⟩])
  .skip))
 (.seq (.region [⟨(some 37), .loadN 3 (.t 7), none⟩,
  ⟨(some 38), .call (.c (.func (.func 14) #[] #[])) [(.t 37)], none⟩,
  ⟨(some 36), .mv (.t 38), none⟩,
  ⟨(some 39), .extract 0 (.t 36), none⟩,
  ⟨(some 40), .extract 1 (.t 36), none⟩,
  ⟨(some 8), .mv (.t 39), none⟩,
  ⟨(some 9), .mv (.t 40), none⟩])
 (.seq (.region [⟨(some 42), .buildSlice 0 [] [], none⟩,
  ⟨(some 43), .mv (.t 8), none⟩,
  ⟨(some 44), .append 1 1 (.t 42) (.t 43), none⟩,
  ⟨(some 45), .call (.c (.func (.func 16) #[] #[])) [(.t 44)], none⟩,
  ⟨(some 41), .mv (.t 45), none⟩,
  ⟨(some 46), .extract 0 (.t 41), none⟩,
  ⟨(some 47), .extract 1 (.t 41), none⟩,
  ⟨(some 10), .mk [(.int .i64 0), (.int .i64 0), (.slice none 0 0)], none⟩,
  ⟨none, .store 3 (.t 10) (.t 46), none⟩,
  ⟨(some 11), .mv (.t 47), none⟩])
 (.seq (.seq (.region [⟨(some 48), .mv (.t 9), none⟩,
  ⟨(some 49), .bin .num .neq (.t 48) (.c (.int .i64 0)), none⟩,
  ⟨(some 50), .mv (.t 49), none⟩,
  ⟨(some 51), .mv (.t 11), (some (50, false))⟩,
  ⟨(some 52), .bin .num .neq (.t 51) (.c (.int .i64 0)), (some (50, false))⟩,
  ⟨(some 53), .pick (.t 50) (.c (.bool true)) (.t 52), none⟩,
  ⟨(some 54), .mv (.t 53), none⟩,
  ⟨(some 55), .mv (.t 8), (some (54, false))⟩,
  ⟨(some 56), .len (.t 55), (some (54, false))⟩,
  ⟨(some 57), .bin .num .eql (.t 56) (.c (.int .i64 0)), (some (54, false))⟩,
  ⟨(some 58), .pick (.t 54) (.c (.bool true)) (.t 57), none⟩,
  ⟨(some 59), .mv (.t 58), none⟩,
  ⟨(some 60), .faddr 0 (.t 10), (some (59, false))⟩,
  ⟨(some 61), .load1 (.t 60), (some (59, false))⟩,
  ⟨(some 62), .faddr 0 (.t 7), (some (59, false))⟩,
  ⟨(some 63), .load1 (.t 62), (some (59, false))⟩,
  ⟨(some 64), .bin .num .neq (.t 61) (.t 63), (some (59, false))⟩,
  ⟨(some 65), .pick (.t 59) (.c (.bool true)) (.t 64), none⟩,
  ⟨(some 66), .mv (.t 65), none⟩,
  ⟨(some 67), .faddr 1 (.t 10), (some (66, false))⟩,
  ⟨(some 68), .load1 (.t 67), (some (66, false))⟩,
  ⟨(some 69), .faddr 1 (.t 7), (some (66, false))⟩,
  ⟨(some 70), .load1 (.t 69), (some (66, false))⟩,
  ⟨(some 71), .bin .num .neq (.t 68) (.t 70), (some (66, false))⟩,
  ⟨(some 72), .pick (.t 66) (.c (.bool true)) (.t 71), none⟩,
  ⟨(some 73), .mv (.t 72), none⟩,
  ⟨(some 74), .faddr 2 (.t 10), (some (73, false))⟩,
  ⟨(some 75), .load1 (.t 74), (some (73, false))⟩,
  ⟨(some 76), .toStr (.t 75), (some (73, false))⟩,
  ⟨(some 77), .mv (.t 0), (some (73, false))⟩,
  ⟨(some 78), .toStr (.t 77), (some (73, false))⟩,
  ⟨(some 79), .bin .str .neq (.t 76) (.t 78), (some (73, false))⟩,
  ⟨(some 80), .pick (.t 73) (.c (.bool true)) (.t 79), none⟩])
 (.cond (.t 80)
  (.seq (.region [⟨(some 6), .mv (.c (.bool false)), none⟩])
  .ret)
  .skip))
 (.seq (.region [⟨(some 81), .buildSlice 0 [] [], none⟩,
  ⟨(some 82), .mv (.t 8), none⟩,
  ⟨(some 83), .append 1 1 (.t 81) (.t 82), none⟩,
  ⟨(some 12), .mv (.t 83), none⟩])
 (.seq (.dregion [(0, ⟨(some 84), .mv (.t 12), none⟩, []),
  (1, ⟨(some 85), .idxA 2 1 (.t 5) (.c (.int .i64 0)), none⟩, []),
  (2, ⟨(some 86), .load1 (.t 85), none⟩, []),
  (3, ⟨(some 87), .conv .i64 (.t 86), none⟩, []),
  (4, ⟨(some 88), .idxA 2 1 (.t 5) (.c (.int .i64 1)), none⟩, []),
  (5, ⟨(some 89), .load1 (.t 88), none⟩, [2]),
  (6, ⟨(some 90), .conv .i64 (.t 89), none⟩, []),
  (7, ⟨(some 91), .bin .num .mul (.c (.int .i64 256)) (.t 90), none⟩, []),
  (8, ⟨(some 92), .bin .num .add (.t 87) (.t 91), none⟩, []),
  (9, ⟨(some 93), .mv (.t 8), none⟩, []),
  (10, ⟨(some 94), .len (.t 93), none⟩, []),
  (11, ⟨(some 95), .bin .num .rem (.t 92) (.t 94), none⟩, []),
  (12, ⟨(some 96), .idxS 1 (.t 84) (.t 95), none⟩, []),
  (13, ⟨(some 97), .load1 (.t 96), none⟩, []),
  (14, ⟨(some 98), .idxA 2 1 (.t 5) (.c (.int .i64 1)), none⟩, []),
  (15, ⟨(some 99), .load1 (.t 98), none⟩, [1, 9, 12]),
  (16, ⟨(some 100), .bin .num .or (.t 99) (.c (.int .u8 1)), none⟩, []),
  (17, ⟨(some 101), .bin .num .xor (.t 97) (.t 100), none⟩, []),
  (18, ⟨(some 102), .idxS 1 (.t 84) (.t 95), none⟩, []),
  (19, ⟨none, .store 1 (.t 102) (.t 101), none⟩, [])])
 (.seq (.region [⟨(some 104), .mv (.t 12), none⟩,
  ⟨(some 105), .call (.c (.func (.func 16) #[] #[])) [(.t 104)], none⟩,
  ⟨(some 103), .mv (.t 105), none⟩,
  ⟨(some 106), .extract 0 (.t 103), none⟩,
  ⟨(some 107), .extract 1 (.t 103), none⟩,
  ⟨(some 9), .mv (.t 107), none⟩])
 (.seq (.region [⟨(some 109), .mv (.t 8), none⟩,
  ⟨(some 110), .mv (.t 8), none⟩,
  ⟨(some 111), .len (.t 110), none⟩,
  ⟨(some 112), .bin .num .sub (.t 111) (.c (.int .i64 1)), none⟩,
  ⟨(some 113), .sliceS 1 (.t 109) none (some (.t 112)) none, none⟩,
  ⟨(some 114), .call (.c (.func (.func 16) #[] #[])) [(.t 113)], none⟩,
  ⟨(some 108), .mv (.t 114), none⟩,
  ⟨(some 115), .extract 0 (.t 108), none⟩,
  ⟨(some 116), .extract 1 (.t 108), none⟩,
  ⟨(some 11), .mv (.t 116), none⟩])
 (.seq (.dregion [(0, ⟨(some 118), .buildSlice 0 [] [], none⟩, []),
  (1, ⟨(some 119), .mv (.t 8), none⟩, []),
  (2, ⟨(some 120), .append 1 1 (.t 118) (.t 119), none⟩, []),
  (3, ⟨(some 121), .idxA 2 1 (.t 5) (.c (.int .i64 0)), none⟩, []),
  (4, ⟨(some 122), .load1 (.t 121), none⟩, [1, 3]),
  (5, ⟨(some 123), .buildSlice 1 [(.int .u8 0)] [(0, 1, (.t 122))], none⟩, [2, 4]),
  (6, ⟨(some 124), .append 1 1 (.t 120) (.t 123), none⟩, []),
  (7, ⟨(some 125), .call (.c (.func (.func 16) #[] #[])) [(.t 124)], none⟩, []),
  (8, ⟨(some 117), .mv (.t 125), none⟩, []),
  (9, ⟨(some 126), .extract 0 (.t 117), none⟩, []),
  (10, ⟨(some 127), .extract 1 (.t 117), none⟩, []),
  (11, ⟨(some 13), .mk [(.int .i64 0), (.int .i64 0), (.slice none 0 0)], none⟩, [3, 4, 5, 6, 8, 10]),
  (12, ⟨none, .store 3 (.t 13) (.t 126), none⟩, []),
  (13, ⟨(some 14), .mv (.t 127), none⟩, [])])
 (.seq (.region [⟨(some 128), .mv (.t 9), none⟩,
  ⟨(some 129), .bin .num .eql (.t 128) (.c (.int .i64 4)), none⟩,
  ⟨(some 130), .mv (.t 129), none⟩,
  ⟨(some 131), .mv (.t 11), (some (130, true))⟩,
  ⟨(some 132), .bin .num .eql (.t 131) (.c (.int .i64 4)), (some (130, true))⟩,
  ⟨(some 133), .pick (.t 130) (.t 132) (.c (.bool false)), none⟩,
  ⟨(some 134), .mv (.t 133), none⟩,
  ⟨(some 135), .mv (.t 14), (some (134, true))⟩,
  ⟨(some 136), .bin .num .eql (.t 135) (.c (.int .i64 4)), (some (134, true))⟩,
  ⟨(some 137), .pick (.t 134) (.t 136) (.c (.bool false)), none⟩,
  ⟨(some 138), .mv (.t 137), none⟩,
  ⟨(some 139), .call (.c (.func (.func 13) #[] #[])) [], (some (138, true))⟩,
  ⟨(some 140), .pick (.t 138) (.t 139) (.c (.bool false)), none⟩,
  ⟨(some 6), .mv (.t 140), none⟩])
 .ret)))))))))))))⟩

/- riposte/wire.Bytes -/
def ir14 : IFunc := ⟨[.tmp 2, .tmp 3],
 (.seq (.region [⟨(some 1), .box 3 (.t 0), none⟩,
  ⟨(some 2), .mv (.c (.slice none 0 0)), none⟩,
  ⟨(some 3), .mv (.c (.int .i64 0)), none⟩])
 (.seq (.region [⟨(some 5), .loadN 3 (.t 1), none⟩,
  ⟨(some 6), .build [(.int .i64 0), (.int .i64 0), (.slice none 0 0)] [(0, 3, (.t 5))], none⟩,
  ⟨(some 4), .mk [(.int .i64 0), (.int .i64 0), (.slice none 0 0)], none⟩,
  ⟨none, .store 3 (.t 4) (.t 6), none⟩])
 (.seq (.seq (.region [⟨(some 7), .loadN 3 (.t 4), none⟩,
  ⟨(some 8), .call (.c (.func (.func 45) #[] #[])) [(.t 7)], none⟩,
  ⟨(some 9), .not (.t 8), none⟩])
 (.cond (.t 9)
  (.seq (.region [⟨(some 2), .mv (.c (.slice none 0 0)), none⟩,
   ⟨(some 3), .mv (.c (.int .i64 4)), none⟩])
  .ret)
  .skip))
 (.seq (.region [⟨(some 10), .loadN 3 (.t 4), none⟩,
  ⟨(some 11), .call (.c (.func (.func 46) #[] #[])) [(.t 10)], none⟩,
  ⟨(some 2), .mv (.t 11), none⟩,
  ⟨(some 3), .mv (.c (.int .i64 0)), none⟩])
 .ret))))⟩

/- riposte/riposteref25.Bytes -/
def ir15 : IFunc := ⟨[.tmp 2, .tmp 3],
 (.seq (.region [⟨(some 1), .box 3 (.t 0), none⟩,
  ⟨(some 2), .mv (.c (.slice none 0 0)), none⟩,
  ⟨(some 3), .mv (.c (.int .i64 0)), none⟩])
 (.seq (.seq (.region [⟨(some 5), .loadN 3 (.t 1), none⟩,
  ⟨(some 6), .call (.c (.func (.func 47) #[] #[])) [(.t 5)], none⟩,
  ⟨(some 7), .not (.t 6), none⟩])
 (.cond (.t 7)
  (.seq (.region [⟨(some 2), .mv (.c (.slice none 0 0)), none⟩,
   ⟨(some 3), .mv (.c (.int .i64 4)), none⟩])
  .ret)
  .skip))
 (.seq (.dregion [(0, ⟨(some 8), .faddr 0 (.t 1), none⟩, []),
  (1, ⟨(some 9), .load1 (.t 8), none⟩, []),
  (2, ⟨(some 10), .call (.c (.func (.func 48) #[] #[])) [(.t 9)], none⟩, []),
  (3, ⟨(some 11), .faddr 1 (.t 1), none⟩, []),
  (4, ⟨(some 12), .load1 (.t 11), none⟩, [1, 2]),
  (5, ⟨(some 13), .call (.c (.func (.func 48) #[] #[])) [(.t 12)], none⟩, []),
  (6, ⟨(some 14), .append 1 1 (.t 10) (.t 13), none⟩, []),
  (7, ⟨(some 4), .mv (.t 14), none⟩, [])])
 (.seq (.dregion [(1, ⟨(some 16), .faddr 2 (.t 1), none⟩, []),
  (2, ⟨(some 17), .load1 (.t 16), none⟩, []),
  (3, ⟨(some 18), .len (.t 17), none⟩, []),
  (4, ⟨(some 19), .call (.c (.func (.func 48) #[] #[])) [(.t 18)], none⟩, []),
  (0, ⟨(some 15), .mv (.t 4), none⟩, []),
  (5, ⟨(some 20), .append 1 1 (.t 15) (.t 19), none⟩, []),
  (6, ⟨(some 21), .faddr 2 (.t 1), none⟩, []),
  (7, ⟨(some 22), .load1 (.t 21), none⟩, [1, 3, 5]),
  (8, ⟨(some 23), .append 1 1 (.t 20) (.t 22), none⟩, []),
  (9, ⟨(some 4), .mv (.t 23), none⟩, [])])
 (.seq (.region [⟨(some 24), .mv (.t 4), none⟩,
  ⟨(some 25), .mv (.t 4), none⟩,
  ⟨(some 26), .call (.c (.func (.func 19) #[] #[])) [(.t 25)], none⟩,
  ⟨(some 27), .call (.c (.func (.func 48) #[] #[])) [(.t 26)], none⟩,
  ⟨(some 28), .append 1 1 (.t 24) (.t 27), none⟩,
  ⟨(some 2), .mv (.t 28), none⟩,
  ⟨(some 3), .mv (.c (.int .i64 0)), none⟩])
 .ret)))))⟩

/- riposte/wire.Read -/
def ir16 : IFunc := ⟨[.cellN 2 3, .tmp 3],
 (.seq (.region [⟨(some 2), .mk [(.int .i64 0), (.int .i64 0), (.slice none 0 0)], none⟩,
  ⟨(some 3), .mv (.c (.int .i64 0)), none⟩])
 (.seq (.seq (.region [⟨(some 5), .mv (.t 0), none⟩,
  ⟨(some 6), .len (.t 5), none⟩,
  ⟨(some 7), .call (.c (.func (.func 49) #[] #[])) [(.t 6), (.c (.int .i64 8)), (.c (.int .i64 408))], none⟩,
  ⟨(some 8), .not (.t 7), none⟩])
 (.cond (.t 8)
  (.seq (.region [⟨(some 9), .build [(.int .i64 0), (.int .i64 0), (.slice none 0 0)] [], none⟩,
   ⟨none, .store 3 (.t 2) (.t 9), none⟩,
   ⟨(some 3), .mv (.c (.int .i64 4)), none⟩])
  .ret)
  .skip))
 (.seq (.dregion [(0, ⟨(some 10), .mv (.t 0), none⟩, []),
  (1, ⟨(some 11), .call (.c (.func (.func 50) #[] #[])) [(.t 10), (.c (.int .i64 0))], none⟩, []),
  (2, ⟨(some 12), .mv (.t 0), none⟩, []),
  (3, ⟨(some 13), .call (.c (.func (.func 50) #[] #[])) [(.t 12), (.c (.int .i64 2))], none⟩, []),
  (4, ⟨(some 14), .mv (.t 0), none⟩, []),
  (5, ⟨(some 15), .mv (.t 0), none⟩, []),
  (6, ⟨(some 16), .len (.t 15), none⟩, []),
  (7, ⟨(some 17), .bin .num .sub (.t 16) (.c (.int .i64 2)), none⟩, []),
  (8, ⟨(some 18), .sliceS 1 (.t 14) (some (.c (.int .i64 6))) (some (.t 17)) none, none⟩, [4, 6]),
  (9, ⟨(some 19), .call (.c (.func (.func 51) #[] #[])) [(.t 18)], none⟩, []),
  (10, ⟨(some 20), .build [(.int .i64 0), (.int .i64 0), (.slice none 0 0)] [(0, 1, (.t 11)), (1, 1, (.t 13)), (2, 1, (.t 19))], none⟩, []),
  (11, ⟨(some 21), .build [(.int .i64 0), (.int .i64 0), (.slice none 0 0)] [(0, 3, (.t 20))], none⟩, []),
  (12, ⟨(some 4), .mk [(.int .i64 0), (.int .i64 0), (.slice none 0 0)], none⟩, [2, 3, 8, 10]),
  (13, ⟨none, .store 3 (.t 4) (.t 21), none⟩, [])])
 (.seq (.seq (.region [⟨(some 22), .loadN 3 (.t 4), none⟩,
  ⟨(some 23), .call (.c (.func (.func 45) #[] #[])) [(.t 22)], none⟩,
  ⟨(some 24), .not (.t 23), none⟩,
  ⟨(some 25), .mv (.t 24), none⟩,
  ⟨(some 26), .loadN 3 (.t 4), (some (25, false))⟩,
  ⟨(some 27), .call (.c (.func (.func 46) #[] #[])) [(.t 26)], (some (25, false))⟩,
  ⟨(some 28), .mv (.t 0), (some (25, false))⟩,
  ⟨(some 29), .call (.c (.func (.func 52) #[] #[])) [(.t 27), (.t 28)], (some (25, false))⟩,
  ⟨(some 30), .not (.t 29), (some (25, false))⟩,
  ⟨(some 31), .pick (.t 25) (.c (.bool true)) (.t 30), none⟩])
 (.cond (.t 31)
  (.seq (.region [⟨(some 32), .build [(.int .i64 0), (.int .i64 0), (.slice none 0 0)] [], none⟩,
   ⟨none, .store 3 (.t 2) (.t 32), none⟩,
   ⟨(some 3), .mv (.c (.int .i64 4)), none⟩])
  .ret)
  .skip))
 (.seq (.region [⟨(some 33), .faddr 0 (.t 4), none⟩,
  ⟨(some 34), .loadN 3 (.t 33), none⟩,
  ⟨none, .store 3 (.t 2) (.t 34), none⟩,
  ⟨(some 3), .mv (.c (.int .i64 0)), none⟩])
 .ret)))))⟩

/- riposte/riposteref25.Read -/
def ir17 : IFunc := ⟨[.cellN 2 3, .tmp 3],
 (.seq (.region [⟨(some 2), .mk [(.int .i64 0), (.int .i64 0), (.slice none 0 0)], none⟩,
  ⟨(some 3), .mv (.c (.int .i64 0)), none⟩])
 (.seq (.seq (.region [⟨(some 7), .mv (.t 0), none⟩,
  ⟨(some 8), .len (.t 7), none⟩,
  ⟨(some 9), .bin .num .lss (.t 8) (.c (.int .i64 8)), none⟩])
 (.cond (.t 9)
  (.seq (.region [⟨(some 10), .build [(.int .i64 0), (.int .i64 0), (.slice none 0 0)] [], none⟩,
   ⟨none, .store 3 (.t 2) (.t 10), none⟩,
   ⟨(some 3), .mv (.c (.int .i64 4)), none⟩])
  .ret)
  .skip))
 (.seq (.dregion [(0, ⟨(some 11), .mv (.t 0), none⟩, []),
  (1, ⟨(some 12), .idxS 1 (.t 11) (.c (.int .i64 0)), none⟩, []),
  (2, ⟨(some 13), .load1 (.t 12), none⟩, []),
  (3, ⟨(some 14), .conv .i64 (.t 13), none⟩, []),
  (4, ⟨(some 15), .bin .num .mul (.t 14) (.c (.int .i64 256)), none⟩, []),
  (5, ⟨(some 16), .mv (.t 0), none⟩, []),
  (6, ⟨(some 17), .idxS 1 (.t 16) (.c (.int .i64 1)), none⟩, []),
  (7, ⟨(some 18), .load1 (.t 17), none⟩, [4]),
  (8, ⟨(some 19), .conv .i64 (.t 18), none⟩, []),
  (9, ⟨(some 20), .bin .num .add (.t 15) (.t 19), none⟩, []),
  (10, ⟨(some 21), .mv (.t 0), none⟩, []),
  (11, ⟨(some 22), .idxS 1 (.t 21) (.c (.int .i64 2)), none⟩, []),
  (12, ⟨(some 23), .load1 (.t 22), none⟩, [4, 9]),
  (13, ⟨(some 24), .conv .i64 (.t 23), none⟩, []),
  (14, ⟨(some 25), .bin .num .mul (.t 24) (.c (.int .i64 256)), none⟩, []),
  (15, ⟨(some 26), .mv (.t 0), none⟩, []),
  (16, ⟨(some 27), .idxS 1 (.t 26) (.c (.int .i64 3)), none⟩, []),
  (17, ⟨(some 28), .load1 (.t 27), none⟩, [4, 9, 14]),
  (18, ⟨(some 29), .conv .i64 (.t 28), none⟩, []),
  (19, ⟨(some 30), .bin .num .add (.t 25) (.t 29), none⟩, []),
  (20, ⟨(some 31), .buildSlice 0 [] [], none⟩, [2, 7, 12, 17]),
  (21, ⟨(some 32), .mv (.t 0), none⟩, []),
  (22, ⟨(some 33), .mv (.t 0), none⟩, []),
  (23, ⟨(some 34), .len (.t 33), none⟩, []),
  (24, ⟨(some 35), .bin .num .sub (.t 34) (.c (.int .i64 2)), none⟩, []),
  (25, ⟨(some 36), .sliceS 1 (.t 32) (some (.c (.int .i64 6))) (some (.t 35)) none, none⟩, [4, 7, 12, 17, 22]),
  (26, ⟨(some 37), .append 1 1 (.t 31) (.t 36), none⟩, [8, 13, 18, 23]),
  (27, ⟨(some 38), .build [(.int .i64 0), (.int .i64 0), (.slice none 0 0)] [(0, 1, (.t 20)), (1, 1, (.t 30)), (2, 1, (.t 37))], none⟩, []),
  (28, ⟨(some 4), .mk [(.int .i64 0), (.int .i64 0), (.slice none 0 0)], none⟩, [1, 2, 7, 10, 15, 20, 25]),
  (29, ⟨none, .store 3 (.t 4) (.t 38), none⟩, [])])
 (.seq (.region [⟨(some 40), .loadN 3 (.t 4), none⟩,
  ⟨(some 41), .call (.c (.func (.func 15) #[] #[])) [(.t 40)], none⟩,
  ⟨(some 39), .mv (.t 41), none⟩,
  ⟨(some 42), .extract 0 (.t 39), none⟩,
  ⟨(some 43), .extract 1 (.t 39), none⟩,
  ⟨(some 5), .mv (.t 42), none⟩,
  ⟨(some 6), .mv (.t 43), none⟩])
 (.seq (.seq (.region [⟨(some 44), .mv (.t 6), none⟩,
  ⟨(some 45), .bin .num .neq (.t 44) (.c (.int .i64 0)), none⟩,
  ⟨(some 46), .mv (.t 45), none⟩,
  ⟨(some 47), .mv (.t 5), (some (46, false))⟩,
  ⟨(some 48), .toStr (.t 47), (some (46, false))⟩,
  ⟨(some 49), .mv (.t 0), (some (46, false))⟩,
  ⟨(some 50), .toStr (.t 49), (some (46, false))⟩,
  ⟨(some 51), .bin .str .neq (.t 48) (.t 50), (some (46, false))⟩,
  ⟨(some 52), .pick (.t 46) (.c (.bool true)) (.t 51), none⟩])
 (.cond (.t 52)
  (.seq (.region [⟨(some 53), .build [(.int .i64 0), (.int .i64 0), (.slice none 0 0)] [], none⟩,
   ⟨none, .store 3 (.t 2) (.t 53), none⟩,
   ⟨(some 3), .mv (.c (.int .i64 4)), none⟩])
  .ret)
  .skip))
 (.seq (.region [⟨(some 54), .loadN 3 (.t 4), none⟩,
  ⟨none, .store 3 (.t 2) (.t 54), none⟩,
  ⟨(some 3), .mv (.c (.int .i64 0)), none⟩])
 .ret))))))⟩

/- riposte/wire.Sum -/
def ir18 : IFunc := ⟨[.tmp 2],
 (.seq (.region [⟨(some 2), .mv (.c (.int .i64 0)), none⟩])
 (.seq (.region [⟨(some 3), .mv (.c (.int .i64 0)), none⟩])
 (.seq (.seq (.region [⟨(some 5), .mv (.t 0), none⟩,
  ⟨(some 6), .len (.t 5), none⟩,
  ⟨(some 7), .mv (.c (.int .i64 0)), none⟩])
 (.block 0
  (.loop
   (.seq (.region [⟨(some 8), .bin .num .lss (.t 7) (.t 6), none⟩])
   (.seq (.cond (.t 8)
    .skip
    (.exit 0))
   (.seq (.block 1
    (.seq (.region [⟨(some 9), .mv (.t 7), none⟩,
     ⟨(some 4), .mv (.t 9), none⟩])
    (.region [⟨(some 10), .mv (.t 3), none⟩,
     ⟨(some 11), .mv (.t 0), none⟩,
     ⟨(some 12), .mv (.t 4), none⟩,
     ⟨(some 13), .idxS 1 (.t 11) (.t 12), none⟩,
     ⟨(some 14), .load1 (.t 13), none⟩,
     ⟨(some 15), .conv .i64 (.t 14), none⟩,
     ⟨(some 16), .bin .num .add (.t 15) (.c (.int .i64 1)), none⟩,
     ⟨(some 17), .mv (.t 4), none⟩,
     ⟨(some 18), .bin .num .add (.t 17) (.c (.int .i64 1)), none⟩,
     ⟨(some 19), .bin .num .mul (.t 16) (.t 18), none⟩,
     ⟨(some 20), .bin .num .add (.t 10) (.t 19), none⟩,
     ⟨(some 21), .bin .num .rem (.t 20) (.c (.int .i64 65521)), none⟩,
     ⟨(some 3), .mv (.t 21), none⟩])))
   (.region [⟨(some 22), .bin .num .add (.t 7) (.c (.int .i64 1)), none⟩,
    ⟨(some 7), .mv (.t 22), none⟩])))))))
 (.seq (.region [⟨(some 23), .mv (.t 3), none⟩,
  ⟨(some 2), .mv (.t 23), none⟩])
 .ret))))⟩

/- riposte/riposteref25.Sum -/
def ir19 : IFunc := ⟨[.tmp 2],
 (.seq (.region [⟨(some 2), .mv (.c (.int .i64 0)), none⟩])
 (.seq (.region [⟨(some 3), .mv (.c (.int .i64 0)), none⟩])
 (.seq (.seq (.region [⟨(some 4), .mv (.c (.int .i64 0)), none⟩])
 (.block 0
  (.loop
   (.seq (.seq (.region [⟨(some 5), .mv (.t 4), none⟩,
    ⟨(some 6), .mv (.t 0), none⟩,
    ⟨(some 7), .len (.t 6), none⟩,
    ⟨(some 8), .bin .num .lss (.t 5) (.t 7), none⟩])
   (.cond (.t 8)
    .skip
    (.exit 0)))
   (.seq (.block 1
    (.region [⟨(some 11), .mv (.t 3), none⟩,
     ⟨(some 12), .mv (.t 4), none⟩,
     ⟨(some 13), .bin .num .add (.t 12) (.c (.int .i64 1)), none⟩,
     ⟨(some 14), .mv (.t 0), none⟩,
     ⟨(some 15), .mv (.t 4), none⟩,
     ⟨(some 16), .idxS 1 (.t 14) (.t 15), none⟩,
     ⟨(some 17), .load1 (.t 16), none⟩,
     ⟨(some 18), .conv .i64 (.t 17), none⟩,
     ⟨(some 19), .bin .num .add (.t 18) (.c (.int .i64 1)), none⟩,
     ⟨(some 20), .bin .num .mul (.t 13) (.t 19), none⟩,
     ⟨(some 21), .bin .num .add (.t 11) (.t 20), none⟩,
     ⟨(some 22), .bin .num .rem (.t 21) (.c (.int .i64 65521)), none⟩,
     ⟨(some 3), .mv (.t 22), none⟩]))
   (.region [⟨(some 9), .mv (.t 4), none⟩,
    ⟨(some 10), .bin .num .add (.t 9) (.c (.int .i64 1)), none⟩,
    ⟨(some 4), .mv (.t 10), none⟩]))))))
 (.seq (.region [⟨(some 23), .mv (.t 3), none⟩,
  ⟨(some 2), .mv (.t 23), none⟩])
 .ret))))⟩

/- (riposte/wire.packet).isRight -/
def ir45 : IFunc := ⟨[.tmp 2],
 (.seq (.region [⟨(some 1), .box 3 (.t 0), none⟩,
  ⟨(some 2), .mv (.c (.bool false)), none⟩])
 (.seq (.seq (.region [⟨(some 3), .faddr 0 (.t 1), none⟩,
  ⟨(some 4), .faddr 1 (.t 3), none⟩,
  ⟨(some 5), .load1 (.t 4), none⟩,
  ⟨(some 6), .call (.c (.func (.func 70) #[] #[])) [(.t 5)], none⟩,
  ⟨(some 7), .not (.t 6), none⟩,
  ⟨(some 8), .mv (.t 7), none⟩,
  ⟨(some 9), .faddr 0 (.t 1), (some (8, false))⟩,
  ⟨(some 10), .faddr 0 (.t 9), (some (8, false))⟩,
  ⟨(some 11), .load1 (.t 10), (some (8, false))⟩,
  ⟨(some 12), .call (.c (.func (.func 70) #[] #[])) [(.t 11)], (some (8, false))⟩,
  ⟨(some 13), .not (.t 12), (some (8, false))⟩,
  ⟨(some 14), .pick (.t 8) (.c (.bool true)) (.t 13), none⟩])
 (.cond (.t 14)
  (.seq (.region [⟨(some 2), .mv (.c (.bool false)), none⟩])
  .ret)
  .skip))
 (.seq (.seq (.region [⟨(some 15), .faddr 0 (.t 1), none⟩,
  ⟨(some 16), .faddr 0 (.t 15), none⟩,
  ⟨(some 17), .load1 (.t 16), none⟩,
  ⟨(some 18), .bin .num .eql (.t 17) (.c (.int .i64 0)), none⟩])
 (.cond (.t 18)
  (.seq (.region [⟨(some 19), .faddr 0 (.t 1), none⟩,
   ⟨(some 20), .faddr 2 (.t 19), none⟩,
   ⟨(some 21), .load1 (.t 20), none⟩,
   ⟨(some 22), .len (.t 21), none⟩,
   ⟨(some 23), .bin .num .eql (.t 22) (.c (.int .i64 0)), none⟩,
   ⟨(some 2), .mv (.t 23), none⟩])
  .ret)
  .skip))
 (.seq (.region [⟨(some 24), .faddr 0 (.t 1), none⟩,
  ⟨(some 25), .faddr 2 (.t 24), none⟩,
  ⟨(some 26), .load1 (.t 25), none⟩,
  ⟨(some 27), .call (.c (.func (.func 61) #[] #[])) [(.t 26)], none⟩,
  ⟨(some 2), .mv (.t 27), none⟩])
 .ret))))⟩

/- (riposte/wire.packet).bytes -/
def ir46 : IFunc := ⟨[.tmp 2],
 (.seq (.region [⟨(some 1), .box 3 (.t 0), none⟩,
  ⟨(some 2), .mv (.c (.slice none 0 0)), none⟩])
 (.seq (.dregion [(0, ⟨(some 4), .faddr 0 (.t 1), none⟩, []),
  (1, ⟨(some 5), .faddr 0 (.t 4), none⟩, []),
  (2, ⟨(some 6), .load1 (.t 5), none⟩, []),
  (3, ⟨(some 7), .faddr 0 (.t 1), none⟩, []),
  (4, ⟨(some 8), .faddr 1 (.t 7), none⟩, []),
  (5, ⟨(some 9), .load1 (.t 8), none⟩, [2]),
  (6, ⟨(some 10), .faddr 0 (.t 1), none⟩, []),
  (7, ⟨(some 11), .faddr 2 (.t 10), none⟩, []),
  (8, ⟨(some 12), .load1 (.t 11), none⟩, [2, 5]),
  (9, ⟨(some 13), .len (.t 12), none⟩, []),
  (10, ⟨(some 14), .buildSlice 3 [(.int .i64 0), (.int .i64 0), (.int .i64 0)] [(0, 1, (.t 6)), (1, 1, (.t 9)), (2, 1, (.t 13))], none⟩, []),
  (11, ⟨(some 15), .call (.c (.func (.func 71) #[] #[])) [(.c (.slice none 0 0)), (.t 14)], none⟩, []),
  (12, ⟨(some 16), .faddr 0 (.t 1), none⟩, []),
  (13, ⟨(some 17), .faddr 2 (.t 16), none⟩, []),
  (14, ⟨(some 18), .load1 (.t 17), none⟩, [2, 3, 5, 8, 11]),
  (15, ⟨(some 19), .append 1 1 (.t 15) (.t 18), none⟩, []),
  (16, ⟨(some 3), .mv (.t 19), none⟩, [])])
 (.seq (.region [⟨(some 20), .mv (.t 3), none⟩,
  ⟨(some 21), .mv (.t 3), none⟩,
  ⟨(some 22), .call (.c (.func (.func 18) #[] #[])) [(.t 21)], none⟩,
  ⟨(some 23), .buildSlice 1 [(.int .i64 0)] [(0, 1, (.t 22))], none⟩,
  ⟨(some 24), .call (.c (.func (.func 71) #[] #[])) [(.t 20), (.t 23)], none⟩,
  ⟨(some 2), .mv (.t 24), none⟩])
 .ret)))⟩

/- riposte/riposteref25.IsPacket -/
def ir47 : IFunc := ⟨[.tmp 2],
 (.seq (.region [⟨(some 1), .box 3 (.t 0), none⟩,
  ⟨(some 2), .mv (.c (.bool false)), none⟩])
 (.seq (.seq (.region [⟨(some 3), .faddr 1 (.t 1), none⟩,
  ⟨(some 4), .load1 (.t 3), none⟩,
  ⟨(some 5), .call (.c (.func (.func 55) #[] #[])) [(.t 4), (.c (.int .i64 0)), (.c (.int .i64 60000))], none⟩,
  ⟨(some 6), .not (.t 5), none⟩])
 (.cond (.t 6)
  (.seq (.region [⟨(some 2), .mv (.c (.bool false)), none⟩])
  .ret)
  .skip))
 (.seq (.seq (.region [⟨(some 7), .faddr 0 (.t 1), none⟩,
  ⟨(some 8), .load1 (.t 7), none⟩,
  ⟨(some 9), .bin .num .eql (.t 8) (.c (.int .i64 0)), none⟩])
 (.cond (.t 9)
  (.seq (.region [⟨(some 10), .faddr 2 (.t 1), none⟩,
   ⟨(some 11), .load1 (.t 10), none⟩,
   ⟨(some 12), .len (.t 11), none⟩,
   ⟨(some 13), .bin .num .eql (.t 12) (.c (.int .i64 0)), none⟩,
   ⟨(some 2), .mv (.t 13), none⟩])
  .ret)
  .skip))
 (.seq (.region [⟨(some 14), .faddr 0 (.t 1), none⟩,
  ⟨(some 15), .load1 (.t 14), none⟩,
  ⟨(some 16), .call (.c (.func (.func 55) #[] #[])) [(.t 15), (.c (.int .i64 1)), (.c (.int .i64 60000))], none⟩,
  ⟨(some 17), .mv (.t 16), none⟩,
  ⟨(some 18), .faddr 2 (.t 1), (some (17, true))⟩,
  ⟨(some 19), .load1 (.t 18), (some (17, true))⟩,
  ⟨(some 20), .call (.c (.func (.func 56) #[] #[])) [(.t 19)], (some (17, true))⟩,
  ⟨(some 21), .pick (.t 17) (.t 20) (.c (.bool false)), none⟩,
  ⟨(some 2), .mv (.t 21), none⟩])
 .ret))))⟩

/- riposte/riposteref25.two -/
def ir48 : IFunc := ⟨[.tmp 2],
 (.seq (.region [⟨(some 2), .mv (.c (.slice none 0 0)), none⟩])
 (.seq (.region [⟨(some 3), .mv (.t 0), none⟩,
  ⟨(some 4), .bin .num .quo (.t 3) (.c (.int .i64 256)), none⟩,
  ⟨(some 5), .conv .u8 (.t 4), none⟩,
  ⟨(some 6), .mv (.t 0), none⟩,
  ⟨(some 7), .bin .num .rem (.t 6) (.c (.int .i64 256)), none⟩,
  ⟨(some 8), .conv .u8 (.t 7), none⟩,
  ⟨(some 9), .buildSlice 2 [(.int .u8 0), (.int .u8 0)] [(0, 1, (.t 5)), (1, 1, (.t 8))], none⟩,
  ⟨(some 2), .mv (.t 9), none⟩])
 .ret))⟩

/- riposte/wire.within -/
def ir49 : IFunc := ⟨[.tmp 6],
 (.seq (.region [⟨(some 6), .mv (.c (.bool false)), none⟩])
 (.seq (.region [⟨(some 7), .mv (.t 0), none⟩,
  ⟨(some 8), .mv (.t 1), none⟩,
  ⟨(some 9), .bin .num .geq (.t 7) (.t 8), none⟩,
  ⟨(some 10), .mv (.t 9), none⟩,
  ⟨(some 11), .mv (.t 0), (some (10, true))⟩,
  ⟨(some 12), .mv (.t 2), (some (10, true))⟩,
  ⟨(some 13), .bin .num .leq (.t 11) (.t 12), (some (10, true))⟩,
  ⟨(some 14), .pick (.t 10) (.t 13) (.c (.bool false)), none⟩,
  ⟨(some 6), .mv (.t 14), none⟩])
 .ret))⟩

/- riposte/wire.field -/
def ir50 : IFunc := ⟨[.tmp 4],
 (.seq (.region [⟨(some 4), .mv (.c (.int .i64 0)), none⟩])
 (.seq (.dregion [(0, ⟨(some 5), .mv (.t 0), none⟩, []),
  (1, ⟨(some 6), .mv (.t 1), none⟩, []),
  (2, ⟨(some 7), .idxS 1 (.t 5) (.t 6), none⟩, []),
  (3, ⟨(some 8), .load1 (.t 7), none⟩, []),
  (4, ⟨(some 9), .conv .i64 (.t 8), none⟩, []),
  (5, ⟨(some 10), .bin .num .mul (.t 9) (.c (.int .i64 256)), none⟩, []),
  (6, ⟨(some 11), .mv (.t 0), none⟩, []),
  (7, ⟨(some 12), .mv (.t 1), none⟩, []),
  (8, ⟨(some 13), .bin .num .add (.t 12) (.c (.int .i64 1)), none⟩, []),
  (9, ⟨(some 14), .idxS 1 (.t 11) (.t 13), none⟩, []),
  (10, ⟨(some 15), .load1 (.t 14), none⟩, [6]),
  (11, ⟨(some 16), .conv .i64 (.t 15), none⟩, []),
  (12, ⟨(some 17), .bin .num .add (.t 10) (.t 16), none⟩, []),
  (13, ⟨(some 4), .mv (.t 17), none⟩, [])])
 .ret))⟩

/- slices.Clone[[]byte,byte] -/
def ir51 : IFunc := ⟨[.tmp 2],
 (.seq (.region [⟨(some 2), .mv (.c (.slice none 0 0)), none⟩])
 (.seq (.seq (.region [⟨(some 3), .mv (.t 0), none⟩,
  ⟨(some 4), .bin .slc .eql (.t 3) (.c (.slice none 0 0)), none⟩])
 (.cond (.t 4)
  (.seq (.region [⟨(some 2), .mv (.c (.slice none 0 0)), none⟩])
  .ret)
  .skip))
 (.seq (.region [⟨(some 5), .buildSlice 0 [] [], none⟩,
  ⟨(some 6), .mv (.t 0), none⟩,
  ⟨(some 7), .append 1 1 (.t 5) (.t 6), none⟩,
  ⟨(some 2), .mv (.t 7), none⟩])
 .ret)))⟩

/- slices.Equal[[]byte,byte] -/
def ir52 : IFunc := ⟨[.tmp 4],
 (.seq (.region [⟨(some 4), .mv (.c (.bool false)), none⟩])
 (.seq (.seq (.region [⟨(some 6), .mv (.t 0), none⟩,
  ⟨(some 7), .len (.t 6), none⟩,
  ⟨(some 8), .mv (.t 1), none⟩,
  ⟨(some 9), .len (.t 8), none⟩,
  ⟨(some 10), .bin .num .neq (.t 7) (.t 9), none⟩])
 (.cond (.t 10)
  (.seq (.region [⟨(some 4), .mv (.c (.bool false)), none⟩])
  .ret)
  .skip))
 (.seq (.seq (.region [⟨(some 11), .mv (.t 0), none⟩,
  ⟨(some 12), .len (.t 11), none⟩,
  ⟨(some 13), .mv (.c (.int .i64 0)), none⟩])
 (.block 0
  (.loop
   (.seq (.region [⟨(some 14), .bin .num .lss (.t 13) (.t 12), none⟩])
   (.seq (.cond (.t 14)
    .skip
    (.exit 0))
   (.seq (.block 1
    (.seq (.region [⟨(some 15), .mv (.t 13), none⟩,
     ⟨(some 5), .mv (.t 15), none⟩])
    (.seq (.dregion [(0, ⟨(some 16), .mv (.t 0), none⟩, []),
     (1, ⟨(some 17), .mv (.t 5), none⟩, []),
     (2, ⟨(some 18), .idxS 1 (.t 16) (.t 17), none⟩, []),
     (3, ⟨(some 19), .load1 (.t 18), none⟩, []),
     (4, ⟨(some 20), .mv (.t 1), none⟩, []),
     (5, ⟨(some 21), .mv (.t 5), none⟩, []),
     (6, ⟨(some 22), .idxS 1 (.t 20) (.t 21), none⟩, []),
     (7, ⟨(some 23), .load1 (.t 22), none⟩, [3]),
     (8, ⟨(some 24), .bin .num .neq (.t 19) (.t 23), none⟩, [])])
    (.cond (.t 24)
     (.seq (.region [⟨(some 4), .mv (.c (.bool false)), none⟩])
     .ret)
     .skip))))
   (.region [⟨(some 25), .bin .num .add (.t 13) (.c (.int .i64 1)), none⟩,
    ⟨(some 13), .mv (.t 25), none⟩])))))))
 (.seq (.region [⟨(some 4), .mv (.c (.bool true)), none⟩])
 .ret))))⟩

/- riposte/riposteref25.In -/
def ir55 : IFunc := ⟨[.tmp 6],
 (.seq (.region [⟨(some 6), .mv (.c (.bool false)), none⟩])
 (.seq (.region [⟨(some 7), .mv (.t 0), none⟩,
  ⟨(some 8), .mv (.t 1), none⟩,
  ⟨(some 9), .bin .num .geq (.t 7) (.t 8), none⟩,
  ⟨(some 10), .mv (.t 9), none⟩,
  ⟨(some 11), .mv (.t 0), (some (10, true))⟩,
  ⟨(some 12), .mv (.t 2), (some (10, true))⟩,
  ⟨(some 13), .bin .num .leq (.t 11) (.t 12), (some (10, true))⟩,
  ⟨(some 14), .pick (.t 10) (.t 13) (.c (.bool false)), none⟩,
  ⟨(some 6), .mv (.t 14), none⟩])
 .ret))⟩

/- riposte/riposteref25.IsFrame -/
def ir56 : IFunc := ⟨[.tmp 2],
 (.seq (.region [⟨(some 2), .mv (.c (.bool false)), none⟩])
 (.seq (.region [⟨(some 3), .mv (.t 0), none⟩,
  ⟨(some 4), .len (.t 3), none⟩,
  ⟨(some 5), .call (.c (.func (.func 55) #[] #[])) [(.t 4), (.c (.int .i64 1)), (.c (.int .i64 400))], none⟩,
  ⟨(some 2), .mv (.t 5), none⟩])
 .ret))⟩

/- riposte/wire.isFrame -/
def ir61 : IFunc := ⟨[.tmp 2],
 (.seq (.region [⟨(some 2), .mv (.c (.bool false)), none⟩])
 (.seq (.region [⟨(some 3), .mv (.t 0), none⟩,
  ⟨(some 4), .len (.t 3), none⟩,
  ⟨(some 5), .call (.c (.func (.func 49) #[] #[])) [(.t 4), (.c (.int .i64 1)), (.c (.int .i64 400))], none⟩,
  ⟨(some 2), .mv (.t 5), none⟩])
 .ret))⟩

/- riposte/wire.isCount -/
def ir70 : IFunc := ⟨[.tmp 2],
 (.seq (.region [⟨(some 2), .mv (.c (.bool false)), none⟩])
 (.seq (.region [⟨(some 3), .mv (.t 0), none⟩,
  ⟨(some 4), .call (.c (.func (.func 49) #[] #[])) [(.t 3), (.c (.int .i64 0)), (.c (.int .i64 60000))], none⟩,
  ⟨(some 2), .mv (.t 4), none⟩])
 .ret))⟩

/- riposte/wire.two -/
def ir71 : IFunc := ⟨[.tmp 4],
 (.seq (.region [⟨(some 4), .mv (.c (.slice none 0 0)), none⟩])
 (.seq (.seq (.region [⟨(some 7), .mv (.t 1), none⟩,
  ⟨(some 8), .len (.t 7), none⟩,
  ⟨(some 9), .mv (.c (.int .i64 0)), none⟩])
 (.block 0
  (.loop
   (.seq (.region [⟨(some 10), .bin .num .lss (.t 9) (.t 8), none⟩])
   (.seq (.cond (.t 10)
    .skip
    (.exit 0))
   (.seq (.block 1
    (.seq (.region [⟨(some 11), .idxS 1 (.t 7) (.t 9), none⟩,
     ⟨(some 12), .load1 (.t 11), none⟩,
     ⟨(some 6), .mv (.t 12), none⟩])
    (.region [⟨(some 13), .mv (.t 0), none⟩,
     ⟨(some 14), .mv (.t 6), none⟩,
     ⟨(some 15), .bin .num .quo (.t 14) (.c (.int .i64 256)), none⟩,
     ⟨(some 16), .conv .u8 (.t 15), none⟩,
     ⟨(some 17), .mv (.t 6), none⟩,
     ⟨(some 18), .conv .u8 (.t 17), none⟩,
     ⟨(some 19), .buildSlice 2 [(.int .u8 0), (.int .u8 0)] [(0, 1, (.t 16)), (1, 1, (.t 18))], none⟩,
     ⟨(some 20), .append 1 1 (.t 13) (.t 19), none⟩,
     ⟨(some 0), .mv (.t 20), none⟩])))
   (.region [⟨(some 21), .bin .num .add (.t 9) (.c (.int .i64 1)), none⟩,
    ⟨(some 9), .mv (.t 21), none⟩])))))))
 (.seq (.region [⟨(some 22), .mv (.t 0), none⟩,
  ⟨(some 4), .mv (.t 22), none⟩])
 .ret)))⟩


/-- What 'slices.Insert' of one element of two cells does ahead of the end. -/
def insA (args : List Value) (M : Nat → Option AObj) : Option (Value × Option (Nat × List AVer)) := match args with
  | [.slice (some a) n c, .int .i64 i, .slice (some va) m vc] => match M a.block, M va.block with
    | some (.cells vs), some (.cells us) => match vs[ver a]?, us[ver va]? with
      | some v, some u =>
        if m = 1 ∧ (v.esz = 0 ∨ v.esz = 2) ∧ 0 ≤ i ∧ i.toNat < n ∧ n ≤ c ∧ n ≤ 1000000 ∧ va.block ≠ a.block ∧ a.off + c * 2 ≤ v.cells.length ∧ va.off + 2 ≤ u.cells.length ∧ v.cells.all scalar = true ∧ u.cells.all scalar = true then
          some (.slice (some (mkAddr a.block vs.length 0)) (n + 1) (n + 1), some (a.block, setVer vs (ver a) (v.cells.take (a.off + i.toNat * 2)) ++
            [⟨2, (v.cells.drop a.off).take (i.toNat * 2) ++ ((u.cells.drop va.off).take 2 ++ ((v.cells.drop (a.off + i.toNat * 2)).take ((n - i.toNat) * 2)))⟩]))
        else none
      | _, _ => none
    | _, _ => none
  | _ => none

/-- 'awake' is known, and 'slices.Insert' ahead of the end. -/
def knownW (k : FuncId) (args : List Value) (M : Nat → Option AObj) : Option (Value × Option (Nat × List AVer)) :=
  bif Nat.beq k 103 then insA args M else match args with
  | [] => if k = 13 then some (.bool true, none) else none
  | _ => none

/-- The context of the proofs about functions with parameters. -/
noncomputable def ctxW (w : World) : Ctx := { funcs := funcsFrom Try.prog (List.range 150) .leaf, w0 := w, known := knownW, eqb := fun a b => @decide (a = b) (Classical.propDecidable _) }

theorem get3 (w : World) : (ctxW w).funcs.get 3 = some ir3 := by kernel_rfl
theorem get4 (w : World) : (ctxW w).funcs.get 4 = some ir4 := by kernel_rfl
theorem get14 (w : World) : (ctxW w).funcs.get 14 = some ir14 := by kernel_rfl
theorem get15 (w : World) : (ctxW w).funcs.get 15 = some ir15 := by kernel_rfl
theorem get16 (w : World) : (ctxW w).funcs.get 16 = some ir16 := by kernel_rfl
theorem get17 (w : World) : (ctxW w).funcs.get 17 = some ir17 := by kernel_rfl
theorem get18 (w : World) : (ctxW w).funcs.get 18 = some ir18 := by kernel_rfl
theorem get19 (w : World) : (ctxW w).funcs.get 19 = some ir19 := by kernel_rfl
theorem get45 (w : World) : (ctxW w).funcs.get 45 = some ir45 := by kernel_rfl
theorem get46 (w : World) : (ctxW w).funcs.get 46 = some ir46 := by kernel_rfl
theorem get47 (w : World) : (ctxW w).funcs.get 47 = some ir47 := by kernel_rfl
theorem get48 (w : World) : (ctxW w).funcs.get 48 = some ir48 := by kernel_rfl
theorem get49 (w : World) : (ctxW w).funcs.get 49 = some ir49 := by kernel_rfl
theorem get50 (w : World) : (ctxW w).funcs.get 50 = some ir50 := by kernel_rfl
theorem get51 (w : World) : (ctxW w).funcs.get 51 = some ir51 := by kernel_rfl
theorem get52 (w : World) : (ctxW w).funcs.get 52 = some ir52 := by kernel_rfl
theorem get55 (w : World) : (ctxW w).funcs.get 55 = some ir55 := by kernel_rfl
theorem get56 (w : World) : (ctxW w).funcs.get 56 = some ir56 := by kernel_rfl
theorem get61 (w : World) : (ctxW w).funcs.get 61 = some ir61 := by kernel_rfl
theorem get70 (w : World) : (ctxW w).funcs.get 70 = some ir70 := by kernel_rfl
theorem get71 (w : World) : (ctxW w).funcs.get 71 = some ir71 := by kernel_rfl
end Go.Ai.Wire
