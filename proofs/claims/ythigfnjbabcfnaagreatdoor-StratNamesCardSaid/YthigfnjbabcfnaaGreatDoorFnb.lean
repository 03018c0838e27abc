/-
  Functions in their own form, part 2.
  The table of the functions.
-/
import Derived.Test.YthigfnjbabcfnaaGreatDoorAkG
import Derived.Test.YthigfnjbabcfnaaGreatDoorFna
namespace Go.St
open Go.Ak Go.Ak.S
set_option maxRecDepth 100000

def ir108 : IFunc := ⟨[.cellN 4 3],
(s (r [o 2 (.box 5 (t 0)),
o 3 (.box 5 (t 1)),
o 4 (.mk 69 [(.slice none 0 0),(.slice none 0 0),(.bool false)])])
(s (s (r [p 10 0 3,
l 11 10])
(b 0 (s (r [o 13 (N .eql (t 11) (c (.int .u8 1))),
a 12 13])
(w (t 12) (s (r [p 14 1 3,
l 15 14,
o 16 (.call (f 152) [(t 15)]),
o 17 (.call (f 151) [(t 16)]),
q (.store 3 (t 4) (t 17))])
z)
(s (r [o 19 (N .eql (t 11) (c (.int .u8 15))),
a 18 19])
(w (t 18) (s (r [p 20 4 2,
l 21 20,
p 22 3 3,
l 23 22,
o 24 (.lookup (.sc .num) (.int .i64 0) false (t 21) (t 23)),
o 25 (.call (f 152) [(t 24)]),
o 26 (.call (f 151) [(t 25)]),
q (.store 3 (t 4) (t 26))])
z)
(s (r [o 28 (N .eql (t 11) (c (.int .u8 12))),
a 27 28])
(w (t 27) (s (r [p 29 1 3,
l 30 29,
o 31 (N .sub (i (-2)) (t 30)),
o 32 (.call (f 152) [(t 31)]),
o 33 (.call (f 151) [(t 32)]),
q (.store 3 (t 4) (t 33))])
z)
(s (r [o 35 (N .eql (t 11) (c (.int .u8 14))),
a 34 35])
(w (t 34) (s (r [o 36 (.call (f 52) []),
o 37 (.build [(.slice none 0 0),(.slice none 0 0),(.bool false)] [(0,2,(t 36)),(2,1,y)]),
q (.store 3 (t 4) (t 37))])
z)
(s (r [o 39 (N .eql (t 11) (c (.int .u8 10))),
a 38 39])
(w (t 38) (s (r [o 40 (.loadN 5 (t 2)),
o 41 (.loadN 5 (t 3)),
o 42 (.call (f 153) [(t 40),(t 41)]),
q (.store 3 (t 4) (t 42))])
z)
(s (s (r [o 44 (N .eql (t 11) (c (.int .u8 3))),
a 43 44])
(w (t 43) k
(r [o 45 (N .eql (t 11) (c (.int .u8 2))),
a 43 45])))
(w (t 43) (s (r [o 46 (.loadN 5 (t 2)),
o 47 (.loadN 5 (t 3)),
o 48 (.call (f 154) [(t 46),(t 47)]),
q (.store 3 (t 4) (t 48))])
z)
k))))))))))))))
(s (r [o 5 (.mv (c (.slice none 0 0)))])
(s (r [o 6 (.mv y)])
(s (s (r [p 49 4 3,
l 50 49,
o 51 (.len (t 50)),
o 52 (.mv (i 0))])
(b 1 (lo (s (r [o 53 (N .lss (t 52) (t 51))])
(s (w (t 53) k
(e 1))
(s (b 2 (s (r [o 54 (.idxS 5 (t 50) (t 52)),
o 55 (.loadN 5 (t 54)),
o 8 (.mk 37 [(.int .u8 0),(.int .i64 0),(.int .i64 0),(.int .i64 0),(.slice none 0 0)]),
q (.store 5 (t 8) (t 55))])
(s (r [o 56 (.loadN 5 (t 2)),
o 57 (.loadN 5 (t 8)),
o 58 (.call (f 108) [(t 56),(t 57)]),
o 9 (.mk 69 [(.slice none 0 0),(.slice none 0 0),(.bool false)]),
q (.store 3 (t 9) (t 58))])
(d [u 0 (a 59 5) [],
u 1 (o 60 (.loadN 3 (t 9))) [],
u 2 (o 61 (.buildSlice 1 [(.slice none 0 0),(.slice none 0 0),(.bool false)] [(0,3,(t 60))])) [],
u 3 (o 62 (.append 69 3 56 (t 59) (t 61))) [],
u 4 (a 63 6) [],
u 5 (a 64 63) [],
u 6 (g 65 64 true (.faddr 2 (t 9))) [],
u 7 (g 66 64 true (.load1 (t 65))) [],
u 8 (o 67 (.pick (t 64) (t 66) n)) [],
u 9 (a 5 62) [],
u 10 (a 6 67) []]))))
(r [o 68 (N .add (t 52) (i 1)),
a 52 68])))))))
(s (s (r [a 69 6,
o 70 (.not (t 69))])
(w (t 70) (s (r [o 71 (.build [(.slice none 0 0),(.slice none 0 0),(.bool false)] []),
q (.store 3 (t 4) (t 71))])
z)
k))
(s (d [u 0 (o 72 (.call (f 155) [])) [],
u 1 (p 73 0 3) [],
u 2 (l 74 73) [1],
u 3 (o 75 (.lookup (.sc .num) .nilFunc false (t 72) (t 74))) [],
u 4 (o 76 (.loadN 5 (t 2))) [0,1,3],
u 5 (o 77 (.loadN 5 (t 3))) [0,1,2,4],
u 6 (a 78 5) [],
u 7 (o 79 (.call (t 75) [(t 76),(t 77),(t 78)])) [],
u 8 (q (.store 3 (t 4) (t 79))) []])
z)))))))⟩

def ir110 : IFunc := ⟨[.cellN 6 5],
(s (r [o 3 (.box 5 (t 0)),
o 6 (.mk 72 [(.slice none 0 0),(.bool false),(.int .i64 0),(.bool false),(.map none)])])
(s (r [o 13 (.loadN 5 (t 3)),
a 14 1,
o 15 (.build [(.bool false),(.int .i64 0)] [(1,1,(t 14))]),
o 16 (.call (f 157) [(t 13),(t 15)]),
a 12 16,
o 17 (.extract 0 (t 12)),
o 18 (.extract 1 (t 12)),
o 7 (.mk 72 [(.slice none 0 0),(.bool false),(.int .i64 0),(.bool false),(.map none)]),
q (.store 5 (t 7) (t 17)),
a 8 18])
(s (r [o 19 (.mkmap),
a 20 8,
a 21 2,
q (.insert (.sc .num) (t 19) (t 20) (t 21)),
a 22 19,
a 9 22])
(s (s (r [p 23 4 3,
l 24 23,
o 25 (.mrange (t 24))])
(b 0 (lo (s (r [o 26 (.mnext (t 25)),
o 27 (.extract 0 (t 26))])
(s (w (t 27) k
(e 0))
(b 1 (s (r [o 28 (.bad),
o 29 (.extract 0 (t 28)),
o 30 (.extract 1 (t 28)),
a 10 29,
a 11 30])
(r [a 31 9,
a 32 10,
a 33 11,
q (.insert (.sc .num) (t 31) (t 32) (t 33))]))))))))
(s (r [a 34 9,
p 35 4 7,
q (.store 1 (t 35) (t 34))])
(s (r [o 36 (.loadN 5 (t 7)),
q (.store 5 (t 6) (t 36))])
z))))))⟩

def ir111 : IFunc := ⟨[.tmp 4],
(s (r [o 2 (.box 4 (t 0)),
o 3 (.box 4 (t 1)),
o 4 (.mv n)])
(s (d [u 0 (p 5 0 2) [],
u 1 (l 6 5) [],
u 2 (p 7 0 3) [],
u 3 (l 8 7) [1],
u 4 (o 9 (.call (f 159) [(t 6),(t 8)])) [],
u 5 (p 10 1 2) [],
u 6 (l 11 10) [1,2,4],
u 7 (p 12 1 3) [],
u 8 (l 13 12) [1,3,4,6],
u 9 (o 14 (.call (f 159) [(t 11),(t 13)])) [],
u 10 (p 15 2 2) [],
u 11 (l 16 15) [1,2,4,6,7,9],
u 12 (p 17 2 3) [],
u 13 (l 18 17) [1,3,4,6,8,9,11],
u 14 (o 19 (.call (f 160) [(t 16),(t 18)])) [],
u 15 (p 20 3 2) [],
u 16 (l 21 20) [1,2,4,6,7,9,11,12,14],
u 17 (p 22 3 3) [],
u 18 (l 23 22) [1,3,4,6,8,9,11,13,14,16],
u 19 (o 24 (.call (f 159) [(t 21),(t 23)])) [],
u 20 (o 25 (.buildSlice 4 [(.int .i64 0),(.int .i64 0),(.int .i64 0),(.int .i64 0)] [(0,1,(t 9)),(1,1,(t 14)),(2,1,(t 19)),(3,1,(t 24))])) [],
u 21 (o 26 (.call (f 158) [(t 25)])) [],
u 22 (o 27 (N .lss (t 26) (i 0))) [],
u 23 (a 4 27) []])
z))⟩

def ir112 : IFunc := ⟨[.tmp 2],
(s (r [o 1 (.box 2 (t 0)),
o 2 (.mv (i 0))])
(s (s (r [p 5 0 1,
l 6 5,
o 7 (.len (t 6)),
o 8 (.mv (i 0))])
(b 0 (lo (s (r [o 9 (N .lss (t 8) (t 7))])
(s (w (t 9) k
(e 0))
(s (b 1 (s (r [o 10 (.idxS 1 (t 6) (t 8)),
l 11 10,
a 4 11])
(r [a 12 2,
a 13 4,
o 14 (.len (t 13)),
o 15 (N .add (t 12) (t 14)),
a 2 15])))
(r [o 16 (N .add (t 8) (i 1)),
a 8 16])))))))
(s (r [a 17 2,
a 2 17])
z)))⟩

def ir113 : IFunc := ⟨[.tmp 3],
(s (r [o 2 (.box 5 (t 0)),
o 3 (.mv n)])
(s (r [p 4 4 2,
l 5 4,
o 6 (N .lss (t 5) (i 0)),
a 7 6,
g 8 7 false (.faddr 4 (t 2)),
g 9 7 false (.load1 (t 8)),
g 10 7 false (.faddr 0 (t 1)),
g 11 7 false (.load1 (t 10)),
g 12 7 false (.len (t 11)),
g 13 7 false (N .geq (t 9) (t 12)),
o 14 (.pick (t 7) y (t 13)),
a 3 14])
z))⟩

def ir114 : IFunc := ⟨[.tmp 3],
(s (r [o 3 (.mv n)])
(s (r [a 4 0,
l 5 1,
o 6 (.call (f 74) [(t 4),(t 5)]),
a 3 6])
z))⟩

def ir115 : IFunc := ⟨[.tmp 4],
(s (r [o 4 (.mv (i 0))])
(s (s (r [a 6 0,
o 7 (.len (t 6)),
o 8 (.mv (i 0))])
(b 0 (lo (s (r [o 9 (N .lss (t 8) (t 7))])
(s (w (t 9) k
(e 0))
(s (b 1 (s (r [a 10 8,
a 5 10])
(s (r [a 11 1,
a 12 0,
a 13 5,
o 14 (.idxS 1 (t 12) (t 13)),
l 15 14,
o 16 (.call (t 11) [(t 15)])])
(w (t 16) (s (r [a 17 5,
a 4 17])
z)
k))))
(r [o 18 (N .add (t 8) (i 1)),
a 8 18])))))))
(s (r [o 4 (.mv (i (-1)))])
z)))⟩

def ir116 : IFunc := ⟨[.tmp 4],
(s (r [o 4 (.mv n)])
(s (s (r [a 6 0,
o 7 (.len (t 6)),
a 8 1,
o 9 (.len (t 8)),
o 10 (N .neq (t 7) (t 9))])
(w (t 10) (s (r [o 4 (.mv n)])
z)
k))
(s (s (r [a 11 0,
o 12 (.len (t 11)),
o 13 (.mv (i 0))])
(b 0 (lo (s (r [o 14 (N .lss (t 13) (t 12))])
(s (w (t 14) k
(e 0))
(s (b 1 (s (r [a 15 13,
a 5 15])
(s (d [u 0 (a 16 0) [],
u 1 (a 17 5) [],
u 2 (o 18 (.idxS 1 (t 16) (t 17))) [],
u 3 (l 19 18) [],
u 4 (a 20 1) [],
u 5 (a 21 5) [],
u 6 (o 22 (.idxS 1 (t 20) (t 21))) [],
u 7 (l 23 22) [3],
u 8 (o 24 (.bin .boo .neq (t 19) (t 23))) []])
(w (t 24) (s (r [o 4 (.mv n)])
z)
k))))
(r [o 25 (N .add (t 13) (i 1)),
a 13 25])))))))
(s (r [o 4 (.mv y)])
z))))⟩

def ir117 : IFunc := ⟨[.tmp 6],
(s (r [o 6 (.mv n)])
(s (s (r [a 10 0,
o 11 (.len (t 10)),
a 12 1,
o 13 (.len (t 12)),
o 14 (N .neq (t 11) (t 13))])
(w (t 14) (s (r [o 6 (.mv n)])
z)
k))
(s (s (r [a 15 0,
o 16 (.len (t 15)),
o 17 (.mv (i 0))])
(b 0 (lo (s (r [o 18 (N .lss (t 17) (t 16))])
(s (w (t 18) k
(e 0))
(s (b 1 (s (r [a 19 17,
o 20 (.idxS 1 (t 15) (t 17)),
l 21 20,
a 7 19,
a 8 21])
(s (r [a 22 1,
a 23 7,
o 24 (.idxS 1 (t 22) (t 23)),
l 25 24,
a 9 25])
(s (r [a 26 2,
a 27 8,
a 28 9,
o 29 (.call (t 26) [(t 27),(t 28)]),
o 30 (.not (t 29))])
(w (t 30) (s (r [o 6 (.mv n)])
z)
k)))))
(r [o 31 (N .add (t 17) (i 1)),
a 17 31])))))))
(s (r [o 6 (.mv y)])
z))))⟩

def ir118 : IFunc := ⟨[.tmp 4],
(s (r [o 4 (.mv n)])
(s (s (r [a 6 0,
o 7 (.len (t 6)),
a 8 1,
o 9 (.len (t 8)),
o 10 (N .neq (t 7) (t 9))])
(w (t 10) (s (r [o 4 (.mv n)])
z)
k))
(s (s (r [a 11 0,
o 12 (.len (t 11)),
o 13 (.mv (i 0))])
(b 0 (lo (s (r [o 14 (N .lss (t 13) (t 12))])
(s (w (t 14) k
(e 0))
(s (b 1 (s (r [a 15 13,
a 5 15])
(s (d [u 0 (a 16 0) [],
u 1 (a 17 5) [],
u 2 (o 18 (.idxS 5 (t 16) (t 17))) [],
u 3 (o 19 (.loadN 5 (t 18))) [],
u 4 (a 20 1) [],
u 5 (a 21 5) [],
u 6 (o 22 (.idxS 5 (t 20) (t 21))) [],
u 7 (o 23 (.loadN 5 (t 22))) [3],
u 8 (o 24 (.eqF (.ag [(0,.num),(1,.num),(2,.num),(3,.num),(4,.num)]) true (t 19) (t 23))) []])
(w (t 24) (s (r [o 4 (.mv n)])
z)
k))))
(r [o 25 (N .add (t 13) (i 1)),
a 13 25])))))))
(s (r [o 4 (.mv y)])
z))))⟩

def ir119 : IFunc := ⟨[.tmp 2],
(s (r [o 1 (.box 2 (t 0)),
o 2 (.mv (c (.slice none 0 0)))])
(s (r [p 15 0 1,
l 16 15,
o 17 (.len (t 16)),
o 18 (.mkSlice 24 [(.slice none 0 0)] (t 17) (t 17)),
a 3 18])
(s (s (r [p 19 0 1,
l 20 19,
o 21 (.len (t 20)),
o 22 (.mv (i 0))])
(b 0 (lo (s (r [o 23 (N .lss (t 22) (t 21))])
(s (w (t 23) k
(e 0))
(s (b 1 (s (r [a 24 22,
o 25 (.idxS 1 (t 20) (t 22)),
l 26 25,
a 4 24,
a 5 26])
(s (r [a 27 5,
o 28 (.len (t 27)),
o 29 (.mv (i 0))])
(b 2 (lo (s (r [o 30 (N .lss (t 29) (t 28))])
(s (w (t 30) k
(e 2))
(s (b 3 (s (r [o 31 (.idxS 5 (t 27) (t 29)),
o 32 (.loadN 5 (t 31)),
o 7 (.mk 97 [(.int .i64 0),(.int .i64 0),(.int .u8 0),(.int .i64 0),(.int .i64 0)]),
q (.store 5 (t 7) (t 32))])
(d [u 0 (a 33 3) [],
u 1 (p 34 4 7) [],
u 2 (l 35 34) [],
u 3 (a 36 3) [],
u 4 (p 37 4 7) [],
u 5 (l 38 37) [2],
u 6 (o 39 (.idxS 1 (t 36) (t 38))) [],
u 7 (l 40 39) [4],
u 8 (a 41 4) [],
u 9 (o 42 (.buildSlice 1 [(.int .i64 0)] [(0,1,(t 41))])) [1,3,6],
u 10 (o 43 (.append 3 1 8 (t 40) (t 42))) [7],
u 11 (o 44 (.idxS 1 (t 33) (t 35))) [],
u 12 (q (.store 1 (t 44) (t 43))) []])))
(r [o 45 (N .add (t 29) (i 1)),
a 29 45])))))))))
(r [o 46 (N .add (t 22) (i 1)),
a 22 46])))))))
(s (r [p 47 1 1,
l 48 47,
o 49 (.call (f 125) [(t 48)]),
a 8 49])
(s (r [o 9 (.mv (c (.slice none 0 0)))])
(s (s (r [a 50 8,
o 51 (.len (t 50)),
o 52 (.mv (i 0))])
(b 4 (lo (s (r [o 53 (N .lss (t 52) (t 51))])
(s (w (t 53) k
(e 4))
(s (b 5 (s (r [a 54 52,
o 55 (.idxS 1 (t 50) (t 52)),
l 56 55,
a 10 54,
a 11 56])
(s (r [a 57 11])
(w (t 57) (r [a 58 9,
a 59 10,
o 60 (.buildSlice 1 [(.int .i64 0)] [(0,1,(t 59))]),
o 61 (.append 3 1 8 (t 58) (t 60)),
a 9 61])
k))))
(r [o 62 (N .add (t 52) (i 1)),
a 52 62])))))))
(s (b 6 (lo (s (s (r [a 63 9,
o 64 (.len (t 63)),
o 65 (N .gtr (t 64) (i 0))])
(w (t 65) k
(e 6)))
(b 7 (s (r [a 66 9,
a 67 9,
o 68 (.len (t 67)),
o 69 (N .sub (t 68) (i 1)),
o 70 (.idxS 1 (t 66) (t 69)),
l 71 70,
a 12 71])
(s (r [a 72 9,
a 73 9,
o 74 (.len (t 73)),
o 75 (N .sub (t 74) (i 1)),
o 76 (.sliceS 1 (t 72) none (some (t 75)) none),
a 9 76])
(s (r [a 77 3,
a 78 12,
o 79 (.idxS 1 (t 77) (t 78)),
l 80 79,
o 81 (.len (t 80)),
o 82 (.mv (i 0))])
(b 8 (lo (s (r [o 83 (N .lss (t 82) (t 81))])
(s (w (t 83) k
(e 8))
(s (b 9 (s (r [o 84 (.idxS 1 (t 80) (t 82)),
l 85 84,
a 14 85])
(s (r [a 86 8,
a 87 14,
o 88 (.idxS 1 (t 86) (t 87)),
l 89 88,
o 90 (.not (t 89))])
(w (t 90) (s (r [a 91 8,
a 92 14,
o 93 (.idxS 1 (t 91) (t 92)),
q (.store 1 (t 93) y)])
(r [a 94 9,
a 95 14,
o 96 (.buildSlice 1 [(.int .i64 0)] [(0,1,(t 95))]),
o 97 (.append 3 1 8 (t 94) (t 96)),
a 9 97]))
k))))
(r [o 98 (N .add (t 82) (i 1)),
a 82 98])))))))))))))
(s (r [a 99 8,
a 2 99])
z))))))))⟩

def ir121 : IFunc := ⟨[.tmp 4],
(s (r [o 4 (.mv (c (.slice none 0 0)))])
(s (r [a 8 0,
a 9 1,
o 10 (.call (f 127) [(t 8),(t 9)]),
a 5 10])
(s (s (r [a 11 5,
o 12 (N .eql (t 11) (i (-1)))])
(w (t 12) (s (r [a 13 0,
a 4 13])
z)
k))
(s (s (r [a 14 5,
o 15 (N .add (t 14) (i 1)),
a 6 15])
(b 0 (lo (s (s (r [a 16 6,
a 17 0,
o 18 (.len (t 17)),
o 19 (N .lss (t 16) (t 18))])
(w (t 19) k
(e 0)))
(s (b 1 (s (r [a 22 0,
a 23 6,
o 24 (.idxS 5 (t 22) (t 23)),
o 25 (.loadN 5 (t 24)),
o 7 (.mk 97 [(.int .i64 0),(.int .i64 0),(.int .u8 0),(.int .i64 0),(.int .i64 0)]),
q (.store 5 (t 7) (t 25))])
(s (r [a 26 1,
o 27 (.loadN 5 (t 7)),
o 28 (.call (t 26) [(t 27)]),
o 29 (.not (t 28))])
(w (t 29) (s (r [a 30 0,
a 31 5,
o 32 (.loadN 5 (t 7)),
o 33 (.idxS 5 (t 30) (t 31)),
q (.store 5 (t 33) (t 32))])
(r [a 34 5,
o 35 (N .add (t 34) (i 1)),
a 5 35]))
k))))
(r [a 20 6,
o 21 (N .add (t 20) (i 1)),
a 6 21]))))))
(s (r [a 36 0,
a 37 5,
o 38 (.sliceS 5 (t 36) (some (t 37)) none none),
q (.clear [(.int .i64 0),(.int .i64 0),(.int .u8 0),(.int .i64 0),(.int .i64 0)] (t 38))])
(s (r [a 39 0,
a 40 5,
o 41 (.sliceS 5 (t 39) none (some (t 40)) none),
a 4 41])
z))))))⟩

def ir122 : IFunc := ⟨[.tmp 3],
(s (r [o 2 (.box 5 (t 0)),
o 3 (.mv n)])
(s (r [l 4 1,
p 5 4 2,
l 6 5,
o 7 (.idxS 1 (t 4) (t 6)),
l 8 7,
o 9 (.not (t 8)),
a 3 9])
z))⟩

def ir123 : IFunc := ⟨[.tmp 2],
(s (r [o 1 (.box 2 (t 0)),
o 2 (.mv (c (.slice none 0 0)))])
(s (r [p 8 0 1,
l 9 8,
o 10 (.len (t 9)),
o 11 (.mkSlice 8 [(.int .i64 0)] (t 10) (t 10)),
a 3 11])
(s (r [o 4 (.mv (i 0))])
(b 0 (lo (b 1 (s (r [o 12 (.mkmap),
a 5 12])
(s (r [a 13 3,
o 14 (.len (t 13)),
o 15 (.mkSlice 8 [(.int .i64 0)] (t 14) (t 14)),
a 6 15])
(s (s (r [a 16 3,
o 17 (.len (t 16)),
o 18 (.mv (i 0))])
(b 2 (lo (s (r [o 19 (N .lss (t 18) (t 17))])
(s (w (t 19) k
(e 2))
(s (b 3 (s (r [a 20 18,
a 7 20])
(d [u 3 (a 24 3) [],
u 4 (a 25 7) [],
u 5 (o 26 (.idxS 1 (t 24) (t 25))) [],
u 6 (l 27 26) [],
u 7 (o 28 (.call (f 161) [(t 27)])) [],
u 9 (o 30 (.loadN 2 (t 1))) [0,1],
u 10 (a 31 7) [],
u 11 (a 32 3) [],
u 12 (o 33 (.call (f 131) [(t 30),(t 31),(t 32)])) [],
u 2 (a 23 5) [],
u 8 (o 29 (.bin .str .add (t 28) (c (.string ⟨#[32]⟩)))) [],
u 13 (o 34 (.bin .str .add (t 29) (t 33))) [],
u 14 (o 35 (.call (f 130) [(t 23),(t 34)])) [],
u 0 (a 21 6) [],
u 1 (a 22 7) [],
u 15 (o 36 (.idxS 1 (t 21) (t 22))) [],
u 16 (q (.store 1 (t 36) (t 35))) []])))
(r [o 37 (N .add (t 18) (i 1)),
a 18 37])))))))
(s (r [a 38 6,
a 3 38])
(s (s (r [a 39 5,
o 40 (.lenM (t 39)),
a 41 4,
o 42 (N .eql (t 40) (t 41))])
(w (t 42) (s (r [a 43 3,
a 2 43])
z)
k))
(r [a 44 5,
o 45 (.lenM (t 44)),
a 4 45]))))))))))))⟩

def ir124 : IFunc := ⟨[.cellN 4 2],
(s (r [o 2 (.box 2 (t 0)),
o 3 (.box 1 (t 1)),
o 4 (.mk 31 [(.slice none 0 0),(.slice none 0 0)])])
(s (r [o 12 (.mkmap),
o 5 (.mk 70 [(.map none)]),
q (.store 1 (t 5) (t 12))])
(s (r [o 6 (.mk 61 [(.slice none 0 0)])])
(s (r [o 13 (.mkfn (.func 162) [] [(t 5),(t 3),(t 6)]),
a 7 13])
(s (r [a 14 7,
o 15 (.call (t 14) [(i 0)])])
(s (s (r [o 8 (.mv (i 0))])
(b 0 (lo (s (s (r [a 16 8,
l 17 6,
o 18 (.len (t 17)),
o 19 (N .lss (t 16) (t 18))])
(w (t 19) k
(e 0)))
(s (b 1 (s (r [o 9 (.mv (c (.slice none 0 0)))])
(s (s (d [u 0 (p 22 0 2) [],
u 1 (l 23 22) [],
u 2 (l 24 6) [0],
u 3 (a 25 8) [],
u 4 (o 26 (.idxS 1 (t 24) (t 25))) [],
u 5 (l 27 26) [3],
u 6 (o 28 (.idxS 1 (t 23) (t 27))) [],
u 7 (l 29 28) [],
u 8 (o 30 (.len (t 29))) [],
u 9 (o 31 (.mv (i 0))) []])
(b 2 (lo (s (r [o 32 (N .lss (t 31) (t 30))])
(s (w (t 32) k
(e 2))
(s (b 3 (s (r [o 33 (.idxS 5 (t 29) (t 31)),
o 34 (.loadN 5 (t 33)),
o 11 (.mk 97 [(.int .i64 0),(.int .i64 0),(.int .u8 0),(.int .i64 0),(.int .i64 0)]),
q (.store 5 (t 11) (t 34))])
(d [u 3 (a 38 7) [],
u 4 (p 39 4 11) [],
u 5 (l 40 39) [],
u 6 (o 41 (.call (t 38) [(t 40)])) [],
u 0 (a 35 9) [],
u 1 (p 36 0 11) [],
u 2 (o 37 (.loadN 4 (t 36))) [2,3],
u 7 (o 42 (.build [(.int .i64 0),(.int .i64 0),(.int .u8 0),(.int .i64 0),(.int .i64 0)] [(0,4,(t 37)),(4,1,(t 41))])) [],
u 8 (o 43 (.buildSlice 1 [(.int .i64 0),(.int .i64 0),(.int .u8 0),(.int .i64 0),(.int .i64 0)] [(0,5,(t 42))])) [],
u 9 (o 44 (.append 97 5 40 (t 35) (t 43))) [],
u 10 (a 9 44) []])))
(r [o 45 (N .add (t 31) (i 1)),
a 31 45])))))))
(d [u 0 (p 46 0 4) [],
u 1 (l 47 46) [],
u 2 (a 48 9) [],
u 3 (o 49 (.buildSlice 1 [(.slice none 0 0)] [(0,1,(t 48))])) [1],
u 4 (o 50 (.append 93 1 24 (t 47) (t 49))) [],
u 5 (p 51 1 4) [],
u 6 (l 52 51) [1,2,4],
u 7 (p 53 1 2) [],
u 8 (l 54 53) [1,3,4,6],
u 9 (l 55 6) [0,2,4,5,7],
u 10 (a 56 8) [],
u 11 (o 57 (.idxS 1 (t 55) (t 56))) [],
u 12 (l 58 57) [3,5,7,8,10],
u 13 (o 59 (.idxS 1 (t 54) (t 58))) [],
u 14 (l 60 59) [7,9,10,12],
u 15 (o 61 (.buildSlice 1 [(.bool false)] [(0,1,(t 60))])) [8,10,11,13],
u 16 (o 62 (.append 4 1 1 (t 52) (t 61))) [],
u 17 (p 63 0 4) [],
u 18 (q (.store 1 (t 63) (t 50))) [],
u 19 (p 64 1 4) [],
u 20 (q (.store 1 (t 64) (t 62))) []]))))
(r [a 20 8,
o 21 (N .add (t 20) (i 1)),
a 8 21]))))))
(s (r [o 65 (.loadN 2 (t 4)),
q (.store 2 (t 4) (t 65))])
z)))))))⟩

def ir125 : IFunc := ⟨[.tmp 2],
(s (r [o 2 (.mv (c (.slice none 0 0)))])
(s (s (r [a 3 0,
o 4 (.bin .slc .eql (t 3) (c (.slice none 0 0)))])
(w (t 4) (s (r [o 2 (.mv (c (.slice none 0 0)))])
z)
k))
(s (r [o 5 (.buildSlice 0 [] []),
a 6 0,
o 7 (.append 4 1 1 (t 5) (t 6)),
a 2 7])
z)))⟩

def ir126 : IFunc := ⟨[.tmp 2],
(s (r [o 2 (.mv (c (.slice none 0 0)))])
(s (s (r [a 3 0,
o 4 (.bin .slc .eql (t 3) (c (.slice none 0 0)))])
(w (t 4) (s (r [o 2 (.mv (c (.slice none 0 0)))])
z)
k))
(s (r [o 5 (.buildSlice 0 [] []),
a 6 0,
o 7 (.append 97 5 40 (t 5) (t 6)),
a 2 7])
z)))⟩

def ir127 : IFunc := ⟨[.tmp 4],
(s (r [o 4 (.mv (i 0))])
(s (s (r [a 6 0,
o 7 (.len (t 6)),
o 8 (.mv (i 0))])
(b 0 (lo (s (r [o 9 (N .lss (t 8) (t 7))])
(s (w (t 9) k
(e 0))
(s (b 1 (s (r [a 10 8,
a 5 10])
(s (r [a 11 1,
a 12 0,
a 13 5,
o 14 (.idxS 5 (t 12) (t 13)),
o 15 (.loadN 5 (t 14)),
o 16 (.call (t 11) [(t 15)])])
(w (t 16) (s (r [a 17 5,
a 4 17])
z)
k))))
(r [o 18 (N .add (t 8) (i 1)),
a 8 18])))))))
(s (r [o 4 (.mv (i (-1)))])
z)))⟩

def ir128 : IFunc := ⟨[.tmp 4],
(s (r [o 4 (.mv (c (.slice none 0 0)))])
(s (s (r [a 9 1,
o 10 (N .lss (t 9) (i 0))])
(w (t 10) (r [o 11 (.bad),
q (.bad)])
k))
(s (r [a 13 0,
o 14 (.len (t 13)),
o 15 (.conv .u64 (t 14)),
a 16 1,
o 17 (.conv .u64 (t 16)),
o 18 (.call (f 163) [(t 15),(t 17)]),
a 12 18,
o 19 (.extract 0 (t 12)),
o 20 (.extract 1 (t 12)),
a 5 19,
a 6 20])
(s (s (r [a 21 5,
o 22 (N .gtr (t 21) (c (.int .u64 0))),
a 23 22,
g 24 23 false (.mv (t 6)),
g 25 23 false (N .gtr (t 24) (c (.int .u64 9223372036854775807))),
o 26 (.pick (t 23) y (t 25))])
(w (t 26) (r [o 27 (.bad),
q (.bad)])
k))
(s (r [a 28 6,
o 29 (.conv .i64 (t 28)),
o 30 (.mkSlice 8 [(.int .i64 0)] (t 29) (t 29)),
a 7 30])
(s (r [a 31 7,
a 32 0,
o 33 (.copy 1 (t 31) (t 32)),
a 8 33])
(s (b 0 (lo (s (s (r [a 34 8,
a 35 7,
o 36 (.len (t 35)),
o 37 (N .lss (t 34) (t 36))])
(w (t 37) k
(e 0)))
(b 1 (d [u 0 (a 38 8) [],
u 1 (a 39 7) [],
u 2 (a 40 8) [],
u 3 (o 41 (.sliceS 1 (t 39) (some (t 40)) none none)) [],
u 4 (a 42 7) [],
u 5 (a 43 8) [],
u 6 (o 44 (.sliceS 1 (t 42) none (some (t 43)) none)) [2],
u 7 (o 45 (.copy 1 (t 41) (t 44))) [],
u 8 (o 46 (N .add (t 38) (t 45))) [],
u 9 (a 8 46) []])))))
(s (r [a 47 7,
a 4 47])
z))))))))⟩

def ir129 : IFunc := ⟨[],
(s (r [l 10 1,
a 11 0,
o 12 (.idxS 1 (t 10) (t 11)),
q (.store 1 (t 12) y)])
(s (s (r [p 13 0 2,
l 14 13,
a 15 0,
o 16 (.idxS 1 (t 14) (t 15)),
l 17 16,
o 18 (.len (t 17)),
o 19 (.mv (i 0))])
(b 0 (lo (s (r [o 20 (N .lss (t 19) (t 18))])
(s (w (t 20) k
(e 0))
(s (b 1 (s (r [o 21 (.idxS 5 (t 17) (t 19)),
o 22 (.loadN 5 (t 21)),
o 9 (.mk 97 [(.int .i64 0),(.int .i64 0),(.int .u8 0),(.int .i64 0),(.int .i64 0)]),
q (.store 5 (t 9) (t 22))])
(s (s (r [l 23 1,
p 24 4 9,
l 25 24,
o 26 (.idxS 1 (t 23) (t 25)),
l 27 26])
(w (t 27) (r [q (.store 1 (t 3) y)])
(s (r [l 28 4,
p 29 4 9,
l 30 29,
o 31 (.idxS 1 (t 28) (t 30)),
l 32 31,
o 33 (N .lss (t 32) (i 0))])
(w (t 33) (r [l 34 5,
p 35 4 9,
l 36 35,
o 37 (.call (t 34) [(t 36)])])
k))))
(s (r [l 38 3])
(w (t 38) z
k)))))
(r [o 39 (N .add (t 19) (i 1)),
a 19 39])))))))
(d [u 5 (o 45 (.loadN 2 (t 2))) [],
u 6 (a 46 0) [],
u 7 (l 47 4) [1],
u 8 (o 48 (.call (f 131) [(t 45),(t 46),(t 47)])) [],
u 4 (l 44 6) [0,1,3],
u 9 (o 49 (.call (f 130) [(t 44),(t 48)])) [],
u 0 (l 40 1) [0,1,2,3,5],
u 1 (a 41 0) [],
u 2 (l 42 4) [1,2,3,4,5,7],
u 3 (a 43 0) [],
u 10 (o 50 (.idxS 1 (t 40) (t 41))) [],
u 11 (q (.store 1 (t 50) n)) [2],
u 12 (o 51 (.idxS 1 (t 42) (t 43))) [],
u 13 (q (.store 1 (t 51) (t 49))) []])))⟩

def ir130 : IFunc := ⟨[.tmp 4],
(s (r [o 4 (.mv (i 0))])
(s (r [a 8 0,
a 9 1,
o 10 (.lookup (.sc .str) (.int .i64 0) true (t 8) (t 9)),
a 7 10,
o 11 (.extract 0 (t 7)),
o 12 (.extract 1 (t 7)),
a 5 11,
a 6 12])
(s (s (r [a 13 6,
o 14 (.not (t 13))])
(w (t 14) (s (r [a 15 0,
o 16 (.lenM (t 15)),
a 5 16])
(r [a 17 0,
a 18 1,
a 19 5,
q (.insert (.sc .str) (t 17) (t 18) (t 19))]))
k))
(s (r [a 20 5,
a 4 20])
z))))⟩

def ir131 : IFunc := ⟨[.tmp 6],
(s (r [o 3 (.box 2 (t 0)),
o 6 (.mv (c (.string ⟨#[]⟩)))])
(s (r [o 7 (.mk 238 [(.pointer none),(.slice none 0 0)])])
(s (r [p 12 1 3,
l 13 12,
a 14 1,
o 15 (.idxS 1 (t 13) (t 14)),
l 16 15,
o 17 (.call (f 165) [(t 16)]),
o 18 (.call (f 164) [(t 7),(t 17)])])
(s (s (r [p 19 0 3,
l 20 19,
a 21 1,
o 22 (.idxS 1 (t 20) (t 21)),
l 23 22,
o 24 (.len (t 23)),
o 25 (.mv (i 0))])
(b 0 (lo (s (r [o 26 (N .lss (t 25) (t 24))])
(s (w (t 26) k
(e 0))
(s (b 1 (s (r [o 27 (.idxS 5 (t 23) (t 25)),
o 28 (.loadN 5 (t 27)),
o 9 (.mk 97 [(.int .i64 0),(.int .i64 0),(.int .u8 0),(.int .i64 0),(.int .i64 0)]),
q (.store 5 (t 9) (t 28))])
(s (d [u 0 (p 29 0 9) [],
u 1 (p 30 0 29) [],
u 2 (l 31 30) [],
u 3 (p 32 0 9) [],
u 4 (p 33 1 32) [],
u 5 (l 34 33) [2],
u 6 (p 35 0 9) [],
u 7 (p 36 2 35) [],
u 8 (l 37 36) [2,5],
u 9 (o 38 (.conv .i64 (t 37))) [],
u 10 (p 39 0 9) [],
u 11 (p 40 3 39) [],
u 12 (l 41 40) [3,6,9],
u 13 (a 42 2) [],
u 14 (p 43 4 9) [],
u 15 (l 44 43) [2,6,9,12],
u 16 (o 45 (.idxS 1 (t 42) (t 44))) [],
u 17 (l 46 45) [4,8,11,14],
u 18 (o 47 (.buildSlice 5 [(.int .i64 0),(.int .i64 0),(.int .i64 0),(.int .i64 0),(.int .i64 0)] [(0,1,(t 31)),(1,1,(t 34)),(2,1,(t 38)),(3,1,(t 41)),(4,1,(t 46))])) [],
u 19 (o 48 (.len (t 47))) [],
u 20 (o 49 (.mv (i 0))) []])
(b 2 (lo (s (r [o 50 (N .lss (t 49) (t 48))])
(s (w (t 50) k
(e 2))
(s (b 3 (s (r [o 51 (.idxS 1 (t 47) (t 49)),
l 52 51,
a 11 52])
(s (r [o 53 (.call (f 166) [(t 7),(c (.int .u8 32))])])
(r [a 54 11,
o 55 (.call (f 161) [(t 54)]),
o 56 (.call (f 164) [(t 7),(t 55)])]))))
(r [o 57 (N .add (t 49) (i 1)),
a 49 57])))))))))
(r [o 58 (N .add (t 25) (i 1)),
a 25 58])))))))
(s (r [o 59 (.call (f 167) [(t 7)]),
a 6 59])
z)))))⟩

def ir132 : IFunc := ⟨[.tmp 2],
(s (r [o 1 (.box 3 (t 0)),
o 2 (.mv n)])
(s (s (r [o 3 (.mv (i 0))])
(b 0 (lo (s (s (r [a 4 3,
p 5 0 1,
l 6 5,
o 7 (.len (t 6)),
o 8 (N .lss (t 4) (t 7))])
(w (t 8) k
(e 0)))
(s (b 1 (s (r [p 11 0 1,
l 12 11,
a 13 3,
o 14 (.idxS 2 (t 12) (t 13)),
o 15 (.loadN 2 (t 14)),
o 16 (.call (f 133) [(t 15)]),
o 17 (.not (t 16))])
(w (t 17) (s (r [o 2 (.mv n)])
z)
k)))
(r [a 9 3,
o 10 (N .add (t 9) (i 1)),
a 3 10]))))))
(s (r [p 18 1 1,
o 19 (.loadN 2 (t 18)),
o 20 (.call (f 133) [(t 19)]),
a 21 20,
g 22 21 true (.faddr 0 (t 1)),
g 23 21 true (.load1 (t 22)),
g 24 21 true (.len (t 23)),
g 25 21 true (N .eql (t 24) (i 0)),
g 26 21 true (.mv (t 25)),
g 27 26 false (.faddr 1 (t 1)),
g 28 26 false (.faddr 0 (t 27)),
g 29 26 false (.load1 (t 28)),
g 30 26 false (.not (t 29)),
g 31 21 true (.pick (t 26) y (t 30)),
o 32 (.pick (t 21) (t 31) n),
a 2 32])
z)))⟩

def ir133 : IFunc := ⟨[.tmp 2],
(s (r [o 1 (.box 2 (t 0)),
o 2 (.mv n)])
(s (r [p 3 1 1,
l 4 3,
o 5 (.call (f 168) [(t 4),(i 1),(i 64)]),
a 2 5])
z))⟩

def ir134 : IFunc := ⟨[.tmp 10],
(s (r [o 5 (.box 2 (t 0)),
o 10 (.mv n)])
(s (s (d [u 0 (a 13 1) [],
u 1 (a 14 3) [],
u 2 (o 15 (.idxS 1 (t 13) (t 14))) [],
u 3 (l 16 15) [],
u 4 (a 17 1) [],
u 5 (a 18 4) [],
u 6 (o 19 (.idxS 1 (t 17) (t 18))) [],
u 7 (l 20 19) [3],
u 8 (o 21 (N .neq (t 16) (t 20))) []])
(w (t 21) (s (r [o 10 (.mv n)])
z)
k))
(s (r [p 22 0 5,
l 23 22,
o 24 (.build [(.slice none 0 0),(.slice none 0 0),(.slice none 0 0)] [(0,1,(t 23))]),
a 25 3,
a 26 4,
o 27 (.buildSlice 2 [(.int .i64 0),(.int .i64 0)] [(0,1,(t 25)),(1,1,(t 26))]),
o 28 (.call (f 85) [(t 24),(t 27)]),
a 11 28])
(s (s (r [o 12 (.mv (i 0))])
(b 0 (lo (s (s (r [a 29 12,
a 30 11,
o 31 (.len (t 30)),
o 32 (N .lss (t 29) (t 31))])
(w (t 32) k
(e 0)))
(s (b 1 (s (d [u 0 (o 35 (.loadN 2 (t 5))) [],
u 1 (a 36 1) [],
u 2 (a 37 2) [],
u 3 (a 38 3) [],
u 4 (a 39 11) [],
u 5 (a 40 12) [],
u 6 (o 41 (.idxS 4 (t 39) (t 40))) [],
u 7 (o 42 (.loadN 4 (t 41))) [6],
u 8 (o 43 (.call (f 169) [(t 35),(t 36),(t 37),(t 38),(t 42)])) [],
u 9 (o 44 (.loadN 2 (t 5))) [0,1,8],
u 10 (a 45 1) [],
u 11 (a 46 2) [],
u 12 (a 47 4) [],
u 13 (a 48 11) [],
u 14 (a 49 12) [],
u 15 (o 50 (.idxS 4 (t 48) (t 49))) [],
u 16 (o 51 (.loadN 4 (t 50))) [6,7,8,15],
u 17 (o 52 (.call (f 169) [(t 44),(t 45),(t 46),(t 47),(t 51)])) [],
u 18 (o 53 (N .neq (t 43) (t 52))) []])
(w (t 53) (s (r [o 10 (.mv n)])
z)
k)))
(r [a 33 12,
o 34 (N .add (t 33) (i 1)),
a 12 34]))))))
(s (r [o 10 (.mv y)])
z)))))⟩

def ir135 : IFunc := ⟨[.tmp 4],
(s (r [o 3 (.box 4 (t 1)),
o 4 (.mv (c (.slice none 0 0)))])
(s (r [o 5 (.mv (i 0))])
(s (b 0 (lo (s (s (d [u 0 (a 7 5) [],
u 1 (a 8 0) [],
u 2 (o 9 (.len (t 8))) [],
u 3 (o 10 (N .lss (t 7) (t 9))) [],
u 4 (a 11 10) [],
u 5 (g 12 11 true (.mv (t 0))) [],
u 6 (g 13 11 true (.mv (t 5))) [],
u 7 (g 14 11 true (.idxS 4 (t 12) (t 13))) [],
u 8 (g 15 11 true (.loadN 4 (t 14))) [],
u 9 (g 16 11 true (.loadN 4 (t 3))) [0],
u 10 (g 17 11 true (.call (f 170) [(t 15),(t 16)])) [],
u 11 (o 18 (.pick (t 11) (t 17) n)) []])
(w (t 18) k
(e 0)))
(b 1 (r [a 19 5,
o 20 (N .add (t 19) (i 1)),
a 5 20])))))
(s (s (d [u 0 (a 21 5) [],
u 1 (a 22 0) [],
u 2 (o 23 (.len (t 22))) [],
u 3 (o 24 (N .lss (t 21) (t 23))) [],
u 4 (a 25 24) [],
u 5 (g 26 25 true (.mv (t 0))) [],
u 6 (g 27 25 true (.mv (t 5))) [],
u 7 (g 28 25 true (.idxS 4 (t 26) (t 27))) [],
u 8 (g 29 25 true (.loadN 4 (t 28))) [],
u 9 (g 30 25 true (.loadN 4 (t 3))) [0],
u 10 (g 31 25 true (.eqF (.ag [(0,.num),(1,.num),(2,.num),(3,.num)]) false (t 29) (t 30))) [],
u 11 (o 32 (.pick (t 25) (t 31) n)) []])
(w (t 32) (s (r [a 33 0,
a 4 33])
z)
k))
(s (r [o 34 (.buildSlice 0 [] []),
a 35 0,
a 36 5,
o 37 (.sliceS 4 (t 35) none (some (t 36)) none),
o 38 (.append 95 4 32 (t 34) (t 37)),
a 6 38])
(s (d [u 0 (a 39 6) [],
u 1 (o 40 (.loadN 4 (t 3))) [],
u 2 (o 41 (.buildSlice 1 [(.int .i64 0),(.int .i64 0),(.int .u8 0),(.int .i64 0)] [(0,4,(t 40))])) [],
u 3 (o 42 (.append 95 4 32 (t 39) (t 41))) [],
u 4 (a 43 0) [],
u 5 (a 44 5) [],
u 6 (o 45 (.sliceS 4 (t 43) (some (t 44)) none none)) [2,3,4],
u 7 (o 46 (.append 95 4 32 (t 42) (t 45))) [],
u 8 (a 4 46) []])
z))))))⟩

def ir136 : IFunc := ⟨[.tmp 2],
(s (r [o 1 (.box 4 (t 0)),
o 2 (.mv (c (.string ⟨#[]⟩)))])
(s (r [p 4 0 1,
l 5 4,
o 6 (.call (f 89) [(t 5)]),
a 3 6])
(s (s (r [p 7 1 1,
l 8 7,
o 9 (N .gtr (t 8) (i 0))])
(w (t 9) (r [a 10 3,
p 11 1 1,
l 12 11,
o 13 (.call (f 89) [(t 12)]),
o 14 (.bin .str .add (c (.string ⟨#[46]⟩)) (t 13)),
o 15 (.bin .str .add (t 10) (t 14)),
a 3 15])
k))
(s (b 0 (s (r [p 17 2 1,
l 18 17,
o 19 (N .eql (t 18) (c (.int .u8 1))),
a 16 19])
(w (t 16) (s (r [a 20 3,
o 21 (.bin .str .add (t 20) (c (.string ⟨#[63]⟩))),
a 2 21])
z)
(s (r [p 23 2 1,
l 24 23,
o 25 (N .eql (t 24) (c (.int .u8 2))),
a 22 25])
(w (t 22) (s (r [a 26 3,
o 27 (.bin .str .add (t 26) (c (.string ⟨#[61]⟩))),
p 28 3 1,
l 29 28,
o 30 (.call (f 89) [(t 29)]),
o 31 (.bin .str .add (t 27) (t 30)),
a 2 31])
z)
(s (r [p 33 3 1,
l 34 33,
o 35 (N .eql (t 34) (i (-1))),
a 32 35])
(w (t 32) (s (r [a 36 3,
o 37 (.bin .str .add (t 36) (c (.string ⟨#[33,42]⟩))),
a 2 37])
z)
k)))))))
(s (r [a 38 3,
o 39 (.bin .str .add (t 38) (c (.string ⟨#[33]⟩))),
p 40 3 1,
l 41 40,
o 42 (.call (f 89) [(t 41)]),
o 43 (.bin .str .add (t 39) (t 42)),
a 2 43])
z)))))⟩

def ir137 : IFunc := ⟨[.tmp 2],
(s (r [o 1 (.box 2 (t 0)),
o 2 (.mv n)])
(s (s (r [p 5 0 1,
l 6 5,
o 7 (.len (t 6)),
o 8 (N .eql (t 7) (i 0)),
a 9 8,
g 10 9 false (.faddr 0 (t 1)),
g 11 9 false (.load1 (t 10)),
g 12 9 false (.len (t 11)),
g 13 9 false (.faddr 1 (t 1)),
g 14 9 false (.load1 (t 13)),
g 15 9 false (.len (t 14)),
g 16 9 false (N .neq (t 12) (t 15)),
o 17 (.pick (t 9) y (t 16))])
(w (t 17) (s (r [o 2 (.mv n)])
z)
k))
(s (s (r [o 3 (.mv (i 0))])
(b 0 (lo (s (s (r [a 18 3,
p 19 0 1,
l 20 19,
o 21 (.len (t 20)),
o 22 (N .lss (t 18) (t 21))])
(w (t 22) k
(e 0)))
(s (b 1 (s (r [o 4 (.mv (i 0))])
(b 2 (lo (s (s (r [a 25 4,
p 26 0 1,
l 27 26,
a 28 3,
o 29 (.idxS 1 (t 27) (t 28)),
l 30 29,
o 31 (.len (t 30)),
o 32 (N .lss (t 25) (t 31))])
(w (t 32) k
(e 2)))
(s (b 3 (s (d [u 0 (p 35 0 1) [],
u 1 (l 36 35) [],
u 2 (a 37 3) [],
u 3 (o 38 (.idxS 1 (t 36) (t 37))) [],
u 4 (l 39 38) [],
u 5 (a 40 4) [],
u 6 (o 41 (.idxS 5 (t 39) (t 40))) [],
u 7 (p 42 4 41) [],
u 8 (l 43 42) [],
u 9 (p 44 0 1) [],
u 10 (l 45 44) [1,5,8],
u 11 (o 46 (.len (t 45))) [],
u 12 (o 47 (N .sub (t 46) (i 1))) [],
u 13 (o 48 (.call (f 168) [(t 43),(i 0),(t 47)])) [],
u 14 (o 49 (.not (t 48))) []])
(w (t 49) (s (r [o 2 (.mv n)])
z)
k)))
(r [a 33 4,
o 34 (N .add (t 33) (i 1)),
a 4 34])))))))
(r [a 23 3,
o 24 (N .add (t 23) (i 1)),
a 3 24]))))))
(s (r [o 2 (.mv y)])
z))))⟩

def ir138 : IFunc := ⟨[.tmp 2],
(s (r [o 1 (.box 2 (t 0)),
o 2 (.mv n)])
(s (s (r [o 3 (.mv (i 0))])
(b 0 (lo (s (s (r [a 5 3,
p 6 0 1,
l 7 6,
o 8 (.len (t 7)),
o 9 (N .lss (t 5) (t 8))])
(w (t 9) k
(e 0)))
(s (b 1 (s (r [o 4 (.mv (i 1))])
(b 2 (lo (s (s (r [a 12 4,
p 13 0 1,
l 14 13,
a 15 3,
o 16 (.idxS 1 (t 14) (t 15)),
l 17 16,
o 18 (.len (t 17)),
o 19 (N .lss (t 12) (t 18))])
(w (t 19) k
(e 2)))
(s (b 3 (s (d [u 0 (p 22 0 1) [],
u 1 (l 23 22) [],
u 2 (a 24 3) [],
u 3 (o 25 (.idxS 1 (t 23) (t 24))) [],
u 4 (l 26 25) [],
u 5 (a 27 4) [],
u 6 (o 28 (N .sub (t 27) (i 1))) [],
u 7 (o 29 (.idxS 5 (t 26) (t 28))) [],
u 8 (p 30 0 29) [],
u 9 (o 31 (.loadN 4 (t 30))) [],
u 10 (p 32 0 1) [],
u 11 (l 33 32) [1,6,9],
u 12 (a 34 3) [],
u 13 (o 35 (.idxS 1 (t 33) (t 34))) [],
u 14 (l 36 35) [4,9,12],
u 15 (a 37 4) [],
u 16 (o 38 (.idxS 5 (t 36) (t 37))) [],
u 17 (p 39 0 38) [],
u 18 (o 40 (.loadN 4 (t 39))) [8,13,16],
u 19 (o 41 (.call (f 170) [(t 31),(t 40)])) [],
u 20 (o 42 (.not (t 41))) []])
(w (t 42) (s (r [o 2 (.mv n)])
z)
k)))
(r [a 20 4,
o 21 (N .add (t 20) (i 1)),
a 4 21])))))))
(r [a 10 3,
o 11 (N .add (t 10) (i 1)),
a 3 11]))))))
(s (r [o 2 (.mv y)])
z)))⟩

def ir139 : IFunc := ⟨[],
(s (r [o 8 (.mv y)])
(s (r [o 9 (.mv y)])
(b 0 (lo (b 1 (s (r [a 19 2,
a 20 1,
o 21 (N .sub (t 19) (t 20)),
a 10 21])
(s (s (r [a 22 10,
o 23 (N .leq (t 22) (i 12))])
(w (t 23) (s (r [a 24 0,
a 25 1,
a 26 2,
o 27 (.call (f 171) [(t 24),(t 25),(t 26)])])
z)
k))
(s (s (r [a 28 3,
o 29 (N .eql (t 28) (i 0))])
(w (t 29) (s (r [a 30 0,
a 31 1,
a 32 2,
o 33 (.call (f 172) [(t 30),(t 31),(t 32)])])
z)
k))
(s (s (r [a 34 8,
o 35 (.not (t 34))])
(w (t 35) (s (r [a 36 0,
a 37 1,
a 38 2,
o 39 (.call (f 173) [(t 36),(t 37),(t 38)])])
(r [a 40 3,
o 41 (N .sub (t 40) (i 1)),
a 3 41]))
k))
(s (r [a 43 0,
a 44 1,
a 45 2,
o 46 (.call (f 174) [(t 43),(t 44),(t 45)]),
a 42 46,
o 47 (.extract 0 (t 42)),
o 48 (.extract 1 (t 42)),
a 11 47,
a 12 48])
(s (s (r [a 49 12,
o 50 (N .eql (t 49) (i 2))])
(w (t 50) (s (r [a 51 0,
a 52 1,
a 53 2,
o 54 (.call (f 175) [(t 51),(t 52),(t 53)])])
(s (r [a 55 2,
o 56 (N .sub (t 55) (i 1)),
a 57 11,
a 58 1,
o 59 (N .sub (t 57) (t 58)),
o 60 (N .sub (t 56) (t 59)),
a 11 60])
(r [o 12 (.mv (i 1))])))
k))
(s (s (r [a 61 8,
a 62 61,
g 63 62 true (.mv (t 9)),
o 64 (.pick (t 62) (t 63) n),
a 65 64,
g 66 65 true (.mv (t 12)),
g 67 65 true (N .eql (t 66) (i 1)),
o 68 (.pick (t 65) (t 67) n)])
(w (t 68) (s (r [a 69 0,
a 70 1,
a 71 2,
o 72 (.call (f 176) [(t 69),(t 70),(t 71)])])
(w (t 72) z
k))
k))
(s (s (d [u 0 (a 73 1) [],
u 1 (o 74 (N .gtr (t 73) (i 0))) [],
u 2 (a 75 74) [],
u 3 (g 76 75 true (.mv (t 0))) [],
u 4 (g 77 75 true (.mv (t 1))) [],
u 5 (g 78 75 true (N .sub (t 77) (i 1))) [],
u 6 (g 79 75 true (.idxS 1 (t 76) (t 78))) [],
u 7 (g 80 75 true (.load1 (t 79))) [],
u 8 (g 81 75 true (.mv (t 0))) [],
u 9 (g 82 75 true (.mv (t 11))) [],
u 10 (g 83 75 true (.idxS 1 (t 81) (t 82))) [],
u 11 (g 84 75 true (.load1 (t 83))) [3],
u 12 (g 85 75 true (.call (f 177) [(t 80),(t 84)])) [],
u 13 (g 86 75 true (.not (t 85))) [],
u 14 (o 87 (.pick (t 75) (t 86) n)) []])
(w (t 87) (s (r [a 88 0,
a 89 1,
a 90 2,
a 91 11,
o 92 (.call (f 178) [(t 88),(t 89),(t 90),(t 91)]),
a 13 92])
(s (r [a 93 13,
a 1 93])
(e 1)))
k))
(s (r [a 95 0,
a 96 1,
a 97 2,
a 98 11,
o 99 (.call (f 179) [(t 95),(t 96),(t 97),(t 98)]),
a 94 99,
o 100 (.extract 0 (t 94)),
o 101 (.extract 1 (t 94)),
a 14 100,
a 15 101])
(s (r [a 102 15,
a 9 102])
(s (r [a 103 14,
a 104 1,
o 105 (N .sub (t 103) (t 104)),
a 106 2,
a 107 14,
o 108 (N .sub (t 106) (t 107)),
a 16 105,
a 17 108])
(s (r [a 109 10,
o 110 (N .quo (t 109) (i 8)),
a 18 110])
(s (r [a 111 16,
a 112 17,
o 113 (N .lss (t 111) (t 112))])
(w (t 113) (s (r [a 114 16,
a 115 18,
o 116 (N .geq (t 114) (t 115)),
a 8 116])
(s (r [a 117 0,
a 118 1,
a 119 14,
a 120 3,
o 121 (.call (f 139) [(t 117),(t 118),(t 119),(t 120)])])
(r [a 122 14,
o 123 (N .add (t 122) (i 1)),
a 1 123])))
(s (r [a 124 17,
a 125 18,
o 126 (N .geq (t 124) (t 125)),
a 8 126])
(s (r [a 127 0,
a 128 14,
o 129 (N .add (t 128) (i 1)),
a 130 2,
a 131 3,
o 132 (.call (f 139) [(t 127),(t 129),(t 130),(t 131)])])
(r [a 133 14,
a 2 133]))))))))))))))))))))))⟩

def ir140 : IFunc := ⟨[.tmp 2],
(s (r [o 2 (.mv (i 0))])
(s (w n (s (r [a 3 0,
o 4 (.conv .u32 (t 3)),
o 5 (.call (f 180) [(t 4)]),
a 2 5])
z)
k)
(s (r [a 6 0,
o 7 (.call (f 181) [(t 6)]),
a 2 7])
z)))⟩

def ir141 : IFunc := ⟨[.cellN 2 2,.tmp 3],
(s (r [o 2 (.mk 31 [(.slice none 0 0),(.slice none 0 0)]),
o 3 (.mv n)])
(s (r [o 14 (.mkmap),
o 4 (.mk 200 [(.map none)]),
q (.store 1 (t 4) (t 14))])
(s (r [o 5 (.mk 231 [(.slice none 0 0)])])
(s (r [o 15 (.mkfn (.func 182) [] [(t 4),(t 5)]),
a 6 15])
(s (r [a 16 0,
o 17 (.nilCheck (t 16)),
p 18 1 17,
l 19 18,
o 20 (.call (f 184) [(t 19)]),
a 7 20])
(s (r [a 21 7,
o 22 (.call (f 91) [(t 21)])])
(s (r [a 23 6,
a 24 7,
o 25 (.call (f 92) [(t 24)]),
o 26 (.call (t 23) [(t 25)])])
(s (s (r [o 8 (.mv (i 0))])
(b 0 (lo (s (s (r [a 27 8,
l 28 5,
o 29 (.len (t 28)),
o 30 (N .lss (t 27) (t 29))])
(w (t 30) k
(e 0)))
(s (b 1 (s (s (r [l 33 5,
o 34 (.len (t 33)),
o 35 (N .gtr (t 34) (i 2000))])
(w (t 35) (s (r [o 36 (.build [(.slice none 0 0),(.slice none 0 0)] []),
q (.store 2 (t 2) (t 36)),
o 3 (.mv n)])
z)
k))
(s (r [a 38 0,
l 39 5,
a 40 8,
o 41 (.idxS 1 (t 39) (t 40)),
l 42 41,
o 43 (.call (f 185) [(t 38),(t 42)]),
a 37 43,
o 44 (.extract 0 (t 37)),
o 45 (.extract 1 (t 37)),
a 9 44,
a 10 45])
(s (r [o 11 (.mv (c (.slice none 0 0)))])
(s (s (r [a 46 9,
o 47 (.len (t 46)),
o 48 (.mv (i 0))])
(b 2 (lo (s (r [o 49 (N .lss (t 48) (t 47))])
(s (w (t 49) k
(e 2))
(s (b 3 (s (r [o 50 (.idxS 5 (t 46) (t 48)),
o 51 (.loadN 5 (t 50)),
o 13 (.mk 264 [(.int .i64 0),(.int .i64 0),(.int .u8 0),(.int .i64 0),(.slice none 0 0)]),
q (.store 5 (t 13) (t 51))])
(d [u 3 (a 55 6) [],
u 4 (p 56 4 13) [],
u 5 (l 57 56) [],
u 6 (o 58 (.call (t 55) [(t 57)])) [],
u 0 (a 52 11) [],
u 1 (p 53 0 13) [],
u 2 (o 54 (.loadN 4 (t 53))) [2,3],
u 7 (o 59 (.build [(.int .i64 0),(.int .i64 0),(.int .u8 0),(.int .i64 0),(.int .i64 0)] [(0,4,(t 54)),(4,1,(t 58))])) [],
u 8 (o 60 (.buildSlice 1 [(.int .i64 0),(.int .i64 0),(.int .u8 0),(.int .i64 0),(.int .i64 0)] [(0,5,(t 59))])) [],
u 9 (o 61 (.append 97 5 40 (t 52) (t 60))) [],
u 10 (a 11 61) []])))
(r [o 62 (N .add (t 48) (i 1)),
a 48 62])))))))
(d [u 0 (p 63 0 2) [],
u 1 (l 64 63) [],
u 2 (a 65 11) [],
u 3 (o 66 (.buildSlice 1 [(.slice none 0 0)] [(0,1,(t 65))])) [1],
u 4 (o 67 (.append 93 1 24 (t 64) (t 66))) [],
u 5 (p 68 1 2) [],
u 6 (l 69 68) [1,2,4],
u 7 (a 70 10) [],
u 8 (o 71 (.buildSlice 1 [(.bool false)] [(0,1,(t 70))])) [1,3,4,6],
u 9 (o 72 (.append 4 1 1 (t 69) (t 71))) [],
u 10 (p 73 0 2) [],
u 11 (q (.store 1 (t 73) (t 67))) [],
u 12 (p 74 1 2) [],
u 13 (q (.store 1 (t 74) (t 72))) []]))))))
(r [a 31 8,
o 32 (N .add (t 31) (i 1)),
a 8 32]))))))
(s (r [o 75 (.loadN 2 (t 2)),
q (.store 2 (t 2) (t 75)),
o 3 (.mv y)])
z)))))))))⟩

def ir142 : IFunc := ⟨[.cellN 2 2],
(s (r [o 1 (.box 2 (t 0)),
o 2 (.mk 31 [(.slice none 0 0),(.slice none 0 0)])])
(s (r [o 13 (.loadN 2 (t 1)),
o 14 (.call (f 186) [(t 13)]),
a 3 14])
(s (s (r [a 15 3,
o 16 (.idxS 1 (t 15) (i 0)),
l 17 16,
o 18 (.not (t 17))])
(w (t 18) (s (r [o 19 (.call (f 52) []),
q (.store 2 (t 2) (t 19))])
z)
k))
(s (r [o 20 (.loadN 2 (t 1)),
a 21 3,
o 22 (.call (f 187) [(t 20),(t 21)]),
a 4 22])
(s (r [o 23 (.mkmap),
a 24 4,
o 25 (.idxS 1 (t 24) (i 0)),
l 26 25,
q (.insert (.sc .num) (t 23) (t 26) (i 0)),
a 27 23,
a 5 27])
(s (s (r [o 28 (.buildSlice 1 [(.int .i64 0)] [(0,1,(i 0))]),
a 6 28])
(b 0 (lo (s (s (r [a 29 6,
o 30 (.len (t 29)),
o 31 (N .gtr (t 30) (i 0))])
(w (t 31) k
(e 0)))
(s (b 1 (s (r [a 34 6,
o 35 (.idxS 1 (t 34) (i 0)),
l 36 35,
a 7 36])
(s (r [o 8 (.mv (c (.slice none 0 0)))])
(s (s (r [p 37 0 1,
l 38 37,
a 39 7,
o 40 (.idxS 1 (t 38) (t 39)),
l 41 40,
o 42 (.len (t 41)),
o 43 (.mv (i 0))])
(b 2 (lo (s (r [o 44 (N .lss (t 43) (t 42))])
(s (w (t 44) k
(e 2))
(s (b 3 (s (r [o 45 (.idxS 5 (t 41) (t 43)),
o 46 (.loadN 5 (t 45)),
o 10 (.mk 97 [(.int .i64 0),(.int .i64 0),(.int .u8 0),(.int .i64 0),(.int .i64 0)]),
q (.store 5 (t 10) (t 46))])
(s (s (r [a 47 3,
p 48 4 10,
l 49 48,
o 50 (.idxS 1 (t 47) (t 49)),
l 51 50,
o 52 (.not (t 51))])
(w (t 52) (e 3)
k))
(s (r [a 54 5,
a 55 4,
p 56 4 10,
l 57 56,
o 58 (.idxS 1 (t 55) (t 57)),
l 59 58,
o 60 (.lookup (.sc .num) (.int .i64 0) true (t 54) (t 59)),
a 53 60,
o 61 (.extract 0 (t 53)),
o 62 (.extract 1 (t 53)),
a 11 61,
a 12 62])
(s (s (r [a 63 12,
o 64 (.not (t 63))])
(w (t 64) (s (r [a 65 5,
o 66 (.lenM (t 65)),
a 11 66])
(s (r [a 67 5,
a 68 4,
p 69 4 10,
l 70 69,
o 71 (.idxS 1 (t 68) (t 70)),
l 72 71,
a 73 11,
q (.insert (.sc .num) (t 67) (t 72) (t 73))])
(r [a 74 6,
p 75 4 10,
l 76 75,
o 77 (.buildSlice 1 [(.int .i64 0)] [(0,1,(t 76))]),
o 78 (.append 3 1 8 (t 74) (t 77)),
a 6 78])))
k))
(r [a 79 8,
p 80 0 10,
o 81 (.loadN 4 (t 80)),
a 82 11,
o 83 (.build [(.int .i64 0),(.int .i64 0),(.int .u8 0),(.int .i64 0),(.int .i64 0)] [(0,4,(t 81)),(4,1,(t 82))]),
o 84 (.buildSlice 1 [(.int .i64 0),(.int .i64 0),(.int .u8 0),(.int .i64 0),(.int .i64 0)] [(0,5,(t 83))]),
o 85 (.append 97 5 40 (t 79) (t 84)),
a 8 85]))))))
(r [o 86 (N .add (t 43) (i 1)),
a 43 86])))))))
(d [u 0 (p 87 0 2) [],
u 1 (l 88 87) [],
u 2 (a 89 8) [],
u 3 (o 90 (.buildSlice 1 [(.slice none 0 0)] [(0,1,(t 89))])) [1],
u 4 (o 91 (.append 93 1 24 (t 88) (t 90))) [],
u 5 (p 92 1 2) [],
u 6 (l 93 92) [1,2,4],
u 7 (p 94 1 1) [],
u 8 (l 95 94) [1,3,4,6],
u 9 (a 96 7) [],
u 10 (o 97 (.idxS 1 (t 95) (t 96))) [],
u 11 (l 98 97) [4,6,7,9],
u 12 (o 99 (.buildSlice 1 [(.bool false)] [(0,1,(t 98))])) [5,7,8,10],
u 13 (o 100 (.append 4 1 1 (t 93) (t 99))) [],
u 14 (p 101 0 2) [],
u 15 (q (.store 1 (t 101) (t 91))) [],
u 16 (p 102 1 2) [],
u 17 (q (.store 1 (t 102) (t 100))) []])))))
(r [a 32 6,
o 33 (.sliceS 1 (t 32) (some (i 1)) none none),
a 6 33]))))))
(s (r [o 103 (.loadN 2 (t 2)),
q (.store 2 (t 2) (t 103))])
z)))))))⟩

def ir143 : IFunc := ⟨[.tmp 4],
(s (r [o 2 (.box 2 (t 0)),
o 4 (.mv (i 0))])
(s (s (r [o 6 (.loadN 2 (t 2)),
o 7 (.call (f 29) [(t 6)]),
a 5 7])
(s (r [a 8 5,
o 9 (N .neq (t 8) (i 0))])
(w (t 9) (s (r [a 10 5,
a 4 10])
z)
k)))
(s (s (r [a 11 1,
o 12 (.call (f 188) [(t 11)])])
(w (t 12) (s (r [o 4 (.mv (i 5))])
z)
k))
(s (r [o 4 (.mv (i 0))])
z))))⟩

def ir144 : IFunc := ⟨[.tmp 4],
(s (r [o 2 (.box 2 (t 0)),
o 4 (.mv (i 0))])
(s (r [o 5 (.mv (i 0))])
(s (s (r [a 8 1,
o 9 (.len (t 8)),
o 10 (.mv (i 0))])
(b 0 (lo (s (r [o 11 (N .lss (t 10) (t 9))])
(s (w (t 11) k
(e 0))
(s (b 1 (s (r [o 12 (.idxS 4 (t 8) (t 10)),
o 13 (.loadN 4 (t 12)),
o 7 (.mk 95 [(.int .i64 0),(.int .i64 0),(.int .u8 0),(.int .i64 0)]),
q (.store 4 (t 7) (t 13))])
(s (r [o 14 (.loadN 2 (t 2)),
a 15 5,
o 16 (.loadN 4 (t 7)),
o 17 (.call (f 189) [(t 14),(t 15),(t 16)]),
a 5 17])
(s (r [a 18 5,
o 19 (N .lss (t 18) (i 0))])
(w (t 19) (e 0)
k)))))
(r [o 20 (N .add (t 10) (i 1)),
a 10 20])))))))
(s (r [a 21 5,
a 4 21])
z))))⟩

def ir145 : IFunc := ⟨[.tmp 2],
(s (r [o 1 (.box 2 (t 0)),
o 2 (.mv n)])
(s (r [o 3 (.loadN 2 (t 1)),
o 4 (.call (f 103) [(t 3)]),
o 5 (.not (t 4)),
a 2 5])
z))⟩

def ir146 : IFunc := ⟨[.tmp 4],
(s (r [o 4 (.mv n)])
(s (r [a 5 0,
a 6 1,
o 7 (.call (f 190) [(t 5),(t 6)]),
o 8 (N .geq (t 7) (i 0)),
a 4 8])
z))⟩

def ir147 : IFunc := ⟨[.tmp 4],
(s (r [o 4 (.mv (i 0))])
(s (s (r [a 6 0,
o 7 (.len (t 6)),
o 8 (.mv (i 0))])
(b 0 (lo (s (r [o 9 (N .lss (t 8) (t 7))])
(s (w (t 9) k
(e 0))
(s (b 1 (s (r [a 10 8,
a 5 10])
(s (r [a 11 1,
a 12 0,
a 13 5,
o 14 (.idxS 3 (t 12) (t 13)),
o 15 (.loadN 3 (t 14)),
o 16 (.call (t 11) [(t 15)])])
(w (t 16) (s (r [a 17 5,
a 4 17])
z)
k))))
(r [o 18 (N .add (t 8) (i 1)),
a 8 18])))))))
(s (r [o 4 (.mv (i (-1)))])
z)))⟩

def ir148 : IFunc := ⟨[.tmp 4,.tmp 5],
(s (r [o 2 (.box 4 (t 0)),
o 3 (.box 5 (t 1)),
o 4 (.mv (i 0)),
o 5 (.mv n)])
(s (s (r [o 12 (.loadN 4 (t 2)),
o 13 (.loadN 5 (t 3)),
o 14 (.call (f 105) [(t 12),(t 13)]),
o 15 (.not (t 14))])
(w (t 15) (s (r [o 4 (.mv (i 0)),
o 5 (.mv n)])
z)
k))
(s (s (r [p 16 0 3,
l 17 16])
(b 0 (s (r [o 19 (N .eql (t 17) (c (.int .u8 1))),
a 18 19])
(w (t 18) (s (d [u 2 (p 22 2 3) [],
u 3 (l 23 22) [],
u 4 (o 24 (.call (f 191) [(t 23)])) [],
u 5 (a 25 24) [],
u 6 (g 26 25 true (.faddr 1 (t 3))) [],
u 7 (g 27 25 true (.load1 (t 26))) [],
u 8 (g 28 25 true (.faddr 2 (t 3))) [],
u 9 (g 29 25 true (.load1 (t 28))) [1],
u 10 (g 30 25 true (.call (f 192) [(t 27),(t 29)])) [],
u 0 (p 20 2 3) [],
u 1 (l 21 20) [1,2,4,7,8],
u 11 (o 31 (.pick (t 25) (t 30) n)) [],
u 12 (a 4 21) [],
u 13 (a 5 31) []])
z)
(s (r [o 33 (N .eql (t 17) (c (.int .u8 2))),
a 32 33])
(w (t 32) (s (r [o 35 (.loadN 4 (t 2)),
p 36 3 3,
l 37 36,
o 38 (.call (f 149) [(t 35),(t 37)]),
a 34 38,
o 39 (.extract 0 (t 34)),
o 40 (.extract 1 (t 34)),
o 6 (.mk 138 [(.slice none 0 0),(.bool false),(.int .i64 0),(.bool false)]),
q (.store 4 (t 6) (t 39)),
a 7 40])
(s (d [u 4 (a 45 7) [],
u 5 (a 46 45) [],
u 6 (g 47 46 true (.faddr 0 (t 6))) [],
u 7 (g 48 46 true (.faddr 1 (t 47))) [],
u 8 (g 49 46 true (.faddr 0 (t 48))) [],
u 9 (g 50 46 true (.load1 (t 49))) [],
u 10 (g 51 46 true (.not (t 50))) [],
u 11 (o 52 (.pick (t 46) (t 51) n)) [],
u 12 (a 53 52) [],
u 13 (g 54 53 true (.faddr 3 (t 6))) [],
u 14 (g 55 53 true (.load1 (t 54))) [],
u 15 (g 56 53 true (.not (t 55))) [],
u 16 (o 57 (.pick (t 53) (t 56) n)) [],
u 17 (a 58 57) [],
u 18 (g 59 58 true (.loadN 4 (t 2))) [],
u 19 (g 60 58 true (.faddr 4 (t 3))) [],
u 20 (g 61 58 true (.load1 (t 60))) [1],
u 21 (g 62 58 true (.faddr 0 (t 6))) [],
u 22 (g 63 58 true (.faddr 0 (t 62))) [],
u 23 (g 64 58 true (.load1 (t 63))) [2,4],
u 24 (g 65 58 true (.call (f 193) [(t 59),(t 61),(t 64)])) [],
u 0 (p 41 0 6) [],
u 1 (p 42 1 41) [],
u 2 (p 43 1 42) [],
u 3 (l 44 43) [3,4,7,9,13,18],
u 25 (o 66 (.pick (t 58) (t 65) n)) [],
u 26 (a 4 44) [],
u 27 (a 5 66) []])
z))
(s (r [o 68 (N .eql (t 17) (c (.int .u8 3))),
a 67 68])
(w (t 67) (s (r [o 69 (.loadN 4 (t 2)),
p 70 3 3,
l 71 70,
o 72 (.call (f 106) [(t 69),(t 71)]),
o 73 (.extract 0 (t 72)),
o 74 (.extract 1 (t 72)),
a 4 73,
a 5 74])
z)
(s (r [o 76 (N .eql (t 17) (c (.int .u8 4))),
a 75 76])
(w (t 75) (s (r [o 78 (.loadN 4 (t 2)),
p 79 3 3,
l 80 79,
o 81 (.call (f 106) [(t 78),(t 80)]),
a 77 81,
o 82 (.extract 0 (t 77)),
o 83 (.extract 1 (t 77)),
a 8 82,
a 9 83])
(s (d [u 0 (a 84 9) [],
u 1 (a 85 84) [],
u 2 (g 86 85 true (.loadN 4 (t 2))) [],
u 3 (g 87 85 true (.faddr 4 (t 3))) [],
u 4 (g 88 85 true (.load1 (t 87))) [1],
u 5 (g 89 85 true (.idxS 5 (t 88) (i 0))) [],
u 6 (g 90 85 true (.loadN 5 (t 89))) [3],
u 7 (g 91 85 true (.mv (t 8))) [],
u 8 (g 92 85 true (.call (f 104) [(t 86),(t 90),(t 91)])) [],
u 9 (o 93 (.pick (t 85) (t 92) n)) [],
u 10 (o 4 (.mv (i 1))) [],
u 11 (a 5 93) []])
z))
(s (r [o 95 (N .eql (t 17) (c (.int .u8 15))),
a 94 95])
(w (t 94) (s (r [o 97 (.loadN 4 (t 2)),
p 98 3 3,
l 99 98,
o 100 (.call (f 149) [(t 97),(t 99)]),
a 96 100,
o 101 (.extract 0 (t 96)),
o 102 (.extract 1 (t 96)),
o 10 (.mk 138 [(.slice none 0 0),(.bool false),(.int .i64 0),(.bool false)]),
q (.store 4 (t 10) (t 101)),
a 11 102])
(s (d [u 0 (p 103 0 10) [],
u 1 (p 104 1 103) [],
u 2 (p 105 1 104) [],
u 3 (l 106 105) [],
u 4 (a 107 11) [],
u 5 (a 108 107) [],
u 6 (g 109 108 true (.faddr 3 (t 10))) [],
u 7 (g 110 108 true (.load1 (t 109))) [3],
u 8 (o 111 (.pick (t 108) (t 110) n)) [],
u 9 (a 4 106) [],
u 10 (a 5 111) []])
z))
(s (r [o 113 (N .eql (t 17) (c (.int .u8 12))),
a 112 113])
(w (t 112) (s (r [p 114 1 3,
l 115 114,
p 116 2 2,
l 117 116,
o 118 (.call (f 192) [(t 115),(t 117)]),
o 4 (.mv (i 1)),
a 5 118])
z)
(s (r [o 120 (N .eql (t 17) (c (.int .u8 14))),
a 119 120])
(w (t 119) (s (r [o 4 (.mv (i 1)),
o 5 (.mv y)])
z)
(s (s (r [o 122 (N .eql (t 17) (c (.int .u8 5))),
a 121 122])
(w (t 121) k
(r [o 123 (N .eql (t 17) (c (.int .u8 6))),
a 121 123])))
(w (t 121) (s (r [o 124 (.loadN 4 (t 2)),
o 125 (.loadN 5 (t 3)),
o 126 (.call (f 194) [(t 124),(t 125)]),
o 127 (.extract 0 (t 126)),
o 128 (.extract 1 (t 126)),
a 4 127,
a 5 128])
z)
k))))))))))))))))))
(s (r [o 129 (.loadN 4 (t 2)),
o 130 (.loadN 5 (t 3)),
o 131 (.call (f 195) [(t 129),(t 130)]),
o 132 (.extract 0 (t 131)),
o 133 (.extract 1 (t 131)),
a 4 132,
a 5 133])
z))))⟩

def ir149 : IFunc := ⟨[.cellN 4 4,.tmp 5],
(s (r [o 2 (.box 4 (t 0)),
o 4 (.mk 138 [(.slice none 0 0),(.bool false),(.int .i64 0),(.bool false)]),
o 5 (.mv n)])
(s (s (r [a 6 1,
o 7 (N .lss (t 6) (i 1)),
a 8 7,
g 9 8 false (.mv (t 1)),
g 10 8 false (.faddr 0 (t 2)),
g 11 8 false (.load1 (t 10)),
g 12 8 false (.len (t 11)),
g 13 8 false (N .gtr (t 9) (t 12)),
o 14 (.pick (t 8) y (t 13))])
(w (t 14) (s (r [o 15 (.build [(.slice none 0 0),(.bool false),(.int .i64 0),(.bool false)] []),
q (.store 4 (t 4) (t 15)),
o 5 (.mv n)])
z)
k))
(s (r [p 16 0 2,
l 17 16,
a 18 1,
o 19 (N .sub (t 18) (i 1)),
o 20 (.idxS 4 (t 17) (t 19)),
o 21 (.loadN 4 (t 20)),
q (.store 4 (t 4) (t 21)),
o 5 (.mv y)])
z)))⟩

def ir150 : IFunc := ⟨[.tmp 2],
(s (r [o 2 (.mv (c (.slice none 0 0)))])
(s (s (r [a 3 0,
o 4 (.bin .slc .eql (t 3) (c (.slice none 0 0)))])
(w (t 4) (s (r [o 2 (.mv (c (.slice none 0 0)))])
z)
k))
(s (r [o 5 (.buildSlice 0 [] []),
a 6 0,
o 7 (.append 138 4 48 (t 5) (t 6)),
a 2 7])
z)))⟩

def ir151 : IFunc := ⟨[.cellN 2 3],
(s (r [o 1 (.box 4 (t 0)),
o 2 (.mk 69 [(.slice none 0 0),(.slice none 0 0),(.bool false)])])
(s (r [o 4 (.buildSlice 1 [(.int .i64 0)] [(0,1,(i 0))]),
o 5 (.build [(.slice none 0 0),(.slice none 0 0)] [(1,1,(t 4))]),
o 6 (.box 2 (t 5)),
a 3 6])
(s (d [u 1 (a 8 3) [],
u 2 (o 9 (.call (f 62) [(t 8),n])) [],
u 3 (a 10 3) [],
u 4 (o 11 (.call (f 62) [(t 10),y])) [],
u 0 (a 7 3) [],
u 5 (o 12 (.loadN 4 (t 1))) [1,3],
u 6 (o 13 (.buildSlice 1 [(.int .i64 0),(.int .i64 0),(.int .u8 0),(.int .i64 0)] [(0,4,(t 12))])) [2,4],
u 7 (o 14 (.call (f 156) [(t 7),(t 9),(t 11),(t 13)])) []])
(s (r [a 15 3,
o 16 (.call (f 46) [(t 15)]),
q (.store 3 (t 2) (t 16))])
z))))⟩

def ir152 : IFunc := ⟨[.cellN 2 4],
(s (r [o 2 (.mk 95 [(.int .i64 0),(.int .i64 0),(.int .u8 0),(.int .i64 0)])])
(s (r [a 3 0,
o 4 (.build [(.int .i64 0),(.int .i64 0),(.int .u8 0),(.int .i64 0)] [(2,1,(c (.int .u8 3))),(3,1,(t 3))]),
q (.store 4 (t 2) (t 4))])
z))⟩

def ir153 : IFunc := ⟨[.cellN 4 3],
(s (r [o 2 (.box 5 (t 0)),
o 3 (.box 5 (t 1)),
o 4 (.mk 69 [(.slice none 0 0),(.slice none 0 0),(.bool false)])])
(s (r [o 9 (.loadN 5 (t 2)),
p 10 1 3,
l 11 10,
o 12 (.build [(.bool false),(.int .i64 0)] [(0,1,y),(1,1,(t 11))]),
o 13 (.call (f 157) [(t 9),(t 12)]),
a 8 13,
o 14 (.extract 0 (t 8)),
o 15 (.extract 1 (t 8)),
o 5 (.mk 72 [(.slice none 0 0),(.bool false),(.int .i64 0),(.bool false),(.map none)]),
q (.store 5 (t 5) (t 14)),
a 6 15])
(s (d [u 0 (o 16 (.loadN 5 (t 5))) [],
u 1 (p 17 4 3) [],
u 2 (l 18 17) [1],
u 3 (o 19 (.idxS 5 (t 18) (i 0))) [],
u 4 (o 20 (.loadN 5 (t 19))) [3],
u 5 (o 21 (.call (f 108) [(t 16),(t 20)])) [],
u 6 (o 7 (.mk 69 [(.slice none 0 0),(.slice none 0 0),(.bool false)])) [0,1,3,5],
u 7 (q (.store 3 (t 7) (t 21))) []])
(s (s (r [p 22 2 7,
l 23 22,
o 24 (.not (t 23))])
(w (t 24) (s (r [o 25 (.loadN 3 (t 7)),
q (.store 3 (t 4) (t 25))])
z)
k))
(s (r [p 26 0 7,
o 27 (.loadN 2 (t 26)),
a 28 6,
p 29 1 3,
l 30 29,
p 31 2 3,
l 32 31,
o 33 (.build [(.int .i64 0),(.int .i64 0),(.int .i64 0)] [(0,1,(t 28)),(1,1,(t 30)),(2,1,(t 32))]),
o 34 (.call (f 55) [(t 27),(t 33)]),
o 35 (.call (f 46) [(t 34)]),
q (.store 3 (t 4) (t 35))])
z)))))⟩

def ir154 : IFunc := ⟨[.cellN 4 3],
(s (r [o 2 (.box 5 (t 0)),
o 3 (.box 5 (t 1)),
o 4 (.mk 69 [(.slice none 0 0),(.slice none 0 0),(.bool false)])])
(s (r [p 17 0 2,
p 18 0 17,
l 19 18,
p 20 3 3,
l 21 20,
o 22 (N .sub (t 21) (i 1)),
o 23 (.idxS 3 (t 19) (t 22)),
o 24 (.loadN 3 (t 23)),
o 5 (.mk 88 [(.slice none 0 0),(.bool false),(.int .i64 0)]),
q (.store 3 (t 5) (t 24))])
(s (r [o 25 (.buildSlice 1 [(.int .i64 0)] [(0,1,(i 0))]),
o 26 (.build [(.slice none 0 0),(.slice none 0 0)] [(1,1,(t 25))]),
o 27 (.box 2 (t 26)),
a 6 27])
(s (r [a 28 6,
o 29 (.call (f 62) [(t 28),n]),
a 30 6,
o 31 (.call (f 62) [(t 30),n]),
a 32 6,
o 33 (.call (f 62) [(t 32),y]),
a 7 29,
a 8 31,
a 9 33])
(s (d [u 2 (o 36 (.call (f 49) [])) [],
u 3 (p 37 3 3) [],
u 4 (l 38 37) [1],
u 5 (o 39 (.call (f 51) [(t 36),(t 38),(i 0)])) [],
u 0 (a 34 6) [],
u 1 (a 35 7) [],
u 6 (a 40 8) [],
u 7 (o 41 (.call (f 65) [(t 34),(t 35),(t 39),(t 40)])) []])
(s (s (r [p 42 1 5,
p 43 1 42,
l 44 43,
o 45 (.mv (i 0))])
(b 0 (lo (s (r [o 46 (N .lss (t 45) (t 44))])
(s (w (t 46) k
(e 0))
(s (b 1 (s (r [a 47 45,
a 10 47])
(r [a 48 6,
a 49 8,
a 50 9,
p 51 3 3,
l 52 51,
a 53 10,
o 54 (.call (f 97) [(t 52),(i 0),(t 53)]),
a 55 10,
o 56 (.call (f 152) [(t 55)]),
o 57 (.buildSlice 2 [(.int .i64 0),(.int .i64 0),(.int .u8 0),(.int .i64 0),(.int .i64 0),(.int .i64 0),(.int .u8 0),(.int .i64 0)] [(0,4,(t 54)),(4,4,(t 56))]),
o 58 (.call (f 156) [(t 48),(t 49),(t 50),(t 57)])])))
(r [o 59 (N .add (t 45) (i 1)),
a 45 59])))))))
(s (s (r [p 60 0 2,
p 61 3 60,
l 62 61])
(w (t 62) (r [a 63 6,
a 64 8,
a 65 9,
p 66 3 3,
l 67 66,
o 68 (.call (f 97) [(t 67),(i 0),(i (-1))]),
o 69 (.call (f 152) [(i (-1))]),
o 70 (.buildSlice 2 [(.int .i64 0),(.int .i64 0),(.int .u8 0),(.int .i64 0),(.int .i64 0),(.int .i64 0),(.int .u8 0),(.int .i64 0)] [(0,4,(t 68)),(4,4,(t 69))]),
o 71 (.call (f 156) [(t 63),(t 64),(t 65),(t 70)])])
k))
(s (r [o 11 (.mv y)])
(s (s (r [p 72 0 5,
l 73 72,
o 74 (.len (t 73)),
o 75 (.mv (i 0))])
(b 2 (lo (s (r [o 76 (N .lss (t 75) (t 74))])
(s (w (t 76) k
(e 2))
(s (b 3 (s (r [a 77 75,
o 78 (.idxS 2 (t 73) (t 75)),
o 79 (.loadN 2 (t 78)),
o 13 (.mk 24 [(.bool false),(.int .i64 0)]),
a 12 77,
q (.store 2 (t 13) (t 79))])
(s (r [o 80 (.loadN 2 (t 13)),
o 81 (.call (f 63) [(t 80)]),
o 82 (.len (t 81)),
o 83 (.mv (i 0))])
(b 4 (lo (s (r [o 84 (N .lss (t 83) (t 82))])
(s (w (t 84) k
(e 4))
(s (b 5 (s (r [o 85 (.idxS 2 (t 81) (t 83)),
o 86 (.loadN 2 (t 85)),
o 15 (.mk 116 [(.int .u8 0),(.int .i64 0)]),
q (.store 2 (t 15) (t 86))])
(s (d [u 0 (o 87 (.loadN 5 (t 2))) [],
u 1 (o 88 (.loadN 2 (t 13))) [0],
u 2 (p 89 4 3) [],
u 3 (l 90 89) [1,2],
u 4 (a 91 12) [],
u 5 (o 92 (.idxS 5 (t 90) (t 91))) [],
u 6 (o 93 (.loadN 5 (t 92))) [4,5],
u 7 (o 94 (.loadN 2 (t 15))) [0,3,5,6],
u 8 (o 95 (.call (f 64) [(t 87),(t 88),(t 93),(t 94)])) [],
u 9 (o 16 (.mk 69 [(.slice none 0 0),(.slice none 0 0),(.bool false)])) [0,1,2,5,7,8],
u 10 (q (.store 3 (t 16) (t 95))) []])
(s (s (r [p 96 2 16,
l 97 96,
o 98 (.not (t 97))])
(w (t 98) (s (r [o 11 (.mv n)])
(e 5))
k))
(r [a 99 6,
p 100 0 16,
o 101 (.loadN 2 (t 100)),
p 102 3 3,
l 103 102,
a 104 12,
o 105 (N .add (t 104) (i 1)),
p 106 0 15,
l 107 106,
p 108 1 15,
l 109 108,
o 110 (.build [(.int .i64 0),(.int .i64 0),(.int .u8 0),(.int .i64 0)] [(0,1,(t 103)),(1,1,(t 105)),(2,1,(t 107)),(3,1,(t 109))]),
a 111 8,
a 112 9,
o 113 (.call (f 196) [(t 99),(t 101),(t 110),(t 111),(t 112)])])))))
(r [o 114 (N .add (t 83) (i 1)),
a 83 114])))))))))
(r [o 115 (N .add (t 75) (i 1)),
a 75 115])))))))
(s (s (r [a 116 11,
o 117 (.not (t 116))])
(w (t 117) (s (r [o 118 (.build [(.slice none 0 0),(.slice none 0 0),(.bool false)] []),
q (.store 3 (t 4) (t 118))])
z)
k))
(s (r [a 119 6,
o 120 (.call (f 46) [(t 119)]),
q (.store 3 (t 4) (t 120))])
z)))))))))))⟩

def ir155 : IFunc := ⟨[.tmp 0],
(s (r [o 0 (.mv (c (.map none)))])
(s (r [o 1 (.mkmap),
q (.insert (.sc .num) (t 1) (c (.int .u8 5)) (f 197)),
q (.insert (.sc .num) (t 1) (c (.int .u8 6)) (f 198)),
q (.insert (.sc .num) (t 1) (c (.int .u8 7)) (f 199)),
q (.insert (.sc .num) (t 1) (c (.int .u8 8)) (f 200)),
q (.insert (.sc .num) (t 1) (c (.int .u8 9)) (f 201)),
q (.insert (.sc .num) (t 1) (c (.int .u8 11)) (f 202)),
q (.insert (.sc .num) (t 1) (c (.int .u8 13)) (f 203)),
q (.insert (.sc .num) (t 1) (c (.int .u8 4)) (f 204)),
q (.insert (.sc .num) (t 1) (c (.int .u8 18)) (f 205)),
a 2 1,
a 0 2])
z))⟩

def ir156 : IFunc := ⟨[],
(s (r [a 11 3,
o 12 (.len (t 11)),
o 13 (.mv (i 0))])
(b 0 (lo (s (r [o 14 (N .lss (t 13) (t 12))])
(s (w (t 14) k
(e 0))
(s (b 1 (s (r [a 15 13,
o 16 (.idxS 4 (t 11) (t 13)),
o 17 (.loadN 4 (t 16)),
o 9 (.mk 95 [(.int .i64 0),(.int .i64 0),(.int .u8 0),(.int .i64 0)]),
a 8 15,
q (.store 4 (t 9) (t 17))])
(s (r [a 18 2,
a 10 18])
(s (s (r [a 19 8,
a 20 3,
o 21 (.len (t 20)),
o 22 (N .sub (t 21) (i 1)),
o 23 (N .lss (t 19) (t 22))])
(w (t 23) (r [a 24 0,
o 25 (.call (f 62) [(t 24),n]),
a 10 25])
k))
(s (r [a 26 0,
a 27 1,
o 28 (.loadN 4 (t 9)),
a 29 10,
o 30 (.call (f 65) [(t 26),(t 27),(t 28),(t 29)])])
(r [a 31 10,
a 1 31]))))))
(r [o 32 (N .add (t 13) (i 1)),
a 13 32])))))))⟩

def ir157 : IFunc := ⟨[.cellN 4 5,.tmp 5],
(s (r [o 2 (.box 5 (t 0)),
o 3 (.box 2 (t 1)),
o 4 (.mk 72 [(.slice none 0 0),(.bool false),(.int .i64 0),(.bool false),(.map none)]),
o 5 (.mv (i 0))])
(s (d [u 0 (o 7 (.buildSlice 0 [] [])) [],
u 1 (p 8 0 2) [],
u 2 (p 9 0 8) [],
u 3 (l 10 9) [2],
u 4 (o 11 (.append 88 3 40 (t 7) (t 10))) [],
u 5 (o 12 (.loadN 2 (t 3))) [0,1,4],
u 6 (o 13 (.build [(.slice none 0 0),(.bool false),(.int .i64 0)] [(1,2,(t 12))])) [],
u 7 (o 14 (.buildSlice 1 [(.slice none 0 0),(.bool false),(.int .i64 0)] [(0,3,(t 13))])) [2,3,6],
u 8 (o 15 (.append 88 3 40 (t 11) (t 14))) [],
u 9 (a 6 15) []])
(s (r [a 16 6,
p 17 0 2,
p 18 0 17,
q (.store 1 (t 18) (t 16))])
(s (r [o 19 (.loadN 5 (t 2)),
a 20 6,
o 21 (.len (t 20)),
q (.store 5 (t 4) (t 19)),
a 5 21])
z))))⟩

def ir158 : IFunc := ⟨[.tmp 2],
(s (r [o 2 (.mv (i 0))])
(s (r [o 3 (.mv (i 0))])
(s (s (r [a 6 0,
o 7 (.len (t 6)),
o 8 (.mv (i 0))])
(b 0 (lo (s (r [o 9 (N .lss (t 8) (t 7))])
(s (w (t 9) k
(e 0))
(s (b 1 (s (r [o 10 (.idxS 1 (t 6) (t 8)),
l 11 10,
a 5 11])
(s (r [a 12 5,
a 13 3,
o 14 (N .neq (t 12) (t 13))])
(w (t 14) (s (r [a 15 5,
a 2 15])
z)
k))))
(r [o 16 (N .add (t 8) (i 1)),
a 8 16])))))))
(s (r [a 17 3,
a 2 17])
z))))⟩

def ir159 : IFunc := ⟨[.tmp 4],
(s (r [o 4 (.mv (i 0))])
(s (r [a 7 0,
o 8 (.call (f 206) [(t 7)]),
a 5 8])
(s (r [a 9 1,
o 10 (.call (f 206) [(t 9)]),
a 6 10])
(s (s (r [a 11 5])
(w (t 11) (s (s (r [a 12 6])
(w (t 12) (s (r [o 4 (.mv (i 0))])
z)
k))
(s (r [o 4 (.mv (i (-1)))])
z))
k))
(s (s (r [a 13 6])
(w (t 13) (s (r [o 4 (.mv (i 1))])
z)
k))
(s (s (r [a 14 0,
a 15 1,
o 16 (N .lss (t 14) (t 15))])
(w (t 16) (s (r [o 4 (.mv (i (-1)))])
z)
k))
(s (s (r [a 17 0,
a 18 1,
o 19 (N .gtr (t 17) (t 18))])
(w (t 19) (s (r [o 4 (.mv (i 1))])
z)
k))
(s (r [o 4 (.mv (i 0))])
z))))))))⟩

def ir160 : IFunc := ⟨[.tmp 4],
(s (r [o 4 (.mv (i 0))])
(s (r [a 7 0,
o 8 (.call (f 207) [(t 7)]),
a 5 8])
(s (r [a 9 1,
o 10 (.call (f 207) [(t 9)]),
a 6 10])
(s (s (r [a 11 5])
(w (t 11) (s (s (r [a 12 6])
(w (t 12) (s (r [o 4 (.mv (i 0))])
z)
k))
(s (r [o 4 (.mv (i (-1)))])
z))
k))
(s (s (r [a 13 6])
(w (t 13) (s (r [o 4 (.mv (i 1))])
z)
k))
(s (s (r [a 14 0,
a 15 1,
o 16 (N .lss (t 14) (t 15))])
(w (t 16) (s (r [o 4 (.mv (i (-1)))])
z)
k))
(s (s (r [a 17 0,
a 18 1,
o 19 (N .gtr (t 17) (t 18))])
(w (t 19) (s (r [o 4 (.mv (i 1))])
z)
k))
(s (r [o 4 (.mv (i 0))])
z))))))))⟩

def ir161 : IFunc := ⟨[.tmp 2],
(s (r [o 2 (.mv (c (.string ⟨#[]⟩)))])
(s (r [a 3 0,
o 4 (.call (f 208) [(t 3)]),
a 2 4])
z))⟩

def ir162 : IFunc := ⟨[.tmp 5],
(s (r [o 5 (.mv (i 0))])
(s (d [u 0 (l 9 1) [],
u 1 (l 10 2) [0],
u 2 (a 11 0) [],
u 3 (o 12 (.idxS 1 (t 10) (t 11))) [],
u 4 (l 13 12) [3],
u 5 (o 14 (.lookup (.sc .num) (.int .i64 0) true (t 9) (t 13))) [],
u 6 (a 8 14) [],
u 7 (o 15 (.extract 0 (t 8))) [],
u 8 (o 16 (.extract 1 (t 8))) [],
u 9 (a 6 15) [],
u 10 (a 7 16) []])
(s (s (r [a 17 7,
o 18 (.not (t 17))])
(w (t 18) (s (r [l 19 3,
o 20 (.len (t 19)),
a 6 20])
(s (d [u 0 (l 21 1) [],
u 1 (l 22 2) [0],
u 2 (a 23 0) [],
u 3 (o 24 (.idxS 1 (t 22) (t 23))) [],
u 4 (l 25 24) [3],
u 5 (a 26 6) [],
u 6 (q (.insert (.sc .num) (t 21) (t 25) (t 26))) []])
(r [l 27 3,
a 28 0,
o 29 (.buildSlice 1 [(.int .i64 0)] [(0,1,(t 28))]),
o 30 (.append 3 1 8 (t 27) (t 29)),
q (.store 1 (t 3) (t 30))])))
k))
(s (r [a 31 6,
a 5 31])
z))))⟩

def ir163 : IFunc := ⟨[.tmp 4,.tmp 5],
(s (r [o 4 (.mv (c (.int .u64 0))),
o 5 (.mv (c (.int .u64 0)))])
(s (w n (s (r [a 11 0,
o 12 (.conv .u32 (t 11)),
a 13 1,
o 14 (.conv .u32 (t 13)),
o 15 (.call (f 209) [(t 12),(t 14)]),
a 10 15,
o 16 (.extract 0 (t 10)),
o 17 (.extract 1 (t 10)),
a 6 16,
a 7 17])
(s (r [a 18 6,
o 19 (.conv .u64 (t 18)),
a 20 7,
o 21 (.conv .u64 (t 20)),
a 4 19,
a 5 21])
z))
k)
(s (r [a 23 0,
a 24 1,
o 25 (.call (f 210) [(t 23),(t 24)]),
a 22 25,
o 26 (.extract 0 (t 22)),
o 27 (.extract 1 (t 22)),
a 8 26,
a 9 27])
(s (r [a 28 8,
a 29 9,
a 4 28,
a 5 29])
z))))⟩

def ir164 : IFunc := ⟨[.tmp 4,.tmp 5],
(s (r [o 4 (.mv (i 0)),
o 5 (.mv (c .nilIface))])
(s (r [a 6 0,
o 7 (.call (f 211) [(t 6)])])
(s (r [a 8 0,
a 9 0,
o 10 (.nilCheck (t 9)),
p 11 1 10,
l 12 11,
a 13 1,
o 14 (.append 5 1 1 (t 12) (t 13)),
o 15 (.nilCheck (t 8)),
p 16 1 15,
q (.store 1 (t 16) (t 14))])
(s (r [a 17 1,
o 18 (.lenStr (t 17)),
a 4 18,
o 5 (.mv (c .nilIface))])
z))))⟩

def ir165 : IFunc := ⟨[.tmp 2],
(s (r [o 2 (.mv (c (.string ⟨#[]⟩)))])
(s (r [a 3 0,
o 4 (.call (f 212) [(t 3)]),
a 2 4])
z))⟩

def ir166 : IFunc := ⟨[.tmp 4],
(s (r [o 4 (.mv (c .nilIface))])
(s (r [a 5 0,
o 6 (.call (f 211) [(t 5)])])
(s (r [a 7 0,
a 8 0,
o 9 (.nilCheck (t 8)),
p 10 1 9,
l 11 10,
a 12 1,
o 13 (.buildSlice 1 [(.int .u8 0)] [(0,1,(t 12))]),
o 14 (.append 5 1 1 (t 11) (t 13)),
o 15 (.nilCheck (t 7)),
p 16 1 15,
q (.store 1 (t 16) (t 14))])
(s (r [o 4 (.mv (c .nilIface))])
z))))⟩

def ir167 : IFunc := ⟨[.tmp 2],
(s (r [o 2 (.mv (c (.string ⟨#[]⟩)))])
(s (d [u 0 (a 3 0) [],
u 1 (o 4 (.nilCheck (t 3))) [],
u 2 (p 5 1 4) [],
u 3 (l 6 5) [],
u 4 (o 7 (.sdata (t 6))) [],
u 5 (a 8 0) [],
u 6 (o 9 (.nilCheck (t 8))) [],
u 7 (p 10 1 9) [],
u 8 (l 11 10) [4],
u 9 (o 12 (.len (t 11))) [],
u 10 (o 13 (.ustr 5 (t 7) (t 12))) [],
u 11 (a 2 13) []])
z))⟩

def ir168 : IFunc := ⟨[.tmp 6],
(s (r [o 6 (.mv n)])
(s (r [a 7 0,
a 8 1,
o 9 (N .geq (t 7) (t 8)),
a 10 9,
g 11 10 true (.mv (t 0)),
g 12 10 true (.mv (t 2)),
g 13 10 true (N .leq (t 11) (t 12)),
o 14 (.pick (t 10) (t 13) n),
a 6 14])
z))⟩

def ir169 : IFunc := ⟨[.tmp 10],
(s (r [o 5 (.box 2 (t 0)),
o 9 (.box 4 (t 4)),
o 10 (.mv (i 0))])
(s (s (r [o 11 (.mv (i 0))])
(b 0 (lo (s (s (r [a 13 11,
p 14 0 5,
l 15 14,
a 16 3,
o 17 (.idxS 1 (t 15) (t 16)),
l 18 17,
o 19 (.len (t 18)),
o 20 (N .lss (t 13) (t 19))])
(w (t 20) k
(e 0)))
(s (b 1 (s (r [p 23 0 5,
l 24 23,
a 25 3,
o 26 (.idxS 1 (t 24) (t 25)),
l 27 26,
a 28 11,
o 29 (.idxS 5 (t 27) (t 28)),
o 30 (.loadN 5 (t 29)),
o 12 (.mk 97 [(.int .i64 0),(.int .i64 0),(.int .u8 0),(.int .i64 0),(.int .i64 0)]),
q (.store 5 (t 12) (t 30))])
(s (r [p 31 0 12,
o 32 (.loadN 4 (t 31)),
o 33 (.loadN 4 (t 9)),
o 34 (.eqF (.ag [(0,.num),(1,.num),(2,.num),(3,.num)]) false (t 32) (t 33)),
a 35 34,
g 36 35 true (.mv (t 2)),
g 37 35 true (.faddr 4 (t 12)),
g 38 35 true (.load1 (t 37)),
g 39 35 true (.idxS 1 (t 36) (t 38)),
g 40 35 true (.load1 (t 39)),
o 41 (.pick (t 35) (t 40) n)])
(w (t 41) (s (r [a 42 1,
p 43 4 12,
l 44 43,
o 45 (.idxS 1 (t 42) (t 44)),
l 46 45,
a 10 46])
z)
k))))
(r [a 21 11,
o 22 (N .add (t 21) (i 1)),
a 11 22]))))))
(s (r [o 10 (.mv (i (-1)))])
z)))⟩

def ir170 : IFunc := ⟨[.tmp 4],
(s (r [o 2 (.box 4 (t 0)),
o 3 (.box 4 (t 1)),
o 4 (.mv n)])
(s (s (r [p 5 0 2,
l 6 5,
p 7 0 3,
l 8 7,
o 9 (N .neq (t 6) (t 8))])
(w (t 9) (s (r [p 10 0 2,
l 11 10,
p 12 0 3,
l 13 12,
o 14 (N .lss (t 11) (t 13)),
a 4 14])
z)
k))
(s (s (r [p 15 1 2,
l 16 15,
p 17 1 3,
l 18 17,
o 19 (N .neq (t 16) (t 18))])
(w (t 19) (s (r [p 20 1 2,
l 21 20,
p 22 1 3,
l 23 22,
o 24 (N .lss (t 21) (t 23)),
a 4 24])
z)
k))
(s (s (r [p 25 2 2,
l 26 25,
p 27 2 3,
l 28 27,
o 29 (N .neq (t 26) (t 28))])
(w (t 29) (s (r [p 30 2 2,
l 31 30,
p 32 2 3,
l 33 32,
o 34 (N .lss (t 31) (t 33)),
a 4 34])
z)
k))
(s (r [p 35 3 2,
l 36 35,
p 37 3 3,
l 38 37,
o 39 (N .lss (t 36) (t 38)),
a 4 39])
z)))))⟩

def ir171 : IFunc := ⟨[],
(s (r [a 8 1,
o 9 (N .add (t 8) (i 1)),
a 6 9])
(b 0 (lo (s (s (r [a 10 6,
a 11 2,
o 12 (N .lss (t 10) (t 11))])
(w (t 12) k
(e 0)))
(s (b 1 (s (r [a 15 6,
a 7 15])
(b 2 (lo (s (s (d [u 0 (a 16 7) [],
u 1 (a 17 1) [],
u 2 (o 18 (N .gtr (t 16) (t 17))) [],
u 3 (a 19 18) [],
u 4 (g 20 19 true (.mv (t 0))) [],
u 5 (g 21 19 true (.mv (t 7))) [],
u 6 (g 22 19 true (.idxS 1 (t 20) (t 21))) [],
u 7 (g 23 19 true (.load1 (t 22))) [],
u 8 (g 24 19 true (.mv (t 0))) [],
u 9 (g 25 19 true (.mv (t 7))) [],
u 10 (g 26 19 true (N .sub (t 25) (i 1))) [],
u 11 (g 27 19 true (.idxS 1 (t 24) (t 26))) [],
u 12 (g 28 19 true (.load1 (t 27))) [4],
u 13 (g 29 19 true (.call (f 177) [(t 23),(t 28)])) [],
u 14 (o 30 (.pick (t 19) (t 29) n)) []])
(w (t 30) k
(e 2)))
(s (b 3 (d [u 0 (a 33 0) [],
u 1 (a 34 7) [],
u 2 (a 35 0) [],
u 3 (a 36 7) [],
u 4 (o 37 (N .sub (t 36) (i 1))) [],
u 5 (a 38 0) [],
u 6 (a 39 7) [],
u 7 (o 40 (N .sub (t 39) (i 1))) [],
u 8 (o 41 (.idxS 1 (t 38) (t 40))) [],
u 9 (l 42 41) [],
u 10 (a 43 0) [],
u 11 (a 44 7) [],
u 12 (o 45 (.idxS 1 (t 43) (t 44))) [],
u 13 (l 46 45) [3],
u 14 (o 47 (.idxS 1 (t 33) (t 34))) [],
u 15 (q (.store 1 (t 47) (t 42))) [],
u 16 (o 48 (.idxS 1 (t 35) (t 37))) [],
u 17 (q (.store 1 (t 48) (t 46))) []]))
(r [a 31 7,
o 32 (N .sub (t 31) (i 1)),
a 7 32])))))))
(r [a 13 6,
o 14 (N .add (t 13) (i 1)),
a 6 14]))))))⟩

def ir177 : IFunc := ⟨[.tmp 4],
(s (r [o 4 (.mv n)])
(s (r [a 5 0,
o 6 (.call (f 206) [(t 5)]),
a 7 6,
g 8 7 true (.mv (t 1)),
g 9 7 true (.call (f 206) [(t 8)]),
g 10 7 true (.not (t 9)),
o 11 (.pick (t 7) (t 10) n),
a 12 11,
g 13 12 false (.mv (t 0)),
g 14 12 false (.mv (t 1)),
g 15 12 false (N .lss (t 13) (t 14)),
o 16 (.pick (t 12) y (t 15)),
a 4 16])
z))⟩

def ir181 : IFunc := ⟨[.tmp 2],
(s (r [o 2 (.mv (i 0))])
(s (s (r [a 3 0,
o 4 (N .geq (t 3) (c (.int .u64 4294967296)))])
(w (t 4) (s (r [a 5 0,
o 6 (N .shr (t 5) (c (.int .u64 32))),
a 0 6])
(r [o 2 (.mv (i 32))]))
k))
(s (s (r [a 7 0,
o 8 (N .geq (t 7) (c (.int .u64 65536)))])
(w (t 8) (s (r [a 9 0,
o 10 (N .shr (t 9) (c (.int .u64 16))),
a 0 10])
(r [a 11 2,
o 12 (N .add (t 11) (i 16)),
a 2 12]))
k))
(s (s (r [a 13 0,
o 14 (N .geq (t 13) (c (.int .u64 256)))])
(w (t 14) (s (r [a 15 0,
o 16 (N .shr (t 15) (c (.int .u64 8))),
a 0 16])
(r [a 17 2,
o 18 (N .add (t 17) (i 8)),
a 2 18]))
k))
(s (r [a 19 2,
a 20 0,
o 21 (.conv .u8 (t 20)),
o 22 (.idxStr (c (.string ⟨#[0,1,2,2,3,3,3,3,4,4,4,4,4,4,4,4,5,5,5,5,5,5,5,5,5,5,5,5,5,5,5,5,6,6,6,6,6,6,6,6,6,6,6,6,6,6,6,6,6,6,6,6,6,6,6,6,6,6,6,6,6,6,6,6,7,7,7,7,7,7,7,7,7,7,7,7,7,7,7,7,7,7,7,7,7,7,7,7,7,7,7,7,7,7,7,7,7,7,7,7,7,7,7,7,7,7,7,7,7,7,7,7,7,7,7,7,7,7,7,7,7,7,7,7,7,7,7,7,8,8,8,8,8,8,8,8,8,8,8,8,8,8,8,8,8,8,8,8,8,8,8,8,8,8,8,8,8,8,8,8,8,8,8,8,8,8,8,8,8,8,8,8,8,8,8,8,8,8,8,8,8,8,8,8,8,8,8,8,8,8,8,8,8,8,8,8,8,8,8,8,8,8,8,8,8,8,8,8,8,8,8,8,8,8,8,8,8,8,8,8,8,8,8,8,8,8,8,8,8,8,8,8,8,8,8,8,8,8,8,8,8,8,8,8,8,8,8,8,8,8,8,8,8,8,8,8]⟩)) (t 21)),
o 23 (.conv .i64 (t 22)),
o 24 (N .add (t 19) (t 23)),
a 2 24])
z)))))⟩

def ir182 : IFunc := ⟨[.tmp 4],
(s (r [o 4 (.mv (i 0))])
(s (r [a 8 0,
o 9 (.call (f 183) [(t 8)]),
a 5 9])
(s (r [l 11 1,
a 12 5,
o 13 (.lookup (.sc .str) (.int .i64 0) true (t 11) (t 12)),
a 10 13,
o 14 (.extract 0 (t 10)),
o 15 (.extract 1 (t 10)),
a 6 14,
a 7 15])
(s (s (r [a 16 7,
o 17 (.not (t 16))])
(w (t 17) (s (r [l 18 2,
o 19 (.len (t 18)),
a 6 19])
(s (r [l 20 1,
a 21 5,
a 22 6,
q (.insert (.sc .str) (t 20) (t 21) (t 22))])
(r [l 23 2,
a 24 0,
o 25 (.buildSlice 1 [(.slice none 0 0)] [(0,1,(t 24))]),
o 26 (.append 61 1 24 (t 23) (t 25)),
q (.store 1 (t 2) (t 26))])))
k))
(s (r [a 27 6,
a 4 27])
z)))))⟩

def ir183 : IFunc := ⟨[.tmp 2],
(s (r [o 2 (.mv (c (.string ⟨#[]⟩)))])
(s (r [o 3 (.mk 238 [(.pointer none),(.slice none 0 0)])])
(s (s (r [a 6 0,
o 7 (.len (t 6)),
o 8 (.mv (i 0))])
(b 0 (lo (s (r [o 9 (N .lss (t 8) (t 7))])
(s (w (t 9) k
(e 0))
(s (b 1 (s (r [o 10 (.idxS 1 (t 6) (t 8)),
l 11 10,
a 5 11])
(r [a 12 5,
o 13 (.call (f 161) [(t 12)]),
o 14 (.bin .str .add (t 13) (c (.string ⟨#[32]⟩))),
o 15 (.call (f 164) [(t 3),(t 14)])])))
(r [o 16 (N .add (t 8) (i 1)),
a 8 16])))))))
(s (r [o 17 (.call (f 167) [(t 3)]),
a 2 17])
z))))⟩

def ir184 : IFunc := ⟨[.tmp 2],
(s (r [o 2 (.mv (c (.slice none 0 0)))])
(s (s (r [a 3 0,
o 4 (.bin .slc .eql (t 3) (c (.slice none 0 0)))])
(w (t 4) (s (r [o 2 (.mv (c (.slice none 0 0)))])
z)
k))
(s (r [o 5 (.buildSlice 0 [] []),
a 6 0,
o 7 (.append 3 1 8 (t 5) (t 6)),
a 2 7])
z)))⟩

def ir185 : IFunc := ⟨[.tmp 4,.cell1 5],
(s (r [o 4 (.mv (c (.slice none 0 0))),
o 5 (.mk 4 [(.bool false)])])
(s (r [o 6 (.mk 93 [(.slice none 0 0)])])
(s (s (r [a 11 0,
a 12 1,
o 13 (.call (f 218) [(t 11),(t 12)])])
(b 0 (.rangeFunc (t 13) [14] (r [o 7 (.mk 183 [(.slice none 0 0),(.slice none 0 0),(.bool false)]),
q (.store 3 (t 7) (t 14))])
(b 1 (s (r [l 15 6,
p 16 0 7,
l 17 16,
o 18 (.append 97 5 40 (t 15) (t 17)),
q (.store 1 (t 6) (t 18))])
(r [l 19 5,
a 20 19,
g 21 20 false (.faddr 2 (t 7)),
g 22 20 false (.load1 (t 21)),
o 23 (.pick (t 20) y (t 22)),
q (.store 1 (t 5) (t 23))]))))))
(s (r [l 24 6,
o 25 (.call (f 219) [(t 24),(f 220)])])
(s (s (r [l 26 6,
o 27 (.len (t 26)),
o 28 (.mv (i 0))])
(b 2 (lo (s (r [o 29 (N .lss (t 28) (t 27))])
(s (w (t 29) k
(e 2))
(s (b 3 (s (r [o 30 (.idxS 5 (t 26) (t 28)),
o 31 (.loadN 5 (t 30)),
o 9 (.mk 97 [(.int .i64 0),(.int .i64 0),(.int .u8 0),(.int .i64 0),(.int .i64 0)]),
q (.store 5 (t 9) (t 31))])
(s (r [a 32 4,
o 33 (.len (t 32)),
o 34 (N .sub (t 33) (i 1)),
a 10 34])
(b 4 (s (d [u 0 (a 36 10) [],
u 1 (o 37 (N .lss (t 36) (i 0))) [],
u 2 (a 38 37) [],
u 3 (g 39 38 false (.mv (t 4))) [],
u 4 (g 40 38 false (.mv (t 10))) [],
u 5 (g 41 38 false (.idxS 5 (t 39) (t 40))) [],
u 6 (g 42 38 false (.faddr 0 (t 41))) [],
u 7 (g 43 38 false (.loadN 4 (t 42))) [],
u 8 (g 44 38 false (.faddr 0 (t 9))) [],
u 9 (g 45 38 false (.loadN 4 (t 44))) [1],
u 10 (g 46 38 false (.eqF (.ag [(0,.num),(1,.num),(2,.num),(3,.num)]) true (t 43) (t 45))) [],
u 11 (o 47 (.pick (t 38) y (t 46))) [],
u 12 (a 35 47) []])
(w (t 35) (r [a 48 4,
p 49 0 9,
o 50 (.loadN 4 (t 49)),
p 51 4 9,
l 52 51,
o 53 (.buildSlice 1 [(.int .i64 0)] [(0,1,(t 52))]),
o 54 (.build [(.int .i64 0),(.int .i64 0),(.int .u8 0),(.int .i64 0),(.slice none 0 0)] [(0,4,(t 50)),(4,1,(t 53))]),
o 55 (.buildSlice 1 [(.int .i64 0),(.int .i64 0),(.int .u8 0),(.int .i64 0),(.slice none 0 0)] [(0,5,(t 54))]),
o 56 (.append 264 5 56 (t 48) (t 55)),
a 4 56])
(s (d [u 0 (a 58 4) [],
u 1 (a 59 10) [],
u 2 (o 60 (.idxS 5 (t 58) (t 59))) [],
u 3 (p 61 4 60) [],
u 4 (l 62 61) [],
u 5 (p 63 4 9) [],
u 6 (l 64 63) [1],
u 7 (o 65 (.call (f 221) [(t 62),(t 64)])) [],
u 8 (o 66 (.not (t 65))) [],
u 9 (a 57 66) []])
(w (t 57) (d [u 0 (a 67 4) [],
u 1 (a 68 10) [],
u 2 (a 69 4) [],
u 3 (a 70 10) [],
u 4 (o 71 (.idxS 5 (t 69) (t 70))) [],
u 5 (p 72 4 71) [],
u 6 (l 73 72) [],
u 7 (p 74 4 9) [],
u 8 (l 75 74) [1],
u 9 (o 76 (.buildSlice 1 [(.int .i64 0)] [(0,1,(t 75))])) [2],
u 10 (o 77 (.append 3 1 8 (t 73) (t 76))) [],
u 11 (o 78 (.idxS 5 (t 67) (t 68))) [],
u 12 (p 79 4 78) [],
u 13 (q (.store 1 (t 79) (t 77))) []])
k))))))))
(r [o 80 (N .add (t 28) (i 1)),
a 28 80])))))))
(s (d [u 0 (a 81 4) [],
u 1 (l 82 5) [],
u 2 (a 4 81) [],
u 3 (q (.store 1 (t 5) (t 82))) []])
z))))))⟩

def ir186 : IFunc := ⟨[.tmp 2],
(s (r [o 1 (.box 2 (t 0)),
o 2 (.mv (c (.slice none 0 0)))])
(s (r [p 7 1 1,
l 8 7,
o 9 (.call (f 125) [(t 8)]),
o 3 (.mk 29 [(.slice none 0 0)]),
q (.store 1 (t 3) (t 9))])
(s (s (r [o 4 (.mv y)])
(b 0 (lo (s (s (r [a 10 4])
(w (t 10) k
(e 0)))
(b 1 (s (r [o 4 (.mv n)])
(s (r [p 11 0 1,
l 12 11,
o 13 (.len (t 12)),
o 14 (.mv (i 0))])
(b 2 (lo (s (r [o 15 (N .lss (t 14) (t 13))])
(s (w (t 15) k
(e 2))
(s (b 3 (s (r [a 16 14,
o 17 (.idxS 1 (t 12) (t 14)),
l 18 17,
a 5 16,
a 6 18])
(s (r [l 19 3,
a 20 5,
o 21 (.idxS 1 (t 19) (t 20)),
l 22 21,
o 23 (.not (t 22)),
a 24 23,
g 25 24 true (.mv (t 6)),
g 26 24 true (.mkfn (.func 222) [] [(t 3)]),
g 27 24 true (.call (f 74) [(t 25),(t 26)]),
o 28 (.pick (t 24) (t 27) n)])
(w (t 28) (r [l 29 3,
a 30 5,
o 31 (.idxS 1 (t 29) (t 30)),
q (.store 1 (t 31) y),
o 4 (.mv y)])
k))))
(r [o 32 (N .add (t 14) (i 1)),
a 14 32])))))))))))))
(s (r [l 33 3,
a 2 33])
z))))⟩

def ir187 : IFunc := ⟨[.tmp 4],
(s (r [o 2 (.box 2 (t 0)),
o 4 (.mv (c (.slice none 0 0)))])
(s (r [p 16 0 2,
l 17 16,
o 18 (.len (t 17)),
o 19 (.mkSlice 8 [(.int .i64 0)] (t 18) (t 18)),
a 5 19])
(s (r [o 6 (.mv (i 1))])
(b 0 (lo (b 1 (s (r [o 20 (.mkmap),
a 7 20])
(s (r [p 21 0 2,
l 22 21,
o 23 (.len (t 22)),
o 24 (.mkSlice 8 [(.int .i64 0)] (t 23) (t 23)),
a 8 24])
(s (s (r [p 25 0 2,
l 26 25,
o 27 (.len (t 26)),
o 28 (.mv (i 0))])
(b 2 (lo (s (r [o 29 (N .lss (t 28) (t 27))])
(s (w (t 29) k
(e 2))
(s (b 3 (s (r [a 30 28,
o 31 (.idxS 1 (t 26) (t 28)),
l 32 31,
a 9 30,
a 10 32])
(s (s (r [a 33 1,
a 34 9,
o 35 (.idxS 1 (t 33) (t 34)),
l 36 35,
o 37 (.not (t 36))])
(w (t 37) (e 3)
k))
(s (d [u 0 (p 38 1 2) [],
u 1 (l 39 38) [],
u 2 (a 40 9) [],
u 3 (o 41 (.idxS 1 (t 39) (t 40))) [],
u 4 (l 42 41) [],
u 5 (o 43 (.call (f 165) [(t 42)])) [],
u 7 (a 45 5) [],
u 8 (a 46 9) [],
u 9 (o 47 (.idxS 1 (t 45) (t 46))) [],
u 10 (l 48 47) [3,4,7],
u 11 (o 49 (.call (f 161) [(t 48)])) [],
u 6 (o 44 (.bin .str .add (t 43) (c (.string ⟨#[32]⟩)))) [],
u 12 (o 50 (.bin .str .add (t 44) (t 49))) [],
u 13 (a 11 50) []])
(s (s (r [a 51 10,
o 52 (.len (t 51)),
o 53 (.mv (i 0))])
(b 4 (lo (s (r [o 54 (N .lss (t 53) (t 52))])
(s (w (t 54) k
(e 4))
(s (b 5 (s (r [o 55 (.idxS 5 (t 51) (t 53)),
o 56 (.loadN 5 (t 55)),
o 13 (.mk 97 [(.int .i64 0),(.int .i64 0),(.int .u8 0),(.int .i64 0),(.int .i64 0)]),
q (.store 5 (t 13) (t 56))])
(s (r [a 57 1,
p 58 4 13,
l 59 58,
o 60 (.idxS 1 (t 57) (t 59)),
l 61 60])
(w (t 61) (d [u 1 (p 63 0 13) [],
u 2 (p 64 0 63) [],
u 3 (l 65 64) [],
u 4 (p 66 0 13) [],
u 5 (p 67 1 66) [],
u 6 (l 68 67) [2],
u 7 (p 69 0 13) [],
u 8 (p 70 2 69) [],
u 9 (l 71 70) [2,5],
u 10 (o 72 (.conv .i64 (t 71))) [],
u 11 (p 73 0 13) [],
u 12 (p 74 3 73) [],
u 13 (l 75 74) [3,6,9],
u 14 (a 76 5) [],
u 15 (p 77 4 13) [],
u 16 (l 78 77) [2,6,9,12],
u 17 (o 79 (.idxS 1 (t 76) (t 78))) [],
u 18 (l 80 79) [4,8,11,14],
u 19 (o 81 (.buildSlice 5 [(.int .i64 0),(.int .i64 0),(.int .i64 0),(.int .i64 0),(.int .i64 0)] [(0,1,(t 65)),(1,1,(t 68)),(2,1,(t 72)),(3,1,(t 75)),(4,1,(t 80))])) [],
u 20 (o 82 (.call (f 183) [(t 81)])) [],
u 0 (a 62 11) [],
u 21 (o 83 (.bin .str .add (c (.string ⟨#[32]⟩)) (t 82))) [],
u 22 (o 84 (.bin .str .add (t 62) (t 83))) [],
u 23 (a 11 84) []])
k))))
(r [o 85 (N .add (t 53) (i 1)),
a 53 85])))))))
(s (s (r [a 87 7,
a 88 11,
o 89 (.lookup (.sc .str) (.int .i64 0) true (t 87) (t 88)),
a 86 89,
o 90 (.extract 0 (t 86)),
o 91 (.extract 1 (t 86)),
a 14 90,
a 15 91])
(s (r [a 92 15,
o 93 (.not (t 92))])
(w (t 93) (r [a 94 7,
a 95 11,
a 96 7,
o 97 (.lenM (t 96)),
q (.insert (.sc .str) (t 94) (t 95) (t 97))])
k)))
(r [a 98 8,
a 99 9,
a 100 7,
a 101 11,
o 102 (.lookup (.sc .str) (.int .i64 0) false (t 100) (t 101)),
o 103 (.idxS 1 (t 98) (t 99)),
q (.store 1 (t 103) (t 102))])))))))
(r [o 104 (N .add (t 28) (i 1)),
a 28 104])))))))
(s (s (r [a 105 7,
o 106 (.lenM (t 105)),
a 107 6,
o 108 (N .eql (t 106) (t 107))])
(w (t 108) (s (r [a 109 8,
a 4 109])
z)
k))
(r [a 110 8,
a 111 7,
o 112 (.lenM (t 111)),
a 5 110,
a 6 112])))))))))))⟩

def ir188 : IFunc := ⟨[.tmp 2],
(s (r [o 2 (.mv n)])
(s (r [a 3 0,
o 4 (.len (t 3)),
o 5 (N .gtr (t 4) (i 400)),
a 2 5])
z))⟩

def ir189 : IFunc := ⟨[.tmp 6],
(s (r [o 3 (.box 2 (t 0)),
o 5 (.box 4 (t 2)),
o 6 (.mv (i 0))])
(s (r [p 8 0 3,
l 9 8,
a 10 1,
o 11 (.idxS 1 (t 9) (t 10)),
l 12 11,
o 13 (.mkfn (.func 223) [] [(t 5)]),
o 14 (.call (f 127) [(t 12),(t 13)]),
a 7 14])
(s (s (r [a 15 7,
o 16 (N .lss (t 15) (i 0))])
(w (t 16) (s (r [a 17 7,
a 6 17])
z)
k))
(s (r [p 18 0 3,
l 19 18,
a 20 1,
o 21 (.idxS 1 (t 19) (t 20)),
l 22 21,
a 23 7,
o 24 (.idxS 5 (t 22) (t 23)),
p 25 4 24,
l 26 25,
a 6 26])
z))))⟩

def ir190 : IFunc := ⟨[.tmp 4],
(s (r [o 4 (.mv (i 0))])
(s (s (r [a 6 0,
o 7 (.len (t 6)),
o 8 (.mv (i 0))])
(b 0 (lo (s (r [o 9 (N .lss (t 8) (t 7))])
(s (w (t 9) k
(e 0))
(s (b 1 (s (r [a 10 8,
a 5 10])
(s (r [a 11 1,
a 12 0,
a 13 5,
o 14 (.idxS 2 (t 12) (t 13)),
o 15 (.loadN 2 (t 14)),
o 16 (.call (t 11) [(t 15)])])
(w (t 16) (s (r [a 17 5,
a 4 17])
z)
k))))
(r [o 18 (N .add (t 8) (i 1)),
a 8 18])))))))
(s (r [o 4 (.mv (i (-1)))])
z)))⟩

def ir191 : IFunc := ⟨[.tmp 2],
(s (r [o 2 (.mv n)])
(s (r [a 3 0,
o 4 (N .geq (t 3) (i 1)),
a 5 4,
g 6 5 true (.mv (t 0)),
g 7 5 true (N .leq (t 6) (i 64)),
o 8 (.pick (t 5) (t 7) n),
a 2 8])
z))⟩

def ir192 : IFunc := ⟨[.tmp 4],
(s (r [o 4 (.mv n)])
(s (r [a 5 0,
o 6 (N .geq (t 5) (i 0)),
a 7 6,
g 8 7 true (.mv (t 0)),
g 9 7 true (.mv (t 1)),
g 10 7 true (N .lss (t 8) (t 9)),
o 11 (.pick (t 7) (t 10) n),
a 4 11])
z))⟩

def ir193 : IFunc := ⟨[.tmp 6],
(s (r [o 3 (.box 4 (t 0)),
o 6 (.mv n)])
(s (r [a 7 1,
a 8 2,
o 9 (.loadN 4 (t 3)),
o 10 (.mkfn (.func 61) [(t 9)] []),
o 11 (.call (f 224) [(t 7),(t 8),(t 10)]),
a 6 11])
z))⟩

def ir194 : IFunc := ⟨[.tmp 4,.tmp 5],
(s (r [o 2 (.box 4 (t 0)),
o 3 (.box 5 (t 1)),
o 4 (.mv (i 0)),
o 5 (.mv n)])
(s (s (r [p 9 0 3,
l 10 9,
o 11 (N .eql (t 10) (c (.int .u8 6)))])
(w (t 11) (s (d [u 0 (o 13 (.loadN 4 (t 2))) [],
u 1 (p 14 4 3) [],
u 2 (l 15 14) [1],
u 3 (o 16 (.idxS 5 (t 15) (i 0))) [],
u 4 (o 17 (.loadN 5 (t 16))) [3],
u 5 (o 18 (.call (f 148) [(t 13),(t 17)])) [],
u 6 (a 12 18) [],
u 7 (o 19 (.extract 0 (t 12))) [],
u 8 (o 20 (.extract 1 (t 12))) [],
u 9 (a 6 19) [],
u 10 (a 7 20) []])
(s (d [u 2 (a 23 7) [],
u 3 (a 24 23) [],
u 4 (g 25 24 true (.faddr 1 (t 3))) [],
u 5 (g 26 24 true (.load1 (t 25))) [],
u 6 (g 27 24 true (.call (f 191) [(t 26)])) [],
u 0 (p 21 1 3) [],
u 1 (l 22 21) [1,2],
u 7 (o 28 (.pick (t 24) (t 27) n)) [],
u 8 (a 4 22) [],
u 9 (a 5 28) []])
z))
k))
(s (d [u 0 (p 29 2 3) [],
u 1 (l 30 29) [],
u 2 (o 31 (.call (f 191) [(t 30)])) [],
u 3 (a 32 31) [],
u 4 (g 33 32 true (.loadN 4 (t 2))) [],
u 5 (g 34 32 true (.faddr 4 (t 3))) [],
u 6 (g 35 32 true (.load1 (t 34))) [1],
u 7 (g 36 32 true (.idxS 5 (t 35) (i 0))) [],
u 8 (g 37 32 true (.loadN 5 (t 36))) [3],
u 9 (g 38 32 true (.faddr 2 (t 3))) [],
u 10 (g 39 32 true (.load1 (t 38))) [1,3,5],
u 11 (g 40 32 true (.call (f 104) [(t 33),(t 37),(t 39)])) [],
u 12 (o 41 (.pick (t 32) (t 40) n)) [],
u 13 (a 42 41) [],
u 14 (g 43 42 true (.loadN 4 (t 2))) [],
u 15 (g 44 42 true (.faddr 4 (t 3))) [],
u 16 (g 45 42 true (.load1 (t 44))) [1],
u 17 (g 46 42 true (.idxS 5 (t 45) (i 1))) [],
u 18 (g 47 42 true (.loadN 5 (t 46))) [3],
u 19 (g 48 42 true (.faddr 2 (t 3))) [],
u 20 (g 49 42 true (.load1 (t 48))) [1,3,5],
u 21 (g 50 42 true (.call (f 104) [(t 43),(t 47),(t 49)])) [],
u 22 (o 51 (.pick (t 42) (t 50) n)) [],
u 23 (a 8 51) []])
(s (s (r [p 52 1 3,
l 53 52])
(b 0 (s (s (r [o 55 (N .eql (t 53) (i 1)),
a 54 55])
(w (t 54) k
(s (r [o 56 (N .eql (t 53) (i 2)),
a 54 56])
(w (t 54) k
(r [o 57 (N .eql (t 53) (i 3)),
a 54 57])))))
(w (t 54) (s (r [p 58 2 3,
l 59 58,
a 60 8,
a 4 59,
a 5 60])
z)
(s (s (r [o 62 (N .eql (t 53) (i 4)),
a 61 62])
(w (t 61) k
(r [o 63 (N .eql (t 53) (i 5)),
a 61 63])))
(w (t 61) (s (r [a 64 8,
o 4 (.mv (i 2)),
a 5 64])
z)
k))))))
(s (r [o 4 (.mv (i 0)),
o 5 (.mv n)])
z)))))⟩

def ir195 : IFunc := ⟨[.tmp 4,.tmp 5],
(s (r [o 2 (.box 4 (t 0)),
o 3 (.box 5 (t 1)),
o 4 (.mv (i 0)),
o 5 (.mv n)])
(s (s (r [p 21 0 3,
l 22 21])
(b 0 (s (r [o 24 (N .eql (t 22) (c (.int .u8 7))),
a 23 24])
(w (t 23) (s (d [u 0 (o 26 (.loadN 4 (t 2))) [],
u 1 (p 27 4 3) [],
u 2 (l 28 27) [1],
u 3 (o 29 (.idxS 5 (t 28) (i 1))) [],
u 4 (o 30 (.loadN 5 (t 29))) [3],
u 5 (o 31 (.call (f 148) [(t 26),(t 30)])) [],
u 6 (a 25 31) [],
u 7 (o 32 (.extract 0 (t 25))) [],
u 8 (o 33 (.extract 1 (t 25))) [],
u 9 (a 6 32) [],
u 10 (a 7 33) []])
(s (d [u 1 (a 35 7) [],
u 2 (a 36 35) [],
u 3 (g 37 36 true (.loadN 4 (t 2))) [],
u 4 (g 38 36 true (.faddr 4 (t 3))) [],
u 5 (g 39 36 true (.load1 (t 38))) [1],
u 6 (g 40 36 true (.idxS 5 (t 39) (i 0))) [],
u 7 (g 41 36 true (.loadN 5 (t 40))) [3],
u 8 (g 42 36 true (.call (f 104) [(t 37),(t 41),(i 1)])) [],
u 0 (a 34 6) [],
u 9 (o 43 (.pick (t 36) (t 42) n)) [],
u 10 (a 4 34) [],
u 11 (a 5 43) []])
z))
(s (r [o 45 (N .eql (t 22) (c (.int .u8 8))),
a 44 45])
(w (t 44) (s (d [u 0 (o 47 (.loadN 4 (t 2))) [],
u 1 (o 48 (.loadN 4 (t 2))) [0],
u 2 (p 49 4 3) [],
u 3 (l 50 49) [1,2],
u 4 (o 51 (.idxS 5 (t 50) (i 1))) [],
u 5 (o 52 (.loadN 5 (t 51))) [3,4],
u 6 (p 53 4 3) [],
u 7 (l 54 53) [1,3,5,6],
u 8 (o 55 (.idxS 5 (t 54) (i 2))) [],
u 9 (o 56 (.loadN 5 (t 55))) [3,5,7,8],
u 10 (o 57 (.call (f 225) [(t 47),(t 48),(t 52),(t 56)])) [],
u 11 (a 46 57) [],
u 12 (o 58 (.extract 0 (t 46))) [],
u 13 (o 59 (.extract 1 (t 46))) [],
u 14 (a 8 58) [],
u 15 (a 9 59) []])
(s (d [u 0 (o 61 (.loadN 4 (t 2))) [],
u 1 (p 62 4 3) [],
u 2 (l 63 62) [1],
u 3 (o 64 (.idxS 5 (t 63) (i 0))) [],
u 4 (o 65 (.loadN 5 (t 64))) [3],
u 5 (o 66 (.call (f 148) [(t 61),(t 65)])) [],
u 6 (a 60 66) [],
u 7 (o 67 (.extract 0 (t 60))) [],
u 8 (o 68 (.extract 1 (t 60))) [],
u 9 (a 10 67) [],
u 10 (a 11 68) []])
(s (r [a 69 8,
a 70 9,
a 71 70,
g 72 71 true (.mv (t 11)),
o 73 (.pick (t 71) (t 72) n),
a 4 69,
a 5 73])
z)))
(s (r [o 75 (N .eql (t 22) (c (.int .u8 9))),
a 74 75])
(w (t 74) (s (d [u 0 (o 77 (.loadN 4 (t 2))) [],
u 1 (p 78 4 3) [],
u 2 (l 79 78) [1],
u 3 (o 80 (.idxS 5 (t 79) (i 0))) [],
u 4 (o 81 (.loadN 5 (t 80))) [3],
u 5 (o 82 (.call (f 148) [(t 77),(t 81)])) [],
u 6 (a 76 82) [],
u 7 (o 83 (.extract 0 (t 76))) [],
u 8 (o 84 (.extract 1 (t 76))) [],
u 9 (a 12 83) [],
u 10 (a 13 84) []])
(s (d [u 0 (a 85 13) [],
u 1 (a 86 85) [],
u 2 (g 87 86 true (.loadN 4 (t 2))) [],
u 3 (g 88 86 true (.faddr 4 (t 3))) [],
u 4 (g 89 86 true (.load1 (t 88))) [1],
u 5 (g 90 86 true (.idxS 5 (t 89) (i 1))) [],
u 6 (g 91 86 true (.loadN 5 (t 90))) [3],
u 7 (g 92 86 true (.call (f 104) [(t 87),(t 91),(i 1)])) [],
u 8 (o 93 (.pick (t 86) (t 92) n)) [],
u 9 (o 4 (.mv (i 1))) [],
u 10 (a 5 93) []])
z))
(s (r [o 95 (N .eql (t 22) (c (.int .u8 10))),
a 94 95])
(w (t 94) (s (d [u 0 (o 97 (.loadN 4 (t 2))) [],
u 1 (p 98 1 3) [],
u 2 (l 99 98) [1],
u 3 (o 100 (.build [(.bool false),(.int .i64 0)] [(0,1,y),(1,1,(t 99))])) [],
u 4 (o 101 (.build [(.slice none 0 0),(.bool false),(.int .i64 0)] [(1,2,(t 100))])) [],
u 5 (o 102 (.build [(.slice none 0 0),(.bool false),(.int .i64 0),(.bool false)] [(0,3,(t 101))])) [],
u 6 (o 103 (.call (f 107) [(t 97),(t 102)])) [],
u 7 (p 104 4 3) [],
u 8 (l 105 104) [1,5,7],
u 9 (o 106 (.idxS 5 (t 105) (i 0))) [],
u 10 (o 107 (.loadN 5 (t 106))) [3,7,9],
u 11 (o 108 (.call (f 148) [(t 103),(t 107)])) [],
u 12 (a 96 108) [],
u 13 (o 109 (.extract 0 (t 96))) [],
u 14 (o 110 (.extract 1 (t 96))) [],
u 15 (a 14 109) [],
u 16 (a 15 110) []])
(s (r [a 111 14,
a 112 15,
a 113 112,
g 114 113 true (.faddr 1 (t 3)),
g 115 113 true (.load1 (t 114)),
g 116 113 true (.call (f 191) [(t 115)]),
o 117 (.pick (t 113) (t 116) n),
a 118 117,
g 119 118 true (.faddr 2 (t 3)),
g 120 118 true (.load1 (t 119)),
g 121 118 true (.faddr 1 (t 3)),
g 122 118 true (.load1 (t 121)),
g 123 118 true (.call (f 192) [(t 120),(t 122)]),
o 124 (.pick (t 118) (t 123) n),
a 4 111,
a 5 124])
z))
(s (r [o 126 (N .eql (t 22) (c (.int .u8 11))),
a 125 126])
(w (t 125) (s (r [o 127 (.loadN 4 (t 2)),
o 16 (.mk 136 [(.slice none 0 0),(.int .i64 0),(.int .i64 0),(.map none)]),
q (.store 4 (t 16) (t 127))])
(s (r [p 128 2 16,
l 129 128,
o 130 (N .add (t 129) (i 1)),
p 131 2 16,
q (.store 1 (t 131) (t 130))])
(s (d [u 0 (o 132 (.loadN 4 (t 2))) [],
u 1 (o 133 (.loadN 4 (t 16))) [0],
u 2 (p 134 4 3) [],
u 3 (l 135 134) [1,2],
u 4 (o 136 (.idxS 5 (t 135) (i 0))) [],
u 5 (o 137 (.loadN 5 (t 136))) [3,4],
u 6 (p 138 4 3) [],
u 7 (l 139 138) [1,3,5,6],
u 8 (o 140 (.idxS 5 (t 139) (i 1))) [],
u 9 (o 141 (.loadN 5 (t 140))) [3,5,7,8],
u 10 (o 142 (.call (f 225) [(t 132),(t 133),(t 137),(t 141)])) [],
u 11 (o 143 (.extract 0 (t 142))) [],
u 12 (o 144 (.extract 1 (t 142))) [],
u 13 (a 4 143) [],
u 14 (a 5 144) []])
z)))
(s (r [o 146 (N .eql (t 22) (c (.int .u8 13))),
a 145 146])
(w (t 145) (s (d [u 0 (o 147 (.loadN 4 (t 2))) [],
u 1 (o 148 (.loadN 4 (t 2))) [0],
u 2 (p 149 4 3) [],
u 3 (l 150 149) [1,2],
u 4 (o 151 (.idxS 5 (t 150) (i 0))) [],
u 5 (o 152 (.loadN 5 (t 151))) [3,4],
u 6 (p 153 4 3) [],
u 7 (l 154 153) [1,3,5,6],
u 8 (o 155 (.idxS 5 (t 154) (i 1))) [],
u 9 (o 156 (.loadN 5 (t 155))) [3,5,7,8],
u 10 (o 157 (.call (f 225) [(t 147),(t 148),(t 152),(t 156)])) [],
u 11 (o 158 (.extract 0 (t 157))) [],
u 12 (o 159 (.extract 1 (t 157))) [],
u 13 (a 4 158) [],
u 14 (a 5 159) []])
z)
(s (r [o 161 (N .eql (t 22) (c (.int .u8 18))),
a 160 161])
(w (t 160) (s (d [u 0 (o 163 (.loadN 4 (t 2))) [],
u 1 (p 164 4 3) [],
u 2 (l 165 164) [1],
u 3 (o 166 (.idxS 5 (t 165) (i 0))) [],
u 4 (o 167 (.loadN 5 (t 166))) [3],
u 5 (o 168 (.call (f 148) [(t 163),(t 167)])) [],
u 6 (a 162 168) [],
u 7 (o 169 (.extract 0 (t 162))) [],
u 8 (o 170 (.extract 1 (t 162))) [],
u 9 (a 17 169) [],
u 10 (a 18 170) []])
(s (r [o 172 (.loadN 4 (t 2)),
p 173 3 3,
l 174 173,
o 175 (.call (f 106) [(t 172),(t 174)]),
a 171 175,
o 176 (.extract 0 (t 171)),
o 177 (.extract 1 (t 171)),
a 19 176,
a 20 177])
(s (r [a 178 17,
a 179 18,
a 180 179,
g 181 180 true (.mv (t 20)),
o 182 (.pick (t 180) (t 181) n),
a 183 182,
g 184 183 true (.faddr 3 (t 3)),
g 185 183 true (.load1 (t 184)),
g 186 183 true (.faddr 1 (t 2)),
g 187 183 true (.load1 (t 186)),
g 188 183 true (N .gtr (t 185) (t 187)),
o 189 (.pick (t 183) (t 188) n),
a 190 189,
g 191 190 true (.faddr 1 (t 3)),
g 192 190 true (.load1 (t 191)),
g 193 190 true (.mv (t 19)),
g 194 190 true (.call (f 192) [(t 192),(t 193)]),
o 195 (.pick (t 190) (t 194) n),
a 4 178,
a 5 195])
z)))
k))))))))))))))))
(s (r [o 4 (.mv (i 0)),
o 5 (.mv n)])
z)))⟩

def ir196 : IFunc := ⟨[],
(s (r [o 5 (.box 1 (t 0)),
o 6 (.box 2 (t 1)),
o 7 (.box 4 (t 2)),
o 8 (.box 1 (t 3)),
o 9 (.box 1 (t 4))])
(s (r [o 12 (.mkmap),
o 10 (.mk 70 [(.map none)]),
q (.store 1 (t 10) (t 12))])
(s (r [l 13 5,
o 14 (.loadN 2 (t 6)),
o 15 (.mkfn (.func 226) [] [(t 5),(t 7),(t 8),(t 10),(t 9)]),
o 16 (.call (f 53) [(t 13),(t 14),(t 15)]),
a 11 16])
(r [l 17 5,
l 18 8,
o 19 (.loadN 4 (t 7)),
a 20 11,
o 21 (.call (f 65) [(t 17),(t 18),(t 19),(t 20)])]))))⟩

def ir197 : IFunc := ⟨[.cellN 6 3],
(s (r [o 3 (.box 5 (t 0)),
o 4 (.box 5 (t 1)),
o 6 (.mk 69 [(.slice none 0 0),(.slice none 0 0),(.bool false)])])
(s (r [o 14 (.buildSlice 1 [(.int .i64 0)] [(0,1,(i 0))]),
o 15 (.build [(.slice none 0 0),(.slice none 0 0)] [(1,1,(t 14))]),
o 16 (.box 2 (t 15)),
o 7 (.mk 112 [(.pointer none)]),
q (.store 1 (t 7) (t 16))])
(s (r [o 17 (.mkmap),
a 8 17])
(s (r [o 9 (.mk 292 [(.slice none 0 0)])])
(s (d [u 0 (l 18 7) [],
u 1 (a 19 2) [],
u 2 (o 20 (.idxS 3 (t 19) (i 0))) [],
u 3 (p 21 0 20) [],
u 4 (o 22 (.loadN 2 (t 21))) [3],
u 5 (o 23 (.mkfn (.func 227) [] [(t 9)])) [],
u 6 (o 24 (.call (f 53) [(t 18),(t 22),(t 23)])) []])
(s (s (r [l 25 9,
o 26 (.len (t 25)),
o 27 (.mv (i 0))])
(b 0 (lo (s (r [o 28 (N .lss (t 27) (t 26))])
(s (w (t 28) k
(e 0))
(s (b 1 (s (r [o 29 (.idxS 2 (t 25) (t 27)),
o 30 (.loadN 2 (t 29)),
o 11 (.mk 294 [(.int .i64 0),(.int .i64 0)]),
q (.store 2 (t 11) (t 30))])
(s (s (r [a 32 8,
p 33 1 11,
l 34 33,
o 35 (.lookup (.sc .num) (.int .i64 0) true (t 32) (t 34)),
a 31 35,
o 36 (.extract 0 (t 31)),
o 37 (.extract 1 (t 31)),
a 12 36,
a 13 37])
(s (r [a 38 13,
o 39 (.not (t 38))])
(w (t 39) (d [u 3 (l 43 7) [],
u 4 (a 44 2) [],
u 5 (o 45 (.idxS 3 (t 44) (i 1))) [],
u 6 (p 46 0 45) [],
u 7 (o 47 (.loadN 2 (t 46))) [3],
u 8 (o 48 (.mkfn (.func 228) [] [(t 7),(t 4),(t 11)])) [],
u 9 (o 49 (.call (f 53) [(t 43),(t 47),(t 48)])) [],
u 0 (a 40 8) [],
u 1 (p 41 1 11) [],
u 2 (l 42 41) [2,4,8],
u 10 (q (.insert (.sc .num) (t 40) (t 42) (t 49))) []])
k)))
(r [l 50 7,
p 51 0 11,
l 52 51,
a 53 8,
p 54 1 11,
l 55 54,
o 56 (.lookup (.sc .num) (.int .i64 0) false (t 53) (t 55)),
o 57 (.call (f 95) [(t 50),(t 52),(t 56)])]))))
(r [o 58 (N .add (t 27) (i 1)),
a 27 58])))))))
(s (r [l 59 7,
o 60 (.call (f 46) [(t 59)]),
q (.store 3 (t 6) (t 60))])
z)))))))⟩

def ir199 : IFunc := ⟨[.cellN 6 3],
(s (r [o 3 (.box 5 (t 0)),
o 4 (.box 5 (t 1)),
o 6 (.mk 69 [(.slice none 0 0),(.slice none 0 0),(.bool false)])])
(s (d [u 0 (a 7 2) [],
u 1 (o 8 (.idxS 3 (t 7) (i 0))) [],
u 2 (p 9 0 8) [],
u 3 (o 10 (.loadN 2 (t 9))) [],
u 4 (a 11 2) [],
u 5 (o 12 (.idxS 3 (t 11) (i 1))) [],
u 6 (p 13 0 12) [],
u 7 (o 14 (.loadN 2 (t 13))) [3],
u 8 (o 15 (.buildSlice 1 [(.slice none 0 0),(.slice none 0 0)] [(0,2,(t 14))])) [4],
u 9 (o 16 (.call (f 47) [(t 10),(t 15),(f 231)])) [],
u 10 (o 17 (.call (f 46) [(t 16)])) [],
u 11 (q (.store 3 (t 6) (t 17))) []])
z))⟩

def ir201 : IFunc := ⟨[.cellN 6 3],
(s (r [o 3 (.box 5 (t 0)),
o 4 (.box 5 (t 1)),
o 6 (.mk 69 [(.slice none 0 0),(.slice none 0 0),(.bool false)])])
(s (d [u 0 (a 7 2) [],
u 1 (o 8 (.idxS 3 (t 7) (i 0))) [],
u 2 (p 9 0 8) [],
u 3 (o 10 (.loadN 2 (t 9))) [],
u 4 (a 11 2) [],
u 5 (o 12 (.idxS 3 (t 11) (i 1))) [],
u 6 (p 13 0 12) [],
u 7 (o 14 (.loadN 2 (t 13))) [3],
u 8 (o 15 (.call (f 233) [(t 10),(t 14)])) [],
u 9 (o 16 (.call (f 46) [(t 15)])) [],
u 10 (q (.store 3 (t 6) (t 16))) []])
z))⟩

def ir202 : IFunc := ⟨[.cellN 6 3],
(s (r [o 3 (.box 5 (t 0)),
o 4 (.box 5 (t 1)),
o 6 (.mk 69 [(.slice none 0 0),(.slice none 0 0),(.bool false)])])
(s (d [u 0 (a 7 2) [],
u 1 (o 8 (.idxS 3 (t 7) (i 0))) [],
u 2 (p 9 0 8) [],
u 3 (o 10 (.loadN 2 (t 9))) [],
u 4 (a 11 2) [],
u 5 (o 12 (.idxS 3 (t 11) (i 1))) [],
u 6 (p 13 0 12) [],
u 7 (o 14 (.loadN 2 (t 13))) [3],
u 8 (o 15 (.call (f 234) [(t 10),(t 14)])) [],
u 9 (o 16 (.call (f 46) [(t 15)])) [],
u 10 (q (.store 3 (t 6) (t 16))) []])
z))⟩

def ir203 : IFunc := ⟨[.cellN 6 3],
(s (r [o 3 (.box 5 (t 0)),
o 4 (.box 5 (t 1)),
o 6 (.mk 69 [(.slice none 0 0),(.slice none 0 0),(.bool false)])])
(s (r [o 10 (.build [(.slice none 0 0),(.slice none 0 0)] []),
o 11 (.box 2 (t 10)),
a 7 11])
(s (s (r [a 12 2,
o 13 (.len (t 12)),
o 14 (.mv (i 0))])
(b 0 (lo (s (r [o 15 (N .lss (t 14) (t 13))])
(s (w (t 15) k
(e 0))
(s (b 1 (s (r [o 16 (.idxS 3 (t 12) (t 14)),
o 17 (.loadN 3 (t 16)),
o 9 (.mk 69 [(.slice none 0 0),(.slice none 0 0),(.bool false)]),
q (.store 3 (t 9) (t 17))])
(d [u 5 (a 23 7) [],
u 6 (p 24 0 9) [],
u 7 (o 25 (.loadN 2 (t 24))) [],
u 8 (o 26 (.call (f 53) [(t 23),(t 25),(f 54)])) [],
u 0 (a 18 7) [],
u 1 (a 19 7) [],
u 2 (o 20 (.nilCheck (t 19))) [],
u 3 (p 21 1 20) [],
u 4 (l 22 21) [4,5],
u 9 (o 27 (.buildSlice 1 [(.int .i64 0)] [(0,1,(t 26))])) [0],
u 10 (o 28 (.append 3 1 8 (t 22) (t 27))) [],
u 11 (o 29 (.nilCheck (t 18))) [],
u 12 (p 30 1 29) [],
u 13 (q (.store 1 (t 30) (t 28))) []])))
(r [o 31 (N .add (t 14) (i 1)),
a 14 31])))))))
(s (r [a 32 7,
o 33 (.call (f 46) [(t 32)]),
q (.store 3 (t 6) (t 33))])
z))))⟩

def ir206 : IFunc := ⟨[.tmp 2],
(s (r [o 2 (.mv n)])
(s (r [a 3 0,
a 4 0,
o 5 (N .neq (t 3) (t 4)),
a 2 5])
z))⟩

def ir207 : IFunc := ⟨[.tmp 2],
(s (r [o 2 (.mv n)])
(s (r [a 3 0,
a 4 0,
o 5 (N .neq (t 3) (t 4)),
a 2 5])
z))⟩

def ir208 : IFunc := ⟨[.tmp 2],
(s (r [o 2 (.mv (c (.string ⟨#[]⟩)))])
(s (r [a 3 0,
o 4 (.call (f 237) [(t 3),(i 10)]),
a 2 4])
z))⟩

def ir210 : IFunc := ⟨[.tmp 4,.tmp 5],
(s (r [o 4 (.mv (c (.int .u64 0))),
o 5 (.mv (c (.int .u64 0)))])
(s (r [a 14 0,
o 15 (N .and (t 14) (c (.int .u64 4294967295))),
a 6 15])
(s (r [a 16 0,
o 17 (N .shr (t 16) (c (.int .u64 32))),
a 7 17])
(s (r [a 18 1,
o 19 (N .and (t 18) (c (.int .u64 4294967295))),
a 8 19])
(s (r [a 20 1,
o 21 (N .shr (t 20) (c (.int .u64 32))),
a 9 21])
(s (r [a 22 6,
a 23 8,
o 24 (N .mul (t 22) (t 23)),
a 10 24])
(s (r [a 25 7,
a 26 8,
o 27 (N .mul (t 25) (t 26)),
a 28 10,
o 29 (N .shr (t 28) (c (.int .u64 32))),
o 30 (N .add (t 27) (t 29)),
a 11 30])
(s (r [a 31 11,
o 32 (N .and (t 31) (c (.int .u64 4294967295))),
a 12 32])
(s (r [a 33 11,
o 34 (N .shr (t 33) (c (.int .u64 32))),
a 13 34])
(s (r [a 35 12,
a 36 6,
a 37 9,
o 38 (N .mul (t 36) (t 37)),
o 39 (N .add (t 35) (t 38)),
a 12 39])
(s (r [a 40 7,
a 41 9,
o 42 (N .mul (t 40) (t 41)),
a 43 13,
o 44 (N .add (t 42) (t 43)),
a 45 12,
o 46 (N .shr (t 45) (c (.int .u64 32))),
o 47 (N .add (t 44) (t 46)),
a 4 47])
(s (r [a 48 0,
a 49 1,
o 50 (N .mul (t 48) (t 49)),
a 5 50])
z))))))))))))⟩

def ir211 : IFunc := ⟨[],
(s (r [a 2 0,
o 3 (.nilCheck (t 2)),
p 4 0 3,
l 5 4,
o 6 (.bin .ptr .eql (t 5) (c (.pointer none)))])
(w (t 6) (r [a 7 0,
a 8 0,
o 9 (.toU (t 8)),
o 10 (.call (f 238) [(t 9)]),
o 11 (.frU 238 2 (t 10)),
o 12 (.nilCheck (t 7)),
p 13 0 12,
q (.store 1 (t 13) (t 11))])
(s (r [a 14 0,
o 15 (.nilCheck (t 14)),
p 16 0 15,
l 17 16,
a 18 0,
o 19 (.bin .ptr .neq (t 17) (t 18))])
(w (t 19) .bad
k))))⟩

def ir212 : IFunc := ⟨[.tmp 2],
(s (r [o 2 (.mv (c (.string ⟨#[]⟩)))])
(s (s (r [a 3 0])
(w (t 3) (s (r [o 2 (.mv (c (.string ⟨#[116,114,117,101]⟩)))])
z)
k))
(s (r [o 2 (.mv (c (.string ⟨#[102,97,108,115,101]⟩)))])
z)))⟩

def ir218 : IFunc := ⟨[.tmp 4],
(s (r [o 2 (.box 1 (t 0)),
o 3 (.box 1 (t 1)),
o 4 (.mv (c .nilFunc))])
(s (r [o 5 (.mkfn (.func 240) [] [(t 3),(t 2)]),
a 4 5])
z))⟩

def ir219 : IFunc := ⟨[],
(s (r [a 5 0,
o 6 (.len (t 5)),
a 4 6])
(r [a 7 0,
a 8 4,
a 9 4,
o 10 (.conv .u64 (t 9)),
o 11 (.call (f 140) [(t 10)]),
a 12 1,
o 13 (.call (f 241) [(t 7),(i 0),(t 8),(t 11),(t 12)])]))⟩

def ir220 : IFunc := ⟨[.tmp 4],
(s (r [o 2 (.box 5 (t 0)),
o 3 (.box 5 (t 1)),
o 4 (.mv (i 0))])
(s (d [u 0 (p 5 0 2) [],
u 1 (o 6 (.loadN 4 (t 5))) [],
u 2 (p 7 0 3) [],
u 3 (o 8 (.loadN 4 (t 7))) [1],
u 4 (o 9 (.call (f 242) [(t 6),(t 8)])) [],
u 5 (p 10 4 2) [],
u 6 (l 11 10) [1,2,4],
u 7 (p 12 4 3) [],
u 8 (l 13 12) [1,3,4,6],
u 9 (o 14 (.call (f 159) [(t 11),(t 13)])) [],
u 10 (o 15 (.buildSlice 2 [(.int .i64 0),(.int .i64 0)] [(0,1,(t 9)),(1,1,(t 14))])) [],
u 11 (o 16 (.call (f 158) [(t 15)])) [],
u 12 (a 4 16) []])
z))⟩

def ir222 : IFunc := ⟨[.tmp 3],
(s (r [o 2 (.box 5 (t 0)),
o 3 (.mv n)])
(s (r [l 4 1,
p 5 4 2,
l 6 5,
o 7 (.idxS 1 (t 4) (t 6)),
l 8 7,
a 3 8])
z))⟩

def ir223 : IFunc := ⟨[.tmp 3],
(s (r [o 2 (.box 5 (t 0)),
o 3 (.mv n)])
(s (r [p 4 0 2,
o 5 (.loadN 4 (t 4)),
o 6 (.loadN 4 (t 1)),
o 7 (.eqF (.ag [(0,.num),(1,.num),(2,.num),(3,.num)]) false (t 5) (t 6)),
a 3 7])
z))⟩

def ir224 : IFunc := ⟨[.tmp 6],
(s (r [o 6 (.mv n)])
(s (s (r [a 10 0,
o 11 (.len (t 10)),
a 12 1,
o 13 (.len (t 12)),
o 14 (N .neq (t 11) (t 13))])
(w (t 14) (s (r [o 6 (.mv n)])
z)
k))
(s (s (r [a 15 0,
o 16 (.len (t 15)),
o 17 (.mv (i 0))])
(b 0 (lo (s (r [o 18 (N .lss (t 17) (t 16))])
(s (w (t 18) k
(e 0))
(s (b 1 (s (r [a 19 17,
o 20 (.idxS 5 (t 15) (t 17)),
o 21 (.loadN 5 (t 20)),
o 8 (.mk 37 [(.int .u8 0),(.int .i64 0),(.int .i64 0),(.int .i64 0),(.slice none 0 0)]),
a 7 19,
q (.store 5 (t 8) (t 21))])
(s (r [a 22 1,
a 23 7,
o 24 (.idxS 2 (t 22) (t 23)),
o 25 (.loadN 2 (t 24)),
o 9 (.mk 24 [(.bool false),(.int .i64 0)]),
q (.store 2 (t 9) (t 25))])
(s (r [a 26 2,
o 27 (.loadN 5 (t 8)),
o 28 (.loadN 2 (t 9)),
o 29 (.call (t 26) [(t 27),(t 28)]),
o 30 (.not (t 29))])
(w (t 30) (s (r [o 6 (.mv n)])
z)
k)))))
(r [o 31 (N .add (t 17) (i 1)),
a 17 31])))))))
(s (r [o 6 (.mv y)])
z))))⟩

def ir225 : IFunc := ⟨[.tmp 8,.tmp 9],
(s (r [o 4 (.box 4 (t 0)),
o 5 (.box 4 (t 1)),
o 6 (.box 5 (t 2)),
o 7 (.box 5 (t 3)),
o 8 (.mv (i 0)),
o 9 (.mv n)])
(s (r [o 13 (.loadN 4 (t 5)),
o 14 (.loadN 5 (t 6)),
o 15 (.call (f 148) [(t 13),(t 14)]),
a 12 15,
o 16 (.extract 0 (t 12)),
o 17 (.extract 1 (t 12)),
a 10 16,
a 11 17])
(s (r [a 18 10,
a 19 11,
a 20 19,
g 21 20 true (.loadN 4 (t 4)),
g 22 20 true (.loadN 5 (t 7)),
g 23 20 true (.mv (t 10)),
g 24 20 true (.call (f 104) [(t 21),(t 22),(t 23)]),
o 25 (.pick (t 20) (t 24) n),
a 8 18,
a 9 25])
z)))⟩

def ir226 : IFunc := ⟨[.tmp 11],
(s (r [o 11 (.mv n)])
(s (s (r [a 14 1,
o 15 (N .geq (t 14) (i 0))])
(w (t 15) (s (d [u 2 (p 18 0 4) [],
u 3 (l 19 18) [],
u 4 (p 20 1 4) [],
u 5 (l 21 20) [1],
u 6 (a 22 1) [],
u 7 (o 23 (.call (f 97) [(t 19),(t 21),(t 22)])) [],
u 0 (l 16 3) [0,2,4],
u 1 (a 17 0) [],
u 8 (l 24 5) [1,2,4,6],
u 9 (o 25 (.call (f 65) [(t 16),(t 17),(t 23),(t 24)])) []])
(s (r [o 11 (.mv y)])
z))
k))
(s (s (r [l 27 6,
a 28 1,
o 29 (.lookup (.sc .num) (.int .i64 0) true (t 27) (t 28)),
a 26 29,
o 30 (.extract 0 (t 26)),
o 31 (.extract 1 (t 26)),
a 12 30,
a 13 31])
(s (r [a 32 13,
o 33 (.not (t 32))])
(w (t 33) (s (d [u 2 (l 36 3) [],
u 3 (o 37 (.call (f 62) [(t 36),n])) [],
u 0 (l 34 6) [0,1],
u 1 (a 35 1) [],
u 4 (q (.insert (.sc .num) (t 34) (t 35) (t 37))) []])
(d [u 5 (p 43 0 4) [],
u 6 (l 44 43) [],
u 7 (o 45 (.call (f 97) [(t 44),(i 0),(i (-1))])) [],
u 8 (a 46 1) [],
u 9 (o 47 (.call (f 152) [(t 46)])) [],
u 0 (l 38 3) [0,2,3],
u 1 (l 39 6) [0,1,3,4],
u 2 (a 40 1) [],
u 3 (o 41 (.lookup (.sc .num) (.int .i64 0) false (t 39) (t 40))) [2,3,5,6],
u 4 (l 42 7) [0,2,3,4,6,7],
u 10 (o 48 (.buildSlice 2 [(.int .i64 0),(.int .i64 0),(.int .u8 0),(.int .i64 0),(.int .i64 0),(.int .i64 0),(.int .u8 0),(.int .i64 0)] [(0,4,(t 45)),(4,4,(t 47))])) [0,1,3,4],
u 11 (o 49 (.call (f 156) [(t 38),(t 41),(t 42),(t 48)])) []]))
k)))
(s (d [u 2 (p 52 0 4) [],
u 3 (l 53 52) [],
u 4 (p 54 1 4) [],
u 5 (l 55 54) [1],
u 6 (o 56 (.call (f 97) [(t 53),(t 55),(i (-1))])) [],
u 0 (l 50 3) [0,1,3],
u 1 (a 51 0) [],
u 7 (l 57 6) [1,2,3,5],
u 8 (a 58 1) [],
u 9 (o 59 (.lookup (.sc .num) (.int .i64 0) false (t 57) (t 58))) [3,4,5,7],
u 10 (o 60 (.call (f 65) [(t 50),(t 51),(t 56),(t 59)])) []])
(s (r [o 11 (.mv y)])
z)))))⟩

def ir227 : IFunc := ⟨[.tmp 7],
(s (r [o 7 (.mv n)])
(s (s (r [a 8 1,
o 9 (N .geq (t 8) (i 0))])
(w (t 9) (r [l 10 3,
a 11 0,
a 12 1,
o 13 (.build [(.int .i64 0),(.int .i64 0)] [(0,1,(t 11)),(1,1,(t 12))]),
o 14 (.buildSlice 1 [(.int .i64 0),(.int .i64 0)] [(0,2,(t 13))]),
o 15 (.append 294 2 16 (t 10) (t 14)),
q (.store 1 (t 3) (t 15))])
k))
(s (r [a 16 1,
o 17 (N .geq (t 16) (i 0)),
a 7 17])
z)))⟩

def ir228 : IFunc := ⟨[.tmp 9],
(s (r [o 9 (.mv n)])
(s (s (r [a 10 1,
o 11 (N .geq (t 10) (i 0))])
(w (t 11) (d [u 2 (p 14 1 4) [],
u 3 (l 15 14) [],
u 4 (p 16 2 4) [],
u 5 (l 17 16) [1],
u 6 (p 18 1 5) [],
u 7 (l 19 18) [1,3],
u 8 (a 20 1) [],
u 9 (o 21 (.call (f 229) [(t 15),(t 17),(t 19),(t 20)])) [],
u 10 (o 22 (.call (f 152) [(t 21)])) [],
u 0 (l 12 3) [0,1,3,5,7],
u 1 (a 13 0) [],
u 11 (a 23 2) [],
u 12 (o 24 (.call (f 65) [(t 12),(t 13),(t 22),(t 23)])) []])
k))
(s (r [a 25 1,
o 26 (N .geq (t 25) (i 0)),
a 9 26])
z)))⟩

def ir229 : IFunc := ⟨[.tmp 8],
(s (r [o 8 (.mv (i 0))])
(s (r [o 9 (.mv n)])
(s (s (r [a 10 0])
(b 0 (s (r [o 12 (N .eql (t 10) (i 1)),
a 11 12])
(w (t 11) (s (r [a 13 2,
a 14 3,
o 15 (N .add (t 13) (t 14)),
a 16 1,
o 17 (N .rem (t 15) (t 16)),
a 8 17])
z)
(s (r [o 19 (N .eql (t 10) (i 2)),
a 18 19])
(w (t 18) (s (r [a 20 2,
a 21 3,
o 22 (N .sub (t 20) (t 21)),
a 23 1,
o 24 (N .add (t 22) (t 23)),
a 25 1,
o 26 (N .rem (t 24) (t 25)),
a 8 26])
z)
(s (r [o 28 (N .eql (t 10) (i 3)),
a 27 28])
(w (t 27) (s (r [a 29 2,
a 30 3,
o 31 (N .mul (t 29) (t 30)),
a 32 1,
o 33 (N .rem (t 31) (t 32)),
a 8 33])
z)
(s (r [o 35 (N .eql (t 10) (i 4)),
a 34 35])
(w (t 34) (r [a 36 2,
a 37 3,
o 38 (N .eql (t 36) (t 37)),
a 9 38])
(s (r [o 40 (N .eql (t 10) (i 5)),
a 39 40])
(w (t 39) (r [a 41 2,
a 42 3,
o 43 (N .lss (t 41) (t 42)),
a 9 43])
k))))))))))))
(s (s (r [a 44 9])
(w (t 44) (s (r [o 8 (.mv (i 1))])
z)
k))
(s (r [o 8 (.mv (i 0))])
z)))))⟩

def ir231 : IFunc := ⟨[.tmp 2,.tmp 3],
(s (r [o 2 (.mv (i 0)),
o 3 (.mv n)])
(s (r [a 4 0,
o 5 (N .geq (t 4) (i 0)),
o 2 (.mv (i 0)),
a 3 5])
z))⟩

def ir233 : IFunc := ⟨[.tmp 4],
(s (r [o 2 (.box 2 (t 0)),
o 3 (.box 2 (t 1)),
o 4 (.mv (c (.pointer none)))])
(s (r [o 10 (.buildSlice 1 [(.int .i64 0)] [(0,1,(i 0))]),
o 11 (.build [(.slice none 0 0),(.slice none 0 0)] [(1,1,(t 10))]),
o 12 (.box 2 (t 11)),
o 5 (.mk 112 [(.pointer none)]),
q (.store 1 (t 5) (t 12))])
(s (r [o 6 (.mk 61 [(.slice none 0 0)])])
(s (r [l 13 5,
o 14 (.loadN 2 (t 2)),
o 15 (.mkfn (.func 244) [] [(t 6)]),
o 16 (.call (f 53) [(t 13),(t 14),(t 15)])])
(s (r [l 17 5,
o 18 (.loadN 2 (t 3)),
o 19 (.mkfn (.func 245) [] [(t 5)]),
o 20 (.call (f 53) [(t 17),(t 18),(t 19)]),
a 7 20])
(s (s (r [l 21 6,
o 22 (.len (t 21)),
o 23 (.mv (i 0))])
(b 0 (lo (s (r [o 24 (N .lss (t 23) (t 22))])
(s (w (t 24) k
(e 0))
(s (b 1 (s (r [o 25 (.idxS 1 (t 21) (t 23)),
l 26 25,
a 9 26])
(r [l 27 5,
a 28 9,
a 29 7,
o 30 (.call (f 95) [(t 27),(t 28),(t 29)])])))
(r [o 31 (N .add (t 23) (i 1)),
a 23 31])))))))
(s (r [l 32 5,
a 4 32])
z)))))))⟩

def ir234 : IFunc := ⟨[.tmp 4],
(s (r [o 2 (.box 2 (t 0)),
o 3 (.box 2 (t 1)),
o 4 (.mv (c (.pointer none)))])
(s (r [o 10 (.buildSlice 1 [(.int .i64 0)] [(0,1,(i 0))]),
o 11 (.build [(.slice none 0 0),(.slice none 0 0)] [(1,1,(t 10))]),
o 12 (.box 2 (t 11)),
o 5 (.mk 112 [(.pointer none)]),
q (.store 1 (t 5) (t 12))])
(s (r [o 6 (.mk 61 [(.slice none 0 0)])])
(s (r [l 13 5,
o 14 (.loadN 2 (t 2)),
o 15 (.mkfn (.func 246) [] [(t 6),(t 5)]),
o 16 (.call (f 53) [(t 13),(t 14),(t 15)])])
(s (r [l 17 5,
o 18 (.loadN 2 (t 3)),
o 19 (.call (f 53) [(t 17),(t 18),(f 54)]),
a 7 19])
(s (s (r [l 20 6,
o 21 (.len (t 20)),
o 22 (.mv (i 0))])
(b 0 (lo (s (r [o 23 (N .lss (t 22) (t 21))])
(s (w (t 23) k
(e 0))
(s (b 1 (s (r [o 24 (.idxS 1 (t 20) (t 22)),
l 25 24,
a 9 25])
(r [l 26 5,
a 27 9,
a 28 7,
o 29 (.call (f 95) [(t 26),(t 27),(t 28)])])))
(r [o 30 (N .add (t 22) (i 1)),
a 22 30])))))))
(s (r [l 31 5,
a 4 31])
z)))))))⟩

def ir237 : IFunc := ⟨[.tmp 4],
(s (r [o 4 (.mv (c (.string ⟨#[]⟩)))])
(s (s (r [a 10 1,
o 11 (N .eql (t 10) (i 10))])
(w (t 11) (s (s (r [a 12 0,
o 13 (N .leq (i 0) (t 12)),
a 14 13,
g 15 14 true (.mv (t 0)),
g 16 14 true (N .lss (t 15) (i 100)),
o 17 (.pick (t 14) (t 16) n)])
(w (t 17) (s (r [a 18 0,
o 19 (.call (f 247) [(t 18)]),
a 4 19])
z)
k))
(s (r [o 5 (.mk 307 [(.int .u8 0),(.int .u8 0),(.int .u8 0),(.int .u8 0),(.int .u8 0),(.int .u8 0),(.int .u8 0),(.int .u8 0),(.int .u8 0),(.int .u8 0),(.int .u8 0),(.int .u8 0),(.int .u8 0),(.int .u8 0),(.int .u8 0),(.int .u8 0),(.int .u8 0),(.int .u8 0),(.int .u8 0),(.int .u8 0),(.int .u8 0),(.int .u8 0),(.int .u8 0),(.int .u8 0)])])
(s (r [a 20 0,
o 21 (.conv .u64 (t 20)),
a 6 21])
(s (s (r [a 22 0,
o 23 (N .lss (t 22) (i 0))])
(w (t 23) (r [a 24 6,
o 25 (.neg (t 24)),
a 6 25])
k))
(s (r [a 26 6,
o 27 (.call (f 248) [(t 26)]),
a 7 27])
(s (r [a 28 7,
o 29 (N .add (i 1) (t 28)),
o 30 (.sliceA 24 1 (t 5) (some (i 1)) (some (t 29)) none),
a 31 6,
o 32 (.call (f 249) [(t 30),(t 31)])])
(s (s (r [a 33 0,
o 34 (N .lss (t 33) (i 0))])
(w (t 34) (s (r [o 35 (.idxA 24 1 (t 5) (i 0)),
q (.store 1 (t 35) (c (.int .u8 45)))])
(s (r [a 36 7,
o 37 (N .add (i 1) (t 36)),
o 38 (.sliceA 24 1 (t 5) none (some (t 37)) none),
o 39 (.toStr (t 38)),
a 4 39])
z))
k))
(s (r [a 40 7,
o 41 (N .add (i 1) (t 40)),
o 42 (.sliceA 24 1 (t 5) (some (i 1)) (some (t 41)) none),
o 43 (.toStr (t 42)),
a 4 43])
z))))))))
k))
(s (r [a 45 0,
o 46 (.conv .u64 (t 45)),
a 47 1,
a 48 0,
o 49 (N .lss (t 48) (i 0)),
o 50 (.call (f 250) [(c (.slice none 0 0)),(t 46),(t 47),(t 49),n]),
a 44 50,
o 51 (.extract 0 (t 44)),
o 52 (.extract 1 (t 44)),
a 8 51,
a 9 52])
(s (r [a 53 9,
a 4 53])
z))))⟩

def ir240 : IFunc := ⟨[],
(s (r [o 7 (.mkmap),
a 4 7])
(s (r [l 8 1,
o 9 (.call (f 184) [(t 8)]),
a 5 9])
(b 0 (lo (s (s (r [a 10 5,
o 11 (.len (t 10)),
o 12 (N .gtr (t 11) (i 0))])
(w (t 12) k
(e 0)))
(s (b 1 (s (r [a 15 5,
o 16 (.idxS 1 (t 15) (i 0)),
l 17 16,
a 6 17])
(s (s (r [a 18 4,
a 19 6,
o 20 (.lookup (.sc .num) (.bool false) false (t 18) (t 19))])
(w (t 20) (e 1)
k))
(s (r [a 21 4,
a 22 6,
q (.insert (.sc .num) (t 21) (t 22) y)])
(s (s (r [a 23 0,
l 24 2,
o 25 (.nilCheck (t 24)),
p 26 0 25,
l 27 26,
a 28 6,
o 29 (.idxS 3 (t 27) (t 28)),
o 30 (.loadN 3 (t 29)),
o 31 (.call (t 23) [(t 30)]),
o 32 (.not (t 31))])
(w (t 32) z
k))
(r [a 33 5,
l 34 2,
o 35 (.nilCheck (t 34)),
p 36 0 35,
l 37 36,
a 38 6,
o 39 (.idxS 3 (t 37) (t 38)),
p 40 1 39,
l 41 40,
o 42 (.append 3 1 8 (t 33) (t 41)),
a 5 42]))))))
(r [a 13 5,
o 14 (.sliceS 1 (t 13) (some (i 1)) none none),
a 5 14])))))))⟩

def ir241 : IFunc := ⟨[],
(s (r [o 10 (.mv y)])
(s (r [o 11 (.mv y)])
(b 0 (lo (b 1 (s (r [a 21 2,
a 22 1,
o 23 (N .sub (t 21) (t 22)),
a 12 23])
(s (s (r [a 24 12,
o 25 (N .leq (t 24) (i 12))])
(w (t 25) (s (r [a 26 0,
a 27 1,
a 28 2,
a 29 4,
o 30 (.call (f 251) [(t 26),(t 27),(t 28),(t 29)])])
z)
k))
(s (s (r [a 31 3,
o 32 (N .eql (t 31) (i 0))])
(w (t 32) (s (r [a 33 0,
a 34 1,
a 35 2,
a 36 4,
o 37 (.call (f 252) [(t 33),(t 34),(t 35),(t 36)])])
z)
k))
(s (s (r [a 38 10,
o 39 (.not (t 38))])
(w (t 39) (s (r [a 40 0,
a 41 1,
a 42 2,
a 43 4,
o 44 (.call (f 253) [(t 40),(t 41),(t 42),(t 43)])])
(r [a 45 3,
o 46 (N .sub (t 45) (i 1)),
a 3 46]))
k))
(s (r [a 48 0,
a 49 1,
a 50 2,
a 51 4,
o 52 (.call (f 254) [(t 48),(t 49),(t 50),(t 51)]),
a 47 52,
o 53 (.extract 0 (t 47)),
o 54 (.extract 1 (t 47)),
a 13 53,
a 14 54])
(s (s (r [a 55 14,
o 56 (N .eql (t 55) (i 2))])
(w (t 56) (s (r [a 57 0,
a 58 1,
a 59 2,
a 60 4,
o 61 (.call (f 255) [(t 57),(t 58),(t 59),(t 60)])])
(s (r [a 62 2,
o 63 (N .sub (t 62) (i 1)),
a 64 13,
a 65 1,
o 66 (N .sub (t 64) (t 65)),
o 67 (N .sub (t 63) (t 66)),
a 13 67])
(r [o 14 (.mv (i 1))])))
k))
(s (s (r [a 68 10,
a 69 68,
g 70 69 true (.mv (t 11)),
o 71 (.pick (t 69) (t 70) n),
a 72 71,
g 73 72 true (.mv (t 14)),
g 74 72 true (N .eql (t 73) (i 1)),
o 75 (.pick (t 72) (t 74) n)])
(w (t 75) (s (r [a 76 0,
a 77 1,
a 78 2,
a 79 4,
o 80 (.call (f 256) [(t 76),(t 77),(t 78),(t 79)])])
(w (t 80) z
k))
k))
(s (s (d [u 0 (a 81 1) [],
u 1 (o 82 (N .gtr (t 81) (i 0))) [],
u 2 (a 83 82) [],
u 3 (g 84 83 true (.mv (t 4))) [],
u 4 (g 85 83 true (.mv (t 0))) [],
u 5 (g 86 83 true (.mv (t 1))) [],
u 6 (g 87 83 true (N .sub (t 86) (i 1))) [],
u 7 (g 88 83 true (.idxS 5 (t 85) (t 87))) [],
u 8 (g 89 83 true (.loadN 5 (t 88))) [],
u 9 (g 90 83 true (.mv (t 0))) [],
u 10 (g 91 83 true (.mv (t 13))) [],
u 11 (g 92 83 true (.idxS 5 (t 90) (t 91))) [],
u 12 (g 93 83 true (.loadN 5 (t 92))) [3],
u 13 (g 94 83 true (.call (t 84) [(t 89),(t 93)])) [],
u 14 (g 95 83 true (N .lss (t 94) (i 0))) [],
u 15 (g 96 83 true (.not (t 95))) [],
u 16 (o 97 (.pick (t 83) (t 96) n)) []])
(w (t 97) (s (r [a 98 0,
a 99 1,
a 100 2,
a 101 13,
a 102 4,
o 103 (.call (f 257) [(t 98),(t 99),(t 100),(t 101),(t 102)]),
a 15 103])
(s (r [a 104 15,
a 1 104])
(e 1)))
k))
(s (r [a 106 0,
a 107 1,
a 108 2,
a 109 13,
a 110 4,
o 111 (.call (f 258) [(t 106),(t 107),(t 108),(t 109),(t 110)]),
a 105 111,
o 112 (.extract 0 (t 105)),
o 113 (.extract 1 (t 105)),
a 16 112,
a 17 113])
(s (r [a 114 17,
a 11 114])
(s (r [a 115 16,
a 116 1,
o 117 (N .sub (t 115) (t 116)),
a 118 2,
a 119 16,
o 120 (N .sub (t 118) (t 119)),
a 18 117,
a 19 120])
(s (r [a 121 12,
o 122 (N .quo (t 121) (i 8)),
a 20 122])
(s (r [a 123 18,
a 124 19,
o 125 (N .lss (t 123) (t 124))])
(w (t 125) (s (r [a 126 18,
a 127 20,
o 128 (N .geq (t 126) (t 127)),
a 10 128])
(s (r [a 129 0,
a 130 1,
a 131 16,
a 132 3,
a 133 4,
o 134 (.call (f 241) [(t 129),(t 130),(t 131),(t 132),(t 133)])])
(r [a 135 16,
o 136 (N .add (t 135) (i 1)),
a 1 136])))
(s (r [a 137 19,
a 138 20,
o 139 (N .geq (t 137) (t 138)),
a 10 139])
(s (r [a 140 0,
a 141 16,
o 142 (N .add (t 141) (i 1)),
a 143 2,
a 144 3,
a 145 4,
o 146 (.call (f 241) [(t 140),(t 142),(t 143),(t 144),(t 145)])])
(r [a 147 16,
a 2 147]))))))))))))))))))))))⟩

def ir242 : IFunc := ⟨[.tmp 4],
(s (r [o 2 (.box 4 (t 0)),
o 3 (.box 4 (t 1)),
o 4 (.mv (i 0))])
(s (b 0 (s (r [o 6 (.loadN 4 (t 2)),
o 7 (.loadN 4 (t 3)),
o 8 (.call (f 111) [(t 6),(t 7)]),
a 5 8])
(w (t 5) (s (r [o 4 (.mv (i (-1)))])
z)
(s (r [o 10 (.loadN 4 (t 3)),
o 11 (.loadN 4 (t 2)),
o 12 (.call (f 111) [(t 10),(t 11)]),
a 9 12])
(w (t 9) (s (r [o 4 (.mv (i 1))])
z)
k)))))
(s (r [o 4 (.mv (i 0))])
z)))⟩

def ir244 : IFunc := ⟨[.tmp 7],
(s (r [o 7 (.mv n)])
(s (s (r [a 8 1,
o 9 (N .gtr (t 8) (i 0))])
(w (t 9) (r [l 10 3,
a 11 0,
o 12 (.buildSlice 1 [(.int .i64 0)] [(0,1,(t 11))]),
o 13 (.append 3 1 8 (t 10) (t 12)),
q (.store 1 (t 3) (t 13))])
k))
(s (r [a 14 1,
o 15 (N .gtr (t 14) (i 0)),
a 7 15])
z)))⟩

def ir245 : IFunc := ⟨[.tmp 7],
(s (r [o 7 (.mv n)])
(s (s (r [a 8 1,
o 9 (N .geq (t 8) (i 0))])
(w (t 9) (r [l 10 3,
a 11 0,
o 12 (.call (f 95) [(t 10),(t 11),(i 0)])])
k))
(s (r [a 13 1,
o 14 (N .geq (t 13) (i 0)),
a 7 14])
z)))⟩

def ir246 : IFunc := ⟨[.tmp 8],
(s (r [o 8 (.mv n)])
(s (b 0 (s (r [a 10 1,
o 11 (N .eql (t 10) (i (-2))),
a 9 11])
(w (t 9) (r [l 12 3,
a 13 0,
o 14 (.buildSlice 1 [(.int .i64 0)] [(0,1,(t 13))]),
o 15 (.append 3 1 8 (t 12) (t 14)),
q (.store 1 (t 3) (t 15))])
(s (r [a 17 1,
o 18 (N .lss (t 17) (i (-2))),
a 16 18])
(w (t 16) (d [u 2 (a 21 1) [],
u 3 (o 22 (N .add (t 21) (i 1))) [],
u 4 (o 23 (.call (f 152) [(t 22)])) [],
u 0 (l 19 4) [0],
u 1 (a 20 0) [],
u 5 (a 24 2) [],
u 6 (o 25 (.call (f 65) [(t 19),(t 20),(t 23),(t 24)])) []])
(s (r [o 8 (.mv n)])
z))))))
(s (r [o 8 (.mv y)])
z)))⟩

def ir247 : IFunc := ⟨[.tmp 2],
(s (r [o 2 (.mv (c (.string ⟨#[]⟩)))])
(s (s (r [a 3 0,
o 4 (N .lss (t 3) (i 10))])
(w (t 4) (s (r [a 5 0,
a 6 0,
o 7 (N .add (t 6) (i 1)),
o 8 (.sliceStr (c (.string ⟨#[48,49,50,51,52,53,54,55,56,57,97,98,99,100,101,102,103,104,105,106,107,108,109,110,111,112,113,114,115,116,117,118,119,120,121,122]⟩)) (some (t 5)) (some (t 7))),
a 2 8])
z)
k))
(s (r [a 9 0,
o 10 (N .mul (t 9) (i 2)),
a 11 0,
o 12 (N .mul (t 11) (i 2)),
o 13 (N .add (t 12) (i 2)),
o 14 (.sliceStr (c (.string ⟨#[48,48,48,49,48,50,48,51,48,52,48,53,48,54,48,55,48,56,48,57,49,48,49,49,49,50,49,51,49,52,49,53,49,54,49,55,49,56,49,57,50,48,50,49,50,50,50,51,50,52,50,53,50,54,50,55,50,56,50,57,51,48,51,49,51,50,51,51,51,52,51,53,51,54,51,55,51,56,51,57,52,48,52,49,52,50,52,51,52,52,52,53,52,54,52,55,52,56,52,57,53,48,53,49,53,50,53,51,53,52,53,53,53,54,53,55,53,56,53,57,54,48,54,49,54,50,54,51,54,52,54,53,54,54,54,55,54,56,54,57,55,48,55,49,55,50,55,51,55,52,55,53,55,54,55,55,55,56,55,57,56,48,56,49,56,50,56,51,56,52,56,53,56,54,56,55,56,56,56,57,57,48,57,49,57,50,57,51,57,52,57,53,57,54,57,55,57,56,57,57]⟩)) (some (t 10)) (some (t 13))),
a 2 14])
z)))⟩

def ir249 : IFunc := ⟨[],
(s (r [a 17 0,
o 18 (.len (t 17)),
a 4 18])
(s (b 0 (lo (s (s (r [a 19 4,
o 20 (N .geq (t 19) (i 8))])
(w (t 20) k
(e 0)))
(b 1 (s (r [a 21 1,
o 22 (N .rem (t 21) (c (.int .u64 100000000))),
o 23 (.conv .u32 (t 22)),
a 5 23])
(s (r [a 24 1,
o 25 (N .quo (t 24) (c (.int .u64 100000000))),
a 1 25])
(s (r [a 26 5,
o 27 (N .quo (t 26) (c (.int .u32 10000))),
a 28 5,
o 29 (N .rem (t 28) (c (.int .u32 10000))),
a 6 27,
a 7 29])
(s (r [a 30 7,
o 31 (N .quo (t 30) (c (.int .u32 100))),
o 32 (N .mul (t 31) (c (.int .u32 2))),
a 33 7,
o 34 (N .rem (t 33) (c (.int .u32 100))),
o 35 (N .mul (t 34) (c (.int .u32 2))),
a 8 32,
a 9 35])
(s (r [a 36 6,
o 37 (N .quo (t 36) (c (.int .u32 100))),
o 38 (N .mul (t 37) (c (.int .u32 2))),
a 39 6,
o 40 (N .rem (t 39) (c (.int .u32 100))),
o 41 (N .mul (t 40) (c (.int .u32 2))),
a 10 38,
a 11 41])
(s (d [u 0 (a 42 0) [],
u 1 (a 43 4) [],
u 2 (o 44 (N .sub (t 43) (i 1))) [],
u 3 (a 45 0) [],
u 4 (a 46 4) [],
u 5 (o 47 (N .sub (t 46) (i 2))) [],
u 6 (a 48 9) [],
u 7 (o 49 (N .add (t 48) (c (.int .u32 1)))) [],
u 8 (o 50 (.idxStr (c (.string ⟨#[48,48,48,49,48,50,48,51,48,52,48,53,48,54,48,55,48,56,48,57,49,48,49,49,49,50,49,51,49,52,49,53,49,54,49,55,49,56,49,57,50,48,50,49,50,50,50,51,50,52,50,53,50,54,50,55,50,56,50,57,51,48,51,49,51,50,51,51,51,52,51,53,51,54,51,55,51,56,51,57,52,48,52,49,52,50,52,51,52,52,52,53,52,54,52,55,52,56,52,57,53,48,53,49,53,50,53,51,53,52,53,53,53,54,53,55,53,56,53,57,54,48,54,49,54,50,54,51,54,52,54,53,54,54,54,55,54,56,54,57,55,48,55,49,55,50,55,51,55,52,55,53,55,54,55,55,55,56,55,57,56,48,56,49,56,50,56,51,56,52,56,53,56,54,56,55,56,56,56,57,57,48,57,49,57,50,57,51,57,52,57,53,57,54,57,55,57,56,57,57]⟩)) (t 49))) [],
u 9 (a 51 9) [],
u 10 (o 52 (.idxStr (c (.string ⟨#[48,48,48,49,48,50,48,51,48,52,48,53,48,54,48,55,48,56,48,57,49,48,49,49,49,50,49,51,49,52,49,53,49,54,49,55,49,56,49,57,50,48,50,49,50,50,50,51,50,52,50,53,50,54,50,55,50,56,50,57,51,48,51,49,51,50,51,51,51,52,51,53,51,54,51,55,51,56,51,57,52,48,52,49,52,50,52,51,52,52,52,53,52,54,52,55,52,56,52,57,53,48,53,49,53,50,53,51,53,52,53,53,53,54,53,55,53,56,53,57,54,48,54,49,54,50,54,51,54,52,54,53,54,54,54,55,54,56,54,57,55,48,55,49,55,50,55,51,55,52,55,53,55,54,55,55,55,56,55,57,56,48,56,49,56,50,56,51,56,52,56,53,56,54,56,55,56,56,56,57,57,48,57,49,57,50,57,51,57,52,57,53,57,54,57,55,57,56,57,57]⟩)) (t 51))) [],
u 11 (o 53 (.idxS 1 (t 42) (t 44))) [],
u 12 (q (.store 1 (t 53) (t 50))) [],
u 13 (o 54 (.idxS 1 (t 45) (t 47))) [],
u 14 (q (.store 1 (t 54) (t 52))) []])
(s (d [u 0 (a 55 0) [],
u 1 (a 56 4) [],
u 2 (o 57 (N .sub (t 56) (i 3))) [],
u 3 (a 58 0) [],
u 4 (a 59 4) [],
u 5 (o 60 (N .sub (t 59) (i 4))) [],
u 6 (a 61 8) [],
u 7 (o 62 (N .add (t 61) (c (.int .u32 1)))) [],
u 8 (o 63 (.idxStr (c (.string ⟨#[48,48,48,49,48,50,48,51,48,52,48,53,48,54,48,55,48,56,48,57,49,48,49,49,49,50,49,51,49,52,49,53,49,54,49,55,49,56,49,57,50,48,50,49,50,50,50,51,50,52,50,53,50,54,50,55,50,56,50,57,51,48,51,49,51,50,51,51,51,52,51,53,51,54,51,55,51,56,51,57,52,48,52,49,52,50,52,51,52,52,52,53,52,54,52,55,52,56,52,57,53,48,53,49,53,50,53,51,53,52,53,53,53,54,53,55,53,56,53,57,54,48,54,49,54,50,54,51,54,52,54,53,54,54,54,55,54,56,54,57,55,48,55,49,55,50,55,51,55,52,55,53,55,54,55,55,55,56,55,57,56,48,56,49,56,50,56,51,56,52,56,53,56,54,56,55,56,56,56,57,57,48,57,49,57,50,57,51,57,52,57,53,57,54,57,55,57,56,57,57]⟩)) (t 62))) [],
u 9 (a 64 8) [],
u 10 (o 65 (.idxStr (c (.string ⟨#[48,48,48,49,48,50,48,51,48,52,48,53,48,54,48,55,48,56,48,57,49,48,49,49,49,50,49,51,49,52,49,53,49,54,49,55,49,56,49,57,50,48,50,49,50,50,50,51,50,52,50,53,50,54,50,55,50,56,50,57,51,48,51,49,51,50,51,51,51,52,51,53,51,54,51,55,51,56,51,57,52,48,52,49,52,50,52,51,52,52,52,53,52,54,52,55,52,56,52,57,53,48,53,49,53,50,53,51,53,52,53,53,53,54,53,55,53,56,53,57,54,48,54,49,54,50,54,51,54,52,54,53,54,54,54,55,54,56,54,57,55,48,55,49,55,50,55,51,55,52,55,53,55,54,55,55,55,56,55,57,56,48,56,49,56,50,56,51,56,52,56,53,56,54,56,55,56,56,56,57,57,48,57,49,57,50,57,51,57,52,57,53,57,54,57,55,57,56,57,57]⟩)) (t 64))) [],
u 11 (o 66 (.idxS 1 (t 55) (t 57))) [],
u 12 (q (.store 1 (t 66) (t 63))) [],
u 13 (o 67 (.idxS 1 (t 58) (t 60))) [],
u 14 (q (.store 1 (t 67) (t 65))) []])
(s (d [u 0 (a 68 0) [],
u 1 (a 69 4) [],
u 2 (o 70 (N .sub (t 69) (i 5))) [],
u 3 (a 71 0) [],
u 4 (a 72 4) [],
u 5 (o 73 (N .sub (t 72) (i 6))) [],
u 6 (a 74 11) [],
u 7 (o 75 (N .add (t 74) (c (.int .u32 1)))) [],
u 8 (o 76 (.idxStr (c (.string ⟨#[48,48,48,49,48,50,48,51,48,52,48,53,48,54,48,55,48,56,48,57,49,48,49,49,49,50,49,51,49,52,49,53,49,54,49,55,49,56,49,57,50,48,50,49,50,50,50,51,50,52,50,53,50,54,50,55,50,56,50,57,51,48,51,49,51,50,51,51,51,52,51,53,51,54,51,55,51,56,51,57,52,48,52,49,52,50,52,51,52,52,52,53,52,54,52,55,52,56,52,57,53,48,53,49,53,50,53,51,53,52,53,53,53,54,53,55,53,56,53,57,54,48,54,49,54,50,54,51,54,52,54,53,54,54,54,55,54,56,54,57,55,48,55,49,55,50,55,51,55,52,55,53,55,54,55,55,55,56,55,57,56,48,56,49,56,50,56,51,56,52,56,53,56,54,56,55,56,56,56,57,57,48,57,49,57,50,57,51,57,52,57,53,57,54,57,55,57,56,57,57]⟩)) (t 75))) [],
u 9 (a 77 11) [],
u 10 (o 78 (.idxStr (c (.string ⟨#[48,48,48,49,48,50,48,51,48,52,48,53,48,54,48,55,48,56,48,57,49,48,49,49,49,50,49,51,49,52,49,53,49,54,49,55,49,56,49,57,50,48,50,49,50,50,50,51,50,52,50,53,50,54,50,55,50,56,50,57,51,48,51,49,51,50,51,51,51,52,51,53,51,54,51,55,51,56,51,57,52,48,52,49,52,50,52,51,52,52,52,53,52,54,52,55,52,56,52,57,53,48,53,49,53,50,53,51,53,52,53,53,53,54,53,55,53,56,53,57,54,48,54,49,54,50,54,51,54,52,54,53,54,54,54,55,54,56,54,57,55,48,55,49,55,50,55,51,55,52,55,53,55,54,55,55,55,56,55,57,56,48,56,49,56,50,56,51,56,52,56,53,56,54,56,55,56,56,56,57,57,48,57,49,57,50,57,51,57,52,57,53,57,54,57,55,57,56,57,57]⟩)) (t 77))) [],
u 11 (o 79 (.idxS 1 (t 68) (t 70))) [],
u 12 (q (.store 1 (t 79) (t 76))) [],
u 13 (o 80 (.idxS 1 (t 71) (t 73))) [],
u 14 (q (.store 1 (t 80) (t 78))) []])
(s (d [u 0 (a 81 0) [],
u 1 (a 82 4) [],
u 2 (o 83 (N .sub (t 82) (i 7))) [],
u 3 (a 84 0) [],
u 4 (a 85 4) [],
u 5 (o 86 (N .sub (t 85) (i 8))) [],
u 6 (a 87 10) [],
u 7 (o 88 (N .add (t 87) (c (.int .u32 1)))) [],
u 8 (o 89 (.idxStr (c (.string ⟨#[48,48,48,49,48,50,48,51,48,52,48,53,48,54,48,55,48,56,48,57,49,48,49,49,49,50,49,51,49,52,49,53,49,54,49,55,49,56,49,57,50,48,50,49,50,50,50,51,50,52,50,53,50,54,50,55,50,56,50,57,51,48,51,49,51,50,51,51,51,52,51,53,51,54,51,55,51,56,51,57,52,48,52,49,52,50,52,51,52,52,52,53,52,54,52,55,52,56,52,57,53,48,53,49,53,50,53,51,53,52,53,53,53,54,53,55,53,56,53,57,54,48,54,49,54,50,54,51,54,52,54,53,54,54,54,55,54,56,54,57,55,48,55,49,55,50,55,51,55,52,55,53,55,54,55,55,55,56,55,57,56,48,56,49,56,50,56,51,56,52,56,53,56,54,56,55,56,56,56,57,57,48,57,49,57,50,57,51,57,52,57,53,57,54,57,55,57,56,57,57]⟩)) (t 88))) [],
u 9 (a 90 10) [],
u 10 (o 91 (.idxStr (c (.string ⟨#[48,48,48,49,48,50,48,51,48,52,48,53,48,54,48,55,48,56,48,57,49,48,49,49,49,50,49,51,49,52,49,53,49,54,49,55,49,56,49,57,50,48,50,49,50,50,50,51,50,52,50,53,50,54,50,55,50,56,50,57,51,48,51,49,51,50,51,51,51,52,51,53,51,54,51,55,51,56,51,57,52,48,52,49,52,50,52,51,52,52,52,53,52,54,52,55,52,56,52,57,53,48,53,49,53,50,53,51,53,52,53,53,53,54,53,55,53,56,53,57,54,48,54,49,54,50,54,51,54,52,54,53,54,54,54,55,54,56,54,57,55,48,55,49,55,50,55,51,55,52,55,53,55,54,55,55,55,56,55,57,56,48,56,49,56,50,56,51,56,52,56,53,56,54,56,55,56,56,56,57,57,48,57,49,57,50,57,51,57,52,57,53,57,54,57,55,57,56,57,57]⟩)) (t 90))) [],
u 11 (o 92 (.idxS 1 (t 81) (t 83))) [],
u 12 (q (.store 1 (t 92) (t 89))) [],
u 13 (o 93 (.idxS 1 (t 84) (t 86))) [],
u 14 (q (.store 1 (t 93) (t 91))) []])
(r [a 94 4,
o 95 (N .sub (t 94) (i 8)),
a 4 95]))))))))))))))
(s (r [a 96 1,
o 97 (.conv .u32 (t 96)),
a 12 97])
(s (s (r [a 98 4,
o 99 (N .geq (t 98) (i 4))])
(w (t 99) (s (r [a 100 12,
o 101 (N .rem (t 100) (c (.int .u32 10000))),
a 13 101])
(s (r [a 102 12,
o 103 (N .quo (t 102) (c (.int .u32 10000))),
a 12 103])
(s (r [a 104 13,
o 105 (N .quo (t 104) (c (.int .u32 100))),
o 106 (N .mul (t 105) (c (.int .u32 2))),
a 107 13,
o 108 (N .rem (t 107) (c (.int .u32 100))),
o 109 (N .mul (t 108) (c (.int .u32 2))),
a 14 106,
a 15 109])
(s (d [u 0 (a 110 0) [],
u 1 (a 111 4) [],
u 2 (o 112 (N .sub (t 111) (i 1))) [],
u 3 (a 113 0) [],
u 4 (a 114 4) [],
u 5 (o 115 (N .sub (t 114) (i 2))) [],
u 6 (a 116 15) [],
u 7 (o 117 (N .add (t 116) (c (.int .u32 1)))) [],
u 8 (o 118 (.idxStr (c (.string ⟨#[48,48,48,49,48,50,48,51,48,52,48,53,48,54,48,55,48,56,48,57,49,48,49,49,49,50,49,51,49,52,49,53,49,54,49,55,49,56,49,57,50,48,50,49,50,50,50,51,50,52,50,53,50,54,50,55,50,56,50,57,51,48,51,49,51,50,51,51,51,52,51,53,51,54,51,55,51,56,51,57,52,48,52,49,52,50,52,51,52,52,52,53,52,54,52,55,52,56,52,57,53,48,53,49,53,50,53,51,53,52,53,53,53,54,53,55,53,56,53,57,54,48,54,49,54,50,54,51,54,52,54,53,54,54,54,55,54,56,54,57,55,48,55,49,55,50,55,51,55,52,55,53,55,54,55,55,55,56,55,57,56,48,56,49,56,50,56,51,56,52,56,53,56,54,56,55,56,56,56,57,57,48,57,49,57,50,57,51,57,52,57,53,57,54,57,55,57,56,57,57]⟩)) (t 117))) [],
u 9 (a 119 15) [],
u 10 (o 120 (.idxStr (c (.string ⟨#[48,48,48,49,48,50,48,51,48,52,48,53,48,54,48,55,48,56,48,57,49,48,49,49,49,50,49,51,49,52,49,53,49,54,49,55,49,56,49,57,50,48,50,49,50,50,50,51,50,52,50,53,50,54,50,55,50,56,50,57,51,48,51,49,51,50,51,51,51,52,51,53,51,54,51,55,51,56,51,57,52,48,52,49,52,50,52,51,52,52,52,53,52,54,52,55,52,56,52,57,53,48,53,49,53,50,53,51,53,52,53,53,53,54,53,55,53,56,53,57,54,48,54,49,54,50,54,51,54,52,54,53,54,54,54,55,54,56,54,57,55,48,55,49,55,50,55,51,55,52,55,53,55,54,55,55,55,56,55,57,56,48,56,49,56,50,56,51,56,52,56,53,56,54,56,55,56,56,56,57,57,48,57,49,57,50,57,51,57,52,57,53,57,54,57,55,57,56,57,57]⟩)) (t 119))) [],
u 11 (o 121 (.idxS 1 (t 110) (t 112))) [],
u 12 (q (.store 1 (t 121) (t 118))) [],
u 13 (o 122 (.idxS 1 (t 113) (t 115))) [],
u 14 (q (.store 1 (t 122) (t 120))) []])
(s (d [u 0 (a 123 0) [],
u 1 (a 124 4) [],
u 2 (o 125 (N .sub (t 124) (i 3))) [],
u 3 (a 126 0) [],
u 4 (a 127 4) [],
u 5 (o 128 (N .sub (t 127) (i 4))) [],
u 6 (a 129 14) [],
u 7 (o 130 (N .add (t 129) (c (.int .u32 1)))) [],
u 8 (o 131 (.idxStr (c (.string ⟨#[48,48,48,49,48,50,48,51,48,52,48,53,48,54,48,55,48,56,48,57,49,48,49,49,49,50,49,51,49,52,49,53,49,54,49,55,49,56,49,57,50,48,50,49,50,50,50,51,50,52,50,53,50,54,50,55,50,56,50,57,51,48,51,49,51,50,51,51,51,52,51,53,51,54,51,55,51,56,51,57,52,48,52,49,52,50,52,51,52,52,52,53,52,54,52,55,52,56,52,57,53,48,53,49,53,50,53,51,53,52,53,53,53,54,53,55,53,56,53,57,54,48,54,49,54,50,54,51,54,52,54,53,54,54,54,55,54,56,54,57,55,48,55,49,55,50,55,51,55,52,55,53,55,54,55,55,55,56,55,57,56,48,56,49,56,50,56,51,56,52,56,53,56,54,56,55,56,56,56,57,57,48,57,49,57,50,57,51,57,52,57,53,57,54,57,55,57,56,57,57]⟩)) (t 130))) [],
u 9 (a 132 14) [],
u 10 (o 133 (.idxStr (c (.string ⟨#[48,48,48,49,48,50,48,51,48,52,48,53,48,54,48,55,48,56,48,57,49,48,49,49,49,50,49,51,49,52,49,53,49,54,49,55,49,56,49,57,50,48,50,49,50,50,50,51,50,52,50,53,50,54,50,55,50,56,50,57,51,48,51,49,51,50,51,51,51,52,51,53,51,54,51,55,51,56,51,57,52,48,52,49,52,50,52,51,52,52,52,53,52,54,52,55,52,56,52,57,53,48,53,49,53,50,53,51,53,52,53,53,53,54,53,55,53,56,53,57,54,48,54,49,54,50,54,51,54,52,54,53,54,54,54,55,54,56,54,57,55,48,55,49,55,50,55,51,55,52,55,53,55,54,55,55,55,56,55,57,56,48,56,49,56,50,56,51,56,52,56,53,56,54,56,55,56,56,56,57,57,48,57,49,57,50,57,51,57,52,57,53,57,54,57,55,57,56,57,57]⟩)) (t 132))) [],
u 11 (o 134 (.idxS 1 (t 123) (t 125))) [],
u 12 (q (.store 1 (t 134) (t 131))) [],
u 13 (o 135 (.idxS 1 (t 126) (t 128))) [],
u 14 (q (.store 1 (t 135) (t 133))) []])
(r [a 136 4,
o 137 (N .sub (t 136) (i 4)),
a 4 137]))))))
k))
(s (s (r [a 138 4,
o 139 (N .geq (t 138) (i 2))])
(w (t 139) (s (r [a 140 12,
o 141 (N .rem (t 140) (c (.int .u32 100))),
o 142 (N .mul (t 141) (c (.int .u32 2))),
a 16 142])
(s (r [a 143 12,
o 144 (N .quo (t 143) (c (.int .u32 100))),
a 12 144])
(s (d [u 0 (a 145 0) [],
u 1 (a 146 4) [],
u 2 (o 147 (N .sub (t 146) (i 1))) [],
u 3 (a 148 0) [],
u 4 (a 149 4) [],
u 5 (o 150 (N .sub (t 149) (i 2))) [],
u 6 (a 151 16) [],
u 7 (o 152 (N .add (t 151) (c (.int .u32 1)))) [],
u 8 (o 153 (.idxStr (c (.string ⟨#[48,48,48,49,48,50,48,51,48,52,48,53,48,54,48,55,48,56,48,57,49,48,49,49,49,50,49,51,49,52,49,53,49,54,49,55,49,56,49,57,50,48,50,49,50,50,50,51,50,52,50,53,50,54,50,55,50,56,50,57,51,48,51,49,51,50,51,51,51,52,51,53,51,54,51,55,51,56,51,57,52,48,52,49,52,50,52,51,52,52,52,53,52,54,52,55,52,56,52,57,53,48,53,49,53,50,53,51,53,52,53,53,53,54,53,55,53,56,53,57,54,48,54,49,54,50,54,51,54,52,54,53,54,54,54,55,54,56,54,57,55,48,55,49,55,50,55,51,55,52,55,53,55,54,55,55,55,56,55,57,56,48,56,49,56,50,56,51,56,52,56,53,56,54,56,55,56,56,56,57,57,48,57,49,57,50,57,51,57,52,57,53,57,54,57,55,57,56,57,57]⟩)) (t 152))) [],
u 9 (a 154 16) [],
u 10 (o 155 (.idxStr (c (.string ⟨#[48,48,48,49,48,50,48,51,48,52,48,53,48,54,48,55,48,56,48,57,49,48,49,49,49,50,49,51,49,52,49,53,49,54,49,55,49,56,49,57,50,48,50,49,50,50,50,51,50,52,50,53,50,54,50,55,50,56,50,57,51,48,51,49,51,50,51,51,51,52,51,53,51,54,51,55,51,56,51,57,52,48,52,49,52,50,52,51,52,52,52,53,52,54,52,55,52,56,52,57,53,48,53,49,53,50,53,51,53,52,53,53,53,54,53,55,53,56,53,57,54,48,54,49,54,50,54,51,54,52,54,53,54,54,54,55,54,56,54,57,55,48,55,49,55,50,55,51,55,52,55,53,55,54,55,55,55,56,55,57,56,48,56,49,56,50,56,51,56,52,56,53,56,54,56,55,56,56,56,57,57,48,57,49,57,50,57,51,57,52,57,53,57,54,57,55,57,56,57,57]⟩)) (t 154))) [],
u 11 (o 156 (.idxS 1 (t 145) (t 147))) [],
u 12 (q (.store 1 (t 156) (t 153))) [],
u 13 (o 157 (.idxS 1 (t 148) (t 150))) [],
u 14 (q (.store 1 (t 157) (t 155))) []])
(r [a 158 4,
o 159 (N .sub (t 158) (i 2)),
a 4 159]))))
k))
(s (r [a 160 4,
o 161 (N .gtr (t 160) (i 0))])
(w (t 161) (r [a 162 0,
a 163 12,
o 164 (N .add (c (.int .u32 48)) (t 163)),
o 165 (.conv .u8 (t 164)),
o 166 (.idxS 1 (t 162) (i 0)),
q (.store 1 (t 166) (t 165))])
k)))))))⟩

def ir251 : IFunc := ⟨[],
(s (r [a 10 1,
o 11 (N .add (t 10) (i 1)),
a 8 11])
(b 0 (lo (s (s (r [a 12 8,
a 13 2,
o 14 (N .lss (t 12) (t 13))])
(w (t 14) k
(e 0)))
(s (b 1 (s (r [a 17 8,
a 9 17])
(b 2 (lo (s (s (d [u 0 (a 18 9) [],
u 1 (a 19 1) [],
u 2 (o 20 (N .gtr (t 18) (t 19))) [],
u 3 (a 21 20) [],
u 4 (g 22 21 true (.mv (t 3))) [],
u 5 (g 23 21 true (.mv (t 0))) [],
u 6 (g 24 21 true (.mv (t 9))) [],
u 7 (g 25 21 true (.idxS 5 (t 23) (t 24))) [],
u 8 (g 26 21 true (.loadN 5 (t 25))) [],
u 9 (g 27 21 true (.mv (t 0))) [],
u 10 (g 28 21 true (.mv (t 9))) [],
u 11 (g 29 21 true (N .sub (t 28) (i 1))) [],
u 12 (g 30 21 true (.idxS 5 (t 27) (t 29))) [],
u 13 (g 31 21 true (.loadN 5 (t 30))) [4],
u 14 (g 32 21 true (.call (t 22) [(t 26),(t 31)])) [],
u 15 (g 33 21 true (N .lss (t 32) (i 0))) [],
u 16 (o 34 (.pick (t 21) (t 33) n)) []])
(w (t 34) k
(e 2)))
(s (b 3 (d [u 0 (a 37 0) [],
u 1 (a 38 9) [],
u 2 (a 39 0) [],
u 3 (a 40 9) [],
u 4 (o 41 (N .sub (t 40) (i 1))) [],
u 5 (a 42 0) [],
u 6 (a 43 9) [],
u 7 (o 44 (N .sub (t 43) (i 1))) [],
u 8 (o 45 (.idxS 5 (t 42) (t 44))) [],
u 9 (o 46 (.loadN 5 (t 45))) [],
u 10 (a 47 0) [],
u 11 (a 48 9) [],
u 12 (o 49 (.idxS 5 (t 47) (t 48))) [],
u 13 (o 50 (.loadN 5 (t 49))) [3],
u 14 (o 51 (.idxS 5 (t 37) (t 38))) [],
u 15 (q (.store 5 (t 51) (t 46))) [],
u 16 (o 52 (.idxS 5 (t 39) (t 41))) [],
u 17 (q (.store 5 (t 52) (t 50))) []]))
(r [a 35 9,
o 36 (N .sub (t 35) (i 1)),
a 9 36])))))))
(r [a 15 8,
o 16 (N .add (t 15) (i 1)),
a 8 16]))))))⟩


end Go.St

namespace Go.St
open Go.Ak

def tab : Trie IFunc := (.node (.node (.node (.node (.node (.node (.node (.node .leaf (some ir127) .leaf) (some ir63) (.node .leaf (some ir191) .leaf)) (some ir31) (.node (.node .leaf (some ir159) .leaf) (some ir95) (.node .leaf (some ir223) .leaf))) (some ir15) (.node (.node (.node .leaf (some ir143) .leaf) (some ir79) (.node .leaf (some ir207) .leaf)) (some ir47) (.node .leaf (some ir111) .leaf))) (some ir7) (.node (.node (.node (.node .leaf (some ir135) .leaf) (some ir71) (.node .leaf (some ir199) .leaf)) (some ir39) (.node (.node .leaf (some ir167) .leaf) (some ir103) (.node .leaf (some ir231) .leaf))) (some ir23) (.node (.node (.node .leaf (some ir151) .leaf) (some ir87) .leaf) (some ir55) (.node (.node .leaf (some ir183) .leaf) (some ir119) (.node .leaf (some ir247) .leaf))))) (some ir3) (.node (.node (.node (.node (.node .leaf (some ir131) .leaf) (some ir67) (.node .leaf (some ir195) .leaf)) (some ir35) (.node (.node .leaf (some ir163) .leaf) (some ir99) (.node .leaf (some ir227) .leaf))) (some ir19) (.node (.node (.node .leaf (some ir147) .leaf) (some ir83) (.node .leaf (some ir211) .leaf)) (some ir51) (.node .leaf (some ir115) .leaf))) (some ir11) (.node (.node (.node (.node .leaf (some ir139) .leaf) (some ir75) (.node .leaf (some ir203) .leaf)) (some ir43) (.node (.node .leaf (some ir171) .leaf) (some ir107) .leaf)) (some ir27) (.node (.node (.node .leaf (some ir155) .leaf) (some ir91) (.node .leaf (some ir219) .leaf)) (some ir59) (.node (.node .leaf (some ir187) .leaf) (some ir123) (.node .leaf (some ir251) .leaf)))))) none (.node (.node (.node (.node (.node (.node .leaf (some ir129) .leaf) (some ir65) (.node .leaf (some ir193) .leaf)) (some ir33) (.node (.node .leaf (some ir161) .leaf) (some ir97) (.node .leaf (some ir225) .leaf))) (some ir17) (.node (.node (.node .leaf (some ir145) .leaf) (some ir81) .leaf) (some ir49) (.node (.node .leaf (some ir177) .leaf) (some ir113) (.node .leaf (some ir241) .leaf)))) (some ir9) (.node (.node (.node (.node .leaf (some ir137) .leaf) (some ir73) (.node .leaf (some ir201) .leaf)) (some ir41) (.node (.node .leaf (some ir169) .leaf) (some ir105) (.node .leaf (some ir233) .leaf))) (some ir25) (.node (.node (.node .leaf (some ir153) .leaf) (some ir89) .leaf) (some ir57) (.node (.node .leaf (some ir185) .leaf) (some ir121) (.node .leaf (some ir249) .leaf))))) (some ir5) (.node (.node (.node (.node (.node .leaf (some ir133) .leaf) (some ir69) (.node .leaf (some ir197) .leaf)) (some ir37) (.node (.node .leaf (some ir165) .leaf) (some ir101) (.node .leaf (some ir229) .leaf))) (some ir21) (.node (.node (.node .leaf (some ir149) .leaf) (some ir85) .leaf) (some ir53) (.node (.node .leaf (some ir181) .leaf) (some ir117) (.node .leaf (some ir245) .leaf)))) (some ir13) (.node (.node (.node (.node .leaf (some ir141) .leaf) (some ir77) .leaf) (some ir45) (.node .leaf none (.node .leaf (some ir237) .leaf))) (some ir29) (.node (.node (.node .leaf (some ir157) .leaf) (some ir93) .leaf) (some ir61) (.node (.node .leaf (some ir189) .leaf) (some ir125) .leaf)))))) none (.node (.node (.node (.node (.node (.node (.node .leaf (some ir128) .leaf) (some ir64) (.node .leaf (some ir192) .leaf)) (some ir32) (.node (.node .leaf (some ir160) .leaf) (some ir96) (.node .leaf (some ir224) .leaf))) (some ir16) (.node (.node (.node .leaf (some ir144) .leaf) (some ir80) (.node .leaf (some ir208) .leaf)) none (.node .leaf (some ir112) (.node .leaf (some ir240) .leaf)))) (some ir8) (.node (.node (.node (.node .leaf (some ir136) .leaf) (some ir72) .leaf) (some ir40) (.node (.node .leaf (some ir168) .leaf) (some ir104) .leaf)) (some ir24) (.node (.node (.node .leaf (some ir152) .leaf) (some ir88) .leaf) (some ir56) (.node (.node .leaf (some ir184) .leaf) none .leaf)))) (some ir4) (.node (.node (.node (.node (.node .leaf (some ir132) .leaf) (some ir68) (.node .leaf (some ir196) .leaf)) (some ir36) (.node (.node .leaf (some ir164) .leaf) (some ir100) (.node .leaf (some ir228) .leaf))) (some ir20) (.node (.node (.node .leaf (some ir148) .leaf) (some ir84) (.node .leaf (some ir212) .leaf)) (some ir52) (.node .leaf (some ir116) (.node .leaf (some ir244) .leaf)))) (some ir12) (.node (.node (.node (.node .leaf (some ir140) .leaf) (some ir76) .leaf) (some ir44) (.node .leaf (some ir108) .leaf)) (some ir28) (.node (.node (.node .leaf (some ir156) .leaf) (some ir92) (.node .leaf (some ir220) .leaf)) (some ir60) (.node (.node .leaf (some ir188) .leaf) (some ir124) .leaf))))) none (.node (.node (.node (.node (.node (.node .leaf (some ir130) .leaf) (some ir66) (.node .leaf (some ir194) .leaf)) (some ir34) (.node (.node .leaf (some ir162) .leaf) (some ir98) (.node .leaf (some ir226) .leaf))) (some ir18) (.node (.node (.node .leaf (some ir146) .leaf) (some ir82) (.node .leaf (some ir210) .leaf)) (some ir50) (.node .leaf (some ir114) (.node .leaf (some ir242) .leaf)))) (some ir10) (.node (.node (.node (.node .leaf (some ir138) .leaf) (some ir74) (.node .leaf (some ir202) .leaf)) (some ir42) (.node (.node .leaf (some ir170) .leaf) (some ir106) (.node .leaf (some ir234) .leaf))) (some ir26) (.node (.node (.node .leaf (some ir154) .leaf) (some ir90) (.node .leaf (some ir218) .leaf)) (some ir58) (.node (.node .leaf (some ir186) .leaf) (some ir122) .leaf)))) (some ir6) (.node (.node (.node (.node (.node .leaf (some ir134) .leaf) (some ir70) .leaf) (some ir38) (.node (.node .leaf (some ir166) .leaf) (some ir102) .leaf)) (some ir22) (.node (.node (.node .leaf (some ir150) .leaf) (some ir86) .leaf) (some ir54) (.node (.node .leaf (some ir182) .leaf) (some ir118) (.node .leaf (some ir246) .leaf)))) (some ir14) (.node (.node (.node (.node .leaf (some ir142) .leaf) (some ir78) (.node .leaf (some ir206) .leaf)) (some ir46) (.node .leaf (some ir110) .leaf)) (some ir30) (.node (.node (.node .leaf (some ir158) .leaf) (some ir94) (.node .leaf (some ir222) .leaf)) (some ir62) (.node (.node .leaf (some ir190) .leaf) (some ir126) .leaf)))))))

/-- The calls that are known from the beginning. -/
noncomputable def kb : FuncId → List Value → Option Value := kbOf 238 kNE (kbOf 248 kND kb0)

end Go.St
