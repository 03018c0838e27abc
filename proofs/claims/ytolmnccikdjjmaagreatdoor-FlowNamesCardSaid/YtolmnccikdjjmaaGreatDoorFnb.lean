/-
  Functions in their own form, part 2.
  The table of the functions.
-/
import Derived.Test.YtolmnccikdjjmaaGreatDoorAkG
import Derived.Test.YtolmnccikdjjmaaGreatDoorFna
namespace Go.Fl
open Go.Ak Go.Ak.S
set_option maxRecDepth 100000

def ir142 : IFunc := ⟨[.tmp 6],
(s (r [o 3 (.box 4 (t 0)),
o 4 (.box 5 (t 1)),
o 6 (.mv n)])
(s (r [o 10 (.loadN 4 (t 3)),
o 11 (.loadN 5 (t 4)),
o 12 (.call (f 192) [(t 10),(t 11)]),
a 9 12,
o 13 (.extract 0 (t 9)),
o 14 (.extract 1 (t 9)),
a 7 13,
a 8 14])
(s (r [a 15 8,
a 16 15,
g 17 16 true (.mv (t 7)),
g 18 16 true (.mv (t 2)),
g 19 16 true (N .eql (t 17) (t 18)),
o 20 (.pick (t 16) (t 19) n),
a 6 20])
z)))⟩

def ir143 : IFunc := ⟨[.tmp 4],
(s (r [o 2 (.box 4 (t 0)),
o 3 (.box 5 (t 1)),
o 4 (.mv n)])
(s (r [p 8 3 2,
l 9 8,
p 10 0 3,
l 11 10,
o 12 (.lookup (.sc .num) (.agg #[(.bool false),(.bool false),(.bool false),(.int .i64 0)]) true (t 9) (t 11)),
a 7 12,
o 13 (.extract 0 (t 7)),
o 14 (.extract 1 (t 7)),
o 5 (.mk 243 [(.bool false),(.bool false),(.bool false),(.int .i64 0)]),
q (.store 4 (t 5) (t 13)),
a 6 14])
(s (r [a 15 6,
a 16 15,
g 17 16 true (.faddr 0 (t 5)),
g 18 16 true (.load1 (t 17)),
g 19 16 true (.mv (t 18)),
g 20 19 false (.faddr 1 (t 3)),
g 21 19 false (.load1 (t 20)),
g 22 19 false (N .eql (t 21) (i 0)),
g 23 16 true (.pick (t 19) y (t 22)),
o 24 (.pick (t 16) (t 23) n),
a 25 24,
g 26 25 true (.faddr 1 (t 5)),
g 27 25 true (.load1 (t 26)),
g 28 25 true (.mv (t 27)),
g 29 28 false (.faddr 2 (t 3)),
g 30 28 false (.load1 (t 29)),
g 31 28 false (N .eql (t 30) (i 0)),
g 32 25 true (.pick (t 28) y (t 31)),
o 33 (.pick (t 25) (t 32) n),
a 34 33,
g 35 34 true (.faddr 2 (t 5)),
g 36 34 true (.load1 (t 35)),
g 37 34 true (.mv (t 36)),
g 38 37 false (.faddr 3 (t 3)),
g 39 37 false (.load1 (t 38)),
g 40 37 false (N .eql (t 39) (i 0)),
g 41 34 true (.pick (t 37) y (t 40)),
o 42 (.pick (t 34) (t 41) n),
a 43 42,
g 44 43 true (.faddr 3 (t 5)),
g 45 43 true (.load1 (t 44)),
g 46 43 true (N .lss (t 45) (i 0)),
g 47 43 true (.mv (t 46)),
g 48 47 false (.faddr 3 (t 5)),
g 49 47 false (.load1 (t 48)),
g 50 47 false (.faddr 4 (t 3)),
g 51 47 false (.load1 (t 50)),
g 52 47 false (.len (t 51)),
g 53 47 false (N .eql (t 49) (t 52)),
g 54 43 true (.pick (t 47) y (t 53)),
o 55 (.pick (t 43) (t 54) n),
a 4 55])
z)))⟩

def ir144 : IFunc := ⟨[.tmp 4,.tmp 5],
(s (r [o 2 (.box 4 (t 0)),
o 4 (.mv (i 0)),
o 5 (.mv n)])
(s (r [o 9 (.loadN 4 (t 2)),
a 10 1,
o 11 (.call (f 193) [(t 9),(t 10)]),
a 8 11,
o 12 (.extract 0 (t 8)),
o 13 (.extract 1 (t 8)),
o 6 (.mk 182 [(.slice none 0 0),(.bool false),(.int .i64 0),(.bool false)]),
q (.store 4 (t 6) (t 12)),
a 7 13])
(s (d [u 0 (p 14 0 6) [],
u 1 (p 15 1 14) [],
u 2 (p 16 1 15) [],
u 3 (l 17 16) [],
u 4 (a 18 7) [],
u 5 (a 19 18) [],
u 6 (g 20 19 true (.faddr 0 (t 6))) [],
u 7 (g 21 19 true (.faddr 1 (t 20))) [],
u 8 (g 22 19 true (.faddr 0 (t 21))) [],
u 9 (g 23 19 true (.load1 (t 22))) [5],
u 10 (o 24 (.pick (t 19) (t 23) n)) [],
u 11 (a 4 17) [],
u 12 (a 5 24) []])
z)))⟩

def ir145 : IFunc := ⟨[.cellN 4 4],
(s (r [o 2 (.box 4 (t 0)),
o 3 (.box 4 (t 1)),
o 4 (.mk 180 [(.slice none 0 0),(.int .i64 0),(.int .i64 0),(.map none)])])
(s (d [u 0 (p 5 0 2) [],
u 1 (l 6 5) [],
u 2 (o 7 (.call (f 194) [(t 6)])) [],
u 3 (o 8 (.loadN 4 (t 3))) [0,1],
u 4 (o 9 (.buildSlice 1 [(.slice none 0 0),(.bool false),(.int .i64 0),(.bool false)] [(0,4,(t 8))])) [1,2],
u 5 (o 10 (.append 182 4 48 (t 7) (t 9))) [],
u 6 (p 11 0 2) [],
u 7 (q (.store 1 (t 11) (t 10))) []])
(s (r [o 12 (.loadN 4 (t 2)),
q (.store 4 (t 4) (t 12))])
z)))⟩

def ir146 : IFunc := ⟨[.tmp 4],
(s (r [o 4 (.mv n)])
(s (r [a 5 0,
a 6 1,
o 7 (.call (f 103) [(t 5),(t 6)]),
o 8 (N .geq (t 7) (i 0)),
a 4 8])
z))⟩

def ir147 : IFunc := ⟨[.tmp 3],
(s (r [o 3 (.mv n)])
(s (r [l 4 1,
o 5 (.nilCheck (t 4)),
p 6 12 5,
l 7 6,
a 8 0,
o 9 (.idxS 1 (t 7) (t 8)),
l 10 9,
a 3 10])
z))⟩

def ir148 : IFunc := ⟨[.tmp 4],
(s (r [o 4 (.mv (i 0))])
(s (s (r [a 6 0,
o 7 (.len (t 6)),
o 8 (.mv (i 0))])
(b 0 (lo (s (r [o 9 (N .lss (t 8) (t 7))])
(s (w (t 9) k
(e 0))
(s (b 1 (s (r [a 10 8,
a 5 10])
(s (r [a 11 1,
a 12 0,
a 13 5,
o 14 (.idxS 2 (t 12) (t 13)),
o 15 (.loadN 2 (t 14)),
o 16 (.call (t 11) [(t 15)])])
(w (t 16) (s (r [a 17 5,
a 4 17])
z)
k))))
(r [o 18 (N .add (t 8) (i 1)),
a 8 18])))))))
(s (r [o 4 (.mv (i (-1)))])
z)))⟩

def ir149 : IFunc := ⟨[.tmp 2],
(s (r [o 1 (.box 2 (t 0)),
o 2 (.mv (i 0))])
(s (r [o 3 (.mv (f 195))])
(s (b 0 (s (r [o 5 (.loadN 2 (t 1)),
o 6 (.call (f 197) [(t 5)]),
a 4 6])
(w (t 4) (s (r [o 2 (.mv (i 5))])
z)
(s (d [u 0 (o 8 (.loadN 2 (t 1))) [],
u 1 (o 9 (.call (f 198) [(t 8)])) [],
u 2 (o 10 (.not (t 9))) [],
u 3 (a 11 10) [],
u 4 (g 12 11 false (.faddr 0 (t 1))) [],
u 5 (g 13 11 false (.load1 (t 12))) [],
u 6 (g 14 11 false (.mv (t 3))) [],
u 7 (g 15 11 false (.call (f 199) [(t 13),(t 14)])) [],
u 8 (o 16 (.pick (t 11) y (t 15))) [],
u 9 (a 17 16) [],
u 11 (g 19 17 false (.loadN 2 (t 1))) [],
u 12 (g 20 17 false (.call (f 202) [(t 19)])) [],
u 13 (g 21 17 false (.call (f 201) [(t 20)])) [],
u 10 (g 18 17 false (.loadN 2 (t 1))) [0,1,2],
u 14 (g 22 17 false (.call (f 200) [(t 18),(t 21)])) [],
u 15 (g 23 17 false (.not (t 22))) [],
u 16 (o 24 (.pick (t 17) y (t 23))) [],
u 17 (a 7 24) []])
(w (t 7) (s (r [o 2 (.mv (i 4))])
z)
k)))))
(s (r [o 2 (.mv (i 0))])
z))))⟩

def ir150 : IFunc := ⟨[.tmp 2,.tmp 3],
(s (r [o 1 (.box 6 (t 0)),
o 2 (.mv (c (.pointer none))),
o 3 (.mv n)])
(s (r [o 21 (.build [(.int .i64 0),(.string ⟨#[]⟩)] []),
o 4 (.mk 294 [(.int .i64 0),(.string ⟨#[]⟩)]),
q (.store 2 (t 4) (t 21))])
(s (r [o 22 (.mkmap),
o 23 (.loadN 2 (t 4)),
o 24 (.build [(.slice none 0 0),(.bool false),(.bool false)] []),
q (.insert (.ag [(0,.num),(1,.str)]) (t 22) (t 23) (t 24)),
a 25 22,
o 26 (.mkmap),
o 27 (.build [(.map none),(.map none),(.int .i64 0)] [(0,1,(t 25)),(1,1,(t 26))]),
o 28 (.box 3 (t 27)),
a 5 28])
(s (r [o 29 (.mkmap),
q (.insert (.sc .num) (t 29) (i 0) (c (.string ⟨#[]⟩))),
a 30 29,
a 6 30])
(s (r [o 31 (.loadN 2 (t 4)),
o 32 (.buildSlice 1 [(.int .i64 0),(.string ⟨#[]⟩)] [(0,2,(t 31))]),
a 7 32])
(s (b 0 (lo (s (s (r [a 33 7,
o 34 (.len (t 33)),
o 35 (N .gtr (t 34) (i 0))])
(w (t 35) k
(e 0)))
(b 1 (s (r [a 36 7,
o 37 (.idxS 2 (t 36) (i 0)),
o 38 (.loadN 2 (t 37)),
o 8 (.mk 294 [(.int .i64 0),(.string ⟨#[]⟩)]),
q (.store 2 (t 8) (t 38))])
(s (r [a 39 7,
o 40 (.sliceS 2 (t 39) (some (i 1)) none none),
a 7 40])
(s (d [u 0 (a 41 5) [],
u 1 (o 42 (.nilCheck (t 41))) [],
u 2 (p 43 0 42) [],
u 3 (l 44 43) [],
u 4 (o 45 (.loadN 2 (t 8))) [0],
u 5 (o 46 (.lookup (.ag [(0,.num),(1,.str)]) (.agg #[(.slice none 0 0),(.bool false),(.bool false)]) false (t 44) (t 45))) [],
u 6 (o 9 (.mk 296 [(.slice none 0 0),(.bool false),(.bool false)])) [0,1,2],
u 7 (q (.store 3 (t 9) (t 46))) []])
(s (d [u 0 (a 47 5) [],
u 1 (a 48 5) [],
u 2 (o 49 (.nilCheck (t 48))) [],
u 3 (p 50 2 49) [],
u 4 (l 51 50) [],
u 5 (p 52 0 9) [],
u 6 (l 53 52) [1],
u 7 (o 54 (.len (t 53))) [],
u 8 (o 55 (.maxI (t 51) (t 54))) [],
u 9 (o 56 (.nilCheck (t 47))) [],
u 10 (p 57 2 56) [],
u 11 (q (.store 1 (t 57) (t 55))) []])
(s (s (r [p 58 4 1,
p 59 1 58,
l 60 59,
p 61 0 8,
l 62 61,
o 63 (.idxS 1 (t 60) (t 62)),
l 64 63,
a 65 64,
g 66 65 true (.faddr 0 (t 9)),
g 67 65 true (.load1 (t 66)),
g 68 65 true (.len (t 67)),
g 69 65 true (N .gtr (t 68) (i 0)),
g 70 65 true (.mv (t 69)),
g 71 70 false (.loadN 2 (t 8)),
g 72 70 false (.loadN 2 (t 4)),
g 73 70 false (.eqF (.ag [(0,.num),(1,.str)]) false (t 71) (t 72)),
g 74 65 true (.pick (t 70) y (t 73)),
o 75 (.pick (t 65) (t 74) n)])
(w (t 75) (s (r [o 2 (.mv (c (.pointer none))),
o 3 (.mv n)])
z)
k))
(s (r [p 76 4 1,
p 77 0 76,
l 78 77,
p 79 0 8,
l 80 79,
o 81 (.idxS 1 (t 78) (t 80)),
l 82 81,
o 83 (.len (t 82)),
o 84 (.mv (i 0))])
(b 2 (lo (s (r [o 85 (N .lss (t 84) (t 83))])
(s (w (t 85) k
(e 2))
(s (b 3 (s (r [o 86 (.idxS 5 (t 82) (t 84)),
o 87 (.loadN 5 (t 86)),
o 11 (.mk 143 [(.int .i64 0),(.int .i64 0),(.int .u8 0),(.int .i64 0),(.int .i64 0)]),
q (.store 5 (t 11) (t 87))])
(s (d [u 0 (o 89 (.loadN 3 (t 9))) [],
u 1 (p 90 0 1) [],
u 2 (o 91 (.loadN 4 (t 90))) [1],
u 3 (p 92 0 11) [],
u 4 (o 93 (.loadN 4 (t 92))) [1,3],
u 5 (o 94 (.loadN 2 (t 8))) [0,2,4],
u 6 (o 95 (.loadN 2 (t 4))) [0,1,3,5],
u 7 (o 96 (.eqF (.ag [(0,.num),(1,.str)]) false (t 94) (t 95))) [],
u 8 (o 97 (.call (f 203) [(t 89),(t 91),(t 93),(t 96)])) [],
u 9 (a 88 97) [],
u 10 (o 98 (.extract 0 (t 88))) [],
u 11 (o 99 (.extract 1 (t 88))) [],
u 12 (o 12 (.mk 296 [(.slice none 0 0),(.bool false),(.bool false)])) [3,5,6,7,9,11],
u 13 (q (.store 3 (t 12) (t 98))) [],
u 14 (a 13 99) []])
(s (r [o 101 (.loadN 3 (t 12)),
o 102 (.call (f 204) [(t 101)]),
a 100 102,
o 103 (.extract 0 (t 100)),
o 104 (.extract 1 (t 100)),
a 14 103,
a 15 104])
(s (s (r [a 106 6,
p 107 4 11,
l 108 107,
o 109 (.lookup (.sc .num) (.string ⟨#[]⟩) true (t 106) (t 108)),
a 105 109,
o 110 (.extract 0 (t 105)),
o 111 (.extract 1 (t 105)),
a 16 110,
a 17 111])
(s (r [a 112 13,
o 113 (.not (t 112)),
a 114 113,
g 115 114 false (.mv (t 17)),
g 116 114 false (.mv (t 115)),
g 117 116 true (.mv (t 16)),
g 118 116 true (.mv (t 14)),
g 119 116 true (.bin .str .neq (t 117) (t 118)),
g 120 114 false (.pick (t 116) (t 119) n),
o 121 (.pick (t 114) y (t 120)),
a 122 121,
g 123 122 false (.faddr 0 (t 12)),
g 124 122 false (.load1 (t 123)),
g 125 122 false (.len (t 124)),
g 126 122 false (.faddr 4 (t 1)),
g 127 122 false (.faddr 0 (t 126)),
g 128 122 false (.load1 (t 127)),
g 129 122 false (.len (t 128)),
g 130 122 false (.maxI (i 2) (t 129)),
g 131 122 false (N .geq (t 125) (t 130)),
o 132 (.pick (t 122) y (t 131))])
(w (t 132) (s (r [o 2 (.mv (c (.pointer none))),
o 3 (.mv n)])
z)
k)))
(s (r [a 133 6,
p 134 4 11,
l 135 134,
a 136 14,
q (.insert (.sc .num) (t 133) (t 135) (t 136))])
(s (r [p 137 4 11,
l 138 137,
a 139 15,
o 140 (.build [(.int .i64 0),(.string ⟨#[]⟩)] [(0,1,(t 138)),(1,1,(t 139))]),
o 18 (.mk 294 [(.int .i64 0),(.string ⟨#[]⟩)]),
q (.store 2 (t 18) (t 140))])
(s (s (d [u 0 (a 142 5) [],
u 1 (o 143 (.nilCheck (t 142))) [],
u 2 (p 144 0 143) [],
u 3 (l 145 144) [],
u 4 (o 146 (.loadN 2 (t 18))) [0],
u 5 (o 147 (.lookup (.ag [(0,.num),(1,.str)]) (.agg #[(.slice none 0 0),(.bool false),(.bool false)]) true (t 145) (t 146))) [],
u 6 (a 141 147) [],
u 7 (o 148 (.extract 0 (t 141))) [],
u 8 (o 149 (.extract 1 (t 141))) [],
u 9 (o 19 (.mk 296 [(.slice none 0 0),(.bool false),(.bool false)])) [3,4,5],
u 10 (q (.store 3 (t 19) (t 148))) [],
u 11 (a 20 149) []])
(s (r [a 150 20,
o 151 (.not (t 150))])
(w (t 151) (s (d [u 0 (a 152 5) [],
u 1 (o 153 (.nilCheck (t 152))) [],
u 2 (p 154 0 153) [],
u 3 (l 155 154) [],
u 4 (o 156 (.loadN 2 (t 18))) [0],
u 5 (o 157 (.loadN 3 (t 12))) [0,1],
u 6 (q (.insert (.ag [(0,.num),(1,.str)]) (t 155) (t 156) (t 157))) []])
(r [a 158 7,
o 159 (.loadN 2 (t 18)),
o 160 (.buildSlice 1 [(.int .i64 0),(.string ⟨#[]⟩)] [(0,2,(t 159))]),
o 161 (.append 294 2 24 (t 158) (t 160)),
a 7 161]))
k)))
(d [u 0 (a 162 5) [],
u 1 (o 163 (.nilCheck (t 162))) [],
u 2 (p 164 1 163) [],
u 3 (l 165 164) [],
u 4 (o 166 (.loadN 2 (t 8))) [0],
u 5 (p 168 0 11) [],
u 6 (o 169 (.loadN 4 (t 168))) [1,2],
u 7 (o 170 (.loadN 2 (t 18))) [0,2,3],
u 8 (o 171 (.build [(.int .i64 0),(.int .i64 0),(.int .u8 0),(.int .i64 0),(.int .i64 0),(.string ⟨#[]⟩)] [(0,4,(t 169)),(4,2,(t 170))])) [],
u 9 (o 172 (.buildSlice 1 [(.int .i64 0),(.int .i64 0),(.int .u8 0),(.int .i64 0),(.int .i64 0),(.string ⟨#[]⟩)] [(0,6,(t 171))])) [4,5],
u 10 (o 173 (.mentry (.ag [(0,.num),(1,.str)]) (.slice none 0 0) (t 165) (t 166))) [],
u 11 (o 167 (.extract 0 (t 173))) [],
u 12 (o 174 (.append 310 6 56 (t 167) (t 172))) [],
u 13 (o 175 (.extract 1 (t 173))) [],
u 14 (q (.mstore (t 165) (t 175) (t 174))) []])))))))))
(r [o 176 (N .add (t 84) (i 1)),
a 84 176]))))))))))))))))
(s (r [a 177 5,
a 2 177,
o 3 (.mv y)])
z)))))))⟩

def ir151 : IFunc := ⟨[.tmp 2,.tmp 3],
(s (r [o 1 (.box 2 (t 0)),
o 2 (.mv (c (.slice none 0 0))),
o 3 (.mv n)])
(s (s (r [p 8 1 1,
l 9 8,
o 10 (.idxS 1 (t 9) (i 0)),
l 11 10])
(w (t 11) (s (r [o 2 (.mv (c (.slice none 0 0))),
o 3 (.mv n)])
z)
k))
(s (s (r [p 12 0 1,
l 13 12,
o 14 (.len (t 13)),
o 15 (.mv (i 0))])
(b 0 (lo (s (r [o 16 (N .lss (t 15) (t 14))])
(s (w (t 16) k
(e 0))
(s (b 1 (s (r [o 17 (.idxS 1 (t 13) (t 15)),
l 18 17,
a 5 18])
(s (r [a 19 5,
o 20 (.len (t 19)),
o 21 (.mv (i 0))])
(b 2 (lo (s (r [o 22 (N .lss (t 21) (t 20))])
(s (w (t 22) k
(e 2))
(s (b 3 (s (r [o 23 (.idxS 5 (t 19) (t 21)),
o 24 (.loadN 5 (t 23)),
o 7 (.mk 143 [(.int .i64 0),(.int .i64 0),(.int .u8 0),(.int .i64 0),(.int .i64 0)]),
q (.store 5 (t 7) (t 24))])
(s (s (d [u 0 (p 25 0 7) [],
u 1 (o 26 (.loadN 4 (t 25))) [],
u 2 (o 27 (.call (f 205) [(t 26)])) [],
u 3 (p 28 1 1) [],
u 4 (l 29 28) [1,2],
u 5 (p 30 4 7) [],
u 6 (l 31 30) [1,3,4],
u 7 (o 32 (.idxS 1 (t 29) (t 31))) [],
u 8 (l 33 32) [5,6],
u 9 (o 34 (.bin .boo .neq (t 27) (t 33))) [],
u 10 (a 35 34) [],
u 11 (g 36 35 false (.faddr 1 (t 1))) [],
u 12 (g 37 35 false (.load1 (t 36))) [],
u 13 (g 38 35 false (.faddr 4 (t 7))) [],
u 14 (g 39 35 false (.load1 (t 38))) [1],
u 15 (g 40 35 false (.idxS 1 (t 37) (t 39))) [],
u 16 (g 41 35 false (.load1 (t 40))) [],
u 17 (g 42 35 false (.mv (t 41))) [],
u 18 (g 43 42 true (.faddr 0 (t 1))) [],
u 19 (g 44 42 true (.load1 (t 43))) [],
u 20 (g 45 42 true (.faddr 4 (t 7))) [],
u 21 (g 46 42 true (.load1 (t 45))) [1],
u 22 (g 47 42 true (.idxS 1 (t 44) (t 46))) [],
u 23 (g 48 42 true (.load1 (t 47))) [],
u 24 (g 49 42 true (.len (t 48))) [],
u 25 (g 50 42 true (N .gtr (t 49) (i 0))) [],
u 26 (g 51 35 false (.pick (t 42) (t 50) n)) [],
u 27 (o 52 (.pick (t 35) y (t 51))) []])
(w (t 52) (s (r [o 2 (.mv (c (.slice none 0 0))),
o 3 (.mv n)])
z)
k))
(s (r [p 53 0 7,
o 54 (.loadN 4 (t 53)),
o 55 (.call (f 205) [(t 54)])])
(w (t 55) (r [a 56 2,
p 57 0 7,
p 58 3 57,
l 59 58,
o 60 (.buildSlice 1 [(.int .i64 0)] [(0,1,(t 59))]),
o 61 (.append 3 1 8 (t 56) (t 60)),
a 2 61])
k)))))
(r [o 62 (N .add (t 21) (i 1)),
a 21 62])))))))))
(r [o 63 (N .add (t 15) (i 1)),
a 15 63])))))))
(s (r [a 64 2,
o 65 (.call (f 206) [(t 64)])])
(s (r [a 66 2,
o 67 (.call (f 207) [(t 66)]),
a 2 67,
o 3 (.mv y)])
z)))))⟩

def ir152 : IFunc := ⟨[.cellN 2 2,.tmp 3],
(s (r [o 2 (.mk 33 [(.slice none 0 0),(.slice none 0 0)]),
o 3 (.mv n)])
(s (r [a 10 0,
o 11 (.call (f 208) [(t 10)]),
a 9 11,
o 12 (.extract 0 (t 9)),
o 13 (.extract 1 (t 9)),
o 4 (.mk 33 [(.slice none 0 0),(.slice none 0 0)]),
q (.store 2 (t 4) (t 12)),
a 5 13])
(s (s (r [a 14 5,
o 15 (.not (t 14))])
(w (t 15) (s (r [o 16 (.build [(.slice none 0 0),(.slice none 0 0)] []),
q (.store 2 (t 2) (t 16)),
o 3 (.mv n)])
z)
k))
(s (r [o 17 (.loadN 2 (t 4)),
o 18 (.call (f 209) [(t 17)]),
q (.store 2 (t 4) (t 18))])
(s (r [o 6 (.mv (i 0))])
(s (s (r [p 19 0 4,
l 20 19,
o 21 (.len (t 20)),
o 22 (.mv (i 0))])
(b 0 (lo (s (r [o 23 (N .lss (t 22) (t 21))])
(s (w (t 23) k
(e 0))
(s (b 1 (s (r [o 24 (.idxS 1 (t 20) (t 22)),
l 25 24,
a 8 25])
(r [a 26 6,
a 27 8,
o 28 (.len (t 27)),
o 29 (N .add (t 26) (t 28)),
a 6 29])))
(r [o 30 (N .add (t 22) (i 1)),
a 22 30])))))))
(s (r [o 31 (.loadN 2 (t 4)),
p 32 0 4,
l 33 32,
o 34 (.len (t 33)),
o 35 (N .leq (t 34) (i 400)),
a 36 35,
g 37 36 true (.mv (t 6)),
g 38 36 true (N .leq (t 37) (i 6000)),
o 39 (.pick (t 36) (t 38) n),
q (.store 2 (t 2) (t 31)),
a 3 39])
z)))))))⟩

def ir153 : IFunc := ⟨[.tmp 4],
(s (r [o 4 (.mv (i 0))])
(s (r [a 5 0,
a 6 0,
o 7 (.nilCheck (t 6)),
p 8 0 7,
l 9 8,
a 10 1,
o 11 (.build [(.slice none 0 0),(.slice none 0 0),(.bool false)] [(2,1,(t 10))]),
o 12 (.buildSlice 1 [(.slice none 0 0),(.slice none 0 0),(.bool false)] [(0,3,(t 11))]),
o 13 (.append 314 3 56 (t 9) (t 12)),
o 14 (.nilCheck (t 5)),
p 15 0 14,
q (.store 1 (t 15) (t 13))])
(s (r [a 16 0,
o 17 (.nilCheck (t 16)),
p 18 0 17,
l 19 18,
o 20 (.len (t 19)),
o 21 (N .sub (t 20) (i 1)),
a 4 21])
z)))⟩

def ir154 : IFunc := ⟨[.tmp 5],
(s (r [o 5 (.mv (i 0))])
(s (r [a 6 0,
p 7 1 2,
l 8 7,
o 9 (N .mul (t 6) (t 8)),
a 10 1,
o 11 (N .add (t 9) (t 10)),
a 5 11])
z))⟩

def ir155 : IFunc := ⟨[],
(s (r [o 6 (.box 4 (t 2))])
(s (r [a 9 0,
o 10 (.nilCheck (t 9)),
p 11 0 10,
l 12 11,
a 13 1,
o 14 (.idxS 3 (t 12) (t 13)),
a 8 14])
(d [u 0 (a 15 8) [],
u 1 (a 16 8) [],
u 2 (o 17 (.nilCheck (t 16))) [],
u 3 (p 18 0 17) [],
u 4 (l 19 18) [],
u 5 (o 20 (.loadN 4 (t 6))) [0],
u 6 (a 21 3) [],
u 7 (o 22 (.build [(.int .i64 0),(.int .i64 0),(.int .u8 0),(.int .i64 0),(.int .i64 0)] [(0,4,(t 20)),(4,1,(t 21))])) [],
u 8 (o 23 (.buildSlice 1 [(.int .i64 0),(.int .i64 0),(.int .u8 0),(.int .i64 0),(.int .i64 0)] [(0,5,(t 22))])) [3],
u 9 (o 24 (.append 143 5 40 (t 19) (t 23))) [],
u 10 (o 25 (.nilCheck (t 15))) [],
u 11 (p 26 0 25) [],
u 12 (q (.store 1 (t 26) (t 24))) []])))⟩

def ir156 : IFunc := ⟨[.tmp 6,.tmp 7],
(s (r [o 3 (.box 2 (t 0)),
o 5 (.box 4 (t 2)),
o 6 (.mv (i 0)),
o 7 (.mv n)])
(s (s (r [p 10 0 3,
l 11 10,
a 12 1,
o 13 (.idxS 1 (t 11) (t 12)),
l 14 13,
o 15 (.len (t 14)),
o 16 (.mv (i 0))])
(b 0 (lo (s (r [o 17 (N .lss (t 16) (t 15))])
(s (w (t 17) k
(e 0))
(s (b 1 (s (r [o 18 (.idxS 5 (t 14) (t 16)),
o 19 (.loadN 5 (t 18)),
o 9 (.mk 143 [(.int .i64 0),(.int .i64 0),(.int .u8 0),(.int .i64 0),(.int .i64 0)]),
q (.store 5 (t 9) (t 19))])
(s (r [p 20 0 9,
o 21 (.loadN 4 (t 20)),
o 22 (.loadN 4 (t 5)),
o 23 (.eqF (.ag [(0,.num),(1,.num),(2,.num),(3,.num)]) false (t 21) (t 22))])
(w (t 23) (s (r [p 24 4 9,
l 25 24,
a 6 25,
o 7 (.mv y)])
z)
k))))
(r [o 26 (N .add (t 16) (i 1)),
a 16 26])))))))
(s (r [o 6 (.mv (i 0)),
o 7 (.mv n)])
z)))⟩

def ir157 : IFunc := ⟨[.cellN 6 4],
(s (r [o 6 (.mk 47 [(.int .i64 0),(.int .i64 0),(.int .u8 0),(.int .i64 0)])])
(s (r [a 7 0,
a 8 1,
a 9 2,
o 10 (.build [(.int .i64 0),(.int .i64 0),(.int .u8 0),(.int .i64 0)] [(0,1,(t 7)),(1,1,(t 8)),(2,1,(c (.int .u8 3))),(3,1,(t 9))]),
q (.store 4 (t 6) (t 10))])
z))⟩

def ir158 : IFunc := ⟨[],
(s (r [a 7 0,
o 8 (.nilCheck (t 7)),
p 9 0 8,
l 10 9,
a 11 1,
o 12 (.idxS 3 (t 10) (t 11)),
a 6 12])
(r [a 13 6,
a 14 6,
o 15 (.nilCheck (t 14)),
p 16 1 15,
l 17 16,
a 18 2,
o 19 (.buildSlice 1 [(.int .i64 0)] [(0,1,(t 18))]),
o 20 (.append 3 1 8 (t 17) (t 19)),
o 21 (.nilCheck (t 13)),
p 22 1 21,
q (.store 1 (t 22) (t 20))]))⟩

def ir159 : IFunc := ⟨[.tmp 6],
(s (r [o 6 (.mv n)])
(s (r [a 7 0,
a 8 1,
o 9 (N .geq (t 7) (t 8)),
a 10 9,
g 11 10 true (.mv (t 0)),
g 12 10 true (.mv (t 2)),
g 13 10 true (N .leq (t 11) (t 12)),
o 14 (.pick (t 10) (t 13) n),
a 6 14])
z))⟩

def ir160 : IFunc := ⟨[.tmp 2],
(s (r [o 2 (.mv (i 0))])
(s (s (r [a 3 0])
(b 0 (s (r [o 5 (N .eql (t 3) (c (.int .u8 2))),
a 4 5])
(w (t 4) (s (r [o 2 (.mv (i (-1)))])
z)
(s (s (r [o 7 (N .eql (t 3) (c (.int .u8 4))),
a 6 7])
(w (t 6) k
(s (r [o 8 (N .eql (t 3) (c (.int .u8 6))),
a 6 8])
(w (t 6) k
(s (r [o 9 (N .eql (t 3) (c (.int .u8 10))),
a 6 9])
(w (t 6) k
(r [o 10 (N .eql (t 3) (c (.int .u8 18))),
a 6 10])))))))
(w (t 6) (s (r [o 2 (.mv (i 1))])
z)
(s (s (r [o 12 (N .eql (t 3) (c (.int .u8 5))),
a 11 12])
(w (t 11) k
(s (r [o 13 (N .eql (t 3) (c (.int .u8 7))),
a 11 13])
(w (t 11) k
(s (r [o 14 (N .eql (t 3) (c (.int .u8 9))),
a 11 14])
(w (t 11) k
(s (r [o 15 (N .eql (t 3) (c (.int .u8 11))),
a 11 15])
(w (t 11) k
(s (r [o 16 (N .eql (t 3) (c (.int .u8 13))),
a 11 16])
(w (t 11) k
(r [o 17 (N .eql (t 3) (c (.int .u8 17))),
a 11 17])))))))))))
(w (t 11) (s (r [o 2 (.mv (i 2))])
z)
(s (r [o 19 (N .eql (t 3) (c (.int .u8 8))),
a 18 19])
(w (t 18) (s (r [o 2 (.mv (i 3))])
z)
k))))))))))
(s (r [o 2 (.mv (i 0))])
z)))⟩

def ir161 : IFunc := ⟨[.cellN 2 5],
(s (r [o 2 (.mk 221 [(.slice none 0 0),(.bool false),(.int .i64 0),(.bool false),(.bool false)])])
(s (r [a 3 0,
o 4 (.build [(.bool false),(.int .i64 0)] [(0,1,y),(1,1,(t 3))]),
o 5 (.build [(.slice none 0 0),(.bool false),(.int .i64 0)] [(1,2,(t 4))]),
o 6 (.build [(.slice none 0 0),(.bool false),(.int .i64 0),(.bool false),(.bool false)] [(0,3,(t 5)),(4,1,y)]),
q (.store 5 (t 2) (t 6))])
z))⟩

def ir162 : IFunc := ⟨[.tmp 2],
(s (r [o 2 (.mv n)])
(s (r [a 3 0,
o 4 (N .geq (t 3) (i 1)),
a 5 4,
g 6 5 true (.mv (t 0)),
g 7 5 true (N .leq (t 6) (i 64)),
o 8 (.pick (t 5) (t 7) n),
a 2 8])
z))⟩

def ir163 : IFunc := ⟨[.tmp 6],
(s (r [o 3 (.box 5 (t 0)),
o 6 (.mv (i 0))])
(s (s (r [p 9 3 3,
l 10 9,
o 11 (N .lss (t 10) (i 1)),
a 12 11,
g 13 12 false (.faddr 3 (t 3)),
g 14 12 false (.load1 (t 13)),
g 15 12 false (.mv (t 1)),
g 16 12 false (.len (t 15)),
g 17 12 false (N .gtr (t 14) (t 16)),
o 18 (.pick (t 12) y (t 17)),
a 19 18,
g 20 19 false (.mv (t 1)),
g 21 19 false (.faddr 3 (t 3)),
g 22 19 false (.load1 (t 21)),
g 23 19 false (N .sub (t 22) (i 1)),
g 24 19 false (.idxS 5 (t 20) (t 23)),
g 25 19 false (.faddr 3 (t 24)),
g 26 19 false (.load1 (t 25)),
o 27 (.pick (t 19) y (t 26))])
(w (t 27) (s (r [o 6 (.mv (i 0))])
z)
k))
(s (r [a 28 1,
p 29 3 3,
l 30 29,
o 31 (N .sub (t 30) (i 1)),
o 32 (.idxS 5 (t 28) (t 31)),
p 33 0 32,
o 34 (.loadN 3 (t 33)),
o 7 (.mk 59 [(.slice none 0 0),(.bool false),(.int .i64 0)]),
q (.store 3 (t 7) (t 34))])
(s (s (r [p 35 1 7,
p 36 0 35,
l 37 36,
a 38 37,
g 39 38 false (.faddr 0 (t 7)),
g 40 38 false (.load1 (t 39)),
g 41 38 false (.len (t 40)),
g 42 38 false (.faddr 4 (t 3)),
g 43 38 false (.load1 (t 42)),
g 44 38 false (.len (t 43)),
g 45 38 false (N .neq (t 41) (t 44)),
o 46 (.pick (t 38) y (t 45))])
(w (t 46) (s (r [o 6 (.mv (i 0))])
z)
k))
(s (s (r [o 8 (.mv (i 0))])
(b 0 (lo (s (s (r [a 47 8,
p 48 4 3,
l 49 48,
o 50 (.len (t 49)),
o 51 (N .lss (t 47) (t 50))])
(w (t 51) k
(e 0)))
(s (b 1 (s (d [u 0 (p 54 4 3) [],
u 1 (l 55 54) [],
u 2 (a 56 8) [],
u 3 (o 57 (.idxS 5 (t 55) (t 56))) [],
u 4 (o 58 (.loadN 5 (t 57))) [],
u 5 (p 59 0 7) [],
u 6 (l 60 59) [1,4],
u 7 (a 61 8) [],
u 8 (o 62 (.idxS 2 (t 60) (t 61))) [],
u 9 (o 63 (.loadN 2 (t 62))) [4,7],
u 10 (a 64 1) [],
u 11 (a 65 2) [],
u 12 (o 66 (.call (f 72) [(t 58),(t 63),(t 64),(t 65)])) [],
u 13 (o 67 (.not (t 66))) []])
(w (t 67) (s (r [o 6 (.mv (i 0))])
z)
k)))
(r [a 52 8,
o 53 (N .add (t 52) (i 1)),
a 8 53]))))))
(s (r [p 68 1 7,
p 69 1 68,
l 70 69,
a 6 70])
z))))))⟩

def ir164 : IFunc := ⟨[.tmp 6],
(s (r [o 3 (.box 5 (t 0)),
o 6 (.mv (i 0))])
(s (s (r [p 7 0 3,
l 8 7])
(b 0 (s (r [o 10 (N .eql (t 8) (c (.int .u8 6))),
a 9 10])
(w (t 9) (s (r [p 11 1 3,
l 12 11,
o 13 (.call (f 162) [(t 12)])])
(w (t 13) (s (r [p 14 1 3,
l 15 14,
a 6 15])
z)
k))
(s (r [o 17 (N .eql (t 8) (c (.int .u8 7))),
a 16 17])
(w (t 16) (s (r [a 18 1,
o 19 (.idxS 1 (t 18) (i 0)),
l 20 19,
o 21 (N .eql (t 20) (i 1))])
(w (t 21) (s (r [a 22 1,
o 23 (.idxS 1 (t 22) (i 1)),
l 24 23,
a 6 24])
z)
k))
(s (r [o 26 (N .eql (t 8) (c (.int .u8 8))),
a 25 26])
(w (t 25) (s (d [u 0 (a 27 1) [],
u 1 (o 28 (.idxS 1 (t 27) (i 1))) [],
u 2 (l 29 28) [],
u 3 (a 30 1) [],
u 4 (o 31 (.idxS 1 (t 30) (i 2))) [],
u 5 (l 32 31) [2],
u 6 (o 33 (N .eql (t 29) (t 32))) []])
(w (t 33) (s (r [a 34 1,
o 35 (.idxS 1 (t 34) (i 1)),
l 36 35,
a 6 36])
z)
k))
(s (r [o 38 (N .eql (t 8) (c (.int .u8 9))),
a 37 38])
(w (t 37) (s (r [a 39 1,
o 40 (.idxS 1 (t 39) (i 1)),
l 41 40,
o 42 (N .eql (t 41) (i 1))])
(w (t 42) (s (r [o 6 (.mv (i 1))])
z)
k))
(s (r [o 44 (N .eql (t 8) (c (.int .u8 10))),
a 43 44])
(w (t 43) (s (r [p 45 1 3,
l 46 45,
o 47 (.call (f 162) [(t 46)]),
a 48 47,
g 49 48 true (.faddr 2 (t 3)),
g 50 48 true (.load1 (t 49)),
g 51 48 true (N .geq (t 50) (i 0)),
o 52 (.pick (t 48) (t 51) n),
a 53 52,
g 54 53 true (.faddr 2 (t 3)),
g 55 53 true (.load1 (t 54)),
g 56 53 true (.faddr 1 (t 3)),
g 57 53 true (.load1 (t 56)),
g 58 53 true (N .lss (t 55) (t 57)),
o 59 (.pick (t 53) (t 58) n)])
(w (t 59) (s (r [a 60 1,
o 61 (.idxS 1 (t 60) (i 0)),
l 62 61,
a 6 62])
z)
k))
(s (s (r [o 64 (N .eql (t 8) (c (.int .u8 11))),
a 63 64])
(w (t 63) k
(r [o 65 (N .eql (t 8) (c (.int .u8 13))),
a 63 65])))
(w (t 63) (s (d [u 0 (a 66 1) [],
u 1 (o 67 (.idxS 1 (t 66) (i 0))) [],
u 2 (l 68 67) [],
u 3 (a 69 1) [],
u 4 (o 70 (.idxS 1 (t 69) (i 1))) [],
u 5 (l 71 70) [2],
u 6 (o 72 (N .eql (t 68) (t 71))) []])
(w (t 72) (s (r [a 73 1,
o 74 (.idxS 1 (t 73) (i 0)),
l 75 74,
a 6 75])
z)
k))
(s (r [o 77 (N .eql (t 8) (c (.int .u8 12))),
a 76 77])
(w (t 76) (s (r [p 78 1 3,
l 79 78,
o 80 (N .geq (t 79) (i 0)),
a 81 80,
g 82 81 true (.faddr 1 (t 3)),
g 83 81 true (.load1 (t 82)),
g 84 81 true (.mv (t 2)),
g 85 81 true (N .lss (t 83) (t 84)),
o 86 (.pick (t 81) (t 85) n)])
(w (t 86) (s (r [o 6 (.mv (i 1))])
z)
k))
(s (r [o 88 (N .eql (t 8) (c (.int .u8 14))),
a 87 88])
(w (t 87) (s (r [o 6 (.mv (i 1))])
z)
k))))))))))))))))))
(s (r [o 6 (.mv (i 0))])
z)))⟩

def ir165 : IFunc := ⟨[.tmp 6],
(s (r [o 5 (.box 4 (t 2)),
o 6 (.mv (i 0))])
(s (r [a 8 0,
o 9 (.call (f 74) [(t 8),n]),
a 7 9])
(s (r [a 10 0,
a 11 1,
o 12 (.loadN 4 (t 5)),
a 13 7,
o 14 (.call (f 77) [(t 10),(t 11),(t 12),(t 13)])])
(s (r [a 15 7,
a 6 15])
z))))⟩

def ir166 : IFunc := ⟨[.tmp 2],
(s (r [o 1 (.box 2 (t 0)),
o 2 (.mv (c (.slice none 0 0)))])
(s (r [o 6 (.loadN 2 (t 1)),
o 7 (.call (f 210) [(t 6)]),
a 5 7,
o 8 (.extract 0 (t 5)),
o 9 (.extract 1 (t 5)),
a 3 8,
a 4 9])
(s (r [a 10 3,
a 2 10])
z)))⟩

def ir167 : IFunc := ⟨[],
(s (r [a 12 1,
a 10 12])
(b 0 (lo (s (s (r [a 13 10,
a 14 2,
o 15 (N .lss (t 13) (t 14))])
(w (t 15) k
(e 0)))
(s (b 1 (s (r [o 11 (.mv (i 0))])
(b 2 (lo (s (s (r [a 18 11,
a 19 0,
o 20 (.nilCheck (t 19)),
p 21 0 20,
p 22 0 21,
l 23 22,
a 24 10,
o 25 (.idxS 1 (t 23) (t 24)),
l 26 25,
o 27 (.len (t 26)),
o 28 (N .lss (t 18) (t 27))])
(w (t 28) k
(e 2)))
(s (b 3 (s (d [u 12 (a 43 3) [],
u 13 (o 44 (.call (f 127) [(t 43)])) [],
u 0 (a 31 0) [],
u 1 (o 32 (.nilCheck (t 31))) [],
u 2 (p 33 0 32) [],
u 3 (p 34 0 33) [],
u 4 (l 35 34) [4],
u 5 (a 36 10) [],
u 6 (o 37 (.idxS 1 (t 35) (t 36))) [],
u 7 (l 38 37) [7],
u 8 (a 39 11) [],
u 9 (o 40 (.idxS 5 (t 38) (t 39))) [],
u 10 (p 41 0 40) [],
u 11 (o 42 (.loadN 4 (t 41))) [11],
u 14 (o 45 (.eqF (.ag [(0,.num),(1,.num),(2,.num),(3,.num)]) false (t 42) (t 44))) []])
(w (t 45) (d [u 9 (o 55 (.call (f 132) [])) [],
u 0 (a 46 0) [],
u 1 (o 47 (.nilCheck (t 46))) [],
u 2 (p 48 0 47) [],
u 3 (p 49 0 48) [],
u 4 (l 50 49) [4],
u 5 (a 51 10) [],
u 6 (o 52 (.idxS 1 (t 50) (t 51))) [],
u 7 (l 53 52) [7],
u 8 (a 54 11) [],
u 10 (a 56 4) [],
u 11 (o 57 (.build [(.int .i64 0),(.int .i64 0),(.int .u8 0),(.int .i64 0),(.int .i64 0)] [(0,4,(t 55)),(4,1,(t 56))])) [],
u 12 (o 58 (.idxS 5 (t 53) (t 54))) [],
u 13 (q (.store 5 (t 58) (t 57))) []])
k)))
(r [a 29 11,
o 30 (N .add (t 29) (i 1)),
a 11 30])))))))
(r [a 16 10,
o 17 (N .add (t 16) (i 1)),
a 10 17]))))))⟩

def ir172 : IFunc := ⟨[.cellN 6 2,.tmp 7],
(s (r [o 3 (.box 3 (t 0)),
o 4 (.box 5 (t 1)),
o 6 (.mk 33 [(.slice none 0 0),(.slice none 0 0)]),
o 7 (.mv n)])
(s (r [o 22 (.buildSlice 1 [(.int .i64 0)] [(0,1,(i 0))]),
o 23 (.build [(.slice none 0 0),(.slice none 0 0),(.slice none 0 0)] [(2,1,(t 22))]),
o 24 (.build [(.slice none 0 0),(.slice none 0 0),(.slice none 0 0)] [(0,3,(t 23))]),
o 25 (.box 3 (t 24)),
a 8 25])
(s (d [u 0 (a 26 8) [],
u 1 (a 27 2) [],
u 2 (o 28 (.idxS 2 (t 27) (i 0))) [],
u 3 (o 29 (.loadN 2 (t 28))) [],
u 4 (o 30 (.call (f 78) [(t 26),(t 29)])) [],
u 5 (a 31 2) [],
u 6 (o 32 (.idxS 2 (t 31) (i 0))) [],
u 7 (p 33 0 32) [],
u 8 (l 34 33) [3,4],
u 9 (o 35 (.len (t 34))) [],
u 10 (o 36 (N .add (t 30) (t 35))) [],
u 11 (a 9 36) []])
(s (r [a 37 2,
o 38 (.idxS 2 (t 37) (i 0)),
o 39 (.loadN 2 (t 38)),
o 40 (.call (f 166) [(t 39)]),
a 10 40])
(s (s (r [p 41 0 4,
l 42 41])
(b 0 (s (r [o 44 (N .eql (t 42) (c (.int .u8 4))),
a 43 44])
(w (t 43) (s (d [u 0 (o 45 (.loadN 3 (t 3))) [],
u 1 (p 46 3 4) [],
u 2 (l 47 46) [1],
u 3 (a 48 2) [],
u 4 (o 49 (.idxS 2 (t 48) (i 0))) [],
u 5 (o 50 (.loadN 2 (t 49))) [2,4],
u 6 (o 51 (.call (f 125) [(t 45),(t 47),(t 50)])) [],
u 7 (o 52 (.extract 0 (t 51))) [],
u 8 (o 53 (.extract 1 (t 51))) [],
u 9 (q (.store 2 (t 6) (t 52))) [],
u 10 (a 7 53) []])
z)
(s (r [o 55 (N .eql (t 42) (c (.int .u8 18))),
a 54 55])
(w (t 54) (s (d [u 0 (o 56 (.loadN 5 (t 4))) [],
u 1 (a 57 2) [],
u 2 (o 58 (.idxS 2 (t 57) (i 0))) [],
u 3 (o 59 (.loadN 2 (t 58))) [2],
u 4 (o 60 (.call (f 214) [(t 56),(t 59)])) [],
u 5 (o 61 (.extract 0 (t 60))) [],
u 6 (o 62 (.extract 1 (t 60))) [],
u 7 (q (.store 2 (t 6) (t 61))) [],
u 8 (a 7 62) []])
z)
(s (r [o 64 (N .eql (t 42) (c (.int .u8 6))),
a 63 64])
(w (t 63) (s (r [o 11 (.mv (i 0))])
(b 1 (lo (s (s (r [a 65 11,
a 66 10,
o 67 (.len (t 66)),
o 68 (N .lss (t 65) (t 67))])
(w (t 68) k
(e 1)))
(s (b 2 (s (r [a 71 10,
a 72 11,
o 73 (.idxS 1 (t 71) (t 72)),
l 74 73,
o 75 (N .geq (t 74) (i 0))])
(w (t 75) (d [u 0 (a 76 8) [],
u 1 (a 77 9) [],
u 2 (a 78 10) [],
u 3 (a 79 11) [],
u 4 (o 80 (.idxS 1 (t 78) (t 79))) [],
u 5 (l 81 80) [],
u 6 (a 82 10) [],
u 7 (a 83 11) [],
u 8 (o 84 (.idxS 1 (t 82) (t 83))) [],
u 9 (l 85 84) [3],
u 10 (p 86 1 4) [],
u 11 (l 87 86) [1,5],
u 12 (o 88 (N .rem (t 85) (t 87))) [],
u 13 (o 89 (.call (f 215) [(t 76),(i 0),(t 77),(t 81),(t 88)])) []])
k)))
(r [a 69 11,
o 70 (N .add (t 69) (i 1)),
a 11 70]))))))
(s (r [o 91 (N .eql (t 42) (c (.int .u8 5))),
a 90 91])
(w (t 90) (s (r [o 12 (.mv (i 0))])
(b 3 (lo (s (s (r [a 92 12,
a 93 10,
o 94 (.len (t 93)),
o 95 (N .lss (t 92) (t 94))])
(w (t 95) k
(e 3)))
(s (b 4 (s (s (r [a 98 10,
a 99 12,
o 100 (.idxS 1 (t 98) (t 99)),
l 101 100,
o 102 (N .lss (t 101) (i 0))])
(w (t 102) (e 4)
k))
(s (r [a 103 8,
a 104 2,
o 105 (.idxS 2 (t 104) (i 1)),
o 106 (.loadN 2 (t 105)),
o 107 (.call (f 78) [(t 103),(t 106)]),
a 13 107])
(s (r [a 108 8,
o 109 (.nilCheck (t 108)),
p 110 0 109,
p 111 0 110,
l 112 111,
o 113 (.len (t 112)),
a 14 113])
(s (r [a 114 8,
a 115 9,
a 116 10,
a 117 12,
o 118 (.idxS 1 (t 116) (t 117)),
l 119 118,
a 120 13,
o 121 (.call (f 167) [(t 114),(i 0),(t 115),(t 119),(t 120)])])
(s (r [a 122 2,
o 123 (.idxS 2 (t 122) (i 1)),
o 124 (.loadN 2 (t 123)),
o 125 (.call (f 166) [(t 124)]),
a 15 125])
(s (s (r [o 16 (.mv (i 0))])
(b 5 (lo (s (s (r [a 126 16,
a 127 15,
o 128 (.len (t 127)),
o 129 (N .lss (t 126) (t 128))])
(w (t 129) k
(e 5)))
(s (b 6 (s (r [a 132 15,
a 133 16,
o 134 (.idxS 1 (t 132) (t 133)),
l 135 134,
o 136 (N .geq (t 135) (i 0))])
(w (t 136) (d [u 7 (p 144 1 4) [],
u 8 (l 145 144) [],
u 9 (p 146 2 4) [],
u 10 (l 147 146) [1],
u 11 (a 148 10) [],
u 12 (a 149 12) [],
u 13 (o 150 (.idxS 1 (t 148) (t 149))) [],
u 14 (l 151 150) [3,5],
u 15 (a 152 15) [],
u 16 (a 153 16) [],
u 17 (o 154 (.idxS 1 (t 152) (t 153))) [],
u 18 (l 155 154) [3,7,9],
u 19 (o 156 (.call (f 216) [(t 145),(t 147),(t 151),(t 155)])) [],
u 0 (a 137 8) [],
u 1 (a 138 13) [],
u 2 (a 139 14) [],
u 3 (a 140 15) [],
u 4 (a 141 16) [],
u 5 (o 142 (.idxS 1 (t 140) (t 141))) [],
u 6 (l 143 142) [6,7,11,15,17],
u 20 (o 157 (N .add (i 1000) (t 156))) [],
u 21 (o 158 (.call (f 215) [(t 137),(t 138),(t 139),(t 143),(t 157)])) []])
k)))
(r [a 130 16,
o 131 (N .add (t 130) (i 1)),
a 16 131]))))))
(r [a 159 8,
a 160 13,
a 161 14,
o 162 (.call (f 217) [(t 159),(t 160),(t 161)])]))))))))
(r [a 96 12,
o 97 (N .add (t 96) (i 1)),
a 12 97]))))))
(s (r [o 164 (N .eql (t 42) (c (.int .u8 7))),
a 163 164])
(w (t 163) (r [a 165 8,
a 166 9,
a 167 8,
a 168 2,
o 169 (.idxS 2 (t 168) (i 1)),
o 170 (.loadN 2 (t 169)),
o 171 (.call (f 78) [(t 167),(t 170)]),
o 172 (.call (f 167) [(t 165),(i 0),(t 166),(i 0),(t 171)])])
(s (r [o 174 (N .eql (t 42) (c (.int .u8 8))),
a 173 174])
(w (t 173) (s (d [u 0 (a 175 8) [],
u 1 (a 176 2) [],
u 2 (o 177 (.idxS 2 (t 176) (i 1))) [],
u 3 (o 178 (.loadN 2 (t 177))) [],
u 4 (o 179 (.call (f 78) [(t 175),(t 178)])) [],
u 5 (a 180 8) [],
u 6 (a 181 2) [],
u 7 (o 182 (.idxS 2 (t 181) (i 2))) [],
u 8 (o 183 (.loadN 2 (t 182))) [3,4],
u 9 (o 184 (.call (f 78) [(t 180),(t 183)])) [],
u 10 (a 17 179) [],
u 11 (a 18 184) []])
(s (r [o 19 (.mv (i 0))])
(b 7 (lo (s (s (r [a 185 19,
a 186 10,
o 187 (.len (t 186)),
o 188 (N .lss (t 185) (t 187))])
(w (t 188) k
(e 7)))
(s (b 8 (b 9 (s (r [a 192 10,
a 193 19,
o 194 (.idxS 1 (t 192) (t 193)),
l 195 194,
o 196 (N .gtr (t 195) (i 0)),
a 191 196])
(w (t 191) (r [a 197 8,
a 198 9,
a 199 10,
a 200 19,
o 201 (.idxS 1 (t 199) (t 200)),
l 202 201,
a 203 17,
o 204 (.call (f 167) [(t 197),(i 0),(t 198),(t 202),(t 203)])])
(s (r [a 206 10,
a 207 19,
o 208 (.idxS 1 (t 206) (t 207)),
l 209 208,
o 210 (N .eql (t 209) (i 0)),
a 205 210])
(w (t 205) (r [a 211 8,
a 212 9,
a 213 18,
o 214 (.call (f 167) [(t 211),(i 0),(t 212),(i 0),(t 213)])])
k))))))
(r [a 189 19,
o 190 (N .add (t 189) (i 1)),
a 19 190])))))))
(s (r [o 216 (N .eql (t 42) (c (.int .u8 9))),
a 215 216])
(w (t 215) (s (r [a 217 8,
a 218 2,
o 219 (.idxS 2 (t 218) (i 1)),
o 220 (.loadN 2 (t 219)),
o 221 (.call (f 78) [(t 217),(t 220)]),
a 20 221])
(s (r [a 222 8,
a 223 20,
a 224 8,
o 225 (.nilCheck (t 224)),
p 226 0 225,
p 227 0 226,
l 228 227,
o 229 (.len (t 228)),
o 230 (.call (f 167) [(t 222),(t 223),(t 229),(i 0),(i 0)])])
(s (r [o 21 (.mv (i 0))])
(b 10 (lo (s (s (r [a 231 21,
a 232 10,
o 233 (.len (t 232)),
o 234 (N .lss (t 231) (t 233))])
(w (t 234) k
(e 10)))
(s (b 11 (s (r [a 237 10,
a 238 21,
o 239 (.idxS 1 (t 237) (t 238)),
l 240 239,
o 241 (N .gtr (t 240) (i 0))])
(w (t 241) (r [a 242 8,
a 243 9,
a 244 10,
a 245 21,
o 246 (.idxS 1 (t 244) (t 245)),
l 247 246,
a 248 20,
o 249 (.call (f 167) [(t 242),(i 0),(t 243),(t 247),(t 248)])])
k)))
(r [a 235 21,
o 236 (N .add (t 235) (i 1)),
a 21 236]))))))))
(s (r [o 251 (N .eql (t 42) (c (.int .u8 11))),
a 250 251])
(w (t 250) (s (d [u 0 (a 252 2) [],
u 1 (o 253 (.idxS 2 (t 252) (i 0))) [],
u 2 (o 254 (.loadN 2 (t 253))) [],
u 3 (a 255 2) [],
u 4 (o 256 (.idxS 2 (t 255) (i 1))) [],
u 5 (o 257 (.loadN 2 (t 256))) [2],
u 6 (o 258 (.call (f 218) [(t 254),(t 257)])) [],
u 7 (o 259 (.extract 0 (t 258))) [],
u 8 (o 260 (.extract 1 (t 258))) [],
u 9 (q (.store 2 (t 6) (t 259))) [],
u 10 (a 7 260) []])
z)
(s (r [o 262 (N .eql (t 42) (c (.int .u8 13))),
a 261 262])
(w (t 261) (r [a 263 8,
a 264 8,
a 265 2,
o 266 (.idxS 2 (t 265) (i 1)),
o 267 (.loadN 2 (t 266)),
o 268 (.call (f 78) [(t 264),(t 267)]),
o 269 (.buildSlice 2 [(.int .i64 0),(.int .i64 0)] [(0,1,(i 0)),(1,1,(t 268))]),
o 270 (.nilCheck (t 263)),
p 271 0 270,
p 272 2 271,
q (.store 1 (t 272) (t 269))])
k))))))))))))))))))))
(s (r [a 273 8,
o 274 (.call (f 79) [(t 273)]),
o 275 (.extract 0 (t 274)),
o 276 (.extract 1 (t 274)),
q (.store 2 (t 6) (t 275)),
a 7 276])
z))))))⟩

def ir173 : IFunc := ⟨[.tmp 4],
(s (r [o 4 (.mv n)])
(s (s (r [o 5 (.mv (i 0))])
(b 0 (lo (s (s (r [a 6 5,
a 7 0,
o 8 (.len (t 7)),
o 9 (N .lss (t 6) (t 8))])
(w (t 9) k
(e 0)))
(s (b 1 (s (r [a 12 0,
a 13 5,
o 14 (.idxS 1 (t 12) (t 13)),
l 15 14,
a 16 1,
o 17 (N .eql (t 15) (t 16))])
(w (t 17) (s (r [o 4 (.mv y)])
z)
k)))
(r [a 10 5,
o 11 (N .add (t 10) (i 1)),
a 5 11]))))))
(s (r [o 4 (.mv n)])
z)))⟩

def ir174 : IFunc := ⟨[.cellN 2 2,.tmp 3],
(s (r [o 1 (.box 3 (t 0)),
o 2 (.mk 33 [(.slice none 0 0),(.slice none 0 0)]),
o 3 (.mv n)])
(s (r [p 15 2 1,
l 16 15,
o 17 (.call (f 219) [(t 16)]),
a 4 17])
(s (s (r [a 18 4,
o 19 (.len (t 18)),
o 20 (N .eql (t 19) (i 0))])
(w (t 20) (s (r [o 21 (.call (f 169) []),
q (.store 2 (t 2) (t 21)),
o 3 (.mv y)])
z)
k))
(s (r [a 22 4,
o 23 (.buildSlice 1 [(.slice none 0 0)] [(0,1,(t 22))]),
a 5 23])
(s (r [o 6 (.mk 33 [(.slice none 0 0),(.slice none 0 0)])])
(s (s (r [o 7 (.mv (i 0))])
(b 0 (lo (s (s (r [a 24 7,
a 25 5,
o 26 (.len (t 25)),
o 27 (N .lss (t 24) (t 26))])
(w (t 27) k
(e 0)))
(s (b 1 (s (r [o 8 (.mv n)])
(s (s (r [o 9 (.mv (i 0))])
(b 2 (lo (s (s (r [a 30 9,
a 31 5,
a 32 7,
o 33 (.idxS 1 (t 31) (t 32)),
l 34 33,
o 35 (.len (t 34)),
o 36 (N .lss (t 30) (t 35))])
(w (t 36) k
(e 2)))
(s (b 3 (d [u 0 (a 39 8) [],
u 1 (a 40 39) [],
u 2 (g 41 40 false (.faddr 1 (t 1))) [],
u 3 (g 42 40 false (.load1 (t 41))) [],
u 4 (g 43 40 false (.mv (t 5))) [],
u 5 (g 44 40 false (.mv (t 7))) [],
u 6 (g 45 40 false (.idxS 1 (t 43) (t 44))) [],
u 7 (g 46 40 false (.load1 (t 45))) [3],
u 8 (g 47 40 false (.mv (t 9))) [],
u 9 (g 48 40 false (.idxS 1 (t 46) (t 47))) [],
u 10 (g 49 40 false (.load1 (t 48))) [6],
u 11 (g 50 40 false (.idxS 1 (t 42) (t 49))) [],
u 12 (g 51 40 false (.load1 (t 50))) [],
u 13 (o 52 (.pick (t 40) y (t 51))) [],
u 14 (a 8 52) []]))
(r [a 37 9,
o 38 (N .add (t 37) (i 1)),
a 9 38]))))))
(s (r [o 10 (.mv (c (.slice none 0 0)))])
(s (d [u 0 (o 53 (.loadN 3 (t 1))) [],
u 1 (a 54 5) [],
u 2 (a 55 7) [],
u 3 (o 56 (.idxS 1 (t 54) (t 55))) [],
u 4 (l 57 56) [3],
u 5 (o 58 (.call (f 220) [(t 53),(t 57)])) [],
u 6 (a 11 58) []])
(s (s (r [o 12 (.mv (i 0))])
(b 4 (lo (s (s (r [a 59 12,
a 60 11,
o 61 (.len (t 60)),
o 62 (N .lss (t 59) (t 61))])
(w (t 62) k
(e 4)))
(s (b 5 (s (d [u 0 (o 65 (.loadN 3 (t 1))) [],
u 1 (a 66 5) [],
u 2 (a 67 7) [],
u 3 (o 68 (.idxS 1 (t 66) (t 67))) [],
u 4 (l 69 68) [3],
u 5 (a 70 11) [],
u 6 (a 71 12) [],
u 7 (o 72 (.idxS 4 (t 70) (t 71))) [],
u 8 (o 73 (.loadN 4 (t 72))) [3,7],
u 9 (o 74 (.call (f 221) [(t 65),(t 69),(t 73)])) [],
u 10 (a 13 74) []])
(s (r [a 75 5,
a 76 13,
o 77 (.call (f 222) [(t 75),(t 76)]),
a 14 77])
(s (s (r [a 78 14,
o 79 (N .lss (t 78) (i 0))])
(w (t 79) (r [a 80 5,
o 81 (.len (t 80)),
a 82 5,
a 83 13,
o 84 (.buildSlice 1 [(.slice none 0 0)] [(0,1,(t 83))]),
o 85 (.append 37 1 24 (t 82) (t 84)),
a 14 81,
a 5 85])
k))
(s (s (r [a 86 5,
o 87 (.len (t 86)),
o 88 (N .gtr (t 87) (i 2000))])
(w (t 88) (s (r [o 89 (.build [(.slice none 0 0),(.slice none 0 0)] []),
q (.store 2 (t 2) (t 89)),
o 3 (.mv n)])
z)
k))
(r [a 90 10,
a 91 11,
a 92 12,
o 93 (.idxS 4 (t 91) (t 92)),
o 94 (.loadN 4 (t 93)),
a 95 14,
o 96 (.build [(.int .i64 0),(.int .i64 0),(.int .u8 0),(.int .i64 0),(.int .i64 0)] [(0,4,(t 94)),(4,1,(t 95))]),
o 97 (.buildSlice 1 [(.int .i64 0),(.int .i64 0),(.int .u8 0),(.int .i64 0),(.int .i64 0)] [(0,5,(t 96))]),
o 98 (.append 143 5 40 (t 90) (t 97)),
a 10 98]))))))
(r [a 63 12,
o 64 (N .add (t 63) (i 1)),
a 12 64]))))))
(d [u 0 (p 99 0 6) [],
u 1 (l 100 99) [],
u 2 (a 101 10) [],
u 3 (o 102 (.buildSlice 1 [(.slice none 0 0)] [(0,1,(t 101))])) [1],
u 4 (o 103 (.append 140 1 24 (t 100) (t 102))) [],
u 5 (p 104 1 6) [],
u 6 (l 105 104) [1,2,4],
u 7 (a 106 8) [],
u 8 (o 107 (.buildSlice 1 [(.bool false)] [(0,1,(t 106))])) [1,3,4,6],
u 9 (o 108 (.append 4 1 1 (t 105) (t 107))) [],
u 10 (p 109 0 6) [],
u 11 (q (.store 1 (t 109) (t 103))) [],
u 12 (p 110 1 6) [],
u 13 (q (.store 1 (t 110) (t 108))) []])))))))
(r [a 28 7,
o 29 (N .add (t 28) (i 1)),
a 7 29]))))))
(s (r [o 111 (.loadN 2 (t 6)),
q (.store 2 (t 2) (t 111)),
o 3 (.mv y)])
z)))))))⟩

def ir175 : IFunc := ⟨[.cellN 2 2],
(s (r [o 1 (.box 2 (t 0)),
o 2 (.mk 33 [(.slice none 0 0),(.slice none 0 0)])])
(s (r [o 15 (.loadN 2 (t 1)),
o 16 (.call (f 223) [(t 15)]),
a 3 16])
(s (s (r [a 17 3,
o 18 (.idxS 1 (t 17) (i 0)),
l 19 18,
o 20 (.not (t 19))])
(w (t 20) (s (r [o 21 (.call (f 169) []),
q (.store 2 (t 2) (t 21))])
z)
k))
(s (r [o 22 (.loadN 2 (t 1)),
a 23 3,
o 24 (.call (f 224) [(t 22),(t 23)]),
a 4 24])
(s (s (r [a 25 4,
o 26 (.bin .slc .eql (t 25) (c (.slice none 0 0)))])
(w (t 26) (s (r [o 27 (.mkSlice 24 [(.slice none 0 0)] (i 401) (i 401)),
o 28 (.build [(.slice none 0 0),(.slice none 0 0)] [(0,1,(t 27))]),
q (.store 2 (t 2) (t 28))])
z)
k))
(s (r [o 5 (.mk 33 [(.slice none 0 0),(.slice none 0 0)])])
(s (r [o 29 (.buildSlice 1 [(.int .i64 0)] [(0,1,(i 0))]),
a 6 29])
(s (s (r [o 7 (.mv (i 0))])
(b 0 (lo (s (s (r [a 30 7,
a 31 6,
o 32 (.len (t 31)),
o 33 (N .lss (t 30) (t 32))])
(w (t 33) k
(e 0)))
(s (b 1 (s (r [o 8 (.mv (c (.slice none 0 0)))])
(s (d [u 0 (p 36 0 1) [],
u 1 (l 37 36) [],
u 2 (o 38 (.build [(.slice none 0 0),(.slice none 0 0),(.slice none 0 0)] [(0,1,(t 37))])) [],
u 3 (a 39 6) [],
u 4 (a 40 7) [],
u 5 (o 41 (.idxS 1 (t 39) (t 40))) [],
u 6 (l 42 41) [4],
u 7 (o 43 (.buildSlice 1 [(.int .i64 0)] [(0,1,(t 42))])) [5],
u 8 (o 44 (.call (f 220) [(t 38),(t 43)])) [],
u 9 (a 9 44) []])
(s (s (r [o 10 (.mv (i 0))])
(b 2 (lo (s (s (r [a 45 10,
a 46 9,
o 47 (.len (t 46)),
o 48 (N .lss (t 45) (t 47))])
(w (t 48) k
(e 2)))
(s (b 3 (s (r [o 11 (.mv (i (-1)))])
(s (s (r [o 12 (.mv (i 0))])
(b 4 (lo (s (s (d [u 0 (a 51 12) [],
u 1 (p 52 0 1) [],
u 2 (l 53 52) [],
u 3 (a 54 6) [],
u 4 (a 55 7) [],
u 5 (o 56 (.idxS 1 (t 54) (t 55))) [],
u 6 (l 57 56) [3],
u 7 (o 58 (.idxS 1 (t 53) (t 57))) [],
u 8 (l 59 58) [],
u 9 (o 60 (.len (t 59))) [],
u 10 (o 61 (N .lss (t 51) (t 60))) []])
(w (t 61) k
(e 4)))
(s (b 5 (s (d [u 0 (p 64 0 1) [],
u 1 (l 65 64) [],
u 2 (a 66 6) [],
u 3 (a 67 7) [],
u 4 (o 68 (.idxS 1 (t 66) (t 67))) [],
u 5 (l 69 68) [3],
u 6 (o 70 (.idxS 1 (t 65) (t 69))) [],
u 7 (l 71 70) [],
u 8 (a 72 12) [],
u 9 (o 73 (.idxS 5 (t 71) (t 72))) [],
u 10 (o 74 (.loadN 5 (t 73))) [],
u 11 (o 13 (.mk 143 [(.int .i64 0),(.int .i64 0),(.int .u8 0),(.int .i64 0),(.int .i64 0)])) [0,3,5,9],
u 12 (q (.store 5 (t 13) (t 74))) []])
(s (d [u 0 (p 75 0 13) [],
u 1 (o 76 (.loadN 4 (t 75))) [],
u 2 (a 77 9) [],
u 3 (a 78 10) [],
u 4 (o 79 (.idxS 4 (t 77) (t 78))) [],
u 5 (o 80 (.loadN 4 (t 79))) [3],
u 6 (o 81 (.eqF (.ag [(0,.num),(1,.num),(2,.num),(3,.num)]) false (t 76) (t 80))) [],
u 7 (a 82 81) [],
u 8 (g 83 82 true (.mv (t 3))) [],
u 9 (g 84 82 true (.faddr 4 (t 13))) [],
u 10 (g 85 82 true (.load1 (t 84))) [],
u 11 (g 86 82 true (.idxS 1 (t 83) (t 85))) [],
u 12 (g 87 82 true (.load1 (t 86))) [],
u 13 (o 88 (.pick (t 82) (t 87) n)) []])
(w (t 88) (r [p 89 4 13,
l 90 89,
a 11 90])
k))))
(r [a 62 12,
o 63 (N .add (t 62) (i 1)),
a 12 63]))))))
(s (s (r [a 91 11,
o 92 (N .lss (t 91) (i 0))])
(w (t 92) (e 3)
k))
(s (r [o 14 (.mv (i 0))])
(s (b 6 (lo (s (s (d [u 0 (a 93 14) [],
u 1 (a 94 6) [],
u 2 (o 95 (.len (t 94))) [],
u 3 (o 96 (N .lss (t 93) (t 95))) [],
u 4 (a 97 96) [],
u 5 (g 98 97 true (.mv (t 4))) [],
u 6 (g 99 97 true (.mv (t 6))) [],
u 7 (g 100 97 true (.mv (t 14))) [],
u 8 (g 101 97 true (.idxS 1 (t 99) (t 100))) [],
u 9 (g 102 97 true (.load1 (t 101))) [],
u 10 (g 103 97 true (.idxS 1 (t 98) (t 102))) [],
u 11 (g 104 97 true (.load1 (t 103))) [],
u 12 (g 105 97 true (.mv (t 4))) [],
u 13 (g 106 97 true (.mv (t 11))) [],
u 14 (g 107 97 true (.idxS 1 (t 105) (t 106))) [],
u 15 (g 108 97 true (.load1 (t 107))) [3,5],
u 16 (g 109 97 true (N .neq (t 104) (t 108))) [],
u 17 (o 110 (.pick (t 97) (t 109) n)) []])
(w (t 110) k
(e 6)))
(b 7 (r [a 111 14,
o 112 (N .add (t 111) (i 1)),
a 14 112])))))
(s (s (r [a 113 14,
a 114 6,
o 115 (.len (t 114)),
o 116 (N .eql (t 113) (t 115))])
(w (t 116) (r [a 117 6,
a 118 11,
o 119 (.buildSlice 1 [(.int .i64 0)] [(0,1,(t 118))]),
o 120 (.append 3 1 8 (t 117) (t 119)),
a 6 120])
k))
(r [a 121 8,
a 122 9,
a 123 10,
o 124 (.idxS 4 (t 122) (t 123)),
o 125 (.loadN 4 (t 124)),
a 126 14,
o 127 (.build [(.int .i64 0),(.int .i64 0),(.int .u8 0),(.int .i64 0),(.int .i64 0)] [(0,4,(t 125)),(4,1,(t 126))]),
o 128 (.buildSlice 1 [(.int .i64 0),(.int .i64 0),(.int .u8 0),(.int .i64 0),(.int .i64 0)] [(0,5,(t 127))]),
o 129 (.append 143 5 40 (t 121) (t 128)),
a 8 129]))))))))
(r [a 49 10,
o 50 (N .add (t 49) (i 1)),
a 10 50]))))))
(d [u 0 (p 130 0 5) [],
u 1 (l 131 130) [],
u 2 (a 132 8) [],
u 3 (o 133 (.buildSlice 1 [(.slice none 0 0)] [(0,1,(t 132))])) [1],
u 4 (o 134 (.append 140 1 24 (t 131) (t 133))) [],
u 5 (p 135 1 5) [],
u 6 (l 136 135) [1,2,4],
u 7 (p 137 1 1) [],
u 8 (l 138 137) [1,3,4,6],
u 9 (a 139 6) [],
u 10 (a 140 7) [],
u 11 (o 141 (.idxS 1 (t 139) (t 140))) [],
u 12 (l 142 141) [3,5,7,8,10],
u 13 (o 143 (.idxS 1 (t 138) (t 142))) [],
u 14 (l 144 143) [7,9,10,12],
u 15 (o 145 (.buildSlice 1 [(.bool false)] [(0,1,(t 144))])) [8,10,11,13],
u 16 (o 146 (.append 4 1 1 (t 136) (t 145))) [],
u 17 (p 147 0 5) [],
u 18 (q (.store 1 (t 147) (t 134))) [],
u 19 (p 148 1 5) [],
u 20 (q (.store 1 (t 148) (t 146))) []])))))
(r [a 34 7,
o 35 (N .add (t 34) (i 1)),
a 7 35]))))))
(s (r [o 149 (.loadN 2 (t 5)),
q (.store 2 (t 2) (t 149))])
z)))))))))⟩

def ir176 : IFunc := ⟨[.tmp 2],
(s (r [o 1 (.box 2 (t 0)),
o 2 (.mv n)])
(s (r [p 3 0 1,
l 4 3,
o 5 (.len (t 4)),
o 6 (N .gtr (t 5) (i 400)),
a 7 6,
g 8 7 false (.faddr 1 (t 1)),
g 9 7 false (.load1 (t 8)),
g 10 7 false (.len (t 9)),
g 11 7 false (N .gtr (t 10) (i 400)),
o 12 (.pick (t 7) y (t 11)),
a 13 12,
g 14 13 false (.faddr 0 (t 1)),
g 15 13 false (.load1 (t 14)),
g 16 13 false (.call (f 225) [(t 15)]),
g 17 13 false (N .gtr (t 16) (i 6000)),
o 18 (.pick (t 13) y (t 17)),
a 2 18])
z))⟩

def ir177 : IFunc := ⟨[.tmp 2],
(s (r [o 2 (.mv (i 0))])
(s (d [u 0 (a 5 0) [],
u 1 (o 6 (.nilCheck (t 5))) [],
u 2 (p 7 1 6) [],
u 3 (l 8 7) [],
u 4 (o 3 (.mv (i 0))) [],
u 5 (a 4 8) []])
(s (b 0 (lo (s (s (d [u 0 (a 9 0) [],
u 1 (o 10 (.nilCheck (t 9))) [],
u 2 (p 11 1 10) [],
u 3 (l 12 11) [],
u 4 (a 13 0) [],
u 5 (o 14 (.nilCheck (t 13))) [],
u 6 (p 15 0 14) [],
u 7 (l 16 15) [3],
u 8 (o 17 (.lenStr (t 16))) [],
u 9 (o 18 (N .lss (t 12) (t 17))) [],
u 10 (a 19 18) [],
u 11 (g 20 19 true (.mv (t 0))) [],
u 12 (g 21 19 true (.nilCheck (t 20))) [],
u 13 (g 22 19 true (.faddr 0 (t 21))) [],
u 14 (g 23 19 true (.load1 (t 22))) [],
u 15 (g 24 19 true (.mv (t 0))) [],
u 16 (g 25 19 true (.nilCheck (t 24))) [],
u 17 (g 26 19 true (.faddr 1 (t 25))) [],
u 18 (g 27 19 true (.load1 (t 26))) [3],
u 19 (g 28 19 true (.idxStr (t 23) (t 27))) [],
u 20 (g 29 19 true (N .geq (t 28) (c (.int .u8 48)))) [],
u 21 (o 30 (.pick (t 19) (t 29) n)) [],
u 22 (a 31 30) [],
u 23 (g 32 31 true (.mv (t 0))) [],
u 24 (g 33 31 true (.nilCheck (t 32))) [],
u 25 (g 34 31 true (.faddr 0 (t 33))) [],
u 26 (g 35 31 true (.load1 (t 34))) [],
u 27 (g 36 31 true (.mv (t 0))) [],
u 28 (g 37 31 true (.nilCheck (t 36))) [],
u 29 (g 38 31 true (.faddr 1 (t 37))) [],
u 30 (g 39 31 true (.load1 (t 38))) [3],
u 31 (g 40 31 true (.idxStr (t 35) (t 39))) [],
u 32 (g 41 31 true (N .leq (t 40) (c (.int .u8 57)))) [],
u 33 (o 42 (.pick (t 31) (t 41) n)) [],
u 34 (a 43 42) [],
u 35 (g 44 43 true (.mv (t 3))) [],
u 36 (g 45 43 true (N .leq (t 44) (i 360000))) [],
u 37 (o 46 (.pick (t 43) (t 45) n)) []])
(w (t 46) k
(e 0)))
(b 1 (s (d [u 0 (a 47 3) [],
u 1 (o 48 (N .mul (i 10) (t 47))) [],
u 2 (a 49 0) [],
u 3 (o 50 (.nilCheck (t 49))) [],
u 4 (p 51 0 50) [],
u 5 (l 52 51) [],
u 6 (a 53 0) [],
u 7 (o 54 (.nilCheck (t 53))) [],
u 8 (p 55 1 54) [],
u 9 (l 56 55) [3],
u 10 (o 57 (.idxStr (t 52) (t 56))) [],
u 11 (o 58 (N .sub (t 57) (c (.int .u8 48)))) [],
u 12 (o 59 (.conv .i64 (t 58))) [],
u 13 (o 60 (N .add (t 48) (t 59))) [],
u 14 (a 3 60) []])
(r [a 61 0,
o 62 (.nilCheck (t 61)),
p 63 1 62,
l 64 63,
o 65 (N .add (t 64) (i 1)),
o 66 (.nilCheck (t 61)),
p 67 1 66,
q (.store 1 (t 67) (t 65))]))))))
(s (s (r [a 68 0,
o 69 (.nilCheck (t 68)),
p 70 1 69,
l 71 70,
a 72 4,
o 73 (N .eql (t 71) (t 72))])
(w (t 73) (r [a 74 0,
o 75 (.nilCheck (t 74)),
p 76 2 75,
q (.store 1 (t 76) y)])
k))
(s (r [a 77 3,
a 2 77])
z)))))⟩

def ir178 : IFunc := ⟨[.tmp 2],
(s (r [o 2 (.mv (i 0))])
(s (s (r [a 3 0,
o 4 (.call (f 135) [(t 3),(c (.string ⟨#[47]⟩))]),
o 5 (.not (t 4))])
(w (t 5) (r [a 6 0,
o 7 (.nilCheck (t 6)),
p 8 2 7,
q (.store 1 (t 8) y)])
k))
(s (r [a 9 0,
o 10 (.call (f 177) [(t 9)]),
a 2 10])
z)))⟩

def ir179 : IFunc := ⟨[.tmp 2],
(s (r [o 2 (.mv (c (.string ⟨#[]⟩)))])
(s (s (r [a 3 0,
o 4 (N .lss (t 3) (i 10))])
(w (t 4) (s (r [a 5 0,
a 6 0,
o 7 (N .add (t 6) (i 1)),
o 8 (.sliceStr (c (.string ⟨#[48,49,50,51,52,53,54,55,56,57]⟩)) (some (t 5)) (some (t 7))),
a 2 8])
z)
k))
(s (r [a 9 0,
o 10 (N .quo (t 9) (i 10)),
o 11 (.call (f 179) [(t 10)]),
a 12 0,
o 13 (N .rem (t 12) (i 10)),
o 14 (.call (f 179) [(t 13)]),
o 15 (.bin .str .add (t 11) (t 14)),
a 2 15])
z)))⟩

def ir180 : IFunc := ⟨[],
(s (r [a 10 1,
o 11 (N .add (t 10) (i 1)),
a 8 11])
(b 0 (lo (s (s (r [a 12 8,
a 13 2,
o 14 (N .lss (t 12) (t 13))])
(w (t 14) k
(e 0)))
(s (b 1 (s (r [a 17 8,
a 9 17])
(b 2 (lo (s (s (d [u 0 (a 18 9) [],
u 1 (a 19 1) [],
u 2 (o 20 (N .gtr (t 18) (t 19))) [],
u 3 (a 21 20) [],
u 4 (g 22 21 true (.mv (t 3))) [],
u 5 (g 23 21 true (.mv (t 0))) [],
u 6 (g 24 21 true (.mv (t 9))) [],
u 7 (g 25 21 true (.idxS 4 (t 23) (t 24))) [],
u 8 (g 26 21 true (.loadN 4 (t 25))) [],
u 9 (g 27 21 true (.mv (t 0))) [],
u 10 (g 28 21 true (.mv (t 9))) [],
u 11 (g 29 21 true (N .sub (t 28) (i 1))) [],
u 12 (g 30 21 true (.idxS 4 (t 27) (t 29))) [],
u 13 (g 31 21 true (.loadN 4 (t 30))) [4],
u 14 (g 32 21 true (.call (t 22) [(t 26),(t 31)])) [],
u 15 (g 33 21 true (N .lss (t 32) (i 0))) [],
u 16 (o 34 (.pick (t 21) (t 33) n)) []])
(w (t 34) k
(e 2)))
(s (b 3 (d [u 0 (a 37 0) [],
u 1 (a 38 9) [],
u 2 (a 39 0) [],
u 3 (a 40 9) [],
u 4 (o 41 (N .sub (t 40) (i 1))) [],
u 5 (a 42 0) [],
u 6 (a 43 9) [],
u 7 (o 44 (N .sub (t 43) (i 1))) [],
u 8 (o 45 (.idxS 4 (t 42) (t 44))) [],
u 9 (o 46 (.loadN 4 (t 45))) [],
u 10 (a 47 0) [],
u 11 (a 48 9) [],
u 12 (o 49 (.idxS 4 (t 47) (t 48))) [],
u 13 (o 50 (.loadN 4 (t 49))) [3],
u 14 (o 51 (.idxS 4 (t 37) (t 38))) [],
u 15 (q (.store 4 (t 51) (t 46))) [],
u 16 (o 52 (.idxS 4 (t 39) (t 41))) [],
u 17 (q (.store 4 (t 52) (t 50))) []]))
(r [a 35 9,
o 36 (N .sub (t 35) (i 1)),
a 9 36])))))))
(r [a 15 8,
o 16 (N .add (t 15) (i 1)),
a 8 16]))))))⟩

def ir189 : IFunc := ⟨[.tmp 2],
(s (r [o 2 (.mv (i 0))])
(s (s (r [a 3 0,
o 4 (N .geq (t 3) (c (.int .u64 4294967296)))])
(w (t 4) (s (r [a 5 0,
o 6 (N .shr (t 5) (c (.int .u64 32))),
a 0 6])
(r [o 2 (.mv (i 32))]))
k))
(s (s (r [a 7 0,
o 8 (N .geq (t 7) (c (.int .u64 65536)))])
(w (t 8) (s (r [a 9 0,
o 10 (N .shr (t 9) (c (.int .u64 16))),
a 0 10])
(r [a 11 2,
o 12 (N .add (t 11) (i 16)),
a 2 12]))
k))
(s (s (r [a 13 0,
o 14 (N .geq (t 13) (c (.int .u64 256)))])
(w (t 14) (s (r [a 15 0,
o 16 (N .shr (t 15) (c (.int .u64 8))),
a 0 16])
(r [a 17 2,
o 18 (N .add (t 17) (i 8)),
a 2 18]))
k))
(s (r [a 19 2,
a 20 0,
o 21 (.conv .u8 (t 20)),
o 22 (.idxStr (c (.string ⟨#[0,1,2,2,3,3,3,3,4,4,4,4,4,4,4,4,5,5,5,5,5,5,5,5,5,5,5,5,5,5,5,5,6,6,6,6,6,6,6,6,6,6,6,6,6,6,6,6,6,6,6,6,6,6,6,6,6,6,6,6,6,6,6,6,7,7,7,7,7,7,7,7,7,7,7,7,7,7,7,7,7,7,7,7,7,7,7,7,7,7,7,7,7,7,7,7,7,7,7,7,7,7,7,7,7,7,7,7,7,7,7,7,7,7,7,7,7,7,7,7,7,7,7,7,7,7,7,7,8,8,8,8,8,8,8,8,8,8,8,8,8,8,8,8,8,8,8,8,8,8,8,8,8,8,8,8,8,8,8,8,8,8,8,8,8,8,8,8,8,8,8,8,8,8,8,8,8,8,8,8,8,8,8,8,8,8,8,8,8,8,8,8,8,8,8,8,8,8,8,8,8,8,8,8,8,8,8,8,8,8,8,8,8,8,8,8,8,8,8,8,8,8,8,8,8,8,8,8,8,8,8,8,8,8,8,8,8,8,8,8,8,8,8,8,8,8,8,8,8,8,8,8,8,8,8,8]⟩)) (t 21)),
o 23 (.conv .i64 (t 22)),
o 24 (N .add (t 19) (t 23)),
a 2 24])
z)))))⟩

def ir190 : IFunc := ⟨[.tmp 2],
(s (r [o 2 (.mv n)])
(s (r [a 3 0,
a 4 0,
o 5 (N .neq (t 3) (t 4)),
a 2 5])
z))⟩

def ir191 : IFunc := ⟨[.tmp 2],
(s (r [o 2 (.mv n)])
(s (r [a 3 0,
a 4 0,
o 5 (N .neq (t 3) (t 4)),
a 2 5])
z))⟩

def ir192 : IFunc := ⟨[.tmp 4,.tmp 5],
(s (r [o 2 (.box 4 (t 0)),
o 3 (.box 5 (t 1)),
o 4 (.mv (i 0)),
o 5 (.mv n)])
(s (s (r [o 12 (.loadN 4 (t 2)),
o 13 (.loadN 5 (t 3)),
o 14 (.call (f 143) [(t 12),(t 13)]),
o 15 (.not (t 14))])
(w (t 15) (s (r [o 4 (.mv (i 0)),
o 5 (.mv n)])
z)
k))
(s (s (r [p 16 0 3,
l 17 16])
(b 0 (s (r [o 19 (N .eql (t 17) (c (.int .u8 1))),
a 18 19])
(w (t 18) (s (d [u 2 (p 22 2 3) [],
u 3 (l 23 22) [],
u 4 (o 24 (.call (f 231) [(t 23)])) [],
u 5 (a 25 24) [],
u 6 (g 26 25 true (.faddr 1 (t 3))) [],
u 7 (g 27 25 true (.load1 (t 26))) [],
u 8 (g 28 25 true (.faddr 2 (t 3))) [],
u 9 (g 29 25 true (.load1 (t 28))) [1],
u 10 (g 30 25 true (.call (f 232) [(t 27),(t 29)])) [],
u 0 (p 20 2 3) [],
u 1 (l 21 20) [1,2,4,7,8],
u 11 (o 31 (.pick (t 25) (t 30) n)) [],
u 12 (a 4 21) [],
u 13 (a 5 31) []])
z)
(s (r [o 33 (N .eql (t 17) (c (.int .u8 2))),
a 32 33])
(w (t 32) (s (r [o 35 (.loadN 4 (t 2)),
p 36 3 3,
l 37 36,
o 38 (.call (f 193) [(t 35),(t 37)]),
a 34 38,
o 39 (.extract 0 (t 34)),
o 40 (.extract 1 (t 34)),
o 6 (.mk 182 [(.slice none 0 0),(.bool false),(.int .i64 0),(.bool false)]),
q (.store 4 (t 6) (t 39)),
a 7 40])
(s (d [u 4 (a 45 7) [],
u 5 (a 46 45) [],
u 6 (g 47 46 true (.faddr 0 (t 6))) [],
u 7 (g 48 46 true (.faddr 1 (t 47))) [],
u 8 (g 49 46 true (.faddr 0 (t 48))) [],
u 9 (g 50 46 true (.load1 (t 49))) [],
u 10 (g 51 46 true (.not (t 50))) [],
u 11 (o 52 (.pick (t 46) (t 51) n)) [],
u 12 (a 53 52) [],
u 13 (g 54 53 true (.faddr 3 (t 6))) [],
u 14 (g 55 53 true (.load1 (t 54))) [],
u 15 (g 56 53 true (.not (t 55))) [],
u 16 (o 57 (.pick (t 53) (t 56) n)) [],
u 17 (a 58 57) [],
u 18 (g 59 58 true (.loadN 4 (t 2))) [],
u 19 (g 60 58 true (.faddr 4 (t 3))) [],
u 20 (g 61 58 true (.load1 (t 60))) [1],
u 21 (g 62 58 true (.faddr 0 (t 6))) [],
u 22 (g 63 58 true (.faddr 0 (t 62))) [],
u 23 (g 64 58 true (.load1 (t 63))) [2,4],
u 24 (g 65 58 true (.call (f 233) [(t 59),(t 61),(t 64)])) [],
u 0 (p 41 0 6) [],
u 1 (p 42 1 41) [],
u 2 (p 43 1 42) [],
u 3 (l 44 43) [3,4,7,9,13,18],
u 25 (o 66 (.pick (t 58) (t 65) n)) [],
u 26 (a 4 44) [],
u 27 (a 5 66) []])
z))
(s (r [o 68 (N .eql (t 17) (c (.int .u8 3))),
a 67 68])
(w (t 67) (s (r [o 69 (.loadN 4 (t 2)),
p 70 3 3,
l 71 70,
o 72 (.call (f 144) [(t 69),(t 71)]),
o 73 (.extract 0 (t 72)),
o 74 (.extract 1 (t 72)),
a 4 73,
a 5 74])
z)
(s (r [o 76 (N .eql (t 17) (c (.int .u8 4))),
a 75 76])
(w (t 75) (s (r [o 78 (.loadN 4 (t 2)),
p 79 3 3,
l 80 79,
o 81 (.call (f 144) [(t 78),(t 80)]),
a 77 81,
o 82 (.extract 0 (t 77)),
o 83 (.extract 1 (t 77)),
a 8 82,
a 9 83])
(s (d [u 0 (a 84 9) [],
u 1 (a 85 84) [],
u 2 (g 86 85 true (.loadN 4 (t 2))) [],
u 3 (g 87 85 true (.faddr 4 (t 3))) [],
u 4 (g 88 85 true (.load1 (t 87))) [1],
u 5 (g 89 85 true (.idxS 5 (t 88) (i 0))) [],
u 6 (g 90 85 true (.loadN 5 (t 89))) [3],
u 7 (g 91 85 true (.mv (t 8))) [],
u 8 (g 92 85 true (.call (f 142) [(t 86),(t 90),(t 91)])) [],
u 9 (o 93 (.pick (t 85) (t 92) n)) [],
u 10 (o 4 (.mv (i 1))) [],
u 11 (a 5 93) []])
z))
(s (r [o 95 (N .eql (t 17) (c (.int .u8 15))),
a 94 95])
(w (t 94) (s (r [o 97 (.loadN 4 (t 2)),
p 98 3 3,
l 99 98,
o 100 (.call (f 193) [(t 97),(t 99)]),
a 96 100,
o 101 (.extract 0 (t 96)),
o 102 (.extract 1 (t 96)),
o 10 (.mk 182 [(.slice none 0 0),(.bool false),(.int .i64 0),(.bool false)]),
q (.store 4 (t 10) (t 101)),
a 11 102])
(s (d [u 0 (p 103 0 10) [],
u 1 (p 104 1 103) [],
u 2 (p 105 1 104) [],
u 3 (l 106 105) [],
u 4 (a 107 11) [],
u 5 (a 108 107) [],
u 6 (g 109 108 true (.faddr 3 (t 10))) [],
u 7 (g 110 108 true (.load1 (t 109))) [3],
u 8 (o 111 (.pick (t 108) (t 110) n)) [],
u 9 (a 4 106) [],
u 10 (a 5 111) []])
z))
(s (r [o 113 (N .eql (t 17) (c (.int .u8 12))),
a 112 113])
(w (t 112) (s (r [p 114 1 3,
l 115 114,
p 116 2 2,
l 117 116,
o 118 (.call (f 232) [(t 115),(t 117)]),
o 4 (.mv (i 1)),
a 5 118])
z)
(s (r [o 120 (N .eql (t 17) (c (.int .u8 14))),
a 119 120])
(w (t 119) (s (r [o 4 (.mv (i 1)),
o 5 (.mv y)])
z)
(s (s (r [o 122 (N .eql (t 17) (c (.int .u8 5))),
a 121 122])
(w (t 121) k
(r [o 123 (N .eql (t 17) (c (.int .u8 6))),
a 121 123])))
(w (t 121) (s (r [o 124 (.loadN 4 (t 2)),
o 125 (.loadN 5 (t 3)),
o 126 (.call (f 234) [(t 124),(t 125)]),
o 127 (.extract 0 (t 126)),
o 128 (.extract 1 (t 126)),
a 4 127,
a 5 128])
z)
k))))))))))))))))))
(s (r [o 129 (.loadN 4 (t 2)),
o 130 (.loadN 5 (t 3)),
o 131 (.call (f 235) [(t 129),(t 130)]),
o 132 (.extract 0 (t 131)),
o 133 (.extract 1 (t 131)),
a 4 132,
a 5 133])
z))))⟩

def ir193 : IFunc := ⟨[.cellN 4 4,.tmp 5],
(s (r [o 2 (.box 4 (t 0)),
o 4 (.mk 182 [(.slice none 0 0),(.bool false),(.int .i64 0),(.bool false)]),
o 5 (.mv n)])
(s (s (r [a 6 1,
o 7 (N .lss (t 6) (i 1)),
a 8 7,
g 9 8 false (.mv (t 1)),
g 10 8 false (.faddr 0 (t 2)),
g 11 8 false (.load1 (t 10)),
g 12 8 false (.len (t 11)),
g 13 8 false (N .gtr (t 9) (t 12)),
o 14 (.pick (t 8) y (t 13))])
(w (t 14) (s (r [o 15 (.build [(.slice none 0 0),(.bool false),(.int .i64 0),(.bool false)] []),
q (.store 4 (t 4) (t 15)),
o 5 (.mv n)])
z)
k))
(s (r [p 16 0 2,
l 17 16,
a 18 1,
o 19 (N .sub (t 18) (i 1)),
o 20 (.idxS 4 (t 17) (t 19)),
o 21 (.loadN 4 (t 20)),
q (.store 4 (t 4) (t 21)),
o 5 (.mv y)])
z)))⟩

def ir194 : IFunc := ⟨[.tmp 2],
(s (r [o 2 (.mv (c (.slice none 0 0)))])
(s (s (r [a 3 0,
o 4 (.bin .slc .eql (t 3) (c (.slice none 0 0)))])
(w (t 4) (s (r [o 2 (.mv (c (.slice none 0 0)))])
z)
k))
(s (r [o 5 (.buildSlice 0 [] []),
a 6 0,
o 7 (.append 182 4 48 (t 5) (t 6)),
a 2 7])
z)))⟩

def ir195 : IFunc := ⟨[.tmp 2],
(s (r [o 2 (.mv n)])
(s (r [a 3 0,
o 4 (.call (f 196) [(t 3)]),
o 5 (.not (t 4)),
a 2 5])
z))⟩

def ir196 : IFunc := ⟨[.tmp 2],
(s (r [o 2 (.mv n)])
(s (s (r [a 4 0,
o 5 (.len (t 4)),
o 6 (N .sub (t 5) (i 1)),
o 7 (.mv (i 0))])
(b 0 (lo (s (r [o 8 (N .lss (t 7) (t 6))])
(s (w (t 8) k
(e 0))
(s (b 1 (s (r [a 9 7,
a 3 9])
(s (d [u 0 (a 10 0) [],
u 1 (a 11 3) [],
u 2 (o 12 (.idxS 5 (t 10) (t 11))) [],
u 3 (p 13 0 12) [],
u 4 (o 14 (.loadN 4 (t 13))) [],
u 5 (a 15 0) [],
u 6 (a 16 3) [],
u 7 (o 17 (N .add (t 16) (i 1))) [],
u 8 (o 18 (.idxS 5 (t 15) (t 17))) [],
u 9 (p 19 0 18) [],
u 10 (o 20 (.loadN 4 (t 19))) [5],
u 11 (o 21 (.call (f 85) [(t 14),(t 20)])) [],
u 12 (o 22 (.not (t 21))) []])
(w (t 22) (s (r [o 2 (.mv n)])
z)
k))))
(r [o 23 (N .add (t 7) (i 1)),
a 7 23])))))))
(s (r [o 2 (.mv y)])
z)))⟩

def ir197 : IFunc := ⟨[.tmp 2],
(s (r [o 1 (.box 2 (t 0)),
o 2 (.mv n)])
(s (r [p 3 0 1,
l 4 3,
o 5 (.len (t 4)),
p 6 1 1,
l 7 6,
o 8 (.len (t 7)),
o 9 (.maxI (t 5) (t 8)),
o 10 (N .gtr (t 9) (i 400)),
a 11 10,
g 12 11 false (.loadN 2 (t 1)),
g 13 11 false (.call (f 236) [(t 12)]),
g 14 11 false (N .gtr (t 13) (i 6000)),
o 15 (.pick (t 11) y (t 14)),
a 2 15])
z))⟩

def ir198 : IFunc := ⟨[.tmp 2],
(s (r [o 1 (.box 2 (t 0)),
o 2 (.mv n)])
(s (r [o 4 (.mkfn (.func 237) [] [(t 1)]),
o 3 (.mk 332 [.nilFunc]),
q (.store 1 (t 3) (t 4))])
(s (r [p 5 0 1,
l 6 5,
o 7 (.len (t 6)),
o 8 (N .gtr (t 7) (i 0)),
a 9 8,
g 10 9 true (.faddr 0 (t 1)),
g 11 9 true (.load1 (t 10)),
g 12 9 true (.len (t 11)),
g 13 9 true (.faddr 1 (t 1)),
g 14 9 true (.load1 (t 13)),
g 15 9 true (.len (t 14)),
g 16 9 true (N .eql (t 12) (t 15)),
o 17 (.pick (t 9) (t 16) n),
a 18 17,
g 19 18 true (.faddr 0 (t 1)),
g 20 18 true (.load1 (t 19)),
g 21 18 true (.mkfn (.func 238) [] [(t 3)]),
g 22 18 true (.call (f 199) [(t 20),(t 21)]),
g 23 18 true (.not (t 22)),
o 24 (.pick (t 18) (t 23) n),
a 2 24])
z)))⟩

def ir199 : IFunc := ⟨[.tmp 4],
(s (r [o 4 (.mv n)])
(s (r [a 5 0,
a 6 1,
o 7 (.call (f 240) [(t 5),(t 6)]),
o 8 (N .geq (t 7) (i 0)),
a 4 8])
z))⟩

def ir200 : IFunc := ⟨[.tmp 4],
(s (r [o 2 (.box 2 (t 0)),
o 3 (.box 2 (t 1)),
o 4 (.mv n)])
(s (r [p 5 1 2,
l 6 5,
p 7 1 3,
l 8 7,
o 9 (.call (f 113) [(t 6),(t 8)]),
a 10 9,
g 11 10 true (.faddr 0 (t 2)),
g 12 10 true (.load1 (t 11)),
g 13 10 true (.faddr 0 (t 3)),
g 14 10 true (.load1 (t 13)),
g 15 10 true (.call (f 114) [(t 12),(t 14),(f 115)]),
o 16 (.pick (t 10) (t 15) n),
a 4 16])
z))⟩

def ir201 : IFunc := ⟨[.cellN 2 2],
(s (r [o 1 (.box 2 (t 0)),
o 2 (.mk 33 [(.slice none 0 0),(.slice none 0 0)])])
(s (r [o 7 (.loadN 2 (t 1)),
o 8 (.call (f 241) [(t 7)]),
o 3 (.mk 31 [(.slice none 0 0)]),
q (.store 1 (t 3) (t 8))])
(s (s (r [l 9 3,
o 10 (.idxS 1 (t 9) (i 0)),
l 11 10,
o 12 (.not (t 11))])
(w (t 12) (s (r [o 13 (.call (f 242) []),
q (.store 2 (t 2) (t 13))])
z)
k))
(s (s (r [p 14 0 1,
l 15 14,
o 16 (.len (t 15)),
o 17 (.mv (i 0))])
(b 0 (lo (s (r [o 18 (N .lss (t 17) (t 16))])
(s (w (t 18) k
(e 0))
(s (b 1 (s (r [a 19 17,
a 4 19])
(d [u 3 (p 23 0 1) [],
u 4 (l 24 23) [],
u 5 (a 25 4) [],
u 6 (o 26 (.idxS 1 (t 24) (t 25))) [],
u 7 (l 27 26) [],
u 8 (o 28 (.mkfn (.func 244) [] [(t 3)])) [],
u 9 (o 29 (.call (f 243) [(t 27),(t 28)])) [],
u 0 (p 20 0 1) [],
u 1 (l 21 20) [1,3,6],
u 2 (a 22 4) [],
u 10 (o 30 (.idxS 1 (t 21) (t 22))) [],
u 11 (q (.store 1 (t 30) (t 29))) []])))
(r [o 31 (N .add (t 17) (i 1)),
a 17 31])))))))
(s (r [o 33 (.loadN 2 (t 1)),
o 34 (.call (f 245) [(t 33)]),
a 32 34,
o 35 (.extract 0 (t 32)),
o 36 (.extract 1 (t 32)),
a 5 35,
a 6 36])
(s (s (r [a 37 6])
(w (t 37) (r [o 38 (.loadN 2 (t 1)),
o 39 (.call (f 246) [(t 38)]),
a 5 39])
k))
(s (r [o 40 (.loadN 2 (t 1)),
a 41 5,
o 42 (.call (f 247) [(t 40),(t 41)]),
q (.store 2 (t 2) (t 42))])
z)))))))⟩

def ir202 : IFunc := ⟨[.cellN 2 2],
(s (r [o 1 (.box 2 (t 0)),
o 2 (.mk 33 [(.slice none 0 0),(.slice none 0 0)])])
(s (r [p 6 1 1,
l 7 6,
o 8 (.call (f 61) [(t 7)]),
o 9 (.build [(.slice none 0 0),(.slice none 0 0)] [(1,1,(t 8))]),
o 3 (.mk 33 [(.slice none 0 0),(.slice none 0 0)]),
q (.store 2 (t 3) (t 9))])
(s (s (r [p 10 0 1,
l 11 10,
o 12 (.len (t 11)),
o 13 (.mv (i 0))])
(b 0 (lo (s (r [o 14 (N .lss (t 13) (t 12))])
(s (w (t 14) k
(e 0))
(s (b 1 (s (r [o 15 (.idxS 1 (t 11) (t 13)),
l 16 15,
a 5 16])
(d [u 2 (a 19 5) [],
u 3 (o 20 (.call (f 62) [(t 19)])) [],
u 0 (p 17 0 3) [],
u 1 (l 18 17) [1],
u 4 (o 21 (.buildSlice 1 [(.slice none 0 0)] [(0,1,(t 20))])) [0],
u 5 (o 22 (.append 140 1 24 (t 18) (t 21))) [],
u 6 (p 23 0 3) [],
u 7 (q (.store 1 (t 23) (t 22))) []])))
(r [o 24 (N .add (t 13) (i 1)),
a 13 24])))))))
(s (r [o 25 (.loadN 2 (t 3)),
q (.store 2 (t 2) (t 25))])
z))))⟩

def ir203 : IFunc := ⟨[.cellN 8 3,.tmp 9],
(s (r [o 4 (.box 3 (t 0)),
o 5 (.box 4 (t 1)),
o 6 (.box 4 (t 2)),
o 8 (.mk 296 [(.slice none 0 0),(.bool false),(.bool false)]),
o 9 (.mv n)])
(s (s (r [o 19 (.loadN 4 (t 5)),
o 20 (.loadN 4 (t 6)),
o 21 (.call (f 248) [(t 19),(t 20)]),
a 18 21,
o 22 (.extract 0 (t 18)),
o 23 (.extract 1 (t 18)),
a 10 22,
a 11 23])
(s (r [a 24 11,
o 25 (N .neq (t 24) (i 0)),
a 26 25,
g 27 26 false (.mv (t 10)),
g 28 26 false (.not (t 27)),
o 29 (.pick (t 26) y (t 28))])
(w (t 29) (s (r [o 30 (.build [(.slice none 0 0),(.bool false),(.bool false)] []),
q (.store 3 (t 8) (t 30)),
o 9 (.mv n)])
z)
k)))
(s (s (r [p 31 0 4,
l 32 31,
o 33 (.len (t 32)),
o 34 (N .eql (t 33) (i 0))])
(w (t 34) (s (d [u 0 (o 35 (.loadN 4 (t 6))) [],
u 1 (o 36 (.buildSlice 1 [(.int .i64 0),(.int .i64 0),(.int .u8 0),(.int .i64 0)] [(0,4,(t 35))])) [],
u 2 (o 37 (.build [(.slice none 0 0),(.bool false),(.bool false)] [(0,1,(t 36))])) [],
u 3 (a 38 3) [],
u 4 (a 39 38) [],
u 5 (g 40 39 true (.faddr 0 (t 6))) [],
u 6 (g 41 39 true (.load1 (t 40))) [4,5],
u 7 (g 42 39 true (N .eql (t 41) (i 0))) [],
u 8 (o 43 (.pick (t 39) (t 42) n)) [],
u 9 (a 44 43) [],
u 10 (g 45 44 true (.faddr 2 (t 6))) [],
u 11 (g 46 44 true (.load1 (t 45))) [9,10],
u 12 (g 47 44 true (N .neq (t 46) (c (.int .u8 3)))) [],
u 13 (o 48 (.pick (t 44) (t 47) n)) [],
u 14 (q (.store 3 (t 8) (t 37))) [2],
u 15 (a 9 48) []])
z)
k))
(s (r [p 49 0 4,
l 50 49,
o 51 (.len (t 50)),
o 52 (N .sub (t 51) (i 1)),
a 12 52])
(s (r [p 53 0 4,
l 54 53,
a 55 12,
o 56 (.idxS 4 (t 54) (t 55)),
o 57 (.loadN 4 (t 56)),
o 13 (.mk 47 [(.int .i64 0),(.int .i64 0),(.int .u8 0),(.int .i64 0)]),
q (.store 4 (t 13) (t 57))])
(s (r [p 58 0 13,
l 59 58,
o 60 (N .gtr (t 59) (i 0)),
a 61 60,
g 62 61 true (.faddr 1 (t 13)),
g 63 61 true (.load1 (t 62)),
g 64 61 true (N .eql (t 63) (i 0)),
o 65 (.pick (t 61) (t 64) n),
a 14 65])
(s (s (r [p 66 2 6,
l 67 66,
o 68 (N .eql (t 67) (c (.int .u8 3)))])
(w (t 68) (s (r [p 69 3 6,
l 70 69,
o 71 (N .neq (t 70) (i (-1))),
a 72 71,
g 73 72 true (.faddr 2 (t 13)),
g 74 72 true (.load1 (t 73)),
g 75 72 true (N .eql (t 74) (c (.int .u8 1))),
g 76 72 true (.mv (t 75)),
g 77 76 false (.faddr 3 (t 6)),
g 78 76 false (.load1 (t 77)),
g 79 76 false (N .eql (t 78) (i 0)),
g 80 72 true (.pick (t 76) y (t 79)),
o 81 (.pick (t 72) (t 80) n),
a 82 81,
g 83 82 false (.faddr 3 (t 6)),
g 84 82 false (.load1 (t 83)),
g 85 82 false (N .eql (t 84) (i (-1))),
g 86 82 false (.mv (t 85)),
g 87 86 true (.faddr 1 (t 13)),
g 88 86 true (.load1 (t 87)),
g 89 86 true (N .gtr (t 88) (i 0)),
g 90 86 true (.mv (t 89)),
g 91 90 false (.mv (t 14)),
g 92 90 false (.mv (t 91)),
g 93 92 true (.faddr 3 (t 5)),
g 94 92 true (.load1 (t 93)),
g 95 90 false (.pick (t 92) (t 94) n),
g 96 86 true (.pick (t 90) y (t 95)),
g 97 82 false (.pick (t 86) (t 96) n),
o 98 (.pick (t 82) y (t 97)),
a 15 98])
(s (s (r [p 99 1 4,
l 100 99,
a 101 100,
g 102 101 false (.faddr 2 (t 4)),
g 103 101 false (.load1 (t 102)),
o 104 (.pick (t 101) y (t 103))])
(w (t 104) (r [p 105 3 6,
l 106 105,
o 107 (N .eql (t 106) (i (-1))),
a 15 107])
k))
(s (d [u 0 (p 108 0 4) [],
u 1 (l 109 108) [],
u 2 (a 110 12) [],
u 3 (o 111 (.sliceS 4 (t 109) none (some (t 110)) none)) [],
u 4 (o 112 (.call (f 249) [(t 111)])) [],
u 5 (o 113 (.loadN 4 (t 6))) [0,1,3],
u 6 (o 114 (.call (f 250) [(t 113)])) [],
u 7 (a 115 114) [],
u 12 (p 120 2 4) [],
u 13 (l 121 120) [2,3,4,5,7],
u 14 (a 122 121) [],
u 15 (g 123 122 false (.loadN 4 (t 6))) [],
u 16 (g 124 122 false (.call (f 250) [(t 123)])) [],
u 8 (g 116 115 true (.faddr 1 (t 13))) [],
u 9 (g 117 115 true (.load1 (t 116))) [1,2,4],
u 10 (g 118 115 true (N .gtr (t 117) (i 0))) [],
u 11 (o 119 (.pick (t 115) (t 118) n)) [],
u 17 (g 125 122 false (.mv (t 124))) [],
u 18 (g 126 125 true (.mv (t 14))) [],
u 19 (g 127 122 false (.pick (t 125) (t 126) n)) [],
u 20 (g 128 122 false (.mv (t 127))) [],
u 21 (g 129 128 true (.faddr 1 (t 4))) [],
u 22 (g 130 128 true (.load1 (t 129))) [7],
u 23 (g 131 128 true (.not (t 130))) [],
u 24 (g 132 122 false (.pick (t 128) (t 131) n)) [],
u 25 (o 133 (.pick (t 122) y (t 132))) [],
u 26 (o 134 (.build [(.slice none 0 0),(.bool false),(.bool false)] [(0,1,(t 112)),(1,1,(t 119)),(2,1,(t 133))])) [],
u 27 (o 16 (.mk 296 [(.slice none 0 0),(.bool false),(.bool false)])) [4,12,14,15,17,20,21,22,23,25],
u 28 (q (.store 3 (t 16) (t 134))) []])
(s (d [u 0 (o 135 (.loadN 3 (t 16))) [],
u 1 (a 136 15) [],
u 2 (a 137 136) [],
u 3 (g 138 137 true (.faddr 0 (t 6))) [],
u 4 (g 139 137 true (.load1 (t 138))) [3],
u 5 (g 140 137 true (.faddr 0 (t 13))) [],
u 6 (g 141 137 true (.load1 (t 140))) [1,5],
u 7 (g 142 137 true (N .eql (t 139) (t 141))) [],
u 8 (o 143 (.pick (t 137) (t 142) n)) [],
u 9 (a 144 143) [],
u 10 (g 145 144 true (.faddr 1 (t 6))) [],
u 11 (g 146 144 true (.load1 (t 145))) [10],
u 12 (g 147 144 true (.faddr 1 (t 13))) [],
u 13 (g 148 144 true (.load1 (t 147))) [1,12],
u 14 (g 149 144 true (N .eql (t 146) (t 148))) [],
u 15 (o 150 (.pick (t 144) (t 149) n)) [],
u 16 (q (.store 3 (t 8) (t 135))) [2,4],
u 17 (a 9 150) []])
z))))
k))
(s (r [o 151 (.loadN 4 (t 6)),
o 152 (.call (f 251) [(t 151),n]),
a 17 152])
(s (s (r [a 153 14])
(w (t 153) (r [o 154 (.loadN 4 (t 6)),
o 155 (.call (f 251) [(t 154),y]),
a 156 155,
g 157 156 true (.faddr 0 (t 6)),
g 158 156 true (.load1 (t 157)),
g 159 156 true (.faddr 0 (t 13)),
g 160 156 true (.load1 (t 159)),
g 161 156 true (N .eql (t 158) (t 160)),
o 162 (.pick (t 156) (t 161) n),
a 17 162])
k))
(s (d [u 0 (p 163 0 4) [],
u 1 (l 164 163) [],
u 2 (o 165 (.call (f 249) [(t 164)])) [],
u 3 (o 166 (.loadN 4 (t 6))) [0,1],
u 4 (o 167 (.buildSlice 1 [(.int .i64 0),(.int .i64 0),(.int .u8 0),(.int .i64 0)] [(0,4,(t 166))])) [1,2],
u 5 (o 168 (.append 47 4 32 (t 165) (t 167))) [],
u 6 (o 169 (.build [(.slice none 0 0),(.bool false),(.bool false)] [(0,1,(t 168))])) [],
u 7 (a 170 17) [],
u 8 (a 171 170) [],
u 9 (g 172 171 true (.faddr 1 (t 4))) [],
u 10 (g 173 171 true (.load1 (t 172))) [],
u 11 (g 174 171 true (.not (t 173))) [],
u 12 (o 175 (.pick (t 171) (t 174) n)) [],
u 13 (a 176 175) [],
u 14 (g 177 176 true (.faddr 2 (t 4))) [],
u 15 (g 178 176 true (.load1 (t 177))) [],
u 16 (g 179 176 true (.not (t 178))) [],
u 17 (o 180 (.pick (t 176) (t 179) n)) [],
u 18 (q (.store 3 (t 8) (t 169))) [2],
u 19 (a 9 180) []])
z))))))))))⟩

def ir204 : IFunc := ⟨[.tmp 2,.tmp 3],
(s (r [o 1 (.box 3 (t 0)),
o 2 (.mv (c (.string ⟨#[]⟩))),
o 3 (.mv (c (.string ⟨#[]⟩)))])
(s (r [o 4 (.mk 341 [(.pointer none),(.slice none 0 0)]),
o 5 (.mk 341 [(.pointer none),(.slice none 0 0)])])
(s (s (r [p 9 0 1,
l 10 9,
o 11 (.len (t 10)),
o 12 (.mv (i 0))])
(b 0 (lo (s (r [o 13 (N .lss (t 12) (t 11))])
(s (w (t 13) k
(e 0))
(s (b 1 (s (r [o 14 (.idxS 4 (t 10) (t 12)),
o 15 (.loadN 4 (t 14)),
o 7 (.mk 47 [(.int .i64 0),(.int .i64 0),(.int .u8 0),(.int .i64 0)]),
q (.store 4 (t 7) (t 15))])
(s (r [p 16 0 7,
l 17 16,
o 18 (N .mul (i 64) (t 17)),
p 19 1 7,
l 20 19,
o 21 (N .add (t 18) (t 20)),
o 22 (N .add (t 21) (i 1)),
o 23 (.conv .i32 (t 22)),
o 24 (.rune (t 23)),
o 25 (.bin .str .add (t 24) (c (.string ⟨#[32]⟩))),
o 26 (.call (f 252) [(t 4),(t 25)])])
(r [p 27 2 7,
l 28 27,
o 29 (.conv .i32 (t 28)),
o 30 (.rune (t 29)),
o 31 (.call (f 252) [(t 5),(t 30)])]))))
(r [o 32 (N .add (t 12) (i 1)),
a 12 32])))))))
(s (r [o 33 (.mkmap),
q (.insert (.sc .boo) (t 33) n (c (.string ⟨#[110]⟩))),
q (.insert (.sc .boo) (t 33) y (c (.string ⟨#[121]⟩))),
a 34 33,
a 8 34])
(s (d [u 0 (o 35 (.call (f 253) [(t 4)])) [],
u 1 (o 36 (.call (f 253) [(t 5)])) [],
u 2 (a 37 8) [],
u 3 (p 38 1 1) [],
u 4 (l 39 38) [2,3],
u 5 (o 40 (.lookup (.sc .boo) (.string ⟨#[]⟩) false (t 37) (t 39))) [3,4],
u 6 (o 41 (.bin .str .add (t 36) (t 40))) [],
u 7 (a 42 8) [],
u 8 (p 43 2 1) [],
u 9 (l 44 43) [3,4,7,8],
u 10 (o 45 (.lookup (.sc .boo) (.string ⟨#[]⟩) false (t 42) (t 44))) [4,5,8,9],
u 11 (o 46 (.bin .str .add (t 41) (t 45))) [],
u 12 (a 2 35) [],
u 13 (a 3 46) []])
z)))))⟩

def ir205 : IFunc := ⟨[.tmp 2],
(s (r [o 1 (.box 4 (t 0)),
o 2 (.mv n)])
(s (r [p 3 0 1,
l 4 3,
o 5 (N .eql (t 4) (i 0)),
a 6 5,
g 7 6 true (.faddr 1 (t 1)),
g 8 6 true (.load1 (t 7)),
g 9 6 true (N .eql (t 8) (i 0)),
o 10 (.pick (t 6) (t 9) n),
a 11 10,
g 12 11 true (.faddr 2 (t 1)),
g 13 11 true (.load1 (t 12)),
g 14 11 true (N .eql (t 13) (c (.int .u8 3))),
o 15 (.pick (t 11) (t 14) n),
a 2 15])
z))⟩

def ir206 : IFunc := ⟨[],
(s (r [a 3 0,
o 4 (.len (t 3)),
a 2 4])
(r [a 5 0,
a 6 2,
a 7 2,
o 8 (.conv .u64 (t 7)),
o 9 (.call (f 138) [(t 8)]),
o 10 (.call (f 254) [(t 5),(i 0),(t 6),(t 9)])]))⟩

def ir207 : IFunc := ⟨[.tmp 2],
(s (r [o 2 (.mv (c (.slice none 0 0)))])
(s (s (r [a 6 0,
o 7 (.len (t 6)),
o 8 (N .lss (t 7) (i 2))])
(w (t 8) (s (r [a 9 0,
a 2 9])
z)
k))
(s (s (r [o 3 (.mv (i 1))])
(b 0 (lo (s (s (r [a 10 3,
a 11 0,
o 12 (.len (t 11)),
o 13 (N .lss (t 10) (t 12))])
(w (t 13) k
(e 0)))
(s (b 1 (s (d [u 0 (a 16 0) [],
u 1 (a 17 3) [],
u 2 (o 18 (.idxS 1 (t 16) (t 17))) [],
u 3 (l 19 18) [],
u 4 (a 20 0) [],
u 5 (a 21 3) [],
u 6 (o 22 (N .sub (t 21) (i 1))) [],
u 7 (o 23 (.idxS 1 (t 20) (t 22))) [],
u 8 (l 24 23) [4],
u 9 (o 25 (N .eql (t 19) (t 24))) []])
(w (t 25) (s (r [a 26 0,
a 27 3,
o 28 (.sliceS 1 (t 26) (some (t 27)) none none),
a 4 28])
(s (s (r [o 5 (.mv (i 1))])
(b 2 (lo (s (s (r [a 29 5,
a 30 4,
o 31 (.len (t 30)),
o 32 (N .lss (t 29) (t 31))])
(w (t 32) k
(e 2)))
(s (b 3 (s (d [u 0 (a 35 4) [],
u 1 (a 36 5) [],
u 2 (o 37 (.idxS 1 (t 35) (t 36))) [],
u 3 (l 38 37) [],
u 4 (a 39 4) [],
u 5 (a 40 5) [],
u 6 (o 41 (N .sub (t 40) (i 1))) [],
u 7 (o 42 (.idxS 1 (t 39) (t 41))) [],
u 8 (l 43 42) [4],
u 9 (o 44 (N .neq (t 38) (t 43))) []])
(w (t 44) (s (r [a 45 0,
a 46 3,
a 47 4,
a 48 5,
o 49 (.idxS 1 (t 47) (t 48)),
l 50 49,
o 51 (.idxS 1 (t 45) (t 46)),
q (.store 1 (t 51) (t 50))])
(r [a 52 3,
o 53 (N .add (t 52) (i 1)),
a 3 53]))
k)))
(r [a 33 5,
o 34 (N .add (t 33) (i 1)),
a 5 34]))))))
(s (r [a 54 0,
a 55 3,
o 56 (.sliceS 1 (t 54) (some (t 55)) none none),
q (.clear [(.int .i64 0)] (t 56))])
(s (r [a 57 0,
a 58 3,
o 59 (.sliceS 1 (t 57) none (some (t 58)) none),
a 2 59])
z))))
k)))
(r [a 14 3,
o 15 (N .add (t 14) (i 1)),
a 3 15]))))))
(s (r [a 60 0,
a 2 60])
z))))⟩

def ir208 : IFunc := ⟨[.cellN 2 2,.tmp 3],
(s (r [o 2 (.mk 33 [(.slice none 0 0),(.slice none 0 0)]),
o 3 (.mv n)])
(s (r [o 14 (.mkmap),
o 4 (.mk 349 [(.map none)]),
q (.store 1 (t 4) (t 14))])
(s (r [o 5 (.mk 60 [(.slice none 0 0)])])
(s (r [o 15 (.mkfn (.func 255) [] [(t 4),(t 5)]),
a 6 15])
(s (r [a 16 0,
o 17 (.nilCheck (t 16)),
p 18 1 17,
l 19 18,
o 20 (.call (f 58) [(t 19)]),
a 7 20])
(s (r [a 21 7,
o 22 (.call (f 206) [(t 21)])])
(s (r [a 23 6,
a 24 7,
o 25 (.call (f 207) [(t 24)]),
o 26 (.call (t 23) [(t 25)])])
(s (s (r [o 8 (.mv (i 0))])
(b 0 (lo (s (s (r [a 27 8,
l 28 5,
o 29 (.len (t 28)),
o 30 (N .lss (t 27) (t 29))])
(w (t 30) k
(e 0)))
(s (b 1 (s (s (r [l 33 5,
o 34 (.len (t 33)),
o 35 (N .gtr (t 34) (i 2000))])
(w (t 35) (s (r [o 36 (.build [(.slice none 0 0),(.slice none 0 0)] []),
q (.store 2 (t 2) (t 36)),
o 3 (.mv n)])
z)
k))
(s (r [a 38 0,
l 39 5,
a 40 8,
o 41 (.idxS 1 (t 39) (t 40)),
l 42 41,
o 43 (.call (f 257) [(t 38),(t 42)]),
a 37 43,
o 44 (.extract 0 (t 37)),
o 45 (.extract 1 (t 37)),
a 9 44,
a 10 45])
(s (r [o 11 (.mv (c (.slice none 0 0)))])
(s (s (r [a 46 9,
o 47 (.len (t 46)),
o 48 (.mv (i 0))])
(b 2 (lo (s (r [o 49 (N .lss (t 48) (t 47))])
(s (w (t 49) k
(e 2))
(s (b 3 (s (r [o 50 (.idxS 5 (t 46) (t 48)),
o 51 (.loadN 5 (t 50)),
o 13 (.mk 356 [(.int .i64 0),(.int .i64 0),(.int .u8 0),(.int .i64 0),(.slice none 0 0)]),
q (.store 5 (t 13) (t 51))])
(d [u 3 (a 55 6) [],
u 4 (p 56 4 13) [],
u 5 (l 57 56) [],
u 6 (o 58 (.call (t 55) [(t 57)])) [],
u 0 (a 52 11) [],
u 1 (p 53 0 13) [],
u 2 (o 54 (.loadN 4 (t 53))) [2,3],
u 7 (o 59 (.build [(.int .i64 0),(.int .i64 0),(.int .u8 0),(.int .i64 0),(.int .i64 0)] [(0,4,(t 54)),(4,1,(t 58))])) [],
u 8 (o 60 (.buildSlice 1 [(.int .i64 0),(.int .i64 0),(.int .u8 0),(.int .i64 0),(.int .i64 0)] [(0,5,(t 59))])) [],
u 9 (o 61 (.append 143 5 40 (t 52) (t 60))) [],
u 10 (a 11 61) []])))
(r [o 62 (N .add (t 48) (i 1)),
a 48 62])))))))
(d [u 0 (p 63 0 2) [],
u 1 (l 64 63) [],
u 2 (a 65 11) [],
u 3 (o 66 (.buildSlice 1 [(.slice none 0 0)] [(0,1,(t 65))])) [1],
u 4 (o 67 (.append 140 1 24 (t 64) (t 66))) [],
u 5 (p 68 1 2) [],
u 6 (l 69 68) [1,2,4],
u 7 (a 70 10) [],
u 8 (o 71 (.buildSlice 1 [(.bool false)] [(0,1,(t 70))])) [1,3,4,6],
u 9 (o 72 (.append 4 1 1 (t 69) (t 71))) [],
u 10 (p 73 0 2) [],
u 11 (q (.store 1 (t 73) (t 67))) [],
u 12 (p 74 1 2) [],
u 13 (q (.store 1 (t 74) (t 72))) []]))))))
(r [a 31 8,
o 32 (N .add (t 31) (i 1)),
a 8 32]))))))
(s (r [o 75 (.loadN 2 (t 2)),
q (.store 2 (t 2) (t 75)),
o 3 (.mv y)])
z)))))))))⟩

def ir209 : IFunc := ⟨[.cellN 2 2],
(s (r [o 1 (.box 2 (t 0)),
o 2 (.mk 33 [(.slice none 0 0),(.slice none 0 0)])])
(s (r [o 13 (.loadN 2 (t 1)),
o 14 (.call (f 258) [(t 13)]),
a 3 14])
(s (s (r [a 15 3,
o 16 (.idxS 1 (t 15) (i 0)),
l 17 16,
o 18 (.not (t 17))])
(w (t 18) (s (r [o 19 (.call (f 259) []),
q (.store 2 (t 2) (t 19))])
z)
k))
(s (r [o 20 (.loadN 2 (t 1)),
a 21 3,
o 22 (.call (f 260) [(t 20),(t 21)]),
a 4 22])
(s (r [o 23 (.mkmap),
a 24 4,
o 25 (.idxS 1 (t 24) (i 0)),
l 26 25,
q (.insert (.sc .num) (t 23) (t 26) (i 0)),
a 27 23,
a 5 27])
(s (s (r [o 28 (.buildSlice 1 [(.int .i64 0)] [(0,1,(i 0))]),
a 6 28])
(b 0 (lo (s (s (r [a 29 6,
o 30 (.len (t 29)),
o 31 (N .gtr (t 30) (i 0))])
(w (t 31) k
(e 0)))
(s (b 1 (s (r [a 34 6,
o 35 (.idxS 1 (t 34) (i 0)),
l 36 35,
a 7 36])
(s (r [o 8 (.mv (c (.slice none 0 0)))])
(s (s (r [p 37 0 1,
l 38 37,
a 39 7,
o 40 (.idxS 1 (t 38) (t 39)),
l 41 40,
o 42 (.len (t 41)),
o 43 (.mv (i 0))])
(b 2 (lo (s (r [o 44 (N .lss (t 43) (t 42))])
(s (w (t 44) k
(e 2))
(s (b 3 (s (r [o 45 (.idxS 5 (t 41) (t 43)),
o 46 (.loadN 5 (t 45)),
o 10 (.mk 143 [(.int .i64 0),(.int .i64 0),(.int .u8 0),(.int .i64 0),(.int .i64 0)]),
q (.store 5 (t 10) (t 46))])
(s (s (r [a 47 3,
p 48 4 10,
l 49 48,
o 50 (.idxS 1 (t 47) (t 49)),
l 51 50,
o 52 (.not (t 51))])
(w (t 52) (e 3)
k))
(s (r [a 54 5,
a 55 4,
p 56 4 10,
l 57 56,
o 58 (.idxS 1 (t 55) (t 57)),
l 59 58,
o 60 (.lookup (.sc .num) (.int .i64 0) true (t 54) (t 59)),
a 53 60,
o 61 (.extract 0 (t 53)),
o 62 (.extract 1 (t 53)),
a 11 61,
a 12 62])
(s (s (r [a 63 12,
o 64 (.not (t 63))])
(w (t 64) (s (r [a 65 5,
o 66 (.lenM (t 65)),
a 11 66])
(s (r [a 67 5,
a 68 4,
p 69 4 10,
l 70 69,
o 71 (.idxS 1 (t 68) (t 70)),
l 72 71,
a 73 11,
q (.insert (.sc .num) (t 67) (t 72) (t 73))])
(r [a 74 6,
p 75 4 10,
l 76 75,
o 77 (.buildSlice 1 [(.int .i64 0)] [(0,1,(t 76))]),
o 78 (.append 3 1 8 (t 74) (t 77)),
a 6 78])))
k))
(r [a 79 8,
p 80 0 10,
o 81 (.loadN 4 (t 80)),
a 82 11,
o 83 (.build [(.int .i64 0),(.int .i64 0),(.int .u8 0),(.int .i64 0),(.int .i64 0)] [(0,4,(t 81)),(4,1,(t 82))]),
o 84 (.buildSlice 1 [(.int .i64 0),(.int .i64 0),(.int .u8 0),(.int .i64 0),(.int .i64 0)] [(0,5,(t 83))]),
o 85 (.append 143 5 40 (t 79) (t 84)),
a 8 85]))))))
(r [o 86 (N .add (t 43) (i 1)),
a 43 86])))))))
(d [u 0 (p 87 0 2) [],
u 1 (l 88 87) [],
u 2 (a 89 8) [],
u 3 (o 90 (.buildSlice 1 [(.slice none 0 0)] [(0,1,(t 89))])) [1],
u 4 (o 91 (.append 140 1 24 (t 88) (t 90))) [],
u 5 (p 92 1 2) [],
u 6 (l 93 92) [1,2,4],
u 7 (p 94 1 1) [],
u 8 (l 95 94) [1,3,4,6],
u 9 (a 96 7) [],
u 10 (o 97 (.idxS 1 (t 95) (t 96))) [],
u 11 (l 98 97) [4,6,7,9],
u 12 (o 99 (.buildSlice 1 [(.bool false)] [(0,1,(t 98))])) [5,7,8,10],
u 13 (o 100 (.append 4 1 1 (t 93) (t 99))) [],
u 14 (p 101 0 2) [],
u 15 (q (.store 1 (t 101) (t 91))) [],
u 16 (p 102 1 2) [],
u 17 (q (.store 1 (t 102) (t 100))) []])))))
(r [a 32 6,
o 33 (.sliceS 1 (t 32) (some (i 1)) none none),
a 6 33]))))))
(s (r [o 103 (.loadN 2 (t 2)),
q (.store 2 (t 2) (t 103))])
z)))))))⟩

def ir210 : IFunc := ⟨[.tmp 2,.tmp 3],
(s (r [o 1 (.box 2 (t 0)),
o 2 (.mv (c (.slice none 0 0))),
o 3 (.mv n)])
(s (r [o 4 (.mv (c (.slice none 0 0)))])
(s (s (r [o 5 (.mv (i 0))])
(b 0 (lo (s (s (r [a 10 5,
p 11 0 1,
l 12 11,
o 13 (.len (t 12)),
o 14 (N .lss (t 10) (t 13))])
(w (t 14) k
(e 0)))
(s (b 1 (s (r [o 6 (.mv (i 0))])
(b 2 (lo (s (s (r [a 17 6,
p 18 0 1,
l 19 18,
a 20 5,
o 21 (.idxS 1 (t 19) (t 20)),
l 22 21,
o 23 (.len (t 22)),
o 24 (N .lss (t 17) (t 23))])
(w (t 24) k
(e 2)))
(s (b 3 (s (r [p 27 0 1,
l 28 27,
a 29 5,
o 30 (.idxS 1 (t 28) (t 29)),
l 31 30,
a 32 6,
o 33 (.idxS 5 (t 31) (t 32)),
o 34 (.loadN 5 (t 33)),
o 7 (.mk 143 [(.int .i64 0),(.int .i64 0),(.int .u8 0),(.int .i64 0),(.int .i64 0)]),
q (.store 5 (t 7) (t 34))])
(s (s (d [u 0 (p 35 0 7) [],
u 1 (o 36 (.loadN 4 (t 35))) [],
u 2 (o 37 (.call (f 211) [(t 36)])) [],
u 3 (p 38 1 1) [],
u 4 (l 39 38) [1,2],
u 5 (p 40 4 7) [],
u 6 (l 41 40) [1,3,4],
u 7 (o 42 (.idxS 1 (t 39) (t 41))) [],
u 8 (l 43 42) [5,6],
u 9 (o 44 (.bin .boo .neq (t 37) (t 43))) [],
u 10 (a 45 44) [],
u 11 (g 46 45 false (.faddr 0 (t 7))) [],
u 12 (g 47 45 false (.loadN 4 (t 46))) [],
u 13 (g 48 45 false (.call (f 211) [(t 47)])) [],
u 14 (g 49 45 false (.mv (t 48))) [],
u 15 (g 50 49 true (.faddr 0 (t 1))) [],
u 16 (g 51 49 true (.load1 (t 50))) [],
u 17 (g 52 49 true (.faddr 4 (t 7))) [],
u 18 (g 53 49 true (.load1 (t 52))) [1],
u 19 (g 54 49 true (.idxS 1 (t 51) (t 53))) [],
u 20 (g 55 49 true (.load1 (t 54))) [],
u 21 (g 56 49 true (.len (t 55))) [],
u 22 (g 57 49 true (N .gtr (t 56) (i 0))) [],
u 23 (g 58 45 false (.pick (t 49) (t 57) n)) [],
u 24 (o 59 (.pick (t 45) y (t 58))) []])
(w (t 59) (s (r [o 2 (.mv (c (.slice none 0 0))),
o 3 (.mv n)])
z)
k))
(s (r [p 60 0 7,
o 61 (.loadN 4 (t 60)),
o 62 (.call (f 211) [(t 61)])])
(w (t 62) (r [a 63 4,
p 64 0 7,
o 65 (.loadN 4 (t 64)),
o 66 (.call (f 261) [(t 63),(t 65)]),
a 4 66])
k)))))
(r [a 25 6,
o 26 (N .add (t 25) (i 1)),
a 6 26])))))))
(r [a 15 5,
o 16 (N .add (t 15) (i 1)),
a 5 16]))))))
(s (r [o 8 (.mv (c (.slice none 0 0)))])
(s (s (r [o 9 (.mv (i 0))])
(b 4 (lo (s (s (r [a 67 9,
a 68 4,
o 69 (.len (t 68)),
o 70 (N .lss (t 67) (t 69))])
(w (t 70) k
(e 4)))
(s (b 5 (r [a 73 8,
a 74 4,
a 75 9,
o 76 (.idxS 4 (t 74) (t 75)),
p 77 3 76,
l 78 77,
o 79 (.buildSlice 1 [(.int .i64 0)] [(0,1,(t 78))]),
o 80 (.append 3 1 8 (t 73) (t 79)),
a 8 80]))
(r [a 71 9,
o 72 (N .add (t 71) (i 1)),
a 9 72]))))))
(s (d [u 0 (a 81 8) [],
u 1 (p 82 1 1) [],
u 2 (l 83 82) [],
u 3 (o 84 (.idxS 1 (t 83) (i 0))) [],
u 4 (l 85 84) [],
u 5 (o 86 (.not (t 85))) [],
u 6 (a 2 81) [],
u 7 (a 3 86) []])
z))))))⟩

def ir211 : IFunc := ⟨[.tmp 2],
(s (r [o 1 (.box 4 (t 0)),
o 2 (.mv n)])
(s (r [p 3 0 1,
l 4 3,
o 5 (N .eql (t 4) (i 0)),
a 6 5,
g 7 6 true (.faddr 1 (t 1)),
g 8 6 true (.load1 (t 7)),
g 9 6 true (N .eql (t 8) (i 0)),
o 10 (.pick (t 6) (t 9) n),
a 11 10,
g 12 11 true (.faddr 2 (t 1)),
g 13 11 true (.load1 (t 12)),
g 14 11 true (N .eql (t 13) (c (.int .u8 3))),
o 15 (.pick (t 11) (t 14) n),
a 2 15])
z))⟩

def ir215 : IFunc := ⟨[],
(s (r [a 12 1,
a 10 12])
(b 0 (lo (s (s (r [a 13 10,
a 14 2,
o 15 (N .lss (t 13) (t 14))])
(w (t 15) k
(e 0)))
(s (b 1 (s (r [o 11 (.mv (i 0))])
(b 2 (lo (s (s (r [a 18 11,
a 19 0,
o 20 (.nilCheck (t 19)),
p 21 0 20,
p 22 0 21,
l 23 22,
a 24 10,
o 25 (.idxS 1 (t 23) (t 24)),
l 26 25,
o 27 (.len (t 26)),
o 28 (N .lss (t 18) (t 27))])
(w (t 28) k
(e 2)))
(s (b 3 (s (d [u 12 (a 43 3) [],
u 13 (o 44 (.call (f 127) [(t 43)])) [],
u 0 (a 31 0) [],
u 1 (o 32 (.nilCheck (t 31))) [],
u 2 (p 33 0 32) [],
u 3 (p 34 0 33) [],
u 4 (l 35 34) [4],
u 5 (a 36 10) [],
u 6 (o 37 (.idxS 1 (t 35) (t 36))) [],
u 7 (l 38 37) [7],
u 8 (a 39 11) [],
u 9 (o 40 (.idxS 5 (t 38) (t 39))) [],
u 10 (p 41 0 40) [],
u 11 (o 42 (.loadN 4 (t 41))) [11],
u 14 (o 45 (.eqF (.ag [(0,.num),(1,.num),(2,.num),(3,.num)]) false (t 42) (t 44))) []])
(w (t 45) (d [u 9 (a 55 4) [],
u 10 (o 56 (.call (f 127) [(t 55)])) [],
u 0 (a 46 0) [],
u 1 (o 47 (.nilCheck (t 46))) [],
u 2 (p 48 0 47) [],
u 3 (p 49 0 48) [],
u 4 (l 50 49) [4],
u 5 (a 51 10) [],
u 6 (o 52 (.idxS 1 (t 50) (t 51))) [],
u 7 (l 53 52) [7],
u 8 (a 54 11) [],
u 11 (o 57 (.idxS 5 (t 53) (t 54))) [],
u 12 (p 58 0 57) [],
u 13 (q (.store 4 (t 58) (t 56))) []])
k)))
(r [a 29 11,
o 30 (N .add (t 29) (i 1)),
a 11 30])))))))
(r [a 16 10,
o 17 (N .add (t 16) (i 1)),
a 10 17]))))))⟩

def ir216 : IFunc := ⟨[.tmp 8],
(s (r [o 8 (.mv (i 0))])
(s (s (r [a 9 0])
(b 0 (s (r [o 11 (N .eql (t 9) (i 1)),
a 10 11])
(w (t 10) (s (r [a 12 2,
a 13 3,
o 14 (N .add (t 12) (t 13)),
a 15 1,
o 16 (N .rem (t 14) (t 15)),
a 8 16])
z)
(s (r [o 18 (N .eql (t 9) (i 2)),
a 17 18])
(w (t 17) (s (r [a 19 2,
a 20 3,
o 21 (N .sub (t 19) (t 20)),
a 22 1,
o 23 (N .add (t 21) (t 22)),
a 24 1,
o 25 (N .rem (t 23) (t 24)),
a 8 25])
z)
(s (r [o 27 (N .eql (t 9) (i 3)),
a 26 27])
(w (t 26) (s (r [a 28 2,
a 29 3,
o 30 (N .mul (t 28) (t 29)),
a 31 1,
o 32 (N .rem (t 30) (t 31)),
a 8 32])
z)
k))))))))
(s (s (r [a 33 0,
o 34 (N .eql (t 33) (i 4)),
a 35 34,
g 36 35 true (.mv (t 2)),
g 37 35 true (.mv (t 3)),
g 38 35 true (N .eql (t 36) (t 37)),
o 39 (.pick (t 35) (t 38) n),
a 40 39,
g 41 40 false (.mv (t 0)),
g 42 40 false (N .eql (t 41) (i 5)),
g 43 40 false (.mv (t 42)),
g 44 43 true (.mv (t 2)),
g 45 43 true (.mv (t 3)),
g 46 43 true (N .lss (t 44) (t 45)),
g 47 40 false (.pick (t 43) (t 46) n),
o 48 (.pick (t 40) y (t 47))])
(w (t 48) (s (r [o 8 (.mv (i 1))])
z)
k))
(s (r [o 8 (.mv (i 0))])
z))))⟩

def ir217 : IFunc := ⟨[],
(s (r [o 6 (.mv (i 1000))])
(b 0 (lo (s (s (r [a 7 6,
o 8 (N .lss (t 7) (i 1064))])
(w (t 8) k
(e 0)))
(s (b 1 (r [a 11 0,
a 12 1,
a 13 2,
a 14 6,
a 15 6,
o 16 (N .sub (t 15) (i 1000)),
o 17 (.call (f 215) [(t 11),(t 12),(t 13),(t 14),(t 16)])]))
(r [a 9 6,
o 10 (N .add (t 9) (i 1)),
a 6 10]))))))⟩

def ir219 : IFunc := ⟨[.tmp 2],
(s (r [o 2 (.mv (c (.slice none 0 0)))])
(s (r [o 3 (.mv (c (.slice none 0 0)))])
(s (s (r [o 4 (.mv (i 0))])
(b 0 (lo (s (s (r [a 7 4,
a 8 0,
o 9 (.len (t 8)),
o 10 (N .lss (t 7) (t 9))])
(w (t 10) k
(e 0)))
(s (b 1 (s (r [o 5 (.mv (i 0))])
(s (b 2 (lo (s (s (d [u 0 (a 13 5) [],
u 1 (a 14 3) [],
u 2 (o 15 (.len (t 14))) [],
u 3 (o 16 (N .lss (t 13) (t 15))) [],
u 4 (a 17 16) [],
u 5 (g 18 17 true (.mv (t 3))) [],
u 6 (g 19 17 true (.mv (t 5))) [],
u 7 (g 20 17 true (.idxS 1 (t 18) (t 19))) [],
u 8 (g 21 17 true (.load1 (t 20))) [],
u 9 (g 22 17 true (.mv (t 0))) [],
u 10 (g 23 17 true (.mv (t 4))) [],
u 11 (g 24 17 true (.idxS 1 (t 22) (t 23))) [],
u 12 (g 25 17 true (.load1 (t 24))) [3],
u 13 (g 26 17 true (N .lss (t 21) (t 25))) [],
u 14 (o 27 (.pick (t 17) (t 26) n)) []])
(w (t 27) k
(e 2)))
(b 3 (r [a 28 5,
o 29 (N .add (t 28) (i 1)),
a 5 29])))))
(s (d [u 0 (a 30 5) [],
u 1 (a 31 3) [],
u 2 (o 32 (.len (t 31))) [],
u 3 (o 33 (N .eql (t 30) (t 32))) [],
u 4 (a 34 33) [],
u 5 (g 35 34 false (.mv (t 3))) [],
u 6 (g 36 34 false (.mv (t 5))) [],
u 7 (g 37 34 false (.idxS 1 (t 35) (t 36))) [],
u 8 (g 38 34 false (.load1 (t 37))) [],
u 9 (g 39 34 false (.mv (t 0))) [],
u 10 (g 40 34 false (.mv (t 4))) [],
u 11 (g 41 34 false (.idxS 1 (t 39) (t 40))) [],
u 12 (g 42 34 false (.load1 (t 41))) [3],
u 13 (g 43 34 false (N .neq (t 38) (t 42))) [],
u 14 (o 44 (.pick (t 34) y (t 43))) []])
(w (t 44) (s (d [u 0 (a 45 0) [],
u 1 (a 46 4) [],
u 2 (o 47 (.idxS 1 (t 45) (t 46))) [],
u 3 (l 48 47) [],
u 4 (o 49 (.buildSlice 1 [(.int .i64 0)] [(0,1,(t 48))])) [],
u 5 (a 50 3) [],
u 6 (a 51 5) [],
u 7 (o 52 (.sliceS 1 (t 50) (some (t 51)) none none)) [2,3],
u 8 (o 53 (.append 3 1 8 (t 49) (t 52))) [],
u 9 (a 6 53) []])
(r [o 54 (.buildSlice 0 [] []),
a 55 3,
a 56 5,
o 57 (.sliceS 1 (t 55) none (some (t 56)) none),
o 58 (.append 3 1 8 (t 54) (t 57)),
a 59 6,
o 60 (.append 3 1 8 (t 58) (t 59)),
a 3 60]))
k)))))
(r [a 11 4,
o 12 (N .add (t 11) (i 1)),
a 4 12]))))))
(s (r [a 61 3,
a 2 61])
z))))⟩

def ir220 : IFunc := ⟨[.tmp 4],
(s (r [o 2 (.box 3 (t 0)),
o 4 (.mv (c (.slice none 0 0)))])
(s (r [o 5 (.mv (c (.slice none 0 0)))])
(s (s (r [o 6 (.mv (i 0))])
(b 0 (lo (s (s (r [a 8 6,
a 9 1,
o 10 (.len (t 9)),
o 11 (N .lss (t 8) (t 10))])
(w (t 11) k
(e 0)))
(s (b 1 (s (r [o 7 (.mv (i 0))])
(b 2 (lo (s (s (d [u 0 (a 14 7) [],
u 1 (p 15 0 2) [],
u 2 (l 16 15) [],
u 3 (a 17 1) [],
u 4 (a 18 6) [],
u 5 (o 19 (.idxS 1 (t 17) (t 18))) [],
u 6 (l 20 19) [3],
u 7 (o 21 (.idxS 1 (t 16) (t 20))) [],
u 8 (l 22 21) [],
u 9 (o 23 (.len (t 22))) [],
u 10 (o 24 (N .lss (t 14) (t 23))) []])
(w (t 24) k
(e 2)))
(s (b 3 (d [u 0 (a 27 5) [],
u 1 (p 28 0 2) [],
u 2 (l 29 28) [],
u 3 (a 30 1) [],
u 4 (a 31 6) [],
u 5 (o 32 (.idxS 1 (t 30) (t 31))) [],
u 6 (l 33 32) [3],
u 7 (o 34 (.idxS 1 (t 29) (t 33))) [],
u 8 (l 35 34) [],
u 9 (a 36 7) [],
u 10 (o 37 (.idxS 5 (t 35) (t 36))) [],
u 11 (p 38 0 37) [],
u 12 (o 39 (.loadN 4 (t 38))) [],
u 13 (o 40 (.call (f 261) [(t 27),(t 39)])) [],
u 14 (a 5 40) []]))
(r [a 25 7,
o 26 (N .add (t 25) (i 1)),
a 7 26])))))))
(r [a 12 6,
o 13 (N .add (t 12) (i 1)),
a 6 13]))))))
(s (r [a 41 5,
a 4 41])
z))))⟩

def ir221 : IFunc := ⟨[.tmp 6],
(s (r [o 3 (.box 3 (t 0)),
o 5 (.box 4 (t 2)),
o 6 (.mv (c (.slice none 0 0)))])
(s (r [o 7 (.mv (c (.slice none 0 0)))])
(s (s (r [o 8 (.mv (i 0))])
(b 0 (lo (s (s (r [a 10 8,
a 11 1,
o 12 (.len (t 11)),
o 13 (N .lss (t 10) (t 12))])
(w (t 13) k
(e 0)))
(s (b 1 (s (r [o 9 (.mv (i 0))])
(b 2 (lo (s (s (d [u 0 (a 16 9) [],
u 1 (p 17 0 3) [],
u 2 (l 18 17) [],
u 3 (a 19 1) [],
u 4 (a 20 8) [],
u 5 (o 21 (.idxS 1 (t 19) (t 20))) [],
u 6 (l 22 21) [3],
u 7 (o 23 (.idxS 1 (t 18) (t 22))) [],
u 8 (l 24 23) [],
u 9 (o 25 (.len (t 24))) [],
u 10 (o 26 (N .lss (t 16) (t 25))) []])
(w (t 26) k
(e 2)))
(s (b 3 (s (d [u 0 (p 29 0 3) [],
u 1 (l 30 29) [],
u 2 (a 31 1) [],
u 3 (a 32 8) [],
u 4 (o 33 (.idxS 1 (t 31) (t 32))) [],
u 5 (l 34 33) [3],
u 6 (o 35 (.idxS 1 (t 30) (t 34))) [],
u 7 (l 36 35) [],
u 8 (a 37 9) [],
u 9 (o 38 (.idxS 5 (t 36) (t 37))) [],
u 10 (p 39 0 38) [],
u 11 (o 40 (.loadN 4 (t 39))) [],
u 12 (o 41 (.loadN 4 (t 5))) [0,4,6,10],
u 13 (o 42 (.eqF (.ag [(0,.num),(1,.num),(2,.num),(3,.num)]) false (t 40) (t 41))) []])
(w (t 42) (d [u 0 (a 43 7) [],
u 1 (p 44 0 3) [],
u 2 (l 45 44) [],
u 3 (a 46 1) [],
u 4 (a 47 8) [],
u 5 (o 48 (.idxS 1 (t 46) (t 47))) [],
u 6 (l 49 48) [3],
u 7 (o 50 (.idxS 1 (t 45) (t 49))) [],
u 8 (l 51 50) [],
u 9 (a 52 9) [],
u 10 (o 53 (.idxS 5 (t 51) (t 52))) [],
u 11 (p 54 4 53) [],
u 12 (l 55 54) [],
u 13 (o 56 (.buildSlice 1 [(.int .i64 0)] [(0,1,(t 55))])) [],
u 14 (o 57 (.append 3 1 8 (t 43) (t 56))) [],
u 15 (a 7 57) []])
k)))
(r [a 27 9,
o 28 (N .add (t 27) (i 1)),
a 9 28])))))))
(r [a 14 8,
o 15 (N .add (t 14) (i 1)),
a 8 15]))))))
(s (r [a 58 7,
o 59 (.call (f 219) [(t 58)]),
a 6 59])
z))))⟩

def ir222 : IFunc := ⟨[.tmp 4],
(s (r [o 4 (.mv (i 0))])
(s (s (r [o 5 (.mv (i 0))])
(b 0 (lo (s (s (r [a 6 5,
a 7 0,
o 8 (.len (t 7)),
o 9 (N .lss (t 6) (t 8))])
(w (t 9) k
(e 0)))
(s (b 1 (s (r [a 12 0,
a 13 5,
o 14 (.idxS 1 (t 12) (t 13)),
l 15 14,
a 16 1,
o 17 (.call (f 262) [(t 15),(t 16)])])
(w (t 17) (s (r [a 18 5,
a 4 18])
z)
k)))
(r [a 10 5,
o 11 (N .add (t 10) (i 1)),
a 5 11]))))))
(s (r [o 4 (.mv (i (-1)))])
z)))⟩

def ir223 : IFunc := ⟨[.tmp 2],
(s (r [o 1 (.box 2 (t 0)),
o 2 (.mv (c (.slice none 0 0)))])
(s (r [o 7 (.buildSlice 0 [] []),
p 8 1 1,
l 9 8,
o 10 (.append 4 1 1 (t 7) (t 9)),
a 3 10])
(s (s (r [o 4 (.mv y)])
(b 0 (lo (s (s (r [a 11 4])
(w (t 11) k
(e 0)))
(b 1 (s (r [o 4 (.mv n)])
(s (r [o 5 (.mv (i 0))])
(b 2 (lo (s (s (r [a 12 5,
p 13 0 1,
l 14 13,
o 15 (.len (t 14)),
o 16 (N .lss (t 12) (t 15))])
(w (t 16) k
(e 2)))
(s (b 3 (s (r [o 6 (.mv (i 0))])
(b 4 (lo (s (s (r [a 19 6,
p 20 0 1,
l 21 20,
a 22 5,
o 23 (.idxS 1 (t 21) (t 22)),
l 24 23,
o 25 (.len (t 24)),
o 26 (N .lss (t 19) (t 25))])
(w (t 26) k
(e 4)))
(s (b 5 (s (r [a 29 3,
a 30 5,
o 31 (.idxS 1 (t 29) (t 30)),
l 32 31,
o 33 (.not (t 32)),
a 34 33,
g 35 34 true (.mv (t 3)),
g 36 34 true (.faddr 0 (t 1)),
g 37 34 true (.load1 (t 36)),
g 38 34 true (.mv (t 5)),
g 39 34 true (.idxS 1 (t 37) (t 38)),
g 40 34 true (.load1 (t 39)),
g 41 34 true (.mv (t 6)),
g 42 34 true (.idxS 5 (t 40) (t 41)),
g 43 34 true (.faddr 4 (t 42)),
g 44 34 true (.load1 (t 43)),
g 45 34 true (.idxS 1 (t 35) (t 44)),
g 46 34 true (.load1 (t 45)),
o 47 (.pick (t 34) (t 46) n)])
(w (t 47) (r [a 48 3,
a 49 5,
o 50 (.idxS 1 (t 48) (t 49)),
q (.store 1 (t 50) y),
o 4 (.mv y)])
k)))
(r [a 27 6,
o 28 (N .add (t 27) (i 1)),
a 6 28])))))))
(r [a 17 5,
o 18 (N .add (t 17) (i 1)),
a 5 18]))))))))))))
(s (r [a 51 3,
a 2 51])
z))))⟩

def ir224 : IFunc := ⟨[.tmp 4],
(s (r [o 2 (.box 2 (t 0)),
o 4 (.mv (c (.slice none 0 0)))])
(s (r [p 12 0 2,
l 13 12,
o 14 (.len (t 13)),
o 15 (.mkSlice 8 [(.int .i64 0)] (t 14) (t 14)),
a 5 15])
(s (s (r [o 6 (.mv (i 0))])
(b 0 (lo (s (s (r [a 16 6,
a 17 5,
o 18 (.len (t 17)),
o 19 (N .lss (t 16) (t 18))])
(w (t 19) k
(e 0)))
(s (b 1 (s (s (r [a 22 1,
a 23 6,
o 24 (.idxS 1 (t 22) (t 23)),
l 25 24])
(w (t 25) (r [a 26 5,
a 27 6,
o 28 (.idxS 1 (t 26) (t 27)),
q (.store 1 (t 28) (i 1))])
k))
(s (r [p 29 1 2,
l 30 29,
a 31 6,
o 32 (.idxS 1 (t 30) (t 31)),
l 33 32])
(w (t 33) (r [a 34 5,
a 35 6,
o 36 (.idxS 1 (t 34) (t 35)),
q (.store 1 (t 36) (i 2))])
k))))
(r [a 20 6,
o 21 (N .add (t 20) (i 1)),
a 6 21]))))))
(s (r [o 7 (.mv (i 0))])
(b 2 (lo (b 3 (s (r [a 37 5,
o 38 (.len (t 37)),
o 39 (.mkSlice 8 [(.int .i64 0)] (t 38) (t 38)),
a 8 39])
(s (r [o 9 (.mv (c (.slice none 0 0)))])
(s (s (r [o 10 (.mv (i 0))])
(b 4 (lo (s (s (r [a 40 10,
a 41 5,
o 42 (.len (t 41)),
o 43 (N .lss (t 40) (t 42))])
(w (t 43) k
(e 4)))
(s (b 5 (s (r [o 11 (.mv (i 0))])
(s (b 6 (lo (s (s (d [u 0 (a 46 11) [],
u 1 (a 47 9) [],
u 2 (o 48 (.len (t 47))) [],
u 3 (o 49 (N .lss (t 46) (t 48))) [],
u 4 (a 50 49) [],
u 5 (g 51 50 true (.loadN 2 (t 2))) [],
u 6 (g 52 50 true (.mv (t 5))) [],
u 7 (g 53 50 true (.mv (t 1))) [],
u 8 (g 54 50 true (.mv (t 9))) [],
u 9 (g 55 50 true (.mv (t 11))) [],
u 10 (g 56 50 true (.idxS 1 (t 54) (t 55))) [],
u 11 (g 57 50 true (.load1 (t 56))) [5],
u 12 (g 58 50 true (.mv (t 10))) [],
u 13 (g 59 50 true (.call (f 263) [(t 51),(t 52),(t 53),(t 57),(t 58)])) [],
u 14 (g 60 50 true (.not (t 59))) [],
u 15 (o 61 (.pick (t 50) (t 60) n)) []])
(w (t 61) k
(e 6)))
(b 7 (r [a 62 11,
o 63 (N .add (t 62) (i 1)),
a 11 63])))))
(s (s (r [a 64 11,
a 65 9,
o 66 (.len (t 65)),
o 67 (N .eql (t 64) (t 66))])
(w (t 67) (r [a 68 9,
a 69 10,
o 70 (.buildSlice 1 [(.int .i64 0)] [(0,1,(t 69))]),
o 71 (.append 3 1 8 (t 68) (t 70)),
a 9 71])
k))
(s (s (r [a 72 9,
o 73 (.len (t 72)),
o 74 (N .gtr (t 73) (i 401))])
(w (t 74) (s (r [o 4 (.mv (c (.slice none 0 0)))])
z)
k))
(r [a 75 8,
a 76 10,
a 77 11,
o 78 (.idxS 1 (t 75) (t 76)),
q (.store 1 (t 78) (t 77))]))))))
(r [a 44 10,
o 45 (N .add (t 44) (i 1)),
a 10 45]))))))
(s (s (r [a 79 9,
o 80 (.len (t 79)),
a 81 7,
o 82 (N .eql (t 80) (t 81))])
(w (t 82) (s (r [a 83 8,
a 4 83])
z)
k))
(r [a 84 8,
a 85 9,
o 86 (.len (t 85)),
a 5 84,
a 7 86]))))))))))))⟩

def ir225 : IFunc := ⟨[.tmp 2],
(s (r [o 2 (.mv (i 0))])
(s (r [o 3 (.mv (i 0))])
(s (s (r [o 4 (.mv (i 0))])
(b 0 (lo (s (s (r [a 5 4,
a 6 0,
o 7 (.len (t 6)),
o 8 (N .lss (t 5) (t 7))])
(w (t 8) k
(e 0)))
(s (b 1 (r [a 11 3,
a 12 0,
a 13 4,
o 14 (.idxS 1 (t 12) (t 13)),
l 15 14,
o 16 (.len (t 15)),
o 17 (N .add (t 11) (t 16)),
a 3 17]))
(r [a 9 4,
o 10 (N .add (t 9) (i 1)),
a 4 10]))))))
(s (r [a 18 3,
a 2 18])
z))))⟩

def ir231 : IFunc := ⟨[.tmp 2],
(s (r [o 2 (.mv n)])
(s (r [a 3 0,
o 4 (N .geq (t 3) (i 1)),
a 5 4,
g 6 5 true (.mv (t 0)),
g 7 5 true (N .leq (t 6) (i 64)),
o 8 (.pick (t 5) (t 7) n),
a 2 8])
z))⟩

def ir232 : IFunc := ⟨[.tmp 4],
(s (r [o 4 (.mv n)])
(s (r [a 5 0,
o 6 (N .geq (t 5) (i 0)),
a 7 6,
g 8 7 true (.mv (t 0)),
g 9 7 true (.mv (t 1)),
g 10 7 true (N .lss (t 8) (t 9)),
o 11 (.pick (t 7) (t 10) n),
a 4 11])
z))⟩

def ir233 : IFunc := ⟨[.tmp 6],
(s (r [o 3 (.box 4 (t 0)),
o 6 (.mv n)])
(s (r [a 7 1,
a 8 2,
o 9 (.loadN 4 (t 3)),
o 10 (.mkfn (.func 89) [(t 9)] []),
o 11 (.call (f 265) [(t 7),(t 8),(t 10)]),
a 6 11])
z))⟩

def ir235 : IFunc := ⟨[.tmp 4,.tmp 5],
(s (r [o 2 (.box 4 (t 0)),
o 3 (.box 5 (t 1)),
o 4 (.mv (i 0)),
o 5 (.mv n)])
(s (s (r [p 21 0 3,
l 22 21])
(b 0 (s (r [o 24 (N .eql (t 22) (c (.int .u8 7))),
a 23 24])
(w (t 23) (s (d [u 0 (o 26 (.loadN 4 (t 2))) [],
u 1 (p 27 4 3) [],
u 2 (l 28 27) [1],
u 3 (o 29 (.idxS 5 (t 28) (i 1))) [],
u 4 (o 30 (.loadN 5 (t 29))) [3],
u 5 (o 31 (.call (f 192) [(t 26),(t 30)])) [],
u 6 (a 25 31) [],
u 7 (o 32 (.extract 0 (t 25))) [],
u 8 (o 33 (.extract 1 (t 25))) [],
u 9 (a 6 32) [],
u 10 (a 7 33) []])
(s (d [u 1 (a 35 7) [],
u 2 (a 36 35) [],
u 3 (g 37 36 true (.loadN 4 (t 2))) [],
u 4 (g 38 36 true (.faddr 4 (t 3))) [],
u 5 (g 39 36 true (.load1 (t 38))) [1],
u 6 (g 40 36 true (.idxS 5 (t 39) (i 0))) [],
u 7 (g 41 36 true (.loadN 5 (t 40))) [3],
u 8 (g 42 36 true (.call (f 142) [(t 37),(t 41),(i 1)])) [],
u 0 (a 34 6) [],
u 9 (o 43 (.pick (t 36) (t 42) n)) [],
u 10 (a 4 34) [],
u 11 (a 5 43) []])
z))
(s (r [o 45 (N .eql (t 22) (c (.int .u8 8))),
a 44 45])
(w (t 44) (s (d [u 0 (o 47 (.loadN 4 (t 2))) [],
u 1 (o 48 (.loadN 4 (t 2))) [0],
u 2 (p 49 4 3) [],
u 3 (l 50 49) [1,2],
u 4 (o 51 (.idxS 5 (t 50) (i 1))) [],
u 5 (o 52 (.loadN 5 (t 51))) [3,4],
u 6 (p 53 4 3) [],
u 7 (l 54 53) [1,3,5,6],
u 8 (o 55 (.idxS 5 (t 54) (i 2))) [],
u 9 (o 56 (.loadN 5 (t 55))) [3,5,7,8],
u 10 (o 57 (.call (f 266) [(t 47),(t 48),(t 52),(t 56)])) [],
u 11 (a 46 57) [],
u 12 (o 58 (.extract 0 (t 46))) [],
u 13 (o 59 (.extract 1 (t 46))) [],
u 14 (a 8 58) [],
u 15 (a 9 59) []])
(s (d [u 0 (o 61 (.loadN 4 (t 2))) [],
u 1 (p 62 4 3) [],
u 2 (l 63 62) [1],
u 3 (o 64 (.idxS 5 (t 63) (i 0))) [],
u 4 (o 65 (.loadN 5 (t 64))) [3],
u 5 (o 66 (.call (f 192) [(t 61),(t 65)])) [],
u 6 (a 60 66) [],
u 7 (o 67 (.extract 0 (t 60))) [],
u 8 (o 68 (.extract 1 (t 60))) [],
u 9 (a 10 67) [],
u 10 (a 11 68) []])
(s (r [a 69 8,
a 70 9,
a 71 70,
g 72 71 true (.mv (t 11)),
o 73 (.pick (t 71) (t 72) n),
a 4 69,
a 5 73])
z)))
(s (r [o 75 (N .eql (t 22) (c (.int .u8 9))),
a 74 75])
(w (t 74) (s (d [u 0 (o 77 (.loadN 4 (t 2))) [],
u 1 (p 78 4 3) [],
u 2 (l 79 78) [1],
u 3 (o 80 (.idxS 5 (t 79) (i 0))) [],
u 4 (o 81 (.loadN 5 (t 80))) [3],
u 5 (o 82 (.call (f 192) [(t 77),(t 81)])) [],
u 6 (a 76 82) [],
u 7 (o 83 (.extract 0 (t 76))) [],
u 8 (o 84 (.extract 1 (t 76))) [],
u 9 (a 12 83) [],
u 10 (a 13 84) []])
(s (d [u 0 (a 85 13) [],
u 1 (a 86 85) [],
u 2 (g 87 86 true (.loadN 4 (t 2))) [],
u 3 (g 88 86 true (.faddr 4 (t 3))) [],
u 4 (g 89 86 true (.load1 (t 88))) [1],
u 5 (g 90 86 true (.idxS 5 (t 89) (i 1))) [],
u 6 (g 91 86 true (.loadN 5 (t 90))) [3],
u 7 (g 92 86 true (.call (f 142) [(t 87),(t 91),(i 1)])) [],
u 8 (o 93 (.pick (t 86) (t 92) n)) [],
u 9 (o 4 (.mv (i 1))) [],
u 10 (a 5 93) []])
z))
(s (r [o 95 (N .eql (t 22) (c (.int .u8 10))),
a 94 95])
(w (t 94) (s (d [u 0 (o 97 (.loadN 4 (t 2))) [],
u 1 (p 98 1 3) [],
u 2 (l 99 98) [1],
u 3 (o 100 (.build [(.bool false),(.int .i64 0)] [(0,1,y),(1,1,(t 99))])) [],
u 4 (o 101 (.build [(.slice none 0 0),(.bool false),(.int .i64 0)] [(1,2,(t 100))])) [],
u 5 (o 102 (.build [(.slice none 0 0),(.bool false),(.int .i64 0),(.bool false)] [(0,3,(t 101))])) [],
u 6 (o 103 (.call (f 145) [(t 97),(t 102)])) [],
u 7 (p 104 4 3) [],
u 8 (l 105 104) [1,5,7],
u 9 (o 106 (.idxS 5 (t 105) (i 0))) [],
u 10 (o 107 (.loadN 5 (t 106))) [3,7,9],
u 11 (o 108 (.call (f 192) [(t 103),(t 107)])) [],
u 12 (a 96 108) [],
u 13 (o 109 (.extract 0 (t 96))) [],
u 14 (o 110 (.extract 1 (t 96))) [],
u 15 (a 14 109) [],
u 16 (a 15 110) []])
(s (r [a 111 14,
a 112 15,
a 113 112,
g 114 113 true (.faddr 1 (t 3)),
g 115 113 true (.load1 (t 114)),
g 116 113 true (.call (f 231) [(t 115)]),
o 117 (.pick (t 113) (t 116) n),
a 118 117,
g 119 118 true (.faddr 2 (t 3)),
g 120 118 true (.load1 (t 119)),
g 121 118 true (.faddr 1 (t 3)),
g 122 118 true (.load1 (t 121)),
g 123 118 true (.call (f 232) [(t 120),(t 122)]),
o 124 (.pick (t 118) (t 123) n),
a 4 111,
a 5 124])
z))
(s (r [o 126 (N .eql (t 22) (c (.int .u8 11))),
a 125 126])
(w (t 125) (s (r [o 127 (.loadN 4 (t 2)),
o 16 (.mk 180 [(.slice none 0 0),(.int .i64 0),(.int .i64 0),(.map none)]),
q (.store 4 (t 16) (t 127))])
(s (r [p 128 2 16,
l 129 128,
o 130 (N .add (t 129) (i 1)),
p 131 2 16,
q (.store 1 (t 131) (t 130))])
(s (d [u 0 (o 132 (.loadN 4 (t 2))) [],
u 1 (o 133 (.loadN 4 (t 16))) [0],
u 2 (p 134 4 3) [],
u 3 (l 135 134) [1,2],
u 4 (o 136 (.idxS 5 (t 135) (i 0))) [],
u 5 (o 137 (.loadN 5 (t 136))) [3,4],
u 6 (p 138 4 3) [],
u 7 (l 139 138) [1,3,5,6],
u 8 (o 140 (.idxS 5 (t 139) (i 1))) [],
u 9 (o 141 (.loadN 5 (t 140))) [3,5,7,8],
u 10 (o 142 (.call (f 266) [(t 132),(t 133),(t 137),(t 141)])) [],
u 11 (o 143 (.extract 0 (t 142))) [],
u 12 (o 144 (.extract 1 (t 142))) [],
u 13 (a 4 143) [],
u 14 (a 5 144) []])
z)))
(s (r [o 146 (N .eql (t 22) (c (.int .u8 13))),
a 145 146])
(w (t 145) (s (d [u 0 (o 147 (.loadN 4 (t 2))) [],
u 1 (o 148 (.loadN 4 (t 2))) [0],
u 2 (p 149 4 3) [],
u 3 (l 150 149) [1,2],
u 4 (o 151 (.idxS 5 (t 150) (i 0))) [],
u 5 (o 152 (.loadN 5 (t 151))) [3,4],
u 6 (p 153 4 3) [],
u 7 (l 154 153) [1,3,5,6],
u 8 (o 155 (.idxS 5 (t 154) (i 1))) [],
u 9 (o 156 (.loadN 5 (t 155))) [3,5,7,8],
u 10 (o 157 (.call (f 266) [(t 147),(t 148),(t 152),(t 156)])) [],
u 11 (o 158 (.extract 0 (t 157))) [],
u 12 (o 159 (.extract 1 (t 157))) [],
u 13 (a 4 158) [],
u 14 (a 5 159) []])
z)
(s (r [o 161 (N .eql (t 22) (c (.int .u8 18))),
a 160 161])
(w (t 160) (s (d [u 0 (o 163 (.loadN 4 (t 2))) [],
u 1 (p 164 4 3) [],
u 2 (l 165 164) [1],
u 3 (o 166 (.idxS 5 (t 165) (i 0))) [],
u 4 (o 167 (.loadN 5 (t 166))) [3],
u 5 (o 168 (.call (f 192) [(t 163),(t 167)])) [],
u 6 (a 162 168) [],
u 7 (o 169 (.extract 0 (t 162))) [],
u 8 (o 170 (.extract 1 (t 162))) [],
u 9 (a 17 169) [],
u 10 (a 18 170) []])
(s (r [o 172 (.loadN 4 (t 2)),
p 173 3 3,
l 174 173,
o 175 (.call (f 144) [(t 172),(t 174)]),
a 171 175,
o 176 (.extract 0 (t 171)),
o 177 (.extract 1 (t 171)),
a 19 176,
a 20 177])
(s (r [a 178 17,
a 179 18,
a 180 179,
g 181 180 true (.mv (t 20)),
o 182 (.pick (t 180) (t 181) n),
a 183 182,
g 184 183 true (.faddr 3 (t 3)),
g 185 183 true (.load1 (t 184)),
g 186 183 true (.faddr 1 (t 2)),
g 187 183 true (.load1 (t 186)),
g 188 183 true (N .gtr (t 185) (t 187)),
o 189 (.pick (t 183) (t 188) n),
a 190 189,
g 191 190 true (.faddr 1 (t 3)),
g 192 190 true (.load1 (t 191)),
g 193 190 true (.mv (t 19)),
g 194 190 true (.call (f 232) [(t 192),(t 193)]),
o 195 (.pick (t 190) (t 194) n),
a 4 178,
a 5 195])
z)))
k))))))))))))))))
(s (r [o 4 (.mv (i 0)),
o 5 (.mv n)])
z)))⟩

def ir236 : IFunc := ⟨[.tmp 2],
(s (r [o 1 (.box 2 (t 0)),
o 2 (.mv (i 0))])
(s (s (r [p 5 0 1,
l 6 5,
o 7 (.len (t 6)),
o 8 (.mv (i 0))])
(b 0 (lo (s (r [o 9 (N .lss (t 8) (t 7))])
(s (w (t 9) k
(e 0))
(s (b 1 (s (r [o 10 (.idxS 1 (t 6) (t 8)),
l 11 10,
a 4 11])
(r [a 12 2,
a 13 4,
o 14 (.len (t 13)),
o 15 (N .add (t 12) (t 14)),
a 2 15])))
(r [o 16 (N .add (t 8) (i 1)),
a 8 16])))))))
(s (r [a 17 2,
a 2 17])
z)))⟩

def ir237 : IFunc := ⟨[.tmp 3],
(s (r [o 2 (.box 5 (t 0)),
o 3 (.mv n)])
(s (r [p 4 4 2,
l 5 4,
o 6 (N .lss (t 5) (i 0)),
a 7 6,
g 8 7 false (.faddr 4 (t 2)),
g 9 7 false (.load1 (t 8)),
g 10 7 false (.faddr 0 (t 1)),
g 11 7 false (.load1 (t 10)),
g 12 7 false (.len (t 11)),
g 13 7 false (N .geq (t 9) (t 12)),
o 14 (.pick (t 7) y (t 13)),
a 3 14])
z))⟩

def ir238 : IFunc := ⟨[.tmp 3],
(s (r [o 3 (.mv n)])
(s (r [a 4 0,
l 5 1,
o 6 (.call (f 239) [(t 4),(t 5)]),
a 3 6])
z))⟩

def ir239 : IFunc := ⟨[.tmp 4],
(s (r [o 4 (.mv n)])
(s (r [a 5 0,
a 6 1,
o 7 (.call (f 267) [(t 5),(t 6)]),
o 8 (N .geq (t 7) (i 0)),
a 4 8])
z))⟩

def ir240 : IFunc := ⟨[.tmp 4],
(s (r [o 4 (.mv (i 0))])
(s (s (r [a 6 0,
o 7 (.len (t 6)),
o 8 (.mv (i 0))])
(b 0 (lo (s (r [o 9 (N .lss (t 8) (t 7))])
(s (w (t 9) k
(e 0))
(s (b 1 (s (r [a 10 8,
a 5 10])
(s (r [a 11 1,
a 12 0,
a 13 5,
o 14 (.idxS 1 (t 12) (t 13)),
l 15 14,
o 16 (.call (t 11) [(t 15)])])
(w (t 16) (s (r [a 17 5,
a 4 17])
z)
k))))
(r [o 18 (N .add (t 8) (i 1)),
a 8 18])))))))
(s (r [o 4 (.mv (i (-1)))])
z)))⟩

def ir241 : IFunc := ⟨[.tmp 2],
(s (r [o 1 (.box 2 (t 0)),
o 2 (.mv (c (.slice none 0 0)))])
(s (r [p 15 0 1,
l 16 15,
o 17 (.len (t 16)),
o 18 (.mkSlice 24 [(.slice none 0 0)] (t 17) (t 17)),
a 3 18])
(s (s (r [p 19 0 1,
l 20 19,
o 21 (.len (t 20)),
o 22 (.mv (i 0))])
(b 0 (lo (s (r [o 23 (N .lss (t 22) (t 21))])
(s (w (t 23) k
(e 0))
(s (b 1 (s (r [a 24 22,
o 25 (.idxS 1 (t 20) (t 22)),
l 26 25,
a 4 24,
a 5 26])
(s (r [a 27 5,
o 28 (.len (t 27)),
o 29 (.mv (i 0))])
(b 2 (lo (s (r [o 30 (N .lss (t 29) (t 28))])
(s (w (t 30) k
(e 2))
(s (b 3 (s (r [o 31 (.idxS 5 (t 27) (t 29)),
o 32 (.loadN 5 (t 31)),
o 7 (.mk 143 [(.int .i64 0),(.int .i64 0),(.int .u8 0),(.int .i64 0),(.int .i64 0)]),
q (.store 5 (t 7) (t 32))])
(d [u 0 (a 33 3) [],
u 1 (p 34 4 7) [],
u 2 (l 35 34) [],
u 3 (a 36 3) [],
u 4 (p 37 4 7) [],
u 5 (l 38 37) [2],
u 6 (o 39 (.idxS 1 (t 36) (t 38))) [],
u 7 (l 40 39) [4],
u 8 (a 41 4) [],
u 9 (o 42 (.buildSlice 1 [(.int .i64 0)] [(0,1,(t 41))])) [1,3,6],
u 10 (o 43 (.append 3 1 8 (t 40) (t 42))) [7],
u 11 (o 44 (.idxS 1 (t 33) (t 35))) [],
u 12 (q (.store 1 (t 44) (t 43))) []])))
(r [o 45 (N .add (t 29) (i 1)),
a 29 45])))))))))
(r [o 46 (N .add (t 22) (i 1)),
a 22 46])))))))
(s (r [p 47 1 1,
l 48 47,
o 49 (.call (f 61) [(t 48)]),
a 8 49])
(s (r [o 9 (.mv (c (.slice none 0 0)))])
(s (s (r [a 50 8,
o 51 (.len (t 50)),
o 52 (.mv (i 0))])
(b 4 (lo (s (r [o 53 (N .lss (t 52) (t 51))])
(s (w (t 53) k
(e 4))
(s (b 5 (s (r [a 54 52,
o 55 (.idxS 1 (t 50) (t 52)),
l 56 55,
a 10 54,
a 11 56])
(s (r [a 57 11])
(w (t 57) (r [a 58 9,
a 59 10,
o 60 (.buildSlice 1 [(.int .i64 0)] [(0,1,(t 59))]),
o 61 (.append 3 1 8 (t 58) (t 60)),
a 9 61])
k))))
(r [o 62 (N .add (t 52) (i 1)),
a 52 62])))))))
(s (b 6 (lo (s (s (r [a 63 9,
o 64 (.len (t 63)),
o 65 (N .gtr (t 64) (i 0))])
(w (t 65) k
(e 6)))
(b 7 (s (r [a 66 9,
a 67 9,
o 68 (.len (t 67)),
o 69 (N .sub (t 68) (i 1)),
o 70 (.idxS 1 (t 66) (t 69)),
l 71 70,
a 12 71])
(s (r [a 72 9,
a 73 9,
o 74 (.len (t 73)),
o 75 (N .sub (t 74) (i 1)),
o 76 (.sliceS 1 (t 72) none (some (t 75)) none),
a 9 76])
(s (r [a 77 3,
a 78 12,
o 79 (.idxS 1 (t 77) (t 78)),
l 80 79,
o 81 (.len (t 80)),
o 82 (.mv (i 0))])
(b 8 (lo (s (r [o 83 (N .lss (t 82) (t 81))])
(s (w (t 83) k
(e 8))
(s (b 9 (s (r [o 84 (.idxS 1 (t 80) (t 82)),
l 85 84,
a 14 85])
(s (r [a 86 8,
a 87 14,
o 88 (.idxS 1 (t 86) (t 87)),
l 89 88,
o 90 (.not (t 89))])
(w (t 90) (s (r [a 91 8,
a 92 14,
o 93 (.idxS 1 (t 91) (t 92)),
q (.store 1 (t 93) y)])
(r [a 94 9,
a 95 14,
o 96 (.buildSlice 1 [(.int .i64 0)] [(0,1,(t 95))]),
o 97 (.append 3 1 8 (t 94) (t 96)),
a 9 97]))
k))))
(r [o 98 (N .add (t 82) (i 1)),
a 82 98])))))))))))))
(s (r [a 99 8,
a 2 99])
z))))))))⟩

def ir243 : IFunc := ⟨[.tmp 4],
(s (r [o 4 (.mv (c (.slice none 0 0)))])
(s (r [a 8 0,
a 9 1,
o 10 (.call (f 267) [(t 8),(t 9)]),
a 5 10])
(s (s (r [a 11 5,
o 12 (N .eql (t 11) (i (-1)))])
(w (t 12) (s (r [a 13 0,
a 4 13])
z)
k))
(s (s (r [a 14 5,
o 15 (N .add (t 14) (i 1)),
a 6 15])
(b 0 (lo (s (s (r [a 16 6,
a 17 0,
o 18 (.len (t 17)),
o 19 (N .lss (t 16) (t 18))])
(w (t 19) k
(e 0)))
(s (b 1 (s (r [a 22 0,
a 23 6,
o 24 (.idxS 5 (t 22) (t 23)),
o 25 (.loadN 5 (t 24)),
o 7 (.mk 143 [(.int .i64 0),(.int .i64 0),(.int .u8 0),(.int .i64 0),(.int .i64 0)]),
q (.store 5 (t 7) (t 25))])
(s (r [a 26 1,
o 27 (.loadN 5 (t 7)),
o 28 (.call (t 26) [(t 27)]),
o 29 (.not (t 28))])
(w (t 29) (s (r [a 30 0,
a 31 5,
o 32 (.loadN 5 (t 7)),
o 33 (.idxS 5 (t 30) (t 31)),
q (.store 5 (t 33) (t 32))])
(r [a 34 5,
o 35 (N .add (t 34) (i 1)),
a 5 35]))
k))))
(r [a 20 6,
o 21 (N .add (t 20) (i 1)),
a 6 21]))))))
(s (r [a 36 0,
a 37 5,
o 38 (.sliceS 5 (t 36) (some (t 37)) none none),
q (.clear [(.int .i64 0),(.int .i64 0),(.int .u8 0),(.int .i64 0),(.int .i64 0)] (t 38))])
(s (r [a 39 0,
a 40 5,
o 41 (.sliceS 5 (t 39) none (some (t 40)) none),
a 4 41])
z))))))⟩

def ir244 : IFunc := ⟨[.tmp 3],
(s (r [o 2 (.box 5 (t 0)),
o 3 (.mv n)])
(s (r [l 4 1,
p 5 4 2,
l 6 5,
o 7 (.idxS 1 (t 4) (t 6)),
l 8 7,
o 9 (.not (t 8)),
a 3 9])
z))⟩

def ir245 : IFunc := ⟨[.cell1 2,.cell1 3],
(s (r [o 1 (.box 2 (t 0)),
o 2 (.mk 37 [(.slice none 0 0)]),
o 3 (.mk 4 [(.bool false)])])
(s (r [o 7 (.buildSlice 1 [(.int .i64 0)] [(0,1,(i (-1)))]),
p 8 0 1,
l 9 8,
o 10 (.len (t 9)),
o 11 (.call (f 268) [(t 7),(t 10)]),
q (.store 1 (t 2) (t 11))])
(s (r [p 12 0 1,
l 13 12,
o 14 (.len (t 13)),
o 15 (.mkSlice 1 [(.bool false)] (t 14) (t 14)),
o 4 (.mk 31 [(.slice none 0 0)]),
q (.store 1 (t 4) (t 15))])
(s (r [o 16 (.mkmap),
o 5 (.mk 367 [(.map none)]),
q (.store 1 (t 5) (t 16))])
(s (r [o 6 (.mk 368 [.nilFunc])])
(s (r [o 17 (.mkfn (.func 269) [] [(t 4),(t 1),(t 3),(t 2),(t 6),(t 5)]),
q (.store 1 (t 6) (t 17))])
(s (r [l 18 6,
o 19 (.call (t 18) [(i 0)])])
(s (d [u 0 (l 20 2) [],
u 1 (l 21 3) [0],
u 2 (q (.store 1 (t 2) (t 20))) [0],
u 3 (q (.store 1 (t 3) (t 21))) []])
z))))))))⟩

def ir247 : IFunc := ⟨[.cellN 4 2],
(s (r [o 2 (.box 2 (t 0)),
o 3 (.box 1 (t 1)),
o 4 (.mk 33 [(.slice none 0 0),(.slice none 0 0)])])
(s (r [o 12 (.mkmap),
o 5 (.mk 357 [(.map none)]),
q (.store 1 (t 5) (t 12))])
(s (r [o 6 (.mk 37 [(.slice none 0 0)])])
(s (r [o 13 (.mkfn (.func 273) [] [(t 5),(t 3),(t 6)]),
a 7 13])
(s (r [a 14 7,
o 15 (.call (t 14) [(i 0)])])
(s (s (r [o 8 (.mv (i 0))])
(b 0 (lo (s (s (r [a 16 8,
l 17 6,
o 18 (.len (t 17)),
o 19 (N .lss (t 16) (t 18))])
(w (t 19) k
(e 0)))
(s (b 1 (s (r [o 9 (.mv (c (.slice none 0 0)))])
(s (s (d [u 0 (p 22 0 2) [],
u 1 (l 23 22) [],
u 2 (l 24 6) [0],
u 3 (a 25 8) [],
u 4 (o 26 (.idxS 1 (t 24) (t 25))) [],
u 5 (l 27 26) [3],
u 6 (o 28 (.idxS 1 (t 23) (t 27))) [],
u 7 (l 29 28) [],
u 8 (o 30 (.len (t 29))) [],
u 9 (o 31 (.mv (i 0))) []])
(b 2 (lo (s (r [o 32 (N .lss (t 31) (t 30))])
(s (w (t 32) k
(e 2))
(s (b 3 (s (r [o 33 (.idxS 5 (t 29) (t 31)),
o 34 (.loadN 5 (t 33)),
o 11 (.mk 143 [(.int .i64 0),(.int .i64 0),(.int .u8 0),(.int .i64 0),(.int .i64 0)]),
q (.store 5 (t 11) (t 34))])
(d [u 3 (a 38 7) [],
u 4 (p 39 4 11) [],
u 5 (l 40 39) [],
u 6 (o 41 (.call (t 38) [(t 40)])) [],
u 0 (a 35 9) [],
u 1 (p 36 0 11) [],
u 2 (o 37 (.loadN 4 (t 36))) [2,3],
u 7 (o 42 (.build [(.int .i64 0),(.int .i64 0),(.int .u8 0),(.int .i64 0),(.int .i64 0)] [(0,4,(t 37)),(4,1,(t 41))])) [],
u 8 (o 43 (.buildSlice 1 [(.int .i64 0),(.int .i64 0),(.int .u8 0),(.int .i64 0),(.int .i64 0)] [(0,5,(t 42))])) [],
u 9 (o 44 (.append 143 5 40 (t 35) (t 43))) [],
u 10 (a 9 44) []])))
(r [o 45 (N .add (t 31) (i 1)),
a 31 45])))))))
(d [u 0 (p 46 0 4) [],
u 1 (l 47 46) [],
u 2 (a 48 9) [],
u 3 (o 49 (.buildSlice 1 [(.slice none 0 0)] [(0,1,(t 48))])) [1],
u 4 (o 50 (.append 140 1 24 (t 47) (t 49))) [],
u 5 (p 51 1 4) [],
u 6 (l 52 51) [1,2,4],
u 7 (p 53 1 2) [],
u 8 (l 54 53) [1,3,4,6],
u 9 (l 55 6) [0,2,4,5,7],
u 10 (a 56 8) [],
u 11 (o 57 (.idxS 1 (t 55) (t 56))) [],
u 12 (l 58 57) [3,5,7,8,10],
u 13 (o 59 (.idxS 1 (t 54) (t 58))) [],
u 14 (l 60 59) [7,9,10,12],
u 15 (o 61 (.buildSlice 1 [(.bool false)] [(0,1,(t 60))])) [8,10,11,13],
u 16 (o 62 (.append 4 1 1 (t 52) (t 61))) [],
u 17 (p 63 0 4) [],
u 18 (q (.store 1 (t 63) (t 50))) [],
u 19 (p 64 1 4) [],
u 20 (q (.store 1 (t 64) (t 62))) []]))))
(r [a 20 8,
o 21 (N .add (t 20) (i 1)),
a 8 21]))))))
(s (r [o 65 (.loadN 2 (t 4)),
q (.store 2 (t 4) (t 65))])
z)))))))⟩

def ir248 : IFunc := ⟨[.tmp 4,.tmp 5],
(s (r [o 2 (.box 4 (t 0)),
o 3 (.box 4 (t 1)),
o 4 (.mv n),
o 5 (.mv (i 0))])
(s (r [o 11 (.loadN 4 (t 2)),
o 12 (.call (f 274) [(t 11)]),
a 10 12,
o 13 (.extract 0 (t 10)),
o 14 (.extract 1 (t 10)),
o 6 (.mk 373 [(.slice none 0 0),(.bool false),(.int .i64 0),(.bool false)]),
q (.store 4 (t 6) (t 13)),
a 7 14])
(s (s (r [a 15 7,
o 16 (N .neq (t 15) (i 0))])
(w (t 16) (s (r [a 17 7,
o 4 (.mv n),
a 5 17])
z)
k))
(s (r [o 19 (.loadN 4 (t 6)),
o 20 (.loadN 4 (t 3)),
o 21 (.call (f 275) [(t 19),(t 20)]),
a 18 21,
o 22 (.extract 0 (t 18)),
o 23 (.extract 1 (t 18)),
o 8 (.mk 377 [(.int .i64 0),(.int .i64 0),(.bool false),(.int .i64 0),(.bool false)]),
q (.store 5 (t 8) (t 22)),
a 9 23])
(s (r [a 24 9,
a 4 24,
o 5 (.mv (i 0))])
z)))))⟩

def ir249 : IFunc := ⟨[.tmp 2],
(s (r [o 2 (.mv (c (.slice none 0 0)))])
(s (s (r [a 3 0,
o 4 (.bin .slc .eql (t 3) (c (.slice none 0 0)))])
(w (t 4) (s (r [o 2 (.mv (c (.slice none 0 0)))])
z)
k))
(s (r [o 5 (.buildSlice 0 [] []),
a 6 0,
o 7 (.append 47 4 32 (t 5) (t 6)),
a 2 7])
z)))⟩

def ir250 : IFunc := ⟨[.tmp 2],
(s (r [o 1 (.box 4 (t 0)),
o 2 (.mv n)])
(s (r [p 3 2 1,
l 4 3,
o 5 (N .eql (t 4) (c (.int .u8 3))),
a 6 5,
g 7 6 true (.faddr 3 (t 1)),
g 8 6 true (.load1 (t 7)),
g 9 6 true (N .eql (t 8) (i (-1))),
o 10 (.pick (t 6) (t 9) n),
a 2 10])
z))⟩

def ir251 : IFunc := ⟨[.tmp 4],
(s (r [o 2 (.box 4 (t 0)),
o 4 (.mv n)])
(s (r [p 5 2 2,
l 6 5,
o 7 (N .neq (t 6) (c (.int .u8 3))),
a 8 7,
g 9 8 true (.faddr 0 (t 2)),
g 10 8 true (.load1 (t 9)),
g 11 8 true (N .gtr (t 10) (i 0)),
o 12 (.pick (t 8) (t 11) n),
a 13 12,
g 14 13 true (.faddr 1 (t 2)),
g 15 13 true (.load1 (t 14)),
g 16 13 true (N .gtr (t 15) (i 0)),
g 17 13 true (.mv (t 1)),
g 18 13 true (.bin .boo .eql (t 16) (t 17)),
o 19 (.pick (t 13) (t 18) n),
a 4 19])
z))⟩

def ir252 : IFunc := ⟨[.tmp 4,.tmp 5],
(s (r [o 4 (.mv (i 0)),
o 5 (.mv (c .nilIface))])
(s (r [a 6 0,
o 7 (.call (f 276) [(t 6)])])
(s (r [a 8 0,
a 9 0,
o 10 (.nilCheck (t 9)),
p 11 1 10,
l 12 11,
a 13 1,
o 14 (.append 5 1 1 (t 12) (t 13)),
o 15 (.nilCheck (t 8)),
p 16 1 15,
q (.store 1 (t 16) (t 14))])
(s (r [a 17 1,
o 18 (.lenStr (t 17)),
a 4 18,
o 5 (.mv (c .nilIface))])
z))))⟩

def ir253 : IFunc := ⟨[.tmp 2],
(s (r [o 2 (.mv (c (.string ⟨#[]⟩)))])
(s (d [u 0 (a 3 0) [],
u 1 (o 4 (.nilCheck (t 3))) [],
u 2 (p 5 1 4) [],
u 3 (l 6 5) [],
u 4 (o 7 (.sdata (t 6))) [],
u 5 (a 8 0) [],
u 6 (o 9 (.nilCheck (t 8))) [],
u 7 (p 10 1 9) [],
u 8 (l 11 10) [4],
u 9 (o 12 (.len (t 11))) [],
u 10 (o 13 (.ustr 5 (t 7) (t 12))) [],
u 11 (a 2 13) []])
z))⟩

def ir254 : IFunc := ⟨[],
(s (r [o 8 (.mv y)])
(s (r [o 9 (.mv y)])
(b 0 (lo (b 1 (s (r [a 19 2,
a 20 1,
o 21 (N .sub (t 19) (t 20)),
a 10 21])
(s (s (r [a 22 10,
o 23 (N .leq (t 22) (i 12))])
(w (t 23) (s (r [a 24 0,
a 25 1,
a 26 2,
o 27 (.call (f 277) [(t 24),(t 25),(t 26)])])
z)
k))
(s (s (r [a 28 3,
o 29 (N .eql (t 28) (i 0))])
(w (t 29) (s (r [a 30 0,
a 31 1,
a 32 2,
o 33 (.call (f 278) [(t 30),(t 31),(t 32)])])
z)
k))
(s (s (r [a 34 8,
o 35 (.not (t 34))])
(w (t 35) (s (r [a 36 0,
a 37 1,
a 38 2,
o 39 (.call (f 279) [(t 36),(t 37),(t 38)])])
(r [a 40 3,
o 41 (N .sub (t 40) (i 1)),
a 3 41]))
k))
(s (r [a 43 0,
a 44 1,
a 45 2,
o 46 (.call (f 280) [(t 43),(t 44),(t 45)]),
a 42 46,
o 47 (.extract 0 (t 42)),
o 48 (.extract 1 (t 42)),
a 11 47,
a 12 48])
(s (s (r [a 49 12,
o 50 (N .eql (t 49) (i 2))])
(w (t 50) (s (r [a 51 0,
a 52 1,
a 53 2,
o 54 (.call (f 281) [(t 51),(t 52),(t 53)])])
(s (r [a 55 2,
o 56 (N .sub (t 55) (i 1)),
a 57 11,
a 58 1,
o 59 (N .sub (t 57) (t 58)),
o 60 (N .sub (t 56) (t 59)),
a 11 60])
(r [o 12 (.mv (i 1))])))
k))
(s (s (r [a 61 8,
a 62 61,
g 63 62 true (.mv (t 9)),
o 64 (.pick (t 62) (t 63) n),
a 65 64,
g 66 65 true (.mv (t 12)),
g 67 65 true (N .eql (t 66) (i 1)),
o 68 (.pick (t 65) (t 67) n)])
(w (t 68) (s (r [a 69 0,
a 70 1,
a 71 2,
o 72 (.call (f 282) [(t 69),(t 70),(t 71)])])
(w (t 72) z
k))
k))
(s (s (d [u 0 (a 73 1) [],
u 1 (o 74 (N .gtr (t 73) (i 0))) [],
u 2 (a 75 74) [],
u 3 (g 76 75 true (.mv (t 0))) [],
u 4 (g 77 75 true (.mv (t 1))) [],
u 5 (g 78 75 true (N .sub (t 77) (i 1))) [],
u 6 (g 79 75 true (.idxS 1 (t 76) (t 78))) [],
u 7 (g 80 75 true (.load1 (t 79))) [],
u 8 (g 81 75 true (.mv (t 0))) [],
u 9 (g 82 75 true (.mv (t 11))) [],
u 10 (g 83 75 true (.idxS 1 (t 81) (t 82))) [],
u 11 (g 84 75 true (.load1 (t 83))) [3],
u 12 (g 85 75 true (.call (f 283) [(t 80),(t 84)])) [],
u 13 (g 86 75 true (.not (t 85))) [],
u 14 (o 87 (.pick (t 75) (t 86) n)) []])
(w (t 87) (s (r [a 88 0,
a 89 1,
a 90 2,
a 91 11,
o 92 (.call (f 284) [(t 88),(t 89),(t 90),(t 91)]),
a 13 92])
(s (r [a 93 13,
a 1 93])
(e 1)))
k))
(s (r [a 95 0,
a 96 1,
a 97 2,
a 98 11,
o 99 (.call (f 285) [(t 95),(t 96),(t 97),(t 98)]),
a 94 99,
o 100 (.extract 0 (t 94)),
o 101 (.extract 1 (t 94)),
a 14 100,
a 15 101])
(s (r [a 102 15,
a 9 102])
(s (r [a 103 14,
a 104 1,
o 105 (N .sub (t 103) (t 104)),
a 106 2,
a 107 14,
o 108 (N .sub (t 106) (t 107)),
a 16 105,
a 17 108])
(s (r [a 109 10,
o 110 (N .quo (t 109) (i 8)),
a 18 110])
(s (r [a 111 16,
a 112 17,
o 113 (N .lss (t 111) (t 112))])
(w (t 113) (s (r [a 114 16,
a 115 18,
o 116 (N .geq (t 114) (t 115)),
a 8 116])
(s (r [a 117 0,
a 118 1,
a 119 14,
a 120 3,
o 121 (.call (f 254) [(t 117),(t 118),(t 119),(t 120)])])
(r [a 122 14,
o 123 (N .add (t 122) (i 1)),
a 1 123])))
(s (r [a 124 17,
a 125 18,
o 126 (N .geq (t 124) (t 125)),
a 8 126])
(s (r [a 127 0,
a 128 14,
o 129 (N .add (t 128) (i 1)),
a 130 2,
a 131 3,
o 132 (.call (f 254) [(t 127),(t 129),(t 130),(t 131)])])
(r [a 133 14,
a 2 133]))))))))))))))))))))))⟩

def ir255 : IFunc := ⟨[.tmp 4],
(s (r [o 4 (.mv (i 0))])
(s (r [a 8 0,
o 9 (.call (f 256) [(t 8)]),
a 5 9])
(s (r [l 11 1,
a 12 5,
o 13 (.lookup (.sc .str) (.int .i64 0) true (t 11) (t 12)),
a 10 13,
o 14 (.extract 0 (t 10)),
o 15 (.extract 1 (t 10)),
a 6 14,
a 7 15])
(s (s (r [a 16 7,
o 17 (.not (t 16))])
(w (t 17) (s (r [l 18 2,
o 19 (.len (t 18)),
a 6 19])
(s (r [l 20 1,
a 21 5,
a 22 6,
q (.insert (.sc .str) (t 20) (t 21) (t 22))])
(r [l 23 2,
a 24 0,
o 25 (.buildSlice 1 [(.slice none 0 0)] [(0,1,(t 24))]),
o 26 (.append 37 1 24 (t 23) (t 25)),
q (.store 1 (t 2) (t 26))])))
k))
(s (r [a 27 6,
a 4 27])
z)))))⟩

def ir256 : IFunc := ⟨[.tmp 2],
(s (r [o 2 (.mv (c (.string ⟨#[]⟩)))])
(s (r [o 3 (.mk 341 [(.pointer none),(.slice none 0 0)])])
(s (s (r [a 6 0,
o 7 (.len (t 6)),
o 8 (.mv (i 0))])
(b 0 (lo (s (r [o 9 (N .lss (t 8) (t 7))])
(s (w (t 9) k
(e 0))
(s (b 1 (s (r [o 10 (.idxS 1 (t 6) (t 8)),
l 11 10,
a 5 11])
(r [a 12 5,
o 13 (.call (f 272) [(t 12)]),
o 14 (.bin .str .add (t 13) (c (.string ⟨#[32]⟩))),
o 15 (.call (f 252) [(t 3),(t 14)])])))
(r [o 16 (N .add (t 8) (i 1)),
a 8 16])))))))
(s (r [o 17 (.call (f 253) [(t 3)]),
a 2 17])
z))))⟩

def ir257 : IFunc := ⟨[.tmp 4,.cell1 5],
(s (r [o 4 (.mv (c (.slice none 0 0))),
o 5 (.mk 4 [(.bool false)])])
(s (r [o 6 (.mk 140 [(.slice none 0 0)])])
(s (s (r [a 11 0,
a 12 1,
o 13 (.call (f 286) [(t 11),(t 12)])])
(b 0 (.rangeFunc (t 13) [14] (r [o 7 (.mk 314 [(.slice none 0 0),(.slice none 0 0),(.bool false)]),
q (.store 3 (t 7) (t 14))])
(b 1 (s (r [l 15 6,
p 16 0 7,
l 17 16,
o 18 (.append 143 5 40 (t 15) (t 17)),
q (.store 1 (t 6) (t 18))])
(r [l 19 5,
a 20 19,
g 21 20 false (.faddr 2 (t 7)),
g 22 20 false (.load1 (t 21)),
o 23 (.pick (t 20) y (t 22)),
q (.store 1 (t 5) (t 23))]))))))
(s (r [l 24 6,
o 25 (.call (f 287) [(t 24),(f 288)])])
(s (s (r [l 26 6,
o 27 (.len (t 26)),
o 28 (.mv (i 0))])
(b 2 (lo (s (r [o 29 (N .lss (t 28) (t 27))])
(s (w (t 29) k
(e 2))
(s (b 3 (s (r [o 30 (.idxS 5 (t 26) (t 28)),
o 31 (.loadN 5 (t 30)),
o 9 (.mk 143 [(.int .i64 0),(.int .i64 0),(.int .u8 0),(.int .i64 0),(.int .i64 0)]),
q (.store 5 (t 9) (t 31))])
(s (r [a 32 4,
o 33 (.len (t 32)),
o 34 (N .sub (t 33) (i 1)),
a 10 34])
(b 4 (s (d [u 0 (a 36 10) [],
u 1 (o 37 (N .lss (t 36) (i 0))) [],
u 2 (a 38 37) [],
u 3 (g 39 38 false (.mv (t 4))) [],
u 4 (g 40 38 false (.mv (t 10))) [],
u 5 (g 41 38 false (.idxS 5 (t 39) (t 40))) [],
u 6 (g 42 38 false (.faddr 0 (t 41))) [],
u 7 (g 43 38 false (.loadN 4 (t 42))) [],
u 8 (g 44 38 false (.faddr 0 (t 9))) [],
u 9 (g 45 38 false (.loadN 4 (t 44))) [1],
u 10 (g 46 38 false (.eqF (.ag [(0,.num),(1,.num),(2,.num),(3,.num)]) true (t 43) (t 45))) [],
u 11 (o 47 (.pick (t 38) y (t 46))) [],
u 12 (a 35 47) []])
(w (t 35) (r [a 48 4,
p 49 0 9,
o 50 (.loadN 4 (t 49)),
p 51 4 9,
l 52 51,
o 53 (.buildSlice 1 [(.int .i64 0)] [(0,1,(t 52))]),
o 54 (.build [(.int .i64 0),(.int .i64 0),(.int .u8 0),(.int .i64 0),(.slice none 0 0)] [(0,4,(t 50)),(4,1,(t 53))]),
o 55 (.buildSlice 1 [(.int .i64 0),(.int .i64 0),(.int .u8 0),(.int .i64 0),(.slice none 0 0)] [(0,5,(t 54))]),
o 56 (.append 356 5 56 (t 48) (t 55)),
a 4 56])
(s (d [u 0 (a 58 4) [],
u 1 (a 59 10) [],
u 2 (o 60 (.idxS 5 (t 58) (t 59))) [],
u 3 (p 61 4 60) [],
u 4 (l 62 61) [],
u 5 (p 63 4 9) [],
u 6 (l 64 63) [1],
u 7 (o 65 (.call (f 146) [(t 62),(t 64)])) [],
u 8 (o 66 (.not (t 65))) [],
u 9 (a 57 66) []])
(w (t 57) (d [u 0 (a 67 4) [],
u 1 (a 68 10) [],
u 2 (a 69 4) [],
u 3 (a 70 10) [],
u 4 (o 71 (.idxS 5 (t 69) (t 70))) [],
u 5 (p 72 4 71) [],
u 6 (l 73 72) [],
u 7 (p 74 4 9) [],
u 8 (l 75 74) [1],
u 9 (o 76 (.buildSlice 1 [(.int .i64 0)] [(0,1,(t 75))])) [2],
u 10 (o 77 (.append 3 1 8 (t 73) (t 76))) [],
u 11 (o 78 (.idxS 5 (t 67) (t 68))) [],
u 12 (p 79 4 78) [],
u 13 (q (.store 1 (t 79) (t 77))) []])
k))))))))
(r [o 80 (N .add (t 28) (i 1)),
a 28 80])))))))
(s (d [u 0 (a 81 4) [],
u 1 (l 82 5) [],
u 2 (a 4 81) [],
u 3 (q (.store 1 (t 5) (t 82))) []])
z))))))⟩

def ir258 : IFunc := ⟨[.tmp 2],
(s (r [o 1 (.box 2 (t 0)),
o 2 (.mv (c (.slice none 0 0)))])
(s (r [p 7 1 1,
l 8 7,
o 9 (.call (f 61) [(t 8)]),
o 3 (.mk 31 [(.slice none 0 0)]),
q (.store 1 (t 3) (t 9))])
(s (s (r [o 4 (.mv y)])
(b 0 (lo (s (s (r [a 10 4])
(w (t 10) k
(e 0)))
(b 1 (s (r [o 4 (.mv n)])
(s (r [p 11 0 1,
l 12 11,
o 13 (.len (t 12)),
o 14 (.mv (i 0))])
(b 2 (lo (s (r [o 15 (N .lss (t 14) (t 13))])
(s (w (t 15) k
(e 2))
(s (b 3 (s (r [a 16 14,
o 17 (.idxS 1 (t 12) (t 14)),
l 18 17,
a 5 16,
a 6 18])
(s (r [l 19 3,
a 20 5,
o 21 (.idxS 1 (t 19) (t 20)),
l 22 21,
o 23 (.not (t 22)),
a 24 23,
g 25 24 true (.mv (t 6)),
g 26 24 true (.mkfn (.func 289) [] [(t 3)]),
g 27 24 true (.call (f 239) [(t 25),(t 26)]),
o 28 (.pick (t 24) (t 27) n)])
(w (t 28) (r [l 29 3,
a 30 5,
o 31 (.idxS 1 (t 29) (t 30)),
q (.store 1 (t 31) y),
o 4 (.mv y)])
k))))
(r [o 32 (N .add (t 14) (i 1)),
a 14 32])))))))))))))
(s (r [l 33 3,
a 2 33])
z))))⟩

def ir260 : IFunc := ⟨[.tmp 4],
(s (r [o 2 (.box 2 (t 0)),
o 4 (.mv (c (.slice none 0 0)))])
(s (r [p 16 0 2,
l 17 16,
o 18 (.len (t 17)),
o 19 (.mkSlice 8 [(.int .i64 0)] (t 18) (t 18)),
a 5 19])
(s (r [o 6 (.mv (i 1))])
(b 0 (lo (b 1 (s (r [o 20 (.mkmap),
a 7 20])
(s (r [p 21 0 2,
l 22 21,
o 23 (.len (t 22)),
o 24 (.mkSlice 8 [(.int .i64 0)] (t 23) (t 23)),
a 8 24])
(s (s (r [p 25 0 2,
l 26 25,
o 27 (.len (t 26)),
o 28 (.mv (i 0))])
(b 2 (lo (s (r [o 29 (N .lss (t 28) (t 27))])
(s (w (t 29) k
(e 2))
(s (b 3 (s (r [a 30 28,
o 31 (.idxS 1 (t 26) (t 28)),
l 32 31,
a 9 30,
a 10 32])
(s (s (r [a 33 1,
a 34 9,
o 35 (.idxS 1 (t 33) (t 34)),
l 36 35,
o 37 (.not (t 36))])
(w (t 37) (e 3)
k))
(s (d [u 0 (p 38 1 2) [],
u 1 (l 39 38) [],
u 2 (a 40 9) [],
u 3 (o 41 (.idxS 1 (t 39) (t 40))) [],
u 4 (l 42 41) [],
u 5 (o 43 (.call (f 290) [(t 42)])) [],
u 7 (a 45 5) [],
u 8 (a 46 9) [],
u 9 (o 47 (.idxS 1 (t 45) (t 46))) [],
u 10 (l 48 47) [3,4,7],
u 11 (o 49 (.call (f 272) [(t 48)])) [],
u 6 (o 44 (.bin .str .add (t 43) (c (.string ⟨#[32]⟩)))) [],
u 12 (o 50 (.bin .str .add (t 44) (t 49))) [],
u 13 (a 11 50) []])
(s (s (r [a 51 10,
o 52 (.len (t 51)),
o 53 (.mv (i 0))])
(b 4 (lo (s (r [o 54 (N .lss (t 53) (t 52))])
(s (w (t 54) k
(e 4))
(s (b 5 (s (r [o 55 (.idxS 5 (t 51) (t 53)),
o 56 (.loadN 5 (t 55)),
o 13 (.mk 143 [(.int .i64 0),(.int .i64 0),(.int .u8 0),(.int .i64 0),(.int .i64 0)]),
q (.store 5 (t 13) (t 56))])
(s (r [a 57 1,
p 58 4 13,
l 59 58,
o 60 (.idxS 1 (t 57) (t 59)),
l 61 60])
(w (t 61) (d [u 1 (p 63 0 13) [],
u 2 (p 64 0 63) [],
u 3 (l 65 64) [],
u 4 (p 66 0 13) [],
u 5 (p 67 1 66) [],
u 6 (l 68 67) [2],
u 7 (p 69 0 13) [],
u 8 (p 70 2 69) [],
u 9 (l 71 70) [2,5],
u 10 (o 72 (.conv .i64 (t 71))) [],
u 11 (p 73 0 13) [],
u 12 (p 74 3 73) [],
u 13 (l 75 74) [3,6,9],
u 14 (a 76 5) [],
u 15 (p 77 4 13) [],
u 16 (l 78 77) [2,6,9,12],
u 17 (o 79 (.idxS 1 (t 76) (t 78))) [],
u 18 (l 80 79) [4,8,11,14],
u 19 (o 81 (.buildSlice 5 [(.int .i64 0),(.int .i64 0),(.int .i64 0),(.int .i64 0),(.int .i64 0)] [(0,1,(t 65)),(1,1,(t 68)),(2,1,(t 72)),(3,1,(t 75)),(4,1,(t 80))])) [],
u 20 (o 82 (.call (f 256) [(t 81)])) [],
u 0 (a 62 11) [],
u 21 (o 83 (.bin .str .add (c (.string ⟨#[32]⟩)) (t 82))) [],
u 22 (o 84 (.bin .str .add (t 62) (t 83))) [],
u 23 (a 11 84) []])
k))))
(r [o 85 (N .add (t 53) (i 1)),
a 53 85])))))))
(s (s (r [a 87 7,
a 88 11,
o 89 (.lookup (.sc .str) (.int .i64 0) true (t 87) (t 88)),
a 86 89,
o 90 (.extract 0 (t 86)),
o 91 (.extract 1 (t 86)),
a 14 90,
a 15 91])
(s (r [a 92 15,
o 93 (.not (t 92))])
(w (t 93) (r [a 94 7,
a 95 11,
a 96 7,
o 97 (.lenM (t 96)),
q (.insert (.sc .str) (t 94) (t 95) (t 97))])
k)))
(r [a 98 8,
a 99 9,
a 100 7,
a 101 11,
o 102 (.lookup (.sc .str) (.int .i64 0) false (t 100) (t 101)),
o 103 (.idxS 1 (t 98) (t 99)),
q (.store 1 (t 103) (t 102))])))))))
(r [o 104 (N .add (t 28) (i 1)),
a 28 104])))))))
(s (s (r [a 105 7,
o 106 (.lenM (t 105)),
a 107 6,
o 108 (N .eql (t 106) (t 107))])
(w (t 108) (s (r [a 109 8,
a 4 109])
z)
k))
(r [a 110 8,
a 111 7,
o 112 (.lenM (t 111)),
a 5 110,
a 6 112])))))))))))⟩

def ir261 : IFunc := ⟨[.tmp 4],
(s (r [o 3 (.box 4 (t 1)),
o 4 (.mv (c (.slice none 0 0)))])
(s (r [o 5 (.mv (i 0))])
(s (b 0 (lo (s (s (d [u 0 (a 7 5) [],
u 1 (a 8 0) [],
u 2 (o 9 (.len (t 8))) [],
u 3 (o 10 (N .lss (t 7) (t 9))) [],
u 4 (a 11 10) [],
u 5 (g 12 11 true (.mv (t 0))) [],
u 6 (g 13 11 true (.mv (t 5))) [],
u 7 (g 14 11 true (.idxS 4 (t 12) (t 13))) [],
u 8 (g 15 11 true (.loadN 4 (t 14))) [],
u 9 (g 16 11 true (.loadN 4 (t 3))) [0],
u 10 (g 17 11 true (.call (f 291) [(t 15),(t 16)])) [],
u 11 (o 18 (.pick (t 11) (t 17) n)) []])
(w (t 18) k
(e 0)))
(b 1 (r [a 19 5,
o 20 (N .add (t 19) (i 1)),
a 5 20])))))
(s (s (d [u 0 (a 21 5) [],
u 1 (a 22 0) [],
u 2 (o 23 (.len (t 22))) [],
u 3 (o 24 (N .lss (t 21) (t 23))) [],
u 4 (a 25 24) [],
u 5 (g 26 25 true (.mv (t 0))) [],
u 6 (g 27 25 true (.mv (t 5))) [],
u 7 (g 28 25 true (.idxS 4 (t 26) (t 27))) [],
u 8 (g 29 25 true (.loadN 4 (t 28))) [],
u 9 (g 30 25 true (.loadN 4 (t 3))) [0],
u 10 (g 31 25 true (.eqF (.ag [(0,.num),(1,.num),(2,.num),(3,.num)]) false (t 29) (t 30))) [],
u 11 (o 32 (.pick (t 25) (t 31) n)) []])
(w (t 32) (s (r [a 33 0,
a 4 33])
z)
k))
(s (r [o 34 (.buildSlice 0 [] []),
a 35 0,
a 36 5,
o 37 (.sliceS 4 (t 35) none (some (t 36)) none),
o 38 (.append 47 4 32 (t 34) (t 37)),
a 6 38])
(s (d [u 0 (a 39 6) [],
u 1 (o 40 (.loadN 4 (t 3))) [],
u 2 (o 41 (.buildSlice 1 [(.int .i64 0),(.int .i64 0),(.int .u8 0),(.int .i64 0)] [(0,4,(t 40))])) [],
u 3 (o 42 (.append 47 4 32 (t 39) (t 41))) [],
u 4 (a 43 0) [],
u 5 (a 44 5) [],
u 6 (o 45 (.sliceS 4 (t 43) (some (t 44)) none none)) [2,3,4],
u 7 (o 46 (.append 47 4 32 (t 42) (t 45))) [],
u 8 (a 4 46) []])
z))))))⟩

def ir262 : IFunc := ⟨[.tmp 4],
(s (r [o 4 (.mv n)])
(s (s (r [a 6 0,
o 7 (.len (t 6)),
a 8 1,
o 9 (.len (t 8)),
o 10 (N .neq (t 7) (t 9))])
(w (t 10) (s (r [o 4 (.mv n)])
z)
k))
(s (s (r [o 5 (.mv (i 0))])
(b 0 (lo (s (s (r [a 11 5,
a 12 0,
o 13 (.len (t 12)),
o 14 (N .lss (t 11) (t 13))])
(w (t 14) k
(e 0)))
(s (b 1 (s (d [u 0 (a 17 0) [],
u 1 (a 18 5) [],
u 2 (o 19 (.idxS 1 (t 17) (t 18))) [],
u 3 (l 20 19) [],
u 4 (a 21 1) [],
u 5 (a 22 5) [],
u 6 (o 23 (.idxS 1 (t 21) (t 22))) [],
u 7 (l 24 23) [3],
u 8 (o 25 (N .neq (t 20) (t 24))) []])
(w (t 25) (s (r [o 4 (.mv n)])
z)
k)))
(r [a 15 5,
o 16 (N .add (t 15) (i 1)),
a 5 16]))))))
(s (r [o 4 (.mv y)])
z))))⟩

def ir263 : IFunc := ⟨[.tmp 10],
(s (r [o 5 (.box 2 (t 0)),
o 10 (.mv n)])
(s (s (d [u 0 (a 13 1) [],
u 1 (a 14 3) [],
u 2 (o 15 (.idxS 1 (t 13) (t 14))) [],
u 3 (l 16 15) [],
u 4 (a 17 1) [],
u 5 (a 18 4) [],
u 6 (o 19 (.idxS 1 (t 17) (t 18))) [],
u 7 (l 20 19) [3],
u 8 (o 21 (N .neq (t 16) (t 20))) []])
(w (t 21) (s (r [o 10 (.mv n)])
z)
k))
(s (r [p 22 0 5,
l 23 22,
o 24 (.build [(.slice none 0 0),(.slice none 0 0),(.slice none 0 0)] [(0,1,(t 23))]),
a 25 3,
a 26 4,
o 27 (.buildSlice 2 [(.int .i64 0),(.int .i64 0)] [(0,1,(t 25)),(1,1,(t 26))]),
o 28 (.call (f 220) [(t 24),(t 27)]),
a 11 28])
(s (s (r [o 12 (.mv (i 0))])
(b 0 (lo (s (s (r [a 29 12,
a 30 11,
o 31 (.len (t 30)),
o 32 (N .lss (t 29) (t 31))])
(w (t 32) k
(e 0)))
(s (b 1 (s (d [u 0 (o 35 (.loadN 2 (t 5))) [],
u 1 (a 36 1) [],
u 2 (a 37 2) [],
u 3 (a 38 3) [],
u 4 (a 39 11) [],
u 5 (a 40 12) [],
u 6 (o 41 (.idxS 4 (t 39) (t 40))) [],
u 7 (o 42 (.loadN 4 (t 41))) [6],
u 8 (o 43 (.call (f 292) [(t 35),(t 36),(t 37),(t 38),(t 42)])) [],
u 9 (o 44 (.loadN 2 (t 5))) [0,1,8],
u 10 (a 45 1) [],
u 11 (a 46 2) [],
u 12 (a 47 4) [],
u 13 (a 48 11) [],
u 14 (a 49 12) [],
u 15 (o 50 (.idxS 4 (t 48) (t 49))) [],
u 16 (o 51 (.loadN 4 (t 50))) [6,7,8,15],
u 17 (o 52 (.call (f 292) [(t 44),(t 45),(t 46),(t 47),(t 51)])) [],
u 18 (o 53 (N .neq (t 43) (t 52))) []])
(w (t 53) (s (r [o 10 (.mv n)])
z)
k)))
(r [a 33 12,
o 34 (N .add (t 33) (i 1)),
a 12 34]))))))
(s (r [o 10 (.mv y)])
z)))))⟩

def ir265 : IFunc := ⟨[.tmp 6],
(s (r [o 6 (.mv n)])
(s (s (r [a 10 0,
o 11 (.len (t 10)),
a 12 1,
o 13 (.len (t 12)),
o 14 (N .neq (t 11) (t 13))])
(w (t 14) (s (r [o 6 (.mv n)])
z)
k))
(s (s (r [a 15 0,
o 16 (.len (t 15)),
o 17 (.mv (i 0))])
(b 0 (lo (s (r [o 18 (N .lss (t 17) (t 16))])
(s (w (t 18) k
(e 0))
(s (b 1 (s (r [a 19 17,
o 20 (.idxS 5 (t 15) (t 17)),
o 21 (.loadN 5 (t 20)),
o 8 (.mk 51 [(.int .u8 0),(.int .i64 0),(.int .i64 0),(.int .i64 0),(.slice none 0 0)]),
a 7 19,
q (.store 5 (t 8) (t 21))])
(s (r [a 22 1,
a 23 7,
o 24 (.idxS 2 (t 22) (t 23)),
o 25 (.loadN 2 (t 24)),
o 9 (.mk 27 [(.bool false),(.int .i64 0)]),
q (.store 2 (t 9) (t 25))])
(s (r [a 26 2,
o 27 (.loadN 5 (t 8)),
o 28 (.loadN 2 (t 9)),
o 29 (.call (t 26) [(t 27),(t 28)]),
o 30 (.not (t 29))])
(w (t 30) (s (r [o 6 (.mv n)])
z)
k)))))
(r [o 31 (N .add (t 17) (i 1)),
a 17 31])))))))
(s (r [o 6 (.mv y)])
z))))⟩

def ir266 : IFunc := ⟨[.tmp 8,.tmp 9],
(s (r [o 4 (.box 4 (t 0)),
o 5 (.box 4 (t 1)),
o 6 (.box 5 (t 2)),
o 7 (.box 5 (t 3)),
o 8 (.mv (i 0)),
o 9 (.mv n)])
(s (r [o 13 (.loadN 4 (t 5)),
o 14 (.loadN 5 (t 6)),
o 15 (.call (f 192) [(t 13),(t 14)]),
a 12 15,
o 16 (.extract 0 (t 12)),
o 17 (.extract 1 (t 12)),
a 10 16,
a 11 17])
(s (r [a 18 10,
a 19 11,
a 20 19,
g 21 20 true (.loadN 4 (t 4)),
g 22 20 true (.loadN 5 (t 7)),
g 23 20 true (.mv (t 10)),
g 24 20 true (.call (f 142) [(t 21),(t 22),(t 23)]),
o 25 (.pick (t 20) (t 24) n),
a 8 18,
a 9 25])
z)))⟩

def ir267 : IFunc := ⟨[.tmp 4],
(s (r [o 4 (.mv (i 0))])
(s (s (r [a 6 0,
o 7 (.len (t 6)),
o 8 (.mv (i 0))])
(b 0 (lo (s (r [o 9 (N .lss (t 8) (t 7))])
(s (w (t 9) k
(e 0))
(s (b 1 (s (r [a 10 8,
a 5 10])
(s (r [a 11 1,
a 12 0,
a 13 5,
o 14 (.idxS 5 (t 12) (t 13)),
o 15 (.loadN 5 (t 14)),
o 16 (.call (t 11) [(t 15)])])
(w (t 16) (s (r [a 17 5,
a 4 17])
z)
k))))
(r [o 18 (N .add (t 8) (i 1)),
a 8 18])))))))
(s (r [o 4 (.mv (i (-1)))])
z)))⟩

def ir268 : IFunc := ⟨[.tmp 4],
(s (r [o 4 (.mv (c (.slice none 0 0)))])
(s (s (r [a 9 1,
o 10 (N .lss (t 9) (i 0))])
(w (t 10) (r [o 11 (.bad),
q (.bad)])
k))
(s (r [a 13 0,
o 14 (.len (t 13)),
o 15 (.conv .u64 (t 14)),
a 16 1,
o 17 (.conv .u64 (t 16)),
o 18 (.call (f 293) [(t 15),(t 17)]),
a 12 18,
o 19 (.extract 0 (t 12)),
o 20 (.extract 1 (t 12)),
a 5 19,
a 6 20])
(s (s (r [a 21 5,
o 22 (N .gtr (t 21) (c (.int .u64 0))),
a 23 22,
g 24 23 false (.mv (t 6)),
g 25 23 false (N .gtr (t 24) (c (.int .u64 9223372036854775807))),
o 26 (.pick (t 23) y (t 25))])
(w (t 26) (r [o 27 (.bad),
q (.bad)])
k))
(s (r [a 28 6,
o 29 (.conv .i64 (t 28)),
o 30 (.mkSlice 8 [(.int .i64 0)] (t 29) (t 29)),
a 7 30])
(s (r [a 31 7,
a 32 0,
o 33 (.copy 1 (t 31) (t 32)),
a 8 33])
(s (b 0 (lo (s (s (r [a 34 8,
a 35 7,
o 36 (.len (t 35)),
o 37 (N .lss (t 34) (t 36))])
(w (t 37) k
(e 0)))
(b 1 (d [u 0 (a 38 8) [],
u 1 (a 39 7) [],
u 2 (a 40 8) [],
u 3 (o 41 (.sliceS 1 (t 39) (some (t 40)) none none)) [],
u 4 (a 42 7) [],
u 5 (a 43 8) [],
u 6 (o 44 (.sliceS 1 (t 42) none (some (t 43)) none)) [2],
u 7 (o 45 (.copy 1 (t 41) (t 44))) [],
u 8 (o 46 (N .add (t 38) (t 45))) [],
u 9 (a 8 46) []])))))
(s (r [a 47 7,
a 4 47])
z))))))))⟩

def ir269 : IFunc := ⟨[],
(s (r [l 10 1,
a 11 0,
o 12 (.idxS 1 (t 10) (t 11)),
q (.store 1 (t 12) y)])
(s (s (r [p 13 0 2,
l 14 13,
a 15 0,
o 16 (.idxS 1 (t 14) (t 15)),
l 17 16,
o 18 (.len (t 17)),
o 19 (.mv (i 0))])
(b 0 (lo (s (r [o 20 (N .lss (t 19) (t 18))])
(s (w (t 20) k
(e 0))
(s (b 1 (s (r [o 21 (.idxS 5 (t 17) (t 19)),
o 22 (.loadN 5 (t 21)),
o 9 (.mk 143 [(.int .i64 0),(.int .i64 0),(.int .u8 0),(.int .i64 0),(.int .i64 0)]),
q (.store 5 (t 9) (t 22))])
(s (s (r [l 23 1,
p 24 4 9,
l 25 24,
o 26 (.idxS 1 (t 23) (t 25)),
l 27 26])
(w (t 27) (r [q (.store 1 (t 3) y)])
(s (r [l 28 4,
p 29 4 9,
l 30 29,
o 31 (.idxS 1 (t 28) (t 30)),
l 32 31,
o 33 (N .lss (t 32) (i 0))])
(w (t 33) (r [l 34 5,
p 35 4 9,
l 36 35,
o 37 (.call (t 34) [(t 36)])])
k))))
(s (r [l 38 3])
(w (t 38) z
k)))))
(r [o 39 (N .add (t 19) (i 1)),
a 19 39])))))))
(d [u 5 (o 45 (.loadN 2 (t 2))) [],
u 6 (a 46 0) [],
u 7 (l 47 4) [1],
u 8 (o 48 (.call (f 271) [(t 45),(t 46),(t 47)])) [],
u 4 (l 44 6) [0,1,3],
u 9 (o 49 (.call (f 270) [(t 44),(t 48)])) [],
u 0 (l 40 1) [0,1,2,3,5],
u 1 (a 41 0) [],
u 2 (l 42 4) [1,2,3,4,5,7],
u 3 (a 43 0) [],
u 10 (o 50 (.idxS 1 (t 40) (t 41))) [],
u 11 (q (.store 1 (t 50) n)) [2],
u 12 (o 51 (.idxS 1 (t 42) (t 43))) [],
u 13 (q (.store 1 (t 51) (t 49))) []])))⟩

def ir270 : IFunc := ⟨[.tmp 4],
(s (r [o 4 (.mv (i 0))])
(s (r [a 8 0,
a 9 1,
o 10 (.lookup (.sc .str) (.int .i64 0) true (t 8) (t 9)),
a 7 10,
o 11 (.extract 0 (t 7)),
o 12 (.extract 1 (t 7)),
a 5 11,
a 6 12])
(s (s (r [a 13 6,
o 14 (.not (t 13))])
(w (t 14) (s (r [a 15 0,
o 16 (.lenM (t 15)),
a 5 16])
(r [a 17 0,
a 18 1,
a 19 5,
q (.insert (.sc .str) (t 17) (t 18) (t 19))]))
k))
(s (r [a 20 5,
a 4 20])
z))))⟩

def ir271 : IFunc := ⟨[.tmp 6],
(s (r [o 3 (.box 2 (t 0)),
o 6 (.mv (c (.string ⟨#[]⟩)))])
(s (r [o 7 (.mk 341 [(.pointer none),(.slice none 0 0)])])
(s (r [p 12 1 3,
l 13 12,
a 14 1,
o 15 (.idxS 1 (t 13) (t 14)),
l 16 15,
o 17 (.call (f 290) [(t 16)]),
o 18 (.call (f 252) [(t 7),(t 17)])])
(s (s (r [p 19 0 3,
l 20 19,
a 21 1,
o 22 (.idxS 1 (t 20) (t 21)),
l 23 22,
o 24 (.len (t 23)),
o 25 (.mv (i 0))])
(b 0 (lo (s (r [o 26 (N .lss (t 25) (t 24))])
(s (w (t 26) k
(e 0))
(s (b 1 (s (r [o 27 (.idxS 5 (t 23) (t 25)),
o 28 (.loadN 5 (t 27)),
o 9 (.mk 143 [(.int .i64 0),(.int .i64 0),(.int .u8 0),(.int .i64 0),(.int .i64 0)]),
q (.store 5 (t 9) (t 28))])
(s (d [u 0 (p 29 0 9) [],
u 1 (p 30 0 29) [],
u 2 (l 31 30) [],
u 3 (p 32 0 9) [],
u 4 (p 33 1 32) [],
u 5 (l 34 33) [2],
u 6 (p 35 0 9) [],
u 7 (p 36 2 35) [],
u 8 (l 37 36) [2,5],
u 9 (o 38 (.conv .i64 (t 37))) [],
u 10 (p 39 0 9) [],
u 11 (p 40 3 39) [],
u 12 (l 41 40) [3,6,9],
u 13 (a 42 2) [],
u 14 (p 43 4 9) [],
u 15 (l 44 43) [2,6,9,12],
u 16 (o 45 (.idxS 1 (t 42) (t 44))) [],
u 17 (l 46 45) [4,8,11,14],
u 18 (o 47 (.buildSlice 5 [(.int .i64 0),(.int .i64 0),(.int .i64 0),(.int .i64 0),(.int .i64 0)] [(0,1,(t 31)),(1,1,(t 34)),(2,1,(t 38)),(3,1,(t 41)),(4,1,(t 46))])) [],
u 19 (o 48 (.len (t 47))) [],
u 20 (o 49 (.mv (i 0))) []])
(b 2 (lo (s (r [o 50 (N .lss (t 49) (t 48))])
(s (w (t 50) k
(e 2))
(s (b 3 (s (r [o 51 (.idxS 1 (t 47) (t 49)),
l 52 51,
a 11 52])
(s (r [o 53 (.call (f 294) [(t 7),(c (.int .u8 32))])])
(r [a 54 11,
o 55 (.call (f 272) [(t 54)]),
o 56 (.call (f 252) [(t 7),(t 55)])]))))
(r [o 57 (N .add (t 49) (i 1)),
a 49 57])))))))))
(r [o 58 (N .add (t 25) (i 1)),
a 25 58])))))))
(s (r [o 59 (.call (f 253) [(t 7)]),
a 6 59])
z)))))⟩

def ir272 : IFunc := ⟨[.tmp 2],
(s (r [o 2 (.mv (c (.string ⟨#[]⟩)))])
(s (r [a 3 0,
o 4 (.call (f 295) [(t 3)]),
a 2 4])
z))⟩

def ir273 : IFunc := ⟨[.tmp 5],
(s (r [o 5 (.mv (i 0))])
(s (d [u 0 (l 9 1) [],
u 1 (l 10 2) [0],
u 2 (a 11 0) [],
u 3 (o 12 (.idxS 1 (t 10) (t 11))) [],
u 4 (l 13 12) [3],
u 5 (o 14 (.lookup (.sc .num) (.int .i64 0) true (t 9) (t 13))) [],
u 6 (a 8 14) [],
u 7 (o 15 (.extract 0 (t 8))) [],
u 8 (o 16 (.extract 1 (t 8))) [],
u 9 (a 6 15) [],
u 10 (a 7 16) []])
(s (s (r [a 17 7,
o 18 (.not (t 17))])
(w (t 18) (s (r [l 19 3,
o 20 (.len (t 19)),
a 6 20])
(s (d [u 0 (l 21 1) [],
u 1 (l 22 2) [0],
u 2 (a 23 0) [],
u 3 (o 24 (.idxS 1 (t 22) (t 23))) [],
u 4 (l 25 24) [3],
u 5 (a 26 6) [],
u 6 (q (.insert (.sc .num) (t 21) (t 25) (t 26))) []])
(r [l 27 3,
a 28 0,
o 29 (.buildSlice 1 [(.int .i64 0)] [(0,1,(t 28))]),
o 30 (.append 3 1 8 (t 27) (t 29)),
q (.store 1 (t 3) (t 30))])))
k))
(s (r [a 31 6,
a 5 31])
z))))⟩

def ir274 : IFunc := ⟨[.cellN 2 4,.tmp 3],
(s (r [o 1 (.box 4 (t 0)),
o 2 (.mk 373 [(.slice none 0 0),(.bool false),(.int .i64 0),(.bool false)]),
o 3 (.mv (i 0))])
(s (d [u 2 (o 6 (.loadN 4 (t 1))) [],
u 3 (o 7 (.call (f 25) [(t 6)])) [],
u 0 (o 4 (.loadN 4 (t 1))) [0,1],
u 1 (o 5 (.build [(.slice none 0 0),(.bool false),(.int .i64 0),(.bool false)] [(0,4,(t 4))])) [],
u 4 (q (.store 4 (t 2) (t 5))) [],
u 5 (a 3 7) []])
z))⟩

def ir275 : IFunc := ⟨[.cellN 4 5,.cell1 5],
(s (r [o 2 (.box 4 (t 0)),
o 3 (.box 4 (t 1)),
o 4 (.mk 377 [(.int .i64 0),(.int .i64 0),(.bool false),(.int .i64 0),(.bool false)]),
o 5 (.mk 4 [(.bool false)])])
(s (r [o 10 (.loadN 4 (t 2)),
p 11 0 3,
l 12 11,
p 13 1 3,
l 14 13,
o 15 (.call (f 296) [(t 10),(t 12),(t 14)]),
a 9 15,
o 16 (.extract 0 (t 9)),
o 17 (.extract 1 (t 9)),
o 6 (.mk 377 [(.int .i64 0),(.int .i64 0),(.bool false),(.int .i64 0),(.bool false)]),
q (.store 5 (t 6) (t 16)),
a 7 17])
(s (s (r [a 18 7,
o 19 (.not (t 18))])
(w (t 19) (s (r [o 20 (.loadN 5 (t 6)),
q (.store 5 (t 4) (t 20)),
q (.store 1 (t 5) n)])
z)
k))
(s (s (r [o 21 (.loadN 5 (t 6)),
o 22 (.mkfn (.func 297) [(t 21)] [])])
(b 0 (.rangeFunc (t 22) [23] (r [o 8 (.mk 47 [(.int .i64 0),(.int .i64 0),(.int .u8 0),(.int .i64 0)]),
q (.store 4 (t 8) (t 23))])
(b 1 (s (r [o 24 (.loadN 4 (t 8)),
o 25 (.loadN 4 (t 3)),
o 26 (.eqF (.ag [(0,.num),(1,.num),(2,.num),(3,.num)]) false (t 24) (t 25))])
(w (t 26) (s (r [o 27 (.loadN 5 (t 6)),
q (.store 5 (t 4) (t 27)),
q (.store 1 (t 5) y)])
z)
k))))))
(s (r [o 28 (.loadN 5 (t 6)),
q (.store 5 (t 4) (t 28)),
q (.store 1 (t 5) n)])
z)))))⟩

def ir276 : IFunc := ⟨[],
(s (r [a 2 0,
o 3 (.nilCheck (t 2)),
p 4 0 3,
l 5 4,
o 6 (.bin .ptr .eql (t 5) (c (.pointer none)))])
(w (t 6) (r [a 7 0,
a 8 0,
o 9 (.toU (t 8)),
o 10 (.call (f 298) [(t 9)]),
o 11 (.frU 341 2 (t 10)),
o 12 (.nilCheck (t 7)),
p 13 0 12,
q (.store 1 (t 13) (t 11))])
(s (r [a 14 0,
o 15 (.nilCheck (t 14)),
p 16 0 15,
l 17 16,
a 18 0,
o 19 (.bin .ptr .neq (t 17) (t 18))])
(w (t 19) .bad
k))))⟩

def ir277 : IFunc := ⟨[],
(s (r [a 8 1,
o 9 (N .add (t 8) (i 1)),
a 6 9])
(b 0 (lo (s (s (r [a 10 6,
a 11 2,
o 12 (N .lss (t 10) (t 11))])
(w (t 12) k
(e 0)))
(s (b 1 (s (r [a 15 6,
a 7 15])
(b 2 (lo (s (s (d [u 0 (a 16 7) [],
u 1 (a 17 1) [],
u 2 (o 18 (N .gtr (t 16) (t 17))) [],
u 3 (a 19 18) [],
u 4 (g 20 19 true (.mv (t 0))) [],
u 5 (g 21 19 true (.mv (t 7))) [],
u 6 (g 22 19 true (.idxS 1 (t 20) (t 21))) [],
u 7 (g 23 19 true (.load1 (t 22))) [],
u 8 (g 24 19 true (.mv (t 0))) [],
u 9 (g 25 19 true (.mv (t 7))) [],
u 10 (g 26 19 true (N .sub (t 25) (i 1))) [],
u 11 (g 27 19 true (.idxS 1 (t 24) (t 26))) [],
u 12 (g 28 19 true (.load1 (t 27))) [4],
u 13 (g 29 19 true (.call (f 283) [(t 23),(t 28)])) [],
u 14 (o 30 (.pick (t 19) (t 29) n)) []])
(w (t 30) k
(e 2)))
(s (b 3 (d [u 0 (a 33 0) [],
u 1 (a 34 7) [],
u 2 (a 35 0) [],
u 3 (a 36 7) [],
u 4 (o 37 (N .sub (t 36) (i 1))) [],
u 5 (a 38 0) [],
u 6 (a 39 7) [],
u 7 (o 40 (N .sub (t 39) (i 1))) [],
u 8 (o 41 (.idxS 1 (t 38) (t 40))) [],
u 9 (l 42 41) [],
u 10 (a 43 0) [],
u 11 (a 44 7) [],
u 12 (o 45 (.idxS 1 (t 43) (t 44))) [],
u 13 (l 46 45) [3],
u 14 (o 47 (.idxS 1 (t 33) (t 34))) [],
u 15 (q (.store 1 (t 47) (t 42))) [],
u 16 (o 48 (.idxS 1 (t 35) (t 37))) [],
u 17 (q (.store 1 (t 48) (t 46))) []]))
(r [a 31 7,
o 32 (N .sub (t 31) (i 1)),
a 7 32])))))))
(r [a 13 6,
o 14 (N .add (t 13) (i 1)),
a 6 14]))))))⟩

def ir283 : IFunc := ⟨[.tmp 4],
(s (r [o 4 (.mv n)])
(s (r [a 5 0,
o 6 (.call (f 190) [(t 5)]),
a 7 6,
g 8 7 true (.mv (t 1)),
g 9 7 true (.call (f 190) [(t 8)]),
g 10 7 true (.not (t 9)),
o 11 (.pick (t 7) (t 10) n),
a 12 11,
g 13 12 false (.mv (t 0)),
g 14 12 false (.mv (t 1)),
g 15 12 false (N .lss (t 13) (t 14)),
o 16 (.pick (t 12) y (t 15)),
a 4 16])
z))⟩

def ir286 : IFunc := ⟨[.tmp 4],
(s (r [o 2 (.box 1 (t 0)),
o 3 (.box 1 (t 1)),
o 4 (.mv (c .nilFunc))])
(s (r [o 5 (.mkfn (.func 302) [] [(t 3),(t 2)]),
a 4 5])
z))⟩

def ir287 : IFunc := ⟨[],
(s (r [a 5 0,
o 6 (.len (t 5)),
a 4 6])
(r [a 7 0,
a 8 4,
a 9 4,
o 10 (.conv .u64 (t 9)),
o 11 (.call (f 138) [(t 10)]),
a 12 1,
o 13 (.call (f 303) [(t 7),(i 0),(t 8),(t 11),(t 12)])]))⟩

def ir288 : IFunc := ⟨[.tmp 4],
(s (r [o 2 (.box 5 (t 0)),
o 3 (.box 5 (t 1)),
o 4 (.mv (i 0))])
(s (d [u 0 (p 5 0 2) [],
u 1 (o 6 (.loadN 4 (t 5))) [],
u 2 (p 7 0 3) [],
u 3 (o 8 (.loadN 4 (t 7))) [1],
u 4 (o 9 (.call (f 304) [(t 6),(t 8)])) [],
u 5 (p 10 4 2) [],
u 6 (l 11 10) [1,2,4],
u 7 (p 12 4 3) [],
u 8 (l 13 12) [1,3,4,6],
u 9 (o 14 (.call (f 140) [(t 11),(t 13)])) [],
u 10 (o 15 (.buildSlice 2 [(.int .i64 0),(.int .i64 0)] [(0,1,(t 9)),(1,1,(t 14))])) [],
u 11 (o 16 (.call (f 139) [(t 15)])) [],
u 12 (a 4 16) []])
z))⟩

def ir289 : IFunc := ⟨[.tmp 3],
(s (r [o 2 (.box 5 (t 0)),
o 3 (.mv n)])
(s (r [l 4 1,
p 5 4 2,
l 6 5,
o 7 (.idxS 1 (t 4) (t 6)),
l 8 7,
a 3 8])
z))⟩

def ir290 : IFunc := ⟨[.tmp 2],
(s (r [o 2 (.mv (c (.string ⟨#[]⟩)))])
(s (r [a 3 0,
o 4 (.call (f 305) [(t 3)]),
a 2 4])
z))⟩

def ir291 : IFunc := ⟨[.tmp 4],
(s (r [o 2 (.box 4 (t 0)),
o 3 (.box 4 (t 1)),
o 4 (.mv n)])
(s (s (r [p 5 0 2,
l 6 5,
p 7 0 3,
l 8 7,
o 9 (N .neq (t 6) (t 8))])
(w (t 9) (s (r [p 10 0 2,
l 11 10,
p 12 0 3,
l 13 12,
o 14 (N .lss (t 11) (t 13)),
a 4 14])
z)
k))
(s (s (r [p 15 1 2,
l 16 15,
p 17 1 3,
l 18 17,
o 19 (N .neq (t 16) (t 18))])
(w (t 19) (s (r [p 20 1 2,
l 21 20,
p 22 1 3,
l 23 22,
o 24 (N .lss (t 21) (t 23)),
a 4 24])
z)
k))
(s (s (r [p 25 2 2,
l 26 25,
p 27 2 3,
l 28 27,
o 29 (N .neq (t 26) (t 28))])
(w (t 29) (s (r [p 30 2 2,
l 31 30,
p 32 2 3,
l 33 32,
o 34 (N .lss (t 31) (t 33)),
a 4 34])
z)
k))
(s (r [p 35 3 2,
l 36 35,
p 37 3 3,
l 38 37,
o 39 (N .lss (t 36) (t 38)),
a 4 39])
z)))))⟩

def ir292 : IFunc := ⟨[.tmp 10],
(s (r [o 5 (.box 2 (t 0)),
o 9 (.box 4 (t 4)),
o 10 (.mv (i 0))])
(s (s (r [o 11 (.mv (i 0))])
(b 0 (lo (s (s (r [a 13 11,
p 14 0 5,
l 15 14,
a 16 3,
o 17 (.idxS 1 (t 15) (t 16)),
l 18 17,
o 19 (.len (t 18)),
o 20 (N .lss (t 13) (t 19))])
(w (t 20) k
(e 0)))
(s (b 1 (s (r [p 23 0 5,
l 24 23,
a 25 3,
o 26 (.idxS 1 (t 24) (t 25)),
l 27 26,
a 28 11,
o 29 (.idxS 5 (t 27) (t 28)),
o 30 (.loadN 5 (t 29)),
o 12 (.mk 143 [(.int .i64 0),(.int .i64 0),(.int .u8 0),(.int .i64 0),(.int .i64 0)]),
q (.store 5 (t 12) (t 30))])
(s (r [p 31 0 12,
o 32 (.loadN 4 (t 31)),
o 33 (.loadN 4 (t 9)),
o 34 (.eqF (.ag [(0,.num),(1,.num),(2,.num),(3,.num)]) false (t 32) (t 33)),
a 35 34,
g 36 35 true (.mv (t 2)),
g 37 35 true (.faddr 4 (t 12)),
g 38 35 true (.load1 (t 37)),
g 39 35 true (.idxS 1 (t 36) (t 38)),
g 40 35 true (.load1 (t 39)),
o 41 (.pick (t 35) (t 40) n)])
(w (t 41) (s (r [a 42 1,
p 43 4 12,
l 44 43,
o 45 (.idxS 1 (t 42) (t 44)),
l 46 45,
a 10 46])
z)
k))))
(r [a 21 11,
o 22 (N .add (t 21) (i 1)),
a 11 22]))))))
(s (r [o 10 (.mv (i (-1)))])
z)))⟩

def ir293 : IFunc := ⟨[.tmp 4,.tmp 5],
(s (r [o 4 (.mv (c (.int .u64 0))),
o 5 (.mv (c (.int .u64 0)))])
(s (w n (s (r [a 11 0,
o 12 (.conv .u32 (t 11)),
a 13 1,
o 14 (.conv .u32 (t 13)),
o 15 (.call (f 306) [(t 12),(t 14)]),
a 10 15,
o 16 (.extract 0 (t 10)),
o 17 (.extract 1 (t 10)),
a 6 16,
a 7 17])
(s (r [a 18 6,
o 19 (.conv .u64 (t 18)),
a 20 7,
o 21 (.conv .u64 (t 20)),
a 4 19,
a 5 21])
z))
k)
(s (r [a 23 0,
a 24 1,
o 25 (.call (f 307) [(t 23),(t 24)]),
a 22 25,
o 26 (.extract 0 (t 22)),
o 27 (.extract 1 (t 22)),
a 8 26,
a 9 27])
(s (r [a 28 8,
a 29 9,
a 4 28,
a 5 29])
z))))⟩

def ir294 : IFunc := ⟨[.tmp 4],
(s (r [o 4 (.mv (c .nilIface))])
(s (r [a 5 0,
o 6 (.call (f 276) [(t 5)])])
(s (r [a 7 0,
a 8 0,
o 9 (.nilCheck (t 8)),
p 10 1 9,
l 11 10,
a 12 1,
o 13 (.buildSlice 1 [(.int .u8 0)] [(0,1,(t 12))]),
o 14 (.append 5 1 1 (t 11) (t 13)),
o 15 (.nilCheck (t 7)),
p 16 1 15,
q (.store 1 (t 16) (t 14))])
(s (r [o 4 (.mv (c .nilIface))])
z))))⟩

def ir295 : IFunc := ⟨[.tmp 2],
(s (r [o 2 (.mv (c (.string ⟨#[]⟩)))])
(s (r [a 3 0,
o 4 (.call (f 308) [(t 3),(i 10)]),
a 2 4])
z))⟩

def ir296 : IFunc := ⟨[.cellN 6 5,.cell1 7],
(s (r [o 3 (.box 4 (t 0)),
o 4 (.box 1 (t 1)),
o 5 (.box 1 (t 2)),
o 6 (.mk 377 [(.int .i64 0),(.int .i64 0),(.bool false),(.int .i64 0),(.bool false)]),
o 7 (.mk 4 [(.bool false)])])
(s (s (r [o 9 (.loadN 4 (t 3)),
o 10 (.mkfn (.func 309) [(t 9)] [])])
(b 0 (.rangeFunc (t 10) [11] (r [o 8 (.mk 377 [(.int .i64 0),(.int .i64 0),(.bool false),(.int .i64 0),(.bool false)]),
q (.store 5 (t 8) (t 11))])
(b 1 (s (r [p 12 0 8,
l 13 12,
l 14 4,
o 15 (N .eql (t 13) (t 14)),
a 16 15,
g 17 16 true (.faddr 1 (t 8)),
g 18 16 true (.load1 (t 17)),
g 19 16 true (.load1 (t 5)),
g 20 16 true (N .eql (t 18) (t 19)),
o 21 (.pick (t 16) (t 20) n)])
(w (t 21) (s (r [o 22 (.loadN 5 (t 8)),
q (.store 5 (t 6) (t 22)),
q (.store 1 (t 7) y)])
z)
k))))))
(s (r [o 23 (.build [(.int .i64 0),(.int .i64 0),(.bool false),(.int .i64 0),(.bool false)] []),
q (.store 5 (t 6) (t 23)),
q (.store 1 (t 7) n)])
z)))⟩

def ir297 : IFunc := ⟨[],
(s (r [o 2 (.box 5 (t 0)),
o 3 (.box 1 (t 1))])
(s (d [u 2 (o 9 (.loadN 5 (t 2))) [],
u 3 (p 10 2 2) [],
u 4 (p 11 1 10) [],
u 5 (l 12 11) [2],
u 6 (o 13 (.call (f 311) [(t 9),(t 12)])) [],
u 0 (o 7 (.loadN 5 (t 2))) [0,1,4],
u 1 (o 8 (.mkfn (.func 310) [(t 7)] [])) [],
u 7 (o 14 (.buildSlice 2 [.nilFunc,.nilFunc] [(0,1,(t 8)),(1,1,(t 13))])) [],
u 8 (o 15 (.len (t 14))) [],
u 9 (o 16 (.mv (i 0))) []])
(b 0 (lo (s (r [o 17 (N .lss (t 16) (t 15))])
(s (w (t 17) k
(e 0))
(s (b 1 (s (r [o 18 (.idxS 1 (t 14) (t 16)),
l 19 18,
a 5 19])
(s (r [a 20 5])
(b 2 (.rangeFunc (t 20) [21] (r [o 6 (.mk 47 [(.int .i64 0),(.int .i64 0),(.int .u8 0),(.int .i64 0)]),
q (.store 4 (t 6) (t 21))])
(b 3 (s (r [l 22 3,
o 23 (.loadN 4 (t 6)),
o 24 (.call (t 22) [(t 23)]),
o 25 (.not (t 24))])
(w (t 25) z
k))))))))
(r [o 26 (N .add (t 16) (i 1)),
a 16 26]))))))))⟩

def ir302 : IFunc := ⟨[],
(s (r [o 7 (.mkmap),
a 4 7])
(s (r [l 8 1,
o 9 (.call (f 58) [(t 8)]),
a 5 9])
(b 0 (lo (s (s (r [a 10 5,
o 11 (.len (t 10)),
o 12 (N .gtr (t 11) (i 0))])
(w (t 12) k
(e 0)))
(s (b 1 (s (r [a 15 5,
o 16 (.idxS 1 (t 15) (i 0)),
l 17 16,
a 6 17])
(s (s (r [a 18 4,
a 19 6,
o 20 (.lookup (.sc .num) (.bool false) false (t 18) (t 19))])
(w (t 20) (e 1)
k))
(s (r [a 21 4,
a 22 6,
q (.insert (.sc .num) (t 21) (t 22) y)])
(s (s (r [a 23 0,
l 24 2,
o 25 (.nilCheck (t 24)),
p 26 0 25,
l 27 26,
a 28 6,
o 29 (.idxS 3 (t 27) (t 28)),
o 30 (.loadN 3 (t 29)),
o 31 (.call (t 23) [(t 30)]),
o 32 (.not (t 31))])
(w (t 32) z
k))
(r [a 33 5,
l 34 2,
o 35 (.nilCheck (t 34)),
p 36 0 35,
l 37 36,
a 38 6,
o 39 (.idxS 3 (t 37) (t 38)),
p 40 1 39,
l 41 40,
o 42 (.append 3 1 8 (t 33) (t 41)),
a 5 42]))))))
(r [a 13 5,
o 14 (.sliceS 1 (t 13) (some (i 1)) none none),
a 5 14])))))))⟩

def ir303 : IFunc := ⟨[],
(s (r [o 10 (.mv y)])
(s (r [o 11 (.mv y)])
(b 0 (lo (b 1 (s (r [a 21 2,
a 22 1,
o 23 (N .sub (t 21) (t 22)),
a 12 23])
(s (s (r [a 24 12,
o 25 (N .leq (t 24) (i 12))])
(w (t 25) (s (r [a 26 0,
a 27 1,
a 28 2,
a 29 4,
o 30 (.call (f 313) [(t 26),(t 27),(t 28),(t 29)])])
z)
k))
(s (s (r [a 31 3,
o 32 (N .eql (t 31) (i 0))])
(w (t 32) (s (r [a 33 0,
a 34 1,
a 35 2,
a 36 4,
o 37 (.call (f 314) [(t 33),(t 34),(t 35),(t 36)])])
z)
k))
(s (s (r [a 38 10,
o 39 (.not (t 38))])
(w (t 39) (s (r [a 40 0,
a 41 1,
a 42 2,
a 43 4,
o 44 (.call (f 315) [(t 40),(t 41),(t 42),(t 43)])])
(r [a 45 3,
o 46 (N .sub (t 45) (i 1)),
a 3 46]))
k))
(s (r [a 48 0,
a 49 1,
a 50 2,
a 51 4,
o 52 (.call (f 316) [(t 48),(t 49),(t 50),(t 51)]),
a 47 52,
o 53 (.extract 0 (t 47)),
o 54 (.extract 1 (t 47)),
a 13 53,
a 14 54])
(s (s (r [a 55 14,
o 56 (N .eql (t 55) (i 2))])
(w (t 56) (s (r [a 57 0,
a 58 1,
a 59 2,
a 60 4,
o 61 (.call (f 317) [(t 57),(t 58),(t 59),(t 60)])])
(s (r [a 62 2,
o 63 (N .sub (t 62) (i 1)),
a 64 13,
a 65 1,
o 66 (N .sub (t 64) (t 65)),
o 67 (N .sub (t 63) (t 66)),
a 13 67])
(r [o 14 (.mv (i 1))])))
k))
(s (s (r [a 68 10,
a 69 68,
g 70 69 true (.mv (t 11)),
o 71 (.pick (t 69) (t 70) n),
a 72 71,
g 73 72 true (.mv (t 14)),
g 74 72 true (N .eql (t 73) (i 1)),
o 75 (.pick (t 72) (t 74) n)])
(w (t 75) (s (r [a 76 0,
a 77 1,
a 78 2,
a 79 4,
o 80 (.call (f 318) [(t 76),(t 77),(t 78),(t 79)])])
(w (t 80) z
k))
k))
(s (s (d [u 0 (a 81 1) [],
u 1 (o 82 (N .gtr (t 81) (i 0))) [],
u 2 (a 83 82) [],
u 3 (g 84 83 true (.mv (t 4))) [],
u 4 (g 85 83 true (.mv (t 0))) [],
u 5 (g 86 83 true (.mv (t 1))) [],
u 6 (g 87 83 true (N .sub (t 86) (i 1))) [],
u 7 (g 88 83 true (.idxS 5 (t 85) (t 87))) [],
u 8 (g 89 83 true (.loadN 5 (t 88))) [],
u 9 (g 90 83 true (.mv (t 0))) [],
u 10 (g 91 83 true (.mv (t 13))) [],
u 11 (g 92 83 true (.idxS 5 (t 90) (t 91))) [],
u 12 (g 93 83 true (.loadN 5 (t 92))) [3],
u 13 (g 94 83 true (.call (t 84) [(t 89),(t 93)])) [],
u 14 (g 95 83 true (N .lss (t 94) (i 0))) [],
u 15 (g 96 83 true (.not (t 95))) [],
u 16 (o 97 (.pick (t 83) (t 96) n)) []])
(w (t 97) (s (r [a 98 0,
a 99 1,
a 100 2,
a 101 13,
a 102 4,
o 103 (.call (f 319) [(t 98),(t 99),(t 100),(t 101),(t 102)]),
a 15 103])
(s (r [a 104 15,
a 1 104])
(e 1)))
k))
(s (r [a 106 0,
a 107 1,
a 108 2,
a 109 13,
a 110 4,
o 111 (.call (f 320) [(t 106),(t 107),(t 108),(t 109),(t 110)]),
a 105 111,
o 112 (.extract 0 (t 105)),
o 113 (.extract 1 (t 105)),
a 16 112,
a 17 113])
(s (r [a 114 17,
a 11 114])
(s (r [a 115 16,
a 116 1,
o 117 (N .sub (t 115) (t 116)),
a 118 2,
a 119 16,
o 120 (N .sub (t 118) (t 119)),
a 18 117,
a 19 120])
(s (r [a 121 12,
o 122 (N .quo (t 121) (i 8)),
a 20 122])
(s (r [a 123 18,
a 124 19,
o 125 (N .lss (t 123) (t 124))])
(w (t 125) (s (r [a 126 18,
a 127 20,
o 128 (N .geq (t 126) (t 127)),
a 10 128])
(s (r [a 129 0,
a 130 1,
a 131 16,
a 132 3,
a 133 4,
o 134 (.call (f 303) [(t 129),(t 130),(t 131),(t 132),(t 133)])])
(r [a 135 16,
o 136 (N .add (t 135) (i 1)),
a 1 136])))
(s (r [a 137 19,
a 138 20,
o 139 (N .geq (t 137) (t 138)),
a 10 139])
(s (r [a 140 0,
a 141 16,
o 142 (N .add (t 141) (i 1)),
a 143 2,
a 144 3,
a 145 4,
o 146 (.call (f 303) [(t 140),(t 142),(t 143),(t 144),(t 145)])])
(r [a 147 16,
a 2 147]))))))))))))))))))))))⟩

def ir304 : IFunc := ⟨[.tmp 4],
(s (r [o 2 (.box 4 (t 0)),
o 3 (.box 4 (t 1)),
o 4 (.mv (i 0))])
(s (b 0 (s (r [o 6 (.loadN 4 (t 2)),
o 7 (.loadN 4 (t 3)),
o 8 (.call (f 85) [(t 6),(t 7)]),
a 5 8])
(w (t 5) (s (r [o 4 (.mv (i (-1)))])
z)
(s (r [o 10 (.loadN 4 (t 3)),
o 11 (.loadN 4 (t 2)),
o 12 (.call (f 85) [(t 10),(t 11)]),
a 9 12])
(w (t 9) (s (r [o 4 (.mv (i 1))])
z)
k)))))
(s (r [o 4 (.mv (i 0))])
z)))⟩

def ir305 : IFunc := ⟨[.tmp 2],
(s (r [o 2 (.mv (c (.string ⟨#[]⟩)))])
(s (s (r [a 3 0])
(w (t 3) (s (r [o 2 (.mv (c (.string ⟨#[116,114,117,101]⟩)))])
z)
k))
(s (r [o 2 (.mv (c (.string ⟨#[102,97,108,115,101]⟩)))])
z)))⟩

def ir307 : IFunc := ⟨[.tmp 4,.tmp 5],
(s (r [o 4 (.mv (c (.int .u64 0))),
o 5 (.mv (c (.int .u64 0)))])
(s (r [a 14 0,
o 15 (N .and (t 14) (c (.int .u64 4294967295))),
a 6 15])
(s (r [a 16 0,
o 17 (N .shr (t 16) (c (.int .u64 32))),
a 7 17])
(s (r [a 18 1,
o 19 (N .and (t 18) (c (.int .u64 4294967295))),
a 8 19])
(s (r [a 20 1,
o 21 (N .shr (t 20) (c (.int .u64 32))),
a 9 21])
(s (r [a 22 6,
a 23 8,
o 24 (N .mul (t 22) (t 23)),
a 10 24])
(s (r [a 25 7,
a 26 8,
o 27 (N .mul (t 25) (t 26)),
a 28 10,
o 29 (N .shr (t 28) (c (.int .u64 32))),
o 30 (N .add (t 27) (t 29)),
a 11 30])
(s (r [a 31 11,
o 32 (N .and (t 31) (c (.int .u64 4294967295))),
a 12 32])
(s (r [a 33 11,
o 34 (N .shr (t 33) (c (.int .u64 32))),
a 13 34])
(s (r [a 35 12,
a 36 6,
a 37 9,
o 38 (N .mul (t 36) (t 37)),
o 39 (N .add (t 35) (t 38)),
a 12 39])
(s (r [a 40 7,
a 41 9,
o 42 (N .mul (t 40) (t 41)),
a 43 13,
o 44 (N .add (t 42) (t 43)),
a 45 12,
o 46 (N .shr (t 45) (c (.int .u64 32))),
o 47 (N .add (t 44) (t 46)),
a 4 47])
(s (r [a 48 0,
a 49 1,
o 50 (N .mul (t 48) (t 49)),
a 5 50])
z))))))))))))⟩

def ir308 : IFunc := ⟨[.tmp 4],
(s (r [o 4 (.mv (c (.string ⟨#[]⟩)))])
(s (s (r [a 10 1,
o 11 (N .eql (t 10) (i 10))])
(w (t 11) (s (s (r [a 12 0,
o 13 (N .leq (i 0) (t 12)),
a 14 13,
g 15 14 true (.mv (t 0)),
g 16 14 true (N .lss (t 15) (i 100)),
o 17 (.pick (t 14) (t 16) n)])
(w (t 17) (s (r [a 18 0,
o 19 (.call (f 321) [(t 18)]),
a 4 19])
z)
k))
(s (r [o 5 (.mk 419 [(.int .u8 0),(.int .u8 0),(.int .u8 0),(.int .u8 0),(.int .u8 0),(.int .u8 0),(.int .u8 0),(.int .u8 0),(.int .u8 0),(.int .u8 0),(.int .u8 0),(.int .u8 0),(.int .u8 0),(.int .u8 0),(.int .u8 0),(.int .u8 0),(.int .u8 0),(.int .u8 0),(.int .u8 0),(.int .u8 0),(.int .u8 0),(.int .u8 0),(.int .u8 0),(.int .u8 0)])])
(s (r [a 20 0,
o 21 (.conv .u64 (t 20)),
a 6 21])
(s (s (r [a 22 0,
o 23 (N .lss (t 22) (i 0))])
(w (t 23) (r [a 24 6,
o 25 (.neg (t 24)),
a 6 25])
k))
(s (r [a 26 6,
o 27 (.call (f 322) [(t 26)]),
a 7 27])
(s (r [a 28 7,
o 29 (N .add (i 1) (t 28)),
o 30 (.sliceA 24 1 (t 5) (some (i 1)) (some (t 29)) none),
a 31 6,
o 32 (.call (f 323) [(t 30),(t 31)])])
(s (s (r [a 33 0,
o 34 (N .lss (t 33) (i 0))])
(w (t 34) (s (r [o 35 (.idxA 24 1 (t 5) (i 0)),
q (.store 1 (t 35) (c (.int .u8 45)))])
(s (r [a 36 7,
o 37 (N .add (i 1) (t 36)),
o 38 (.sliceA 24 1 (t 5) none (some (t 37)) none),
o 39 (.toStr (t 38)),
a 4 39])
z))
k))
(s (r [a 40 7,
o 41 (N .add (i 1) (t 40)),
o 42 (.sliceA 24 1 (t 5) (some (i 1)) (some (t 41)) none),
o 43 (.toStr (t 42)),
a 4 43])
z))))))))
k))
(s (r [a 45 0,
o 46 (.conv .u64 (t 45)),
a 47 1,
a 48 0,
o 49 (N .lss (t 48) (i 0)),
o 50 (.call (f 324) [(c (.slice none 0 0)),(t 46),(t 47),(t 49),n]),
a 44 50,
o 51 (.extract 0 (t 44)),
o 52 (.extract 1 (t 44)),
a 8 51,
a 9 52])
(s (r [a 53 9,
a 4 53])
z))))⟩

def ir309 : IFunc := ⟨[],
(s (r [o 2 (.box 4 (t 0))])
(s (s (r [a 8 1,
p 9 0 2,
p 10 1 9,
o 11 (.loadN 2 (t 10)),
p 12 0 2,
p 13 3 12,
l 14 13,
o 15 (.build [(.int .i64 0),(.int .i64 0),(.bool false),(.int .i64 0),(.bool false)] [(0,1,(i 0)),(1,1,(i 0)),(2,2,(t 11)),(4,1,(t 14))]),
o 16 (.call (t 8) [(t 15)]),
o 17 (.not (t 16))])
(w (t 17) z
k))
(s (r [p 18 0 2,
p 19 0 18,
l 20 19,
o 21 (.len (t 20)),
o 22 (.mv (i 0))])
(b 0 (lo (s (r [o 23 (N .lss (t 22) (t 21))])
(s (w (t 23) k
(e 0))
(s (b 1 (s (r [a 24 22,
o 25 (.idxS 3 (t 20) (t 22)),
o 26 (.loadN 3 (t 25)),
o 5 (.mk 59 [(.slice none 0 0),(.bool false),(.int .i64 0)]),
a 4 24,
q (.store 3 (t 5) (t 26))])
(s (s (r [a 27 1,
a 28 4,
o 29 (N .add (t 28) (i 1)),
p 30 1 5,
o 31 (.loadN 2 (t 30)),
p 32 0 2,
p 33 3 32,
l 34 33,
a 35 34,
g 36 35 false (.faddr 0 (t 5)),
g 37 35 false (.load1 (t 36)),
g 38 35 false (.len (t 37)),
g 39 35 false (N .gtr (t 38) (i 0)),
o 40 (.pick (t 35) y (t 39)),
o 41 (.build [(.int .i64 0),(.int .i64 0),(.bool false),(.int .i64 0),(.bool false)] [(0,1,(t 29)),(1,1,(i 0)),(2,2,(t 31)),(4,1,(t 40))]),
o 42 (.call (t 27) [(t 41)]),
o 43 (.not (t 42))])
(w (t 43) z
k))
(s (r [p 44 0 5,
l 45 44,
o 46 (.len (t 45)),
o 47 (.mv (i 0))])
(b 2 (lo (s (r [o 48 (N .lss (t 47) (t 46))])
(s (w (t 48) k
(e 2))
(s (b 3 (s (r [a 49 47,
o 50 (.idxS 2 (t 45) (t 47)),
o 51 (.loadN 2 (t 50)),
o 7 (.mk 27 [(.bool false),(.int .i64 0)]),
a 6 49,
q (.store 2 (t 7) (t 51))])
(s (r [a 52 1,
a 53 4,
o 54 (N .add (t 53) (i 1)),
a 55 6,
o 56 (N .add (t 55) (i 1)),
o 57 (.loadN 2 (t 7)),
o 58 (.build [(.int .i64 0),(.int .i64 0),(.bool false),(.int .i64 0),(.bool false)] [(0,1,(t 54)),(1,1,(t 56)),(2,2,(t 57)),(4,1,y)]),
o 59 (.call (t 52) [(t 58)]),
o 60 (.not (t 59))])
(w (t 60) z
k))))
(r [o 61 (N .add (t 47) (i 1)),
a 47 61]))))))))))
(r [o 62 (N .add (t 22) (i 1)),
a 22 62])))))))))⟩

def ir310 : IFunc := ⟨[],
(s (r [o 2 (.box 5 (t 0))])
(s (s (r [a 5 1,
o 6 (.loadN 5 (t 2)),
o 7 (.call (f 325) [(t 6)]),
o 8 (.call (t 5) [(t 7)]),
o 9 (.not (t 8)),
a 10 9,
g 11 10 false (.faddr 2 (t 2)),
g 12 10 false (.faddr 0 (t 11)),
g 13 10 false (.load1 (t 12)),
g 14 10 false (.not (t 13)),
o 15 (.pick (t 10) y (t 14))])
(w (t 15) z
k))
(s (r [p 16 2 2,
p 17 1 16,
l 18 17,
o 19 (.mv (i 0))])
(b 0 (lo (s (r [o 20 (N .lss (t 19) (t 18))])
(s (w (t 20) k
(e 0))
(s (b 1 (s (r [a 21 19,
a 4 21])
(s (r [a 22 1,
o 23 (.loadN 5 (t 2)),
a 24 4,
o 25 (.call (f 326) [(t 23),(t 24)]),
o 26 (.call (t 22) [(t 25)]),
o 27 (.not (t 26))])
(w (t 27) z
k))))
(r [o 28 (N .add (t 19) (i 1)),
a 19 28])))))))))⟩

def ir311 : IFunc := ⟨[.tmp 4],
(s (r [o 2 (.box 5 (t 0)),
o 3 (.box 1 (t 1)),
o 4 (.mv (c .nilFunc))])
(s (r [o 5 (.mkfn (.func 327) [] [(t 2),(t 3)]),
a 4 5])
z))⟩

def ir313 : IFunc := ⟨[],
(s (r [a 10 1,
o 11 (N .add (t 10) (i 1)),
a 8 11])
(b 0 (lo (s (s (r [a 12 8,
a 13 2,
o 14 (N .lss (t 12) (t 13))])
(w (t 14) k
(e 0)))
(s (b 1 (s (r [a 17 8,
a 9 17])
(b 2 (lo (s (s (d [u 0 (a 18 9) [],
u 1 (a 19 1) [],
u 2 (o 20 (N .gtr (t 18) (t 19))) [],
u 3 (a 21 20) [],
u 4 (g 22 21 true (.mv (t 3))) [],
u 5 (g 23 21 true (.mv (t 0))) [],
u 6 (g 24 21 true (.mv (t 9))) [],
u 7 (g 25 21 true (.idxS 5 (t 23) (t 24))) [],
u 8 (g 26 21 true (.loadN 5 (t 25))) [],
u 9 (g 27 21 true (.mv (t 0))) [],
u 10 (g 28 21 true (.mv (t 9))) [],
u 11 (g 29 21 true (N .sub (t 28) (i 1))) [],
u 12 (g 30 21 true (.idxS 5 (t 27) (t 29))) [],
u 13 (g 31 21 true (.loadN 5 (t 30))) [4],
u 14 (g 32 21 true (.call (t 22) [(t 26),(t 31)])) [],
u 15 (g 33 21 true (N .lss (t 32) (i 0))) [],
u 16 (o 34 (.pick (t 21) (t 33) n)) []])
(w (t 34) k
(e 2)))
(s (b 3 (d [u 0 (a 37 0) [],
u 1 (a 38 9) [],
u 2 (a 39 0) [],
u 3 (a 40 9) [],
u 4 (o 41 (N .sub (t 40) (i 1))) [],
u 5 (a 42 0) [],
u 6 (a 43 9) [],
u 7 (o 44 (N .sub (t 43) (i 1))) [],
u 8 (o 45 (.idxS 5 (t 42) (t 44))) [],
u 9 (o 46 (.loadN 5 (t 45))) [],
u 10 (a 47 0) [],
u 11 (a 48 9) [],
u 12 (o 49 (.idxS 5 (t 47) (t 48))) [],
u 13 (o 50 (.loadN 5 (t 49))) [3],
u 14 (o 51 (.idxS 5 (t 37) (t 38))) [],
u 15 (q (.store 5 (t 51) (t 46))) [],
u 16 (o 52 (.idxS 5 (t 39) (t 41))) [],
u 17 (q (.store 5 (t 52) (t 50))) []]))
(r [a 35 9,
o 36 (N .sub (t 35) (i 1)),
a 9 36])))))))
(r [a 15 8,
o 16 (N .add (t 15) (i 1)),
a 8 16]))))))⟩

def ir321 : IFunc := ⟨[.tmp 2],
(s (r [o 2 (.mv (c (.string ⟨#[]⟩)))])
(s (s (r [a 3 0,
o 4 (N .lss (t 3) (i 10))])
(w (t 4) (s (r [a 5 0,
a 6 0,
o 7 (N .add (t 6) (i 1)),
o 8 (.sliceStr (c (.string ⟨#[48,49,50,51,52,53,54,55,56,57,97,98,99,100,101,102,103,104,105,106,107,108,109,110,111,112,113,114,115,116,117,118,119,120,121,122]⟩)) (some (t 5)) (some (t 7))),
a 2 8])
z)
k))
(s (r [a 9 0,
o 10 (N .mul (t 9) (i 2)),
a 11 0,
o 12 (N .mul (t 11) (i 2)),
o 13 (N .add (t 12) (i 2)),
o 14 (.sliceStr (c (.string ⟨#[48,48,48,49,48,50,48,51,48,52,48,53,48,54,48,55,48,56,48,57,49,48,49,49,49,50,49,51,49,52,49,53,49,54,49,55,49,56,49,57,50,48,50,49,50,50,50,51,50,52,50,53,50,54,50,55,50,56,50,57,51,48,51,49,51,50,51,51,51,52,51,53,51,54,51,55,51,56,51,57,52,48,52,49,52,50,52,51,52,52,52,53,52,54,52,55,52,56,52,57,53,48,53,49,53,50,53,51,53,52,53,53,53,54,53,55,53,56,53,57,54,48,54,49,54,50,54,51,54,52,54,53,54,54,54,55,54,56,54,57,55,48,55,49,55,50,55,51,55,52,55,53,55,54,55,55,55,56,55,57,56,48,56,49,56,50,56,51,56,52,56,53,56,54,56,55,56,56,56,57,57,48,57,49,57,50,57,51,57,52,57,53,57,54,57,55,57,56,57,57]⟩)) (some (t 10)) (some (t 13))),
a 2 14])
z)))⟩

def ir325 : IFunc := ⟨[.cellN 2 4],
(s (r [o 1 (.box 5 (t 0)),
o 2 (.mk 47 [(.int .i64 0),(.int .i64 0),(.int .u8 0),(.int .i64 0)])])
(s (r [p 3 0 1,
l 4 3,
p 5 1 1,
l 6 5,
o 7 (.build [(.int .i64 0),(.int .i64 0),(.int .u8 0),(.int .i64 0)] [(0,1,(t 4)),(1,1,(t 6)),(2,1,(c (.int .u8 1)))]),
q (.store 4 (t 2) (t 7))])
z))⟩

def ir327 : IFunc := ⟨[],
(s (s (r [p 5 4 1,
l 6 5,
a 7 6,
g 8 7 true (.mv (t 0)),
g 9 7 true (.loadN 5 (t 1)),
g 10 7 true (.call (f 328) [(t 9),(i (-1))]),
g 11 7 true (.call (t 8) [(t 10)]),
g 12 7 true (.not (t 11)),
o 13 (.pick (t 7) (t 12) n)])
(w (t 13) z
k))
(s (r [l 14 2,
o 15 (.mv (i 0))])
(b 0 (lo (s (r [o 16 (N .lss (t 15) (t 14))])
(s (w (t 16) k
(e 0))
(s (b 1 (s (r [a 17 15,
a 4 17])
(s (r [a 18 0,
o 19 (.loadN 5 (t 1)),
a 20 4,
o 21 (.call (f 328) [(t 19),(t 20)]),
o 22 (.call (t 18) [(t 21)]),
o 23 (.not (t 22))])
(w (t 23) z
k))))
(r [o 24 (N .add (t 15) (i 1)),
a 15 24]))))))))⟩

def ir328 : IFunc := ⟨[.cellN 4 4],
(s (r [o 2 (.box 5 (t 0)),
o 4 (.mk 47 [(.int .i64 0),(.int .i64 0),(.int .u8 0),(.int .i64 0)])])
(s (r [p 5 0 2,
l 6 5,
p 7 1 2,
l 8 7,
a 9 1,
o 10 (.build [(.int .i64 0),(.int .i64 0),(.int .u8 0),(.int .i64 0)] [(0,1,(t 6)),(1,1,(t 8)),(2,1,(c (.int .u8 3))),(3,1,(t 9))]),
q (.store 4 (t 4) (t 10))])
z))⟩


end Go.Fl

namespace Go.Fl
open Go.Ak

def tab : Trie IFunc := (.node (.node (.node (.node (.node (.node (.node (.node (.node .leaf (some ir255) .leaf) (some ir127) .leaf) (some ir63) (.node .leaf (some ir191) .leaf)) (some ir31) (.node (.node (.node .leaf (some ir287) .leaf) (some ir159) .leaf) (some ir95) (.node .leaf (some ir223) .leaf))) (some ir15) (.node (.node (.node (.node .leaf (some ir271) .leaf) (some ir143) .leaf) (some ir79) (.node .leaf (some ir207) .leaf)) (some ir47) (.node (.node (.node .leaf (some ir303) .leaf) (some ir175) .leaf) (some ir111) (.node .leaf (some ir239) .leaf)))) (some ir7) (.node (.node (.node (.node (.node .leaf (some ir263) .leaf) (some ir135) .leaf) (some ir71) (.node (.node .leaf (some ir327) .leaf) (some ir199) .leaf)) (some ir39) (.node (.node (.node .leaf (some ir295) .leaf) (some ir167) .leaf) (some ir103) (.node .leaf (some ir231) .leaf))) (some ir23) (.node (.node (.node .leaf (some ir151) .leaf) (some ir87) (.node .leaf (some ir215) .leaf)) (some ir55) (.node (.node (.node .leaf (some ir311) .leaf) none .leaf) (some ir119) (.node .leaf (some ir247) .leaf))))) (some ir3) (.node (.node (.node (.node (.node .leaf (some ir131) .leaf) (some ir67) (.node .leaf (some ir195) .leaf)) (some ir35) (.node (.node (.node .leaf (some ir291) .leaf) (some ir163) .leaf) (some ir99) .leaf)) (some ir19) (.node (.node (.node (.node .leaf (some ir275) .leaf) (some ir147) .leaf) (some ir83) (.node .leaf (some ir211) .leaf)) (some ir51) (.node (.node (.node .leaf (some ir307) .leaf) (some ir179) .leaf) (some ir115) (.node .leaf (some ir243) .leaf)))) (some ir11) (.node (.node (.node (.node (.node .leaf (some ir267) .leaf) (some ir139) .leaf) (some ir75) (.node .leaf (some ir203) .leaf)) (some ir43) (.node .leaf (some ir107) (.node .leaf (some ir235) .leaf))) (some ir27) (.node (.node (.node (.node .leaf (some ir283) .leaf) (some ir155) .leaf) (some ir91) (.node .leaf (some ir219) .leaf)) (some ir59) (.node .leaf (some ir123) (.node .leaf (some ir251) .leaf)))))) none (.node (.node (.node (.node (.node (.node (.node .leaf (some ir257) .leaf) none .leaf) (some ir65) (.node (.node .leaf (some ir321) .leaf) (some ir193) .leaf)) (some ir33) (.node (.node (.node .leaf (some ir289) .leaf) (some ir161) .leaf) (some ir97) (.node .leaf (some ir225) .leaf))) (some ir17) (.node (.node (.node (.node .leaf (some ir273) .leaf) (some ir145) .leaf) (some ir81) (.node .leaf (some ir209) .leaf)) (some ir49) (.node (.node (.node .leaf (some ir305) .leaf) (some ir177) .leaf) (some ir113) (.node .leaf (some ir241) .leaf)))) (some ir9) (.node (.node (.node (.node (.node .leaf (some ir265) .leaf) (some ir137) .leaf) (some ir73) (.node .leaf (some ir201) .leaf)) (some ir41) (.node (.node (.node .leaf (some ir297) .leaf) none .leaf) (some ir105) (.node .leaf (some ir233) .leaf))) (some ir25) (.node (.node (.node .leaf (some ir153) .leaf) (some ir89) (.node .leaf (some ir217) .leaf)) (some ir57) (.node (.node (.node .leaf (some ir313) .leaf) none .leaf) (some ir121) (.node .leaf (some ir249) .leaf))))) (some ir5) (.node (.node (.node (.node (.node (.node .leaf (some ir261) .leaf) (some ir133) .leaf) (some ir69) (.node (.node .leaf (some ir325) .leaf) (some ir197) .leaf)) (some ir37) (.node (.node (.node .leaf (some ir293) .leaf) (some ir165) .leaf) (some ir101) .leaf)) (some ir21) (.node (.node (.node (.node .leaf (some ir277) .leaf) (some ir149) .leaf) (some ir85) .leaf) (some ir53) (.node (.node (.node .leaf (some ir309) .leaf) none .leaf) (some ir117) (.node .leaf (some ir245) .leaf)))) (some ir13) (.node (.node (.node (.node (.node .leaf (some ir269) .leaf) (some ir141) .leaf) (some ir77) (.node .leaf (some ir205) .leaf)) (some ir45) (.node (.node .leaf (some ir173) .leaf) (some ir109) (.node .leaf (some ir237) .leaf))) (some ir29) (.node (.node (.node .leaf (some ir157) .leaf) (some ir93) (.node .leaf (some ir221) .leaf)) (some ir61) (.node (.node .leaf (some ir189) .leaf) none (.node .leaf (some ir253) .leaf))))))) none (.node (.node (.node (.node (.node (.node (.node (.node .leaf (some ir256) .leaf) (some ir128) .leaf) (some ir64) (.node .leaf (some ir192) .leaf)) (some ir32) (.node (.node (.node .leaf (some ir288) .leaf) (some ir160) .leaf) (some ir96) (.node .leaf (some ir224) .leaf))) (some ir16) (.node (.node (.node (.node .leaf (some ir272) .leaf) (some ir144) .leaf) (some ir80) (.node .leaf (some ir208) .leaf)) (some ir48) (.node (.node (.node .leaf (some ir304) .leaf) (some ir176) .leaf) (some ir112) (.node .leaf (some ir240) .leaf)))) (some ir8) (.node (.node (.node (.node .leaf (some ir136) .leaf) (some ir72) (.node (.node .leaf (some ir328) .leaf) (some ir200) .leaf)) (some ir40) (.node (.node (.node .leaf (some ir296) .leaf) none .leaf) (some ir104) (.node .leaf (some ir232) .leaf))) (some ir24) (.node (.node (.node .leaf (some ir152) .leaf) (some ir88) (.node .leaf (some ir216) .leaf)) (some ir56) (.node .leaf (some ir120) (.node .leaf (some ir248) .leaf))))) (some ir4) (.node (.node (.node (.node (.node (.node .leaf (some ir260) .leaf) (some ir132) .leaf) (some ir68) (.node .leaf (some ir196) .leaf)) (some ir36) (.node (.node (.node .leaf (some ir292) .leaf) (some ir164) .leaf) (some ir100) .leaf)) (some ir20) (.node (.node (.node (.node .leaf (some ir276) .leaf) (some ir148) .leaf) (some ir84) .leaf) (some ir52) (.node (.node (.node .leaf (some ir308) .leaf) (some ir180) .leaf) (some ir116) (.node .leaf (some ir244) .leaf)))) (some ir12) (.node (.node (.node (.node (.node .leaf (some ir268) .leaf) (some ir140) .leaf) (some ir76) (.node .leaf (some ir204) .leaf)) (some ir44) (.node (.node .leaf (some ir172) .leaf) (some ir108) (.node .leaf (some ir236) .leaf))) (some ir28) (.node (.node (.node .leaf (some ir156) .leaf) (some ir92) (.node .leaf (some ir220) .leaf)) (some ir60) (.node .leaf (some ir124) (.node .leaf (some ir252) .leaf)))))) none (.node (.node (.node (.node (.node (.node (.node .leaf (some ir258) .leaf) (some ir130) .leaf) (some ir66) (.node .leaf (some ir194) .leaf)) (some ir34) (.node (.node (.node .leaf (some ir290) .leaf) (some ir162) .leaf) (some ir98) .leaf)) (some ir18) (.node (.node (.node (.node .leaf (some ir274) .leaf) (some ir146) .leaf) (some ir82) (.node .leaf (some ir210) .leaf)) (some ir50) (.node (.node .leaf (some ir178) .leaf) (some ir114) .leaf))) (some ir10) (.node (.node (.node (.node (.node .leaf (some ir266) .leaf) (some ir138) .leaf) (some ir74) (.node .leaf (some ir202) .leaf)) (some ir42) (.node .leaf (some ir106) .leaf)) (some ir26) (.node (.node (.node .leaf (some ir154) .leaf) (some ir90) .leaf) (some ir58) (.node .leaf none (.node .leaf (some ir250) .leaf))))) (some ir6) (.node (.node (.node (.node (.node (.node .leaf (some ir262) .leaf) (some ir134) .leaf) (some ir70) (.node .leaf (some ir198) .leaf)) (some ir38) (.node (.node (.node .leaf (some ir294) .leaf) (some ir166) .leaf) (some ir102) .leaf)) (some ir22) (.node (.node (.node .leaf (some ir150) .leaf) (some ir86) .leaf) (some ir54) (.node (.node (.node .leaf (some ir310) .leaf) none .leaf) (some ir118) .leaf))) (some ir14) (.node (.node (.node (.node (.node .leaf (some ir270) .leaf) (some ir142) .leaf) (some ir78) (.node .leaf (some ir206) .leaf)) (some ir46) (.node (.node (.node .leaf (some ir302) .leaf) (some ir174) .leaf) (some ir110) (.node .leaf (some ir238) .leaf))) (some ir30) (.node (.node (.node (.node .leaf (some ir286) .leaf) (some ir158) .leaf) (some ir94) (.node .leaf (some ir222) .leaf)) (some ir62) (.node (.node .leaf (some ir190) .leaf) none (.node .leaf (some ir254) .leaf))))))))

end Go.Fl
