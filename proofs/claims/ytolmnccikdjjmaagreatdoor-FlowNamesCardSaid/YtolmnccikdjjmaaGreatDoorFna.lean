/-
  Functions in their own form, part 1.
-/
import Derived.Test.YtolmnccikdjjmaaGreatDoorAkG
namespace Go.Fl
open Go.Ak Go.Ak.S
set_option maxRecDepth 100000

def ir3 : IFunc := ⟨[.tmp 0],
(s (r [o 0 (.mv n)])
(s (r [o 26 (.call (f 5) [(c (.string ⟨#[120,49]⟩))]),
o 27 (.buildSlice 1 [(.int .i64 0)] [(0,1,(i 3))]),
o 28 (.call (f 4) [(t 26),(t 27)]),
a 25 28,
o 29 (.extract 0 (t 25)),
o 30 (.extract 1 (t 25)),
a 1 29,
a 2 30])
(s (r [o 32 (.call (f 5) [(c (.string ⟨#[120,49]⟩))]),
o 33 (.buildSlice 1 [(.int .i64 0)] [(0,1,(i 1))]),
o 34 (.call (f 6) [(t 32),(t 33)]),
a 31 34,
o 35 (.extract 0 (t 31)),
o 36 (.extract 1 (t 31)),
o 3 (.mk 41 [(.slice none 0 0),(.slice none 0 0),(.slice none 0 0),(.int .i64 0)]),
q (.store 4 (t 3) (t 35)),
a 4 36])
(s (r [o 38 (.call (f 5) [(c (.string ⟨#[97,100,100,47,50,40,120,49,44,120,51,41]⟩))]),
o 39 (.buildSlice 2 [(.int .i64 0),(.int .i64 0)] [(0,1,(i 1)),(1,1,(i 3))]),
o 40 (.call (f 7) [(t 38),(t 39)]),
a 37 40,
o 41 (.extract 0 (t 37)),
o 42 (.extract 1 (t 37)),
a 5 41,
a 6 42])
(s (r [o 44 (.call (f 5) [(c (.string ⟨#[120,49]⟩))]),
o 45 (.buildSlice 1 [(.int .i64 0)] [(0,1,(i 3))]),
o 46 (.call (f 6) [(t 44),(t 45)]),
a 43 46,
o 47 (.extract 0 (t 43)),
o 48 (.extract 1 (t 43)),
o 7 (.mk 41 [(.slice none 0 0),(.slice none 0 0),(.slice none 0 0),(.int .i64 0)]),
q (.store 4 (t 7) (t 47)),
a 8 48])
(s (s (r [a 49 2,
o 50 (N .neq (t 49) (i 0)),
a 51 50,
g 52 51 false (.mv (t 1)),
o 53 (.pick (t 51) y (t 52)),
a 54 53,
g 55 54 false (.mv (t 4)),
g 56 54 false (N .neq (t 55) (i 0)),
o 57 (.pick (t 54) y (t 56)),
a 58 57,
g 59 58 false (.faddr 3 (t 3)),
g 60 58 false (.load1 (t 59)),
g 61 58 false (N .neq (t 60) (i 1)),
o 62 (.pick (t 58) y (t 61)),
a 63 62,
g 64 63 false (.faddr 2 (t 3)),
g 65 63 false (.load1 (t 64)),
g 66 63 false (.len (t 65)),
g 67 63 false (N .neq (t 66) (i 2)),
o 68 (.pick (t 63) y (t 67)),
a 69 68,
g 70 69 false (.faddr 2 (t 3)),
g 71 69 false (.load1 (t 70)),
g 72 69 false (.idxS 4 (t 71) (i 1)),
g 73 69 false (.faddr 3 (t 72)),
g 74 69 false (.load1 (t 73)),
g 75 69 false (N .neq (t 74) (i 0)),
o 76 (.pick (t 69) y (t 75)),
a 77 76,
g 78 77 false (.faddr 0 (t 3)),
g 79 77 false (.load1 (t 78)),
g 80 77 false (.buildSlice 1 [(.int .i64 0)] [(0,1,(i 0))]),
g 81 77 false (.call (f 8) [(t 79),(t 80)]),
g 82 77 false (.not (t 81)),
o 83 (.pick (t 77) y (t 82)),
a 84 83,
g 85 84 false (.faddr 1 (t 3)),
g 86 84 false (.load1 (t 85)),
g 87 84 false (.buildSlice 1 [(.int .i64 0)] [(0,1,(i 1))]),
g 88 84 false (.call (f 8) [(t 86),(t 87)]),
g 89 84 false (.not (t 88)),
o 90 (.pick (t 84) y (t 89)),
a 91 90,
g 92 91 false (.mv (t 6)),
g 93 91 false (N .neq (t 92) (i 0)),
o 94 (.pick (t 91) y (t 93)),
a 95 94,
g 96 95 false (.mv (t 5)),
g 97 95 false (.buildSlice 2 [(.int .i64 0),(.int .i64 0)] [(0,1,(i 1)),(1,1,(i 3))]),
g 98 95 false (.call (f 8) [(t 96),(t 97)]),
g 99 95 false (.not (t 98)),
o 100 (.pick (t 95) y (t 99)),
a 101 100,
g 102 101 false (.mv (t 8)),
g 103 101 false (N .neq (t 102) (i 7)),
o 104 (.pick (t 101) y (t 103))])
(w (t 104) (s (r [o 0 (.mv n)])
z)
k))
(s (r [o 105 (.buildSlice 1 [(.int .i64 0)] [(0,1,(i 1))]),
o 106 (.call (f 9) [(c (.string ⟨#[120,49]⟩)),(t 105)]),
o 107 (.buildSlice 2 [(.int .i64 0),(.int .i64 0)] [(0,1,(i 1)),(1,1,(i 2))]),
o 108 (.call (f 9) [(c (.string ⟨#[115,101,113,40,105,102,40,120,49,44,61,50,40,48,47,50,41,44,48,47,49,41,44,33,50,41]⟩)),(t 107)]),
o 109 (.buildSlice 1 [(.int .i64 0)] [(0,1,(i 1))]),
o 110 (.call (f 9) [(c (.string ⟨#[115,101,113,40,105,102,40,120,49,44,61,50,40,48,47,50,41,44,48,47,49,41,44,33,50,41]⟩)),(t 109)]),
o 111 (.buildSlice 1 [(.int .i64 0)] [(0,1,(i 1))]),
o 112 (.call (f 9) [(c (.string ⟨#[110,101,119,47,50,47,48,40,115,101,113,40,61,52,40,120,49,41,44,33,52,41,41]⟩)),(t 111)]),
o 113 (.buildSlice 1 [(.int .i64 0)] [(0,1,(i 1))]),
o 114 (.call (f 9) [(c (.string ⟨#[115,101,113,40,119,104,105,108,101,40,120,49,44,48,47,49,41,44,48,47,50,41]⟩)),(t 113)]),
o 115 (.buildSlice 1 [(.int .i64 0)] [(0,1,(i 1))]),
o 116 (.call (f 9) [(c (.string ⟨#[108,97,98,101,108,40,115,101,113,40,105,102,40,120,49,44,106,117,109,112,47,48,44,48,47,49,41,44,48,47,50,41,44,49,47,50,41]⟩)),(t 115)]),
o 117 (.buildSlice 1 [(.int .i64 0)] [(0,1,(i 1))]),
o 118 (.call (f 9) [(c (.string ⟨#[115,101,113,40,105,102,40,120,49,44,104,97,110,103,44,48,47,49,41,44,48,47,50,41]⟩)),(t 117)]),
o 119 (.buildSlice 7 [(.slice none 0 0),(.bool false),(.int .i64 0),(.bool false),(.int .u8 0),(.int .i64 0),(.int .i64 0),(.int .i64 0),(.slice none 0 0),(.slice none 0 0),(.slice none 0 0),(.bool false),(.int .i64 0),(.bool false),(.int .u8 0),(.int .i64 0),(.int .i64 0),(.int .i64 0),(.slice none 0 0),(.slice none 0 0),(.slice none 0 0),(.bool false),(.int .i64 0),(.bool false),(.int .u8 0),(.int .i64 0),(.int .i64 0),(.int .i64 0),(.slice none 0 0),(.slice none 0 0),(.slice none 0 0),(.bool false),(.int .i64 0),(.bool false),(.int .u8 0),(.int .i64 0),(.int .i64 0),(.int .i64 0),(.slice none 0 0),(.slice none 0 0),(.slice none 0 0),(.bool false),(.int .i64 0),(.bool false),(.int .u8 0),(.int .i64 0),(.int .i64 0),(.int .i64 0),(.slice none 0 0),(.slice none 0 0),(.slice none 0 0),(.bool false),(.int .i64 0),(.bool false),(.int .u8 0),(.int .i64 0),(.int .i64 0),(.int .i64 0),(.slice none 0 0),(.slice none 0 0),(.slice none 0 0),(.bool false),(.int .i64 0),(.bool false),(.int .u8 0),(.int .i64 0),(.int .i64 0),(.int .i64 0),(.slice none 0 0),(.slice none 0 0)] [(0,10,(t 106)),(10,10,(t 108)),(20,10,(t 110)),(30,10,(t 112)),(40,10,(t 114)),(50,10,(t 116)),(60,10,(t 118))]),
a 9 119])
(s (s (r [o 10 (.mv (i 0))])
(b 0 (lo (s (s (r [a 120 10,
a 121 9,
o 122 (.len (t 121)),
o 123 (N .lss (t 120) (t 122))])
(w (t 123) k
(e 0)))
(s (b 1 (s (r [a 127 9,
a 128 10,
o 129 (.idxS 10 (t 127) (t 128)),
o 130 (.loadN 10 (t 129)),
o 131 (.call (f 10) [(t 130)]),
a 126 131,
o 132 (.extract 0 (t 126)),
o 133 (.extract 1 (t 126)),
a 11 132,
a 12 133])
(s (r [a 134 11,
a 135 134,
g 136 135 false (.mv (t 12)),
g 137 135 false (N .neq (t 136) (i 0)),
o 138 (.pick (t 135) y (t 137))])
(w (t 138) (s (r [o 0 (.mv n)])
z)
k))))
(r [a 124 10,
o 125 (N .add (t 124) (i 1)),
a 10 125]))))))
(s (r [o 139 (.buildSlice 2 [(.int .i64 0),(.int .i64 0)] [(0,1,(i 1)),(1,1,(i 2))]),
o 140 (.call (f 9) [(c (.string ⟨#[115,101,113,40,61,50,40,120,49,41,44,120,51,41]⟩)),(t 139)]),
o 141 (.buildSlice 1 [(.int .i64 0)] [(0,1,(i 1))]),
o 142 (.call (f 9) [(c (.string ⟨#[105,102,40,120,51,44,48,47,50,44,49,47,50,41]⟩)),(t 141)]),
o 143 (.buildSlice 1 [(.int .i64 0)] [(0,1,(i 1))]),
o 144 (.call (f 9) [(c (.string ⟨#[115,101,113,40,119,104,105,108,101,40,120,51,44,48,47,49,41,44,48,47,50,41]⟩)),(t 143)]),
o 145 (.call (f 9) [(c (.string ⟨#[120,49]⟩)),(c (.slice none 0 0))]),
o 146 (.buildSlice 4 [(.slice none 0 0),(.bool false),(.int .i64 0),(.bool false),(.int .u8 0),(.int .i64 0),(.int .i64 0),(.int .i64 0),(.slice none 0 0),(.slice none 0 0),(.slice none 0 0),(.bool false),(.int .i64 0),(.bool false),(.int .u8 0),(.int .i64 0),(.int .i64 0),(.int .i64 0),(.slice none 0 0),(.slice none 0 0),(.slice none 0 0),(.bool false),(.int .i64 0),(.bool false),(.int .u8 0),(.int .i64 0),(.int .i64 0),(.int .i64 0),(.slice none 0 0),(.slice none 0 0),(.slice none 0 0),(.bool false),(.int .i64 0),(.bool false),(.int .u8 0),(.int .i64 0),(.int .i64 0),(.int .i64 0),(.slice none 0 0),(.slice none 0 0)] [(0,10,(t 140)),(10,10,(t 142)),(20,10,(t 144)),(30,10,(t 145))]),
a 13 146])
(s (s (r [o 14 (.mv (i 0))])
(b 2 (lo (s (s (r [a 147 14,
a 148 13,
o 149 (.len (t 148)),
o 150 (N .lss (t 147) (t 149))])
(w (t 150) k
(e 2)))
(s (b 3 (s (r [a 154 13,
a 155 14,
o 156 (.idxS 10 (t 154) (t 155)),
o 157 (.loadN 10 (t 156)),
o 158 (.call (f 10) [(t 157)]),
a 153 158,
o 159 (.extract 0 (t 153)),
o 160 (.extract 1 (t 153)),
a 15 159,
a 16 160])
(s (r [a 161 15,
o 162 (.not (t 161)),
a 163 162,
g 164 163 false (.mv (t 16)),
g 165 163 false (N .neq (t 164) (i 0)),
o 166 (.pick (t 163) y (t 165))])
(w (t 166) (s (r [o 0 (.mv n)])
z)
k))))
(r [a 151 14,
o 152 (N .add (t 151) (i 1)),
a 14 152]))))))
(s (r [o 167 (.build [(.bool false),(.int .i64 0)] [(1,1,(i 64))]),
o 168 (.build [(.slice none 0 0),(.bool false),(.int .i64 0)] [(1,2,(t 167))]),
o 169 (.build [(.bool false),(.int .i64 0)] [(1,1,(i 2))]),
o 170 (.build [(.slice none 0 0),(.bool false),(.int .i64 0)] [(1,2,(t 169))]),
o 171 (.build [(.bool false),(.int .i64 0)] [(1,1,(i 2))]),
o 172 (.buildSlice 1 [(.bool false),(.int .i64 0)] [(0,2,(t 171))]),
o 173 (.build [(.bool false),(.int .i64 0)] [(1,1,(i 2))]),
o 174 (.build [(.slice none 0 0),(.bool false),(.int .i64 0)] [(0,1,(t 172)),(1,2,(t 173))]),
o 175 (.buildSlice 3 [(.slice none 0 0),(.bool false),(.int .i64 0),(.slice none 0 0),(.bool false),(.int .i64 0),(.slice none 0 0),(.bool false),(.int .i64 0)] [(0,3,(t 168)),(3,3,(t 170)),(6,3,(t 174))]),
o 176 (.build [(.bool false),(.int .i64 0)] [(1,1,(i 1))]),
o 177 (.build [(.slice none 0 0),(.bool false),(.int .i64 0),(.bool false)] [(0,1,(t 175)),(1,2,(t 176))]),
o 17 (.mk 29 [(.slice none 0 0),(.bool false),(.int .i64 0),(.bool false)]),
q (.store 4 (t 17) (t 177))])
(s (r [o 179 (.loadN 4 (t 17)),
o 180 (.buildSlice 1 [(.int .i64 0)] [(0,1,(i 1))]),
o 181 (.call (f 11) [(t 179),(t 180)]),
a 178 181,
o 182 (.extract 0 (t 178)),
o 183 (.extract 1 (t 178)),
a 18 182,
a 2 183])
(s (r [o 185 (.loadN 4 (t 17)),
o 186 (.buildSlice 2 [(.int .i64 0),(.int .i64 0)] [(0,1,(i 1)),(1,1,(i 2))]),
o 187 (.call (f 11) [(t 185),(t 186)]),
a 184 187,
o 188 (.extract 0 (t 184)),
o 189 (.extract 1 (t 184)),
a 4 189])
(s (r [o 191 (.loadN 4 (t 17)),
o 192 (.buildSlice 1 [(.int .i64 0)] [(0,1,(i 3))]),
o 193 (.call (f 11) [(t 191),(t 192)]),
a 190 193,
o 194 (.extract 0 (t 190)),
o 195 (.extract 1 (t 190)),
a 6 195])
(s (r [o 197 (.loadN 4 (t 17)),
o 198 (.buildSlice 2 [(.int .i64 0),(.int .i64 0)] [(0,1,(i 2)),(1,1,(i 1))]),
o 199 (.call (f 11) [(t 197),(t 198)]),
a 196 199,
o 200 (.extract 0 (t 196)),
o 201 (.extract 1 (t 196)),
a 8 201])
(s (r [o 203 (.loadN 4 (t 17)),
o 204 (.buildSlice 1 [(.int .i64 0)] [(0,1,(i 0))]),
o 205 (.call (f 11) [(t 203),(t 204)]),
a 202 205,
o 206 (.extract 0 (t 202)),
o 207 (.extract 1 (t 202)),
a 19 206,
a 20 207])
(s (r [o 209 (.loadN 4 (t 17)),
o 210 (.buildSlice 4 [(.int .i64 0),(.int .i64 0),(.int .i64 0),(.int .i64 0)] [(0,1,(i 1)),(1,1,(i 1)),(2,1,(i 1)),(3,1,(i 1))]),
o 211 (.call (f 11) [(t 209),(t 210)]),
a 208 211,
o 212 (.extract 0 (t 208)),
o 213 (.extract 1 (t 208)),
a 21 212,
a 22 213])
(s (r [o 215 (.call (f 5) [(c (.string ⟨#[120,49]⟩))]),
o 216 (.buildSlice 1 [(.int .i64 0)] [(0,1,(i 1))]),
o 217 (.buildSlice 1 [(.int .i64 0)] [(0,1,(i 2))]),
o 218 (.call (f 12) [(t 215),(t 216),(t 217)]),
a 214 218,
o 219 (.extract 0 (t 214)),
o 220 (.extract 1 (t 214)),
o 23 (.mk 33 [(.slice none 0 0),(.slice none 0 0)]),
q (.store 2 (t 23) (t 219)),
a 24 220])
(s (r [a 221 2,
o 222 (N .eql (t 221) (i 0)),
a 223 222,
g 224 223 true (.mv (t 18)),
g 225 223 true (.len (t 224)),
g 226 223 true (N .eql (t 225) (i 64)),
o 227 (.pick (t 223) (t 226) n),
a 228 227,
g 229 228 true (.mv (t 4)),
g 230 228 true (N .eql (t 229) (i 5)),
o 231 (.pick (t 228) (t 230) n),
a 232 231,
g 233 232 true (.mv (t 6)),
g 234 232 true (N .eql (t 233) (i 11)),
o 235 (.pick (t 232) (t 234) n),
a 236 235,
g 237 236 true (.mv (t 8)),
g 238 236 true (N .eql (t 237) (i 6)),
o 239 (.pick (t 236) (t 238) n),
a 240 239,
g 241 240 true (.mv (t 20)),
g 242 240 true (N .eql (t 241) (i 7)),
o 243 (.pick (t 240) (t 242) n),
a 244 243,
g 245 244 true (.mv (t 22)),
g 246 244 true (N .eql (t 245) (i 5)),
o 247 (.pick (t 244) (t 246) n),
a 248 247,
g 249 248 true (.mv (t 24)),
g 250 248 true (N .eql (t 249) (i 2)),
o 251 (.pick (t 248) (t 250) n),
a 252 251,
g 253 252 true (.call (f 13) []),
o 254 (.pick (t 252) (t 253) n),
a 0 254])
z)))))))))))))))))))⟩

def ir4 : IFunc := ⟨[.tmp 4,.tmp 5],
(s (r [o 2 (.box 6 (t 0)),
o 4 (.mv n),
o 5 (.mv (i 0))])
(s (r [o 6 (.loadN 6 (t 2)),
a 7 1,
o 8 (.call (f 14) [(t 6),(t 7),(f 15)]),
o 9 (.extract 0 (t 8)),
o 10 (.extract 1 (t 8)),
a 4 9,
a 5 10])
z))⟩

def ir5 : IFunc := ⟨[.cellN 2 6],
(s (r [o 2 (.mk 35 [(.slice none 0 0),(.bool false),(.int .i64 0),(.bool false),(.slice none 0 0),(.slice none 0 0)])])
(s (r [o 6 (.call (f 17) []),
a 7 0,
o 8 (.call (f 18) [(t 7)]),
o 9 (.call (f 16) [(t 6),(t 8)]),
a 5 9,
o 10 (.extract 0 (t 5)),
o 11 (.extract 1 (t 5)),
o 3 (.mk 33 [(.slice none 0 0),(.slice none 0 0)]),
q (.store 2 (t 3) (t 10)),
a 4 11])
(s (d [u 0 (o 12 (.call (f 17) [])) [],
u 1 (o 13 (.loadN 2 (t 3))) [0],
u 2 (o 14 (.build [(.slice none 0 0),(.bool false),(.int .i64 0),(.bool false),(.slice none 0 0),(.slice none 0 0)] [(0,4,(t 12)),(4,2,(t 13))])) [],
u 3 (q (.store 6 (t 2) (t 14))) []])
z)))⟩

def ir6 : IFunc := ⟨[.cellN 4 4,.tmp 5],
(s (r [o 2 (.box 6 (t 0)),
o 4 (.mk 41 [(.slice none 0 0),(.slice none 0 0),(.slice none 0 0),(.int .i64 0)]),
o 5 (.mv (i 0))])
(s (r [o 6 (.loadN 6 (t 2)),
a 7 1,
o 8 (.call (f 19) [(t 6),(t 7),(f 20)]),
o 9 (.extract 0 (t 8)),
o 10 (.extract 1 (t 8)),
q (.store 4 (t 4) (t 9)),
a 5 10])
z))⟩

def ir7 : IFunc := ⟨[.tmp 4,.tmp 5],
(s (r [o 2 (.box 6 (t 0)),
o 4 (.mv (c (.slice none 0 0))),
o 5 (.mv (i 0))])
(s (r [o 6 (.loadN 6 (t 2)),
a 7 1,
o 8 (.call (f 21) [(t 6),(t 7),(f 22)]),
o 9 (.extract 0 (t 8)),
o 10 (.extract 1 (t 8)),
a 4 9,
a 5 10])
z))⟩

def ir8 : IFunc := ⟨[.tmp 4],
(s (r [o 4 (.mv n)])
(s (s (r [a 6 0,
o 7 (.len (t 6)),
a 8 1,
o 9 (.len (t 8)),
o 10 (N .neq (t 7) (t 9))])
(w (t 10) (s (r [o 4 (.mv n)])
z)
k))
(s (s (r [o 5 (.mv (i 0))])
(b 0 (lo (s (s (r [a 11 5,
a 12 0,
o 13 (.len (t 12)),
o 14 (N .lss (t 11) (t 13))])
(w (t 14) k
(e 0)))
(s (b 1 (s (d [u 0 (a 17 0) [],
u 1 (a 18 5) [],
u 2 (o 19 (.idxS 1 (t 17) (t 18))) [],
u 3 (l 20 19) [],
u 4 (a 21 1) [],
u 5 (a 22 5) [],
u 6 (o 23 (.idxS 1 (t 21) (t 22))) [],
u 7 (l 24 23) [3],
u 8 (o 25 (N .neq (t 20) (t 24))) []])
(w (t 25) (s (r [o 4 (.mv n)])
z)
k)))
(r [a 15 5,
o 16 (N .add (t 15) (i 1)),
a 5 16]))))))
(s (r [o 4 (.mv y)])
z))))⟩

def ir9 : IFunc := ⟨[.cellN 4 10],
(s (r [o 4 (.mk 53 [(.slice none 0 0),(.bool false),(.int .i64 0),(.bool false),(.int .u8 0),(.int .i64 0),(.int .i64 0),(.int .i64 0),(.slice none 0 0),(.slice none 0 0)])])
(s (r [o 5 (.call (f 17) []),
a 6 0,
o 7 (.call (f 18) [(t 6)]),
a 8 1,
o 9 (.build [(.slice none 0 0),(.bool false),(.int .i64 0),(.bool false),(.int .u8 0),(.int .i64 0),(.int .i64 0),(.int .i64 0),(.slice none 0 0),(.slice none 0 0)] [(0,4,(t 5)),(4,5,(t 7)),(9,1,(t 8))]),
q (.store 10 (t 4) (t 9))])
z))⟩

def ir10 : IFunc := ⟨[.cell1 2,.cell1 3],
(s (r [o 1 (.box 10 (t 0)),
o 2 (.mk 4 [(.bool false)]),
o 3 (.mk 22 [(.int .i64 0)])])
(s (r [o 7 (.loadN 10 (t 1)),
o 8 (.call (f 23) [(t 7)]),
a 6 8,
o 9 (.extract 0 (t 6)),
o 10 (.extract 1 (t 6)),
a 4 9,
a 5 10])
(s (s (r [a 11 5,
o 12 (N .neq (t 11) (i 0))])
(w (t 12) (s (r [a 13 5,
q (.store 1 (t 2) n),
q (.store 1 (t 3) (t 13))])
z)
k))
(s (s (r [a 14 4,
o 15 (.mkfn (.func 24) [(t 14)] [])])
(b 0 (.rangeFunc (t 15) [16] k
(b 1 (s (r [q (.store 1 (t 2) n),
q (.store 1 (t 3) (i 0))])
z)))))
(s (r [q (.store 1 (t 2) y),
q (.store 1 (t 3) (i 0))])
z)))))⟩

def ir11 : IFunc := ⟨[.tmp 4,.tmp 5],
(s (r [o 2 (.box 4 (t 0)),
o 4 (.mv (c (.slice none 0 0))),
o 5 (.mv (i 0))])
(s (s (r [o 9 (.loadN 4 (t 2)),
o 10 (.call (f 25) [(t 9)]),
a 6 10])
(s (r [a 11 6,
o 12 (N .neq (t 11) (i 0))])
(w (t 12) (s (r [a 13 6,
o 4 (.mv (c (.slice none 0 0))),
a 5 13])
z)
k)))
(s (r [o 15 (.loadN 4 (t 2)),
a 16 1,
o 17 (.call (f 26) [(t 15),(t 16)]),
a 14 17,
o 18 (.extract 0 (t 14)),
o 19 (.extract 1 (t 14)),
o 7 (.mk 85 [(.slice none 0 0),(.bool false),(.int .i64 0),(.bool false),(.slice none 0 0),(.slice none 0 0)]),
q (.store 6 (t 7) (t 18)),
a 8 19])
(s (s (r [a 20 8,
o 21 (N .neq (t 20) (i 0))])
(w (t 21) (s (r [a 22 8,
o 4 (.mv (c (.slice none 0 0))),
a 5 22])
z)
k))
(s (r [o 23 (.loadN 6 (t 7)),
o 24 (.mkfn (.func 28) [(t 23)] []),
o 25 (.call (f 27) [(t 24)]),
a 4 25,
o 5 (.mv (i 0))])
z)))))⟩

def ir12 : IFunc := ⟨[.cellN 6 2,.tmp 7],
(s (r [o 3 (.box 6 (t 0)),
o 6 (.mk 33 [(.slice none 0 0),(.slice none 0 0)]),
o 7 (.mv (i 0))])
(s (r [o 11 (.loadN 6 (t 3)),
a 12 1,
o 13 (.call (f 29) [(t 11),(t 12)]),
a 10 13,
o 14 (.extract 0 (t 10)),
o 15 (.extract 1 (t 10)),
o 8 (.mk 85 [(.slice none 0 0),(.bool false),(.int .i64 0),(.bool false),(.slice none 0 0),(.slice none 0 0)]),
q (.store 6 (t 8) (t 14)),
a 9 15])
(s (s (r [a 16 9,
o 17 (N .neq (t 16) (i 0))])
(w (t 17) (s (r [o 18 (.build [(.slice none 0 0),(.slice none 0 0)] []),
a 19 9,
q (.store 2 (t 6) (t 18)),
a 7 19])
z)
k))
(s (s (r [a 20 2,
p 21 5 8,
l 22 21,
o 23 (.call (f 30) [(t 20),(t 22),(f 31)]),
o 24 (.not (t 23))])
(w (t 24) (s (r [o 25 (.build [(.slice none 0 0),(.slice none 0 0)] []),
q (.store 2 (t 6) (t 25)),
o 7 (.mv (i 2))])
z)
k))
(s (d [u 1 (p 27 4 3) [],
u 2 (o 28 (.loadN 2 (t 27))) [],
u 3 (o 29 (.call (f 33) [(t 28)])) [],
u 0 (o 26 (.loadN 6 (t 8))) [0,1],
u 4 (a 30 2) [],
u 5 (o 31 (.call (f 32) [(t 26),(t 29),(t 30)])) [],
u 6 (o 32 (.extract 0 (t 31))) [],
u 7 (o 33 (.extract 1 (t 31))) [],
u 8 (q (.store 2 (t 6) (t 32))) [],
u 9 (a 7 33) []])
z)))))⟩

def ir13 : IFunc := ⟨[.tmp 0],
(s (r [o 0 (.mv n)])
(s (r [o 12 (.call (f 5) [(c (.string ⟨#[120,49]⟩))]),
o 13 (.buildSlice 1 [(.int .i64 0)] [(0,1,(i 1))]),
o 14 (.call (f 4) [(t 12),(t 13)]),
a 11 14,
o 15 (.extract 0 (t 11)),
o 16 (.extract 1 (t 11)),
a 1 15,
a 2 16])
(s (r [o 18 (.call (f 5) [(c (.string ⟨#[105,102,40,120,49,44,120,51,44,120,51,41]⟩))]),
o 19 (.buildSlice 1 [(.int .i64 0)] [(0,1,(i 1))]),
o 20 (.call (f 4) [(t 18),(t 19)]),
a 17 20,
o 21 (.extract 0 (t 17)),
o 22 (.extract 1 (t 17)),
a 3 21,
a 4 22])
(s (r [o 24 (.buildSlice 1 [(.int .i64 0)] [(0,1,(i 1))]),
o 25 (.call (f 9) [(c (.string ⟨#[105,102,40,120,49,44,120,51,44,48,47,50,41]⟩)),(t 24)]),
o 26 (.call (f 34) [(t 25)]),
a 23 26,
o 27 (.extract 0 (t 23)),
o 28 (.extract 1 (t 23)),
a 5 27,
a 6 28])
(s (r [o 30 (.call (f 5) [(c (.string ⟨#[97,100,100,47,50,40,120,49,44,120,51,41]⟩))]),
o 31 (.buildSlice 2 [(.int .i64 0),(.int .i64 0)] [(0,1,(i 1)),(1,1,(i 3))]),
o 32 (.call (f 35) [(t 30),(t 31)]),
a 29 32,
o 33 (.extract 0 (t 29)),
o 34 (.extract 1 (t 29)),
a 7 33,
a 8 34])
(s (r [o 36 (.buildSlice 1 [(.int .i64 0)] [(0,1,(i 1))]),
o 37 (.call (f 9) [(c (.string ⟨#[110,101,119,47,50,47,48,40,115,101,113,40,61,52,40,120,49,41,44,120,51,41,41]⟩)),(t 36)]),
o 38 (.call (f 10) [(t 37)]),
a 35 38,
o 39 (.extract 0 (t 35)),
o 40 (.extract 1 (t 35)),
a 9 39,
a 10 40])
(s (r [a 41 2,
o 42 (N .eql (t 41) (i 0)),
a 43 42,
g 44 43 true (.mv (t 1)),
o 45 (.pick (t 43) (t 44) n),
a 46 45,
g 47 46 true (.mv (t 4)),
g 48 46 true (N .eql (t 47) (i 0)),
o 49 (.pick (t 46) (t 48) n),
a 50 49,
g 51 50 true (.mv (t 3)),
g 52 50 true (.not (t 51)),
o 53 (.pick (t 50) (t 52) n),
a 54 53,
g 55 54 true (.mv (t 6)),
g 56 54 true (N .eql (t 55) (i 0)),
o 57 (.pick (t 54) (t 56) n),
a 58 57,
g 59 58 true (.mv (t 5)),
g 60 58 true (.buildSlice 2 [(.int .i64 0),(.int .i64 0)] [(0,1,(i 0)),(1,1,(i 2))]),
g 61 58 true (.call (f 8) [(t 59),(t 60)]),
o 62 (.pick (t 58) (t 61) n),
a 63 62,
g 64 63 true (.mv (t 8)),
g 65 63 true (N .eql (t 64) (i 0)),
o 66 (.pick (t 63) (t 65) n),
a 67 66,
g 68 67 true (.mv (t 7)),
g 69 67 true (.buildSlice 4 [(.int .i64 0),(.int .i64 0),(.int .i64 0),(.int .i64 0)] [(0,1,(i 0)),(1,1,(i 1)),(2,1,(i 1)),(3,1,(i 0))]),
g 70 67 true (.call (f 8) [(t 68),(t 69)]),
o 71 (.pick (t 67) (t 70) n),
a 72 71,
g 73 72 true (.mv (t 10)),
g 74 72 true (N .eql (t 73) (i 0)),
o 75 (.pick (t 72) (t 74) n),
a 76 75,
g 77 76 true (.mv (t 9)),
o 78 (.pick (t 76) (t 77) n),
a 0 78])
z)))))))⟩

def ir14 : IFunc := ⟨[.tmp 6,.tmp 7],
(s (r [o 3 (.box 6 (t 0)),
o 6 (.mv n),
o 7 (.mv (i 0))])
(s (r [o 10 (.loadN 6 (t 3)),
a 11 1,
o 12 (.call (f 36) [(t 10),(t 11)]),
a 9 12,
o 13 (.extract 0 (t 9)),
o 14 (.extract 1 (t 9)),
a 8 13,
a 7 14])
(s (s (r [a 15 7,
o 16 (N .neq (t 15) (i 0))])
(w (t 16) (s (r [a 17 6,
a 18 7,
a 6 17,
a 7 18])
z)
k))
(s (r [a 19 2,
a 20 8,
o 21 (.call (t 19) [(t 20)]),
o 22 (.extract 0 (t 21)),
o 23 (.extract 1 (t 21)),
a 6 22,
a 7 23])
z))))⟩

def ir15 : IFunc := ⟨[.tmp 2,.tmp 3],
(s (r [o 2 (.mv n),
o 3 (.mv (i 0))])
(s (r [a 4 0,
o 5 (.call (f 37) [(t 4)]),
o 6 (N .geq (t 5) (i 0)),
a 2 6,
o 3 (.mv (i 0))])
z))⟩

def ir16 : IFunc := ⟨[.cellN 4 2,.tmp 5],
(s (r [o 2 (.box 4 (t 0)),
o 3 (.box 5 (t 1)),
o 4 (.mk 33 [(.slice none 0 0),(.slice none 0 0)]),
o 5 (.mv (i 0))])
(s (s (r [o 9 (.loadN 4 (t 2)),
o 10 (.loadN 5 (t 3)),
o 11 (.call (f 38) [(t 9),(t 10)]),
a 6 11])
(s (r [a 12 6,
o 13 (N .neq (t 12) (i 0))])
(w (t 13) (s (r [o 14 (.build [(.slice none 0 0),(.slice none 0 0)] []),
a 15 6,
q (.store 2 (t 4) (t 14)),
a 5 15])
z)
k)))
(s (r [o 17 (.loadN 4 (t 2)),
o 18 (.loadN 5 (t 3)),
o 19 (.call (f 39) [(t 17),(t 18)]),
a 16 19,
o 20 (.extract 0 (t 16)),
o 21 (.extract 1 (t 16)),
o 7 (.mk 33 [(.slice none 0 0),(.slice none 0 0)]),
q (.store 2 (t 7) (t 20)),
a 8 21])
(s (s (r [a 22 8,
o 23 (.not (t 22))])
(w (t 23) (s (r [o 24 (.build [(.slice none 0 0),(.slice none 0 0)] []),
q (.store 2 (t 4) (t 24)),
o 5 (.mv (i 5))])
z)
k))
(s (r [o 25 (.loadN 2 (t 7)),
q (.store 2 (t 4) (t 25)),
o 5 (.mv (i 0))])
z)))))⟩

def ir17 : IFunc := ⟨[.cellN 0 4],
(s (r [o 0 (.mk 29 [(.slice none 0 0),(.bool false),(.int .i64 0),(.bool false)])])
(s (r [o 2 (.build [(.bool false),(.int .i64 0)] [(1,1,(i 2))]),
o 3 (.build [(.slice none 0 0),(.bool false),(.int .i64 0)] [(1,2,(t 2))]),
o 1 (.mk 59 [(.slice none 0 0),(.bool false),(.int .i64 0)]),
q (.store 3 (t 1) (t 3))])
(s (r [o 4 (.loadN 3 (t 1)),
o 5 (.build [(.bool false),(.int .i64 0)] [(0,1,y),(1,1,(i 2))]),
o 6 (.build [(.slice none 0 0),(.bool false),(.int .i64 0)] [(1,2,(t 5))]),
o 7 (.loadN 3 (t 1)),
o 8 (.buildSlice 3 [(.slice none 0 0),(.bool false),(.int .i64 0),(.slice none 0 0),(.bool false),(.int .i64 0),(.slice none 0 0),(.bool false),(.int .i64 0)] [(0,3,(t 4)),(3,3,(t 6)),(6,3,(t 7))]),
o 9 (.build [(.bool false),(.int .i64 0)] [(1,1,(i 2))]),
o 10 (.build [(.slice none 0 0),(.bool false),(.int .i64 0),(.bool false)] [(0,1,(t 8)),(1,2,(t 9))]),
q (.store 4 (t 0) (t 10))])
z)))⟩

def ir18 : IFunc := ⟨[.cellN 2 5],
(s (r [o 2 (.mk 51 [(.int .u8 0),(.int .i64 0),(.int .i64 0),(.int .i64 0),(.slice none 0 0)])])
(s (r [o 6 (.call (f 17) []),
a 7 0,
o 8 (.call (f 40) [(t 6),(t 7)]),
a 5 8,
o 9 (.extract 0 (t 5)),
o 10 (.extract 1 (t 5)),
o 3 (.mk 51 [(.int .u8 0),(.int .i64 0),(.int .i64 0),(.int .i64 0),(.slice none 0 0)]),
q (.store 5 (t 3) (t 9)),
a 4 10])
(s (r [o 11 (.loadN 5 (t 3)),
q (.store 5 (t 2) (t 11))])
z)))⟩

def ir19 : IFunc := ⟨[.cellN 6 4,.tmp 7],
(s (r [o 3 (.box 6 (t 0)),
o 6 (.mk 41 [(.slice none 0 0),(.slice none 0 0),(.slice none 0 0),(.int .i64 0)]),
o 7 (.mv (i 0))])
(s (r [o 10 (.loadN 6 (t 3)),
a 11 1,
o 12 (.call (f 36) [(t 10),(t 11)]),
a 9 12,
o 13 (.extract 0 (t 9)),
o 14 (.extract 1 (t 9)),
a 8 13,
a 7 14])
(s (s (r [a 15 7,
o 16 (N .neq (t 15) (i 0))])
(w (t 16) (s (r [o 17 (.loadN 4 (t 6)),
a 18 7,
q (.store 4 (t 6) (t 17)),
a 7 18])
z)
k))
(s (r [a 19 2,
a 20 8,
o 21 (.call (t 19) [(t 20)]),
o 22 (.extract 0 (t 21)),
o 23 (.extract 1 (t 21)),
q (.store 4 (t 6) (t 22)),
a 7 23])
z))))⟩

def ir20 : IFunc := ⟨[.cellN 2 4,.tmp 3],
(s (r [o 2 (.mk 41 [(.slice none 0 0),(.slice none 0 0),(.slice none 0 0),(.int .i64 0)]),
o 3 (.mv (i 0))])
(s (r [a 15 0,
o 16 (.call (f 37) [(t 15)]),
a 4 16])
(s (s (r [a 17 4,
o 18 (N .lss (t 17) (i 0))])
(w (t 18) (s (r [o 19 (.build [(.slice none 0 0),(.slice none 0 0),(.slice none 0 0),(.int .i64 0)] []),
q (.store 4 (t 2) (t 19)),
o 3 (.mv (i 7))])
z)
k))
(s (d [u 0 (a 20 0) [],
u 1 (o 21 (.nilCheck (t 20))) [],
u 2 (p 22 7 21) [],
u 3 (l 23 22) [],
u 4 (o 24 (.idxS 2 (t 23) (i 0))) [],
u 5 (o 25 (.loadN 2 (t 24))) [],
u 6 (a 26 0) [],
u 7 (o 27 (.nilCheck (t 26))) [],
u 8 (p 28 7 27) [],
u 9 (l 29 28) [3,5],
u 10 (a 30 4) [],
u 11 (o 31 (.idxS 2 (t 29) (t 30))) [],
u 12 (o 32 (.loadN 2 (t 31))) [6,8],
u 13 (o 5 (.mk 33 [(.slice none 0 0),(.slice none 0 0)])) [0,3,7,9],
u 14 (o 6 (.mk 33 [(.slice none 0 0),(.slice none 0 0)])) [0,1,4,8,10],
u 15 (q (.store 2 (t 5) (t 25))) [2,5],
u 16 (q (.store 2 (t 6) (t 32))) []])
(s (r [o 33 (.mkmap),
o 34 (.build [(.int .i64 0),(.int .i64 0)] [(0,1,(i 0)),(1,1,(i 0))]),
q (.insert (.ag [(0,.num),(1,.num)]) (t 33) (t 34) y),
a 35 33,
a 7 35])
(s (r [o 36 (.build [(.int .i64 0),(.int .i64 0),(.slice none 0 0)] []),
o 37 (.buildSlice 1 [(.int .i64 0),(.int .i64 0),(.slice none 0 0)] [(0,3,(t 36))]),
a 8 37])
(s (b 0 (lo (s (s (r [a 38 8,
o 39 (.len (t 38)),
o 40 (N .gtr (t 39) (i 0))])
(w (t 40) k
(e 0)))
(b 1 (s (r [a 41 8,
o 42 (.idxS 3 (t 41) (i 0)),
o 43 (.loadN 3 (t 42)),
o 9 (.mk 110 [(.int .i64 0),(.int .i64 0),(.slice none 0 0)]),
q (.store 3 (t 9) (t 43))])
(s (r [a 44 8,
o 45 (.sliceS 3 (t 44) (some (i 1)) none none),
a 8 45])
(s (s (d [u 0 (o 46 (.loadN 2 (t 5))) [],
u 1 (p 47 0 9) [],
u 2 (l 48 47) [1],
u 3 (o 49 (.call (f 41) [(t 46),(t 48)])) [],
u 4 (o 50 (.loadN 2 (t 6))) [0,1,3],
u 5 (p 51 1 9) [],
u 6 (l 52 51) [1,2,3,5],
u 7 (o 53 (.call (f 41) [(t 50),(t 52)])) [],
u 8 (o 54 (.bin .boo .neq (t 49) (t 53))) []])
(w (t 54) (s (s (r [p 55 2 9,
l 56 55,
o 57 (.len (t 56)),
o 58 (N .gtr (t 57) (i 400))])
(w (t 58) (s (r [o 59 (.build [(.slice none 0 0),(.slice none 0 0),(.slice none 0 0),(.int .i64 0)] []),
q (.store 4 (t 2) (t 59)),
o 3 (.mv (i 5))])
z)
k))
(s (r [o 10 (.mv (i 1))])
(s (s (r [o 60 (.loadN 2 (t 6)),
p 61 1 9,
l 62 61,
o 63 (.call (f 41) [(t 60),(t 62)])])
(w (t 63) (r [o 10 (.mv (i 2))])
k))
(s (d [u 0 (a 64 0) [],
u 1 (o 65 (.nilCheck (t 64))) [],
u 2 (p 66 6 65) [],
u 3 (l 67 66) [],
u 4 (o 68 (.idxS 1 (t 67) (i 0))) [],
u 5 (l 69 68) [],
u 6 (a 70 0) [],
u 7 (o 71 (.nilCheck (t 70))) [],
u 8 (p 72 6 71) [],
u 9 (l 73 72) [3,5],
u 10 (a 74 4) [],
u 11 (o 75 (.idxS 1 (t 73) (t 74))) [],
u 12 (l 76 75) [6,8],
u 13 (p 77 2 9) [],
u 14 (l 78 77) [1,4,8,10],
u 15 (a 79 10) [],
u 16 (o 80 (.build [(.slice none 0 0),(.slice none 0 0),(.slice none 0 0),(.int .i64 0)] [(0,1,(t 69)),(1,1,(t 76)),(2,1,(t 78)),(3,1,(t 79))])) [],
u 17 (q (.store 4 (t 2) (t 80))) [],
u 18 (o 3 (.mv (i 0))) []])
z))))
k))
(s (r [o 81 (.loadN 2 (t 5)),
o 82 (.loadN 2 (t 6)),
o 83 (.loadN 3 (t 9)),
o 84 (.call (f 42) [(t 81),(t 82),(t 83)]),
o 85 (.len (t 84)),
o 86 (.mv (i 0))])
(b 2 (lo (s (r [o 87 (N .lss (t 86) (t 85))])
(s (w (t 87) k
(e 2))
(s (b 3 (s (r [o 88 (.idxS 4 (t 84) (t 86)),
o 89 (.loadN 4 (t 88)),
o 12 (.mk 47 [(.int .i64 0),(.int .i64 0),(.int .u8 0),(.int .i64 0)]),
q (.store 4 (t 12) (t 89))])
(s (d [u 0 (o 90 (.loadN 2 (t 5))) [],
u 1 (p 91 0 9) [],
u 2 (l 92 91) [1],
u 3 (o 93 (.loadN 4 (t 12))) [0,2],
u 4 (o 94 (.call (f 43) [(t 90),(t 92),(t 93)])) [],
u 5 (o 95 (.loadN 2 (t 6))) [0,1,2,4],
u 6 (p 96 1 9) [],
u 7 (l 97 96) [1,2,3,4,6],
u 8 (o 98 (.loadN 4 (t 12))) [0,2,3,4,5,7],
u 9 (o 99 (.call (f 43) [(t 95),(t 97),(t 98)])) [],
u 10 (p 100 2 9) [],
u 11 (l 101 100) [1,2,3,5,6,7,8,10],
u 12 (o 102 (.call (f 44) [(t 101)])) [],
u 13 (o 103 (.loadN 4 (t 12))) [0,1,3,4,5,7,8,9,10,12],
u 14 (o 104 (.buildSlice 1 [(.int .i64 0),(.int .i64 0),(.int .u8 0),(.int .i64 0)] [(0,4,(t 103))])) [1,2,4,5,6,8,9,10,11,13],
u 15 (o 105 (.append 47 4 32 (t 102) (t 104))) [],
u 16 (o 106 (.build [(.int .i64 0),(.int .i64 0),(.slice none 0 0)] [(0,1,(t 94)),(1,1,(t 99)),(2,1,(t 105))])) [],
u 17 (o 13 (.mk 110 [(.int .i64 0),(.int .i64 0),(.slice none 0 0)])) [1,2,3,4,5,7,8,9,11,12,13,14,16],
u 18 (q (.store 3 (t 13) (t 106))) []])
(s (r [p 107 0 13,
l 108 107,
p 109 1 13,
l 110 109,
o 111 (.build [(.int .i64 0),(.int .i64 0)] [(0,1,(t 108)),(1,1,(t 110))]),
o 14 (.mk 107 [(.int .i64 0),(.int .i64 0)]),
q (.store 2 (t 14) (t 111))])
(s (r [a 112 7,
o 113 (.loadN 2 (t 14)),
o 114 (.lookup (.ag [(0,.num),(1,.num)]) (.bool false) false (t 112) (t 113)),
o 115 (.not (t 114))])
(w (t 115) (s (r [a 116 7,
o 117 (.loadN 2 (t 14)),
q (.insert (.ag [(0,.num),(1,.num)]) (t 116) (t 117) y)])
(r [a 118 8,
o 119 (.loadN 3 (t 13)),
o 120 (.buildSlice 1 [(.int .i64 0),(.int .i64 0),(.slice none 0 0)] [(0,3,(t 119))]),
o 121 (.append 110 3 40 (t 118) (t 120)),
a 8 121]))
k))))))
(r [o 122 (N .add (t 86) (i 1)),
a 86 122]))))))))))))))
(s (r [o 123 (.build [(.slice none 0 0),(.slice none 0 0),(.slice none 0 0),(.int .i64 0)] []),
q (.store 4 (t 2) (t 123)),
o 3 (.mv (i 7))])
z))))))))⟩

def ir21 : IFunc := ⟨[.tmp 6,.tmp 7],
(s (r [o 3 (.box 6 (t 0)),
o 6 (.mv (c (.slice none 0 0))),
o 7 (.mv (i 0))])
(s (r [o 10 (.loadN 6 (t 3)),
a 11 1,
o 12 (.call (f 36) [(t 10),(t 11)]),
a 9 12,
o 13 (.extract 0 (t 9)),
o 14 (.extract 1 (t 9)),
a 8 13,
a 7 14])
(s (s (r [a 15 7,
o 16 (N .neq (t 15) (i 0))])
(w (t 16) (s (r [a 17 6,
a 18 7,
a 6 17,
a 7 18])
z)
k))
(s (r [a 19 2,
a 20 8,
o 21 (.call (t 19) [(t 20)]),
o 22 (.extract 0 (t 21)),
o 23 (.extract 1 (t 21)),
a 6 22,
a 7 23])
z))))⟩

def ir22 : IFunc := ⟨[.tmp 2,.tmp 3],
(s (r [o 2 (.mv (c (.slice none 0 0))),
o 3 (.mv (i 0))])
(s (r [o 14 (.mkmap),
a 4 14])
(s (s (r [a 15 0,
o 16 (.nilCheck (t 15)),
p 17 6 16,
l 18 17,
o 19 (.len (t 18)),
o 20 (.mv (i 0))])
(b 0 (lo (s (r [o 21 (N .lss (t 20) (t 19))])
(s (w (t 21) k
(e 0))
(s (b 1 (s (r [a 22 20,
o 23 (.idxS 1 (t 18) (t 20)),
l 24 23,
a 5 22,
a 6 24])
(s (r [a 25 0,
o 26 (.nilCheck (t 25)),
p 27 6 26,
l 28 27,
a 29 5,
o 30 (.sliceS 1 (t 28) none (some (t 29)) none),
o 31 (.len (t 30)),
o 32 (.mv (i 0))])
(b 2 (lo (s (r [o 33 (N .lss (t 32) (t 31))])
(s (w (t 33) k
(e 2))
(s (b 3 (s (r [a 34 32,
o 35 (.idxS 1 (t 30) (t 32)),
l 36 35,
a 7 34,
a 8 36])
(s (r [a 38 6,
a 39 8,
o 40 (.call (f 45) [(t 38),(t 39)]),
a 37 40,
o 41 (.extract 0 (t 37)),
o 42 (.extract 1 (t 37)),
a 9 41,
a 10 42])
(s (d [u 0 (a 43 10) [],
u 1 (a 44 43) [],
u 2 (g 45 44 true (.mv (t 0))) [],
u 3 (g 46 44 true (.nilCheck (t 45))) [],
u 4 (g 47 44 true (.faddr 8 (t 46))) [],
u 5 (g 48 44 true (.load1 (t 47))) [],
u 6 (g 49 44 true (.mv (t 5))) [],
u 7 (g 50 44 true (.idxS 1 (t 48) (t 49))) [],
u 8 (g 51 44 true (.load1 (t 50))) [],
u 9 (g 52 44 true (.mv (t 0))) [],
u 10 (g 53 44 true (.nilCheck (t 52))) [],
u 11 (g 54 44 true (.faddr 8 (t 53))) [],
u 12 (g 55 44 true (.load1 (t 54))) [3,6],
u 13 (g 56 44 true (.mv (t 7))) [],
u 14 (g 57 44 true (.idxS 1 (t 55) (t 56))) [],
u 15 (g 58 44 true (.load1 (t 57))) [6,9],
u 16 (g 59 44 true (N .neq (t 51) (t 58))) [],
u 17 (o 60 (.pick (t 44) (t 59) n)) []])
(w (t 60) (r [a 61 4,
a 62 9,
q (.insert (.sc .num) (t 61) (t 62) y)])
k)))))
(r [o 63 (N .add (t 32) (i 1)),
a 32 63])))))))))
(r [o 64 (N .add (t 20) (i 1)),
a 20 64])))))))
(s (r [o 11 (.mv (c (.slice none 0 0)))])
(s (s (r [a 65 0,
o 66 (.nilCheck (t 65)),
p 67 0 66,
p 68 4 67,
l 69 68,
o 70 (.len (t 69)),
o 71 (.mv (i 0))])
(b 4 (lo (s (r [o 72 (N .lss (t 71) (t 70))])
(s (w (t 72) k
(e 4))
(s (b 5 (s (r [a 73 71,
o 74 (.idxS 1 (t 69) (t 71)),
l 75 74,
a 12 73,
a 13 75])
(s (r [a 76 4,
a 77 12,
o 78 (.lookup (.sc .num) (.bool false) false (t 76) (t 77))])
(w (t 78) (r [a 79 11,
a 80 13,
o 81 (.buildSlice 1 [(.int .i64 0)] [(0,1,(t 80))]),
o 82 (.append 3 1 8 (t 79) (t 81)),
a 11 82])
k))))
(r [o 83 (N .add (t 71) (i 1)),
a 71 83])))))))
(s (r [a 84 11,
a 2 84,
o 3 (.mv (i 0))])
z))))))⟩

def ir23 : IFunc := ⟨[.tmp 2,.tmp 3],
(s (r [o 1 (.box 10 (t 0)),
o 2 (.mv (c (.pointer none))),
o 3 (.mv (i 0))])
(s (s (r [p 9 0 1,
o 10 (.loadN 4 (t 9)),
p 11 4 1,
o 12 (.loadN 5 (t 11)),
o 13 (.call (f 46) [(t 10),(t 12)]),
a 4 13])
(s (r [a 14 4,
o 15 (N .neq (t 14) (i 0))])
(w (t 15) (s (r [a 16 4,
o 2 (.mv (c (.pointer none))),
a 3 16])
z)
k)))
(s (s (r [p 17 0 1,
o 18 (.loadN 4 (t 17)),
p 19 9 1,
l 20 19,
o 21 (.call (f 47) [(t 18),(t 20)]),
a 5 21])
(s (r [a 22 5,
o 23 (N .neq (t 22) (i 0))])
(w (t 23) (s (r [a 24 5,
o 2 (.mv (c (.pointer none))),
a 3 24])
z)
k)))
(s (r [o 25 (.loadN 10 (t 1)),
o 26 (.build [(.slice none 0 0),(.bool false),(.int .i64 0),(.bool false),(.int .u8 0),(.int .i64 0),(.int .i64 0),(.int .i64 0),(.slice none 0 0),(.slice none 0 0),(.slice none 0 0),(.slice none 0 0),(.slice none 0 0),(.slice none 0 0),(.bool false)] [(0,10,(t 25)),(14,1,y)]),
o 27 (.box 15 (t 26)),
a 6 27])
(s (r [a 28 6,
p 29 4 1,
o 30 (.loadN 5 (t 29)),
o 31 (.call (f 48) [(t 28),(t 30),(i (-1)),(c (.slice none 0 0))])])
(s (r [a 32 6,
o 33 (.nilCheck (t 32)),
p 34 10 33,
l 35 34,
o 36 (.len (t 35)),
a 7 36])
(s (d [u 0 (a 37 6) [],
u 1 (a 38 6) [],
u 2 (a 39 6) [],
u 3 (a 40 7) [],
u 4 (o 41 (.mkSlice 1 [(.bool false)] (t 40) (t 40))) [],
u 5 (a 42 7) [],
u 6 (o 43 (.mkSlice 1 [(.bool false)] (t 42) (t 42))) [1],
u 7 (a 44 7) [],
u 8 (o 45 (.mkSlice 1 [(.bool false)] (t 44) (t 44))) [1,3],
u 9 (o 46 (.nilCheck (t 37))) [],
u 10 (p 47 11 46) [],
u 11 (q (.store 1 (t 47) (t 41))) [2,4],
u 12 (o 48 (.nilCheck (t 38))) [],
u 13 (p 49 12 48) [],
u 14 (q (.store 1 (t 49) (t 43))) [5],
u 15 (o 50 (.nilCheck (t 39))) [],
u 16 (p 51 13 50) [],
u 17 (q (.store 1 (t 51) (t 45))) []])
(s (s (r [o 52 (.call (f 49) []),
a 8 52])
(b 0 (lo (s (s (r [a 53 6,
o 54 (.nilCheck (t 53)),
p 55 14 54,
l 56 55])
(w (t 56) k
(e 0)))
(b 1 (s (r [a 57 6,
o 58 (.nilCheck (t 57)),
p 59 14 58,
q (.store 1 (t 59) n)])
(r [a 60 6,
a 61 8,
o 62 (.call (f 50) [(t 60),(t 61)])])))))))
(s (r [a 63 6,
a 2 63,
o 3 (.mv (i 0))])
z)))))))))⟩

def ir24 : IFunc := ⟨[],
(s (r [a 5 0,
o 6 (.nilCheck (t 5)),
p 7 10 6,
l 8 7,
o 9 (.len (t 8)),
o 10 (.mv (i 0))])
(b 0 (lo (s (r [o 11 (N .lss (t 10) (t 9))])
(s (w (t 11) k
(e 0))
(s (b 1 (s (r [a 12 10,
a 4 12])
(s (r [a 13 0,
a 14 4,
o 15 (.call (f 51) [(t 13),(t 14)]),
a 16 15,
g 17 16 true (.mv (t 1)),
g 18 16 true (.mv (t 4)),
g 19 16 true (.call (t 17) [(t 18)]),
g 20 16 true (.not (t 19)),
o 21 (.pick (t 16) (t 20) n)])
(w (t 21) z
k))))
(r [o 22 (N .add (t 10) (i 1)),
a 10 22])))))))⟩

def ir25 : IFunc := ⟨[.tmp 2],
(s (r [o 1 (.box 4 (t 0)),
o 2 (.mv (i 0))])
(s (r [o 3 (.mv (f 52))])
(s (r [o 4 (.mv (f 53))])
(s (b 0 (s (r [p 6 0 1,
l 7 6,
o 8 (.len (t 7)),
o 9 (N .gtr (t 8) (i 8)),
a 10 9,
g 11 10 false (.faddr 0 (t 1)),
g 12 10 false (.load1 (t 11)),
g 13 10 false (.mv (t 3)),
g 14 10 false (.call (f 55) [(t 12),(t 13)]),
o 15 (.pick (t 10) y (t 14)),
a 5 15])
(w (t 5) (s (r [o 2 (.mv (i 5))])
z)
(s (r [p 17 1 1,
o 18 (.loadN 2 (t 17)),
o 19 (.call (f 56) [(t 18)]),
o 20 (.not (t 19)),
a 21 20,
g 22 21 false (.faddr 0 (t 1)),
g 23 21 false (.load1 (t 22)),
g 24 21 false (.mv (t 4)),
g 25 21 false (.call (f 55) [(t 23),(t 24)]),
o 26 (.pick (t 21) y (t 25)),
a 16 26])
(w (t 16) (s (r [o 2 (.mv (i 4))])
z)
k)))))
(s (r [o 2 (.mv (i 0))])
z)))))⟩

def ir26 : IFunc := ⟨[.cellN 4 6,.tmp 5],
(s (r [o 2 (.box 4 (t 0)),
o 4 (.mk 85 [(.slice none 0 0),(.bool false),(.int .i64 0),(.bool false),(.slice none 0 0),(.slice none 0 0)]),
o 5 (.mv (i 0))])
(s (s (r [o 12 (.loadN 4 (t 2)),
a 13 1,
o 14 (.call (f 47) [(t 12),(t 13)]),
a 6 14])
(s (r [a 15 6,
o 16 (N .neq (t 15) (i 0))])
(w (t 16) (s (r [o 17 (.build [(.slice none 0 0),(.bool false),(.int .i64 0),(.bool false),(.slice none 0 0),(.slice none 0 0)] []),
a 18 6,
q (.store 6 (t 4) (t 17)),
a 5 18])
z)
k)))
(s (r [o 19 (.loadN 4 (t 2)),
a 20 1,
o 21 (.build [(.slice none 0 0),(.bool false),(.int .i64 0),(.bool false),(.slice none 0 0),(.slice none 0 0)] [(0,4,(t 19)),(4,1,(t 20))]),
o 7 (.mk 85 [(.slice none 0 0),(.bool false),(.int .i64 0),(.bool false),(.slice none 0 0),(.slice none 0 0)]),
q (.store 6 (t 7) (t 21))])
(s (r [o 8 (.mv (i 1))])
(s (s (r [a 22 1,
o 23 (.len (t 22)),
o 24 (.mv (i 0))])
(b 0 (lo (s (r [o 25 (N .lss (t 24) (t 23))])
(s (w (t 25) k
(e 0))
(s (b 1 (s (r [o 26 (.idxS 1 (t 22) (t 24)),
l 27 26,
a 10 27])
(s (r [p 28 0 2,
l 29 28,
a 30 10,
o 31 (N .sub (t 30) (i 1)),
o 32 (.idxS 3 (t 29) (t 31)),
p 33 1 32,
p 34 1 33,
l 35 34,
a 11 35])
(s (r [p 36 5 7,
l 37 36,
a 38 11,
o 39 (.buildSlice 1 [(.int .i64 0)] [(0,1,(t 38))]),
o 40 (.append 3 1 8 (t 37) (t 39)),
p 41 5 7,
q (.store 1 (t 41) (t 40))])
(s (r [a 42 8,
a 43 11,
o 44 (N .mul (t 42) (t 43)),
a 8 44])
(s (r [a 45 8,
o 46 (N .gtr (t 45) (i 64))])
(w (t 46) (s (r [o 47 (.build [(.slice none 0 0),(.bool false),(.int .i64 0),(.bool false),(.slice none 0 0),(.slice none 0 0)] []),
q (.store 6 (t 4) (t 47)),
o 5 (.mv (i 5))])
z)
k)))))))
(r [o 48 (N .add (t 24) (i 1)),
a 24 48])))))))
(s (r [o 49 (.loadN 6 (t 7)),
q (.store 6 (t 4) (t 49)),
o 5 (.mv (i 0))])
z))))))⟩

def ir27 : IFunc := ⟨[.tmp 2],
(s (r [o 2 (.mv (c (.slice none 0 0)))])
(s (r [a 3 0,
o 4 (.call (f 57) [(c (.slice none 0 0)),(t 3)]),
a 2 4])
z))⟩

def ir28 : IFunc := ⟨[],
(s (r [o 2 (.box 6 (t 0))])
(s (r [p 6 5 2,
l 7 6,
o 8 (.len (t 7)),
o 9 (.mkSlice 8 [(.int .i64 0)] (t 8) (t 8)),
a 4 9])
(b 0 (lo (b 1 (s (s (r [a 10 1,
a 11 4,
o 12 (.call (f 58) [(t 11)]),
o 13 (.call (t 10) [(t 12)]),
o 14 (.not (t 13))])
(w (t 14) z
k))
(s (r [a 15 4,
o 16 (.len (t 15)),
o 17 (N .sub (t 16) (i 1)),
a 5 17])
(s (b 2 (lo (s (s (d [u 0 (a 18 5) [],
u 1 (o 19 (N .geq (t 18) (i 0))) [],
u 2 (a 20 19) [],
u 3 (g 21 20 true (.mv (t 4))) [],
u 4 (g 22 20 true (.mv (t 5))) [],
u 5 (g 23 20 true (.idxS 1 (t 21) (t 22))) [],
u 6 (g 24 20 true (.load1 (t 23))) [],
u 7 (g 25 20 true (.faddr 5 (t 2))) [],
u 8 (g 26 20 true (.load1 (t 25))) [1],
u 9 (g 27 20 true (.mv (t 5))) [],
u 10 (g 28 20 true (.idxS 1 (t 26) (t 27))) [],
u 11 (g 29 20 true (.load1 (t 28))) [4],
u 12 (g 30 20 true (N .sub (t 29) (i 1))) [],
u 13 (g 31 20 true (N .eql (t 24) (t 30))) [],
u 14 (o 32 (.pick (t 20) (t 31) n)) []])
(w (t 32) k
(e 2)))
(b 3 (s (r [a 33 4,
a 34 5,
o 35 (.idxS 1 (t 33) (t 34)),
q (.store 1 (t 35) (i 0))])
(r [a 36 5,
o 37 (N .sub (t 36) (i 1)),
a 5 37]))))))
(s (s (r [a 38 5,
o 39 (N .lss (t 38) (i 0))])
(w (t 39) z
k))
(r [a 40 4,
a 41 5,
o 42 (.idxS 1 (t 40) (t 41)),
l 43 42,
o 44 (N .add (t 43) (i 1)),
o 45 (.idxS 1 (t 40) (t 41)),
q (.store 1 (t 45) (t 44))]))))))))))⟩

def ir29 : IFunc := ⟨[.cellN 4 6,.tmp 5],
(s (r [o 2 (.box 6 (t 0)),
o 4 (.mk 85 [(.slice none 0 0),(.bool false),(.int .i64 0),(.bool false),(.slice none 0 0),(.slice none 0 0)]),
o 5 (.mv (i 0))])
(s (s (r [o 7 (.loadN 6 (t 2)),
o 8 (.call (f 59) [(t 7)]),
a 6 8])
(s (r [a 9 6,
o 10 (N .neq (t 9) (i 0))])
(w (t 10) (s (r [o 11 (.build [(.slice none 0 0),(.bool false),(.int .i64 0),(.bool false),(.slice none 0 0),(.slice none 0 0)] []),
a 12 6,
q (.store 6 (t 4) (t 11)),
a 5 12])
z)
k)))
(s (r [p 13 0 2,
o 14 (.loadN 4 (t 13)),
a 15 1,
o 16 (.call (f 26) [(t 14),(t 15)]),
o 17 (.extract 0 (t 16)),
o 18 (.extract 1 (t 16)),
q (.store 6 (t 4) (t 17)),
a 5 18])
z)))⟩

def ir30 : IFunc := ⟨[.tmp 6],
(s (r [o 6 (.mv n)])
(s (s (r [a 10 0,
o 11 (.len (t 10)),
a 12 1,
o 13 (.len (t 12)),
o 14 (N .neq (t 11) (t 13))])
(w (t 14) (s (r [o 6 (.mv n)])
z)
k))
(s (s (r [a 15 0,
o 16 (.len (t 15)),
o 17 (.mv (i 0))])
(b 0 (lo (s (r [o 18 (N .lss (t 17) (t 16))])
(s (w (t 18) k
(e 0))
(s (b 1 (s (r [a 19 17,
o 20 (.idxS 1 (t 15) (t 17)),
l 21 20,
a 7 19,
a 8 21])
(s (r [a 22 1,
a 23 7,
o 24 (.idxS 1 (t 22) (t 23)),
l 25 24,
a 9 25])
(s (r [a 26 2,
a 27 8,
a 28 9,
o 29 (.call (t 26) [(t 27),(t 28)]),
o 30 (.not (t 29))])
(w (t 30) (s (r [o 6 (.mv n)])
z)
k)))))
(r [o 31 (N .add (t 17) (i 1)),
a 17 31])))))))
(s (r [o 6 (.mv y)])
z))))⟩

def ir31 : IFunc := ⟨[.tmp 4],
(s (r [o 4 (.mv n)])
(s (r [a 5 0,
o 6 (N .geq (t 5) (i 0)),
a 7 6,
g 8 7 true (.mv (t 0)),
g 9 7 true (.mv (t 1)),
g 10 7 true (N .lss (t 8) (t 9)),
o 11 (.pick (t 7) (t 10) n),
a 4 11])
z))⟩

def ir32 : IFunc := ⟨[.cellN 6 2,.tmp 7],
(s (r [o 3 (.box 6 (t 0)),
o 4 (.box 2 (t 1)),
o 6 (.mk 33 [(.slice none 0 0),(.slice none 0 0)]),
o 7 (.mv (i 0))])
(s (s (r [p 11 4 3,
l 12 11,
o 13 (.len (t 12)),
o 14 (.mv (i 0))])
(b 0 (lo (s (r [o 15 (N .lss (t 14) (t 13))])
(s (w (t 15) k
(e 0))
(s (b 1 (s (r [a 16 14,
o 17 (.idxS 1 (t 12) (t 14)),
l 18 17,
a 8 16,
a 9 18])
(s (r [o 10 (.mv (i 0))])
(s (d [u 0 (o 20 (.loadN 2 (t 4))) [],
u 1 (a 21 9) [],
u 2 (p 22 5 3) [],
u 3 (l 23 22) [2],
u 4 (a 24 8) [],
u 5 (o 25 (.idxS 1 (t 23) (t 24))) [],
u 6 (l 26 25) [5],
u 7 (a 27 2) [],
u 8 (a 28 8) [],
u 9 (o 29 (.idxS 1 (t 27) (t 28))) [],
u 10 (l 30 29) [3,6,9],
u 11 (o 31 (.build [(.int .i64 0),(.int .i64 0),(.int .i64 0)] [(0,1,(t 21)),(1,1,(t 26)),(2,1,(t 30))])) [],
u 12 (o 32 (.call (f 60) [(t 20),(t 31)])) [],
u 13 (a 19 32) [],
u 14 (o 33 (.extract 0 (t 19))) [],
u 15 (o 34 (.extract 1 (t 19))) [],
u 16 (q (.store 2 (t 4) (t 33))) [],
u 17 (a 10 34) []])
(s (r [a 35 10,
o 36 (N .neq (t 35) (i 0))])
(w (t 36) (s (r [o 37 (.build [(.slice none 0 0),(.slice none 0 0)] []),
a 38 10,
q (.store 2 (t 6) (t 37)),
a 7 38])
z)
k))))))
(r [o 39 (N .add (t 14) (i 1)),
a 14 39])))))))
(s (r [o 40 (.loadN 2 (t 4)),
q (.store 2 (t 6) (t 40)),
o 7 (.mv (i 0))])
z)))⟩

def ir33 : IFunc := ⟨[.cellN 2 2],
(s (r [o 1 (.box 2 (t 0)),
o 2 (.mk 33 [(.slice none 0 0),(.slice none 0 0)])])
(s (r [p 6 1 1,
l 7 6,
o 8 (.call (f 61) [(t 7)]),
o 9 (.build [(.slice none 0 0),(.slice none 0 0)] [(1,1,(t 8))]),
o 3 (.mk 33 [(.slice none 0 0),(.slice none 0 0)]),
q (.store 2 (t 3) (t 9))])
(s (s (r [p 10 0 1,
l 11 10,
o 12 (.len (t 11)),
o 13 (.mv (i 0))])
(b 0 (lo (s (r [o 14 (N .lss (t 13) (t 12))])
(s (w (t 14) k
(e 0))
(s (b 1 (s (r [o 15 (.idxS 1 (t 11) (t 13)),
l 16 15,
a 5 16])
(d [u 2 (a 19 5) [],
u 3 (o 20 (.call (f 62) [(t 19)])) [],
u 0 (p 17 0 3) [],
u 1 (l 18 17) [1],
u 4 (o 21 (.buildSlice 1 [(.slice none 0 0)] [(0,1,(t 20))])) [0],
u 5 (o 22 (.append 140 1 24 (t 18) (t 21))) [],
u 6 (p 23 0 3) [],
u 7 (q (.store 1 (t 23) (t 22))) []])))
(r [o 24 (N .add (t 13) (i 1)),
a 13 24])))))))
(s (r [o 25 (.loadN 2 (t 3)),
q (.store 2 (t 2) (t 25))])
z))))⟩

def ir34 : IFunc := ⟨[.tmp 2,.tmp 3],
(s (r [o 1 (.box 10 (t 0)),
o 2 (.mv (c (.slice none 0 0))),
o 3 (.mv (i 0))])
(s (r [o 7 (.loadN 10 (t 1)),
o 8 (.call (f 23) [(t 7)]),
a 6 8,
o 9 (.extract 0 (t 6)),
o 10 (.extract 1 (t 6)),
a 4 9,
a 5 10])
(s (s (r [a 11 5,
o 12 (N .neq (t 11) (i 0))])
(w (t 12) (s (r [a 13 5,
o 2 (.mv (c (.slice none 0 0))),
a 3 13])
z)
k))
(s (r [a 14 4,
o 15 (.mkfn (.func 24) [(t 14)] []),
o 16 (.call (f 63) [(t 15)]),
a 2 16,
o 3 (.mv (i 0))])
z))))⟩

def ir35 : IFunc := ⟨[.tmp 4,.tmp 5],
(s (r [o 2 (.box 6 (t 0)),
o 4 (.mv (c (.slice none 0 0))),
o 5 (.mv (i 0))])
(s (r [o 6 (.loadN 6 (t 2)),
a 7 1,
o 8 (.call (f 21) [(t 6),(t 7),(f 64)]),
o 9 (.extract 0 (t 8)),
o 10 (.extract 1 (t 8)),
a 4 9,
a 5 10])
z))⟩

def ir36 : IFunc := ⟨[.cell1 4,.cell1 5],
(s (r [o 2 (.box 6 (t 0)),
o 4 (.mk 69 [(.pointer none)]),
o 5 (.mk 22 [(.int .i64 0)])])
(s (r [o 14 (.loadN 6 (t 2)),
a 15 1,
o 16 (.call (f 29) [(t 14),(t 15)]),
a 13 16,
o 17 (.extract 0 (t 13)),
o 18 (.extract 1 (t 13)),
o 6 (.mk 85 [(.slice none 0 0),(.bool false),(.int .i64 0),(.bool false),(.slice none 0 0),(.slice none 0 0)]),
q (.store 6 (t 6) (t 17)),
a 7 18])
(s (s (r [a 19 7,
o 20 (N .neq (t 19) (i 0))])
(w (t 20) (s (r [a 21 7,
q (.store 1 (t 4) (c (.pointer none))),
q (.store 1 (t 5) (t 21))])
z)
k))
(s (r [o 22 (.loadN 6 (t 6)),
o 23 (.build [(.slice none 0 0),(.bool false),(.int .i64 0),(.bool false),(.slice none 0 0),(.slice none 0 0),(.slice none 0 0),(.slice none 0 0),(.slice none 0 0)] [(0,6,(t 22))]),
o 24 (.box 9 (t 23)),
o 8 (.mk 69 [(.pointer none)]),
q (.store 1 (t 8) (t 24))])
(s (s (r [o 25 (.loadN 6 (t 6)),
o 26 (.mkfn (.func 28) [(t 25)] [])])
(b 0 (.rangeFunc (t 26) [27] (r [a 9 27])
(b 1 (s (d [u 1 (p 30 4 2) [],
u 2 (o 31 (.loadN 2 (t 30))) [],
u 3 (o 32 (.call (f 33) [(t 31)])) [],
u 0 (o 29 (.loadN 6 (t 6))) [0,1],
u 4 (a 33 9) [],
u 5 (o 34 (.call (f 32) [(t 29),(t 32),(t 33)])) [],
u 6 (a 28 34) [],
u 7 (o 35 (.extract 0 (t 28))) [],
u 8 (o 36 (.extract 1 (t 28))) [],
u 9 (o 10 (.mk 33 [(.slice none 0 0),(.slice none 0 0)])) [3,5,6,7],
u 10 (q (.store 2 (t 10) (t 35))) [],
u 11 (a 11 36) []])
(s (s (r [a 37 11,
o 38 (N .neq (t 37) (i 0))])
(w (t 38) (s (r [a 39 11,
q (.store 1 (t 4) (c (.pointer none))),
q (.store 1 (t 5) (t 39))])
z)
k))
(s (d [u 0 (l 40 8) [],
u 1 (l 41 8) [0],
u 2 (l 42 8) [0,1],
u 3 (o 43 (.nilCheck (t 42))) [],
u 4 (p 44 6 43) [],
u 5 (l 45 44) [3,4],
u 6 (a 46 9) [],
u 7 (o 47 (.buildSlice 1 [(.slice none 0 0)] [(0,1,(t 46))])) [1,4,5,6],
u 8 (o 48 (.append 37 1 24 (t 45) (t 47))) [6,7],
u 9 (l 49 8) [0,1,3,6,7,8],
u 10 (o 50 (.nilCheck (t 49))) [],
u 11 (p 51 7 50) [],
u 12 (l 52 51) [3,4,6,9,10,11],
u 13 (o 53 (.loadN 2 (t 10))) [0,3,4,5,7,10,11,12],
u 14 (o 54 (.buildSlice 1 [(.slice none 0 0),(.slice none 0 0)] [(0,2,(t 53))])) [1,4,5,6,8,11,12,13],
u 15 (o 55 (.append 33 2 48 (t 52) (t 54))) [13,14],
u 16 (o 56 (.nilCheck (t 40))) [],
u 17 (p 57 6 56) [],
u 18 (q (.store 1 (t 57) (t 48))) [16],
u 19 (o 58 (.nilCheck (t 41))) [],
u 20 (p 59 7 58) [],
u 21 (q (.store 1 (t 59) (t 55))) []])
(s (r [l 60 8,
o 61 (.nilCheck (t 60)),
p 62 7 61,
l 63 62,
o 64 (.mkfn (.func 66) [] [(t 10)]),
o 65 (.call (f 65) [(t 63),(t 64)]),
a 12 65])
(d [u 0 (l 66 8) [],
u 1 (l 67 8) [0],
u 2 (o 68 (.nilCheck (t 67))) [],
u 3 (p 69 8 68) [],
u 4 (l 70 69) [3],
u 5 (a 71 12) [],
u 6 (o 72 (.buildSlice 1 [(.int .i64 0)] [(0,1,(t 71))])) [1,4,5],
u 7 (o 73 (.append 3 1 8 (t 70) (t 72))) [6],
u 8 (o 74 (.nilCheck (t 66))) [],
u 9 (p 75 8 74) [],
u 10 (q (.store 1 (t 75) (t 73))) []])))))))))
(s (r [l 76 8,
q (.store 1 (t 4) (t 76)),
q (.store 1 (t 5) (i 0))])
z))))))⟩

def ir37 : IFunc := ⟨[.tmp 2],
(s (r [o 2 (.mv (i 0))])
(s (r [a 3 0,
o 4 (.nilCheck (t 3)),
p 5 8 4,
l 6 5,
o 7 (.call (f 68) [(t 6),(f 69)]),
a 2 7])
z))⟩

def ir38 : IFunc := ⟨[.tmp 4],
(s (r [o 2 (.box 4 (t 0)),
o 3 (.box 5 (t 1)),
o 4 (.mv (i 0))])
(s (s (r [o 6 (.loadN 4 (t 2)),
o 7 (.call (f 70) [(t 6)]),
a 5 7])
(s (r [a 8 5,
o 9 (N .neq (t 8) (i 0))])
(w (t 9) (s (r [a 10 5,
a 4 10])
z)
k)))
(s (s (r [o 11 (.loadN 5 (t 3)),
o 12 (.call (f 71) [(t 11)]),
o 13 (N .gtr (t 12) (i 600))])
(w (t 13) (s (r [o 4 (.mv (i 5))])
z)
k))
(s (s (d [u 3 (o 17 (.loadN 4 (t 2))) [],
u 4 (o 18 (.call (f 73) [(t 17)])) [],
u 0 (o 14 (.loadN 5 (t 3))) [0,1],
u 1 (p 15 1 2) [],
u 2 (o 16 (.loadN 2 (t 15))) [1,2,3],
u 5 (o 19 (.call (f 72) [(t 14),(t 16),(t 18),(i 0)])) [],
u 6 (o 20 (.not (t 19))) []])
(w (t 20) (s (r [o 4 (.mv (i 4))])
z)
k))
(s (r [o 4 (.mv (i 0))])
z)))))⟩

def ir39 : IFunc := ⟨[.cellN 4 2,.tmp 5],
(s (r [o 2 (.box 4 (t 0)),
o 3 (.box 5 (t 1)),
o 4 (.mk 33 [(.slice none 0 0),(.slice none 0 0)]),
o 5 (.mv n)])
(s (d [u 0 (p 13 0 2) [],
u 1 (l 14 13) [],
u 2 (p 15 0 2) [],
u 3 (l 16 15) [1],
u 4 (o 17 (.len (t 16))) [],
u 5 (o 18 (.mkSlice 8 [(.int .i64 0)] (t 17) (t 17))) [3],
u 6 (p 19 3 2) [],
u 7 (l 20 19) [1,3,5],
u 8 (o 21 (.build [(.slice none 0 0),(.slice none 0 0),(.bool false)] [(0,1,(t 14)),(1,1,(t 18)),(2,1,(t 20))])) [],
u 9 (o 6 (.mk 154 [(.slice none 0 0),(.slice none 0 0),(.bool false)])) [1,3,5,7],
u 10 (q (.store 3 (t 6) (t 21))) []])
(s (r [o 22 (.buildSlice 1 [(.int .i64 0)] [(0,1,(i 0))]),
o 23 (.build [(.slice none 0 0),(.slice none 0 0),(.slice none 0 0)] [(2,1,(t 22))]),
o 24 (.build [(.slice none 0 0),(.slice none 0 0),(.slice none 0 0)] [(0,3,(t 23))]),
o 25 (.box 3 (t 24)),
a 7 25])
(s (r [a 26 7,
o 27 (.call (f 74) [(t 26),n]),
a 8 27])
(s (r [o 28 (.loadN 4 (t 2)),
o 29 (.call (f 75) [(t 28),(i 0),(i 0)]),
a 9 29])
(s (s (r [o 10 (.mv (i 0))])
(b 0 (lo (s (s (r [a 30 10,
a 31 9,
o 32 (.len (t 31)),
o 33 (N .lss (t 30) (t 32))])
(w (t 33) k
(e 0)))
(s (b 1 (s (d [u 0 (o 37 (.loadN 3 (t 6))) [],
u 1 (o 38 (.loadN 5 (t 3))) [0],
u 2 (p 39 1 2) [],
u 3 (o 40 (.loadN 2 (t 39))) [1,2],
u 4 (a 41 9) [],
u 5 (a 42 10) [],
u 6 (o 43 (.idxS 4 (t 41) (t 42))) [],
u 7 (o 44 (.loadN 4 (t 43))) [3,5,6],
u 8 (o 45 (.call (f 76) [(t 37),(t 38),(t 40),(t 44)])) [],
u 9 (a 36 45) [],
u 10 (o 46 (.extract 0 (t 36))) [],
u 11 (o 47 (.extract 1 (t 36))) [],
u 12 (o 11 (.mk 33 [(.slice none 0 0),(.slice none 0 0)])) [3,4,8,10,11],
u 13 (q (.store 2 (t 11) (t 46))) [],
u 14 (a 12 47) []])
(s (s (r [a 48 12,
o 49 (.not (t 48))])
(w (t 49) (s (r [o 50 (.build [(.slice none 0 0),(.slice none 0 0)] []),
q (.store 2 (t 4) (t 50)),
o 5 (.mv n)])
z)
k))
(d [u 6 (a 57 7) [],
u 7 (o 58 (.loadN 2 (t 11))) [],
u 8 (o 59 (.call (f 78) [(t 57),(t 58)])) [],
u 0 (a 51 7) [],
u 1 (a 52 8) [],
u 2 (a 53 9) [],
u 3 (a 54 10) [],
u 4 (o 55 (.idxS 4 (t 53) (t 54))) [],
u 5 (o 56 (.loadN 4 (t 55))) [5,6],
u 9 (o 60 (.call (f 77) [(t 51),(t 52),(t 56),(t 59)])) []]))))
(r [a 34 10,
o 35 (N .add (t 34) (i 1)),
a 10 35]))))))
(s (r [a 61 7,
o 62 (.call (f 79) [(t 61)]),
o 63 (.extract 0 (t 62)),
o 64 (.extract 1 (t 62)),
q (.store 2 (t 4) (t 63)),
a 5 64])
z)))))))⟩

def ir40 : IFunc := ⟨[.cellN 4 5,.tmp 5],
(s (r [o 2 (.box 4 (t 0)),
o 4 (.mk 51 [(.int .u8 0),(.int .i64 0),(.int .i64 0),(.int .i64 0),(.slice none 0 0)]),
o 5 (.mv (i 0))])
(s (s (r [o 9 (.loadN 4 (t 2)),
o 10 (.call (f 70) [(t 9)]),
a 6 10])
(s (r [a 11 6,
o 12 (N .neq (t 11) (i 0))])
(w (t 12) (s (r [o 13 (.build [(.int .u8 0),(.int .i64 0),(.int .i64 0),(.int .i64 0),(.slice none 0 0)] []),
a 14 6,
q (.store 5 (t 4) (t 13)),
a 5 14])
z)
k)))
(s (s (r [a 15 1,
o 16 (.lenStr (t 15)),
o 17 (N .gtr (t 16) (i 9000))])
(w (t 17) (s (r [o 18 (.build [(.int .u8 0),(.int .i64 0),(.int .i64 0),(.int .i64 0),(.slice none 0 0)] []),
q (.store 5 (t 4) (t 18)),
o 5 (.mv (i 5))])
z)
k))
(s (r [a 19 1,
o 20 (.build [(.string ⟨#[]⟩),(.int .i64 0),(.bool false)] [(0,1,(t 19))]),
o 21 (.box 3 (t 20)),
a 7 21])
(s (r [a 22 7,
o 23 (.call (f 80) [(t 22)]),
o 8 (.mk 51 [(.int .u8 0),(.int .i64 0),(.int .i64 0),(.int .i64 0),(.slice none 0 0)]),
q (.store 5 (t 8) (t 23))])
(s (s (r [a 24 7,
o 25 (.nilCheck (t 24)),
p 26 2 25,
l 27 26,
a 28 27,
g 29 28 false (.mv (t 7)),
g 30 28 false (.nilCheck (t 29)),
g 31 28 false (.faddr 1 (t 30)),
g 32 28 false (.load1 (t 31)),
g 33 28 false (.mv (t 1)),
g 34 28 false (.lenStr (t 33)),
g 35 28 false (N .neq (t 32) (t 34)),
o 36 (.pick (t 28) y (t 35)),
a 37 36,
g 38 37 false (.loadN 4 (t 2)),
g 39 37 false (.loadN 5 (t 8)),
g 40 37 false (.call (f 38) [(t 38),(t 39)]),
g 41 37 false (N .neq (t 40) (i 0)),
o 42 (.pick (t 37) y (t 41)),
a 43 42,
g 44 43 false (.loadN 5 (t 8)),
g 45 43 false (.call (f 81) [(t 44)]),
g 46 43 false (.mv (t 1)),
g 47 43 false (.bin .str .neq (t 45) (t 46)),
o 48 (.pick (t 43) y (t 47))])
(w (t 48) (s (r [o 49 (.build [(.int .u8 0),(.int .i64 0),(.int .i64 0),(.int .i64 0),(.slice none 0 0)] []),
q (.store 5 (t 4) (t 49)),
o 5 (.mv (i 4))])
z)
k))
(s (r [o 50 (.loadN 5 (t 8)),
q (.store 5 (t 4) (t 50)),
o 5 (.mv (i 0))])
z)))))))⟩

def ir41 : IFunc := ⟨[.tmp 4],
(s (r [o 2 (.box 2 (t 0)),
o 4 (.mv n)])
(s (r [a 5 1,
o 6 (N .geq (t 5) (i 0)),
a 7 6,
g 8 7 true (.faddr 1 (t 2)),
g 9 7 true (.load1 (t 8)),
g 10 7 true (.mv (t 1)),
g 11 7 true (.idxS 1 (t 9) (t 10)),
g 12 7 true (.load1 (t 11)),
o 13 (.pick (t 7) (t 12) n),
a 4 13])
z))⟩

def ir42 : IFunc := ⟨[.tmp 6],
(s (r [o 3 (.box 2 (t 0)),
o 4 (.box 2 (t 1)),
o 5 (.box 3 (t 2)),
o 6 (.mv (c (.slice none 0 0)))])
(s (r [o 7 (.mk 38 [(.slice none 0 0)])])
(s (r [o 9 (.mkfn (.func 82) [] [(t 7)]),
a 8 9])
(s (r [a 10 8,
o 11 (.loadN 2 (t 3)),
p 12 0 5,
l 13 12,
o 14 (.call (t 10) [(t 11),(t 13)])])
(s (r [a 15 8,
o 16 (.loadN 2 (t 4)),
p 17 1 5,
l 18 17,
o 19 (.call (t 15) [(t 16),(t 18)])])
(s (r [l 20 7,
o 21 (.call (f 83) [(t 20),(f 84)])])
(s (r [l 22 7,
o 23 (.call (f 86) [(t 22)]),
a 6 23])
z)))))))⟩

def ir43 : IFunc := ⟨[.tmp 6],
(s (r [o 3 (.box 2 (t 0)),
o 5 (.box 4 (t 2)),
o 6 (.mv (i 0))])
(s (s (r [a 9 1,
o 10 (N .lss (t 9) (i 0))])
(w (t 10) (s (r [o 6 (.mv (i (-1)))])
z)
k))
(s (s (r [p 11 0 3,
l 12 11,
a 13 1,
o 14 (.idxS 1 (t 12) (t 13)),
l 15 14,
o 16 (.len (t 15)),
o 17 (.mv (i 0))])
(b 0 (lo (s (r [o 18 (N .lss (t 17) (t 16))])
(s (w (t 18) k
(e 0))
(s (b 1 (s (r [o 19 (.idxS 5 (t 15) (t 17)),
o 20 (.loadN 5 (t 19)),
o 8 (.mk 143 [(.int .i64 0),(.int .i64 0),(.int .u8 0),(.int .i64 0),(.int .i64 0)]),
q (.store 5 (t 8) (t 20))])
(s (r [p 21 0 8,
o 22 (.loadN 4 (t 21)),
o 23 (.loadN 4 (t 5)),
o 24 (.eqF (.ag [(0,.num),(1,.num),(2,.num),(3,.num)]) false (t 22) (t 23))])
(w (t 24) (s (r [p 25 4 8,
l 26 25,
a 6 26])
z)
k))))
(r [o 27 (N .add (t 17) (i 1)),
a 17 27])))))))
(s (r [o 6 (.mv (i (-1)))])
z))))⟩

def ir44 : IFunc := ⟨[.tmp 2],
(s (r [o 2 (.mv (c (.slice none 0 0)))])
(s (s (r [a 3 0,
o 4 (.bin .slc .eql (t 3) (c (.slice none 0 0)))])
(w (t 4) (s (r [o 2 (.mv (c (.slice none 0 0)))])
z)
k))
(s (r [o 5 (.buildSlice 0 [] []),
a 6 0,
o 7 (.append 47 4 32 (t 5) (t 6)),
a 2 7])
z)))⟩

def ir45 : IFunc := ⟨[.tmp 4,.tmp 5],
(s (r [o 4 (.mv (i 0)),
o 5 (.mv n)])
(s (r [o 6 (.mv (i 0))])
(s (s (r [a 8 0,
o 9 (.len (t 8)),
o 10 (.mv (i 0))])
(b 0 (lo (s (r [o 11 (N .lss (t 10) (t 9))])
(s (w (t 11) k
(e 0))
(s (b 1 (s (r [a 12 10,
a 7 12])
(s (d [u 0 (a 13 0) [],
u 1 (a 14 7) [],
u 2 (o 15 (.idxS 1 (t 13) (t 14))) [],
u 3 (l 16 15) [],
u 4 (a 17 1) [],
u 5 (a 18 7) [],
u 6 (o 19 (.idxS 1 (t 17) (t 18))) [],
u 7 (l 20 19) [3],
u 8 (o 21 (N .neq (t 16) (t 20))) []])
(w (t 21) (s (r [a 22 7,
a 4 22])
(r [a 23 6,
o 24 (N .add (t 23) (i 1)),
a 6 24]))
k))))
(r [o 25 (N .add (t 10) (i 1)),
a 10 25])))))))
(s (r [a 26 4,
a 27 6,
o 28 (N .eql (t 27) (i 1)),
a 4 26,
a 5 28])
z))))⟩

def ir46 : IFunc := ⟨[.tmp 4],
(s (r [o 2 (.box 4 (t 0)),
o 3 (.box 5 (t 1)),
o 4 (.mv (i 0))])
(s (s (r [o 9 (.loadN 4 (t 2)),
o 10 (.call (f 25) [(t 9)]),
a 5 10])
(s (r [a 11 5,
o 12 (N .neq (t 11) (i 0))])
(w (t 12) (s (r [a 13 5,
a 4 13])
z)
k)))
(s (s (r [o 14 (.loadN 5 (t 3)),
o 15 (.call (f 87) [(t 14)]),
o 16 (N .gtr (t 15) (i 600))])
(w (t 16) (s (r [o 4 (.mv (i 5))])
z)
k))
(s (d [u 3 (o 20 (.call (f 88) [])) [],
u 0 (p 17 0 2) [],
u 1 (l 18 17) [1],
u 2 (o 19 (.len (t 18))) [],
u 4 (o 21 (.build [(.slice none 0 0),(.int .i64 0),(.int .i64 0),(.map none)] [(1,1,(t 19)),(3,1,(t 20))])) [],
u 5 (o 6 (.mk 180 [(.slice none 0 0),(.int .i64 0),(.int .i64 0),(.map none)])) [2,4],
u 6 (q (.store 4 (t 6) (t 21))) []])
(s (s (r [p 22 0 2,
l 23 22,
o 24 (.len (t 23)),
o 25 (.mv (i 0))])
(b 0 (lo (s (r [o 26 (N .lss (t 25) (t 24))])
(s (w (t 26) k
(e 0))
(s (b 1 (s (r [o 27 (.idxS 3 (t 23) (t 25)),
o 28 (.loadN 3 (t 27)),
o 8 (.mk 59 [(.slice none 0 0),(.bool false),(.int .i64 0)]),
q (.store 3 (t 8) (t 28))])
(r [p 29 0 6,
l 30 29,
o 31 (.loadN 3 (t 8)),
o 32 (.build [(.slice none 0 0),(.bool false),(.int .i64 0),(.bool false)] [(0,3,(t 31))]),
o 33 (.buildSlice 1 [(.slice none 0 0),(.bool false),(.int .i64 0),(.bool false)] [(0,4,(t 32))]),
o 34 (.append 182 4 48 (t 30) (t 33)),
p 35 0 6,
q (.store 1 (t 35) (t 34))])))
(r [o 36 (N .add (t 25) (i 1)),
a 25 36])))))))
(s (s (r [o 37 (.loadN 4 (t 6)),
o 38 (.loadN 5 (t 3)),
p 39 1 2,
o 40 (.loadN 2 (t 39)),
o 41 (.call (f 89) [(t 37),(t 38),(t 40)]),
o 42 (.not (t 41))])
(w (t 42) (s (r [o 4 (.mv (i 4))])
z)
k))
(s (r [o 4 (.mv (i 0))])
z)))))))⟩

def ir47 : IFunc := ⟨[.tmp 4],
(s (r [o 2 (.box 4 (t 0)),
o 3 (.box 1 (t 1)),
o 4 (.mv (i 0))])
(s (s (r [l 7 3,
o 8 (.len (t 7)),
o 9 (N .gtr (t 8) (i 3))])
(w (t 9) (s (r [o 4 (.mv (i 5))])
z)
k))
(s (r [o 10 (.mkfn (.func 90) [] [(t 3)]),
a 5 10])
(s (b 0 (s (r [a 12 5,
o 13 (.mkfn (.func 92) [] [(t 2)]),
o 14 (.call (t 12) [(t 13)]),
a 11 14])
(w (t 11) (s (r [o 4 (.mv (i 7))])
z)
(s (r [a 16 5,
o 17 (.mkfn (.func 93) [] [(t 2)]),
o 18 (.call (t 16) [(t 17)]),
a 15 18])
(w (t 15) (s (r [o 4 (.mv (i 11))])
z)
k)))))
(s (s (r [l 19 3,
o 20 (.len (t 19)),
o 21 (.mv (i 0))])
(b 1 (lo (s (r [o 22 (N .lss (t 21) (t 20))])
(s (w (t 22) k
(e 1))
(s (b 2 (s (r [a 23 21,
a 6 23])
(s (d [u 0 (a 24 6) [],
u 1 (o 25 (N .gtr (t 24) (i 0))) [],
u 2 (a 26 25) [],
u 3 (g 27 26 true (.load1 (t 3))) [],
u 4 (g 28 26 true (.mv (t 6))) [],
u 5 (g 29 26 true (N .sub (t 28) (i 1))) [],
u 6 (g 30 26 true (.idxS 1 (t 27) (t 29))) [],
u 7 (g 31 26 true (.load1 (t 30))) [],
u 8 (g 32 26 true (.load1 (t 3))) [0,4],
u 9 (g 33 26 true (.mv (t 6))) [],
u 10 (g 34 26 true (.idxS 1 (t 32) (t 33))) [],
u 11 (g 35 26 true (.load1 (t 34))) [3,7],
u 12 (g 36 26 true (N .geq (t 31) (t 35))) [],
u 13 (o 37 (.pick (t 26) (t 36) n)) []])
(w (t 37) (s (r [o 4 (.mv (i 6))])
z)
k))))
(r [o 38 (N .add (t 21) (i 1)),
a 21 38])))))))
(s (r [o 4 (.mv (i 0))])
z))))))⟩

def ir48 : IFunc := ⟨[.tmp 8],
(s (r [o 5 (.box 5 (t 1)),
o 8 (.mv (i 0))])
(s (r [a 14 0,
o 15 (.nilCheck (t 14)),
p 16 10 15,
l 17 16,
o 18 (.len (t 17)),
a 9 18])
(s (d [u 7 (a 26 0) [],
u 8 (p 27 3 5) [],
u 9 (l 28 27) [],
u 10 (a 29 3) [],
u 11 (o 30 (.call (f 94) [(t 26),(t 28),(t 29)])) [],
u 0 (a 19 0) [],
u 1 (a 20 0) [],
u 2 (o 21 (.nilCheck (t 20))) [],
u 3 (p 22 10 21) [],
u 4 (l 23 22) [4,6],
u 5 (o 24 (.loadN 5 (t 5))) [0,5,7],
u 6 (a 25 2) [],
u 12 (o 31 (.build [(.int .u8 0),(.int .i64 0),(.int .i64 0),(.int .i64 0),(.slice none 0 0),(.int .i64 0),(.slice none 0 0),(.bool false),(.bool false),(.int .i64 0)] [(0,5,(t 24)),(5,1,(t 25)),(7,3,(t 30))])) [],
u 13 (o 32 (.buildSlice 1 [(.int .u8 0),(.int .i64 0),(.int .i64 0),(.int .i64 0),(.slice none 0 0),(.int .i64 0),(.slice none 0 0),(.bool false),(.bool false),(.int .i64 0)] [(0,10,(t 31))])) [3],
u 14 (o 33 (.append 190 10 104 (t 23) (t 32))) [],
u 15 (o 34 (.nilCheck (t 19))) [],
u 16 (p 35 10 34) [],
u 17 (q (.store 1 (t 35) (t 33))) []])
(s (s (r [p 36 4 5,
l 37 36,
o 38 (.len (t 37)),
o 39 (.mv (i 0))])
(b 0 (lo (s (r [o 40 (N .lss (t 39) (t 38))])
(s (w (t 40) k
(e 0))
(s (b 1 (s (r [a 41 39,
o 42 (.idxS 5 (t 37) (t 39)),
o 43 (.loadN 5 (t 42)),
o 11 (.mk 51 [(.int .u8 0),(.int .i64 0),(.int .i64 0),(.int .i64 0),(.slice none 0 0)]),
a 10 41,
q (.store 5 (t 11) (t 43))])
(s (r [a 44 3,
a 12 44])
(s (s (r [p 45 0 5,
l 46 45,
o 47 (N .eql (t 46) (c (.int .u8 10))),
a 48 47,
g 49 48 false (.faddr 0 (t 5)),
g 50 48 false (.load1 (t 49)),
g 51 48 false (N .eql (t 50) (c (.int .u8 17))),
g 52 48 false (.mv (t 51)),
g 53 52 true (.mv (t 10)),
g 54 52 true (N .eql (t 53) (i 1)),
g 55 48 false (.pick (t 52) (t 54) n),
o 56 (.pick (t 48) y (t 55))])
(w (t 56) (r [a 57 3,
o 58 (.call (f 58) [(t 57)]),
a 59 9,
o 60 (.buildSlice 1 [(.int .i64 0)] [(0,1,(t 59))]),
o 61 (.append 3 1 8 (t 58) (t 60)),
a 12 61])
k))
(s (r [a 62 0,
o 63 (.loadN 5 (t 11)),
a 64 9,
a 65 12,
o 66 (.call (f 48) [(t 62),(t 63),(t 64),(t 65)]),
a 13 66])
(d [u 0 (a 67 0) [],
u 1 (o 68 (.nilCheck (t 67))) [],
u 2 (p 69 10 68) [],
u 3 (l 70 69) [],
u 4 (a 71 9) [],
u 5 (a 72 0) [],
u 6 (o 73 (.nilCheck (t 72))) [],
u 7 (p 74 10 73) [],
u 8 (l 75 74) [4],
u 9 (a 76 9) [],
u 10 (o 77 (.idxS 10 (t 75) (t 76))) [],
u 11 (p 78 6 77) [],
u 12 (l 79 78) [8],
u 13 (a 80 13) [],
u 14 (o 81 (.buildSlice 1 [(.int .i64 0)] [(0,1,(t 80))])) [1,5,10],
u 15 (o 82 (.append 3 1 8 (t 79) (t 81))) [11],
u 16 (o 83 (.idxS 10 (t 70) (t 71))) [],
u 17 (p 84 6 83) [],
u 18 (q (.store 1 (t 84) (t 82))) []]))))))
(r [o 85 (N .add (t 39) (i 1)),
a 39 85])))))))
(s (r [a 86 9,
a 8 86])
z)))))⟩

def ir49 : IFunc := ⟨[.tmp 0],
(s (r [o 0 (.mv (c (.map none)))])
(s (r [o 1 (.mv (f 95))])
(s (r [o 2 (.mv (f 97))])
(s (r [o 3 (.mkmap),
q (.insert (.sc .num) (t 3) (c (.int .u8 2)) (f 98)),
q (.insert (.sc .num) (t 3) (c (.int .u8 3)) (f 99)),
a 4 1,
q (.insert (.sc .num) (t 3) (c (.int .u8 5)) (t 4)),
a 5 1,
q (.insert (.sc .num) (t 3) (c (.int .u8 8)) (t 5)),
a 6 1,
q (.insert (.sc .num) (t 3) (c (.int .u8 11)) (t 6)),
a 7 1,
q (.insert (.sc .num) (t 3) (c (.int .u8 13)) (t 7)),
a 8 2,
q (.insert (.sc .num) (t 3) (c (.int .u8 6)) (t 8)),
a 9 2,
q (.insert (.sc .num) (t 3) (c (.int .u8 10)) (t 9)),
a 10 2,
q (.insert (.sc .num) (t 3) (c (.int .u8 18)) (t 10)),
a 11 2,
q (.insert (.sc .num) (t 3) (c (.int .u8 7)) (t 11)),
a 12 3,
a 0 12])
z))))⟩

def ir50 : IFunc := ⟨[],
(s (r [a 9 0,
o 10 (.nilCheck (t 9)),
p 11 10 10,
l 12 11,
o 13 (.len (t 12)),
o 14 (.mv (i 0))])
(b 0 (lo (s (r [o 15 (N .lss (t 14) (t 13))])
(s (w (t 15) k
(e 0))
(s (b 1 (s (r [a 16 14,
o 17 (.idxS 10 (t 12) (t 14)),
o 18 (.loadN 10 (t 17)),
o 5 (.mk 190 [(.int .u8 0),(.int .i64 0),(.int .i64 0),(.int .i64 0),(.slice none 0 0),(.int .i64 0),(.slice none 0 0),(.bool false),(.bool false),(.int .i64 0)]),
a 4 16,
q (.store 10 (t 5) (t 18))])
(s (s (r [p 19 5 5,
l 20 19,
o 21 (N .geq (t 20) (i 0))])
(w (t 21) (s (d [u 0 (a 22 0) [],
u 1 (o 23 (.nilCheck (t 22))) [],
u 2 (p 24 10 23) [],
u 3 (l 25 24) [],
u 4 (p 26 5 5) [],
u 5 (l 27 26) [1],
u 6 (o 28 (.idxS 10 (t 25) (t 27))) [],
u 7 (o 29 (.loadN 10 (t 28))) [],
u 8 (o 6 (.mk 190 [(.int .u8 0),(.int .i64 0),(.int .i64 0),(.int .i64 0),(.slice none 0 0),(.int .i64 0),(.slice none 0 0),(.bool false),(.bool false),(.int .i64 0)])) [0,2,4],
u 9 (q (.store 10 (t 6) (t 29))) []])
(d [u 0 (a 30 0) [],
u 1 (a 31 0) [],
u 2 (o 32 (.nilCheck (t 31))) [],
u 3 (p 33 11 32) [],
u 4 (l 34 33) [],
u 5 (a 35 4) [],
u 6 (o 36 (.idxS 1 (t 34) (t 35))) [],
u 7 (a 37 0) [],
u 8 (o 38 (.nilCheck (t 37))) [],
u 9 (p 39 11 38) [],
u 10 (l 40 39) [5],
u 11 (p 41 5 5) [],
u 12 (l 42 41) [1,7],
u 13 (o 43 (.idxS 1 (t 40) (t 42))) [],
u 14 (l 44 43) [9],
u 15 (a 45 44) [],
u 16 (g 46 45 false (.faddr 0 (t 6))) [],
u 17 (g 47 45 false (.faddr 0 (t 46))) [],
u 18 (g 48 45 false (.load1 (t 47))) [13],
u 19 (g 49 45 false (N .eql (t 48) (c (.int .u8 8)))) [],
u 20 (g 50 45 false (.mv (t 49))) [],
u 21 (g 51 50 true (.faddr 6 (t 6))) [],
u 22 (g 52 50 true (.load1 (t 51))) [17],
u 23 (g 53 50 true (.idxS 1 (t 52) (i 0))) [],
u 24 (g 54 50 true (.load1 (t 53))) [19],
u 25 (g 55 50 true (.mv (t 4))) [],
u 26 (g 56 50 true (N .neq (t 54) (t 55))) [],
u 27 (g 57 45 false (.pick (t 50) (t 56) n)) [],
u 28 (g 58 45 false (.mv (t 57))) [],
u 29 (g 59 58 true (.mv (t 0))) [],
u 30 (g 60 58 true (.nilCheck (t 59))) [],
u 31 (g 61 58 true (.faddr 12 (t 60))) [],
u 32 (g 62 58 true (.load1 (t 61))) [27],
u 33 (g 63 58 true (.faddr 6 (t 6))) [],
u 34 (g 64 58 true (.load1 (t 63))) [1,29],
u 35 (g 65 58 true (.idxS 1 (t 64) (i 0))) [],
u 36 (g 66 58 true (.load1 (t 65))) [3,31],
u 37 (g 67 58 true (.idxS 1 (t 62) (t 66))) [],
u 38 (g 68 58 true (.load1 (t 67))) [33],
u 39 (g 69 45 false (.pick (t 58) (t 68) n)) [],
u 40 (o 70 (.pick (t 45) y (t 69))) [],
u 41 (o 71 (.call (f 100) [(t 30),(t 36),(t 70)])) []]))
k))
(s (s (r [a 73 1,
p 74 0 5,
p 75 0 74,
l 76 75,
o 77 (.lookup (.sc .num) .nilFunc true (t 73) (t 76)),
a 72 77,
o 78 (.extract 0 (t 72)),
o 79 (.extract 1 (t 72)),
a 7 78,
a 8 79])
(s (r [a 80 8])
(w (t 80) (d [u 7 (a 88 7) [],
u 8 (a 89 0) [],
u 9 (o 90 (.loadN 10 (t 5))) [],
u 10 (o 91 (.call (t 88) [(t 89),(t 90)])) [],
u 0 (a 81 0) [],
u 1 (a 82 0) [],
u 2 (o 83 (.nilCheck (t 82))) [],
u 3 (p 84 12 83) [],
u 4 (l 85 84) [4,5],
u 5 (a 86 4) [],
u 6 (o 87 (.idxS 1 (t 85) (t 86))) [],
u 11 (o 92 (.call (f 100) [(t 81),(t 87),(t 91)])) []])
k)))
(s (r [p 93 7 5,
p 94 2 93,
l 95 94,
o 96 (N .geq (t 95) (i 0)),
a 97 96,
g 98 97 true (.faddr 0 (t 5)),
g 99 97 true (.faddr 0 (t 98)),
g 100 97 true (.load1 (t 99)),
g 101 97 true (N .eql (t 100) (c (.int .u8 4))),
g 102 97 true (.mv (t 101)),
g 103 102 false (.faddr 0 (t 5)),
g 104 102 false (.faddr 0 (t 103)),
g 105 102 false (.load1 (t 104)),
g 106 102 false (N .eql (t 105) (c (.int .u8 18))),
g 107 97 true (.pick (t 102) y (t 106)),
o 108 (.pick (t 97) (t 107) n)])
(w (t 108) (d [u 0 (a 109 0) [],
u 1 (a 110 0) [],
u 2 (o 111 (.nilCheck (t 110))) [],
u 3 (p 112 13 111) [],
u 4 (l 113 112) [],
u 5 (p 114 7 5) [],
u 6 (p 115 2 114) [],
u 7 (l 116 115) [2],
u 8 (o 117 (.idxS 1 (t 113) (t 116))) [],
u 9 (a 118 0) [],
u 10 (o 119 (.nilCheck (t 118))) [],
u 11 (p 120 11 119) [],
u 12 (l 121 120) [4,7],
u 13 (a 122 4) [],
u 14 (o 123 (.idxS 1 (t 121) (t 122))) [],
u 15 (l 124 123) [7,10],
u 16 (a 125 124) [],
u 17 (g 126 125 false (.faddr 0 (t 5))) [],
u 18 (g 127 125 false (.faddr 0 (t 126))) [],
u 19 (g 128 125 false (.load1 (t 127))) [11,14],
u 20 (g 129 125 false (N .eql (t 128) (c (.int .u8 4)))) [],
u 21 (g 130 125 false (.mv (t 129))) [],
u 22 (g 131 130 true (.mv (t 0))) [],
u 23 (g 132 130 true (.nilCheck (t 131))) [],
u 24 (g 133 130 true (.faddr 12 (t 132))) [],
u 25 (g 134 130 true (.load1 (t 133))) [17,20],
u 26 (g 135 130 true (.faddr 6 (t 5))) [],
u 27 (g 136 130 true (.load1 (t 135))) [1,19,22],
u 28 (g 137 130 true (.idxS 1 (t 136) (i 0))) [],
u 29 (g 138 130 true (.load1 (t 137))) [3,21,24],
u 30 (g 139 130 true (.idxS 1 (t 134) (t 138))) [],
u 31 (g 140 130 true (.load1 (t 139))) [23,26],
u 32 (g 141 125 false (.pick (t 130) (t 140) n)) [],
u 33 (o 142 (.pick (t 125) y (t 141))) [],
u 34 (o 143 (.call (f 100) [(t 109),(t 117),(t 142)])) []])
k))))))
(r [o 144 (N .add (t 14) (i 1)),
a 14 144])))))))⟩

def ir51 : IFunc := ⟨[.tmp 4],
(s (r [o 4 (.mv n)])
(s (r [a 8 0,
o 9 (.nilCheck (t 8)),
p 10 10 9,
l 11 10,
a 12 1,
o 13 (.idxS 10 (t 11) (t 12)),
o 14 (.loadN 10 (t 13)),
o 5 (.mk 190 [(.int .u8 0),(.int .i64 0),(.int .i64 0),(.int .i64 0),(.slice none 0 0),(.int .i64 0),(.slice none 0 0),(.bool false),(.bool false),(.int .i64 0)]),
q (.store 10 (t 5) (t 14))])
(s (s (r [a 15 0,
o 16 (.nilCheck (t 15)),
p 17 11 16,
l 18 17,
a 19 1,
o 20 (.idxS 1 (t 18) (t 19)),
l 21 20,
a 22 21,
g 23 22 true (.loadN 10 (t 5)),
g 24 22 true (.call (f 101) [(t 23)]),
o 25 (.pick (t 22) (t 24) n)])
(w (t 25) (s (r [o 4 (.mv y)])
z)
k))
(s (d [u 0 (p 26 0 5) [],
u 1 (p 27 0 26) [],
u 2 (l 28 27) [],
u 3 (o 29 (N .eql (t 28) (c (.int .u8 16)))) [],
u 4 (a 30 29) [],
u 5 (g 31 30 true (.faddr 7 (t 5))) [],
u 6 (g 32 30 true (.faddr 0 (t 31))) [],
u 7 (g 33 30 true (.load1 (t 32))) [],
u 8 (g 34 30 true (.mv (t 33))) [],
u 9 (g 35 34 false (.faddr 7 (t 5))) [],
u 10 (g 36 34 false (.faddr 2 (t 35))) [],
u 11 (g 37 34 false (.load1 (t 36))) [],
u 12 (g 38 34 false (N .geq (t 37) (i 0))) [],
u 13 (g 39 34 false (.mv (t 38))) [],
u 14 (g 40 39 true (.mv (t 0))) [],
u 15 (g 41 39 true (.nilCheck (t 40))) [],
u 16 (g 42 39 true (.faddr 13 (t 41))) [],
u 17 (g 43 39 true (.load1 (t 42))) [],
u 18 (g 44 39 true (.faddr 7 (t 5))) [],
u 19 (g 45 39 true (.faddr 2 (t 44))) [],
u 20 (g 46 39 true (.load1 (t 45))) [2],
u 21 (g 47 39 true (.idxS 1 (t 43) (t 46))) [],
u 22 (g 48 39 true (.load1 (t 47))) [],
u 23 (g 49 34 false (.pick (t 39) (t 48) n)) [],
u 24 (g 50 30 true (.pick (t 34) y (t 49))) [],
u 25 (o 51 (.pick (t 30) (t 50) n)) [],
u 26 (a 6 51) []])
(s (s (r [p 52 5 5,
l 53 52,
o 54 (N .lss (t 53) (i 0))])
(w (t 54) (s (r [a 55 0,
o 56 (.nilCheck (t 55)),
p 57 12 56,
l 58 57,
a 59 1,
o 60 (.idxS 1 (t 58) (t 59)),
l 61 60,
a 62 61,
g 63 62 false (.mv (t 6)),
o 64 (.pick (t 62) y (t 63)),
a 4 64])
z)
k))
(s (d [u 0 (a 65 0) [],
u 1 (o 66 (.nilCheck (t 65))) [],
u 2 (p 67 10 66) [],
u 3 (l 68 67) [],
u 4 (p 69 5 5) [],
u 5 (l 70 69) [1],
u 6 (o 71 (.idxS 10 (t 68) (t 70))) [],
u 7 (o 72 (.loadN 10 (t 71))) [],
u 8 (o 7 (.mk 190 [(.int .u8 0),(.int .i64 0),(.int .i64 0),(.int .i64 0),(.slice none 0 0),(.int .i64 0),(.slice none 0 0),(.bool false),(.bool false),(.int .i64 0)])) [0,2,4],
u 9 (q (.store 10 (t 7) (t 72))) []])
(s (d [u 0 (a 73 0) [],
u 1 (o 74 (.nilCheck (t 73))) [],
u 2 (p 75 12 74) [],
u 3 (l 76 75) [],
u 4 (a 77 1) [],
u 5 (o 78 (.idxS 1 (t 76) (t 77))) [],
u 6 (l 79 78) [],
u 7 (a 80 79) [],
u 9 (g 82 80 true (.faddr 6 (t 7))) [],
u 10 (g 83 80 true (.load1 (t 82))) [],
u 11 (g 84 80 true (.mv (t 1))) [],
u 12 (g 85 80 true (.call (f 103) [(t 83),(t 84)])) [],
u 8 (g 81 80 true (.loadN 10 (t 7))) [0,2],
u 13 (g 86 80 true (.call (f 102) [(t 81),(t 85)])) [],
u 14 (o 87 (.pick (t 80) (t 86) n)) [],
u 15 (a 88 87) [],
u 16 (g 89 88 false (.mv (t 6))) [],
u 17 (g 90 88 false (.mv (t 89))) [],
u 18 (g 91 90 true (.faddr 0 (t 7))) [],
u 19 (g 92 90 true (.faddr 0 (t 91))) [],
u 20 (g 93 90 true (.load1 (t 92))) [],
u 21 (g 94 90 true (N .eql (t 93) (c (.int .u8 2)))) [],
u 22 (g 95 88 false (.pick (t 90) (t 94) n)) [],
u 23 (o 96 (.pick (t 88) y (t 95))) [],
u 24 (a 4 96) []])
z)))))))⟩

def ir52 : IFunc := ⟨[.tmp 2],
(s (r [o 1 (.box 3 (t 0)),
o 2 (.mv n)])
(s (r [p 3 0 1,
l 4 3,
o 5 (.len (t 4)),
o 6 (N .gtr (t 5) (i 5)),
a 2 6])
z))⟩

def ir53 : IFunc := ⟨[.tmp 2],
(s (r [o 1 (.box 3 (t 0)),
o 2 (.mv n)])
(s (r [o 3 (.loadN 3 (t 1)),
o 4 (.call (f 54) [(t 3)]),
o 5 (.not (t 4)),
a 2 5])
z))⟩

def ir54 : IFunc := ⟨[.tmp 2],
(s (r [o 1 (.box 3 (t 0)),
o 2 (.mv n)])
(s (r [o 3 (.mv (f 104))])
(s (r [p 4 1 1,
o 5 (.loadN 2 (t 4)),
o 6 (.call (f 56) [(t 5)]),
a 7 6,
g 8 7 true (.faddr 0 (t 1)),
g 9 7 true (.load1 (t 8)),
g 10 7 true (.mv (t 3)),
g 11 7 true (.call (f 105) [(t 9),(t 10)]),
g 12 7 true (.not (t 11)),
o 13 (.pick (t 7) (t 12) n),
a 14 13,
g 15 14 true (.faddr 0 (t 1)),
g 16 14 true (.load1 (t 15)),
g 17 14 true (.len (t 16)),
g 18 14 true (N .eql (t 17) (i 0)),
g 19 14 true (.mv (t 18)),
g 20 19 false (.faddr 1 (t 1)),
g 21 19 false (.faddr 0 (t 20)),
g 22 19 false (.load1 (t 21)),
g 23 19 false (.not (t 22)),
g 24 14 true (.pick (t 19) y (t 23)),
o 25 (.pick (t 14) (t 24) n),
a 2 25])
z)))⟩

def ir55 : IFunc := ⟨[.tmp 4],
(s (r [o 4 (.mv n)])
(s (r [a 5 0,
a 6 1,
o 7 (.call (f 106) [(t 5),(t 6)]),
o 8 (N .geq (t 7) (i 0)),
a 4 8])
z))⟩

def ir56 : IFunc := ⟨[.tmp 2],
(s (r [o 1 (.box 2 (t 0)),
o 2 (.mv n)])
(s (r [p 3 1 1,
l 4 3,
o 5 (N .geq (t 4) (i 1)),
a 6 5,
g 7 6 true (.faddr 1 (t 1)),
g 8 6 true (.load1 (t 7)),
g 9 6 true (N .leq (t 8) (i 64)),
o 10 (.pick (t 6) (t 9) n),
a 2 10])
z))⟩

def ir57 : IFunc := ⟨[.tmp 4],
(s (r [o 2 (.box 1 (t 0)),
o 4 (.mv (c (.slice none 0 0)))])
(s (s (r [a 6 1])
(b 0 (.rangeFunc (t 6) [7] (r [a 5 7])
(b 1 (r [l 8 2,
a 9 5,
o 10 (.buildSlice 1 [(.slice none 0 0)] [(0,1,(t 9))]),
o 11 (.append 37 1 24 (t 8) (t 10)),
q (.store 1 (t 2) (t 11))])))))
(s (r [l 12 2,
a 4 12])
z)))⟩

def ir58 : IFunc := ⟨[.tmp 2],
(s (r [o 2 (.mv (c (.slice none 0 0)))])
(s (s (r [a 3 0,
o 4 (.bin .slc .eql (t 3) (c (.slice none 0 0)))])
(w (t 4) (s (r [o 2 (.mv (c (.slice none 0 0)))])
z)
k))
(s (r [o 5 (.buildSlice 0 [] []),
a 6 0,
o 7 (.append 3 1 8 (t 5) (t 6)),
a 2 7])
z)))⟩

def ir59 : IFunc := ⟨[.tmp 2],
(s (r [o 1 (.box 6 (t 0)),
o 2 (.mv (i 0))])
(s (r [o 6 (.loadN 6 (t 1)),
o 7 (.call (f 107) [(t 6)]),
a 5 7,
o 8 (.extract 0 (t 5)),
o 9 (.extract 1 (t 5)),
a 3 8,
a 4 9])
(s (r [a 10 4,
a 2 10])
z)))⟩

def ir60 : IFunc := ⟨[.cellN 4 2,.tmp 5],
(s (r [o 2 (.box 2 (t 0)),
o 3 (.box 3 (t 1)),
o 4 (.mk 33 [(.slice none 0 0),(.slice none 0 0)]),
o 5 (.mv (i 0))])
(s (s (r [o 7 (.loadN 2 (t 2)),
o 8 (.buildSlice 1 [(.slice none 0 0),(.slice none 0 0)] [(0,2,(t 7))]),
o 9 (.call (f 108) [(t 8)]),
a 6 9])
(s (r [a 10 6,
o 11 (N .neq (t 10) (i 0))])
(w (t 11) (s (r [o 12 (.build [(.slice none 0 0),(.slice none 0 0)] []),
a 13 6,
q (.store 2 (t 4) (t 12)),
a 5 13])
z)
k)))
(s (s (r [p 14 0 3,
l 15 14,
o 16 (N .lss (t 15) (i 1)),
a 17 16,
g 18 17 false (.faddr 1 (t 3)),
g 19 17 false (.load1 (t 18)),
g 20 17 false (N .lss (t 19) (i 1)),
o 21 (.pick (t 17) y (t 20)),
a 22 21,
g 23 22 false (.faddr 1 (t 3)),
g 24 22 false (.load1 (t 23)),
g 25 22 false (N .gtr (t 24) (i 64)),
o 26 (.pick (t 22) y (t 25)),
a 27 26,
g 28 27 false (.faddr 2 (t 3)),
g 29 27 false (.load1 (t 28)),
g 30 27 false (N .lss (t 29) (i 0)),
o 31 (.pick (t 27) y (t 30)),
a 32 31,
g 33 32 false (.faddr 2 (t 3)),
g 34 32 false (.load1 (t 33)),
g 35 32 false (.faddr 1 (t 3)),
g 36 32 false (.load1 (t 35)),
g 37 32 false (N .geq (t 34) (t 36)),
o 38 (.pick (t 32) y (t 37))])
(w (t 38) (s (r [o 39 (.build [(.slice none 0 0),(.slice none 0 0)] []),
q (.store 2 (t 4) (t 39)),
o 5 (.mv (i 3))])
z)
k))
(s (r [o 40 (.loadN 2 (t 2)),
o 41 (.loadN 3 (t 3)),
o 42 (.call (f 111) [(t 40),(t 41)]),
o 43 (.call (f 110) [(t 42)]),
o 44 (.call (f 109) [(t 43)]),
o 45 (.extract 0 (t 44)),
o 46 (.extract 1 (t 44)),
q (.store 2 (t 4) (t 45)),
a 5 46])
z))))⟩

def ir61 : IFunc := ⟨[.tmp 2],
(s (r [o 2 (.mv (c (.slice none 0 0)))])
(s (s (r [a 3 0,
o 4 (.bin .slc .eql (t 3) (c (.slice none 0 0)))])
(w (t 4) (s (r [o 2 (.mv (c (.slice none 0 0)))])
z)
k))
(s (r [o 5 (.buildSlice 0 [] []),
a 6 0,
o 7 (.append 4 1 1 (t 5) (t 6)),
a 2 7])
z)))⟩

def ir62 : IFunc := ⟨[.tmp 2],
(s (r [o 2 (.mv (c (.slice none 0 0)))])
(s (s (r [a 3 0,
o 4 (.bin .slc .eql (t 3) (c (.slice none 0 0)))])
(w (t 4) (s (r [o 2 (.mv (c (.slice none 0 0)))])
z)
k))
(s (r [o 5 (.buildSlice 0 [] []),
a 6 0,
o 7 (.append 143 5 40 (t 5) (t 6)),
a 2 7])
z)))⟩

def ir63 : IFunc := ⟨[.tmp 2],
(s (r [o 2 (.mv (c (.slice none 0 0)))])
(s (r [a 3 0,
o 4 (.call (f 112) [(c (.slice none 0 0)),(t 3)]),
a 2 4])
z))⟩

def ir64 : IFunc := ⟨[.tmp 2,.tmp 3],
(s (r [o 2 (.mv (c (.slice none 0 0))),
o 3 (.mv (i 0))])
(s (r [a 4 0,
o 5 (.nilCheck (t 4)),
p 6 8 5,
l 7 6,
a 2 7,
o 3 (.mv (i 0))])
z))⟩

def ir65 : IFunc := ⟨[.tmp 4],
(s (r [o 4 (.mv (i 0))])
(s (s (r [a 6 0,
o 7 (.len (t 6)),
o 8 (.mv (i 0))])
(b 0 (lo (s (r [o 9 (N .lss (t 8) (t 7))])
(s (w (t 9) k
(e 0))
(s (b 1 (s (r [a 10 8,
a 5 10])
(s (r [a 11 1,
a 12 0,
a 13 5,
o 14 (.idxS 2 (t 12) (t 13)),
o 15 (.loadN 2 (t 14)),
o 16 (.call (t 11) [(t 15)])])
(w (t 16) (s (r [a 17 5,
a 4 17])
z)
k))))
(r [o 18 (N .add (t 8) (i 1)),
a 8 18])))))))
(s (r [o 4 (.mv (i (-1)))])
z)))⟩

def ir66 : IFunc := ⟨[.tmp 3],
(s (r [o 2 (.box 2 (t 0)),
o 3 (.mv n)])
(s (r [o 4 (.loadN 2 (t 1)),
o 5 (.loadN 2 (t 2)),
o 6 (.call (f 67) [(t 4),(t 5)]),
a 3 6])
z))⟩

def ir67 : IFunc := ⟨[.tmp 4],
(s (r [o 2 (.box 2 (t 0)),
o 3 (.box 2 (t 1)),
o 4 (.mv n)])
(s (r [p 5 1 2,
l 6 5,
p 7 1 3,
l 8 7,
o 9 (.call (f 113) [(t 6),(t 8)]),
a 10 9,
g 11 10 true (.faddr 0 (t 2)),
g 12 10 true (.load1 (t 11)),
g 13 10 true (.faddr 0 (t 3)),
g 14 10 true (.load1 (t 13)),
g 15 10 true (.call (f 114) [(t 12),(t 14),(f 115)]),
o 16 (.pick (t 10) (t 15) n),
a 4 16])
z))⟩

def ir68 : IFunc := ⟨[.tmp 4],
(s (r [o 4 (.mv (i 0))])
(s (s (r [a 6 0,
o 7 (.len (t 6)),
o 8 (.mv (i 0))])
(b 0 (lo (s (r [o 9 (N .lss (t 8) (t 7))])
(s (w (t 9) k
(e 0))
(s (b 1 (s (r [a 10 8,
a 5 10])
(s (r [a 11 1,
a 12 0,
a 13 5,
o 14 (.idxS 1 (t 12) (t 13)),
l 15 14,
o 16 (.call (t 11) [(t 15)])])
(w (t 16) (s (r [a 17 5,
a 4 17])
z)
k))))
(r [o 18 (N .add (t 8) (i 1)),
a 8 18])))))))
(s (r [o 4 (.mv (i (-1)))])
z)))⟩

def ir69 : IFunc := ⟨[.tmp 2],
(s (r [o 2 (.mv n)])
(s (r [a 3 0,
o 4 (N .neq (t 3) (i 0)),
a 2 4])
z))⟩

def ir70 : IFunc := ⟨[.tmp 2],
(s (r [o 1 (.box 4 (t 0)),
o 2 (.mv (i 0))])
(s (s (r [p 5 0 1,
l 6 5,
o 7 (.len (t 6)),
o 8 (N .gtr (t 7) (i 8))])
(w (t 8) (s (r [o 2 (.mv (i 5))])
z)
k))
(s (s (r [o 3 (.mv (i 0))])
(b 0 (lo (s (s (r [a 9 3,
p 10 0 1,
l 11 10,
o 12 (.len (t 11)),
o 13 (N .lss (t 9) (t 12))])
(w (t 13) k
(e 0)))
(s (b 1 (s (r [p 16 0 1,
l 17 16,
a 18 3,
o 19 (.idxS 3 (t 17) (t 18)),
p 20 0 19,
l 21 20,
o 22 (.len (t 21)),
o 23 (N .gtr (t 22) (i 5))])
(w (t 23) (s (r [o 2 (.mv (i 5))])
z)
k)))
(r [a 14 3,
o 15 (N .add (t 14) (i 1)),
a 3 15]))))))
(s (s (r [o 4 (.mv (i 0))])
(b 2 (lo (s (s (r [a 24 4,
p 25 0 1,
l 26 25,
o 27 (.len (t 26)),
o 28 (N .lss (t 24) (t 27))])
(w (t 28) k
(e 2)))
(s (b 3 (s (r [p 31 0 1,
l 32 31,
a 33 4,
o 34 (.idxS 3 (t 32) (t 33)),
o 35 (.loadN 3 (t 34)),
o 36 (.call (f 116) [(t 35)]),
o 37 (.not (t 36))])
(w (t 37) (s (r [o 2 (.mv (i 4))])
z)
k)))
(r [a 29 4,
o 30 (N .add (t 29) (i 1)),
a 4 30]))))))
(s (s (r [p 38 1 1,
o 39 (.loadN 2 (t 38)),
o 40 (.call (f 117) [(t 39)]),
o 41 (.not (t 40))])
(w (t 41) (s (r [o 2 (.mv (i 4))])
z)
k))
(s (r [o 2 (.mv (i 0))])
z))))))⟩

def ir71 : IFunc := ⟨[.tmp 2],
(s (r [o 1 (.box 5 (t 0)),
o 2 (.mv (i 0))])
(s (r [o 3 (.mv (i 1))])
(s (s (r [o 4 (.mv (i 0))])
(b 0 (lo (s (s (r [a 5 4,
p 6 4 1,
l 7 6,
o 8 (.len (t 7)),
o 9 (N .lss (t 5) (t 8)),
a 10 9,
g 11 10 true (.mv (t 3)),
g 12 10 true (N .leq (t 11) (i 600)),
o 13 (.pick (t 10) (t 12) n)])
(w (t 13) k
(e 0)))
(s (b 1 (r [a 16 3,
p 17 4 1,
l 18 17,
a 19 4,
o 20 (.idxS 5 (t 18) (t 19)),
o 21 (.loadN 5 (t 20)),
o 22 (.call (f 71) [(t 21)]),
o 23 (N .add (t 16) (t 22)),
a 3 23]))
(r [a 14 4,
o 15 (N .add (t 14) (i 1)),
a 4 15]))))))
(s (r [a 24 3,
o 25 (.minI (t 24) (i 601)),
a 2 25])
z))))⟩

def ir72 : IFunc := ⟨[.tmp 8],
(s (r [o 4 (.box 5 (t 0)),
o 5 (.box 2 (t 1)),
o 8 (.mv n)])
(s (b 0 (s (r [p 10 0 5,
l 11 10,
o 12 (.not (t 11)),
a 9 12])
(w (t 9) (s (d [u 0 (p 13 0 4) [],
u 1 (l 14 13) [],
u 2 (o 15 (N .neq (t 14) (c (.int .u8 16)))) [],
u 3 (a 16 15) [],
u 4 (g 17 16 true (.faddr 0 (t 4))) [],
u 5 (g 18 16 true (.load1 (t 17))) [],
u 6 (g 19 16 true (N .neq (t 18) (c (.int .u8 17)))) [],
u 7 (o 20 (.pick (t 16) (t 19) n)) [],
u 8 (a 21 20) [],
u 9 (g 22 21 true (.loadN 5 (t 4))) [],
u 10 (g 23 21 true (.mv (t 2))) [],
u 11 (g 24 21 true (.mv (t 3))) [],
u 12 (g 25 21 true (.call (f 118) [(t 22),(t 23),(t 24)])) [],
u 13 (g 26 21 true (.faddr 1 (t 5))) [],
u 14 (g 27 21 true (.load1 (t 26))) [1,4],
u 15 (g 28 21 true (N .eql (t 25) (t 27))) [],
u 16 (o 29 (.pick (t 21) (t 28) n)) [],
u 17 (a 8 29) []])
z)
(s (r [o 31 (.loadN 5 (t 4)),
o 32 (.call (f 119) [(t 31)]),
o 33 (.not (t 32)),
a 30 33])
(w (t 30) (s (r [o 8 (.mv n)])
z)
(s (r [p 35 0 4,
l 36 35,
o 37 (N .eql (t 36) (c (.int .u8 16))),
a 34 37])
(w (t 34) (s (r [p 38 4 4,
l 39 38,
o 40 (.len (t 39)),
o 41 (N .eql (t 40) (i 0)),
a 42 41,
g 43 42 true (.mv (t 2)),
g 44 42 true (.faddr 3 (t 4)),
g 45 42 true (.load1 (t 44)),
g 46 42 true (.faddr 1 (t 5)),
g 47 42 true (.load1 (t 46)),
g 48 42 true (.call (f 120) [(t 43),(t 45),(t 47)]),
o 49 (.pick (t 42) (t 48) n),
a 8 49])
z)
(s (r [p 51 0 4,
l 52 51,
o 53 (N .eql (t 52) (c (.int .u8 17))),
a 54 53,
g 55 54 true (.faddr 4 (t 4)),
g 56 54 true (.load1 (t 55)),
g 57 54 true (.len (t 56)),
g 58 54 true (N .eql (t 57) (i 2)),
o 59 (.pick (t 54) (t 58) n),
a 50 59])
(w (t 50) (s (d [u 0 (p 60 4 4) [],
u 1 (l 61 60) [],
u 2 (o 62 (.idxS 5 (t 61) (i 0))) [],
u 3 (o 63 (.loadN 5 (t 62))) [],
u 4 (a 64 2) [],
u 5 (a 65 3) [],
u 6 (o 66 (.call (f 118) [(t 63),(t 64),(t 65)])) [],
u 7 (p 67 1 5) [],
u 8 (l 68 67) [1,4,6],
u 9 (o 69 (N .eql (t 66) (t 68))) [],
u 10 (a 70 69) [],
u 16 (g 76 70 true (.faddr 1 (t 5))) [],
u 17 (g 77 70 true (.load1 (t 76))) [],
u 18 (g 78 70 true (.call (f 122) [(t 77)])) [],
u 15 (g 75 70 true (.mv (t 2))) [],
u 19 (g 79 70 true (.call (f 121) [(t 75),(t 78)])) [],
u 11 (g 71 70 true (.faddr 4 (t 4))) [],
u 12 (g 72 70 true (.load1 (t 71))) [1,3,4],
u 13 (g 73 70 true (.idxS 5 (t 72) (i 1))) [],
u 14 (g 74 70 true (.loadN 5 (t 73))) [3,5,6],
u 20 (g 80 70 true (.mv (t 3))) [],
u 21 (g 81 70 true (.call (f 118) [(t 74),(t 79),(t 80)])) [],
u 22 (g 82 70 true (N .eql (t 81) (i 1))) [],
u 23 (o 83 (.pick (t 70) (t 82) n)) [],
u 24 (a 8 83) []])
z)
k)))))))))
(s (r [o 8 (.mv n)])
z)))⟩

def ir73 : IFunc := ⟨[.tmp 2],
(s (r [o 1 (.box 4 (t 0)),
o 2 (.mv (c (.slice none 0 0)))])
(s (r [o 3 (.mv (c (.slice none 0 0)))])
(s (s (r [o 4 (.mv (i 0))])
(b 0 (lo (s (s (r [a 5 4,
p 6 0 1,
l 7 6,
o 8 (.len (t 7)),
o 9 (N .lss (t 5) (t 8))])
(w (t 9) k
(e 0)))
(s (b 1 (r [a 12 3,
p 13 0 1,
l 14 13,
a 15 4,
o 16 (.idxS 3 (t 14) (t 15)),
o 17 (.loadN 3 (t 16)),
o 18 (.build [(.slice none 0 0),(.bool false),(.int .i64 0),(.bool false),(.bool false)] [(0,3,(t 17))]),
o 19 (.buildSlice 1 [(.slice none 0 0),(.bool false),(.int .i64 0),(.bool false),(.bool false)] [(0,5,(t 18))]),
o 20 (.append 221 5 48 (t 12) (t 19)),
a 3 20]))
(r [a 10 4,
o 11 (N .add (t 10) (i 1)),
a 4 11]))))))
(s (r [a 21 3,
a 2 21])
z))))⟩

def ir74 : IFunc := ⟨[.tmp 4],
(s (r [o 4 (.mv (i 0))])
(s (d [u 0 (a 5 0) [],
u 1 (a 6 0) [],
u 2 (a 7 0) [],
u 3 (o 8 (.nilCheck (t 7))) [],
u 4 (p 9 0 8) [],
u 5 (p 10 0 9) [],
u 6 (l 11 10) [],
u 7 (o 12 (.buildSlice 1 [(.slice none 0 0)] [(0,1,(c (.slice none 0 0)))])) [0],
u 8 (o 13 (.append 140 1 24 (t 11) (t 12))) [],
u 9 (a 14 0) [],
u 10 (o 15 (.nilCheck (t 14))) [],
u 11 (p 16 0 15) [],
u 12 (p 17 1 16) [],
u 13 (l 18 17) [4,5,6],
u 14 (a 19 1) [],
u 15 (o 20 (.buildSlice 1 [(.bool false)] [(0,1,(t 19))])) [1,6,7,8],
u 16 (o 21 (.append 4 1 1 (t 18) (t 20))) [],
u 17 (o 22 (.nilCheck (t 5))) [],
u 18 (p 23 0 22) [],
u 19 (p 24 0 23) [],
u 20 (q (.store 1 (t 24) (t 13))) [],
u 21 (o 25 (.nilCheck (t 6))) [],
u 22 (p 26 0 25) [],
u 23 (p 27 1 26) [],
u 24 (q (.store 1 (t 27) (t 21))) []])
(s (r [a 28 0,
o 29 (.nilCheck (t 28)),
p 30 0 29,
p 31 0 30,
l 32 31,
o 33 (.len (t 32)),
o 34 (N .sub (t 33) (i 1)),
a 4 34])
z)))⟩

def ir75 : IFunc := ⟨[.tmp 6],
(s (r [o 3 (.box 4 (t 0)),
o 6 (.mv (c (.slice none 0 0)))])
(s (r [o 12 (.loadN 4 (t 3)),
a 13 1,
a 14 2,
o 15 (.call (f 123) [(t 12),(t 13),(t 14)]),
a 11 15,
o 16 (.extract 0 (t 11)),
o 17 (.extract 1 (t 11)),
o 7 (.mk 27 [(.bool false),(.int .i64 0)]),
q (.store 2 (t 7) (t 16)),
a 8 17])
(s (s (r [a 18 8,
o 19 (.not (t 18))])
(w (t 19) (s (r [o 6 (.mv (c (.slice none 0 0)))])
z)
k))
(s (r [a 20 1,
a 21 2,
o 22 (.build [(.int .i64 0),(.int .i64 0),(.int .u8 0),(.int .i64 0)] [(0,1,(t 20)),(1,1,(t 21)),(2,1,(c (.int .u8 1)))]),
o 23 (.buildSlice 1 [(.int .i64 0),(.int .i64 0),(.int .u8 0),(.int .i64 0)] [(0,4,(t 22))]),
a 9 23])
(s (s (r [o 10 (.mv (i 0))])
(b 0 (lo (s (s (r [p 24 0 7,
l 25 24,
a 26 25,
g 27 26 true (.mv (t 10)),
g 28 26 true (.faddr 1 (t 7)),
g 29 26 true (.load1 (t 28)),
g 30 26 true (N .lss (t 27) (t 29)),
o 31 (.pick (t 26) (t 30) n)])
(w (t 31) k
(e 0)))
(s (b 1 (r [a 34 9,
a 35 1,
a 36 2,
a 37 10,
o 38 (.build [(.int .i64 0),(.int .i64 0),(.int .u8 0),(.int .i64 0)] [(0,1,(t 35)),(1,1,(t 36)),(2,1,(c (.int .u8 2))),(3,1,(t 37))]),
o 39 (.buildSlice 1 [(.int .i64 0),(.int .i64 0),(.int .u8 0),(.int .i64 0)] [(0,4,(t 38))]),
o 40 (.append 47 4 32 (t 34) (t 39)),
a 9 40]))
(r [a 32 10,
o 33 (N .add (t 32) (i 1)),
a 10 33]))))))
(s (r [a 41 9,
a 6 41])
z))))))⟩

def ir76 : IFunc := ⟨[.cellN 8 2,.tmp 9],
(s (r [o 4 (.box 3 (t 0)),
o 5 (.box 5 (t 1)),
o 6 (.box 2 (t 2)),
o 7 (.box 4 (t 3)),
o 8 (.mk 33 [(.slice none 0 0),(.slice none 0 0)]),
o 9 (.mv n)])
(s (b 0 (s (r [p 11 0 5,
l 12 11,
o 13 (N .eql (t 12) (c (.int .u8 16))),
a 14 13,
g 15 14 true (.faddr 2 (t 7)),
g 16 14 true (.load1 (t 15)),
g 17 14 true (N .eql (t 16) (c (.int .u8 1))),
o 18 (.pick (t 14) (t 17) n),
a 10 18])
(w (t 10) (s (r [o 19 (.loadN 3 (t 4)),
p 20 3 5,
l 21 20,
o 22 (.call (f 124) [(t 19),(t 21)]),
q (.store 2 (t 8) (t 22)),
o 9 (.mv y)])
z)
(s (r [p 24 0 5,
l 25 24,
o 26 (N .eql (t 25) (c (.int .u8 16))),
a 23 26])
(w (t 23) (s (d [u 3 (p 30 3 7) [],
u 4 (l 31 30) [],
u 5 (o 32 (.call (f 127) [(t 31)])) [],
u 6 (o 33 (.buildSlice 1 [(.int .i64 0),(.int .i64 0),(.int .u8 0),(.int .i64 0)] [(0,4,(t 32))])) [],
u 7 (o 34 (.buildSlice 1 [(.slice none 0 0)] [(0,1,(t 33))])) [],
u 8 (o 35 (.call (f 126) [(t 34)])) [],
u 0 (o 27 (.loadN 3 (t 4))) [0,1,2,3,4],
u 1 (p 28 3 5) [],
u 2 (l 29 28) [1,2,3,4,5,6],
u 9 (o 36 (.call (f 125) [(t 27),(t 29),(t 35)])) [],
u 10 (o 37 (.extract 0 (t 36))) [],
u 11 (o 38 (.extract 1 (t 36))) [],
u 12 (q (.store 2 (t 8) (t 37))) [],
u 13 (a 9 38) []])
z)
(s (r [p 40 0 5,
l 41 40,
o 42 (N .eql (t 41) (c (.int .u8 17))),
a 43 42,
g 44 43 true (.faddr 2 (t 7)),
g 45 43 true (.load1 (t 44)),
g 46 43 true (N .eql (t 45) (c (.int .u8 1))),
o 47 (.pick (t 43) (t 46) n),
a 39 47])
(w (t 39) (s (d [u 0 (o 48 (.loadN 3 (t 4))) [],
u 1 (p 49 4 5) [],
u 2 (l 50 49) [1],
u 3 (o 51 (.idxS 5 (t 50) (i 0))) [],
u 4 (o 52 (.loadN 5 (t 51))) [3],
u 5 (o 53 (.call (f 128) [(t 48),(t 52)])) [],
u 6 (o 54 (.extract 0 (t 53))) [],
u 7 (o 55 (.extract 1 (t 53))) [],
u 8 (q (.store 2 (t 8) (t 54))) [],
u 9 (a 9 55) []])
z)
(s (r [p 57 0 5,
l 58 57,
o 59 (N .eql (t 58) (c (.int .u8 17))),
a 56 59])
(w (t 56) (s (d [u 0 (o 60 (.loadN 3 (t 4))) [],
u 1 (p 61 1 6) [],
u 2 (l 62 61) [1],
u 3 (o 63 (.build [(.bool false),(.int .i64 0)] [(1,1,(t 62))])) [],
u 4 (p 64 3 7) [],
u 5 (l 65 64) [2,4],
u 6 (o 66 (.call (f 129) [(t 60),(t 63),(t 65)])) [],
u 7 (p 67 4 5) [],
u 8 (l 68 67) [1,2,5,7],
u 9 (o 69 (.idxS 5 (t 68) (i 1))) [],
u 10 (o 70 (.loadN 5 (t 69))) [3,4,7,9],
u 11 (o 71 (.call (f 128) [(t 66),(t 70)])) [],
u 12 (o 72 (.extract 0 (t 71))) [],
u 13 (o 73 (.extract 1 (t 71))) [],
u 14 (q (.store 2 (t 8) (t 72))) [],
u 15 (a 9 73) []])
z)
k)))))))))
(s (r [o 74 (.loadN 3 (t 4)),
o 75 (.loadN 5 (t 5)),
o 76 (.call (f 128) [(t 74),(t 75)]),
o 77 (.extract 0 (t 76)),
o 78 (.extract 1 (t 76)),
q (.store 2 (t 8) (t 77)),
a 9 78])
z)))⟩

def ir77 : IFunc := ⟨[],
(s (r [o 6 (.box 4 (t 2))])
(d [u 0 (a 8 0) [],
u 1 (o 9 (.nilCheck (t 8))) [],
u 2 (p 10 0 9) [],
u 3 (p 11 0 10) [],
u 4 (l 12 11) [],
u 5 (a 13 1) [],
u 6 (a 14 0) [],
u 7 (o 15 (.nilCheck (t 14))) [],
u 8 (p 16 0 15) [],
u 9 (p 17 0 16) [],
u 10 (l 18 17) [5],
u 11 (a 19 1) [],
u 12 (o 20 (.idxS 1 (t 18) (t 19))) [],
u 13 (l 21 20) [8],
u 14 (o 22 (.loadN 4 (t 6))) [0,3,9],
u 15 (a 23 3) [],
u 16 (o 24 (.build [(.int .i64 0),(.int .i64 0),(.int .u8 0),(.int .i64 0),(.int .i64 0)] [(0,4,(t 22)),(4,1,(t 23))])) [],
u 17 (o 25 (.buildSlice 1 [(.int .i64 0),(.int .i64 0),(.int .u8 0),(.int .i64 0),(.int .i64 0)] [(0,5,(t 24))])) [3,6,12],
u 18 (o 26 (.append 143 5 40 (t 21) (t 25))) [13],
u 19 (o 27 (.idxS 1 (t 12) (t 13))) [],
u 20 (q (.store 1 (t 27) (t 26))) []]))⟩

def ir78 : IFunc := ⟨[.tmp 4],
(s (r [o 3 (.box 2 (t 1)),
o 4 (.mv (i 0))])
(s (r [a 6 0,
o 7 (.nilCheck (t 6)),
p 8 0 7,
p 9 0 8,
l 10 9,
o 11 (.len (t 10)),
a 5 11])
(s (d [u 6 (p 18 0 3) [],
u 7 (l 19 18) [],
u 8 (a 20 5) [],
u 9 (o 21 (.call (f 130) [(t 19),(t 20)])) [],
u 0 (a 12 0) [],
u 1 (a 13 0) [],
u 2 (o 14 (.nilCheck (t 13))) [],
u 3 (p 15 0 14) [],
u 4 (p 16 0 15) [],
u 5 (l 17 16) [5,7],
u 10 (o 22 (.append 140 1 24 (t 17) (t 21))) [],
u 11 (o 23 (.nilCheck (t 12))) [],
u 12 (p 24 0 23) [],
u 13 (p 25 0 24) [],
u 14 (q (.store 1 (t 25) (t 22))) []])
(s (d [u 0 (a 26 0) [],
u 1 (a 27 0) [],
u 2 (o 28 (.nilCheck (t 27))) [],
u 3 (p 29 0 28) [],
u 4 (p 30 1 29) [],
u 5 (l 31 30) [],
u 6 (p 32 1 3) [],
u 7 (l 33 32) [1],
u 8 (o 34 (.append 4 1 1 (t 31) (t 33))) [],
u 9 (o 35 (.nilCheck (t 26))) [],
u 10 (p 36 0 35) [],
u 11 (p 37 1 36) [],
u 12 (q (.store 1 (t 37) (t 34))) []])
(s (r [a 38 5,
a 4 38])
z)))))⟩

def ir79 : IFunc := ⟨[.cellN 2 2,.tmp 3],
(s (r [o 2 (.mk 33 [(.slice none 0 0),(.slice none 0 0)]),
o 3 (.mv n)])
(s (d [u 0 (a 14 0) [],
u 1 (o 15 (.nilCheck (t 14))) [],
u 2 (p 16 0 15) [],
u 3 (p 17 0 16) [],
u 4 (l 18 17) [],
u 5 (a 19 0) [],
u 6 (o 20 (.nilCheck (t 19))) [],
u 7 (p 21 0 20) [],
u 8 (p 22 1 21) [],
u 9 (l 23 22) [4],
u 10 (o 24 (.build [(.slice none 0 0),(.slice none 0 0)] [(0,1,(t 18)),(1,1,(t 23))])) [],
u 11 (o 4 (.mk 33 [(.slice none 0 0),(.slice none 0 0)])) [1,6],
u 12 (q (.store 2 (t 4) (t 24))) []])
(s (d [u 0 (a 25 0) [],
u 1 (o 26 (.nilCheck (t 25))) [],
u 2 (p 27 0 26) [],
u 3 (p 28 2 27) [],
u 4 (l 29 28) [],
u 5 (a 30 0) [],
u 6 (o 31 (.nilCheck (t 30))) [],
u 7 (p 32 0 31) [],
u 8 (p 33 1 32) [],
u 9 (l 34 33) [4],
u 10 (o 35 (.build [(.slice none 0 0),(.slice none 0 0),(.slice none 0 0)] [(2,1,(t 29)),(1,1,(t 34))])) [],
u 11 (o 5 (.mk 157 [(.slice none 0 0),(.slice none 0 0),(.slice none 0 0)])) [1,6],
u 12 (q (.store 3 (t 5) (t 35))) []])
(s (s (r [o 6 (.mv (i 0))])
(b 0 (lo (s (s (r [a 36 6,
p 37 0 4,
l 38 37,
o 39 (.len (t 38)),
o 40 (N .lss (t 36) (t 39))])
(w (t 40) k
(e 0)))
(s (b 1 (s (r [o 7 (.mv (c (.slice none 0 0)))])
(s (r [o 43 (.loadN 2 (t 4)),
a 44 6,
o 45 (.buildSlice 1 [(.int .i64 0)] [(0,1,(i (-1)))]),
o 46 (.call (f 131) [(t 43),(t 44),(t 45)]),
a 8 46])
(s (s (r [o 9 (.mv (i 0))])
(b 2 (lo (s (s (r [a 47 9,
a 48 8,
o 49 (.len (t 48)),
o 50 (N .lss (t 47) (t 49))])
(w (t 50) k
(e 2)))
(s (b 3 (s (r [o 10 (.mv (i 0))])
(b 4 (lo (s (s (d [u 0 (a 53 10) [],
u 1 (p 54 0 4) [],
u 2 (l 55 54) [],
u 3 (a 56 8) [],
u 4 (a 57 9) [],
u 5 (o 58 (.idxS 1 (t 56) (t 57))) [],
u 6 (l 59 58) [3],
u 7 (o 60 (.idxS 1 (t 55) (t 59))) [],
u 8 (l 61 60) [],
u 9 (o 62 (.len (t 61))) [],
u 10 (o 63 (N .lss (t 53) (t 62))) []])
(w (t 63) k
(e 4)))
(s (b 5 (s (d [u 0 (p 66 0 4) [],
u 1 (l 67 66) [],
u 2 (a 68 8) [],
u 3 (a 69 9) [],
u 4 (o 70 (.idxS 1 (t 68) (t 69))) [],
u 5 (l 71 70) [3],
u 6 (o 72 (.idxS 1 (t 67) (t 71))) [],
u 7 (l 73 72) [],
u 8 (a 74 10) [],
u 9 (o 75 (.idxS 5 (t 73) (t 74))) [],
u 10 (o 76 (.loadN 5 (t 75))) [],
u 11 (o 11 (.mk 143 [(.int .i64 0),(.int .i64 0),(.int .u8 0),(.int .i64 0),(.int .i64 0)])) [0,3,5,9],
u 12 (q (.store 5 (t 11) (t 76))) []])
(s (d [u 2 (o 79 (.call (f 132) [])) [],
u 0 (p 77 0 11) [],
u 1 (o 78 (.loadN 4 (t 77))) [1],
u 3 (o 80 (.eqF (.ag [(0,.num),(1,.num),(2,.num),(3,.num)]) true (t 78) (t 79))) []])
(w (t 80) (r [a 81 7,
o 82 (.loadN 5 (t 11)),
o 83 (.buildSlice 1 [(.int .i64 0),(.int .i64 0),(.int .u8 0),(.int .i64 0),(.int .i64 0)] [(0,5,(t 82))]),
o 84 (.append 143 5 40 (t 81) (t 83)),
a 7 84])
k))))
(r [a 64 10,
o 65 (N .add (t 64) (i 1)),
a 10 65])))))))
(r [a 51 9,
o 52 (N .add (t 51) (i 1)),
a 9 52]))))))
(r [p 85 0 5,
l 86 85,
a 87 7,
o 88 (.buildSlice 1 [(.slice none 0 0)] [(0,1,(t 87))]),
o 89 (.append 140 1 24 (t 86) (t 88)),
p 90 0 5,
q (.store 1 (t 90) (t 89))])))))
(r [a 41 6,
o 42 (N .add (t 41) (i 1)),
a 6 42]))))))
(s (r [o 92 (.loadN 3 (t 5)),
o 93 (.call (f 133) [(t 92)]),
a 91 93,
o 94 (.extract 0 (t 91)),
o 95 (.extract 1 (t 91)),
o 12 (.mk 33 [(.slice none 0 0),(.slice none 0 0)]),
q (.store 2 (t 12) (t 94)),
a 13 95])
(s (r [o 96 (.loadN 2 (t 12)),
a 97 13,
o 98 (N .eql (t 97) (i 0)),
q (.store 2 (t 2) (t 96)),
a 3 98])
z))))))⟩

def ir80 : IFunc := ⟨[.cellN 2 5],
(s (r [o 2 (.mk 51 [(.int .u8 0),(.int .i64 0),(.int .i64 0),(.int .i64 0),(.slice none 0 0)])])
(s (r [a 4 0,
o 5 (.call (f 134) [(t 4)]),
o 3 (.mk 51 [(.int .u8 0),(.int .i64 0),(.int .i64 0),(.int .i64 0),(.slice none 0 0)]),
q (.store 5 (t 3) (t 5))])
(s (s (r [a 6 0,
o 7 (.nilCheck (t 6)),
p 8 2 7,
l 9 8,
o 10 (.not (t 9)),
a 11 10,
g 12 11 true (.mv (t 0)),
g 13 11 true (.call (f 135) [(t 12),(c (.string ⟨#[40]⟩))]),
o 14 (.pick (t 11) (t 13) n)])
(w (t 14) (s (d [u 2 (a 17 0) [],
u 3 (o 18 (.call (f 80) [(t 17)])) [],
u 0 (p 15 4 3) [],
u 1 (l 16 15) [1],
u 4 (o 19 (.buildSlice 1 [(.int .u8 0),(.int .i64 0),(.int .i64 0),(.int .i64 0),(.slice none 0 0)] [(0,5,(t 18))])) [0],
u 5 (o 20 (.append 51 5 56 (t 16) (t 19))) [],
u 6 (p 21 4 3) [],
u 7 (q (.store 1 (t 21) (t 20))) []])
(s (b 0 (lo (s (s (r [a 22 0,
o 23 (.nilCheck (t 22)),
p 24 2 23,
l 25 24,
o 26 (.not (t 25)),
a 27 26,
g 28 27 true (.mv (t 0)),
g 29 27 true (.call (f 135) [(t 28),(c (.string ⟨#[44]⟩))]),
o 30 (.pick (t 27) (t 29) n)])
(w (t 30) k
(e 0)))
(b 1 (d [u 2 (a 33 0) [],
u 3 (o 34 (.call (f 80) [(t 33)])) [],
u 0 (p 31 4 3) [],
u 1 (l 32 31) [1],
u 4 (o 35 (.buildSlice 1 [(.int .u8 0),(.int .i64 0),(.int .i64 0),(.int .i64 0),(.slice none 0 0)] [(0,5,(t 34))])) [0],
u 5 (o 36 (.append 51 5 56 (t 32) (t 35))) [],
u 6 (p 37 4 3) [],
u 7 (q (.store 1 (t 37) (t 36))) []])))))
(s (r [a 38 0,
o 39 (.call (f 135) [(t 38),(c (.string ⟨#[41]⟩))]),
o 40 (.not (t 39))])
(w (t 40) (r [a 41 0,
o 42 (.nilCheck (t 41)),
p 43 2 42,
q (.store 1 (t 43) y)])
k))))
k))
(s (r [o 44 (.loadN 5 (t 3)),
q (.store 5 (t 2) (t 44))])
z))))⟩

def ir81 : IFunc := ⟨[.tmp 2],
(s (r [o 1 (.box 5 (t 0)),
o 2 (.mv (c (.string ⟨#[]⟩)))])
(s (r [o 5 (.loadN 5 (t 1)),
o 6 (.call (f 136) [(t 5)]),
a 3 6])
(s (s (r [o 4 (.mv (i 0))])
(b 0 (lo (s (s (r [a 7 4,
p 8 4 1,
l 9 8,
o 10 (.len (t 9)),
o 11 (N .lss (t 7) (t 10))])
(w (t 11) k
(e 0)))
(s (b 1 (s (s (r [a 14 4,
o 15 (N .eql (t 14) (i 0))])
(w (t 15) (r [a 16 3,
o 17 (.bin .str .add (t 16) (c (.string ⟨#[40]⟩))),
a 3 17])
(r [a 18 3,
o 19 (.bin .str .add (t 18) (c (.string ⟨#[44]⟩))),
a 3 19])))
(r [a 20 3,
p 21 4 1,
l 22 21,
a 23 4,
o 24 (.idxS 5 (t 22) (t 23)),
o 25 (.loadN 5 (t 24)),
o 26 (.call (f 81) [(t 25)]),
o 27 (.bin .str .add (t 20) (t 26)),
a 3 27])))
(r [a 12 4,
o 13 (N .add (t 12) (i 1)),
a 4 13]))))))
(s (s (r [p 28 4 1,
l 29 28,
o 30 (.len (t 29)),
o 31 (N .gtr (t 30) (i 0))])
(w (t 31) (r [a 32 3,
o 33 (.bin .str .add (t 32) (c (.string ⟨#[41]⟩))),
a 3 33])
k))
(s (r [a 34 3,
a 2 34])
z)))))⟩

def ir82 : IFunc := ⟨[],
(s (r [o 3 (.box 2 (t 0))])
(s (r [o 5 (.mv (i 0))])
(b 0 (lo (s (s (r [a 6 1,
o 7 (N .geq (t 6) (i 0)),
a 8 7,
g 9 8 true (.mv (t 5)),
g 10 8 true (.faddr 0 (t 3)),
g 11 8 true (.load1 (t 10)),
g 12 8 true (.mv (t 1)),
g 13 8 true (.idxS 1 (t 11) (t 12)),
g 14 8 true (.load1 (t 13)),
g 15 8 true (.len (t 14)),
g 16 8 true (N .lss (t 9) (t 15)),
o 17 (.pick (t 8) (t 16) n)])
(w (t 17) k
(e 0)))
(s (b 1 (d [u 0 (l 20 2) [],
u 1 (p 21 0 3) [],
u 2 (l 22 21) [1],
u 3 (a 23 1) [],
u 4 (o 24 (.idxS 1 (t 22) (t 23))) [],
u 5 (l 25 24) [4],
u 6 (a 26 5) [],
u 7 (o 27 (.idxS 5 (t 25) (t 26))) [],
u 8 (p 28 0 27) [],
u 9 (o 29 (.loadN 4 (t 28))) [8],
u 10 (o 30 (.buildSlice 1 [(.int .i64 0),(.int .i64 0),(.int .u8 0),(.int .i64 0)] [(0,4,(t 29))])) [9],
u 11 (o 31 (.append 47 4 32 (t 20) (t 30))) [],
u 12 (q (.store 1 (t 2) (t 31))) []]))
(r [a 18 5,
o 19 (N .add (t 18) (i 1)),
a 5 19])))))))⟩

def ir83 : IFunc := ⟨[],
(s (r [a 5 0,
o 6 (.len (t 5)),
a 4 6])
(r [a 7 0,
a 8 4,
a 9 4,
o 10 (.conv .u64 (t 9)),
o 11 (.call (f 138) [(t 10)]),
a 12 1,
o 13 (.call (f 137) [(t 7),(i 0),(t 8),(t 11),(t 12)])]))⟩

def ir84 : IFunc := ⟨[.tmp 4],
(s (r [o 2 (.box 4 (t 0)),
o 3 (.box 4 (t 1)),
o 4 (.mv (i 0))])
(s (b 0 (s (r [o 6 (.loadN 4 (t 2)),
o 7 (.loadN 4 (t 3)),
o 8 (.call (f 85) [(t 6),(t 7)]),
a 5 8])
(w (t 5) (s (r [o 4 (.mv (i (-1)))])
z)
(s (r [o 10 (.loadN 4 (t 3)),
o 11 (.loadN 4 (t 2)),
o 12 (.call (f 85) [(t 10),(t 11)]),
a 9 12])
(w (t 9) (s (r [o 4 (.mv (i 1))])
z)
k)))))
(s (r [o 4 (.mv (i 0))])
z)))⟩

def ir85 : IFunc := ⟨[.tmp 4],
(s (r [o 2 (.box 4 (t 0)),
o 3 (.box 4 (t 1)),
o 4 (.mv n)])
(s (d [u 0 (p 5 0 2) [],
u 1 (l 6 5) [],
u 2 (p 7 0 3) [],
u 3 (l 8 7) [1],
u 4 (o 9 (.call (f 140) [(t 6),(t 8)])) [],
u 5 (p 10 1 2) [],
u 6 (l 11 10) [1,2,4],
u 7 (p 12 1 3) [],
u 8 (l 13 12) [1,3,4,6],
u 9 (o 14 (.call (f 140) [(t 11),(t 13)])) [],
u 10 (p 15 2 2) [],
u 11 (l 16 15) [1,2,4,6,7,9],
u 12 (p 17 2 3) [],
u 13 (l 18 17) [1,3,4,6,8,9,11],
u 14 (o 19 (.call (f 141) [(t 16),(t 18)])) [],
u 15 (p 20 3 2) [],
u 16 (l 21 20) [1,2,4,6,7,9,11,12,14],
u 17 (p 22 3 3) [],
u 18 (l 23 22) [1,3,4,6,8,9,11,13,14,16],
u 19 (o 24 (.call (f 140) [(t 21),(t 23)])) [],
u 20 (o 25 (.buildSlice 4 [(.int .i64 0),(.int .i64 0),(.int .i64 0),(.int .i64 0)] [(0,1,(t 9)),(1,1,(t 14)),(2,1,(t 19)),(3,1,(t 24))])) [],
u 21 (o 26 (.call (f 139) [(t 25)])) [],
u 22 (o 27 (N .lss (t 26) (i 0))) [],
u 23 (a 4 27) []])
z))⟩

def ir86 : IFunc := ⟨[.tmp 2],
(s (r [o 2 (.mv (c (.slice none 0 0)))])
(s (s (r [a 6 0,
o 7 (.len (t 6)),
o 8 (N .lss (t 7) (i 2))])
(w (t 8) (s (r [a 9 0,
a 2 9])
z)
k))
(s (s (r [o 3 (.mv (i 1))])
(b 0 (lo (s (s (r [a 10 3,
a 11 0,
o 12 (.len (t 11)),
o 13 (N .lss (t 10) (t 12))])
(w (t 13) k
(e 0)))
(s (b 1 (s (d [u 0 (a 16 0) [],
u 1 (a 17 3) [],
u 2 (o 18 (.idxS 4 (t 16) (t 17))) [],
u 3 (o 19 (.loadN 4 (t 18))) [],
u 4 (a 20 0) [],
u 5 (a 21 3) [],
u 6 (o 22 (N .sub (t 21) (i 1))) [],
u 7 (o 23 (.idxS 4 (t 20) (t 22))) [],
u 8 (o 24 (.loadN 4 (t 23))) [4],
u 9 (o 25 (.eqF (.ag [(0,.num),(1,.num),(2,.num),(3,.num)]) false (t 19) (t 24))) []])
(w (t 25) (s (r [a 26 0,
a 27 3,
o 28 (.sliceS 4 (t 26) (some (t 27)) none none),
a 4 28])
(s (s (r [o 5 (.mv (i 1))])
(b 2 (lo (s (s (r [a 29 5,
a 30 4,
o 31 (.len (t 30)),
o 32 (N .lss (t 29) (t 31))])
(w (t 32) k
(e 2)))
(s (b 3 (s (d [u 0 (a 35 4) [],
u 1 (a 36 5) [],
u 2 (o 37 (.idxS 4 (t 35) (t 36))) [],
u 3 (o 38 (.loadN 4 (t 37))) [],
u 4 (a 39 4) [],
u 5 (a 40 5) [],
u 6 (o 41 (N .sub (t 40) (i 1))) [],
u 7 (o 42 (.idxS 4 (t 39) (t 41))) [],
u 8 (o 43 (.loadN 4 (t 42))) [4],
u 9 (o 44 (.eqF (.ag [(0,.num),(1,.num),(2,.num),(3,.num)]) true (t 38) (t 43))) []])
(w (t 44) (s (r [a 45 0,
a 46 3,
a 47 4,
a 48 5,
o 49 (.idxS 4 (t 47) (t 48)),
o 50 (.loadN 4 (t 49)),
o 51 (.idxS 4 (t 45) (t 46)),
q (.store 4 (t 51) (t 50))])
(r [a 52 3,
o 53 (N .add (t 52) (i 1)),
a 3 53]))
k)))
(r [a 33 5,
o 34 (N .add (t 33) (i 1)),
a 5 34]))))))
(s (r [a 54 0,
a 55 3,
o 56 (.sliceS 4 (t 54) (some (t 55)) none none),
q (.clear [(.int .i64 0),(.int .i64 0),(.int .u8 0),(.int .i64 0)] (t 56))])
(s (r [a 57 0,
a 58 3,
o 59 (.sliceS 4 (t 57) none (some (t 58)) none),
a 2 59])
z))))
k)))
(r [a 14 3,
o 15 (N .add (t 14) (i 1)),
a 3 15]))))))
(s (r [a 60 0,
a 2 60])
z))))⟩

def ir87 : IFunc := ⟨[.tmp 2],
(s (r [o 1 (.box 5 (t 0)),
o 2 (.mv (i 0))])
(s (r [o 3 (.mv (i 1))])
(s (s (r [p 6 4 1,
l 7 6,
o 8 (.len (t 7)),
o 9 (.mv (i 0))])
(b 0 (lo (s (r [o 10 (N .lss (t 9) (t 8))])
(s (w (t 10) k
(e 0))
(s (b 1 (s (r [o 11 (.idxS 5 (t 7) (t 9)),
o 12 (.loadN 5 (t 11)),
o 5 (.mk 51 [(.int .u8 0),(.int .i64 0),(.int .i64 0),(.int .i64 0),(.slice none 0 0)]),
q (.store 5 (t 5) (t 12))])
(s (s (r [a 13 3,
o 14 (N .gtr (t 13) (i 600))])
(w (t 14) (e 0)
k))
(r [a 15 3,
o 16 (.loadN 5 (t 5)),
o 17 (.call (f 87) [(t 16)]),
o 18 (N .add (t 15) (t 17)),
a 3 18]))))
(r [o 19 (N .add (t 9) (i 1)),
a 9 19])))))))
(s (r [a 20 3,
a 2 20])
z))))⟩

def ir88 : IFunc := ⟨[.tmp 0],
(s (r [o 0 (.mv (c (.map none)))])
(s (r [o 1 (.mkmap),
o 2 (.build [(.bool false),(.bool false),(.bool false),(.int .i64 0)] [(0,1,y),(1,1,y)]),
q (.insert (.sc .num) (t 1) (c (.int .u8 1)) (t 2)),
o 3 (.build [(.bool false),(.bool false),(.bool false),(.int .i64 0)] [(2,1,y),(3,1,(i (-1)))]),
q (.insert (.sc .num) (t 1) (c (.int .u8 2)) (t 3)),
o 4 (.build [(.bool false),(.bool false),(.bool false),(.int .i64 0)] [(2,1,y)]),
q (.insert (.sc .num) (t 1) (c (.int .u8 3)) (t 4)),
o 5 (.build [(.bool false),(.bool false),(.bool false),(.int .i64 0)] [(2,1,y),(3,1,(i 1))]),
q (.insert (.sc .num) (t 1) (c (.int .u8 4)) (t 5)),
o 6 (.build [(.bool false),(.bool false),(.bool false),(.int .i64 0)] [(0,1,y),(1,1,y),(3,1,(i 2))]),
q (.insert (.sc .num) (t 1) (c (.int .u8 5)) (t 6)),
o 7 (.build [(.bool false),(.bool false),(.bool false),(.int .i64 0)] [(0,1,y),(3,1,(i 1))]),
q (.insert (.sc .num) (t 1) (c (.int .u8 6)) (t 7)),
o 8 (.build [(.bool false),(.bool false),(.bool false),(.int .i64 0)] [(3,1,(i 2))]),
q (.insert (.sc .num) (t 1) (c (.int .u8 7)) (t 8)),
o 9 (.build [(.bool false),(.bool false),(.bool false),(.int .i64 0)] [(3,1,(i 3))]),
q (.insert (.sc .num) (t 1) (c (.int .u8 8)) (t 9)),
o 10 (.build [(.bool false),(.bool false),(.bool false),(.int .i64 0)] [(3,1,(i 2))]),
q (.insert (.sc .num) (t 1) (c (.int .u8 9)) (t 10)),
o 11 (.build [(.bool false),(.bool false),(.bool false),(.int .i64 0)] [(0,1,y),(1,1,y),(3,1,(i 1))]),
q (.insert (.sc .num) (t 1) (c (.int .u8 10)) (t 11)),
o 12 (.build [(.bool false),(.bool false),(.bool false),(.int .i64 0)] [(3,1,(i 2))]),
q (.insert (.sc .num) (t 1) (c (.int .u8 11)) (t 12)),
o 13 (.build [(.bool false),(.bool false),(.bool false),(.int .i64 0)] [(0,1,y)]),
q (.insert (.sc .num) (t 1) (c (.int .u8 12)) (t 13)),
o 14 (.build [(.bool false),(.bool false),(.bool false),(.int .i64 0)] [(3,1,(i 2))]),
q (.insert (.sc .num) (t 1) (c (.int .u8 13)) (t 14)),
o 15 (.build [(.bool false),(.bool false),(.bool false),(.int .i64 0)] []),
q (.insert (.sc .num) (t 1) (c (.int .u8 14)) (t 15)),
o 16 (.build [(.bool false),(.bool false),(.bool false),(.int .i64 0)] [(2,1,y)]),
q (.insert (.sc .num) (t 1) (c (.int .u8 15)) (t 16)),
o 17 (.build [(.bool false),(.bool false),(.bool false),(.int .i64 0)] [(2,1,y)]),
q (.insert (.sc .num) (t 1) (c (.int .u8 16)) (t 17)),
o 18 (.build [(.bool false),(.bool false),(.bool false),(.int .i64 0)] [(3,1,(i 2))]),
q (.insert (.sc .num) (t 1) (c (.int .u8 17)) (t 18)),
o 19 (.build [(.bool false),(.bool false),(.bool false),(.int .i64 0)] [(0,1,y),(2,1,y),(3,1,(i 1))]),
q (.insert (.sc .num) (t 1) (c (.int .u8 18)) (t 19)),
a 20 1,
a 0 20])
z))⟩

def ir89 : IFunc := ⟨[.tmp 6],
(s (r [o 3 (.box 4 (t 0)),
o 4 (.box 5 (t 1)),
o 5 (.box 2 (t 2)),
o 6 (.mv n)])
(s (s (r [p 9 0 5,
l 10 9,
o 11 (.not (t 10))])
(w (t 11) (s (r [o 12 (.loadN 4 (t 3)),
o 13 (.loadN 5 (t 4)),
p 14 1 5,
l 15 14,
o 16 (.call (f 142) [(t 12),(t 13),(t 15)]),
a 6 16])
z)
k))
(s (s (r [o 17 (.loadN 4 (t 3)),
o 18 (.loadN 5 (t 4)),
o 19 (.call (f 143) [(t 17),(t 18)]),
o 20 (.not (t 19))])
(w (t 20) (s (r [o 6 (.mv n)])
z)
k))
(s (s (r [p 21 0 4,
l 22 21])
(b 0 (s (r [o 24 (N .eql (t 22) (c (.int .u8 16))),
a 23 24])
(w (t 23) (s (r [o 26 (.loadN 4 (t 3)),
p 27 3 4,
l 28 27,
o 29 (.call (f 144) [(t 26),(t 28)]),
a 25 29,
o 30 (.extract 0 (t 25)),
o 31 (.extract 1 (t 25)),
a 7 30,
a 8 31])
(s (r [a 32 8,
a 33 32,
g 34 33 true (.mv (t 7)),
g 35 33 true (.faddr 1 (t 5)),
g 36 33 true (.load1 (t 35)),
g 37 33 true (N .eql (t 34) (t 36)),
o 38 (.pick (t 33) (t 37) n),
a 6 38])
z))
(s (r [o 40 (N .eql (t 22) (c (.int .u8 17))),
a 39 40])
(w (t 39) (s (d [u 0 (o 41 (.loadN 4 (t 3))) [],
u 1 (p 42 4 4) [],
u 2 (l 43 42) [1],
u 3 (o 44 (.idxS 5 (t 43) (i 0))) [],
u 4 (o 45 (.loadN 5 (t 44))) [3],
u 5 (p 46 1 5) [],
u 6 (l 47 46) [1,3,5],
u 7 (o 48 (.call (f 142) [(t 41),(t 45),(t 47)])) [],
u 8 (a 49 48) [],
u 9 (g 50 49 true (.loadN 4 (t 3))) [],
u 10 (g 51 49 true (.faddr 1 (t 5))) [],
u 11 (g 52 49 true (.load1 (t 51))) [1],
u 12 (g 53 49 true (.build [(.bool false),(.int .i64 0)] [(1,1,(t 52))])) [],
u 13 (g 54 49 true (.build [(.slice none 0 0),(.bool false),(.int .i64 0)] [(1,2,(t 53))])) [],
u 14 (g 55 49 true (.build [(.slice none 0 0),(.bool false),(.int .i64 0),(.bool false)] [(0,3,(t 54)),(3,1,y)])) [],
u 15 (g 56 49 true (.call (f 145) [(t 50),(t 55)])) [],
u 16 (g 57 49 true (.faddr 4 (t 4))) [],
u 17 (g 58 49 true (.load1 (t 57))) [1,5,7],
u 18 (g 59 49 true (.idxS 5 (t 58) (i 1))) [],
u 19 (g 60 49 true (.loadN 5 (t 59))) [3,7,9],
u 20 (g 61 49 true (.call (f 142) [(t 56),(t 60),(i 1)])) [],
u 21 (o 62 (.pick (t 49) (t 61) n)) [],
u 22 (a 6 62) []])
z)
k))))))
(s (r [o 6 (.mv n)])
z)))))⟩

def ir90 : IFunc := ⟨[.tmp 3],
(s (r [o 3 (.mv n)])
(s (r [l 4 1,
a 5 0,
o 6 (.call (f 91) [(t 4),(t 5)]),
a 3 6])
z))⟩

def ir91 : IFunc := ⟨[.tmp 4],
(s (r [o 4 (.mv n)])
(s (r [a 5 0,
a 6 1,
o 7 (.call (f 68) [(t 5),(t 6)]),
o 8 (N .geq (t 7) (i 0)),
a 4 8])
z))⟩

def ir92 : IFunc := ⟨[.tmp 3],
(s (r [o 3 (.mv n)])
(s (r [a 4 0,
o 5 (N .lss (t 4) (i 1)),
a 6 5,
g 7 6 false (.mv (t 0)),
g 8 6 false (.faddr 0 (t 1)),
g 9 6 false (.load1 (t 8)),
g 10 6 false (.len (t 9)),
g 11 6 false (N .gtr (t 7) (t 10)),
o 12 (.pick (t 6) y (t 11)),
a 3 12])
z))⟩

def ir93 : IFunc := ⟨[.tmp 3],
(s (r [o 3 (.mv n)])
(s (r [p 4 0 1,
l 5 4,
a 6 0,
o 7 (N .sub (t 6) (i 1)),
o 8 (.idxS 3 (t 5) (t 7)),
p 9 0 8,
l 10 9,
o 11 (.len (t 10)),
o 12 (N .gtr (t 11) (i 0)),
a 3 12])
z))⟩

def ir94 : IFunc := ⟨[.cellN 6 3],
(s (r [o 6 (.mk 187 [(.bool false),(.bool false),(.int .i64 0)])])
(s (r [o 9 (.build [(.bool false),(.bool false),(.int .i64 0)] [(2,1,(i (-1)))]),
o 7 (.mk 187 [(.bool false),(.bool false),(.int .i64 0)]),
q (.store 3 (t 7) (t 9))])
(s (s (r [a 10 0,
o 11 (.nilCheck (t 10)),
p 12 0 11,
p 13 0 12,
p 14 0 13,
l 15 14,
o 16 (.len (t 15)),
a 8 16])
(b 0 (s (r [a 26 1,
o 27 (N .lss (t 26) (i 1)),
a 25 27])
(w (t 25) k
(s (r [a 29 1,
a 30 8,
o 31 (N .leq (t 29) (t 30)),
a 28 31])
(w (t 28) (s (r [a 32 0,
o 33 (.nilCheck (t 32)),
p 34 0 33,
p 35 9 34,
l 36 35,
a 37 1,
o 38 (.call (f 146) [(t 36),(t 37)]),
p 39 0 7,
q (.store 1 (t 39) (t 38))])
(r [p 40 0 7,
l 41 40,
o 42 (.not (t 41)),
p 43 1 7,
q (.store 1 (t 43) (t 42))]))
(r [a 17 2,
a 18 1,
a 19 8,
o 20 (N .sub (t 18) (t 19)),
o 21 (N .sub (t 20) (i 1)),
o 22 (.idxS 1 (t 17) (t 21)),
l 23 22,
p 24 2 7,
q (.store 1 (t 24) (t 23))])))))))
(s (r [o 44 (.loadN 3 (t 7)),
q (.store 3 (t 6) (t 44))])
z))))⟩

def ir95 : IFunc := ⟨[.tmp 4],
(s (r [o 3 (.box 10 (t 1)),
o 4 (.mv n)])
(s (r [a 5 0,
p 6 6 3,
l 7 6,
o 8 (.call (f 96) [(t 5),(t 7)]),
a 4 8])
z))⟩

def ir96 : IFunc := ⟨[.tmp 4],
(s (r [o 2 (.box 1 (t 0)),
o 4 (.mv n)])
(s (r [a 5 1,
o 6 (.mkfn (.func 147) [] [(t 2)]),
o 7 (.call (f 91) [(t 5),(t 6)]),
a 4 7])
z))⟩

def ir97 : IFunc := ⟨[.tmp 4],
(s (r [o 3 (.box 10 (t 1)),
o 4 (.mv n)])
(s (r [a 5 0,
p 6 6 3,
l 7 6,
p 8 6 3,
l 9 8,
o 10 (.len (t 9)),
o 11 (N .sub (t 10) (i 1)),
o 12 (.idxS 1 (t 7) (t 11)),
l 13 12,
o 14 (.buildSlice 1 [(.int .i64 0)] [(0,1,(t 13))]),
o 15 (.call (f 96) [(t 5),(t 14)]),
a 4 15])
z))⟩

def ir98 : IFunc := ⟨[.tmp 4],
(s (r [o 3 (.box 10 (t 1)),
o 4 (.mv n)])
(s (r [p 5 7 3,
p 6 0 5,
l 7 6,
a 4 7])
z))⟩

def ir99 : IFunc := ⟨[.tmp 4],
(s (r [o 3 (.box 10 (t 1)),
o 4 (.mv n)])
(s (d [u 0 (p 5 7 3) [],
u 1 (p 6 0 5) [],
u 2 (l 7 6) [],
u 3 (a 8 7) [],
u 4 (g 9 8 false (.faddr 7 (t 3))) [],
u 5 (g 10 8 false (.faddr 2 (t 9))) [],
u 6 (g 11 8 false (.load1 (t 10))) [],
u 7 (g 12 8 false (N .geq (t 11) (i 0))) [],
u 8 (g 13 8 false (.mv (t 12))) [],
u 9 (g 14 13 true (.mv (t 0))) [],
u 10 (g 15 13 true (.nilCheck (t 14))) [],
u 11 (g 16 13 true (.faddr 13 (t 15))) [],
u 12 (g 17 13 true (.load1 (t 16))) [],
u 13 (g 18 13 true (.faddr 7 (t 3))) [],
u 14 (g 19 13 true (.faddr 2 (t 18))) [],
u 15 (g 20 13 true (.load1 (t 19))) [2],
u 16 (g 21 13 true (.idxS 1 (t 17) (t 20))) [],
u 17 (g 22 13 true (.load1 (t 21))) [],
u 18 (g 23 8 false (.pick (t 13) (t 22) n)) [],
u 19 (o 24 (.pick (t 8) y (t 23))) [],
u 20 (a 4 24) []])
z))⟩

def ir100 : IFunc := ⟨[],
(s (r [a 6 2,
a 7 6,
g 8 7 true (.mv (t 1)),
g 9 7 true (.nilCheck (t 8)),
g 10 7 true (.load1 (t 9)),
g 11 7 true (.not (t 10)),
o 12 (.pick (t 7) (t 11) n)])
(w (t 12) (r [a 13 1,
a 14 0,
o 15 (.nilCheck (t 13)),
q (.store 1 (t 15) y),
o 16 (.nilCheck (t 14)),
p 17 14 16,
q (.store 1 (t 17) y)])
k))⟩

def ir101 : IFunc := ⟨[.tmp 2],
(s (r [o 1 (.box 10 (t 0)),
o 2 (.mv n)])
(s (s (r [p 3 0 1,
p 4 0 3,
l 5 4])
(b 0 (s (s (r [o 7 (N .eql (t 5) (c (.int .u8 2))),
a 6 7])
(w (t 6) k
(s (r [o 8 (N .eql (t 5) (c (.int .u8 3))),
a 6 8])
(w (t 6) k
(r [o 9 (N .eql (t 5) (c (.int .u8 4))),
a 6 9])))))
(w (t 6) (s (r [p 10 7 1,
p 11 1 10,
l 12 11,
a 2 12])
z)
(s (s (r [o 14 (N .eql (t 5) (c (.int .u8 9))),
a 13 14])
(w (t 13) k
(s (r [o 15 (N .eql (t 5) (c (.int .u8 11))),
a 13 15])
(w (t 13) k
(s (r [o 16 (N .eql (t 5) (c (.int .u8 12))),
a 13 16])
(w (t 13) k
(r [o 17 (N .eql (t 5) (c (.int .u8 14))),
a 13 17])))))))
(w (t 13) (s (r [o 2 (.mv y)])
z)
k))))))
(s (r [o 2 (.mv n)])
z)))⟩

def ir102 : IFunc := ⟨[.tmp 4],
(s (r [o 2 (.box 10 (t 0)),
o 4 (.mv n)])
(s (s (r [p 5 0 2,
p 6 0 5,
l 7 6])
(b 0 (s (r [o 9 (N .eql (t 7) (c (.int .u8 4))),
a 8 9])
(w (t 8) (s (r [p 10 7 2,
p 11 1 10,
l 12 11,
a 4 12])
z)
(s (s (r [o 14 (N .eql (t 7) (c (.int .u8 9))),
a 13 14])
(w (t 13) k
(r [o 15 (N .eql (t 7) (c (.int .u8 17))),
a 13 15])))
(w (t 13) (s (r [a 16 1,
o 17 (N .eql (t 16) (i 0)),
a 4 17])
z)
(s (r [o 19 (N .eql (t 7) (c (.int .u8 2))),
a 18 19])
(w (t 18) (s (r [o 4 (.mv y)])
z)
k))))))))
(s (r [o 4 (.mv n)])
z)))⟩

def ir103 : IFunc := ⟨[.tmp 4],
(s (r [o 4 (.mv (i 0))])
(s (s (r [a 6 0,
o 7 (.len (t 6)),
o 8 (.mv (i 0))])
(b 0 (lo (s (r [o 9 (N .lss (t 8) (t 7))])
(s (w (t 9) k
(e 0))
(s (b 1 (s (r [a 10 8,
a 5 10])
(s (r [a 11 1,
a 12 0,
a 13 5,
o 14 (.idxS 1 (t 12) (t 13)),
l 15 14,
o 16 (N .eql (t 11) (t 15))])
(w (t 16) (s (r [a 17 5,
a 4 17])
z)
k))))
(r [o 18 (N .add (t 8) (i 1)),
a 8 18])))))))
(s (r [o 4 (.mv (i (-1)))])
z)))⟩

def ir104 : IFunc := ⟨[.tmp 2],
(s (r [o 1 (.box 2 (t 0)),
o 2 (.mv n)])
(s (r [o 3 (.loadN 2 (t 1)),
o 4 (.call (f 56) [(t 3)]),
o 5 (.not (t 4)),
a 2 5])
z))⟩

def ir105 : IFunc := ⟨[.tmp 4],
(s (r [o 4 (.mv n)])
(s (r [a 5 0,
a 6 1,
o 7 (.call (f 148) [(t 5),(t 6)]),
o 8 (N .geq (t 7) (i 0)),
a 4 8])
z))⟩

def ir106 : IFunc := ⟨[.tmp 4],
(s (r [o 4 (.mv (i 0))])
(s (s (r [a 6 0,
o 7 (.len (t 6)),
o 8 (.mv (i 0))])
(b 0 (lo (s (r [o 9 (N .lss (t 8) (t 7))])
(s (w (t 9) k
(e 0))
(s (b 1 (s (r [a 10 8,
a 5 10])
(s (r [a 11 1,
a 12 0,
a 13 5,
o 14 (.idxS 3 (t 12) (t 13)),
o 15 (.loadN 3 (t 14)),
o 16 (.call (t 11) [(t 15)])])
(w (t 16) (s (r [a 17 5,
a 4 17])
z)
k))))
(r [o 18 (N .add (t 8) (i 1)),
a 8 18])))))))
(s (r [o 4 (.mv (i (-1)))])
z)))⟩

def ir107 : IFunc := ⟨[.tmp 2,.tmp 3],
(s (r [o 1 (.box 6 (t 0)),
o 2 (.mv (c (.pointer none))),
o 3 (.mv (i 0))])
(s (s (r [p 8 0 1,
o 9 (.loadN 4 (t 8)),
o 10 (.call (f 25) [(t 9)]),
a 4 10])
(s (r [a 11 4,
o 12 (N .neq (t 11) (i 0))])
(w (t 12) (s (r [a 13 4,
o 2 (.mv (c (.pointer none))),
a 3 13])
z)
k)))
(s (s (r [p 14 4 1,
o 15 (.loadN 2 (t 14)),
o 16 (.call (f 149) [(t 15)]),
a 5 16])
(s (r [a 17 5,
o 18 (N .neq (t 17) (i 0))])
(w (t 18) (s (r [a 19 5,
o 2 (.mv (c (.pointer none))),
a 3 19])
z)
k)))
(s (r [o 21 (.loadN 6 (t 1)),
o 22 (.call (f 150) [(t 21)]),
a 20 22,
o 23 (.extract 0 (t 20)),
o 24 (.extract 1 (t 20)),
a 6 23,
a 7 24])
(s (s (r [a 25 7,
o 26 (.not (t 25))])
(w (t 26) (s (r [o 2 (.mv (c (.pointer none))),
o 3 (.mv (i 13))])
z)
k))
(s (r [a 27 6,
a 2 27,
o 3 (.mv (i 0))])
z))))))⟩

def ir108 : IFunc := ⟨[.tmp 2],
(s (r [o 2 (.mv (i 0))])
(s (s (r [a 10 0,
o 11 (.len (t 10)),
o 12 (.mv (i 0))])
(b 0 (lo (s (r [o 13 (N .lss (t 12) (t 11))])
(s (w (t 13) k
(e 0))
(s (b 1 (s (r [o 14 (.idxS 2 (t 10) (t 12)),
o 15 (.loadN 2 (t 14)),
o 4 (.mk 33 [(.slice none 0 0),(.slice none 0 0)]),
q (.store 2 (t 4) (t 15))])
(s (r [o 16 (.loadN 2 (t 4)),
o 17 (.call (f 149) [(t 16)]),
a 5 17])
(s (r [a 18 5,
o 19 (N .neq (t 18) (i 0))])
(w (t 19) (s (r [a 20 5,
a 2 20])
z)
k)))))
(r [o 21 (N .add (t 12) (i 1)),
a 12 21])))))))
(s (s (r [a 22 0,
o 23 (.len (t 22)),
o 24 (.mv (i 0))])
(b 2 (lo (s (r [o 25 (N .lss (t 24) (t 23))])
(s (w (t 25) k
(e 2))
(s (b 3 (s (r [o 26 (.idxS 2 (t 22) (t 24)),
o 27 (.loadN 2 (t 26)),
o 7 (.mk 33 [(.slice none 0 0),(.slice none 0 0)]),
q (.store 2 (t 7) (t 27))])
(s (r [o 29 (.loadN 2 (t 7)),
o 30 (.call (f 151) [(t 29)]),
a 28 30,
o 31 (.extract 0 (t 28)),
o 32 (.extract 1 (t 28)),
a 8 31,
a 9 32])
(s (r [a 33 9,
o 34 (.not (t 33))])
(w (t 34) (s (r [o 2 (.mv (i 4))])
z)
k)))))
(r [o 35 (N .add (t 24) (i 1)),
a 24 35])))))))
(s (r [o 2 (.mv (i 0))])
z))))⟩

def ir109 : IFunc := ⟨[.cellN 2 2,.tmp 3],
(s (r [o 1 (.box 3 (t 0)),
o 2 (.mk 33 [(.slice none 0 0),(.slice none 0 0)]),
o 3 (.mv (i 0))])
(s (s (r [p 4 2 1,
l 5 4,
o 6 (.not (t 5))])
(w (t 6) (s (r [o 7 (.build [(.slice none 0 0),(.slice none 0 0)] []),
q (.store 2 (t 2) (t 7)),
o 3 (.mv (i 5))])
z)
k))
(s (r [p 8 0 1,
o 9 (.loadN 2 (t 8)),
q (.store 2 (t 2) (t 9)),
o 3 (.mv (i 0))])
z)))⟩

def ir110 : IFunc := ⟨[.cellN 2 3],
(s (r [o 2 (.mk 207 [(.slice none 0 0),(.slice none 0 0),(.bool false)])])
(s (r [a 6 0,
o 7 (.call (f 152) [(t 6)]),
a 5 7,
o 8 (.extract 0 (t 5)),
o 9 (.extract 1 (t 5)),
o 3 (.mk 33 [(.slice none 0 0),(.slice none 0 0)]),
q (.store 2 (t 3) (t 8)),
a 4 9])
(s (r [o 10 (.loadN 2 (t 3)),
a 11 4,
o 12 (.build [(.slice none 0 0),(.slice none 0 0),(.bool false)] [(0,2,(t 10)),(2,1,(t 11))]),
q (.store 3 (t 2) (t 12))])
z)))⟩

def ir111 : IFunc := ⟨[.tmp 4],
(s (r [o 2 (.box 2 (t 0)),
o 3 (.box 3 (t 1)),
o 4 (.mv (c (.pointer none)))])
(s (r [p 19 2 3,
l 20 19,
o 21 (.buildSlice 1 [(.int .i64 0)] [(0,1,(t 20))]),
o 22 (.build [(.slice none 0 0),(.slice none 0 0)] [(1,1,(t 21))]),
o 23 (.box 2 (t 22)),
a 5 23])
(s (s (r [p 24 1 2,
l 25 24,
o 26 (.len (t 25)),
o 27 (.mv (i 0))])
(b 0 (lo (s (r [o 28 (N .lss (t 27) (t 26))])
(s (w (t 28) k
(e 0))
(s (b 1 (s (r [o 29 (.idxS 1 (t 25) (t 27)),
l 30 29,
a 7 30])
(s (r [p 31 1 3,
l 32 31,
o 33 (.mv (i 0))])
(b 2 (lo (s (r [o 34 (N .lss (t 33) (t 32))])
(s (w (t 34) k
(e 2))
(s (b 3 (r [a 35 5,
a 36 7,
o 37 (.call (f 153) [(t 35),(t 36)])]))
(r [o 38 (N .add (t 33) (i 1)),
a 33 38])))))))))
(r [o 39 (N .add (t 27) (i 1)),
a 27 39])))))))
(s (r [o 40 (.mkfn (.func 154) [] [(t 3)]),
a 8 40])
(s (s (r [p 41 0 2,
l 42 41,
o 43 (.len (t 42)),
o 44 (.mv (i 0))])
(b 4 (lo (s (r [o 45 (N .lss (t 44) (t 43))])
(s (w (t 45) k
(e 4))
(s (b 5 (s (r [a 46 44,
o 47 (.idxS 1 (t 42) (t 44)),
l 48 47,
a 9 46,
a 10 48])
(s (r [a 49 10,
o 50 (.len (t 49)),
o 51 (.mv (i 0))])
(b 6 (lo (s (r [o 52 (N .lss (t 51) (t 50))])
(s (w (t 52) k
(e 6))
(s (b 7 (s (r [o 53 (.idxS 5 (t 49) (t 51)),
o 54 (.loadN 5 (t 53)),
o 12 (.mk 143 [(.int .i64 0),(.int .i64 0),(.int .u8 0),(.int .i64 0),(.int .i64 0)]),
q (.store 5 (t 12) (t 54))])
(s (r [p 55 1 3,
l 56 55,
o 57 (.mv (i 0))])
(b 8 (lo (s (r [o 58 (N .lss (t 57) (t 56))])
(s (w (t 58) k
(e 8))
(s (b 9 (s (r [a 59 57,
a 13 59])
(s (s (r [p 60 0 12,
p 61 0 60,
l 62 61,
p 63 0 3,
l 64 63,
o 65 (N .neq (t 62) (t 64))])
(w (t 65) (s (d [u 1 (a 67 8) [],
u 2 (a 68 9) [],
u 3 (a 69 13) [],
u 4 (o 70 (.call (t 67) [(t 68),(t 69)])) [],
u 7 (a 73 8) [],
u 8 (p 74 4 12) [],
u 9 (l 75 74) [2],
u 10 (a 76 13) [],
u 11 (o 77 (.call (t 73) [(t 75),(t 76)])) [],
u 0 (a 66 5) [],
u 5 (p 71 0 12) [],
u 6 (o 72 (.loadN 4 (t 71))) [2,4,7],
u 12 (o 78 (.call (f 155) [(t 66),(t 70),(t 72),(t 77)])) []])
(e 9))
k))
(s (r [a 79 13,
a 80 13,
a 14 79,
a 15 80])
(s (s (r [p 81 0 12,
p 82 2 81,
l 83 82,
o 84 (N .eql (t 83) (c (.int .u8 2)))])
(w (t 84) (r [p 85 0 12,
p 86 3 85,
l 87 86,
a 14 87,
o 15 (.mv (i 0))])
k))
(s (r [p 88 0 12,
p 89 2 88,
l 90 89,
o 91 (N .eql (t 90) (c (.int .u8 1))),
a 92 91,
g 93 92 false (.faddr 0 (t 12)),
g 94 92 false (.faddr 2 (t 93)),
g 95 92 false (.load1 (t 94)),
g 96 92 false (N .eql (t 95) (c (.int .u8 2))),
o 97 (.pick (t 92) y (t 96)),
a 16 97])
(s (d [u 3 (p 102 0 3) [],
u 4 (l 103 102) [],
u 5 (a 104 15) [],
u 6 (o 105 (.call (f 157) [(t 103),(i 0),(t 104)])) [],
u 0 (o 99 (.loadN 2 (t 2))) [0,2],
u 1 (p 100 4 12) [],
u 2 (l 101 100) [1,2,4],
u 7 (o 106 (.call (f 156) [(t 99),(t 101),(t 105)])) [],
u 8 (a 98 106) [],
u 9 (o 107 (.extract 0 (t 98))) [],
u 10 (o 108 (.extract 1 (t 98))) [],
u 11 (a 17 107) [],
u 12 (a 18 108) []])
(s (r [a 109 18,
a 110 109,
g 111 110 true (.mv (t 16)),
o 112 (.pick (t 110) (t 111) n),
a 113 112,
g 114 113 true (.faddr 0 (t 12)),
g 115 113 true (.faddr 1 (t 114)),
g 116 113 true (.load1 (t 115)),
g 117 113 true (N .eql (t 116) (i 0)),
o 118 (.pick (t 113) (t 117) n),
a 119 118,
g 120 119 true (.mv (t 14)),
g 121 119 true (N .geq (t 120) (i 0)),
o 122 (.pick (t 119) (t 121) n),
a 123 122,
g 124 123 true (.mv (t 14)),
g 125 123 true (.faddr 1 (t 3)),
g 126 123 true (.load1 (t 125)),
g 127 123 true (N .lss (t 124) (t 126)),
o 128 (.pick (t 123) (t 127) n)])
(w (t 128) (r [a 129 5,
a 130 8,
a 131 9,
a 132 13,
o 133 (.call (t 130) [(t 131),(t 132)]),
a 134 8,
a 135 17,
a 136 14,
o 137 (.call (t 134) [(t 135),(t 136)]),
o 138 (.call (f 158) [(t 129),(t 133),(t 137)])])
k)))))))))
(r [o 139 (N .add (t 57) (i 1)),
a 57 139])))))))))
(r [o 140 (N .add (t 51) (i 1)),
a 51 140])))))))))
(r [o 141 (N .add (t 44) (i 1)),
a 44 141])))))))
(s (r [a 142 5,
a 4 142])
z))))))⟩

def ir112 : IFunc := ⟨[.tmp 4],
(s (r [o 2 (.box 1 (t 0)),
o 4 (.mv (c (.slice none 0 0)))])
(s (s (r [a 6 1])
(b 0 (.rangeFunc (t 6) [7] (r [a 5 7])
(b 1 (r [l 8 2,
a 9 5,
o 10 (.buildSlice 1 [(.int .i64 0)] [(0,1,(t 9))]),
o 11 (.append 3 1 8 (t 8) (t 10)),
q (.store 1 (t 2) (t 11))])))))
(s (r [l 12 2,
a 4 12])
z)))⟩

def ir113 : IFunc := ⟨[.tmp 4],
(s (r [o 4 (.mv n)])
(s (s (r [a 6 0,
o 7 (.len (t 6)),
a 8 1,
o 9 (.len (t 8)),
o 10 (N .neq (t 7) (t 9))])
(w (t 10) (s (r [o 4 (.mv n)])
z)
k))
(s (s (r [a 11 0,
o 12 (.len (t 11)),
o 13 (.mv (i 0))])
(b 0 (lo (s (r [o 14 (N .lss (t 13) (t 12))])
(s (w (t 14) k
(e 0))
(s (b 1 (s (r [a 15 13,
a 5 15])
(s (d [u 0 (a 16 0) [],
u 1 (a 17 5) [],
u 2 (o 18 (.idxS 1 (t 16) (t 17))) [],
u 3 (l 19 18) [],
u 4 (a 20 1) [],
u 5 (a 21 5) [],
u 6 (o 22 (.idxS 1 (t 20) (t 21))) [],
u 7 (l 23 22) [3],
u 8 (o 24 (.bin .boo .neq (t 19) (t 23))) []])
(w (t 24) (s (r [o 4 (.mv n)])
z)
k))))
(r [o 25 (N .add (t 13) (i 1)),
a 13 25])))))))
(s (r [o 4 (.mv y)])
z))))⟩

def ir114 : IFunc := ⟨[.tmp 6],
(s (r [o 6 (.mv n)])
(s (s (r [a 10 0,
o 11 (.len (t 10)),
a 12 1,
o 13 (.len (t 12)),
o 14 (N .neq (t 11) (t 13))])
(w (t 14) (s (r [o 6 (.mv n)])
z)
k))
(s (s (r [a 15 0,
o 16 (.len (t 15)),
o 17 (.mv (i 0))])
(b 0 (lo (s (r [o 18 (N .lss (t 17) (t 16))])
(s (w (t 18) k
(e 0))
(s (b 1 (s (r [a 19 17,
o 20 (.idxS 1 (t 15) (t 17)),
l 21 20,
a 7 19,
a 8 21])
(s (r [a 22 1,
a 23 7,
o 24 (.idxS 1 (t 22) (t 23)),
l 25 24,
a 9 25])
(s (r [a 26 2,
a 27 8,
a 28 9,
o 29 (.call (t 26) [(t 27),(t 28)]),
o 30 (.not (t 29))])
(w (t 30) (s (r [o 6 (.mv n)])
z)
k)))))
(r [o 31 (N .add (t 17) (i 1)),
a 17 31])))))))
(s (r [o 6 (.mv y)])
z))))⟩

def ir115 : IFunc := ⟨[.tmp 4],
(s (r [o 4 (.mv n)])
(s (s (r [a 6 0,
o 7 (.len (t 6)),
a 8 1,
o 9 (.len (t 8)),
o 10 (N .neq (t 7) (t 9))])
(w (t 10) (s (r [o 4 (.mv n)])
z)
k))
(s (s (r [a 11 0,
o 12 (.len (t 11)),
o 13 (.mv (i 0))])
(b 0 (lo (s (r [o 14 (N .lss (t 13) (t 12))])
(s (w (t 14) k
(e 0))
(s (b 1 (s (r [a 15 13,
a 5 15])
(s (d [u 0 (a 16 0) [],
u 1 (a 17 5) [],
u 2 (o 18 (.idxS 5 (t 16) (t 17))) [],
u 3 (o 19 (.loadN 5 (t 18))) [],
u 4 (a 20 1) [],
u 5 (a 21 5) [],
u 6 (o 22 (.idxS 5 (t 20) (t 21))) [],
u 7 (o 23 (.loadN 5 (t 22))) [3],
u 8 (o 24 (.eqF (.ag [(0,.num),(1,.num),(2,.num),(3,.num),(4,.num)]) true (t 19) (t 23))) []])
(w (t 24) (s (r [o 4 (.mv n)])
z)
k))))
(r [o 25 (N .add (t 13) (i 1)),
a 13 25])))))))
(s (r [o 4 (.mv y)])
z))))⟩

def ir116 : IFunc := ⟨[.tmp 2],
(s (r [o 1 (.box 3 (t 0)),
o 2 (.mv n)])
(s (s (r [o 3 (.mv (i 0))])
(b 0 (lo (s (s (r [a 4 3,
p 5 0 1,
l 6 5,
o 7 (.len (t 6)),
o 8 (N .lss (t 4) (t 7))])
(w (t 8) k
(e 0)))
(s (b 1 (s (r [p 11 0 1,
l 12 11,
a 13 3,
o 14 (.idxS 2 (t 12) (t 13)),
o 15 (.loadN 2 (t 14)),
o 16 (.call (f 117) [(t 15)]),
o 17 (.not (t 16))])
(w (t 17) (s (r [o 2 (.mv n)])
z)
k)))
(r [a 9 3,
o 10 (N .add (t 9) (i 1)),
a 3 10]))))))
(s (r [p 18 1 1,
o 19 (.loadN 2 (t 18)),
o 20 (.call (f 117) [(t 19)]),
a 21 20,
g 22 21 true (.faddr 0 (t 1)),
g 23 21 true (.load1 (t 22)),
g 24 21 true (.len (t 23)),
g 25 21 true (N .eql (t 24) (i 0)),
g 26 21 true (.mv (t 25)),
g 27 26 false (.faddr 1 (t 1)),
g 28 26 false (.faddr 0 (t 27)),
g 29 26 false (.load1 (t 28)),
g 30 26 false (.not (t 29)),
g 31 21 true (.pick (t 26) y (t 30)),
o 32 (.pick (t 21) (t 31) n),
a 2 32])
z)))⟩

def ir117 : IFunc := ⟨[.tmp 2],
(s (r [o 1 (.box 2 (t 0)),
o 2 (.mv n)])
(s (r [p 3 1 1,
l 4 3,
o 5 (.call (f 159) [(t 4),(i 1),(i 64)]),
a 2 5])
z))⟩

def ir118 : IFunc := ⟨[.tmp 6],
(s (r [o 3 (.box 5 (t 0)),
o 6 (.mv (i 0))])
(s (s (d [u 0 (o 12 (.loadN 5 (t 3))) [],
u 1 (o 13 (.call (f 119) [(t 12)])) [],
u 2 (o 14 (.not (t 13))) [],
u 3 (a 15 14) [],
u 4 (g 16 15 false (.faddr 0 (t 3))) [],
u 5 (g 17 15 false (.load1 (t 16))) [],
u 6 (g 18 15 false (.call (f 160) [(t 17)])) [],
u 7 (g 19 15 false (N .geq (t 18) (i 0))) [],
u 8 (g 20 15 false (.mv (t 19))) [],
u 9 (g 21 20 true (.faddr 0 (t 3))) [],
u 10 (g 22 20 true (.load1 (t 21))) [],
u 11 (g 23 20 true (.call (f 160) [(t 22)])) [],
u 12 (g 24 20 true (.faddr 4 (t 3))) [],
u 13 (g 25 20 true (.load1 (t 24))) [1,2],
u 14 (g 26 20 true (.len (t 25))) [],
u 15 (g 27 20 true (N .neq (t 23) (t 26))) [],
u 16 (g 28 15 false (.pick (t 20) (t 27) n)) [],
u 17 (o 29 (.pick (t 15) y (t 28))) []])
(w (t 29) (s (r [o 6 (.mv (i 0))])
z)
k))
(s (r [o 7 (.mv (c (.slice none 0 0)))])
(s (s (r [p 30 0 3,
l 31 30,
o 32 (N .neq (t 31) (c (.int .u8 2))),
a 33 32,
g 34 33 true (.faddr 0 (t 3)),
g 35 33 true (.load1 (t 34)),
g 36 33 true (N .neq (t 35) (c (.int .u8 17))),
o 37 (.pick (t 33) (t 36) n)])
(w (t 37) (s (r [o 8 (.mv (i 0))])
(b 0 (lo (s (s (r [a 38 8,
p 39 4 3,
l 40 39,
o 41 (.len (t 40)),
o 42 (N .lss (t 38) (t 41))])
(w (t 42) k
(e 0)))
(s (b 1 (s (r [a 45 1,
a 46 2,
a 9 45,
a 10 46])
(s (s (r [p 47 0 3,
l 48 47,
o 49 (N .eql (t 48) (c (.int .u8 10)))])
(w (t 49) (r [a 50 1,
p 51 1 3,
l 52 51,
o 53 (.call (f 161) [(t 52)]),
o 54 (.call (f 121) [(t 50),(t 53)]),
a 9 54])
k))
(s (s (r [p 55 0 3,
l 56 55,
o 57 (N .eql (t 56) (c (.int .u8 11))),
a 58 57,
g 59 58 true (.mv (t 8)),
g 60 58 true (N .eql (t 59) (i 0)),
o 61 (.pick (t 58) (t 60) n)])
(w (t 61) (r [a 62 10,
o 63 (N .add (t 62) (i 1)),
a 10 63])
k))
(s (r [p 64 4 3,
l 65 64,
a 66 8,
o 67 (.idxS 5 (t 65) (t 66)),
o 68 (.loadN 5 (t 67)),
a 69 9,
a 70 10,
o 71 (.call (f 118) [(t 68),(t 69),(t 70)]),
a 11 71])
(s (s (r [a 72 11,
o 73 (N .eql (t 72) (i 0))])
(w (t 73) (s (r [o 6 (.mv (i 0))])
z)
k))
(r [a 74 7,
a 75 11,
o 76 (.buildSlice 1 [(.int .i64 0)] [(0,1,(t 75))]),
o 77 (.append 3 1 8 (t 74) (t 76)),
a 7 77])))))))
(r [a 43 8,
o 44 (N .add (t 43) (i 1)),
a 8 44]))))))
k))
(s (s (r [p 78 0 3,
l 79 78])
(b 2 (s (r [o 85 (N .eql (t 79) (c (.int .u8 1))),
a 84 85])
(w (t 84) (s (r [p 86 2 3,
l 87 86,
o 88 (.call (f 162) [(t 87)]),
a 89 88,
g 90 89 true (.faddr 1 (t 3)),
g 91 89 true (.load1 (t 90)),
g 92 89 true (N .geq (t 91) (i 0)),
o 93 (.pick (t 89) (t 92) n),
a 94 93,
g 95 94 true (.faddr 1 (t 3)),
g 96 94 true (.load1 (t 95)),
g 97 94 true (.faddr 2 (t 3)),
g 98 94 true (.load1 (t 97)),
g 99 94 true (N .lss (t 96) (t 98)),
o 100 (.pick (t 94) (t 99) n)])
(w (t 100) (s (r [p 101 2 3,
l 102 101,
a 6 102])
z)
k))
(s (r [o 104 (N .eql (t 79) (c (.int .u8 2))),
a 103 104])
(w (t 103) (s (r [o 105 (.loadN 5 (t 3)),
a 106 1,
a 107 2,
o 108 (.call (f 163) [(t 105),(t 106),(t 107)]),
a 6 108])
z)
(s (r [o 110 (N .eql (t 79) (c (.int .u8 3))),
a 109 110])
(w (t 109) (s (r [a 111 1,
p 112 3 3,
l 113 112,
o 114 (.call (f 120) [(t 111),(t 113),(i 0)])])
(w (t 114) (s (r [a 115 1,
p 116 3 3,
l 117 116,
o 118 (N .sub (t 117) (i 1)),
o 119 (.idxS 5 (t 115) (t 118)),
p 120 0 119,
p 121 1 120,
p 122 1 121,
l 123 122,
a 6 123])
z)
k))
(s (r [o 125 (N .eql (t 79) (c (.int .u8 4))),
a 124 125])
(w (t 124) (s (d [u 0 (a 126 1) [],
u 1 (p 127 3 3) [],
u 2 (l 128 127) [],
u 3 (a 129 7) [],
u 4 (o 130 (.idxS 1 (t 129) (i 0))) [],
u 5 (l 131 130) [2],
u 6 (o 132 (.call (f 120) [(t 126),(t 128),(t 131)])) []])
(w (t 132) (s (r [o 6 (.mv (i 1))])
z)
k))
(s (r [o 134 (N .eql (t 79) (c (.int .u8 5))),
a 133 134])
(w (t 133) (s (s (d [u 0 (p 135 1 3) [],
u 1 (l 136 135) [],
u 2 (o 137 (N .lss (t 136) (i 1))) [],
u 3 (a 138 137) [],
u 4 (g 139 138 false (.faddr 1 (t 3))) [],
u 5 (g 140 138 false (.load1 (t 139))) [],
u 6 (g 141 138 false (N .gtr (t 140) (i 5))) [],
u 7 (o 142 (.pick (t 138) y (t 141))) [],
u 8 (a 143 142) [],
u 9 (g 144 143 false (.faddr 2 (t 3))) [],
u 10 (g 145 143 false (.load1 (t 144))) [],
u 11 (g 146 143 false (.call (f 162) [(t 145)])) [],
u 12 (g 147 143 false (.not (t 146))) [],
u 13 (o 148 (.pick (t 143) y (t 147))) [],
u 14 (a 149 148) [],
u 15 (g 150 149 false (.mv (t 7))) [],
u 16 (g 151 149 false (.idxS 1 (t 150) (i 0))) [],
u 17 (g 152 149 false (.load1 (t 151))) [],
u 18 (g 153 149 false (.faddr 2 (t 3))) [],
u 19 (g 154 149 false (.load1 (t 153))) [1],
u 20 (g 155 149 false (N .neq (t 152) (t 154))) [],
u 21 (o 156 (.pick (t 149) y (t 155))) [],
u 22 (a 157 156) [],
u 23 (g 158 157 false (.mv (t 7))) [],
u 24 (g 159 157 false (.idxS 1 (t 158) (i 1))) [],
u 25 (g 160 157 false (.load1 (t 159))) [],
u 26 (g 161 157 false (.faddr 2 (t 3))) [],
u 27 (g 162 157 false (.load1 (t 161))) [1],
u 28 (g 163 157 false (N .neq (t 160) (t 162))) [],
u 29 (o 164 (.pick (t 157) y (t 163))) []])
(w (t 164) (s (r [o 6 (.mv (i 0))])
z)
k))
(s (s (r [p 165 1 3,
l 166 165,
o 167 (N .geq (t 166) (i 4))])
(w (t 167) (s (r [o 6 (.mv (i 2))])
z)
k))
(s (r [p 168 2 3,
l 169 168,
a 6 169])
z)))
(s (r [o 171 (N .eql (t 79) (c (.int .u8 18))),
a 170 171])
(w (t 170) (s (d [u 0 (a 172 1) [],
u 1 (p 173 3 3) [],
u 2 (l 174 173) [],
u 3 (o 175 (.call (f 120) [(t 172),(t 174),(i 0)])) [],
u 4 (a 176 175) [],
u 5 (g 177 176 true (.mv (t 1))) [],
u 6 (g 178 176 true (.faddr 3 (t 3))) [],
u 7 (g 179 176 true (.load1 (t 178))) [],
u 8 (g 180 176 true (N .sub (t 179) (i 1))) [],
u 9 (g 181 176 true (.idxS 5 (t 177) (t 180))) [],
u 10 (g 182 176 true (.faddr 4 (t 181))) [],
u 11 (g 183 176 true (.load1 (t 182))) [],
u 12 (o 184 (.pick (t 176) (t 183) n)) [],
u 13 (a 185 184) [],
u 14 (g 186 185 true (.faddr 1 (t 3))) [],
u 15 (g 187 185 true (.load1 (t 186))) [],
u 16 (g 188 185 true (N .geq (t 187) (i 0))) [],
u 17 (o 189 (.pick (t 185) (t 188) n)) [],
u 18 (a 190 189) [],
u 19 (g 191 190 true (.faddr 1 (t 3))) [],
u 20 (g 192 190 true (.load1 (t 191))) [],
u 21 (g 193 190 true (.mv (t 1))) [],
u 22 (g 194 190 true (.faddr 3 (t 3))) [],
u 23 (g 195 190 true (.load1 (t 194))) [2],
u 24 (g 196 190 true (N .sub (t 195) (i 1))) [],
u 25 (g 197 190 true (.idxS 5 (t 193) (t 196))) [],
u 26 (g 198 190 true (.faddr 0 (t 197))) [],
u 27 (g 199 190 true (.faddr 1 (t 198))) [],
u 28 (g 200 190 true (.faddr 1 (t 199))) [],
u 29 (g 201 190 true (.load1 (t 200))) [8],
u 30 (g 202 190 true (N .lss (t 192) (t 201))) [],
u 31 (o 203 (.pick (t 190) (t 202) n)) []])
(w (t 203) (s (r [a 204 7,
o 205 (.idxS 1 (t 204) (i 0)),
l 206 205,
a 6 206])
z)
k))
(s (r [o 208 (N .eql (t 79) (c (.int .u8 15))),
a 207 208])
(w (t 207) (s (r [p 209 3 3,
l 210 209,
o 211 (N .geq (t 210) (i 1)),
a 212 211,
g 213 212 true (.faddr 3 (t 3)),
g 214 212 true (.load1 (t 213)),
g 215 212 true (.mv (t 1)),
g 216 212 true (.len (t 215)),
g 217 212 true (N .leq (t 214) (t 216)),
o 218 (.pick (t 212) (t 217) n),
a 219 218,
g 220 219 true (.mv (t 1)),
g 221 219 true (.faddr 3 (t 3)),
g 222 219 true (.load1 (t 221)),
g 223 219 true (N .sub (t 222) (i 1)),
g 224 219 true (.idxS 5 (t 220) (t 223)),
g 225 219 true (.faddr 3 (t 224)),
g 226 219 true (.load1 (t 225)),
o 227 (.pick (t 219) (t 226) n)])
(w (t 227) (s (r [a 228 1,
p 229 3 3,
l 230 229,
o 231 (N .sub (t 230) (i 1)),
o 232 (.idxS 5 (t 228) (t 231)),
p 233 0 232,
p 234 1 233,
p 235 1 234,
l 236 235,
a 6 236])
z)
k))
(s (r [o 80 (.loadN 5 (t 3)),
a 81 7,
a 82 2,
o 83 (.call (f 164) [(t 80),(t 81),(t 82)]),
a 6 83])
z)))))))))))))))))
(s (r [o 6 (.mv (i 0))])
z))))))⟩

def ir119 : IFunc := ⟨[.tmp 2],
(s (r [o 1 (.box 5 (t 0)),
o 2 (.mv n)])
(s (r [o 3 (.mv n),
o 4 (.mv n),
o 5 (.mv n)])
(s (s (r [p 6 0 1,
l 7 6])
(b 0 (s (s (r [o 9 (N .eql (t 7) (c (.int .u8 1))),
a 8 9])
(w (t 8) k
(s (r [o 10 (N .eql (t 7) (c (.int .u8 5))),
a 8 10])
(w (t 8) k
(r [o 11 (N .eql (t 7) (c (.int .u8 10))),
a 8 11])))))
(w (t 8) (r [o 3 (.mv y),
o 4 (.mv y)])
(s (s (r [o 13 (N .eql (t 7) (c (.int .u8 6))),
a 12 13])
(w (t 12) k
(r [o 14 (N .eql (t 7) (c (.int .u8 12))),
a 12 14])))
(w (t 12) (r [o 3 (.mv y)])
(s (s (r [o 16 (N .eql (t 7) (c (.int .u8 2))),
a 15 16])
(w (t 15) k
(s (r [o 17 (N .eql (t 7) (c (.int .u8 3))),
a 15 17])
(w (t 15) k
(s (r [o 18 (N .eql (t 7) (c (.int .u8 4))),
a 15 18])
(w (t 15) k
(s (r [o 19 (N .eql (t 7) (c (.int .u8 15))),
a 15 19])
(w (t 15) k
(r [o 20 (N .eql (t 7) (c (.int .u8 16))),
a 15 20])))))))))
(w (t 15) (r [o 5 (.mv y)])
(s (r [o 22 (N .eql (t 7) (c (.int .u8 18))),
a 21 22])
(w (t 21) (r [o 3 (.mv y),
o 5 (.mv y)])
k))))))))))
(s (r [a 23 3,
a 24 23,
g 25 24 false (.faddr 1 (t 1)),
g 26 24 false (.load1 (t 25)),
g 27 24 false (N .eql (t 26) (i 0)),
o 28 (.pick (t 24) y (t 27)),
a 29 28,
g 30 29 true (.mv (t 4)),
g 31 29 true (.mv (t 30)),
g 32 31 false (.faddr 2 (t 1)),
g 33 31 false (.load1 (t 32)),
g 34 31 false (N .eql (t 33) (i 0)),
g 35 29 true (.pick (t 31) y (t 34)),
o 36 (.pick (t 29) (t 35) n),
a 37 36,
g 38 37 true (.mv (t 5)),
g 39 37 true (.mv (t 38)),
g 40 39 false (.faddr 3 (t 1)),
g 41 39 false (.load1 (t 40)),
g 42 39 false (N .eql (t 41) (i 0)),
g 43 37 true (.pick (t 39) y (t 42)),
o 44 (.pick (t 37) (t 43) n),
a 2 44])
z))))⟩

def ir120 : IFunc := ⟨[.tmp 6],
(s (r [o 6 (.mv n)])
(s (s (r [a 8 1,
o 9 (N .lss (t 8) (i 1)),
a 10 9,
g 11 10 false (.mv (t 1)),
g 12 10 false (.mv (t 0)),
g 13 10 false (.len (t 12)),
g 14 10 false (N .gtr (t 11) (t 13)),
o 15 (.pick (t 10) y (t 14))])
(w (t 15) (s (r [o 6 (.mv n)])
z)
k))
(s (r [a 16 0,
a 17 1,
o 18 (N .sub (t 17) (i 1)),
o 19 (.idxS 5 (t 16) (t 18)),
o 20 (.loadN 5 (t 19)),
o 7 (.mk 221 [(.slice none 0 0),(.bool false),(.int .i64 0),(.bool false),(.bool false)]),
q (.store 5 (t 7) (t 20))])
(s (r [p 21 3 7,
l 22 21,
o 23 (.not (t 22)),
a 24 23,
g 25 24 true (.faddr 0 (t 7)),
g 26 24 true (.faddr 0 (t 25)),
g 27 24 true (.load1 (t 26)),
g 28 24 true (.len (t 27)),
g 29 24 true (N .eql (t 28) (i 0)),
o 30 (.pick (t 24) (t 29) n),
a 31 30,
g 32 31 true (.faddr 0 (t 7)),
g 33 31 true (.faddr 1 (t 32)),
g 34 31 true (.faddr 0 (t 33)),
g 35 31 true (.load1 (t 34)),
o 36 (.pick (t 31) (t 35) n),
a 37 36,
g 38 37 true (.mv (t 2)),
g 39 37 true (N .eql (t 38) (i 0)),
g 40 37 true (.mv (t 39)),
g 41 40 false (.faddr 0 (t 7)),
g 42 40 false (.faddr 1 (t 41)),
g 43 40 false (.faddr 1 (t 42)),
g 44 40 false (.load1 (t 43)),
g 45 40 false (.mv (t 2)),
g 46 40 false (N .eql (t 44) (t 45)),
g 47 37 true (.pick (t 40) y (t 46)),
o 48 (.pick (t 37) (t 47) n),
a 6 48])
z))))⟩

def ir121 : IFunc := ⟨[.tmp 4],
(s (r [o 3 (.box 5 (t 1)),
o 4 (.mv (c (.slice none 0 0)))])
(s (d [u 0 (a 5 0) [],
u 1 (o 6 (.append 221 5 48 (c (.slice none 0 0)) (t 5))) [],
u 2 (o 7 (.loadN 5 (t 3))) [0],
u 3 (o 8 (.buildSlice 1 [(.slice none 0 0),(.bool false),(.int .i64 0),(.bool false),(.bool false)] [(0,5,(t 7))])) [1],
u 4 (o 9 (.append 221 5 48 (t 6) (t 8))) [],
u 5 (a 4 9) []])
z))⟩

def ir123 : IFunc := ⟨[.cellN 6 2,.tmp 7],
(s (r [o 3 (.box 4 (t 0)),
o 6 (.mk 27 [(.bool false),(.int .i64 0)]),
o 7 (.mv n)])
(s (s (r [a 9 1,
o 10 (N .eql (t 9) (i 0)),
a 11 10,
g 12 11 true (.mv (t 2)),
g 13 11 true (N .eql (t 12) (i 0)),
o 14 (.pick (t 11) (t 13) n)])
(w (t 14) (s (r [p 15 1 3,
o 16 (.loadN 2 (t 15)),
q (.store 2 (t 6) (t 16)),
o 7 (.mv y)])
z)
k))
(s (s (r [a 17 1,
p 18 0 3,
l 19 18,
o 20 (.len (t 19)),
o 21 (.call (f 159) [(t 17),(i 1),(t 20)]),
o 22 (.not (t 21))])
(w (t 22) (s (r [o 23 (.build [(.bool false),(.int .i64 0)] []),
q (.store 2 (t 6) (t 23)),
o 7 (.mv n)])
z)
k))
(s (r [p 24 0 3,
l 25 24,
a 26 1,
o 27 (N .sub (t 26) (i 1)),
o 28 (.idxS 3 (t 25) (t 27)),
o 29 (.loadN 3 (t 28)),
o 8 (.mk 59 [(.slice none 0 0),(.bool false),(.int .i64 0)]),
q (.store 3 (t 8) (t 29))])
(s (s (r [a 30 2,
o 31 (N .eql (t 30) (i 0))])
(w (t 31) (s (r [p 32 1 8,
o 33 (.loadN 2 (t 32)),
q (.store 2 (t 6) (t 33)),
o 7 (.mv y)])
z)
k))
(s (s (r [a 34 2,
p 35 0 8,
l 36 35,
o 37 (.len (t 36)),
o 38 (.call (f 159) [(t 34),(i 1),(t 37)]),
o 39 (.not (t 38))])
(w (t 39) (s (r [o 40 (.build [(.bool false),(.int .i64 0)] []),
q (.store 2 (t 6) (t 40)),
o 7 (.mv n)])
z)
k))
(s (r [p 41 0 8,
l 42 41,
a 43 2,
o 44 (N .sub (t 43) (i 1)),
o 45 (.idxS 2 (t 42) (t 44)),
o 46 (.loadN 2 (t 45)),
q (.store 2 (t 6) (t 46)),
o 7 (.mv y)])
z)))))))⟩

def ir124 : IFunc := ⟨[.cellN 4 2],
(s (r [o 2 (.box 3 (t 0)),
o 4 (.mk 33 [(.slice none 0 0),(.slice none 0 0)])])
(s (r [o 5 (.mv (c (.slice none 0 0)))])
(s (r [a 15 1,
o 16 (.build [(.int .i64 0),(.int .i64 0),(.int .u8 0),(.int .i64 0)] [(0,1,(t 15)),(2,1,(c (.int .u8 1)))]),
o 6 (.mk 47 [(.int .i64 0),(.int .i64 0),(.int .u8 0),(.int .i64 0)]),
q (.store 4 (t 6) (t 16))])
(s (s (r [o 7 (.mv (i 0))])
(b 0 (lo (s (s (r [a 17 7,
p 18 0 2,
l 19 18,
a 20 1,
o 21 (N .sub (t 20) (i 1)),
o 22 (.idxS 3 (t 19) (t 21)),
p 23 1 22,
p 24 1 23,
l 25 24,
o 26 (N .lss (t 17) (t 25))])
(w (t 26) k
(e 0)))
(s (b 1 (d [u 5 (a 34 7) [],
u 6 (o 35 (.call (f 127) [(t 34)])) [],
u 0 (a 29 5) [],
u 1 (o 30 (.loadN 4 (t 6))) [1],
u 2 (a 31 1) [],
u 3 (a 32 7) [],
u 4 (o 33 (.build [(.int .i64 0),(.int .i64 0),(.int .u8 0),(.int .i64 0)] [(0,1,(t 31)),(2,1,(c (.int .u8 3))),(3,1,(t 32))])) [],
u 7 (o 36 (.buildSlice 3 [(.int .i64 0),(.int .i64 0),(.int .u8 0),(.int .i64 0),(.int .i64 0),(.int .i64 0),(.int .u8 0),(.int .i64 0),(.int .i64 0),(.int .i64 0),(.int .u8 0),(.int .i64 0)] [(0,4,(t 30)),(4,4,(t 33)),(8,4,(t 35))])) [],
u 8 (o 37 (.buildSlice 1 [(.slice none 0 0)] [(0,1,(t 36))])) [],
u 9 (o 38 (.append 39 1 24 (t 29) (t 37))) [],
u 10 (a 5 38) []]))
(r [a 27 7,
o 28 (N .add (t 27) (i 1)),
a 7 28]))))))
(s (r [o 39 (.buildSlice 1 [(.int .i64 0)] [(0,1,(i 0))]),
o 40 (.build [(.slice none 0 0),(.slice none 0 0),(.slice none 0 0)] [(2,1,(t 39))]),
o 41 (.build [(.slice none 0 0),(.slice none 0 0),(.slice none 0 0)] [(0,3,(t 40))]),
o 42 (.box 3 (t 41)),
a 8 42])
(s (r [a 43 8,
o 44 (.call (f 74) [(t 43),n]),
a 45 8,
o 46 (.call (f 74) [(t 45),y]),
a 9 44,
a 10 46])
(s (r [a 47 8,
a 48 9,
o 49 (.loadN 4 (t 6)),
o 50 (.call (f 165) [(t 47),(t 48),(t 49)]),
a 11 50])
(s (s (r [o 12 (.mv (i 0))])
(b 2 (lo (s (s (r [a 51 12,
a 52 5,
o 53 (.len (t 52)),
o 54 (N .lss (t 51) (t 53))])
(w (t 54) k
(e 2)))
(s (b 3 (r [a 57 8,
a 58 8,
a 59 11,
a 60 5,
a 61 12,
o 62 (.idxS 1 (t 60) (t 61)),
l 63 62,
o 64 (.idxS 4 (t 63) (i 1)),
o 65 (.loadN 4 (t 64)),
o 66 (.call (f 165) [(t 58),(t 59),(t 65)]),
a 67 12,
o 68 (.call (f 127) [(t 67)]),
a 69 10,
o 70 (.call (f 77) [(t 57),(t 66),(t 68),(t 69)])]))
(r [a 55 12,
o 56 (N .add (t 55) (i 1)),
a 12 56]))))))
(s (s (r [p 71 2 2,
l 72 71])
(w (t 72) (r [a 73 8,
a 74 8,
a 75 11,
a 76 1,
o 77 (.build [(.int .i64 0),(.int .i64 0),(.int .u8 0),(.int .i64 0)] [(0,1,(t 76)),(2,1,(c (.int .u8 3))),(3,1,(i (-1)))]),
o 78 (.call (f 165) [(t 74),(t 75),(t 77)]),
o 79 (.call (f 127) [(i (-1))]),
a 80 10,
o 81 (.call (f 77) [(t 73),(t 78),(t 79),(t 80)])])
k))
(s (r [a 83 8,
o 84 (.call (f 79) [(t 83)]),
a 82 84,
o 85 (.extract 0 (t 82)),
o 86 (.extract 1 (t 82)),
o 13 (.mk 33 [(.slice none 0 0),(.slice none 0 0)]),
q (.store 2 (t 13) (t 85)),
a 14 86])
(s (r [o 87 (.loadN 2 (t 13)),
q (.store 2 (t 4) (t 87))])
z)))))))))))⟩

def ir127 : IFunc := ⟨[.cellN 2 4],
(s (r [o 2 (.mk 47 [(.int .i64 0),(.int .i64 0),(.int .u8 0),(.int .i64 0)])])
(s (r [a 3 0,
o 4 (.build [(.int .i64 0),(.int .i64 0),(.int .u8 0),(.int .i64 0)] [(2,1,(c (.int .u8 3))),(3,1,(t 3))]),
q (.store 4 (t 2) (t 4))])
z))⟩

def ir128 : IFunc := ⟨[.cellN 4 2,.tmp 5],
(s (r [o 2 (.box 3 (t 0)),
o 3 (.box 5 (t 1)),
o 4 (.mk 33 [(.slice none 0 0),(.slice none 0 0)]),
o 5 (.mv n)])
(s (s (r [p 12 0 3,
l 13 12])
(b 0 (s (r [o 15 (N .eql (t 13) (c (.int .u8 1))),
a 14 15])
(w (t 14) (s (r [p 16 1 3,
l 17 16,
o 18 (.call (f 127) [(t 17)]),
o 19 (.buildSlice 1 [(.int .i64 0),(.int .i64 0),(.int .u8 0),(.int .i64 0)] [(0,4,(t 18))]),
o 20 (.buildSlice 1 [(.slice none 0 0)] [(0,1,(t 19))]),
o 21 (.call (f 126) [(t 20)]),
q (.store 2 (t 4) (t 21)),
o 5 (.mv y)])
z)
(s (r [o 23 (N .eql (t 13) (c (.int .u8 15))),
a 22 23])
(w (t 22) (s (r [p 24 1 2,
l 25 24,
p 26 3 3,
l 27 26,
o 28 (N .sub (t 27) (i 1)),
o 29 (.idxS 1 (t 25) (t 28)),
l 30 29,
o 31 (.call (f 127) [(t 30)]),
o 32 (.buildSlice 1 [(.int .i64 0),(.int .i64 0),(.int .u8 0),(.int .i64 0)] [(0,4,(t 31))]),
o 33 (.buildSlice 1 [(.slice none 0 0)] [(0,1,(t 32))]),
o 34 (.call (f 126) [(t 33)]),
q (.store 2 (t 4) (t 34)),
o 5 (.mv y)])
z)
(s (r [o 36 (N .eql (t 13) (c (.int .u8 12))),
a 35 36])
(w (t 35) (s (r [p 37 1 3,
l 38 37,
o 39 (N .sub (i (-2)) (t 38)),
o 40 (.call (f 127) [(t 39)]),
o 41 (.buildSlice 1 [(.int .i64 0),(.int .i64 0),(.int .u8 0),(.int .i64 0)] [(0,4,(t 40))]),
o 42 (.buildSlice 1 [(.slice none 0 0)] [(0,1,(t 41))]),
o 43 (.call (f 126) [(t 42)]),
q (.store 2 (t 4) (t 43)),
o 5 (.mv y)])
z)
(s (r [o 45 (N .eql (t 13) (c (.int .u8 14))),
a 44 45])
(w (t 44) (s (r [o 46 (.call (f 169) []),
q (.store 2 (t 4) (t 46)),
o 5 (.mv y)])
z)
(s (r [o 48 (N .eql (t 13) (c (.int .u8 3))),
a 47 48])
(w (t 47) (s (r [o 49 (.loadN 3 (t 2)),
p 50 3 3,
l 51 50,
o 52 (.call (f 124) [(t 49),(t 51)]),
q (.store 2 (t 4) (t 52)),
o 5 (.mv y)])
z)
(s (r [o 54 (N .eql (t 13) (c (.int .u8 2))),
a 53 54])
(w (t 53) (s (s (r [p 55 4 3,
l 56 55,
o 57 (.len (t 56)),
o 58 (N .eql (t 57) (i 0))])
(w (t 58) (s (r [o 59 (.loadN 3 (t 2)),
p 60 3 3,
l 61 60,
o 62 (.call (f 124) [(t 59),(t 61)]),
q (.store 2 (t 4) (t 62)),
o 5 (.mv y)])
z)
k))
(s (r [o 63 (.loadN 3 (t 2)),
o 64 (.loadN 5 (t 3)),
o 65 (.call (f 170) [(t 63),(t 64)]),
o 66 (.extract 0 (t 65)),
o 67 (.extract 1 (t 65)),
q (.store 2 (t 4) (t 66)),
a 5 67])
z))
(s (r [o 69 (N .eql (t 13) (c (.int .u8 10))),
a 68 69])
(w (t 68) (s (d [u 0 (o 71 (.loadN 3 (t 2))) [],
u 1 (p 72 1 3) [],
u 2 (l 73 72) [1],
u 3 (o 74 (.build [(.bool false),(.int .i64 0)] [(0,1,y),(1,1,(t 73))])) [],
u 4 (o 75 (.call (f 129) [(t 71),(t 74),(i (-1))])) [],
u 5 (p 76 4 3) [],
u 6 (l 77 76) [1,3,5],
u 7 (o 78 (.idxS 5 (t 77) (i 0))) [],
u 8 (o 79 (.loadN 5 (t 78))) [3,5,7],
u 9 (o 80 (.call (f 128) [(t 75),(t 79)])) [],
u 10 (a 70 80) [],
u 11 (o 81 (.extract 0 (t 70))) [],
u 12 (o 82 (.extract 1 (t 70))) [],
u 13 (o 6 (.mk 33 [(.slice none 0 0),(.slice none 0 0)])) [3,4,6,8,10,12],
u 14 (q (.store 2 (t 6) (t 81))) [],
u 15 (a 7 82) []])
(s (s (r [a 83 7,
o 84 (.not (t 83))])
(w (t 84) (s (r [o 85 (.build [(.slice none 0 0),(.slice none 0 0)] []),
q (.store 2 (t 4) (t 85)),
o 5 (.mv n)])
z)
k))
(s (r [o 86 (.loadN 2 (t 6)),
p 87 0 2,
l 88 87,
o 89 (.len (t 88)),
o 90 (N .add (t 89) (i 1)),
p 91 1 3,
l 92 91,
p 93 2 3,
l 94 93,
o 95 (.build [(.int .i64 0),(.int .i64 0),(.int .i64 0)] [(0,1,(t 90)),(1,1,(t 92)),(2,1,(t 94))]),
o 96 (.call (f 171) [(t 86),(t 95)]),
o 97 (.extract 0 (t 96)),
o 98 (.extract 1 (t 96)),
q (.store 2 (t 4) (t 97)),
a 5 98])
z)))
k))))))))))))))))
(s (r [o 8 (.mv (c (.slice none 0 0)))])
(s (s (r [o 9 (.mv (i 0))])
(b 1 (lo (s (s (r [a 99 9,
p 100 4 3,
l 101 100,
o 102 (.len (t 101)),
o 103 (N .lss (t 99) (t 102))])
(w (t 103) k
(e 1)))
(s (b 2 (s (d [u 0 (o 107 (.loadN 3 (t 2))) [],
u 1 (p 108 4 3) [],
u 2 (l 109 108) [1],
u 3 (a 110 9) [],
u 4 (o 111 (.idxS 5 (t 109) (t 110))) [],
u 5 (o 112 (.loadN 5 (t 111))) [4],
u 6 (o 113 (.call (f 128) [(t 107),(t 112)])) [],
u 7 (a 106 113) [],
u 8 (o 114 (.extract 0 (t 106))) [],
u 9 (o 115 (.extract 1 (t 106))) [],
u 10 (o 10 (.mk 33 [(.slice none 0 0),(.slice none 0 0)])) [3,4,7,9],
u 11 (q (.store 2 (t 10) (t 114))) [],
u 12 (a 11 115) []])
(s (s (r [a 116 11,
o 117 (.not (t 116))])
(w (t 117) (s (r [o 118 (.build [(.slice none 0 0),(.slice none 0 0)] []),
q (.store 2 (t 4) (t 118)),
o 5 (.mv n)])
z)
k))
(r [a 119 8,
o 120 (.loadN 2 (t 10)),
o 121 (.buildSlice 1 [(.slice none 0 0),(.slice none 0 0)] [(0,2,(t 120))]),
o 122 (.append 33 2 48 (t 119) (t 121)),
a 8 122]))))
(r [a 104 9,
o 105 (N .add (t 104) (i 1)),
a 9 105]))))))
(s (r [o 123 (.loadN 3 (t 2)),
o 124 (.loadN 5 (t 3)),
a 125 8,
o 126 (.call (f 172) [(t 123),(t 124),(t 125)]),
o 127 (.extract 0 (t 126)),
o 128 (.extract 1 (t 126)),
q (.store 2 (t 4) (t 127)),
a 5 128])
z)))))⟩

def ir130 : IFunc := ⟨[.tmp 4],
(s (r [o 4 (.mv (c (.slice none 0 0)))])
(s (r [o 5 (.mv (c (.slice none 0 0)))])
(s (s (r [o 6 (.mv (i 0))])
(b 0 (lo (s (s (r [a 9 6,
a 10 0,
o 11 (.len (t 10)),
o 12 (N .lss (t 9) (t 11))])
(w (t 12) k
(e 0)))
(s (b 1 (s (r [o 7 (.mv (c (.slice none 0 0)))])
(s (s (r [o 8 (.mv (i 0))])
(b 2 (lo (s (s (r [a 15 8,
a 16 0,
a 17 6,
o 18 (.idxS 1 (t 16) (t 17)),
l 19 18,
o 20 (.len (t 19)),
o 21 (N .lss (t 15) (t 20))])
(w (t 21) k
(e 2)))
(s (b 3 (d [u 0 (a 24 7) [],
u 1 (a 25 0) [],
u 2 (a 26 6) [],
u 3 (o 27 (.idxS 1 (t 25) (t 26))) [],
u 4 (l 28 27) [],
u 5 (a 29 8) [],
u 6 (o 30 (.idxS 5 (t 28) (t 29))) [],
u 7 (p 31 0 30) [],
u 8 (o 32 (.loadN 4 (t 31))) [],
u 9 (a 33 0) [],
u 10 (a 34 6) [],
u 11 (o 35 (.idxS 1 (t 33) (t 34))) [],
u 12 (l 36 35) [3,7],
u 13 (a 37 8) [],
u 14 (o 38 (.idxS 5 (t 36) (t 37))) [],
u 15 (p 39 4 38) [],
u 16 (l 40 39) [7,11],
u 17 (a 41 1) [],
u 18 (o 42 (N .add (t 40) (t 41))) [],
u 19 (o 43 (.build [(.int .i64 0),(.int .i64 0),(.int .u8 0),(.int .i64 0),(.int .i64 0)] [(0,4,(t 32)),(4,1,(t 42))])) [],
u 20 (o 44 (.buildSlice 1 [(.int .i64 0),(.int .i64 0),(.int .u8 0),(.int .i64 0),(.int .i64 0)] [(0,5,(t 43))])) [],
u 21 (o 45 (.append 143 5 40 (t 24) (t 44))) [],
u 22 (a 7 45) []]))
(r [a 22 8,
o 23 (N .add (t 22) (i 1)),
a 8 23]))))))
(r [a 46 5,
a 47 7,
o 48 (.buildSlice 1 [(.slice none 0 0)] [(0,1,(t 47))]),
o 49 (.append 140 1 24 (t 46) (t 48)),
a 5 49]))))
(r [a 13 6,
o 14 (N .add (t 13) (i 1)),
a 6 14]))))))
(s (r [a 50 5,
a 4 50])
z))))⟩

def ir131 : IFunc := ⟨[.tmp 6],
(s (r [o 3 (.box 2 (t 0)),
o 6 (.mv (c (.slice none 0 0)))])
(s (r [a 11 1,
o 12 (.buildSlice 1 [(.int .i64 0)] [(0,1,(t 11))]),
a 7 12])
(s (s (r [o 8 (.mv (i 0))])
(b 0 (lo (s (s (r [a 13 8,
a 14 7,
o 15 (.len (t 14)),
o 16 (N .lss (t 13) (t 15))])
(w (t 16) k
(e 0)))
(s (b 1 (s (r [o 9 (.mv (i 0))])
(b 2 (lo (s (s (d [u 0 (a 19 9) [],
u 1 (p 20 0 3) [],
u 2 (l 21 20) [],
u 3 (a 22 7) [],
u 4 (a 23 8) [],
u 5 (o 24 (.idxS 1 (t 22) (t 23))) [],
u 6 (l 25 24) [3],
u 7 (o 26 (.idxS 1 (t 21) (t 25))) [],
u 8 (l 27 26) [],
u 9 (o 28 (.len (t 27))) [],
u 10 (o 29 (N .lss (t 19) (t 28))) []])
(w (t 29) k
(e 2)))
(s (b 3 (s (d [u 0 (p 32 0 3) [],
u 1 (l 33 32) [],
u 2 (a 34 7) [],
u 3 (a 35 8) [],
u 4 (o 36 (.idxS 1 (t 34) (t 35))) [],
u 5 (l 37 36) [3],
u 6 (o 38 (.idxS 1 (t 33) (t 37))) [],
u 7 (l 39 38) [],
u 8 (a 40 9) [],
u 9 (o 41 (.idxS 5 (t 39) (t 40))) [],
u 10 (o 42 (.loadN 5 (t 41))) [],
u 11 (o 10 (.mk 143 [(.int .i64 0),(.int .i64 0),(.int .u8 0),(.int .i64 0),(.int .i64 0)])) [0,3,5,9],
u 12 (q (.store 5 (t 10) (t 42))) []])
(s (r [a 43 2,
p 44 0 10,
p 45 0 44,
l 46 45,
o 47 (.call (f 173) [(t 43),(t 46)]),
a 48 47,
g 49 48 true (.mv (t 7)),
g 50 48 true (.faddr 4 (t 10)),
g 51 48 true (.load1 (t 50)),
g 52 48 true (.call (f 173) [(t 49),(t 51)]),
g 53 48 true (.not (t 52)),
o 54 (.pick (t 48) (t 53) n)])
(w (t 54) (r [a 55 7,
p 56 4 10,
l 57 56,
o 58 (.buildSlice 1 [(.int .i64 0)] [(0,1,(t 57))]),
o 59 (.append 3 1 8 (t 55) (t 58)),
a 7 59])
k))))
(r [a 30 9,
o 31 (N .add (t 30) (i 1)),
a 9 31])))))))
(r [a 17 8,
o 18 (N .add (t 17) (i 1)),
a 8 18]))))))
(s (r [a 60 7,
a 6 60])
z))))⟩

def ir132 : IFunc := ⟨[.cellN 0 4],
(s (r [o 0 (.mk 47 [(.int .i64 0),(.int .i64 0),(.int .u8 0),(.int .i64 0)])])
(s (r [o 1 (.build [(.int .i64 0),(.int .i64 0),(.int .u8 0),(.int .i64 0)] [(0,1,(i (-1)))]),
q (.store 4 (t 0) (t 1))])
z))⟩

def ir133 : IFunc := ⟨[.cellN 2 2,.tmp 3],
(s (r [o 1 (.box 3 (t 0)),
o 2 (.mk 33 [(.slice none 0 0),(.slice none 0 0)]),
o 3 (.mv (i 0))])
(s (r [o 8 (.loadN 3 (t 1)),
o 9 (.call (f 174) [(t 8)]),
a 7 9,
o 10 (.extract 0 (t 7)),
o 11 (.extract 1 (t 7)),
o 4 (.mk 33 [(.slice none 0 0),(.slice none 0 0)]),
q (.store 2 (t 4) (t 10)),
a 5 11])
(s (s (r [a 12 5,
o 13 (.not (t 12))])
(w (t 13) (s (r [o 14 (.build [(.slice none 0 0),(.slice none 0 0)] []),
q (.store 2 (t 2) (t 14)),
o 3 (.mv (i 5))])
z)
k))
(s (r [o 15 (.loadN 2 (t 4)),
o 16 (.call (f 175) [(t 15)]),
o 6 (.mk 33 [(.slice none 0 0),(.slice none 0 0)]),
q (.store 2 (t 6) (t 16))])
(s (s (r [o 17 (.loadN 2 (t 6)),
o 18 (.call (f 176) [(t 17)])])
(w (t 18) (s (r [o 19 (.build [(.slice none 0 0),(.slice none 0 0)] []),
q (.store 2 (t 2) (t 19)),
o 3 (.mv (i 5))])
z)
k))
(s (r [o 20 (.loadN 2 (t 6)),
q (.store 2 (t 2) (t 20)),
o 3 (.mv (i 0))])
z))))))⟩

def ir134 : IFunc := ⟨[.cellN 2 5],
(s (r [o 2 (.mk 51 [(.int .u8 0),(.int .i64 0),(.int .i64 0),(.int .i64 0),(.slice none 0 0)])])
(s (r [o 13 (.buildSlice 5 [(.string ⟨#[]⟩),(.string ⟨#[]⟩),(.string ⟨#[]⟩),(.string ⟨#[]⟩),(.string ⟨#[]⟩)] [(0,1,(c (.string ⟨#[120]⟩))),(1,1,(c (.string ⟨#[33]⟩))),(2,1,(c (.string ⟨#[61]⟩))),(3,1,(c (.string ⟨#[35]⟩))),(4,1,(c (.string ⟨#[38]⟩)))]),
o 14 (.buildSlice 5 [(.int .u8 0),(.int .u8 0),(.int .u8 0),(.int .u8 0),(.int .u8 0)] [(0,1,(c (.int .u8 2))),(1,1,(c (.int .u8 3))),(2,1,(c (.int .u8 4))),(3,1,(c (.int .u8 15))),(4,1,(c (.int .u8 16)))]),
a 3 13,
a 4 14])
(s (s (r [o 5 (.mv (i 0))])
(b 0 (lo (s (s (r [a 15 5,
a 16 3,
o 17 (.len (t 16)),
o 18 (N .lss (t 15) (t 17))])
(w (t 18) k
(e 0)))
(s (b 1 (s (r [a 21 0,
a 22 3,
a 23 5,
o 24 (.idxS 1 (t 22) (t 23)),
l 25 24,
o 26 (.call (f 135) [(t 21),(t 25)])])
(w (t 26) (s (d [u 4 (a 31 0) [],
u 5 (o 32 (.call (f 177) [(t 31)])) [],
u 0 (a 27 4) [],
u 1 (a 28 5) [],
u 2 (o 29 (.idxS 1 (t 27) (t 28))) [],
u 3 (l 30 29) [3],
u 6 (o 33 (.build [(.int .u8 0),(.int .i64 0),(.int .i64 0),(.int .i64 0),(.slice none 0 0)] [(0,1,(t 30)),(3,1,(t 32))])) [],
u 7 (q (.store 5 (t 2) (t 33))) []])
z)
k)))
(r [a 19 5,
o 20 (N .add (t 19) (i 1)),
a 5 20]))))))
(s (r [o 34 (.buildSlice 5 [(.string ⟨#[]⟩),(.string ⟨#[]⟩),(.string ⟨#[]⟩),(.string ⟨#[]⟩),(.string ⟨#[]⟩)] [(0,1,(c (.string ⟨#[97,100,100]⟩))),(1,1,(c (.string ⟨#[115,117,98]⟩))),(2,1,(c (.string ⟨#[109,117,108]⟩))),(3,1,(c (.string ⟨#[101,113]⟩))),(4,1,(c (.string ⟨#[108,101,115,115]⟩)))]),
a 6 34])
(s (s (r [o 7 (.mv (i 0))])
(b 2 (lo (s (s (r [a 35 7,
a 36 6,
o 37 (.len (t 36)),
o 38 (N .lss (t 35) (t 37))])
(w (t 38) k
(e 2)))
(s (b 3 (s (r [a 41 0,
a 42 6,
a 43 7,
o 44 (.idxS 1 (t 42) (t 43)),
l 45 44,
o 46 (.call (f 135) [(t 41),(t 45)])])
(w (t 46) (s (r [a 47 7,
o 48 (N .add (t 47) (i 1)),
a 49 0,
o 50 (.call (f 178) [(t 49)]),
o 51 (.build [(.int .u8 0),(.int .i64 0),(.int .i64 0),(.int .i64 0),(.slice none 0 0)] [(0,1,(c (.int .u8 5))),(1,1,(t 48)),(2,1,(t 50))]),
q (.store 5 (t 2) (t 51))])
z)
k)))
(r [a 39 7,
o 40 (N .add (t 39) (i 1)),
a 7 40]))))))
(s (r [o 52 (.buildSlice 7 [(.string ⟨#[]⟩),(.string ⟨#[]⟩),(.string ⟨#[]⟩),(.string ⟨#[]⟩),(.string ⟨#[]⟩),(.string ⟨#[]⟩),(.string ⟨#[]⟩)] [(0,1,(c (.string ⟨#[115,101,113]⟩))),(1,1,(c (.string ⟨#[105,102]⟩))),(2,1,(c (.string ⟨#[119,104,105,108,101]⟩))),(3,1,(c (.string ⟨#[108,97,98,101,108]⟩))),(4,1,(c (.string ⟨#[99,104,111,111,115,101]⟩))),(5,1,(c (.string ⟨#[104,97,110,103]⟩))),(6,1,(c (.string ⟨#[111,98,106]⟩)))]),
o 53 (.buildSlice 7 [(.int .u8 0),(.int .u8 0),(.int .u8 0),(.int .u8 0),(.int .u8 0),(.int .u8 0),(.int .u8 0)] [(0,1,(c (.int .u8 7))),(1,1,(c (.int .u8 8))),(2,1,(c (.int .u8 9))),(3,1,(c (.int .u8 11))),(4,1,(c (.int .u8 13))),(5,1,(c (.int .u8 14))),(6,1,(c (.int .u8 17)))]),
a 8 52,
a 4 53])
(s (s (r [o 9 (.mv (i 0))])
(b 4 (lo (s (s (r [a 54 9,
a 55 8,
o 56 (.len (t 55)),
o 57 (N .lss (t 54) (t 56))])
(w (t 57) k
(e 4)))
(s (b 5 (s (r [a 60 0,
a 61 8,
a 62 9,
o 63 (.idxS 1 (t 61) (t 62)),
l 64 63,
o 65 (.call (f 135) [(t 60),(t 64)])])
(w (t 65) (s (r [a 66 4,
a 67 9,
o 68 (.idxS 1 (t 66) (t 67)),
l 69 68,
o 70 (.build [(.int .u8 0),(.int .i64 0),(.int .i64 0),(.int .i64 0),(.slice none 0 0)] [(0,1,(t 69))]),
q (.store 5 (t 2) (t 70))])
z)
k)))
(r [a 58 9,
o 59 (N .add (t 58) (i 1)),
a 9 59]))))))
(s (b 6 (s (r [a 72 0,
o 73 (.call (f 135) [(t 72),(c (.string ⟨#[97,115]⟩))]),
a 71 73])
(w (t 71) (s (r [a 74 0,
o 75 (.call (f 178) [(t 74)]),
o 76 (.build [(.int .u8 0),(.int .i64 0),(.int .i64 0),(.int .i64 0),(.slice none 0 0)] [(0,1,(c (.int .u8 6))),(1,1,(t 75))]),
q (.store 5 (t 2) (t 76))])
z)
(s (r [a 78 0,
o 79 (.call (f 135) [(t 78),(c (.string ⟨#[106,117,109,112]⟩))]),
a 77 79])
(w (t 77) (s (r [a 80 0,
o 81 (.call (f 178) [(t 80)]),
o 82 (.build [(.int .u8 0),(.int .i64 0),(.int .i64 0),(.int .i64 0),(.slice none 0 0)] [(0,1,(c (.int .u8 12))),(1,1,(t 81))]),
q (.store 5 (t 2) (t 82))])
z)
(s (r [a 84 0,
o 85 (.call (f 135) [(t 84),(c (.string ⟨#[110,111,116,105,99,101]⟩))]),
a 83 85])
(w (t 83) (s (r [a 86 0,
o 87 (.call (f 178) [(t 86)]),
a 10 87])
(s (r [a 88 10,
a 89 0,
o 90 (.call (f 178) [(t 89)]),
o 91 (.build [(.int .u8 0),(.int .i64 0),(.int .i64 0),(.int .i64 0),(.slice none 0 0)] [(0,1,(c (.int .u8 18))),(3,1,(t 88)),(1,1,(t 90))]),
q (.store 5 (t 2) (t 91))])
z))
(s (r [a 93 0,
o 94 (.call (f 135) [(t 93),(c (.string ⟨#[110,101,119]⟩))]),
a 92 94])
(w (t 92) (s (r [a 95 0,
o 96 (.call (f 178) [(t 95)]),
a 11 96])
(s (r [a 97 11,
a 98 0,
o 99 (.call (f 178) [(t 98)]),
o 100 (.build [(.int .u8 0),(.int .i64 0),(.int .i64 0),(.int .i64 0),(.slice none 0 0)] [(0,1,(c (.int .u8 10))),(1,1,(t 97)),(2,1,(t 99))]),
q (.store 5 (t 2) (t 100))])
z))
k)))))))))
(s (r [a 101 0,
o 102 (.call (f 177) [(t 101)]),
a 12 102])
(s (r [a 103 12,
a 104 0,
o 105 (.call (f 178) [(t 104)]),
o 106 (.build [(.int .u8 0),(.int .i64 0),(.int .i64 0),(.int .i64 0),(.slice none 0 0)] [(0,1,(c (.int .u8 1))),(1,1,(t 103)),(2,1,(t 105))]),
q (.store 5 (t 2) (t 106))])
z))))))))))⟩

def ir135 : IFunc := ⟨[.tmp 4],
(s (r [o 4 (.mv n)])
(s (s (d [u 0 (a 5 0) [],
u 1 (o 6 (.nilCheck (t 5))) [],
u 2 (p 7 2 6) [],
u 3 (l 8 7) [],
u 4 (a 9 8) [],
u 5 (g 10 9 false (.mv (t 0))) [],
u 6 (g 11 9 false (.nilCheck (t 10))) [],
u 7 (g 12 9 false (.faddr 0 (t 11))) [],
u 8 (g 13 9 false (.load1 (t 12))) [],
u 9 (g 14 9 false (.lenStr (t 13))) [],
u 10 (g 15 9 false (.mv (t 0))) [],
u 11 (g 16 9 false (.nilCheck (t 15))) [],
u 12 (g 17 9 false (.faddr 1 (t 16))) [],
u 13 (g 18 9 false (.load1 (t 17))) [4],
u 14 (g 19 9 false (N .sub (t 14) (t 18))) [],
u 15 (g 20 9 false (.mv (t 1))) [],
u 16 (g 21 9 false (.lenStr (t 20))) [],
u 17 (g 22 9 false (N .lss (t 19) (t 21))) [],
u 18 (o 23 (.pick (t 9) y (t 22))) [],
u 19 (a 24 23) [],
u 20 (g 25 24 false (.mv (t 0))) [],
u 21 (g 26 24 false (.nilCheck (t 25))) [],
u 22 (g 27 24 false (.faddr 0 (t 26))) [],
u 23 (g 28 24 false (.load1 (t 27))) [],
u 24 (g 29 24 false (.mv (t 0))) [],
u 25 (g 30 24 false (.nilCheck (t 29))) [],
u 26 (g 31 24 false (.faddr 1 (t 30))) [],
u 27 (g 32 24 false (.load1 (t 31))) [3],
u 28 (g 33 24 false (.mv (t 0))) [],
u 29 (g 34 24 false (.nilCheck (t 33))) [],
u 30 (g 35 24 false (.faddr 1 (t 34))) [],
u 31 (g 36 24 false (.load1 (t 35))) [3,7],
u 32 (g 37 24 false (.mv (t 1))) [],
u 33 (g 38 24 false (.lenStr (t 37))) [],
u 34 (g 39 24 false (N .add (t 36) (t 38))) [],
u 35 (g 40 24 false (.sliceStr (t 28) (some (t 32)) (some (t 39)))) [],
u 36 (g 41 24 false (.mv (t 1))) [],
u 37 (g 42 24 false (.bin .str .neq (t 40) (t 41))) [],
u 38 (o 43 (.pick (t 24) y (t 42))) []])
(w (t 43) (s (r [o 4 (.mv n)])
z)
k))
(s (r [a 44 0,
o 45 (.nilCheck (t 44)),
p 46 1 45,
l 47 46,
a 48 1,
o 49 (.lenStr (t 48)),
o 50 (N .add (t 47) (t 49)),
o 51 (.nilCheck (t 44)),
p 52 1 51,
q (.store 1 (t 52) (t 50))])
(s (r [o 4 (.mv y)])
z))))⟩

def ir136 : IFunc := ⟨[.tmp 2],
(s (r [o 1 (.box 5 (t 0)),
o 2 (.mv (c (.string ⟨#[]⟩)))])
(s (s (r [p 4 0 1,
l 5 4])
(b 0 (s (r [o 7 (N .eql (t 5) (c (.int .u8 1))),
a 6 7])
(w (t 6) (s (d [u 0 (p 8 1 1) [],
u 1 (l 9 8) [],
u 2 (o 10 (.call (f 179) [(t 9)])) [],
u 4 (p 12 2 1) [],
u 5 (l 13 12) [1,2],
u 6 (o 14 (.call (f 179) [(t 13)])) [],
u 3 (o 11 (.bin .str .add (t 10) (c (.string ⟨#[47]⟩)))) [],
u 7 (o 15 (.bin .str .add (t 11) (t 14))) [],
u 8 (a 2 15) []])
z)
(s (r [o 17 (N .eql (t 5) (c (.int .u8 2))),
a 16 17])
(w (t 16) (s (r [p 18 3 1,
l 19 18,
o 20 (.call (f 179) [(t 19)]),
o 21 (.bin .str .add (c (.string ⟨#[120]⟩)) (t 20)),
a 2 21])
z)
(s (r [o 23 (N .eql (t 5) (c (.int .u8 3))),
a 22 23])
(w (t 22) (s (r [p 24 3 1,
l 25 24,
o 26 (.call (f 179) [(t 25)]),
o 27 (.bin .str .add (c (.string ⟨#[33]⟩)) (t 26)),
a 2 27])
z)
(s (r [o 29 (N .eql (t 5) (c (.int .u8 4))),
a 28 29])
(w (t 28) (s (r [p 30 3 1,
l 31 30,
o 32 (.call (f 179) [(t 31)]),
o 33 (.bin .str .add (c (.string ⟨#[61]⟩)) (t 32)),
a 2 33])
z)
(s (r [o 35 (N .eql (t 5) (c (.int .u8 5))),
a 34 35])
(w (t 34) (s (r [o 36 (.buildSlice 5 [(.string ⟨#[]⟩),(.string ⟨#[]⟩),(.string ⟨#[]⟩),(.string ⟨#[]⟩),(.string ⟨#[]⟩)] [(0,1,(c (.string ⟨#[97,100,100]⟩))),(1,1,(c (.string ⟨#[115,117,98]⟩))),(2,1,(c (.string ⟨#[109,117,108]⟩))),(3,1,(c (.string ⟨#[101,113]⟩))),(4,1,(c (.string ⟨#[108,101,115,115]⟩)))]),
a 3 36])
(s (d [u 7 (p 44 2 1) [],
u 8 (l 45 44) [],
u 9 (o 46 (.call (f 179) [(t 45)])) [],
u 0 (a 37 3) [],
u 1 (p 38 1 1) [],
u 2 (l 39 38) [2,3],
u 3 (o 40 (N .sub (t 39) (i 1))) [],
u 4 (o 41 (.idxS 1 (t 37) (t 40))) [],
u 5 (l 42 41) [5,6],
u 6 (o 43 (.bin .str .add (t 42) (c (.string ⟨#[47]⟩)))) [],
u 10 (o 47 (.bin .str .add (t 43) (t 46))) [],
u 11 (a 2 47) []])
z))
(s (r [o 49 (N .eql (t 5) (c (.int .u8 6))),
a 48 49])
(w (t 48) (s (r [p 50 1 1,
l 51 50,
o 52 (.call (f 179) [(t 51)]),
o 53 (.bin .str .add (c (.string ⟨#[97,115,47]⟩)) (t 52)),
a 2 53])
z)
(s (r [o 55 (N .eql (t 5) (c (.int .u8 7))),
a 54 55])
(w (t 54) (s (r [o 2 (.mv (c (.string ⟨#[115,101,113]⟩)))])
z)
(s (r [o 57 (N .eql (t 5) (c (.int .u8 8))),
a 56 57])
(w (t 56) (s (r [o 2 (.mv (c (.string ⟨#[105,102]⟩)))])
z)
(s (r [o 59 (N .eql (t 5) (c (.int .u8 9))),
a 58 59])
(w (t 58) (s (r [o 2 (.mv (c (.string ⟨#[119,104,105,108,101]⟩)))])
z)
(s (r [o 61 (N .eql (t 5) (c (.int .u8 10))),
a 60 61])
(w (t 60) (s (d [u 0 (p 62 1 1) [],
u 1 (l 63 62) [],
u 2 (o 64 (.call (f 179) [(t 63)])) [],
u 5 (p 67 2 1) [],
u 6 (l 68 67) [1,2],
u 7 (o 69 (.call (f 179) [(t 68)])) [],
u 3 (o 65 (.bin .str .add (c (.string ⟨#[110,101,119,47]⟩)) (t 64))) [],
u 4 (o 66 (.bin .str .add (t 65) (c (.string ⟨#[47]⟩)))) [],
u 8 (o 70 (.bin .str .add (t 66) (t 69))) [],
u 9 (a 2 70) []])
z)
(s (r [o 72 (N .eql (t 5) (c (.int .u8 11))),
a 71 72])
(w (t 71) (s (r [o 2 (.mv (c (.string ⟨#[108,97,98,101,108]⟩)))])
z)
(s (r [o 74 (N .eql (t 5) (c (.int .u8 12))),
a 73 74])
(w (t 73) (s (r [p 75 1 1,
l 76 75,
o 77 (.call (f 179) [(t 76)]),
o 78 (.bin .str .add (c (.string ⟨#[106,117,109,112,47]⟩)) (t 77)),
a 2 78])
z)
(s (r [o 80 (N .eql (t 5) (c (.int .u8 18))),
a 79 80])
(w (t 79) (s (d [u 0 (p 81 3 1) [],
u 1 (l 82 81) [],
u 2 (o 83 (.call (f 179) [(t 82)])) [],
u 5 (p 86 1 1) [],
u 6 (l 87 86) [1,2],
u 7 (o 88 (.call (f 179) [(t 87)])) [],
u 3 (o 84 (.bin .str .add (c (.string ⟨#[110,111,116,105,99,101,47]⟩)) (t 83))) [],
u 4 (o 85 (.bin .str .add (t 84) (c (.string ⟨#[47]⟩)))) [],
u 8 (o 89 (.bin .str .add (t 85) (t 88))) [],
u 9 (a 2 89) []])
z)
(s (r [o 91 (N .eql (t 5) (c (.int .u8 13))),
a 90 91])
(w (t 90) (s (r [o 2 (.mv (c (.string ⟨#[99,104,111,111,115,101]⟩)))])
z)
(s (r [o 93 (N .eql (t 5) (c (.int .u8 14))),
a 92 93])
(w (t 92) (s (r [o 2 (.mv (c (.string ⟨#[104,97,110,103]⟩)))])
z)
(s (r [o 95 (N .eql (t 5) (c (.int .u8 15))),
a 94 95])
(w (t 94) (s (r [p 96 3 1,
l 97 96,
o 98 (.call (f 179) [(t 97)]),
o 99 (.bin .str .add (c (.string ⟨#[35]⟩)) (t 98)),
a 2 99])
z)
(s (r [o 101 (N .eql (t 5) (c (.int .u8 16))),
a 100 101])
(w (t 100) (s (r [p 102 3 1,
l 103 102,
o 104 (.call (f 179) [(t 103)]),
o 105 (.bin .str .add (c (.string ⟨#[38]⟩)) (t 104)),
a 2 105])
z)
k))))))))))))))))))))))))))))))))))))
(s (r [o 2 (.mv (c (.string ⟨#[111,98,106]⟩)))])
z)))⟩

def ir137 : IFunc := ⟨[],
(s (r [o 10 (.mv y)])
(s (r [o 11 (.mv y)])
(b 0 (lo (b 1 (s (r [a 21 2,
a 22 1,
o 23 (N .sub (t 21) (t 22)),
a 12 23])
(s (s (r [a 24 12,
o 25 (N .leq (t 24) (i 12))])
(w (t 25) (s (r [a 26 0,
a 27 1,
a 28 2,
a 29 4,
o 30 (.call (f 180) [(t 26),(t 27),(t 28),(t 29)])])
z)
k))
(s (s (r [a 31 3,
o 32 (N .eql (t 31) (i 0))])
(w (t 32) (s (r [a 33 0,
a 34 1,
a 35 2,
a 36 4,
o 37 (.call (f 181) [(t 33),(t 34),(t 35),(t 36)])])
z)
k))
(s (s (r [a 38 10,
o 39 (.not (t 38))])
(w (t 39) (s (r [a 40 0,
a 41 1,
a 42 2,
a 43 4,
o 44 (.call (f 182) [(t 40),(t 41),(t 42),(t 43)])])
(r [a 45 3,
o 46 (N .sub (t 45) (i 1)),
a 3 46]))
k))
(s (r [a 48 0,
a 49 1,
a 50 2,
a 51 4,
o 52 (.call (f 183) [(t 48),(t 49),(t 50),(t 51)]),
a 47 52,
o 53 (.extract 0 (t 47)),
o 54 (.extract 1 (t 47)),
a 13 53,
a 14 54])
(s (s (r [a 55 14,
o 56 (N .eql (t 55) (i 2))])
(w (t 56) (s (r [a 57 0,
a 58 1,
a 59 2,
a 60 4,
o 61 (.call (f 184) [(t 57),(t 58),(t 59),(t 60)])])
(s (r [a 62 2,
o 63 (N .sub (t 62) (i 1)),
a 64 13,
a 65 1,
o 66 (N .sub (t 64) (t 65)),
o 67 (N .sub (t 63) (t 66)),
a 13 67])
(r [o 14 (.mv (i 1))])))
k))
(s (s (r [a 68 10,
a 69 68,
g 70 69 true (.mv (t 11)),
o 71 (.pick (t 69) (t 70) n),
a 72 71,
g 73 72 true (.mv (t 14)),
g 74 72 true (N .eql (t 73) (i 1)),
o 75 (.pick (t 72) (t 74) n)])
(w (t 75) (s (r [a 76 0,
a 77 1,
a 78 2,
a 79 4,
o 80 (.call (f 185) [(t 76),(t 77),(t 78),(t 79)])])
(w (t 80) z
k))
k))
(s (s (d [u 0 (a 81 1) [],
u 1 (o 82 (N .gtr (t 81) (i 0))) [],
u 2 (a 83 82) [],
u 3 (g 84 83 true (.mv (t 4))) [],
u 4 (g 85 83 true (.mv (t 0))) [],
u 5 (g 86 83 true (.mv (t 1))) [],
u 6 (g 87 83 true (N .sub (t 86) (i 1))) [],
u 7 (g 88 83 true (.idxS 4 (t 85) (t 87))) [],
u 8 (g 89 83 true (.loadN 4 (t 88))) [],
u 9 (g 90 83 true (.mv (t 0))) [],
u 10 (g 91 83 true (.mv (t 13))) [],
u 11 (g 92 83 true (.idxS 4 (t 90) (t 91))) [],
u 12 (g 93 83 true (.loadN 4 (t 92))) [3],
u 13 (g 94 83 true (.call (t 84) [(t 89),(t 93)])) [],
u 14 (g 95 83 true (N .lss (t 94) (i 0))) [],
u 15 (g 96 83 true (.not (t 95))) [],
u 16 (o 97 (.pick (t 83) (t 96) n)) []])
(w (t 97) (s (r [a 98 0,
a 99 1,
a 100 2,
a 101 13,
a 102 4,
o 103 (.call (f 186) [(t 98),(t 99),(t 100),(t 101),(t 102)]),
a 15 103])
(s (r [a 104 15,
a 1 104])
(e 1)))
k))
(s (r [a 106 0,
a 107 1,
a 108 2,
a 109 13,
a 110 4,
o 111 (.call (f 187) [(t 106),(t 107),(t 108),(t 109),(t 110)]),
a 105 111,
o 112 (.extract 0 (t 105)),
o 113 (.extract 1 (t 105)),
a 16 112,
a 17 113])
(s (r [a 114 17,
a 11 114])
(s (r [a 115 16,
a 116 1,
o 117 (N .sub (t 115) (t 116)),
a 118 2,
a 119 16,
o 120 (N .sub (t 118) (t 119)),
a 18 117,
a 19 120])
(s (r [a 121 12,
o 122 (N .quo (t 121) (i 8)),
a 20 122])
(s (r [a 123 18,
a 124 19,
o 125 (N .lss (t 123) (t 124))])
(w (t 125) (s (r [a 126 18,
a 127 20,
o 128 (N .geq (t 126) (t 127)),
a 10 128])
(s (r [a 129 0,
a 130 1,
a 131 16,
a 132 3,
a 133 4,
o 134 (.call (f 137) [(t 129),(t 130),(t 131),(t 132),(t 133)])])
(r [a 135 16,
o 136 (N .add (t 135) (i 1)),
a 1 136])))
(s (r [a 137 19,
a 138 20,
o 139 (N .geq (t 137) (t 138)),
a 10 139])
(s (r [a 140 0,
a 141 16,
o 142 (N .add (t 141) (i 1)),
a 143 2,
a 144 3,
a 145 4,
o 146 (.call (f 137) [(t 140),(t 142),(t 143),(t 144),(t 145)])])
(r [a 147 16,
a 2 147]))))))))))))))))))))))⟩

def ir138 : IFunc := ⟨[.tmp 2],
(s (r [o 2 (.mv (i 0))])
(s (w n (s (r [a 3 0,
o 4 (.conv .u32 (t 3)),
o 5 (.call (f 188) [(t 4)]),
a 2 5])
z)
k)
(s (r [a 6 0,
o 7 (.call (f 189) [(t 6)]),
a 2 7])
z)))⟩

def ir139 : IFunc := ⟨[.tmp 2],
(s (r [o 2 (.mv (i 0))])
(s (r [o 3 (.mv (i 0))])
(s (s (r [a 6 0,
o 7 (.len (t 6)),
o 8 (.mv (i 0))])
(b 0 (lo (s (r [o 9 (N .lss (t 8) (t 7))])
(s (w (t 9) k
(e 0))
(s (b 1 (s (r [o 10 (.idxS 1 (t 6) (t 8)),
l 11 10,
a 5 11])
(s (r [a 12 5,
a 13 3,
o 14 (N .neq (t 12) (t 13))])
(w (t 14) (s (r [a 15 5,
a 2 15])
z)
k))))
(r [o 16 (N .add (t 8) (i 1)),
a 8 16])))))))
(s (r [a 17 3,
a 2 17])
z))))⟩

def ir140 : IFunc := ⟨[.tmp 4],
(s (r [o 4 (.mv (i 0))])
(s (r [a 7 0,
o 8 (.call (f 190) [(t 7)]),
a 5 8])
(s (r [a 9 1,
o 10 (.call (f 190) [(t 9)]),
a 6 10])
(s (s (r [a 11 5])
(w (t 11) (s (s (r [a 12 6])
(w (t 12) (s (r [o 4 (.mv (i 0))])
z)
k))
(s (r [o 4 (.mv (i (-1)))])
z))
k))
(s (s (r [a 13 6])
(w (t 13) (s (r [o 4 (.mv (i 1))])
z)
k))
(s (s (r [a 14 0,
a 15 1,
o 16 (N .lss (t 14) (t 15))])
(w (t 16) (s (r [o 4 (.mv (i (-1)))])
z)
k))
(s (s (r [a 17 0,
a 18 1,
o 19 (N .gtr (t 17) (t 18))])
(w (t 19) (s (r [o 4 (.mv (i 1))])
z)
k))
(s (r [o 4 (.mv (i 0))])
z))))))))⟩

def ir141 : IFunc := ⟨[.tmp 4],
(s (r [o 4 (.mv (i 0))])
(s (r [a 7 0,
o 8 (.call (f 191) [(t 7)]),
a 5 8])
(s (r [a 9 1,
o 10 (.call (f 191) [(t 9)]),
a 6 10])
(s (s (r [a 11 5])
(w (t 11) (s (s (r [a 12 6])
(w (t 12) (s (r [o 4 (.mv (i 0))])
z)
k))
(s (r [o 4 (.mv (i (-1)))])
z))
k))
(s (s (r [a 13 6])
(w (t 13) (s (r [o 4 (.mv (i 1))])
z)
k))
(s (s (r [a 14 0,
a 15 1,
o 16 (N .lss (t 14) (t 15))])
(w (t 16) (s (r [o 4 (.mv (i (-1)))])
z)
k))
(s (s (r [a 17 0,
a 18 1,
o 19 (N .gtr (t 17) (t 18))])
(w (t 19) (s (r [o 4 (.mv (i 1))])
z)
k))
(s (r [o 4 (.mv (i 0))])
z))))))))⟩


end Go.Fl
