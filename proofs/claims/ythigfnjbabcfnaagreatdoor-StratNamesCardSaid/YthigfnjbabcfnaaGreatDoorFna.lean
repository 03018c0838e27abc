/-
  Functions in their own form, part 1.
-/
import Derived.Test.YthigfnjbabcfnaaGreatDoorAkG
namespace Go.St
open Go.Ak Go.Ak.S
set_option maxRecDepth 100000

def ir3 : IFunc := ⟨[.tmp 0],
(s (r [o 0 (.mv n)])
(s (r [o 30 (.call (f 4) []),
o 1 (.mk 26 [(.slice none 0 0),(.bool false),(.int .i64 0),(.bool false)]),
q (.store 4 (t 1) (t 30))])
(s (d [u 1 (o 33 (.call (f 6) [(i 2),(c (.slice none 0 0))])) [],
u 0 (o 32 (.loadN 4 (t 1))) [0],
u 2 (o 34 (.call (f 5) [(t 32),(t 33)])) [],
u 3 (a 31 34) [],
u 4 (o 35 (.extract 0 (t 31))) [],
u 5 (o 36 (.extract 1 (t 31))) [],
u 6 (o 2 (.mk 31 [(.slice none 0 0),(.slice none 0 0)])) [3,4,5],
u 7 (q (.store 2 (t 2) (t 35))) [],
u 8 (a 3 36) []])
(s (d [u 1 (o 39 (.call (f 6) [(i 2),(c (.slice none 0 0))])) [],
u 2 (o 40 (.call (f 6) [(i 2),(c (.slice none 0 0))])) [],
u 3 (o 41 (.buildSlice 2 [(.int .u8 0),(.int .i64 0),(.int .i64 0),(.int .i64 0),(.slice none 0 0),(.int .u8 0),(.int .i64 0),(.int .i64 0),(.int .i64 0),(.slice none 0 0)] [(0,5,(t 39)),(5,5,(t 40))])) [],
u 4 (o 42 (.call (f 7) [(c (.int .u8 5)),(i 4),(i 2),(t 41)])) [],
u 0 (o 38 (.loadN 4 (t 1))) [0,1,2,3],
u 5 (o 43 (.call (f 5) [(t 38),(t 42)])) [],
u 6 (a 37 43) [],
u 7 (o 44 (.extract 0 (t 37))) [],
u 8 (o 45 (.extract 1 (t 37))) [],
u 9 (o 4 (.mk 31 [(.slice none 0 0),(.slice none 0 0)])) [3,4,5,6,7,8],
u 10 (q (.store 2 (t 4) (t 44))) [],
u 11 (a 5 45) []])
(s (r [o 47 (.loadN 2 (t 4)),
o 48 (.call (f 8) [(t 47),(i 9)]),
a 46 48,
o 49 (.extract 0 (t 46)),
o 50 (.extract 1 (t 46)),
a 6 49,
a 7 50])
(s (d [u 1 (o 53 (.call (f 10) [(i 0),(i 2)])) [],
u 2 (o 54 (.call (f 12) [])) [],
u 3 (o 55 (.call (f 10) [(i 1),(i 2)])) [],
u 4 (o 56 (.call (f 11) [(t 54),(t 55)])) [],
u 5 (o 57 (.call (f 9) [(t 53),(t 56)])) [],
u 0 (o 52 (.loadN 4 (t 1))) [0,1,2,3,4],
u 6 (o 58 (.call (f 5) [(t 52),(t 57)])) [],
u 7 (a 51 58) [],
u 8 (o 59 (.extract 0 (t 51))) [],
u 9 (o 60 (.extract 1 (t 51))) [],
u 10 (o 8 (.mk 31 [(.slice none 0 0),(.slice none 0 0)])) [3,4,5,6,7,8,9],
u 11 (q (.store 2 (t 8) (t 59))) [],
u 12 (a 9 60) []])
(s (d [u 1 (o 63 (.call (f 6) [(i 2),(c (.slice none 0 0))])) [],
u 2 (o 64 (.call (f 10) [(i 0),(i 1)])) [],
u 3 (o 65 (.buildSlice 2 [(.int .u8 0),(.int .i64 0),(.int .i64 0),(.int .i64 0),(.slice none 0 0),(.int .u8 0),(.int .i64 0),(.int .i64 0),(.int .i64 0),(.slice none 0 0)] [(0,5,(t 63)),(5,5,(t 64))])) [],
u 4 (o 66 (.call (f 7) [(c (.int .u8 9)),(i 0),(i 0),(t 65)])) [],
u 5 (o 67 (.call (f 10) [(i 0),(i 2)])) [],
u 6 (o 68 (.call (f 11) [(t 66),(t 67)])) [],
u 0 (o 62 (.loadN 4 (t 1))) [0,1,2,3,4,5],
u 7 (o 69 (.call (f 5) [(t 62),(t 68)])) [],
u 8 (a 61 69) [],
u 9 (o 70 (.extract 0 (t 61))) [],
u 10 (o 71 (.extract 1 (t 61))) [],
u 11 (o 10 (.mk 31 [(.slice none 0 0),(.slice none 0 0)])) [3,4,5,6,7,8,9,10],
u 12 (q (.store 2 (t 10) (t 70))) [],
u 13 (a 11 71) []])
(s (r [o 73 (.loadN 2 (t 10)),
o 74 (.call (f 8) [(t 73),(i 2)]),
a 72 74,
o 75 (.extract 0 (t 72)),
o 76 (.extract 1 (t 72)),
a 12 75,
a 13 76])
(s (r [o 78 (.call (f 13) [(c (.string ⟨#[105,110,116,32,50,59,32,40,99,101,108,108,32,50,41,32,45,62,32,105,110,116,32,49]⟩))]),
a 77 78,
o 79 (.extract 0 (t 77)),
o 80 (.extract 1 (t 77)),
o 14 (.mk 26 [(.slice none 0 0),(.bool false),(.int .i64 0),(.bool false)]),
q (.store 4 (t 14) (t 79)),
a 15 80])
(s (r [o 81 (.call (f 14) [(i 2)]),
o 82 (.call (f 12) []),
o 83 (.buildSlice 2 [(.int .u8 0),(.int .i64 0),(.int .i64 0),(.int .i64 0),(.slice none 0 0),(.int .u8 0),(.int .i64 0),(.int .i64 0),(.int .i64 0),(.slice none 0 0)] [(0,5,(t 81)),(5,5,(t 82))]),
o 84 (.call (f 7) [(c (.int .u8 17)),(i 0),(i 0),(t 83)]),
o 16 (.mk 37 [(.int .u8 0),(.int .i64 0),(.int .i64 0),(.int .i64 0),(.slice none 0 0)]),
q (.store 5 (t 16) (t 84))])
(s (d [u 1 (o 87 (.loadN 5 (t 16))) [],
u 2 (o 88 (.buildSlice 1 [(.int .u8 0),(.int .i64 0),(.int .i64 0),(.int .i64 0),(.slice none 0 0)] [(0,5,(t 87))])) [],
u 3 (o 89 (.call (f 6) [(i 1),(t 88)])) [],
u 4 (o 90 (.call (f 14) [(i 2)])) [],
u 5 (o 91 (.call (f 11) [(t 89),(t 90)])) [],
u 6 (o 92 (.buildSlice 1 [(.int .u8 0),(.int .i64 0),(.int .i64 0),(.int .i64 0),(.slice none 0 0)] [(0,5,(t 91))])) [],
u 7 (o 93 (.call (f 7) [(c (.int .u8 10)),(i 2),(i 0),(t 92)])) [],
u 0 (o 86 (.loadN 4 (t 14))) [0,1,2,3,4,5,6],
u 8 (o 94 (.call (f 5) [(t 86),(t 93)])) [],
u 9 (a 85 94) [],
u 10 (o 95 (.extract 0 (t 85))) [],
u 11 (o 96 (.extract 1 (t 85))) [],
u 12 (o 17 (.mk 31 [(.slice none 0 0),(.slice none 0 0)])) [3,4,5,6,7,8,9,10,11],
u 13 (q (.store 2 (t 17) (t 95))) [],
u 14 (a 18 96) []])
(s (s (r [a 97 3,
o 98 (N .neq (t 97) (i 0)),
a 99 98,
g 100 99 false (.mv (t 5)),
g 101 99 false (N .neq (t 100) (i 0)),
o 102 (.pick (t 99) y (t 101)),
a 103 102,
g 104 103 false (.mv (t 7)),
g 105 103 false (N .neq (t 104) (i 0)),
o 106 (.pick (t 103) y (t 105)),
a 107 106,
g 108 107 false (.mv (t 9)),
g 109 107 false (N .neq (t 108) (i 0)),
o 110 (.pick (t 107) y (t 109)),
a 111 110,
g 112 111 false (.mv (t 11)),
g 113 111 false (N .neq (t 112) (i 0)),
o 114 (.pick (t 111) y (t 113)),
a 115 114,
g 116 115 false (.mv (t 13)),
g 117 115 false (N .neq (t 116) (i 0)),
o 118 (.pick (t 115) y (t 117)),
a 119 118,
g 120 119 false (.mv (t 18)),
g 121 119 false (N .neq (t 120) (i 0)),
o 122 (.pick (t 119) y (t 121)),
a 123 122,
g 124 123 false (.mv (t 6)),
g 125 123 false (.len (t 124)),
g 126 123 false (N .neq (t 125) (i 4)),
o 127 (.pick (t 123) y (t 126)),
a 128 127,
g 129 128 false (.mv (t 12)),
g 130 128 false (.len (t 129)),
g 131 128 false (N .neq (t 130) (i 2)),
o 132 (.pick (t 128) y (t 131))])
(w (t 132) (s (r [o 0 (.mv n)])
z)
k))
(s (r [o 134 (.call (f 16) [(c (.string ⟨#[48,63,32,50,63,32,50,33,48,32,48,33,48]⟩))]),
o 135 (.call (f 16) [(c (.string ⟨#[48,63,32,50,63,32,50,33,49,32,48,33,49]⟩))]),
o 136 (.buildSlice 2 [(.slice none 0 0),(.slice none 0 0)] [(0,1,(t 134)),(1,1,(t 135))]),
o 137 (.call (f 15) [(t 136)]),
a 133 137,
o 138 (.extract 0 (t 133)),
o 139 (.extract 1 (t 133)),
o 19 (.mk 31 [(.slice none 0 0),(.slice none 0 0)]),
q (.store 2 (t 19) (t 138)),
a 20 139])
(s (r [o 141 (.call (f 16) [(c (.string ⟨#[48,63,32,48,33,48]⟩))]),
o 142 (.buildSlice 1 [(.slice none 0 0)] [(0,1,(t 141))]),
o 143 (.call (f 15) [(t 142)]),
a 140 143,
o 144 (.extract 0 (t 140)),
o 145 (.extract 1 (t 140)),
o 21 (.mk 31 [(.slice none 0 0),(.slice none 0 0)]),
q (.store 2 (t 21) (t 144)),
a 22 145])
(s (r [o 147 (.call (f 17) [(c (.string ⟨#[48,32,48,63,62,49,10,49,32,49,63,62,50,10,50,32,49,33,48,62,51,32,49,46,49,63,62,52,10,51,32,48,33,48,62,53,10,52,32,49,46,49,33,48,62,50,10,53,42,10]⟩))]),
a 146 147,
o 148 (.extract 0 (t 146)),
o 149 (.extract 1 (t 146)),
o 23 (.mk 31 [(.slice none 0 0),(.slice none 0 0)]),
q (.store 2 (t 23) (t 148)),
a 24 149])
(s (s (d [u 0 (o 150 (.loadN 2 (t 2))) [],
u 1 (o 151 (.loadN 2 (t 19))) [0],
u 2 (o 152 (.call (f 18) [(t 150),(t 151)])) [],
u 3 (o 153 (.not (t 152))) [],
u 4 (a 154 153) [],
u 5 (g 155 154 false (.loadN 2 (t 8))) [],
u 6 (g 156 154 false (.loadN 2 (t 21))) [0],
u 7 (g 157 154 false (.call (f 18) [(t 155),(t 156)])) [],
u 8 (g 158 154 false (.not (t 157))) [],
u 9 (o 159 (.pick (t 154) y (t 158))) [],
u 10 (a 160 159) [],
u 11 (g 161 160 false (.loadN 2 (t 17))) [],
u 12 (g 162 160 false (.loadN 2 (t 23))) [0],
u 13 (g 163 160 false (.call (f 18) [(t 161),(t 162)])) [],
u 14 (g 164 160 false (.not (t 163))) [],
u 15 (o 165 (.pick (t 160) y (t 164))) [],
u 16 (a 166 165) [],
u 20 (g 170 166 false (.call (f 16) [(c (.string ⟨#[48,63,32,50,63,32,50,33,48,32,50,63,32,50,33,49,32,48,33,48]⟩))])) [],
u 17 (g 167 166 false (.mv (t 6))) [],
u 18 (g 168 166 false (.idxS 1 (t 167) (i 1))) [],
u 19 (g 169 166 false (.load1 (t 168))) [2],
u 21 (g 171 166 false (.call (f 19) [(t 169),(t 170)])) [],
u 22 (g 172 166 false (.not (t 171))) [],
u 23 (o 173 (.pick (t 166) y (t 172))) [],
u 24 (a 174 173) [],
u 28 (g 178 174 false (.call (f 16) [(c (.string ⟨#[48,63,32,50,63,32,50,33,49,32,50,63,32,50,33,48,32,48,33,48]⟩))])) [],
u 25 (g 175 174 false (.mv (t 12))) [],
u 26 (g 176 174 false (.idxS 1 (t 175) (i 1))) [],
u 27 (g 177 174 false (.load1 (t 176))) [2],
u 29 (g 179 174 false (.call (f 19) [(t 177),(t 178)])) [],
u 30 (g 180 174 false (.not (t 179))) [],
u 31 (o 181 (.pick (t 174) y (t 180))) []])
(w (t 181) (s (r [o 0 (.mv n)])
z)
k))
(s (d [u 1 (o 184 (.call (f 10) [(i 0),(i 3)])) [],
u 0 (o 183 (.loadN 4 (t 1))) [0],
u 2 (o 185 (.call (f 5) [(t 183),(t 184)])) [],
u 3 (a 182 185) [],
u 4 (o 186 (.extract 0 (t 182))) [],
u 5 (o 187 (.extract 1 (t 182))) [],
u 6 (a 3 187) []])
(s (r [o 189 (.loadN 2 (t 2)),
o 190 (.call (f 20) [(t 189),(c (.slice none 0 0))]),
a 188 190,
o 191 (.extract 0 (t 188)),
o 192 (.extract 1 (t 188)),
a 5 192])
(s (r [o 194 (.loadN 2 (t 2)),
o 195 (.call (f 21) [(t 194),(i (-1))]),
a 193 195,
o 196 (.extract 0 (t 193)),
o 197 (.extract 1 (t 193)),
o 25 (.mk 31 [(.slice none 0 0),(.slice none 0 0)]),
q (.store 2 (t 25) (t 196)),
a 7 197])
(s (r [o 199 (.loadN 2 (t 25)),
o 200 (.call (f 20) [(t 199),(c (.slice none 0 0))]),
a 198 200,
o 201 (.extract 0 (t 198)),
o 202 (.extract 1 (t 198)),
a 9 202])
(s (r [o 204 (.loadN 2 (t 25)),
o 205 (.build [(.int .i64 0),(.int .i64 0),(.int .i64 0)] [(0,1,(i 0)),(1,1,(i 1))]),
o 206 (.call (f 22) [(t 204),(t 205)]),
a 203 206,
o 207 (.extract 0 (t 203)),
o 208 (.extract 1 (t 203)),
a 11 208])
(s (r [o 210 (.loadN 2 (t 2)),
o 211 (.call (f 21) [(t 210),(i (-2))]),
a 209 211,
o 212 (.extract 0 (t 209)),
o 213 (.extract 1 (t 209)),
a 13 213])
(s (r [o 215 (.loadN 2 (t 25)),
o 216 (.call (f 23) [(t 215)]),
a 214 216,
o 217 (.extract 0 (t 214)),
o 218 (.extract 1 (t 214)),
a 26 217,
a 27 218])
(s (r [o 220 (.build [(.slice none 0 0),(.bool false),(.int .i64 0),(.bool false)] []),
o 221 (.call (f 10) [(i 0),(i 1)]),
o 222 (.call (f 5) [(t 220),(t 221)]),
a 219 222,
o 223 (.extract 0 (t 219)),
o 224 (.extract 1 (t 219)),
o 28 (.mk 31 [(.slice none 0 0),(.slice none 0 0)]),
q (.store 2 (t 28) (t 223)),
a 29 224])
(s (r [a 225 3,
o 226 (N .eql (t 225) (i 4)),
a 227 226,
g 228 227 true (.mv (t 5)),
g 229 227 true (N .eql (t 228) (i 3)),
o 230 (.pick (t 227) (t 229) n),
a 231 230,
g 232 231 true (.mv (t 7)),
g 233 231 true (N .eql (t 232) (i 0)),
o 234 (.pick (t 231) (t 233) n),
a 235 234,
g 236 235 true (.mv (t 9)),
g 237 235 true (N .eql (t 236) (i 3)),
o 238 (.pick (t 235) (t 237) n),
a 239 238,
g 240 239 true (.mv (t 11)),
g 241 239 true (N .eql (t 240) (i 3)),
o 242 (.pick (t 239) (t 241) n),
a 243 242,
g 244 243 true (.mv (t 13)),
g 245 243 true (N .eql (t 244) (i 3)),
o 246 (.pick (t 243) (t 245) n),
a 247 246,
g 248 247 true (.mv (t 27)),
g 249 247 true (N .eql (t 248) (i 0)),
o 250 (.pick (t 247) (t 249) n),
a 251 250,
g 252 251 true (.mv (t 26)),
g 253 251 true (.buildSlice 2 [(.int .i64 0),(.int .i64 0)] [(0,1,(i 0)),(1,1,(i 1))]),
g 254 251 true (.call (f 24) [(t 252),(t 253)]),
o 255 (.pick (t 251) (t 254) n),
a 256 255,
g 257 256 true (.mv (t 29)),
g 258 256 true (N .eql (t 257) (i 4)),
o 259 (.pick (t 256) (t 258) n),
a 260 259,
g 261 260 true (.call (f 25) []),
o 262 (.pick (t 260) (t 261) n),
a 0 262])
z)))))))))))))))))))))))))⟩

def ir4 : IFunc := ⟨[.cellN 0 4],
(s (r [o 0 (.mk 26 [(.slice none 0 0),(.bool false),(.int .i64 0),(.bool false)])])
(s (r [o 4 (.call (f 13) [(c (.string ⟨#[105,110,116,32,50,59,32,40,105,110,116,32,50,41,32,45,62,32,105,110,116,32,49,59,32,105,110,116,32,50]⟩))]),
a 3 4,
o 5 (.extract 0 (t 3)),
o 6 (.extract 1 (t 3)),
o 1 (.mk 26 [(.slice none 0 0),(.bool false),(.int .i64 0),(.bool false)]),
q (.store 4 (t 1) (t 5)),
a 2 6])
(s (r [o 7 (.loadN 4 (t 1)),
q (.store 4 (t 0) (t 7))])
z)))⟩

def ir5 : IFunc := ⟨[.cellN 4 2,.tmp 5],
(s (r [o 2 (.box 4 (t 0)),
o 3 (.box 5 (t 1)),
o 4 (.mk 31 [(.slice none 0 0),(.slice none 0 0)]),
o 5 (.mv (i 0))])
(s (s (r [o 7 (.loadN 4 (t 2)),
o 8 (.loadN 5 (t 3)),
o 9 (.call (f 26) [(t 7),(t 8)]),
a 6 9])
(s (r [a 10 6,
o 11 (N .neq (t 10) (i 0))])
(w (t 11) (s (r [o 12 (.build [(.slice none 0 0),(.slice none 0 0)] []),
a 13 6,
q (.store 2 (t 4) (t 12)),
a 5 13])
z)
k)))
(s (r [o 14 (.loadN 4 (t 2)),
o 15 (.build [(.slice none 0 0),(.bool false),(.int .i64 0),(.bool false),(.map none)] [(0,4,(t 14))]),
o 16 (.loadN 5 (t 3)),
o 17 (.call (f 28) [(t 15),(t 16)]),
o 18 (.call (f 27) [(t 17)]),
o 19 (.extract 0 (t 18)),
o 20 (.extract 1 (t 18)),
q (.store 2 (t 4) (t 19)),
a 5 20])
z)))⟩

def ir6 : IFunc := ⟨[.cellN 4 5],
(s (r [o 4 (.mk 37 [(.int .u8 0),(.int .i64 0),(.int .i64 0),(.int .i64 0),(.slice none 0 0)])])
(s (r [a 5 0,
a 6 1,
o 7 (.build [(.int .u8 0),(.int .i64 0),(.int .i64 0),(.int .i64 0),(.slice none 0 0)] [(0,1,(c (.int .u8 2))),(3,1,(t 5)),(4,1,(t 6))]),
q (.store 5 (t 4) (t 7))])
z))⟩

def ir7 : IFunc := ⟨[.cellN 8 5],
(s (r [o 8 (.mk 37 [(.int .u8 0),(.int .i64 0),(.int .i64 0),(.int .i64 0),(.slice none 0 0)])])
(s (r [a 9 0,
a 10 1,
a 11 2,
a 12 3,
o 13 (.build [(.int .u8 0),(.int .i64 0),(.int .i64 0),(.int .i64 0),(.slice none 0 0)] [(0,1,(t 9)),(1,1,(t 10)),(2,1,(t 11)),(4,1,(t 12))]),
q (.store 5 (t 8) (t 13))])
z))⟩

def ir8 : IFunc := ⟨[.tmp 4,.tmp 5],
(s (r [o 2 (.box 2 (t 0)),
o 4 (.mv (c (.slice none 0 0))),
o 5 (.mv (i 0))])
(s (s (r [o 11 (.loadN 2 (t 2)),
o 12 (.call (f 29) [(t 11)]),
a 6 12])
(s (r [a 13 6,
o 14 (N .neq (t 13) (i 0))])
(w (t 14) (s (r [a 15 6,
o 4 (.mv (c (.slice none 0 0))),
a 5 15])
z)
k)))
(s (s (r [a 16 1,
o 17 (N .lss (t 16) (i 0)),
a 18 17,
g 19 18 false (.mv (t 1)),
g 20 18 false (N .gtr (t 19) (i 200)),
o 21 (.pick (t 18) y (t 20))])
(w (t 21) (s (r [o 4 (.mv (c (.slice none 0 0))),
o 5 (.mv (i 3))])
z)
k))
(s (d [u 1 (o 23 (.loadN 2 (t 2))) [],
u 2 (o 24 (.call (f 30) [(t 23),(i 400)])) [],
u 0 (o 22 (.loadN 2 (t 2))) [0,1],
u 3 (a 25 1) [],
u 4 (o 26 (.build [(.slice none 0 0),(.slice none 0 0),(.slice none 0 0),(.slice none 0 0),(.int .i64 0)] [(0,2,(t 22)),(2,1,(t 24)),(4,1,(t 25))])) [],
u 5 (o 27 (.box 5 (t 26))) [],
u 6 (a 7 27) []])
(s (s (r [o 28 (.mv (i 0))])
(b 0 (lo (s (r [o 29 (N .lss (t 28) (i 401))])
(s (w (t 29) k
(e 0))
(s (b 1 (s (r [a 30 28,
a 8 30])
(r [a 31 7,
a 32 8,
a 33 8,
o 34 (.mkSlice 32 [(.int .i64 0),(.int .i64 0),(.int .u8 0),(.int .i64 0)] (i 0) (t 33)),
o 35 (.call (f 31) [(t 31),(i 0),(t 32),(t 34)])])))
(r [o 36 (N .add (t 28) (i 1)),
a 28 36])))))))
(s (s (r [o 38 (.loadN 2 (t 2)),
o 39 (.call (f 32) [(t 38)]),
a 37 39,
o 40 (.extract 0 (t 37)),
o 41 (.extract 1 (t 37)),
a 9 40,
a 10 41])
(s (r [a 42 7,
o 43 (.nilCheck (t 42)),
p 44 3 43,
l 45 44,
o 46 (.len (t 45)),
a 47 1,
o 48 (N .lss (t 46) (t 47)),
a 49 48,
g 50 49 true (.mv (t 10)),
g 51 49 true (.not (t 50)),
o 52 (.pick (t 49) (t 51) n)])
(w (t 52) (s (r [o 4 (.mv (c (.slice none 0 0))),
o 5 (.mv (i 5))])
z)
k)))
(s (r [a 53 7,
o 54 (.nilCheck (t 53)),
p 55 3 54,
l 56 55,
a 4 56,
o 5 (.mv (i 0))])
z)))))))⟩

def ir9 : IFunc := ⟨[.cellN 4 5],
(s (r [o 2 (.box 5 (t 0)),
o 3 (.box 5 (t 1)),
o 4 (.mk 37 [(.int .u8 0),(.int .i64 0),(.int .i64 0),(.int .i64 0),(.slice none 0 0)])])
(s (r [o 5 (.loadN 5 (t 2)),
o 6 (.loadN 5 (t 3)),
o 7 (.buildSlice 2 [(.int .u8 0),(.int .i64 0),(.int .i64 0),(.int .i64 0),(.slice none 0 0),(.int .u8 0),(.int .i64 0),(.int .i64 0),(.int .i64 0),(.slice none 0 0)] [(0,5,(t 5)),(5,5,(t 6))]),
o 8 (.build [(.int .u8 0),(.int .i64 0),(.int .i64 0),(.int .i64 0),(.slice none 0 0)] [(0,1,(c (.int .u8 13))),(4,1,(t 7))]),
q (.store 5 (t 4) (t 8))])
z))⟩

def ir10 : IFunc := ⟨[.cellN 4 5],
(s (r [o 4 (.mk 37 [(.int .u8 0),(.int .i64 0),(.int .i64 0),(.int .i64 0),(.slice none 0 0)])])
(s (r [a 5 0,
a 6 1,
o 7 (.build [(.int .u8 0),(.int .i64 0),(.int .i64 0),(.int .i64 0),(.slice none 0 0)] [(0,1,(c (.int .u8 1))),(1,1,(t 5)),(2,1,(t 6))]),
q (.store 5 (t 4) (t 7))])
z))⟩

def ir11 : IFunc := ⟨[.cellN 4 5],
(s (r [o 2 (.box 5 (t 0)),
o 3 (.box 5 (t 1)),
o 4 (.mk 37 [(.int .u8 0),(.int .i64 0),(.int .i64 0),(.int .i64 0),(.slice none 0 0)])])
(s (r [o 5 (.loadN 5 (t 2)),
o 6 (.loadN 5 (t 3)),
o 7 (.buildSlice 2 [(.int .u8 0),(.int .i64 0),(.int .i64 0),(.int .i64 0),(.slice none 0 0),(.int .u8 0),(.int .i64 0),(.int .i64 0),(.int .i64 0),(.slice none 0 0)] [(0,5,(t 5)),(5,5,(t 6))]),
o 8 (.build [(.int .u8 0),(.int .i64 0),(.int .i64 0),(.int .i64 0),(.slice none 0 0)] [(0,1,(c (.int .u8 7))),(4,1,(t 7))]),
q (.store 5 (t 4) (t 8))])
z))⟩

def ir12 : IFunc := ⟨[.cellN 0 5],
(s (r [o 0 (.mk 37 [(.int .u8 0),(.int .i64 0),(.int .i64 0),(.int .i64 0),(.slice none 0 0)])])
(s (r [o 1 (.build [(.int .u8 0),(.int .i64 0),(.int .i64 0),(.int .i64 0),(.slice none 0 0)] [(0,1,(c (.int .u8 14)))]),
q (.store 5 (t 0) (t 1))])
z))⟩

def ir13 : IFunc := ⟨[.cellN 2 4,.tmp 3],
(s (r [o 2 (.mk 26 [(.slice none 0 0),(.bool false),(.int .i64 0),(.bool false)]),
o 3 (.mv (i 0))])
(s (r [a 9 0,
o 10 (.call (f 33) [(t 9),(c (.string ⟨#[59,32]⟩))]),
a 4 10])
(s (r [a 11 4,
o 12 (.idxS 1 (t 11) (i 0)),
l 13 12,
o 14 (.call (f 34) [(t 13)]),
o 15 (.build [(.slice none 0 0),(.bool false),(.int .i64 0),(.bool false)] [(1,2,(t 14))]),
o 5 (.mk 26 [(.slice none 0 0),(.bool false),(.int .i64 0),(.bool false)]),
q (.store 4 (t 5) (t 15))])
(s (s (r [o 6 (.mv (i 1))])
(b 0 (lo (s (s (r [a 16 6,
a 17 4,
o 18 (.len (t 17)),
o 19 (N .lss (t 16) (t 18))])
(w (t 19) k
(e 0)))
(s (b 1 (s (r [a 22 6,
a 23 4,
o 24 (.len (t 23)),
o 25 (N .sub (t 24) (i 1)),
o 26 (N .eql (t 22) (t 25)),
a 27 26,
g 28 27 true (.mv (t 4)),
g 29 27 true (.mv (t 6)),
g 30 27 true (.idxS 1 (t 28) (t 29)),
g 31 27 true (.load1 (t 30)),
g 32 27 true (.bin .str .eql (t 31) (c (.string ⟨#[106,117,109,112,115]⟩))),
o 33 (.pick (t 27) (t 32) n)])
(w (t 33) (r [p 34 3 5,
q (.store 1 (t 34) y)])
(d [u 2 (a 37 4) [],
u 3 (a 38 6) [],
u 4 (o 39 (.idxS 1 (t 37) (t 38))) [],
u 5 (l 40 39) [],
u 6 (o 41 (.call (f 35) [(t 40)])) [],
u 0 (p 35 0 5) [],
u 1 (l 36 35) [1,2],
u 7 (o 42 (.buildSlice 1 [(.slice none 0 0),(.bool false),(.int .i64 0)] [(0,3,(t 41))])) [0],
u 8 (o 43 (.append 88 3 40 (t 36) (t 42))) [],
u 9 (p 44 0 5) [],
u 10 (q (.store 1 (t 44) (t 43))) []]))))
(r [a 20 6,
o 21 (N .add (t 20) (i 1)),
a 6 21]))))))
(s (s (r [o 46 (.loadN 4 (t 5)),
o 47 (.call (f 36) [(t 46)]),
a 45 47,
o 48 (.extract 0 (t 45)),
o 49 (.extract 1 (t 45)),
a 7 48,
a 8 49])
(s (r [a 50 8,
o 51 (N .neq (t 50) (i 0)),
a 52 51,
g 53 52 false (.mv (t 7)),
g 54 52 false (.mv (t 0)),
g 55 52 false (.bin .str .neq (t 53) (t 54)),
o 56 (.pick (t 52) y (t 55))])
(w (t 56) (s (r [o 57 (.build [(.slice none 0 0),(.bool false),(.int .i64 0),(.bool false)] []),
q (.store 4 (t 2) (t 57)),
o 3 (.mv (i 4))])
z)
k)))
(s (r [o 58 (.loadN 4 (t 5)),
q (.store 4 (t 2) (t 58)),
o 3 (.mv (i 0))])
z))))))⟩

def ir14 : IFunc := ⟨[.cellN 2 5],
(s (r [o 2 (.mk 37 [(.int .u8 0),(.int .i64 0),(.int .i64 0),(.int .i64 0),(.slice none 0 0)])])
(s (r [a 3 0,
o 4 (.build [(.int .u8 0),(.int .i64 0),(.int .i64 0),(.int .i64 0),(.slice none 0 0)] [(0,1,(c (.int .u8 3))),(3,1,(t 3))]),
q (.store 5 (t 2) (t 4))])
z))⟩

def ir15 : IFunc := ⟨[.cellN 2 2,.tmp 3],
(s (r [o 2 (.mk 31 [(.slice none 0 0),(.slice none 0 0)]),
o 3 (.mv (i 0))])
(s (s (r [a 12 0,
o 13 (.len (t 12)),
o 14 (N .gtr (t 13) (i 60))])
(w (t 14) (s (r [o 15 (.build [(.slice none 0 0),(.slice none 0 0)] []),
q (.store 2 (t 2) (t 15)),
o 3 (.mv (i 5))])
z)
k))
(s (s (r [o 4 (.mv (i 0))])
(b 0 (lo (s (s (r [a 16 4,
a 17 0,
o 18 (.len (t 17)),
o 19 (N .lss (t 16) (t 18))])
(w (t 19) k
(e 0)))
(s (b 1 (s (r [a 22 0,
a 23 4,
o 24 (.idxS 1 (t 22) (t 23)),
l 25 24,
o 26 (.len (t 25)),
o 27 (N .gtr (t 26) (i 400))])
(w (t 27) (s (r [o 28 (.build [(.slice none 0 0),(.slice none 0 0)] []),
q (.store 2 (t 2) (t 28)),
o 3 (.mv (i 5))])
z)
k)))
(r [a 20 4,
o 21 (N .add (t 20) (i 1)),
a 4 21]))))))
(s (r [o 29 (.call (f 37) []),
o 5 (.mk 31 [(.slice none 0 0),(.slice none 0 0)]),
q (.store 2 (t 5) (t 29))])
(s (s (r [o 6 (.mv (i 0))])
(b 2 (lo (s (s (r [a 30 6,
a 31 0,
o 32 (.len (t 31)),
o 33 (N .lss (t 30) (t 32))])
(w (t 33) k
(e 2)))
(s (b 3 (s (r [o 7 (.mv (i 0))])
(s (s (r [o 8 (.mv (i 0))])
(b 4 (lo (s (s (r [a 36 8,
a 37 0,
a 38 6,
o 39 (.idxS 1 (t 37) (t 38)),
l 40 39,
o 41 (.len (t 40)),
o 42 (N .lss (t 36) (t 41))])
(w (t 42) k
(e 4)))
(s (b 5 (s (r [o 9 (.mv (i (-1)))])
(s (s (r [o 10 (.mv (i 0))])
(b 6 (lo (s (s (r [a 45 10,
p 46 0 5,
l 47 46,
a 48 7,
o 49 (.idxS 1 (t 47) (t 48)),
l 50 49,
o 51 (.len (t 50)),
o 52 (N .lss (t 45) (t 51))])
(w (t 52) k
(e 6)))
(s (b 7 (s (d [u 0 (p 55 0 5) [],
u 1 (l 56 55) [],
u 2 (a 57 7) [],
u 3 (o 58 (.idxS 1 (t 56) (t 57))) [],
u 4 (l 59 58) [],
u 5 (a 60 10) [],
u 6 (o 61 (.idxS 5 (t 59) (t 60))) [],
u 7 (p 62 0 61) [],
u 8 (o 63 (.loadN 4 (t 62))) [],
u 9 (a 64 0) [],
u 10 (a 65 6) [],
u 11 (o 66 (.idxS 1 (t 64) (t 65))) [],
u 12 (l 67 66) [3,7,10],
u 13 (a 68 8) [],
u 14 (o 69 (.idxS 4 (t 67) (t 68))) [],
u 15 (o 70 (.loadN 4 (t 69))) [6,10,13],
u 16 (o 71 (.eqF (.ag [(0,.num),(1,.num),(2,.num),(3,.num)]) false (t 63) (t 70))) []])
(w (t 71) (r [p 72 0 5,
l 73 72,
a 74 7,
o 75 (.idxS 1 (t 73) (t 74)),
l 76 75,
a 77 10,
o 78 (.idxS 5 (t 76) (t 77)),
p 79 4 78,
l 80 79,
a 9 80])
k)))
(r [a 53 10,
o 54 (N .add (t 53) (i 1)),
a 10 54]))))))
(s (s (r [a 81 9,
o 82 (N .lss (t 81) (i 0))])
(w (t 82) (s (r [p 83 0 5,
l 84 83,
o 85 (.len (t 84)),
a 9 85])
(s (d [u 0 (p 86 0 5) [],
u 1 (l 87 86) [],
u 2 (a 88 7) [],
u 3 (p 89 0 5) [],
u 4 (l 90 89) [2],
u 5 (a 91 7) [],
u 6 (o 92 (.idxS 1 (t 90) (t 91))) [],
u 7 (l 93 92) [5],
u 8 (a 94 0) [],
u 9 (a 95 6) [],
u 10 (o 96 (.idxS 1 (t 94) (t 95))) [],
u 11 (l 97 96) [3,6,9],
u 12 (a 98 8) [],
u 13 (o 99 (.idxS 4 (t 97) (t 98))) [],
u 14 (o 100 (.loadN 4 (t 99))) [6,9,12],
u 15 (a 101 9) [],
u 16 (o 102 (.build [(.int .i64 0),(.int .i64 0),(.int .u8 0),(.int .i64 0),(.int .i64 0)] [(0,4,(t 100)),(4,1,(t 101))])) [],
u 17 (o 103 (.buildSlice 1 [(.int .i64 0),(.int .i64 0),(.int .u8 0),(.int .i64 0),(.int .i64 0)] [(0,5,(t 102))])) [9,12,15],
u 18 (o 104 (.append 97 5 40 (t 93) (t 103))) [16],
u 19 (o 105 (.idxS 1 (t 87) (t 88))) [],
u 20 (q (.store 1 (t 105) (t 104))) []])
(d [u 0 (p 106 0 5) [],
u 1 (l 107 106) [],
u 2 (o 108 (.buildSlice 1 [(.slice none 0 0)] [(0,1,(c (.slice none 0 0)))])) [0],
u 3 (o 109 (.append 93 1 24 (t 107) (t 108))) [],
u 4 (p 110 1 5) [],
u 5 (l 111 110) [1,2,3],
u 6 (o 112 (.buildSlice 1 [(.bool false)] [(0,1,n)])) [0,2,3,4],
u 7 (o 113 (.append 4 1 1 (t 111) (t 112))) [],
u 8 (p 114 0 5) [],
u 9 (q (.store 1 (t 114) (t 109))) [],
u 10 (p 115 1 5) [],
u 11 (q (.store 1 (t 115) (t 113))) []])))
k))
(r [a 116 9,
a 7 116])))))
(r [a 43 8,
o 44 (N .add (t 43) (i 1)),
a 8 44]))))))
(r [p 117 1 5,
l 118 117,
a 119 7,
o 120 (.idxS 1 (t 118) (t 119)),
q (.store 1 (t 120) y)]))))
(r [a 34 6,
o 35 (N .add (t 34) (i 1)),
a 6 35]))))))
(s (r [o 121 (.loadN 2 (t 5)),
o 122 (.call (f 38) [(t 121)]),
o 11 (.mk 31 [(.slice none 0 0),(.slice none 0 0)]),
q (.store 2 (t 11) (t 122))])
(s (s (r [o 123 (.loadN 2 (t 11)),
o 124 (.call (f 39) [(t 123)])])
(w (t 124) (s (r [o 125 (.build [(.slice none 0 0),(.slice none 0 0)] []),
q (.store 2 (t 2) (t 125)),
o 3 (.mv (i 5))])
z)
k))
(s (r [o 126 (.loadN 2 (t 11)),
q (.store 2 (t 2) (t 126)),
o 3 (.mv (i 0))])
z))))))))⟩

def ir16 : IFunc := ⟨[.tmp 2],
(s (r [o 2 (.mv (c (.slice none 0 0)))])
(s (r [a 6 0,
o 7 (.call (f 40) [(t 6)]),
a 5 7,
o 8 (.extract 0 (t 5)),
o 9 (.extract 1 (t 5)),
a 3 8,
a 4 9])
(s (r [a 10 3,
a 2 10])
z)))⟩

def ir17 : IFunc := ⟨[.cellN 2 2,.tmp 3],
(s (r [o 2 (.mk 31 [(.slice none 0 0),(.slice none 0 0)]),
o 3 (.mv (i 0))])
(s (r [o 4 (.mk 31 [(.slice none 0 0),(.slice none 0 0)])])
(s (r [a 17 0,
o 18 (.call (f 33) [(t 17),(c (.string ⟨#[10]⟩))]),
a 5 18])
(s (s (r [o 6 (.mv (i 0))])
(b 0 (lo (s (s (r [a 19 6,
a 20 5,
o 21 (.len (t 20)),
o 22 (N .sub (t 21) (i 1)),
o 23 (N .lss (t 19) (t 22))])
(w (t 23) k
(e 0)))
(s (b 1 (s (r [a 26 5,
a 27 6,
o 28 (.idxS 1 (t 26) (t 27)),
l 29 28,
o 30 (.call (f 33) [(t 29),(c (.string ⟨#[32]⟩))]),
a 7 30])
(s (r [o 8 (.mv (c (.slice none 0 0)))])
(s (s (r [o 9 (.mv (i 1))])
(b 2 (lo (s (s (r [a 31 9,
a 32 7,
o 33 (.len (t 32)),
o 34 (N .lss (t 31) (t 33))])
(w (t 34) k
(e 2)))
(s (b 3 (s (r [a 37 7,
a 38 9,
o 39 (.idxS 1 (t 37) (t 38)),
l 40 39,
o 41 (.call (f 33) [(t 40),(c (.string ⟨#[62]⟩))]),
a 10 41])
(s (r [a 43 10,
o 44 (.idxS 1 (t 43) (i 0)),
l 45 44,
o 46 (.call (f 41) [(t 45)]),
a 42 46,
o 47 (.extract 0 (t 42)),
o 48 (.extract 1 (t 42)),
o 11 (.mk 95 [(.int .i64 0),(.int .i64 0),(.int .u8 0),(.int .i64 0)]),
q (.store 4 (t 11) (t 47)),
a 12 48])
(s (r [a 50 10,
a 51 10,
o 52 (.len (t 51)),
o 53 (N .sub (t 52) (i 1)),
o 54 (.idxS 1 (t 50) (t 53)),
l 55 54,
o 56 (.call (f 42) [(t 55)]),
a 49 56,
o 57 (.extract 0 (t 49)),
o 58 (.extract 1 (t 49)),
a 13 57,
a 14 58])
(r [a 59 8,
o 60 (.loadN 4 (t 11)),
a 61 13,
o 62 (.build [(.int .i64 0),(.int .i64 0),(.int .u8 0),(.int .i64 0),(.int .i64 0)] [(0,4,(t 60)),(4,1,(t 61))]),
o 63 (.buildSlice 1 [(.int .i64 0),(.int .i64 0),(.int .u8 0),(.int .i64 0),(.int .i64 0)] [(0,5,(t 62))]),
o 64 (.append 97 5 40 (t 59) (t 63)),
a 8 64])))))
(r [a 35 9,
o 36 (N .add (t 35) (i 1)),
a 9 36]))))))
(s (r [p 65 0 4,
l 66 65,
a 67 8,
o 68 (.buildSlice 1 [(.slice none 0 0)] [(0,1,(t 67))]),
o 69 (.append 93 1 24 (t 66) (t 68)),
p 70 0 4,
q (.store 1 (t 70) (t 69))])
(d [u 0 (p 71 1 4) [],
u 1 (l 72 71) [],
u 2 (a 73 7) [],
u 3 (o 74 (.idxS 1 (t 73) (i 0))) [],
u 4 (l 75 74) [2],
u 5 (o 76 (.lenStr (t 75))) [],
u 6 (o 77 (N .gtr (t 76) (i 0))) [],
u 7 (a 78 77) [],
u 8 (g 79 78 true (.mv (t 7))) [],
u 9 (g 80 78 true (.idxS 1 (t 79) (i 0))) [],
u 10 (g 81 78 true (.load1 (t 80))) [8],
u 11 (g 82 78 true (.mv (t 7))) [],
u 12 (g 83 78 true (.idxS 1 (t 82) (i 0))) [],
u 13 (g 84 78 true (.load1 (t 83))) [2,11],
u 14 (g 85 78 true (.lenStr (t 84))) [],
u 15 (g 86 78 true (N .sub (t 85) (i 1))) [],
u 16 (g 87 78 true (.idxStr (t 81) (t 86))) [],
u 17 (g 88 78 true (N .eql (t 87) (c (.int .u8 42)))) [],
u 18 (o 89 (.pick (t 78) (t 88) n)) [],
u 19 (o 90 (.buildSlice 1 [(.bool false)] [(0,1,(t 89))])) [17],
u 20 (o 91 (.append 4 1 1 (t 72) (t 90))) [],
u 21 (p 92 1 4) [],
u 22 (q (.store 1 (t 92) (t 91))) []]))))))
(r [a 24 6,
o 25 (N .add (t 24) (i 1)),
a 6 25]))))))
(s (s (r [o 94 (.loadN 2 (t 4)),
o 95 (.call (f 43) [(t 94)]),
a 93 95,
o 96 (.extract 0 (t 93)),
o 97 (.extract 1 (t 93)),
a 15 96,
a 16 97])
(s (r [a 98 16,
o 99 (N .neq (t 98) (i 0)),
a 100 99,
g 101 100 false (.mv (t 15)),
g 102 100 false (.mv (t 0)),
g 103 100 false (.bin .str .neq (t 101) (t 102)),
o 104 (.pick (t 100) y (t 103))])
(w (t 104) (s (r [o 105 (.build [(.slice none 0 0),(.slice none 0 0)] []),
q (.store 2 (t 2) (t 105)),
o 3 (.mv (i 4))])
z)
k)))
(s (r [o 106 (.loadN 2 (t 4)),
q (.store 2 (t 2) (t 106)),
o 3 (.mv (i 0))])
z))))))⟩

def ir18 : IFunc := ⟨[.tmp 4],
(s (r [o 2 (.box 2 (t 0)),
o 3 (.box 2 (t 1)),
o 4 (.mv n)])
(s (s (r [p 8 0 2,
l 9 8,
o 10 (.len (t 9)),
p 11 0 3,
l 12 11,
o 13 (.len (t 12)),
o 14 (N .neq (t 10) (t 13)),
a 15 14,
g 16 15 false (.faddr 1 (t 2)),
g 17 15 false (.load1 (t 16)),
g 18 15 false (.len (t 17)),
g 19 15 false (.faddr 1 (t 3)),
g 20 15 false (.load1 (t 19)),
g 21 15 false (.len (t 20)),
g 22 15 false (N .neq (t 18) (t 21)),
o 23 (.pick (t 15) y (t 22))])
(w (t 23) (s (r [o 4 (.mv n)])
z)
k))
(s (s (r [o 5 (.mv (i 0))])
(b 0 (lo (s (s (r [a 24 5,
p 25 1 2,
l 26 25,
o 27 (.len (t 26)),
o 28 (N .lss (t 24) (t 27))])
(w (t 28) k
(e 0)))
(s (b 1 (s (d [u 0 (p 31 1 2) [],
u 1 (l 32 31) [],
u 2 (a 33 5) [],
u 3 (o 34 (.idxS 1 (t 32) (t 33))) [],
u 4 (l 35 34) [],
u 5 (p 36 1 3) [],
u 6 (l 37 36) [1,4],
u 7 (a 38 5) [],
u 8 (o 39 (.idxS 1 (t 37) (t 38))) [],
u 9 (l 40 39) [4,7],
u 10 (o 41 (.bin .boo .neq (t 35) (t 40))) []])
(w (t 41) (s (r [o 4 (.mv n)])
z)
k)))
(r [a 29 5,
o 30 (N .add (t 29) (i 1)),
a 5 30]))))))
(s (s (r [o 6 (.mv (i 0))])
(b 2 (lo (s (s (r [a 42 6,
p 43 0 2,
l 44 43,
o 45 (.len (t 44)),
o 46 (N .lss (t 42) (t 45))])
(w (t 46) k
(e 2)))
(s (b 3 (s (s (d [u 0 (p 49 0 2) [],
u 1 (l 50 49) [],
u 2 (a 51 6) [],
u 3 (o 52 (.idxS 1 (t 50) (t 51))) [],
u 4 (l 53 52) [],
u 5 (o 54 (.len (t 53))) [],
u 6 (p 55 0 3) [],
u 7 (l 56 55) [2,5],
u 8 (a 57 6) [],
u 9 (o 58 (.idxS 1 (t 56) (t 57))) [],
u 10 (l 59 58) [5,8],
u 11 (o 60 (.len (t 59))) [],
u 12 (o 61 (N .neq (t 54) (t 60))) []])
(w (t 61) (s (r [o 4 (.mv n)])
z)
k))
(s (r [o 7 (.mv (i 0))])
(b 4 (lo (s (s (r [a 62 7,
p 63 0 2,
l 64 63,
a 65 6,
o 66 (.idxS 1 (t 64) (t 65)),
l 67 66,
o 68 (.len (t 67)),
o 69 (N .lss (t 62) (t 68))])
(w (t 69) k
(e 4)))
(s (b 5 (s (d [u 0 (p 72 0 2) [],
u 1 (l 73 72) [],
u 2 (a 74 6) [],
u 3 (o 75 (.idxS 1 (t 73) (t 74))) [],
u 4 (l 76 75) [],
u 5 (a 77 7) [],
u 6 (o 78 (.idxS 5 (t 76) (t 77))) [],
u 7 (o 79 (.loadN 5 (t 78))) [],
u 8 (p 80 0 3) [],
u 9 (l 81 80) [1,4,7],
u 10 (a 82 6) [],
u 11 (o 83 (.idxS 1 (t 81) (t 82))) [],
u 12 (l 84 83) [4,7,10],
u 13 (a 85 7) [],
u 14 (o 86 (.idxS 5 (t 84) (t 85))) [],
u 15 (o 87 (.loadN 5 (t 86))) [7,10,13],
u 16 (o 88 (.eqF (.ag [(0,.num),(1,.num),(2,.num),(3,.num),(4,.num)]) true (t 79) (t 87))) []])
(w (t 88) (s (r [o 4 (.mv n)])
z)
k)))
(r [a 70 7,
o 71 (N .add (t 70) (i 1)),
a 7 71]))))))))
(r [a 47 6,
o 48 (N .add (t 47) (i 1)),
a 6 48]))))))
(s (r [o 4 (.mv y)])
z)))))⟩

def ir19 : IFunc := ⟨[.tmp 4],
(s (r [o 4 (.mv n)])
(s (s (r [a 6 0,
o 7 (.len (t 6)),
a 8 1,
o 9 (.len (t 8)),
o 10 (N .neq (t 7) (t 9))])
(w (t 10) (s (r [o 4 (.mv n)])
z)
k))
(s (s (r [o 5 (.mv (i 0))])
(b 0 (lo (s (s (r [a 11 5,
a 12 0,
o 13 (.len (t 12)),
o 14 (N .lss (t 11) (t 13))])
(w (t 14) k
(e 0)))
(s (b 1 (s (d [u 0 (a 17 0) [],
u 1 (a 18 5) [],
u 2 (o 19 (.idxS 4 (t 17) (t 18))) [],
u 3 (o 20 (.loadN 4 (t 19))) [],
u 4 (a 21 1) [],
u 5 (a 22 5) [],
u 6 (o 23 (.idxS 4 (t 21) (t 22))) [],
u 7 (o 24 (.loadN 4 (t 23))) [3],
u 8 (o 25 (.eqF (.ag [(0,.num),(1,.num),(2,.num),(3,.num)]) true (t 20) (t 24))) []])
(w (t 25) (s (r [o 4 (.mv n)])
z)
k)))
(r [a 15 5,
o 16 (N .add (t 15) (i 1)),
a 5 16]))))))
(s (r [o 4 (.mv y)])
z))))⟩

def ir20 : IFunc := ⟨[.cellN 4 2,.tmp 5],
(s (r [o 2 (.box 2 (t 0)),
o 4 (.mk 31 [(.slice none 0 0),(.slice none 0 0)]),
o 5 (.mv (i 0))])
(s (s (r [o 13 (.loadN 2 (t 2)),
o 14 (.buildSlice 1 [(.slice none 0 0),(.slice none 0 0)] [(0,2,(t 13))]),
a 15 1,
o 16 (.append 31 2 48 (t 14) (t 15)),
o 17 (.call (f 44) [(t 16)]),
a 6 17])
(s (r [a 18 6,
o 19 (N .neq (t 18) (i 0))])
(w (t 19) (s (r [o 20 (.build [(.slice none 0 0),(.slice none 0 0)] []),
a 21 6,
q (.store 2 (t 4) (t 20)),
a 5 21])
z)
k)))
(s (r [o 23 (.loadN 2 (t 2)),
o 24 (.call (f 45) [(t 23)]),
a 22 24,
o 25 (.extract 0 (t 22)),
o 26 (.extract 1 (t 22)),
a 7 25,
a 8 26])
(s (r [o 9 (.mv (c (.slice none 0 0)))])
(s (r [o 27 (.mkmap),
o 10 (.mk 70 [(.map none)]),
q (.store 1 (t 10) (t 27))])
(s (s (r [a 28 7,
o 29 (.len (t 28)),
o 30 (.mv (i 0))])
(b 0 (lo (s (r [o 31 (N .lss (t 30) (t 29))])
(s (w (t 31) k
(e 0))
(s (b 1 (s (r [o 32 (.idxS 1 (t 28) (t 30)),
l 33 32,
a 12 33])
(s (s (r [a 34 12,
o 35 (N .lss (t 34) (i 0))])
(w (t 35) (e 1)
k))
(s (s (r [a 36 12,
a 37 1,
o 38 (.len (t 37)),
o 39 (N .geq (t 36) (t 38))])
(w (t 39) (s (r [o 40 (.build [(.slice none 0 0),(.slice none 0 0)] []),
q (.store 2 (t 4) (t 40)),
o 5 (.mv (i 3))])
z)
k))
(s (r [l 41 10,
a 42 12,
a 43 9,
o 44 (.len (t 43)),
q (.insert (.sc .num) (t 41) (t 42) (t 44))])
(r [a 45 9,
a 46 1,
a 47 12,
o 48 (.idxS 2 (t 46) (t 47)),
o 49 (.loadN 2 (t 48)),
o 50 (.buildSlice 1 [(.slice none 0 0),(.slice none 0 0)] [(0,2,(t 49))]),
o 51 (.append 31 2 48 (t 45) (t 50)),
a 9 51]))))))
(r [o 52 (N .add (t 30) (i 1)),
a 30 52])))))))
(s (r [o 53 (.loadN 2 (t 2)),
a 54 9,
o 55 (.mkfn (.func 48) [] [(t 10)]),
o 56 (.call (f 47) [(t 53),(t 54),(t 55)]),
o 57 (.call (f 46) [(t 56)]),
o 58 (.call (f 27) [(t 57)]),
o 59 (.extract 0 (t 58)),
o 60 (.extract 1 (t 58)),
q (.store 2 (t 4) (t 59)),
a 5 60])
z)))))))⟩

def ir21 : IFunc := ⟨[.cellN 4 2,.tmp 5],
(s (r [o 2 (.box 2 (t 0)),
o 4 (.mk 31 [(.slice none 0 0),(.slice none 0 0)]),
o 5 (.mv (i 0))])
(s (s (r [o 11 (.loadN 2 (t 2)),
o 12 (.call (f 29) [(t 11)]),
a 6 12])
(s (r [a 13 6,
o 14 (N .neq (t 13) (i 0))])
(w (t 14) (s (r [o 15 (.build [(.slice none 0 0),(.slice none 0 0)] []),
a 16 6,
q (.store 2 (t 4) (t 15)),
a 5 16])
z)
k)))
(s (s (r [a 17 1,
o 18 (N .lss (t 17) (i (-1)))])
(w (t 18) (s (r [o 19 (.build [(.slice none 0 0),(.slice none 0 0)] []),
q (.store 2 (t 4) (t 19)),
o 5 (.mv (i 3))])
z)
k))
(s (r [o 20 (.call (f 49) []),
o 7 (.mk 116 [(.int .u8 0),(.int .i64 0)]),
q (.store 2 (t 7) (t 20))])
(s (s (r [a 21 1,
o 22 (N .geq (t 21) (i 0))])
(w (t 22) (r [a 23 1,
o 24 (.build [(.int .u8 0),(.int .i64 0)] [(0,1,(c (.int .u8 2))),(1,1,(t 23))]),
q (.store 2 (t 7) (t 24))])
k))
(s (d [u 1 (o 27 (.loadN 2 (t 7))) [],
u 2 (o 28 (.call (f 51) [(t 27),(i 0),(i 0)])) [],
u 0 (o 26 (.loadN 2 (t 2))) [0,1],
u 3 (o 29 (.call (f 50) [(t 26),(i 0),(t 28)])) [],
u 4 (a 25 29) [],
u 5 (o 30 (.extract 0 (t 25))) [],
u 6 (o 31 (.extract 1 (t 25))) [],
u 7 (a 8 30) [],
u 8 (a 9 31) []])
(s (s (r [a 32 9,
o 33 (.not (t 32))])
(w (t 33) (s (r [o 34 (.call (f 52) []),
q (.store 2 (t 4) (t 34)),
o 5 (.mv (i 0))])
z)
k))
(s (r [o 35 (.build [(.slice none 0 0),(.slice none 0 0)] []),
o 36 (.box 2 (t 35)),
a 10 36])
(s (r [a 37 10,
a 38 10,
o 39 (.loadN 2 (t 2)),
o 40 (.call (f 53) [(t 38),(t 39),(f 54)]),
a 41 8,
o 42 (N .add (t 40) (t 41)),
o 43 (.buildSlice 1 [(.int .i64 0)] [(0,1,(t 42))]),
o 44 (.nilCheck (t 37)),
p 45 1 44,
q (.store 1 (t 45) (t 43))])
(s (r [a 46 10,
o 47 (.call (f 46) [(t 46)]),
o 48 (.call (f 27) [(t 47)]),
o 49 (.extract 0 (t 48)),
o 50 (.extract 1 (t 48)),
q (.store 2 (t 4) (t 49)),
a 5 50])
z))))))))))⟩

def ir22 : IFunc := ⟨[.cellN 4 2,.tmp 5],
(s (r [o 2 (.box 2 (t 0)),
o 3 (.box 3 (t 1)),
o 4 (.mk 31 [(.slice none 0 0),(.slice none 0 0)]),
o 5 (.mv (i 0))])
(s (s (r [o 7 (.loadN 2 (t 2)),
o 8 (.buildSlice 1 [(.slice none 0 0),(.slice none 0 0)] [(0,2,(t 7))]),
o 9 (.call (f 44) [(t 8)]),
a 6 9])
(s (r [a 10 6,
o 11 (N .neq (t 10) (i 0))])
(w (t 11) (s (r [o 12 (.build [(.slice none 0 0),(.slice none 0 0)] []),
a 13 6,
q (.store 2 (t 4) (t 12)),
a 5 13])
z)
k)))
(s (s (r [p 14 0 3,
l 15 14,
o 16 (N .lss (t 15) (i 1)),
a 17 16,
g 18 17 false (.faddr 1 (t 3)),
g 19 17 false (.load1 (t 18)),
g 20 17 false (N .lss (t 19) (i 1)),
o 21 (.pick (t 17) y (t 20)),
a 22 21,
g 23 22 false (.faddr 1 (t 3)),
g 24 22 false (.load1 (t 23)),
g 25 22 false (N .gtr (t 24) (i 64)),
o 26 (.pick (t 22) y (t 25)),
a 27 26,
g 28 27 false (.faddr 2 (t 3)),
g 29 27 false (.load1 (t 28)),
g 30 27 false (N .lss (t 29) (i 0)),
o 31 (.pick (t 27) y (t 30)),
a 32 31,
g 33 32 false (.faddr 2 (t 3)),
g 34 32 false (.load1 (t 33)),
g 35 32 false (.faddr 1 (t 3)),
g 36 32 false (.load1 (t 35)),
g 37 32 false (N .geq (t 34) (t 36)),
o 38 (.pick (t 32) y (t 37))])
(w (t 38) (s (r [o 39 (.build [(.slice none 0 0),(.slice none 0 0)] []),
q (.store 2 (t 4) (t 39)),
o 5 (.mv (i 3))])
z)
k))
(s (r [o 40 (.loadN 2 (t 2)),
o 41 (.loadN 3 (t 3)),
o 42 (.call (f 55) [(t 40),(t 41)]),
o 43 (.call (f 46) [(t 42)]),
o 44 (.call (f 27) [(t 43)]),
o 45 (.extract 0 (t 44)),
o 46 (.extract 1 (t 44)),
q (.store 2 (t 4) (t 45)),
a 5 46])
z))))⟩

def ir23 : IFunc := ⟨[.tmp 2,.tmp 3],
(s (r [o 1 (.box 2 (t 0)),
o 2 (.mv (c (.slice none 0 0))),
o 3 (.mv (i 0))])
(s (s (r [o 7 (.loadN 2 (t 1)),
o 8 (.call (f 29) [(t 7)]),
a 4 8])
(s (r [a 9 4,
o 10 (N .neq (t 9) (i 0))])
(w (t 10) (s (r [a 11 4,
o 2 (.mv (c (.slice none 0 0))),
a 3 11])
z)
k)))
(s (r [o 13 (.loadN 2 (t 1)),
o 14 (.call (f 45) [(t 13)]),
a 12 14,
o 15 (.extract 0 (t 12)),
o 16 (.extract 1 (t 12)),
a 5 15,
a 6 16])
(s (s (r [a 17 6,
o 18 (.not (t 17))])
(w (t 18) (s (r [o 2 (.mv (c (.slice none 0 0))),
o 3 (.mv (i 4))])
z)
k))
(s (r [a 19 5,
a 2 19,
o 3 (.mv (i 0))])
z)))))⟩

def ir24 : IFunc := ⟨[.tmp 4],
(s (r [o 4 (.mv n)])
(s (s (r [a 6 0,
o 7 (.len (t 6)),
a 8 1,
o 9 (.len (t 8)),
o 10 (N .neq (t 7) (t 9))])
(w (t 10) (s (r [o 4 (.mv n)])
z)
k))
(s (s (r [o 5 (.mv (i 0))])
(b 0 (lo (s (s (r [a 11 5,
a 12 0,
o 13 (.len (t 12)),
o 14 (N .lss (t 11) (t 13))])
(w (t 14) k
(e 0)))
(s (b 1 (s (d [u 0 (a 17 0) [],
u 1 (a 18 5) [],
u 2 (o 19 (.idxS 1 (t 17) (t 18))) [],
u 3 (l 20 19) [],
u 4 (a 21 1) [],
u 5 (a 22 5) [],
u 6 (o 23 (.idxS 1 (t 21) (t 22))) [],
u 7 (l 24 23) [3],
u 8 (o 25 (N .neq (t 20) (t 24))) []])
(w (t 25) (s (r [o 4 (.mv n)])
z)
k)))
(r [a 15 5,
o 16 (N .add (t 15) (i 1)),
a 5 16]))))))
(s (r [o 4 (.mv y)])
z))))⟩

def ir25 : IFunc := ⟨[.tmp 0],
(s (r [o 0 (.mv n)])
(s (r [o 18 (.call (f 4) []),
o 19 (.call (f 6) [(i 2),(c (.slice none 0 0))]),
o 20 (.buildSlice 1 [(.int .u8 0),(.int .i64 0),(.int .i64 0),(.int .i64 0),(.slice none 0 0)] [(0,5,(t 19))]),
o 21 (.call (f 6) [(i 1),(t 20)]),
o 22 (.call (f 10) [(i 1),(i 2)]),
o 23 (.call (f 11) [(t 21),(t 22)]),
o 24 (.call (f 5) [(t 18),(t 23)]),
a 17 24,
o 25 (.extract 0 (t 17)),
o 26 (.extract 1 (t 17)),
o 1 (.mk 31 [(.slice none 0 0),(.slice none 0 0)]),
q (.store 2 (t 1) (t 25)),
a 2 26])
(s (r [o 27 (.build [(.int .u8 0),(.int .i64 0),(.int .i64 0),(.int .i64 0),(.slice none 0 0)] [(0,1,(c (.int .u8 12)))]),
o 28 (.call (f 10) [(i 0),(i 2)]),
o 29 (.call (f 11) [(t 27),(t 28)]),
o 3 (.mk 37 [(.int .u8 0),(.int .i64 0),(.int .i64 0),(.int .i64 0),(.slice none 0 0)]),
q (.store 5 (t 3) (t 29))])
(s (r [o 30 (.loadN 5 (t 3)),
o 31 (.buildSlice 1 [(.int .u8 0),(.int .i64 0),(.int .i64 0),(.int .i64 0),(.slice none 0 0)] [(0,5,(t 30))]),
o 32 (.call (f 6) [(i 1),(t 31)]),
o 33 (.call (f 10) [(i 0),(i 2)]),
o 34 (.call (f 11) [(t 32),(t 33)]),
o 35 (.call (f 10) [(i 1),(i 2)]),
o 36 (.buildSlice 2 [(.int .u8 0),(.int .i64 0),(.int .i64 0),(.int .i64 0),(.slice none 0 0),(.int .u8 0),(.int .i64 0),(.int .i64 0),(.int .i64 0),(.slice none 0 0)] [(0,5,(t 34)),(5,5,(t 35))]),
o 37 (.build [(.int .u8 0),(.int .i64 0),(.int .i64 0),(.int .i64 0),(.slice none 0 0)] [(0,1,(c (.int .u8 11))),(4,1,(t 36))]),
o 4 (.mk 37 [(.int .u8 0),(.int .i64 0),(.int .i64 0),(.int .i64 0),(.slice none 0 0)]),
q (.store 5 (t 4) (t 37))])
(s (d [u 0 (o 39 (.call (f 4) [])) [],
u 1 (o 40 (.loadN 5 (t 4))) [0],
u 2 (o 41 (.call (f 5) [(t 39),(t 40)])) [],
u 3 (a 38 41) [],
u 4 (o 42 (.extract 0 (t 38))) [],
u 5 (o 43 (.extract 1 (t 38))) [],
u 6 (o 5 (.mk 31 [(.slice none 0 0),(.slice none 0 0)])) [3,4,5],
u 7 (q (.store 2 (t 5) (t 42))) [],
u 8 (a 6 43) []])
(s (r [o 45 (.call (f 4) []),
o 46 (.call (f 6) [(i 2),(c (.slice none 0 0))]),
o 47 (.call (f 16) [(c (.string ⟨#[48,63,32,50,63,32,50,33,49,32,48,33,49]⟩))]),
o 48 (.call (f 56) [(t 45),(t 46),(t 47)]),
a 44 48,
o 49 (.extract 0 (t 44)),
o 50 (.extract 1 (t 44)),
a 7 49,
a 8 50])
(s (d [u 1 (o 53 (.call (f 16) [(c (.string ⟨#[48,63,32,49,63]⟩))])) [],
u 0 (o 52 (.loadN 2 (t 1))) [0],
u 2 (o 54 (.call (f 57) [(t 52),(t 53)])) [],
u 3 (a 51 54) [],
u 4 (o 55 (.extract 0 (t 51))) [],
u 5 (o 56 (.extract 1 (t 51))) [],
u 6 (a 9 55) [],
u 7 (a 10 56) []])
(s (r [o 58 (.loadN 2 (t 1)),
o 59 (.call (f 23) [(t 58)]),
a 57 59,
o 60 (.extract 0 (t 57)),
o 61 (.extract 1 (t 57)),
a 11 60,
a 12 61])
(s (s (r [a 62 2,
o 63 (N .neq (t 62) (i 0)),
a 64 63,
g 65 64 false (.mv (t 6)),
g 66 64 false (N .neq (t 65) (i 0)),
o 67 (.pick (t 64) y (t 66)),
a 68 67,
g 69 68 false (.mv (t 8)),
g 70 68 false (N .neq (t 69) (i 0)),
o 71 (.pick (t 68) y (t 70)),
a 72 71,
g 73 72 false (.mv (t 7)),
g 74 72 false (.not (t 73)),
o 75 (.pick (t 72) y (t 74)),
a 76 75,
g 77 76 false (.mv (t 10)),
g 78 76 false (N .neq (t 77) (i 0)),
o 79 (.pick (t 76) y (t 78)),
a 80 79,
g 81 80 false (.mv (t 9)),
g 82 80 false (.len (t 81)),
g 83 80 false (N .neq (t 82) (i 2)),
o 84 (.pick (t 80) y (t 83)),
a 85 84,
g 86 85 false (.mv (t 12)),
g 87 85 false (N .neq (t 86) (i 0)),
o 88 (.pick (t 85) y (t 87)),
a 89 88,
g 90 89 false (.mv (t 11)),
g 91 89 false (.len (t 90)),
g 92 89 false (N .neq (t 91) (i 1)),
o 93 (.pick (t 89) y (t 92)),
a 94 93,
g 95 94 false (.mv (t 11)),
g 96 94 false (.idxS 1 (t 95) (i 0)),
g 97 94 false (.load1 (t 96)),
g 98 94 false (N .neq (t 97) (i 1)),
o 99 (.pick (t 94) y (t 98))])
(w (t 99) (s (r [o 0 (.mv n)])
z)
k))
(s (r [o 101 (.call (f 17) [(c (.string ⟨#[48,32,48,63,62,49,10,49,32,49,63,62,50,10,50,32,49,33,48,62,51,32,49,46,49,63,62,52,10,51,32,48,33,49,62,53,10,52,32,50,63,62,54,10,53,42,10,54,32,50,33,48,62,55,32,50,33,49,62,56,10,55,32,49,46,49,33,48,62,50,10,56,32,49,46,49,33,49,62,50,10]⟩))]),
a 100 101,
o 102 (.extract 0 (t 100)),
o 103 (.extract 1 (t 100)),
o 13 (.mk 31 [(.slice none 0 0),(.slice none 0 0)]),
q (.store 2 (t 13) (t 102)),
a 14 103])
(s (r [o 105 (.call (f 17) [(c (.string ⟨#[48,32,48,63,62,49,10,49,32,49,63,62,50,10,50,32,49,33,48,62,51,32,49,46,49,63,62,52,10,51,32,48,33,48,62,53,10,52,32,49,46,49,33,42,62,54,10,53,42,10,54,32,49,33,42,62,55,10,55,32,48,33,49,62,53,10]⟩))]),
a 104 105,
o 106 (.extract 0 (t 104)),
o 107 (.extract 1 (t 104)),
o 15 (.mk 31 [(.slice none 0 0),(.slice none 0 0)]),
q (.store 2 (t 15) (t 106)),
a 16 107])
(s (r [o 108 (.loadN 2 (t 1)),
o 109 (.loadN 2 (t 13)),
o 110 (.call (f 18) [(t 108),(t 109)]),
a 111 110,
g 112 111 true (.loadN 2 (t 5)),
g 113 111 true (.loadN 2 (t 15)),
g 114 111 true (.call (f 18) [(t 112),(t 113)]),
o 115 (.pick (t 111) (t 114) n),
a 0 115])
z))))))))))))⟩

def ir26 : IFunc := ⟨[.tmp 4],
(s (r [o 2 (.box 4 (t 0)),
o 3 (.box 5 (t 1)),
o 4 (.mv (i 0))])
(s (s (r [o 9 (.loadN 4 (t 2)),
o 10 (.call (f 58) [(t 9)]),
a 5 10])
(s (r [a 11 5,
o 12 (N .neq (t 11) (i 0))])
(w (t 12) (s (r [a 13 5,
a 4 13])
z)
k)))
(s (s (r [o 14 (.loadN 5 (t 3)),
o 15 (.call (f 59) [(t 14)]),
o 16 (N .gtr (t 15) (i 600))])
(w (t 16) (s (r [o 4 (.mv (i 5))])
z)
k))
(s (d [u 3 (o 20 (.call (f 60) [])) [],
u 0 (p 17 0 2) [],
u 1 (l 18 17) [1],
u 2 (o 19 (.len (t 18))) [],
u 4 (o 21 (.build [(.slice none 0 0),(.int .i64 0),(.int .i64 0),(.map none)] [(1,1,(t 19)),(3,1,(t 20))])) [],
u 5 (o 6 (.mk 136 [(.slice none 0 0),(.int .i64 0),(.int .i64 0),(.map none)])) [2,4],
u 6 (q (.store 4 (t 6) (t 21))) []])
(s (s (r [p 22 0 2,
l 23 22,
o 24 (.len (t 23)),
o 25 (.mv (i 0))])
(b 0 (lo (s (r [o 26 (N .lss (t 25) (t 24))])
(s (w (t 26) k
(e 0))
(s (b 1 (s (r [o 27 (.idxS 3 (t 23) (t 25)),
o 28 (.loadN 3 (t 27)),
o 8 (.mk 88 [(.slice none 0 0),(.bool false),(.int .i64 0)]),
q (.store 3 (t 8) (t 28))])
(r [p 29 0 6,
l 30 29,
o 31 (.loadN 3 (t 8)),
o 32 (.build [(.slice none 0 0),(.bool false),(.int .i64 0),(.bool false)] [(0,3,(t 31))]),
o 33 (.buildSlice 1 [(.slice none 0 0),(.bool false),(.int .i64 0),(.bool false)] [(0,4,(t 32))]),
o 34 (.append 138 4 48 (t 30) (t 33)),
p 35 0 6,
q (.store 1 (t 35) (t 34))])))
(r [o 36 (N .add (t 25) (i 1)),
a 25 36])))))))
(s (s (r [o 37 (.loadN 4 (t 6)),
o 38 (.loadN 5 (t 3)),
p 39 1 2,
o 40 (.loadN 2 (t 39)),
o 41 (.call (f 61) [(t 37),(t 38),(t 40)]),
o 42 (.not (t 41))])
(w (t 42) (s (r [o 4 (.mv (i 4))])
z)
k))
(s (r [o 4 (.mv (i 0))])
z)))))))⟩

def ir27 : IFunc := ⟨[.cellN 2 2,.tmp 3],
(s (r [o 1 (.box 3 (t 0)),
o 2 (.mk 31 [(.slice none 0 0),(.slice none 0 0)]),
o 3 (.mv (i 0))])
(s (s (r [p 4 2 1,
l 5 4,
o 6 (.not (t 5))])
(w (t 6) (s (r [o 7 (.build [(.slice none 0 0),(.slice none 0 0)] []),
q (.store 2 (t 2) (t 7)),
o 3 (.mv (i 5))])
z)
k))
(s (r [p 8 0 1,
o 9 (.loadN 2 (t 8)),
q (.store 2 (t 2) (t 9)),
o 3 (.mv (i 0))])
z)))⟩

def ir28 : IFunc := ⟨[.cellN 4 3],
(s (r [o 2 (.box 5 (t 0)),
o 3 (.box 5 (t 1)),
o 4 (.mk 69 [(.slice none 0 0),(.slice none 0 0),(.bool false)])])
(s (r [o 9 (.buildSlice 1 [(.int .i64 0)] [(0,1,(i 0))]),
o 10 (.build [(.slice none 0 0),(.slice none 0 0)] [(1,1,(t 9))]),
o 11 (.box 2 (t 10)),
a 5 11])
(s (r [a 12 5,
o 13 (.call (f 62) [(t 12),n])])
(s (s (r [p 14 0 2,
p 15 1 14,
o 16 (.loadN 2 (t 15)),
o 17 (.call (f 63) [(t 16)]),
o 18 (.len (t 17)),
o 19 (.mv (i 0))])
(b 0 (lo (s (r [o 20 (N .lss (t 19) (t 18))])
(s (w (t 20) k
(e 0))
(s (b 1 (s (r [o 21 (.idxS 2 (t 17) (t 19)),
o 22 (.loadN 2 (t 21)),
o 7 (.mk 116 [(.int .u8 0),(.int .i64 0)]),
q (.store 2 (t 7) (t 22))])
(s (r [o 23 (.loadN 5 (t 2)),
p 24 0 2,
p 25 1 24,
o 26 (.loadN 2 (t 25)),
o 27 (.loadN 5 (t 3)),
o 28 (.loadN 2 (t 7)),
o 29 (.call (f 64) [(t 23),(t 26),(t 27),(t 28)]),
o 8 (.mk 69 [(.slice none 0 0),(.slice none 0 0),(.bool false)]),
q (.store 3 (t 8) (t 29))])
(s (s (r [p 30 2 8,
l 31 30,
o 32 (.not (t 31))])
(w (t 32) (s (r [o 33 (.loadN 3 (t 8)),
q (.store 3 (t 4) (t 33))])
z)
k))
(d [u 1 (o 35 (.loadN 2 (t 7))) [],
u 2 (o 36 (.call (f 51) [(t 35),(i 0),(i 0)])) [],
u 3 (a 37 5) [],
u 4 (p 38 0 8) [],
u 5 (o 39 (.loadN 2 (t 38))) [2,3],
u 6 (o 40 (.call (f 53) [(t 37),(t 39),(f 54)])) [],
u 0 (a 34 5) [],
u 7 (o 41 (.call (f 65) [(t 34),(i 0),(t 36),(t 40)])) []])))))
(r [o 42 (N .add (t 19) (i 1)),
a 19 42])))))))
(s (r [a 43 5,
o 44 (.call (f 46) [(t 43)]),
q (.store 3 (t 4) (t 44))])
z)))))⟩

def ir29 : IFunc := ⟨[.tmp 2],
(s (r [o 1 (.box 2 (t 0)),
o 2 (.mv (i 0))])
(s (r [o 3 (.mv (f 66))])
(s (b 0 (s (r [o 5 (.loadN 2 (t 1)),
o 6 (.call (f 68) [(t 5)]),
a 4 6])
(w (t 4) (s (r [o 2 (.mv (i 5))])
z)
(s (d [u 0 (o 8 (.loadN 2 (t 1))) [],
u 1 (o 9 (.call (f 69) [(t 8)])) [],
u 2 (o 10 (.not (t 9))) [],
u 3 (a 11 10) [],
u 4 (g 12 11 false (.faddr 0 (t 1))) [],
u 5 (g 13 11 false (.load1 (t 12))) [],
u 6 (g 14 11 false (.mv (t 3))) [],
u 7 (g 15 11 false (.call (f 70) [(t 13),(t 14)])) [],
u 8 (o 16 (.pick (t 11) y (t 15))) [],
u 9 (a 17 16) [],
u 11 (g 19 17 false (.loadN 2 (t 1))) [],
u 12 (g 20 17 false (.call (f 73) [(t 19)])) [],
u 13 (g 21 17 false (.call (f 72) [(t 20)])) [],
u 10 (g 18 17 false (.loadN 2 (t 1))) [0,1,2],
u 14 (g 22 17 false (.call (f 71) [(t 18),(t 21)])) [],
u 15 (g 23 17 false (.not (t 22))) [],
u 16 (o 24 (.pick (t 17) y (t 23))) [],
u 17 (a 7 24) []])
(w (t 7) (s (r [o 2 (.mv (i 4))])
z)
k)))))
(s (r [o 2 (.mv (i 0))])
z))))⟩

def ir30 : IFunc := ⟨[.tmp 4],
(s (r [o 2 (.box 2 (t 0)),
o 4 (.mv (c (.slice none 0 0)))])
(s (r [p 10 1 2,
l 11 10,
o 12 (.buildSlice 1 [(.slice none 0 0)] [(0,1,(t 11))]),
o 5 (.mk 76 [(.slice none 0 0)]),
q (.store 1 (t 5) (t 12))])
(s (s (r [a 13 1,
o 14 (.mv (i 0))])
(b 0 (lo (s (r [o 15 (N .lss (t 14) (t 13))])
(s (w (t 15) k
(e 0))
(s (b 1 (s (r [a 16 14,
o 6 (.mk 3 [(.int .i64 0)]),
q (.store 1 (t 6) (t 16))])
(s (r [p 17 0 2,
l 18 17,
o 19 (.len (t 18)),
o 20 (.mkSlice 1 [(.bool false)] (t 19) (t 19)),
a 7 20])
(s (s (r [p 21 0 2,
l 22 21,
o 23 (.len (t 22)),
o 24 (.mv (i 0))])
(b 2 (lo (s (r [o 25 (N .lss (t 24) (t 23))])
(s (w (t 25) k
(e 2))
(s (b 3 (s (r [a 26 24,
o 27 (.idxS 1 (t 22) (t 24)),
l 28 27,
a 8 26,
a 9 28])
(r [a 29 7,
a 30 8,
a 31 9,
o 32 (.mkfn (.func 75) [] [(t 5),(t 6)]),
o 33 (.call (f 74) [(t 31),(t 32)]),
o 34 (.idxS 1 (t 29) (t 30)),
q (.store 1 (t 34) (t 33))])))
(r [o 35 (N .add (t 24) (i 1)),
a 24 35])))))))
(r [l 36 5,
a 37 7,
o 38 (.buildSlice 1 [(.slice none 0 0)] [(0,1,(t 37))]),
o 39 (.append 29 1 24 (t 36) (t 38)),
q (.store 1 (t 5) (t 39))])))))
(r [o 40 (N .add (t 14) (i 1)),
a 14 40])))))))
(s (r [l 41 5,
a 4 41])
z))))⟩

def ir31 : IFunc := ⟨[],
(s (b 0 (s (d [u 0 (a 11 0) [],
u 1 (o 12 (.nilCheck (t 11))) [],
u 2 (p 13 3 12) [],
u 3 (l 14 13) [],
u 4 (o 15 (.len (t 14))) [],
u 5 (a 16 0) [],
u 6 (o 17 (.nilCheck (t 16))) [],
u 7 (p 18 4 17) [],
u 8 (l 19 18) [4],
u 9 (o 20 (N .eql (t 15) (t 19))) [],
u 10 (a 21 20) [],
u 11 (g 22 21 false (.mv (t 0))) [],
u 12 (g 23 21 false (.nilCheck (t 22))) [],
u 13 (g 24 21 false (.faddr 2 (t 23))) [],
u 14 (g 25 21 false (.load1 (t 24))) [],
u 15 (g 26 21 false (.mv (t 2))) [],
u 16 (g 27 21 false (.idxS 1 (t 25) (t 26))) [],
u 17 (g 28 21 false (.load1 (t 27))) [],
u 18 (g 29 21 false (.mv (t 1))) [],
u 19 (g 30 21 false (.idxS 1 (t 28) (t 29))) [],
u 20 (g 31 21 false (.load1 (t 30))) [],
u 21 (g 32 21 false (.not (t 31))) [],
u 22 (o 33 (.pick (t 21) y (t 32))) [],
u 23 (a 10 33) []])
(w (t 10) z
(s (r [a 35 2,
o 36 (N .eql (t 35) (i 0)),
a 34 36])
(w (t 34) (s (d [u 5 (a 42 3) [],
u 6 (o 43 (.call (f 76) [(t 42)])) [],
u 0 (a 37 0) [],
u 1 (a 38 0) [],
u 2 (o 39 (.nilCheck (t 38))) [],
u 3 (p 40 3 39) [],
u 4 (l 41 40) [4],
u 7 (o 44 (.buildSlice 1 [(.slice none 0 0)] [(0,1,(t 43))])) [0],
u 8 (o 45 (.append 51 1 24 (t 41) (t 44))) [],
u 9 (o 46 (.nilCheck (t 37))) [],
u 10 (p 47 3 46) [],
u 11 (q (.store 1 (t 47) (t 45))) []])
z)
k)))))
(s (r [a 48 0,
o 49 (.nilCheck (t 48)),
p 50 0 49,
p 51 0 50,
l 52 51,
a 53 1,
o 54 (.idxS 1 (t 52) (t 53)),
l 55 54,
o 56 (.len (t 55)),
o 57 (.mv (i 0))])
(b 1 (lo (s (r [o 58 (N .lss (t 57) (t 56))])
(s (w (t 58) k
(e 1))
(s (b 2 (s (r [o 59 (.idxS 5 (t 55) (t 57)),
o 60 (.loadN 5 (t 59)),
o 9 (.mk 97 [(.int .i64 0),(.int .i64 0),(.int .u8 0),(.int .i64 0),(.int .i64 0)]),
q (.store 5 (t 9) (t 60))])
(d [u 0 (a 61 0) [],
u 1 (p 62 4 9) [],
u 2 (l 63 62) [],
u 3 (a 64 2) [],
u 4 (o 65 (N .sub (t 64) (i 1))) [],
u 5 (a 66 3) [],
u 6 (p 67 0 9) [],
u 7 (o 68 (.loadN 4 (t 67))) [4],
u 8 (o 69 (.buildSlice 1 [(.int .i64 0),(.int .i64 0),(.int .u8 0),(.int .i64 0)] [(0,4,(t 68))])) [5],
u 9 (o 70 (.append 95 4 32 (t 66) (t 69))) [6],
u 10 (o 71 (.call (f 31) [(t 61),(t 63),(t 65),(t 70)])) []])))
(r [o 72 (N .add (t 57) (i 1)),
a 57 72]))))))))⟩

def ir32 : IFunc := ⟨[.tmp 2,.tmp 3],
(s (r [o 1 (.box 2 (t 0)),
o 2 (.mv (i 0)),
o 3 (.mv n)])
(s (s (r [o 12 (.loadN 2 (t 1)),
o 13 (.call (f 77) [(t 12)]),
a 11 13,
o 14 (.extract 0 (t 11)),
o 15 (.extract 1 (t 11)),
a 4 14,
a 5 15])
(s (r [a 16 5])
(w (t 16) (s (r [o 2 (.mv (i 0)),
o 3 (.mv n)])
z)
k)))
(s (r [p 17 0 1,
l 18 17,
o 19 (.len (t 18)),
o 20 (.mkSlice 8 [(.int .i64 0)] (t 19) (t 19)),
a 6 20])
(s (s (r [p 21 0 1,
l 22 21,
o 23 (.len (t 22)),
o 24 (.mv (i 0))])
(b 0 (lo (s (r [o 25 (N .lss (t 24) (t 23))])
(s (w (t 25) k
(e 0))
(s (b 1 (s (r [p 26 0 1,
l 27 26,
o 28 (.len (t 27)),
o 29 (.mv (i 0))])
(b 2 (lo (s (r [o 30 (N .lss (t 29) (t 28))])
(s (w (t 30) k
(e 2))
(s (b 3 (s (r [a 31 29,
o 32 (.idxS 1 (t 27) (t 29)),
l 33 32,
a 7 31,
a 8 33])
(s (r [a 34 8,
o 35 (.len (t 34)),
o 36 (.mv (i 0))])
(b 4 (lo (s (r [o 37 (N .lss (t 36) (t 35))])
(s (w (t 37) k
(e 4))
(s (b 5 (s (r [o 38 (.idxS 5 (t 34) (t 36)),
o 39 (.loadN 5 (t 38)),
o 10 (.mk 97 [(.int .i64 0),(.int .i64 0),(.int .u8 0),(.int .i64 0),(.int .i64 0)]),
q (.store 5 (t 10) (t 39))])
(d [u 0 (a 40 6) [],
u 1 (p 41 4 10) [],
u 2 (l 42 41) [],
u 3 (a 43 6) [],
u 4 (p 44 4 10) [],
u 5 (l 45 44) [2],
u 6 (o 46 (.idxS 1 (t 43) (t 45))) [],
u 7 (l 47 46) [4],
u 8 (a 48 6) [],
u 9 (a 49 7) [],
u 10 (o 50 (.idxS 1 (t 48) (t 49))) [],
u 11 (l 51 50) [3,5,8],
u 12 (o 52 (N .add (t 51) (i 1))) [],
u 13 (o 53 (.maxI (t 47) (t 52))) [],
u 14 (o 54 (.idxS 1 (t 40) (t 42))) [],
u 15 (q (.store 1 (t 54) (t 53))) []])))
(r [o 55 (N .add (t 36) (i 1)),
a 36 55])))))))))
(r [o 56 (N .add (t 29) (i 1)),
a 29 56]))))))))
(r [o 57 (N .add (t 24) (i 1)),
a 24 57])))))))
(s (r [a 58 6,
o 59 (.call (f 78) [(t 58)]),
a 2 59,
o 3 (.mv y)])
z)))))⟩

def ir33 : IFunc := ⟨[.tmp 4],
(s (r [o 4 (.mv (c (.slice none 0 0)))])
(s (r [o 5 (.mv (c (.slice none 0 0)))])
(s (r [o 6 (.mv (i 0))])
(s (s (r [o 7 (.mv (i 0))])
(b 0 (lo (s (s (r [a 8 7,
a 9 1,
o 10 (.lenStr (t 9)),
o 11 (N .add (t 8) (t 10)),
a 12 0,
o 13 (.lenStr (t 12)),
o 14 (N .leq (t 11) (t 13))])
(w (t 14) k
(e 0)))
(s (b 1 (s (r [a 17 0,
a 18 7,
a 19 7,
a 20 1,
o 21 (.lenStr (t 20)),
o 22 (N .add (t 19) (t 21)),
o 23 (.sliceStr (t 17) (some (t 18)) (some (t 22))),
a 24 1,
o 25 (.bin .str .eql (t 23) (t 24))])
(w (t 25) (s (r [a 26 5,
a 27 0,
a 28 6,
a 29 7,
o 30 (.sliceStr (t 27) (some (t 28)) (some (t 29))),
o 31 (.buildSlice 1 [(.string ⟨#[]⟩)] [(0,1,(t 30))]),
o 32 (.append 9 1 16 (t 26) (t 31)),
a 5 32])
(r [a 33 7,
a 34 1,
o 35 (.lenStr (t 34)),
o 36 (N .add (t 33) (t 35)),
a 37 7,
a 38 1,
o 39 (.lenStr (t 38)),
o 40 (N .add (t 37) (t 39)),
o 41 (N .sub (t 40) (i 1)),
a 6 36,
a 7 41]))
k)))
(r [a 15 7,
o 16 (N .add (t 15) (i 1)),
a 7 16]))))))
(s (r [a 42 5,
a 43 0,
a 44 6,
o 45 (.sliceStr (t 43) (some (t 44)) none),
o 46 (.buildSlice 1 [(.string ⟨#[]⟩)] [(0,1,(t 45))]),
o 47 (.append 9 1 16 (t 42) (t 46)),
a 4 47])
z)))))⟩

def ir34 : IFunc := ⟨[.cellN 2 2],
(s (r [o 2 (.mk 24 [(.bool false),(.int .i64 0)])])
(s (r [o 3 (.mk 24 [(.bool false),(.int .i64 0)])])
(s (s (r [a 4 0,
o 5 (.call (f 79) [(t 4),(c (.string ⟨#[99,101,108,108,32]⟩))]),
p 6 0 3,
q (.store 1 (t 6) (t 5))])
(s (r [p 7 0 3,
l 8 7])
(w (t 8) (r [a 10 0,
o 11 (.sliceStr (t 10) (some (i 5)) none),
o 12 (.call (f 42) [(t 11)]),
a 9 12,
o 13 (.extract 0 (t 9)),
o 14 (.extract 1 (t 9)),
p 15 1 3,
q (.store 1 (t 15) (t 13))])
(s (r [a 16 0,
o 17 (.call (f 79) [(t 16),(c (.string ⟨#[105,110,116,32]⟩))])])
(w (t 17) (r [a 19 0,
o 20 (.sliceStr (t 19) (some (i 4)) none),
o 21 (.call (f 42) [(t 20)]),
a 18 21,
o 22 (.extract 0 (t 18)),
o 23 (.extract 1 (t 18)),
p 24 1 3,
q (.store 1 (t 24) (t 22))])
k)))))
(s (r [o 25 (.loadN 2 (t 3)),
q (.store 2 (t 2) (t 25))])
z))))⟩

def ir35 : IFunc := ⟨[.cellN 2 3],
(s (r [o 2 (.mk 88 [(.slice none 0 0),(.bool false),(.int .i64 0)])])
(s (r [a 7 0,
o 8 (.call (f 33) [(t 7),(c (.string ⟨#[41,32,45,62,32]⟩))]),
a 3 8])
(s (r [a 9 3,
a 10 3,
o 11 (.len (t 10)),
o 12 (N .sub (t 11) (i 1)),
o 13 (.idxS 1 (t 9) (t 12)),
l 14 13,
o 15 (.call (f 34) [(t 14)]),
o 16 (.build [(.slice none 0 0),(.bool false),(.int .i64 0)] [(1,2,(t 15))]),
o 4 (.mk 88 [(.slice none 0 0),(.bool false),(.int .i64 0)]),
q (.store 3 (t 4) (t 16))])
(s (s (r [a 17 0,
o 18 (.call (f 79) [(t 17),(c (.string ⟨#[40]⟩))])])
(w (t 18) (s (r [a 19 3,
o 20 (.idxS 1 (t 19) (i 0)),
l 21 20,
o 22 (.sliceStr (t 21) (some (i 1)) none),
o 23 (.call (f 33) [(t 22),(c (.string ⟨#[44,32]⟩))]),
a 5 23])
(s (r [o 6 (.mv (i 0))])
(b 0 (lo (s (s (r [a 24 6,
a 25 5,
o 26 (.len (t 25)),
o 27 (N .lss (t 24) (t 26))])
(w (t 27) k
(e 0)))
(s (b 1 (d [u 2 (a 32 5) [],
u 3 (a 33 6) [],
u 4 (o 34 (.idxS 1 (t 32) (t 33))) [],
u 5 (l 35 34) [],
u 6 (o 36 (.call (f 34) [(t 35)])) [],
u 0 (p 30 0 4) [],
u 1 (l 31 30) [1,2],
u 7 (o 37 (.buildSlice 1 [(.bool false),(.int .i64 0)] [(0,2,(t 36))])) [0],
u 8 (o 38 (.append 24 2 16 (t 31) (t 37))) [],
u 9 (p 39 0 4) [],
u 10 (q (.store 1 (t 39) (t 38))) []]))
(r [a 28 6,
o 29 (N .add (t 28) (i 1)),
a 6 29])))))))
k))
(s (r [o 40 (.loadN 3 (t 4)),
q (.store 3 (t 2) (t 40))])
z)))))⟩

def ir36 : IFunc := ⟨[.tmp 2,.tmp 3],
(s (r [o 1 (.box 4 (t 0)),
o 2 (.mv (c (.string ⟨#[]⟩))),
o 3 (.mv (i 0))])
(s (s (r [o 7 (.loadN 4 (t 1)),
o 8 (.call (f 80) [(t 7)]),
a 4 8])
(s (r [a 9 4,
o 10 (N .neq (t 9) (i 0))])
(w (t 10) (s (r [a 11 4,
o 2 (.mv (c (.string ⟨#[]⟩))),
a 3 11])
z)
k)))
(s (r [p 12 1 1,
o 13 (.loadN 2 (t 12)),
o 14 (.call (f 81) [(t 13)]),
a 5 14])
(s (s (r [o 6 (.mv (i 0))])
(b 0 (lo (s (s (r [a 15 6,
p 16 0 1,
l 17 16,
o 18 (.len (t 17)),
o 19 (N .lss (t 15) (t 18))])
(w (t 19) k
(e 0)))
(s (b 1 (r [a 22 5,
p 23 0 1,
l 24 23,
a 25 6,
o 26 (.idxS 3 (t 24) (t 25)),
o 27 (.loadN 3 (t 26)),
o 28 (.call (f 82) [(t 27)]),
o 29 (.bin .str .add (c (.string ⟨#[59,32]⟩)) (t 28)),
o 30 (.bin .str .add (t 22) (t 29)),
a 5 30]))
(r [a 20 6,
o 21 (N .add (t 20) (i 1)),
a 6 21]))))))
(s (s (r [p 31 3 1,
l 32 31])
(w (t 32) (r [a 33 5,
o 34 (.bin .str .add (t 33) (c (.string ⟨#[59,32,106,117,109,112,115]⟩))),
a 5 34])
k))
(s (r [a 35 5,
a 2 35,
o 3 (.mv (i 0))])
z))))))⟩

def ir37 : IFunc := ⟨[.cellN 0 2],
(s (r [o 0 (.mk 31 [(.slice none 0 0),(.slice none 0 0)])])
(s (r [o 1 (.buildSlice 1 [(.slice none 0 0)] [(0,1,(c (.slice none 0 0)))]),
o 2 (.buildSlice 1 [(.bool false)] [(0,1,n)]),
o 3 (.build [(.slice none 0 0),(.slice none 0 0)] [(0,1,(t 1)),(1,1,(t 2))]),
q (.store 2 (t 0) (t 3))])
z))⟩

def ir38 : IFunc := ⟨[.cellN 2 2],
(s (r [o 1 (.box 2 (t 0)),
o 2 (.mk 31 [(.slice none 0 0),(.slice none 0 0)])])
(s (r [o 15 (.loadN 2 (t 1)),
o 16 (.call (f 83) [(t 15)]),
a 3 16])
(s (s (r [a 17 3,
o 18 (.idxS 1 (t 17) (i 0)),
l 19 18,
o 20 (.not (t 19))])
(w (t 20) (s (r [o 21 (.call (f 37) []),
q (.store 2 (t 2) (t 21))])
z)
k))
(s (r [o 22 (.loadN 2 (t 1)),
a 23 3,
o 24 (.call (f 84) [(t 22),(t 23)]),
a 4 24])
(s (s (r [a 25 4,
o 26 (.bin .slc .eql (t 25) (c (.slice none 0 0)))])
(w (t 26) (s (r [o 27 (.mkSlice 24 [(.slice none 0 0)] (i 401) (i 401)),
o 28 (.build [(.slice none 0 0),(.slice none 0 0)] [(0,1,(t 27))]),
q (.store 2 (t 2) (t 28))])
z)
k))
(s (r [o 5 (.mk 31 [(.slice none 0 0),(.slice none 0 0)])])
(s (r [o 29 (.buildSlice 1 [(.int .i64 0)] [(0,1,(i 0))]),
a 6 29])
(s (s (r [o 7 (.mv (i 0))])
(b 0 (lo (s (s (r [a 30 7,
a 31 6,
o 32 (.len (t 31)),
o 33 (N .lss (t 30) (t 32))])
(w (t 33) k
(e 0)))
(s (b 1 (s (r [o 8 (.mv (c (.slice none 0 0)))])
(s (d [u 0 (p 36 0 1) [],
u 1 (l 37 36) [],
u 2 (o 38 (.build [(.slice none 0 0),(.slice none 0 0),(.slice none 0 0)] [(0,1,(t 37))])) [],
u 3 (a 39 6) [],
u 4 (a 40 7) [],
u 5 (o 41 (.idxS 1 (t 39) (t 40))) [],
u 6 (l 42 41) [4],
u 7 (o 43 (.buildSlice 1 [(.int .i64 0)] [(0,1,(t 42))])) [5],
u 8 (o 44 (.call (f 85) [(t 38),(t 43)])) [],
u 9 (a 9 44) []])
(s (s (r [o 10 (.mv (i 0))])
(b 2 (lo (s (s (r [a 45 10,
a 46 9,
o 47 (.len (t 46)),
o 48 (N .lss (t 45) (t 47))])
(w (t 48) k
(e 2)))
(s (b 3 (s (r [o 11 (.mv (i (-1)))])
(s (s (r [o 12 (.mv (i 0))])
(b 4 (lo (s (s (d [u 0 (a 51 12) [],
u 1 (p 52 0 1) [],
u 2 (l 53 52) [],
u 3 (a 54 6) [],
u 4 (a 55 7) [],
u 5 (o 56 (.idxS 1 (t 54) (t 55))) [],
u 6 (l 57 56) [3],
u 7 (o 58 (.idxS 1 (t 53) (t 57))) [],
u 8 (l 59 58) [],
u 9 (o 60 (.len (t 59))) [],
u 10 (o 61 (N .lss (t 51) (t 60))) []])
(w (t 61) k
(e 4)))
(s (b 5 (s (d [u 0 (p 64 0 1) [],
u 1 (l 65 64) [],
u 2 (a 66 6) [],
u 3 (a 67 7) [],
u 4 (o 68 (.idxS 1 (t 66) (t 67))) [],
u 5 (l 69 68) [3],
u 6 (o 70 (.idxS 1 (t 65) (t 69))) [],
u 7 (l 71 70) [],
u 8 (a 72 12) [],
u 9 (o 73 (.idxS 5 (t 71) (t 72))) [],
u 10 (o 74 (.loadN 5 (t 73))) [],
u 11 (o 13 (.mk 97 [(.int .i64 0),(.int .i64 0),(.int .u8 0),(.int .i64 0),(.int .i64 0)])) [0,3,5,9],
u 12 (q (.store 5 (t 13) (t 74))) []])
(s (d [u 0 (p 75 0 13) [],
u 1 (o 76 (.loadN 4 (t 75))) [],
u 2 (a 77 9) [],
u 3 (a 78 10) [],
u 4 (o 79 (.idxS 4 (t 77) (t 78))) [],
u 5 (o 80 (.loadN 4 (t 79))) [3],
u 6 (o 81 (.eqF (.ag [(0,.num),(1,.num),(2,.num),(3,.num)]) false (t 76) (t 80))) [],
u 7 (a 82 81) [],
u 8 (g 83 82 true (.mv (t 3))) [],
u 9 (g 84 82 true (.faddr 4 (t 13))) [],
u 10 (g 85 82 true (.load1 (t 84))) [],
u 11 (g 86 82 true (.idxS 1 (t 83) (t 85))) [],
u 12 (g 87 82 true (.load1 (t 86))) [],
u 13 (o 88 (.pick (t 82) (t 87) n)) []])
(w (t 88) (r [p 89 4 13,
l 90 89,
a 11 90])
k))))
(r [a 62 12,
o 63 (N .add (t 62) (i 1)),
a 12 63]))))))
(s (s (r [a 91 11,
o 92 (N .lss (t 91) (i 0))])
(w (t 92) (e 3)
k))
(s (r [o 14 (.mv (i 0))])
(s (b 6 (lo (s (s (d [u 0 (a 93 14) [],
u 1 (a 94 6) [],
u 2 (o 95 (.len (t 94))) [],
u 3 (o 96 (N .lss (t 93) (t 95))) [],
u 4 (a 97 96) [],
u 5 (g 98 97 true (.mv (t 4))) [],
u 6 (g 99 97 true (.mv (t 6))) [],
u 7 (g 100 97 true (.mv (t 14))) [],
u 8 (g 101 97 true (.idxS 1 (t 99) (t 100))) [],
u 9 (g 102 97 true (.load1 (t 101))) [],
u 10 (g 103 97 true (.idxS 1 (t 98) (t 102))) [],
u 11 (g 104 97 true (.load1 (t 103))) [],
u 12 (g 105 97 true (.mv (t 4))) [],
u 13 (g 106 97 true (.mv (t 11))) [],
u 14 (g 107 97 true (.idxS 1 (t 105) (t 106))) [],
u 15 (g 108 97 true (.load1 (t 107))) [3,5],
u 16 (g 109 97 true (N .neq (t 104) (t 108))) [],
u 17 (o 110 (.pick (t 97) (t 109) n)) []])
(w (t 110) k
(e 6)))
(b 7 (r [a 111 14,
o 112 (N .add (t 111) (i 1)),
a 14 112])))))
(s (s (r [a 113 14,
a 114 6,
o 115 (.len (t 114)),
o 116 (N .eql (t 113) (t 115))])
(w (t 116) (r [a 117 6,
a 118 11,
o 119 (.buildSlice 1 [(.int .i64 0)] [(0,1,(t 118))]),
o 120 (.append 3 1 8 (t 117) (t 119)),
a 6 120])
k))
(r [a 121 8,
a 122 9,
a 123 10,
o 124 (.idxS 4 (t 122) (t 123)),
o 125 (.loadN 4 (t 124)),
a 126 14,
o 127 (.build [(.int .i64 0),(.int .i64 0),(.int .u8 0),(.int .i64 0),(.int .i64 0)] [(0,4,(t 125)),(4,1,(t 126))]),
o 128 (.buildSlice 1 [(.int .i64 0),(.int .i64 0),(.int .u8 0),(.int .i64 0),(.int .i64 0)] [(0,5,(t 127))]),
o 129 (.append 97 5 40 (t 121) (t 128)),
a 8 129]))))))))
(r [a 49 10,
o 50 (N .add (t 49) (i 1)),
a 10 50]))))))
(d [u 0 (p 130 0 5) [],
u 1 (l 131 130) [],
u 2 (a 132 8) [],
u 3 (o 133 (.buildSlice 1 [(.slice none 0 0)] [(0,1,(t 132))])) [1],
u 4 (o 134 (.append 93 1 24 (t 131) (t 133))) [],
u 5 (p 135 1 5) [],
u 6 (l 136 135) [1,2,4],
u 7 (p 137 1 1) [],
u 8 (l 138 137) [1,3,4,6],
u 9 (a 139 6) [],
u 10 (a 140 7) [],
u 11 (o 141 (.idxS 1 (t 139) (t 140))) [],
u 12 (l 142 141) [3,5,7,8,10],
u 13 (o 143 (.idxS 1 (t 138) (t 142))) [],
u 14 (l 144 143) [7,9,10,12],
u 15 (o 145 (.buildSlice 1 [(.bool false)] [(0,1,(t 144))])) [8,10,11,13],
u 16 (o 146 (.append 4 1 1 (t 136) (t 145))) [],
u 17 (p 147 0 5) [],
u 18 (q (.store 1 (t 147) (t 134))) [],
u 19 (p 148 1 5) [],
u 20 (q (.store 1 (t 148) (t 146))) []])))))
(r [a 34 7,
o 35 (N .add (t 34) (i 1)),
a 7 35]))))))
(s (r [o 149 (.loadN 2 (t 5)),
q (.store 2 (t 2) (t 149))])
z)))))))))⟩

def ir39 : IFunc := ⟨[.tmp 2],
(s (r [o 1 (.box 2 (t 0)),
o 2 (.mv n)])
(s (r [p 3 0 1,
l 4 3,
o 5 (.len (t 4)),
o 6 (N .gtr (t 5) (i 400)),
a 7 6,
g 8 7 false (.faddr 1 (t 1)),
g 9 7 false (.load1 (t 8)),
g 10 7 false (.len (t 9)),
g 11 7 false (N .gtr (t 10) (i 400)),
o 12 (.pick (t 7) y (t 11)),
a 13 12,
g 14 13 false (.faddr 0 (t 1)),
g 15 13 false (.load1 (t 14)),
g 16 13 false (.call (f 86) [(t 15)]),
g 17 13 false (N .gtr (t 16) (i 6000)),
o 18 (.pick (t 13) y (t 17)),
a 2 18])
z))⟩

def ir40 : IFunc := ⟨[.tmp 2,.tmp 3],
(s (r [o 2 (.mv (c (.slice none 0 0))),
o 3 (.mv (i 0))])
(s (r [o 4 (.mv (i 0))])
(s (s (r [o 5 (.mv (i 0))])
(b 0 (lo (s (s (r [a 11 5,
a 12 0,
o 13 (.lenStr (t 12)),
o 14 (N .lss (t 11) (t 13))])
(w (t 14) k
(e 0)))
(s (b 1 (s (r [a 17 0,
a 18 5,
o 19 (.idxStr (t 17) (t 18)),
o 20 (N .eql (t 19) (c (.int .u8 32)))])
(w (t 20) (r [a 21 4,
o 22 (N .add (t 21) (i 1)),
a 4 22])
k)))
(r [a 15 5,
o 16 (N .add (t 15) (i 1)),
a 5 16]))))))
(s (s (r [a 23 4,
o 24 (N .geq (t 23) (i 400))])
(w (t 24) (s (r [o 2 (.mv (c (.slice none 0 0))),
o 3 (.mv (i 5))])
z)
k))
(s (s (r [a 25 0,
o 26 (.bin .str .eql (t 25) (c (.string ⟨#[]⟩)))])
(w (t 26) (s (r [o 2 (.mv (c (.slice none 0 0))),
o 3 (.mv (i 0))])
z)
k))
(s (r [a 27 0,
o 28 (.call (f 33) [(t 27),(c (.string ⟨#[32]⟩))]),
a 6 28])
(s (r [o 7 (.mv (c (.slice none 0 0)))])
(s (s (r [o 8 (.mv (i 0))])
(b 2 (lo (s (s (r [a 29 8,
a 30 6,
o 31 (.len (t 30)),
o 32 (N .lss (t 29) (t 31))])
(w (t 32) k
(e 2)))
(s (b 3 (s (r [a 36 6,
a 37 8,
o 38 (.idxS 1 (t 36) (t 37)),
l 39 38,
o 40 (.call (f 41) [(t 39)]),
a 35 40,
o 41 (.extract 0 (t 35)),
o 42 (.extract 1 (t 35)),
o 9 (.mk 95 [(.int .i64 0),(.int .i64 0),(.int .u8 0),(.int .i64 0)]),
q (.store 4 (t 9) (t 41)),
a 10 42])
(s (s (r [a 43 10,
o 44 (N .neq (t 43) (i 0))])
(w (t 44) (s (r [a 45 10,
o 2 (.mv (c (.slice none 0 0))),
a 3 45])
z)
k))
(r [a 46 7,
o 47 (.loadN 4 (t 9)),
o 48 (.buildSlice 1 [(.int .i64 0),(.int .i64 0),(.int .u8 0),(.int .i64 0)] [(0,4,(t 47))]),
o 49 (.append 95 4 32 (t 46) (t 48)),
a 7 49]))))
(r [a 33 8,
o 34 (N .add (t 33) (i 1)),
a 8 34]))))))
(s (r [a 50 7,
a 2 50,
o 3 (.mv (i 0))])
z)))))))))⟩

def ir41 : IFunc := ⟨[.cellN 2 4,.tmp 3],
(s (r [o 2 (.mk 95 [(.int .i64 0),(.int .i64 0),(.int .u8 0),(.int .i64 0)]),
o 3 (.mv (i 0))])
(s (r [o 4 (.mk 95 [(.int .i64 0),(.int .i64 0),(.int .u8 0),(.int .i64 0)])])
(s (r [a 10 0,
a 5 10])
(s (r [a 12 5,
o 13 (.call (f 42) [(t 12)]),
a 11 13,
o 14 (.extract 0 (t 11)),
o 15 (.extract 1 (t 11)),
a 6 14,
a 7 15])
(s (d [u 0 (a 16 6) [],
u 1 (a 17 5) [],
u 2 (a 18 7) [],
u 3 (o 19 (.sliceStr (t 17) (some (t 18)) none)) [],
u 4 (p 20 0 4) [],
u 5 (q (.store 1 (t 20) (t 16))) [],
u 6 (a 5 19) []])
(s (s (r [a 21 5,
o 22 (.lenStr (t 21)),
o 23 (N .gtr (t 22) (i 0)),
a 24 23,
g 25 24 true (.mv (t 5)),
g 26 24 true (.idxStr (t 25) (i 0)),
g 27 24 true (N .eql (t 26) (c (.int .u8 46))),
o 28 (.pick (t 24) (t 27) n)])
(w (t 28) (s (r [a 30 5,
o 31 (.sliceStr (t 30) (some (i 1)) none),
o 32 (.call (f 42) [(t 31)]),
a 29 32,
o 33 (.extract 0 (t 29)),
o 34 (.extract 1 (t 29)),
a 6 33,
a 7 34])
(d [u 0 (a 35 6) [],
u 1 (a 36 5) [],
u 2 (a 37 7) [],
u 3 (o 38 (N .add (i 1) (t 37))) [],
u 4 (o 39 (.sliceStr (t 36) (some (t 38)) none)) [],
u 5 (p 40 1 4) [],
u 6 (q (.store 1 (t 40) (t 35))) [],
u 7 (a 5 39) []]))
k))
(s (s (r [a 41 5,
o 42 (.bin .str .eql (t 41) (c (.string ⟨#[]⟩)))])
(w (t 42) (s (r [o 43 (.build [(.int .i64 0),(.int .i64 0),(.int .u8 0),(.int .i64 0)] []),
q (.store 4 (t 2) (t 43)),
o 3 (.mv (i 4))])
z)
k))
(s (s (r [a 44 5,
o 45 (.idxStr (t 44) (i 0))])
(b 0 (s (r [o 47 (N .eql (t 45) (c (.int .u8 63))),
a 46 47])
(w (t 46) (r [p 48 2 4,
q (.store 1 (t 48) (c (.int .u8 1)))])
(s (r [o 50 (N .eql (t 45) (c (.int .u8 61))),
a 49 50])
(w (t 49) (r [p 51 2 4,
q (.store 1 (t 51) (c (.int .u8 2)))])
(s (r [o 53 (N .eql (t 45) (c (.int .u8 33))),
a 52 53])
(w (t 52) (r [p 54 2 4,
q (.store 1 (t 54) (c (.int .u8 3)))])
k))))))))
(s (r [a 56 5,
o 57 (.sliceStr (t 56) (some (i 1)) none),
o 58 (.call (f 42) [(t 57)]),
a 55 58,
o 59 (.extract 0 (t 55)),
o 60 (.extract 1 (t 55)),
p 61 3 4,
q (.store 1 (t 61) (t 59))])
(s (s (r [a 62 5,
o 63 (.bin .str .eql (t 62) (c (.string ⟨#[33,42]⟩)))])
(w (t 63) (r [p 64 3 4,
q (.store 1 (t 64) (i (-1)))])
k))
(s (s (r [o 66 (.loadN 4 (t 4)),
o 67 (.call (f 87) [(t 66)]),
a 65 67,
o 68 (.extract 0 (t 65)),
o 69 (.extract 1 (t 65)),
a 8 68,
a 9 69])
(s (r [a 70 9,
o 71 (N .neq (t 70) (i 0)),
a 72 71,
g 73 72 false (.mv (t 8)),
g 74 72 false (.mv (t 0)),
g 75 72 false (.bin .str .neq (t 73) (t 74)),
o 76 (.pick (t 72) y (t 75))])
(w (t 76) (s (r [o 77 (.build [(.int .i64 0),(.int .i64 0),(.int .u8 0),(.int .i64 0)] []),
q (.store 4 (t 2) (t 77)),
o 3 (.mv (i 4))])
z)
k)))
(s (r [o 78 (.loadN 4 (t 4)),
q (.store 4 (t 2) (t 78)),
o 3 (.mv (i 0))])
z))))))))))))⟩

def ir42 : IFunc := ⟨[.tmp 2,.tmp 3],
(s (r [o 2 (.mv (i 0)),
o 3 (.mv (i 0))])
(s (r [o 4 (.mv (i 0)),
o 5 (.mv (i 0))])
(s (b 0 (lo (s (s (r [a 6 5,
a 7 0,
o 8 (.lenStr (t 7)),
o 9 (N .lss (t 6) (t 8)),
a 10 9,
g 11 10 true (.mv (t 5)),
g 12 10 true (N .lss (t 11) (i 19)),
o 13 (.pick (t 10) (t 12) n),
a 14 13,
g 15 14 true (.mv (t 0)),
g 16 14 true (.mv (t 5)),
g 17 14 true (.idxStr (t 15) (t 16)),
g 18 14 true (N .geq (t 17) (c (.int .u8 48))),
o 19 (.pick (t 14) (t 18) n),
a 20 19,
g 21 20 true (.mv (t 0)),
g 22 20 true (.mv (t 5)),
g 23 20 true (.idxStr (t 21) (t 22)),
g 24 20 true (N .leq (t 23) (c (.int .u8 57))),
o 25 (.pick (t 20) (t 24) n)])
(w (t 25) k
(e 0)))
(b 1 (s (r [a 26 4,
o 27 (N .mul (i 10) (t 26)),
a 28 0,
a 29 5,
o 30 (.idxStr (t 28) (t 29)),
o 31 (N .sub (t 30) (c (.int .u8 48))),
o 32 (.conv .i64 (t 31)),
o 33 (N .add (t 27) (t 32)),
a 4 33])
(r [a 34 5,
o 35 (N .add (t 34) (i 1)),
a 5 35]))))))
(s (r [a 36 4,
a 37 5,
a 2 36,
a 3 37])
z))))⟩

def ir43 : IFunc := ⟨[.tmp 2,.tmp 3],
(s (r [o 1 (.box 2 (t 0)),
o 2 (.mv (c (.string ⟨#[]⟩))),
o 3 (.mv (i 0))])
(s (s (r [o 10 (.loadN 2 (t 1)),
o 11 (.call (f 88) [(t 10)]),
a 4 11])
(s (r [a 12 4,
o 13 (N .neq (t 12) (i 0))])
(w (t 13) (s (r [a 14 4,
o 2 (.mv (c (.string ⟨#[]⟩))),
a 3 14])
z)
k)))
(s (r [o 5 (.mv (c (.string ⟨#[]⟩)))])
(s (s (r [o 6 (.mv (i 0))])
(b 0 (lo (s (s (r [a 15 6,
p 16 0 1,
l 17 16,
o 18 (.len (t 17)),
o 19 (N .lss (t 15) (t 18))])
(w (t 19) k
(e 0)))
(s (b 1 (s (r [a 22 5,
a 23 6,
o 24 (.call (f 89) [(t 23)]),
o 25 (.bin .str .add (t 22) (t 24)),
a 5 25])
(s (s (r [p 26 1 1,
l 27 26,
a 28 6,
o 29 (.idxS 1 (t 27) (t 28)),
l 30 29])
(w (t 30) (r [a 31 5,
o 32 (.bin .str .add (t 31) (c (.string ⟨#[42]⟩))),
a 5 32])
k))
(s (s (r [o 7 (.mv (i 0))])
(b 2 (lo (s (s (r [a 33 7,
p 34 0 1,
l 35 34,
a 36 6,
o 37 (.idxS 1 (t 35) (t 36)),
l 38 37,
o 39 (.len (t 38)),
o 40 (N .lss (t 33) (t 39))])
(w (t 40) k
(e 2)))
(s (b 3 (s (r [p 44 0 1,
l 45 44,
a 46 6,
o 47 (.idxS 1 (t 45) (t 46)),
l 48 47,
a 49 7,
o 50 (.idxS 5 (t 48) (t 49)),
p 51 0 50,
o 52 (.loadN 4 (t 51)),
o 53 (.call (f 87) [(t 52)]),
a 43 53,
o 54 (.extract 0 (t 43)),
o 55 (.extract 1 (t 43)),
a 8 54,
a 9 55])
(s (s (r [a 56 9,
o 57 (N .neq (t 56) (i 0))])
(w (t 57) (s (r [a 58 9,
o 2 (.mv (c (.string ⟨#[]⟩))),
a 3 58])
z)
k))
(r [a 59 5,
a 60 8,
o 61 (.bin .str .add (c (.string ⟨#[32]⟩)) (t 60)),
o 62 (.bin .str .add (t 61) (c (.string ⟨#[62]⟩))),
p 63 0 1,
l 64 63,
a 65 6,
o 66 (.idxS 1 (t 64) (t 65)),
l 67 66,
a 68 7,
o 69 (.idxS 5 (t 67) (t 68)),
p 70 4 69,
l 71 70,
o 72 (.call (f 89) [(t 71)]),
o 73 (.bin .str .add (t 62) (t 72)),
o 74 (.bin .str .add (t 59) (t 73)),
a 5 74]))))
(r [a 41 7,
o 42 (N .add (t 41) (i 1)),
a 7 42]))))))
(r [a 75 5,
o 76 (.bin .str .add (t 75) (c (.string ⟨#[10]⟩))),
a 5 76])))))
(r [a 20 6,
o 21 (N .add (t 20) (i 1)),
a 6 21]))))))
(s (r [a 77 5,
a 2 77,
o 3 (.mv (i 0))])
z)))))⟩

def ir44 : IFunc := ⟨[.tmp 2],
(s (r [o 2 (.mv (i 0))])
(s (s (r [a 10 0,
o 11 (.len (t 10)),
o 12 (.mv (i 0))])
(b 0 (lo (s (r [o 13 (N .lss (t 12) (t 11))])
(s (w (t 13) k
(e 0))
(s (b 1 (s (r [o 14 (.idxS 2 (t 10) (t 12)),
o 15 (.loadN 2 (t 14)),
o 4 (.mk 31 [(.slice none 0 0),(.slice none 0 0)]),
q (.store 2 (t 4) (t 15))])
(s (r [o 16 (.loadN 2 (t 4)),
o 17 (.call (f 29) [(t 16)]),
a 5 17])
(s (r [a 18 5,
o 19 (N .neq (t 18) (i 0))])
(w (t 19) (s (r [a 20 5,
a 2 20])
z)
k)))))
(r [o 21 (N .add (t 12) (i 1)),
a 12 21])))))))
(s (s (r [a 22 0,
o 23 (.len (t 22)),
o 24 (.mv (i 0))])
(b 2 (lo (s (r [o 25 (N .lss (t 24) (t 23))])
(s (w (t 25) k
(e 2))
(s (b 3 (s (r [o 26 (.idxS 2 (t 22) (t 24)),
o 27 (.loadN 2 (t 26)),
o 7 (.mk 31 [(.slice none 0 0),(.slice none 0 0)]),
q (.store 2 (t 7) (t 27))])
(s (r [o 29 (.loadN 2 (t 7)),
o 30 (.call (f 45) [(t 29)]),
a 28 30,
o 31 (.extract 0 (t 28)),
o 32 (.extract 1 (t 28)),
a 8 31,
a 9 32])
(s (r [a 33 9,
o 34 (.not (t 33))])
(w (t 34) (s (r [o 2 (.mv (i 4))])
z)
k)))))
(r [o 35 (N .add (t 24) (i 1)),
a 24 35])))))))
(s (r [o 2 (.mv (i 0))])
z))))⟩

def ir45 : IFunc := ⟨[.tmp 2,.tmp 3],
(s (r [o 1 (.box 2 (t 0)),
o 2 (.mv (c (.slice none 0 0))),
o 3 (.mv n)])
(s (s (r [p 8 1 1,
l 9 8,
o 10 (.idxS 1 (t 9) (i 0)),
l 11 10])
(w (t 11) (s (r [o 2 (.mv (c (.slice none 0 0))),
o 3 (.mv n)])
z)
k))
(s (s (r [p 12 0 1,
l 13 12,
o 14 (.len (t 13)),
o 15 (.mv (i 0))])
(b 0 (lo (s (r [o 16 (N .lss (t 15) (t 14))])
(s (w (t 16) k
(e 0))
(s (b 1 (s (r [o 17 (.idxS 1 (t 13) (t 15)),
l 18 17,
a 5 18])
(s (r [a 19 5,
o 20 (.len (t 19)),
o 21 (.mv (i 0))])
(b 2 (lo (s (r [o 22 (N .lss (t 21) (t 20))])
(s (w (t 22) k
(e 2))
(s (b 3 (s (r [o 23 (.idxS 5 (t 19) (t 21)),
o 24 (.loadN 5 (t 23)),
o 7 (.mk 97 [(.int .i64 0),(.int .i64 0),(.int .u8 0),(.int .i64 0),(.int .i64 0)]),
q (.store 5 (t 7) (t 24))])
(s (s (d [u 0 (p 25 0 7) [],
u 1 (o 26 (.loadN 4 (t 25))) [],
u 2 (o 27 (.call (f 90) [(t 26)])) [],
u 3 (p 28 1 1) [],
u 4 (l 29 28) [1,2],
u 5 (p 30 4 7) [],
u 6 (l 31 30) [1,3,4],
u 7 (o 32 (.idxS 1 (t 29) (t 31))) [],
u 8 (l 33 32) [5,6],
u 9 (o 34 (.bin .boo .neq (t 27) (t 33))) [],
u 10 (a 35 34) [],
u 11 (g 36 35 false (.faddr 1 (t 1))) [],
u 12 (g 37 35 false (.load1 (t 36))) [],
u 13 (g 38 35 false (.faddr 4 (t 7))) [],
u 14 (g 39 35 false (.load1 (t 38))) [1],
u 15 (g 40 35 false (.idxS 1 (t 37) (t 39))) [],
u 16 (g 41 35 false (.load1 (t 40))) [],
u 17 (g 42 35 false (.mv (t 41))) [],
u 18 (g 43 42 true (.faddr 0 (t 1))) [],
u 19 (g 44 42 true (.load1 (t 43))) [],
u 20 (g 45 42 true (.faddr 4 (t 7))) [],
u 21 (g 46 42 true (.load1 (t 45))) [1],
u 22 (g 47 42 true (.idxS 1 (t 44) (t 46))) [],
u 23 (g 48 42 true (.load1 (t 47))) [],
u 24 (g 49 42 true (.len (t 48))) [],
u 25 (g 50 42 true (N .gtr (t 49) (i 0))) [],
u 26 (g 51 35 false (.pick (t 42) (t 50) n)) [],
u 27 (o 52 (.pick (t 35) y (t 51))) []])
(w (t 52) (s (r [o 2 (.mv (c (.slice none 0 0))),
o 3 (.mv n)])
z)
k))
(s (r [p 53 0 7,
o 54 (.loadN 4 (t 53)),
o 55 (.call (f 90) [(t 54)])])
(w (t 55) (r [a 56 2,
p 57 0 7,
p 58 3 57,
l 59 58,
o 60 (.buildSlice 1 [(.int .i64 0)] [(0,1,(t 59))]),
o 61 (.append 3 1 8 (t 56) (t 60)),
a 2 61])
k)))))
(r [o 62 (N .add (t 21) (i 1)),
a 21 62])))))))))
(r [o 63 (N .add (t 15) (i 1)),
a 15 63])))))))
(s (r [a 64 2,
o 65 (.call (f 91) [(t 64)])])
(s (r [a 66 2,
o 67 (.call (f 92) [(t 66)]),
a 2 67,
o 3 (.mv y)])
z)))))⟩

def ir46 : IFunc := ⟨[.cellN 2 3],
(s (r [o 2 (.mk 69 [(.slice none 0 0),(.slice none 0 0),(.bool false)])])
(s (r [a 6 0,
o 7 (.call (f 93) [(t 6)]),
a 5 7,
o 8 (.extract 0 (t 5)),
o 9 (.extract 1 (t 5)),
o 3 (.mk 31 [(.slice none 0 0),(.slice none 0 0)]),
q (.store 2 (t 3) (t 8)),
a 4 9])
(s (r [o 10 (.loadN 2 (t 3)),
a 11 4,
o 12 (.build [(.slice none 0 0),(.slice none 0 0),(.bool false)] [(0,2,(t 10)),(2,1,(t 11))]),
q (.store 3 (t 2) (t 12))])
z)))⟩

def ir47 : IFunc := ⟨[.tmp 6],
(s (r [o 3 (.box 2 (t 0)),
o 5 (.box 1 (t 2)),
o 6 (.mv (c (.pointer none)))])
(s (r [o 14 (.buildSlice 1 [(.int .i64 0)] [(0,1,(i 0))]),
o 15 (.build [(.slice none 0 0),(.slice none 0 0)] [(1,1,(t 14))]),
o 16 (.box 2 (t 15)),
a 7 16])
(s (r [o 8 (.mk 167 [(.slice none 0 0)])])
(s (r [a 17 7,
o 18 (.loadN 2 (t 3)),
o 19 (.mkfn (.func 94) [] [(t 5),(t 8)]),
o 20 (.call (f 53) [(t 17),(t 18),(t 19)])])
(s (r [o 9 (.mv (c (.slice none 0 0)))])
(s (s (r [a 21 1,
o 22 (.len (t 21)),
o 23 (.mv (i 0))])
(b 0 (lo (s (r [o 24 (N .lss (t 23) (t 22))])
(s (w (t 24) k
(e 0))
(s (b 1 (s (r [o 25 (.idxS 2 (t 21) (t 23)),
o 26 (.loadN 2 (t 25)),
o 11 (.mk 31 [(.slice none 0 0),(.slice none 0 0)]),
q (.store 2 (t 11) (t 26))])
(r [a 27 9,
a 28 7,
o 29 (.loadN 2 (t 11)),
o 30 (.call (f 53) [(t 28),(t 29),(f 54)]),
o 31 (.buildSlice 1 [(.int .i64 0)] [(0,1,(t 30))]),
o 32 (.append 3 1 8 (t 27) (t 31)),
a 9 32])))
(r [o 33 (N .add (t 23) (i 1)),
a 23 33])))))))
(s (s (r [l 34 8,
o 35 (.len (t 34)),
o 36 (.mv (i 0))])
(b 2 (lo (s (r [o 37 (N .lss (t 36) (t 35))])
(s (w (t 37) k
(e 2))
(s (b 3 (s (r [o 38 (.idxS 2 (t 34) (t 36)),
o 39 (.loadN 2 (t 38)),
o 13 (.mk 169 [(.int .i64 0),(.int .i64 0)]),
q (.store 2 (t 13) (t 39))])
(d [u 0 (a 40 7) [],
u 1 (p 41 0 13) [],
u 2 (l 42 41) [],
u 3 (a 43 9) [],
u 4 (p 44 1 13) [],
u 5 (l 45 44) [2],
u 6 (o 46 (.idxS 1 (t 43) (t 45))) [],
u 7 (l 47 46) [4],
u 8 (o 48 (.call (f 95) [(t 40),(t 42),(t 47)])) []])))
(r [o 49 (N .add (t 36) (i 1)),
a 36 49])))))))
(s (r [a 50 7,
a 6 50])
z))))))))⟩

def ir49 : IFunc := ⟨[.cellN 0 2],
(s (r [o 0 (.mk 116 [(.int .u8 0),(.int .i64 0)])])
(s (r [o 1 (.build [(.int .u8 0),(.int .i64 0)] [(0,1,(c (.int .u8 1)))]),
q (.store 2 (t 0) (t 1))])
z))⟩

def ir50 : IFunc := ⟨[.tmp 6,.tmp 7],
(s (r [o 3 (.box 2 (t 0)),
o 5 (.box 4 (t 2)),
o 6 (.mv (i 0)),
o 7 (.mv n)])
(s (s (r [p 10 0 3,
l 11 10,
a 12 1,
o 13 (.idxS 1 (t 11) (t 12)),
l 14 13,
o 15 (.len (t 14)),
o 16 (.mv (i 0))])
(b 0 (lo (s (r [o 17 (N .lss (t 16) (t 15))])
(s (w (t 17) k
(e 0))
(s (b 1 (s (r [o 18 (.idxS 5 (t 14) (t 16)),
o 19 (.loadN 5 (t 18)),
o 9 (.mk 97 [(.int .i64 0),(.int .i64 0),(.int .u8 0),(.int .i64 0),(.int .i64 0)]),
q (.store 5 (t 9) (t 19))])
(s (r [p 20 0 9,
o 21 (.loadN 4 (t 20)),
o 22 (.loadN 4 (t 5)),
o 23 (.eqF (.ag [(0,.num),(1,.num),(2,.num),(3,.num)]) false (t 21) (t 22))])
(w (t 23) (s (r [p 24 4 9,
l 25 24,
a 6 25,
o 7 (.mv y)])
z)
k))))
(r [o 26 (N .add (t 16) (i 1)),
a 16 26])))))))
(s (r [o 6 (.mv (i 0)),
o 7 (.mv n)])
z)))⟩

def ir51 : IFunc := ⟨[.cellN 6 4],
(s (r [o 3 (.box 2 (t 0)),
o 6 (.mk 95 [(.int .i64 0),(.int .i64 0),(.int .u8 0),(.int .i64 0)])])
(s (r [a 7 1,
a 8 2,
p 9 0 3,
l 10 9,
p 11 1 3,
l 12 11,
o 13 (.build [(.int .i64 0),(.int .i64 0),(.int .u8 0),(.int .i64 0)] [(0,1,(t 7)),(1,1,(t 8)),(2,1,(t 10)),(3,1,(t 12))]),
q (.store 4 (t 6) (t 13))])
z))⟩

def ir52 : IFunc := ⟨[.cellN 0 2],
(s (r [o 0 (.mk 31 [(.slice none 0 0),(.slice none 0 0)])])
(s (r [o 1 (.buildSlice 1 [(.slice none 0 0)] [(0,1,(c (.slice none 0 0)))]),
o 2 (.buildSlice 1 [(.bool false)] [(0,1,n)]),
o 3 (.build [(.slice none 0 0),(.slice none 0 0)] [(0,1,(t 1)),(1,1,(t 2))]),
q (.store 2 (t 0) (t 3))])
z))⟩

def ir53 : IFunc := ⟨[.tmp 6],
(s (r [o 4 (.box 2 (t 1)),
o 6 (.mv (i 0))])
(s (r [a 14 0,
o 15 (.nilCheck (t 14)),
p 16 0 15,
l 17 16,
o 18 (.len (t 17)),
a 7 18])
(s (s (r [p 19 1 4,
l 20 19,
o 21 (.len (t 20)),
o 22 (.mv (i 0))])
(b 0 (lo (s (r [o 23 (N .lss (t 22) (t 21))])
(s (w (t 23) k
(e 0))
(s (b 1 (s (r [o 24 (.idxS 1 (t 20) (t 22)),
l 25 24,
a 9 25])
(r [a 26 0,
a 27 9,
o 28 (.call (f 62) [(t 26),(t 27)])])))
(r [o 29 (N .add (t 22) (i 1)),
a 22 29])))))))
(s (s (r [p 30 0 4,
l 31 30,
o 32 (.len (t 31)),
o 33 (.mv (i 0))])
(b 2 (lo (s (r [o 34 (N .lss (t 33) (t 32))])
(s (w (t 34) k
(e 2))
(s (b 3 (s (r [a 35 33,
o 36 (.idxS 1 (t 31) (t 33)),
l 37 36,
a 10 35,
a 11 37])
(s (r [a 38 11,
o 39 (.len (t 38)),
o 40 (.mv (i 0))])
(b 4 (lo (s (r [o 41 (N .lss (t 40) (t 39))])
(s (w (t 41) k
(e 4))
(s (b 5 (s (r [o 42 (.idxS 5 (t 38) (t 40)),
o 43 (.loadN 5 (t 42)),
o 13 (.mk 97 [(.int .i64 0),(.int .i64 0),(.int .u8 0),(.int .i64 0),(.int .i64 0)]),
q (.store 5 (t 13) (t 43))])
(s (r [p 44 0 13,
o 45 (.loadN 4 (t 44)),
o 46 (.call (f 90) [(t 45)]),
o 47 (.not (t 46)),
a 48 47,
g 49 48 false (.mv (t 2)),
g 50 48 false (.mv (t 7)),
g 51 48 false (.mv (t 10)),
g 52 48 false (N .add (t 50) (t 51)),
g 53 48 false (.faddr 0 (t 13)),
g 54 48 false (.faddr 3 (t 53)),
g 55 48 false (.load1 (t 54)),
g 56 48 false (.mv (t 7)),
g 57 48 false (.faddr 4 (t 13)),
g 58 48 false (.load1 (t 57)),
g 59 48 false (N .add (t 56) (t 58)),
g 60 48 false (.call (t 49) [(t 52),(t 55),(t 59)]),
g 61 48 false (.not (t 60)),
o 62 (.pick (t 48) y (t 61))])
(w (t 62) (r [a 63 0,
a 64 7,
a 65 10,
o 66 (N .add (t 64) (t 65)),
p 67 0 13,
o 68 (.loadN 4 (t 67)),
a 69 7,
p 70 4 13,
l 71 70,
o 72 (N .add (t 69) (t 71)),
o 73 (.call (f 65) [(t 63),(t 66),(t 68),(t 72)])])
k))))
(r [o 74 (N .add (t 40) (i 1)),
a 40 74])))))))))
(r [o 75 (N .add (t 33) (i 1)),
a 33 75])))))))
(s (r [a 76 7,
a 6 76])
z)))))⟩

def ir54 : IFunc := ⟨[.tmp 6],
(s (r [o 6 (.mv n)])
(s (r [o 6 (.mv n)])
z))⟩

def ir55 : IFunc := ⟨[.tmp 4],
(s (r [o 2 (.box 2 (t 0)),
o 3 (.box 3 (t 1)),
o 4 (.mv (c (.pointer none)))])
(s (r [p 19 2 3,
l 20 19,
o 21 (.buildSlice 1 [(.int .i64 0)] [(0,1,(t 20))]),
o 22 (.build [(.slice none 0 0),(.slice none 0 0)] [(1,1,(t 21))]),
o 23 (.box 2 (t 22)),
a 5 23])
(s (s (r [p 24 1 2,
l 25 24,
o 26 (.len (t 25)),
o 27 (.mv (i 0))])
(b 0 (lo (s (r [o 28 (N .lss (t 27) (t 26))])
(s (w (t 28) k
(e 0))
(s (b 1 (s (r [o 29 (.idxS 1 (t 25) (t 27)),
l 30 29,
a 7 30])
(s (r [p 31 1 3,
l 32 31,
o 33 (.mv (i 0))])
(b 2 (lo (s (r [o 34 (N .lss (t 33) (t 32))])
(s (w (t 34) k
(e 2))
(s (b 3 (r [a 35 5,
a 36 7,
o 37 (.call (f 62) [(t 35),(t 36)])]))
(r [o 38 (N .add (t 33) (i 1)),
a 33 38])))))))))
(r [o 39 (N .add (t 27) (i 1)),
a 27 39])))))))
(s (r [o 40 (.mkfn (.func 96) [] [(t 3)]),
a 8 40])
(s (s (r [p 41 0 2,
l 42 41,
o 43 (.len (t 42)),
o 44 (.mv (i 0))])
(b 4 (lo (s (r [o 45 (N .lss (t 44) (t 43))])
(s (w (t 45) k
(e 4))
(s (b 5 (s (r [a 46 44,
o 47 (.idxS 1 (t 42) (t 44)),
l 48 47,
a 9 46,
a 10 48])
(s (r [a 49 10,
o 50 (.len (t 49)),
o 51 (.mv (i 0))])
(b 6 (lo (s (r [o 52 (N .lss (t 51) (t 50))])
(s (w (t 52) k
(e 6))
(s (b 7 (s (r [o 53 (.idxS 5 (t 49) (t 51)),
o 54 (.loadN 5 (t 53)),
o 12 (.mk 97 [(.int .i64 0),(.int .i64 0),(.int .u8 0),(.int .i64 0),(.int .i64 0)]),
q (.store 5 (t 12) (t 54))])
(s (r [p 55 1 3,
l 56 55,
o 57 (.mv (i 0))])
(b 8 (lo (s (r [o 58 (N .lss (t 57) (t 56))])
(s (w (t 58) k
(e 8))
(s (b 9 (s (r [a 59 57,
a 13 59])
(s (s (r [p 60 0 12,
p 61 0 60,
l 62 61,
p 63 0 3,
l 64 63,
o 65 (N .neq (t 62) (t 64))])
(w (t 65) (s (d [u 1 (a 67 8) [],
u 2 (a 68 9) [],
u 3 (a 69 13) [],
u 4 (o 70 (.call (t 67) [(t 68),(t 69)])) [],
u 7 (a 73 8) [],
u 8 (p 74 4 12) [],
u 9 (l 75 74) [2],
u 10 (a 76 13) [],
u 11 (o 77 (.call (t 73) [(t 75),(t 76)])) [],
u 0 (a 66 5) [],
u 5 (p 71 0 12) [],
u 6 (o 72 (.loadN 4 (t 71))) [2,4,7],
u 12 (o 78 (.call (f 65) [(t 66),(t 70),(t 72),(t 77)])) []])
(e 9))
k))
(s (r [a 79 13,
a 80 13,
a 14 79,
a 15 80])
(s (s (r [p 81 0 12,
p 82 2 81,
l 83 82,
o 84 (N .eql (t 83) (c (.int .u8 2)))])
(w (t 84) (r [p 85 0 12,
p 86 3 85,
l 87 86,
a 14 87,
o 15 (.mv (i 0))])
k))
(s (r [p 88 0 12,
p 89 2 88,
l 90 89,
o 91 (N .eql (t 90) (c (.int .u8 1))),
a 92 91,
g 93 92 false (.faddr 0 (t 12)),
g 94 92 false (.faddr 2 (t 93)),
g 95 92 false (.load1 (t 94)),
g 96 92 false (N .eql (t 95) (c (.int .u8 2))),
o 97 (.pick (t 92) y (t 96)),
a 16 97])
(s (d [u 3 (p 102 0 3) [],
u 4 (l 103 102) [],
u 5 (a 104 15) [],
u 6 (o 105 (.call (f 97) [(t 103),(i 0),(t 104)])) [],
u 0 (o 99 (.loadN 2 (t 2))) [0,2],
u 1 (p 100 4 12) [],
u 2 (l 101 100) [1,2,4],
u 7 (o 106 (.call (f 50) [(t 99),(t 101),(t 105)])) [],
u 8 (a 98 106) [],
u 9 (o 107 (.extract 0 (t 98))) [],
u 10 (o 108 (.extract 1 (t 98))) [],
u 11 (a 17 107) [],
u 12 (a 18 108) []])
(s (r [a 109 18,
a 110 109,
g 111 110 true (.mv (t 16)),
o 112 (.pick (t 110) (t 111) n),
a 113 112,
g 114 113 true (.faddr 0 (t 12)),
g 115 113 true (.faddr 1 (t 114)),
g 116 113 true (.load1 (t 115)),
g 117 113 true (N .eql (t 116) (i 0)),
o 118 (.pick (t 113) (t 117) n),
a 119 118,
g 120 119 true (.mv (t 14)),
g 121 119 true (N .geq (t 120) (i 0)),
o 122 (.pick (t 119) (t 121) n),
a 123 122,
g 124 123 true (.mv (t 14)),
g 125 123 true (.faddr 1 (t 3)),
g 126 123 true (.load1 (t 125)),
g 127 123 true (N .lss (t 124) (t 126)),
o 128 (.pick (t 123) (t 127) n)])
(w (t 128) (r [a 129 5,
a 130 8,
a 131 9,
a 132 13,
o 133 (.call (t 130) [(t 131),(t 132)]),
a 134 8,
a 135 17,
a 136 14,
o 137 (.call (t 134) [(t 135),(t 136)]),
o 138 (.call (f 95) [(t 129),(t 133),(t 137)])])
k)))))))))
(r [o 139 (N .add (t 57) (i 1)),
a 57 139])))))))))
(r [o 140 (N .add (t 51) (i 1)),
a 51 140])))))))))
(r [o 141 (N .add (t 44) (i 1)),
a 44 141])))))))
(s (r [a 142 5,
a 4 142])
z))))))⟩

def ir56 : IFunc := ⟨[.tmp 6,.tmp 7],
(s (r [o 3 (.box 4 (t 0)),
o 4 (.box 5 (t 1)),
o 6 (.mv n),
o 7 (.mv (i 0))])
(s (r [o 11 (.loadN 4 (t 3)),
o 12 (.loadN 5 (t 4)),
o 13 (.call (f 5) [(t 11),(t 12)]),
a 10 13,
o 14 (.extract 0 (t 10)),
o 15 (.extract 1 (t 10)),
o 8 (.mk 31 [(.slice none 0 0),(.slice none 0 0)]),
q (.store 2 (t 8) (t 14)),
a 9 15])
(s (s (r [a 16 9,
o 17 (N .neq (t 16) (i 0))])
(w (t 17) (s (r [a 18 9,
o 6 (.mv n),
a 7 18])
z)
k))
(s (r [o 19 (.loadN 2 (t 8)),
a 20 2,
o 21 (.call (f 98) [(t 19),(t 20)]),
o 22 (.extract 0 (t 21)),
o 23 (.extract 1 (t 21)),
a 6 22,
a 7 23])
z))))⟩

def ir57 : IFunc := ⟨[.tmp 4,.tmp 5],
(s (r [o 2 (.box 2 (t 0)),
o 4 (.mv (c (.slice none 0 0))),
o 5 (.mv (i 0))])
(s (s (r [o 14 (.loadN 2 (t 2)),
o 15 (.call (f 29) [(t 14)]),
a 6 15])
(s (r [a 16 6,
o 17 (N .neq (t 16) (i 0))])
(w (t 17) (s (r [a 18 6,
o 4 (.mv (c (.slice none 0 0))),
a 5 18])
z)
k)))
(s (s (r [a 19 1,
o 20 (.len (t 19)),
o 21 (N .gtr (t 20) (i 400))])
(w (t 21) (s (r [o 4 (.mv (c (.slice none 0 0))),
o 5 (.mv (i 5))])
z)
k))
(s (r [o 7 (.mv (i 0))])
(s (s (r [a 22 1,
o 23 (.len (t 22)),
o 24 (.mv (i 0))])
(b 0 (lo (s (r [o 25 (N .lss (t 24) (t 23))])
(s (w (t 25) k
(e 0))
(s (b 1 (s (r [o 26 (.idxS 4 (t 22) (t 24)),
o 27 (.loadN 4 (t 26)),
o 9 (.mk 95 [(.int .i64 0),(.int .i64 0),(.int .u8 0),(.int .i64 0)]),
q (.store 4 (t 9) (t 27))])
(s (r [o 29 (.loadN 2 (t 2)),
a 30 7,
o 31 (.loadN 4 (t 9)),
o 32 (.call (f 50) [(t 29),(t 30),(t 31)]),
a 28 32,
o 33 (.extract 0 (t 28)),
o 34 (.extract 1 (t 28)),
a 10 33,
a 11 34])
(s (s (r [a 35 11,
o 36 (.not (t 35))])
(w (t 36) (s (r [o 4 (.mv (c (.slice none 0 0))),
o 5 (.mv (i 0))])
z)
k))
(r [a 37 10,
a 7 37])))))
(r [o 38 (N .add (t 24) (i 1)),
a 24 38])))))))
(s (s (r [p 39 0 2,
l 40 39,
a 41 7,
o 42 (.idxS 1 (t 40) (t 41)),
l 43 42,
o 44 (.len (t 43)),
o 45 (.mv (i 0))])
(b 2 (lo (s (r [o 46 (N .lss (t 45) (t 44))])
(s (w (t 46) k
(e 2))
(s (b 3 (s (r [o 47 (.idxS 5 (t 43) (t 45)),
o 48 (.loadN 5 (t 47)),
o 13 (.mk 97 [(.int .i64 0),(.int .i64 0),(.int .u8 0),(.int .i64 0),(.int .i64 0)]),
q (.store 5 (t 13) (t 48))])
(r [a 49 4,
p 50 0 13,
o 51 (.loadN 4 (t 50)),
o 52 (.buildSlice 1 [(.int .i64 0),(.int .i64 0),(.int .u8 0),(.int .i64 0)] [(0,4,(t 51))]),
o 53 (.append 95 4 32 (t 49) (t 52)),
a 4 53])))
(r [o 54 (N .add (t 45) (i 1)),
a 45 54])))))))
(s (r [a 55 4,
a 4 55,
o 5 (.mv (i 0))])
z)))))))⟩

def ir58 : IFunc := ⟨[.tmp 2],
(s (r [o 1 (.box 4 (t 0)),
o 2 (.mv (i 0))])
(s (r [o 3 (.mv (f 99))])
(s (r [o 4 (.mv (f 100))])
(s (b 0 (s (r [p 6 0 1,
l 7 6,
o 8 (.len (t 7)),
o 9 (N .gtr (t 8) (i 8)),
a 10 9,
g 11 10 false (.faddr 0 (t 1)),
g 12 10 false (.load1 (t 11)),
g 13 10 false (.mv (t 3)),
g 14 10 false (.call (f 102) [(t 12),(t 13)]),
o 15 (.pick (t 10) y (t 14)),
a 5 15])
(w (t 5) (s (r [o 2 (.mv (i 5))])
z)
(s (r [p 17 1 1,
o 18 (.loadN 2 (t 17)),
o 19 (.call (f 103) [(t 18)]),
o 20 (.not (t 19)),
a 21 20,
g 22 21 false (.faddr 0 (t 1)),
g 23 21 false (.load1 (t 22)),
g 24 21 false (.mv (t 4)),
g 25 21 false (.call (f 102) [(t 23),(t 24)]),
o 26 (.pick (t 21) y (t 25)),
a 16 26])
(w (t 16) (s (r [o 2 (.mv (i 4))])
z)
k)))))
(s (r [o 2 (.mv (i 0))])
z)))))⟩

def ir59 : IFunc := ⟨[.tmp 2],
(s (r [o 1 (.box 5 (t 0)),
o 2 (.mv (i 0))])
(s (r [o 3 (.mv (i 1))])
(s (s (r [p 6 4 1,
l 7 6,
o 8 (.len (t 7)),
o 9 (.mv (i 0))])
(b 0 (lo (s (r [o 10 (N .lss (t 9) (t 8))])
(s (w (t 10) k
(e 0))
(s (b 1 (s (r [o 11 (.idxS 5 (t 7) (t 9)),
o 12 (.loadN 5 (t 11)),
o 5 (.mk 37 [(.int .u8 0),(.int .i64 0),(.int .i64 0),(.int .i64 0),(.slice none 0 0)]),
q (.store 5 (t 5) (t 12))])
(s (s (r [a 13 3,
o 14 (N .gtr (t 13) (i 600))])
(w (t 14) (e 0)
k))
(r [a 15 3,
o 16 (.loadN 5 (t 5)),
o 17 (.call (f 59) [(t 16)]),
o 18 (N .add (t 15) (t 17)),
a 3 18]))))
(r [o 19 (N .add (t 9) (i 1)),
a 9 19])))))))
(s (r [a 20 3,
a 2 20])
z))))⟩

def ir60 : IFunc := ⟨[.tmp 0],
(s (r [o 0 (.mv (c (.map none)))])
(s (r [o 1 (.mkmap),
o 2 (.build [(.bool false),(.bool false),(.bool false),(.int .i64 0)] [(0,1,y),(1,1,y)]),
q (.insert (.sc .num) (t 1) (c (.int .u8 1)) (t 2)),
o 3 (.build [(.bool false),(.bool false),(.bool false),(.int .i64 0)] [(2,1,y),(3,1,(i (-1)))]),
q (.insert (.sc .num) (t 1) (c (.int .u8 2)) (t 3)),
o 4 (.build [(.bool false),(.bool false),(.bool false),(.int .i64 0)] [(2,1,y)]),
q (.insert (.sc .num) (t 1) (c (.int .u8 3)) (t 4)),
o 5 (.build [(.bool false),(.bool false),(.bool false),(.int .i64 0)] [(2,1,y),(3,1,(i 1))]),
q (.insert (.sc .num) (t 1) (c (.int .u8 4)) (t 5)),
o 6 (.build [(.bool false),(.bool false),(.bool false),(.int .i64 0)] [(0,1,y),(1,1,y),(3,1,(i 2))]),
q (.insert (.sc .num) (t 1) (c (.int .u8 5)) (t 6)),
o 7 (.build [(.bool false),(.bool false),(.bool false),(.int .i64 0)] [(0,1,y),(3,1,(i 1))]),
q (.insert (.sc .num) (t 1) (c (.int .u8 6)) (t 7)),
o 8 (.build [(.bool false),(.bool false),(.bool false),(.int .i64 0)] [(3,1,(i 2))]),
q (.insert (.sc .num) (t 1) (c (.int .u8 7)) (t 8)),
o 9 (.build [(.bool false),(.bool false),(.bool false),(.int .i64 0)] [(3,1,(i 3))]),
q (.insert (.sc .num) (t 1) (c (.int .u8 8)) (t 9)),
o 10 (.build [(.bool false),(.bool false),(.bool false),(.int .i64 0)] [(3,1,(i 2))]),
q (.insert (.sc .num) (t 1) (c (.int .u8 9)) (t 10)),
o 11 (.build [(.bool false),(.bool false),(.bool false),(.int .i64 0)] [(0,1,y),(1,1,y),(3,1,(i 1))]),
q (.insert (.sc .num) (t 1) (c (.int .u8 10)) (t 11)),
o 12 (.build [(.bool false),(.bool false),(.bool false),(.int .i64 0)] [(3,1,(i 2))]),
q (.insert (.sc .num) (t 1) (c (.int .u8 11)) (t 12)),
o 13 (.build [(.bool false),(.bool false),(.bool false),(.int .i64 0)] [(0,1,y)]),
q (.insert (.sc .num) (t 1) (c (.int .u8 12)) (t 13)),
o 14 (.build [(.bool false),(.bool false),(.bool false),(.int .i64 0)] [(3,1,(i 2))]),
q (.insert (.sc .num) (t 1) (c (.int .u8 13)) (t 14)),
o 15 (.build [(.bool false),(.bool false),(.bool false),(.int .i64 0)] []),
q (.insert (.sc .num) (t 1) (c (.int .u8 14)) (t 15)),
o 16 (.build [(.bool false),(.bool false),(.bool false),(.int .i64 0)] [(2,1,y)]),
q (.insert (.sc .num) (t 1) (c (.int .u8 15)) (t 16)),
o 17 (.build [(.bool false),(.bool false),(.bool false),(.int .i64 0)] [(2,1,y)]),
q (.insert (.sc .num) (t 1) (c (.int .u8 16)) (t 17)),
o 18 (.build [(.bool false),(.bool false),(.bool false),(.int .i64 0)] [(3,1,(i 2))]),
q (.insert (.sc .num) (t 1) (c (.int .u8 17)) (t 18)),
o 19 (.build [(.bool false),(.bool false),(.bool false),(.int .i64 0)] [(0,1,y),(2,1,y),(3,1,(i 1))]),
q (.insert (.sc .num) (t 1) (c (.int .u8 18)) (t 19)),
a 20 1,
a 0 20])
z))⟩

def ir61 : IFunc := ⟨[.tmp 6],
(s (r [o 3 (.box 4 (t 0)),
o 4 (.box 5 (t 1)),
o 5 (.box 2 (t 2)),
o 6 (.mv n)])
(s (s (r [p 9 0 5,
l 10 9,
o 11 (.not (t 10))])
(w (t 11) (s (r [o 12 (.loadN 4 (t 3)),
o 13 (.loadN 5 (t 4)),
p 14 1 5,
l 15 14,
o 16 (.call (f 104) [(t 12),(t 13),(t 15)]),
a 6 16])
z)
k))
(s (s (r [o 17 (.loadN 4 (t 3)),
o 18 (.loadN 5 (t 4)),
o 19 (.call (f 105) [(t 17),(t 18)]),
o 20 (.not (t 19))])
(w (t 20) (s (r [o 6 (.mv n)])
z)
k))
(s (s (r [p 21 0 4,
l 22 21])
(b 0 (s (r [o 24 (N .eql (t 22) (c (.int .u8 16))),
a 23 24])
(w (t 23) (s (r [o 26 (.loadN 4 (t 3)),
p 27 3 4,
l 28 27,
o 29 (.call (f 106) [(t 26),(t 28)]),
a 25 29,
o 30 (.extract 0 (t 25)),
o 31 (.extract 1 (t 25)),
a 7 30,
a 8 31])
(s (r [a 32 8,
a 33 32,
g 34 33 true (.mv (t 7)),
g 35 33 true (.faddr 1 (t 5)),
g 36 33 true (.load1 (t 35)),
g 37 33 true (N .eql (t 34) (t 36)),
o 38 (.pick (t 33) (t 37) n),
a 6 38])
z))
(s (r [o 40 (N .eql (t 22) (c (.int .u8 17))),
a 39 40])
(w (t 39) (s (d [u 0 (o 41 (.loadN 4 (t 3))) [],
u 1 (p 42 4 4) [],
u 2 (l 43 42) [1],
u 3 (o 44 (.idxS 5 (t 43) (i 0))) [],
u 4 (o 45 (.loadN 5 (t 44))) [3],
u 5 (p 46 1 5) [],
u 6 (l 47 46) [1,3,5],
u 7 (o 48 (.call (f 104) [(t 41),(t 45),(t 47)])) [],
u 8 (a 49 48) [],
u 9 (g 50 49 true (.loadN 4 (t 3))) [],
u 10 (g 51 49 true (.faddr 1 (t 5))) [],
u 11 (g 52 49 true (.load1 (t 51))) [1],
u 12 (g 53 49 true (.build [(.bool false),(.int .i64 0)] [(1,1,(t 52))])) [],
u 13 (g 54 49 true (.build [(.slice none 0 0),(.bool false),(.int .i64 0)] [(1,2,(t 53))])) [],
u 14 (g 55 49 true (.build [(.slice none 0 0),(.bool false),(.int .i64 0),(.bool false)] [(0,3,(t 54)),(3,1,y)])) [],
u 15 (g 56 49 true (.call (f 107) [(t 50),(t 55)])) [],
u 16 (g 57 49 true (.faddr 4 (t 4))) [],
u 17 (g 58 49 true (.load1 (t 57))) [1,5,7],
u 18 (g 59 49 true (.idxS 5 (t 58) (i 1))) [],
u 19 (g 60 49 true (.loadN 5 (t 59))) [3,7,9],
u 20 (g 61 49 true (.call (f 104) [(t 56),(t 60),(i 1)])) [],
u 21 (o 62 (.pick (t 49) (t 61) n)) [],
u 22 (a 6 62) []])
z)
k))))))
(s (r [o 6 (.mv n)])
z)))))⟩

def ir62 : IFunc := ⟨[.tmp 4],
(s (r [o 4 (.mv (i 0))])
(s (r [a 5 0,
a 6 0,
o 7 (.nilCheck (t 6)),
p 8 0 7,
l 9 8,
a 10 1,
o 11 (.build [(.slice none 0 0),(.slice none 0 0),(.bool false)] [(2,1,(t 10))]),
o 12 (.buildSlice 1 [(.slice none 0 0),(.slice none 0 0),(.bool false)] [(0,3,(t 11))]),
o 13 (.append 183 3 56 (t 9) (t 12)),
o 14 (.nilCheck (t 5)),
p 15 0 14,
q (.store 1 (t 15) (t 13))])
(s (r [a 16 0,
o 17 (.nilCheck (t 16)),
p 18 0 17,
l 19 18,
o 20 (.len (t 19)),
o 21 (N .sub (t 20) (i 1)),
a 4 21])
z)))⟩

def ir63 : IFunc := ⟨[.tmp 2],
(s (r [o 1 (.box 2 (t 0)),
o 2 (.mv (c (.slice none 0 0)))])
(s (r [o 5 (.call (f 49) []),
o 6 (.buildSlice 1 [(.int .u8 0),(.int .i64 0)] [(0,2,(t 5))]),
a 3 6])
(s (s (r [o 4 (.mv (i 0))])
(b 0 (lo (s (s (r [p 7 0 1,
l 8 7,
a 9 8,
g 10 9 true (.mv (t 4)),
g 11 9 true (.faddr 1 (t 1)),
g 12 9 true (.load1 (t 11)),
g 13 9 true (N .lss (t 10) (t 12)),
o 14 (.pick (t 9) (t 13) n)])
(w (t 14) k
(e 0)))
(s (b 1 (r [a 17 3,
a 18 4,
o 19 (.build [(.int .u8 0),(.int .i64 0)] [(0,1,(c (.int .u8 2))),(1,1,(t 18))]),
o 20 (.buildSlice 1 [(.int .u8 0),(.int .i64 0)] [(0,2,(t 19))]),
o 21 (.append 116 2 16 (t 17) (t 20)),
a 3 21]))
(r [a 15 4,
o 16 (N .add (t 15) (i 1)),
a 4 16]))))))
(s (r [a 22 3,
a 2 22])
z))))⟩

def ir64 : IFunc := ⟨[.cellN 8 3],
(s (r [o 4 (.box 5 (t 0)),
o 5 (.box 2 (t 1)),
o 6 (.box 5 (t 2)),
o 7 (.box 2 (t 3)),
o 8 (.mk 69 [(.slice none 0 0),(.slice none 0 0),(.bool false)])])
(s (b 0 (s (r [p 13 0 5,
l 14 13,
o 15 (.not (t 14)),
a 12 15])
(w (t 12) (s (r [o 16 (.loadN 5 (t 4)),
o 17 (.loadN 5 (t 6)),
o 18 (.call (f 108) [(t 16),(t 17)]),
q (.store 3 (t 8) (t 18))])
z)
(s (r [p 20 0 6,
l 21 20,
o 22 (N .eql (t 21) (c (.int .u8 16))),
a 23 22,
g 24 23 true (.faddr 0 (t 7)),
g 25 23 true (.load1 (t 24)),
g 26 23 true (N .eql (t 25) (c (.int .u8 1))),
o 27 (.pick (t 23) (t 26) n),
a 19 27])
(w (t 19) (s (r [o 28 (.loadN 5 (t 4)),
p 29 3 6,
l 30 29,
o 31 (.build [(.int .u8 0),(.int .i64 0),(.int .i64 0),(.int .i64 0),(.slice none 0 0)] [(0,1,(c (.int .u8 3))),(3,1,(t 30))]),
o 32 (.call (f 108) [(t 28),(t 31)]),
q (.store 3 (t 8) (t 32))])
z)
(s (r [p 34 0 6,
l 35 34,
o 36 (N .eql (t 35) (c (.int .u8 16))),
a 33 36])
(w (t 33) (s (r [o 37 (.buildSlice 1 [(.int .i64 0)] [(0,1,(i 0))]),
o 38 (.build [(.slice none 0 0),(.slice none 0 0)] [(1,1,(t 37))]),
o 39 (.box 2 (t 38)),
a 9 39])
(s (r [a 40 9,
o 41 (.call (f 62) [(t 40),n]),
a 42 9,
o 43 (.call (f 62) [(t 42),y]),
a 10 41,
a 11 43])
(s (d [u 2 (p 46 1 7) [],
u 3 (l 47 46) [],
u 4 (o 48 (.build [(.int .u8 0),(.int .i64 0)] [(0,1,(c (.int .u8 2))),(1,1,(t 47))])) [],
u 5 (p 49 3 6) [],
u 6 (l 50 49) [2],
u 7 (o 51 (.call (f 51) [(t 48),(t 50),(i 0)])) [],
u 8 (o 52 (.loadN 5 (t 4))) [0,1,4],
u 9 (a 53 9) [],
u 10 (a 54 11) [],
u 11 (p 55 3 6) [],
u 12 (l 56 55) [3,4,5,8],
u 13 (o 57 (.call (f 109) [(t 52),(t 53),(t 54),(t 56)])) [],
u 0 (a 44 9) [],
u 1 (a 45 10) [],
u 14 (o 58 (.call (f 65) [(t 44),(t 45),(t 51),(t 57)])) []])
(s (r [a 59 9,
o 60 (.call (f 46) [(t 59)]),
q (.store 3 (t 8) (t 60))])
z))))
(s (r [p 62 0 7,
l 63 62,
o 64 (N .eql (t 63) (c (.int .u8 1))),
a 61 64])
(w (t 61) (s (d [u 0 (o 65 (.loadN 5 (t 4))) [],
u 1 (p 66 4 6) [],
u 2 (l 67 66) [1],
u 3 (o 68 (.idxS 5 (t 67) (i 0))) [],
u 4 (o 69 (.loadN 5 (t 68))) [3],
u 5 (o 70 (.call (f 108) [(t 65),(t 69)])) [],
u 6 (q (.store 3 (t 8) (t 70))) []])
z)
k)))))))))
(s (d [u 0 (o 71 (.loadN 5 (t 4))) [],
u 1 (p 72 1 5) [],
u 2 (l 73 72) [1],
u 3 (p 74 1 7) [],
u 4 (l 75 74) [1,3],
u 5 (o 76 (.call (f 110) [(t 71),(t 73),(t 75)])) [],
u 6 (p 77 4 6) [],
u 7 (l 78 77) [1,2,4,6],
u 8 (o 79 (.idxS 5 (t 78) (i 1))) [],
u 9 (o 80 (.loadN 5 (t 79))) [3,4,6,8],
u 10 (o 81 (.call (f 108) [(t 76),(t 80)])) [],
u 11 (q (.store 3 (t 8) (t 81))) []])
z)))⟩

def ir65 : IFunc := ⟨[],
(s (r [o 6 (.box 4 (t 2))])
(s (r [a 9 0,
o 10 (.nilCheck (t 9)),
p 11 0 10,
l 12 11,
a 13 1,
o 14 (.idxS 3 (t 12) (t 13)),
a 8 14])
(d [u 0 (a 15 8) [],
u 1 (a 16 8) [],
u 2 (o 17 (.nilCheck (t 16))) [],
u 3 (p 18 0 17) [],
u 4 (l 19 18) [],
u 5 (o 20 (.loadN 4 (t 6))) [0],
u 6 (a 21 3) [],
u 7 (o 22 (.build [(.int .i64 0),(.int .i64 0),(.int .u8 0),(.int .i64 0),(.int .i64 0)] [(0,4,(t 20)),(4,1,(t 21))])) [],
u 8 (o 23 (.buildSlice 1 [(.int .i64 0),(.int .i64 0),(.int .u8 0),(.int .i64 0),(.int .i64 0)] [(0,5,(t 22))])) [3],
u 9 (o 24 (.append 97 5 40 (t 19) (t 23))) [],
u 10 (o 25 (.nilCheck (t 15))) [],
u 11 (p 26 0 25) [],
u 12 (q (.store 1 (t 26) (t 24))) []])))⟩

def ir66 : IFunc := ⟨[.tmp 2],
(s (r [o 2 (.mv n)])
(s (r [a 3 0,
o 4 (.call (f 67) [(t 3)]),
o 5 (.not (t 4)),
a 2 5])
z))⟩

def ir67 : IFunc := ⟨[.tmp 2],
(s (r [o 2 (.mv n)])
(s (s (r [a 4 0,
o 5 (.len (t 4)),
o 6 (N .sub (t 5) (i 1)),
o 7 (.mv (i 0))])
(b 0 (lo (s (r [o 8 (N .lss (t 7) (t 6))])
(s (w (t 8) k
(e 0))
(s (b 1 (s (r [a 9 7,
a 3 9])
(s (d [u 0 (a 10 0) [],
u 1 (a 11 3) [],
u 2 (o 12 (.idxS 5 (t 10) (t 11))) [],
u 3 (p 13 0 12) [],
u 4 (o 14 (.loadN 4 (t 13))) [],
u 5 (a 15 0) [],
u 6 (a 16 3) [],
u 7 (o 17 (N .add (t 16) (i 1))) [],
u 8 (o 18 (.idxS 5 (t 15) (t 17))) [],
u 9 (p 19 0 18) [],
u 10 (o 20 (.loadN 4 (t 19))) [5],
u 11 (o 21 (.call (f 111) [(t 14),(t 20)])) [],
u 12 (o 22 (.not (t 21))) []])
(w (t 22) (s (r [o 2 (.mv n)])
z)
k))))
(r [o 23 (N .add (t 7) (i 1)),
a 7 23])))))))
(s (r [o 2 (.mv y)])
z)))⟩

def ir68 : IFunc := ⟨[.tmp 2],
(s (r [o 1 (.box 2 (t 0)),
o 2 (.mv n)])
(s (r [p 3 0 1,
l 4 3,
o 5 (.len (t 4)),
p 6 1 1,
l 7 6,
o 8 (.len (t 7)),
o 9 (.maxI (t 5) (t 8)),
o 10 (N .gtr (t 9) (i 400)),
a 11 10,
g 12 11 false (.loadN 2 (t 1)),
g 13 11 false (.call (f 112) [(t 12)]),
g 14 11 false (N .gtr (t 13) (i 6000)),
o 15 (.pick (t 11) y (t 14)),
a 2 15])
z))⟩

def ir69 : IFunc := ⟨[.tmp 2],
(s (r [o 1 (.box 2 (t 0)),
o 2 (.mv n)])
(s (r [o 4 (.mkfn (.func 113) [] [(t 1)]),
o 3 (.mk 148 [.nilFunc]),
q (.store 1 (t 3) (t 4))])
(s (r [p 5 0 1,
l 6 5,
o 7 (.len (t 6)),
o 8 (N .gtr (t 7) (i 0)),
a 9 8,
g 10 9 true (.faddr 0 (t 1)),
g 11 9 true (.load1 (t 10)),
g 12 9 true (.len (t 11)),
g 13 9 true (.faddr 1 (t 1)),
g 14 9 true (.load1 (t 13)),
g 15 9 true (.len (t 14)),
g 16 9 true (N .eql (t 12) (t 15)),
o 17 (.pick (t 9) (t 16) n),
a 18 17,
g 19 18 true (.faddr 0 (t 1)),
g 20 18 true (.load1 (t 19)),
g 21 18 true (.mkfn (.func 114) [] [(t 3)]),
g 22 18 true (.call (f 70) [(t 20),(t 21)]),
g 23 18 true (.not (t 22)),
o 24 (.pick (t 18) (t 23) n),
a 2 24])
z)))⟩

def ir70 : IFunc := ⟨[.tmp 4],
(s (r [o 4 (.mv n)])
(s (r [a 5 0,
a 6 1,
o 7 (.call (f 115) [(t 5),(t 6)]),
o 8 (N .geq (t 7) (i 0)),
a 4 8])
z))⟩

def ir71 : IFunc := ⟨[.tmp 4],
(s (r [o 2 (.box 2 (t 0)),
o 3 (.box 2 (t 1)),
o 4 (.mv n)])
(s (r [p 5 1 2,
l 6 5,
p 7 1 3,
l 8 7,
o 9 (.call (f 116) [(t 6),(t 8)]),
a 10 9,
g 11 10 true (.faddr 0 (t 2)),
g 12 10 true (.load1 (t 11)),
g 13 10 true (.faddr 0 (t 3)),
g 14 10 true (.load1 (t 13)),
g 15 10 true (.call (f 117) [(t 12),(t 14),(f 118)]),
o 16 (.pick (t 10) (t 15) n),
a 4 16])
z))⟩

def ir72 : IFunc := ⟨[.cellN 2 2],
(s (r [o 1 (.box 2 (t 0)),
o 2 (.mk 31 [(.slice none 0 0),(.slice none 0 0)])])
(s (r [o 7 (.loadN 2 (t 1)),
o 8 (.call (f 119) [(t 7)]),
o 3 (.mk 29 [(.slice none 0 0)]),
q (.store 1 (t 3) (t 8))])
(s (s (r [l 9 3,
o 10 (.idxS 1 (t 9) (i 0)),
l 11 10,
o 12 (.not (t 11))])
(w (t 12) (s (r [o 13 (.call (f 120) []),
q (.store 2 (t 2) (t 13))])
z)
k))
(s (s (r [p 14 0 1,
l 15 14,
o 16 (.len (t 15)),
o 17 (.mv (i 0))])
(b 0 (lo (s (r [o 18 (N .lss (t 17) (t 16))])
(s (w (t 18) k
(e 0))
(s (b 1 (s (r [a 19 17,
a 4 19])
(d [u 3 (p 23 0 1) [],
u 4 (l 24 23) [],
u 5 (a 25 4) [],
u 6 (o 26 (.idxS 1 (t 24) (t 25))) [],
u 7 (l 27 26) [],
u 8 (o 28 (.mkfn (.func 122) [] [(t 3)])) [],
u 9 (o 29 (.call (f 121) [(t 27),(t 28)])) [],
u 0 (p 20 0 1) [],
u 1 (l 21 20) [1,3,6],
u 2 (a 22 4) [],
u 10 (o 30 (.idxS 1 (t 21) (t 22))) [],
u 11 (q (.store 1 (t 30) (t 29))) []])))
(r [o 31 (N .add (t 17) (i 1)),
a 17 31])))))))
(s (r [o 33 (.loadN 2 (t 1)),
o 34 (.call (f 77) [(t 33)]),
a 32 34,
o 35 (.extract 0 (t 32)),
o 36 (.extract 1 (t 32)),
a 5 35,
a 6 36])
(s (s (r [a 37 6])
(w (t 37) (r [o 38 (.loadN 2 (t 1)),
o 39 (.call (f 123) [(t 38)]),
a 5 39])
k))
(s (r [o 40 (.loadN 2 (t 1)),
a 41 5,
o 42 (.call (f 124) [(t 40),(t 41)]),
q (.store 2 (t 2) (t 42))])
z)))))))⟩

def ir73 : IFunc := ⟨[.cellN 2 2],
(s (r [o 1 (.box 2 (t 0)),
o 2 (.mk 31 [(.slice none 0 0),(.slice none 0 0)])])
(s (r [p 6 1 1,
l 7 6,
o 8 (.call (f 125) [(t 7)]),
o 9 (.build [(.slice none 0 0),(.slice none 0 0)] [(1,1,(t 8))]),
o 3 (.mk 31 [(.slice none 0 0),(.slice none 0 0)]),
q (.store 2 (t 3) (t 9))])
(s (s (r [p 10 0 1,
l 11 10,
o 12 (.len (t 11)),
o 13 (.mv (i 0))])
(b 0 (lo (s (r [o 14 (N .lss (t 13) (t 12))])
(s (w (t 14) k
(e 0))
(s (b 1 (s (r [o 15 (.idxS 1 (t 11) (t 13)),
l 16 15,
a 5 16])
(d [u 2 (a 19 5) [],
u 3 (o 20 (.call (f 126) [(t 19)])) [],
u 0 (p 17 0 3) [],
u 1 (l 18 17) [1],
u 4 (o 21 (.buildSlice 1 [(.slice none 0 0)] [(0,1,(t 20))])) [0],
u 5 (o 22 (.append 93 1 24 (t 18) (t 21))) [],
u 6 (p 23 0 3) [],
u 7 (q (.store 1 (t 23) (t 22))) []])))
(r [o 24 (N .add (t 13) (i 1)),
a 13 24])))))))
(s (r [o 25 (.loadN 2 (t 3)),
q (.store 2 (t 2) (t 25))])
z))))⟩

def ir74 : IFunc := ⟨[.tmp 4],
(s (r [o 4 (.mv n)])
(s (r [a 5 0,
a 6 1,
o 7 (.call (f 127) [(t 5),(t 6)]),
o 8 (N .geq (t 7) (i 0)),
a 4 8])
z))⟩

def ir75 : IFunc := ⟨[.tmp 4],
(s (r [o 3 (.box 5 (t 0)),
o 4 (.mv n)])
(s (d [u 0 (l 5 1) [],
u 1 (l 6 2) [0],
u 2 (o 7 (.idxS 1 (t 5) (t 6))) [],
u 3 (l 8 7) [],
u 4 (p 9 4 3) [],
u 5 (l 10 9) [1,3,4],
u 6 (o 11 (.idxS 1 (t 8) (t 10))) [],
u 7 (l 12 11) [],
u 8 (a 4 12) []])
z))⟩

def ir76 : IFunc := ⟨[.tmp 2],
(s (r [o 2 (.mv (c (.slice none 0 0)))])
(s (s (r [a 3 0,
o 4 (.bin .slc .eql (t 3) (c (.slice none 0 0)))])
(w (t 4) (s (r [o 2 (.mv (c (.slice none 0 0)))])
z)
k))
(s (r [o 5 (.buildSlice 0 [] []),
a 6 0,
o 7 (.append 95 4 32 (t 5) (t 6)),
a 2 7])
z)))⟩

def ir77 : IFunc := ⟨[.cell1 2,.cell1 3],
(s (r [o 1 (.box 2 (t 0)),
o 2 (.mk 61 [(.slice none 0 0)]),
o 3 (.mk 4 [(.bool false)])])
(s (r [o 7 (.buildSlice 1 [(.int .i64 0)] [(0,1,(i (-1)))]),
p 8 0 1,
l 9 8,
o 10 (.len (t 9)),
o 11 (.call (f 128) [(t 7),(t 10)]),
q (.store 1 (t 2) (t 11))])
(s (r [p 12 0 1,
l 13 12,
o 14 (.len (t 13)),
o 15 (.mkSlice 1 [(.bool false)] (t 14) (t 14)),
o 4 (.mk 29 [(.slice none 0 0)]),
q (.store 1 (t 4) (t 15))])
(s (r [o 16 (.mkmap),
o 5 (.mk 201 [(.map none)]),
q (.store 1 (t 5) (t 16))])
(s (r [o 6 (.mk 202 [.nilFunc])])
(s (r [o 17 (.mkfn (.func 129) [] [(t 4),(t 1),(t 3),(t 2),(t 6),(t 5)]),
q (.store 1 (t 6) (t 17))])
(s (r [l 18 6,
o 19 (.call (t 18) [(i 0)])])
(s (d [u 0 (l 20 2) [],
u 1 (l 21 3) [0],
u 2 (q (.store 1 (t 2) (t 20))) [0],
u 3 (q (.store 1 (t 3) (t 21))) []])
z))))))))⟩

def ir78 : IFunc := ⟨[.tmp 2],
(s (r [o 2 (.mv (i 0))])
(s (s (r [a 5 0,
o 6 (.len (t 5)),
o 7 (N .lss (t 6) (i 1))])
(w (t 7) (r [o 8 (.bad),
q (.bad)])
k))
(s (r [a 9 0,
o 10 (.idxS 1 (t 9) (i 0)),
l 11 10,
a 3 11])
(s (s (r [o 4 (.mv (i 1))])
(b 0 (lo (s (s (r [a 12 4,
a 13 0,
o 14 (.len (t 13)),
o 15 (N .lss (t 12) (t 14))])
(w (t 15) k
(e 0)))
(s (b 1 (r [a 18 3,
a 19 0,
a 20 4,
o 21 (.idxS 1 (t 19) (t 20)),
l 22 21,
o 23 (.maxI (t 18) (t 22)),
a 3 23]))
(r [a 16 4,
o 17 (N .add (t 16) (i 1)),
a 4 17]))))))
(s (r [a 24 3,
a 2 24])
z)))))⟩

def ir79 : IFunc := ⟨[.tmp 4],
(s (r [o 4 (.mv n)])
(s (r [a 5 0,
o 6 (.lenStr (t 5)),
a 7 1,
o 8 (.lenStr (t 7)),
o 9 (N .geq (t 6) (t 8)),
a 10 9,
g 11 10 true (.mv (t 0)),
g 12 10 true (.mv (t 1)),
g 13 10 true (.lenStr (t 12)),
g 14 10 true (.sliceStr (t 11) none (some (t 13))),
g 15 10 true (.mv (t 1)),
g 16 10 true (.bin .str .eql (t 14) (t 15)),
o 17 (.pick (t 10) (t 16) n),
a 4 17])
z))⟩

def ir80 : IFunc := ⟨[.tmp 2],
(s (r [o 1 (.box 4 (t 0)),
o 2 (.mv (i 0))])
(s (s (r [p 5 0 1,
l 6 5,
o 7 (.len (t 6)),
o 8 (N .gtr (t 7) (i 8))])
(w (t 8) (s (r [o 2 (.mv (i 5))])
z)
k))
(s (s (r [o 3 (.mv (i 0))])
(b 0 (lo (s (s (r [a 9 3,
p 10 0 1,
l 11 10,
o 12 (.len (t 11)),
o 13 (N .lss (t 9) (t 12))])
(w (t 13) k
(e 0)))
(s (b 1 (s (r [p 16 0 1,
l 17 16,
a 18 3,
o 19 (.idxS 3 (t 17) (t 18)),
p 20 0 19,
l 21 20,
o 22 (.len (t 21)),
o 23 (N .gtr (t 22) (i 5))])
(w (t 23) (s (r [o 2 (.mv (i 5))])
z)
k)))
(r [a 14 3,
o 15 (N .add (t 14) (i 1)),
a 3 15]))))))
(s (s (r [o 4 (.mv (i 0))])
(b 2 (lo (s (s (r [a 24 4,
p 25 0 1,
l 26 25,
o 27 (.len (t 26)),
o 28 (N .lss (t 24) (t 27))])
(w (t 28) k
(e 2)))
(s (b 3 (s (r [p 31 0 1,
l 32 31,
a 33 4,
o 34 (.idxS 3 (t 32) (t 33)),
o 35 (.loadN 3 (t 34)),
o 36 (.call (f 132) [(t 35)]),
o 37 (.not (t 36))])
(w (t 37) (s (r [o 2 (.mv (i 4))])
z)
k)))
(r [a 29 4,
o 30 (N .add (t 29) (i 1)),
a 4 30]))))))
(s (s (r [p 38 1 1,
o 39 (.loadN 2 (t 38)),
o 40 (.call (f 133) [(t 39)]),
o 41 (.not (t 40))])
(w (t 41) (s (r [o 2 (.mv (i 4))])
z)
k))
(s (r [o 2 (.mv (i 0))])
z))))))⟩

def ir81 : IFunc := ⟨[.tmp 2],
(s (r [o 1 (.box 2 (t 0)),
o 2 (.mv (c (.string ⟨#[]⟩)))])
(s (s (r [p 3 0 1,
l 4 3])
(w (t 4) (s (r [p 5 1 1,
l 6 5,
o 7 (.call (f 89) [(t 6)]),
o 8 (.bin .str .add (c (.string ⟨#[99,101,108,108,32]⟩)) (t 7)),
a 2 8])
z)
k))
(s (r [p 9 1 1,
l 10 9,
o 11 (.call (f 89) [(t 10)]),
o 12 (.bin .str .add (c (.string ⟨#[105,110,116,32]⟩)) (t 11)),
a 2 12])
z)))⟩

def ir82 : IFunc := ⟨[.tmp 2],
(s (r [o 1 (.box 3 (t 0)),
o 2 (.mv (c (.string ⟨#[]⟩)))])
(s (s (r [p 5 0 1,
l 6 5,
o 7 (.len (t 6)),
o 8 (N .eql (t 7) (i 0))])
(w (t 8) (s (r [p 9 1 1,
o 10 (.loadN 2 (t 9)),
o 11 (.call (f 81) [(t 10)]),
a 2 11])
z)
k))
(s (r [o 3 (.mv (c (.string ⟨#[40]⟩)))])
(s (s (r [o 4 (.mv (i 0))])
(b 0 (lo (s (s (r [a 12 4,
p 13 0 1,
l 14 13,
o 15 (.len (t 14)),
o 16 (N .lss (t 12) (t 15))])
(w (t 16) k
(e 0)))
(s (b 1 (s (s (r [a 19 4,
o 20 (N .gtr (t 19) (i 0))])
(w (t 20) (r [a 21 3,
o 22 (.bin .str .add (t 21) (c (.string ⟨#[44,32]⟩))),
a 3 22])
k))
(r [a 23 3,
p 24 0 1,
l 25 24,
a 26 4,
o 27 (.idxS 2 (t 25) (t 26)),
o 28 (.loadN 2 (t 27)),
o 29 (.call (f 81) [(t 28)]),
o 30 (.bin .str .add (t 23) (t 29)),
a 3 30])))
(r [a 17 4,
o 18 (N .add (t 17) (i 1)),
a 4 18]))))))
(s (r [a 31 3,
o 32 (.bin .str .add (t 31) (c (.string ⟨#[41,32,45,62,32]⟩))),
p 33 1 1,
o 34 (.loadN 2 (t 33)),
o 35 (.call (f 81) [(t 34)]),
o 36 (.bin .str .add (t 32) (t 35)),
a 2 36])
z)))))⟩

def ir83 : IFunc := ⟨[.tmp 2],
(s (r [o 1 (.box 2 (t 0)),
o 2 (.mv (c (.slice none 0 0)))])
(s (r [o 7 (.buildSlice 0 [] []),
p 8 1 1,
l 9 8,
o 10 (.append 4 1 1 (t 7) (t 9)),
a 3 10])
(s (s (r [o 4 (.mv y)])
(b 0 (lo (s (s (r [a 11 4])
(w (t 11) k
(e 0)))
(b 1 (s (r [o 4 (.mv n)])
(s (r [o 5 (.mv (i 0))])
(b 2 (lo (s (s (r [a 12 5,
p 13 0 1,
l 14 13,
o 15 (.len (t 14)),
o 16 (N .lss (t 12) (t 15))])
(w (t 16) k
(e 2)))
(s (b 3 (s (r [o 6 (.mv (i 0))])
(b 4 (lo (s (s (r [a 19 6,
p 20 0 1,
l 21 20,
a 22 5,
o 23 (.idxS 1 (t 21) (t 22)),
l 24 23,
o 25 (.len (t 24)),
o 26 (N .lss (t 19) (t 25))])
(w (t 26) k
(e 4)))
(s (b 5 (s (r [a 29 3,
a 30 5,
o 31 (.idxS 1 (t 29) (t 30)),
l 32 31,
o 33 (.not (t 32)),
a 34 33,
g 35 34 true (.mv (t 3)),
g 36 34 true (.faddr 0 (t 1)),
g 37 34 true (.load1 (t 36)),
g 38 34 true (.mv (t 5)),
g 39 34 true (.idxS 1 (t 37) (t 38)),
g 40 34 true (.load1 (t 39)),
g 41 34 true (.mv (t 6)),
g 42 34 true (.idxS 5 (t 40) (t 41)),
g 43 34 true (.faddr 4 (t 42)),
g 44 34 true (.load1 (t 43)),
g 45 34 true (.idxS 1 (t 35) (t 44)),
g 46 34 true (.load1 (t 45)),
o 47 (.pick (t 34) (t 46) n)])
(w (t 47) (r [a 48 3,
a 49 5,
o 50 (.idxS 1 (t 48) (t 49)),
q (.store 1 (t 50) y),
o 4 (.mv y)])
k)))
(r [a 27 6,
o 28 (N .add (t 27) (i 1)),
a 6 28])))))))
(r [a 17 5,
o 18 (N .add (t 17) (i 1)),
a 5 18]))))))))))))
(s (r [a 51 3,
a 2 51])
z))))⟩

def ir84 : IFunc := ⟨[.tmp 4],
(s (r [o 2 (.box 2 (t 0)),
o 4 (.mv (c (.slice none 0 0)))])
(s (r [p 12 0 2,
l 13 12,
o 14 (.len (t 13)),
o 15 (.mkSlice 8 [(.int .i64 0)] (t 14) (t 14)),
a 5 15])
(s (s (r [o 6 (.mv (i 0))])
(b 0 (lo (s (s (r [a 16 6,
a 17 5,
o 18 (.len (t 17)),
o 19 (N .lss (t 16) (t 18))])
(w (t 19) k
(e 0)))
(s (b 1 (s (s (r [a 22 1,
a 23 6,
o 24 (.idxS 1 (t 22) (t 23)),
l 25 24])
(w (t 25) (r [a 26 5,
a 27 6,
o 28 (.idxS 1 (t 26) (t 27)),
q (.store 1 (t 28) (i 1))])
k))
(s (r [p 29 1 2,
l 30 29,
a 31 6,
o 32 (.idxS 1 (t 30) (t 31)),
l 33 32])
(w (t 33) (r [a 34 5,
a 35 6,
o 36 (.idxS 1 (t 34) (t 35)),
q (.store 1 (t 36) (i 2))])
k))))
(r [a 20 6,
o 21 (N .add (t 20) (i 1)),
a 6 21]))))))
(s (r [o 7 (.mv (i 0))])
(b 2 (lo (b 3 (s (r [a 37 5,
o 38 (.len (t 37)),
o 39 (.mkSlice 8 [(.int .i64 0)] (t 38) (t 38)),
a 8 39])
(s (r [o 9 (.mv (c (.slice none 0 0)))])
(s (s (r [o 10 (.mv (i 0))])
(b 4 (lo (s (s (r [a 40 10,
a 41 5,
o 42 (.len (t 41)),
o 43 (N .lss (t 40) (t 42))])
(w (t 43) k
(e 4)))
(s (b 5 (s (r [o 11 (.mv (i 0))])
(s (b 6 (lo (s (s (d [u 0 (a 46 11) [],
u 1 (a 47 9) [],
u 2 (o 48 (.len (t 47))) [],
u 3 (o 49 (N .lss (t 46) (t 48))) [],
u 4 (a 50 49) [],
u 5 (g 51 50 true (.loadN 2 (t 2))) [],
u 6 (g 52 50 true (.mv (t 5))) [],
u 7 (g 53 50 true (.mv (t 1))) [],
u 8 (g 54 50 true (.mv (t 9))) [],
u 9 (g 55 50 true (.mv (t 11))) [],
u 10 (g 56 50 true (.idxS 1 (t 54) (t 55))) [],
u 11 (g 57 50 true (.load1 (t 56))) [5],
u 12 (g 58 50 true (.mv (t 10))) [],
u 13 (g 59 50 true (.call (f 134) [(t 51),(t 52),(t 53),(t 57),(t 58)])) [],
u 14 (g 60 50 true (.not (t 59))) [],
u 15 (o 61 (.pick (t 50) (t 60) n)) []])
(w (t 61) k
(e 6)))
(b 7 (r [a 62 11,
o 63 (N .add (t 62) (i 1)),
a 11 63])))))
(s (s (r [a 64 11,
a 65 9,
o 66 (.len (t 65)),
o 67 (N .eql (t 64) (t 66))])
(w (t 67) (r [a 68 9,
a 69 10,
o 70 (.buildSlice 1 [(.int .i64 0)] [(0,1,(t 69))]),
o 71 (.append 3 1 8 (t 68) (t 70)),
a 9 71])
k))
(s (s (r [a 72 9,
o 73 (.len (t 72)),
o 74 (N .gtr (t 73) (i 401))])
(w (t 74) (s (r [o 4 (.mv (c (.slice none 0 0)))])
z)
k))
(r [a 75 8,
a 76 10,
a 77 11,
o 78 (.idxS 1 (t 75) (t 76)),
q (.store 1 (t 78) (t 77))]))))))
(r [a 44 10,
o 45 (N .add (t 44) (i 1)),
a 10 45]))))))
(s (s (r [a 79 9,
o 80 (.len (t 79)),
a 81 7,
o 82 (N .eql (t 80) (t 81))])
(w (t 82) (s (r [a 83 8,
a 4 83])
z)
k))
(r [a 84 8,
a 85 9,
o 86 (.len (t 85)),
a 5 84,
a 7 86]))))))))))))⟩

def ir85 : IFunc := ⟨[.tmp 4],
(s (r [o 2 (.box 3 (t 0)),
o 4 (.mv (c (.slice none 0 0)))])
(s (r [o 5 (.mv (c (.slice none 0 0)))])
(s (s (r [o 6 (.mv (i 0))])
(b 0 (lo (s (s (r [a 8 6,
a 9 1,
o 10 (.len (t 9)),
o 11 (N .lss (t 8) (t 10))])
(w (t 11) k
(e 0)))
(s (b 1 (s (r [o 7 (.mv (i 0))])
(b 2 (lo (s (s (d [u 0 (a 14 7) [],
u 1 (p 15 0 2) [],
u 2 (l 16 15) [],
u 3 (a 17 1) [],
u 4 (a 18 6) [],
u 5 (o 19 (.idxS 1 (t 17) (t 18))) [],
u 6 (l 20 19) [3],
u 7 (o 21 (.idxS 1 (t 16) (t 20))) [],
u 8 (l 22 21) [],
u 9 (o 23 (.len (t 22))) [],
u 10 (o 24 (N .lss (t 14) (t 23))) []])
(w (t 24) k
(e 2)))
(s (b 3 (d [u 0 (a 27 5) [],
u 1 (p 28 0 2) [],
u 2 (l 29 28) [],
u 3 (a 30 1) [],
u 4 (a 31 6) [],
u 5 (o 32 (.idxS 1 (t 30) (t 31))) [],
u 6 (l 33 32) [3],
u 7 (o 34 (.idxS 1 (t 29) (t 33))) [],
u 8 (l 35 34) [],
u 9 (a 36 7) [],
u 10 (o 37 (.idxS 5 (t 35) (t 36))) [],
u 11 (p 38 0 37) [],
u 12 (o 39 (.loadN 4 (t 38))) [],
u 13 (o 40 (.call (f 135) [(t 27),(t 39)])) [],
u 14 (a 5 40) []]))
(r [a 25 7,
o 26 (N .add (t 25) (i 1)),
a 7 26])))))))
(r [a 12 6,
o 13 (N .add (t 12) (i 1)),
a 6 13]))))))
(s (r [a 41 5,
a 4 41])
z))))⟩

def ir86 : IFunc := ⟨[.tmp 2],
(s (r [o 2 (.mv (i 0))])
(s (r [o 3 (.mv (i 0))])
(s (s (r [o 4 (.mv (i 0))])
(b 0 (lo (s (s (r [a 5 4,
a 6 0,
o 7 (.len (t 6)),
o 8 (N .lss (t 5) (t 7))])
(w (t 8) k
(e 0)))
(s (b 1 (r [a 11 3,
a 12 0,
a 13 4,
o 14 (.idxS 1 (t 12) (t 13)),
l 15 14,
o 16 (.len (t 15)),
o 17 (N .add (t 11) (t 16)),
a 3 17]))
(r [a 9 4,
o 10 (N .add (t 9) (i 1)),
a 4 10]))))))
(s (r [a 18 3,
a 2 18])
z))))⟩

def ir87 : IFunc := ⟨[.tmp 2,.tmp 3],
(s (r [o 1 (.box 4 (t 0)),
o 2 (.mv (c (.string ⟨#[]⟩))),
o 3 (.mv (i 0))])
(s (r [p 5 0 1,
l 6 5,
o 7 (N .geq (t 6) (i 0)),
a 8 7,
g 9 8 true (.faddr 1 (t 1)),
g 10 8 true (.load1 (t 9)),
g 11 8 true (N .geq (t 10) (i 0)),
o 12 (.pick (t 8) (t 11) n),
a 4 12])
(s (s (r [p 13 2 1,
l 14 13])
(b 0 (s (r [o 16 (N .eql (t 14) (c (.int .u8 1))),
a 15 16])
(w (t 15) (r [a 17 4,
a 18 17,
g 19 18 true (.faddr 3 (t 1)),
g 20 18 true (.load1 (t 19)),
g 21 18 true (N .eql (t 20) (i 0)),
o 22 (.pick (t 18) (t 21) n),
a 4 22])
(s (r [o 24 (N .eql (t 14) (c (.int .u8 2))),
a 23 24])
(w (t 23) (r [a 25 4,
a 26 25,
g 27 26 true (.faddr 3 (t 1)),
g 28 26 true (.load1 (t 27)),
g 29 26 true (N .geq (t 28) (i 0)),
o 30 (.pick (t 26) (t 29) n),
a 4 30])
(s (r [o 32 (N .eql (t 14) (c (.int .u8 3))),
a 31 32])
(w (t 31) (r [a 33 4,
a 34 33,
g 35 34 true (.faddr 3 (t 1)),
g 36 34 true (.load1 (t 35)),
g 37 34 true (N .geq (t 36) (i (-1))),
o 38 (.pick (t 34) (t 37) n),
a 4 38])
(r [o 4 (.mv n)])))))))))
(s (s (r [a 39 4,
o 40 (.not (t 39))])
(w (t 40) (s (r [o 2 (.mv (c (.string ⟨#[]⟩))),
o 3 (.mv (i 4))])
z)
k))
(s (r [o 41 (.loadN 4 (t 1)),
o 42 (.call (f 136) [(t 41)]),
a 2 42,
o 3 (.mv (i 0))])
z)))))⟩

def ir88 : IFunc := ⟨[.tmp 2],
(s (r [o 1 (.box 2 (t 0)),
o 2 (.mv (i 0))])
(s (s (r [o 3 (.loadN 2 (t 1)),
o 4 (.call (f 39) [(t 3)])])
(w (t 4) (s (r [o 2 (.mv (i 5))])
z)
k))
(s (s (d [u 0 (o 5 (.loadN 2 (t 1))) [],
u 1 (o 6 (.call (f 137) [(t 5)])) [],
u 2 (o 7 (.not (t 6))) [],
u 3 (a 8 7) [],
u 4 (g 9 8 false (.loadN 2 (t 1))) [],
u 5 (g 10 8 false (.call (f 138) [(t 9)])) [],
u 6 (g 11 8 false (.not (t 10))) [],
u 7 (o 12 (.pick (t 8) y (t 11))) [],
u 8 (a 13 12) [],
u 9 (g 14 13 false (.loadN 2 (t 1))) [],
u 10 (g 15 13 false (.call (f 38) [(t 14)])) [],
u 11 (g 16 13 false (.loadN 2 (t 1))) [0,1],
u 12 (g 17 13 false (.call (f 18) [(t 15),(t 16)])) [],
u 13 (g 18 13 false (.not (t 17))) [],
u 14 (o 19 (.pick (t 13) y (t 18))) []])
(w (t 19) (s (r [o 2 (.mv (i 4))])
z)
k))
(s (r [o 2 (.mv (i 0))])
z))))⟩

def ir89 : IFunc := ⟨[.tmp 2],
(s (r [o 2 (.mv (c (.string ⟨#[]⟩)))])
(s (r [a 5 0,
o 6 (N .rem (t 5) (i 10)),
a 3 6])
(s (s (r [a 7 3,
o 8 (N .lss (t 7) (i 0))])
(w (t 8) (r [a 9 3,
o 10 (.neg (t 9)),
a 3 10])
k))
(s (r [a 11 3,
o 12 (N .add (i 48) (t 11)),
o 13 (.conv .i32 (t 12)),
o 14 (.rune (t 13)),
a 4 14])
(s (b 0 (s (r [a 16 0,
o 17 (N .quo (t 16) (i 10)),
o 18 (N .neq (t 17) (i 0)),
a 15 18])
(w (t 15) (s (r [a 19 0,
o 20 (N .quo (t 19) (i 10)),
o 21 (.call (f 89) [(t 20)]),
a 22 4,
o 23 (.bin .str .add (t 21) (t 22)),
a 2 23])
z)
(s (r [a 25 0,
o 26 (N .lss (t 25) (i 0)),
a 24 26])
(w (t 24) (s (r [a 27 4,
o 28 (.bin .str .add (c (.string ⟨#[45]⟩)) (t 27)),
a 2 28])
z)
k)))))
(s (r [a 29 4,
a 2 29])
z))))))⟩

def ir90 : IFunc := ⟨[.tmp 2],
(s (r [o 1 (.box 4 (t 0)),
o 2 (.mv n)])
(s (r [p 3 0 1,
l 4 3,
o 5 (N .eql (t 4) (i 0)),
a 6 5,
g 7 6 true (.faddr 1 (t 1)),
g 8 6 true (.load1 (t 7)),
g 9 6 true (N .eql (t 8) (i 0)),
o 10 (.pick (t 6) (t 9) n),
a 11 10,
g 12 11 true (.faddr 2 (t 1)),
g 13 11 true (.load1 (t 12)),
g 14 11 true (N .eql (t 13) (c (.int .u8 3))),
o 15 (.pick (t 11) (t 14) n),
a 2 15])
z))⟩

def ir91 : IFunc := ⟨[],
(s (r [a 3 0,
o 4 (.len (t 3)),
a 2 4])
(r [a 5 0,
a 6 2,
a 7 2,
o 8 (.conv .u64 (t 7)),
o 9 (.call (f 140) [(t 8)]),
o 10 (.call (f 139) [(t 5),(i 0),(t 6),(t 9)])]))⟩

def ir92 : IFunc := ⟨[.tmp 2],
(s (r [o 2 (.mv (c (.slice none 0 0)))])
(s (s (r [a 6 0,
o 7 (.len (t 6)),
o 8 (N .lss (t 7) (i 2))])
(w (t 8) (s (r [a 9 0,
a 2 9])
z)
k))
(s (s (r [o 3 (.mv (i 1))])
(b 0 (lo (s (s (r [a 10 3,
a 11 0,
o 12 (.len (t 11)),
o 13 (N .lss (t 10) (t 12))])
(w (t 13) k
(e 0)))
(s (b 1 (s (d [u 0 (a 16 0) [],
u 1 (a 17 3) [],
u 2 (o 18 (.idxS 1 (t 16) (t 17))) [],
u 3 (l 19 18) [],
u 4 (a 20 0) [],
u 5 (a 21 3) [],
u 6 (o 22 (N .sub (t 21) (i 1))) [],
u 7 (o 23 (.idxS 1 (t 20) (t 22))) [],
u 8 (l 24 23) [4],
u 9 (o 25 (N .eql (t 19) (t 24))) []])
(w (t 25) (s (r [a 26 0,
a 27 3,
o 28 (.sliceS 1 (t 26) (some (t 27)) none none),
a 4 28])
(s (s (r [o 5 (.mv (i 1))])
(b 2 (lo (s (s (r [a 29 5,
a 30 4,
o 31 (.len (t 30)),
o 32 (N .lss (t 29) (t 31))])
(w (t 32) k
(e 2)))
(s (b 3 (s (d [u 0 (a 35 4) [],
u 1 (a 36 5) [],
u 2 (o 37 (.idxS 1 (t 35) (t 36))) [],
u 3 (l 38 37) [],
u 4 (a 39 4) [],
u 5 (a 40 5) [],
u 6 (o 41 (N .sub (t 40) (i 1))) [],
u 7 (o 42 (.idxS 1 (t 39) (t 41))) [],
u 8 (l 43 42) [4],
u 9 (o 44 (N .neq (t 38) (t 43))) []])
(w (t 44) (s (r [a 45 0,
a 46 3,
a 47 4,
a 48 5,
o 49 (.idxS 1 (t 47) (t 48)),
l 50 49,
o 51 (.idxS 1 (t 45) (t 46)),
q (.store 1 (t 51) (t 50))])
(r [a 52 3,
o 53 (N .add (t 52) (i 1)),
a 3 53]))
k)))
(r [a 33 5,
o 34 (N .add (t 33) (i 1)),
a 5 34]))))))
(s (r [a 54 0,
a 55 3,
o 56 (.sliceS 1 (t 54) (some (t 55)) none none),
q (.clear [(.int .i64 0)] (t 56))])
(s (r [a 57 0,
a 58 3,
o 59 (.sliceS 1 (t 57) none (some (t 58)) none),
a 2 59])
z))))
k)))
(r [a 14 3,
o 15 (N .add (t 14) (i 1)),
a 3 15]))))))
(s (r [a 60 0,
a 2 60])
z))))⟩

def ir93 : IFunc := ⟨[.cellN 2 2,.tmp 3],
(s (r [o 2 (.mk 31 [(.slice none 0 0),(.slice none 0 0)]),
o 3 (.mv n)])
(s (r [a 10 0,
o 11 (.call (f 141) [(t 10)]),
a 9 11,
o 12 (.extract 0 (t 9)),
o 13 (.extract 1 (t 9)),
o 4 (.mk 31 [(.slice none 0 0),(.slice none 0 0)]),
q (.store 2 (t 4) (t 12)),
a 5 13])
(s (s (r [a 14 5,
o 15 (.not (t 14))])
(w (t 15) (s (r [o 16 (.build [(.slice none 0 0),(.slice none 0 0)] []),
q (.store 2 (t 2) (t 16)),
o 3 (.mv n)])
z)
k))
(s (r [o 17 (.loadN 2 (t 4)),
o 18 (.call (f 142) [(t 17)]),
q (.store 2 (t 4) (t 18))])
(s (r [o 6 (.mv (i 0))])
(s (s (r [p 19 0 4,
l 20 19,
o 21 (.len (t 20)),
o 22 (.mv (i 0))])
(b 0 (lo (s (r [o 23 (N .lss (t 22) (t 21))])
(s (w (t 23) k
(e 0))
(s (b 1 (s (r [o 24 (.idxS 1 (t 20) (t 22)),
l 25 24,
a 8 25])
(r [a 26 6,
a 27 8,
o 28 (.len (t 27)),
o 29 (N .add (t 26) (t 28)),
a 6 29])))
(r [o 30 (N .add (t 22) (i 1)),
a 22 30])))))))
(s (r [o 31 (.loadN 2 (t 4)),
p 32 0 4,
l 33 32,
o 34 (.len (t 33)),
o 35 (N .leq (t 34) (i 400)),
a 36 35,
g 37 36 true (.mv (t 6)),
g 38 36 true (N .leq (t 37) (i 6000)),
o 39 (.pick (t 36) (t 38) n),
q (.store 2 (t 2) (t 31)),
a 3 39])
z)))))))⟩

def ir94 : IFunc := ⟨[.tmp 8],
(s (r [o 8 (.mv n)])
(s (r [l 12 3,
a 13 1,
o 14 (.call (t 12) [(t 13)]),
a 11 14,
o 15 (.extract 0 (t 11)),
o 16 (.extract 1 (t 11)),
a 9 15,
a 10 16])
(s (s (r [a 17 10])
(w (t 17) (r [l 18 4,
a 19 0,
a 20 9,
o 21 (.build [(.int .i64 0),(.int .i64 0)] [(0,1,(t 19)),(1,1,(t 20))]),
o 22 (.buildSlice 1 [(.int .i64 0),(.int .i64 0)] [(0,2,(t 21))]),
o 23 (.append 169 2 16 (t 18) (t 22)),
q (.store 1 (t 4) (t 23))])
k))
(s (r [a 24 10,
a 8 24])
z))))⟩

def ir95 : IFunc := ⟨[],
(s (r [a 7 0,
o 8 (.nilCheck (t 7)),
p 9 0 8,
l 10 9,
a 11 1,
o 12 (.idxS 3 (t 10) (t 11)),
a 6 12])
(r [a 13 6,
a 14 6,
o 15 (.nilCheck (t 14)),
p 16 1 15,
l 17 16,
a 18 2,
o 19 (.buildSlice 1 [(.int .i64 0)] [(0,1,(t 18))]),
o 20 (.append 3 1 8 (t 17) (t 19)),
o 21 (.nilCheck (t 13)),
p 22 1 21,
q (.store 1 (t 22) (t 20))]))⟩

def ir96 : IFunc := ⟨[.tmp 5],
(s (r [o 5 (.mv (i 0))])
(s (r [a 6 0,
p 7 1 2,
l 8 7,
o 9 (N .mul (t 6) (t 8)),
a 10 1,
o 11 (N .add (t 9) (t 10)),
a 5 11])
z))⟩

def ir97 : IFunc := ⟨[.cellN 6 4],
(s (r [o 6 (.mk 95 [(.int .i64 0),(.int .i64 0),(.int .u8 0),(.int .i64 0)])])
(s (r [a 7 0,
a 8 1,
a 9 2,
o 10 (.build [(.int .i64 0),(.int .i64 0),(.int .u8 0),(.int .i64 0)] [(0,1,(t 7)),(1,1,(t 8)),(2,1,(c (.int .u8 3))),(3,1,(t 9))]),
q (.store 4 (t 6) (t 10))])
z))⟩

def ir98 : IFunc := ⟨[.tmp 4,.tmp 5],
(s (r [o 2 (.box 2 (t 0)),
o 4 (.mv n),
o 5 (.mv (i 0))])
(s (s (r [o 8 (.loadN 2 (t 2)),
a 9 1,
o 10 (.call (f 143) [(t 8),(t 9)]),
a 6 10])
(s (r [a 11 6,
o 12 (N .neq (t 11) (i 0))])
(w (t 12) (s (r [a 13 6,
o 4 (.mv n),
a 5 13])
z)
k)))
(s (r [o 14 (.loadN 2 (t 2)),
a 15 1,
o 16 (.call (f 144) [(t 14),(t 15)]),
a 7 16])
(s (r [a 17 7,
o 18 (N .geq (t 17) (i 0)),
a 19 18,
g 20 19 true (.faddr 1 (t 2)),
g 21 19 true (.load1 (t 20)),
g 22 19 true (.mv (t 7)),
g 23 19 true (.idxS 1 (t 21) (t 22)),
g 24 19 true (.load1 (t 23)),
o 25 (.pick (t 19) (t 24) n),
a 4 25,
o 5 (.mv (i 0))])
z))))⟩

def ir99 : IFunc := ⟨[.tmp 2],
(s (r [o 1 (.box 3 (t 0)),
o 2 (.mv n)])
(s (r [p 3 0 1,
l 4 3,
o 5 (.len (t 4)),
o 6 (N .gtr (t 5) (i 5)),
a 2 6])
z))⟩

def ir100 : IFunc := ⟨[.tmp 2],
(s (r [o 1 (.box 3 (t 0)),
o 2 (.mv n)])
(s (r [o 3 (.loadN 3 (t 1)),
o 4 (.call (f 101) [(t 3)]),
o 5 (.not (t 4)),
a 2 5])
z))⟩

def ir101 : IFunc := ⟨[.tmp 2],
(s (r [o 1 (.box 3 (t 0)),
o 2 (.mv n)])
(s (r [o 3 (.mv (f 145))])
(s (r [p 4 1 1,
o 5 (.loadN 2 (t 4)),
o 6 (.call (f 103) [(t 5)]),
a 7 6,
g 8 7 true (.faddr 0 (t 1)),
g 9 7 true (.load1 (t 8)),
g 10 7 true (.mv (t 3)),
g 11 7 true (.call (f 146) [(t 9),(t 10)]),
g 12 7 true (.not (t 11)),
o 13 (.pick (t 7) (t 12) n),
a 14 13,
g 15 14 true (.faddr 0 (t 1)),
g 16 14 true (.load1 (t 15)),
g 17 14 true (.len (t 16)),
g 18 14 true (N .eql (t 17) (i 0)),
g 19 14 true (.mv (t 18)),
g 20 19 false (.faddr 1 (t 1)),
g 21 19 false (.faddr 0 (t 20)),
g 22 19 false (.load1 (t 21)),
g 23 19 false (.not (t 22)),
g 24 14 true (.pick (t 19) y (t 23)),
o 25 (.pick (t 14) (t 24) n),
a 2 25])
z)))⟩

def ir102 : IFunc := ⟨[.tmp 4],
(s (r [o 4 (.mv n)])
(s (r [a 5 0,
a 6 1,
o 7 (.call (f 147) [(t 5),(t 6)]),
o 8 (N .geq (t 7) (i 0)),
a 4 8])
z))⟩

def ir103 : IFunc := ⟨[.tmp 2],
(s (r [o 1 (.box 2 (t 0)),
o 2 (.mv n)])
(s (r [p 3 1 1,
l 4 3,
o 5 (N .geq (t 4) (i 1)),
a 6 5,
g 7 6 true (.faddr 1 (t 1)),
g 8 6 true (.load1 (t 7)),
g 9 6 true (N .leq (t 8) (i 64)),
o 10 (.pick (t 6) (t 9) n),
a 2 10])
z))⟩

def ir104 : IFunc := ⟨[.tmp 6],
(s (r [o 3 (.box 4 (t 0)),
o 4 (.box 5 (t 1)),
o 6 (.mv n)])
(s (r [o 10 (.loadN 4 (t 3)),
o 11 (.loadN 5 (t 4)),
o 12 (.call (f 148) [(t 10),(t 11)]),
a 9 12,
o 13 (.extract 0 (t 9)),
o 14 (.extract 1 (t 9)),
a 7 13,
a 8 14])
(s (r [a 15 8,
a 16 15,
g 17 16 true (.mv (t 7)),
g 18 16 true (.mv (t 2)),
g 19 16 true (N .eql (t 17) (t 18)),
o 20 (.pick (t 16) (t 19) n),
a 6 20])
z)))⟩

def ir105 : IFunc := ⟨[.tmp 4],
(s (r [o 2 (.box 4 (t 0)),
o 3 (.box 5 (t 1)),
o 4 (.mv n)])
(s (r [p 8 3 2,
l 9 8,
p 10 0 3,
l 11 10,
o 12 (.lookup (.sc .num) (.agg #[(.bool false),(.bool false),(.bool false),(.int .i64 0)]) true (t 9) (t 11)),
a 7 12,
o 13 (.extract 0 (t 7)),
o 14 (.extract 1 (t 7)),
o 5 (.mk 178 [(.bool false),(.bool false),(.bool false),(.int .i64 0)]),
q (.store 4 (t 5) (t 13)),
a 6 14])
(s (r [a 15 6,
a 16 15,
g 17 16 true (.faddr 0 (t 5)),
g 18 16 true (.load1 (t 17)),
g 19 16 true (.mv (t 18)),
g 20 19 false (.faddr 1 (t 3)),
g 21 19 false (.load1 (t 20)),
g 22 19 false (N .eql (t 21) (i 0)),
g 23 16 true (.pick (t 19) y (t 22)),
o 24 (.pick (t 16) (t 23) n),
a 25 24,
g 26 25 true (.faddr 1 (t 5)),
g 27 25 true (.load1 (t 26)),
g 28 25 true (.mv (t 27)),
g 29 28 false (.faddr 2 (t 3)),
g 30 28 false (.load1 (t 29)),
g 31 28 false (N .eql (t 30) (i 0)),
g 32 25 true (.pick (t 28) y (t 31)),
o 33 (.pick (t 25) (t 32) n),
a 34 33,
g 35 34 true (.faddr 2 (t 5)),
g 36 34 true (.load1 (t 35)),
g 37 34 true (.mv (t 36)),
g 38 37 false (.faddr 3 (t 3)),
g 39 37 false (.load1 (t 38)),
g 40 37 false (N .eql (t 39) (i 0)),
g 41 34 true (.pick (t 37) y (t 40)),
o 42 (.pick (t 34) (t 41) n),
a 43 42,
g 44 43 true (.faddr 3 (t 5)),
g 45 43 true (.load1 (t 44)),
g 46 43 true (N .lss (t 45) (i 0)),
g 47 43 true (.mv (t 46)),
g 48 47 false (.faddr 3 (t 5)),
g 49 47 false (.load1 (t 48)),
g 50 47 false (.faddr 4 (t 3)),
g 51 47 false (.load1 (t 50)),
g 52 47 false (.len (t 51)),
g 53 47 false (N .eql (t 49) (t 52)),
g 54 43 true (.pick (t 47) y (t 53)),
o 55 (.pick (t 43) (t 54) n),
a 4 55])
z)))⟩

def ir106 : IFunc := ⟨[.tmp 4,.tmp 5],
(s (r [o 2 (.box 4 (t 0)),
o 4 (.mv (i 0)),
o 5 (.mv n)])
(s (r [o 9 (.loadN 4 (t 2)),
a 10 1,
o 11 (.call (f 149) [(t 9),(t 10)]),
a 8 11,
o 12 (.extract 0 (t 8)),
o 13 (.extract 1 (t 8)),
o 6 (.mk 138 [(.slice none 0 0),(.bool false),(.int .i64 0),(.bool false)]),
q (.store 4 (t 6) (t 12)),
a 7 13])
(s (d [u 0 (p 14 0 6) [],
u 1 (p 15 1 14) [],
u 2 (p 16 1 15) [],
u 3 (l 17 16) [],
u 4 (a 18 7) [],
u 5 (a 19 18) [],
u 6 (g 20 19 true (.faddr 0 (t 6))) [],
u 7 (g 21 19 true (.faddr 1 (t 20))) [],
u 8 (g 22 19 true (.faddr 0 (t 21))) [],
u 9 (g 23 19 true (.load1 (t 22))) [5],
u 10 (o 24 (.pick (t 19) (t 23) n)) [],
u 11 (a 4 17) [],
u 12 (a 5 24) []])
z)))⟩

def ir107 : IFunc := ⟨[.cellN 4 4],
(s (r [o 2 (.box 4 (t 0)),
o 3 (.box 4 (t 1)),
o 4 (.mk 136 [(.slice none 0 0),(.int .i64 0),(.int .i64 0),(.map none)])])
(s (d [u 0 (p 5 0 2) [],
u 1 (l 6 5) [],
u 2 (o 7 (.call (f 150) [(t 6)])) [],
u 3 (o 8 (.loadN 4 (t 3))) [0,1],
u 4 (o 9 (.buildSlice 1 [(.slice none 0 0),(.bool false),(.int .i64 0),(.bool false)] [(0,4,(t 8))])) [1,2],
u 5 (o 10 (.append 138 4 48 (t 7) (t 9))) [],
u 6 (p 11 0 2) [],
u 7 (q (.store 1 (t 11) (t 10))) []])
(s (r [o 12 (.loadN 4 (t 2)),
q (.store 4 (t 4) (t 12))])
z)))⟩


end Go.St
