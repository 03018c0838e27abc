/-
  The functions in their own form are the program's, part 1.
-/
import Derived.Test.YthigfnjbabcfnaaGreatDoorProg
import Derived.Test.YthigfnjbabcfnaaGreatDoorFnb
import Derived.Test.YthigfnjbabcfnaaGreatDoorAkG
import Derived.KernelRfl
namespace Go.St
open Go.Ak Go.Proofs
set_option maxRecDepth 100000

theorem g3 : FnOK Tryz.prog 3 ir3 := ⟨by kernel_rfl⟩
theorem g5 : FnOK Tryz.prog 5 ir5 := ⟨by kernel_rfl⟩
theorem g7 : FnOK Tryz.prog 7 ir7 := ⟨by kernel_rfl⟩
theorem g9 : FnOK Tryz.prog 9 ir9 := ⟨by kernel_rfl⟩
theorem g11 : FnOK Tryz.prog 11 ir11 := ⟨by kernel_rfl⟩
theorem g13 : FnOK Tryz.prog 13 ir13 := ⟨by kernel_rfl⟩
theorem g15 : FnOK Tryz.prog 15 ir15 := ⟨by kernel_rfl⟩
theorem g17 : FnOK Tryz.prog 17 ir17 := ⟨by kernel_rfl⟩
theorem g19 : FnOK Tryz.prog 19 ir19 := ⟨by kernel_rfl⟩
theorem g21 : FnOK Tryz.prog 21 ir21 := ⟨by kernel_rfl⟩
theorem g23 : FnOK Tryz.prog 23 ir23 := ⟨by kernel_rfl⟩
theorem g25 : FnOK Tryz.prog 25 ir25 := ⟨by kernel_rfl⟩
theorem g27 : FnOK Tryz.prog 27 ir27 := ⟨by kernel_rfl⟩
theorem g29 : FnOK Tryz.prog 29 ir29 := ⟨by kernel_rfl⟩
theorem g31 : FnOK Tryz.prog 31 ir31 := ⟨by kernel_rfl⟩
theorem g33 : FnOK Tryz.prog 33 ir33 := ⟨by kernel_rfl⟩
theorem g35 : FnOK Tryz.prog 35 ir35 := ⟨by kernel_rfl⟩
theorem g37 : FnOK Tryz.prog 37 ir37 := ⟨by kernel_rfl⟩
theorem g39 : FnOK Tryz.prog 39 ir39 := ⟨by kernel_rfl⟩
theorem g41 : FnOK Tryz.prog 41 ir41 := ⟨by kernel_rfl⟩
theorem g43 : FnOK Tryz.prog 43 ir43 := ⟨by kernel_rfl⟩
theorem g45 : FnOK Tryz.prog 45 ir45 := ⟨by kernel_rfl⟩
theorem g47 : FnOK Tryz.prog 47 ir47 := ⟨by kernel_rfl⟩
theorem g50 : FnOK Tryz.prog 50 ir50 := ⟨by kernel_rfl⟩
theorem g52 : FnOK Tryz.prog 52 ir52 := ⟨by kernel_rfl⟩
theorem g54 : FnOK Tryz.prog 54 ir54 := ⟨by kernel_rfl⟩
theorem g56 : FnOK Tryz.prog 56 ir56 := ⟨by kernel_rfl⟩
theorem g58 : FnOK Tryz.prog 58 ir58 := ⟨by kernel_rfl⟩
theorem g60 : FnOK Tryz.prog 60 ir60 := ⟨by kernel_rfl⟩
theorem g62 : FnOK Tryz.prog 62 ir62 := ⟨by kernel_rfl⟩
theorem g64 : FnOK Tryz.prog 64 ir64 := ⟨by kernel_rfl⟩
theorem g66 : FnOK Tryz.prog 66 ir66 := ⟨by kernel_rfl⟩
theorem g68 : FnOK Tryz.prog 68 ir68 := ⟨by kernel_rfl⟩
theorem g70 : FnOK Tryz.prog 70 ir70 := ⟨by kernel_rfl⟩
theorem g72 : FnOK Tryz.prog 72 ir72 := ⟨by kernel_rfl⟩
theorem g74 : FnOK Tryz.prog 74 ir74 := ⟨by kernel_rfl⟩
theorem g76 : FnOK Tryz.prog 76 ir76 := ⟨by kernel_rfl⟩
theorem g78 : FnOK Tryz.prog 78 ir78 := ⟨by kernel_rfl⟩
theorem g80 : FnOK Tryz.prog 80 ir80 := ⟨by kernel_rfl⟩
theorem g82 : FnOK Tryz.prog 82 ir82 := ⟨by kernel_rfl⟩
theorem g84 : FnOK Tryz.prog 84 ir84 := ⟨by kernel_rfl⟩
theorem g86 : FnOK Tryz.prog 86 ir86 := ⟨by kernel_rfl⟩
theorem g88 : FnOK Tryz.prog 88 ir88 := ⟨by kernel_rfl⟩
theorem g90 : FnOK Tryz.prog 90 ir90 := ⟨by kernel_rfl⟩
theorem g92 : FnOK Tryz.prog 92 ir92 := ⟨by kernel_rfl⟩
theorem g94 : FnOK Tryz.prog 94 ir94 := ⟨by kernel_rfl⟩
theorem g96 : FnOK Tryz.prog 96 ir96 := ⟨by kernel_rfl⟩
theorem g98 : FnOK Tryz.prog 98 ir98 := ⟨by kernel_rfl⟩
theorem g100 : FnOK Tryz.prog 100 ir100 := ⟨by kernel_rfl⟩
theorem g102 : FnOK Tryz.prog 102 ir102 := ⟨by kernel_rfl⟩
theorem g104 : FnOK Tryz.prog 104 ir104 := ⟨by kernel_rfl⟩
theorem g106 : FnOK Tryz.prog 106 ir106 := ⟨by kernel_rfl⟩
theorem g108 : FnOK Tryz.prog 108 ir108 := ⟨by kernel_rfl⟩
theorem g111 : FnOK Tryz.prog 111 ir111 := ⟨by kernel_rfl⟩
theorem g113 : FnOK Tryz.prog 113 ir113 := ⟨by kernel_rfl⟩
theorem g115 : FnOK Tryz.prog 115 ir115 := ⟨by kernel_rfl⟩
theorem g117 : FnOK Tryz.prog 117 ir117 := ⟨by kernel_rfl⟩
theorem g119 : FnOK Tryz.prog 119 ir119 := ⟨by kernel_rfl⟩
theorem g122 : FnOK Tryz.prog 122 ir122 := ⟨by kernel_rfl⟩
theorem g124 : FnOK Tryz.prog 124 ir124 := ⟨by kernel_rfl⟩
theorem g126 : FnOK Tryz.prog 126 ir126 := ⟨by kernel_rfl⟩
theorem g128 : FnOK Tryz.prog 128 ir128 := ⟨by kernel_rfl⟩
theorem g130 : FnOK Tryz.prog 130 ir130 := ⟨by kernel_rfl⟩
theorem g132 : FnOK Tryz.prog 132 ir132 := ⟨by kernel_rfl⟩
theorem g134 : FnOK Tryz.prog 134 ir134 := ⟨by kernel_rfl⟩
theorem g136 : FnOK Tryz.prog 136 ir136 := ⟨by kernel_rfl⟩
theorem g138 : FnOK Tryz.prog 138 ir138 := ⟨by kernel_rfl⟩
theorem g140 : FnOK Tryz.prog 140 ir140 := ⟨by kernel_rfl⟩
theorem g142 : FnOK Tryz.prog 142 ir142 := ⟨by kernel_rfl⟩
theorem g144 : FnOK Tryz.prog 144 ir144 := ⟨by kernel_rfl⟩
theorem g146 : FnOK Tryz.prog 146 ir146 := ⟨by kernel_rfl⟩
theorem g148 : FnOK Tryz.prog 148 ir148 := ⟨by kernel_rfl⟩
theorem g150 : FnOK Tryz.prog 150 ir150 := ⟨by kernel_rfl⟩
theorem g152 : FnOK Tryz.prog 152 ir152 := ⟨by kernel_rfl⟩
theorem g154 : FnOK Tryz.prog 154 ir154 := ⟨by kernel_rfl⟩
theorem g156 : FnOK Tryz.prog 156 ir156 := ⟨by kernel_rfl⟩
theorem g158 : FnOK Tryz.prog 158 ir158 := ⟨by kernel_rfl⟩
theorem g160 : FnOK Tryz.prog 160 ir160 := ⟨by kernel_rfl⟩
theorem g162 : FnOK Tryz.prog 162 ir162 := ⟨by kernel_rfl⟩
theorem g164 : FnOK Tryz.prog 164 ir164 := ⟨by kernel_rfl⟩
theorem g166 : FnOK Tryz.prog 166 ir166 := ⟨by kernel_rfl⟩
theorem g168 : FnOK Tryz.prog 168 ir168 := ⟨by kernel_rfl⟩
theorem g170 : FnOK Tryz.prog 170 ir170 := ⟨by kernel_rfl⟩
theorem g177 : FnOK Tryz.prog 177 ir177 := ⟨by kernel_rfl⟩
theorem g182 : FnOK Tryz.prog 182 ir182 := ⟨by kernel_rfl⟩
theorem g184 : FnOK Tryz.prog 184 ir184 := ⟨by kernel_rfl⟩
theorem g186 : FnOK Tryz.prog 186 ir186 := ⟨by kernel_rfl⟩
theorem g188 : FnOK Tryz.prog 188 ir188 := ⟨by kernel_rfl⟩
theorem g190 : FnOK Tryz.prog 190 ir190 := ⟨by kernel_rfl⟩
theorem g192 : FnOK Tryz.prog 192 ir192 := ⟨by kernel_rfl⟩
theorem g194 : FnOK Tryz.prog 194 ir194 := ⟨by kernel_rfl⟩
theorem g196 : FnOK Tryz.prog 196 ir196 := ⟨by kernel_rfl⟩
theorem g199 : FnOK Tryz.prog 199 ir199 := ⟨by kernel_rfl⟩
theorem g202 : FnOK Tryz.prog 202 ir202 := ⟨by kernel_rfl⟩
theorem g206 : FnOK Tryz.prog 206 ir206 := ⟨by kernel_rfl⟩
theorem g208 : FnOK Tryz.prog 208 ir208 := ⟨by kernel_rfl⟩
theorem g211 : FnOK Tryz.prog 211 ir211 := ⟨by kernel_rfl⟩
theorem g218 : FnOK Tryz.prog 218 ir218 := ⟨by kernel_rfl⟩
theorem g220 : FnOK Tryz.prog 220 ir220 := ⟨by kernel_rfl⟩
theorem g223 : FnOK Tryz.prog 223 ir223 := ⟨by kernel_rfl⟩
theorem g225 : FnOK Tryz.prog 225 ir225 := ⟨by kernel_rfl⟩
theorem g227 : FnOK Tryz.prog 227 ir227 := ⟨by kernel_rfl⟩
theorem g229 : FnOK Tryz.prog 229 ir229 := ⟨by kernel_rfl⟩
theorem g233 : FnOK Tryz.prog 233 ir233 := ⟨by kernel_rfl⟩
theorem g237 : FnOK Tryz.prog 237 ir237 := ⟨by kernel_rfl⟩
theorem g241 : FnOK Tryz.prog 241 ir241 := ⟨by kernel_rfl⟩
theorem g244 : FnOK Tryz.prog 244 ir244 := ⟨by kernel_rfl⟩
theorem g246 : FnOK Tryz.prog 246 ir246 := ⟨by kernel_rfl⟩
theorem g249 : FnOK Tryz.prog 249 ir249 := ⟨by kernel_rfl⟩

end Go.St
