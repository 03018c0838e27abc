/-
  The functions in their own form are the program's, part 2.
  The table of the functions is the program's.
-/
import Derived.Test.YtolmnccikdjjmaaGreatDoorProg
import Derived.Test.YtolmnccikdjjmaaGreatDoorFnb
import Derived.Test.YtolmnccikdjjmaaGreatDoorAkG
import Derived.KernelRfl
import Derived.Test.YtolmnccikdjjmaaGreatDoorFnc
namespace Go.Fl
open Go.Ak Go.Proofs
set_option maxRecDepth 100000

theorem g4 : FnOK Tryz.prog 4 ir4 := ⟨by kernel_rfl⟩
theorem g6 : FnOK Tryz.prog 6 ir6 := ⟨by kernel_rfl⟩
theorem g8 : FnOK Tryz.prog 8 ir8 := ⟨by kernel_rfl⟩
theorem g10 : FnOK Tryz.prog 10 ir10 := ⟨by kernel_rfl⟩
theorem g12 : FnOK Tryz.prog 12 ir12 := ⟨by kernel_rfl⟩
theorem g14 : FnOK Tryz.prog 14 ir14 := ⟨by kernel_rfl⟩
theorem g16 : FnOK Tryz.prog 16 ir16 := ⟨by kernel_rfl⟩
theorem g18 : FnOK Tryz.prog 18 ir18 := ⟨by kernel_rfl⟩
theorem g20 : FnOK Tryz.prog 20 ir20 := ⟨by kernel_rfl⟩
theorem g22 : FnOK Tryz.prog 22 ir22 := ⟨by kernel_rfl⟩
theorem g24 : FnOK Tryz.prog 24 ir24 := ⟨by kernel_rfl⟩
theorem g26 : FnOK Tryz.prog 26 ir26 := ⟨by kernel_rfl⟩
theorem g28 : FnOK Tryz.prog 28 ir28 := ⟨by kernel_rfl⟩
theorem g30 : FnOK Tryz.prog 30 ir30 := ⟨by kernel_rfl⟩
theorem g32 : FnOK Tryz.prog 32 ir32 := ⟨by kernel_rfl⟩
theorem g34 : FnOK Tryz.prog 34 ir34 := ⟨by kernel_rfl⟩
theorem g36 : FnOK Tryz.prog 36 ir36 := ⟨by kernel_rfl⟩
theorem g38 : FnOK Tryz.prog 38 ir38 := ⟨by kernel_rfl⟩
theorem g40 : FnOK Tryz.prog 40 ir40 := ⟨by kernel_rfl⟩
theorem g42 : FnOK Tryz.prog 42 ir42 := ⟨by kernel_rfl⟩
theorem g44 : FnOK Tryz.prog 44 ir44 := ⟨by kernel_rfl⟩
theorem g46 : FnOK Tryz.prog 46 ir46 := ⟨by kernel_rfl⟩
theorem g48 : FnOK Tryz.prog 48 ir48 := ⟨by kernel_rfl⟩
theorem g50 : FnOK Tryz.prog 50 ir50 := ⟨by kernel_rfl⟩
theorem g52 : FnOK Tryz.prog 52 ir52 := ⟨by kernel_rfl⟩
theorem g54 : FnOK Tryz.prog 54 ir54 := ⟨by kernel_rfl⟩
theorem g56 : FnOK Tryz.prog 56 ir56 := ⟨by kernel_rfl⟩
theorem g58 : FnOK Tryz.prog 58 ir58 := ⟨by kernel_rfl⟩
theorem g60 : FnOK Tryz.prog 60 ir60 := ⟨by kernel_rfl⟩
theorem g62 : FnOK Tryz.prog 62 ir62 := ⟨by kernel_rfl⟩
theorem g64 : FnOK Tryz.prog 64 ir64 := ⟨by kernel_rfl⟩
theorem g66 : FnOK Tryz.prog 66 ir66 := ⟨by kernel_rfl⟩
theorem g68 : FnOK Tryz.prog 68 ir68 := ⟨by kernel_rfl⟩
theorem g70 : FnOK Tryz.prog 70 ir70 := ⟨by kernel_rfl⟩
theorem g72 : FnOK Tryz.prog 72 ir72 := ⟨by kernel_rfl⟩
theorem g74 : FnOK Tryz.prog 74 ir74 := ⟨by kernel_rfl⟩
theorem g76 : FnOK Tryz.prog 76 ir76 := ⟨by kernel_rfl⟩
theorem g78 : FnOK Tryz.prog 78 ir78 := ⟨by kernel_rfl⟩
theorem g80 : FnOK Tryz.prog 80 ir80 := ⟨by kernel_rfl⟩
theorem g82 : FnOK Tryz.prog 82 ir82 := ⟨by kernel_rfl⟩
theorem g84 : FnOK Tryz.prog 84 ir84 := ⟨by kernel_rfl⟩
theorem g86 : FnOK Tryz.prog 86 ir86 := ⟨by kernel_rfl⟩
theorem g88 : FnOK Tryz.prog 88 ir88 := ⟨by kernel_rfl⟩
theorem g90 : FnOK Tryz.prog 90 ir90 := ⟨by kernel_rfl⟩
theorem g92 : FnOK Tryz.prog 92 ir92 := ⟨by kernel_rfl⟩
theorem g94 : FnOK Tryz.prog 94 ir94 := ⟨by kernel_rfl⟩
theorem g96 : FnOK Tryz.prog 96 ir96 := ⟨by kernel_rfl⟩
theorem g98 : FnOK Tryz.prog 98 ir98 := ⟨by kernel_rfl⟩
theorem g100 : FnOK Tryz.prog 100 ir100 := ⟨by kernel_rfl⟩
theorem g102 : FnOK Tryz.prog 102 ir102 := ⟨by kernel_rfl⟩
theorem g104 : FnOK Tryz.prog 104 ir104 := ⟨by kernel_rfl⟩
theorem g106 : FnOK Tryz.prog 106 ir106 := ⟨by kernel_rfl⟩
theorem g108 : FnOK Tryz.prog 108 ir108 := ⟨by kernel_rfl⟩
theorem g110 : FnOK Tryz.prog 110 ir110 := ⟨by kernel_rfl⟩
theorem g112 : FnOK Tryz.prog 112 ir112 := ⟨by kernel_rfl⟩
theorem g114 : FnOK Tryz.prog 114 ir114 := ⟨by kernel_rfl⟩
theorem g116 : FnOK Tryz.prog 116 ir116 := ⟨by kernel_rfl⟩
theorem g118 : FnOK Tryz.prog 118 ir118 := ⟨by kernel_rfl⟩
theorem g120 : FnOK Tryz.prog 120 ir120 := ⟨by kernel_rfl⟩
theorem g123 : FnOK Tryz.prog 123 ir123 := ⟨by kernel_rfl⟩
theorem g127 : FnOK Tryz.prog 127 ir127 := ⟨by kernel_rfl⟩
theorem g130 : FnOK Tryz.prog 130 ir130 := ⟨by kernel_rfl⟩
theorem g132 : FnOK Tryz.prog 132 ir132 := ⟨by kernel_rfl⟩
theorem g134 : FnOK Tryz.prog 134 ir134 := ⟨by kernel_rfl⟩
theorem g136 : FnOK Tryz.prog 136 ir136 := ⟨by kernel_rfl⟩
theorem g138 : FnOK Tryz.prog 138 ir138 := ⟨by kernel_rfl⟩
theorem g140 : FnOK Tryz.prog 140 ir140 := ⟨by kernel_rfl⟩
theorem g142 : FnOK Tryz.prog 142 ir142 := ⟨by kernel_rfl⟩
theorem g144 : FnOK Tryz.prog 144 ir144 := ⟨by kernel_rfl⟩
theorem g146 : FnOK Tryz.prog 146 ir146 := ⟨by kernel_rfl⟩
theorem g148 : FnOK Tryz.prog 148 ir148 := ⟨by kernel_rfl⟩
theorem g150 : FnOK Tryz.prog 150 ir150 := ⟨by kernel_rfl⟩
theorem g152 : FnOK Tryz.prog 152 ir152 := ⟨by kernel_rfl⟩
theorem g154 : FnOK Tryz.prog 154 ir154 := ⟨by kernel_rfl⟩
theorem g156 : FnOK Tryz.prog 156 ir156 := ⟨by kernel_rfl⟩
theorem g158 : FnOK Tryz.prog 158 ir158 := ⟨by kernel_rfl⟩
theorem g160 : FnOK Tryz.prog 160 ir160 := ⟨by kernel_rfl⟩
theorem g162 : FnOK Tryz.prog 162 ir162 := ⟨by kernel_rfl⟩
theorem g164 : FnOK Tryz.prog 164 ir164 := ⟨by kernel_rfl⟩
theorem g166 : FnOK Tryz.prog 166 ir166 := ⟨by kernel_rfl⟩
theorem g172 : FnOK Tryz.prog 172 ir172 := ⟨by kernel_rfl⟩
theorem g174 : FnOK Tryz.prog 174 ir174 := ⟨by kernel_rfl⟩
theorem g176 : FnOK Tryz.prog 176 ir176 := ⟨by kernel_rfl⟩
theorem g178 : FnOK Tryz.prog 178 ir178 := ⟨by kernel_rfl⟩
theorem g180 : FnOK Tryz.prog 180 ir180 := ⟨by kernel_rfl⟩
theorem g190 : FnOK Tryz.prog 190 ir190 := ⟨by kernel_rfl⟩
theorem g192 : FnOK Tryz.prog 192 ir192 := ⟨by kernel_rfl⟩
theorem g194 : FnOK Tryz.prog 194 ir194 := ⟨by kernel_rfl⟩
theorem g196 : FnOK Tryz.prog 196 ir196 := ⟨by kernel_rfl⟩
theorem g198 : FnOK Tryz.prog 198 ir198 := ⟨by kernel_rfl⟩
theorem g200 : FnOK Tryz.prog 200 ir200 := ⟨by kernel_rfl⟩
theorem g202 : FnOK Tryz.prog 202 ir202 := ⟨by kernel_rfl⟩
theorem g204 : FnOK Tryz.prog 204 ir204 := ⟨by kernel_rfl⟩
theorem g206 : FnOK Tryz.prog 206 ir206 := ⟨by kernel_rfl⟩
theorem g208 : FnOK Tryz.prog 208 ir208 := ⟨by kernel_rfl⟩
theorem g210 : FnOK Tryz.prog 210 ir210 := ⟨by kernel_rfl⟩
theorem g215 : FnOK Tryz.prog 215 ir215 := ⟨by kernel_rfl⟩
theorem g217 : FnOK Tryz.prog 217 ir217 := ⟨by kernel_rfl⟩
theorem g220 : FnOK Tryz.prog 220 ir220 := ⟨by kernel_rfl⟩
theorem g222 : FnOK Tryz.prog 222 ir222 := ⟨by kernel_rfl⟩
theorem g224 : FnOK Tryz.prog 224 ir224 := ⟨by kernel_rfl⟩
theorem g231 : FnOK Tryz.prog 231 ir231 := ⟨by kernel_rfl⟩
theorem g233 : FnOK Tryz.prog 233 ir233 := ⟨by kernel_rfl⟩
theorem g236 : FnOK Tryz.prog 236 ir236 := ⟨by kernel_rfl⟩
theorem g238 : FnOK Tryz.prog 238 ir238 := ⟨by kernel_rfl⟩
theorem g240 : FnOK Tryz.prog 240 ir240 := ⟨by kernel_rfl⟩
theorem g243 : FnOK Tryz.prog 243 ir243 := ⟨by kernel_rfl⟩
theorem g245 : FnOK Tryz.prog 245 ir245 := ⟨by kernel_rfl⟩
theorem g248 : FnOK Tryz.prog 248 ir248 := ⟨by kernel_rfl⟩
theorem g250 : FnOK Tryz.prog 250 ir250 := ⟨by kernel_rfl⟩
theorem g252 : FnOK Tryz.prog 252 ir252 := ⟨by kernel_rfl⟩
theorem g254 : FnOK Tryz.prog 254 ir254 := ⟨by kernel_rfl⟩
theorem g256 : FnOK Tryz.prog 256 ir256 := ⟨by kernel_rfl⟩
theorem g258 : FnOK Tryz.prog 258 ir258 := ⟨by kernel_rfl⟩
theorem g261 : FnOK Tryz.prog 261 ir261 := ⟨by kernel_rfl⟩
theorem g263 : FnOK Tryz.prog 263 ir263 := ⟨by kernel_rfl⟩
theorem g266 : FnOK Tryz.prog 266 ir266 := ⟨by kernel_rfl⟩
theorem g268 : FnOK Tryz.prog 268 ir268 := ⟨by kernel_rfl⟩
theorem g270 : FnOK Tryz.prog 270 ir270 := ⟨by kernel_rfl⟩
theorem g272 : FnOK Tryz.prog 272 ir272 := ⟨by kernel_rfl⟩
theorem g274 : FnOK Tryz.prog 274 ir274 := ⟨by kernel_rfl⟩
theorem g276 : FnOK Tryz.prog 276 ir276 := ⟨by kernel_rfl⟩
theorem g283 : FnOK Tryz.prog 283 ir283 := ⟨by kernel_rfl⟩
theorem g287 : FnOK Tryz.prog 287 ir287 := ⟨by kernel_rfl⟩
theorem g289 : FnOK Tryz.prog 289 ir289 := ⟨by kernel_rfl⟩
theorem g291 : FnOK Tryz.prog 291 ir291 := ⟨by kernel_rfl⟩
theorem g293 : FnOK Tryz.prog 293 ir293 := ⟨by kernel_rfl⟩
theorem g295 : FnOK Tryz.prog 295 ir295 := ⟨by kernel_rfl⟩
theorem g297 : FnOK Tryz.prog 297 ir297 := ⟨by kernel_rfl⟩
theorem g303 : FnOK Tryz.prog 303 ir303 := ⟨by kernel_rfl⟩
theorem g305 : FnOK Tryz.prog 305 ir305 := ⟨by kernel_rfl⟩
theorem g308 : FnOK Tryz.prog 308 ir308 := ⟨by kernel_rfl⟩
theorem g310 : FnOK Tryz.prog 310 ir310 := ⟨by kernel_rfl⟩
theorem g313 : FnOK Tryz.prog 313 ir313 := ⟨by kernel_rfl⟩
theorem g325 : FnOK Tryz.prog 325 ir325 := ⟨by kernel_rfl⟩
theorem g328 : FnOK Tryz.prog 328 ir328 := ⟨by kernel_rfl⟩

end Go.Fl

namespace Go.Fl
open Go.Ak Go.Proofs
set_option maxRecDepth 100000

theorem tab_ok : TrieAll (FnOK Tryz.prog) tab (fun n => n) := ⟨trivial, ⟨trivial, ⟨g3, ⟨g7, ⟨g15, ⟨g31, ⟨g63, ⟨g127, ⟨g255, trivial, trivial⟩, trivial⟩, ⟨g191, trivial, trivial⟩⟩, ⟨g95, ⟨g159, ⟨g287, trivial, trivial⟩, trivial⟩, ⟨g223, trivial, trivial⟩⟩⟩, ⟨g47, ⟨g79, ⟨g143, ⟨g271, trivial, trivial⟩, trivial⟩, ⟨g207, trivial, trivial⟩⟩, ⟨g111, ⟨g175, ⟨g303, trivial, trivial⟩, trivial⟩, ⟨g239, trivial, trivial⟩⟩⟩⟩, ⟨g23, ⟨g39, ⟨g71, ⟨g135, ⟨g263, trivial, trivial⟩, trivial⟩, ⟨g199, ⟨g327, trivial, trivial⟩, trivial⟩⟩, ⟨g103, ⟨g167, ⟨g295, trivial, trivial⟩, trivial⟩, ⟨g231, trivial, trivial⟩⟩⟩, ⟨g55, ⟨g87, ⟨g151, trivial, trivial⟩, ⟨g215, trivial, trivial⟩⟩, ⟨g119, ⟨trivial, ⟨g311, trivial, trivial⟩, trivial⟩, ⟨g247, trivial, trivial⟩⟩⟩⟩⟩, ⟨g11, ⟨g19, ⟨g35, ⟨g67, ⟨g131, trivial, trivial⟩, ⟨g195, trivial, trivial⟩⟩, ⟨g99, ⟨g163, ⟨g291, trivial, trivial⟩, trivial⟩, trivial⟩⟩, ⟨g51, ⟨g83, ⟨g147, ⟨g275, trivial, trivial⟩, trivial⟩, ⟨g211, trivial, trivial⟩⟩, ⟨g115, ⟨g179, ⟨g307, trivial, trivial⟩, trivial⟩, ⟨g243, trivial, trivial⟩⟩⟩⟩, ⟨g27, ⟨g43, ⟨g75, ⟨g139, ⟨g267, trivial, trivial⟩, trivial⟩, ⟨g203, trivial, trivial⟩⟩, ⟨g107, trivial, ⟨g235, trivial, trivial⟩⟩⟩, ⟨g59, ⟨g91, ⟨g155, ⟨g283, trivial, trivial⟩, trivial⟩, ⟨g219, trivial, trivial⟩⟩, ⟨g123, trivial, ⟨g251, trivial, trivial⟩⟩⟩⟩⟩⟩, ⟨g5, ⟨g9, ⟨g17, ⟨g33, ⟨g65, ⟨trivial, ⟨g257, trivial, trivial⟩, trivial⟩, ⟨g193, ⟨g321, trivial, trivial⟩, trivial⟩⟩, ⟨g97, ⟨g161, ⟨g289, trivial, trivial⟩, trivial⟩, ⟨g225, trivial, trivial⟩⟩⟩, ⟨g49, ⟨g81, ⟨g145, ⟨g273, trivial, trivial⟩, trivial⟩, ⟨g209, trivial, trivial⟩⟩, ⟨g113, ⟨g177, ⟨g305, trivial, trivial⟩, trivial⟩, ⟨g241, trivial, trivial⟩⟩⟩⟩, ⟨g25, ⟨g41, ⟨g73, ⟨g137, ⟨g265, trivial, trivial⟩, trivial⟩, ⟨g201, trivial, trivial⟩⟩, ⟨g105, ⟨trivial, ⟨g297, trivial, trivial⟩, trivial⟩, ⟨g233, trivial, trivial⟩⟩⟩, ⟨g57, ⟨g89, ⟨g153, trivial, trivial⟩, ⟨g217, trivial, trivial⟩⟩, ⟨g121, ⟨trivial, ⟨g313, trivial, trivial⟩, trivial⟩, ⟨g249, trivial, trivial⟩⟩⟩⟩⟩, ⟨g13, ⟨g21, ⟨g37, ⟨g69, ⟨g133, ⟨g261, trivial, trivial⟩, trivial⟩, ⟨g197, ⟨g325, trivial, trivial⟩, trivial⟩⟩, ⟨g101, ⟨g165, ⟨g293, trivial, trivial⟩, trivial⟩, trivial⟩⟩, ⟨g53, ⟨g85, ⟨g149, ⟨g277, trivial, trivial⟩, trivial⟩, trivial⟩, ⟨g117, ⟨trivial, ⟨g309, trivial, trivial⟩, trivial⟩, ⟨g245, trivial, trivial⟩⟩⟩⟩, ⟨g29, ⟨g45, ⟨g77, ⟨g141, ⟨g269, trivial, trivial⟩, trivial⟩, ⟨g205, trivial, trivial⟩⟩, ⟨g109, ⟨g173, trivial, trivial⟩, ⟨g237, trivial, trivial⟩⟩⟩, ⟨g61, ⟨g93, ⟨g157, trivial, trivial⟩, ⟨g221, trivial, trivial⟩⟩, ⟨trivial, ⟨g189, trivial, trivial⟩, ⟨g253, trivial, trivial⟩⟩⟩⟩⟩⟩⟩, ⟨trivial, ⟨g4, ⟨g8, ⟨g16, ⟨g32, ⟨g64, ⟨g128, ⟨g256, trivial, trivial⟩, trivial⟩, ⟨g192, trivial, trivial⟩⟩, ⟨g96, ⟨g160, ⟨g288, trivial, trivial⟩, trivial⟩, ⟨g224, trivial, trivial⟩⟩⟩, ⟨g48, ⟨g80, ⟨g144, ⟨g272, trivial, trivial⟩, trivial⟩, ⟨g208, trivial, trivial⟩⟩, ⟨g112, ⟨g176, ⟨g304, trivial, trivial⟩, trivial⟩, ⟨g240, trivial, trivial⟩⟩⟩⟩, ⟨g24, ⟨g40, ⟨g72, ⟨g136, trivial, trivial⟩, ⟨g200, ⟨g328, trivial, trivial⟩, trivial⟩⟩, ⟨g104, ⟨trivial, ⟨g296, trivial, trivial⟩, trivial⟩, ⟨g232, trivial, trivial⟩⟩⟩, ⟨g56, ⟨g88, ⟨g152, trivial, trivial⟩, ⟨g216, trivial, trivial⟩⟩, ⟨g120, trivial, ⟨g248, trivial, trivial⟩⟩⟩⟩⟩, ⟨g12, ⟨g20, ⟨g36, ⟨g68, ⟨g132, ⟨g260, trivial, trivial⟩, trivial⟩, ⟨g196, trivial, trivial⟩⟩, ⟨g100, ⟨g164, ⟨g292, trivial, trivial⟩, trivial⟩, trivial⟩⟩, ⟨g52, ⟨g84, ⟨g148, ⟨g276, trivial, trivial⟩, trivial⟩, trivial⟩, ⟨g116, ⟨g180, ⟨g308, trivial, trivial⟩, trivial⟩, ⟨g244, trivial, trivial⟩⟩⟩⟩, ⟨g28, ⟨g44, ⟨g76, ⟨g140, ⟨g268, trivial, trivial⟩, trivial⟩, ⟨g204, trivial, trivial⟩⟩, ⟨g108, ⟨g172, trivial, trivial⟩, ⟨g236, trivial, trivial⟩⟩⟩, ⟨g60, ⟨g92, ⟨g156, trivial, trivial⟩, ⟨g220, trivial, trivial⟩⟩, ⟨g124, trivial, ⟨g252, trivial, trivial⟩⟩⟩⟩⟩⟩, ⟨g6, ⟨g10, ⟨g18, ⟨g34, ⟨g66, ⟨g130, ⟨g258, trivial, trivial⟩, trivial⟩, ⟨g194, trivial, trivial⟩⟩, ⟨g98, ⟨g162, ⟨g290, trivial, trivial⟩, trivial⟩, trivial⟩⟩, ⟨g50, ⟨g82, ⟨g146, ⟨g274, trivial, trivial⟩, trivial⟩, ⟨g210, trivial, trivial⟩⟩, ⟨g114, ⟨g178, trivial, trivial⟩, trivial⟩⟩⟩, ⟨g26, ⟨g42, ⟨g74, ⟨g138, ⟨g266, trivial, trivial⟩, trivial⟩, ⟨g202, trivial, trivial⟩⟩, ⟨g106, trivial, trivial⟩⟩, ⟨g58, ⟨g90, ⟨g154, trivial, trivial⟩, trivial⟩, ⟨trivial, trivial, ⟨g250, trivial, trivial⟩⟩⟩⟩⟩, ⟨g14, ⟨g22, ⟨g38, ⟨g70, ⟨g134, ⟨g262, trivial, trivial⟩, trivial⟩, ⟨g198, trivial, trivial⟩⟩, ⟨g102, ⟨g166, ⟨g294, trivial, trivial⟩, trivial⟩, trivial⟩⟩, ⟨g54, ⟨g86, ⟨g150, trivial, trivial⟩, trivial⟩, ⟨g118, ⟨trivial, ⟨g310, trivial, trivial⟩, trivial⟩, trivial⟩⟩⟩, ⟨g30, ⟨g46, ⟨g78, ⟨g142, ⟨g270, trivial, trivial⟩, trivial⟩, ⟨g206, trivial, trivial⟩⟩, ⟨g110, ⟨g174, ⟨g302, trivial, trivial⟩, trivial⟩, ⟨g238, trivial, trivial⟩⟩⟩, ⟨g62, ⟨g94, ⟨g158, ⟨g286, trivial, trivial⟩, trivial⟩, ⟨g222, trivial, trivial⟩⟩, ⟨trivial, ⟨g190, trivial, trivial⟩, ⟨g254, trivial, trivial⟩⟩⟩⟩⟩⟩⟩⟩

end Go.Fl
