/-
  The functions in their own form are the program's, part 2.
  The table of the functions is the program's.
-/
import Derived.Test.YthigfnjbabcfnaaGreatDoorProg
import Derived.Test.YthigfnjbabcfnaaGreatDoorFnb
import Derived.Test.YthigfnjbabcfnaaGreatDoorAkG
import Derived.KernelRfl
import Derived.Test.YthigfnjbabcfnaaGreatDoorFnc
namespace Go.St
open Go.Ak Go.Proofs
set_option maxRecDepth 100000

theorem g4 : FnOK Tryz.prog 4 ir4 := ⟨by kernel_rfl⟩
theorem g6 : FnOK Tryz.prog 6 ir6 := ⟨by kernel_rfl⟩
theorem g8 : FnOK Tryz.prog 8 ir8 := ⟨by kernel_rfl⟩
theorem g10 : FnOK Tryz.prog 10 ir10 := ⟨by kernel_rfl⟩
theorem g12 : FnOK Tryz.prog 12 ir12 := ⟨by kernel_rfl⟩
theorem g14 : FnOK Tryz.prog 14 ir14 := ⟨by kernel_rfl⟩
theorem g16 : FnOK Tryz.prog 16 ir16 := ⟨by kernel_rfl⟩
theorem g18 : FnOK Tryz.prog 18 ir18 := ⟨by kernel_rfl⟩
theorem g20 : FnOK Tryz.prog 20 ir20 := ⟨by kernel_rfl⟩
theorem g22 : FnOK Tryz.prog 22 ir22 := ⟨by kernel_rfl⟩
theorem g24 : FnOK Tryz.prog 24 ir24 := ⟨by kernel_rfl⟩
theorem g26 : FnOK Tryz.prog 26 ir26 := ⟨by kernel_rfl⟩
theorem g28 : FnOK Tryz.prog 28 ir28 := ⟨by kernel_rfl⟩
theorem g30 : FnOK Tryz.prog 30 ir30 := ⟨by kernel_rfl⟩
theorem g32 : FnOK Tryz.prog 32 ir32 := ⟨by kernel_rfl⟩
theorem g34 : FnOK Tryz.prog 34 ir34 := ⟨by kernel_rfl⟩
theorem g36 : FnOK Tryz.prog 36 ir36 := ⟨by kernel_rfl⟩
theorem g38 : FnOK Tryz.prog 38 ir38 := ⟨by kernel_rfl⟩
theorem g40 : FnOK Tryz.prog 40 ir40 := ⟨by kernel_rfl⟩
theorem g42 : FnOK Tryz.prog 42 ir42 := ⟨by kernel_rfl⟩
theorem g44 : FnOK Tryz.prog 44 ir44 := ⟨by kernel_rfl⟩
theorem g46 : FnOK Tryz.prog 46 ir46 := ⟨by kernel_rfl⟩
theorem g49 : FnOK Tryz.prog 49 ir49 := ⟨by kernel_rfl⟩
theorem g51 : FnOK Tryz.prog 51 ir51 := ⟨by kernel_rfl⟩
theorem g53 : FnOK Tryz.prog 53 ir53 := ⟨by kernel_rfl⟩
theorem g55 : FnOK Tryz.prog 55 ir55 := ⟨by kernel_rfl⟩
theorem g57 : FnOK Tryz.prog 57 ir57 := ⟨by kernel_rfl⟩
theorem g59 : FnOK Tryz.prog 59 ir59 := ⟨by kernel_rfl⟩
theorem g61 : FnOK Tryz.prog 61 ir61 := ⟨by kernel_rfl⟩
theorem g63 : FnOK Tryz.prog 63 ir63 := ⟨by kernel_rfl⟩
theorem g65 : FnOK Tryz.prog 65 ir65 := ⟨by kernel_rfl⟩
theorem g67 : FnOK Tryz.prog 67 ir67 := ⟨by kernel_rfl⟩
theorem g69 : FnOK Tryz.prog 69 ir69 := ⟨by kernel_rfl⟩
theorem g71 : FnOK Tryz.prog 71 ir71 := ⟨by kernel_rfl⟩
theorem g73 : FnOK Tryz.prog 73 ir73 := ⟨by kernel_rfl⟩
theorem g75 : FnOK Tryz.prog 75 ir75 := ⟨by kernel_rfl⟩
theorem g77 : FnOK Tryz.prog 77 ir77 := ⟨by kernel_rfl⟩
theorem g79 : FnOK Tryz.prog 79 ir79 := ⟨by kernel_rfl⟩
theorem g81 : FnOK Tryz.prog 81 ir81 := ⟨by kernel_rfl⟩
theorem g83 : FnOK Tryz.prog 83 ir83 := ⟨by kernel_rfl⟩
theorem g85 : FnOK Tryz.prog 85 ir85 := ⟨by kernel_rfl⟩
theorem g87 : FnOK Tryz.prog 87 ir87 := ⟨by kernel_rfl⟩
theorem g89 : FnOK Tryz.prog 89 ir89 := ⟨by kernel_rfl⟩
theorem g91 : FnOK Tryz.prog 91 ir91 := ⟨by kernel_rfl⟩
theorem g93 : FnOK Tryz.prog 93 ir93 := ⟨by kernel_rfl⟩
theorem g95 : FnOK Tryz.prog 95 ir95 := ⟨by kernel_rfl⟩
theorem g97 : FnOK Tryz.prog 97 ir97 := ⟨by kernel_rfl⟩
theorem g99 : FnOK Tryz.prog 99 ir99 := ⟨by kernel_rfl⟩
theorem g101 : FnOK Tryz.prog 101 ir101 := ⟨by kernel_rfl⟩
theorem g103 : FnOK Tryz.prog 103 ir103 := ⟨by kernel_rfl⟩
theorem g105 : FnOK Tryz.prog 105 ir105 := ⟨by kernel_rfl⟩
theorem g107 : FnOK Tryz.prog 107 ir107 := ⟨by kernel_rfl⟩
theorem g110 : FnOK Tryz.prog 110 ir110 := ⟨by kernel_rfl⟩
theorem g112 : FnOK Tryz.prog 112 ir112 := ⟨by kernel_rfl⟩
theorem g114 : FnOK Tryz.prog 114 ir114 := ⟨by kernel_rfl⟩
theorem g116 : FnOK Tryz.prog 116 ir116 := ⟨by kernel_rfl⟩
theorem g118 : FnOK Tryz.prog 118 ir118 := ⟨by kernel_rfl⟩
theorem g121 : FnOK Tryz.prog 121 ir121 := ⟨by kernel_rfl⟩
theorem g123 : FnOK Tryz.prog 123 ir123 := ⟨by kernel_rfl⟩
theorem g125 : FnOK Tryz.prog 125 ir125 := ⟨by kernel_rfl⟩
theorem g127 : FnOK Tryz.prog 127 ir127 := ⟨by kernel_rfl⟩
theorem g129 : FnOK Tryz.prog 129 ir129 := ⟨by kernel_rfl⟩
theorem g131 : FnOK Tryz.prog 131 ir131 := ⟨by kernel_rfl⟩
theorem g133 : FnOK Tryz.prog 133 ir133 := ⟨by kernel_rfl⟩
theorem g135 : FnOK Tryz.prog 135 ir135 := ⟨by kernel_rfl⟩
theorem g137 : FnOK Tryz.prog 137 ir137 := ⟨by kernel_rfl⟩
theorem g139 : FnOK Tryz.prog 139 ir139 := ⟨by kernel_rfl⟩
theorem g141 : FnOK Tryz.prog 141 ir141 := ⟨by kernel_rfl⟩
theorem g143 : FnOK Tryz.prog 143 ir143 := ⟨by kernel_rfl⟩
theorem g145 : FnOK Tryz.prog 145 ir145 := ⟨by kernel_rfl⟩
theorem g147 : FnOK Tryz.prog 147 ir147 := ⟨by kernel_rfl⟩
theorem g149 : FnOK Tryz.prog 149 ir149 := ⟨by kernel_rfl⟩
theorem g151 : FnOK Tryz.prog 151 ir151 := ⟨by kernel_rfl⟩
theorem g153 : FnOK Tryz.prog 153 ir153 := ⟨by kernel_rfl⟩
theorem g155 : FnOK Tryz.prog 155 ir155 := ⟨by kernel_rfl⟩
theorem g157 : FnOK Tryz.prog 157 ir157 := ⟨by kernel_rfl⟩
theorem g159 : FnOK Tryz.prog 159 ir159 := ⟨by kernel_rfl⟩
theorem g161 : FnOK Tryz.prog 161 ir161 := ⟨by kernel_rfl⟩
theorem g163 : FnOK Tryz.prog 163 ir163 := ⟨by kernel_rfl⟩
theorem g165 : FnOK Tryz.prog 165 ir165 := ⟨by kernel_rfl⟩
theorem g167 : FnOK Tryz.prog 167 ir167 := ⟨by kernel_rfl⟩
theorem g169 : FnOK Tryz.prog 169 ir169 := ⟨by kernel_rfl⟩
theorem g171 : FnOK Tryz.prog 171 ir171 := ⟨by kernel_rfl⟩
theorem g181 : FnOK Tryz.prog 181 ir181 := ⟨by kernel_rfl⟩
theorem g183 : FnOK Tryz.prog 183 ir183 := ⟨by kernel_rfl⟩
theorem g185 : FnOK Tryz.prog 185 ir185 := ⟨by kernel_rfl⟩
theorem g187 : FnOK Tryz.prog 187 ir187 := ⟨by kernel_rfl⟩
theorem g189 : FnOK Tryz.prog 189 ir189 := ⟨by kernel_rfl⟩
theorem g191 : FnOK Tryz.prog 191 ir191 := ⟨by kernel_rfl⟩
theorem g193 : FnOK Tryz.prog 193 ir193 := ⟨by kernel_rfl⟩
theorem g195 : FnOK Tryz.prog 195 ir195 := ⟨by kernel_rfl⟩
theorem g197 : FnOK Tryz.prog 197 ir197 := ⟨by kernel_rfl⟩
theorem g201 : FnOK Tryz.prog 201 ir201 := ⟨by kernel_rfl⟩
theorem g203 : FnOK Tryz.prog 203 ir203 := ⟨by kernel_rfl⟩
theorem g207 : FnOK Tryz.prog 207 ir207 := ⟨by kernel_rfl⟩
theorem g210 : FnOK Tryz.prog 210 ir210 := ⟨by kernel_rfl⟩
theorem g212 : FnOK Tryz.prog 212 ir212 := ⟨by kernel_rfl⟩
theorem g219 : FnOK Tryz.prog 219 ir219 := ⟨by kernel_rfl⟩
theorem g222 : FnOK Tryz.prog 222 ir222 := ⟨by kernel_rfl⟩
theorem g224 : FnOK Tryz.prog 224 ir224 := ⟨by kernel_rfl⟩
theorem g226 : FnOK Tryz.prog 226 ir226 := ⟨by kernel_rfl⟩
theorem g228 : FnOK Tryz.prog 228 ir228 := ⟨by kernel_rfl⟩
theorem g231 : FnOK Tryz.prog 231 ir231 := ⟨by kernel_rfl⟩
theorem g234 : FnOK Tryz.prog 234 ir234 := ⟨by kernel_rfl⟩
theorem g240 : FnOK Tryz.prog 240 ir240 := ⟨by kernel_rfl⟩
theorem g242 : FnOK Tryz.prog 242 ir242 := ⟨by kernel_rfl⟩
theorem g245 : FnOK Tryz.prog 245 ir245 := ⟨by kernel_rfl⟩
theorem g247 : FnOK Tryz.prog 247 ir247 := ⟨by kernel_rfl⟩
theorem g251 : FnOK Tryz.prog 251 ir251 := ⟨by kernel_rfl⟩

end Go.St

namespace Go.St
open Go.Ak Go.Proofs
set_option maxRecDepth 100000

theorem tab_ok : TrieAll (FnOK Tryz.prog) tab (fun n => n) := ⟨trivial, ⟨trivial, ⟨g3, ⟨g7, ⟨g15, ⟨g31, ⟨g63, ⟨g127, trivial, trivial⟩, ⟨g191, trivial, trivial⟩⟩, ⟨g95, ⟨g159, trivial, trivial⟩, ⟨g223, trivial, trivial⟩⟩⟩, ⟨g47, ⟨g79, ⟨g143, trivial, trivial⟩, ⟨g207, trivial, trivial⟩⟩, ⟨g111, trivial, trivial⟩⟩⟩, ⟨g23, ⟨g39, ⟨g71, ⟨g135, trivial, trivial⟩, ⟨g199, trivial, trivial⟩⟩, ⟨g103, ⟨g167, trivial, trivial⟩, ⟨g231, trivial, trivial⟩⟩⟩, ⟨g55, ⟨g87, ⟨g151, trivial, trivial⟩, trivial⟩, ⟨g119, ⟨g183, trivial, trivial⟩, ⟨g247, trivial, trivial⟩⟩⟩⟩⟩, ⟨g11, ⟨g19, ⟨g35, ⟨g67, ⟨g131, trivial, trivial⟩, ⟨g195, trivial, trivial⟩⟩, ⟨g99, ⟨g163, trivial, trivial⟩, ⟨g227, trivial, trivial⟩⟩⟩, ⟨g51, ⟨g83, ⟨g147, trivial, trivial⟩, ⟨g211, trivial, trivial⟩⟩, ⟨g115, trivial, trivial⟩⟩⟩, ⟨g27, ⟨g43, ⟨g75, ⟨g139, trivial, trivial⟩, ⟨g203, trivial, trivial⟩⟩, ⟨g107, ⟨g171, trivial, trivial⟩, trivial⟩⟩, ⟨g59, ⟨g91, ⟨g155, trivial, trivial⟩, ⟨g219, trivial, trivial⟩⟩, ⟨g123, ⟨g187, trivial, trivial⟩, ⟨g251, trivial, trivial⟩⟩⟩⟩⟩⟩, ⟨g5, ⟨g9, ⟨g17, ⟨g33, ⟨g65, ⟨g129, trivial, trivial⟩, ⟨g193, trivial, trivial⟩⟩, ⟨g97, ⟨g161, trivial, trivial⟩, ⟨g225, trivial, trivial⟩⟩⟩, ⟨g49, ⟨g81, ⟨g145, trivial, trivial⟩, trivial⟩, ⟨g113, ⟨g177, trivial, trivial⟩, ⟨g241, trivial, trivial⟩⟩⟩⟩, ⟨g25, ⟨g41, ⟨g73, ⟨g137, trivial, trivial⟩, ⟨g201, trivial, trivial⟩⟩, ⟨g105, ⟨g169, trivial, trivial⟩, ⟨g233, trivial, trivial⟩⟩⟩, ⟨g57, ⟨g89, ⟨g153, trivial, trivial⟩, trivial⟩, ⟨g121, ⟨g185, trivial, trivial⟩, ⟨g249, trivial, trivial⟩⟩⟩⟩⟩, ⟨g13, ⟨g21, ⟨g37, ⟨g69, ⟨g133, trivial, trivial⟩, ⟨g197, trivial, trivial⟩⟩, ⟨g101, ⟨g165, trivial, trivial⟩, ⟨g229, trivial, trivial⟩⟩⟩, ⟨g53, ⟨g85, ⟨g149, trivial, trivial⟩, trivial⟩, ⟨g117, ⟨g181, trivial, trivial⟩, ⟨g245, trivial, trivial⟩⟩⟩⟩, ⟨g29, ⟨g45, ⟨g77, ⟨g141, trivial, trivial⟩, trivial⟩, ⟨trivial, trivial, ⟨g237, trivial, trivial⟩⟩⟩, ⟨g61, ⟨g93, ⟨g157, trivial, trivial⟩, trivial⟩, ⟨g125, ⟨g189, trivial, trivial⟩, trivial⟩⟩⟩⟩⟩⟩, ⟨trivial, ⟨g4, ⟨g8, ⟨g16, ⟨g32, ⟨g64, ⟨g128, trivial, trivial⟩, ⟨g192, trivial, trivial⟩⟩, ⟨g96, ⟨g160, trivial, trivial⟩, ⟨g224, trivial, trivial⟩⟩⟩, ⟨trivial, ⟨g80, ⟨g144, trivial, trivial⟩, ⟨g208, trivial, trivial⟩⟩, ⟨g112, trivial, ⟨g240, trivial, trivial⟩⟩⟩⟩, ⟨g24, ⟨g40, ⟨g72, ⟨g136, trivial, trivial⟩, trivial⟩, ⟨g104, ⟨g168, trivial, trivial⟩, trivial⟩⟩, ⟨g56, ⟨g88, ⟨g152, trivial, trivial⟩, trivial⟩, ⟨trivial, ⟨g184, trivial, trivial⟩, trivial⟩⟩⟩⟩, ⟨g12, ⟨g20, ⟨g36, ⟨g68, ⟨g132, trivial, trivial⟩, ⟨g196, trivial, trivial⟩⟩, ⟨g100, ⟨g164, trivial, trivial⟩, ⟨g228, trivial, trivial⟩⟩⟩, ⟨g52, ⟨g84, ⟨g148, trivial, trivial⟩, ⟨g212, trivial, trivial⟩⟩, ⟨g116, trivial, ⟨g244, trivial, trivial⟩⟩⟩⟩, ⟨g28, ⟨g44, ⟨g76, ⟨g140, trivial, trivial⟩, trivial⟩, ⟨g108, trivial, trivial⟩⟩, ⟨g60, ⟨g92, ⟨g156, trivial, trivial⟩, ⟨g220, trivial, trivial⟩⟩, ⟨g124, ⟨g188, trivial, trivial⟩, trivial⟩⟩⟩⟩⟩, ⟨g6, ⟨g10, ⟨g18, ⟨g34, ⟨g66, ⟨g130, trivial, trivial⟩, ⟨g194, trivial, trivial⟩⟩, ⟨g98, ⟨g162, trivial, trivial⟩, ⟨g226, trivial, trivial⟩⟩⟩, ⟨g50, ⟨g82, ⟨g146, trivial, trivial⟩, ⟨g210, trivial, trivial⟩⟩, ⟨g114, trivial, ⟨g242, trivial, trivial⟩⟩⟩⟩, ⟨g26, ⟨g42, ⟨g74, ⟨g138, trivial, trivial⟩, ⟨g202, trivial, trivial⟩⟩, ⟨g106, ⟨g170, trivial, trivial⟩, ⟨g234, trivial, trivial⟩⟩⟩, ⟨g58, ⟨g90, ⟨g154, trivial, trivial⟩, ⟨g218, trivial, trivial⟩⟩, ⟨g122, ⟨g186, trivial, trivial⟩, trivial⟩⟩⟩⟩, ⟨g14, ⟨g22, ⟨g38, ⟨g70, ⟨g134, trivial, trivial⟩, trivial⟩, ⟨g102, ⟨g166, trivial, trivial⟩, trivial⟩⟩, ⟨g54, ⟨g86, ⟨g150, trivial, trivial⟩, trivial⟩, ⟨g118, ⟨g182, trivial, trivial⟩, ⟨g246, trivial, trivial⟩⟩⟩⟩, ⟨g30, ⟨g46, ⟨g78, ⟨g142, trivial, trivial⟩, ⟨g206, trivial, trivial⟩⟩, ⟨g110, trivial, trivial⟩⟩, ⟨g62, ⟨g94, ⟨g158, trivial, trivial⟩, ⟨g222, trivial, trivial⟩⟩, ⟨g126, ⟨g190, trivial, trivial⟩, trivial⟩⟩⟩⟩⟩⟩⟩

end Go.St
