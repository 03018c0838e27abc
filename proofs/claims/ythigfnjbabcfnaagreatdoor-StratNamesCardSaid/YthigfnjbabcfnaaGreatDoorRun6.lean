/-
  Pieces of the run, part 8.
-/
import Derived.Test.YthigfnjbabcfnaaGreatDoorRun3
import Derived.Test.YthigfnjbabcfnaaGreatDoorRun4
import Derived.Test.YthigfnjbabcfnaaGreatDoorRun2
import Derived.Test.YthigfnjbabcfnaaGreatDoorRun5
import Derived.Test.YthigfnjbabcfnaaGreatDoorFnb
import Derived.Test.YthigfnjbabcfnaaGreatDoorAkG
import Derived.KernelRfl
namespace Go.St
open Go.Ak Go.Ak.M
set_option maxRecDepth 100000

def c0 : Chunk := ⟨3, [], 0,
 [],
 T,
 [], 28414⟩
theorem ok0 (w : World) : ChunkOK 1 (ctxC tab 1 kb w []) c0 := chunk_ok (cs := [c19, c44, c47, c87, c121, c130, c232]) (okCons (ok19 w) (okCons (ok44 w) (okCons (ok47 w) (okCons (ok87 w) (okCons (ok121 w) (okCons (ok130 w) (okCons (ok232 w) okNil))))))) (n := 100000) (by kernel_rfl)

end Go.St
