/-
  Pieces of the run, part 10.
-/
import Derived.Test.YtolmnccikdjjmaaGreatDoorRun3
import Derived.Test.YtolmnccikdjjmaaGreatDoorRun5
import Derived.Test.YtolmnccikdjjmaaGreatDoorRun7
import Derived.Test.YtolmnccikdjjmaaGreatDoorRun8
import Derived.Test.YtolmnccikdjjmaaGreatDoorFnb
import Derived.Test.YtolmnccikdjjmaaGreatDoorAkG
import Derived.KernelRfl
namespace Go.Fl
open Go.Ak Go.Ak.M
set_option maxRecDepth 100000

def c0 : Chunk := ⟨3, [], 0,
 [],
 T,
 [], 44115⟩
theorem ok0 (w : World) : ChunkOK (ctxC tab 298 w []) c0 := chunk_ok (cs := [c1, c19, c59, c77, c119, c153, c283, c301, c406, c433]) (okCons (ok1 w) (okCons (ok19 w) (okCons (ok59 w) (okCons (ok77 w) (okCons (ok119 w) (okCons (ok153 w) (okCons (ok283 w) (okCons (ok301 w) (okCons (ok406 w) (okCons (ok433 w) okNil)))))))))) (n := 100000) (by kernel_rfl)

end Go.Fl
