/- The texts Wz, joined. -/
import Derived.Test.YtmndejlpfmmaiaaDoorZ8
import Derived.Test.YtmndejlpfmmaiaaDoorCards
import Derived.Test.YtmndejlpfmmaiaaDoorTie
import Derived.Handed
import Derived.LaidLaws
import Derived.LaidHandle
import Derived.SevenTiedAt
set_option linter.unusedSimpArgs false
set_option linter.unusedVariables false
namespace Go.Proofs.YtmndejlpfmmaiaaDoor
open Go
def layTable(cs:Array Value):Obj→Obj
 |.cells _ t frozen=>.cells cs t frozen
 |o=>o
def bytesU8(l:List Nat):Array Value:=(l.map fun(n:Nat)=>Value.int .u8 n).toArray
noncomputable def laidWorld (os:Os):World:={ World.holding Tryd.prog os ⟨#[],#[],[]⟩with heap:=(((World.holding Tryd.prog os ⟨#[],#[],[]⟩).heap.modify 0 (layTable (bytesU8 [0,1,28,2,29,14,24,3,30,22,20,15,25,17,4,8,31,27,13,23,21,19,16,7,26,12,18,6,11,5,10,9]))).modify 3 (layTable (bytesU8 Go.Pinned.utf8FirstZ))).modify 4 (layTable (bytesU8 [128,191,160,191,128,159,144,191,128,143,0,0,0,0,0,0,0,0,0,0,0,0,0,0,0,0,0,0,0,0,0,0])) }
theorem ownKnobD:ownKnob Tryd.prog.godebug=none:=by kernel_rfl
end Go.Proofs.YtmndejlpfmmaiaaDoor
