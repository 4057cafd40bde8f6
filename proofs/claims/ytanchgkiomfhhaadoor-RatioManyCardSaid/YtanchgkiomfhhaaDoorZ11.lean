/- The texts Wz, joined. -/
import Derived.Test.YtanchgkiomfhhaaDoorZ10
import Derived.Test.YtanchgkiomfhhaaDoorCards
import Derived.Test.YtanchgkiomfhhaaDoorTie
import Derived.Handed
import Derived.LaidLaws
import Derived.LaidHandle
import Derived.SevenTiedAt
/- A world in which the library's tables are laid; what a call of a law gives its row. -/
namespace Go.Proofs.YtanchgkiomfhhaaDoor
set_option linter.unusedSimpArgs false
set_option linter.unusedVariables false
open Go

def layTable (cs : Array Value) : Obj → Obj
  | .cells _ t frozen => .cells cs t frozen
  | o => o
def bytesU8 (l : List Nat) : Array Value := (l.map fun (n : Nat) => Value.int .u8 n).toArray
noncomputable def laidWorld (os : Os) : World := { World.holding Tryd.prog os ⟨#[], #[], []⟩ with heap := (((World.holding Tryd.prog os ⟨#[], #[], []⟩).heap).modify 1 (layTable (bytesU8 Go.Pinned.utf8FirstZ))).modify 2 (layTable (bytesU8 [128, 191, 160, 191, 128, 159, 144, 191, 128, 143, 0, 0, 0, 0, 0, 0, 0, 0, 0, 0, 0, 0, 0, 0, 0, 0, 0, 0, 0, 0, 0, 0])) }
theorem ownKnobD : ownKnob Tryd.prog.godebug = none := by kernel_rfl
theorem laidOutD : laidOutB Tryd.prog = true := by kernel_rfl
end Go.Proofs.YtanchgkiomfhhaaDoor
