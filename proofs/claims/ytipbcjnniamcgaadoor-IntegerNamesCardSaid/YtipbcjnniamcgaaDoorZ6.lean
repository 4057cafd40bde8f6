/- The texts FwZ Wz, joined. -/
import Derived.Test.YtipbcjnniamcgaaDoorZ5
import Derived.ProofKit
import Derived.Lib.SmallJoins
import Derived.SizedLaws
import Derived.OpenShut
import Derived.ShutString
import Derived.ChangeOld
import Derived.Below
import Derived.Test.YtipbcjnniamcgaaDoorCards
import Derived.Test.YtipbcjnniamcgaaDoorTie
import Derived.Handed
import Derived.LaidLaws
import Derived.LaidHandle
import Derived.SevenTiedAt
/- The framework, part Z: from what a law's code computes to the row: its arguments, its memory. -/
namespace Go.Proofs.YtipbcjnniamcgaaDoor.Fw
set_option linter.unusedSimpArgs false
set_option linter.unusedVariables false
open Go Go.Proofs.YtipbcjnniamcgaaDoor.Ma Go.ChangeShapes Go.WideShapes Go.ChangeAt Go.RowKit

/-- At a law's beginning nothing is its own. -/
def ctx0 (w : World) : Ctx := ⟨fun _ => 0, fun _ => False, fun _ => False, fun _ => none, w⟩
theorem ctx0_ok (w : World) : Ok (ctx0 w) :=
  ⟨fun _ h => absurd rfl h, ⟨0, fun _ h => h.elim False.elim False.elim⟩, fun _ _ h _ _ => absurd rfl h, fun _ _ h => by cases h⟩
theorem ctx0_mut {w : World} {k : Nat} : ¬ Mut (ctx0 w) k := fun ⟨_, h, _⟩ => h
theorem below_of_later {w : World} {c : Ctx} (h : Later (ctx0 w) c) : Below w.heap.size w c.w :=
  ⟨h.os, h.tape, h.output, h.size, fun k hk => (h.keep k hk ctx0_mut).1⟩
/-- A law that answers true. -/
theorem law_calls {P : Program} {f : FuncId} {args : List AV} (h : PFn P f args (.bool true)) (w : World) (vs : Array Value) (hn : vs.size = args.length) (he : ∀ i (h : i < args.length) (h' : i < vs.size), Enc (ctx0 w) (args[i]) (vs[i])) :
    Calls P f vs w fun e w' => e = .returned (.bool true) ∧ Below w.heap.size w w' := by
  refine ((h (fun _ => none) (fun r _ => r = .bool true) rfl).2 (ctx0 w) vs rfl (ctx0_ok w) hn he).mono ?_
  rintro e w' ⟨c, v, r, rfl, rfl, _, hl, hr, rfl⟩
  cases hr
  exact ⟨rfl, below_of_later hl⟩

section
variable {H : Type} {enc : TypeId × Value → H} {P : Program} {w : World} {base : Nat} {held : Bool}
end
end Go.Proofs.YtipbcjnniamcgaaDoor.Fw

/- A world in which the library's tables are laid; what a call of a law gives its row. -/
namespace Go.Proofs.YtipbcjnniamcgaaDoor
set_option linter.unusedSimpArgs false
set_option linter.unusedVariables false
open Go

/-- One table more. -/
def layTable (cs : Array Value) : Obj → Obj
  | .cells _ t frozen => .cells cs t frozen
  | o => o
def bytesU8 (l : List Nat) : Array Value := (l.map fun (n : Nat) => Value.int .u8 n).toArray
noncomputable def laidWorld (os : Os) : World :=
  { World.holding Tryd.prog os ⟨#[], #[], []⟩ with heap := (((World.holding Tryd.prog os ⟨#[], #[], []⟩).heap.modify 0 (layTable (bytesU8 [0, 1, 28, 2, 29, 14, 24, 3, 30, 22, 20, 15, 25, 17, 4, 8, 31, 27, 13, 23, 21, 19, 16, 7, 26, 12, 18, 6, 11, 5, 10, 9]))).modify
      1 (layTable (bytesU8 Go.Pinned.utf8FirstZ))).modify 2 (layTable (bytesU8 [128, 191, 160, 191, 128, 159, 144, 191, 128, 143, 0, 0, 0, 0, 0, 0, 0, 0, 0, 0, 0, 0, 0, 0, 0, 0, 0, 0, 0, 0, 0, 0])) }
theorem ownKnobD : ownKnob Tryd.prog.godebug = none := by kernel_rfl
end Go.Proofs.YtipbcjnniamcgaaDoor
