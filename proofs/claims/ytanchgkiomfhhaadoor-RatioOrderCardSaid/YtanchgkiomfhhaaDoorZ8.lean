/- The texts FwZ Wz, joined. -/
import Derived.Test.YtanchgkiomfhhaaDoorZ7
import Derived.ProofKit
import Derived.Lib.SmallJoins
import Derived.SizedLaws
import Derived.OpenShut
import Derived.ShutString
import Derived.ChangeOld
import Derived.Below
import Derived.Test.YtanchgkiomfhhaaDoorCards
import Derived.Test.YtanchgkiomfhhaaDoorTie
import Derived.Handed
import Derived.LaidLaws
import Derived.LaidHandle
import Derived.SevenTiedAt
/- The framework, part Z: from what a law's code computes to the row: its arguments, its memory. -/
namespace Go.Proofs.YtanchgkiomfhhaaDoor.Fw
set_option linter.unusedSimpArgs false
set_option linter.unusedVariables false
open Go Go.Proofs.YtanchgkiomfhhaaDoor.Ma Go.ChangeShapes Go.WideShapes Go.ChangeAt Go.RowKit

/-- At a law's beginning nothing is its own. -/
def ctx0 (w : World) : Ctx := ⟨fun _ => 0, fun _ => False, fun _ => False, fun _ => none, w⟩
theorem ctx0_ok (w : World) : Ok (ctx0 w) :=
  ⟨fun _ h => absurd rfl h, ⟨0, fun _ h => h.elim False.elim False.elim⟩, fun _ _ h _ _ => absurd rfl h, fun _ _ h => by cases h⟩
theorem ctx0_mut {w : World} {k : Nat} : ¬ Mut (ctx0 w) k := fun ⟨_, h, _⟩ => h
theorem below_of_later {w : World} {c : Ctx} (h : Later (ctx0 w) c) : Below w.heap.size w c.w :=
  ⟨h.os, h.tape, h.output, h.size, fun k hk => (h.keep k hk ctx0_mut).1⟩
/-- A law that answers true. -/
theorem law_calls {P : Program} {f : FuncId} {args : List AV} (h : PFn P f args (.bool true)) (w : World) (vs : Array Value) (hn : vs.size = args.length) (he : ∀ i (h : i < args.length) (h' : i < vs.size), Enc (ctx0 w) (args[i]) (vs[i])) :
    Calls P f vs w fun e w' => e = .returned (.bool true) ∧ Below w.heap.size w w' := by
  refine ((h (fun _ => none) (fun r _ => r = .bool true) rfl).2 (ctx0 w) vs rfl (ctx0_ok w) hn he).mono ?_
  rintro e w' ⟨c, v, r, rfl, rfl, _, hl, hr, rfl⟩
  cases hr
  exact ⟨rfl, below_of_later hl⟩

section
variable {H : Type} {enc : TypeId × Value → H} {P : Program} {w : World} {base : Nat} {held : Bool}
/-- Two texts that are handed in. -/
theorem frac_in {r : Reach} {b0 : Nat} {t : TypeId} {f0 f1 : Field} {v : Value} {d : DataW H} {p : List MemPlace} (hs : P.underlying t = some (.struct #[f0, f1])) (hone : Go.Deep.oneCellFields P #[f0, f1] = true) (hC : P.cellsOf t = 2)
    (h0 : P.underlying f0.type = some .string) (h1 : P.underlying f1.type = some .string)
    (hv : Value.okWide P w r b0 t v) (h : DataW.Trod enc P w base (fun _ => true) held t v d p) :
    ∃ q : ByteArray × ByteArray, (q.1.size < 9223372036854775808 ∧ q.2.size < 9223372036854775808) ∧ Enc (ctx0 w) (.agg [.str q.1, .str q.2]) v := by
  obtain ⟨v0, v1, y0, y1, n, rfl, rfl, rfl, ha, hb⟩ := Go.Joins.open_agg2 hs hone hC hv h
  obtain ⟨s0, e0, _, g0⟩ := DataW.trod_string h0 ha
  obtain ⟨s1, e1, _, g1⟩ := DataW.trod_string h1 hb
  injection e0 with e0; injection e1 with e1
  subst e0; subst e1
  refine ⟨(s0, s1), ⟨by unfold maxLen at g0; dsimp only; omega, by unfold maxLen at g1; dsimp only; omega⟩, .agg _ _ rfl fun i hi hi' => ?_⟩
  match i, hi with
  | 0, _ => exact .str s0
  | 1, _ => exact .str s1
end
end Go.Proofs.YtanchgkiomfhhaaDoor.Fw

/- A world in which the library's tables are laid; what a call of a law gives its row. -/
namespace Go.Proofs.YtanchgkiomfhhaaDoor
set_option linter.unusedSimpArgs false
set_option linter.unusedVariables false
open Go

/-- One table more. -/
def layTable (cs : Array Value) : Obj → Obj
  | .cells _ t frozen => .cells cs t frozen
  | o => o
def bytesU8 (l : List Nat) : Array Value := (l.map fun (n : Nat) => Value.int .u8 n).toArray
noncomputable def laidWorld (os : Os) : World := { World.holding Tryd.prog os ⟨#[], #[], []⟩ with heap := (((World.holding Tryd.prog os ⟨#[], #[], []⟩).heap).modify 1 (layTable (bytesU8 Go.Pinned.utf8FirstZ))).modify 2 (layTable (bytesU8 [128, 191, 160, 191, 128, 159, 144, 191, 128, 143, 0, 0, 0, 0, 0, 0, 0, 0, 0, 0, 0, 0, 0, 0, 0, 0, 0, 0, 0, 0, 0, 0])) }
theorem ownKnobD : ownKnob Tryd.prog.godebug = none := by kernel_rfl
theorem laidOutD : laidOutB Tryd.prog = true := by kernel_rfl
end Go.Proofs.YtanchgkiomfhhaaDoor
