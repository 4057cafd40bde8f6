/- The texts FwZ FwV FwU, joined. -/
import Derived.Test.YtanchgkiomfhhaaDoorZ7
import Derived.ProofKit
import Derived.Lib.SmallJoins
import Derived.SizedLaws
import Derived.OpenShut
import Derived.ShutString
import Derived.ChangeOld
import Derived.Below
import Derived.Deep.SlicePairs
/- The framework, part Z: from what a law's code computes to the row: its arguments, its memory. -/
namespace Go.Proofs.YtanchgkiomfhhaaDoor.Fw
set_option linter.unusedSimpArgs false
set_option linter.unusedVariables false
open Go Go.Proofs.YtanchgkiomfhhaaDoor.Ma Go.ChangeShapes Go.WideShapes Go.ChangeAt Go.RowKit

def ctx0 (w : World) : Ctx := ⟨fun _ => 0, fun _ => False, fun _ => False, fun _ => none, w⟩
theorem ctx0_ok (w : World) : Ok (ctx0 w) :=
  ⟨fun _ h => absurd rfl h, ⟨0, fun _ h => h.elim False.elim False.elim⟩, fun _ _ h _ _ => absurd rfl h, fun _ _ h => by cases h⟩
theorem ctx0_mut {w : World} {k : Nat} : ¬ Mut (ctx0 w) k := fun ⟨_, h, _⟩ => h
theorem below_of_later {w : World} {c : Ctx} (h : Later (ctx0 w) c) : Below w.heap.size w c.w :=
  ⟨h.os, h.tape, h.output, h.size, fun k hk => (h.keep k hk ctx0_mut).1⟩
theorem law_calls {P : Program} {f : FuncId} {args : List AV} (h : PFn P f args (.bool true)) (w : World) (vs : Array Value) (hn : vs.size = args.length) (he : ∀ i (h : i < args.length) (h' : i < vs.size), Enc (ctx0 w) (args[i]) (vs[i])) :
    Calls P f vs w fun e w' => e = .returned (.bool true) ∧ Below w.heap.size w w' := by
  refine ((h (fun _ => none) (fun r _ => r = .bool true) rfl).2 (ctx0 w) vs rfl (ctx0_ok w) hn he).mono ?_
  rintro e w' ⟨c, v, r, rfl, rfl, _, hl, hr, rfl⟩
  cases hr
  exact ⟨rfl, below_of_later hl⟩

section
variable {H : Type} {enc : TypeId × Value → H} {P : Program} {w : World} {base : Nat} {held : Bool}
end
end Go.Proofs.YtanchgkiomfhhaaDoor.Fw

/- The framework, part V: rows of pairs, of whole numbers, that are handed in. -/
namespace Go.Proofs.YtanchgkiomfhhaaDoor.Fw
set_option linter.unusedSimpArgs false
set_option linter.unusedVariables false
open Go Go.Proofs.YtanchgkiomfhhaaDoor.Ma Go.ChangeShapes Go.WideShapes Go.ChangeAt Go.RowKit

section
variable {H : Type} {enc : TypeId × Value → H} {P : Program} {w : World} {base : Nat} {held : Bool}
abbrev NumV := Bool × List Nat × Bool
def NumGood (q : NumV) : Prop := Lim 4294967296 q.2.1 ∧ q.2.1.length ≤ 140737488355328
def NumsC (l : List NumV) : List AV := l.flatMap fun q => [.bool q.1, LS q.2.1 q.2.2]
def NumsA (l : List NumV) : AV := .seq l.length (NumsC l) false
def FracsA (l : List (ByteArray × ByteArray)) : AV := .seq l.length (l.flatMap fun q => [.str q.1, .str q.2]) false
def I64s (l : List Int) : AV := .seq l.length (l.map fun n => .int .i64 n) false
abbrev TwoV := List NumV × List NumV × NumV × NumV
def TwoA (q : TwoV) : AV := .agg [NumsA q.1, NumsA q.2.1, .bool q.2.2.1.1, LS q.2.2.1.2.1 q.2.2.1.2.2, .bool q.2.2.2.1, LS q.2.2.2.2.1 q.2.2.2.2.2]
def TwoGood (q : TwoV) : Prop := (∀ x, x ∈ q.1 → NumGood x) ∧ q.1.length ≤ 140737488355328 ∧ (∀ x, x ∈ q.2.1 → NumGood x) ∧ q.2.1.length ≤ 140737488355328 ∧ NumGood q.2.2.1 ∧ NumGood q.2.2.2
end
end Go.Proofs.YtanchgkiomfhhaaDoor.Fw

/- The framework, part U: a pair of whole numbers that is handed in. -/
namespace Go.Proofs.YtanchgkiomfhhaaDoor.Fw
set_option linter.unusedSimpArgs false
set_option linter.unusedVariables false
open Go Go.Proofs.YtanchgkiomfhhaaDoor.Ma Go.ChangeShapes Go.WideShapes Go.ChangeAt Go.RowKit
section
variable {P : Program} {H : Type} {enc : TypeId × Value → H} {w : World} {base : Nat} {held : Bool}
end
end Go.Proofs.YtanchgkiomfhhaaDoor.Fw
