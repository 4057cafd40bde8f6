/- The texts Wz Wm, joined. -/
import Derived.Test.YtanchgkiomfhhaaDoorZ9
import Derived.Test.YtanchgkiomfhhaaDoorCards
import Derived.Test.YtanchgkiomfhhaaDoorTie
import Derived.Handed
import Derived.LaidLaws
import Derived.LaidHandle
import Derived.SevenTiedAt
import Derived.ShapedOpen
import Derived.Shelf.Vars
/- A world in which the library's tables are laid; what a call of a law gives its row. -/
namespace Go.Proofs.YtanchgkiomfhhaaDoor
set_option linter.unusedSimpArgs false
set_option linter.unusedVariables false
open Go

def layTable (cs : Array Value) : Obj → Obj
  | .cells _ t frozen => .cells cs t frozen
  | o => o
def bytesU8 (l : List Nat) : Array Value := (l.map fun (n : Nat) => Value.int .u8 n).toArray
noncomputable def laidWorld (os : Os) : World := { World.holding Tryd.prog os ⟨#[], #[], []⟩ with heap := (((World.holding Tryd.prog os ⟨#[], #[], []⟩).heap).modify 1 (layTable (bytesU8 Go.Pinned.utf8FirstZ))).modify 2 (layTable (bytesU8 [128, 191, 160, 191, 128, 159, 144, 191, 128, 143, 0, 0, 0, 0, 0, 0, 0, 0, 0, 0, 0, 0, 0, 0, 0, 0, 0, 0, 0, 0, 0, 0])) }
theorem ownKnobD : ownKnob Tryd.prog.godebug = none := by kernel_rfl
end Go.Proofs.YtanchgkiomfhhaaDoor

/- A law whose code reads a cell of the library's own, of which only its kind is known: what its call gives its row. -/
namespace Go.Proofs.YtanchgkiomfhhaaDoor.Fw
set_option linter.unusedSimpArgs false
set_option linter.unusedVariables false
open Go Go.Proofs.YtanchgkiomfhhaaDoor.Ma Go.ChangeShapes Go.WideShapes Go.ChangeAt Go.RowKit
set_option linter.unusedVariables false

def ctxM (w : World) (m : Int) : Ctx := ⟨fun b => b, fun b => b = 0, fun _ => False, fun b => if b = 0 then some (.glob 0 [.int .i64 m]) else none, w⟩
theorem ctxM_H (w : World) (m : Int) : MlH (ctxM w m).H := ⟨m, by simp [ctxM]⟩
theorem ctxM_some {w : World} {m : Int} {b : Nat} {x : ABlk} (h : (ctxM w m).H b = some x) : b = 0 ∧ x = .glob 0 [.int .i64 m] := by
  have h2 : (if b = 0 then some (ABlk.glob 0 [.int .i64 m]) else none) = some x := h
  split at h2
  · injection h2 with h2; exact ⟨‹_›, h2.symm⟩
  · cases h2
theorem ctxM_ne {w : World} {m : Int} {b : Nat} (h : (ctxM w m).H b ≠ none) : b = 0 := by
  cases e : (ctxM w m).H b with
  | none => exact absurd e h
  | some x => exact (ctxM_some e).1
theorem ctxM_mut {w : World} {m : Int} {k : Nat} : ¬ Mut (ctxM w m) k := by
  rintro ⟨b, h, _⟩
  cases e : (ctxM w m).H b with
  | none => rw [e] at h; exact h
  | some x => rw [e, (ctxM_some e).2] at h; exact h
theorem ctxM_later (w : World) (m : Int) : Later0 (ctx0 w) (ctxM w m) :=
  ⟨Nat.le_refl _, rfl, rfl, rfl, fun _ h => h.elim, fun _ _ h => h.elim, fun _ _ _ => ⟨rfl, ctxM_mut⟩⟩
theorem ctxM_ok {w : World} {m : Int} (h : w.cell? ⟨0, 0, none⟩ = some (.int .i64 m)) : Ok (ctxM w m) := by
  refine ⟨fun b hb => ctxM_ne hb, ⟨0 + 1, fun b hb => ?_⟩, fun b b' hb hb' _ => by rw [ctxM_ne hb, ctxM_ne hb'], fun b x hx => ?_⟩
  · rcases hb with hb | hb
    · have hb' : b = 0 := hb
      omega
    · exact hb.elim
  · obtain ⟨rfl, rfl⟩ := ctxM_some hx
    refine ⟨rfl, (spot_none h).2, fun _ => .int .i64 m, fun i hi => ?_, fun i hi => ?_⟩
    · match i, hi with
      | 0, _ => exact h
    · match i, hi with
      | 0, _ => exact .int .i64 m
theorem law_ml {P : Program} {f : FuncId} {args : List AV} (h : ∀ {H : AHeap} {Q : AV → AHeap → Prop}, MlH H → Q (.bool true) H → Run P f args H Q) (w : World) (ht : ∃ m, w.cell? ⟨0, 0, none⟩ = some (.int .i64 m)) (vs : Array Value) (hn : vs.size = args.length) (he : ∀ i (h : i < args.length) (h' : i < vs.size), Enc (ctx0 w) (args[i]) (vs[i])) :
    Calls P f vs w fun e w' => e = .returned (.bool true) ∧ Below w.heap.size w w' := by
  obtain ⟨m, hm⟩ := ht
  refine ((h (Q := fun r _ => r = .bool true) (ctxM_H w m) rfl).2 (ctxM w m) vs rfl (ctxM_ok hm) hn fun i h h' => (he i h h').later0 (ctxM_later w m)).mono ?_
  rintro e w' ⟨c, v, r, rfl, rfl, _, hl, hr, rfl⟩
  cases hr
  exact ⟨rfl, ⟨hl.os, hl.tape, hl.output, hl.size, fun k hk => (hl.keep k hk ctxM_mut).1⟩⟩
theorem ml_cell {w : World} (h : w.ShapedOpen Tryd.prog) : ∃ m, w.cell? ⟨0, 0, none⟩ = some (.int .i64 m) :=
  Go.Proofs.cell_of_shapedOpen_int (P := Tryd.prog) (t := 3) (zero := #[.int .i64 0]) h (of_decide_eq_true (by kernel_rfl)) (by kernel_rfl) rfl (by kernel_rfl) (by kernel_rfl) Tryd.underlying3
end Go.Proofs.YtanchgkiomfhhaaDoor.Fw
