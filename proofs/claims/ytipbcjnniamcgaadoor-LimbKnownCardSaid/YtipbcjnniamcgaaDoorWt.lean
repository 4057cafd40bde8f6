/- A law that reads the library's table: what its call gives its row. -/
import Derived.Test.YtipbcjnniamcgaaDoorWz
import Derived.Test.YtipbcjnniamcgaaDoorTa
import Derived.MakeChecks
import Derived.Lib.LaidTab
namespace Go.Proofs.YtipbcjnniamcgaaDoor.Fw
set_option linter.unusedSimpArgs false
set_option linter.unusedVariables false
open Go Go.Proofs.YtipbcjnniamcgaaDoor.Ma Go.ChangeShapes Go.WideShapes Go.ChangeAt Go.RowKit
set_option linter.unusedVariables false

/-- At a law's beginning nothing is its own; the table stands. -/
def ctxT (w : World) : Ctx := ⟨fun b => b, fun b => b = 0, fun _ => False, fun b => if b = 0 then some (.glob 0 tabC) else none, w⟩
def TabAt (w : World) : Prop := ∀ i, i < 32 → w.cell? ⟨0, i, none⟩ = some (.int .u8 ((deB.getD i 0 : Nat) : Int))
theorem ctxT_H (w : World) : TzH (ctxT w).H := by simp [TzH, ctxT]
theorem ctxT_some {w : World} {b : Nat} {x : ABlk} (h : (ctxT w).H b = some x) : b = 0 ∧ x = .glob 0 tabC := by
  have h2 : (if b = 0 then some (ABlk.glob 0 tabC) else none) = some x := h
  split at h2
  · injection h2 with h2; exact ⟨‹_›, h2.symm⟩
  · cases h2
theorem ctxT_ne {w : World} {b : Nat} (h : (ctxT w).H b ≠ none) : b = 0 := by
  cases e : (ctxT w).H b with
  | none => exact absurd e h
  | some x => exact (ctxT_some e).1
theorem ctxT_mut {w : World} {k : Nat} : ¬ Mut (ctxT w) k := by
  rintro ⟨b, h, _⟩
  cases e : (ctxT w).H b with
  | none => rw [e] at h; exact h
  | some x => rw [e, (ctxT_some e).2] at h; exact h
theorem ctxT_later (w : World) : Later0 (ctx0 w) (ctxT w) :=
  ⟨Nat.le_refl _, rfl, rfl, rfl, fun _ h => h.elim, fun _ _ h => h.elim, fun _ _ _ => ⟨rfl, ctxT_mut⟩⟩
theorem ctxT_ok {w : World} (h : TabAt w) : Ok (ctxT w) := by
  refine ⟨fun b hb => ctxT_ne hb, ⟨0 + 1, fun b hb => ?_⟩, fun b b' hb hb' _ => by rw [ctxT_ne hb, ctxT_ne hb'], fun b x hx => ?_⟩
  · rcases hb with hb | hb
    · have hb' : b = 0 := hb
      omega
    · exact hb.elim
  · obtain ⟨rfl, rfl⟩ := ctxT_some hx
    refine ⟨rfl, (spot_none (h 0 (by omega))).2, fun i => .int .u8 ((deB.getD i 0 : Nat) : Int), fun i hi => h i hi, fun i hi => ?_⟩
    have hi' : i < deB.length := by simpa [tabC] using hi
    have e : tabC[i] = AV.int .u8 ((deB.getD i 0 : Nat) : Int) := by
      simp only [tabC, List.getElem_map]
      rw [List.getD_eq_getElem?_getD, List.getElem?_eq_getElem hi', Option.getD_some]
    exact e ▸ Enc.int _ _
theorem law_tab {P : Program} {f : FuncId} {args : List AV} (h : ∀ {H : AHeap} {Q : AV → AHeap → Prop}, TzH H → Q (.bool true) H → Run P f args H Q) (w : World) (ht : TabAt w) (vs : Array Value) (hn : vs.size = args.length) (he : ∀ i (h : i < args.length) (h' : i < vs.size), Enc (ctx0 w) (args[i]) (vs[i])) :
    Calls P f vs w fun e w' => e = .returned (.bool true) ∧ Below w.heap.size w w' := by
  refine ((h (Q := fun r _ => r = .bool true) (ctxT_H w) rfl).2 (ctxT w) vs rfl (ctxT_ok ht) hn fun i h h' => (he i h h').later0 (ctxT_later w)).mono ?_
  rintro e w' ⟨c, v, r, rfl, rfl, _, hl, hr, rfl⟩
  cases hr
  exact ⟨rfl, ⟨hl.os, hl.tape, hl.output, hl.size, fun k hk => (hl.keep k hk ctxT_mut).1⟩⟩

theorem tab_at {w : World} {rest : List (String × DataW Unit)} (h : laidMetH Tryd.prog (("math/bits.deBruijn32tab", Lib.tabData .u8 (deB.map fun (n : Nat) => (n : Int))) :: rest) w) (hp : (rest.all fun x => x.2.handleName?.isNone) = true) : TabAt w := by
  rw [MakeChecks.laidMetH_plain _ _ _ (by rw [List.all_cons, hp]; rfl)] at h
  have ht := Lib.tabIs_of_head (g := 0) (t := 127) (e := 5) (n := 32) (by kernel_rfl) (by kernel_rfl) Tryd.underlying127 Tryd.underlying5 (by kernel_rfl) (by kernel_rfl) h
  intro i hi
  rw [ht.cell (g := 0) (by kernel_rfl) i (by rw [List.length_map]; exact hi)]
  congr 2
  have hi' : i < deB.length := hi
  rw [List.getD_eq_getElem?_getD, List.getElem?_map, List.getElem?_eq_getElem hi', Option.map_some, Option.getD_some, List.getD_eq_getElem?_getD, List.getElem?_eq_getElem hi', Option.getD_some]
end Go.Proofs.YtipbcjnniamcgaaDoor.Fw
