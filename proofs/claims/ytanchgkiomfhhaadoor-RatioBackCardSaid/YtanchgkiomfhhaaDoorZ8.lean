/- The texts FwZ, joined. -/
import Derived.Test.YtanchgkiomfhhaaDoorZ7
import Derived.ProofKit
import Derived.Lib.SmallJoins
import Derived.SizedLaws
import Derived.OpenShut
import Derived.ShutString
import Derived.ChangeOld
import Derived.Below
/- The framework, part Z: from what a law's code computes to the row: its arguments, its memory. -/
namespace Go.Proofs.YtanchgkiomfhhaaDoor.Fw
set_option linter.unusedSimpArgs false
set_option linter.unusedVariables false
open Go Go.Proofs.YtanchgkiomfhhaaDoor.Ma Go.ChangeShapes Go.WideShapes Go.ChangeAt Go.RowKit

def ctx0 (w : World) : Ctx := ⟨fun _ => 0, fun _ => False, fun _ => False, fun _ => none, w⟩
section
variable {H : Type} {enc : TypeId × Value → H} {P : Program} {w : World} {base : Nat} {held : Bool}
theorem spot_none {a : Addr} {v : Value} (h : w.cell? a = some v) : a.spot = none ∧ a.block < w.heap.size := by
  unfold World.cell? at h
  split at h
  · rename_i hb
    split at h
    · cases h
    · rename_i hs
      exact ⟨by cases e : a.spot with
        | none => rfl
        | some x => rw [e] at hs; exact absurd rfl hs, (Array.getElem?_eq_some_iff.1 hb).1⟩
  · cases h
theorem frac_in {r : Reach} {b0 : Nat} {t : TypeId} {f0 f1 : Field} {v : Value} {d : DataW H} {p : List MemPlace} (hs : P.underlying t = some (.struct #[f0, f1])) (hone : Go.Deep.oneCellFields P #[f0, f1] = true) (hC : P.cellsOf t = 2)
    (h0 : P.underlying f0.type = some .string) (h1 : P.underlying f1.type = some .string)
    (hv : Value.okWide P w r b0 t v) (h : DataW.Trod enc P w base (fun _ => true) held t v d p) :
    ∃ q : ByteArray × ByteArray, (q.1.size < 9223372036854775808 ∧ q.2.size < 9223372036854775808) ∧ Enc (ctx0 w) (.agg [.str q.1, .str q.2]) v := by
  obtain ⟨v0, v1, y0, y1, n, rfl, rfl, rfl, ha, hb⟩ := Go.Joins.open_agg2 hs hone hC hv h
  obtain ⟨s0, e0, _, g0⟩ := DataW.trod_string h0 ha
  obtain ⟨s1, e1, _, g1⟩ := DataW.trod_string h1 hb
  injection e0 with e0; injection e1 with e1
  subst e0; subst e1
  refine ⟨(s0, s1), ⟨by unfold maxLen at g0; dsimp only; omega, by unfold maxLen at g1; dsimp only; omega⟩, .agg _ _ rfl fun i hi hi' => ?_⟩
  match i, hi with
  | 0, _ => exact .str s0
  | 1, _ => exact .str s1
theorem i64_in {n : Int} (h : (Lit.int .i64 n).wf = true) : -9223372036854775808 ≤ n ∧ n < 9223372036854775808 := by
  simp only [Lit.wf, IntKind.min, IntKind.max, IntKind.signed, IntKind.bits, Bool.and_eq_true, decide_eq_true_eq] at h
  simp at h; omega
end
end Go.Proofs.YtanchgkiomfhhaaDoor.Fw
