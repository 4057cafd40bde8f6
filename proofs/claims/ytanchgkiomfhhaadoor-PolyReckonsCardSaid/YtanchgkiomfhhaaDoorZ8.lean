/- The texts FwZ FwV FwU, joined. -/
import Derived.Test.YtanchgkiomfhhaaDoorZ7
import Derived.ProofKit
import Derived.Lib.SmallJoins
import Derived.SizedLaws
import Derived.OpenShut
import Derived.ShutString
import Derived.ChangeOld
import Derived.Below
import Derived.Deep.SlicePairs
/- The framework, part Z: from what a law's code computes to the row: its arguments, its memory. -/
namespace Go.Proofs.YtanchgkiomfhhaaDoor.Fw
set_option linter.unusedSimpArgs false
set_option linter.unusedVariables false
open Go Go.Proofs.YtanchgkiomfhhaaDoor.Ma Go.ChangeShapes Go.WideShapes Go.ChangeAt Go.RowKit

def ctx0 (w : World) : Ctx := ⟨fun _ => 0, fun _ => False, fun _ => False, fun _ => none, w⟩
theorem ctx0_ok (w : World) : Ok (ctx0 w) :=
  ⟨fun _ h => absurd rfl h, ⟨0, fun _ h => h.elim False.elim False.elim⟩, fun _ _ h _ _ => absurd rfl h, fun _ _ h => by cases h⟩
theorem ctx0_mut {w : World} {k : Nat} : ¬ Mut (ctx0 w) k := fun ⟨_, h, _⟩ => h
theorem below_of_later {w : World} {c : Ctx} (h : Later (ctx0 w) c) : Below w.heap.size w c.w :=
  ⟨h.os, h.tape, h.output, h.size, fun k hk => (h.keep k hk ctx0_mut).1⟩
theorem law_calls {P : Program} {f : FuncId} {args : List AV} (h : PFn P f args (.bool true)) (w : World) (vs : Array Value) (hn : vs.size = args.length) (he : ∀ i (h : i < args.length) (h' : i < vs.size), Enc (ctx0 w) (args[i]) (vs[i])) :
    Calls P f vs w fun e w' => e = .returned (.bool true) ∧ Below w.heap.size w w' := by
  refine ((h (fun _ => none) (fun r _ => r = .bool true) rfl).2 (ctx0 w) vs rfl (ctx0_ok w) hn he).mono ?_
  rintro e w' ⟨c, v, r, rfl, rfl, _, hl, hr, rfl⟩
  cases hr
  exact ⟨rfl, below_of_later hl⟩

section
variable {H : Type} {enc : TypeId × Value → H} {P : Program} {w : World} {base : Nat} {held : Bool}
theorem spot_none {a : Addr} {v : Value} (h : w.cell? a = some v) : a.spot = none ∧ a.block < w.heap.size := by
  unfold World.cell? at h
  split at h
  · rename_i hb
    split at h
    · cases h
    · rename_i hs
      exact ⟨by cases e : a.spot with
        | none => rfl
        | some x => rw [e] at hs; exact absurd rfl hs, (Array.getElem?_eq_some_iff.1 hb).1⟩
  · cases h
theorem addr_eta {a : Addr} (h : a.spot = none) : a = ⟨a.block, a.off, none⟩ := by cases a; simp_all
theorem addr_add {a : Addr} (h : a.spot = none) (i : Nat) : a.add i = ⟨a.block, a.off + i, none⟩ := by
  unfold Addr.add
  split
  · rename_i e; subst e; exact addr_eta h
  · rfl
theorem i64_in {n : Int} (h : (Lit.int .i64 n).wf = true) : -9223372036854775808 ≤ n ∧ n < 9223372036854775808 := by
  simp only [Lit.wf, IntKind.min, IntKind.max, IntKind.signed, IntKind.bits, Bool.and_eq_true, decide_eq_true_eq] at h
  simp at h; omega
end
end Go.Proofs.YtanchgkiomfhhaaDoor.Fw

/- The framework, part V: rows of pairs, of whole numbers, that are handed in. -/
namespace Go.Proofs.YtanchgkiomfhhaaDoor.Fw
set_option linter.unusedSimpArgs false
set_option linter.unusedVariables false
open Go Go.Proofs.YtanchgkiomfhhaaDoor.Ma Go.ChangeShapes Go.WideShapes Go.ChangeAt Go.RowKit

section
variable {H : Type} {enc : TypeId × Value → H} {P : Program} {w : World} {base : Nat} {held : Bool}
theorem seq_nil {c : Ctx} : Enc c (.seq 0 [] false) (.slice none 0 0) :=
  .seq 0 [] false none 0 (fun _ => .bool true) (fun _ => rfl) (Nat.le_refl _) (by omega) (fun e => by cases e) (fun h => absurd h (by simp)) (.inl rfl) (fun i h => absurd h (by simp))
abbrev NumV := Bool × List Nat × Bool
def NumGood (q : NumV) : Prop := Lim 4294967296 q.2.1 ∧ q.2.1.length ≤ 140737488355328
def NumsC (l : List NumV) : List AV := l.flatMap fun q => [.bool q.1, LS q.2.1 q.2.2]
def NumsA (l : List NumV) : AV := .seq l.length (NumsC l) false
def FracsA (l : List (ByteArray × ByteArray)) : AV := .seq l.length (l.flatMap fun q => [.str q.1, .str q.2]) false
def I64s (l : List Int) : AV := .seq l.length (l.map fun n => .int .i64 n) false
theorem i64s_in {t e : TypeId} {fuel : Nat} {v : Value} {x : DataW H × List MemPlace} (ht : P.underlying t = some (.slice e)) (he : P.underlying e = some (.int .i64)) (hc : P.cellsOf e = 1)
    (h : DataW.trod enc P w base (fun _ => true) held fuel t [v] = some x) : ∃ l : List Int, (∀ n, n ∈ l → -9223372036854775808 ≤ n ∧ n < 9223372036854775808) ∧ l.length < 9223372036854775808 ∧ Enc (ctx0 w) (I64s l) v := by
  rcases open_ints ht he hc h with ⟨hcs, _⟩ | ⟨a, len, cap, zs, hcs, _, hl, hm, hz, _, hcell, hwf⟩
  · injection hcs with hcs; subst hcs
    exact ⟨[], by simp, by simp, seq_nil⟩
  · injection hcs with hcs; subst hcs
    simp only [if_true] at hz
    have hm' : cap < 2 ^ 63 := by unfold maxLen at hm; omega
    have hlen : (zs.take len).length = len := by rw [List.length_take]; omega
    refine ⟨zs.take len, fun n hn => i64_in (hwf n (List.mem_of_mem_take hn)), by omega, ?_⟩
    unfold I64s
    rw [hlen]
    have hml : ((zs.take len).map fun n => AV.int .i64 n).length = len := by rw [List.length_map, hlen]
    refine .seq len _ false (some a) cap (fun i => .int .i64 (zs.getD i 0)) (fun e => ?_) hl hm' (fun e => by cases e) (fun hpos => ?_) (.inr (by simp)) (fun i hi => ?_)
    · subst e; simp
    · have hlp : 0 < zs.length := by omega
      have hs := spot_none (hcell 0 hlp)
      have hs1 : a.spot = none := by have := hs.1; simpa [Addr.add] using this
      have hb1 : a.block < w.heap.size := by have := hs.2; simpa [Addr.add] using this
      refine ⟨a.block, a.off, by rw [← addr_eta hs1], ctx0_mut, hb1, fun i hi => ?_⟩
      have := hcell i (by omega)
      rwa [addr_add hs1] at this
    · have e1 : ((zs.take len).map fun n => AV.int .i64 n)[i] = .int .i64 (zs.getD i 0) := by
        have hi' : i < zs.length := by omega
        simp only [List.getElem_map, List.getElem_take]
        rw [List.getD_eq_getElem?_getD, List.getElem?_eq_getElem hi', Option.getD_some]
      rw [e1]; exact .int .i64 _
abbrev TwoV := List NumV × List NumV × NumV × NumV
def TwoA (q : TwoV) : AV := .agg [NumsA q.1, NumsA q.2.1, .bool q.2.2.1.1, LS q.2.2.1.2.1 q.2.2.1.2.2, .bool q.2.2.2.1, LS q.2.2.2.2.1 q.2.2.2.2.2]
def TwoGood (q : TwoV) : Prop := (∀ x, x ∈ q.1 → NumGood x) ∧ q.1.length ≤ 140737488355328 ∧ (∀ x, x ∈ q.2.1 → NumGood x) ∧ q.2.1.length ≤ 140737488355328 ∧ NumGood q.2.2.1 ∧ NumGood q.2.2.2
end
end Go.Proofs.YtanchgkiomfhhaaDoor.Fw

/- The framework, part U: a pair of whole numbers that is handed in. -/
namespace Go.Proofs.YtanchgkiomfhhaaDoor.Fw
set_option linter.unusedSimpArgs false
set_option linter.unusedVariables false
open Go Go.Proofs.YtanchgkiomfhhaaDoor.Ma Go.ChangeShapes Go.WideShapes Go.ChangeAt Go.RowKit
section
variable {P : Program} {H : Type} {enc : TypeId × Value → H} {w : World} {base : Nat} {held : Bool}
end
end Go.Proofs.YtanchgkiomfhhaaDoor.Fw
