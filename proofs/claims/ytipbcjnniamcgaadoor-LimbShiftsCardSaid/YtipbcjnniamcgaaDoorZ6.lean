/- The texts FwZ Wz Wt, joined. -/
import Derived.Test.YtipbcjnniamcgaaDoorZ5
import Derived.ProofKit
import Derived.Lib.SmallJoins
import Derived.SizedLaws
import Derived.OpenShut
import Derived.ShutString
import Derived.ChangeOld
import Derived.Below
import Derived.Test.YtipbcjnniamcgaaDoorCards
import Derived.Test.YtipbcjnniamcgaaDoorTie
import Derived.Handed
import Derived.LaidLaws
import Derived.LaidHandle
import Derived.SevenTiedAt
import Derived.MakeChecks
import Derived.Lib.LaidTab
/- The framework, part Z: from what a law's code computes to the row: its arguments, its memory. -/
namespace Go.Proofs.YtipbcjnniamcgaaDoor.Fw
set_option linter.unusedSimpArgs false
set_option linter.unusedVariables false
open Go Go.Proofs.YtipbcjnniamcgaaDoor.Ma Go.ChangeShapes Go.WideShapes Go.ChangeAt Go.RowKit

/-- At a law's beginning nothing is its own. -/
def ctx0 (w : World) : Ctx := ⟨fun _ => 0, fun _ => False, fun _ => False, fun _ => none, w⟩
theorem ctx0_mut {w : World} {k : Nat} : ¬ Mut (ctx0 w) k := fun ⟨_, h, _⟩ => h
section
variable {H : Type} {enc : TypeId × Value → H} {P : Program} {w : World} {base : Nat} {held : Bool}
theorem spot_none {a : Addr} {v : Value} (h : w.cell? a = some v) : a.spot = none ∧ a.block < w.heap.size := by
  unfold World.cell? at h
  split at h
  · rename_i hb
    split at h
    · cases h
    · rename_i hs
      exact ⟨by cases e : a.spot with
        | none => rfl
        | some x => rw [e] at hs; exact absurd rfl hs, (Array.getElem?_eq_some_iff.1 hb).1⟩
  · cases h
theorem addr_eta {a : Addr} (h : a.spot = none) : a = ⟨a.block, a.off, none⟩ := by cases a; simp_all
theorem addr_add {a : Addr} (h : a.spot = none) (i : Nat) : a.add i = ⟨a.block, a.off + i, none⟩ := by
  unfold Addr.add
  split
  · rename_i e; subst e; exact addr_eta h
  · rfl
/-- A row of words that is handed in. -/
theorem words_in {t e : TypeId} {fuel : Nat} {v : Value} {x : DataW H × List MemPlace} (ht : P.underlying t = some (.slice e)) (he : P.underlying e = some (.int .u32)) (hc : P.cellsOf e = 1)
    (h : DataW.trod enc P w base (fun _ => true) held fuel t [v] = some x) : ∃ l : List Nat, Lim 4294967296 l ∧ l.length < 9223372036854775808 ∧ Enc (ctx0 w) (LS l false) v := by
  rcases open_ints ht he hc h with ⟨hcs, _⟩ | ⟨a, len, cap, zs, hcs, _, hl, hm, hz, _, hcell, hwf⟩
  · injection hcs with hcs; subst hcs
    exact ⟨[], Lim.nil _, by simp, .seq 0 [] false none 0 (fun _ => .bool true) (fun _ => rfl) (Nat.le_refl _) (by omega) (fun e => by cases e) (fun h => absurd h (by simp)) (.inl rfl) (fun i h => absurd h (by simp))⟩
  · injection hcs with hcs; subst hcs
    simp only [if_true] at hz
    have hm' : cap < 2 ^ 63 := by unfold maxLen at hm; omega
    have wf : ∀ n, n ∈ zs → 0 ≤ n ∧ n < 4294967296 := fun n hn => by
      have := hwf n hn
      simp only [Lit.wf, IntKind.min, IntKind.max, IntKind.signed, IntKind.bits, Bool.and_eq_true, decide_eq_true_eq] at this
      simp at this; omega
    refine ⟨(zs.take len).map Int.toNat, ?_, ?_, ?_⟩
    · intro y hy
      obtain ⟨n, hn, rfl⟩ := List.mem_map.1 hy
      have := wf n (List.mem_of_mem_take hn)
      omega
    · simp only [List.length_map, List.length_take]; omega
    · have hlen : ((zs.take len).map Int.toNat).length = len := by simp only [List.length_map, List.length_take]; omega
      unfold LS
      rw [hlen]
      refine .seq len _ false (some a) cap (fun i => .int .u32 (zs.getD i 0)) (fun e => ?_) hl hm' (fun e => by cases e) (fun hpos => ?_) (.inr (by simp)) (fun i hi => ?_)
      · subst e; simp [U]
      · have hlp : 0 < zs.length := by simp only [U_len, hlen] at hpos; omega
        have hs := spot_none (hcell 0 hlp)
        have hs1 : a.spot = none := by
          have := hs.1
          simpa [Addr.add] using this
        have hb1 : a.block < w.heap.size := by
          have := hs.2
          simpa [Addr.add] using this
        refine ⟨a.block, a.off, by rw [← addr_eta hs1], ctx0_mut, hb1, fun i hi => ?_⟩
        have hi' : i < zs.length := by simp only [U_len, hlen] at hi; omega
        have := hcell i hi'
        rwa [addr_add hs1] at this
      · have hi' : i < zs.length := by simp only [U_len, hlen] at hi; omega
        have hi2 : i < len := by simp only [U_len, hlen] at hi; omega
        have e1 : (U ((zs.take len).map Int.toNat))[i] = .int .u32 (zs.getD i 0) := by
          simp only [U, List.getElem_map, List.getElem_take]
          have h0 := wf (zs[i]) (List.getElem_mem hi')
          rw [Int.toNat_of_nonneg h0.1, List.getD_eq_getElem?_getD, List.getElem?_eq_getElem hi', Option.getD_some]
        rw [e1]; exact .int .u32 _
theorem i64_in {n : Int} (h : (Lit.int .i64 n).wf = true) : -9223372036854775808 ≤ n ∧ n < 9223372036854775808 := by
  simp only [Lit.wf, IntKind.min, IntKind.max, IntKind.signed, IntKind.bits, Bool.and_eq_true, decide_eq_true_eq] at h
  simp at h; omega
end
end Go.Proofs.YtipbcjnniamcgaaDoor.Fw

/- A world in which the library's tables are laid; what a call of a law gives its row. -/
namespace Go.Proofs.YtipbcjnniamcgaaDoor
set_option linter.unusedSimpArgs false
set_option linter.unusedVariables false
open Go

/-- One table more. -/
def layTable (cs : Array Value) : Obj → Obj
  | .cells _ t frozen => .cells cs t frozen
  | o => o
def bytesU8 (l : List Nat) : Array Value := (l.map fun (n : Nat) => Value.int .u8 n).toArray
noncomputable def laidWorld (os : Os) : World :=
  { World.holding Tryd.prog os ⟨#[], #[], []⟩ with heap := (((World.holding Tryd.prog os ⟨#[], #[], []⟩).heap.modify 0 (layTable (bytesU8 [0, 1, 28, 2, 29, 14, 24, 3, 30, 22, 20, 15, 25, 17, 4, 8, 31, 27, 13, 23, 21, 19, 16, 7, 26, 12, 18, 6, 11, 5, 10, 9]))).modify
      1 (layTable (bytesU8 Go.Pinned.utf8FirstZ))).modify 2 (layTable (bytesU8 [128, 191, 160, 191, 128, 159, 144, 191, 128, 143, 0, 0, 0, 0, 0, 0, 0, 0, 0, 0, 0, 0, 0, 0, 0, 0, 0, 0, 0, 0, 0, 0])) }
theorem ownKnobD : ownKnob Tryd.prog.godebug = none := by kernel_rfl
theorem laidOutD : laidOutB Tryd.prog = true := by kernel_rfl
end Go.Proofs.YtipbcjnniamcgaaDoor

/- A law that reads the library's table: what its call gives its row. -/
namespace Go.Proofs.YtipbcjnniamcgaaDoor.Fw
set_option linter.unusedSimpArgs false
set_option linter.unusedVariables false
open Go Go.Proofs.YtipbcjnniamcgaaDoor.Ma Go.ChangeShapes Go.WideShapes Go.ChangeAt Go.RowKit
set_option linter.unusedVariables false

/-- At a law's beginning nothing is its own; the table stands. -/
def ctxT (w : World) : Ctx := ⟨fun b => b, fun b => b = 0, fun _ => False, fun b => if b = 0 then some (.glob 0 tabC) else none, w⟩
def TabAt (w : World) : Prop := ∀ i, i < 32 → w.cell? ⟨0, i, none⟩ = some (.int .u8 ((deB.getD i 0 : Nat) : Int))
theorem ctxT_H (w : World) : TzH (ctxT w).H := by simp [TzH, ctxT]
theorem ctxT_some {w : World} {b : Nat} {x : ABlk} (h : (ctxT w).H b = some x) : b = 0 ∧ x = .glob 0 tabC := by
  have h2 : (if b = 0 then some (ABlk.glob 0 tabC) else none) = some x := h
  split at h2
  · injection h2 with h2; exact ⟨‹_›, h2.symm⟩
  · cases h2
theorem ctxT_ne {w : World} {b : Nat} (h : (ctxT w).H b ≠ none) : b = 0 := by
  cases e : (ctxT w).H b with
  | none => exact absurd e h
  | some x => exact (ctxT_some e).1
theorem ctxT_mut {w : World} {k : Nat} : ¬ Mut (ctxT w) k := by
  rintro ⟨b, h, _⟩
  cases e : (ctxT w).H b with
  | none => rw [e] at h; exact h
  | some x => rw [e, (ctxT_some e).2] at h; exact h
theorem ctxT_later (w : World) : Later0 (ctx0 w) (ctxT w) :=
  ⟨Nat.le_refl _, rfl, rfl, rfl, fun _ h => h.elim, fun _ _ h => h.elim, fun _ _ _ => ⟨rfl, ctxT_mut⟩⟩
theorem ctxT_ok {w : World} (h : TabAt w) : Ok (ctxT w) := by
  refine ⟨fun b hb => ctxT_ne hb, ⟨0 + 1, fun b hb => ?_⟩, fun b b' hb hb' _ => by rw [ctxT_ne hb, ctxT_ne hb'], fun b x hx => ?_⟩
  · rcases hb with hb | hb
    · have hb' : b = 0 := hb
      omega
    · exact hb.elim
  · obtain ⟨rfl, rfl⟩ := ctxT_some hx
    refine ⟨rfl, (spot_none (h 0 (by omega))).2, fun i => .int .u8 ((deB.getD i 0 : Nat) : Int), fun i hi => h i hi, fun i hi => ?_⟩
    have hi' : i < deB.length := by simpa [tabC] using hi
    have e : tabC[i] = AV.int .u8 ((deB.getD i 0 : Nat) : Int) := by
      simp only [tabC, List.getElem_map]
      rw [List.getD_eq_getElem?_getD, List.getElem?_eq_getElem hi', Option.getD_some]
    exact e ▸ Enc.int _ _
theorem law_tab {P : Program} {f : FuncId} {args : List AV} (h : ∀ {H : AHeap} {Q : AV → AHeap → Prop}, TzH H → Q (.bool true) H → Run P f args H Q) (w : World) (ht : TabAt w) (vs : Array Value) (hn : vs.size = args.length) (he : ∀ i (h : i < args.length) (h' : i < vs.size), Enc (ctx0 w) (args[i]) (vs[i])) :
    Calls P f vs w fun e w' => e = .returned (.bool true) ∧ Below w.heap.size w w' := by
  refine ((h (Q := fun r _ => r = .bool true) (ctxT_H w) rfl).2 (ctxT w) vs rfl (ctxT_ok ht) hn fun i h h' => (he i h h').later0 (ctxT_later w)).mono ?_
  rintro e w' ⟨c, v, r, rfl, rfl, _, hl, hr, rfl⟩
  cases hr
  exact ⟨rfl, ⟨hl.os, hl.tape, hl.output, hl.size, fun k hk => (hl.keep k hk ctxT_mut).1⟩⟩

theorem tab_at {w : World} {rest : List (String × DataW Unit)} (h : laidMetH Tryd.prog (("math/bits.deBruijn32tab", Lib.tabData .u8 (deB.map fun (n : Nat) => (n : Int))) :: rest) w) (hp : (rest.all fun x => x.2.handleName?.isNone) = true) : TabAt w := by
  rw [MakeChecks.laidMetH_plain _ _ _ (by rw [List.all_cons, hp]; rfl)] at h
  have ht := Lib.tabIs_of_head (g := 0) (t := 127) (e := 5) (n := 32) (by kernel_rfl) (by kernel_rfl) Tryd.underlying127 Tryd.underlying5 (by kernel_rfl) (by kernel_rfl) h
  intro i hi
  rw [ht.cell (g := 0) (by kernel_rfl) i (by rw [List.length_map]; exact hi)]
  congr 2
  have hi' : i < deB.length := hi
  rw [List.getD_eq_getElem?_getD, List.getElem?_map, List.getElem?_eq_getElem hi', Option.map_some, Option.getD_some, List.getD_eq_getElem?_getD, List.getElem?_eq_getElem hi', Option.getD_some]
end Go.Proofs.YtipbcjnniamcgaaDoor.Fw
