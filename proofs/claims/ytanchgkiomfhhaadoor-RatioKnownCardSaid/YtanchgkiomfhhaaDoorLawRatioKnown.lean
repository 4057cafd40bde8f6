/- The law RatioKnown: it returns true, whatever it is handed, and what it was handed reads as before; its tied card. Its code's doings are proved in Qp; no condition. -/
import Derived.Test.YtanchgkiomfhhaaDoorZ11
import Derived.Deep.DeepHandedRow
import Derived.JoinedCond
namespace Go.Proofs.YtanchgkiomfhhaaDoor.ratioKnown
open Go Go.Proofs.YtanchgkiomfhhaaDoor.Fw Go.Proofs.YtanchgkiomfhhaaDoor.Ma Go.ChangeShapes Go.WideShapes Go.ChangeAt Go.RowKit
open Go.ChangeMaps (open_string shut_string)
set_option linter.unusedVariables false
set_option linter.unusedSimpArgs false
theorem laid_met (os : Os) : laidMet Tryd.prog Rows.ratioKnownRow.laid ((laidWorld os).forCall (fun _ _ => 0) ⟨#[], #[], []⟩).memory := laidMet_of_run' 8 (by kernel_rfl) (by kernel_rfl)
theorem reads (os : Os) {H : Type} (enc : TypeId × Value → H) : ∃ places, DataW.whole enc Tryd.prog ((laidWorld os).forCall (fun _ _ => 0) ⟨#[], #[], []⟩).memory Tryd.f22.params.toList Rows.ratioKnownSpec.vars false (#[] : Array Value).toList 8 = some ([], [], places) :=
  ⟨[], by kernel_rfl⟩
set_option maxRecDepth 100000 in
theorem lifted (os : Os) (started : os.Started) (H : Type) (enc : TypeId × Value → H) (F : Stop.Interp) :
    ReturnsInHanded {} Tryd.checked os 22 .any ((OpenSpec.ofChange Rows.ratioKnownSpec).preRow enc Tryd.prog Tryd.f22 Rows.ratioKnownRow.domain false Rows.ratioKnownRow.laid) (((OpenSpec.ofChange Rows.ratioKnownSpec).at F).post enc Tryd.prog Tryd.f22 false true false false) := by
  obtain ⟨places, hx⟩ := reads os enc
  refine returnsInHanded_of_row (C := Tryd.checked) (s := (OpenSpec.ofChange Rows.ratioKnownSpec)) ownKnobD started (by kernel_rfl) Tryd.func22
    (witness_row_at (enc := enc) (C := Tryd.checked) false (laidWorld os) #[] rfl (by kernel_rfl) (by kernel_rfl) (by kernel_rfl)
      (OpenSpec.preRow_of_cond 8 hx (by kernel_rfl) (fun k hk => by cases hk) (by kernel_rfl) (laid_met os))) ?_
  intro W base args ds gs before hval0 hW _ _ hsz0 hL hSh _
  have hsz : (DataW.weightsEach Tryd.prog (Tryd.f22.params.toList ++ Rows.ratioKnownSpec.plain.varTypes Tryd.prog) (ds ++ gs)).all (· ≤ reachBytes) = true := hsz0
  have hval : ∀ (j : Nat) t v, Tryd.f22.params[j]? = some t → args[j]? = some v → Value.okWide Tryd.prog W .any base t v := hval0
  have hW' := hW
  obtain ⟨p, q, hA0, hV, rfl, hfz, hnd⟩ := hW
  have hA : DataW.TrodAll enc Tryd.prog W 0 (fun _ => true) true Tryd.f22.params.toList args.toList ds p := hA0
  rw [Tryd.params22] at hA hval hsz
  obtain ⟨rfl, rfl, rfl⟩ := trodAll_none hA
  obtain ⟨rfl, rfl⟩ := trodVars_none hV
  clear hA0 hval0 hsz0 hsz
  refine (law_ml (fun hT hQ => ratioKnown_law hT hQ) W (ml_cell hSh) #[] rfl (fun i hi hi' => ?_)).mono fun e W' ⟨he, bel⟩ => ?_
  · exact absurd hi (by simp)
  subst he
  exact ⟨_, rfl, _, _, _, [], _, [], hW', trodAll_mk1 (shut_bool Tryd.underlying4 _), trodAll_mk0, rfl, bel.frame _, fun h => by cases h⟩
theorem over : Rows.ratioKnownRow.holds Tryd.pinned (OpenSpec.ofChange Rows.ratioKnownSpec) :=
  OpenClaim.holds_of_cond 22 Tryd.f22 rfl rfl rfl rfl rfl rfl rfl ⟨rfl, rfl, rfl, rfl, rfl⟩ rfl rfl rfl rfl rfl named Tryd.func22 facts inst wrap
    (fun os started H enc _ F => by rw [OpenClaim.pre_eq_preRow]; exact lifted os started H enc F)
theorem said : Rows.RatioKnownSaid := over
/-- No parameter wants a stand-in; the program's own looks are off. -/
theorem plain (f : FuncId) (fn : Func) (hf : Tryd.pinned.checked.prog.funcNamed "swage/swagelaw03.RatioKnown" = some f) (hfn : Tryd.pinned.checked.prog.funcs[f]? = some fn) :
    false = Tryd.pinned.checked.prog.looks [] ∧ ∀ (j : Nat) t, fn.params[j]? = some t → Tryd.pinned.checked.prog.wantsStandIn t = false := by
  obtain rfl : f = 22 := Option.some.inj ((show Tryd.prog.funcNamed "swage/swagelaw03.RatioKnown" = some 22 by kernel_rfl).symm.trans hf) |>.symm
  obtain rfl : fn = Tryd.f22 := (Option.some.inj (Tryd.func22.symm.trans hfn)).symm
  refine ⟨by kernel_rfl, fun j t ht => ?_⟩
  rw [Tryd.params22] at ht
  simp at ht
theorem card : Rows.RatioKnownCardSaid :=
  Claim7.holds_tied_plain_at .later [] _ _ _ _ said (fun _ h => by cases h) (by as_aux_lemma => kernel_rfl) (fun _ h => by cases h) ratioKnown_row_tie rfl ⟨rfl, rfl⟩ (by as_aux_lemma => kernel_rfl) rfl plain (by as_aux_lemma => kernel_rfl)
#print axioms card
end Go.Proofs.YtanchgkiomfhhaaDoor.ratioKnown
namespace Go.Proofs.YtanchgkiomfhhaaDoor
/-- The tied card, under a short name, for the claim. -/
theorem ratioKnown_holds : Rows.RatioKnownCardSaid := ratioKnown.card
end Go.Proofs.YtanchgkiomfhhaaDoor
