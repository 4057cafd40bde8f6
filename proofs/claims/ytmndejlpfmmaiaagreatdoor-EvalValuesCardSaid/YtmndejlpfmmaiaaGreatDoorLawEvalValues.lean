/- The law EvalValues: it returns true, whatever it is handed, and what it was handed reads as before; its tied card. Its code's doings are proved in Ht; no condition. -/
import Derived.Test.YtmndejlpfmmaiaaGreatDoorZ12
namespace Go.Proofs.YtmndejlpfmmaiaaGreatDoor.evalValues
open Go Go.Proofs.YtmndejlpfmmaiaaGreatDoor.Fw Go.Proofs.YtmndejlpfmmaiaaGreatDoor.Ma Go.ChangeShapes Go.WideShapes Go.ChangeAt Go.RowKit
open Go.ChangeMaps (open_string shut_string)
set_option linter.unusedVariables false
set_option linter.unusedSimpArgs false
theorem laid_met (os : Os) : laidMet Tryz.prog Rows.evalValuesRow.laid ((zCm os).forCall (fun _ _ => 0) ⟨#[], #[.slice none 0 0, .slice none 0 0], []⟩).memory := laidMet_of_run' 8 (by kernel_rfl) (by kernel_rfl)
set_option maxRecDepth 100000 in
theorem lifted (os : Os) (started : os.Started) (H : Type) (enc : TypeId × Value → H) :
    ReturnsInHanded {} Tryz.checked os 12 .any (fun w args => (Rows.evalValuesSpec.pre enc Tryz.prog Tryz.f12 Rows.evalValuesRow.domain false w args ∧ laidMetH Tryz.prog Rows.evalValuesRow.laid w) ∧ sizedMet enc Tryz.prog Tryz.f12 (OpenSpec.ofChange Rows.evalValuesSpec) false w args)
      (Rows.evalValuesSpec.post enc Tryz.prog Tryz.f12 false true false false) := by
  refine returnsInHanded_of_change_and (C := Tryz.checked) (X := fun w _ => laidMetH Tryz.prog Rows.evalValuesRow.laid w) (fun _ _ _ hh h => h.of_heap hh) zHr started (by kernel_rfl) Tryz.func12
    (ChangeSpec.witness_at (enc := enc) (C := Tryz.checked) (os := os) (X := fun w _ => laidMetH Tryz.prog Rows.evalValuesRow.laid w) false (zCm os) #[.slice none 0 0, .slice none 0 0] 8 rfl (by kernel_rfl) (by kernel_rfl) (by kernel_rfl) (by kernel_rfl) (by kernel_rfl) (laid_met os)) ?_
  intro W base args ds gs before hval0 hW hcnd hsz0 hL _
  have hsz : (DataW.weightsEach Tryz.prog (Tryz.f12.params.toList ++ Rows.evalValuesSpec.plain.varTypes Tryz.prog) (ds ++ gs)).all (· ≤ reachBytes) = true := hsz0
  have hval : ∀ (j : Nat) t v, Tryz.f12.params[j]? = some t → args[j]? = some v → Value.okWide Tryz.prog W .any base t v := hval0
  have hW' := hW
  obtain ⟨p, q, hA0, hV, rfl, hfz, hnd⟩ := hW
  have hA : DataW.TrodAll enc Tryz.prog W 0 (fun _ => true) true Tryz.f12.params.toList args.toList ds p := hA0
  rw [Tryz.params12] at hA hval hsz
  obtain ⟨v0, vs0, d0, ds0, p0, q0, hargs, rfl, rfl, h0, r0⟩ := trodAll_cons hA
  obtain ⟨v1, vs1, d1, ds1, p1, q1, rfl, rfl, rfl, h1, r1⟩ := trodAll_cons r0
  obtain ⟨rfl, rfl, rfl⟩ := trodAll_nil r1
  obtain rfl : args = #[v0, v1] := by cases args; simp_all
  obtain ⟨rfl, rfl⟩ := trodVars_none hV
  have k0 := h0
  have lt0 : ∀ x ∈ p0, x.block < W.heap.size := by obtain ⟨m, hm⟩ := k0; exact DataW.trod_lt m _ _ _ hm
  obtain ⟨a0, m0, l0, e0⟩ : ∃ l : List Int, (∀ n, n ∈ l → -9223372036854775808 ≤ n ∧ n < 9223372036854775808) ∧ l.length < 9223372036854775808 ∧ Enc (zLF W) (zeh l) v0 := by
    obtain ⟨b, len, cap, rfl⟩ := okWide_slice Tryz.underlying26 (hval 0 26 v0 rfl rfl)
    obtain ⟨fuel, hf⟩ := h0
    exact zW3 Tryz.underlying26 Tryz.underlying2 (by kernel_rfl) (by simpa [Value.cells] using hf)
  have k1 := h1
  have lt1 : ∀ x ∈ p1, x.block < W.heap.size := by obtain ⟨m, hm⟩ := k1; exact DataW.trod_lt m _ _ _ hm
  obtain ⟨a1, m1, l1, e1⟩ : ∃ l : List Pt, (∀ n, n ∈ l → n.ok) ∧ l.length ≤ 8796093021952 ∧ Enc (zLF W) (zBr l false) v1 := by
    obtain ⟨b, len, cap, rfl⟩ := okWide_slice Tryz.underlying107 (hval 1 107 v1 rfl rfl)
    obtain ⟨fuel, hf⟩ := h1
    exact zLk Tryz.underlying107 Tryz.underlying112 rfl (by kernel_rfl) (by kernel_rfl) (by kernel_rfl) (by simpa [Value.cells] using hf) (zEa hsz (j := 1) (t := 107) rfl rfl)
  clear hA0 hval0 hsz0 hsz
  refine (zGW (fun hT hQ => zGt a0 a1 m0 m1 l0 l1 hT hQ) W (zH7 hL (by kernel_rfl)) #[v0, v1] rfl (fun i hi hi' => ?_)).mono fun e W' ⟨he, bel⟩ => ?_
  · match i, hi with
    | 0, _ => exact e0
    | 1, _ => exact e1
  subst he
  exact ⟨_, rfl, _, _, _, [], _, [], hW', trodAll_mk1 (shut_bool Tryz.underlying4 _), (trodAll_cons_mk (Below.trod zEb (by kernel_rfl) (of_decide_eq_true (by kernel_rfl)) k0 bel lt0) (trodAll_cons_mk (Below.trod zEb (by kernel_rfl) (of_decide_eq_true (by kernel_rfl)) k1 bel lt1) trodAll_mk0)), rfl, bel.frame _, fun h => by cases h⟩
theorem over : Rows.evalValuesRow.holds Tryz.pinned (OpenSpec.ofChange Rows.evalValuesSpec) :=
  OpenClaim.holds_of_wide 12 Tryz.f12 rfl rfl rfl rfl rfl rfl rfl ⟨rfl, rfl, rfl, rfl, rfl⟩ rfl rfl rfl rfl rfl named Tryz.func12 facts inst wrap
    (fun os started H enc _ => lifted os started H enc)
theorem said : Rows.EvalValuesSaid := over
/-- No parameter wants a stand-in; the program's own looks are off. -/
theorem plain (f : FuncId) (fn : Func) (hf : Tryz.pinned.checked.prog.funcNamed "swage/swagelaw11.EvalValues" = some f) (hfn : Tryz.pinned.checked.prog.funcs[f]? = some fn) :
    false = Tryz.pinned.checked.prog.looks [] ∧ ∀ (j : Nat) t, fn.params[j]? = some t → Tryz.pinned.checked.prog.wantsStandIn t = false := by
  obtain rfl : f = 12 := Option.some.inj ((show Tryz.prog.funcNamed "swage/swagelaw11.EvalValues" = some 12 by kernel_rfl).symm.trans hf) |>.symm
  obtain rfl : fn = Tryz.f12 := (Option.some.inj (Tryz.func12.symm.trans hfn)).symm
  refine ⟨by kernel_rfl, fun j t ht => ?_⟩
  rw [Tryz.params12] at ht
  have hm : t ∈ [26, 107] := by
    have := Array.mem_of_getElem? ht
    simpa using this
  simp only [List.mem_cons, List.not_mem_nil, or_false] at hm
  have z26 : Tryz.prog.wantsStandIn 26 = false := by kernel_rfl
  have z107 : Tryz.prog.wantsStandIn 107 = false := by kernel_rfl
  rcases hm with rfl | rfl
  · exact z26
  · exact z107
theorem card : Rows.EvalValuesCardSaid :=
  Claim7.holds_tied_plain_at .later [] _ _ _ _ said (fun _ h => by cases h) (by as_aux_lemma => kernel_rfl) (fun _ h => by cases h) evalValues_row_tie rfl ⟨rfl, rfl⟩ (by as_aux_lemma => kernel_rfl) rfl plain (by as_aux_lemma => kernel_rfl)
#print axioms card
end Go.Proofs.YtmndejlpfmmaiaaGreatDoor.evalValues
namespace Go.Proofs.YtmndejlpfmmaiaaGreatDoor
/-- The tied card, under a short name, for the claim. -/
theorem evalValues_holds : Rows.EvalValuesCardSaid := evalValues.card
end Go.Proofs.YtmndejlpfmmaiaaGreatDoor
