/- The law EvalPrograms: it returns true, whatever it is handed, and what it was handed reads as before; its tied card. Its code's doings are proved in Hg; no condition. -/
import Derived.Test.YtmndejlpfmmaiaaGreatDoorZ12
namespace Go.Proofs.YtmndejlpfmmaiaaGreatDoor.evalPrograms
open Go Go.Proofs.YtmndejlpfmmaiaaGreatDoor.Fw Go.Proofs.YtmndejlpfmmaiaaGreatDoor.Ma Go.ChangeShapes Go.WideShapes Go.ChangeAt Go.RowKit
open Go.ChangeMaps (open_string shut_string)
set_option linter.unusedVariables false
set_option linter.unusedSimpArgs false
theorem laid_met (os : Os) : laidMet Tryz.prog Rows.evalProgramsRow.laid ((zDB os).forCall (fun _ _ => 0) ⟨#[], #[.int .i64 0, .slice none 0 0], []⟩).memory := laidMet_of_run' 8 (by kernel_rfl) (by kernel_rfl)
set_option maxRecDepth 100000 in
theorem lifted (os : Os) (started : os.Started) (H : Type) (enc : TypeId × Value → H) :
    ReturnsInHanded {} Tryz.checked os 10 .any (fun w args => (Rows.evalProgramsSpec.pre enc Tryz.prog Tryz.f10 Rows.evalProgramsRow.domain false w args ∧ laidMetH Tryz.prog Rows.evalProgramsRow.laid w) ∧ sizedMet enc Tryz.prog Tryz.f10 (OpenSpec.ofChange Rows.evalProgramsSpec) false w args)
      (Rows.evalProgramsSpec.post enc Tryz.prog Tryz.f10 false true false false) := by
  refine returnsInHanded_of_change_and (C := Tryz.checked) (X := fun w _ => laidMetH Tryz.prog Rows.evalProgramsRow.laid w) (fun _ _ _ hh h => h.of_heap hh) zJC started (by kernel_rfl) Tryz.func10
    (ChangeSpec.witness_at (enc := enc) (C := Tryz.checked) (os := os) (X := fun w _ => laidMetH Tryz.prog Rows.evalProgramsRow.laid w) false (zDB os) #[.int .i64 0, .slice none 0 0] 8 rfl (by kernel_rfl) (by kernel_rfl) (by kernel_rfl) (by kernel_rfl) (by kernel_rfl) (laid_met os)) ?_
  intro W base args ds gs before hval0 hW hcnd hsz0 hL _
  have hsz : (DataW.weightsEach Tryz.prog (Tryz.f10.params.toList ++ Rows.evalProgramsSpec.plain.varTypes Tryz.prog) (ds ++ gs)).all (· ≤ reachBytes) = true := hsz0
  have hval : ∀ (j : Nat) t v, Tryz.f10.params[j]? = some t → args[j]? = some v → Value.okWide Tryz.prog W .any base t v := hval0
  have hW' := hW
  obtain ⟨p, q, hA0, hV, rfl, hfz, hnd⟩ := hW
  have hA : DataW.TrodAll enc Tryz.prog W 0 (fun _ => true) true Tryz.f10.params.toList args.toList ds p := hA0
  rw [Tryz.params10] at hA hval hsz
  obtain ⟨v0, vs0, d0, ds0, p0, q0, hargs, rfl, rfl, h0, r0⟩ := trodAll_cons hA
  obtain ⟨v1, vs1, d1, ds1, p1, q1, rfl, rfl, rfl, h1, r1⟩ := trodAll_cons r0
  obtain ⟨rfl, rfl, rfl⟩ := trodAll_nil r1
  obtain rfl : args = #[v0, v1] := by cases args; simp_all
  obtain ⟨rfl, rfl⟩ := trodVars_none hV
  obtain ⟨a0, rfl, rfl, rfl, w0⟩ := open_int Tryz.underlying3 (hval 0 3 v0 rfl rfl) h0
  have k1 := h1
  have lt1 : ∀ x ∈ p1, x.block < W.heap.size := by obtain ⟨m, hm⟩ := k1; exact DataW.trod_lt m _ _ _ hm
  obtain ⟨a1, m1, l1, e1⟩ : ∃ l : List Pt, (∀ n, n ∈ l → n.ok) ∧ l.length ≤ 8796093021952 ∧ Enc (zNJ W) (zDd l false) v1 := by
    obtain ⟨b, len, cap, rfl⟩ := okWide_slice Tryz.underlying107 (hval 1 107 v1 rfl rfl)
    obtain ⟨fuel, hf⟩ := h1
    exact zNO Tryz.underlying107 Tryz.underlying112 rfl (by kernel_rfl) (by kernel_rfl) (by kernel_rfl) (by simpa [Value.cells] using hf) (zEx hsz (j := 1) (t := 107) rfl rfl)
  clear hA0 hval0 hsz0 hsz
  refine (zGr (fun hT hQ => zFl a0 a1 m1 l1 (zQk w0) hT hQ) W (zIN hL (by kernel_rfl)) #[.int .i64 a0, v1] rfl (fun i hi hi' => ?_)).mono fun e W' ⟨he, bel⟩ => ?_
  · match i, hi with
    | 0, _ => exact (.int .i64 a0)
    | 1, _ => exact e1
  subst he
  exact ⟨_, rfl, _, _, _, [], _, [], hW', trodAll_mk1 (shut_bool Tryz.underlying4 _), (trodAll_cons_mk (shut_int Tryz.underlying3 w0) (trodAll_cons_mk (Below.trod zEe (by kernel_rfl) (of_decide_eq_true (by kernel_rfl)) k1 bel lt1) trodAll_mk0)), rfl, bel.frame _, fun h => by cases h⟩
theorem over : Rows.evalProgramsRow.holds Tryz.pinned (OpenSpec.ofChange Rows.evalProgramsSpec) :=
  OpenClaim.holds_of_wide 10 Tryz.f10 rfl rfl rfl rfl rfl rfl rfl ⟨rfl, rfl, rfl, rfl, rfl⟩ rfl rfl rfl rfl rfl named Tryz.func10 facts inst wrap
    (fun os started H enc _ => lifted os started H enc)
theorem said : Rows.EvalProgramsSaid := over
/-- No parameter wants a stand-in; the program's own looks are off. -/
theorem plain (f : FuncId) (fn : Func) (hf : Tryz.pinned.checked.prog.funcNamed "swage/swagelaw11.EvalPrograms" = some f) (hfn : Tryz.pinned.checked.prog.funcs[f]? = some fn) :
    false = Tryz.pinned.checked.prog.looks [] ∧ ∀ (j : Nat) t, fn.params[j]? = some t → Tryz.pinned.checked.prog.wantsStandIn t = false := by
  obtain rfl : f = 10 := Option.some.inj ((show Tryz.prog.funcNamed "swage/swagelaw11.EvalPrograms" = some 10 by kernel_rfl).symm.trans hf) |>.symm
  obtain rfl : fn = Tryz.f10 := (Option.some.inj (Tryz.func10.symm.trans hfn)).symm
  refine ⟨by kernel_rfl, fun j t ht => ?_⟩
  rw [Tryz.params10] at ht
  have hm : t ∈ [3, 107] := by
    have := Array.mem_of_getElem? ht
    simpa using this
  simp only [List.mem_cons, List.not_mem_nil, or_false] at hm
  have z3 : Tryz.prog.wantsStandIn 3 = false := by kernel_rfl
  have z107 : Tryz.prog.wantsStandIn 107 = false := by kernel_rfl
  rcases hm with rfl | rfl
  · exact z3
  · exact z107
theorem card : Rows.EvalProgramsCardSaid :=
  Claim7.holds_tied_plain_at .later [] _ _ _ _ said (fun _ h => by cases h) (by as_aux_lemma => kernel_rfl) (fun _ h => by cases h) evalPrograms_row_tie rfl ⟨rfl, rfl⟩ (by as_aux_lemma => kernel_rfl) rfl plain (by as_aux_lemma => kernel_rfl)
#print axioms card
end Go.Proofs.YtmndejlpfmmaiaaGreatDoor.evalPrograms
namespace Go.Proofs.YtmndejlpfmmaiaaGreatDoor
/-- The tied card, under a short name, for the claim. -/
theorem evalPrograms_holds : Rows.EvalProgramsCardSaid := evalPrograms.card
end Go.Proofs.YtmndejlpfmmaiaaGreatDoor
