/- What package swagelaw01 does to what it hands over: room behind it, and whether it was kept. -/
import Derived.Test.YtipbcjnniamcgaaDoorIn
import Derived.Test.YtipbcjnniamcgaaDoorSa
import Derived.Test.YtipbcjnniamcgaaDoorSe
import Derived.Test.YtipbcjnniamcgaaDoorSf
namespace Go.Proofs.YtipbcjnniamcgaaDoor.Fw
set_option linter.unusedSimpArgs false
set_option linter.unusedVariables false
open Go Go.Proofs.YtipbcjnniamcgaaDoor.Ma
set_option maxRecDepth 20000

/-- A row behind which two limbs more stand. -/
def Xr (l : List Nat) : AV := .ext l.length (U (l ++ [77, 78]))
theorem Wk.Xr {l : List Nat} : Wk (Xr l) (LS l false) := Wk.X
theorem PFn.wk {P : Program} {f : FuncId} {args args' : List AV} {r : AV} (h : PFn P f args' r) (w : Wks args args') : PFn P f args r := fun H Q hq => (h H Q hq).wk w
theorem PFn.x {P : Program} {f : FuncId} {l : List Nat} {r : AV} (h : PFn P f [LS l false] r) : PFn P f [Xr l] r := h.wk (.cons Wk.Xr .nil)
theorem PFn.x1 {P : Program} {f : FuncId} {l : List Nat} {y r : AV} (h : PFn P f [LS l false, y] r) : PFn P f [Xr l, y] r := h.wk (.cons Wk.Xr (.cons Wk.refl .nil))
theorem PFn.x2 {P : Program} {f : FuncId} {l : List Nat} {y r : AV} (h : PFn P f [y, LS l false] r) : PFn P f [y, Xr l] r := h.wk (.cons Wk.refl (.cons Wk.Xr .nil))
theorem PFn.xx {P : Program} {f : FuncId} {l m : List Nat} {r : AV} (h : PFn P f [LS l false, LS m false] r) : PFn P f [Xr l, Xr m] r := h.wk (.cons Wk.Xr (.cons Wk.Xr .nil))
theorem len_X {l : List Nat} {K : AV → Prop} : lenW false (Xr l) K = K (.int .i64 ((l.length : Nat) : Int)) := id rfl
theorem liveE_X {es : Nat} {l : List Nat} {H : AHeap} : liveE es H (Xr l) = True := id rfl

theorem clone_run {H : AHeap} {K : AV → AHeap → Prop} {l : List Nat} (t : Bool) (hl : l.length ≤ 1099511627776) (k : ∀ x H', grow H 45 l x H' → K x H') : Run Tryd.prog 96 [LS l t] H K := by
  refine enter96 (by simp) ?_
  cases l with
  | nil =>
    simp (disch := first | assumption | (apply Ap.symm; assumption) | omega | decide | (simp only [U_len, List.length_append, List.length_replicate, List.length_cons, List.length_nil, List.length_set] <;> omega) | fail) only [ac96, nilW_nil, ↓Xa, Xb, Xc, ↓reduceIte, Nat.reduceLT, Nat.reduceEqDiff, Nat.reduceBEq, Nat.reduceLeDiff, Nat.reduceAdd, Nat.reduceMul]
    refine ⟨?_, ?_⟩
    · simp (disch := first | assumption | (apply Ap.symm; assumption) | omega | decide | (simp only [U_len, List.length_append, List.length_replicate, List.length_cons, List.length_nil, List.length_set] <;> omega) | fail) only [rs96, ↓Xa, Xb, Xc, ↓reduceIte, Nat.reduceLT, Nat.reduceEqDiff, Nat.reduceBEq, Nat.reduceLeDiff, Nat.reduceAdd, Nat.reduceMul]
      exact SetR.now (k _ _ grow_nil)
    · refine .inl ⟨rfl, rfl, ?_⟩
      refine ⟨rfl, rfl, by simp, by simp, fun _ => ?_, fun e => absurd e (by simp)⟩
      simp (disch := first | assumption | (apply Ap.symm; assumption) | omega | decide | (simp only [U_len, List.length_append, List.length_replicate, List.length_cons, List.length_nil, List.length_set] <;> omega) | fail) only [rs96, ↓Xa, Xb, Xc, ↓reduceIte, Nat.reduceLT, Nat.reduceEqDiff, Nat.reduceBEq, Nat.reduceLeDiff, Nat.reduceAdd, Nat.reduceMul]
      exact SetR.now (k _ _ grow_nil)
  | cons x l =>
    simp (disch := first | assumption | (apply Ap.symm; assumption) | omega | decide | (simp only [U_len, List.length_append, List.length_replicate, List.length_cons, List.length_nil, List.length_set] <;> omega) | fail) only [ac96, nilW_cons, ↓Xa, Xb, Xc, ↓reduceIte, Nat.reduceLT, Nat.reduceEqDiff, Nat.reduceBEq, Nat.reduceLeDiff, Nat.reduceAdd, Nat.reduceMul]
    refine app_grow (m := x :: l) (t := t) grow_nil rfl (by simp) (by simp at hl ⊢; omega) fun y H' hg => ?_
    simp (disch := first | assumption | (apply Ap.symm; assumption) | omega | decide | (simp only [U_len, List.length_append, List.length_replicate, List.length_cons, List.length_nil, List.length_set] <;> omega) | fail) only [rs96, ↓Xa, Xb, Xc, ↓reduceIte, Nat.reduceLT, Nat.reduceEqDiff, Nat.reduceBEq, Nat.reduceLeDiff, Nat.reduceAdd, Nat.reduceMul]
    exact SetR.now (k _ _ hg)
theorem room_fn {l : List Nat} (t : Bool) (hl : l.length ≤ 1000000) : PFn Tryd.prog 47 [LS l t] (Xr l) := by
  intro H Q hq
  refine enter47 (by simp) ?_
  simp (disch := first | assumption | (apply Ap.symm; assumption) | omega | decide | (simp only [U_len, List.length_append, List.length_replicate, List.length_cons, List.length_nil, List.length_set] <;> omega) | fail) only [ac47, ↓Xa, Xb, Xc, ↓reduceIte, Nat.reduceLT, Nat.reduceEqDiff, Nat.reduceBEq, Nat.reduceLeDiff, Nat.reduceAdd, Nat.reduceMul]
  refine run_call (clone_run t (by omega) fun x H' hg => ?_)
  simp (disch := first | assumption | (apply Ap.symm; assumption) | omega | decide | (simp only [U_len, List.length_append, List.length_replicate, List.length_cons, List.length_nil, List.length_set] <;> omega) | fail) only [rep2, ↓Xa, Xb, Xc, ↓reduceIte, Nat.reduceLT, Nat.reduceEqDiff, Nat.reduceBEq, Nat.reduceLeDiff, Nat.reduceAdd, Nat.reduceMul]
  refine app_ext (m := [77, 78]) hg rfl (by simp) (by simp; omega) ?_
  simp (disch := first | assumption | (apply Ap.symm; assumption) | omega | decide | (simp only [U_len, List.length_append, List.length_replicate, List.length_cons, List.length_nil, List.length_set] <;> omega) | fail) only [liveE_ext, slc_ext1, rs47, ↓Xa, Xb, Xc, ↓reduceIte, Nat.reduceLT, Nat.reduceEqDiff, Nat.reduceBEq, Nat.reduceLeDiff, Nat.reduceAdd, Nat.reduceMul]
  exact SetR.now hq
theorem slc_X {l : List Nat} {k : IntKind} {K : AV → Prop} : slcW 1 (Xr l) none (some (.int k ((l.length + 2 : Nat) : Int))) none K = K (.ext (l.length + 2) (U (l ++ [77, 78]))) :=
  slc_ext1 (by simp)
theorem slc_X2 {l : List Nat} {k : IntKind} {K : AV → Prop} : slcW 1 (.ext (l.length + 2) (U (l ++ [77, 78]))) (some (.int k ((l.length : Nat) : Int))) none none K = K (.ext 2 (U [77, 78])) := by
  rw [slc_ext2 (by omega) (by simp), ← U_drop, List.drop_left]
  congr 2; omega
theorem Wk.two : Wk (.ext 2 (U [77, 78])) (LS [77, 78] false) := Wk.X (l := [77, 78]) (m := [])
/-- What was handed over stands as it stood, and the room behind it. -/
theorem kept_fn {l : List Nat} (t : Bool) (hl : l.length ≤ 1000000) : PFn Tryd.prog 49 [Xr l, LS l t] (.bool true) := by
  intro H Q hq
  refine enter49 (by simp) ?_
  simp (disch := first | assumption | (apply Ap.symm; assumption) | omega | decide | (simp only [U_len, List.length_append, List.length_replicate, List.length_cons, List.length_nil, List.length_set] <;> omega) | fail) only [ac49, ↓Xa, Xb, Xc, ↓reduceIte, Nat.reduceLT, Nat.reduceEqDiff, Nat.reduceBEq, Nat.reduceLeDiff, Nat.reduceAdd, Nat.reduceMul]
  refine (PFn.x1 (equal_fn false t (by omega) (by omega))).call ?_
  simp (disch := first | assumption | (apply Ap.symm; assumption) | omega | decide | (simp only [U_len, List.length_append, List.length_replicate, List.length_cons, List.length_nil, List.length_set] <;> omega) | fail) only [decide_true, liveE_X, slc_X, liveE_ext, slc_X2, rep2, ↓Xa, Xb, Xc, ↓reduceIte, Nat.reduceLT, Nat.reduceEqDiff, Nat.reduceBEq, Nat.reduceLeDiff, Nat.reduceAdd, Nat.reduceMul]
  refine ((equal_fn (a := [77, 78]) (b := [77, 78]) false true (by decide) (by decide)).wk (.cons Wk.two (.cons Wk.refl .nil))).call ?_
  simp (disch := first | assumption | (apply Ap.symm; assumption) | omega | decide | (simp only [U_len, List.length_append, List.length_replicate, List.length_cons, List.length_nil, List.length_set] <;> omega) | fail) only [decide_true, rs49, ↓Xa, Xb, Xc, ↓reduceIte, Nat.reduceLT, Nat.reduceEqDiff, Nat.reduceBEq, Nat.reduceLeDiff, Nat.reduceAdd, Nat.reduceMul]
  exact SetR.now hq
end Go.Proofs.YtipbcjnniamcgaaDoor.Fw
