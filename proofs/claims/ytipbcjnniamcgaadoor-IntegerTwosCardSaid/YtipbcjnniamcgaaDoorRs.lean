/- Quotients and remainders of whole numbers, as the reference has them. -/
import Derived.Test.YtipbcjnniamcgaaDoorRr
namespace Go.Proofs.YtipbcjnniamcgaaDoor.Fw
set_option linter.unusedSimpArgs false
set_option linter.unusedVariables false
open Go Go.Proofs.YtipbcjnniamcgaaDoor.Ma
set_option maxRecDepth 20000

theorem rdivide_fn {A V : Nat} (ta tb : Bool) (hV : 0 < V) (hA : (digs 65536 A).length ≤ 549755813888) (hVl : (digs 65536 V).length ≤ 549755813888) :
    PFn Tryd.prog 93 [LS (digs 65536 A) ta, LS (digs 65536 V) tb] (.tup [LS (digs 65536 (A / V)) false, LS (digs 65536 (A % V)) false]) := by
  by_cases h1 : (digs 65536 V).length = 1
  · have h2 := val_lt (lim_digs (B := 65536) (by omega) V)
    rw [val_digs (by omega), h1] at h2
    exact rdiv_one ta tb hV (by simpa using h2) (by omega)
  · exact rdiv_many ta tb hV h1 hA hVl

theorem rdivmod_fn {x y : Int} {k k' : Nat} (hx : Bd k x) (hk : k ≤ 137438953472) (hy : Bd k' y) (hk' : k' ≤ 137438953472) (hy0 : y ≠ 0) : PFn Tryd.prog 89 [RefA x false, RefA y false] (.tup [RefA (x / y) false, RefA (x % y) false]) := by
  intro H Q hq
  have hl := hx.rlen
  have hl' := hy.rlen
  have hyp : 0 < y.natAbs := by omega
  have hbq : ∀ b, Bd k (sg b (x.natAbs / y.natAbs)) := fun b => Bd.sgn (Nat.lt_of_le_of_lt (Nat.div_le_self _ _) hx)
  have hbr : ∀ b, Bd k (sg b (x.natAbs % y.natAbs)) := fun b => Bd.sgn (Nat.lt_of_le_of_lt (Nat.mod_le _ _) hx)
  have hlq := (hbq false).rlen
  have hlr := (hbr false).rlen
  rw [sg_abs] at hlq hlr
  refine enter89 (by simp) ?_
  simp (disch := first | assumption | (apply Ap.symm; assumption) | omega | decide | (simp only [U_len, List.length_append, List.length_replicate, List.length_cons, List.length_nil, List.length_set] <;> omega) | fail) only [ac89, cells_RefA, ↓Xa, Xb, Xc, ↓reduceIte, Nat.reduceLT, Nat.reduceEqDiff, Nat.reduceBEq, Nat.reduceLeDiff, Nat.reduceAdd, Nat.reduceMul]
  refine alloc_i fun p hp => ?_
  simp (disch := first | assumption | (apply Ap.symm; assumption) | omega | decide | (simp only [U_len, List.length_append, List.length_replicate, List.length_cons, List.length_nil, List.length_set] <;> omega) | fail) only [↓Xa, Xb, Xc, ↓reduceIte, Nat.reduceLT, Nat.reduceEqDiff, Nat.reduceBEq, Nat.reduceLeDiff, Nat.reduceAdd, Nat.reduceMul]
  refine alloc_i fun p2 hp2 => ?_
  have n2 := hp2
  simp only [upd_none] at n2
  obtain ⟨_, n2⟩ := n2
  simp (disch := first | assumption | (apply Ap.symm; assumption) | omega | decide | (simp only [U_len, List.length_append, List.length_replicate, List.length_cons, List.length_nil, List.length_set] <;> omega) | fail) only [↓Xa, Xb, Xc, ↓reduceIte, Nat.reduceLT, Nat.reduceEqDiff, Nat.reduceBEq, Nat.reduceLeDiff, Nat.reduceAdd, Nat.reduceMul]
  refine alloc_i fun p3 hp3 => ?_
  have n3 := hp3
  simp only [upd_none] at n3
  obtain ⟨_, _, n3⟩ := n3
  simp (disch := first | assumption | (apply Ap.symm; assumption) | omega | decide | (simp only [U_len, List.length_append, List.length_replicate, List.length_cons, List.length_nil, List.length_set] <;> omega) | fail) only [↓Xa, Xb, Xc, ↓reduceIte, Nat.reduceLT, Nat.reduceEqDiff, Nat.reduceBEq, Nat.reduceLeDiff, Nat.reduceAdd, Nat.reduceMul]
  refine alloc_i fun p4 hp4 => ?_
  have n4 := hp4
  simp only [upd_none] at n4
  obtain ⟨_, _, _, n4⟩ := n4
  simp (disch := first | assumption | (apply Ap.symm; assumption) | omega | decide | (simp only [U_len, List.length_append, List.length_replicate, List.length_cons, List.length_nil, List.length_set] <;> omega) | fail) only [↓Xa, Xb, Xc, ↓reduceIte, Nat.reduceLT, Nat.reduceEqDiff, Nat.reduceBEq, Nat.reduceLeDiff, Nat.reduceAdd, Nat.reduceMul]
  refine (rdivide_fn (A := x.natAbs) (V := y.natAbs) false false hyp (by omega) (by omega)).call ?_
  simp (disch := first | assumption | (apply Ap.symm; assumption) | omega | decide | (simp only [U_len, List.length_append, List.length_replicate, List.length_cons, List.length_nil, List.length_set] <;> omega) | fail) only [RefB, binB_neq, ↓Xa, Xb, Xc, ↓reduceIte, Nat.reduceLT, Nat.reduceEqDiff, Nat.reduceBEq, Nat.reduceLeDiff, Nat.reduceAdd, Nat.reduceMul]
  refine PFn.dcall (rnorm_fn _ false (lim_digs (by omega) _) (by omega)) ?_
  simp (disch := first | assumption | (apply Ap.symm; assumption) | omega | decide | (simp only [U_len, List.length_append, List.length_replicate, List.length_cons, List.length_nil, List.length_set] <;> omega) | fail) only [↓Xa, Xb, Xc, ↓reduceIte, Nat.reduceLT, Nat.reduceEqDiff, Nat.reduceBEq, Nat.reduceLeDiff, Nat.reduceAdd, Nat.reduceMul]
  refine PFn.dcall (rnorm_fn _ false (lim_digs (by omega) _) (by omega)) ?_
  rw [val_digs (by omega), val_digs (by omega)]
  simp (disch := first | assumption | (apply Ap.symm; assumption) | omega | decide | (simp only [U_len, List.length_append, List.length_replicate, List.length_cons, List.length_nil, List.length_set] <;> omega) | fail) only [↓Xa, Xb, Xc, ↓reduceIte, Nat.reduceLT, Nat.reduceEqDiff, Nat.reduceBEq, Nat.reduceLeDiff, Nat.reduceAdd, Nat.reduceMul]
  refine dalloc_i fun p5 hp5 => ?_
  have n5 := hp5
  simp only [upd_none] at n5
  obtain ⟨_, _, _, _, n5⟩ := n5
  simp (disch := first | assumption | (apply Ap.symm; assumption) | omega | decide | (simp only [U_len, List.length_append, List.length_replicate, List.length_cons, List.length_nil, List.length_set] <;> omega) | fail) only [↓Xa, Xb, Xc, ↓reduceIte, Nat.reduceLT, Nat.reduceEqDiff, Nat.reduceBEq, Nat.reduceLeDiff, Nat.reduceAdd, Nat.reduceMul]
  refine dalloc_i fun p6 hp6 => ?_
  have n6 := hp6
  simp only [upd_none] at n6
  obtain ⟨_, _, _, _, _, n6⟩ := n6
  simp (disch := first | assumption | (apply Ap.symm; assumption) | omega | decide | (simp only [U_len, List.length_append, List.length_replicate, List.length_cons, List.length_nil, List.length_set] <;> omega) | fail) only [cells_RefA, ↓Xa, Xb, Xc, ↓reduceIte, Nat.reduceLT, Nat.reduceEqDiff, Nat.reduceBEq, Nat.reduceLeDiff, Nat.reduceAdd, Nat.reduceMul]
  have bq := hbq (!(decide (x < 0) == decide (y < 0)))
  have br := hbr (decide (x < 0))
  have cs : (sg (!(decide (x < 0) == decide (y < 0))) (x.natAbs / y.natAbs) = x / y ∧ sg (decide (x < 0)) (x.natAbs % y.natAbs) = x % y ∧ RefB (sg (decide (x < 0)) (x.natAbs % y.natAbs)) = .bool false) ∨
      (sg (!(decide (x < 0) == decide (y < 0))) (x.natAbs / y.natAbs) - sgnI y = x / y ∧ sg (decide (x < 0)) (x.natAbs % y.natAbs) + (y.natAbs : Int) = x % y ∧ RefB (sg (decide (x < 0)) (x.natAbs % y.natAbs)) = .bool true) := by
    by_cases h : x < 0
    · obtain ⟨e1, e2⟩ := ediv_neg' hy0 h
      rw [decide_eq_true h]
      have eb : (!(true == decide (y < 0))) = !decide (y < 0) := by simp
      rw [eb]
      rcases Nat.eq_zero_or_pos (x.natAbs % y.natAbs) with hz | hz
      · left
        obtain ⟨f1, f2⟩ := e1 hz
        rw [hz, f1, f2]
        exact ⟨rfl, rfl, rfl⟩
      · right
        obtain ⟨f1, f2⟩ := e2 hz
        exact ⟨f1.symm, f2.symm, congrArg AV.bool (decide_eq_true (by simp [sg]; omega))⟩
    · left
      obtain ⟨f1, f2⟩ := ediv_pos hy0 (show 0 ≤ x by omega)
      rw [decide_eq_false h]
      have eb : (!(false == decide (y < 0))) = decide (y < 0) := by simp
      rw [eb, f1, f2]
      exact ⟨rfl, rfl, congrArg AV.bool (decide_eq_false (by simp [sg]; omega))⟩
  generalize sg (!(decide (x < 0) == decide (y < 0))) (x.natAbs / y.natAbs) = q0 at *
  generalize sg (decide (x < 0)) (x.natAbs % y.natAbs) = r0 at *
  have fin : ∀ {v a b c d e f}, Q v H → SetR Q v ((((((H.upd p a).upd p2 b).upd p3 c).upd p4 d).upd p5 e).upd p6 f) := fun {v a b c d e f} hv => SetR.dropTo (((((((Le.refl H).updB hp).updB n2).updB n3).updB n4).updB n5).updB n6) (SetR.now hv)
  have foldL : AV.agg [.bool (decide (y < 0)), LS (digs 65536 y.natAbs) false] = RefA y false := rfl
  have foldM : AV.agg [.bool (decide (y < 0)), RefD y] = RefA y false := rfl
  rcases cs with ⟨c1, c2, c3⟩ | ⟨c1, c2, c3⟩
  · rw [← c1, ← c2] at hq
    have f0 : AV.agg [.bool false, RefD r0] = RefA r0 false := by rw [RefA_eq, c3]
    simp (disch := first | assumption | (apply Ap.symm; assumption) | omega | decide | (simp only [U_len, List.length_append, List.length_replicate, List.length_cons, List.length_nil, List.length_set] <;> omega) | fail) only [c3, fold_RefA, f0, cells_RefA, rs89, ↓Xa, Xb, Xc, ↓reduceIte, Nat.reduceLT, Nat.reduceEqDiff, Nat.reduceBEq, Nat.reduceLeDiff, Nat.reduceAdd, Nat.reduceMul]
    exact fin hq
  · rw [← c1, ← c2] at hq
    have f0 : AV.agg [.bool true, RefD r0] = RefA r0 false := by rw [RefA_eq, c3]
    simp (disch := first | assumption | (apply Ap.symm; assumption) | omega | decide | (simp only [U_len, List.length_append, List.length_replicate, List.length_cons, List.length_nil, List.length_set] <;> omega) | fail) only [c3, fold_RefA, f0, foldL, foldM, ↓Xa, Xb, Xc, ↓reduceIte, Nat.reduceLT, Nat.reduceEqDiff, Nat.reduceBEq, Nat.reduceLeDiff, Nat.reduceAdd, Nat.reduceMul]
    refine PFn.dcall (rabs_fn false hy (by omega)) ?_
    simp (disch := first | assumption | (apply Ap.symm; assumption) | omega | decide | (simp only [U_len, List.length_append, List.length_replicate, List.length_cons, List.length_nil, List.length_set] <;> omega) | fail) only [fold_RefA, foldL, foldM, f0, ↓Xa, Xb, Xc, ↓reduceIte, Nat.reduceLT, Nat.reduceEqDiff, Nat.reduceBEq, Nat.reduceLeDiff, Nat.reduceAdd, Nat.reduceMul]
    refine (raddi_fn false false br (by omega) hy.abs (by omega)).call ?_
    simp (disch := first | assumption | (apply Ap.symm; assumption) | omega | decide | (simp only [U_len, List.length_append, List.length_replicate, List.length_cons, List.length_nil, List.length_set] <;> omega) | fail) only [fold_RefA, foldL, foldM, f0, cells_RefA, ↓Xa, Xb, Xc, ↓reduceIte, Nat.reduceLT, Nat.reduceEqDiff, Nat.reduceBEq, Nat.reduceLeDiff, Nat.reduceAdd, Nat.reduceMul]
    refine PFn.dcall (rsign_fn false hy (by omega)) ?_
    simp (disch := first | assumption | (apply Ap.symm; assumption) | omega | decide | (simp only [U_len, List.length_append, List.length_replicate, List.length_cons, List.length_nil, List.length_set] <;> omega) | fail) only [fold_RefA, foldL, foldM, f0, ↓Xa, Xb, Xc, ↓reduceIte, Nat.reduceLT, Nat.reduceEqDiff, Nat.reduceBEq, Nat.reduceLeDiff, Nat.reduceAdd, Nat.reduceMul]
    refine PFn.dcall (rof_fn (sgnI_le y)) ?_
    simp (disch := first | assumption | (apply Ap.symm; assumption) | omega | decide | (simp only [U_len, List.length_append, List.length_replicate, List.length_cons, List.length_nil, List.length_set] <;> omega) | fail) only [fold_RefA, foldL, foldM, f0, ↓Xa, Xb, Xc, ↓reduceIte, Nat.reduceLT, Nat.reduceEqDiff, Nat.reduceBEq, Nat.reduceLeDiff, Nat.reduceAdd, Nat.reduceMul]
    refine (rsubi_fn false false bq (by omega) (Bd.i64 (sgnI_le y)) (by omega)).call ?_
    simp (disch := first | assumption | (apply Ap.symm; assumption) | omega | decide | (simp only [U_len, List.length_append, List.length_replicate, List.length_cons, List.length_nil, List.length_set] <;> omega) | fail) only [fold_RefA, foldL, foldM, f0, cells_RefA, rs89, ↓Xa, Xb, Xc, ↓reduceIte, Nat.reduceLT, Nat.reduceEqDiff, Nat.reduceBEq, Nat.reduceLeDiff, Nat.reduceAdd, Nat.reduceMul]
    exact fin hq

theorem RefA_0f {t : Bool} : AV.agg [.bool false, .seq 0 [] t] = RefA 0 t := by simp [RefA, digs_zero, LS, U]
theorem rover_fn {x y : Int} {k k' : Nat} (hx : Bd k x) (hk : k ≤ 137438953472) (hy : Bd k' y) (hk' : k' ≤ 137438953472) (hy0 : y ≠ 0) : PFn Tryd.prog 32 [RefA x false, RefA y false] (if x % y = 0 then .tup [RefA (x / y) false, .bool true] else .tup [RefA 0 false, .bool false]) := by
  intro H Q hq
  have hbr : Bd k' (x % y) := by
    have h1 := Int.emod_lt x hy0
    have h2 := Int.emod_nonneg x hy0
    unfold Bd at hy ⊢
    omega
  have hl := hbr.rlen
  refine enter32 (by simp) ?_
  simp (disch := first | assumption | (apply Ap.symm; assumption) | omega | decide | (simp only [U_len, List.length_append, List.length_replicate, List.length_cons, List.length_nil, List.length_set] <;> omega) | fail) only [ac32, cells_RefA, ↓Xa, Xb, Xc, ↓reduceIte, Nat.reduceLT, Nat.reduceEqDiff, Nat.reduceBEq, Nat.reduceLeDiff, Nat.reduceAdd, Nat.reduceMul]
  refine alloc_i fun p hp => ?_
  simp (disch := first | assumption | (apply Ap.symm; assumption) | omega | decide | (simp only [U_len, List.length_append, List.length_replicate, List.length_cons, List.length_nil, List.length_set] <;> omega) | fail) only [↓Xa, Xb, Xc, ↓reduceIte, Nat.reduceLT, Nat.reduceEqDiff, Nat.reduceBEq, Nat.reduceLeDiff, Nat.reduceAdd, Nat.reduceMul]
  refine alloc_i fun p2 hp2 => ?_
  have n2 := hp2
  simp only [upd_none] at n2
  obtain ⟨_, n2⟩ := n2
  simp (disch := first | assumption | (apply Ap.symm; assumption) | omega | decide | (simp only [U_len, List.length_append, List.length_replicate, List.length_cons, List.length_nil, List.length_set] <;> omega) | fail) only [↓Xa, Xb, Xc, ↓reduceIte, Nat.reduceLT, Nat.reduceEqDiff, Nat.reduceBEq, Nat.reduceLeDiff, Nat.reduceAdd, Nat.reduceMul]
  refine alloc_i fun p3 hp3 => ?_
  have n3 := hp3
  simp only [upd_none] at n3
  obtain ⟨_, _, n3⟩ := n3
  simp (disch := first | assumption | (apply Ap.symm; assumption) | omega | decide | (simp only [U_len, List.length_append, List.length_replicate, List.length_cons, List.length_nil, List.length_set] <;> omega) | fail) only [fold_RefA, ↓Xa, Xb, Xc, ↓reduceIte, Nat.reduceLT, Nat.reduceEqDiff, Nat.reduceBEq, Nat.reduceLeDiff, Nat.reduceAdd, Nat.reduceMul]
  refine (rdivmod_fn hx hk hy hk' hy0).call ?_
  simp (disch := first | assumption | (apply Ap.symm; assumption) | omega | decide | (simp only [U_len, List.length_append, List.length_replicate, List.length_cons, List.length_nil, List.length_set] <;> omega) | fail) only [↓Xa, Xb, Xc, ↓reduceIte, Nat.reduceLT, Nat.reduceEqDiff, Nat.reduceBEq, Nat.reduceLeDiff, Nat.reduceAdd, Nat.reduceMul]
  refine alloc_i fun p4 hp4 => ?_
  have n4 := hp4
  simp only [upd_none] at n4
  obtain ⟨_, _, _, n4⟩ := n4
  simp (disch := first | assumption | (apply Ap.symm; assumption) | omega | decide | (simp only [U_len, List.length_append, List.length_replicate, List.length_cons, List.length_nil, List.length_set] <;> omega) | fail) only [↓Xa, Xb, Xc, ↓reduceIte, Nat.reduceLT, Nat.reduceEqDiff, Nat.reduceBEq, Nat.reduceLeDiff, Nat.reduceAdd, Nat.reduceMul]
  refine alloc_i fun p5 hp5 => ?_
  have n5 := hp5
  simp only [upd_none] at n5
  obtain ⟨_, _, _, _, n5⟩ := n5
  have fin : ∀ {v a b c d e}, Q v H → SetR Q v (((((H.upd p a).upd p2 b).upd p3 c).upd p4 d).upd p5 e) := fun {v a b c d e} hv => SetR.dropTo ((((((Le.refl H).updB hp).updB n2).updB n3).updB n4).updB n5) (SetR.now hv)
  have hz := digs_len0 (B := 65536) (n := (x % y).natAbs) (by omega)
  have hlen : ∀ K : AV → Prop, lenW false (RefD (x % y)) K = K (.int .i64 ((digs 65536 (x % y).natAbs).length : Nat)) := fun K => by unfold RefD; simp (disch := first | assumption | (apply Ap.symm; assumption) | omega | decide | (simp only [U_len, List.length_append, List.length_replicate, List.length_cons, List.length_nil, List.length_set] <;> omega) | fail) only [↓Xa, Xb, Xc, ↓reduceIte, Nat.reduceLT, Nat.reduceEqDiff, Nat.reduceBEq, Nat.reduceLeDiff, Nat.reduceAdd, Nat.reduceMul]
  by_cases h : x % y = 0
  · rw [if_pos h] at hq
    have h1 : (digs 65536 (x % y).natAbs).length = 0 := by rw [hz]; omega
    rw [h1] at hlen
    simp (disch := first | assumption | (apply Ap.symm; assumption) | omega | decide | (simp only [U_len, List.length_append, List.length_replicate, List.length_cons, List.length_nil, List.length_set] <;> omega) | fail) only [cells_RefA, fold_RefA, ↓hlen, rs32, ↓Xa, Xb, Xc, ↓reduceIte, Nat.reduceLT, Nat.reduceEqDiff, Nat.reduceBEq, Nat.reduceLeDiff, Nat.reduceAdd, Nat.reduceMul]
    exact fin hq
  · rw [if_neg h] at hq
    have h1 : 0 < (digs 65536 (x % y).natAbs).length := by
      have : ¬ (digs 65536 (x % y).natAbs).length = 0 := by rw [hz]; omega
      omega
    simp (disch := first | assumption | (apply Ap.symm; assumption) | omega | decide | (simp only [U_len, List.length_append, List.length_replicate, List.length_cons, List.length_nil, List.length_set] <;> omega) | fail) only [cells_RefA, fold_RefA, ↓hlen, decide_eq_true h1, rs32, ↓Xa, Xb, Xc, ↓reduceIte, Nat.reduceLT, Nat.reduceEqDiff, Nat.reduceBEq, Nat.reduceLeDiff, Nat.reduceAdd, Nat.reduceMul]
    refine SetR.loose ?_
    refine fin ?_
    rw [← RefA_0f] at hq
    exact hq
end Go.Proofs.YtipbcjnniamcgaaDoor.Fw
