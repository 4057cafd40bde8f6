/- Quotients and remainders of whole numbers, as the program has them. -/
import Derived.Test.YtipbcjnniamcgaaDoorLm
import Derived.Test.YtipbcjnniamcgaaDoorRo
namespace Go.Proofs.YtipbcjnniamcgaaDoor.Fw
set_option linter.unusedSimpArgs false
set_option linter.unusedVariables false
open Go Go.Proofs.YtipbcjnniamcgaaDoor.Ma
set_option maxRecDepth 20000

/-- What the program reckons before it mends: and that it is Euclid's division. -/
theorem ediv_pos {x y : Int} (hy : y ≠ 0) (hx : 0 ≤ x) : x / y = sg (decide (y < 0)) (x.natAbs / y.natAbs) ∧ x % y = ((x.natAbs % y.natAbs : Nat) : Int) := by
  have e : ((x.natAbs : Nat) : Int) = x := by omega
  by_cases h : y < 0
  · have e2 : y = -((y.natAbs : Nat) : Int) := by omega
    constructor
    · rw [sg, decide_eq_true h, if_pos rfl]
      conv => lhs; rw [e2, Int.ediv_neg, ← e]
      rw [← Int.natCast_ediv]
    · conv => lhs; rw [e2, Int.emod_neg, ← e]
      rw [← Int.natCast_emod]
  · have e2 : y = ((y.natAbs : Nat) : Int) := by omega
    constructor
    · rw [sg, decide_eq_false h]
      conv => lhs; rw [e2, ← e]
      rw [← Int.natCast_ediv]; rfl
    · conv => lhs; rw [e2, ← e]
      rw [← Int.natCast_emod]
theorem ediv_neg' {x y : Int} (hy : y ≠ 0) (hx : x < 0) :
    (x.natAbs % y.natAbs = 0 → x / y = sg (!decide (y < 0)) (x.natAbs / y.natAbs) ∧ x % y = 0) ∧
    (0 < x.natAbs % y.natAbs → x / y = sg (!decide (y < 0)) (x.natAbs / y.natAbs) - sgnI y ∧ x % y = sg true (x.natAbs % y.natAbs) + (y.natAbs : Int)) := by
  have hm := Nat.div_add_mod x.natAbs y.natAbs
  have hl := Nat.mod_lt x.natAbs (show 0 < y.natAbs by omega)
  generalize x.natAbs / y.natAbs = q at *
  generalize x.natAbs % y.natAbs = r at *
  have hb : 0 < (y.natAbs : Int) := by omega
  have hxe : x = -((y.natAbs : Int) * q + r) := by
    have : ((y.natAbs * q + r : Nat) : Int) = (x.natAbs : Int) := by rw [hm]
    rw [Int.natCast_add, Int.natCast_mul] at this
    omega
  have key : ∀ (q' r' : Int), r' + (y.natAbs : Int) * q' = x → 0 ≤ r' → r' < (y.natAbs : Int) → x / (y.natAbs : Int) = q' ∧ x % (y.natAbs : Int) = r' := fun q' r' a b c => (Int.ediv_emod_unique hb).2 ⟨a, b, c⟩
  have neg : ∀ q' : Int, x / (y.natAbs : Int) = q' → x / y = if y < 0 then -q' else q' := fun q' h => by
    split
    · conv => lhs; rw [show y = -((y.natAbs : Nat) : Int) by omega, Int.ediv_neg, h]
    · conv => lhs; rw [show y = ((y.natAbs : Nat) : Int) by omega, h]
  have mod : x % y = x % (y.natAbs : Int) := by
    by_cases h : y < 0
    · conv => lhs; rw [show y = -((y.natAbs : Nat) : Int) by omega, Int.emod_neg]
    · conv => lhs; rw [show y = ((y.natAbs : Nat) : Int) by omega]
  constructor
  · intro hr
    obtain ⟨k1, k2⟩ := key (-(q : Int)) 0 (by rw [hxe, hr, Int.mul_neg]; omega) (by omega) hb
    refine ⟨?_, by rw [mod, k2]⟩
    rw [neg _ k1, sg]
    by_cases h : y < 0 <;> simp [h]
  · intro hr
    obtain ⟨k1, k2⟩ := key (-(q : Int) - 1) ((y.natAbs : Int) - r) (by rw [hxe, Int.mul_sub, Int.mul_neg, Int.mul_one]; omega) (by omega) (by omega)
    refine ⟨?_, by rw [mod, k2, sg, if_pos rfl]; omega⟩
    rw [neg _ k1, sg, sgnI, if_neg hy]
    by_cases h : y < 0 <;> simp [h] <;> omega

theorem idivmod0_fn {x : Int} {k : Nat} (hx : Bd k x) (hk : k ≤ 274877906944) : PFn Tryd.prog 108 [IntA x, IntA 0] (.tup [IntA 0, IntA 0, .int .i64 ((2 : Nat) : Int)]) := by
  intro H Q hq
  refine enter108 (by simp) ?_
  simp (disch := first | assumption | (apply Ap.symm; assumption) | omega | decide | (simp only [U_len, List.length_append, List.length_replicate, List.length_cons, List.length_nil, List.length_set] <;> omega) | fail) only [ac108, cells_IntA, ↓Xa, Xb, Xc, ↓reduceIte, Nat.reduceLT, Nat.reduceEqDiff, Nat.reduceBEq, Nat.reduceLeDiff, Nat.reduceAdd, Nat.reduceMul]
  refine alloc_i fun p hp => ?_
  simp (disch := first | assumption | (apply Ap.symm; assumption) | omega | decide | (simp only [U_len, List.length_append, List.length_replicate, List.length_cons, List.length_nil, List.length_set] <;> omega) | fail) only [↓Xa, Xb, Xc, ↓reduceIte, Nat.reduceLT, Nat.reduceEqDiff, Nat.reduceBEq, Nat.reduceLeDiff, Nat.reduceAdd, Nat.reduceMul]
  refine alloc_i fun p2 hp2 => ?_
  have n2 := hp2
  simp only [upd_none] at n2
  obtain ⟨_, n2⟩ := n2
  simp (disch := first | assumption | (apply Ap.symm; assumption) | omega | decide | (simp only [U_len, List.length_append, List.length_replicate, List.length_cons, List.length_nil, List.length_set] <;> omega) | fail) only [↓Xa, Xb, Xc, ↓reduceIte, Nat.reduceLT, Nat.reduceEqDiff, Nat.reduceBEq, Nat.reduceLeDiff, Nat.reduceAdd, Nat.reduceMul]
  refine alloc_i fun p3 hp3 => ?_
  have n3 := hp3
  simp only [upd_none] at n3
  obtain ⟨_, _, n3⟩ := n3
  simp (disch := first | assumption | (apply Ap.symm; assumption) | omega | decide | (simp only [U_len, List.length_append, List.length_replicate, List.length_cons, List.length_nil, List.length_set] <;> omega) | fail) only [↓Xa, Xb, Xc, ↓reduceIte, Nat.reduceLT, Nat.reduceEqDiff, Nat.reduceBEq, Nat.reduceLeDiff, Nat.reduceAdd, Nat.reduceMul]
  refine alloc_i fun p4 hp4 => ?_
  have n4 := hp4
  simp only [upd_none] at n4
  obtain ⟨_, _, _, n4⟩ := n4
  simp (disch := first | assumption | (apply Ap.symm; assumption) | omega | decide | (simp only [U_len, List.length_append, List.length_replicate, List.length_cons, List.length_nil, List.length_set] <;> omega) | fail) only [↓Xa, Xb, Xc, ↓reduceIte, Nat.reduceLT, Nat.reduceEqDiff, Nat.reduceBEq, Nat.reduceLeDiff, Nat.reduceAdd, Nat.reduceMul]
  refine (divmod0_fn (a := digs 4294967296 x.natAbs) (b := digs 4294967296 (0 : Int).natAbs) true true (lim_digs (by omega) _) (val_digs (by omega) _)).call ?_
  simp (disch := first | assumption | (apply Ap.symm; assumption) | omega | decide | (simp only [U_len, List.length_append, List.length_replicate, List.length_cons, List.length_nil, List.length_set] <;> omega) | fail) only [rs108, ↓Xa, Xb, Xc, ↓reduceIte, Nat.reduceLT, Nat.reduceEqDiff, Nat.reduceBEq, Nat.reduceLeDiff, Nat.reduceAdd, Nat.reduceMul]
  rw [IntA_0]
  exact SetR.dropTo (((((Le.refl H).updB hp).updB n2).updB n3).updB n4) (SetR.now hq)

theorem foldL {z : Int} : AV.agg [.bool (decide (z < 0)), LS (digs 4294967296 z.natAbs) true] = IntA z := id rfl
theorem foldM {z : Int} : AV.agg [.bool (decide (z < 0)), IntD z] = IntA z := id rfl
theorem sgnI_le (y : Int) : -9223372036854775808 ≤ sgnI y ∧ sgnI y < 9223372036854775808 := by unfold sgnI; (repeat' split) <;> omega
theorem idivmod_fn {x y : Int} {k k' : Nat} (hx : Bd k x) (hk : k ≤ 274877906944) (hy : Bd k' y) (hk' : k' ≤ 274877906944) (hy0 : y ≠ 0) : PFn Tryd.prog 108 [IntA x, IntA y] (.tup [IntA (x / y), IntA (x % y), .int .i64 ((0 : Nat) : Int)]) := by
  intro H Q hq
  have hl := hx.len
  have hl' := hy.len
  have vx := val_digs (B := 4294967296) (by omega) x.natAbs
  have vy := val_digs (B := 4294967296) (by omega) y.natAbs
  have lx := lim_digs (B := 4294967296) (by omega) x.natAbs
  have ly := lim_digs (B := 4294967296) (by omega) y.natAbs
  have hyp : 0 < y.natAbs := by omega
  have hbq : ∀ b, Bd k (sg b (x.natAbs / y.natAbs)) := fun b => Bd.sgn (Nat.lt_of_le_of_lt (Nat.div_le_self _ _) hx)
  have hbr : ∀ b, Bd k (sg b (x.natAbs % y.natAbs)) := fun b => Bd.sgn (Nat.lt_of_le_of_lt (Nat.mod_le _ _) hx)
  have hlq := (hbq false).len
  have hlr := (hbr false).len
  rw [sg_abs] at hlq hlr
  refine enter108 (by simp) ?_
  simp (disch := first | assumption | (apply Ap.symm; assumption) | omega | decide | (simp only [U_len, List.length_append, List.length_replicate, List.length_cons, List.length_nil, List.length_set] <;> omega) | fail) only [ac108, cells_IntA, ↓Xa, Xb, Xc, ↓reduceIte, Nat.reduceLT, Nat.reduceEqDiff, Nat.reduceBEq, Nat.reduceLeDiff, Nat.reduceAdd, Nat.reduceMul]
  refine alloc_i fun p hp => ?_
  simp (disch := first | assumption | (apply Ap.symm; assumption) | omega | decide | (simp only [U_len, List.length_append, List.length_replicate, List.length_cons, List.length_nil, List.length_set] <;> omega) | fail) only [↓Xa, Xb, Xc, ↓reduceIte, Nat.reduceLT, Nat.reduceEqDiff, Nat.reduceBEq, Nat.reduceLeDiff, Nat.reduceAdd, Nat.reduceMul]
  refine alloc_i fun p2 hp2 => ?_
  have n2 := hp2
  simp only [upd_none] at n2
  obtain ⟨_, n2⟩ := n2
  simp (disch := first | assumption | (apply Ap.symm; assumption) | omega | decide | (simp only [U_len, List.length_append, List.length_replicate, List.length_cons, List.length_nil, List.length_set] <;> omega) | fail) only [↓Xa, Xb, Xc, ↓reduceIte, Nat.reduceLT, Nat.reduceEqDiff, Nat.reduceBEq, Nat.reduceLeDiff, Nat.reduceAdd, Nat.reduceMul]
  refine alloc_i fun p3 hp3 => ?_
  have n3 := hp3
  simp only [upd_none] at n3
  obtain ⟨_, _, n3⟩ := n3
  simp (disch := first | assumption | (apply Ap.symm; assumption) | omega | decide | (simp only [U_len, List.length_append, List.length_replicate, List.length_cons, List.length_nil, List.length_set] <;> omega) | fail) only [↓Xa, Xb, Xc, ↓reduceIte, Nat.reduceLT, Nat.reduceEqDiff, Nat.reduceBEq, Nat.reduceLeDiff, Nat.reduceAdd, Nat.reduceMul]
  refine alloc_i fun p4 hp4 => ?_
  have n4 := hp4
  simp only [upd_none] at n4
  obtain ⟨_, _, _, n4⟩ := n4
  simp (disch := first | assumption | (apply Ap.symm; assumption) | omega | decide | (simp only [U_len, List.length_append, List.length_replicate, List.length_cons, List.length_nil, List.length_set] <;> omega) | fail) only [↓Xa, Xb, Xc, ↓reduceIte, Nat.reduceLT, Nat.reduceEqDiff, Nat.reduceBEq, Nat.reduceLeDiff, Nat.reduceAdd, Nat.reduceMul]
  refine (divmod_fn (a := digs 4294967296 x.natAbs) (b := digs 4294967296 y.natAbs) true true lx ly (by omega) (by omega) (by omega)).call ?_
  rw [vx, vy]
  have ifold : ∀ z : Int, AV.bool (decide (z < 0)) = IntB z := fun z => rfl
  simp (disch := first | assumption | (apply Ap.symm; assumption) | omega | decide | (simp only [U_len, List.length_append, List.length_replicate, List.length_cons, List.length_nil, List.length_set] <;> omega) | fail) only [IntB, binB_neq, ↓Xa, Xb, Xc, ↓reduceIte, Nat.reduceLT, Nat.reduceEqDiff, Nat.reduceBEq, Nat.reduceLeDiff, Nat.reduceAdd, Nat.reduceMul]
  refine PFn.dcall (made_fn _ _ (by omega)) ?_
  simp (disch := first | assumption | (apply Ap.symm; assumption) | omega | decide | (simp only [U_len, List.length_append, List.length_replicate, List.length_cons, List.length_nil, List.length_set] <;> omega) | fail) only [↓Xa, Xb, Xc, ↓reduceIte, Nat.reduceLT, Nat.reduceEqDiff, Nat.reduceBEq, Nat.reduceLeDiff, Nat.reduceAdd, Nat.reduceMul]
  refine PFn.dcall (made_fn _ _ (by omega)) ?_
  simp (disch := first | assumption | (apply Ap.symm; assumption) | omega | decide | (simp only [U_len, List.length_append, List.length_replicate, List.length_cons, List.length_nil, List.length_set] <;> omega) | fail) only [↓Xa, Xb, Xc, ↓reduceIte, Nat.reduceLT, Nat.reduceEqDiff, Nat.reduceBEq, Nat.reduceLeDiff, Nat.reduceAdd, Nat.reduceMul]
  refine dalloc_i fun p5 hp5 => ?_
  have n5 := hp5
  simp only [upd_none] at n5
  obtain ⟨_, _, _, _, n5⟩ := n5
  simp (disch := first | assumption | (apply Ap.symm; assumption) | omega | decide | (simp only [U_len, List.length_append, List.length_replicate, List.length_cons, List.length_nil, List.length_set] <;> omega) | fail) only [↓Xa, Xb, Xc, ↓reduceIte, Nat.reduceLT, Nat.reduceEqDiff, Nat.reduceBEq, Nat.reduceLeDiff, Nat.reduceAdd, Nat.reduceMul]
  refine dalloc_i fun p6 hp6 => ?_
  have n6 := hp6
  simp only [upd_none] at n6
  obtain ⟨_, _, _, _, _, n6⟩ := n6
  simp (disch := first | assumption | (apply Ap.symm; assumption) | omega | decide | (simp only [U_len, List.length_append, List.length_replicate, List.length_cons, List.length_nil, List.length_set] <;> omega) | fail) only [cells_IntA, ↓Xa, Xb, Xc, ↓reduceIte, Nat.reduceLT, Nat.reduceEqDiff, Nat.reduceBEq, Nat.reduceLeDiff, Nat.reduceAdd, Nat.reduceMul]
  have bq := hbq (!(decide (x < 0) == decide (y < 0)))
  have br := hbr (decide (x < 0))
  have cs : (sg (!(decide (x < 0) == decide (y < 0))) (x.natAbs / y.natAbs) = x / y ∧ sg (decide (x < 0)) (x.natAbs % y.natAbs) = x % y ∧ IntB (sg (decide (x < 0)) (x.natAbs % y.natAbs)) = .bool false) ∨
      (sg (!(decide (x < 0) == decide (y < 0))) (x.natAbs / y.natAbs) - sgnI y = x / y ∧ sg (decide (x < 0)) (x.natAbs % y.natAbs) + (y.natAbs : Int) = x % y ∧ IntB (sg (decide (x < 0)) (x.natAbs % y.natAbs)) = .bool true) := by
    by_cases h : x < 0
    · obtain ⟨e1, e2⟩ := ediv_neg' hy0 h
      rw [decide_eq_true h]
      have eb : (!(true == decide (y < 0))) = !decide (y < 0) := by simp
      rw [eb]
      rcases Nat.eq_zero_or_pos (x.natAbs % y.natAbs) with hz | hz
      · left
        obtain ⟨f1, f2⟩ := e1 hz
        rw [hz, f1, f2]
        exact ⟨rfl, rfl, rfl⟩
      · right
        obtain ⟨f1, f2⟩ := e2 hz
        exact ⟨f1.symm, f2.symm, congrArg AV.bool (decide_eq_true (by simp [sg]; omega))⟩
    · left
      obtain ⟨f1, f2⟩ := ediv_pos hy0 (show 0 ≤ x by omega)
      rw [decide_eq_false h]
      have eb : (!(false == decide (y < 0))) = decide (y < 0) := by simp
      rw [eb, f1, f2]
      exact ⟨rfl, rfl, congrArg AV.bool (decide_eq_false (by simp [sg]; omega))⟩
  generalize sg (!(decide (x < 0) == decide (y < 0))) (x.natAbs / y.natAbs) = q0 at *
  generalize sg (decide (x < 0)) (x.natAbs % y.natAbs) = r0 at *
  have fin : ∀ {v a b c d e f}, Q v H → SetR Q v ((((((H.upd p a).upd p2 b).upd p3 c).upd p4 d).upd p5 e).upd p6 f) := fun {v a b c d e f} hv => SetR.dropTo (((((((Le.refl H).updB hp).updB n2).updB n3).updB n4).updB n5).updB n6) (SetR.now hv)
  rcases cs with ⟨c1, c2, c3⟩ | ⟨c1, c2, c3⟩
  · rw [← c1, ← c2] at hq
    have f0 : AV.agg [.bool false, IntD r0] = IntA r0 := by rw [IntA_eq, c3]
    simp (disch := first | assumption | (apply Ap.symm; assumption) | omega | decide | (simp only [U_len, List.length_append, List.length_replicate, List.length_cons, List.length_nil, List.length_set] <;> omega) | fail) only [c3, fold_IntA, f0, cells_IntA, rs108, ↓Xa, Xb, Xc, ↓reduceIte, Nat.reduceLT, Nat.reduceEqDiff, Nat.reduceBEq, Nat.reduceLeDiff, Nat.reduceAdd, Nat.reduceMul]
    exact fin hq
  · rw [← c1, ← c2] at hq
    have f0 : AV.agg [.bool true, IntD r0] = IntA r0 := by rw [IntA_eq, c3]
    simp (disch := first | assumption | (apply Ap.symm; assumption) | omega | decide | (simp only [U_len, List.length_append, List.length_replicate, List.length_cons, List.length_nil, List.length_set] <;> omega) | fail) only [c3, fold_IntA, f0, foldL, foldM, ↓Xa, Xb, Xc, ↓reduceIte, Nat.reduceLT, Nat.reduceEqDiff, Nat.reduceBEq, Nat.reduceLeDiff, Nat.reduceAdd, Nat.reduceMul]
    refine PFn.dcall (abs_fn hy (by omega)) ?_
    simp (disch := first | assumption | (apply Ap.symm; assumption) | omega | decide | (simp only [U_len, List.length_append, List.length_replicate, List.length_cons, List.length_nil, List.length_set] <;> omega) | fail) only [fold_IntA, foldL, foldM, f0, ↓Xa, Xb, Xc, ↓reduceIte, Nat.reduceLT, Nat.reduceEqDiff, Nat.reduceBEq, Nat.reduceLeDiff, Nat.reduceAdd, Nat.reduceMul]
    refine (addi_fn br (by omega) hy.abs (by omega)).call ?_
    simp (disch := first | assumption | (apply Ap.symm; assumption) | omega | decide | (simp only [U_len, List.length_append, List.length_replicate, List.length_cons, List.length_nil, List.length_set] <;> omega) | fail) only [fold_IntA, foldL, foldM, f0, cells_IntA, ↓Xa, Xb, Xc, ↓reduceIte, Nat.reduceLT, Nat.reduceEqDiff, Nat.reduceBEq, Nat.reduceLeDiff, Nat.reduceAdd, Nat.reduceMul]
    refine PFn.dcall (sign_fn hy (by omega)) ?_
    simp (disch := first | assumption | (apply Ap.symm; assumption) | omega | decide | (simp only [U_len, List.length_append, List.length_replicate, List.length_cons, List.length_nil, List.length_set] <;> omega) | fail) only [fold_IntA, foldL, foldM, f0, ↓Xa, Xb, Xc, ↓reduceIte, Nat.reduceLT, Nat.reduceEqDiff, Nat.reduceBEq, Nat.reduceLeDiff, Nat.reduceAdd, Nat.reduceMul]
    refine PFn.dcall (of_fn (sgnI_le y)) ?_
    simp (disch := first | assumption | (apply Ap.symm; assumption) | omega | decide | (simp only [U_len, List.length_append, List.length_replicate, List.length_cons, List.length_nil, List.length_set] <;> omega) | fail) only [fold_IntA, foldL, foldM, f0, ↓Xa, Xb, Xc, ↓reduceIte, Nat.reduceLT, Nat.reduceEqDiff, Nat.reduceBEq, Nat.reduceLeDiff, Nat.reduceAdd, Nat.reduceMul]
    refine (subi_fn bq (by omega) (Bd.i64 (sgnI_le y)) (by omega)).call ?_
    simp (disch := first | assumption | (apply Ap.symm; assumption) | omega | decide | (simp only [U_len, List.length_append, List.length_replicate, List.length_cons, List.length_nil, List.length_set] <;> omega) | fail) only [fold_IntA, foldL, foldM, f0, cells_IntA, rs108, ↓Xa, Xb, Xc, ↓reduceIte, Nat.reduceLT, Nat.reduceEqDiff, Nat.reduceBEq, Nat.reduceLeDiff, Nat.reduceAdd, Nat.reduceMul]
    exact fin hq

end Go.Proofs.YtipbcjnniamcgaaDoor.Fw
