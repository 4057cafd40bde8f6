/- The laws' own helpers: one number in both, numbers that are too long, one answer that is fixed. -/
import Derived.Test.YtipbcjnniamcgaaDoorRg
namespace Go.Proofs.YtipbcjnniamcgaaDoor.Fw
set_option linter.unusedSimpArgs false
set_option linter.unusedVariables false
open Go Go.Proofs.YtipbcjnniamcgaaDoor.Ma
set_option maxRecDepth 20000

theorem is_fn {x y : Int} {k k' : Nat} (t : Bool) (hx : Bd k x) (hk : k ≤ 274877906944) (hy : Bd k' y) (hk' : k' ≤ 274877906944) : PFn Tryd.prog 29 [IntA x, RefA y t] (.bool (decide (x = y))) := by
  intro H Q hq
  have hl := hx.len
  have hl' := hy.len
  have vx := val_digs (B := 4294967296) (by omega) x.natAbs
  have vy := val_digs (B := 4294967296) (by omega) y.natAbs
  refine enter29 (by simp) ?_
  simp (disch := first | assumption | (apply Ap.symm; assumption) | omega | decide | (simp only [U_len, List.length_append, List.length_replicate, List.length_cons, List.length_nil, List.length_set] <;> omega) | fail) only [ac29, IntA, RefA, ↓Xa, Xb, Xc, ↓reduceIte, Nat.reduceLT, Nat.reduceEqDiff, Nat.reduceBEq, Nat.reduceLeDiff, Nat.reduceAdd, Nat.reduceMul]
  refine alloc_i fun p hp => ?_
  simp (disch := first | assumption | (apply Ap.symm; assumption) | omega | decide | (simp only [U_len, List.length_append, List.length_replicate, List.length_cons, List.length_nil, List.length_set] <;> omega) | fail) only [↓Xa, Xb, Xc, ↓reduceIte, Nat.reduceLT, Nat.reduceEqDiff, Nat.reduceBEq, Nat.reduceLeDiff, Nat.reduceAdd, Nat.reduceMul]
  refine alloc_i fun p2 hp2 => ?_
  have hne := (upd_none.1 hp2).1
  have le := (((Le.refl H).upd hp).upd hp2 (x := some (.row 30 0 [.bool (decide (y < 0)), LS (digs 65536 y.natAbs) t])))
  simp (disch := first | assumption | (apply Ap.symm; assumption) | omega | decide | (simp only [U_len, List.length_append, List.length_replicate, List.length_cons, List.length_nil, List.length_set] <;> omega) | fail) only [↓Xa, Xb, Xc, ↓reduceIte, Nat.reduceLT, Nat.reduceEqDiff, Nat.reduceBEq, Nat.reduceLeDiff, Nat.reduceAdd, Nat.reduceMul]
  refine (limbs_fn hx (by omega)).call ?_
  simp (disch := first | assumption | (apply Ap.symm; assumption) | omega | decide | (simp only [U_len, List.length_append, List.length_replicate, List.length_cons, List.length_nil, List.length_set] <;> omega) | fail) only [↓Xa, Xb, Xc, ↓reduceIte, Nat.reduceLT, Nat.reduceEqDiff, Nat.reduceBEq, Nat.reduceLeDiff, Nat.reduceAdd, Nat.reduceMul]
  refine (rlimbs_fn t hy (by omega)).call ?_
  have no : x ≠ y → SetR Q (.bool false) (((H.upd p (some (.row 28 0 [.bool (decide (x < 0)), LS (digs 4294967296 x.natAbs) true]))).upd p2 (some (.row 30 0 [.bool (decide (y < 0)), LS (digs 65536 y.natAbs) t])))) := fun h => by
    refine SetR.dropTo le (SetR.now ?_)
    rwa [decide_eq_false h] at hq
  by_cases c0 : decide (x < 0) = decide (y < 0)
  · have c0b : (decide (x < 0) == decide (y < 0)) = true := by rw [c0]; simp
    generalize hX : digs 4294967296 x.natAbs = X at *
    generalize hY : digs 4294967296 y.natAbs = Y at *
    by_cases c1 : X.length = Y.length
    · simp (disch := first | assumption | (apply Ap.symm; assumption) | omega | decide | (simp only [U_len, List.length_append, List.length_replicate, List.length_cons, List.length_nil, List.length_set] <;> omega) | fail) only [c0b, c1, ↓Xa, Xb, Xc, ↓reduceIte, Nat.reduceLT, Nat.reduceEqDiff, Nat.reduceBEq, Nat.reduceLeDiff, Nat.reduceAdd, Nat.reduceMul]
      refine W_loop (fun i : Nat => ⟨[], [(6, LS X false), (7, LS Y false), (8, .int .i64 i)], _⟩) (fun i => i ≤ Y.length ∧ X.take i = Y.take i) (fun i => Y.length - i) 0 (Settle.now rfl) ⟨by simp, by simp⟩ ?_
      rintro i ⟨h1, h2⟩
      by_cases hi : i < Y.length
      · by_cases hv : X.getD i 0 = Y.getD i 0
        · simp (disch := first | assumption | (apply Ap.symm; assumption) | omega | decide | (simp only [U_len, List.length_append, List.length_replicate, List.length_cons, List.length_nil, List.length_set] <;> omega) | fail) only [hi, hv, c1, ↓Xa, Xb, Xc, ↓reduceIte, Nat.reduceLT, Nat.reduceEqDiff, Nat.reduceBEq, Nat.reduceLeDiff, Nat.reduceAdd, Nat.reduceMul]
          refine Settle.now ⟨i + 1, by omega, ⟨by omega, ?_⟩, rfl⟩
          rw [take_succ_getD _ _ (by omega), take_succ_getD _ _ hi, h2, hv]
        · simp (disch := first | assumption | (apply Ap.symm; assumption) | omega | decide | (simp only [U_len, List.length_append, List.length_replicate, List.length_cons, List.length_nil, List.length_set] <;> omega) | fail) only [hi, hv, c1, rs29, ↓Xa, Xb, Xc, ↓reduceIte, Nat.reduceLT, Nat.reduceEqDiff, Nat.reduceBEq, Nat.reduceLeDiff, Nat.reduceAdd, Nat.reduceMul]
          refine no fun e => hv ?_
          have : X = Y := by rw [← hX, ← hY, e]
          rw [this]
      · simp (disch := first | assumption | (apply Ap.symm; assumption) | omega | decide | (simp only [U_len, List.length_append, List.length_replicate, List.length_cons, List.length_nil, List.length_set] <;> omega) | fail) only [hi, c1, ↓Xa, Xb, Xc, ↓reduceIte, Nat.reduceLT, Nat.reduceEqDiff, Nat.reduceBEq, Nat.reduceLeDiff, Nat.reduceAdd, Nat.reduceMul]
        refine Settle.now ?_
        simp (disch := first | assumption | (apply Ap.symm; assumption) | omega | decide | (simp only [U_len, List.length_append, List.length_replicate, List.length_cons, List.length_nil, List.length_set] <;> omega) | fail) only [rs29, ↓Xa, Xb, Xc, ↓reduceIte, Nat.reduceLT, Nat.reduceEqDiff, Nat.reduceBEq, Nat.reduceLeDiff, Nat.reduceAdd, Nat.reduceMul]
        have : X = Y := by
          rw [List.take_of_length_le (by omega), List.take_of_length_le (by omega)] at h2; exact h2
        have e : x = y := by
          have e1 : x.natAbs = y.natAbs := by rw [← vx, ← vy, this]
          have e2 := decide_eq_decide.1 c0
          omega
        refine SetR.dropTo le (SetR.now ?_)
        rwa [decide_eq_true e] at hq
    · simp (disch := first | assumption | (apply Ap.symm; assumption) | omega | decide | (simp only [U_len, List.length_append, List.length_replicate, List.length_cons, List.length_nil, List.length_set] <;> omega) | fail) only [c0b, c1, rs29, ↓Xa, Xb, Xc, ↓reduceIte, Nat.reduceLT, Nat.reduceEqDiff, Nat.reduceBEq, Nat.reduceLeDiff, Nat.reduceAdd, Nat.reduceMul]
      refine no fun e => c1 ?_
      rw [← hX, ← hY, e]
  · have c0b : (decide (x < 0) == decide (y < 0)) = false := by simpa using c0
    simp (disch := first | assumption | (apply Ap.symm; assumption) | omega | decide | (simp only [U_len, List.length_append, List.length_replicate, List.length_cons, List.length_nil, List.length_set] <;> omega) | fail) only [c0b, rs29, ↓Xa, Xb, Xc, ↓reduceIte, Nat.reduceLT, Nat.reduceEqDiff, Nat.reduceBEq, Nat.reduceLeDiff, Nat.reduceAdd, Nat.reduceMul]
    exact no fun e => c0 (by rw [e])
theorem is_same {x : Int} {k : Nat} (t : Bool) (hx : Bd k x) (hk : k ≤ 274877906944) : PFn Tryd.prog 29 [IntA x, RefA x t] (.bool true) := by
  have := is_fn t hx hk hx hk
  rwa [decide_eq_true rfl] at this

/-- Numbers as they are handed in. -/
def NumA (q : Bool × List Nat × Bool) : AV := .agg [.bool q.1, LS q.2.1 q.2.2]
def NumC : List (Bool × List Nat × Bool) → List AV
  | [] => []
  | q :: r => .bool q.1 :: LS q.2.1 q.2.2 :: NumC r
theorem NumC_len : ∀ l, (NumC l).length = l.length * 2
  | [] => rfl
  | q :: r => by simp [NumC, NumC_len r]; omega
theorem NumC_drop : ∀ (l : List (Bool × List Nat × Bool)) (i : Nat) (h : i < l.length), ((NumC l).drop (i * 2)).drop 1 = LS (l[i]).2.1 (l[i]).2.2 :: (NumC l).drop (i * 2 + 2)
  | q :: r, 0, _ => by simp [NumC]
  | q :: r, i + 1, h => by
    have := NumC_drop r i (by simpa using h)
    rw [show (i + 1) * 2 = i * 2 + 1 + 1 by omega]
    simpa [NumC] using this
theorem long_fn (l : List (Bool × List Nat × Bool)) (t : Bool) (hl : l.length < 1000) (hb : ∀ q, q ∈ l → q.2.1.length < 9223372036854775808) : PFn Tryd.prog 19 [.seq l.length (NumC l) t] (.bool (l.any fun q => decide (60 < q.2.1.length))) := by
  intro H Q hq
  refine enter19 (by simp) ?_
  have len9 : ∀ {n : Nat} {c : List AV} {t : Bool} {K : AV → Prop} (_ : n < 2 ^ 63), lenW false (.seq n c t) K = K (.int .i64 ((n : Nat) : Int)) := fun h => by simp [lenW, h]
  have idx9 : ∀ {i : Nat} {K : AV → Prop} (_ : i < l.length), idxAW 2 (.seq l.length (NumC l) t) (.int .i64 (i : Int)) K = K (.cptr ((NumC l).drop (i * 2))) := fun {i K} h => by simp [idxAW, NumC_len, h]
  have ld9 : ∀ {i : Nat} {K : AV → Prop} (h : i < l.length), loadW H none (.cptr (((NumC l).drop (i * 2)).drop 1)) K = K (LS (l[i]).2.1 (l[i]).2.2) := fun {i K} h => by
    simp only [loadW, cellsAt, NumC_drop l i h]
    simp
  simp (disch := first | assumption | (apply Ap.symm; assumption) | omega | decide | (simp only [U_len, List.length_append, List.length_replicate, List.length_cons, List.length_nil, List.length_set] <;> omega) | fail) only [ac19, ↓Xa, Xb, Xc, ↓reduceIte, Nat.reduceLT, Nat.reduceEqDiff, Nat.reduceBEq, Nat.reduceLeDiff, Nat.reduceAdd, Nat.reduceMul]
  refine W_loop (fun i : Nat => ⟨[], [(0, .seq l.length (NumC l) t), (3, .int .i64 i)], H⟩) (fun i => i ≤ l.length ∧ ∀ q, q ∈ l.take i → ¬ 60 < q.2.1.length) (fun i => l.length - i) 0 (Settle.now rfl) ⟨by simp, by simp⟩ ?_
  rintro i ⟨h1, h2⟩
  by_cases hi : i < l.length
  · have hbi := hb (l[i]) (List.getElem_mem hi)
    by_cases hv : 60 < (l[i]).2.1.length
    · simp (disch := first | assumption | (apply Ap.symm; assumption) | omega | decide | (simp only [U_len, List.length_append, List.length_replicate, List.length_cons, List.length_nil, List.length_set] <;> omega) | fail) only [len9, idx9, ld9, hi, hv, rs19, ↓Xa, Xb, Xc, ↓reduceIte, Nat.reduceLT, Nat.reduceEqDiff, Nat.reduceBEq, Nat.reduceLeDiff, Nat.reduceAdd, Nat.reduceMul]
      have : (l.any fun q => decide (60 < q.2.1.length)) = true := List.any_eq_true.2 ⟨_, List.getElem_mem hi, by simpa using hv⟩
      rw [this] at hq
      exact SetR.now hq
    · simp (disch := first | assumption | (apply Ap.symm; assumption) | omega | decide | (simp only [U_len, List.length_append, List.length_replicate, List.length_cons, List.length_nil, List.length_set] <;> omega) | fail) only [len9, idx9, ld9, hi, hv, ↓Xa, Xb, Xc, ↓reduceIte, Nat.reduceLT, Nat.reduceEqDiff, Nat.reduceBEq, Nat.reduceLeDiff, Nat.reduceAdd, Nat.reduceMul]
      refine Settle.now ⟨i + 1, by omega, ⟨by omega, fun q hq => ?_⟩, rfl⟩
      rw [List.take_add_one, List.getElem?_eq_getElem hi, List.mem_append] at hq
      rcases hq with hq | hq
      · exact h2 q hq
      · rw [List.mem_singleton.1 hq]; exact hv
  · simp (disch := first | assumption | (apply Ap.symm; assumption) | omega | decide | (simp only [U_len, List.length_append, List.length_replicate, List.length_cons, List.length_nil, List.length_set] <;> omega) | fail) only [len9, hi, ↓Xa, Xb, Xc, ↓reduceIte, Nat.reduceLT, Nat.reduceEqDiff, Nat.reduceBEq, Nat.reduceLeDiff, Nat.reduceAdd, Nat.reduceMul]
    refine Settle.now ?_
    simp (disch := first | assumption | (apply Ap.symm; assumption) | omega | decide | (simp only [U_len, List.length_append, List.length_replicate, List.length_cons, List.length_nil, List.length_set] <;> omega) | fail) only [rs19, ↓Xa, Xb, Xc, ↓reduceIte, Nat.reduceLT, Nat.reduceEqDiff, Nat.reduceBEq, Nat.reduceLeDiff, Nat.reduceAdd, Nat.reduceMul]
    have : (l.any fun q => decide (60 < q.2.1.length)) = false := by
      rw [List.take_of_length_le (by omega)] at h2
      exact List.any_eq_false.2 fun q hq => by simpa using h2 q hq
    rw [this] at hq
    exact SetR.now hq

theorem ofn_fn (q : Bool × List Nat × Bool) (hl : Lim 4294967296 q.2.1) (hn : q.2.1.length ≤ 1099511627776) : PFn Tryd.prog 20 [NumA q] (.tup [IntA (sg q.1 (val 4294967296 q.2.1)), RefA (sg q.1 (val 4294967296 q.2.1)) false]) := by
  intro H Q hq
  obtain ⟨neg, l, t⟩ := q
  dsimp only at hl hn hq
  refine enter20 (by simp) ?_
  simp (disch := first | assumption | (apply Ap.symm; assumption) | omega | decide | (simp only [U_len, List.length_append, List.length_replicate, List.length_cons, List.length_nil, List.length_set] <;> omega) | fail) only [ac20, NumA, ↓Xa, Xb, Xc, ↓reduceIte, Nat.reduceLT, Nat.reduceEqDiff, Nat.reduceBEq, Nat.reduceLeDiff, Nat.reduceAdd, Nat.reduceMul]
  refine alloc_i fun p hp => ?_
  simp (disch := first | assumption | (apply Ap.symm; assumption) | omega | decide | (simp only [U_len, List.length_append, List.length_replicate, List.length_cons, List.length_nil, List.length_set] <;> omega) | fail) only [↓Xa, Xb, Xc, ↓reduceIte, Nat.reduceLT, Nat.reduceEqDiff, Nat.reduceBEq, Nat.reduceLeDiff, Nat.reduceAdd, Nat.reduceMul]
  refine alloc_i fun p2 hp2 => ?_
  simp (disch := first | assumption | (apply Ap.symm; assumption) | omega | decide | (simp only [U_len, List.length_append, List.length_replicate, List.length_cons, List.length_nil, List.length_set] <;> omega) | fail) only [↓Xa, Xb, Xc, ↓reduceIte, Nat.reduceLT, Nat.reduceEqDiff, Nat.reduceBEq, Nat.reduceLeDiff, Nat.reduceAdd, Nat.reduceMul]
  refine alloc_i fun p3 hp3 => ?_
  have hne := (upd_none.1 hp2).1
  have hne3 := (upd_none.1 hp3).1
  have hne4 := (upd_none.1 (upd_none.1 hp3).2).1
  simp (disch := first | assumption | (apply Ap.symm; assumption) | omega | decide | (simp only [U_len, List.length_append, List.length_replicate, List.length_cons, List.length_nil, List.length_set] <;> omega) | fail) only [↓Xa, Xb, Xc, ↓reduceIte, Nat.reduceLT, Nat.reduceEqDiff, Nat.reduceBEq, Nat.reduceLeDiff, Nat.reduceAdd, Nat.reduceMul]
  refine PFn.dcall (make_fn neg t hl hn) ?_
  simp (disch := first | assumption | (apply Ap.symm; assumption) | omega | decide | (simp only [U_len, List.length_append, List.length_replicate, List.length_cons, List.length_nil, List.length_set] <;> omega) | fail) only [↓Xa, Xb, Xc, ↓reduceIte, Nat.reduceLT, Nat.reduceEqDiff, Nat.reduceBEq, Nat.reduceLeDiff, Nat.reduceAdd, Nat.reduceMul]
  refine (rmake_fn neg t hl hn).call ?_
  simp (disch := first | assumption | (apply Ap.symm; assumption) | omega | decide | (simp only [U_len, List.length_append, List.length_replicate, List.length_cons, List.length_nil, List.length_set] <;> omega) | fail) only [rs20, IntA, RefA, ↓Xa, Xb, Xc, ↓reduceIte, Nat.reduceLT, Nat.reduceEqDiff, Nat.reduceBEq, Nat.reduceLeDiff, Nat.reduceAdd, Nat.reduceMul]
  exact SetR.dropTo ((((Le.refl H).upd hp).updB (upd_none.1 hp2).2).updB (upd_none.1 (upd_none.1 hp3).2).2) (SetR.now hq)

def fits (x : Int) : Bool := decide (-9223372036854775808 ≤ x ∧ x < 9223372036854775808)
def smallV (x : Int) : Int := if fits x then x else ((0 : Nat) : Int)
theorem small_fn {x : Int} {k : Nat} (hx : Bd k x) (hk : k ≤ 549755813888) : PFn Tryd.prog 81 [IntA x] (.tup [.int .i64 (smallV x), .bool (fits x)]) := by
  intro H Q hq
  have hl := hx.len
  have vx := val_digs (B := 4294967296) (by omega) x.natAbs
  have lx := lim_digs (B := 4294967296) (by omega) x.natAbs
  refine enter81 (by simp) ?_
  simp (disch := first | assumption | (apply Ap.symm; assumption) | omega | decide | (simp only [U_len, List.length_append, List.length_replicate, List.length_cons, List.length_nil, List.length_set] <;> omega) | fail) only [ac81, IntA, ↓Xa, Xb, Xc, ↓reduceIte, Nat.reduceLT, Nat.reduceEqDiff, Nat.reduceBEq, Nat.reduceLeDiff, Nat.reduceAdd, Nat.reduceMul]
  refine alloc_i fun p hp => ?_
  have le' : ∀ {x}, Le H (H.upd p x) := (Le.refl H).upd hp
  generalize hX : digs 4294967296 x.natAbs = X at *
  have zero : fits x = false → SetR Q (.tup [.int .i64 ((0 : Nat) : Int), .bool false]) (H.upd p (some (.row 28 0 [.bool (decide (x < 0)), LS X true]))) := fun h => by
    refine SetR.dropTo le' (SetR.now ?_)
    simpa [smallV, h] using hq
  by_cases h2 : 2 < X.length
  · simp (disch := first | assumption | (apply Ap.symm; assumption) | omega | decide | (simp only [U_len, List.length_append, List.length_replicate, List.length_cons, List.length_nil, List.length_set] <;> omega) | fail) only [h2, rs81, ↓Xa, Xb, Xc, ↓reduceIte, Nat.reduceLT, Nat.reduceEqDiff, Nat.reduceBEq, Nat.reduceLeDiff, Nat.reduceAdd, Nat.reduceMul]
    refine zero (decide_eq_false fun hf => ?_)
    have : (digs 4294967296 x.natAbs).length ≤ 2 := digs_len (by omega) 2 _ (by omega)
    rw [hX] at this; omega
  · have hv : val 4294967296 X < 18446744073709551616 := by
      have := val_lt lx
      have h3 : (4294967296 : Nat) ^ X.length ≤ 4294967296 ^ 2 := Nat.pow_le_pow_right (by omega) (by omega)
      omega
    simp (disch := first | assumption | (apply Ap.symm; assumption) | omega | decide | (simp only [U_len, List.length_append, List.length_replicate, List.length_cons, List.length_nil, List.length_set] <;> omega) | fail) only [h2, ↓Xa, Xb, Xc, ↓reduceIte, Nat.reduceLT, Nat.reduceEqDiff, Nat.reduceBEq, Nat.reduceLeDiff, Nat.reduceAdd, Nat.reduceMul]
    have or0 : ∀ {b : Nat} {K : AV → Prop} (_ : b < 4294967296), binW .or (.int .u64 ((0 : Nat) : Int)) (.int .u64 (b : Int)) K ↔ K (.int .u64 (b : Int)) := fun {b K} hb => by
      rw [bin_or .u64 (by simp [IntKind.bits]) (by simp [IntKind.bits]; omega), Nat.zero_or, wn_u64 (by omega)]
    have shl0 : ∀ {a : Nat} {K : AV → Prop} (_ : a < 4294967296), binW .shl (.int .u64 (a : Int)) (.int .i64 ((0 : Nat) : Int)) K ↔ K (.int .u64 (a : Int)) := fun {a K} ha => by
      rw [bin_shl64 _ _ (by omega), Nat.pow_zero, Nat.mul_one, wn_u64 (by omega)]
    refine W_loop (fun i : Nat => ⟨[], [(1, .ptr p 2 0), (4, .int .u64 ((val 4294967296 (X.take i) : Nat) : Int)), (12, LS X true), (13, .int .i64 X.length), (14, .int .i64 i)], _⟩) (fun i => i ≤ X.length) (fun i => X.length - i) 0 (Settle.now rfl) (by simp) ?_
    intro i h1
    by_cases hi : i < X.length
    · have hxi := lx.getD (by omega) i
      have hi2 : i = 0 ∨ i = 1 := by omega
      rcases hi2 with rfl | rfl
      · have e : val 4294967296 (X.take (0 + 1)) = X.getD 0 0 := by rw [val_take]; simp [val]
        rw [show val 4294967296 (X.take 0) = 0 by simp [val]]
        simp (disch := first | assumption | (apply Ap.symm; assumption) | omega | decide | (simp only [U_len, List.length_append, List.length_replicate, List.length_cons, List.length_nil, List.length_set] <;> omega) | fail) only [hi, or0, shl0, load_LS0, Nat.mul_zero, ↓Xa, Xb, Xc, ↓reduceIte, Nat.reduceLT, Nat.reduceEqDiff, Nat.reduceBEq, Nat.reduceLeDiff, Nat.reduceAdd, Nat.reduceMul]
        refine Settle.now ⟨0 + 1, by omega, by omega, ?_⟩
        rw [e]
      · have e : val 4294967296 (X.take (1 + 1)) = X.getD 0 0 + X.getD 1 0 * 2 ^ 32 := by rw [val_take, val_take]; simp [val]; omega
        have hx0 := lx.getD (by omega) 0
        rw [show val 4294967296 (X.take 1) = X.getD 0 0 by rw [show 1 = 0 + 1 from rfl, val_take]; simp [val]]
        simp (disch := first | assumption | (apply Ap.symm; assumption) | omega | decide | (simp only [U_len, List.length_append, List.length_replicate, List.length_cons, List.length_nil, List.length_set] <;> omega) | fail) only [hi, Nat.mul_one, bin_or64', ↓Xa, Xb, Xc, ↓reduceIte, Nat.reduceLT, Nat.reduceEqDiff, Nat.reduceBEq, Nat.reduceLeDiff, Nat.reduceAdd, Nat.reduceMul]
        refine Settle.now ?_
        refine ⟨2, by omega, by omega, ?_⟩
        rw [show val 4294967296 (X.take 2) = _ from e]
    · have e : val 4294967296 (X.take i) = x.natAbs := by rw [val_take_all _ _ _ (by omega), vx]
      rw [e]
      rw [vx] at hv
      simp (disch := first | assumption | (apply Ap.symm; assumption) | omega | decide | (simp only [U_len, List.length_append, List.length_replicate, List.length_cons, List.length_nil, List.length_set] <;> omega) | fail) only [hi, ↓Xa, Xb, Xc, ↓reduceIte, Nat.reduceLT, Nat.reduceEqDiff, Nat.reduceBEq, Nat.reduceLeDiff, Nat.reduceAdd, Nat.reduceMul]
      refine Settle.now ?_
      by_cases hn : x < 0
      · by_cases hf : x.natAbs ≤ 9223372036854775808
        · have f : fits x = true := decide_eq_true (by omega)
          have c1 : ∀ K, unW .neg (.int .u64 ((x.natAbs : Nat) : Int)) K ↔ K (.int .u64 ((18446744073709551616 - x.natAbs : Nat) : Int)) := fun K => by
            simp only [unW, wmod_u64]; rw [show (0 - ((x.natAbs : Nat) : Int)) % 18446744073709551616 = ((18446744073709551616 - x.natAbs : Nat) : Int) by omega]
          have c2 : ∀ K, convW .i64 (.int .u64 ((18446744073709551616 - x.natAbs : Nat) : Int)) K ↔ K (.int .i64 x) := fun K => by
            have : IntKind.i64.wrap ((18446744073709551616 - x.natAbs : Nat) : Int) = x := by
              unfold IntKind.wrap; simp only [IntKind.bits, IntKind.signed, Bool.true_and, decide_eq_true_eq, ge_iff_le]; split <;> omega
            simp only [convW, this]
          simp (disch := first | assumption | (apply Ap.symm; assumption) | omega | decide | (simp only [U_len, List.length_append, List.length_replicate, List.length_cons, List.length_nil, List.length_set] <;> omega) | fail) only [hn, hf, c1, c2, rs81, ↓Xa, Xb, Xc, ↓reduceIte, Nat.reduceLT, Nat.reduceEqDiff, Nat.reduceBEq, Nat.reduceLeDiff, Nat.reduceAdd, Nat.reduceMul]
          refine SetR.dropTo le' (SetR.now ?_)
          simpa [smallV, f] using hq
        · have f : fits x = false := decide_eq_false (by omega)
          simp (disch := first | assumption | (apply Ap.symm; assumption) | omega | decide | (simp only [U_len, List.length_append, List.length_replicate, List.length_cons, List.length_nil, List.length_set] <;> omega) | fail) only [hn, hf, rs81, ↓Xa, Xb, Xc, ↓reduceIte, Nat.reduceLT, Nat.reduceEqDiff, Nat.reduceBEq, Nat.reduceLeDiff, Nat.reduceAdd, Nat.reduceMul]
          simp only [hn, decide_true] at zero
          exact zero f
      · by_cases hf : x.natAbs < 9223372036854775808
        · have f : fits x = true := decide_eq_true (by omega)
          have e3 : ((x.natAbs : Nat) : Int) = x := by omega
          simp (disch := first | assumption | (apply Ap.symm; assumption) | omega | decide | (simp only [U_len, List.length_append, List.length_replicate, List.length_cons, List.length_nil, List.length_set] <;> omega) | fail) only [hn, hf, rs81, ↓Xa, Xb, Xc, ↓reduceIte, Nat.reduceLT, Nat.reduceEqDiff, Nat.reduceBEq, Nat.reduceLeDiff, Nat.reduceAdd, Nat.reduceMul]
          refine SetR.dropTo le' (SetR.now ?_)
          simpa [smallV, f, e3] using hq
        · have f : fits x = false := decide_eq_false (by omega)
          simp (disch := first | assumption | (apply Ap.symm; assumption) | omega | decide | (simp only [U_len, List.length_append, List.length_replicate, List.length_cons, List.length_nil, List.length_set] <;> omega) | fail) only [hn, hf, rs81, ↓Xa, Xb, Xc, ↓reduceIte, Nat.reduceLT, Nat.reduceEqDiff, Nat.reduceBEq, Nat.reduceLeDiff, Nat.reduceAdd, Nat.reduceMul]
          simp only [hn, decide_false] at zero
          exact zero f
end Go.Proofs.YtipbcjnniamcgaaDoor.Fw
