/- What package integer computes: making, signs, comparing, sums, products. -/
import Derived.Test.YtipbcjnniamcgaaDoorLj
namespace Go.Proofs.YtipbcjnniamcgaaDoor.Fw
set_option linter.unusedSimpArgs false
set_option linter.unusedVariables false
open Go Go.Proofs.YtipbcjnniamcgaaDoor.Ma
set_option maxRecDepth 20000

/-- A whole number of the program. -/
def IntA (z : Int) : AV := .agg [.bool (decide (z < 0)), LS (digs 4294967296 z.natAbs) true]
/-- A number with a sign. -/
def sg (neg : Bool) (n : Nat) : Int := if neg then -(n : Int) else n
theorem sg_abs (neg : Bool) (n : Nat) : (sg neg n).natAbs = n := by cases neg <;> simp [sg]
theorem sg_neg (neg : Bool) (n : Nat) : decide (sg neg n < 0) = (neg && decide (0 < n)) := by cases neg <;> simp [sg] <;> omega
theorem sg_self (z : Int) : sg (decide (z < 0)) z.natAbs = z := by unfold sg; by_cases h : z < 0 <;> simp [h]; omega; omega
theorem abs_nn {z : Int} (h : 0 ≤ z) : ((z.natAbs : Nat) : Int) = z := by omega
theorem abs_np {z : Int} (h : z ≤ 0) : -((z.natAbs : Nat) : Int) = z := by omega
theorem IntA_sg (neg : Bool) (n : Nat) : IntA (sg neg n) = .agg [.bool (neg && decide (0 < (digs 4294967296 n).length)), LS (digs 4294967296 n) true] := by
  simp only [IntA, sg_abs, sg_neg, digs_pos_len (B := 4294967296) (n := n) (by omega)]

/-- Its two cells. -/
def IntB (z : Int) : AV := .bool (decide (z < 0))
def IntD (z : Int) : AV := LS (digs 4294967296 z.natAbs) true
theorem IntA_eq {z : Int} : IntA z = .agg [IntB z, IntD z] := id rfl
theorem cells_IntA {z : Int} : (IntA z).cells = some [IntB z, IntD z] := id rfl
theorem fold_IntA {z : Int} : AV.agg [IntB z, IntD z] = IntA z := id rfl
theorem IntA_0 : AV.agg [.bool false, .seq 0 [] true] = IntA 0 := by simp [IntA, digs_zero, LS, U]
theorem cell_IntB {z : Int} : (IntB z).cells = some [IntB z] := id rfl
theorem cell_IntD {z : Int} : (IntD z).cells = some [IntD z] := id rfl
theorem cell_Bool {z : Int} : (IntB z).cell = true := id rfl
theorem cell_Dool {z : Int} : (IntD z).cell = true := id rfl
theorem made_fn (neg : Bool) (n : Nat) (hl : (digs 4294967296 n).length ≤ 1099511627776) : PFn Tryd.prog 86 [.bool neg, LS (digs 4294967296 n) true] (IntA (sg neg n)) := by
  intro H Q hq
  refine enter86 (by simp) ?_
  rw [IntA_sg] at hq
  simp (disch := first | assumption | (apply Ap.symm; assumption) | omega | decide | (simp only [U_len, List.length_append, List.length_replicate, List.length_cons, List.length_nil, List.length_set] <;> omega) | fail) only [ac86, ↓Xa, Xb, Xc, ↓reduceIte, Nat.reduceLT, Nat.reduceEqDiff, Nat.reduceBEq, Nat.reduceLeDiff, Nat.reduceAdd, Nat.reduceMul]
  refine alloc_i fun p hp => ?_
  cases neg
  · simp (disch := first | assumption | (apply Ap.symm; assumption) | omega | decide | (simp only [U_len, List.length_append, List.length_replicate, List.length_cons, List.length_nil, List.length_set] <;> omega) | fail) only [rs86, ↓Xa, Xb, Xc, ↓reduceIte, Nat.reduceLT, Nat.reduceEqDiff, Nat.reduceBEq, Nat.reduceLeDiff, Nat.reduceAdd, Nat.reduceMul]
    exact SetR.dropTo ((Le.refl H).upd hp) (SetR.now hq)
  · simp (disch := first | assumption | (apply Ap.symm; assumption) | omega | decide | (simp only [U_len, List.length_append, List.length_replicate, List.length_cons, List.length_nil, List.length_set] <;> omega) | fail) only [rs86, ↓Xa, Xb, Xc, ↓reduceIte, Nat.reduceLT, Nat.reduceEqDiff, Nat.reduceBEq, Nat.reduceLeDiff, Nat.reduceAdd, Nat.reduceMul]
    exact SetR.dropTo ((Le.refl H).upd hp) (SetR.now hq)

/-- At most so many limbs. -/
def Bd (k : Nat) (z : Int) : Prop := z.natAbs < 4294967296 ^ k
theorem Bd.len {k : Nat} {z : Int} (h : Bd k z) : (digs 4294967296 z.natAbs).length ≤ k := digs_len (by omega) k _ h
theorem Bd.mono {k k' : Nat} {z : Int} (h : Bd k z) (hk : k ≤ k') : Bd k' z := Nat.lt_of_lt_of_le h (Nat.pow_le_pow_right (by omega) hk)
theorem Bd.neg {k : Nat} {z : Int} (h : Bd k z) : Bd k (-z) := by unfold Bd at *; omega
theorem Bd.sgn {k n : Nat} {b : Bool} (h : n < 4294967296 ^ k) : Bd k (sg b n) := by unfold Bd; rw [sg_abs]; exact h
theorem Bd.abs {k : Nat} {z : Int} (h : Bd k z) : Bd k (z.natAbs : Int) := by unfold Bd at *; omega
theorem Bd.add {k : Nat} {x y : Int} (h : Bd k x) (h' : Bd k y) : Bd (k + 1) (x + y) := by
  unfold Bd at *; rw [Nat.pow_succ]; omega
theorem Bd.sub {k : Nat} {x y : Int} (h : Bd k x) (h' : Bd k y) : Bd (k + 1) (x - y) := by
  unfold Bd at *; rw [Nat.pow_succ]; omega
theorem Bd.mul {k k' : Nat} {x y : Int} (h : Bd k x) (h' : Bd k' y) : Bd (k + k') (x * y) := by
  unfold Bd at *; rw [Int.natAbs_mul, Nat.pow_add]
  exact Nat.mul_lt_mul_of_lt_of_lt h h'
theorem Bd.of_val {l : List Nat} {b : Bool} (h : Lim 4294967296 l) : Bd l.length (sg b (val 4294967296 l)) := Bd.sgn (val_lt h)
theorem Bd.zero (k : Nat) : Bd k 0 := by unfold Bd; exact Nat.pow_pos (by omega)
theorem Bd.i64 {n : Int} (h : -9223372036854775808 ≤ n ∧ n < 9223372036854775808) : Bd 2 n := by unfold Bd; omega

theorem make_fn {l : List Nat} (neg t : Bool) (hl : Lim 4294967296 l) (hn : l.length ≤ 1099511627776) : PFn Tryd.prog 82 [.bool neg, LS l t] (IntA (sg neg (val 4294967296 l))) := by
  intro H Q hq
  refine enter82 (by simp) ?_
  simp (disch := first | assumption | (apply Ap.symm; assumption) | omega | decide | (simp only [U_len, List.length_append, List.length_replicate, List.length_cons, List.length_nil, List.length_set] <;> omega) | fail) only [ac82, ↓Xa, Xb, Xc, ↓reduceIte, Nat.reduceLT, Nat.reduceEqDiff, Nat.reduceBEq, Nat.reduceLeDiff, Nat.reduceAdd, Nat.reduceMul]
  refine alloc_i fun p hp => ?_
  simp (disch := first | assumption | (apply Ap.symm; assumption) | omega | decide | (simp only [U_len, List.length_append, List.length_replicate, List.length_cons, List.length_nil, List.length_set] <;> omega) | fail) only [↓Xa, Xb, Xc, ↓reduceIte, Nat.reduceLT, Nat.reduceEqDiff, Nat.reduceBEq, Nat.reduceLeDiff, Nat.reduceAdd, Nat.reduceMul]
  refine (norm_fn t (by omega)).call ?_
  rw [tr_digs (by omega) hl]
  simp (disch := first | assumption | (apply Ap.symm; assumption) | omega | decide | (simp only [U_len, List.length_append, List.length_replicate, List.length_cons, List.length_nil, List.length_set] <;> omega) | fail) only [↓Xa, Xb, Xc, ↓reduceIte, Nat.reduceLT, Nat.reduceEqDiff, Nat.reduceBEq, Nat.reduceLeDiff, Nat.reduceAdd, Nat.reduceMul]
  refine (made_fn neg _ (by have := tr_len l; rw [tr_digs (by omega) hl] at this; omega)).call ?_
  simp (disch := first | assumption | (apply Ap.symm; assumption) | omega | decide | (simp only [U_len, List.length_append, List.length_replicate, List.length_cons, List.length_nil, List.length_set] <;> omega) | fail) only [rs82, IntA, ↓Xa, Xb, Xc, ↓reduceIte, Nat.reduceLT, Nat.reduceEqDiff, Nat.reduceBEq, Nat.reduceLeDiff, Nat.reduceAdd, Nat.reduceMul]
  exact SetR.dropTo ((Le.refl H).upd hp) (SetR.now hq)

theorem of_fn {n : Int} (hn : -9223372036854775808 ≤ n ∧ n < 9223372036854775808) : PFn Tryd.prog 76 [.int .i64 n] (IntA n) := by
  intro H Q hq
  refine enter76 (by simp) ?_
  have v2 : ∀ u : Nat, u < 18446744073709551616 → val 4294967296 [u % 4294967296, u / 2 ^ 32] = u := by
    intro u hu; simp only [val]; omega
  have l2 : ∀ u : Nat, u < 18446744073709551616 → Lim 4294967296 [u % 4294967296, u / 2 ^ 32] := fun u hu => Lim.cons (Nat.mod_lt _ (by omega)) (Lim.one (by omega))
  simp (disch := first | assumption | (apply Ap.symm; assumption) | omega | decide | (simp only [U_len, List.length_append, List.length_replicate, List.length_cons, List.length_nil, List.length_set] <;> omega) | fail) only [ac76, ↓Xa, Xb, Xc, ↓reduceIte, Nat.reduceLT, Nat.reduceEqDiff, Nat.reduceBEq, Nat.reduceLeDiff, Nat.reduceAdd, Nat.reduceMul]
  refine alloc_i fun p hp => ?_
  have key' : ∀ (u : Nat) (neg : Bool), u < 18446744073709551616 → sg neg u = n → ∀ {H K}, K (IntA n) H → callW Tryd.prog (.fn (.func 82) [] []) [.bool neg, .seq 2 [.int .u32 ((u % 4294967296 : Nat) : Int), .int .u32 ((u / 2 ^ 32 : Nat) : Int)] true] H K := by
    intro u neg hu hs H K hk
    have := make_fn neg true (l2 u hu) (by simp)
    rw [v2 u hu, hs] at this
    exact this.call hk
  by_cases h0 : n < 0
  · obtain ⟨m, rfl⟩ : ∃ m : Nat, n = -(m : Int) := ⟨n.natAbs, by omega⟩
    have c1 : ∀ K, convW .u64 (.int .i64 (-(m : Int))) K ↔ K (.int .u64 ((18446744073709551616 - m : Nat) : Int)) := fun K => by
      simp only [convW, wmod_u64]; rw [show (-(m : Int)) % 18446744073709551616 = ((18446744073709551616 - m : Nat) : Int) by omega]
    have c2 : ∀ K, unW .neg (.int .u64 ((18446744073709551616 - m : Nat) : Int)) K ↔ K (.int .u64 (m : Int)) := fun K => by
      simp only [unW, wmod_u64]; rw [show (0 - ((18446744073709551616 - m : Nat) : Int)) % 18446744073709551616 = (m : Int) by omega]
    have c3 : ∀ K, binW .lss (.int .i64 (-(m : Int))) (.int .i64 ((0 : Nat) : Int)) K ↔ K (.bool true) := fun K => by
      simp only [binW, binInt, true_and]; rw [decide_eq_true (by omega)]
    simp (disch := first | assumption | (apply Ap.symm; assumption) | omega | decide | (simp only [U_len, List.length_append, List.length_replicate, List.length_cons, List.length_nil, List.length_set] <;> omega) | fail) only [c1, c2, c3, ↓Xa, Xb, Xc, ↓reduceIte, Nat.reduceLT, Nat.reduceEqDiff, Nat.reduceBEq, Nat.reduceLeDiff, Nat.reduceAdd, Nat.reduceMul]
    refine key' m true (by omega) (by simp [sg]) ?_
    simp (disch := first | assumption | (apply Ap.symm; assumption) | omega | decide | (simp only [U_len, List.length_append, List.length_replicate, List.length_cons, List.length_nil, List.length_set] <;> omega) | fail) only [rs76, IntA, ↓Xa, Xb, Xc, ↓reduceIte, Nat.reduceLT, Nat.reduceEqDiff, Nat.reduceBEq, Nat.reduceLeDiff, Nat.reduceAdd, Nat.reduceMul]
    exact SetR.dropTo ((Le.refl H).upd hp) (SetR.now hq)
  · obtain ⟨m, rfl⟩ : ∃ m : Nat, n = (m : Int) := ⟨n.natAbs, by omega⟩
    simp (disch := first | assumption | (apply Ap.symm; assumption) | omega | decide | (simp only [U_len, List.length_append, List.length_replicate, List.length_cons, List.length_nil, List.length_set] <;> omega) | fail) only [↓Xa, Xb, Xc, ↓reduceIte, Nat.reduceLT, Nat.reduceEqDiff, Nat.reduceBEq, Nat.reduceLeDiff, Nat.reduceAdd, Nat.reduceMul]
    refine key' m false (by omega) (by simp [sg]) ?_
    simp (disch := first | assumption | (apply Ap.symm; assumption) | omega | decide | (simp only [U_len, List.length_append, List.length_replicate, List.length_cons, List.length_nil, List.length_set] <;> omega) | fail) only [rs76, IntA, ↓Xa, Xb, Xc, ↓reduceIte, Nat.reduceLT, Nat.reduceEqDiff, Nat.reduceBEq, Nat.reduceLeDiff, Nat.reduceAdd, Nat.reduceMul]
    exact SetR.dropTo ((Le.refl H).upd hp) (SetR.now hq)

theorem nilW_nil {g t : Bool} {K : AV → Prop} : nilW g (LS [] t) K ↔ (K (.bool true) ∧ K (.bool false)) := by simp [nilW, LS]
theorem nilW_cons {g t : Bool} {x : Nat} {l : List Nat} {K : AV → Prop} : nilW g (LS (x :: l) t) K ↔ K (.bool g) := by simp [nilW, LS]
theorem clone_fn {l : List Nat} (t : Bool) (hl : l.length ≤ 1099511627776) : PFn Tryd.prog 96 [LS l t] (LS l false) := by
  intro H Q hq
  refine enter96 (by simp) ?_
  cases l with
  | nil =>
    simp (disch := first | assumption | (apply Ap.symm; assumption) | omega | decide | (simp only [U_len, List.length_append, List.length_replicate, List.length_cons, List.length_nil, List.length_set] <;> omega) | fail) only [ac96, nilW_nil, ↓Xa, Xb, Xc, ↓reduceIte, Nat.reduceLT, Nat.reduceEqDiff, Nat.reduceBEq, Nat.reduceLeDiff, Nat.reduceAdd, Nat.reduceMul]
    refine ⟨?_, ?_⟩
    · simp (disch := first | assumption | (apply Ap.symm; assumption) | omega | decide | (simp only [U_len, List.length_append, List.length_replicate, List.length_cons, List.length_nil, List.length_set] <;> omega) | fail) only [rs96, ↓Xa, Xb, Xc, ↓reduceIte, Nat.reduceLT, Nat.reduceEqDiff, Nat.reduceBEq, Nat.reduceLeDiff, Nat.reduceAdd, Nat.reduceMul]
      exact SetR.loose (SetR.now hq)
    · refine .inl ⟨rfl, rfl, ?_⟩
      refine ⟨rfl, rfl, by simp, by simp, fun _ => ?_, fun e => absurd e (by simp)⟩
      simp (disch := first | assumption | (apply Ap.symm; assumption) | omega | decide | (simp only [U_len, List.length_append, List.length_replicate, List.length_cons, List.length_nil, List.length_set] <;> omega) | fail) only [rs96, ↓Xa, Xb, Xc, ↓reduceIte, Nat.reduceLT, Nat.reduceEqDiff, Nat.reduceBEq, Nat.reduceLeDiff, Nat.reduceAdd, Nat.reduceMul]
      exact SetR.loose (SetR.now hq)
  | cons x l =>
    simp (disch := first | assumption | (apply Ap.symm; assumption) | omega | decide | (simp only [U_len, List.length_append, List.length_replicate, List.length_cons, List.length_nil, List.length_set] <;> omega) | fail) only [ac96, nilW_cons, ↓Xa, Xb, Xc, ↓reduceIte, Nat.reduceLT, Nat.reduceEqDiff, Nat.reduceBEq, Nat.reduceLeDiff, Nat.reduceAdd, Nat.reduceMul]
    refine app_grow (m := x :: l) (t := t) grow_nil rfl (by simp) (by simp at hl ⊢; omega) fun y H' hg => ?_
    simp (disch := first | assumption | (apply Ap.symm; assumption) | omega | decide | (simp only [U_len, List.length_append, List.length_replicate, List.length_cons, List.length_nil, List.length_set] <;> omega) | fail) only [rs96, ↓Xa, Xb, Xc, ↓reduceIte, Nat.reduceLT, Nat.reduceEqDiff, Nat.reduceBEq, Nat.reduceLeDiff, Nat.reduceAdd, Nat.reduceMul]
    exact grow_fin hg hq

theorem limbs_fn {x : Int} {k : Nat} (hx : Bd k x) (hk : k ≤ 549755813888) : PFn Tryd.prog 74 [IntA x] (.tup [.bool (decide (x < 0)), LS (digs 4294967296 x.natAbs) false]) := by
  intro H Q hq
  have hl := hx.len
  refine enter74 (by simp) ?_
  simp (disch := first | assumption | (apply Ap.symm; assumption) | omega | decide | (simp only [U_len, List.length_append, List.length_replicate, List.length_cons, List.length_nil, List.length_set] <;> omega) | fail) only [ac74, IntA, ↓Xa, Xb, Xc, ↓reduceIte, Nat.reduceLT, Nat.reduceEqDiff, Nat.reduceBEq, Nat.reduceLeDiff, Nat.reduceAdd, Nat.reduceMul]
  refine alloc_i fun p hp => ?_
  simp (disch := first | assumption | (apply Ap.symm; assumption) | omega | decide | (simp only [U_len, List.length_append, List.length_replicate, List.length_cons, List.length_nil, List.length_set] <;> omega) | fail) only [↓Xa, Xb, Xc, ↓reduceIte, Nat.reduceLT, Nat.reduceEqDiff, Nat.reduceBEq, Nat.reduceLeDiff, Nat.reduceAdd, Nat.reduceMul]
  refine PFn.dcall (clone_fn true (by omega)) ?_
  simp (disch := first | assumption | (apply Ap.symm; assumption) | omega | decide | (simp only [U_len, List.length_append, List.length_replicate, List.length_cons, List.length_nil, List.length_set] <;> omega) | fail) only [rs74, ↓Xa, Xb, Xc, ↓reduceIte, Nat.reduceLT, Nat.reduceEqDiff, Nat.reduceBEq, Nat.reduceLeDiff, Nat.reduceAdd, Nat.reduceMul]
  exact SetR.dropTo ((Le.refl H).upd hp) (SetR.now hq)

theorem neg_fn {x : Int} {k : Nat} (hx : Bd k x) (hk : k ≤ 549755813888) : PFn Tryd.prog 111 [IntA x] (IntA (-x)) := by
  intro H Q hq
  have hl := hx.len
  have e : -x = sg (!decide (x < 0)) x.natAbs := by unfold sg; by_cases h : x < 0 <;> simp [h] <;> omega
  rw [e] at hq
  refine enter111 (by simp) ?_
  simp (disch := first | assumption | (apply Ap.symm; assumption) | omega | decide | (simp only [U_len, List.length_append, List.length_replicate, List.length_cons, List.length_nil, List.length_set] <;> omega) | fail) only [ac111, IntA, ↓Xa, Xb, Xc, ↓reduceIte, Nat.reduceLT, Nat.reduceEqDiff, Nat.reduceBEq, Nat.reduceLeDiff, Nat.reduceAdd, Nat.reduceMul]
  refine alloc_i fun p hp => ?_
  simp (disch := first | assumption | (apply Ap.symm; assumption) | omega | decide | (simp only [U_len, List.length_append, List.length_replicate, List.length_cons, List.length_nil, List.length_set] <;> omega) | fail) only [↓Xa, Xb, Xc, ↓reduceIte, Nat.reduceLT, Nat.reduceEqDiff, Nat.reduceBEq, Nat.reduceLeDiff, Nat.reduceAdd, Nat.reduceMul]
  refine alloc_i fun p2 hp2 => ?_
  have hne := (upd_none.1 hp2).1
  simp (disch := first | assumption | (apply Ap.symm; assumption) | omega | decide | (simp only [U_len, List.length_append, List.length_replicate, List.length_cons, List.length_nil, List.length_set] <;> omega) | fail) only [↓Xa, Xb, Xc, ↓reduceIte, Nat.reduceLT, Nat.reduceEqDiff, Nat.reduceBEq, Nat.reduceLeDiff, Nat.reduceAdd, Nat.reduceMul]
  refine (made_fn _ _ (by omega)).call ?_
  simp (disch := first | assumption | (apply Ap.symm; assumption) | omega | decide | (simp only [U_len, List.length_append, List.length_replicate, List.length_cons, List.length_nil, List.length_set] <;> omega) | fail) only [rs111, IntA, ↓Xa, Xb, Xc, ↓reduceIte, Nat.reduceLT, Nat.reduceEqDiff, Nat.reduceBEq, Nat.reduceLeDiff, Nat.reduceAdd, Nat.reduceMul]
  exact SetR.dropTo (((Le.refl H).upd hp).upd hp2) (SetR.now hq)

theorem abs_fn {x : Int} {k : Nat} (hx : Bd k x) (hk : k ≤ 549755813888) : PFn Tryd.prog 107 [IntA x] (IntA (x.natAbs : Int)) := by
  intro H Q hq
  have hl := hx.len
  refine enter107 (by simp) ?_
  simp (disch := first | assumption | (apply Ap.symm; assumption) | omega | decide | (simp only [U_len, List.length_append, List.length_replicate, List.length_cons, List.length_nil, List.length_set] <;> omega) | fail) only [ac107, IntA, ↓Xa, Xb, Xc, ↓reduceIte, Nat.reduceLT, Nat.reduceEqDiff, Nat.reduceBEq, Nat.reduceLeDiff, Nat.reduceAdd, Nat.reduceMul]
  refine alloc_i fun p hp => ?_
  simp (disch := first | assumption | (apply Ap.symm; assumption) | omega | decide | (simp only [U_len, List.length_append, List.length_replicate, List.length_cons, List.length_nil, List.length_set] <;> omega) | fail) only [↓Xa, Xb, Xc, ↓reduceIte, Nat.reduceLT, Nat.reduceEqDiff, Nat.reduceBEq, Nat.reduceLeDiff, Nat.reduceAdd, Nat.reduceMul]
  refine alloc_i fun p2 hp2 => ?_
  have hne := (upd_none.1 hp2).1
  simp (disch := first | assumption | (apply Ap.symm; assumption) | omega | decide | (simp only [U_len, List.length_append, List.length_replicate, List.length_cons, List.length_nil, List.length_set] <;> omega) | fail) only [↓Xa, Xb, Xc, ↓reduceIte, Nat.reduceLT, Nat.reduceEqDiff, Nat.reduceBEq, Nat.reduceLeDiff, Nat.reduceAdd, Nat.reduceMul]
  refine (made_fn false _ (by omega)).call ?_
  simp (disch := first | assumption | (apply Ap.symm; assumption) | omega | decide | (simp only [U_len, List.length_append, List.length_replicate, List.length_cons, List.length_nil, List.length_set] <;> omega) | fail) only [rs107, IntA, ↓Xa, Xb, Xc, ↓reduceIte, Nat.reduceLT, Nat.reduceEqDiff, Nat.reduceBEq, Nat.reduceLeDiff, Nat.reduceAdd, Nat.reduceMul]
  exact SetR.dropTo (((Le.refl H).upd hp).upd hp2) (SetR.now (by simpa [IntA, sg] using hq))

def sgnI (x : Int) : Int := if x = 0 then ((0 : Nat) : Int) else if x < 0 then -1 else ((1 : Nat) : Int)
theorem sign_fn {x : Int} {k : Nat} (hx : Bd k x) (hk : k ≤ 549755813888) : PFn Tryd.prog 78 [IntA x] (.int .i64 (sgnI x)) := by
  intro H Q hq
  have hl := hx.len
  have h0 := digs_len0 (B := 4294967296) (n := x.natAbs) (by omega)
  refine enter78 (by simp) ?_
  simp (disch := first | assumption | (apply Ap.symm; assumption) | omega | decide | (simp only [U_len, List.length_append, List.length_replicate, List.length_cons, List.length_nil, List.length_set] <;> omega) | fail) only [ac78, IntA, ↓Xa, Xb, Xc, ↓reduceIte, Nat.reduceLT, Nat.reduceEqDiff, Nat.reduceBEq, Nat.reduceLeDiff, Nat.reduceAdd, Nat.reduceMul]
  refine alloc_i fun p hp => ?_
  by_cases hz : x = 0
  · have h1 : (digs 4294967296 x.natAbs).length = 0 := by rw [h0]; omega
    simp (disch := first | assumption | (apply Ap.symm; assumption) | omega | decide | (simp only [U_len, List.length_append, List.length_replicate, List.length_cons, List.length_nil, List.length_set] <;> omega) | fail) only [rs78, h1, ↓Xa, Xb, Xc, ↓reduceIte, Nat.reduceLT, Nat.reduceEqDiff, Nat.reduceBEq, Nat.reduceLeDiff, Nat.reduceAdd, Nat.reduceMul]
    refine SetR.dropTo ((Le.refl H).upd hp) (SetR.now ?_)
    simpa [sgnI, hz] using hq
  · have h1 : ((digs 4294967296 x.natAbs).length = 0) = False := by rw [h0]; simp; omega
    by_cases hn : x < 0
    · simp (disch := first | assumption | (apply Ap.symm; assumption) | omega | decide | (simp only [U_len, List.length_append, List.length_replicate, List.length_cons, List.length_nil, List.length_set] <;> omega) | fail) only [rs78, h1, hn, ↓Xa, Xb, Xc, ↓reduceIte, Nat.reduceLT, Nat.reduceEqDiff, Nat.reduceBEq, Nat.reduceLeDiff, Nat.reduceAdd, Nat.reduceMul]
      refine SetR.dropTo ((Le.refl H).upd hp) (SetR.now ?_)
      simpa [sgnI, hz, hn] using hq
    · simp (disch := first | assumption | (apply Ap.symm; assumption) | omega | decide | (simp only [U_len, List.length_append, List.length_replicate, List.length_cons, List.length_nil, List.length_set] <;> omega) | fail) only [rs78, h1, hn, ↓Xa, Xb, Xc, ↓reduceIte, Nat.reduceLT, Nat.reduceEqDiff, Nat.reduceBEq, Nat.reduceLeDiff, Nat.reduceAdd, Nat.reduceMul]
      refine SetR.dropTo ((Le.refl H).upd hp) (SetR.now ?_)
      simpa [sgnI, hz, hn] using hq

def cmpI (x y : Int) : Int := if x < y then -1 else if y < x then ((1 : Nat) : Int) else ((0 : Nat) : Int)
theorem cmpi_fn {x y : Int} {k k' : Nat} (hx : Bd k x) (hk : k ≤ 549755813888) (hy : Bd k' y) (hk' : k' ≤ 549755813888) : PFn Tryd.prog 79 [IntA x, IntA y] (.int .i64 (cmpI x y)) := by
  intro H Q hq
  have hl := hx.len
  have hl' := hy.len
  have vx := val_digs (B := 4294967296) (by omega) x.natAbs
  have vy := val_digs (B := 4294967296) (by omega) y.natAbs
  have lx := lim_digs (B := 4294967296) (by omega) x.natAbs
  have ly := lim_digs (B := 4294967296) (by omega) y.natAbs
  refine enter79 (by simp) ?_
  simp (disch := first | assumption | (apply Ap.symm; assumption) | omega | decide | (simp only [U_len, List.length_append, List.length_replicate, List.length_cons, List.length_nil, List.length_set] <;> omega) | fail) only [ac79, IntA, ↓Xa, Xb, Xc, ↓reduceIte, Nat.reduceLT, Nat.reduceEqDiff, Nat.reduceBEq, Nat.reduceLeDiff, Nat.reduceAdd, Nat.reduceMul]
  refine alloc_i fun p hp => ?_
  simp (disch := first | assumption | (apply Ap.symm; assumption) | omega | decide | (simp only [U_len, List.length_append, List.length_replicate, List.length_cons, List.length_nil, List.length_set] <;> omega) | fail) only [↓Xa, Xb, Xc, ↓reduceIte, Nat.reduceLT, Nat.reduceEqDiff, Nat.reduceBEq, Nat.reduceLeDiff, Nat.reduceAdd, Nat.reduceMul]
  refine alloc_i fun p2 hp2 => ?_
  have hne := (upd_none.1 hp2).1
  have fin : ∀ v, cmpI x y = v → SetR Q (.int .i64 v) ((H.upd p (some (.row 28 0 [.bool (decide (x < 0)), LS (digs 4294967296 x.natAbs) true]))).upd p2 (some (.row 28 0 [.bool (decide (y < 0)), LS (digs 4294967296 y.natAbs) true]))) := fun v hv => SetR.dropTo (((Le.refl H).upd hp).upd hp2) (SetR.now (hv ▸ hq))
  by_cases hn : x < 0
  · by_cases hn' : y < 0
    · simp (disch := first | assumption | (apply Ap.symm; assumption) | omega | decide | (simp only [U_len, List.length_append, List.length_replicate, List.length_cons, List.length_nil, List.length_set] <;> omega) | fail) only [hn, hn', ↓Xa, Xb, Xc, ↓reduceIte, Nat.reduceLT, Nat.reduceEqDiff, Nat.reduceBEq, Nat.reduceLeDiff, Nat.reduceAdd, Nat.reduceMul]
      refine (cmp_fn true true ly lx).call ?_
      rw [vx, vy]
      have : cmpI x y = cmpZ y.natAbs x.natAbs := by unfold cmpI cmpZ; split <;> split <;> first | rfl | omega | (split <;> first | rfl | omega | (split <;> first | rfl | omega))
      simp only [hn, hn', decide_true] at fin
      simp (disch := first | assumption | (apply Ap.symm; assumption) | omega | decide | (simp only [U_len, List.length_append, List.length_replicate, List.length_cons, List.length_nil, List.length_set] <;> omega) | fail) only [rs79, ↓Xa, Xb, Xc, ↓reduceIte, Nat.reduceLT, Nat.reduceEqDiff, Nat.reduceBEq, Nat.reduceLeDiff, Nat.reduceAdd, Nat.reduceMul]
      exact fin _ this
    · simp (disch := first | assumption | (apply Ap.symm; assumption) | omega | decide | (simp only [U_len, List.length_append, List.length_replicate, List.length_cons, List.length_nil, List.length_set] <;> omega) | fail) only [hn, hn', rs79, ↓Xa, Xb, Xc, ↓reduceIte, Nat.reduceLT, Nat.reduceEqDiff, Nat.reduceBEq, Nat.reduceLeDiff, Nat.reduceAdd, Nat.reduceMul]
      simp only [hn, hn', decide_true, decide_false] at fin
      exact fin _ (by unfold cmpI; rw [if_pos (by omega)])
  · by_cases hn' : y < 0
    · simp (disch := first | assumption | (apply Ap.symm; assumption) | omega | decide | (simp only [U_len, List.length_append, List.length_replicate, List.length_cons, List.length_nil, List.length_set] <;> omega) | fail) only [hn, hn', rs79, ↓Xa, Xb, Xc, ↓reduceIte, Nat.reduceLT, Nat.reduceEqDiff, Nat.reduceBEq, Nat.reduceLeDiff, Nat.reduceAdd, Nat.reduceMul]
      simp only [hn, hn', decide_true, decide_false] at fin
      exact fin _ (by unfold cmpI; rw [if_neg (by omega), if_pos (by omega)])
    · simp (disch := first | assumption | (apply Ap.symm; assumption) | omega | decide | (simp only [U_len, List.length_append, List.length_replicate, List.length_cons, List.length_nil, List.length_set] <;> omega) | fail) only [hn, hn', ↓Xa, Xb, Xc, ↓reduceIte, Nat.reduceLT, Nat.reduceEqDiff, Nat.reduceBEq, Nat.reduceLeDiff, Nat.reduceAdd, Nat.reduceMul]
      refine (cmp_fn true true lx ly).call ?_
      rw [vx, vy]
      have : cmpI x y = cmpZ x.natAbs y.natAbs := by unfold cmpI cmpZ; split <;> split <;> first | rfl | omega | (split <;> first | rfl | omega | (split <;> first | rfl | omega))
      simp only [hn, hn', decide_false] at fin
      simp (disch := first | assumption | (apply Ap.symm; assumption) | omega | decide | (simp only [U_len, List.length_append, List.length_replicate, List.length_cons, List.length_nil, List.length_set] <;> omega) | fail) only [rs79, ↓Xa, Xb, Xc, ↓reduceIte, Nat.reduceLT, Nat.reduceEqDiff, Nat.reduceBEq, Nat.reduceLeDiff, Nat.reduceAdd, Nat.reduceMul]
      exact fin _ this

theorem addi_fn {x y : Int} {k k' : Nat} (hx : Bd k x) (hk : k ≤ 549755813888) (hy : Bd k' y) (hk' : k' ≤ 549755813888) : PFn Tryd.prog 80 [IntA x, IntA y] (IntA (x + y)) := by
  intro H Q hq
  have hl := hx.len
  have hl' := hy.len
  have vx := val_digs (B := 4294967296) (by omega) x.natAbs
  have vy := val_digs (B := 4294967296) (by omega) y.natAbs
  have lx := lim_digs (B := 4294967296) (by omega) x.natAbs
  have ly := lim_digs (B := 4294967296) (by omega) y.natAbs
  have hxm := hx.mono (Nat.le_max_left k k')
  have hym := hy.mono (Nat.le_max_right k k')
  refine enter80 (by simp) ?_
  simp (disch := first | assumption | (apply Ap.symm; assumption) | omega | decide | (simp only [U_len, List.length_append, List.length_replicate, List.length_cons, List.length_nil, List.length_set] <;> omega) | fail) only [ac80, IntA, ↓Xa, Xb, Xc, ↓reduceIte, Nat.reduceLT, Nat.reduceEqDiff, Nat.reduceBEq, Nat.reduceLeDiff, Nat.reduceAdd, Nat.reduceMul]
  refine alloc_i fun p hp => ?_
  simp (disch := first | assumption | (apply Ap.symm; assumption) | omega | decide | (simp only [U_len, List.length_append, List.length_replicate, List.length_cons, List.length_nil, List.length_set] <;> omega) | fail) only [↓Xa, Xb, Xc, ↓reduceIte, Nat.reduceLT, Nat.reduceEqDiff, Nat.reduceBEq, Nat.reduceLeDiff, Nat.reduceAdd, Nat.reduceMul]
  refine alloc_i fun p2 hp2 => ?_
  simp (disch := first | assumption | (apply Ap.symm; assumption) | omega | decide | (simp only [U_len, List.length_append, List.length_replicate, List.length_cons, List.length_nil, List.length_set] <;> omega) | fail) only [↓Xa, Xb, Xc, ↓reduceIte, Nat.reduceLT, Nat.reduceEqDiff, Nat.reduceBEq, Nat.reduceLeDiff, Nat.reduceAdd, Nat.reduceMul]
  refine alloc_i fun p3 hp3 => ?_
  have hne := (upd_none.1 hp2).1
  have hne3 := (upd_none.1 hp3).1
  have hne4 := (upd_none.1 (upd_none.1 hp3).2).1
  by_cases hs : decide (x < 0) = decide (y < 0)
  · have hsb : (decide (x < 0) == decide (y < 0)) = true := by rw [hs]; simp
    simp (disch := first | assumption | (apply Ap.symm; assumption) | omega | decide | (simp only [U_len, List.length_append, List.length_replicate, List.length_cons, List.length_nil, List.length_set] <;> omega) | fail) only [hsb, ↓Xa, Xb, Xc, ↓reduceIte, Nat.reduceLT, Nat.reduceEqDiff, Nat.reduceBEq, Nat.reduceLeDiff, Nat.reduceAdd, Nat.reduceMul]
    refine PFn.dcall (add_fn true true lx ly (by omega) (by omega)) ?_
    rw [vx, vy]
    simp (disch := first | assumption | (apply Ap.symm; assumption) | omega | decide | (simp only [U_len, List.length_append, List.length_replicate, List.length_cons, List.length_nil, List.length_set] <;> omega) | fail) only [↓Xa, Xb, Xc, ↓reduceIte, Nat.reduceLT, Nat.reduceEqDiff, Nat.reduceBEq, Nat.reduceLeDiff, Nat.reduceAdd, Nat.reduceMul]
    have hb : Bd (max k k' + 1) (sg (decide (x < 0)) (x.natAbs + y.natAbs)) := Bd.sgn (by unfold Bd at hxm hym; rw [Nat.pow_succ]; omega)
    have hb' := hb.len
    rw [sg_abs] at hb'
    refine (made_fn _ _ (by omega)).call ?_
    simp (disch := first | assumption | (apply Ap.symm; assumption) | omega | decide | (simp only [U_len, List.length_append, List.length_replicate, List.length_cons, List.length_nil, List.length_set] <;> omega) | fail) only [rs80, IntA, ↓Xa, Xb, Xc, ↓reduceIte, Nat.reduceLT, Nat.reduceEqDiff, Nat.reduceBEq, Nat.reduceLeDiff, Nat.reduceAdd, Nat.reduceMul]
    have e : x + y = sg (decide (x < 0)) (x.natAbs + y.natAbs) := by
      have := decide_eq_decide.1 hs
      unfold sg; by_cases h : x < 0 <;> simp [h] <;> omega
    rw [e] at hq
    exact SetR.dropTo ((((Le.refl H).upd hp).upd hp2).upd hp3) (SetR.now hq)
  · have hsb : (decide (x < 0) == decide (y < 0)) = false := by simpa using hs
    have hs' : ¬ ((x < 0) ↔ (y < 0)) := fun h => hs (decide_eq_decide.2 h)
    simp (disch := first | assumption | (apply Ap.symm; assumption) | omega | decide | (simp only [U_len, List.length_append, List.length_replicate, List.length_cons, List.length_nil, List.length_set] <;> omega) | fail) only [hsb, ↓Xa, Xb, Xc, ↓reduceIte, Nat.reduceLT, Nat.reduceEqDiff, Nat.reduceBEq, Nat.reduceLeDiff, Nat.reduceAdd, Nat.reduceMul]
    refine (cmp_fn true true lx ly).call ?_
    rw [vx, vy]
    by_cases hc : x.natAbs < y.natAbs
    · have c3 : ∀ K, binW .lss (.int .i64 (cmpZ x.natAbs y.natAbs)) (.int .i64 ((0 : Nat) : Int)) K ↔ K (.bool true) := fun K => by
        simp [binW, binInt, cmpZ, hc]
      simp (disch := first | assumption | (apply Ap.symm; assumption) | omega | decide | (simp only [U_len, List.length_append, List.length_replicate, List.length_cons, List.length_nil, List.length_set] <;> omega) | fail) only [c3, ↓Xa, Xb, Xc, ↓reduceIte, Nat.reduceLT, Nat.reduceEqDiff, Nat.reduceBEq, Nat.reduceLeDiff, Nat.reduceAdd, Nat.reduceMul]
      refine (sub_fn true true ly lx (by rw [vx, vy]; omega) (by omega) (by omega)).call ?_
      rw [vx, vy]
      simp (disch := first | assumption | (apply Ap.symm; assumption) | omega | decide | (simp only [U_len, List.length_append, List.length_replicate, List.length_cons, List.length_nil, List.length_set] <;> omega) | fail) only [↓Xa, Xb, Xc, ↓reduceIte, Nat.reduceLT, Nat.reduceEqDiff, Nat.reduceBEq, Nat.reduceLeDiff, Nat.reduceAdd, Nat.reduceMul]
      have hb : Bd k' (sg (decide (y < 0)) (y.natAbs - x.natAbs)) := Bd.sgn (by unfold Bd at hy; omega)
      have hb' := hb.len
      rw [sg_abs] at hb'
      refine (made_fn _ _ (by omega)).call ?_
      simp (disch := first | assumption | (apply Ap.symm; assumption) | omega | decide | (simp only [U_len, List.length_append, List.length_replicate, List.length_cons, List.length_nil, List.length_set] <;> omega) | fail) only [rs80, IntA, ↓Xa, Xb, Xc, ↓reduceIte, Nat.reduceLT, Nat.reduceEqDiff, Nat.reduceBEq, Nat.reduceLeDiff, Nat.reduceAdd, Nat.reduceMul]
      have e : x + y = sg (decide (y < 0)) (y.natAbs - x.natAbs) := by
        unfold sg; by_cases h : y < 0 <;> simp [h] <;> omega
      rw [e] at hq
      exact SetR.dropTo ((((Le.refl H).updB hp).updB (upd_none.1 hp2).2).updB (upd_none.1 (upd_none.1 hp3).2).2) (SetR.now hq)
    · have c3 : ∀ K, binW .lss (.int .i64 (cmpZ x.natAbs y.natAbs)) (.int .i64 ((0 : Nat) : Int)) K ↔ K (.bool false) := fun K => by
        have : ¬ (cmpZ x.natAbs y.natAbs < 0) := by unfold cmpZ; rw [if_neg hc]; split <;> omega
        simp [binW, binInt]; rw [decide_eq_false this]
      simp (disch := first | assumption | (apply Ap.symm; assumption) | omega | decide | (simp only [U_len, List.length_append, List.length_replicate, List.length_cons, List.length_nil, List.length_set] <;> omega) | fail) only [c3, ↓Xa, Xb, Xc, ↓reduceIte, Nat.reduceLT, Nat.reduceEqDiff, Nat.reduceBEq, Nat.reduceLeDiff, Nat.reduceAdd, Nat.reduceMul]
      refine (sub_fn true true lx ly (by rw [vx, vy]; omega) (by omega) (by omega)).call ?_
      rw [vx, vy]
      simp (disch := first | assumption | (apply Ap.symm; assumption) | omega | decide | (simp only [U_len, List.length_append, List.length_replicate, List.length_cons, List.length_nil, List.length_set] <;> omega) | fail) only [↓Xa, Xb, Xc, ↓reduceIte, Nat.reduceLT, Nat.reduceEqDiff, Nat.reduceBEq, Nat.reduceLeDiff, Nat.reduceAdd, Nat.reduceMul]
      have hb : Bd k (sg (decide (x < 0)) (x.natAbs - y.natAbs)) := Bd.sgn (by unfold Bd at hx; omega)
      have hb' := hb.len
      rw [sg_abs] at hb'
      refine (made_fn _ _ (by omega)).call ?_
      simp (disch := first | assumption | (apply Ap.symm; assumption) | omega | decide | (simp only [U_len, List.length_append, List.length_replicate, List.length_cons, List.length_nil, List.length_set] <;> omega) | fail) only [rs80, IntA, ↓Xa, Xb, Xc, ↓reduceIte, Nat.reduceLT, Nat.reduceEqDiff, Nat.reduceBEq, Nat.reduceLeDiff, Nat.reduceAdd, Nat.reduceMul]
      have e : x + y = sg (decide (x < 0)) (x.natAbs - y.natAbs) := by
        unfold sg; by_cases h : x < 0 <;> simp [h] <;> omega
      rw [e] at hq
      exact SetR.dropTo ((((Le.refl H).upd hp).upd hp2).upd hp3) (SetR.now hq)

theorem subi_fn {x y : Int} {k k' : Nat} (hx : Bd k x) (hk : k ≤ 549755813888) (hy : Bd k' y) (hk' : k' ≤ 549755813888) : PFn Tryd.prog 109 [IntA x, IntA y] (IntA (x - y)) := by
  intro H Q hq
  refine enter109 (by simp) ?_
  simp (disch := first | assumption | (apply Ap.symm; assumption) | omega | decide | (simp only [U_len, List.length_append, List.length_replicate, List.length_cons, List.length_nil, List.length_set] <;> omega) | fail) only [ac109, IntA, ↓Xa, Xb, Xc, ↓reduceIte, Nat.reduceLT, Nat.reduceEqDiff, Nat.reduceBEq, Nat.reduceLeDiff, Nat.reduceAdd, Nat.reduceMul]
  refine alloc_i fun p hp => ?_
  simp (disch := first | assumption | (apply Ap.symm; assumption) | omega | decide | (simp only [U_len, List.length_append, List.length_replicate, List.length_cons, List.length_nil, List.length_set] <;> omega) | fail) only [↓Xa, Xb, Xc, ↓reduceIte, Nat.reduceLT, Nat.reduceEqDiff, Nat.reduceBEq, Nat.reduceLeDiff, Nat.reduceAdd, Nat.reduceMul]
  refine alloc_i fun p2 hp2 => ?_
  simp (disch := first | assumption | (apply Ap.symm; assumption) | omega | decide | (simp only [U_len, List.length_append, List.length_replicate, List.length_cons, List.length_nil, List.length_set] <;> omega) | fail) only [↓Xa, Xb, Xc, ↓reduceIte, Nat.reduceLT, Nat.reduceEqDiff, Nat.reduceBEq, Nat.reduceLeDiff, Nat.reduceAdd, Nat.reduceMul]
  refine alloc_i fun p3 hp3 => ?_
  have hne := (upd_none.1 hp2).1
  have hne3 := (upd_none.1 hp3).1
  have hne4 := (upd_none.1 (upd_none.1 hp3).2).1
  simp (disch := first | assumption | (apply Ap.symm; assumption) | omega | decide | (simp only [U_len, List.length_append, List.length_replicate, List.length_cons, List.length_nil, List.length_set] <;> omega) | fail) only [↓Xa, Xb, Xc, ↓reduceIte, Nat.reduceLT, Nat.reduceEqDiff, Nat.reduceBEq, Nat.reduceLeDiff, Nat.reduceAdd, Nat.reduceMul]
  refine PFn.dcall (neg_fn hy hk') ?_
  simp (disch := first | assumption | (apply Ap.symm; assumption) | omega | decide | (simp only [U_len, List.length_append, List.length_replicate, List.length_cons, List.length_nil, List.length_set] <;> omega) | fail) only [↓Xa, Xb, Xc, ↓reduceIte, Nat.reduceLT, Nat.reduceEqDiff, Nat.reduceBEq, Nat.reduceLeDiff, Nat.reduceAdd, Nat.reduceMul]
  refine (addi_fn hx hk hy.neg hk').call ?_
  simp (disch := first | assumption | (apply Ap.symm; assumption) | omega | decide | (simp only [U_len, List.length_append, List.length_replicate, List.length_cons, List.length_nil, List.length_set] <;> omega) | fail) only [rs109, IntA, ↓Xa, Xb, Xc, ↓reduceIte, Nat.reduceLT, Nat.reduceEqDiff, Nat.reduceBEq, Nat.reduceLeDiff, Nat.reduceAdd, Nat.reduceMul]
  exact SetR.dropTo ((((Le.refl H).upd hp).upd hp2).upd hp3) (SetR.now hq)

theorem muli_fn {x y : Int} {k k' : Nat} (hx : Bd k x) (hk : k ≤ 549755813888) (hy : Bd k' y) (hk' : k' ≤ 549755813888) : PFn Tryd.prog 110 [IntA x, IntA y] (IntA (x * y)) := by
  intro H Q hq
  have hl := hx.len
  have hl' := hy.len
  have vx := val_digs (B := 4294967296) (by omega) x.natAbs
  have vy := val_digs (B := 4294967296) (by omega) y.natAbs
  have lx := lim_digs (B := 4294967296) (by omega) x.natAbs
  have ly := lim_digs (B := 4294967296) (by omega) y.natAbs
  have hb := (hx.mul hy).len
  refine enter110 (by simp) ?_
  simp (disch := first | assumption | (apply Ap.symm; assumption) | omega | decide | (simp only [U_len, List.length_append, List.length_replicate, List.length_cons, List.length_nil, List.length_set] <;> omega) | fail) only [ac110, IntA, ↓Xa, Xb, Xc, ↓reduceIte, Nat.reduceLT, Nat.reduceEqDiff, Nat.reduceBEq, Nat.reduceLeDiff, Nat.reduceAdd, Nat.reduceMul]
  refine alloc_i fun p hp => ?_
  simp (disch := first | assumption | (apply Ap.symm; assumption) | omega | decide | (simp only [U_len, List.length_append, List.length_replicate, List.length_cons, List.length_nil, List.length_set] <;> omega) | fail) only [↓Xa, Xb, Xc, ↓reduceIte, Nat.reduceLT, Nat.reduceEqDiff, Nat.reduceBEq, Nat.reduceLeDiff, Nat.reduceAdd, Nat.reduceMul]
  refine alloc_i fun p2 hp2 => ?_
  simp (disch := first | assumption | (apply Ap.symm; assumption) | omega | decide | (simp only [U_len, List.length_append, List.length_replicate, List.length_cons, List.length_nil, List.length_set] <;> omega) | fail) only [↓Xa, Xb, Xc, ↓reduceIte, Nat.reduceLT, Nat.reduceEqDiff, Nat.reduceBEq, Nat.reduceLeDiff, Nat.reduceAdd, Nat.reduceMul]
  refine alloc_i fun p3 hp3 => ?_
  have hne := (upd_none.1 hp2).1
  have hne3 := (upd_none.1 hp3).1
  have hne4 := (upd_none.1 (upd_none.1 hp3).2).1
  simp (disch := first | assumption | (apply Ap.symm; assumption) | omega | decide | (simp only [U_len, List.length_append, List.length_replicate, List.length_cons, List.length_nil, List.length_set] <;> omega) | fail) only [↓Xa, Xb, Xc, ↓reduceIte, Nat.reduceLT, Nat.reduceEqDiff, Nat.reduceBEq, Nat.reduceLeDiff, Nat.reduceAdd, Nat.reduceMul]
  refine PFn.dcall (mul_fn true true lx ly (by omega) (by omega)) ?_
  rw [vx, vy]
  simp (disch := first | assumption | (apply Ap.symm; assumption) | omega | decide | (simp only [U_len, List.length_append, List.length_replicate, List.length_cons, List.length_nil, List.length_set] <;> omega) | fail) only [↓Xa, Xb, Xc, ↓reduceIte, Nat.reduceLT, Nat.reduceEqDiff, Nat.reduceBEq, Nat.reduceLeDiff, Nat.reduceAdd, Nat.reduceMul]
  rw [Int.natAbs_mul] at hb
  refine (made_fn _ _ (by omega)).call ?_
  have e : sg (!(decide (x < 0) == decide (y < 0))) (x.natAbs * y.natAbs) = x * y := by
    rw [← Int.natAbs_mul]
    unfold sg
    by_cases h : x < 0 <;> by_cases h' : y < 0 <;> simp [h, h']
    · rw [abs_nn (Int.mul_nonneg_of_nonpos_of_nonpos (by omega) (by omega))]
    · rw [abs_np (Int.mul_nonpos_of_nonpos_of_nonneg (by omega) (by omega))]
    · rw [abs_np (Int.mul_nonpos_of_nonneg_of_nonpos (by omega) (by omega))]
    · rw [abs_nn (Int.mul_nonneg (by omega) (by omega))]
  rw [e]
  simp (disch := first | assumption | (apply Ap.symm; assumption) | omega | decide | (simp only [U_len, List.length_append, List.length_replicate, List.length_cons, List.length_nil, List.length_set] <;> omega) | fail) only [rs110, IntA, ↓Xa, Xb, Xc, ↓reduceIte, Nat.reduceLT, Nat.reduceEqDiff, Nat.reduceBEq, Nat.reduceLeDiff, Nat.reduceAdd, Nat.reduceMul]
  exact SetR.dropTo ((((Le.refl H).upd hp).upd hp2).upd hp3) (SetR.now hq)

end Go.Proofs.YtipbcjnniamcgaaDoor.Fw
