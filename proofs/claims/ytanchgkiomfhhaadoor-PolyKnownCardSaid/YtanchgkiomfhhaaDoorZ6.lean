/- The texts In Re Rf Rg Ri Rj Rk Rl Rm Rn Ro Io FwW Rp Rq Rr Rs Rt Ru Rv Rw Fe Ka Kn Pn Kc Kd Kb Nb Sa Sb Sc Sd Se Sf Sh Nd Tb, joined. -/
import Derived.Test.YtanchgkiomfhhaaDoorZ5
/- What package integer computes: making, signs, comparing, sums, products. -/
namespace Go.Proofs.YtanchgkiomfhhaaDoor.Fw
set_option linter.unusedSimpArgs false
set_option linter.unusedVariables false
open Go Go.Proofs.YtanchgkiomfhhaaDoor.Ma
set_option maxRecDepth 20000

def IntA (z : Int) : AV := .agg [.bool (decide (z < 0)), LS (digs 4294967296 z.natAbs) true]
def sg (neg : Bool) (n : Nat) : Int := if neg then -(n : Int) else n
theorem sg_abs (neg : Bool) (n : Nat) : (sg neg n).natAbs = n := by cases neg <;> simp [sg]
theorem sg_neg (neg : Bool) (n : Nat) : decide (sg neg n < 0) = (neg && decide (0 < n)) := by cases neg <;> simp [sg] <;> omega
theorem abs_nn {z : Int} (h : 0 ≤ z) : ((z.natAbs : Nat) : Int) = z := by omega
theorem abs_np {z : Int} (h : z ≤ 0) : -((z.natAbs : Nat) : Int) = z := by omega
theorem IntA_sg (neg : Bool) (n : Nat) : IntA (sg neg n) = .agg [.bool (neg && decide (0 < (digs 4294967296 n).length)), LS (digs 4294967296 n) true] := by
  simp only [IntA, sg_abs, sg_neg, digs_pos_len (B := 4294967296) (n := n) (by omega)]

def IntB (z : Int) : AV := .bool (decide (z < 0))
def IntD (z : Int) : AV := LS (digs 4294967296 z.natAbs) true
theorem IntA_eq {z : Int} : IntA z = .agg [IntB z, IntD z] := id rfl
theorem cells_IntA {z : Int} : (IntA z).cells = some [IntB z, IntD z] := id rfl
theorem fold_IntA {z : Int} : AV.agg [IntB z, IntD z] = IntA z := id rfl
theorem IntA_0 : AV.agg [.bool false, .seq 0 [] true] = IntA 0 := by simp [IntA, digs_zero, LS, U]
theorem made_fn (neg : Bool) (n : Nat) (hl : (digs 4294967296 n).length ≤ 1099511627776) : PFn Tryd.prog 137 [.bool neg, LS (digs 4294967296 n) true] (IntA (sg neg n)) := by
  intro H Q hq
  refine enter137 (by simp) ?_
  rw [IntA_sg] at hq
  simp (disch := first | assumption | (apply Ap.symm; assumption) | omega | decide | (simp only [Xd] <;> omega)) only [ac137, ↓Xa, Xb, Xc, ↓reduceIte, Nat.reduceLT, Nat.reduceEqDiff, Nat.reduceBEq, Nat.reduceLeDiff, Nat.reduceAdd, Nat.reduceMul]
  refine alloc_i fun p hp => ?_
  cases neg
  · simp (disch := first | assumption | (apply Ap.symm; assumption) | omega | decide | (simp only [Xd] <;> omega)) only [rs137, ↓Xa, Xb, Xc, ↓reduceIte, Nat.reduceLT, Nat.reduceEqDiff, Nat.reduceBEq, Nat.reduceLeDiff, Nat.reduceAdd, Nat.reduceMul]
    exact SetR.dropTo ((Le.refl H).upd hp) (SetR.now hq)
  · simp (disch := first | assumption | (apply Ap.symm; assumption) | omega | decide | (simp only [Xd] <;> omega)) only [rs137, ↓Xa, Xb, Xc, ↓reduceIte, Nat.reduceLT, Nat.reduceEqDiff, Nat.reduceBEq, Nat.reduceLeDiff, Nat.reduceAdd, Nat.reduceMul]
    exact SetR.dropTo ((Le.refl H).upd hp) (SetR.now hq)

def Bd (k : Nat) (z : Int) : Prop := z.natAbs < 4294967296 ^ k
theorem Bd.len {k : Nat} {z : Int} (h : Bd k z) : (digs 4294967296 z.natAbs).length ≤ k := digs_len (by omega) k _ h
theorem Bd.mono {k k' : Nat} {z : Int} (h : Bd k z) (hk : k ≤ k') : Bd k' z := Nat.lt_of_lt_of_le h (Nat.pow_le_pow_right (by omega) hk)
theorem Bd.neg {k : Nat} {z : Int} (h : Bd k z) : Bd k (-z) := by unfold Bd at *; omega
theorem Bd.sgn {k n : Nat} {b : Bool} (h : n < 4294967296 ^ k) : Bd k (sg b n) := by unfold Bd; rw [sg_abs]; exact h
theorem Bd.abs {k : Nat} {z : Int} (h : Bd k z) : Bd k (z.natAbs : Int) := by unfold Bd at *; omega
theorem Bd.add {k : Nat} {x y : Int} (h : Bd k x) (h' : Bd k y) : Bd (k + 1) (x + y) := by
  unfold Bd at *; rw [Nat.pow_succ]; omega
theorem Bd.sub {k : Nat} {x y : Int} (h : Bd k x) (h' : Bd k y) : Bd (k + 1) (x - y) := by
  unfold Bd at *; rw [Nat.pow_succ]; omega
theorem Bd.mul {k k' : Nat} {x y : Int} (h : Bd k x) (h' : Bd k' y) : Bd (k + k') (x * y) := by
  unfold Bd at *; rw [Int.natAbs_mul, Nat.pow_add]
  exact Nat.mul_lt_mul_of_lt_of_lt h h'
theorem Bd.zero (k : Nat) : Bd k 0 := by unfold Bd; exact Nat.pow_pos (by omega)
theorem Bd.i64 {n : Int} (h : -9223372036854775808 ≤ n ∧ n < 9223372036854775808) : Bd 2 n := by unfold Bd; omega

theorem make_fn {l : List Nat} (neg t : Bool) (hl : Lim 4294967296 l) (hn : l.length ≤ 1099511627776) : PFn Tryd.prog 35 [.bool neg, LS l t] (IntA (sg neg (val 4294967296 l))) := by
  intro H Q hq
  refine enter35 (by simp) ?_
  simp (disch := first | assumption | (apply Ap.symm; assumption) | omega | decide | (simp only [Xd] <;> omega)) only [ac35, ↓Xa, Xb, Xc, ↓reduceIte, Nat.reduceLT, Nat.reduceEqDiff, Nat.reduceBEq, Nat.reduceLeDiff, Nat.reduceAdd, Nat.reduceMul]
  refine alloc_i fun p hp => ?_
  simp (disch := first | assumption | (apply Ap.symm; assumption) | omega | decide | (simp only [Xd] <;> omega)) only [↓Xa, Xb, Xc, ↓reduceIte, Nat.reduceLT, Nat.reduceEqDiff, Nat.reduceBEq, Nat.reduceLeDiff, Nat.reduceAdd, Nat.reduceMul]
  refine (norm_fn t (by omega)).call ?_
  rw [tr_digs (by omega) hl]
  simp (disch := first | assumption | (apply Ap.symm; assumption) | omega | decide | (simp only [Xd] <;> omega)) only [↓Xa, Xb, Xc, ↓reduceIte, Nat.reduceLT, Nat.reduceEqDiff, Nat.reduceBEq, Nat.reduceLeDiff, Nat.reduceAdd, Nat.reduceMul]
  refine (made_fn neg _ (by have := tr_len l; rw [tr_digs (by omega) hl] at this; omega)).call ?_
  simp (disch := first | assumption | (apply Ap.symm; assumption) | omega | decide | (simp only [Xd] <;> omega)) only [rs35, IntA, ↓Xa, Xb, Xc, ↓reduceIte, Nat.reduceLT, Nat.reduceEqDiff, Nat.reduceBEq, Nat.reduceLeDiff, Nat.reduceAdd, Nat.reduceMul]
  exact SetR.dropTo ((Le.refl H).upd hp) (SetR.now hq)

theorem of_fn {n : Int} (hn : -9223372036854775808 ≤ n ∧ n < 9223372036854775808) : PFn Tryd.prog 58 [.int .i64 n] (IntA n) := by
  intro H Q hq
  refine enter58 (by simp) ?_
  have v2 : ∀ u : Nat, u < 18446744073709551616 → val 4294967296 [u % 4294967296, u / 2 ^ 32] = u := by
    intro u hu; simp only [val]; omega
  have l2 : ∀ u : Nat, u < 18446744073709551616 → Lim 4294967296 [u % 4294967296, u / 2 ^ 32] := fun u hu => Lim.cons (Nat.mod_lt _ (by omega)) (Lim.one (by omega))
  simp (disch := first | assumption | (apply Ap.symm; assumption) | omega | decide | (simp only [Xd] <;> omega)) only [ac58, ↓Xa, Xb, Xc, ↓reduceIte, Nat.reduceLT, Nat.reduceEqDiff, Nat.reduceBEq, Nat.reduceLeDiff, Nat.reduceAdd, Nat.reduceMul]
  refine alloc_i fun p hp => ?_
  have key' : ∀ (u : Nat) (neg : Bool), u < 18446744073709551616 → sg neg u = n → ∀ {H K}, K (IntA n) H → callW Tryd.prog (.fn (.func 35) [] []) [.bool neg, .seq 2 [.int .u32 ((u % 4294967296 : Nat) : Int), .int .u32 ((u / 2 ^ 32 : Nat) : Int)] true] H K := by
    intro u neg hu hs H K hk
    have := make_fn neg true (l2 u hu) (by simp)
    rw [v2 u hu, hs] at this
    exact this.call hk
  by_cases h0 : n < 0
  · obtain ⟨m, rfl⟩ : ∃ m : Nat, n = -(m : Int) := ⟨n.natAbs, by omega⟩
    have c1 : ∀ K, convW .u64 (.int .i64 (-(m : Int))) K ↔ K (.int .u64 ((18446744073709551616 - m : Nat) : Int)) := fun K => by
      simp only [convW, wmod_u64]; rw [show (-(m : Int)) % 18446744073709551616 = ((18446744073709551616 - m : Nat) : Int) by omega]
    have c2 : ∀ K, unW .neg (.int .u64 ((18446744073709551616 - m : Nat) : Int)) K ↔ K (.int .u64 (m : Int)) := fun K => by
      simp only [unW, wmod_u64]; rw [show (0 - ((18446744073709551616 - m : Nat) : Int)) % 18446744073709551616 = (m : Int) by omega]
    have c3 : ∀ K, binW .lss (.int .i64 (-(m : Int))) (.int .i64 ((0 : Nat) : Int)) K ↔ K (.bool true) := fun K => by
      simp only [binW, binInt, true_and]; rw [decide_eq_true (by omega)]
    simp (disch := first | assumption | (apply Ap.symm; assumption) | omega | decide | (simp only [Xd] <;> omega)) only [c1, c2, c3, ↓Xa, Xb, Xc, ↓reduceIte, Nat.reduceLT, Nat.reduceEqDiff, Nat.reduceBEq, Nat.reduceLeDiff, Nat.reduceAdd, Nat.reduceMul]
    refine key' m true (by omega) (by simp [sg]) ?_
    simp (disch := first | assumption | (apply Ap.symm; assumption) | omega | decide | (simp only [Xd] <;> omega)) only [rs58, IntA, ↓Xa, Xb, Xc, ↓reduceIte, Nat.reduceLT, Nat.reduceEqDiff, Nat.reduceBEq, Nat.reduceLeDiff, Nat.reduceAdd, Nat.reduceMul]
    exact SetR.dropTo ((Le.refl H).upd hp) (SetR.now hq)
  · obtain ⟨m, rfl⟩ : ∃ m : Nat, n = (m : Int) := ⟨n.natAbs, by omega⟩
    simp (disch := first | assumption | (apply Ap.symm; assumption) | omega | decide | (simp only [Xd] <;> omega)) only [↓Xa, Xb, Xc, ↓reduceIte, Nat.reduceLT, Nat.reduceEqDiff, Nat.reduceBEq, Nat.reduceLeDiff, Nat.reduceAdd, Nat.reduceMul]
    refine key' m false (by omega) (by simp [sg]) ?_
    simp (disch := first | assumption | (apply Ap.symm; assumption) | omega | decide | (simp only [Xd] <;> omega)) only [rs58, IntA, ↓Xa, Xb, Xc, ↓reduceIte, Nat.reduceLT, Nat.reduceEqDiff, Nat.reduceBEq, Nat.reduceLeDiff, Nat.reduceAdd, Nat.reduceMul]
    exact SetR.dropTo ((Le.refl H).upd hp) (SetR.now hq)

theorem neg_fn {x : Int} {k : Nat} (hx : Bd k x) (hk : k ≤ 549755813888) : PFn Tryd.prog 145 [IntA x] (IntA (-x)) := by
  intro H Q hq
  have hl := hx.len
  have e : -x = sg (!decide (x < 0)) x.natAbs := by unfold sg; by_cases h : x < 0 <;> simp [h] <;> omega
  rw [e] at hq
  refine enter145 (by simp) ?_
  simp (disch := first | assumption | (apply Ap.symm; assumption) | omega | decide | (simp only [Xd] <;> omega)) only [ac145, IntA, ↓Xa, Xb, Xc, ↓reduceIte, Nat.reduceLT, Nat.reduceEqDiff, Nat.reduceBEq, Nat.reduceLeDiff, Nat.reduceAdd, Nat.reduceMul]
  refine alloc_i fun p hp => ?_
  simp (disch := first | assumption | (apply Ap.symm; assumption) | omega | decide | (simp only [Xd] <;> omega)) only [↓Xa, Xb, Xc, ↓reduceIte, Nat.reduceLT, Nat.reduceEqDiff, Nat.reduceBEq, Nat.reduceLeDiff, Nat.reduceAdd, Nat.reduceMul]
  refine alloc_i fun p2 hp2 => ?_
  have hne := (upd_none.1 hp2).1
  simp (disch := first | assumption | (apply Ap.symm; assumption) | omega | decide | (simp only [Xd] <;> omega)) only [↓Xa, Xb, Xc, ↓reduceIte, Nat.reduceLT, Nat.reduceEqDiff, Nat.reduceBEq, Nat.reduceLeDiff, Nat.reduceAdd, Nat.reduceMul]
  refine (made_fn _ _ (by omega)).call ?_
  simp (disch := first | assumption | (apply Ap.symm; assumption) | omega | decide | (simp only [Xd] <;> omega)) only [rs145, IntA, ↓Xa, Xb, Xc, ↓reduceIte, Nat.reduceLT, Nat.reduceEqDiff, Nat.reduceBEq, Nat.reduceLeDiff, Nat.reduceAdd, Nat.reduceMul]
  exact SetR.dropTo (((Le.refl H).upd hp).upd hp2) (SetR.now hq)

def sgnI (x : Int) : Int := if x = 0 then ((0 : Nat) : Int) else if x < 0 then -1 else ((1 : Nat) : Int)
theorem sign_fn {x : Int} {k : Nat} (hx : Bd k x) (hk : k ≤ 549755813888) : PFn Tryd.prog 27 [IntA x] (.int .i64 (sgnI x)) := by
  intro H Q hq
  have hl := hx.len
  have h0 := digs_len0 (B := 4294967296) (n := x.natAbs) (by omega)
  refine enter27 (by simp) ?_
  simp (disch := first | assumption | (apply Ap.symm; assumption) | omega | decide | (simp only [Xd] <;> omega)) only [ac27, IntA, ↓Xa, Xb, Xc, ↓reduceIte, Nat.reduceLT, Nat.reduceEqDiff, Nat.reduceBEq, Nat.reduceLeDiff, Nat.reduceAdd, Nat.reduceMul]
  refine alloc_i fun p hp => ?_
  by_cases hz : x = 0
  · have h1 : (digs 4294967296 x.natAbs).length = 0 := by rw [h0]; omega
    simp (disch := first | assumption | (apply Ap.symm; assumption) | omega | decide | (simp only [Xd] <;> omega)) only [rs27, h1, ↓Xa, Xb, Xc, ↓reduceIte, Nat.reduceLT, Nat.reduceEqDiff, Nat.reduceBEq, Nat.reduceLeDiff, Nat.reduceAdd, Nat.reduceMul]
    refine SetR.dropTo ((Le.refl H).upd hp) (SetR.now ?_)
    simpa [sgnI, hz] using hq
  · have h1 : ((digs 4294967296 x.natAbs).length = 0) = False := by rw [h0]; simp; omega
    by_cases hn : x < 0
    · simp (disch := first | assumption | (apply Ap.symm; assumption) | omega | decide | (simp only [Xd] <;> omega)) only [rs27, h1, hn, ↓Xa, Xb, Xc, ↓reduceIte, Nat.reduceLT, Nat.reduceEqDiff, Nat.reduceBEq, Nat.reduceLeDiff, Nat.reduceAdd, Nat.reduceMul]
      refine SetR.dropTo ((Le.refl H).upd hp) (SetR.now ?_)
      simpa [sgnI, hz, hn] using hq
    · simp (disch := first | assumption | (apply Ap.symm; assumption) | omega | decide | (simp only [Xd] <;> omega)) only [rs27, h1, hn, ↓Xa, Xb, Xc, ↓reduceIte, Nat.reduceLT, Nat.reduceEqDiff, Nat.reduceBEq, Nat.reduceLeDiff, Nat.reduceAdd, Nat.reduceMul]
      refine SetR.dropTo ((Le.refl H).upd hp) (SetR.now ?_)
      simpa [sgnI, hz, hn] using hq

def cmpI (x y : Int) : Int := if x < y then -1 else if y < x then ((1 : Nat) : Int) else ((0 : Nat) : Int)
theorem cmpi_fn {x y : Int} {k k' : Nat} (hx : Bd k x) (hk : k ≤ 549755813888) (hy : Bd k' y) (hk' : k' ≤ 549755813888) : PFn Tryd.prog 57 [IntA x, IntA y] (.int .i64 (cmpI x y)) := by
  intro H Q hq
  have hl := hx.len
  have hl' := hy.len
  have vx := val_digs (B := 4294967296) (by omega) x.natAbs
  have vy := val_digs (B := 4294967296) (by omega) y.natAbs
  have lx := lim_digs (B := 4294967296) (by omega) x.natAbs
  have ly := lim_digs (B := 4294967296) (by omega) y.natAbs
  refine enter57 (by simp) ?_
  simp (disch := first | assumption | (apply Ap.symm; assumption) | omega | decide | (simp only [Xd] <;> omega)) only [ac57, IntA, ↓Xa, Xb, Xc, ↓reduceIte, Nat.reduceLT, Nat.reduceEqDiff, Nat.reduceBEq, Nat.reduceLeDiff, Nat.reduceAdd, Nat.reduceMul]
  refine alloc_i fun p hp => ?_
  simp (disch := first | assumption | (apply Ap.symm; assumption) | omega | decide | (simp only [Xd] <;> omega)) only [↓Xa, Xb, Xc, ↓reduceIte, Nat.reduceLT, Nat.reduceEqDiff, Nat.reduceBEq, Nat.reduceLeDiff, Nat.reduceAdd, Nat.reduceMul]
  refine alloc_i fun p2 hp2 => ?_
  have hne := (upd_none.1 hp2).1
  have fin : ∀ v, cmpI x y = v → SetR Q (.int .i64 v) ((H.upd p (some (.row 28 0 [.bool (decide (x < 0)), LS (digs 4294967296 x.natAbs) true]))).upd p2 (some (.row 28 0 [.bool (decide (y < 0)), LS (digs 4294967296 y.natAbs) true]))) := fun v hv => SetR.dropTo (((Le.refl H).upd hp).upd hp2) (SetR.now (hv ▸ hq))
  by_cases hn : x < 0
  · by_cases hn' : y < 0
    · simp (disch := first | assumption | (apply Ap.symm; assumption) | omega | decide | (simp only [Xd] <;> omega)) only [hn, hn', ↓Xa, Xb, Xc, ↓reduceIte, Nat.reduceLT, Nat.reduceEqDiff, Nat.reduceBEq, Nat.reduceLeDiff, Nat.reduceAdd, Nat.reduceMul]
      refine (cmp_fn true true ly lx).call ?_
      rw [vx, vy]
      have : cmpI x y = cmpZ y.natAbs x.natAbs := by unfold cmpI cmpZ; split <;> split <;> first | rfl | omega | (split <;> first | rfl | omega | (split <;> first | rfl | omega))
      simp only [hn, hn', decide_true] at fin
      simp (disch := first | assumption | (apply Ap.symm; assumption) | omega | decide | (simp only [Xd] <;> omega)) only [rs57, ↓Xa, Xb, Xc, ↓reduceIte, Nat.reduceLT, Nat.reduceEqDiff, Nat.reduceBEq, Nat.reduceLeDiff, Nat.reduceAdd, Nat.reduceMul]
      exact fin _ this
    · simp (disch := first | assumption | (apply Ap.symm; assumption) | omega | decide | (simp only [Xd] <;> omega)) only [hn, hn', rs57, ↓Xa, Xb, Xc, ↓reduceIte, Nat.reduceLT, Nat.reduceEqDiff, Nat.reduceBEq, Nat.reduceLeDiff, Nat.reduceAdd, Nat.reduceMul]
      simp only [hn, hn', decide_true, decide_false] at fin
      exact fin _ (by unfold cmpI; rw [if_pos (by omega)])
  · by_cases hn' : y < 0
    · simp (disch := first | assumption | (apply Ap.symm; assumption) | omega | decide | (simp only [Xd] <;> omega)) only [hn, hn', rs57, ↓Xa, Xb, Xc, ↓reduceIte, Nat.reduceLT, Nat.reduceEqDiff, Nat.reduceBEq, Nat.reduceLeDiff, Nat.reduceAdd, Nat.reduceMul]
      simp only [hn, hn', decide_true, decide_false] at fin
      exact fin _ (by unfold cmpI; rw [if_neg (by omega), if_pos (by omega)])
    · simp (disch := first | assumption | (apply Ap.symm; assumption) | omega | decide | (simp only [Xd] <;> omega)) only [hn, hn', ↓Xa, Xb, Xc, ↓reduceIte, Nat.reduceLT, Nat.reduceEqDiff, Nat.reduceBEq, Nat.reduceLeDiff, Nat.reduceAdd, Nat.reduceMul]
      refine (cmp_fn true true lx ly).call ?_
      rw [vx, vy]
      have : cmpI x y = cmpZ x.natAbs y.natAbs := by unfold cmpI cmpZ; split <;> split <;> first | rfl | omega | (split <;> first | rfl | omega | (split <;> first | rfl | omega))
      simp only [hn, hn', decide_false] at fin
      simp (disch := first | assumption | (apply Ap.symm; assumption) | omega | decide | (simp only [Xd] <;> omega)) only [rs57, ↓Xa, Xb, Xc, ↓reduceIte, Nat.reduceLT, Nat.reduceEqDiff, Nat.reduceBEq, Nat.reduceLeDiff, Nat.reduceAdd, Nat.reduceMul]
      exact fin _ this

theorem addi_fn {x y : Int} {k k' : Nat} (hx : Bd k x) (hk : k ≤ 549755813888) (hy : Bd k' y) (hk' : k' ≤ 549755813888) : PFn Tryd.prog 121 [IntA x, IntA y] (IntA (x + y)) := by
  intro H Q hq
  have hl := hx.len
  have hl' := hy.len
  have vx := val_digs (B := 4294967296) (by omega) x.natAbs
  have vy := val_digs (B := 4294967296) (by omega) y.natAbs
  have lx := lim_digs (B := 4294967296) (by omega) x.natAbs
  have ly := lim_digs (B := 4294967296) (by omega) y.natAbs
  have hxm := hx.mono (Nat.le_max_left k k')
  have hym := hy.mono (Nat.le_max_right k k')
  refine enter121 (by simp) ?_
  simp (disch := first | assumption | (apply Ap.symm; assumption) | omega | decide | (simp only [Xd] <;> omega)) only [ac121, IntA, ↓Xa, Xb, Xc, ↓reduceIte, Nat.reduceLT, Nat.reduceEqDiff, Nat.reduceBEq, Nat.reduceLeDiff, Nat.reduceAdd, Nat.reduceMul]
  refine alloc_i fun p hp => ?_
  simp (disch := first | assumption | (apply Ap.symm; assumption) | omega | decide | (simp only [Xd] <;> omega)) only [↓Xa, Xb, Xc, ↓reduceIte, Nat.reduceLT, Nat.reduceEqDiff, Nat.reduceBEq, Nat.reduceLeDiff, Nat.reduceAdd, Nat.reduceMul]
  refine alloc_i fun p2 hp2 => ?_
  simp (disch := first | assumption | (apply Ap.symm; assumption) | omega | decide | (simp only [Xd] <;> omega)) only [↓Xa, Xb, Xc, ↓reduceIte, Nat.reduceLT, Nat.reduceEqDiff, Nat.reduceBEq, Nat.reduceLeDiff, Nat.reduceAdd, Nat.reduceMul]
  refine alloc_i fun p3 hp3 => ?_
  have hne := (upd_none.1 hp2).1
  have hne3 := (upd_none.1 hp3).1
  have hne4 := (upd_none.1 (upd_none.1 hp3).2).1
  by_cases hs : decide (x < 0) = decide (y < 0)
  · have hsb : (decide (x < 0) == decide (y < 0)) = true := by rw [hs]; simp
    simp (disch := first | assumption | (apply Ap.symm; assumption) | omega | decide | (simp only [Xd] <;> omega)) only [hsb, ↓Xa, Xb, Xc, ↓reduceIte, Nat.reduceLT, Nat.reduceEqDiff, Nat.reduceBEq, Nat.reduceLeDiff, Nat.reduceAdd, Nat.reduceMul]
    refine PFn.dcall (add_fn true true lx ly (by omega) (by omega)) ?_
    rw [vx, vy]
    simp (disch := first | assumption | (apply Ap.symm; assumption) | omega | decide | (simp only [Xd] <;> omega)) only [↓Xa, Xb, Xc, ↓reduceIte, Nat.reduceLT, Nat.reduceEqDiff, Nat.reduceBEq, Nat.reduceLeDiff, Nat.reduceAdd, Nat.reduceMul]
    have hb : Bd (max k k' + 1) (sg (decide (x < 0)) (x.natAbs + y.natAbs)) := Bd.sgn (by unfold Bd at hxm hym; rw [Nat.pow_succ]; omega)
    have hb' := hb.len
    rw [sg_abs] at hb'
    refine (made_fn _ _ (by omega)).call ?_
    simp (disch := first | assumption | (apply Ap.symm; assumption) | omega | decide | (simp only [Xd] <;> omega)) only [rs121, IntA, ↓Xa, Xb, Xc, ↓reduceIte, Nat.reduceLT, Nat.reduceEqDiff, Nat.reduceBEq, Nat.reduceLeDiff, Nat.reduceAdd, Nat.reduceMul]
    have e : x + y = sg (decide (x < 0)) (x.natAbs + y.natAbs) := by
      have := decide_eq_decide.1 hs
      unfold sg; by_cases h : x < 0 <;> simp [h] <;> omega
    rw [e] at hq
    exact SetR.dropTo ((((Le.refl H).upd hp).upd hp2).upd hp3) (SetR.now hq)
  · have hsb : (decide (x < 0) == decide (y < 0)) = false := by simpa using hs
    have hs' : ¬ ((x < 0) ↔ (y < 0)) := fun h => hs (decide_eq_decide.2 h)
    simp (disch := first | assumption | (apply Ap.symm; assumption) | omega | decide | (simp only [Xd] <;> omega)) only [hsb, ↓Xa, Xb, Xc, ↓reduceIte, Nat.reduceLT, Nat.reduceEqDiff, Nat.reduceBEq, Nat.reduceLeDiff, Nat.reduceAdd, Nat.reduceMul]
    refine (cmp_fn true true lx ly).call ?_
    rw [vx, vy]
    by_cases hc : x.natAbs < y.natAbs
    · have c3 : ∀ K, binW .lss (.int .i64 (cmpZ x.natAbs y.natAbs)) (.int .i64 ((0 : Nat) : Int)) K ↔ K (.bool true) := fun K => by
        simp [binW, binInt, cmpZ, hc]
      simp (disch := first | assumption | (apply Ap.symm; assumption) | omega | decide | (simp only [Xd] <;> omega)) only [c3, ↓Xa, Xb, Xc, ↓reduceIte, Nat.reduceLT, Nat.reduceEqDiff, Nat.reduceBEq, Nat.reduceLeDiff, Nat.reduceAdd, Nat.reduceMul]
      refine (sub_fn true true ly lx (by rw [vx, vy]; omega) (by omega) (by omega)).call ?_
      rw [vx, vy]
      simp (disch := first | assumption | (apply Ap.symm; assumption) | omega | decide | (simp only [Xd] <;> omega)) only [↓Xa, Xb, Xc, ↓reduceIte, Nat.reduceLT, Nat.reduceEqDiff, Nat.reduceBEq, Nat.reduceLeDiff, Nat.reduceAdd, Nat.reduceMul]
      have hb : Bd k' (sg (decide (y < 0)) (y.natAbs - x.natAbs)) := Bd.sgn (by unfold Bd at hy; omega)
      have hb' := hb.len
      rw [sg_abs] at hb'
      refine (made_fn _ _ (by omega)).call ?_
      simp (disch := first | assumption | (apply Ap.symm; assumption) | omega | decide | (simp only [Xd] <;> omega)) only [rs121, IntA, ↓Xa, Xb, Xc, ↓reduceIte, Nat.reduceLT, Nat.reduceEqDiff, Nat.reduceBEq, Nat.reduceLeDiff, Nat.reduceAdd, Nat.reduceMul]
      have e : x + y = sg (decide (y < 0)) (y.natAbs - x.natAbs) := by
        unfold sg; by_cases h : y < 0 <;> simp [h] <;> omega
      rw [e] at hq
      exact SetR.dropTo ((((Le.refl H).updB hp).updB (upd_none.1 hp2).2).updB (upd_none.1 (upd_none.1 hp3).2).2) (SetR.now hq)
    · have c3 : ∀ K, binW .lss (.int .i64 (cmpZ x.natAbs y.natAbs)) (.int .i64 ((0 : Nat) : Int)) K ↔ K (.bool false) := fun K => by
        have : ¬ (cmpZ x.natAbs y.natAbs < 0) := by unfold cmpZ; rw [if_neg hc]; split <;> omega
        simp [binW, binInt]; rw [decide_eq_false this]
      simp (disch := first | assumption | (apply Ap.symm; assumption) | omega | decide | (simp only [Xd] <;> omega)) only [c3, ↓Xa, Xb, Xc, ↓reduceIte, Nat.reduceLT, Nat.reduceEqDiff, Nat.reduceBEq, Nat.reduceLeDiff, Nat.reduceAdd, Nat.reduceMul]
      refine (sub_fn true true lx ly (by rw [vx, vy]; omega) (by omega) (by omega)).call ?_
      rw [vx, vy]
      simp (disch := first | assumption | (apply Ap.symm; assumption) | omega | decide | (simp only [Xd] <;> omega)) only [↓Xa, Xb, Xc, ↓reduceIte, Nat.reduceLT, Nat.reduceEqDiff, Nat.reduceBEq, Nat.reduceLeDiff, Nat.reduceAdd, Nat.reduceMul]
      have hb : Bd k (sg (decide (x < 0)) (x.natAbs - y.natAbs)) := Bd.sgn (by unfold Bd at hx; omega)
      have hb' := hb.len
      rw [sg_abs] at hb'
      refine (made_fn _ _ (by omega)).call ?_
      simp (disch := first | assumption | (apply Ap.symm; assumption) | omega | decide | (simp only [Xd] <;> omega)) only [rs121, IntA, ↓Xa, Xb, Xc, ↓reduceIte, Nat.reduceLT, Nat.reduceEqDiff, Nat.reduceBEq, Nat.reduceLeDiff, Nat.reduceAdd, Nat.reduceMul]
      have e : x + y = sg (decide (x < 0)) (x.natAbs - y.natAbs) := by
        unfold sg; by_cases h : x < 0 <;> simp [h] <;> omega
      rw [e] at hq
      exact SetR.dropTo ((((Le.refl H).upd hp).upd hp2).upd hp3) (SetR.now hq)

theorem subi_fn {x y : Int} {k k' : Nat} (hx : Bd k x) (hk : k ≤ 549755813888) (hy : Bd k' y) (hk' : k' ≤ 549755813888) : PFn Tryd.prog 141 [IntA x, IntA y] (IntA (x - y)) := by
  intro H Q hq
  refine enter141 (by simp) ?_
  simp (disch := first | assumption | (apply Ap.symm; assumption) | omega | decide | (simp only [Xd] <;> omega)) only [ac141, IntA, ↓Xa, Xb, Xc, ↓reduceIte, Nat.reduceLT, Nat.reduceEqDiff, Nat.reduceBEq, Nat.reduceLeDiff, Nat.reduceAdd, Nat.reduceMul]
  refine alloc_i fun p hp => ?_
  simp (disch := first | assumption | (apply Ap.symm; assumption) | omega | decide | (simp only [Xd] <;> omega)) only [↓Xa, Xb, Xc, ↓reduceIte, Nat.reduceLT, Nat.reduceEqDiff, Nat.reduceBEq, Nat.reduceLeDiff, Nat.reduceAdd, Nat.reduceMul]
  refine alloc_i fun p2 hp2 => ?_
  simp (disch := first | assumption | (apply Ap.symm; assumption) | omega | decide | (simp only [Xd] <;> omega)) only [↓Xa, Xb, Xc, ↓reduceIte, Nat.reduceLT, Nat.reduceEqDiff, Nat.reduceBEq, Nat.reduceLeDiff, Nat.reduceAdd, Nat.reduceMul]
  refine alloc_i fun p3 hp3 => ?_
  have hne := (upd_none.1 hp2).1
  have hne3 := (upd_none.1 hp3).1
  have hne4 := (upd_none.1 (upd_none.1 hp3).2).1
  simp (disch := first | assumption | (apply Ap.symm; assumption) | omega | decide | (simp only [Xd] <;> omega)) only [↓Xa, Xb, Xc, ↓reduceIte, Nat.reduceLT, Nat.reduceEqDiff, Nat.reduceBEq, Nat.reduceLeDiff, Nat.reduceAdd, Nat.reduceMul]
  refine PFn.dcall (neg_fn hy hk') ?_
  simp (disch := first | assumption | (apply Ap.symm; assumption) | omega | decide | (simp only [Xd] <;> omega)) only [↓Xa, Xb, Xc, ↓reduceIte, Nat.reduceLT, Nat.reduceEqDiff, Nat.reduceBEq, Nat.reduceLeDiff, Nat.reduceAdd, Nat.reduceMul]
  refine (addi_fn hx hk hy.neg hk').call ?_
  simp (disch := first | assumption | (apply Ap.symm; assumption) | omega | decide | (simp only [Xd] <;> omega)) only [rs141, IntA, ↓Xa, Xb, Xc, ↓reduceIte, Nat.reduceLT, Nat.reduceEqDiff, Nat.reduceBEq, Nat.reduceLeDiff, Nat.reduceAdd, Nat.reduceMul]
  exact SetR.dropTo ((((Le.refl H).upd hp).upd hp2).upd hp3) (SetR.now hq)

theorem muli_fn {x y : Int} {k k' : Nat} (hx : Bd k x) (hk : k ≤ 549755813888) (hy : Bd k' y) (hk' : k' ≤ 549755813888) : PFn Tryd.prog 89 [IntA x, IntA y] (IntA (x * y)) := by
  intro H Q hq
  have hl := hx.len
  have hl' := hy.len
  have vx := val_digs (B := 4294967296) (by omega) x.natAbs
  have vy := val_digs (B := 4294967296) (by omega) y.natAbs
  have lx := lim_digs (B := 4294967296) (by omega) x.natAbs
  have ly := lim_digs (B := 4294967296) (by omega) y.natAbs
  have hb := (hx.mul hy).len
  refine enter89 (by simp) ?_
  simp (disch := first | assumption | (apply Ap.symm; assumption) | omega | decide | (simp only [Xd] <;> omega)) only [ac89, IntA, ↓Xa, Xb, Xc, ↓reduceIte, Nat.reduceLT, Nat.reduceEqDiff, Nat.reduceBEq, Nat.reduceLeDiff, Nat.reduceAdd, Nat.reduceMul]
  refine alloc_i fun p hp => ?_
  simp (disch := first | assumption | (apply Ap.symm; assumption) | omega | decide | (simp only [Xd] <;> omega)) only [↓Xa, Xb, Xc, ↓reduceIte, Nat.reduceLT, Nat.reduceEqDiff, Nat.reduceBEq, Nat.reduceLeDiff, Nat.reduceAdd, Nat.reduceMul]
  refine alloc_i fun p2 hp2 => ?_
  simp (disch := first | assumption | (apply Ap.symm; assumption) | omega | decide | (simp only [Xd] <;> omega)) only [↓Xa, Xb, Xc, ↓reduceIte, Nat.reduceLT, Nat.reduceEqDiff, Nat.reduceBEq, Nat.reduceLeDiff, Nat.reduceAdd, Nat.reduceMul]
  refine alloc_i fun p3 hp3 => ?_
  have hne := (upd_none.1 hp2).1
  have hne3 := (upd_none.1 hp3).1
  have hne4 := (upd_none.1 (upd_none.1 hp3).2).1
  simp (disch := first | assumption | (apply Ap.symm; assumption) | omega | decide | (simp only [Xd] <;> omega)) only [↓Xa, Xb, Xc, ↓reduceIte, Nat.reduceLT, Nat.reduceEqDiff, Nat.reduceBEq, Nat.reduceLeDiff, Nat.reduceAdd, Nat.reduceMul]
  refine PFn.dcall (mul_fn true true lx ly (by omega) (by omega)) ?_
  rw [vx, vy]
  simp (disch := first | assumption | (apply Ap.symm; assumption) | omega | decide | (simp only [Xd] <;> omega)) only [↓Xa, Xb, Xc, ↓reduceIte, Nat.reduceLT, Nat.reduceEqDiff, Nat.reduceBEq, Nat.reduceLeDiff, Nat.reduceAdd, Nat.reduceMul]
  rw [Int.natAbs_mul] at hb
  refine (made_fn _ _ (by omega)).call ?_
  have e : sg (!(decide (x < 0) == decide (y < 0))) (x.natAbs * y.natAbs) = x * y := by
    rw [← Int.natAbs_mul]
    unfold sg
    by_cases h : x < 0 <;> by_cases h' : y < 0 <;> simp [h, h']
    · rw [abs_nn (Int.mul_nonneg_of_nonpos_of_nonpos (by omega) (by omega))]
    · rw [abs_np (Int.mul_nonpos_of_nonpos_of_nonneg (by omega) (by omega))]
    · rw [abs_np (Int.mul_nonpos_of_nonneg_of_nonpos (by omega) (by omega))]
    · rw [abs_nn (Int.mul_nonneg (by omega) (by omega))]
  rw [e]
  simp (disch := first | assumption | (apply Ap.symm; assumption) | omega | decide | (simp only [Xd] <;> omega)) only [rs89, IntA, ↓Xa, Xb, Xc, ↓reduceIte, Nat.reduceLT, Nat.reduceEqDiff, Nat.reduceBEq, Nat.reduceLeDiff, Nat.reduceAdd, Nat.reduceMul]
  exact SetR.dropTo ((((Le.refl H).upd hp).upd hp2).upd hp3) (SetR.now hq)

theorem timesi_fn {x n : Int} {k : Nat} (hx : Bd k x) (hk : k ≤ 549755813888) (hn : -9223372036854775808 ≤ n ∧ n < 9223372036854775808) : PFn Tryd.prog 131 [IntA x, .int .i64 n] (IntA (x * n)) := by
  intro H Q hq
  refine enter131 (by simp) ?_
  simp (disch := first | assumption | (apply Ap.symm; assumption) | omega | decide | (simp only [Xd] <;> omega)) only [ac131, IntA, ↓Xa, Xb, Xc, ↓reduceIte, Nat.reduceLT, Nat.reduceEqDiff, Nat.reduceBEq, Nat.reduceLeDiff, Nat.reduceAdd, Nat.reduceMul]
  refine alloc_i fun p hp => ?_
  simp (disch := first | assumption | (apply Ap.symm; assumption) | omega | decide | (simp only [Xd] <;> omega)) only [↓Xa, Xb, Xc, ↓reduceIte, Nat.reduceLT, Nat.reduceEqDiff, Nat.reduceBEq, Nat.reduceLeDiff, Nat.reduceAdd, Nat.reduceMul]
  refine alloc_i fun p2 hp2 => ?_
  have hne := (upd_none.1 hp2).1
  simp (disch := first | assumption | (apply Ap.symm; assumption) | omega | decide | (simp only [Xd] <;> omega)) only [↓Xa, Xb, Xc, ↓reduceIte, Nat.reduceLT, Nat.reduceEqDiff, Nat.reduceBEq, Nat.reduceLeDiff, Nat.reduceAdd, Nat.reduceMul]
  refine PFn.dcall (of_fn hn) ?_
  simp (disch := first | assumption | (apply Ap.symm; assumption) | omega | decide | (simp only [Xd] <;> omega)) only [↓Xa, Xb, Xc, ↓reduceIte, Nat.reduceLT, Nat.reduceEqDiff, Nat.reduceBEq, Nat.reduceLeDiff, Nat.reduceAdd, Nat.reduceMul]
  refine (muli_fn hx hk (Bd.i64 hn) (by omega)).call ?_
  simp (disch := first | assumption | (apply Ap.symm; assumption) | omega | decide | (simp only [Xd] <;> omega)) only [rs131, IntA, ↓Xa, Xb, Xc, ↓reduceIte, Nat.reduceLT, Nat.reduceEqDiff, Nat.reduceBEq, Nat.reduceLeDiff, Nat.reduceAdd, Nat.reduceMul]
  exact SetR.dropTo (((Le.refl H).upd hp).upd hp2) (SetR.now hq)
end Go.Proofs.YtanchgkiomfhhaaDoor.Fw

/- What the reference computes of whole numbers: digits to the base 65536. -/
namespace Go.Proofs.YtanchgkiomfhhaaDoor.Fw
set_option linter.unusedSimpArgs false
set_option linter.unusedVariables false
open Go Go.Proofs.YtanchgkiomfhhaaDoor.Ma
set_option maxRecDepth 20000

def RefA (z : Int) (t : Bool) : AV := .agg [.bool (decide (z < 0)), LS (digs 65536 z.natAbs) t]
theorem RefA_sg (neg : Bool) (n : Nat) (t : Bool) : RefA (sg neg n) t = .agg [.bool (neg && decide (0 < (digs 65536 n).length)), LS (digs 65536 n) t] := by
  simp only [RefA, sg_abs, sg_neg, digs_pos_len (B := 65536) (n := n) (by omega)]

theorem rnorm_fn {l : List Nat} (neg t : Bool) (hl : Lim 65536 l) (hn : l.length ≤ 8796093022208) : PFn Tryd.prog 139 [.bool neg, LS l t] (RefA (sg neg (val 65536 l)) false) := by
  intro H Q hq
  rw [RefA_sg] at hq
  refine enter139 (by simp) ?_
  simp (disch := first | assumption | (apply Ap.symm; assumption) | omega | decide | (simp only [Xd] <;> omega)) only [ac139, ↓Xa, Xb, Xc, ↓reduceIte, Nat.reduceLT, Nat.reduceEqDiff, Nat.reduceBEq, Nat.reduceLeDiff, Nat.reduceAdd, Nat.reduceMul]
  refine alloc_i fun p hp => ?_
  simp (disch := first | assumption | (apply Ap.symm; assumption) | omega | decide | (simp only [Xd] <;> omega)) only [↓Xa, Xb, Xc, ↓reduceIte, Nat.reduceLT, Nat.reduceEqDiff, Nat.reduceBEq, Nat.reduceLeDiff, Nat.reduceAdd, Nat.reduceMul]
  refine W_loop (fun n : Nat => ⟨[], [(0, .bool neg), (1, LS l t), (4, .ptr p 2 0), (5, .int .i64 n)], H.upd p (some (.row 39 0 [.bool false, .seq 0 [] true]))⟩) (fun n => n ≤ l.length ∧ ∀ i, n ≤ i → i < l.length → l.getD i 0 = 0) id l.length (Settle.now rfl) ⟨Nat.le_refl _, fun i h1 h2 => absurd h1 (by omega)⟩ ?_
  rintro n ⟨h1, hz⟩
  have fin : ∀ ti, (n = 0 ∨ l.getD (n - 1) 0 ≠ 0) → SetR Q (.agg [.bool (neg && decide (0 < n)), LS (l.take n) ti]) (H.upd p (some (.row 39 0 [.bool (neg && decide (0 < n)), LS (l.take n) ti]))) := fun ti h => by
    have e := tr_take h1 hz h
    have e2 : n = (digs 65536 (val 65536 l)).length := by
      have := congrArg List.length e
      rw [List.length_take, Nat.min_eq_left h1, tr_digs (by omega) hl] at this; exact this
    rw [e, tr_digs (by omega) hl, e2]
    exact SetR.dropTo ((Le.refl H).upd hp) (SetR.loose (SetR.now hq))
  have last : (n = 0 ∨ l.getD (n - 1) 0 ≠ 0) → W Tryd.prog (sndC (sndC (sndC ac139))) (retN rs139 Q) ⟨[], [(0, .bool neg), (1, LS l t), (4, .ptr p 2 0), (5, .int .i64 n), (17, .bool false)], H.upd p (some (.row 39 0 [.bool false, .seq 0 [] true]))⟩ := fun h => by
    have f := fun ti => fin ti h
    cases neg
    · simp (disch := first | assumption | (apply Ap.symm; assumption) | omega | decide | (simp only [Xd] <;> omega)) only [ac139, rs139, sndC, ↓Xa, Xb, Xc, ↓reduceIte, Nat.reduceLT, Nat.reduceEqDiff, Nat.reduceBEq, Nat.reduceLeDiff, Nat.reduceAdd, Nat.reduceMul]
      exact f _
    · simp (disch := first | assumption | (apply Ap.symm; assumption) | omega | decide | (simp only [Xd] <;> omega)) only [ac139, rs139, sndC, ↓Xa, Xb, Xc, ↓reduceIte, Nat.reduceLT, Nat.reduceEqDiff, Nat.reduceBEq, Nat.reduceLeDiff, Nat.reduceAdd, Nat.reduceMul]
      exact f _
  by_cases h0 : 0 < n
  · by_cases h2 : l.getD (n - 1) 0 = 0
    · simp (disch := first | assumption | (apply Ap.symm; assumption) | omega | decide | (simp only [Xd] <;> omega)) only [h0, h2, ↓Xa, Xb, Xc, ↓reduceIte, Nat.reduceLT, Nat.reduceEqDiff, Nat.reduceBEq, Nat.reduceLeDiff, Nat.reduceAdd, Nat.reduceMul]
      refine Settle.now ⟨n - 1, ?_, ⟨by omega, fun i hi hl' => ?_⟩, rfl⟩
      · show n - 1 < n; omega
      · rcases Nat.lt_or_ge i n with h | h
        · rw [show i = n - 1 by omega]; exact h2
        · exact hz i h hl'
    · simp (disch := first | assumption | (apply Ap.symm; assumption) | omega | decide | (simp only [Xd] <;> omega)) only [h0, h2, ↓Xa, Xb, Xc, ↓reduceIte, Nat.reduceLT, Nat.reduceEqDiff, Nat.reduceBEq, Nat.reduceLeDiff, Nat.reduceAdd, Nat.reduceMul]
      exact Settle.now (last (.inr h2))
  · simp (disch := first | assumption | (apply Ap.symm; assumption) | omega | decide | (simp only [Xd] <;> omega)) only [h0, ↓Xa, Xb, Xc, ↓reduceIte, Nat.reduceLT, Nat.reduceEqDiff, Nat.reduceBEq, Nat.reduceLeDiff, Nat.reduceAdd, Nat.reduceMul]
    exact Settle.now (last (.inl (by omega)))

theorem lss_neg {n : Int} {K : AV → Prop} : binW .lss (.int .i64 n) (.int .i64 ((0 : Nat) : Int)) K ↔ K (.bool (decide (n < 0))) := by
  simp only [binW, binInt, true_and]; exact Iff.rfl
theorem rof_fn {n : Int} (hn : -9223372036854775808 ≤ n ∧ n < 9223372036854775808) : PFn Tryd.prog 45 [.int .i64 n] (RefA n false) := by
  intro H Q hq
  refine enter45 (by simp) ?_
  rw [show ac45 = .seq (fstC ac45) (.seq (fstC (sndC ac45)) (.seq (fstC (sndC (sndC ac45))) (hold (sndC (sndC (sndC ac45)))))) from rfl]
  simp (disch := first | assumption | (apply Ap.symm; assumption) | omega | decide | (simp only [Xd] <;> omega)) only [fstC, sndC, ac45, ↓Xa, Xb, Xc, ↓reduceIte, Nat.reduceLT, Nat.reduceEqDiff, Nat.reduceBEq, Nat.reduceLeDiff, Nat.reduceAdd, Nat.reduceMul]
  refine alloc_i fun p hp => ?_
  have tail : ∀ (u0 : Nat), u0 < 18446744073709551616 → sg (decide (n < 0)) u0 = n → W Tryd.prog (hold (sndC (sndC (sndC ac45)))) (retN rs45 Q) ⟨[], [(0, .int .i64 n), (2, .ptr p 2 0), (3, .int .u64 u0)], H.upd p (some (.row 39 0 [.bool false, .seq 0 [] true]))⟩ := by
    intro u0 hu0 hs
    simp (disch := first | assumption | (apply Ap.symm; assumption) | omega | decide | (simp only [Xd] <;> omega)) only [ac45, sndC, hold, ↓Xa, Xb, Xc, ↓reduceIte, Nat.reduceLT, Nat.reduceEqDiff, Nat.reduceBEq, Nat.reduceLeDiff, Nat.reduceAdd, Nat.reduceMul]
    refine W_loop (fun s : Nat × List Nat × AV × AHeap => ⟨[], [(0, .int .i64 n), (2, .ptr p 2 0), (3, .int .u64 s.1), (4, s.2.2.1)], s.2.2.2⟩)
      (fun s => grow (H.upd p (some (.row 39 0 [.bool false, .seq 0 [] true]))) 172 s.2.1 s.2.2.1 s.2.2.2 ∧ Lim 65536 s.2.1 ∧ val 65536 s.2.1 + 65536 ^ s.2.1.length * s.1 = u0 ∧ s.2.1.length ≤ 4 ∧ s.1 < 65536 ^ (4 - s.2.1.length)) (fun s => s.1)
      (u0, [], _, _) (Settle.now rfl) ⟨grow_nil, Lim.nil _, by simp [val], by simp, by simpa using hu0⟩ ?_
    rintro ⟨u, done, x, H'⟩ ⟨hg, h1, h2, h3, h4⟩
    dsimp only at hg h1 h2 h3 h4 ⊢
    have hu : u < 18446744073709551616 := by
      have : (65536 : Nat) ^ (4 - done.length) ≤ 65536 ^ 4 := Nat.pow_le_pow_right (by omega) (by omega)
      omega
    by_cases h0 : 0 < u
    · have hm : u / 65536 < 18446744073709551616 := by omega
      have hr : u % 65536 < 4294967296 := by omega
      simp (disch := first | assumption | (apply Ap.symm; assumption) | omega | decide | (simp only [Xd] <;> omega)) only [h0, ne_eq, Nat.reduceEqDiff, ↓Xa, Xb, Xc, ↓reduceIte, Nat.reduceLT, Nat.reduceEqDiff, Nat.reduceBEq, Nat.reduceLeDiff, Nat.reduceAdd, Nat.reduceMul]
      refine app_grow (m := [u % 65536]) hg rfl (by simp) (by simp; omega) fun x' H2 hg2 => ?_
      simp (disch := first | assumption | (apply Ap.symm; assumption) | omega | decide | (simp only [Xd] <;> omega)) only [ne_eq, Nat.reduceEqDiff, ↓Xa, Xb, Xc, ↓reduceIte, Nat.reduceLT, Nat.reduceEqDiff, Nat.reduceBEq, Nat.reduceLeDiff, Nat.reduceAdd, Nat.reduceMul]
      refine Settle.now ⟨(u / 65536, _, _, _), Nat.div_lt_self h0 (by omega), ⟨hg2, lim_snoc h1 (Nat.mod_lt _ (by omega)), ?_, ?_, ?_⟩, rfl⟩
      · rw [val_snoc, List.length_append, List.length_singleton, Nat.pow_succ, Nat.add_assoc, Nat.mul_assoc, ← Nat.mul_add, Nat.mod_add_div]; exact h2
      · simp only [List.length_append, List.length_singleton]
        rcases Nat.lt_or_ge done.length 4 with e | e
        · omega
        · rw [show 4 - done.length = 0 by omega] at h4; simp at h4; omega
      · simp only [List.length_append, List.length_singleton]
        rcases Nat.lt_or_ge done.length 4 with e | e
        · rw [show 4 - done.length = 4 - (done.length + 1) + 1 by omega, Nat.pow_succ] at h4
          exact Nat.div_lt_of_lt_mul (by rw [Nat.mul_comm]; exact h4)
        · rw [show 4 - done.length = 0 by omega] at h4; simp at h4; omega
    · obtain rfl : u = 0 := by omega
      rw [Nat.mul_zero, Nat.add_zero] at h2
      simp (disch := first | assumption | (apply Ap.symm; assumption) | omega | decide | (simp only [Xd] <;> omega)) only [h0, ↓Xa, Xb, Xc, ↓reduceIte, Nat.reduceLT, Nat.reduceEqDiff, Nat.reduceBEq, Nat.reduceLeDiff, Nat.reduceAdd, Nat.reduceMul]
      refine Settle.grown 4 rfl hg (Settle.now ?_)
      simp (disch := first | assumption | (apply Ap.symm; assumption) | omega | decide | (simp only [Xd] <;> omega)) only [lss_neg, ↓Xa, Xb, Xc, ↓reduceIte, Nat.reduceLT, Nat.reduceEqDiff, Nat.reduceBEq, Nat.reduceLeDiff, Nat.reduceAdd, Nat.reduceMul]
      refine (rnorm_fn _ false h1 (by omega)).call ?_
      rw [h2, hs]
      simp (disch := first | assumption | (apply Ap.symm; assumption) | omega | decide | (simp only [Xd] <;> omega)) only [rs45, RefA, ↓Xa, Xb, Xc, ↓reduceIte, Nat.reduceLT, Nat.reduceEqDiff, Nat.reduceBEq, Nat.reduceLeDiff, Nat.reduceAdd, Nat.reduceMul]
      exact SetR.dropTo ((Le.refl H).upd hp) (SetR.now hq)
  by_cases h0 : n < 0
  · obtain ⟨m, rfl⟩ : ∃ m : Nat, n = -(m : Int) := ⟨n.natAbs, by omega⟩
    have c1 : ∀ K, convW .u64 (.int .i64 (-(m : Int))) K ↔ K (.int .u64 ((18446744073709551616 - m : Nat) : Int)) := fun K => by
      simp only [convW, wmod_u64]; rw [show (-(m : Int)) % 18446744073709551616 = ((18446744073709551616 - m : Nat) : Int) by omega]
    have c2 : ∀ K, unW .neg (.int .u64 ((18446744073709551616 - m : Nat) : Int)) K ↔ K (.int .u64 (m : Int)) := fun K => by
      simp only [unW, wmod_u64]; rw [show (0 - ((18446744073709551616 - m : Nat) : Int)) % 18446744073709551616 = (m : Int) by omega]
    simp (disch := first | assumption | (apply Ap.symm; assumption) | omega | decide | (simp only [Xd] <;> omega)) only [c1, c2, lss_neg, h0, ↓Xa, Xb, Xc, ↓reduceIte, Nat.reduceLT, Nat.reduceEqDiff, Nat.reduceBEq, Nat.reduceLeDiff, Nat.reduceAdd, Nat.reduceMul]
    exact tail m (by omega) (by simp only [sg, h0, decide_true, if_true])
  · obtain ⟨m, rfl⟩ : ∃ m : Nat, n = (m : Int) := ⟨n.natAbs, by omega⟩
    simp (disch := first | assumption | (apply Ap.symm; assumption) | omega | decide | (simp only [Xd] <;> omega)) only [h0, ↓Xa, Xb, Xc, ↓reduceIte, Nat.reduceLT, Nat.reduceEqDiff, Nat.reduceBEq, Nat.reduceLeDiff, Nat.reduceAdd, Nat.reduceMul]
    exact tail m (by omega) (by simp only [sg, h0, decide_false, Bool.false_eq_true, if_false])

theorem Bd.rlen {k : Nat} {z : Int} (h : Bd k z) : (digs 65536 z.natAbs).length ≤ 2 * k := digs_len (by omega) _ _ (by
  unfold Bd at h; rw [Nat.pow_mul]; exact h)

end Go.Proofs.YtanchgkiomfhhaaDoor.Fw

/- What the reference computes of whole numbers: signs, comparing, sums, products. -/
namespace Go.Proofs.YtanchgkiomfhhaaDoor.Fw
set_option linter.unusedSimpArgs false
set_option linter.unusedVariables false
open Go Go.Proofs.YtanchgkiomfhhaaDoor.Ma
set_option maxRecDepth 20000

theorem size_fn (m n : Nat) (ta tb : Bool) (hm : (digs 65536 m).length ≤ 1099511627776) (hn : (digs 65536 n).length ≤ 1099511627776) : PFn Tryd.prog 194 [LS (digs 65536 m) ta, LS (digs 65536 n) tb] (.int .i64 (cmpZ m n)) := by
  intro H Q hq
  have hx := lim_digs (B := 65536) (by omega) m
  have hy := lim_digs (B := 65536) (by omega) n
  have vx := val_digs (B := 65536) (by omega) m
  have vy := val_digs (B := 65536) (by omega) n
  have lt1 := digs_lt_len (B := 65536) (a := m) (b := n) (by omega)
  have lt2 := digs_lt_len (B := 65536) (a := n) (b := m) (by omega)
  generalize digs 65536 m = x at *
  generalize digs 65536 n = y at *
  have less : m < n → SetR Q (.int .i64 (-1)) H := fun h => by
    have : cmpZ m n = -1 := by simp [cmpZ, h]
    rw [← this]; exact SetR.now hq
  have more : n < m → SetR Q (.int .i64 ((1 : Nat) : Int)) H := fun h => by
    have : cmpZ m n = ((1 : Nat) : Int) := by simp [cmpZ, h, Nat.not_lt_of_lt h]
    rw [← this]; exact SetR.now hq
  refine enter194 (by simp) ?_
  by_cases c0 : x.length = y.length
  · simp (disch := first | assumption | (apply Ap.symm; assumption) | omega | decide | (simp only [Xd] <;> omega)) only [ac194, c0, ↓Xa, Xb, Xc, ↓reduceIte, Nat.reduceLT, Nat.reduceEqDiff, Nat.reduceBEq, Nat.reduceLeDiff, Nat.reduceAdd, Nat.reduceMul]
    refine W_loop (fun k : Nat => ⟨[], [(0, LS x ta), (1, LS y tb), (5, .int .i64 (dn k))], H⟩) (fun k => k ≤ x.length ∧ x.drop k = y.drop k) id y.length (Settle.now rfl) ⟨by omega, by rw [List.drop_of_length_le (by omega), List.drop_of_length_le (by omega)]⟩ ?_
    rintro k ⟨hk, hd⟩
    cases k with
    | zero =>
      simp (disch := first | assumption | (apply Ap.symm; assumption) | omega | decide | (simp only [Xd] <;> omega)) only [↓Xa, Xb, Xc, ↓reduceIte, Nat.reduceLT, Nat.reduceEqDiff, Nat.reduceBEq, Nat.reduceLeDiff, Nat.reduceAdd, Nat.reduceMul]
      refine Settle.now ?_
      simp (disch := first | assumption | (apply Ap.symm; assumption) | omega | decide | (simp only [Xd] <;> omega)) only [rs194, ↓Xa, Xb, Xc, ↓reduceIte, Nat.reduceLT, Nat.reduceEqDiff, Nat.reduceBEq, Nat.reduceLeDiff, Nat.reduceAdd, Nat.reduceMul]
      have e : m = n := by rw [← vx, ← vy]; rw [List.drop_zero, List.drop_zero] at hd; rw [hd]
      have : cmpZ m n = ((0 : Nat) : Int) := by simp [cmpZ, e]
      rw [← this]; exact SetR.now hq
    | succ k =>
      by_cases d1 : x.getD k 0 < y.getD k 0
      · simp (disch := first | assumption | (apply Ap.symm; assumption) | omega | decide | (simp only [Xd] <;> omega)) only [d1, rs194, ↓Xa, Xb, Xc, ↓reduceIte, Nat.reduceLT, Nat.reduceEqDiff, Nat.reduceBEq, Nat.reduceLeDiff, Nat.reduceAdd, Nat.reduceMul]
        exact less (by rw [← vx, ← vy]; exact val_lt_high hx (by omega) k (by omega) c0 hd d1)
      by_cases d2 : y.getD k 0 < x.getD k 0
      · simp (disch := first | assumption | (apply Ap.symm; assumption) | omega | decide | (simp only [Xd] <;> omega)) only [d1, d2, rs194, ↓Xa, Xb, Xc, ↓reduceIte, Nat.reduceLT, Nat.reduceEqDiff, Nat.reduceBEq, Nat.reduceLeDiff, Nat.reduceAdd, Nat.reduceMul]
        exact more (by rw [← vx, ← vy]; exact val_lt_high hy (by omega) k (by omega) c0.symm hd.symm d2)
      simp (disch := first | assumption | (apply Ap.symm; assumption) | omega | decide | (simp only [Xd] <;> omega)) only [d1, d2, ↓Xa, Xb, Xc, ↓reduceIte, Nat.reduceLT, Nat.reduceEqDiff, Nat.reduceBEq, Nat.reduceLeDiff, Nat.reduceAdd, Nat.reduceMul]
      refine Settle.now ⟨k, Nat.lt_succ_self k, ⟨by omega, ?_⟩, rfl⟩
      rw [List.drop_eq_getElem_cons (by omega), List.drop_eq_getElem_cons (i := k) (l := y) (by omega), hd]
      congr 1
      have e1 : x.getD k 0 = x[k] := by simp [List.getD_eq_getElem?_getD, List.getElem?_eq_getElem (show k < x.length by omega)]
      have e2 : y.getD k 0 = y[k] := by simp [List.getD_eq_getElem?_getD, List.getElem?_eq_getElem (show k < y.length by omega)]
      omega
  · by_cases c1 : x.length < y.length
    · simp (disch := first | assumption | (apply Ap.symm; assumption) | omega | decide | (simp only [Xd] <;> omega)) only [ac194, c0, c1, rs194, ↓Xa, Xb, Xc, ↓reduceIte, Nat.reduceLT, Nat.reduceEqDiff, Nat.reduceBEq, Nat.reduceLeDiff, Nat.reduceAdd, Nat.reduceMul]
      exact less (lt1 c1)
    · simp (disch := first | assumption | (apply Ap.symm; assumption) | omega | decide | (simp only [Xd] <;> omega)) only [ac194, c0, c1, rs194, ↓Xa, Xb, Xc, ↓reduceIte, Nat.reduceLT, Nat.reduceEqDiff, Nat.reduceBEq, Nat.reduceLeDiff, Nat.reduceAdd, Nat.reduceMul]
      exact more (lt2 (by omega))

end Go.Proofs.YtanchgkiomfhhaaDoor.Fw

/- What the reference computes of whole numbers: sums, differences, products. -/
namespace Go.Proofs.YtanchgkiomfhhaaDoor.Fw
set_option linter.unusedSimpArgs false
set_option linter.unusedVariables false
open Go Go.Proofs.YtanchgkiomfhhaaDoor.Ma
set_option maxRecDepth 20000

end Go.Proofs.YtanchgkiomfhhaaDoor.Fw

/- The laws' own helpers: one number in both, numbers that are too long, one answer that is fixed. -/
namespace Go.Proofs.YtanchgkiomfhhaaDoor.Fw
set_option linter.unusedSimpArgs false
set_option linter.unusedVariables false
open Go Go.Proofs.YtanchgkiomfhhaaDoor.Ma
set_option maxRecDepth 20000

def NumA (q : Bool × List Nat × Bool) : AV := .agg [.bool q.1, LS q.2.1 q.2.2]
def NumC : List (Bool × List Nat × Bool) → List AV
  | [] => []
  | q :: r => .bool q.1 :: LS q.2.1 q.2.2 :: NumC r
def fits (x : Int) : Bool := decide (-9223372036854775808 ≤ x ∧ x < 9223372036854775808)
def smallV (x : Int) : Int := if fits x then x else ((0 : Nat) : Int)
end Go.Proofs.YtanchgkiomfhhaaDoor.Fw

/- The law of sums, as what its code computes: true. -/
namespace Go.Proofs.YtanchgkiomfhhaaDoor.Fw
set_option linter.unusedSimpArgs false
set_option linter.unusedVariables false
open Go Go.Proofs.YtanchgkiomfhhaaDoor.Ma
set_option maxRecDepth 20000

end Go.Proofs.YtanchgkiomfhhaaDoor.Fw

/- Sums and products of rows of whole numbers. -/
namespace Go.Proofs.YtanchgkiomfhhaaDoor.Fw
set_option linter.unusedSimpArgs false
set_option linter.unusedVariables false
open Go Go.Proofs.YtanchgkiomfhhaaDoor.Ma
set_option maxRecDepth 20000

def IntC : List Int → List AV
  | [] => []
  | z :: r => .bool (decide (z < 0)) :: LS (digs 4294967296 z.natAbs) true :: IntC r
section
variable {l : List Int} {t : Bool} {H : AHeap} {K : AV → Prop}
end
end Go.Proofs.YtanchgkiomfhhaaDoor.Fw

/- The ring's law, as what its code computes: true. -/
namespace Go.Proofs.YtanchgkiomfhhaaDoor.Fw
set_option linter.unusedSimpArgs false
set_option linter.unusedVariables false
open Go Go.Proofs.YtanchgkiomfhhaaDoor.Ma
set_option maxRecDepth 20000

end Go.Proofs.YtanchgkiomfhhaaDoor.Fw

/- Binary digits; powers. -/
namespace Go.Proofs.YtanchgkiomfhhaaDoor.Fw
set_option linter.unusedSimpArgs false
set_option linter.unusedVariables false
open Go Go.Proofs.YtanchgkiomfhhaaDoor.Ma
set_option maxRecDepth 20000

theorem rbits0_fn (n : Nat) (t : Bool) (hn : (digs 65536 n).length ≤ 1099511627776) : PFn Tryd.prog 192 [LS (digs 65536 n) t] (.int .i64 ((blen n : Nat) : Int)) := by
  intro H Q hq
  refine enter192 (by simp) ?_
  rcases Nat.eq_zero_or_pos n with e | e
  · subst e
    rw [digs_zero] at *
    simp (disch := first | assumption | (apply Ap.symm; assumption) | omega | decide | (simp only [Xd] <;> omega)) only [ac192, rs192, ↓Xa, Xb, Xc, ↓reduceIte, Nat.reduceLT, Nat.reduceEqDiff, Nat.reduceBEq, Nat.reduceLeDiff, Nat.reduceAdd, Nat.reduceMul]
    exact SetR.now hq
  · have hp : 0 < (digs 65536 n).length := by rw [digs_pos (by omega) e]; simp
    have hne : ((digs 65536 n).length = 0) = False := eq_false (by omega)
    have hb := blen_digs (w := 16) (by omega) e
    have hlim := (lim_digs (B := 65536) (by omega) n).getD (by omega) ((digs 65536 n).length - 1)
    have hb16 : blen ((digs 65536 n).getD ((digs 65536 n).length - 1) 0) ≤ 16 := blen_le.2 (by omega)
    change blen n = 16 * ((digs 65536 n).length - 1) + blen ((digs 65536 n).getD ((digs 65536 n).length - 1) 0) at hb
    simp (disch := first | assumption | (apply Ap.symm; assumption) | omega | decide | (simp only [Xd] <;> omega)) only [ac192, hne, ↓Xa, Xb, Xc, ↓reduceIte, Nat.reduceLT, Nat.reduceEqDiff, Nat.reduceBEq, Nat.reduceLeDiff, Nat.reduceAdd, Nat.reduceMul]
    refine W_loop (fun s : Nat × Nat => ⟨[], [(3, .int .i64 s.1), (4, .int .u32 s.2)], H⟩) (fun s => s.1 + blen s.2 = blen n ∧ s.2 < 65536) (fun s => s.2)
      (16 * ((digs 65536 n).length - 1), (digs 65536 n).getD ((digs 65536 n).length - 1) 0) (Settle.now rfl) ⟨hb.symm, hlim⟩ ?_
    rintro ⟨m, u⟩ ⟨h1, h2⟩
    dsimp only at h1 h2 ⊢
    have hbn : blen n ≤ 16 * 1099511627776 + 16 := by omega
    by_cases h0 : 0 < u
    · have hh := blen_half h0
      simp (disch := first | assumption | (apply Ap.symm; assumption) | omega | decide | (simp only [Xd] <;> omega)) only [h0, ne_eq, Nat.reduceEqDiff, ↓Xa, Xb, Xc, ↓reduceIte, Nat.reduceLT, Nat.reduceEqDiff, Nat.reduceBEq, Nat.reduceLeDiff, Nat.reduceAdd, Nat.reduceMul]
      refine Settle.now ⟨(m + 1, u / 2), by dsimp only; omega, ⟨by dsimp only; omega, by dsimp only; omega⟩, rfl⟩
    · obtain rfl : u = 0 := by omega
      rw [blen_zero, Nat.add_zero] at h1
      simp (disch := first | assumption | (apply Ap.symm; assumption) | omega | decide | (simp only [Xd] <;> omega)) only [h0, ↓Xa, Xb, Xc, ↓reduceIte, Nat.reduceLT, Nat.reduceEqDiff, Nat.reduceBEq, Nat.reduceLeDiff, Nat.reduceAdd, Nat.reduceMul]
      refine Settle.now ?_
      simp (disch := first | assumption | (apply Ap.symm; assumption) | omega | decide | (simp only [Xd] <;> omega)) only [rs192, ↓Xa, Xb, Xc, ↓reduceIte, Nat.reduceLT, Nat.reduceEqDiff, Nat.reduceBEq, Nat.reduceLeDiff, Nat.reduceAdd, Nat.reduceMul]
      rw [h1]
      exact SetR.now hq

theorem sgn_neq0 {x : Int} {K : AV → Prop} : binW .neq (.int .i64 (sgnI x)) (.int .i64 ((0 : Nat) : Int)) K ↔ K (.bool (!decide (x = 0))) := by
  have : (sgnI x = ((0 : Nat) : Int)) ↔ x = 0 := by unfold sgnI; split <;> simp_all; split <;> omega
  simp only [binW, binInt, true_and, this]
end Go.Proofs.YtanchgkiomfhhaaDoor.Fw

/- Powers, as the program and the reference have them. -/
namespace Go.Proofs.YtanchgkiomfhhaaDoor.Fw
set_option linter.unusedSimpArgs false
set_option linter.unusedVariables false
open Go Go.Proofs.YtanchgkiomfhhaaDoor.Ma
set_option maxRecDepth 20000

end Go.Proofs.YtanchgkiomfhhaaDoor.Fw

/- The law of powers, as what its code computes: true. -/
namespace Go.Proofs.YtanchgkiomfhhaaDoor.Fw
set_option linter.unusedSimpArgs false
set_option linter.unusedVariables false
open Go Go.Proofs.YtanchgkiomfhhaaDoor.Ma
set_option maxRecDepth 20000

def RefB (z : Int) : AV := .bool (decide (z < 0))
def RefD (z : Int) : AV := LS (digs 65536 z.natAbs) false
theorem cells_RefA {z : Int} : (RefA z false).cells = some [RefB z, RefD z] := id rfl
theorem fold_RefA {z : Int} : AV.agg [RefB z, RefD z] = RefA z false := id rfl

theorem Bd.blen {z : Int} {k : Nat} (h : Bd k z) : Ma.blen z.natAbs ≤ 32 * k := by rw [blen_le, Nat.pow_mul]; exact h
end Go.Proofs.YtanchgkiomfhhaaDoor.Fw

/- Quotients and remainders of whole numbers, as the program has them. -/
namespace Go.Proofs.YtanchgkiomfhhaaDoor.Fw
set_option linter.unusedSimpArgs false
set_option linter.unusedVariables false
open Go Go.Proofs.YtanchgkiomfhhaaDoor.Ma
set_option maxRecDepth 20000

end Go.Proofs.YtanchgkiomfhhaaDoor.Fw

/- The framework, part W: a row of one's own, taken up anew at its shorter length; rows that grow, also from nothing of one's own. -/
namespace Go.Proofs.YtanchgkiomfhhaaDoor.Fw
set_option linter.unusedSimpArgs false
set_option linter.unusedVariables false
open Go Go.Proofs.YtanchgkiomfhhaaDoor.Ma

def Ctx.renew (c : Ctx) (b b' : Nat) (x : ABlk) : Ctx := { c with μ := fun i => if i = b' then c.μ b else c.μ i, U := fun i => c.U i ∨ i = b', H := (c.H.upd b none).upd b' (some x) }

theorem Ctx.renew_H {c : Ctx} {b b' i : Nat} {x y : ABlk} (h : (c.renew b b' x).H i = some y) : (i = b' ∧ y = x) ∨ (i ≠ b' ∧ i ≠ b ∧ c.H i = some y) := by
  have h2 : ((c.H.upd b none).upd b' (some x)) i = some y := h
  rcases upd_some h2 with ⟨e, e2⟩ | ⟨e, e2⟩
  · injection e2 with e2; exact .inl ⟨e, e2.symm⟩
  · rcases upd_some e2 with ⟨_, e4⟩ | ⟨e3, e4⟩
    · cases e4
    · exact .inr ⟨e, e3, e4⟩

theorem Ctx.renew_later {c : Ctx} {b b' : Nat} {x : ABlk} (hb : ABlk.mut (c.H b)) (hU : ¬ c.U b') (hR : ¬ c.R b') : Later c (c.renew b b' x) := by
  refine ⟨⟨Nat.le_refl _, rfl, rfl, rfl, fun _ h => .inl h, ?_, ?_⟩, fun i h => ⟨h, fun k => k.resolve_right fun e => hR (e ▸ h)⟩⟩
  · intro i x' hi hx
    rcases Ctx.renew_H hx with ⟨e, _⟩ | ⟨e, _, e2⟩
    · exact absurd (e ▸ hi) hU
    · refine ⟨x', e2, Nat.le_refl _, fun _ => ⟨if_neg e, fun _ _ cells e' => ⟨cells, e', fun arr h => ⟨arr, ?_, rfl⟩⟩⟩⟩
      show c.w.heap[if i = b' then c.μ b else c.μ i]? = _
      rw [if_neg e]; exact h
  · rintro k _ hm
    refine ⟨rfl, fun ⟨i, hi, e⟩ => hm ?_⟩
    have e' : (if i = b' then c.μ b else c.μ i) = k := e
    cases hy : (c.renew b b' x).H i with
    | none => rw [hy] at hi; exact hi.elim
    | some y =>
      rw [hy] at hi
      rcases Ctx.renew_H hy with ⟨e1, _⟩ | ⟨e1, _, e2⟩
      · rw [if_pos e1] at e'; exact ⟨b, hb, e'⟩
      · rw [if_neg e1] at e'; exact ⟨i, by rw [e2]; exact hi, e'⟩

theorem Ctx.renew_ok {c : Ctx} (hok : Ok c) {b b' ty es m : Nat} {cells : List AV} (hb : c.H b = some (.row ty es cells)) (hU : ¬ c.U b') (hR : ¬ c.R b') : Ok (c.renew b b' (.row ty es (cells.take m))) := by
  have hbn : c.H b ≠ none := by rw [hb]; simp
  have later := Ctx.renew_later (x := .row ty es (cells.take m)) (mut_row hb) hU hR
  have get : ∀ i, (c.renew b b' (.row ty es (cells.take m))).H i ≠ none → i = b' ∨ (i ≠ b' ∧ i ≠ b ∧ c.H i ≠ none) := by
    intro i hi
    obtain ⟨y, hy⟩ := Option.ne_none_iff_exists'.1 hi
    rcases Ctx.renew_H hy with ⟨e1, _⟩ | ⟨e1, e2, e3⟩
    · exact .inl e1
    · exact .inr ⟨e1, e2, by rw [e3]; simp⟩
  refine ⟨?_, ?_, ?_, ?_⟩
  · intro i hi
    rcases get i hi with e | ⟨_, _, e⟩
    · exact .inr e
    · exact .inl (hok.used i e)
  · obtain ⟨M, hM⟩ := hok.fin
    refine ⟨M + b' + 1, fun i hi => ?_⟩
    rcases hi with (h | h) | h
    · have := hM i (.inl h); omega
    · omega
    · have := hM i (.inr h); omega
  · intro i j hi hj e
    have e' : (if i = b' then c.μ b else c.μ i) = (if j = b' then c.μ b else c.μ j) := e
    rcases get i hi with e1 | ⟨e1, e2, e3⟩ <;> rcases get j hj with f1 | ⟨f1, f2, f3⟩
    · rw [e1, f1]
    · rw [if_pos e1, if_neg f1] at e'
      exact absurd (hok.inj j b f3 hbn e'.symm) f2
    · rw [if_neg e1, if_pos f1] at e'
      exact absurd (hok.inj i b e3 hbn e') e2
    · rw [if_neg e1, if_neg f1] at e'
      exact hok.inj i j e3 f3 e'
  · intro i y hy
    rcases Ctx.renew_H hy with ⟨rfl, rfl⟩ | ⟨e1, _, e3⟩
    · obtain ⟨arr, g1, g2, g3⟩ := hok.blk b _ hb
      refine ⟨arr, ?_, by rw [List.length_take]; omega, fun k hk hk' => ?_⟩
      · show c.w.heap[if i = i then c.μ b else c.μ i]? = _
        rw [if_pos rfl]; exact g1
      · have hk2 : k < cells.length := by rw [List.length_take] at hk; omega
        have := (g3 k hk2 hk').later later
        rw [List.getElem_take]; exact this
    · exact (hok.blk i y e3).later later (if_neg e1) rfl

theorem Settle.renew {K : St → Prop} {D : List Nat} {E : Env} {H : AHeap} (t : Nat) {b L n ty : Nat} {ti : Bool} {l : List Nat} (he : E.get t = .own b L 0 n ti) (hH : H b = some (.row ty 1 (U l))) (hL : l.length = L) (hn : n ≤ L)
    (h : ∀ b', (H.upd b none) b' = none → Settle K ⟨D, E.set t (.own b' n 0 n false), (H.upd b none).upd b' (some (.row ty 1 (U (l.take n))))⟩) : Settle K ⟨D, E, H⟩ := by
  refine Settle.join ?_
  intro N c a hc hok hr
  have hc' : c.H = H := hc
  subst hc'
  obtain ⟨M, hM⟩ := hok.fin
  have hU : ¬ c.U M := fun k => by have := hM M (.inl k); omega
  have hR : ¬ c.R M := fun k => by have := hM M (.inr k); omega
  have hbn : c.H b ≠ none := by rw [hH]; simp
  have hbM : M ≠ b := fun e => hU (e ▸ hok.used b hbn)
  have later := Ctx.renew_later (b' := M) (x := .row ty 1 ((U l).take n)) (mut_row hH) hU hR
  have hfree : (c.H.upd b none) M = none := by
    rw [upd_other _ _ hbM]
    cases e : c.H M with
    | none => rfl
    | some x => exact absurd (hok.used M (by rw [e]; simp)) hU
  have hk := h M hfree
  rw [U_take] at hk
  refine ⟨c.renew b M (.row ty 1 ((U l).take n)), _, rfl, rfl, Ctx.renew_ok hok hH hU hR, ?_, later, hk⟩
  have hr' := hr.later later
  refine ⟨hr'.size, fun u => ?_, hr'.dlen, hr'.dmark⟩
  show Enc _ (Env.get (E.set t (.own M n 0 n false)) u) _
  rw [Env.get_set]
  split
  · rename_i e; subst e
    have := hr.tmp u
    rw [show E.get u = _ from he] at this
    generalize a.tmps.getD u undef = v at this
    cases this with
    | own _ _ _ _ _ _ hs hb0 hL0 hv =>
      refine .own M n 0 n false v hs (.inr rfl) (fun x hx => ?_) (fun ty' es' cells' hx _ => ?_)
      · have hx2 : ((c.H.upd b none).upd M (some (.row ty 1 ((U l).take n)))) M = some x := hx
        rw [upd_same] at hx2
        injection hx2 with hx2
        subst hx2
        show n ≤ ((U l).take n).length
        rw [List.length_take, U_len]; omega
      · have hx2 : ((c.H.upd b none).upd M (some (.row ty 1 ((U l).take n)))) M = some (.row ty' es' cells') := hx
        rw [upd_same] at hx2
        injection hx2 with hx2
        injection hx2 with q1 q2 q3
        subst q1; subst q2
        obtain ⟨base, cap, arr, g1, g2, g3, g4, _, g6, g7⟩ := hv ty 1 (U l) hH (by rw [U_len]; exact hL)
        refine ⟨base, cap, arr, g1, ?_, g3, g4, (fun e => absurd e (by simp)), ?_, g7⟩
        · show cap = 0 ∨ base = some ⟨if M = M then c.μ b else c.μ M, 0, none⟩
          rw [if_pos rfl]; exact g2
        · show c.w.heap[if M = M then c.μ b else c.μ M]? = _
          rw [if_pos rfl]; exact g6
  · exact hr'.tmp u

def growO (H0 : AHeap) (ty : Nat) (l : List Nat) (x : AV) (H : AHeap) : Prop :=
  (l = [] ∧ x = .seq 0 [] true ∧ H = H0) ∨ (∃ b, H0 b = none ∧ x = .own b l.length 0 l.length false ∧ H = H0.upd b (some (.row ty 1 (U l))))
theorem grow.toO {H0 H : AHeap} {ty : Nat} {l : List Nat} {x : AV} (h : grow H0 ty l x H) : growO H0 ty l x H := by
  rcases h with h | ⟨_, h⟩
  · exact .inl h
  · exact .inr h
theorem appO {H0 H : AHeap} {ty n : Nat} {l m : List Nat} {x : AV} {t : Bool} {K : AV → AHeap → Prop} (h : growO H0 ty l x H) (hn : n = m.length) (hm : m ≠ []) (hb : l.length + m.length ≤ 17592186044416)
    (k : ∀ x' H', growO H0 ty (l ++ m) x' H' → K x' H') : appV H ty 1 4 x (.seq n (U m) t) K := by
  rcases h with ⟨rfl, rfl, rfl⟩ | ⟨b, hb', rfl, rfl⟩
  · exact app_grow grow_nil hn hm hb fun x' H' g => k x' H' g.toO
  · by_cases hl : l = []
    · subst hl; subst hn
      refine .inl ⟨by simp, U_cell m, ?_⟩
      dsimp only
      rw [upd_same]
      simp only [List.length_nil] at hb
      refine ⟨by simp, rfl, by simp, rfl, rfl, by simp only [List.length_nil]; omega, by simp only [List.length_nil]; omega, ?_⟩
      refine k _ _ (.inr ⟨b, hb', ?_, ?_⟩)
      · simp
      · rw [upd_upd, U_app]
    · exact app_grow (.inr ⟨hl, b, hb', rfl, rfl⟩) hn hm hb fun x' H' g => k x' H' g.toO
theorem Settle.grownO {K : St → Prop} {D : List Nat} {E : Env} {H0 H : AHeap} {ty : Nat} {l : List Nat} {x : AV} (t : Nat) (he : E.get t = x) (h : growO H0 ty l x H) (k : Settle K ⟨D, E.set t (LS l false), H0⟩) : Settle K ⟨D, E, H⟩ := by
  rcases h with ⟨rfl, rfl, rfl⟩ | ⟨b, hb, rfl, rfl⟩
  · refine Settle.loose t ?_
    rw [he]; exact k
  · refine Settle.freeze t he (upd_same _ _ _) (by simp) (.inr (by simp)) ?_
    rw [upd_upd, upd_back _ hb]
    have e : AV.seq l.length (((U l).drop 0).take (l.length * 1)) false = LS l false := by simp [LS, List.take_of_length_le]
    rw [e]; exact k
end Go.Proofs.YtanchgkiomfhhaaDoor.Fw

/- What the reference computes on rows of one's own: comparing, taking away, striking high noughts. -/
namespace Go.Proofs.YtanchgkiomfhhaaDoor.Fw
set_option linter.unusedSimpArgs false
set_option linter.unusedVariables false
open Go Go.Proofs.YtanchgkiomfhhaaDoor.Ma
set_option maxRecDepth 20000

theorem cells_o2 {b : Bool} {bb L off n : Nat} {t : Bool} : (AV.agg [.bool b, .own bb L off n t]).cells = some [.bool b, .own bb L off n t] := id rfl
theorem size_own {H : AHeap} {Q : AV → AHeap → Prop} {bb ty L : Nat} (m n : Nat) (ta tb : Bool) (hH : H bb = some (.row ty 1 (U (digs 65536 m)))) (hL : (digs 65536 m).length = L) (hq : Q (.int .i64 (cmpZ m n)) H) (hm : (digs 65536 m).length ≤ 1099511627776) (hn : (digs 65536 n).length ≤ 1099511627776) : Run Tryd.prog 194 [.own bb L 0 L ta, LS (digs 65536 n) tb] H Q := by
  subst hL
  have hx := lim_digs (B := 65536) (by omega) m
  have hy := lim_digs (B := 65536) (by omega) n
  have vx := val_digs (B := 65536) (by omega) m
  have vy := val_digs (B := 65536) (by omega) n
  have lt1 := digs_lt_len (B := 65536) (a := m) (b := n) (by omega)
  have lt2 := digs_lt_len (B := 65536) (a := n) (b := m) (by omega)
  generalize digs 65536 m = x at *
  generalize digs 65536 n = y at *
  have less : m < n → SetR Q (.int .i64 (-1)) H := fun h => by
    have : cmpZ m n = -1 := by simp [cmpZ, h]
    rw [← this]; exact SetR.now hq
  have more : n < m → SetR Q (.int .i64 ((1 : Nat) : Int)) H := fun h => by
    have : cmpZ m n = ((1 : Nat) : Int) := by simp [cmpZ, h, Nat.not_lt_of_lt h]
    rw [← this]; exact SetR.now hq
  refine enter194 (by simp) ?_
  by_cases c0 : x.length = y.length
  · have c0' := c0
    simp (disch := first | assumption | (apply Ap.symm; assumption) | omega | decide | (simp only [Xd] <;> omega)) only [ac194, c0, ↓Xa, Xb, Xc, ↓reduceIte, Nat.reduceLT, Nat.reduceEqDiff, Nat.reduceBEq, Nat.reduceLeDiff, Nat.reduceAdd, Nat.reduceMul]
    refine W_loop (fun k : Nat => ⟨[], [(0, .own bb y.length 0 y.length ta), (1, LS y tb), (5, .int .i64 (dn k))], H⟩) (fun k => k ≤ x.length ∧ x.drop k = y.drop k) id y.length (Settle.now rfl) ⟨by omega, by rw [List.drop_of_length_le (by omega), List.drop_of_length_le (by omega)]⟩ ?_
    rintro k ⟨hk, hd⟩
    cases k with
    | zero =>
      simp (disch := first | assumption | (apply Ap.symm; assumption) | omega | decide | (simp only [Xd] <;> omega)) only [hH, ↓Xa, Xb, Xc, ↓reduceIte, Nat.reduceLT, Nat.reduceEqDiff, Nat.reduceBEq, Nat.reduceLeDiff, Nat.reduceAdd, Nat.reduceMul]
      refine Settle.now ?_
      simp (disch := first | assumption | (apply Ap.symm; assumption) | omega | decide | (simp only [Xd] <;> omega)) only [hH, rs194, ↓Xa, Xb, Xc, ↓reduceIte, Nat.reduceLT, Nat.reduceEqDiff, Nat.reduceBEq, Nat.reduceLeDiff, Nat.reduceAdd, Nat.reduceMul]
      have e : m = n := by rw [← vx, ← vy]; rw [List.drop_zero, List.drop_zero] at hd; rw [hd]
      have : cmpZ m n = ((0 : Nat) : Int) := by simp [cmpZ, e]
      rw [← this]; exact SetR.now hq
    | succ k =>
      by_cases d1 : x.getD k 0 < y.getD k 0
      · simp (disch := first | assumption | (apply Ap.symm; assumption) | omega | decide | (simp only [Xd] <;> omega)) only [hH, d1, rs194, ↓Xa, Xb, Xc, ↓reduceIte, Nat.reduceLT, Nat.reduceEqDiff, Nat.reduceBEq, Nat.reduceLeDiff, Nat.reduceAdd, Nat.reduceMul]
        exact less (by rw [← vx, ← vy]; exact val_lt_high hx (by omega) k (by omega) c0 hd d1)
      by_cases d2 : y.getD k 0 < x.getD k 0
      · simp (disch := first | assumption | (apply Ap.symm; assumption) | omega | decide | (simp only [Xd] <;> omega)) only [hH, d1, d2, rs194, ↓Xa, Xb, Xc, ↓reduceIte, Nat.reduceLT, Nat.reduceEqDiff, Nat.reduceBEq, Nat.reduceLeDiff, Nat.reduceAdd, Nat.reduceMul]
        exact more (by rw [← vx, ← vy]; exact val_lt_high hy (by omega) k (by omega) c0.symm hd.symm d2)
      simp (disch := first | assumption | (apply Ap.symm; assumption) | omega | decide | (simp only [Xd] <;> omega)) only [hH, d1, d2, ↓Xa, Xb, Xc, ↓reduceIte, Nat.reduceLT, Nat.reduceEqDiff, Nat.reduceBEq, Nat.reduceLeDiff, Nat.reduceAdd, Nat.reduceMul]
      refine Settle.now ⟨k, Nat.lt_succ_self k, ⟨by omega, ?_⟩, rfl⟩
      rw [List.drop_eq_getElem_cons (by omega), List.drop_eq_getElem_cons (i := k) (l := y) (by omega), hd]
      congr 1
      have e1 : x.getD k 0 = x[k] := by simp [List.getD_eq_getElem?_getD, List.getElem?_eq_getElem (show k < x.length by omega)]
      have e2 : y.getD k 0 = y[k] := by simp [List.getD_eq_getElem?_getD, List.getElem?_eq_getElem (show k < y.length by omega)]
      omega
  · by_cases c1 : x.length < y.length
    · simp (disch := first | assumption | (apply Ap.symm; assumption) | omega | decide | (simp only [Xd] <;> omega)) only [hH, ac194, c0, c1, rs194, ↓Xa, Xb, Xc, ↓reduceIte, Nat.reduceLT, Nat.reduceEqDiff, Nat.reduceBEq, Nat.reduceLeDiff, Nat.reduceAdd, Nat.reduceMul]
      exact less (lt1 c1)
    · simp (disch := first | assumption | (apply Ap.symm; assumption) | omega | decide | (simp only [Xd] <;> omega)) only [hH, ac194, c0, c1, rs194, ↓Xa, Xb, Xc, ↓reduceIte, Nat.reduceLT, Nat.reduceEqDiff, Nat.reduceBEq, Nat.reduceLeDiff, Nat.reduceAdd, Nat.reduceMul]
      exact more (lt2 (by omega))

theorem minus_own {H : AHeap} {Q : AV → AHeap → Prop} {bb ty L : Nat} (m n : Nat) (ta tb : Bool) (hH : H bb = some (.row ty 1 (U (digs 65536 m)))) (hL : (digs 65536 m).length = L) (hq : ∀ x H', grow H 172 (pad 65536 (m - n) (digs 65536 m).length) x H' → Q x H') (hmn : n ≤ m) (hm : (digs 65536 m).length ≤ 1099511627776) : Run Tryd.prog 195 [.own bb L 0 L ta, LS (digs 65536 n) tb] H Q := by
  subst hL
  have la := lim_digs (B := 65536) (by omega) m
  have lb := lim_digs (B := 65536) (by omega) n
  have va := val_digs (B := 65536) (by omega) m
  have vb := val_digs (B := 65536) (by omega) n
  have hlb : (digs 65536 n).length ≤ (digs 65536 m).length := by
    rcases Nat.lt_or_ge (digs 65536 m).length (digs 65536 n).length with h | h
    · have := digs_lt_len (by omega) h; omega
    · exact h
  refine enter195 (by simp) ?_
  simp (disch := first | assumption | (apply Ap.symm; assumption) | omega | decide | (simp only [Xd] <;> omega)) only [ac195, ↓Xa, Xb, Xc, ↓reduceIte, Nat.reduceLT, Nat.reduceEqDiff, Nat.reduceBEq, Nat.reduceLeDiff, Nat.reduceAdd, Nat.reduceMul]
  refine W_loop (fun s : Nat × Nat × List Nat × AV × AHeap => ⟨[], [(0, .own bb (digs 65536 m).length 0 (digs 65536 m).length ta), (1, LS (digs 65536 n) tb), (5, s.2.2.2.1), (6, .int .u32 s.2.1), (7, .int .i64 s.1)], s.2.2.2.2⟩)
    (fun s => s.1 ≤ (digs 65536 m).length ∧ grow H 172 s.2.2.1 s.2.2.2.1 s.2.2.2.2 ∧ MinI (digs 65536 m) (digs 65536 n) s.1 s.2.1 s.2.2.1) (fun s => (digs 65536 m).length - s.1)
    (0, 0, [], _, _) (Settle.now rfl) ⟨by simp, grow_nil, MinI.zero _ _⟩ ?_
  rintro ⟨i, c, done, x, H'⟩ ⟨g0, hg, h1⟩
  dsimp only at g0 hg h1 ⊢
  have hold := grow_old hg hH
  have hd := h1.1
  have hc := h1.2.2.1
  have hx := la.getD (by omega) i
  have hy := lb.getD (by omega) i
  by_cases hi : i < (digs 65536 m).length
  · by_cases hj : i < (digs 65536 n).length
    · by_cases hv : (digs 65536 m).getD i 0 < c + (digs 65536 n).getD i 0
      · simp (disch := first | assumption | (apply Ap.symm; assumption) | omega | decide | (simp only [Xd] <;> omega)) only [hold, hi, hj, hv, ↓Xa, Xb, Xc, ↓reduceIte, Nat.reduceLT, Nat.reduceEqDiff, Nat.reduceBEq, Nat.reduceLeDiff, Nat.reduceAdd, Nat.reduceMul]
        refine app_grow (m := [(digs 65536 m).getD i 0 + 65536 - (c + (digs 65536 n).getD i 0)]) hg rfl (by simp) (by simp; omega) fun x' H2 hg2 => ?_
        have hold2 := grow_old hg2 hH
        simp (disch := first | assumption | (apply Ap.symm; assumption) | omega | decide | (simp only [Xd] <;> omega)) only [↓Xa, Xb, Xc, ↓reduceIte, Nat.reduceLT, Nat.reduceEqDiff, Nat.reduceBEq, Nat.reduceLeDiff, Nat.reduceAdd, Nat.reduceMul]
        refine Settle.now ⟨(i + 1, 1, _, _, _), by dsimp only; omega, ⟨by dsimp only; omega, hg2, h1.step (c' := 1) (by omega) rfl (by omega) (by omega)⟩, rfl⟩
      · simp (disch := first | assumption | (apply Ap.symm; assumption) | omega | decide | (simp only [Xd] <;> omega)) only [hold, hi, hj, hv, ↓Xa, Xb, Xc, ↓reduceIte, Nat.reduceLT, Nat.reduceEqDiff, Nat.reduceBEq, Nat.reduceLeDiff, Nat.reduceAdd, Nat.reduceMul]
        refine app_grow (m := [(digs 65536 m).getD i 0 - (c + (digs 65536 n).getD i 0)]) hg rfl (by simp) (by simp; omega) fun x' H2 hg2 => ?_
        have hold2 := grow_old hg2 hH
        simp (disch := first | assumption | (apply Ap.symm; assumption) | omega | decide | (simp only [Xd] <;> omega)) only [↓Xa, Xb, Xc, ↓reduceIte, Nat.reduceLT, Nat.reduceEqDiff, Nat.reduceBEq, Nat.reduceLeDiff, Nat.reduceAdd, Nat.reduceMul]
        refine Settle.now ⟨(i + 1, 0, _, _, _), by dsimp only; omega, ⟨by dsimp only; omega, hg2, h1.step (c' := 0) (by omega) rfl (by omega) (by omega)⟩, rfl⟩
    · have b := getD_beyond (show (digs 65536 n).length ≤ i by omega)
      by_cases hv : (digs 65536 m).getD i 0 < c
      · simp (disch := first | assumption | (apply Ap.symm; assumption) | omega | decide | (simp only [Xd] <;> omega)) only [hold, hi, hj, hv, ↓Xa, Xb, Xc, ↓reduceIte, Nat.reduceLT, Nat.reduceEqDiff, Nat.reduceBEq, Nat.reduceLeDiff, Nat.reduceAdd, Nat.reduceMul]
        refine app_grow (m := [(digs 65536 m).getD i 0 + 65536 - c]) hg rfl (by simp) (by simp; omega) fun x' H2 hg2 => ?_
        have hold2 := grow_old hg2 hH
        simp (disch := first | assumption | (apply Ap.symm; assumption) | omega | decide | (simp only [Xd] <;> omega)) only [↓Xa, Xb, Xc, ↓reduceIte, Nat.reduceLT, Nat.reduceEqDiff, Nat.reduceBEq, Nat.reduceLeDiff, Nat.reduceAdd, Nat.reduceMul]
        refine Settle.now ⟨(i + 1, 1, _, _, _), by dsimp only; omega, ⟨by dsimp only; omega, hg2, h1.step (c' := 1) (by omega) rfl (by omega) (by omega)⟩, rfl⟩
      · simp (disch := first | assumption | (apply Ap.symm; assumption) | omega | decide | (simp only [Xd] <;> omega)) only [hold, hi, hj, hv, ↓Xa, Xb, Xc, ↓reduceIte, Nat.reduceLT, Nat.reduceEqDiff, Nat.reduceBEq, Nat.reduceLeDiff, Nat.reduceAdd, Nat.reduceMul]
        refine app_grow (m := [(digs 65536 m).getD i 0 - c]) hg rfl (by simp) (by simp; omega) fun x' H2 hg2 => ?_
        have hold2 := grow_old hg2 hH
        simp (disch := first | assumption | (apply Ap.symm; assumption) | omega | decide | (simp only [Xd] <;> omega)) only [↓Xa, Xb, Xc, ↓reduceIte, Nat.reduceLT, Nat.reduceEqDiff, Nat.reduceBEq, Nat.reduceLeDiff, Nat.reduceAdd, Nat.reduceMul]
        refine Settle.now ⟨(i + 1, 0, _, _, _), by dsimp only; omega, ⟨by dsimp only; omega, hg2, h1.step (c' := 0) (by omega) rfl (by omega) (by omega)⟩, rfl⟩
  · obtain rfl : i = (digs 65536 m).length := by omega
    simp (disch := first | assumption | (apply Ap.symm; assumption) | omega | decide | (simp only [Xd] <;> omega)) only [hold, hi, ↓Xa, Xb, Xc, ↓reduceIte, Nat.reduceLT, Nat.reduceEqDiff, Nat.reduceBEq, Nat.reduceLeDiff, Nat.reduceAdd, Nat.reduceMul]
    refine Settle.now ?_
    simp (disch := first | assumption | (apply Ap.symm; assumption) | omega | decide | (simp only [Xd] <;> omega)) only [rs195, ↓Xa, Xb, Xc, ↓reduceIte, Nat.reduceLT, Nat.reduceEqDiff, Nat.reduceBEq, Nat.reduceLeDiff, Nat.reduceAdd, Nat.reduceMul]
    have e := h1.end la hlb (by omega)
    rw [va, vb] at e
    rw [e] at hg
    exact SetR.now (hq _ _ hg)

theorem rnorm_own {H : AHeap} {Q : AV → AHeap → Prop} {bb ty L : Nat} {l : List Nat} (neg t : Bool) (hH : H bb = some (.row ty 1 (U l))) (hL : l.length = L) (hq : ∀ ti, Q (.agg [.bool (neg && decide (0 < (tr l).length)), .own bb L 0 (tr l).length ti]) H) (hl : Lim 65536 l) (hn : l.length ≤ 8796093022208) : Run Tryd.prog 139 [.bool neg, .own bb L 0 L t] H Q := by
  subst hL
  refine enter139 (by simp) ?_
  simp (disch := first | assumption | (apply Ap.symm; assumption) | omega | decide | (simp only [Xd] <;> omega)) only [ac139, ↓Xa, Xb, Xc, ↓reduceIte, Nat.reduceLT, Nat.reduceEqDiff, Nat.reduceBEq, Nat.reduceLeDiff, Nat.reduceAdd, Nat.reduceMul]
  refine alloc_i fun p hp => ?_
  have hAp : Ap bb p := fun e => by rw [e, hp] at hH; cases hH
  simp (disch := first | assumption | (apply Ap.symm; assumption) | omega | decide | (simp only [Xd] <;> omega)) only [↓Xa, Xb, Xc, ↓reduceIte, Nat.reduceLT, Nat.reduceEqDiff, Nat.reduceBEq, Nat.reduceLeDiff, Nat.reduceAdd, Nat.reduceMul]
  refine W_loop (fun n : Nat => ⟨[], [(0, .bool neg), (1, .own bb l.length 0 l.length t), (4, .ptr p 2 0), (5, .int .i64 n)], H.upd p (some (.row 39 0 [.bool false, .seq 0 [] true]))⟩) (fun n => n ≤ l.length ∧ ∀ i, n ≤ i → i < l.length → l.getD i 0 = 0) id l.length (Settle.now rfl) ⟨Nat.le_refl _, fun i h1 h2 => absurd h1 (by omega)⟩ ?_
  rintro n ⟨h1, hz⟩
  have fin : ∀ ti, (n = 0 ∨ l.getD (n - 1) 0 ≠ 0) → SetR Q (.agg [.bool (neg && decide (0 < n)), .own bb l.length 0 n ti]) (H.upd p (some (.row 39 0 [.bool (neg && decide (0 < n)), .own bb l.length 0 n ti]))) := fun ti h => by
    have e2 : n = (tr l).length := by
      have := congrArg List.length (tr_take h1 hz h)
      rw [List.length_take, Nat.min_eq_left h1] at this; exact this
    have := hq ti
    rw [← e2] at this
    exact SetR.dropTo ((Le.refl H).upd hp) (SetR.now this)
  have last : (n = 0 ∨ l.getD (n - 1) 0 ≠ 0) → W Tryd.prog (sndC (sndC (sndC ac139))) (retN rs139 Q) ⟨[], [(0, .bool neg), (1, .own bb l.length 0 l.length t), (4, .ptr p 2 0), (5, .int .i64 n), (17, .bool false)], H.upd p (some (.row 39 0 [.bool false, .seq 0 [] true]))⟩ := fun h => by
    have f := fun ti => fin ti h
    cases neg
    · simp (disch := first | assumption | (apply Ap.symm; assumption) | omega | decide | (simp only [Xd] <;> omega)) only [hH, cells_o2, ac139, rs139, sndC, ↓Xa, Xb, Xc, ↓reduceIte, Nat.reduceLT, Nat.reduceEqDiff, Nat.reduceBEq, Nat.reduceLeDiff, Nat.reduceAdd, Nat.reduceMul]
      exact f _
    · simp (disch := first | assumption | (apply Ap.symm; assumption) | omega | decide | (simp only [Xd] <;> omega)) only [hH, cells_o2, ac139, rs139, sndC, ↓Xa, Xb, Xc, ↓reduceIte, Nat.reduceLT, Nat.reduceEqDiff, Nat.reduceBEq, Nat.reduceLeDiff, Nat.reduceAdd, Nat.reduceMul]
      exact f _
  by_cases h0 : 0 < n
  · by_cases h2 : l.getD (n - 1) 0 = 0
    · simp (disch := first | assumption | (apply Ap.symm; assumption) | omega | decide | (simp only [Xd] <;> omega)) only [hH, h0, h2, ↓Xa, Xb, Xc, ↓reduceIte, Nat.reduceLT, Nat.reduceEqDiff, Nat.reduceBEq, Nat.reduceLeDiff, Nat.reduceAdd, Nat.reduceMul]
      refine Settle.now ⟨n - 1, ?_, ⟨by omega, fun i hi hl' => ?_⟩, rfl⟩
      · show n - 1 < n; omega
      · rcases Nat.lt_or_ge i n with h | h
        · rw [show i = n - 1 by omega]; exact h2
        · exact hz i h hl'
    · simp (disch := first | assumption | (apply Ap.symm; assumption) | omega | decide | (simp only [Xd] <;> omega)) only [hH, h0, h2, ↓Xa, Xb, Xc, ↓reduceIte, Nat.reduceLT, Nat.reduceEqDiff, Nat.reduceBEq, Nat.reduceLeDiff, Nat.reduceAdd, Nat.reduceMul]
      exact Settle.now (last (.inr h2))
  · simp (disch := first | assumption | (apply Ap.symm; assumption) | omega | decide | (simp only [Xd] <;> omega)) only [hH, h0, ↓Xa, Xb, Xc, ↓reduceIte, Nat.reduceLT, Nat.reduceEqDiff, Nat.reduceBEq, Nat.reduceLeDiff, Nat.reduceAdd, Nat.reduceMul]
    exact Settle.now (last (.inl (by omega)))

end Go.Proofs.YtanchgkiomfhhaaDoor.Fw

/- The reference's division: a bit of a number; division by one digit. -/
namespace Go.Proofs.YtanchgkiomfhhaaDoor.Fw
set_option linter.unusedSimpArgs false
set_option linter.unusedVariables false
open Go Go.Proofs.YtanchgkiomfhhaaDoor.Ma
set_option maxRecDepth 20000

theorem bit_fn (n k : Nat) (t : Bool) (hn : (digs 65536 n).length ≤ 1099511627776) (hk : k / 16 < (digs 65536 n).length) : PFn Tryd.prog 193 [LS (digs 65536 n) t, .int .i64 (k : Int)] (.int .u32 ((n / 2 ^ k % 2 : Nat) : Int)) := by
  intro H Q hq
  have hd := (lim_digs (B := 65536) (by omega) n).getD (by omega) (k / 16)
  have hb := bit_of (n := n) (k := k)
  have hk2 : k < 9223372036854775808 := by omega
  have and1 : ∀ {a : Nat} {K : AV → Prop} (_ : a < 4294967296), binW .and (.int .u32 (a : Int)) (.int .u32 ((1 : Nat) : Int)) K ↔ K (.int .u32 ((a % 2 : Nat) : Int)) := fun {a K} ha => by
    rw [bin_and .u32 (by simpa [IntKind.bits] using ha) (by simp [IntKind.bits]), Nat.and_one_is_mod, wn_u32 (by omega)]
  have hdiv : (digs 65536 n).getD (k / 16) 0 / 2 ^ (k % 16) < 4294967296 := Nat.lt_of_le_of_lt (Nat.div_le_self _ _) (by omega)
  have ht : k % 16 ≤ 32 := by omega
  have hq16 : k / 16 < 9223372036854775808 := by omega
  refine enter193 (by simp) ?_
  simp (disch := first | assumption | (apply Ap.symm; assumption) | omega | decide | (simp only [Xd] <;> omega)) only [ac193, ne_eq, Nat.reduceEqDiff, and1, hb, rs193, ↓Xa, Xb, Xc, ↓reduceIte, Nat.reduceLT, Nat.reduceEqDiff, Nat.reduceBEq, Nat.reduceLeDiff, Nat.reduceAdd, Nat.reduceMul]
  exact SetR.now hq

theorem rdiv_one {m n : Nat} (ta tb : Bool) (hn : 0 < n) (hn1 : n < 65536) (hm : (digs 65536 m).length ≤ 1099511627776) :
    PFn Tryd.prog 133 [LS (digs 65536 m) ta, LS (digs 65536 n) tb] (.tup [LS (digs 65536 (m / n)) false, LS (digs 65536 (m % n)) false]) := by
  intro H Q hq
  have vm := val_digs (B := 65536) (by omega) m
  have lm := lim_digs (B := 65536) (by omega) m
  have hne : (n = 0) = False := eq_false (by omega)
  have hY : digs 65536 n = [n] := by rw [digs_pos (by omega) hn, Nat.mod_eq_of_lt hn1, Nat.div_eq_of_lt hn1, digs_zero]
  rw [hY]
  generalize digs 65536 m = a at *
  refine enter133 (by simp) ?_
  have l1 : ([n] : List Nat).length = 1 := rfl
  have g1 : ([n] : List Nat).getD 0 0 = n := rfl
  simp (disch := first | assumption | (apply Ap.symm; assumption) | omega | decide | (simp only [Xd] <;> omega)) only [ac133, l1, g1, load_LS0, ↓Xa, Xb, Xc, ↓reduceIte, Nat.reduceLT, Nat.reduceEqDiff, Nat.reduceBEq, Nat.reduceLeDiff, Nat.reduceAdd, Nat.reduceMul]
  refine newU_i fun o ho => ?_
  simp (disch := first | assumption | (apply Ap.symm; assumption) | omega | decide | (simp only [Xd] <;> omega)) only [↓Xa, Xb, Xc, ↓reduceIte, Nat.reduceLT, Nat.reduceEqDiff, Nat.reduceBEq, Nat.reduceLeDiff, Nat.reduceAdd, Nat.reduceMul]
  refine W_loop (fun p : Nat × Nat × List Nat => ⟨[], [(0, LS a ta), (1, LS [n] tb), (6, .own o a.length 0 a.length true), (7, .int .u64 p.2.1), (8, .int .i64 (dn p.1))],
      H.upd o (some (.row 172 1 (U p.2.2)))⟩)
    (fun p => p.1 ≤ a.length ∧ DivJ a n p.1 p.2.1 p.2.2) (fun p => p.1) (a.length, 0, List.replicate a.length 0) (Settle.now rfl) ⟨by simp, DivJ.zero a hn⟩ ?_
  rintro ⟨k, r, out⟩ ⟨h1, h2⟩
  dsimp only at h1 h2 ⊢
  have hol := h2.1
  have hr := h2.2.2.1
  cases k with
  | zero =>
    simp (disch := first | assumption | (apply Ap.symm; assumption) | omega | decide | (simp only [Xd] <;> omega)) only [↓Xa, Xb, Xc, ↓reduceIte, Nat.reduceLT, Nat.reduceEqDiff, Nat.reduceBEq, Nat.reduceLeDiff, Nat.reduceAdd, Nat.reduceMul]
    refine Settle.freeze 6 rfl (upd_same _ _ _) (by simp [hol]) (.inr (by simp)) ?_
    have e1 : AV.seq a.length (((U out).drop 0).take (a.length * 1)) true = LS out true := by
      rw [List.drop_zero, Nat.mul_one, ← hol, List.take_of_length_le (by simp)]; rfl
    rw [e1, upd_upd, upd_back _ ho]
    refine Settle.now ?_
    simp (disch := first | assumption | (apply Ap.symm; assumption) | omega | decide | (simp only [Xd] <;> omega)) only [↓Xa, Xb, Xc, ↓reduceIte, Nat.reduceLT, Nat.reduceEqDiff, Nat.reduceBEq, Nat.reduceLeDiff, Nat.reduceAdd, Nat.reduceMul]
    refine (rnorm_fn false true h2.2.1 (by omega)).call ?_
    simp (disch := first | assumption | (apply Ap.symm; assumption) | omega | decide | (simp only [Xd] <;> omega)) only [RefA, ↓Xa, Xb, Xc, ↓reduceIte, Nat.reduceLT, Nat.reduceEqDiff, Nat.reduceBEq, Nat.reduceLeDiff, Nat.reduceAdd, Nat.reduceMul]
    refine (rnorm_fn (l := [r]) false true (Lim.one (by omega)) (by simp)).call ?_
    simp (disch := first | assumption | (apply Ap.symm; assumption) | omega | decide | (simp only [Xd] <;> omega)) only [RefA, rs133, ↓Xa, Xb, Xc, ↓reduceIte, Nat.reduceLT, Nat.reduceEqDiff, Nat.reduceBEq, Nat.reduceLeDiff, Nat.reduceAdd, Nat.reduceMul]
    refine SetR.now ?_
    have e2 := h2.end
    rw [tr_digs (by omega) h2.2.1, vm] at e2
    rw [sg_abs, sg_abs, val_one, e2.1, e2.2]
    exact hq
  | succ k =>
    clear l1 g1 hY vm hne ho
    have hx := lm.getD (by omega) k
    have hs : r * 65536 + a.getD k 0 < 4294967296 := by omega
    have hne : (n = 0) = False := eq_false (by omega)
    have hw : IntKind.u32.wrap (((r * 65536 + a.getD k 0) / n : Nat) : Int) = (((r * 65536 + a.getD k 0) / n : Nat) : Int) := wn_u32 (Nat.lt_of_le_of_lt (Nat.div_le_self _ _) hs)
    have hw2 : IntKind.u64.wrap (((r * 65536 + a.getD k 0) / n : Nat) : Int) = (((r * 65536 + a.getD k 0) / n : Nat) : Int) := wn_u64 (Nat.lt_trans (Nat.lt_of_le_of_lt (Nat.div_le_self _ _) hs) (by decide))
    have hwm : IntKind.u64.wrap ((r * 65536 : Nat) : Int) = ((r * 65536 : Nat) : Int) := wn_u64 (Nat.lt_trans (Nat.lt_of_le_of_lt (Nat.le_add_right _ _) hs) (by decide))
    have hwa : IntKind.u64.wrap ((r * 65536 + a.getD k 0 : Nat) : Int) = ((r * 65536 + a.getD k 0 : Nat) : Int) := wn_u64 (Nat.lt_trans hs (by decide))
    have hd66 : (r * 65536 + a.getD k 0) / n < 65536 := by
      apply Nat.div_lt_of_lt_mul
      have : (r + 1) * 65536 ≤ n * 65536 := Nat.mul_le_mul_right _ hr
      omega
    have hst := h2.step (s := r * 65536 + a.getD k 0) (by omega) lm hn1 rfl
    rw [Nat.mod_eq_of_lt hd66] at hst
    have hqm : (r * 65536 + a.getD k 0) / n % 18446744073709551616 % 4294967296 = (r * 65536 + a.getD k 0) / n := by
      rw [Nat.mod_eq_of_lt (Nat.lt_trans hd66 (by decide)), Nat.mod_eq_of_lt (Nat.lt_trans hd66 (by decide))]
    clear hd66
    generalize hqd : (r * 65536 + a.getD k 0) / n = qd at *
    generalize hrd : (r * 65536 + a.getD k 0) % n = rd at *
    generalize hsd : r * 65536 + a.getD k 0 = sd at *
    simp (disch := first | assumption | (apply Ap.symm; assumption) | omega | decide | (simp only [Xd] <;> omega)) only [hne, ne_eq, List.getD_cons_zero, load_LS0, ↓hwm, ↓hwa, hsd, hqd, hrd, ↓hw, ↓hw2, ↓Xa, Xb, Xc, ↓reduceIte, Nat.reduceLT, Nat.reduceEqDiff, Nat.reduceBEq, Nat.reduceLeDiff, Nat.reduceAdd, Nat.reduceMul]
    exact Settle.now ⟨(k, _, _), by dsimp only; omega, ⟨by dsimp only; omega, hst⟩, rfl⟩
end Go.Proofs.YtanchgkiomfhhaaDoor.Fw

/- The reference's division, bit by bit. -/
namespace Go.Proofs.YtanchgkiomfhhaaDoor.Fw
set_option linter.unusedSimpArgs false
set_option linter.unusedVariables false
open Go Go.Proofs.YtanchgkiomfhhaaDoor.Ma
set_option maxRecDepth 20000

theorem len_growO {H0 H : AHeap} {ty : Nat} {l : List Nat} {x : AV} {K : AV → Prop} (h : growO H0 ty l x H) (hl : l.length < 2 ^ 63) : lenW false x K = K (.int .i64 ((l.length : Nat) : Int)) := by
  rcases h with ⟨rfl, rfl, rfl⟩ | ⟨b, _, rfl, rfl⟩
  · simp [lenW]
  · simp [lenW, hl]

structure LongK (A V M : Nat) (ql : List Nat) : Prop where
  hM : M ≤ blen A
  qlen : ql.length = (digs 65536 A).length
  qlim : Lim 65536 ql
  qval : val 65536 ql = A / 2 ^ M / V * 2 ^ M

theorem rdiv_many {A V : Nat} (ta tb : Bool) (hV : 0 < V) (hV1 : ¬ (digs 65536 V).length = 1) (hA : (digs 65536 A).length ≤ 549755813888) (hVl : (digs 65536 V).length ≤ 549755813888) :
    PFn Tryd.prog 133 [LS (digs 65536 A) ta, LS (digs 65536 V) tb] (.tup [LS (digs 65536 (A / V)) false, LS (digs 65536 (A % V)) false]) := by
  intro H Q hq
  have hbl : blen A ≤ 16 * 549755813888 := by
    rcases Nat.eq_zero_or_pos A with e | e
    · rw [e, blen_zero]; omega
    · have hb : blen A = 16 * ((digs 65536 A).length - 1) + blen ((digs 65536 A).getD ((digs 65536 A).length - 1) 0) := blen_digs (w := 16) (by omega) e
      have hd := (lim_digs (B := 65536) (by omega) A).getD (by omega) ((digs 65536 A).length - 1)
      have hp : 0 < (digs 65536 A).length := by rw [digs_pos (by omega) e]; simp
      have : blen ((digs 65536 A).getD ((digs 65536 A).length - 1) 0) ≤ 16 := blen_le.2 (by omega)
      omega
  refine enter133 (by simp) ?_
  simp (disch := first | assumption | (apply Ap.symm; assumption) | omega | decide | (simp only [Xd] <;> omega)) only [ac133, hV1, ↓Xa, Xb, Xc, ↓reduceIte, Nat.reduceLT, Nat.reduceEqDiff, Nat.reduceBEq, Nat.reduceLeDiff, Nat.reduceAdd, Nat.reduceMul]
  refine newU_i fun bq hbq => ?_
  simp (disch := first | assumption | (apply Ap.symm; assumption) | omega | decide | (simp only [Xd] <;> omega)) only [↓Xa, Xb, Xc, ↓reduceIte, Nat.reduceLT, Nat.reduceEqDiff, Nat.reduceBEq, Nat.reduceLeDiff, Nat.reduceAdd, Nat.reduceMul]
  refine (rbits0_fn A ta (by omega)).call ?_
  simp (disch := first | assumption | (apply Ap.symm; assumption) | omega | decide | (simp only [Xd] <;> omega)) only [↓Xa, Xb, Xc, ↓reduceIte, Nat.reduceLT, Nat.reduceEqDiff, Nat.reduceBEq, Nat.reduceLeDiff, Nat.reduceAdd, Nat.reduceMul]
  refine W_loop (fun s : Nat × List Nat × AV × AHeap => ⟨[], [(0, LS (digs 65536 A) ta), (1, LS (digs 65536 V) tb), (9, .own bq (digs 65536 A).length 0 (digs 65536 A).length true), (10, s.2.2.1), (11, .int .i64 (dn s.1))], s.2.2.2⟩)
    (fun s => LongK A V s.1 s.2.1 ∧ growO (H.upd bq (some (.row 172 1 (U s.2.1)))) 172 (digs 65536 (A / 2 ^ s.1 % V)) s.2.2.1 s.2.2.2) (fun s => s.1)
    (blen A, List.replicate (digs 65536 A).length 0, .seq 0 [] true, H.upd bq (some (.row 172 1 (U (List.replicate (digs 65536 A).length 0))))) (Settle.now rfl) ?_ ?_
  · have z : A / 2 ^ blen A = 0 := Nat.div_eq_of_lt (blen_lt A)
    refine ⟨⟨Nat.le_refl _, by simp, lim_zeros (by omega) _, ?_⟩, .inl ⟨?_, rfl, rfl⟩⟩
    · dsimp only; rw [val_zeros, z, Nat.zero_div, Nat.zero_mul]
    · dsimp only; rw [z, Nat.zero_mod, digs_zero]
  rintro ⟨M, ql, x, H1⟩ ⟨hk, hg⟩
  dsimp only at hk hg ⊢
  have hM := hk.hM
  cases M with
  | zero =>
    obtain ⟨q1, q2, q3⟩ : ql.length = (digs 65536 A).length ∧ Lim 65536 ql ∧ val 65536 ql = A / V := ⟨hk.qlen, hk.qlim, by have := hk.qval; simpa using this⟩
    rw [Nat.pow_zero, Nat.div_one] at hg
    have hkeep := hg
    simp (disch := first | assumption | (apply Ap.symm; assumption) | omega | decide | (simp only [Xd] <;> omega)) only [↓Xa, Xb, Xc, ↓reduceIte, Nat.reduceLT, Nat.reduceEqDiff, Nat.reduceBEq, Nat.reduceLeDiff, Nat.reduceAdd, Nat.reduceMul]
    refine Settle.grownO 10 rfl hg ?_
    refine Settle.freeze 9 rfl (upd_same _ _ _) (by simp [q1]) (.inr (by simp)) ?_
    have e1 : AV.seq (digs 65536 A).length (((U ql).drop 0).take ((digs 65536 A).length * 1)) true = LS ql true := by
      rw [List.drop_zero, Nat.mul_one, ← q1, List.take_of_length_le (by simp)]; rfl
    rw [e1, upd_upd, upd_back _ hbq]
    refine Settle.now ?_
    simp (disch := first | assumption | (apply Ap.symm; assumption) | omega | decide | (simp only [Xd] <;> omega)) only [↓Xa, Xb, Xc, ↓reduceIte, Nat.reduceLT, Nat.reduceEqDiff, Nat.reduceBEq, Nat.reduceLeDiff, Nat.reduceAdd, Nat.reduceMul]
    refine (rnorm_fn false true q2 (by omega)).call ?_
    simp (disch := first | assumption | (apply Ap.symm; assumption) | omega | decide | (simp only [Xd] <;> omega)) only [RefA, rs133, ↓Xa, Xb, Xc, ↓reduceIte, Nat.reduceLT, Nat.reduceEqDiff, Nat.reduceBEq, Nat.reduceLeDiff, Nat.reduceAdd, Nat.reduceMul]
    refine SetR.now ?_
    rw [sg_abs, q3]
    exact hq
  | succ k =>
    have hA0 : 0 < A := blen_pos.1 (by omega)
    have h2k : 2 ^ k ≤ A := Nat.le_trans (Nat.pow_le_pow_right (by omega) (by omega)) (blen_low hA0)
    have hkl := bit_len h2k
    have hRl : (digs 65536 (A / 2 ^ (k + 1) % V)).length ≤ 549755813888 := by
      refine Nat.le_trans (digs_len (by omega) _ _ ?_) hVl
      have h1 := val_lt (lim_digs (B := 65536) (by omega) V)
      rw [val_digs (by omega)] at h1
      exact Nat.lt_trans (Nat.mod_lt _ hV) h1
    have hc1 : A / 2 ^ k % 2 ≤ 1 := by omega
    have hls := long_step (A := A) (k := k) hV
    simp (disch := first | assumption | (apply Ap.symm; assumption) | omega | decide | (simp only [Xd] <;> omega)) only [↓Xa, Xb, Xc, ↓reduceIte, Nat.reduceLT, Nat.reduceEqDiff, Nat.reduceBEq, Nat.reduceLeDiff, Nat.reduceAdd, Nat.reduceMul]
    refine (bit_fn A k ta (by omega) hkl).call ?_
    simp (disch := first | assumption | (apply Ap.symm; assumption) | omega | decide | (simp only [Xd] <;> omega)) only [↓Xa, Xb, Xc, ↓reduceIte, Nat.reduceLT, Nat.reduceEqDiff, Nat.reduceBEq, Nat.reduceLeDiff, Nat.reduceAdd, Nat.reduceMul]
    generalize hR : A / 2 ^ (k + 1) % V = R at *
    generalize A / 2 ^ k % 2 = c0 at *
    have hXl := lim_digs (B := 65536) (by omega) R
    refine W_loop (fun s : Nat × Nat × List Nat × AV × AHeap => ⟨[], [(0, LS (digs 65536 A) ta), (1, LS (digs 65536 V) tb), (9, .own bq (digs 65536 A).length 0 (digs 65536 A).length true), (10, s.2.2.2.1), (11, .int .i64 k), (12, .int .u32 s.2.1), (13, .int .i64 s.1)], s.2.2.2.2⟩)
      (fun s => s.1 ≤ (digs 65536 R).length ∧ DblI (digs 65536 R) c0 s.1 s.2.1 s.2.2.1 ∧ growO (H.upd bq (some (.row 172 1 (U ql)))) 172 (s.2.2.1 ++ (digs 65536 R).drop s.1) s.2.2.2.1 s.2.2.2.2) (fun s => (digs 65536 R).length - s.1)
      (0, c0, [], x, H1) (Settle.now rfl) ⟨Nat.zero_le _, DblI.zero _ hc1, hg⟩ ?_
    rintro ⟨i, c, done, x', H2⟩ ⟨g1, g2, g3⟩
    dsimp only at g1 g2 g3 ⊢
    have hd := g2.1
    have hc := g2.2.2.1
    have hcl : (done ++ (digs 65536 R).drop i).length = (digs 65536 R).length := by simp [hd]; omega
    have hlen : ∀ K, lenW false x' K = K (.int .i64 (((digs 65536 R).length : Nat) : Int)) := fun K => by
      rw [len_growO g3 (by omega), hcl]
    by_cases hi : i < (digs 65536 R).length
    · have hx := hXl.getD (by omega) i
      rcases g3 with ⟨e1, _, _⟩ | ⟨br, hbr, rfl, rfl⟩
      · rw [e1] at hcl; simp at hcl; omega
      · have p1 : (done ++ (digs 65536 R).drop i).getD i 0 = (digs 65536 R).getD i 0 := part_get hd hi
        have p2 : ∀ y, (done ++ (digs 65536 R).drop i).set i y = (done ++ [y]) ++ (digs 65536 R).drop (i + 1) := fun y => part_set hd hi
        rw [hcl]
        generalize hrow : done ++ (digs 65536 R).drop i = row at *
        simp (disch := first | assumption | (apply Ap.symm; assumption) | omega | decide | (simp only [Xd] <;> omega)) only [hi, p1, ne_eq, Nat.reduceEqDiff, ↓Xa, Xb, Xc, ↓reduceIte, Nat.reduceLT, Nat.reduceEqDiff, Nat.reduceBEq, Nat.reduceLeDiff, Nat.reduceAdd, Nat.reduceMul]
        rw [p2]
        have e3 : (done ++ [(c + 2 * (digs 65536 R).getD i 0) % 65536] ++ (digs 65536 R).drop (i + 1)).length = (digs 65536 R).length := by
          simp [hd]; omega
        exact Settle.now ⟨(i + 1, _, done ++ [(c + 2 * (digs 65536 R).getD i 0) % 65536], _, _), by dsimp only; omega, ⟨by dsimp only; omega, g2.step hXl rfl, .inr ⟨br, hbr, by rw [e3], rfl⟩⟩, rfl⟩
    · obtain rfl : i = (digs 65536 R).length := by omega
      have hend := g2.end hc1
      rw [List.drop_of_length_le (Nat.le_refl _), List.append_nil] at g3
      simp (disch := first | assumption | (apply Ap.symm; assumption) | omega | decide | (simp only [Xd] <;> omega)) only [hlen, hi, ↓Xa, Xb, Xc, ↓reduceIte, Nat.reduceLT, Nat.reduceEqDiff, Nat.reduceBEq, Nat.reduceLeDiff, Nat.reduceAdd, Nat.reduceMul]
      refine Settle.now ?_
      by_cases h0 : 0 < c
      · rw [if_pos h0] at hend
        simp (disch := first | assumption | (apply Ap.symm; assumption) | omega | decide | (simp only [Xd] <;> omega)) only [h0, ↓Xa, Xb, Xc, ↓reduceIte, Nat.reduceLT, Nat.reduceEqDiff, Nat.reduceBEq, Nat.reduceLeDiff, Nat.reduceAdd, Nat.reduceMul]
        refine appO (m := [c]) g3 rfl (by simp) (by simp; omega) fun x2 H3 g4 => ?_
        rw [hend] at g4
        simp (disch := first | assumption | (apply Ap.symm; assumption) | omega | decide | (simp only [Xd] <;> omega)) only [↓Xa, Xb, Xc, ↓reduceIte, Nat.reduceLT, Nat.reduceEqDiff, Nat.reduceBEq, Nat.reduceLeDiff, Nat.reduceAdd, Nat.reduceMul]
        rcases g4 with ⟨z1, rfl, rfl⟩ | ⟨b2, hb2, rfl, rfl⟩
        · have z2 : 2 * R + c0 = 0 := (digs_nil (B := 65536) (by omega)).1 z1
          obtain ⟨f1, f2⟩ := hls.2 (by omega)
          rw [LS_0 65536]
          refine (size_fn 0 V true tb (by rw [digs_zero]; simp) (by omega)).call ?_
          rw [show cmpZ 0 V = -1 by simp [cmpZ, hV]]
          simp (disch := first | assumption | (apply Ap.symm; assumption) | omega | decide | (simp only [Xd] <;> omega)) only [bin_geq_neg, ↓Xa, Xb, Xc, ↓reduceIte, Nat.reduceLT, Nat.reduceEqDiff, Nat.reduceBEq, Nat.reduceLeDiff, Nat.reduceAdd, Nat.reduceMul]
          refine Settle.keep [0, 1, 9, 10, 11] ⟨(k, ql, _, _), by dsimp only; omega, ⟨⟨by dsimp only; omega, hk.qlen, hk.qlim, ?_⟩, .inl ⟨?_, rfl, rfl⟩⟩, by rw [← LS_0 65536]; rfl⟩
          · dsimp only; rw [hk.qval, f2, Nat.pow_succ]; grind
          · dsimp only; rw [f1, z2, digs_zero]
        · have ap1 := (upd_none.1 hb2).1
          have hX2l : (digs 65536 (2 * R + c0)).length ≤ 1099511627776 := by
            refine Nat.le_trans (digs_len (by omega) ((digs 65536 V).length + 1) _ ?_) (by omega)
            have q1 := val_lt (lim_digs (B := 65536) (by omega) V)
            rw [val_digs (by omega)] at q1
            have q2 : R < V := hR ▸ Nat.mod_lt _ hV
            rw [Nat.pow_succ]; omega
          refine run_call (size_own (2 * R + c0) V false tb (upd_same _ _ _) rfl ?_ hX2l (by omega))
          by_cases hge : V ≤ 2 * R + c0
          · obtain ⟨f1, f2⟩ := hls.1 hge
            have c3 : ∀ K, binW .geq (.int .i64 (cmpZ (2 * R + c0) V)) (.int .i64 ((0 : Nat) : Int)) K ↔ K (.bool true) := fun K => by
              have : (0 : Int) ≤ cmpZ (2 * R + c0) V := by unfold cmpZ; rw [if_neg (by omega)]; split <;> omega
              simp [binW, binInt]; rw [decide_eq_true this]
            simp (disch := first | assumption | (apply Ap.symm; assumption) | omega | decide | (simp only [Xd] <;> omega)) only [c3, ↓Xa, Xb, Xc, ↓reduceIte, Nat.reduceLT, Nat.reduceEqDiff, Nat.reduceBEq, Nat.reduceLeDiff, Nat.reduceAdd, Nat.reduceMul]
            refine run_call (minus_own (2 * R + c0) V false tb (upd_same _ _ _) rfl ?_ hge hX2l)
            intro x3 H4 g5
            have hpl : (digs 65536 (2 * R + c0 - V)).length ≤ (digs 65536 (2 * R + c0)).length := digs_len (by omega) _ _ (by
              have := val_lt (lim_digs (B := 65536) (by omega) (2 * R + c0)); rw [val_digs (by omega)] at this; omega)
            have hpad := pad_len hpl
            have hp0 : 0 < (digs 65536 (2 * R + c0)).length := by rw [digs_pos (by omega) (show 0 < 2 * R + c0 by omega)]; simp
            rcases g5 with ⟨z1, _, _⟩ | ⟨_, b3, hb3, rfl, rfl⟩
            · rw [z1] at hpad; simp at hpad; omega
            · have ap2 := (upd_none.1 hb3).1
              have ap3 := (upd_none.1 (upd_none.1 hb3).2).1
              have hn3 := (upd_none.1 (upd_none.1 hb3).2).2
              simp (disch := first | assumption | (apply Ap.symm; assumption) | omega | decide | (simp only [Xd] <;> omega)) only [↓Xa, Xb, Xc, ↓reduceIte, Nat.reduceLT, Nat.reduceEqDiff, Nat.reduceBEq, Nat.reduceLeDiff, Nat.reduceAdd, Nat.reduceMul]
              refine run_call (rnorm_own false false (upd_same _ _ _) rfl (fun ti => ?_) (pad_lim (by omega)) (by omega))
              have htr : tr (pad 65536 (2 * R + c0 - V) (digs 65536 (2 * R + c0)).length) = digs 65536 (2 * R + c0 - V) := by
                rw [tr_digs (B := 65536) (by omega) (pad_lim (by omega)), pad_val (by omega)]
              have hpt : (pad 65536 (2 * R + c0 - V) (digs 65536 (2 * R + c0)).length).take (digs 65536 (2 * R + c0 - V)).length = digs 65536 (2 * R + c0 - V) := by
                unfold pad; simp
              rw [htr, hpad]
              obtain ⟨o1, o2, o3⟩ := bit_set hk.qlim (by rw [hk.qlen]; exact hkl) hk.qval
              have hql := hk.qlen
              have hqd := hk.qlim.getD (by omega) (k / 16)
              have hk16 : k / 16 < 9223372036854775808 := by omega
              have hpw : (2 : Nat) ^ (k % 16) ≤ 2 ^ 15 := Nat.pow_le_pow_right (by omega) (by omega)
              have hk32 : k % 16 ≤ 32 := by omega
              have or1 : ∀ K, binW .or (.int .u32 ((ql.getD (k / 16) 0 : Nat) : Int)) (.int .u32 ((2 ^ (k % 16) : Nat) : Int)) K ↔ K (.int .u32 ((ql.getD (k / 16) 0 + 2 ^ (k % 16) : Nat) : Int)) := fun K => by
                rw [bin_or .u32 (by simp only [IntKind.bits]; omega) (by simp only [IntKind.bits]; omega), o1, wn_u32 (by omega)]
              simp (disch := first | assumption | (apply Ap.symm; assumption) | omega | decide | (simp only [Xd] <;> omega)) only [hkl, hql, or1, Nat.one_mul, bin_shl32, ne_eq, Nat.reduceEqDiff, ↓Xa, Xb, Xc, ↓reduceIte, Nat.reduceLT, Nat.reduceEqDiff, Nat.reduceBEq, Nat.reduceLeDiff, Nat.reduceAdd, Nat.reduceMul]
              refine Settle.kill b2 ?_
              rw [upd_over ap2, upd_back _ (upd_none.2 ⟨ap1, (upd_none.1 hb2).2⟩)]
              refine Settle.renew 10 rfl (upd_same _ _ _) hpad hpl fun b' hb' => ?_
              rw [upd_upd, upd_back _ (upd_none.2 ⟨ap3, hn3⟩)] at hb' ⊢
              rw [hpt]
              refine Settle.now ⟨(k, ql.set (k / 16) (ql.getD (k / 16) 0 + 2 ^ (k % 16)), _, _), by dsimp only; omega, ⟨⟨by dsimp only; omega, by simpa using hql, lim_set hk.qlim _ _ o2, ?_⟩, .inr ⟨b', hb', ?_, ?_⟩⟩, rfl⟩
              · dsimp only; rw [f2]; exact o3
              · dsimp only; rw [f1]
              · exact congrArg (fun z => (H.upd bq (some (ABlk.row 172 1 (U (ql.set (k / 16) (ql.getD (k / 16) 0 + 2 ^ (k % 16))))))).upd b' (some (.row 172 1 (U (digs 65536 z))))) f1.symm
          · obtain ⟨f1, f2⟩ := hls.2 (by omega)
            have c3 : ∀ K, binW .geq (.int .i64 (cmpZ (2 * R + c0) V)) (.int .i64 ((0 : Nat) : Int)) K ↔ K (.bool false) := fun K => by
              simp [binW, binInt, cmpZ, show 2 * R + c0 < V by omega]
            simp (disch := first | assumption | (apply Ap.symm; assumption) | omega | decide | (simp only [Xd] <;> omega)) only [c3, ↓Xa, Xb, Xc, ↓reduceIte, Nat.reduceLT, Nat.reduceEqDiff, Nat.reduceBEq, Nat.reduceLeDiff, Nat.reduceAdd, Nat.reduceMul]
            refine Settle.keep [0, 1, 9, 10, 11] ⟨(k, ql, _, _), by dsimp only; omega, ⟨⟨by dsimp only; omega, hk.qlen, hk.qlim, ?_⟩, .inr ⟨b2, hb2, ?_, ?_⟩⟩, rfl⟩
            · dsimp only; rw [hk.qval, f2, Nat.pow_succ]; grind
            · dsimp only; rw [f1]
            · exact congrArg (fun z => (H.upd bq (some (ABlk.row 172 1 (U ql)))).upd b2 (some (.row 172 1 (U (digs 65536 z))))) f1.symm
      · rw [if_neg h0] at hend
        rw [hend] at g3
        have g4 := g3
        simp (disch := first | assumption | (apply Ap.symm; assumption) | omega | decide | (simp only [Xd] <;> omega)) only [h0, ↓Xa, Xb, Xc, ↓reduceIte, Nat.reduceLT, Nat.reduceEqDiff, Nat.reduceBEq, Nat.reduceLeDiff, Nat.reduceAdd, Nat.reduceMul]
        rcases g4 with ⟨z1, rfl, rfl⟩ | ⟨b2, hb2, rfl, rfl⟩
        · have z2 : 2 * R + c0 = 0 := (digs_nil (B := 65536) (by omega)).1 z1
          obtain ⟨f1, f2⟩ := hls.2 (by omega)
          rw [LS_0 65536]
          refine (size_fn 0 V true tb (by rw [digs_zero]; simp) (by omega)).call ?_
          rw [show cmpZ 0 V = -1 by simp [cmpZ, hV]]
          simp (disch := first | assumption | (apply Ap.symm; assumption) | omega | decide | (simp only [Xd] <;> omega)) only [bin_geq_neg, ↓Xa, Xb, Xc, ↓reduceIte, Nat.reduceLT, Nat.reduceEqDiff, Nat.reduceBEq, Nat.reduceLeDiff, Nat.reduceAdd, Nat.reduceMul]
          refine Settle.keep [0, 1, 9, 10, 11] ⟨(k, ql, _, _), by dsimp only; omega, ⟨⟨by dsimp only; omega, hk.qlen, hk.qlim, ?_⟩, .inl ⟨?_, rfl, rfl⟩⟩, by rw [← LS_0 65536]; rfl⟩
          · dsimp only; rw [hk.qval, f2, Nat.pow_succ]; grind
          · dsimp only; rw [f1, z2, digs_zero]
        · have ap1 := (upd_none.1 hb2).1
          have hX2l : (digs 65536 (2 * R + c0)).length ≤ 1099511627776 := by
            refine Nat.le_trans (digs_len (by omega) ((digs 65536 V).length + 1) _ ?_) (by omega)
            have q1 := val_lt (lim_digs (B := 65536) (by omega) V)
            rw [val_digs (by omega)] at q1
            have q2 : R < V := hR ▸ Nat.mod_lt _ hV
            rw [Nat.pow_succ]; omega
          refine run_call (size_own (2 * R + c0) V false tb (upd_same _ _ _) rfl ?_ hX2l (by omega))
          by_cases hge : V ≤ 2 * R + c0
          · obtain ⟨f1, f2⟩ := hls.1 hge
            have c3 : ∀ K, binW .geq (.int .i64 (cmpZ (2 * R + c0) V)) (.int .i64 ((0 : Nat) : Int)) K ↔ K (.bool true) := fun K => by
              have : (0 : Int) ≤ cmpZ (2 * R + c0) V := by unfold cmpZ; rw [if_neg (by omega)]; split <;> omega
              simp [binW, binInt]; rw [decide_eq_true this]
            simp (disch := first | assumption | (apply Ap.symm; assumption) | omega | decide | (simp only [Xd] <;> omega)) only [c3, ↓Xa, Xb, Xc, ↓reduceIte, Nat.reduceLT, Nat.reduceEqDiff, Nat.reduceBEq, Nat.reduceLeDiff, Nat.reduceAdd, Nat.reduceMul]
            refine run_call (minus_own (2 * R + c0) V false tb (upd_same _ _ _) rfl ?_ hge hX2l)
            intro x3 H4 g5
            have hpl : (digs 65536 (2 * R + c0 - V)).length ≤ (digs 65536 (2 * R + c0)).length := digs_len (by omega) _ _ (by
              have := val_lt (lim_digs (B := 65536) (by omega) (2 * R + c0)); rw [val_digs (by omega)] at this; omega)
            have hpad := pad_len hpl
            have hp0 : 0 < (digs 65536 (2 * R + c0)).length := by rw [digs_pos (by omega) (show 0 < 2 * R + c0 by omega)]; simp
            rcases g5 with ⟨z1, _, _⟩ | ⟨_, b3, hb3, rfl, rfl⟩
            · rw [z1] at hpad; simp at hpad; omega
            · have ap2 := (upd_none.1 hb3).1
              have ap3 := (upd_none.1 (upd_none.1 hb3).2).1
              have hn3 := (upd_none.1 (upd_none.1 hb3).2).2
              simp (disch := first | assumption | (apply Ap.symm; assumption) | omega | decide | (simp only [Xd] <;> omega)) only [↓Xa, Xb, Xc, ↓reduceIte, Nat.reduceLT, Nat.reduceEqDiff, Nat.reduceBEq, Nat.reduceLeDiff, Nat.reduceAdd, Nat.reduceMul]
              refine run_call (rnorm_own false false (upd_same _ _ _) rfl (fun ti => ?_) (pad_lim (by omega)) (by omega))
              have htr : tr (pad 65536 (2 * R + c0 - V) (digs 65536 (2 * R + c0)).length) = digs 65536 (2 * R + c0 - V) := by
                rw [tr_digs (B := 65536) (by omega) (pad_lim (by omega)), pad_val (by omega)]
              have hpt : (pad 65536 (2 * R + c0 - V) (digs 65536 (2 * R + c0)).length).take (digs 65536 (2 * R + c0 - V)).length = digs 65536 (2 * R + c0 - V) := by
                unfold pad; simp
              rw [htr, hpad]
              obtain ⟨o1, o2, o3⟩ := bit_set hk.qlim (by rw [hk.qlen]; exact hkl) hk.qval
              have hql := hk.qlen
              have hqd := hk.qlim.getD (by omega) (k / 16)
              have hk16 : k / 16 < 9223372036854775808 := by omega
              have hpw : (2 : Nat) ^ (k % 16) ≤ 2 ^ 15 := Nat.pow_le_pow_right (by omega) (by omega)
              have hk32 : k % 16 ≤ 32 := by omega
              have or1 : ∀ K, binW .or (.int .u32 ((ql.getD (k / 16) 0 : Nat) : Int)) (.int .u32 ((2 ^ (k % 16) : Nat) : Int)) K ↔ K (.int .u32 ((ql.getD (k / 16) 0 + 2 ^ (k % 16) : Nat) : Int)) := fun K => by
                rw [bin_or .u32 (by simp only [IntKind.bits]; omega) (by simp only [IntKind.bits]; omega), o1, wn_u32 (by omega)]
              simp (disch := first | assumption | (apply Ap.symm; assumption) | omega | decide | (simp only [Xd] <;> omega)) only [hkl, hql, or1, Nat.one_mul, bin_shl32, ne_eq, Nat.reduceEqDiff, ↓Xa, Xb, Xc, ↓reduceIte, Nat.reduceLT, Nat.reduceEqDiff, Nat.reduceBEq, Nat.reduceLeDiff, Nat.reduceAdd, Nat.reduceMul]
              refine Settle.kill b2 ?_
              rw [upd_over ap2, upd_back _ (upd_none.2 ⟨ap1, (upd_none.1 hb2).2⟩)]
              refine Settle.renew 10 rfl (upd_same _ _ _) hpad hpl fun b' hb' => ?_
              rw [upd_upd, upd_back _ (upd_none.2 ⟨ap3, hn3⟩)] at hb' ⊢
              rw [hpt]
              refine Settle.now ⟨(k, ql.set (k / 16) (ql.getD (k / 16) 0 + 2 ^ (k % 16)), _, _), by dsimp only; omega, ⟨⟨by dsimp only; omega, by simpa using hql, lim_set hk.qlim _ _ o2, ?_⟩, .inr ⟨b', hb', ?_, ?_⟩⟩, rfl⟩
              · dsimp only; rw [f2]; exact o3
              · dsimp only; rw [f1]
              · exact congrArg (fun z => (H.upd bq (some (ABlk.row 172 1 (U (ql.set (k / 16) (ql.getD (k / 16) 0 + 2 ^ (k % 16))))))).upd b' (some (.row 172 1 (U (digs 65536 z))))) f1.symm
          · obtain ⟨f1, f2⟩ := hls.2 (by omega)
            have c3 : ∀ K, binW .geq (.int .i64 (cmpZ (2 * R + c0) V)) (.int .i64 ((0 : Nat) : Int)) K ↔ K (.bool false) := fun K => by
              simp [binW, binInt, cmpZ, show 2 * R + c0 < V by omega]
            simp (disch := first | assumption | (apply Ap.symm; assumption) | omega | decide | (simp only [Xd] <;> omega)) only [c3, ↓Xa, Xb, Xc, ↓reduceIte, Nat.reduceLT, Nat.reduceEqDiff, Nat.reduceBEq, Nat.reduceLeDiff, Nat.reduceAdd, Nat.reduceMul]
            refine Settle.keep [0, 1, 9, 10, 11] ⟨(k, ql, _, _), by dsimp only; omega, ⟨⟨by dsimp only; omega, hk.qlen, hk.qlim, ?_⟩, .inr ⟨b2, hb2, ?_, ?_⟩⟩, rfl⟩
            · dsimp only; rw [hk.qval, f2, Nat.pow_succ]; grind
            · dsimp only; rw [f1]
            · exact congrArg (fun z => (H.upd bq (some (ABlk.row 172 1 (U ql)))).upd b2 (some (.row 172 1 (U (digs 65536 z))))) f1.symm
end Go.Proofs.YtanchgkiomfhhaaDoor.Fw

/- Quotients and remainders of whole numbers, as the reference has them. -/
namespace Go.Proofs.YtanchgkiomfhhaaDoor.Fw
set_option linter.unusedSimpArgs false
set_option linter.unusedVariables false
open Go Go.Proofs.YtanchgkiomfhhaaDoor.Ma
set_option maxRecDepth 20000

theorem rdivide_fn {A V : Nat} (ta tb : Bool) (hV : 0 < V) (hA : (digs 65536 A).length ≤ 549755813888) (hVl : (digs 65536 V).length ≤ 549755813888) :
    PFn Tryd.prog 133 [LS (digs 65536 A) ta, LS (digs 65536 V) tb] (.tup [LS (digs 65536 (A / V)) false, LS (digs 65536 (A % V)) false]) := by
  by_cases h1 : (digs 65536 V).length = 1
  · have h2 := val_lt (lim_digs (B := 65536) (by omega) V)
    rw [val_digs (by omega), h1] at h2
    exact rdiv_one ta tb hV (by simpa using h2) (by omega)
  · exact rdiv_many ta tb hV h1 hA hVl

end Go.Proofs.YtanchgkiomfhhaaDoor.Fw

/- The law of quotients, as what its code computes: true. -/
namespace Go.Proofs.YtanchgkiomfhhaaDoor.Fw
set_option linter.unusedSimpArgs false
set_option linter.unusedVariables false
open Go Go.Proofs.YtanchgkiomfhhaaDoor.Ma
set_option maxRecDepth 20000

end Go.Proofs.YtanchgkiomfhhaaDoor.Fw

/- The greatest common divisor, as the reference and as the program have it. -/
namespace Go.Proofs.YtanchgkiomfhhaaDoor.Fw
set_option linter.unusedSimpArgs false
set_option linter.unusedVariables false
open Go Go.Proofs.YtanchgkiomfhhaaDoor.Ma
set_option maxRecDepth 20000

end Go.Proofs.YtanchgkiomfhhaaDoor.Fw

/- How the greatest common divisor is put together, as the program finds it. -/
namespace Go.Proofs.YtanchgkiomfhhaaDoor.Fw
set_option linter.unusedSimpArgs false
set_option linter.unusedVariables false
open Go Go.Proofs.YtanchgkiomfhhaaDoor.Ma
set_option maxRecDepth 20000

theorem Bd.le {x y : Int} {k : Nat} (h : Bd k y) (hl : x.natAbs ≤ y.natAbs) : Bd k x := Nat.lt_of_le_of_lt hl h
theorem Bd.ediv {x y : Int} {k : Nat} (h : Bd k x) : Bd k (x / y) := h.le (Int.natAbs_ediv_le_natAbs x y)
end Go.Proofs.YtanchgkiomfhhaaDoor.Fw

/- The law of the greatest common divisor, as what its code computes: true. -/
namespace Go.Proofs.YtanchgkiomfhhaaDoor.Fw
set_option linter.unusedSimpArgs false
set_option linter.unusedVariables false
open Go Go.Proofs.YtanchgkiomfhhaaDoor.Ma
set_option maxRecDepth 20000

def BezF (x y u v : Int) : Prop := u * x + v * y = (Int.gcd x y : Int) ∧ (y = 0 → u = sgnI x ∧ v = 0) ∧ (y ≠ 0 → 0 ≤ u ∧ u < (y.natAbs : Int) / (Int.gcd x y : Int))
end Go.Proofs.YtanchgkiomfhhaaDoor.Fw

/- Ranges over functions: memories side by side, the iterator's contract, the statement's rule. -/
namespace Go.Proofs.YtanchgkiomfhhaaDoor.Fw
set_option linter.unusedSimpArgs false
set_option linter.unusedVariables false
open Go

def Un (A B : AHeap) : AHeap := fun b => match A b with | some x => some x | none => B b
def Dj (A B : AHeap) : Prop := ∀ b, A b = none ∨ B b = none
def nilH : AHeap := fun _ => none
theorem un_nil {B : AHeap} : Un nilH B = B := funext fun _ => rfl
theorem un_upd {A B : AHeap} {b : Nat} {x : ABlk} : Un (A.upd b (some x)) B = (Un A B).upd b (some x) := by
  funext i; simp only [Un, AHeap.upd]; by_cases e : i = b
  · simp [e]
  · simp [e]
theorem un_updR {A B : AHeap} {b : Nat} {x : Option ABlk} (h : A b = none) : Un A (B.upd b x) = (Un A B).upd b x := by
  funext i; simp only [Un, AHeap.upd]; by_cases e : i = b
  · subst e; simp [h]
  · simp [e]
theorem un_none {A B : AHeap} {b : Nat} : Un A B b = none ↔ A b = none ∧ B b = none := by
  unfold Un; cases h : A b <;> simp
theorem dj_nil {B : AHeap} : Dj nilH B := fun _ => .inl rfl
theorem dj_upd {A B : AHeap} {b : Nat} {x : Option ABlk} (h : Dj A B) (hb : B b = none) : Dj (A.upd b x) B := fun i => by
  by_cases e : i = b
  · subst e; exact .inr hb
  · rw [upd_other _ _ e]; exact h i
theorem dj_updR {A B : AHeap} {b : Nat} {x : Option ABlk} (h : Dj A B) (hb : A b = none) : Dj A (B.upd b x) := fun i => by
  by_cases e : i = b
  · subst e; exact .inl hb
  · rw [upd_other _ _ e]; exact h i
theorem dj_at {A B : AHeap} {b : Nat} {x : ABlk} (h : Dj A B) (hb : A b = some x) : B b = none := (h b).resolve_left (by rw [hb]; simp)
theorem dj_atR {A B : AHeap} {b : Nat} {x : ABlk} (h : Dj A B) (hb : B b = some x) : A b = none := (h b).resolve_right (by rw [hb]; simp)
def IterW (P : Program) (f : FuncId) (caps : List AV) {α : Type} (enc : α → List AV) (xs : List α) : Prop :=
  ∀ (b : Nat) (J : List α → AHeap → Prop) (Jx : AHeap → Prop),
    (∀ pre x rest A B, xs = pre ++ x :: rest → Dj A B → J pre A → YieldW P b (enc x) (Un A B) fun r H' => ∃ A', Dj A' B ∧ H' = Un A' B ∧ ((r = .bool true ∧ J (pre ++ [x]) A') ∨ (r = .bool false ∧ Jx A'))) →
    ∀ A B, Dj A B → J [] A → Run P f ([.yld b] ++ caps) (Un A B) fun _ H' => ∃ A', Dj A' B ∧ H' = Un A' B ∧ (J xs A' ∨ Jx A')

def bodyQ {α : Type} (J : List α → AHeap → Prop) (Jx : Code → AHeap → Prop) (l : List α) (B : AHeap) : Exit → St → Prop
  | .normal, s => Settle (fun s => ∃ A, Dj A B ∧ s.H = Un A B ∧ J l A) s
  | .ret, s => Settle (fun s => ∃ A, Dj A B ∧ s.H = Un A B ∧ Jx .ret A) s
  | .exit i, s => Settle (fun s => ∃ A, Dj A B ∧ s.H = Un A B ∧ Jx (.exit i) A) s
  | _, _ => False

theorem rfn_iter {P : Program} {ps : List Nat} {asg bd : ACode} {f : FuncId} {caps : List AV} {Q : Exit → St → Prop} {D : List Nat} {E : Env} {α : Type} {enc : α → List AV} {xs : List α} (hit : IterW P f caps enc xs) (hps : ∀ x, (enc x).length = ps.length)
    (J : List α → AHeap → Prop) (Jx : Code → AHeap → Prop) (A B : AHeap) {H : AHeap} (hd : Dj A B) (hH : H = Un A B) (h0 : J [] A)
    (hbody : ∀ pre x rest A B, xs = pre ++ x :: rest → Dj A B → J pre A →
      ∀ R1, (∀ E1 A1, Dj A1 B → (∀ R2 B1, (∀ e s, bodyQ J Jx (pre ++ [x]) B1 e s → R2 e s) → Dj A1 B1 → W P bd R2 ⟨[], E1, Un A1 B1⟩) → R1 .normal ⟨[], E1, Un A1 B⟩) → W P asg R1 ⟨[], setps E ps (enc x), Un A B⟩)
    (hend : ∀ d A', Dj A' B → A' d = none → B d = none → J xs A' → Q .normal ⟨d :: D, E, (Un A' B).upd d (some (.raw (.deferred (some []))))⟩)
    (hexit : ∀ d A' c, Dj A' B → A' d = none → B d = none → Jx c A' → afterQ Q (some c) ⟨d :: D, E, (Un A' B).upd d (some (.raw (.deferred (some []))))⟩) :
    rfnW P ps (W P asg) (W P bd) (.fn (.func f) [] caps) Q ⟨D, E, H⟩ := by
  subst hH
  intro L b d hb hdn hbd hy
  obtain ⟨hAb, hBb⟩ := un_none.1 hb
  obtain ⟨hAd, hBd⟩ := un_none.1 hdn
  have hd2 : Dj A (B.upd d (some (.raw (.deferred (some []))))) := dj_updR hd hAd
  have hB2b : (B.upd d (some (.raw (.deferred (some []))))) b = none := by rw [upd_other _ _ hbd]; exact hBb
  have run := hit b (fun pre A' => ∃ A0, A' = A0.upd b (some (L .ready none)) ∧ A0 b = none ∧ J pre A0) (fun A' => ∃ A0 c, A' = A0.upd b (some (L .done (some c))) ∧ A0 b = none ∧ Jx c A0) ?_
    (A.upd b (some (L .ready none))) (B.upd d (some (.raw (.deferred (some []))))) (dj_upd hd2 hB2b) ⟨A, rfl, hAb, h0⟩
  · rw [un_upd, un_updR hAd] at run
    refine run.mono ?_
    rintro r H' ⟨A', hdj, rfl, (⟨A0, rfl, h0b, hj⟩ | ⟨A0, c, rfl, h0b, hj⟩)⟩
    · have hA0d : A0 d = none := by
        have := dj_atR hdj (upd_same _ _ _)
        rwa [upd_other _ _ (Ne.symm hbd)] at this
      have hdj0 : Dj A0 B := fun i => by
        by_cases e : i = b
        · subst e; exact .inl h0b
        · by_cases e2 : i = d
          · subst e2; exact .inl hA0d
          · have := hdj i
            rwa [upd_other _ _ e, upd_other _ _ e2] at this
      refine ⟨.ready, none, by simp, by rw [un_upd, upd_same], ?_⟩
      rw [un_upd, upd_upd, upd_back _ (un_none.2 ⟨h0b, hB2b⟩), un_updR hA0d]
      exact hend d A0 hdj0 hA0d hBd hj
    · have hA0d : A0 d = none := by
        have := dj_atR hdj (upd_same _ _ _)
        rwa [upd_other _ _ (Ne.symm hbd)] at this
      have hdj0 : Dj A0 B := fun i => by
        by_cases e : i = b
        · subst e; exact .inl h0b
        · by_cases e2 : i = d
          · subst e2; exact .inl hA0d
          · have := hdj i
            rwa [upd_other _ _ e, upd_other _ _ e2] at this
      refine ⟨.done, some c, by simp, by rw [un_upd, upd_same], ?_⟩
      rw [un_upd, upd_upd, upd_back _ (un_none.2 ⟨h0b, hB2b⟩), un_updR hA0d]
      exact hexit d A0 c hdj0 hA0d hBd hj
  · rintro pre x rest A' B' hx hdj ⟨A0, rfl, h0b, hj⟩
    have hB'b : B' b = none := dj_at hdj (upd_same _ _ _)
    have hdj0 : Dj A0 B' := fun i => by
      by_cases e : i = b
      · subst e; exact .inl h0b
      · have := hdj i
        rwa [upd_other _ _ e] at this
    refine hy _ _ _ (by rw [un_upd, upd_same]) (by simpa using hps x) fun R1 k1 => ?_
    rw [un_upd, ← un_updR (B := B') h0b]
    refine hbody pre x rest A0 (B'.upd b (some (L .ready none))) hx (dj_updR hdj0 h0b) hj R1 fun E1 A1 hd1 k2 => ?_
    have hA1b : A1 b = none := dj_atR hd1 (upd_same _ _ _)
    have hdj1 : Dj A1 B' := fun i => by
      by_cases e : i = b
      · subst e; exact .inl hA1b
      · have := hd1 i
        rwa [upd_other _ _ e] at this
    refine k1 _ rfl (by dsimp only; rw [un_updR hA1b, upd_same]) fun R2 k3 => ?_
    dsimp only
    rw [un_updR hA1b, upd_upd, ← un_updR hA1b]
    refine k2 R2 _ (fun e s hs => k3 e s ?_) (dj_updR hdj1 hA1b)
    have fin : ∀ (st : LoopState) (jc : Option Code) (A2 : AHeap), Dj A2 (B'.upd b (some (L .busy none))) → (Un A2 (B'.upd b (some (L .busy none)))) b = some (L .busy none) ∧ Dj (A2.upd b (some (L st jc))) B' ∧ (Un A2 (B'.upd b (some (L .busy none)))).upd b (some (L st jc)) = Un (A2.upd b (some (L st jc))) B' ∧ A2 b = none := by
      intro st jc A2 h2
      have hA2b : A2 b = none := dj_atR h2 (upd_same _ _ _)
      have hdj2 : Dj A2 B' := fun i => by
        by_cases e : i = b
        · subst e; exact .inl hA2b
        · have := h2 i
          rwa [upd_other _ _ e] at this
      exact ⟨by rw [un_updR hA2b, upd_same], dj_upd hdj2 hB'b, by rw [un_updR hA2b, upd_upd, un_upd], hA2b⟩
    cases e with
    | normal =>
      refine Settle.mono hs ?_
      rintro s ⟨A2, h2, e2, hj2⟩
      obtain ⟨f1, f2, f3, f4⟩ := fin .ready none A2 h2
      exact ⟨by rw [e2]; exact f1, _, f2, by rw [e2]; exact f3, .inl ⟨rfl, A2, rfl, f4, hj2⟩⟩
    | ret =>
      refine Settle.mono hs ?_
      rintro s ⟨A2, h2, e2, hj2⟩
      obtain ⟨f1, f2, f3, f4⟩ := fin .done (some .ret) A2 h2
      exact ⟨by rw [e2]; exact f1, _, f2, by rw [e2]; exact f3, .inr ⟨rfl, A2, _, rfl, f4, hj2⟩⟩
    | exit j =>
      refine Settle.mono hs ?_
      rintro s ⟨A2, h2, e2, hj2⟩
      obtain ⟨f1, f2, f3, f4⟩ := fin .done (some (.exit j)) A2 h2
      exact ⟨by rw [e2]; exact f1, _, f2, by rw [e2]; exact f3, .inr ⟨rfl, A2, _, rfl, f4, hj2⟩⟩
    | goto j => exact hs.elim
    | panic j => exact hs.elim
    | outgrown => exact hs.elim

/-! ### a variable's block that is not written any more -/
theorem Enc.freezeP {c : Ctx} (hok : Ok c) {b L off : Nat} {ty : TypeId} {es : Nat} {cells : List AV} {v : Value} (h : Enc c (.ptr b L off) v) (hH : c.H b = some (.row ty es cells)) (hL : cells.length = L) : Enc (c.drop b) (.cptr (cells.drop off)) v := by
  cases h with
  | ptr _ _ _ _ _ hb hL' hv =>
    obtain rfl := hv _ hH hL
    obtain ⟨arr, g1, g2, g3⟩ := hok.blk b _ hH
    refine .cptr _ (c.μ b) off (fun i => arr.getD (off + i) undef) ?_ (Array.getElem?_eq_some_iff.1 g1).1 (fun i hi => ?_) (fun i hi => ?_)
    · rintro ⟨i, hi, e⟩
      cases hx : (c.drop b).H i with
      | none => have hi' : ABlk.mut ((c.drop b).H i) := hi; rw [hx] at hi'; exact hi'
      | some x =>
        obtain ⟨hne, hci⟩ := c.drop_H b i x hx
        exact hne (hok.inj i b (by rw [hci]; simp) (by rw [hH]; simp) e)
    · have hi' : off + i < cells.length := by simp only [List.length_drop] at hi; omega
      have h6 : off + i < arr.size := by omega
      show World.cell? c.w _ = _
      simp only [World.cell?, g1]
      rw [Array.getD_eq_getD_getElem?]
      simp [h6]
    · have hi' : off + i < cells.length := by simp only [List.length_drop] at hi; omega
      have h6 : off + i < arr.size := by omega
      have := (g3 (off + i) hi' h6).later (c.drop_later b)
      simpa [Array.getD_eq_getD_getElem?, h6] using this
def frzP1 (b : Nat) (cells : List AV) : AV → AV
  | .ptr b' L off => if b' = b ∧ cells.length = L then .cptr (cells.drop off) else .ptr b' L off
  | x => x
def frzP (b : Nat) (cells : List AV) : AV → AV
  | .fn f first caps => .fn f first (caps.map (frzP1 b cells))
  | x => frzP1 b cells x
theorem enc_frzP1 {c : Ctx} (hok : Ok c) {b : Nat} {ty : TypeId} {es : Nat} {cells : List AV} (hH : c.H b = some (.row ty es cells)) (x : AV) (v : Value) (h : Enc c x v) : Enc (c.drop b) (frzP1 b cells x) v := by
  unfold frzP1
  split
  · split
    · rename_i e; obtain ⟨rfl, e⟩ := e; exact Enc.freezeP hok h hH e
    · exact h.later (c.drop_later b)
  · exact h.later (c.drop_later b)
theorem enc_frzP {c : Ctx} (hok : Ok c) {b : Nat} {ty : TypeId} {es : Nat} {cells : List AV} (hH : c.H b = some (.row ty es cells)) (x : AV) (v : Value) (h : Enc c x v) : Enc (c.drop b) (frzP b cells x) v := by
  unfold frzP
  split
  · cases h with
    | fn f first caps fv cv hf hcs h1 h2 => exact .fn _ _ _ _ _ hf (by simpa using hcs) (fun i hi hi' => (h1 i hi hi').later (c.drop_later b)) (Enc.list_map (enc_frzP1 hok hH) h2)
  · exact enc_frzP1 hok hH _ _ h
theorem SetR.frzP {Q : AV → AHeap → Prop} {r : AV} {H : AHeap} (b : Nat) {ty : TypeId} {es : Nat} {cells : List AV} (hb : H b = some (.row ty es cells)) (h : SetR Q (frzP b cells r) (H.upd b none)) : SetR Q r H :=
  SetR.join fun c v hH hok he => ⟨c.drop b, _, rfl, Ctx.drop_ok hok b, c.drop_later b, enc_frzP hok (hH ▸ hb) _ _ he, by show SetR Q _ (c.H.upd b none); rw [hH]; exact h⟩

/-! ### rows that grow, whatever they hold -/
def growC (H0 : AHeap) (ty es n : Nat) (cells : List AV) (x : AV) (H : AHeap) : Prop :=
  (n = 0 ∧ cells = [] ∧ x = .seq 0 [] true ∧ H = H0) ∨ (0 < n ∧ cells.length = n * es ∧ ∃ b, H0 b = none ∧ x = .own b (n * es) 0 n false ∧ H = H0.upd b (some (.row ty es cells)))
theorem growC_nil {H0 : AHeap} {ty es : Nat} : growC H0 ty es 0 [] (.seq 0 [] true) H0 := .inl ⟨rfl, rfl, rfl, rfl⟩
theorem growC_le {H0 H : AHeap} {ty es n : Nat} {cells : List AV} {x : AV} (h : growC H0 ty es n cells x H) : Le H0 H := by
  rcases h with ⟨_, _, _, rfl⟩ | ⟨_, _, b, hb, _, rfl⟩
  · exact Le.refl _
  · exact (Le.refl _).upd hb
theorem growC_old {H0 H : AHeap} {ty es n : Nat} {cells : List AV} {x : AV} (h : growC H0 ty es n cells x H) {p : Nat} {y : ABlk} (hp : H0 p = some y) : H p = some y := growC_le h p y hp
theorem app_C {H0 H : AHeap} {ty es bytes n m : Nat} {cells ys : List AV} {x : AV} {t : Bool} {K : AV → AHeap → Prop} (h : growC H0 ty es n cells x H) (hy : ys.length = m * es) (hc : ys.all AV.cell = true) (hm : 0 < m) (hb : (n + m) * bytes ≤ 70368744177664) (hb2 : n + m ≤ 70368744177664)
    (k : ∀ x' H', growC H0 ty es (n + m) (cells ++ ys) x' H' → K x' H') : appV H ty es bytes x (.seq m ys t) K := by
  refine .inl ⟨hy, hc, ?_⟩
  rcases h with ⟨rfl, rfl, rfl, rfl⟩ | ⟨hn, hl, b, hb', rfl, rfl⟩
  · refine ⟨rfl, by simp, hb, hb2, fun e => absurd e (by omega), fun _ b hb' => ?_⟩
    exact k _ _ (.inr ⟨by omega, by simp [hy], b, hb', rfl, by simp⟩)
  · dsimp only
    rw [upd_same]
    refine ⟨hl, rfl, rfl, rfl, rfl, hb, hb2, ?_⟩
    exact k _ _ (.inr ⟨by omega, by rw [List.length_append, hl, hy, Nat.add_mul], b, hb', rfl, by rw [upd_upd]⟩)
theorem growC_fin {H0 H : AHeap} {ty es n : Nat} {cells : List AV} {x : AV} {Q : AV → AHeap → Prop} (h : growC H0 ty es n cells x H) (hq : Q (.seq n cells false) H0) : SetR Q x H := by
  rcases h with ⟨rfl, rfl, rfl, rfl⟩ | ⟨_, hl, b, hb, rfl, rfl⟩
  · exact SetR.loose (SetR.now hq)
  · refine SetR.frz b (upd_same _ _ _) ?_
    rw [upd_upd, upd_back _ hb]
    have e : frz b es cells (.own b (n * es) 0 n false) = .seq n cells false := by simp [frz, frz2, frz1, hl, List.take_of_length_le]
    rw [e]; exact SetR.now hq
theorem Settle.grownC {K : St → Prop} {D : List Nat} {E : Env} {H0 H : AHeap} {ty es n : Nat} {cells : List AV} {x : AV} (t : Nat) (he : E.get t = x) (h : growC H0 ty es n cells x H) (k : Settle K ⟨D, E.set t (.seq n cells false), H0⟩) : Settle K ⟨D, E, H⟩ := by
  rcases h with ⟨rfl, rfl, rfl, rfl⟩ | ⟨_, hl, b, hb, rfl, rfl⟩
  · refine Settle.loose t ?_
    rw [he]; exact k
  · refine Settle.freeze t he (upd_same _ _ _) (by simp [hl]) (.inr (by simp)) ?_
    rw [upd_upd, upd_back _ hb]
    have e : AV.seq n ((cells.drop 0).take (n * es)) false = .seq n cells false := by simp [hl, List.take_of_length_le]
    rw [e]; exact k

def growB (H0 : AHeap) (p tb ty es n : Nat) (cells : List AV) (H : AHeap) : Prop :=
  H0 p = none ∧ ((n = 0 ∧ cells = [] ∧ H = H0.upd p (some (.row tb 0 [.seq 0 [] true]))) ∨
    (0 < n ∧ cells.length = n * es ∧ ∃ b, Ap b p ∧ H0 b = none ∧ H = (H0.upd b (some (.row ty es cells))).upd p (some (.row tb 0 [.own b (n * es) 0 n false]))))
theorem growB_nil {H0 : AHeap} {p tb ty es : Nat} (hp : H0 p = none) : growB H0 p tb ty es 0 [] (H0.upd p (some (.row tb 0 [.seq 0 [] true]))) := ⟨hp, .inl ⟨rfl, rfl, rfl⟩⟩
theorem growB_app {H0 H : AHeap} {p tb ty es bytes n m : Nat} {cells : List AV} (h : growB H0 p tb ty es n cells H) : ∃ x, H p = some (.row tb 0 [x]) ∧
    ∀ {ys : List AV} {t : Bool} {K : AV → AHeap → Prop}, ys.length = m * es → ys.all AV.cell = true → 0 < m → (n + m) * bytes ≤ 70368744177664 → n + m ≤ 70368744177664 →
      (∀ x' H', H' p = some (.row tb 0 [x]) → AV.cells x' = some [x'] → growB H0 p tb ty es (n + m) (cells ++ ys) (H'.upd p (some (.row tb 0 [x']))) → K x' H') → appV H ty es bytes x (.seq m ys t) K := by
  obtain ⟨hp, h⟩ := h
  rcases h with ⟨rfl, rfl, rfl⟩ | ⟨hn, hl, b, hbp, hb', rfl⟩
  · refine ⟨_, upd_same _ _ _, fun {ys t K} hy hc hm hb hb2 k => .inl ⟨hy, hc, rfl, by simp, hb, hb2, fun e => absurd e (by omega), fun _ b hbn => ?_⟩⟩
    obtain ⟨b1, b2⟩ := upd_none.1 hbn
    refine k _ _ ?_ rfl ⟨hp, .inr ⟨by omega, by simp [hy], b, b1, b2, ?_⟩⟩
    · rw [upd_other _ _ (Ne.symm b1), upd_same]
    · rw [List.nil_append, upd_comm _ _ _ (Ne.symm b1), upd_upd]
  · refine ⟨_, upd_same _ _ _, fun {ys t K} hy hc hm hb hb2 k => .inl ⟨hy, hc, ?_⟩⟩
    dsimp only
    rw [upd_other _ _ hbp, upd_same]
    refine ⟨hl, rfl, rfl, rfl, rfl, hb, hb2, ?_⟩
    refine k _ _ ?_ rfl ⟨hp, .inr ⟨by omega, by rw [List.length_append, hl, hy, Nat.add_mul], b, hbp, hb', ?_⟩⟩
    · rw [upd_other _ _ (Ne.symm hbp), upd_same]
    · rw [upd_comm _ _ _ (Ne.symm hbp), upd_upd, upd_upd]
theorem growB_un {A B : AHeap} {p tb ty es n : Nat} {cells : List AV} (h : growB nilH p tb ty es n cells A) (hd : Dj A B) : growB B p tb ty es n cells (Un A B) := by
  obtain ⟨_, h⟩ := h
  rcases h with ⟨rfl, rfl, rfl⟩ | ⟨hn, hl, b, hbp, hb', rfl⟩
  · exact ⟨dj_at hd (upd_same _ _ _), .inl ⟨rfl, rfl, by rw [un_upd, un_nil]⟩⟩
  · refine ⟨dj_at hd (upd_same _ _ _), .inr ⟨hn, hl, b, hbp, dj_at (b := b) (x := .row ty es cells) hd (by rw [upd_other _ _ hbp, upd_same]), by rw [un_upd, un_upd, un_nil]⟩⟩
theorem growB_nu {B H : AHeap} {p tb ty es n : Nat} {cells : List AV} (h : growB B p tb ty es n cells H) : ∃ A, Dj A B ∧ H = Un A B ∧ growB nilH p tb ty es n cells A := by
  obtain ⟨hp, h⟩ := h
  rcases h with ⟨rfl, rfl, rfl⟩ | ⟨hn, hl, b, hbp, hb', rfl⟩
  · exact ⟨_, dj_upd dj_nil hp, by rw [un_upd, un_nil], growB_nil rfl⟩
  · exact ⟨_, dj_upd (dj_upd dj_nil hb') hp, by rw [un_upd, un_upd, un_nil], rfl, .inr ⟨hn, hl, b, hbp, rfl, rfl⟩⟩
theorem growB_get {H0 H : AHeap} {p tb ty es n : Nat} {cells : List AV} (h : growB H0 p tb ty es n cells H) : ∃ x, H p = some (.row tb 0 [x]) ∧ ((x = .seq 0 [] true ∧ n = 0 ∧ cells = []) ∨ (0 < n ∧ cells.length = n * es ∧ ∃ b, x = .own b (n * es) 0 n false ∧ H b = some (.row ty es cells))) ∧ Le H0 H := by
  obtain ⟨hp, h⟩ := h
  rcases h with ⟨rfl, rfl, rfl⟩ | ⟨hn, hl, b, hbp, hb', rfl⟩
  · exact ⟨_, upd_same _ _ _, .inl ⟨rfl, rfl, rfl⟩, (Le.refl _).upd hp⟩
  · refine ⟨_, upd_same _ _ _, .inr ⟨hn, hl, b, rfl, by rw [upd_other _ _ hbp, upd_same]⟩, ((Le.refl _).upd hb').upd (by rw [upd_other _ _ (Ne.symm hbp)]; exact hp)⟩
end Go.Proofs.YtanchgkiomfhhaaDoor.Fw

/- Rows of whole numbers: frozen or owned, read alike. -/
namespace Go.Proofs.YtanchgkiomfhhaaDoor.Fw
set_option linter.unusedSimpArgs false
set_option linter.unusedVariables false
open Go Go.Proofs.YtanchgkiomfhhaaDoor.Ma
set_option maxRecDepth 20000

def IC (zs : List Int) : List AV := zs.flatMap fun z => [IntB z, IntD z]
theorem IC_len (zs : List Int) : (IC zs).length = zs.length * 2 := by
  induction zs with
  | nil => rfl
  | cons a l ih => simp only [IC, List.flatMap_cons, List.length_append, List.length_cons, List.length_nil] at *; omega
theorem IC_snoc (zs : List Int) (z : Int) : IC (zs ++ [z]) = IC zs ++ [IntB z, IntD z] := by simp [IC, List.flatMap_append]
theorem IC_drop : ∀ (l : List Int) (i : Nat) (h : i < l.length), (IC l).drop (i * 2) = IntB (l[i]) :: IntD (l[i]) :: (IC l).drop (i * 2 + 2)
  | a :: l, 0, _ => rfl
  | a :: l, i + 1, h => by
    have := IC_drop l i (by simpa using h)
    rw [show (i + 1) * 2 = i * 2 + 2 by omega]
    show ((IntB a :: IntD a :: IC l).drop (i * 2 + 2)) = _
    simp only [List.drop_succ_cons, List.getElem_cons_succ]
    rw [this]
    show _ = _ :: _ :: ((IntB a :: IntD a :: IC l).drop (i * 2 + 2 + 2))
    simp only [List.drop_succ_cons]
def RowI (H : AHeap) (x : AV) (zs : List Int) : Prop :=
  (∃ t, x = .seq zs.length (IC zs) t) ∨ ∃ b ty t, x = .own b (zs.length * 2) 0 zs.length t ∧ H b = some (.row ty 2 (IC zs))
theorem RowI.le {H H' : AHeap} {x : AV} {zs : List Int} (h : RowI H x zs) (hl : Le H H') : RowI H' x zs := by
  rcases h with h | ⟨b, ty, t, e, hb⟩
  · exact .inl h
  · exact .inr ⟨b, ty, t, e, hl b _ hb⟩
theorem RowI.nil {H : AHeap} : RowI H (.seq 0 [] true) [] := .inl ⟨true, rfl⟩
theorem RowI.grown {H0 H : AHeap} {ty : TypeId} {x : AV} {zs : List Int} (h : growC H0 ty 2 zs.length (IC zs) x H) : RowI H x zs := by
  rcases h with ⟨h1, h2, rfl, rfl⟩ | ⟨h1, h2, b, hb, rfl, rfl⟩
  · have : zs = [] := List.length_eq_zero_iff.1 h1
    subst this; exact RowI.nil
  · exact .inr ⟨b, ty, false, rfl, upd_same _ _ _⟩
theorem RowI.len {H : AHeap} {x : AV} {zs : List Int} (h : RowI H x zs) (hn : zs.length < 9223372036854775808) {K : AV → Prop} : lenW false x K = K (.int .i64 ((zs.length : Nat) : Int)) := by
  rcases h with ⟨t, rfl⟩ | ⟨b, ty, t, rfl, hb⟩ <;> simp [lenW, hn]
theorem RowI.get {H : AHeap} {x : AV} {zs : List Int} (h : RowI H x zs) {i : Nat} (hi : i < zs.length) : ∃ p, (∀ {k : IntKind} {K : AV → Prop}, (liveS H x ∧ idxAW 2 x (.int k (i : Int)) K) ↔ K p) ∧ ∀ {K : AV → Prop}, loadW H (some 2) p K ↔ K (IntA (zs[i])) := by
  rcases h with ⟨t, rfl⟩ | ⟨b, ty, t, rfl, hb⟩
  · refine ⟨.cptr ((IC zs).drop (i * 2)), fun {k K} => ?_, fun {K} => ?_⟩
    · simp [liveS, idxAW, IC_len, hi]
    · simp only [loadW, cellsAt, IC_drop zs i hi]; simp [IntA_eq]
  · have hl := IC_len zs
    refine ⟨.ptr b (zs.length * 2) (i * 2), fun {k K} => ?_, fun {K} => ?_⟩
    · simp [liveS, idxAW, hb, hl, hi]
    · simp only [loadW, cellsAt, hb, IC_drop zs i hi]
      simp [IntA_eq, hl]
      omega
end Go.Proofs.YtanchgkiomfhhaaDoor.Fw

/- Rows of whole numbers: plain laws. -/
namespace Go.Proofs.YtanchgkiomfhhaaDoor.Fw
set_option linter.unusedSimpArgs false
set_option linter.unusedVariables false
open Go Go.Proofs.YtanchgkiomfhhaaDoor.Ma

def cmpL : List Int → List Int → Int
  | x :: xs, y :: ys => if cmpI x y = 0 then cmpL xs ys else cmpI x y
  | _, _ => 0
def cmpR (zs ws : List Int) : Int := if zs.length < ws.length then -1 else if ws.length < zs.length then ((1 : Nat) : Int) else cmpL zs ws
def widS (w x : Int) : Int := if w < (x.natAbs : Int) then (x.natAbs : Int) else w
def widF (w : Int) (zs : List Int) : Int := zs.foldl widS w
theorem Bd.widS {k : Nat} {w x : Int} (hw : Bd k w) (hx : Bd k x) : Bd k (widS w x) := by
  unfold Fw.widS
  split
  · exact hx.abs
  · exact hw
theorem Bd.widF {k : Nat} : ∀ {zs : List Int} {w : Int}, Bd k w → (∀ z, z ∈ zs → Bd k z) → Bd k (widF w zs)
  | [], _, h, _ => h
  | z :: zs, w, h, h2 => Bd.widF (zs := zs) (h.widS (h2 z (by simp))) fun y hy => h2 y (by simp [hy])
def gcdF (g : Nat) (zs : List Int) : Nat := zs.foldl (fun g x => Int.gcd (g : Int) x) g
def contN (zs : List Int) : Nat := gcdF 0 zs
theorem Bd.gcdF {k : Nat} : ∀ {zs : List Int} {g : Nat}, Bd k (g : Int) → (∀ z, z ∈ zs → Bd k z) → Bd k ((gcdF g zs : Nat) : Int)
  | [], _, h, _ => h
  | z :: zs, g, h, h2 => by
    refine Bd.gcdF (zs := zs) (g := Int.gcd (g : Int) z) ?_ fun y hy => h2 y (by simp [hy])
    have hz := h2 z (by simp)
    unfold Bd at *
    by_cases hg : g = 0
    · subst hg
      rw [show Int.gcd ((0 : Nat) : Int) z = z.natAbs by simp [Int.gcd]]
      simpa using hz
    · have : Int.gcd (g : Int) z ≤ g := Nat.le_of_dvd (by omega) (Int.ofNat_dvd.1 (Int.gcd_dvd_left (g : Int) z))
      simp only [Int.natAbs_natCast] at h ⊢
      omega
def primG (zs : List Int) : Int := match zs.find? (fun z => decide (z ≠ 0)) with
  | some z => if z < 0 then -((contN zs : Nat) : Int) else ((contN zs : Nat) : Int)
  | none => 0
def primR (zs : List Int) : List Int := zs.map (· / primG zs)
def zipI (f : Int → Int → Int) (zs ws : List Int) : List Int := List.zipWith f zs ws
def dotF (s : Int) (zs ws : List Int) : Int := (zipI (· * ·) zs ws).foldl (· + ·) s
end Go.Proofs.YtanchgkiomfhhaaDoor.Fw

/- Polynomials over the whole numbers: plain laws. -/
namespace Go.Proofs.YtanchgkiomfhhaaDoor.Fw
set_option linter.unusedSimpArgs false
set_option linter.unusedVariables false
open Go Go.Proofs.YtanchgkiomfhhaaDoor.Ma

def co (zs : List Int) (i : Nat) : Int := zs.getD i 0
theorem co_nil (i : Nat) : co [] i = 0 := by simp [co]
theorem co_zero (z : Int) (zs : List Int) : co (z :: zs) 0 = z := rfl
theorem co_succ (z : Int) (zs : List Int) (i : Nat) : co (z :: zs) (i + 1) = co zs i := by simp [co]
theorem co_ge {zs : List Int} {i : Nat} (h : zs.length ≤ i) : co zs i = 0 := by simp [co, List.getD_eq_getElem?_getD, List.getElem?_eq_none h]
theorem co_get {zs : List Int} {i : Nat} (h : i < zs.length) : co zs i = zs[i] := by simp [co, List.getD_eq_getElem?_getD, h]
def degN : List Int → Nat
  | [] => 0
  | z :: zs => if degN zs = 0 then (if z = 0 then 0 else 1) else degN zs + 1
theorem degN_le : ∀ zs : List Int, degN zs ≤ zs.length
  | [] => Nat.le_refl _
  | z :: zs => by
    have := degN_le zs
    unfold degN
    split
    · split <;> simp
    · simp; omega
theorem degN_high : ∀ (zs : List Int) (j : Nat), degN zs ≤ j → co zs j = 0
  | [], j, _ => co_nil j
  | z :: zs, 0, h => by
    unfold degN at h
    split at h
    · split at h
      · assumption
      · omega
    · omega
  | z :: zs, j + 1, h => by
    rw [co_succ]
    refine degN_high zs j ?_
    unfold degN at h
    split at h
    · omega
    · omega
theorem degN_top : ∀ (zs : List Int), 0 < degN zs → co zs (degN zs - 1) ≠ 0
  | [], h => by simp [degN] at h
  | z :: zs, h => by
    unfold degN at h ⊢
    split
    · rename_i h0
      rw [if_pos h0] at h
      split at h
      · omega
      · rename_i h1; rw [if_neg h1]; exact h1
    · rename_i h0
      have := degN_top zs (by omega)
      rw [show degN zs + 1 - 1 = (degN zs - 1) + 1 by omega, co_succ]
      exact this
theorem degN_of {zs : List Int} {n : Nat} (h1 : ∀ j, n ≤ j → co zs j = 0) (h2 : 0 < n → co zs (n - 1) ≠ 0) : degN zs = n := by
  rcases Nat.lt_trichotomy (degN zs) n with h | h | h
  · exact absurd (degN_high zs (n - 1) (by omega)) (h2 (by omega))
  · exact h
  · exact absurd (h1 (degN zs - 1) (by omega)) (degN_top zs (by omega))
def trimP (zs : List Int) : List Int := zs.take (degN zs)
theorem trimP_len (zs : List Int) : (trimP zs).length = degN zs := by simp [trimP, degN_le]
def longP (f : Int → Int → Int) (a b : List Int) : List Int := (List.range (Nat.max a.length b.length)).map fun i => f (co a i) (co b i)
theorem longP_len {f : Int → Int → Int} {a b : List Int} : (longP f a b).length = Nat.max a.length b.length := by simp [longP]
theorem co_map {n : Nat} {f : Nat → Int} {i : Nat} (h : i < n) : co ((List.range n).map f) i = f i := by rw [co_get (by simpa using h)]; simp
theorem co_mapge {n : Nat} {f : Nat → Int} {i : Nat} (h : n ≤ i) : co ((List.range n).map f) i = 0 := co_ge (by simpa using h)
def addP := longP (· + ·)
def subP := longP (· - ·)
def scaleP (a : List Int) (c : Int) : List Int := a.map (· * c)
theorem scale_long (a : List Int) (c : Int) : longP (fun x _ => x * c) a [] = scaleP a c := by
  refine List.ext_getElem (by rw [longP_len]; simp [scaleP, Nat.max]) fun i h1 h2 => ?_
  have h3 : i < a.length := by simpa [scaleP] using h2
  simp only [longP, scaleP, List.getElem_map, List.getElem_range, co_get h3]
def shiftP (n : Nat) (a : List Int) : List Int := List.replicate n 0 ++ a

def shF (f : Nat → Int) : Nat → Int
  | 0 => 0
  | n + 1 => f n
def mf : List Int → (Nat → Int) → Nat → Int
  | [], _, _ => 0
  | x :: a, g, n => x * g n + shF (mf a g) n
def mulP (a b : List Int) : List Int := if a.length = 0 ∨ b.length = 0 then [] else (List.range (a.length + b.length - 1)).map (mf a (co b))
theorem shF_add {f g : Nat → Int} (n : Nat) : shF (fun i => f i + g i) n = shF f n + shF g n := by cases n <;> simp [shF]
theorem shF_mul {f : Nat → Int} {c : Int} (n : Nat) : shF (fun i => c * f i) n = c * shF f n := by cases n <;> simp [shF]
theorem shF_congr {f g : Nat → Int} (h : ∀ n, f n = g n) (n : Nat) : shF f n = shF g n := by cases n <;> simp [shF, h]
theorem mf_congr {g h : Nat → Int} (e : ∀ n, g n = h n) : ∀ (a : List Int) (n : Nat), mf a g n = mf a h n
  | [], _ => rfl
  | x :: a, n => by unfold mf; rw [e, shF_congr (mf_congr e a)]
theorem mf_add {g h : Nat → Int} : ∀ (a : List Int) (n : Nat), mf a (fun i => g i + h i) n = mf a g n + mf a h n
  | [], _ => rfl
  | x :: a, n => by
    unfold mf
    rw [shF_congr (mf_add a), shF_add, Int.mul_add]; omega
theorem mf_smul {c : Int} {g : Nat → Int} : ∀ (a : List Int) (n : Nat), mf a (fun i => c * g i) n = c * mf a g n
  | [], _ => by simp [mf]
  | x :: a, n => by
    unfold mf
    rw [shF_congr (mf_smul a), shF_mul, Int.mul_add, Int.mul_left_comm]
theorem mf_sh {g : Nat → Int} : ∀ (a : List Int) (n : Nat), mf a (shF g) n = shF (mf a g) n
  | [], n => by cases n <;> rfl
  | x :: a, 0 => by unfold mf; simp [shF]
  | x :: a, n + 1 => by
    unfold mf
    show x * g n + mf a (shF g) n = x * g n + shF (mf a g) n
    rw [mf_sh a]
theorem mf_co (a b : List Int) : ∀ n, mf a (co b) n = mf b (co a) n := by
  induction a with
  | nil =>
    intro n
    have : ∀ (b : List Int) (n : Nat), mf b (co []) n = 0 := fun b => by
      induction b with
      | nil => intro n; rfl
      | cons y b ih => intro n; unfold mf; rw [co_nil, shF_congr (g := fun _ => 0) ih]; cases n <;> simp [shF]
    rw [this]; rfl
  | cons x a ih =>
    intro n
    have hd : ∀ i, co (x :: a) i = x * co [1] i + shF (co a) i := fun i => by
      cases i with
      | zero => simp [co_zero, shF]
      | succ i => rw [co_succ, co_succ, co_nil]; simp [shF]
    have h1 : ∀ (b : List Int) (n : Nat), mf b (co [1]) n = co b n := fun b => by
      induction b with
      | nil => intro n; rw [co_nil]; rfl
      | cons y b ih2 =>
        intro n
        unfold mf
        rw [shF_congr ih2]
        cases n with
        | zero => simp [co_zero, shF]
        | succ n => rw [co_succ, co_succ, co_nil]; simp [shF]
    rw [mf_congr hd, mf_add, mf_smul, h1, mf_sh]
    show x * co b n + shF (mf a (co b)) n = _
    rw [shF_congr ih]
theorem mf_high : ∀ (a : List Int) {g : Nat → Int} {m : Nat}, (∀ j, m ≤ j → g j = 0) → ∀ j, a.length + m ≤ j + 1 → mf a g j = 0
  | [], _, _, _, _, _ => rfl
  | x :: a, g, m, h, j, hj => by
    unfold mf
    simp only [List.length_cons] at hj
    rw [h j (by omega)]
    cases j with
    | zero => simp [shF]
    | succ j =>
      show x * 0 + mf a g j = 0
      cases a with
      | nil => simp [mf]
      | cons y a => rw [mf_high (y :: a) h j (by simp at hj ⊢; omega)]; simp
theorem co_mul (a b : List Int) (n : Nat) : co (mulP a b) n = mf a (co b) n := by
  unfold mulP
  split
  · rename_i h
    rw [co_nil]
    rcases h with h | h
    · rw [List.length_eq_zero_iff.1 h]; rfl
    · rw [List.length_eq_zero_iff.1 h, mf_co]; rfl
  · rename_i h
    by_cases hn : n < a.length + b.length - 1
    · exact co_map hn
    · rw [co_mapge (by omega), mf_high a (m := b.length) (fun j hj => co_ge hj) n (by omega)]
theorem mulP_len {a b : List Int} (ha : a.length ≠ 0) (hb : b.length ≠ 0) : (mulP a b).length = a.length + b.length - 1 := by simp [mulP, ha, hb]
theorem mulP_le (a b : List Int) : (mulP a b).length ≤ a.length + b.length := by
  unfold mulP; split
  · simp
  · simp

/-! ### the ring -/
/-! ### how products are made -/
theorem mf_snoc (x : Int) {g : Nat → Int} : ∀ (a : List Int) (n : Nat), mf (a ++ [x]) g n = mf a g n + if a.length ≤ n then x * g (n - a.length) else 0
  | [], n => by
    simp only [List.nil_append, mf, List.length_nil, Nat.zero_le, if_true, Nat.sub_zero]
    rw [shF_congr (g := fun _ => 0) (fun _ => rfl)]
    cases n <;> simp [shF]
  | y :: a, 0 => by simp [mf, shF]
  | y :: a, n + 1 => by
    show y * g (n + 1) + mf (a ++ [x]) g n = y * g (n + 1) + mf a g n + _
    rw [mf_snoc x a n]
    simp only [List.length_cons, Nat.add_le_add_iff_right, Nat.add_sub_add_right]
    omega
theorem mf_bound {X Y : Nat} {g : Nat → Int} (hg : ∀ j, (g j).natAbs ≤ Y) : ∀ (a : List Int) (n : Nat), (∀ x, x ∈ a → x.natAbs ≤ X) → (mf a g n).natAbs ≤ a.length * (X * Y)
  | [], _, _ => by simp [mf]
  | x :: a, n, h => by
    have h1 : (x * g n).natAbs ≤ X * Y := by
      rw [Int.natAbs_mul]; exact Nat.mul_le_mul (h x (by simp)) (hg n)
    have h2 : (shF (mf a g) n).natAbs ≤ a.length * (X * Y) := by
      cases n with
      | zero => simp [shF]
      | succ n => exact mf_bound hg a n fun y hy => h y (by simp [hy])
    unfold mf
    have := Int.natAbs_add_le (x * g n) (shF (mf a g) n)
    rw [List.length_cons, Nat.add_mul]
    omega

/-! ### values -/
def homP (A B : Int) : List Int → Int
  | [] => 0
  | z :: zs => z * B ^ zs.length + A * homP A B zs
def homF (A B : Int) : Nat → (Nat → Int) → Int
  | 0, g => g 0
  | N + 1, g => g 0 * B ^ (N + 1) + A * homF A B N (fun i => g (i + 1))
theorem hom_drop {A B : Int} {zs : List Int} {i : Nat} (h : i < zs.length) : homP A B (zs.drop i) = zs[i] * B ^ (zs.length - (i + 1)) + A * homP A B (zs.drop (i + 1)) := by
  rw [List.drop_eq_getElem_cons h]
  simp [homP]
theorem hom_bound {A B : Int} {X : Nat} (hA : A.natAbs ≤ 16) (hB : B.natAbs ≤ 16) : ∀ zs : List Int, (∀ z, z ∈ zs → z.natAbs ≤ X) → (homP A B zs).natAbs ≤ zs.length * X * 16 ^ zs.length
  | [], _ => by simp [homP]
  | z :: zs, h => by
    have ih := hom_bound hA hB zs fun y hy => h y (by simp [hy])
    have hz := h z (by simp)
    have h1 : (z * B ^ zs.length).natAbs ≤ X * 16 ^ zs.length := by
      rw [Int.natAbs_mul, Int.natAbs_pow]
      exact Nat.mul_le_mul hz (Nat.pow_le_pow_left hB _)
    have h2 : (A * homP A B zs).natAbs ≤ 16 * (zs.length * X * 16 ^ zs.length) := by
      rw [Int.natAbs_mul]; exact Nat.mul_le_mul hA ih
    have h3 := Int.natAbs_add_le (z * B ^ zs.length) (A * homP A B zs)
    have h4 : (zs.length + 1) * X * 16 ^ (zs.length + 1) = 16 * (zs.length * X * 16 ^ zs.length) + 16 * (X * 16 ^ zs.length) := by
      rw [Nat.pow_succ, Nat.add_mul, Nat.add_mul, Nat.one_mul]
      simp only [Nat.mul_comm, Nat.mul_left_comm, Nat.mul_assoc]
    show (z * B ^ zs.length + A * homP A B zs).natAbs ≤ (zs.length + 1) * X * 16 ^ (zs.length + 1)
    omega
end Go.Proofs.YtanchgkiomfhhaaDoor.Fw

/- Rows that grow, two at once, or beside memory that turns. -/
namespace Go.Proofs.YtanchgkiomfhhaaDoor.Fw
set_option linter.unusedSimpArgs false
set_option linter.unusedVariables false
open Go Go.Proofs.YtanchgkiomfhhaaDoor.Ma
set_option maxRecDepth 20000

theorem growC_move {H0 H M : AHeap} {ty es n : Nat} {cells : List AV} {y : AV} (h : growC H0 ty es n cells y H) (hm : ∀ b, H0 b = none → H b ≠ none → M b = H b) : ∃ H1, growC H1 ty es n cells y M ∧ ∀ H2, Le H2 M → (∀ b, H0 b = none → H2 b = none) → Le H2 H1 := by
  rcases h with ⟨rfl, rfl, rfl, rfl⟩ | ⟨hn, hl, b, hb, rfl, rfl⟩
  · exact ⟨M, growC_nil, fun _ h _ => h⟩
  · have e := hm b hb (by rw [upd_same]; simp)
    rw [upd_same] at e
    refine ⟨M.upd b none, .inr ⟨hn, hl, b, upd_same _ _ _, rfl, by rw [upd_upd, upd_back _ e]⟩, fun H2 h h3 i x hi => ?_⟩
    have hib : i ≠ b := by rintro rfl; rw [h3 _ hb] at hi; cases hi
    rw [upd_other _ _ hib]; exact h i x hi
theorem growC_le2 {H1 H2 M : AHeap} {ty es n : Nat} {cells : List AV} {y : AV} (h : growC H1 ty es n cells y M) (hl : Le H2 H1) : ∃ M2, growC H2 ty es n cells y M2 ∧ Le M2 M := by
  rcases h with ⟨rfl, rfl, rfl, rfl⟩ | ⟨hn, hlen, b, hb, rfl, rfl⟩
  · exact ⟨H2, growC_nil, hl⟩
  · have hb2 : H2 b = none := by
      cases e : H2 b with
      | none => rfl
      | some x => have := hl b x e; rw [hb] at this; cases this
    refine ⟨_, .inr ⟨hn, hlen, b, hb2, rfl, rfl⟩, fun i x hi => ?_⟩
    by_cases e : i = b
    · subst e; rw [upd_same] at hi ⊢; exact hi
    · rw [upd_other _ _ e] at hi ⊢; exact hl i x hi
theorem growC_none {H0 H : AHeap} {ty es n : Nat} {cells : List AV} {y : AV} (h : growC H0 ty es n cells y H) {b : Nat} (hb : H b = none) : H0 b = none := by
  cases e : H0 b with
  | none => rfl
  | some x => rw [growC_le h b x e] at hb; cases hb
theorem growC_upd {H0 H : AHeap} {ty es n : Nat} {cells : List AV} {y : AV} (h : growC H0 ty es n cells y H) {q : Nat} {r : ABlk} (hq : H q = none) : growC (H0.upd q (some r)) ty es n cells y (H.upd q (some r)) := by
  rcases h with ⟨rfl, rfl, rfl, rfl⟩ | ⟨hn, hlen, b, hb, rfl, rfl⟩
  · exact growC_nil
  · obtain ⟨e, e2⟩ := upd_none.1 hq
    refine .inr ⟨hn, hlen, b, upd_none.2 ⟨Ne.symm e, hb⟩, rfl, upd_comm _ _ _ (Ne.symm e)⟩
end Go.Proofs.YtanchgkiomfhhaaDoor.Fw

/- Rows lent: what only reads may be handed rows that are one's own. -/
namespace Go.Proofs.YtanchgkiomfhhaaDoor.Fw
set_option linter.unusedSimpArgs false
set_option linter.unusedVariables false
open Go Go.Proofs.YtanchgkiomfhhaaDoor.Ma
set_option maxRecDepth 20000

def scal : AV → Bool
  | .int _ _ => true
  | .bool _ => true
  | .str _ => true
  | _ => false
theorem le_nil {H : AHeap} : Le nilH H := fun _ _ h => by cases h
def Lent (H : AHeap) (x y : AV) : Prop := ∀ (c : Ctx), c.H = H → Ok c → ∀ v, Enc c x v → Enc (c.dropTo nilH) y v
theorem Lent.same {H : AHeap} {x : AV} : Lent H x x := fun c _ _ _ h => h.later (c.dropTo_later le_nil)
theorem Lent.own {H : AHeap} {b ty es n : Nat} {t : Bool} {cells : List AV} (hH : H b = some (.row ty es cells)) (hL : cells.length = n * es) : Lent H (.own b (n * es) 0 n t) (.seq n cells t) := by
  intro c hc hok v he
  have h1 := Enc.freeze hok he (hc ▸ hH) hL (.inr (by omega))
  rw [List.drop_zero, List.take_of_length_le (by omega)] at h1
  exact h1.later ((c.drop b).dropTo_later le_nil)
theorem Lent.grown {H0 H : AHeap} {ty es n : Nat} {cells : List AV} {x : AV} (h : growC H0 ty es n cells x H) : Lent H x (.seq n cells false) := by
  rcases h with ⟨rfl, rfl, rfl, rfl⟩ | ⟨hn, hl, b, hb, rfl, rfl⟩
  · intro c _ _ v he
    exact enc_loose _ _ (he.later (c.dropTo_later le_nil))
  · exact Lent.own (upd_same _ _ _) hl
def LentL (H : AHeap) : List AV → List AV → Prop
  | [], [] => True
  | x :: xs, y :: ys => Lent H x y ∧ LentL H xs ys
  | _, _ => False
theorem LentL.len {H : AHeap} : ∀ {xs ys : List AV}, LentL H xs ys → ys.length = xs.length
  | [], [], _ => rfl
  | _ :: _, _ :: _, h => by simp [LentL.len h.2]
  | [], _ :: _, h => h.elim
  | _ :: _, [], h => h.elim
theorem LentL.get {H : AHeap} : ∀ {xs ys : List AV}, LentL H xs ys → ∀ i (h : i < xs.length) (h' : i < ys.length), Lent H (xs[i]) (ys[i])
  | _ :: _, _ :: _, h, 0, _, _ => h.1
  | _ :: _, _ :: _, h, i + 1, a, b => LentL.get h.2 i (by simpa using a) (by simpa using b)
  | [], [], _, _, a, _ => absurd a (by simp)
  | [], _ :: _, h, _, _, _ => h.elim
  | _ :: _, [], h, _, _, _ => h.elim
theorem PFn.frozen {P : Program} {f : FuncId} {args : List AV} {ty es n : Nat} {cells : List AV} (h : ∀ (H : AHeap) (Q : AV → AHeap → Prop), (∀ x H', growC H ty es n cells x H' → Q x H') → Run P f args H Q) : PFn P f args (.seq n cells false) := fun H Q hq =>
  Run.settle (h H _ fun _ _ g => growC_fin g hq)
/-! ### integers and rows, as they are read -/
section
variable {K : AV → Prop} {K2 : AV → AHeap → Prop} {H : AHeap} {k : IntKind} {n m : Int} {t : Bool}
theorem neq_int : binW .neq (.int k n) (.int k m) K ↔ K (.bool (!decide (n = m))) := by simp [binW, binInt]
theorem gtr_int : binW .gtr (.int k n) (.int k m) K ↔ K (.bool (decide (m < n))) := by simp [binW, binInt]
theorem lss_int : binW .lss (.int k n) (.int k m) K ↔ K (.bool (decide (n < m))) := by simp [binW, binInt]
theorem len_rw {n : Nat} {c : List AV} (h : n < 9223372036854775808) : lenW false (.seq n c t) K = K (.int .i64 ((n : Nat) : Int)) := by simp [lenW, h]
theorem idx_rw {es n i : Nat} {c : List AV} (hl : c.length = n * es) (h : i < n) : idxAW es (.seq n c t) (.int k (i : Int)) K = K (.cptr (c.drop (i * es))) := by simp [idxAW, hl, h]
end
end Go.Proofs.YtanchgkiomfhhaaDoor.Fw

/- Rows of whole numbers: what package row's functions answer. -/
namespace Go.Proofs.YtanchgkiomfhhaaDoor.Fw
set_option linter.unusedSimpArgs false
set_option linter.unusedVariables false
open Go Go.Proofs.YtanchgkiomfhhaaDoor.Ma
set_option maxRecDepth 20000

end Go.Proofs.YtanchgkiomfhhaaDoor.Fw

/- Decimal digits as bytes; a number's text, nine digits at a time. -/
namespace Go.Proofs.YtanchgkiomfhhaaDoor.Ma
set_option linter.unusedSimpArgs false
set_option linter.unusedVariables false

def chr (d : Nat) : UInt8 := UInt8.ofNat (48 + d)
theorem chr_nat {d : Nat} (h : d < 10) : (chr d).toNat = 48 + d := by unfold chr; rw [UInt8.toNat_ofNat']; omega
def dec (n : Nat) : List UInt8 := (digs 10 n).reverse.map chr
def wide (k n : Nat) : List UInt8 := (pad 10 n k).reverse.map chr
theorem dec_zero : dec 0 = [] := by simp [dec, digs_zero]
theorem wide_len {k n : Nat} (h : n < 10 ^ k) : (wide k n).length = k := by
  simp only [wide, List.length_map, List.length_reverse]
  exact pad_len (digs_len (by omega) k n h)
theorem dec_len {k n : Nat} (h : n < 10 ^ k) : (dec n).length ≤ k := by
  simp only [dec, List.length_map, List.length_reverse]
  exact digs_len (by omega) k n h
theorem last_append {l m : List Nat} (h : m ≠ []) : (l ++ m).getD ((l ++ m).length - 1) 0 = m.getD (m.length - 1) 0 := by
  have : 0 < m.length := List.length_pos_iff.2 h
  rw [List.getD_eq_getElem?_getD, List.getD_eq_getElem?_getD, List.length_append, List.getElem?_append_right (by omega)]
  congr 2; omega
theorem dec_app {k p m : Nat} (hp : p < 10 ^ k) (hm : 0 < m) : dec (p + 10 ^ k * m) = dec m ++ wide k p := by
  have hne : digs 10 m ≠ [] := fun e => by have := (digs_nil (B := 10) (by omega)).1 e; omega
  have hlen := pad_len (digs_len (B := 10) (by omega) k p hp)
  have e : digs 10 (p + 10 ^ k * m) = pad 10 p k ++ digs 10 m := by
    have h1 : Lim 10 (pad 10 p k ++ digs 10 m) := (pad_lim (by omega)).append (lim_digs (by omega) m)
    have h2 := digs_of (B := 10) (by omega) h1 (.inr (by rw [last_append hne]; exact digs_last (by omega) hm))
    rw [h2, val_append, pad_val (by omega), val_digs (by omega), hlen]
  simp only [dec, e, wide, List.reverse_append, List.map_append]
theorem wide_succ {j q : Nat} (h : q < 10 ^ (j + 1)) : wide (j + 1) q = chr (q / 10 ^ j) :: wide j (q % 10 ^ j) := by
  have hp : 0 < 10 ^ j := Nat.pow_pos (by omega)
  have hlt : q % 10 ^ j < 10 ^ j := Nat.mod_lt _ hp
  have hd : q / 10 ^ j < 10 := Nat.div_lt_of_lt_mul (by rw [Nat.pow_succ] at h; omega)
  have hlen := pad_len (digs_len (B := 10) (by omega) j _ hlt)
  have e : pad 10 q (j + 1) = pad 10 (q % 10 ^ j) j ++ [q / 10 ^ j] := by
    have h1 : Lim 10 (pad 10 (q % 10 ^ j) j ++ [q / 10 ^ j]) := (pad_lim (by omega)).append (Lim.one hd)
    have h2 := pad_of (B := 10) (by omega) h1
    rw [val_append, pad_val (by omega), hlen, val_one, List.length_append, hlen, Nat.mod_add_div] at h2
    exact h2.symm
  simp only [wide, e, List.reverse_append, List.map_append, List.reverse_singleton, List.map_cons, List.map_nil, List.singleton_append]
theorem wide_step {j p : Nat} : wide (j + 1) (p % 10 ^ (j + 1)) = chr (p / 10 ^ j % 10) :: wide j (p % 10 ^ j) := by
  have hp : 0 < 10 ^ (j + 1) := Nat.pow_pos (by omega)
  rw [wide_succ (Nat.mod_lt _ hp)]
  have e1 : p % 10 ^ (j + 1) / 10 ^ j = p / 10 ^ j % 10 := by rw [Nat.pow_succ, Nat.mod_mul_right_div_self]
  have e2 : p % 10 ^ (j + 1) % 10 ^ j = p % 10 ^ j := by rw [Nat.pow_succ]; exact Nat.mod_mod_of_dvd _ (Nat.dvd_mul_right _ _)
  rw [e1, e2]
theorem chr_48 {d : Nat} (h : d < 10) : (chr d = 48) ↔ d = 0 := by
  constructor
  · intro e
    have := congrArg UInt8.toNat e
    rw [chr_nat h] at this
    simp at this; omega
  · rintro rfl; rfl
theorem wide_trim {k p : Nat} : (wide k p).dropWhile (· == 48) = dec p := by
  have e : wide k p = List.replicate (k - (digs 10 p).length) 48 ++ dec p := by
    simp only [wide, pad, dec, List.reverse_append, List.map_append, List.reverse_replicate, List.map_replicate]
    rfl
  rw [e]
  have h : ∀ n (l : List UInt8), (List.replicate n 48 ++ l).dropWhile (· == 48) = l.dropWhile (· == 48) := by
    intro n
    induction n with
    | zero => intro l; simp
    | succ n ih => intro l; rw [List.replicate_succ, List.cons_append, List.dropWhile_cons]; simp [ih]
  rw [h]
  rcases Nat.eq_zero_or_pos p with hp | hp
  · subst hp; rw [dec_zero]; rfl
  · have hl := digs_last (B := 10) (by omega) hp
    have hne : digs 10 p ≠ [] := fun e => by have := (digs_nil (B := 10) (by omega)).1 e; omega
    obtain ⟨l, x, hx⟩ : ∃ l x, digs 10 p = l ++ [x] := ⟨_, _, (List.dropLast_concat_getLast hne).symm⟩
    have hx0 : x ≠ 0 := by
      rw [hx, last_append (by simp)] at hl
      simpa using hl
    have hx10 : x < 10 := lim_digs (B := 10) (by omega) p x (by rw [hx]; simp)
    have hd : dec p = chr x :: l.reverse.map chr := by simp [dec, hx]
    rw [hd, List.dropWhile_cons]
    have : (chr x == 48) = false := by
      rw [beq_eq_false_iff_ne]; exact fun h => hx0 ((chr_48 hx10).1 h)
    rw [this]; rfl

/-! ### a number, nine digits at a time -/
theorem digs_drop_pos {B n k : Nat} (hB : 2 ≤ B) (hk : k < (digs B n).length) : 0 < val B ((digs B n).drop k) := by
  have hn : 0 < n := by
    rcases Nat.eq_zero_or_pos n with h | h
    · subst h; rw [digs_zero] at hk; simp at hk
    · exact h
  have hl := digs_last hB hn
  have h1 : Lim B ((digs B n).drop k) := (lim_digs hB n).drop k
  have h2 : ((digs B n).drop k).getD (((digs B n).drop k).length - 1) 0 ≠ 0 := by
    rw [List.length_drop, List.getD_eq_getElem?_getD, List.getElem?_drop, ← List.getD_eq_getElem?_getD]
    have : k + ((digs B n).length - k - 1) = (digs B n).length - 1 := by omega
    rw [this]; exact hl
  have h3 := digs_of hB h1 (.inr h2)
  rcases Nat.eq_zero_or_pos (val B ((digs B n).drop k)) with h | h
  · rw [h, digs_zero] at h3
    have := congrArg List.length h3
    simp at this; omega
  · exact h
def decT (n : Nat) : List UInt8 := if n = 0 then [48] else dec n
theorem dec_pos {n : Nat} (h : 0 < n) : dec n ≠ [] := by
  intro e
  have : (digs 10 n) = [] := by simpa [dec] using e
  have := (digs_nil (B := 10) (by omega)).1 this
  omega
theorem piece_step {n k p : Nat} (hk : k < (digs 1000000000 n).length) (hp : p = (digs 1000000000 n).getD k 0) :
    p < 1000000000 ∧ dec (val 1000000000 ((digs 1000000000 n).drop k)) = dec (val 1000000000 ((digs 1000000000 n).drop (k + 1))) ++ (if k + 1 = (digs 1000000000 n).length then dec p else wide 9 p) := by
  have hlt : p < 1000000000 := hp ▸ (lim_digs (B := 1000000000) (by omega) n).getD (by omega) k
  refine ⟨hlt, ?_⟩
  rw [val_drop 1000000000 hk, ← hp]
  by_cases h : k + 1 = (digs 1000000000 n).length
  · rw [if_pos h, List.drop_of_length_le (by omega)]
    simp [val, dec_zero]
  · rw [if_neg h]
    have := digs_drop_pos (B := 1000000000) (n := n) (k := k + 1) (by omega) (by omega)
    exact dec_app (k := 9) hlt this
end Go.Proofs.YtanchgkiomfhhaaDoor.Ma

/- Slices held equal; strings without noughts ahead; the builder of strings. -/
namespace Go.Proofs.YtanchgkiomfhhaaDoor.Fw
set_option linter.unusedSimpArgs false
set_option linter.unusedVariables false
open Go Go.Proofs.YtanchgkiomfhhaaDoor.Ma
set_option maxRecDepth 20000

end Go.Proofs.YtanchgkiomfhhaaDoor.Fw

/- Strings: as lists of bytes; without noughts ahead; the builder of strings. -/
namespace Go.Proofs.YtanchgkiomfhhaaDoor.Fw
set_option linter.unusedSimpArgs false
set_option linter.unusedVariables false
open Go Go.Proofs.YtanchgkiomfhhaaDoor.Ma
set_option maxRecDepth 20000

def Sx (l : List UInt8) : AV := .str ⟨l.toArray⟩
theorem str_Sx {l : List UInt8} : AV.str ⟨l.toArray⟩ = Sx l := id rfl
theorem size_Sx {l : List UInt8} : (⟨l.toArray⟩ : ByteArray).size = l.length := by simp [ByteArray.size]
section
variable {K : AV → Prop} {K2 : AV → AHeap → Prop} {KD : AV → List Nat → Option (Nat × ABlk) → Prop} {l m : List UInt8} {k k' : IntKind} {H : AHeap}
theorem len_Sx : lenW true (Sx l) K = K (.int .i64 ((l.length : Nat) : Int)) := by simp only [Sx, lenW, size_Sx]
theorem idx_Sx {i : Nat} (h : i < l.length) : idxSW (Sx l) (.int k (i : Int)) K = K (.int .u8 (((l.getD i 0).toNat : Nat) : Int)) := by
  simp [Sx, idxSW, byteAt, size_Sx, h]
theorem extract_Sx {a b : Nat} : (⟨l.toArray⟩ : ByteArray).extract a b = ⟨((l.drop a).take (b - a)).toArray⟩ := by
  apply ByteArray.ext
  rw [ByteArray.data_extract]
  simp [List.extract_toArray]
theorem slc_Sx {a b : Nat} (hab : a ≤ b) (hb : b ≤ l.length) : slcSW (Sx l) (some (.int k (a : Int))) (some (.int k' (b : Int))) K = K (Sx ((l.drop a).take (b - a))) := by
  have h1 : (0 : Int) ≤ (a : Int) ∧ (a : Int) ≤ (b : Int) ∧ (b : Int) ≤ ((l.length : Nat) : Int) := by omega
  simp [Sx, slcSW, optI, size_Sx, h1, extract_Sx]
theorem slc_SxL {a : Nat} (hb : a ≤ l.length) : slcSW (Sx l) (some (.int k (a : Int))) none K = K (Sx (l.drop a)) := by
  have h1 : (0 : Int) ≤ (a : Int) ∧ (a : Int) ≤ ((l.length : Nat) : Int) := by omega
  have e : (l.drop a).take (l.length - a) = l.drop a := List.take_of_length_le (by simp)
  simp [Sx, slcSW, optI, size_Sx, h1, extract_Sx, e]
theorem slc_SxH {b : Nat} (hb : b ≤ l.length) : slcSW (Sx l) none (some (.int k' (b : Int))) K = K (Sx (l.take b)) := by
  have h1 : (0 : Int) ≤ (b : Int) ∧ (b : Int) ≤ ((l.length : Nat) : Int) := by omega
  simp [Sx, slcSW, optI, size_Sx, h1, extract_Sx]
theorem beq_dec {a b : List UInt8} : (a == b) = decide (a = b) := by by_cases h : a = b <;> simp [h]
theorem eql_Sx : binW .eql (Sx l) (Sx m) K = K (.bool (decide (l = m))) := by
  simp only [Sx, binW, binStr, ByteArray.toList_eq, List.toList_toArray, beq_dec]
theorem neq_Sx : binW .neq (Sx l) (Sx m) K = K (.bool (!decide (l = m))) := by
  simp only [Sx, binW, binStr, ByteArray.toList_eq, List.toList_toArray, beq_dec]
theorem add_Sx (h : l.length + m.length ≤ 9223372036854775807) : binW .add (Sx l) (Sx m) K = K (Sx (l ++ m)) := by
  have e : (⟨l.toArray⟩ : ByteArray) ++ ⟨m.toArray⟩ = ⟨(l ++ m).toArray⟩ := by
    apply ByteArray.ext; simp
  have h' : (l.length : Int) + (m.length : Int) ≤ 9223372036854775807 := by omega
  simp [Sx, binW, binStr, size_Sx, e, h']
  intro _; exact h
theorem cells_Sx : (Sx l).cells = some [Sx l] := id rfl
theorem app_S0 {ty : Nat} (h0 : 0 < l.length) (hb : l.length ≤ 70368744177664) (kk : ∀ b, H b = none → K2 (.own b l.length 0 l.length false) (H.upd b (some (.row ty 1 (Bt l))))) : appV H ty 1 1 (.seq 0 [] true) (Sx l) K2 := .inl <| by
  have hal : (Bt l).all AV.cell = true := by
    rw [List.all_eq_true]; intro x hx
    obtain ⟨b, _, rfl⟩ := List.mem_map.1 hx; rfl
  refine ⟨rfl, ?_⟩
  show (bytesA ⟨l.toArray⟩).all AV.cell = true ∧ _
  rw [bytesA_eq, size_Sx]
  refine ⟨hal, rfl, rfl, by omega, by omega, fun e => by omega, fun _ b hb' => ?_⟩
  simpa using kk b hb'
theorem app_S1 {ty b : Nat} {t : Bool} {o : List UInt8} (hH : H b = some (.row ty 1 (Bt o))) (hb : o.length + l.length ≤ 70368744177664) (kk : K2 (.own b (o ++ l).length 0 (o ++ l).length false) (H.upd b (some (.row ty 1 (Bt (o ++ l)))))) : appV H ty 1 1 (.own b o.length 0 o.length t) (Sx l) K2 := .inl <| by
  have hal : (Bt l).all AV.cell = true := by
    rw [List.all_eq_true]; intro x hx
    obtain ⟨b, _, rfl⟩ := List.mem_map.1 hx; rfl
  refine ⟨rfl, ?_⟩
  show (bytesA ⟨l.toArray⟩).all AV.cell = true ∧ _
  rw [bytesA_eq, size_Sx]
  refine ⟨hal, ?_⟩
  dsimp only
  rw [hH]
  refine ⟨Bt_len, rfl, by omega, rfl, rfl, by omega, by omega, ?_⟩
  have e : Bt o ++ Bt l = Bt (o ++ l) := by simp [Bt]
  rw [List.length_append] at kk
  rw [Nat.mul_one, e]
  exact kk
end
theorem trimB_fn {l : List UInt8} {c : UInt8} (hl : l.length < 9223372036854775808) : PFn Tryd.prog 223 [Sx l, .int .u8 ((c.toNat : Nat) : Int)] (Sx (l.dropWhile (· == c))) := by
  intro H Q hq
  refine enter223 (by simp) ?_
  simp (disch := first | assumption | (apply Ap.symm; assumption) | omega | decide | (simp only [Xd] <;> omega)) only [ac223, ↓Xa, Xb, Xc, ↓reduceIte, Nat.reduceLT, Nat.reduceEqDiff, Nat.reduceBEq, Nat.reduceLeDiff, Nat.reduceAdd, Nat.reduceMul]
  refine W_loop (fun m : List UInt8 => ⟨[], [(0, Sx m), (1, .int .u8 ((c.toNat : Nat) : Int))], _⟩) (fun m => m.length ≤ l.length ∧ m.dropWhile (· == c) = l.dropWhile (· == c)) (fun m => m.length) l (Settle.now rfl) ⟨Nat.le_refl _, rfl⟩ ?_
  rintro m ⟨hm, h1⟩
  cases m with
  | nil =>
    simp (disch := first | assumption | (apply Ap.symm; assumption) | omega | decide | (simp only [Xd] <;> omega)) only [len_Sx, List.length_nil, ↓Xa, Xb, Xc, ↓reduceIte, Nat.reduceLT, Nat.reduceEqDiff, Nat.reduceBEq, Nat.reduceLeDiff, Nat.reduceAdd, Nat.reduceMul]
    refine Settle.now ?_
    simp (disch := first | assumption | (apply Ap.symm; assumption) | omega | decide | (simp only [Xd] <;> omega)) only [rs223, ↓Xa, Xb, Xc, ↓reduceIte, Nat.reduceLT, Nat.reduceEqDiff, Nat.reduceBEq, Nat.reduceLeDiff, Nat.reduceAdd, Nat.reduceMul]
    rw [← h1] at hq
    exact SetR.now hq
  | cons x m =>
    have hpos : 0 < m.length + 1 := Nat.succ_pos _
    have e : (x :: m).getD 0 0 = x := rfl
    have hm' : m.length + 1 ≤ l.length := hm
    rw [List.dropWhile_cons] at h1
    by_cases hx : x = c
    · have hb : (x == c) = true := by simp [hx]
      have hx' : x.toNat = c.toNat := by rw [hx]
      rw [if_pos hb] at h1
      simp (disch := first | assumption | (apply Ap.symm; assumption) | omega | decide | (simp only [Xd] <;> omega)) only [len_Sx, hpos, idx_Sx, e, hx', slc_SxL, List.drop_succ_cons, List.drop_zero, ↓Xa, Xb, Xc, ↓reduceIte, Nat.reduceLT, Nat.reduceEqDiff, Nat.reduceBEq, Nat.reduceLeDiff, Nat.reduceAdd, Nat.reduceMul]
      exact Settle.now ⟨m, by simp, ⟨by omega, h1⟩, rfl⟩
    · have hb : ¬ (x == c) = true := by simp [hx]
      have hx' : ¬ x.toNat = c.toNat := fun h => hx (UInt8.toNat_inj.1 h)
      rw [if_neg hb] at h1
      simp (disch := first | assumption | (apply Ap.symm; assumption) | omega | decide | (simp only [Xd] <;> omega)) only [len_Sx, hpos, idx_Sx, e, hx', ↓Xa, Xb, Xc, ↓reduceIte, Nat.reduceLT, Nat.reduceEqDiff, Nat.reduceBEq, Nat.reduceLeDiff, Nat.reduceAdd, Nat.reduceMul]
      refine Settle.now ?_
      simp (disch := first | assumption | (apply Ap.symm; assumption) | omega | decide | (simp only [Xd] <;> omega)) only [rs223, ↓Xa, Xb, Xc, ↓reduceIte, Nat.reduceLT, Nat.reduceEqDiff, Nat.reduceBEq, Nat.reduceLeDiff, Nat.reduceAdd, Nat.reduceMul]
      rw [← h1] at hq
      exact SetR.now hq
theorem trimL_fn {l : List UInt8} {c : UInt8} (hl : l.length < 9223372036854775808) (hc : c.toNat < 128) : PFn Tryd.prog 213 [Sx l, Sx [c]] (Sx (l.dropWhile (· == c))) := by
  intro H Q hq
  refine enter213 (by simp) ?_
  have e : ([c] : List UInt8).getD 0 0 = c := rfl
  have h1 : ([c] = ([] : List UInt8)) = False := by simp
  have h2 : 0 < ([c] : List UInt8).length := by simp
  cases l with
  | nil =>
    simp (disch := first | assumption | (apply Ap.symm; assumption) | omega | decide | (simp only [Xd] <;> omega)) only [ac213, str_Sx, eql_Sx, rs213, ↓Xa, Xb, Xc, ↓reduceIte, Nat.reduceLT, Nat.reduceEqDiff, Nat.reduceBEq, Nat.reduceLeDiff, Nat.reduceAdd, Nat.reduceMul]
    exact SetR.now hq
  | cons x l =>
    have h3 : (x :: l = ([] : List UInt8)) = False := by simp
    simp (disch := first | assumption | (apply Ap.symm; assumption) | omega | decide | (simp only [Xd] <;> omega)) only [ac213, str_Sx, eql_Sx, h1, h3, len_Sx, idx_Sx, h2, e, hc, ↓Xa, Xb, Xc, ↓reduceIte, Nat.reduceLT, Nat.reduceEqDiff, Nat.reduceBEq, Nat.reduceLeDiff, Nat.reduceAdd, Nat.reduceMul]
    refine (trimB_fn hl).call ?_
    simp (disch := first | assumption | (apply Ap.symm; assumption) | omega | decide | (simp only [Xd] <;> omega)) only [rs213, ↓Xa, Xb, Xc, ↓reduceIte, Nat.reduceLT, Nat.reduceEqDiff, Nat.reduceBEq, Nat.reduceLeDiff, Nat.reduceAdd, Nat.reduceMul]
    exact SetR.now hq
end Go.Proofs.YtanchgkiomfhhaaDoor.Fw

/- The builder of strings. -/
namespace Go.Proofs.YtanchgkiomfhhaaDoor.Fw
set_option linter.unusedSimpArgs false
set_option linter.unusedVariables false
open Go Go.Proofs.YtanchgkiomfhhaaDoor.Ma
set_option maxRecDepth 20000

theorem check_new {H : AHeap} {p : Nat} {v : AV} {K : AV → AHeap → Prop} (hH : H p = some (.row 234 0 [.nilP, v])) (k : K (.tup []) (H.upd p (some (.row 234 0 [.ptr p 2 0, v])))) : Run Tryd.prog 215 [.ptr p 2 0] H K := by
  refine enter215 (by simp) ?_
  simp (disch := first | assumption | (apply Ap.symm; assumption) | omega | decide | (simp only [Xd] <;> omega)) only [ac215, hH, rs215, ↓Xa, Xb, Xc, ↓reduceIte, Nat.reduceLT, Nat.reduceEqDiff, Nat.reduceBEq, Nat.reduceLeDiff, Nat.reduceAdd, Nat.reduceMul]
  exact SetR.now k
theorem check_used {H : AHeap} {p : Nat} {v : AV} {K : AV → AHeap → Prop} (hH : H p = some (.row 234 0 [.ptr p 2 0, v])) (k : K (.tup []) H) : Run Tryd.prog 215 [.ptr p 2 0] H K := by
  refine enter215 (by simp) ?_
  simp (disch := first | assumption | (apply Ap.symm; assumption) | omega | decide | (simp only [Xd] <;> omega)) only [ac215, hH, rs215, ↓Xa, Xb, Xc, ↓reduceIte, Nat.reduceLT, Nat.reduceEqDiff, Nat.reduceBEq, Nat.reduceLeDiff, Nat.reduceAdd, Nat.reduceMul]
  exact SetR.now k
def bld (p : Nat) (l : List UInt8) (H0 H : AHeap) : Prop :=
  (l = [] ∧ (H = H0.upd p (some (.row 234 0 [.nilP, .seq 0 [] true])) ∨ H = H0.upd p (some (.row 234 0 [.ptr p 2 0, .seq 0 [] true])))) ∨
  (l ≠ [] ∧ ∃ bb, H0 bb = none ∧ Ap bb p ∧ H = (H0.upd p (some (.row 234 0 [.ptr p 2 0, .own bb l.length 0 l.length false]))).upd bb (some (.row 5 1 (Bt l))))
theorem bld_new {p : Nat} {H : AHeap} : bld p [] H (H.upd p (some (.row 234 0 [.nilP, .seq 0 [] true]))) := .inl ⟨rfl, .inl rfl⟩
theorem bld_upd {p q : Nat} {l : List UInt8} {H0 H : AHeap} {x : ABlk} (h : bld p l H0 H) (hq : H q = none) : Ap q p ∧ H0 q = none ∧ bld p l (H0.upd q (some x)) (H.upd q (some x)) := by
  rcases h with ⟨rfl, rfl | rfl⟩ | ⟨h0, bb, hbb, hap, rfl⟩
  · obtain ⟨a, b⟩ := upd_none.1 hq
    exact ⟨a, b, .inl ⟨rfl, .inl (upd_comm _ _ _ (Ap.symm a))⟩⟩
  · obtain ⟨a, b⟩ := upd_none.1 hq
    exact ⟨a, b, .inl ⟨rfl, .inr (upd_comm _ _ _ (Ap.symm a))⟩⟩
  · obtain ⟨a1, a2, b⟩ : Ap q bb ∧ Ap q p ∧ H0 q = none := by simpa only [upd_none] using hq
    refine ⟨a2, b, .inr ⟨h0, bb, ?_, hap, ?_⟩⟩
    · rw [upd_otherA (Ap.symm a1)]; exact hbb
    · rw [upd_comm _ _ _ (Ap.symm a1), upd_comm (b := p) (b' := q) _ _ _ (Ap.symm a2)]
theorem wstr_run {p : Nat} {l m : List UInt8} {H0 H : AHeap} {K : AV → AHeap → Prop} (hb : bld p l H0 H) (hl : l.length + m.length ≤ 70368744177664) (hm : 0 < m.length)
    (k : ∀ H', bld p (l ++ m) H0 H' → K (.tup [.int .i64 ((m.length : Nat) : Int), .nilI]) H') : Run Tryd.prog 204 [.ptr p 2 0, Sx m] H K := by
  refine enter204 (by simp) ?_
  simp (disch := first | assumption | (apply Ap.symm; assumption) | omega | decide | (simp only [Xd] <;> omega)) only [ac204, ↓Xa, Xb, Xc, ↓reduceIte, Nat.reduceLT, Nat.reduceEqDiff, Nat.reduceBEq, Nat.reduceLeDiff, Nat.reduceAdd, Nat.reduceMul]
  have hne : ∀ {x : List UInt8}, x ++ m ≠ [] := fun {x} e => by have := congrArg List.length e; rw [List.length_append, List.length_nil] at this; omega
  have first : ∀ {M : AHeap}, M = H0.upd p (some (.row 234 0 [.ptr p 2 0, .seq 0 [] true])) → l = [] →
      W Tryd.prog (sndC (sndC ac204)) (retN rs204 K) ⟨[], [(0, .ptr p 2 0), (1, Sx m)], M⟩ := by
    rintro M rfl rfl
    simp (disch := first | assumption | (apply Ap.symm; assumption) | omega | decide | (simp only [Xd] <;> omega)) only [sndC, ac204, ↓Xa, Xb, Xc, ↓reduceIte, Nat.reduceLT, Nat.reduceEqDiff, Nat.reduceBEq, Nat.reduceLeDiff, Nat.reduceAdd, Nat.reduceMul]
    refine app_S0 hm (by simp at hl; omega) fun b hb => ?_
    obtain ⟨a1, a2⟩ := upd_none.1 hb
    simp (disch := first | assumption | (apply Ap.symm; assumption) | omega | decide | (simp only [Xd] <;> omega)) only [len_Sx, rs204, ↓Xa, Xb, Xc, ↓reduceIte, Nat.reduceLT, Nat.reduceEqDiff, Nat.reduceBEq, Nat.reduceLeDiff, Nat.reduceAdd, Nat.reduceMul]
    refine SetR.now (k _ (.inr ⟨by simpa using hne (x := []), b, a2, a1, ?_⟩))
    simp only [List.nil_append]
  rcases hb with ⟨rfl, rfl | rfl⟩ | ⟨h0, bb, hbb, hap, rfl⟩
  · refine run_call (check_new (upd_same _ _ _) ?_)
    have f := first rfl rfl
    simp (disch := first | assumption | (apply Ap.symm; assumption) | omega | decide | (simp only [Xd] <;> omega)) only [sndC, ac204, ↓Xa, Xb, Xc, ↓reduceIte, Nat.reduceLT, Nat.reduceEqDiff, Nat.reduceBEq, Nat.reduceLeDiff, Nat.reduceAdd, Nat.reduceMul] at f
    simp (disch := first | assumption | (apply Ap.symm; assumption) | omega | decide | (simp only [Xd] <;> omega)) only [↓Xa, Xb, Xc, ↓reduceIte, Nat.reduceLT, Nat.reduceEqDiff, Nat.reduceBEq, Nat.reduceLeDiff, Nat.reduceAdd, Nat.reduceMul]
    exact f
  · refine run_call (check_used (upd_same _ _ _) ?_)
    have f := first rfl rfl
    simp (disch := first | assumption | (apply Ap.symm; assumption) | omega | decide | (simp only [Xd] <;> omega)) only [sndC, ac204, ↓Xa, Xb, Xc, ↓reduceIte, Nat.reduceLT, Nat.reduceEqDiff, Nat.reduceBEq, Nat.reduceLeDiff, Nat.reduceAdd, Nat.reduceMul] at f
    simp (disch := first | assumption | (apply Ap.symm; assumption) | omega | decide | (simp only [Xd] <;> omega)) only [↓Xa, Xb, Xc, ↓reduceIte, Nat.reduceLT, Nat.reduceEqDiff, Nat.reduceBEq, Nat.reduceLeDiff, Nat.reduceAdd, Nat.reduceMul]
    exact f
  · refine run_call (check_used (v := .own bb l.length 0 l.length false) (by rw [upd_otherA (Ap.symm hap), upd_same]) ?_)
    simp (disch := first | assumption | (apply Ap.symm; assumption) | omega | decide | (simp only [Xd] <;> omega)) only [↓Xa, Xb, Xc, ↓reduceIte, Nat.reduceLT, Nat.reduceEqDiff, Nat.reduceBEq, Nat.reduceLeDiff, Nat.reduceAdd, Nat.reduceMul]
    refine app_S1 (upd_same _ _ _) hl ?_
    simp (disch := first | assumption | (apply Ap.symm; assumption) | omega | decide | (simp only [Xd] <;> omega)) only [len_Sx, rs204, ↓Xa, Xb, Xc, ↓reduceIte, Nat.reduceLT, Nat.reduceEqDiff, Nat.reduceBEq, Nat.reduceLeDiff, Nat.reduceAdd, Nat.reduceMul]
    refine SetR.now (k _ (.inr ⟨hne, bb, hbb, hap, ?_⟩))
    simp only [List.length_append]
theorem bstr_run {p : Nat} {l : List UInt8} {H0 H : AHeap} {K : AV → AHeap → Prop} (hb : bld p l H0 H) (hp : H0 p = none) (hl : l.length ≤ 70368744177664) (h0 : 0 < l.length) (k : ∀ H', Le H0 H' → K (Sx l) H') : Run Tryd.prog 205 [.ptr p 2 0] H K := by
  refine enter205 (by simp) ?_
  rcases hb with ⟨rfl, _⟩ | ⟨h1, bb, hbb, hap, rfl⟩
  · simp at h0
  · have hbl : (Bt l).length = l.length := Bt_len
    simp (disch := first | assumption | (apply Ap.symm; assumption) | omega | decide | (simp only [Xd] <;> omega)) only [ac205, h0, rs205, ↓Xa, Xb, Xc, ↓reduceIte, Nat.reduceLT, Nat.reduceEqDiff, Nat.reduceBEq, Nat.reduceLeDiff, Nat.reduceAdd, Nat.reduceMul]
    exact SetR.now (k _ (((Le.refl H0).updB hp).updB hbb))
end Go.Proofs.YtanchgkiomfhhaaDoor.Fw

/- A number's decimal text, as package limb writes it. -/
namespace Go.Proofs.YtanchgkiomfhhaaDoor.Fw
set_option linter.unusedSimpArgs false
set_option linter.unusedVariables false
open Go Go.Proofs.YtanchgkiomfhhaaDoor.Ma
set_option maxRecDepth 20000

theorem bld_drop {p q : Nat} {l : List UInt8} {H0 H : AHeap} {x : ABlk} (h : bld p l (H0.upd q (some x)) H) (hqp : Ap q p) (hq : H0 q = none) : ∃ H', bld p l H0 H' ∧ Le H' H := by
  have up : ∀ {M : AHeap} {r : Option ABlk}, M = (H0.upd q (some x)).upd p r → Le (H0.upd p r) M := fun {M r} e => by
    rw [e, upd_comm _ _ _ hqp]
    exact (Le.refl _).updB (by rw [upd_otherA hqp]; exact hq)
  rcases h with ⟨rfl, rfl | rfl⟩ | ⟨h0, bb, hbb, hap, rfl⟩
  · exact ⟨_, .inl ⟨rfl, .inl rfl⟩, up rfl⟩
  · exact ⟨_, .inl ⟨rfl, .inr rfl⟩, up rfl⟩
  · obtain ⟨a1, a2⟩ := upd_none.1 hbb
    refine ⟨_, .inr ⟨h0, bb, a2, hap, rfl⟩, ?_⟩
    rw [upd_comm _ _ _ hqp, upd_comm (b := q) (b' := bb) _ _ _ (Ap.symm a1)]
    exact (Le.refl _).updB (by rw [upd_otherA (Ap.symm a1), upd_otherA hqp]; exact hq)
theorem stP_Bt {H : AHeap} {K2 : AV → AHeap → Prop} {b L off ty es c : Nat} {l : List UInt8} (hL : l.length = L) (h : off < L) (hc : c < 256) : stP H 1 b L off K2 (some [.int .u8 (c : Int)]) (some (.row ty es (Bt l))) = K2 .bot (H.upd b (some (.row ty es (Bt (l.set off (UInt8.ofNat c)))))) := by
  subst hL
  have h1 : off + 1 ≤ l.length := h
  have e : splice (Bt l) off [.int .u8 (c : Int)] = Bt (l.set off (UInt8.ofNat c)) := by
    have e2 : (AV.int .u8 (c : Int)) = .int .u8 (((UInt8.ofNat c).toNat : Nat) : Int) := by
      rw [UInt8.toNat_ofNat', Nat.mod_eq_of_lt hc]
    rw [e2]
    unfold splice Bt
    rw [List.map_set, List.set_eq_take_append_cons_drop]
    simp [h]
  simp [stP, Bt_len, h1, e]
def TxI (p j : Nat) (cells : List UInt8) (x : Nat) : Prop := j ≤ 9 ∧ cells = List.replicate j 0 ++ wide (9 - j) (p % 10 ^ (9 - j)) ∧ x = p / 10 ^ (9 - j)
theorem TxI.len {p j x : Nat} {cells : List UInt8} (h : TxI p j cells x) : cells.length = 9 := by
  obtain ⟨h1, rfl, _⟩ := h
  rw [List.length_append, List.length_replicate, wide_len (Nat.mod_lt _ (Nat.pow_pos (by omega)))]; omega
theorem TxI.step {p j x : Nat} {cells : List UInt8} (h : TxI p (j + 1) cells x) : TxI p j (cells.set j (UInt8.ofNat (48 + x % 10))) (x / 10) := by
  obtain ⟨h1, rfl, rfl⟩ := h
  have e9 : 9 - j = (9 - (j + 1)) + 1 := by omega
  refine ⟨by omega, ?_, ?_⟩
  · rw [e9, wide_step]
    rw [List.replicate_succ', List.append_assoc, List.set_append_right _ _ (by simp)]
    simp [chr]
  · rw [e9, Nat.pow_succ, Nat.div_div_eq_div_mul]

theorem text_fn {l : List Nat} (t : Bool) (hl : Lim 4294967296 l) (hn : l.length ≤ 1099511627776) : PFn Tryd.prog 190 [LS l t] (Sx (decT (val 4294967296 l))) := by
  intro H Q hq
  have hP : (2 : Nat) ≤ 1000000000 := by omega
  refine enter190 (by simp) ?_
  simp (disch := first | assumption | (apply Ap.symm; assumption) | omega | decide | (simp only [Xd] <;> omega)) only [ac190, str_Sx, ↓Xa, Xb, Xc, ↓reduceIte, Nat.reduceLT, Nat.reduceEqDiff, Nat.reduceBEq, Nat.reduceLeDiff, Nat.reduceAdd, Nat.reduceMul]
  refine (norm_fn t (by omega)).call ?_
  rw [tr_digs (by omega) hl]
  have hN : val 4294967296 l < 4294967296 ^ l.length := val_lt hl
  have hp2 : (digs 1000000000 (val 4294967296 l)).length ≤ 2 * l.length := digs_len hP _ _ (Nat.lt_of_lt_of_le hN (by rw [Nat.pow_mul]; exact Nat.pow_le_pow_left (by omega) _))
  have hdl : (dec (val 4294967296 l)).length ≤ 10 * l.length := dec_len (Nat.lt_of_lt_of_le hN (by rw [Nat.pow_mul]; exact Nat.pow_le_pow_left (by omega) _))
  generalize hNe : val 4294967296 l = N at *
  simp (disch := first | assumption | (apply Ap.symm; assumption) | omega | decide | (simp only [Xd] <;> omega)) only [↓Xa, Xb, Xc, ↓reduceIte, Nat.reduceLT, Nat.reduceEqDiff, Nat.reduceBEq, Nat.reduceLeDiff, Nat.reduceAdd, Nat.reduceMul]
  refine W_loop (fun s : List Nat × AV × AHeap × Nat => ⟨[], [(3, s.2.1), (4, LS (digs 4294967296 s.2.2.2) true)], s.2.2.1⟩) (fun s => grow H 172 s.1 s.2.1 s.2.2.1 ∧ digs 1000000000 N = s.1 ++ digs 1000000000 s.2.2.2 ∧ s.2.2.2 ≤ N) (fun s => s.2.2.2)
    ([], .seq 0 [] true, H, N) (Settle.now rfl) ⟨grow_nil, rfl, Nat.le_refl _⟩ ?_
  rintro ⟨done, x, G, n⟩ ⟨hg, he, hle⟩
  dsimp only at hg he hle ⊢
  have hdn : (digs 4294967296 n).length ≤ l.length := digs_len (by omega) _ _ (Nat.lt_of_le_of_lt hle (hNe ▸ hN))
  have hz := digs_len0 (B := 4294967296) (n := n) (by omega)
  by_cases hn0 : n = 0
  · have h1 : (digs 4294967296 n).length = 0 := by rw [hz]; exact hn0
    simp (disch := first | assumption | (apply Ap.symm; assumption) | omega | decide | (simp only [Xd] <;> omega)) only [h1, ↓Xa, Xb, Xc, ↓reduceIte, Nat.reduceLT, Nat.reduceEqDiff, Nat.reduceBEq, Nat.reduceLeDiff, Nat.reduceAdd, Nat.reduceMul]
    refine Settle.grown 3 rfl hg (Settle.now ?_)
    rw [hn0, digs_zero, List.append_nil] at he
    subst he
    have hlim := lim_digs hP N
    have hdig := fun k p => piece_step (n := N) (k := k) (p := p)
    have hv : val 1000000000 (digs 1000000000 N) = N := val_digs hP N
    have hlast := digs_last (B := 1000000000) (n := N) hP
    have hnil := digs_len0 (B := 1000000000) (n := N) hP
    generalize digs 1000000000 N = ps at *
    by_cases hp0 : ps.length = 0
    · rw [hnil] at hp0
      have hL : ps.length = 0 := by rw [hnil]; exact hp0
      simp (disch := first | assumption | (apply Ap.symm; assumption) | omega | decide | (simp only [Xd] <;> omega)) only [hL, str_Sx, rs190, ↓Xa, Xb, Xc, ↓reduceIte, Nat.reduceLT, Nat.reduceEqDiff, Nat.reduceBEq, Nat.reduceLeDiff, Nat.reduceAdd, Nat.reduceMul]
      have e : decT N = [48] := by rw [hp0]; rfl
      rw [e] at hq
      exact SetR.now hq
    · have hN0 : 0 < N := by rcases Nat.eq_zero_or_pos N with h | h
                             · exact absurd (hnil ▸ h) hp0
                             · exact h
      have eT : decT N = dec N := by unfold decT; rw [if_neg (by omega)]
      rw [eT] at hq
      obtain ⟨L, hL⟩ : ∃ L, ps.length = L + 1 := ⟨ps.length - 1, by omega⟩
      have hLp : (0 < L + 1) = True := by simp
      have hL0 : (L + 1 = 0) = False := by simp
      simp (disch := first | assumption | (apply Ap.symm; assumption) | omega | decide | (simp only [Xd] <;> omega)) only [hL, hL0, ↓Xa, Xb, Xc, ↓reduceIte, Nat.reduceLT, Nat.reduceEqDiff, Nat.reduceBEq, Nat.reduceLeDiff, Nat.reduceAdd, Nat.reduceMul]
      refine alloc_i fun p hp => ?_
      simp (disch := first | assumption | (apply Ap.symm; assumption) | omega | decide | (simp only [Xd] <;> omega)) only [hL, dn_succ, ↓Xa, Xb, Xc, ↓reduceIte, Nat.reduceLT, Nat.reduceEqDiff, Nat.reduceBEq, Nat.reduceLeDiff, Nat.reduceAdd, Nat.reduceMul]
      refine W_atH fun M0 hM0 => ?_
      refine W_loop (fun s : Nat × AHeap => ⟨[], [(3, LS ps false), (8, .ptr p 2 0), (9, .int .i64 (dn s.1))], s.2⟩) (fun s => s.1 ≤ ps.length ∧ bld p (dec (val 1000000000 (ps.drop s.1))) H s.2) (fun s => s.1) (L + 1, M0) (Settle.now rfl) ⟨by dsimp only; omega, ?_⟩ ?_
      · dsimp only
        rw [List.drop_of_length_le (by omega), show val 1000000000 [] = 0 from rfl, dec_zero, hM0]
        exact bld_new
      rintro ⟨k, M⟩ ⟨hk, hb⟩
      dsimp only at hk hb ⊢
      cases k with
      | zero =>
        simp (disch := first | assumption | (apply Ap.symm; assumption) | omega | decide | (simp only [Xd] <;> omega)) only [dn_zero, ↓Xa, Xb, Xc, ↓reduceIte, Nat.reduceLT, Nat.reduceEqDiff, Nat.reduceBEq, Nat.reduceLeDiff, Nat.reduceAdd, Nat.reduceMul]
        refine Settle.now ?_
        rw [List.drop_zero, hv] at hb
        simp (disch := first | assumption | (apply Ap.symm; assumption) | omega | decide | (simp only [Xd] <;> omega)) only [↓Xa, Xb, Xc, ↓reduceIte, Nat.reduceLT, Nat.reduceEqDiff, Nat.reduceBEq, Nat.reduceLeDiff, Nat.reduceAdd, Nat.reduceMul]
        have hd0 : 0 < (dec N).length := List.length_pos_iff.2 (dec_pos hN0)
        refine run_call (bstr_run hb hp (by omega) hd0 fun H' hH' => ?_)
        simp (disch := first | assumption | (apply Ap.symm; assumption) | omega | decide | (simp only [Xd] <;> omega)) only [rs190, ↓Xa, Xb, Xc, ↓reduceIte, Nat.reduceLT, Nat.reduceEqDiff, Nat.reduceBEq, Nat.reduceLeDiff, Nat.reduceAdd, Nat.reduceMul]
        exact SetR.dropTo hH' (SetR.now hq)
      | succ k =>
        obtain ⟨hlt, hstep⟩ := hdig k _ (by omega) rfl
        have hlt2 : ps.getD k 0 < 1000000000 := hlt
        simp (disch := first | assumption | (apply Ap.symm; assumption) | omega | decide | (simp only [Xd] <;> omega)) only [dn_succ, hL, ↓Xa, Xb, Xc, ↓reduceIte, Nat.reduceLT, Nat.reduceEqDiff, Nat.reduceBEq, Nat.reduceLeDiff, Nat.reduceAdd, Nat.reduceMul]
        refine alloc_i fun q hq' => ?_
        generalize hpk : ps.getD k 0 = pk at *
        simp (disch := first | assumption | (apply Ap.symm; assumption) | omega | decide | (simp only [Xd] <;> omega)) only [hpk, dn_succ, hL, ↓Xa, Xb, Xc, ↓reduceIte, Nat.reduceLT, Nat.reduceEqDiff, Nat.reduceBEq, Nat.reduceLeDiff, Nat.reduceAdd, Nat.reduceMul]
        refine W_loop (fun s : Nat × List UInt8 × Nat => ⟨[], [(3, LS ps false), (8, .ptr p 2 0), (9, .int .i64 (k : Nat)), (10, .ptr q 9 0), (11, .int .u32 (s.2.2 : Nat)), (12, .int .i64 (dn s.1))], M.upd q (some (.row 248 1 (Bt s.2.1)))⟩)
          (fun s => TxI pk s.1 s.2.1 s.2.2) (fun s => s.1) (9, List.replicate 9 0, pk) (Settle.now rfl) ⟨Nat.le_refl _, by simp [wide, pad, digs_zero, Nat.mod_one], by simp⟩ ?_
        rintro ⟨j, cells, x⟩ hx
        dsimp only at hx ⊢
        have hcl := hx.len
        have hx32 : x < 4294967296 := by
          have := hx.2.2
          have := Nat.div_le_self pk (10 ^ (9 - j))
          omega
        cases j with
        | zero =>
          have ecells : cells = wide 9 pk := by
            rw [hx.2.1]; simp [Nat.mod_eq_of_lt hlt2]
          have htk : (Bt cells).take 9 = Bt cells := List.take_of_length_le (by rw [Bt_len]; omega)
          have hbl : (Bt cells).length = 9 := by rw [Bt_len]; exact hcl
          simp (disch := first | assumption | (apply Ap.symm; assumption) | omega | decide | (simp only [Xd] <;> omega)) only [dn_zero, ↓Xa, Xb, Xc, ↓reduceIte, Nat.reduceLT, Nat.reduceEqDiff, Nat.reduceBEq, Nat.reduceLeDiff, Nat.reduceAdd, Nat.reduceMul]
          refine Settle.now ?_
          simp (disch := first | assumption | (apply Ap.symm; assumption) | omega | decide | (simp only [Xd] <;> omega)) only [htk, str_Sx, hL, dn_succ, ↓Xa, Xb, Xc, ↓reduceIte, Nat.reduceLT, Nat.reduceEqDiff, Nat.reduceBEq, Nat.reduceLeDiff, Nat.reduceAdd, Nat.reduceMul]
          refine ⟨by decide, ?_⟩
          obtain ⟨a1, a2, w0⟩ := bld_upd (x := .row 248 1 (Bt cells)) hb hq'
          have fin : ∀ (m : List UInt8) (M' : AHeap), bld p (dec (val 1000000000 (ps.drop (k + 1))) ++ m) (H.upd q (some (.row 248 1 (Bt cells)))) M' → dec (val 1000000000 (ps.drop k)) = dec (val 1000000000 (ps.drop (k + 1))) ++ m →
              Settle (fun s' => ∃ x' : Nat × AHeap, x'.1 < k + 1 ∧ (x'.1 ≤ L + 1 ∧ bld p (dec (val 1000000000 (ps.drop x'.1))) H x'.2) ∧ s' = ⟨[], [(3, LS ps false), (8, .ptr p 2 0), (9, .int .i64 (dn x'.1))], x'.2⟩) ⟨[], [(3, LS ps false), (8, .ptr p 2 0), (9, .int .i64 (dn k))], M'⟩ := fun m M' hb' e => by
            obtain ⟨M'', h1, h2⟩ := bld_drop hb' a1 a2
            exact Settle.dropTo h2 (Settle.now ⟨(k, M''), Nat.lt_succ_self k, ⟨by dsimp only; omega, by dsimp only; rw [e]; exact h1⟩, rfl⟩)
          have hbd : (dec (val 1000000000 (ps.drop (k + 1)))).length ≤ 9 * ps.length := by
            refine dec_len (Nat.lt_of_lt_of_le (val_lt (hlim.drop (k + 1))) ?_)
            rw [show (1000000000 : Nat) = 10 ^ 9 from rfl, ← Nat.pow_mul]
            exact Nat.pow_le_pow_right (by omega) (Nat.mul_le_mul_left _ (by simp))
          by_cases hkL : k = L
          · rw [if_pos (by omega)] at hstep
            have hpk0 : pk ≠ 0 := by
              have := hlast hN0
              rwa [hL, Nat.add_sub_cancel, ← hkL, hpk] at this
            have hm0 : 0 < (dec pk).length := List.length_pos_iff.2 (dec_pos (by omega))
            have hm9 : (dec pk).length ≤ 9 := dec_len (k := 9) hlt2
            have hd1 : decide (k = L + 1 - 1) = true := by simp [hkL]
            simp (disch := first | assumption | (apply Ap.symm; assumption) | omega | decide | (simp only [Xd] <;> omega)) only [hd1, ↓Xa, Xb, Xc, ↓reduceIte, Nat.reduceLT, Nat.reduceEqDiff, Nat.reduceBEq, Nat.reduceLeDiff, Nat.reduceAdd, Nat.reduceMul]
            refine (trimL_fn (c := 48) (l := cells) (by omega) (by decide)).call ?_
            rw [ecells, wide_trim, ← ecells]
            simp (disch := first | assumption | (apply Ap.symm; assumption) | omega | decide | (simp only [Xd] <;> omega)) only [↓Xa, Xb, Xc, ↓reduceIte, Nat.reduceLT, Nat.reduceEqDiff, Nat.reduceBEq, Nat.reduceLeDiff, Nat.reduceAdd, Nat.reduceMul]
            refine run_call (wstr_run w0 (by omega) hm0 fun M' hM' => ?_)
            simp (disch := first | assumption | (apply Ap.symm; assumption) | omega | decide | (simp only [Xd] <;> omega)) only [↓Xa, Xb, Xc, ↓reduceIte, Nat.reduceLT, Nat.reduceEqDiff, Nat.reduceBEq, Nat.reduceLeDiff, Nat.reduceAdd, Nat.reduceMul]
            exact fin _ _ hM' hstep
          · rw [if_neg (by omega)] at hstep
            rw [← ecells] at hstep
            have hd1 : decide (k = L + 1 - 1) = false := by simp [hkL]
            simp (disch := first | assumption | (apply Ap.symm; assumption) | omega | decide | (simp only [Xd] <;> omega)) only [hd1, ↓Xa, Xb, Xc, ↓reduceIte, Nat.reduceLT, Nat.reduceEqDiff, Nat.reduceBEq, Nat.reduceLeDiff, Nat.reduceAdd, Nat.reduceMul]
            refine run_call (wstr_run w0 (by omega) (by omega) fun M' hM' => ?_)
            simp (disch := first | assumption | (apply Ap.symm; assumption) | omega | decide | (simp only [Xd] <;> omega)) only [↓Xa, Xb, Xc, ↓reduceIte, Nat.reduceLT, Nat.reduceEqDiff, Nat.reduceBEq, Nat.reduceLeDiff, Nat.reduceAdd, Nat.reduceMul]
            exact fin _ _ hM' hstep
        | succ j =>
          have hj : j < 9 := by have := hx.1; omega
          have hbl : (Bt cells).length = 9 := by rw [Bt_len]; exact hcl
          have hd : x % 10 < 10 := Nat.mod_lt _ (by omega)
          simp (disch := first | assumption | (apply Ap.symm; assumption) | omega | decide | (simp only [Xd] <;> omega)) only [dn_succ, stP_Bt, ↓Xa, Xb, Xc, ↓reduceIte, Nat.reduceLT, Nat.reduceEqDiff, Nat.reduceBEq, Nat.reduceLeDiff, Nat.reduceAdd, Nat.reduceMul]
          exact ⟨by omega, by omega, Settle.now ⟨(j, _, x / 10), Nat.lt_succ_self j, hx.step, rfl⟩⟩
  · have h1 : 0 < (digs 4294967296 n).length := by
      have : ¬ (digs 4294967296 n).length = 0 := by rw [hz]; exact hn0
      omega
    simp (disch := first | assumption | (apply Ap.symm; assumption) | omega | decide | (simp only [Xd] <;> omega)) only [h1, ↓Xa, Xb, Xc, ↓reduceIte, Nat.reduceLT, Nat.reduceEqDiff, Nat.reduceBEq, Nat.reduceLeDiff, Nat.reduceAdd, Nat.reduceMul]
    refine (divsmall_fn (d := 1000000000) true (lim_digs (by omega) n) (by omega) (by omega) (by omega)).call ?_
    rw [val_digs (by omega)]
    simp (disch := first | assumption | (apply Ap.symm; assumption) | omega | decide | (simp only [Xd] <;> omega)) only [↓Xa, Xb, Xc, ↓reduceIte, Nat.reduceLT, Nat.reduceEqDiff, Nat.reduceBEq, Nat.reduceLeDiff, Nat.reduceAdd, Nat.reduceMul]
    have hlen := congrArg List.length he
    rw [List.length_append] at hlen
    refine app_grow (m := [n % 1000000000]) hg rfl (by simp) (by simp; omega) fun x' H2 hg2 => ?_
    simp (disch := first | assumption | (apply Ap.symm; assumption) | omega | decide | (simp only [Xd] <;> omega)) only [↓Xa, Xb, Xc, ↓reduceIte, Nat.reduceLT, Nat.reduceEqDiff, Nat.reduceBEq, Nat.reduceLeDiff, Nat.reduceAdd, Nat.reduceMul]
    refine Settle.now ⟨(done ++ [n % 1000000000], x', H2, n / 1000000000), Nat.div_lt_self (by omega) (by omega), ⟨hg2, ?_, Nat.le_trans (Nat.div_le_self _ _) hle⟩, rfl⟩
    dsimp only
    rw [he, digs_pos hP (show 0 < n by omega), List.append_assoc]; rfl
end Go.Proofs.YtanchgkiomfhhaaDoor.Fw

/- The laws' first question: are numbers added, multiplied, divided, told? -/
namespace Go.Proofs.YtanchgkiomfhhaaDoor.Fw
set_option linter.unusedSimpArgs false
set_option linter.unusedVariables false
open Go Go.Proofs.YtanchgkiomfhhaaDoor.Ma
set_option maxRecDepth 20000

end Go.Proofs.YtanchgkiomfhhaaDoor.Fw

/- What package limb computes, in terms of numbers. -/
namespace Go.Proofs.YtanchgkiomfhhaaDoor.Fw
set_option linter.unusedSimpArgs false
set_option linter.unusedVariables false
open Go Go.Proofs.YtanchgkiomfhhaaDoor.Ma
set_option maxRecDepth 20000

structure Nm (l : List Nat) (n k : Nat) : Prop where
  lim : Lim 4294967296 l
  val : val 4294967296 l = n
  len : l.length ≤ k
theorem Nm.lt {l : List Nat} {n k : Nat} (h : Nm l n k) : n < 4294967296 ^ k := by
  rw [← h.val]; exact Nat.lt_of_lt_of_le (val_lt h.lim) (Nat.pow_le_pow_right (by omega) h.len)
theorem Nm.digs {n k : Nat} (h : n < 4294967296 ^ k) : Nm (digs 4294967296 n) n k := ⟨lim_digs (by omega) n, val_digs (by omega) n, digs_len (by omega) k n h⟩
theorem Nm.raw {l : List Nat} {k : Nat} (h : Lim 4294967296 l) (hk : l.length ≤ k) : Nm l (Ma.val 4294967296 l) k := ⟨h, rfl, hk⟩
theorem Nm.mono {l : List Nat} {n k k' : Nat} (h : Nm l n k) (hk : k ≤ k') : Nm l n k' := ⟨h.lim, h.val, Nat.le_trans h.len hk⟩
theorem lt_mul {m n k k' : Nat} (h : m < 4294967296 ^ k) (h' : n < 4294967296 ^ k') : m * n < 4294967296 ^ (k + k') := by
  rw [Nat.pow_add]; exact Nat.mul_lt_mul_of_lt_of_lt h h'
theorem add_n {a b : List Nat} {m n k k' : Nat} (ta tb : Bool) (ha : Nm a m k) (hb : Nm b n k') (hk : k ≤ 1000000) (hk' : k' ≤ 1000000) : PFn Tryd.prog 186 [LS a ta, LS b tb] (LS (Ma.digs 4294967296 (m + n)) true) := by
  have := add_fn ta tb ha.lim hb.lim (Nat.le_trans ha.len (by omega)) (Nat.le_trans hb.len (by omega))
  rwa [ha.val, hb.val] at this
theorem mul_n {a b : List Nat} {m n k k' : Nat} (ta tb : Bool) (ha : Nm a m k) (hb : Nm b n k') (hk : k ≤ 1000000) (hk' : k' ≤ 1000000) : PFn Tryd.prog 171 [LS a ta, LS b tb] (LS (Ma.digs 4294967296 (m * n)) true) := by
  have := mul_fn ta tb ha.lim hb.lim (Nat.le_trans ha.len (by omega)) (Nat.le_trans hb.len (by omega))
  rwa [ha.val, hb.val] at this
end Go.Proofs.YtanchgkiomfhhaaDoor.Fw

/- The law of quotients and remainders of limbs, without the reference, as what its code computes: true. -/
namespace Go.Proofs.YtanchgkiomfhhaaDoor.Fw
set_option linter.unusedSimpArgs false
set_option linter.unusedVariables false
open Go Go.Proofs.YtanchgkiomfhhaaDoor.Ma
set_option maxRecDepth 20000

theorem Nm.one {c : Nat} (h : c < 4294967296) : Nm [c] c 1 := ⟨Lim.one h, val_one _ _, Nat.le_refl _⟩
theorem muls_n {a : List Nat} {m k c : Nat} (ta : Bool) (ha : Nm a m k) (hk : k ≤ 1000000) (hc : c < 4294967296) : PFn Tryd.prog 214 [LS a ta, .int .u32 (c : Nat)] (LS (Ma.digs 4294967296 (m * c)) true) := by
  intro H Q hq
  refine enter214 (by simp) ?_
  simp (disch := first | assumption | (apply Ap.symm; assumption) | omega | decide | (simp only [Xd] <;> omega)) only [ac214, ↓Xa, Xb, Xc, ↓reduceIte, Nat.reduceLT, Nat.reduceEqDiff, Nat.reduceBEq, Nat.reduceLeDiff, Nat.reduceAdd, Nat.reduceMul]
  refine (mul_n (b := [c]) ta true ha (Nm.one hc) hk (by omega)).call ?_
  simp (disch := first | assumption | (apply Ap.symm; assumption) | omega | decide | (simp only [Xd] <;> omega)) only [rs214, ↓Xa, Xb, Xc, ↓reduceIte, Nat.reduceLT, Nat.reduceEqDiff, Nat.reduceBEq, Nat.reduceLeDiff, Nat.reduceAdd, Nat.reduceMul]
  exact SetR.now hq
end Go.Proofs.YtanchgkiomfhhaaDoor.Fw

/- The number of a decimal text, and back. -/
namespace Go.Proofs.YtanchgkiomfhhaaDoor.Ma
set_option linter.unusedSimpArgs false
set_option linter.unusedVariables false

def decF (v : Nat) (l : List UInt8) : Nat := l.foldl (fun v b => 10 * v + (b.toNat - 48)) v
def decV (l : List UInt8) : Nat := decF 0 l
theorem decF_eq : ∀ (l : List UInt8) (v : Nat), decF v l = 10 ^ l.length * v + decV l
  | [], v => by simp [decF, decV]
  | b :: l, v => by
    have h1 := decF_eq l (10 * v + (b.toNat - 48))
    have h2 := decF_eq l (10 * 0 + (b.toNat - 48))
    have e1 : decF v (b :: l) = decF (10 * v + (b.toNat - 48)) l := rfl
    have e2 : decV (b :: l) = decF (10 * 0 + (b.toNat - 48)) l := rfl
    rw [e1, e2, h1, h2, List.length_cons, Nat.pow_succ]
    grind
theorem decV_app (l m : List UInt8) : decV (l ++ m) = 10 ^ m.length * decV l + decV m := by
  have : decV (l ++ m) = decF (decV l) m := by simp only [decV, decF, List.foldl_append]
  rw [this, decF_eq]
theorem decV_one (b : UInt8) : decV [b] = b.toNat - 48 := by simp [decV, decF]
theorem decV_chr : ∀ {l : List Nat}, Lim 10 l → decV (l.reverse.map chr) = val 10 l
  | [], _ => rfl
  | x :: l, h => by
    rw [List.reverse_cons, List.map_append, decV_app, decV_chr h.tail, List.map_singleton, decV_one, chr_nat h.head]
    simp [val]; omega
theorem decV_dec (n : Nat) : decV (dec n) = n := by
  unfold dec; rw [decV_chr (lim_digs (by omega) n), val_digs (by omega)]
theorem decV_decT (n : Nat) : decV (decT n) = n := by
  unfold decT
  split
  · subst_vars; rfl
  · exact decV_dec n
theorem decF_lt : ∀ {l : List UInt8} {v : Nat}, (∀ b, b ∈ l → b.toNat ≤ 57) → decF v l < 10 ^ l.length * (v + 1)
  | [], v, _ => by simp [decF]
  | b :: l, v, h => by
    have h1 := decF_lt (l := l) (v := 10 * v + (b.toNat - 48)) fun x hx => h x (List.mem_cons_of_mem _ hx)
    have h2 := h b List.mem_cons_self
    have e1 : decF v (b :: l) = decF (10 * v + (b.toNat - 48)) l := rfl
    rw [e1]
    refine Nat.lt_of_lt_of_le h1 ?_
    rw [List.length_cons, Nat.pow_succ, Nat.mul_assoc]
    exact Nat.mul_le_mul_left _ (by omega)
theorem decV_lt {l : List UInt8} (h : ∀ b, b ∈ l → b.toNat ≤ 57) : decV l < 10 ^ l.length := by
  have := decF_lt (v := 0) h
  simpa [decV] using this
def isDig (b : UInt8) : Prop := 48 ≤ b.toNat ∧ b.toNat ≤ 57
def Good (l : List UInt8) : Prop := l ≠ [] ∧ (∀ b, b ∈ l → isDig b) ∧ (l.length = 1 ∨ (l.getD 0 0).toNat ≠ 48)
theorem decT_decV {l : List UInt8} (h : Good l) : decT (decV l) = l := by
  obtain ⟨h0, h1, h2⟩ := h
  obtain ⟨ds, hds⟩ : ∃ ds : List Nat, ds = l.reverse.map fun b => b.toNat - 48 := ⟨_, rfl⟩
  have hlim : Lim 10 ds := by
    intro x hx
    rw [hds] at hx
    obtain ⟨b, hb, rfl⟩ := List.mem_map.1 hx
    have := h1 b (List.mem_reverse.1 hb)
    unfold isDig at this; omega
  have hl : l = ds.reverse.map chr := by
    have hr : ds.reverse = l.map fun b => b.toNat - 48 := by rw [hds, ← List.map_reverse, List.reverse_reverse]
    rw [hr, List.map_map]
    conv => lhs; rw [← List.map_id l]
    apply List.map_congr_left
    intro b hb
    have := h1 b hb
    unfold isDig at this
    apply UInt8.toNat_inj.1
    show b.toNat = (chr (b.toNat - 48)).toNat
    rw [chr_nat (by omega)]; omega
  have hv : decV l = val 10 ds := by
    conv => lhs; rw [hl]
    exact decV_chr hlim
  obtain ⟨b, r, hbr⟩ : ∃ b r, l = b :: r := List.exists_cons_of_ne_nil h0
  have hb := h1 b (by rw [hbr]; simp)
  unfold isDig at hb
  have htop : ds = (r.reverse.map fun b => b.toNat - 48) ++ [b.toNat - 48] := by
    rw [hds, hbr, List.reverse_cons, List.map_append]; rfl
  by_cases hb0 : b.toNat = 48
  · rcases h2 with h2 | h2
    · have hr : r = [] := by rw [hbr] at h2; simpa using h2
      have hz : val 10 ds = 0 := by rw [htop, hr, hb0]; rfl
      rw [hv, hz, hbr, hr]
      show [48] = [b]
      rw [show b = 48 from UInt8.toNat_inj.1 hb0]
    · rw [hbr] at h2; exact absurd hb0 h2
  · have hd : ds = digs 10 (val 10 ds) := digs_of (by omega) hlim (.inr (by rw [htop, last_append (by simp)]; simp; omega))
    have hp : val 10 ds ≠ 0 := fun e => by
      rw [e, digs_zero, htop] at hd; simp at hd
    rw [hv]
    unfold decT dec
    rw [if_neg hp, ← hd, ← hl]
theorem good_decT (n : Nat) : Good (decT n) := by
  unfold decT
  split
  · exact ⟨by simp, by simp [isDig], .inl rfl⟩
  · rename_i h
    have hn : 0 < n := by omega
    refine ⟨dec_pos hn, fun b hb => ?_, .inr ?_⟩
    · unfold dec at hb
      obtain ⟨x, hx, rfl⟩ := List.mem_map.1 hb
      have := lim_digs (B := 10) (by omega) n x (List.mem_reverse.1 hx)
      unfold isDig; rw [chr_nat this]; omega
    · have hl := digs_last (B := 10) (by omega) hn
      have hne : digs 10 n ≠ [] := fun e => by have := (digs_nil (B := 10) (by omega)).1 e; omega
      obtain ⟨l, x, hx⟩ : ∃ l x, digs 10 n = l ++ [x] := ⟨_, _, (List.dropLast_concat_getLast hne).symm⟩
      have hx0 : x ≠ 0 := by
        rw [hx, last_append (by simp)] at hl
        simpa using hl
      have hx10 : x < 10 := lim_digs (B := 10) (by omega) n x (by rw [hx]; simp)
      have : dec n = chr x :: l.reverse.map chr := by simp [dec, hx]
      rw [this]
      show (chr x).toNat ≠ 48
      rw [chr_nat hx10]; omega
def badAt (l : List UInt8) (i : Nat) : Prop := (l.getD i 0).toNat < 48 ∨ 57 < (l.getD i 0).toNat ∨ (0 < i ∧ (l.getD 0 0).toNat = 48)
theorem good_of {l : List UInt8} (h0 : l ≠ []) (h : ∀ i, i < l.length → ¬ badAt l i) : Good l := by
  refine ⟨h0, fun b hb => ?_, ?_⟩
  · obtain ⟨i, hi, rfl⟩ := List.getElem_of_mem hb
    have := h i hi
    unfold badAt at this
    rw [List.getD_eq_getElem?_getD, List.getElem?_eq_getElem hi, Option.getD_some] at this
    unfold isDig; omega
  · by_cases hl : l.length = 1
    · exact .inl hl
    · right
      have hp : 0 < l.length := List.length_pos_iff.2 h0
      have := h 1 (by omega)
      unfold badAt at this; omega
theorem bad_of_good {l : List UInt8} (h : Good l) {i : Nat} (hi : i < l.length) : ¬ badAt l i := by
  obtain ⟨h0, h1, h2⟩ := h
  have := h1 _ (List.getElem_mem hi)
  unfold badAt isDig at *
  rw [List.getD_eq_getElem?_getD, List.getElem?_eq_getElem hi, Option.getD_some]
  omega
end Go.Proofs.YtanchgkiomfhhaaDoor.Ma

/- A text read, as package limb reads it. -/
namespace Go.Proofs.YtanchgkiomfhhaaDoor.Fw
set_option linter.unusedSimpArgs false
set_option linter.unusedVariables false
open Go Go.Proofs.YtanchgkiomfhhaaDoor.Ma
set_option maxRecDepth 20000

def spot (e a : Nat) : AV := .agg [.int .i64 (e : Int), .int .i64 (a : Int)]
theorem cells_spot {e a : Nat} : (spot e a).cells = some [.int .i64 (e : Int), .int .i64 (a : Int)] := id rfl
theorem cells_i2 {k k' : IntKind} {a b : Int} : (AV.agg [.int k a, .int k' b]).cells = some [.int k a, .int k' b] := id rfl
theorem min_k {a b : Nat} {K : AV → Prop} : maxW false (.int .i64 (a : Int)) (.int .i64 (b : Int)) K ↔ K (.int .i64 ((min a b : Nat) : Int)) := by
  have : (if (b : Int) < (a : Int) then (b : Int) else (a : Int)) = ((min a b : Nat) : Int) := by split <;> omega
  simp only [maxW, true_and, Bool.false_eq_true, if_false, this]
theorem rng_Sx {H : AHeap} {l : List UInt8} {K : AV → AHeap → Prop} : rngW H (Sx l) K = rngS H ⟨l.toArray⟩ K := id rfl
theorem byte_Sx {l : List UInt8} {i : Nat} : byteAt ⟨l.toArray⟩ i = (l.getD i 0).toNat := by simp [byteAt]
theorem nxt_Sl {H : AHeap} {b pos : Nat} {l : List UInt8} {K : AV → AHeap → Prop} (h : pos < l.length) (hb : (l.getD pos 0).toNat < 128) : nxtP H b K (some (.raw (.stringIter ⟨l.toArray⟩ pos))) = K (.tup [.bool true, .int .i64 (pos : Int), .int .i32 (((l.getD pos 0).toNat : Nat) : Int)]) (H.upd b (some (.raw (.stringIter ⟨l.toArray⟩ (pos + 1))))) := by
  rw [nxt_lt (by rw [size_Sx]; exact h) (by rw [byte_Sx]; exact hb), byte_Sx]
theorem nxt_Sg {H : AHeap} {b pos : Nat} {l : List UInt8} {K : AV → AHeap → Prop} (h : l.length ≤ pos) : nxtP H b K (some (.raw (.stringIter ⟨l.toArray⟩ pos))) = K (.tup [.bool false]) H := nxt_ge (by rw [size_Sx]; exact h)
theorem wn_i32 {n : Nat} (h : n < 2147483648) : IntKind.i32.wrap (n : Int) = (n : Int) := by
  unfold IntKind.wrap; simp only [IntKind.bits, IntKind.signed, Bool.true_and, decide_eq_true_eq, ge_iff_le]; split <;> omega
theorem ten_b {n m : Nat} (h : 4 * n ≤ 32 * m) : 10 ^ n ≤ 4294967296 ^ m := by
  have h1 : 10 ^ n ≤ 16 ^ n := Nat.pow_le_pow_left (by omega) n
  have h2 : (16 : Nat) ^ n = 2 ^ (4 * n) := by rw [Nat.pow_mul]
  have h3 : (4294967296 : Nat) ^ m = 2 ^ (32 * m) := by rw [Nat.pow_mul]
  rw [h3]
  exact Nat.le_trans h1 (by rw [h2]; exact Nat.pow_le_pow_right (by omega) h)
theorem ten_bound {n : Nat} (h : n ≤ 65536) : 10 ^ n ≤ 4294967296 ^ 8192 := ten_b (m := 8192) (by omega)
def ReadR (l : List UInt8) (r : AV) : Prop :=
  (65536 < l.length ∧ r = .tup [LS [] true, spot 3 65536]) ∨ (l = [] ∧ r = .tup [LS [] true, spot 6 0]) ∨
  (l.length ≤ 65536 ∧ ∃ i, i < l.length ∧ badAt l i ∧ (∀ j, j < i → ¬ badAt l j) ∧ r = .tup [LS [] true, spot 6 i]) ∨
  (l.length ≤ 65536 ∧ Good l ∧ r = .tup [LS (Ma.digs 4294967296 (decV l)) true, spot 0 0])
theorem readR_fn {l : List UInt8} {r r' : AV} (h : ReadR l r) (h' : ReadR l r') : r = r' := by
  have nb : ∀ {i}, Good l → i < l.length → badAt l i → False := fun g hi hb => bad_of_good g hi hb
  have ne : Good l → l = [] → False := fun g e => g.1 e
  rcases h with ⟨a, rfl⟩ | ⟨a, rfl⟩ | ⟨a, i, b, c, d, rfl⟩ | ⟨a, b, rfl⟩ <;> rcases h' with ⟨a', rfl⟩ | ⟨a', rfl⟩ | ⟨a', i', b', c', d', rfl⟩ | ⟨a', b', rfl⟩ <;>
    first
    | rfl
    | (exfalso; omega)
    | (subst a; simp at a'; done)
    | (subst a'; simp at a; done)
    | (subst a; simp at b'; done)
    | (subst a'; simp at b; done)
    | exact (ne ‹_› ‹_›).elim
    | exact (nb ‹_› ‹_› ‹_›).elim
    | (have : i = i' := by
        rcases Nat.lt_trichotomy i i' with h | h | h
        · exact absurd c (d' i h)
        · exact h
        · exact absurd c' (d i' h)
       rw [this])
theorem read_fn {l : List UInt8} {r : AV} (hr : ReadR l r) (hsz : l.length < 9223372036854775808) : PFn Tryd.prog 202 [Sx l] r := by
  intro H Q hq
  have out : ∀ {r'}, ReadR l r' → Q r' H := fun h => by rw [readR_fn h hr]; exact hq
  refine enter202 (by simp) ?_
  simp (disch := first | assumption | (apply Ap.symm; assumption) | omega | decide | (simp only [Xd] <;> omega)) only [ac202, ↓Xa, Xb, Xc, ↓reduceIte, Nat.reduceLT, Nat.reduceEqDiff, Nat.reduceBEq, Nat.reduceLeDiff, Nat.reduceAdd, Nat.reduceMul]
  refine alloc_i fun p1 hp1 => ?_
  have n1 := hp1
  have fin : ∀ {r' : AV} {x : Option ABlk}, ReadR l r' → SetR Q r' (H.upd p1 x) := fun h => SetR.dropTo ((Le.refl H).updB n1) (SetR.now (out h))
  by_cases h1 : 65536 < l.length
  · simp (disch := first | assumption | (apply Ap.symm; assumption) | omega | decide | (simp only [Xd] <;> omega)) only [len_Sx, h1, cells_i2, rs202, ↓Xa, Xb, Xc, ↓reduceIte, Nat.reduceLT, Nat.reduceEqDiff, Nat.reduceBEq, Nat.reduceLeDiff, Nat.reduceAdd, Nat.reduceMul]
    exact fin (.inl ⟨h1, rfl⟩)
  by_cases h2 : l = []
  · simp (disch := first | assumption | (apply Ap.symm; assumption) | omega | decide | (simp only [Xd] <;> omega)) only [len_Sx, str_Sx, eql_Sx, h2, rs202, List.length_nil, ↓Xa, Xb, Xc, ↓reduceIte, Nat.reduceLT, Nat.reduceEqDiff, Nat.reduceBEq, Nat.reduceLeDiff, Nat.reduceAdd, Nat.reduceMul]
    exact fin (.inr (.inl ⟨h2, rfl⟩))
  have hpos : 0 < l.length := List.length_pos_iff.2 h2
  simp (disch := first | assumption | (apply Ap.symm; assumption) | omega | decide | (simp only [Xd] <;> omega)) only [len_Sx, str_Sx, eql_Sx, h1, h2, ↓Xa, Xb, Xc, ↓reduceIte, Nat.reduceLT, Nat.reduceEqDiff, Nat.reduceBEq, Nat.reduceLeDiff, Nat.reduceAdd, Nat.reduceMul]
  refine W_loop (fun i : Nat => ⟨[], [(0, Sx l), (3, .ptr p1 2 0), (19, .int .i64 (l.length : Nat)), (20, .int .i64 (i : Nat))], H.upd p1 (some (.row 105 0 [.int .i64 ((0 : Nat) : Int), .int .i64 ((0 : Nat) : Int)]))⟩) (fun i => i ≤ l.length ∧ ∀ j, j < i → ¬ badAt l j) (fun i => l.length - i) 0 (Settle.now rfl) ⟨by simp, fun j h => by omega⟩ ?_
  rintro i ⟨hi1, hi2⟩
  by_cases hi : i < l.length
  · have bad : badAt l i → SetR Q (.tup [LS [] true, spot 6 i]) (H.upd p1 (some (.row 105 0 [.int .i64 ((6 : Nat) : Int), .int .i64 (i : Int)]))) := fun hb => fin (.inr (.inr (.inl ⟨by omega, i, hi, hb, hi2, rfl⟩)))
    have step : ¬ badAt l i → ∀ j, j < i + 1 → ¬ badAt l j := fun hb j hj => by
      by_cases e : j = i
      · rw [e]; exact hb
      · exact hi2 j (by omega)
    by_cases c1 : (l.getD i 0).toNat < 48
    · simp (disch := first | assumption | (apply Ap.symm; assumption) | omega | decide | (simp only [Xd] <;> omega)) only [hi, idx_Sx, c1, cells_i2, rs202, ↓Xa, Xb, Xc, ↓reduceIte, Nat.reduceLT, Nat.reduceEqDiff, Nat.reduceBEq, Nat.reduceLeDiff, Nat.reduceAdd, Nat.reduceMul]
      exact bad (.inl c1)
    by_cases c2 : 57 < (l.getD i 0).toNat
    · simp (disch := first | assumption | (apply Ap.symm; assumption) | omega | decide | (simp only [Xd] <;> omega)) only [hi, idx_Sx, c1, c2, cells_i2, rs202, ↓Xa, Xb, Xc, ↓reduceIte, Nat.reduceLT, Nat.reduceEqDiff, Nat.reduceBEq, Nat.reduceLeDiff, Nat.reduceAdd, Nat.reduceMul]
      exact bad (.inr (.inl c2))
    by_cases c3 : 0 < i
    · by_cases c4 : (l.getD 0 0).toNat = 48
      · simp (disch := first | assumption | (apply Ap.symm; assumption) | omega | decide | (simp only [Xd] <;> omega)) only [hi, idx_Sx, c1, c2, c3, c4, cells_i2, rs202, ↓Xa, Xb, Xc, ↓reduceIte, Nat.reduceLT, Nat.reduceEqDiff, Nat.reduceBEq, Nat.reduceLeDiff, Nat.reduceAdd, Nat.reduceMul]
        exact bad (.inr (.inr ⟨c3, c4⟩))
      · simp (disch := first | assumption | (apply Ap.symm; assumption) | omega | decide | (simp only [Xd] <;> omega)) only [hi, idx_Sx, c1, c2, c3, c4, ↓Xa, Xb, Xc, ↓reduceIte, Nat.reduceLT, Nat.reduceEqDiff, Nat.reduceBEq, Nat.reduceLeDiff, Nat.reduceAdd, Nat.reduceMul]
        exact Settle.now ⟨i + 1, by omega, ⟨by omega, step (by unfold badAt; omega)⟩, rfl⟩
    · simp (disch := first | assumption | (apply Ap.symm; assumption) | omega | decide | (simp only [Xd] <;> omega)) only [hi, idx_Sx, c1, c2, c3, ↓Xa, Xb, Xc, ↓reduceIte, Nat.reduceLT, Nat.reduceEqDiff, Nat.reduceBEq, Nat.reduceLeDiff, Nat.reduceAdd, Nat.reduceMul]
      exact Settle.now ⟨i + 1, by omega, ⟨by omega, step (by unfold badAt; omega)⟩, rfl⟩
  · have hg : Good l := good_of h2 fun j hj => hi2 j (by omega)
    simp (disch := first | assumption | (apply Ap.symm; assumption) | omega | decide | (simp only [Xd] <;> omega)) only [hi, ↓Xa, Xb, Xc, ↓reduceIte, Nat.reduceLT, Nat.reduceEqDiff, Nat.reduceBEq, Nat.reduceLeDiff, Nat.reduceAdd, Nat.reduceMul]
    refine Settle.now ?_
    simp (disch := first | assumption | (apply Ap.symm; assumption) | omega | decide | (simp only [Xd] <;> omega)) only [↓Xa, Xb, Xc, ↓reduceIte, Nat.reduceLT, Nat.reduceEqDiff, Nat.reduceBEq, Nat.reduceLeDiff, Nat.reduceAdd, Nat.reduceMul]
    have hdig : ∀ b, b ∈ l → b.toNat ≤ 57 := fun b hb => (hg.2.1 b hb).2
    refine W_loop (fun s : List UInt8 × Nat => ⟨[], [(0, Sx s.1), (3, .ptr p1 2 0), (5, LS (Ma.digs 4294967296 s.2) true)], H.upd p1 (some (.row 105 0 [.int .i64 ((0 : Nat) : Int), .int .i64 ((0 : Nat) : Int)]))⟩) (fun s => ∃ d, l = d ++ s.1 ∧ s.2 = decV d) (fun s => s.1.length) (l, 0) (Settle.now (by rw [digs_zero]; rfl)) ⟨[], by simp, rfl⟩ ?_
    rintro ⟨m, v⟩ ⟨d, hd1, hd2⟩
    dsimp only at hd1 hd2 ⊢
    have hlen : l.length = d.length + m.length := by rw [hd1, List.length_append]
    cases m with
    | nil =>
      rw [List.append_nil] at hd1
      simp (disch := first | assumption | (apply Ap.symm; assumption) | omega | decide | (simp only [Xd] <;> omega)) only [len_Sx, List.length_nil, ↓Xa, Xb, Xc, ↓reduceIte, Nat.reduceLT, Nat.reduceEqDiff, Nat.reduceBEq, Nat.reduceLeDiff, Nat.reduceAdd, Nat.reduceMul]
      refine Settle.now ?_
      simp (disch := first | assumption | (apply Ap.symm; assumption) | omega | decide | (simp only [Xd] <;> omega)) only [cells_i2, rs202, ↓Xa, Xb, Xc, ↓reduceIte, Nat.reduceLT, Nat.reduceEqDiff, Nat.reduceBEq, Nat.reduceLeDiff, Nat.reduceAdd, Nat.reduceMul]
      rw [hd2, ← hd1]
      exact fin (.inr (.inr (.inr ⟨by omega, hg, rfl⟩)))
    | cons x m =>
      generalize hm : x :: m = y at *
      have hy0 : 0 < y.length := by rw [← hm]; simp
      simp (disch := first | assumption | (apply Ap.symm; assumption) | omega | decide | (simp only [Xd] <;> omega)) only [len_Sx, hy0, min_k, slc_SxH, rng_Sx, ↓Xa, Xb, Xc, ↓reduceIte, Nat.reduceLT, Nat.reduceEqDiff, Nat.reduceBEq, Nat.reduceLeDiff, Nat.reduceAdd, Nat.reduceMul]
      refine rng_i fun q hq' => ?_
      obtain ⟨a1, a2⟩ := upd_none.1 hq'
      obtain ⟨n, hn⟩ : ∃ n, n = min y.length 9 := ⟨_, rfl⟩
      rw [← hn]
      obtain ⟨z, hz⟩ : ∃ z, z = y.take n := ⟨_, rfl⟩
      rw [← hz]
      have hzl : z.length = n := by rw [hz, List.length_take]; omega
      have hzd : ∀ b, b ∈ z → isDig b := fun b hb => hg.2.1 b (by rw [hd1]; exact List.mem_append_right _ (List.mem_of_mem_take (hz ▸ hb)))
      have p9 : ∀ k, k ≤ 9 → 10 ^ k ≤ 1000000000 := fun k hk => Nat.le_trans (Nat.pow_le_pow_right (by omega) hk) (by decide)
      simp (disch := first | assumption | (apply Ap.symm; assumption) | omega | decide | (simp only [Xd] <;> omega)) only [↓Xa, Xb, Xc, ↓reduceIte, Nat.reduceLT, Nat.reduceEqDiff, Nat.reduceBEq, Nat.reduceLeDiff, Nat.reduceAdd, Nat.reduceMul]
      refine W_loop (fun s : Nat => ⟨[], [(0, Sx y), (3, .ptr p1 2 0), (5, LS (Ma.digs 4294967296 v) true), (6, .int .i64 (n : Nat)), (7, .int .u32 ((decV (z.take s) : Nat) : Int)), (8, .int .u32 ((10 ^ s : Nat) : Int)), (54, .ptr q 0 0)],
        (H.upd p1 (some (.row 105 0 [.int .i64 ((0 : Nat) : Int), .int .i64 ((0 : Nat) : Int)]))).upd q (some (.raw (.stringIter ⟨z.toArray⟩ s)))⟩) (fun s => s ≤ n) (fun s => n - s) 0 (Settle.now rfl) (Nat.zero_le _) ?_
      intro i hin
      have hzt : ∀ k, ∀ b, b ∈ z.take k → b.toNat ≤ 57 := fun k b hb => (hzd b (List.mem_of_mem_take hb)).2
      have hvt : decV (z.take i) < 10 ^ i := by
        have := decV_lt (hzt i)
        rwa [List.length_take, Nat.min_eq_left (by omega)] at this
      by_cases hi2 : i < n
      · have hzi : i < z.length := by omega
        have hdg := hzd _ (List.getElem_mem hzi)
        have eg : z.getD i 0 = z[i] := by rw [List.getD_eq_getElem?_getD, List.getElem?_eq_getElem hzi, Option.getD_some]
        rw [← eg] at hdg
        unfold isDig at hdg
        have h128 : (z.getD i 0).toNat < 128 := by omega
        have h10 := p9 i (by omega)
        have h11 := p9 (i + 1) (by omega)
        have hsucc : decV (z.take (i + 1)) = 10 * decV (z.take i) + ((z.getD i 0).toNat - 48) := by
          have : z.take (i + 1) = z.take i ++ [z.getD i 0] := by
            rw [List.take_add_one, List.getElem?_eq_getElem hzi, eg]; rfl
          rw [this, decV_app, decV_one]; simp
        rw [Nat.pow_succ] at h11
        simp (disch := first | assumption | (apply Ap.symm; assumption) | omega | decide | (simp only [Xd] <;> omega)) only [nxt_Sl, wn_i32, ↓Xa, Xb, Xc, ↓reduceIte, Nat.reduceLT, Nat.reduceEqDiff, Nat.reduceBEq, Nat.reduceLeDiff, Nat.reduceAdd, Nat.reduceMul]
        refine Settle.now ⟨i + 1, by omega, by omega, ?_⟩
        rw [hsucc, Nat.pow_succ]
        done
      · obtain rfl : i = n := by omega
        rw [List.take_of_length_le (by omega)] at hvt ⊢
        have hge : z.length ≤ i := by omega
        simp (disch := first | assumption | (apply Ap.symm; assumption) | omega | decide | (simp only [Xd] <;> omega)) only [nxt_Sg, ↓Xa, Xb, Xc, ↓reduceIte, Nat.reduceLT, Nat.reduceEqDiff, Nat.reduceBEq, Nat.reduceLeDiff, Nat.reduceAdd, Nat.reduceMul]
        refine Settle.now ?_
        simp (disch := first | assumption | (apply Ap.symm; assumption) | omega | decide | (simp only [Xd] <;> omega)) only [↓Xa, Xb, Xc, ↓reduceIte, Nat.reduceLT, Nat.reduceEqDiff, Nat.reduceBEq, Nat.reduceLeDiff, Nat.reduceAdd, Nat.reduceMul]
        have hv : v < 4294967296 ^ 8192 := by
          rw [hd2]
          refine Nat.lt_of_lt_of_le (decV_lt fun b hb => hdig b (by rw [hd1]; exact List.mem_append_left _ hb)) ?_
          exact ten_bound (by omega)
        have h10 := p9 i (by omega)
        refine (muls_n true (Nm.digs hv) (by omega) (by omega)).call ?_
        simp (disch := first | assumption | (apply Ap.symm; assumption) | omega | decide | (simp only [Xd] <;> omega)) only [↓Xa, Xb, Xc, ↓reduceIte, Nat.reduceLT, Nat.reduceEqDiff, Nat.reduceBEq, Nat.reduceLeDiff, Nat.reduceAdd, Nat.reduceMul]
        refine (add_n (b := [decV z]) true true (Nm.digs (lt_mul hv (show 10 ^ i < 4294967296 ^ 1 by omega))) (Nm.one (by omega)) (by omega) (by omega)).call ?_
        simp (disch := first | assumption | (apply Ap.symm; assumption) | omega | decide | (simp only [Xd] <;> omega)) only [slc_SxL, ↓Xa, Xb, Xc, ↓reduceIte, Nat.reduceLT, Nat.reduceEqDiff, Nat.reduceBEq, Nat.reduceLeDiff, Nat.reduceAdd, Nat.reduceMul]
        refine Settle.dropTo ((Le.refl _).updB hq') (Settle.now ⟨(y.drop i, v * 10 ^ i + decV z), ?_, ⟨d ++ z, ?_, ?_⟩, rfl⟩)
        · dsimp only; rw [List.length_drop]; omega
        · dsimp only; rw [hd1, hz, List.append_assoc, List.take_append_drop]
        · dsimp only; rw [hd2, decV_app, hzl]; grind
end Go.Proofs.YtanchgkiomfhhaaDoor.Fw
