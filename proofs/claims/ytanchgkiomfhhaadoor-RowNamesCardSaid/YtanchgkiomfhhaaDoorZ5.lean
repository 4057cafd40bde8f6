/- The texts In Yb Re Rf Rg Ri Rj Rk Rl Rm Rn Ro Io Rp Rq Rr Rs Yc Yd Ye Ym Kc Kd Rt Ru Rv Rw Ka Kn Kb Kf Kg Qn Qa Qb Al11 Al12 Al9, joined. -/
import Derived.Test.YtanchgkiomfhhaaDoorZ4
/- What package integer computes: making, signs, comparing, sums, products. -/
namespace Go.Proofs.YtanchgkiomfhhaaDoor.Fw
set_option linter.unusedSimpArgs false
set_option linter.unusedVariables false
open Go Go.Proofs.YtanchgkiomfhhaaDoor.Ma
set_option maxRecDepth 20000

def IntA (z : Int) : AV := .agg [.bool (decide (z < 0)), LS (digs 4294967296 z.natAbs) true]
def sg (neg : Bool) (n : Nat) : Int := if neg then -(n : Int) else n
theorem sg_abs (neg : Bool) (n : Nat) : (sg neg n).natAbs = n := by cases neg <;> simp [sg]
theorem sg_neg (neg : Bool) (n : Nat) : decide (sg neg n < 0) = (neg && decide (0 < n)) := by cases neg <;> simp [sg] <;> omega
theorem IntA_sg (neg : Bool) (n : Nat) : IntA (sg neg n) = .agg [.bool (neg && decide (0 < (digs 4294967296 n).length)), LS (digs 4294967296 n) true] := by
  simp only [IntA, sg_abs, sg_neg, digs_pos_len (B := 4294967296) (n := n) (by omega)]

def IntB (z : Int) : AV := .bool (decide (z < 0))
def IntD (z : Int) : AV := LS (digs 4294967296 z.natAbs) true
theorem IntA_eq {z : Int} : IntA z = .agg [IntB z, IntD z] := id rfl
theorem cells_IntA {z : Int} : (IntA z).cells = some [IntB z, IntD z] := id rfl
theorem fold_IntA {z : Int} : AV.agg [IntB z, IntD z] = IntA z := id rfl
theorem IntA_0 : AV.agg [.bool false, .seq 0 [] true] = IntA 0 := by simp [IntA, digs_zero, LS, U]
theorem made_fn (neg : Bool) (n : Nat) (hl : (digs 4294967296 n).length ≤ 1099511627776) : PFn Tryd.prog 137 [.bool neg, LS (digs 4294967296 n) true] (IntA (sg neg n)) := by
  intro H Q hq
  refine enter137 (by simp) ?_
  rw [IntA_sg] at hq
  simp (disch := first | assumption | (apply Ap.symm; assumption) | omega | decide | (simp only [Xd] <;> omega)) only [ac137, ↓Xa, Xb, Xc, ↓reduceIte, Nat.reduceLT, Nat.reduceEqDiff, Nat.reduceBEq, Nat.reduceLeDiff, Nat.reduceAdd, Nat.reduceMul]
  refine alloc_i fun p hp => ?_
  cases neg
  · simp (disch := first | assumption | (apply Ap.symm; assumption) | omega | decide | (simp only [Xd] <;> omega)) only [rs137, ↓Xa, Xb, Xc, ↓reduceIte, Nat.reduceLT, Nat.reduceEqDiff, Nat.reduceBEq, Nat.reduceLeDiff, Nat.reduceAdd, Nat.reduceMul]
    exact SetR.dropTo ((Le.refl H).upd hp) (SetR.now hq)
  · simp (disch := first | assumption | (apply Ap.symm; assumption) | omega | decide | (simp only [Xd] <;> omega)) only [rs137, ↓Xa, Xb, Xc, ↓reduceIte, Nat.reduceLT, Nat.reduceEqDiff, Nat.reduceBEq, Nat.reduceLeDiff, Nat.reduceAdd, Nat.reduceMul]
    exact SetR.dropTo ((Le.refl H).upd hp) (SetR.now hq)

def Bd (k : Nat) (z : Int) : Prop := z.natAbs < 4294967296 ^ k
theorem Bd.len {k : Nat} {z : Int} (h : Bd k z) : (digs 4294967296 z.natAbs).length ≤ k := digs_len (by omega) k _ h
theorem Bd.mono {k k' : Nat} {z : Int} (h : Bd k z) (hk : k ≤ k') : Bd k' z := Nat.lt_of_lt_of_le h (Nat.pow_le_pow_right (by omega) hk)
theorem Bd.neg {k : Nat} {z : Int} (h : Bd k z) : Bd k (-z) := by unfold Bd at *; omega
theorem Bd.sgn {k n : Nat} {b : Bool} (h : n < 4294967296 ^ k) : Bd k (sg b n) := by unfold Bd; rw [sg_abs]; exact h
theorem Bd.abs {k : Nat} {z : Int} (h : Bd k z) : Bd k (z.natAbs : Int) := by unfold Bd at *; omega
theorem Bd.add {k : Nat} {x y : Int} (h : Bd k x) (h' : Bd k y) : Bd (k + 1) (x + y) := by
  unfold Bd at *; rw [Nat.pow_succ]; omega
theorem Bd.sub {k : Nat} {x y : Int} (h : Bd k x) (h' : Bd k y) : Bd (k + 1) (x - y) := by
  unfold Bd at *; rw [Nat.pow_succ]; omega
theorem Bd.mul {k k' : Nat} {x y : Int} (h : Bd k x) (h' : Bd k' y) : Bd (k + k') (x * y) := by
  unfold Bd at *; rw [Int.natAbs_mul, Nat.pow_add]
  exact Nat.mul_lt_mul_of_lt_of_lt h h'
theorem Bd.zero (k : Nat) : Bd k 0 := by unfold Bd; exact Nat.pow_pos (by omega)
theorem Bd.i64 {n : Int} (h : -9223372036854775808 ≤ n ∧ n < 9223372036854775808) : Bd 2 n := by unfold Bd; omega

theorem make_fn {l : List Nat} (neg t : Bool) (hl : Lim 4294967296 l) (hn : l.length ≤ 1099511627776) : PFn Tryd.prog 35 [.bool neg, LS l t] (IntA (sg neg (val 4294967296 l))) := by
  intro H Q hq
  refine enter35 (by simp) ?_
  simp (disch := first | assumption | (apply Ap.symm; assumption) | omega | decide | (simp only [Xd] <;> omega)) only [ac35, ↓Xa, Xb, Xc, ↓reduceIte, Nat.reduceLT, Nat.reduceEqDiff, Nat.reduceBEq, Nat.reduceLeDiff, Nat.reduceAdd, Nat.reduceMul]
  refine alloc_i fun p hp => ?_
  simp (disch := first | assumption | (apply Ap.symm; assumption) | omega | decide | (simp only [Xd] <;> omega)) only [↓Xa, Xb, Xc, ↓reduceIte, Nat.reduceLT, Nat.reduceEqDiff, Nat.reduceBEq, Nat.reduceLeDiff, Nat.reduceAdd, Nat.reduceMul]
  refine (norm_fn t (by omega)).call ?_
  rw [tr_digs (by omega) hl]
  simp (disch := first | assumption | (apply Ap.symm; assumption) | omega | decide | (simp only [Xd] <;> omega)) only [↓Xa, Xb, Xc, ↓reduceIte, Nat.reduceLT, Nat.reduceEqDiff, Nat.reduceBEq, Nat.reduceLeDiff, Nat.reduceAdd, Nat.reduceMul]
  refine (made_fn neg _ (by have := tr_len l; rw [tr_digs (by omega) hl] at this; omega)).call ?_
  simp (disch := first | assumption | (apply Ap.symm; assumption) | omega | decide | (simp only [Xd] <;> omega)) only [rs35, IntA, ↓Xa, Xb, Xc, ↓reduceIte, Nat.reduceLT, Nat.reduceEqDiff, Nat.reduceBEq, Nat.reduceLeDiff, Nat.reduceAdd, Nat.reduceMul]
  exact SetR.dropTo ((Le.refl H).upd hp) (SetR.now hq)

theorem of_fn {n : Int} (hn : -9223372036854775808 ≤ n ∧ n < 9223372036854775808) : PFn Tryd.prog 58 [.int .i64 n] (IntA n) := by
  intro H Q hq
  refine enter58 (by simp) ?_
  have v2 : ∀ u : Nat, u < 18446744073709551616 → val 4294967296 [u % 4294967296, u / 2 ^ 32] = u := by
    intro u hu; simp only [val]; omega
  have l2 : ∀ u : Nat, u < 18446744073709551616 → Lim 4294967296 [u % 4294967296, u / 2 ^ 32] := fun u hu => Lim.cons (Nat.mod_lt _ (by omega)) (Lim.one (by omega))
  simp (disch := first | assumption | (apply Ap.symm; assumption) | omega | decide | (simp only [Xd] <;> omega)) only [ac58, ↓Xa, Xb, Xc, ↓reduceIte, Nat.reduceLT, Nat.reduceEqDiff, Nat.reduceBEq, Nat.reduceLeDiff, Nat.reduceAdd, Nat.reduceMul]
  refine alloc_i fun p hp => ?_
  have key' : ∀ (u : Nat) (neg : Bool), u < 18446744073709551616 → sg neg u = n → ∀ {H K}, K (IntA n) H → callW Tryd.prog (.fn (.func 35) [] []) [.bool neg, .seq 2 [.int .u32 ((u % 4294967296 : Nat) : Int), .int .u32 ((u / 2 ^ 32 : Nat) : Int)] true] H K := by
    intro u neg hu hs H K hk
    have := make_fn neg true (l2 u hu) (by simp)
    rw [v2 u hu, hs] at this
    exact this.call hk
  by_cases h0 : n < 0
  · obtain ⟨m, rfl⟩ : ∃ m : Nat, n = -(m : Int) := ⟨n.natAbs, by omega⟩
    have c1 : ∀ K, convW .u64 (.int .i64 (-(m : Int))) K ↔ K (.int .u64 ((18446744073709551616 - m : Nat) : Int)) := fun K => by
      simp only [convW, wmod_u64]; rw [show (-(m : Int)) % 18446744073709551616 = ((18446744073709551616 - m : Nat) : Int) by omega]
    have c2 : ∀ K, unW .neg (.int .u64 ((18446744073709551616 - m : Nat) : Int)) K ↔ K (.int .u64 (m : Int)) := fun K => by
      simp only [unW, wmod_u64]; rw [show (0 - ((18446744073709551616 - m : Nat) : Int)) % 18446744073709551616 = (m : Int) by omega]
    have c3 : ∀ K, binW .lss (.int .i64 (-(m : Int))) (.int .i64 ((0 : Nat) : Int)) K ↔ K (.bool true) := fun K => by
      simp only [binW, binInt, true_and]; rw [decide_eq_true (by omega)]
    simp (disch := first | assumption | (apply Ap.symm; assumption) | omega | decide | (simp only [Xd] <;> omega)) only [c1, c2, c3, ↓Xa, Xb, Xc, ↓reduceIte, Nat.reduceLT, Nat.reduceEqDiff, Nat.reduceBEq, Nat.reduceLeDiff, Nat.reduceAdd, Nat.reduceMul]
    refine key' m true (by omega) (by simp [sg]) ?_
    simp (disch := first | assumption | (apply Ap.symm; assumption) | omega | decide | (simp only [Xd] <;> omega)) only [rs58, IntA, ↓Xa, Xb, Xc, ↓reduceIte, Nat.reduceLT, Nat.reduceEqDiff, Nat.reduceBEq, Nat.reduceLeDiff, Nat.reduceAdd, Nat.reduceMul]
    exact SetR.dropTo ((Le.refl H).upd hp) (SetR.now hq)
  · obtain ⟨m, rfl⟩ : ∃ m : Nat, n = (m : Int) := ⟨n.natAbs, by omega⟩
    simp (disch := first | assumption | (apply Ap.symm; assumption) | omega | decide | (simp only [Xd] <;> omega)) only [↓Xa, Xb, Xc, ↓reduceIte, Nat.reduceLT, Nat.reduceEqDiff, Nat.reduceBEq, Nat.reduceLeDiff, Nat.reduceAdd, Nat.reduceMul]
    refine key' m false (by omega) (by simp [sg]) ?_
    simp (disch := first | assumption | (apply Ap.symm; assumption) | omega | decide | (simp only [Xd] <;> omega)) only [rs58, IntA, ↓Xa, Xb, Xc, ↓reduceIte, Nat.reduceLT, Nat.reduceEqDiff, Nat.reduceBEq, Nat.reduceLeDiff, Nat.reduceAdd, Nat.reduceMul]
    exact SetR.dropTo ((Le.refl H).upd hp) (SetR.now hq)

def sgnI (x : Int) : Int := if x = 0 then ((0 : Nat) : Int) else if x < 0 then -1 else ((1 : Nat) : Int)
def cmpI (x y : Int) : Int := if x < y then -1 else if y < x then ((1 : Nat) : Int) else ((0 : Nat) : Int)
theorem addi_fn {x y : Int} {k k' : Nat} (hx : Bd k x) (hk : k ≤ 549755813888) (hy : Bd k' y) (hk' : k' ≤ 549755813888) : PFn Tryd.prog 121 [IntA x, IntA y] (IntA (x + y)) := by
  intro H Q hq
  have hl := hx.len
  have hl' := hy.len
  have vx := val_digs (B := 4294967296) (by omega) x.natAbs
  have vy := val_digs (B := 4294967296) (by omega) y.natAbs
  have lx := lim_digs (B := 4294967296) (by omega) x.natAbs
  have ly := lim_digs (B := 4294967296) (by omega) y.natAbs
  have hxm := hx.mono (Nat.le_max_left k k')
  have hym := hy.mono (Nat.le_max_right k k')
  refine enter121 (by simp) ?_
  simp (disch := first | assumption | (apply Ap.symm; assumption) | omega | decide | (simp only [Xd] <;> omega)) only [ac121, IntA, ↓Xa, Xb, Xc, ↓reduceIte, Nat.reduceLT, Nat.reduceEqDiff, Nat.reduceBEq, Nat.reduceLeDiff, Nat.reduceAdd, Nat.reduceMul]
  refine alloc_i fun p hp => ?_
  simp (disch := first | assumption | (apply Ap.symm; assumption) | omega | decide | (simp only [Xd] <;> omega)) only [↓Xa, Xb, Xc, ↓reduceIte, Nat.reduceLT, Nat.reduceEqDiff, Nat.reduceBEq, Nat.reduceLeDiff, Nat.reduceAdd, Nat.reduceMul]
  refine alloc_i fun p2 hp2 => ?_
  simp (disch := first | assumption | (apply Ap.symm; assumption) | omega | decide | (simp only [Xd] <;> omega)) only [↓Xa, Xb, Xc, ↓reduceIte, Nat.reduceLT, Nat.reduceEqDiff, Nat.reduceBEq, Nat.reduceLeDiff, Nat.reduceAdd, Nat.reduceMul]
  refine alloc_i fun p3 hp3 => ?_
  have hne := (upd_none.1 hp2).1
  have hne3 := (upd_none.1 hp3).1
  have hne4 := (upd_none.1 (upd_none.1 hp3).2).1
  by_cases hs : decide (x < 0) = decide (y < 0)
  · have hsb : (decide (x < 0) == decide (y < 0)) = true := by rw [hs]; simp
    simp (disch := first | assumption | (apply Ap.symm; assumption) | omega | decide | (simp only [Xd] <;> omega)) only [hsb, ↓Xa, Xb, Xc, ↓reduceIte, Nat.reduceLT, Nat.reduceEqDiff, Nat.reduceBEq, Nat.reduceLeDiff, Nat.reduceAdd, Nat.reduceMul]
    refine PFn.dcall (add_fn true true lx ly (by omega) (by omega)) ?_
    rw [vx, vy]
    simp (disch := first | assumption | (apply Ap.symm; assumption) | omega | decide | (simp only [Xd] <;> omega)) only [↓Xa, Xb, Xc, ↓reduceIte, Nat.reduceLT, Nat.reduceEqDiff, Nat.reduceBEq, Nat.reduceLeDiff, Nat.reduceAdd, Nat.reduceMul]
    have hb : Bd (max k k' + 1) (sg (decide (x < 0)) (x.natAbs + y.natAbs)) := Bd.sgn (by unfold Bd at hxm hym; rw [Nat.pow_succ]; omega)
    have hb' := hb.len
    rw [sg_abs] at hb'
    refine (made_fn _ _ (by omega)).call ?_
    simp (disch := first | assumption | (apply Ap.symm; assumption) | omega | decide | (simp only [Xd] <;> omega)) only [rs121, IntA, ↓Xa, Xb, Xc, ↓reduceIte, Nat.reduceLT, Nat.reduceEqDiff, Nat.reduceBEq, Nat.reduceLeDiff, Nat.reduceAdd, Nat.reduceMul]
    have e : x + y = sg (decide (x < 0)) (x.natAbs + y.natAbs) := by
      have := decide_eq_decide.1 hs
      unfold sg; by_cases h : x < 0 <;> simp [h] <;> omega
    rw [e] at hq
    exact SetR.dropTo ((((Le.refl H).upd hp).upd hp2).upd hp3) (SetR.now hq)
  · have hsb : (decide (x < 0) == decide (y < 0)) = false := by simpa using hs
    have hs' : ¬ ((x < 0) ↔ (y < 0)) := fun h => hs (decide_eq_decide.2 h)
    simp (disch := first | assumption | (apply Ap.symm; assumption) | omega | decide | (simp only [Xd] <;> omega)) only [hsb, ↓Xa, Xb, Xc, ↓reduceIte, Nat.reduceLT, Nat.reduceEqDiff, Nat.reduceBEq, Nat.reduceLeDiff, Nat.reduceAdd, Nat.reduceMul]
    refine (cmp_fn true true lx ly).call ?_
    rw [vx, vy]
    by_cases hc : x.natAbs < y.natAbs
    · have c3 : ∀ K, binW .lss (.int .i64 (cmpZ x.natAbs y.natAbs)) (.int .i64 ((0 : Nat) : Int)) K ↔ K (.bool true) := fun K => by
        simp [binW, binInt, cmpZ, hc]
      simp (disch := first | assumption | (apply Ap.symm; assumption) | omega | decide | (simp only [Xd] <;> omega)) only [c3, ↓Xa, Xb, Xc, ↓reduceIte, Nat.reduceLT, Nat.reduceEqDiff, Nat.reduceBEq, Nat.reduceLeDiff, Nat.reduceAdd, Nat.reduceMul]
      refine (sub_fn true true ly lx (by rw [vx, vy]; omega) (by omega) (by omega)).call ?_
      rw [vx, vy]
      simp (disch := first | assumption | (apply Ap.symm; assumption) | omega | decide | (simp only [Xd] <;> omega)) only [↓Xa, Xb, Xc, ↓reduceIte, Nat.reduceLT, Nat.reduceEqDiff, Nat.reduceBEq, Nat.reduceLeDiff, Nat.reduceAdd, Nat.reduceMul]
      have hb : Bd k' (sg (decide (y < 0)) (y.natAbs - x.natAbs)) := Bd.sgn (by unfold Bd at hy; omega)
      have hb' := hb.len
      rw [sg_abs] at hb'
      refine (made_fn _ _ (by omega)).call ?_
      simp (disch := first | assumption | (apply Ap.symm; assumption) | omega | decide | (simp only [Xd] <;> omega)) only [rs121, IntA, ↓Xa, Xb, Xc, ↓reduceIte, Nat.reduceLT, Nat.reduceEqDiff, Nat.reduceBEq, Nat.reduceLeDiff, Nat.reduceAdd, Nat.reduceMul]
      have e : x + y = sg (decide (y < 0)) (y.natAbs - x.natAbs) := by
        unfold sg; by_cases h : y < 0 <;> simp [h] <;> omega
      rw [e] at hq
      exact SetR.dropTo ((((Le.refl H).updB hp).updB (upd_none.1 hp2).2).updB (upd_none.1 (upd_none.1 hp3).2).2) (SetR.now hq)
    · have c3 : ∀ K, binW .lss (.int .i64 (cmpZ x.natAbs y.natAbs)) (.int .i64 ((0 : Nat) : Int)) K ↔ K (.bool false) := fun K => by
        have : ¬ (cmpZ x.natAbs y.natAbs < 0) := by unfold cmpZ; rw [if_neg hc]; split <;> omega
        simp [binW, binInt]; rw [decide_eq_false this]
      simp (disch := first | assumption | (apply Ap.symm; assumption) | omega | decide | (simp only [Xd] <;> omega)) only [c3, ↓Xa, Xb, Xc, ↓reduceIte, Nat.reduceLT, Nat.reduceEqDiff, Nat.reduceBEq, Nat.reduceLeDiff, Nat.reduceAdd, Nat.reduceMul]
      refine (sub_fn true true lx ly (by rw [vx, vy]; omega) (by omega) (by omega)).call ?_
      rw [vx, vy]
      simp (disch := first | assumption | (apply Ap.symm; assumption) | omega | decide | (simp only [Xd] <;> omega)) only [↓Xa, Xb, Xc, ↓reduceIte, Nat.reduceLT, Nat.reduceEqDiff, Nat.reduceBEq, Nat.reduceLeDiff, Nat.reduceAdd, Nat.reduceMul]
      have hb : Bd k (sg (decide (x < 0)) (x.natAbs - y.natAbs)) := Bd.sgn (by unfold Bd at hx; omega)
      have hb' := hb.len
      rw [sg_abs] at hb'
      refine (made_fn _ _ (by omega)).call ?_
      simp (disch := first | assumption | (apply Ap.symm; assumption) | omega | decide | (simp only [Xd] <;> omega)) only [rs121, IntA, ↓Xa, Xb, Xc, ↓reduceIte, Nat.reduceLT, Nat.reduceEqDiff, Nat.reduceBEq, Nat.reduceLeDiff, Nat.reduceAdd, Nat.reduceMul]
      have e : x + y = sg (decide (x < 0)) (x.natAbs - y.natAbs) := by
        unfold sg; by_cases h : x < 0 <;> simp [h] <;> omega
      rw [e] at hq
      exact SetR.dropTo ((((Le.refl H).upd hp).upd hp2).upd hp3) (SetR.now hq)

end Go.Proofs.YtanchgkiomfhhaaDoor.Fw

/- A whole number's text, as package integer tells it. -/
namespace Go.Proofs.YtanchgkiomfhhaaDoor.Fw
set_option linter.unusedSimpArgs false
set_option linter.unusedVariables false
open Go Go.Proofs.YtanchgkiomfhhaaDoor.Ma
set_option maxRecDepth 20000

def iText (z : Int) : List UInt8 := (if z < 0 then [45] else []) ++ decT z.natAbs
theorem Bt_app (l m : List UInt8) : Bt (l ++ m) = Bt l ++ Bt m := by simp [Bt]
theorem Bt_one {n : Nat} (h : n < 256) : [AV.int .u8 (n : Int)] = Bt [UInt8.ofNat n] := by
  simp only [Bt, List.map_cons, List.map_nil]
  rw [UInt8.toNat_ofNat', Nat.mod_eq_of_lt (by omega)]
theorem decT_len {n k : Nat} (h : n < 10 ^ k) (hk : 0 < k) : (decT n).length ≤ k := by
  unfold decT; split
  · simp; omega
  · exact dec_len h
theorem decT_bd {x : Int} {k : Nat} (hx : Bd k x) : (decT x.natAbs).length ≤ 10 * k + 1 := by
  refine decT_len (Nat.lt_of_lt_of_le hx ?_) (by omega)
  calc 4294967296 ^ k ≤ (10 ^ 10) ^ k := Nat.pow_le_pow_left (by omega) k
    _ = 10 ^ (10 * k) := by rw [Nat.pow_mul]
    _ ≤ 10 ^ (10 * k + 1) := Nat.pow_le_pow_right (by omega) (by omega)
theorem wn_u8' {n : Nat} (h : n < 256) : IntKind.u8.wrap (n : Int) = (n : Int) := by
  unfold IntKind.wrap; simp only [IntKind.bits, IntKind.signed, Bool.false_and, Bool.false_eq_true, if_false]; omega
theorem isDig_chr {b : UInt8} (h : isDig b) : UInt8.ofNat (48 + (b.toNat - 48)) = b := by
  unfold isDig at h
  rw [show 48 + (b.toNat - 48) = b.toNat by omega]; exact UInt8.ofNat_toNat
theorem b2s_B {H0 H : AHeap} {p tb ty : Nat} {l : List UInt8} (h : growB H0 p tb ty 1 l.length (Bt l) H) : ∃ x, H p = some (.row tb 0 [x]) ∧ AV.cells x = some [x] ∧ ∀ H' K, Le H H' → K (Sx l) → b2sW H' x K := by
  obtain ⟨x, hx, hc, _⟩ := growB_get h
  refine ⟨x, hx, ?_, ?_⟩
  · rcases hc with ⟨rfl, _, _⟩ | ⟨_, _, b, rfl, _⟩ <;> rfl
  · intro H' K hle k
    rcases hc with ⟨rfl, h0, hc⟩ | ⟨hn, hl, b, rfl, hb⟩
    · have : l = [] := List.eq_nil_of_length_eq_zero h0
      subst this
      exact ⟨rfl, k⟩
    · rw [Nat.mul_one, b2s_own, hle _ _ hb]
      refine ⟨by simp [Bt_len], rfl, by omega, ?_⟩
      rw [List.drop_zero, List.take_of_length_le (by simp [Bt_len]), bytesOf_Bt]
      exact k
def chD (d : Nat) : UInt8 := UInt8.ofNat (48 + d)
theorem chD_back : ∀ {l : List UInt8}, (∀ b, b ∈ l → isDig b) → (l.map fun b => b.toNat - 48).map chD = l := by
  intro l h
  rw [List.map_map]
  conv => rhs; rw [← List.map_id l]
  exact List.map_congr_left fun b hb => isDig_chr (h b hb)
theorem itext_fn {x : Int} {k : Nat} (hx : Bd k x) (hk : k ≤ 1000000) : PFn Tryd.prog 28 [IntA x] (Sx (iText x)) := by
  intro H Q hq
  have hdl := hx.len
  have hdt := decT_bd hx
  have hgd := good_decT x.natAbs
  refine enter28 (by simp) ?_
  simp (disch := first | assumption | (apply Ap.symm; assumption) | omega | decide | (simp only [Xd] <;> omega)) only [ac28, IntA, ↓Xa, Xb, Xc, ↓reduceIte, Nat.reduceLT, Nat.reduceEqDiff, Nat.reduceBEq, Nat.reduceLeDiff, Nat.reduceAdd, Nat.reduceMul]
  refine alloc_i fun p1 hp1 => ?_
  have n1 := hp1
  simp (disch := first | assumption | (apply Ap.symm; assumption) | omega | decide | (simp only [Xd] <;> omega)) only [↓Xa, Xb, Xc, ↓reduceIte, Nat.reduceLT, Nat.reduceEqDiff, Nat.reduceBEq, Nat.reduceLeDiff, Nat.reduceAdd, Nat.reduceMul]
  refine alloc_i fun p2 hp2 => ?_
  have n2 := hp2
  simp only [upd_none] at n2
  obtain ⟨_, n2⟩ := n2
  obtain ⟨neg, hneg⟩ : ∃ b, b = decide (x < 0) := ⟨_, rfl⟩
  rw [← hneg] at hp2 ⊢
  have tail : ∀ (pre : List UInt8) (H2 : AHeap) (v : Env), (v = [] ∨ v = [(6, .bool false)]) → pre.length ≤ 1 → pre ++ decT x.natAbs = iText x → growB (H.upd p1 (some (.row 28 0 [.bool neg, LS (digs 4294967296 x.natAbs) true]))) p2 103 5 1 pre.length (Bt pre) H2 →
      W Tryd.prog (sndC (sndC (sndC ac28))) (retN rs28 Q) ⟨[], [(1, .ptr p1 2 0), (2, Sx []), (3, .ptr p2 1 0)] ++ v, H2⟩ := by
    intro pre H2 v hv hp1 hpre hg
    have h1 : H2 p1 = some (.row 28 0 [.bool neg, LS (digs 4294967296 x.natAbs) true]) := by
      obtain ⟨_, _, _, hle⟩ := growB_get hg
      exact hle _ _ (upd_same _ _ _)
    rcases hv with rfl | rfl
    all_goals
     simp (disch := first | assumption | (apply Ap.symm; assumption) | omega | decide | (simp only [Xd] <;> omega)) only [sndC, ac28, h1, ↓Xa, Xb, Xc, ↓reduceIte, Nat.reduceLT, Nat.reduceEqDiff, Nat.reduceBEq, Nat.reduceLeDiff, Nat.reduceAdd, Nat.reduceMul]
     refine (digits_fn true (lim_digs (by omega) _) (by omega)).call ?_
     rw [val_digs (by omega)]
     simp (disch := first | assumption | (apply Ap.symm; assumption) | omega | decide | (simp only [Xd] <;> omega)) only [↓Xa, Xb, Xc, ↓reduceIte, Nat.reduceLT, Nat.reduceEqDiff, Nat.reduceBEq, Nat.reduceLeDiff, Nat.reduceAdd, Nat.reduceMul]
     obtain ⟨A, hd, rfl, hgA⟩ := growB_nu hg
     have hle : Le H (H.upd p1 (some (.row 28 0 [.bool neg, LS (digs 4294967296 x.natAbs) true]))) := (Le.refl H).upd n1
     refine rfn_iter (digits1_iter (fun b hb => hgd.2.1 b hb) (by omega)) (fun _ => rfl) (fun ds A => growB nilH p2 103 5 1 (pre ++ ds.map chD).length (Bt (pre ++ ds.map chD)) A) (fun _ _ => False) A _ hd rfl (by simpa using hgA) ?_ ?_ (fun _ _ _ _ _ _ h => h.elim)
     · intro ds d rest A B hds hdj hj R1 k1
       have hlen := congrArg List.length hds
       have hd10 : d < 10 := by
         have : d ∈ ((decT x.natAbs).map fun b => b.toNat - 48) := by rw [hds]; simp
         obtain ⟨b, hb, rfl⟩ := List.mem_map.1 this
         have := hgd.2.1 b hb
         unfold isDig at this; omega
       simp (disch := first | assumption | (apply Ap.symm; assumption) | omega | decide | (simp only [Xd] <;> omega)) only [setps, ↓Xa, Xb, Xc, ↓reduceIte, Nat.reduceLT, Nat.reduceEqDiff, Nat.reduceBEq, Nat.reduceLeDiff, Nat.reduceAdd, Nat.reduceMul]
       refine k1 _ A hdj fun R2 B1 k2 hd1 => ?_
       obtain ⟨y, hy, happ⟩ := growB_app (m := 1) (bytes := 1) (growB_un hj hd1)
       have e1 : IntKind.i64.wrap ((48 : Nat) + (d : Int)) = ((48 + d : Nat) : Int) := by rw [← Int.natCast_add]; exact wn_i64 (by omega)
       simp (disch := first | assumption | (apply Ap.symm; assumption) | omega | decide | (simp only [Xd] <;> omega)) only [hy, wn_u8', ↓Xa, Xb, Xc, ↓reduceIte, Nat.reduceLT, Nat.reduceEqDiff, Nat.reduceBEq, Nat.reduceLeDiff, Nat.reduceAdd, Nat.reduceMul]
       refine happ rfl rfl (by omega) ?_ ?_ fun x' H' hp hc hg2 => ?_
       · simp at hlen ⊢; omega
       · simp at hlen ⊢; omega
       simp (disch := first | assumption | (apply Ap.symm; assumption) | omega | decide | (simp only [Xd] <;> omega)) only [hp, hc, ↓Xa, Xb, Xc, ↓reduceIte, Nat.reduceLT, Nat.reduceEqDiff, Nat.reduceBEq, Nat.reduceLeDiff, Nat.reduceAdd, Nat.reduceMul]
       refine k2 .normal _ (Settle.now (growB_nu ?_))
       have e : pre ++ (ds ++ [d]).map chD = (pre ++ ds.map chD) ++ [chD d] := by simp
       dsimp only
       rw [e, List.length_append, Bt_app, show Bt [chD d] = [AV.int .u8 ((48 + d : Nat) : Int)] from (Bt_one (by omega)).symm]
       exact hg2
     · intro d A' hdj hA hB hj
       rw [chD_back hgd.2.1, hpre] at hj
       have hj2 := growB_un hj hdj
       obtain ⟨y, hy, hyc, hb2⟩ := b2s_B hj2
       obtain ⟨_, _, _, hle2⟩ := growB_get hj2
       have hdn := un_none.2 ⟨hA, hB⟩
       have hy2 : ((Un A' (H.upd p1 (some (.row 28 0 [.bool neg, LS (digs 4294967296 x.natAbs) true])))).upd d (some (.raw (.deferred (some []))))) p2 = some (.row 103 0 [y]) := by
         rw [upd_other _ _ (by rintro rfl; rw [hdn] at hy; cases hy)]; exact hy
       simp (disch := first | assumption | (apply Ap.symm; assumption) | omega | decide | (simp only [Xd] <;> omega)) only [hy2, ↓Xa, Xb, Xc, ↓reduceIte, Nat.reduceLT, Nat.reduceEqDiff, Nat.reduceBEq, Nat.reduceLeDiff, Nat.reduceAdd, Nat.reduceMul]
       refine hb2 _ _ ((Le.refl _).upd hdn) ?_
       simp (disch := first | assumption | (apply Ap.symm; assumption) | omega | decide | (simp only [Xd] <;> omega)) only [rs28, ↓Xa, Xb, Xc, ↓reduceIte, Nat.reduceLT, Nat.reduceEqDiff, Nat.reduceBEq, Nat.reduceLeDiff, Nat.reduceAdd, Nat.reduceMul]
       rw [upd_back _ hdn]
       exact SetR.dropTo (fun b x hb => hle2 _ _ (hle _ _ hb)) (SetR.now hq)
  have g0 := growB_nil (H0 := H.upd p1 (some (.row 28 0 [.bool neg, LS (digs 4294967296 x.natAbs) true]))) (tb := 103) (ty := 5) (es := 1) hp2
  cases neg with
  | true =>
    simp (disch := first | assumption | (apply Ap.symm; assumption) | omega | decide | (simp only [Xd] <;> omega)) only [↓Xa, Xb, Xc, ↓reduceIte, Nat.reduceLT, Nat.reduceEqDiff, Nat.reduceBEq, Nat.reduceLeDiff, Nat.reduceAdd, Nat.reduceMul]
    obtain ⟨y, hy, happ⟩ := growB_app (m := 1) (bytes := 1) g0
    obtain rfl : y = .seq 0 [] true := by rw [upd_same] at hy; injection hy with hy; injection hy with _ _ hy; injection hy with hy; exact hy.symm
    refine happ (by rfl) (by rfl) (by omega) (by omega) (by omega) fun x' H' hp hc hg2 => ?_
    simp (disch := first | assumption | (apply Ap.symm; assumption) | omega | decide | (simp only [Xd] <;> omega)) only [hp, hc, ↓Xa, Xb, Xc, ↓reduceIte, Nat.reduceLT, Nat.reduceEqDiff, Nat.reduceBEq, Nat.reduceLeDiff, Nat.reduceAdd, Nat.reduceMul]
    have tl := tail [45] _ [] (.inl rfl) (by simp) (by simp [iText, of_decide_eq_true hneg.symm]) hg2
    simp (disch := first | assumption | (apply Ap.symm; assumption) | omega | decide | (simp only [Xd] <;> omega)) only [sndC, ac28, ↓Xa, Xb, Xc, ↓reduceIte, Nat.reduceLT, Nat.reduceEqDiff, Nat.reduceBEq, Nat.reduceLeDiff, Nat.reduceAdd, Nat.reduceMul] at tl
    exact tl
  | false =>
    have tl := tail [] _ _ (.inr rfl) (by simp) (by simp [iText, of_decide_eq_false hneg.symm]) g0
    simp (disch := first | assumption | (apply Ap.symm; assumption) | omega | decide | (simp only [Xd] <;> omega)) only [sndC, ac28, ↓Xa, Xb, Xc, ↓reduceIte, Nat.reduceLT, Nat.reduceEqDiff, Nat.reduceBEq, Nat.reduceLeDiff, Nat.reduceAdd, Nat.reduceMul] at tl
    simp (disch := first | assumption | (apply Ap.symm; assumption) | omega | decide | (simp only [Xd] <;> omega)) only [↓Xa, Xb, Xc, ↓reduceIte, Nat.reduceLT, Nat.reduceEqDiff, Nat.reduceBEq, Nat.reduceLeDiff, Nat.reduceAdd, Nat.reduceMul]
    exact tl
end Go.Proofs.YtanchgkiomfhhaaDoor.Fw

/- What the reference computes of whole numbers: digits to the base 65536. -/
namespace Go.Proofs.YtanchgkiomfhhaaDoor.Fw
set_option linter.unusedSimpArgs false
set_option linter.unusedVariables false
open Go Go.Proofs.YtanchgkiomfhhaaDoor.Ma
set_option maxRecDepth 20000

def RefA (z : Int) (t : Bool) : AV := .agg [.bool (decide (z < 0)), LS (digs 65536 z.natAbs) t]
end Go.Proofs.YtanchgkiomfhhaaDoor.Fw

/- What the reference computes of whole numbers: signs, comparing, sums, products. -/
namespace Go.Proofs.YtanchgkiomfhhaaDoor.Fw
set_option linter.unusedSimpArgs false
set_option linter.unusedVariables false
open Go Go.Proofs.YtanchgkiomfhhaaDoor.Ma
set_option maxRecDepth 20000

end Go.Proofs.YtanchgkiomfhhaaDoor.Fw

/- What the reference computes of whole numbers: sums, differences, products. -/
namespace Go.Proofs.YtanchgkiomfhhaaDoor.Fw
set_option linter.unusedSimpArgs false
set_option linter.unusedVariables false
open Go Go.Proofs.YtanchgkiomfhhaaDoor.Ma
set_option maxRecDepth 20000

end Go.Proofs.YtanchgkiomfhhaaDoor.Fw

/- The laws' own helpers: one number in both, numbers that are too long, one answer that is fixed. -/
namespace Go.Proofs.YtanchgkiomfhhaaDoor.Fw
set_option linter.unusedSimpArgs false
set_option linter.unusedVariables false
open Go Go.Proofs.YtanchgkiomfhhaaDoor.Ma
set_option maxRecDepth 20000

def NumA (q : Bool × List Nat × Bool) : AV := .agg [.bool q.1, LS q.2.1 q.2.2]
def NumC : List (Bool × List Nat × Bool) → List AV
  | [] => []
  | q :: r => .bool q.1 :: LS q.2.1 q.2.2 :: NumC r
def fits (x : Int) : Bool := decide (-9223372036854775808 ≤ x ∧ x < 9223372036854775808)
def smallV (x : Int) : Int := if fits x then x else ((0 : Nat) : Int)
end Go.Proofs.YtanchgkiomfhhaaDoor.Fw

/- The law of sums, as what its code computes: true. -/
namespace Go.Proofs.YtanchgkiomfhhaaDoor.Fw
set_option linter.unusedSimpArgs false
set_option linter.unusedVariables false
open Go Go.Proofs.YtanchgkiomfhhaaDoor.Ma
set_option maxRecDepth 20000

theorem eql_self {k : IntKind} {n : Int} {K : AV → Prop} : binW .eql (.int k n) (.int k n) K ↔ K (.bool true) := by simp [binW, binInt]

end Go.Proofs.YtanchgkiomfhhaaDoor.Fw

/- Sums and products of rows of whole numbers. -/
namespace Go.Proofs.YtanchgkiomfhhaaDoor.Fw
set_option linter.unusedSimpArgs false
set_option linter.unusedVariables false
open Go Go.Proofs.YtanchgkiomfhhaaDoor.Ma
set_option maxRecDepth 20000

def IntC : List Int → List AV
  | [] => []
  | z :: r => .bool (decide (z < 0)) :: LS (digs 4294967296 z.natAbs) true :: IntC r
section
variable {l : List Int} {t : Bool} {H : AHeap} {K : AV → Prop}
end
end Go.Proofs.YtanchgkiomfhhaaDoor.Fw

/- The ring's law, as what its code computes: true. -/
namespace Go.Proofs.YtanchgkiomfhhaaDoor.Fw
set_option linter.unusedSimpArgs false
set_option linter.unusedVariables false
open Go Go.Proofs.YtanchgkiomfhhaaDoor.Ma
set_option maxRecDepth 20000

end Go.Proofs.YtanchgkiomfhhaaDoor.Fw

/- Binary digits; powers. -/
namespace Go.Proofs.YtanchgkiomfhhaaDoor.Fw
set_option linter.unusedSimpArgs false
set_option linter.unusedVariables false
open Go Go.Proofs.YtanchgkiomfhhaaDoor.Ma
set_option maxRecDepth 20000

end Go.Proofs.YtanchgkiomfhhaaDoor.Fw

/- Powers, as the program and the reference have them. -/
namespace Go.Proofs.YtanchgkiomfhhaaDoor.Fw
set_option linter.unusedSimpArgs false
set_option linter.unusedVariables false
open Go Go.Proofs.YtanchgkiomfhhaaDoor.Ma
set_option maxRecDepth 20000

end Go.Proofs.YtanchgkiomfhhaaDoor.Fw

/- The law of powers, as what its code computes: true. -/
namespace Go.Proofs.YtanchgkiomfhhaaDoor.Fw
set_option linter.unusedSimpArgs false
set_option linter.unusedVariables false
open Go Go.Proofs.YtanchgkiomfhhaaDoor.Ma
set_option maxRecDepth 20000

def RefB (z : Int) : AV := .bool (decide (z < 0))
def RefD (z : Int) : AV := LS (digs 65536 z.natAbs) false
theorem Bd.blen {z : Int} {k : Nat} (h : Bd k z) : Ma.blen z.natAbs ≤ 32 * k := by rw [blen_le, Nat.pow_mul]; exact h
end Go.Proofs.YtanchgkiomfhhaaDoor.Fw

/- Quotients and remainders of whole numbers, as the program has them. -/
namespace Go.Proofs.YtanchgkiomfhhaaDoor.Fw
set_option linter.unusedSimpArgs false
set_option linter.unusedVariables false
open Go Go.Proofs.YtanchgkiomfhhaaDoor.Ma
set_option maxRecDepth 20000

end Go.Proofs.YtanchgkiomfhhaaDoor.Fw

/- What the reference computes on rows of one's own: comparing, taking away, striking high noughts. -/
namespace Go.Proofs.YtanchgkiomfhhaaDoor.Fw
set_option linter.unusedSimpArgs false
set_option linter.unusedVariables false
open Go Go.Proofs.YtanchgkiomfhhaaDoor.Ma
set_option maxRecDepth 20000

end Go.Proofs.YtanchgkiomfhhaaDoor.Fw

/- The reference's division: a bit of a number; division by one digit. -/
namespace Go.Proofs.YtanchgkiomfhhaaDoor.Fw
set_option linter.unusedSimpArgs false
set_option linter.unusedVariables false
open Go Go.Proofs.YtanchgkiomfhhaaDoor.Ma
set_option maxRecDepth 20000

end Go.Proofs.YtanchgkiomfhhaaDoor.Fw

/- The reference's division, bit by bit. -/
namespace Go.Proofs.YtanchgkiomfhhaaDoor.Fw
set_option linter.unusedSimpArgs false
set_option linter.unusedVariables false
open Go Go.Proofs.YtanchgkiomfhhaaDoor.Ma
set_option maxRecDepth 20000

structure LongK (A V M : Nat) (ql : List Nat) : Prop where
  hM : M ≤ blen A
  qlen : ql.length = (digs 65536 A).length
  qlim : Lim 65536 ql
  qval : val 65536 ql = A / 2 ^ M / V * 2 ^ M

end Go.Proofs.YtanchgkiomfhhaaDoor.Fw

/- Quotients and remainders of whole numbers, as the reference has them. -/
namespace Go.Proofs.YtanchgkiomfhhaaDoor.Fw
set_option linter.unusedSimpArgs false
set_option linter.unusedVariables false
open Go Go.Proofs.YtanchgkiomfhhaaDoor.Ma
set_option maxRecDepth 20000

end Go.Proofs.YtanchgkiomfhhaaDoor.Fw

/- A whole number's text read, as package integer and as its reference read it. -/
namespace Go.Proofs.YtanchgkiomfhhaaDoor.Fw
set_option linter.unusedSimpArgs false
set_option linter.unusedVariables false
open Go Go.Proofs.YtanchgkiomfhhaaDoor.Ma
set_option maxRecDepth 20000

def iFrom (l : List UInt8) : Nat := if (l.getD 0 0).toNat = 45 then 1 else 0
def iBad (l : List UInt8) (i : Nat) : Prop := (l.getD i 0).toNat < 48 ∨ 57 < (l.getD i 0).toNat ∨ (i = iFrom l + 1 ∧ (l.getD (iFrom l) 0).toNat = 48) ∨ (i = iFrom l ∧ iFrom l = 1 ∧ (l.getD i 0).toNat = 48)
def IsAt (l : List UInt8) (p : Nat) : Prop := iFrom l ≤ p ∧ p ≤ l.length ∧ iBad l p ∧ ∀ j, iFrom l ≤ j → j < p → ¬ iBad l j
theorem get_beyond {l : List UInt8} {i : Nat} (h : l.length ≤ i) : l.getD i 0 = 0 := by
  rw [List.getD_eq_getElem?_getD, List.getElem?_eq_none h]; rfl
theorem iBad_end (l : List UInt8) : iBad l l.length := .inl (by rw [get_beyond (Nat.le_refl _)]; decide)
theorem iFrom_le (l : List UInt8) : iFrom l ≤ l.length ∧ iFrom l ≤ 1 := by
  unfold iFrom; split
  · rename_i h
    cases l with
    | nil => simp at h
    | cons x l => simp
  · simp
theorem first_of {P : Nat → Prop} (lo : Nat) : ∀ n, (∃ p, lo ≤ p ∧ p < lo + n ∧ P p ∧ ∀ j, lo ≤ j → j < p → ¬ P j) ∨ ∀ j, lo ≤ j → j < lo + n → ¬ P j
  | 0 => .inr fun j h1 h2 => by omega
  | n + 1 => by
    rcases first_of (P := P) lo n with ⟨p, a, b, c, d⟩ | h
    · exact .inl ⟨p, a, by omega, c, d⟩
    · by_cases hp : P (lo + n)
      · exact .inl ⟨lo + n, by omega, by omega, hp, h⟩
      · refine .inr fun j h1 h2 => ?_
        by_cases e : j = lo + n
        · rw [e]; exact hp
        · exact h j h1 (by omega)
theorem isAt_ex (l : List UInt8) : ∃ p, IsAt l p := by
  have h0 := (iFrom_le l).1
  rcases first_of (P := iBad l) (iFrom l) (l.length - iFrom l) with ⟨p, a, b, c, d⟩ | h
  · exact ⟨p, a, by omega, c, d⟩
  · exact ⟨l.length, h0, Nat.le_refl _, iBad_end l, fun j h1 h2 => h j h1 (by omega)⟩
theorem isAt_fn {l : List UInt8} {p q : Nat} (h : IsAt l p) (h' : IsAt l q) : p = q := by
  obtain ⟨a, b, c, d⟩ := h
  obtain ⟨a', b', c', d'⟩ := h'
  rcases Nat.lt_trichotomy p q with e | e | e
  · exact absurd c (d' p a e)
  · exact e
  · exact absurd c' (d q a' e)
def iVal (l : List UInt8) : Int := sg (decide (iFrom l = 1)) (decV (l.drop (iFrom l)))
theorem isAt_good {l : List UInt8} (h : IsAt l l.length) (hn : l.length ≠ iFrom l) : Good (l.drop (iFrom l)) := by
  have hf := (iFrom_le l).1
  obtain ⟨a, b, c, d⟩ := h
  refine good_of (by intro e; have := congrArg List.length e; simp at this; omega) fun i hi hb => ?_
  have hi' : iFrom l + i < l.length := by simp at hi; omega
  have e : (l.drop (iFrom l)).getD i 0 = l.getD (iFrom l + i) 0 := by simp [List.getD_eq_getElem?_getD]
  have e0 : (l.drop (iFrom l)).getD 0 0 = l.getD (iFrom l) 0 := by simp [List.getD_eq_getElem?_getD]
  unfold badAt at hb
  rw [e, e0] at hb
  rcases hb with hb | hb | ⟨hb, hb2⟩
  · exact d (iFrom l + i) (by omega) hi' (.inl hb)
  · exact d (iFrom l + i) (by omega) hi' (.inr (.inl hb))
  · exact d (iFrom l + 1) (by omega) (by omega) (.inr (.inr (.inl ⟨rfl, hb2⟩)))
def iReadA (l : List UInt8) (p : Nat) : AV :=
  if 65536 < l.length then .tup [IntA 0, spot 3 65536] else if p = iFrom l ∨ p < l.length then .tup [IntA 0, spot 6 p] else .tup [IntA (iVal l), spot 0 0]
theorem iread_fn {l : List UInt8} {p : Nat} (hp : IsAt l p) (hsz' : l.length < 9223372036854775808) : PFn Tryd.prog 167 [Sx l] (iReadA l p) := by
  intro H Q hq
  refine enter167 (by simp) ?_
  simp (disch := first | assumption | (apply Ap.symm; assumption) | omega | decide | (simp only [Xd] <;> omega)) only [ac167, ↓Xa, Xb, Xc, ↓reduceIte, Nat.reduceLT, Nat.reduceEqDiff, Nat.reduceBEq, Nat.reduceLeDiff, Nat.reduceAdd, Nat.reduceMul]
  refine alloc_i fun p1 hp1 => ?_
  have n1 := hp1
  simp (disch := first | assumption | (apply Ap.symm; assumption) | omega | decide | (simp only [Xd] <;> omega)) only [↓Xa, Xb, Xc, ↓reduceIte, Nat.reduceLT, Nat.reduceEqDiff, Nat.reduceBEq, Nat.reduceLeDiff, Nat.reduceAdd, Nat.reduceMul]
  refine alloc_i fun p2 hp2 => ?_
  have n2 := hp2
  simp only [upd_none] at n2
  obtain ⟨_, n2⟩ := n2
  have drop : ∀ {x y : ABlk} {r}, SetR Q r H → SetR Q r ((H.upd p1 (some x)).upd p2 (some y)) := fun h => SetR.dropTo (((Le.refl H).upd n1).updB n2) h
  by_cases h1 : 65536 < l.length
  · rw [iReadA, if_pos h1, ← IntA_0] at hq
    simp (disch := first | assumption | (apply Ap.symm; assumption) | omega | decide | (simp only [Xd] <;> omega)) only [len_Sx, h1, cells_i2, rs167, ↓Xa, Xb, Xc, ↓reduceIte, Nat.reduceLT, Nat.reduceEqDiff, Nat.reduceBEq, Nat.reduceLeDiff, Nat.reduceAdd, Nat.reduceMul]
    exact drop (SetR.now hq)
  rw [iReadA, if_neg h1] at hq
  have hsz : l.length < 9223372036854775807 := by omega
  obtain ⟨hf1, hf2⟩ := iFrom_le l
  have err : (p = iFrom l ∨ p < l.length) → ∀ {x y : ABlk}, SetR Q (.tup [.agg [.bool false, .seq 0 [] true], .agg [.int .i64 ((6 : Nat) : Int), .int .i64 (p : Int)]]) ((H.upd p1 (some x)).upd p2 (some y)) := fun h => by
    rw [if_pos h, ← IntA_0] at hq
    exact drop (SetR.now hq)
  have rest : ∀ {E : Env} {x y : ABlk}, E = [(0, Sx l), (2, .ptr p1 2 0), (3, .ptr p2 2 0), (4, .int .i64 (p : Int)), (5, .int .i64 (iFrom l : Int))] → x = .row 28 0 [.bool false, .seq 0 [] true] → y = .row 105 0 [.int .i64 ((0 : Nat) : Int), .int .i64 ((0 : Nat) : Int)] →
      W Tryd.prog (sndC (sndC (sndC (sndC (sndC (sndC ac167)))))) (retN rs167 Q) ⟨[], E, (H.upd p1 (some x)).upd p2 (some y)⟩ := by
    intro E x y hE hx hy
    subst hE hx hy
    by_cases e1 : p = iFrom l
    · simp (disch := first | assumption | (apply Ap.symm; assumption) | omega | decide | (simp only [Xd] <;> omega)) only [sndC, ac167, e1, cells_i2, rs167, ↓Xa, Xb, Xc, ↓reduceIte, Nat.reduceLT, Nat.reduceEqDiff, Nat.reduceBEq, Nat.reduceLeDiff, Nat.reduceAdd, Nat.reduceMul]
      rw [← e1]; exact err (.inl e1)
    by_cases e2 : p < l.length
    · simp (disch := first | assumption | (apply Ap.symm; assumption) | omega | decide | (simp only [Xd] <;> omega)) only [sndC, ac167, e1, e2, len_Sx, cells_i2, rs167, ↓Xa, Xb, Xc, ↓reduceIte, Nat.reduceLT, Nat.reduceEqDiff, Nat.reduceBEq, Nat.reduceLeDiff, Nat.reduceAdd, Nat.reduceMul]
      exact err (.inr e2)
    have hpl : p = l.length := by have := hp.2.1; omega
    rw [if_neg (by omega)] at hq
    have hg := isAt_good (hpl ▸ hp) (by omega)
    simp (disch := first | assumption | (apply Ap.symm; assumption) | omega | decide | (simp only [Xd] <;> omega)) only [sndC, ac167, e1, e2, len_Sx, slc_SxL, ↓Xa, Xb, Xc, ↓reduceIte, Nat.reduceLT, Nat.reduceEqDiff, Nat.reduceBEq, Nat.reduceLeDiff, Nat.reduceAdd, Nat.reduceMul]
    refine (read_fn (r := .tup [LS (Ma.digs 4294967296 (decV (l.drop (iFrom l)))) true, spot 0 0]) (.inr (.inr (.inr ⟨by simp; omega, hg, rfl⟩))) (by simp; omega)).call ?_
    simp (disch := first | assumption | (apply Ap.symm; assumption) | omega | decide | (simp only [Xd] <;> omega)) only [spot, ↓Xa, Xb, Xc, ↓reduceIte, Nat.reduceLT, Nat.reduceEqDiff, Nat.reduceBEq, Nat.reduceLeDiff, Nat.reduceAdd, Nat.reduceMul]
    refine alloc_i fun p3 hp3 => ?_
    have n3 := hp3
    simp only [upd_none] at n3
    obtain ⟨_, _, n3⟩ := n3
    simp (disch := first | assumption | (apply Ap.symm; assumption) | omega | decide | (simp only [Xd] <;> omega)) only [cells_i2, ↓Xa, Xb, Xc, ↓reduceIte, Nat.reduceLT, Nat.reduceEqDiff, Nat.reduceBEq, Nat.reduceLeDiff, Nat.reduceAdd, Nat.reduceMul]
    refine (made_fn (decide (iFrom l = 1)) _ ?_).call ?_
    · have hv : decV (l.drop (iFrom l)) < 4294967296 ^ 8192 := Nat.lt_of_lt_of_le (decV_lt fun b hb => (hg.2.1 b hb).2) (ten_bound (by simp; omega))
      have := (Nm.digs hv).len
      omega
    simp (disch := first | assumption | (apply Ap.symm; assumption) | omega | decide | (simp only [Xd] <;> omega)) only [cells_i2, cells_IntA, IntB, IntD, rs167, ↓Xa, Xb, Xc, ↓reduceIte, Nat.reduceLT, Nat.reduceEqDiff, Nat.reduceBEq, Nat.reduceLeDiff, Nat.reduceAdd, Nat.reduceMul]
    exact SetR.dropTo ((((Le.refl H).updB n1).updB n2).updB n3) (SetR.now hq)
  have tail : ∀ {E : Env}, E = [(0, Sx l), (2, .ptr p1 2 0), (3, .ptr p2 2 0), (4, .int .i64 (iFrom l : Int))] →
      W Tryd.prog (sndC (sndC (sndC (sndC ac167)))) (retN rs167 Q) ⟨[], E, (H.upd p1 (some (.row 28 0 [.bool false, .seq 0 [] true]))).upd p2 (some (.row 105 0 [.int .i64 ((0 : Nat) : Int), .int .i64 ((0 : Nat) : Int)]))⟩ := by
    intro E hE
    subst hE
    simp (disch := first | assumption | (apply Ap.symm; assumption) | omega | decide | (simp only [Xd] <;> omega)) only [sndC, ac167, ↓Xa, Xb, Xc, ↓reduceIte, Nat.reduceLT, Nat.reduceEqDiff, Nat.reduceBEq, Nat.reduceLeDiff, Nat.reduceAdd, Nat.reduceMul]
    refine W_loop (fun i : Nat => ⟨[], [(0, Sx l), (2, .ptr p1 2 0), (3, .ptr p2 2 0), (4, .int .i64 (i : Int)), (5, .int .i64 (iFrom l : Int))], (H.upd p1 (some (.row 28 0 [.bool false, .seq 0 [] true]))).upd p2 (some (.row 105 0 [.int .i64 ((0 : Nat) : Int), .int .i64 ((0 : Nat) : Int)]))⟩) (fun i => iFrom l ≤ i ∧ i ≤ l.length ∧ ∀ j, iFrom l ≤ j → j < i → ¬ iBad l j) (fun i => l.length - i) (iFrom l) (Settle.now rfl) ⟨Nat.le_refl _, hf1, fun j h1 h2 => by omega⟩ ?_
    rintro i ⟨hi1, hi2, hi3⟩
    have stop : iBad l i → i = p := fun hb => isAt_fn ⟨hi1, hi2, hb, hi3⟩ hp
    have step : ¬ iBad l i → ∀ j, iFrom l ≤ j → j < i + 1 → ¬ iBad l j := fun hb j h1 hj => by
      by_cases e : j = i
      · rw [e]; exact hb
      · exact hi3 j h1 (by omega)
    by_cases hi : i < l.length
    · by_cases c1 : 48 ≤ (l.getD i 0).toNat
      rotate_left
      · obtain rfl := stop (.inl (by omega))
        simp (disch := first | assumption | (apply Ap.symm; assumption) | omega | decide | (simp only [Xd] <;> omega)) only [hi, len_Sx, idx_Sx, c1, ↓Xa, Xb, Xc, ↓reduceIte, Nat.reduceLT, Nat.reduceEqDiff, Nat.reduceBEq, Nat.reduceLeDiff, Nat.reduceAdd, Nat.reduceMul]
        refine Settle.keep [0, 2, 3, 4, 5] ?_
        exact rest (by rfl) rfl rfl
      by_cases c2 : (l.getD i 0).toNat ≤ 57
      rotate_left
      · obtain rfl := stop (.inr (.inl (by omega)))
        simp (disch := first | assumption | (apply Ap.symm; assumption) | omega | decide | (simp only [Xd] <;> omega)) only [hi, len_Sx, idx_Sx, c1, c2, ↓Xa, Xb, Xc, ↓reduceIte, Nat.reduceLT, Nat.reduceEqDiff, Nat.reduceBEq, Nat.reduceLeDiff, Nat.reduceAdd, Nat.reduceMul]
        refine Settle.keep [0, 2, 3, 4, 5] ?_
        exact rest (by rfl) rfl rfl
      by_cases c3 : i = iFrom l + 1
      · have hfl : iFrom l < l.length := by omega
        subst c3
        by_cases c4 : (l.getD (iFrom l) 0).toNat = 48
        · have hip := stop (.inr (.inr (.inl ⟨rfl, c4⟩)))
          have rr := @rest
          rw [← hip] at rr
          simp (disch := first | assumption | (apply Ap.symm; assumption) | omega | decide | (simp only [Xd] <;> omega)) only [hi, len_Sx, idx_Sx, c1, c2, c4, ↓Xa, Xb, Xc, ↓reduceIte, Nat.reduceLT, Nat.reduceEqDiff, Nat.reduceBEq, Nat.reduceLeDiff, Nat.reduceAdd, Nat.reduceMul]
          refine Settle.keep [0, 2, 3, 4, 5] ?_
          exact rr (by rfl) rfl rfl
        · have c5 : ¬ iFrom l + 1 = iFrom l := by omega
          have nb := step (show ¬ iBad l (iFrom l + 1) by unfold iBad; omega)
          simp (disch := first | assumption | (apply Ap.symm; assumption) | omega | decide | (simp only [Xd] <;> omega)) only [hi, len_Sx, idx_Sx, c1, c2, c4, c5, ↓Xa, Xb, Xc, ↓reduceIte, Nat.reduceLT, Nat.reduceEqDiff, Nat.reduceBEq, Nat.reduceLeDiff, Nat.reduceAdd, Nat.reduceMul]
          exact Settle.now ⟨iFrom l + 1 + 1, by omega, ⟨by omega, by omega, nb⟩, rfl⟩
      by_cases c5 : i = iFrom l
      · subst c5
        by_cases c6 : iFrom l = 1
        · by_cases c7 : (l.getD (iFrom l) 0).toNat = 48
          · have hip := stop (.inr (.inr (.inr ⟨rfl, c6, c7⟩)))
            have rr := @rest
            rw [← hip] at rr
            rw [c6] at rr hi c1 c2 c3 c7 ⊢
            simp (disch := first | assumption | (apply Ap.symm; assumption) | omega | decide | (simp only [Xd] <;> omega)) only [hi, len_Sx, idx_Sx, c1, c2, c3, c7, ↓Xa, Xb, Xc, ↓reduceIte, Nat.reduceLT, Nat.reduceEqDiff, Nat.reduceBEq, Nat.reduceLeDiff, Nat.reduceAdd, Nat.reduceMul]
            refine Settle.keep [0, 2, 3, 4, 5] ?_
            exact rr (by rfl) rfl rfl
          · have nb := step (show ¬ iBad l (iFrom l) by unfold iBad; omega)
            rw [c6] at hi c1 c2 c3 c7 nb ⊢
            simp (disch := first | assumption | (apply Ap.symm; assumption) | omega | decide | (simp only [Xd] <;> omega)) only [hi, len_Sx, idx_Sx, c1, c2, c3, c7, ↓Xa, Xb, Xc, ↓reduceIte, Nat.reduceLT, Nat.reduceEqDiff, Nat.reduceBEq, Nat.reduceLeDiff, Nat.reduceAdd, Nat.reduceMul]
            exact Settle.now ⟨1 + 1, by omega, ⟨by omega, by omega, nb⟩, rfl⟩
        · have nb := step (show ¬ iBad l (iFrom l) by unfold iBad; omega)
          simp (disch := first | assumption | (apply Ap.symm; assumption) | omega | decide | (simp only [Xd] <;> omega)) only [hi, len_Sx, idx_Sx, c1, c2, c3, c6, ↓Xa, Xb, Xc, ↓reduceIte, Nat.reduceLT, Nat.reduceEqDiff, Nat.reduceBEq, Nat.reduceLeDiff, Nat.reduceAdd, Nat.reduceMul]
          exact Settle.now ⟨iFrom l + 1, by omega, ⟨by omega, by omega, nb⟩, rfl⟩
      · have nb := step (show ¬ iBad l i by unfold iBad; omega)
        simp (disch := first | assumption | (apply Ap.symm; assumption) | omega | decide | (simp only [Xd] <;> omega)) only [hi, len_Sx, idx_Sx, c1, c2, c3, c5, ↓Xa, Xb, Xc, ↓reduceIte, Nat.reduceLT, Nat.reduceEqDiff, Nat.reduceBEq, Nat.reduceLeDiff, Nat.reduceAdd, Nat.reduceMul]
        exact Settle.now ⟨i + 1, by omega, ⟨by omega, by omega, nb⟩, rfl⟩
    · obtain rfl := stop (.inl (by rw [get_beyond (by omega)]; decide))
      simp (disch := first | assumption | (apply Ap.symm; assumption) | omega | decide | (simp only [Xd] <;> omega)) only [hi, len_Sx, ↓Xa, Xb, Xc, ↓reduceIte, Nat.reduceLT, Nat.reduceEqDiff, Nat.reduceBEq, Nat.reduceLeDiff, Nat.reduceAdd, Nat.reduceMul]
      refine Settle.keep [0, 2, 3, 4, 5] ?_
      exact rest (by rfl) rfl rfl
  have tl := @tail _ rfl
  by_cases h0 : l = []
  · have hf0 : iFrom l = 0 := by rw [h0]; rfl
    rw [hf0] at tl
    simp (disch := first | assumption | (apply Ap.symm; assumption) | omega | decide | (simp only [Xd] <;> omega)) only [sndC, ac167, ↓Xa, Xb, Xc, ↓reduceIte, Nat.reduceLT, Nat.reduceEqDiff, Nat.reduceBEq, Nat.reduceLeDiff, Nat.reduceAdd, Nat.reduceMul] at tl
    simp (disch := first | assumption | (apply Ap.symm; assumption) | omega | decide | (simp only [Xd] <;> omega)) only [len_Sx, h1, str_Sx, neq_Sx, h0, ↓Xa, Xb, Xc, ↓reduceIte, Nat.reduceLT, Nat.reduceEqDiff, Nat.reduceBEq, Nat.reduceLeDiff, Nat.reduceAdd, Nat.reduceMul]
    rw [h0] at tl
    exact tl
  have hpos : 0 < l.length := List.length_pos_iff.2 h0
  by_cases h2 : (l.getD 0 0).toNat = 45
  · have hf0 : iFrom l = 1 := by unfold iFrom; rw [if_pos h2]
    rw [hf0] at tl
    simp (disch := first | assumption | (apply Ap.symm; assumption) | omega | decide | (simp only [Xd] <;> omega)) only [sndC, ac167, ↓Xa, Xb, Xc, ↓reduceIte, Nat.reduceLT, Nat.reduceEqDiff, Nat.reduceBEq, Nat.reduceLeDiff, Nat.reduceAdd, Nat.reduceMul] at tl
    simp (disch := first | assumption | (apply Ap.symm; assumption) | omega | decide | (simp only [Xd] <;> omega)) only [len_Sx, h1, str_Sx, neq_Sx, h0, idx_Sx, h2, ↓Xa, Xb, Xc, ↓reduceIte, Nat.reduceLT, Nat.reduceEqDiff, Nat.reduceBEq, Nat.reduceLeDiff, Nat.reduceAdd, Nat.reduceMul]
    exact tl
  · have hf0 : iFrom l = 0 := by unfold iFrom; rw [if_neg h2]
    rw [hf0] at tl
    simp (disch := first | assumption | (apply Ap.symm; assumption) | omega | decide | (simp only [Xd] <;> omega)) only [sndC, ac167, ↓Xa, Xb, Xc, ↓reduceIte, Nat.reduceLT, Nat.reduceEqDiff, Nat.reduceBEq, Nat.reduceLeDiff, Nat.reduceAdd, Nat.reduceMul] at tl
    simp (disch := first | assumption | (apply Ap.symm; assumption) | omega | decide | (simp only [Xd] <;> omega)) only [len_Sx, h1, str_Sx, neq_Sx, h0, idx_Sx, h2, ↓Xa, Xb, Xc, ↓reduceIte, Nat.reduceLT, Nat.reduceEqDiff, Nat.reduceBEq, Nat.reduceLeDiff, Nat.reduceAdd, Nat.reduceMul]
    exact tl
end Go.Proofs.YtanchgkiomfhhaaDoor.Fw

/- A whole number's text, as the reference of layer 2 reads it. -/
namespace Go.Proofs.YtanchgkiomfhhaaDoor.Fw
set_option linter.unusedSimpArgs false
set_option linter.unusedVariables false
open Go Go.Proofs.YtanchgkiomfhhaaDoor.Ma
set_option maxRecDepth 20000

def rReadA (l : List UInt8) (p : Nat) : AV := if p = iFrom l ∨ p < l.length then .tup [RefA 0 true, .int .i64 (p : Int)] else .tup [RefA (iVal l) false, .int .i64 (-1)]
end Go.Proofs.YtanchgkiomfhhaaDoor.Fw

/- A whole number's text, as the reference of layer 2 tells it. -/
namespace Go.Proofs.YtanchgkiomfhhaaDoor.Fw
set_option linter.unusedSimpArgs false
set_option linter.unusedVariables false
open Go Go.Proofs.YtanchgkiomfhhaaDoor.Ma
set_option maxRecDepth 20000

def revI (i : Nat) (l : List UInt8) : List UInt8 := (List.range l.length).map fun j => if j < i ∨ l.length - i ≤ j then l.getD (l.length - 1 - j) 0 else l.getD j 0
end Go.Proofs.YtanchgkiomfhhaaDoor.Fw

/- A number's text is read as it; what is read has its text. -/
namespace Go.Proofs.YtanchgkiomfhhaaDoor.Fw
set_option linter.unusedSimpArgs false
set_option linter.unusedVariables false
open Go Go.Proofs.YtanchgkiomfhhaaDoor.Ma
set_option maxRecDepth 20000

theorem isAt_of_good {m : List UInt8} (neg : Bool) (hg : Good m) (h0 : neg = true → (m.getD 0 0).toNat ≠ 48) :
    iFrom ((if neg then [45] else []) ++ m) = (if neg then 1 else 0) ∧ IsAt ((if neg then [45] else []) ++ m) ((if neg then [45] else []) ++ m).length ∧ ((if neg then [45] else []) ++ m).drop (iFrom ((if neg then [45] else []) ++ m)) = m := by
  obtain ⟨g1, g2, g3⟩ := hg
  have hpos : 0 < m.length := List.length_pos_iff.2 g1
  have dig : ∀ i, i < m.length → 48 ≤ (m.getD i 0).toNat ∧ (m.getD i 0).toNat ≤ 57 := fun i hi => by
    have := g2 _ (List.getElem_mem hi)
    rw [List.getD_eq_getElem?_getD, List.getElem?_eq_getElem hi, Option.getD_some]; exact this
  have hf : iFrom ((if neg then [45] else []) ++ m) = (if neg then 1 else 0) := by
    cases neg with
    | true => simp [iFrom]
    | false =>
      have := dig 0 hpos
      simp only [iFrom, Bool.false_eq_true, if_false, List.nil_append]
      rw [if_neg (by omega)]
  refine ⟨hf, ⟨(iFrom_le _).1, Nat.le_refl _, iBad_end _, fun j h1 h2 hb => ?_⟩, ?_⟩
  · rw [hf] at h1
    unfold iBad at hb
    rw [hf] at hb
    cases neg with
    | true =>
      simp only [if_true, List.length_append, List.length_cons, List.length_nil] at h1 h2 hb
      obtain ⟨i, rfl⟩ : ∃ i, j = i + 1 := ⟨j - 1, by omega⟩
      have e : ([45] ++ m).getD (i + 1) 0 = m.getD i 0 := by simp [List.getD_eq_getElem?_getD]
      have e1 : ([45] ++ m).getD 1 0 = m.getD 0 0 := by simp [List.getD_eq_getElem?_getD]
      have d := dig i (by omega)
      have := h0 rfl
      rw [e, e1] at hb
      rcases hb with hb | hb | ⟨hb, _⟩ | ⟨hb, _, hb2⟩
      · omega
      · omega
      · omega
      · have : i = 0 := by omega
        subst this; omega
    | false =>
      simp only [Bool.false_eq_true, if_false, List.nil_append] at h1 h2 hb
      have d := dig j h2
      rcases hb with hb | hb | ⟨hb, hb2⟩ | ⟨_, hb, _⟩
      · omega
      · omega
      · rcases g3 with g3 | g3
        · omega
        · exact g3 hb2
      · omega
  · rw [hf]; cases neg <;> simp
theorem iText_at (x : Int) : IsAt (iText x) (iText x).length ∧ (iText x).length ≠ iFrom (iText x) ∧ iVal (iText x) = x := by
  have hg := good_decT x.natAbs
  have hpos : 0 < (decT x.natAbs).length := List.length_pos_iff.2 hg.1
  have h0 : decide (x < 0) = true → ((decT x.natAbs).getD 0 0).toNat ≠ 48 := fun h hz => by
    have h := of_decide_eq_true h
    rcases hg.2.2 with g | g
    · have hd : decT x.natAbs = [48] := by
        match hm : decT x.natAbs, g with
        | [b], _ =>
          rw [hm] at hz
          have hz2 : b.toNat = 48 := by simpa using hz
          have : b = 48 := UInt8.toNat_inj.1 hz2
          rw [this]
      have := decV_decT x.natAbs
      rw [hd] at this
      have e : decV [48] = 0 := rfl
      omega
    · exact g hz
  obtain ⟨a, b, c⟩ := isAt_of_good (decide (x < 0)) hg h0
  have e : (if decide (x < 0) then [45] else []) ++ decT x.natAbs = iText x := by simp [iText]
  rw [e] at a b c
  refine ⟨b, ?_, ?_⟩
  · intro k
    have := congrArg List.length c
    rw [List.length_drop, ← k] at this
    omega
  · unfold iVal
    rw [c, decV_decT, a]
    by_cases h : x < 0 <;> simp [h, sg] <;> omega
end Go.Proofs.YtanchgkiomfhhaaDoor.Fw

/- Rows that grow, two at once, or beside memory that turns. -/
namespace Go.Proofs.YtanchgkiomfhhaaDoor.Fw
set_option linter.unusedSimpArgs false
set_option linter.unusedVariables false
open Go Go.Proofs.YtanchgkiomfhhaaDoor.Ma
set_option maxRecDepth 20000

theorem growC_fin1 {H0 H : AHeap} {ty es n : Nat} {cells : List AV} {x : AV} {k : IntKind} {e : Int} {Q : AV → AHeap → Prop} (h : growC H0 ty es n cells x H) (hq : Q (.tup [.seq n cells false, .int k e]) H0) : SetR Q (.tup [x, .int k e]) H := by
  rcases h with ⟨rfl, rfl, rfl, rfl⟩ | ⟨hn, hl, b, hb, rfl, rfl⟩
  · exact SetR.loose (SetR.now hq)
  · refine SetR.frz b (upd_same _ _ _) ?_
    rw [upd_upd, upd_back _ hb]
    have e : frz b es cells (.tup [.own b (n * es) 0 n false, .int k e]) = .tup [.seq n cells false, .int k e] := by simp [frz, frz2, frz1, hl, List.take_of_length_le]
    rw [e]; exact SetR.now hq
theorem growC_move {H0 H M : AHeap} {ty es n : Nat} {cells : List AV} {y : AV} (h : growC H0 ty es n cells y H) (hm : ∀ b, H0 b = none → H b ≠ none → M b = H b) : ∃ H1, growC H1 ty es n cells y M ∧ ∀ H2, Le H2 M → (∀ b, H0 b = none → H2 b = none) → Le H2 H1 := by
  rcases h with ⟨rfl, rfl, rfl, rfl⟩ | ⟨hn, hl, b, hb, rfl, rfl⟩
  · exact ⟨M, growC_nil, fun _ h _ => h⟩
  · have e := hm b hb (by rw [upd_same]; simp)
    rw [upd_same] at e
    refine ⟨M.upd b none, .inr ⟨hn, hl, b, upd_same _ _ _, rfl, by rw [upd_upd, upd_back _ e]⟩, fun H2 h h3 i x hi => ?_⟩
    have hib : i ≠ b := by rintro rfl; rw [h3 _ hb] at hi; cases hi
    rw [upd_other _ _ hib]; exact h i x hi
theorem growC_le2 {H1 H2 M : AHeap} {ty es n : Nat} {cells : List AV} {y : AV} (h : growC H1 ty es n cells y M) (hl : Le H2 H1) : ∃ M2, growC H2 ty es n cells y M2 ∧ Le M2 M := by
  rcases h with ⟨rfl, rfl, rfl, rfl⟩ | ⟨hn, hlen, b, hb, rfl, rfl⟩
  · exact ⟨H2, growC_nil, hl⟩
  · have hb2 : H2 b = none := by
      cases e : H2 b with
      | none => rfl
      | some x => have := hl b x e; rw [hb] at this; cases this
    refine ⟨_, .inr ⟨hn, hlen, b, hb2, rfl, rfl⟩, fun i x hi => ?_⟩
    by_cases e : i = b
    · subst e; rw [upd_same] at hi ⊢; exact hi
    · rw [upd_other _ _ e] at hi ⊢; exact hl i x hi
theorem growC_none {H0 H : AHeap} {ty es n : Nat} {cells : List AV} {y : AV} (h : growC H0 ty es n cells y H) {b : Nat} (hb : H b = none) : H0 b = none := by
  cases e : H0 b with
  | none => rfl
  | some x => rw [growC_le h b x e] at hb; cases hb
theorem growC_upd {H0 H : AHeap} {ty es n : Nat} {cells : List AV} {y : AV} (h : growC H0 ty es n cells y H) {q : Nat} {r : ABlk} (hq : H q = none) : growC (H0.upd q (some r)) ty es n cells y (H.upd q (some r)) := by
  rcases h with ⟨rfl, rfl, rfl, rfl⟩ | ⟨hn, hlen, b, hb, rfl, rfl⟩
  · exact growC_nil
  · obtain ⟨e, e2⟩ := upd_none.1 hq
    refine .inr ⟨hn, hlen, b, upd_none.2 ⟨Ne.symm e, hb⟩, rfl, upd_comm _ _ _ (Ne.symm e)⟩
end Go.Proofs.YtanchgkiomfhhaaDoor.Fw

/- Rows lent: what only reads may be handed rows that are one's own. -/
namespace Go.Proofs.YtanchgkiomfhhaaDoor.Fw
set_option linter.unusedSimpArgs false
set_option linter.unusedVariables false
open Go Go.Proofs.YtanchgkiomfhhaaDoor.Ma
set_option maxRecDepth 20000

def scal : AV → Bool
  | .int _ _ => true
  | .bool _ => true
  | .str _ => true
  | _ => false
theorem le_nil {H : AHeap} : Le nilH H := fun _ _ h => by cases h
def Lent (H : AHeap) (x y : AV) : Prop := ∀ (c : Ctx), c.H = H → Ok c → ∀ v, Enc c x v → Enc (c.dropTo nilH) y v
theorem Lent.same {H : AHeap} {x : AV} : Lent H x x := fun c _ _ _ h => h.later (c.dropTo_later le_nil)
theorem Lent.own {H : AHeap} {b ty es n : Nat} {t : Bool} {cells : List AV} (hH : H b = some (.row ty es cells)) (hL : cells.length = n * es) : Lent H (.own b (n * es) 0 n t) (.seq n cells t) := by
  intro c hc hok v he
  have h1 := Enc.freeze hok he (hc ▸ hH) hL (.inr (by omega))
  rw [List.drop_zero, List.take_of_length_le (by omega)] at h1
  exact h1.later ((c.drop b).dropTo_later le_nil)
theorem Lent.grown {H0 H : AHeap} {ty es n : Nat} {cells : List AV} {x : AV} (h : growC H0 ty es n cells x H) : Lent H x (.seq n cells false) := by
  rcases h with ⟨rfl, rfl, rfl, rfl⟩ | ⟨hn, hl, b, hb, rfl, rfl⟩
  · intro c _ _ v he
    exact enc_loose _ _ (he.later (c.dropTo_later le_nil))
  · exact Lent.own (upd_same _ _ _) hl
def LentL (H : AHeap) : List AV → List AV → Prop
  | [], [] => True
  | x :: xs, y :: ys => Lent H x y ∧ LentL H xs ys
  | _, _ => False
theorem LentL.len {H : AHeap} : ∀ {xs ys : List AV}, LentL H xs ys → ys.length = xs.length
  | [], [], _ => rfl
  | _ :: _, _ :: _, h => by simp [LentL.len h.2]
  | [], _ :: _, h => h.elim
  | _ :: _, [], h => h.elim
theorem LentL.get {H : AHeap} : ∀ {xs ys : List AV}, LentL H xs ys → ∀ i (h : i < xs.length) (h' : i < ys.length), Lent H (xs[i]) (ys[i])
  | _ :: _, _ :: _, h, 0, _, _ => h.1
  | _ :: _, _ :: _, h, i + 1, a, b => LentL.get h.2 i (by simpa using a) (by simpa using b)
  | [], [], _, _, a, _ => absurd a (by simp)
  | [], _ :: _, h, _, _, _ => h.elim
  | _ :: _, [], h, _, _, _ => h.elim
theorem PFn.frozen {P : Program} {f : FuncId} {args : List AV} {ty es n : Nat} {cells : List AV} (h : ∀ (H : AHeap) (Q : AV → AHeap → Prop), (∀ x H', growC H ty es n cells x H' → Q x H') → Run P f args H Q) : PFn P f args (.seq n cells false) := fun H Q hq =>
  Run.settle (h H _ fun _ _ g => growC_fin g hq)
theorem PFn.frozen1 {P : Program} {f : FuncId} {args : List AV} {ty es n : Nat} {cells : List AV} {k : IntKind} {e : Int} (h : ∀ (H : AHeap) (Q : AV → AHeap → Prop), (∀ x H', growC H ty es n cells x H' → Q (.tup [x, .int k e]) H') → Run P f args H Q) : PFn P f args (.tup [.seq n cells false, .int k e]) := fun H Q hq =>
  Run.settle (h H _ fun _ _ g => growC_fin1 g hq)

/-! ### integers and rows, as they are read -/
section
variable {K : AV → Prop} {K2 : AV → AHeap → Prop} {H : AHeap} {k : IntKind} {n m : Int} {t : Bool}
theorem neq_int : binW .neq (.int k n) (.int k m) K ↔ K (.bool (!decide (n = m))) := by simp [binW, binInt]
theorem len_rw {n : Nat} {c : List AV} (h : n < 9223372036854775808) : lenW false (.seq n c t) K = K (.int .i64 ((n : Nat) : Int)) := by simp [lenW, h]
theorem idx_rw {es n i : Nat} {c : List AV} (hl : c.length = n * es) (h : i < n) : idxAW es (.seq n c t) (.int k (i : Int)) K = K (.cptr (c.drop (i * es))) := by simp [idxAW, hl, h]
end
end Go.Proofs.YtanchgkiomfhhaaDoor.Fw

/- The law of quotients, as what its code computes: true. -/
namespace Go.Proofs.YtanchgkiomfhhaaDoor.Fw
set_option linter.unusedSimpArgs false
set_option linter.unusedVariables false
open Go Go.Proofs.YtanchgkiomfhhaaDoor.Ma
set_option maxRecDepth 20000

end Go.Proofs.YtanchgkiomfhhaaDoor.Fw

/- The greatest common divisor, as the reference and as the program have it. -/
namespace Go.Proofs.YtanchgkiomfhhaaDoor.Fw
set_option linter.unusedSimpArgs false
set_option linter.unusedVariables false
open Go Go.Proofs.YtanchgkiomfhhaaDoor.Ma
set_option maxRecDepth 20000

end Go.Proofs.YtanchgkiomfhhaaDoor.Fw

/- How the greatest common divisor is put together, as the program finds it. -/
namespace Go.Proofs.YtanchgkiomfhhaaDoor.Fw
set_option linter.unusedSimpArgs false
set_option linter.unusedVariables false
open Go Go.Proofs.YtanchgkiomfhhaaDoor.Ma
set_option maxRecDepth 20000

theorem Bd.le {x y : Int} {k : Nat} (h : Bd k y) (hl : x.natAbs ≤ y.natAbs) : Bd k x := Nat.lt_of_le_of_lt hl h
theorem Bd.ediv {x y : Int} {k : Nat} (h : Bd k x) : Bd k (x / y) := h.le (Int.natAbs_ediv_le_natAbs x y)
end Go.Proofs.YtanchgkiomfhhaaDoor.Fw

/- The law of the greatest common divisor, as what its code computes: true. -/
namespace Go.Proofs.YtanchgkiomfhhaaDoor.Fw
set_option linter.unusedSimpArgs false
set_option linter.unusedVariables false
open Go Go.Proofs.YtanchgkiomfhhaaDoor.Ma
set_option maxRecDepth 20000

def BezF (x y u v : Int) : Prop := u * x + v * y = (Int.gcd x y : Int) ∧ (y = 0 → u = sgnI x ∧ v = 0) ∧ (y ≠ 0 → 0 ≤ u ∧ u < (y.natAbs : Int) / (Int.gcd x y : Int))
end Go.Proofs.YtanchgkiomfhhaaDoor.Fw

/- Rows of whole numbers: frozen or owned, read alike. -/
namespace Go.Proofs.YtanchgkiomfhhaaDoor.Fw
set_option linter.unusedSimpArgs false
set_option linter.unusedVariables false
open Go Go.Proofs.YtanchgkiomfhhaaDoor.Ma
set_option maxRecDepth 20000

def IC (zs : List Int) : List AV := zs.flatMap fun z => [IntB z, IntD z]
theorem IC_len (zs : List Int) : (IC zs).length = zs.length * 2 := by
  induction zs with
  | nil => rfl
  | cons a l ih => simp only [IC, List.flatMap_cons, List.length_append, List.length_cons, List.length_nil] at *; omega
theorem IC_snoc (zs : List Int) (z : Int) : IC (zs ++ [z]) = IC zs ++ [IntB z, IntD z] := by simp [IC, List.flatMap_append]
theorem IC_drop : ∀ (l : List Int) (i : Nat) (h : i < l.length), (IC l).drop (i * 2) = IntB (l[i]) :: IntD (l[i]) :: (IC l).drop (i * 2 + 2)
  | a :: l, 0, _ => rfl
  | a :: l, i + 1, h => by
    have := IC_drop l i (by simpa using h)
    rw [show (i + 1) * 2 = i * 2 + 2 by omega]
    show ((IntB a :: IntD a :: IC l).drop (i * 2 + 2)) = _
    simp only [List.drop_succ_cons, List.getElem_cons_succ]
    rw [this]
    show _ = _ :: _ :: ((IntB a :: IntD a :: IC l).drop (i * 2 + 2 + 2))
    simp only [List.drop_succ_cons]
def RowI (H : AHeap) (x : AV) (zs : List Int) : Prop :=
  (∃ t, x = .seq zs.length (IC zs) t) ∨ ∃ b ty t, x = .own b (zs.length * 2) 0 zs.length t ∧ H b = some (.row ty 2 (IC zs))
theorem RowI.le {H H' : AHeap} {x : AV} {zs : List Int} (h : RowI H x zs) (hl : Le H H') : RowI H' x zs := by
  rcases h with h | ⟨b, ty, t, e, hb⟩
  · exact .inl h
  · exact .inr ⟨b, ty, t, e, hl b _ hb⟩
theorem RowI.nil {H : AHeap} : RowI H (.seq 0 [] true) [] := .inl ⟨true, rfl⟩
theorem RowI.grown {H0 H : AHeap} {ty : TypeId} {x : AV} {zs : List Int} (h : growC H0 ty 2 zs.length (IC zs) x H) : RowI H x zs := by
  rcases h with ⟨h1, h2, rfl, rfl⟩ | ⟨h1, h2, b, hb, rfl, rfl⟩
  · have : zs = [] := List.length_eq_zero_iff.1 h1
    subst this; exact RowI.nil
  · exact .inr ⟨b, ty, false, rfl, upd_same _ _ _⟩
theorem RowI.len {H : AHeap} {x : AV} {zs : List Int} (h : RowI H x zs) (hn : zs.length < 9223372036854775808) {K : AV → Prop} : lenW false x K = K (.int .i64 ((zs.length : Nat) : Int)) := by
  rcases h with ⟨t, rfl⟩ | ⟨b, ty, t, rfl, hb⟩ <;> simp [lenW, hn]
theorem RowI.get {H : AHeap} {x : AV} {zs : List Int} (h : RowI H x zs) {i : Nat} (hi : i < zs.length) : ∃ p, (∀ {k : IntKind} {K : AV → Prop}, (liveS H x ∧ idxAW 2 x (.int k (i : Int)) K) ↔ K p) ∧ ∀ {K : AV → Prop}, loadW H (some 2) p K ↔ K (IntA (zs[i])) := by
  rcases h with ⟨t, rfl⟩ | ⟨b, ty, t, rfl, hb⟩
  · refine ⟨.cptr ((IC zs).drop (i * 2)), fun {k K} => ?_, fun {K} => ?_⟩
    · simp [liveS, idxAW, IC_len, hi]
    · simp only [loadW, cellsAt, IC_drop zs i hi]; simp [IntA_eq]
  · have hl := IC_len zs
    refine ⟨.ptr b (zs.length * 2) (i * 2), fun {k K} => ?_, fun {K} => ?_⟩
    · simp [liveS, idxAW, hb, hl, hi]
    · simp only [loadW, cellsAt, hb, IC_drop zs i hi]
      simp [IntA_eq, hl]
      omega
end Go.Proofs.YtanchgkiomfhhaaDoor.Fw

/- Rows of whole numbers: plain laws. -/
namespace Go.Proofs.YtanchgkiomfhhaaDoor.Fw
set_option linter.unusedSimpArgs false
set_option linter.unusedVariables false
open Go Go.Proofs.YtanchgkiomfhhaaDoor.Ma

def cmpL : List Int → List Int → Int
  | x :: xs, y :: ys => if cmpI x y = 0 then cmpL xs ys else cmpI x y
  | _, _ => 0
def cmpR (zs ws : List Int) : Int := if zs.length < ws.length then -1 else if ws.length < zs.length then ((1 : Nat) : Int) else cmpL zs ws
def widS (w x : Int) : Int := if w < (x.natAbs : Int) then (x.natAbs : Int) else w
def widF (w : Int) (zs : List Int) : Int := zs.foldl widS w
theorem Bd.widS {k : Nat} {w x : Int} (hw : Bd k w) (hx : Bd k x) : Bd k (widS w x) := by
  unfold Fw.widS
  split
  · exact hx.abs
  · exact hw
theorem Bd.widF {k : Nat} : ∀ {zs : List Int} {w : Int}, Bd k w → (∀ z, z ∈ zs → Bd k z) → Bd k (widF w zs)
  | [], _, h, _ => h
  | z :: zs, w, h, h2 => Bd.widF (zs := zs) (h.widS (h2 z (by simp))) fun y hy => h2 y (by simp [hy])
def gcdF (g : Nat) (zs : List Int) : Nat := zs.foldl (fun g x => Int.gcd (g : Int) x) g
def contN (zs : List Int) : Nat := gcdF 0 zs
theorem Bd.gcdF {k : Nat} : ∀ {zs : List Int} {g : Nat}, Bd k (g : Int) → (∀ z, z ∈ zs → Bd k z) → Bd k ((gcdF g zs : Nat) : Int)
  | [], _, h, _ => h
  | z :: zs, g, h, h2 => by
    refine Bd.gcdF (zs := zs) (g := Int.gcd (g : Int) z) ?_ fun y hy => h2 y (by simp [hy])
    have hz := h2 z (by simp)
    unfold Bd at *
    by_cases hg : g = 0
    · subst hg
      rw [show Int.gcd ((0 : Nat) : Int) z = z.natAbs by simp [Int.gcd]]
      simpa using hz
    · have : Int.gcd (g : Int) z ≤ g := Nat.le_of_dvd (by omega) (Int.ofNat_dvd.1 (Int.gcd_dvd_left (g : Int) z))
      simp only [Int.natAbs_natCast] at h ⊢
      omega
def primG (zs : List Int) : Int := match zs.find? (fun z => decide (z ≠ 0)) with
  | some z => if z < 0 then -((contN zs : Nat) : Int) else ((contN zs : Nat) : Int)
  | none => 0
def primR (zs : List Int) : List Int := zs.map (· / primG zs)
def zipI (f : Int → Int → Int) (zs ws : List Int) : List Int := List.zipWith f zs ws
def dotF (s : Int) (zs ws : List Int) : Int := (zipI (· * ·) zs ws).foldl (· + ·) s
end Go.Proofs.YtanchgkiomfhhaaDoor.Fw

/- Rows of whole numbers: what package row's functions answer. -/
namespace Go.Proofs.YtanchgkiomfhhaaDoor.Fw
set_option linter.unusedSimpArgs false
set_option linter.unusedVariables false
open Go Go.Proofs.YtanchgkiomfhhaaDoor.Ma
set_option maxRecDepth 20000

end Go.Proofs.YtanchgkiomfhhaaDoor.Fw

/- Rows of whole numbers: what the functions that read them answer, the program's and the reference's. -/
namespace Go.Proofs.YtanchgkiomfhhaaDoor.Fw
set_option linter.unusedSimpArgs false
set_option linter.unusedVariables false
open Go Go.Proofs.YtanchgkiomfhhaaDoor.Ma
set_option maxRecDepth 20000

abbrev RowA (zs : List Int) (t : Bool) : AV := .seq zs.length (IC zs) t
def RC (zs : List Int) : List AV := zs.flatMap fun z => [RefB z, RefD z]
abbrev RefR (zs : List Int) (t : Bool) : AV := .seq zs.length (RC zs) t
section
variable {K : AV → Prop} {H : AHeap} {k : IntKind} {t : Bool} {zs : List Int} {i : Nat}
theorem idx_IC (h : i < zs.length) : idxAW 2 (.seq zs.length (IC zs) t) (.int k (i : Int)) K = K (.cptr ((IC zs).drop (i * 2))) := idx_rw (IC_len zs) h
theorem load_IC (h : i < zs.length) : loadW H (some 2) (.cptr ((IC zs).drop (i * 2))) K = K (IntA (zs[i])) := by
  simp only [loadW, cellsAt, IC_drop zs i h]; simp [IntA_eq]
end
def RB4 (k : Nat) (zs : List Int) : Prop := (∀ z, z ∈ zs → Bd k z) ∧ zs.length < 4611686018427387904
theorem RB4.at {k : Nat} {zs : List Int} (h : RB4 k zs) {i : Nat} (hi : i < zs.length) : Bd k (zs[i]) := h.1 _ (List.getElem_mem hi)

/-! ### the reference -/
end Go.Proofs.YtanchgkiomfhhaaDoor.Fw

/- Rows of whole numbers: what is made of them. -/
namespace Go.Proofs.YtanchgkiomfhhaaDoor.Fw
set_option linter.unusedSimpArgs false
set_option linter.unusedVariables false
open Go Go.Proofs.YtanchgkiomfhhaaDoor.Ma
set_option maxRecDepth 20000

theorem repI1 {a b : AV} : repA [a, b] 2 = [a, b] := by simp [repA, List.range, List.range.loop]
theorem cellI {z : Int} : [IntB z, IntD z].all AV.cell = true := rfl
theorem IC_take {zs : List Int} {i : Nat} (h : i < zs.length) : IC (zs.take (i + 1)) = IC (zs.take i) ++ [IntB (zs[i]), IntD (zs[i])] := by
  rw [List.take_add_one, List.getElem?_eq_getElem h, Option.toList_some, IC_snoc]
theorem fn_cells {f : Go.Fn} {a b : List AV} : (AV.fn f a b).cells = some [.fn f a b] := id rfl
theorem callW_fn {P : Program} {f : FuncId} {first caps args : List AV} {H : AHeap} {K : AV → AHeap → Prop} (h : Run P f (first ++ args ++ caps) H K) : callW P (.fn (.func f) first caps) args H K := h

theorem each_run {H : AHeap} {Q : AV → AHeap → Prop} {f : AV} {zs ws : List Int} {t : Bool} {k : Nat} (hz : RB4 k zs) (hlen : ws.length = zs.length) (hbig : zs.length ≤ 1000000) (G : Nat → AHeap) (h0 : G 0 = H) (hd : ∀ i b, G i b = none ↔ H b = none)
    (hs : ∀ i (h : i < zs.length) (M : AHeap) (K : AV → AHeap → Prop), Le (G i) M → (∀ M', Le (G (i + 1)) M' → (∀ b, H b = none → M b ≠ none → M' b = M b) → K (IntA (ws[i]'(by omega))) M') → callW Tryd.prog f [IntA (zs[i])] M K)
    (hq : ∀ y M, growC (G zs.length) 28 2 zs.length (IC ws) y M → Q y M) : Run Tryd.prog 144 [RowA zs t, f] H Q := by
  have nz : zs.length < 9223372036854775808 := by have := hz.2; omega
  refine enter144 (by simp) ?_
  simp (disch := first | assumption | (apply Ap.symm; assumption) | omega | decide | (simp only [Xd] <;> omega)) only [ac144, len_rw, ↓Xa, Xb, Xc, ↓reduceIte, Nat.reduceLT, Nat.reduceEqDiff, Nat.reduceBEq, Nat.reduceLeDiff, Nat.reduceAdd, Nat.reduceMul]
  refine W_loop (fun s : Nat × AV × AHeap => ⟨[], [(1, f), (5, s.2.1), (8, RowA zs t), (9, .int .i64 (zs.length : Int)), (10, .int .i64 s.1)], s.2.2⟩) (fun s => s.1 ≤ zs.length ∧ growC (G s.1) 28 2 s.1 (IC (ws.take s.1)) s.2.1 s.2.2) (fun s => zs.length - s.1) (0, .seq 0 [] true, H) (Settle.now rfl) ⟨Nat.zero_le _, by rw [← h0]; exact growC_nil⟩ ?_
  rintro ⟨i, y, M⟩ ⟨h3, hg⟩
  dsimp only at h3 hg ⊢
  by_cases hi : i < zs.length
  · simp (disch := first | assumption | (apply Ap.symm; assumption) | omega | decide | (simp only [Xd] <;> omega)) only [hi, idx_IC, load_IC, ↓Xa, Xb, Xc, ↓reduceIte, Nat.reduceLT, Nat.reduceEqDiff, Nat.reduceBEq, Nat.reduceLeDiff, Nat.reduceAdd, Nat.reduceMul]
    refine alloc_i fun q hq1 => ?_
    simp (disch := first | assumption | (apply Ap.symm; assumption) | omega | decide | (simp only [Xd] <;> omega)) only [cells_IntA, fold_IntA, ↓Xa, Xb, Xc, ↓reduceIte, Nat.reduceLT, Nat.reduceEqDiff, Nat.reduceBEq, Nat.reduceLeDiff, Nat.reduceAdd, Nat.reduceMul]
    have hg1 := growC_upd (r := .row 28 0 [IntB (zs[i]), IntD (zs[i])]) hg hq1
    refine hs i hi _ _ ((growC_le hg).upd hq1) fun M' hM' hsame => ?_
    obtain ⟨H1, hg2, hl2⟩ := growC_move hg1 fun b hb hb2 => hsame b ((hd i b).1 (upd_none.1 hb).2) hb2
    simp (disch := first | assumption | (apply Ap.symm; assumption) | omega | decide | (simp only [Xd] <;> omega)) only [repI1, cells_IntA, ↓Xa, Xb, Xc, ↓reduceIte, Nat.reduceLT, Nat.reduceEqDiff, Nat.reduceBEq, Nat.reduceLeDiff, Nat.reduceAdd, Nat.reduceMul]
    refine app_C (m := 1) hg2 rfl cellI (by omega) (by omega) (by omega) fun y' M2 hg3 => ?_
    rw [← IC_take] at hg3
    obtain ⟨M3, hg4, hl4⟩ := growC_le2 hg3 (hl2 _ hM' fun b hb => (hd (i + 1) b).2 ((hd i b).1 (upd_none.1 hb).2))
    simp (disch := first | assumption | (apply Ap.symm; assumption) | omega | decide | (simp only [Xd] <;> omega)) only [↓Xa, Xb, Xc, ↓reduceIte, Nat.reduceLT, Nat.reduceEqDiff, Nat.reduceBEq, Nat.reduceLeDiff, Nat.reduceAdd, Nat.reduceMul]
    exact Settle.dropTo hl4 (Settle.now ⟨(i + 1, y', M3), by dsimp only; omega, ⟨by dsimp only; omega, hg4⟩, rfl⟩)
  · obtain rfl : i = zs.length := by omega
    rw [List.take_of_length_le (by omega)] at hg
    simp (disch := first | assumption | (apply Ap.symm; assumption) | omega | decide | (simp only [Xd] <;> omega)) only [hi, ↓Xa, Xb, Xc, ↓reduceIte, Nat.reduceLT, Nat.reduceEqDiff, Nat.reduceBEq, Nat.reduceLeDiff, Nat.reduceAdd, Nat.reduceMul]
    refine Settle.now ?_
    simp (disch := first | assumption | (apply Ap.symm; assumption) | omega | decide | (simp only [Xd] <;> omega)) only [rs144, ↓Xa, Xb, Xc, ↓reduceIte, Nat.reduceLT, Nat.reduceEqDiff, Nat.reduceBEq, Nat.reduceLeDiff, Nat.reduceAdd, Nat.reduceMul]
    exact SetR.now (hq y M hg)
theorem Le.both {A B : AHeap} {p : Nat} {x : Option ABlk} (h : Le A B) : Le (A.upd p x) (B.upd p x) := fun o y ho => by
  by_cases e : o = p
  · subst e; rw [upd_same] at ho ⊢; exact ho
  · rw [upd_other _ _ e] at ho ⊢; exact h o y ho
theorem add_m1 {i : Nat} {K : AV → Prop} (h : i < 4611686018427387904) : binW .add (.int .i64 ((i : Int) - 1)) (.int .i64 ((1 : Nat) : Int)) K ↔ K (.int .i64 (i : Int)) := by
  have e : IntKind.i64.wrap ((i : Int) - 1 + ((1 : Nat) : Int)) = (i : Int) := by rw [show ((i : Int) - 1 + ((1 : Nat) : Int)) = (i : Int) by omega]; exact wrap_i64 (by omega) (by omega)
  have : ∀ a b : Int, binW .add (.int .i64 a) (.int .i64 b) K ↔ K (.int .i64 (IntKind.i64.wrap (a + b))) := fun a b => by simp [binW, binInt]
  rw [this, e]
theorem both1_run {M : AHeap} {K : AV → AHeap → Prop} {f : AV} {x y z : Int} {ws : List Int} {t' : Bool} {i p1 p2 p3 T1 T2 T3 : Nat} (m1 : M p1 = some (.row T1 0 [RowA ws t'])) (m2 : M p2 = some (.row T2 0 [f])) (m3 : M p3 = some (.row T3 0 [.int .i64 ((i : Int) - 1)])) (h1 : Ap p1 p3) (h2 : Ap p2 p3)
    (hi : i < ws.length) (hb : ws.length ≤ 1000000) (hy : ws[i] = y)
    (hs : ∀ (M2 : AHeap) (K : AV → AHeap → Prop), Le (M.upd p3 (some (.row T3 0 [.int .i64 (i : Int)]))) M2 → K (IntA z) M2 → callW Tryd.prog f [IntA x, IntA y] M2 K)
    (hK : K (IntA z) (M.upd p3 (some (.row T3 0 [.int .i64 (i : Int)])))) : Run Tryd.prog 198 [IntA x, .ptr p3 1 0, .ptr p2 1 0, .ptr p1 1 0] M K := by
  subst hy
  refine enter198 (by simp) ?_
  simp (disch := first | assumption | (apply Ap.symm; assumption) | omega | decide | (simp only [Xd] <;> omega)) only [ac198, cells_IntA, ↓Xa, Xb, Xc, ↓reduceIte, Nat.reduceLT, Nat.reduceEqDiff, Nat.reduceBEq, Nat.reduceLeDiff, Nat.reduceAdd, Nat.reduceMul]
  refine alloc_i fun a ha => ?_
  have a1 := ne_of_some m1 ha
  have a2 := ne_of_some m2 ha
  have a3 := ne_of_some m3 ha
  simp (disch := first | assumption | (apply Ap.symm; assumption) | omega | decide | (simp only [Xd] <;> omega)) only [↓Xa, Xb, Xc, ↓reduceIte, Nat.reduceLT, Nat.reduceEqDiff, Nat.reduceBEq, Nat.reduceLeDiff, Nat.reduceAdd, Nat.reduceMul]
  refine alloc_i fun b hb => ?_
  obtain ⟨b4, hb'⟩ := upd_none.1 hb
  have b1 := ne_of_some m1 hb'
  have b2 := ne_of_some m2 hb'
  have b3 := ne_of_some m3 hb'
  simp (disch := first | assumption | (apply Ap.symm; assumption) | omega | decide | (simp only [Xd] <;> omega)) only [m1, m2, m3, add_m1, idx_IC, load_IC, fold_IntA, ↓Xa, Xb, Xc, ↓reduceIte, Nat.reduceLT, Nat.reduceEqDiff, Nat.reduceBEq, Nat.reduceLeDiff, Nat.reduceAdd, Nat.reduceMul]
  have hle : Le (M.upd p3 (some (.row T3 0 [.int .i64 (i : Int)]))) (((M.upd a (some (.row 28 0 [IntB x, IntD x]))).upd b (some (.row 28 0 [.bool false, .seq 0 [] true]))).upd p3 (some (.row T3 0 [.int .i64 (i : Int)]))) := (((Le.refl M).updB ha).updB hb').both
  refine hs _ _ hle ?_
  simp (disch := first | assumption | (apply Ap.symm; assumption) | omega | decide | (simp only [Xd] <;> omega)) only [cells_IntA, fold_IntA, rs198, ↓Xa, Xb, Xc, ↓reduceIte, Nat.reduceLT, Nat.reduceEqDiff, Nat.reduceBEq, Nat.reduceLeDiff, Nat.reduceAdd, Nat.reduceMul]
  exact SetR.dropTo (((Le.refl M).updB ha).updB hb').both (SetR.now hK)
theorem both_run {H : AHeap} {Q : AV → AHeap → Prop} {f : AV} {zs ws us : List Int} {t t' : Bool} {k : Nat} (hz : RB4 k zs) (hw : RB4 k ws) (hl1 : zs.length = ws.length) (hl2 : us.length = zs.length) (hbig : zs.length ≤ 1000000) (hfc : f.cells = some [f])
    (hs : ∀ i (h : i < zs.length) (M : AHeap) (K : AV → AHeap → Prop), Le H M → K (IntA (us[i]'(by omega))) M → callW Tryd.prog f [IntA (zs[i]), IntA (ws[i]'(by omega))] M K)
    (hq : ∀ y M, growC H 28 2 zs.length (IC us) y M → Q (.tup [y, .int .i64 ((0 : Nat) : Int)]) M) : Run Tryd.prog 140 [RowA zs t, RowA ws t', f] H Q := by
  have nz : zs.length < 9223372036854775808 := by have := hz.2; omega
  have nw : ws.length < 9223372036854775808 := by omega
  have hne : decide (((zs.length : Nat) : Int) = ((ws.length : Nat) : Int)) = true := decide_eq_true (by omega)
  refine enter140 (by simp) ?_
  simp (disch := first | assumption | (apply Ap.symm; assumption) | omega | decide | (simp only [Xd] <;> omega)) only [ac140, ↓Xa, Xb, Xc, ↓reduceIte, Nat.reduceLT, Nat.reduceEqDiff, Nat.reduceBEq, Nat.reduceLeDiff, Nat.reduceAdd, Nat.reduceMul]
  refine alloc_i fun p1 hp1 => ?_
  have n1 := hp1
  simp (disch := first | assumption | (apply Ap.symm; assumption) | omega | decide | (simp only [Xd] <;> omega)) only [hfc, ↓Xa, Xb, Xc, ↓reduceIte, Nat.reduceLT, Nat.reduceEqDiff, Nat.reduceBEq, Nat.reduceLeDiff, Nat.reduceAdd, Nat.reduceMul]
  refine alloc_i fun p2 hp2 => ?_
  have n2 := hp2
  simp only [upd_none] at n2
  obtain ⟨_, n2⟩ := n2
  simp (disch := first | assumption | (apply Ap.symm; assumption) | omega | decide | (simp only [Xd] <;> omega)) only [len_rw, neq_int, hne, ↓Xa, Xb, Xc, ↓reduceIte, Nat.reduceLT, Nat.reduceEqDiff, Nat.reduceBEq, Nat.reduceLeDiff, Nat.reduceAdd, Nat.reduceMul]
  refine alloc_i fun p3 hp3 => ?_
  have n3 := hp3
  simp only [upd_none] at n3
  obtain ⟨_, _, n3⟩ := n3
  simp (disch := first | assumption | (apply Ap.symm; assumption) | omega | decide | (simp only [Xd] <;> omega)) only [↓Xa, Xb, Xc, ↓reduceIte, Nat.reduceLT, Nat.reduceEqDiff, Nat.reduceBEq, Nat.reduceLeDiff, Nat.reduceAdd, Nat.reduceMul]
  let G : Nat → AHeap := fun i => ((H.upd p1 (some (.row 32 0 [RowA ws t']))).upd p2 (some (.row 178 0 [f]))).upd p3 (some (.row 3 0 [.int .i64 ((i : Int) - 1)]))
  have hG : ∀ i, G i = ((H.upd p1 (some (.row 32 0 [RowA ws t']))).upd p2 (some (.row 178 0 [f]))).upd p3 (some (.row 3 0 [.int .i64 ((i : Int) - 1)])) := fun _ => rfl
  refine run_call (each_run hz hl2 hbig G (by rw [hG]; rfl) (fun i b => by rw [hG]; simp only [upd_none]) (fun i h M K hM hK => ?_) fun y M hg => ?_)
  · have m1 : M p1 = some (.row 32 0 [RowA ws t']) := hM _ _ (by rw [hG, upd_other _ _ (by apply Ne.symm; assumption), upd_other _ _ (by apply Ne.symm; assumption), upd_same])
    have m2 : M p2 = some (.row 178 0 [f]) := hM _ _ (by rw [hG, upd_other _ _ (by apply Ne.symm; assumption), upd_same])
    have m3 : M p3 = some (.row 3 0 [.int .i64 ((i : Int) - 1)]) := hM _ _ (by rw [hG, upd_same])
    have hMH : Le H (M.upd p3 (some (.row 3 0 [.int .i64 (i : Int)]))) := fun o x ho => by
      have e : o ≠ p3 := by rintro rfl; rw [n3] at ho; cases ho
      rw [upd_other _ _ e]
      refine hM o x ?_
      have e1 : o ≠ p1 := by rintro rfl; rw [n1] at ho; cases ho
      have e2 : o ≠ p2 := by rintro rfl; rw [n2] at ho; cases ho
      rw [hG, upd_other _ _ e, upd_other _ _ e2, upd_other _ _ e1]; exact ho
    refine callW_fn (both1_run m1 m2 m3 (by apply Ne.symm; assumption) (by apply Ne.symm; assumption) (by omega) (by omega) rfl (fun M2 K2 hM2 hK2 => hs i h M2 K2 (fun o x ho => hM2 o x (hMH o x ho)) hK2) (hK _ ?_ fun b hb _ => ?_))
    · intro o x ho
      rw [hG] at ho
      by_cases e : o = p3
      · subst e
        rw [upd_same] at ho ⊢
        rw [← ho, show (((i + 1 : Nat) : Int) - 1) = (i : Int) by omega]
      · rw [upd_other _ _ e] at ho ⊢
        refine hM o x ?_
        rw [hG, upd_other _ _ e]; exact ho
    · exact upd_other _ _ (upd_none.1 hb).1
  · have hle : Le H (G zs.length) := by rw [hG]; exact (((Le.refl H).updB n1).updB n2).updB n3
    obtain ⟨M2, hg2, hl⟩ := growC_le2 hg hle
    simp (disch := first | assumption | (apply Ap.symm; assumption) | omega | decide | (simp only [Xd] <;> omega)) only [rs140, ↓Xa, Xb, Xc, ↓reduceIte, Nat.reduceLT, Nat.reduceEqDiff, Nat.reduceBEq, Nat.reduceLeDiff, Nat.reduceAdd, Nat.reduceMul]
    exact SetR.dropTo hl (SetR.now (hq y M2 hg2))
section
variable {H : AHeap} {Q : AV → AHeap → Prop} {zs ws : List Int} {t t' : Bool} {k : Nat}
theorem zip_len {f : Int → Int → Int} (h : zs.length = ws.length) : (zipI f zs ws).length = zs.length := by simp [zipI, h]
theorem zip_at {f : Int → Int → Int} (h : zs.length = ws.length) {i : Nat} (hi : i < zs.length) (hi2 : i < (zipI f zs ws).length) : (zipI f zs ws)[i] = f (zs[i]) (ws[i]'(by omega)) := by simp [zipI]
theorem rowadd_run (hz : RB4 k zs) (hw : RB4 k ws) (hk : k ≤ 1000000) (hl : zs.length = ws.length) (hbig : zs.length ≤ 1000000) (hq : ∀ y M, growC H 28 2 zs.length (IC (zipI (· + ·) zs ws)) y M → Q (.tup [y, .int .i64 ((0 : Nat) : Int)]) M) : Run Tryd.prog 37 [RowA zs t, RowA ws t'] H Q := by
  refine enter37 (by simp) ?_
  simp (disch := first | assumption | (apply Ap.symm; assumption) | omega | decide | (simp only [Xd] <;> omega)) only [ac37, ↓Xa, Xb, Xc, ↓reduceIte, Nat.reduceLT, Nat.reduceEqDiff, Nat.reduceBEq, Nat.reduceLeDiff, Nat.reduceAdd, Nat.reduceMul]
  refine run_call (both_run hz hw hl (zip_len hl) hbig fn_cells (fun i h M K _ hK => (addi_fn (hz.at h) (by omega) (hw.at (by omega)) (by omega)).call (by rw [zip_at hl h] at hK; exact hK)) fun y M hg => ?_)
  simp (disch := first | assumption | (apply Ap.symm; assumption) | omega | decide | (simp only [Xd] <;> omega)) only [rs37, ↓Xa, Xb, Xc, ↓reduceIte, Nat.reduceLT, Nat.reduceEqDiff, Nat.reduceBEq, Nat.reduceLeDiff, Nat.reduceAdd, Nat.reduceMul]
  exact SetR.now (hq y M hg)
end
end Go.Proofs.YtanchgkiomfhhaaDoor.Fw

/- Fractions: plain numbers. -/
namespace Go.Proofs.YtanchgkiomfhhaaDoor.Fw
set_option linter.unusedSimpArgs false
set_option linter.unusedVariables false
open Go Go.Proofs.YtanchgkiomfhhaaDoor.Ma

abbrev QQ := _root_.Rat
theorem q_pos (q : QQ) : 0 < (q.den : Int) := by have := q.den_pos; omega
theorem mk_num {n : Int} {d : Nat} (hd : 0 < d) : (mkRat n d).num = n / ((Int.gcd n (d : Int) : Nat) : Int) := by
  rw [_root_.Rat.num_mkRat, if_neg (by omega), Nat.gcd_comm]; rfl
theorem mk_den {n : Int} {d : Nat} (hd : 0 < d) : (((mkRat n d).den : Nat) : Int) = (d : Int) / ((Int.gcd n (d : Int) : Nat) : Int) := by
  rw [_root_.Rat.den_mkRat, if_neg (by omega), Nat.gcd_comm]; rfl
theorem q_lt {p q : QQ} : p < q ↔ p.num * (q.den : Int) < q.num * (p.den : Int) := _root_.Rat.lt_iff p q
def cmpQ (p q : QQ) : Int := cmpI (p.num * (q.den : Int)) (q.num * (p.den : Int))
theorem Bd.oneQ (k : Nat) : Bd (k + 1) 1 := by
  unfold Bd
  have : 4294967296 ^ 1 ≤ 4294967296 ^ (k + 1) := Nat.pow_le_pow_right (by omega) (by omega)
  have e : (1 : Int).natAbs = 1 := rfl
  omega
def RB (k : Nat) (q : QQ) : Prop := Bd k q.num ∧ Bd k (q.den : Int)
theorem RB.mk {n : Int} {d k : Nat} (hn : Bd k n) (hd : Bd k (d : Int)) (h0 : 0 < d) : RB k (mkRat n d) := by
  refine ⟨?_, ?_⟩
  · rw [mk_num h0]; exact hn.ediv
  · rw [mk_den h0]; exact hd.ediv
theorem RB.mono {q : QQ} {k k' : Nat} (h : RB k q) (hk : k ≤ k') : RB k' q := ⟨h.1.mono hk, h.2.mono hk⟩
theorem RB.neg {q : QQ} {k : Nat} (h : RB k q) : RB k (-q) := ⟨h.1.neg, h.2⟩
theorem RB.add {p q : QQ} {k k' : Nat} (h : RB k p) (h' : RB k' q) : RB (k + k' + 1) (p + q) := by
  rw [_root_.Rat.add_def']
  refine RB.mk (Bd.add (h.1.mul h'.2) ?_) ?_ (Nat.mul_pos p.den_pos q.den_pos)
  · have := h'.1.mul h.2; rw [Nat.add_comm]; exact this
  · rw [Int.natCast_mul]; exact (h.2.mul h'.2).mono (by omega)
theorem RB.sub {p q : QQ} {k k' : Nat} (h : RB k p) (h' : RB k' q) : RB (k + k' + 1) (p - q) := by
  rw [_root_.Rat.sub_eq_add_neg]; exact h.add h'.neg
theorem RB.mul {p q : QQ} {k k' : Nat} (h : RB k p) (h' : RB k' q) : RB (k + k') (p * q) := by
  rw [_root_.Rat.mul_def']
  refine RB.mk (h.1.mul h'.1) ?_ (Nat.mul_pos p.den_pos q.den_pos)
  rw [Int.natCast_mul]; exact h.2.mul h'.2
theorem RB.int {z : Int} {k : Nat} (h : Bd (k + 1) z) : RB (k + 1) (z : QQ) := ⟨h, Bd.oneQ k⟩
theorem RB.less {q : QQ} {k : Nat} (h : RB k q) : Bd k ((q.den : Int) - 1) := h.2.le (by have := q_pos q; omega)
end Go.Proofs.YtanchgkiomfhhaaDoor.Fw

/- Fractions: what package ratio's functions answer. -/
namespace Go.Proofs.YtanchgkiomfhhaaDoor.Fw
set_option linter.unusedSimpArgs false
set_option linter.unusedVariables false
open Go Go.Proofs.YtanchgkiomfhhaaDoor.Ma
set_option maxRecDepth 20000

def RawR (a b : Int) : AV := .agg [IntB a, IntD a, IntB b, IntD b]
def RatA (q : QQ) : AV := RawR q.num ((q.den : Int) - 1)
def RatE (q : QQ) (e : Nat) : AV := .tup [RatA q, .int .i64 ((e : Nat) : Int)]
end Go.Proofs.YtanchgkiomfhhaaDoor.Fw

/- Fractions: what the laws' own helpers answer. -/
namespace Go.Proofs.YtanchgkiomfhhaaDoor.Fw
set_option linter.unusedSimpArgs false
set_option linter.unusedVariables false
open Go Go.Proofs.YtanchgkiomfhhaaDoor.Ma
set_option maxRecDepth 20000

def qText (q : QQ) : List UInt8 := iText q.num ++ (if q.den = 1 then [] else 47 :: iText (q.den : Int))
theorem iText_len {x : Int} {k : Nat} (h : Bd k x) : (iText x).length ≤ 10 * k + 2 := by
  have := decT_bd h
  unfold iText; split <;> simp <;> omega
def FracA (q : List UInt8 × List UInt8) : AV := .agg [Sx q.1, Sx q.2]
def FracC (l : List (List UInt8 × List UInt8)) : List AV := l.flatMap fun q => [Sx q.1, Sx q.2]
def lngF (q : List UInt8 × List UInt8) : Bool := decide (300 < q.1.length) || decide (300 < q.2.length)
theorem geq_int {k : IntKind} {n m : Int} {K : AV → Prop} : binW .geq (.int k n) (.int k m) K ↔ K (.bool (decide (m ≤ n))) := by simp [binW, binInt]
end Go.Proofs.YtanchgkiomfhhaaDoor.Fw

/- The looked-up code of one function, and that it is: by a program (wip/tools/ac.py); Lean checks it. -/
namespace Go.Proofs.YtanchgkiomfhhaaDoor.Fw
open Go
set_option maxRecDepth 100000
end Go.Proofs.YtanchgkiomfhhaaDoor.Fw

/- The looked-up code of one function, and that it is: by a program (wip/tools/ac.py); Lean checks it. -/
namespace Go.Proofs.YtanchgkiomfhhaaDoor.Fw
open Go
set_option maxRecDepth 100000
end Go.Proofs.YtanchgkiomfhhaaDoor.Fw

/- The looked-up code of one function, and that it is: by a program (wip/tools/ac.py); Lean checks it. -/
namespace Go.Proofs.YtanchgkiomfhhaaDoor.Fw
open Go
set_option maxRecDepth 100000
def ac9 : ACode := (.seq (.reg [⟨(some 0), none, (.mov (.k (.bool false)))⟩] []) (.seq (.seq (.reg [⟨(some 9), none, (.call (.k (.fn (.func 32) [] [])) [])⟩, ⟨(some 10), none, (.un .not (.t 9))⟩] [10]) (.cond (.t 10) (.seq (.reg [⟨(some 0), none, (.mov (.k (.bool false)))⟩] [0]) .ret) .skip)) (.seq (.reg [⟨(some 11), none, (.bsl [(.int .u8 ((0 : Nat) : Int))] 1 1 [(0, (1, (.k (.int .u8 ((91 : Nat) : Int)))))])⟩, ⟨(some 1), none, (.mov (.t 11))⟩] [1]) (.seq (.seq (.reg [⟨(some 2), none, (.mov (.k (.int .i64 ((0 : Nat) : Int))))⟩] [1, 2]) (.block 0 (.loop (.seq (.seq (.reg [⟨(some 12), none, (.mov (.t 2))⟩, ⟨(some 13), none, (.bin .lss (.t 12) (.k (.int .i64 ((4096 : Nat) : Int))))⟩] [1, 2, 13]) (.cond (.t 13) .skip (.exit 0))) (.seq (.block 1 (.reg [⟨(some 16), none, (.mov (.t 1))⟩, ⟨(some 17), none, (.bsl [(.int .u8 ((0 : Nat) : Int))] 2 1 [(0, (1, (.k (.int .u8 ((49 : Nat) : Int))))), (1, (1, (.k (.int .u8 ((32 : Nat) : Int)))))])⟩, ⟨(some 18), none, (.app 5 1 1 (.t 16) (.t 17))⟩, ⟨(some 1), none, (.mov (.t 18))⟩] [1, 2])) (.reg [⟨(some 14), none, (.mov (.t 2))⟩, ⟨(some 15), none, (.bin .add (.t 14) (.k (.int .i64 ((1 : Nat) : Int))))⟩, ⟨(some 2), none, (.mov (.t 15))⟩] [1, 2])))))) (.seq (.reg [⟨(some 19), none, (.mov (.t 1))⟩, ⟨(some 20), none, (.mov (.t 1))⟩, ⟨(some 21), none, (.len false (.t 20))⟩, ⟨(some 22), none, (.bin .sub (.t 21) (.k (.int .i64 ((1 : Nat) : Int))))⟩, ⟨(some 23), none, (.idxA 1 (.t 19) (.t 22))⟩, ⟨none, none, (.store 1 (.t 23) (.k (.int .u8 ((93 : Nat) : Int))))⟩] [1]) (.seq (.reg [⟨(some 25), none, (.mov (.t 1))⟩, ⟨(some 26), none, (.prim .b2s [(.t 25)])⟩, ⟨(some 27), none, (.call (.k (.fn (.func 85) [] [])) [(.t 26)])⟩, ⟨(some 24), none, (.mov (.t 27))⟩, ⟨(some 28), none, (.ext (.t 24) 0)⟩, ⟨(some 29), none, (.ext (.t 24) 1)⟩, ⟨(some 4), none, (.alloc 105 0 [(.int .i64 ((0 : Nat) : Int)), (.int .i64 ((0 : Nat) : Int))])⟩, ⟨(some 3), none, (.mov (.t 28))⟩, ⟨none, none, (.store 2 (.t 4) (.t 29))⟩] [1, 3, 4]) (.seq (.reg [⟨(some 30), none, (.mov (.t 1))⟩, ⟨(some 31), none, (.mov (.t 1))⟩, ⟨(some 32), none, (.len false (.t 31))⟩, ⟨(some 33), none, (.bin .sub (.t 32) (.k (.int .i64 ((1 : Nat) : Int))))⟩, ⟨(some 34), none, (.idxA 1 (.t 30) (.t 33))⟩, ⟨none, none, (.store 1 (.t 34) (.k (.int .u8 ((32 : Nat) : Int))))⟩] [1, 3, 4]) (.seq (.reg [⟨(some 36), none, (.mov (.t 1))⟩, ⟨(some 37), none, (.prim .b2s [(.t 36)])⟩, ⟨(some 38), none, (.bin .add (.t 37) (.k (.str ⟨#[49, 93]⟩)))⟩, ⟨(some 39), none, (.call (.k (.fn (.func 85) [] [])) [(.t 38)])⟩, ⟨(some 35), none, (.mov (.t 39))⟩, ⟨(some 40), none, (.ext (.t 35) 0)⟩, ⟨(some 41), none, (.ext (.t 35) 1)⟩, ⟨(some 6), none, (.alloc 105 0 [(.int .i64 ((0 : Nat) : Int)), (.int .i64 ((0 : Nat) : Int))])⟩, ⟨(some 5), none, (.mov (.t 40))⟩, ⟨none, none, (.store 2 (.t 6) (.t 41))⟩] [1, 3, 4, 5, 6]) (.seq (.reg [⟨(some 43), none, (.mks 5 1 1 [(.int .u8 ((0 : Nat) : Int))] (.k (.int .i64 ((65537 : Nat) : Int))) (.k (.int .i64 ((65537 : Nat) : Int))))⟩, ⟨(some 44), none, (.prim .b2s [(.t 43)])⟩, ⟨(some 45), none, (.call (.k (.fn (.func 85) [] [])) [(.t 44)])⟩, ⟨(some 42), none, (.mov (.t 45))⟩, ⟨(some 46), none, (.ext (.t 42) 0)⟩, ⟨(some 47), none, (.ext (.t 42) 1)⟩, ⟨(some 8), none, (.alloc 105 0 [(.int .i64 ((0 : Nat) : Int)), (.int .i64 ((0 : Nat) : Int))])⟩, ⟨(some 7), none, (.mov (.t 46))⟩, ⟨none, none, (.store 2 (.t 8) (.t 47))⟩] [1, 3, 4, 5, 6, 7, 8]) (.seq (.reg [⟨(some 48), none, (.mov (.k (.bool true)))⟩, ⟨(some 49), (some (48, true)), (.mov (.t 3))⟩, ⟨(some 50), (some (48, true)), (.len false (.t 49))⟩, ⟨(some 51), (some (48, true)), (.bin .eql (.t 50) (.k (.int .i64 ((4096 : Nat) : Int))))⟩, ⟨(some 52), none, (.pick (.t 48) (.t 51) (.k (.bool false)))⟩, ⟨(some 53), none, (.mov (.t 52))⟩, ⟨(some 54), (some (53, true)), (.fldA 0 (.t 4))⟩, ⟨(some 55), (some (53, true)), (.load none (.t 54))⟩, ⟨(some 56), (some (53, true)), (.bin .eql (.t 55) (.k (.int .i64 ((0 : Nat) : Int))))⟩, ⟨(some 57), none, (.pick (.t 53) (.t 56) (.k (.bool false)))⟩, ⟨(some 58), none, (.mov (.t 57))⟩, ⟨(some 59), (some (58, true)), (.mov (.t 5))⟩, ⟨(some 60), (some (58, true)), (.len false (.t 59))⟩, ⟨(some 61), (some (58, true)), (.bin .eql (.t 60) (.k (.int .i64 ((0 : Nat) : Int))))⟩, ⟨(some 62), none, (.pick (.t 58) (.t 61) (.k (.bool false)))⟩, ⟨(some 63), none, (.mov (.t 62))⟩, ⟨(some 64), (some (63, true)), (.fldA 0 (.t 6))⟩, ⟨(some 65), (some (63, true)), (.load none (.t 64))⟩, ⟨(some 66), (some (63, true)), (.bin .eql (.t 65) (.k (.int .i64 ((3 : Nat) : Int))))⟩, ⟨(some 67), none, (.pick (.t 63) (.t 66) (.k (.bool false)))⟩, ⟨(some 68), none, (.mov (.t 67))⟩, ⟨(some 69), (some (68, true)), (.fldA 1 (.t 6))⟩, ⟨(some 70), (some (68, true)), (.load none (.t 69))⟩, ⟨(some 71), (some (68, true)), (.mov (.t 1))⟩, ⟨(some 72), (some (68, true)), (.len false (.t 71))⟩, ⟨(some 73), (some (68, true)), (.bin .eql (.t 70) (.t 72))⟩, ⟨(some 74), none, (.pick (.t 68) (.t 73) (.k (.bool false)))⟩, ⟨(some 75), none, (.mov (.t 74))⟩, ⟨(some 76), (some (75, true)), (.mov (.t 7))⟩, ⟨(some 77), (some (75, true)), (.len false (.t 76))⟩, ⟨(some 78), (some (75, true)), (.bin .eql (.t 77) (.k (.int .i64 ((0 : Nat) : Int))))⟩, ⟨(some 79), none, (.pick (.t 75) (.t 78) (.k (.bool false)))⟩, ⟨(some 80), none, (.mov (.t 79))⟩, ⟨(some 81), (some (80, true)), (.fldA 0 (.t 8))⟩, ⟨(some 82), (some (80, true)), (.load none (.t 81))⟩, ⟨(some 83), (some (80, true)), (.bin .eql (.t 82) (.k (.int .i64 ((3 : Nat) : Int))))⟩, ⟨(some 84), none, (.pick (.t 80) (.t 83) (.k (.bool false)))⟩, ⟨(some 85), none, (.mov (.t 84))⟩, ⟨(some 86), (some (85, true)), (.fldA 1 (.t 8))⟩, ⟨(some 87), (some (85, true)), (.load none (.t 86))⟩, ⟨(some 88), (some (85, true)), (.bin .eql (.t 87) (.k (.int .i64 ((65536 : Nat) : Int))))⟩, ⟨(some 89), none, (.pick (.t 85) (.t 88) (.k (.bool false)))⟩, ⟨(some 90), none, (.mov (.t 89))⟩, ⟨(some 91), (some (90, true)), (.call (.k (.fn (.func 86) [] [])) [(.k (.seq 0 [] true))])⟩, ⟨(some 92), (some (90, true)), (.bin .eql (.t 91) (.k (.str ⟨#[91, 93]⟩)))⟩, ⟨(some 93), none, (.pick (.t 90) (.t 92) (.k (.bool false)))⟩, ⟨(some 0), none, (.mov (.t 93))⟩] [0]) .ret))))))))))
def rs9 : List RV := [(.t 0)]
theorem co9 : compFn Go.Proofs.Tryd.prog Go.Proofs.Tryd.f9 pl9 = some (ac9, rs9) := by kernel_rfl
theorem enter9 {args : List AV} {H : AHeap} {Q : AV → AHeap → Prop} (hn : args.length ≤ 94) (h : W Go.Proofs.Tryd.prog ac9 (retN rs9 Q) ⟨[], initE args 0, H⟩) : Run Go.Proofs.Tryd.prog 9 args H Q := Run_fn2 mixed Go.Proofs.Tryd.func9 (by kernel_rfl) co9 (n := 94) (by kernel_rfl) hn h
end Go.Proofs.YtanchgkiomfhhaaDoor.Fw
