/- What package limb computes, in terms of numbers. -/
import Derived.Test.YtipbcjnniamcgaaDoorSe
namespace Go.Proofs.YtipbcjnniamcgaaDoor.Fw
set_option linter.unusedSimpArgs false
set_option linter.unusedVariables false
open Go Go.Proofs.YtipbcjnniamcgaaDoor.Ma
set_option maxRecDepth 20000

/-- A row of limbs, what it is worth, how long it is at most. -/
structure Nm (l : List Nat) (n k : Nat) : Prop where
  lim : Lim 4294967296 l
  val : val 4294967296 l = n
  len : l.length ≤ k
theorem Nm.lt {l : List Nat} {n k : Nat} (h : Nm l n k) : n < 4294967296 ^ k := by
  rw [← h.val]; exact Nat.lt_of_lt_of_le (val_lt h.lim) (Nat.pow_le_pow_right (by omega) h.len)
theorem Nm.digs {n k : Nat} (h : n < 4294967296 ^ k) : Nm (digs 4294967296 n) n k := ⟨lim_digs (by omega) n, val_digs (by omega) n, digs_len (by omega) k n h⟩
theorem Nm.raw {l : List Nat} {k : Nat} (h : Lim 4294967296 l) (hk : l.length ≤ k) : Nm l (Ma.val 4294967296 l) k := ⟨h, rfl, hk⟩
theorem Nm.mono {l : List Nat} {n k k' : Nat} (h : Nm l n k) (hk : k ≤ k') : Nm l n k' := ⟨h.lim, h.val, Nat.le_trans h.len hk⟩
theorem lt_add {m n k k' : Nat} (h : m < 4294967296 ^ k) (h' : n < 4294967296 ^ k') : m + n < 4294967296 ^ (k + k' + 1) := by
  have h1 : (4294967296 : Nat) ^ k ≤ 4294967296 ^ (k + k') := Nat.pow_le_pow_right (by omega) (by omega)
  have h2 : (4294967296 : Nat) ^ k' ≤ 4294967296 ^ (k + k') := Nat.pow_le_pow_right (by omega) (by omega)
  rw [Nat.pow_succ]; omega
theorem lt_mul {m n k k' : Nat} (h : m < 4294967296 ^ k) (h' : n < 4294967296 ^ k') : m * n < 4294967296 ^ (k + k') := by
  rw [Nat.pow_add]; exact Nat.mul_lt_mul_of_lt_of_lt h h'
theorem add_n {a b : List Nat} {m n k k' : Nat} (ta tb : Bool) (ha : Nm a m k) (hb : Nm b n k') (hk : k ≤ 1000000) (hk' : k' ≤ 1000000) : PFn Tryd.prog 38 [LS a ta, LS b tb] (LS (Ma.digs 4294967296 (m + n)) true) := by
  have := add_fn ta tb ha.lim hb.lim (Nat.le_trans ha.len (by omega)) (Nat.le_trans hb.len (by omega))
  rwa [ha.val, hb.val] at this
theorem mul_n {a b : List Nat} {m n k k' : Nat} (ta tb : Bool) (ha : Nm a m k) (hb : Nm b n k') (hk : k ≤ 1000000) (hk' : k' ≤ 1000000) : PFn Tryd.prog 39 [LS a ta, LS b tb] (LS (Ma.digs 4294967296 (m * n)) true) := by
  have := mul_fn ta tb ha.lim hb.lim (Nat.le_trans ha.len (by omega)) (Nat.le_trans hb.len (by omega))
  rwa [ha.val, hb.val] at this
theorem sub_n {a b : List Nat} {m n k k' : Nat} (ta tb : Bool) (ha : Nm a m k) (hb : Nm b n k') (hk : k ≤ 1000000) (hk' : k' ≤ 1000000) (h : n ≤ m) : PFn Tryd.prog 50 [LS a ta, LS b tb] (.tup [LS (Ma.digs 4294967296 (m - n)) true, .int .i64 ((0 : Nat) : Int)]) := by
  have := sub_fn ta tb ha.lim hb.lim (by rw [ha.val, hb.val]; exact h) (Nat.le_trans ha.len (by omega)) (Nat.le_trans hb.len (by omega))
  rwa [ha.val, hb.val] at this
theorem norm_n {a : List Nat} {m k : Nat} (ta : Bool) (ha : Nm a m k) (hk : k ≤ 1000000) : PFn Tryd.prog 35 [LS a ta] (LS (Ma.digs 4294967296 m) true) := by
  have := norm_fn ta (l := a) (Nat.le_trans ha.len (by omega))
  rwa [tr_digs (by omega) ha.lim, ha.val] at this
theorem cmp_n {a b : List Nat} {m n k k' : Nat} (ta tb : Bool) (ha : Nm a m k) (hb : Nm b n k') : PFn Tryd.prog 36 [LS a ta, LS b tb] (.int .i64 (cmpZ m n)) := by
  have := cmp_fn ta tb ha.lim hb.lim
  rwa [ha.val, hb.val] at this
theorem div_n {a b : List Nat} {m n k k' : Nat} (ta tb : Bool) (ha : Nm a m k) (hb : Nm b n k') (hk : k ≤ 1000000) (hk' : k' ≤ 1000000) (h : 0 < n) : PFn Tryd.prog 34 [LS a ta, LS b tb] (.tup [LS (Ma.digs 4294967296 (m / n)) true, LS (Ma.digs 4294967296 (m % n)) true, .int .i64 ((0 : Nat) : Int)]) := by
  have := divmod_fn ta tb ha.lim hb.lim (by rw [hb.val]; exact h) (Nat.le_trans ha.len (by omega)) (Nat.le_trans hb.len (by omega))
  rwa [ha.val, hb.val] at this
theorem divs_n {a : List Nat} {m k d : Nat} (ta : Bool) (ha : Nm a m k) (hk : k ≤ 1000000) (h : 0 < d) (hd : d < 4294967296) : PFn Tryd.prog 40 [LS a ta, .int .u32 (d : Nat)] (.tup [LS (Ma.digs 4294967296 (m / d)) true, .int .u32 ((m % d : Nat) : Int), .int .i64 ((0 : Nat) : Int)]) := by
  have := divsmall_fn ta ha.lim h hd (Nat.le_trans ha.len (by omega))
  rwa [ha.val] at this
theorem eq_n {m n k k' : Nat} (ta tb : Bool) (hm : m < 4294967296 ^ k) (hn : n < 4294967296 ^ k') (hk : k ≤ 1000000) (hk' : k' ≤ 1000000) : PFn Tryd.prog 37 [LS (Ma.digs 4294967296 m) ta, LS (Ma.digs 4294967296 n) tb] (.bool (decide (m = n))) := by
  have := equal_fn (a := Ma.digs 4294967296 m) (b := Ma.digs 4294967296 n) ta tb (Nat.lt_of_le_of_lt (Nm.digs hm).len (by omega)) (Nat.lt_of_le_of_lt (Nm.digs hn).len (by omega))
  have e : decide (Ma.digs 4294967296 m = Ma.digs 4294967296 n) = decide (m = n) := by
    apply decide_eq_decide.2
    constructor
    · intro h
      have h2 := congrArg (Ma.val 4294967296) h
      rwa [val_digs (by omega), val_digs (by omega)] at h2
    · rintro rfl; rfl
  rwa [e] at this
theorem eq_same {m n k : Nat} (ta tb : Bool) (h : m = n) (hm : m < 4294967296 ^ k) (hk : k ≤ 1000000) : PFn Tryd.prog 37 [LS (Ma.digs 4294967296 m) ta, LS (Ma.digs 4294967296 n) tb] (.bool true) := by
  subst h
  have := eq_n ta tb hm hm hk hk
  rwa [decide_eq_true rfl] at this
theorem cmpZ_geq {a b : Nat} {K : AV → Prop} : binW .geq (.int .i64 (cmpZ a b)) (.int .i64 ((0 : Nat) : Int)) K ↔ K (.bool (decide (b ≤ a))) := by
  have : (((0 : Nat) : Int) ≤ cmpZ a b) ↔ b ≤ a := by unfold cmpZ; (repeat' split) <;> omega
  simp only [binW, binInt, true_and, ge_iff_le, this]

end Go.Proofs.YtipbcjnniamcgaaDoor.Fw
