/- How often two divides a number. -/
import Derived.Test.YtipbcjnniamcgaaDoorNa
namespace Go.Proofs.YtipbcjnniamcgaaDoor.Ma
set_option linter.unusedSimpArgs false
set_option linter.unusedVariables false

def tz (n : Nat) : Nat := if h : n = 0 ∨ n % 2 = 1 then 0 else tz (n / 2) + 1
termination_by n
decreasing_by omega
theorem tz_odd {n : Nat} (h : n % 2 = 1) : tz n = 0 := by rw [tz]; simp [h]
theorem tz_zero : tz 0 = 0 := by rw [tz]; simp
theorem tz_two {n : Nat} (h : 0 < n) : tz (2 * n) = tz n + 1 := by
  rw [tz, dif_neg (by omega), Nat.mul_div_cancel_left _ (by omega)]
theorem tz_eq (k m : Nat) : tz (2 ^ k * (2 * m + 1)) = k := by
  induction k with
  | zero => rw [Nat.pow_zero, Nat.one_mul]; exact tz_odd (by omega)
  | succ k ih =>
    have e : 2 ^ (k + 1) * (2 * m + 1) = 2 * (2 ^ k * (2 * m + 1)) := by rw [Nat.pow_succ, Nat.mul_comm (2 ^ k) 2, Nat.mul_assoc]
    rw [e, tz_two (Nat.mul_pos (Nat.pow_pos (by omega)) (by omega)), ih]
theorem tz_spec (n : Nat) : 0 < n → ∃ m, n = 2 ^ tz n * (2 * m + 1) := by
  induction n using Nat.strongRecOn with
  | _ n ih =>
    intro h
    by_cases ho : n % 2 = 1
    · exact ⟨n / 2, by rw [tz_odd ho, Nat.pow_zero, Nat.one_mul]; omega⟩
    · obtain ⟨m, hm⟩ := ih (n / 2) (by omega) (by omega)
      have e : n = 2 * (n / 2) := by omega
      refine ⟨m, ?_⟩
      have e2 : tz n = tz (n / 2) + 1 := by
        conv => lhs; rw [e]
        exact tz_two (by omega)
      rw [e2, Nat.pow_succ, Nat.mul_comm (2 ^ _) 2, Nat.mul_assoc, ← hm]
      exact e
theorem tz_lt {n k : Nat} (h : 0 < n) (hn : n < 2 ^ k) : tz n < k := by
  obtain ⟨m, hm⟩ := tz_spec n h
  have h1 : 2 ^ tz n ≤ n := by
    conv => rhs; rw [hm]
    exact Nat.le_mul_of_pos_right _ (by omega)
  exact (Nat.pow_lt_pow_iff_right (by omega)).1 (Nat.lt_of_le_of_lt h1 hn)
/-- The bits below are noughts; the next one is a one. -/
theorem tz_bit {n k : Nat} (h : 0 < n) (hk : k ≤ tz n) : n / 2 ^ k % 2 = if k = tz n then 1 else 0 := by
  obtain ⟨m, hm⟩ := tz_spec n h
  generalize tz n = t at *
  have e : n / 2 ^ k = 2 ^ (t - k) * (2 * m + 1) := by
    rw [hm, show 2 ^ t = 2 ^ k * 2 ^ (t - k) by rw [← Nat.pow_add]; congr 1; omega, Nat.mul_assoc, Nat.mul_div_cancel_left _ (Nat.pow_pos (by omega))]
  rw [e]
  by_cases hkt : k = t
  · subst hkt; rw [Nat.sub_self, Nat.pow_zero, if_pos rfl]; omega
  · rw [if_neg hkt]
    obtain ⟨j, hj⟩ : ∃ j, t - k = j + 1 := ⟨t - k - 1, by omega⟩
    rw [hj, Nat.pow_succ, Nat.mul_assoc, Nat.mul_comm (2 ^ j), Nat.mul_assoc, Nat.mul_mod_right]
/-- A number and its negation have just the lowest one in common. -/
theorem and_neg {x : Nat} (h : 0 < x) (hx : x < 4294967296) : x &&& (4294967296 - x) = 2 ^ tz x := by
  obtain ⟨m, hm⟩ := tz_spec x h
  have hk := tz_lt (k := 32) h hx
  generalize tz x = k at *
  have hp : (4294967296 : Nat) = 2 ^ k * 2 ^ (32 - k) := by rw [← Nat.pow_add, show k + (32 - k) = 32 by omega]
  have hlt : 2 * m + 1 < 2 ^ (32 - k) := by
    rw [hm, hp] at hx
    exact Nat.lt_of_mul_lt_mul_left hx
  obtain ⟨j, hj⟩ : ∃ j, 32 - k = j + 1 := ⟨31 - k, by omega⟩
  rw [hj] at hlt hp
  have hm2 : m < 2 ^ j := by rw [Nat.pow_succ] at hlt; omega
  have e1 : x = (2 * m + 1) <<< k := by rw [Nat.shiftLeft_eq, hm, Nat.mul_comm]
  have e2 : 4294967296 - x = (2 * (2 ^ j - (m + 1)) + 1) <<< k := by
    rw [Nat.shiftLeft_eq, hm, hp, ← Nat.mul_sub, Nat.mul_comm]
    congr 1
    rw [Nat.pow_succ]; omega
  rw [e2]
  conv => lhs; lhs; rw [e1]
  rw [← Nat.shiftLeft_and_distrib, Nat.shiftLeft_eq]
  have e3 : (2 * m + 1) &&& (2 * (2 ^ j - (m + 1)) + 1) = 1 := by
    apply Nat.eq_of_testBit_eq
    intro i
    rw [Nat.testBit_and]
    cases i with
    | zero => simp
    | succ i =>
      have a1 : (2 * m + 1).testBit (i + 1) = m.testBit i := by rw [Nat.testBit_succ]; congr 1; omega
      have a2 : (2 * (2 ^ j - (m + 1)) + 1).testBit (i + 1) = (2 ^ j - (m + 1)).testBit i := by rw [Nat.testBit_succ]; congr 1; omega
      rw [a1, a2, Nat.testBit_two_pow_sub_succ hm2]
      cases m.testBit i <;> simp [Nat.testBit_succ]
  rw [e3, Nat.one_mul]
def deB : List Nat := [0, 1, 28, 2, 29, 14, 24, 3, 30, 22, 20, 15, 25, 17, 4, 8, 31, 27, 13, 23, 21, 19, 16, 7, 26, 12, 18, 6, 11, 5, 10, 9]
theorem deB_at {k : Nat} (h : k < 32) : deB.getD (2 ^ k * 125613361 % 4294967296 / 134217728) 0 = k := by
  have : ∀ k, k < 32 → deB.getD (2 ^ k * 125613361 % 4294967296 / 134217728) 0 = k := by decide
  exact this k h
theorem deB_lt {k : Nat} (h : k < 32) : 2 ^ k * 125613361 % 4294967296 / 134217728 < 32 := by omega
/-- The first limb that is not nought. -/
theorem tz_limbs {a : List Nat} {i : Nat} (ha : Lim 4294967296 a) (hi : i < a.length) (h0 : val 4294967296 (a.take i) = 0) (hx : 0 < a.getD i 0) : tz (val 4294967296 a) = 32 * i + tz (a.getD i 0) ∧ 0 < val 4294967296 a := by
  have hxl := ha.getD (by omega) i
  have hk := tz_lt (k := 32) hx hxl
  obtain ⟨m, hm⟩ := tz_spec _ hx
  have e := val_split 4294967296 a i (by omega)
  rw [h0, Nat.zero_add, val_drop 4294967296 hi] at e
  generalize a.getD i 0 = x at *
  generalize val 4294967296 (a.drop (i + 1)) = r at *
  generalize tz x = k at *
  obtain ⟨j, hj⟩ : ∃ j, 32 = k + (j + 1) := ⟨31 - k, by omega⟩
  have e2 : val 4294967296 a = 2 ^ (32 * i + k) * (2 * (m + 2 ^ j * r) + 1) := by
    rw [e, hm, show (4294967296 : Nat) = 2 ^ 32 from rfl, ← Nat.pow_mul, Nat.pow_add, Nat.mul_assoc]
    congr 1
    conv => lhs; rw [hj]
    rw [Nat.pow_add, Nat.pow_succ, Nat.mul_assoc, ← Nat.mul_add]
    congr 1
    rw [Nat.mul_add 2, ← Nat.mul_assoc 2, Nat.mul_comm 2 (2 ^ j)]
    omega
  exact ⟨by rw [e2, tz_eq], by rw [e2]; exact Nat.mul_pos (Nat.pow_pos (by omega)) (by omega)⟩
theorem val_get {a : List Nat} (ha : Lim 4294967296 a) (j : Nat) : a.getD j 0 = val 4294967296 a / 4294967296 ^ j % 4294967296 := by
  by_cases hj : j < a.length
  · have h1 := val_drop_div (B := 4294967296) (by omega) ha (q := j) (by omega)
    rw [← h1, val_drop 4294967296 hj]
    have := ha.getD (by omega) j
    omega
  · have h1 := val_lt ha
    have h2 : (4294967296 : Nat) ^ a.length ≤ 4294967296 ^ j := Nat.pow_le_pow_right (by omega) (by omega)
    rw [getD_beyond (by omega), Nat.div_eq_of_lt (by omega)]
theorem bit_val {a : List Nat} (ha : Lim 4294967296 a) (k : Nat) : a.getD (k / 32) 0 / 2 ^ (k % 32) % 2 = val 4294967296 a / 2 ^ k % 2 := by
  rw [val_get ha]
  have e : 2 ^ k = 4294967296 ^ (k / 32) * 2 ^ (k % 32) := by
    conv => lhs; rw [← Nat.div_add_mod k 32, Nat.pow_add, Nat.pow_mul]
  rw [e, ← Nat.div_div_eq_div_mul]
  generalize val 4294967296 a / 4294967296 ^ (k / 32) = x
  have ht : k % 32 < 32 := Nat.mod_lt _ (by omega)
  generalize k % 32 = t at *
  have h32 : (4294967296 : Nat) = 2 ^ t * (2 * 2 ^ (31 - t)) := by
    rw [Nat.mul_comm 2, ← Nat.pow_succ, ← Nat.pow_add, show t + (31 - t + 1) = 32 by omega]
  rw [h32, Nat.mod_mul_right_div_self, Nat.mod_mul_right_mod]
theorem bit_high {a : List Nat} (ha : Lim 4294967296 a) {k : Nat} (h : a.length ≤ k / 32) : val 4294967296 a / 2 ^ k = 0 := by
  refine Nat.div_eq_of_lt (Nat.lt_of_lt_of_le (val_lt ha) ?_)
  rw [show (4294967296 : Nat) = 2 ^ 32 from rfl, ← Nat.pow_mul]
  exact Nat.pow_le_pow_right (by omega) (by omega)
theorem tz_shl {n s : Nat} (h : 0 < n) : tz (n * 2 ^ s) = tz n + s := by
  obtain ⟨m, hm⟩ := tz_spec n h
  conv => lhs; rw [hm]
  have : 2 ^ tz n * (2 * m + 1) * 2 ^ s = 2 ^ (tz n + s) * (2 * m + 1) := by rw [Nat.pow_add]; grind
  rw [this, tz_eq]
theorem blen_shl {n s : Nat} (h : 0 < n) : blen (n * 2 ^ s) = blen n + s := by
  refine blen_eq ?_ (.inr ?_)
  · have h1 := blen_lt n
    rw [Nat.pow_add]
    exact Nat.mul_lt_mul_of_pos_right h1 (Nat.pow_pos (by omega))
  · have h1 := blen_low h
    have h2 := (blen_pos (n := n)).2 h
    rw [show blen n + s - 1 = (blen n - 1) + s by omega, Nat.pow_add]
    exact Nat.mul_le_mul_right _ h1
theorem top_bit {n : Nat} (h : 0 < n) : n / 2 ^ (blen n - 1) % 2 = 1 := by
  have h1 := blen_low h
  have h2 := blen_lt n
  have h3 := (blen_pos (n := n)).2 h
  obtain ⟨b, hb⟩ : ∃ b, blen n = b + 1 := ⟨blen n - 1, by omega⟩
  have hb' : blen n - 1 = b := by omega
  rw [hb'] at h1 ⊢
  rw [hb, Nat.pow_succ] at h2
  have hp : 0 < 2 ^ b := Nat.pow_pos (by omega)
  have e : n / 2 ^ b = 1 := by
    refine Nat.div_eq_of_lt_le ?_ ?_ <;> omega
  rw [e]
theorem low_bit {n s : Nat} : n * 2 ^ (s + 1) / 2 ^ s % 2 = 0 := by
  rw [Nat.pow_succ, Nat.mul_comm (2 ^ s) 2, ← Nat.mul_assoc, Nat.mul_div_cancel _ (Nat.pow_pos (by omega))]; omega
end Go.Proofs.YtipbcjnniamcgaaDoor.Ma
