/- Plain numbers: how many binary digits. -/
import Derived.Test.YtipbcjnniamcgaaMc
namespace Go.Proofs.Ytipbcjnniamcgaa.Ma
set_option linter.unusedSimpArgs false
set_option linter.unusedVariables false

def blen (n : Nat) : Nat := if n = 0 then 0 else Nat.log2 n + 1
theorem blen_le {n k : Nat} : blen n ≤ k ↔ n < 2 ^ k := by
  unfold blen
  split
  · rename_i h; subst h; simp [Nat.pow_pos]
  · rename_i h; rw [Nat.succ_le_iff]; exact Nat.log2_lt h
theorem blen_zero : blen 0 = 0 := rfl
theorem blen_pos {n : Nat} : 0 < blen n ↔ 0 < n := by
  have := @blen_le n 0
  simp at this; omega
theorem blen_eq {n k : Nat} (h : n < 2 ^ k) (h' : k = 0 ∨ 2 ^ (k - 1) ≤ n) : blen n = k := by
  have h1 := blen_le.2 h
  rcases h' with e | e
  · omega
  · have h2 : ¬ blen n ≤ k - 1 := fun x => by have := blen_le.1 x; omega
    omega
theorem blen_low {n : Nat} (h : 0 < n) : 2 ^ (blen n - 1) ≤ n := by
  have hp := blen_pos.2 h
  have : ¬ blen n ≤ blen n - 1 := by omega
  rw [blen_le] at this; omega
theorem blen_lt (n : Nat) : n < 2 ^ blen n := blen_le.1 (Nat.le_refl _)
theorem blen_high {lo hi s : Nat} (hlo : lo < 2 ^ s) (hhi : 0 < hi) : blen (lo + 2 ^ s * hi) = s + blen hi := by
  have hb := blen_pos.2 hhi
  refine blen_eq ?_ (.inr ?_)
  · rw [Nat.pow_add]
    have : 2 ^ s * (hi + 1) ≤ 2 ^ s * 2 ^ blen hi := Nat.mul_le_mul_left _ (blen_lt hi)
    rw [Nat.mul_succ] at this; omega
  · rw [show s + blen hi - 1 = s + (blen hi - 1) by omega, Nat.pow_add]
    exact Nat.le_trans (Nat.mul_le_mul_left _ (blen_low hhi)) (Nat.le_add_left _ _)
theorem blen_shift {n s : Nat} (h : 2 ^ s ≤ n) : blen n = s + blen (n / 2 ^ s) := by
  have hp : 0 < 2 ^ s := Nat.pow_pos (by omega)
  have := blen_high (lo := n % 2 ^ s) (hi := n / 2 ^ s) (s := s) (Nat.mod_lt _ hp) (Nat.div_pos h hp)
  rwa [Nat.mod_add_div] at this
theorem blen_half {n : Nat} (h : 0 < n) : blen n = blen (n / 2) + 1 := by
  rcases Nat.lt_or_ge n 2 with e | e
  · obtain rfl : n = 1 := by omega
    rfl
  · have := blen_shift (n := n) (s := 1) e
    rw [this, Nat.pow_one, Nat.add_comm]
/-- .. of digits of so many bits. -/
theorem blen_digs {w n : Nat} (hw : 1 ≤ w) (hn : 0 < n) : blen n = w * ((digs (2 ^ w) n).length - 1) + blen ((digs (2 ^ w) n).getD ((digs (2 ^ w) n).length - 1) 0) := by
  have hB : 2 ≤ 2 ^ w := by
    calc 2 = 2 ^ 1 := rfl
      _ ≤ 2 ^ w := Nat.pow_le_pow_right (by omega) hw
  have hv := val_digs hB n
  have hl := lim_digs hB n
  have ht := digs_last hB hn
  have hp : 0 < (digs (2 ^ w) n).length := by rw [digs_pos hB hn]; simp
  generalize digs (2 ^ w) n = X at *
  have e := val_take (2 ^ w) X (X.length - 1)
  rw [show X.length - 1 + 1 = X.length by omega, List.take_of_length_le (Nat.le_refl _), hv] at e
  have hlo := val_lt (hl.take (X.length - 1))
  rw [List.length_take, Nat.min_eq_left (by omega), ← Nat.pow_mul] at hlo
  rw [← Nat.pow_mul] at e
  have := blen_high hlo (Nat.pos_of_ne_zero ht)
  rwa [← e] at this
end Go.Proofs.Ytipbcjnniamcgaa.Ma
