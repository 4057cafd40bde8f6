/- Plain facts of limbs: held against each other, added, subtracted, from the lowest up. -/
import Derived.Test.YtipbcjnniamcgaaDoorNa
namespace Go.Proofs.YtipbcjnniamcgaaDoor.Ma
set_option linter.unusedSimpArgs false
set_option linter.unusedVariables false

theorem val_cut {B : Nat} (l : List Nat) (i : Nat) : val B l = val B (l.take i) + B ^ i * val B (l.drop i) := by
  by_cases h : i ≤ l.length
  · have e := val_append B (l.take i) (l.drop i)
    rw [List.take_append_drop, List.length_take, Nat.min_eq_left h] at e
    exact e
  · rw [List.take_of_length_le (by omega), List.drop_of_length_le (by omega)]
    simp [val]
theorem take_lt {B : Nat} (hB : 1 ≤ B) {l : List Nat} (h : Lim B l) (i : Nat) : val B (l.take i) < B ^ i :=
  Nat.lt_of_lt_of_le (val_lt (h.take i)) (Nat.pow_le_pow_right hB (by rw [List.length_take]; omega))
theorem val_dropC {B : Nat} (l : List Nat) (i : Nat) : val B (l.drop i) = l.getD i 0 + B * val B (l.drop (i + 1)) := by
  by_cases h : i < l.length
  · exact val_drop B h
  · rw [List.drop_of_length_le (by omega), List.drop_of_length_le (by omega), getD_beyond (by omega)]
    simp [val]
theorem cmp_at {B : Nat} (hB : 1 ≤ B) {a b : List Nat} {i : Nat} (ha : Lim B a) (hd : val B (a.drop (i + 1)) = val B (b.drop (i + 1))) (h : a.getD i 0 < b.getD i 0) : val B a < val B b := by
  have h1 := val_cut (B := B) a i
  have h2 := val_cut (B := B) b i
  have h3 := take_lt hB ha i
  rw [val_dropC] at h1 h2
  rw [h1, h2, hd]
  generalize val B (b.drop (i + 1)) = T
  have h4 : B ^ i * (a.getD i 0 + B * T) + B ^ i ≤ B ^ i * (b.getD i 0 + B * T) := by
    rw [← Nat.mul_succ]
    exact Nat.mul_le_mul_left _ (by omega)
  omega

/-- Sums, limb by limb. -/
def SumI (a b : List Nat) (i c : Nat) (done : List Nat) : Prop := done.length = i ∧ Lim 4294967296 done ∧ c ≤ 1 ∧ val 4294967296 done + 4294967296 ^ i * c = val 4294967296 (a.take i) + val 4294967296 (b.take i)
theorem SumI.zero (a b : List Nat) : SumI a b 0 0 [] := ⟨rfl, Lim.nil _, by omega, by simp [val]⟩
theorem SumI.step {a b done : List Nat} {i c s : Nat} (h : SumI a b i c done) (ha : Lim 4294967296 a) (hb : Lim 4294967296 b) (hs : s = c + (a.getD i 0 + b.getD i 0)) : SumI a b (i + 1) (s / 4294967296) (done ++ [s % 4294967296]) := by
  obtain ⟨h1, h2, h3, h4⟩ := h
  have ga := ha.getD (by omega) i
  have gb := hb.getD (by omega) i
  refine ⟨by simp [h1], lim_snoc h2 (Nat.mod_lt _ (by omega)), by omega, ?_⟩
  rw [val_snoc, val_take, val_take, h1, Nat.pow_succ]
  have e := Nat.mod_add_div s 4294967296
  have : 4294967296 ^ i * (s % 4294967296) + 4294967296 ^ i * 4294967296 * (s / 4294967296) = 4294967296 ^ i * s := by rw [Nat.mul_assoc, ← Nat.mul_add, e]
  rw [Nat.add_assoc, this, hs]
  simp only [Nat.mul_add]
  omega
theorem SumI.end {a b done : List Nat} {i : Nat} (h : SumI a b i 0 done) (ha : a.length ≤ i) (hb : b.length ≤ i) : val 4294967296 done = val 4294967296 a + val 4294967296 b := by
  have h4 := h.2.2.2
  rw [List.take_of_length_le ha, List.take_of_length_le hb] at h4
  omega
/-- Differences, limb by limb. -/
def DifI (a b : List Nat) (i c : Nat) (done : List Nat) : Prop := done.length = i ∧ Lim 4294967296 done ∧ c ≤ 1 ∧ val 4294967296 (a.take i) + 4294967296 ^ i * c = val 4294967296 done + val 4294967296 (b.take i)
theorem DifI.zero (a b : List Nat) : DifI a b 0 0 [] := ⟨rfl, Lim.nil _, by omega, by simp [val]⟩
theorem DifI.step {a b done : List Nat} {i c x c' : Nat} (h : DifI a b i c done) (hx : x < 4294967296) (hc' : c' ≤ 1) (hs : a.getD i 0 + 4294967296 * c' = x + (b.getD i 0 + c)) : DifI a b (i + 1) c' (done ++ [x]) := by
  obtain ⟨h1, h2, h3, h4⟩ := h
  refine ⟨by simp [h1], lim_snoc h2 hx, hc', ?_⟩
  rw [val_snoc, val_take, val_take, h1, Nat.pow_succ]
  have e : 4294967296 ^ i * (a.getD i 0 + 4294967296 * c') = 4294967296 ^ i * (x + (b.getD i 0 + c)) := by rw [hs]
  simp only [Nat.mul_add] at e
  rw [Nat.mul_assoc]
  omega
theorem DifI.end {a b done : List Nat} {c : Nat} (h : DifI a b a.length c done) (ha : Lim 4294967296 a) (hab : val 4294967296 b ≤ val 4294967296 a) : val 4294967296 done = val 4294967296 a - val 4294967296 b := by
  obtain ⟨h1, h2, h3, h4⟩ := h
  have l1 := val_lt ha
  have l2 := val_lt h2
  rw [h1] at l2
  have hb := val_cut (B := 4294967296) b a.length
  rw [List.take_of_length_le (Nat.le_refl _)] at h4
  have hz : val 4294967296 (b.drop a.length) = 0 := by
    rcases Nat.eq_zero_or_pos (val 4294967296 (b.drop a.length)) with e | e
    · exact e
    · have : 4294967296 ^ a.length * 1 ≤ 4294967296 ^ a.length * val 4294967296 (b.drop a.length) := Nat.mul_le_mul_left _ e
      omega
  rw [hz] at hb
  have hc : c = 0 := by
    rcases Nat.eq_zero_or_pos c with e | e
    · exact e
    · obtain rfl : c = 1 := by omega
      omega
  subst hc
  omega
end Go.Proofs.YtipbcjnniamcgaaDoor.Ma
