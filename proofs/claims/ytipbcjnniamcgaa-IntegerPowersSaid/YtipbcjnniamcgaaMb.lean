/- Plain numbers: a step of each of the limbs' loops. -/
import Derived.Test.YtipbcjnniamcgaaMa
namespace Go.Proofs.Ytipbcjnniamcgaa.Ma
set_option linter.unusedSimpArgs false
set_option linter.unusedVariables false

theorem getD_beyond {l : List Nat} {i : Nat} (h : l.length ≤ i) : l.getD i 0 = 0 := by rw [List.getD_eq_getElem?_getD, List.getElem?_eq_none h]; rfl

/-- Adding up to place i. -/
def AddI (a b : List Nat) (i c : Nat) (done : List Nat) : Prop :=
  done.length = i ∧ Lim 4294967296 done ∧ c ≤ 1 ∧ val 4294967296 done + 4294967296 ^ i * c = val 4294967296 (a.take i) + val 4294967296 (b.take i)
theorem AddI.zero (a b : List Nat) : AddI a b 0 0 [] := ⟨rfl, Lim.nil _, by omega, by simp [val]⟩
theorem AddI.step {a b done : List Nat} {i c s : Nat} (h : AddI a b i c done) (ha : Lim 4294967296 a) (hb : Lim 4294967296 b) (hs : s = c + a.getD i 0 + b.getD i 0) : AddI a b (i + 1) (s / 2 ^ 32) (done ++ [s % 4294967296]) := by
  obtain ⟨h2, h3, h4, h5⟩ := h
  have hx := ha.getD (by omega) i
  have hy := hb.getD (by omega) i
  refine ⟨by simp [h2], lim_snoc h3 (Nat.mod_lt _ (by omega)), by omega, ?_⟩
  show val 4294967296 (done ++ [s % 4294967296]) + 4294967296 ^ (i + 1) * (s / 4294967296) = _
  rw [val_snoc, h2, Nat.pow_succ, carry_step (B := 4294967296) (c := 0) rfl, val_take, val_take, hs, Nat.mul_add, Nat.mul_add, ← Nat.add_assoc, ← Nat.add_assoc, h5]
  omega
theorem AddI.end {a b done : List Nat} {c : Nat} (h : AddI a b a.length c done) (hab : b.length ≤ a.length) : tr (done ++ [c]) = digs 4294967296 (val 4294967296 a + val 4294967296 b) := by
  obtain ⟨h2, h3, h4, h5⟩ := h
  rw [tr_digs (by omega) (lim_snoc h3 (by omega)), val_snoc, h2, h5, val_take_all _ _ _ (Nat.le_refl _), val_take_all _ _ _ hab]

/-- Taking away up to place i. -/
def SubI (a b : List Nat) (i c : Nat) (done : List Nat) : Prop :=
  done.length = i ∧ Lim 4294967296 done ∧ c ≤ 1 ∧ val 4294967296 done + val 4294967296 (b.take i) = val 4294967296 (a.take i) + 4294967296 ^ i * c
theorem SubI.zero (a b : List Nat) : SubI a b 0 0 [] := ⟨rfl, Lim.nil _, by omega, by simp [val]⟩
theorem SubI.step {a b done : List Nat} {i c y d : Nat} (h : SubI a b i c done) (ha : Lim 4294967296 a) (hb : Lim 4294967296 b) (hy : y = c + b.getD i 0) (hd : d = (a.getD i 0 + 18446744073709551616 - y) % 18446744073709551616) :
    SubI a b (i + 1) (d / 2 ^ 32 % 2) (done ++ [d % 4294967296]) := by
  obtain ⟨h2, h3, h4, h5⟩ := h
  have hx := ha.getD (by omega) i
  have hy' := hb.getD (by omega) i
  refine ⟨by simp [h2], lim_snoc h3 (Nat.mod_lt _ (by omega)), by omega, ?_⟩
  have key : d % 4294967296 + y = a.getD i 0 + 4294967296 * (d / 2 ^ 32 % 2) := by omega
  rw [val_snoc, h2, val_take, val_take, Nat.pow_succ]
  have e : 4294967296 ^ i * (d % 4294967296) + 4294967296 ^ i * y = 4294967296 ^ i * a.getD i 0 + 4294967296 ^ i * 4294967296 * (d / 2 ^ 32 % 2) := by
    rw [← Nat.mul_add, key, Nat.mul_add, Nat.mul_assoc]
  rw [hy, Nat.mul_add] at e
  omega
theorem SubI.end {a b done : List Nat} {c : Nat} (h : SubI a b a.length c done) (ha : Lim 4294967296 a) (hab : val 4294967296 b ≤ val 4294967296 a) : tr done = digs 4294967296 (val 4294967296 a - val 4294967296 b) := by
  obtain ⟨h2, h3, h4, h5⟩ := h
  have hlt := val_lt h3
  rw [h2] at hlt
  rw [val_take_all _ a _ (Nat.le_refl _)] at h5
  -- what is taken away ends within a's length
  have hb' : val 4294967296 (b.take a.length) = val 4294967296 b := by
    by_cases hl : b.length ≤ a.length
    · exact val_take_all _ _ _ hl
    · have h6 := val_split 4294967296 b a.length (by omega)
      have h7 := val_lt ha
      rcases Nat.eq_zero_or_pos (val 4294967296 (b.drop a.length)) with e | e
      · rw [e] at h6; omega
      · have : 4294967296 ^ a.length * 1 ≤ 4294967296 ^ a.length * val 4294967296 (b.drop a.length) := Nat.mul_le_mul_left _ e
        omega
  rw [hb'] at h5
  have hc : c = 0 := by
    rcases Nat.eq_zero_or_pos c with e | e
    · exact e
    · have : c = 1 := by omega
      subst this
      have := val_lt ha
      omega
  subst hc
  rw [tr_digs (by omega) h3]
  congr 1; omega

/-- Multiplying: rows up to i done; in row i, places up to k. The row 'out' as a whole. -/
def MulI (a b : List Nat) (i : Nat) (out : List Nat) : Prop :=
  out.length = a.length + b.length ∧ Lim 4294967296 out ∧ val 4294967296 out = val 4294967296 (a.take i) * val 4294967296 b ∧ ∀ j, i + b.length ≤ j → out.getD j 0 = 0
def MulK (a b : List Nat) (i k c : Nat) (out : List Nat) : Prop :=
  out.length = a.length + b.length ∧ Lim 4294967296 out ∧ c < 4294967296 ∧ val 4294967296 out + 4294967296 ^ (i + k) * c = val 4294967296 (a.take i) * val 4294967296 b + 4294967296 ^ i * (a.getD i 0 * val 4294967296 (b.take k)) ∧ ∀ j, i + b.length ≤ j → out.getD j 0 = 0
theorem val_set {B : Nat} : ∀ {l : List Nat} {i : Nat} (x : Nat), i < l.length → val B (l.set i x) + B ^ i * l.getD i 0 = val B l + B ^ i * x
  | [], i, x, h => by simp at h
  | y :: r, 0, x, _ => by simp [val]; omega
  | y :: r, i + 1, x, h => by
    have ih := val_set (B := B) (l := r) (i := i) x (by simpa using h)
    simp only [List.set_cons_succ, val, Nat.pow_succ]
    rw [show (y :: r).getD (i + 1) 0 = r.getD i 0 by simp]
    have e : B * (val B (r.set i x) + B ^ i * r.getD i 0) = B * (val B r + B ^ i * x) := by rw [ih]
    rw [Nat.mul_add, Nat.mul_add, ← Nat.mul_assoc, ← Nat.mul_assoc, Nat.mul_comm B (B ^ i)] at e
    omega
theorem lim_set {B : Nat} {l : List Nat} (h : Lim B l) (i x : Nat) (hx : x < B) : Lim B (l.set i x) := fun y hy => by
  rcases List.mem_or_eq_of_mem_set hy with h1 | h1
  · exact h y h1
  · rw [h1]; exact hx
theorem getD_set {l : List Nat} {i j x : Nat} : (l.set i x).getD j 0 = if i = j ∧ j < l.length then x else l.getD j 0 := by
  rw [List.getD_eq_getElem?_getD, List.getElem?_set, List.getD_eq_getElem?_getD]
  by_cases e : i = j
  · subst e
    by_cases h : i < l.length
    · simp [h]
    · simp [h]
  · simp [e]
theorem MulI.zero (a b : List Nat) : MulI a b 0 (List.replicate (a.length + b.length) 0) :=
  ⟨by simp, lim_zeros (by omega) _, by rw [val_zeros]; simp [val], fun j _ => by
    rw [List.getD_eq_getElem?_getD, List.getElem?_replicate]; split <;> rfl⟩
theorem MulK.start {a b out : List Nat} {i : Nat} (h : MulI a b i out) : MulK a b i 0 0 out := by
  obtain ⟨h1, h2, h3, h4⟩ := h
  exact ⟨h1, h2, by omega, by simp [val, h3], h4⟩
theorem mul_bound {x y c o : Nat} (hx : x < 4294967296) (hy : y < 4294967296) (hc : c < 4294967296) (ho : o < 4294967296) : c + (x * y + o) < 18446744073709551616 := by
  have : x * y ≤ 4294967295 * 4294967295 := Nat.mul_le_mul (by omega) (by omega)
  omega
theorem MulK.step {a b out : List Nat} {i k c s : Nat} (h : MulK a b i k c out) (hi : i < a.length) (hk : k < b.length) (ha : Lim 4294967296 a) (hb : Lim 4294967296 b) (hs : s = c + (a.getD i 0 * b.getD k 0 + out.getD (i + k) 0)) :
    MulK a b i (k + 1) (s / 2 ^ 32) (out.set (i + k) (s % 4294967296)) := by
  obtain ⟨h1, h2, h3, h4, h5⟩ := h
  have hs2 : s < 18446744073709551616 := hs ▸ mul_bound (ha.getD (by omega) i) (hb.getD (by omega) k) h3 (h2.getD (by omega) _)
  refine ⟨by simpa using h1, lim_set h2 _ _ (Nat.mod_lt _ (by omega)), by omega, ?_, fun j hj => ?_⟩
  · have e := val_set (B := 4294967296) (l := out) (i := i + k) (s % 4294967296) (by omega)
    rw [val_take, show (2 : Nat) ^ 32 = 4294967296 from rfl]
    have e2 : 4294967296 ^ (i + k) * (s % 4294967296) + 4294967296 ^ (i + (k + 1)) * (s / 4294967296) = 4294967296 ^ (i + k) * s := by
      rw [← Nat.add_assoc, Nat.pow_succ, Nat.mul_assoc, ← Nat.mul_add, Nat.mod_add_div]
    have e3 : 4294967296 ^ (i + k) * s = 4294967296 ^ (i + k) * c + (4294967296 ^ i * (a.getD i 0 * (4294967296 ^ k * b.getD k 0)) + 4294967296 ^ (i + k) * out.getD (i + k) 0) := by
      rw [hs, Nat.mul_add, Nat.mul_add, Nat.pow_add]
      congr 2
      rw [Nat.mul_assoc, Nat.mul_left_comm (4294967296 ^ k)]
    rw [Nat.mul_add (a.getD i 0), Nat.mul_add (4294967296 ^ i)]
    omega
  · rw [getD_set, if_neg (by omega)]; exact h5 j hj
theorem MulK.end {a b out : List Nat} {i c : Nat} (h : MulK a b i b.length c out) (hi : i < a.length) : MulI a b (i + 1) (out.set (i + b.length) c) := by
  obtain ⟨h1, h2, h3, h4, h5⟩ := h
  refine ⟨by simpa using h1, lim_set h2 _ _ h3, ?_, fun j hj => ?_⟩
  · have e := val_set (B := 4294967296) (l := out) (i := i + b.length) c (by omega)
    rw [h5 _ (Nat.le_refl _), Nat.mul_zero, Nat.add_zero] at e
    rw [val_take_all 4294967296 b _ (Nat.le_refl _)] at h4
    rw [e, h4, val_take, Nat.add_mul, Nat.mul_assoc]
  · rw [getD_set, if_neg (by omega)]; exact h5 j (by omega)
theorem MulI.end {a b out : List Nat} (h : MulI a b a.length out) : tr out = digs 4294967296 (val 4294967296 a * val 4294967296 b) := by
  obtain ⟨h1, h2, h3, _⟩ := h
  rw [tr_digs (by omega) h2, h3, val_take_all _ _ _ (Nat.le_refl _)]

/-- Dividing by one limb: the places from k on are done; r is left. -/
def DivI (a : List Nat) (d k r : Nat) (out : List Nat) : Prop :=
  out.length = a.length ∧ Lim 4294967296 out ∧ r < d ∧ val 4294967296 (a.drop k) = val 4294967296 (out.drop k) * d + r
theorem DivI.zero (a : List Nat) {d : Nat} (hd : 0 < d) : DivI a d a.length 0 (List.replicate a.length 0) :=
  ⟨by simp, lim_zeros (by omega) _, hd, by rw [List.drop_of_length_le (Nat.le_refl _), List.drop_of_length_le (by simp)]; simp [val]⟩
theorem val_drop (B : Nat) {l : List Nat} {k : Nat} (h : k < l.length) : val B (l.drop k) = l.getD k 0 + B * val B (l.drop (k + 1)) := by
  rw [List.drop_eq_getElem_cons h, val, List.getD_eq_getElem?_getD, List.getElem?_eq_getElem h]; rfl
theorem drop_set (l : List Nat) (k x : Nat) : (l.set k x).drop (k + 1) = l.drop (k + 1) := by
  apply List.ext_getElem?
  intro i
  rw [List.getElem?_drop, List.getElem?_drop, List.getElem?_set_ne (by omega)]
theorem DivI.step {a out : List Nat} {d k r s : Nat} (h : DivI a d (k + 1) r out) (hk : k < a.length) (ha : Lim 4294967296 a) (hd : d < 4294967296) (hs : s = r * 2 ^ 32 + a.getD k 0) :
    DivI a d k (s % d) (out.set k (s / d % 4294967296)) := by
  obtain ⟨h1, h2, h3, h4⟩ := h
  have hx := ha.getD (by omega) k
  have hq : s / d < 4294967296 := by
    apply Nat.div_lt_of_lt_mul
    rw [hs]
    have : r + 1 ≤ d := h3
    have : (r + 1) * 4294967296 ≤ d * 4294967296 := Nat.mul_le_mul_right _ this
    omega
  refine ⟨by simpa using h1, lim_set h2 _ _ (Nat.mod_lt _ (by omega)), Nat.mod_lt _ (by omega), ?_⟩
  rw [Nat.mod_eq_of_lt hq, val_drop _ hk, h4, val_drop _ (show k < (out.set k (s / d)).length by simp; omega), drop_set, getD_set, if_pos ⟨rfl, by omega⟩]
  have e := Nat.div_add_mod s d
  rw [Nat.add_mul, Nat.mul_comm (s / d) d, Nat.mul_add, Nat.mul_assoc]
  omega
theorem DivI.end {a out : List Nat} {d r : Nat} (h : DivI a d 0 r out) : tr out = digs 4294967296 (val 4294967296 a / d) ∧ r = val 4294967296 a % d := by
  obtain ⟨h1, h2, h3, h4⟩ := h
  rw [List.drop_zero, List.drop_zero] at h4
  rw [tr_digs (by omega) h2, h4, Nat.mul_comm, Nat.mul_add_div (by omega), Nat.mul_add_mod, Nat.div_eq_of_lt h3, Nat.mod_eq_of_lt h3, Nat.add_zero]
  exact ⟨rfl, rfl⟩
end Go.Proofs.Ytipbcjnniamcgaa.Ma
