/- Plain numbers: the reference's digits to the base 65536. -/
import Derived.Test.YtipbcjnniamcgaaMb
namespace Go.Proofs.Ytipbcjnniamcgaa.Ma
set_option linter.unusedSimpArgs false
set_option linter.unusedVariables false

/-- Multiplying: rows up to i done; in row i, places up to k. The row 'out' as a whole. -/
def MulJ (a b : List Nat) (i : Nat) (out : List Nat) : Prop :=
  out.length = a.length + b.length + 1 ∧ Lim 65536 out ∧ val 65536 out = val 65536 (a.take i) * val 65536 b ∧ ∀ j, i + b.length ≤ j → out.getD j 0 = 0
def MulH (a b : List Nat) (i k c : Nat) (out : List Nat) : Prop :=
  out.length = a.length + b.length + 1 ∧ Lim 65536 out ∧ c < 65536 ∧ val 65536 out + 65536 ^ (i + k) * c = val 65536 (a.take i) * val 65536 b + 65536 ^ i * (a.getD i 0 * val 65536 (b.take k)) ∧ ∀ j, i + b.length ≤ j → out.getD j 0 = 0
theorem MulJ.zero (a b : List Nat) : MulJ a b 0 (List.replicate (a.length + b.length + 1) 0) :=
  ⟨by simp, lim_zeros (by omega) _, by rw [val_zeros]; simp [val], fun j _ => by
    rw [List.getD_eq_getElem?_getD, List.getElem?_replicate]; split <;> rfl⟩
theorem MulH.start {a b out : List Nat} {i : Nat} (h : MulJ a b i out) : MulH a b i 0 0 out := by
  obtain ⟨h1, h2, h3, h4⟩ := h
  exact ⟨h1, h2, by omega, by simp [val, h3], h4⟩
theorem mul_bound16 {x y c o : Nat} (hx : x < 65536) (hy : y < 65536) (hc : c < 65536) (ho : o < 65536) : c + (x * y + o) < 4294967296 := by
  have : x * y ≤ 65535 * 65535 := Nat.mul_le_mul (by omega) (by omega)
  omega
theorem MulH.step {a b out : List Nat} {i k c s : Nat} (h : MulH a b i k c out) (hi : i < a.length) (hk : k < b.length) (ha : Lim 65536 a) (hb : Lim 65536 b) (hs : s = c + (a.getD i 0 * b.getD k 0 + out.getD (i + k) 0)) :
    MulH a b i (k + 1) (s / 65536) (out.set (i + k) (s % 65536)) := by
  obtain ⟨h1, h2, h3, h4, h5⟩ := h
  have hs2 : s < 4294967296 := hs ▸ mul_bound16 (ha.getD (by omega) i) (hb.getD (by omega) k) h3 (h2.getD (by omega) _)
  refine ⟨by simpa using h1, lim_set h2 _ _ (Nat.mod_lt _ (by omega)), by omega, ?_, fun j hj => ?_⟩
  · have e := val_set (B := 65536) (l := out) (i := i + k) (s % 65536) (by omega)
    rw [val_take]
    have e2 : 65536 ^ (i + k) * (s % 65536) + 65536 ^ (i + (k + 1)) * (s / 65536) = 65536 ^ (i + k) * s := by
      rw [← Nat.add_assoc, Nat.pow_succ, Nat.mul_assoc, ← Nat.mul_add, Nat.mod_add_div]
    have e3 : 65536 ^ (i + k) * s = 65536 ^ (i + k) * c + (65536 ^ i * (a.getD i 0 * (65536 ^ k * b.getD k 0)) + 65536 ^ (i + k) * out.getD (i + k) 0) := by
      rw [hs, Nat.mul_add, Nat.mul_add, Nat.pow_add]
      congr 2
      rw [Nat.mul_assoc, Nat.mul_left_comm (65536 ^ k)]
    rw [Nat.mul_add (a.getD i 0), Nat.mul_add (65536 ^ i)]
    omega
  · rw [getD_set, if_neg (by omega)]; exact h5 j hj
theorem MulH.end {a b out : List Nat} {i c : Nat} (h : MulH a b i b.length c out) (hi : i < a.length) : MulJ a b (i + 1) (out.set (i + b.length) c) := by
  obtain ⟨h1, h2, h3, h4, h5⟩ := h
  refine ⟨by simpa using h1, lim_set h2 _ _ h3, ?_, fun j hj => ?_⟩
  · have e := val_set (B := 65536) (l := out) (i := i + b.length) c (by omega)
    rw [h5 _ (Nat.le_refl _), Nat.mul_zero, Nat.add_zero] at e
    rw [val_take_all 65536 b _ (Nat.le_refl _)] at h4
    rw [e, h4, val_take, Nat.add_mul, Nat.mul_assoc]
  · rw [getD_set, if_neg (by omega)]; exact h5 j (by omega)
theorem MulJ.end {a b out : List Nat} (h : MulJ a b a.length out) : tr out = digs 65536 (val 65536 a * val 65536 b) := by
  obtain ⟨h1, h2, h3, _⟩ := h
  rw [tr_digs (by omega) h2, h3, val_take_all _ _ _ (Nat.le_refl _)]

/-- A row without a high nought is the row of its digits. -/
theorem digs_of {B : Nat} (hB : 2 ≤ B) {l : List Nat} (h : Lim B l) (h0 : l = [] ∨ l.getD (l.length - 1) 0 ≠ 0) : l = digs B (val B l) := by
  have := tr_take (l := l) (n := l.length) (Nat.le_refl _) (fun i h1 h2 => by omega) (by
    rcases h0 with e | e
    · left; rw [e]; rfl
    · exact .inr e)
  rw [List.take_of_length_le (Nat.le_refl _)] at this
  rw [← tr_digs hB h]; exact this
/-- .. filled up with noughts. -/
def pad (B n k : Nat) : List Nat := digs B n ++ List.replicate (k - (digs B n).length) 0
theorem pad_of {B : Nat} (hB : 2 ≤ B) {l : List Nat} (h : Lim B l) : l = pad B (val B l) l.length := by
  obtain ⟨j, e⟩ := tr_pre l
  unfold pad
  rw [← tr_digs hB h]
  have : j = l.length - (tr l).length := by
    have := congrArg List.length e
    simp at this; omega
  rw [← this]; exact e
theorem pad_lim {B n k : Nat} (hB : 2 ≤ B) : Lim B (pad B n k) := (lim_digs hB n).append (lim_zeros (by omega) _)
theorem pad_val {B n k : Nat} (hB : 2 ≤ B) : val B (pad B n k) = n := by unfold pad; rw [val_app_zeros, val_digs hB]
theorem pad_len {B n k : Nat} (h : (digs B n).length ≤ k) : (pad B n k).length = k := by unfold pad; simp; omega

/-- Of a limb two digits. -/
def MakeI (l : List Nat) (i : Nat) (done : List Nat) : Prop := done.length = 2 * i ∧ Lim 65536 done ∧ val 65536 done = val 4294967296 (l.take i)
theorem MakeI.zero (l : List Nat) : MakeI l 0 [] := ⟨rfl, Lim.nil _, by simp [val]⟩
theorem MakeI.step {l done : List Nat} {i : Nat} (h : MakeI l i done) (hl : Lim 4294967296 l) : MakeI l (i + 1) (done ++ [l.getD i 0 % 65536, l.getD i 0 / 65536]) := by
  obtain ⟨h1, h2, h3⟩ := h
  have hx := hl.getD (by omega) i
  refine ⟨by simp [h1]; omega, h2.append (Lim.cons (Nat.mod_lt _ (by omega)) (Lim.one (by omega))), ?_⟩
  rw [val_append, h3, h1, val_take, Nat.pow_mul]
  congr 2
  simp only [val]
  omega
/-- Of two digits a limb. -/
def LimbsI (d : List Nat) (k : Nat) (done : List Nat) : Prop := done.length = k ∧ Lim 4294967296 done ∧ val 4294967296 done = val 65536 (d.take (2 * k)) ∧ ∀ j, j < k → done.getD j 0 = d.getD (2 * j) 0 + 65536 * d.getD (2 * j + 1) 0
theorem LimbsI.zero (d : List Nat) : LimbsI d 0 [] := ⟨rfl, Lim.nil _, by simp [val], fun j h => by omega⟩
theorem getD_snoc (l : List Nat) (x j : Nat) : (l ++ [x]).getD j 0 = if j < l.length then l.getD j 0 else if j = l.length then x else 0 := by
  rw [List.getD_eq_getElem?_getD, List.getElem?_append]
  split
  · rfl
  · split
    · rename_i h; subst h; simp
    · rw [List.getElem?_eq_none (by simp; omega)]; rfl
theorem LimbsI.step {d done : List Nat} {k x : Nat} (h : LimbsI d k done) (hd : Lim 65536 d) (hx : x = d.getD (2 * k) 0 + 65536 * d.getD (2 * k + 1) 0) : LimbsI d (k + 1) (done ++ [x]) := by
  obtain ⟨h1, h2, h3, h4⟩ := h
  have a := hd.getD (by omega) (2 * k)
  have b := hd.getD (by omega) (2 * k + 1)
  refine ⟨by simp [h1], lim_snoc h2 (by omega), ?_, fun j hj => ?_⟩
  · rw [val_snoc, h3, h1, show 2 * (k + 1) = 2 * k + 1 + 1 by omega, val_take, val_take, hx, Nat.pow_succ, Nat.pow_mul, Nat.mul_add, Nat.mul_assoc, Nat.add_assoc]
  · rw [getD_snoc]
    by_cases e : j < done.length
    · rw [if_pos e]; exact h4 j (by omega)
    · rw [if_neg e, if_pos (by omega), hx, show j = k by omega]
theorem LimbsI.end {n k : Nat} {done : List Nat} (h : LimbsI (digs 65536 n) k done) (h0 : (digs 65536 n).length ≤ 2 * k) (h1 : 2 * k ≤ (digs 65536 n).length + 1) : done = digs 4294967296 n := by
  obtain ⟨g1, g2, g3, g4⟩ := h
  have e : val 4294967296 done = n := by rw [g3, val_take_all _ _ _ h0, val_digs (by omega)]
  rw [← e]
  rcases Nat.eq_zero_or_pos n with hz | hz
  · subst hz
    rw [digs_zero] at h1
    have : done = [] := List.eq_nil_of_length_eq_zero (by simp at h1; omega)
    subst this; simp [val, digs_zero]
  · refine digs_of (by omega) g2 (.inr ?_)
    have hl := digs_last (B := 65536) (by omega) hz
    have hp : 0 < (digs 65536 n).length := by rw [digs_pos (by omega) hz]; simp
    rw [g4 _ (by omega)]
    rw [g1]
    rcases Nat.lt_or_ge ((digs 65536 n).length - 1) (2 * (k - 1) + 1) with h | h
    · rw [show (digs 65536 n).length - 1 = 2 * (k - 1) by omega] at hl; omega
    · rw [show (digs 65536 n).length - 1 = 2 * (k - 1) + 1 by omega] at hl; omega

/-- The reference's sum. -/
def PlusI (a b : List Nat) (i c : Nat) (done : List Nat) : Prop :=
  done.length = i ∧ Lim 65536 done ∧ c ≤ 1 ∧ val 65536 done + 65536 ^ i * c = val 65536 (a.take i) + val 65536 (b.take i) ∧ (a.length ≤ i → b.length ≤ i → c = 0 → done = [] ∨ done.getD (i - 1) 0 ≠ 0)
theorem PlusI.zero (a b : List Nat) : PlusI a b 0 0 [] := ⟨rfl, Lim.nil _, by omega, by simp [val], fun _ _ _ => .inl rfl⟩
theorem PlusI.step {m n i c s : Nat} {done : List Nat} (h : PlusI (digs 65536 m) (digs 65536 n) i c done) (hc : i < (digs 65536 m).length ∨ i < (digs 65536 n).length ∨ 0 < c) (hs : s = c + (digs 65536 m).getD i 0 + (digs 65536 n).getD i 0) :
    PlusI (digs 65536 m) (digs 65536 n) (i + 1) (s / 65536) (done ++ [s % 65536]) := by
  obtain ⟨h1, h2, h3, h4, h5⟩ := h
  have ha := (lim_digs (B := 65536) (by omega) m).getD (by omega) i
  have hb := (lim_digs (B := 65536) (by omega) n).getD (by omega) i
  refine ⟨by simp [h1], lim_snoc h2 (Nat.mod_lt _ (by omega)), by omega, ?_, fun g1 g2 g3 => .inr ?_⟩
  · rw [val_snoc, h1, Nat.pow_succ, carry_step (B := 65536) (c := 0) rfl, val_take, val_take, hs, Nat.mul_add, Nat.mul_add, ← Nat.add_assoc, ← Nat.add_assoc, h4]
    omega
  · rw [getD_snoc, if_neg (by omega), if_pos (by omega)]
    have top : ∀ p, i < (digs 65536 p).length → (digs 65536 p).length ≤ i + 1 → (digs 65536 p).getD i 0 ≠ 0 := by
      intro p q1 q2
      have hp : 0 < p := by rcases Nat.eq_zero_or_pos p with e | e; · subst e; rw [digs_zero] at q1; simp at q1
                            · exact e
      have := digs_last (B := 65536) (by omega) hp
      rwa [show (digs 65536 p).length - 1 = i by omega] at this
    rcases hc with q | q | q
    · have := top m q g1; omega
    · have := top n q g2; omega
    · omega
theorem PlusI.end {m n i : Nat} {done : List Nat} (h : PlusI (digs 65536 m) (digs 65536 n) i 0 done) (ha : (digs 65536 m).length ≤ i) (hb : (digs 65536 n).length ≤ i) : done = digs 65536 (m + n) := by
  obtain ⟨h1, h2, h3, h4, h5⟩ := h
  rw [val_take_all _ _ _ ha, val_take_all _ _ _ hb, val_digs (by omega), val_digs (by omega), Nat.mul_zero, Nat.add_zero] at h4
  rw [← h4]
  refine digs_of (by omega) h2 ?_
  rw [h1]; exact h5 ha hb rfl

/-- The reference's difference. -/
def MinI (a b : List Nat) (i c : Nat) (done : List Nat) : Prop :=
  done.length = i ∧ Lim 65536 done ∧ c ≤ 1 ∧ val 65536 done + val 65536 (b.take i) = val 65536 (a.take i) + 65536 ^ i * c
theorem MinI.zero (a b : List Nat) : MinI a b 0 0 [] := ⟨rfl, Lim.nil _, by omega, by simp [val]⟩
theorem MinI.step {a b done : List Nat} {i c c' y d : Nat} (h : MinI a b i c done) (hd : d < 65536) (hy : y = c + b.getD i 0) (hc : c' ≤ 1) (key : d + y = a.getD i 0 + 65536 * c') : MinI a b (i + 1) c' (done ++ [d]) := by
  obtain ⟨h2, h3, h4, h5⟩ := h
  refine ⟨by simp [h2], lim_snoc h3 hd, hc, ?_⟩
  rw [val_snoc, h2, val_take, val_take, Nat.pow_succ]
  have e : 65536 ^ i * d + 65536 ^ i * y = 65536 ^ i * a.getD i 0 + 65536 ^ i * 65536 * c' := by
    rw [← Nat.mul_add, key, Nat.mul_add, Nat.mul_assoc]
  rw [hy, Nat.mul_add] at e
  omega
theorem MinI.end {a b done : List Nat} {c : Nat} (h : MinI a b a.length c done) (ha : Lim 65536 a) (hl : b.length ≤ a.length) (hab : val 65536 b ≤ val 65536 a) : done = pad 65536 (val 65536 a - val 65536 b) a.length := by
  obtain ⟨h2, h3, h4, h5⟩ := h
  have hlt := val_lt h3
  rw [h2] at hlt
  rw [val_take_all _ a _ (Nat.le_refl _), val_take_all _ b _ hl] at h5
  have hc : c = 0 := by
    rcases Nat.eq_zero_or_pos c with e | e
    · exact e
    · have : c = 1 := by omega
      subst this
      have := val_lt ha
      omega
  subst hc
  have e : val 65536 done = val 65536 a - val 65536 b := by omega
  rw [← e, ← h2]
  exact pad_of (by omega) h3
end Go.Proofs.Ytipbcjnniamcgaa.Ma
