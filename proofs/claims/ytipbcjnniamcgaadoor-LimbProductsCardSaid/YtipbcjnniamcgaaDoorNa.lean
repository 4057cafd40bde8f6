/- Plain numbers: rows of digits, their sums, products, quotients; no program in sight. -/
/- Plain numbers: digits to a base and what they are worth. -/
namespace Go.Proofs.YtipbcjnniamcgaaDoor.Ma
set_option linter.unusedSimpArgs false
set_option linter.unusedVariables false

/-- What a row of digits is worth. -/
def val (B : Nat) : List Nat → Nat
  | [] => 0
  | x :: r => x + B * val B r

/-- Digits below the base. -/
def Lim (B : Nat) (l : List Nat) : Prop := ∀ x, x ∈ l → x < B

/-- The digits of a number, low one first, no high noughts. -/
def digs (B : Nat) (n : Nat) : List Nat := if h : n = 0 ∨ B < 2 then [] else n % B :: digs B (n / B)
termination_by n
decreasing_by exact Nat.div_lt_self (by omega) (by omega)

/-- Without high noughts. -/
def tr : List Nat → List Nat
  | [] => []
  | x :: r => match tr r with
    | [] => if x = 0 then [] else [x]
    | y :: t => x :: y :: t

theorem digs_zero (B : Nat) : digs B 0 = [] := by rw [digs]; simp
theorem digs_pos {B n : Nat} (hB : 2 ≤ B) (hn : 0 < n) : digs B n = n % B :: digs B (n / B) := by
  rw [digs, dif_neg (by omega)]
theorem digs_nil {B n : Nat} (hB : 2 ≤ B) : digs B n = [] ↔ n = 0 := by
  constructor
  · intro h
    rcases Nat.eq_zero_or_pos n with e | e
    · exact e
    · rw [digs_pos hB e] at h; cases h
  · rintro rfl; exact digs_zero B

theorem Lim.tail {B x : Nat} {l : List Nat} (h : Lim B (x :: l)) : Lim B l := fun y hy => h y (List.mem_cons_of_mem _ hy)
theorem Lim.head {B x : Nat} {l : List Nat} (h : Lim B (x :: l)) : x < B := h x (List.mem_cons_self)
theorem Lim.take {B : Nat} {l : List Nat} (h : Lim B l) (n : Nat) : Lim B (l.take n) := fun y hy => h y (List.mem_of_mem_take hy)
theorem Lim.drop {B : Nat} {l : List Nat} (h : Lim B l) (n : Nat) : Lim B (l.drop n) := fun y hy => h y (List.mem_of_mem_drop hy)
theorem Lim.append {B : Nat} {l m : List Nat} (h : Lim B l) (k : Lim B m) : Lim B (l ++ m) := fun y hy => (List.mem_append.1 hy).elim (h y) (k y)
theorem Lim.getD {B : Nat} {l : List Nat} (hB : 0 < B) (h : Lim B l) (i : Nat) : l.getD i 0 < B := by
  rw [List.getD_eq_getElem?_getD]
  cases e : l[i]? with
  | none => simpa using hB
  | some x => exact h x (List.mem_of_getElem? e)
theorem Lim.get {B : Nat} {l : List Nat} (h : Lim B l) (i : Nat) (hi : i < l.length) : l[i] < B := h _ (List.getElem_mem hi)
theorem Lim.nil (B : Nat) : Lim B [] := fun _ h => by cases h
theorem Lim.one {B x : Nat} (h : x < B) : Lim B [x] := fun y hy => by rw [List.mem_singleton.1 hy]; exact h
theorem Lim.cons {B x : Nat} {l : List Nat} (h : x < B) (k : Lim B l) : Lim B (x :: l) := fun y hy => (List.mem_cons.1 hy).elim (fun e => e ▸ h) (k y)

theorem val_digs {B : Nat} (hB : 2 ≤ B) (n : Nat) : val B (digs B n) = n := by
  induction n using Nat.strongRecOn with
  | _ n ih =>
    rcases Nat.eq_zero_or_pos n with e | e
    · subst e; rw [digs_zero]; rfl
    · rw [digs_pos hB e, val, ih _ (Nat.div_lt_self e (by omega))]
      exact Nat.mod_add_div n B
theorem lim_digs {B : Nat} (hB : 2 ≤ B) (n : Nat) : Lim B (digs B n) := by
  induction n using Nat.strongRecOn with
  | _ n ih =>
    rcases Nat.eq_zero_or_pos n with e | e
    · subst e; rw [digs_zero]; exact Lim.nil B
    · rw [digs_pos hB e]
      exact Lim.cons (Nat.mod_lt _ (by omega)) (ih _ (Nat.div_lt_self e (by omega)))

theorem tr_digs {B : Nat} (hB : 2 ≤ B) : ∀ {l : List Nat}, Lim B l → tr l = digs B (val B l)
  | [], _ => by rw [val, digs_zero]; rfl
  | x :: r, h => by
    have ih := tr_digs hB h.tail
    have hx := h.head
    rw [val]
    rcases Nat.eq_zero_or_pos (val B r) with e | e
    · rw [e, digs_zero] at ih
      rw [tr, ih, e, Nat.mul_zero, Nat.add_zero]
      by_cases h0 : x = 0
      · subst h0; simp [digs_zero]
      · rw [digs_pos hB (by omega), Nat.mod_eq_of_lt hx, Nat.div_eq_of_lt hx, digs_zero]; simp [h0]
    · have h1 : digs B (val B r) = val B r % B :: digs B (val B r / B) := digs_pos hB e
      have h2 : 0 < x + B * val B r := Nat.add_pos_right _ (Nat.mul_pos (by omega) e)
      rw [digs_pos hB h2, Nat.add_mul_mod_self_left, Nat.mod_eq_of_lt hx, Nat.add_mul_div_left _ _ (by omega), Nat.div_eq_of_lt hx, Nat.zero_add, tr, ih, h1]

theorem digs_tr {B n : Nat} (hB : 2 ≤ B) : tr (digs B n) = digs B n := by rw [tr_digs hB (lim_digs hB n), val_digs hB]

theorem val_append (B : Nat) : ∀ l m : List Nat, val B (l ++ m) = val B l + B ^ l.length * val B m
  | [], m => by simp [val]
  | x :: r, m => by
    simp only [List.cons_append, val, val_append B r m, List.length_cons, Nat.pow_succ]
    rw [Nat.mul_add, Nat.add_assoc, ← Nat.mul_assoc B, Nat.mul_comm B (B ^ r.length)]
theorem val_one (B x : Nat) : val B [x] = x := by simp [val]
theorem val_snoc (B : Nat) (l : List Nat) (x : Nat) : val B (l ++ [x]) = val B l + B ^ l.length * x := by rw [val_append, val_one]
theorem val_zeros (B n : Nat) : val B (List.replicate n 0) = 0 := by
  induction n with
  | zero => rfl
  | succ n ih => rw [List.replicate_succ, val, ih]; omega
theorem val_app_zeros (B : Nat) (l : List Nat) (n : Nat) : val B (l ++ List.replicate n 0) = val B l := by rw [val_append, val_zeros]; omega
theorem lim_zeros {B : Nat} (hB : 0 < B) (n : Nat) : Lim B (List.replicate n 0) := fun x hx => by rw [(List.mem_replicate.1 hx).2]; exact hB

theorem take_succ_getD (l : List Nat) (i : Nat) (h : i < l.length) : l.take (i + 1) = l.take i ++ [l.getD i 0] := by
  rw [List.take_add_one, List.getD_eq_getElem?_getD, List.getElem?_eq_getElem h]; rfl
theorem val_take (B : Nat) (l : List Nat) (i : Nat) : val B (l.take (i + 1)) = val B (l.take i) + B ^ i * l.getD i 0 := by
  by_cases h : i < l.length
  · rw [take_succ_getD l i h, val_snoc, List.length_take, Nat.min_eq_left (by omega)]
  · rw [List.take_of_length_le (by omega), List.take_of_length_le (by omega), List.getD_eq_getElem?_getD, List.getElem?_eq_none (by omega)]; simp
theorem val_take_all (B : Nat) (l : List Nat) (i : Nat) (h : l.length ≤ i) : val B (l.take i) = val B l := by rw [List.take_of_length_le h]
theorem val_split (B : Nat) (l : List Nat) (i : Nat) (h : i ≤ l.length) : val B l = val B (l.take i) + B ^ i * val B (l.drop i) := by
  have := val_append B (l.take i) (l.drop i)
  rwa [List.take_append_drop, List.length_take, Nat.min_eq_left h] at this

theorem val_lt {B : Nat} : ∀ {l : List Nat}, Lim B l → val B l < B ^ l.length
  | [], _ => by simp [val]
  | x :: r, h => by
    have ih := val_lt h.tail
    have hx := h.head
    rw [val, List.length_cons, Nat.pow_succ, Nat.mul_comm (B ^ r.length) B]
    calc x + B * val B r < B + B * val B r := by omega
      _ = B * (val B r + 1) := by rw [Nat.mul_add, Nat.mul_one, Nat.add_comm]
      _ ≤ B * B ^ r.length := Nat.mul_le_mul_left _ ih

theorem digs_len {B : Nat} (hB : 2 ≤ B) : ∀ (k n : Nat), n < B ^ k → (digs B n).length ≤ k
  | 0, n, h => by
    have : n = 0 := by simpa using h
    subst this; simp [digs_zero]
  | k + 1, n, h => by
    rcases Nat.eq_zero_or_pos n with e | e
    · subst e; simp [digs_zero]
    · rw [digs_pos hB e, List.length_cons]
      have : n / B < B ^ k := Nat.div_lt_of_lt_mul (by rw [Nat.mul_comm, ← Nat.pow_succ]; exact h)
      have := digs_len hB k _ this
      omega
theorem tr_len : ∀ l : List Nat, (tr l).length ≤ l.length
  | [] => by simp [tr]
  | x :: r => by
    have := tr_len r
    rw [tr]
    split
    · split <;> simp
    · rename_i y t e; rw [e] at this; simp at this ⊢; omega
theorem tr_pre : ∀ l : List Nat, ∃ n, l = tr l ++ List.replicate n 0
  | [] => ⟨0, rfl⟩
  | x :: r => by
    obtain ⟨n, h⟩ := tr_pre r
    rw [tr]
    split
    · rename_i e
      rw [e, List.nil_append] at h
      split
      · rename_i h0; exact ⟨n + 1, by rw [List.replicate_succ, ← h, h0]; rfl⟩
      · exact ⟨n, by rw [List.singleton_append, ← h]⟩
    · rename_i y t e
      rw [e] at h
      exact ⟨n, by rw [List.cons_append, ← h]⟩
theorem tr_take {l : List Nat} : ∀ {n : Nat}, n ≤ l.length → (∀ i, n ≤ i → i < l.length → l.getD i 0 = 0) → (n = 0 ∨ l.getD (n - 1) 0 ≠ 0) → l.take n = tr l := by
  induction l with
  | nil => intro n _ _ _; simp [tr]
  | cons x r ih =>
    intro n hn h0 h1
    cases n with
    | zero =>
      have hr := ih (n := 0) (Nat.zero_le _) (fun i _ hi => by have := h0 (i + 1) (by omega) (by simpa using hi); simpa using this) (.inl rfl)
      have hx : x = 0 := by have := h0 0 (by omega) (by simp); simpa using this
      rw [tr, ← hr]
      simp [hx]
    | succ m =>
      have h0' : ∀ i, m ≤ i → i < r.length → r.getD i 0 = 0 := fun i hi hl => by have := h0 (i + 1) (by omega) (by simpa using hl); simpa using this
      cases m with
      | zero =>
        have hr := ih (n := 0) (Nat.zero_le _) h0' (.inl rfl)
        have hx : x ≠ 0 := by rcases h1 with h | h; · omega
                              · simpa using h
        rw [tr, ← hr]
        simp [hx]
      | succ k =>
        have hk : k + 1 ≤ r.length := by simpa using hn
        have h1' : r.getD k 0 ≠ 0 := by rcases h1 with h | h; · omega
                                        · simpa using h
        have hr := ih (n := k + 1) hk h0' (.inr (by simpa using h1'))
        rw [tr, ← hr]
        cases r with
        | nil => simp at hk
        | cons y t => simp

theorem digs_last {B n : Nat} (hB : 2 ≤ B) (h : 0 < n) : (digs B n).getD ((digs B n).length - 1) 0 ≠ 0 := by
  induction n using Nat.strongRecOn with
  | _ n ih =>
    rw [digs_pos hB h]
    rcases Nat.eq_zero_or_pos (n / B) with e | e
    · rw [e, digs_zero]
      simp
      have := Nat.div_add_mod n B
      rw [e] at this; omega
    · have := ih _ (Nat.div_lt_self h (by omega)) e
      have hp : 0 < (digs B (n / B)).length := by
        rw [digs_pos hB e]; simp
      rw [List.length_cons]
      rw [show (digs B (n / B)).length + 1 - 1 = ((digs B (n / B)).length - 1) + 1 by omega]
      simpa using this

/-- Rows of one length, alike above a place, there one below the other. -/
theorem val_lt_high {B : Nat} {l m : List Nat} (hl : Lim B l) (hB : 0 < B) (i : Nat) (hi : i < l.length) (he : l.length = m.length) (hd : l.drop (i + 1) = m.drop (i + 1)) (h : l.getD i 0 < m.getD i 0) : val B l < val B m := by
  rw [val_split B l (i + 1) (by omega), val_split B m (i + 1) (by omega), hd, val_take, val_take]
  have h1 : val B (l.take i) < B ^ i := by
    have := val_lt (hl.take i)
    rwa [List.length_take, Nat.min_eq_left (by omega)] at this
  have h2 : B ^ i * l.getD i 0 + B ^ i ≤ B ^ i * m.getD i 0 := by
    rw [← Nat.mul_succ]; exact Nat.mul_le_mul_left _ h
  omega
theorem digs_lt_len {B a b : Nat} (hB : 2 ≤ B) (h : (digs B a).length < (digs B b).length) : a < b := by
  apply Nat.lt_of_not_le
  intro hle
  rcases Nat.eq_zero_or_pos b with e | e
  · subst e; rw [digs_zero] at h; simp at h
  · have h1 : a < B ^ (digs B a).length := by
      have := val_lt (lim_digs hB a); rwa [val_digs hB] at this
    have h2 := digs_len hB (digs B a).length b (by omega)
    omega

/-- One place of a sum, or of what is carried on. -/
theorem carry_step {P B s d c A : Nat} (h : A + P * s = d) : A + P * (s % B) + P * B * (s / B) = d := by
  rw [Nat.mul_assoc, Nat.add_assoc, ← Nat.mul_add, Nat.mod_add_div]; exact h
theorem set_zeros (l : List Nat) (n i x : Nat) (hi : l.length = i) (hn : 0 < n) : (l ++ List.replicate n 0).set i x = (l ++ [x]) ++ List.replicate (n - 1) 0 := by
  subst hi
  obtain ⟨k, rfl⟩ : ∃ k, n = k + 1 := ⟨n - 1, by omega⟩
  rw [List.set_append_right _ _ (Nat.le_refl _), Nat.sub_self, List.replicate_succ, List.set_cons_zero, List.append_assoc]
  rfl
theorem set_zeros' (l : List Nat) (N i x : Nat) (hi : l.length = i) (hn : i < N) : (l ++ List.replicate (N - i) 0).set i x = (l ++ [x]) ++ List.replicate (N - (i + 1)) 0 := by
  rw [set_zeros l _ i x hi (by omega), Nat.sub_sub]
theorem lim_snoc {B x : Nat} {l : List Nat} (h : Lim B l) (hx : x < B) : Lim B (l ++ [x]) := h.append (Lim.one hx)
end Go.Proofs.YtipbcjnniamcgaaDoor.Ma

/- Plain numbers: a step of each of the limbs' loops. -/
namespace Go.Proofs.YtipbcjnniamcgaaDoor.Ma
set_option linter.unusedSimpArgs false
set_option linter.unusedVariables false

theorem getD_beyond {l : List Nat} {i : Nat} (h : l.length ≤ i) : l.getD i 0 = 0 := by rw [List.getD_eq_getElem?_getD, List.getElem?_eq_none h]; rfl

/-- Adding up to place i. -/
def AddI (a b : List Nat) (i c : Nat) (done : List Nat) : Prop :=
  done.length = i ∧ Lim 4294967296 done ∧ c ≤ 1 ∧ val 4294967296 done + 4294967296 ^ i * c = val 4294967296 (a.take i) + val 4294967296 (b.take i)
theorem AddI.zero (a b : List Nat) : AddI a b 0 0 [] := ⟨rfl, Lim.nil _, by omega, by simp [val]⟩
theorem AddI.step {a b done : List Nat} {i c s : Nat} (h : AddI a b i c done) (ha : Lim 4294967296 a) (hb : Lim 4294967296 b) (hs : s = c + a.getD i 0 + b.getD i 0) : AddI a b (i + 1) (s / 2 ^ 32) (done ++ [s % 4294967296]) := by
  obtain ⟨h2, h3, h4, h5⟩ := h
  have hx := ha.getD (by omega) i
  have hy := hb.getD (by omega) i
  refine ⟨by simp [h2], lim_snoc h3 (Nat.mod_lt _ (by omega)), by omega, ?_⟩
  show val 4294967296 (done ++ [s % 4294967296]) + 4294967296 ^ (i + 1) * (s / 4294967296) = _
  rw [val_snoc, h2, Nat.pow_succ, carry_step (B := 4294967296) (c := 0) rfl, val_take, val_take, hs, Nat.mul_add, Nat.mul_add, ← Nat.add_assoc, ← Nat.add_assoc, h5]
  omega
theorem AddI.end {a b done : List Nat} {c : Nat} (h : AddI a b a.length c done) (hab : b.length ≤ a.length) : tr (done ++ [c]) = digs 4294967296 (val 4294967296 a + val 4294967296 b) := by
  obtain ⟨h2, h3, h4, h5⟩ := h
  rw [tr_digs (by omega) (lim_snoc h3 (by omega)), val_snoc, h2, h5, val_take_all _ _ _ (Nat.le_refl _), val_take_all _ _ _ hab]

/-- Taking away up to place i. -/
def SubI (a b : List Nat) (i c : Nat) (done : List Nat) : Prop :=
  done.length = i ∧ Lim 4294967296 done ∧ c ≤ 1 ∧ val 4294967296 done + val 4294967296 (b.take i) = val 4294967296 (a.take i) + 4294967296 ^ i * c
theorem SubI.zero (a b : List Nat) : SubI a b 0 0 [] := ⟨rfl, Lim.nil _, by omega, by simp [val]⟩
theorem SubI.step {a b done : List Nat} {i c y d : Nat} (h : SubI a b i c done) (ha : Lim 4294967296 a) (hb : Lim 4294967296 b) (hy : y = c + b.getD i 0) (hd : d = (a.getD i 0 + 18446744073709551616 - y) % 18446744073709551616) :
    SubI a b (i + 1) (d / 2 ^ 32 % 2) (done ++ [d % 4294967296]) := by
  obtain ⟨h2, h3, h4, h5⟩ := h
  have hx := ha.getD (by omega) i
  have hy' := hb.getD (by omega) i
  refine ⟨by simp [h2], lim_snoc h3 (Nat.mod_lt _ (by omega)), by omega, ?_⟩
  have key : d % 4294967296 + y = a.getD i 0 + 4294967296 * (d / 2 ^ 32 % 2) := by omega
  rw [val_snoc, h2, val_take, val_take, Nat.pow_succ]
  have e : 4294967296 ^ i * (d % 4294967296) + 4294967296 ^ i * y = 4294967296 ^ i * a.getD i 0 + 4294967296 ^ i * 4294967296 * (d / 2 ^ 32 % 2) := by
    rw [← Nat.mul_add, key, Nat.mul_add, Nat.mul_assoc]
  rw [hy, Nat.mul_add] at e
  omega
theorem SubI.end {a b done : List Nat} {c : Nat} (h : SubI a b a.length c done) (ha : Lim 4294967296 a) (hab : val 4294967296 b ≤ val 4294967296 a) : tr done = digs 4294967296 (val 4294967296 a - val 4294967296 b) := by
  obtain ⟨h2, h3, h4, h5⟩ := h
  have hlt := val_lt h3
  rw [h2] at hlt
  rw [val_take_all _ a _ (Nat.le_refl _)] at h5
  -- what is taken away ends within a's length
  have hb' : val 4294967296 (b.take a.length) = val 4294967296 b := by
    by_cases hl : b.length ≤ a.length
    · exact val_take_all _ _ _ hl
    · have h6 := val_split 4294967296 b a.length (by omega)
      have h7 := val_lt ha
      rcases Nat.eq_zero_or_pos (val 4294967296 (b.drop a.length)) with e | e
      · rw [e] at h6; omega
      · have : 4294967296 ^ a.length * 1 ≤ 4294967296 ^ a.length * val 4294967296 (b.drop a.length) := Nat.mul_le_mul_left _ e
        omega
  rw [hb'] at h5
  have hc : c = 0 := by
    rcases Nat.eq_zero_or_pos c with e | e
    · exact e
    · have : c = 1 := by omega
      subst this
      have := val_lt ha
      omega
  subst hc
  rw [tr_digs (by omega) h3]
  congr 1; omega

/-- Multiplying: rows up to i done; in row i, places up to k. The row 'out' as a whole. -/
def MulI (a b : List Nat) (i : Nat) (out : List Nat) : Prop :=
  out.length = a.length + b.length ∧ Lim 4294967296 out ∧ val 4294967296 out = val 4294967296 (a.take i) * val 4294967296 b ∧ ∀ j, i + b.length ≤ j → out.getD j 0 = 0
def MulK (a b : List Nat) (i k c : Nat) (out : List Nat) : Prop :=
  out.length = a.length + b.length ∧ Lim 4294967296 out ∧ c < 4294967296 ∧ val 4294967296 out + 4294967296 ^ (i + k) * c = val 4294967296 (a.take i) * val 4294967296 b + 4294967296 ^ i * (a.getD i 0 * val 4294967296 (b.take k)) ∧ ∀ j, i + b.length ≤ j → out.getD j 0 = 0
theorem val_set {B : Nat} : ∀ {l : List Nat} {i : Nat} (x : Nat), i < l.length → val B (l.set i x) + B ^ i * l.getD i 0 = val B l + B ^ i * x
  | [], i, x, h => by simp at h
  | y :: r, 0, x, _ => by simp [val]; omega
  | y :: r, i + 1, x, h => by
    have ih := val_set (B := B) (l := r) (i := i) x (by simpa using h)
    simp only [List.set_cons_succ, val, Nat.pow_succ]
    rw [show (y :: r).getD (i + 1) 0 = r.getD i 0 by simp]
    have e : B * (val B (r.set i x) + B ^ i * r.getD i 0) = B * (val B r + B ^ i * x) := by rw [ih]
    rw [Nat.mul_add, Nat.mul_add, ← Nat.mul_assoc, ← Nat.mul_assoc, Nat.mul_comm B (B ^ i)] at e
    omega
theorem lim_set {B : Nat} {l : List Nat} (h : Lim B l) (i x : Nat) (hx : x < B) : Lim B (l.set i x) := fun y hy => by
  rcases List.mem_or_eq_of_mem_set hy with h1 | h1
  · exact h y h1
  · rw [h1]; exact hx
theorem getD_set {l : List Nat} {i j x : Nat} : (l.set i x).getD j 0 = if i = j ∧ j < l.length then x else l.getD j 0 := by
  rw [List.getD_eq_getElem?_getD, List.getElem?_set, List.getD_eq_getElem?_getD]
  by_cases e : i = j
  · subst e
    by_cases h : i < l.length
    · simp [h]
    · simp [h]
  · simp [e]
theorem MulI.zero (a b : List Nat) : MulI a b 0 (List.replicate (a.length + b.length) 0) :=
  ⟨by simp, lim_zeros (by omega) _, by rw [val_zeros]; simp [val], fun j _ => by
    rw [List.getD_eq_getElem?_getD, List.getElem?_replicate]; split <;> rfl⟩
theorem MulK.start {a b out : List Nat} {i : Nat} (h : MulI a b i out) : MulK a b i 0 0 out := by
  obtain ⟨h1, h2, h3, h4⟩ := h
  exact ⟨h1, h2, by omega, by simp [val, h3], h4⟩
theorem mul_bound {x y c o : Nat} (hx : x < 4294967296) (hy : y < 4294967296) (hc : c < 4294967296) (ho : o < 4294967296) : c + (x * y + o) < 18446744073709551616 := by
  have : x * y ≤ 4294967295 * 4294967295 := Nat.mul_le_mul (by omega) (by omega)
  omega
theorem MulK.step {a b out : List Nat} {i k c s : Nat} (h : MulK a b i k c out) (hi : i < a.length) (hk : k < b.length) (ha : Lim 4294967296 a) (hb : Lim 4294967296 b) (hs : s = c + (a.getD i 0 * b.getD k 0 + out.getD (i + k) 0)) :
    MulK a b i (k + 1) (s / 2 ^ 32) (out.set (i + k) (s % 4294967296)) := by
  obtain ⟨h1, h2, h3, h4, h5⟩ := h
  have hs2 : s < 18446744073709551616 := hs ▸ mul_bound (ha.getD (by omega) i) (hb.getD (by omega) k) h3 (h2.getD (by omega) _)
  refine ⟨by simpa using h1, lim_set h2 _ _ (Nat.mod_lt _ (by omega)), by omega, ?_, fun j hj => ?_⟩
  · have e := val_set (B := 4294967296) (l := out) (i := i + k) (s % 4294967296) (by omega)
    rw [val_take, show (2 : Nat) ^ 32 = 4294967296 from rfl]
    have e2 : 4294967296 ^ (i + k) * (s % 4294967296) + 4294967296 ^ (i + (k + 1)) * (s / 4294967296) = 4294967296 ^ (i + k) * s := by
      rw [← Nat.add_assoc, Nat.pow_succ, Nat.mul_assoc, ← Nat.mul_add, Nat.mod_add_div]
    have e3 : 4294967296 ^ (i + k) * s = 4294967296 ^ (i + k) * c + (4294967296 ^ i * (a.getD i 0 * (4294967296 ^ k * b.getD k 0)) + 4294967296 ^ (i + k) * out.getD (i + k) 0) := by
      rw [hs, Nat.mul_add, Nat.mul_add, Nat.pow_add]
      congr 2
      rw [Nat.mul_assoc, Nat.mul_left_comm (4294967296 ^ k)]
    rw [Nat.mul_add (a.getD i 0), Nat.mul_add (4294967296 ^ i)]
    omega
  · rw [getD_set, if_neg (by omega)]; exact h5 j hj
theorem MulK.end {a b out : List Nat} {i c : Nat} (h : MulK a b i b.length c out) (hi : i < a.length) : MulI a b (i + 1) (out.set (i + b.length) c) := by
  obtain ⟨h1, h2, h3, h4, h5⟩ := h
  refine ⟨by simpa using h1, lim_set h2 _ _ h3, ?_, fun j hj => ?_⟩
  · have e := val_set (B := 4294967296) (l := out) (i := i + b.length) c (by omega)
    rw [h5 _ (Nat.le_refl _), Nat.mul_zero, Nat.add_zero] at e
    rw [val_take_all 4294967296 b _ (Nat.le_refl _)] at h4
    rw [e, h4, val_take, Nat.add_mul, Nat.mul_assoc]
  · rw [getD_set, if_neg (by omega)]; exact h5 j (by omega)
theorem MulI.end {a b out : List Nat} (h : MulI a b a.length out) : tr out = digs 4294967296 (val 4294967296 a * val 4294967296 b) := by
  obtain ⟨h1, h2, h3, _⟩ := h
  rw [tr_digs (by omega) h2, h3, val_take_all _ _ _ (Nat.le_refl _)]

/-- Dividing by one limb: the places from k on are done; r is left. -/
def DivI (a : List Nat) (d k r : Nat) (out : List Nat) : Prop :=
  out.length = a.length ∧ Lim 4294967296 out ∧ r < d ∧ val 4294967296 (a.drop k) = val 4294967296 (out.drop k) * d + r
theorem DivI.zero (a : List Nat) {d : Nat} (hd : 0 < d) : DivI a d a.length 0 (List.replicate a.length 0) :=
  ⟨by simp, lim_zeros (by omega) _, hd, by rw [List.drop_of_length_le (Nat.le_refl _), List.drop_of_length_le (by simp)]; simp [val]⟩
theorem val_drop (B : Nat) {l : List Nat} {k : Nat} (h : k < l.length) : val B (l.drop k) = l.getD k 0 + B * val B (l.drop (k + 1)) := by
  rw [List.drop_eq_getElem_cons h, val, List.getD_eq_getElem?_getD, List.getElem?_eq_getElem h]; rfl
theorem drop_set (l : List Nat) (k x : Nat) : (l.set k x).drop (k + 1) = l.drop (k + 1) := by
  apply List.ext_getElem?
  intro i
  rw [List.getElem?_drop, List.getElem?_drop, List.getElem?_set_ne (by omega)]
theorem DivI.step {a out : List Nat} {d k r s : Nat} (h : DivI a d (k + 1) r out) (hk : k < a.length) (ha : Lim 4294967296 a) (hd : d < 4294967296) (hs : s = r * 2 ^ 32 + a.getD k 0) :
    DivI a d k (s % d) (out.set k (s / d % 4294967296)) := by
  obtain ⟨h1, h2, h3, h4⟩ := h
  have hx := ha.getD (by omega) k
  have hq : s / d < 4294967296 := by
    apply Nat.div_lt_of_lt_mul
    rw [hs]
    have : r + 1 ≤ d := h3
    have : (r + 1) * 4294967296 ≤ d * 4294967296 := Nat.mul_le_mul_right _ this
    omega
  refine ⟨by simpa using h1, lim_set h2 _ _ (Nat.mod_lt _ (by omega)), Nat.mod_lt _ (by omega), ?_⟩
  rw [Nat.mod_eq_of_lt hq, val_drop _ hk, h4, val_drop _ (show k < (out.set k (s / d)).length by simp; omega), drop_set, getD_set, if_pos ⟨rfl, by omega⟩]
  have e := Nat.div_add_mod s d
  rw [Nat.add_mul, Nat.mul_comm (s / d) d, Nat.mul_add, Nat.mul_assoc]
  omega
theorem DivI.end {a out : List Nat} {d r : Nat} (h : DivI a d 0 r out) : tr out = digs 4294967296 (val 4294967296 a / d) ∧ r = val 4294967296 a % d := by
  obtain ⟨h1, h2, h3, h4⟩ := h
  rw [List.drop_zero, List.drop_zero] at h4
  rw [tr_digs (by omega) h2, h4, Nat.mul_comm, Nat.mul_add_div (by omega), Nat.mul_add_mod, Nat.div_eq_of_lt h3, Nat.mod_eq_of_lt h3, Nat.add_zero]
  exact ⟨rfl, rfl⟩
end Go.Proofs.YtipbcjnniamcgaaDoor.Ma

/- Plain numbers: the reference's digits to the base 65536. -/
namespace Go.Proofs.YtipbcjnniamcgaaDoor.Ma
set_option linter.unusedSimpArgs false
set_option linter.unusedVariables false

/-- Multiplying: rows up to i done; in row i, places up to k. The row 'out' as a whole. -/
def MulJ (a b : List Nat) (i : Nat) (out : List Nat) : Prop :=
  out.length = a.length + b.length + 1 ∧ Lim 65536 out ∧ val 65536 out = val 65536 (a.take i) * val 65536 b ∧ ∀ j, i + b.length ≤ j → out.getD j 0 = 0
def MulH (a b : List Nat) (i k c : Nat) (out : List Nat) : Prop :=
  out.length = a.length + b.length + 1 ∧ Lim 65536 out ∧ c < 65536 ∧ val 65536 out + 65536 ^ (i + k) * c = val 65536 (a.take i) * val 65536 b + 65536 ^ i * (a.getD i 0 * val 65536 (b.take k)) ∧ ∀ j, i + b.length ≤ j → out.getD j 0 = 0
theorem MulJ.zero (a b : List Nat) : MulJ a b 0 (List.replicate (a.length + b.length + 1) 0) :=
  ⟨by simp, lim_zeros (by omega) _, by rw [val_zeros]; simp [val], fun j _ => by
    rw [List.getD_eq_getElem?_getD, List.getElem?_replicate]; split <;> rfl⟩
theorem MulH.start {a b out : List Nat} {i : Nat} (h : MulJ a b i out) : MulH a b i 0 0 out := by
  obtain ⟨h1, h2, h3, h4⟩ := h
  exact ⟨h1, h2, by omega, by simp [val, h3], h4⟩
theorem mul_bound16 {x y c o : Nat} (hx : x < 65536) (hy : y < 65536) (hc : c < 65536) (ho : o < 65536) : c + (x * y + o) < 4294967296 := by
  have : x * y ≤ 65535 * 65535 := Nat.mul_le_mul (by omega) (by omega)
  omega
theorem MulH.step {a b out : List Nat} {i k c s : Nat} (h : MulH a b i k c out) (hi : i < a.length) (hk : k < b.length) (ha : Lim 65536 a) (hb : Lim 65536 b) (hs : s = c + (a.getD i 0 * b.getD k 0 + out.getD (i + k) 0)) :
    MulH a b i (k + 1) (s / 65536) (out.set (i + k) (s % 65536)) := by
  obtain ⟨h1, h2, h3, h4, h5⟩ := h
  have hs2 : s < 4294967296 := hs ▸ mul_bound16 (ha.getD (by omega) i) (hb.getD (by omega) k) h3 (h2.getD (by omega) _)
  refine ⟨by simpa using h1, lim_set h2 _ _ (Nat.mod_lt _ (by omega)), by omega, ?_, fun j hj => ?_⟩
  · have e := val_set (B := 65536) (l := out) (i := i + k) (s % 65536) (by omega)
    rw [val_take]
    have e2 : 65536 ^ (i + k) * (s % 65536) + 65536 ^ (i + (k + 1)) * (s / 65536) = 65536 ^ (i + k) * s := by
      rw [← Nat.add_assoc, Nat.pow_succ, Nat.mul_assoc, ← Nat.mul_add, Nat.mod_add_div]
    have e3 : 65536 ^ (i + k) * s = 65536 ^ (i + k) * c + (65536 ^ i * (a.getD i 0 * (65536 ^ k * b.getD k 0)) + 65536 ^ (i + k) * out.getD (i + k) 0) := by
      rw [hs, Nat.mul_add, Nat.mul_add, Nat.pow_add]
      congr 2
      rw [Nat.mul_assoc, Nat.mul_left_comm (65536 ^ k)]
    rw [Nat.mul_add (a.getD i 0), Nat.mul_add (65536 ^ i)]
    omega
  · rw [getD_set, if_neg (by omega)]; exact h5 j hj
theorem MulH.end {a b out : List Nat} {i c : Nat} (h : MulH a b i b.length c out) (hi : i < a.length) : MulJ a b (i + 1) (out.set (i + b.length) c) := by
  obtain ⟨h1, h2, h3, h4, h5⟩ := h
  refine ⟨by simpa using h1, lim_set h2 _ _ h3, ?_, fun j hj => ?_⟩
  · have e := val_set (B := 65536) (l := out) (i := i + b.length) c (by omega)
    rw [h5 _ (Nat.le_refl _), Nat.mul_zero, Nat.add_zero] at e
    rw [val_take_all 65536 b _ (Nat.le_refl _)] at h4
    rw [e, h4, val_take, Nat.add_mul, Nat.mul_assoc]
  · rw [getD_set, if_neg (by omega)]; exact h5 j (by omega)
theorem MulJ.end {a b out : List Nat} (h : MulJ a b a.length out) : tr out = digs 65536 (val 65536 a * val 65536 b) := by
  obtain ⟨h1, h2, h3, _⟩ := h
  rw [tr_digs (by omega) h2, h3, val_take_all _ _ _ (Nat.le_refl _)]

/-- A row without a high nought is the row of its digits. -/
theorem digs_of {B : Nat} (hB : 2 ≤ B) {l : List Nat} (h : Lim B l) (h0 : l = [] ∨ l.getD (l.length - 1) 0 ≠ 0) : l = digs B (val B l) := by
  have := tr_take (l := l) (n := l.length) (Nat.le_refl _) (fun i h1 h2 => by omega) (by
    rcases h0 with e | e
    · left; rw [e]; rfl
    · exact .inr e)
  rw [List.take_of_length_le (Nat.le_refl _)] at this
  rw [← tr_digs hB h]; exact this
/-- .. filled up with noughts. -/
def pad (B n k : Nat) : List Nat := digs B n ++ List.replicate (k - (digs B n).length) 0
theorem pad_of {B : Nat} (hB : 2 ≤ B) {l : List Nat} (h : Lim B l) : l = pad B (val B l) l.length := by
  obtain ⟨j, e⟩ := tr_pre l
  unfold pad
  rw [← tr_digs hB h]
  have : j = l.length - (tr l).length := by
    have := congrArg List.length e
    simp at this; omega
  rw [← this]; exact e
theorem pad_lim {B n k : Nat} (hB : 2 ≤ B) : Lim B (pad B n k) := (lim_digs hB n).append (lim_zeros (by omega) _)
theorem pad_val {B n k : Nat} (hB : 2 ≤ B) : val B (pad B n k) = n := by unfold pad; rw [val_app_zeros, val_digs hB]
theorem pad_len {B n k : Nat} (h : (digs B n).length ≤ k) : (pad B n k).length = k := by unfold pad; simp; omega

/-- Of a limb two digits. -/
def MakeI (l : List Nat) (i : Nat) (done : List Nat) : Prop := done.length = 2 * i ∧ Lim 65536 done ∧ val 65536 done = val 4294967296 (l.take i)
theorem MakeI.zero (l : List Nat) : MakeI l 0 [] := ⟨rfl, Lim.nil _, by simp [val]⟩
theorem MakeI.step {l done : List Nat} {i : Nat} (h : MakeI l i done) (hl : Lim 4294967296 l) : MakeI l (i + 1) (done ++ [l.getD i 0 % 65536, l.getD i 0 / 65536]) := by
  obtain ⟨h1, h2, h3⟩ := h
  have hx := hl.getD (by omega) i
  refine ⟨by simp [h1]; omega, h2.append (Lim.cons (Nat.mod_lt _ (by omega)) (Lim.one (by omega))), ?_⟩
  rw [val_append, h3, h1, val_take, Nat.pow_mul]
  congr 2
  simp only [val]
  omega
/-- Of two digits a limb. -/
def LimbsI (d : List Nat) (k : Nat) (done : List Nat) : Prop := done.length = k ∧ Lim 4294967296 done ∧ val 4294967296 done = val 65536 (d.take (2 * k)) ∧ ∀ j, j < k → done.getD j 0 = d.getD (2 * j) 0 + 65536 * d.getD (2 * j + 1) 0
theorem LimbsI.zero (d : List Nat) : LimbsI d 0 [] := ⟨rfl, Lim.nil _, by simp [val], fun j h => by omega⟩
theorem getD_snoc (l : List Nat) (x j : Nat) : (l ++ [x]).getD j 0 = if j < l.length then l.getD j 0 else if j = l.length then x else 0 := by
  rw [List.getD_eq_getElem?_getD, List.getElem?_append]
  split
  · rfl
  · split
    · rename_i h; subst h; simp
    · rw [List.getElem?_eq_none (by simp; omega)]; rfl
theorem LimbsI.step {d done : List Nat} {k x : Nat} (h : LimbsI d k done) (hd : Lim 65536 d) (hx : x = d.getD (2 * k) 0 + 65536 * d.getD (2 * k + 1) 0) : LimbsI d (k + 1) (done ++ [x]) := by
  obtain ⟨h1, h2, h3, h4⟩ := h
  have a := hd.getD (by omega) (2 * k)
  have b := hd.getD (by omega) (2 * k + 1)
  refine ⟨by simp [h1], lim_snoc h2 (by omega), ?_, fun j hj => ?_⟩
  · rw [val_snoc, h3, h1, show 2 * (k + 1) = 2 * k + 1 + 1 by omega, val_take, val_take, hx, Nat.pow_succ, Nat.pow_mul, Nat.mul_add, Nat.mul_assoc, Nat.add_assoc]
  · rw [getD_snoc]
    by_cases e : j < done.length
    · rw [if_pos e]; exact h4 j (by omega)
    · rw [if_neg e, if_pos (by omega), hx, show j = k by omega]
theorem LimbsI.end {n k : Nat} {done : List Nat} (h : LimbsI (digs 65536 n) k done) (h0 : (digs 65536 n).length ≤ 2 * k) (h1 : 2 * k ≤ (digs 65536 n).length + 1) : done = digs 4294967296 n := by
  obtain ⟨g1, g2, g3, g4⟩ := h
  have e : val 4294967296 done = n := by rw [g3, val_take_all _ _ _ h0, val_digs (by omega)]
  rw [← e]
  rcases Nat.eq_zero_or_pos n with hz | hz
  · subst hz
    rw [digs_zero] at h1
    have : done = [] := List.eq_nil_of_length_eq_zero (by simp at h1; omega)
    subst this; simp [val, digs_zero]
  · refine digs_of (by omega) g2 (.inr ?_)
    have hl := digs_last (B := 65536) (by omega) hz
    have hp : 0 < (digs 65536 n).length := by rw [digs_pos (by omega) hz]; simp
    rw [g4 _ (by omega)]
    rw [g1]
    rcases Nat.lt_or_ge ((digs 65536 n).length - 1) (2 * (k - 1) + 1) with h | h
    · rw [show (digs 65536 n).length - 1 = 2 * (k - 1) by omega] at hl; omega
    · rw [show (digs 65536 n).length - 1 = 2 * (k - 1) + 1 by omega] at hl; omega

/-- The reference's sum. -/
def PlusI (a b : List Nat) (i c : Nat) (done : List Nat) : Prop :=
  done.length = i ∧ Lim 65536 done ∧ c ≤ 1 ∧ val 65536 done + 65536 ^ i * c = val 65536 (a.take i) + val 65536 (b.take i) ∧ (a.length ≤ i → b.length ≤ i → c = 0 → done = [] ∨ done.getD (i - 1) 0 ≠ 0)
theorem PlusI.zero (a b : List Nat) : PlusI a b 0 0 [] := ⟨rfl, Lim.nil _, by omega, by simp [val], fun _ _ _ => .inl rfl⟩
theorem PlusI.step {m n i c s : Nat} {done : List Nat} (h : PlusI (digs 65536 m) (digs 65536 n) i c done) (hc : i < (digs 65536 m).length ∨ i < (digs 65536 n).length ∨ 0 < c) (hs : s = c + (digs 65536 m).getD i 0 + (digs 65536 n).getD i 0) :
    PlusI (digs 65536 m) (digs 65536 n) (i + 1) (s / 65536) (done ++ [s % 65536]) := by
  obtain ⟨h1, h2, h3, h4, h5⟩ := h
  have ha := (lim_digs (B := 65536) (by omega) m).getD (by omega) i
  have hb := (lim_digs (B := 65536) (by omega) n).getD (by omega) i
  refine ⟨by simp [h1], lim_snoc h2 (Nat.mod_lt _ (by omega)), by omega, ?_, fun g1 g2 g3 => .inr ?_⟩
  · rw [val_snoc, h1, Nat.pow_succ, carry_step (B := 65536) (c := 0) rfl, val_take, val_take, hs, Nat.mul_add, Nat.mul_add, ← Nat.add_assoc, ← Nat.add_assoc, h4]
    omega
  · rw [getD_snoc, if_neg (by omega), if_pos (by omega)]
    have top : ∀ p, i < (digs 65536 p).length → (digs 65536 p).length ≤ i + 1 → (digs 65536 p).getD i 0 ≠ 0 := by
      intro p q1 q2
      have hp : 0 < p := by rcases Nat.eq_zero_or_pos p with e | e; · subst e; rw [digs_zero] at q1; simp at q1
                            · exact e
      have := digs_last (B := 65536) (by omega) hp
      rwa [show (digs 65536 p).length - 1 = i by omega] at this
    rcases hc with q | q | q
    · have := top m q g1; omega
    · have := top n q g2; omega
    · omega
theorem PlusI.end {m n i : Nat} {done : List Nat} (h : PlusI (digs 65536 m) (digs 65536 n) i 0 done) (ha : (digs 65536 m).length ≤ i) (hb : (digs 65536 n).length ≤ i) : done = digs 65536 (m + n) := by
  obtain ⟨h1, h2, h3, h4, h5⟩ := h
  rw [val_take_all _ _ _ ha, val_take_all _ _ _ hb, val_digs (by omega), val_digs (by omega), Nat.mul_zero, Nat.add_zero] at h4
  rw [← h4]
  refine digs_of (by omega) h2 ?_
  rw [h1]; exact h5 ha hb rfl

/-- The reference's difference. -/
def MinI (a b : List Nat) (i c : Nat) (done : List Nat) : Prop :=
  done.length = i ∧ Lim 65536 done ∧ c ≤ 1 ∧ val 65536 done + val 65536 (b.take i) = val 65536 (a.take i) + 65536 ^ i * c
theorem MinI.zero (a b : List Nat) : MinI a b 0 0 [] := ⟨rfl, Lim.nil _, by omega, by simp [val]⟩
theorem MinI.step {a b done : List Nat} {i c c' y d : Nat} (h : MinI a b i c done) (hd : d < 65536) (hy : y = c + b.getD i 0) (hc : c' ≤ 1) (key : d + y = a.getD i 0 + 65536 * c') : MinI a b (i + 1) c' (done ++ [d]) := by
  obtain ⟨h2, h3, h4, h5⟩ := h
  refine ⟨by simp [h2], lim_snoc h3 hd, hc, ?_⟩
  rw [val_snoc, h2, val_take, val_take, Nat.pow_succ]
  have e : 65536 ^ i * d + 65536 ^ i * y = 65536 ^ i * a.getD i 0 + 65536 ^ i * 65536 * c' := by
    rw [← Nat.mul_add, key, Nat.mul_add, Nat.mul_assoc]
  rw [hy, Nat.mul_add] at e
  omega
theorem MinI.end {a b done : List Nat} {c : Nat} (h : MinI a b a.length c done) (ha : Lim 65536 a) (hl : b.length ≤ a.length) (hab : val 65536 b ≤ val 65536 a) : done = pad 65536 (val 65536 a - val 65536 b) a.length := by
  obtain ⟨h2, h3, h4, h5⟩ := h
  have hlt := val_lt h3
  rw [h2] at hlt
  rw [val_take_all _ a _ (Nat.le_refl _), val_take_all _ b _ hl] at h5
  have hc : c = 0 := by
    rcases Nat.eq_zero_or_pos c with e | e
    · exact e
    · have : c = 1 := by omega
      subst this
      have := val_lt ha
      omega
  subst hc
  have e : val 65536 done = val 65536 a - val 65536 b := by omega
  rw [← e, ← h2]
  exact pad_of (by omega) h3
end Go.Proofs.YtipbcjnniamcgaaDoor.Ma

/- Plain numbers: how many binary digits. -/
namespace Go.Proofs.YtipbcjnniamcgaaDoor.Ma
set_option linter.unusedSimpArgs false
set_option linter.unusedVariables false

def blen (n : Nat) : Nat := if n = 0 then 0 else Nat.log2 n + 1
theorem blen_le {n k : Nat} : blen n ≤ k ↔ n < 2 ^ k := by
  unfold blen
  split
  · rename_i h; subst h; simp [Nat.pow_pos]
  · rename_i h; rw [Nat.succ_le_iff]; exact Nat.log2_lt h
theorem blen_zero : blen 0 = 0 := rfl
theorem blen_pos {n : Nat} : 0 < blen n ↔ 0 < n := by
  have := @blen_le n 0
  simp at this; omega
theorem blen_eq {n k : Nat} (h : n < 2 ^ k) (h' : k = 0 ∨ 2 ^ (k - 1) ≤ n) : blen n = k := by
  have h1 := blen_le.2 h
  rcases h' with e | e
  · omega
  · have h2 : ¬ blen n ≤ k - 1 := fun x => by have := blen_le.1 x; omega
    omega
theorem blen_low {n : Nat} (h : 0 < n) : 2 ^ (blen n - 1) ≤ n := by
  have hp := blen_pos.2 h
  have : ¬ blen n ≤ blen n - 1 := by omega
  rw [blen_le] at this; omega
theorem blen_lt (n : Nat) : n < 2 ^ blen n := blen_le.1 (Nat.le_refl _)
theorem blen_high {lo hi s : Nat} (hlo : lo < 2 ^ s) (hhi : 0 < hi) : blen (lo + 2 ^ s * hi) = s + blen hi := by
  have hb := blen_pos.2 hhi
  refine blen_eq ?_ (.inr ?_)
  · rw [Nat.pow_add]
    have : 2 ^ s * (hi + 1) ≤ 2 ^ s * 2 ^ blen hi := Nat.mul_le_mul_left _ (blen_lt hi)
    rw [Nat.mul_succ] at this; omega
  · rw [show s + blen hi - 1 = s + (blen hi - 1) by omega, Nat.pow_add]
    exact Nat.le_trans (Nat.mul_le_mul_left _ (blen_low hhi)) (Nat.le_add_left _ _)
theorem blen_shift {n s : Nat} (h : 2 ^ s ≤ n) : blen n = s + blen (n / 2 ^ s) := by
  have hp : 0 < 2 ^ s := Nat.pow_pos (by omega)
  have := blen_high (lo := n % 2 ^ s) (hi := n / 2 ^ s) (s := s) (Nat.mod_lt _ hp) (Nat.div_pos h hp)
  rwa [Nat.mod_add_div] at this
theorem blen_half {n : Nat} (h : 0 < n) : blen n = blen (n / 2) + 1 := by
  rcases Nat.lt_or_ge n 2 with e | e
  · obtain rfl : n = 1 := by omega
    rfl
  · have := blen_shift (n := n) (s := 1) e
    rw [this, Nat.pow_one, Nat.add_comm]
/-- .. of digits of so many bits. -/
theorem blen_digs {w n : Nat} (hw : 1 ≤ w) (hn : 0 < n) : blen n = w * ((digs (2 ^ w) n).length - 1) + blen ((digs (2 ^ w) n).getD ((digs (2 ^ w) n).length - 1) 0) := by
  have hB : 2 ≤ 2 ^ w := by
    calc 2 = 2 ^ 1 := rfl
      _ ≤ 2 ^ w := Nat.pow_le_pow_right (by omega) hw
  have hv := val_digs hB n
  have hl := lim_digs hB n
  have ht := digs_last hB hn
  have hp : 0 < (digs (2 ^ w) n).length := by rw [digs_pos hB hn]; simp
  generalize digs (2 ^ w) n = X at *
  have e := val_take (2 ^ w) X (X.length - 1)
  rw [show X.length - 1 + 1 = X.length by omega, List.take_of_length_le (Nat.le_refl _), hv] at e
  have hlo := val_lt (hl.take (X.length - 1))
  rw [List.length_take, Nat.min_eq_left (by omega), ← Nat.pow_mul] at hlo
  rw [← Nat.pow_mul] at e
  have := blen_high hlo (Nat.pos_of_ne_zero ht)
  rwa [← e] at this
end Go.Proofs.YtipbcjnniamcgaaDoor.Ma

/- Plain numbers: guessing a digit of a quotient (Knuth's way). -/
namespace Go.Proofs.YtipbcjnniamcgaaDoor.Ma
set_option linter.unusedSimpArgs false
set_option linter.unusedVariables false

theorem val_top1 {B : Nat} {l : List Nat} {n : Nat} (hl : l.length = n + 1) : val B l = val B (l.take n) + B ^ n * l.getD n 0 := by
  have := val_take B l n
  rwa [List.take_of_length_le (by omega)] at this

/-- What is known where a digit is guessed: u has one limb more than v; v's highest limb is great; the quotient is a digit. -/
structure DigI (u v : List Nat) (n : Nat) : Prop where
  hu : u.length = n + 3
  hv : v.length = n + 2
  lu : Lim 4294967296 u
  lv : Lim 4294967296 v
  top : 2147483648 ≤ v.getD (n + 1) 0
  small : val 4294967296 u < 4294967296 * val 4294967296 v

section
variable {u v : List Nat} {n : Nat}
/-- The two highest limbs, the third. -/
def U2 (u : List Nat) (n : Nat) : Nat := u.getD (n + 2) 0 * 2 ^ 32 + u.getD (n + 1) 0
theorem DigI.facts (h : DigI u v n) : ∃ P lu lv : Nat, 0 < P ∧ lu < P ∧ lv < P ∧ val 4294967296 u = (U2 u n * 4294967296 + u.getD n 0) * P + lu ∧ val 4294967296 v = (v.getD (n + 1) 0 * 4294967296 + v.getD n 0) * P + lv := by
  have a1 := val_top1 (B := 4294967296) (l := u) (n := n + 2) h.hu
  have a2 := val_take 4294967296 u (n + 1)
  have a3 := val_take 4294967296 u n
  have b1 := val_top1 (B := 4294967296) (l := v) (n := n + 1) h.hv
  have b2 := val_take 4294967296 v n
  have l1 := val_lt (h.lu.take n)
  have l2 := val_lt (h.lv.take n)
  rw [List.length_take, Nat.min_eq_left (by have := h.hu; omega)] at l1
  rw [List.length_take, Nat.min_eq_left (by have := h.hv; omega)] at l2
  refine ⟨4294967296 ^ n, val 4294967296 (u.take n), val 4294967296 (v.take n), Nat.pow_pos (by omega), l1, l2, ?_, ?_⟩
  · rw [a1, a2, a3, U2, show 4294967296 ^ (n + 2) = 4294967296 ^ n * 4294967296 * 4294967296 by rw [Nat.pow_succ, Nat.pow_succ], show 4294967296 ^ (n + 1) = 4294967296 ^ n * 4294967296 by rw [Nat.pow_succ]]
    clear a1 a2 a3 b1 b2 l1 l2
    generalize val 4294967296 (u.take n) = t
    generalize 4294967296 ^ n = P
    generalize u.getD (n + 2) 0 = x
    generalize u.getD (n + 1) 0 = y
    generalize u.getD n 0 = z
    have e1 : P * 4294967296 * 4294967296 * x = x * P * 18446744073709551616 := by grind
    have e2 : P * 4294967296 * y = y * P * 4294967296 := by grind
    have e3 : ((x * 2 ^ 32 + y) * 4294967296 + z) * P = x * P * 18446744073709551616 + y * P * 4294967296 + z * P := by grind
    have e4 : P * z = z * P := Nat.mul_comm _ _
    omega
  · rw [b1, b2, Nat.pow_succ]
    clear a1 a2 a3 b1 b2 l1 l2
    generalize val 4294967296 (v.take n) = t
    generalize 4294967296 ^ n = P
    generalize v.getD (n + 1) 0 = x
    generalize v.getD n 0 = y
    have e1 : P * 4294967296 * x = x * P * 4294967296 := by grind
    have e2 : (x * 4294967296 + y) * P = x * P * 4294967296 + y * P := by grind
    have e4 : P * y = y * P := Nat.mul_comm _ _
    omega
theorem DigI.lims (h : DigI u v n) : u.getD (n + 2) 0 < 4294967296 ∧ u.getD (n + 1) 0 < 4294967296 ∧ u.getD n 0 < 4294967296 ∧ v.getD (n + 1) 0 < 4294967296 ∧ v.getD n 0 < 4294967296 :=
  ⟨h.lu.getD (by omega) _, h.lu.getD (by omega) _, h.lu.getD (by omega) _, h.lv.getD (by omega) _, h.lv.getD (by omega) _⟩
theorem DigI.vpos (h : DigI u v n) : 0 < val 4294967296 v := by
  obtain ⟨P, lu, lv, hP, _, _, _, e⟩ := h.facts
  have := h.top
  rw [e]
  have : 0 < (v.getD (n + 1) 0 * 4294967296 + v.getD n 0) * P := Nat.mul_pos (by omega) hP
  omega

/-- A guess, and what is left of the two highest limbs. -/
def GuessI (u v : List Nat) (n g r : Nat) : Prop := g * v.getD (n + 1) 0 + r = U2 u n ∧ val 4294967296 u / val 4294967296 v ≤ g ∧ g ≤ 4294967297

theorem DigI.start (h : DigI u v n) : GuessI u v n (U2 u n / v.getD (n + 1) 0) (U2 u n % v.getD (n + 1) 0) := by
  obtain ⟨P, lu, lv, hP, hlu, hlv, eu, ev⟩ := h.facts
  have hl := h.lims
  have ht := h.top
  have hs := h.small
  have hq : val 4294967296 u / val 4294967296 v * val 4294967296 v ≤ val 4294967296 u := Nat.div_mul_le_self _ _
  refine ⟨by rw [Nat.mul_comm]; exact Nat.div_add_mod _ _, ?_, ?_⟩
  · rw [Nat.le_div_iff_mul_le (by omega)]
    generalize val 4294967296 u / val 4294967296 v = q at *
    apply Nat.le_of_lt_succ
    -- q v1 B P <= q V <= u < (U2 + 1) B P
    have h1 : q * v.getD (n + 1) 0 * (4294967296 * P) ≤ q * val 4294967296 v := by
      rw [ev, Nat.mul_assoc]
      apply Nat.mul_le_mul_left
      rw [Nat.add_mul, Nat.mul_assoc]; omega
    have h2 : val 4294967296 u < (U2 u n + 1) * (4294967296 * P) := by
      rw [eu]
      have : (U2 u n * 4294967296 + u.getD n 0 + 1) * P ≤ (U2 u n + 1) * 4294967296 * P := Nat.mul_le_mul_right _ (by omega)
      rw [Nat.add_mul (_ + _) 1, Nat.one_mul, Nat.mul_assoc] at this
      omega
    exact Nat.lt_of_mul_lt_mul_right (Nat.lt_of_le_of_lt (Nat.le_trans h1 hq) h2)
  · -- the highest limb of u is at most that of v
    have h3 : u.getD (n + 2) 0 < v.getD (n + 1) 0 + 1 := by
      have k1 : u.getD (n + 2) 0 * (4294967296 * 4294967296 * P) ≤ val 4294967296 u := by
        rw [eu, U2]
        have : u.getD (n + 2) 0 * (4294967296 * 4294967296) * P ≤ ((u.getD (n + 2) 0 * 2 ^ 32 + u.getD (n + 1) 0) * 4294967296 + u.getD n 0) * P := Nat.mul_le_mul_right _ (by omega)
        rw [Nat.mul_assoc] at this
        omega
      have k2 : val 4294967296 v < (v.getD (n + 1) 0 + 1) * 4294967296 * P := by
        rw [ev]
        have : (v.getD (n + 1) 0 * 4294967296 + v.getD n 0 + 1) * P ≤ (v.getD (n + 1) 0 + 1) * 4294967296 * P := Nat.mul_le_mul_right _ (by omega)
        rw [Nat.add_mul (_ + _) 1, Nat.one_mul] at this
        omega
      have k3 : u.getD (n + 2) 0 * (4294967296 * 4294967296 * P) < (v.getD (n + 1) 0 + 1) * (4294967296 * 4294967296 * P) := by
        have : 4294967296 * val 4294967296 v < 4294967296 * ((v.getD (n + 1) 0 + 1) * 4294967296 * P) := Nat.mul_lt_mul_of_pos_left k2 (by omega)
        have e : 4294967296 * ((v.getD (n + 1) 0 + 1) * 4294967296 * P) = (v.getD (n + 1) 0 + 1) * (4294967296 * 4294967296 * P) := by
          rw [Nat.mul_assoc (_ + _), Nat.mul_left_comm, Nat.mul_assoc 4294967296 4294967296 P]
        omega
      exact Nat.lt_of_mul_lt_mul_right k3
    apply Nat.le_of_lt_succ
    apply Nat.div_lt_of_lt_mul
    unfold U2
    generalize v.getD (n + 1) 0 = v1 at *
    generalize u.getD (n + 2) 0 = x at *
    generalize u.getD (n + 1) 0 = y at *
    omega

theorem DigI.q_lt (h : DigI u v n) : val 4294967296 u / val 4294967296 v < 4294967296 := Nat.div_lt_of_lt_mul (by rw [Nat.mul_comm]; exact h.small)

/-- Too great a guess: the next one below. -/
theorem GuessI.step {g r : Nat} (h : DigI u v n) (hg : GuessI u v n g r) (hc : 4294967296 ≤ g ∨ r * 2 ^ 32 + u.getD n 0 < g * v.getD n 0) : 0 < g ∧ GuessI u v n (g - 1) (r + v.getD (n + 1) 0) := by
  obtain ⟨g1, g2, g3⟩ := hg
  have hlt : val 4294967296 u / val 4294967296 v < g := by
    rcases hc with hc | hc
    · exact Nat.lt_of_lt_of_le h.q_lt hc
    · obtain ⟨P, lu, lv, hP, hlu, hlv, eu, ev⟩ := h.facts
      apply Nat.div_lt_of_lt_mul
      rw [Nat.mul_comm, ev, eu]
      have k1 : (U2 u n * 4294967296 + u.getD n 0 + 1) * P ≤ g * (v.getD (n + 1) 0 * 4294967296 + v.getD n 0) * P := by
        apply Nat.mul_le_mul_right
        rw [Nat.mul_add, ← Nat.mul_assoc, ← g1, Nat.add_mul]
        omega
      rw [Nat.add_mul (_ + _) 1, Nat.one_mul] at k1
      rw [Nat.mul_add, ← Nat.mul_assoc]
      omega
  have hp : 0 < g := Nat.lt_of_le_of_lt (Nat.zero_le _) hlt
  refine ⟨hp, ?_, Nat.le_sub_one_of_lt hlt, by omega⟩
  have e : g * v.getD (n + 1) 0 = (g - 1) * v.getD (n + 1) 0 + v.getD (n + 1) 0 := by
    conv => lhs; rw [show g = g - 1 + 1 by omega, Nat.add_mul, Nat.one_mul]
  omega

/-- Where no more is mended, the guess is the digit or one more. -/
theorem GuessI.endA {g r : Nat} (h : DigI u v n) (hg : GuessI u v n g r) (hc : g * v.getD n 0 ≤ r * 2 ^ 32 + u.getD n 0) (hB : g < 4294967296) : g ≤ val 4294967296 u / val 4294967296 v + 1 := by
  obtain ⟨g1, g2, g3⟩ := hg
  obtain ⟨P, lu, lv, hP, hlu, hlv, eu, ev⟩ := h.facts
  have ht := h.top
  rcases Nat.eq_zero_or_pos g with e0 | e0
  · rw [e0]; exact Nat.zero_le _
  have key : (g - 1) * val 4294967296 v ≤ val 4294967296 u := by
    have e : g * val 4294967296 v = (g - 1) * val 4294967296 v + val 4294967296 v := by
      conv => lhs; rw [show g = g - 1 + 1 by omega, Nat.add_mul, Nat.one_mul]
    have k1 : g * val 4294967296 v ≤ (U2 u n * 4294967296 + u.getD n 0) * P + g * P := by
      rw [ev, Nat.mul_add, ← Nat.mul_assoc]
      have a1 : g * (v.getD (n + 1) 0 * 4294967296 + v.getD n 0) * P ≤ (U2 u n * 4294967296 + u.getD n 0) * P := by
        apply Nat.mul_le_mul_right
        rw [Nat.mul_add, ← Nat.mul_assoc, ← g1, Nat.add_mul]
        omega
      have a2 : g * lv ≤ g * P := Nat.mul_le_mul_left _ (by omega)
      omega
    have k2 : g * P ≤ val 4294967296 v := by
      rw [ev]
      have : g * P ≤ (v.getD (n + 1) 0 * 4294967296 + v.getD n 0) * P := Nat.mul_le_mul_right _ (by omega)
      omega
    omega
  have := (Nat.le_div_iff_mul_le h.vpos).2 key
  generalize val 4294967296 u / val 4294967296 v = q at *
  omega
theorem GuessI.endB {g r : Nat} (h : DigI u v n) (hg : GuessI u v n g r) (hr : 4294967296 ≤ r) (hB : g ≤ 4294967296) : g ≤ val 4294967296 u / val 4294967296 v := by
  obtain ⟨g1, g2, g3⟩ := hg
  obtain ⟨P, lu, lv, hP, hlu, hlv, eu, ev⟩ := h.facts
  have hl := h.lims
  rw [Nat.le_div_iff_mul_le h.vpos]
  have k2 : val 4294967296 v ≤ (v.getD (n + 1) 0 + 1) * 4294967296 * P := by
    rw [ev]
    have : (v.getD (n + 1) 0 * 4294967296 + v.getD n 0 + 1) * P ≤ (v.getD (n + 1) 0 + 1) * 4294967296 * P := Nat.mul_le_mul_right _ (by omega)
    rw [Nat.add_mul (_ + _) 1, Nat.one_mul] at this
    omega
  have k3 : g * val 4294967296 v ≤ g * ((v.getD (n + 1) 0 + 1) * 4294967296 * P) := Nat.mul_le_mul_left _ k2
  have k4 : g * ((v.getD (n + 1) 0 + 1) * 4294967296 * P) = (g * v.getD (n + 1) 0 + g) * 4294967296 * P := by
    rw [Nat.mul_assoc (_ + _), ← Nat.mul_assoc, Nat.mul_add, Nat.mul_one, Nat.mul_assoc (_ + _)]
  have k5 : (g * v.getD (n + 1) 0 + g) * 4294967296 * P ≤ (U2 u n * 4294967296 + u.getD n 0) * P := Nat.mul_le_mul_right _ (by omega)
  rw [eu]; omega
end

/-- Taking t times v from u: up to place i. -/
def LessI (u v : List Nat) (t i c b : Nat) (done : List Nat) : Prop :=
  done.length = i ∧ Lim 4294967296 done ∧ c < 4294967296 ∧ b ≤ 1 ∧ (v.length < i → c = 0) ∧ val 4294967296 (u.take i) + 4294967296 ^ i * (c + b) = val 4294967296 done + t * val 4294967296 (v.take i)
theorem LessI.zero (u v : List Nat) (t : Nat) : LessI u v t 0 0 0 [] := ⟨rfl, Lim.nil _, by omega, by omega, fun _ => rfl, by simp [val]⟩
theorem LessI.step {u v done : List Nat} {t i c b c1 d : Nat} (h : LessI u v t i c b done) (hu : Lim 4294967296 u) (hv : Lim 4294967296 v) (ht : t < 4294967296) (hc : c1 = c + v.getD i 0 * t) (hd : d = ((u.getD i 0 + 18446744073709551616 - c1 % 4294967296) % 18446744073709551616 + 18446744073709551616 - b) % 18446744073709551616) :
    LessI u v t (i + 1) (c1 / 2 ^ 32) (d / 2 ^ 32 % 2) (done ++ [d % 4294967296]) := by
  obtain ⟨h1, h2, h3, h4, h5, h6⟩ := h
  have hx := hu.getD (by omega) i
  have hy := hv.getD (by omega) i
  have hm : v.getD i 0 * t ≤ 4294967295 * 4294967295 := Nat.mul_le_mul (by omega) (by omega)
  refine ⟨by simp [h1], lim_snoc h2 (Nat.mod_lt _ (by omega)), by omega, by omega, fun hi => ?_, ?_⟩
  · have hz := getD_beyond (show v.length ≤ i by omega)
    rw [hz, Nat.zero_mul] at hc
    omega
  · have key2 : u.getD i 0 + 4294967296 * (c1 / 2 ^ 32 + d / 2 ^ 32 % 2) = d % 4294967296 + t * v.getD i 0 + (c + b) := by
      have : v.getD i 0 * t = t * v.getD i 0 := Nat.mul_comm _ _
      omega
    rw [val_take, val_take, val_snoc, h1, Nat.pow_succ]
    have e : 4294967296 ^ i * u.getD i 0 + 4294967296 ^ i * 4294967296 * (c1 / 2 ^ 32 + d / 2 ^ 32 % 2) = 4294967296 ^ i * (d % 4294967296) + 4294967296 ^ i * (t * v.getD i 0) + 4294967296 ^ i * (c + b) := by
      rw [Nat.mul_assoc, ← Nat.mul_add, ← Nat.mul_add, ← Nat.mul_add, key2]
    rw [Nat.mul_add t, Nat.mul_left_comm t]
    generalize 4294967296 ^ i * 4294967296 * (c1 / 2 ^ 32 + d / 2 ^ 32 % 2) = X at *
    generalize 4294967296 ^ i * (d % 4294967296) = Y at *
    generalize 4294967296 ^ i * (t * v.getD i 0) = Z at *
    generalize 4294967296 ^ i * (c + b) = V at *
    generalize 4294967296 ^ i * u.getD i 0 = S at *
    generalize t * val 4294967296 (v.take i) = T at *
    clear key2 hm hd hc h3 h4 h5
    omega
theorem LessI.end {u v done : List Nat} {t c b : Nat} (h : LessI u v t u.length c b done) (hl : v.length < u.length) : val 4294967296 u + 4294967296 ^ u.length * b = val 4294967296 done + t * val 4294967296 v := by
  obtain ⟨h1, h2, h3, h4, h5, h6⟩ := h
  rw [h5 hl, Nat.zero_add, List.take_of_length_le (Nat.le_refl _), List.take_of_length_le (by omega)] at h6
  exact h6
end Go.Proofs.YtipbcjnniamcgaaDoor.Ma

/- Plain numbers: shifting limbs. -/
namespace Go.Proofs.YtipbcjnniamcgaaDoor.Ma
set_option linter.unusedSimpArgs false
set_option linter.unusedVariables false

/-- A row in which a number is being put together: noughts, what is done, what is carried, noughts. -/
def rowS (q : Nat) (done : List Nat) (c m : Nat) : List Nat := List.replicate q 0 ++ (done ++ c :: List.replicate m 0)
theorem rowS_len {q c m : Nat} {done : List Nat} : (rowS q done c m).length = q + (done.length + (m + 1)) := by simp [rowS]
theorem rowS_get {q c m : Nat} {done : List Nat} : (rowS q done c m).getD (done.length + q) 0 = c := by
  unfold rowS
  rw [List.getD_eq_getElem?_getD, List.getElem?_append_right (by simp), List.getElem?_append_right (by simp)]
  simp
theorem rowS_set {q c m x : Nat} {done : List Nat} : (rowS q done c m).set (done.length + q) x = rowS q done x m := by
  unfold rowS
  rw [List.set_append_right _ _ (by simp), List.set_append_right _ _ (by simp)]
  simp
theorem rowS_get1 {q c m : Nat} {done : List Nat} : (rowS q done c (m + 1)).getD (done.length + q + 1) 0 = 0 := by
  unfold rowS
  rw [List.getD_eq_getElem?_getD, List.getElem?_append_right (by simp; omega), List.getElem?_append_right (by simp; omega)]
  rw [show done.length + q + 1 - (List.replicate q 0).length - done.length = 1 by simp; omega]
  simp [List.replicate_succ]
theorem rowS_set1 {q c m x : Nat} {done : List Nat} : (rowS q done c (m + 1)).set (done.length + q + 1) x = rowS q (done ++ [c]) x m := by
  unfold rowS
  rw [List.set_append_right _ _ (by simp; omega), List.set_append_right _ _ (by simp; omega)]
  rw [show done.length + q + 1 - (List.replicate q 0).length - done.length = 1 by simp; omega]
  simp [List.replicate_succ]
theorem rowS_zero {q m : Nat} : rowS q [] 0 m = List.replicate (q + (m + 1)) 0 := by
  unfold rowS
  rw [List.nil_append, ← List.replicate_succ, List.replicate_append_replicate]

def ShlI (a : List Nat) (p i c : Nat) (done : List Nat) : Prop := done.length = i ∧ Lim 4294967296 done ∧ c < 2 ^ p ∧ val 4294967296 done + 4294967296 ^ i * c = val 4294967296 (a.take i) * 2 ^ p
theorem ShlI.zero (a : List Nat) (p : Nat) : ShlI a p 0 0 [] := ⟨rfl, Lim.nil _, Nat.pow_pos (by omega), by simp [val]⟩
theorem or_low {c m k : Nat} (hc : c < 2 ^ k) (hm : m % 2 ^ k = 0) : c ||| m = c + m := by
  have e : m = 2 ^ k * (m / 2 ^ k) := by
    have := Nat.div_add_mod m (2 ^ k); omega
  rw [e, Nat.or_comm, ← Nat.two_pow_add_eq_or_of_lt hc, Nat.add_comm]
theorem shl_low {x p : Nat} (hp : p < 32) : x * 2 ^ p % 4294967296 % 2 ^ p = 0 := by
  have : (4294967296 : Nat) = 2 ^ p * 2 ^ (32 - p) := by rw [← Nat.pow_add, show p + (32 - p) = 32 by omega]
  rw [this, Nat.mod_mul_right_mod, Nat.mul_mod_left]
theorem ShlI.step {a done : List Nat} {p i c y : Nat} (h : ShlI a p i c done) (hp : p < 32) (ha : Lim 4294967296 a) (hy : y = a.getD i 0 * 2 ^ p) : c + y % 4294967296 < 4294967296 ∧ y / 2 ^ 32 < 2 ^ p ∧ ShlI a p (i + 1) (y / 2 ^ 32) (done ++ [c + y % 4294967296]) := by
  obtain ⟨h1, h2, h3, h4⟩ := h
  have hx := ha.getD (by omega) i
  have hB : (4294967296 : Nat) = 2 ^ p * 2 ^ (32 - p) := by rw [← Nat.pow_add, show p + (32 - p) = 32 by omega]
  have hz : y % 4294967296 % 2 ^ p = 0 := by rw [hy]; exact shl_low hp
  have k1 : c + y % 4294967296 < 4294967296 := by
    have h5 : y % 4294967296 < 4294967296 := Nat.mod_lt _ (by omega)
    generalize y % 4294967296 = m at *
    have e : m = 2 ^ p * (m / 2 ^ p) := by have := Nat.div_add_mod m (2 ^ p); omega
    have h6 : m / 2 ^ p < 2 ^ (32 - p) := by
      apply Nat.div_lt_of_lt_mul; rw [← hB]; exact h5
    have h7 : 2 ^ p * (m / 2 ^ p + 1) ≤ 2 ^ p * 2 ^ (32 - p) := Nat.mul_le_mul_left _ h6
    rw [← hB, Nat.mul_succ] at h7
    omega
  have k2 : y / 2 ^ 32 < 2 ^ p := by
    apply Nat.div_lt_of_lt_mul
    rw [hy]
    exact Nat.mul_lt_mul_of_pos_right hx (Nat.pow_pos (by omega))
  refine ⟨k1, k2, by simp [h1], lim_snoc h2 k1, k2, ?_⟩
  rw [val_snoc, h1, val_take, Nat.pow_succ, Nat.add_mul, ← h4, Nat.mul_assoc (4294967296 ^ i) (a.getD i 0), ← hy, Nat.mul_add]
  have e : 4294967296 ^ i * (y % 4294967296) + 4294967296 ^ i * 4294967296 * (y / 2 ^ 32) = 4294967296 ^ i * y := by
    rw [Nat.mul_assoc, ← Nat.mul_add]; congr 1; exact Nat.mod_add_div y 4294967296
  omega
theorem ShlI.end {a done : List Nat} {p q c : Nat} (h : ShlI a p a.length c done) (hp : p < 32) : tr (rowS q done c 0) = digs 4294967296 (val 4294967296 a * 2 ^ (32 * q + p)) := by
  obtain ⟨h1, h2, h3, h4⟩ := h
  have hc : c < 4294967296 := Nat.lt_of_lt_of_le h3 (by
    calc 2 ^ p ≤ 2 ^ 32 := Nat.pow_le_pow_right (by omega) (by omega)
      _ = 4294967296 := rfl)
  have hl : Lim 4294967296 (rowS q done c 0) := (lim_zeros (by omega) q).append (h2.append (Lim.cons hc (by simpa using Lim.nil 4294967296)))
  rw [tr_digs (by omega) hl]
  congr 1
  unfold rowS
  rw [List.replicate_zero, val_append, val_zeros, List.length_replicate, val_snoc, h1, h4, val_take_all _ _ _ (Nat.le_refl _), Nat.zero_add, Nat.pow_add, Nat.pow_mul]
  rw [show (2 : Nat) ^ 32 = 4294967296 from rfl]
  exact Nat.mul_left_comm _ _ _

/-- The row from place q on. -/
theorem val_drop_div {B : Nat} (hB : 2 ≤ B) {l : List Nat} (hl : Lim B l) {q : Nat} (hq : q ≤ l.length) : val B (l.drop q) = val B l / B ^ q := by
  have h1 := val_split B l q hq
  have h2 := val_lt (hl.take q)
  rw [List.length_take, Nat.min_eq_left hq] at h2
  rw [h1, Nat.add_mul_div_left _ _ (Nat.pow_pos (by omega)), Nat.div_eq_of_lt h2, Nat.zero_add]
def ShrI (N p i : Nat) (done : List Nat) : Prop := done.length = i ∧ Lim 4294967296 done ∧ val 4294967296 done = N / 2 ^ p % 4294967296 ^ i
theorem ShrI.step {a done : List Nat} {p i y : Nat} (h : ShrI (val 4294967296 a) p i done) (hp : p < 32) (ha : Lim 4294967296 a) (hi : i < a.length) (hy : y = a.getD i 0 + a.getD (i + 1) 0 * 2 ^ 32) : ShrI (val 4294967296 a) p (i + 1) (done ++ [y / 2 ^ p % 4294967296]) := by
  obtain ⟨h1, h2, h3⟩ := h
  refine ⟨by simp [h1], lim_snoc h2 (Nat.mod_lt _ (by omega)), ?_⟩
  rw [val_snoc, h1, h3, Nat.mod_pow_succ]
  congr 2
  -- the next digit
  have e1 : val 4294967296 a / 2 ^ p / 4294967296 ^ i = val 4294967296 (a.drop i) / 2 ^ p := by
    rw [val_drop_div (by omega) ha (by omega), Nat.div_div_eq_div_mul, Nat.div_div_eq_div_mul, Nat.mul_comm]
  rw [e1, val_drop 4294967296 hi]
  have e2 : ∃ M, val 4294967296 (a.drop (i + 1)) = a.getD (i + 1) 0 + 4294967296 * M := by
    by_cases h : i + 1 < a.length
    · exact ⟨_, val_drop 4294967296 h⟩
    · exact ⟨0, by rw [List.drop_of_length_le (by omega), getD_beyond (by omega)]; simp [val]⟩
  obtain ⟨M, e2⟩ := e2
  have hB : (4294967296 : Nat) = 2 ^ p * 2 ^ (32 - p) := by rw [← Nat.pow_add, show p + (32 - p) = 32 by omega]
  have e3 : a.getD i 0 + 4294967296 * val 4294967296 (a.drop (i + 1)) = y + 2 ^ p * (2 ^ (32 - p) * (4294967296 * M)) := by
    rw [e2, hy, Nat.mul_add, ← Nat.mul_assoc (2 ^ p), ← hB]
    omega
  rw [e3, Nat.add_mul_div_left _ _ (Nat.pow_pos (by omega)), ← Nat.mul_assoc, Nat.mul_comm _ 4294967296, Nat.mul_assoc, Nat.add_mul_mod_self_left]
theorem ShrI.end {a done : List Nat} {p : Nat} (h : ShrI (val 4294967296 a) p a.length done) (ha : Lim 4294967296 a) : tr done = digs 4294967296 (val 4294967296 a / 2 ^ p) := by
  obtain ⟨h1, h2, h3⟩ := h
  rw [tr_digs (by omega) h2, h3, Nat.mod_eq_of_lt (Nat.lt_of_le_of_lt (Nat.div_le_self _ _) (val_lt ha))]

/-- A row with a piece in the middle. -/
theorem mid_get {pre w post : List Nat} {i : Nat} (hi : i < w.length) : (pre ++ (w ++ post)).getD (pre.length + i) 0 = w.getD i 0 := by
  rw [List.getD_eq_getElem?_getD, List.getElem?_append_right (by omega), Nat.add_sub_cancel_left, List.getElem?_append_left hi, List.getD_eq_getElem?_getD]
theorem mid_set {pre w post : List Nat} {i x : Nat} (hi : i < w.length) : (pre ++ (w ++ post)).set (pre.length + i) x = pre ++ (w.set i x ++ post) := by
  rw [List.set_append_right _ _ (by omega), Nat.add_sub_cancel_left, List.set_append_left _ _ hi]
theorem part_get {done u : List Nat} {i : Nat} (hd : done.length = i) (hi : i < u.length) : (done ++ u.drop i).getD i 0 = u.getD i 0 := by
  rw [List.getD_eq_getElem?_getD, List.getElem?_append_right (by omega), hd, Nat.sub_self, List.getElem?_drop, Nat.add_zero, List.getD_eq_getElem?_getD]
theorem part_set {done u : List Nat} {i x : Nat} (hd : done.length = i) (hi : i < u.length) : (done ++ u.drop i).set i x = (done ++ [x]) ++ u.drop (i + 1) := by
  rw [List.set_append_right _ _ (by omega), hd, Nat.sub_self, List.drop_eq_getElem_cons hi, List.set_cons_zero, List.append_assoc]; rfl
end Go.Proofs.YtipbcjnniamcgaaDoor.Ma

/- Plain numbers: dividing, digit by digit from above. -/
namespace Go.Proofs.YtipbcjnniamcgaaDoor.Ma
set_option linter.unusedSimpArgs false
set_option linter.unusedVariables false

/-- What stands when the digits from place M on are known. -/
structure DivK (T V n k0 M : Nat) (ul ql : List Nat) : Prop where
  hM : M ≤ k0 + 1
  ulen : ul.length = n + k0 + 1
  ulim : Lim 4294967296 ul
  qlen : ql.length = k0 + 1
  qlim : Lim 4294967296 ql
  small : val 4294967296 (ul.drop M) < V
  whole : T = V * (4294967296 ^ M * val 4294967296 (ql.drop M)) + val 4294967296 ul

theorem DivK.seg {T V n k0 k : Nat} {ul ql : List Nat} (h : DivK T V n k0 (k + 1) ul ql) (hV : V < 4294967296 ^ n) :
    val 4294967296 ((ul.drop k).take (n + 1)) = val 4294967296 (ul.drop k) ∧ val 4294967296 (ul.drop k) < 4294967296 * V ∧ val 4294967296 (ul.drop (k + (n + 1))) = 0 := by
  have hM := h.hM
  have hu := h.ulen
  have h1 : val 4294967296 (ul.drop k) = ul.getD k 0 + 4294967296 * val 4294967296 (ul.drop (k + 1)) := val_drop 4294967296 (by omega)
  have hx := h.ulim.getD (by omega) k
  have hs := h.small
  have h2 : val 4294967296 (ul.drop k) < 4294967296 * V := by omega
  have h3 := val_split 4294967296 (ul.drop k) (n + 1) (by rw [List.length_drop]; omega)
  rw [List.drop_drop] at h3
  have h4 : 4294967296 * V < 4294967296 ^ (n + 1) := by rw [Nat.pow_succ]; omega
  have h5 : val 4294967296 (ul.drop (k + (n + 1))) = 0 := by
    rcases Nat.eq_zero_or_pos (val 4294967296 (ul.drop (k + (n + 1)))) with e | e
    · exact e
    · have : 4294967296 ^ (n + 1) * 1 ≤ 4294967296 ^ (n + 1) * val 4294967296 (ul.drop (k + (n + 1))) := Nat.mul_le_mul_left _ e
      omega
  rw [h5, Nat.mul_zero, Nat.add_zero] at h3
  exact ⟨h3.symm, h2, h5⟩

theorem DivK.step {T V n k0 k qd : Nat} {ul ql w : List Nat} (h : DivK T V n k0 (k + 1) ul ql) (hV : V < 4294967296 ^ n) (hV0 : 0 < V) (hw : w.length = n + 1) (lw : Lim 4294967296 w)
    (vw : val 4294967296 w = val 4294967296 ((ul.drop k).take (n + 1)) % V) (hq : qd = val 4294967296 ((ul.drop k).take (n + 1)) / V) :
    DivK T V n k0 k (ul.take k ++ (w ++ ul.drop (k + (n + 1)))) (ql.set k (qd % 4294967296)) := by
  obtain ⟨s1, s2, s3⟩ := h.seg hV
  rw [s1] at vw hq
  have hM := h.hM
  have hu := h.ulen
  have hql := h.qlen
  have hqd : qd < 4294967296 := by rw [hq]; exact Nat.div_lt_of_lt_mul (by rw [Nat.mul_comm]; exact s2)
  have e0 : (ul.take k ++ (w ++ ul.drop (k + (n + 1)))).drop k = w ++ ul.drop (k + (n + 1)) := by
    rw [List.drop_append_of_le_length (by rw [List.length_take]; omega), List.drop_of_length_le (by rw [List.length_take]; omega), List.nil_append]
  have e1 : val 4294967296 (w ++ ul.drop (k + (n + 1))) = val 4294967296 (ul.drop k) % V := by rw [val_append, s3, Nat.mul_zero, Nat.add_zero, vw]
  refine ⟨by omega, by simp [hw]; omega, (h.ulim.take k).append (lw.append (h.ulim.drop _)), by simpa using hql, lim_set h.qlim _ _ (Nat.mod_lt _ (by omega)), ?_, ?_⟩
  · rw [e0, e1]; exact Nat.mod_lt _ hV0
  · rw [val_append, e1, List.length_take, Nat.min_eq_left (by omega), Nat.mod_eq_of_lt hqd]
    rw [val_drop 4294967296 (show k < (ql.set k qd).length by simp; omega), drop_set, getD_set, if_pos ⟨rfl, by omega⟩]
    have hw0 := h.whole
    rw [val_split 4294967296 ul k (by omega)] at hw0
    have hdm := Nat.div_add_mod (val 4294967296 (ul.drop k)) V
    rw [← hq] at hdm
    rw [hw0, Nat.pow_succ]
    generalize 4294967296 ^ k = P at *
    generalize val 4294967296 (ql.drop (k + 1)) = R at *
    generalize val 4294967296 (ul.take k) = X at *
    generalize val 4294967296 (ul.drop k) % V = Z at *
    generalize val 4294967296 (ul.drop k) = Y at *
    rw [← hdm]
    grind

theorem DivK.end {T V n k0 : Nat} {ul ql : List Nat} (h : DivK T V n k0 0 ul ql) : val 4294967296 ql = T / V ∧ val 4294967296 ul = T % V := by
  have hw := h.whole
  have hs := h.small
  rw [List.drop_zero, Nat.pow_zero, Nat.one_mul] at hw
  rw [List.drop_zero] at hs
  rw [hw, Nat.mul_add_div (by omega), Nat.mul_add_mod, Nat.div_eq_of_lt hs, Nat.mod_eq_of_lt hs]
  exact ⟨rfl, rfl⟩

/-- Shifted so that the highest limb is great. -/
theorem shifted {Bv : Nat} {s : Nat} (hB : 0 < Bv) (hs : s = 32 - blen ((digs 4294967296 Bv).getD ((digs 4294967296 Bv).length - 1) 0)) :
    (digs 4294967296 (Bv * 2 ^ s)).length = (digs 4294967296 Bv).length ∧ Bv * 2 ^ s < 4294967296 ^ (digs 4294967296 Bv).length ∧ 2147483648 ≤ (digs 4294967296 (Bv * 2 ^ s)).getD ((digs 4294967296 Bv).length - 1) 0 := by
  have hb : blen Bv = 32 * ((digs 4294967296 Bv).length - 1) + blen ((digs 4294967296 Bv).getD ((digs 4294967296 Bv).length - 1) 0) := blen_digs (w := 32) (by omega) hB
  have hn : 0 < (digs 4294967296 Bv).length := by rw [digs_pos (by omega) hB]; simp
  have ht := (lim_digs (B := 4294967296) (by omega) Bv).getD (by omega) ((digs 4294967296 Bv).length - 1)
  have htl : blen ((digs 4294967296 Bv).getD ((digs 4294967296 Bv).length - 1) 0) ≤ 32 := blen_le.2 (by omega)
  have hV : 0 < Bv * 2 ^ s := Nat.mul_pos hB (Nat.pow_pos (by omega))
  have hbv : blen (Bv * 2 ^ s) = s + blen Bv := by
    have := blen_high (lo := 0) (hi := Bv) (s := s) (Nat.pow_pos (by omega)) hB
    rwa [Nat.zero_add, Nat.mul_comm] at this
  have hb2 : blen (Bv * 2 ^ s) = 32 * ((digs 4294967296 (Bv * 2 ^ s)).length - 1) + blen ((digs 4294967296 (Bv * 2 ^ s)).getD ((digs 4294967296 (Bv * 2 ^ s)).length - 1) 0) := blen_digs (w := 32) (by omega) hV
  have hn2 : 0 < (digs 4294967296 (Bv * 2 ^ s)).length := by rw [digs_pos (by omega) hV]; simp
  have ht2 := (lim_digs (B := 4294967296) (by omega) (Bv * 2 ^ s)).getD (by omega) ((digs 4294967296 (Bv * 2 ^ s)).length - 1)
  have htl2 : blen ((digs 4294967296 (Bv * 2 ^ s)).getD ((digs 4294967296 (Bv * 2 ^ s)).length - 1) 0) ≤ 32 := blen_le.2 (by omega)
  have htp2 : 0 < blen ((digs 4294967296 (Bv * 2 ^ s)).getD ((digs 4294967296 (Bv * 2 ^ s)).length - 1) 0) := blen_pos.2 (Nat.pos_of_ne_zero (digs_last (by omega) hV))
  have e1 : (digs 4294967296 (Bv * 2 ^ s)).length = (digs 4294967296 Bv).length := by omega
  have e2 : Bv * 2 ^ s < 4294967296 ^ (digs 4294967296 Bv).length := by
    have h1 : blen (Bv * 2 ^ s) ≤ 32 * (digs 4294967296 Bv).length := by omega
    rw [blen_le, Nat.pow_mul] at h1; exact h1
  refine ⟨e1, e2, ?_⟩
  rw [e1] at hb2 htp2
  have e3 : blen ((digs 4294967296 (Bv * 2 ^ s)).getD ((digs 4294967296 Bv).length - 1) 0) = 32 := by omega
  have := blen_low (blen_pos.1 htp2)
  rw [e3] at this
  exact this
end Go.Proofs.YtipbcjnniamcgaaDoor.Ma

/- Plain numbers: the reference's division, bit by bit. -/
namespace Go.Proofs.YtipbcjnniamcgaaDoor.Ma
set_option linter.unusedSimpArgs false
set_option linter.unusedVariables false

/-- Dividing by one limb: the places from k on are done; r is left. -/
def DivJ (a : List Nat) (d k r : Nat) (out : List Nat) : Prop :=
  out.length = a.length ∧ Lim 65536 out ∧ r < d ∧ val 65536 (a.drop k) = val 65536 (out.drop k) * d + r
theorem DivJ.zero (a : List Nat) {d : Nat} (hd : 0 < d) : DivJ a d a.length 0 (List.replicate a.length 0) :=
  ⟨by simp, lim_zeros (by omega) _, hd, by rw [List.drop_of_length_le (Nat.le_refl _), List.drop_of_length_le (by simp)]; simp [val]⟩
theorem DivJ.step {a out : List Nat} {d k r s : Nat} (h : DivJ a d (k + 1) r out) (hk : k < a.length) (ha : Lim 65536 a) (hd : d < 65536) (hs : s = r * 65536 + a.getD k 0) :
    DivJ a d k (s % d) (out.set k (s / d % 65536)) := by
  obtain ⟨h1, h2, h3, h4⟩ := h
  have hx := ha.getD (by omega) k
  have hq : s / d < 65536 := by
    apply Nat.div_lt_of_lt_mul
    rw [hs]
    have : r + 1 ≤ d := h3
    have : (r + 1) * 65536 ≤ d * 65536 := Nat.mul_le_mul_right _ this
    omega
  refine ⟨by simpa using h1, lim_set h2 _ _ (Nat.mod_lt _ (by omega)), Nat.mod_lt _ (by omega), ?_⟩
  rw [Nat.mod_eq_of_lt hq, val_drop _ hk, h4, val_drop _ (show k < (out.set k (s / d)).length by simp; omega), drop_set, getD_set, if_pos ⟨rfl, by omega⟩]
  have e := Nat.div_add_mod s d
  rw [Nat.add_mul, Nat.mul_comm (s / d) d, Nat.mul_add, Nat.mul_assoc]
  omega
theorem DivJ.end {a out : List Nat} {d r : Nat} (h : DivJ a d 0 r out) : tr out = digs 65536 (val 65536 a / d) ∧ r = val 65536 a % d := by
  obtain ⟨h1, h2, h3, h4⟩ := h
  rw [List.drop_zero, List.drop_zero] at h4
  rw [tr_digs (by omega) h2, h4, Nat.mul_comm, Nat.mul_add_div (by omega), Nat.mul_add_mod, Nat.div_eq_of_lt h3, Nat.mod_eq_of_lt h3, Nat.add_zero]
  exact ⟨rfl, rfl⟩

theorem digs_get {B n : Nat} (hB : 2 ≤ B) (j : Nat) : (digs B n).getD j 0 = n / B ^ j % B := by
  by_cases h : j < (digs B n).length
  · have h1 := val_drop_div hB (lim_digs hB n) (q := j) (by omega)
    rw [val_digs hB] at h1
    rw [← h1, val_drop B h, Nat.add_mul_mod_self_left, Nat.mod_eq_of_lt ((lim_digs hB n).getD (by omega) j)]
  · rw [getD_beyond (by omega)]
    have h1 := val_lt (lim_digs hB n)
    rw [val_digs hB] at h1
    have h2 : B ^ (digs B n).length ≤ B ^ j := Nat.pow_le_pow_right (by omega) (by omega)
    rw [Nat.div_eq_of_lt (by omega), Nat.zero_mod]
theorem bit_of {n k : Nat} : (digs 65536 n).getD (k / 16) 0 / 2 ^ (k % 16) % 2 = n / 2 ^ k % 2 := by
  rw [digs_get (by omega)]
  have e : 2 ^ k = 65536 ^ (k / 16) * 2 ^ (k % 16) := by
    conv => lhs; rw [← Nat.div_add_mod k 16, Nat.pow_add, Nat.pow_mul]
  rw [e, ← Nat.div_div_eq_div_mul]
  generalize n / 65536 ^ (k / 16) = x
  have ht : k % 16 < 16 := Nat.mod_lt _ (by omega)
  generalize k % 16 = t at *
  have h16 : (65536 : Nat) = 2 ^ t * (2 * 2 ^ (15 - t)) := by
    rw [Nat.mul_comm 2, ← Nat.pow_succ, ← Nat.pow_add, show t + (15 - t + 1) = 16 by omega]
  rw [h16, Nat.mod_mul_right_div_self, Nat.mod_mul_right_mod]
theorem bit_len {n k : Nat} (h : 2 ^ k ≤ n) : k / 16 < (digs 65536 n).length := by
  apply Nat.lt_of_not_le
  intro hle
  have h1 := val_lt (lim_digs (B := 65536) (by omega) n)
  rw [val_digs (by omega)] at h1
  have h2 : (65536 : Nat) ^ (digs 65536 n).length ≤ 65536 ^ (k / 16) := Nat.pow_le_pow_right (by omega) hle
  have h3 : (65536 : Nat) ^ (k / 16) ≤ 2 ^ k := by
    rw [show (65536 : Nat) = 2 ^ 16 from rfl, ← Nat.pow_mul]
    exact Nat.pow_le_pow_right (by omega) (Nat.mul_div_le _ _)
  omega

/-- Doubling in place: places up to i. -/
def DblI (x : List Nat) (c0 i c : Nat) (done : List Nat) : Prop := done.length = i ∧ Lim 65536 done ∧ c ≤ 1 ∧ val 65536 done + 65536 ^ i * c = 2 * val 65536 (x.take i) + c0 ∧ (∀ j, j + 1 = i → c = 0 → x.getD j 0 ≠ 0 → done.getD j 0 ≠ 0)
theorem DblI.zero (x : List Nat) {c0 : Nat} (h : c0 ≤ 1) : DblI x c0 0 c0 [] := ⟨rfl, Lim.nil _, h, by simp [val], fun j h => by omega⟩
theorem DblI.step {x done : List Nat} {c0 i c s : Nat} (h : DblI x c0 i c done) (hx : Lim 65536 x) (hs : s = c + 2 * x.getD i 0) : DblI x c0 (i + 1) (s / 65536) (done ++ [s % 65536]) := by
  obtain ⟨h1, h2, h3, h4, _⟩ := h
  have a := hx.getD (by omega) i
  refine ⟨by simp [h1], lim_snoc h2 (Nat.mod_lt _ (by omega)), by omega, ?_, fun j hj hc hn => ?_⟩
  · rw [val_snoc, h1, Nat.pow_succ, carry_step (B := 65536) (c := 0) rfl, val_take, hs, Nat.mul_add, Nat.mul_add, Nat.mul_left_comm]
    omega
  · rw [getD_snoc, if_neg (by omega), if_pos (by omega)]
    rw [show j = i by omega] at hn
    omega
theorem DblI.end {R c0 c : Nat} {done : List Nat} (h : DblI (digs 65536 R) c0 (digs 65536 R).length c done) (hc0 : c0 ≤ 1) : (if 0 < c then done ++ [c] else done) = digs 65536 (2 * R + c0) := by
  obtain ⟨h1, h2, h3, h4, h5⟩ := h
  rw [val_take_all _ _ _ (Nat.le_refl _), val_digs (by omega)] at h4
  by_cases hc : 0 < c
  · rw [if_pos hc]
    have e := digs_of (B := 65536) (by omega) (lim_snoc h2 (show c < 65536 by omega)) (.inr (by rw [getD_snoc]; simp; omega))
    rw [val_snoc, h1, h4] at e
    exact e
  · rw [if_neg hc]
    obtain rfl : c = 0 := by omega
    rw [Nat.mul_zero, Nat.add_zero] at h4
    rw [← h4]
    refine digs_of (by omega) h2 ?_
    rcases Nat.eq_zero_or_pos R with e | e
    · left; rw [e, digs_zero] at h1; exact List.eq_nil_of_length_eq_zero h1
    · right
      have hp : 0 < (digs 65536 R).length := by rw [digs_pos (by omega) e]; simp
      rw [h1]
      exact h5 _ (by omega) rfl (digs_last (by omega) e)

/-- One bit more. -/
theorem long_step {A V k : Nat} (hV : 0 < V) : (V ≤ 2 * (A / 2 ^ (k + 1) % V) + A / 2 ^ k % 2 → A / 2 ^ k % V = 2 * (A / 2 ^ (k + 1) % V) + A / 2 ^ k % 2 - V ∧ A / 2 ^ k / V = 2 * (A / 2 ^ (k + 1) / V) + 1) ∧
    (2 * (A / 2 ^ (k + 1) % V) + A / 2 ^ k % 2 < V → A / 2 ^ k % V = 2 * (A / 2 ^ (k + 1) % V) + A / 2 ^ k % 2 ∧ A / 2 ^ k / V = 2 * (A / 2 ^ (k + 1) / V)) := by
  have e1 : A / 2 ^ (k + 1) = A / 2 ^ k / 2 := by rw [Nat.pow_succ, Nat.div_div_eq_div_mul]
  rw [e1]
  generalize A / 2 ^ k = Y
  have e2 := Nat.div_add_mod Y 2
  have e3 := Nat.div_add_mod (Y / 2) V
  have e4 := Nat.mod_lt (Y / 2) hV
  have e5 : Y % 2 < 2 := Nat.mod_lt _ (by omega)
  generalize Y / 2 / V = q at *
  generalize Y / 2 % V = r at *
  have e6 : Y = (2 * r + Y % 2) + V * (2 * q) := by
    have : V * (2 * q) = 2 * (V * q) := Nat.mul_left_comm _ _ _
    omega
  constructor
  · intro h
    have e7 : Y = (2 * r + Y % 2 - V) + V * (2 * q + 1) := by rw [Nat.mul_add, Nat.mul_one]; omega
    generalize 2 * r + Y % 2 - V = s at *
    have hs : s < V := by
      have : V * (2 * q + 1) = V * (2 * q) + V := by rw [Nat.mul_add, Nat.mul_one]
      omega
    conv => lhs; rw [e7]
    rw [Nat.add_mul_mod_self_left, Nat.mod_eq_of_lt hs]
    refine ⟨rfl, ?_⟩
    rw [e7, Nat.add_mul_div_left _ _ hV, Nat.div_eq_of_lt hs, Nat.zero_add]
  · intro h
    generalize 2 * r + Y % 2 = s at *
    rw [e6, Nat.add_mul_mod_self_left, Nat.mod_eq_of_lt h, Nat.add_mul_div_left _ _ hV, Nat.div_eq_of_lt h, Nat.zero_add]
    exact ⟨rfl, rfl⟩

/-- A bit of the quotient. -/
theorem bit_set {ql : List Nat} {k M : Nat} (hl : Lim 65536 ql) (hk : k / 16 < ql.length) (hv : val 65536 ql = M * 2 ^ (k + 1)) :
    (ql.getD (k / 16) 0 ||| 2 ^ (k % 16)) = ql.getD (k / 16) 0 + 2 ^ (k % 16) ∧ ql.getD (k / 16) 0 + 2 ^ (k % 16) < 65536 ∧ val 65536 (ql.set (k / 16) (ql.getD (k / 16) 0 + 2 ^ (k % 16))) = (2 * M + 1) * 2 ^ k := by
  have ht : k % 16 < 16 := Nat.mod_lt _ (by omega)
  have e : 2 ^ k = 65536 ^ (k / 16) * 2 ^ (k % 16) := by
    conv => lhs; rw [← Nat.div_add_mod k 16, Nat.pow_add, Nat.pow_mul]
  have hd := val_drop_div (B := 65536) (by omega) hl (q := k / 16) (by omega)
  rw [val_drop 65536 hk] at hd
  have hg := hl.getD (by omega) (k / 16)
  have hs := val_set (B := 65536) (ql.getD (k / 16) 0 + 2 ^ (k % 16)) hk
  rw [Nat.mul_add, ← e] at hs
  have hv2 : val 65536 ql / 65536 ^ (k / 16) = M * (2 * 2 ^ (k % 16)) := by
    rw [hv, Nat.pow_succ, e, Nat.mul_comm (65536 ^ (k / 16)), Nat.mul_right_comm, ← Nat.mul_assoc, Nat.mul_div_cancel _ (Nat.pow_pos (by omega)), Nat.mul_comm (2 ^ (k % 16)) 2]
  rw [hv2] at hd
  generalize ql.getD (k / 16) 0 = g at *
  generalize k % 16 = t at *
  have h16 : (65536 : Nat) = 2 ^ (t + 1) * 2 ^ (15 - t) := by rw [← Nat.pow_add, show t + 1 + (15 - t) = 16 by omega]
  have hp : (2 : Nat) ^ (t + 1) = 2 * 2 ^ t := by rw [Nat.pow_succ, Nat.mul_comm]
  have hz : g % 2 ^ (t + 1) = 0 := by
    generalize val 65536 (ql.drop (k / 16 + 1)) = Z at *
    have h1 : (g + 65536 * Z) % 2 ^ (t + 1) = 0 := by rw [hd, hp, Nat.mul_mod_left]
    rw [h16, Nat.mul_assoc, Nat.add_mul_mod_self_left] at h1
    exact h1
  have hpos : 0 < 2 ^ t := Nat.pow_pos (by omega)
  refine ⟨?_, ?_, ?_⟩
  · rw [Nat.or_comm, or_low (c := 2 ^ t) (k := t + 1) (by omega) hz, Nat.add_comm]
  · have h2 : g = 2 ^ (t + 1) * (g / 2 ^ (t + 1)) := by have := Nat.div_add_mod g (2 ^ (t + 1)); omega
    have h3 : g / 2 ^ (t + 1) < 2 ^ (15 - t) := Nat.div_lt_of_lt_mul (by rw [← h16]; exact hg)
    have h4 : 2 ^ (t + 1) * (g / 2 ^ (t + 1) + 1) ≤ 2 ^ (t + 1) * 2 ^ (15 - t) := Nat.mul_le_mul_left _ h3
    rw [← h16, Nat.mul_add, Nat.mul_one] at h4
    omega
  · rw [Nat.add_mul, Nat.one_mul, Nat.mul_comm 2 M, Nat.mul_assoc]
    rw [hv, Nat.pow_succ, Nat.mul_comm (2 ^ k) 2] at hs
    omega
end Go.Proofs.YtipbcjnniamcgaaDoor.Ma

/- Greatest common divisors, and how they are put together: Euclid's steps. -/
namespace Go.Proofs.YtipbcjnniamcgaaDoor.Ma
set_option linter.unusedSimpArgs false
set_option linter.unusedVariables false

theorem gcd_step (a b : Int) : Int.gcd b (a % b) = Int.gcd a b := by
  rw [Int.gcd_comm a b]
  apply Nat.dvd_antisymm
  · refine Int.dvd_gcd (Int.gcd_dvd_left _ _) ?_
    have h1 := Int.gcd_dvd_left b (a % b)
    have h2 := Int.gcd_dvd_right b (a % b)
    have h3 := Int.dvd_add (Int.dvd_mul_of_dvd_left (c := a / b) h1) h2
    rwa [Int.mul_ediv_add_emod] at h3
  · refine Int.dvd_gcd (Int.gcd_dvd_left _ _) ?_
    have h1 := Int.gcd_dvd_left b a
    have h2 := Int.gcd_dvd_right b a
    have h3 := Int.dvd_sub h2 (Int.dvd_mul_of_dvd_left (c := a / b) h1)
    rwa [← Int.emod_def] at h3

/-- Where Euclid's steps stand. -/
def SzI (x y a b u v : Int) : Prop :=
  (a = x ∧ b = y ∧ u = 1 ∧ v = 0) ∨ (a = y ∧ u = 0 ∧ v = 1 ∧ 0 ≤ b ∧ b < (y.natAbs : Int)) ∨
  (0 < a ∧ 0 ≤ b ∧ b < a ∧ a < (y.natAbs : Int) ∧ (u.natAbs : Int) ≤ 3 * (y.natAbs : Int) ∧ a * (v.natAbs : Int) + b * (u.natAbs : Int) ≤ 3 * (y.natAbs : Int))
def BzI (x y a b u v : Int) : Prop := Int.gcd a b = Int.gcd x y ∧ y ∣ a - u * x ∧ y ∣ b - v * x ∧ SzI x y a b u v

theorem BzI.start (x y : Int) : BzI x y x y 1 0 := by
  refine ⟨rfl, ?_, ?_, .inl ⟨rfl, rfl, rfl, rfl⟩⟩
  · rw [Int.one_mul, Int.sub_self]; exact Int.dvd_zero _
  · rw [Int.zero_mul, Int.sub_zero]; exact Int.dvd_refl _
theorem SzI.step {x y a b u v : Int} (hy : y ≠ 0) (hb : b ≠ 0) (h : SzI x y a b u v) : SzI x y b (a % b) v (u - a / b * v) := by
  have m0 := Int.emod_nonneg a hb
  have m1 := Int.emod_lt a hb
  have m2 := Int.mul_ediv_add_emod a b
  rcases h with ⟨rfl, rfl, rfl, rfl⟩ | ⟨rfl, rfl, rfl, h1, h2⟩ | ⟨h1, h2, h3, h4, h5, h6⟩
  · exact .inr (.inl ⟨rfl, rfl, by simp, m0, by omega⟩)
  · refine .inr (.inr ⟨by omega, m0, by omega, h2, by omega, ?_⟩)
    have e : (0 - a / b * 1 : Int).natAbs = (a / b).natAbs := by simp
    rw [e]
    have e2 : b * ((a / b).natAbs : Int) = ((b * (a / b)).natAbs : Int) := by
      rw [Int.natAbs_mul, Int.natCast_mul]
      congr 1; omega
    rw [e2]
    generalize b * (a / b) = w at *
    simp only [Int.natAbs_one]
    omega
  · have hb0 : 0 < b := by omega
    have hq : 0 ≤ a / b := Int.ediv_nonneg (by omega) h2
    have hv : (v.natAbs : Int) ≤ 3 * (y.natAbs : Int) := by
      have e1 : 0 ≤ b * (u.natAbs : Int) := Int.mul_nonneg h2 (by omega)
      have e2 : 1 * (v.natAbs : Int) ≤ a * (v.natAbs : Int) := Int.mul_le_mul_of_nonneg_right (by omega) (by omega)
      omega
    refine .inr (.inr ⟨hb0, m0, by omega, by omega, hv, ?_⟩)
    have t1 : ((u - a / b * v).natAbs : Int) ≤ (u.natAbs : Int) + a / b * (v.natAbs : Int) := by
      have := Int.natAbs_sub_le u (a / b * v)
      rw [Int.natAbs_mul] at this
      have e : (((a / b).natAbs * v.natAbs : Nat) : Int) = a / b * (v.natAbs : Int) := by rw [Int.natCast_mul]; congr 1; omega
      omega
    have t2 := Int.mul_le_mul_of_nonneg_left t1 (Int.le_of_lt hb0)
    have t3 : b * ((u.natAbs : Int) + a / b * (v.natAbs : Int)) + a % b * (v.natAbs : Int) = b * (u.natAbs : Int) + (b * (a / b) + a % b) * (v.natAbs : Int) := by grind
    rw [m2] at t3
    omega
theorem BzI.step {x y a b u v : Int} (hy : y ≠ 0) (hb : b ≠ 0) (h : BzI x y a b u v) : BzI x y b (a % b) v (u - a / b * v) := by
  obtain ⟨h1, h2, h3, h4⟩ := h
  refine ⟨by rw [gcd_step, h1], h3, ?_, h4.step hy hb⟩
  have e : a % b - (u - a / b * v) * x = (a - u * x) - (b - v * x) * (a / b) := by
    rw [Int.emod_def]; grind
  rw [e]
  exact Int.dvd_sub h2 (Int.dvd_mul_of_dvd_left h3)
theorem SzI.bound {x y a b u v : Int} (h : SzI x y a b u v) (hy : y ≠ 0) : a.natAbs ≤ max x.natAbs y.natAbs ∧ b.natAbs ≤ y.natAbs ∧ u.natAbs ≤ 3 * y.natAbs ∧ v.natAbs ≤ 3 * y.natAbs := by
  rcases h with ⟨rfl, rfl, rfl, rfl⟩ | ⟨rfl, rfl, rfl, h1, h2⟩ | ⟨h1, h2, h3, h4, h5, h6⟩
  · simp only [Int.natAbs_one, Int.natAbs_zero]; omega
  · simp only [Int.natAbs_one, Int.natAbs_zero]; omega
  · have e1 : 0 ≤ b * (u.natAbs : Int) := Int.mul_nonneg h2 (by omega)
    have e2 : 1 * (v.natAbs : Int) ≤ a * (v.natAbs : Int) := Int.mul_le_mul_of_nonneg_right (by omega) (by omega)
    omega
/-- At the end. -/
theorem BzI.last {x y a u v : Int} (h : BzI x y a 0 u v) (hy : y ≠ 0) : a ≠ 0 ∧ a.natAbs = Int.gcd x y := by
  have e : a.natAbs = Int.gcd x y := by rw [← h.1, Int.gcd_zero_right]
  refine ⟨fun z => ?_, e⟩
  subst z
  have := Int.gcd_eq_zero_iff.1 (show Int.gcd x y = 0 by rw [← e]; rfl)
  exact hy this.2

/-- How the greatest common divisor is put together. -/
def Bez (x y u v : Int) : Prop := 0 ≤ u ∧ u < (y.natAbs : Int) / (Int.gcd x y : Int) ∧ u * x + v * y = (Int.gcd x y : Int)
theorem bez_end {x y g u : Int} (hy : y ≠ 0) (hg : g = (Int.gcd x y : Int)) (hu : y ∣ g - u * x) :
    0 < (y.natAbs : Int) / g ∧ Bez x y (u % ((y.natAbs : Int) / g)) ((g - u % ((y.natAbs : Int) / g) * x) / y) := by
  have hg0 : 0 < g := by
    have : Int.gcd x y ≠ 0 := fun z => hy (Int.gcd_eq_zero_iff.1 z).2
    omega
  have d1 : g ∣ x := hg ▸ Int.gcd_dvd_left x y
  have d2 : g ∣ y := hg ▸ Int.gcd_dvd_right x y
  obtain ⟨x', rfl⟩ := d1
  obtain ⟨m, hm⟩ : g ∣ (y.natAbs : Int) := Int.dvd_natAbs.2 d2
  have e : (y.natAbs : Int) / g = m := by rw [hm, Int.mul_ediv_cancel_left _ (by omega)]
  rw [e]
  have hm0 : 0 < m := by
    rcases Int.lt_trichotomy m 0 with h | h | h
    · have := Int.mul_neg_of_pos_of_neg hg0 h; omega
    · subst h; rw [Int.mul_zero] at hm; omega
    · exact h
  have d3 : y ∣ g - u % m * (g * x') := by
    have e2 : g - u % m * (g * x') = (g - u * (g * x')) + (g * m) * (u / m * x') := by
      rw [Int.emod_def]; grind
    rw [e2, ← hm]
    exact Int.dvd_add hu (Int.dvd_mul_of_dvd_left (Int.dvd_natAbs.2 (Int.dvd_refl y)))
  refine ⟨hm0, Int.emod_nonneg _ (by omega), by rw [← hg, e]; exact Int.emod_lt_of_pos _ hm0, ?_⟩
  rw [Int.ediv_mul_cancel d3, ← hg]; omega
end Go.Proofs.YtipbcjnniamcgaaDoor.Ma
