/- Plain numbers: digits to a base and what they are worth. -/
namespace Go.Proofs.Ytipbcjnniamcgaa.Ma
set_option linter.unusedSimpArgs false
set_option linter.unusedVariables false

/-- What a row of digits is worth. -/
def val (B : Nat) : List Nat → Nat
  | [] => 0
  | x :: r => x + B * val B r

/-- Digits below the base. -/
def Lim (B : Nat) (l : List Nat) : Prop := ∀ x, x ∈ l → x < B

/-- The digits of a number, low one first, no high noughts. -/
def digs (B : Nat) (n : Nat) : List Nat := if h : n = 0 ∨ B < 2 then [] else n % B :: digs B (n / B)
termination_by n
decreasing_by exact Nat.div_lt_self (by omega) (by omega)

/-- Without high noughts. -/
def tr : List Nat → List Nat
  | [] => []
  | x :: r => match tr r with
    | [] => if x = 0 then [] else [x]
    | y :: t => x :: y :: t

theorem digs_zero (B : Nat) : digs B 0 = [] := by rw [digs]; simp
theorem digs_pos {B n : Nat} (hB : 2 ≤ B) (hn : 0 < n) : digs B n = n % B :: digs B (n / B) := by
  rw [digs, dif_neg (by omega)]
theorem digs_nil {B n : Nat} (hB : 2 ≤ B) : digs B n = [] ↔ n = 0 := by
  constructor
  · intro h
    rcases Nat.eq_zero_or_pos n with e | e
    · exact e
    · rw [digs_pos hB e] at h; cases h
  · rintro rfl; exact digs_zero B

theorem Lim.tail {B x : Nat} {l : List Nat} (h : Lim B (x :: l)) : Lim B l := fun y hy => h y (List.mem_cons_of_mem _ hy)
theorem Lim.head {B x : Nat} {l : List Nat} (h : Lim B (x :: l)) : x < B := h x (List.mem_cons_self)
theorem Lim.take {B : Nat} {l : List Nat} (h : Lim B l) (n : Nat) : Lim B (l.take n) := fun y hy => h y (List.mem_of_mem_take hy)
theorem Lim.drop {B : Nat} {l : List Nat} (h : Lim B l) (n : Nat) : Lim B (l.drop n) := fun y hy => h y (List.mem_of_mem_drop hy)
theorem Lim.append {B : Nat} {l m : List Nat} (h : Lim B l) (k : Lim B m) : Lim B (l ++ m) := fun y hy => (List.mem_append.1 hy).elim (h y) (k y)
theorem Lim.getD {B : Nat} {l : List Nat} (hB : 0 < B) (h : Lim B l) (i : Nat) : l.getD i 0 < B := by
  rw [List.getD_eq_getElem?_getD]
  cases e : l[i]? with
  | none => simpa using hB
  | some x => exact h x (List.mem_of_getElem? e)
theorem Lim.get {B : Nat} {l : List Nat} (h : Lim B l) (i : Nat) (hi : i < l.length) : l[i] < B := h _ (List.getElem_mem hi)
theorem Lim.nil (B : Nat) : Lim B [] := fun _ h => by cases h
theorem Lim.one {B x : Nat} (h : x < B) : Lim B [x] := fun y hy => by rw [List.mem_singleton.1 hy]; exact h
theorem Lim.cons {B x : Nat} {l : List Nat} (h : x < B) (k : Lim B l) : Lim B (x :: l) := fun y hy => (List.mem_cons.1 hy).elim (fun e => e ▸ h) (k y)

theorem val_digs {B : Nat} (hB : 2 ≤ B) (n : Nat) : val B (digs B n) = n := by
  induction n using Nat.strongRecOn with
  | _ n ih =>
    rcases Nat.eq_zero_or_pos n with e | e
    · subst e; rw [digs_zero]; rfl
    · rw [digs_pos hB e, val, ih _ (Nat.div_lt_self e (by omega))]
      exact Nat.mod_add_div n B
theorem lim_digs {B : Nat} (hB : 2 ≤ B) (n : Nat) : Lim B (digs B n) := by
  induction n using Nat.strongRecOn with
  | _ n ih =>
    rcases Nat.eq_zero_or_pos n with e | e
    · subst e; rw [digs_zero]; exact Lim.nil B
    · rw [digs_pos hB e]
      exact Lim.cons (Nat.mod_lt _ (by omega)) (ih _ (Nat.div_lt_self e (by omega)))

theorem tr_digs {B : Nat} (hB : 2 ≤ B) : ∀ {l : List Nat}, Lim B l → tr l = digs B (val B l)
  | [], _ => by rw [val, digs_zero]; rfl
  | x :: r, h => by
    have ih := tr_digs hB h.tail
    have hx := h.head
    rw [val]
    rcases Nat.eq_zero_or_pos (val B r) with e | e
    · rw [e, digs_zero] at ih
      rw [tr, ih, e, Nat.mul_zero, Nat.add_zero]
      by_cases h0 : x = 0
      · subst h0; simp [digs_zero]
      · rw [digs_pos hB (by omega), Nat.mod_eq_of_lt hx, Nat.div_eq_of_lt hx, digs_zero]; simp [h0]
    · have h1 : digs B (val B r) = val B r % B :: digs B (val B r / B) := digs_pos hB e
      have h2 : 0 < x + B * val B r := Nat.add_pos_right _ (Nat.mul_pos (by omega) e)
      rw [digs_pos hB h2, Nat.add_mul_mod_self_left, Nat.mod_eq_of_lt hx, Nat.add_mul_div_left _ _ (by omega), Nat.div_eq_of_lt hx, Nat.zero_add, tr, ih, h1]

theorem digs_tr {B n : Nat} (hB : 2 ≤ B) : tr (digs B n) = digs B n := by rw [tr_digs hB (lim_digs hB n), val_digs hB]

theorem val_append (B : Nat) : ∀ l m : List Nat, val B (l ++ m) = val B l + B ^ l.length * val B m
  | [], m => by simp [val]
  | x :: r, m => by
    simp only [List.cons_append, val, val_append B r m, List.length_cons, Nat.pow_succ]
    rw [Nat.mul_add, Nat.add_assoc, ← Nat.mul_assoc B, Nat.mul_comm B (B ^ r.length)]
theorem val_one (B x : Nat) : val B [x] = x := by simp [val]
theorem val_snoc (B : Nat) (l : List Nat) (x : Nat) : val B (l ++ [x]) = val B l + B ^ l.length * x := by rw [val_append, val_one]
theorem val_zeros (B n : Nat) : val B (List.replicate n 0) = 0 := by
  induction n with
  | zero => rfl
  | succ n ih => rw [List.replicate_succ, val, ih]; omega
theorem val_app_zeros (B : Nat) (l : List Nat) (n : Nat) : val B (l ++ List.replicate n 0) = val B l := by rw [val_append, val_zeros]; omega
theorem lim_zeros {B : Nat} (hB : 0 < B) (n : Nat) : Lim B (List.replicate n 0) := fun x hx => by rw [(List.mem_replicate.1 hx).2]; exact hB

theorem take_succ_getD (l : List Nat) (i : Nat) (h : i < l.length) : l.take (i + 1) = l.take i ++ [l.getD i 0] := by
  rw [List.take_add_one, List.getD_eq_getElem?_getD, List.getElem?_eq_getElem h]; rfl
theorem val_take (B : Nat) (l : List Nat) (i : Nat) : val B (l.take (i + 1)) = val B (l.take i) + B ^ i * l.getD i 0 := by
  by_cases h : i < l.length
  · rw [take_succ_getD l i h, val_snoc, List.length_take, Nat.min_eq_left (by omega)]
  · rw [List.take_of_length_le (by omega), List.take_of_length_le (by omega), List.getD_eq_getElem?_getD, List.getElem?_eq_none (by omega)]; simp
theorem val_take_all (B : Nat) (l : List Nat) (i : Nat) (h : l.length ≤ i) : val B (l.take i) = val B l := by rw [List.take_of_length_le h]
theorem val_split (B : Nat) (l : List Nat) (i : Nat) (h : i ≤ l.length) : val B l = val B (l.take i) + B ^ i * val B (l.drop i) := by
  have := val_append B (l.take i) (l.drop i)
  rwa [List.take_append_drop, List.length_take, Nat.min_eq_left h] at this

theorem val_lt {B : Nat} : ∀ {l : List Nat}, Lim B l → val B l < B ^ l.length
  | [], _ => by simp [val]
  | x :: r, h => by
    have ih := val_lt h.tail
    have hx := h.head
    rw [val, List.length_cons, Nat.pow_succ, Nat.mul_comm (B ^ r.length) B]
    calc x + B * val B r < B + B * val B r := by omega
      _ = B * (val B r + 1) := by rw [Nat.mul_add, Nat.mul_one, Nat.add_comm]
      _ ≤ B * B ^ r.length := Nat.mul_le_mul_left _ ih

theorem digs_len {B : Nat} (hB : 2 ≤ B) : ∀ (k n : Nat), n < B ^ k → (digs B n).length ≤ k
  | 0, n, h => by
    have : n = 0 := by simpa using h
    subst this; simp [digs_zero]
  | k + 1, n, h => by
    rcases Nat.eq_zero_or_pos n with e | e
    · subst e; simp [digs_zero]
    · rw [digs_pos hB e, List.length_cons]
      have : n / B < B ^ k := Nat.div_lt_of_lt_mul (by rw [Nat.mul_comm, ← Nat.pow_succ]; exact h)
      have := digs_len hB k _ this
      omega
theorem tr_len : ∀ l : List Nat, (tr l).length ≤ l.length
  | [] => by simp [tr]
  | x :: r => by
    have := tr_len r
    rw [tr]
    split
    · split <;> simp
    · rename_i y t e; rw [e] at this; simp at this ⊢; omega
theorem tr_pre : ∀ l : List Nat, ∃ n, l = tr l ++ List.replicate n 0
  | [] => ⟨0, rfl⟩
  | x :: r => by
    obtain ⟨n, h⟩ := tr_pre r
    rw [tr]
    split
    · rename_i e
      rw [e, List.nil_append] at h
      split
      · rename_i h0; exact ⟨n + 1, by rw [List.replicate_succ, ← h, h0]; rfl⟩
      · exact ⟨n, by rw [List.singleton_append, ← h]⟩
    · rename_i y t e
      rw [e] at h
      exact ⟨n, by rw [List.cons_append, ← h]⟩
theorem tr_take {l : List Nat} : ∀ {n : Nat}, n ≤ l.length → (∀ i, n ≤ i → i < l.length → l.getD i 0 = 0) → (n = 0 ∨ l.getD (n - 1) 0 ≠ 0) → l.take n = tr l := by
  induction l with
  | nil => intro n _ _ _; simp [tr]
  | cons x r ih =>
    intro n hn h0 h1
    cases n with
    | zero =>
      have hr := ih (n := 0) (Nat.zero_le _) (fun i _ hi => by have := h0 (i + 1) (by omega) (by simpa using hi); simpa using this) (.inl rfl)
      have hx : x = 0 := by have := h0 0 (by omega) (by simp); simpa using this
      rw [tr, ← hr]
      simp [hx]
    | succ m =>
      have h0' : ∀ i, m ≤ i → i < r.length → r.getD i 0 = 0 := fun i hi hl => by have := h0 (i + 1) (by omega) (by simpa using hl); simpa using this
      cases m with
      | zero =>
        have hr := ih (n := 0) (Nat.zero_le _) h0' (.inl rfl)
        have hx : x ≠ 0 := by rcases h1 with h | h; · omega
                              · simpa using h
        rw [tr, ← hr]
        simp [hx]
      | succ k =>
        have hk : k + 1 ≤ r.length := by simpa using hn
        have h1' : r.getD k 0 ≠ 0 := by rcases h1 with h | h; · omega
                                        · simpa using h
        have hr := ih (n := k + 1) hk h0' (.inr (by simpa using h1'))
        rw [tr, ← hr]
        cases r with
        | nil => simp at hk
        | cons y t => simp

theorem digs_last {B n : Nat} (hB : 2 ≤ B) (h : 0 < n) : (digs B n).getD ((digs B n).length - 1) 0 ≠ 0 := by
  induction n using Nat.strongRecOn with
  | _ n ih =>
    rw [digs_pos hB h]
    rcases Nat.eq_zero_or_pos (n / B) with e | e
    · rw [e, digs_zero]
      simp
      have := Nat.div_add_mod n B
      rw [e] at this; omega
    · have := ih _ (Nat.div_lt_self h (by omega)) e
      have hp : 0 < (digs B (n / B)).length := by
        rw [digs_pos hB e]; simp
      rw [List.length_cons]
      rw [show (digs B (n / B)).length + 1 - 1 = ((digs B (n / B)).length - 1) + 1 by omega]
      simpa using this

/-- Rows of one length, alike above a place, there one below the other. -/
theorem val_lt_high {B : Nat} {l m : List Nat} (hl : Lim B l) (hB : 0 < B) (i : Nat) (hi : i < l.length) (he : l.length = m.length) (hd : l.drop (i + 1) = m.drop (i + 1)) (h : l.getD i 0 < m.getD i 0) : val B l < val B m := by
  rw [val_split B l (i + 1) (by omega), val_split B m (i + 1) (by omega), hd, val_take, val_take]
  have h1 : val B (l.take i) < B ^ i := by
    have := val_lt (hl.take i)
    rwa [List.length_take, Nat.min_eq_left (by omega)] at this
  have h2 : B ^ i * l.getD i 0 + B ^ i ≤ B ^ i * m.getD i 0 := by
    rw [← Nat.mul_succ]; exact Nat.mul_le_mul_left _ h
  omega
theorem digs_lt_len {B a b : Nat} (hB : 2 ≤ B) (h : (digs B a).length < (digs B b).length) : a < b := by
  apply Nat.lt_of_not_le
  intro hle
  rcases Nat.eq_zero_or_pos b with e | e
  · subst e; rw [digs_zero] at h; simp at h
  · have h1 : a < B ^ (digs B a).length := by
      have := val_lt (lim_digs hB a); rwa [val_digs hB] at this
    have h2 := digs_len hB (digs B a).length b (by omega)
    omega

/-- One place of a sum, or of what is carried on. -/
theorem carry_step {P B s d c A : Nat} (h : A + P * s = d) : A + P * (s % B) + P * B * (s / B) = d := by
  rw [Nat.mul_assoc, Nat.add_assoc, ← Nat.mul_add, Nat.mod_add_div]; exact h
theorem set_zeros (l : List Nat) (n i x : Nat) (hi : l.length = i) (hn : 0 < n) : (l ++ List.replicate n 0).set i x = (l ++ [x]) ++ List.replicate (n - 1) 0 := by
  subst hi
  obtain ⟨k, rfl⟩ : ∃ k, n = k + 1 := ⟨n - 1, by omega⟩
  rw [List.set_append_right _ _ (Nat.le_refl _), Nat.sub_self, List.replicate_succ, List.set_cons_zero, List.append_assoc]
  rfl
theorem set_zeros' (l : List Nat) (N i x : Nat) (hi : l.length = i) (hn : i < N) : (l ++ List.replicate (N - i) 0).set i x = (l ++ [x]) ++ List.replicate (N - (i + 1)) 0 := by
  rw [set_zeros l _ i x hi (by omega), Nat.sub_sub]
theorem lim_snoc {B x : Nat} {l : List Nat} (h : Lim B l) (hx : x < B) : Lim B (l ++ [x]) := h.append (Lim.one hx)
end Go.Proofs.Ytipbcjnniamcgaa.Ma
