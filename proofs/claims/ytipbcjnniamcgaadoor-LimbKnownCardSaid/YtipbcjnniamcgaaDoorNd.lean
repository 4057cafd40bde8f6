/- The number of a decimal text, and back. -/
import Derived.Test.YtipbcjnniamcgaaDoorNb
namespace Go.Proofs.YtipbcjnniamcgaaDoor.Ma
set_option linter.unusedSimpArgs false
set_option linter.unusedVariables false

def decF (v : Nat) (l : List UInt8) : Nat := l.foldl (fun v b => 10 * v + (b.toNat - 48)) v
def decV (l : List UInt8) : Nat := decF 0 l
theorem decF_eq : ∀ (l : List UInt8) (v : Nat), decF v l = 10 ^ l.length * v + decV l
  | [], v => by simp [decF, decV]
  | b :: l, v => by
    have h1 := decF_eq l (10 * v + (b.toNat - 48))
    have h2 := decF_eq l (10 * 0 + (b.toNat - 48))
    have e1 : decF v (b :: l) = decF (10 * v + (b.toNat - 48)) l := rfl
    have e2 : decV (b :: l) = decF (10 * 0 + (b.toNat - 48)) l := rfl
    rw [e1, e2, h1, h2, List.length_cons, Nat.pow_succ]
    grind
theorem decV_app (l m : List UInt8) : decV (l ++ m) = 10 ^ m.length * decV l + decV m := by
  have : decV (l ++ m) = decF (decV l) m := by simp only [decV, decF, List.foldl_append]
  rw [this, decF_eq]
theorem decV_one (b : UInt8) : decV [b] = b.toNat - 48 := by simp [decV, decF]
theorem decV_chr : ∀ {l : List Nat}, Lim 10 l → decV (l.reverse.map chr) = val 10 l
  | [], _ => rfl
  | x :: l, h => by
    rw [List.reverse_cons, List.map_append, decV_app, decV_chr h.tail, List.map_singleton, decV_one, chr_nat h.head]
    simp [val]; omega
theorem decV_dec (n : Nat) : decV (dec n) = n := by
  unfold dec; rw [decV_chr (lim_digs (by omega) n), val_digs (by omega)]
theorem decV_decT (n : Nat) : decV (decT n) = n := by
  unfold decT
  split
  · subst_vars; rfl
  · exact decV_dec n
theorem decF_lt : ∀ {l : List UInt8} {v : Nat}, (∀ b, b ∈ l → b.toNat ≤ 57) → decF v l < 10 ^ l.length * (v + 1)
  | [], v, _ => by simp [decF]
  | b :: l, v, h => by
    have h1 := decF_lt (l := l) (v := 10 * v + (b.toNat - 48)) fun x hx => h x (List.mem_cons_of_mem _ hx)
    have h2 := h b List.mem_cons_self
    have e1 : decF v (b :: l) = decF (10 * v + (b.toNat - 48)) l := rfl
    rw [e1]
    refine Nat.lt_of_lt_of_le h1 ?_
    rw [List.length_cons, Nat.pow_succ, Nat.mul_assoc]
    exact Nat.mul_le_mul_left _ (by omega)
theorem decV_lt {l : List UInt8} (h : ∀ b, b ∈ l → b.toNat ≤ 57) : decV l < 10 ^ l.length := by
  have := decF_lt (v := 0) h
  simpa [decV] using this
def isDig (b : UInt8) : Prop := 48 ≤ b.toNat ∧ b.toNat ≤ 57
/-- A text that is a number's. -/
def Good (l : List UInt8) : Prop := l ≠ [] ∧ (∀ b, b ∈ l → isDig b) ∧ (l.length = 1 ∨ (l.getD 0 0).toNat ≠ 48)
theorem decT_decV {l : List UInt8} (h : Good l) : decT (decV l) = l := by
  obtain ⟨h0, h1, h2⟩ := h
  obtain ⟨ds, hds⟩ : ∃ ds : List Nat, ds = l.reverse.map fun b => b.toNat - 48 := ⟨_, rfl⟩
  have hlim : Lim 10 ds := by
    intro x hx
    rw [hds] at hx
    obtain ⟨b, hb, rfl⟩ := List.mem_map.1 hx
    have := h1 b (List.mem_reverse.1 hb)
    unfold isDig at this; omega
  have hl : l = ds.reverse.map chr := by
    have hr : ds.reverse = l.map fun b => b.toNat - 48 := by rw [hds, ← List.map_reverse, List.reverse_reverse]
    rw [hr, List.map_map]
    conv => lhs; rw [← List.map_id l]
    apply List.map_congr_left
    intro b hb
    have := h1 b hb
    unfold isDig at this
    apply UInt8.toNat_inj.1
    show b.toNat = (chr (b.toNat - 48)).toNat
    rw [chr_nat (by omega)]; omega
  have hv : decV l = val 10 ds := by
    conv => lhs; rw [hl]
    exact decV_chr hlim
  obtain ⟨b, r, hbr⟩ : ∃ b r, l = b :: r := List.exists_cons_of_ne_nil h0
  have hb := h1 b (by rw [hbr]; simp)
  unfold isDig at hb
  have htop : ds = (r.reverse.map fun b => b.toNat - 48) ++ [b.toNat - 48] := by
    rw [hds, hbr, List.reverse_cons, List.map_append]; rfl
  by_cases hb0 : b.toNat = 48
  · rcases h2 with h2 | h2
    · have hr : r = [] := by rw [hbr] at h2; simpa using h2
      have hz : val 10 ds = 0 := by rw [htop, hr, hb0]; rfl
      rw [hv, hz, hbr, hr]
      show [48] = [b]
      rw [show b = 48 from UInt8.toNat_inj.1 hb0]
    · rw [hbr] at h2; exact absurd hb0 h2
  · have hd : ds = digs 10 (val 10 ds) := digs_of (by omega) hlim (.inr (by rw [htop, last_append (by simp)]; simp; omega))
    have hp : val 10 ds ≠ 0 := fun e => by
      rw [e, digs_zero, htop] at hd; simp at hd
    rw [hv]
    unfold decT dec
    rw [if_neg hp, ← hd, ← hl]
theorem good_decT (n : Nat) : Good (decT n) := by
  unfold decT
  split
  · exact ⟨by simp, by simp [isDig], .inl rfl⟩
  · rename_i h
    have hn : 0 < n := by omega
    refine ⟨dec_pos hn, fun b hb => ?_, .inr ?_⟩
    · unfold dec at hb
      obtain ⟨x, hx, rfl⟩ := List.mem_map.1 hb
      have := lim_digs (B := 10) (by omega) n x (List.mem_reverse.1 hx)
      unfold isDig; rw [chr_nat this]; omega
    · have hl := digs_last (B := 10) (by omega) hn
      have hne : digs 10 n ≠ [] := fun e => by have := (digs_nil (B := 10) (by omega)).1 e; omega
      obtain ⟨l, x, hx⟩ : ∃ l x, digs 10 n = l ++ [x] := ⟨_, _, (List.dropLast_concat_getLast hne).symm⟩
      have hx0 : x ≠ 0 := by
        rw [hx, last_append (by simp)] at hl
        simpa using hl
      have hx10 : x < 10 := lim_digs (B := 10) (by omega) n x (by rw [hx]; simp)
      have : dec n = chr x :: l.reverse.map chr := by simp [dec, hx]
      rw [this]
      show (chr x).toNat ≠ 48
      rw [chr_nat hx10]; omega
/-- Where a text goes wrong. -/
def badAt (l : List UInt8) (i : Nat) : Prop := (l.getD i 0).toNat < 48 ∨ 57 < (l.getD i 0).toNat ∨ (0 < i ∧ (l.getD 0 0).toNat = 48)
theorem good_of {l : List UInt8} (h0 : l ≠ []) (h : ∀ i, i < l.length → ¬ badAt l i) : Good l := by
  refine ⟨h0, fun b hb => ?_, ?_⟩
  · obtain ⟨i, hi, rfl⟩ := List.getElem_of_mem hb
    have := h i hi
    unfold badAt at this
    rw [List.getD_eq_getElem?_getD, List.getElem?_eq_getElem hi, Option.getD_some] at this
    unfold isDig; omega
  · by_cases hl : l.length = 1
    · exact .inl hl
    · right
      have hp : 0 < l.length := List.length_pos_iff.2 h0
      have := h 1 (by omega)
      unfold badAt at this; omega
theorem bad_of_good {l : List UInt8} (h : Good l) {i : Nat} (hi : i < l.length) : ¬ badAt l i := by
  obtain ⟨h0, h1, h2⟩ := h
  have := h1 _ (List.getElem_mem hi)
  unfold badAt isDig at *
  rw [List.getD_eq_getElem?_getD, List.getElem?_eq_getElem hi, Option.getD_some]
  omega
end Go.Proofs.YtipbcjnniamcgaaDoor.Ma
