/- How often two divides a row of limbs: the library's table read. -/
import Derived.Test.YtipbcjnniamcgaaDoorSf
import Derived.Test.YtipbcjnniamcgaaDoorNc
namespace Go.Proofs.YtipbcjnniamcgaaDoor.Fw
set_option linter.unusedSimpArgs false
set_option linter.unusedVariables false
open Go Go.Proofs.YtipbcjnniamcgaaDoor.Ma
set_option maxRecDepth 20000

/-- The table stands in memory. -/
def tabC : List AV := deB.map fun (n : Nat) => AV.int .u8 (n : Int)
def TzH (H : AHeap) : Prop := H 0 = some (.glob 0 tabC)
theorem TzH.le {H H' : AHeap} (h : TzH H) (hl : Le H H') : TzH H' := hl _ _ h
theorem tab_get {i : Nat} (h : i < 32) : (tabC.drop i).take 1 = [.int .u8 ((deB.getD i 0 : Nat) : Int)] := by
  have hl : tabC.length = 32 := rfl
  rw [List.drop_eq_getElem_cons (by omega), List.take_succ_cons, List.take_zero]
  simp only [tabC, List.getElem_map]
  rw [List.getD_eq_getElem?_getD, List.getElem?_eq_getElem (show i < deB.length from h), Option.getD_some]
theorem gixP_k {g n es i : Nat} {K : AV → Prop} {cells : List AV} (h : i < n) : gixP g n es K (i : Int) (some (.glob g cells)) = K (.ptr g cells.length (i * es)) := by
  simp [gixP, h]
theorem tz32_run {H : AHeap} {x : Nat} {K : AV → AHeap → Prop} (hH : TzH H) (h0 : 0 < x) (hx : x < 4294967296) (k : K (.int .i64 ((tz x : Nat) : Int)) H) : Run Tryd.prog 102 [.int .u32 (x : Int)] H K := by
  refine enter102 (by simp) ?_
  have hH' : H 0 = some (.glob 0 tabC) := hH
  have hk := tz_lt (k := 32) h0 hx
  have hlt := deB_lt hk
  have hat := deB_at hk
  have han := and_neg h0 hx
  generalize tz x = t at *
  have hne : ¬ x = 0 := by omega
  have c1 : ∀ K, unW .neg (.int .u32 (x : Int)) K ↔ K (.int .u32 ((4294967296 - x : Nat) : Int)) := fun K => by
    simp only [unW, wmod_u32]; rw [show (0 - (x : Int)) % 4294967296 = ((4294967296 - x : Nat) : Int) by omega]
  have c2 : ∀ K, binW .and (.int .u32 (x : Int)) (.int .u32 ((4294967296 - x : Nat) : Int)) K ↔ K (.int .u32 ((2 ^ t : Nat) : Int)) := fun K => by
    rw [bin_and .u32 (by simp [IntKind.bits]; omega) (by simp [IntKind.bits]; omega), han, wn_u32 (by
      have : 2 ^ t < 2 ^ 32 := Nat.pow_lt_pow_right (by omega) hk
      omega)]
  simp (disch := first | assumption | (apply Ap.symm; assumption) | omega | decide | (simp only [U_len, List.length_append, List.length_replicate, List.length_cons, List.length_nil, List.length_set] <;> omega) | fail) only [ac102, hne, c1, c2, hH', gixP_k, ldP_glob, ↓Xa, Xb, Xc, ↓reduceIte, Nat.reduceLT, Nat.reduceEqDiff, Nat.reduceBEq, Nat.reduceLeDiff, Nat.reduceAdd, Nat.reduceMul]
  have e27 : (2 : Nat) ^ 27 = 134217728 := by decide
  rw [e27]
  have hl : tabC.length = 32 := rfl
  refine ⟨by omega, ?_⟩
  rw [tab_get hlt, hat]
  simp (disch := first | assumption | (apply Ap.symm; assumption) | omega | decide | (simp only [U_len, List.length_append, List.length_replicate, List.length_cons, List.length_nil, List.length_set] <;> omega) | fail) only [rs102, ↓Xa, Xb, Xc, ↓reduceIte, Nat.reduceLT, Nat.reduceEqDiff, Nat.reduceBEq, Nat.reduceLeDiff, Nat.reduceAdd, Nat.reduceMul]
  exact SetR.now k

theorem val_take_zeros {a : List Nat} {i : Nat} (h : val 4294967296 (a.take i) = 0) (h0 : a.getD i 0 = 0) : val 4294967296 (a.take (i + 1)) = 0 := by
  rw [val_take, h, h0]; omega
theorem twos_run {H : AHeap} {a : List Nat} {t : Bool} {K : AV → AHeap → Prop} (hH : TzH H) (ha : Lim 4294967296 a) (hl : a.length ≤ 1099511627776) (k : K (.int .i64 ((tz (val 4294967296 a) : Nat) : Int)) H) : Run Tryd.prog 65 [LS a t] H K := by
  refine enter65 (by simp) ?_
  simp (disch := first | assumption | (apply Ap.symm; assumption) | omega | decide | (simp only [U_len, List.length_append, List.length_replicate, List.length_cons, List.length_nil, List.length_set] <;> omega) | fail) only [ac65, ↓Xa, Xb, Xc, ↓reduceIte, Nat.reduceLT, Nat.reduceEqDiff, Nat.reduceBEq, Nat.reduceLeDiff, Nat.reduceAdd, Nat.reduceMul]
  refine W_loop (fun i : Nat => ⟨[], [(5, LS a t), (6, .int .i64 (a.length : Nat)), (7, .int .i64 (i : Nat))], H⟩) (fun i => i ≤ a.length ∧ val 4294967296 (a.take i) = 0) (fun i => a.length - i) 0 (Settle.now rfl) ⟨by simp, by simp [val]⟩ ?_
  rintro i ⟨h1, h2⟩
  by_cases hi : i < a.length
  · have hxl := ha.getD (by omega) i
    by_cases hx : 0 < a.getD i 0
    · obtain ⟨e1, e2⟩ := tz_limbs ha hi h2 hx
      have hk := tz_lt (k := 32) hx hxl
      simp (disch := first | assumption | (apply Ap.symm; assumption) | omega | decide | (simp only [U_len, List.length_append, List.length_replicate, List.length_cons, List.length_nil, List.length_set] <;> omega) | fail) only [hi, hx, ↓Xa, Xb, Xc, ↓reduceIte, Nat.reduceLT, Nat.reduceEqDiff, Nat.reduceBEq, Nat.reduceLeDiff, Nat.reduceAdd, Nat.reduceMul]
      refine run_call (tz32_run hH hx hxl ?_)
      rw [e1] at k
      simp (disch := first | assumption | (apply Ap.symm; assumption) | omega | decide | (simp only [U_len, List.length_append, List.length_replicate, List.length_cons, List.length_nil, List.length_set] <;> omega) | fail) only [rs65, ↓Xa, Xb, Xc, ↓reduceIte, Nat.reduceLT, Nat.reduceEqDiff, Nat.reduceBEq, Nat.reduceLeDiff, Nat.reduceAdd, Nat.reduceMul]
      exact SetR.now k
    · have hx0 : a.getD i 0 = 0 := by omega
      simp (disch := first | assumption | (apply Ap.symm; assumption) | omega | decide | (simp only [U_len, List.length_append, List.length_replicate, List.length_cons, List.length_nil, List.length_set] <;> omega) | fail) only [hi, hx, ↓Xa, Xb, Xc, ↓reduceIte, Nat.reduceLT, Nat.reduceEqDiff, Nat.reduceBEq, Nat.reduceLeDiff, Nat.reduceAdd, Nat.reduceMul]
      exact Settle.now ⟨i + 1, by omega, ⟨by omega, val_take_zeros h2 hx0⟩, rfl⟩
  · rw [List.take_of_length_le (by omega)] at h2
    rw [h2, tz_zero] at k
    simp (disch := first | assumption | (apply Ap.symm; assumption) | omega | decide | (simp only [U_len, List.length_append, List.length_replicate, List.length_cons, List.length_nil, List.length_set] <;> omega) | fail) only [hi, ↓Xa, Xb, Xc, ↓reduceIte, Nat.reduceLT, Nat.reduceEqDiff, Nat.reduceBEq, Nat.reduceLeDiff, Nat.reduceAdd, Nat.reduceMul]
    refine Settle.now ?_
    simp (disch := first | assumption | (apply Ap.symm; assumption) | omega | decide | (simp only [U_len, List.length_append, List.length_replicate, List.length_cons, List.length_nil, List.length_set] <;> omega) | fail) only [rs65, ↓Xa, Xb, Xc, ↓reduceIte, Nat.reduceLT, Nat.reduceEqDiff, Nat.reduceBEq, Nat.reduceLeDiff, Nat.reduceAdd, Nat.reduceMul]
    exact SetR.now k
end Go.Proofs.YtipbcjnniamcgaaDoor.Fw
