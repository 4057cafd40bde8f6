/- The framework, part U: whole numbers' arithmetic as plain arithmetic; rows of words. -/
import Derived.Test.YtipbcjnniamcgaaFwT
import Derived.Test.YtipbcjnniamcgaaMa
namespace Go.Proofs.Ytipbcjnniamcgaa.Fw
set_option linter.unusedSimpArgs false
set_option linter.unusedVariables false
open Go Go.Proofs.Ytipbcjnniamcgaa.Ma

theorem wmod_u8 (x : Int) : IntKind.u8.wrap x = x % 256 := by unfold IntKind.wrap; simp [IntKind.bits, IntKind.signed]
theorem wmod_u32 (x : Int) : IntKind.u32.wrap x = x % 4294967296 := by unfold IntKind.wrap; simp [IntKind.bits, IntKind.signed]
theorem wmod_u64 (x : Int) : IntKind.u64.wrap x = x % 18446744073709551616 := by unfold IntKind.wrap; simp [IntKind.bits, IntKind.signed]
theorem wrap_u8 {x : Int} (h0 : 0 ≤ x) (h1 : x < 256) : IntKind.u8.wrap x = x := by rw [wmod_u8]; omega
theorem wrap_u32 {x : Int} (h0 : 0 ≤ x) (h1 : x < 4294967296) : IntKind.u32.wrap x = x := by rw [wmod_u32]; omega
theorem wrap_u64 {x : Int} (h0 : 0 ≤ x) (h1 : x < 18446744073709551616) : IntKind.u64.wrap x = x := by rw [wmod_u64]; omega

theorem fdiv_nat (a b : Nat) : Int.fdiv (a : Int) (b : Int) = ((a / b : Nat) : Int) := by
  rw [Int.fdiv_eq_ediv_of_nonneg _ (by omega)]; simp
theorem tdiv_nat (a b : Nat) : Int.tdiv (a : Int) (b : Int) = ((a / b : Nat) : Int) := by
  rw [Int.tdiv_eq_ediv_of_nonneg (by omega)]; simp
theorem tmod_nat (a b : Nat) : Int.tmod (a : Int) (b : Int) = ((a % b : Nat) : Int) := by
  rw [Int.tmod_eq_emod_of_nonneg (by omega)]; simp

theorem and_nat {w a b : Nat} (ha : a < 2 ^ w) (hb : b < 2 ^ w) : (BitVec.ofInt w (a : Int) &&& BitVec.ofInt w (b : Int)).toNat = a &&& b := by
  rw [BitVec.toNat_and, BitVec.ofInt_natCast, BitVec.ofInt_natCast, BitVec.toNat_ofNat, BitVec.toNat_ofNat, Nat.mod_eq_of_lt ha, Nat.mod_eq_of_lt hb]
theorem or_nat {w a b : Nat} (ha : a < 2 ^ w) (hb : b < 2 ^ w) : (BitVec.ofInt w (a : Int) ||| BitVec.ofInt w (b : Int)).toNat = a ||| b := by
  rw [BitVec.toNat_or, BitVec.ofInt_natCast, BitVec.ofInt_natCast, BitVec.toNat_ofNat, BitVec.toNat_ofNat, Nat.mod_eq_of_lt ha, Nat.mod_eq_of_lt hb]
theorem or_add {a b k : Nat} (h : b < 2 ^ k) : a * 2 ^ k ||| b = a * 2 ^ k + b := by rw [Nat.mul_comm]; exact (Nat.two_pow_add_eq_or_of_lt h a).symm

/-! ### arithmetic, where all is at least nought -/
section
variable {K : AV → Prop}
theorem wn_u8 {n : Nat} (h : n < 256) : IntKind.u8.wrap (n : Int) = n := wrap_u8 (by omega) (by omega)
theorem wn_u32 {n : Nat} (h : n < 4294967296) : IntKind.u32.wrap (n : Int) = n := wrap_u32 (by omega) (by omega)
theorem wn_u64 {n : Nat} (h : n < 18446744073709551616) : IntKind.u64.wrap (n : Int) = n := wrap_u64 (by omega) (by omega)
theorem wn_i64 {n : Nat} (h : n < 9223372036854775808) : IntKind.i64.wrap (n : Int) = n := wrap_i64 (by omega) (by omega)
theorem wm_u8 (n : Nat) : IntKind.u8.wrap (n : Int) = ((n % 256 : Nat) : Int) := by rw [wmod_u8]; omega
theorem wm_u32 (n : Nat) : IntKind.u32.wrap (n : Int) = ((n % 4294967296 : Nat) : Int) := by rw [wmod_u32]; omega
theorem wm_u64 (n : Nat) : IntKind.u64.wrap (n : Int) = ((n % 18446744073709551616 : Nat) : Int) := by rw [wmod_u64]; omega
theorem bin_add (k : IntKind) (a b : Nat) : binW .add (.int k a) (.int k b) K ↔ K (.int k (k.wrap ((a + b : Nat) : Int))) := by
  simp [binW, binInt]
theorem bin_mul (k : IntKind) (a b : Nat) : binW .mul (.int k a) (.int k b) K ↔ K (.int k (k.wrap ((a * b : Nat) : Int))) := by
  simp [binW, binInt]
theorem bin_sub (k : IntKind) {a b : Nat} (h : b ≤ a) : binW .sub (.int k a) (.int k b) K ↔ K (.int k (k.wrap ((a - b : Nat) : Int))) := by
  have : ((a - b : Nat) : Int) = (a : Int) - b := by omega
  simp [binW, binInt, this]
theorem bin_sub64 {a b : Nat} (hb : b ≤ 18446744073709551616) : binW .sub (.int .u64 a) (.int .u64 b) K ↔ K (.int .u64 (((a + 18446744073709551616 - b) % 18446744073709551616 : Nat) : Int)) := by
  have : ((a : Int) - b) % 18446744073709551616 = (((a + 18446744073709551616 - b) % 18446744073709551616 : Nat) : Int) := by omega
  simp only [binW, binInt, wmod_u64, this, true_and]
theorem bin_quo (k : IntKind) (a b : Nat) : binW .quo (.int k a) (.int k b) K ↔ b ≠ 0 ∧ K (.int k (k.wrap ((a / b : Nat) : Int))) := by
  simp only [binW, binInt, tdiv_nat, true_and, ne_eq, Int.natCast_eq_zero]
theorem bin_rem (k : IntKind) (a b : Nat) : binW .rem (.int k a) (.int k b) K ↔ b ≠ 0 ∧ K (.int k ((a % b : Nat) : Int)) := by
  simp only [binW, binInt, tmod_nat, true_and, ne_eq, Int.natCast_eq_zero]
theorem bin_shr (k k' : IntKind) (a : Nat) {b : Nat} (h : b ≤ k.bits) : binW .shr (.int k a) (.int k' b) K ↔ K (.int k ((a / 2 ^ b : Nat) : Int)) := by
  have : ((2 : Int) ^ b) = ((2 ^ b : Nat) : Int) := by simp
  simp only [binW, Int.toNat_natCast, Nat.min_eq_left h, this, fdiv_nat]
  simp
theorem bin_shl (k k' : IntKind) (a : Nat) {b : Nat} (h : b ≤ k.bits) : binW .shl (.int k a) (.int k' b) K ↔ K (.int k (k.wrap ((a * 2 ^ b : Nat) : Int))) := by
  simp only [binW, Int.toNat_natCast, Nat.min_eq_left h]
  simp
theorem bin_shr64 (k' : IntKind) (a : Nat) {b : Nat} (h : b ≤ 64) : binW .shr (.int .u64 a) (.int k' b) K ↔ K (.int .u64 ((a / 2 ^ b : Nat) : Int)) := bin_shr .u64 k' a h
theorem bin_shr32 (k' : IntKind) (a : Nat) {b : Nat} (h : b ≤ 32) : binW .shr (.int .u32 a) (.int k' b) K ↔ K (.int .u32 ((a / 2 ^ b : Nat) : Int)) := bin_shr .u32 k' a h
theorem bin_shl64 (k' : IntKind) (a : Nat) {b : Nat} (h : b ≤ 64) : binW .shl (.int .u64 a) (.int k' b) K ↔ K (.int .u64 (IntKind.u64.wrap ((a * 2 ^ b : Nat) : Int))) := bin_shl .u64 k' a h
theorem bin_shl32 (k' : IntKind) (a : Nat) {b : Nat} (h : b ≤ 32) : binW .shl (.int .u32 a) (.int k' b) K ↔ K (.int .u32 (IntKind.u32.wrap ((a * 2 ^ b : Nat) : Int))) := bin_shl .u32 k' a h
theorem bin_and (k : IntKind) {a b : Nat} (ha : a < 2 ^ k.bits) (hb : b < 2 ^ k.bits) : binW .and (.int k a) (.int k b) K ↔ K (.int k (k.wrap ((a &&& b : Nat) : Int))) := by
  simp only [binW, binInt, and_nat ha hb, true_and]
theorem bin_or (k : IntKind) {a b : Nat} (ha : a < 2 ^ k.bits) (hb : b < 2 ^ k.bits) : binW .or (.int k a) (.int k b) K ↔ K (.int k (k.wrap ((a ||| b : Nat) : Int))) := by
  simp only [binW, binInt, or_nat ha hb, true_and]
theorem bin_and1 {a : Nat} (ha : a < 18446744073709551616) : binW .and (.int .u64 a) (.int .u64 ((1 : Nat) : Int)) K ↔ K (.int .u64 ((a % 2 : Nat) : Int)) := by
  rw [bin_and .u64 (by simpa [IntKind.bits] using ha) (by simp [IntKind.bits]), Nat.and_one_is_mod, wn_u64 (by omega)]
theorem bin_and32 {a : Nat} (ha : a < 18446744073709551616) : binW .and (.int .u64 a) (.int .u64 ((4294967295 : Nat) : Int)) K ↔ K (.int .u64 ((a % 4294967296 : Nat) : Int)) := by
  rw [bin_and .u64 (by simpa [IntKind.bits] using ha) (by simp [IntKind.bits]), show 4294967295 = 2 ^ 32 - 1 from rfl, Nat.and_two_pow_sub_one_eq_mod, wn_u64 (by omega)]
/-- A high limb. -/
def hi32 (a : Nat) : Nat := a * 2 ^ 32
theorem bin_hi32 {k' : IntKind} {a : Nat} (ha : a < 4294967296) : binW .shl (.int .u64 a) (.int k' ((32 : Nat) : Int)) K ↔ K (.int .u64 ((hi32 a : Nat) : Int)) := by
  rw [bin_shl64 _ _ (by omega), wn_u64 (by omega)]; exact Iff.rfl
theorem bin_or64 {a b : Nat} (ha : a < 4294967296) (hb : b < 4294967296) : binW .or (.int .u64 ((hi32 a : Nat) : Int)) (.int .u64 b) K ↔ K (.int .u64 ((a * 2 ^ 32 + b : Nat) : Int)) := by
  unfold hi32
  rw [bin_or .u64 (by simp [IntKind.bits]; omega) (by simp [IntKind.bits]; omega), or_add (by omega), wn_u64 (by omega)]
theorem bin_or64' {a b : Nat} (ha : a < 4294967296) (hb : b < 4294967296) : binW .or (.int .u64 a) (.int .u64 ((hi32 b : Nat) : Int)) K ↔ K (.int .u64 ((a + b * 2 ^ 32 : Nat) : Int)) := by
  unfold hi32
  rw [bin_or .u64 (by simp [IntKind.bits]; omega) (by simp [IntKind.bits]; omega), Nat.or_comm, or_add (by omega), wn_u64 (by omega), Nat.add_comm]
theorem bin_eql (k : IntKind) (a b : Nat) : binW .eql (.int k a) (.int k b) K ↔ K (.bool (decide (a = b))) := by
  simp only [binW, binInt, true_and, Int.natCast_inj]
theorem bin_neq (k : IntKind) (a b : Nat) : binW .neq (.int k a) (.int k b) K ↔ K (.bool (!decide (a = b))) := by
  simp only [binW, binInt, true_and, Int.natCast_inj]
theorem bin_lss (k : IntKind) (a b : Nat) : binW .lss (.int k a) (.int k b) K ↔ K (.bool (decide (a < b))) := by
  simp only [binW, binInt, true_and, Int.ofNat_lt]
theorem bin_leq (k : IntKind) (a b : Nat) : binW .leq (.int k a) (.int k b) K ↔ K (.bool (decide (a ≤ b))) := by
  simp only [binW, binInt, true_and, Int.ofNat_le]
theorem bin_gtr (k : IntKind) (a b : Nat) : binW .gtr (.int k a) (.int k b) K ↔ K (.bool (decide (b < a))) := by
  simp only [binW, binInt, true_and, Int.ofNat_lt]
theorem bin_geq (k : IntKind) (a b : Nat) : binW .geq (.int k a) (.int k b) K ↔ K (.bool (decide (b ≤ a))) := by
  simp only [binW, binInt, true_and, Int.ofNat_le]
theorem conv_nat (k k' : IntKind) (a : Nat) : convW k (.int k' a) K ↔ K (.int k (k.wrap ((a : Nat) : Int))) := by
  simp only [convW]
end

/-- Words of 32 bits, as values. -/
def U (l : List Nat) : List AV := l.map fun x : Nat => .int .u32 (x : Int)
@[simp] theorem U_len (l : List Nat) : (U l).length = l.length := by simp [U]
theorem U_app (l m : List Nat) : U (l ++ m) = U l ++ U m := by simp [U]
theorem U_take (l : List Nat) (n : Nat) : U (l.take n) = (U l).take n := by simp [U, List.map_take]
theorem U_drop (l : List Nat) (n : Nat) : U (l.drop n) = (U l).drop n := by simp [U, List.map_drop]
theorem U_rep (n x : Nat) : U (List.replicate n x) = List.replicate n (.int .u32 (x : Int)) := by simp [U]
theorem U_nil : U [] = [] := rfl
theorem U_cons (x : Nat) (l : List Nat) : U (x :: l) = .int .u32 (x : Int) :: U l := rfl
theorem U_cell (l : List Nat) : (U l).all AV.cell = true := by simp [U, AV.cell]
def LS (l : List Nat) (t : Bool) : AV := .seq l.length (U l) t

theorem U_drop_cons (l : List Nat) (i : Nat) (h : i < l.length) : (U l).drop i = .int .u32 ((l.getD i 0 : Nat) : Int) :: (U l).drop (i + 1) := by
  rw [List.drop_eq_getElem_cons (by simpa using h)]
  congr 1
  simp [U, h]
theorem splice_one (l : List Nat) (i x : Nat) (h : i < l.length) : splice (U l) i [.int .u32 (x : Int)] = U (l.set i x) := by
  unfold splice U
  rw [List.map_set, List.set_eq_take_append_cons_drop, if_pos (by simpa using h)]
  simp
theorem load_cptr {H : AHeap} {l : List Nat} {i : Nat} {K : AV → Prop} (h : i < l.length) (k : K (.int .u32 ((l.getD i 0 : Nat) : Int))) : loadW H none (.cptr ((U l).drop i)) K := by
  refine ⟨by simp; omega, ?_⟩
  rw [U_drop_cons l i h]; exact k
theorem load_ptr {H : AHeap} {b L off ty es : Nat} {l : List Nat} {K : AV → Prop} (hH : H b = some (.row ty es (U l))) (hL : l.length = L) (h : off < L) (k : K (.int .u32 ((l.getD off 0 : Nat) : Int))) : loadW H none (.ptr b L off) K := by
  subst hL
  simp only [loadW, cellsAt, hH]
  refine ⟨by simp, by omega, ?_⟩
  rw [U_drop_cons l off h]; exact k
theorem store_ptr {H : AHeap} {b L off ty es : Nat} {l : List Nat} {x : Nat} {K : AV → AHeap → Prop} (hH : H b = some (.row ty es (U l))) (hL : l.length = L) (h : off < L) (k : K .bot (H.upd b (some (.row ty es (U (l.set off x)))))) : storeW H 1 (.ptr b L off) (.int .u32 (x : Int)) K := by
  subst hL
  simp only [storeW, hH, AV.cells]
  refine ⟨by simp, rfl, by omega, ?_⟩
  rw [splice_one l off x h]; exact k

end Go.Proofs.Ytipbcjnniamcgaa.Fw
