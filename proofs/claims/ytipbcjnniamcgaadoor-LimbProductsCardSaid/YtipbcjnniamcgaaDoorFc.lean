/- The framework: the steps' equations, loops, drawn regions. -/
import Derived.Test.YtipbcjnniamcgaaDoorFb
import Derived.Test.YtipbcjnniamcgaaDoorNa
/- The framework, part U: whole numbers' arithmetic as plain arithmetic; rows of words. -/
namespace Go.Proofs.YtipbcjnniamcgaaDoor.Fw
set_option linter.unusedSimpArgs false
set_option linter.unusedVariables false
open Go Go.Proofs.YtipbcjnniamcgaaDoor.Ma

theorem wmod_u8 (x : Int) : IntKind.u8.wrap x = x % 256 := by unfold IntKind.wrap; simp [IntKind.bits, IntKind.signed]
theorem wmod_u32 (x : Int) : IntKind.u32.wrap x = x % 4294967296 := by unfold IntKind.wrap; simp [IntKind.bits, IntKind.signed]
theorem wmod_u64 (x : Int) : IntKind.u64.wrap x = x % 18446744073709551616 := by unfold IntKind.wrap; simp [IntKind.bits, IntKind.signed]
theorem wrap_u8 {x : Int} (h0 : 0 ≤ x) (h1 : x < 256) : IntKind.u8.wrap x = x := by rw [wmod_u8]; omega
theorem wrap_u32 {x : Int} (h0 : 0 ≤ x) (h1 : x < 4294967296) : IntKind.u32.wrap x = x := by rw [wmod_u32]; omega
theorem wrap_u64 {x : Int} (h0 : 0 ≤ x) (h1 : x < 18446744073709551616) : IntKind.u64.wrap x = x := by rw [wmod_u64]; omega

theorem fdiv_nat (a b : Nat) : Int.fdiv (a : Int) (b : Int) = ((a / b : Nat) : Int) := by
  rw [Int.fdiv_eq_ediv_of_nonneg _ (by omega)]; simp
theorem tdiv_nat (a b : Nat) : Int.tdiv (a : Int) (b : Int) = ((a / b : Nat) : Int) := by
  rw [Int.tdiv_eq_ediv_of_nonneg (by omega)]; simp
theorem tmod_nat (a b : Nat) : Int.tmod (a : Int) (b : Int) = ((a % b : Nat) : Int) := by
  rw [Int.tmod_eq_emod_of_nonneg (by omega)]; simp

theorem and_nat {w a b : Nat} (ha : a < 2 ^ w) (hb : b < 2 ^ w) : (BitVec.ofInt w (a : Int) &&& BitVec.ofInt w (b : Int)).toNat = a &&& b := by
  rw [BitVec.toNat_and, BitVec.ofInt_natCast, BitVec.ofInt_natCast, BitVec.toNat_ofNat, BitVec.toNat_ofNat, Nat.mod_eq_of_lt ha, Nat.mod_eq_of_lt hb]
theorem or_nat {w a b : Nat} (ha : a < 2 ^ w) (hb : b < 2 ^ w) : (BitVec.ofInt w (a : Int) ||| BitVec.ofInt w (b : Int)).toNat = a ||| b := by
  rw [BitVec.toNat_or, BitVec.ofInt_natCast, BitVec.ofInt_natCast, BitVec.toNat_ofNat, BitVec.toNat_ofNat, Nat.mod_eq_of_lt ha, Nat.mod_eq_of_lt hb]
theorem or_add {a b k : Nat} (h : b < 2 ^ k) : a * 2 ^ k ||| b = a * 2 ^ k + b := by rw [Nat.mul_comm]; exact (Nat.two_pow_add_eq_or_of_lt h a).symm

/-! ### arithmetic, where all is at least nought -/
section
variable {K : AV → Prop}
theorem wn_u8 {n : Nat} (h : n < 256) : IntKind.u8.wrap (n : Int) = n := wrap_u8 (by omega) (by omega)
theorem wn_u32 {n : Nat} (h : n < 4294967296) : IntKind.u32.wrap (n : Int) = n := wrap_u32 (by omega) (by omega)
theorem wn_u64 {n : Nat} (h : n < 18446744073709551616) : IntKind.u64.wrap (n : Int) = n := wrap_u64 (by omega) (by omega)
theorem wn_i64 {n : Nat} (h : n < 9223372036854775808) : IntKind.i64.wrap (n : Int) = n := wrap_i64 (by omega) (by omega)
theorem wm_u8 (n : Nat) : IntKind.u8.wrap (n : Int) = ((n % 256 : Nat) : Int) := by rw [wmod_u8]; omega
theorem wm_u32 (n : Nat) : IntKind.u32.wrap (n : Int) = ((n % 4294967296 : Nat) : Int) := by rw [wmod_u32]; omega
theorem wm_u64 (n : Nat) : IntKind.u64.wrap (n : Int) = ((n % 18446744073709551616 : Nat) : Int) := by rw [wmod_u64]; omega
theorem bin_add (k : IntKind) (a b : Nat) : binW .add (.int k a) (.int k b) K ↔ K (.int k (k.wrap ((a + b : Nat) : Int))) := by
  simp [binW, binInt]
theorem bin_mul (k : IntKind) (a b : Nat) : binW .mul (.int k a) (.int k b) K ↔ K (.int k (k.wrap ((a * b : Nat) : Int))) := by
  simp [binW, binInt]
theorem bin_sub (k : IntKind) {a b : Nat} (h : b ≤ a) : binW .sub (.int k a) (.int k b) K ↔ K (.int k (k.wrap ((a - b : Nat) : Int))) := by
  have : ((a - b : Nat) : Int) = (a : Int) - b := by omega
  simp [binW, binInt, this]
theorem bin_sub64 {a b : Nat} (hb : b ≤ 18446744073709551616) : binW .sub (.int .u64 a) (.int .u64 b) K ↔ K (.int .u64 (((a + 18446744073709551616 - b) % 18446744073709551616 : Nat) : Int)) := by
  have : ((a : Int) - b) % 18446744073709551616 = (((a + 18446744073709551616 - b) % 18446744073709551616 : Nat) : Int) := by omega
  simp only [binW, binInt, wmod_u64, this, true_and]
theorem bin_quo (k : IntKind) (a b : Nat) : binW .quo (.int k a) (.int k b) K ↔ b ≠ 0 ∧ K (.int k (k.wrap ((a / b : Nat) : Int))) := by
  simp only [binW, binInt, tdiv_nat, true_and, ne_eq, Int.natCast_eq_zero]
theorem bin_rem (k : IntKind) (a b : Nat) : binW .rem (.int k a) (.int k b) K ↔ b ≠ 0 ∧ K (.int k ((a % b : Nat) : Int)) := by
  simp only [binW, binInt, tmod_nat, true_and, ne_eq, Int.natCast_eq_zero]
theorem bin_shr (k k' : IntKind) (a : Nat) {b : Nat} (h : b ≤ k.bits) : binW .shr (.int k a) (.int k' b) K ↔ K (.int k ((a / 2 ^ b : Nat) : Int)) := by
  have : ((2 : Int) ^ b) = ((2 ^ b : Nat) : Int) := by simp
  simp only [binW, Int.toNat_natCast, Nat.min_eq_left h, this, fdiv_nat]
  simp
theorem bin_shl (k k' : IntKind) (a : Nat) {b : Nat} (h : b ≤ k.bits) : binW .shl (.int k a) (.int k' b) K ↔ K (.int k (k.wrap ((a * 2 ^ b : Nat) : Int))) := by
  simp only [binW, Int.toNat_natCast, Nat.min_eq_left h]
  simp
theorem bin_shr64 (k' : IntKind) (a : Nat) {b : Nat} (h : b ≤ 64) : binW .shr (.int .u64 a) (.int k' b) K ↔ K (.int .u64 ((a / 2 ^ b : Nat) : Int)) := bin_shr .u64 k' a h
theorem bin_shr32 (k' : IntKind) (a : Nat) {b : Nat} (h : b ≤ 32) : binW .shr (.int .u32 a) (.int k' b) K ↔ K (.int .u32 ((a / 2 ^ b : Nat) : Int)) := bin_shr .u32 k' a h
theorem bin_shl64 (k' : IntKind) (a : Nat) {b : Nat} (h : b ≤ 64) : binW .shl (.int .u64 a) (.int k' b) K ↔ K (.int .u64 (IntKind.u64.wrap ((a * 2 ^ b : Nat) : Int))) := bin_shl .u64 k' a h
theorem bin_shl32 (k' : IntKind) (a : Nat) {b : Nat} (h : b ≤ 32) : binW .shl (.int .u32 a) (.int k' b) K ↔ K (.int .u32 (IntKind.u32.wrap ((a * 2 ^ b : Nat) : Int))) := bin_shl .u32 k' a h
theorem bin_and (k : IntKind) {a b : Nat} (ha : a < 2 ^ k.bits) (hb : b < 2 ^ k.bits) : binW .and (.int k a) (.int k b) K ↔ K (.int k (k.wrap ((a &&& b : Nat) : Int))) := by
  simp only [binW, binInt, and_nat ha hb, true_and]
theorem bin_or (k : IntKind) {a b : Nat} (ha : a < 2 ^ k.bits) (hb : b < 2 ^ k.bits) : binW .or (.int k a) (.int k b) K ↔ K (.int k (k.wrap ((a ||| b : Nat) : Int))) := by
  simp only [binW, binInt, or_nat ha hb, true_and]
theorem bin_and1 {a : Nat} (ha : a < 18446744073709551616) : binW .and (.int .u64 a) (.int .u64 ((1 : Nat) : Int)) K ↔ K (.int .u64 ((a % 2 : Nat) : Int)) := by
  rw [bin_and .u64 (by simpa [IntKind.bits] using ha) (by simp [IntKind.bits]), Nat.and_one_is_mod, wn_u64 (by omega)]
theorem bin_and32 {a : Nat} (ha : a < 18446744073709551616) : binW .and (.int .u64 a) (.int .u64 ((4294967295 : Nat) : Int)) K ↔ K (.int .u64 ((a % 4294967296 : Nat) : Int)) := by
  rw [bin_and .u64 (by simpa [IntKind.bits] using ha) (by simp [IntKind.bits]), show 4294967295 = 2 ^ 32 - 1 from rfl, Nat.and_two_pow_sub_one_eq_mod, wn_u64 (by omega)]
/-- A high limb. -/
def hi32 (a : Nat) : Nat := a * 2 ^ 32
theorem bin_hi32 {k' : IntKind} {a : Nat} (ha : a < 4294967296) : binW .shl (.int .u64 a) (.int k' ((32 : Nat) : Int)) K ↔ K (.int .u64 ((hi32 a : Nat) : Int)) := by
  rw [bin_shl64 _ _ (by omega), wn_u64 (by omega)]; exact Iff.rfl
theorem bin_or64 {a b : Nat} (ha : a < 4294967296) (hb : b < 4294967296) : binW .or (.int .u64 ((hi32 a : Nat) : Int)) (.int .u64 b) K ↔ K (.int .u64 ((a * 2 ^ 32 + b : Nat) : Int)) := by
  unfold hi32
  rw [bin_or .u64 (by simp [IntKind.bits]; omega) (by simp [IntKind.bits]; omega), or_add (by omega), wn_u64 (by omega)]
theorem bin_or64' {a b : Nat} (ha : a < 4294967296) (hb : b < 4294967296) : binW .or (.int .u64 a) (.int .u64 ((hi32 b : Nat) : Int)) K ↔ K (.int .u64 ((a + b * 2 ^ 32 : Nat) : Int)) := by
  unfold hi32
  rw [bin_or .u64 (by simp [IntKind.bits]; omega) (by simp [IntKind.bits]; omega), Nat.or_comm, or_add (by omega), wn_u64 (by omega), Nat.add_comm]
theorem bin_eql (k : IntKind) (a b : Nat) : binW .eql (.int k a) (.int k b) K ↔ K (.bool (decide (a = b))) := by
  simp only [binW, binInt, true_and, Int.natCast_inj]
theorem bin_neq (k : IntKind) (a b : Nat) : binW .neq (.int k a) (.int k b) K ↔ K (.bool (!decide (a = b))) := by
  simp only [binW, binInt, true_and, Int.natCast_inj]
theorem bin_lss (k : IntKind) (a b : Nat) : binW .lss (.int k a) (.int k b) K ↔ K (.bool (decide (a < b))) := by
  simp only [binW, binInt, true_and, Int.ofNat_lt]
theorem bin_leq (k : IntKind) (a b : Nat) : binW .leq (.int k a) (.int k b) K ↔ K (.bool (decide (a ≤ b))) := by
  simp only [binW, binInt, true_and, Int.ofNat_le]
theorem bin_gtr (k : IntKind) (a b : Nat) : binW .gtr (.int k a) (.int k b) K ↔ K (.bool (decide (b < a))) := by
  simp only [binW, binInt, true_and, Int.ofNat_lt]
theorem bin_geq (k : IntKind) (a b : Nat) : binW .geq (.int k a) (.int k b) K ↔ K (.bool (decide (b ≤ a))) := by
  simp only [binW, binInt, true_and, Int.ofNat_le]
theorem conv_nat (k k' : IntKind) (a : Nat) : convW k (.int k' a) K ↔ K (.int k (k.wrap ((a : Nat) : Int))) := by
  simp only [convW]
end

/-- Words of 32 bits, as values. -/
def U (l : List Nat) : List AV := l.map fun x : Nat => .int .u32 (x : Int)
@[simp] theorem U_len (l : List Nat) : (U l).length = l.length := by simp [U]
theorem U_app (l m : List Nat) : U (l ++ m) = U l ++ U m := by simp [U]
theorem U_take (l : List Nat) (n : Nat) : U (l.take n) = (U l).take n := by simp [U, List.map_take]
theorem U_drop (l : List Nat) (n : Nat) : U (l.drop n) = (U l).drop n := by simp [U, List.map_drop]
theorem U_rep (n x : Nat) : U (List.replicate n x) = List.replicate n (.int .u32 (x : Int)) := by simp [U]
theorem U_nil : U [] = [] := rfl
theorem U_cons (x : Nat) (l : List Nat) : U (x :: l) = .int .u32 (x : Int) :: U l := rfl
theorem U_cell (l : List Nat) : (U l).all AV.cell = true := by simp [U, AV.cell]
def LS (l : List Nat) (t : Bool) : AV := .seq l.length (U l) t

theorem U_drop_cons (l : List Nat) (i : Nat) (h : i < l.length) : (U l).drop i = .int .u32 ((l.getD i 0 : Nat) : Int) :: (U l).drop (i + 1) := by
  rw [List.drop_eq_getElem_cons (by simpa using h)]
  congr 1
  simp [U, h]
theorem splice_one (l : List Nat) (i x : Nat) (h : i < l.length) : splice (U l) i [.int .u32 (x : Int)] = U (l.set i x) := by
  unfold splice U
  rw [List.map_set, List.set_eq_take_append_cons_drop, if_pos (by simpa using h)]
  simp
theorem load_cptr {H : AHeap} {l : List Nat} {i : Nat} {K : AV → Prop} (h : i < l.length) (k : K (.int .u32 ((l.getD i 0 : Nat) : Int))) : loadW H none (.cptr ((U l).drop i)) K := by
  refine ⟨by simp; omega, ?_⟩
  rw [U_drop_cons l i h]; exact k
theorem load_ptr {H : AHeap} {b L off ty es : Nat} {l : List Nat} {K : AV → Prop} (hH : H b = some (.row ty es (U l))) (hL : l.length = L) (h : off < L) (k : K (.int .u32 ((l.getD off 0 : Nat) : Int))) : loadW H none (.ptr b L off) K := by
  subst hL
  simp only [loadW, cellsAt, hH]
  refine ⟨by simp, by omega, ?_⟩
  rw [U_drop_cons l off h]; exact k
theorem store_ptr {H : AHeap} {b L off ty es : Nat} {l : List Nat} {x : Nat} {K : AV → AHeap → Prop} (hH : H b = some (.row ty es (U l))) (hL : l.length = L) (h : off < L) (k : K .bot (H.upd b (some (.row ty es (U (l.set off x)))))) : storeW H 1 (.ptr b L off) (.int .u32 (x : Int)) K := by
  subst hL
  simp only [storeW, hH, AV.cells]
  refine ⟨by simp, rfl, by omega, ?_⟩
  rw [splice_one l off x h]; exact k

end Go.Proofs.YtipbcjnniamcgaaDoor.Fw

/- The framework, part V: the steps as equations. -/
namespace Go.Proofs.YtipbcjnniamcgaaDoor.Fw
set_option linter.unusedSimpArgs false
set_option linter.unusedVariables false
open Go

/-- What follows an operation. -/
def opK (P : Program) (r : List AOper) (s : St) (d : Option Nat) (K : St → Prop) (v : AV) (H : AHeap) : Prop := seqOps P r ⟨s.D, putE s.E d v, H⟩ K
def regK (kp : List Nat) (q : St → Prop) (s : St) : Prop := q (s.keep kp)
def pk (K : AV → AHeap → Prop) (H : AHeap) (r : AV) : Prop := K r H

section
variable {P : Program} {Q : Exit → St → Prop} {s : St} {K : St → Prop}
theorem W_skip : W P .skip Q s = Q .normal s := id rfl
theorem W_reg {l : List AOper} {kp : List Nat} : W P (.reg l kp) Q s = seqOps P l s (regK kp (Q .normal)) := id rfl
theorem W_seq {a b : ACode} : W P (.seq a b) Q s = W P a (thenA (W P b Q) Q) s := id rfl
def condW (P : Program) (a b : ACode) (Q : Exit → St → Prop) (s : St) : AV → Prop
  | .bool t => (t = true → W P a Q s) ∧ (t = false → W P b Q s)
  | _ => False
theorem W_cond {c : Opd} {a b : ACode} : W P (.cond c a b) Q s = condW P a b Q s (c.ev s.E.get) := by
  simp only [W]; cases c.ev s.E.get <;> rfl
theorem condW_t {a b : ACode} : condW P a b Q s (.bool true) = W P a Q s := by simp [condW]
theorem condW_f {a b : ACode} : condW P a b Q s (.bool false) = W P b Q s := by simp [condW]
theorem W_block {n : Nat} {c : ACode} : W P (.block n c) Q s = W P c (blockA n Q) s := id rfl
theorem W_exit {n : Nat} : W P (.exit n) Q s = Q (.exit n) s := id rfl
theorem W_ret : W P .ret Q s = Q .ret s := id rfl
theorem W_scope {c : ACode} : W P (.scope0 c) Q s = W P c (scopeA Q) s := id rfl
theorem setl_e {Q : Exit → St → Prop} {n : Nat} {s : St} : setl Q (.exit n) s = Settle (Q (.exit n)) s := id rfl
theorem setl_r {Q : Exit → St → Prop} {s : St} : setl Q .ret s = Q .ret s := id rfl
/-- A loop: its rounds are told apart by what is in x. -/
theorem W_loop {σ : Type} {c : ACode} (f : σ → St) (inv : σ → Prop) (m : σ → Nat) (x0 : σ) (h0 : Settle (fun s' => s' = f x0) s) (hi : inv x0) (h : ∀ x, inv x → W P c (thenA (Settle fun s' => ∃ x', m x' < m x ∧ inv x' ∧ s' = f x') (setl Q)) (f x)) : W P (.loop c) Q s := by
  refine ⟨fun n s' => ∃ x, m x = n ∧ inv x ∧ s' = f x, ⟨m x0, h0.mono fun s' e => ⟨x0, rfl, hi, e⟩⟩, ?_⟩
  rintro n s' ⟨x, rfl, hx, rfl⟩
  have := h x hx
  have e : (thenA (Settle fun s'' => ∃ n', n' < m x ∧ ∃ x, m x = n' ∧ inv x ∧ s'' = f x) (setl Q)) = thenA (Settle fun s' => ∃ x', m x' < m x ∧ inv x' ∧ s' = f x') (setl Q) := by
    funext e s'
    cases e <;> simp only [thenA]
    congr 1
    funext s''
    simp only [eq_iff_iff]
    exact ⟨fun ⟨_, h1, x', h2, h3, h4⟩ => ⟨x', h2 ▸ h1, h3, h4⟩, fun ⟨x', h1, h2, h3⟩ => ⟨_, h1, x', rfl, h2, h3⟩⟩
  rw [e]; exact this
theorem thenA_n {K : St → Prop} : thenA K Q .normal s = K s := id rfl
theorem thenA_nf {K : St → Prop} : thenA K Q .normal = K := id rfl
theorem thenA_e {K : St → Prop} {n : Nat} : thenA K Q (.exit n) s = Q (.exit n) s := id rfl
theorem thenA_r {K : St → Prop} : thenA K Q .ret s = Q .ret s := id rfl
theorem blockA_n {n : Nat} : blockA n Q .normal = Q .normal := id rfl
theorem blockA_r {n : Nat} : blockA n Q .ret s = Q .ret s := id rfl
theorem blockA_e {n : Nat} : blockA n Q (.exit n) s = Q .normal s := by simp [blockA]
theorem blockA_o {n m : Nat} (h : m ≠ n) : blockA n Q (.exit m) s = Q (.exit m) s := by simp [blockA, h]
theorem scopeA_n : scopeA Q .normal = Q .normal := id rfl
theorem scopeA_r : scopeA Q .ret s = Q .ret s := id rfl
theorem scopeA_e {n : Nat} : scopeA Q (.exit n) s = Q (.exit n) s := id rfl
theorem regK_eq {kp : List Nat} {D : List Nat} {E : Env} {H : AHeap} : regK kp K ⟨D, E, H⟩ = K ⟨D, E.keep kp, H⟩ := id rfl
theorem keep_nil {l : List Nat} : Env.keep [] l = [] := id rfl
theorem keep_cons {k : Nat} {v : AV} {r : Env} {l : List Nat} : Env.keep ((k, v) :: r) l = if l.contains k then (k, v) :: Env.keep r l else Env.keep r l := id rfl
theorem get_cons {k t : Nat} {v : AV} {r : Env} : Env.get ((k, v) :: r) t = if k = t then v else Env.get r t := id rfl
theorem set_nil {t : Nat} {x : AV} : Env.set [] t x = [(t, x)] := id rfl
theorem set_cons {k t : Nat} {v x : AV} {r : Env} : Env.set ((k, v) :: r) t x = if t < k then (t, x) :: (k, v) :: r else if k = t then (t, x) :: r else (k, v) :: Env.set r t x := id rfl
theorem so_nil : seqOps P [] s K = K s := id rfl
theorem so_cons {d : Option Nat} {o : AOp} {r : List AOper} : seqOps P (⟨d, none, o⟩ :: r) s K = effW P o s.E.get s.H (opK P r s d K) := id rfl
def grd (P : Program) (d : Option Nat) (o : AOp) (r : List AOper) (b : Bool) (s : St) (K : St → Prop) : AV → Prop
  | .bool b' => (b' = b → effW P o s.E.get s.H (opK P r s d K)) ∧ (b' ≠ b → opK P r s d K und s.H)
  | .tup [] => opK P r s d K und s.H
  | _ => False
theorem so_guard {d : Option Nat} {o : AOp} {r : List AOper} {t : Nat} {b : Bool} : seqOps P (⟨d, some (t, b), o⟩ :: r) s K = grd P d o r b s K (s.E.get t) := by
  simp only [seqOps]
  cases s.E.get t with
  | tup l => cases l <;> rfl
  | _ => rfl
theorem grd_u {d : Option Nat} {o : AOp} {r : List AOper} {b : Bool} : grd P d o r b s K und = opK P r s d K und s.H := id rfl
theorem grd_tt {d : Option Nat} {o : AOp} {r : List AOper} : grd P d o r true s K (.bool true) = effW P o s.E.get s.H (opK P r s d K) := by simp [grd]
theorem grd_ff {d : Option Nat} {o : AOp} {r : List AOper} : grd P d o r false s K (.bool false) = effW P o s.E.get s.H (opK P r s d K) := by simp [grd]
theorem grd_tf {d : Option Nat} {o : AOp} {r : List AOper} : grd P d o r true s K (.bool false) = opK P r s d K und s.H := by simp [grd]
theorem grd_ft {d : Option Nat} {o : AOp} {r : List AOper} : grd P d o r false s K (.bool true) = opK P r s d K und s.H := by simp [grd]
theorem opK_some {r : List AOper} {D : List Nat} {E : Env} {H' : AHeap} {d : Nat} {v : AV} {H : AHeap} : opK P r ⟨D, E, H'⟩ (some d) K v H = seqOps P r ⟨D, E.set d v, H⟩ K := id rfl
theorem opK_none {r : List AOper} {D : List Nat} {E : Env} {H' : AHeap} {v : AV} {H : AHeap} : opK P r ⟨D, E, H'⟩ none K v H = seqOps P r ⟨D, E, H⟩ K := id rfl
end
section
variable {P : Program} {E : Nat → AV} {H : AHeap} {K : AV → AHeap → Prop}
theorem pk_eq {v : AV} : pk K H v = K v H := id rfl
theorem e_mov {x : Opd} : effW P (.mov x) E H K = K (x.ev E) H := id rfl
def pickW (E : Nat → AV) (H : AHeap) (K : AV → AHeap → Prop) (a b : Opd) : AV → Prop
  | .bool t => (t = true → K (a.ev E) H) ∧ (t = false → K (b.ev E) H)
  | _ => False
theorem e_pick {c a b : Opd} : effW P (.pick c a b) E H K = pickW E H K a b (c.ev E) := by
  simp only [effW, pureW]; cases c.ev E <;> rfl
theorem pickW_t {a b : Opd} : pickW E H K a b (.bool true) = K (a.ev E) H := by simp [pickW]
theorem pickW_f {a b : Opd} : pickW E H K a b (.bool false) = K (b.ev E) H := by simp [pickW]
theorem e_bin {op : BinOp} {x y : Opd} : effW P (.bin op x y) E H K = binW op (x.ev E) (y.ev E) (pk K H) := id rfl
theorem e_binB {op : BinOp} {x y : Opd} : effW P (.binB op x y) E H K = binBW op (x.ev E) (y.ev E) (pk K H) := id rfl
theorem e_un {op : UnOp} {x : Opd} : effW P (.un op x) E H K = unW op (x.ev E) (pk K H) := id rfl
theorem e_nilS {g : Bool} {x : Opd} : effW P (.nilS g x) E H K = nilW g (x.ev E) (pk K H) := id rfl
theorem e_conv {k : IntKind} {x : Opd} : effW P (.conv k x) E H K = convW k (x.ev E) (pk K H) := id rfl
theorem e_ext {x : Opd} {i : Nat} : effW P (.ext x i) E H K = extW (x.ev E) i (pk K H) := id rfl
theorem e_fld {off : Nat} {n : Option Nat} {x : Opd} : effW P (.fld off n x) E H K = fldW off n (x.ev E) (pk K H) := id rfl
theorem e_build {z : List AV} {ps : List (Nat × Nat × Opd)} : effW P (.build z ps) E H K = buildW z (evP E ps) (pk K H) := id rfl
theorem e_load {n : Option Nat} {x : Opd} : effW P (.load n x) E H K = loadW H n (x.ev E) (pk K H) := id rfl
theorem e_fldA {off : Nat} {x : Opd} : effW P (.fldA off x) E H K = (live H (x.ev E) ∧ fldAW off (x.ev E) (pk K H)) := id rfl
theorem e_idxA {es : Nat} {x i : Opd} : effW P (.idxA es x i) E H K = (liveS H (x.ev E) ∧ idxAW es (x.ev E) (i.ev E) (pk K H)) := id rfl
theorem e_idxS {x i : Opd} : effW P (.idxS x i) E H K = idxSW (x.ev E) (i.ev E) (pk K H) := id rfl
theorem e_len {s : Bool} {x : Opd} : effW P (.len s x) E H K = lenW s (x.ev E) (pk K H) := id rfl
theorem e_slc {es : Nat} {x : Opd} {lo hi mx : Option Opd} : effW P (.slc es x lo hi mx) E H K = (liveE es H (x.ev E) ∧ slcW es (x.ev E) (evO E lo) (evO E hi) (evO E mx) (pk K H)) := id rfl
theorem e_slcS {x : Opd} {lo hi : Option Opd} : effW P (.slcS x lo hi) E H K = slcSW (x.ev E) (evO E lo) (evO E hi) (pk K H) := id rfl
theorem e_mkF {f : Fn} {a b : List Opd} : effW P (.mkF f a b) E H K = K (.fn f (evs E a) (evs E b)) H := id rfl
theorem e_gr {m : Bool} {x y : Opd} : effW P (.gr m x y) E H K = maxW m (x.ev E) (y.ev E) (pk K H) := id rfl
theorem e_bsl {z : List AV} {len es : Nat} {ps : List (Nat × Nat × Opd)} : effW P (.bsl z len es ps) E H K = bslW z len es (evP E ps) (pk K H) := id rfl
theorem e_call {f : Opd} {as : List Opd} : effW P (.call f as) E H K = callW P (f.ev E) (evs E as) H K := id rfl
theorem e_alloc {ty es : Nat} {cells : List AV} : effW P (.alloc ty es cells) E H K = allocW H ty es cells K := id rfl
def boxW (H : AHeap) (ty es : Nat) (K : AV → AHeap → Prop) : Option (List AV) → Prop
  | some l => allocW H ty es l K
  | none => False
theorem e_box {ty es : Nat} {x : Opd} : effW P (.box ty es x) E H K = boxW H ty es K (x.ev E).cells := by
  simp only [effW]; cases (x.ev E).cells <;> rfl
theorem boxW_s {ty es : Nat} {l : List AV} : boxW H ty es K (some l) = allocW H ty es l K := id rfl
theorem e_store {n : Nat} {x v : Opd} : effW P (.store n x v) E H K = storeW H n (x.ev E) (v.ev E) K := id rfl
theorem e_mks {ty es bytes : Nat} {z : List AV} {l c : Opd} : effW P (.mks ty es bytes z l c) E H K = mksW H ty es bytes z (l.ev E) (c.ev E) K := id rfl
theorem e_app {ty es bytes : Nat} {x y : Opd} : effW P (.app ty es bytes x y) E H K = appV H ty es bytes (x.ev E) (y.ev E) K := id rfl
theorem e_cpy {es : Nat} {x y : Opd} : effW P (.cpy es x y) E H K = cpyW H es (x.ev E) (y.ev E) K := id rfl
theorem ev_t {n : Nat} : (Opd.t n).ev E = E n := id rfl
theorem ev_k {v : AV} : (Opd.k v).ev E = v := id rfl
theorem evs_nil : evs E [] = [] := id rfl
theorem evs_cons {x : Opd} {l : List Opd} : evs E (x :: l) = x.ev E :: evs E l := id rfl
theorem evO_none : evO E none = none := id rfl
theorem evO_some {x : Opd} : evO E (some x) = some (x.ev E) := id rfl
theorem evP_nil : evP E [] = [] := id rfl
theorem evP_cons {a b : Nat} {x : Opd} {l : List (Nat × Nat × Opd)} : evP E ((a, b, x) :: l) = (a, b, x.ev E) :: evP E l := id rfl
end
/-! ### the steps themselves -/
section
variable {H : AHeap} {K : AV → Prop}
theorem len_LS {l : List Nat} {t : Bool} : lenW false (LS l t) K = (l.length < 2 ^ 63 → K (.int .i64 ((l.length : Nat) : Int))) := id rfl
theorem len_own {b L off n : Nat} {t : Bool} : lenW false (.own b L off n t) K = (n < 2 ^ 63 → K (.int .i64 ((n : Nat) : Int))) := id rfl
@[simp high] theorem len_LSk {l : List Nat} {t : Bool} (h : l.length < 2 ^ 63) : lenW false (LS l t) K = K (.int .i64 ((l.length : Nat) : Int)) := by rw [len_LS]; simp [h]
@[simp high] theorem len_ownk {b L off n : Nat} {t : Bool} (h : n < 2 ^ 63) : lenW false (.own b L off n t) K = K (.int .i64 ((n : Nat) : Int)) := by rw [len_own]; simp [h]
theorem slc_own3 {es b L off n : Nat} {t : Bool} {k k' k'' : IntKind} {i j m : Nat} (h : i ≤ j) (h1 : j ≤ m) (h2 : m ≤ n) : slcW es (.own b L off n t) (some (.int k (i : Int))) (some (.int k' (j : Int))) (some (.int k'' (m : Int))) K = K (.own b L (off + i * es) (j - i) (decide (j = m))) := by
  have e1 : ((j : Int) - (i : Int)).toNat = j - i := by omega
  have e3 : ((j : Int) = m) ↔ j = m := by omega
  simp [slcW, optI, e1, e3, h, h1, h2]
theorem slc_own3' {es b L off n : Nat} {t : Bool} {k' k'' : IntKind} {j m : Nat} (h1 : j ≤ m) (h2 : m ≤ n) : slcW es (.own b L off n t) none (some (.int k' (j : Int))) (some (.int k'' (m : Int))) K = K (.own b L off j (decide (j = m))) := by
  have e3 : ((j : Int) = m) ↔ j = m := by omega
  have e4 : (0 : Int) ≤ j := by omega
  simp [slcW, optI, e3, e4, h1, h2]
theorem slc_own2 {es b L off n : Nat} {t : Bool} {k k' : IntKind} {i j : Nat} (h : i ≤ j) (h1 : j ≤ n) : slcW es (.own b L off n t) (some (.int k (i : Int))) (some (.int k' (j : Int))) none K = K (.own b L (off + i * es) (j - i) (t && decide (j = n))) := by
  have e1 : ((j : Int) - (i : Int)).toNat = j - i := by omega
  have e3 : ((j : Int) = n) ↔ j = n := by omega
  simp [slcW, optI, e1, e3, h, h1]
theorem slc_own2' {es b L off n : Nat} {t : Bool} {k' : IntKind} {j : Nat} (h1 : j ≤ n) : slcW es (.own b L off n t) none (some (.int k' (j : Int))) none K = K (.own b L off j (t && decide (j = n))) := by
  have e3 : ((j : Int) = n) ↔ j = n := by omega
  have e4 : (0 : Int) ≤ j := by omega
  simp [slcW, optI, e3, e4, h1]
theorem slc_LS2' {l : List Nat} {t : Bool} {k' : IntKind} {b : Nat} (h1 : b ≤ l.length) : slcW 1 (LS l t) none (some (.int k' (b : Int))) none K = K (LS (l.take b) (t && decide (b = l.length))) := by
  have e2 : min b l.length = b := by omega
  have e3 : ((b : Int) = l.length) ↔ b = l.length := by omega
  have e4 : (0 : Int) ≤ b := by omega
  simp [slcW, LS, optI, e2, e3, e4, h1, U_take]
theorem slc_LS2 {l : List Nat} {t : Bool} {k k' : IntKind} {a b : Nat} (h : a ≤ b) (h1 : b ≤ l.length) : slcW 1 (LS l t) (some (.int k (a : Int))) (some (.int k' (b : Int))) none K = K (LS ((l.drop a).take (b - a)) (t && decide (b = l.length))) := by
  have e1 : ((b : Int) - (a : Int)).toNat = b - a := by omega
  have e2 : min (b - a) (l.length - a) = b - a := by omega
  have e3 : ((b : Int) = l.length) ↔ b = l.length := by omega
  simp [slcW, LS, optI, e1, e2, e3, h, h1, U_take, U_drop]
theorem slc_LS1 {l : List Nat} {t : Bool} {k : IntKind} {a : Nat} (h : a ≤ l.length) : slcW 1 (LS l t) (some (.int k (a : Int))) none none K = K (LS (l.drop a) t) := by
  have e1 : ((l.length : Int) - (a : Int)).toNat = l.length - a := by omega
  simp [slcW, LS, optI, e1, h, U_drop, List.take_of_length_le]
theorem liveS_LS {l : List Nat} {t : Bool} : liveS H (LS l t) = True := id rfl
theorem liveE_LS {es : Nat} {l : List Nat} {t : Bool} : liveE es H (LS l t) = True := id rfl
theorem idx_LS {l : List Nat} {t : Bool} {k : IntKind} {i : Nat} (h : i < l.length) : idxAW 1 (LS l t) (.int k (i : Int)) K = K (.cptr ((U l).drop i)) := by
  simp [idxAW, LS, h]
theorem load_LS {l : List Nat} {i : Nat} (h : i < l.length) : loadW H none (.cptr ((U l).drop i)) K = K (.int .u32 ((l.getD i 0 : Nat) : Int)) := by
  simp only [loadW, cellsAt, U_drop_cons l i h, eq_iff_iff]
  simp
theorem slc_LS3 {l : List Nat} {t : Bool} {k k' k'' : IntKind} {a b c : Nat} (h : a ≤ b) (h1 : b ≤ c) (h2 : c ≤ l.length) : slcW 1 (LS l t) (some (.int k (a : Int))) (some (.int k' (b : Int))) (some (.int k'' (c : Int))) K = K (LS ((l.drop a).take (b - a)) (decide (b = c))) := by
  have e1 : ((b : Int) - (a : Int)).toNat = b - a := by omega
  have e2 : min (b - a) (l.length - a) = b - a := by omega
  have e3 : ((b : Int) = c) ↔ b = c := by omega
  simp [slcW, LS, optI, e1, e2, e3, h, h1, h2, U_take, U_drop]
theorem slc_LS3' {l : List Nat} {t : Bool} {k' k'' : IntKind} {b c : Nat} (h1 : b ≤ c) (h2 : c ≤ l.length) : slcW 1 (LS l t) none (some (.int k' (b : Int))) (some (.int k'' (c : Int))) K = K (LS (l.take b) (decide (b = c))) := by
  have e1 : ((b : Int) - 0).toNat = b := by omega
  have e2 : min b l.length = b := by omega
  have e3 : ((b : Int) = c) ↔ b = c := by omega
  have e4 : (0 : Int) ≤ b := by omega
  simp [slcW, LS, optI, e2, e3, e4, h1, h2, U_take]
end

/-! ### returning -/
section
variable {Q : AV → AHeap → Prop} {E : Nat → AV} {H : AHeap}
def consK (K : List AV → Prop) (v : AV) (l : List AV) : Prop := K (v :: l)
def cellK (E : Nat → AV) (H : AHeap) (r : List RV) (K : List AV → Prop) (v : AV) : Prop := resA E H r (consK K v)
theorem retN_r {rs : List RV} {E : Env} : retN rs Q .ret ⟨[], E, H⟩ = resA E.get H rs (resK Q H) := by simp [retN, retD]
theorem retN_n {rs : List RV} {E : Env} : retN rs Q .normal ⟨[], E, H⟩ = resA E.get H rs (resK Q H) := by simp [retN, retD]
theorem retD_r {rs : List RV} {E : Env} {d : Nat} {D : List Nat} : retN rs Q .ret ⟨d :: D, E, H⟩ = (H d = some (.raw (.deferred (some []))) ∧ retN rs Q .ret ⟨D, E, H.upd d none⟩) := by simp [retN, retD]
theorem retD_n {rs : List RV} {E : Env} {d : Nat} {D : List Nat} : retN rs Q .normal ⟨d :: D, E, H⟩ = (H d = some (.raw (.deferred (some []))) ∧ retN rs Q .normal ⟨D, E, H.upd d none⟩) := by simp [retN, retD]
theorem W_rfn {P : Program} {Q : Exit → St → Prop} {g : Opd} {ps : List Nat} {a b : ACode} {D : List Nat} {E : Env} : W P (.rfn g ps a b) Q ⟨D, E, H⟩ = rfnW P ps (W P a) (W P b) (g.ev E.get) Q ⟨D, E, H⟩ := id rfl
theorem resA_nil {K : List AV → Prop} : resA E H [] K = K [] := id rfl
theorem resA_t {n : Nat} {r : List RV} {K : List AV → Prop} : resA E H (.t n :: r) K = resA E H r (consK K (E n)) := id rfl
theorem resA_cell {n : Nat} {ag : Option Nat} {r : List RV} {K : List AV → Prop} : resA E H (.cell n ag :: r) K = loadW H ag (E n) (cellK E H r K) := id rfl
theorem consK_eq {K : List AV → Prop} {v : AV} {l : List AV} : consK K v l = K (v :: l) := id rfl
theorem cellK_eq {r : List RV} {K : List AV → Prop} {v : AV} : cellK E H r K v = resA E H r (consK K v) := id rfl
theorem resK_1 {v : AV} : resK Q H [v] = SetR Q v H := id rfl
theorem resK_2 {v v' : AV} {l : List AV} : resK Q H (v :: v' :: l) = SetR Q (.tup (v :: v' :: l)) H := id rfl
theorem resK_0 : resK Q H [] = SetR Q (.tup []) H := id rfl
end
/-- Blocks that are not one (told so that arithmetic does not look at it). -/
def Ap (a b : Nat) : Prop := a ≠ b
theorem Ap.symm {a b : Nat} (h : Ap a b) : Ap b a := Ne.symm h
/-! ### memory -/
section
variable {H : AHeap} {K : AV → Prop} {K2 : AV → AHeap → Prop}
def ldC (n : Option Nat) (K : AV → Prop) (l : List AV) : Prop :=
  match n with
  | some _ => K (.agg l)
  | none => match l with
    | [y] => K y
    | _ => False
theorem ldC_s {n : Nat} {l : List AV} : ldC (some n) K l = K (.agg l) := id rfl
theorem ldC_n {y : AV} : ldC none K [y] = K y := id rfl
def ldP (n : Option Nat) (L off : Nat) (K : AV → Prop) : Option ABlk → Prop
  | some (.row _ _ cells) => cells.length = L ∧ off + n.getD 1 ≤ L ∧ ldC n K ((cells.drop off).take (n.getD 1))
  | some (.glob _ cells) => cells.length = L ∧ off + n.getD 1 ≤ L ∧ ldC n K ((cells.drop off).take (n.getD 1))
  | _ => False
theorem loadW_ptr {n : Option Nat} {b L off : Nat} : loadW H n (.ptr b L off) K = ldP n L off K (H b) := by
  simp only [loadW, cellsAt, ldP]
  cases n <;> cases H b with
  | none => rfl
  | some x => cases x <;> rfl
theorem ldP_lit {n : Option Nat} {L off : Nat} {ty es : Nat} {x : AV} {cells : List AV} : ldP n L off K (some (.row ty es (x :: cells))) = ((x :: cells).length = L ∧ off + n.getD 1 ≤ L ∧ ldC n K (((x :: cells).drop off).take (n.getD 1))) := id rfl
theorem ldP_U {L off : Nat} {ty es : Nat} {l : List Nat} (hL : l.length = L) (h : off < L) : ldP none L off K (some (.row ty es (U l))) = K (.int .u32 ((l.getD off 0 : Nat) : Int)) := by
  subst hL
  have : off + 1 ≤ l.length := h
  simp [ldP, this, U_drop_cons l off h, ldC]
def liveP (L : Nat) : Option ABlk → Prop
  | some y => y.len = L
  | none => False
theorem live_ptr {b L off : Nat} : live H (.ptr b L off) = liveP L (H b) := by
  simp only [live, liveP]; cases H b <;> rfl
theorem liveP_row {L ty es : Nat} {cells : List AV} : liveP L (some (.row ty es cells)) = (cells.length = L) := id rfl
theorem liveP_rowk {L ty es : Nat} {cells : List AV} (h : cells.length = L) : liveP L (some (.row ty es cells)) = True := by rw [liveP_row]; simp [h]
theorem live_cptr {l : List AV} : live H (.cptr l) = True := id rfl
def liveSP (L : Nat) : Option ABlk → Prop
  | some (.row _ _ cells) => cells.length = L
  | _ => False
theorem liveS_own {b L off n : Nat} {t : Bool} : liveS H (.own b L off n t) = liveSP L (H b) := by
  simp only [liveS, liveSP]
  cases H b with
  | none => rfl
  | some x => cases x <;> rfl
theorem liveSP_row {L ty es : Nat} {cells : List AV} : liveSP L (some (.row ty es cells)) = (cells.length = L) := id rfl
theorem liveSP_rowk {L ty es : Nat} {cells : List AV} (h : cells.length = L) : liveSP L (some (.row ty es cells)) = True := by simp [liveSP, h]
def liveEP (es L : Nat) : Option ABlk → Prop
  | some (.row _ es' cells) => cells.length = L ∧ es' = es
  | _ => False
theorem liveE_own {es b L off n : Nat} {t : Bool} : liveE es H (.own b L off n t) = liveEP es L (H b) := by
  simp only [liveE, liveEP]
  cases H b with
  | none => rfl
  | some x => cases x <;> rfl
theorem liveEP_row {es es' L ty : Nat} {cells : List AV} : liveEP es L (some (.row ty es' cells)) = (cells.length = L ∧ es' = es) := id rfl
theorem liveEP_rowk {es L ty : Nat} {cells : List AV} (h : cells.length = L) : liveEP es L (some (.row ty es cells)) = True := by simp [liveEP, h]
theorem liveS_seq {n : Nat} {l : List AV} {t : Bool} : liveS H (.seq n l t) = True := id rfl
theorem liveE_seq {es n : Nat} {l : List AV} {t : Bool} : liveE es H (.seq n l t) = True := id rfl
theorem fldA_ptr {off b L o : Nat} : fldAW off (.ptr b L o) K = K (.ptr b L (o + off)) := id rfl
theorem fldA_cptr {off : Nat} {l : List AV} : fldAW off (.cptr l) K = K (.cptr (l.drop off)) := id rfl
theorem idx_own {es b L off n : Nat} {t : Bool} {k : IntKind} {i : Nat} (h : i < n) : idxAW es (.own b L off n t) (.int k (i : Int)) K = K (.ptr b L (off + i * es)) := by
  simp [idxAW, h]
def stP (H : AHeap) (n b L off : Nat) (K : AV → AHeap → Prop) : Option (List AV) → Option ABlk → Prop
  | some l, some (.row ty es cells) => cells.length = L ∧ l.length = n ∧ off + n ≤ L ∧ K .bot (H.upd b (some (.row ty es (splice cells off l))))
  | _, _ => False
theorem store_ptr' {n b L off : Nat} {y : AV} : storeW H n (.ptr b L off) y K2 = stP H n b L off K2 y.cells (H b) := by
  simp only [storeW, stP]
  cases H b with
  | none => cases y.cells <;> rfl
  | some x => cases x <;> cases y.cells <;> rfl
theorem stP_lit {n b L off ty es : Nat} {x : AV} {cells l : List AV} : stP H n b L off K2 (some l) (some (.row ty es (x :: cells))) = ((x :: cells).length = L ∧ l.length = n ∧ off + n ≤ L ∧ K2 .bot (H.upd b (some (.row ty es (splice (x :: cells) off l))))) := id rfl
theorem stP_U {b L off ty es x : Nat} {l : List Nat} (hL : l.length = L) (h : off < L) : stP H 1 b L off K2 (some [.int .u32 (x : Int)]) (some (.row ty es (U l))) = K2 .bot (H.upd b (some (.row ty es (U (l.set off x))))) := by
  subst hL
  have : off + 1 ≤ l.length := h
  simp [stP, this, splice_one l off x h]
theorem cells_int {k : IntKind} {n : Int} : (AV.int k n).cells = some [.int k n] := id rfl
theorem cells_bool {b : Bool} : (AV.bool b).cells = some [.bool b] := id rfl
theorem cells_agg {l : List AV} (h : l.all AV.cell = true) : (AV.agg l).cells = some l := by simp [AV.cells, h]
theorem cells_a2 {b : Bool} {l : List Nat} {t : Bool} : (AV.agg [.bool b, LS l t]).cells = some [.bool b, LS l t] := rfl
theorem cells_a2' {b : Bool} {n : Nat} {l : List AV} {t : Bool} : (AV.agg [.bool b, .seq n l t]).cells = some [.bool b, .seq n l t] := rfl
theorem cells_LS {l : List Nat} {t : Bool} : (LS l t).cells = some [LS l t] := id rfl
theorem cells_seq {n : Nat} {l : List AV} {t : Bool} : (AV.seq n l t).cells = some [.seq n l t] := id rfl
theorem cells_own {b L off n : Nat} {t : Bool} : (AV.own b L off n t).cells = some [.own b L off n t] := id rfl
theorem cell_int {k : IntKind} {n : Int} : (AV.int k n).cell = true := id rfl
theorem cell_bool {b : Bool} : (AV.bool b).cell = true := id rfl
theorem cell_LS {l : List Nat} {t : Bool} : (LS l t).cell = true := id rfl
theorem cell_seq {n : Nat} {l : List AV} {t : Bool} : (AV.seq n l t).cell = true := id rfl
theorem cell_own {b L off n : Nat} {t : Bool} : (AV.own b L off n t).cell = true := id rfl
theorem splice_lit {cells l : List AV} {off : Nat} : splice cells off l = cells.take off ++ l ++ cells.drop (off + l.length) := id rfl
theorem binB_eql {a b : Bool} : binBW .eql (.bool a) (.bool b) K = K (.bool (a == b)) := id rfl
theorem binB_neq {a b : Bool} : binBW .neq (.bool a) (.bool b) K = K (.bool (!(a == b))) := id rfl
theorem un_not {b : Bool} : unW .not (.bool b) K = K (.bool (!b)) := id rfl
theorem un_neg {k : IntKind} {n : Int} : unW .neg (.int k n) K = K (.int k (k.wrap (0 - n))) := id rfl
theorem ext_0 {x : AV} {l : List AV} : extW (.tup (x :: l)) 0 K = K x := id rfl
theorem ext_1 {x y : AV} {l : List AV} : extW (.tup (x :: y :: l)) 1 K = K y := id rfl
theorem ext_2 {x y z : AV} {l : List AV} : extW (.tup (x :: y :: z :: l)) 2 K = K z := id rfl
theorem fld_0 {x : AV} {l : List AV} : fldW 0 none (.agg (x :: l)) K = K x := id rfl
theorem fld_1 {x y : AV} {l : List AV} : fldW 1 none (.agg (x :: y :: l)) K = K y := id rfl
theorem fld_2 {x y z : AV} {l : List AV} : fldW 2 none (.agg (x :: y :: z :: l)) K = K z := id rfl
theorem fld_s {off n : Nat} {l : List AV} : fldW off (some n) (.agg l) K = (off + n ≤ l.length ∧ K (.agg ((l.drop off).take n))) := id rfl
def buK (K : AV → Prop) : Option (List AV) → Prop
  | some l => K (.agg l)
  | none => False
theorem build_eq {z : List AV} {ps : List (Nat × Nat × AV)} : buildW z ps K = buK K (fillA z ps) := by
  simp only [buildW, buK]; cases fillA z ps <;> rfl
theorem buK_s {l : List AV} : buK K (some l) = K (.agg l) := id rfl
def bsK (n : Nat) (K : AV → Prop) : Option (List AV) → Prop
  | some l => K (.seq n l true)
  | none => False
theorem bsl_eq {z : List AV} {n es : Nat} {ps : List (Nat × Nat × AV)} : bslW z n es ps K = bsK n K (fillA (repA z (n * es)) ps) := by
  simp only [bslW, bsK]; cases fillA (repA z (n * es)) ps <;> rfl
theorem bsK_s {n : Nat} {l : List AV} : bsK n K (some l) = K (.seq n l true) := id rfl
theorem fill_nil {cells : List AV} : fillA cells [] = some cells := id rfl
def fillN (cells : List AV) (off size : Nat) (r : List (Nat × Nat × AV)) : Option (List AV) → Option (List AV)
  | some l => if l.length = size ∧ off + l.length ≤ cells.length then fillA (splice cells off l) r else none
  | none => none
theorem fill_cons {cells : List AV} {off size : Nat} {x : AV} {r : List (Nat × Nat × AV)} : fillA cells ((off, size, x) :: r) = fillN cells off size r x.cells := by
  simp only [fillA, fillN]; cases x.cells <;> rfl
theorem fillN_s {cells l : List AV} {off size : Nat} {r : List (Nat × Nat × AV)} (h : l.length = size) (h' : off + l.length ≤ cells.length) : fillN cells off size r (some l) = fillA (splice cells off l) r := by
  simp only [fillN, if_pos (And.intro h h')]
theorem rep1 {z : AV} : repA [z] 1 = [z] := by rw [repA_one]; rfl
theorem rep2 {z : AV} : repA [z] 2 = [z, z] := by rw [repA_one]; rfl
theorem rep3 {z : AV} : repA [z] 3 = [z, z, z] := by rw [repA_one]; rfl
theorem rep4 {z : AV} : repA [z] 4 = [z, z, z, z] := by rw [repA_one]; rfl
def newU (H : AHeap) (ty n : Nat) (K : AV → AHeap → Prop) : Prop := ∀ b, H b = none → K (.own b n 0 n true) (H.upd b (some (.row ty 1 (U (List.replicate n 0)))))
theorem newU_i {ty n : Nat} (h : ∀ b, H b = none → K2 (.own b n 0 n true) (H.upd b (some (.row ty 1 (U (List.replicate n 0)))))) : newU H ty n K2 := h
theorem alloc_i {ty es : Nat} {cells : List AV} (h : ∀ b, H b = none → K2 (.ptr b cells.length 0) (H.upd b (some (.row ty es cells)))) : allocW H ty es cells K2 := h
theorem mks_U {ty n : Nat} (h : n ≤ 70368744177664) : mksW H ty 1 4 [.int .u32 ((0 : Nat) : Int)] (.int .i64 (n : Int)) (.int .i64 (n : Int)) K2 = newU H ty n K2 := by
  have h1 : (4 : Int) * n ≤ 281474976710656 := by omega
  have h2 : (n : Int) < 9223372036854775808 := by omega
  simp [mksW, newU, h1, h2, repA_one, U_rep]
theorem upd_otherA {b i : Nat} {x : Option ABlk} (h : Ap i b) : (H.upd b x) i = H i := upd_other H x h
theorem upd_over {b b' : Nat} {x y z : Option ABlk} (h : Ap b' b) : ((H.upd b x).upd b' y).upd b z = (H.upd b z).upd b' y := by
  rw [upd_comm _ _ _ h, upd_upd]
theorem upd_over2 {b b' b'' : Nat} {x y y' z : Option ABlk} (h : Ap b' b) (h' : Ap b'' b) : (((H.upd b x).upd b' y).upd b'' y').upd b z = ((H.upd b z).upd b' y).upd b'' y' := by
  rw [upd_comm _ _ _ h', upd_over h]
theorem upd_over3 {b b' b'' b3 : Nat} {x y y' y3 z : Option ABlk} (h : Ap b' b) (h' : Ap b'' b) (h3 : Ap b3 b) : ((((H.upd b x).upd b' y).upd b'' y').upd b3 y3).upd b z = (((H.upd b z).upd b' y).upd b'' y').upd b3 y3 := by
  rw [upd_comm _ _ _ h3, upd_over2 h h']
theorem upd_over4 {b b' b'' b3 b4 : Nat} {x y y' y3 y4 z : Option ABlk} (h : Ap b' b) (h' : Ap b'' b) (h3 : Ap b3 b) (h4 : Ap b4 b) : (((((H.upd b x).upd b' y).upd b'' y').upd b3 y3).upd b4 y4).upd b z = ((((H.upd b z).upd b' y).upd b'' y').upd b3 y3).upd b4 y4 := by
  rw [upd_comm _ _ _ h4, upd_over3 h h' h3]
theorem upd_over5 {b b' b'' b3 b4 b5 : Nat} {x y y' y3 y4 y5 z : Option ABlk} (h : Ap b' b) (h' : Ap b'' b) (h3 : Ap b3 b) (h4 : Ap b4 b) (h5 : Ap b5 b) : ((((((H.upd b x).upd b' y).upd b'' y').upd b3 y3).upd b4 y4).upd b5 y5).upd b z = (((((H.upd b z).upd b' y).upd b'' y').upd b3 y3).upd b4 y4).upd b5 y5 := by
  rw [upd_comm _ _ _ h5, upd_over4 h h' h3 h4]
theorem upd_none {b b' : Nat} {x : ABlk} : (H.upd b (some x)) b' = none ↔ Ap b' b ∧ H b' = none := by
  unfold AHeap.upd Ap
  by_cases e : b' = b
  · simp [e]
  · simp [e]
end
end Go.Proofs.YtipbcjnniamcgaaDoor.Fw

/- The framework, part X: drawn regions as equations; copying; trimming. -/
namespace Go.Proofs.YtipbcjnniamcgaaDoor.Fw
set_option linter.unusedSimpArgs false
set_option linter.unusedVariables false
open Go Go.Proofs.YtipbcjnniamcgaaDoor.Ma

/-- One condition, one value. -/
def Det (F : (AV → Prop) → Prop) : Prop := ∃ (C : Prop) (v : AV), ∀ K, F K ↔ (C ∧ K v)
theorem Det.no {F : (AV → Prop) → Prop} (h : ∀ K, ¬ F K) : Det F := ⟨False, .bot, fun K => ⟨fun x => (h K x).elim, fun x => x.1.elim⟩⟩
theorem Det.yes {F : (AV → Prop) → Prop} {v : AV} (h : ∀ K, F K ↔ K v) : Det F := ⟨True, v, fun K => by rw [h K, true_and]⟩
theorem Det.iff {F : (AV → Prop) → Prop} {C : Prop} {v : AV} (h : ∀ K, F K ↔ (C ∧ K v)) : Det F := ⟨C, v, h⟩

theorem det_binInt (op : BinOp) (k : IntKind) (a b : Int) : Det (binInt op k a b) := by
  cases op <;> first | exact .yes fun K => Iff.rfl | exact .iff fun K => Iff.rfl | exact .no fun K h => h
theorem det_binStr (op : BinOp) (a b : ByteArray) : Det (binStr op a b) := by
  cases op <;> first | exact .yes fun K => Iff.rfl | exact .iff fun K => Iff.rfl | exact .no fun K h => h
theorem det_and {F : (AV → Prop) → Prop} {C : Prop} (h : Det F) : Det (fun K => C ∧ F K) := by
  obtain ⟨C', v, h⟩ := h
  exact ⟨C ∧ C', v, fun K => by show (C ∧ F K) ↔ _; rw [h K, and_assoc]⟩
theorem det_binW (op : BinOp) (x y : AV) : Det (binW op x y) := by
  cases x <;> cases y <;> first
    | exact .no fun K h => h
    | exact det_binStr op _ _
    | (cases op <;> first | exact .iff fun K => Iff.rfl | exact det_and (det_binInt _ _ _ _))
theorem det_binBW (op : BinOp) (x y : AV) : Det (binBW op x y) := by
  cases x <;> cases y <;> first
    | exact .no fun K h => h
    | (cases op <;> first | exact .yes fun K => Iff.rfl | exact .no fun K h => h)
theorem det_unW (op : UnOp) (x : AV) : Det (unW op x) := by
  cases op <;> cases x <;> first | exact .yes fun K => Iff.rfl | exact .no fun K h => h
theorem det_convW (k : IntKind) (x : AV) : Det (convW k x) := by
  cases x <;> first | exact .yes fun K => Iff.rfl | exact .no fun K h => h
theorem det_extW (x : AV) (i : Nat) : Det (extW x i) := by
  cases x with
  | tup l => unfold extW; cases e : l[i]? with
    | none => exact .no fun K h => by simp [e] at h
    | some y => exact .yes (v := y) fun K => by simp [e]
  | _ => exact .no fun K h => h
theorem det_fldW (off : Nat) (n : Option Nat) (x : AV) : Det (fldW off n x) := by
  cases x with
  | agg l => cases n with
    | some n => exact .iff fun K => Iff.rfl
    | none => unfold fldW; cases e : l[off]? with
      | none => exact .no fun K h => by simp [e] at h
      | some y => exact .yes (v := y) fun K => by simp [e]
  | _ => exact .no fun K h => h
theorem det_buildW (z : List AV) (ps : List (Nat × Nat × AV)) : Det (buildW z ps) := by
  unfold buildW; cases e : fillA z ps with
  | none => exact .no fun K h => by simp at h
  | some l => exact .yes (v := .agg l) fun K => by simp
theorem det_bslW (z : List AV) (n es : Nat) (ps : List (Nat × Nat × AV)) : Det (bslW z n es ps) := by
  unfold bslW; cases e : fillA (repA z (n * es)) ps with
  | none => exact .no fun K h => by simp at h
  | some l => exact .yes (v := .seq n l true) fun K => by simp
theorem det_one (l : List AV) : Det (fun K => match l with | [y] => K y | _ => False) := by
  match l with
  | [] => exact .no fun K h => h
  | [y] => exact .yes fun K => Iff.rfl
  | _ :: _ :: _ => exact .no fun K h => h
theorem det_loadW (H : AHeap) (n : Option Nat) (x : AV) : Det (loadW H n x) := by
  cases x with
  | ptr b L off =>
    rw [show loadW H n (.ptr b L off) = fun K => ldP n L off K (H b) from funext fun K => loadW_ptr]
    cases H b with
    | none => exact .no fun K h => h
    | some y => cases y with
      | raw o => exact .no fun K h => h
      | loop => exact .no fun K h => h
      | row ty es cells => cases n with
        | some n => exact det_and (det_and (.yes fun K => Iff.rfl))
        | none => exact det_and (det_and (det_one _))
      | glob g cells => cases n with
        | some n => exact det_and (det_and (.yes fun K => Iff.rfl))
        | none => exact det_and (det_and (det_one _))
  | cptr cells => cases n with
    | some n => exact .iff fun K => Iff.rfl
    | none => exact det_and (det_one _)
  | _ => cases n <;> exact .no fun K h => h
theorem det_fldAW (off : Nat) (x : AV) : Det (fldAW off x) := by
  cases x <;> first | exact .yes fun K => Iff.rfl | exact .no fun K h => h
theorem det_idxAW (es : Nat) (x i : AV) : Det (idxAW es x i) := by
  cases x <;> cases i <;> first | exact .no fun K h => h | exact .iff fun K => Iff.rfl | exact det_and (.iff fun K => Iff.rfl)
theorem det_idxSW (x i : AV) : Det (idxSW x i) := by
  cases x <;> cases i <;> first | exact .no fun K h => h | exact .iff fun K => Iff.rfl
theorem det_slcW (es : Nat) (x : AV) (lo hi mx : Option AV) : Det (slcW es x lo hi mx) := by
  cases x with
  | seq n cells t =>
    unfold slcW
    split
    · rename_i e; cases e
      split
      · exact det_and (.iff fun K => Iff.rfl)
      · exact det_and (det_and (.iff fun K => Iff.rfl))
      · exact .no fun K h => h
    · rename_i e; cases e
    · rename_i e; cases e
    · rename_i h _ _; exact (h _ _ _ rfl).elim
  | own b L off n t =>
    unfold slcW
    split
    · rename_i e; cases e
    · rename_i e; cases e
      split
      · exact .iff fun K => Iff.rfl
      · exact det_and (.iff fun K => Iff.rfl)
      · exact .no fun K h => h
    · rename_i e; cases e
    · rename_i h _; exact (h _ _ _ _ _ rfl).elim
  | ext n cells =>
    unfold slcW
    split
    · rename_i e; cases e
    · rename_i e; cases e
    · rename_i e; cases e
      split
      · exact det_and (.iff fun K => Iff.rfl)
      · exact .no fun K h => h
    · rename_i h; exact (h _ _ rfl).elim
  | _ => exact .no fun K h => h
theorem det_slcSW (x : AV) (lo hi : Option AV) : Det (slcSW x lo hi) := by
  cases x with
  | str s =>
    unfold slcSW
    dsimp only
    split
    · exact .iff fun K => Iff.rfl
    · exact .no fun K h => h
  | _ => exact .no fun K h => h
theorem det_maxW (m : Bool) (x y : AV) : Det (maxW m x y) := by
  cases x <;> cases y <;> first | exact .no fun K h => h | exact .iff fun K => Iff.rfl
theorem det_pick (E : Nat → AV) (c a b : Opd) : Det (fun K => match c.ev E with | .bool t => (t = true → K (a.ev E)) ∧ (t = false → K (b.ev E)) | _ => False) := by
  cases c.ev E with
  | bool t => cases t with
    | true => exact .yes (v := a.ev E) fun K => by simp
    | false => exact .yes (v := b.ev E) fun K => by simp
  | _ => exact .no fun K h => h

theorem det_rowA {H : AHeap} {b L : Nat} {F : TypeId → Nat → List AV → (AV → Prop) → Prop} (h : ∀ ty es cells, Det (F ty es cells)) : Det (fun K => rowA H b L fun ty es cells => F ty es cells K) := by
  unfold rowA
  cases H b with
  | none => exact .no fun K h => h
  | some y => cases y with
    | row ty es cells => exact det_and (h ty es cells)
    | raw o => exact .no fun K h => h
    | loop => exact .no fun K h => h
    | glob g cells => exact .no fun K h => h
theorem det_strK (o : Option (List UInt8)) : Det (fun K => strK K o) := by
  cases o with
  | none => exact .no fun K h => h
  | some l => exact .yes fun K => Iff.rfl
theorem det_peqW (ng : Bool) (H : AHeap) (x y : AV) : Det (peqW ng H x y) := by
  cases x <;> cases y <;> first
    | exact .no fun K h => h
    | exact .yes fun K => Iff.rfl
    | exact .iff fun K => Iff.rfl
    | exact det_and (det_and (det_and (det_and (.yes fun K => Iff.rfl))))
theorem det_b2sW (H : AHeap) (x : AV) : Det (b2sW H x) := by
  cases x <;> first
    | exact .no fun K h => h
    | exact det_and (det_strK _)
    | exact det_rowA fun _ _ _ => det_and (det_and (det_strK _))
theorem det_idxPW (n es : Nat) (H : AHeap) (x i : AV) : Det (idxPW n es H x i) := by
  cases i <;> first | exact .no fun K h => h | exact det_and (det_and (det_and (det_fldAW _ _)))
theorem det_slcPW (n es : Nat) (H : AHeap) (x : AV) : Det (slcPW n es H x) := by
  cases x <;> first | exact .no fun K h => h | exact det_rowA fun _ _ _ => det_and (det_and (.iff fun K => Iff.rfl))
theorem det_toUW (H : AHeap) (x : AV) : Det (toUW H x) := by
  cases x <;> first | exact .no fun K h => h | exact .yes fun K => Iff.rfl | exact det_rowA fun _ _ _ => .iff fun K => Iff.rfl
theorem det_fromUW (u : TypeId) (cs : Nat) (H : AHeap) (x : AV) : Det (fromUW u cs H x) := by
  cases x <;> first | exact .no fun K h => h | exact .yes fun K => Iff.rfl | exact det_rowA fun _ _ _ => det_and (det_and (.iff fun K => Iff.rfl))
theorem det_usdW (H : AHeap) (x : AV) : Det (usdW H x) := by
  cases x <;> first | exact .no fun K h => h | exact .iff fun K => Iff.rfl | exact det_rowA fun _ _ _ => .iff fun K => Iff.rfl
theorem det_gixW (g n es : Nat) (H : AHeap) (i : AV) : Det (gixW g n es H i) := by
  unfold gixW
  cases i <;> first | exact .no fun K h => h | skip
  cases H g with
  | none => exact .no fun K h => h
  | some y => cases y with
    | row ty es cells => exact .no fun K h => h
    | raw o => exact .no fun K h => h
    | loop => exact .no fun K h => h
    | glob g cells => exact det_and (det_and (.iff fun K => Iff.rfl))
theorem det_aeqW (ng : Bool) (x y : AV) : Det (aeqW ng x y) := by
  unfold aeqW
  split
  · exact det_and (.iff fun K => Iff.rfl)
  · exact .no fun K h => h
theorem det_primW (p : Prim) (l : List AV) (H : AHeap) : Det (primW p l H) := by
  have no : ∀ {F : (AV → Prop) → Prop}, (∀ K, F K = False) → Det F := fun h => .no fun K k => by rw [h K] at k; exact k
  match l with
  | [] => cases p <;> exact no fun K => rfl
  | [x] => cases p with
    | nck => exact .iff fun K => Iff.rfl
    | peq ng => exact no fun K => rfl
    | b2s => exact det_b2sW H x
    | idxP n es => exact no fun K => rfl
    | slcP n es => exact det_slcPW n es H x
    | toU => exact det_toUW H x
    | fromU u cs => exact det_fromUW u cs H x
    | usd => exact det_usdW H x
    | gix g n es => exact det_gixW g n es H x
    | aeq ng => exact no fun K => rfl
  | [x, y] => cases p with
    | peq ng => exact det_peqW ng H x y
    | aeq ng => exact det_aeqW ng x y
    | idxP n es => exact det_idxPW n es H x y
    | _ => exact no fun K => rfl
  | _ :: _ :: _ :: _ => cases p <;> exact no fun K => rfl

theorem pure_det (o : AOp) (ho : (∀ s x, o ≠ .len s x) ∧ ∀ s x, o ≠ .nilS s x) (E : Nat → AV) (H : AHeap) : Det (pureW o E H) := by
  cases o with
  | mov x => exact .yes fun K => Iff.rfl
  | pick c a b => exact det_pick E c a b
  | bin op x y => exact det_binW _ _ _
  | binB op x y => exact det_binBW _ _ _
  | un op x => exact det_unW _ _
  | conv k x => exact det_convW _ _
  | nilS g x => exact (ho.2 _ _ rfl).elim
  | ext x i => exact det_extW _ _
  | fld off n x => exact det_fldW _ _ _
  | build z ps => exact det_buildW _ _
  | load n x => exact det_loadW _ _ _
  | fldA off x => exact det_and (det_fldAW _ _)
  | idxA es x i => exact det_and (det_idxAW _ _ _)
  | idxS x i => exact det_idxSW _ _
  | len s x => exact (ho.1 _ _ rfl).elim
  | slc es x lo hi mx => exact det_and (det_slcW _ _ _ _ _)
  | slcS x lo hi => exact det_slcSW _ _ _
  | mkF f a b => exact .yes fun K => Iff.rfl
  | gr m x y => exact det_maxW _ _ _
  | bsl z n es ps => exact det_bslW _ _ _ _
  | prim p xs => exact det_primW _ _ _
  | _ => exact .no fun K h => h

/-! ### drawn regions -/
def dp (K : AV → List Nat → Option (Nat × ABlk) → Prop) (rd : List Nat) (v : AV) : Prop := K v rd none
def dK (P : Program) (un : Nat → Nat → Bool) (r : List AOper) (i : Nat) (d : Option Nat) (E : Env) (H : AHeap) (R : List (Nat × List Nat)) (W : List (Nat × Nat)) (K : Env → AHeap → Prop) (rv : AV) (rd : List Nat) (w : Option (Nat × ABlk)) : Prop :=
  clash un i R W rd (w.map Prod.fst) ∧ drawA P un r (i + 1) (putE E d rv) (applyW H w) (addR i rd R) (addW i w W) K
def drawK (P : Program) (b : List AOper) (kp : List Nat) (q : St → Prop) (D : List Nat) (E : Env) (H : AHeap) : Prop := seqOps P b ⟨D, E, H⟩ (regK kp q)
def dcall (P : Program) (f : AV) (args : List AV) (H : AHeap) (K : AV → List Nat → Option (Nat × ABlk) → Prop) : Prop := ∃ rv rd, (∀ H', (∀ q, q ∈ rd → H' q = H q) → callW P f args H' fun v H'' => v = rv ∧ H'' = H') ∧ K rv rd none
section
variable {P : Program} {Q : Exit → St → Prop} {E : Nat → AV} {H : AHeap} {K : AV → List Nat → Option (Nat × ABlk) → Prop}
theorem W_draw {a b : List AOper} {us kp : List Nat} {D : List Nat} {E : Env} : W P (.draw a b us kp) Q ⟨D, E, H⟩ = drawA P (unM us) a 0 E H [] [] (drawK P b kp (Q .normal) D) := id rfl
theorem drawK_eq {b : List AOper} {kp : List Nat} {q : St → Prop} {D : List Nat} {E : Env} : drawK P b kp q D E H = seqOps P b ⟨D, E, H⟩ (regK kp q) := id rfl
theorem draw_nil {un : Nat → Nat → Bool} {i : Nat} {E : Env} {R : List (Nat × List Nat)} {W : List (Nat × Nat)} {K : Env → AHeap → Prop} : drawA P un [] i E H R W K = K E H := id rfl
theorem draw_cons {un : Nat → Nat → Bool} {d : Option Nat} {o : AOp} {r : List AOper} {i : Nat} {E : Env} {R : List (Nat × List Nat)} {W : List (Nat × Nat)} {K : Env → AHeap → Prop} :
    drawA P un (⟨d, none, o⟩ :: r) i E H R W K = exD P o E.get H (dK P un r i d E H R W K) := id rfl
theorem dp_eq {rd : List Nat} {v : AV} : dp K rd v = K v rd none := id rfl
theorem d_of_pure {o : AOp} (ho : (∀ s x, o ≠ .len s x) ∧ ∀ s x, o ≠ .nilS s x) (h : exD P o E H K = ∃ rv, pureW o E H (fun r => r = rv) ∧ K rv (rdOf E o) none) : exD P o E H K ↔ pureW o E H (dp K (rdOf E o)) := by
  obtain ⟨C, v, hd⟩ := pure_det o ho E H
  rw [h, hd]
  constructor
  · rintro ⟨rv, h1, h2⟩
    obtain ⟨hc, e⟩ := (hd _).1 h1
    subst e; exact ⟨hc, h2⟩
  · rintro ⟨hc, hk⟩
    exact ⟨v, (hd _).2 ⟨hc, rfl⟩, hk⟩
theorem d_mov {x : Opd} : exD P (.mov x) E H K ↔ K (x.ev E) (rdOf E (.mov x)) none := d_of_pure (by simp) rfl
theorem d_pick {c a b : Opd} : exD P (.pick c a b) E H K ↔ pureW (.pick c a b) E H (dp K (rdOf E (.pick c a b))) := d_of_pure (by simp) rfl
theorem d_bin {op : BinOp} {x y : Opd} : exD P (.bin op x y) E H K ↔ binW op (x.ev E) (y.ev E) (dp K (rdOf E (.bin op x y))) := d_of_pure (by simp) rfl
theorem d_binB {op : BinOp} {x y : Opd} : exD P (.binB op x y) E H K ↔ binBW op (x.ev E) (y.ev E) (dp K (rdOf E (.binB op x y))) := d_of_pure (by simp) rfl
theorem d_un {op : UnOp} {x : Opd} : exD P (.un op x) E H K ↔ unW op (x.ev E) (dp K (rdOf E (.un op x))) := d_of_pure (by simp) rfl
theorem d_conv {k : IntKind} {x : Opd} : exD P (.conv k x) E H K ↔ convW k (x.ev E) (dp K (rdOf E (.conv k x))) := d_of_pure (by simp) rfl
theorem d_ext {x : Opd} {i : Nat} : exD P (.ext x i) E H K ↔ extW (x.ev E) i (dp K (rdOf E (.ext x i))) := d_of_pure (by simp) rfl
theorem d_fld {off : Nat} {n : Option Nat} {x : Opd} : exD P (.fld off n x) E H K ↔ fldW off n (x.ev E) (dp K (rdOf E (.fld off n x))) := d_of_pure (by simp) rfl
theorem d_build {z : List AV} {ps : List (Nat × Nat × Opd)} : exD P (.build z ps) E H K ↔ buildW z (evP E ps) (dp K (rdOf E (.build z ps))) := d_of_pure (by simp) rfl
theorem d_load {n : Option Nat} {x : Opd} : exD P (.load n x) E H K ↔ loadW H n (x.ev E) (dp K (rdOf E (.load n x))) := d_of_pure (by simp) rfl
theorem d_fldA {off : Nat} {x : Opd} : exD P (.fldA off x) E H K ↔ live H (x.ev E) ∧ fldAW off (x.ev E) (dp K (rdOf E (.fldA off x))) := d_of_pure (by simp) rfl
theorem d_idxA {es : Nat} {x i : Opd} : exD P (.idxA es x i) E H K ↔ liveS H (x.ev E) ∧ idxAW es (x.ev E) (i.ev E) (dp K (rdOf E (.idxA es x i))) := d_of_pure (by simp) rfl
theorem d_idxS {x i : Opd} : exD P (.idxS x i) E H K ↔ idxSW (x.ev E) (i.ev E) (dp K (rdOf E (.idxS x i))) := d_of_pure (by simp) rfl
theorem d_slc {es : Nat} {x : Opd} {lo hi mx : Option Opd} : exD P (.slc es x lo hi mx) E H K ↔ liveE es H (x.ev E) ∧ slcW es (x.ev E) (evO E lo) (evO E hi) (evO E mx) (dp K (rdOf E (.slc es x lo hi mx))) := d_of_pure (by simp) rfl
theorem d_slcS {x : Opd} {lo hi : Option Opd} : exD P (.slcS x lo hi) E H K ↔ slcSW (x.ev E) (evO E lo) (evO E hi) (dp K (rdOf E (.slcS x lo hi))) := d_of_pure (by simp) rfl
theorem d_gr {m : Bool} {x y : Opd} : exD P (.gr m x y) E H K ↔ maxW m (x.ev E) (y.ev E) (dp K (rdOf E (.gr m x y))) := d_of_pure (by simp) rfl
theorem d_bsl {z : List AV} {n es : Nat} {ps : List (Nat × Nat × Opd)} : exD P (.bsl z n es ps) E H K ↔ bslW z n es (evP E ps) (dp K (rdOf E (.bsl z n es ps))) := d_of_pure (by simp) rfl
theorem d_mkF {f : Go.Fn} {a b : List Opd} : exD P (.mkF f a b) E H K ↔ K (.fn f (evs E a) (evs E b)) (rdOf E (.mkF f a b)) none := d_of_pure (by simp) rfl
theorem d_call {f : Opd} {as : List Opd} : exD P (.call f as) E H K = dcall P (f.ev E) (evs E as) H K := id rfl
def dlen (K : AV → List Nat → Option (Nat × ABlk) → Prop) (s : Bool) : AV → Prop
  | .seq n _ _ => s = false ∧ K (.int .i64 n) [] none
  | .own _ _ _ n _ => s = false ∧ K (.int .i64 n) [] none
  | .str b => s = true ∧ K (.int .i64 b.size) [] none
  | _ => False
theorem d_len {s : Bool} {x : Opd} : exD P (.len s x) E H K ↔ dlen K s (x.ev E) := by
  unfold exD
  dsimp only
  generalize x.ev E = y
  cases s <;> cases y <;> simp [dlen]
theorem dlen_LS {l : List Nat} {t : Bool} : dlen K false (LS l t) = K (.int .i64 ((l.length : Nat) : Int)) [] none := by simp [dlen, LS]
theorem dlen_own {b L off n : Nat} {t : Bool} : dlen K false (.own b L off n t) = K (.int .i64 ((n : Nat) : Int)) [] none := by simp [dlen]
theorem dlen_str {s : ByteArray} : dlen K true (.str s) = K (.int .i64 ((s.size : Nat) : Int)) [] none := by simp [dlen]
theorem PFn.dcall {f : FuncId} {args : List AV} {r : AV} (h : PFn P f args r) (k : K r [] none) : dcall P (.fn (.func f) [] []) args H K :=
  ⟨r, [], fun _ _ => h.call ⟨rfl, rfl⟩, k⟩
/-- A call that reads one block of memory, as it stands. -/
theorem dcall_at {f : FuncId} {args : List AV} {r : AV} (q : Nat) (h : ∀ (H' : AHeap) (Q : AV → AHeap → Prop), H' q = H q → Q r H' → Run P f args H' Q) (k : K r [q] none) : dcall P (.fn (.func f) [] []) args H K :=
  ⟨r, [q], fun H' e => by simpa [callW] using h H' _ (e q (by simp)) ⟨rfl, rfl⟩, k⟩
end

/-- Counting down: one below. -/
def dn : Nat → Int
  | 0 => -1
  | k + 1 => (k : Int)
theorem dn_zero : dn 0 = -1 := id rfl
theorem dn_succ {k : Nat} : dn (k + 1) = (k : Int) := id rfl
theorem bin_dec {K : AV → Prop} {k : Nat} (h : k < 9223372036854775808) : binW .sub (.int .i64 (k : Int)) (.int .i64 ((1 : Nat) : Int)) K ↔ K (.int .i64 (dn k)) := by
  have e : IntKind.i64.wrap ((k : Int) - ((1 : Nat) : Int)) = dn k := by
    rw [wrap_i64 (by omega) (by omega)]
    cases k with
    | zero => rfl
    | succ k => simp only [dn]; omega
  simp only [binW, binInt, e, true_and]
theorem bin_geq_neg {K : AV → Prop} : binW .geq (.int .i64 (-1)) (.int .i64 ((0 : Nat) : Int)) K ↔ K (.bool false) := by
  simp [binW, binInt]

/-! ### copying words -/
theorem cpy_U {H : AHeap} {b ty n : Nat} {t t' : Bool} {l o : List Nat} {K : AV → AHeap → Prop} (hH : H b = some (.row ty 1 (U o))) (ho : o.length = n) (h : l.length = n) (k : K (.int .i64 ((n : Nat) : Int)) (H.upd b (some (.row ty 1 (U l))))) :
    cpyW H 1 (.own b n 0 n t) (LS l t') K := by
  subst ho
  refine ⟨by simp, U_cell l, ?_⟩
  dsimp only
  rw [hH]
  refine ⟨by simp, by omega, ?_⟩
  have e : splice (U o) 0 ((U l).take (Nat.min l.length o.length * 1)) = U l := by
    have e1 : Nat.min l.length o.length * 1 = l.length := by rw [h]; simp
    rw [e1, List.take_of_length_le (by simp)]
    unfold splice
    rw [List.drop_of_length_le (by simp [h])]
    simp
  rw [e, h]
  simpa using k


/-! ### code cut -/
def fstC : ACode → ACode
  | .seq a _ => a
  | x => x
def sndC : ACode → ACode
  | .seq _ b => b
  | x => x
/-- Code to be held back. -/
def hold (c : ACode) : ACode := c

/-! ### rows that grow -/
def grow (H0 : AHeap) (ty : Nat) (l : List Nat) (x : AV) (H : AHeap) : Prop :=
  (l = [] ∧ x = .seq 0 [] true ∧ H = H0) ∨ (l ≠ [] ∧ ∃ b, H0 b = none ∧ x = .own b l.length 0 l.length false ∧ H = H0.upd b (some (.row ty 1 (U l))))
theorem grow_nil {H0 : AHeap} {ty : Nat} : grow H0 ty [] (.seq 0 [] true) H0 := .inl ⟨rfl, rfl, rfl⟩
theorem grow_old {H0 H : AHeap} {ty : Nat} {l : List Nat} {x : AV} (h : grow H0 ty l x H) {p : Nat} {y : ABlk} (hp : H0 p = some y) : H p = some y := by
  rcases h with ⟨_, _, rfl⟩ | ⟨_, b, hb, _, rfl⟩
  · exact hp
  · rw [upd_other _ _ (by rintro rfl; rw [hb] at hp; cases hp)]; exact hp
theorem app_growW {H0 H : AHeap} {ty n : Nat} {l m : List Nat} {x : AV} {t : Bool} {K : AV → AHeap → Prop} (h : grow H0 ty l x H) (hn : n = m.length) (hm : m ≠ []) (hb : l.length + m.length ≤ 17592186044416)
    (k : ∀ x' H', grow H0 ty (l ++ m) x' H' → K x' H') : appW H ty 1 4 x (.seq n (U m) t) K := by
  subst hn
  have hpos : 0 < m.length := List.length_pos_iff.2 hm
  refine ⟨by simp, U_cell m, ?_⟩
  rcases h with ⟨rfl, rfl, rfl⟩ | ⟨_, b, hb', rfl, rfl⟩
  · simp only [List.length_nil] at hb
    refine ⟨rfl, rfl, by omega, by omega, fun e => absurd e (by omega), fun _ b hb' => ?_⟩
    refine k _ _ (.inr ⟨by simpa using hm, b, hb', ?_, ?_⟩)
    · simp
    · simp
  · dsimp only
    rw [upd_same]
    refine ⟨by simp, rfl, by simp, rfl, rfl, by omega, by omega, ?_⟩
    refine k _ _ (.inr ⟨by simp [hm], b, hb', ?_, ?_⟩)
    · simp
    · rw [upd_upd, U_app]
theorem app_grow {H0 H : AHeap} {ty n : Nat} {l m : List Nat} {x : AV} {t : Bool} {K : AV → AHeap → Prop} (h : grow H0 ty l x H) (hn : n = m.length) (hm : m ≠ []) (hb : l.length + m.length ≤ 17592186044416)
    (k : ∀ x' H', grow H0 ty (l ++ m) x' H' → K x' H') : appV H ty 1 4 x (.seq n (U m) t) K := .inl (app_growW h hn hm hb k)
/-- Laid behind, and given up at once: its room is known. -/
theorem app_ext {H0 H : AHeap} {ty n : Nat} {l m : List Nat} {x : AV} {t : Bool} {K : AV → AHeap → Prop} (h : grow H0 ty l x H) (hn : n = m.length) (hm : m ≠ []) (hb : l.length + m.length ≤ 17592186044416)
    (k : K (.ext (l ++ m).length (U (l ++ m))) H0) : appV H ty 1 4 x (.seq n (U m) t) K := .inr <| app_growW h hn hm hb fun x' H' hg => by
  rcases hg with ⟨e, _, _⟩ | ⟨hne, b, hb', rfl, rfl⟩
  · exact absurd (List.append_eq_nil_iff.1 e).2 hm
  · unfold frzX
    dsimp only
    rw [upd_same]
    refine ⟨rfl, rfl, List.length_pos_iff.2 hne, by simp, rfl, ?_⟩
    rw [upd_upd, upd_back _ hb']
    exact k
theorem len_ext {n : Nat} {cells : List AV} {K : AV → Prop} : lenW false (.ext n cells) K = K (.int .i64 ((n : Nat) : Int)) := id rfl
theorem liveE_ext {es n : Nat} {cells : List AV} {H : AHeap} : liveE es H (.ext n cells) = True := id rfl
theorem slc_ext1 {n h : Nat} {cells : List AV} {k : IntKind} {K : AV → Prop} (hh : h ≤ cells.length) : slcW 1 (.ext n cells) none (some (.int k (h : Int))) none K = K (.ext h cells) := by
  simp [slcW, optI, hh]
theorem slc_ext2 {n l : Nat} {cells : List AV} {k : IntKind} {K : AV → Prop} (hl : l ≤ n) (hn : n ≤ cells.length) : slcW 1 (.ext n cells) (some (.int k (l : Int))) none none K = K (.ext (n - l) (cells.drop l)) := by
  have e : ((n : Int) - (l : Int)).toNat = n - l := by omega
  simp [slcW, optI, hl, hn, e]
theorem Wk.X {l m : List Nat} : Wk (.ext l.length (U (l ++ m))) (LS l false) := by
  have e : (U (l ++ m)).take l.length = U l := by rw [← U_take]; simp
  have h := Wk.ext (n := l.length) (cells := U (l ++ m))
  rw [e] at h
  exact h
theorem grow_fin {H0 H : AHeap} {ty : Nat} {l : List Nat} {x : AV} {Q : AV → AHeap → Prop} (h : grow H0 ty l x H) (hq : Q (LS l false) H0) : SetR Q x H := by
  rcases h with ⟨rfl, rfl, rfl⟩ | ⟨_, b, hb, rfl, rfl⟩
  · exact SetR.loose (SetR.now hq)
  · refine SetR.frz b (upd_same _ _ _) ?_
    rw [upd_upd, upd_back _ hb]
    have e : frz b 1 (U l) (.own b l.length 0 l.length false) = LS l false := by simp [frz, frz2, frz1, LS, List.take_of_length_le]
    rw [e]; exact SetR.now hq

/-- A grown row, read from now on. -/
theorem Settle.grown {K : St → Prop} {D : List Nat} {E : Env} {H0 H : AHeap} {ty : Nat} {l : List Nat} {x : AV} (t : Nat) (he : E.get t = x) (h : grow H0 ty l x H) (k : Settle K ⟨D, E.set t (LS l false), H0⟩) : Settle K ⟨D, E, H⟩ := by
  rcases h with ⟨rfl, rfl, rfl⟩ | ⟨_, b, hb, rfl, rfl⟩
  · refine Settle.loose t ?_
    rw [he]; exact k
  · refine Settle.freeze t he (upd_same _ _ _) (by simp) (.inr (by simp)) ?_
    rw [upd_upd, upd_back _ hb]
    have e : AV.seq l.length (((U l).drop 0).take (l.length * 1)) false = LS l false := by simp [LS, List.take_of_length_le]
    rw [e]; exact k

/-! ### drawn regions in which nothing is written -/
def noW1 : AOp → Bool
  | .alloc _ _ _ | .box _ _ _ | .store _ _ _ | .mks _ _ _ _ _ _ | .app _ _ _ _ _ | .cpy _ _ _ | .ust _ _ _ | .rng _ | .nxt _ => false
  | _ => true
def noW : List AOper → Bool
  | [] => true
  | x :: r => noW1 x.op && noW r
theorem exD_congr {P : Program} {o : AOp} {E : Nat → AV} {H : AHeap} {K K' : AV → List Nat → Option (Nat × ABlk) → Prop} (h : noW1 o = true) (hk : ∀ rv rd, K rv rd none ↔ K' rv rd none) : exD P o E H K ↔ exD P o E H K' := by
  cases o <;> first
    | (cases h; done)
    | (simp only [exD, hk]; done)
    | (unfold exD; dsimp only; split <;> first | exact Iff.rfl | exact hk _ _)
def drawP (P : Program) : List AOper → Env → AHeap → (Env → AHeap → Prop) → Prop
  | [], E, H, K => K E H
  | ⟨d, none, o⟩ :: r, E, H, K => exD P o E.get H fun rv _ _ => drawP P r (putE E d rv) H K
  | ⟨d, some (t, b), o⟩ :: r, E, H, K => match E.get t with
    | .bool b' => (b' = b → exD P o E.get H fun rv _ _ => drawP P r (putE E d rv) H K) ∧ (b' ≠ b → drawP P r (putE E d und) H K)
    | .tup [] => drawP P r (putE E d und) H K
    | _ => False
theorem drawA_P {P : Program} {un : Nat → Nat → Bool} {H : AHeap} {K : Env → AHeap → Prop} : ∀ {l : List AOper} (_ : noW l = true) (i : Nat) (E : Env) (R : List (Nat × List Nat)), drawA P un l i E H R [] K ↔ drawP P l E H K
  | [], _, _, _, _ => Iff.rfl
  | ⟨d, none, o⟩ :: r, h, i, E, R => by
    simp only [noW, Bool.and_eq_true] at h
    unfold drawA drawP
    refine exD_congr h.1 fun rv rd => ?_
    have := drawA_P (P := P) (un := un) (H := H) (K := K) h.2 (i + 1) (putE E d rv) (addR i rd R)
    simpa [clash, clashW, addW, applyW] using this
  | ⟨d, some (t, b), o⟩ :: r, h, i, E, R => by
    simp only [noW, Bool.and_eq_true] at h
    unfold drawA drawP
    cases E.get t with
    | bool b' =>
      refine and_congr (imp_congr_right fun _ => exD_congr h.1 fun rv rd => ?_) (imp_congr_right fun _ => drawA_P h.2 (i + 1) (putE E d und) R)
      have := drawA_P (P := P) (un := un) (H := H) (K := K) h.2 (i + 1) (putE E d rv) (addR i rd R)
      simpa [clash, clashW, addW, applyW] using this
    | tup l => cases l with
      | nil => exact drawA_P h.2 (i + 1) (putE E d und) R
      | cons x l => exact Iff.rfl
    | _ => exact Iff.rfl
def pK (P : Program) (r : List AOper) (d : Option Nat) (E : Env) (H : AHeap) (K : Env → AHeap → Prop) (rv : AV) (_ : List Nat) (_ : Option (Nat × ABlk)) : Prop := drawP P r (putE E d rv) H K
def drawG (P : Program) (d : Option Nat) (o : AOp) (r : List AOper) (b : Bool) (E : Env) (H : AHeap) (K : Env → AHeap → Prop) : AV → Prop
  | .bool b' => (b' = b → exD P o E.get H (pK P r d E H K)) ∧ (b' ≠ b → drawP P r (putE E d und) H K)
  | .tup [] => drawP P r (putE E d und) H K
  | _ => False
section
variable {P : Program} {Q : Exit → St → Prop} {H : AHeap} {E : Env} {K : Env → AHeap → Prop} {d : Option Nat} {o : AOp} {r : List AOper}
theorem W_drawP {a b : List AOper} {us kp : List Nat} {D : List Nat} (h : noW a = true) : W P (.draw a b us kp) Q ⟨D, E, H⟩ ↔ drawP P a E H (drawK P b kp (Q .normal) D) := drawA_P h 0 E []
theorem pd_nil : drawP P [] E H K = K E H := id rfl
theorem pd_cons : drawP P (⟨d, none, o⟩ :: r) E H K = exD P o E.get H (pK P r d E H K) := id rfl
theorem pd_guard {t : Nat} {b : Bool} : drawP P (⟨d, some (t, b), o⟩ :: r) E H K = drawG P d o r b E H K (E.get t) := by
  unfold drawP
  cases E.get t with
  | tup l => cases l <;> rfl
  | _ => rfl
theorem dG_u {n : Nat} {b : Bool} : drawG P (some n) o r b E H K und = drawP P r (E.set n und) H K := id rfl
theorem pK_some {n : Nat} {rv : AV} {rd : List Nat} {w : Option (Nat × ABlk)} : pK P r (some n) E H K rv rd w = drawP P r (E.set n rv) H K := id rfl
theorem dG_tt : drawG P d o r true E H K (.bool true) = exD P o E.get H (pK P r d E H K) := by simp [drawG]
theorem dG_ff : drawG P d o r false E H K (.bool false) = exD P o E.get H (pK P r d E H K) := by simp [drawG]
theorem dG_tf {n : Nat} : drawG P (some n) o r true E H K (.bool false) = drawP P r (E.set n und) H K := by simp [drawG, putE]
theorem dG_ft {n : Nat} : drawG P (some n) o r false E H K (.bool true) = drawP P r (E.set n und) H K := by simp [drawG, putE]
def dpick (K : AV → List Nat → Option (Nat × ABlk) → Prop) (rd : List Nat) (x y : AV) : AV → Prop
  | .bool t => (t = true → K x rd none) ∧ (t = false → K y rd none)
  | _ => False
theorem d_pick' {c a b : Opd} {E : Nat → AV} {K : AV → List Nat → Option (Nat × ABlk) → Prop} : exD P (.pick c a b) E H K ↔ dpick K (rdOf E (.pick c a b)) (a.ev E) (b.ev E) (c.ev E) := by
  rw [d_pick]; unfold pureW dpick dp; dsimp only; cases c.ev E <;> exact Iff.rfl
theorem dpick_t {K : AV → List Nat → Option (Nat × ABlk) → Prop} {rd : List Nat} {x y : AV} : dpick K rd x y (.bool true) = K x rd none := by simp [dpick]
theorem dpick_f {K : AV → List Nat → Option (Nat × ABlk) → Prop} {rd : List Nat} {x y : AV} : dpick K rd x y (.bool false) = K y rd none := by simp [dpick]
end

/-! ### drawn regions in which something is written -/
section
variable {P : Program} {Q : Exit → St → Prop} {H : AHeap} {E : Env} {d : Option Nat} {o : AOp} {r : List AOper} {un : Nat → Nat → Bool}
theorem W_drawG {a b : List AOper} {us kp : List Nat} {D : List Nat} (h : noW a = false) : W P (.draw a b us kp) Q ⟨D, E, H⟩ ↔ drawA P (unM us) a 0 E H [] [] (drawK P b kp (Q .normal) D) := by
  have _ := h
  exact Iff.rfl
theorem dK_n {n i : Nat} {R : List (Nat × List Nat)} {W : List (Nat × Nat)} {K : Env → AHeap → Prop} {rv : AV} {rd : List Nat} :
    dK P un r i (some n) E H R W K rv rd none = (clashW un i rd none W ∧ drawA P un r (i + 1) (E.set n rv) H (addR i rd R) W K) := by
  simp [dK, clash, putE, applyW, addW]
theorem dK_w {n i b : Nat} {x : ABlk} {R : List (Nat × List Nat)} {W : List (Nat × Nat)} {K : Env → AHeap → Prop} {rv : AV} {rd : List Nat} :
    dK P un r i (some n) E H R W K rv rd (some (b, x)) = ((clashW un i rd (some b) W ∧ clashR un i b R) ∧ drawA P un r (i + 1) (E.set n rv) (H.upd b (some x)) (addR i rd R) ((i, b) :: W) K) := by
  simp [dK, clash, putE, applyW, addW]
theorem dK_w0 {i b : Nat} {x : ABlk} {R : List (Nat × List Nat)} {W : List (Nat × Nat)} {K : Env → AHeap → Prop} {rv : AV} {rd : List Nat} :
    dK P un r i none E H R W K rv rd (some (b, x)) = ((clashW un i rd (some b) W ∧ clashR un i b R) ∧ drawA P un r (i + 1) E (H.upd b (some x)) (addR i rd R) ((i, b) :: W) K) := by
  simp [dK, clash, putE, applyW, addW]
theorem cW_nil {i : Nat} {rd : List Nat} {wr : Option Nat} : clashW un i rd wr [] = True := id rfl
theorem cW_0 {i j b' : Nat} {W : List (Nat × Nat)} : clashW un i [] none ((j, b') :: W) = clashW un i [] none W := by simp [clashW]
theorem cW_1 {i j b' p : Nat} {W : List (Nat × Nat)} (h : Ap b' p) : clashW un i [p] none ((j, b') :: W) = clashW un i [p] none W := by have h : b' ≠ p := h; simp [clashW, h]
theorem cW_w {i j b' b : Nat} {W : List (Nat × Nat)} (h : Ap b' b) : clashW un i [] (some b) ((j, b') :: W) = clashW un i [] (some b) W := by
  have h : b' ≠ b := h
  simp only [clashW, List.not_mem_nil, not_false_eq_true, true_and, ne_eq, Option.some.injEq]
  simp [Ne.symm h]
theorem cW_1w {i j b' p b : Nat} {W : List (Nat × Nat)} (h : Ap b' p) (h' : Ap b' b) : clashW un i [p] (some b) ((j, b') :: W) = clashW un i [p] (some b) W := by
  have h : b' ≠ p := h
  have h' : b' ≠ b := h'
  simp only [clashW, List.mem_singleton, ne_eq, Option.some.injEq]
  simp [h, Ne.symm h']
theorem cW_o {us : List Nat} {i j b' : Nat} {rd : List Nat} {wr : Option Nat} {W : List (Nat × Nat)} (h : unM us j i = false) : clashW (unM us) i rd wr ((j, b') :: W) = clashW (unM us) i rd wr W := by simp [clashW, h]
theorem cR_nil {i b : Nat} : clashR un i b [] = True := id rfl
theorem cR_1 {i j b p : Nat} {R : List (Nat × List Nat)} (h : Ap b p) : clashR un i b ((j, [p]) :: R) = clashR un i b R := by have h : b ≠ p := h; simp [clashR, h]
theorem cR_o {us : List Nat} {i j b : Nat} {rd : List Nat} {R : List (Nat × List Nat)} (h : unM us j i = false) : clashR (unM us) i b ((j, rd) :: R) = clashR (unM us) i b R := by simp [clashR, h]
theorem aR_nil {i : Nat} {R : List (Nat × List Nat)} : addR i [] R = R := id rfl
theorem aR_cons {i x : Nat} {l : List Nat} {R : List (Nat × List Nat)} : addR i (x :: l) R = (i, x :: l) :: R := id rfl
end
section
variable {E : Nat → AV}
theorem bo_ptr {b L off : Nat} : blkOf (.ptr b L off) = [b] := id rfl
theorem bo_own {b L off n : Nat} {t : Bool} : blkOf (.own b L off n t) = [b] := id rfl
theorem bo_cptr {l : List AV} : blkOf (.cptr l) = [] := id rfl
theorem bo_LS {l : List Nat} {t : Bool} : blkOf (LS l t) = [] := id rfl
theorem bo_seq {n : Nat} {l : List AV} {t : Bool} : blkOf (.seq n l t) = [] := id rfl
theorem rd_load {n : Option Nat} {x : Opd} : rdOf E (.load n x) = blkOf (x.ev E) := id rfl
theorem rd_fldA {n : Nat} {x : Opd} : rdOf E (.fldA n x) = blkOf (x.ev E) := id rfl
theorem rd_idxA {n : Nat} {x i : Opd} : rdOf E (.idxA n x i) = blkOf (x.ev E) := id rfl
theorem rd_slc {n : Nat} {x : Opd} {a b c : Option Opd} : rdOf E (.slc n x a b c) = blkOf (x.ev E) := id rfl
theorem rd_mov {x : Opd} : rdOf E (.mov x) = [] := id rfl
theorem rd_pick {x y z : Opd} : rdOf E (.pick x y z) = [] := id rfl
theorem rd_bin {op : BinOp} {x y : Opd} : rdOf E (.bin op x y) = [] := id rfl
theorem rd_binB {op : BinOp} {x y : Opd} : rdOf E (.binB op x y) = [] := id rfl
theorem rd_un {op : UnOp} {x : Opd} : rdOf E (.un op x) = [] := id rfl
theorem rd_conv {k : IntKind} {x : Opd} : rdOf E (.conv k x) = [] := id rfl
theorem rd_ext {n : Nat} {x : Opd} : rdOf E (.ext x n) = [] := id rfl
theorem rd_fld {n : Nat} {m : Option Nat} {x : Opd} : rdOf E (.fld n m x) = [] := id rfl
theorem rd_build {z : List AV} {l : List (Nat × Nat × Opd)} : rdOf E (.build z l) = [] := id rfl
theorem rd_bsl {z : List AV} {n m : Nat} {l : List (Nat × Nat × Opd)} : rdOf E (.bsl z n m l) = [] := id rfl
theorem rd_gr {m : Bool} {x y : Opd} : rdOf E (.gr m x y) = [] := id rfl
theorem rd_idxS {x y : Opd} : rdOf E (.idxS x y) = [] := id rfl
theorem rd_slcS {x : Opd} {a b : Option Opd} : rdOf E (.slcS x a b) = [] := id rfl
theorem rd_mkF {f : Go.Fn} {a b : List Opd} : rdOf E (.mkF f a b) = [] := id rfl
end
section
variable {P : Program} {E : Nat → AV} {H : AHeap} {K : AV → List Nat → Option (Nat × ABlk) → Prop}
def dalloc (H : AHeap) (ty es : Nat) (cells : List AV) (K : AV → List Nat → Option (Nat × ABlk) → Prop) : Prop := ∀ b, H b = none → K (.ptr b cells.length 0) [] (some (b, .row ty es cells))
theorem d_alloc {ty es : Nat} {cells : List AV} : exD P (.alloc ty es cells) E H K = dalloc H ty es cells K := id rfl
theorem dalloc_i {ty es : Nat} {cells : List AV} (h : ∀ b, H b = none → K (.ptr b cells.length 0) [] (some (b, .row ty es cells))) : dalloc H ty es cells K := h
def dboxW (H : AHeap) (ty es : Nat) (K : AV → List Nat → Option (Nat × ABlk) → Prop) : Option (List AV) → Prop
  | some l => dalloc H ty es l K
  | none => False
theorem d_box {ty es : Nat} {x : Opd} : exD P (.box ty es x) E H K = dboxW H ty es K (x.ev E).cells := by
  unfold exD dboxW; dsimp only; cases (x.ev E).cells <;> rfl
theorem dboxW_s {ty es : Nat} {l : List AV} : dboxW H ty es K (some l) = dalloc H ty es l K := id rfl
def dstP (n b L off : Nat) (K : AV → List Nat → Option (Nat × ABlk) → Prop) : Option (List AV) → Option ABlk → Prop
  | some l, some (.row ty es cells) => cells.length = L ∧ l.length = n ∧ off + n ≤ L ∧ K .bot [b] (some (b, .row ty es (splice cells off l)))
  | _, _ => False
def dst0 (H : AHeap) (n : Nat) (v : AV) (K : AV → List Nat → Option (Nat × ABlk) → Prop) : AV → Prop
  | .ptr b L off => dstP n b L off K v.cells (H b)
  | _ => False
theorem d_store {n : Nat} {x v : Opd} : exD P (.store n x v) E H K = dst0 H n (v.ev E) K (x.ev E) := by
  unfold exD dst0 dstP
  dsimp only
  generalize x.ev E = y
  cases y with
  | ptr b L off =>
    dsimp only
    generalize H b = z
    generalize (v.ev E).cells = cs
    cases z with
    | none => cases cs <;> rfl
    | some z => cases z <;> cases cs <;> rfl
  | _ => rfl
theorem dst0_p {n b L off : Nat} {v : AV} : dst0 H n v K (.ptr b L off) = dstP n b L off K v.cells (H b) := id rfl
theorem dstP_lit {n b L off ty es : Nat} {x : AV} {cells l : List AV} : dstP n b L off K (some l) (some (.row ty es (x :: cells))) = ((x :: cells).length = L ∧ l.length = n ∧ off + n ≤ L ∧ K .bot [b] (some (b, .row ty es (splice (x :: cells) off l)))) := id rfl
end


/-! ### what few programs do, as equations -/
/-- Bytes as cells. -/
def Bt (l : List UInt8) : List AV := l.map fun b => .int .u8 (b.toNat : Int)
theorem Bt_len {l : List UInt8} : (Bt l).length = l.length := by simp [Bt]
theorem bytesA_eq {s : ByteArray} : bytesA s = Bt s.data.toList := id rfl
theorem bytesOf_Bt : ∀ l : List UInt8, bytesOf (Bt l) = some l
  | [] => rfl
  | x :: l => by
    have h : (0 : Int) ≤ (x.toNat : Int) ∧ (x.toNat : Int) < 256 := by have := x.toNat_lt; omega
    show (if (0 : Int) ≤ (x.toNat : Int) ∧ (x.toNat : Int) < 256 then (bytesOf (Bt l)).map (UInt8.ofNat (x.toNat : Int).toNat :: ·) else none) = _
    rw [if_pos h, bytesOf_Bt l]
    simp
section
variable {P : Program} {E : Nat → AV} {H : AHeap} {K : AV → Prop} {K2 : AV → AHeap → Prop} {KD : AV → List Nat → Option (Nat × ABlk) → Prop}
theorem e_prim {p : Prim} {xs : List Opd} : effW P (.prim p xs) E H K2 = primW p (evs E xs) H (pk K2 H) := id rfl
theorem e_ust {e : TypeId} {x n : Opd} : effW P (.ust e x n) E H K2 = ustW e H (x.ev E) (n.ev E) K2 := id rfl
theorem e_rng {x : Opd} : effW P (.rng x) E H K2 = rngW H (x.ev E) K2 := id rfl
theorem e_nxt {x : Opd} : effW P (.nxt x) E H K2 = nxtW H (x.ev E) K2 := id rfl
theorem d_prim {p : Prim} {xs : List Opd} : exD P (.prim p xs) E H KD ↔ primW p (evs E xs) H (dp KD (rdOf E (.prim p xs))) := d_of_pure (by simp) rfl
theorem rd_p1 {p : Prim} {x : Opd} (h : primRd p = []) : rdOf E (.prim p [x]) = blkOf (x.ev E) := by simp [rdOf, evs, h]
theorem rd_nck {x : Opd} : rdOf E (.prim .nck [x]) = blkOf (x.ev E) := rd_p1 rfl
theorem rd_b2s {x : Opd} : rdOf E (.prim .b2s [x]) = blkOf (x.ev E) := rd_p1 rfl
theorem rd_slcP {n es : Nat} {x : Opd} : rdOf E (.prim (.slcP n es) [x]) = blkOf (x.ev E) := rd_p1 rfl
theorem rd_toU {x : Opd} : rdOf E (.prim .toU [x]) = blkOf (x.ev E) := rd_p1 rfl
theorem rd_fromU {u : TypeId} {cs : Nat} {x : Opd} : rdOf E (.prim (.fromU u cs) [x]) = blkOf (x.ev E) := rd_p1 rfl
theorem rd_usd {x : Opd} : rdOf E (.prim .usd [x]) = blkOf (x.ev E) := rd_p1 rfl
theorem pr_nck {x : AV} : primW .nck [x] H K = (live H x ∧ K x) := id rfl
theorem pr_peq {ng : Bool} {x y : AV} : primW (.peq ng) [x, y] H K = peqW ng H x y K := id rfl
theorem pr_b2s {x : AV} : primW .b2s [x] H K = b2sW H x K := id rfl
theorem pr_idxP {n es : Nat} {x i : AV} : primW (.idxP n es) [x, i] H K = idxPW n es H x i K := id rfl
theorem pr_slcP {n es : Nat} {x : AV} : primW (.slcP n es) [x] H K = slcPW n es H x K := id rfl
theorem pr_toU {x : AV} : primW .toU [x] H K = toUW H x K := id rfl
theorem pr_fromU {u : TypeId} {cs : Nat} {x : AV} : primW (.fromU u cs) [x] H K = fromUW u cs H x K := id rfl
theorem pr_usd {x : AV} : primW .usd [x] H K = usdW H x K := id rfl
theorem pr_gix {g n es : Nat} {x : AV} : primW (.gix g n es) [x] H K = gixW g n es H x K := id rfl
theorem pr_aeq {ng : Bool} {x y : AV} : primW (.aeq ng) [x, y] H K = aeqW ng x y K := id rfl
theorem aeq_ii {ng : Bool} {k k' : IntKind} {a b c d : Int} : aeqW ng (.agg [.int k a, .int k' b]) (.agg [.int k c, .int k' d]) K ↔ K (.bool (ng != (decide (a = c) && decide (b = d)))) := by simp [aeqW]
theorem peq_nn {ng : Bool} : peqW ng H .nilP .nilP K = K (.bool (!ng)) := id rfl
theorem peq_pn {ng : Bool} {b L off : Nat} : peqW ng H (.ptr b L off) .nilP K = (live H (.ptr b L off) ∧ K (.bool ng)) := id rfl
theorem peq_pp {ng : Bool} {b L off : Nat} : peqW ng H (.ptr b L off) (.ptr b L off) K ↔ (live H (.ptr b L off) ∧ K (.bool (!ng))) := by
  simp [peqW]
def rowP (L : Nat) (F : TypeId → Nat → List AV → Prop) : Option ABlk → Prop
  | some (.row ty es cells) => cells.length = L ∧ F ty es cells
  | _ => False
theorem rowA_P {b L : Nat} {F : TypeId → Nat → List AV → Prop} : rowA H b L F = rowP L F (H b) := by
  unfold rowA rowP; cases H b with
  | none => rfl
  | some x => cases x <;> rfl
theorem rowP_k {L ty es : Nat} {cells : List AV} {F : TypeId → Nat → List AV → Prop} (h : cells.length = L) : rowP L F (some (.row ty es cells)) = F ty es cells := by simp [rowP, h]
theorem b2s_own {b L off n : Nat} {t : Bool} : b2sW H (.own b L off n t) K = rowP L (fun _ es cells => es = 1 ∧ off + n ≤ L ∧ strK K (bytesOf ((cells.drop off).take n))) (H b) := rowA_P
theorem b2s_Bt {l : List UInt8} {t : Bool} : b2sW H (.seq l.length (Bt l) t) K = K (.str ⟨l.toArray⟩) := by
  simp [b2sW, Bt_len, bytesOf_Bt, strK]
theorem strK_Bt {l : List UInt8} : strK K (bytesOf (Bt l)) = K (.str ⟨l.toArray⟩) := by rw [bytesOf_Bt]; rfl
theorem idxP_k {n es i : Nat} {k : IntKind} {x : AV} (h : i < n) : idxPW n es H x (.int k (i : Int)) K = (live H x ∧ fldAW (i * es) x K) := by
  simp [idxPW, h]
theorem slcP_ptr {n es b L off : Nat} : slcPW n es H (.ptr b L off) K = rowP L (fun _ es' _ => es' = es ∧ off + n * es ≤ L ∧ n < 2 ^ 63 ∧ K (.own b L off n true)) (H b) := rowA_P
theorem toU_nil : toUW H .nilP K = K .nilP := id rfl
theorem toU_ptr {b L off : Nat} : toUW H (.ptr b L off) K = rowP L (fun _ _ _ => off < L ∧ K (.ptr b L off)) (H b) := rowA_P
theorem fromU_nil {u : TypeId} {cs : Nat} : fromUW u cs H .nilP K = K .nilP := id rfl
theorem fromU_ptr {u : TypeId} {cs b L off : Nat} : fromUW u cs H (.ptr b L off) K = rowP L (fun ty _ _ => ty = u ∧ off = 0 ∧ cs ≤ L ∧ K (.ptr b L off)) (H b) := rowA_P
theorem usd_own {b L off n : Nat} {t : Bool} : usdW H (.own b L off n t) K = rowP L (fun _ _ _ => 0 < n ∧ K (.ptr b L off)) (H b) := rowA_P
def ustQ (e : TypeId) (H : AHeap) (b L off : Nat) (m : Int) (K : AV → AHeap → Prop) (ty es : Nat) (cells : List AV) : Prop := ty = e ∧ off = 0 ∧ 0 < m ∧ m.toNat ≤ L ∧ m < 9223372036854775808 ∧ ustK H b K (bytesOf (cells.take m.toNat))
theorem ust_ptr {e : TypeId} {b L off : Nat} {m : Int} : ustW e H (.ptr b L off) (.int .i64 m) K2 = rowP L (ustQ e H b L off m K2) (H b) := rowA_P
theorem ustQ_Bt {e : TypeId} {b L es : Nat} {l : List UInt8} (h0 : 0 < l.length) (hL : l.length = L) (h : l.length < 9223372036854775808) : ustQ e H b L 0 ((l.length : Nat) : Int) K2 e es (Bt l) = K2 (.str ⟨l.toArray⟩) (H.upd b none) := by
  have h1 : (0 : Int) < (l.length : Int) := by omega
  have h2 : (l.length : Int) < 9223372036854775808 := by omega
  have h3 : (Bt l).take l.length = Bt l := List.take_of_length_le (by rw [Bt_len]; exact Nat.le_refl _)
  have h4 : l.length ≤ L := by omega
  simp only [ustQ, true_and, h1, h2, Int.toNat_natCast, h3, h4, bytesOf_Bt, ustK]
def rngS (H : AHeap) (s : ByteArray) (K : AV → AHeap → Prop) : Prop := ∀ b, H b = none → K (.ptr b 0 0) (H.upd b (some (.raw (.stringIter s 0))))
theorem rng_str {s : ByteArray} : rngW H (.str s) K2 = rngS H s K2 := id rfl
theorem rng_i {s : ByteArray} (h : ∀ b, H b = none → K2 (.ptr b 0 0) (H.upd b (some (.raw (.stringIter s 0))))) : rngS H s K2 := h
theorem nxt_ptr {b : Nat} : nxtW H (.ptr b 0 0) K2 = nxtP H b K2 (H b) := by simp [nxtW]
theorem nxt_lt {b pos : Nat} {s : ByteArray} (h : pos < s.size) (hb : byteAt s pos < 128) : nxtP H b K2 (some (.raw (.stringIter s pos))) = K2 (.tup [.bool true, .int .i64 (pos : Int), .int .i32 (byteAt s pos : Int)]) (H.upd b (some (.raw (.stringIter s (pos + 1))))) := by
  simp [nxtP, h, hb]; intro h'; omega
theorem nxt_ge {b pos : Nat} {s : ByteArray} (h : s.size ≤ pos) : nxtP H b K2 (some (.raw (.stringIter s pos))) = K2 (.tup [.bool false]) H := by
  simp [nxtP, h]; intro h'; omega
def gixP (g n es : Nat) (K : AV → Prop) (i : Int) : Option ABlk → Prop
  | some (.glob g' cells) => g' = g ∧ 0 ≤ i ∧ i < n ∧ K (.ptr g cells.length (i.toNat * es))
  | _ => False
theorem gix_int {g n es : Nat} {k : IntKind} {i : Int} : gixW g n es H (.int k i) K = gixP g n es K i (H g) := by
  unfold gixW gixP; cases H g with
  | none => rfl
  | some x => cases x <;> rfl
theorem ldP_glob {n : Option Nat} {L off g : Nat} {cells : List AV} : ldP n L off K (some (.glob g cells)) = (cells.length = L ∧ off + n.getD 1 ≤ L ∧ ldC n K ((cells.drop off).take (n.getD 1))) := id rfl
theorem liveP_raw {o : Obj} : liveP 0 (some (.raw o)) = True := by simp [liveP, ABlk.len]
theorem bo_int {k : IntKind} {n : Int} : blkOf (.int k n) = [] := id rfl
theorem bo_nilP : blkOf .nilP = [] := id rfl
theorem cells_str {s : ByteArray} : (AV.str s).cells = some [.str s] := id rfl
theorem cells_ptr {b L off : Nat} : (AV.ptr b L off).cells = some [.ptr b L off] := id rfl
theorem cells_nilP : AV.nilP.cells = some [.nilP] := id rfl
theorem cell_str {s : ByteArray} : (AV.str s).cell = true := id rfl
theorem cell_ptr {b L off : Nat} : (AV.ptr b L off).cell = true := id rfl
theorem cell_nilP : AV.nilP.cell = true := id rfl
end
theorem run_call {P : Program} {f : FuncId} {args : List AV} {H : AHeap} {K : AV → AHeap → Prop} (h : Run P f args H K) : callW P (.fn (.func f) [] []) args H K := by simpa [callW] using h
theorem ne_of_some {G : AHeap} {p q : Nat} {b : ABlk} (h : G p = some b) (n : G q = none) : Ap q p := by
  intro e; rw [e, h] at n; cases n
theorem Le.trans {A B C : AHeap} (h : Le A B) (h' : Le B C) : Le A C := fun b x e => h' b x (h b x e)
theorem eql_int {k : IntKind} {n m : Int} {K : AV → Prop} : binW .eql (.int k n) (.int k m) K ↔ K (.bool (decide (n = m))) := by simp [binW, binInt]
theorem W_atH {P : Program} {c : ACode} {Q : Exit → St → Prop} {D : List Nat} {E : Env} {H : AHeap} (h : ∀ M, M = H → W P c Q ⟨D, E, M⟩) : W P c Q ⟨D, E, H⟩ := h H rfl
theorem Settle_atH {K : St → Prop} {D : List Nat} {E : Env} {H : AHeap} (h : ∀ M, M = H → Settle K ⟨D, E, M⟩) : Settle K ⟨D, E, H⟩ := h H rfl
theorem Le.none {H G : AHeap} {q : Nat} (h : Le H G) (n : G q = none) : H q = none := by
  cases e : H q with
  | none => rfl
  | some z => have := h _ _ e; rw [n] at this; cases this
end Go.Proofs.YtipbcjnniamcgaaDoor.Fw
