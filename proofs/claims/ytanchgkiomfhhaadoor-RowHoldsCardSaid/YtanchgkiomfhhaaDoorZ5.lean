/- The texts Nb Sa Sb Sc Sd Se Sf Sh Nd Tb Ya Yb Yc Yd Ye Kf Kg Qn Qa Qb Al6, joined. -/
import Derived.Test.YtanchgkiomfhhaaDoorZ4
/- Decimal digits as bytes; a number's text, nine digits at a time. -/
namespace Go.Proofs.YtanchgkiomfhhaaDoor.Ma
set_option linter.unusedSimpArgs false
set_option linter.unusedVariables false

def chr (d : Nat) : UInt8 := UInt8.ofNat (48 + d)
theorem chr_nat {d : Nat} (h : d < 10) : (chr d).toNat = 48 + d := by unfold chr; rw [UInt8.toNat_ofNat']; omega
def dec (n : Nat) : List UInt8 := (digs 10 n).reverse.map chr
def wide (k n : Nat) : List UInt8 := (pad 10 n k).reverse.map chr
theorem dec_zero : dec 0 = [] := by simp [dec, digs_zero]
theorem wide_len {k n : Nat} (h : n < 10 ^ k) : (wide k n).length = k := by
  simp only [wide, List.length_map, List.length_reverse]
  exact pad_len (digs_len (by omega) k n h)
theorem dec_len {k n : Nat} (h : n < 10 ^ k) : (dec n).length ≤ k := by
  simp only [dec, List.length_map, List.length_reverse]
  exact digs_len (by omega) k n h
theorem last_append {l m : List Nat} (h : m ≠ []) : (l ++ m).getD ((l ++ m).length - 1) 0 = m.getD (m.length - 1) 0 := by
  have : 0 < m.length := List.length_pos_iff.2 h
  rw [List.getD_eq_getElem?_getD, List.getD_eq_getElem?_getD, List.length_append, List.getElem?_append_right (by omega)]
  congr 2; omega
theorem dec_app {k p m : Nat} (hp : p < 10 ^ k) (hm : 0 < m) : dec (p + 10 ^ k * m) = dec m ++ wide k p := by
  have hne : digs 10 m ≠ [] := fun e => by have := (digs_nil (B := 10) (by omega)).1 e; omega
  have hlen := pad_len (digs_len (B := 10) (by omega) k p hp)
  have e : digs 10 (p + 10 ^ k * m) = pad 10 p k ++ digs 10 m := by
    have h1 : Lim 10 (pad 10 p k ++ digs 10 m) := (pad_lim (by omega)).append (lim_digs (by omega) m)
    have h2 := digs_of (B := 10) (by omega) h1 (.inr (by rw [last_append hne]; exact digs_last (by omega) hm))
    rw [h2, val_append, pad_val (by omega), val_digs (by omega), hlen]
  simp only [dec, e, wide, List.reverse_append, List.map_append]
theorem wide_succ {j q : Nat} (h : q < 10 ^ (j + 1)) : wide (j + 1) q = chr (q / 10 ^ j) :: wide j (q % 10 ^ j) := by
  have hp : 0 < 10 ^ j := Nat.pow_pos (by omega)
  have hlt : q % 10 ^ j < 10 ^ j := Nat.mod_lt _ hp
  have hd : q / 10 ^ j < 10 := Nat.div_lt_of_lt_mul (by rw [Nat.pow_succ] at h; omega)
  have hlen := pad_len (digs_len (B := 10) (by omega) j _ hlt)
  have e : pad 10 q (j + 1) = pad 10 (q % 10 ^ j) j ++ [q / 10 ^ j] := by
    have h1 : Lim 10 (pad 10 (q % 10 ^ j) j ++ [q / 10 ^ j]) := (pad_lim (by omega)).append (Lim.one hd)
    have h2 := pad_of (B := 10) (by omega) h1
    rw [val_append, pad_val (by omega), hlen, val_one, List.length_append, hlen, Nat.mod_add_div] at h2
    exact h2.symm
  simp only [wide, e, List.reverse_append, List.map_append, List.reverse_singleton, List.map_cons, List.map_nil, List.singleton_append]
theorem wide_step {j p : Nat} : wide (j + 1) (p % 10 ^ (j + 1)) = chr (p / 10 ^ j % 10) :: wide j (p % 10 ^ j) := by
  have hp : 0 < 10 ^ (j + 1) := Nat.pow_pos (by omega)
  rw [wide_succ (Nat.mod_lt _ hp)]
  have e1 : p % 10 ^ (j + 1) / 10 ^ j = p / 10 ^ j % 10 := by rw [Nat.pow_succ, Nat.mod_mul_right_div_self]
  have e2 : p % 10 ^ (j + 1) % 10 ^ j = p % 10 ^ j := by rw [Nat.pow_succ]; exact Nat.mod_mod_of_dvd _ (Nat.dvd_mul_right _ _)
  rw [e1, e2]
theorem chr_48 {d : Nat} (h : d < 10) : (chr d = 48) ↔ d = 0 := by
  constructor
  · intro e
    have := congrArg UInt8.toNat e
    rw [chr_nat h] at this
    simp at this; omega
  · rintro rfl; rfl
theorem wide_trim {k p : Nat} : (wide k p).dropWhile (· == 48) = dec p := by
  have e : wide k p = List.replicate (k - (digs 10 p).length) 48 ++ dec p := by
    simp only [wide, pad, dec, List.reverse_append, List.map_append, List.reverse_replicate, List.map_replicate]
    rfl
  rw [e]
  have h : ∀ n (l : List UInt8), (List.replicate n 48 ++ l).dropWhile (· == 48) = l.dropWhile (· == 48) := by
    intro n
    induction n with
    | zero => intro l; simp
    | succ n ih => intro l; rw [List.replicate_succ, List.cons_append, List.dropWhile_cons]; simp [ih]
  rw [h]
  rcases Nat.eq_zero_or_pos p with hp | hp
  · subst hp; rw [dec_zero]; rfl
  · have hl := digs_last (B := 10) (by omega) hp
    have hne : digs 10 p ≠ [] := fun e => by have := (digs_nil (B := 10) (by omega)).1 e; omega
    obtain ⟨l, x, hx⟩ : ∃ l x, digs 10 p = l ++ [x] := ⟨_, _, (List.dropLast_concat_getLast hne).symm⟩
    have hx0 : x ≠ 0 := by
      rw [hx, last_append (by simp)] at hl
      simpa using hl
    have hx10 : x < 10 := lim_digs (B := 10) (by omega) p x (by rw [hx]; simp)
    have hd : dec p = chr x :: l.reverse.map chr := by simp [dec, hx]
    rw [hd, List.dropWhile_cons]
    have : (chr x == 48) = false := by
      rw [beq_eq_false_iff_ne]; exact fun h => hx0 ((chr_48 hx10).1 h)
    rw [this]; rfl

/-! ### a number, nine digits at a time -/
theorem digs_drop_pos {B n k : Nat} (hB : 2 ≤ B) (hk : k < (digs B n).length) : 0 < val B ((digs B n).drop k) := by
  have hn : 0 < n := by
    rcases Nat.eq_zero_or_pos n with h | h
    · subst h; rw [digs_zero] at hk; simp at hk
    · exact h
  have hl := digs_last hB hn
  have h1 : Lim B ((digs B n).drop k) := (lim_digs hB n).drop k
  have h2 : ((digs B n).drop k).getD (((digs B n).drop k).length - 1) 0 ≠ 0 := by
    rw [List.length_drop, List.getD_eq_getElem?_getD, List.getElem?_drop, ← List.getD_eq_getElem?_getD]
    have : k + ((digs B n).length - k - 1) = (digs B n).length - 1 := by omega
    rw [this]; exact hl
  have h3 := digs_of hB h1 (.inr h2)
  rcases Nat.eq_zero_or_pos (val B ((digs B n).drop k)) with h | h
  · rw [h, digs_zero] at h3
    have := congrArg List.length h3
    simp at this; omega
  · exact h
def decT (n : Nat) : List UInt8 := if n = 0 then [48] else dec n
theorem dec_pos {n : Nat} (h : 0 < n) : dec n ≠ [] := by
  intro e
  have : (digs 10 n) = [] := by simpa [dec] using e
  have := (digs_nil (B := 10) (by omega)).1 this
  omega
theorem piece_step {n k p : Nat} (hk : k < (digs 1000000000 n).length) (hp : p = (digs 1000000000 n).getD k 0) :
    p < 1000000000 ∧ dec (val 1000000000 ((digs 1000000000 n).drop k)) = dec (val 1000000000 ((digs 1000000000 n).drop (k + 1))) ++ (if k + 1 = (digs 1000000000 n).length then dec p else wide 9 p) := by
  have hlt : p < 1000000000 := hp ▸ (lim_digs (B := 1000000000) (by omega) n).getD (by omega) k
  refine ⟨hlt, ?_⟩
  rw [val_drop 1000000000 hk, ← hp]
  by_cases h : k + 1 = (digs 1000000000 n).length
  · rw [if_pos h, List.drop_of_length_le (by omega)]
    simp [val, dec_zero]
  · rw [if_neg h]
    have := digs_drop_pos (B := 1000000000) (n := n) (k := k + 1) (by omega) (by omega)
    exact dec_app (k := 9) hlt this
end Go.Proofs.YtanchgkiomfhhaaDoor.Ma

/- Slices held equal; strings without noughts ahead; the builder of strings. -/
namespace Go.Proofs.YtanchgkiomfhhaaDoor.Fw
set_option linter.unusedSimpArgs false
set_option linter.unusedVariables false
open Go Go.Proofs.YtanchgkiomfhhaaDoor.Ma
set_option maxRecDepth 20000

end Go.Proofs.YtanchgkiomfhhaaDoor.Fw

/- Strings: as lists of bytes; without noughts ahead; the builder of strings. -/
namespace Go.Proofs.YtanchgkiomfhhaaDoor.Fw
set_option linter.unusedSimpArgs false
set_option linter.unusedVariables false
open Go Go.Proofs.YtanchgkiomfhhaaDoor.Ma
set_option maxRecDepth 20000

def Sx (l : List UInt8) : AV := .str ⟨l.toArray⟩
theorem str_Sx {l : List UInt8} : AV.str ⟨l.toArray⟩ = Sx l := id rfl
theorem size_Sx {l : List UInt8} : (⟨l.toArray⟩ : ByteArray).size = l.length := by simp [ByteArray.size]
section
variable {K : AV → Prop} {K2 : AV → AHeap → Prop} {KD : AV → List Nat → Option (Nat × ABlk) → Prop} {l m : List UInt8} {k k' : IntKind} {H : AHeap}
theorem len_Sx : lenW true (Sx l) K = K (.int .i64 ((l.length : Nat) : Int)) := by simp only [Sx, lenW, size_Sx]
theorem idx_Sx {i : Nat} (h : i < l.length) : idxSW (Sx l) (.int k (i : Int)) K = K (.int .u8 (((l.getD i 0).toNat : Nat) : Int)) := by
  simp [Sx, idxSW, byteAt, size_Sx, h]
theorem extract_Sx {a b : Nat} : (⟨l.toArray⟩ : ByteArray).extract a b = ⟨((l.drop a).take (b - a)).toArray⟩ := by
  apply ByteArray.ext
  rw [ByteArray.data_extract]
  simp [List.extract_toArray]
theorem slc_SxL {a : Nat} (hb : a ≤ l.length) : slcSW (Sx l) (some (.int k (a : Int))) none K = K (Sx (l.drop a)) := by
  have h1 : (0 : Int) ≤ (a : Int) ∧ (a : Int) ≤ ((l.length : Nat) : Int) := by omega
  have e : (l.drop a).take (l.length - a) = l.drop a := List.take_of_length_le (by simp)
  simp [Sx, slcSW, optI, size_Sx, h1, extract_Sx, e]
theorem beq_dec {a b : List UInt8} : (a == b) = decide (a = b) := by by_cases h : a = b <;> simp [h]
theorem eql_Sx : binW .eql (Sx l) (Sx m) K = K (.bool (decide (l = m))) := by
  simp only [Sx, binW, binStr, ByteArray.toList_eq, List.toList_toArray, beq_dec]
theorem add_Sx (h : l.length + m.length ≤ 9223372036854775807) : binW .add (Sx l) (Sx m) K = K (Sx (l ++ m)) := by
  have e : (⟨l.toArray⟩ : ByteArray) ++ ⟨m.toArray⟩ = ⟨(l ++ m).toArray⟩ := by
    apply ByteArray.ext; simp
  have h' : (l.length : Int) + (m.length : Int) ≤ 9223372036854775807 := by omega
  simp [Sx, binW, binStr, size_Sx, e, h']
  intro _; exact h
theorem cells_Sx : (Sx l).cells = some [Sx l] := id rfl
theorem app_S0 {ty : Nat} (h0 : 0 < l.length) (hb : l.length ≤ 70368744177664) (kk : ∀ b, H b = none → K2 (.own b l.length 0 l.length false) (H.upd b (some (.row ty 1 (Bt l))))) : appV H ty 1 1 (.seq 0 [] true) (Sx l) K2 := .inl <| by
  have hal : (Bt l).all AV.cell = true := by
    rw [List.all_eq_true]; intro x hx
    obtain ⟨b, _, rfl⟩ := List.mem_map.1 hx; rfl
  refine ⟨rfl, ?_⟩
  show (bytesA ⟨l.toArray⟩).all AV.cell = true ∧ _
  rw [bytesA_eq, size_Sx]
  refine ⟨hal, rfl, rfl, by omega, by omega, fun e => by omega, fun _ b hb' => ?_⟩
  simpa using kk b hb'
theorem app_S1 {ty b : Nat} {t : Bool} {o : List UInt8} (hH : H b = some (.row ty 1 (Bt o))) (hb : o.length + l.length ≤ 70368744177664) (kk : K2 (.own b (o ++ l).length 0 (o ++ l).length false) (H.upd b (some (.row ty 1 (Bt (o ++ l)))))) : appV H ty 1 1 (.own b o.length 0 o.length t) (Sx l) K2 := .inl <| by
  have hal : (Bt l).all AV.cell = true := by
    rw [List.all_eq_true]; intro x hx
    obtain ⟨b, _, rfl⟩ := List.mem_map.1 hx; rfl
  refine ⟨rfl, ?_⟩
  show (bytesA ⟨l.toArray⟩).all AV.cell = true ∧ _
  rw [bytesA_eq, size_Sx]
  refine ⟨hal, ?_⟩
  dsimp only
  rw [hH]
  refine ⟨Bt_len, rfl, by omega, rfl, rfl, by omega, by omega, ?_⟩
  have e : Bt o ++ Bt l = Bt (o ++ l) := by simp [Bt]
  rw [List.length_append] at kk
  rw [Nat.mul_one, e]
  exact kk
end
theorem trimB_fn {l : List UInt8} {c : UInt8} (hl : l.length < 9223372036854775808) : PFn Tryd.prog 223 [Sx l, .int .u8 ((c.toNat : Nat) : Int)] (Sx (l.dropWhile (· == c))) := by
  intro H Q hq
  refine enter223 (by simp) ?_
  simp (disch := first | assumption | (apply Ap.symm; assumption) | omega | decide | (simp only [Xd] <;> omega)) only [ac223, ↓Xa, Xb, Xc, ↓reduceIte, Nat.reduceLT, Nat.reduceEqDiff, Nat.reduceBEq, Nat.reduceLeDiff, Nat.reduceAdd, Nat.reduceMul]
  refine W_loop (fun m : List UInt8 => ⟨[], [(0, Sx m), (1, .int .u8 ((c.toNat : Nat) : Int))], _⟩) (fun m => m.length ≤ l.length ∧ m.dropWhile (· == c) = l.dropWhile (· == c)) (fun m => m.length) l (Settle.now rfl) ⟨Nat.le_refl _, rfl⟩ ?_
  rintro m ⟨hm, h1⟩
  cases m with
  | nil =>
    simp (disch := first | assumption | (apply Ap.symm; assumption) | omega | decide | (simp only [Xd] <;> omega)) only [len_Sx, List.length_nil, ↓Xa, Xb, Xc, ↓reduceIte, Nat.reduceLT, Nat.reduceEqDiff, Nat.reduceBEq, Nat.reduceLeDiff, Nat.reduceAdd, Nat.reduceMul]
    refine Settle.now ?_
    simp (disch := first | assumption | (apply Ap.symm; assumption) | omega | decide | (simp only [Xd] <;> omega)) only [rs223, ↓Xa, Xb, Xc, ↓reduceIte, Nat.reduceLT, Nat.reduceEqDiff, Nat.reduceBEq, Nat.reduceLeDiff, Nat.reduceAdd, Nat.reduceMul]
    rw [← h1] at hq
    exact SetR.now hq
  | cons x m =>
    have hpos : 0 < m.length + 1 := Nat.succ_pos _
    have e : (x :: m).getD 0 0 = x := rfl
    have hm' : m.length + 1 ≤ l.length := hm
    rw [List.dropWhile_cons] at h1
    by_cases hx : x = c
    · have hb : (x == c) = true := by simp [hx]
      have hx' : x.toNat = c.toNat := by rw [hx]
      rw [if_pos hb] at h1
      simp (disch := first | assumption | (apply Ap.symm; assumption) | omega | decide | (simp only [Xd] <;> omega)) only [len_Sx, hpos, idx_Sx, e, hx', slc_SxL, List.drop_succ_cons, List.drop_zero, ↓Xa, Xb, Xc, ↓reduceIte, Nat.reduceLT, Nat.reduceEqDiff, Nat.reduceBEq, Nat.reduceLeDiff, Nat.reduceAdd, Nat.reduceMul]
      exact Settle.now ⟨m, by simp, ⟨by omega, h1⟩, rfl⟩
    · have hb : ¬ (x == c) = true := by simp [hx]
      have hx' : ¬ x.toNat = c.toNat := fun h => hx (UInt8.toNat_inj.1 h)
      rw [if_neg hb] at h1
      simp (disch := first | assumption | (apply Ap.symm; assumption) | omega | decide | (simp only [Xd] <;> omega)) only [len_Sx, hpos, idx_Sx, e, hx', ↓Xa, Xb, Xc, ↓reduceIte, Nat.reduceLT, Nat.reduceEqDiff, Nat.reduceBEq, Nat.reduceLeDiff, Nat.reduceAdd, Nat.reduceMul]
      refine Settle.now ?_
      simp (disch := first | assumption | (apply Ap.symm; assumption) | omega | decide | (simp only [Xd] <;> omega)) only [rs223, ↓Xa, Xb, Xc, ↓reduceIte, Nat.reduceLT, Nat.reduceEqDiff, Nat.reduceBEq, Nat.reduceLeDiff, Nat.reduceAdd, Nat.reduceMul]
      rw [← h1] at hq
      exact SetR.now hq
theorem trimL_fn {l : List UInt8} {c : UInt8} (hl : l.length < 9223372036854775808) (hc : c.toNat < 128) : PFn Tryd.prog 213 [Sx l, Sx [c]] (Sx (l.dropWhile (· == c))) := by
  intro H Q hq
  refine enter213 (by simp) ?_
  have e : ([c] : List UInt8).getD 0 0 = c := rfl
  have h1 : ([c] = ([] : List UInt8)) = False := by simp
  have h2 : 0 < ([c] : List UInt8).length := by simp
  cases l with
  | nil =>
    simp (disch := first | assumption | (apply Ap.symm; assumption) | omega | decide | (simp only [Xd] <;> omega)) only [ac213, str_Sx, eql_Sx, rs213, ↓Xa, Xb, Xc, ↓reduceIte, Nat.reduceLT, Nat.reduceEqDiff, Nat.reduceBEq, Nat.reduceLeDiff, Nat.reduceAdd, Nat.reduceMul]
    exact SetR.now hq
  | cons x l =>
    have h3 : (x :: l = ([] : List UInt8)) = False := by simp
    simp (disch := first | assumption | (apply Ap.symm; assumption) | omega | decide | (simp only [Xd] <;> omega)) only [ac213, str_Sx, eql_Sx, h1, h3, len_Sx, idx_Sx, h2, e, hc, ↓Xa, Xb, Xc, ↓reduceIte, Nat.reduceLT, Nat.reduceEqDiff, Nat.reduceBEq, Nat.reduceLeDiff, Nat.reduceAdd, Nat.reduceMul]
    refine (trimB_fn hl).call ?_
    simp (disch := first | assumption | (apply Ap.symm; assumption) | omega | decide | (simp only [Xd] <;> omega)) only [rs213, ↓Xa, Xb, Xc, ↓reduceIte, Nat.reduceLT, Nat.reduceEqDiff, Nat.reduceBEq, Nat.reduceLeDiff, Nat.reduceAdd, Nat.reduceMul]
    exact SetR.now hq
end Go.Proofs.YtanchgkiomfhhaaDoor.Fw

/- The builder of strings. -/
namespace Go.Proofs.YtanchgkiomfhhaaDoor.Fw
set_option linter.unusedSimpArgs false
set_option linter.unusedVariables false
open Go Go.Proofs.YtanchgkiomfhhaaDoor.Ma
set_option maxRecDepth 20000

theorem check_new {H : AHeap} {p : Nat} {v : AV} {K : AV → AHeap → Prop} (hH : H p = some (.row 234 0 [.nilP, v])) (k : K (.tup []) (H.upd p (some (.row 234 0 [.ptr p 2 0, v])))) : Run Tryd.prog 215 [.ptr p 2 0] H K := by
  refine enter215 (by simp) ?_
  simp (disch := first | assumption | (apply Ap.symm; assumption) | omega | decide | (simp only [Xd] <;> omega)) only [ac215, hH, rs215, ↓Xa, Xb, Xc, ↓reduceIte, Nat.reduceLT, Nat.reduceEqDiff, Nat.reduceBEq, Nat.reduceLeDiff, Nat.reduceAdd, Nat.reduceMul]
  exact SetR.now k
theorem check_used {H : AHeap} {p : Nat} {v : AV} {K : AV → AHeap → Prop} (hH : H p = some (.row 234 0 [.ptr p 2 0, v])) (k : K (.tup []) H) : Run Tryd.prog 215 [.ptr p 2 0] H K := by
  refine enter215 (by simp) ?_
  simp (disch := first | assumption | (apply Ap.symm; assumption) | omega | decide | (simp only [Xd] <;> omega)) only [ac215, hH, rs215, ↓Xa, Xb, Xc, ↓reduceIte, Nat.reduceLT, Nat.reduceEqDiff, Nat.reduceBEq, Nat.reduceLeDiff, Nat.reduceAdd, Nat.reduceMul]
  exact SetR.now k
def bld (p : Nat) (l : List UInt8) (H0 H : AHeap) : Prop :=
  (l = [] ∧ (H = H0.upd p (some (.row 234 0 [.nilP, .seq 0 [] true])) ∨ H = H0.upd p (some (.row 234 0 [.ptr p 2 0, .seq 0 [] true])))) ∨
  (l ≠ [] ∧ ∃ bb, H0 bb = none ∧ Ap bb p ∧ H = (H0.upd p (some (.row 234 0 [.ptr p 2 0, .own bb l.length 0 l.length false]))).upd bb (some (.row 5 1 (Bt l))))
theorem bld_new {p : Nat} {H : AHeap} : bld p [] H (H.upd p (some (.row 234 0 [.nilP, .seq 0 [] true]))) := .inl ⟨rfl, .inl rfl⟩
theorem bld_upd {p q : Nat} {l : List UInt8} {H0 H : AHeap} {x : ABlk} (h : bld p l H0 H) (hq : H q = none) : Ap q p ∧ H0 q = none ∧ bld p l (H0.upd q (some x)) (H.upd q (some x)) := by
  rcases h with ⟨rfl, rfl | rfl⟩ | ⟨h0, bb, hbb, hap, rfl⟩
  · obtain ⟨a, b⟩ := upd_none.1 hq
    exact ⟨a, b, .inl ⟨rfl, .inl (upd_comm _ _ _ (Ap.symm a))⟩⟩
  · obtain ⟨a, b⟩ := upd_none.1 hq
    exact ⟨a, b, .inl ⟨rfl, .inr (upd_comm _ _ _ (Ap.symm a))⟩⟩
  · obtain ⟨a1, a2, b⟩ : Ap q bb ∧ Ap q p ∧ H0 q = none := by simpa only [upd_none] using hq
    refine ⟨a2, b, .inr ⟨h0, bb, ?_, hap, ?_⟩⟩
    · rw [upd_otherA (Ap.symm a1)]; exact hbb
    · rw [upd_comm _ _ _ (Ap.symm a1), upd_comm (b := p) (b' := q) _ _ _ (Ap.symm a2)]
theorem wstr_run {p : Nat} {l m : List UInt8} {H0 H : AHeap} {K : AV → AHeap → Prop} (hb : bld p l H0 H) (hl : l.length + m.length ≤ 70368744177664) (hm : 0 < m.length)
    (k : ∀ H', bld p (l ++ m) H0 H' → K (.tup [.int .i64 ((m.length : Nat) : Int), .nilI]) H') : Run Tryd.prog 204 [.ptr p 2 0, Sx m] H K := by
  refine enter204 (by simp) ?_
  simp (disch := first | assumption | (apply Ap.symm; assumption) | omega | decide | (simp only [Xd] <;> omega)) only [ac204, ↓Xa, Xb, Xc, ↓reduceIte, Nat.reduceLT, Nat.reduceEqDiff, Nat.reduceBEq, Nat.reduceLeDiff, Nat.reduceAdd, Nat.reduceMul]
  have hne : ∀ {x : List UInt8}, x ++ m ≠ [] := fun {x} e => by have := congrArg List.length e; rw [List.length_append, List.length_nil] at this; omega
  have first : ∀ {M : AHeap}, M = H0.upd p (some (.row 234 0 [.ptr p 2 0, .seq 0 [] true])) → l = [] →
      W Tryd.prog (sndC (sndC ac204)) (retN rs204 K) ⟨[], [(0, .ptr p 2 0), (1, Sx m)], M⟩ := by
    rintro M rfl rfl
    simp (disch := first | assumption | (apply Ap.symm; assumption) | omega | decide | (simp only [Xd] <;> omega)) only [sndC, ac204, ↓Xa, Xb, Xc, ↓reduceIte, Nat.reduceLT, Nat.reduceEqDiff, Nat.reduceBEq, Nat.reduceLeDiff, Nat.reduceAdd, Nat.reduceMul]
    refine app_S0 hm (by simp at hl; omega) fun b hb => ?_
    obtain ⟨a1, a2⟩ := upd_none.1 hb
    simp (disch := first | assumption | (apply Ap.symm; assumption) | omega | decide | (simp only [Xd] <;> omega)) only [len_Sx, rs204, ↓Xa, Xb, Xc, ↓reduceIte, Nat.reduceLT, Nat.reduceEqDiff, Nat.reduceBEq, Nat.reduceLeDiff, Nat.reduceAdd, Nat.reduceMul]
    refine SetR.now (k _ (.inr ⟨by simpa using hne (x := []), b, a2, a1, ?_⟩))
    simp only [List.nil_append]
  rcases hb with ⟨rfl, rfl | rfl⟩ | ⟨h0, bb, hbb, hap, rfl⟩
  · refine run_call (check_new (upd_same _ _ _) ?_)
    have f := first rfl rfl
    simp (disch := first | assumption | (apply Ap.symm; assumption) | omega | decide | (simp only [Xd] <;> omega)) only [sndC, ac204, ↓Xa, Xb, Xc, ↓reduceIte, Nat.reduceLT, Nat.reduceEqDiff, Nat.reduceBEq, Nat.reduceLeDiff, Nat.reduceAdd, Nat.reduceMul] at f
    simp (disch := first | assumption | (apply Ap.symm; assumption) | omega | decide | (simp only [Xd] <;> omega)) only [↓Xa, Xb, Xc, ↓reduceIte, Nat.reduceLT, Nat.reduceEqDiff, Nat.reduceBEq, Nat.reduceLeDiff, Nat.reduceAdd, Nat.reduceMul]
    exact f
  · refine run_call (check_used (upd_same _ _ _) ?_)
    have f := first rfl rfl
    simp (disch := first | assumption | (apply Ap.symm; assumption) | omega | decide | (simp only [Xd] <;> omega)) only [sndC, ac204, ↓Xa, Xb, Xc, ↓reduceIte, Nat.reduceLT, Nat.reduceEqDiff, Nat.reduceBEq, Nat.reduceLeDiff, Nat.reduceAdd, Nat.reduceMul] at f
    simp (disch := first | assumption | (apply Ap.symm; assumption) | omega | decide | (simp only [Xd] <;> omega)) only [↓Xa, Xb, Xc, ↓reduceIte, Nat.reduceLT, Nat.reduceEqDiff, Nat.reduceBEq, Nat.reduceLeDiff, Nat.reduceAdd, Nat.reduceMul]
    exact f
  · refine run_call (check_used (v := .own bb l.length 0 l.length false) (by rw [upd_otherA (Ap.symm hap), upd_same]) ?_)
    simp (disch := first | assumption | (apply Ap.symm; assumption) | omega | decide | (simp only [Xd] <;> omega)) only [↓Xa, Xb, Xc, ↓reduceIte, Nat.reduceLT, Nat.reduceEqDiff, Nat.reduceBEq, Nat.reduceLeDiff, Nat.reduceAdd, Nat.reduceMul]
    refine app_S1 (upd_same _ _ _) hl ?_
    simp (disch := first | assumption | (apply Ap.symm; assumption) | omega | decide | (simp only [Xd] <;> omega)) only [len_Sx, rs204, ↓Xa, Xb, Xc, ↓reduceIte, Nat.reduceLT, Nat.reduceEqDiff, Nat.reduceBEq, Nat.reduceLeDiff, Nat.reduceAdd, Nat.reduceMul]
    refine SetR.now (k _ (.inr ⟨hne, bb, hbb, hap, ?_⟩))
    simp only [List.length_append]
theorem bstr_run {p : Nat} {l : List UInt8} {H0 H : AHeap} {K : AV → AHeap → Prop} (hb : bld p l H0 H) (hp : H0 p = none) (hl : l.length ≤ 70368744177664) (h0 : 0 < l.length) (k : ∀ H', Le H0 H' → K (Sx l) H') : Run Tryd.prog 205 [.ptr p 2 0] H K := by
  refine enter205 (by simp) ?_
  rcases hb with ⟨rfl, _⟩ | ⟨h1, bb, hbb, hap, rfl⟩
  · simp at h0
  · have hbl : (Bt l).length = l.length := Bt_len
    simp (disch := first | assumption | (apply Ap.symm; assumption) | omega | decide | (simp only [Xd] <;> omega)) only [ac205, h0, rs205, ↓Xa, Xb, Xc, ↓reduceIte, Nat.reduceLT, Nat.reduceEqDiff, Nat.reduceBEq, Nat.reduceLeDiff, Nat.reduceAdd, Nat.reduceMul]
    exact SetR.now (k _ (((Le.refl H0).updB hp).updB hbb))
end Go.Proofs.YtanchgkiomfhhaaDoor.Fw

/- A number's decimal text, as package limb writes it. -/
namespace Go.Proofs.YtanchgkiomfhhaaDoor.Fw
set_option linter.unusedSimpArgs false
set_option linter.unusedVariables false
open Go Go.Proofs.YtanchgkiomfhhaaDoor.Ma
set_option maxRecDepth 20000

theorem bld_drop {p q : Nat} {l : List UInt8} {H0 H : AHeap} {x : ABlk} (h : bld p l (H0.upd q (some x)) H) (hqp : Ap q p) (hq : H0 q = none) : ∃ H', bld p l H0 H' ∧ Le H' H := by
  have up : ∀ {M : AHeap} {r : Option ABlk}, M = (H0.upd q (some x)).upd p r → Le (H0.upd p r) M := fun {M r} e => by
    rw [e, upd_comm _ _ _ hqp]
    exact (Le.refl _).updB (by rw [upd_otherA hqp]; exact hq)
  rcases h with ⟨rfl, rfl | rfl⟩ | ⟨h0, bb, hbb, hap, rfl⟩
  · exact ⟨_, .inl ⟨rfl, .inl rfl⟩, up rfl⟩
  · exact ⟨_, .inl ⟨rfl, .inr rfl⟩, up rfl⟩
  · obtain ⟨a1, a2⟩ := upd_none.1 hbb
    refine ⟨_, .inr ⟨h0, bb, a2, hap, rfl⟩, ?_⟩
    rw [upd_comm _ _ _ hqp, upd_comm (b := q) (b' := bb) _ _ _ (Ap.symm a1)]
    exact (Le.refl _).updB (by rw [upd_otherA (Ap.symm a1), upd_otherA hqp]; exact hq)
theorem stP_Bt {H : AHeap} {K2 : AV → AHeap → Prop} {b L off ty es c : Nat} {l : List UInt8} (hL : l.length = L) (h : off < L) (hc : c < 256) : stP H 1 b L off K2 (some [.int .u8 (c : Int)]) (some (.row ty es (Bt l))) = K2 .bot (H.upd b (some (.row ty es (Bt (l.set off (UInt8.ofNat c)))))) := by
  subst hL
  have h1 : off + 1 ≤ l.length := h
  have e : splice (Bt l) off [.int .u8 (c : Int)] = Bt (l.set off (UInt8.ofNat c)) := by
    have e2 : (AV.int .u8 (c : Int)) = .int .u8 (((UInt8.ofNat c).toNat : Nat) : Int) := by
      rw [UInt8.toNat_ofNat', Nat.mod_eq_of_lt hc]
    rw [e2]
    unfold splice Bt
    rw [List.map_set, List.set_eq_take_append_cons_drop]
    simp [h]
  simp [stP, Bt_len, h1, e]
def TxI (p j : Nat) (cells : List UInt8) (x : Nat) : Prop := j ≤ 9 ∧ cells = List.replicate j 0 ++ wide (9 - j) (p % 10 ^ (9 - j)) ∧ x = p / 10 ^ (9 - j)
theorem TxI.len {p j x : Nat} {cells : List UInt8} (h : TxI p j cells x) : cells.length = 9 := by
  obtain ⟨h1, rfl, _⟩ := h
  rw [List.length_append, List.length_replicate, wide_len (Nat.mod_lt _ (Nat.pow_pos (by omega)))]; omega
theorem TxI.step {p j x : Nat} {cells : List UInt8} (h : TxI p (j + 1) cells x) : TxI p j (cells.set j (UInt8.ofNat (48 + x % 10))) (x / 10) := by
  obtain ⟨h1, rfl, rfl⟩ := h
  have e9 : 9 - j = (9 - (j + 1)) + 1 := by omega
  refine ⟨by omega, ?_, ?_⟩
  · rw [e9, wide_step]
    rw [List.replicate_succ', List.append_assoc, List.set_append_right _ _ (by simp)]
    simp [chr]
  · rw [e9, Nat.pow_succ, Nat.div_div_eq_div_mul]

theorem text_fn {l : List Nat} (t : Bool) (hl : Lim 4294967296 l) (hn : l.length ≤ 1099511627776) : PFn Tryd.prog 190 [LS l t] (Sx (decT (val 4294967296 l))) := by
  intro H Q hq
  have hP : (2 : Nat) ≤ 1000000000 := by omega
  refine enter190 (by simp) ?_
  simp (disch := first | assumption | (apply Ap.symm; assumption) | omega | decide | (simp only [Xd] <;> omega)) only [ac190, str_Sx, ↓Xa, Xb, Xc, ↓reduceIte, Nat.reduceLT, Nat.reduceEqDiff, Nat.reduceBEq, Nat.reduceLeDiff, Nat.reduceAdd, Nat.reduceMul]
  refine (norm_fn t (by omega)).call ?_
  rw [tr_digs (by omega) hl]
  have hN : val 4294967296 l < 4294967296 ^ l.length := val_lt hl
  have hp2 : (digs 1000000000 (val 4294967296 l)).length ≤ 2 * l.length := digs_len hP _ _ (Nat.lt_of_lt_of_le hN (by rw [Nat.pow_mul]; exact Nat.pow_le_pow_left (by omega) _))
  have hdl : (dec (val 4294967296 l)).length ≤ 10 * l.length := dec_len (Nat.lt_of_lt_of_le hN (by rw [Nat.pow_mul]; exact Nat.pow_le_pow_left (by omega) _))
  generalize hNe : val 4294967296 l = N at *
  simp (disch := first | assumption | (apply Ap.symm; assumption) | omega | decide | (simp only [Xd] <;> omega)) only [↓Xa, Xb, Xc, ↓reduceIte, Nat.reduceLT, Nat.reduceEqDiff, Nat.reduceBEq, Nat.reduceLeDiff, Nat.reduceAdd, Nat.reduceMul]
  refine W_loop (fun s : List Nat × AV × AHeap × Nat => ⟨[], [(3, s.2.1), (4, LS (digs 4294967296 s.2.2.2) true)], s.2.2.1⟩) (fun s => grow H 172 s.1 s.2.1 s.2.2.1 ∧ digs 1000000000 N = s.1 ++ digs 1000000000 s.2.2.2 ∧ s.2.2.2 ≤ N) (fun s => s.2.2.2)
    ([], .seq 0 [] true, H, N) (Settle.now rfl) ⟨grow_nil, rfl, Nat.le_refl _⟩ ?_
  rintro ⟨done, x, G, n⟩ ⟨hg, he, hle⟩
  dsimp only at hg he hle ⊢
  have hdn : (digs 4294967296 n).length ≤ l.length := digs_len (by omega) _ _ (Nat.lt_of_le_of_lt hle (hNe ▸ hN))
  have hz := digs_len0 (B := 4294967296) (n := n) (by omega)
  by_cases hn0 : n = 0
  · have h1 : (digs 4294967296 n).length = 0 := by rw [hz]; exact hn0
    simp (disch := first | assumption | (apply Ap.symm; assumption) | omega | decide | (simp only [Xd] <;> omega)) only [h1, ↓Xa, Xb, Xc, ↓reduceIte, Nat.reduceLT, Nat.reduceEqDiff, Nat.reduceBEq, Nat.reduceLeDiff, Nat.reduceAdd, Nat.reduceMul]
    refine Settle.grown 3 rfl hg (Settle.now ?_)
    rw [hn0, digs_zero, List.append_nil] at he
    subst he
    have hlim := lim_digs hP N
    have hdig := fun k p => piece_step (n := N) (k := k) (p := p)
    have hv : val 1000000000 (digs 1000000000 N) = N := val_digs hP N
    have hlast := digs_last (B := 1000000000) (n := N) hP
    have hnil := digs_len0 (B := 1000000000) (n := N) hP
    generalize digs 1000000000 N = ps at *
    by_cases hp0 : ps.length = 0
    · rw [hnil] at hp0
      have hL : ps.length = 0 := by rw [hnil]; exact hp0
      simp (disch := first | assumption | (apply Ap.symm; assumption) | omega | decide | (simp only [Xd] <;> omega)) only [hL, str_Sx, rs190, ↓Xa, Xb, Xc, ↓reduceIte, Nat.reduceLT, Nat.reduceEqDiff, Nat.reduceBEq, Nat.reduceLeDiff, Nat.reduceAdd, Nat.reduceMul]
      have e : decT N = [48] := by rw [hp0]; rfl
      rw [e] at hq
      exact SetR.now hq
    · have hN0 : 0 < N := by rcases Nat.eq_zero_or_pos N with h | h
                             · exact absurd (hnil ▸ h) hp0
                             · exact h
      have eT : decT N = dec N := by unfold decT; rw [if_neg (by omega)]
      rw [eT] at hq
      obtain ⟨L, hL⟩ : ∃ L, ps.length = L + 1 := ⟨ps.length - 1, by omega⟩
      have hLp : (0 < L + 1) = True := by simp
      have hL0 : (L + 1 = 0) = False := by simp
      simp (disch := first | assumption | (apply Ap.symm; assumption) | omega | decide | (simp only [Xd] <;> omega)) only [hL, hL0, ↓Xa, Xb, Xc, ↓reduceIte, Nat.reduceLT, Nat.reduceEqDiff, Nat.reduceBEq, Nat.reduceLeDiff, Nat.reduceAdd, Nat.reduceMul]
      refine alloc_i fun p hp => ?_
      simp (disch := first | assumption | (apply Ap.symm; assumption) | omega | decide | (simp only [Xd] <;> omega)) only [hL, dn_succ, ↓Xa, Xb, Xc, ↓reduceIte, Nat.reduceLT, Nat.reduceEqDiff, Nat.reduceBEq, Nat.reduceLeDiff, Nat.reduceAdd, Nat.reduceMul]
      refine W_atH fun M0 hM0 => ?_
      refine W_loop (fun s : Nat × AHeap => ⟨[], [(3, LS ps false), (8, .ptr p 2 0), (9, .int .i64 (dn s.1))], s.2⟩) (fun s => s.1 ≤ ps.length ∧ bld p (dec (val 1000000000 (ps.drop s.1))) H s.2) (fun s => s.1) (L + 1, M0) (Settle.now rfl) ⟨by dsimp only; omega, ?_⟩ ?_
      · dsimp only
        rw [List.drop_of_length_le (by omega), show val 1000000000 [] = 0 from rfl, dec_zero, hM0]
        exact bld_new
      rintro ⟨k, M⟩ ⟨hk, hb⟩
      dsimp only at hk hb ⊢
      cases k with
      | zero =>
        simp (disch := first | assumption | (apply Ap.symm; assumption) | omega | decide | (simp only [Xd] <;> omega)) only [dn_zero, ↓Xa, Xb, Xc, ↓reduceIte, Nat.reduceLT, Nat.reduceEqDiff, Nat.reduceBEq, Nat.reduceLeDiff, Nat.reduceAdd, Nat.reduceMul]
        refine Settle.now ?_
        rw [List.drop_zero, hv] at hb
        simp (disch := first | assumption | (apply Ap.symm; assumption) | omega | decide | (simp only [Xd] <;> omega)) only [↓Xa, Xb, Xc, ↓reduceIte, Nat.reduceLT, Nat.reduceEqDiff, Nat.reduceBEq, Nat.reduceLeDiff, Nat.reduceAdd, Nat.reduceMul]
        have hd0 : 0 < (dec N).length := List.length_pos_iff.2 (dec_pos hN0)
        refine run_call (bstr_run hb hp (by omega) hd0 fun H' hH' => ?_)
        simp (disch := first | assumption | (apply Ap.symm; assumption) | omega | decide | (simp only [Xd] <;> omega)) only [rs190, ↓Xa, Xb, Xc, ↓reduceIte, Nat.reduceLT, Nat.reduceEqDiff, Nat.reduceBEq, Nat.reduceLeDiff, Nat.reduceAdd, Nat.reduceMul]
        exact SetR.dropTo hH' (SetR.now hq)
      | succ k =>
        obtain ⟨hlt, hstep⟩ := hdig k _ (by omega) rfl
        have hlt2 : ps.getD k 0 < 1000000000 := hlt
        simp (disch := first | assumption | (apply Ap.symm; assumption) | omega | decide | (simp only [Xd] <;> omega)) only [dn_succ, hL, ↓Xa, Xb, Xc, ↓reduceIte, Nat.reduceLT, Nat.reduceEqDiff, Nat.reduceBEq, Nat.reduceLeDiff, Nat.reduceAdd, Nat.reduceMul]
        refine alloc_i fun q hq' => ?_
        generalize hpk : ps.getD k 0 = pk at *
        simp (disch := first | assumption | (apply Ap.symm; assumption) | omega | decide | (simp only [Xd] <;> omega)) only [hpk, dn_succ, hL, ↓Xa, Xb, Xc, ↓reduceIte, Nat.reduceLT, Nat.reduceEqDiff, Nat.reduceBEq, Nat.reduceLeDiff, Nat.reduceAdd, Nat.reduceMul]
        refine W_loop (fun s : Nat × List UInt8 × Nat => ⟨[], [(3, LS ps false), (8, .ptr p 2 0), (9, .int .i64 (k : Nat)), (10, .ptr q 9 0), (11, .int .u32 (s.2.2 : Nat)), (12, .int .i64 (dn s.1))], M.upd q (some (.row 248 1 (Bt s.2.1)))⟩)
          (fun s => TxI pk s.1 s.2.1 s.2.2) (fun s => s.1) (9, List.replicate 9 0, pk) (Settle.now rfl) ⟨Nat.le_refl _, by simp [wide, pad, digs_zero, Nat.mod_one], by simp⟩ ?_
        rintro ⟨j, cells, x⟩ hx
        dsimp only at hx ⊢
        have hcl := hx.len
        have hx32 : x < 4294967296 := by
          have := hx.2.2
          have := Nat.div_le_self pk (10 ^ (9 - j))
          omega
        cases j with
        | zero =>
          have ecells : cells = wide 9 pk := by
            rw [hx.2.1]; simp [Nat.mod_eq_of_lt hlt2]
          have htk : (Bt cells).take 9 = Bt cells := List.take_of_length_le (by rw [Bt_len]; omega)
          have hbl : (Bt cells).length = 9 := by rw [Bt_len]; exact hcl
          simp (disch := first | assumption | (apply Ap.symm; assumption) | omega | decide | (simp only [Xd] <;> omega)) only [dn_zero, ↓Xa, Xb, Xc, ↓reduceIte, Nat.reduceLT, Nat.reduceEqDiff, Nat.reduceBEq, Nat.reduceLeDiff, Nat.reduceAdd, Nat.reduceMul]
          refine Settle.now ?_
          simp (disch := first | assumption | (apply Ap.symm; assumption) | omega | decide | (simp only [Xd] <;> omega)) only [htk, str_Sx, hL, dn_succ, ↓Xa, Xb, Xc, ↓reduceIte, Nat.reduceLT, Nat.reduceEqDiff, Nat.reduceBEq, Nat.reduceLeDiff, Nat.reduceAdd, Nat.reduceMul]
          refine ⟨by decide, ?_⟩
          obtain ⟨a1, a2, w0⟩ := bld_upd (x := .row 248 1 (Bt cells)) hb hq'
          have fin : ∀ (m : List UInt8) (M' : AHeap), bld p (dec (val 1000000000 (ps.drop (k + 1))) ++ m) (H.upd q (some (.row 248 1 (Bt cells)))) M' → dec (val 1000000000 (ps.drop k)) = dec (val 1000000000 (ps.drop (k + 1))) ++ m →
              Settle (fun s' => ∃ x' : Nat × AHeap, x'.1 < k + 1 ∧ (x'.1 ≤ L + 1 ∧ bld p (dec (val 1000000000 (ps.drop x'.1))) H x'.2) ∧ s' = ⟨[], [(3, LS ps false), (8, .ptr p 2 0), (9, .int .i64 (dn x'.1))], x'.2⟩) ⟨[], [(3, LS ps false), (8, .ptr p 2 0), (9, .int .i64 (dn k))], M'⟩ := fun m M' hb' e => by
            obtain ⟨M'', h1, h2⟩ := bld_drop hb' a1 a2
            exact Settle.dropTo h2 (Settle.now ⟨(k, M''), Nat.lt_succ_self k, ⟨by dsimp only; omega, by dsimp only; rw [e]; exact h1⟩, rfl⟩)
          have hbd : (dec (val 1000000000 (ps.drop (k + 1)))).length ≤ 9 * ps.length := by
            refine dec_len (Nat.lt_of_lt_of_le (val_lt (hlim.drop (k + 1))) ?_)
            rw [show (1000000000 : Nat) = 10 ^ 9 from rfl, ← Nat.pow_mul]
            exact Nat.pow_le_pow_right (by omega) (Nat.mul_le_mul_left _ (by simp))
          by_cases hkL : k = L
          · rw [if_pos (by omega)] at hstep
            have hpk0 : pk ≠ 0 := by
              have := hlast hN0
              rwa [hL, Nat.add_sub_cancel, ← hkL, hpk] at this
            have hm0 : 0 < (dec pk).length := List.length_pos_iff.2 (dec_pos (by omega))
            have hm9 : (dec pk).length ≤ 9 := dec_len (k := 9) hlt2
            have hd1 : decide (k = L + 1 - 1) = true := by simp [hkL]
            simp (disch := first | assumption | (apply Ap.symm; assumption) | omega | decide | (simp only [Xd] <;> omega)) only [hd1, ↓Xa, Xb, Xc, ↓reduceIte, Nat.reduceLT, Nat.reduceEqDiff, Nat.reduceBEq, Nat.reduceLeDiff, Nat.reduceAdd, Nat.reduceMul]
            refine (trimL_fn (c := 48) (l := cells) (by omega) (by decide)).call ?_
            rw [ecells, wide_trim, ← ecells]
            simp (disch := first | assumption | (apply Ap.symm; assumption) | omega | decide | (simp only [Xd] <;> omega)) only [↓Xa, Xb, Xc, ↓reduceIte, Nat.reduceLT, Nat.reduceEqDiff, Nat.reduceBEq, Nat.reduceLeDiff, Nat.reduceAdd, Nat.reduceMul]
            refine run_call (wstr_run w0 (by omega) hm0 fun M' hM' => ?_)
            simp (disch := first | assumption | (apply Ap.symm; assumption) | omega | decide | (simp only [Xd] <;> omega)) only [↓Xa, Xb, Xc, ↓reduceIte, Nat.reduceLT, Nat.reduceEqDiff, Nat.reduceBEq, Nat.reduceLeDiff, Nat.reduceAdd, Nat.reduceMul]
            exact fin _ _ hM' hstep
          · rw [if_neg (by omega)] at hstep
            rw [← ecells] at hstep
            have hd1 : decide (k = L + 1 - 1) = false := by simp [hkL]
            simp (disch := first | assumption | (apply Ap.symm; assumption) | omega | decide | (simp only [Xd] <;> omega)) only [hd1, ↓Xa, Xb, Xc, ↓reduceIte, Nat.reduceLT, Nat.reduceEqDiff, Nat.reduceBEq, Nat.reduceLeDiff, Nat.reduceAdd, Nat.reduceMul]
            refine run_call (wstr_run w0 (by omega) (by omega) fun M' hM' => ?_)
            simp (disch := first | assumption | (apply Ap.symm; assumption) | omega | decide | (simp only [Xd] <;> omega)) only [↓Xa, Xb, Xc, ↓reduceIte, Nat.reduceLT, Nat.reduceEqDiff, Nat.reduceBEq, Nat.reduceLeDiff, Nat.reduceAdd, Nat.reduceMul]
            exact fin _ _ hM' hstep
        | succ j =>
          have hj : j < 9 := by have := hx.1; omega
          have hbl : (Bt cells).length = 9 := by rw [Bt_len]; exact hcl
          have hd : x % 10 < 10 := Nat.mod_lt _ (by omega)
          simp (disch := first | assumption | (apply Ap.symm; assumption) | omega | decide | (simp only [Xd] <;> omega)) only [dn_succ, stP_Bt, ↓Xa, Xb, Xc, ↓reduceIte, Nat.reduceLT, Nat.reduceEqDiff, Nat.reduceBEq, Nat.reduceLeDiff, Nat.reduceAdd, Nat.reduceMul]
          exact ⟨by omega, by omega, Settle.now ⟨(j, _, x / 10), Nat.lt_succ_self j, hx.step, rfl⟩⟩
  · have h1 : 0 < (digs 4294967296 n).length := by
      have : ¬ (digs 4294967296 n).length = 0 := by rw [hz]; exact hn0
      omega
    simp (disch := first | assumption | (apply Ap.symm; assumption) | omega | decide | (simp only [Xd] <;> omega)) only [h1, ↓Xa, Xb, Xc, ↓reduceIte, Nat.reduceLT, Nat.reduceEqDiff, Nat.reduceBEq, Nat.reduceLeDiff, Nat.reduceAdd, Nat.reduceMul]
    refine (divsmall_fn (d := 1000000000) true (lim_digs (by omega) n) (by omega) (by omega) (by omega)).call ?_
    rw [val_digs (by omega)]
    simp (disch := first | assumption | (apply Ap.symm; assumption) | omega | decide | (simp only [Xd] <;> omega)) only [↓Xa, Xb, Xc, ↓reduceIte, Nat.reduceLT, Nat.reduceEqDiff, Nat.reduceBEq, Nat.reduceLeDiff, Nat.reduceAdd, Nat.reduceMul]
    have hlen := congrArg List.length he
    rw [List.length_append] at hlen
    refine app_grow (m := [n % 1000000000]) hg rfl (by simp) (by simp; omega) fun x' H2 hg2 => ?_
    simp (disch := first | assumption | (apply Ap.symm; assumption) | omega | decide | (simp only [Xd] <;> omega)) only [↓Xa, Xb, Xc, ↓reduceIte, Nat.reduceLT, Nat.reduceEqDiff, Nat.reduceBEq, Nat.reduceLeDiff, Nat.reduceAdd, Nat.reduceMul]
    refine Settle.now ⟨(done ++ [n % 1000000000], x', H2, n / 1000000000), Nat.div_lt_self (by omega) (by omega), ⟨hg2, ?_, Nat.le_trans (Nat.div_le_self _ _) hle⟩, rfl⟩
    dsimp only
    rw [he, digs_pos hP (show 0 < n by omega), List.append_assoc]; rfl
end Go.Proofs.YtanchgkiomfhhaaDoor.Fw

/- The laws' first question: are numbers added, multiplied, divided, told? -/
namespace Go.Proofs.YtanchgkiomfhhaaDoor.Fw
set_option linter.unusedSimpArgs false
set_option linter.unusedVariables false
open Go Go.Proofs.YtanchgkiomfhhaaDoor.Ma
set_option maxRecDepth 20000

end Go.Proofs.YtanchgkiomfhhaaDoor.Fw

/- What package limb computes, in terms of numbers. -/
namespace Go.Proofs.YtanchgkiomfhhaaDoor.Fw
set_option linter.unusedSimpArgs false
set_option linter.unusedVariables false
open Go Go.Proofs.YtanchgkiomfhhaaDoor.Ma
set_option maxRecDepth 20000

structure Nm (l : List Nat) (n k : Nat) : Prop where
  lim : Lim 4294967296 l
  val : val 4294967296 l = n
  len : l.length ≤ k
theorem Nm.lt {l : List Nat} {n k : Nat} (h : Nm l n k) : n < 4294967296 ^ k := by
  rw [← h.val]; exact Nat.lt_of_lt_of_le (val_lt h.lim) (Nat.pow_le_pow_right (by omega) h.len)
theorem Nm.digs {n k : Nat} (h : n < 4294967296 ^ k) : Nm (digs 4294967296 n) n k := ⟨lim_digs (by omega) n, val_digs (by omega) n, digs_len (by omega) k n h⟩
theorem Nm.raw {l : List Nat} {k : Nat} (h : Lim 4294967296 l) (hk : l.length ≤ k) : Nm l (Ma.val 4294967296 l) k := ⟨h, rfl, hk⟩
theorem Nm.mono {l : List Nat} {n k k' : Nat} (h : Nm l n k) (hk : k ≤ k') : Nm l n k' := ⟨h.lim, h.val, Nat.le_trans h.len hk⟩
end Go.Proofs.YtanchgkiomfhhaaDoor.Fw

/- The law of quotients and remainders of limbs, without the reference, as what its code computes: true. -/
namespace Go.Proofs.YtanchgkiomfhhaaDoor.Fw
set_option linter.unusedSimpArgs false
set_option linter.unusedVariables false
open Go Go.Proofs.YtanchgkiomfhhaaDoor.Ma
set_option maxRecDepth 20000

theorem Nm.one {c : Nat} (h : c < 4294967296) : Nm [c] c 1 := ⟨Lim.one h, val_one _ _, Nat.le_refl _⟩
end Go.Proofs.YtanchgkiomfhhaaDoor.Fw

/- The number of a decimal text, and back. -/
namespace Go.Proofs.YtanchgkiomfhhaaDoor.Ma
set_option linter.unusedSimpArgs false
set_option linter.unusedVariables false

def decF (v : Nat) (l : List UInt8) : Nat := l.foldl (fun v b => 10 * v + (b.toNat - 48)) v
def decV (l : List UInt8) : Nat := decF 0 l
def isDig (b : UInt8) : Prop := 48 ≤ b.toNat ∧ b.toNat ≤ 57
def Good (l : List UInt8) : Prop := l ≠ [] ∧ (∀ b, b ∈ l → isDig b) ∧ (l.length = 1 ∨ (l.getD 0 0).toNat ≠ 48)
theorem good_decT (n : Nat) : Good (decT n) := by
  unfold decT
  split
  · exact ⟨by simp, by simp [isDig], .inl rfl⟩
  · rename_i h
    have hn : 0 < n := by omega
    refine ⟨dec_pos hn, fun b hb => ?_, .inr ?_⟩
    · unfold dec at hb
      obtain ⟨x, hx, rfl⟩ := List.mem_map.1 hb
      have := lim_digs (B := 10) (by omega) n x (List.mem_reverse.1 hx)
      unfold isDig; rw [chr_nat this]; omega
    · have hl := digs_last (B := 10) (by omega) hn
      have hne : digs 10 n ≠ [] := fun e => by have := (digs_nil (B := 10) (by omega)).1 e; omega
      obtain ⟨l, x, hx⟩ : ∃ l x, digs 10 n = l ++ [x] := ⟨_, _, (List.dropLast_concat_getLast hne).symm⟩
      have hx0 : x ≠ 0 := by
        rw [hx, last_append (by simp)] at hl
        simpa using hl
      have hx10 : x < 10 := lim_digs (B := 10) (by omega) n x (by rw [hx]; simp)
      have : dec n = chr x :: l.reverse.map chr := by simp [dec, hx]
      rw [this]
      show (chr x).toNat ≠ 48
      rw [chr_nat hx10]; omega
def badAt (l : List UInt8) (i : Nat) : Prop := (l.getD i 0).toNat < 48 ∨ 57 < (l.getD i 0).toNat ∨ (0 < i ∧ (l.getD 0 0).toNat = 48)
end Go.Proofs.YtanchgkiomfhhaaDoor.Ma

/- A text read, as package limb reads it. -/
namespace Go.Proofs.YtanchgkiomfhhaaDoor.Fw
set_option linter.unusedSimpArgs false
set_option linter.unusedVariables false
open Go Go.Proofs.YtanchgkiomfhhaaDoor.Ma
set_option maxRecDepth 20000

def spot (e a : Nat) : AV := .agg [.int .i64 (e : Int), .int .i64 (a : Int)]
theorem rng_Sx {H : AHeap} {l : List UInt8} {K : AV → AHeap → Prop} : rngW H (Sx l) K = rngS H ⟨l.toArray⟩ K := id rfl
theorem byte_Sx {l : List UInt8} {i : Nat} : byteAt ⟨l.toArray⟩ i = (l.getD i 0).toNat := by simp [byteAt]
theorem nxt_Sl {H : AHeap} {b pos : Nat} {l : List UInt8} {K : AV → AHeap → Prop} (h : pos < l.length) (hb : (l.getD pos 0).toNat < 128) : nxtP H b K (some (.raw (.stringIter ⟨l.toArray⟩ pos))) = K (.tup [.bool true, .int .i64 (pos : Int), .int .i32 (((l.getD pos 0).toNat : Nat) : Int)]) (H.upd b (some (.raw (.stringIter ⟨l.toArray⟩ (pos + 1))))) := by
  rw [nxt_lt (by rw [size_Sx]; exact h) (by rw [byte_Sx]; exact hb), byte_Sx]
theorem nxt_Sg {H : AHeap} {b pos : Nat} {l : List UInt8} {K : AV → AHeap → Prop} (h : l.length ≤ pos) : nxtP H b K (some (.raw (.stringIter ⟨l.toArray⟩ pos))) = K (.tup [.bool false]) H := nxt_ge (by rw [size_Sx]; exact h)
theorem wn_i32 {n : Nat} (h : n < 2147483648) : IntKind.i32.wrap (n : Int) = (n : Int) := by
  unfold IntKind.wrap; simp only [IntKind.bits, IntKind.signed, Bool.true_and, decide_eq_true_eq, ge_iff_le]; split <;> omega
def ReadR (l : List UInt8) (r : AV) : Prop :=
  (65536 < l.length ∧ r = .tup [LS [] true, spot 3 65536]) ∨ (l = [] ∧ r = .tup [LS [] true, spot 6 0]) ∨
  (l.length ≤ 65536 ∧ ∃ i, i < l.length ∧ badAt l i ∧ (∀ j, j < i → ¬ badAt l j) ∧ r = .tup [LS [] true, spot 6 i]) ∨
  (l.length ≤ 65536 ∧ Good l ∧ r = .tup [LS (Ma.digs 4294967296 (decV l)) true, spot 0 0])
end Go.Proofs.YtanchgkiomfhhaaDoor.Fw

/- A number's digits gone over, as package limb tells them. -/
namespace Go.Proofs.YtanchgkiomfhhaaDoor.Fw
set_option linter.unusedSimpArgs false
set_option linter.unusedVariables false
open Go Go.Proofs.YtanchgkiomfhhaaDoor.Ma
set_option maxRecDepth 20000

theorem cW_y {P : Program} {b : Nat} {args : List AV} {H : AHeap} {K : AV → AHeap → Prop} : callW P (.yld b) args H K = YieldW P b args H K := id rfl
theorem load_cS {H : AHeap} {l : List UInt8} {K : AV → Prop} : loadW H none (.cptr [Sx l]) K = K (Sx l) := by simp [loadW, cellsAt, Sx]
theorem digits1_iter {l : List UInt8} (hg : ∀ b, b ∈ l → isDig b) (hl : l.length < 4611686018427387904) : IterW Tryd.prog 191 [.cptr [Sx l]] (fun d : Nat => [.int .i64 (d : Int)]) (l.map fun b => b.toNat - 48) := by
  intro b J Jx hy A B hd h0
  refine enter191 (by simp) ?_
  simp (disch := first | assumption | (apply Ap.symm; assumption) | omega | decide | (simp only [Xd] <;> omega)) only [ac191, rng_Sx, load_cS, ↓Xa, Xb, Xc, ↓reduceIte, Nat.reduceLT, Nat.reduceEqDiff, Nat.reduceBEq, Nat.reduceLeDiff, Nat.reduceAdd, Nat.reduceMul]
  refine rng_i fun q hq => ?_
  obtain ⟨qa, qb⟩ := un_none.1 hq
  simp (disch := first | assumption | (apply Ap.symm; assumption) | omega | decide | (simp only [Xd] <;> omega)) only [↓Xa, Xb, Xc, ↓reduceIte, Nat.reduceLT, Nat.reduceEqDiff, Nat.reduceBEq, Nat.reduceLeDiff, Nat.reduceAdd, Nat.reduceMul]
  refine W_loop (fun s : Nat × AHeap => ⟨[], [(0, .yld b), (6, .ptr q 0 0)], (Un s.2 B).upd q (some (.raw (.stringIter ⟨l.toArray⟩ s.1)))⟩) (fun s => s.1 ≤ l.length ∧ Dj s.2 B ∧ s.2 q = none ∧ J ((l.map fun b => b.toNat - 48).take s.1) s.2) (fun s => l.length - s.1) (0, A) (Settle.now rfl) ⟨Nat.zero_le _, hd, qa, by simpa using h0⟩ ?_
  rintro ⟨i, A1⟩ ⟨hi, hd1, hq1, hj⟩
  dsimp only at hi hd1 hq1 hj ⊢
  by_cases h : i < l.length
  · have hdg := hg _ (List.getElem_mem h)
    have eg : l.getD i 0 = l[i] := by rw [List.getD_eq_getElem?_getD, List.getElem?_eq_getElem h, Option.getD_some]
    rw [← eg] at hdg
    unfold isDig at hdg
    have h128 : (l.getD i 0).toNat < 128 := by omega
    have hx : (l.map fun b => b.toNat - 48) = (l.map fun b => b.toNat - 48).take i ++ ((l.getD i 0).toNat - 48) :: (l.map fun b => b.toNat - 48).drop (i + 1) := by
      conv => lhs; rw [← List.take_append_drop i (l.map fun b => b.toNat - 48)]
      rw [List.drop_eq_getElem_cons (by simpa using h), List.getElem_map, eg]
    have hx2 : (l.map fun b => b.toNat - 48).take (i + 1) = (l.map fun b => b.toNat - 48).take i ++ [(l.getD i 0).toNat - 48] := by
      rw [List.take_add_one, List.getElem?_map, List.getElem?_eq_getElem h, eg]; rfl
    simp (disch := first | assumption | (apply Ap.symm; assumption) | omega | decide | (simp only [Xd] <;> omega)) only [nxt_Sl, wn_i32, cW_y, ↓Xa, Xb, Xc, ↓reduceIte, Nat.reduceLT, Nat.reduceEqDiff, Nat.reduceBEq, Nat.reduceLeDiff, Nat.reduceAdd, Nat.reduceMul]
    rw [← un_updR hq1]
    refine (hy _ _ _ A1 (B.upd q (some (.raw (.stringIter ⟨l.toArray⟩ (i + 1))))) hx (dj_updR hd1 hq1) hj).mono ?_
    rintro r H' ⟨A2, hd2, rfl, (⟨rfl, hj2⟩ | ⟨rfl, hj2⟩)⟩
    · have hq2 : A2 q = none := dj_atR hd2 (upd_same _ _ _)
      rw [un_updR hq2]
      simp (disch := first | assumption | (apply Ap.symm; assumption) | omega | decide | (simp only [Xd] <;> omega)) only [↓Xa, Xb, Xc, ↓reduceIte, Nat.reduceLT, Nat.reduceEqDiff, Nat.reduceBEq, Nat.reduceLeDiff, Nat.reduceAdd, Nat.reduceMul]
      refine Settle.keep [0, 6] ⟨(i + 1, A2), by dsimp only; omega, ⟨by dsimp only; omega, ?_, hq2, by dsimp only; rw [hx2]; exact hj2⟩, rfl⟩
      intro k
      by_cases e : k = q
      · subst e; exact .inl hq2
      · have := hd2 k
        rwa [upd_other _ _ e] at this
    · have hq2 : A2 q = none := dj_atR hd2 (upd_same _ _ _)
      have hd3 : Dj A2 B := fun k => by
        by_cases e : k = q
        · subst e; exact .inl hq2
        · have := hd2 k
          rwa [upd_other _ _ e] at this
      rw [un_updR hq2]
      simp (disch := first | assumption | (apply Ap.symm; assumption) | omega | decide | (simp only [Xd] <;> omega)) only [rs191, ↓Xa, Xb, Xc, ↓reduceIte, Nat.reduceLT, Nat.reduceEqDiff, Nat.reduceBEq, Nat.reduceLeDiff, Nat.reduceAdd, Nat.reduceMul]
      refine SetR.dropTo ((Le.refl _).upd (un_none.2 ⟨hq2, qb⟩)) (SetR.now ⟨A2, hd3, rfl, .inr hj2⟩)
  · obtain rfl : i = l.length := by omega
    simp (disch := first | assumption | (apply Ap.symm; assumption) | omega | decide | (simp only [Xd] <;> omega)) only [nxt_Sg, ↓Xa, Xb, Xc, ↓reduceIte, Nat.reduceLT, Nat.reduceEqDiff, Nat.reduceBEq, Nat.reduceLeDiff, Nat.reduceAdd, Nat.reduceMul]
    refine Settle.now ?_
    simp (disch := first | assumption | (apply Ap.symm; assumption) | omega | decide | (simp only [Xd] <;> omega)) only [rs191, ↓Xa, Xb, Xc, ↓reduceIte, Nat.reduceLT, Nat.reduceEqDiff, Nat.reduceBEq, Nat.reduceLeDiff, Nat.reduceAdd, Nat.reduceMul]
    rw [List.take_of_length_le (by simp)] at hj
    refine SetR.dropTo ((Le.refl _).upd (un_none.2 ⟨hq1, qb⟩)) (SetR.now ⟨A1, hd1, rfl, .inl hj⟩)
theorem digits_fn {l : List Nat} (t : Bool) (hl : Lim 4294967296 l) (hn : l.length ≤ 1099511627776) : PFn Tryd.prog 132 [LS l t] (.fn (.func 191) [] [.cptr [Sx (decT (val 4294967296 l))]]) := by
  intro H Q hq
  refine enter132 (by simp) ?_
  simp (disch := first | assumption | (apply Ap.symm; assumption) | omega | decide | (simp only [Xd] <;> omega)) only [ac132, ↓Xa, Xb, Xc, ↓reduceIte, Nat.reduceLT, Nat.reduceEqDiff, Nat.reduceBEq, Nat.reduceLeDiff, Nat.reduceAdd, Nat.reduceMul]
  refine (text_fn t hl hn).call ?_
  simp (disch := first | assumption | (apply Ap.symm; assumption) | omega | decide | (simp only [Xd] <;> omega)) only [↓Xa, Xb, Xc, ↓reduceIte, Nat.reduceLT, Nat.reduceEqDiff, Nat.reduceBEq, Nat.reduceLeDiff, Nat.reduceAdd, Nat.reduceMul]
  refine alloc_i fun p1 hp1 => ?_
  have n1 := hp1
  simp (disch := first | assumption | (apply Ap.symm; assumption) | omega | decide | (simp only [Xd] <;> omega)) only [cells_Sx, rs132, ↓Xa, Xb, Xc, ↓reduceIte, Nat.reduceLT, Nat.reduceEqDiff, Nat.reduceBEq, Nat.reduceLeDiff, Nat.reduceAdd, Nat.reduceMul]
  refine SetR.frzP p1 (upd_same _ _ _) ?_
  rw [upd_upd, upd_back _ n1]
  simp [frzP, frzP1]
  exact SetR.now hq
end Go.Proofs.YtanchgkiomfhhaaDoor.Fw

/- A whole number's text, as package integer tells it. -/
namespace Go.Proofs.YtanchgkiomfhhaaDoor.Fw
set_option linter.unusedSimpArgs false
set_option linter.unusedVariables false
open Go Go.Proofs.YtanchgkiomfhhaaDoor.Ma
set_option maxRecDepth 20000

def iText (z : Int) : List UInt8 := (if z < 0 then [45] else []) ++ decT z.natAbs
theorem Bt_app (l m : List UInt8) : Bt (l ++ m) = Bt l ++ Bt m := by simp [Bt]
theorem Bt_one {n : Nat} (h : n < 256) : [AV.int .u8 (n : Int)] = Bt [UInt8.ofNat n] := by
  simp only [Bt, List.map_cons, List.map_nil]
  rw [UInt8.toNat_ofNat', Nat.mod_eq_of_lt (by omega)]
theorem decT_len {n k : Nat} (h : n < 10 ^ k) (hk : 0 < k) : (decT n).length ≤ k := by
  unfold decT; split
  · simp; omega
  · exact dec_len h
theorem decT_bd {x : Int} {k : Nat} (hx : Bd k x) : (decT x.natAbs).length ≤ 10 * k + 1 := by
  refine decT_len (Nat.lt_of_lt_of_le hx ?_) (by omega)
  calc 4294967296 ^ k ≤ (10 ^ 10) ^ k := Nat.pow_le_pow_left (by omega) k
    _ = 10 ^ (10 * k) := by rw [Nat.pow_mul]
    _ ≤ 10 ^ (10 * k + 1) := Nat.pow_le_pow_right (by omega) (by omega)
theorem wn_u8' {n : Nat} (h : n < 256) : IntKind.u8.wrap (n : Int) = (n : Int) := by
  unfold IntKind.wrap; simp only [IntKind.bits, IntKind.signed, Bool.false_and, Bool.false_eq_true, if_false]; omega
theorem isDig_chr {b : UInt8} (h : isDig b) : UInt8.ofNat (48 + (b.toNat - 48)) = b := by
  unfold isDig at h
  rw [show 48 + (b.toNat - 48) = b.toNat by omega]; exact UInt8.ofNat_toNat
theorem b2s_B {H0 H : AHeap} {p tb ty : Nat} {l : List UInt8} (h : growB H0 p tb ty 1 l.length (Bt l) H) : ∃ x, H p = some (.row tb 0 [x]) ∧ AV.cells x = some [x] ∧ ∀ H' K, Le H H' → K (Sx l) → b2sW H' x K := by
  obtain ⟨x, hx, hc, _⟩ := growB_get h
  refine ⟨x, hx, ?_, ?_⟩
  · rcases hc with ⟨rfl, _, _⟩ | ⟨_, _, b, rfl, _⟩ <;> rfl
  · intro H' K hle k
    rcases hc with ⟨rfl, h0, hc⟩ | ⟨hn, hl, b, rfl, hb⟩
    · have : l = [] := List.eq_nil_of_length_eq_zero h0
      subst this
      exact ⟨rfl, k⟩
    · rw [Nat.mul_one, b2s_own, hle _ _ hb]
      refine ⟨by simp [Bt_len], rfl, by omega, ?_⟩
      rw [List.drop_zero, List.take_of_length_le (by simp [Bt_len]), bytesOf_Bt]
      exact k
def chD (d : Nat) : UInt8 := UInt8.ofNat (48 + d)
theorem chD_back : ∀ {l : List UInt8}, (∀ b, b ∈ l → isDig b) → (l.map fun b => b.toNat - 48).map chD = l := by
  intro l h
  rw [List.map_map]
  conv => rhs; rw [← List.map_id l]
  exact List.map_congr_left fun b hb => isDig_chr (h b hb)
theorem itext_fn {x : Int} {k : Nat} (hx : Bd k x) (hk : k ≤ 1000000) : PFn Tryd.prog 28 [IntA x] (Sx (iText x)) := by
  intro H Q hq
  have hdl := hx.len
  have hdt := decT_bd hx
  have hgd := good_decT x.natAbs
  refine enter28 (by simp) ?_
  simp (disch := first | assumption | (apply Ap.symm; assumption) | omega | decide | (simp only [Xd] <;> omega)) only [ac28, IntA, ↓Xa, Xb, Xc, ↓reduceIte, Nat.reduceLT, Nat.reduceEqDiff, Nat.reduceBEq, Nat.reduceLeDiff, Nat.reduceAdd, Nat.reduceMul]
  refine alloc_i fun p1 hp1 => ?_
  have n1 := hp1
  simp (disch := first | assumption | (apply Ap.symm; assumption) | omega | decide | (simp only [Xd] <;> omega)) only [↓Xa, Xb, Xc, ↓reduceIte, Nat.reduceLT, Nat.reduceEqDiff, Nat.reduceBEq, Nat.reduceLeDiff, Nat.reduceAdd, Nat.reduceMul]
  refine alloc_i fun p2 hp2 => ?_
  have n2 := hp2
  simp only [upd_none] at n2
  obtain ⟨_, n2⟩ := n2
  obtain ⟨neg, hneg⟩ : ∃ b, b = decide (x < 0) := ⟨_, rfl⟩
  rw [← hneg] at hp2 ⊢
  have tail : ∀ (pre : List UInt8) (H2 : AHeap) (v : Env), (v = [] ∨ v = [(6, .bool false)]) → pre.length ≤ 1 → pre ++ decT x.natAbs = iText x → growB (H.upd p1 (some (.row 28 0 [.bool neg, LS (digs 4294967296 x.natAbs) true]))) p2 103 5 1 pre.length (Bt pre) H2 →
      W Tryd.prog (sndC (sndC (sndC ac28))) (retN rs28 Q) ⟨[], [(1, .ptr p1 2 0), (2, Sx []), (3, .ptr p2 1 0)] ++ v, H2⟩ := by
    intro pre H2 v hv hp1 hpre hg
    have h1 : H2 p1 = some (.row 28 0 [.bool neg, LS (digs 4294967296 x.natAbs) true]) := by
      obtain ⟨_, _, _, hle⟩ := growB_get hg
      exact hle _ _ (upd_same _ _ _)
    rcases hv with rfl | rfl
    all_goals
     simp (disch := first | assumption | (apply Ap.symm; assumption) | omega | decide | (simp only [Xd] <;> omega)) only [sndC, ac28, h1, ↓Xa, Xb, Xc, ↓reduceIte, Nat.reduceLT, Nat.reduceEqDiff, Nat.reduceBEq, Nat.reduceLeDiff, Nat.reduceAdd, Nat.reduceMul]
     refine (digits_fn true (lim_digs (by omega) _) (by omega)).call ?_
     rw [val_digs (by omega)]
     simp (disch := first | assumption | (apply Ap.symm; assumption) | omega | decide | (simp only [Xd] <;> omega)) only [↓Xa, Xb, Xc, ↓reduceIte, Nat.reduceLT, Nat.reduceEqDiff, Nat.reduceBEq, Nat.reduceLeDiff, Nat.reduceAdd, Nat.reduceMul]
     obtain ⟨A, hd, rfl, hgA⟩ := growB_nu hg
     have hle : Le H (H.upd p1 (some (.row 28 0 [.bool neg, LS (digs 4294967296 x.natAbs) true]))) := (Le.refl H).upd n1
     refine rfn_iter (digits1_iter (fun b hb => hgd.2.1 b hb) (by omega)) (fun _ => rfl) (fun ds A => growB nilH p2 103 5 1 (pre ++ ds.map chD).length (Bt (pre ++ ds.map chD)) A) (fun _ _ => False) A _ hd rfl (by simpa using hgA) ?_ ?_ (fun _ _ _ _ _ _ h => h.elim)
     · intro ds d rest A B hds hdj hj R1 k1
       have hlen := congrArg List.length hds
       have hd10 : d < 10 := by
         have : d ∈ ((decT x.natAbs).map fun b => b.toNat - 48) := by rw [hds]; simp
         obtain ⟨b, hb, rfl⟩ := List.mem_map.1 this
         have := hgd.2.1 b hb
         unfold isDig at this; omega
       simp (disch := first | assumption | (apply Ap.symm; assumption) | omega | decide | (simp only [Xd] <;> omega)) only [setps, ↓Xa, Xb, Xc, ↓reduceIte, Nat.reduceLT, Nat.reduceEqDiff, Nat.reduceBEq, Nat.reduceLeDiff, Nat.reduceAdd, Nat.reduceMul]
       refine k1 _ A hdj fun R2 B1 k2 hd1 => ?_
       obtain ⟨y, hy, happ⟩ := growB_app (m := 1) (bytes := 1) (growB_un hj hd1)
       have e1 : IntKind.i64.wrap ((48 : Nat) + (d : Int)) = ((48 + d : Nat) : Int) := by rw [← Int.natCast_add]; exact wn_i64 (by omega)
       simp (disch := first | assumption | (apply Ap.symm; assumption) | omega | decide | (simp only [Xd] <;> omega)) only [hy, wn_u8', ↓Xa, Xb, Xc, ↓reduceIte, Nat.reduceLT, Nat.reduceEqDiff, Nat.reduceBEq, Nat.reduceLeDiff, Nat.reduceAdd, Nat.reduceMul]
       refine happ rfl rfl (by omega) ?_ ?_ fun x' H' hp hc hg2 => ?_
       · simp at hlen ⊢; omega
       · simp at hlen ⊢; omega
       simp (disch := first | assumption | (apply Ap.symm; assumption) | omega | decide | (simp only [Xd] <;> omega)) only [hp, hc, ↓Xa, Xb, Xc, ↓reduceIte, Nat.reduceLT, Nat.reduceEqDiff, Nat.reduceBEq, Nat.reduceLeDiff, Nat.reduceAdd, Nat.reduceMul]
       refine k2 .normal _ (Settle.now (growB_nu ?_))
       have e : pre ++ (ds ++ [d]).map chD = (pre ++ ds.map chD) ++ [chD d] := by simp
       dsimp only
       rw [e, List.length_append, Bt_app, show Bt [chD d] = [AV.int .u8 ((48 + d : Nat) : Int)] from (Bt_one (by omega)).symm]
       exact hg2
     · intro d A' hdj hA hB hj
       rw [chD_back hgd.2.1, hpre] at hj
       have hj2 := growB_un hj hdj
       obtain ⟨y, hy, hyc, hb2⟩ := b2s_B hj2
       obtain ⟨_, _, _, hle2⟩ := growB_get hj2
       have hdn := un_none.2 ⟨hA, hB⟩
       have hy2 : ((Un A' (H.upd p1 (some (.row 28 0 [.bool neg, LS (digs 4294967296 x.natAbs) true])))).upd d (some (.raw (.deferred (some []))))) p2 = some (.row 103 0 [y]) := by
         rw [upd_other _ _ (by rintro rfl; rw [hdn] at hy; cases hy)]; exact hy
       simp (disch := first | assumption | (apply Ap.symm; assumption) | omega | decide | (simp only [Xd] <;> omega)) only [hy2, ↓Xa, Xb, Xc, ↓reduceIte, Nat.reduceLT, Nat.reduceEqDiff, Nat.reduceBEq, Nat.reduceLeDiff, Nat.reduceAdd, Nat.reduceMul]
       refine hb2 _ _ ((Le.refl _).upd hdn) ?_
       simp (disch := first | assumption | (apply Ap.symm; assumption) | omega | decide | (simp only [Xd] <;> omega)) only [rs28, ↓Xa, Xb, Xc, ↓reduceIte, Nat.reduceLT, Nat.reduceEqDiff, Nat.reduceBEq, Nat.reduceLeDiff, Nat.reduceAdd, Nat.reduceMul]
       rw [upd_back _ hdn]
       exact SetR.dropTo (fun b x hb => hle2 _ _ (hle _ _ hb)) (SetR.now hq)
  have g0 := growB_nil (H0 := H.upd p1 (some (.row 28 0 [.bool neg, LS (digs 4294967296 x.natAbs) true]))) (tb := 103) (ty := 5) (es := 1) hp2
  cases neg with
  | true =>
    simp (disch := first | assumption | (apply Ap.symm; assumption) | omega | decide | (simp only [Xd] <;> omega)) only [↓Xa, Xb, Xc, ↓reduceIte, Nat.reduceLT, Nat.reduceEqDiff, Nat.reduceBEq, Nat.reduceLeDiff, Nat.reduceAdd, Nat.reduceMul]
    obtain ⟨y, hy, happ⟩ := growB_app (m := 1) (bytes := 1) g0
    obtain rfl : y = .seq 0 [] true := by rw [upd_same] at hy; injection hy with hy; injection hy with _ _ hy; injection hy with hy; exact hy.symm
    refine happ (by rfl) (by rfl) (by omega) (by omega) (by omega) fun x' H' hp hc hg2 => ?_
    simp (disch := first | assumption | (apply Ap.symm; assumption) | omega | decide | (simp only [Xd] <;> omega)) only [hp, hc, ↓Xa, Xb, Xc, ↓reduceIte, Nat.reduceLT, Nat.reduceEqDiff, Nat.reduceBEq, Nat.reduceLeDiff, Nat.reduceAdd, Nat.reduceMul]
    have tl := tail [45] _ [] (.inl rfl) (by simp) (by simp [iText, of_decide_eq_true hneg.symm]) hg2
    simp (disch := first | assumption | (apply Ap.symm; assumption) | omega | decide | (simp only [Xd] <;> omega)) only [sndC, ac28, ↓Xa, Xb, Xc, ↓reduceIte, Nat.reduceLT, Nat.reduceEqDiff, Nat.reduceBEq, Nat.reduceLeDiff, Nat.reduceAdd, Nat.reduceMul] at tl
    exact tl
  | false =>
    have tl := tail [] _ _ (.inr rfl) (by simp) (by simp [iText, of_decide_eq_false hneg.symm]) g0
    simp (disch := first | assumption | (apply Ap.symm; assumption) | omega | decide | (simp only [Xd] <;> omega)) only [sndC, ac28, ↓Xa, Xb, Xc, ↓reduceIte, Nat.reduceLT, Nat.reduceEqDiff, Nat.reduceBEq, Nat.reduceLeDiff, Nat.reduceAdd, Nat.reduceMul] at tl
    simp (disch := first | assumption | (apply Ap.symm; assumption) | omega | decide | (simp only [Xd] <;> omega)) only [↓Xa, Xb, Xc, ↓reduceIte, Nat.reduceLT, Nat.reduceEqDiff, Nat.reduceBEq, Nat.reduceLeDiff, Nat.reduceAdd, Nat.reduceMul]
    exact tl
end Go.Proofs.YtanchgkiomfhhaaDoor.Fw

/- A whole number's text read, as package integer and as its reference read it. -/
namespace Go.Proofs.YtanchgkiomfhhaaDoor.Fw
set_option linter.unusedSimpArgs false
set_option linter.unusedVariables false
open Go Go.Proofs.YtanchgkiomfhhaaDoor.Ma
set_option maxRecDepth 20000

def iFrom (l : List UInt8) : Nat := if (l.getD 0 0).toNat = 45 then 1 else 0
def iBad (l : List UInt8) (i : Nat) : Prop := (l.getD i 0).toNat < 48 ∨ 57 < (l.getD i 0).toNat ∨ (i = iFrom l + 1 ∧ (l.getD (iFrom l) 0).toNat = 48) ∨ (i = iFrom l ∧ iFrom l = 1 ∧ (l.getD i 0).toNat = 48)
def IsAt (l : List UInt8) (p : Nat) : Prop := iFrom l ≤ p ∧ p ≤ l.length ∧ iBad l p ∧ ∀ j, iFrom l ≤ j → j < p → ¬ iBad l j
def iVal (l : List UInt8) : Int := sg (decide (iFrom l = 1)) (decV (l.drop (iFrom l)))
def iReadA (l : List UInt8) (p : Nat) : AV :=
  if 65536 < l.length then .tup [IntA 0, spot 3 65536] else if p = iFrom l ∨ p < l.length then .tup [IntA 0, spot 6 p] else .tup [IntA (iVal l), spot 0 0]
end Go.Proofs.YtanchgkiomfhhaaDoor.Fw

/- A whole number's text, as the reference of layer 2 reads it. -/
namespace Go.Proofs.YtanchgkiomfhhaaDoor.Fw
set_option linter.unusedSimpArgs false
set_option linter.unusedVariables false
open Go Go.Proofs.YtanchgkiomfhhaaDoor.Ma
set_option maxRecDepth 20000

def rReadA (l : List UInt8) (p : Nat) : AV := if p = iFrom l ∨ p < l.length then .tup [RefA 0 true, .int .i64 (p : Int)] else .tup [RefA (iVal l) false, .int .i64 (-1)]
end Go.Proofs.YtanchgkiomfhhaaDoor.Fw

/- A whole number's text, as the reference of layer 2 tells it. -/
namespace Go.Proofs.YtanchgkiomfhhaaDoor.Fw
set_option linter.unusedSimpArgs false
set_option linter.unusedVariables false
open Go Go.Proofs.YtanchgkiomfhhaaDoor.Ma
set_option maxRecDepth 20000

def revI (i : Nat) (l : List UInt8) : List UInt8 := (List.range l.length).map fun j => if j < i ∨ l.length - i ≤ j then l.getD (l.length - 1 - j) 0 else l.getD j 0
end Go.Proofs.YtanchgkiomfhhaaDoor.Fw

/- Rows of whole numbers: what the functions that read them answer, the program's and the reference's. -/
namespace Go.Proofs.YtanchgkiomfhhaaDoor.Fw
set_option linter.unusedSimpArgs false
set_option linter.unusedVariables false
open Go Go.Proofs.YtanchgkiomfhhaaDoor.Ma
set_option maxRecDepth 20000

abbrev RowA (zs : List Int) (t : Bool) : AV := .seq zs.length (IC zs) t
def RC (zs : List Int) : List AV := zs.flatMap fun z => [RefB z, RefD z]
abbrev RefR (zs : List Int) (t : Bool) : AV := .seq zs.length (RC zs) t
theorem RC_len (zs : List Int) : (RC zs).length = zs.length * 2 := by
  induction zs with
  | nil => rfl
  | cons a l ih => simp only [RC, List.flatMap_cons, List.length_append, List.length_cons, List.length_nil] at *; omega
theorem RC_snoc (zs : List Int) (z : Int) : RC (zs ++ [z]) = RC zs ++ [RefB z, RefD z] := by simp [RC, List.flatMap_append]
theorem RC_drop : ∀ (l : List Int) (i : Nat) (h : i < l.length), (RC l).drop (i * 2) = RefB (l[i]) :: RefD (l[i]) :: (RC l).drop (i * 2 + 2)
  | a :: l, 0, _ => rfl
  | a :: l, i + 1, h => by
    have := RC_drop l i (by simpa using h)
    rw [show (i + 1) * 2 = i * 2 + 2 by omega]
    show ((RefB a :: RefD a :: RC l).drop (i * 2 + 2)) = _
    simp only [List.drop_succ_cons, List.getElem_cons_succ]
    rw [this]
    show _ = _ :: _ :: ((RefB a :: RefD a :: RC l).drop (i * 2 + 2 + 2))
    simp only [List.drop_succ_cons]
section
variable {K : AV → Prop} {H : AHeap} {k : IntKind} {t : Bool} {zs : List Int} {i : Nat}
theorem idx_IC (h : i < zs.length) : idxAW 2 (.seq zs.length (IC zs) t) (.int k (i : Int)) K = K (.cptr ((IC zs).drop (i * 2))) := idx_rw (IC_len zs) h
theorem idx_RC (h : i < zs.length) : idxAW 2 (.seq zs.length (RC zs) t) (.int k (i : Int)) K = K (.cptr ((RC zs).drop (i * 2))) := idx_rw (RC_len zs) h
theorem load_IC (h : i < zs.length) : loadW H (some 2) (.cptr ((IC zs).drop (i * 2))) K = K (IntA (zs[i])) := by
  simp only [loadW, cellsAt, IC_drop zs i h]; simp [IntA_eq]
theorem load_RC (h : i < zs.length) : loadW H (some 2) (.cptr ((RC zs).drop (i * 2))) K = K (RefA (zs[i]) false) := by
  simp only [loadW, cellsAt, RC_drop zs i h]; simp [RefA, RefB, RefD]
end
def RB4 (k : Nat) (zs : List Int) : Prop := (∀ z, z ∈ zs → Bd k z) ∧ zs.length < 4611686018427387904
theorem RB4.at {k : Nat} {zs : List Int} (h : RB4 k zs) {i : Nat} (hi : i < zs.length) : Bd k (zs[i]) := h.1 _ (List.getElem_mem hi)

theorem rowc_fn {zs ws : List Int} {t t' : Bool} {k : Nat} (hz : RB4 k zs) (hw : RB4 k ws) (hk : k ≤ 1000000) : PFn Tryd.prog 63 [RowA zs t, RowA ws t'] (.int .i64 (cmpR zs ws)) := by
  intro H Q hq
  have nz : zs.length < 9223372036854775808 := by have := hz.2; omega
  have nw : ws.length < 9223372036854775808 := by have := hw.2; omega
  refine enter63 (by simp) ?_
  by_cases h1 : zs.length < ws.length
  · have e : cmpR zs ws = -1 := by unfold cmpR; rw [if_pos h1]
    rw [e] at hq
    simp (disch := first | assumption | (apply Ap.symm; assumption) | omega | decide | (simp only [Xd] <;> omega)) only [ac63, len_rw, h1, rs63, ↓Xa, Xb, Xc, ↓reduceIte, Nat.reduceLT, Nat.reduceEqDiff, Nat.reduceBEq, Nat.reduceLeDiff, Nat.reduceAdd, Nat.reduceMul]
    exact SetR.now hq
  by_cases h2 : ws.length < zs.length
  · have e : cmpR zs ws = ((1 : Nat) : Int) := by unfold cmpR; rw [if_neg h1, if_pos h2]
    rw [e] at hq
    simp (disch := first | assumption | (apply Ap.symm; assumption) | omega | decide | (simp only [Xd] <;> omega)) only [ac63, len_rw, h1, h2, rs63, ↓Xa, Xb, Xc, ↓reduceIte, Nat.reduceLT, Nat.reduceEqDiff, Nat.reduceBEq, Nat.reduceLeDiff, Nat.reduceAdd, Nat.reduceMul]
    exact SetR.now hq
  have e : cmpR zs ws = cmpL zs ws := by unfold cmpR; rw [if_neg h1, if_neg h2]
  rw [e] at hq
  simp (disch := first | assumption | (apply Ap.symm; assumption) | omega | decide | (simp only [Xd] <;> omega)) only [ac63, len_rw, h1, h2, ↓Xa, Xb, Xc, ↓reduceIte, Nat.reduceLT, Nat.reduceEqDiff, Nat.reduceBEq, Nat.reduceLeDiff, Nat.reduceAdd, Nat.reduceMul]
  refine W_loop (fun s : Nat × AHeap => ⟨[], [(1, RowA ws t'), (20, RowA zs t), (21, .int .i64 (zs.length : Int)), (22, .int .i64 s.1)], s.2⟩) (fun s => s.1 ≤ zs.length ∧ Le H s.2 ∧ cmpL (zs.drop s.1) (ws.drop s.1) = cmpL zs ws) (fun s => zs.length - s.1) (0, H) (Settle.now rfl) ⟨Nat.zero_le _, Le.refl H, rfl⟩ ?_
  rintro ⟨i, G⟩ ⟨h3, hG, hc⟩
  dsimp only at h3 hG hc ⊢
  by_cases hi : i < zs.length
  · have hi2 : i < ws.length := by omega
    rw [List.drop_eq_getElem_cons hi, List.drop_eq_getElem_cons hi2, cmpL] at hc
    simp (disch := first | assumption | (apply Ap.symm; assumption) | omega | decide | (simp only [Xd] <;> omega)) only [hi, idx_IC, load_IC, ↓Xa, Xb, Xc, ↓reduceIte, Nat.reduceLT, Nat.reduceEqDiff, Nat.reduceBEq, Nat.reduceLeDiff, Nat.reduceAdd, Nat.reduceMul]
    refine alloc_i fun q hq1 => ?_
    simp (disch := first | assumption | (apply Ap.symm; assumption) | omega | decide | (simp only [Xd] <;> omega)) only [cells_IntA, fold_IntA, hi2, idx_IC, load_IC, ↓Xa, Xb, Xc, ↓reduceIte, Nat.reduceLT, Nat.reduceEqDiff, Nat.reduceBEq, Nat.reduceLeDiff, Nat.reduceAdd, Nat.reduceMul]
    refine (cmpi_fn (hz.at hi) (by omega) (hw.at hi2) (by omega)).call ?_
    by_cases h0 : cmpI (zs[i]) (ws[i]) = ((0 : Nat) : Int)
    · rw [if_pos (by simpa using h0)] at hc
      simp (disch := first | assumption | (apply Ap.symm; assumption) | omega | decide | (simp only [Xd] <;> omega)) only [neq_int, decide_eq_true h0, ↓Xa, Xb, Xc, ↓reduceIte, Nat.reduceLT, Nat.reduceEqDiff, Nat.reduceBEq, Nat.reduceLeDiff, Nat.reduceAdd, Nat.reduceMul]
      exact Settle.now ⟨(i + 1, _), by dsimp only; omega, ⟨by dsimp only; omega, hG.updB (hG.none hq1), hc⟩, rfl⟩
    · rw [if_neg (by simpa using h0)] at hc
      rw [← hc] at hq
      simp (disch := first | assumption | (apply Ap.symm; assumption) | omega | decide | (simp only [Xd] <;> omega)) only [neq_int, decide_eq_false h0, rs63, ↓Xa, Xb, Xc, ↓reduceIte, Nat.reduceLT, Nat.reduceEqDiff, Nat.reduceBEq, Nat.reduceLeDiff, Nat.reduceAdd, Nat.reduceMul]
      exact SetR.dropTo (hG.updB (hG.none hq1)) (SetR.now hq)
  · rw [List.drop_eq_nil_of_le (by omega), List.drop_eq_nil_of_le (by omega)] at hc
    simp (disch := first | assumption | (apply Ap.symm; assumption) | omega | decide | (simp only [Xd] <;> omega)) only [hi, ↓Xa, Xb, Xc, ↓reduceIte, Nat.reduceLT, Nat.reduceEqDiff, Nat.reduceBEq, Nat.reduceLeDiff, Nat.reduceAdd, Nat.reduceMul]
    refine Settle.now ?_
    rw [← hc] at hq
    simp (disch := first | assumption | (apply Ap.symm; assumption) | omega | decide | (simp only [Xd] <;> omega)) only [rs63, ↓Xa, Xb, Xc, ↓reduceIte, Nat.reduceLT, Nat.reduceEqDiff, Nat.reduceBEq, Nat.reduceLeDiff, Nat.reduceAdd, Nat.reduceMul]
    exact SetR.dropTo hG (SetR.now hq)
theorem rows_fn {zs ws : List Int} {t t' : Bool} {k : Nat} (hz : RB4 k zs) (hw : RB4 k ws) (hk : k ≤ 1000000) : PFn Tryd.prog 60 [RowA zs t, RowA ws t'] (.bool (decide (zs = ws))) := by
  intro H Q hq
  refine enter60 (by simp) ?_
  simp (disch := first | assumption | (apply Ap.symm; assumption) | omega | decide | (simp only [Xd] <;> omega)) only [ac60, ↓Xa, Xb, Xc, ↓reduceIte, Nat.reduceLT, Nat.reduceEqDiff, Nat.reduceBEq, Nat.reduceLeDiff, Nat.reduceAdd, Nat.reduceMul]
  refine (rowc_fn hz hw hk).call ?_
  have e : decide (cmpR zs ws = ((0 : Nat) : Int)) = decide (zs = ws) := decide_eq_decide.2 (cmpR_0 zs ws)
  simp (disch := first | assumption | (apply Ap.symm; assumption) | omega | decide | (simp only [Xd] <;> omega)) only [eql_int, e, rs60, ↓Xa, Xb, Xc, ↓reduceIte, Nat.reduceLT, Nat.reduceEqDiff, Nat.reduceBEq, Nat.reduceLeDiff, Nat.reduceAdd, Nat.reduceMul]
  exact SetR.now hq
theorem rowz_fn {zs : List Int} {t : Bool} {k : Nat} (hz : RB4 k zs) (hk : k ≤ 1000000) : PFn Tryd.prog 56 [RowA zs t] (.bool (zs.all fun z => decide (z = 0))) := fun H Q hq =>
  rowz_run (.inl ⟨t, rfl⟩) hz.1 hk hz.2 hq
theorem cmp_gtr0 {x y : Int} {K : AV → Prop} : binW .gtr (.int .i64 (cmpI x y)) (.int .i64 ((0 : Nat) : Int)) K ↔ K (.bool (decide (y < x))) := by
  have : (((0 : Nat) : Int) < cmpI x y) ↔ y < x := by unfold cmpI; (repeat' split) <;> omega
  rw [gtr_int, decide_eq_decide.2 this]
theorem roww_fn {zs : List Int} {t : Bool} {k : Nat} (hz : RB4 k zs) (hk : k ≤ 1000000) : PFn Tryd.prog 64 [RowA zs t] (IntA (widF 0 zs)) := by
  intro H Q hq
  have nz : zs.length < 9223372036854775808 := by have := hz.2; omega
  refine enter64 (by simp) ?_
  simp (disch := first | assumption | (apply Ap.symm; assumption) | omega | decide | (simp only [Xd] <;> omega)) only [ac64, ↓Xa, Xb, Xc, ↓reduceIte, Nat.reduceLT, Nat.reduceEqDiff, Nat.reduceBEq, Nat.reduceLeDiff, Nat.reduceAdd, Nat.reduceMul]
  refine alloc_i fun p1 hp1 => ?_
  have n1 := hp1
  simp (disch := first | assumption | (apply Ap.symm; assumption) | omega | decide | (simp only [Xd] <;> omega)) only [↓Xa, Xb, Xc, ↓reduceIte, Nat.reduceLT, Nat.reduceEqDiff, Nat.reduceBEq, Nat.reduceLeDiff, Nat.reduceAdd, Nat.reduceMul]
  refine alloc_i fun p2 hp2 => ?_
  have n2 := hp2
  simp only [upd_none] at n2
  obtain ⟨_, n2⟩ := n2
  simp (disch := first | assumption | (apply Ap.symm; assumption) | omega | decide | (simp only [Xd] <;> omega)) only [len_rw, ↓Xa, Xb, Xc, ↓reduceIte, Nat.reduceLT, Nat.reduceEqDiff, Nat.reduceBEq, Nat.reduceLeDiff, Nat.reduceAdd, Nat.reduceMul]
  refine W_loop (fun s : Nat × Int => ⟨[], [(2, .ptr p1 2 0), (3, .ptr p2 2 0), (7, RowA zs t), (8, .int .i64 (zs.length : Int)), (9, .int .i64 s.1)], (H.upd p1 (some (.row 28 0 [.bool false, .seq 0 [] true]))).upd p2 (some (.row 28 0 [IntB s.2, IntD s.2]))⟩) (fun s => s.1 ≤ zs.length ∧ Bd k s.2 ∧ widF s.2 (zs.drop s.1) = widF 0 zs) (fun s => zs.length - s.1) (0, 0) (Settle.now (by simp [IntB, IntD, digs_zero, LS, U])) ⟨Nat.zero_le _, Bd.zero _, rfl⟩ ?_
  rintro ⟨i, w⟩ ⟨h3, hb, hc⟩
  dsimp only at h3 hb hc ⊢
  by_cases hi : i < zs.length
  · rw [List.drop_eq_getElem_cons hi, widF, List.foldl_cons, widS] at hc
    simp (disch := first | assumption | (apply Ap.symm; assumption) | omega | decide | (simp only [Xd] <;> omega)) only [hi, idx_IC, load_IC, ↓Xa, Xb, Xc, ↓reduceIte, Nat.reduceLT, Nat.reduceEqDiff, Nat.reduceBEq, Nat.reduceLeDiff, Nat.reduceAdd, Nat.reduceMul]
    refine alloc_i fun p3 hp3 => ?_
    have n3 := hp3
    simp only [upd_none] at n3
    obtain ⟨_, _, n3⟩ := n3
    simp (disch := first | assumption | (apply Ap.symm; assumption) | omega | decide | (simp only [Xd] <;> omega)) only [cells_IntA, fold_IntA, ↓Xa, Xb, Xc, ↓reduceIte, Nat.reduceLT, Nat.reduceEqDiff, Nat.reduceBEq, Nat.reduceLeDiff, Nat.reduceAdd, Nat.reduceMul]
    refine (abs_fn (hz.at hi) (by omega)).call ?_
    simp (disch := first | assumption | (apply Ap.symm; assumption) | omega | decide | (simp only [Xd] <;> omega)) only [↓Xa, Xb, Xc, ↓reduceIte, Nat.reduceLT, Nat.reduceEqDiff, Nat.reduceBEq, Nat.reduceLeDiff, Nat.reduceAdd, Nat.reduceMul]
    refine alloc_i fun p4 hp4 => ?_
    have n4 := hp4
    simp only [upd_none] at n4
    obtain ⟨_, _, _, n4⟩ := n4
    simp (disch := first | assumption | (apply Ap.symm; assumption) | omega | decide | (simp only [Xd] <;> omega)) only [cells_IntA, fold_IntA, ↓Xa, Xb, Xc, ↓reduceIte, Nat.reduceLT, Nat.reduceEqDiff, Nat.reduceBEq, Nat.reduceLeDiff, Nat.reduceAdd, Nat.reduceMul]
    refine (cmpi_fn (hz.at hi).abs (by omega) hb (by omega)).call ?_
    by_cases h0 : w < ((zs[i]).natAbs : Int)
    · rw [if_pos h0] at hc
      simp (disch := first | assumption | (apply Ap.symm; assumption) | omega | decide | (simp only [Xd] <;> omega)) only [cmp_gtr0, decide_eq_true h0, cells_IntA, fold_IntA, ↓Xa, Xb, Xc, ↓reduceIte, Nat.reduceLT, Nat.reduceEqDiff, Nat.reduceBEq, Nat.reduceLeDiff, Nat.reduceAdd, Nat.reduceMul]
      refine Settle.dropTo (((Le.refl _).updB (upd_none.2 ⟨by assumption, upd_none.2 ⟨by assumption, n3⟩⟩)).updB (upd_none.2 ⟨by assumption, upd_none.2 ⟨by assumption, n4⟩⟩)) ?_
      exact Settle.now ⟨(i + 1, _), by dsimp only; omega, ⟨by dsimp only; omega, (hz.at hi).abs, hc⟩, rfl⟩
    · rw [if_neg h0] at hc
      simp (disch := first | assumption | (apply Ap.symm; assumption) | omega | decide | (simp only [Xd] <;> omega)) only [cmp_gtr0, decide_eq_false h0, ↓Xa, Xb, Xc, ↓reduceIte, Nat.reduceLT, Nat.reduceEqDiff, Nat.reduceBEq, Nat.reduceLeDiff, Nat.reduceAdd, Nat.reduceMul]
      refine Settle.dropTo (((Le.refl _).updB (upd_none.2 ⟨by assumption, upd_none.2 ⟨by assumption, n3⟩⟩)).updB (upd_none.2 ⟨by assumption, upd_none.2 ⟨by assumption, n4⟩⟩)) ?_
      exact Settle.now ⟨(i + 1, _), by dsimp only; omega, ⟨by dsimp only; omega, hb, hc⟩, rfl⟩
  · rw [List.drop_eq_nil_of_le (by omega)] at hc
    have hc : w = widF 0 zs := hc
    rw [← hc] at hq
    simp (disch := first | assumption | (apply Ap.symm; assumption) | omega | decide | (simp only [Xd] <;> omega)) only [hi, ↓Xa, Xb, Xc, ↓reduceIte, Nat.reduceLT, Nat.reduceEqDiff, Nat.reduceBEq, Nat.reduceLeDiff, Nat.reduceAdd, Nat.reduceMul]
    refine Settle.now ?_
    simp (disch := first | assumption | (apply Ap.symm; assumption) | omega | decide | (simp only [Xd] <;> omega)) only [fold_IntA, cells_IntA, rs64, ↓Xa, Xb, Xc, ↓reduceIte, Nat.reduceLT, Nat.reduceEqDiff, Nat.reduceBEq, Nat.reduceLeDiff, Nat.reduceAdd, Nat.reduceMul]
    exact SetR.dropTo (((Le.refl H).updB n1).updB n2) (SetR.now hq)

/-! ### the reference -/
theorem frowc_fn {zs ws : List Int} {t t' : Bool} {k : Nat} (hz : RB4 k zs) (hw : RB4 k ws) (hk : k ≤ 1000000) : PFn Tryd.prog 59 [RefR zs t, RefR ws t'] (.int .i64 (cmpR zs ws)) := by
  intro H Q hq
  have nz : zs.length < 9223372036854775808 := by have := hz.2; omega
  have nw : ws.length < 9223372036854775808 := by have := hw.2; omega
  refine enter59 (by simp) ?_
  by_cases h1 : zs.length < ws.length
  · have e : cmpR zs ws = -1 := by unfold cmpR; rw [if_pos h1]
    have hne : decide (((zs.length : Nat) : Int) = ((ws.length : Nat) : Int)) = false := decide_eq_false (by omega)
    rw [e] at hq
    simp (disch := first | assumption | (apply Ap.symm; assumption) | omega | decide | (simp only [Xd] <;> omega)) only [ac59, len_rw, neq_int, hne, h1, rs59, ↓Xa, Xb, Xc, ↓reduceIte, Nat.reduceLT, Nat.reduceEqDiff, Nat.reduceBEq, Nat.reduceLeDiff, Nat.reduceAdd, Nat.reduceMul]
    exact SetR.now hq
  by_cases h2 : ws.length < zs.length
  · have e : cmpR zs ws = ((1 : Nat) : Int) := by unfold cmpR; rw [if_neg h1, if_pos h2]
    have hne : decide (((zs.length : Nat) : Int) = ((ws.length : Nat) : Int)) = false := decide_eq_false (by omega)
    rw [e] at hq
    simp (disch := first | assumption | (apply Ap.symm; assumption) | omega | decide | (simp only [Xd] <;> omega)) only [ac59, len_rw, neq_int, hne, h1, h2, rs59, ↓Xa, Xb, Xc, ↓reduceIte, Nat.reduceLT, Nat.reduceEqDiff, Nat.reduceBEq, Nat.reduceLeDiff, Nat.reduceAdd, Nat.reduceMul]
    exact SetR.now hq
  have e : cmpR zs ws = cmpL zs ws := by unfold cmpR; rw [if_neg h1, if_neg h2]
  have hne : decide (((zs.length : Nat) : Int) = ((ws.length : Nat) : Int)) = true := decide_eq_true (by omega)
  rw [e] at hq
  simp (disch := first | assumption | (apply Ap.symm; assumption) | omega | decide | (simp only [Xd] <;> omega)) only [ac59, len_rw, neq_int, hne, ↓Xa, Xb, Xc, ↓reduceIte, Nat.reduceLT, Nat.reduceEqDiff, Nat.reduceBEq, Nat.reduceLeDiff, Nat.reduceAdd, Nat.reduceMul]
  refine W_loop (fun s : Nat => ⟨[], [(0, RefR zs t), (1, RefR ws t'), (5, .int .i64 s)], H⟩) (fun s => s ≤ zs.length ∧ cmpL (zs.drop s) (ws.drop s) = cmpL zs ws) (fun s => zs.length - s) 0 (Settle.now rfl) ⟨Nat.zero_le _, rfl⟩ ?_
  rintro i ⟨h3, hc⟩
  by_cases hi : i < zs.length
  · have hi2 : i < ws.length := by omega
    rw [List.drop_eq_getElem_cons hi, List.drop_eq_getElem_cons hi2, cmpL] at hc
    simp (disch := first | assumption | (apply Ap.symm; assumption) | omega | decide | (simp only [Xd] <;> omega)) only [hi, hi2, len_rw, idx_RC, load_RC, ↓Xa, Xb, Xc, ↓reduceIte, Nat.reduceLT, Nat.reduceEqDiff, Nat.reduceBEq, Nat.reduceLeDiff, Nat.reduceAdd, Nat.reduceMul]
    refine (rcmp_fn false false (hz.at hi) (by omega) (hw.at hi2) (by omega)).call ?_
    by_cases h0 : cmpI (zs[i]) (ws[i]) = ((0 : Nat) : Int)
    · rw [if_pos (by simpa using h0)] at hc
      simp (disch := first | assumption | (apply Ap.symm; assumption) | omega | decide | (simp only [Xd] <;> omega)) only [neq_int, decide_eq_true h0, ↓Xa, Xb, Xc, ↓reduceIte, Nat.reduceLT, Nat.reduceEqDiff, Nat.reduceBEq, Nat.reduceLeDiff, Nat.reduceAdd, Nat.reduceMul]
      exact Settle.now ⟨i + 1, by omega, ⟨by omega, hc⟩, rfl⟩
    · rw [if_neg (by simpa using h0)] at hc
      rw [← hc] at hq
      simp (disch := first | assumption | (apply Ap.symm; assumption) | omega | decide | (simp only [Xd] <;> omega)) only [neq_int, decide_eq_false h0, rs59, ↓Xa, Xb, Xc, ↓reduceIte, Nat.reduceLT, Nat.reduceEqDiff, Nat.reduceBEq, Nat.reduceLeDiff, Nat.reduceAdd, Nat.reduceMul]
      exact SetR.now hq
  · rw [List.drop_eq_nil_of_le (by omega), List.drop_eq_nil_of_le (by omega)] at hc
    rw [← hc] at hq
    simp (disch := first | assumption | (apply Ap.symm; assumption) | omega | decide | (simp only [Xd] <;> omega)) only [hi, len_rw, ↓Xa, Xb, Xc, ↓reduceIte, Nat.reduceLT, Nat.reduceEqDiff, Nat.reduceBEq, Nat.reduceLeDiff, Nat.reduceAdd, Nat.reduceMul]
    refine Settle.now ?_
    simp (disch := first | assumption | (apply Ap.symm; assumption) | omega | decide | (simp only [Xd] <;> omega)) only [rs59, ↓Xa, Xb, Xc, ↓reduceIte, Nat.reduceLT, Nat.reduceEqDiff, Nat.reduceBEq, Nat.reduceLeDiff, Nat.reduceAdd, Nat.reduceMul]
    exact SetR.now hq
theorem frows_fn {zs ws : List Int} {t t' : Bool} {k : Nat} (hz : RB4 k zs) (hw : RB4 k ws) (hk : k ≤ 1000000) : PFn Tryd.prog 61 [RefR zs t, RefR ws t'] (.bool (decide (zs = ws))) := by
  intro H Q hq
  have nz : zs.length < 9223372036854775808 := by have := hz.2; omega
  have nw : ws.length < 9223372036854775808 := by have := hw.2; omega
  refine enter61 (by simp) ?_
  by_cases h1 : zs.length = ws.length
  · have hne : decide (((zs.length : Nat) : Int) = ((ws.length : Nat) : Int)) = true := decide_eq_true (by omega)
    have e : decide (zs = ws) = decide (cmpL zs ws = ((0 : Nat) : Int)) := decide_eq_decide.2 (cmpL_0 zs ws h1).symm
    rw [e] at hq
    simp (disch := first | assumption | (apply Ap.symm; assumption) | omega | decide | (simp only [Xd] <;> omega)) only [ac61, len_rw, neq_int, hne, ↓Xa, Xb, Xc, ↓reduceIte, Nat.reduceLT, Nat.reduceEqDiff, Nat.reduceBEq, Nat.reduceLeDiff, Nat.reduceAdd, Nat.reduceMul]
    refine W_loop (fun s : Nat => ⟨[], [(0, RefR zs t), (1, RefR ws t'), (5, .int .i64 s)], H⟩) (fun s => s ≤ zs.length ∧ cmpL (zs.drop s) (ws.drop s) = cmpL zs ws) (fun s => zs.length - s) 0 (Settle.now rfl) ⟨Nat.zero_le _, rfl⟩ ?_
    rintro i ⟨h3, hc⟩
    by_cases hi : i < zs.length
    · have hi2 : i < ws.length := by omega
      rw [List.drop_eq_getElem_cons hi, List.drop_eq_getElem_cons hi2, cmpL] at hc
      simp (disch := first | assumption | (apply Ap.symm; assumption) | omega | decide | (simp only [Xd] <;> omega)) only [hi, hi2, len_rw, idx_RC, load_RC, ↓Xa, Xb, Xc, ↓reduceIte, Nat.reduceLT, Nat.reduceEqDiff, Nat.reduceBEq, Nat.reduceLeDiff, Nat.reduceAdd, Nat.reduceMul]
      refine (rcmp_fn false false (hz.at hi) (by omega) (hw.at hi2) (by omega)).call ?_
      by_cases h0 : cmpI (zs[i]) (ws[i]) = ((0 : Nat) : Int)
      · rw [if_pos (by simpa using h0)] at hc
        simp (disch := first | assumption | (apply Ap.symm; assumption) | omega | decide | (simp only [Xd] <;> omega)) only [neq_int, decide_eq_true h0, ↓Xa, Xb, Xc, ↓reduceIte, Nat.reduceLT, Nat.reduceEqDiff, Nat.reduceBEq, Nat.reduceLeDiff, Nat.reduceAdd, Nat.reduceMul]
        exact Settle.now ⟨i + 1, by omega, ⟨by omega, hc⟩, rfl⟩
      · rw [if_neg (by simpa using h0)] at hc
        rw [← hc, decide_eq_false h0] at hq
        simp (disch := first | assumption | (apply Ap.symm; assumption) | omega | decide | (simp only [Xd] <;> omega)) only [neq_int, decide_eq_false h0, rs61, ↓Xa, Xb, Xc, ↓reduceIte, Nat.reduceLT, Nat.reduceEqDiff, Nat.reduceBEq, Nat.reduceLeDiff, Nat.reduceAdd, Nat.reduceMul]
        exact SetR.now hq
    · rw [List.drop_eq_nil_of_le (by omega), List.drop_eq_nil_of_le (by omega)] at hc
      rw [← hc, decide_eq_true (by rfl)] at hq
      simp (disch := first | assumption | (apply Ap.symm; assumption) | omega | decide | (simp only [Xd] <;> omega)) only [hi, len_rw, ↓Xa, Xb, Xc, ↓reduceIte, Nat.reduceLT, Nat.reduceEqDiff, Nat.reduceBEq, Nat.reduceLeDiff, Nat.reduceAdd, Nat.reduceMul]
      refine Settle.now ?_
      simp (disch := first | assumption | (apply Ap.symm; assumption) | omega | decide | (simp only [Xd] <;> omega)) only [rs61, ↓Xa, Xb, Xc, ↓reduceIte, Nat.reduceLT, Nat.reduceEqDiff, Nat.reduceBEq, Nat.reduceLeDiff, Nat.reduceAdd, Nat.reduceMul]
      exact SetR.now hq
  · have hne : decide (((zs.length : Nat) : Int) = ((ws.length : Nat) : Int)) = false := decide_eq_false (by omega)
    have e : decide (zs = ws) = false := decide_eq_false fun e => h1 (by rw [e])
    rw [e] at hq
    simp (disch := first | assumption | (apply Ap.symm; assumption) | omega | decide | (simp only [Xd] <;> omega)) only [ac61, len_rw, neq_int, hne, rs61, ↓Xa, Xb, Xc, ↓reduceIte, Nat.reduceLT, Nat.reduceEqDiff, Nat.reduceBEq, Nat.reduceLeDiff, Nat.reduceAdd, Nat.reduceMul]
    exact SetR.now hq
theorem frowz_fn {zs : List Int} {t : Bool} {k : Nat} (hz : RB4 k zs) (hk : k ≤ 1000000) : PFn Tryd.prog 62 [RefR zs t] (.bool (zs.all fun z => decide (z = 0))) := by
  intro H Q hq
  have nz : zs.length < 9223372036854775808 := by have := hz.2; omega
  refine enter62 (by simp) ?_
  simp (disch := first | assumption | (apply Ap.symm; assumption) | omega | decide | (simp only [Xd] <;> omega)) only [ac62, ↓Xa, Xb, Xc, ↓reduceIte, Nat.reduceLT, Nat.reduceEqDiff, Nat.reduceBEq, Nat.reduceLeDiff, Nat.reduceAdd, Nat.reduceMul]
  refine W_loop (fun s : Nat => ⟨[], [(0, RefR zs t), (3, .int .i64 s)], H⟩) (fun s => s ≤ zs.length ∧ ∀ j (h : j < zs.length), j < s → zs[j] = 0) (fun s => zs.length - s) 0 (Settle.now rfl) ⟨Nat.zero_le _, fun j _ h => absurd h (Nat.not_lt_zero j)⟩ ?_
  rintro i ⟨h1, hz0⟩
  by_cases hi : i < zs.length
  · simp (disch := first | assumption | (apply Ap.symm; assumption) | omega | decide | (simp only [Xd] <;> omega)) only [hi, len_rw, idx_RC, load_RC, ↓Xa, Xb, Xc, ↓reduceIte, Nat.reduceLT, Nat.reduceEqDiff, Nat.reduceBEq, Nat.reduceLeDiff, Nat.reduceAdd, Nat.reduceMul]
    refine (rsign_fn false (hz.at hi) (by omega)).call ?_
    by_cases h0 : zs[i] = 0
    · simp (disch := first | assumption | (apply Ap.symm; assumption) | omega | decide | (simp only [Xd] <;> omega)) only [sgn_neq0, h0, ↓Xa, Xb, Xc, ↓reduceIte, Nat.reduceLT, Nat.reduceEqDiff, Nat.reduceBEq, Nat.reduceLeDiff, Nat.reduceAdd, Nat.reduceMul]
      refine Settle.now ⟨i + 1, by omega, ⟨by omega, fun j h h2 => ?_⟩, rfl⟩
      by_cases e : j = i
      · subst e; exact h0
      · exact hz0 j h (by omega)
    · simp (disch := first | assumption | (apply Ap.symm; assumption) | omega | decide | (simp only [Xd] <;> omega)) only [sgn_neq0, h0, rs62, ↓Xa, Xb, Xc, ↓reduceIte, Nat.reduceLT, Nat.reduceEqDiff, Nat.reduceBEq, Nat.reduceLeDiff, Nat.reduceAdd, Nat.reduceMul]
      have e : (zs.all fun z => decide (z = 0)) = false := List.all_eq_false.2 ⟨zs[i], List.getElem_mem hi, by simpa using h0⟩
      rw [e] at hq
      exact SetR.now hq
  · simp (disch := first | assumption | (apply Ap.symm; assumption) | omega | decide | (simp only [Xd] <;> omega)) only [hi, len_rw, ↓Xa, Xb, Xc, ↓reduceIte, Nat.reduceLT, Nat.reduceEqDiff, Nat.reduceBEq, Nat.reduceLeDiff, Nat.reduceAdd, Nat.reduceMul]
    refine Settle.now ?_
    simp (disch := first | assumption | (apply Ap.symm; assumption) | omega | decide | (simp only [Xd] <;> omega)) only [rs62, ↓Xa, Xb, Xc, ↓reduceIte, Nat.reduceLT, Nat.reduceEqDiff, Nat.reduceBEq, Nat.reduceLeDiff, Nat.reduceAdd, Nat.reduceMul]
    have e : (zs.all fun z => decide (z = 0)) = true := List.all_eq_true.2 fun z h => by
      obtain ⟨j, hj, rfl⟩ := List.getElem_of_mem h
      exact decide_eq_true (hz0 j hj (by omega))
    rw [e] at hq
    exact SetR.now hq
end Go.Proofs.YtanchgkiomfhhaaDoor.Fw

/- Rows of whole numbers: what is made of them. -/
namespace Go.Proofs.YtanchgkiomfhhaaDoor.Fw
set_option linter.unusedSimpArgs false
set_option linter.unusedVariables false
open Go Go.Proofs.YtanchgkiomfhhaaDoor.Ma
set_option maxRecDepth 20000

theorem repI1 {a b : AV} : repA [a, b] 2 = [a, b] := by simp [repA, List.range, List.range.loop]
theorem cellI {z : Int} : [IntB z, IntD z].all AV.cell = true := rfl
theorem IC_take {zs : List Int} {i : Nat} (h : i < zs.length) : IC (zs.take (i + 1)) = IC (zs.take i) ++ [IntB (zs[i]), IntD (zs[i])] := by
  rw [List.take_add_one, List.getElem?_eq_getElem h, Option.toList_some, IC_snoc]
theorem fn_cells {f : Go.Fn} {a b : List AV} : (AV.fn f a b).cells = some [.fn f a b] := id rfl
theorem callW_fn {P : Program} {f : FuncId} {first caps args : List AV} {H : AHeap} {K : AV → AHeap → Prop} (h : Run P f (first ++ args ++ caps) H K) : callW P (.fn (.func f) first caps) args H K := h

theorem each_run {H : AHeap} {Q : AV → AHeap → Prop} {f : AV} {zs ws : List Int} {t : Bool} {k : Nat} (hz : RB4 k zs) (hlen : ws.length = zs.length) (hbig : zs.length ≤ 1000000) (G : Nat → AHeap) (h0 : G 0 = H) (hd : ∀ i b, G i b = none ↔ H b = none)
    (hs : ∀ i (h : i < zs.length) (M : AHeap) (K : AV → AHeap → Prop), Le (G i) M → (∀ M', Le (G (i + 1)) M' → (∀ b, H b = none → M b ≠ none → M' b = M b) → K (IntA (ws[i]'(by omega))) M') → callW Tryd.prog f [IntA (zs[i])] M K)
    (hq : ∀ y M, growC (G zs.length) 28 2 zs.length (IC ws) y M → Q y M) : Run Tryd.prog 144 [RowA zs t, f] H Q := by
  have nz : zs.length < 9223372036854775808 := by have := hz.2; omega
  refine enter144 (by simp) ?_
  simp (disch := first | assumption | (apply Ap.symm; assumption) | omega | decide | (simp only [Xd] <;> omega)) only [ac144, len_rw, ↓Xa, Xb, Xc, ↓reduceIte, Nat.reduceLT, Nat.reduceEqDiff, Nat.reduceBEq, Nat.reduceLeDiff, Nat.reduceAdd, Nat.reduceMul]
  refine W_loop (fun s : Nat × AV × AHeap => ⟨[], [(1, f), (5, s.2.1), (8, RowA zs t), (9, .int .i64 (zs.length : Int)), (10, .int .i64 s.1)], s.2.2⟩) (fun s => s.1 ≤ zs.length ∧ growC (G s.1) 28 2 s.1 (IC (ws.take s.1)) s.2.1 s.2.2) (fun s => zs.length - s.1) (0, .seq 0 [] true, H) (Settle.now rfl) ⟨Nat.zero_le _, by rw [← h0]; exact growC_nil⟩ ?_
  rintro ⟨i, y, M⟩ ⟨h3, hg⟩
  dsimp only at h3 hg ⊢
  by_cases hi : i < zs.length
  · simp (disch := first | assumption | (apply Ap.symm; assumption) | omega | decide | (simp only [Xd] <;> omega)) only [hi, idx_IC, load_IC, ↓Xa, Xb, Xc, ↓reduceIte, Nat.reduceLT, Nat.reduceEqDiff, Nat.reduceBEq, Nat.reduceLeDiff, Nat.reduceAdd, Nat.reduceMul]
    refine alloc_i fun q hq1 => ?_
    simp (disch := first | assumption | (apply Ap.symm; assumption) | omega | decide | (simp only [Xd] <;> omega)) only [cells_IntA, fold_IntA, ↓Xa, Xb, Xc, ↓reduceIte, Nat.reduceLT, Nat.reduceEqDiff, Nat.reduceBEq, Nat.reduceLeDiff, Nat.reduceAdd, Nat.reduceMul]
    have hg1 := growC_upd (r := .row 28 0 [IntB (zs[i]), IntD (zs[i])]) hg hq1
    refine hs i hi _ _ ((growC_le hg).upd hq1) fun M' hM' hsame => ?_
    obtain ⟨H1, hg2, hl2⟩ := growC_move hg1 fun b hb hb2 => hsame b ((hd i b).1 (upd_none.1 hb).2) hb2
    simp (disch := first | assumption | (apply Ap.symm; assumption) | omega | decide | (simp only [Xd] <;> omega)) only [repI1, cells_IntA, ↓Xa, Xb, Xc, ↓reduceIte, Nat.reduceLT, Nat.reduceEqDiff, Nat.reduceBEq, Nat.reduceLeDiff, Nat.reduceAdd, Nat.reduceMul]
    refine app_C (m := 1) hg2 rfl cellI (by omega) (by omega) (by omega) fun y' M2 hg3 => ?_
    rw [← IC_take] at hg3
    obtain ⟨M3, hg4, hl4⟩ := growC_le2 hg3 (hl2 _ hM' fun b hb => (hd (i + 1) b).2 ((hd i b).1 (upd_none.1 hb).2))
    simp (disch := first | assumption | (apply Ap.symm; assumption) | omega | decide | (simp only [Xd] <;> omega)) only [↓Xa, Xb, Xc, ↓reduceIte, Nat.reduceLT, Nat.reduceEqDiff, Nat.reduceBEq, Nat.reduceLeDiff, Nat.reduceAdd, Nat.reduceMul]
    exact Settle.dropTo hl4 (Settle.now ⟨(i + 1, y', M3), by dsimp only; omega, ⟨by dsimp only; omega, hg4⟩, rfl⟩)
  · obtain rfl : i = zs.length := by omega
    rw [List.take_of_length_le (by omega)] at hg
    simp (disch := first | assumption | (apply Ap.symm; assumption) | omega | decide | (simp only [Xd] <;> omega)) only [hi, ↓Xa, Xb, Xc, ↓reduceIte, Nat.reduceLT, Nat.reduceEqDiff, Nat.reduceBEq, Nat.reduceLeDiff, Nat.reduceAdd, Nat.reduceMul]
    refine Settle.now ?_
    simp (disch := first | assumption | (apply Ap.symm; assumption) | omega | decide | (simp only [Xd] <;> omega)) only [rs144, ↓Xa, Xb, Xc, ↓reduceIte, Nat.reduceLT, Nat.reduceEqDiff, Nat.reduceBEq, Nat.reduceLeDiff, Nat.reduceAdd, Nat.reduceMul]
    exact SetR.now (hq y M hg)
theorem Le.both {A B : AHeap} {p : Nat} {x : Option ABlk} (h : Le A B) : Le (A.upd p x) (B.upd p x) := fun o y ho => by
  by_cases e : o = p
  · subst e; rw [upd_same] at ho ⊢; exact ho
  · rw [upd_other _ _ e] at ho ⊢; exact h o y ho
theorem add_m1 {i : Nat} {K : AV → Prop} (h : i < 4611686018427387904) : binW .add (.int .i64 ((i : Int) - 1)) (.int .i64 ((1 : Nat) : Int)) K ↔ K (.int .i64 (i : Int)) := by
  have e : IntKind.i64.wrap ((i : Int) - 1 + ((1 : Nat) : Int)) = (i : Int) := by rw [show ((i : Int) - 1 + ((1 : Nat) : Int)) = (i : Int) by omega]; exact wrap_i64 (by omega) (by omega)
  have : ∀ a b : Int, binW .add (.int .i64 a) (.int .i64 b) K ↔ K (.int .i64 (IntKind.i64.wrap (a + b))) := fun a b => by simp [binW, binInt]
  rw [this, e]
theorem both1_run {M : AHeap} {K : AV → AHeap → Prop} {f : AV} {x y z : Int} {ws : List Int} {t' : Bool} {i p1 p2 p3 T1 T2 T3 : Nat} (m1 : M p1 = some (.row T1 0 [RowA ws t'])) (m2 : M p2 = some (.row T2 0 [f])) (m3 : M p3 = some (.row T3 0 [.int .i64 ((i : Int) - 1)])) (h1 : Ap p1 p3) (h2 : Ap p2 p3)
    (hi : i < ws.length) (hb : ws.length ≤ 1000000) (hy : ws[i] = y)
    (hs : ∀ (M2 : AHeap) (K : AV → AHeap → Prop), Le (M.upd p3 (some (.row T3 0 [.int .i64 (i : Int)]))) M2 → K (IntA z) M2 → callW Tryd.prog f [IntA x, IntA y] M2 K)
    (hK : K (IntA z) (M.upd p3 (some (.row T3 0 [.int .i64 (i : Int)])))) : Run Tryd.prog 198 [IntA x, .ptr p3 1 0, .ptr p2 1 0, .ptr p1 1 0] M K := by
  subst hy
  refine enter198 (by simp) ?_
  simp (disch := first | assumption | (apply Ap.symm; assumption) | omega | decide | (simp only [Xd] <;> omega)) only [ac198, cells_IntA, ↓Xa, Xb, Xc, ↓reduceIte, Nat.reduceLT, Nat.reduceEqDiff, Nat.reduceBEq, Nat.reduceLeDiff, Nat.reduceAdd, Nat.reduceMul]
  refine alloc_i fun a ha => ?_
  have a1 := ne_of_some m1 ha
  have a2 := ne_of_some m2 ha
  have a3 := ne_of_some m3 ha
  simp (disch := first | assumption | (apply Ap.symm; assumption) | omega | decide | (simp only [Xd] <;> omega)) only [↓Xa, Xb, Xc, ↓reduceIte, Nat.reduceLT, Nat.reduceEqDiff, Nat.reduceBEq, Nat.reduceLeDiff, Nat.reduceAdd, Nat.reduceMul]
  refine alloc_i fun b hb => ?_
  obtain ⟨b4, hb'⟩ := upd_none.1 hb
  have b1 := ne_of_some m1 hb'
  have b2 := ne_of_some m2 hb'
  have b3 := ne_of_some m3 hb'
  simp (disch := first | assumption | (apply Ap.symm; assumption) | omega | decide | (simp only [Xd] <;> omega)) only [m1, m2, m3, add_m1, idx_IC, load_IC, fold_IntA, ↓Xa, Xb, Xc, ↓reduceIte, Nat.reduceLT, Nat.reduceEqDiff, Nat.reduceBEq, Nat.reduceLeDiff, Nat.reduceAdd, Nat.reduceMul]
  have hle : Le (M.upd p3 (some (.row T3 0 [.int .i64 (i : Int)]))) (((M.upd a (some (.row 28 0 [IntB x, IntD x]))).upd b (some (.row 28 0 [.bool false, .seq 0 [] true]))).upd p3 (some (.row T3 0 [.int .i64 (i : Int)]))) := (((Le.refl M).updB ha).updB hb').both
  refine hs _ _ hle ?_
  simp (disch := first | assumption | (apply Ap.symm; assumption) | omega | decide | (simp only [Xd] <;> omega)) only [cells_IntA, fold_IntA, rs198, ↓Xa, Xb, Xc, ↓reduceIte, Nat.reduceLT, Nat.reduceEqDiff, Nat.reduceBEq, Nat.reduceLeDiff, Nat.reduceAdd, Nat.reduceMul]
  exact SetR.dropTo (((Le.refl M).updB ha).updB hb').both (SetR.now hK)
theorem both_run {H : AHeap} {Q : AV → AHeap → Prop} {f : AV} {zs ws us : List Int} {t t' : Bool} {k : Nat} (hz : RB4 k zs) (hw : RB4 k ws) (hl1 : zs.length = ws.length) (hl2 : us.length = zs.length) (hbig : zs.length ≤ 1000000) (hfc : f.cells = some [f])
    (hs : ∀ i (h : i < zs.length) (M : AHeap) (K : AV → AHeap → Prop), Le H M → K (IntA (us[i]'(by omega))) M → callW Tryd.prog f [IntA (zs[i]), IntA (ws[i]'(by omega))] M K)
    (hq : ∀ y M, growC H 28 2 zs.length (IC us) y M → Q (.tup [y, .int .i64 ((0 : Nat) : Int)]) M) : Run Tryd.prog 140 [RowA zs t, RowA ws t', f] H Q := by
  have nz : zs.length < 9223372036854775808 := by have := hz.2; omega
  have nw : ws.length < 9223372036854775808 := by omega
  have hne : decide (((zs.length : Nat) : Int) = ((ws.length : Nat) : Int)) = true := decide_eq_true (by omega)
  refine enter140 (by simp) ?_
  simp (disch := first | assumption | (apply Ap.symm; assumption) | omega | decide | (simp only [Xd] <;> omega)) only [ac140, ↓Xa, Xb, Xc, ↓reduceIte, Nat.reduceLT, Nat.reduceEqDiff, Nat.reduceBEq, Nat.reduceLeDiff, Nat.reduceAdd, Nat.reduceMul]
  refine alloc_i fun p1 hp1 => ?_
  have n1 := hp1
  simp (disch := first | assumption | (apply Ap.symm; assumption) | omega | decide | (simp only [Xd] <;> omega)) only [hfc, ↓Xa, Xb, Xc, ↓reduceIte, Nat.reduceLT, Nat.reduceEqDiff, Nat.reduceBEq, Nat.reduceLeDiff, Nat.reduceAdd, Nat.reduceMul]
  refine alloc_i fun p2 hp2 => ?_
  have n2 := hp2
  simp only [upd_none] at n2
  obtain ⟨_, n2⟩ := n2
  simp (disch := first | assumption | (apply Ap.symm; assumption) | omega | decide | (simp only [Xd] <;> omega)) only [len_rw, neq_int, hne, ↓Xa, Xb, Xc, ↓reduceIte, Nat.reduceLT, Nat.reduceEqDiff, Nat.reduceBEq, Nat.reduceLeDiff, Nat.reduceAdd, Nat.reduceMul]
  refine alloc_i fun p3 hp3 => ?_
  have n3 := hp3
  simp only [upd_none] at n3
  obtain ⟨_, _, n3⟩ := n3
  simp (disch := first | assumption | (apply Ap.symm; assumption) | omega | decide | (simp only [Xd] <;> omega)) only [↓Xa, Xb, Xc, ↓reduceIte, Nat.reduceLT, Nat.reduceEqDiff, Nat.reduceBEq, Nat.reduceLeDiff, Nat.reduceAdd, Nat.reduceMul]
  let G : Nat → AHeap := fun i => ((H.upd p1 (some (.row 32 0 [RowA ws t']))).upd p2 (some (.row 178 0 [f]))).upd p3 (some (.row 3 0 [.int .i64 ((i : Int) - 1)]))
  have hG : ∀ i, G i = ((H.upd p1 (some (.row 32 0 [RowA ws t']))).upd p2 (some (.row 178 0 [f]))).upd p3 (some (.row 3 0 [.int .i64 ((i : Int) - 1)])) := fun _ => rfl
  refine run_call (each_run hz hl2 hbig G (by rw [hG]; rfl) (fun i b => by rw [hG]; simp only [upd_none]) (fun i h M K hM hK => ?_) fun y M hg => ?_)
  · have m1 : M p1 = some (.row 32 0 [RowA ws t']) := hM _ _ (by rw [hG, upd_other _ _ (by apply Ne.symm; assumption), upd_other _ _ (by apply Ne.symm; assumption), upd_same])
    have m2 : M p2 = some (.row 178 0 [f]) := hM _ _ (by rw [hG, upd_other _ _ (by apply Ne.symm; assumption), upd_same])
    have m3 : M p3 = some (.row 3 0 [.int .i64 ((i : Int) - 1)]) := hM _ _ (by rw [hG, upd_same])
    have hMH : Le H (M.upd p3 (some (.row 3 0 [.int .i64 (i : Int)]))) := fun o x ho => by
      have e : o ≠ p3 := by rintro rfl; rw [n3] at ho; cases ho
      rw [upd_other _ _ e]
      refine hM o x ?_
      have e1 : o ≠ p1 := by rintro rfl; rw [n1] at ho; cases ho
      have e2 : o ≠ p2 := by rintro rfl; rw [n2] at ho; cases ho
      rw [hG, upd_other _ _ e, upd_other _ _ e2, upd_other _ _ e1]; exact ho
    refine callW_fn (both1_run m1 m2 m3 (by apply Ne.symm; assumption) (by apply Ne.symm; assumption) (by omega) (by omega) rfl (fun M2 K2 hM2 hK2 => hs i h M2 K2 (fun o x ho => hM2 o x (hMH o x ho)) hK2) (hK _ ?_ fun b hb _ => ?_))
    · intro o x ho
      rw [hG] at ho
      by_cases e : o = p3
      · subst e
        rw [upd_same] at ho ⊢
        rw [← ho, show (((i + 1 : Nat) : Int) - 1) = (i : Int) by omega]
      · rw [upd_other _ _ e] at ho ⊢
        refine hM o x ?_
        rw [hG, upd_other _ _ e]; exact ho
    · exact upd_other _ _ (upd_none.1 hb).1
  · have hle : Le H (G zs.length) := by rw [hG]; exact (((Le.refl H).updB n1).updB n2).updB n3
    obtain ⟨M2, hg2, hl⟩ := growC_le2 hg hle
    simp (disch := first | assumption | (apply Ap.symm; assumption) | omega | decide | (simp only [Xd] <;> omega)) only [rs140, ↓Xa, Xb, Xc, ↓reduceIte, Nat.reduceLT, Nat.reduceEqDiff, Nat.reduceBEq, Nat.reduceLeDiff, Nat.reduceAdd, Nat.reduceMul]
    exact SetR.dropTo hl (SetR.now (hq y M2 hg2))
section
variable {H : AHeap} {Q : AV → AHeap → Prop} {zs ws : List Int} {t t' : Bool} {k : Nat}
theorem zip_len {f : Int → Int → Int} (h : zs.length = ws.length) : (zipI f zs ws).length = zs.length := by simp [zipI, h]
theorem zip_at {f : Int → Int → Int} (h : zs.length = ws.length) {i : Nat} (hi : i < zs.length) (hi2 : i < (zipI f zs ws).length) : (zipI f zs ws)[i] = f (zs[i]) (ws[i]'(by omega)) := by simp [zipI]
theorem rowadd_run (hz : RB4 k zs) (hw : RB4 k ws) (hk : k ≤ 1000000) (hl : zs.length = ws.length) (hbig : zs.length ≤ 1000000) (hq : ∀ y M, growC H 28 2 zs.length (IC (zipI (· + ·) zs ws)) y M → Q (.tup [y, .int .i64 ((0 : Nat) : Int)]) M) : Run Tryd.prog 37 [RowA zs t, RowA ws t'] H Q := by
  refine enter37 (by simp) ?_
  simp (disch := first | assumption | (apply Ap.symm; assumption) | omega | decide | (simp only [Xd] <;> omega)) only [ac37, ↓Xa, Xb, Xc, ↓reduceIte, Nat.reduceLT, Nat.reduceEqDiff, Nat.reduceBEq, Nat.reduceLeDiff, Nat.reduceAdd, Nat.reduceMul]
  refine run_call (both_run hz hw hl (zip_len hl) hbig fn_cells (fun i h M K _ hK => (addi_fn (hz.at h) (by omega) (hw.at (by omega)) (by omega)).call (by rw [zip_at hl h] at hK; exact hK)) fun y M hg => ?_)
  simp (disch := first | assumption | (apply Ap.symm; assumption) | omega | decide | (simp only [Xd] <;> omega)) only [rs37, ↓Xa, Xb, Xc, ↓reduceIte, Nat.reduceLT, Nat.reduceEqDiff, Nat.reduceBEq, Nat.reduceLeDiff, Nat.reduceAdd, Nat.reduceMul]
  exact SetR.now (hq y M hg)
end
end Go.Proofs.YtanchgkiomfhhaaDoor.Fw

/- Fractions: plain numbers. -/
namespace Go.Proofs.YtanchgkiomfhhaaDoor.Fw
set_option linter.unusedSimpArgs false
set_option linter.unusedVariables false
open Go Go.Proofs.YtanchgkiomfhhaaDoor.Ma

abbrev QQ := _root_.Rat
theorem q_pos (q : QQ) : 0 < (q.den : Int) := by have := q.den_pos; omega
theorem mk_num {n : Int} {d : Nat} (hd : 0 < d) : (mkRat n d).num = n / ((Int.gcd n (d : Int) : Nat) : Int) := by
  rw [_root_.Rat.num_mkRat, if_neg (by omega), Nat.gcd_comm]; rfl
theorem mk_den {n : Int} {d : Nat} (hd : 0 < d) : (((mkRat n d).den : Nat) : Int) = (d : Int) / ((Int.gcd n (d : Int) : Nat) : Int) := by
  rw [_root_.Rat.den_mkRat, if_neg (by omega), Nat.gcd_comm]; rfl
theorem q_lt {p q : QQ} : p < q ↔ p.num * (q.den : Int) < q.num * (p.den : Int) := _root_.Rat.lt_iff p q
def cmpQ (p q : QQ) : Int := cmpI (p.num * (q.den : Int)) (q.num * (p.den : Int))
theorem Bd.oneQ (k : Nat) : Bd (k + 1) 1 := by
  unfold Bd
  have : 4294967296 ^ 1 ≤ 4294967296 ^ (k + 1) := Nat.pow_le_pow_right (by omega) (by omega)
  have e : (1 : Int).natAbs = 1 := rfl
  omega
def RB (k : Nat) (q : QQ) : Prop := Bd k q.num ∧ Bd k (q.den : Int)
theorem RB.mk {n : Int} {d k : Nat} (hn : Bd k n) (hd : Bd k (d : Int)) (h0 : 0 < d) : RB k (mkRat n d) := by
  refine ⟨?_, ?_⟩
  · rw [mk_num h0]; exact hn.ediv
  · rw [mk_den h0]; exact hd.ediv
theorem RB.mono {q : QQ} {k k' : Nat} (h : RB k q) (hk : k ≤ k') : RB k' q := ⟨h.1.mono hk, h.2.mono hk⟩
theorem RB.neg {q : QQ} {k : Nat} (h : RB k q) : RB k (-q) := ⟨h.1.neg, h.2⟩
theorem RB.add {p q : QQ} {k k' : Nat} (h : RB k p) (h' : RB k' q) : RB (k + k' + 1) (p + q) := by
  rw [_root_.Rat.add_def']
  refine RB.mk (Bd.add (h.1.mul h'.2) ?_) ?_ (Nat.mul_pos p.den_pos q.den_pos)
  · have := h'.1.mul h.2; rw [Nat.add_comm]; exact this
  · rw [Int.natCast_mul]; exact (h.2.mul h'.2).mono (by omega)
theorem RB.sub {p q : QQ} {k k' : Nat} (h : RB k p) (h' : RB k' q) : RB (k + k' + 1) (p - q) := by
  rw [_root_.Rat.sub_eq_add_neg]; exact h.add h'.neg
theorem RB.mul {p q : QQ} {k k' : Nat} (h : RB k p) (h' : RB k' q) : RB (k + k') (p * q) := by
  rw [_root_.Rat.mul_def']
  refine RB.mk (h.1.mul h'.1) ?_ (Nat.mul_pos p.den_pos q.den_pos)
  rw [Int.natCast_mul]; exact h.2.mul h'.2
theorem RB.int {z : Int} {k : Nat} (h : Bd (k + 1) z) : RB (k + 1) (z : QQ) := ⟨h, Bd.oneQ k⟩
theorem RB.less {q : QQ} {k : Nat} (h : RB k q) : Bd k ((q.den : Int) - 1) := h.2.le (by have := q_pos q; omega)
end Go.Proofs.YtanchgkiomfhhaaDoor.Fw

/- Fractions: what package ratio's functions answer. -/
namespace Go.Proofs.YtanchgkiomfhhaaDoor.Fw
set_option linter.unusedSimpArgs false
set_option linter.unusedVariables false
open Go Go.Proofs.YtanchgkiomfhhaaDoor.Ma
set_option maxRecDepth 20000

def RawR (a b : Int) : AV := .agg [IntB a, IntD a, IntB b, IntD b]
def RatA (q : QQ) : AV := RawR q.num ((q.den : Int) - 1)
def RatE (q : QQ) (e : Nat) : AV := .tup [RatA q, .int .i64 ((e : Nat) : Int)]
end Go.Proofs.YtanchgkiomfhhaaDoor.Fw

/- Fractions: what the laws' own helpers answer. -/
namespace Go.Proofs.YtanchgkiomfhhaaDoor.Fw
set_option linter.unusedSimpArgs false
set_option linter.unusedVariables false
open Go Go.Proofs.YtanchgkiomfhhaaDoor.Ma
set_option maxRecDepth 20000

def qText (q : QQ) : List UInt8 := iText q.num ++ (if q.den = 1 then [] else 47 :: iText (q.den : Int))
theorem iText_len {x : Int} {k : Nat} (h : Bd k x) : (iText x).length ≤ 10 * k + 2 := by
  have := decT_bd h
  unfold iText; split <;> simp <;> omega
def FracA (q : List UInt8 × List UInt8) : AV := .agg [Sx q.1, Sx q.2]
def FracC (l : List (List UInt8 × List UInt8)) : List AV := l.flatMap fun q => [Sx q.1, Sx q.2]
def lngF (q : List UInt8 × List UInt8) : Bool := decide (300 < q.1.length) || decide (300 < q.2.length)
end Go.Proofs.YtanchgkiomfhhaaDoor.Fw

/- The looked-up code of one function, and that it is: by a program (wip/tools/ac.py); Lean checks it. -/
namespace Go.Proofs.YtanchgkiomfhhaaDoor.Fw
open Go
set_option maxRecDepth 100000
def ac6 : ACode := (.seq (.reg [⟨(some 4), none, (.mov (.k (.bool false)))⟩] [0, 1]) (.seq (.seq (.reg [⟨(some 10), none, (.call (.k (.fn (.func 32) [] [])) [])⟩, ⟨(some 11), none, (.un .not (.t 10))⟩] [0, 1, 11]) (.cond (.t 11) (.seq (.reg [⟨(some 4), none, (.mov (.k (.bool false)))⟩] [4]) .ret) .skip)) (.seq (.seq (.reg [⟨(some 12), none, (.mov (.t 0))⟩, ⟨(some 13), none, (.mov (.t 1))⟩, ⟨(some 14), none, (.bsl [(.seq 0 [] true)] 2 1 [(0, (1, (.t 12))), (1, (1, (.t 13)))])⟩, ⟨(some 15), none, (.call (.k (.fn (.func 33) [] [])) [(.t 14)])⟩] [0, 1, 15]) (.cond (.t 15) (.seq (.reg [⟨(some 4), none, (.mov (.k (.bool true)))⟩] [4]) .ret) .skip)) (.seq (.reg [⟨(some 17), none, (.mov (.t 0))⟩, ⟨(some 18), none, (.call (.k (.fn (.func 34) [] [])) [(.t 17)])⟩, ⟨(some 16), none, (.mov (.t 18))⟩, ⟨(some 19), none, (.ext (.t 16) 0)⟩, ⟨(some 20), none, (.ext (.t 16) 1)⟩, ⟨(some 5), none, (.mov (.t 19))⟩, ⟨(some 6), none, (.mov (.t 20))⟩] [1, 5, 6]) (.seq (.reg [⟨(some 22), none, (.mov (.t 1))⟩, ⟨(some 23), none, (.call (.k (.fn (.func 34) [] [])) [(.t 22)])⟩, ⟨(some 21), none, (.mov (.t 23))⟩, ⟨(some 24), none, (.ext (.t 21) 0)⟩, ⟨(some 25), none, (.ext (.t 21) 1)⟩, ⟨(some 7), none, (.mov (.t 24))⟩, ⟨(some 8), none, (.mov (.t 25))⟩] [5, 6, 7, 8]) (.seq (.reg [⟨(some 26), none, (.mov (.t 6))⟩, ⟨(some 27), none, (.mov (.t 8))⟩, ⟨(some 28), none, (.call (.k (.fn (.func 59) [] [])) [(.t 26), (.t 27)])⟩, ⟨(some 9), none, (.mov (.t 28))⟩] [5, 6, 7, 8, 9]) (.seq (.reg [⟨(some 29), none, (.mov (.t 5))⟩, ⟨(some 30), none, (.mov (.t 7))⟩, ⟨(some 31), none, (.call (.k (.fn (.func 60) [] [])) [(.t 29), (.t 30)])⟩, ⟨(some 32), none, (.mov (.t 6))⟩, ⟨(some 33), none, (.mov (.t 8))⟩, ⟨(some 34), none, (.call (.k (.fn (.func 61) [] [])) [(.t 32), (.t 33)])⟩, ⟨(some 35), none, (.binB .eql (.t 31) (.t 34))⟩, ⟨(some 36), none, (.mov (.t 35))⟩, ⟨(some 37), (some (36, true)), (.mov (.t 5))⟩, ⟨(some 38), (some (36, true)), (.call (.k (.fn (.func 56) [] [])) [(.t 37)])⟩, ⟨(some 39), (some (36, true)), (.mov (.t 6))⟩, ⟨(some 40), (some (36, true)), (.call (.k (.fn (.func 62) [] [])) [(.t 39)])⟩, ⟨(some 41), (some (36, true)), (.binB .eql (.t 38) (.t 40))⟩, ⟨(some 42), none, (.pick (.t 36) (.t 41) (.k (.bool false)))⟩, ⟨(some 43), none, (.mov (.t 42))⟩, ⟨(some 44), (some (43, true)), (.mov (.t 5))⟩, ⟨(some 45), (some (43, true)), (.mov (.t 7))⟩, ⟨(some 46), (some (43, true)), (.call (.k (.fn (.func 63) [] [])) [(.t 44), (.t 45)])⟩, ⟨(some 47), (some (43, true)), (.mov (.t 9))⟩, ⟨(some 48), (some (43, true)), (.bin .eql (.t 46) (.t 47))⟩, ⟨(some 49), none, (.pick (.t 43) (.t 48) (.k (.bool false)))⟩, ⟨(some 50), none, (.mov (.t 49))⟩, ⟨(some 51), (some (50, true)), (.mov (.t 7))⟩, ⟨(some 52), (some (50, true)), (.mov (.t 5))⟩, ⟨(some 53), (some (50, true)), (.call (.k (.fn (.func 63) [] [])) [(.t 51), (.t 52)])⟩, ⟨(some 54), (some (50, true)), (.mov (.t 9))⟩, ⟨(some 55), (some (50, true)), (.un .neg (.t 54))⟩, ⟨(some 56), (some (50, true)), (.bin .eql (.t 53) (.t 55))⟩, ⟨(some 57), none, (.pick (.t 50) (.t 56) (.k (.bool false)))⟩, ⟨(some 58), none, (.mov (.t 57))⟩, ⟨(some 59), (some (58, true)), (.mov (.t 5))⟩, ⟨(some 60), (some (58, true)), (.call (.k (.fn (.func 64) [] [])) [(.t 59)])⟩, ⟨(some 61), (some (58, true)), (.mov (.t 6))⟩, ⟨(some 62), (some (58, true)), (.call (.k (.fn (.func 65) [] [])) [(.t 61)])⟩, ⟨(some 63), (some (58, true)), (.call (.k (.fn (.func 50) [] [])) [(.t 60), (.t 62)])⟩, ⟨(some 64), none, (.pick (.t 58) (.t 63) (.k (.bool false)))⟩, ⟨(some 65), none, (.mov (.t 64))⟩, ⟨(some 66), (some (65, true)), (.call (.k (.fn (.func 32) [] [])) [])⟩, ⟨(some 67), none, (.pick (.t 65) (.t 66) (.k (.bool false)))⟩, ⟨(some 4), none, (.mov (.t 67))⟩] [4]) .ret)))))))
def rs6 : List RV := [(.t 4)]
theorem co6 : compFn Go.Proofs.Tryd.prog Go.Proofs.Tryd.f6 pl6 = some (ac6, rs6) := by kernel_rfl
theorem enter6 {args : List AV} {H : AHeap} {Q : AV → AHeap → Prop} (hn : args.length ≤ 68) (h : W Go.Proofs.Tryd.prog ac6 (retN rs6 Q) ⟨[], initE args 0, H⟩) : Run Go.Proofs.Tryd.prog 6 args H Q := Run_fn2 mixed Go.Proofs.Tryd.func6 (by kernel_rfl) co6 (n := 68) (by kernel_rfl) hn h
end Go.Proofs.YtanchgkiomfhhaaDoor.Fw
