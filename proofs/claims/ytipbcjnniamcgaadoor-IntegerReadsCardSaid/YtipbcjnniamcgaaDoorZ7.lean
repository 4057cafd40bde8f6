/- The texts Yd Ye Nc Ta Ua Ub Al3 Uc Al5 Al7 Yf, joined. -/
import Derived.Test.YtipbcjnniamcgaaDoorZ6
/- A whole number's text, as the reference of layer 2 reads it. -/
namespace Go.Proofs.YtipbcjnniamcgaaDoor.Fw
set_option linter.unusedSimpArgs false
set_option linter.unusedVariables false
open Go Go.Proofs.YtipbcjnniamcgaaDoor.Ma
set_option maxRecDepth 20000

theorem RefA_nat {n : Nat} {t : Bool} : AV.agg [.bool false, LS (digs 65536 n) t] = RefA (n : Int) t := by
  have : ¬ (n : Int) < 0 := by omega
  simp [RefA, this]
theorem cells_RefN {n : Nat} {t : Bool} : (RefA (n : Int) t).cells = some [.bool false, LS (digs 65536 n) t] := by rw [← RefA_nat]; rfl
theorem decV_take {l : List UInt8} {i : Nat} (h : i < l.length) : decV (l.take (i + 1)) = decV (l.take i) * 10 + ((l.getD i 0).toNat - 48) := by
  have : l.take (i + 1) = l.take i ++ [l.getD i 0] := by
    rw [List.take_add_one, List.getElem?_eq_getElem h, List.getD_eq_getElem?_getD, List.getElem?_eq_getElem h]; rfl
  rw [this, decV_app, decV_one]; simp; omega
/-- What the reference answers of a text. -/
def rReadA (l : List UInt8) (p : Nat) : AV := if p = iFrom l ∨ p < l.length then .tup [RefA 0 true, .int .i64 (p : Int)] else .tup [RefA (iVal l) false, .int .i64 (-1)]
set_option maxHeartbeats 2000000 in
theorem rread_fn {l : List UInt8} {p : Nat} (hp : IsAt l p) (hsz : l.length ≤ 65536) : PFn Tryd.prog 46 [Sx l] (rReadA l p) := by
  intro H Q hq
  obtain ⟨hf1, hf2⟩ := iFrom_le l
  refine enter46 (by simp) ?_
  simp (disch := first | assumption | (apply Ap.symm; assumption) | omega | decide | (simp only [U_len, List.length_append, List.length_replicate, List.length_cons, List.length_nil, List.length_set] <;> omega) | fail) only [ac46, ↓Xa, Xb, Xc, ↓reduceIte, Nat.reduceLT, Nat.reduceEqDiff, Nat.reduceBEq, Nat.reduceLeDiff, Nat.reduceAdd, Nat.reduceMul]
  refine alloc_i fun p1 hp1 => ?_
  have n1 := hp1
  simp (disch := first | assumption | (apply Ap.symm; assumption) | omega | decide | (simp only [U_len, List.length_append, List.length_replicate, List.length_cons, List.length_nil, List.length_set] <;> omega) | fail) only [↓Xa, Xb, Xc, ↓reduceIte, Nat.reduceLT, Nat.reduceEqDiff, Nat.reduceBEq, Nat.reduceLeDiff, Nat.reduceAdd, Nat.reduceMul]
  have early : (p = iFrom l ∨ p < l.length) → SetR Q (.tup [.agg [.bool false, .seq 0 [] true], .int .i64 (p : Int)]) (H.upd p1 (some (.row 30 0 [.bool false, .seq 0 [] true]))) := fun h => by
    rw [rReadA, if_pos h, ← RefA_0t] at hq
    exact SetR.dropTo ((Le.refl H).updB n1) (SetR.now hq)
  have loop : iFrom l < l.length → ¬ (iFrom l = 1 ∧ (l.getD (iFrom l) 0).toNat = 48) → ∀ {E : Env}, E = [(0, Sx l), (2, .ptr p1 2 0), (4, .int .i64 (iFrom l : Int))] →
      W Tryd.prog (sndC (sndC (sndC (sndC ac46)))) (retN rs46 Q) ⟨[], E, H.upd p1 (some (.row 30 0 [.bool false, .seq 0 [] true]))⟩ := by
    intro h0l c3 E hE
    subst hE
    simp (disch := first | assumption | (apply Ap.symm; assumption) | omega | decide | (simp only [U_len, List.length_append, List.length_replicate, List.length_cons, List.length_nil, List.length_set] <;> omega) | fail) only [sndC, ac46, ↓Xa, Xb, Xc, ↓reduceIte, Nat.reduceLT, Nat.reduceEqDiff, Nat.reduceBEq, Nat.reduceLeDiff, Nat.reduceAdd, Nat.reduceMul]
    refine alloc_i fun p2 hp2 => ?_
    have n2 := hp2
    simp only [upd_none] at n2
    obtain ⟨_, n2⟩ := n2
    simp (disch := first | assumption | (apply Ap.symm; assumption) | omega | decide | (simp only [U_len, List.length_append, List.length_replicate, List.length_cons, List.length_nil, List.length_set] <;> omega) | fail) only [↓Xa, Xb, Xc, ↓reduceIte, Nat.reduceLT, Nat.reduceEqDiff, Nat.reduceBEq, Nat.reduceLeDiff, Nat.reduceAdd, Nat.reduceMul]
    refine W_loop (fun s : Nat × Bool => ⟨[], [(0, Sx l), (2, .ptr p1 2 0), (4, .int .i64 (iFrom l : Int)), (5, .ptr p2 2 0), (6, .int .i64 ((iFrom l + s.1 : Nat) : Int))], (H.upd p1 (some (.row 30 0 [.bool false, .seq 0 [] true]))).upd p2 (some (.row 30 0 [.bool false, LS (digs 65536 (decV ((l.drop (iFrom l)).take s.1))) s.2]))⟩)
      (fun s => iFrom l + s.1 ≤ l.length ∧ ∀ j, iFrom l ≤ j → j < iFrom l + s.1 → ¬ iBad l j) (fun s => l.length - (iFrom l + s.1)) (0, true) (Settle.now ?_) ⟨hf1, fun j h1 h2 => by dsimp only at h2; omega⟩ ?_
    · simp [decV, decF, digs_zero, LS, U]
    rintro ⟨i, t⟩ ⟨hi1, hi2⟩
    dsimp only at hi1 hi2 ⊢
    obtain ⟨q, hq'⟩ : ∃ q, q = iFrom l + i := ⟨_, rfl⟩
    rw [← hq'] at hi1 hi2 ⊢
    have stop : iBad l q → q = p := fun hb => isAt_fn ⟨by omega, hi1, hb, hi2⟩ hp
    have out : ∀ {x : ABlk}, q = p → q < l.length → SetR Q (.tup [.agg [.bool false, .seq 0 [] true], .int .i64 (q : Int)]) ((H.upd p1 (some (.row 30 0 [.bool false, .seq 0 [] true]))).upd p2 (some x)) := fun e h => by
      rw [e]; exact SetR.dropTo ((Le.refl _).upd hp2) (early (.inr (e ▸ h)))
    have hb1 : Bd 8192 ((decV ((l.drop (iFrom l)).take i) : Nat) : Int) := by
      unfold Bd
      rw [Int.natAbs_natCast]
      refine Nat.lt_of_lt_of_le (decV_lt fun b hb => ?_) (ten_bound (by simp; omega))
      obtain ⟨k, hk, rfl⟩ := List.getElem_of_mem hb
      simp only [List.length_take, List.length_drop] at hk
      have := hi2 (iFrom l + k) (by omega) (by omega)
      unfold iBad at this
      simp only [List.getElem_take, List.getElem_drop]
      have e : l.getD (iFrom l + k) 0 = l[iFrom l + k] := by rw [List.getD_eq_getElem?_getD, List.getElem?_eq_getElem (by omega), Option.getD_some]
      rw [e] at this; omega
    by_cases h : q < l.length
    · by_cases d1 : (l.getD q 0).toNat < 48
      · simp (disch := first | assumption | (apply Ap.symm; assumption) | omega | decide | (simp only [U_len, List.length_append, List.length_replicate, List.length_cons, List.length_nil, List.length_set] <;> omega) | fail) only [h, len_Sx, idx_Sx, d1, rs46, ↓Xa, Xb, Xc, ↓reduceIte, Nat.reduceLT, Nat.reduceEqDiff, Nat.reduceBEq, Nat.reduceLeDiff, Nat.reduceAdd, Nat.reduceMul]
        exact out (stop (.inl d1)) h
      by_cases d2 : 57 < (l.getD q 0).toNat
      · simp (disch := first | assumption | (apply Ap.symm; assumption) | omega | decide | (simp only [U_len, List.length_append, List.length_replicate, List.length_cons, List.length_nil, List.length_set] <;> omega) | fail) only [h, len_Sx, idx_Sx, d1, d2, rs46, ↓Xa, Xb, Xc, ↓reduceIte, Nat.reduceLT, Nat.reduceEqDiff, Nat.reduceBEq, Nat.reduceLeDiff, Nat.reduceAdd, Nat.reduceMul]
        exact out (stop (.inr (.inl d2))) h
      have nxt : ¬ iBad l q → ∀ j, iFrom l ≤ j → j < iFrom l + (i + 1) → ¬ iBad l j := fun hb j h1 hj => by
        by_cases e : j = q
        · rw [e]; exact hb
        · exact hi2 j h1 (by omega)
      have hx : iFrom l + i < l.length := by omega
      have hdr : i < (l.drop (iFrom l)).length := by simp; omega
      have eg : (l.drop (iFrom l)).getD i 0 = l.getD q 0 := by rw [hq']; simp [List.getD_eq_getElem?_getD]
      have hsucc := decV_take hdr
      rw [eg] at hsucc
      have hx2 : (l.getD q 0).toNat < 256 := UInt8.toNat_lt _
      have hsum : ((decV ((l.drop (iFrom l)).take i) : Nat) : Int) * ((10 : Nat) : Int) + (((l.getD q 0).toNat - 48 : Nat) : Int) = ((decV ((l.drop (iFrom l)).take (i + 1)) : Nat) : Int) := by rw [hsucc]; push_cast; rfl
      have hres : ∀ {x : ABlk} {v' : Nat}, v' = decV ((l.drop (iFrom l)).take (i + 1)) → (∀ j, iFrom l ≤ j → j < iFrom l + (i + 1) → ¬ iBad l j) → x = .row 30 0 [.bool false, LS (digs 65536 v') false] →
          Settle (fun s' => ∃ x' : Nat × Bool, l.length - (iFrom l + x'.1) < l.length - q ∧ (iFrom l + x'.1 ≤ l.length ∧ ∀ j, iFrom l ≤ j → j < iFrom l + x'.1 → ¬ iBad l j) ∧ s' = ⟨[], [(0, Sx l), (2, .ptr p1 2 0), (4, .int .i64 (iFrom l : Int)), (5, .ptr p2 2 0), (6, .int .i64 ((iFrom l + x'.1 : Nat) : Int))], (H.upd p1 (some (.row 30 0 [.bool false, .seq 0 [] true]))).upd p2 (some (.row 30 0 [.bool false, LS (digs 65536 (decV ((l.drop (iFrom l)).take x'.1))) x'.2]))⟩)
            ⟨[], [(0, Sx l), (2, .ptr p1 2 0), (4, .int .i64 (iFrom l : Int)), (5, .ptr p2 2 0), (6, .int .i64 ((q + 1 : Nat) : Int))], (H.upd p1 (some (.row 30 0 [.bool false, .seq 0 [] true]))).upd p2 (some x)⟩ := by
        rintro x v' rfl h1 rfl
        refine Settle.now ⟨(i + 1, false), by dsimp only; omega, ⟨by dsimp only; omega, h1⟩, ?_⟩
        rw [hq', Nat.add_assoc]
      generalize decV ((l.drop (iFrom l)).take (i + 1)) = w at *
      generalize decV ((l.drop (iFrom l)).take i) = v at *
      have nb0 : (q = iFrom l + 1 → (l.getD (iFrom l) 0).toNat ≠ 48) → ¬ iBad l q := fun k hb => by
        rcases hb with hb | hb | ⟨e1, e2⟩ | ⟨e1, e2, e3⟩
        · omega
        · omega
        · exact k e1 e2
        · exact c3 ⟨e2, e1 ▸ e3⟩
      by_cases d3 : q = iFrom l + 1
      · subst d3
        by_cases d4 : (l.getD (iFrom l) 0).toNat = 48
        · simp (disch := first | assumption | (apply Ap.symm; assumption) | omega | decide | (simp only [U_len, List.length_append, List.length_replicate, List.length_cons, List.length_nil, List.length_set] <;> omega) | fail) only [h, len_Sx, idx_Sx, d1, d2, d4, rs46, ↓Xa, Xb, Xc, ↓reduceIte, Nat.reduceLT, Nat.reduceEqDiff, Nat.reduceBEq, Nat.reduceLeDiff, Nat.reduceAdd, Nat.reduceMul]
          exact out (stop (.inr (.inr (.inl ⟨rfl, d4⟩)))) h
        have nb := nb0 fun _ => d4
        simp (disch := first | assumption | (apply Ap.symm; assumption) | omega | decide | (simp only [U_len, List.length_append, List.length_replicate, List.length_cons, List.length_nil, List.length_set] <;> omega) | fail) only [h, len_Sx, idx_Sx, d1, d2, d4, RefA_nat, ↓Xa, Xb, Xc, ↓reduceIte, Nat.reduceLT, Nat.reduceEqDiff, Nat.reduceBEq, Nat.reduceLeDiff, Nat.reduceAdd, Nat.reduceMul]
        refine PFn.dcall (rof_fn (n := ((10 : Nat) : Int)) (by omega)) ?_
        simp (disch := first | assumption | (apply Ap.symm; assumption) | omega | decide | (simp only [U_len, List.length_append, List.length_replicate, List.length_cons, List.length_nil, List.length_set] <;> omega) | fail) only [↓Xa, Xb, Xc, ↓reduceIte, Nat.reduceLT, Nat.reduceEqDiff, Nat.reduceBEq, Nat.reduceLeDiff, Nat.reduceAdd, Nat.reduceMul]
        refine PFn.dcall (rmuli_fn t false hb1 (by omega) (Bd.i64 (n := ((10 : Nat) : Int)) (by omega)) (by omega)) ?_
        simp (disch := first | assumption | (apply Ap.symm; assumption) | omega | decide | (simp only [U_len, List.length_append, List.length_replicate, List.length_cons, List.length_nil, List.length_set] <;> omega) | fail) only [idx_Sx, ↓Xa, Xb, Xc, ↓reduceIte, Nat.reduceLT, Nat.reduceEqDiff, Nat.reduceBEq, Nat.reduceLeDiff, Nat.reduceAdd, Nat.reduceMul]
        refine (rof_fn (by omega)).call ?_
        simp (disch := first | assumption | (apply Ap.symm; assumption) | omega | decide | (simp only [U_len, List.length_append, List.length_replicate, List.length_cons, List.length_nil, List.length_set] <;> omega) | fail) only [↓Xa, Xb, Xc, ↓reduceIte, Nat.reduceLT, Nat.reduceEqDiff, Nat.reduceBEq, Nat.reduceLeDiff, Nat.reduceAdd, Nat.reduceMul]
        refine (raddi_fn false false (hb1.mul (Bd.i64 (n := ((10 : Nat) : Int)) (by omega))) (by omega) (Bd.i64 (by omega)) (by omega)).call ?_
        rw [hsum]
        simp (disch := first | assumption | (apply Ap.symm; assumption) | omega | decide | (simp only [U_len, List.length_append, List.length_replicate, List.length_cons, List.length_nil, List.length_set] <;> omega) | fail) only [cells_RefN, ↓Xa, Xb, Xc, ↓reduceIte, Nat.reduceLT, Nat.reduceEqDiff, Nat.reduceBEq, Nat.reduceLeDiff, Nat.reduceAdd, Nat.reduceMul]
        exact hres rfl (nxt nb) rfl
      · have nb := nb0 fun e => absurd e d3
        simp (disch := first | assumption | (apply Ap.symm; assumption) | omega | decide | (simp only [U_len, List.length_append, List.length_replicate, List.length_cons, List.length_nil, List.length_set] <;> omega) | fail) only [h, len_Sx, idx_Sx, d1, d2, d3, RefA_nat, ↓Xa, Xb, Xc, ↓reduceIte, Nat.reduceLT, Nat.reduceEqDiff, Nat.reduceBEq, Nat.reduceLeDiff, Nat.reduceAdd, Nat.reduceMul]
        refine PFn.dcall (rof_fn (n := ((10 : Nat) : Int)) (by omega)) ?_
        simp (disch := first | assumption | (apply Ap.symm; assumption) | omega | decide | (simp only [U_len, List.length_append, List.length_replicate, List.length_cons, List.length_nil, List.length_set] <;> omega) | fail) only [↓Xa, Xb, Xc, ↓reduceIte, Nat.reduceLT, Nat.reduceEqDiff, Nat.reduceBEq, Nat.reduceLeDiff, Nat.reduceAdd, Nat.reduceMul]
        refine PFn.dcall (rmuli_fn t false hb1 (by omega) (Bd.i64 (n := ((10 : Nat) : Int)) (by omega)) (by omega)) ?_
        simp (disch := first | assumption | (apply Ap.symm; assumption) | omega | decide | (simp only [U_len, List.length_append, List.length_replicate, List.length_cons, List.length_nil, List.length_set] <;> omega) | fail) only [idx_Sx, ↓Xa, Xb, Xc, ↓reduceIte, Nat.reduceLT, Nat.reduceEqDiff, Nat.reduceBEq, Nat.reduceLeDiff, Nat.reduceAdd, Nat.reduceMul]
        refine (rof_fn (by omega)).call ?_
        simp (disch := first | assumption | (apply Ap.symm; assumption) | omega | decide | (simp only [U_len, List.length_append, List.length_replicate, List.length_cons, List.length_nil, List.length_set] <;> omega) | fail) only [↓Xa, Xb, Xc, ↓reduceIte, Nat.reduceLT, Nat.reduceEqDiff, Nat.reduceBEq, Nat.reduceLeDiff, Nat.reduceAdd, Nat.reduceMul]
        refine (raddi_fn false false (hb1.mul (Bd.i64 (n := ((10 : Nat) : Int)) (by omega))) (by omega) (Bd.i64 (by omega)) (by omega)).call ?_
        rw [hsum]
        simp (disch := first | assumption | (apply Ap.symm; assumption) | omega | decide | (simp only [U_len, List.length_append, List.length_replicate, List.length_cons, List.length_nil, List.length_set] <;> omega) | fail) only [cells_RefN, ↓Xa, Xb, Xc, ↓reduceIte, Nat.reduceLT, Nat.reduceEqDiff, Nat.reduceBEq, Nat.reduceLeDiff, Nat.reduceAdd, Nat.reduceMul]
        exact hres rfl (nxt nb) rfl
    · have e : q = l.length := by omega
      have e2 := stop (by rw [e]; exact iBad_end l)
      simp (disch := first | assumption | (apply Ap.symm; assumption) | omega | decide | (simp only [U_len, List.length_append, List.length_replicate, List.length_cons, List.length_nil, List.length_set] <;> omega) | fail) only [h, len_Sx, ↓Xa, Xb, Xc, ↓reduceIte, Nat.reduceLT, Nat.reduceEqDiff, Nat.reduceBEq, Nat.reduceLeDiff, Nat.reduceAdd, Nat.reduceMul]
      refine Settle.now ?_
      simp (disch := first | assumption | (apply Ap.symm; assumption) | omega | decide | (simp only [U_len, List.length_append, List.length_replicate, List.length_cons, List.length_nil, List.length_set] <;> omega) | fail) only [↓Xa, Xb, Xc, ↓reduceIte, Nat.reduceLT, Nat.reduceEqDiff, Nat.reduceBEq, Nat.reduceLeDiff, Nat.reduceAdd, Nat.reduceMul]
      refine (rnorm_fn (decide (iFrom l = 1)) t (lim_digs (by omega) _) ?_).call ?_
      · have := hb1.rlen; rw [Int.natAbs_natCast] at this; omega
      rw [val_digs (by omega)]
      simp (disch := first | assumption | (apply Ap.symm; assumption) | omega | decide | (simp only [U_len, List.length_append, List.length_replicate, List.length_cons, List.length_nil, List.length_set] <;> omega) | fail) only [cells_RefA, rs46, ↓Xa, Xb, Xc, ↓reduceIte, Nat.reduceLT, Nat.reduceEqDiff, Nat.reduceBEq, Nat.reduceLeDiff, Nat.reduceAdd, Nat.reduceMul]
      have e3 : (l.drop (iFrom l)).take i = l.drop (iFrom l) := List.take_of_length_le (by simp; omega)
      rw [e3]
      rw [rReadA, if_neg (by omega)] at hq
      exact SetR.dropTo (((Le.refl H).updB n1).updB n2) (SetR.now hq)
  have tail : ∀ {E : Env}, (E = [(0, Sx l), (2, .ptr p1 2 0), (4, .int .i64 (iFrom l : Int))] ∨ E = [(0, Sx l), (2, .ptr p1 2 0), (4, .int .i64 (iFrom l : Int)), (14, .bool false)]) →
      W Tryd.prog (sndC (sndC (sndC ac46))) (retN rs46 Q) ⟨[], E, H.upd p1 (some (.row 30 0 [.bool false, .seq 0 [] true]))⟩ := by
    intro E hE
    rcases hE with rfl | rfl
    all_goals
     by_cases c0 : l.length ≤ iFrom l
     · have e : p = iFrom l := by have := hp.1; have := hp.2.1; omega
       simp (disch := first | assumption | (apply Ap.symm; assumption) | omega | decide | (simp only [U_len, List.length_append, List.length_replicate, List.length_cons, List.length_nil, List.length_set] <;> omega) | fail) only [sndC, ac46, len_Sx, c0, rs46, ↓Xa, Xb, Xc, ↓reduceIte, Nat.reduceLT, Nat.reduceEqDiff, Nat.reduceBEq, Nat.reduceLeDiff, Nat.reduceAdd, Nat.reduceMul]
       rw [← e]; exact early (.inl e)
     have hat : iBad l (iFrom l) → p = iFrom l := fun hb => isAt_fn hp ⟨Nat.le_refl _, hf1, hb, fun j h1 h2 => by omega⟩
     have h0l : iFrom l < l.length := by omega
     by_cases c1 : (l.getD (iFrom l) 0).toNat < 48
     · have e := hat (.inl c1)
       simp (disch := first | assumption | (apply Ap.symm; assumption) | omega | decide | (simp only [U_len, List.length_append, List.length_replicate, List.length_cons, List.length_nil, List.length_set] <;> omega) | fail) only [sndC, ac46, len_Sx, idx_Sx, c0, c1, rs46, ↓Xa, Xb, Xc, ↓reduceIte, Nat.reduceLT, Nat.reduceEqDiff, Nat.reduceBEq, Nat.reduceLeDiff, Nat.reduceAdd, Nat.reduceMul]
       rw [← e]; exact early (.inl e)
     by_cases c2 : 57 < (l.getD (iFrom l) 0).toNat
     · have e := hat (.inr (.inl c2))
       simp (disch := first | assumption | (apply Ap.symm; assumption) | omega | decide | (simp only [U_len, List.length_append, List.length_replicate, List.length_cons, List.length_nil, List.length_set] <;> omega) | fail) only [sndC, ac46, len_Sx, idx_Sx, c0, c1, c2, rs46, ↓Xa, Xb, Xc, ↓reduceIte, Nat.reduceLT, Nat.reduceEqDiff, Nat.reduceBEq, Nat.reduceLeDiff, Nat.reduceAdd, Nat.reduceMul]
       rw [← e]; exact early (.inl e)
     by_cases c3 : iFrom l = 1
     · rw [c3] at h0l c0 c1 c2 ⊢
       by_cases c4 : (l.getD 1 0).toNat = 48
       · have e := hat (.inr (.inr (.inr ⟨rfl, c3, by rw [c3]; exact c4⟩)))
         simp (disch := first | assumption | (apply Ap.symm; assumption) | omega | decide | (simp only [U_len, List.length_append, List.length_replicate, List.length_cons, List.length_nil, List.length_set] <;> omega) | fail) only [sndC, ac46, len_Sx, idx_Sx, c0, c1, c2, c4, rs46, ↓Xa, Xb, Xc, ↓reduceIte, Nat.reduceLT, Nat.reduceEqDiff, Nat.reduceBEq, Nat.reduceLeDiff, Nat.reduceAdd, Nat.reduceMul]
         have := early (.inl e)
         rw [e, c3] at this; exact this
       · have lp := loop (by omega) (fun h => c4 (by have := h.2; rwa [c3] at this)) rfl
         rw [c3] at lp
         simp (disch := first | assumption | (apply Ap.symm; assumption) | omega | decide | (simp only [U_len, List.length_append, List.length_replicate, List.length_cons, List.length_nil, List.length_set] <;> omega) | fail) only [sndC, ac46, ↓Xa, Xb, Xc, ↓reduceIte, Nat.reduceLT, Nat.reduceEqDiff, Nat.reduceBEq, Nat.reduceLeDiff, Nat.reduceAdd, Nat.reduceMul] at lp
         simp (disch := first | assumption | (apply Ap.symm; assumption) | omega | decide | (simp only [U_len, List.length_append, List.length_replicate, List.length_cons, List.length_nil, List.length_set] <;> omega) | fail) only [sndC, ac46, len_Sx, idx_Sx, c0, c1, c2, c4, ↓Xa, Xb, Xc, ↓reduceIte, Nat.reduceLT, Nat.reduceEqDiff, Nat.reduceBEq, Nat.reduceLeDiff, Nat.reduceAdd, Nat.reduceMul]
         exact lp
     · have lp := loop h0l (fun h => c3 h.1) rfl
       simp (disch := first | assumption | (apply Ap.symm; assumption) | omega | decide | (simp only [U_len, List.length_append, List.length_replicate, List.length_cons, List.length_nil, List.length_set] <;> omega) | fail) only [sndC, ac46, ↓Xa, Xb, Xc, ↓reduceIte, Nat.reduceLT, Nat.reduceEqDiff, Nat.reduceBEq, Nat.reduceLeDiff, Nat.reduceAdd, Nat.reduceMul] at lp
       simp (disch := first | assumption | (apply Ap.symm; assumption) | omega | decide | (simp only [U_len, List.length_append, List.length_replicate, List.length_cons, List.length_nil, List.length_set] <;> omega) | fail) only [sndC, ac46, len_Sx, idx_Sx, c0, c1, c2, c3, ↓Xa, Xb, Xc, ↓reduceIte, Nat.reduceLT, Nat.reduceEqDiff, Nat.reduceBEq, Nat.reduceLeDiff, Nat.reduceAdd, Nat.reduceMul]
       exact lp
  by_cases h0 : l = []
  · have tl := @tail _ (.inr rfl)
    have hf0 : iFrom l = 0 := by rw [h0]; rfl
    rw [hf0] at tl
    rw [h0] at tl
    simp (disch := first | assumption | (apply Ap.symm; assumption) | omega | decide | (simp only [U_len, List.length_append, List.length_replicate, List.length_cons, List.length_nil, List.length_set] <;> omega) | fail) only [sndC, ac46, len_Sx, List.length_nil, ↓Xa, Xb, Xc, ↓reduceIte, Nat.reduceLT, Nat.reduceEqDiff, Nat.reduceBEq, Nat.reduceLeDiff, Nat.reduceAdd, Nat.reduceMul] at tl
    simp (disch := first | assumption | (apply Ap.symm; assumption) | omega | decide | (simp only [U_len, List.length_append, List.length_replicate, List.length_cons, List.length_nil, List.length_set] <;> omega) | fail) only [len_Sx, h0, List.length_nil, ↓Xa, Xb, Xc, ↓reduceIte, Nat.reduceLT, Nat.reduceEqDiff, Nat.reduceBEq, Nat.reduceLeDiff, Nat.reduceAdd, Nat.reduceMul]
    exact tl
  have hpos : 0 < l.length := List.length_pos_iff.2 h0
  by_cases h2 : (l.getD 0 0).toNat = 45
  · have tl := @tail _ (.inl rfl)
    have hf0 : iFrom l = 1 := by unfold iFrom; rw [if_pos h2]
    rw [hf0] at tl
    simp (disch := first | assumption | (apply Ap.symm; assumption) | omega | decide | (simp only [U_len, List.length_append, List.length_replicate, List.length_cons, List.length_nil, List.length_set] <;> omega) | fail) only [sndC, ac46, len_Sx, hpos, idx_Sx, h2, ↓Xa, Xb, Xc, ↓reduceIte, Nat.reduceLT, Nat.reduceEqDiff, Nat.reduceBEq, Nat.reduceLeDiff, Nat.reduceAdd, Nat.reduceMul] at tl
    simp (disch := first | assumption | (apply Ap.symm; assumption) | omega | decide | (simp only [U_len, List.length_append, List.length_replicate, List.length_cons, List.length_nil, List.length_set] <;> omega) | fail) only [len_Sx, hpos, idx_Sx, h2, ↓Xa, Xb, Xc, ↓reduceIte, Nat.reduceLT, Nat.reduceEqDiff, Nat.reduceBEq, Nat.reduceLeDiff, Nat.reduceAdd, Nat.reduceMul]
    exact tl
  · have tl := @tail _ (.inr rfl)
    have hf0 : iFrom l = 0 := by unfold iFrom; rw [if_neg h2]
    rw [hf0] at tl
    simp (disch := first | assumption | (apply Ap.symm; assumption) | omega | decide | (simp only [U_len, List.length_append, List.length_replicate, List.length_cons, List.length_nil, List.length_set] <;> omega) | fail) only [sndC, ac46, len_Sx, hpos, idx_Sx, h2, ↓Xa, Xb, Xc, ↓reduceIte, Nat.reduceLT, Nat.reduceEqDiff, Nat.reduceBEq, Nat.reduceLeDiff, Nat.reduceAdd, Nat.reduceMul] at tl
    simp (disch := first | assumption | (apply Ap.symm; assumption) | omega | decide | (simp only [U_len, List.length_append, List.length_replicate, List.length_cons, List.length_nil, List.length_set] <;> omega) | fail) only [len_Sx, hpos, idx_Sx, h2, ↓Xa, Xb, Xc, ↓reduceIte, Nat.reduceLT, Nat.reduceEqDiff, Nat.reduceBEq, Nat.reduceLeDiff, Nat.reduceAdd, Nat.reduceMul]
    exact tl
end Go.Proofs.YtipbcjnniamcgaaDoor.Fw

/- A whole number's text, as the reference of layer 2 tells it. -/
namespace Go.Proofs.YtipbcjnniamcgaaDoor.Fw
set_option linter.unusedSimpArgs false
set_option linter.unusedVariables false
open Go Go.Proofs.YtipbcjnniamcgaaDoor.Ma
set_option maxRecDepth 20000

/-- The first and the last i bytes turned about. -/
def revI (i : Nat) (l : List UInt8) : List UInt8 := (List.range l.length).map fun j => if j < i ∨ l.length - i ≤ j then l.getD (l.length - 1 - j) 0 else l.getD j 0
end Go.Proofs.YtipbcjnniamcgaaDoor.Fw

/- How often two divides a number. -/
namespace Go.Proofs.YtipbcjnniamcgaaDoor.Ma
set_option linter.unusedSimpArgs false
set_option linter.unusedVariables false

def tz (n : Nat) : Nat := if h : n = 0 ∨ n % 2 = 1 then 0 else tz (n / 2) + 1
termination_by n
decreasing_by omega
def deB : List Nat := [0, 1, 28, 2, 29, 14, 24, 3, 30, 22, 20, 15, 25, 17, 4, 8, 31, 27, 13, 23, 21, 19, 16, 7, 26, 12, 18, 6, 11, 5, 10, 9]
end Go.Proofs.YtipbcjnniamcgaaDoor.Ma

/- How often two divides a row of limbs: the library's table read. -/
namespace Go.Proofs.YtipbcjnniamcgaaDoor.Fw
set_option linter.unusedSimpArgs false
set_option linter.unusedVariables false
open Go Go.Proofs.YtipbcjnniamcgaaDoor.Ma
set_option maxRecDepth 20000

/-- The table stands in memory. -/
def tabC : List AV := deB.map fun (n : Nat) => AV.int .u8 (n : Int)
def TzH (H : AHeap) : Prop := H 0 = some (.glob 0 tabC)
theorem TzH.le {H H' : AHeap} (h : TzH H) (hl : Le H H') : TzH H' := hl _ _ h
end Go.Proofs.YtipbcjnniamcgaaDoor.Fw

/- How often two divides a whole number; shifts of whole numbers; powers of two: the program's and the reference's. -/
namespace Go.Proofs.YtipbcjnniamcgaaDoor.Fw
set_option linter.unusedSimpArgs false
set_option linter.unusedVariables false
open Go Go.Proofs.YtipbcjnniamcgaaDoor.Ma
set_option maxRecDepth 20000

/-- How often two divides a whole number; -1 of nought. -/
def twV (x : Int) : Int := if x = 0 then -1 else ((tz x.natAbs : Nat) : Int)
end Go.Proofs.YtipbcjnniamcgaaDoor.Fw

/- Exact halvings of whole numbers; the reference's powers of two. -/
namespace Go.Proofs.YtipbcjnniamcgaaDoor.Fw
set_option linter.unusedSimpArgs false
set_option linter.unusedVariables false
open Go Go.Proofs.YtipbcjnniamcgaaDoor.Ma
set_option maxRecDepth 20000

/-- What an exact halving answers. -/
def shrR (x : Int) (n : Int) : AV :=
  if n < 0 then .tup [IntA 0, .int .i64 ((2 : Nat) : Int)] else if x = 0 then .tup [IntA 0, .int .i64 ((0 : Nat) : Int)]
  else if twV x < n then .tup [IntA 0, .int .i64 ((20 : Nat) : Int)] else .tup [IntA (x / 2 ^ n.toNat), .int .i64 ((0 : Nat) : Int)]
/-- The row of a power of two. -/
def pwRow (n : Nat) : List Nat := (List.replicate (n / 16 + 1) 0).set (n / 16) (2 ^ (n % 16))
end Go.Proofs.YtipbcjnniamcgaaDoor.Fw

/- The looked-up code of one function, and that it is: by a program (wip/tools/ac.py); Lean checks it. -/
namespace Go.Proofs.YtipbcjnniamcgaaDoor.Fw
open Go
set_option maxRecDepth 100000
end Go.Proofs.YtipbcjnniamcgaaDoor.Fw

/- The law of twos, as what its code computes: true. -/
namespace Go.Proofs.YtipbcjnniamcgaaDoor.Fw
set_option linter.unusedSimpArgs false
set_option linter.unusedVariables false
open Go Go.Proofs.YtipbcjnniamcgaaDoor.Ma
set_option maxRecDepth 20000

end Go.Proofs.YtipbcjnniamcgaaDoor.Fw

/- The looked-up code of one function, and that it is: by a program (wip/tools/ac.py); Lean checks it. -/
namespace Go.Proofs.YtipbcjnniamcgaaDoor.Fw
open Go
set_option maxRecDepth 100000
end Go.Proofs.YtipbcjnniamcgaaDoor.Fw

/- The looked-up code of one function, and that it is: by a program (wip/tools/ac.py); Lean checks it. -/
namespace Go.Proofs.YtipbcjnniamcgaaDoor.Fw
open Go
set_option maxRecDepth 100000
def ac7 : ACode := (.seq (.reg [⟨(some 2), none, (.mov (.k (.bool false)))⟩] [0]) (.seq (.seq (.reg [⟨(some 7), none, (.call (.k (.fn (.func 18) [] [])) [])⟩, ⟨(some 8), none, (.un .not (.t 7))⟩] [0, 8]) (.cond (.t 8) (.seq (.reg [⟨(some 2), none, (.mov (.k (.bool false)))⟩] [2]) .ret) .skip)) (.seq (.seq (.reg [⟨(some 9), none, (.mov (.t 0))⟩, ⟨(some 10), none, (.len true (.t 9))⟩, ⟨(some 11), none, (.bin .gtr (.t 10) (.k (.int .i64 ((400 : Nat) : Int))))⟩] [0, 11]) (.cond (.t 11) (.seq (.reg [⟨(some 2), none, (.mov (.k (.bool true)))⟩] [2]) .ret) .skip)) (.seq (.reg [⟨(some 13), none, (.mov (.t 0))⟩, ⟨(some 14), none, (.call (.k (.fn (.func 43) [] [])) [(.t 13)])⟩, ⟨(some 12), none, (.mov (.t 14))⟩, ⟨(some 15), none, (.ext (.t 12) 0)⟩, ⟨(some 16), none, (.ext (.t 12) 1)⟩, ⟨(some 3), none, (.alloc 28 0 [(.bool false), (.seq 0 [] true)])⟩, ⟨(some 4), none, (.alloc 58 0 [(.int .i64 ((0 : Nat) : Int)), (.int .i64 ((0 : Nat) : Int))])⟩, ⟨none, none, (.store 2 (.t 3) (.t 15))⟩, ⟨none, none, (.store 2 (.t 4) (.t 16))⟩] [0, 3, 4]) (.seq (.reg [⟨(some 18), none, (.mov (.t 0))⟩, ⟨(some 19), none, (.call (.k (.fn (.func 46) [] [])) [(.t 18)])⟩, ⟨(some 17), none, (.mov (.t 19))⟩, ⟨(some 20), none, (.ext (.t 17) 0)⟩, ⟨(some 21), none, (.ext (.t 17) 1)⟩, ⟨(some 5), none, (.alloc 30 0 [(.bool false), (.seq 0 [] true)])⟩, ⟨none, none, (.store 2 (.t 5) (.t 20))⟩, ⟨(some 6), none, (.mov (.t 21))⟩] [0, 3, 4, 5, 6]) (.seq (.seq (.reg [⟨(some 22), none, (.mov (.t 6))⟩, ⟨(some 23), none, (.bin .geq (.t 22) (.k (.int .i64 ((0 : Nat) : Int))))⟩] [0, 3, 4, 5, 6, 23]) (.cond (.t 23) (.seq (.reg [⟨(some 24), none, (.load (some 2) (.t 3))⟩, ⟨(some 25), none, (.call (.k (.fn (.func 27) [] [])) [(.t 24)])⟩, ⟨(some 26), none, (.mov (.t 25))⟩, ⟨(some 27), (some (26, true)), (.fldA 0 (.t 4))⟩, ⟨(some 28), (some (26, true)), (.load none (.t 27))⟩, ⟨(some 29), (some (26, true)), (.bin .eql (.t 28) (.k (.int .i64 ((6 : Nat) : Int))))⟩, ⟨(some 30), none, (.pick (.t 26) (.t 29) (.k (.bool false)))⟩, ⟨(some 31), none, (.mov (.t 30))⟩, ⟨(some 32), (some (31, true)), (.fldA 1 (.t 4))⟩, ⟨(some 33), (some (31, true)), (.load none (.t 32))⟩, ⟨(some 34), (some (31, true)), (.mov (.t 6))⟩, ⟨(some 35), (some (31, true)), (.bin .eql (.t 33) (.t 34))⟩, ⟨(some 36), none, (.pick (.t 31) (.t 35) (.k (.bool false)))⟩, ⟨(some 2), none, (.mov (.t 36))⟩] [2]) .ret) .skip)) (.seq (.reg [⟨(some 37), none, (.load (some 2) (.t 3))⟩, ⟨(some 38), none, (.load (some 2) (.t 5))⟩, ⟨(some 39), none, (.call (.k (.fn (.func 29) [] [])) [(.t 37), (.t 38)])⟩, ⟨(some 40), none, (.mov (.t 39))⟩, ⟨(some 41), (some (40, true)), (.fldA 0 (.t 4))⟩, ⟨(some 42), (some (40, true)), (.load none (.t 41))⟩, ⟨(some 43), (some (40, true)), (.bin .eql (.t 42) (.k (.int .i64 ((0 : Nat) : Int))))⟩, ⟨(some 44), none, (.pick (.t 40) (.t 43) (.k (.bool false)))⟩, ⟨(some 45), none, (.mov (.t 44))⟩, ⟨(some 46), (some (45, true)), (.fldA 1 (.t 4))⟩, ⟨(some 47), (some (45, true)), (.load none (.t 46))⟩, ⟨(some 48), (some (45, true)), (.bin .eql (.t 47) (.k (.int .i64 ((0 : Nat) : Int))))⟩, ⟨(some 49), none, (.pick (.t 45) (.t 48) (.k (.bool false)))⟩, ⟨(some 50), none, (.mov (.t 49))⟩, ⟨(some 51), (some (50, true)), (.load (some 2) (.t 3))⟩, ⟨(some 52), (some (50, true)), (.call (.k (.fn (.func 42) [] [])) [(.t 51)])⟩, ⟨(some 53), (some (50, true)), (.mov (.t 0))⟩, ⟨(some 54), (some (50, true)), (.bin .eql (.t 52) (.t 53))⟩, ⟨(some 55), none, (.pick (.t 50) (.t 54) (.k (.bool false)))⟩, ⟨(some 2), none, (.mov (.t 55))⟩] [2]) .ret)))))))
def rs7 : List RV := [(.t 2)]
theorem co7 : compFn Go.Proofs.Tryd.prog Go.Proofs.Tryd.f7 pl7 = some (ac7, rs7) := by kernel_rfl
theorem enter7 {args : List AV} {H : AHeap} {Q : AV → AHeap → Prop} (hn : args.length ≤ 56) (h : W Go.Proofs.Tryd.prog ac7 (retN rs7 Q) ⟨[], initE args 0, H⟩) : Run Go.Proofs.Tryd.prog 7 args H Q := Run_fn2 mixed Go.Proofs.Tryd.func7 (by kernel_rfl) co7 (n := 56) (by kernel_rfl) hn h
end Go.Proofs.YtipbcjnniamcgaaDoor.Fw

/- The laws of whole numbers' texts, as what their code computes: true. -/
namespace Go.Proofs.YtipbcjnniamcgaaDoor.Fw
set_option linter.unusedSimpArgs false
set_option linter.unusedVariables false
open Go Go.Proofs.YtipbcjnniamcgaaDoor.Ma
set_option maxRecDepth 20000

theorem cells_R0t : (RefA 0 true).cells = some [.bool false, .seq 0 [] true] := by rw [← RefA_0t]; rfl
theorem decV_pos {m : List UInt8} (hg : Good m) (h : (m.getD 0 0).toNat ≠ 48) : 0 < decV m := by
  rcases Nat.eq_zero_or_pos (decV m) with e | e
  · have := decT_decV hg
    rw [e] at this
    exact absurd (by rw [← this]; rfl) h
  · exact e
theorem iText_iVal {l : List UInt8} (h : IsAt l l.length) (hn : l.length ≠ iFrom l) : iText (iVal l) = l := by
  have hg := isAt_good h hn
  have hd := decT_decV hg
  have hf := iFrom_le l
  have e0 : (l.drop (iFrom l)).getD 0 0 = l.getD (iFrom l) 0 := by simp [List.getD_eq_getElem?_getD]
  unfold iVal
  by_cases c : iFrom l = 1
  · have hne : (l.getD (iFrom l) 0).toNat ≠ 48 := fun hz => h.2.2.2 (iFrom l) (Nat.le_refl _) (by omega) (.inr (.inr (.inr ⟨rfl, c, hz⟩)))
    have hp := decV_pos hg (by rw [e0]; exact hne)
    have hneg : sg (decide (iFrom l = 1)) (decV (l.drop (iFrom l))) < 0 := by
      rw [decide_eq_true c]
      show -((decV (l.drop (iFrom l)) : Nat) : Int) < 0
      omega
    rw [iText, if_pos hneg, sg_abs, hd]
    have h45 : (l.getD 0 0).toNat = 45 := by
      by_cases e : (l.getD 0 0).toNat = 45
      · exact e
      · unfold iFrom at c; rw [if_neg e] at c; omega
    match l, c, h45 with
    | b :: m, c, h45 =>
      have hb : b = 45 := UInt8.toNat_inj.1 (by simpa using h45)
      rw [c, hb]; rfl
  · have c0 : iFrom l = 0 := by omega
    have hnn : ¬ sg (decide (iFrom l = 1)) (decV (l.drop (iFrom l))) < 0 := by simp [c, sg]
    rw [iText, if_neg hnn, sg_abs, hd, c0]; simp
theorem reads_law (l : List UInt8) (hl : l.length < 9223372036854775807) : PFn Tryd.prog 7 [Sx l] (.bool true) := by
  intro H Q hq
  have out : ∀ {H' : AHeap}, Le H H' → SetR Q (.bool true) H' := fun h => SetR.dropTo h (SetR.now hq)
  refine enter7 (by simp) ?_
  simp (disch := first | assumption | (apply Ap.symm; assumption) | omega | decide | (simp only [U_len, List.length_append, List.length_replicate, List.length_cons, List.length_nil, List.length_set] <;> omega) | fail) only [ac7, ↓Xa, Xb, Xc, ↓reduceIte, Nat.reduceLT, Nat.reduceEqDiff, Nat.reduceBEq, Nat.reduceLeDiff, Nat.reduceAdd, Nat.reduceMul]
  refine live_fn.call ?_
  by_cases h1 : 400 < l.length
  · simp (disch := first | assumption | (apply Ap.symm; assumption) | omega | decide | (simp only [U_len, List.length_append, List.length_replicate, List.length_cons, List.length_nil, List.length_set] <;> omega) | fail) only [len_Sx, h1, rs7, ↓Xa, Xb, Xc, ↓reduceIte, Nat.reduceLT, Nat.reduceEqDiff, Nat.reduceBEq, Nat.reduceLeDiff, Nat.reduceAdd, Nat.reduceMul]
    exact SetR.now hq
  obtain ⟨p, hp⟩ := isAt_ex l
  simp (disch := first | assumption | (apply Ap.symm; assumption) | omega | decide | (simp only [U_len, List.length_append, List.length_replicate, List.length_cons, List.length_nil, List.length_set] <;> omega) | fail) only [len_Sx, h1, ↓Xa, Xb, Xc, ↓reduceIte, Nat.reduceLT, Nat.reduceEqDiff, Nat.reduceBEq, Nat.reduceLeDiff, Nat.reduceAdd, Nat.reduceMul]
  by_cases hb : p = iFrom l ∨ p < l.length
  · have hr := iread_fn hp hl
    rw [iReadA, if_neg (by omega), if_pos hb] at hr
    refine hr.call ?_
    simp (disch := first | assumption | (apply Ap.symm; assumption) | omega | decide | (simp only [U_len, List.length_append, List.length_replicate, List.length_cons, List.length_nil, List.length_set] <;> omega) | fail) only [spot, ↓Xa, Xb, Xc, ↓reduceIte, Nat.reduceLT, Nat.reduceEqDiff, Nat.reduceBEq, Nat.reduceLeDiff, Nat.reduceAdd, Nat.reduceMul]
    refine alloc_i fun p1 hp1 => ?_
    have n1 := hp1
    simp (disch := first | assumption | (apply Ap.symm; assumption) | omega | decide | (simp only [U_len, List.length_append, List.length_replicate, List.length_cons, List.length_nil, List.length_set] <;> omega) | fail) only [↓Xa, Xb, Xc, ↓reduceIte, Nat.reduceLT, Nat.reduceEqDiff, Nat.reduceBEq, Nat.reduceLeDiff, Nat.reduceAdd, Nat.reduceMul]
    refine alloc_i fun p2 hp2 => ?_
    have n2 := hp2
    simp only [upd_none] at n2
    obtain ⟨_, n2⟩ := n2
    simp (disch := first | assumption | (apply Ap.symm; assumption) | omega | decide | (simp only [U_len, List.length_append, List.length_replicate, List.length_cons, List.length_nil, List.length_set] <;> omega) | fail) only [cells_IntA, fold_IntA, cells_i2, ↓Xa, Xb, Xc, ↓reduceIte, Nat.reduceLT, Nat.reduceEqDiff, Nat.reduceBEq, Nat.reduceLeDiff, Nat.reduceAdd, Nat.reduceMul]
    have hw := rread_fn hp (by omega)
    rw [rReadA, if_pos hb] at hw
    refine hw.call ?_
    simp (disch := first | assumption | (apply Ap.symm; assumption) | omega | decide | (simp only [U_len, List.length_append, List.length_replicate, List.length_cons, List.length_nil, List.length_set] <;> omega) | fail) only [↓Xa, Xb, Xc, ↓reduceIte, Nat.reduceLT, Nat.reduceEqDiff, Nat.reduceBEq, Nat.reduceLeDiff, Nat.reduceAdd, Nat.reduceMul]
    refine alloc_i fun p3 hp3 => ?_
    have n3 := hp3
    simp only [upd_none] at n3
    obtain ⟨_, _, n3⟩ := n3
    simp (disch := first | assumption | (apply Ap.symm; assumption) | omega | decide | (simp only [U_len, List.length_append, List.length_replicate, List.length_cons, List.length_nil, List.length_set] <;> omega) | fail) only [cells_IntA, fold_IntA, cells_R0t, cells_i2, ↓Xa, Xb, Xc, ↓reduceIte, Nat.reduceLT, Nat.reduceEqDiff, Nat.reduceBEq, Nat.reduceLeDiff, Nat.reduceAdd, Nat.reduceMul]
    refine (zero_fn (Bd.zero 1) (by omega)).call ?_
    simp (disch := first | assumption | (apply Ap.symm; assumption) | omega | decide | (simp only [U_len, List.length_append, List.length_replicate, List.length_cons, List.length_nil, List.length_set] <;> omega) | fail) only [decide_true, cells_IntA, fold_IntA, cells_RefA, fold_RefA, rs7, ↓Xa, Xb, Xc, ↓reduceIte, Nat.reduceLT, Nat.reduceEqDiff, Nat.reduceBEq, Nat.reduceLeDiff, Nat.reduceAdd, Nat.reduceMul]
    exact out ((((Le.refl H).updB n1).updB n2).updB n3)
  · have hpl : p = l.length := by have := hp.2.1; omega
    subst hpl
    have hne : l.length ≠ iFrom l := fun e => hb (.inl e)
    have hx : Bd 8192 (iVal l) := Bd.sgn (Nat.lt_of_lt_of_le (decV_lt fun b hb => ((isAt_good hp hne).2.1 b hb).2) (ten_bound (by simp; omega)))
    have hr := iread_fn hp hl
    rw [iReadA, if_neg (by omega), if_neg hb] at hr
    refine hr.call ?_
    simp (disch := first | assumption | (apply Ap.symm; assumption) | omega | decide | (simp only [U_len, List.length_append, List.length_replicate, List.length_cons, List.length_nil, List.length_set] <;> omega) | fail) only [spot, ↓Xa, Xb, Xc, ↓reduceIte, Nat.reduceLT, Nat.reduceEqDiff, Nat.reduceBEq, Nat.reduceLeDiff, Nat.reduceAdd, Nat.reduceMul]
    refine alloc_i fun p1 hp1 => ?_
    have n1 := hp1
    simp (disch := first | assumption | (apply Ap.symm; assumption) | omega | decide | (simp only [U_len, List.length_append, List.length_replicate, List.length_cons, List.length_nil, List.length_set] <;> omega) | fail) only [↓Xa, Xb, Xc, ↓reduceIte, Nat.reduceLT, Nat.reduceEqDiff, Nat.reduceBEq, Nat.reduceLeDiff, Nat.reduceAdd, Nat.reduceMul]
    refine alloc_i fun p2 hp2 => ?_
    have n2 := hp2
    simp only [upd_none] at n2
    obtain ⟨_, n2⟩ := n2
    simp (disch := first | assumption | (apply Ap.symm; assumption) | omega | decide | (simp only [U_len, List.length_append, List.length_replicate, List.length_cons, List.length_nil, List.length_set] <;> omega) | fail) only [cells_IntA, fold_IntA, cells_i2, ↓Xa, Xb, Xc, ↓reduceIte, Nat.reduceLT, Nat.reduceEqDiff, Nat.reduceBEq, Nat.reduceLeDiff, Nat.reduceAdd, Nat.reduceMul]
    have hw := rread_fn hp (by omega)
    rw [rReadA, if_neg hb] at hw
    refine hw.call ?_
    simp (disch := first | assumption | (apply Ap.symm; assumption) | omega | decide | (simp only [U_len, List.length_append, List.length_replicate, List.length_cons, List.length_nil, List.length_set] <;> omega) | fail) only [↓Xa, Xb, Xc, ↓reduceIte, Nat.reduceLT, Nat.reduceEqDiff, Nat.reduceBEq, Nat.reduceLeDiff, Nat.reduceAdd, Nat.reduceMul]
    refine alloc_i fun p3 hp3 => ?_
    have n3 := hp3
    simp only [upd_none] at n3
    obtain ⟨_, _, n3⟩ := n3
    simp (disch := first | assumption | (apply Ap.symm; assumption) | omega | decide | (simp only [U_len, List.length_append, List.length_replicate, List.length_cons, List.length_nil, List.length_set] <;> omega) | fail) only [cells_IntA, fold_IntA, cells_RefA, fold_RefA, cells_i2, ↓Xa, Xb, Xc, ↓reduceIte, Nat.reduceLT, Nat.reduceEqDiff, Nat.reduceBEq, Nat.reduceLeDiff, Nat.reduceAdd, Nat.reduceMul]
    refine (is_same false hx (by omega)).call ?_
    simp (disch := first | assumption | (apply Ap.symm; assumption) | omega | decide | (simp only [U_len, List.length_append, List.length_replicate, List.length_cons, List.length_nil, List.length_set] <;> omega) | fail) only [decide_true, cells_IntA, fold_IntA, cells_RefA, fold_RefA, cells_i2, ↓Xa, Xb, Xc, ↓reduceIte, Nat.reduceLT, Nat.reduceEqDiff, Nat.reduceBEq, Nat.reduceLeDiff, Nat.reduceAdd, Nat.reduceMul]
    refine (itext_fn hx (by omega)).call ?_
    rw [iText_iVal hp hne]
    simp (disch := first | assumption | (apply Ap.symm; assumption) | omega | decide | (simp only [U_len, List.length_append, List.length_replicate, List.length_cons, List.length_nil, List.length_set] <;> omega) | fail) only [eql_Sx, decide_true, rs7, ↓Xa, Xb, Xc, ↓reduceIte, Nat.reduceLT, Nat.reduceEqDiff, Nat.reduceBEq, Nat.reduceLeDiff, Nat.reduceAdd, Nat.reduceMul]
    exact out ((((Le.refl H).updB n1).updB n2).updB n3)
theorem Sx_of (s : ByteArray) : Sx s.data.toList = .str s := by cases s; rfl
theorem integerReads_law (s : ByteArray) (h : s.size ≤ 140737488351232) : PFn Tryd.prog 7 [.str s] (.bool true) := by
  rw [← Sx_of]
  exact reads_law _ (by have : s.data.toList.length = s.size := rfl; omega)
end Go.Proofs.YtipbcjnniamcgaaDoor.Fw
