/- The texts Yc Yd Qb Qc Ye Ym Kc Kd Al21, joined. -/
import Derived.Test.YtanchgkiomfhhaaDoorZ6
/- A whole number's text read, as package integer and as its reference read it. -/
namespace Go.Proofs.YtanchgkiomfhhaaDoor.Fw
set_option linter.unusedSimpArgs false
set_option linter.unusedVariables false
open Go Go.Proofs.YtanchgkiomfhhaaDoor.Ma
set_option maxRecDepth 20000

def iFrom (l : List UInt8) : Nat := if (l.getD 0 0).toNat = 45 then 1 else 0
def iBad (l : List UInt8) (i : Nat) : Prop := (l.getD i 0).toNat < 48 ∨ 57 < (l.getD i 0).toNat ∨ (i = iFrom l + 1 ∧ (l.getD (iFrom l) 0).toNat = 48) ∨ (i = iFrom l ∧ iFrom l = 1 ∧ (l.getD i 0).toNat = 48)
def IsAt (l : List UInt8) (p : Nat) : Prop := iFrom l ≤ p ∧ p ≤ l.length ∧ iBad l p ∧ ∀ j, iFrom l ≤ j → j < p → ¬ iBad l j
theorem get_beyond {l : List UInt8} {i : Nat} (h : l.length ≤ i) : l.getD i 0 = 0 := by
  rw [List.getD_eq_getElem?_getD, List.getElem?_eq_none h]; rfl
theorem iBad_end (l : List UInt8) : iBad l l.length := .inl (by rw [get_beyond (Nat.le_refl _)]; decide)
theorem iFrom_le (l : List UInt8) : iFrom l ≤ l.length ∧ iFrom l ≤ 1 := by
  unfold iFrom; split
  · rename_i h
    cases l with
    | nil => simp at h
    | cons x l => simp
  · simp
theorem first_of {P : Nat → Prop} (lo : Nat) : ∀ n, (∃ p, lo ≤ p ∧ p < lo + n ∧ P p ∧ ∀ j, lo ≤ j → j < p → ¬ P j) ∨ ∀ j, lo ≤ j → j < lo + n → ¬ P j
  | 0 => .inr fun j h1 h2 => by omega
  | n + 1 => by
    rcases first_of (P := P) lo n with ⟨p, a, b, c, d⟩ | h
    · exact .inl ⟨p, a, by omega, c, d⟩
    · by_cases hp : P (lo + n)
      · exact .inl ⟨lo + n, by omega, by omega, hp, h⟩
      · refine .inr fun j h1 h2 => ?_
        by_cases e : j = lo + n
        · rw [e]; exact hp
        · exact h j h1 (by omega)
theorem isAt_ex (l : List UInt8) : ∃ p, IsAt l p := by
  have h0 := (iFrom_le l).1
  rcases first_of (P := iBad l) (iFrom l) (l.length - iFrom l) with ⟨p, a, b, c, d⟩ | h
  · exact ⟨p, a, by omega, c, d⟩
  · exact ⟨l.length, h0, Nat.le_refl _, iBad_end l, fun j h1 h2 => h j h1 (by omega)⟩
theorem isAt_fn {l : List UInt8} {p q : Nat} (h : IsAt l p) (h' : IsAt l q) : p = q := by
  obtain ⟨a, b, c, d⟩ := h
  obtain ⟨a', b', c', d'⟩ := h'
  rcases Nat.lt_trichotomy p q with e | e | e
  · exact absurd c (d' p a e)
  · exact e
  · exact absurd c' (d q a' e)
def iVal (l : List UInt8) : Int := sg (decide (iFrom l = 1)) (decV (l.drop (iFrom l)))
theorem isAt_good {l : List UInt8} (h : IsAt l l.length) (hn : l.length ≠ iFrom l) : Good (l.drop (iFrom l)) := by
  have hf := (iFrom_le l).1
  obtain ⟨a, b, c, d⟩ := h
  refine good_of (by intro e; have := congrArg List.length e; simp at this; omega) fun i hi hb => ?_
  have hi' : iFrom l + i < l.length := by simp at hi; omega
  have e : (l.drop (iFrom l)).getD i 0 = l.getD (iFrom l + i) 0 := by simp [List.getD_eq_getElem?_getD]
  have e0 : (l.drop (iFrom l)).getD 0 0 = l.getD (iFrom l) 0 := by simp [List.getD_eq_getElem?_getD]
  unfold badAt at hb
  rw [e, e0] at hb
  rcases hb with hb | hb | ⟨hb, hb2⟩
  · exact d (iFrom l + i) (by omega) hi' (.inl hb)
  · exact d (iFrom l + i) (by omega) hi' (.inr (.inl hb))
  · exact d (iFrom l + 1) (by omega) (by omega) (.inr (.inr (.inl ⟨rfl, hb2⟩)))
def iReadA (l : List UInt8) (p : Nat) : AV :=
  if 65536 < l.length then .tup [IntA 0, spot 3 65536] else if p = iFrom l ∨ p < l.length then .tup [IntA 0, spot 6 p] else .tup [IntA (iVal l), spot 0 0]
theorem iread_fn {l : List UInt8} {p : Nat} (hp : IsAt l p) (hsz' : l.length < 9223372036854775808) : PFn Tryd.prog 167 [Sx l] (iReadA l p) := by
  intro H Q hq
  refine enter167 (by simp) ?_
  simp (disch := first | assumption | (apply Ap.symm; assumption) | omega | decide | (simp only [Xd] <;> omega)) only [ac167, ↓Xa, Xb, Xc, ↓reduceIte, Nat.reduceLT, Nat.reduceEqDiff, Nat.reduceBEq, Nat.reduceLeDiff, Nat.reduceAdd, Nat.reduceMul]
  refine alloc_i fun p1 hp1 => ?_
  have n1 := hp1
  simp (disch := first | assumption | (apply Ap.symm; assumption) | omega | decide | (simp only [Xd] <;> omega)) only [↓Xa, Xb, Xc, ↓reduceIte, Nat.reduceLT, Nat.reduceEqDiff, Nat.reduceBEq, Nat.reduceLeDiff, Nat.reduceAdd, Nat.reduceMul]
  refine alloc_i fun p2 hp2 => ?_
  have n2 := hp2
  simp only [upd_none] at n2
  obtain ⟨_, n2⟩ := n2
  have drop : ∀ {x y : ABlk} {r}, SetR Q r H → SetR Q r ((H.upd p1 (some x)).upd p2 (some y)) := fun h => SetR.dropTo (((Le.refl H).upd n1).updB n2) h
  by_cases h1 : 65536 < l.length
  · rw [iReadA, if_pos h1, ← IntA_0] at hq
    simp (disch := first | assumption | (apply Ap.symm; assumption) | omega | decide | (simp only [Xd] <;> omega)) only [len_Sx, h1, cells_i2, rs167, ↓Xa, Xb, Xc, ↓reduceIte, Nat.reduceLT, Nat.reduceEqDiff, Nat.reduceBEq, Nat.reduceLeDiff, Nat.reduceAdd, Nat.reduceMul]
    exact drop (SetR.now hq)
  rw [iReadA, if_neg h1] at hq
  have hsz : l.length < 9223372036854775807 := by omega
  obtain ⟨hf1, hf2⟩ := iFrom_le l
  have err : (p = iFrom l ∨ p < l.length) → ∀ {x y : ABlk}, SetR Q (.tup [.agg [.bool false, .seq 0 [] true], .agg [.int .i64 ((6 : Nat) : Int), .int .i64 (p : Int)]]) ((H.upd p1 (some x)).upd p2 (some y)) := fun h => by
    rw [if_pos h, ← IntA_0] at hq
    exact drop (SetR.now hq)
  have rest : ∀ {E : Env} {x y : ABlk}, E = [(0, Sx l), (2, .ptr p1 2 0), (3, .ptr p2 2 0), (4, .int .i64 (p : Int)), (5, .int .i64 (iFrom l : Int))] → x = .row 28 0 [.bool false, .seq 0 [] true] → y = .row 105 0 [.int .i64 ((0 : Nat) : Int), .int .i64 ((0 : Nat) : Int)] →
      W Tryd.prog (sndC (sndC (sndC (sndC (sndC (sndC ac167)))))) (retN rs167 Q) ⟨[], E, (H.upd p1 (some x)).upd p2 (some y)⟩ := by
    intro E x y hE hx hy
    subst hE hx hy
    by_cases e1 : p = iFrom l
    · simp (disch := first | assumption | (apply Ap.symm; assumption) | omega | decide | (simp only [Xd] <;> omega)) only [sndC, ac167, e1, cells_i2, rs167, ↓Xa, Xb, Xc, ↓reduceIte, Nat.reduceLT, Nat.reduceEqDiff, Nat.reduceBEq, Nat.reduceLeDiff, Nat.reduceAdd, Nat.reduceMul]
      rw [← e1]; exact err (.inl e1)
    by_cases e2 : p < l.length
    · simp (disch := first | assumption | (apply Ap.symm; assumption) | omega | decide | (simp only [Xd] <;> omega)) only [sndC, ac167, e1, e2, len_Sx, cells_i2, rs167, ↓Xa, Xb, Xc, ↓reduceIte, Nat.reduceLT, Nat.reduceEqDiff, Nat.reduceBEq, Nat.reduceLeDiff, Nat.reduceAdd, Nat.reduceMul]
      exact err (.inr e2)
    have hpl : p = l.length := by have := hp.2.1; omega
    rw [if_neg (by omega)] at hq
    have hg := isAt_good (hpl ▸ hp) (by omega)
    simp (disch := first | assumption | (apply Ap.symm; assumption) | omega | decide | (simp only [Xd] <;> omega)) only [sndC, ac167, e1, e2, len_Sx, slc_SxL, ↓Xa, Xb, Xc, ↓reduceIte, Nat.reduceLT, Nat.reduceEqDiff, Nat.reduceBEq, Nat.reduceLeDiff, Nat.reduceAdd, Nat.reduceMul]
    refine (read_fn (r := .tup [LS (Ma.digs 4294967296 (decV (l.drop (iFrom l)))) true, spot 0 0]) (.inr (.inr (.inr ⟨by simp; omega, hg, rfl⟩))) (by simp; omega)).call ?_
    simp (disch := first | assumption | (apply Ap.symm; assumption) | omega | decide | (simp only [Xd] <;> omega)) only [spot, ↓Xa, Xb, Xc, ↓reduceIte, Nat.reduceLT, Nat.reduceEqDiff, Nat.reduceBEq, Nat.reduceLeDiff, Nat.reduceAdd, Nat.reduceMul]
    refine alloc_i fun p3 hp3 => ?_
    have n3 := hp3
    simp only [upd_none] at n3
    obtain ⟨_, _, n3⟩ := n3
    simp (disch := first | assumption | (apply Ap.symm; assumption) | omega | decide | (simp only [Xd] <;> omega)) only [cells_i2, ↓Xa, Xb, Xc, ↓reduceIte, Nat.reduceLT, Nat.reduceEqDiff, Nat.reduceBEq, Nat.reduceLeDiff, Nat.reduceAdd, Nat.reduceMul]
    refine (made_fn (decide (iFrom l = 1)) _ ?_).call ?_
    · have hv : decV (l.drop (iFrom l)) < 4294967296 ^ 8192 := Nat.lt_of_lt_of_le (decV_lt fun b hb => (hg.2.1 b hb).2) (ten_bound (by simp; omega))
      have := (Nm.digs hv).len
      omega
    simp (disch := first | assumption | (apply Ap.symm; assumption) | omega | decide | (simp only [Xd] <;> omega)) only [cells_i2, cells_IntA, IntB, IntD, rs167, ↓Xa, Xb, Xc, ↓reduceIte, Nat.reduceLT, Nat.reduceEqDiff, Nat.reduceBEq, Nat.reduceLeDiff, Nat.reduceAdd, Nat.reduceMul]
    exact SetR.dropTo ((((Le.refl H).updB n1).updB n2).updB n3) (SetR.now hq)
  have tail : ∀ {E : Env}, E = [(0, Sx l), (2, .ptr p1 2 0), (3, .ptr p2 2 0), (4, .int .i64 (iFrom l : Int))] →
      W Tryd.prog (sndC (sndC (sndC (sndC ac167)))) (retN rs167 Q) ⟨[], E, (H.upd p1 (some (.row 28 0 [.bool false, .seq 0 [] true]))).upd p2 (some (.row 105 0 [.int .i64 ((0 : Nat) : Int), .int .i64 ((0 : Nat) : Int)]))⟩ := by
    intro E hE
    subst hE
    simp (disch := first | assumption | (apply Ap.symm; assumption) | omega | decide | (simp only [Xd] <;> omega)) only [sndC, ac167, ↓Xa, Xb, Xc, ↓reduceIte, Nat.reduceLT, Nat.reduceEqDiff, Nat.reduceBEq, Nat.reduceLeDiff, Nat.reduceAdd, Nat.reduceMul]
    refine W_loop (fun i : Nat => ⟨[], [(0, Sx l), (2, .ptr p1 2 0), (3, .ptr p2 2 0), (4, .int .i64 (i : Int)), (5, .int .i64 (iFrom l : Int))], (H.upd p1 (some (.row 28 0 [.bool false, .seq 0 [] true]))).upd p2 (some (.row 105 0 [.int .i64 ((0 : Nat) : Int), .int .i64 ((0 : Nat) : Int)]))⟩) (fun i => iFrom l ≤ i ∧ i ≤ l.length ∧ ∀ j, iFrom l ≤ j → j < i → ¬ iBad l j) (fun i => l.length - i) (iFrom l) (Settle.now rfl) ⟨Nat.le_refl _, hf1, fun j h1 h2 => by omega⟩ ?_
    rintro i ⟨hi1, hi2, hi3⟩
    have stop : iBad l i → i = p := fun hb => isAt_fn ⟨hi1, hi2, hb, hi3⟩ hp
    have step : ¬ iBad l i → ∀ j, iFrom l ≤ j → j < i + 1 → ¬ iBad l j := fun hb j h1 hj => by
      by_cases e : j = i
      · rw [e]; exact hb
      · exact hi3 j h1 (by omega)
    by_cases hi : i < l.length
    · by_cases c1 : 48 ≤ (l.getD i 0).toNat
      rotate_left
      · obtain rfl := stop (.inl (by omega))
        simp (disch := first | assumption | (apply Ap.symm; assumption) | omega | decide | (simp only [Xd] <;> omega)) only [hi, len_Sx, idx_Sx, c1, ↓Xa, Xb, Xc, ↓reduceIte, Nat.reduceLT, Nat.reduceEqDiff, Nat.reduceBEq, Nat.reduceLeDiff, Nat.reduceAdd, Nat.reduceMul]
        refine Settle.keep [0, 2, 3, 4, 5] ?_
        exact rest (by rfl) rfl rfl
      by_cases c2 : (l.getD i 0).toNat ≤ 57
      rotate_left
      · obtain rfl := stop (.inr (.inl (by omega)))
        simp (disch := first | assumption | (apply Ap.symm; assumption) | omega | decide | (simp only [Xd] <;> omega)) only [hi, len_Sx, idx_Sx, c1, c2, ↓Xa, Xb, Xc, ↓reduceIte, Nat.reduceLT, Nat.reduceEqDiff, Nat.reduceBEq, Nat.reduceLeDiff, Nat.reduceAdd, Nat.reduceMul]
        refine Settle.keep [0, 2, 3, 4, 5] ?_
        exact rest (by rfl) rfl rfl
      by_cases c3 : i = iFrom l + 1
      · have hfl : iFrom l < l.length := by omega
        subst c3
        by_cases c4 : (l.getD (iFrom l) 0).toNat = 48
        · have hip := stop (.inr (.inr (.inl ⟨rfl, c4⟩)))
          have rr := @rest
          rw [← hip] at rr
          simp (disch := first | assumption | (apply Ap.symm; assumption) | omega | decide | (simp only [Xd] <;> omega)) only [hi, len_Sx, idx_Sx, c1, c2, c4, ↓Xa, Xb, Xc, ↓reduceIte, Nat.reduceLT, Nat.reduceEqDiff, Nat.reduceBEq, Nat.reduceLeDiff, Nat.reduceAdd, Nat.reduceMul]
          refine Settle.keep [0, 2, 3, 4, 5] ?_
          exact rr (by rfl) rfl rfl
        · have c5 : ¬ iFrom l + 1 = iFrom l := by omega
          have nb := step (show ¬ iBad l (iFrom l + 1) by unfold iBad; omega)
          simp (disch := first | assumption | (apply Ap.symm; assumption) | omega | decide | (simp only [Xd] <;> omega)) only [hi, len_Sx, idx_Sx, c1, c2, c4, c5, ↓Xa, Xb, Xc, ↓reduceIte, Nat.reduceLT, Nat.reduceEqDiff, Nat.reduceBEq, Nat.reduceLeDiff, Nat.reduceAdd, Nat.reduceMul]
          exact Settle.now ⟨iFrom l + 1 + 1, by omega, ⟨by omega, by omega, nb⟩, rfl⟩
      by_cases c5 : i = iFrom l
      · subst c5
        by_cases c6 : iFrom l = 1
        · by_cases c7 : (l.getD (iFrom l) 0).toNat = 48
          · have hip := stop (.inr (.inr (.inr ⟨rfl, c6, c7⟩)))
            have rr := @rest
            rw [← hip] at rr
            rw [c6] at rr hi c1 c2 c3 c7 ⊢
            simp (disch := first | assumption | (apply Ap.symm; assumption) | omega | decide | (simp only [Xd] <;> omega)) only [hi, len_Sx, idx_Sx, c1, c2, c3, c7, ↓Xa, Xb, Xc, ↓reduceIte, Nat.reduceLT, Nat.reduceEqDiff, Nat.reduceBEq, Nat.reduceLeDiff, Nat.reduceAdd, Nat.reduceMul]
            refine Settle.keep [0, 2, 3, 4, 5] ?_
            exact rr (by rfl) rfl rfl
          · have nb := step (show ¬ iBad l (iFrom l) by unfold iBad; omega)
            rw [c6] at hi c1 c2 c3 c7 nb ⊢
            simp (disch := first | assumption | (apply Ap.symm; assumption) | omega | decide | (simp only [Xd] <;> omega)) only [hi, len_Sx, idx_Sx, c1, c2, c3, c7, ↓Xa, Xb, Xc, ↓reduceIte, Nat.reduceLT, Nat.reduceEqDiff, Nat.reduceBEq, Nat.reduceLeDiff, Nat.reduceAdd, Nat.reduceMul]
            exact Settle.now ⟨1 + 1, by omega, ⟨by omega, by omega, nb⟩, rfl⟩
        · have nb := step (show ¬ iBad l (iFrom l) by unfold iBad; omega)
          simp (disch := first | assumption | (apply Ap.symm; assumption) | omega | decide | (simp only [Xd] <;> omega)) only [hi, len_Sx, idx_Sx, c1, c2, c3, c6, ↓Xa, Xb, Xc, ↓reduceIte, Nat.reduceLT, Nat.reduceEqDiff, Nat.reduceBEq, Nat.reduceLeDiff, Nat.reduceAdd, Nat.reduceMul]
          exact Settle.now ⟨iFrom l + 1, by omega, ⟨by omega, by omega, nb⟩, rfl⟩
      · have nb := step (show ¬ iBad l i by unfold iBad; omega)
        simp (disch := first | assumption | (apply Ap.symm; assumption) | omega | decide | (simp only [Xd] <;> omega)) only [hi, len_Sx, idx_Sx, c1, c2, c3, c5, ↓Xa, Xb, Xc, ↓reduceIte, Nat.reduceLT, Nat.reduceEqDiff, Nat.reduceBEq, Nat.reduceLeDiff, Nat.reduceAdd, Nat.reduceMul]
        exact Settle.now ⟨i + 1, by omega, ⟨by omega, by omega, nb⟩, rfl⟩
    · obtain rfl := stop (.inl (by rw [get_beyond (by omega)]; decide))
      simp (disch := first | assumption | (apply Ap.symm; assumption) | omega | decide | (simp only [Xd] <;> omega)) only [hi, len_Sx, ↓Xa, Xb, Xc, ↓reduceIte, Nat.reduceLT, Nat.reduceEqDiff, Nat.reduceBEq, Nat.reduceLeDiff, Nat.reduceAdd, Nat.reduceMul]
      refine Settle.keep [0, 2, 3, 4, 5] ?_
      exact rest (by rfl) rfl rfl
  have tl := @tail _ rfl
  by_cases h0 : l = []
  · have hf0 : iFrom l = 0 := by rw [h0]; rfl
    rw [hf0] at tl
    simp (disch := first | assumption | (apply Ap.symm; assumption) | omega | decide | (simp only [Xd] <;> omega)) only [sndC, ac167, ↓Xa, Xb, Xc, ↓reduceIte, Nat.reduceLT, Nat.reduceEqDiff, Nat.reduceBEq, Nat.reduceLeDiff, Nat.reduceAdd, Nat.reduceMul] at tl
    simp (disch := first | assumption | (apply Ap.symm; assumption) | omega | decide | (simp only [Xd] <;> omega)) only [len_Sx, h1, str_Sx, neq_Sx, h0, ↓Xa, Xb, Xc, ↓reduceIte, Nat.reduceLT, Nat.reduceEqDiff, Nat.reduceBEq, Nat.reduceLeDiff, Nat.reduceAdd, Nat.reduceMul]
    rw [h0] at tl
    exact tl
  have hpos : 0 < l.length := List.length_pos_iff.2 h0
  by_cases h2 : (l.getD 0 0).toNat = 45
  · have hf0 : iFrom l = 1 := by unfold iFrom; rw [if_pos h2]
    rw [hf0] at tl
    simp (disch := first | assumption | (apply Ap.symm; assumption) | omega | decide | (simp only [Xd] <;> omega)) only [sndC, ac167, ↓Xa, Xb, Xc, ↓reduceIte, Nat.reduceLT, Nat.reduceEqDiff, Nat.reduceBEq, Nat.reduceLeDiff, Nat.reduceAdd, Nat.reduceMul] at tl
    simp (disch := first | assumption | (apply Ap.symm; assumption) | omega | decide | (simp only [Xd] <;> omega)) only [len_Sx, h1, str_Sx, neq_Sx, h0, idx_Sx, h2, ↓Xa, Xb, Xc, ↓reduceIte, Nat.reduceLT, Nat.reduceEqDiff, Nat.reduceBEq, Nat.reduceLeDiff, Nat.reduceAdd, Nat.reduceMul]
    exact tl
  · have hf0 : iFrom l = 0 := by unfold iFrom; rw [if_neg h2]
    rw [hf0] at tl
    simp (disch := first | assumption | (apply Ap.symm; assumption) | omega | decide | (simp only [Xd] <;> omega)) only [sndC, ac167, ↓Xa, Xb, Xc, ↓reduceIte, Nat.reduceLT, Nat.reduceEqDiff, Nat.reduceBEq, Nat.reduceLeDiff, Nat.reduceAdd, Nat.reduceMul] at tl
    simp (disch := first | assumption | (apply Ap.symm; assumption) | omega | decide | (simp only [Xd] <;> omega)) only [len_Sx, h1, str_Sx, neq_Sx, h0, idx_Sx, h2, ↓Xa, Xb, Xc, ↓reduceIte, Nat.reduceLT, Nat.reduceEqDiff, Nat.reduceBEq, Nat.reduceLeDiff, Nat.reduceAdd, Nat.reduceMul]
    exact tl
end Go.Proofs.YtanchgkiomfhhaaDoor.Fw

/- A whole number's text, as the reference of layer 2 reads it. -/
namespace Go.Proofs.YtanchgkiomfhhaaDoor.Fw
set_option linter.unusedSimpArgs false
set_option linter.unusedVariables false
open Go Go.Proofs.YtanchgkiomfhhaaDoor.Ma
set_option maxRecDepth 20000

def rReadA (l : List UInt8) (p : Nat) : AV := if p = iFrom l ∨ p < l.length then .tup [RefA 0 true, .int .i64 (p : Int)] else .tup [RefA (iVal l) false, .int .i64 (-1)]
end Go.Proofs.YtanchgkiomfhhaaDoor.Fw

/- Fractions: what the laws' own helpers answer. -/
namespace Go.Proofs.YtanchgkiomfhhaaDoor.Fw
set_option linter.unusedSimpArgs false
set_option linter.unusedVariables false
open Go Go.Proofs.YtanchgkiomfhhaaDoor.Ma
set_option maxRecDepth 20000

def qText (q : QQ) : List UInt8 := iText q.num ++ (if q.den = 1 then [] else 47 :: iText (q.den : Int))
theorem iText_len {x : Int} {k : Nat} (h : Bd k x) : (iText x).length ≤ 10 * k + 2 := by
  have := decT_bd h
  unfold iText; split <;> simp <;> omega
theorem rtextq_fn {q : QQ} {k : Nat} (hb : RB k q) (hk : k ≤ 1000000) : PFn Tryd.prog 128 [RatA q] (Sx (qText q)) := by
  intro H Q hq
  have l1 := iText_len hb.1
  have l2 := iText_len hb.2
  refine enter128 (by simp) ?_
  simp (disch := first | assumption | (apply Ap.symm; assumption) | omega | decide | (simp only [Xd] <;> omega)) only [ac128, cells_RatA, ↓Xa, Xb, Xc, ↓reduceIte, Nat.reduceLT, Nat.reduceEqDiff, Nat.reduceBEq, Nat.reduceLeDiff, Nat.reduceAdd, Nat.reduceMul]
  refine alloc_i fun p1 hp1 => ?_
  have n1 := hp1
  simp (disch := first | assumption | (apply Ap.symm; assumption) | omega | decide | (simp only [Xd] <;> omega)) only [fold_IntA, ↓Xa, Xb, Xc, ↓reduceIte, Nat.reduceLT, Nat.reduceEqDiff, Nat.reduceBEq, Nat.reduceLeDiff, Nat.reduceAdd, Nat.reduceMul]
  refine (itext_fn hb.1 hk).call ?_
  simp (disch := first | assumption | (apply Ap.symm; assumption) | omega | decide | (simp only [Xd] <;> omega)) only [fold_Raw, fold_RatA, ↓Xa, Xb, Xc, ↓reduceIte, Nat.reduceLT, Nat.reduceEqDiff, Nat.reduceBEq, Nat.reduceLeDiff, Nat.reduceAdd, Nat.reduceMul]
  refine (rwhole_fn hb hk).call ?_
  by_cases h : q.den = 1
  · rw [qText, if_pos h, List.append_nil] at hq
    simp (disch := first | assumption | (apply Ap.symm; assumption) | omega | decide | (simp only [Xd] <;> omega)) only [decide_eq_true h, rs128, ↓Xa, Xb, Xc, ↓reduceIte, Nat.reduceLT, Nat.reduceEqDiff, Nat.reduceBEq, Nat.reduceLeDiff, Nat.reduceAdd, Nat.reduceMul]
    exact SetR.dropTo ((Le.refl H).updB n1) (SetR.now hq)
  · rw [qText, if_neg h] at hq
    simp (disch := first | assumption | (apply Ap.symm; assumption) | omega | decide | (simp only [Xd] <;> omega)) only [decide_eq_false h, fold_Raw, fold_RatA, ↓Xa, Xb, Xc, ↓reduceIte, Nat.reduceLT, Nat.reduceEqDiff, Nat.reduceBEq, Nat.reduceLeDiff, Nat.reduceAdd, Nat.reduceMul]
    refine (rden_fn hb hk).call ?_
    simp (disch := first | assumption | (apply Ap.symm; assumption) | omega | decide | (simp only [Xd] <;> omega)) only [↓Xa, Xb, Xc, ↓reduceIte, Nat.reduceLT, Nat.reduceEqDiff, Nat.reduceBEq, Nat.reduceLeDiff, Nat.reduceAdd, Nat.reduceMul]
    refine (itext_fn hb.2 hk).call ?_
    have s1 : AV.str ⟨#[47]⟩ = Sx [47] := rfl
    have e1 : ∀ K, binW .add (Sx [47]) (Sx (iText (q.den : Int))) K = K (Sx (47 :: iText (q.den : Int))) := fun K => add_Sx (by simp; omega)
    have e2 : ∀ K, binW .add (Sx (iText q.num)) (Sx (47 :: iText (q.den : Int))) K = K (Sx (iText q.num ++ 47 :: iText (q.den : Int))) := fun K => add_Sx (by simp; omega)
    simp (disch := first | assumption | (apply Ap.symm; assumption) | omega | decide | (simp only [Xd] <;> omega)) only [s1, e1, e2, rs128, ↓Xa, Xb, Xc, ↓reduceIte, Nat.reduceLT, Nat.reduceEqDiff, Nat.reduceBEq, Nat.reduceLeDiff, Nat.reduceAdd, Nat.reduceMul]
    exact SetR.dropTo ((Le.refl H).updB n1) (SetR.now hq)

theorem q_same {p q : QQ} : (decide (p.num = q.num) && decide (p.den = q.den)) = decide (p = q) := by
  by_cases h : p = q
  · subst h; simp
  · rw [decide_eq_false h]
    by_cases h1 : p.num = q.num
    · have h2 : ¬ p.den = q.den := fun h2 => h (_root_.Rat.ext h1 h2)
      simp [h1, h2]
    · simp [h1]
theorem same_q {p q : QQ} {k k' : Nat} (hp : RB k p) (hq' : RB k' q) (hk : k ≤ 1000000) (hk' : k' ≤ 1000000) : PFn Tryd.prog 96 [RatA p, RatA q] (.bool (decide (p = q))) := by
  intro H Q hq
  rw [← q_same] at hq
  refine enter96 (by simp) ?_
  simp (disch := first | assumption | (apply Ap.symm; assumption) | omega | decide | (simp only [Xd] <;> omega)) only [ac96, cells_RatA, ↓Xa, Xb, Xc, ↓reduceIte, Nat.reduceLT, Nat.reduceEqDiff, Nat.reduceBEq, Nat.reduceLeDiff, Nat.reduceAdd, Nat.reduceMul]
  refine alloc_i fun p1 hp1 => ?_
  have n1 := hp1
  simp (disch := first | assumption | (apply Ap.symm; assumption) | omega | decide | (simp only [Xd] <;> omega)) only [cells_RatA, ↓Xa, Xb, Xc, ↓reduceIte, Nat.reduceLT, Nat.reduceEqDiff, Nat.reduceBEq, Nat.reduceLeDiff, Nat.reduceAdd, Nat.reduceMul]
  refine alloc_i fun p2 hp2 => ?_
  have n2 := hp2
  simp only [upd_none] at n2
  obtain ⟨_, n2⟩ := n2
  simp (disch := first | assumption | (apply Ap.symm; assumption) | omega | decide | (simp only [Xd] <;> omega)) only [fold_Raw, fold_RatA, ↓Xa, Xb, Xc, ↓reduceIte, Nat.reduceLT, Nat.reduceEqDiff, Nat.reduceBEq, Nat.reduceLeDiff, Nat.reduceAdd, Nat.reduceMul]
  refine PFn.dcall rnum_fn ?_
  simp (disch := first | assumption | (apply Ap.symm; assumption) | omega | decide | (simp only [Xd] <;> omega)) only [fold_Raw, fold_RatA, ↓Xa, Xb, Xc, ↓reduceIte, Nat.reduceLT, Nat.reduceEqDiff, Nat.reduceBEq, Nat.reduceLeDiff, Nat.reduceAdd, Nat.reduceMul]
  refine PFn.dcall rnum_fn ?_
  simp (disch := first | assumption | (apply Ap.symm; assumption) | omega | decide | (simp only [Xd] <;> omega)) only [↓Xa, Xb, Xc, ↓reduceIte, Nat.reduceLT, Nat.reduceEqDiff, Nat.reduceBEq, Nat.reduceLeDiff, Nat.reduceAdd, Nat.reduceMul]
  refine PFn.dcall (cmpi_fn hp.1 (by omega) hq'.1 (by omega)) ?_
  by_cases h : p.num = q.num
  · simp (disch := first | assumption | (apply Ap.symm; assumption) | omega | decide | (simp only [Xd] <;> omega)) only [cmp_eql0, decide_eq_true h, fold_Raw, fold_RatA, ↓Xa, Xb, Xc, ↓reduceIte, Nat.reduceLT, Nat.reduceEqDiff, Nat.reduceBEq, Nat.reduceLeDiff, Nat.reduceAdd, Nat.reduceMul]
    refine PFn.dcall (rden_fn hp (by omega)) ?_
    simp (disch := first | assumption | (apply Ap.symm; assumption) | omega | decide | (simp only [Xd] <;> omega)) only [fold_Raw, fold_RatA, ↓Xa, Xb, Xc, ↓reduceIte, Nat.reduceLT, Nat.reduceEqDiff, Nat.reduceBEq, Nat.reduceLeDiff, Nat.reduceAdd, Nat.reduceMul]
    refine (rden_fn hq' (by omega)).call ?_
    simp (disch := first | assumption | (apply Ap.symm; assumption) | omega | decide | (simp only [Xd] <;> omega)) only [↓Xa, Xb, Xc, ↓reduceIte, Nat.reduceLT, Nat.reduceEqDiff, Nat.reduceBEq, Nat.reduceLeDiff, Nat.reduceAdd, Nat.reduceMul]
    refine (cmpi_fn hp.2 (by omega) hq'.2 (by omega)).call ?_
    have c2 : decide ((p.den : Int) = (q.den : Int)) = decide (p.den = q.den) := decide_eq_decide.2 (by omega)
    rw [decide_eq_true h, Bool.true_and] at hq
    simp (disch := first | assumption | (apply Ap.symm; assumption) | omega | decide | (simp only [Xd] <;> omega)) only [cmp_eql0, c2, rs96, ↓Xa, Xb, Xc, ↓reduceIte, Nat.reduceLT, Nat.reduceEqDiff, Nat.reduceBEq, Nat.reduceLeDiff, Nat.reduceAdd, Nat.reduceMul]
    exact SetR.dropTo (((Le.refl H).updB n1).updB n2) (SetR.now hq)
  · rw [decide_eq_false h, Bool.false_and] at hq
    simp (disch := first | assumption | (apply Ap.symm; assumption) | omega | decide | (simp only [Xd] <;> omega)) only [cmp_eql0, decide_eq_false h, rs96, ↓Xa, Xb, Xc, ↓reduceIte, Nat.reduceLT, Nat.reduceEqDiff, Nat.reduceBEq, Nat.reduceLeDiff, Nat.reduceAdd, Nat.reduceMul]
    exact SetR.dropTo (((Le.refl H).updB n1).updB n2) (SetR.now hq)

def FracA (q : List UInt8 × List UInt8) : AV := .agg [Sx q.1, Sx q.2]
def FracC (l : List (List UInt8 × List UInt8)) : List AV := l.flatMap fun q => [Sx q.1, Sx q.2]
theorem cells_FracA {q : List UInt8 × List UInt8} : (FracA q).cells = some [Sx q.1, Sx q.2] := id rfl
theorem fold_FracA {q : List UInt8 × List UInt8} : AV.agg [Sx q.1, Sx q.2] = FracA q := id rfl
theorem FracC_len (l : List (List UInt8 × List UInt8)) : (FracC l).length = l.length * 2 := by
  induction l with
  | nil => rfl
  | cons a l ih => simp only [FracC, List.flatMap_cons, List.length_append, List.length_cons, List.length_nil] at *; omega
theorem FracC_drop : ∀ (l : List (List UInt8 × List UInt8)) (i : Nat) (h : i < l.length), (FracC l).drop (i * 2) = Sx (l[i]).1 :: Sx (l[i]).2 :: (FracC l).drop (i * 2 + 2)
  | a :: l, 0, _ => rfl
  | a :: l, i + 1, h => by
    have := FracC_drop l i (by simpa using h)
    rw [show (i + 1) * 2 = i * 2 + 2 by omega]
    show ((Sx a.1 :: Sx a.2 :: FracC l).drop (i * 2 + 2)) = _
    simp only [List.drop_succ_cons, List.getElem_cons_succ]
    rw [this]
    show _ = _ :: _ :: ((Sx a.1 :: Sx a.2 :: FracC l).drop (i * 2 + 2 + 2))
    simp only [List.drop_succ_cons]
def lngF (q : List UInt8 × List UInt8) : Bool := decide (300 < q.1.length) || decide (300 < q.2.length)
theorem long1_fn {q : List UInt8 × List UInt8} : PFn Tryd.prog 176 [FracA q] (.bool (lngF q)) := by
  intro H Q hq
  refine enter176 (by simp) ?_
  simp (disch := first | assumption | (apply Ap.symm; assumption) | omega | decide | (simp only [Xd] <;> omega)) only [ac176, cells_FracA, ↓Xa, Xb, Xc, ↓reduceIte, Nat.reduceLT, Nat.reduceEqDiff, Nat.reduceBEq, Nat.reduceLeDiff, Nat.reduceAdd, Nat.reduceMul]
  refine alloc_i fun p1 hp1 => ?_
  have n1 := hp1
  by_cases h : 300 < q.1.length
  · rw [lngF, decide_eq_true h, Bool.true_or] at hq
    simp (disch := first | assumption | (apply Ap.symm; assumption) | omega | decide | (simp only [Xd] <;> omega)) only [len_Sx, decide_eq_true h, h, rs176, ↓Xa, Xb, Xc, ↓reduceIte, Nat.reduceLT, Nat.reduceEqDiff, Nat.reduceBEq, Nat.reduceLeDiff, Nat.reduceAdd, Nat.reduceMul]
    exact SetR.dropTo ((Le.refl H).updB n1) (SetR.now hq)
  · rw [lngF, decide_eq_false h, Bool.false_or] at hq
    by_cases h2 : 300 < q.2.length
    · rw [decide_eq_true h2] at hq
      simp (disch := first | assumption | (apply Ap.symm; assumption) | omega | decide | (simp only [Xd] <;> omega)) only [len_Sx, h, h2, rs176, ↓Xa, Xb, Xc, ↓reduceIte, Nat.reduceLT, Nat.reduceEqDiff, Nat.reduceBEq, Nat.reduceLeDiff, Nat.reduceAdd, Nat.reduceMul]
      exact SetR.dropTo ((Le.refl H).updB n1) (SetR.now hq)
    · rw [decide_eq_false h2] at hq
      simp (disch := first | assumption | (apply Ap.symm; assumption) | omega | decide | (simp only [Xd] <;> omega)) only [len_Sx, h, h2, rs176, ↓Xa, Xb, Xc, ↓reduceIte, Nat.reduceLT, Nat.reduceEqDiff, Nat.reduceBEq, Nat.reduceLeDiff, Nat.reduceAdd, Nat.reduceMul]
      exact SetR.dropTo ((Le.refl H).updB n1) (SetR.now hq)
theorem geq_int {k : IntKind} {n m : Int} {K : AV → Prop} : binW .geq (.int k n) (.int k m) K ↔ K (.bool (decide (m ≤ n))) := by simp [binW, binInt]
theorem idxF_fn (l : List (List UInt8 × List UInt8)) (t : Bool) (hl : l.length < 9223372036854775807) : ∃ r : Int, decide (((0 : Nat) : Int) ≤ r) = l.any lngF ∧ PFn Tryd.prog 208 [.seq l.length (FracC l) t, .fn (.func 176) [] []] (.int .i64 r) := by
  have len9 : ∀ {n : Nat} {c : List AV} {t : Bool} {K : AV → Prop} (_ : n < 2 ^ 63), lenW false (.seq n c t) K = K (.int .i64 ((n : Nat) : Int)) := fun h => by simp [lenW, h]
  have idx9 : ∀ {i : Nat} {K : AV → Prop} (_ : i < l.length), idxAW 2 (.seq l.length (FracC l) t) (.int .i64 (i : Int)) K = K (.cptr ((FracC l).drop (i * 2))) := fun {i K} h => by simp [idxAW, FracC_len, h]
  have ld9 : ∀ {H : AHeap} {i : Nat} {K : AV → Prop} (h : i < l.length), loadW H (some 2) (.cptr ((FracC l).drop (i * 2))) K = K (FracA (l[i])) := fun {H i K} h => by
    simp only [loadW, cellsAt, FracC_drop l i h]
    simp [FracA]
  have main : ∀ (p : Nat) (hp : p ≤ l.length) (hno : ∀ i (h : i < l.length), i < p → lngF (l[i]) = false) (hat : ∀ h : p < l.length, lngF (l[p]) = true) (r : Int) (hr : r = if p < l.length then (p : Int) else -1), PFn Tryd.prog 208 [.seq l.length (FracC l) t, .fn (.func 176) [] []] (.int .i64 r) := by
    intro p hp hno hat r hr H Q hq
    refine enter208 (by simp) ?_
    simp (disch := first | assumption | (apply Ap.symm; assumption) | omega | decide | (simp only [Xd] <;> omega)) only [ac208, len9, hl, ↓Xa, Xb, Xc, ↓reduceIte, Nat.reduceLT, Nat.reduceEqDiff, Nat.reduceBEq, Nat.reduceLeDiff, Nat.reduceAdd, Nat.reduceMul]
    refine W_loop (fun i : Nat => ⟨[], [(0, .seq l.length (FracC l) t), (1, .fn (.func 176) [] []), (7, .int .i64 (l.length : Int)), (8, .int .i64 i)], H⟩) (fun i => i ≤ p) (fun i => l.length - i) 0 (Settle.now rfl) (Nat.zero_le _) ?_
    intro i h1
    by_cases hi : i < l.length
    · simp (disch := first | assumption | (apply Ap.symm; assumption) | omega | decide | (simp only [Xd] <;> omega)) only [idx9, ld9, hi, ↓Xa, Xb, Xc, ↓reduceIte, Nat.reduceLT, Nat.reduceEqDiff, Nat.reduceBEq, Nat.reduceLeDiff, Nat.reduceAdd, Nat.reduceMul]
      refine long1_fn.call ?_
      by_cases e : i = p
      · subst e
        rw [if_pos hi] at hr; subst hr
        simp (disch := first | assumption | (apply Ap.symm; assumption) | omega | decide | (simp only [Xd] <;> omega)) only [hat hi, rs208, ↓Xa, Xb, Xc, ↓reduceIte, Nat.reduceLT, Nat.reduceEqDiff, Nat.reduceBEq, Nat.reduceLeDiff, Nat.reduceAdd, Nat.reduceMul]
        exact SetR.now hq
      · simp (disch := first | assumption | (apply Ap.symm; assumption) | omega | decide | (simp only [Xd] <;> omega)) only [hno i hi (by omega), ↓Xa, Xb, Xc, ↓reduceIte, Nat.reduceLT, Nat.reduceEqDiff, Nat.reduceBEq, Nat.reduceLeDiff, Nat.reduceAdd, Nat.reduceMul]
        exact Settle.now ⟨i + 1, by omega, by omega, rfl⟩
    · simp (disch := first | assumption | (apply Ap.symm; assumption) | omega | decide | (simp only [Xd] <;> omega)) only [hi, ↓Xa, Xb, Xc, ↓reduceIte, Nat.reduceLT, Nat.reduceEqDiff, Nat.reduceBEq, Nat.reduceLeDiff, Nat.reduceAdd, Nat.reduceMul]
      refine Settle.now ?_
      rw [if_neg (by omega)] at hr; subst hr
      simp (disch := first | assumption | (apply Ap.symm; assumption) | omega | decide | (simp only [Xd] <;> omega)) only [rs208, ↓Xa, Xb, Xc, ↓reduceIte, Nat.reduceLT, Nat.reduceEqDiff, Nat.reduceBEq, Nat.reduceLeDiff, Nat.reduceAdd, Nat.reduceMul]
      exact SetR.now hq
  rcases first_of (P := fun i => ∃ h : i < l.length, lngF (l[i]) = true) 0 l.length with ⟨p, _, b, ⟨hb, c⟩, d⟩ | h
  · refine ⟨(p : Int), ?_, main p (by omega) (fun i hi h => ?_) (fun _ => c) _ (by rw [if_pos (by omega)])⟩
    · rw [decide_eq_true (by omega)]
      exact (List.any_eq_true.2 ⟨_, List.getElem_mem hb, c⟩).symm
    · have := d i (by omega) h
      cases e : lngF (l[i]) with
      | false => rfl
      | true => exact absurd ⟨hi, e⟩ this
  · refine ⟨-1, ?_, main l.length (Nat.le_refl _) (fun i hi _ => ?_) (fun h => by omega) _ (by rw [if_neg (by omega)])⟩
    · rw [decide_eq_false (by omega)]
      refine (List.any_eq_false.2 fun q hq => ?_).symm
      obtain ⟨i, hi, rfl⟩ := List.getElem_of_mem hq
      exact fun e => h i (by omega) (by omega) ⟨hi, e⟩
    · cases e : lngF (l[i]) with
      | false => rfl
      | true => exact absurd ⟨hi, e⟩ (h i (by omega) (by omega))
theorem longF_fn (l : List (List UInt8 × List UInt8)) (t : Bool) (hl : l.length < 9223372036854775807) : PFn Tryd.prog 107 [.seq l.length (FracC l) t] (.bool (decide (12 < l.length) || l.any lngF)) := by
  intro H Q hq
  obtain ⟨r, hr, hf⟩ := idxF_fn l t hl
  have len9 : ∀ {n : Nat} {c : List AV} {t : Bool} {K : AV → Prop} (_ : n < 2 ^ 63), lenW false (.seq n c t) K = K (.int .i64 ((n : Nat) : Int)) := fun h => by simp [lenW, h]
  have cf : PFn Tryd.prog 175 [.seq l.length (FracC l) t, .fn (.func 176) [] []] (.bool (l.any lngF)) := by
    intro H Q hq
    refine enter175 (by simp) ?_
    simp (disch := first | assumption | (apply Ap.symm; assumption) | omega | decide | (simp only [Xd] <;> omega)) only [ac175, ↓Xa, Xb, Xc, ↓reduceIte, Nat.reduceLT, Nat.reduceEqDiff, Nat.reduceBEq, Nat.reduceLeDiff, Nat.reduceAdd, Nat.reduceMul]
    refine hf.call ?_
    simp (disch := first | assumption | (apply Ap.symm; assumption) | omega | decide | (simp only [Xd] <;> omega)) only [geq_int, hr, rs175, ↓Xa, Xb, Xc, ↓reduceIte, Nat.reduceLT, Nat.reduceEqDiff, Nat.reduceBEq, Nat.reduceLeDiff, Nat.reduceAdd, Nat.reduceMul]
    exact SetR.now hq
  refine enter107 (by simp) ?_
  by_cases h : 12 < l.length
  · rw [decide_eq_true h, Bool.true_or] at hq
    simp (disch := first | assumption | (apply Ap.symm; assumption) | omega | decide | (simp only [Xd] <;> omega)) only [ac107, len9, hl, h, rs107, ↓Xa, Xb, Xc, ↓reduceIte, Nat.reduceLT, Nat.reduceEqDiff, Nat.reduceBEq, Nat.reduceLeDiff, Nat.reduceAdd, Nat.reduceMul]
    exact SetR.now hq
  · rw [decide_eq_false h, Bool.false_or] at hq
    simp (disch := first | assumption | (apply Ap.symm; assumption) | omega | decide | (simp only [Xd] <;> omega)) only [ac107, len9, hl, h, ↓Xa, Xb, Xc, ↓reduceIte, Nat.reduceLT, Nat.reduceEqDiff, Nat.reduceBEq, Nat.reduceLeDiff, Nat.reduceAdd, Nat.reduceMul]
    refine cf.call ?_
    simp (disch := first | assumption | (apply Ap.symm; assumption) | omega | decide | (simp only [Xd] <;> omega)) only [rs107, ↓Xa, Xb, Xc, ↓reduceIte, Nat.reduceLT, Nat.reduceEqDiff, Nat.reduceBEq, Nat.reduceLeDiff, Nat.reduceAdd, Nat.reduceMul]
    exact SetR.now hq
end Go.Proofs.YtanchgkiomfhhaaDoor.Fw

/- Fractions: the helpers that read and try. -/
namespace Go.Proofs.YtanchgkiomfhhaaDoor.Fw
set_option linter.unusedSimpArgs false
set_option linter.unusedVariables false
open Go Go.Proofs.YtanchgkiomfhhaaDoor.Ma
set_option maxRecDepth 20000

def wk1 : QQ := mkRat (-3) 2
def wk2 : QQ := mkRat (-1) 2
def wk3 : QQ := mkRat (-2) 1
theorem wk1_eq : _root_.Rat.divInt ((6 : Nat) : Int) (-4) = wk1 := by decide +kernel
theorem wk2_eq : wk1 / ((((3 : Nat) : Int)) : QQ) = wk2 := by decide +kernel
theorem wk3_eq : wk2 + wk1 = wk3 := by decide +kernel
theorem wk_q0 : ¬ ((((3 : Nat) : Int) : QQ) = 0) := by decide +kernel
theorem wk1_b : RB 1 wk1 := by unfold RB Bd; decide +kernel
theorem wk2_b : RB 1 wk2 := by unfold RB Bd; decide +kernel
theorem wk3_b : RB 1 wk3 := by unfold RB Bd; decide +kernel
theorem wk1_t : qText wk1 = [45, 51, 47, 50] := by
  have e1 : wk1.num = -3 := by decide +kernel
  have e2 : wk1.den = 2 := by decide +kernel
  rw [qText, e1, e2]; simp [iText, decT, dec, digs, chr]
theorem wk2_t : qText wk2 = [45, 49, 47, 50] := by
  have e1 : wk2.num = -1 := by decide +kernel
  have e2 : wk2.den = 2 := by decide +kernel
  rw [qText, e1, e2]; simp [iText, decT, dec, digs, chr]
theorem wk3_d : wk3.den = 1 := by decide +kernel
theorem wk3_t : qText wk3 = [45, 50] := by
  have e1 : wk3.num = -2 := by decide +kernel
  rw [qText, e1, wk3_d]; simp [iText, decT, dec, digs, chr]
theorem wk3_dt : iText (wk3.den : Int) = [49] := by rw [wk3_d]; simp [iText, decT, dec, digs, chr]
theorem wk1_f : iText (wk1.num / (wk1.den : Int)) = [45, 50] := by
  have e1 : wk1.num / (wk1.den : Int) = -2 := by decide +kernel
  rw [e1]; simp [iText, decT, dec, digs, chr]
theorem works_q : PFn Tryd.prog 94 [] (.bool true) := by
  intro H Q hq
  have s1 : AV.str ⟨#[45, 51, 47, 50]⟩ = Sx [45, 51, 47, 50] := rfl
  have s2 : AV.str ⟨#[45, 49, 47, 50]⟩ = Sx [45, 49, 47, 50] := rfl
  have s3 : AV.str ⟨#[45, 50]⟩ = Sx [45, 50] := rfl
  have s4 : AV.str ⟨#[49]⟩ = Sx [49] := rfl
  refine enter94 (by simp) ?_
  simp (disch := first | assumption | (apply Ap.symm; assumption) | omega | decide | (simp only [Xd] <;> omega)) only [ac94, ↓Xa, Xb, Xc, ↓reduceIte, Nat.reduceLT, Nat.reduceEqDiff, Nat.reduceBEq, Nat.reduceLeDiff, Nat.reduceAdd, Nat.reduceMul]
  refine (of_fn (n := ((6 : Nat) : Int)) (by omega)).call ?_
  simp (disch := first | assumption | (apply Ap.symm; assumption) | omega | decide | (simp only [Xd] <;> omega)) only [↓Xa, Xb, Xc, ↓reduceIte, Nat.reduceLT, Nat.reduceEqDiff, Nat.reduceBEq, Nat.reduceLeDiff, Nat.reduceAdd, Nat.reduceMul]
  refine (of_fn (n := -4) (by omega)).call ?_
  simp (disch := first | assumption | (apply Ap.symm; assumption) | omega | decide | (simp only [Xd] <;> omega)) only [↓Xa, Xb, Xc, ↓reduceIte, Nat.reduceLT, Nat.reduceEqDiff, Nat.reduceBEq, Nat.reduceLeDiff, Nat.reduceAdd, Nat.reduceMul]
  refine (rmk_fn (k := 2) (Bd.i64 (n := ((6 : Nat) : Int)) (by omega)) (Bd.i64 (n := -4) (by omega)) (by omega)).call ?_
  rw [wk1_eq, if_neg (show ¬ ((-4 : Int) = 0) by decide)]
  simp (disch := first | assumption | (apply Ap.symm; assumption) | omega | decide | (simp only [Xd] <;> omega)) only [RatE, ↓Xa, Xb, Xc, ↓reduceIte, Nat.reduceLT, Nat.reduceEqDiff, Nat.reduceBEq, Nat.reduceLeDiff, Nat.reduceAdd, Nat.reduceMul]
  refine alloc_i fun p1 hp1 => ?_
  have n1 := hp1
  simp (disch := first | assumption | (apply Ap.symm; assumption) | omega | decide | (simp only [Xd] <;> omega)) only [cells_RatA, fold_Raw, fold_RatA, ↓Xa, Xb, Xc, ↓reduceIte, Nat.reduceLT, Nat.reduceEqDiff, Nat.reduceBEq, Nat.reduceLeDiff, Nat.reduceAdd, Nat.reduceMul]
  refine PFn.dcall (of_fn (n := ((3 : Nat) : Int)) (by omega)) ?_
  simp (disch := first | assumption | (apply Ap.symm; assumption) | omega | decide | (simp only [Xd] <;> omega)) only [↓Xa, Xb, Xc, ↓reduceIte, Nat.reduceLT, Nat.reduceEqDiff, Nat.reduceBEq, Nat.reduceLeDiff, Nat.reduceAdd, Nat.reduceMul]
  refine PFn.dcall rwh_fn ?_
  simp (disch := first | assumption | (apply Ap.symm; assumption) | omega | decide | (simp only [Xd] <;> omega)) only [↓Xa, Xb, Xc, ↓reduceIte, Nat.reduceLT, Nat.reduceEqDiff, Nat.reduceBEq, Nat.reduceLeDiff, Nat.reduceAdd, Nat.reduceMul]
  refine PFn.dcall (rover_q wk1_b (RB.int (k := 1) (Bd.i64 (n := ((3 : Nat) : Int)) (by omega))) (by omega)) ?_
  rw [wk2_eq, if_neg wk_q0]
  simp (disch := first | assumption | (apply Ap.symm; assumption) | omega | decide | (simp only [Xd] <;> omega)) only [RatE, ↓Xa, Xb, Xc, ↓reduceIte, Nat.reduceLT, Nat.reduceEqDiff, Nat.reduceBEq, Nat.reduceLeDiff, Nat.reduceAdd, Nat.reduceMul]
  refine dalloc_i fun p2 hp2 => ?_
  have n2 := hp2
  simp only [upd_none] at n2
  obtain ⟨_, n2⟩ := n2
  simp (disch := first | assumption | (apply Ap.symm; assumption) | omega | decide | (simp only [Xd] <;> omega)) only [cells_RatA, fold_Raw, fold_RatA, ↓Xa, Xb, Xc, ↓reduceIte, Nat.reduceLT, Nat.reduceEqDiff, Nat.reduceBEq, Nat.reduceLeDiff, Nat.reduceAdd, Nat.reduceMul]
  refine (radd_fn wk2_b wk1_b (by omega)).call ?_
  rw [wk3_eq]
  simp (disch := first | assumption | (apply Ap.symm; assumption) | omega | decide | (simp only [Xd] <;> omega)) only [↓Xa, Xb, Xc, ↓reduceIte, Nat.reduceLT, Nat.reduceEqDiff, Nat.reduceBEq, Nat.reduceLeDiff, Nat.reduceAdd, Nat.reduceMul]
  refine alloc_i fun p3 hp3 => ?_
  have n3 := hp3
  simp only [upd_none] at n3
  obtain ⟨_, _, n3⟩ := n3
  simp (disch := first | assumption | (apply Ap.symm; assumption) | omega | decide | (simp only [Xd] <;> omega)) only [cells_RatA, fold_Raw, fold_RatA, ↓Xa, Xb, Xc, ↓reduceIte, Nat.reduceLT, Nat.reduceEqDiff, Nat.reduceBEq, Nat.reduceLeDiff, Nat.reduceAdd, Nat.reduceMul]
  refine (rtextq_fn wk1_b (by omega)).call ?_
  simp (disch := first | assumption | (apply Ap.symm; assumption) | omega | decide | (simp only [Xd] <;> omega)) only [wk1_t, s1, eql_Sx, fold_Raw, fold_RatA, ↓Xa, Xb, Xc, ↓reduceIte, Nat.reduceLT, Nat.reduceEqDiff, Nat.reduceBEq, Nat.reduceLeDiff, Nat.reduceAdd, Nat.reduceMul]
  refine (rtextq_fn wk2_b (by omega)).call ?_
  simp (disch := first | assumption | (apply Ap.symm; assumption) | omega | decide | (simp only [Xd] <;> omega)) only [wk2_t, s2, eql_Sx, fold_Raw, fold_RatA, ↓Xa, Xb, Xc, ↓reduceIte, Nat.reduceLT, Nat.reduceEqDiff, Nat.reduceBEq, Nat.reduceLeDiff, Nat.reduceAdd, Nat.reduceMul]
  refine (rtextq_fn wk3_b (by omega)).call ?_
  simp (disch := first | assumption | (apply Ap.symm; assumption) | omega | decide | (simp only [Xd] <;> omega)) only [wk3_t, s3, eql_Sx, fold_Raw, fold_RatA, ↓Xa, Xb, Xc, ↓reduceIte, Nat.reduceLT, Nat.reduceEqDiff, Nat.reduceBEq, Nat.reduceLeDiff, Nat.reduceAdd, Nat.reduceMul]
  refine (rwhole_fn wk3_b (by omega)).call ?_
  simp (disch := first | assumption | (apply Ap.symm; assumption) | omega | decide | (simp only [Xd] <;> omega)) only [decide_eq_true wk3_d, fold_Raw, fold_RatA, ↓Xa, Xb, Xc, ↓reduceIte, Nat.reduceLT, Nat.reduceEqDiff, Nat.reduceBEq, Nat.reduceLeDiff, Nat.reduceAdd, Nat.reduceMul]
  refine (rden_fn wk3_b (by omega)).call ?_
  simp (disch := first | assumption | (apply Ap.symm; assumption) | omega | decide | (simp only [Xd] <;> omega)) only [↓Xa, Xb, Xc, ↓reduceIte, Nat.reduceLT, Nat.reduceEqDiff, Nat.reduceBEq, Nat.reduceLeDiff, Nat.reduceAdd, Nat.reduceMul]
  refine (itext_fn wk3_b.2 (by omega)).call ?_
  simp (disch := first | assumption | (apply Ap.symm; assumption) | omega | decide | (simp only [Xd] <;> omega)) only [wk3_dt, s4, eql_Sx, fold_Raw, fold_RatA, ↓Xa, Xb, Xc, ↓reduceIte, Nat.reduceLT, Nat.reduceEqDiff, Nat.reduceBEq, Nat.reduceLeDiff, Nat.reduceAdd, Nat.reduceMul]
  refine (rfloor_fn wk1_b (by omega)).call ?_
  simp (disch := first | assumption | (apply Ap.symm; assumption) | omega | decide | (simp only [Xd] <;> omega)) only [↓Xa, Xb, Xc, ↓reduceIte, Nat.reduceLT, Nat.reduceEqDiff, Nat.reduceBEq, Nat.reduceLeDiff, Nat.reduceAdd, Nat.reduceMul]
  refine (itext_fn (wk1_b.1.ediv) (by omega)).call ?_
  simp (disch := first | assumption | (apply Ap.symm; assumption) | omega | decide | (simp only [Xd] <;> omega)) only [wk1_f, s3, eql_Sx, rs94, ↓Xa, Xb, Xc, ↓reduceIte, Nat.reduceLT, Nat.reduceEqDiff, Nat.reduceBEq, Nat.reduceLeDiff, Nat.reduceAdd, Nat.reduceMul]
  exact SetR.dropTo ((((Le.refl H).updB n1).updB n2).updB n3) (SetR.now hq)

end Go.Proofs.YtanchgkiomfhhaaDoor.Fw

/- A whole number's text, as the reference of layer 2 tells it. -/
namespace Go.Proofs.YtanchgkiomfhhaaDoor.Fw
set_option linter.unusedSimpArgs false
set_option linter.unusedVariables false
open Go Go.Proofs.YtanchgkiomfhhaaDoor.Ma
set_option maxRecDepth 20000

def revI (i : Nat) (l : List UInt8) : List UInt8 := (List.range l.length).map fun j => if j < i ∨ l.length - i ≤ j then l.getD (l.length - 1 - j) 0 else l.getD j 0
end Go.Proofs.YtanchgkiomfhhaaDoor.Fw

/- A number's text is read as it; what is read has its text. -/
namespace Go.Proofs.YtanchgkiomfhhaaDoor.Fw
set_option linter.unusedSimpArgs false
set_option linter.unusedVariables false
open Go Go.Proofs.YtanchgkiomfhhaaDoor.Ma
set_option maxRecDepth 20000

theorem isAt_of_good {m : List UInt8} (neg : Bool) (hg : Good m) (h0 : neg = true → (m.getD 0 0).toNat ≠ 48) :
    iFrom ((if neg then [45] else []) ++ m) = (if neg then 1 else 0) ∧ IsAt ((if neg then [45] else []) ++ m) ((if neg then [45] else []) ++ m).length ∧ ((if neg then [45] else []) ++ m).drop (iFrom ((if neg then [45] else []) ++ m)) = m := by
  obtain ⟨g1, g2, g3⟩ := hg
  have hpos : 0 < m.length := List.length_pos_iff.2 g1
  have dig : ∀ i, i < m.length → 48 ≤ (m.getD i 0).toNat ∧ (m.getD i 0).toNat ≤ 57 := fun i hi => by
    have := g2 _ (List.getElem_mem hi)
    rw [List.getD_eq_getElem?_getD, List.getElem?_eq_getElem hi, Option.getD_some]; exact this
  have hf : iFrom ((if neg then [45] else []) ++ m) = (if neg then 1 else 0) := by
    cases neg with
    | true => simp [iFrom]
    | false =>
      have := dig 0 hpos
      simp only [iFrom, Bool.false_eq_true, if_false, List.nil_append]
      rw [if_neg (by omega)]
  refine ⟨hf, ⟨(iFrom_le _).1, Nat.le_refl _, iBad_end _, fun j h1 h2 hb => ?_⟩, ?_⟩
  · rw [hf] at h1
    unfold iBad at hb
    rw [hf] at hb
    cases neg with
    | true =>
      simp only [if_true, List.length_append, List.length_cons, List.length_nil] at h1 h2 hb
      obtain ⟨i, rfl⟩ : ∃ i, j = i + 1 := ⟨j - 1, by omega⟩
      have e : ([45] ++ m).getD (i + 1) 0 = m.getD i 0 := by simp [List.getD_eq_getElem?_getD]
      have e1 : ([45] ++ m).getD 1 0 = m.getD 0 0 := by simp [List.getD_eq_getElem?_getD]
      have d := dig i (by omega)
      have := h0 rfl
      rw [e, e1] at hb
      rcases hb with hb | hb | ⟨hb, _⟩ | ⟨hb, _, hb2⟩
      · omega
      · omega
      · omega
      · have : i = 0 := by omega
        subst this; omega
    | false =>
      simp only [Bool.false_eq_true, if_false, List.nil_append] at h1 h2 hb
      have d := dig j h2
      rcases hb with hb | hb | ⟨hb, hb2⟩ | ⟨_, hb, _⟩
      · omega
      · omega
      · rcases g3 with g3 | g3
        · omega
        · exact g3 hb2
      · omega
  · rw [hf]; cases neg <;> simp
theorem decV_pos {m : List UInt8} (hg : Good m) (h : (m.getD 0 0).toNat ≠ 48) : 0 < decV m := by
  rcases Nat.eq_zero_or_pos (decV m) with e | e
  · have := decT_decV hg
    rw [e] at this
    exact absurd (by rw [← this]; rfl) h
  · exact e
theorem iText_at (x : Int) : IsAt (iText x) (iText x).length ∧ (iText x).length ≠ iFrom (iText x) ∧ iVal (iText x) = x := by
  have hg := good_decT x.natAbs
  have hpos : 0 < (decT x.natAbs).length := List.length_pos_iff.2 hg.1
  have h0 : decide (x < 0) = true → ((decT x.natAbs).getD 0 0).toNat ≠ 48 := fun h hz => by
    have h := of_decide_eq_true h
    rcases hg.2.2 with g | g
    · have hd : decT x.natAbs = [48] := by
        match hm : decT x.natAbs, g with
        | [b], _ =>
          rw [hm] at hz
          have hz2 : b.toNat = 48 := by simpa using hz
          have : b = 48 := UInt8.toNat_inj.1 hz2
          rw [this]
      have := decV_decT x.natAbs
      rw [hd] at this
      have e : decV [48] = 0 := rfl
      omega
    · exact g hz
  obtain ⟨a, b, c⟩ := isAt_of_good (decide (x < 0)) hg h0
  have e : (if decide (x < 0) then [45] else []) ++ decT x.natAbs = iText x := by simp [iText]
  rw [e] at a b c
  refine ⟨b, ?_, ?_⟩
  · intro k
    have := congrArg List.length c
    rw [List.length_drop, ← k] at this
    omega
  · unfold iVal
    rw [c, decV_decT, a]
    by_cases h : x < 0 <;> simp [h, sg] <;> omega
theorem iText_iVal {l : List UInt8} (h : IsAt l l.length) (hn : l.length ≠ iFrom l) : iText (iVal l) = l := by
  have hg := isAt_good h hn
  have hd := decT_decV hg
  have hf := iFrom_le l
  have e0 : (l.drop (iFrom l)).getD 0 0 = l.getD (iFrom l) 0 := by simp [List.getD_eq_getElem?_getD]
  unfold iVal
  by_cases c : iFrom l = 1
  · have hne : (l.getD (iFrom l) 0).toNat ≠ 48 := fun hz => h.2.2.2 (iFrom l) (Nat.le_refl _) (by omega) (.inr (.inr (.inr ⟨rfl, c, hz⟩)))
    have hp := decV_pos hg (by rw [e0]; exact hne)
    have hneg : sg (decide (iFrom l = 1)) (decV (l.drop (iFrom l))) < 0 := by
      rw [decide_eq_true c]
      show -((decV (l.drop (iFrom l)) : Nat) : Int) < 0
      omega
    rw [iText, if_pos hneg, sg_abs, hd]
    have h45 : (l.getD 0 0).toNat = 45 := by
      by_cases e : (l.getD 0 0).toNat = 45
      · exact e
      · unfold iFrom at c; rw [if_neg e] at c; omega
    match l, c, h45 with
    | b :: m, c, h45 =>
      have hb : b = 45 := UInt8.toNat_inj.1 (by simpa using h45)
      rw [c, hb]; rfl
  · have c0 : iFrom l = 0 := by omega
    have hnn : ¬ sg (decide (iFrom l = 1)) (decV (l.drop (iFrom l))) < 0 := by simp [c, sg]
    rw [iText, if_neg hnn, sg_abs, hd, c0]; simp
end Go.Proofs.YtanchgkiomfhhaaDoor.Fw

/- Rows that grow, two at once, or beside memory that turns. -/
namespace Go.Proofs.YtanchgkiomfhhaaDoor.Fw
set_option linter.unusedSimpArgs false
set_option linter.unusedVariables false
open Go Go.Proofs.YtanchgkiomfhhaaDoor.Ma
set_option maxRecDepth 20000

end Go.Proofs.YtanchgkiomfhhaaDoor.Fw

/- Rows lent: what only reads may be handed rows that are one's own. -/
namespace Go.Proofs.YtanchgkiomfhhaaDoor.Fw
set_option linter.unusedSimpArgs false
set_option linter.unusedVariables false
open Go Go.Proofs.YtanchgkiomfhhaaDoor.Ma
set_option maxRecDepth 20000

def scal : AV → Bool
  | .int _ _ => true
  | .bool _ => true
  | .str _ => true
  | _ => false
theorem le_nil {H : AHeap} : Le nilH H := fun _ _ h => by cases h
def Lent (H : AHeap) (x y : AV) : Prop := ∀ (c : Ctx), c.H = H → Ok c → ∀ v, Enc c x v → Enc (c.dropTo nilH) y v
theorem Lent.same {H : AHeap} {x : AV} : Lent H x x := fun c _ _ _ h => h.later (c.dropTo_later le_nil)
theorem Lent.own {H : AHeap} {b ty es n : Nat} {t : Bool} {cells : List AV} (hH : H b = some (.row ty es cells)) (hL : cells.length = n * es) : Lent H (.own b (n * es) 0 n t) (.seq n cells t) := by
  intro c hc hok v he
  have h1 := Enc.freeze hok he (hc ▸ hH) hL (.inr (by omega))
  rw [List.drop_zero, List.take_of_length_le (by omega)] at h1
  exact h1.later ((c.drop b).dropTo_later le_nil)
theorem Lent.grown {H0 H : AHeap} {ty es n : Nat} {cells : List AV} {x : AV} (h : growC H0 ty es n cells x H) : Lent H x (.seq n cells false) := by
  rcases h with ⟨rfl, rfl, rfl, rfl⟩ | ⟨hn, hl, b, hb, rfl, rfl⟩
  · intro c _ _ v he
    exact enc_loose _ _ (he.later (c.dropTo_later le_nil))
  · exact Lent.own (upd_same _ _ _) hl
def LentL (H : AHeap) : List AV → List AV → Prop
  | [], [] => True
  | x :: xs, y :: ys => Lent H x y ∧ LentL H xs ys
  | _, _ => False
theorem LentL.len {H : AHeap} : ∀ {xs ys : List AV}, LentL H xs ys → ys.length = xs.length
  | [], [], _ => rfl
  | _ :: _, _ :: _, h => by simp [LentL.len h.2]
  | [], _ :: _, h => h.elim
  | _ :: _, [], h => h.elim
theorem LentL.get {H : AHeap} : ∀ {xs ys : List AV}, LentL H xs ys → ∀ i (h : i < xs.length) (h' : i < ys.length), Lent H (xs[i]) (ys[i])
  | _ :: _, _ :: _, h, 0, _, _ => h.1
  | _ :: _, _ :: _, h, i + 1, a, b => LentL.get h.2 i (by simpa using a) (by simpa using b)
  | [], [], _, _, a, _ => absurd a (by simp)
  | [], _ :: _, h, _, _, _ => h.elim
  | _ :: _, [], h, _, _, _ => h.elim
theorem PFn.frozen {P : Program} {f : FuncId} {args : List AV} {ty es n : Nat} {cells : List AV} (h : ∀ (H : AHeap) (Q : AV → AHeap → Prop), (∀ x H', growC H ty es n cells x H' → Q x H') → Run P f args H Q) : PFn P f args (.seq n cells false) := fun H Q hq =>
  Run.settle (h H _ fun _ _ g => growC_fin g hq)
/-! ### integers and rows, as they are read -/
section
variable {K : AV → Prop} {K2 : AV → AHeap → Prop} {H : AHeap} {k : IntKind} {n m : Int} {t : Bool}
theorem neq_int : binW .neq (.int k n) (.int k m) K ↔ K (.bool (!decide (n = m))) := by simp [binW, binInt]
end
end Go.Proofs.YtanchgkiomfhhaaDoor.Fw

/- The looked-up code of one function, and that it is: by a program (wip/tools/ac.py); Lean checks it. -/
namespace Go.Proofs.YtanchgkiomfhhaaDoor.Fw
open Go
set_option maxRecDepth 100000
def ac21 : ACode := (.seq (.reg [⟨(some 3), none, (.box 119 0 (.t 0))⟩, ⟨(some 6), none, (.mov (.k (.bool false)))⟩] [1, 2, 3]) (.seq (.seq (.reg [⟨(some 18), none, (.call (.k (.fn (.func 94) [] [])) [])⟩, ⟨(some 19), none, (.un .not (.t 18))⟩] [1, 2, 3, 19]) (.cond (.t 19) (.seq (.reg [⟨(some 6), none, (.mov (.k (.bool false)))⟩] [6]) .ret) .skip)) (.seq (.reg [⟨(some 21), none, (.load (some 2) (.t 3))⟩, ⟨(some 22), none, (.call (.k (.fn (.func 123) [] [])) [(.t 21)])⟩, ⟨(some 20), none, (.mov (.t 22))⟩, ⟨(some 23), none, (.ext (.t 20) 0)⟩, ⟨(some 24), none, (.ext (.t 20) 1)⟩, ⟨(some 7), none, (.alloc 121 0 [(.bool false), (.seq 0 [] true), (.bool false), (.seq 0 [] true)])⟩, ⟨none, none, (.store 4 (.t 7) (.t 23))⟩, ⟨(some 8), none, (.mov (.t 24))⟩] [1, 2, 3, 7, 8]) (.seq (.seq (.reg [⟨(some 25), none, (.load (some 2) (.t 3))⟩, ⟨(some 26), none, (.bsl [(.str ⟨#[]⟩), (.str ⟨#[]⟩)] 1 2 [(0, (2, (.t 25)))])⟩, ⟨(some 27), none, (.call (.k (.fn (.func 107) [] [])) [(.t 26)])⟩, ⟨(some 28), none, (.mov (.t 27))⟩, ⟨(some 29), (some (28, false)), (.mov (.t 2))⟩, ⟨(some 30), (some (28, false)), (.len true (.t 29))⟩, ⟨(some 31), (some (28, false)), (.bin .gtr (.t 30) (.k (.int .i64 ((800 : Nat) : Int))))⟩, ⟨(some 32), none, (.pick (.t 28) (.k (.bool true)) (.t 31))⟩] [1, 2, 7, 8, 32]) (.cond (.t 32) (.seq (.reg [⟨(some 6), none, (.mov (.k (.bool true)))⟩] [6]) .ret) .skip)) (.seq (.seq (.reg [⟨(some 33), none, (.mov (.t 8))⟩] [1, 2, 7, 33]) (.cond (.t 33) (.seq (.draw [⟨(some 34), none, (.load (some 4) (.t 7))⟩, ⟨(some 35), none, (.call (.k (.fn (.func 124) [] [])) [(.t 34)])⟩, ⟨(some 36), none, (.load (some 4) (.t 7))⟩, ⟨(some 37), none, (.call (.k (.fn (.func 125) [] [])) [(.t 36)])⟩, ⟨(some 9), none, (.alloc 28 0 [(.bool false), (.seq 0 [] true)])⟩, ⟨(some 10), none, (.alloc 28 0 [(.bool false), (.seq 0 [] true)])⟩] [⟨none, none, (.store 2 (.t 9) (.t 35))⟩, ⟨none, none, (.store 2 (.t 10) (.t 37))⟩] [0, 0, 3, 0, 15, 31] [1, 2, 7, 9, 10]) (.seq (.reg [⟨(some 39), none, (.load (some 2) (.t 9))⟩, ⟨(some 40), none, (.load (some 2) (.t 10))⟩, ⟨(some 41), none, (.call (.k (.fn (.func 126) [] [])) [(.t 39), (.t 40)])⟩, ⟨(some 38), none, (.mov (.t 41))⟩, ⟨(some 42), none, (.ext (.t 38) 0)⟩, ⟨(some 43), none, (.ext (.t 38) 1)⟩, ⟨(some 11), none, (.alloc 121 0 [(.bool false), (.seq 0 [] true), (.bool false), (.seq 0 [] true)])⟩, ⟨none, none, (.store 4 (.t 11) (.t 42))⟩, ⟨(some 12), none, (.mov (.t 43))⟩] [1, 2, 7, 9, 10, 11, 12]) (.seq (.reg [⟨(some 45), none, (.load (some 4) (.t 7))⟩, ⟨(some 46), none, (.call (.k (.fn (.func 128) [] [])) [(.t 45)])⟩, ⟨(some 47), none, (.call (.k (.fn (.func 127) [] [])) [(.t 46)])⟩, ⟨(some 44), none, (.mov (.t 47))⟩, ⟨(some 48), none, (.ext (.t 44) 0)⟩, ⟨(some 49), none, (.ext (.t 44) 1)⟩, ⟨(some 13), none, (.alloc 121 0 [(.bool false), (.seq 0 [] true), (.bool false), (.seq 0 [] true)])⟩, ⟨(some 14), none, (.alloc 105 0 [(.int .i64 ((0 : Nat) : Int)), (.int .i64 ((0 : Nat) : Int))])⟩, ⟨none, none, (.store 4 (.t 13) (.t 48))⟩, ⟨none, none, (.store 2 (.t 14) (.t 49))⟩] [1, 2, 7, 9, 10, 11, 12, 13, 14]) (.seq (.seq (.reg [⟨(some 50), none, (.load (some 2) (.t 10))⟩, ⟨(some 51), none, (.call (.k (.fn (.func 27) [] [])) [(.t 50)])⟩, ⟨(some 52), none, (.bin .leq (.t 51) (.k (.int .i64 ((0 : Nat) : Int))))⟩, ⟨(some 53), none, (.mov (.t 52))⟩, ⟨(some 54), (some (53, false)), (.load (some 2) (.t 9))⟩, ⟨(some 55), (some (53, false)), (.load (some 2) (.t 10))⟩, ⟨(some 56), (some (53, false)), (.call (.k (.fn (.func 129) [] [])) [(.t 54), (.t 55)])⟩, ⟨(some 57), (some (53, false)), (.call (.k (.fn (.func 58) [] [])) [(.k (.int .i64 ((1 : Nat) : Int)))])⟩, ⟨(some 58), (some (53, false)), (.call (.k (.fn (.func 57) [] [])) [(.t 56), (.t 57)])⟩, ⟨(some 59), (some (53, false)), (.bin .neq (.t 58) (.k (.int .i64 ((0 : Nat) : Int))))⟩, ⟨(some 60), none, (.pick (.t 53) (.k (.bool true)) (.t 59))⟩, ⟨(some 61), none, (.mov (.t 60))⟩, ⟨(some 62), (some (61, false)), (.mov (.t 12))⟩, ⟨(some 63), (some (61, false)), (.bin .neq (.t 62) (.k (.int .i64 ((0 : Nat) : Int))))⟩, ⟨(some 64), none, (.pick (.t 61) (.k (.bool true)) (.t 63))⟩, ⟨(some 65), none, (.mov (.t 64))⟩, ⟨(some 66), (some (65, false)), (.load (some 4) (.t 7))⟩, ⟨(some 67), (some (65, false)), (.load (some 4) (.t 11))⟩, ⟨(some 68), (some (65, false)), (.call (.k (.fn (.func 96) [] [])) [(.t 66), (.t 67)])⟩, ⟨(some 69), (some (65, false)), (.un .not (.t 68))⟩, ⟨(some 70), none, (.pick (.t 65) (.k (.bool true)) (.t 69))⟩, ⟨(some 71), none, (.mov (.t 70))⟩, ⟨(some 72), (some (71, false)), (.load (some 2) (.t 14))⟩, ⟨(some 73), (some (71, false)), (.build [(.int .i64 ((0 : Nat) : Int)), (.int .i64 ((0 : Nat) : Int))] [])⟩, ⟨(some 74), (some (71, false)), (.prim (.aeq true) [(.t 72), (.t 73)])⟩, ⟨(some 75), none, (.pick (.t 71) (.k (.bool true)) (.t 74))⟩, ⟨(some 76), none, (.mov (.t 75))⟩, ⟨(some 77), (some (76, false)), (.load (some 4) (.t 7))⟩, ⟨(some 78), (some (76, false)), (.load (some 4) (.t 13))⟩, ⟨(some 79), (some (76, false)), (.call (.k (.fn (.func 96) [] [])) [(.t 77), (.t 78)])⟩, ⟨(some 80), (some (76, false)), (.un .not (.t 79))⟩, ⟨(some 81), none, (.pick (.t 76) (.k (.bool true)) (.t 80))⟩] [1, 2, 7, 9, 10, 81]) (.cond (.t 81) (.seq (.reg [⟨(some 6), none, (.mov (.k (.bool false)))⟩] [6]) .ret) .skip)) (.seq (.draw [⟨(some 83), none, (.load (some 2) (.t 9))⟩, ⟨(some 84), none, (.mov (.t 1))⟩, ⟨(some 85), none, (.call (.k (.fn (.func 58) [] [])) [(.t 84)])⟩, ⟨(some 86), none, (.call (.k (.fn (.func 89) [] [])) [(.t 83), (.t 85)])⟩, ⟨(some 87), none, (.load (some 2) (.t 10))⟩, ⟨(some 88), none, (.mov (.t 1))⟩, ⟨(some 89), none, (.call (.k (.fn (.func 58) [] [])) [(.t 88)])⟩, ⟨(some 90), none, (.call (.k (.fn (.func 89) [] [])) [(.t 87), (.t 89)])⟩, ⟨(some 91), none, (.call (.k (.fn (.func 126) [] [])) [(.t 86), (.t 90)])⟩, ⟨(some 82), none, (.mov (.t 91))⟩, ⟨(some 92), none, (.ext (.t 82) 0)⟩, ⟨(some 93), none, (.ext (.t 82) 1)⟩, ⟨(some 15), none, (.alloc 121 0 [(.bool false), (.seq 0 [] true), (.bool false), (.seq 0 [] true)])⟩, ⟨none, none, (.store 4 (.t 15) (.t 92))⟩] [⟨(some 12), none, (.mov (.t 93))⟩] [0, 1, 1, 0, 15, 31, 16, 0, 0, 0, 0, 1024, 4095, 2048] [1, 2, 7, 12, 15]) (.seq (.reg [⟨(some 94), none, (.mov (.t 1))⟩, ⟨(some 95), none, (.bin .eql (.t 94) (.k (.int .i64 ((0 : Nat) : Int))))⟩, ⟨(some 96), none, (.mov (.t 95))⟩, ⟨(some 97), (some (96, true)), (.mov (.t 12))⟩, ⟨(some 98), (some (96, true)), (.bin .neq (.t 97) (.k (.int .i64 ((2 : Nat) : Int))))⟩, ⟨(some 99), none, (.pick (.t 96) (.t 98) (.k (.bool false)))⟩, ⟨(some 100), none, (.mov (.t 99))⟩, ⟨(some 101), (some (100, false)), (.mov (.t 1))⟩, ⟨(some 102), (some (100, false)), (.bin .neq (.t 101) (.k (.int .i64 ((0 : Nat) : Int))))⟩, ⟨(some 103), (some (100, false)), (.mov (.t 102))⟩, ⟨(some 104), (some (103, true)), (.mov (.t 12))⟩, ⟨(some 105), (some (103, true)), (.bin .neq (.t 104) (.k (.int .i64 ((0 : Nat) : Int))))⟩, ⟨(some 106), (some (103, true)), (.mov (.t 105))⟩, ⟨(some 107), (some (106, false)), (.load (some 4) (.t 7))⟩, ⟨(some 108), (some (106, false)), (.load (some 4) (.t 15))⟩, ⟨(some 109), (some (106, false)), (.call (.k (.fn (.func 96) [] [])) [(.t 107), (.t 108)])⟩, ⟨(some 110), (some (106, false)), (.un .not (.t 109))⟩, ⟨(some 111), (some (103, true)), (.pick (.t 106) (.k (.bool true)) (.t 110))⟩, ⟨(some 112), (some (100, false)), (.pick (.t 103) (.t 111) (.k (.bool false)))⟩, ⟨(some 113), none, (.pick (.t 100) (.k (.bool true)) (.t 112))⟩] [2, 113]) (.cond (.t 113) (.seq (.reg [⟨(some 6), none, (.mov (.k (.bool false)))⟩] [6]) .ret) .skip))))))) .skip)) (.seq (.reg [⟨(some 115), none, (.mov (.t 2))⟩, ⟨(some 116), none, (.call (.k (.fn (.func 127) [] [])) [(.t 115)])⟩, ⟨(some 114), none, (.mov (.t 116))⟩, ⟨(some 117), none, (.ext (.t 114) 0)⟩, ⟨(some 118), none, (.ext (.t 114) 1)⟩, ⟨(some 16), none, (.alloc 121 0 [(.bool false), (.seq 0 [] true), (.bool false), (.seq 0 [] true)])⟩, ⟨(some 17), none, (.alloc 105 0 [(.int .i64 ((0 : Nat) : Int)), (.int .i64 ((0 : Nat) : Int))])⟩, ⟨none, none, (.store 4 (.t 16) (.t 117))⟩, ⟨none, none, (.store 2 (.t 17) (.t 118))⟩] [2, 16, 17]) (.seq (.reg [⟨(some 119), none, (.load (some 2) (.t 17))⟩, ⟨(some 120), none, (.build [(.int .i64 ((0 : Nat) : Int)), (.int .i64 ((0 : Nat) : Int))] [])⟩, ⟨(some 121), none, (.prim (.aeq true) [(.t 119), (.t 120)])⟩, ⟨(some 122), none, (.mov (.t 121))⟩, ⟨(some 123), (some (122, false)), (.load (some 4) (.t 16))⟩, ⟨(some 124), (some (122, false)), (.call (.k (.fn (.func 128) [] [])) [(.t 123)])⟩, ⟨(some 125), (some (122, false)), (.mov (.t 2))⟩, ⟨(some 126), (some (122, false)), (.bin .eql (.t 124) (.t 125))⟩, ⟨(some 127), none, (.pick (.t 122) (.k (.bool true)) (.t 126))⟩, ⟨(some 6), none, (.mov (.t 127))⟩] [6]) .ret)))))))
def rs21 : List RV := [(.t 6)]
theorem co21 : compFn Go.Proofs.Tryd.prog Go.Proofs.Tryd.f21 pl21 = some (ac21, rs21) := by kernel_rfl
theorem enter21 {args : List AV} {H : AHeap} {Q : AV → AHeap → Prop} (hn : args.length ≤ 128) (h : W Go.Proofs.Tryd.prog ac21 (retN rs21 Q) ⟨[], initE args 0, H⟩) : Run Go.Proofs.Tryd.prog 21 args H Q := Run_fn2 mixed Go.Proofs.Tryd.func21 (by kernel_rfl) co21 (n := 128) (by kernel_rfl) hn h
end Go.Proofs.YtanchgkiomfhhaaDoor.Fw
