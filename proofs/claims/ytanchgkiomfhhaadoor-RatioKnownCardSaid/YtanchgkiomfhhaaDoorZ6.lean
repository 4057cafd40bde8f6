/- The texts Ll Lm In Re Rf Rg Ri Rj Rk Rl Rm Rn Ro Io FwW Rp Rq Rr Rs Rt Ru Rv Rw Qn Fe Qa Nb Sa Sb Sc Sd Se Sf Sh Nd, joined. -/
import Derived.Test.YtanchgkiomfhhaaDoorZ5
/- What package limb computes: a quotient's digit. -/
namespace Go.Proofs.YtanchgkiomfhhaaDoor.Fw
set_option linter.unusedSimpArgs false
set_option linter.unusedVariables false
open Go Go.Proofs.YtanchgkiomfhhaaDoor.Ma
set_option maxRecDepth 20000

section
variable {H : AHeap} {b ty off L n : Nat} {ti : Bool} {pre u post : List Nat}
theorem less_run {v : List Nat} {t : Nat} (tv : Bool) {Q : AV → AHeap → Prop} (hH : H b = some (.row ty 1 (U (pre ++ (u ++ post))))) (hL : L = pre.length + (u.length + post.length)) (ho : off = pre.length) (hn : n = u.length)
    (hu : Lim 4294967296 u) (hv : Lim 4294967296 v) (ht : t < 4294967296) (hvu : v.length < u.length) (hul : L ≤ 2199023255552)
    (hq : ∀ (w : List Nat) (bo : Nat), w.length = u.length → Lim 4294967296 w → bo ≤ 1 → val 4294967296 u + 4294967296 ^ u.length * bo = val 4294967296 w + t * val 4294967296 v → Q (.bool (decide (0 < bo))) (H.upd b (some (.row ty 1 (U (pre ++ (w ++ post))))))) :
    Run Tryd.prog 229 [.own b L off n ti, LS v tv, .int .u64 (t : Int)] H Q := by
  subst hL; subst ho; subst hn
  refine enter229 (by simp) ?_
  simp (disch := first | assumption | (apply Ap.symm; assumption) | omega | decide | (simp only [Xd] <;> omega)) only [ac229, ↓Xa, Xb, Xc, ↓reduceIte, Nat.reduceLT, Nat.reduceEqDiff, Nat.reduceBEq, Nat.reduceLeDiff, Nat.reduceAdd, Nat.reduceMul]
  refine W_loop (fun s : Nat × Nat × Nat × List Nat => ⟨[], [(0, .own b (pre.length + (u.length + post.length)) pre.length u.length ti), (1, LS v tv), (2, .int .u64 t), (7, .int .u64 s.2.1), (8, .int .u64 s.2.2.1), (12, .int .i64 u.length), (13, .int .i64 s.1)],
      H.upd b (some (.row ty 1 (U (pre ++ ((s.2.2.2 ++ u.drop s.1) ++ post)))))⟩)
    (fun s => s.1 ≤ u.length ∧ LessI u v t s.1 s.2.1 s.2.2.1 s.2.2.2) (fun s => u.length - s.1) (0, 0, 0, []) (Settle.now (by simp [upd_back _ hH])) ⟨by simp, LessI.zero u v t⟩ ?_
  rintro ⟨i, c, bo, done⟩ ⟨h1, h2⟩
  dsimp only at h1 h2 ⊢
  have hd := h2.1
  have hc := h2.2.2.1
  have hbo := h2.2.2.2.1
  by_cases hi : i < u.length
  · have hx := hu.getD (by omega) i
    have hy := hv.getD (by omega) i
    have hm : v.getD i 0 * t ≤ 4294967295 * 4294967295 := Nat.mul_le_mul (by omega) (by omega)
    have hcl : (done ++ u.drop i).length = u.length := by simp [hd]; omega
    have len1 : (pre ++ ((done ++ u.drop i) ++ post)).length = pre.length + (u.length + post.length) := by simp only [List.length_append, hd, List.length_drop]; omega
    have g1 : (pre ++ ((done ++ u.drop i) ++ post)).getD (pre.length + i) 0 = u.getD i 0 := by rw [mid_get (by omega), part_get hd hi]
    have s1 : ∀ x, (pre ++ ((done ++ u.drop i) ++ post)).set (pre.length + i) x = pre ++ (((done ++ [x]) ++ u.drop (i + 1)) ++ post) := fun x => by rw [mid_set (by omega), part_set hd hi]
    generalize hrow : pre ++ ((done ++ u.drop i) ++ post) = row at *
    by_cases hj : i < v.length
    · simp (disch := first | assumption | (apply Ap.symm; assumption) | omega | decide | (simp only [Xd] <;> omega)) only [hi, hj, g1, ↓Xa, Xb, Xc, ↓reduceIte, Nat.reduceLT, Nat.reduceEqDiff, Nat.reduceBEq, Nat.reduceLeDiff, Nat.reduceAdd, Nat.reduceMul]
      rw [s1]
      refine Settle.now ⟨(i + 1, _, _, _), by dsimp only; omega, ⟨by dsimp only; omega, h2.step hu hv ht rfl rfl⟩, rfl⟩
    · have h0 := getD_beyond (show v.length ≤ i by omega)
      simp (disch := first | assumption | (apply Ap.symm; assumption) | omega | decide | (simp only [Xd] <;> omega)) only [hi, hj, g1, ↓Xa, Xb, Xc, ↓reduceIte, Nat.reduceLT, Nat.reduceEqDiff, Nat.reduceBEq, Nat.reduceLeDiff, Nat.reduceAdd, Nat.reduceMul]
      rw [s1]
      refine Settle.now ⟨(i + 1, _, _, _), by dsimp only; omega, ⟨by dsimp only; omega, h2.step hu hv ht (c1 := c) (by rw [h0]; omega) rfl⟩, rfl⟩
  · obtain rfl : i = u.length := by omega
    simp (disch := first | assumption | (apply Ap.symm; assumption) | omega | decide | (simp only [Xd] <;> omega)) only [hi, ↓Xa, Xb, Xc, ↓reduceIte, Nat.reduceLT, Nat.reduceEqDiff, Nat.reduceBEq, Nat.reduceLeDiff, Nat.reduceAdd, Nat.reduceMul]
    refine Settle.now ?_
    simp (disch := first | assumption | (apply Ap.symm; assumption) | omega | decide | (simp only [Xd] <;> omega)) only [rs229, ↓Xa, Xb, Xc, ↓reduceIte, Nat.reduceLT, Nat.reduceEqDiff, Nat.reduceBEq, Nat.reduceLeDiff, Nat.reduceAdd, Nat.reduceMul]
    refine SetR.now ?_
    rw [List.drop_of_length_le (Nat.le_refl _), List.append_nil]
    exact hq done bo hd h2.2.1 hbo (h2.end hvu)

def scC : ACode → ACode
  | .scope0 c => c
  | x => x
theorem digit_run {v : List Nat} {m : Nat} (tv : Bool) {Q : AV → AHeap → Prop} (h : DigI u v m) (hH : H b = some (.row ty 1 (U (pre ++ (u ++ post))))) (hL : L = pre.length + (u.length + post.length)) (ho : off = pre.length) (hn : n = u.length) (hul : L ≤ 2199023255552)
    (hq : ∀ (w : List Nat), w.length = u.length → Lim 4294967296 w → val 4294967296 w = val 4294967296 u % val 4294967296 v → Q (.int .u32 ((val 4294967296 u / val 4294967296 v : Nat) : Int)) (H.upd b (some (.row ty 1 (U (pre ++ (w ++ post))))))) :
    Run Tryd.prog 220 [.own b L off n ti, LS v tv] H Q := by
  subst hL; subst ho; subst hn
  have hlu := h.hu
  have hlv := h.hv
  have hq1 := h.q_lt
  have hl := h.lims
  have htop := h.top
  have hqm : val 4294967296 u / val 4294967296 v * val 4294967296 v + val 4294967296 u % val 4294967296 v = val 4294967296 u := Nat.div_add_mod' _ _
  have hml := Nat.mod_lt (val 4294967296 u) h.vpos
  have hvl := val_lt h.lu
  refine enter220 (by simp) ?_
  have fin : ∀ g, val 4294967296 u / val 4294967296 v ≤ g → g ≤ val 4294967296 u / val 4294967296 v + 1 → g < 4294967296 → W Tryd.prog (sndC (sndC (sndC (sndC (sndC (scC (sndC ac220))))))) (scopeA (retN rs220 Q)) ⟨[], [(0, .own b (pre.length + (u.length + post.length)) pre.length u.length ti), (1, LS v tv), (5, .int .i64 v.length), (7, .int .u64 g)], H⟩ := by
    intro g g1 g2 g3
    simp (disch := first | assumption | (apply Ap.symm; assumption) | omega | decide | (simp only [Xd] <;> omega)) only [ac220, sndC, scC, ↓Xa, Xb, Xc, ↓reduceIte, Nat.reduceLT, Nat.reduceEqDiff, Nat.reduceBEq, Nat.reduceLeDiff, Nat.reduceAdd, Nat.reduceMul]
    refine run_call (less_run tv hH rfl rfl rfl h.lu h.lv g3 (by omega) hul fun w bo hw1 hw2 hb e => ?_)
    have hwl := val_lt hw2
    rw [hw1] at hwl
    generalize val 4294967296 u / val 4294967296 v = q at *
    have hgv : g = q ∨ g = q + 1 := by omega
    have hgm : g * val 4294967296 v = q * val 4294967296 v ∨ g * val 4294967296 v = q * val 4294967296 v + val 4294967296 v := by
      rcases hgv with e | e
      · left; rw [e]
      · right; rw [e, Nat.add_mul, Nat.one_mul]
    have hbc : bo = 0 ∨ bo = 1 := by omega
    rcases hbc with rfl | rfl
    · have hg : g = q := by
        rcases hgv with e1 | e1
        · exact e1
        · rw [e1, Nat.add_mul, Nat.one_mul] at e; omega
      simp (disch := first | assumption | (apply Ap.symm; assumption) | omega | decide | (simp only [Xd] <;> omega)) only [rs220, ↓Xa, Xb, Xc, ↓reduceIte, Nat.reduceLT, Nat.reduceEqDiff, Nat.reduceBEq, Nat.reduceLeDiff, Nat.reduceAdd, Nat.reduceMul]
      refine SetR.now ?_
      rw [hg]
      exact hq w hw1 hw2 (by rw [hg] at e; omega)
    · have hg : g = q + 1 := by
        rcases hgv with e1 | e1
        · rw [e1] at e; omega
        · exact e1
      subst hg
      simp (disch := first | assumption | (apply Ap.symm; assumption) | omega | decide | (simp only [Xd] <;> omega)) only [↓Xa, Xb, Xc, ↓reduceIte, Nat.reduceLT, Nat.reduceEqDiff, Nat.reduceBEq, Nat.reduceLeDiff, Nat.reduceAdd, Nat.reduceMul]
      refine W_loop (fun s : Nat × Nat × List Nat => ⟨[], [(0, .own b (pre.length + (u.length + post.length)) pre.length u.length ti), (1, LS v tv), (5, .int .i64 v.length), (7, .int .u64 q), (9, .int .u64 s.2.1), (88, .int .i64 u.length), (89, .int .i64 s.1)],
          H.upd b (some (.row ty 1 (U (pre ++ ((s.2.2 ++ w.drop s.1) ++ post)))))⟩)
        (fun s => s.1 ≤ u.length ∧ AddI w v s.1 s.2.1 s.2.2) (fun s => u.length - s.1) (0, 0, []) (Settle.now rfl) ⟨by simp, AddI.zero w v⟩ ?_
      rintro ⟨i, c, done⟩ ⟨h1, h2⟩
      dsimp only at h1 h2 ⊢
      have hd := h2.1
      have hc := h2.2.2.1
      by_cases hi : i < u.length
      · have hiw : i < w.length := by omega
        have hx := hw2.getD (by omega) i
        have hy := h.lv.getD (by omega) i
        have len1 : (pre ++ ((done ++ w.drop i) ++ post)).length = pre.length + (u.length + post.length) := by simp only [List.length_append, hd, List.length_drop]; omega
        have hcl : i < (done ++ w.drop i).length := by simp only [List.length_append, hd, List.length_drop]; omega
        have g1 : (pre ++ ((done ++ w.drop i) ++ post)).getD (pre.length + i) 0 = w.getD i 0 := by rw [mid_get hcl, part_get hd hiw]
        have s1 : ∀ x, (pre ++ ((done ++ w.drop i) ++ post)).set (pre.length + i) x = pre ++ (((done ++ [x]) ++ w.drop (i + 1)) ++ post) := fun x => by rw [mid_set hcl, part_set hd hiw]
        generalize hrow : pre ++ ((done ++ w.drop i) ++ post) = row at *
        by_cases hj : i < v.length
        · simp (disch := first | assumption | (apply Ap.symm; assumption) | omega | decide | (simp only [Xd] <;> omega)) only [hi, hj, g1, ↓Xa, Xb, Xc, ↓reduceIte, Nat.reduceLT, Nat.reduceEqDiff, Nat.reduceBEq, Nat.reduceLeDiff, Nat.reduceAdd, Nat.reduceMul]
          rw [s1]
          refine Settle.now ⟨(i + 1, _, _), by dsimp only; omega, ⟨by dsimp only; omega, h2.step hw2 h.lv rfl⟩, rfl⟩
        · have h0 := getD_beyond (show v.length ≤ i by omega)
          simp (disch := first | assumption | (apply Ap.symm; assumption) | omega | decide | (simp only [Xd] <;> omega)) only [hi, hj, g1, ↓Xa, Xb, Xc, ↓reduceIte, Nat.reduceLT, Nat.reduceEqDiff, Nat.reduceBEq, Nat.reduceLeDiff, Nat.reduceAdd, Nat.reduceMul]
          rw [s1]
          refine Settle.now ⟨(i + 1, _, _), by dsimp only; omega, ⟨by dsimp only; omega, h2.step hw2 h.lv (s := c + w.getD i 0) (by omega)⟩, rfl⟩
      · obtain rfl : i = u.length := by omega
        simp (disch := first | assumption | (apply Ap.symm; assumption) | omega | decide | (simp only [Xd] <;> omega)) only [hi, ↓Xa, Xb, Xc, ↓reduceIte, Nat.reduceLT, Nat.reduceEqDiff, Nat.reduceBEq, Nat.reduceLeDiff, Nat.reduceAdd, Nat.reduceMul]
        refine Settle.now ?_
        simp (disch := first | assumption | (apply Ap.symm; assumption) | omega | decide | (simp only [Xd] <;> omega)) only [rs220, ↓Xa, Xb, Xc, ↓reduceIte, Nat.reduceLT, Nat.reduceEqDiff, Nat.reduceBEq, Nat.reduceLeDiff, Nat.reduceAdd, Nat.reduceMul]
        refine SetR.now ?_
        rw [List.drop_of_length_le (by omega), List.append_nil]
        refine hq done hd h2.2.1 ?_
        have e2 := h2.2.2.2
        rw [List.take_of_length_le (by omega), List.take_of_length_le (by omega)] at e2
        have hdl := val_lt h2.2.1
        rw [hd] at hdl
        rw [Nat.add_mul, Nat.one_mul] at e
        have hcc : c = 0 ∨ c = 1 := by omega
        rcases hcc with rfl | rfl <;> omega
  have gl : ∀ i, i < u.length → (pre ++ (u ++ post)).getD (pre.length + i) 0 = u.getD i 0 := fun i hi => mid_get hi
  have hul2 : (pre ++ (u ++ post)).length = pre.length + (u.length + post.length) := by simp
  have g1 := gl (m + 2) (by omega)
  have g2 := gl (m + 1) (by omega)
  have g3 := gl m (by omega)
  have e1 : m + 2 - 1 = m + 1 := by omega
  have e2 : m + 2 - 2 = m := by omega
  have hst := h.start
  have hU2 : U2 u m = u.getD (m + 2) 0 * 2 ^ 32 + u.getD (m + 1) 0 := rfl
  have hne : (v.getD (m + 1) 0 = 0) = False := eq_false (by omega)
  have hrl : U2 u m % v.getD (m + 1) 0 < v.getD (m + 1) 0 := Nat.mod_lt _ (by omega)
  have hgl : U2 u m / v.getD (m + 1) 0 < 18446744073709551616 := Nat.lt_of_le_of_lt (Nat.div_le_self _ _) (by rw [hU2]; omega)
  generalize hrow : pre ++ (u ++ post) = row at *
  simp (disch := first | assumption | (apply Ap.symm; assumption) | omega | decide | (simp only [Xd] <;> omega)) only [ac220, hH, hlv, e1, e2, g1, g2, ← hU2, hne, ne_eq, ↓Xa, Xb, Xc, ↓reduceIte, Nat.reduceLT, Nat.reduceEqDiff, Nat.reduceBEq, Nat.reduceLeDiff, Nat.reduceAdd, Nat.reduceMul]
  simp only [hlv] at fin
  refine W_loop (fun s : Nat × Nat => ⟨[], [(0, .own b (pre.length + (u.length + post.length)) pre.length u.length ti), (1, LS v tv), (5, .int .i64 ((m + 2 : Nat) : Int)), (7, .int .u64 s.1), (8, .int .u64 s.2)], H⟩)
    (fun s => GuessI u v m s.1 s.2 ∧ s.2 < 4294967296) (fun s => s.1) (U2 u m / v.getD (m + 1) 0, U2 u m % v.getD (m + 1) 0) (Settle.now rfl) ⟨hst, by dsimp only; omega⟩ ?_
  rintro ⟨g, r⟩ ⟨hg, hr⟩
  dsimp only at hg hr ⊢
  have hgm := hg.2.2
  have next : (4294967296 ≤ g ∨ r * 2 ^ 32 + u.getD m 0 < g * v.getD m 0) → 0 < g ∧ GuessI u v m (g - 1) (r + v.getD (m + 1) 0) := fun hc => hg.step h hc
  have leave : (4294967296 ≤ g ∨ r * 2 ^ 32 + u.getD m 0 < g * v.getD m 0) → 4294967296 ≤ r + v.getD (m + 1) 0 → val 4294967296 u / val 4294967296 v ≤ g - 1 ∧ g - 1 ≤ val 4294967296 u / val 4294967296 v + 1 ∧ g - 1 < 4294967296 := fun hc hr' => by
    have h1 := next hc
    have h2 := h1.2.endB h hr' (by omega)
    have h3 := h1.2.2.1
    exact ⟨h3, by omega, Nat.lt_of_le_of_lt h2 hq1⟩
  by_cases hgB : 4294967296 ≤ g
  · have c1 : 0 < g / 2 ^ 32 := by omega
    have hp := (next (.inl hgB)).1
    by_cases hr' : 4294967296 ≤ r + v.getD (m + 1) 0
    · have c2 : 0 < (r + v.getD (m + 1) 0) / 2 ^ 32 := by omega
      obtain ⟨f1, f2, f3⟩ := leave (.inl hgB) hr'
      simp (disch := first | assumption | (apply Ap.symm; assumption) | omega | decide | (simp only [Xd] <;> omega)) only [hH, e1, e2, g1, g2, g3, c1, c2, ↓Xa, Xb, Xc, ↓reduceIte, Nat.reduceLT, Nat.reduceEqDiff, Nat.reduceBEq, Nat.reduceLeDiff, Nat.reduceAdd, Nat.reduceMul]
      exact Settle.keep [0, 1, 5, 7] (fin (g - 1) f1 f2 f3)
    · have c2 : ¬ 0 < (r + v.getD (m + 1) 0) / 2 ^ 32 := by omega
      simp (disch := first | assumption | (apply Ap.symm; assumption) | omega | decide | (simp only [Xd] <;> omega)) only [hH, e1, e2, g1, g2, g3, c1, c2, ↓Xa, Xb, Xc, ↓reduceIte, Nat.reduceLT, Nat.reduceEqDiff, Nat.reduceBEq, Nat.reduceLeDiff, Nat.reduceAdd, Nat.reduceMul]
      exact Settle.keep [0, 1, 5, 7, 8] ⟨(g - 1, r + v.getD (m + 1) 0), by dsimp only; omega, ⟨(next (.inl hgB)).2, by dsimp only; omega⟩, rfl⟩
  · have c1 : ¬ 0 < g / 2 ^ 32 := by omega
    have hm2 : g * v.getD m 0 ≤ 4294967295 * 4294967295 := Nat.mul_le_mul (by omega) (by omega)
    by_cases hc : r * 2 ^ 32 + u.getD m 0 < g * v.getD m 0
    · have hp := (next (.inr hc)).1
      by_cases hr' : 4294967296 ≤ r + v.getD (m + 1) 0
      · have c2 : 0 < (r + v.getD (m + 1) 0) / 2 ^ 32 := by omega
        obtain ⟨f1, f2, f3⟩ := leave (.inr hc) hr'
        simp (disch := first | assumption | (apply Ap.symm; assumption) | omega | decide | (simp only [Xd] <;> omega)) only [hH, e1, e2, g1, g2, g3, c1, c2, hc, ↓Xa, Xb, Xc, ↓reduceIte, Nat.reduceLT, Nat.reduceEqDiff, Nat.reduceBEq, Nat.reduceLeDiff, Nat.reduceAdd, Nat.reduceMul]
        exact Settle.keep [0, 1, 5, 7] (fin (g - 1) f1 f2 f3)
      · have c2 : ¬ 0 < (r + v.getD (m + 1) 0) / 2 ^ 32 := by omega
        simp (disch := first | assumption | (apply Ap.symm; assumption) | omega | decide | (simp only [Xd] <;> omega)) only [hH, e1, e2, g1, g2, g3, c1, c2, hc, ↓Xa, Xb, Xc, ↓reduceIte, Nat.reduceLT, Nat.reduceEqDiff, Nat.reduceBEq, Nat.reduceLeDiff, Nat.reduceAdd, Nat.reduceMul]
        exact Settle.keep [0, 1, 5, 7, 8] ⟨(g - 1, r + v.getD (m + 1) 0), by dsimp only; omega, ⟨(next (.inr hc)).2, by dsimp only; omega⟩, rfl⟩
    · simp (disch := first | assumption | (apply Ap.symm; assumption) | omega | decide | (simp only [Xd] <;> omega)) only [hH, e1, e2, g1, g2, g3, c1, hc, ↓Xa, Xb, Xc, ↓reduceIte, Nat.reduceLT, Nat.reduceEqDiff, Nat.reduceBEq, Nat.reduceLeDiff, Nat.reduceAdd, Nat.reduceMul]
      exact Settle.keep [0, 1, 5, 7] (fin g hg.2.1 (hg.endA h (by omega) (by omega)) (by omega))
end
end Go.Proofs.YtanchgkiomfhhaaDoor.Fw

/- What package limb computes: quotients and remainders. -/
namespace Go.Proofs.YtanchgkiomfhhaaDoor.Fw
set_option linter.unusedSimpArgs false
set_option linter.unusedVariables false
open Go Go.Proofs.YtanchgkiomfhhaaDoor.Ma
set_option maxRecDepth 20000

theorem LS_0 (B : Nat) : AV.seq 0 [] true = LS (digs B 0) true := by rw [digs_zero]; rfl
theorem lss_cmp {m n : Nat} {K : AV → Prop} : binW .lss (.int .i64 (cmpZ m n)) (.int .i64 ((0 : Nat) : Int)) K ↔ K (.bool (decide (m < n))) := by
  have : (cmpZ m n < ((0 : Nat) : Int)) ↔ m < n := by unfold cmpZ; split <;> simp_all; split <;> omega
  simp only [binW, binInt, true_and, this]
theorem fin_trL {l x : List Nat} {b ty n : Nat} {t : Bool} {H : AHeap} {Q : AV → AHeap → Prop} {k : IntKind} {m : Int} (hb : H b = none) (hn : l.length = n) (hq : Q (.tup [LS (tr l) true, LS x t, .int k m]) H) : SetR Q (.tup [.own b n 0 (tr l).length true, LS x t, .int k m]) (H.upd b (some (.row ty 1 (U l)))) := by
  refine SetR.frz b (upd_same _ _ _) ?_
  rw [upd_upd, upd_back _ hb, frz, List.map_cons, List.map_cons, List.map_cons, List.map_nil, frz2_tr hn, frz2_int]
  exact SetR.now hq

theorem app_LS {H : AHeap} {ty n : Nat} {l m : List Nat} {t : Bool} {K : AV → AHeap → Prop} (hn : n = m.length) (hm : m ≠ []) (hb : l.length + m.length ≤ 17592186044416)
    (k : ∀ b, H b = none → K (.own b (l.length + m.length) 0 (l.length + m.length) false) (H.upd b (some (.row ty 1 (U (l ++ m)))))) : appV H ty 1 4 (LS l true) (.seq n (U m) t) K := by
  subst hn
  have hpos : 0 < m.length := List.length_pos_iff.2 hm
  refine .inl ⟨by simp, U_cell m, rfl, by simp, by omega, by omega, fun e => absurd e (by omega), fun _ b hb' => ?_⟩
  have := k b hb'
  rw [U_app] at this
  simpa using this
theorem divmod_lt {a b : List Nat} (ta tb : Bool) (ha : Lim 4294967296 a) (hb : Lim 4294967296 b) (h0 : 0 < val 4294967296 b) (hla : a.length ≤ 549755813888) (hlb : b.length ≤ 549755813888) (hlt : val 4294967296 a < val 4294967296 b) :
    PFn Tryd.prog 207 [LS a ta, LS b tb] (.tup [LS (digs 4294967296 (val 4294967296 a / val 4294967296 b)) true, LS (digs 4294967296 (val 4294967296 a % val 4294967296 b)) true, .int .i64 ((0 : Nat) : Int)]) := by
  intro H Q hq
  refine enter207 (by simp) ?_
  simp (disch := first | assumption | (apply Ap.symm; assumption) | omega | decide | (simp only [Xd] <;> omega)) only [ac207, ↓Xa, Xb, Xc, ↓reduceIte, Nat.reduceLT, Nat.reduceEqDiff, Nat.reduceBEq, Nat.reduceLeDiff, Nat.reduceAdd, Nat.reduceMul]
  refine (trim_fn b tb).call ?_
  have htb := tr_len b
  rw [tr_digs (by omega) hb] at htb ⊢
  generalize val 4294967296 b = Bv at *
  have hY := lim_digs (B := 4294967296) (by omega) Bv
  have hYv := val_digs (B := 4294967296) (by omega) Bv
  have hYp : 0 < (digs 4294967296 Bv).length := by rw [digs_pos (by omega) h0]; simp
  generalize digs 4294967296 Bv = Y at *
  have hY0 : (Y.length = 0) = False := eq_false (by omega)
  simp (disch := first | assumption | (apply Ap.symm; assumption) | omega | decide | (simp only [Xd] <;> omega)) only [hY0, ↓Xa, Xb, Xc, ↓reduceIte, Nat.reduceLT, Nat.reduceEqDiff, Nat.reduceBEq, Nat.reduceLeDiff, Nat.reduceAdd, Nat.reduceMul]
  refine (cmp_fn ta true ha hY).call ?_
  rw [hYv]
  simp (disch := first | assumption | (apply Ap.symm; assumption) | omega | decide | (simp only [Xd] <;> omega)) only [lss_cmp, hlt, ↓Xa, Xb, Xc, ↓reduceIte, Nat.reduceLT, Nat.reduceEqDiff, Nat.reduceBEq, Nat.reduceLeDiff, Nat.reduceAdd, Nat.reduceMul]
  refine (norm_fn ta (by omega)).call ?_
  rw [tr_digs (by omega) ha]
  simp (disch := first | assumption | (apply Ap.symm; assumption) | omega | decide | (simp only [Xd] <;> omega)) only [rs207, ↓Xa, Xb, Xc, ↓reduceIte, Nat.reduceLT, Nat.reduceEqDiff, Nat.reduceBEq, Nat.reduceLeDiff, Nat.reduceAdd, Nat.reduceMul]
  rw [Nat.div_eq_of_lt hlt, Nat.mod_eq_of_lt hlt, ← LS_0 4294967296] at hq
  exact SetR.now hq

theorem divmod_one {a b : List Nat} (ta tb : Bool) (ha : Lim 4294967296 a) (hb : Lim 4294967296 b) (h0 : 0 < val 4294967296 b) (hla : a.length ≤ 549755813888) (hlb : b.length ≤ 549755813888) (hlt : ¬ val 4294967296 a < val 4294967296 b) (h1 : (digs 4294967296 (val 4294967296 b)).length = 1) :
    PFn Tryd.prog 207 [LS a ta, LS b tb] (.tup [LS (digs 4294967296 (val 4294967296 a / val 4294967296 b)) true, LS (digs 4294967296 (val 4294967296 a % val 4294967296 b)) true, .int .i64 ((0 : Nat) : Int)]) := by
  intro H Q hq
  refine enter207 (by simp) ?_
  simp (disch := first | assumption | (apply Ap.symm; assumption) | omega | decide | (simp only [Xd] <;> omega)) only [ac207, ↓Xa, Xb, Xc, ↓reduceIte, Nat.reduceLT, Nat.reduceEqDiff, Nat.reduceBEq, Nat.reduceLeDiff, Nat.reduceAdd, Nat.reduceMul]
  refine (trim_fn b tb).call ?_
  rw [tr_digs (by omega) hb]
  generalize val 4294967296 b = Bv at *
  have hY := lim_digs (B := 4294967296) (by omega) Bv
  have hYv := val_digs (B := 4294967296) (by omega) Bv
  generalize digs 4294967296 Bv = Y at *
  simp (disch := first | assumption | (apply Ap.symm; assumption) | omega | decide | (simp only [Xd] <;> omega)) only [h1, ↓Xa, Xb, Xc, ↓reduceIte, Nat.reduceLT, Nat.reduceEqDiff, Nat.reduceBEq, Nat.reduceLeDiff, Nat.reduceAdd, Nat.reduceMul]
  refine (cmp_fn ta true ha hY).call ?_
  rw [hYv]
  have hd : val 4294967296 Y = Y.getD 0 0 := by
    have := val_take_all 4294967296 Y (0 + 1) (by omega)
    rw [← this, val_take]; simp [val]
  rw [hYv] at hd
  have hBl : Bv < 4294967296 := by rw [hd]; exact hY.getD (by omega) 0
  simp (disch := first | assumption | (apply Ap.symm; assumption) | omega | decide | (simp only [Xd] <;> omega)) only [lss_cmp, hlt, h1, load_LS0, ← hd, ↓Xa, Xb, Xc, ↓reduceIte, Nat.reduceLT, Nat.reduceEqDiff, Nat.reduceBEq, Nat.reduceLeDiff, Nat.reduceAdd, Nat.reduceMul]
  refine (divsmall_fn ta ha h0 hBl (by omega)).call ?_
  simp (disch := first | assumption | (apply Ap.symm; assumption) | omega | decide | (simp only [Xd] <;> omega)) only [↓Xa, Xb, Xc, ↓reduceIte, Nat.reduceLT, Nat.reduceEqDiff, Nat.reduceBEq, Nat.reduceLeDiff, Nat.reduceAdd, Nat.reduceMul]
  have hm : val 4294967296 a % Bv < 4294967296 := Nat.lt_trans (Nat.mod_lt _ h0) hBl
  refine (norm_fn (l := [val 4294967296 a % Bv]) true (by simp)).call ?_
  rw [tr_digs (by omega) (Lim.one hm), val_one]
  simp (disch := first | assumption | (apply Ap.symm; assumption) | omega | decide | (simp only [Xd] <;> omega)) only [rs207, ↓Xa, Xb, Xc, ↓reduceIte, Nat.reduceLT, Nat.reduceEqDiff, Nat.reduceBEq, Nat.reduceLeDiff, Nat.reduceAdd, Nat.reduceMul]
  exact SetR.now hq

theorem divmod_many {a b : List Nat} (ta tb : Bool) (ha : Lim 4294967296 a) (hb : Lim 4294967296 b) (h0 : 0 < val 4294967296 b) (hla : a.length ≤ 549755813888) (hlb : b.length ≤ 549755813888) (hlt : ¬ val 4294967296 a < val 4294967296 b) (h1 : ¬ (digs 4294967296 (val 4294967296 b)).length = 1) :
    PFn Tryd.prog 207 [LS a ta, LS b tb] (.tup [LS (digs 4294967296 (val 4294967296 a / val 4294967296 b)) true, LS (digs 4294967296 (val 4294967296 a % val 4294967296 b)) true, .int .i64 ((0 : Nat) : Int)]) := by
  intro H Q hq
  refine enter207 (by simp) ?_
  simp (disch := first | assumption | (apply Ap.symm; assumption) | omega | decide | (simp only [Xd] <;> omega)) only [ac207, ↓Xa, Xb, Xc, ↓reduceIte, Nat.reduceLT, Nat.reduceEqDiff, Nat.reduceBEq, Nat.reduceLeDiff, Nat.reduceAdd, Nat.reduceMul]
  refine (trim_fn b tb).call ?_
  have htb := tr_len b
  rw [tr_digs (by omega) hb] at htb ⊢
  generalize val 4294967296 b = Bv at *
  have hY := lim_digs (B := 4294967296) (by omega) Bv
  have hYv := val_digs (B := 4294967296) (by omega) Bv
  have hYp : 0 < (digs 4294967296 Bv).length := by rw [digs_pos (by omega) h0]; simp
  have hY0 : ((digs 4294967296 Bv).length = 0) = False := eq_false (by omega)
  simp (disch := first | assumption | (apply Ap.symm; assumption) | omega | decide | (simp only [Xd] <;> omega)) only [hY0, ↓Xa, Xb, Xc, ↓reduceIte, Nat.reduceLT, Nat.reduceEqDiff, Nat.reduceBEq, Nat.reduceLeDiff, Nat.reduceAdd, Nat.reduceMul]
  refine (cmp_fn ta true ha hY).call ?_
  rw [hYv]
  -- many limbs
  have hn2 : 2 ≤ (digs 4294967296 Bv).length := by omega
  have htop := hY.getD (by omega) ((digs 4294967296 Bv).length - 1)
  have htl : blen ((digs 4294967296 Bv).getD ((digs 4294967296 Bv).length - 1) 0) ≤ 32 := blen_le.2 (by omega)
  simp (disch := first | assumption | (apply Ap.symm; assumption) | omega | decide | (simp only [Xd] <;> omega)) only [lss_cmp, hlt, h1, ↓Xa, Xb, Xc, ↓reduceIte, Nat.reduceLT, Nat.reduceEqDiff, Nat.reduceBEq, Nat.reduceLeDiff, Nat.reduceAdd, Nat.reduceMul]
  refine (lz_fn htop).call ?_
  generalize hs : 32 - blen ((digs 4294967296 Bv).getD ((digs 4294967296 Bv).length - 1) 0) = s at *
  have hs32 : s ≤ 32 := by omega
  obtain ⟨w1, w2, w3⟩ := shifted h0 hs.symm
  simp (disch := first | assumption | (apply Ap.symm; assumption) | omega | decide | (simp only [Xd] <;> omega)) only [↓Xa, Xb, Xc, ↓reduceIte, Nat.reduceLT, Nat.reduceEqDiff, Nat.reduceBEq, Nat.reduceLeDiff, Nat.reduceAdd, Nat.reduceMul]
  refine (shl_fn true hY (by omega) (by omega)).call ?_
  rw [hYv]
  simp (disch := first | assumption | (apply Ap.symm; assumption) | omega | decide | (simp only [Xd] <;> omega)) only [↓Xa, Xb, Xc, ↓reduceIte, Nat.reduceLT, Nat.reduceEqDiff, Nat.reduceBEq, Nat.reduceLeDiff, Nat.reduceAdd, Nat.reduceMul]
  refine (shl_fn ta ha (by omega) (by omega)).call ?_
  have hV0 : 0 < Bv * 2 ^ s := Nat.mul_pos h0 (Nat.pow_pos (by omega))
  have hlv := lim_digs (B := 4294967296) (by omega) (Bv * 2 ^ s)
  have hvv := val_digs (B := 4294967296) (by omega) (Bv * 2 ^ s)
  have hlu := lim_digs (B := 4294967296) (by omega) (val 4294967296 a * 2 ^ s)
  have hvu := val_digs (B := 4294967296) (by omega) (val 4294967296 a * 2 ^ s)
  have hAB : Bv * 2 ^ s ≤ val 4294967296 a * 2 ^ s := Nat.mul_le_mul_right _ (by omega)
  have hll : (digs 4294967296 (Bv * 2 ^ s)).length ≤ (digs 4294967296 (val 4294967296 a * 2 ^ s)).length := by
    rcases Nat.lt_or_ge (digs 4294967296 (val 4294967296 a * 2 ^ s)).length (digs 4294967296 (Bv * 2 ^ s)).length with h | h
    · have := digs_lt_len (by omega) h; omega
    · exact h
  have hul : (digs 4294967296 (val 4294967296 a * 2 ^ s)).length ≤ a.length + 1 := digs_len (by omega) _ _ (by
    have h1 := val_lt ha
    have h2 : (2 : Nat) ^ s ≤ 2 ^ 32 := Nat.pow_le_pow_right (by omega) hs32
    rw [Nat.pow_succ]
    exact Nat.mul_lt_mul_of_lt_of_le h1 h2 (by omega))
  rw [w1] at hll
  have hdiv : val 4294967296 a * 2 ^ s / (Bv * 2 ^ s) = val 4294967296 a / Bv := Nat.mul_div_mul_right _ _ (Nat.pow_pos (by omega))
  have hmod : val 4294967296 a * 2 ^ s % (Bv * 2 ^ s) / 2 ^ s = val 4294967296 a % Bv := by
    rw [Nat.mul_mod_mul_right, Nat.mul_div_cancel _ (Nat.pow_pos (by omega))]
  generalize val 4294967296 a * 2 ^ s = T at *
  generalize Bv * 2 ^ s = V at *
  generalize digs 4294967296 V = v at *
  generalize hn : (digs 4294967296 Bv).length = n at *
  generalize digs 4294967296 T = u0 at *
  simp (disch := first | assumption | (apply Ap.symm; assumption) | omega | decide | (simp only [Xd] <;> omega)) only [↓Xa, Xb, Xc, ↓reduceIte, Nat.reduceLT, Nat.reduceEqDiff, Nat.reduceBEq, Nat.reduceLeDiff, Nat.reduceAdd, Nat.reduceMul]
  refine app_LS (l := u0) (m := [0]) rfl (by simp) (by simp; omega) fun bu hbu => ?_
  obtain ⟨k0, hk0⟩ : ∃ k0, u0.length = n + k0 := ⟨u0.length - n, by omega⟩
  have hum : u0.length + [0].length = n + k0 + 1 := by simp [hk0]
  rw [hum]
  have hdn : n + k0 + 1 - n = k0 + 1 := by omega
  simp (disch := first | assumption | (apply Ap.symm; assumption) | omega | decide | (simp only [Xd] <;> omega)) only [w1, hdn, ↓Xa, Xb, Xc, ↓reduceIte, Nat.reduceLT, Nat.reduceEqDiff, Nat.reduceBEq, Nat.reduceLeDiff, Nat.reduceAdd, Nat.reduceMul]
  refine newU_i fun bq hbq => ?_
  have nb := hbq
  simp only [upd_none] at nb
  obtain ⟨nbA, nbq⟩ := nb
  simp (disch := first | assumption | (apply Ap.symm; assumption) | omega | decide | (simp only [Xd] <;> omega)) only [hdn, Nat.add_sub_cancel, ↓Xa, Xb, Xc, ↓reduceIte, Nat.reduceLT, Nat.reduceEqDiff, Nat.reduceBEq, Nat.reduceLeDiff, Nat.reduceAdd, Nat.reduceMul]
  have hlz : (u0 ++ [0]).length = n + k0 + 1 := by simp [hk0]
  refine W_loop (fun z : Nat × List Nat × List Nat => ⟨[], [(10, .int .i64 s), (11, LS v true), (13, .own bu (n + k0 + 1) 0 (n + k0 + 1) false), (15, .int .i64 n), (16, .own bq (k0 + 1) 0 (k0 + 1) true), (17, .int .i64 (dn z.1))],
      (H.upd bu (some (.row 172 1 (U z.2.1)))).upd bq (some (.row 172 1 (U z.2.2)))⟩)
    (fun z => DivK T V n k0 z.1 z.2.1 z.2.2) (fun z => z.1) (k0 + 1, u0 ++ [0], List.replicate (k0 + 1) 0) (Settle.now rfl) ?_ ?_
  · refine ⟨Nat.le_refl _, hlz, lim_snoc hlu (by omega), by simp, lim_zeros (by omega) _, ?_, ?_⟩
    · -- the highest limbs, a nought on top
      have e := val_append 4294967296 (u0.drop (k0 + 1)) [0]
      have h1 := val_lt (hlu.drop (k0 + 1))
      rw [List.length_drop] at h1
      have h2 : (u0 ++ [0]).drop (k0 + 1) = u0.drop (k0 + 1) ++ [0] := by rw [List.drop_append_of_le_length (by omega)]
      rw [h2, e, val_one, Nat.mul_zero, Nat.add_zero]
      have h3 := val_top1 (B := 4294967296) (l := v) (n := n - 1) (by omega)
      rw [hvv] at h3
      have h4 : 4294967296 ^ (n - 1) * 1 ≤ 4294967296 ^ (n - 1) * v.getD (n - 1) 0 := Nat.mul_le_mul_left _ (by omega)
      rw [show u0.length - (k0 + 1) = n - 1 by omega] at h1
      omega
    · have z : val 4294967296 [] = 0 := rfl
      show T = V * (4294967296 ^ (k0 + 1) * val 4294967296 ((List.replicate (k0 + 1) 0).drop (k0 + 1))) + val 4294967296 (u0 ++ [0])
      rw [List.drop_of_length_le (Nat.le_of_eq List.length_replicate), val_snoc, hvu, z, Nat.mul_zero, Nat.mul_zero, Nat.mul_zero, Nat.zero_add, Nat.add_zero]
  rintro ⟨M, ul, ql⟩ hk
  dsimp only at hk ⊢
  have hu1 := hk.ulen
  have hq1 := hk.qlen
  cases M with
  | zero =>
    obtain ⟨d1, d2⟩ := hk.end
    simp (disch := first | assumption | (apply Ap.symm; assumption) | omega | decide | (simp only [Xd] <;> omega)) only [↓Xa, Xb, Xc, ↓reduceIte, Nat.reduceLT, Nat.reduceEqDiff, Nat.reduceBEq, Nat.reduceLeDiff, Nat.reduceAdd, Nat.reduceMul]
    refine Settle.freeze 13 rfl (by rw [upd_otherA nbA.symm, upd_same]) (by simp [hu1]) (.inr (by simp)) ?_
    have e1 : AV.seq (n + k0 + 1) (((U ul).drop 0).take ((n + k0 + 1) * 1)) false = LS ul false := by
      rw [List.drop_zero, Nat.mul_one, ← hu1, List.take_of_length_le (by simp)]; rfl
    rw [e1, upd_over nbA, upd_back H hbu]
    refine Settle.now ?_
    simp (disch := first | assumption | (apply Ap.symm; assumption) | omega | decide | (simp only [Xd] <;> omega)) only [↓Xa, Xb, Xc, ↓reduceIte, Nat.reduceLT, Nat.reduceEqDiff, Nat.reduceBEq, Nat.reduceLeDiff, Nat.reduceAdd, Nat.reduceMul]
    refine (shr_fn false hk.ulim (by omega) (by omega)).call ?_
    rw [d2, hmod]
    simp (disch := first | assumption | (apply Ap.symm; assumption) | omega | decide | (simp only [Xd] <;> omega)) only [↓Xa, Xb, Xc, ↓reduceIte, Nat.reduceLT, Nat.reduceEqDiff, Nat.reduceBEq, Nat.reduceLeDiff, Nat.reduceAdd, Nat.reduceMul]
    refine trim_call (upd_same _ _ _) hq1 ?_
    simp (disch := first | assumption | (apply Ap.symm; assumption) | omega | decide | (simp only [Xd] <;> omega)) only [rs207, ↓Xa, Xb, Xc, ↓reduceIte, Nat.reduceLT, Nat.reduceEqDiff, Nat.reduceBEq, Nat.reduceLeDiff, Nat.reduceAdd, Nat.reduceMul]
    refine fin_trL nbq hq1 ?_
    rw [tr_digs (by omega) hk.qlim, d1, hdiv]
    exact hq
  | succ k =>
    have hM := hk.hM
    have hkl : k ≤ k0 := by omega
    obtain ⟨s1, s2, s3⟩ := hk.seg w2
    have hseg : ((ul.drop k).take (n + 1)).length = n + 1 := by rw [List.length_take, List.length_drop]; omega
    have hparts : ul = ul.take k ++ ((ul.drop k).take (n + 1) ++ ul.drop (k + (n + 1))) := by
      rw [← List.drop_drop, List.take_append_drop, List.take_append_drop]
    have hD : DigI ((ul.drop k).take (n + 1)) v (n - 2) := by
      refine ⟨by omega, by omega, (hk.ulim.drop k).take _, hlv, ?_, ?_⟩
      · rw [show n - 2 + 1 = n - 1 by omega]; exact w3
      · rw [s1, hvv]; exact s2
    have hkn : k + n + 1 - k = n + 1 := by omega
    have hpre : (ul.take k).length = k := by rw [List.length_take]; omega
    simp (disch := first | assumption | (apply Ap.symm; assumption) | omega | decide | (simp only [Xd] <;> omega)) only [hkn, ↓Xa, Xb, Xc, ↓reduceIte, Nat.reduceLT, Nat.reduceEqDiff, Nat.reduceBEq, Nat.reduceLeDiff, Nat.reduceAdd, Nat.reduceMul]
    refine run_call (digit_run (pre := ul.take k) (u := (ul.drop k).take (n + 1)) (post := ul.drop (k + (n + 1))) true hD (by rw [upd_otherA nbA.symm, upd_same, ← hparts]) (by rw [hpre, hseg, List.length_drop]; omega) hpre.symm hseg.symm (by omega) fun w g1 g2 g3 => ?_)
    rw [hseg] at g1
    rw [hvv] at g3 ⊢
    have hqd : val 4294967296 ((ul.drop k).take (n + 1)) / V < 4294967296 := Nat.div_lt_of_lt_mul (by rw [s1, Nat.mul_comm]; exact s2)
    have stp := hk.step w2 hV0 g1 g2 g3 rfl
    rw [Nat.mod_eq_of_lt hqd] at stp
    generalize val 4294967296 ((ul.drop k).take (n + 1)) / V = qd at *
    simp (disch := first | assumption | (apply Ap.symm; assumption) | omega | decide | (simp only [Xd] <;> omega)) only [↓Xa, Xb, Xc, ↓reduceIte, Nat.reduceLT, Nat.reduceEqDiff, Nat.reduceBEq, Nat.reduceLeDiff, Nat.reduceAdd, Nat.reduceMul]
    exact Settle.keep [10, 11, 13, 15, 16, 17] ⟨(k, _, _), by dsimp only; omega, stp, rfl⟩

theorem divmod_fn {a b : List Nat} (ta tb : Bool) (ha : Lim 4294967296 a) (hb : Lim 4294967296 b) (h0 : 0 < val 4294967296 b) (hla : a.length ≤ 549755813888) (hlb : b.length ≤ 549755813888) :
    PFn Tryd.prog 207 [LS a ta, LS b tb] (.tup [LS (digs 4294967296 (val 4294967296 a / val 4294967296 b)) true, LS (digs 4294967296 (val 4294967296 a % val 4294967296 b)) true, .int .i64 ((0 : Nat) : Int)]) := by
  by_cases hlt : val 4294967296 a < val 4294967296 b
  · exact divmod_lt ta tb ha hb h0 hla hlb hlt
  · by_cases h1 : (digs 4294967296 (val 4294967296 b)).length = 1
    · exact divmod_one ta tb ha hb h0 hla hlb hlt h1
    · exact divmod_many ta tb ha hb h0 hla hlb hlt h1
end Go.Proofs.YtanchgkiomfhhaaDoor.Fw

/- What package integer computes: making, signs, comparing, sums, products. -/
namespace Go.Proofs.YtanchgkiomfhhaaDoor.Fw
set_option linter.unusedSimpArgs false
set_option linter.unusedVariables false
open Go Go.Proofs.YtanchgkiomfhhaaDoor.Ma
set_option maxRecDepth 20000

def IntA (z : Int) : AV := .agg [.bool (decide (z < 0)), LS (digs 4294967296 z.natAbs) true]
def sg (neg : Bool) (n : Nat) : Int := if neg then -(n : Int) else n
theorem sg_abs (neg : Bool) (n : Nat) : (sg neg n).natAbs = n := by cases neg <;> simp [sg]
theorem sg_neg (neg : Bool) (n : Nat) : decide (sg neg n < 0) = (neg && decide (0 < n)) := by cases neg <;> simp [sg] <;> omega
theorem abs_nn {z : Int} (h : 0 ≤ z) : ((z.natAbs : Nat) : Int) = z := by omega
theorem abs_np {z : Int} (h : z ≤ 0) : -((z.natAbs : Nat) : Int) = z := by omega
theorem IntA_sg (neg : Bool) (n : Nat) : IntA (sg neg n) = .agg [.bool (neg && decide (0 < (digs 4294967296 n).length)), LS (digs 4294967296 n) true] := by
  simp only [IntA, sg_abs, sg_neg, digs_pos_len (B := 4294967296) (n := n) (by omega)]

def IntB (z : Int) : AV := .bool (decide (z < 0))
def IntD (z : Int) : AV := LS (digs 4294967296 z.natAbs) true
theorem IntA_eq {z : Int} : IntA z = .agg [IntB z, IntD z] := id rfl
theorem cells_IntA {z : Int} : (IntA z).cells = some [IntB z, IntD z] := id rfl
theorem fold_IntA {z : Int} : AV.agg [IntB z, IntD z] = IntA z := id rfl
theorem IntA_0 : AV.agg [.bool false, .seq 0 [] true] = IntA 0 := by simp [IntA, digs_zero, LS, U]
theorem made_fn (neg : Bool) (n : Nat) (hl : (digs 4294967296 n).length ≤ 1099511627776) : PFn Tryd.prog 137 [.bool neg, LS (digs 4294967296 n) true] (IntA (sg neg n)) := by
  intro H Q hq
  refine enter137 (by simp) ?_
  rw [IntA_sg] at hq
  simp (disch := first | assumption | (apply Ap.symm; assumption) | omega | decide | (simp only [Xd] <;> omega)) only [ac137, ↓Xa, Xb, Xc, ↓reduceIte, Nat.reduceLT, Nat.reduceEqDiff, Nat.reduceBEq, Nat.reduceLeDiff, Nat.reduceAdd, Nat.reduceMul]
  refine alloc_i fun p hp => ?_
  cases neg
  · simp (disch := first | assumption | (apply Ap.symm; assumption) | omega | decide | (simp only [Xd] <;> omega)) only [rs137, ↓Xa, Xb, Xc, ↓reduceIte, Nat.reduceLT, Nat.reduceEqDiff, Nat.reduceBEq, Nat.reduceLeDiff, Nat.reduceAdd, Nat.reduceMul]
    exact SetR.dropTo ((Le.refl H).upd hp) (SetR.now hq)
  · simp (disch := first | assumption | (apply Ap.symm; assumption) | omega | decide | (simp only [Xd] <;> omega)) only [rs137, ↓Xa, Xb, Xc, ↓reduceIte, Nat.reduceLT, Nat.reduceEqDiff, Nat.reduceBEq, Nat.reduceLeDiff, Nat.reduceAdd, Nat.reduceMul]
    exact SetR.dropTo ((Le.refl H).upd hp) (SetR.now hq)

def Bd (k : Nat) (z : Int) : Prop := z.natAbs < 4294967296 ^ k
theorem Bd.len {k : Nat} {z : Int} (h : Bd k z) : (digs 4294967296 z.natAbs).length ≤ k := digs_len (by omega) k _ h
theorem Bd.mono {k k' : Nat} {z : Int} (h : Bd k z) (hk : k ≤ k') : Bd k' z := Nat.lt_of_lt_of_le h (Nat.pow_le_pow_right (by omega) hk)
theorem Bd.neg {k : Nat} {z : Int} (h : Bd k z) : Bd k (-z) := by unfold Bd at *; omega
theorem Bd.sgn {k n : Nat} {b : Bool} (h : n < 4294967296 ^ k) : Bd k (sg b n) := by unfold Bd; rw [sg_abs]; exact h
theorem Bd.abs {k : Nat} {z : Int} (h : Bd k z) : Bd k (z.natAbs : Int) := by unfold Bd at *; omega
theorem Bd.add {k : Nat} {x y : Int} (h : Bd k x) (h' : Bd k y) : Bd (k + 1) (x + y) := by
  unfold Bd at *; rw [Nat.pow_succ]; omega
theorem Bd.sub {k : Nat} {x y : Int} (h : Bd k x) (h' : Bd k y) : Bd (k + 1) (x - y) := by
  unfold Bd at *; rw [Nat.pow_succ]; omega
theorem Bd.mul {k k' : Nat} {x y : Int} (h : Bd k x) (h' : Bd k' y) : Bd (k + k') (x * y) := by
  unfold Bd at *; rw [Int.natAbs_mul, Nat.pow_add]
  exact Nat.mul_lt_mul_of_lt_of_lt h h'
theorem Bd.zero (k : Nat) : Bd k 0 := by unfold Bd; exact Nat.pow_pos (by omega)
theorem Bd.i64 {n : Int} (h : -9223372036854775808 ≤ n ∧ n < 9223372036854775808) : Bd 2 n := by unfold Bd; omega

theorem make_fn {l : List Nat} (neg t : Bool) (hl : Lim 4294967296 l) (hn : l.length ≤ 1099511627776) : PFn Tryd.prog 35 [.bool neg, LS l t] (IntA (sg neg (val 4294967296 l))) := by
  intro H Q hq
  refine enter35 (by simp) ?_
  simp (disch := first | assumption | (apply Ap.symm; assumption) | omega | decide | (simp only [Xd] <;> omega)) only [ac35, ↓Xa, Xb, Xc, ↓reduceIte, Nat.reduceLT, Nat.reduceEqDiff, Nat.reduceBEq, Nat.reduceLeDiff, Nat.reduceAdd, Nat.reduceMul]
  refine alloc_i fun p hp => ?_
  simp (disch := first | assumption | (apply Ap.symm; assumption) | omega | decide | (simp only [Xd] <;> omega)) only [↓Xa, Xb, Xc, ↓reduceIte, Nat.reduceLT, Nat.reduceEqDiff, Nat.reduceBEq, Nat.reduceLeDiff, Nat.reduceAdd, Nat.reduceMul]
  refine (norm_fn t (by omega)).call ?_
  rw [tr_digs (by omega) hl]
  simp (disch := first | assumption | (apply Ap.symm; assumption) | omega | decide | (simp only [Xd] <;> omega)) only [↓Xa, Xb, Xc, ↓reduceIte, Nat.reduceLT, Nat.reduceEqDiff, Nat.reduceBEq, Nat.reduceLeDiff, Nat.reduceAdd, Nat.reduceMul]
  refine (made_fn neg _ (by have := tr_len l; rw [tr_digs (by omega) hl] at this; omega)).call ?_
  simp (disch := first | assumption | (apply Ap.symm; assumption) | omega | decide | (simp only [Xd] <;> omega)) only [rs35, IntA, ↓Xa, Xb, Xc, ↓reduceIte, Nat.reduceLT, Nat.reduceEqDiff, Nat.reduceBEq, Nat.reduceLeDiff, Nat.reduceAdd, Nat.reduceMul]
  exact SetR.dropTo ((Le.refl H).upd hp) (SetR.now hq)

theorem of_fn {n : Int} (hn : -9223372036854775808 ≤ n ∧ n < 9223372036854775808) : PFn Tryd.prog 58 [.int .i64 n] (IntA n) := by
  intro H Q hq
  refine enter58 (by simp) ?_
  have v2 : ∀ u : Nat, u < 18446744073709551616 → val 4294967296 [u % 4294967296, u / 2 ^ 32] = u := by
    intro u hu; simp only [val]; omega
  have l2 : ∀ u : Nat, u < 18446744073709551616 → Lim 4294967296 [u % 4294967296, u / 2 ^ 32] := fun u hu => Lim.cons (Nat.mod_lt _ (by omega)) (Lim.one (by omega))
  simp (disch := first | assumption | (apply Ap.symm; assumption) | omega | decide | (simp only [Xd] <;> omega)) only [ac58, ↓Xa, Xb, Xc, ↓reduceIte, Nat.reduceLT, Nat.reduceEqDiff, Nat.reduceBEq, Nat.reduceLeDiff, Nat.reduceAdd, Nat.reduceMul]
  refine alloc_i fun p hp => ?_
  have key' : ∀ (u : Nat) (neg : Bool), u < 18446744073709551616 → sg neg u = n → ∀ {H K}, K (IntA n) H → callW Tryd.prog (.fn (.func 35) [] []) [.bool neg, .seq 2 [.int .u32 ((u % 4294967296 : Nat) : Int), .int .u32 ((u / 2 ^ 32 : Nat) : Int)] true] H K := by
    intro u neg hu hs H K hk
    have := make_fn neg true (l2 u hu) (by simp)
    rw [v2 u hu, hs] at this
    exact this.call hk
  by_cases h0 : n < 0
  · obtain ⟨m, rfl⟩ : ∃ m : Nat, n = -(m : Int) := ⟨n.natAbs, by omega⟩
    have c1 : ∀ K, convW .u64 (.int .i64 (-(m : Int))) K ↔ K (.int .u64 ((18446744073709551616 - m : Nat) : Int)) := fun K => by
      simp only [convW, wmod_u64]; rw [show (-(m : Int)) % 18446744073709551616 = ((18446744073709551616 - m : Nat) : Int) by omega]
    have c2 : ∀ K, unW .neg (.int .u64 ((18446744073709551616 - m : Nat) : Int)) K ↔ K (.int .u64 (m : Int)) := fun K => by
      simp only [unW, wmod_u64]; rw [show (0 - ((18446744073709551616 - m : Nat) : Int)) % 18446744073709551616 = (m : Int) by omega]
    have c3 : ∀ K, binW .lss (.int .i64 (-(m : Int))) (.int .i64 ((0 : Nat) : Int)) K ↔ K (.bool true) := fun K => by
      simp only [binW, binInt, true_and]; rw [decide_eq_true (by omega)]
    simp (disch := first | assumption | (apply Ap.symm; assumption) | omega | decide | (simp only [Xd] <;> omega)) only [c1, c2, c3, ↓Xa, Xb, Xc, ↓reduceIte, Nat.reduceLT, Nat.reduceEqDiff, Nat.reduceBEq, Nat.reduceLeDiff, Nat.reduceAdd, Nat.reduceMul]
    refine key' m true (by omega) (by simp [sg]) ?_
    simp (disch := first | assumption | (apply Ap.symm; assumption) | omega | decide | (simp only [Xd] <;> omega)) only [rs58, IntA, ↓Xa, Xb, Xc, ↓reduceIte, Nat.reduceLT, Nat.reduceEqDiff, Nat.reduceBEq, Nat.reduceLeDiff, Nat.reduceAdd, Nat.reduceMul]
    exact SetR.dropTo ((Le.refl H).upd hp) (SetR.now hq)
  · obtain ⟨m, rfl⟩ : ∃ m : Nat, n = (m : Int) := ⟨n.natAbs, by omega⟩
    simp (disch := first | assumption | (apply Ap.symm; assumption) | omega | decide | (simp only [Xd] <;> omega)) only [↓Xa, Xb, Xc, ↓reduceIte, Nat.reduceLT, Nat.reduceEqDiff, Nat.reduceBEq, Nat.reduceLeDiff, Nat.reduceAdd, Nat.reduceMul]
    refine key' m false (by omega) (by simp [sg]) ?_
    simp (disch := first | assumption | (apply Ap.symm; assumption) | omega | decide | (simp only [Xd] <;> omega)) only [rs58, IntA, ↓Xa, Xb, Xc, ↓reduceIte, Nat.reduceLT, Nat.reduceEqDiff, Nat.reduceBEq, Nat.reduceLeDiff, Nat.reduceAdd, Nat.reduceMul]
    exact SetR.dropTo ((Le.refl H).upd hp) (SetR.now hq)

theorem neg_fn {x : Int} {k : Nat} (hx : Bd k x) (hk : k ≤ 549755813888) : PFn Tryd.prog 145 [IntA x] (IntA (-x)) := by
  intro H Q hq
  have hl := hx.len
  have e : -x = sg (!decide (x < 0)) x.natAbs := by unfold sg; by_cases h : x < 0 <;> simp [h] <;> omega
  rw [e] at hq
  refine enter145 (by simp) ?_
  simp (disch := first | assumption | (apply Ap.symm; assumption) | omega | decide | (simp only [Xd] <;> omega)) only [ac145, IntA, ↓Xa, Xb, Xc, ↓reduceIte, Nat.reduceLT, Nat.reduceEqDiff, Nat.reduceBEq, Nat.reduceLeDiff, Nat.reduceAdd, Nat.reduceMul]
  refine alloc_i fun p hp => ?_
  simp (disch := first | assumption | (apply Ap.symm; assumption) | omega | decide | (simp only [Xd] <;> omega)) only [↓Xa, Xb, Xc, ↓reduceIte, Nat.reduceLT, Nat.reduceEqDiff, Nat.reduceBEq, Nat.reduceLeDiff, Nat.reduceAdd, Nat.reduceMul]
  refine alloc_i fun p2 hp2 => ?_
  have hne := (upd_none.1 hp2).1
  simp (disch := first | assumption | (apply Ap.symm; assumption) | omega | decide | (simp only [Xd] <;> omega)) only [↓Xa, Xb, Xc, ↓reduceIte, Nat.reduceLT, Nat.reduceEqDiff, Nat.reduceBEq, Nat.reduceLeDiff, Nat.reduceAdd, Nat.reduceMul]
  refine (made_fn _ _ (by omega)).call ?_
  simp (disch := first | assumption | (apply Ap.symm; assumption) | omega | decide | (simp only [Xd] <;> omega)) only [rs145, IntA, ↓Xa, Xb, Xc, ↓reduceIte, Nat.reduceLT, Nat.reduceEqDiff, Nat.reduceBEq, Nat.reduceLeDiff, Nat.reduceAdd, Nat.reduceMul]
  exact SetR.dropTo (((Le.refl H).upd hp).upd hp2) (SetR.now hq)

theorem abs_fn {x : Int} {k : Nat} (hx : Bd k x) (hk : k ≤ 549755813888) : PFn Tryd.prog 122 [IntA x] (IntA (x.natAbs : Int)) := by
  intro H Q hq
  have hl := hx.len
  refine enter122 (by simp) ?_
  simp (disch := first | assumption | (apply Ap.symm; assumption) | omega | decide | (simp only [Xd] <;> omega)) only [ac122, IntA, ↓Xa, Xb, Xc, ↓reduceIte, Nat.reduceLT, Nat.reduceEqDiff, Nat.reduceBEq, Nat.reduceLeDiff, Nat.reduceAdd, Nat.reduceMul]
  refine alloc_i fun p hp => ?_
  simp (disch := first | assumption | (apply Ap.symm; assumption) | omega | decide | (simp only [Xd] <;> omega)) only [↓Xa, Xb, Xc, ↓reduceIte, Nat.reduceLT, Nat.reduceEqDiff, Nat.reduceBEq, Nat.reduceLeDiff, Nat.reduceAdd, Nat.reduceMul]
  refine alloc_i fun p2 hp2 => ?_
  have hne := (upd_none.1 hp2).1
  simp (disch := first | assumption | (apply Ap.symm; assumption) | omega | decide | (simp only [Xd] <;> omega)) only [↓Xa, Xb, Xc, ↓reduceIte, Nat.reduceLT, Nat.reduceEqDiff, Nat.reduceBEq, Nat.reduceLeDiff, Nat.reduceAdd, Nat.reduceMul]
  refine (made_fn false _ (by omega)).call ?_
  simp (disch := first | assumption | (apply Ap.symm; assumption) | omega | decide | (simp only [Xd] <;> omega)) only [rs122, IntA, ↓Xa, Xb, Xc, ↓reduceIte, Nat.reduceLT, Nat.reduceEqDiff, Nat.reduceBEq, Nat.reduceLeDiff, Nat.reduceAdd, Nat.reduceMul]
  exact SetR.dropTo (((Le.refl H).upd hp).upd hp2) (SetR.now (by simpa [IntA, sg] using hq))

def sgnI (x : Int) : Int := if x = 0 then ((0 : Nat) : Int) else if x < 0 then -1 else ((1 : Nat) : Int)
theorem sign_fn {x : Int} {k : Nat} (hx : Bd k x) (hk : k ≤ 549755813888) : PFn Tryd.prog 27 [IntA x] (.int .i64 (sgnI x)) := by
  intro H Q hq
  have hl := hx.len
  have h0 := digs_len0 (B := 4294967296) (n := x.natAbs) (by omega)
  refine enter27 (by simp) ?_
  simp (disch := first | assumption | (apply Ap.symm; assumption) | omega | decide | (simp only [Xd] <;> omega)) only [ac27, IntA, ↓Xa, Xb, Xc, ↓reduceIte, Nat.reduceLT, Nat.reduceEqDiff, Nat.reduceBEq, Nat.reduceLeDiff, Nat.reduceAdd, Nat.reduceMul]
  refine alloc_i fun p hp => ?_
  by_cases hz : x = 0
  · have h1 : (digs 4294967296 x.natAbs).length = 0 := by rw [h0]; omega
    simp (disch := first | assumption | (apply Ap.symm; assumption) | omega | decide | (simp only [Xd] <;> omega)) only [rs27, h1, ↓Xa, Xb, Xc, ↓reduceIte, Nat.reduceLT, Nat.reduceEqDiff, Nat.reduceBEq, Nat.reduceLeDiff, Nat.reduceAdd, Nat.reduceMul]
    refine SetR.dropTo ((Le.refl H).upd hp) (SetR.now ?_)
    simpa [sgnI, hz] using hq
  · have h1 : ((digs 4294967296 x.natAbs).length = 0) = False := by rw [h0]; simp; omega
    by_cases hn : x < 0
    · simp (disch := first | assumption | (apply Ap.symm; assumption) | omega | decide | (simp only [Xd] <;> omega)) only [rs27, h1, hn, ↓Xa, Xb, Xc, ↓reduceIte, Nat.reduceLT, Nat.reduceEqDiff, Nat.reduceBEq, Nat.reduceLeDiff, Nat.reduceAdd, Nat.reduceMul]
      refine SetR.dropTo ((Le.refl H).upd hp) (SetR.now ?_)
      simpa [sgnI, hz, hn] using hq
    · simp (disch := first | assumption | (apply Ap.symm; assumption) | omega | decide | (simp only [Xd] <;> omega)) only [rs27, h1, hn, ↓Xa, Xb, Xc, ↓reduceIte, Nat.reduceLT, Nat.reduceEqDiff, Nat.reduceBEq, Nat.reduceLeDiff, Nat.reduceAdd, Nat.reduceMul]
      refine SetR.dropTo ((Le.refl H).upd hp) (SetR.now ?_)
      simpa [sgnI, hz, hn] using hq

def cmpI (x y : Int) : Int := if x < y then -1 else if y < x then ((1 : Nat) : Int) else ((0 : Nat) : Int)
theorem cmpi_fn {x y : Int} {k k' : Nat} (hx : Bd k x) (hk : k ≤ 549755813888) (hy : Bd k' y) (hk' : k' ≤ 549755813888) : PFn Tryd.prog 57 [IntA x, IntA y] (.int .i64 (cmpI x y)) := by
  intro H Q hq
  have hl := hx.len
  have hl' := hy.len
  have vx := val_digs (B := 4294967296) (by omega) x.natAbs
  have vy := val_digs (B := 4294967296) (by omega) y.natAbs
  have lx := lim_digs (B := 4294967296) (by omega) x.natAbs
  have ly := lim_digs (B := 4294967296) (by omega) y.natAbs
  refine enter57 (by simp) ?_
  simp (disch := first | assumption | (apply Ap.symm; assumption) | omega | decide | (simp only [Xd] <;> omega)) only [ac57, IntA, ↓Xa, Xb, Xc, ↓reduceIte, Nat.reduceLT, Nat.reduceEqDiff, Nat.reduceBEq, Nat.reduceLeDiff, Nat.reduceAdd, Nat.reduceMul]
  refine alloc_i fun p hp => ?_
  simp (disch := first | assumption | (apply Ap.symm; assumption) | omega | decide | (simp only [Xd] <;> omega)) only [↓Xa, Xb, Xc, ↓reduceIte, Nat.reduceLT, Nat.reduceEqDiff, Nat.reduceBEq, Nat.reduceLeDiff, Nat.reduceAdd, Nat.reduceMul]
  refine alloc_i fun p2 hp2 => ?_
  have hne := (upd_none.1 hp2).1
  have fin : ∀ v, cmpI x y = v → SetR Q (.int .i64 v) ((H.upd p (some (.row 28 0 [.bool (decide (x < 0)), LS (digs 4294967296 x.natAbs) true]))).upd p2 (some (.row 28 0 [.bool (decide (y < 0)), LS (digs 4294967296 y.natAbs) true]))) := fun v hv => SetR.dropTo (((Le.refl H).upd hp).upd hp2) (SetR.now (hv ▸ hq))
  by_cases hn : x < 0
  · by_cases hn' : y < 0
    · simp (disch := first | assumption | (apply Ap.symm; assumption) | omega | decide | (simp only [Xd] <;> omega)) only [hn, hn', ↓Xa, Xb, Xc, ↓reduceIte, Nat.reduceLT, Nat.reduceEqDiff, Nat.reduceBEq, Nat.reduceLeDiff, Nat.reduceAdd, Nat.reduceMul]
      refine (cmp_fn true true ly lx).call ?_
      rw [vx, vy]
      have : cmpI x y = cmpZ y.natAbs x.natAbs := by unfold cmpI cmpZ; split <;> split <;> first | rfl | omega | (split <;> first | rfl | omega | (split <;> first | rfl | omega))
      simp only [hn, hn', decide_true] at fin
      simp (disch := first | assumption | (apply Ap.symm; assumption) | omega | decide | (simp only [Xd] <;> omega)) only [rs57, ↓Xa, Xb, Xc, ↓reduceIte, Nat.reduceLT, Nat.reduceEqDiff, Nat.reduceBEq, Nat.reduceLeDiff, Nat.reduceAdd, Nat.reduceMul]
      exact fin _ this
    · simp (disch := first | assumption | (apply Ap.symm; assumption) | omega | decide | (simp only [Xd] <;> omega)) only [hn, hn', rs57, ↓Xa, Xb, Xc, ↓reduceIte, Nat.reduceLT, Nat.reduceEqDiff, Nat.reduceBEq, Nat.reduceLeDiff, Nat.reduceAdd, Nat.reduceMul]
      simp only [hn, hn', decide_true, decide_false] at fin
      exact fin _ (by unfold cmpI; rw [if_pos (by omega)])
  · by_cases hn' : y < 0
    · simp (disch := first | assumption | (apply Ap.symm; assumption) | omega | decide | (simp only [Xd] <;> omega)) only [hn, hn', rs57, ↓Xa, Xb, Xc, ↓reduceIte, Nat.reduceLT, Nat.reduceEqDiff, Nat.reduceBEq, Nat.reduceLeDiff, Nat.reduceAdd, Nat.reduceMul]
      simp only [hn, hn', decide_true, decide_false] at fin
      exact fin _ (by unfold cmpI; rw [if_neg (by omega), if_pos (by omega)])
    · simp (disch := first | assumption | (apply Ap.symm; assumption) | omega | decide | (simp only [Xd] <;> omega)) only [hn, hn', ↓Xa, Xb, Xc, ↓reduceIte, Nat.reduceLT, Nat.reduceEqDiff, Nat.reduceBEq, Nat.reduceLeDiff, Nat.reduceAdd, Nat.reduceMul]
      refine (cmp_fn true true lx ly).call ?_
      rw [vx, vy]
      have : cmpI x y = cmpZ x.natAbs y.natAbs := by unfold cmpI cmpZ; split <;> split <;> first | rfl | omega | (split <;> first | rfl | omega | (split <;> first | rfl | omega))
      simp only [hn, hn', decide_false] at fin
      simp (disch := first | assumption | (apply Ap.symm; assumption) | omega | decide | (simp only [Xd] <;> omega)) only [rs57, ↓Xa, Xb, Xc, ↓reduceIte, Nat.reduceLT, Nat.reduceEqDiff, Nat.reduceBEq, Nat.reduceLeDiff, Nat.reduceAdd, Nat.reduceMul]
      exact fin _ this

theorem addi_fn {x y : Int} {k k' : Nat} (hx : Bd k x) (hk : k ≤ 549755813888) (hy : Bd k' y) (hk' : k' ≤ 549755813888) : PFn Tryd.prog 121 [IntA x, IntA y] (IntA (x + y)) := by
  intro H Q hq
  have hl := hx.len
  have hl' := hy.len
  have vx := val_digs (B := 4294967296) (by omega) x.natAbs
  have vy := val_digs (B := 4294967296) (by omega) y.natAbs
  have lx := lim_digs (B := 4294967296) (by omega) x.natAbs
  have ly := lim_digs (B := 4294967296) (by omega) y.natAbs
  have hxm := hx.mono (Nat.le_max_left k k')
  have hym := hy.mono (Nat.le_max_right k k')
  refine enter121 (by simp) ?_
  simp (disch := first | assumption | (apply Ap.symm; assumption) | omega | decide | (simp only [Xd] <;> omega)) only [ac121, IntA, ↓Xa, Xb, Xc, ↓reduceIte, Nat.reduceLT, Nat.reduceEqDiff, Nat.reduceBEq, Nat.reduceLeDiff, Nat.reduceAdd, Nat.reduceMul]
  refine alloc_i fun p hp => ?_
  simp (disch := first | assumption | (apply Ap.symm; assumption) | omega | decide | (simp only [Xd] <;> omega)) only [↓Xa, Xb, Xc, ↓reduceIte, Nat.reduceLT, Nat.reduceEqDiff, Nat.reduceBEq, Nat.reduceLeDiff, Nat.reduceAdd, Nat.reduceMul]
  refine alloc_i fun p2 hp2 => ?_
  simp (disch := first | assumption | (apply Ap.symm; assumption) | omega | decide | (simp only [Xd] <;> omega)) only [↓Xa, Xb, Xc, ↓reduceIte, Nat.reduceLT, Nat.reduceEqDiff, Nat.reduceBEq, Nat.reduceLeDiff, Nat.reduceAdd, Nat.reduceMul]
  refine alloc_i fun p3 hp3 => ?_
  have hne := (upd_none.1 hp2).1
  have hne3 := (upd_none.1 hp3).1
  have hne4 := (upd_none.1 (upd_none.1 hp3).2).1
  by_cases hs : decide (x < 0) = decide (y < 0)
  · have hsb : (decide (x < 0) == decide (y < 0)) = true := by rw [hs]; simp
    simp (disch := first | assumption | (apply Ap.symm; assumption) | omega | decide | (simp only [Xd] <;> omega)) only [hsb, ↓Xa, Xb, Xc, ↓reduceIte, Nat.reduceLT, Nat.reduceEqDiff, Nat.reduceBEq, Nat.reduceLeDiff, Nat.reduceAdd, Nat.reduceMul]
    refine PFn.dcall (add_fn true true lx ly (by omega) (by omega)) ?_
    rw [vx, vy]
    simp (disch := first | assumption | (apply Ap.symm; assumption) | omega | decide | (simp only [Xd] <;> omega)) only [↓Xa, Xb, Xc, ↓reduceIte, Nat.reduceLT, Nat.reduceEqDiff, Nat.reduceBEq, Nat.reduceLeDiff, Nat.reduceAdd, Nat.reduceMul]
    have hb : Bd (max k k' + 1) (sg (decide (x < 0)) (x.natAbs + y.natAbs)) := Bd.sgn (by unfold Bd at hxm hym; rw [Nat.pow_succ]; omega)
    have hb' := hb.len
    rw [sg_abs] at hb'
    refine (made_fn _ _ (by omega)).call ?_
    simp (disch := first | assumption | (apply Ap.symm; assumption) | omega | decide | (simp only [Xd] <;> omega)) only [rs121, IntA, ↓Xa, Xb, Xc, ↓reduceIte, Nat.reduceLT, Nat.reduceEqDiff, Nat.reduceBEq, Nat.reduceLeDiff, Nat.reduceAdd, Nat.reduceMul]
    have e : x + y = sg (decide (x < 0)) (x.natAbs + y.natAbs) := by
      have := decide_eq_decide.1 hs
      unfold sg; by_cases h : x < 0 <;> simp [h] <;> omega
    rw [e] at hq
    exact SetR.dropTo ((((Le.refl H).upd hp).upd hp2).upd hp3) (SetR.now hq)
  · have hsb : (decide (x < 0) == decide (y < 0)) = false := by simpa using hs
    have hs' : ¬ ((x < 0) ↔ (y < 0)) := fun h => hs (decide_eq_decide.2 h)
    simp (disch := first | assumption | (apply Ap.symm; assumption) | omega | decide | (simp only [Xd] <;> omega)) only [hsb, ↓Xa, Xb, Xc, ↓reduceIte, Nat.reduceLT, Nat.reduceEqDiff, Nat.reduceBEq, Nat.reduceLeDiff, Nat.reduceAdd, Nat.reduceMul]
    refine (cmp_fn true true lx ly).call ?_
    rw [vx, vy]
    by_cases hc : x.natAbs < y.natAbs
    · have c3 : ∀ K, binW .lss (.int .i64 (cmpZ x.natAbs y.natAbs)) (.int .i64 ((0 : Nat) : Int)) K ↔ K (.bool true) := fun K => by
        simp [binW, binInt, cmpZ, hc]
      simp (disch := first | assumption | (apply Ap.symm; assumption) | omega | decide | (simp only [Xd] <;> omega)) only [c3, ↓Xa, Xb, Xc, ↓reduceIte, Nat.reduceLT, Nat.reduceEqDiff, Nat.reduceBEq, Nat.reduceLeDiff, Nat.reduceAdd, Nat.reduceMul]
      refine (sub_fn true true ly lx (by rw [vx, vy]; omega) (by omega) (by omega)).call ?_
      rw [vx, vy]
      simp (disch := first | assumption | (apply Ap.symm; assumption) | omega | decide | (simp only [Xd] <;> omega)) only [↓Xa, Xb, Xc, ↓reduceIte, Nat.reduceLT, Nat.reduceEqDiff, Nat.reduceBEq, Nat.reduceLeDiff, Nat.reduceAdd, Nat.reduceMul]
      have hb : Bd k' (sg (decide (y < 0)) (y.natAbs - x.natAbs)) := Bd.sgn (by unfold Bd at hy; omega)
      have hb' := hb.len
      rw [sg_abs] at hb'
      refine (made_fn _ _ (by omega)).call ?_
      simp (disch := first | assumption | (apply Ap.symm; assumption) | omega | decide | (simp only [Xd] <;> omega)) only [rs121, IntA, ↓Xa, Xb, Xc, ↓reduceIte, Nat.reduceLT, Nat.reduceEqDiff, Nat.reduceBEq, Nat.reduceLeDiff, Nat.reduceAdd, Nat.reduceMul]
      have e : x + y = sg (decide (y < 0)) (y.natAbs - x.natAbs) := by
        unfold sg; by_cases h : y < 0 <;> simp [h] <;> omega
      rw [e] at hq
      exact SetR.dropTo ((((Le.refl H).updB hp).updB (upd_none.1 hp2).2).updB (upd_none.1 (upd_none.1 hp3).2).2) (SetR.now hq)
    · have c3 : ∀ K, binW .lss (.int .i64 (cmpZ x.natAbs y.natAbs)) (.int .i64 ((0 : Nat) : Int)) K ↔ K (.bool false) := fun K => by
        have : ¬ (cmpZ x.natAbs y.natAbs < 0) := by unfold cmpZ; rw [if_neg hc]; split <;> omega
        simp [binW, binInt]; rw [decide_eq_false this]
      simp (disch := first | assumption | (apply Ap.symm; assumption) | omega | decide | (simp only [Xd] <;> omega)) only [c3, ↓Xa, Xb, Xc, ↓reduceIte, Nat.reduceLT, Nat.reduceEqDiff, Nat.reduceBEq, Nat.reduceLeDiff, Nat.reduceAdd, Nat.reduceMul]
      refine (sub_fn true true lx ly (by rw [vx, vy]; omega) (by omega) (by omega)).call ?_
      rw [vx, vy]
      simp (disch := first | assumption | (apply Ap.symm; assumption) | omega | decide | (simp only [Xd] <;> omega)) only [↓Xa, Xb, Xc, ↓reduceIte, Nat.reduceLT, Nat.reduceEqDiff, Nat.reduceBEq, Nat.reduceLeDiff, Nat.reduceAdd, Nat.reduceMul]
      have hb : Bd k (sg (decide (x < 0)) (x.natAbs - y.natAbs)) := Bd.sgn (by unfold Bd at hx; omega)
      have hb' := hb.len
      rw [sg_abs] at hb'
      refine (made_fn _ _ (by omega)).call ?_
      simp (disch := first | assumption | (apply Ap.symm; assumption) | omega | decide | (simp only [Xd] <;> omega)) only [rs121, IntA, ↓Xa, Xb, Xc, ↓reduceIte, Nat.reduceLT, Nat.reduceEqDiff, Nat.reduceBEq, Nat.reduceLeDiff, Nat.reduceAdd, Nat.reduceMul]
      have e : x + y = sg (decide (x < 0)) (x.natAbs - y.natAbs) := by
        unfold sg; by_cases h : x < 0 <;> simp [h] <;> omega
      rw [e] at hq
      exact SetR.dropTo ((((Le.refl H).upd hp).upd hp2).upd hp3) (SetR.now hq)

theorem subi_fn {x y : Int} {k k' : Nat} (hx : Bd k x) (hk : k ≤ 549755813888) (hy : Bd k' y) (hk' : k' ≤ 549755813888) : PFn Tryd.prog 141 [IntA x, IntA y] (IntA (x - y)) := by
  intro H Q hq
  refine enter141 (by simp) ?_
  simp (disch := first | assumption | (apply Ap.symm; assumption) | omega | decide | (simp only [Xd] <;> omega)) only [ac141, IntA, ↓Xa, Xb, Xc, ↓reduceIte, Nat.reduceLT, Nat.reduceEqDiff, Nat.reduceBEq, Nat.reduceLeDiff, Nat.reduceAdd, Nat.reduceMul]
  refine alloc_i fun p hp => ?_
  simp (disch := first | assumption | (apply Ap.symm; assumption) | omega | decide | (simp only [Xd] <;> omega)) only [↓Xa, Xb, Xc, ↓reduceIte, Nat.reduceLT, Nat.reduceEqDiff, Nat.reduceBEq, Nat.reduceLeDiff, Nat.reduceAdd, Nat.reduceMul]
  refine alloc_i fun p2 hp2 => ?_
  simp (disch := first | assumption | (apply Ap.symm; assumption) | omega | decide | (simp only [Xd] <;> omega)) only [↓Xa, Xb, Xc, ↓reduceIte, Nat.reduceLT, Nat.reduceEqDiff, Nat.reduceBEq, Nat.reduceLeDiff, Nat.reduceAdd, Nat.reduceMul]
  refine alloc_i fun p3 hp3 => ?_
  have hne := (upd_none.1 hp2).1
  have hne3 := (upd_none.1 hp3).1
  have hne4 := (upd_none.1 (upd_none.1 hp3).2).1
  simp (disch := first | assumption | (apply Ap.symm; assumption) | omega | decide | (simp only [Xd] <;> omega)) only [↓Xa, Xb, Xc, ↓reduceIte, Nat.reduceLT, Nat.reduceEqDiff, Nat.reduceBEq, Nat.reduceLeDiff, Nat.reduceAdd, Nat.reduceMul]
  refine PFn.dcall (neg_fn hy hk') ?_
  simp (disch := first | assumption | (apply Ap.symm; assumption) | omega | decide | (simp only [Xd] <;> omega)) only [↓Xa, Xb, Xc, ↓reduceIte, Nat.reduceLT, Nat.reduceEqDiff, Nat.reduceBEq, Nat.reduceLeDiff, Nat.reduceAdd, Nat.reduceMul]
  refine (addi_fn hx hk hy.neg hk').call ?_
  simp (disch := first | assumption | (apply Ap.symm; assumption) | omega | decide | (simp only [Xd] <;> omega)) only [rs141, IntA, ↓Xa, Xb, Xc, ↓reduceIte, Nat.reduceLT, Nat.reduceEqDiff, Nat.reduceBEq, Nat.reduceLeDiff, Nat.reduceAdd, Nat.reduceMul]
  exact SetR.dropTo ((((Le.refl H).upd hp).upd hp2).upd hp3) (SetR.now hq)

theorem muli_fn {x y : Int} {k k' : Nat} (hx : Bd k x) (hk : k ≤ 549755813888) (hy : Bd k' y) (hk' : k' ≤ 549755813888) : PFn Tryd.prog 89 [IntA x, IntA y] (IntA (x * y)) := by
  intro H Q hq
  have hl := hx.len
  have hl' := hy.len
  have vx := val_digs (B := 4294967296) (by omega) x.natAbs
  have vy := val_digs (B := 4294967296) (by omega) y.natAbs
  have lx := lim_digs (B := 4294967296) (by omega) x.natAbs
  have ly := lim_digs (B := 4294967296) (by omega) y.natAbs
  have hb := (hx.mul hy).len
  refine enter89 (by simp) ?_
  simp (disch := first | assumption | (apply Ap.symm; assumption) | omega | decide | (simp only [Xd] <;> omega)) only [ac89, IntA, ↓Xa, Xb, Xc, ↓reduceIte, Nat.reduceLT, Nat.reduceEqDiff, Nat.reduceBEq, Nat.reduceLeDiff, Nat.reduceAdd, Nat.reduceMul]
  refine alloc_i fun p hp => ?_
  simp (disch := first | assumption | (apply Ap.symm; assumption) | omega | decide | (simp only [Xd] <;> omega)) only [↓Xa, Xb, Xc, ↓reduceIte, Nat.reduceLT, Nat.reduceEqDiff, Nat.reduceBEq, Nat.reduceLeDiff, Nat.reduceAdd, Nat.reduceMul]
  refine alloc_i fun p2 hp2 => ?_
  simp (disch := first | assumption | (apply Ap.symm; assumption) | omega | decide | (simp only [Xd] <;> omega)) only [↓Xa, Xb, Xc, ↓reduceIte, Nat.reduceLT, Nat.reduceEqDiff, Nat.reduceBEq, Nat.reduceLeDiff, Nat.reduceAdd, Nat.reduceMul]
  refine alloc_i fun p3 hp3 => ?_
  have hne := (upd_none.1 hp2).1
  have hne3 := (upd_none.1 hp3).1
  have hne4 := (upd_none.1 (upd_none.1 hp3).2).1
  simp (disch := first | assumption | (apply Ap.symm; assumption) | omega | decide | (simp only [Xd] <;> omega)) only [↓Xa, Xb, Xc, ↓reduceIte, Nat.reduceLT, Nat.reduceEqDiff, Nat.reduceBEq, Nat.reduceLeDiff, Nat.reduceAdd, Nat.reduceMul]
  refine PFn.dcall (mul_fn true true lx ly (by omega) (by omega)) ?_
  rw [vx, vy]
  simp (disch := first | assumption | (apply Ap.symm; assumption) | omega | decide | (simp only [Xd] <;> omega)) only [↓Xa, Xb, Xc, ↓reduceIte, Nat.reduceLT, Nat.reduceEqDiff, Nat.reduceBEq, Nat.reduceLeDiff, Nat.reduceAdd, Nat.reduceMul]
  rw [Int.natAbs_mul] at hb
  refine (made_fn _ _ (by omega)).call ?_
  have e : sg (!(decide (x < 0) == decide (y < 0))) (x.natAbs * y.natAbs) = x * y := by
    rw [← Int.natAbs_mul]
    unfold sg
    by_cases h : x < 0 <;> by_cases h' : y < 0 <;> simp [h, h']
    · rw [abs_nn (Int.mul_nonneg_of_nonpos_of_nonpos (by omega) (by omega))]
    · rw [abs_np (Int.mul_nonpos_of_nonpos_of_nonneg (by omega) (by omega))]
    · rw [abs_np (Int.mul_nonpos_of_nonneg_of_nonpos (by omega) (by omega))]
    · rw [abs_nn (Int.mul_nonneg (by omega) (by omega))]
  rw [e]
  simp (disch := first | assumption | (apply Ap.symm; assumption) | omega | decide | (simp only [Xd] <;> omega)) only [rs89, IntA, ↓Xa, Xb, Xc, ↓reduceIte, Nat.reduceLT, Nat.reduceEqDiff, Nat.reduceBEq, Nat.reduceLeDiff, Nat.reduceAdd, Nat.reduceMul]
  exact SetR.dropTo ((((Le.refl H).upd hp).upd hp2).upd hp3) (SetR.now hq)

end Go.Proofs.YtanchgkiomfhhaaDoor.Fw

/- What the reference computes of whole numbers: digits to the base 65536. -/
namespace Go.Proofs.YtanchgkiomfhhaaDoor.Fw
set_option linter.unusedSimpArgs false
set_option linter.unusedVariables false
open Go Go.Proofs.YtanchgkiomfhhaaDoor.Ma
set_option maxRecDepth 20000

def RefA (z : Int) (t : Bool) : AV := .agg [.bool (decide (z < 0)), LS (digs 65536 z.natAbs) t]
end Go.Proofs.YtanchgkiomfhhaaDoor.Fw

/- What the reference computes of whole numbers: signs, comparing, sums, products. -/
namespace Go.Proofs.YtanchgkiomfhhaaDoor.Fw
set_option linter.unusedSimpArgs false
set_option linter.unusedVariables false
open Go Go.Proofs.YtanchgkiomfhhaaDoor.Ma
set_option maxRecDepth 20000

end Go.Proofs.YtanchgkiomfhhaaDoor.Fw

/- What the reference computes of whole numbers: sums, differences, products. -/
namespace Go.Proofs.YtanchgkiomfhhaaDoor.Fw
set_option linter.unusedSimpArgs false
set_option linter.unusedVariables false
open Go Go.Proofs.YtanchgkiomfhhaaDoor.Ma
set_option maxRecDepth 20000

end Go.Proofs.YtanchgkiomfhhaaDoor.Fw

/- The laws' own helpers: one number in both, numbers that are too long, one answer that is fixed. -/
namespace Go.Proofs.YtanchgkiomfhhaaDoor.Fw
set_option linter.unusedSimpArgs false
set_option linter.unusedVariables false
open Go Go.Proofs.YtanchgkiomfhhaaDoor.Ma
set_option maxRecDepth 20000

def NumA (q : Bool × List Nat × Bool) : AV := .agg [.bool q.1, LS q.2.1 q.2.2]
def NumC : List (Bool × List Nat × Bool) → List AV
  | [] => []
  | q :: r => .bool q.1 :: LS q.2.1 q.2.2 :: NumC r
def fits (x : Int) : Bool := decide (-9223372036854775808 ≤ x ∧ x < 9223372036854775808)
def smallV (x : Int) : Int := if fits x then x else ((0 : Nat) : Int)
end Go.Proofs.YtanchgkiomfhhaaDoor.Fw

/- The law of sums, as what its code computes: true. -/
namespace Go.Proofs.YtanchgkiomfhhaaDoor.Fw
set_option linter.unusedSimpArgs false
set_option linter.unusedVariables false
open Go Go.Proofs.YtanchgkiomfhhaaDoor.Ma
set_option maxRecDepth 20000

end Go.Proofs.YtanchgkiomfhhaaDoor.Fw

/- Sums and products of rows of whole numbers. -/
namespace Go.Proofs.YtanchgkiomfhhaaDoor.Fw
set_option linter.unusedSimpArgs false
set_option linter.unusedVariables false
open Go Go.Proofs.YtanchgkiomfhhaaDoor.Ma
set_option maxRecDepth 20000

def IntC : List Int → List AV
  | [] => []
  | z :: r => .bool (decide (z < 0)) :: LS (digs 4294967296 z.natAbs) true :: IntC r
section
variable {l : List Int} {t : Bool} {H : AHeap} {K : AV → Prop}
end
end Go.Proofs.YtanchgkiomfhhaaDoor.Fw

/- The ring's law, as what its code computes: true. -/
namespace Go.Proofs.YtanchgkiomfhhaaDoor.Fw
set_option linter.unusedSimpArgs false
set_option linter.unusedVariables false
open Go Go.Proofs.YtanchgkiomfhhaaDoor.Ma
set_option maxRecDepth 20000

end Go.Proofs.YtanchgkiomfhhaaDoor.Fw

/- Binary digits; powers. -/
namespace Go.Proofs.YtanchgkiomfhhaaDoor.Fw
set_option linter.unusedSimpArgs false
set_option linter.unusedVariables false
open Go Go.Proofs.YtanchgkiomfhhaaDoor.Ma
set_option maxRecDepth 20000

theorem sgn_eql0 {x : Int} {K : AV → Prop} : binW .eql (.int .i64 (sgnI x)) (.int .i64 ((0 : Nat) : Int)) K ↔ K (.bool (decide (x = 0))) := by
  have : (sgnI x = ((0 : Nat) : Int)) ↔ x = 0 := by unfold sgnI; split <;> simp_all; split <;> omega
  simp only [binW, binInt, true_and, this]
theorem sgn_neq0 {x : Int} {K : AV → Prop} : binW .neq (.int .i64 (sgnI x)) (.int .i64 ((0 : Nat) : Int)) K ↔ K (.bool (!decide (x = 0))) := by
  have : (sgnI x = ((0 : Nat) : Int)) ↔ x = 0 := by unfold sgnI; split <;> simp_all; split <;> omega
  simp only [binW, binInt, true_and, this]
end Go.Proofs.YtanchgkiomfhhaaDoor.Fw

/- Powers, as the program and the reference have them. -/
namespace Go.Proofs.YtanchgkiomfhhaaDoor.Fw
set_option linter.unusedSimpArgs false
set_option linter.unusedVariables false
open Go Go.Proofs.YtanchgkiomfhhaaDoor.Ma
set_option maxRecDepth 20000

end Go.Proofs.YtanchgkiomfhhaaDoor.Fw

/- The law of powers, as what its code computes: true. -/
namespace Go.Proofs.YtanchgkiomfhhaaDoor.Fw
set_option linter.unusedSimpArgs false
set_option linter.unusedVariables false
open Go Go.Proofs.YtanchgkiomfhhaaDoor.Ma
set_option maxRecDepth 20000

def RefB (z : Int) : AV := .bool (decide (z < 0))
def RefD (z : Int) : AV := LS (digs 65536 z.natAbs) false
theorem Bd.blen {z : Int} {k : Nat} (h : Bd k z) : Ma.blen z.natAbs ≤ 32 * k := by rw [blen_le, Nat.pow_mul]; exact h
end Go.Proofs.YtanchgkiomfhhaaDoor.Fw

/- Quotients and remainders of whole numbers, as the program has them. -/
namespace Go.Proofs.YtanchgkiomfhhaaDoor.Fw
set_option linter.unusedSimpArgs false
set_option linter.unusedVariables false
open Go Go.Proofs.YtanchgkiomfhhaaDoor.Ma
set_option maxRecDepth 20000

theorem ediv_pos {x y : Int} (hy : y ≠ 0) (hx : 0 ≤ x) : x / y = sg (decide (y < 0)) (x.natAbs / y.natAbs) ∧ x % y = ((x.natAbs % y.natAbs : Nat) : Int) := by
  have e : ((x.natAbs : Nat) : Int) = x := by omega
  by_cases h : y < 0
  · have e2 : y = -((y.natAbs : Nat) : Int) := by omega
    constructor
    · rw [sg, decide_eq_true h, if_pos rfl]
      conv => lhs; rw [e2, Int.ediv_neg, ← e]
      rw [← Int.natCast_ediv]
    · conv => lhs; rw [e2, Int.emod_neg, ← e]
      rw [← Int.natCast_emod]
  · have e2 : y = ((y.natAbs : Nat) : Int) := by omega
    constructor
    · rw [sg, decide_eq_false h]
      conv => lhs; rw [e2, ← e]
      rw [← Int.natCast_ediv]; rfl
    · conv => lhs; rw [e2, ← e]
      rw [← Int.natCast_emod]
theorem ediv_neg' {x y : Int} (hy : y ≠ 0) (hx : x < 0) :
    (x.natAbs % y.natAbs = 0 → x / y = sg (!decide (y < 0)) (x.natAbs / y.natAbs) ∧ x % y = 0) ∧
    (0 < x.natAbs % y.natAbs → x / y = sg (!decide (y < 0)) (x.natAbs / y.natAbs) - sgnI y ∧ x % y = sg true (x.natAbs % y.natAbs) + (y.natAbs : Int)) := by
  have hm := Nat.div_add_mod x.natAbs y.natAbs
  have hl := Nat.mod_lt x.natAbs (show 0 < y.natAbs by omega)
  generalize x.natAbs / y.natAbs = q at *
  generalize x.natAbs % y.natAbs = r at *
  have hb : 0 < (y.natAbs : Int) := by omega
  have hxe : x = -((y.natAbs : Int) * q + r) := by
    have : ((y.natAbs * q + r : Nat) : Int) = (x.natAbs : Int) := by rw [hm]
    rw [Int.natCast_add, Int.natCast_mul] at this
    omega
  have key : ∀ (q' r' : Int), r' + (y.natAbs : Int) * q' = x → 0 ≤ r' → r' < (y.natAbs : Int) → x / (y.natAbs : Int) = q' ∧ x % (y.natAbs : Int) = r' := fun q' r' a b c => (Int.ediv_emod_unique hb).2 ⟨a, b, c⟩
  have neg : ∀ q' : Int, x / (y.natAbs : Int) = q' → x / y = if y < 0 then -q' else q' := fun q' h => by
    split
    · conv => lhs; rw [show y = -((y.natAbs : Nat) : Int) by omega, Int.ediv_neg, h]
    · conv => lhs; rw [show y = ((y.natAbs : Nat) : Int) by omega, h]
  have mod : x % y = x % (y.natAbs : Int) := by
    by_cases h : y < 0
    · conv => lhs; rw [show y = -((y.natAbs : Nat) : Int) by omega, Int.emod_neg]
    · conv => lhs; rw [show y = ((y.natAbs : Nat) : Int) by omega]
  constructor
  · intro hr
    obtain ⟨k1, k2⟩ := key (-(q : Int)) 0 (by rw [hxe, hr, Int.mul_neg]; omega) (by omega) hb
    refine ⟨?_, by rw [mod, k2]⟩
    rw [neg _ k1, sg]
    by_cases h : y < 0 <;> simp [h]
  · intro hr
    obtain ⟨k1, k2⟩ := key (-(q : Int) - 1) ((y.natAbs : Int) - r) (by rw [hxe, Int.mul_sub, Int.mul_neg, Int.mul_one]; omega) (by omega) (by omega)
    refine ⟨?_, by rw [mod, k2, sg, if_pos rfl]; omega⟩
    rw [neg _ k1, sg, sgnI, if_neg hy]
    by_cases h : y < 0 <;> simp [h] <;> omega

theorem foldL {z : Int} : AV.agg [.bool (decide (z < 0)), LS (digs 4294967296 z.natAbs) true] = IntA z := id rfl
theorem foldM {z : Int} : AV.agg [.bool (decide (z < 0)), IntD z] = IntA z := id rfl
theorem sgnI_le (y : Int) : -9223372036854775808 ≤ sgnI y ∧ sgnI y < 9223372036854775808 := by unfold sgnI; (repeat' split) <;> omega
theorem idivmod_fn {x y : Int} {k k' : Nat} (hx : Bd k x) (hk : k ≤ 274877906944) (hy : Bd k' y) (hk' : k' ≤ 274877906944) (hy0 : y ≠ 0) : PFn Tryd.prog 174 [IntA x, IntA y] (.tup [IntA (x / y), IntA (x % y), .int .i64 ((0 : Nat) : Int)]) := by
  intro H Q hq
  have hl := hx.len
  have hl' := hy.len
  have vx := val_digs (B := 4294967296) (by omega) x.natAbs
  have vy := val_digs (B := 4294967296) (by omega) y.natAbs
  have lx := lim_digs (B := 4294967296) (by omega) x.natAbs
  have ly := lim_digs (B := 4294967296) (by omega) y.natAbs
  have hyp : 0 < y.natAbs := by omega
  have hbq : ∀ b, Bd k (sg b (x.natAbs / y.natAbs)) := fun b => Bd.sgn (Nat.lt_of_le_of_lt (Nat.div_le_self _ _) hx)
  have hbr : ∀ b, Bd k (sg b (x.natAbs % y.natAbs)) := fun b => Bd.sgn (Nat.lt_of_le_of_lt (Nat.mod_le _ _) hx)
  have hlq := (hbq false).len
  have hlr := (hbr false).len
  rw [sg_abs] at hlq hlr
  refine enter174 (by simp) ?_
  simp (disch := first | assumption | (apply Ap.symm; assumption) | omega | decide | (simp only [Xd] <;> omega)) only [ac174, cells_IntA, ↓Xa, Xb, Xc, ↓reduceIte, Nat.reduceLT, Nat.reduceEqDiff, Nat.reduceBEq, Nat.reduceLeDiff, Nat.reduceAdd, Nat.reduceMul]
  refine alloc_i fun p hp => ?_
  simp (disch := first | assumption | (apply Ap.symm; assumption) | omega | decide | (simp only [Xd] <;> omega)) only [↓Xa, Xb, Xc, ↓reduceIte, Nat.reduceLT, Nat.reduceEqDiff, Nat.reduceBEq, Nat.reduceLeDiff, Nat.reduceAdd, Nat.reduceMul]
  refine alloc_i fun p2 hp2 => ?_
  have n2 := hp2
  simp only [upd_none] at n2
  obtain ⟨_, n2⟩ := n2
  simp (disch := first | assumption | (apply Ap.symm; assumption) | omega | decide | (simp only [Xd] <;> omega)) only [↓Xa, Xb, Xc, ↓reduceIte, Nat.reduceLT, Nat.reduceEqDiff, Nat.reduceBEq, Nat.reduceLeDiff, Nat.reduceAdd, Nat.reduceMul]
  refine alloc_i fun p3 hp3 => ?_
  have n3 := hp3
  simp only [upd_none] at n3
  obtain ⟨_, _, n3⟩ := n3
  simp (disch := first | assumption | (apply Ap.symm; assumption) | omega | decide | (simp only [Xd] <;> omega)) only [↓Xa, Xb, Xc, ↓reduceIte, Nat.reduceLT, Nat.reduceEqDiff, Nat.reduceBEq, Nat.reduceLeDiff, Nat.reduceAdd, Nat.reduceMul]
  refine alloc_i fun p4 hp4 => ?_
  have n4 := hp4
  simp only [upd_none] at n4
  obtain ⟨_, _, _, n4⟩ := n4
  simp (disch := first | assumption | (apply Ap.symm; assumption) | omega | decide | (simp only [Xd] <;> omega)) only [↓Xa, Xb, Xc, ↓reduceIte, Nat.reduceLT, Nat.reduceEqDiff, Nat.reduceBEq, Nat.reduceLeDiff, Nat.reduceAdd, Nat.reduceMul]
  refine (divmod_fn (a := digs 4294967296 x.natAbs) (b := digs 4294967296 y.natAbs) true true lx ly (by omega) (by omega) (by omega)).call ?_
  rw [vx, vy]
  have ifold : ∀ z : Int, AV.bool (decide (z < 0)) = IntB z := fun z => rfl
  simp (disch := first | assumption | (apply Ap.symm; assumption) | omega | decide | (simp only [Xd] <;> omega)) only [IntB, binB_neq, ↓Xa, Xb, Xc, ↓reduceIte, Nat.reduceLT, Nat.reduceEqDiff, Nat.reduceBEq, Nat.reduceLeDiff, Nat.reduceAdd, Nat.reduceMul]
  refine PFn.dcall (made_fn _ _ (by omega)) ?_
  simp (disch := first | assumption | (apply Ap.symm; assumption) | omega | decide | (simp only [Xd] <;> omega)) only [↓Xa, Xb, Xc, ↓reduceIte, Nat.reduceLT, Nat.reduceEqDiff, Nat.reduceBEq, Nat.reduceLeDiff, Nat.reduceAdd, Nat.reduceMul]
  refine PFn.dcall (made_fn _ _ (by omega)) ?_
  simp (disch := first | assumption | (apply Ap.symm; assumption) | omega | decide | (simp only [Xd] <;> omega)) only [↓Xa, Xb, Xc, ↓reduceIte, Nat.reduceLT, Nat.reduceEqDiff, Nat.reduceBEq, Nat.reduceLeDiff, Nat.reduceAdd, Nat.reduceMul]
  refine dalloc_i fun p5 hp5 => ?_
  have n5 := hp5
  simp only [upd_none] at n5
  obtain ⟨_, _, _, _, n5⟩ := n5
  simp (disch := first | assumption | (apply Ap.symm; assumption) | omega | decide | (simp only [Xd] <;> omega)) only [↓Xa, Xb, Xc, ↓reduceIte, Nat.reduceLT, Nat.reduceEqDiff, Nat.reduceBEq, Nat.reduceLeDiff, Nat.reduceAdd, Nat.reduceMul]
  refine dalloc_i fun p6 hp6 => ?_
  have n6 := hp6
  simp only [upd_none] at n6
  obtain ⟨_, _, _, _, _, n6⟩ := n6
  simp (disch := first | assumption | (apply Ap.symm; assumption) | omega | decide | (simp only [Xd] <;> omega)) only [cells_IntA, ↓Xa, Xb, Xc, ↓reduceIte, Nat.reduceLT, Nat.reduceEqDiff, Nat.reduceBEq, Nat.reduceLeDiff, Nat.reduceAdd, Nat.reduceMul]
  have bq := hbq (!(decide (x < 0) == decide (y < 0)))
  have br := hbr (decide (x < 0))
  have cs : (sg (!(decide (x < 0) == decide (y < 0))) (x.natAbs / y.natAbs) = x / y ∧ sg (decide (x < 0)) (x.natAbs % y.natAbs) = x % y ∧ IntB (sg (decide (x < 0)) (x.natAbs % y.natAbs)) = .bool false) ∨
      (sg (!(decide (x < 0) == decide (y < 0))) (x.natAbs / y.natAbs) - sgnI y = x / y ∧ sg (decide (x < 0)) (x.natAbs % y.natAbs) + (y.natAbs : Int) = x % y ∧ IntB (sg (decide (x < 0)) (x.natAbs % y.natAbs)) = .bool true) := by
    by_cases h : x < 0
    · obtain ⟨e1, e2⟩ := ediv_neg' hy0 h
      rw [decide_eq_true h]
      have eb : (!(true == decide (y < 0))) = !decide (y < 0) := by simp
      rw [eb]
      rcases Nat.eq_zero_or_pos (x.natAbs % y.natAbs) with hz | hz
      · left
        obtain ⟨f1, f2⟩ := e1 hz
        rw [hz, f1, f2]
        exact ⟨rfl, rfl, rfl⟩
      · right
        obtain ⟨f1, f2⟩ := e2 hz
        exact ⟨f1.symm, f2.symm, congrArg AV.bool (decide_eq_true (by simp [sg]; omega))⟩
    · left
      obtain ⟨f1, f2⟩ := ediv_pos hy0 (show 0 ≤ x by omega)
      rw [decide_eq_false h]
      have eb : (!(false == decide (y < 0))) = decide (y < 0) := by simp
      rw [eb, f1, f2]
      exact ⟨rfl, rfl, congrArg AV.bool (decide_eq_false (by simp [sg]; omega))⟩
  generalize sg (!(decide (x < 0) == decide (y < 0))) (x.natAbs / y.natAbs) = q0 at *
  generalize sg (decide (x < 0)) (x.natAbs % y.natAbs) = r0 at *
  have fin : ∀ {v a b c d e f}, Q v H → SetR Q v ((((((H.upd p a).upd p2 b).upd p3 c).upd p4 d).upd p5 e).upd p6 f) := fun {v a b c d e f} hv => SetR.dropTo (((((((Le.refl H).updB hp).updB n2).updB n3).updB n4).updB n5).updB n6) (SetR.now hv)
  rcases cs with ⟨c1, c2, c3⟩ | ⟨c1, c2, c3⟩
  · rw [← c1, ← c2] at hq
    have f0 : AV.agg [.bool false, IntD r0] = IntA r0 := by rw [IntA_eq, c3]
    simp (disch := first | assumption | (apply Ap.symm; assumption) | omega | decide | (simp only [Xd] <;> omega)) only [c3, fold_IntA, f0, cells_IntA, rs174, ↓Xa, Xb, Xc, ↓reduceIte, Nat.reduceLT, Nat.reduceEqDiff, Nat.reduceBEq, Nat.reduceLeDiff, Nat.reduceAdd, Nat.reduceMul]
    exact fin hq
  · rw [← c1, ← c2] at hq
    have f0 : AV.agg [.bool true, IntD r0] = IntA r0 := by rw [IntA_eq, c3]
    simp (disch := first | assumption | (apply Ap.symm; assumption) | omega | decide | (simp only [Xd] <;> omega)) only [c3, fold_IntA, f0, foldL, foldM, ↓Xa, Xb, Xc, ↓reduceIte, Nat.reduceLT, Nat.reduceEqDiff, Nat.reduceBEq, Nat.reduceLeDiff, Nat.reduceAdd, Nat.reduceMul]
    refine PFn.dcall (abs_fn hy (by omega)) ?_
    simp (disch := first | assumption | (apply Ap.symm; assumption) | omega | decide | (simp only [Xd] <;> omega)) only [fold_IntA, foldL, foldM, f0, ↓Xa, Xb, Xc, ↓reduceIte, Nat.reduceLT, Nat.reduceEqDiff, Nat.reduceBEq, Nat.reduceLeDiff, Nat.reduceAdd, Nat.reduceMul]
    refine (addi_fn br (by omega) hy.abs (by omega)).call ?_
    simp (disch := first | assumption | (apply Ap.symm; assumption) | omega | decide | (simp only [Xd] <;> omega)) only [fold_IntA, foldL, foldM, f0, cells_IntA, ↓Xa, Xb, Xc, ↓reduceIte, Nat.reduceLT, Nat.reduceEqDiff, Nat.reduceBEq, Nat.reduceLeDiff, Nat.reduceAdd, Nat.reduceMul]
    refine PFn.dcall (sign_fn hy (by omega)) ?_
    simp (disch := first | assumption | (apply Ap.symm; assumption) | omega | decide | (simp only [Xd] <;> omega)) only [fold_IntA, foldL, foldM, f0, ↓Xa, Xb, Xc, ↓reduceIte, Nat.reduceLT, Nat.reduceEqDiff, Nat.reduceBEq, Nat.reduceLeDiff, Nat.reduceAdd, Nat.reduceMul]
    refine PFn.dcall (of_fn (sgnI_le y)) ?_
    simp (disch := first | assumption | (apply Ap.symm; assumption) | omega | decide | (simp only [Xd] <;> omega)) only [fold_IntA, foldL, foldM, f0, ↓Xa, Xb, Xc, ↓reduceIte, Nat.reduceLT, Nat.reduceEqDiff, Nat.reduceBEq, Nat.reduceLeDiff, Nat.reduceAdd, Nat.reduceMul]
    refine (subi_fn bq (by omega) (Bd.i64 (sgnI_le y)) (by omega)).call ?_
    simp (disch := first | assumption | (apply Ap.symm; assumption) | omega | decide | (simp only [Xd] <;> omega)) only [fold_IntA, foldL, foldM, f0, cells_IntA, rs174, ↓Xa, Xb, Xc, ↓reduceIte, Nat.reduceLT, Nat.reduceEqDiff, Nat.reduceBEq, Nat.reduceLeDiff, Nat.reduceAdd, Nat.reduceMul]
    exact fin hq

end Go.Proofs.YtanchgkiomfhhaaDoor.Fw

/- The framework, part W: a row of one's own, taken up anew at its shorter length; rows that grow, also from nothing of one's own. -/
namespace Go.Proofs.YtanchgkiomfhhaaDoor.Fw
set_option linter.unusedSimpArgs false
set_option linter.unusedVariables false
open Go Go.Proofs.YtanchgkiomfhhaaDoor.Ma

def Ctx.renew (c : Ctx) (b b' : Nat) (x : ABlk) : Ctx := { c with μ := fun i => if i = b' then c.μ b else c.μ i, U := fun i => c.U i ∨ i = b', H := (c.H.upd b none).upd b' (some x) }

theorem Ctx.renew_H {c : Ctx} {b b' i : Nat} {x y : ABlk} (h : (c.renew b b' x).H i = some y) : (i = b' ∧ y = x) ∨ (i ≠ b' ∧ i ≠ b ∧ c.H i = some y) := by
  have h2 : ((c.H.upd b none).upd b' (some x)) i = some y := h
  rcases upd_some h2 with ⟨e, e2⟩ | ⟨e, e2⟩
  · injection e2 with e2; exact .inl ⟨e, e2.symm⟩
  · rcases upd_some e2 with ⟨_, e4⟩ | ⟨e3, e4⟩
    · cases e4
    · exact .inr ⟨e, e3, e4⟩

theorem Ctx.renew_later {c : Ctx} {b b' : Nat} {x : ABlk} (hb : ABlk.mut (c.H b)) (hU : ¬ c.U b') (hR : ¬ c.R b') : Later c (c.renew b b' x) := by
  refine ⟨⟨Nat.le_refl _, rfl, rfl, rfl, fun _ h => .inl h, ?_, ?_⟩, fun i h => ⟨h, fun k => k.resolve_right fun e => hR (e ▸ h)⟩⟩
  · intro i x' hi hx
    rcases Ctx.renew_H hx with ⟨e, _⟩ | ⟨e, _, e2⟩
    · exact absurd (e ▸ hi) hU
    · refine ⟨x', e2, Nat.le_refl _, fun _ => ⟨if_neg e, fun _ _ cells e' => ⟨cells, e', fun arr h => ⟨arr, ?_, rfl⟩⟩⟩⟩
      show c.w.heap[if i = b' then c.μ b else c.μ i]? = _
      rw [if_neg e]; exact h
  · rintro k _ hm
    refine ⟨rfl, fun ⟨i, hi, e⟩ => hm ?_⟩
    have e' : (if i = b' then c.μ b else c.μ i) = k := e
    cases hy : (c.renew b b' x).H i with
    | none => rw [hy] at hi; exact hi.elim
    | some y =>
      rw [hy] at hi
      rcases Ctx.renew_H hy with ⟨e1, _⟩ | ⟨e1, _, e2⟩
      · rw [if_pos e1] at e'; exact ⟨b, hb, e'⟩
      · rw [if_neg e1] at e'; exact ⟨i, by rw [e2]; exact hi, e'⟩

theorem Ctx.renew_ok {c : Ctx} (hok : Ok c) {b b' ty es m : Nat} {cells : List AV} (hb : c.H b = some (.row ty es cells)) (hU : ¬ c.U b') (hR : ¬ c.R b') : Ok (c.renew b b' (.row ty es (cells.take m))) := by
  have hbn : c.H b ≠ none := by rw [hb]; simp
  have later := Ctx.renew_later (x := .row ty es (cells.take m)) (mut_row hb) hU hR
  have get : ∀ i, (c.renew b b' (.row ty es (cells.take m))).H i ≠ none → i = b' ∨ (i ≠ b' ∧ i ≠ b ∧ c.H i ≠ none) := by
    intro i hi
    obtain ⟨y, hy⟩ := Option.ne_none_iff_exists'.1 hi
    rcases Ctx.renew_H hy with ⟨e1, _⟩ | ⟨e1, e2, e3⟩
    · exact .inl e1
    · exact .inr ⟨e1, e2, by rw [e3]; simp⟩
  refine ⟨?_, ?_, ?_, ?_⟩
  · intro i hi
    rcases get i hi with e | ⟨_, _, e⟩
    · exact .inr e
    · exact .inl (hok.used i e)
  · obtain ⟨M, hM⟩ := hok.fin
    refine ⟨M + b' + 1, fun i hi => ?_⟩
    rcases hi with (h | h) | h
    · have := hM i (.inl h); omega
    · omega
    · have := hM i (.inr h); omega
  · intro i j hi hj e
    have e' : (if i = b' then c.μ b else c.μ i) = (if j = b' then c.μ b else c.μ j) := e
    rcases get i hi with e1 | ⟨e1, e2, e3⟩ <;> rcases get j hj with f1 | ⟨f1, f2, f3⟩
    · rw [e1, f1]
    · rw [if_pos e1, if_neg f1] at e'
      exact absurd (hok.inj j b f3 hbn e'.symm) f2
    · rw [if_neg e1, if_pos f1] at e'
      exact absurd (hok.inj i b e3 hbn e') e2
    · rw [if_neg e1, if_neg f1] at e'
      exact hok.inj i j e3 f3 e'
  · intro i y hy
    rcases Ctx.renew_H hy with ⟨rfl, rfl⟩ | ⟨e1, _, e3⟩
    · obtain ⟨arr, g1, g2, g3⟩ := hok.blk b _ hb
      refine ⟨arr, ?_, by rw [List.length_take]; omega, fun k hk hk' => ?_⟩
      · show c.w.heap[if i = i then c.μ b else c.μ i]? = _
        rw [if_pos rfl]; exact g1
      · have hk2 : k < cells.length := by rw [List.length_take] at hk; omega
        have := (g3 k hk2 hk').later later
        rw [List.getElem_take]; exact this
    · exact (hok.blk i y e3).later later (if_neg e1) rfl

theorem Settle.renew {K : St → Prop} {D : List Nat} {E : Env} {H : AHeap} (t : Nat) {b L n ty : Nat} {ti : Bool} {l : List Nat} (he : E.get t = .own b L 0 n ti) (hH : H b = some (.row ty 1 (U l))) (hL : l.length = L) (hn : n ≤ L)
    (h : ∀ b', (H.upd b none) b' = none → Settle K ⟨D, E.set t (.own b' n 0 n false), (H.upd b none).upd b' (some (.row ty 1 (U (l.take n))))⟩) : Settle K ⟨D, E, H⟩ := by
  refine Settle.join ?_
  intro N c a hc hok hr
  have hc' : c.H = H := hc
  subst hc'
  obtain ⟨M, hM⟩ := hok.fin
  have hU : ¬ c.U M := fun k => by have := hM M (.inl k); omega
  have hR : ¬ c.R M := fun k => by have := hM M (.inr k); omega
  have hbn : c.H b ≠ none := by rw [hH]; simp
  have hbM : M ≠ b := fun e => hU (e ▸ hok.used b hbn)
  have later := Ctx.renew_later (b' := M) (x := .row ty 1 ((U l).take n)) (mut_row hH) hU hR
  have hfree : (c.H.upd b none) M = none := by
    rw [upd_other _ _ hbM]
    cases e : c.H M with
    | none => rfl
    | some x => exact absurd (hok.used M (by rw [e]; simp)) hU
  have hk := h M hfree
  rw [U_take] at hk
  refine ⟨c.renew b M (.row ty 1 ((U l).take n)), _, rfl, rfl, Ctx.renew_ok hok hH hU hR, ?_, later, hk⟩
  have hr' := hr.later later
  refine ⟨hr'.size, fun u => ?_, hr'.dlen, hr'.dmark⟩
  show Enc _ (Env.get (E.set t (.own M n 0 n false)) u) _
  rw [Env.get_set]
  split
  · rename_i e; subst e
    have := hr.tmp u
    rw [show E.get u = _ from he] at this
    generalize a.tmps.getD u undef = v at this
    cases this with
    | own _ _ _ _ _ _ hs hb0 hL0 hv =>
      refine .own M n 0 n false v hs (.inr rfl) (fun x hx => ?_) (fun ty' es' cells' hx _ => ?_)
      · have hx2 : ((c.H.upd b none).upd M (some (.row ty 1 ((U l).take n)))) M = some x := hx
        rw [upd_same] at hx2
        injection hx2 with hx2
        subst hx2
        show n ≤ ((U l).take n).length
        rw [List.length_take, U_len]; omega
      · have hx2 : ((c.H.upd b none).upd M (some (.row ty 1 ((U l).take n)))) M = some (.row ty' es' cells') := hx
        rw [upd_same] at hx2
        injection hx2 with hx2
        injection hx2 with q1 q2 q3
        subst q1; subst q2
        obtain ⟨base, cap, arr, g1, g2, g3, g4, _, g6, g7⟩ := hv ty 1 (U l) hH (by rw [U_len]; exact hL)
        refine ⟨base, cap, arr, g1, ?_, g3, g4, (fun e => absurd e (by simp)), ?_, g7⟩
        · show cap = 0 ∨ base = some ⟨if M = M then c.μ b else c.μ M, 0, none⟩
          rw [if_pos rfl]; exact g2
        · show c.w.heap[if M = M then c.μ b else c.μ M]? = _
          rw [if_pos rfl]; exact g6
  · exact hr'.tmp u

def growO (H0 : AHeap) (ty : Nat) (l : List Nat) (x : AV) (H : AHeap) : Prop :=
  (l = [] ∧ x = .seq 0 [] true ∧ H = H0) ∨ (∃ b, H0 b = none ∧ x = .own b l.length 0 l.length false ∧ H = H0.upd b (some (.row ty 1 (U l))))
end Go.Proofs.YtanchgkiomfhhaaDoor.Fw

/- What the reference computes on rows of one's own: comparing, taking away, striking high noughts. -/
namespace Go.Proofs.YtanchgkiomfhhaaDoor.Fw
set_option linter.unusedSimpArgs false
set_option linter.unusedVariables false
open Go Go.Proofs.YtanchgkiomfhhaaDoor.Ma
set_option maxRecDepth 20000

end Go.Proofs.YtanchgkiomfhhaaDoor.Fw

/- The reference's division: a bit of a number; division by one digit. -/
namespace Go.Proofs.YtanchgkiomfhhaaDoor.Fw
set_option linter.unusedSimpArgs false
set_option linter.unusedVariables false
open Go Go.Proofs.YtanchgkiomfhhaaDoor.Ma
set_option maxRecDepth 20000

end Go.Proofs.YtanchgkiomfhhaaDoor.Fw

/- The reference's division, bit by bit. -/
namespace Go.Proofs.YtanchgkiomfhhaaDoor.Fw
set_option linter.unusedSimpArgs false
set_option linter.unusedVariables false
open Go Go.Proofs.YtanchgkiomfhhaaDoor.Ma
set_option maxRecDepth 20000

structure LongK (A V M : Nat) (ql : List Nat) : Prop where
  hM : M ≤ blen A
  qlen : ql.length = (digs 65536 A).length
  qlim : Lim 65536 ql
  qval : val 65536 ql = A / 2 ^ M / V * 2 ^ M

end Go.Proofs.YtanchgkiomfhhaaDoor.Fw

/- Quotients and remainders of whole numbers, as the reference has them. -/
namespace Go.Proofs.YtanchgkiomfhhaaDoor.Fw
set_option linter.unusedSimpArgs false
set_option linter.unusedVariables false
open Go Go.Proofs.YtanchgkiomfhhaaDoor.Ma
set_option maxRecDepth 20000

end Go.Proofs.YtanchgkiomfhhaaDoor.Fw

/- The law of quotients, as what its code computes: true. -/
namespace Go.Proofs.YtanchgkiomfhhaaDoor.Fw
set_option linter.unusedSimpArgs false
set_option linter.unusedVariables false
open Go Go.Proofs.YtanchgkiomfhhaaDoor.Ma
set_option maxRecDepth 20000

end Go.Proofs.YtanchgkiomfhhaaDoor.Fw

/- The greatest common divisor, as the reference and as the program have it. -/
namespace Go.Proofs.YtanchgkiomfhhaaDoor.Fw
set_option linter.unusedSimpArgs false
set_option linter.unusedVariables false
open Go Go.Proofs.YtanchgkiomfhhaaDoor.Ma
set_option maxRecDepth 20000

theorem igcd_fn {x y : Int} {k : Nat} (hx : Bd k x) (hk : k ≤ 274877906944) (hy : Bd k y) : PFn Tryd.prog 129 [IntA x, IntA y] (IntA ((Int.gcd x y : Nat) : Int)) := by
  intro H Q hq
  refine enter129 (by simp) ?_
  simp (disch := first | assumption | (apply Ap.symm; assumption) | omega | decide | (simp only [Xd] <;> omega)) only [ac129, cells_IntA, ↓Xa, Xb, Xc, ↓reduceIte, Nat.reduceLT, Nat.reduceEqDiff, Nat.reduceBEq, Nat.reduceLeDiff, Nat.reduceAdd, Nat.reduceMul]
  refine alloc_i fun p1 hp1 => ?_
  have n1 := hp1
  simp (disch := first | assumption | (apply Ap.symm; assumption) | omega | decide | (simp only [Xd] <;> omega)) only [↓Xa, Xb, Xc, ↓reduceIte, Nat.reduceLT, Nat.reduceEqDiff, Nat.reduceBEq, Nat.reduceLeDiff, Nat.reduceAdd, Nat.reduceMul]
  refine alloc_i fun p2 hp2 => ?_
  have n2 := hp2
  simp only [upd_none] at n2
  obtain ⟨_, n2⟩ := n2
  simp (disch := first | assumption | (apply Ap.symm; assumption) | omega | decide | (simp only [Xd] <;> omega)) only [↓Xa, Xb, Xc, ↓reduceIte, Nat.reduceLT, Nat.reduceEqDiff, Nat.reduceBEq, Nat.reduceLeDiff, Nat.reduceAdd, Nat.reduceMul]
  refine alloc_i fun p3 hp3 => ?_
  have n3 := hp3
  simp only [upd_none] at n3
  obtain ⟨_, _, n3⟩ := n3
  simp (disch := first | assumption | (apply Ap.symm; assumption) | omega | decide | (simp only [Xd] <;> omega)) only [↓Xa, Xb, Xc, ↓reduceIte, Nat.reduceLT, Nat.reduceEqDiff, Nat.reduceBEq, Nat.reduceLeDiff, Nat.reduceAdd, Nat.reduceMul]
  refine PFn.dcall (abs_fn hx (by omega)) ?_
  simp (disch := first | assumption | (apply Ap.symm; assumption) | omega | decide | (simp only [Xd] <;> omega)) only [↓Xa, Xb, Xc, ↓reduceIte, Nat.reduceLT, Nat.reduceEqDiff, Nat.reduceBEq, Nat.reduceLeDiff, Nat.reduceAdd, Nat.reduceMul]
  refine PFn.dcall (abs_fn hy (by omega)) ?_
  simp (disch := first | assumption | (apply Ap.symm; assumption) | omega | decide | (simp only [Xd] <;> omega)) only [↓Xa, Xb, Xc, ↓reduceIte, Nat.reduceLT, Nat.reduceEqDiff, Nat.reduceBEq, Nat.reduceLeDiff, Nat.reduceAdd, Nat.reduceMul]
  refine dalloc_i fun p4 hp4 => ?_
  have n4 := hp4
  simp only [upd_none] at n4
  obtain ⟨_, _, _, n4⟩ := n4
  simp (disch := first | assumption | (apply Ap.symm; assumption) | omega | decide | (simp only [Xd] <;> omega)) only [↓Xa, Xb, Xc, ↓reduceIte, Nat.reduceLT, Nat.reduceEqDiff, Nat.reduceBEq, Nat.reduceLeDiff, Nat.reduceAdd, Nat.reduceMul]
  refine dalloc_i fun p5 hp5 => ?_
  have n5 := hp5
  simp only [upd_none] at n5
  obtain ⟨_, _, _, _, n5⟩ := n5
  simp (disch := first | assumption | (apply Ap.symm; assumption) | omega | decide | (simp only [Xd] <;> omega)) only [cells_IntA, ↓Xa, Xb, Xc, ↓reduceIte, Nat.reduceLT, Nat.reduceEqDiff, Nat.reduceBEq, Nat.reduceLeDiff, Nat.reduceAdd, Nat.reduceMul]
  refine W_atH fun M hM => ?_
  have i3 : M p3 = some (.row 28 0 [.bool false, .seq 0 [] true]) := by rw [hM]; simp (disch := first | assumption | (apply Ap.symm; assumption) | omega | decide | (simp only [Xd] <;> omega)) only [↓Xa, Xb, Xc, ↓reduceIte, Nat.reduceLT, Nat.reduceEqDiff, Nat.reduceBEq, Nat.reduceLeDiff, Nat.reduceAdd, Nat.reduceMul]
  have i4 : M p4 = some (.row 28 0 [IntB (x.natAbs : Int), IntD (x.natAbs : Int)]) := by rw [hM]; simp (disch := first | assumption | (apply Ap.symm; assumption) | omega | decide | (simp only [Xd] <;> omega)) only [↓Xa, Xb, Xc, ↓reduceIte, Nat.reduceLT, Nat.reduceEqDiff, Nat.reduceBEq, Nat.reduceLeDiff, Nat.reduceAdd, Nat.reduceMul]
  have i5 : M p5 = some (.row 28 0 [IntB (y.natAbs : Int), IntD (y.natAbs : Int)]) := by rw [hM]; simp (disch := first | assumption | (apply Ap.symm; assumption) | omega | decide | (simp only [Xd] <;> omega)) only [↓Xa, Xb, Xc, ↓reduceIte, Nat.reduceLT, Nat.reduceEqDiff, Nat.reduceBEq, Nat.reduceLeDiff, Nat.reduceAdd, Nat.reduceMul]
  have iG : Le H M := by rw [hM]; exact (((((Le.refl H).updB n1).updB n2).updB n3).updB n4).updB n5
  refine W_loop (fun s : Int × Int × AHeap => ⟨[], [(4, .ptr p3 2 0), (5, .ptr p4 2 0), (6, .ptr p5 2 0)], s.2.2⟩)
    (fun s => 0 ≤ s.1 ∧ 0 ≤ s.2.1 ∧ Int.gcd s.1 s.2.1 = Int.gcd x y ∧ Bd k s.1 ∧ Bd k s.2.1 ∧ s.2.2 p3 = some (.row 28 0 [.bool false, .seq 0 [] true]) ∧ s.2.2 p4 = some (.row 28 0 [IntB s.1, IntD s.1]) ∧ s.2.2 p5 = some (.row 28 0 [IntB s.2.1, IntD s.2.1]) ∧ Le H s.2.2)
    (fun s => s.2.1.natAbs) ((x.natAbs : Int), (y.natAbs : Int), M) (Settle.now rfl) ⟨by dsimp only; omega, by dsimp only; omega, by simp [Int.gcd], hx.abs, hy.abs, i3, i4, i5, iG⟩ ?_
  rintro ⟨a, b, G⟩ ⟨ha, hb, hg, ba, bb, g3, g4, g5, hG⟩
  dsimp only at ha hb hg ba bb g3 g4 g5 hG ⊢
  simp (disch := first | assumption | (apply Ap.symm; assumption) | omega | decide | (simp only [Xd] <;> omega)) only [g5, g4, cells_IntA, fold_IntA, ↓Xa, Xb, Xc, ↓reduceIte, Nat.reduceLT, Nat.reduceEqDiff, Nat.reduceBEq, Nat.reduceLeDiff, Nat.reduceAdd, Nat.reduceMul]
  refine (sign_fn bb (by omega)).call ?_
  by_cases hb0 : b = 0
  · simp (disch := first | assumption | (apply Ap.symm; assumption) | omega | decide | (simp only [Xd] <;> omega)) only [sgn_neq0, hb0, ↓Xa, Xb, Xc, ↓reduceIte, Nat.reduceLT, Nat.reduceEqDiff, Nat.reduceBEq, Nat.reduceLeDiff, Nat.reduceAdd, Nat.reduceMul]
    refine Settle.now ?_
    simp (disch := first | assumption | (apply Ap.symm; assumption) | omega | decide | (simp only [Xd] <;> omega)) only [g4, g3, cells_IntA, fold_IntA, rs129, ↓Xa, Xb, Xc, ↓reduceIte, Nat.reduceLT, Nat.reduceEqDiff, Nat.reduceBEq, Nat.reduceLeDiff, Nat.reduceAdd, Nat.reduceMul]
    have e : ((Int.gcd x y : Nat) : Int) = a := by rw [← hg, hb0, Int.gcd_zero_right]; omega
    rw [e] at hq
    exact SetR.dropTo (hG.updB n3) (SetR.now hq)
  · simp (disch := first | assumption | (apply Ap.symm; assumption) | omega | decide | (simp only [Xd] <;> omega)) only [g5, sgn_neq0, hb0, g4, cells_IntA, fold_IntA, ↓Xa, Xb, Xc, ↓reduceIte, Nat.reduceLT, Nat.reduceEqDiff, Nat.reduceBEq, Nat.reduceLeDiff, Nat.reduceAdd, Nat.reduceMul]
    refine (idivmod_fn ba hk bb hk hb0).call ?_
    simp (disch := first | assumption | (apply Ap.symm; assumption) | omega | decide | (simp only [Xd] <;> omega)) only [↓Xa, Xb, Xc, ↓reduceIte, Nat.reduceLT, Nat.reduceEqDiff, Nat.reduceBEq, Nat.reduceLeDiff, Nat.reduceAdd, Nat.reduceMul]
    refine alloc_i fun q1 hq1 => ?_
    have a3 := ne_of_some g3 hq1
    have a4 := ne_of_some g4 hq1
    have a5 := ne_of_some g5 hq1
    simp (disch := first | assumption | (apply Ap.symm; assumption) | omega | decide | (simp only [Xd] <;> omega)) only [↓Xa, Xb, Xc, ↓reduceIte, Nat.reduceLT, Nat.reduceEqDiff, Nat.reduceBEq, Nat.reduceLeDiff, Nat.reduceAdd, Nat.reduceMul]
    refine alloc_i fun q2 hq2 => ?_
    have m2 := hq2
    simp only [upd_none] at m2
    obtain ⟨_, m2⟩ := m2
    have b3 := ne_of_some g3 m2
    have b4 := ne_of_some g4 m2
    have b5 := ne_of_some g5 m2
    simp (disch := first | assumption | (apply Ap.symm; assumption) | omega | decide | (simp only [Xd] <;> omega)) only [g3, g4, g5, cells_IntA, fold_IntA, ↓Xa, Xb, Xc, ↓reduceIte, Nat.reduceLT, Nat.reduceEqDiff, Nat.reduceBEq, Nat.reduceLeDiff, Nat.reduceAdd, Nat.reduceMul]
    refine Settle_atH fun M' hM' => ?_
    refine Settle.now ⟨(b, a % b, M'), ?_, ⟨hb, Int.emod_nonneg _ hb0, (gcd_step a b).trans hg, bb, ?_, ?_, ?_, ?_, ?_⟩, rfl⟩
    · have h1 := Int.emod_lt a hb0
      have h2 := Int.emod_nonneg a hb0
      dsimp only; omega
    · have h1 := Int.emod_lt a hb0
      have h2 := Int.emod_nonneg a hb0
      unfold Bd at bb ⊢; dsimp only; omega
    · dsimp only; rw [hM']; simp (disch := first | assumption | (apply Ap.symm; assumption) | omega | decide | (simp only [Xd] <;> omega)) only [g3, ↓Xa, Xb, Xc, ↓reduceIte, Nat.reduceLT, Nat.reduceEqDiff, Nat.reduceBEq, Nat.reduceLeDiff, Nat.reduceAdd, Nat.reduceMul]
    · dsimp only; rw [hM']; simp (disch := first | assumption | (apply Ap.symm; assumption) | omega | decide | (simp only [Xd] <;> omega)) only [↓Xa, Xb, Xc, ↓reduceIte, Nat.reduceLT, Nat.reduceEqDiff, Nat.reduceBEq, Nat.reduceLeDiff, Nat.reduceAdd, Nat.reduceMul]
    · dsimp only; rw [hM']; simp (disch := first | assumption | (apply Ap.symm; assumption) | omega | decide | (simp only [Xd] <;> omega)) only [↓Xa, Xb, Xc, ↓reduceIte, Nat.reduceLT, Nat.reduceEqDiff, Nat.reduceBEq, Nat.reduceLeDiff, Nat.reduceAdd, Nat.reduceMul]
    · dsimp only; rw [hM']; exact (((hG.updB (hG.none hq1)).updB (hG.none m2)).updB n4).updB n5
end Go.Proofs.YtanchgkiomfhhaaDoor.Fw

/- How the greatest common divisor is put together, as the program finds it. -/
namespace Go.Proofs.YtanchgkiomfhhaaDoor.Fw
set_option linter.unusedSimpArgs false
set_option linter.unusedVariables false
open Go Go.Proofs.YtanchgkiomfhhaaDoor.Ma
set_option maxRecDepth 20000

theorem Bd.le {x y : Int} {k : Nat} (h : Bd k y) (hl : x.natAbs ≤ y.natAbs) : Bd k x := Nat.lt_of_le_of_lt hl h
theorem Bd.ediv {x y : Int} {k : Nat} (h : Bd k x) : Bd k (x / y) := h.le (Int.natAbs_ediv_le_natAbs x y)
end Go.Proofs.YtanchgkiomfhhaaDoor.Fw

/- The law of the greatest common divisor, as what its code computes: true. -/
namespace Go.Proofs.YtanchgkiomfhhaaDoor.Fw
set_option linter.unusedSimpArgs false
set_option linter.unusedVariables false
open Go Go.Proofs.YtanchgkiomfhhaaDoor.Ma
set_option maxRecDepth 20000

def BezF (x y u v : Int) : Prop := u * x + v * y = (Int.gcd x y : Int) ∧ (y = 0 → u = sgnI x ∧ v = 0) ∧ (y ≠ 0 → 0 ≤ u ∧ u < (y.natAbs : Int) / (Int.gcd x y : Int))
end Go.Proofs.YtanchgkiomfhhaaDoor.Fw

/- Fractions: plain numbers. -/
namespace Go.Proofs.YtanchgkiomfhhaaDoor.Fw
set_option linter.unusedSimpArgs false
set_option linter.unusedVariables false
open Go Go.Proofs.YtanchgkiomfhhaaDoor.Ma

abbrev QQ := _root_.Rat
theorem q_pos (q : QQ) : 0 < (q.den : Int) := by have := q.den_pos; omega
theorem q_gcd {n : Int} {d : Nat} (hd : 0 < d) : 0 < ((Int.gcd n (d : Int) : Nat) : Int) := by
  have : 0 < Int.gcd n (d : Int) := Int.gcd_pos_of_ne_zero_right _ (by omega)
  omega
theorem mk_num {n : Int} {d : Nat} (hd : 0 < d) : (mkRat n d).num = n / ((Int.gcd n (d : Int) : Nat) : Int) := by
  rw [_root_.Rat.num_mkRat, if_neg (by omega), Nat.gcd_comm]; rfl
theorem mk_den {n : Int} {d : Nat} (hd : 0 < d) : (((mkRat n d).den : Nat) : Int) = (d : Int) / ((Int.gcd n (d : Int) : Nat) : Int) := by
  rw [_root_.Rat.den_mkRat, if_neg (by omega), Nat.gcd_comm]; rfl
theorem q_over (p q : QQ) : _root_.Rat.divInt (p.num * (q.den : Int)) ((p.den : Int) * q.num) = p / q := by
  rw [_root_.Rat.div_def, _root_.Rat.inv_def, ← _root_.Rat.divInt_mul_divInt, _root_.Rat.num_divInt_den]
theorem q_num0 {q : QQ} : q.num = 0 ↔ q = 0 := _root_.Rat.num_eq_zero
theorem q_lt {p q : QQ} : p < q ↔ p.num * (q.den : Int) < q.num * (p.den : Int) := _root_.Rat.lt_iff p q
def cmpQ (p q : QQ) : Int := cmpI (p.num * (q.den : Int)) (q.num * (p.den : Int))
theorem Bd.oneQ (k : Nat) : Bd (k + 1) 1 := by
  unfold Bd
  have : 4294967296 ^ 1 ≤ 4294967296 ^ (k + 1) := Nat.pow_le_pow_right (by omega) (by omega)
  have e : (1 : Int).natAbs = 1 := rfl
  omega
def RB (k : Nat) (q : QQ) : Prop := Bd k q.num ∧ Bd k (q.den : Int)
theorem RB.mk {n : Int} {d k : Nat} (hn : Bd k n) (hd : Bd k (d : Int)) (h0 : 0 < d) : RB k (mkRat n d) := by
  refine ⟨?_, ?_⟩
  · rw [mk_num h0]; exact hn.ediv
  · rw [mk_den h0]; exact hd.ediv
theorem RB.mono {q : QQ} {k k' : Nat} (h : RB k q) (hk : k ≤ k') : RB k' q := ⟨h.1.mono hk, h.2.mono hk⟩
theorem RB.neg {q : QQ} {k : Nat} (h : RB k q) : RB k (-q) := ⟨h.1.neg, h.2⟩
theorem RB.add {p q : QQ} {k k' : Nat} (h : RB k p) (h' : RB k' q) : RB (k + k' + 1) (p + q) := by
  rw [_root_.Rat.add_def']
  refine RB.mk (Bd.add (h.1.mul h'.2) ?_) ?_ (Nat.mul_pos p.den_pos q.den_pos)
  · have := h'.1.mul h.2; rw [Nat.add_comm]; exact this
  · rw [Int.natCast_mul]; exact (h.2.mul h'.2).mono (by omega)
theorem RB.sub {p q : QQ} {k k' : Nat} (h : RB k p) (h' : RB k' q) : RB (k + k' + 1) (p - q) := by
  rw [_root_.Rat.sub_eq_add_neg]; exact h.add h'.neg
theorem RB.mul {p q : QQ} {k k' : Nat} (h : RB k p) (h' : RB k' q) : RB (k + k') (p * q) := by
  rw [_root_.Rat.mul_def']
  refine RB.mk (h.1.mul h'.1) ?_ (Nat.mul_pos p.den_pos q.den_pos)
  rw [Int.natCast_mul]; exact h.2.mul h'.2
theorem divInt_cases (n d : Int) : (d = 0 ∧ _root_.Rat.divInt n d = 0) ∨ (∃ m : Nat, 0 < m ∧ d = (m : Int) ∧ _root_.Rat.divInt n d = mkRat n m) ∨ (∃ m : Nat, 0 < m ∧ d = -(m : Int) ∧ _root_.Rat.divInt n d = mkRat (-n) m) := by
  rcases Int.lt_trichotomy d 0 with h | h | h
  · refine .inr (.inr ⟨d.natAbs, by omega, by omega, ?_⟩)
    have e : d = -((d.natAbs : Nat) : Int) := by omega
    conv => lhs; rw [e]
    rw [_root_.Rat.divInt_neg', _root_.Rat.divInt_ofNat]
  · exact .inl ⟨h, by rw [h]; exact _root_.Rat.divInt_zero n⟩
  · refine .inr (.inl ⟨d.natAbs, by omega, by omega, ?_⟩)
    have e : d = ((d.natAbs : Nat) : Int) := by omega
    conv => lhs; rw [e]
    rw [_root_.Rat.divInt_ofNat]
theorem RB.divInt {n d : Int} {k : Nat} (hn : Bd k n) (hd : Bd k d) : RB (k + 1) (_root_.Rat.divInt n d) := by
  rcases divInt_cases n d with ⟨_, e⟩ | ⟨m, h0, e1, e⟩ | ⟨m, h0, e1, e⟩
  · rw [e]; exact ⟨Bd.zero _, Bd.oneQ k⟩
  · rw [e]; subst e1; exact (RB.mk hn hd h0).mono (by omega)
  · rw [e]; subst e1
    have := hd.neg
    rw [Int.neg_neg] at this
    exact (RB.mk hn.neg this h0).mono (by omega)
theorem RB.int {z : Int} {k : Nat} (h : Bd (k + 1) z) : RB (k + 1) (z : QQ) := ⟨h, Bd.oneQ k⟩
theorem RB.less {q : QQ} {k : Nat} (h : RB k q) : Bd k ((q.den : Int) - 1) := h.2.le (by have := q_pos q; omega)
end Go.Proofs.YtanchgkiomfhhaaDoor.Fw

/- Ranges over functions: memories side by side, the iterator's contract, the statement's rule. -/
namespace Go.Proofs.YtanchgkiomfhhaaDoor.Fw
set_option linter.unusedSimpArgs false
set_option linter.unusedVariables false
open Go

def Un (A B : AHeap) : AHeap := fun b => match A b with | some x => some x | none => B b
def Dj (A B : AHeap) : Prop := ∀ b, A b = none ∨ B b = none
def nilH : AHeap := fun _ => none
theorem un_nil {B : AHeap} : Un nilH B = B := funext fun _ => rfl
theorem un_upd {A B : AHeap} {b : Nat} {x : ABlk} : Un (A.upd b (some x)) B = (Un A B).upd b (some x) := by
  funext i; simp only [Un, AHeap.upd]; by_cases e : i = b
  · simp [e]
  · simp [e]
theorem un_updR {A B : AHeap} {b : Nat} {x : Option ABlk} (h : A b = none) : Un A (B.upd b x) = (Un A B).upd b x := by
  funext i; simp only [Un, AHeap.upd]; by_cases e : i = b
  · subst e; simp [h]
  · simp [e]
theorem un_none {A B : AHeap} {b : Nat} : Un A B b = none ↔ A b = none ∧ B b = none := by
  unfold Un; cases h : A b <;> simp
theorem dj_nil {B : AHeap} : Dj nilH B := fun _ => .inl rfl
theorem dj_upd {A B : AHeap} {b : Nat} {x : Option ABlk} (h : Dj A B) (hb : B b = none) : Dj (A.upd b x) B := fun i => by
  by_cases e : i = b
  · subst e; exact .inr hb
  · rw [upd_other _ _ e]; exact h i
theorem dj_updR {A B : AHeap} {b : Nat} {x : Option ABlk} (h : Dj A B) (hb : A b = none) : Dj A (B.upd b x) := fun i => by
  by_cases e : i = b
  · subst e; exact .inl hb
  · rw [upd_other _ _ e]; exact h i
theorem dj_at {A B : AHeap} {b : Nat} {x : ABlk} (h : Dj A B) (hb : A b = some x) : B b = none := (h b).resolve_left (by rw [hb]; simp)
theorem dj_atR {A B : AHeap} {b : Nat} {x : ABlk} (h : Dj A B) (hb : B b = some x) : A b = none := (h b).resolve_right (by rw [hb]; simp)
def IterW (P : Program) (f : FuncId) (caps : List AV) {α : Type} (enc : α → List AV) (xs : List α) : Prop :=
  ∀ (b : Nat) (J : List α → AHeap → Prop) (Jx : AHeap → Prop),
    (∀ pre x rest A B, xs = pre ++ x :: rest → Dj A B → J pre A → YieldW P b (enc x) (Un A B) fun r H' => ∃ A', Dj A' B ∧ H' = Un A' B ∧ ((r = .bool true ∧ J (pre ++ [x]) A') ∨ (r = .bool false ∧ Jx A'))) →
    ∀ A B, Dj A B → J [] A → Run P f ([.yld b] ++ caps) (Un A B) fun _ H' => ∃ A', Dj A' B ∧ H' = Un A' B ∧ (J xs A' ∨ Jx A')

def bodyQ {α : Type} (J : List α → AHeap → Prop) (Jx : Code → AHeap → Prop) (l : List α) (B : AHeap) : Exit → St → Prop
  | .normal, s => Settle (fun s => ∃ A, Dj A B ∧ s.H = Un A B ∧ J l A) s
  | .ret, s => Settle (fun s => ∃ A, Dj A B ∧ s.H = Un A B ∧ Jx .ret A) s
  | .exit i, s => Settle (fun s => ∃ A, Dj A B ∧ s.H = Un A B ∧ Jx (.exit i) A) s
  | _, _ => False

theorem rfn_iter {P : Program} {ps : List Nat} {asg bd : ACode} {f : FuncId} {caps : List AV} {Q : Exit → St → Prop} {D : List Nat} {E : Env} {α : Type} {enc : α → List AV} {xs : List α} (hit : IterW P f caps enc xs) (hps : ∀ x, (enc x).length = ps.length)
    (J : List α → AHeap → Prop) (Jx : Code → AHeap → Prop) (A B : AHeap) {H : AHeap} (hd : Dj A B) (hH : H = Un A B) (h0 : J [] A)
    (hbody : ∀ pre x rest A B, xs = pre ++ x :: rest → Dj A B → J pre A →
      ∀ R1, (∀ E1 A1, Dj A1 B → (∀ R2 B1, (∀ e s, bodyQ J Jx (pre ++ [x]) B1 e s → R2 e s) → Dj A1 B1 → W P bd R2 ⟨[], E1, Un A1 B1⟩) → R1 .normal ⟨[], E1, Un A1 B⟩) → W P asg R1 ⟨[], setps E ps (enc x), Un A B⟩)
    (hend : ∀ d A', Dj A' B → A' d = none → B d = none → J xs A' → Q .normal ⟨d :: D, E, (Un A' B).upd d (some (.raw (.deferred (some []))))⟩)
    (hexit : ∀ d A' c, Dj A' B → A' d = none → B d = none → Jx c A' → afterQ Q (some c) ⟨d :: D, E, (Un A' B).upd d (some (.raw (.deferred (some []))))⟩) :
    rfnW P ps (W P asg) (W P bd) (.fn (.func f) [] caps) Q ⟨D, E, H⟩ := by
  subst hH
  intro L b d hb hdn hbd hy
  obtain ⟨hAb, hBb⟩ := un_none.1 hb
  obtain ⟨hAd, hBd⟩ := un_none.1 hdn
  have hd2 : Dj A (B.upd d (some (.raw (.deferred (some []))))) := dj_updR hd hAd
  have hB2b : (B.upd d (some (.raw (.deferred (some []))))) b = none := by rw [upd_other _ _ hbd]; exact hBb
  have run := hit b (fun pre A' => ∃ A0, A' = A0.upd b (some (L .ready none)) ∧ A0 b = none ∧ J pre A0) (fun A' => ∃ A0 c, A' = A0.upd b (some (L .done (some c))) ∧ A0 b = none ∧ Jx c A0) ?_
    (A.upd b (some (L .ready none))) (B.upd d (some (.raw (.deferred (some []))))) (dj_upd hd2 hB2b) ⟨A, rfl, hAb, h0⟩
  · rw [un_upd, un_updR hAd] at run
    refine run.mono ?_
    rintro r H' ⟨A', hdj, rfl, (⟨A0, rfl, h0b, hj⟩ | ⟨A0, c, rfl, h0b, hj⟩)⟩
    · have hA0d : A0 d = none := by
        have := dj_atR hdj (upd_same _ _ _)
        rwa [upd_other _ _ (Ne.symm hbd)] at this
      have hdj0 : Dj A0 B := fun i => by
        by_cases e : i = b
        · subst e; exact .inl h0b
        · by_cases e2 : i = d
          · subst e2; exact .inl hA0d
          · have := hdj i
            rwa [upd_other _ _ e, upd_other _ _ e2] at this
      refine ⟨.ready, none, by simp, by rw [un_upd, upd_same], ?_⟩
      rw [un_upd, upd_upd, upd_back _ (un_none.2 ⟨h0b, hB2b⟩), un_updR hA0d]
      exact hend d A0 hdj0 hA0d hBd hj
    · have hA0d : A0 d = none := by
        have := dj_atR hdj (upd_same _ _ _)
        rwa [upd_other _ _ (Ne.symm hbd)] at this
      have hdj0 : Dj A0 B := fun i => by
        by_cases e : i = b
        · subst e; exact .inl h0b
        · by_cases e2 : i = d
          · subst e2; exact .inl hA0d
          · have := hdj i
            rwa [upd_other _ _ e, upd_other _ _ e2] at this
      refine ⟨.done, some c, by simp, by rw [un_upd, upd_same], ?_⟩
      rw [un_upd, upd_upd, upd_back _ (un_none.2 ⟨h0b, hB2b⟩), un_updR hA0d]
      exact hexit d A0 c hdj0 hA0d hBd hj
  · rintro pre x rest A' B' hx hdj ⟨A0, rfl, h0b, hj⟩
    have hB'b : B' b = none := dj_at hdj (upd_same _ _ _)
    have hdj0 : Dj A0 B' := fun i => by
      by_cases e : i = b
      · subst e; exact .inl h0b
      · have := hdj i
        rwa [upd_other _ _ e] at this
    refine hy _ _ _ (by rw [un_upd, upd_same]) (by simpa using hps x) fun R1 k1 => ?_
    rw [un_upd, ← un_updR (B := B') h0b]
    refine hbody pre x rest A0 (B'.upd b (some (L .ready none))) hx (dj_updR hdj0 h0b) hj R1 fun E1 A1 hd1 k2 => ?_
    have hA1b : A1 b = none := dj_atR hd1 (upd_same _ _ _)
    have hdj1 : Dj A1 B' := fun i => by
      by_cases e : i = b
      · subst e; exact .inl hA1b
      · have := hd1 i
        rwa [upd_other _ _ e] at this
    refine k1 _ rfl (by dsimp only; rw [un_updR hA1b, upd_same]) fun R2 k3 => ?_
    dsimp only
    rw [un_updR hA1b, upd_upd, ← un_updR hA1b]
    refine k2 R2 _ (fun e s hs => k3 e s ?_) (dj_updR hdj1 hA1b)
    have fin : ∀ (st : LoopState) (jc : Option Code) (A2 : AHeap), Dj A2 (B'.upd b (some (L .busy none))) → (Un A2 (B'.upd b (some (L .busy none)))) b = some (L .busy none) ∧ Dj (A2.upd b (some (L st jc))) B' ∧ (Un A2 (B'.upd b (some (L .busy none)))).upd b (some (L st jc)) = Un (A2.upd b (some (L st jc))) B' ∧ A2 b = none := by
      intro st jc A2 h2
      have hA2b : A2 b = none := dj_atR h2 (upd_same _ _ _)
      have hdj2 : Dj A2 B' := fun i => by
        by_cases e : i = b
        · subst e; exact .inl hA2b
        · have := h2 i
          rwa [upd_other _ _ e] at this
      exact ⟨by rw [un_updR hA2b, upd_same], dj_upd hdj2 hB'b, by rw [un_updR hA2b, upd_upd, un_upd], hA2b⟩
    cases e with
    | normal =>
      refine Settle.mono hs ?_
      rintro s ⟨A2, h2, e2, hj2⟩
      obtain ⟨f1, f2, f3, f4⟩ := fin .ready none A2 h2
      exact ⟨by rw [e2]; exact f1, _, f2, by rw [e2]; exact f3, .inl ⟨rfl, A2, rfl, f4, hj2⟩⟩
    | ret =>
      refine Settle.mono hs ?_
      rintro s ⟨A2, h2, e2, hj2⟩
      obtain ⟨f1, f2, f3, f4⟩ := fin .done (some .ret) A2 h2
      exact ⟨by rw [e2]; exact f1, _, f2, by rw [e2]; exact f3, .inr ⟨rfl, A2, _, rfl, f4, hj2⟩⟩
    | exit j =>
      refine Settle.mono hs ?_
      rintro s ⟨A2, h2, e2, hj2⟩
      obtain ⟨f1, f2, f3, f4⟩ := fin .done (some (.exit j)) A2 h2
      exact ⟨by rw [e2]; exact f1, _, f2, by rw [e2]; exact f3, .inr ⟨rfl, A2, _, rfl, f4, hj2⟩⟩
    | goto j => exact hs.elim
    | panic j => exact hs.elim
    | outgrown => exact hs.elim

/-! ### a variable's block that is not written any more -/
theorem Enc.freezeP {c : Ctx} (hok : Ok c) {b L off : Nat} {ty : TypeId} {es : Nat} {cells : List AV} {v : Value} (h : Enc c (.ptr b L off) v) (hH : c.H b = some (.row ty es cells)) (hL : cells.length = L) : Enc (c.drop b) (.cptr (cells.drop off)) v := by
  cases h with
  | ptr _ _ _ _ _ hb hL' hv =>
    obtain rfl := hv _ hH hL
    obtain ⟨arr, g1, g2, g3⟩ := hok.blk b _ hH
    refine .cptr _ (c.μ b) off (fun i => arr.getD (off + i) undef) ?_ (Array.getElem?_eq_some_iff.1 g1).1 (fun i hi => ?_) (fun i hi => ?_)
    · rintro ⟨i, hi, e⟩
      cases hx : (c.drop b).H i with
      | none => have hi' : ABlk.mut ((c.drop b).H i) := hi; rw [hx] at hi'; exact hi'
      | some x =>
        obtain ⟨hne, hci⟩ := c.drop_H b i x hx
        exact hne (hok.inj i b (by rw [hci]; simp) (by rw [hH]; simp) e)
    · have hi' : off + i < cells.length := by simp only [List.length_drop] at hi; omega
      have h6 : off + i < arr.size := by omega
      show World.cell? c.w _ = _
      simp only [World.cell?, g1]
      rw [Array.getD_eq_getD_getElem?]
      simp [h6]
    · have hi' : off + i < cells.length := by simp only [List.length_drop] at hi; omega
      have h6 : off + i < arr.size := by omega
      have := (g3 (off + i) hi' h6).later (c.drop_later b)
      simpa [Array.getD_eq_getD_getElem?, h6] using this
def frzP1 (b : Nat) (cells : List AV) : AV → AV
  | .ptr b' L off => if b' = b ∧ cells.length = L then .cptr (cells.drop off) else .ptr b' L off
  | x => x
def frzP (b : Nat) (cells : List AV) : AV → AV
  | .fn f first caps => .fn f first (caps.map (frzP1 b cells))
  | x => frzP1 b cells x
theorem enc_frzP1 {c : Ctx} (hok : Ok c) {b : Nat} {ty : TypeId} {es : Nat} {cells : List AV} (hH : c.H b = some (.row ty es cells)) (x : AV) (v : Value) (h : Enc c x v) : Enc (c.drop b) (frzP1 b cells x) v := by
  unfold frzP1
  split
  · split
    · rename_i e; obtain ⟨rfl, e⟩ := e; exact Enc.freezeP hok h hH e
    · exact h.later (c.drop_later b)
  · exact h.later (c.drop_later b)
theorem enc_frzP {c : Ctx} (hok : Ok c) {b : Nat} {ty : TypeId} {es : Nat} {cells : List AV} (hH : c.H b = some (.row ty es cells)) (x : AV) (v : Value) (h : Enc c x v) : Enc (c.drop b) (frzP b cells x) v := by
  unfold frzP
  split
  · cases h with
    | fn f first caps fv cv hf hcs h1 h2 => exact .fn _ _ _ _ _ hf (by simpa using hcs) (fun i hi hi' => (h1 i hi hi').later (c.drop_later b)) (Enc.list_map (enc_frzP1 hok hH) h2)
  · exact enc_frzP1 hok hH _ _ h
theorem SetR.frzP {Q : AV → AHeap → Prop} {r : AV} {H : AHeap} (b : Nat) {ty : TypeId} {es : Nat} {cells : List AV} (hb : H b = some (.row ty es cells)) (h : SetR Q (frzP b cells r) (H.upd b none)) : SetR Q r H :=
  SetR.join fun c v hH hok he => ⟨c.drop b, _, rfl, Ctx.drop_ok hok b, c.drop_later b, enc_frzP hok (hH ▸ hb) _ _ he, by show SetR Q _ (c.H.upd b none); rw [hH]; exact h⟩

/-! ### rows that grow, whatever they hold -/
def growC (H0 : AHeap) (ty es n : Nat) (cells : List AV) (x : AV) (H : AHeap) : Prop :=
  (n = 0 ∧ cells = [] ∧ x = .seq 0 [] true ∧ H = H0) ∨ (0 < n ∧ cells.length = n * es ∧ ∃ b, H0 b = none ∧ x = .own b (n * es) 0 n false ∧ H = H0.upd b (some (.row ty es cells)))
theorem growC_nil {H0 : AHeap} {ty es : Nat} : growC H0 ty es 0 [] (.seq 0 [] true) H0 := .inl ⟨rfl, rfl, rfl, rfl⟩
theorem growC_le {H0 H : AHeap} {ty es n : Nat} {cells : List AV} {x : AV} (h : growC H0 ty es n cells x H) : Le H0 H := by
  rcases h with ⟨_, _, _, rfl⟩ | ⟨_, _, b, hb, _, rfl⟩
  · exact Le.refl _
  · exact (Le.refl _).upd hb
theorem growC_old {H0 H : AHeap} {ty es n : Nat} {cells : List AV} {x : AV} (h : growC H0 ty es n cells x H) {p : Nat} {y : ABlk} (hp : H0 p = some y) : H p = some y := growC_le h p y hp
theorem app_C {H0 H : AHeap} {ty es bytes n m : Nat} {cells ys : List AV} {x : AV} {t : Bool} {K : AV → AHeap → Prop} (h : growC H0 ty es n cells x H) (hy : ys.length = m * es) (hc : ys.all AV.cell = true) (hm : 0 < m) (hb : (n + m) * bytes ≤ 70368744177664) (hb2 : n + m ≤ 70368744177664)
    (k : ∀ x' H', growC H0 ty es (n + m) (cells ++ ys) x' H' → K x' H') : appV H ty es bytes x (.seq m ys t) K := by
  refine .inl ⟨hy, hc, ?_⟩
  rcases h with ⟨rfl, rfl, rfl, rfl⟩ | ⟨hn, hl, b, hb', rfl, rfl⟩
  · refine ⟨rfl, by simp, hb, hb2, fun e => absurd e (by omega), fun _ b hb' => ?_⟩
    exact k _ _ (.inr ⟨by omega, by simp [hy], b, hb', rfl, by simp⟩)
  · dsimp only
    rw [upd_same]
    refine ⟨hl, rfl, rfl, rfl, rfl, hb, hb2, ?_⟩
    exact k _ _ (.inr ⟨by omega, by rw [List.length_append, hl, hy, Nat.add_mul], b, hb', rfl, by rw [upd_upd]⟩)
theorem growC_fin {H0 H : AHeap} {ty es n : Nat} {cells : List AV} {x : AV} {Q : AV → AHeap → Prop} (h : growC H0 ty es n cells x H) (hq : Q (.seq n cells false) H0) : SetR Q x H := by
  rcases h with ⟨rfl, rfl, rfl, rfl⟩ | ⟨_, hl, b, hb, rfl, rfl⟩
  · exact SetR.loose (SetR.now hq)
  · refine SetR.frz b (upd_same _ _ _) ?_
    rw [upd_upd, upd_back _ hb]
    have e : frz b es cells (.own b (n * es) 0 n false) = .seq n cells false := by simp [frz, frz2, frz1, hl, List.take_of_length_le]
    rw [e]; exact SetR.now hq
def growB (H0 : AHeap) (p tb ty es n : Nat) (cells : List AV) (H : AHeap) : Prop :=
  H0 p = none ∧ ((n = 0 ∧ cells = [] ∧ H = H0.upd p (some (.row tb 0 [.seq 0 [] true]))) ∨
    (0 < n ∧ cells.length = n * es ∧ ∃ b, Ap b p ∧ H0 b = none ∧ H = (H0.upd b (some (.row ty es cells))).upd p (some (.row tb 0 [.own b (n * es) 0 n false]))))
theorem growB_nil {H0 : AHeap} {p tb ty es : Nat} (hp : H0 p = none) : growB H0 p tb ty es 0 [] (H0.upd p (some (.row tb 0 [.seq 0 [] true]))) := ⟨hp, .inl ⟨rfl, rfl, rfl⟩⟩
theorem growB_app {H0 H : AHeap} {p tb ty es bytes n m : Nat} {cells : List AV} (h : growB H0 p tb ty es n cells H) : ∃ x, H p = some (.row tb 0 [x]) ∧
    ∀ {ys : List AV} {t : Bool} {K : AV → AHeap → Prop}, ys.length = m * es → ys.all AV.cell = true → 0 < m → (n + m) * bytes ≤ 70368744177664 → n + m ≤ 70368744177664 →
      (∀ x' H', H' p = some (.row tb 0 [x]) → AV.cells x' = some [x'] → growB H0 p tb ty es (n + m) (cells ++ ys) (H'.upd p (some (.row tb 0 [x']))) → K x' H') → appV H ty es bytes x (.seq m ys t) K := by
  obtain ⟨hp, h⟩ := h
  rcases h with ⟨rfl, rfl, rfl⟩ | ⟨hn, hl, b, hbp, hb', rfl⟩
  · refine ⟨_, upd_same _ _ _, fun {ys t K} hy hc hm hb hb2 k => .inl ⟨hy, hc, rfl, by simp, hb, hb2, fun e => absurd e (by omega), fun _ b hbn => ?_⟩⟩
    obtain ⟨b1, b2⟩ := upd_none.1 hbn
    refine k _ _ ?_ rfl ⟨hp, .inr ⟨by omega, by simp [hy], b, b1, b2, ?_⟩⟩
    · rw [upd_other _ _ (Ne.symm b1), upd_same]
    · rw [List.nil_append, upd_comm _ _ _ (Ne.symm b1), upd_upd]
  · refine ⟨_, upd_same _ _ _, fun {ys t K} hy hc hm hb hb2 k => .inl ⟨hy, hc, ?_⟩⟩
    dsimp only
    rw [upd_other _ _ hbp, upd_same]
    refine ⟨hl, rfl, rfl, rfl, rfl, hb, hb2, ?_⟩
    refine k _ _ ?_ rfl ⟨hp, .inr ⟨by omega, by rw [List.length_append, hl, hy, Nat.add_mul], b, hbp, hb', ?_⟩⟩
    · rw [upd_other _ _ (Ne.symm hbp), upd_same]
    · rw [upd_comm _ _ _ (Ne.symm hbp), upd_upd, upd_upd]
theorem growB_un {A B : AHeap} {p tb ty es n : Nat} {cells : List AV} (h : growB nilH p tb ty es n cells A) (hd : Dj A B) : growB B p tb ty es n cells (Un A B) := by
  obtain ⟨_, h⟩ := h
  rcases h with ⟨rfl, rfl, rfl⟩ | ⟨hn, hl, b, hbp, hb', rfl⟩
  · exact ⟨dj_at hd (upd_same _ _ _), .inl ⟨rfl, rfl, by rw [un_upd, un_nil]⟩⟩
  · refine ⟨dj_at hd (upd_same _ _ _), .inr ⟨hn, hl, b, hbp, dj_at (b := b) (x := .row ty es cells) hd (by rw [upd_other _ _ hbp, upd_same]), by rw [un_upd, un_upd, un_nil]⟩⟩
theorem growB_nu {B H : AHeap} {p tb ty es n : Nat} {cells : List AV} (h : growB B p tb ty es n cells H) : ∃ A, Dj A B ∧ H = Un A B ∧ growB nilH p tb ty es n cells A := by
  obtain ⟨hp, h⟩ := h
  rcases h with ⟨rfl, rfl, rfl⟩ | ⟨hn, hl, b, hbp, hb', rfl⟩
  · exact ⟨_, dj_upd dj_nil hp, by rw [un_upd, un_nil], growB_nil rfl⟩
  · exact ⟨_, dj_upd (dj_upd dj_nil hb') hp, by rw [un_upd, un_upd, un_nil], rfl, .inr ⟨hn, hl, b, hbp, rfl, rfl⟩⟩
theorem growB_get {H0 H : AHeap} {p tb ty es n : Nat} {cells : List AV} (h : growB H0 p tb ty es n cells H) : ∃ x, H p = some (.row tb 0 [x]) ∧ ((x = .seq 0 [] true ∧ n = 0 ∧ cells = []) ∨ (0 < n ∧ cells.length = n * es ∧ ∃ b, x = .own b (n * es) 0 n false ∧ H b = some (.row ty es cells))) ∧ Le H0 H := by
  obtain ⟨hp, h⟩ := h
  rcases h with ⟨rfl, rfl, rfl⟩ | ⟨hn, hl, b, hbp, hb', rfl⟩
  · exact ⟨_, upd_same _ _ _, .inl ⟨rfl, rfl, rfl⟩, (Le.refl _).upd hp⟩
  · refine ⟨_, upd_same _ _ _, .inr ⟨hn, hl, b, rfl, by rw [upd_other _ _ hbp, upd_same]⟩, ((Le.refl _).upd hb').upd (by rw [upd_other _ _ (Ne.symm hbp)]; exact hp)⟩
end Go.Proofs.YtanchgkiomfhhaaDoor.Fw

/- Fractions: what package ratio's functions answer. -/
namespace Go.Proofs.YtanchgkiomfhhaaDoor.Fw
set_option linter.unusedSimpArgs false
set_option linter.unusedVariables false
open Go Go.Proofs.YtanchgkiomfhhaaDoor.Ma
set_option maxRecDepth 20000

def RawR (a b : Int) : AV := .agg [IntB a, IntD a, IntB b, IntD b]
def RatA (q : QQ) : AV := RawR q.num ((q.den : Int) - 1)
theorem cells_Raw {a b : Int} : (RawR a b).cells = some [IntB a, IntD a, IntB b, IntD b] := id rfl
theorem cells_RatA {q : QQ} : (RatA q).cells = some [IntB q.num, IntD q.num, IntB ((q.den : Int) - 1), IntD ((q.den : Int) - 1)] := id rfl
theorem fold_Raw {a b : Int} : AV.agg [IntB a, IntD a, IntB b, IntD b] = RawR a b := id rfl
theorem fold_RatA {q : QQ} : RawR q.num ((q.den : Int) - 1) = RatA q := id rfl
theorem RawR_0 : AV.agg [.bool false, .seq 0 [] true, .bool false, .seq 0 [] true] = RatA 0 := by simp [RatA, RawR, IntB, IntD, digs_zero, LS, U]
theorem build_raw0 {K : AV → Prop} : buildW [.bool false, .seq 0 [] true, .bool false, .seq 0 [] true] [] K = K (RatA 0) := by rw [← RawR_0]; rfl

theorem fold_Raw0 {a : Int} : AV.agg [IntB a, IntD a, .bool false, .seq 0 [] true] = RawR a 0 := by simp [RawR, IntB, IntD, digs_zero, LS, U]
theorem cmp10 : decide (((1 : Nat) : Int) = -1) = false := by decide
theorem cmp100 : decide (((1 : Nat) : Int) = ((0 : Nat) : Int)) = false := by decide
theorem cmpm0 : decide ((-1 : Int) = ((0 : Nat) : Int)) = false := by decide

theorem lowest_fn {n : Int} {d k : Nat} (hn : Bd k n) (hd : Bd k (d : Int)) (h0 : 0 < d) (hk : k ≤ 1000000) : PFn Tryd.prog 173 [IntA n, IntA (d : Int)] (RatA (mkRat n d)) := by
  intro H Q hq
  have hg := q_gcd (n := n) h0
  have hbg : Bd k ((Int.gcd n (d : Int) : Nat) : Int) := hd.le (by
    have := Int.gcd_dvd_right n (d : Int)
    have h1 : Int.gcd n (d : Int) ≤ d := Nat.le_of_dvd h0 (by have := Int.ofNat_dvd.1 this; exact this)
    omega)
  have e : RatA (mkRat n d) = RawR (n / ((Int.gcd n (d : Int) : Nat) : Int)) ((d : Int) / ((Int.gcd n (d : Int) : Nat) : Int) - 1) := by
    unfold RatA; rw [mk_num h0, mk_den h0]
  rw [e] at hq
  refine enter173 (by simp) ?_
  simp (disch := first | assumption | (apply Ap.symm; assumption) | omega | decide | (simp only [Xd] <;> omega)) only [ac173, cells_IntA, ↓Xa, Xb, Xc, ↓reduceIte, Nat.reduceLT, Nat.reduceEqDiff, Nat.reduceBEq, Nat.reduceLeDiff, Nat.reduceAdd, Nat.reduceMul]
  refine alloc_i fun p1 hp1 => ?_
  have n1 := hp1
  simp (disch := first | assumption | (apply Ap.symm; assumption) | omega | decide | (simp only [Xd] <;> omega)) only [cells_IntA, ↓Xa, Xb, Xc, ↓reduceIte, Nat.reduceLT, Nat.reduceEqDiff, Nat.reduceBEq, Nat.reduceLeDiff, Nat.reduceAdd, Nat.reduceMul]
  refine alloc_i fun p2 hp2 => ?_
  have n2 := hp2
  simp only [upd_none] at n2
  obtain ⟨_, n2⟩ := n2
  simp (disch := first | assumption | (apply Ap.symm; assumption) | omega | decide | (simp only [Xd] <;> omega)) only [↓Xa, Xb, Xc, ↓reduceIte, Nat.reduceLT, Nat.reduceEqDiff, Nat.reduceBEq, Nat.reduceLeDiff, Nat.reduceAdd, Nat.reduceMul]
  refine alloc_i fun p3 hp3 => ?_
  have n3 := hp3
  simp only [upd_none] at n3
  obtain ⟨_, _, n3⟩ := n3
  simp (disch := first | assumption | (apply Ap.symm; assumption) | omega | decide | (simp only [Xd] <;> omega)) only [fold_IntA, ↓Xa, Xb, Xc, ↓reduceIte, Nat.reduceLT, Nat.reduceEqDiff, Nat.reduceBEq, Nat.reduceLeDiff, Nat.reduceAdd, Nat.reduceMul]
  refine (igcd_fn hn (by omega) hd).call ?_
  generalize ((Int.gcd n (d : Int) : Nat) : Int) = g at *
  simp (disch := first | assumption | (apply Ap.symm; assumption) | omega | decide | (simp only [Xd] <;> omega)) only [↓Xa, Xb, Xc, ↓reduceIte, Nat.reduceLT, Nat.reduceEqDiff, Nat.reduceBEq, Nat.reduceLeDiff, Nat.reduceAdd, Nat.reduceMul]
  refine alloc_i fun p4 hp4 => ?_
  have n4 := hp4
  simp only [upd_none] at n4
  obtain ⟨_, _, _, n4⟩ := n4
  simp (disch := first | assumption | (apply Ap.symm; assumption) | omega | decide | (simp only [Xd] <;> omega)) only [cells_IntA, fold_IntA, ↓Xa, Xb, Xc, ↓reduceIte, Nat.reduceLT, Nat.reduceEqDiff, Nat.reduceBEq, Nat.reduceLeDiff, Nat.reduceAdd, Nat.reduceMul]
  refine (idivmod_fn hn (by omega) hbg (by omega) (by omega)).call ?_
  simp (disch := first | assumption | (apply Ap.symm; assumption) | omega | decide | (simp only [Xd] <;> omega)) only [cells_IntA, fold_IntA, ↓Xa, Xb, Xc, ↓reduceIte, Nat.reduceLT, Nat.reduceEqDiff, Nat.reduceBEq, Nat.reduceLeDiff, Nat.reduceAdd, Nat.reduceMul]
  refine (idivmod_fn hd (by omega) hbg (by omega) (by omega)).call ?_
  simp (disch := first | assumption | (apply Ap.symm; assumption) | omega | decide | (simp only [Xd] <;> omega)) only [cells_IntA, fold_IntA, ↓Xa, Xb, Xc, ↓reduceIte, Nat.reduceLT, Nat.reduceEqDiff, Nat.reduceBEq, Nat.reduceLeDiff, Nat.reduceAdd, Nat.reduceMul]
  refine PFn.dcall (of_fn (n := ((1 : Nat) : Int)) (by omega)) ?_
  simp (disch := first | assumption | (apply Ap.symm; assumption) | omega | decide | (simp only [Xd] <;> omega)) only [↓Xa, Xb, Xc, ↓reduceIte, Nat.reduceLT, Nat.reduceEqDiff, Nat.reduceBEq, Nat.reduceLeDiff, Nat.reduceAdd, Nat.reduceMul]
  refine PFn.dcall (subi_fn (x := (d : Int) / g) hd.ediv (by omega) (Bd.i64 (n := ((1 : Nat) : Int)) (by omega)) (by omega)) ?_
  simp (disch := first | assumption | (apply Ap.symm; assumption) | omega | decide | (simp only [Xd] <;> omega)) only [cells_IntA, fold_Raw, cells_Raw, rs173, ↓Xa, Xb, Xc, ↓reduceIte, Nat.reduceLT, Nat.reduceEqDiff, Nat.reduceBEq, Nat.reduceLeDiff, Nat.reduceAdd, Nat.reduceMul]
  exact SetR.dropTo (((((Le.refl H).updB n1).updB n2).updB n3).updB n4) (SetR.now hq)

def RatE (q : QQ) (e : Nat) : AV := .tup [RatA q, .int .i64 ((e : Nat) : Int)]
theorem rmk_fn {n d : Int} {k : Nat} (hn : Bd k n) (hd : Bd k d) (hk : k ≤ 1000000) : PFn Tryd.prog 126 [IntA n, IntA d] (RatE (_root_.Rat.divInt n d) (if d = 0 then 2 else 0)) := by
  intro H Q hq
  refine enter126 (by simp) ?_
  simp (disch := first | assumption | (apply Ap.symm; assumption) | omega | decide | (simp only [Xd] <;> omega)) only [ac126, cells_IntA, ↓Xa, Xb, Xc, ↓reduceIte, Nat.reduceLT, Nat.reduceEqDiff, Nat.reduceBEq, Nat.reduceLeDiff, Nat.reduceAdd, Nat.reduceMul]
  refine alloc_i fun p1 hp1 => ?_
  have n1 := hp1
  simp (disch := first | assumption | (apply Ap.symm; assumption) | omega | decide | (simp only [Xd] <;> omega)) only [cells_IntA, ↓Xa, Xb, Xc, ↓reduceIte, Nat.reduceLT, Nat.reduceEqDiff, Nat.reduceBEq, Nat.reduceLeDiff, Nat.reduceAdd, Nat.reduceMul]
  refine alloc_i fun p2 hp2 => ?_
  have n2 := hp2
  simp only [upd_none] at n2
  obtain ⟨_, n2⟩ := n2
  simp (disch := first | assumption | (apply Ap.symm; assumption) | omega | decide | (simp only [Xd] <;> omega)) only [↓Xa, Xb, Xc, ↓reduceIte, Nat.reduceLT, Nat.reduceEqDiff, Nat.reduceBEq, Nat.reduceLeDiff, Nat.reduceAdd, Nat.reduceMul]
  refine alloc_i fun p3 hp3 => ?_
  have n3 := hp3
  simp only [upd_none] at n3
  obtain ⟨_, _, n3⟩ := n3
  simp (disch := first | assumption | (apply Ap.symm; assumption) | omega | decide | (simp only [Xd] <;> omega)) only [fold_IntA, ↓Xa, Xb, Xc, ↓reduceIte, Nat.reduceLT, Nat.reduceEqDiff, Nat.reduceBEq, Nat.reduceLeDiff, Nat.reduceAdd, Nat.reduceMul]
  refine (sign_fn hd (by omega)).call ?_
  rcases divInt_cases n d with ⟨e0, e⟩ | ⟨m, h0, rfl, e⟩ | ⟨m, h0, rfl, e⟩
  · have hs : sgnI d = ((0 : Nat) : Int) := by unfold sgnI; rw [if_pos e0]
    simp (disch := first | assumption | (apply Ap.symm; assumption) | omega | decide | (simp only [Xd] <;> omega)) only [hs, rs126, ↓Xa, Xb, Xc, ↓reduceIte, Nat.reduceLT, Nat.reduceEqDiff, Nat.reduceBEq, Nat.reduceLeDiff, Nat.reduceAdd, Nat.reduceMul]
    rw [e, if_pos e0, RatE, ← RawR_0] at hq
    exact SetR.dropTo ((((Le.refl H).updB n1).updB n2).updB n3) (SetR.now hq)
  · have hs : sgnI ((m : Nat) : Int) = ((1 : Nat) : Int) := by unfold sgnI; rw [if_neg (by omega), if_neg (by omega)]
    simp (disch := first | assumption | (apply Ap.symm; assumption) | omega | decide | (simp only [Xd] <;> omega)) only [hs, eql_int, cmp10, cmp100, cmpm0, cells_IntA, fold_IntA, ↓Xa, Xb, Xc, ↓reduceIte, Nat.reduceLT, Nat.reduceEqDiff, Nat.reduceBEq, Nat.reduceLeDiff, Nat.reduceAdd, Nat.reduceMul]
    refine (lowest_fn hn hd h0 hk).call ?_
    simp (disch := first | assumption | (apply Ap.symm; assumption) | omega | decide | (simp only [Xd] <;> omega)) only [cells_RatA, ↓Xa, Xb, Xc, ↓reduceIte, Nat.reduceLT, Nat.reduceEqDiff, Nat.reduceBEq, Nat.reduceLeDiff, Nat.reduceAdd, Nat.reduceMul]
    simp (disch := first | assumption | (apply Ap.symm; assumption) | omega | decide | (simp only [Xd] <;> omega)) only [fold_Raw, fold_RatA, rs126, ↓Xa, Xb, Xc, ↓reduceIte, Nat.reduceLT, Nat.reduceEqDiff, Nat.reduceBEq, Nat.reduceLeDiff, Nat.reduceAdd, Nat.reduceMul]
    rw [e, if_neg (by omega)] at hq
    exact SetR.dropTo ((((Le.refl H).updB n1).updB n2).updB n3) (SetR.now hq)
  · have hs : sgnI (-((m : Nat) : Int)) = -1 := by unfold sgnI; rw [if_neg (by omega), if_pos (by omega)]
    have hd' : Bd k ((m : Nat) : Int) := by have := hd.neg; rwa [Int.neg_neg] at this
    simp (disch := first | assumption | (apply Ap.symm; assumption) | omega | decide | (simp only [Xd] <;> omega)) only [hs, eql_int, cmp10, cmp100, cmpm0, cells_IntA, fold_IntA, ↓Xa, Xb, Xc, ↓reduceIte, Nat.reduceLT, Nat.reduceEqDiff, Nat.reduceBEq, Nat.reduceLeDiff, Nat.reduceAdd, Nat.reduceMul]
    refine PFn.dcall (neg_fn hn (by omega)) ?_
    simp (disch := first | assumption | (apply Ap.symm; assumption) | omega | decide | (simp only [Xd] <;> omega)) only [fold_IntA, ↓Xa, Xb, Xc, ↓reduceIte, Nat.reduceLT, Nat.reduceEqDiff, Nat.reduceBEq, Nat.reduceLeDiff, Nat.reduceAdd, Nat.reduceMul]
    refine (neg_fn hd (by omega)).call ?_
    simp (disch := first | assumption | (apply Ap.symm; assumption) | omega | decide | (simp only [Xd] <;> omega)) only [Int.neg_neg, cells_IntA, fold_IntA, ↓Xa, Xb, Xc, ↓reduceIte, Nat.reduceLT, Nat.reduceEqDiff, Nat.reduceBEq, Nat.reduceLeDiff, Nat.reduceAdd, Nat.reduceMul]
    refine (lowest_fn hn.neg hd' h0 hk).call ?_
    simp (disch := first | assumption | (apply Ap.symm; assumption) | omega | decide | (simp only [Xd] <;> omega)) only [cells_RatA, ↓Xa, Xb, Xc, ↓reduceIte, Nat.reduceLT, Nat.reduceEqDiff, Nat.reduceBEq, Nat.reduceLeDiff, Nat.reduceAdd, Nat.reduceMul]
    simp (disch := first | assumption | (apply Ap.symm; assumption) | omega | decide | (simp only [Xd] <;> omega)) only [fold_Raw, fold_RatA, rs126, ↓Xa, Xb, Xc, ↓reduceIte, Nat.reduceLT, Nat.reduceEqDiff, Nat.reduceBEq, Nat.reduceLeDiff, Nat.reduceAdd, Nat.reduceMul]
    rw [e, if_neg (by omega)] at hq
    exact SetR.dropTo ((((Le.refl H).updB n1).updB n2).updB n3) (SetR.now hq)

theorem rden_fn {q : QQ} {k : Nat} (hb : RB k q) (hk : k ≤ 1000000) : PFn Tryd.prog 125 [RatA q] (IntA (q.den : Int)) := by
  intro H Q hq
  have e : (q.den : Int) = (q.den : Int) - 1 + ((1 : Nat) : Int) := by omega
  rw [e] at hq
  refine enter125 (by simp) ?_
  simp (disch := first | assumption | (apply Ap.symm; assumption) | omega | decide | (simp only [Xd] <;> omega)) only [ac125, cells_RatA, ↓Xa, Xb, Xc, ↓reduceIte, Nat.reduceLT, Nat.reduceEqDiff, Nat.reduceBEq, Nat.reduceLeDiff, Nat.reduceAdd, Nat.reduceMul]
  refine alloc_i fun p1 hp1 => ?_
  have n1 := hp1
  simp (disch := first | assumption | (apply Ap.symm; assumption) | omega | decide | (simp only [Xd] <;> omega)) only [↓Xa, Xb, Xc, ↓reduceIte, Nat.reduceLT, Nat.reduceEqDiff, Nat.reduceBEq, Nat.reduceLeDiff, Nat.reduceAdd, Nat.reduceMul]
  refine alloc_i fun p2 hp2 => ?_
  have n2 := hp2
  simp only [upd_none] at n2
  obtain ⟨_, n2⟩ := n2
  simp (disch := first | assumption | (apply Ap.symm; assumption) | omega | decide | (simp only [Xd] <;> omega)) only [fold_IntA, ↓Xa, Xb, Xc, ↓reduceIte, Nat.reduceLT, Nat.reduceEqDiff, Nat.reduceBEq, Nat.reduceLeDiff, Nat.reduceAdd, Nat.reduceMul]
  refine PFn.dcall (of_fn (n := ((1 : Nat) : Int)) (by omega)) ?_
  simp (disch := first | assumption | (apply Ap.symm; assumption) | omega | decide | (simp only [Xd] <;> omega)) only [↓Xa, Xb, Xc, ↓reduceIte, Nat.reduceLT, Nat.reduceEqDiff, Nat.reduceBEq, Nat.reduceLeDiff, Nat.reduceAdd, Nat.reduceMul]
  refine (addi_fn hb.less (by omega) (Bd.i64 (n := ((1 : Nat) : Int)) (by omega)) (by omega)).call ?_
  simp (disch := first | assumption | (apply Ap.symm; assumption) | omega | decide | (simp only [Xd] <;> omega)) only [cells_IntA, fold_IntA, rs125, ↓Xa, Xb, Xc, ↓reduceIte, Nat.reduceLT, Nat.reduceEqDiff, Nat.reduceBEq, Nat.reduceLeDiff, Nat.reduceAdd, Nat.reduceMul]
  exact SetR.dropTo (((Le.refl H).updB n1).updB n2) (SetR.now hq)

theorem rsgn_fn {q : QQ} {k : Nat} (hb : RB k q) (hk : k ≤ 1000000) : PFn Tryd.prog 102 [RatA q] (.int .i64 (sgnI q.num)) := by
  intro H Q hq
  refine enter102 (by simp) ?_
  simp (disch := first | assumption | (apply Ap.symm; assumption) | omega | decide | (simp only [Xd] <;> omega)) only [ac102, cells_RatA, ↓Xa, Xb, Xc, ↓reduceIte, Nat.reduceLT, Nat.reduceEqDiff, Nat.reduceBEq, Nat.reduceLeDiff, Nat.reduceAdd, Nat.reduceMul]
  refine alloc_i fun p1 hp1 => ?_
  have n1 := hp1
  simp (disch := first | assumption | (apply Ap.symm; assumption) | omega | decide | (simp only [Xd] <;> omega)) only [fold_IntA, ↓Xa, Xb, Xc, ↓reduceIte, Nat.reduceLT, Nat.reduceEqDiff, Nat.reduceBEq, Nat.reduceLeDiff, Nat.reduceAdd, Nat.reduceMul]
  refine (sign_fn hb.1 (by omega)).call ?_
  simp (disch := first | assumption | (apply Ap.symm; assumption) | omega | decide | (simp only [Xd] <;> omega)) only [rs102, ↓Xa, Xb, Xc, ↓reduceIte, Nat.reduceLT, Nat.reduceEqDiff, Nat.reduceBEq, Nat.reduceLeDiff, Nat.reduceAdd, Nat.reduceMul]
  exact SetR.dropTo ((Le.refl H).updB n1) (SetR.now hq)

theorem rwhole_fn {q : QQ} {k : Nat} (hb : RB k q) (hk : k ≤ 1000000) : PFn Tryd.prog 106 [RatA q] (.bool (decide (q.den = 1))) := by
  intro H Q hq
  refine enter106 (by simp) ?_
  simp (disch := first | assumption | (apply Ap.symm; assumption) | omega | decide | (simp only [Xd] <;> omega)) only [ac106, cells_RatA, ↓Xa, Xb, Xc, ↓reduceIte, Nat.reduceLT, Nat.reduceEqDiff, Nat.reduceBEq, Nat.reduceLeDiff, Nat.reduceAdd, Nat.reduceMul]
  refine alloc_i fun p1 hp1 => ?_
  have n1 := hp1
  simp (disch := first | assumption | (apply Ap.symm; assumption) | omega | decide | (simp only [Xd] <;> omega)) only [fold_IntA, ↓Xa, Xb, Xc, ↓reduceIte, Nat.reduceLT, Nat.reduceEqDiff, Nat.reduceBEq, Nat.reduceLeDiff, Nat.reduceAdd, Nat.reduceMul]
  refine (sign_fn hb.less (by omega)).call ?_
  have e : decide ((q.den : Int) - 1 = 0) = decide (q.den = 1) := decide_eq_decide.2 (by omega)
  simp (disch := first | assumption | (apply Ap.symm; assumption) | omega | decide | (simp only [Xd] <;> omega)) only [sgn_eql0, e, rs106, ↓Xa, Xb, Xc, ↓reduceIte, Nat.reduceLT, Nat.reduceEqDiff, Nat.reduceBEq, Nat.reduceLeDiff, Nat.reduceAdd, Nat.reduceMul]
  exact SetR.dropTo ((Le.refl H).updB n1) (SetR.now hq)

theorem rfloor_fn {q : QQ} {k : Nat} (hb : RB k q) (hk : k ≤ 1000000) : PFn Tryd.prog 105 [RatA q] (IntA (q.num / (q.den : Int))) := by
  intro H Q hq
  refine enter105 (by simp) ?_
  simp (disch := first | assumption | (apply Ap.symm; assumption) | omega | decide | (simp only [Xd] <;> omega)) only [ac105, cells_RatA, ↓Xa, Xb, Xc, ↓reduceIte, Nat.reduceLT, Nat.reduceEqDiff, Nat.reduceBEq, Nat.reduceLeDiff, Nat.reduceAdd, Nat.reduceMul]
  refine alloc_i fun p1 hp1 => ?_
  have n1 := hp1
  simp (disch := first | assumption | (apply Ap.symm; assumption) | omega | decide | (simp only [Xd] <;> omega)) only [↓Xa, Xb, Xc, ↓reduceIte, Nat.reduceLT, Nat.reduceEqDiff, Nat.reduceBEq, Nat.reduceLeDiff, Nat.reduceAdd, Nat.reduceMul]
  refine alloc_i fun p2 hp2 => ?_
  have n2 := hp2
  simp only [upd_none] at n2
  obtain ⟨_, n2⟩ := n2
  simp (disch := first | assumption | (apply Ap.symm; assumption) | omega | decide | (simp only [Xd] <;> omega)) only [fold_IntA, fold_Raw, fold_RatA, ↓Xa, Xb, Xc, ↓reduceIte, Nat.reduceLT, Nat.reduceEqDiff, Nat.reduceBEq, Nat.reduceLeDiff, Nat.reduceAdd, Nat.reduceMul]
  refine PFn.dcall (rden_fn hb hk) ?_
  simp (disch := first | assumption | (apply Ap.symm; assumption) | omega | decide | (simp only [Xd] <;> omega)) only [↓Xa, Xb, Xc, ↓reduceIte, Nat.reduceLT, Nat.reduceEqDiff, Nat.reduceBEq, Nat.reduceLeDiff, Nat.reduceAdd, Nat.reduceMul]
  refine PFn.dcall (idivmod_fn hb.1 (by omega) hb.2 (by omega) (by have := q_pos q; omega)) ?_
  simp (disch := first | assumption | (apply Ap.symm; assumption) | omega | decide | (simp only [Xd] <;> omega)) only [↓Xa, Xb, Xc, ↓reduceIte, Nat.reduceLT, Nat.reduceEqDiff, Nat.reduceBEq, Nat.reduceLeDiff, Nat.reduceAdd, Nat.reduceMul]
  refine dalloc_i fun p3 hp3 => ?_
  have n3 := hp3
  simp only [upd_none] at n3
  obtain ⟨_, _, n3⟩ := n3
  simp (disch := first | assumption | (apply Ap.symm; assumption) | omega | decide | (simp only [Xd] <;> omega)) only [↓Xa, Xb, Xc, ↓reduceIte, Nat.reduceLT, Nat.reduceEqDiff, Nat.reduceBEq, Nat.reduceLeDiff, Nat.reduceAdd, Nat.reduceMul]
  refine dalloc_i fun p4 hp4 => ?_
  have n4 := hp4
  simp only [upd_none] at n4
  obtain ⟨_, _, _, n4⟩ := n4
  simp (disch := first | assumption | (apply Ap.symm; assumption) | omega | decide | (simp only [Xd] <;> omega)) only [cells_IntA, fold_IntA, ↓Xa, Xb, Xc, ↓reduceIte, Nat.reduceLT, Nat.reduceEqDiff, Nat.reduceBEq, Nat.reduceLeDiff, Nat.reduceAdd, Nat.reduceMul]
  simp (disch := first | assumption | (apply Ap.symm; assumption) | omega | decide | (simp only [Xd] <;> omega)) only [cells_IntA, fold_IntA, rs105, ↓Xa, Xb, Xc, ↓reduceIte, Nat.reduceLT, Nat.reduceEqDiff, Nat.reduceBEq, Nat.reduceLeDiff, Nat.reduceAdd, Nat.reduceMul]
  exact SetR.dropTo (((((Le.refl H).updB n1).updB n2).updB n3).updB n4) (SetR.now hq)

theorem rneg2_fn {q : QQ} {k : Nat} (hb : RB k q) (hk : k ≤ 1000000) : PFn Tryd.prog 100 [RatA q] (RatA (-q)) := by
  intro H Q hq
  refine enter100 (by simp) ?_
  simp (disch := first | assumption | (apply Ap.symm; assumption) | omega | decide | (simp only [Xd] <;> omega)) only [ac100, cells_RatA, ↓Xa, Xb, Xc, ↓reduceIte, Nat.reduceLT, Nat.reduceEqDiff, Nat.reduceBEq, Nat.reduceLeDiff, Nat.reduceAdd, Nat.reduceMul]
  refine alloc_i fun p1 hp1 => ?_
  have n1 := hp1
  simp (disch := first | assumption | (apply Ap.symm; assumption) | omega | decide | (simp only [Xd] <;> omega)) only [↓Xa, Xb, Xc, ↓reduceIte, Nat.reduceLT, Nat.reduceEqDiff, Nat.reduceBEq, Nat.reduceLeDiff, Nat.reduceAdd, Nat.reduceMul]
  refine alloc_i fun p2 hp2 => ?_
  have n2 := hp2
  simp only [upd_none] at n2
  obtain ⟨_, n2⟩ := n2
  simp (disch := first | assumption | (apply Ap.symm; assumption) | omega | decide | (simp only [Xd] <;> omega)) only [fold_IntA, ↓Xa, Xb, Xc, ↓reduceIte, Nat.reduceLT, Nat.reduceEqDiff, Nat.reduceBEq, Nat.reduceLeDiff, Nat.reduceAdd, Nat.reduceMul]
  refine PFn.dcall (neg_fn hb.1 (by omega)) ?_
  simp (disch := first | assumption | (apply Ap.symm; assumption) | omega | decide | (simp only [Xd] <;> omega)) only [cells_IntA, fold_IntA, fold_Raw, cells_Raw, rs100, ↓Xa, Xb, Xc, ↓reduceIte, Nat.reduceLT, Nat.reduceEqDiff, Nat.reduceBEq, Nat.reduceLeDiff, Nat.reduceAdd, Nat.reduceMul]
  exact SetR.dropTo (((Le.refl H).updB n1).updB n2) (SetR.now hq)

theorem rwh_fn {z : Int} : PFn Tryd.prog 104 [IntA z] (RatA (z : QQ)) := by
  intro H Q hq
  refine enter104 (by simp) ?_
  simp (disch := first | assumption | (apply Ap.symm; assumption) | omega | decide | (simp only [Xd] <;> omega)) only [ac104, cells_IntA, ↓Xa, Xb, Xc, ↓reduceIte, Nat.reduceLT, Nat.reduceEqDiff, Nat.reduceBEq, Nat.reduceLeDiff, Nat.reduceAdd, Nat.reduceMul]
  refine alloc_i fun p1 hp1 => ?_
  have n1 := hp1
  simp (disch := first | assumption | (apply Ap.symm; assumption) | omega | decide | (simp only [Xd] <;> omega)) only [↓Xa, Xb, Xc, ↓reduceIte, Nat.reduceLT, Nat.reduceEqDiff, Nat.reduceBEq, Nat.reduceLeDiff, Nat.reduceAdd, Nat.reduceMul]
  refine alloc_i fun p2 hp2 => ?_
  have n2 := hp2
  simp only [upd_none] at n2
  obtain ⟨_, n2⟩ := n2
  simp (disch := first | assumption | (apply Ap.symm; assumption) | omega | decide | (simp only [Xd] <;> omega)) only [fold_IntA, cells_IntA, fold_Raw0, cells_Raw, rs104, ↓Xa, Xb, Xc, ↓reduceIte, Nat.reduceLT, Nat.reduceEqDiff, Nat.reduceBEq, Nat.reduceLeDiff, Nat.reduceAdd, Nat.reduceMul]
  exact SetR.dropTo (((Le.refl H).updB n1).updB n2) (SetR.now hq)

theorem radd_fn {p q : QQ} {k k' : Nat} (hp : RB k p) (hq' : RB k' q) (hk : k + k' ≤ 999999) : PFn Tryd.prog 97 [RatA p, RatA q] (RatA (p + q)) := by
  intro H Q hq
  rw [_root_.Rat.add_def'] at hq
  refine enter97 (by simp) ?_
  simp (disch := first | assumption | (apply Ap.symm; assumption) | omega | decide | (simp only [Xd] <;> omega)) only [ac97, cells_RatA, ↓Xa, Xb, Xc, ↓reduceIte, Nat.reduceLT, Nat.reduceEqDiff, Nat.reduceBEq, Nat.reduceLeDiff, Nat.reduceAdd, Nat.reduceMul]
  refine alloc_i fun p1 hp1 => ?_
  have n1 := hp1
  simp (disch := first | assumption | (apply Ap.symm; assumption) | omega | decide | (simp only [Xd] <;> omega)) only [cells_RatA, ↓Xa, Xb, Xc, ↓reduceIte, Nat.reduceLT, Nat.reduceEqDiff, Nat.reduceBEq, Nat.reduceLeDiff, Nat.reduceAdd, Nat.reduceMul]
  refine alloc_i fun p2 hp2 => ?_
  have n2 := hp2
  simp only [upd_none] at n2
  obtain ⟨_, n2⟩ := n2
  simp (disch := first | assumption | (apply Ap.symm; assumption) | omega | decide | (simp only [Xd] <;> omega)) only [↓Xa, Xb, Xc, ↓reduceIte, Nat.reduceLT, Nat.reduceEqDiff, Nat.reduceBEq, Nat.reduceLeDiff, Nat.reduceAdd, Nat.reduceMul]
  refine alloc_i fun p3 hp3 => ?_
  have n3 := hp3
  simp only [upd_none] at n3
  obtain ⟨_, _, n3⟩ := n3
  simp (disch := first | assumption | (apply Ap.symm; assumption) | omega | decide | (simp only [Xd] <;> omega)) only [fold_Raw, fold_RatA, ↓Xa, Xb, Xc, ↓reduceIte, Nat.reduceLT, Nat.reduceEqDiff, Nat.reduceBEq, Nat.reduceLeDiff, Nat.reduceAdd, Nat.reduceMul]
  refine PFn.dcall (rden_fn hp (by omega)) ?_
  simp (disch := first | assumption | (apply Ap.symm; assumption) | omega | decide | (simp only [Xd] <;> omega)) only [fold_Raw, fold_RatA, ↓Xa, Xb, Xc, ↓reduceIte, Nat.reduceLT, Nat.reduceEqDiff, Nat.reduceBEq, Nat.reduceLeDiff, Nat.reduceAdd, Nat.reduceMul]
  refine PFn.dcall (rden_fn hq' (by omega)) ?_
  simp (disch := first | assumption | (apply Ap.symm; assumption) | omega | decide | (simp only [Xd] <;> omega)) only [↓Xa, Xb, Xc, ↓reduceIte, Nat.reduceLT, Nat.reduceEqDiff, Nat.reduceBEq, Nat.reduceLeDiff, Nat.reduceAdd, Nat.reduceMul]
  refine dalloc_i fun p4 hp4 => ?_
  have n4 := hp4
  simp only [upd_none] at n4
  obtain ⟨_, _, _, n4⟩ := n4
  simp (disch := first | assumption | (apply Ap.symm; assumption) | omega | decide | (simp only [Xd] <;> omega)) only [↓Xa, Xb, Xc, ↓reduceIte, Nat.reduceLT, Nat.reduceEqDiff, Nat.reduceBEq, Nat.reduceLeDiff, Nat.reduceAdd, Nat.reduceMul]
  refine dalloc_i fun p5 hp5 => ?_
  have n5 := hp5
  simp only [upd_none] at n5
  obtain ⟨_, _, _, _, n5⟩ := n5
  simp (disch := first | assumption | (apply Ap.symm; assumption) | omega | decide | (simp only [Xd] <;> omega)) only [cells_IntA, fold_IntA, ↓Xa, Xb, Xc, ↓reduceIte, Nat.reduceLT, Nat.reduceEqDiff, Nat.reduceBEq, Nat.reduceLeDiff, Nat.reduceAdd, Nat.reduceMul]
  refine PFn.dcall (muli_fn hp.1 (by omega) hq'.2 (by omega)) ?_
  simp (disch := first | assumption | (apply Ap.symm; assumption) | omega | decide | (simp only [Xd] <;> omega)) only [cells_IntA, fold_IntA, ↓Xa, Xb, Xc, ↓reduceIte, Nat.reduceLT, Nat.reduceEqDiff, Nat.reduceBEq, Nat.reduceLeDiff, Nat.reduceAdd, Nat.reduceMul]
  refine PFn.dcall (muli_fn hq'.1 (by omega) hp.2 (by omega)) ?_
  simp (disch := first | assumption | (apply Ap.symm; assumption) | omega | decide | (simp only [Xd] <;> omega)) only [↓Xa, Xb, Xc, ↓reduceIte, Nat.reduceLT, Nat.reduceEqDiff, Nat.reduceBEq, Nat.reduceLeDiff, Nat.reduceAdd, Nat.reduceMul]
  refine PFn.dcall (addi_fn (hp.1.mul hq'.2) (by omega) (hq'.1.mul hp.2) (by omega)) ?_
  simp (disch := first | assumption | (apply Ap.symm; assumption) | omega | decide | (simp only [Xd] <;> omega)) only [cells_IntA, fold_IntA, ↓Xa, Xb, Xc, ↓reduceIte, Nat.reduceLT, Nat.reduceEqDiff, Nat.reduceBEq, Nat.reduceLeDiff, Nat.reduceAdd, Nat.reduceMul]
  refine (muli_fn hp.2 (by omega) hq'.2 (by omega)).call ?_
  have e : (p.den : Int) * (q.den : Int) = ((p.den * q.den : Nat) : Int) := (Int.natCast_mul _ _).symm
  have b1 : Bd (k + k' + 1) (p.num * (q.den : Int) + q.num * (p.den : Int)) := Bd.add (hp.1.mul hq'.2) (by rw [Nat.add_comm]; exact hq'.1.mul hp.2)
  have b2 : Bd (k + k' + 1) ((p.den * q.den : Nat) : Int) := by rw [← e]; exact (hp.2.mul hq'.2).mono (by omega)
  simp (disch := first | assumption | (apply Ap.symm; assumption) | omega | decide | (simp only [Xd] <;> omega)) only [e, ↓Xa, Xb, Xc, ↓reduceIte, Nat.reduceLT, Nat.reduceEqDiff, Nat.reduceBEq, Nat.reduceLeDiff, Nat.reduceAdd, Nat.reduceMul]
  refine (lowest_fn b1 b2 (Nat.mul_pos p.den_pos q.den_pos) (by omega)).call ?_
  simp (disch := first | assumption | (apply Ap.symm; assumption) | omega | decide | (simp only [Xd] <;> omega)) only [cells_RatA, fold_Raw, fold_RatA, rs97, ↓Xa, Xb, Xc, ↓reduceIte, Nat.reduceLT, Nat.reduceEqDiff, Nat.reduceBEq, Nat.reduceLeDiff, Nat.reduceAdd, Nat.reduceMul]
  exact SetR.dropTo ((((((Le.refl H).updB n1).updB n2).updB n3).updB n4).updB n5) (SetR.now hq)

theorem rsub_fn {p q : QQ} {k k' : Nat} (hp : RB k p) (hq' : RB k' q) (hk : k + k' ≤ 999999) : PFn Tryd.prog 99 [RatA p, RatA q] (RatA (p - q)) := by
  intro H Q hq
  rw [_root_.Rat.sub_eq_add_neg] at hq
  refine enter99 (by simp) ?_
  simp (disch := first | assumption | (apply Ap.symm; assumption) | omega | decide | (simp only [Xd] <;> omega)) only [ac99, cells_RatA, ↓Xa, Xb, Xc, ↓reduceIte, Nat.reduceLT, Nat.reduceEqDiff, Nat.reduceBEq, Nat.reduceLeDiff, Nat.reduceAdd, Nat.reduceMul]
  refine alloc_i fun p1 hp1 => ?_
  have n1 := hp1
  simp (disch := first | assumption | (apply Ap.symm; assumption) | omega | decide | (simp only [Xd] <;> omega)) only [cells_RatA, ↓Xa, Xb, Xc, ↓reduceIte, Nat.reduceLT, Nat.reduceEqDiff, Nat.reduceBEq, Nat.reduceLeDiff, Nat.reduceAdd, Nat.reduceMul]
  refine alloc_i fun p2 hp2 => ?_
  have n2 := hp2
  simp only [upd_none] at n2
  obtain ⟨_, n2⟩ := n2
  simp (disch := first | assumption | (apply Ap.symm; assumption) | omega | decide | (simp only [Xd] <;> omega)) only [↓Xa, Xb, Xc, ↓reduceIte, Nat.reduceLT, Nat.reduceEqDiff, Nat.reduceBEq, Nat.reduceLeDiff, Nat.reduceAdd, Nat.reduceMul]
  refine alloc_i fun p3 hp3 => ?_
  have n3 := hp3
  simp only [upd_none] at n3
  obtain ⟨_, _, n3⟩ := n3
  simp (disch := first | assumption | (apply Ap.symm; assumption) | omega | decide | (simp only [Xd] <;> omega)) only [fold_Raw, fold_RatA, ↓Xa, Xb, Xc, ↓reduceIte, Nat.reduceLT, Nat.reduceEqDiff, Nat.reduceBEq, Nat.reduceLeDiff, Nat.reduceAdd, Nat.reduceMul]
  refine PFn.dcall (rneg2_fn hq' (by omega)) ?_
  simp (disch := first | assumption | (apply Ap.symm; assumption) | omega | decide | (simp only [Xd] <;> omega)) only [↓Xa, Xb, Xc, ↓reduceIte, Nat.reduceLT, Nat.reduceEqDiff, Nat.reduceBEq, Nat.reduceLeDiff, Nat.reduceAdd, Nat.reduceMul]
  refine (radd_fn hp hq'.neg hk).call ?_
  simp (disch := first | assumption | (apply Ap.symm; assumption) | omega | decide | (simp only [Xd] <;> omega)) only [cells_RatA, fold_Raw, fold_RatA, rs99, ↓Xa, Xb, Xc, ↓reduceIte, Nat.reduceLT, Nat.reduceEqDiff, Nat.reduceBEq, Nat.reduceLeDiff, Nat.reduceAdd, Nat.reduceMul]
  exact SetR.dropTo ((((Le.refl H).updB n1).updB n2).updB n3) (SetR.now hq)

theorem rmul_fn {p q : QQ} {k k' : Nat} (hp : RB k p) (hq' : RB k' q) (hk : k + k' ≤ 999999) : PFn Tryd.prog 98 [RatA p, RatA q] (RatA (p * q)) := by
  intro H Q hq
  rw [_root_.Rat.mul_def'] at hq
  refine enter98 (by simp) ?_
  simp (disch := first | assumption | (apply Ap.symm; assumption) | omega | decide | (simp only [Xd] <;> omega)) only [ac98, cells_RatA, ↓Xa, Xb, Xc, ↓reduceIte, Nat.reduceLT, Nat.reduceEqDiff, Nat.reduceBEq, Nat.reduceLeDiff, Nat.reduceAdd, Nat.reduceMul]
  refine alloc_i fun p1 hp1 => ?_
  have n1 := hp1
  simp (disch := first | assumption | (apply Ap.symm; assumption) | omega | decide | (simp only [Xd] <;> omega)) only [cells_RatA, ↓Xa, Xb, Xc, ↓reduceIte, Nat.reduceLT, Nat.reduceEqDiff, Nat.reduceBEq, Nat.reduceLeDiff, Nat.reduceAdd, Nat.reduceMul]
  refine alloc_i fun p2 hp2 => ?_
  have n2 := hp2
  simp only [upd_none] at n2
  obtain ⟨_, n2⟩ := n2
  simp (disch := first | assumption | (apply Ap.symm; assumption) | omega | decide | (simp only [Xd] <;> omega)) only [↓Xa, Xb, Xc, ↓reduceIte, Nat.reduceLT, Nat.reduceEqDiff, Nat.reduceBEq, Nat.reduceLeDiff, Nat.reduceAdd, Nat.reduceMul]
  refine alloc_i fun p3 hp3 => ?_
  have n3 := hp3
  simp only [upd_none] at n3
  obtain ⟨_, _, n3⟩ := n3
  simp (disch := first | assumption | (apply Ap.symm; assumption) | omega | decide | (simp only [Xd] <;> omega)) only [fold_IntA, fold_Raw, fold_RatA, ↓Xa, Xb, Xc, ↓reduceIte, Nat.reduceLT, Nat.reduceEqDiff, Nat.reduceBEq, Nat.reduceLeDiff, Nat.reduceAdd, Nat.reduceMul]
  refine PFn.dcall (muli_fn hp.1 (by omega) hq'.1 (by omega)) ?_
  simp (disch := first | assumption | (apply Ap.symm; assumption) | omega | decide | (simp only [Xd] <;> omega)) only [fold_Raw, fold_RatA, ↓Xa, Xb, Xc, ↓reduceIte, Nat.reduceLT, Nat.reduceEqDiff, Nat.reduceBEq, Nat.reduceLeDiff, Nat.reduceAdd, Nat.reduceMul]
  refine PFn.dcall (rden_fn hp (by omega)) ?_
  simp (disch := first | assumption | (apply Ap.symm; assumption) | omega | decide | (simp only [Xd] <;> omega)) only [fold_Raw, fold_RatA, ↓Xa, Xb, Xc, ↓reduceIte, Nat.reduceLT, Nat.reduceEqDiff, Nat.reduceBEq, Nat.reduceLeDiff, Nat.reduceAdd, Nat.reduceMul]
  refine (rden_fn hq' (by omega)).call ?_
  simp (disch := first | assumption | (apply Ap.symm; assumption) | omega | decide | (simp only [Xd] <;> omega)) only [↓Xa, Xb, Xc, ↓reduceIte, Nat.reduceLT, Nat.reduceEqDiff, Nat.reduceBEq, Nat.reduceLeDiff, Nat.reduceAdd, Nat.reduceMul]
  refine (muli_fn hp.2 (by omega) hq'.2 (by omega)).call ?_
  have e : (p.den : Int) * (q.den : Int) = ((p.den * q.den : Nat) : Int) := (Int.natCast_mul _ _).symm
  have b2 : Bd (k + k') ((p.den * q.den : Nat) : Int) := by rw [← e]; exact hp.2.mul hq'.2
  simp (disch := first | assumption | (apply Ap.symm; assumption) | omega | decide | (simp only [Xd] <;> omega)) only [e, ↓Xa, Xb, Xc, ↓reduceIte, Nat.reduceLT, Nat.reduceEqDiff, Nat.reduceBEq, Nat.reduceLeDiff, Nat.reduceAdd, Nat.reduceMul]
  refine (lowest_fn (hp.1.mul hq'.1) b2 (Nat.mul_pos p.den_pos q.den_pos) (by omega)).call ?_
  simp (disch := first | assumption | (apply Ap.symm; assumption) | omega | decide | (simp only [Xd] <;> omega)) only [cells_RatA, fold_Raw, fold_RatA, rs98, ↓Xa, Xb, Xc, ↓reduceIte, Nat.reduceLT, Nat.reduceEqDiff, Nat.reduceBEq, Nat.reduceLeDiff, Nat.reduceAdd, Nat.reduceMul]
  exact SetR.dropTo ((((Le.refl H).updB n1).updB n2).updB n3) (SetR.now hq)

theorem rover_q {p q : QQ} {k k' : Nat} (hp : RB k p) (hq' : RB k' q) (hk : k + k' ≤ 999999) : PFn Tryd.prog 101 [RatA p, RatA q] (RatE (p / q) (if q = 0 then 2 else 0)) := by
  intro H Q hq
  have ez : ((p.den : Int) * q.num = 0) = (q = 0) := by
    rw [Int.mul_eq_zero, q_num0]
    have := q_pos p
    simp; omega
  rw [← q_over] at hq
  refine enter101 (by simp) ?_
  simp (disch := first | assumption | (apply Ap.symm; assumption) | omega | decide | (simp only [Xd] <;> omega)) only [ac101, cells_RatA, ↓Xa, Xb, Xc, ↓reduceIte, Nat.reduceLT, Nat.reduceEqDiff, Nat.reduceBEq, Nat.reduceLeDiff, Nat.reduceAdd, Nat.reduceMul]
  refine alloc_i fun p1 hp1 => ?_
  have n1 := hp1
  simp (disch := first | assumption | (apply Ap.symm; assumption) | omega | decide | (simp only [Xd] <;> omega)) only [cells_RatA, ↓Xa, Xb, Xc, ↓reduceIte, Nat.reduceLT, Nat.reduceEqDiff, Nat.reduceBEq, Nat.reduceLeDiff, Nat.reduceAdd, Nat.reduceMul]
  refine alloc_i fun p2 hp2 => ?_
  have n2 := hp2
  simp only [upd_none] at n2
  obtain ⟨_, n2⟩ := n2
  simp (disch := first | assumption | (apply Ap.symm; assumption) | omega | decide | (simp only [Xd] <;> omega)) only [↓Xa, Xb, Xc, ↓reduceIte, Nat.reduceLT, Nat.reduceEqDiff, Nat.reduceBEq, Nat.reduceLeDiff, Nat.reduceAdd, Nat.reduceMul]
  refine alloc_i fun p3 hp3 => ?_
  have n3 := hp3
  simp only [upd_none] at n3
  obtain ⟨_, _, n3⟩ := n3
  simp (disch := first | assumption | (apply Ap.symm; assumption) | omega | decide | (simp only [Xd] <;> omega)) only [fold_IntA, fold_Raw, fold_RatA, ↓Xa, Xb, Xc, ↓reduceIte, Nat.reduceLT, Nat.reduceEqDiff, Nat.reduceBEq, Nat.reduceLeDiff, Nat.reduceAdd, Nat.reduceMul]
  refine PFn.dcall (rden_fn hq' (by omega)) ?_
  simp (disch := first | assumption | (apply Ap.symm; assumption) | omega | decide | (simp only [Xd] <;> omega)) only [↓Xa, Xb, Xc, ↓reduceIte, Nat.reduceLT, Nat.reduceEqDiff, Nat.reduceBEq, Nat.reduceLeDiff, Nat.reduceAdd, Nat.reduceMul]
  refine PFn.dcall (muli_fn hp.1 (by omega) hq'.2 (by omega)) ?_
  simp (disch := first | assumption | (apply Ap.symm; assumption) | omega | decide | (simp only [Xd] <;> omega)) only [fold_Raw, fold_RatA, ↓Xa, Xb, Xc, ↓reduceIte, Nat.reduceLT, Nat.reduceEqDiff, Nat.reduceBEq, Nat.reduceLeDiff, Nat.reduceAdd, Nat.reduceMul]
  refine PFn.dcall (rden_fn hp (by omega)) ?_
  simp (disch := first | assumption | (apply Ap.symm; assumption) | omega | decide | (simp only [Xd] <;> omega)) only [fold_IntA, ↓Xa, Xb, Xc, ↓reduceIte, Nat.reduceLT, Nat.reduceEqDiff, Nat.reduceBEq, Nat.reduceLeDiff, Nat.reduceAdd, Nat.reduceMul]
  refine PFn.dcall (muli_fn hp.2 (by omega) hq'.1 (by omega)) ?_
  simp (disch := first | assumption | (apply Ap.symm; assumption) | omega | decide | (simp only [Xd] <;> omega)) only [↓Xa, Xb, Xc, ↓reduceIte, Nat.reduceLT, Nat.reduceEqDiff, Nat.reduceBEq, Nat.reduceLeDiff, Nat.reduceAdd, Nat.reduceMul]
  refine PFn.dcall (rmk_fn (hp.1.mul hq'.2) (hp.2.mul hq'.1) (by omega)) ?_
  simp (disch := first | assumption | (apply Ap.symm; assumption) | omega | decide | (simp only [Xd] <;> omega)) only [RatE, cells_RatA, fold_Raw, fold_RatA, rs101, ↓Xa, Xb, Xc, ↓reduceIte, Nat.reduceLT, Nat.reduceEqDiff, Nat.reduceBEq, Nat.reduceLeDiff, Nat.reduceAdd, Nat.reduceMul]
  simp only [ez]
  exact SetR.dropTo ((((Le.refl H).updB n1).updB n2).updB n3) (SetR.now hq)

theorem rcmp_q {p q : QQ} {k k' : Nat} (hp : RB k p) (hq' : RB k' q) (hk : k + k' ≤ 999999) : PFn Tryd.prog 103 [RatA p, RatA q] (.int .i64 (cmpQ p q)) := by
  intro H Q hq
  refine enter103 (by simp) ?_
  simp (disch := first | assumption | (apply Ap.symm; assumption) | omega | decide | (simp only [Xd] <;> omega)) only [ac103, cells_RatA, ↓Xa, Xb, Xc, ↓reduceIte, Nat.reduceLT, Nat.reduceEqDiff, Nat.reduceBEq, Nat.reduceLeDiff, Nat.reduceAdd, Nat.reduceMul]
  refine alloc_i fun p1 hp1 => ?_
  have n1 := hp1
  simp (disch := first | assumption | (apply Ap.symm; assumption) | omega | decide | (simp only [Xd] <;> omega)) only [cells_RatA, ↓Xa, Xb, Xc, ↓reduceIte, Nat.reduceLT, Nat.reduceEqDiff, Nat.reduceBEq, Nat.reduceLeDiff, Nat.reduceAdd, Nat.reduceMul]
  refine alloc_i fun p2 hp2 => ?_
  have n2 := hp2
  simp only [upd_none] at n2
  obtain ⟨_, n2⟩ := n2
  simp (disch := first | assumption | (apply Ap.symm; assumption) | omega | decide | (simp only [Xd] <;> omega)) only [fold_IntA, fold_Raw, fold_RatA, ↓Xa, Xb, Xc, ↓reduceIte, Nat.reduceLT, Nat.reduceEqDiff, Nat.reduceBEq, Nat.reduceLeDiff, Nat.reduceAdd, Nat.reduceMul]
  refine PFn.dcall (rden_fn hq' (by omega)) ?_
  simp (disch := first | assumption | (apply Ap.symm; assumption) | omega | decide | (simp only [Xd] <;> omega)) only [↓Xa, Xb, Xc, ↓reduceIte, Nat.reduceLT, Nat.reduceEqDiff, Nat.reduceBEq, Nat.reduceLeDiff, Nat.reduceAdd, Nat.reduceMul]
  refine PFn.dcall (muli_fn hp.1 (by omega) hq'.2 (by omega)) ?_
  simp (disch := first | assumption | (apply Ap.symm; assumption) | omega | decide | (simp only [Xd] <;> omega)) only [fold_IntA, fold_Raw, fold_RatA, ↓Xa, Xb, Xc, ↓reduceIte, Nat.reduceLT, Nat.reduceEqDiff, Nat.reduceBEq, Nat.reduceLeDiff, Nat.reduceAdd, Nat.reduceMul]
  refine PFn.dcall (rden_fn hp (by omega)) ?_
  simp (disch := first | assumption | (apply Ap.symm; assumption) | omega | decide | (simp only [Xd] <;> omega)) only [↓Xa, Xb, Xc, ↓reduceIte, Nat.reduceLT, Nat.reduceEqDiff, Nat.reduceBEq, Nat.reduceLeDiff, Nat.reduceAdd, Nat.reduceMul]
  refine (muli_fn hq'.1 (by omega) hp.2 (by omega)).call ?_
  simp (disch := first | assumption | (apply Ap.symm; assumption) | omega | decide | (simp only [Xd] <;> omega)) only [↓Xa, Xb, Xc, ↓reduceIte, Nat.reduceLT, Nat.reduceEqDiff, Nat.reduceBEq, Nat.reduceLeDiff, Nat.reduceAdd, Nat.reduceMul]
  refine (cmpi_fn (hp.1.mul hq'.2) (by omega) (hq'.1.mul hp.2) (by omega)).call ?_
  simp (disch := first | assumption | (apply Ap.symm; assumption) | omega | decide | (simp only [Xd] <;> omega)) only [rs103, ↓Xa, Xb, Xc, ↓reduceIte, Nat.reduceLT, Nat.reduceEqDiff, Nat.reduceBEq, Nat.reduceLeDiff, Nat.reduceAdd, Nat.reduceMul]
  exact SetR.dropTo (((Le.refl H).updB n1).updB n2) (SetR.now hq)
end Go.Proofs.YtanchgkiomfhhaaDoor.Fw

/- Decimal digits as bytes; a number's text, nine digits at a time. -/
namespace Go.Proofs.YtanchgkiomfhhaaDoor.Ma
set_option linter.unusedSimpArgs false
set_option linter.unusedVariables false

def chr (d : Nat) : UInt8 := UInt8.ofNat (48 + d)
theorem chr_nat {d : Nat} (h : d < 10) : (chr d).toNat = 48 + d := by unfold chr; rw [UInt8.toNat_ofNat']; omega
def dec (n : Nat) : List UInt8 := (digs 10 n).reverse.map chr
def wide (k n : Nat) : List UInt8 := (pad 10 n k).reverse.map chr
theorem dec_zero : dec 0 = [] := by simp [dec, digs_zero]
theorem wide_len {k n : Nat} (h : n < 10 ^ k) : (wide k n).length = k := by
  simp only [wide, List.length_map, List.length_reverse]
  exact pad_len (digs_len (by omega) k n h)
theorem dec_len {k n : Nat} (h : n < 10 ^ k) : (dec n).length ≤ k := by
  simp only [dec, List.length_map, List.length_reverse]
  exact digs_len (by omega) k n h
theorem last_append {l m : List Nat} (h : m ≠ []) : (l ++ m).getD ((l ++ m).length - 1) 0 = m.getD (m.length - 1) 0 := by
  have : 0 < m.length := List.length_pos_iff.2 h
  rw [List.getD_eq_getElem?_getD, List.getD_eq_getElem?_getD, List.length_append, List.getElem?_append_right (by omega)]
  congr 2; omega
theorem dec_app {k p m : Nat} (hp : p < 10 ^ k) (hm : 0 < m) : dec (p + 10 ^ k * m) = dec m ++ wide k p := by
  have hne : digs 10 m ≠ [] := fun e => by have := (digs_nil (B := 10) (by omega)).1 e; omega
  have hlen := pad_len (digs_len (B := 10) (by omega) k p hp)
  have e : digs 10 (p + 10 ^ k * m) = pad 10 p k ++ digs 10 m := by
    have h1 : Lim 10 (pad 10 p k ++ digs 10 m) := (pad_lim (by omega)).append (lim_digs (by omega) m)
    have h2 := digs_of (B := 10) (by omega) h1 (.inr (by rw [last_append hne]; exact digs_last (by omega) hm))
    rw [h2, val_append, pad_val (by omega), val_digs (by omega), hlen]
  simp only [dec, e, wide, List.reverse_append, List.map_append]
theorem wide_succ {j q : Nat} (h : q < 10 ^ (j + 1)) : wide (j + 1) q = chr (q / 10 ^ j) :: wide j (q % 10 ^ j) := by
  have hp : 0 < 10 ^ j := Nat.pow_pos (by omega)
  have hlt : q % 10 ^ j < 10 ^ j := Nat.mod_lt _ hp
  have hd : q / 10 ^ j < 10 := Nat.div_lt_of_lt_mul (by rw [Nat.pow_succ] at h; omega)
  have hlen := pad_len (digs_len (B := 10) (by omega) j _ hlt)
  have e : pad 10 q (j + 1) = pad 10 (q % 10 ^ j) j ++ [q / 10 ^ j] := by
    have h1 : Lim 10 (pad 10 (q % 10 ^ j) j ++ [q / 10 ^ j]) := (pad_lim (by omega)).append (Lim.one hd)
    have h2 := pad_of (B := 10) (by omega) h1
    rw [val_append, pad_val (by omega), hlen, val_one, List.length_append, hlen, Nat.mod_add_div] at h2
    exact h2.symm
  simp only [wide, e, List.reverse_append, List.map_append, List.reverse_singleton, List.map_cons, List.map_nil, List.singleton_append]
theorem wide_step {j p : Nat} : wide (j + 1) (p % 10 ^ (j + 1)) = chr (p / 10 ^ j % 10) :: wide j (p % 10 ^ j) := by
  have hp : 0 < 10 ^ (j + 1) := Nat.pow_pos (by omega)
  rw [wide_succ (Nat.mod_lt _ hp)]
  have e1 : p % 10 ^ (j + 1) / 10 ^ j = p / 10 ^ j % 10 := by rw [Nat.pow_succ, Nat.mod_mul_right_div_self]
  have e2 : p % 10 ^ (j + 1) % 10 ^ j = p % 10 ^ j := by rw [Nat.pow_succ]; exact Nat.mod_mod_of_dvd _ (Nat.dvd_mul_right _ _)
  rw [e1, e2]
theorem chr_48 {d : Nat} (h : d < 10) : (chr d = 48) ↔ d = 0 := by
  constructor
  · intro e
    have := congrArg UInt8.toNat e
    rw [chr_nat h] at this
    simp at this; omega
  · rintro rfl; rfl
theorem wide_trim {k p : Nat} : (wide k p).dropWhile (· == 48) = dec p := by
  have e : wide k p = List.replicate (k - (digs 10 p).length) 48 ++ dec p := by
    simp only [wide, pad, dec, List.reverse_append, List.map_append, List.reverse_replicate, List.map_replicate]
    rfl
  rw [e]
  have h : ∀ n (l : List UInt8), (List.replicate n 48 ++ l).dropWhile (· == 48) = l.dropWhile (· == 48) := by
    intro n
    induction n with
    | zero => intro l; simp
    | succ n ih => intro l; rw [List.replicate_succ, List.cons_append, List.dropWhile_cons]; simp [ih]
  rw [h]
  rcases Nat.eq_zero_or_pos p with hp | hp
  · subst hp; rw [dec_zero]; rfl
  · have hl := digs_last (B := 10) (by omega) hp
    have hne : digs 10 p ≠ [] := fun e => by have := (digs_nil (B := 10) (by omega)).1 e; omega
    obtain ⟨l, x, hx⟩ : ∃ l x, digs 10 p = l ++ [x] := ⟨_, _, (List.dropLast_concat_getLast hne).symm⟩
    have hx0 : x ≠ 0 := by
      rw [hx, last_append (by simp)] at hl
      simpa using hl
    have hx10 : x < 10 := lim_digs (B := 10) (by omega) p x (by rw [hx]; simp)
    have hd : dec p = chr x :: l.reverse.map chr := by simp [dec, hx]
    rw [hd, List.dropWhile_cons]
    have : (chr x == 48) = false := by
      rw [beq_eq_false_iff_ne]; exact fun h => hx0 ((chr_48 hx10).1 h)
    rw [this]; rfl

/-! ### a number, nine digits at a time -/
theorem digs_drop_pos {B n k : Nat} (hB : 2 ≤ B) (hk : k < (digs B n).length) : 0 < val B ((digs B n).drop k) := by
  have hn : 0 < n := by
    rcases Nat.eq_zero_or_pos n with h | h
    · subst h; rw [digs_zero] at hk; simp at hk
    · exact h
  have hl := digs_last hB hn
  have h1 : Lim B ((digs B n).drop k) := (lim_digs hB n).drop k
  have h2 : ((digs B n).drop k).getD (((digs B n).drop k).length - 1) 0 ≠ 0 := by
    rw [List.length_drop, List.getD_eq_getElem?_getD, List.getElem?_drop, ← List.getD_eq_getElem?_getD]
    have : k + ((digs B n).length - k - 1) = (digs B n).length - 1 := by omega
    rw [this]; exact hl
  have h3 := digs_of hB h1 (.inr h2)
  rcases Nat.eq_zero_or_pos (val B ((digs B n).drop k)) with h | h
  · rw [h, digs_zero] at h3
    have := congrArg List.length h3
    simp at this; omega
  · exact h
def decT (n : Nat) : List UInt8 := if n = 0 then [48] else dec n
theorem dec_pos {n : Nat} (h : 0 < n) : dec n ≠ [] := by
  intro e
  have : (digs 10 n) = [] := by simpa [dec] using e
  have := (digs_nil (B := 10) (by omega)).1 this
  omega
theorem piece_step {n k p : Nat} (hk : k < (digs 1000000000 n).length) (hp : p = (digs 1000000000 n).getD k 0) :
    p < 1000000000 ∧ dec (val 1000000000 ((digs 1000000000 n).drop k)) = dec (val 1000000000 ((digs 1000000000 n).drop (k + 1))) ++ (if k + 1 = (digs 1000000000 n).length then dec p else wide 9 p) := by
  have hlt : p < 1000000000 := hp ▸ (lim_digs (B := 1000000000) (by omega) n).getD (by omega) k
  refine ⟨hlt, ?_⟩
  rw [val_drop 1000000000 hk, ← hp]
  by_cases h : k + 1 = (digs 1000000000 n).length
  · rw [if_pos h, List.drop_of_length_le (by omega)]
    simp [val, dec_zero]
  · rw [if_neg h]
    have := digs_drop_pos (B := 1000000000) (n := n) (k := k + 1) (by omega) (by omega)
    exact dec_app (k := 9) hlt this
end Go.Proofs.YtanchgkiomfhhaaDoor.Ma

/- Slices held equal; strings without noughts ahead; the builder of strings. -/
namespace Go.Proofs.YtanchgkiomfhhaaDoor.Fw
set_option linter.unusedSimpArgs false
set_option linter.unusedVariables false
open Go Go.Proofs.YtanchgkiomfhhaaDoor.Ma
set_option maxRecDepth 20000

end Go.Proofs.YtanchgkiomfhhaaDoor.Fw

/- Strings: as lists of bytes; without noughts ahead; the builder of strings. -/
namespace Go.Proofs.YtanchgkiomfhhaaDoor.Fw
set_option linter.unusedSimpArgs false
set_option linter.unusedVariables false
open Go Go.Proofs.YtanchgkiomfhhaaDoor.Ma
set_option maxRecDepth 20000

def Sx (l : List UInt8) : AV := .str ⟨l.toArray⟩
theorem str_Sx {l : List UInt8} : AV.str ⟨l.toArray⟩ = Sx l := id rfl
theorem size_Sx {l : List UInt8} : (⟨l.toArray⟩ : ByteArray).size = l.length := by simp [ByteArray.size]
section
variable {K : AV → Prop} {K2 : AV → AHeap → Prop} {KD : AV → List Nat → Option (Nat × ABlk) → Prop} {l m : List UInt8} {k k' : IntKind} {H : AHeap}
theorem len_Sx : lenW true (Sx l) K = K (.int .i64 ((l.length : Nat) : Int)) := by simp only [Sx, lenW, size_Sx]
theorem idx_Sx {i : Nat} (h : i < l.length) : idxSW (Sx l) (.int k (i : Int)) K = K (.int .u8 (((l.getD i 0).toNat : Nat) : Int)) := by
  simp [Sx, idxSW, byteAt, size_Sx, h]
theorem extract_Sx {a b : Nat} : (⟨l.toArray⟩ : ByteArray).extract a b = ⟨((l.drop a).take (b - a)).toArray⟩ := by
  apply ByteArray.ext
  rw [ByteArray.data_extract]
  simp [List.extract_toArray]
theorem slc_SxL {a : Nat} (hb : a ≤ l.length) : slcSW (Sx l) (some (.int k (a : Int))) none K = K (Sx (l.drop a)) := by
  have h1 : (0 : Int) ≤ (a : Int) ∧ (a : Int) ≤ ((l.length : Nat) : Int) := by omega
  have e : (l.drop a).take (l.length - a) = l.drop a := List.take_of_length_le (by simp)
  simp [Sx, slcSW, optI, size_Sx, h1, extract_Sx, e]
theorem slc_SxH {b : Nat} (hb : b ≤ l.length) : slcSW (Sx l) none (some (.int k' (b : Int))) K = K (Sx (l.take b)) := by
  have h1 : (0 : Int) ≤ (b : Int) ∧ (b : Int) ≤ ((l.length : Nat) : Int) := by omega
  simp [Sx, slcSW, optI, size_Sx, h1, extract_Sx]
theorem beq_dec {a b : List UInt8} : (a == b) = decide (a = b) := by by_cases h : a = b <;> simp [h]
theorem eql_Sx : binW .eql (Sx l) (Sx m) K = K (.bool (decide (l = m))) := by
  simp only [Sx, binW, binStr, ByteArray.toList_eq, List.toList_toArray, beq_dec]
theorem neq_Sx : binW .neq (Sx l) (Sx m) K = K (.bool (!decide (l = m))) := by
  simp only [Sx, binW, binStr, ByteArray.toList_eq, List.toList_toArray, beq_dec]
theorem add_Sx (h : l.length + m.length ≤ 9223372036854775807) : binW .add (Sx l) (Sx m) K = K (Sx (l ++ m)) := by
  have e : (⟨l.toArray⟩ : ByteArray) ++ ⟨m.toArray⟩ = ⟨(l ++ m).toArray⟩ := by
    apply ByteArray.ext; simp
  have h' : (l.length : Int) + (m.length : Int) ≤ 9223372036854775807 := by omega
  simp [Sx, binW, binStr, size_Sx, e, h']
  intro _; exact h
theorem cells_Sx : (Sx l).cells = some [Sx l] := id rfl
theorem app_S0 {ty : Nat} (h0 : 0 < l.length) (hb : l.length ≤ 70368744177664) (kk : ∀ b, H b = none → K2 (.own b l.length 0 l.length false) (H.upd b (some (.row ty 1 (Bt l))))) : appV H ty 1 1 (.seq 0 [] true) (Sx l) K2 := .inl <| by
  have hal : (Bt l).all AV.cell = true := by
    rw [List.all_eq_true]; intro x hx
    obtain ⟨b, _, rfl⟩ := List.mem_map.1 hx; rfl
  refine ⟨rfl, ?_⟩
  show (bytesA ⟨l.toArray⟩).all AV.cell = true ∧ _
  rw [bytesA_eq, size_Sx]
  refine ⟨hal, rfl, rfl, by omega, by omega, fun e => by omega, fun _ b hb' => ?_⟩
  simpa using kk b hb'
theorem app_S1 {ty b : Nat} {t : Bool} {o : List UInt8} (hH : H b = some (.row ty 1 (Bt o))) (hb : o.length + l.length ≤ 70368744177664) (kk : K2 (.own b (o ++ l).length 0 (o ++ l).length false) (H.upd b (some (.row ty 1 (Bt (o ++ l)))))) : appV H ty 1 1 (.own b o.length 0 o.length t) (Sx l) K2 := .inl <| by
  have hal : (Bt l).all AV.cell = true := by
    rw [List.all_eq_true]; intro x hx
    obtain ⟨b, _, rfl⟩ := List.mem_map.1 hx; rfl
  refine ⟨rfl, ?_⟩
  show (bytesA ⟨l.toArray⟩).all AV.cell = true ∧ _
  rw [bytesA_eq, size_Sx]
  refine ⟨hal, ?_⟩
  dsimp only
  rw [hH]
  refine ⟨Bt_len, rfl, by omega, rfl, rfl, by omega, by omega, ?_⟩
  have e : Bt o ++ Bt l = Bt (o ++ l) := by simp [Bt]
  rw [List.length_append] at kk
  rw [Nat.mul_one, e]
  exact kk
end
theorem trimB_fn {l : List UInt8} {c : UInt8} (hl : l.length < 9223372036854775808) : PFn Tryd.prog 223 [Sx l, .int .u8 ((c.toNat : Nat) : Int)] (Sx (l.dropWhile (· == c))) := by
  intro H Q hq
  refine enter223 (by simp) ?_
  simp (disch := first | assumption | (apply Ap.symm; assumption) | omega | decide | (simp only [Xd] <;> omega)) only [ac223, ↓Xa, Xb, Xc, ↓reduceIte, Nat.reduceLT, Nat.reduceEqDiff, Nat.reduceBEq, Nat.reduceLeDiff, Nat.reduceAdd, Nat.reduceMul]
  refine W_loop (fun m : List UInt8 => ⟨[], [(0, Sx m), (1, .int .u8 ((c.toNat : Nat) : Int))], _⟩) (fun m => m.length ≤ l.length ∧ m.dropWhile (· == c) = l.dropWhile (· == c)) (fun m => m.length) l (Settle.now rfl) ⟨Nat.le_refl _, rfl⟩ ?_
  rintro m ⟨hm, h1⟩
  cases m with
  | nil =>
    simp (disch := first | assumption | (apply Ap.symm; assumption) | omega | decide | (simp only [Xd] <;> omega)) only [len_Sx, List.length_nil, ↓Xa, Xb, Xc, ↓reduceIte, Nat.reduceLT, Nat.reduceEqDiff, Nat.reduceBEq, Nat.reduceLeDiff, Nat.reduceAdd, Nat.reduceMul]
    refine Settle.now ?_
    simp (disch := first | assumption | (apply Ap.symm; assumption) | omega | decide | (simp only [Xd] <;> omega)) only [rs223, ↓Xa, Xb, Xc, ↓reduceIte, Nat.reduceLT, Nat.reduceEqDiff, Nat.reduceBEq, Nat.reduceLeDiff, Nat.reduceAdd, Nat.reduceMul]
    rw [← h1] at hq
    exact SetR.now hq
  | cons x m =>
    have hpos : 0 < m.length + 1 := Nat.succ_pos _
    have e : (x :: m).getD 0 0 = x := rfl
    have hm' : m.length + 1 ≤ l.length := hm
    rw [List.dropWhile_cons] at h1
    by_cases hx : x = c
    · have hb : (x == c) = true := by simp [hx]
      have hx' : x.toNat = c.toNat := by rw [hx]
      rw [if_pos hb] at h1
      simp (disch := first | assumption | (apply Ap.symm; assumption) | omega | decide | (simp only [Xd] <;> omega)) only [len_Sx, hpos, idx_Sx, e, hx', slc_SxL, List.drop_succ_cons, List.drop_zero, ↓Xa, Xb, Xc, ↓reduceIte, Nat.reduceLT, Nat.reduceEqDiff, Nat.reduceBEq, Nat.reduceLeDiff, Nat.reduceAdd, Nat.reduceMul]
      exact Settle.now ⟨m, by simp, ⟨by omega, h1⟩, rfl⟩
    · have hb : ¬ (x == c) = true := by simp [hx]
      have hx' : ¬ x.toNat = c.toNat := fun h => hx (UInt8.toNat_inj.1 h)
      rw [if_neg hb] at h1
      simp (disch := first | assumption | (apply Ap.symm; assumption) | omega | decide | (simp only [Xd] <;> omega)) only [len_Sx, hpos, idx_Sx, e, hx', ↓Xa, Xb, Xc, ↓reduceIte, Nat.reduceLT, Nat.reduceEqDiff, Nat.reduceBEq, Nat.reduceLeDiff, Nat.reduceAdd, Nat.reduceMul]
      refine Settle.now ?_
      simp (disch := first | assumption | (apply Ap.symm; assumption) | omega | decide | (simp only [Xd] <;> omega)) only [rs223, ↓Xa, Xb, Xc, ↓reduceIte, Nat.reduceLT, Nat.reduceEqDiff, Nat.reduceBEq, Nat.reduceLeDiff, Nat.reduceAdd, Nat.reduceMul]
      rw [← h1] at hq
      exact SetR.now hq
theorem trimL_fn {l : List UInt8} {c : UInt8} (hl : l.length < 9223372036854775808) (hc : c.toNat < 128) : PFn Tryd.prog 213 [Sx l, Sx [c]] (Sx (l.dropWhile (· == c))) := by
  intro H Q hq
  refine enter213 (by simp) ?_
  have e : ([c] : List UInt8).getD 0 0 = c := rfl
  have h1 : ([c] = ([] : List UInt8)) = False := by simp
  have h2 : 0 < ([c] : List UInt8).length := by simp
  cases l with
  | nil =>
    simp (disch := first | assumption | (apply Ap.symm; assumption) | omega | decide | (simp only [Xd] <;> omega)) only [ac213, str_Sx, eql_Sx, rs213, ↓Xa, Xb, Xc, ↓reduceIte, Nat.reduceLT, Nat.reduceEqDiff, Nat.reduceBEq, Nat.reduceLeDiff, Nat.reduceAdd, Nat.reduceMul]
    exact SetR.now hq
  | cons x l =>
    have h3 : (x :: l = ([] : List UInt8)) = False := by simp
    simp (disch := first | assumption | (apply Ap.symm; assumption) | omega | decide | (simp only [Xd] <;> omega)) only [ac213, str_Sx, eql_Sx, h1, h3, len_Sx, idx_Sx, h2, e, hc, ↓Xa, Xb, Xc, ↓reduceIte, Nat.reduceLT, Nat.reduceEqDiff, Nat.reduceBEq, Nat.reduceLeDiff, Nat.reduceAdd, Nat.reduceMul]
    refine (trimB_fn hl).call ?_
    simp (disch := first | assumption | (apply Ap.symm; assumption) | omega | decide | (simp only [Xd] <;> omega)) only [rs213, ↓Xa, Xb, Xc, ↓reduceIte, Nat.reduceLT, Nat.reduceEqDiff, Nat.reduceBEq, Nat.reduceLeDiff, Nat.reduceAdd, Nat.reduceMul]
    exact SetR.now hq
end Go.Proofs.YtanchgkiomfhhaaDoor.Fw

/- The builder of strings. -/
namespace Go.Proofs.YtanchgkiomfhhaaDoor.Fw
set_option linter.unusedSimpArgs false
set_option linter.unusedVariables false
open Go Go.Proofs.YtanchgkiomfhhaaDoor.Ma
set_option maxRecDepth 20000

theorem check_new {H : AHeap} {p : Nat} {v : AV} {K : AV → AHeap → Prop} (hH : H p = some (.row 234 0 [.nilP, v])) (k : K (.tup []) (H.upd p (some (.row 234 0 [.ptr p 2 0, v])))) : Run Tryd.prog 215 [.ptr p 2 0] H K := by
  refine enter215 (by simp) ?_
  simp (disch := first | assumption | (apply Ap.symm; assumption) | omega | decide | (simp only [Xd] <;> omega)) only [ac215, hH, rs215, ↓Xa, Xb, Xc, ↓reduceIte, Nat.reduceLT, Nat.reduceEqDiff, Nat.reduceBEq, Nat.reduceLeDiff, Nat.reduceAdd, Nat.reduceMul]
  exact SetR.now k
theorem check_used {H : AHeap} {p : Nat} {v : AV} {K : AV → AHeap → Prop} (hH : H p = some (.row 234 0 [.ptr p 2 0, v])) (k : K (.tup []) H) : Run Tryd.prog 215 [.ptr p 2 0] H K := by
  refine enter215 (by simp) ?_
  simp (disch := first | assumption | (apply Ap.symm; assumption) | omega | decide | (simp only [Xd] <;> omega)) only [ac215, hH, rs215, ↓Xa, Xb, Xc, ↓reduceIte, Nat.reduceLT, Nat.reduceEqDiff, Nat.reduceBEq, Nat.reduceLeDiff, Nat.reduceAdd, Nat.reduceMul]
  exact SetR.now k
def bld (p : Nat) (l : List UInt8) (H0 H : AHeap) : Prop :=
  (l = [] ∧ (H = H0.upd p (some (.row 234 0 [.nilP, .seq 0 [] true])) ∨ H = H0.upd p (some (.row 234 0 [.ptr p 2 0, .seq 0 [] true])))) ∨
  (l ≠ [] ∧ ∃ bb, H0 bb = none ∧ Ap bb p ∧ H = (H0.upd p (some (.row 234 0 [.ptr p 2 0, .own bb l.length 0 l.length false]))).upd bb (some (.row 5 1 (Bt l))))
theorem bld_new {p : Nat} {H : AHeap} : bld p [] H (H.upd p (some (.row 234 0 [.nilP, .seq 0 [] true]))) := .inl ⟨rfl, .inl rfl⟩
theorem bld_upd {p q : Nat} {l : List UInt8} {H0 H : AHeap} {x : ABlk} (h : bld p l H0 H) (hq : H q = none) : Ap q p ∧ H0 q = none ∧ bld p l (H0.upd q (some x)) (H.upd q (some x)) := by
  rcases h with ⟨rfl, rfl | rfl⟩ | ⟨h0, bb, hbb, hap, rfl⟩
  · obtain ⟨a, b⟩ := upd_none.1 hq
    exact ⟨a, b, .inl ⟨rfl, .inl (upd_comm _ _ _ (Ap.symm a))⟩⟩
  · obtain ⟨a, b⟩ := upd_none.1 hq
    exact ⟨a, b, .inl ⟨rfl, .inr (upd_comm _ _ _ (Ap.symm a))⟩⟩
  · obtain ⟨a1, a2, b⟩ : Ap q bb ∧ Ap q p ∧ H0 q = none := by simpa only [upd_none] using hq
    refine ⟨a2, b, .inr ⟨h0, bb, ?_, hap, ?_⟩⟩
    · rw [upd_otherA (Ap.symm a1)]; exact hbb
    · rw [upd_comm _ _ _ (Ap.symm a1), upd_comm (b := p) (b' := q) _ _ _ (Ap.symm a2)]
theorem wstr_run {p : Nat} {l m : List UInt8} {H0 H : AHeap} {K : AV → AHeap → Prop} (hb : bld p l H0 H) (hl : l.length + m.length ≤ 70368744177664) (hm : 0 < m.length)
    (k : ∀ H', bld p (l ++ m) H0 H' → K (.tup [.int .i64 ((m.length : Nat) : Int), .nilI]) H') : Run Tryd.prog 204 [.ptr p 2 0, Sx m] H K := by
  refine enter204 (by simp) ?_
  simp (disch := first | assumption | (apply Ap.symm; assumption) | omega | decide | (simp only [Xd] <;> omega)) only [ac204, ↓Xa, Xb, Xc, ↓reduceIte, Nat.reduceLT, Nat.reduceEqDiff, Nat.reduceBEq, Nat.reduceLeDiff, Nat.reduceAdd, Nat.reduceMul]
  have hne : ∀ {x : List UInt8}, x ++ m ≠ [] := fun {x} e => by have := congrArg List.length e; rw [List.length_append, List.length_nil] at this; omega
  have first : ∀ {M : AHeap}, M = H0.upd p (some (.row 234 0 [.ptr p 2 0, .seq 0 [] true])) → l = [] →
      W Tryd.prog (sndC (sndC ac204)) (retN rs204 K) ⟨[], [(0, .ptr p 2 0), (1, Sx m)], M⟩ := by
    rintro M rfl rfl
    simp (disch := first | assumption | (apply Ap.symm; assumption) | omega | decide | (simp only [Xd] <;> omega)) only [sndC, ac204, ↓Xa, Xb, Xc, ↓reduceIte, Nat.reduceLT, Nat.reduceEqDiff, Nat.reduceBEq, Nat.reduceLeDiff, Nat.reduceAdd, Nat.reduceMul]
    refine app_S0 hm (by simp at hl; omega) fun b hb => ?_
    obtain ⟨a1, a2⟩ := upd_none.1 hb
    simp (disch := first | assumption | (apply Ap.symm; assumption) | omega | decide | (simp only [Xd] <;> omega)) only [len_Sx, rs204, ↓Xa, Xb, Xc, ↓reduceIte, Nat.reduceLT, Nat.reduceEqDiff, Nat.reduceBEq, Nat.reduceLeDiff, Nat.reduceAdd, Nat.reduceMul]
    refine SetR.now (k _ (.inr ⟨by simpa using hne (x := []), b, a2, a1, ?_⟩))
    simp only [List.nil_append]
  rcases hb with ⟨rfl, rfl | rfl⟩ | ⟨h0, bb, hbb, hap, rfl⟩
  · refine run_call (check_new (upd_same _ _ _) ?_)
    have f := first rfl rfl
    simp (disch := first | assumption | (apply Ap.symm; assumption) | omega | decide | (simp only [Xd] <;> omega)) only [sndC, ac204, ↓Xa, Xb, Xc, ↓reduceIte, Nat.reduceLT, Nat.reduceEqDiff, Nat.reduceBEq, Nat.reduceLeDiff, Nat.reduceAdd, Nat.reduceMul] at f
    simp (disch := first | assumption | (apply Ap.symm; assumption) | omega | decide | (simp only [Xd] <;> omega)) only [↓Xa, Xb, Xc, ↓reduceIte, Nat.reduceLT, Nat.reduceEqDiff, Nat.reduceBEq, Nat.reduceLeDiff, Nat.reduceAdd, Nat.reduceMul]
    exact f
  · refine run_call (check_used (upd_same _ _ _) ?_)
    have f := first rfl rfl
    simp (disch := first | assumption | (apply Ap.symm; assumption) | omega | decide | (simp only [Xd] <;> omega)) only [sndC, ac204, ↓Xa, Xb, Xc, ↓reduceIte, Nat.reduceLT, Nat.reduceEqDiff, Nat.reduceBEq, Nat.reduceLeDiff, Nat.reduceAdd, Nat.reduceMul] at f
    simp (disch := first | assumption | (apply Ap.symm; assumption) | omega | decide | (simp only [Xd] <;> omega)) only [↓Xa, Xb, Xc, ↓reduceIte, Nat.reduceLT, Nat.reduceEqDiff, Nat.reduceBEq, Nat.reduceLeDiff, Nat.reduceAdd, Nat.reduceMul]
    exact f
  · refine run_call (check_used (v := .own bb l.length 0 l.length false) (by rw [upd_otherA (Ap.symm hap), upd_same]) ?_)
    simp (disch := first | assumption | (apply Ap.symm; assumption) | omega | decide | (simp only [Xd] <;> omega)) only [↓Xa, Xb, Xc, ↓reduceIte, Nat.reduceLT, Nat.reduceEqDiff, Nat.reduceBEq, Nat.reduceLeDiff, Nat.reduceAdd, Nat.reduceMul]
    refine app_S1 (upd_same _ _ _) hl ?_
    simp (disch := first | assumption | (apply Ap.symm; assumption) | omega | decide | (simp only [Xd] <;> omega)) only [len_Sx, rs204, ↓Xa, Xb, Xc, ↓reduceIte, Nat.reduceLT, Nat.reduceEqDiff, Nat.reduceBEq, Nat.reduceLeDiff, Nat.reduceAdd, Nat.reduceMul]
    refine SetR.now (k _ (.inr ⟨hne, bb, hbb, hap, ?_⟩))
    simp only [List.length_append]
theorem bstr_run {p : Nat} {l : List UInt8} {H0 H : AHeap} {K : AV → AHeap → Prop} (hb : bld p l H0 H) (hp : H0 p = none) (hl : l.length ≤ 70368744177664) (h0 : 0 < l.length) (k : ∀ H', Le H0 H' → K (Sx l) H') : Run Tryd.prog 205 [.ptr p 2 0] H K := by
  refine enter205 (by simp) ?_
  rcases hb with ⟨rfl, _⟩ | ⟨h1, bb, hbb, hap, rfl⟩
  · simp at h0
  · have hbl : (Bt l).length = l.length := Bt_len
    simp (disch := first | assumption | (apply Ap.symm; assumption) | omega | decide | (simp only [Xd] <;> omega)) only [ac205, h0, rs205, ↓Xa, Xb, Xc, ↓reduceIte, Nat.reduceLT, Nat.reduceEqDiff, Nat.reduceBEq, Nat.reduceLeDiff, Nat.reduceAdd, Nat.reduceMul]
    exact SetR.now (k _ (((Le.refl H0).updB hp).updB hbb))
end Go.Proofs.YtanchgkiomfhhaaDoor.Fw

/- A number's decimal text, as package limb writes it. -/
namespace Go.Proofs.YtanchgkiomfhhaaDoor.Fw
set_option linter.unusedSimpArgs false
set_option linter.unusedVariables false
open Go Go.Proofs.YtanchgkiomfhhaaDoor.Ma
set_option maxRecDepth 20000

theorem bld_drop {p q : Nat} {l : List UInt8} {H0 H : AHeap} {x : ABlk} (h : bld p l (H0.upd q (some x)) H) (hqp : Ap q p) (hq : H0 q = none) : ∃ H', bld p l H0 H' ∧ Le H' H := by
  have up : ∀ {M : AHeap} {r : Option ABlk}, M = (H0.upd q (some x)).upd p r → Le (H0.upd p r) M := fun {M r} e => by
    rw [e, upd_comm _ _ _ hqp]
    exact (Le.refl _).updB (by rw [upd_otherA hqp]; exact hq)
  rcases h with ⟨rfl, rfl | rfl⟩ | ⟨h0, bb, hbb, hap, rfl⟩
  · exact ⟨_, .inl ⟨rfl, .inl rfl⟩, up rfl⟩
  · exact ⟨_, .inl ⟨rfl, .inr rfl⟩, up rfl⟩
  · obtain ⟨a1, a2⟩ := upd_none.1 hbb
    refine ⟨_, .inr ⟨h0, bb, a2, hap, rfl⟩, ?_⟩
    rw [upd_comm _ _ _ hqp, upd_comm (b := q) (b' := bb) _ _ _ (Ap.symm a1)]
    exact (Le.refl _).updB (by rw [upd_otherA (Ap.symm a1), upd_otherA hqp]; exact hq)
theorem stP_Bt {H : AHeap} {K2 : AV → AHeap → Prop} {b L off ty es c : Nat} {l : List UInt8} (hL : l.length = L) (h : off < L) (hc : c < 256) : stP H 1 b L off K2 (some [.int .u8 (c : Int)]) (some (.row ty es (Bt l))) = K2 .bot (H.upd b (some (.row ty es (Bt (l.set off (UInt8.ofNat c)))))) := by
  subst hL
  have h1 : off + 1 ≤ l.length := h
  have e : splice (Bt l) off [.int .u8 (c : Int)] = Bt (l.set off (UInt8.ofNat c)) := by
    have e2 : (AV.int .u8 (c : Int)) = .int .u8 (((UInt8.ofNat c).toNat : Nat) : Int) := by
      rw [UInt8.toNat_ofNat', Nat.mod_eq_of_lt hc]
    rw [e2]
    unfold splice Bt
    rw [List.map_set, List.set_eq_take_append_cons_drop]
    simp [h]
  simp [stP, Bt_len, h1, e]
def TxI (p j : Nat) (cells : List UInt8) (x : Nat) : Prop := j ≤ 9 ∧ cells = List.replicate j 0 ++ wide (9 - j) (p % 10 ^ (9 - j)) ∧ x = p / 10 ^ (9 - j)
theorem TxI.len {p j x : Nat} {cells : List UInt8} (h : TxI p j cells x) : cells.length = 9 := by
  obtain ⟨h1, rfl, _⟩ := h
  rw [List.length_append, List.length_replicate, wide_len (Nat.mod_lt _ (Nat.pow_pos (by omega)))]; omega
theorem TxI.step {p j x : Nat} {cells : List UInt8} (h : TxI p (j + 1) cells x) : TxI p j (cells.set j (UInt8.ofNat (48 + x % 10))) (x / 10) := by
  obtain ⟨h1, rfl, rfl⟩ := h
  have e9 : 9 - j = (9 - (j + 1)) + 1 := by omega
  refine ⟨by omega, ?_, ?_⟩
  · rw [e9, wide_step]
    rw [List.replicate_succ', List.append_assoc, List.set_append_right _ _ (by simp)]
    simp [chr]
  · rw [e9, Nat.pow_succ, Nat.div_div_eq_div_mul]

theorem text_fn {l : List Nat} (t : Bool) (hl : Lim 4294967296 l) (hn : l.length ≤ 1099511627776) : PFn Tryd.prog 190 [LS l t] (Sx (decT (val 4294967296 l))) := by
  intro H Q hq
  have hP : (2 : Nat) ≤ 1000000000 := by omega
  refine enter190 (by simp) ?_
  simp (disch := first | assumption | (apply Ap.symm; assumption) | omega | decide | (simp only [Xd] <;> omega)) only [ac190, str_Sx, ↓Xa, Xb, Xc, ↓reduceIte, Nat.reduceLT, Nat.reduceEqDiff, Nat.reduceBEq, Nat.reduceLeDiff, Nat.reduceAdd, Nat.reduceMul]
  refine (norm_fn t (by omega)).call ?_
  rw [tr_digs (by omega) hl]
  have hN : val 4294967296 l < 4294967296 ^ l.length := val_lt hl
  have hp2 : (digs 1000000000 (val 4294967296 l)).length ≤ 2 * l.length := digs_len hP _ _ (Nat.lt_of_lt_of_le hN (by rw [Nat.pow_mul]; exact Nat.pow_le_pow_left (by omega) _))
  have hdl : (dec (val 4294967296 l)).length ≤ 10 * l.length := dec_len (Nat.lt_of_lt_of_le hN (by rw [Nat.pow_mul]; exact Nat.pow_le_pow_left (by omega) _))
  generalize hNe : val 4294967296 l = N at *
  simp (disch := first | assumption | (apply Ap.symm; assumption) | omega | decide | (simp only [Xd] <;> omega)) only [↓Xa, Xb, Xc, ↓reduceIte, Nat.reduceLT, Nat.reduceEqDiff, Nat.reduceBEq, Nat.reduceLeDiff, Nat.reduceAdd, Nat.reduceMul]
  refine W_loop (fun s : List Nat × AV × AHeap × Nat => ⟨[], [(3, s.2.1), (4, LS (digs 4294967296 s.2.2.2) true)], s.2.2.1⟩) (fun s => grow H 172 s.1 s.2.1 s.2.2.1 ∧ digs 1000000000 N = s.1 ++ digs 1000000000 s.2.2.2 ∧ s.2.2.2 ≤ N) (fun s => s.2.2.2)
    ([], .seq 0 [] true, H, N) (Settle.now rfl) ⟨grow_nil, rfl, Nat.le_refl _⟩ ?_
  rintro ⟨done, x, G, n⟩ ⟨hg, he, hle⟩
  dsimp only at hg he hle ⊢
  have hdn : (digs 4294967296 n).length ≤ l.length := digs_len (by omega) _ _ (Nat.lt_of_le_of_lt hle (hNe ▸ hN))
  have hz := digs_len0 (B := 4294967296) (n := n) (by omega)
  by_cases hn0 : n = 0
  · have h1 : (digs 4294967296 n).length = 0 := by rw [hz]; exact hn0
    simp (disch := first | assumption | (apply Ap.symm; assumption) | omega | decide | (simp only [Xd] <;> omega)) only [h1, ↓Xa, Xb, Xc, ↓reduceIte, Nat.reduceLT, Nat.reduceEqDiff, Nat.reduceBEq, Nat.reduceLeDiff, Nat.reduceAdd, Nat.reduceMul]
    refine Settle.grown 3 rfl hg (Settle.now ?_)
    rw [hn0, digs_zero, List.append_nil] at he
    subst he
    have hlim := lim_digs hP N
    have hdig := fun k p => piece_step (n := N) (k := k) (p := p)
    have hv : val 1000000000 (digs 1000000000 N) = N := val_digs hP N
    have hlast := digs_last (B := 1000000000) (n := N) hP
    have hnil := digs_len0 (B := 1000000000) (n := N) hP
    generalize digs 1000000000 N = ps at *
    by_cases hp0 : ps.length = 0
    · rw [hnil] at hp0
      have hL : ps.length = 0 := by rw [hnil]; exact hp0
      simp (disch := first | assumption | (apply Ap.symm; assumption) | omega | decide | (simp only [Xd] <;> omega)) only [hL, str_Sx, rs190, ↓Xa, Xb, Xc, ↓reduceIte, Nat.reduceLT, Nat.reduceEqDiff, Nat.reduceBEq, Nat.reduceLeDiff, Nat.reduceAdd, Nat.reduceMul]
      have e : decT N = [48] := by rw [hp0]; rfl
      rw [e] at hq
      exact SetR.now hq
    · have hN0 : 0 < N := by rcases Nat.eq_zero_or_pos N with h | h
                             · exact absurd (hnil ▸ h) hp0
                             · exact h
      have eT : decT N = dec N := by unfold decT; rw [if_neg (by omega)]
      rw [eT] at hq
      obtain ⟨L, hL⟩ : ∃ L, ps.length = L + 1 := ⟨ps.length - 1, by omega⟩
      have hLp : (0 < L + 1) = True := by simp
      have hL0 : (L + 1 = 0) = False := by simp
      simp (disch := first | assumption | (apply Ap.symm; assumption) | omega | decide | (simp only [Xd] <;> omega)) only [hL, hL0, ↓Xa, Xb, Xc, ↓reduceIte, Nat.reduceLT, Nat.reduceEqDiff, Nat.reduceBEq, Nat.reduceLeDiff, Nat.reduceAdd, Nat.reduceMul]
      refine alloc_i fun p hp => ?_
      simp (disch := first | assumption | (apply Ap.symm; assumption) | omega | decide | (simp only [Xd] <;> omega)) only [hL, dn_succ, ↓Xa, Xb, Xc, ↓reduceIte, Nat.reduceLT, Nat.reduceEqDiff, Nat.reduceBEq, Nat.reduceLeDiff, Nat.reduceAdd, Nat.reduceMul]
      refine W_atH fun M0 hM0 => ?_
      refine W_loop (fun s : Nat × AHeap => ⟨[], [(3, LS ps false), (8, .ptr p 2 0), (9, .int .i64 (dn s.1))], s.2⟩) (fun s => s.1 ≤ ps.length ∧ bld p (dec (val 1000000000 (ps.drop s.1))) H s.2) (fun s => s.1) (L + 1, M0) (Settle.now rfl) ⟨by dsimp only; omega, ?_⟩ ?_
      · dsimp only
        rw [List.drop_of_length_le (by omega), show val 1000000000 [] = 0 from rfl, dec_zero, hM0]
        exact bld_new
      rintro ⟨k, M⟩ ⟨hk, hb⟩
      dsimp only at hk hb ⊢
      cases k with
      | zero =>
        simp (disch := first | assumption | (apply Ap.symm; assumption) | omega | decide | (simp only [Xd] <;> omega)) only [dn_zero, ↓Xa, Xb, Xc, ↓reduceIte, Nat.reduceLT, Nat.reduceEqDiff, Nat.reduceBEq, Nat.reduceLeDiff, Nat.reduceAdd, Nat.reduceMul]
        refine Settle.now ?_
        rw [List.drop_zero, hv] at hb
        simp (disch := first | assumption | (apply Ap.symm; assumption) | omega | decide | (simp only [Xd] <;> omega)) only [↓Xa, Xb, Xc, ↓reduceIte, Nat.reduceLT, Nat.reduceEqDiff, Nat.reduceBEq, Nat.reduceLeDiff, Nat.reduceAdd, Nat.reduceMul]
        have hd0 : 0 < (dec N).length := List.length_pos_iff.2 (dec_pos hN0)
        refine run_call (bstr_run hb hp (by omega) hd0 fun H' hH' => ?_)
        simp (disch := first | assumption | (apply Ap.symm; assumption) | omega | decide | (simp only [Xd] <;> omega)) only [rs190, ↓Xa, Xb, Xc, ↓reduceIte, Nat.reduceLT, Nat.reduceEqDiff, Nat.reduceBEq, Nat.reduceLeDiff, Nat.reduceAdd, Nat.reduceMul]
        exact SetR.dropTo hH' (SetR.now hq)
      | succ k =>
        obtain ⟨hlt, hstep⟩ := hdig k _ (by omega) rfl
        have hlt2 : ps.getD k 0 < 1000000000 := hlt
        simp (disch := first | assumption | (apply Ap.symm; assumption) | omega | decide | (simp only [Xd] <;> omega)) only [dn_succ, hL, ↓Xa, Xb, Xc, ↓reduceIte, Nat.reduceLT, Nat.reduceEqDiff, Nat.reduceBEq, Nat.reduceLeDiff, Nat.reduceAdd, Nat.reduceMul]
        refine alloc_i fun q hq' => ?_
        generalize hpk : ps.getD k 0 = pk at *
        simp (disch := first | assumption | (apply Ap.symm; assumption) | omega | decide | (simp only [Xd] <;> omega)) only [hpk, dn_succ, hL, ↓Xa, Xb, Xc, ↓reduceIte, Nat.reduceLT, Nat.reduceEqDiff, Nat.reduceBEq, Nat.reduceLeDiff, Nat.reduceAdd, Nat.reduceMul]
        refine W_loop (fun s : Nat × List UInt8 × Nat => ⟨[], [(3, LS ps false), (8, .ptr p 2 0), (9, .int .i64 (k : Nat)), (10, .ptr q 9 0), (11, .int .u32 (s.2.2 : Nat)), (12, .int .i64 (dn s.1))], M.upd q (some (.row 248 1 (Bt s.2.1)))⟩)
          (fun s => TxI pk s.1 s.2.1 s.2.2) (fun s => s.1) (9, List.replicate 9 0, pk) (Settle.now rfl) ⟨Nat.le_refl _, by simp [wide, pad, digs_zero, Nat.mod_one], by simp⟩ ?_
        rintro ⟨j, cells, x⟩ hx
        dsimp only at hx ⊢
        have hcl := hx.len
        have hx32 : x < 4294967296 := by
          have := hx.2.2
          have := Nat.div_le_self pk (10 ^ (9 - j))
          omega
        cases j with
        | zero =>
          have ecells : cells = wide 9 pk := by
            rw [hx.2.1]; simp [Nat.mod_eq_of_lt hlt2]
          have htk : (Bt cells).take 9 = Bt cells := List.take_of_length_le (by rw [Bt_len]; omega)
          have hbl : (Bt cells).length = 9 := by rw [Bt_len]; exact hcl
          simp (disch := first | assumption | (apply Ap.symm; assumption) | omega | decide | (simp only [Xd] <;> omega)) only [dn_zero, ↓Xa, Xb, Xc, ↓reduceIte, Nat.reduceLT, Nat.reduceEqDiff, Nat.reduceBEq, Nat.reduceLeDiff, Nat.reduceAdd, Nat.reduceMul]
          refine Settle.now ?_
          simp (disch := first | assumption | (apply Ap.symm; assumption) | omega | decide | (simp only [Xd] <;> omega)) only [htk, str_Sx, hL, dn_succ, ↓Xa, Xb, Xc, ↓reduceIte, Nat.reduceLT, Nat.reduceEqDiff, Nat.reduceBEq, Nat.reduceLeDiff, Nat.reduceAdd, Nat.reduceMul]
          refine ⟨by decide, ?_⟩
          obtain ⟨a1, a2, w0⟩ := bld_upd (x := .row 248 1 (Bt cells)) hb hq'
          have fin : ∀ (m : List UInt8) (M' : AHeap), bld p (dec (val 1000000000 (ps.drop (k + 1))) ++ m) (H.upd q (some (.row 248 1 (Bt cells)))) M' → dec (val 1000000000 (ps.drop k)) = dec (val 1000000000 (ps.drop (k + 1))) ++ m →
              Settle (fun s' => ∃ x' : Nat × AHeap, x'.1 < k + 1 ∧ (x'.1 ≤ L + 1 ∧ bld p (dec (val 1000000000 (ps.drop x'.1))) H x'.2) ∧ s' = ⟨[], [(3, LS ps false), (8, .ptr p 2 0), (9, .int .i64 (dn x'.1))], x'.2⟩) ⟨[], [(3, LS ps false), (8, .ptr p 2 0), (9, .int .i64 (dn k))], M'⟩ := fun m M' hb' e => by
            obtain ⟨M'', h1, h2⟩ := bld_drop hb' a1 a2
            exact Settle.dropTo h2 (Settle.now ⟨(k, M''), Nat.lt_succ_self k, ⟨by dsimp only; omega, by dsimp only; rw [e]; exact h1⟩, rfl⟩)
          have hbd : (dec (val 1000000000 (ps.drop (k + 1)))).length ≤ 9 * ps.length := by
            refine dec_len (Nat.lt_of_lt_of_le (val_lt (hlim.drop (k + 1))) ?_)
            rw [show (1000000000 : Nat) = 10 ^ 9 from rfl, ← Nat.pow_mul]
            exact Nat.pow_le_pow_right (by omega) (Nat.mul_le_mul_left _ (by simp))
          by_cases hkL : k = L
          · rw [if_pos (by omega)] at hstep
            have hpk0 : pk ≠ 0 := by
              have := hlast hN0
              rwa [hL, Nat.add_sub_cancel, ← hkL, hpk] at this
            have hm0 : 0 < (dec pk).length := List.length_pos_iff.2 (dec_pos (by omega))
            have hm9 : (dec pk).length ≤ 9 := dec_len (k := 9) hlt2
            have hd1 : decide (k = L + 1 - 1) = true := by simp [hkL]
            simp (disch := first | assumption | (apply Ap.symm; assumption) | omega | decide | (simp only [Xd] <;> omega)) only [hd1, ↓Xa, Xb, Xc, ↓reduceIte, Nat.reduceLT, Nat.reduceEqDiff, Nat.reduceBEq, Nat.reduceLeDiff, Nat.reduceAdd, Nat.reduceMul]
            refine (trimL_fn (c := 48) (l := cells) (by omega) (by decide)).call ?_
            rw [ecells, wide_trim, ← ecells]
            simp (disch := first | assumption | (apply Ap.symm; assumption) | omega | decide | (simp only [Xd] <;> omega)) only [↓Xa, Xb, Xc, ↓reduceIte, Nat.reduceLT, Nat.reduceEqDiff, Nat.reduceBEq, Nat.reduceLeDiff, Nat.reduceAdd, Nat.reduceMul]
            refine run_call (wstr_run w0 (by omega) hm0 fun M' hM' => ?_)
            simp (disch := first | assumption | (apply Ap.symm; assumption) | omega | decide | (simp only [Xd] <;> omega)) only [↓Xa, Xb, Xc, ↓reduceIte, Nat.reduceLT, Nat.reduceEqDiff, Nat.reduceBEq, Nat.reduceLeDiff, Nat.reduceAdd, Nat.reduceMul]
            exact fin _ _ hM' hstep
          · rw [if_neg (by omega)] at hstep
            rw [← ecells] at hstep
            have hd1 : decide (k = L + 1 - 1) = false := by simp [hkL]
            simp (disch := first | assumption | (apply Ap.symm; assumption) | omega | decide | (simp only [Xd] <;> omega)) only [hd1, ↓Xa, Xb, Xc, ↓reduceIte, Nat.reduceLT, Nat.reduceEqDiff, Nat.reduceBEq, Nat.reduceLeDiff, Nat.reduceAdd, Nat.reduceMul]
            refine run_call (wstr_run w0 (by omega) (by omega) fun M' hM' => ?_)
            simp (disch := first | assumption | (apply Ap.symm; assumption) | omega | decide | (simp only [Xd] <;> omega)) only [↓Xa, Xb, Xc, ↓reduceIte, Nat.reduceLT, Nat.reduceEqDiff, Nat.reduceBEq, Nat.reduceLeDiff, Nat.reduceAdd, Nat.reduceMul]
            exact fin _ _ hM' hstep
        | succ j =>
          have hj : j < 9 := by have := hx.1; omega
          have hbl : (Bt cells).length = 9 := by rw [Bt_len]; exact hcl
          have hd : x % 10 < 10 := Nat.mod_lt _ (by omega)
          simp (disch := first | assumption | (apply Ap.symm; assumption) | omega | decide | (simp only [Xd] <;> omega)) only [dn_succ, stP_Bt, ↓Xa, Xb, Xc, ↓reduceIte, Nat.reduceLT, Nat.reduceEqDiff, Nat.reduceBEq, Nat.reduceLeDiff, Nat.reduceAdd, Nat.reduceMul]
          exact ⟨by omega, by omega, Settle.now ⟨(j, _, x / 10), Nat.lt_succ_self j, hx.step, rfl⟩⟩
  · have h1 : 0 < (digs 4294967296 n).length := by
      have : ¬ (digs 4294967296 n).length = 0 := by rw [hz]; exact hn0
      omega
    simp (disch := first | assumption | (apply Ap.symm; assumption) | omega | decide | (simp only [Xd] <;> omega)) only [h1, ↓Xa, Xb, Xc, ↓reduceIte, Nat.reduceLT, Nat.reduceEqDiff, Nat.reduceBEq, Nat.reduceLeDiff, Nat.reduceAdd, Nat.reduceMul]
    refine (divsmall_fn (d := 1000000000) true (lim_digs (by omega) n) (by omega) (by omega) (by omega)).call ?_
    rw [val_digs (by omega)]
    simp (disch := first | assumption | (apply Ap.symm; assumption) | omega | decide | (simp only [Xd] <;> omega)) only [↓Xa, Xb, Xc, ↓reduceIte, Nat.reduceLT, Nat.reduceEqDiff, Nat.reduceBEq, Nat.reduceLeDiff, Nat.reduceAdd, Nat.reduceMul]
    have hlen := congrArg List.length he
    rw [List.length_append] at hlen
    refine app_grow (m := [n % 1000000000]) hg rfl (by simp) (by simp; omega) fun x' H2 hg2 => ?_
    simp (disch := first | assumption | (apply Ap.symm; assumption) | omega | decide | (simp only [Xd] <;> omega)) only [↓Xa, Xb, Xc, ↓reduceIte, Nat.reduceLT, Nat.reduceEqDiff, Nat.reduceBEq, Nat.reduceLeDiff, Nat.reduceAdd, Nat.reduceMul]
    refine Settle.now ⟨(done ++ [n % 1000000000], x', H2, n / 1000000000), Nat.div_lt_self (by omega) (by omega), ⟨hg2, ?_, Nat.le_trans (Nat.div_le_self _ _) hle⟩, rfl⟩
    dsimp only
    rw [he, digs_pos hP (show 0 < n by omega), List.append_assoc]; rfl
end Go.Proofs.YtanchgkiomfhhaaDoor.Fw

/- The laws' first question: are numbers added, multiplied, divided, told? -/
namespace Go.Proofs.YtanchgkiomfhhaaDoor.Fw
set_option linter.unusedSimpArgs false
set_option linter.unusedVariables false
open Go Go.Proofs.YtanchgkiomfhhaaDoor.Ma
set_option maxRecDepth 20000

end Go.Proofs.YtanchgkiomfhhaaDoor.Fw

/- What package limb computes, in terms of numbers. -/
namespace Go.Proofs.YtanchgkiomfhhaaDoor.Fw
set_option linter.unusedSimpArgs false
set_option linter.unusedVariables false
open Go Go.Proofs.YtanchgkiomfhhaaDoor.Ma
set_option maxRecDepth 20000

structure Nm (l : List Nat) (n k : Nat) : Prop where
  lim : Lim 4294967296 l
  val : val 4294967296 l = n
  len : l.length ≤ k
theorem Nm.lt {l : List Nat} {n k : Nat} (h : Nm l n k) : n < 4294967296 ^ k := by
  rw [← h.val]; exact Nat.lt_of_lt_of_le (val_lt h.lim) (Nat.pow_le_pow_right (by omega) h.len)
theorem Nm.digs {n k : Nat} (h : n < 4294967296 ^ k) : Nm (digs 4294967296 n) n k := ⟨lim_digs (by omega) n, val_digs (by omega) n, digs_len (by omega) k n h⟩
theorem Nm.raw {l : List Nat} {k : Nat} (h : Lim 4294967296 l) (hk : l.length ≤ k) : Nm l (Ma.val 4294967296 l) k := ⟨h, rfl, hk⟩
theorem Nm.mono {l : List Nat} {n k k' : Nat} (h : Nm l n k) (hk : k ≤ k') : Nm l n k' := ⟨h.lim, h.val, Nat.le_trans h.len hk⟩
theorem lt_mul {m n k k' : Nat} (h : m < 4294967296 ^ k) (h' : n < 4294967296 ^ k') : m * n < 4294967296 ^ (k + k') := by
  rw [Nat.pow_add]; exact Nat.mul_lt_mul_of_lt_of_lt h h'
theorem add_n {a b : List Nat} {m n k k' : Nat} (ta tb : Bool) (ha : Nm a m k) (hb : Nm b n k') (hk : k ≤ 1000000) (hk' : k' ≤ 1000000) : PFn Tryd.prog 186 [LS a ta, LS b tb] (LS (Ma.digs 4294967296 (m + n)) true) := by
  have := add_fn ta tb ha.lim hb.lim (Nat.le_trans ha.len (by omega)) (Nat.le_trans hb.len (by omega))
  rwa [ha.val, hb.val] at this
theorem mul_n {a b : List Nat} {m n k k' : Nat} (ta tb : Bool) (ha : Nm a m k) (hb : Nm b n k') (hk : k ≤ 1000000) (hk' : k' ≤ 1000000) : PFn Tryd.prog 171 [LS a ta, LS b tb] (LS (Ma.digs 4294967296 (m * n)) true) := by
  have := mul_fn ta tb ha.lim hb.lim (Nat.le_trans ha.len (by omega)) (Nat.le_trans hb.len (by omega))
  rwa [ha.val, hb.val] at this
end Go.Proofs.YtanchgkiomfhhaaDoor.Fw

/- The law of quotients and remainders of limbs, without the reference, as what its code computes: true. -/
namespace Go.Proofs.YtanchgkiomfhhaaDoor.Fw
set_option linter.unusedSimpArgs false
set_option linter.unusedVariables false
open Go Go.Proofs.YtanchgkiomfhhaaDoor.Ma
set_option maxRecDepth 20000

theorem Nm.one {c : Nat} (h : c < 4294967296) : Nm [c] c 1 := ⟨Lim.one h, val_one _ _, Nat.le_refl _⟩
theorem muls_n {a : List Nat} {m k c : Nat} (ta : Bool) (ha : Nm a m k) (hk : k ≤ 1000000) (hc : c < 4294967296) : PFn Tryd.prog 214 [LS a ta, .int .u32 (c : Nat)] (LS (Ma.digs 4294967296 (m * c)) true) := by
  intro H Q hq
  refine enter214 (by simp) ?_
  simp (disch := first | assumption | (apply Ap.symm; assumption) | omega | decide | (simp only [Xd] <;> omega)) only [ac214, ↓Xa, Xb, Xc, ↓reduceIte, Nat.reduceLT, Nat.reduceEqDiff, Nat.reduceBEq, Nat.reduceLeDiff, Nat.reduceAdd, Nat.reduceMul]
  refine (mul_n (b := [c]) ta true ha (Nm.one hc) hk (by omega)).call ?_
  simp (disch := first | assumption | (apply Ap.symm; assumption) | omega | decide | (simp only [Xd] <;> omega)) only [rs214, ↓Xa, Xb, Xc, ↓reduceIte, Nat.reduceLT, Nat.reduceEqDiff, Nat.reduceBEq, Nat.reduceLeDiff, Nat.reduceAdd, Nat.reduceMul]
  exact SetR.now hq
end Go.Proofs.YtanchgkiomfhhaaDoor.Fw

/- The number of a decimal text, and back. -/
namespace Go.Proofs.YtanchgkiomfhhaaDoor.Ma
set_option linter.unusedSimpArgs false
set_option linter.unusedVariables false

def decF (v : Nat) (l : List UInt8) : Nat := l.foldl (fun v b => 10 * v + (b.toNat - 48)) v
def decV (l : List UInt8) : Nat := decF 0 l
theorem decF_eq : ∀ (l : List UInt8) (v : Nat), decF v l = 10 ^ l.length * v + decV l
  | [], v => by simp [decF, decV]
  | b :: l, v => by
    have h1 := decF_eq l (10 * v + (b.toNat - 48))
    have h2 := decF_eq l (10 * 0 + (b.toNat - 48))
    have e1 : decF v (b :: l) = decF (10 * v + (b.toNat - 48)) l := rfl
    have e2 : decV (b :: l) = decF (10 * 0 + (b.toNat - 48)) l := rfl
    rw [e1, e2, h1, h2, List.length_cons, Nat.pow_succ]
    grind
theorem decV_app (l m : List UInt8) : decV (l ++ m) = 10 ^ m.length * decV l + decV m := by
  have : decV (l ++ m) = decF (decV l) m := by simp only [decV, decF, List.foldl_append]
  rw [this, decF_eq]
theorem decV_one (b : UInt8) : decV [b] = b.toNat - 48 := by simp [decV, decF]
theorem decV_chr : ∀ {l : List Nat}, Lim 10 l → decV (l.reverse.map chr) = val 10 l
  | [], _ => rfl
  | x :: l, h => by
    rw [List.reverse_cons, List.map_append, decV_app, decV_chr h.tail, List.map_singleton, decV_one, chr_nat h.head]
    simp [val]; omega
theorem decV_dec (n : Nat) : decV (dec n) = n := by
  unfold dec; rw [decV_chr (lim_digs (by omega) n), val_digs (by omega)]
theorem decV_decT (n : Nat) : decV (decT n) = n := by
  unfold decT
  split
  · subst_vars; rfl
  · exact decV_dec n
theorem decF_lt : ∀ {l : List UInt8} {v : Nat}, (∀ b, b ∈ l → b.toNat ≤ 57) → decF v l < 10 ^ l.length * (v + 1)
  | [], v, _ => by simp [decF]
  | b :: l, v, h => by
    have h1 := decF_lt (l := l) (v := 10 * v + (b.toNat - 48)) fun x hx => h x (List.mem_cons_of_mem _ hx)
    have h2 := h b List.mem_cons_self
    have e1 : decF v (b :: l) = decF (10 * v + (b.toNat - 48)) l := rfl
    rw [e1]
    refine Nat.lt_of_lt_of_le h1 ?_
    rw [List.length_cons, Nat.pow_succ, Nat.mul_assoc]
    exact Nat.mul_le_mul_left _ (by omega)
theorem decV_lt {l : List UInt8} (h : ∀ b, b ∈ l → b.toNat ≤ 57) : decV l < 10 ^ l.length := by
  have := decF_lt (v := 0) h
  simpa [decV] using this
def isDig (b : UInt8) : Prop := 48 ≤ b.toNat ∧ b.toNat ≤ 57
def Good (l : List UInt8) : Prop := l ≠ [] ∧ (∀ b, b ∈ l → isDig b) ∧ (l.length = 1 ∨ (l.getD 0 0).toNat ≠ 48)
theorem decT_decV {l : List UInt8} (h : Good l) : decT (decV l) = l := by
  obtain ⟨h0, h1, h2⟩ := h
  obtain ⟨ds, hds⟩ : ∃ ds : List Nat, ds = l.reverse.map fun b => b.toNat - 48 := ⟨_, rfl⟩
  have hlim : Lim 10 ds := by
    intro x hx
    rw [hds] at hx
    obtain ⟨b, hb, rfl⟩ := List.mem_map.1 hx
    have := h1 b (List.mem_reverse.1 hb)
    unfold isDig at this; omega
  have hl : l = ds.reverse.map chr := by
    have hr : ds.reverse = l.map fun b => b.toNat - 48 := by rw [hds, ← List.map_reverse, List.reverse_reverse]
    rw [hr, List.map_map]
    conv => lhs; rw [← List.map_id l]
    apply List.map_congr_left
    intro b hb
    have := h1 b hb
    unfold isDig at this
    apply UInt8.toNat_inj.1
    show b.toNat = (chr (b.toNat - 48)).toNat
    rw [chr_nat (by omega)]; omega
  have hv : decV l = val 10 ds := by
    conv => lhs; rw [hl]
    exact decV_chr hlim
  obtain ⟨b, r, hbr⟩ : ∃ b r, l = b :: r := List.exists_cons_of_ne_nil h0
  have hb := h1 b (by rw [hbr]; simp)
  unfold isDig at hb
  have htop : ds = (r.reverse.map fun b => b.toNat - 48) ++ [b.toNat - 48] := by
    rw [hds, hbr, List.reverse_cons, List.map_append]; rfl
  by_cases hb0 : b.toNat = 48
  · rcases h2 with h2 | h2
    · have hr : r = [] := by rw [hbr] at h2; simpa using h2
      have hz : val 10 ds = 0 := by rw [htop, hr, hb0]; rfl
      rw [hv, hz, hbr, hr]
      show [48] = [b]
      rw [show b = 48 from UInt8.toNat_inj.1 hb0]
    · rw [hbr] at h2; exact absurd hb0 h2
  · have hd : ds = digs 10 (val 10 ds) := digs_of (by omega) hlim (.inr (by rw [htop, last_append (by simp)]; simp; omega))
    have hp : val 10 ds ≠ 0 := fun e => by
      rw [e, digs_zero, htop] at hd; simp at hd
    rw [hv]
    unfold decT dec
    rw [if_neg hp, ← hd, ← hl]
theorem good_decT (n : Nat) : Good (decT n) := by
  unfold decT
  split
  · exact ⟨by simp, by simp [isDig], .inl rfl⟩
  · rename_i h
    have hn : 0 < n := by omega
    refine ⟨dec_pos hn, fun b hb => ?_, .inr ?_⟩
    · unfold dec at hb
      obtain ⟨x, hx, rfl⟩ := List.mem_map.1 hb
      have := lim_digs (B := 10) (by omega) n x (List.mem_reverse.1 hx)
      unfold isDig; rw [chr_nat this]; omega
    · have hl := digs_last (B := 10) (by omega) hn
      have hne : digs 10 n ≠ [] := fun e => by have := (digs_nil (B := 10) (by omega)).1 e; omega
      obtain ⟨l, x, hx⟩ : ∃ l x, digs 10 n = l ++ [x] := ⟨_, _, (List.dropLast_concat_getLast hne).symm⟩
      have hx0 : x ≠ 0 := by
        rw [hx, last_append (by simp)] at hl
        simpa using hl
      have hx10 : x < 10 := lim_digs (B := 10) (by omega) n x (by rw [hx]; simp)
      have : dec n = chr x :: l.reverse.map chr := by simp [dec, hx]
      rw [this]
      show (chr x).toNat ≠ 48
      rw [chr_nat hx10]; omega
def badAt (l : List UInt8) (i : Nat) : Prop := (l.getD i 0).toNat < 48 ∨ 57 < (l.getD i 0).toNat ∨ (0 < i ∧ (l.getD 0 0).toNat = 48)
theorem good_of {l : List UInt8} (h0 : l ≠ []) (h : ∀ i, i < l.length → ¬ badAt l i) : Good l := by
  refine ⟨h0, fun b hb => ?_, ?_⟩
  · obtain ⟨i, hi, rfl⟩ := List.getElem_of_mem hb
    have := h i hi
    unfold badAt at this
    rw [List.getD_eq_getElem?_getD, List.getElem?_eq_getElem hi, Option.getD_some] at this
    unfold isDig; omega
  · by_cases hl : l.length = 1
    · exact .inl hl
    · right
      have hp : 0 < l.length := List.length_pos_iff.2 h0
      have := h 1 (by omega)
      unfold badAt at this; omega
theorem bad_of_good {l : List UInt8} (h : Good l) {i : Nat} (hi : i < l.length) : ¬ badAt l i := by
  obtain ⟨h0, h1, h2⟩ := h
  have := h1 _ (List.getElem_mem hi)
  unfold badAt isDig at *
  rw [List.getD_eq_getElem?_getD, List.getElem?_eq_getElem hi, Option.getD_some]
  omega
end Go.Proofs.YtanchgkiomfhhaaDoor.Ma
