/- The texts Ll Lm Se Sf Va Vb Ne Vc Vd Al12 Ve Al4 Sh Al11 Vf Nc Vg Si Al10 Al8 Vh Re Rf Rg Ri Rj Rk Rl Rm Rn Ro Io FwW Rp Rq Rr Rs Ta Ua Ub Nd Tb Al14 Tc Al13 Vi Fe Ya Yb Yc Yd Ye Al15 Vj, joined. -/
import Derived.Test.YtipbcjnniamcgaaDoorZ4
/- What package limb computes: a quotient's digit. -/
namespace Go.Proofs.YtipbcjnniamcgaaDoor.Fw
set_option linter.unusedSimpArgs false
set_option linter.unusedVariables false
open Go Go.Proofs.YtipbcjnniamcgaaDoor.Ma
set_option maxRecDepth 20000

section
variable {H : AHeap} {b ty off L n : Nat} {ti : Bool} {pre u post : List Nat}
theorem less_run {v : List Nat} {t : Nat} (tv : Bool) {Q : AV → AHeap → Prop} (hH : H b = some (.row ty 1 (U (pre ++ (u ++ post))))) (hL : L = pre.length + (u.length + post.length)) (ho : off = pre.length) (hn : n = u.length)
    (hu : Lim 4294967296 u) (hv : Lim 4294967296 v) (ht : t < 4294967296) (hvu : v.length < u.length) (hul : L ≤ 2199023255552)
    (hq : ∀ (w : List Nat) (bo : Nat), w.length = u.length → Lim 4294967296 w → bo ≤ 1 → val 4294967296 u + 4294967296 ^ u.length * bo = val 4294967296 w + t * val 4294967296 v → Q (.bool (decide (0 < bo))) (H.upd b (some (.row ty 1 (U (pre ++ (w ++ post))))))) :
    Run Tryd.prog 114 [.own b L off n ti, LS v tv, .int .u64 (t : Int)] H Q := by
  subst hL; subst ho; subst hn
  refine enter114 (by simp) ?_
  simp (disch := first | assumption | (apply Ap.symm; assumption) | omega | decide | (simp only [U_len, List.length_append, List.length_replicate, List.length_cons, List.length_nil, List.length_set] <;> omega) | fail) only [ac114, ↓Xa, Xb, Xc, ↓reduceIte, Nat.reduceLT, Nat.reduceEqDiff, Nat.reduceBEq, Nat.reduceLeDiff, Nat.reduceAdd, Nat.reduceMul]
  refine W_loop (fun s : Nat × Nat × Nat × List Nat => ⟨[], [(0, .own b (pre.length + (u.length + post.length)) pre.length u.length ti), (1, LS v tv), (2, .int .u64 t), (7, .int .u64 s.2.1), (8, .int .u64 s.2.2.1), (12, .int .i64 u.length), (13, .int .i64 s.1)],
      H.upd b (some (.row ty 1 (U (pre ++ ((s.2.2.2 ++ u.drop s.1) ++ post)))))⟩)
    (fun s => s.1 ≤ u.length ∧ LessI u v t s.1 s.2.1 s.2.2.1 s.2.2.2) (fun s => u.length - s.1) (0, 0, 0, []) (Settle.now (by simp [upd_back _ hH])) ⟨by simp, LessI.zero u v t⟩ ?_
  rintro ⟨i, c, bo, done⟩ ⟨h1, h2⟩
  dsimp only at h1 h2 ⊢
  have hd := h2.1
  have hc := h2.2.2.1
  have hbo := h2.2.2.2.1
  by_cases hi : i < u.length
  · have hx := hu.getD (by omega) i
    have hy := hv.getD (by omega) i
    have hm : v.getD i 0 * t ≤ 4294967295 * 4294967295 := Nat.mul_le_mul (by omega) (by omega)
    have hcl : (done ++ u.drop i).length = u.length := by simp [hd]; omega
    have len1 : (pre ++ ((done ++ u.drop i) ++ post)).length = pre.length + (u.length + post.length) := by simp only [List.length_append, hd, List.length_drop]; omega
    have g1 : (pre ++ ((done ++ u.drop i) ++ post)).getD (pre.length + i) 0 = u.getD i 0 := by rw [mid_get (by omega), part_get hd hi]
    have s1 : ∀ x, (pre ++ ((done ++ u.drop i) ++ post)).set (pre.length + i) x = pre ++ (((done ++ [x]) ++ u.drop (i + 1)) ++ post) := fun x => by rw [mid_set (by omega), part_set hd hi]
    generalize hrow : pre ++ ((done ++ u.drop i) ++ post) = row at *
    by_cases hj : i < v.length
    · simp (disch := first | assumption | (apply Ap.symm; assumption) | omega | decide | (simp only [U_len, List.length_append, List.length_replicate, List.length_cons, List.length_nil, List.length_set] <;> omega) | fail) only [hi, hj, g1, ↓Xa, Xb, Xc, ↓reduceIte, Nat.reduceLT, Nat.reduceEqDiff, Nat.reduceBEq, Nat.reduceLeDiff, Nat.reduceAdd, Nat.reduceMul]
      rw [s1]
      refine Settle.now ⟨(i + 1, _, _, _), by dsimp only; omega, ⟨by dsimp only; omega, h2.step hu hv ht rfl rfl⟩, rfl⟩
    · have h0 := getD_beyond (show v.length ≤ i by omega)
      simp (disch := first | assumption | (apply Ap.symm; assumption) | omega | decide | (simp only [U_len, List.length_append, List.length_replicate, List.length_cons, List.length_nil, List.length_set] <;> omega) | fail) only [hi, hj, g1, ↓Xa, Xb, Xc, ↓reduceIte, Nat.reduceLT, Nat.reduceEqDiff, Nat.reduceBEq, Nat.reduceLeDiff, Nat.reduceAdd, Nat.reduceMul]
      rw [s1]
      refine Settle.now ⟨(i + 1, _, _, _), by dsimp only; omega, ⟨by dsimp only; omega, h2.step hu hv ht (c1 := c) (by rw [h0]; omega) rfl⟩, rfl⟩
  · obtain rfl : i = u.length := by omega
    simp (disch := first | assumption | (apply Ap.symm; assumption) | omega | decide | (simp only [U_len, List.length_append, List.length_replicate, List.length_cons, List.length_nil, List.length_set] <;> omega) | fail) only [hi, ↓Xa, Xb, Xc, ↓reduceIte, Nat.reduceLT, Nat.reduceEqDiff, Nat.reduceBEq, Nat.reduceLeDiff, Nat.reduceAdd, Nat.reduceMul]
    refine Settle.now ?_
    simp (disch := first | assumption | (apply Ap.symm; assumption) | omega | decide | (simp only [U_len, List.length_append, List.length_replicate, List.length_cons, List.length_nil, List.length_set] <;> omega) | fail) only [rs114, ↓Xa, Xb, Xc, ↓reduceIte, Nat.reduceLT, Nat.reduceEqDiff, Nat.reduceBEq, Nat.reduceLeDiff, Nat.reduceAdd, Nat.reduceMul]
    refine SetR.now ?_
    rw [List.drop_of_length_le (Nat.le_refl _), List.append_nil]
    exact hq done bo hd h2.2.1 hbo (h2.end hvu)

def scC : ACode → ACode
  | .scope0 c => c
  | x => x
theorem digit_run {v : List Nat} {m : Nat} (tv : Bool) {Q : AV → AHeap → Prop} (h : DigI u v m) (hH : H b = some (.row ty 1 (U (pre ++ (u ++ post))))) (hL : L = pre.length + (u.length + post.length)) (ho : off = pre.length) (hn : n = u.length) (hul : L ≤ 2199023255552)
    (hq : ∀ (w : List Nat), w.length = u.length → Lim 4294967296 w → val 4294967296 w = val 4294967296 u % val 4294967296 v → Q (.int .u32 ((val 4294967296 u / val 4294967296 v : Nat) : Int)) (H.upd b (some (.row ty 1 (U (pre ++ (w ++ post))))))) :
    Run Tryd.prog 92 [.own b L off n ti, LS v tv] H Q := by
  subst hL; subst ho; subst hn
  have hlu := h.hu
  have hlv := h.hv
  have hq1 := h.q_lt
  have hl := h.lims
  have htop := h.top
  have hqm : val 4294967296 u / val 4294967296 v * val 4294967296 v + val 4294967296 u % val 4294967296 v = val 4294967296 u := Nat.div_add_mod' _ _
  have hml := Nat.mod_lt (val 4294967296 u) h.vpos
  have hvl := val_lt h.lu
  refine enter92 (by simp) ?_
  have fin : ∀ g, val 4294967296 u / val 4294967296 v ≤ g → g ≤ val 4294967296 u / val 4294967296 v + 1 → g < 4294967296 → W Tryd.prog (sndC (sndC (sndC (sndC (sndC (scC (sndC ac92))))))) (scopeA (retN rs92 Q)) ⟨[], [(0, .own b (pre.length + (u.length + post.length)) pre.length u.length ti), (1, LS v tv), (5, .int .i64 v.length), (7, .int .u64 g)], H⟩ := by
    intro g g1 g2 g3
    simp (disch := first | assumption | (apply Ap.symm; assumption) | omega | decide | (simp only [U_len, List.length_append, List.length_replicate, List.length_cons, List.length_nil, List.length_set] <;> omega) | fail) only [ac92, sndC, scC, ↓Xa, Xb, Xc, ↓reduceIte, Nat.reduceLT, Nat.reduceEqDiff, Nat.reduceBEq, Nat.reduceLeDiff, Nat.reduceAdd, Nat.reduceMul]
    refine run_call (less_run tv hH rfl rfl rfl h.lu h.lv g3 (by omega) hul fun w bo hw1 hw2 hb e => ?_)
    have hwl := val_lt hw2
    rw [hw1] at hwl
    generalize val 4294967296 u / val 4294967296 v = q at *
    have hgv : g = q ∨ g = q + 1 := by omega
    have hgm : g * val 4294967296 v = q * val 4294967296 v ∨ g * val 4294967296 v = q * val 4294967296 v + val 4294967296 v := by
      rcases hgv with e | e
      · left; rw [e]
      · right; rw [e, Nat.add_mul, Nat.one_mul]
    have hbc : bo = 0 ∨ bo = 1 := by omega
    rcases hbc with rfl | rfl
    · have hg : g = q := by
        rcases hgv with e1 | e1
        · exact e1
        · rw [e1, Nat.add_mul, Nat.one_mul] at e; omega
      simp (disch := first | assumption | (apply Ap.symm; assumption) | omega | decide | (simp only [U_len, List.length_append, List.length_replicate, List.length_cons, List.length_nil, List.length_set] <;> omega) | fail) only [rs92, ↓Xa, Xb, Xc, ↓reduceIte, Nat.reduceLT, Nat.reduceEqDiff, Nat.reduceBEq, Nat.reduceLeDiff, Nat.reduceAdd, Nat.reduceMul]
      refine SetR.now ?_
      rw [hg]
      exact hq w hw1 hw2 (by rw [hg] at e; omega)
    · have hg : g = q + 1 := by
        rcases hgv with e1 | e1
        · rw [e1] at e; omega
        · exact e1
      subst hg
      simp (disch := first | assumption | (apply Ap.symm; assumption) | omega | decide | (simp only [U_len, List.length_append, List.length_replicate, List.length_cons, List.length_nil, List.length_set] <;> omega) | fail) only [↓Xa, Xb, Xc, ↓reduceIte, Nat.reduceLT, Nat.reduceEqDiff, Nat.reduceBEq, Nat.reduceLeDiff, Nat.reduceAdd, Nat.reduceMul]
      refine W_loop (fun s : Nat × Nat × List Nat => ⟨[], [(0, .own b (pre.length + (u.length + post.length)) pre.length u.length ti), (1, LS v tv), (5, .int .i64 v.length), (7, .int .u64 q), (9, .int .u64 s.2.1), (88, .int .i64 u.length), (89, .int .i64 s.1)],
          H.upd b (some (.row ty 1 (U (pre ++ ((s.2.2 ++ w.drop s.1) ++ post)))))⟩)
        (fun s => s.1 ≤ u.length ∧ AddI w v s.1 s.2.1 s.2.2) (fun s => u.length - s.1) (0, 0, []) (Settle.now rfl) ⟨by simp, AddI.zero w v⟩ ?_
      rintro ⟨i, c, done⟩ ⟨h1, h2⟩
      dsimp only at h1 h2 ⊢
      have hd := h2.1
      have hc := h2.2.2.1
      by_cases hi : i < u.length
      · have hiw : i < w.length := by omega
        have hx := hw2.getD (by omega) i
        have hy := h.lv.getD (by omega) i
        have len1 : (pre ++ ((done ++ w.drop i) ++ post)).length = pre.length + (u.length + post.length) := by simp only [List.length_append, hd, List.length_drop]; omega
        have hcl : i < (done ++ w.drop i).length := by simp only [List.length_append, hd, List.length_drop]; omega
        have g1 : (pre ++ ((done ++ w.drop i) ++ post)).getD (pre.length + i) 0 = w.getD i 0 := by rw [mid_get hcl, part_get hd hiw]
        have s1 : ∀ x, (pre ++ ((done ++ w.drop i) ++ post)).set (pre.length + i) x = pre ++ (((done ++ [x]) ++ w.drop (i + 1)) ++ post) := fun x => by rw [mid_set hcl, part_set hd hiw]
        generalize hrow : pre ++ ((done ++ w.drop i) ++ post) = row at *
        by_cases hj : i < v.length
        · simp (disch := first | assumption | (apply Ap.symm; assumption) | omega | decide | (simp only [U_len, List.length_append, List.length_replicate, List.length_cons, List.length_nil, List.length_set] <;> omega) | fail) only [hi, hj, g1, ↓Xa, Xb, Xc, ↓reduceIte, Nat.reduceLT, Nat.reduceEqDiff, Nat.reduceBEq, Nat.reduceLeDiff, Nat.reduceAdd, Nat.reduceMul]
          rw [s1]
          refine Settle.now ⟨(i + 1, _, _), by dsimp only; omega, ⟨by dsimp only; omega, h2.step hw2 h.lv rfl⟩, rfl⟩
        · have h0 := getD_beyond (show v.length ≤ i by omega)
          simp (disch := first | assumption | (apply Ap.symm; assumption) | omega | decide | (simp only [U_len, List.length_append, List.length_replicate, List.length_cons, List.length_nil, List.length_set] <;> omega) | fail) only [hi, hj, g1, ↓Xa, Xb, Xc, ↓reduceIte, Nat.reduceLT, Nat.reduceEqDiff, Nat.reduceBEq, Nat.reduceLeDiff, Nat.reduceAdd, Nat.reduceMul]
          rw [s1]
          refine Settle.now ⟨(i + 1, _, _), by dsimp only; omega, ⟨by dsimp only; omega, h2.step hw2 h.lv (s := c + w.getD i 0) (by omega)⟩, rfl⟩
      · obtain rfl : i = u.length := by omega
        simp (disch := first | assumption | (apply Ap.symm; assumption) | omega | decide | (simp only [U_len, List.length_append, List.length_replicate, List.length_cons, List.length_nil, List.length_set] <;> omega) | fail) only [hi, ↓Xa, Xb, Xc, ↓reduceIte, Nat.reduceLT, Nat.reduceEqDiff, Nat.reduceBEq, Nat.reduceLeDiff, Nat.reduceAdd, Nat.reduceMul]
        refine Settle.now ?_
        simp (disch := first | assumption | (apply Ap.symm; assumption) | omega | decide | (simp only [U_len, List.length_append, List.length_replicate, List.length_cons, List.length_nil, List.length_set] <;> omega) | fail) only [rs92, ↓Xa, Xb, Xc, ↓reduceIte, Nat.reduceLT, Nat.reduceEqDiff, Nat.reduceBEq, Nat.reduceLeDiff, Nat.reduceAdd, Nat.reduceMul]
        refine SetR.now ?_
        rw [List.drop_of_length_le (by omega), List.append_nil]
        refine hq done hd h2.2.1 ?_
        have e2 := h2.2.2.2
        rw [List.take_of_length_le (by omega), List.take_of_length_le (by omega)] at e2
        have hdl := val_lt h2.2.1
        rw [hd] at hdl
        rw [Nat.add_mul, Nat.one_mul] at e
        have hcc : c = 0 ∨ c = 1 := by omega
        rcases hcc with rfl | rfl <;> omega
  have gl : ∀ i, i < u.length → (pre ++ (u ++ post)).getD (pre.length + i) 0 = u.getD i 0 := fun i hi => mid_get hi
  have hul2 : (pre ++ (u ++ post)).length = pre.length + (u.length + post.length) := by simp
  have g1 := gl (m + 2) (by omega)
  have g2 := gl (m + 1) (by omega)
  have g3 := gl m (by omega)
  have e1 : m + 2 - 1 = m + 1 := by omega
  have e2 : m + 2 - 2 = m := by omega
  have hst := h.start
  have hU2 : U2 u m = u.getD (m + 2) 0 * 2 ^ 32 + u.getD (m + 1) 0 := rfl
  have hne : (v.getD (m + 1) 0 = 0) = False := eq_false (by omega)
  have hrl : U2 u m % v.getD (m + 1) 0 < v.getD (m + 1) 0 := Nat.mod_lt _ (by omega)
  have hgl : U2 u m / v.getD (m + 1) 0 < 18446744073709551616 := Nat.lt_of_le_of_lt (Nat.div_le_self _ _) (by rw [hU2]; omega)
  generalize hrow : pre ++ (u ++ post) = row at *
  simp (disch := first | assumption | (apply Ap.symm; assumption) | omega | decide | (simp only [U_len, List.length_append, List.length_replicate, List.length_cons, List.length_nil, List.length_set] <;> omega) | fail) only [ac92, hH, hlv, e1, e2, g1, g2, ← hU2, hne, ne_eq, ↓Xa, Xb, Xc, ↓reduceIte, Nat.reduceLT, Nat.reduceEqDiff, Nat.reduceBEq, Nat.reduceLeDiff, Nat.reduceAdd, Nat.reduceMul]
  simp only [hlv] at fin
  refine W_loop (fun s : Nat × Nat => ⟨[], [(0, .own b (pre.length + (u.length + post.length)) pre.length u.length ti), (1, LS v tv), (5, .int .i64 ((m + 2 : Nat) : Int)), (7, .int .u64 s.1), (8, .int .u64 s.2)], H⟩)
    (fun s => GuessI u v m s.1 s.2 ∧ s.2 < 4294967296) (fun s => s.1) (U2 u m / v.getD (m + 1) 0, U2 u m % v.getD (m + 1) 0) (Settle.now rfl) ⟨hst, by dsimp only; omega⟩ ?_
  rintro ⟨g, r⟩ ⟨hg, hr⟩
  dsimp only at hg hr ⊢
  have hgm := hg.2.2
  have next : (4294967296 ≤ g ∨ r * 2 ^ 32 + u.getD m 0 < g * v.getD m 0) → 0 < g ∧ GuessI u v m (g - 1) (r + v.getD (m + 1) 0) := fun hc => hg.step h hc
  have leave : (4294967296 ≤ g ∨ r * 2 ^ 32 + u.getD m 0 < g * v.getD m 0) → 4294967296 ≤ r + v.getD (m + 1) 0 → val 4294967296 u / val 4294967296 v ≤ g - 1 ∧ g - 1 ≤ val 4294967296 u / val 4294967296 v + 1 ∧ g - 1 < 4294967296 := fun hc hr' => by
    have h1 := next hc
    have h2 := h1.2.endB h hr' (by omega)
    have h3 := h1.2.2.1
    exact ⟨h3, by omega, Nat.lt_of_le_of_lt h2 hq1⟩
  by_cases hgB : 4294967296 ≤ g
  · have c1 : 0 < g / 2 ^ 32 := by omega
    have hp := (next (.inl hgB)).1
    by_cases hr' : 4294967296 ≤ r + v.getD (m + 1) 0
    · have c2 : 0 < (r + v.getD (m + 1) 0) / 2 ^ 32 := by omega
      obtain ⟨f1, f2, f3⟩ := leave (.inl hgB) hr'
      simp (disch := first | assumption | (apply Ap.symm; assumption) | omega | decide | (simp only [U_len, List.length_append, List.length_replicate, List.length_cons, List.length_nil, List.length_set] <;> omega) | fail) only [hH, e1, e2, g1, g2, g3, c1, c2, ↓Xa, Xb, Xc, ↓reduceIte, Nat.reduceLT, Nat.reduceEqDiff, Nat.reduceBEq, Nat.reduceLeDiff, Nat.reduceAdd, Nat.reduceMul]
      exact Settle.keep [0, 1, 5, 7] (fin (g - 1) f1 f2 f3)
    · have c2 : ¬ 0 < (r + v.getD (m + 1) 0) / 2 ^ 32 := by omega
      simp (disch := first | assumption | (apply Ap.symm; assumption) | omega | decide | (simp only [U_len, List.length_append, List.length_replicate, List.length_cons, List.length_nil, List.length_set] <;> omega) | fail) only [hH, e1, e2, g1, g2, g3, c1, c2, ↓Xa, Xb, Xc, ↓reduceIte, Nat.reduceLT, Nat.reduceEqDiff, Nat.reduceBEq, Nat.reduceLeDiff, Nat.reduceAdd, Nat.reduceMul]
      exact Settle.keep [0, 1, 5, 7, 8] ⟨(g - 1, r + v.getD (m + 1) 0), by dsimp only; omega, ⟨(next (.inl hgB)).2, by dsimp only; omega⟩, rfl⟩
  · have c1 : ¬ 0 < g / 2 ^ 32 := by omega
    have hm2 : g * v.getD m 0 ≤ 4294967295 * 4294967295 := Nat.mul_le_mul (by omega) (by omega)
    by_cases hc : r * 2 ^ 32 + u.getD m 0 < g * v.getD m 0
    · have hp := (next (.inr hc)).1
      by_cases hr' : 4294967296 ≤ r + v.getD (m + 1) 0
      · have c2 : 0 < (r + v.getD (m + 1) 0) / 2 ^ 32 := by omega
        obtain ⟨f1, f2, f3⟩ := leave (.inr hc) hr'
        simp (disch := first | assumption | (apply Ap.symm; assumption) | omega | decide | (simp only [U_len, List.length_append, List.length_replicate, List.length_cons, List.length_nil, List.length_set] <;> omega) | fail) only [hH, e1, e2, g1, g2, g3, c1, c2, hc, ↓Xa, Xb, Xc, ↓reduceIte, Nat.reduceLT, Nat.reduceEqDiff, Nat.reduceBEq, Nat.reduceLeDiff, Nat.reduceAdd, Nat.reduceMul]
        exact Settle.keep [0, 1, 5, 7] (fin (g - 1) f1 f2 f3)
      · have c2 : ¬ 0 < (r + v.getD (m + 1) 0) / 2 ^ 32 := by omega
        simp (disch := first | assumption | (apply Ap.symm; assumption) | omega | decide | (simp only [U_len, List.length_append, List.length_replicate, List.length_cons, List.length_nil, List.length_set] <;> omega) | fail) only [hH, e1, e2, g1, g2, g3, c1, c2, hc, ↓Xa, Xb, Xc, ↓reduceIte, Nat.reduceLT, Nat.reduceEqDiff, Nat.reduceBEq, Nat.reduceLeDiff, Nat.reduceAdd, Nat.reduceMul]
        exact Settle.keep [0, 1, 5, 7, 8] ⟨(g - 1, r + v.getD (m + 1) 0), by dsimp only; omega, ⟨(next (.inr hc)).2, by dsimp only; omega⟩, rfl⟩
    · simp (disch := first | assumption | (apply Ap.symm; assumption) | omega | decide | (simp only [U_len, List.length_append, List.length_replicate, List.length_cons, List.length_nil, List.length_set] <;> omega) | fail) only [hH, e1, e2, g1, g2, g3, c1, hc, ↓Xa, Xb, Xc, ↓reduceIte, Nat.reduceLT, Nat.reduceEqDiff, Nat.reduceBEq, Nat.reduceLeDiff, Nat.reduceAdd, Nat.reduceMul]
      exact Settle.keep [0, 1, 5, 7] (fin g hg.2.1 (hg.endA h (by omega) (by omega)) (by omega))
end
end Go.Proofs.YtipbcjnniamcgaaDoor.Fw

/- What package limb computes: quotients and remainders. -/
namespace Go.Proofs.YtipbcjnniamcgaaDoor.Fw
set_option linter.unusedSimpArgs false
set_option linter.unusedVariables false
open Go Go.Proofs.YtipbcjnniamcgaaDoor.Ma
set_option maxRecDepth 20000

theorem LS_0 (B : Nat) : AV.seq 0 [] true = LS (digs B 0) true := by rw [digs_zero]; rfl
theorem lss_cmp {m n : Nat} {K : AV → Prop} : binW .lss (.int .i64 (cmpZ m n)) (.int .i64 ((0 : Nat) : Int)) K ↔ K (.bool (decide (m < n))) := by
  have : (cmpZ m n < ((0 : Nat) : Int)) ↔ m < n := by unfold cmpZ; split <;> simp_all; split <;> omega
  simp only [binW, binInt, true_and, this]
theorem fin_trL {l x : List Nat} {b ty n : Nat} {t : Bool} {H : AHeap} {Q : AV → AHeap → Prop} {k : IntKind} {m : Int} (hb : H b = none) (hn : l.length = n) (hq : Q (.tup [LS (tr l) true, LS x t, .int k m]) H) : SetR Q (.tup [.own b n 0 (tr l).length true, LS x t, .int k m]) (H.upd b (some (.row ty 1 (U l)))) := by
  refine SetR.frz b (upd_same _ _ _) ?_
  rw [upd_upd, upd_back _ hb, frz, List.map_cons, List.map_cons, List.map_cons, List.map_nil, frz2_tr hn, frz2_int]
  exact SetR.now hq

theorem app_LS {H : AHeap} {ty n : Nat} {l m : List Nat} {t : Bool} {K : AV → AHeap → Prop} (hn : n = m.length) (hm : m ≠ []) (hb : l.length + m.length ≤ 17592186044416)
    (k : ∀ b, H b = none → K (.own b (l.length + m.length) 0 (l.length + m.length) false) (H.upd b (some (.row ty 1 (U (l ++ m)))))) : appV H ty 1 4 (LS l true) (.seq n (U m) t) K := by
  subst hn
  have hpos : 0 < m.length := List.length_pos_iff.2 hm
  refine .inl ⟨by simp, U_cell m, rfl, by simp, by omega, by omega, fun e => absurd e (by omega), fun _ b hb' => ?_⟩
  have := k b hb'
  rw [U_app] at this
  simpa using this
theorem divmod_lt {a b : List Nat} (ta tb : Bool) (ha : Lim 4294967296 a) (hb : Lim 4294967296 b) (h0 : 0 < val 4294967296 b) (hla : a.length ≤ 549755813888) (hlb : b.length ≤ 549755813888) (hlt : val 4294967296 a < val 4294967296 b) :
    PFn Tryd.prog 34 [LS a ta, LS b tb] (.tup [LS (digs 4294967296 (val 4294967296 a / val 4294967296 b)) true, LS (digs 4294967296 (val 4294967296 a % val 4294967296 b)) true, .int .i64 ((0 : Nat) : Int)]) := by
  intro H Q hq
  refine enter34 (by simp) ?_
  simp (disch := first | assumption | (apply Ap.symm; assumption) | omega | decide | (simp only [U_len, List.length_append, List.length_replicate, List.length_cons, List.length_nil, List.length_set] <;> omega) | fail) only [ac34, ↓Xa, Xb, Xc, ↓reduceIte, Nat.reduceLT, Nat.reduceEqDiff, Nat.reduceBEq, Nat.reduceLeDiff, Nat.reduceAdd, Nat.reduceMul]
  refine (trim_fn b tb).call ?_
  have htb := tr_len b
  rw [tr_digs (by omega) hb] at htb ⊢
  generalize val 4294967296 b = Bv at *
  have hY := lim_digs (B := 4294967296) (by omega) Bv
  have hYv := val_digs (B := 4294967296) (by omega) Bv
  have hYp : 0 < (digs 4294967296 Bv).length := by rw [digs_pos (by omega) h0]; simp
  generalize digs 4294967296 Bv = Y at *
  have hY0 : (Y.length = 0) = False := eq_false (by omega)
  simp (disch := first | assumption | (apply Ap.symm; assumption) | omega | decide | (simp only [U_len, List.length_append, List.length_replicate, List.length_cons, List.length_nil, List.length_set] <;> omega) | fail) only [hY0, ↓Xa, Xb, Xc, ↓reduceIte, Nat.reduceLT, Nat.reduceEqDiff, Nat.reduceBEq, Nat.reduceLeDiff, Nat.reduceAdd, Nat.reduceMul]
  refine (cmp_fn ta true ha hY).call ?_
  rw [hYv]
  simp (disch := first | assumption | (apply Ap.symm; assumption) | omega | decide | (simp only [U_len, List.length_append, List.length_replicate, List.length_cons, List.length_nil, List.length_set] <;> omega) | fail) only [lss_cmp, hlt, ↓Xa, Xb, Xc, ↓reduceIte, Nat.reduceLT, Nat.reduceEqDiff, Nat.reduceBEq, Nat.reduceLeDiff, Nat.reduceAdd, Nat.reduceMul]
  refine (norm_fn ta (by omega)).call ?_
  rw [tr_digs (by omega) ha]
  simp (disch := first | assumption | (apply Ap.symm; assumption) | omega | decide | (simp only [U_len, List.length_append, List.length_replicate, List.length_cons, List.length_nil, List.length_set] <;> omega) | fail) only [rs34, ↓Xa, Xb, Xc, ↓reduceIte, Nat.reduceLT, Nat.reduceEqDiff, Nat.reduceBEq, Nat.reduceLeDiff, Nat.reduceAdd, Nat.reduceMul]
  rw [Nat.div_eq_of_lt hlt, Nat.mod_eq_of_lt hlt, ← LS_0 4294967296] at hq
  exact SetR.now hq

theorem divmod_one {a b : List Nat} (ta tb : Bool) (ha : Lim 4294967296 a) (hb : Lim 4294967296 b) (h0 : 0 < val 4294967296 b) (hla : a.length ≤ 549755813888) (hlb : b.length ≤ 549755813888) (hlt : ¬ val 4294967296 a < val 4294967296 b) (h1 : (digs 4294967296 (val 4294967296 b)).length = 1) :
    PFn Tryd.prog 34 [LS a ta, LS b tb] (.tup [LS (digs 4294967296 (val 4294967296 a / val 4294967296 b)) true, LS (digs 4294967296 (val 4294967296 a % val 4294967296 b)) true, .int .i64 ((0 : Nat) : Int)]) := by
  intro H Q hq
  refine enter34 (by simp) ?_
  simp (disch := first | assumption | (apply Ap.symm; assumption) | omega | decide | (simp only [U_len, List.length_append, List.length_replicate, List.length_cons, List.length_nil, List.length_set] <;> omega) | fail) only [ac34, ↓Xa, Xb, Xc, ↓reduceIte, Nat.reduceLT, Nat.reduceEqDiff, Nat.reduceBEq, Nat.reduceLeDiff, Nat.reduceAdd, Nat.reduceMul]
  refine (trim_fn b tb).call ?_
  rw [tr_digs (by omega) hb]
  generalize val 4294967296 b = Bv at *
  have hY := lim_digs (B := 4294967296) (by omega) Bv
  have hYv := val_digs (B := 4294967296) (by omega) Bv
  generalize digs 4294967296 Bv = Y at *
  simp (disch := first | assumption | (apply Ap.symm; assumption) | omega | decide | (simp only [U_len, List.length_append, List.length_replicate, List.length_cons, List.length_nil, List.length_set] <;> omega) | fail) only [h1, ↓Xa, Xb, Xc, ↓reduceIte, Nat.reduceLT, Nat.reduceEqDiff, Nat.reduceBEq, Nat.reduceLeDiff, Nat.reduceAdd, Nat.reduceMul]
  refine (cmp_fn ta true ha hY).call ?_
  rw [hYv]
  have hd : val 4294967296 Y = Y.getD 0 0 := by
    have := val_take_all 4294967296 Y (0 + 1) (by omega)
    rw [← this, val_take]; simp [val]
  rw [hYv] at hd
  have hBl : Bv < 4294967296 := by rw [hd]; exact hY.getD (by omega) 0
  simp (disch := first | assumption | (apply Ap.symm; assumption) | omega | decide | (simp only [U_len, List.length_append, List.length_replicate, List.length_cons, List.length_nil, List.length_set] <;> omega) | fail) only [lss_cmp, hlt, h1, load_LS0, ← hd, ↓Xa, Xb, Xc, ↓reduceIte, Nat.reduceLT, Nat.reduceEqDiff, Nat.reduceBEq, Nat.reduceLeDiff, Nat.reduceAdd, Nat.reduceMul]
  refine (divsmall_fn ta ha h0 hBl (by omega)).call ?_
  simp (disch := first | assumption | (apply Ap.symm; assumption) | omega | decide | (simp only [U_len, List.length_append, List.length_replicate, List.length_cons, List.length_nil, List.length_set] <;> omega) | fail) only [↓Xa, Xb, Xc, ↓reduceIte, Nat.reduceLT, Nat.reduceEqDiff, Nat.reduceBEq, Nat.reduceLeDiff, Nat.reduceAdd, Nat.reduceMul]
  have hm : val 4294967296 a % Bv < 4294967296 := Nat.lt_trans (Nat.mod_lt _ h0) hBl
  refine (norm_fn (l := [val 4294967296 a % Bv]) true (by simp)).call ?_
  rw [tr_digs (by omega) (Lim.one hm), val_one]
  simp (disch := first | assumption | (apply Ap.symm; assumption) | omega | decide | (simp only [U_len, List.length_append, List.length_replicate, List.length_cons, List.length_nil, List.length_set] <;> omega) | fail) only [rs34, ↓Xa, Xb, Xc, ↓reduceIte, Nat.reduceLT, Nat.reduceEqDiff, Nat.reduceBEq, Nat.reduceLeDiff, Nat.reduceAdd, Nat.reduceMul]
  exact SetR.now hq

theorem divmod_many {a b : List Nat} (ta tb : Bool) (ha : Lim 4294967296 a) (hb : Lim 4294967296 b) (h0 : 0 < val 4294967296 b) (hla : a.length ≤ 549755813888) (hlb : b.length ≤ 549755813888) (hlt : ¬ val 4294967296 a < val 4294967296 b) (h1 : ¬ (digs 4294967296 (val 4294967296 b)).length = 1) :
    PFn Tryd.prog 34 [LS a ta, LS b tb] (.tup [LS (digs 4294967296 (val 4294967296 a / val 4294967296 b)) true, LS (digs 4294967296 (val 4294967296 a % val 4294967296 b)) true, .int .i64 ((0 : Nat) : Int)]) := by
  intro H Q hq
  refine enter34 (by simp) ?_
  simp (disch := first | assumption | (apply Ap.symm; assumption) | omega | decide | (simp only [U_len, List.length_append, List.length_replicate, List.length_cons, List.length_nil, List.length_set] <;> omega) | fail) only [ac34, ↓Xa, Xb, Xc, ↓reduceIte, Nat.reduceLT, Nat.reduceEqDiff, Nat.reduceBEq, Nat.reduceLeDiff, Nat.reduceAdd, Nat.reduceMul]
  refine (trim_fn b tb).call ?_
  have htb := tr_len b
  rw [tr_digs (by omega) hb] at htb ⊢
  generalize val 4294967296 b = Bv at *
  have hY := lim_digs (B := 4294967296) (by omega) Bv
  have hYv := val_digs (B := 4294967296) (by omega) Bv
  have hYp : 0 < (digs 4294967296 Bv).length := by rw [digs_pos (by omega) h0]; simp
  have hY0 : ((digs 4294967296 Bv).length = 0) = False := eq_false (by omega)
  simp (disch := first | assumption | (apply Ap.symm; assumption) | omega | decide | (simp only [U_len, List.length_append, List.length_replicate, List.length_cons, List.length_nil, List.length_set] <;> omega) | fail) only [hY0, ↓Xa, Xb, Xc, ↓reduceIte, Nat.reduceLT, Nat.reduceEqDiff, Nat.reduceBEq, Nat.reduceLeDiff, Nat.reduceAdd, Nat.reduceMul]
  refine (cmp_fn ta true ha hY).call ?_
  rw [hYv]
  -- many limbs
  have hn2 : 2 ≤ (digs 4294967296 Bv).length := by omega
  have htop := hY.getD (by omega) ((digs 4294967296 Bv).length - 1)
  have htl : blen ((digs 4294967296 Bv).getD ((digs 4294967296 Bv).length - 1) 0) ≤ 32 := blen_le.2 (by omega)
  simp (disch := first | assumption | (apply Ap.symm; assumption) | omega | decide | (simp only [U_len, List.length_append, List.length_replicate, List.length_cons, List.length_nil, List.length_set] <;> omega) | fail) only [lss_cmp, hlt, h1, ↓Xa, Xb, Xc, ↓reduceIte, Nat.reduceLT, Nat.reduceEqDiff, Nat.reduceBEq, Nat.reduceLeDiff, Nat.reduceAdd, Nat.reduceMul]
  refine (lz_fn htop).call ?_
  generalize hs : 32 - blen ((digs 4294967296 Bv).getD ((digs 4294967296 Bv).length - 1) 0) = s at *
  have hs32 : s ≤ 32 := by omega
  obtain ⟨w1, w2, w3⟩ := shifted h0 hs.symm
  simp (disch := first | assumption | (apply Ap.symm; assumption) | omega | decide | (simp only [U_len, List.length_append, List.length_replicate, List.length_cons, List.length_nil, List.length_set] <;> omega) | fail) only [↓Xa, Xb, Xc, ↓reduceIte, Nat.reduceLT, Nat.reduceEqDiff, Nat.reduceBEq, Nat.reduceLeDiff, Nat.reduceAdd, Nat.reduceMul]
  refine (shl_fn true hY (by omega) (by omega)).call ?_
  rw [hYv]
  simp (disch := first | assumption | (apply Ap.symm; assumption) | omega | decide | (simp only [U_len, List.length_append, List.length_replicate, List.length_cons, List.length_nil, List.length_set] <;> omega) | fail) only [↓Xa, Xb, Xc, ↓reduceIte, Nat.reduceLT, Nat.reduceEqDiff, Nat.reduceBEq, Nat.reduceLeDiff, Nat.reduceAdd, Nat.reduceMul]
  refine (shl_fn ta ha (by omega) (by omega)).call ?_
  have hV0 : 0 < Bv * 2 ^ s := Nat.mul_pos h0 (Nat.pow_pos (by omega))
  have hlv := lim_digs (B := 4294967296) (by omega) (Bv * 2 ^ s)
  have hvv := val_digs (B := 4294967296) (by omega) (Bv * 2 ^ s)
  have hlu := lim_digs (B := 4294967296) (by omega) (val 4294967296 a * 2 ^ s)
  have hvu := val_digs (B := 4294967296) (by omega) (val 4294967296 a * 2 ^ s)
  have hAB : Bv * 2 ^ s ≤ val 4294967296 a * 2 ^ s := Nat.mul_le_mul_right _ (by omega)
  have hll : (digs 4294967296 (Bv * 2 ^ s)).length ≤ (digs 4294967296 (val 4294967296 a * 2 ^ s)).length := by
    rcases Nat.lt_or_ge (digs 4294967296 (val 4294967296 a * 2 ^ s)).length (digs 4294967296 (Bv * 2 ^ s)).length with h | h
    · have := digs_lt_len (by omega) h; omega
    · exact h
  have hul : (digs 4294967296 (val 4294967296 a * 2 ^ s)).length ≤ a.length + 1 := digs_len (by omega) _ _ (by
    have h1 := val_lt ha
    have h2 : (2 : Nat) ^ s ≤ 2 ^ 32 := Nat.pow_le_pow_right (by omega) hs32
    rw [Nat.pow_succ]
    exact Nat.mul_lt_mul_of_lt_of_le h1 h2 (by omega))
  rw [w1] at hll
  have hdiv : val 4294967296 a * 2 ^ s / (Bv * 2 ^ s) = val 4294967296 a / Bv := Nat.mul_div_mul_right _ _ (Nat.pow_pos (by omega))
  have hmod : val 4294967296 a * 2 ^ s % (Bv * 2 ^ s) / 2 ^ s = val 4294967296 a % Bv := by
    rw [Nat.mul_mod_mul_right, Nat.mul_div_cancel _ (Nat.pow_pos (by omega))]
  generalize val 4294967296 a * 2 ^ s = T at *
  generalize Bv * 2 ^ s = V at *
  generalize digs 4294967296 V = v at *
  generalize hn : (digs 4294967296 Bv).length = n at *
  generalize digs 4294967296 T = u0 at *
  simp (disch := first | assumption | (apply Ap.symm; assumption) | omega | decide | (simp only [U_len, List.length_append, List.length_replicate, List.length_cons, List.length_nil, List.length_set] <;> omega) | fail) only [↓Xa, Xb, Xc, ↓reduceIte, Nat.reduceLT, Nat.reduceEqDiff, Nat.reduceBEq, Nat.reduceLeDiff, Nat.reduceAdd, Nat.reduceMul]
  refine app_LS (l := u0) (m := [0]) rfl (by simp) (by simp; omega) fun bu hbu => ?_
  obtain ⟨k0, hk0⟩ : ∃ k0, u0.length = n + k0 := ⟨u0.length - n, by omega⟩
  have hum : u0.length + [0].length = n + k0 + 1 := by simp [hk0]
  rw [hum]
  have hdn : n + k0 + 1 - n = k0 + 1 := by omega
  simp (disch := first | assumption | (apply Ap.symm; assumption) | omega | decide | (simp only [U_len, List.length_append, List.length_replicate, List.length_cons, List.length_nil, List.length_set] <;> omega) | fail) only [w1, hdn, ↓Xa, Xb, Xc, ↓reduceIte, Nat.reduceLT, Nat.reduceEqDiff, Nat.reduceBEq, Nat.reduceLeDiff, Nat.reduceAdd, Nat.reduceMul]
  refine newU_i fun bq hbq => ?_
  have nb := hbq
  simp only [upd_none] at nb
  obtain ⟨nbA, nbq⟩ := nb
  simp (disch := first | assumption | (apply Ap.symm; assumption) | omega | decide | (simp only [U_len, List.length_append, List.length_replicate, List.length_cons, List.length_nil, List.length_set] <;> omega) | fail) only [hdn, Nat.add_sub_cancel, ↓Xa, Xb, Xc, ↓reduceIte, Nat.reduceLT, Nat.reduceEqDiff, Nat.reduceBEq, Nat.reduceLeDiff, Nat.reduceAdd, Nat.reduceMul]
  have hlz : (u0 ++ [0]).length = n + k0 + 1 := by simp [hk0]
  refine W_loop (fun z : Nat × List Nat × List Nat => ⟨[], [(10, .int .i64 s), (11, LS v true), (13, .own bu (n + k0 + 1) 0 (n + k0 + 1) false), (15, .int .i64 n), (16, .own bq (k0 + 1) 0 (k0 + 1) true), (17, .int .i64 (dn z.1))],
      (H.upd bu (some (.row 45 1 (U z.2.1)))).upd bq (some (.row 45 1 (U z.2.2)))⟩)
    (fun z => DivK T V n k0 z.1 z.2.1 z.2.2) (fun z => z.1) (k0 + 1, u0 ++ [0], List.replicate (k0 + 1) 0) (Settle.now rfl) ?_ ?_
  · refine ⟨Nat.le_refl _, hlz, lim_snoc hlu (by omega), by simp, lim_zeros (by omega) _, ?_, ?_⟩
    · -- the highest limbs, a nought on top
      have e := val_append 4294967296 (u0.drop (k0 + 1)) [0]
      have h1 := val_lt (hlu.drop (k0 + 1))
      rw [List.length_drop] at h1
      have h2 : (u0 ++ [0]).drop (k0 + 1) = u0.drop (k0 + 1) ++ [0] := by rw [List.drop_append_of_le_length (by omega)]
      rw [h2, e, val_one, Nat.mul_zero, Nat.add_zero]
      have h3 := val_top1 (B := 4294967296) (l := v) (n := n - 1) (by omega)
      rw [hvv] at h3
      have h4 : 4294967296 ^ (n - 1) * 1 ≤ 4294967296 ^ (n - 1) * v.getD (n - 1) 0 := Nat.mul_le_mul_left _ (by omega)
      rw [show u0.length - (k0 + 1) = n - 1 by omega] at h1
      omega
    · have z : val 4294967296 [] = 0 := rfl
      show T = V * (4294967296 ^ (k0 + 1) * val 4294967296 ((List.replicate (k0 + 1) 0).drop (k0 + 1))) + val 4294967296 (u0 ++ [0])
      rw [List.drop_of_length_le (Nat.le_of_eq List.length_replicate), val_snoc, hvu, z, Nat.mul_zero, Nat.mul_zero, Nat.mul_zero, Nat.zero_add, Nat.add_zero]
  rintro ⟨M, ul, ql⟩ hk
  dsimp only at hk ⊢
  have hu1 := hk.ulen
  have hq1 := hk.qlen
  cases M with
  | zero =>
    obtain ⟨d1, d2⟩ := hk.end
    simp (disch := first | assumption | (apply Ap.symm; assumption) | omega | decide | (simp only [U_len, List.length_append, List.length_replicate, List.length_cons, List.length_nil, List.length_set] <;> omega) | fail) only [↓Xa, Xb, Xc, ↓reduceIte, Nat.reduceLT, Nat.reduceEqDiff, Nat.reduceBEq, Nat.reduceLeDiff, Nat.reduceAdd, Nat.reduceMul]
    refine Settle.freeze 13 rfl (by rw [upd_otherA nbA.symm, upd_same]) (by simp [hu1]) (.inr (by simp)) ?_
    have e1 : AV.seq (n + k0 + 1) (((U ul).drop 0).take ((n + k0 + 1) * 1)) false = LS ul false := by
      rw [List.drop_zero, Nat.mul_one, ← hu1, List.take_of_length_le (by simp)]; rfl
    rw [e1, upd_over nbA, upd_back H hbu]
    refine Settle.now ?_
    simp (disch := first | assumption | (apply Ap.symm; assumption) | omega | decide | (simp only [U_len, List.length_append, List.length_replicate, List.length_cons, List.length_nil, List.length_set] <;> omega) | fail) only [↓Xa, Xb, Xc, ↓reduceIte, Nat.reduceLT, Nat.reduceEqDiff, Nat.reduceBEq, Nat.reduceLeDiff, Nat.reduceAdd, Nat.reduceMul]
    refine (shr_fn false hk.ulim (by omega) (by omega)).call ?_
    rw [d2, hmod]
    simp (disch := first | assumption | (apply Ap.symm; assumption) | omega | decide | (simp only [U_len, List.length_append, List.length_replicate, List.length_cons, List.length_nil, List.length_set] <;> omega) | fail) only [↓Xa, Xb, Xc, ↓reduceIte, Nat.reduceLT, Nat.reduceEqDiff, Nat.reduceBEq, Nat.reduceLeDiff, Nat.reduceAdd, Nat.reduceMul]
    refine trim_call (upd_same _ _ _) hq1 ?_
    simp (disch := first | assumption | (apply Ap.symm; assumption) | omega | decide | (simp only [U_len, List.length_append, List.length_replicate, List.length_cons, List.length_nil, List.length_set] <;> omega) | fail) only [rs34, ↓Xa, Xb, Xc, ↓reduceIte, Nat.reduceLT, Nat.reduceEqDiff, Nat.reduceBEq, Nat.reduceLeDiff, Nat.reduceAdd, Nat.reduceMul]
    refine fin_trL nbq hq1 ?_
    rw [tr_digs (by omega) hk.qlim, d1, hdiv]
    exact hq
  | succ k =>
    have hM := hk.hM
    have hkl : k ≤ k0 := by omega
    obtain ⟨s1, s2, s3⟩ := hk.seg w2
    have hseg : ((ul.drop k).take (n + 1)).length = n + 1 := by rw [List.length_take, List.length_drop]; omega
    have hparts : ul = ul.take k ++ ((ul.drop k).take (n + 1) ++ ul.drop (k + (n + 1))) := by
      rw [← List.drop_drop, List.take_append_drop, List.take_append_drop]
    have hD : DigI ((ul.drop k).take (n + 1)) v (n - 2) := by
      refine ⟨by omega, by omega, (hk.ulim.drop k).take _, hlv, ?_, ?_⟩
      · rw [show n - 2 + 1 = n - 1 by omega]; exact w3
      · rw [s1, hvv]; exact s2
    have hkn : k + n + 1 - k = n + 1 := by omega
    have hpre : (ul.take k).length = k := by rw [List.length_take]; omega
    simp (disch := first | assumption | (apply Ap.symm; assumption) | omega | decide | (simp only [U_len, List.length_append, List.length_replicate, List.length_cons, List.length_nil, List.length_set] <;> omega) | fail) only [hkn, ↓Xa, Xb, Xc, ↓reduceIte, Nat.reduceLT, Nat.reduceEqDiff, Nat.reduceBEq, Nat.reduceLeDiff, Nat.reduceAdd, Nat.reduceMul]
    refine run_call (digit_run (pre := ul.take k) (u := (ul.drop k).take (n + 1)) (post := ul.drop (k + (n + 1))) true hD (by rw [upd_otherA nbA.symm, upd_same, ← hparts]) (by rw [hpre, hseg, List.length_drop]; omega) hpre.symm hseg.symm (by omega) fun w g1 g2 g3 => ?_)
    rw [hseg] at g1
    rw [hvv] at g3 ⊢
    have hqd : val 4294967296 ((ul.drop k).take (n + 1)) / V < 4294967296 := Nat.div_lt_of_lt_mul (by rw [s1, Nat.mul_comm]; exact s2)
    have stp := hk.step w2 hV0 g1 g2 g3 rfl
    rw [Nat.mod_eq_of_lt hqd] at stp
    generalize val 4294967296 ((ul.drop k).take (n + 1)) / V = qd at *
    simp (disch := first | assumption | (apply Ap.symm; assumption) | omega | decide | (simp only [U_len, List.length_append, List.length_replicate, List.length_cons, List.length_nil, List.length_set] <;> omega) | fail) only [↓Xa, Xb, Xc, ↓reduceIte, Nat.reduceLT, Nat.reduceEqDiff, Nat.reduceBEq, Nat.reduceLeDiff, Nat.reduceAdd, Nat.reduceMul]
    exact Settle.keep [10, 11, 13, 15, 16, 17] ⟨(k, _, _), by dsimp only; omega, stp, rfl⟩

theorem divmod_fn {a b : List Nat} (ta tb : Bool) (ha : Lim 4294967296 a) (hb : Lim 4294967296 b) (h0 : 0 < val 4294967296 b) (hla : a.length ≤ 549755813888) (hlb : b.length ≤ 549755813888) :
    PFn Tryd.prog 34 [LS a ta, LS b tb] (.tup [LS (digs 4294967296 (val 4294967296 a / val 4294967296 b)) true, LS (digs 4294967296 (val 4294967296 a % val 4294967296 b)) true, .int .i64 ((0 : Nat) : Int)]) := by
  by_cases hlt : val 4294967296 a < val 4294967296 b
  · exact divmod_lt ta tb ha hb h0 hla hlb hlt
  · by_cases h1 : (digs 4294967296 (val 4294967296 b)).length = 1
    · exact divmod_one ta tb ha hb h0 hla hlb hlt h1
    · exact divmod_many ta tb ha hb h0 hla hlb hlt h1
end Go.Proofs.YtipbcjnniamcgaaDoor.Fw

/- The laws' first question: are numbers added, multiplied, divided, told? -/
namespace Go.Proofs.YtipbcjnniamcgaaDoor.Fw
set_option linter.unusedSimpArgs false
set_option linter.unusedVariables false
open Go Go.Proofs.YtipbcjnniamcgaaDoor.Ma
set_option maxRecDepth 20000

theorem digs_is {l : List Nat} (n : Nat) (h : Lim 4294967296 l) (h0 : l = [] ∨ l.getD (l.length - 1) 0 ≠ 0) (hv : val 4294967296 l = n) : digs 4294967296 n = l := by
  rw [← hv]; exact (digs_of (by omega) h h0).symm
theorem works_fn : PFn Tryd.prog 33 [] (.bool true) := by
  intro H Q hq
  refine enter33 (by simp) ?_
  simp (disch := first | assumption | (apply Ap.symm; assumption) | omega | decide | (simp only [U_len, List.length_append, List.length_replicate, List.length_cons, List.length_nil, List.length_set] <;> omega) | fail) only [ac33, str_Sx, ↓Xa, Xb, Xc, ↓reduceIte, Nat.reduceLT, Nat.reduceEqDiff, Nat.reduceBEq, Nat.reduceLeDiff, Nat.reduceAdd, Nat.reduceMul]
  have l1 : Lim 4294967296 [4294967295] := Lim.one (by omega)
  have l2 : Lim 4294967296 [4294967295, 0] := Lim.cons (by omega) (Lim.one (by omega))
  have l3 : Lim 4294967296 [5] := Lim.one (by omega)
  have l4 : Lim 4294967296 [1, 4294967294] := Lim.cons (by omega) (Lim.one (by omega))
  have d1 : digs 4294967296 18446744065119617025 = [1, 4294967294] := digs_is _ l4 (.inr (by decide)) (by decide)
  have d2 : digs 4294967296 4294967295 = [4294967295] := digs_is _ l1 (.inr (by decide)) (by decide)
  have d3 : digs 4294967296 5 = [5] := digs_is _ l3 (.inr (by decide)) (by decide)
  have m1 := mul_fn (a := [4294967295]) (b := [4294967295, 0]) true true l1 l2 (by simp) (by simp)
  rw [show val 4294967296 [4294967295] * val 4294967296 [4294967295, 0] = 18446744065119617025 by decide, d1] at m1
  refine m1.call ?_
  simp (disch := first | assumption | (apply Ap.symm; assumption) | omega | decide | (simp only [U_len, List.length_append, List.length_replicate, List.length_cons, List.length_nil, List.length_set] <;> omega) | fail) only [↓Xa, Xb, Xc, ↓reduceIte, Nat.reduceLT, Nat.reduceEqDiff, Nat.reduceBEq, Nat.reduceLeDiff, Nat.reduceAdd, Nat.reduceMul]
  have m2 := add_fn (a := [1, 4294967294]) (b := [5]) true true l4 l3 (by simp) (by simp)
  refine m2.call ?_
  rw [show val 4294967296 [1, 4294967294] + val 4294967296 [5] = 18446744065119617030 by decide]
  simp (disch := first | assumption | (apply Ap.symm; assumption) | omega | decide | (simp only [U_len, List.length_append, List.length_replicate, List.length_cons, List.length_nil, List.length_set] <;> omega) | fail) only [↓Xa, Xb, Xc, ↓reduceIte, Nat.reduceLT, Nat.reduceEqDiff, Nat.reduceBEq, Nat.reduceLeDiff, Nat.reduceAdd, Nat.reduceMul]
  have m3 := divmod_fn (a := digs 4294967296 18446744065119617030) (b := [4294967295]) true true (lim_digs (by omega) _) l1 (by decide) (Nat.le_trans (digs_len (k := 3) (by omega) _ (by decide)) (by omega)) (by simp)
  rw [val_digs (by omega), show 18446744065119617030 / val 4294967296 [4294967295] = 4294967295 by decide, show 18446744065119617030 % val 4294967296 [4294967295] = 5 by decide, d2, d3] at m3
  refine m3.call ?_
  simp (disch := first | assumption | (apply Ap.symm; assumption) | omega | decide | (simp only [U_len, List.length_append, List.length_replicate, List.length_cons, List.length_nil, List.length_set] <;> omega) | fail) only [↓Xa, Xb, Xc, ↓reduceIte, Nat.reduceLT, Nat.reduceEqDiff, Nat.reduceBEq, Nat.reduceLeDiff, Nat.reduceAdd, Nat.reduceMul]
  refine (equal_fn (a := [1, 4294967294]) (b := [1, 4294967294]) true true (by simp) (by simp)).call ?_
  rw [decide_eq_true rfl]
  simp (disch := first | assumption | (apply Ap.symm; assumption) | omega | decide | (simp only [U_len, List.length_append, List.length_replicate, List.length_cons, List.length_nil, List.length_set] <;> omega) | fail) only [↓Xa, Xb, Xc, ↓reduceIte, Nat.reduceLT, Nat.reduceEqDiff, Nat.reduceBEq, Nat.reduceLeDiff, Nat.reduceAdd, Nat.reduceMul]
  refine (equal_fn (a := [4294967295]) (b := [4294967295]) true true (by simp) (by simp)).call ?_
  rw [decide_eq_true rfl]
  simp (disch := first | assumption | (apply Ap.symm; assumption) | omega | decide | (simp only [U_len, List.length_append, List.length_replicate, List.length_cons, List.length_nil, List.length_set] <;> omega) | fail) only [↓Xa, Xb, Xc, ↓reduceIte, Nat.reduceLT, Nat.reduceEqDiff, Nat.reduceBEq, Nat.reduceLeDiff, Nat.reduceAdd, Nat.reduceMul]
  refine (equal_fn (a := [5]) (b := [5]) true true (by simp) (by simp)).call ?_
  rw [decide_eq_true rfl]
  simp (disch := first | assumption | (apply Ap.symm; assumption) | omega | decide | (simp only [U_len, List.length_append, List.length_replicate, List.length_cons, List.length_nil, List.length_set] <;> omega) | fail) only [↓Xa, Xb, Xc, ↓reduceIte, Nat.reduceLT, Nat.reduceEqDiff, Nat.reduceBEq, Nat.reduceLeDiff, Nat.reduceAdd, Nat.reduceMul]
  have m4 := text_fn (l := [1, 4294967294]) true l4 (by simp)
  refine m4.call ?_
  have d4 : decT (val 4294967296 [1, 4294967294]) = [49, 56, 52, 52, 54, 55, 52, 52, 48, 54, 53, 49, 49, 57, 54, 49, 55, 48, 50, 53] := by
    have l10 : Lim 10 [5, 2, 0, 7, 1, 6, 9, 1, 1, 5, 6, 0, 4, 4, 7, 6, 4, 4, 8, 1] := by
      intro x hx
      simp only [List.mem_cons, List.not_mem_nil, or_false] at hx
      omega
    have e10 : digs 10 18446744065119617025 = [5, 2, 0, 7, 1, 6, 9, 1, 1, 5, 6, 0, 4, 4, 7, 6, 4, 4, 8, 1] := by
      have := digs_of (by omega) l10 (.inr (by decide))
      rw [this]; congr 1
    rw [show val 4294967296 [1, 4294967294] = 18446744065119617025 by decide]
    unfold decT dec
    rw [if_neg (by decide), e10]
    rfl
  rw [d4]
  simp (disch := first | assumption | (apply Ap.symm; assumption) | omega | decide | (simp only [U_len, List.length_append, List.length_replicate, List.length_cons, List.length_nil, List.length_set] <;> omega) | fail) only [eql_Sx, rs33, ↓Xa, Xb, Xc, ↓reduceIte, Nat.reduceLT, Nat.reduceEqDiff, Nat.reduceBEq, Nat.reduceLeDiff, Nat.reduceAdd, Nat.reduceMul]
  exact SetR.now hq
end Go.Proofs.YtipbcjnniamcgaaDoor.Fw

/- What package limb computes, in terms of numbers. -/
namespace Go.Proofs.YtipbcjnniamcgaaDoor.Fw
set_option linter.unusedSimpArgs false
set_option linter.unusedVariables false
open Go Go.Proofs.YtipbcjnniamcgaaDoor.Ma
set_option maxRecDepth 20000

/-- A row of limbs, what it is worth, how long it is at most. -/
structure Nm (l : List Nat) (n k : Nat) : Prop where
  lim : Lim 4294967296 l
  val : val 4294967296 l = n
  len : l.length ≤ k
theorem Nm.lt {l : List Nat} {n k : Nat} (h : Nm l n k) : n < 4294967296 ^ k := by
  rw [← h.val]; exact Nat.lt_of_lt_of_le (val_lt h.lim) (Nat.pow_le_pow_right (by omega) h.len)
theorem Nm.digs {n k : Nat} (h : n < 4294967296 ^ k) : Nm (digs 4294967296 n) n k := ⟨lim_digs (by omega) n, val_digs (by omega) n, digs_len (by omega) k n h⟩
theorem Nm.raw {l : List Nat} {k : Nat} (h : Lim 4294967296 l) (hk : l.length ≤ k) : Nm l (Ma.val 4294967296 l) k := ⟨h, rfl, hk⟩
theorem Nm.mono {l : List Nat} {n k k' : Nat} (h : Nm l n k) (hk : k ≤ k') : Nm l n k' := ⟨h.lim, h.val, Nat.le_trans h.len hk⟩
theorem lt_mul {m n k k' : Nat} (h : m < 4294967296 ^ k) (h' : n < 4294967296 ^ k') : m * n < 4294967296 ^ (k + k') := by
  rw [Nat.pow_add]; exact Nat.mul_lt_mul_of_lt_of_lt h h'
theorem add_n {a b : List Nat} {m n k k' : Nat} (ta tb : Bool) (ha : Nm a m k) (hb : Nm b n k') (hk : k ≤ 1000000) (hk' : k' ≤ 1000000) : PFn Tryd.prog 38 [LS a ta, LS b tb] (LS (Ma.digs 4294967296 (m + n)) true) := by
  have := add_fn ta tb ha.lim hb.lim (Nat.le_trans ha.len (by omega)) (Nat.le_trans hb.len (by omega))
  rwa [ha.val, hb.val] at this
theorem mul_n {a b : List Nat} {m n k k' : Nat} (ta tb : Bool) (ha : Nm a m k) (hb : Nm b n k') (hk : k ≤ 1000000) (hk' : k' ≤ 1000000) : PFn Tryd.prog 39 [LS a ta, LS b tb] (LS (Ma.digs 4294967296 (m * n)) true) := by
  have := mul_fn ta tb ha.lim hb.lim (Nat.le_trans ha.len (by omega)) (Nat.le_trans hb.len (by omega))
  rwa [ha.val, hb.val] at this
end Go.Proofs.YtipbcjnniamcgaaDoor.Fw

/- What package swagelaw01 does to what it hands over: room behind it, and whether it was kept. -/
namespace Go.Proofs.YtipbcjnniamcgaaDoor.Fw
set_option linter.unusedSimpArgs false
set_option linter.unusedVariables false
open Go Go.Proofs.YtipbcjnniamcgaaDoor.Ma
set_option maxRecDepth 20000

/-- A row behind which two limbs more stand. -/
def Xr (l : List Nat) : AV := .ext l.length (U (l ++ [77, 78]))
theorem Wk.Xr {l : List Nat} : Wk (Xr l) (LS l false) := Wk.X
theorem PFn.wk {P : Program} {f : FuncId} {args args' : List AV} {r : AV} (h : PFn P f args' r) (w : Wks args args') : PFn P f args r := fun H Q hq => (h H Q hq).wk w
theorem PFn.x {P : Program} {f : FuncId} {l : List Nat} {r : AV} (h : PFn P f [LS l false] r) : PFn P f [Xr l] r := h.wk (.cons Wk.Xr .nil)
theorem PFn.x1 {P : Program} {f : FuncId} {l : List Nat} {y r : AV} (h : PFn P f [LS l false, y] r) : PFn P f [Xr l, y] r := h.wk (.cons Wk.Xr (.cons Wk.refl .nil))
theorem PFn.x2 {P : Program} {f : FuncId} {l : List Nat} {y r : AV} (h : PFn P f [y, LS l false] r) : PFn P f [y, Xr l] r := h.wk (.cons Wk.refl (.cons Wk.Xr .nil))
theorem clone_run {H : AHeap} {K : AV → AHeap → Prop} {l : List Nat} (t : Bool) (hl : l.length ≤ 1099511627776) (k : ∀ x H', grow H 45 l x H' → K x H') : Run Tryd.prog 96 [LS l t] H K := by
  refine enter96 (by simp) ?_
  cases l with
  | nil =>
    simp (disch := first | assumption | (apply Ap.symm; assumption) | omega | decide | (simp only [U_len, List.length_append, List.length_replicate, List.length_cons, List.length_nil, List.length_set] <;> omega) | fail) only [ac96, nilW_nil, ↓Xa, Xb, Xc, ↓reduceIte, Nat.reduceLT, Nat.reduceEqDiff, Nat.reduceBEq, Nat.reduceLeDiff, Nat.reduceAdd, Nat.reduceMul]
    refine ⟨?_, ?_⟩
    · simp (disch := first | assumption | (apply Ap.symm; assumption) | omega | decide | (simp only [U_len, List.length_append, List.length_replicate, List.length_cons, List.length_nil, List.length_set] <;> omega) | fail) only [rs96, ↓Xa, Xb, Xc, ↓reduceIte, Nat.reduceLT, Nat.reduceEqDiff, Nat.reduceBEq, Nat.reduceLeDiff, Nat.reduceAdd, Nat.reduceMul]
      exact SetR.now (k _ _ grow_nil)
    · refine .inl ⟨rfl, rfl, ?_⟩
      refine ⟨rfl, rfl, by simp, by simp, fun _ => ?_, fun e => absurd e (by simp)⟩
      simp (disch := first | assumption | (apply Ap.symm; assumption) | omega | decide | (simp only [U_len, List.length_append, List.length_replicate, List.length_cons, List.length_nil, List.length_set] <;> omega) | fail) only [rs96, ↓Xa, Xb, Xc, ↓reduceIte, Nat.reduceLT, Nat.reduceEqDiff, Nat.reduceBEq, Nat.reduceLeDiff, Nat.reduceAdd, Nat.reduceMul]
      exact SetR.now (k _ _ grow_nil)
  | cons x l =>
    simp (disch := first | assumption | (apply Ap.symm; assumption) | omega | decide | (simp only [U_len, List.length_append, List.length_replicate, List.length_cons, List.length_nil, List.length_set] <;> omega) | fail) only [ac96, nilW_cons, ↓Xa, Xb, Xc, ↓reduceIte, Nat.reduceLT, Nat.reduceEqDiff, Nat.reduceBEq, Nat.reduceLeDiff, Nat.reduceAdd, Nat.reduceMul]
    refine app_grow (m := x :: l) (t := t) grow_nil rfl (by simp) (by simp at hl ⊢; omega) fun y H' hg => ?_
    simp (disch := first | assumption | (apply Ap.symm; assumption) | omega | decide | (simp only [U_len, List.length_append, List.length_replicate, List.length_cons, List.length_nil, List.length_set] <;> omega) | fail) only [rs96, ↓Xa, Xb, Xc, ↓reduceIte, Nat.reduceLT, Nat.reduceEqDiff, Nat.reduceBEq, Nat.reduceLeDiff, Nat.reduceAdd, Nat.reduceMul]
    exact SetR.now (k _ _ hg)
theorem room_fn {l : List Nat} (t : Bool) (hl : l.length ≤ 1000000) : PFn Tryd.prog 47 [LS l t] (Xr l) := by
  intro H Q hq
  refine enter47 (by simp) ?_
  simp (disch := first | assumption | (apply Ap.symm; assumption) | omega | decide | (simp only [U_len, List.length_append, List.length_replicate, List.length_cons, List.length_nil, List.length_set] <;> omega) | fail) only [ac47, ↓Xa, Xb, Xc, ↓reduceIte, Nat.reduceLT, Nat.reduceEqDiff, Nat.reduceBEq, Nat.reduceLeDiff, Nat.reduceAdd, Nat.reduceMul]
  refine run_call (clone_run t (by omega) fun x H' hg => ?_)
  simp (disch := first | assumption | (apply Ap.symm; assumption) | omega | decide | (simp only [U_len, List.length_append, List.length_replicate, List.length_cons, List.length_nil, List.length_set] <;> omega) | fail) only [rep2, ↓Xa, Xb, Xc, ↓reduceIte, Nat.reduceLT, Nat.reduceEqDiff, Nat.reduceBEq, Nat.reduceLeDiff, Nat.reduceAdd, Nat.reduceMul]
  refine app_ext (m := [77, 78]) hg rfl (by simp) (by simp; omega) ?_
  simp (disch := first | assumption | (apply Ap.symm; assumption) | omega | decide | (simp only [U_len, List.length_append, List.length_replicate, List.length_cons, List.length_nil, List.length_set] <;> omega) | fail) only [liveE_ext, slc_ext1, rs47, ↓Xa, Xb, Xc, ↓reduceIte, Nat.reduceLT, Nat.reduceEqDiff, Nat.reduceBEq, Nat.reduceLeDiff, Nat.reduceAdd, Nat.reduceMul]
  exact SetR.now hq
end Go.Proofs.YtipbcjnniamcgaaDoor.Fw

/- The reference for limbs: a limb, what is normal, held against each other, sums. -/
namespace Go.Proofs.YtipbcjnniamcgaaDoor.Fw
set_option linter.unusedSimpArgs false
set_option linter.unusedVariables false
open Go Go.Proofs.YtipbcjnniamcgaaDoor.Ma
set_option maxRecDepth 20000

theorem lat_fn {l : List Nat} {i : Nat} (t : Bool) (hn : l.length < 9223372036854775808) : PFn Tryd.prog 100 [LS l t, .int .i64 (i : Int)] (.int .u32 ((l.getD i 0 : Nat) : Int)) := by
  intro H Q hq
  refine enter100 (by simp) ?_
  by_cases h : i < l.length
  · simp (disch := first | assumption | (apply Ap.symm; assumption) | omega | decide | (simp only [U_len, List.length_append, List.length_replicate, List.length_cons, List.length_nil, List.length_set] <;> omega) | fail) only [ac100, h, rs100, ↓Xa, Xb, Xc, ↓reduceIte, Nat.reduceLT, Nat.reduceEqDiff, Nat.reduceBEq, Nat.reduceLeDiff, Nat.reduceAdd, Nat.reduceMul]
    exact SetR.now hq
  · rw [getD_beyond (by omega)] at hq
    simp (disch := first | assumption | (apply Ap.symm; assumption) | omega | decide | (simp only [U_len, List.length_append, List.length_replicate, List.length_cons, List.length_nil, List.length_set] <;> omega) | fail) only [ac100, h, rs100, ↓Xa, Xb, Xc, ↓reduceIte, Nat.reduceLT, Nat.reduceEqDiff, Nat.reduceBEq, Nat.reduceLeDiff, Nat.reduceAdd, Nat.reduceMul]
    exact SetR.now hq
theorem lnorm_fn {l : List Nat} (t : Bool) (hn : l.length ≤ 1099511627776) : PFn Tryd.prog 53 [LS l t] (LS (tr l) false) := by
  intro H Q hq
  refine enter53 (by simp) ?_
  simp (disch := first | assumption | (apply Ap.symm; assumption) | omega | decide | (simp only [U_len, List.length_append, List.length_replicate, List.length_cons, List.length_nil, List.length_set] <;> omega) | fail) only [ac53, ↓Xa, Xb, Xc, ↓reduceIte, Nat.reduceLT, Nat.reduceEqDiff, Nat.reduceBEq, Nat.reduceLeDiff, Nat.reduceAdd, Nat.reduceMul]
  refine W_loop (fun n : Nat => ⟨[], [(0, LS l t), (3, .int .i64 (n : Nat))], H⟩) (fun n => n ≤ l.length ∧ ∀ i, n ≤ i → i < l.length → l.getD i 0 = 0) id l.length (Settle.now rfl) ⟨Nat.le_refl _, fun i h1 h2 => absurd h1 (by omega)⟩ ?_
  rintro n ⟨h1, hz⟩
  have last : (n = 0 ∨ l.getD (n - 1) 0 ≠ 0) → W Tryd.prog (sndC (sndC (sndC ac53))) (retN rs53 Q) ⟨[], [(0, LS l t), (3, .int .i64 (n : Nat)), (17, .bool false)], H⟩ := by
    intro h
    have e := tr_take h1 hz h
    simp (disch := first | assumption | (apply Ap.symm; assumption) | omega | decide | (simp only [U_len, List.length_append, List.length_replicate, List.length_cons, List.length_nil, List.length_set] <;> omega) | fail) only [sndC, ac53, ↓Xa, Xb, Xc, ↓reduceIte, Nat.reduceLT, Nat.reduceEqDiff, Nat.reduceBEq, Nat.reduceLeDiff, Nat.reduceAdd, Nat.reduceMul]
    refine W_loop (fun s : Nat × AV × AHeap => ⟨[], [(0, LS l t), (3, .int .i64 (n : Nat)), (4, s.2.1), (5, .int .i64 (s.1 : Nat))], s.2.2⟩) (fun s => s.1 ≤ n ∧ grow H 45 (l.take s.1) s.2.1 s.2.2) (fun s => n - s.1) (0, _, _) (Settle.now rfl) ⟨Nat.zero_le _, grow_nil⟩ ?_
    rintro ⟨i, z, H'⟩ ⟨hi, hg⟩
    dsimp only at hi hg ⊢
    by_cases hlt : i < n
    · have hil : i < l.length := by omega
      simp (disch := first | assumption | (apply Ap.symm; assumption) | omega | decide | (simp only [U_len, List.length_append, List.length_replicate, List.length_cons, List.length_nil, List.length_set] <;> omega) | fail) only [hlt, rep1, ↓Xa, Xb, Xc, ↓reduceIte, Nat.reduceLT, Nat.reduceEqDiff, Nat.reduceBEq, Nat.reduceLeDiff, Nat.reduceAdd, Nat.reduceMul]
      refine app_grow (m := [l.getD i 0]) hg rfl (by simp) (by simp; omega) fun z' H2 hg2 => ?_
      simp (disch := first | assumption | (apply Ap.symm; assumption) | omega | decide | (simp only [U_len, List.length_append, List.length_replicate, List.length_cons, List.length_nil, List.length_set] <;> omega) | fail) only [↓Xa, Xb, Xc, ↓reduceIte, Nat.reduceLT, Nat.reduceEqDiff, Nat.reduceBEq, Nat.reduceLeDiff, Nat.reduceAdd, Nat.reduceMul]
      refine Settle.now ⟨(i + 1, _, _), by dsimp only; omega, ⟨by dsimp only; omega, ?_⟩, rfl⟩
      have e2 : l.take (i + 1) = l.take i ++ [l.getD i 0] := by
        rw [List.take_add_one, List.getElem?_eq_getElem hil, List.getD_eq_getElem?_getD, List.getElem?_eq_getElem hil]; rfl
      rw [e2]; exact hg2
    · obtain rfl : i = n := by omega
      simp (disch := first | assumption | (apply Ap.symm; assumption) | omega | decide | (simp only [U_len, List.length_append, List.length_replicate, List.length_cons, List.length_nil, List.length_set] <;> omega) | fail) only [hlt, ↓Xa, Xb, Xc, ↓reduceIte, Nat.reduceLT, Nat.reduceEqDiff, Nat.reduceBEq, Nat.reduceLeDiff, Nat.reduceAdd, Nat.reduceMul]
      refine Settle.now ?_
      simp (disch := first | assumption | (apply Ap.symm; assumption) | omega | decide | (simp only [U_len, List.length_append, List.length_replicate, List.length_cons, List.length_nil, List.length_set] <;> omega) | fail) only [rs53, ↓Xa, Xb, Xc, ↓reduceIte, Nat.reduceLT, Nat.reduceEqDiff, Nat.reduceBEq, Nat.reduceLeDiff, Nat.reduceAdd, Nat.reduceMul]
      rw [e] at hg
      exact grow_fin hg hq
  by_cases h0 : 0 < n
  · by_cases h2 : l.getD (n - 1) 0 = 0
    · simp (disch := first | assumption | (apply Ap.symm; assumption) | omega | decide | (simp only [U_len, List.length_append, List.length_replicate, List.length_cons, List.length_nil, List.length_set] <;> omega) | fail) only [h0, h2, ↓Xa, Xb, Xc, ↓reduceIte, Nat.reduceLT, Nat.reduceEqDiff, Nat.reduceBEq, Nat.reduceLeDiff, Nat.reduceAdd, Nat.reduceMul]
      refine Settle.now ⟨n - 1, ?_, ⟨by omega, fun i hi hl' => ?_⟩, rfl⟩
      · show n - 1 < n; omega
      · rcases Nat.lt_or_ge i n with h | h
        · rw [show i = n - 1 by omega]; exact h2
        · exact hz i h hl'
    · simp (disch := first | assumption | (apply Ap.symm; assumption) | omega | decide | (simp only [U_len, List.length_append, List.length_replicate, List.length_cons, List.length_nil, List.length_set] <;> omega) | fail) only [h0, h2, ↓Xa, Xb, Xc, ↓reduceIte, Nat.reduceLT, Nat.reduceEqDiff, Nat.reduceBEq, Nat.reduceLeDiff, Nat.reduceAdd, Nat.reduceMul]
      exact Settle.now (last (.inr h2))
  · simp (disch := first | assumption | (apply Ap.symm; assumption) | omega | decide | (simp only [U_len, List.length_append, List.length_replicate, List.length_cons, List.length_nil, List.length_set] <;> omega) | fail) only [h0, ↓Xa, Xb, Xc, ↓reduceIte, Nat.reduceLT, Nat.reduceEqDiff, Nat.reduceBEq, Nat.reduceLeDiff, Nat.reduceAdd, Nat.reduceMul]
    exact Settle.now (last (.inl (by omega)))
end Go.Proofs.YtipbcjnniamcgaaDoor.Fw

/- Plain facts of limbs: held against each other, added, subtracted, from the lowest up. -/
namespace Go.Proofs.YtipbcjnniamcgaaDoor.Ma
set_option linter.unusedSimpArgs false
set_option linter.unusedVariables false

theorem val_cut {B : Nat} (l : List Nat) (i : Nat) : val B l = val B (l.take i) + B ^ i * val B (l.drop i) := by
  by_cases h : i ≤ l.length
  · have e := val_append B (l.take i) (l.drop i)
    rw [List.take_append_drop, List.length_take, Nat.min_eq_left h] at e
    exact e
  · rw [List.take_of_length_le (by omega), List.drop_of_length_le (by omega)]
    simp [val]
/-- Sums, limb by limb. -/
def SumI (a b : List Nat) (i c : Nat) (done : List Nat) : Prop := done.length = i ∧ Lim 4294967296 done ∧ c ≤ 1 ∧ val 4294967296 done + 4294967296 ^ i * c = val 4294967296 (a.take i) + val 4294967296 (b.take i)
theorem SumI.zero (a b : List Nat) : SumI a b 0 0 [] := ⟨rfl, Lim.nil _, by omega, by simp [val]⟩
theorem SumI.step {a b done : List Nat} {i c s : Nat} (h : SumI a b i c done) (ha : Lim 4294967296 a) (hb : Lim 4294967296 b) (hs : s = c + (a.getD i 0 + b.getD i 0)) : SumI a b (i + 1) (s / 4294967296) (done ++ [s % 4294967296]) := by
  obtain ⟨h1, h2, h3, h4⟩ := h
  have ga := ha.getD (by omega) i
  have gb := hb.getD (by omega) i
  refine ⟨by simp [h1], lim_snoc h2 (Nat.mod_lt _ (by omega)), by omega, ?_⟩
  rw [val_snoc, val_take, val_take, h1, Nat.pow_succ]
  have e := Nat.mod_add_div s 4294967296
  have : 4294967296 ^ i * (s % 4294967296) + 4294967296 ^ i * 4294967296 * (s / 4294967296) = 4294967296 ^ i * s := by rw [Nat.mul_assoc, ← Nat.mul_add, e]
  rw [Nat.add_assoc, this, hs]
  simp only [Nat.mul_add]
  omega
theorem SumI.end {a b done : List Nat} {i : Nat} (h : SumI a b i 0 done) (ha : a.length ≤ i) (hb : b.length ≤ i) : val 4294967296 done = val 4294967296 a + val 4294967296 b := by
  have h4 := h.2.2.2
  rw [List.take_of_length_le ha, List.take_of_length_le hb] at h4
  omega
/-- Differences, limb by limb. -/
def DifI (a b : List Nat) (i c : Nat) (done : List Nat) : Prop := done.length = i ∧ Lim 4294967296 done ∧ c ≤ 1 ∧ val 4294967296 (a.take i) + 4294967296 ^ i * c = val 4294967296 done + val 4294967296 (b.take i)
theorem DifI.zero (a b : List Nat) : DifI a b 0 0 [] := ⟨rfl, Lim.nil _, by omega, by simp [val]⟩
theorem DifI.step {a b done : List Nat} {i c x c' : Nat} (h : DifI a b i c done) (hx : x < 4294967296) (hc' : c' ≤ 1) (hs : a.getD i 0 + 4294967296 * c' = x + (b.getD i 0 + c)) : DifI a b (i + 1) c' (done ++ [x]) := by
  obtain ⟨h1, h2, h3, h4⟩ := h
  refine ⟨by simp [h1], lim_snoc h2 hx, hc', ?_⟩
  rw [val_snoc, val_take, val_take, h1, Nat.pow_succ]
  have e : 4294967296 ^ i * (a.getD i 0 + 4294967296 * c') = 4294967296 ^ i * (x + (b.getD i 0 + c)) := by rw [hs]
  simp only [Nat.mul_add] at e
  rw [Nat.mul_assoc]
  omega
theorem DifI.end {a b done : List Nat} {c : Nat} (h : DifI a b a.length c done) (ha : Lim 4294967296 a) (hab : val 4294967296 b ≤ val 4294967296 a) : val 4294967296 done = val 4294967296 a - val 4294967296 b := by
  obtain ⟨h1, h2, h3, h4⟩ := h
  have l1 := val_lt ha
  have l2 := val_lt h2
  rw [h1] at l2
  have hb := val_cut (B := 4294967296) b a.length
  rw [List.take_of_length_le (Nat.le_refl _)] at h4
  have hz : val 4294967296 (b.drop a.length) = 0 := by
    rcases Nat.eq_zero_or_pos (val 4294967296 (b.drop a.length)) with e | e
    · exact e
    · have : 4294967296 ^ a.length * 1 ≤ 4294967296 ^ a.length * val 4294967296 (b.drop a.length) := Nat.mul_le_mul_left _ e
      omega
  rw [hz] at hb
  have hc : c = 0 := by
    rcases Nat.eq_zero_or_pos c with e | e
    · exact e
    · obtain rfl : c = 1 := by omega
      omega
  subst hc
  omega
end Go.Proofs.YtipbcjnniamcgaaDoor.Ma

/- The reference for limbs: held against each other, added, subtracted. -/
namespace Go.Proofs.YtipbcjnniamcgaaDoor.Fw
set_option linter.unusedSimpArgs false
set_option linter.unusedVariables false
open Go Go.Proofs.YtipbcjnniamcgaaDoor.Ma
set_option maxRecDepth 20000

theorem ladd_fn {a b : List Nat} (ta tb : Bool) (ha : Lim 4294967296 a) (hb : Lim 4294967296 b) (la : a.length ≤ 274877906944) (lb : b.length ≤ 274877906944) : PFn Tryd.prog 57 [LS a ta, LS b tb] (LS (digs 4294967296 (val 4294967296 a + val 4294967296 b)) false) := by
  intro H Q hq
  refine enter57 (by simp) ?_
  simp (disch := first | assumption | (apply Ap.symm; assumption) | omega | decide | (simp only [U_len, List.length_append, List.length_replicate, List.length_cons, List.length_nil, List.length_set] <;> omega) | fail) only [ac57, ↓Xa, Xb, Xc, ↓reduceIte, Nat.reduceLT, Nat.reduceEqDiff, Nat.reduceBEq, Nat.reduceLeDiff, Nat.reduceAdd, Nat.reduceMul]
  refine W_loop (fun s : Nat × Nat × List Nat × AV × AHeap => ⟨[], [(0, LS a ta), (1, LS b tb), (5, s.2.2.2.1), (6, .int .u64 (s.2.1 : Nat)), (7, .int .i64 (s.1 : Nat))], s.2.2.2.2⟩)
    (fun s => (s.1 ≤ max a.length b.length + 1 ∧ (max a.length b.length < s.1 → s.2.1 = 0)) ∧ SumI a b s.1 s.2.1 s.2.2.1 ∧ grow H 45 s.2.2.1 s.2.2.2.1 s.2.2.2.2) (fun s => 2 * (max a.length b.length - s.1) + s.2.1) (0, 0, [], _, _) (Settle.now rfl) ⟨⟨Nat.zero_le _, fun _ => rfl⟩, SumI.zero a b, grow_nil⟩ ?_
  rintro ⟨i, c, done, x, H'⟩ ⟨⟨hi, hi2⟩, hI, hg⟩
  dsimp only at hi hi2 hI hg ⊢
  have hx := ha.getD (by omega) i
  have hy := hb.getD (by omega) i
  have hc := hI.2.2.1
  have hdl := hI.1
  have beyond : max a.length b.length ≤ i → (c + (a.getD i 0 + b.getD i 0)) / 4294967296 = 0 := fun h => by
    rw [getD_beyond (show a.length ≤ i by omega), getD_beyond (show b.length ≤ i by omega)]; omega
  by_cases hw : i < a.length ∨ i < b.length ∨ 0 < c
  · have himax : i ≤ max a.length b.length := by
      apply Nat.le_of_not_lt; intro h
      have := hi2 h
      omega
    have meas : 2 * (max a.length b.length - (i + 1)) + (c + (a.getD i 0 + b.getD i 0)) / 4294967296 < 2 * (max a.length b.length - i) + c := by
      rcases Nat.lt_or_ge i (max a.length b.length) with h | h
      · omega
      · have := beyond h; omega
    have inv : i + 1 ≤ max a.length b.length + 1 ∧ (max a.length b.length < i + 1 → (c + (a.getD i 0 + b.getD i 0)) / 4294967296 = 0) := ⟨by omega, fun h => beyond (by omega)⟩
    have hdn : done.length + 1 ≤ 17592186044416 := by omega
    by_cases h1 : i < a.length
    · simp (disch := first | assumption | (apply Ap.symm; assumption) | omega | decide | (simp only [U_len, List.length_append, List.length_replicate, List.length_cons, List.length_nil, List.length_set] <;> omega) | fail) only [h1, ↓Xa, Xb, Xc, ↓reduceIte, Nat.reduceLT, Nat.reduceEqDiff, Nat.reduceBEq, Nat.reduceLeDiff, Nat.reduceAdd, Nat.reduceMul]
      refine (lat_fn ta (by omega)).call ?_
      simp (disch := first | assumption | (apply Ap.symm; assumption) | omega | decide | (simp only [U_len, List.length_append, List.length_replicate, List.length_cons, List.length_nil, List.length_set] <;> omega) | fail) only [↓Xa, Xb, Xc, ↓reduceIte, Nat.reduceLT, Nat.reduceEqDiff, Nat.reduceBEq, Nat.reduceLeDiff, Nat.reduceAdd, Nat.reduceMul]
      refine (lat_fn tb (by omega)).call ?_
      simp (disch := first | assumption | (apply Ap.symm; assumption) | omega | decide | (simp only [U_len, List.length_append, List.length_replicate, List.length_cons, List.length_nil, List.length_set] <;> omega) | fail) only [rep1, ne_eq, Nat.reduceEqDiff, ↓Xa, Xb, Xc, ↓reduceIte, Nat.reduceLT, Nat.reduceEqDiff, Nat.reduceBEq, Nat.reduceLeDiff, Nat.reduceAdd, Nat.reduceMul]
      refine app_grow (m := [(c + (a.getD i 0 + b.getD i 0)) % 4294967296]) hg rfl (by simp) (by simp; omega) fun z' H2 hg2 => ?_
      simp (disch := first | assumption | (apply Ap.symm; assumption) | omega | decide | (simp only [U_len, List.length_append, List.length_replicate, List.length_cons, List.length_nil, List.length_set] <;> omega) | fail) only [ne_eq, Nat.reduceEqDiff, ↓Xa, Xb, Xc, ↓reduceIte, Nat.reduceLT, Nat.reduceEqDiff, Nat.reduceBEq, Nat.reduceLeDiff, Nat.reduceAdd, Nat.reduceMul]
      exact Settle.now ⟨(i + 1, _, done ++ [_], _, _), meas, ⟨inv, hI.step ha hb rfl, hg2⟩, rfl⟩
    · by_cases h2 : i < b.length
      · simp (disch := first | assumption | (apply Ap.symm; assumption) | omega | decide | (simp only [U_len, List.length_append, List.length_replicate, List.length_cons, List.length_nil, List.length_set] <;> omega) | fail) only [h1, h2, ↓Xa, Xb, Xc, ↓reduceIte, Nat.reduceLT, Nat.reduceEqDiff, Nat.reduceBEq, Nat.reduceLeDiff, Nat.reduceAdd, Nat.reduceMul]
        refine (lat_fn ta (by omega)).call ?_
        simp (disch := first | assumption | (apply Ap.symm; assumption) | omega | decide | (simp only [U_len, List.length_append, List.length_replicate, List.length_cons, List.length_nil, List.length_set] <;> omega) | fail) only [↓Xa, Xb, Xc, ↓reduceIte, Nat.reduceLT, Nat.reduceEqDiff, Nat.reduceBEq, Nat.reduceLeDiff, Nat.reduceAdd, Nat.reduceMul]
        refine (lat_fn tb (by omega)).call ?_
        simp (disch := first | assumption | (apply Ap.symm; assumption) | omega | decide | (simp only [U_len, List.length_append, List.length_replicate, List.length_cons, List.length_nil, List.length_set] <;> omega) | fail) only [rep1, ne_eq, Nat.reduceEqDiff, ↓Xa, Xb, Xc, ↓reduceIte, Nat.reduceLT, Nat.reduceEqDiff, Nat.reduceBEq, Nat.reduceLeDiff, Nat.reduceAdd, Nat.reduceMul]
        refine app_grow (m := [(c + (a.getD i 0 + b.getD i 0)) % 4294967296]) hg rfl (by simp) (by simp; omega) fun z' H2 hg2 => ?_
        simp (disch := first | assumption | (apply Ap.symm; assumption) | omega | decide | (simp only [U_len, List.length_append, List.length_replicate, List.length_cons, List.length_nil, List.length_set] <;> omega) | fail) only [ne_eq, Nat.reduceEqDiff, ↓Xa, Xb, Xc, ↓reduceIte, Nat.reduceLT, Nat.reduceEqDiff, Nat.reduceBEq, Nat.reduceLeDiff, Nat.reduceAdd, Nat.reduceMul]
        exact Settle.now ⟨(i + 1, _, done ++ [_], _, _), meas, ⟨inv, hI.step ha hb rfl, hg2⟩, rfl⟩
      · have h3 : 0 < c := by omega
        simp (disch := first | assumption | (apply Ap.symm; assumption) | omega | decide | (simp only [U_len, List.length_append, List.length_replicate, List.length_cons, List.length_nil, List.length_set] <;> omega) | fail) only [h1, h2, h3, ↓Xa, Xb, Xc, ↓reduceIte, Nat.reduceLT, Nat.reduceEqDiff, Nat.reduceBEq, Nat.reduceLeDiff, Nat.reduceAdd, Nat.reduceMul]
        refine (lat_fn ta (by omega)).call ?_
        simp (disch := first | assumption | (apply Ap.symm; assumption) | omega | decide | (simp only [U_len, List.length_append, List.length_replicate, List.length_cons, List.length_nil, List.length_set] <;> omega) | fail) only [↓Xa, Xb, Xc, ↓reduceIte, Nat.reduceLT, Nat.reduceEqDiff, Nat.reduceBEq, Nat.reduceLeDiff, Nat.reduceAdd, Nat.reduceMul]
        refine (lat_fn tb (by omega)).call ?_
        simp (disch := first | assumption | (apply Ap.symm; assumption) | omega | decide | (simp only [U_len, List.length_append, List.length_replicate, List.length_cons, List.length_nil, List.length_set] <;> omega) | fail) only [rep1, ne_eq, Nat.reduceEqDiff, ↓Xa, Xb, Xc, ↓reduceIte, Nat.reduceLT, Nat.reduceEqDiff, Nat.reduceBEq, Nat.reduceLeDiff, Nat.reduceAdd, Nat.reduceMul]
        refine app_grow (m := [(c + (a.getD i 0 + b.getD i 0)) % 4294967296]) hg rfl (by simp) (by simp; omega) fun z' H2 hg2 => ?_
        simp (disch := first | assumption | (apply Ap.symm; assumption) | omega | decide | (simp only [U_len, List.length_append, List.length_replicate, List.length_cons, List.length_nil, List.length_set] <;> omega) | fail) only [ne_eq, Nat.reduceEqDiff, ↓Xa, Xb, Xc, ↓reduceIte, Nat.reduceLT, Nat.reduceEqDiff, Nat.reduceBEq, Nat.reduceLeDiff, Nat.reduceAdd, Nat.reduceMul]
        exact Settle.now ⟨(i + 1, _, done ++ [_], _, _), meas, ⟨inv, hI.step ha hb rfl, hg2⟩, rfl⟩
  · have h1 : ¬ i < a.length := by omega
    have h2 : ¬ i < b.length := by omega
    obtain rfl : c = 0 := by omega
    have hv := hI.end (by omega) (by omega)
    simp (disch := first | assumption | (apply Ap.symm; assumption) | omega | decide | (simp only [U_len, List.length_append, List.length_replicate, List.length_cons, List.length_nil, List.length_set] <;> omega) | fail) only [h1, h2, ↓Xa, Xb, Xc, ↓reduceIte, Nat.reduceLT, Nat.reduceEqDiff, Nat.reduceBEq, Nat.reduceLeDiff, Nat.reduceAdd, Nat.reduceMul]
    refine Settle.grown 5 rfl hg (Settle.now ?_)
    simp (disch := first | assumption | (apply Ap.symm; assumption) | omega | decide | (simp only [U_len, List.length_append, List.length_replicate, List.length_cons, List.length_nil, List.length_set] <;> omega) | fail) only [↓Xa, Xb, Xc, ↓reduceIte, Nat.reduceLT, Nat.reduceEqDiff, Nat.reduceBEq, Nat.reduceLeDiff, Nat.reduceAdd, Nat.reduceMul]
    refine (lnorm_fn false (by omega)).call ?_
    rw [tr_digs (by omega) hI.2.1, hv]
    simp (disch := first | assumption | (apply Ap.symm; assumption) | omega | decide | (simp only [U_len, List.length_append, List.length_replicate, List.length_cons, List.length_nil, List.length_set] <;> omega) | fail) only [rs57, ↓Xa, Xb, Xc, ↓reduceIte, Nat.reduceLT, Nat.reduceEqDiff, Nat.reduceBEq, Nat.reduceLeDiff, Nat.reduceAdd, Nat.reduceMul]
    exact SetR.now hq
end Go.Proofs.YtipbcjnniamcgaaDoor.Fw

/- Whether rows are long, as package swagelaw01 asks it. -/
namespace Go.Proofs.YtipbcjnniamcgaaDoor.Fw
set_option linter.unusedSimpArgs false
set_option linter.unusedVariables false
open Go Go.Proofs.YtipbcjnniamcgaaDoor.Ma
set_option maxRecDepth 20000

/-- Rows of limbs, one behind the other. -/
def RowC (l : List (List Nat × Bool)) : List AV := l.map fun q => LS q.1 q.2
theorem RowC_len {l : List (List Nat × Bool)} : (RowC l).length = l.length := by simp [RowC]
def lngA (l : List (List Nat × Bool)) : Bool := l.any fun q => decide (160 < q.1.length)
theorem long1_fn {l : List Nat} (t : Bool) (hl : l.length < 9223372036854775808) : PFn Tryd.prog 98 [LS l t] (.bool (decide (160 < l.length))) := by
  intro H Q hq
  refine enter98 (by simp) ?_
  simp (disch := first | assumption | (apply Ap.symm; assumption) | omega | decide | (simp only [U_len, List.length_append, List.length_replicate, List.length_cons, List.length_nil, List.length_set] <;> omega) | fail) only [ac98, rs98, ↓Xa, Xb, Xc, ↓reduceIte, Nat.reduceLT, Nat.reduceEqDiff, Nat.reduceBEq, Nat.reduceLeDiff, Nat.reduceAdd, Nat.reduceMul]
  exact SetR.now hq
theorem index_run {H : AHeap} {Q : AV → AHeap → Prop} (l : List (List Nat × Bool)) (t : Bool) (hl : l.length < 1000) (hb : ∀ q, q ∈ l → q.1.length < 9223372036854775808) (hq : ∀ r : Int, decide (((0 : Nat) : Int) ≤ r) = lngA l → Q (.int .i64 r) H) :
    Run Tryd.prog 118 [.seq l.length (RowC l) t, .fn (.func 98) [] []] H Q := by
  have len9 : ∀ {n : Nat} {c : List AV} {t : Bool} {K : AV → Prop} (_ : n < 2 ^ 63), lenW false (.seq n c t) K = K (.int .i64 ((n : Nat) : Int)) := fun h => by simp [lenW, h]
  have idx9 : ∀ {i : Nat} {K : AV → Prop} (_ : i < l.length), idxAW 1 (.seq l.length (RowC l) t) (.int .i64 (i : Int)) K = K (.cptr ((RowC l).drop i)) := fun {i K} h => by simp [idxAW, RowC_len, h]
  have ld9 : ∀ {i : Nat} {K : AV → Prop} (h : i < l.length), loadW H none (.cptr ((RowC l).drop i)) K = K (LS (l[i]).1 (l[i]).2) := fun {i K} h => by
    have e : (RowC l).drop i = LS (l[i]).1 (l[i]).2 :: (RowC l).drop (i + 1) := by
      rw [List.drop_eq_getElem_cons (by rw [RowC_len]; exact h)]; simp [RowC]
    simp only [loadW, cellsAt, e]
    simp
  refine enter118 (by simp) ?_
  simp (disch := first | assumption | (apply Ap.symm; assumption) | omega | decide | (simp only [U_len, List.length_append, List.length_replicate, List.length_cons, List.length_nil, List.length_set] <;> omega) | fail) only [ac118, len9, ↓Xa, Xb, Xc, ↓reduceIte, Nat.reduceLT, Nat.reduceEqDiff, Nat.reduceBEq, Nat.reduceLeDiff, Nat.reduceAdd, Nat.reduceMul]
  refine W_loop (fun i : Nat => ⟨[], [(0, .seq l.length (RowC l) t), (1, .fn (.func 98) [] []), (7, .int .i64 (l.length : Nat)), (8, .int .i64 (i : Nat))], H⟩) (fun i => i ≤ l.length ∧ ∀ q, q ∈ l.take i → ¬ 160 < q.1.length) (fun i => l.length - i) 0 (Settle.now rfl) ⟨by simp, by simp⟩ ?_
  rintro i ⟨h1, h2⟩
  by_cases hi : i < l.length
  · have hbi := hb (l[i]) (List.getElem_mem hi)
    simp (disch := first | assumption | (apply Ap.symm; assumption) | omega | decide | (simp only [U_len, List.length_append, List.length_replicate, List.length_cons, List.length_nil, List.length_set] <;> omega) | fail) only [hi, idx9, ld9, ↓Xa, Xb, Xc, ↓reduceIte, Nat.reduceLT, Nat.reduceEqDiff, Nat.reduceBEq, Nat.reduceLeDiff, Nat.reduceAdd, Nat.reduceMul]
    refine (long1_fn _ hbi).call ?_
    by_cases hv : 160 < (l[i]).1.length
    · simp (disch := first | assumption | (apply Ap.symm; assumption) | omega | decide | (simp only [U_len, List.length_append, List.length_replicate, List.length_cons, List.length_nil, List.length_set] <;> omega) | fail) only [hv, rs118, ↓Xa, Xb, Xc, ↓reduceIte, Nat.reduceLT, Nat.reduceEqDiff, Nat.reduceBEq, Nat.reduceLeDiff, Nat.reduceAdd, Nat.reduceMul]
      have e : lngA l = true := List.any_eq_true.2 ⟨_, List.getElem_mem hi, by simpa using hv⟩
      exact SetR.now (hq _ (by rw [e]; simp))
    · simp (disch := first | assumption | (apply Ap.symm; assumption) | omega | decide | (simp only [U_len, List.length_append, List.length_replicate, List.length_cons, List.length_nil, List.length_set] <;> omega) | fail) only [hv, ↓Xa, Xb, Xc, ↓reduceIte, Nat.reduceLT, Nat.reduceEqDiff, Nat.reduceBEq, Nat.reduceLeDiff, Nat.reduceAdd, Nat.reduceMul]
      refine Settle.now ⟨i + 1, by omega, ⟨by omega, fun q hq => ?_⟩, rfl⟩
      rw [List.take_add_one, List.getElem?_eq_getElem hi, List.mem_append] at hq
      rcases hq with hq | hq
      · exact h2 q hq
      · rw [List.mem_singleton.1 hq]; exact hv
  · simp (disch := first | assumption | (apply Ap.symm; assumption) | omega | decide | (simp only [U_len, List.length_append, List.length_replicate, List.length_cons, List.length_nil, List.length_set] <;> omega) | fail) only [hi, ↓Xa, Xb, Xc, ↓reduceIte, Nat.reduceLT, Nat.reduceEqDiff, Nat.reduceBEq, Nat.reduceLeDiff, Nat.reduceAdd, Nat.reduceMul]
    refine Settle.now ?_
    simp (disch := first | assumption | (apply Ap.symm; assumption) | omega | decide | (simp only [U_len, List.length_append, List.length_replicate, List.length_cons, List.length_nil, List.length_set] <;> omega) | fail) only [rs118, ↓Xa, Xb, Xc, ↓reduceIte, Nat.reduceLT, Nat.reduceEqDiff, Nat.reduceBEq, Nat.reduceLeDiff, Nat.reduceAdd, Nat.reduceMul]
    have e : lngA l = false := by
      rw [List.take_of_length_le (by omega)] at h2
      exact List.any_eq_false.2 fun q hq => by simpa using h2 q hq
    exact SetR.now (hq _ (by rw [e]; simp))
theorem llong_fn (l : List (List Nat × Bool)) (t : Bool) (hl : l.length < 1000) (hb : ∀ q, q ∈ l → q.1.length < 9223372036854775808) : PFn Tryd.prog 51 [.seq l.length (RowC l) t] (.bool (lngA l)) := by
  intro H Q hq
  refine enter51 (by simp) ?_
  simp (disch := first | assumption | (apply Ap.symm; assumption) | omega | decide | (simp only [U_len, List.length_append, List.length_replicate, List.length_cons, List.length_nil, List.length_set] <;> omega) | fail) only [ac51, ↓Xa, Xb, Xc, ↓reduceIte, Nat.reduceLT, Nat.reduceEqDiff, Nat.reduceBEq, Nat.reduceLeDiff, Nat.reduceAdd, Nat.reduceMul]
  refine PFn.call (r := .bool (lngA l)) (fun H Q hq => ?_) ?_
  · refine enter97 (by simp) ?_
    simp (disch := first | assumption | (apply Ap.symm; assumption) | omega | decide | (simp only [U_len, List.length_append, List.length_replicate, List.length_cons, List.length_nil, List.length_set] <;> omega) | fail) only [ac97, ↓Xa, Xb, Xc, ↓reduceIte, Nat.reduceLT, Nat.reduceEqDiff, Nat.reduceBEq, Nat.reduceLeDiff, Nat.reduceAdd, Nat.reduceMul]
    refine run_call (index_run l t hl hb fun r hr => ?_)
    have c : ∀ K, binW .geq (.int .i64 r) (.int .i64 ((0 : Nat) : Int)) K ↔ K (.bool (lngA l)) := fun K => by
      rw [← hr]; simp only [binW, binInt, true_and]
    simp (disch := first | assumption | (apply Ap.symm; assumption) | omega | decide | (simp only [U_len, List.length_append, List.length_replicate, List.length_cons, List.length_nil, List.length_set] <;> omega) | fail) only [c, rs97, ↓Xa, Xb, Xc, ↓reduceIte, Nat.reduceLT, Nat.reduceEqDiff, Nat.reduceBEq, Nat.reduceLeDiff, Nat.reduceAdd, Nat.reduceMul]
    exact SetR.now hq
  · simp (disch := first | assumption | (apply Ap.symm; assumption) | omega | decide | (simp only [U_len, List.length_append, List.length_replicate, List.length_cons, List.length_nil, List.length_set] <;> omega) | fail) only [rs51, ↓Xa, Xb, Xc, ↓reduceIte, Nat.reduceLT, Nat.reduceEqDiff, Nat.reduceBEq, Nat.reduceLeDiff, Nat.reduceAdd, Nat.reduceMul]
    exact SetR.now hq
end Go.Proofs.YtipbcjnniamcgaaDoor.Fw

/- The looked-up code of one function, and that it is: by a program (wip/tools/ac.py); Lean checks it. -/
namespace Go.Proofs.YtipbcjnniamcgaaDoor.Fw
open Go
set_option maxRecDepth 100000
end Go.Proofs.YtipbcjnniamcgaaDoor.Fw

/- The law of sums of limbs, as what its code computes: true. -/
namespace Go.Proofs.YtipbcjnniamcgaaDoor.Fw
set_option linter.unusedSimpArgs false
set_option linter.unusedVariables false
open Go Go.Proofs.YtipbcjnniamcgaaDoor.Ma
set_option maxRecDepth 20000

/-- The reference's functions, by what the rows stand for. -/
theorem lnorm_n {a : List Nat} {m k : Nat} (ta : Bool) (ha : Nm a m k) (hk : k ≤ 1000000) : PFn Tryd.prog 53 [LS a ta] (LS (Ma.digs 4294967296 m) false) := by
  have h := lnorm_fn (l := a) ta (by have := ha.len; omega)
  rw [tr_digs (by omega) ha.lim, ha.val] at h; exact h
theorem ladd_n {a b : List Nat} {m n k k' : Nat} (ta tb : Bool) (ha : Nm a m k) (hb : Nm b n k') (hk : k ≤ 1000000) (hk' : k' ≤ 1000000) : PFn Tryd.prog 57 [LS a ta, LS b tb] (LS (Ma.digs 4294967296 (m + n)) false) := by
  have h := ladd_fn ta tb ha.lim hb.lim (by have := ha.len; omega) (by have := hb.len; omega)
  rw [ha.val, hb.val] at h; exact h
end Go.Proofs.YtipbcjnniamcgaaDoor.Fw

/- The looked-up code of one function, and that it is: by a program (wip/tools/ac.py); Lean checks it. -/
namespace Go.Proofs.YtipbcjnniamcgaaDoor.Fw
open Go
set_option maxRecDepth 100000
end Go.Proofs.YtipbcjnniamcgaaDoor.Fw

/- The law of quotients and remainders of limbs, without the reference, as what its code computes: true. -/
namespace Go.Proofs.YtipbcjnniamcgaaDoor.Fw
set_option linter.unusedSimpArgs false
set_option linter.unusedVariables false
open Go Go.Proofs.YtipbcjnniamcgaaDoor.Ma
set_option maxRecDepth 20000

theorem Nm.one {c : Nat} (h : c < 4294967296) : Nm [c] c 1 := ⟨Lim.one h, val_one _ _, Nat.le_refl _⟩
theorem muls_n {a : List Nat} {m k c : Nat} (ta : Bool) (ha : Nm a m k) (hk : k ≤ 1000000) (hc : c < 4294967296) : PFn Tryd.prog 41 [LS a ta, .int .u32 (c : Nat)] (LS (Ma.digs 4294967296 (m * c)) true) := by
  intro H Q hq
  refine enter41 (by simp) ?_
  simp (disch := first | assumption | (apply Ap.symm; assumption) | omega | decide | (simp only [U_len, List.length_append, List.length_replicate, List.length_cons, List.length_nil, List.length_set] <;> omega) | fail) only [ac41, ↓Xa, Xb, Xc, ↓reduceIte, Nat.reduceLT, Nat.reduceEqDiff, Nat.reduceBEq, Nat.reduceLeDiff, Nat.reduceAdd, Nat.reduceMul]
  refine (mul_n (b := [c]) ta true ha (Nm.one hc) hk (by omega)).call ?_
  simp (disch := first | assumption | (apply Ap.symm; assumption) | omega | decide | (simp only [U_len, List.length_append, List.length_replicate, List.length_cons, List.length_nil, List.length_set] <;> omega) | fail) only [rs41, ↓Xa, Xb, Xc, ↓reduceIte, Nat.reduceLT, Nat.reduceEqDiff, Nat.reduceBEq, Nat.reduceLeDiff, Nat.reduceAdd, Nat.reduceMul]
  exact SetR.now hq
end Go.Proofs.YtipbcjnniamcgaaDoor.Fw

/- The looked-up code of one function, and that it is: by a program (wip/tools/ac.py); Lean checks it. -/
namespace Go.Proofs.YtipbcjnniamcgaaDoor.Fw
open Go
set_option maxRecDepth 100000
end Go.Proofs.YtipbcjnniamcgaaDoor.Fw

/- The reference for limbs: products; the law of products of limbs, as what its code computes: true. -/
namespace Go.Proofs.YtipbcjnniamcgaaDoor.Fw
set_option linter.unusedSimpArgs false
set_option linter.unusedVariables false
open Go Go.Proofs.YtipbcjnniamcgaaDoor.Ma
set_option maxRecDepth 20000

/-- A row times one limb, from the lowest up. -/
def MuI (a : List Nat) (m i c : Nat) (done : List Nat) : Prop := done.length = i ∧ Lim 4294967296 done ∧ c < 4294967296 ∧ val 4294967296 done + 4294967296 ^ i * c = val 4294967296 (a.take i) * m
theorem MuI.zero (a : List Nat) (m : Nat) : MuI a m 0 0 [] := ⟨rfl, Lim.nil _, by omega, by simp [val]⟩
theorem mul_fit {x m c : Nat} (hx : x < 4294967296) (hm : m < 4294967296) (hc : c < 4294967296) : c + x * m < 4294967296 * 4294967296 ∧ (c + x * m) / 4294967296 < 4294967296 := by
  have h : x * m ≤ (4294967296 - 1) * (4294967296 - 1) := Nat.mul_le_mul (by omega) (by omega)
  have h2 : c + x * m < 4294967296 * 4294967296 := by omega
  exact ⟨h2, Nat.div_lt_of_lt_mul h2⟩
theorem MuI.step {a done : List Nat} {m i c s : Nat} (h : MuI a m i c done) (ha : Lim 4294967296 a) (hm : m < 4294967296) (hs : s = c + a.getD i 0 * m) : MuI a m (i + 1) (s / 4294967296) (done ++ [s % 4294967296]) := by
  obtain ⟨h1, h2, h3, h4⟩ := h
  have ga := ha.getD (by omega) i
  refine ⟨by simp [h1], lim_snoc h2 (Nat.mod_lt _ (by omega)), by rw [hs]; exact (mul_fit ga hm h3).2, ?_⟩
  rw [val_snoc, val_take, h1, Nat.pow_succ]
  have e := Nat.mod_add_div s 4294967296
  have e1 : 4294967296 ^ i * (s % 4294967296) + 4294967296 ^ i * 4294967296 * (s / 4294967296) = 4294967296 ^ i * s := by rw [Nat.mul_assoc, ← Nat.mul_add, e]
  rw [Nat.add_assoc, e1, hs, Nat.mul_add, ← Nat.add_assoc, h4, Nat.add_mul, Nat.mul_assoc]
theorem lmuls_fn {a : List Nat} {m : Nat} (ta : Bool) (ha : Lim 4294967296 a) (hm : m < 4294967296) (la : a.length ≤ 274877906944) : PFn Tryd.prog 55 [LS a ta, .int .u32 (m : Int)] (LS (digs 4294967296 (val 4294967296 a * m)) false) := by
  intro H Q hq
  refine enter55 (by simp) ?_
  simp (disch := first | assumption | (apply Ap.symm; assumption) | omega | decide | (simp only [U_len, List.length_append, List.length_replicate, List.length_cons, List.length_nil, List.length_set] <;> omega) | fail) only [ac55, ↓Xa, Xb, Xc, ↓reduceIte, Nat.reduceLT, Nat.reduceEqDiff, Nat.reduceBEq, Nat.reduceLeDiff, Nat.reduceAdd, Nat.reduceMul]
  refine W_loop (fun s : Nat × Nat × List Nat × AV × AHeap => ⟨[], [(0, LS a ta), (1, .int .u32 (m : Int)), (5, s.2.2.2.1), (6, .int .u64 (s.2.1 : Nat)), (7, .int .i64 (s.1 : Nat))], s.2.2.2.2⟩)
    (fun s => (s.1 ≤ a.length + 1 ∧ (a.length < s.1 → s.2.1 = 0)) ∧ MuI a m s.1 s.2.1 s.2.2.1 ∧ grow H 45 s.2.2.1 s.2.2.2.1 s.2.2.2.2) (fun s => 2 * (a.length - s.1) + min s.2.1 1) (0, 0, [], _, _) (Settle.now rfl) ⟨⟨Nat.zero_le _, fun _ => rfl⟩, MuI.zero a m, grow_nil⟩ ?_
  rintro ⟨i, c, done, x, H'⟩ ⟨⟨hi, hi2⟩, hI, hg⟩
  dsimp only at hi hi2 hI hg ⊢
  have hx := ha.getD (by omega) i
  have hc := hI.2.2.1
  have hdl := hI.1
  obtain ⟨f1, f2⟩ := mul_fit hx hm hc
  have f3 : a.getD i 0 * m < 18446744073709551616 := by omega
  have beyond : a.length ≤ i → (c + a.getD i 0 * m) / 4294967296 = 0 := fun h => by
    rw [getD_beyond h, Nat.zero_mul]; omega
  by_cases hw : i < a.length ∨ 0 < c
  · have himax : i ≤ a.length := by
      apply Nat.le_of_not_lt; intro h
      have := hi2 h
      omega
    have meas : 2 * (a.length - (i + 1)) + min ((c + a.getD i 0 * m) / 4294967296) 1 < 2 * (a.length - i) + min c 1 := by
      rcases Nat.lt_or_ge i a.length with h | h
      · omega
      · have := beyond h; omega
    have inv : i + 1 ≤ a.length + 1 ∧ (a.length < i + 1 → (c + a.getD i 0 * m) / 4294967296 = 0) := ⟨by omega, fun h => beyond (by omega)⟩
    have hdn : done.length + 1 ≤ 17592186044416 := by omega
    have st := hI.step ha hm rfl
    by_cases h1 : i < a.length
    · simp (disch := first | assumption | (apply Ap.symm; assumption) | omega | decide | (simp only [U_len, List.length_append, List.length_replicate, List.length_cons, List.length_nil, List.length_set] <;> omega) | fail) only [h1, ↓Xa, Xb, Xc, ↓reduceIte, Nat.reduceLT, Nat.reduceEqDiff, Nat.reduceBEq, Nat.reduceLeDiff, Nat.reduceAdd, Nat.reduceMul]
      refine (lat_fn ta (by omega)).call ?_
      simp (disch := first | assumption | (apply Ap.symm; assumption) | omega | decide | (simp only [U_len, List.length_append, List.length_replicate, List.length_cons, List.length_nil, List.length_set] <;> omega) | fail) only [rep1, ne_eq, Nat.reduceEqDiff, ↓Xa, Xb, Xc, ↓reduceIte, Nat.reduceLT, Nat.reduceEqDiff, Nat.reduceBEq, Nat.reduceLeDiff, Nat.reduceAdd, Nat.reduceMul]
      refine app_grow (m := [(c + a.getD i 0 * m) % 4294967296]) hg rfl (by simp) (by simp; omega) fun z' H2 hg2 => ?_
      simp (disch := first | assumption | (apply Ap.symm; assumption) | omega | decide | (simp only [U_len, List.length_append, List.length_replicate, List.length_cons, List.length_nil, List.length_set] <;> omega) | fail) only [ne_eq, Nat.reduceEqDiff, ↓Xa, Xb, Xc, ↓reduceIte, Nat.reduceLT, Nat.reduceEqDiff, Nat.reduceBEq, Nat.reduceLeDiff, Nat.reduceAdd, Nat.reduceMul]
      exact Settle.now ⟨(i + 1, _, done ++ [_], _, _), meas, ⟨inv, st, hg2⟩, rfl⟩
    · have h3 : 0 < c := by omega
      simp (disch := first | assumption | (apply Ap.symm; assumption) | omega | decide | (simp only [U_len, List.length_append, List.length_replicate, List.length_cons, List.length_nil, List.length_set] <;> omega) | fail) only [h1, h3, ↓Xa, Xb, Xc, ↓reduceIte, Nat.reduceLT, Nat.reduceEqDiff, Nat.reduceBEq, Nat.reduceLeDiff, Nat.reduceAdd, Nat.reduceMul]
      refine (lat_fn ta (by omega)).call ?_
      simp (disch := first | assumption | (apply Ap.symm; assumption) | omega | decide | (simp only [U_len, List.length_append, List.length_replicate, List.length_cons, List.length_nil, List.length_set] <;> omega) | fail) only [rep1, ne_eq, Nat.reduceEqDiff, ↓Xa, Xb, Xc, ↓reduceIte, Nat.reduceLT, Nat.reduceEqDiff, Nat.reduceBEq, Nat.reduceLeDiff, Nat.reduceAdd, Nat.reduceMul]
      refine app_grow (m := [(c + a.getD i 0 * m) % 4294967296]) hg rfl (by simp) (by simp; omega) fun z' H2 hg2 => ?_
      simp (disch := first | assumption | (apply Ap.symm; assumption) | omega | decide | (simp only [U_len, List.length_append, List.length_replicate, List.length_cons, List.length_nil, List.length_set] <;> omega) | fail) only [ne_eq, Nat.reduceEqDiff, ↓Xa, Xb, Xc, ↓reduceIte, Nat.reduceLT, Nat.reduceEqDiff, Nat.reduceBEq, Nat.reduceLeDiff, Nat.reduceAdd, Nat.reduceMul]
      exact Settle.now ⟨(i + 1, _, done ++ [_], _, _), meas, ⟨inv, st, hg2⟩, rfl⟩
  · have h1 : ¬ i < a.length := by omega
    obtain rfl : c = 0 := by omega
    have hv := hI.2.2.2
    rw [Nat.mul_zero, Nat.add_zero, List.take_of_length_le (by omega)] at hv
    simp (disch := first | assumption | (apply Ap.symm; assumption) | omega | decide | (simp only [U_len, List.length_append, List.length_replicate, List.length_cons, List.length_nil, List.length_set] <;> omega) | fail) only [h1, ↓Xa, Xb, Xc, ↓reduceIte, Nat.reduceLT, Nat.reduceEqDiff, Nat.reduceBEq, Nat.reduceLeDiff, Nat.reduceAdd, Nat.reduceMul]
    refine Settle.grown 5 rfl hg (Settle.now ?_)
    simp (disch := first | assumption | (apply Ap.symm; assumption) | omega | decide | (simp only [U_len, List.length_append, List.length_replicate, List.length_cons, List.length_nil, List.length_set] <;> omega) | fail) only [↓Xa, Xb, Xc, ↓reduceIte, Nat.reduceLT, Nat.reduceEqDiff, Nat.reduceBEq, Nat.reduceLeDiff, Nat.reduceAdd, Nat.reduceMul]
    refine (lnorm_fn false (by omega)).call ?_
    rw [tr_digs (by omega) hI.2.1, hv]
    simp (disch := first | assumption | (apply Ap.symm; assumption) | omega | decide | (simp only [U_len, List.length_append, List.length_replicate, List.length_cons, List.length_nil, List.length_set] <;> omega) | fail) only [rs55, ↓Xa, Xb, Xc, ↓reduceIte, Nat.reduceLT, Nat.reduceEqDiff, Nat.reduceBEq, Nat.reduceLeDiff, Nat.reduceAdd, Nat.reduceMul]
    exact SetR.now hq

theorem lmuls_n {a : List Nat} {m k c : Nat} (ta : Bool) (ha : Nm a m k) (hk : k ≤ 1000000) (hc : c < 4294967296) : PFn Tryd.prog 55 [LS a ta, .int .u32 (c : Int)] (LS (Ma.digs 4294967296 (m * c)) false) := by
  have h := lmuls_fn ta ha.lim hc (by have := ha.len; omega)
  rw [ha.val] at h; exact h

end Go.Proofs.YtipbcjnniamcgaaDoor.Fw

/- How often two divides a number. -/
namespace Go.Proofs.YtipbcjnniamcgaaDoor.Ma
set_option linter.unusedSimpArgs false
set_option linter.unusedVariables false

def tz (n : Nat) : Nat := if h : n = 0 ∨ n % 2 = 1 then 0 else tz (n / 2) + 1
termination_by n
decreasing_by omega
def deB : List Nat := [0, 1, 28, 2, 29, 14, 24, 3, 30, 22, 20, 15, 25, 17, 4, 8, 31, 27, 13, 23, 21, 19, 16, 7, 26, 12, 18, 6, 11, 5, 10, 9]
end Go.Proofs.YtipbcjnniamcgaaDoor.Ma

/- The reference for limbs: binary digits; a row twice over; division bit by bit. -/
namespace Go.Proofs.YtipbcjnniamcgaaDoor.Fw
set_option linter.unusedSimpArgs false
set_option linter.unusedVariables false
open Go Go.Proofs.YtipbcjnniamcgaaDoor.Ma
set_option maxRecDepth 20000

/-- A row twice over, from the lowest up. -/
def DbI (a : List Nat) (c0 i c : Nat) (done : List Nat) : Prop := done.length = i ∧ Lim 4294967296 done ∧ c ≤ 1 ∧ val 4294967296 done + 4294967296 ^ i * c = 2 * val 4294967296 (a.take i) + c0
theorem DbI.zero (a : List Nat) {c0 : Nat} (h : c0 ≤ 1) : DbI a c0 0 c0 [] := ⟨rfl, Lim.nil _, h, by simp [val]⟩
theorem DbI.step {a done : List Nat} {c0 i c : Nat} (h : DbI a c0 i c done) (ha : Lim 4294967296 a) : DbI a c0 (i + 1) (a.getD i 0 / 2147483648) (done ++ [(a.getD i 0 * 2 % 4294967296 + c) % 4294967296]) := by
  obtain ⟨h1, h2, h3, h4⟩ := h
  have ga := ha.getD (by omega) i
  refine ⟨by simp [h1], lim_snoc h2 (Nat.mod_lt _ (by omega)), by omega, ?_⟩
  rw [val_snoc, val_take, h1, Nat.pow_succ, Nat.mul_assoc]
  have e : (a.getD i 0 * 2 % 4294967296 + c) % 4294967296 + 4294967296 * (a.getD i 0 / 2147483648) = c + 2 * a.getD i 0 := by omega
  have e1 : 4294967296 ^ i * ((a.getD i 0 * 2 % 4294967296 + c) % 4294967296) + 4294967296 ^ i * (4294967296 * (a.getD i 0 / 2147483648)) = 4294967296 ^ i * c + 2 * (4294967296 ^ i * a.getD i 0) := by
    rw [← Nat.mul_add, e, Nat.mul_add, Nat.mul_left_comm]
  omega
end Go.Proofs.YtipbcjnniamcgaaDoor.Fw

/- The greatest common divisor of limbs. -/
namespace Go.Proofs.YtipbcjnniamcgaaDoor.Fw
set_option linter.unusedSimpArgs false
set_option linter.unusedVariables false
open Go Go.Proofs.YtipbcjnniamcgaaDoor.Ma
set_option maxRecDepth 20000

end Go.Proofs.YtipbcjnniamcgaaDoor.Fw

/- The looked-up code of one function, and that it is: by a program (wip/tools/ac.py); Lean checks it. -/
namespace Go.Proofs.YtipbcjnniamcgaaDoor.Fw
open Go
set_option maxRecDepth 100000
end Go.Proofs.YtipbcjnniamcgaaDoor.Fw

/- The looked-up code of one function, and that it is: by a program (wip/tools/ac.py); Lean checks it. -/
namespace Go.Proofs.YtipbcjnniamcgaaDoor.Fw
open Go
set_option maxRecDepth 100000
end Go.Proofs.YtipbcjnniamcgaaDoor.Fw

/- The reference for limbs: common divisors, shifts. The laws of limbs divided, of common divisors. -/
namespace Go.Proofs.YtipbcjnniamcgaaDoor.Fw
set_option linter.unusedSimpArgs false
set_option linter.unusedVariables false
open Go Go.Proofs.YtipbcjnniamcgaaDoor.Ma
set_option maxRecDepth 20000

end Go.Proofs.YtipbcjnniamcgaaDoor.Fw

/- What the reference computes of whole numbers: digits to the base 65536. -/
namespace Go.Proofs.YtipbcjnniamcgaaDoor.Fw
set_option linter.unusedSimpArgs false
set_option linter.unusedVariables false
open Go Go.Proofs.YtipbcjnniamcgaaDoor.Ma
set_option maxRecDepth 20000

/-- A whole number of the reference. -/
def RefA (z : Int) (t : Bool) : AV := .agg [.bool (decide (z < 0)), LS (digs 65536 z.natAbs) t]
end Go.Proofs.YtipbcjnniamcgaaDoor.Fw

/- What the reference computes of whole numbers: signs, comparing, sums, products. -/
namespace Go.Proofs.YtipbcjnniamcgaaDoor.Fw
set_option linter.unusedSimpArgs false
set_option linter.unusedVariables false
open Go Go.Proofs.YtipbcjnniamcgaaDoor.Ma
set_option maxRecDepth 20000

end Go.Proofs.YtipbcjnniamcgaaDoor.Fw

/- What the reference computes of whole numbers: sums, differences, products. -/
namespace Go.Proofs.YtipbcjnniamcgaaDoor.Fw
set_option linter.unusedSimpArgs false
set_option linter.unusedVariables false
open Go Go.Proofs.YtipbcjnniamcgaaDoor.Ma
set_option maxRecDepth 20000

end Go.Proofs.YtipbcjnniamcgaaDoor.Fw

/- The laws' own helpers: one number in both, numbers that are too long, one answer that is fixed. -/
namespace Go.Proofs.YtipbcjnniamcgaaDoor.Fw
set_option linter.unusedSimpArgs false
set_option linter.unusedVariables false
open Go Go.Proofs.YtipbcjnniamcgaaDoor.Ma
set_option maxRecDepth 20000

/-- Numbers as they are handed in. -/
def NumA (q : Bool × List Nat × Bool) : AV := .agg [.bool q.1, LS q.2.1 q.2.2]
def NumC : List (Bool × List Nat × Bool) → List AV
  | [] => []
  | q :: r => .bool q.1 :: LS q.2.1 q.2.2 :: NumC r
def fits (x : Int) : Bool := decide (-9223372036854775808 ≤ x ∧ x < 9223372036854775808)
def smallV (x : Int) : Int := if fits x then x else ((0 : Nat) : Int)
end Go.Proofs.YtipbcjnniamcgaaDoor.Fw

/- The law of sums, as what its code computes: true. -/
namespace Go.Proofs.YtipbcjnniamcgaaDoor.Fw
set_option linter.unusedSimpArgs false
set_option linter.unusedVariables false
open Go Go.Proofs.YtipbcjnniamcgaaDoor.Ma
set_option maxRecDepth 20000

end Go.Proofs.YtipbcjnniamcgaaDoor.Fw

/- Sums and products of rows of whole numbers. -/
namespace Go.Proofs.YtipbcjnniamcgaaDoor.Fw
set_option linter.unusedSimpArgs false
set_option linter.unusedVariables false
open Go Go.Proofs.YtipbcjnniamcgaaDoor.Ma
set_option maxRecDepth 20000

/-- Whole numbers in a row. -/
def IntC : List Int → List AV
  | [] => []
  | z :: r => .bool (decide (z < 0)) :: LS (digs 4294967296 z.natAbs) true :: IntC r
section
variable {l : List Int} {t : Bool} {H : AHeap} {K : AV → Prop}
end
end Go.Proofs.YtipbcjnniamcgaaDoor.Fw

/- The ring's law, as what its code computes: true. -/
namespace Go.Proofs.YtipbcjnniamcgaaDoor.Fw
set_option linter.unusedSimpArgs false
set_option linter.unusedVariables false
open Go Go.Proofs.YtipbcjnniamcgaaDoor.Ma
set_option maxRecDepth 20000

end Go.Proofs.YtipbcjnniamcgaaDoor.Fw

/- Binary digits; powers. -/
namespace Go.Proofs.YtipbcjnniamcgaaDoor.Fw
set_option linter.unusedSimpArgs false
set_option linter.unusedVariables false
open Go Go.Proofs.YtipbcjnniamcgaaDoor.Ma
set_option maxRecDepth 20000

end Go.Proofs.YtipbcjnniamcgaaDoor.Fw

/- Powers, as the program and the reference have them. -/
namespace Go.Proofs.YtipbcjnniamcgaaDoor.Fw
set_option linter.unusedSimpArgs false
set_option linter.unusedVariables false
open Go Go.Proofs.YtipbcjnniamcgaaDoor.Ma
set_option maxRecDepth 20000

end Go.Proofs.YtipbcjnniamcgaaDoor.Fw

/- The law of powers, as what its code computes: true. -/
namespace Go.Proofs.YtipbcjnniamcgaaDoor.Fw
set_option linter.unusedSimpArgs false
set_option linter.unusedVariables false
open Go Go.Proofs.YtipbcjnniamcgaaDoor.Ma
set_option maxRecDepth 20000

/-- The reference's numbers in memory. -/
def RefB (z : Int) : AV := .bool (decide (z < 0))
def RefD (z : Int) : AV := LS (digs 65536 z.natAbs) false
theorem Bd.blen {z : Int} {k : Nat} (h : Bd k z) : Ma.blen z.natAbs ≤ 32 * k := by rw [blen_le, Nat.pow_mul]; exact h
end Go.Proofs.YtipbcjnniamcgaaDoor.Fw

/- Quotients and remainders of whole numbers, as the program has them. -/
namespace Go.Proofs.YtipbcjnniamcgaaDoor.Fw
set_option linter.unusedSimpArgs false
set_option linter.unusedVariables false
open Go Go.Proofs.YtipbcjnniamcgaaDoor.Ma
set_option maxRecDepth 20000

end Go.Proofs.YtipbcjnniamcgaaDoor.Fw

/- The framework, part W: a row of one's own, taken up anew at its shorter length; rows that grow, also from nothing of one's own. -/
namespace Go.Proofs.YtipbcjnniamcgaaDoor.Fw
set_option linter.unusedSimpArgs false
set_option linter.unusedVariables false
open Go Go.Proofs.YtipbcjnniamcgaaDoor.Ma

/-- The context in which a block has a new number and is followed at a shorter length. -/
def Ctx.renew (c : Ctx) (b b' : Nat) (x : ABlk) : Ctx := { c with μ := fun i => if i = b' then c.μ b else c.μ i, U := fun i => c.U i ∨ i = b', H := (c.H.upd b none).upd b' (some x) }

theorem Ctx.renew_H {c : Ctx} {b b' i : Nat} {x y : ABlk} (h : (c.renew b b' x).H i = some y) : (i = b' ∧ y = x) ∨ (i ≠ b' ∧ i ≠ b ∧ c.H i = some y) := by
  have h2 : ((c.H.upd b none).upd b' (some x)) i = some y := h
  rcases upd_some h2 with ⟨e, e2⟩ | ⟨e, e2⟩
  · injection e2 with e2; exact .inl ⟨e, e2.symm⟩
  · rcases upd_some e2 with ⟨_, e4⟩ | ⟨e3, e4⟩
    · cases e4
    · exact .inr ⟨e, e3, e4⟩

theorem Ctx.renew_later {c : Ctx} {b b' : Nat} {x : ABlk} (hb : ABlk.mut (c.H b)) (hU : ¬ c.U b') (hR : ¬ c.R b') : Later c (c.renew b b' x) := by
  refine ⟨⟨Nat.le_refl _, rfl, rfl, rfl, fun _ h => .inl h, ?_, ?_⟩, fun i h => ⟨h, fun k => k.resolve_right fun e => hR (e ▸ h)⟩⟩
  · intro i x' hi hx
    rcases Ctx.renew_H hx with ⟨e, _⟩ | ⟨e, _, e2⟩
    · exact absurd (e ▸ hi) hU
    · refine ⟨x', e2, Nat.le_refl _, fun _ => ⟨if_neg e, fun _ _ cells e' => ⟨cells, e', fun arr h => ⟨arr, ?_, rfl⟩⟩⟩⟩
      show c.w.heap[if i = b' then c.μ b else c.μ i]? = _
      rw [if_neg e]; exact h
  · rintro k _ hm
    refine ⟨rfl, fun ⟨i, hi, e⟩ => hm ?_⟩
    have e' : (if i = b' then c.μ b else c.μ i) = k := e
    cases hy : (c.renew b b' x).H i with
    | none => rw [hy] at hi; exact hi.elim
    | some y =>
      rw [hy] at hi
      rcases Ctx.renew_H hy with ⟨e1, _⟩ | ⟨e1, _, e2⟩
      · rw [if_pos e1] at e'; exact ⟨b, hb, e'⟩
      · rw [if_neg e1] at e'; exact ⟨i, by rw [e2]; exact hi, e'⟩

theorem Ctx.renew_ok {c : Ctx} (hok : Ok c) {b b' ty es m : Nat} {cells : List AV} (hb : c.H b = some (.row ty es cells)) (hU : ¬ c.U b') (hR : ¬ c.R b') : Ok (c.renew b b' (.row ty es (cells.take m))) := by
  have hbn : c.H b ≠ none := by rw [hb]; simp
  have later := Ctx.renew_later (x := .row ty es (cells.take m)) (mut_row hb) hU hR
  have get : ∀ i, (c.renew b b' (.row ty es (cells.take m))).H i ≠ none → i = b' ∨ (i ≠ b' ∧ i ≠ b ∧ c.H i ≠ none) := by
    intro i hi
    obtain ⟨y, hy⟩ := Option.ne_none_iff_exists'.1 hi
    rcases Ctx.renew_H hy with ⟨e1, _⟩ | ⟨e1, e2, e3⟩
    · exact .inl e1
    · exact .inr ⟨e1, e2, by rw [e3]; simp⟩
  refine ⟨?_, ?_, ?_, ?_⟩
  · intro i hi
    rcases get i hi with e | ⟨_, _, e⟩
    · exact .inr e
    · exact .inl (hok.used i e)
  · obtain ⟨M, hM⟩ := hok.fin
    refine ⟨M + b' + 1, fun i hi => ?_⟩
    rcases hi with (h | h) | h
    · have := hM i (.inl h); omega
    · omega
    · have := hM i (.inr h); omega
  · intro i j hi hj e
    have e' : (if i = b' then c.μ b else c.μ i) = (if j = b' then c.μ b else c.μ j) := e
    rcases get i hi with e1 | ⟨e1, e2, e3⟩ <;> rcases get j hj with f1 | ⟨f1, f2, f3⟩
    · rw [e1, f1]
    · rw [if_pos e1, if_neg f1] at e'
      exact absurd (hok.inj j b f3 hbn e'.symm) f2
    · rw [if_neg e1, if_pos f1] at e'
      exact absurd (hok.inj i b e3 hbn e') e2
    · rw [if_neg e1, if_neg f1] at e'
      exact hok.inj i j e3 f3 e'
  · intro i y hy
    rcases Ctx.renew_H hy with ⟨rfl, rfl⟩ | ⟨e1, _, e3⟩
    · obtain ⟨arr, g1, g2, g3⟩ := hok.blk b _ hb
      refine ⟨arr, ?_, by rw [List.length_take]; omega, fun k hk hk' => ?_⟩
      · show c.w.heap[if i = i then c.μ b else c.μ i]? = _
        rw [if_pos rfl]; exact g1
      · have hk2 : k < cells.length := by rw [List.length_take] at hk; omega
        have := (g3 k hk2 hk').later later
        rw [List.getElem_take]; exact this
    · exact (hok.blk i y e3).later later (if_neg e1) rfl

/-- A row of one's own, cut at its end, is followed from now on as far as it reaches. -/
theorem Settle.renew {K : St → Prop} {D : List Nat} {E : Env} {H : AHeap} (t : Nat) {b L n ty : Nat} {ti : Bool} {l : List Nat} (he : E.get t = .own b L 0 n ti) (hH : H b = some (.row ty 1 (U l))) (hL : l.length = L) (hn : n ≤ L)
    (h : ∀ b', (H.upd b none) b' = none → Settle K ⟨D, E.set t (.own b' n 0 n false), (H.upd b none).upd b' (some (.row ty 1 (U (l.take n))))⟩) : Settle K ⟨D, E, H⟩ := by
  refine Settle.join ?_
  intro N c a hc hok hr
  have hc' : c.H = H := hc
  subst hc'
  obtain ⟨M, hM⟩ := hok.fin
  have hU : ¬ c.U M := fun k => by have := hM M (.inl k); omega
  have hR : ¬ c.R M := fun k => by have := hM M (.inr k); omega
  have hbn : c.H b ≠ none := by rw [hH]; simp
  have hbM : M ≠ b := fun e => hU (e ▸ hok.used b hbn)
  have later := Ctx.renew_later (b' := M) (x := .row ty 1 ((U l).take n)) (mut_row hH) hU hR
  have hfree : (c.H.upd b none) M = none := by
    rw [upd_other _ _ hbM]
    cases e : c.H M with
    | none => rfl
    | some x => exact absurd (hok.used M (by rw [e]; simp)) hU
  have hk := h M hfree
  rw [U_take] at hk
  refine ⟨c.renew b M (.row ty 1 ((U l).take n)), _, rfl, rfl, Ctx.renew_ok hok hH hU hR, ?_, later, hk⟩
  have hr' := hr.later later
  refine ⟨hr'.size, fun u => ?_, hr'.dlen, hr'.dmark⟩
  show Enc _ (Env.get (E.set t (.own M n 0 n false)) u) _
  rw [Env.get_set]
  split
  · rename_i e; subst e
    have := hr.tmp u
    rw [show E.get u = _ from he] at this
    generalize a.tmps.getD u undef = v at this
    cases this with
    | own _ _ _ _ _ _ hs hb0 hL0 hv =>
      refine .own M n 0 n false v hs (.inr rfl) (fun x hx => ?_) (fun ty' es' cells' hx _ => ?_)
      · have hx2 : ((c.H.upd b none).upd M (some (.row ty 1 ((U l).take n)))) M = some x := hx
        rw [upd_same] at hx2
        injection hx2 with hx2
        subst hx2
        show n ≤ ((U l).take n).length
        rw [List.length_take, U_len]; omega
      · have hx2 : ((c.H.upd b none).upd M (some (.row ty 1 ((U l).take n)))) M = some (.row ty' es' cells') := hx
        rw [upd_same] at hx2
        injection hx2 with hx2
        injection hx2 with q1 q2 q3
        subst q1; subst q2
        obtain ⟨base, cap, arr, g1, g2, g3, g4, _, g6, g7⟩ := hv ty 1 (U l) hH (by rw [U_len]; exact hL)
        refine ⟨base, cap, arr, g1, ?_, g3, g4, (fun e => absurd e (by simp)), ?_, g7⟩
        · show cap = 0 ∨ base = some ⟨if M = M then c.μ b else c.μ M, 0, none⟩
          rw [if_pos rfl]; exact g2
        · show c.w.heap[if M = M then c.μ b else c.μ M]? = _
          rw [if_pos rfl]; exact g6
  · exact hr'.tmp u

/-- A row that grows, or one of one's own that may be empty. -/
def growO (H0 : AHeap) (ty : Nat) (l : List Nat) (x : AV) (H : AHeap) : Prop :=
  (l = [] ∧ x = .seq 0 [] true ∧ H = H0) ∨ (∃ b, H0 b = none ∧ x = .own b l.length 0 l.length false ∧ H = H0.upd b (some (.row ty 1 (U l))))
end Go.Proofs.YtipbcjnniamcgaaDoor.Fw

/- What the reference computes on rows of one's own: comparing, taking away, striking high noughts. -/
namespace Go.Proofs.YtipbcjnniamcgaaDoor.Fw
set_option linter.unusedSimpArgs false
set_option linter.unusedVariables false
open Go Go.Proofs.YtipbcjnniamcgaaDoor.Ma
set_option maxRecDepth 20000

end Go.Proofs.YtipbcjnniamcgaaDoor.Fw

/- The reference's division: a bit of a number; division by one digit. -/
namespace Go.Proofs.YtipbcjnniamcgaaDoor.Fw
set_option linter.unusedSimpArgs false
set_option linter.unusedVariables false
open Go Go.Proofs.YtipbcjnniamcgaaDoor.Ma
set_option maxRecDepth 20000

end Go.Proofs.YtipbcjnniamcgaaDoor.Fw

/- The reference's division, bit by bit. -/
namespace Go.Proofs.YtipbcjnniamcgaaDoor.Fw
set_option linter.unusedSimpArgs false
set_option linter.unusedVariables false
open Go Go.Proofs.YtipbcjnniamcgaaDoor.Ma
set_option maxRecDepth 20000

/-- What stands when the bits from M on are done. -/
structure LongK (A V M : Nat) (ql : List Nat) : Prop where
  hM : M ≤ blen A
  qlen : ql.length = (digs 65536 A).length
  qlim : Lim 65536 ql
  qval : val 65536 ql = A / 2 ^ M / V * 2 ^ M

end Go.Proofs.YtipbcjnniamcgaaDoor.Fw

/- Quotients and remainders of whole numbers, as the reference has them. -/
namespace Go.Proofs.YtipbcjnniamcgaaDoor.Fw
set_option linter.unusedSimpArgs false
set_option linter.unusedVariables false
open Go Go.Proofs.YtipbcjnniamcgaaDoor.Ma
set_option maxRecDepth 20000

end Go.Proofs.YtipbcjnniamcgaaDoor.Fw

/- How often two divides a row of limbs: the library's table read. -/
namespace Go.Proofs.YtipbcjnniamcgaaDoor.Fw
set_option linter.unusedSimpArgs false
set_option linter.unusedVariables false
open Go Go.Proofs.YtipbcjnniamcgaaDoor.Ma
set_option maxRecDepth 20000

/-- The table stands in memory. -/
def tabC : List AV := deB.map fun (n : Nat) => AV.int .u8 (n : Int)
def TzH (H : AHeap) : Prop := H 0 = some (.glob 0 tabC)
end Go.Proofs.YtipbcjnniamcgaaDoor.Fw

/- How often two divides a whole number; shifts of whole numbers; powers of two: the program's and the reference's. -/
namespace Go.Proofs.YtipbcjnniamcgaaDoor.Fw
set_option linter.unusedSimpArgs false
set_option linter.unusedVariables false
open Go Go.Proofs.YtipbcjnniamcgaaDoor.Ma
set_option maxRecDepth 20000

/-- How often two divides a whole number; -1 of nought. -/
def twV (x : Int) : Int := if x = 0 then -1 else ((tz x.natAbs : Nat) : Int)
end Go.Proofs.YtipbcjnniamcgaaDoor.Fw

/- Exact halvings of whole numbers; the reference's powers of two. -/
namespace Go.Proofs.YtipbcjnniamcgaaDoor.Fw
set_option linter.unusedSimpArgs false
set_option linter.unusedVariables false
open Go Go.Proofs.YtipbcjnniamcgaaDoor.Ma
set_option maxRecDepth 20000

/-- What an exact halving answers. -/
def shrR (x : Int) (n : Int) : AV :=
  if n < 0 then .tup [IntA 0, .int .i64 ((2 : Nat) : Int)] else if x = 0 then .tup [IntA 0, .int .i64 ((0 : Nat) : Int)]
  else if twV x < n then .tup [IntA 0, .int .i64 ((20 : Nat) : Int)] else .tup [IntA (x / 2 ^ n.toNat), .int .i64 ((0 : Nat) : Int)]
/-- The row of a power of two. -/
def pwRow (n : Nat) : List Nat := (List.replicate (n / 16 + 1) 0).set (n / 16) (2 ^ (n % 16))
end Go.Proofs.YtipbcjnniamcgaaDoor.Fw

/- The number of a decimal text, and back. -/
namespace Go.Proofs.YtipbcjnniamcgaaDoor.Ma
set_option linter.unusedSimpArgs false
set_option linter.unusedVariables false

def decF (v : Nat) (l : List UInt8) : Nat := l.foldl (fun v b => 10 * v + (b.toNat - 48)) v
def decV (l : List UInt8) : Nat := decF 0 l
theorem decF_eq : ∀ (l : List UInt8) (v : Nat), decF v l = 10 ^ l.length * v + decV l
  | [], v => by simp [decF, decV]
  | b :: l, v => by
    have h1 := decF_eq l (10 * v + (b.toNat - 48))
    have h2 := decF_eq l (10 * 0 + (b.toNat - 48))
    have e1 : decF v (b :: l) = decF (10 * v + (b.toNat - 48)) l := rfl
    have e2 : decV (b :: l) = decF (10 * 0 + (b.toNat - 48)) l := rfl
    rw [e1, e2, h1, h2, List.length_cons, Nat.pow_succ]
    grind
theorem decV_app (l m : List UInt8) : decV (l ++ m) = 10 ^ m.length * decV l + decV m := by
  have : decV (l ++ m) = decF (decV l) m := by simp only [decV, decF, List.foldl_append]
  rw [this, decF_eq]
theorem decV_one (b : UInt8) : decV [b] = b.toNat - 48 := by simp [decV, decF]
theorem decF_lt : ∀ {l : List UInt8} {v : Nat}, (∀ b, b ∈ l → b.toNat ≤ 57) → decF v l < 10 ^ l.length * (v + 1)
  | [], v, _ => by simp [decF]
  | b :: l, v, h => by
    have h1 := decF_lt (l := l) (v := 10 * v + (b.toNat - 48)) fun x hx => h x (List.mem_cons_of_mem _ hx)
    have h2 := h b List.mem_cons_self
    have e1 : decF v (b :: l) = decF (10 * v + (b.toNat - 48)) l := rfl
    rw [e1]
    refine Nat.lt_of_lt_of_le h1 ?_
    rw [List.length_cons, Nat.pow_succ, Nat.mul_assoc]
    exact Nat.mul_le_mul_left _ (by omega)
theorem decV_lt {l : List UInt8} (h : ∀ b, b ∈ l → b.toNat ≤ 57) : decV l < 10 ^ l.length := by
  have := decF_lt (v := 0) h
  simpa [decV] using this
def isDig (b : UInt8) : Prop := 48 ≤ b.toNat ∧ b.toNat ≤ 57
/-- A text that is a number's. -/
def Good (l : List UInt8) : Prop := l ≠ [] ∧ (∀ b, b ∈ l → isDig b) ∧ (l.length = 1 ∨ (l.getD 0 0).toNat ≠ 48)
theorem good_decT (n : Nat) : Good (decT n) := by
  unfold decT
  split
  · exact ⟨by simp, by simp [isDig], .inl rfl⟩
  · rename_i h
    have hn : 0 < n := by omega
    refine ⟨dec_pos hn, fun b hb => ?_, .inr ?_⟩
    · unfold dec at hb
      obtain ⟨x, hx, rfl⟩ := List.mem_map.1 hb
      have := lim_digs (B := 10) (by omega) n x (List.mem_reverse.1 hx)
      unfold isDig; rw [chr_nat this]; omega
    · have hl := digs_last (B := 10) (by omega) hn
      have hne : digs 10 n ≠ [] := fun e => by have := (digs_nil (B := 10) (by omega)).1 e; omega
      obtain ⟨l, x, hx⟩ : ∃ l x, digs 10 n = l ++ [x] := ⟨_, _, (List.dropLast_concat_getLast hne).symm⟩
      have hx0 : x ≠ 0 := by
        rw [hx, last_append (by simp)] at hl
        simpa using hl
      have hx10 : x < 10 := lim_digs (B := 10) (by omega) n x (by rw [hx]; simp)
      have : dec n = chr x :: l.reverse.map chr := by simp [dec, hx]
      rw [this]
      show (chr x).toNat ≠ 48
      rw [chr_nat hx10]; omega
/-- Where a text goes wrong. -/
def badAt (l : List UInt8) (i : Nat) : Prop := (l.getD i 0).toNat < 48 ∨ 57 < (l.getD i 0).toNat ∨ (0 < i ∧ (l.getD 0 0).toNat = 48)
theorem good_of {l : List UInt8} (h0 : l ≠ []) (h : ∀ i, i < l.length → ¬ badAt l i) : Good l := by
  refine ⟨h0, fun b hb => ?_, ?_⟩
  · obtain ⟨i, hi, rfl⟩ := List.getElem_of_mem hb
    have := h i hi
    unfold badAt at this
    rw [List.getD_eq_getElem?_getD, List.getElem?_eq_getElem hi, Option.getD_some] at this
    unfold isDig; omega
  · by_cases hl : l.length = 1
    · exact .inl hl
    · right
      have hp : 0 < l.length := List.length_pos_iff.2 h0
      have := h 1 (by omega)
      unfold badAt at this; omega
theorem bad_of_good {l : List UInt8} (h : Good l) {i : Nat} (hi : i < l.length) : ¬ badAt l i := by
  obtain ⟨h0, h1, h2⟩ := h
  have := h1 _ (List.getElem_mem hi)
  unfold badAt isDig at *
  rw [List.getD_eq_getElem?_getD, List.getElem?_eq_getElem hi, Option.getD_some]
  omega
end Go.Proofs.YtipbcjnniamcgaaDoor.Ma

/- A text read, as package limb reads it. -/
namespace Go.Proofs.YtipbcjnniamcgaaDoor.Fw
set_option linter.unusedSimpArgs false
set_option linter.unusedVariables false
open Go Go.Proofs.YtipbcjnniamcgaaDoor.Ma
set_option maxRecDepth 20000

def spot (e a : Nat) : AV := .agg [.int .i64 (e : Int), .int .i64 (a : Int)]
theorem cells_i2 {k k' : IntKind} {a b : Int} : (AV.agg [.int k a, .int k' b]).cells = some [.int k a, .int k' b] := id rfl
theorem min_k {a b : Nat} {K : AV → Prop} : maxW false (.int .i64 (a : Int)) (.int .i64 (b : Int)) K ↔ K (.int .i64 ((min a b : Nat) : Int)) := by
  have : (if (b : Int) < (a : Int) then (b : Int) else (a : Int)) = ((min a b : Nat) : Int) := by split <;> omega
  simp only [maxW, true_and, Bool.false_eq_true, if_false, this]
theorem rng_Sx {H : AHeap} {l : List UInt8} {K : AV → AHeap → Prop} : rngW H (Sx l) K = rngS H ⟨l.toArray⟩ K := id rfl
theorem byte_Sx {l : List UInt8} {i : Nat} : byteAt ⟨l.toArray⟩ i = (l.getD i 0).toNat := by simp [byteAt]
theorem nxt_Sl {H : AHeap} {b pos : Nat} {l : List UInt8} {K : AV → AHeap → Prop} (h : pos < l.length) (hb : (l.getD pos 0).toNat < 128) : nxtP H b K (some (.raw (.stringIter ⟨l.toArray⟩ pos))) = K (.tup [.bool true, .int .i64 (pos : Int), .int .i32 (((l.getD pos 0).toNat : Nat) : Int)]) (H.upd b (some (.raw (.stringIter ⟨l.toArray⟩ (pos + 1))))) := by
  rw [nxt_lt (by rw [size_Sx]; exact h) (by rw [byte_Sx]; exact hb), byte_Sx]
theorem nxt_Sg {H : AHeap} {b pos : Nat} {l : List UInt8} {K : AV → AHeap → Prop} (h : l.length ≤ pos) : nxtP H b K (some (.raw (.stringIter ⟨l.toArray⟩ pos))) = K (.tup [.bool false]) H := nxt_ge (by rw [size_Sx]; exact h)
theorem wn_i32 {n : Nat} (h : n < 2147483648) : IntKind.i32.wrap (n : Int) = (n : Int) := by
  unfold IntKind.wrap; simp only [IntKind.bits, IntKind.signed, Bool.true_and, decide_eq_true_eq, ge_iff_le]; split <;> omega
theorem ten_b {n m : Nat} (h : 4 * n ≤ 32 * m) : 10 ^ n ≤ 4294967296 ^ m := by
  have h1 : 10 ^ n ≤ 16 ^ n := Nat.pow_le_pow_left (by omega) n
  have h2 : (16 : Nat) ^ n = 2 ^ (4 * n) := by rw [Nat.pow_mul]
  have h3 : (4294967296 : Nat) ^ m = 2 ^ (32 * m) := by rw [Nat.pow_mul]
  rw [h3]
  exact Nat.le_trans h1 (by rw [h2]; exact Nat.pow_le_pow_right (by omega) h)
theorem ten_bound {n : Nat} (h : n ≤ 65536) : 10 ^ n ≤ 4294967296 ^ 8192 := ten_b (m := 8192) (by omega)
theorem first_bad (l : List UInt8) : ∀ k, (∀ j, j < k → ¬ badAt l j) ∨ ∃ i, i < k ∧ badAt l i ∧ ∀ j, j < i → ¬ badAt l j
  | 0 => .inl fun j h => by omega
  | k + 1 => by
    rcases first_bad l k with h | ⟨i, h1, h2, h3⟩
    · by_cases hb : badAt l k
      · exact .inr ⟨k, by omega, hb, h⟩
      · refine .inl fun j hj => ?_
        by_cases e : j = k
        · rw [e]; exact hb
        · exact h j (by omega)
    · exact .inr ⟨i, by omega, h2, h3⟩

/-- What is answered of a text. -/
def ReadR (l : List UInt8) (r : AV) : Prop :=
  (65536 < l.length ∧ r = .tup [LS [] true, spot 3 65536]) ∨ (l = [] ∧ r = .tup [LS [] true, spot 6 0]) ∨
  (l.length ≤ 65536 ∧ ∃ i, i < l.length ∧ badAt l i ∧ (∀ j, j < i → ¬ badAt l j) ∧ r = .tup [LS [] true, spot 6 i]) ∨
  (l.length ≤ 65536 ∧ Good l ∧ r = .tup [LS (Ma.digs 4294967296 (decV l)) true, spot 0 0])
theorem readR_ex (l : List UInt8) : ∃ r, ReadR l r := by
  by_cases h1 : 65536 < l.length
  · exact ⟨_, .inl ⟨h1, rfl⟩⟩
  by_cases h2 : l = []
  · exact ⟨_, .inr (.inl ⟨h2, rfl⟩)⟩
  rcases first_bad l l.length with h | ⟨i, a, b, c⟩
  · exact ⟨_, .inr (.inr (.inr ⟨by omega, good_of h2 h, rfl⟩))⟩
  · exact ⟨_, .inr (.inr (.inl ⟨by omega, i, a, b, c, rfl⟩))⟩
theorem readR_fn {l : List UInt8} {r r' : AV} (h : ReadR l r) (h' : ReadR l r') : r = r' := by
  have nb : ∀ {i}, Good l → i < l.length → badAt l i → False := fun g hi hb => bad_of_good g hi hb
  have ne : Good l → l = [] → False := fun g e => g.1 e
  rcases h with ⟨a, rfl⟩ | ⟨a, rfl⟩ | ⟨a, i, b, c, d, rfl⟩ | ⟨a, b, rfl⟩ <;> rcases h' with ⟨a', rfl⟩ | ⟨a', rfl⟩ | ⟨a', i', b', c', d', rfl⟩ | ⟨a', b', rfl⟩ <;>
    first
    | rfl
    | (exfalso; omega)
    | (subst a; simp at a'; done)
    | (subst a'; simp at a; done)
    | (subst a; simp at b'; done)
    | (subst a'; simp at b; done)
    | exact (ne ‹_› ‹_›).elim
    | exact (nb ‹_› ‹_› ‹_›).elim
    | (have : i = i' := by
        rcases Nat.lt_trichotomy i i' with h | h | h
        · exact absurd c (d' i h)
        · exact h
        · exact absurd c' (d i' h)
       rw [this])
theorem read_fn {l : List UInt8} {r : AV} (hr : ReadR l r) (hsz : l.length < 9223372036854775808) : PFn Tryd.prog 69 [Sx l] r := by
  intro H Q hq
  have out : ∀ {r'}, ReadR l r' → Q r' H := fun h => by rw [readR_fn h hr]; exact hq
  refine enter69 (by simp) ?_
  simp (disch := first | assumption | (apply Ap.symm; assumption) | omega | decide | (simp only [U_len, List.length_append, List.length_replicate, List.length_cons, List.length_nil, List.length_set] <;> omega) | fail) only [ac69, ↓Xa, Xb, Xc, ↓reduceIte, Nat.reduceLT, Nat.reduceEqDiff, Nat.reduceBEq, Nat.reduceLeDiff, Nat.reduceAdd, Nat.reduceMul]
  refine alloc_i fun p1 hp1 => ?_
  have n1 := hp1
  have fin : ∀ {r' : AV} {x : Option ABlk}, ReadR l r' → SetR Q r' (H.upd p1 x) := fun h => SetR.dropTo ((Le.refl H).updB n1) (SetR.now (out h))
  by_cases h1 : 65536 < l.length
  · simp (disch := first | assumption | (apply Ap.symm; assumption) | omega | decide | (simp only [U_len, List.length_append, List.length_replicate, List.length_cons, List.length_nil, List.length_set] <;> omega) | fail) only [len_Sx, h1, cells_i2, rs69, ↓Xa, Xb, Xc, ↓reduceIte, Nat.reduceLT, Nat.reduceEqDiff, Nat.reduceBEq, Nat.reduceLeDiff, Nat.reduceAdd, Nat.reduceMul]
    exact fin (.inl ⟨h1, rfl⟩)
  by_cases h2 : l = []
  · simp (disch := first | assumption | (apply Ap.symm; assumption) | omega | decide | (simp only [U_len, List.length_append, List.length_replicate, List.length_cons, List.length_nil, List.length_set] <;> omega) | fail) only [len_Sx, str_Sx, eql_Sx, h2, rs69, List.length_nil, ↓Xa, Xb, Xc, ↓reduceIte, Nat.reduceLT, Nat.reduceEqDiff, Nat.reduceBEq, Nat.reduceLeDiff, Nat.reduceAdd, Nat.reduceMul]
    exact fin (.inr (.inl ⟨h2, rfl⟩))
  have hpos : 0 < l.length := List.length_pos_iff.2 h2
  simp (disch := first | assumption | (apply Ap.symm; assumption) | omega | decide | (simp only [U_len, List.length_append, List.length_replicate, List.length_cons, List.length_nil, List.length_set] <;> omega) | fail) only [len_Sx, str_Sx, eql_Sx, h1, h2, ↓Xa, Xb, Xc, ↓reduceIte, Nat.reduceLT, Nat.reduceEqDiff, Nat.reduceBEq, Nat.reduceLeDiff, Nat.reduceAdd, Nat.reduceMul]
  refine W_loop (fun i : Nat => ⟨[], [(0, Sx l), (3, .ptr p1 2 0), (19, .int .i64 (l.length : Nat)), (20, .int .i64 (i : Nat))], H.upd p1 (some (.row 58 0 [.int .i64 ((0 : Nat) : Int), .int .i64 ((0 : Nat) : Int)]))⟩) (fun i => i ≤ l.length ∧ ∀ j, j < i → ¬ badAt l j) (fun i => l.length - i) 0 (Settle.now rfl) ⟨by simp, fun j h => by omega⟩ ?_
  rintro i ⟨hi1, hi2⟩
  by_cases hi : i < l.length
  · have bad : badAt l i → SetR Q (.tup [LS [] true, spot 6 i]) (H.upd p1 (some (.row 58 0 [.int .i64 ((6 : Nat) : Int), .int .i64 (i : Int)]))) := fun hb => fin (.inr (.inr (.inl ⟨by omega, i, hi, hb, hi2, rfl⟩)))
    have step : ¬ badAt l i → ∀ j, j < i + 1 → ¬ badAt l j := fun hb j hj => by
      by_cases e : j = i
      · rw [e]; exact hb
      · exact hi2 j (by omega)
    by_cases c1 : (l.getD i 0).toNat < 48
    · simp (disch := first | assumption | (apply Ap.symm; assumption) | omega | decide | (simp only [U_len, List.length_append, List.length_replicate, List.length_cons, List.length_nil, List.length_set] <;> omega) | fail) only [hi, idx_Sx, c1, cells_i2, rs69, ↓Xa, Xb, Xc, ↓reduceIte, Nat.reduceLT, Nat.reduceEqDiff, Nat.reduceBEq, Nat.reduceLeDiff, Nat.reduceAdd, Nat.reduceMul]
      exact bad (.inl c1)
    by_cases c2 : 57 < (l.getD i 0).toNat
    · simp (disch := first | assumption | (apply Ap.symm; assumption) | omega | decide | (simp only [U_len, List.length_append, List.length_replicate, List.length_cons, List.length_nil, List.length_set] <;> omega) | fail) only [hi, idx_Sx, c1, c2, cells_i2, rs69, ↓Xa, Xb, Xc, ↓reduceIte, Nat.reduceLT, Nat.reduceEqDiff, Nat.reduceBEq, Nat.reduceLeDiff, Nat.reduceAdd, Nat.reduceMul]
      exact bad (.inr (.inl c2))
    by_cases c3 : 0 < i
    · by_cases c4 : (l.getD 0 0).toNat = 48
      · simp (disch := first | assumption | (apply Ap.symm; assumption) | omega | decide | (simp only [U_len, List.length_append, List.length_replicate, List.length_cons, List.length_nil, List.length_set] <;> omega) | fail) only [hi, idx_Sx, c1, c2, c3, c4, cells_i2, rs69, ↓Xa, Xb, Xc, ↓reduceIte, Nat.reduceLT, Nat.reduceEqDiff, Nat.reduceBEq, Nat.reduceLeDiff, Nat.reduceAdd, Nat.reduceMul]
        exact bad (.inr (.inr ⟨c3, c4⟩))
      · simp (disch := first | assumption | (apply Ap.symm; assumption) | omega | decide | (simp only [U_len, List.length_append, List.length_replicate, List.length_cons, List.length_nil, List.length_set] <;> omega) | fail) only [hi, idx_Sx, c1, c2, c3, c4, ↓Xa, Xb, Xc, ↓reduceIte, Nat.reduceLT, Nat.reduceEqDiff, Nat.reduceBEq, Nat.reduceLeDiff, Nat.reduceAdd, Nat.reduceMul]
        exact Settle.now ⟨i + 1, by omega, ⟨by omega, step (by unfold badAt; omega)⟩, rfl⟩
    · simp (disch := first | assumption | (apply Ap.symm; assumption) | omega | decide | (simp only [U_len, List.length_append, List.length_replicate, List.length_cons, List.length_nil, List.length_set] <;> omega) | fail) only [hi, idx_Sx, c1, c2, c3, ↓Xa, Xb, Xc, ↓reduceIte, Nat.reduceLT, Nat.reduceEqDiff, Nat.reduceBEq, Nat.reduceLeDiff, Nat.reduceAdd, Nat.reduceMul]
      exact Settle.now ⟨i + 1, by omega, ⟨by omega, step (by unfold badAt; omega)⟩, rfl⟩
  · have hg : Good l := good_of h2 fun j hj => hi2 j (by omega)
    simp (disch := first | assumption | (apply Ap.symm; assumption) | omega | decide | (simp only [U_len, List.length_append, List.length_replicate, List.length_cons, List.length_nil, List.length_set] <;> omega) | fail) only [hi, ↓Xa, Xb, Xc, ↓reduceIte, Nat.reduceLT, Nat.reduceEqDiff, Nat.reduceBEq, Nat.reduceLeDiff, Nat.reduceAdd, Nat.reduceMul]
    refine Settle.now ?_
    simp (disch := first | assumption | (apply Ap.symm; assumption) | omega | decide | (simp only [U_len, List.length_append, List.length_replicate, List.length_cons, List.length_nil, List.length_set] <;> omega) | fail) only [↓Xa, Xb, Xc, ↓reduceIte, Nat.reduceLT, Nat.reduceEqDiff, Nat.reduceBEq, Nat.reduceLeDiff, Nat.reduceAdd, Nat.reduceMul]
    have hdig : ∀ b, b ∈ l → b.toNat ≤ 57 := fun b hb => (hg.2.1 b hb).2
    refine W_loop (fun s : List UInt8 × Nat => ⟨[], [(0, Sx s.1), (3, .ptr p1 2 0), (5, LS (Ma.digs 4294967296 s.2) true)], H.upd p1 (some (.row 58 0 [.int .i64 ((0 : Nat) : Int), .int .i64 ((0 : Nat) : Int)]))⟩) (fun s => ∃ d, l = d ++ s.1 ∧ s.2 = decV d) (fun s => s.1.length) (l, 0) (Settle.now (by rw [digs_zero]; rfl)) ⟨[], by simp, rfl⟩ ?_
    rintro ⟨m, v⟩ ⟨d, hd1, hd2⟩
    dsimp only at hd1 hd2 ⊢
    have hlen : l.length = d.length + m.length := by rw [hd1, List.length_append]
    cases m with
    | nil =>
      rw [List.append_nil] at hd1
      simp (disch := first | assumption | (apply Ap.symm; assumption) | omega | decide | (simp only [U_len, List.length_append, List.length_replicate, List.length_cons, List.length_nil, List.length_set] <;> omega) | fail) only [len_Sx, List.length_nil, ↓Xa, Xb, Xc, ↓reduceIte, Nat.reduceLT, Nat.reduceEqDiff, Nat.reduceBEq, Nat.reduceLeDiff, Nat.reduceAdd, Nat.reduceMul]
      refine Settle.now ?_
      simp (disch := first | assumption | (apply Ap.symm; assumption) | omega | decide | (simp only [U_len, List.length_append, List.length_replicate, List.length_cons, List.length_nil, List.length_set] <;> omega) | fail) only [cells_i2, rs69, ↓Xa, Xb, Xc, ↓reduceIte, Nat.reduceLT, Nat.reduceEqDiff, Nat.reduceBEq, Nat.reduceLeDiff, Nat.reduceAdd, Nat.reduceMul]
      rw [hd2, ← hd1]
      exact fin (.inr (.inr (.inr ⟨by omega, hg, rfl⟩)))
    | cons x m =>
      generalize hm : x :: m = y at *
      have hy0 : 0 < y.length := by rw [← hm]; simp
      simp (disch := first | assumption | (apply Ap.symm; assumption) | omega | decide | (simp only [U_len, List.length_append, List.length_replicate, List.length_cons, List.length_nil, List.length_set] <;> omega) | fail) only [len_Sx, hy0, min_k, slc_SxH, rng_Sx, ↓Xa, Xb, Xc, ↓reduceIte, Nat.reduceLT, Nat.reduceEqDiff, Nat.reduceBEq, Nat.reduceLeDiff, Nat.reduceAdd, Nat.reduceMul]
      refine rng_i fun q hq' => ?_
      obtain ⟨a1, a2⟩ := upd_none.1 hq'
      obtain ⟨n, hn⟩ : ∃ n, n = min y.length 9 := ⟨_, rfl⟩
      rw [← hn]
      obtain ⟨z, hz⟩ : ∃ z, z = y.take n := ⟨_, rfl⟩
      rw [← hz]
      have hzl : z.length = n := by rw [hz, List.length_take]; omega
      have hzd : ∀ b, b ∈ z → isDig b := fun b hb => hg.2.1 b (by rw [hd1]; exact List.mem_append_right _ (List.mem_of_mem_take (hz ▸ hb)))
      have p9 : ∀ k, k ≤ 9 → 10 ^ k ≤ 1000000000 := fun k hk => Nat.le_trans (Nat.pow_le_pow_right (by omega) hk) (by decide)
      simp (disch := first | assumption | (apply Ap.symm; assumption) | omega | decide | (simp only [U_len, List.length_append, List.length_replicate, List.length_cons, List.length_nil, List.length_set] <;> omega) | fail) only [↓Xa, Xb, Xc, ↓reduceIte, Nat.reduceLT, Nat.reduceEqDiff, Nat.reduceBEq, Nat.reduceLeDiff, Nat.reduceAdd, Nat.reduceMul]
      refine W_loop (fun s : Nat => ⟨[], [(0, Sx y), (3, .ptr p1 2 0), (5, LS (Ma.digs 4294967296 v) true), (6, .int .i64 (n : Nat)), (7, .int .u32 ((decV (z.take s) : Nat) : Int)), (8, .int .u32 ((10 ^ s : Nat) : Int)), (54, .ptr q 0 0)],
        (H.upd p1 (some (.row 58 0 [.int .i64 ((0 : Nat) : Int), .int .i64 ((0 : Nat) : Int)]))).upd q (some (.raw (.stringIter ⟨z.toArray⟩ s)))⟩) (fun s => s ≤ n) (fun s => n - s) 0 (Settle.now rfl) (Nat.zero_le _) ?_
      intro i hin
      have hzt : ∀ k, ∀ b, b ∈ z.take k → b.toNat ≤ 57 := fun k b hb => (hzd b (List.mem_of_mem_take hb)).2
      have hvt : decV (z.take i) < 10 ^ i := by
        have := decV_lt (hzt i)
        rwa [List.length_take, Nat.min_eq_left (by omega)] at this
      by_cases hi2 : i < n
      · have hzi : i < z.length := by omega
        have hdg := hzd _ (List.getElem_mem hzi)
        have eg : z.getD i 0 = z[i] := by rw [List.getD_eq_getElem?_getD, List.getElem?_eq_getElem hzi, Option.getD_some]
        rw [← eg] at hdg
        unfold isDig at hdg
        have h128 : (z.getD i 0).toNat < 128 := by omega
        have h10 := p9 i (by omega)
        have h11 := p9 (i + 1) (by omega)
        have hsucc : decV (z.take (i + 1)) = 10 * decV (z.take i) + ((z.getD i 0).toNat - 48) := by
          have : z.take (i + 1) = z.take i ++ [z.getD i 0] := by
            rw [List.take_add_one, List.getElem?_eq_getElem hzi, eg]; rfl
          rw [this, decV_app, decV_one]; simp
        rw [Nat.pow_succ] at h11
        simp (disch := first | assumption | (apply Ap.symm; assumption) | omega | decide | (simp only [U_len, List.length_append, List.length_replicate, List.length_cons, List.length_nil, List.length_set] <;> omega) | fail) only [nxt_Sl, wn_i32, ↓Xa, Xb, Xc, ↓reduceIte, Nat.reduceLT, Nat.reduceEqDiff, Nat.reduceBEq, Nat.reduceLeDiff, Nat.reduceAdd, Nat.reduceMul]
        refine Settle.now ⟨i + 1, by omega, by omega, ?_⟩
        rw [hsucc, Nat.pow_succ]
        done
      · obtain rfl : i = n := by omega
        rw [List.take_of_length_le (by omega)] at hvt ⊢
        have hge : z.length ≤ i := by omega
        simp (disch := first | assumption | (apply Ap.symm; assumption) | omega | decide | (simp only [U_len, List.length_append, List.length_replicate, List.length_cons, List.length_nil, List.length_set] <;> omega) | fail) only [nxt_Sg, ↓Xa, Xb, Xc, ↓reduceIte, Nat.reduceLT, Nat.reduceEqDiff, Nat.reduceBEq, Nat.reduceLeDiff, Nat.reduceAdd, Nat.reduceMul]
        refine Settle.now ?_
        simp (disch := first | assumption | (apply Ap.symm; assumption) | omega | decide | (simp only [U_len, List.length_append, List.length_replicate, List.length_cons, List.length_nil, List.length_set] <;> omega) | fail) only [↓Xa, Xb, Xc, ↓reduceIte, Nat.reduceLT, Nat.reduceEqDiff, Nat.reduceBEq, Nat.reduceLeDiff, Nat.reduceAdd, Nat.reduceMul]
        have hv : v < 4294967296 ^ 8192 := by
          rw [hd2]
          refine Nat.lt_of_lt_of_le (decV_lt fun b hb => hdig b (by rw [hd1]; exact List.mem_append_left _ hb)) ?_
          exact ten_bound (by omega)
        have h10 := p9 i (by omega)
        refine (muls_n true (Nm.digs hv) (by omega) (by omega)).call ?_
        simp (disch := first | assumption | (apply Ap.symm; assumption) | omega | decide | (simp only [U_len, List.length_append, List.length_replicate, List.length_cons, List.length_nil, List.length_set] <;> omega) | fail) only [↓Xa, Xb, Xc, ↓reduceIte, Nat.reduceLT, Nat.reduceEqDiff, Nat.reduceBEq, Nat.reduceLeDiff, Nat.reduceAdd, Nat.reduceMul]
        refine (add_n (b := [decV z]) true true (Nm.digs (lt_mul hv (show 10 ^ i < 4294967296 ^ 1 by omega))) (Nm.one (by omega)) (by omega) (by omega)).call ?_
        simp (disch := first | assumption | (apply Ap.symm; assumption) | omega | decide | (simp only [U_len, List.length_append, List.length_replicate, List.length_cons, List.length_nil, List.length_set] <;> omega) | fail) only [slc_SxL, ↓Xa, Xb, Xc, ↓reduceIte, Nat.reduceLT, Nat.reduceEqDiff, Nat.reduceBEq, Nat.reduceLeDiff, Nat.reduceAdd, Nat.reduceMul]
        refine Settle.dropTo ((Le.refl _).updB hq') (Settle.now ⟨(y.drop i, v * 10 ^ i + decV z), ?_, ⟨d ++ z, ?_, ?_⟩, rfl⟩)
        · dsimp only; rw [List.length_drop]; omega
        · dsimp only; rw [hd1, hz, List.append_assoc, List.take_append_drop]
        · dsimp only; rw [hd2, decV_app, hzl]; grind
end Go.Proofs.YtipbcjnniamcgaaDoor.Fw

/- The looked-up code of one function, and that it is: by a program (wip/tools/ac.py); Lean checks it. -/
namespace Go.Proofs.YtipbcjnniamcgaaDoor.Fw
open Go
set_option maxRecDepth 100000
end Go.Proofs.YtipbcjnniamcgaaDoor.Fw

/- The law of limbs told and read, shifted and back, as what its code computes: true. -/
namespace Go.Proofs.YtipbcjnniamcgaaDoor.Fw
set_option linter.unusedSimpArgs false
set_option linter.unusedVariables false
open Go Go.Proofs.YtipbcjnniamcgaaDoor.Ma
set_option maxRecDepth 20000

theorem lim_decV {l : List UInt8} (h : Good l) (hn : l.length ≤ 65536) : decV l < 4294967296 ^ 8192 :=
  Nat.lt_of_lt_of_le (decV_lt fun b hb => (h.2.1 b hb).2) (ten_bound hn)
end Go.Proofs.YtipbcjnniamcgaaDoor.Fw

/- The looked-up code of one function, and that it is: by a program (wip/tools/ac.py); Lean checks it. -/
namespace Go.Proofs.YtipbcjnniamcgaaDoor.Fw
open Go
set_option maxRecDepth 100000
end Go.Proofs.YtipbcjnniamcgaaDoor.Fw

/- The reference for limbs: shifts, trailing noughts. The law of limbs shifted. -/
namespace Go.Proofs.YtipbcjnniamcgaaDoor.Fw
set_option linter.unusedSimpArgs false
set_option linter.unusedVariables false
open Go Go.Proofs.YtipbcjnniamcgaaDoor.Ma
set_option maxRecDepth 20000

end Go.Proofs.YtipbcjnniamcgaaDoor.Fw

/- Ranges over functions: memories side by side, the iterator's contract, the statement's rule. -/
namespace Go.Proofs.YtipbcjnniamcgaaDoor.Fw
set_option linter.unusedSimpArgs false
set_option linter.unusedVariables false
open Go

/-- Two memories side by side. -/
def Un (A B : AHeap) : AHeap := fun b => match A b with | some x => some x | none => B b
def Dj (A B : AHeap) : Prop := ∀ b, A b = none ∨ B b = none
def nilH : AHeap := fun _ => none
theorem un_nil {B : AHeap} : Un nilH B = B := funext fun _ => rfl
theorem un_upd {A B : AHeap} {b : Nat} {x : ABlk} : Un (A.upd b (some x)) B = (Un A B).upd b (some x) := by
  funext i; simp only [Un, AHeap.upd]; by_cases e : i = b
  · simp [e]
  · simp [e]
theorem un_updR {A B : AHeap} {b : Nat} {x : Option ABlk} (h : A b = none) : Un A (B.upd b x) = (Un A B).upd b x := by
  funext i; simp only [Un, AHeap.upd]; by_cases e : i = b
  · subst e; simp [h]
  · simp [e]
theorem un_at {A B : AHeap} {b : Nat} {x : ABlk} (h : A b = some x) : Un A B b = some x := by simp [Un, h]
theorem un_none {A B : AHeap} {b : Nat} : Un A B b = none ↔ A b = none ∧ B b = none := by
  unfold Un; cases h : A b <;> simp
theorem dj_nil {B : AHeap} : Dj nilH B := fun _ => .inl rfl
theorem dj_upd {A B : AHeap} {b : Nat} {x : Option ABlk} (h : Dj A B) (hb : B b = none) : Dj (A.upd b x) B := fun i => by
  by_cases e : i = b
  · subst e; exact .inr hb
  · rw [upd_other _ _ e]; exact h i
theorem dj_updR {A B : AHeap} {b : Nat} {x : Option ABlk} (h : Dj A B) (hb : A b = none) : Dj A (B.upd b x) := fun i => by
  by_cases e : i = b
  · subst e; exact .inl hb
  · rw [upd_other _ _ e]; exact h i
theorem dj_at {A B : AHeap} {b : Nat} {x : ABlk} (h : Dj A B) (hb : A b = some x) : B b = none := (h b).resolve_left (by rw [hb]; simp)
theorem dj_atR {A B : AHeap} {b : Nat} {x : ABlk} (h : Dj A B) (hb : B b = some x) : A b = none := (h b).resolve_right (by rw [hb]; simp)
/-- A block taken over to the other side. -/
theorem un_take {A B : AHeap} {p : Nat} {r : ABlk} (h : B p = some r) (ha : A p = none) : Un (A.upd p (some r)) (B.upd p none) = Un A B := by
  funext i; simp only [Un, AHeap.upd]; by_cases e : i = p
  · subst e; simp [ha, h]
  · simp [e]
theorem dj_take {A B : AHeap} {p : Nat} {x : Option ABlk} (h : Dj A B) : Dj (A.upd p x) (B.upd p none) := fun i => by
  by_cases e : i = p
  · subst e; exact .inr (upd_same _ _ _)
  · rw [upd_other _ _ e, upd_other _ _ e]; exact h i
/-- Two blocks on the one side, the rest on the other, and one more. -/
theorem un_two {G : AHeap} {p q d : Nat} {r s : ABlk} {x : Option ABlk} (hpq : p ≠ q) (hA : ((nilH.upd p (some r)).upd q (some s)) d = none) (hB : ((G.upd p none).upd q none) d = none) :
    ∃ G2, (Un ((nilH.upd p (some r)).upd q (some s)) ((G.upd p none).upd q none)).upd d x = G2 ∧ G2 p = some r ∧ G2 q = some s ∧ G2 d = x ∧ d ≠ p ∧ d ≠ q ∧
      (∀ o y, o ≠ p → o ≠ q → G o = some y → o ≠ d ∧ G2 o = some y) ∧ (∀ H, Le H G → H p = none → H q = none → H d = none ∧ Le H G2) := by
  obtain ⟨dq, hA⟩ := upd_none.1 hA
  obtain ⟨dp, _⟩ := upd_none.1 hA
  have hB2 : G d = none := by rwa [upd_other _ _ dq, upd_other _ _ dp] at hB
  have old : ∀ o y, o ≠ p → o ≠ q → G o = some y → o ≠ d ∧ ((Un ((nilH.upd p (some r)).upd q (some s)) ((G.upd p none).upd q none)).upd d x) o = some y := fun o y a b c => by
    have hod : o ≠ d := by rintro rfl; rw [hB2] at c; cases c
    refine ⟨hod, ?_⟩
    rw [upd_other _ _ hod]
    unfold Un
    rw [upd_other _ _ b, upd_other _ _ a]
    show ((G.upd p none).upd q none) o = _
    rw [upd_other _ _ b, upd_other _ _ a]; exact c
  refine ⟨_, rfl, ?_, ?_, upd_same _ _ _, dp, dq, old, fun H hle hp hq => ?_⟩
  · rw [upd_other _ _ (Ne.symm dp)]; exact un_at (by rw [upd_other _ _ hpq, upd_same])
  · rw [upd_other _ _ (Ne.symm dq)]; exact un_at (upd_same _ _ _)
  · refine ⟨?_, fun o y ho => (old o y (by rintro rfl; rw [hp] at ho; cases ho) (by rintro rfl; rw [hq] at ho; cases ho) (hle o y ho)).2⟩
    cases h : H d with
    | none => rfl
    | some y => have := hle d y h; rw [hB2] at this; cases this
theorem un_two_eq {G : AHeap} {p q : Nat} {r s : ABlk} (hpq : p ≠ q) (hp : G p = some r) (hq : G q = some s) : G = Un ((nilH.upd p (some r)).upd q (some s)) ((G.upd p none).upd q none) := by
  rw [un_take, un_take hp rfl, un_nil]
  · rw [upd_other _ _ (Ne.symm hpq)]; exact hq
  · rw [upd_other _ _ (Ne.symm hpq)]; rfl
theorem un_two_dj {G : AHeap} {p q : Nat} {r s : ABlk} : Dj ((nilH.upd p (some r)).upd q (some s)) ((G.upd p none).upd q none) := dj_take (dj_take dj_nil)
/-- .. as a round's body meets them, and leaves them. -/
theorem un_two_in {B : AHeap} {p q : Nat} {r s : ABlk} : Un ((nilH.upd p (some r)).upd q (some s)) B = (B.upd p (some r)).upd q (some s) := by rw [un_upd, un_upd, un_nil]
theorem un_two_out {B : AHeap} {p q : Nat} {r s r' s' : ABlk} (hpq : p ≠ q) (hd : Dj ((nilH.upd p (some r)).upd q (some s)) B) : Dj ((nilH.upd p (some r')).upd q (some s')) B :=
  dj_upd (dj_upd dj_nil (dj_at hd (by rw [upd_other _ _ hpq, upd_same]))) (dj_at hd (upd_same _ _ _))
/-- An iterator's contract: it hands over xs, one by one, till it is told to stop; its caller's memory A turns in the rounds alone. -/
def IterW (P : Program) (f : FuncId) (caps : List AV) {α : Type} (enc : α → List AV) (xs : List α) : Prop :=
  ∀ (b : Nat) (J : List α → AHeap → Prop) (Jx : AHeap → Prop),
    (∀ pre x rest A B, xs = pre ++ x :: rest → Dj A B → J pre A → YieldW P b (enc x) (Un A B) fun r H' => ∃ A', Dj A' B ∧ H' = Un A' B ∧ ((r = .bool true ∧ J (pre ++ [x]) A') ∨ (r = .bool false ∧ Jx A'))) →
    ∀ A B, Dj A B → J [] A → Run P f ([.yld b] ++ caps) (Un A B) fun _ H' => ∃ A', Dj A' B ∧ H' = Un A' B ∧ (J xs A' ∨ Jx A')

/-- What a round is left with. -/
def bodyQ {α : Type} (J : List α → AHeap → Prop) (Jx : Code → AHeap → Prop) (l : List α) (B : AHeap) : Exit → St → Prop
  | .normal, s => Settle (fun s => ∃ A, Dj A B ∧ s.H = Un A B ∧ J l A) s
  | .ret, s => Settle (fun s => ∃ A, Dj A B ∧ s.H = Un A B ∧ Jx .ret A) s
  | .exit i, s => Settle (fun s => ∃ A, Dj A B ∧ s.H = Un A B ∧ Jx (.exit i) A) s
  | _, _ => False

theorem rfn_iter {P : Program} {ps : List Nat} {asg bd : ACode} {f : FuncId} {caps : List AV} {Q : Exit → St → Prop} {D : List Nat} {E : Env} {α : Type} {enc : α → List AV} {xs : List α} (hit : IterW P f caps enc xs) (hps : ∀ x, (enc x).length = ps.length)
    (J : List α → AHeap → Prop) (Jx : Code → AHeap → Prop) (A B : AHeap) {H : AHeap} (hd : Dj A B) (hH : H = Un A B) (h0 : J [] A)
    (hbody : ∀ pre x rest A B, xs = pre ++ x :: rest → Dj A B → J pre A →
      ∀ R1, (∀ E1 A1, Dj A1 B → (∀ R2 B1, (∀ e s, bodyQ J Jx (pre ++ [x]) B1 e s → R2 e s) → Dj A1 B1 → W P bd R2 ⟨[], E1, Un A1 B1⟩) → R1 .normal ⟨[], E1, Un A1 B⟩) → W P asg R1 ⟨[], setps E ps (enc x), Un A B⟩)
    (hend : ∀ d A', Dj A' B → A' d = none → B d = none → J xs A' → Q .normal ⟨d :: D, E, (Un A' B).upd d (some (.raw (.deferred (some []))))⟩)
    (hexit : ∀ d A' c, Dj A' B → A' d = none → B d = none → Jx c A' → afterQ Q (some c) ⟨d :: D, E, (Un A' B).upd d (some (.raw (.deferred (some []))))⟩) :
    rfnW P ps (W P asg) (W P bd) (.fn (.func f) [] caps) Q ⟨D, E, H⟩ := by
  subst hH
  intro L b d hb hdn hbd hy
  obtain ⟨hAb, hBb⟩ := un_none.1 hb
  obtain ⟨hAd, hBd⟩ := un_none.1 hdn
  have hd2 : Dj A (B.upd d (some (.raw (.deferred (some []))))) := dj_updR hd hAd
  have hB2b : (B.upd d (some (.raw (.deferred (some []))))) b = none := by rw [upd_other _ _ hbd]; exact hBb
  have run := hit b (fun pre A' => ∃ A0, A' = A0.upd b (some (L .ready none)) ∧ A0 b = none ∧ J pre A0) (fun A' => ∃ A0 c, A' = A0.upd b (some (L .done (some c))) ∧ A0 b = none ∧ Jx c A0) ?_
    (A.upd b (some (L .ready none))) (B.upd d (some (.raw (.deferred (some []))))) (dj_upd hd2 hB2b) ⟨A, rfl, hAb, h0⟩
  · rw [un_upd, un_updR hAd] at run
    refine run.mono ?_
    rintro r H' ⟨A', hdj, rfl, (⟨A0, rfl, h0b, hj⟩ | ⟨A0, c, rfl, h0b, hj⟩)⟩
    · have hA0d : A0 d = none := by
        have := dj_atR hdj (upd_same _ _ _)
        rwa [upd_other _ _ (Ne.symm hbd)] at this
      have hdj0 : Dj A0 B := fun i => by
        by_cases e : i = b
        · subst e; exact .inl h0b
        · by_cases e2 : i = d
          · subst e2; exact .inl hA0d
          · have := hdj i
            rwa [upd_other _ _ e, upd_other _ _ e2] at this
      refine ⟨.ready, none, by simp, by rw [un_upd, upd_same], ?_⟩
      rw [un_upd, upd_upd, upd_back _ (un_none.2 ⟨h0b, hB2b⟩), un_updR hA0d]
      exact hend d A0 hdj0 hA0d hBd hj
    · have hA0d : A0 d = none := by
        have := dj_atR hdj (upd_same _ _ _)
        rwa [upd_other _ _ (Ne.symm hbd)] at this
      have hdj0 : Dj A0 B := fun i => by
        by_cases e : i = b
        · subst e; exact .inl h0b
        · by_cases e2 : i = d
          · subst e2; exact .inl hA0d
          · have := hdj i
            rwa [upd_other _ _ e, upd_other _ _ e2] at this
      refine ⟨.done, some c, by simp, by rw [un_upd, upd_same], ?_⟩
      rw [un_upd, upd_upd, upd_back _ (un_none.2 ⟨h0b, hB2b⟩), un_updR hA0d]
      exact hexit d A0 c hdj0 hA0d hBd hj
  · rintro pre x rest A' B' hx hdj ⟨A0, rfl, h0b, hj⟩
    have hB'b : B' b = none := dj_at hdj (upd_same _ _ _)
    have hdj0 : Dj A0 B' := fun i => by
      by_cases e : i = b
      · subst e; exact .inl h0b
      · have := hdj i
        rwa [upd_other _ _ e] at this
    refine hy _ _ _ (by rw [un_upd, upd_same]) (by simpa using hps x) fun R1 k1 => ?_
    rw [un_upd, ← un_updR (B := B') h0b]
    refine hbody pre x rest A0 (B'.upd b (some (L .ready none))) hx (dj_updR hdj0 h0b) hj R1 fun E1 A1 hd1 k2 => ?_
    have hA1b : A1 b = none := dj_atR hd1 (upd_same _ _ _)
    have hdj1 : Dj A1 B' := fun i => by
      by_cases e : i = b
      · subst e; exact .inl hA1b
      · have := hd1 i
        rwa [upd_other _ _ e] at this
    refine k1 _ rfl (by dsimp only; rw [un_updR hA1b, upd_same]) fun R2 k3 => ?_
    dsimp only
    rw [un_updR hA1b, upd_upd, ← un_updR hA1b]
    refine k2 R2 _ (fun e s hs => k3 e s ?_) (dj_updR hdj1 hA1b)
    have fin : ∀ (st : LoopState) (jc : Option Code) (A2 : AHeap), Dj A2 (B'.upd b (some (L .busy none))) → (Un A2 (B'.upd b (some (L .busy none)))) b = some (L .busy none) ∧ Dj (A2.upd b (some (L st jc))) B' ∧ (Un A2 (B'.upd b (some (L .busy none)))).upd b (some (L st jc)) = Un (A2.upd b (some (L st jc))) B' ∧ A2 b = none := by
      intro st jc A2 h2
      have hA2b : A2 b = none := dj_atR h2 (upd_same _ _ _)
      have hdj2 : Dj A2 B' := fun i => by
        by_cases e : i = b
        · subst e; exact .inl hA2b
        · have := h2 i
          rwa [upd_other _ _ e] at this
      exact ⟨by rw [un_updR hA2b, upd_same], dj_upd hdj2 hB'b, by rw [un_updR hA2b, upd_upd, un_upd], hA2b⟩
    cases e with
    | normal =>
      refine Settle.mono hs ?_
      rintro s ⟨A2, h2, e2, hj2⟩
      obtain ⟨f1, f2, f3, f4⟩ := fin .ready none A2 h2
      exact ⟨by rw [e2]; exact f1, _, f2, by rw [e2]; exact f3, .inl ⟨rfl, A2, rfl, f4, hj2⟩⟩
    | ret =>
      refine Settle.mono hs ?_
      rintro s ⟨A2, h2, e2, hj2⟩
      obtain ⟨f1, f2, f3, f4⟩ := fin .done (some .ret) A2 h2
      exact ⟨by rw [e2]; exact f1, _, f2, by rw [e2]; exact f3, .inr ⟨rfl, A2, _, rfl, f4, hj2⟩⟩
    | exit j =>
      refine Settle.mono hs ?_
      rintro s ⟨A2, h2, e2, hj2⟩
      obtain ⟨f1, f2, f3, f4⟩ := fin .done (some (.exit j)) A2 h2
      exact ⟨by rw [e2]; exact f1, _, f2, by rw [e2]; exact f3, .inr ⟨rfl, A2, _, rfl, f4, hj2⟩⟩
    | goto j => exact hs.elim
    | panic j => exact hs.elim
    | outgrown => exact hs.elim

/-! ### a variable's block that is not written any more -/
theorem Enc.freezeP {c : Ctx} (hok : Ok c) {b L off : Nat} {ty : TypeId} {es : Nat} {cells : List AV} {v : Value} (h : Enc c (.ptr b L off) v) (hH : c.H b = some (.row ty es cells)) (hL : cells.length = L) : Enc (c.drop b) (.cptr (cells.drop off)) v := by
  cases h with
  | ptr _ _ _ _ _ hb hL' hv =>
    obtain rfl := hv _ hH hL
    obtain ⟨arr, g1, g2, g3⟩ := hok.blk b _ hH
    refine .cptr _ (c.μ b) off (fun i => arr.getD (off + i) undef) ?_ (Array.getElem?_eq_some_iff.1 g1).1 (fun i hi => ?_) (fun i hi => ?_)
    · rintro ⟨i, hi, e⟩
      cases hx : (c.drop b).H i with
      | none => have hi' : ABlk.mut ((c.drop b).H i) := hi; rw [hx] at hi'; exact hi'
      | some x =>
        obtain ⟨hne, hci⟩ := c.drop_H b i x hx
        exact hne (hok.inj i b (by rw [hci]; simp) (by rw [hH]; simp) e)
    · have hi' : off + i < cells.length := by simp only [List.length_drop] at hi; omega
      have h6 : off + i < arr.size := by omega
      show World.cell? c.w _ = _
      simp only [World.cell?, g1]
      rw [Array.getD_eq_getD_getElem?]
      simp [h6]
    · have hi' : off + i < cells.length := by simp only [List.length_drop] at hi; omega
      have h6 : off + i < arr.size := by omega
      have := (g3 (off + i) hi' h6).later (c.drop_later b)
      simpa [Array.getD_eq_getD_getElem?, h6] using this
def frzP1 (b : Nat) (cells : List AV) : AV → AV
  | .ptr b' L off => if b' = b ∧ cells.length = L then .cptr (cells.drop off) else .ptr b' L off
  | x => x
def frzP (b : Nat) (cells : List AV) : AV → AV
  | .fn f first caps => .fn f first (caps.map (frzP1 b cells))
  | x => frzP1 b cells x
theorem enc_frzP1 {c : Ctx} (hok : Ok c) {b : Nat} {ty : TypeId} {es : Nat} {cells : List AV} (hH : c.H b = some (.row ty es cells)) (x : AV) (v : Value) (h : Enc c x v) : Enc (c.drop b) (frzP1 b cells x) v := by
  unfold frzP1
  split
  · split
    · rename_i e; obtain ⟨rfl, e⟩ := e; exact Enc.freezeP hok h hH e
    · exact h.later (c.drop_later b)
  · exact h.later (c.drop_later b)
theorem enc_frzP {c : Ctx} (hok : Ok c) {b : Nat} {ty : TypeId} {es : Nat} {cells : List AV} (hH : c.H b = some (.row ty es cells)) (x : AV) (v : Value) (h : Enc c x v) : Enc (c.drop b) (frzP b cells x) v := by
  unfold frzP
  split
  · cases h with
    | fn f first caps fv cv hf hcs h1 h2 => exact .fn _ _ _ _ _ hf (by simpa using hcs) (fun i hi hi' => (h1 i hi hi').later (c.drop_later b)) (Enc.list_map (enc_frzP1 hok hH) h2)
  · exact enc_frzP1 hok hH _ _ h
theorem SetR.frzP {Q : AV → AHeap → Prop} {r : AV} {H : AHeap} (b : Nat) {ty : TypeId} {es : Nat} {cells : List AV} (hb : H b = some (.row ty es cells)) (h : SetR Q (frzP b cells r) (H.upd b none)) : SetR Q r H :=
  SetR.join fun c v hH hok he => ⟨c.drop b, _, rfl, Ctx.drop_ok hok b, c.drop_later b, enc_frzP hok (hH ▸ hb) _ _ he, by show SetR Q _ (c.H.upd b none); rw [hH]; exact h⟩

/-! ### rows that grow, whatever they hold -/
def growC (H0 : AHeap) (ty es n : Nat) (cells : List AV) (x : AV) (H : AHeap) : Prop :=
  (n = 0 ∧ cells = [] ∧ x = .seq 0 [] true ∧ H = H0) ∨ (0 < n ∧ cells.length = n * es ∧ ∃ b, H0 b = none ∧ x = .own b (n * es) 0 n false ∧ H = H0.upd b (some (.row ty es cells)))
/-- .. held in a variable's block p. -/
def growB (H0 : AHeap) (p tb ty es n : Nat) (cells : List AV) (H : AHeap) : Prop :=
  H0 p = none ∧ ((n = 0 ∧ cells = [] ∧ H = H0.upd p (some (.row tb 0 [.seq 0 [] true]))) ∨
    (0 < n ∧ cells.length = n * es ∧ ∃ b, Ap b p ∧ H0 b = none ∧ H = (H0.upd b (some (.row ty es cells))).upd p (some (.row tb 0 [.own b (n * es) 0 n false]))))
end Go.Proofs.YtipbcjnniamcgaaDoor.Fw

/- A number's digits gone over, as package limb tells them. -/
namespace Go.Proofs.YtipbcjnniamcgaaDoor.Fw
set_option linter.unusedSimpArgs false
set_option linter.unusedVariables false
open Go Go.Proofs.YtipbcjnniamcgaaDoor.Ma
set_option maxRecDepth 20000

theorem cW_y {P : Program} {b : Nat} {args : List AV} {H : AHeap} {K : AV → AHeap → Prop} : callW P (.yld b) args H K = YieldW P b args H K := id rfl
theorem load_cS {H : AHeap} {l : List UInt8} {K : AV → Prop} : loadW H none (.cptr [Sx l]) K = K (Sx l) := by simp [loadW, cellsAt, Sx]
theorem digits1_iter {l : List UInt8} (hg : ∀ b, b ∈ l → isDig b) (hl : l.length < 4611686018427387904) : IterW Tryd.prog 106 [.cptr [Sx l]] (fun d : Nat => [.int .i64 (d : Int)]) (l.map fun b => b.toNat - 48) := by
  intro b J Jx hy A B hd h0
  refine enter106 (by simp) ?_
  simp (disch := first | assumption | (apply Ap.symm; assumption) | omega | decide | (simp only [U_len, List.length_append, List.length_replicate, List.length_cons, List.length_nil, List.length_set] <;> omega) | fail) only [ac106, rng_Sx, load_cS, ↓Xa, Xb, Xc, ↓reduceIte, Nat.reduceLT, Nat.reduceEqDiff, Nat.reduceBEq, Nat.reduceLeDiff, Nat.reduceAdd, Nat.reduceMul]
  refine rng_i fun q hq => ?_
  obtain ⟨qa, qb⟩ := un_none.1 hq
  simp (disch := first | assumption | (apply Ap.symm; assumption) | omega | decide | (simp only [U_len, List.length_append, List.length_replicate, List.length_cons, List.length_nil, List.length_set] <;> omega) | fail) only [↓Xa, Xb, Xc, ↓reduceIte, Nat.reduceLT, Nat.reduceEqDiff, Nat.reduceBEq, Nat.reduceLeDiff, Nat.reduceAdd, Nat.reduceMul]
  refine W_loop (fun s : Nat × AHeap => ⟨[], [(0, .yld b), (6, .ptr q 0 0)], (Un s.2 B).upd q (some (.raw (.stringIter ⟨l.toArray⟩ s.1)))⟩) (fun s => s.1 ≤ l.length ∧ Dj s.2 B ∧ s.2 q = none ∧ J ((l.map fun b => b.toNat - 48).take s.1) s.2) (fun s => l.length - s.1) (0, A) (Settle.now rfl) ⟨Nat.zero_le _, hd, qa, by simpa using h0⟩ ?_
  rintro ⟨i, A1⟩ ⟨hi, hd1, hq1, hj⟩
  dsimp only at hi hd1 hq1 hj ⊢
  by_cases h : i < l.length
  · have hdg := hg _ (List.getElem_mem h)
    have eg : l.getD i 0 = l[i] := by rw [List.getD_eq_getElem?_getD, List.getElem?_eq_getElem h, Option.getD_some]
    rw [← eg] at hdg
    unfold isDig at hdg
    have h128 : (l.getD i 0).toNat < 128 := by omega
    have hx : (l.map fun b => b.toNat - 48) = (l.map fun b => b.toNat - 48).take i ++ ((l.getD i 0).toNat - 48) :: (l.map fun b => b.toNat - 48).drop (i + 1) := by
      conv => lhs; rw [← List.take_append_drop i (l.map fun b => b.toNat - 48)]
      rw [List.drop_eq_getElem_cons (by simpa using h), List.getElem_map, eg]
    have hx2 : (l.map fun b => b.toNat - 48).take (i + 1) = (l.map fun b => b.toNat - 48).take i ++ [(l.getD i 0).toNat - 48] := by
      rw [List.take_add_one, List.getElem?_map, List.getElem?_eq_getElem h, eg]; rfl
    simp (disch := first | assumption | (apply Ap.symm; assumption) | omega | decide | (simp only [U_len, List.length_append, List.length_replicate, List.length_cons, List.length_nil, List.length_set] <;> omega) | fail) only [nxt_Sl, wn_i32, cW_y, ↓Xa, Xb, Xc, ↓reduceIte, Nat.reduceLT, Nat.reduceEqDiff, Nat.reduceBEq, Nat.reduceLeDiff, Nat.reduceAdd, Nat.reduceMul]
    rw [← un_updR hq1]
    refine (hy _ _ _ A1 (B.upd q (some (.raw (.stringIter ⟨l.toArray⟩ (i + 1))))) hx (dj_updR hd1 hq1) hj).mono ?_
    rintro r H' ⟨A2, hd2, rfl, (⟨rfl, hj2⟩ | ⟨rfl, hj2⟩)⟩
    · have hq2 : A2 q = none := dj_atR hd2 (upd_same _ _ _)
      rw [un_updR hq2]
      simp (disch := first | assumption | (apply Ap.symm; assumption) | omega | decide | (simp only [U_len, List.length_append, List.length_replicate, List.length_cons, List.length_nil, List.length_set] <;> omega) | fail) only [↓Xa, Xb, Xc, ↓reduceIte, Nat.reduceLT, Nat.reduceEqDiff, Nat.reduceBEq, Nat.reduceLeDiff, Nat.reduceAdd, Nat.reduceMul]
      refine Settle.keep [0, 6] ⟨(i + 1, A2), by dsimp only; omega, ⟨by dsimp only; omega, ?_, hq2, by dsimp only; rw [hx2]; exact hj2⟩, rfl⟩
      intro k
      by_cases e : k = q
      · subst e; exact .inl hq2
      · have := hd2 k
        rwa [upd_other _ _ e] at this
    · have hq2 : A2 q = none := dj_atR hd2 (upd_same _ _ _)
      have hd3 : Dj A2 B := fun k => by
        by_cases e : k = q
        · subst e; exact .inl hq2
        · have := hd2 k
          rwa [upd_other _ _ e] at this
      rw [un_updR hq2]
      simp (disch := first | assumption | (apply Ap.symm; assumption) | omega | decide | (simp only [U_len, List.length_append, List.length_replicate, List.length_cons, List.length_nil, List.length_set] <;> omega) | fail) only [rs106, ↓Xa, Xb, Xc, ↓reduceIte, Nat.reduceLT, Nat.reduceEqDiff, Nat.reduceBEq, Nat.reduceLeDiff, Nat.reduceAdd, Nat.reduceMul]
      refine SetR.dropTo ((Le.refl _).upd (un_none.2 ⟨hq2, qb⟩)) (SetR.now ⟨A2, hd3, rfl, .inr hj2⟩)
  · obtain rfl : i = l.length := by omega
    simp (disch := first | assumption | (apply Ap.symm; assumption) | omega | decide | (simp only [U_len, List.length_append, List.length_replicate, List.length_cons, List.length_nil, List.length_set] <;> omega) | fail) only [nxt_Sg, ↓Xa, Xb, Xc, ↓reduceIte, Nat.reduceLT, Nat.reduceEqDiff, Nat.reduceBEq, Nat.reduceLeDiff, Nat.reduceAdd, Nat.reduceMul]
    refine Settle.now ?_
    simp (disch := first | assumption | (apply Ap.symm; assumption) | omega | decide | (simp only [U_len, List.length_append, List.length_replicate, List.length_cons, List.length_nil, List.length_set] <;> omega) | fail) only [rs106, ↓Xa, Xb, Xc, ↓reduceIte, Nat.reduceLT, Nat.reduceEqDiff, Nat.reduceBEq, Nat.reduceLeDiff, Nat.reduceAdd, Nat.reduceMul]
    rw [List.take_of_length_le (by simp)] at hj
    refine SetR.dropTo ((Le.refl _).upd (un_none.2 ⟨hq1, qb⟩)) (SetR.now ⟨A1, hd1, rfl, .inl hj⟩)
theorem digits_fn {l : List Nat} (t : Bool) (hl : Lim 4294967296 l) (hn : l.length ≤ 1099511627776) : PFn Tryd.prog 73 [LS l t] (.fn (.func 106) [] [.cptr [Sx (decT (val 4294967296 l))]]) := by
  intro H Q hq
  refine enter73 (by simp) ?_
  simp (disch := first | assumption | (apply Ap.symm; assumption) | omega | decide | (simp only [U_len, List.length_append, List.length_replicate, List.length_cons, List.length_nil, List.length_set] <;> omega) | fail) only [ac73, ↓Xa, Xb, Xc, ↓reduceIte, Nat.reduceLT, Nat.reduceEqDiff, Nat.reduceBEq, Nat.reduceLeDiff, Nat.reduceAdd, Nat.reduceMul]
  refine (text_fn t hl hn).call ?_
  simp (disch := first | assumption | (apply Ap.symm; assumption) | omega | decide | (simp only [U_len, List.length_append, List.length_replicate, List.length_cons, List.length_nil, List.length_set] <;> omega) | fail) only [↓Xa, Xb, Xc, ↓reduceIte, Nat.reduceLT, Nat.reduceEqDiff, Nat.reduceBEq, Nat.reduceLeDiff, Nat.reduceAdd, Nat.reduceMul]
  refine alloc_i fun p1 hp1 => ?_
  have n1 := hp1
  simp (disch := first | assumption | (apply Ap.symm; assumption) | omega | decide | (simp only [U_len, List.length_append, List.length_replicate, List.length_cons, List.length_nil, List.length_set] <;> omega) | fail) only [cells_Sx, rs73, ↓Xa, Xb, Xc, ↓reduceIte, Nat.reduceLT, Nat.reduceEqDiff, Nat.reduceBEq, Nat.reduceLeDiff, Nat.reduceAdd, Nat.reduceMul]
  refine SetR.frzP p1 (upd_same _ _ _) ?_
  rw [upd_upd, upd_back _ n1]
  simp [frzP, frzP1]
  exact SetR.now hq
end Go.Proofs.YtipbcjnniamcgaaDoor.Fw

/- A whole number's text, as package integer tells it. -/
namespace Go.Proofs.YtipbcjnniamcgaaDoor.Fw
set_option linter.unusedSimpArgs false
set_option linter.unusedVariables false
open Go Go.Proofs.YtipbcjnniamcgaaDoor.Ma
set_option maxRecDepth 20000

/-- A whole number's decimal text. -/
def iText (z : Int) : List UInt8 := (if z < 0 then [45] else []) ++ decT z.natAbs
/-- A digit's character. -/
def chD (d : Nat) : UInt8 := UInt8.ofNat (48 + d)
end Go.Proofs.YtipbcjnniamcgaaDoor.Fw

/- A whole number's text read, as package integer and as its reference read it. -/
namespace Go.Proofs.YtipbcjnniamcgaaDoor.Fw
set_option linter.unusedSimpArgs false
set_option linter.unusedVariables false
open Go Go.Proofs.YtipbcjnniamcgaaDoor.Ma
set_option maxRecDepth 20000

/-- Where the digits begin. -/
def iFrom (l : List UInt8) : Nat := if (l.getD 0 0).toNat = 45 then 1 else 0
/-- No digit stands there that may. -/
def iBad (l : List UInt8) (i : Nat) : Prop := (l.getD i 0).toNat < 48 ∨ 57 < (l.getD i 0).toNat ∨ (i = iFrom l + 1 ∧ (l.getD (iFrom l) 0).toNat = 48) ∨ (i = iFrom l ∧ iFrom l = 1 ∧ (l.getD i 0).toNat = 48)
/-- The first such place. -/
def IsAt (l : List UInt8) (p : Nat) : Prop := iFrom l ≤ p ∧ p ≤ l.length ∧ iBad l p ∧ ∀ j, iFrom l ≤ j → j < p → ¬ iBad l j
/-- The number of a text that is right. -/
def iVal (l : List UInt8) : Int := sg (decide (iFrom l = 1)) (decV (l.drop (iFrom l)))
/-- What is answered of a text. -/
def iReadA (l : List UInt8) (p : Nat) : AV :=
  if 65536 < l.length then .tup [IntA 0, spot 3 65536] else if p = iFrom l ∨ p < l.length then .tup [IntA 0, spot 6 p] else .tup [IntA (iVal l), spot 0 0]
end Go.Proofs.YtipbcjnniamcgaaDoor.Fw

/- A whole number's text, as the reference of layer 2 reads it. -/
namespace Go.Proofs.YtipbcjnniamcgaaDoor.Fw
set_option linter.unusedSimpArgs false
set_option linter.unusedVariables false
open Go Go.Proofs.YtipbcjnniamcgaaDoor.Ma
set_option maxRecDepth 20000

theorem decV_take {l : List UInt8} {i : Nat} (h : i < l.length) : decV (l.take (i + 1)) = decV (l.take i) * 10 + ((l.getD i 0).toNat - 48) := by
  have : l.take (i + 1) = l.take i ++ [l.getD i 0] := by
    rw [List.take_add_one, List.getElem?_eq_getElem h, List.getD_eq_getElem?_getD, List.getElem?_eq_getElem h]; rfl
  rw [this, decV_app, decV_one]; simp; omega
/-- What the reference answers of a text. -/
def rReadA (l : List UInt8) (p : Nat) : AV := if p = iFrom l ∨ p < l.length then .tup [RefA 0 true, .int .i64 (p : Int)] else .tup [RefA (iVal l) false, .int .i64 (-1)]
end Go.Proofs.YtipbcjnniamcgaaDoor.Fw

/- A whole number's text, as the reference of layer 2 tells it. -/
namespace Go.Proofs.YtipbcjnniamcgaaDoor.Fw
set_option linter.unusedSimpArgs false
set_option linter.unusedVariables false
open Go Go.Proofs.YtipbcjnniamcgaaDoor.Ma
set_option maxRecDepth 20000

/-- The first and the last i bytes turned about. -/
def revI (i : Nat) (l : List UInt8) : List UInt8 := (List.range l.length).map fun j => if j < i ∨ l.length - i ≤ j then l.getD (l.length - 1 - j) 0 else l.getD j 0
end Go.Proofs.YtipbcjnniamcgaaDoor.Fw

/- The looked-up code of one function, and that it is: by a program (wip/tools/ac.py); Lean checks it. -/
namespace Go.Proofs.YtipbcjnniamcgaaDoor.Fw
open Go
set_option maxRecDepth 100000
def ac15 : ACode := (.seq (.reg [⟨(some 5), none, (.box 3 0 (.t 2))⟩, ⟨(some 6), none, (.alloc 4 0 [(.bool false)])⟩] [0, 1, 5, 6]) (.seq (.seq (.reg [⟨(some 15), none, (.call (.k (.fn (.func 33) [] [])) [])⟩, ⟨(some 16), none, (.un .not (.t 15))⟩] [0, 1, 5, 6, 16]) (.cond (.t 16) (.seq (.reg [⟨none, none, (.store 1 (.t 6) (.k (.bool false)))⟩] [6]) .ret) .skip)) (.seq (.seq (.reg [⟨(some 17), none, (.mov (.t 0))⟩, ⟨(some 18), none, (.bsl [(.seq 0 [] true)] 1 1 [(0, (1, (.t 17)))])⟩, ⟨(some 19), none, (.call (.k (.fn (.func 51) [] [])) [(.t 18)])⟩, ⟨(some 20), none, (.mov (.t 19))⟩, ⟨(some 21), (some (20, false)), (.mov (.t 1))⟩, ⟨(some 22), (some (20, false)), (.len true (.t 21))⟩, ⟨(some 23), (some (20, false)), (.bin .gtr (.t 22) (.k (.int .i64 ((1500 : Nat) : Int))))⟩, ⟨(some 24), (some (20, false)), (.mov (.t 23))⟩, ⟨(some 25), (some (24, true)), (.mov (.t 1))⟩, ⟨(some 26), (some (24, true)), (.len true (.t 25))⟩, ⟨(some 27), (some (24, true)), (.bin .leq (.t 26) (.k (.int .i64 ((65536 : Nat) : Int))))⟩, ⟨(some 28), (some (20, false)), (.pick (.t 24) (.t 27) (.k (.bool false)))⟩, ⟨(some 29), none, (.pick (.t 20) (.k (.bool true)) (.t 28))⟩] [0, 1, 5, 6, 29]) (.cond (.t 29) (.seq (.reg [⟨none, none, (.store 1 (.t 6) (.k (.bool true)))⟩] [6]) .ret) .skip)) (.seq (.reg [⟨(some 30), none, (.mov (.t 0))⟩, ⟨(some 31), none, (.call (.k (.fn (.func 47) [] [])) [(.t 30)])⟩, ⟨(some 32), none, (.call (.k (.fn (.func 70) [] [])) [(.t 31)])⟩, ⟨(some 7), none, (.alloc 9 0 [(.str ⟨#[]⟩)])⟩, ⟨none, none, (.store 1 (.t 7) (.t 32))⟩] [0, 1, 5, 6, 7]) (.seq (.reg [⟨(some 34), none, (.mov (.t 1))⟩, ⟨(some 35), none, (.call (.k (.fn (.func 69) [] [])) [(.t 34)])⟩, ⟨(some 33), none, (.mov (.t 35))⟩, ⟨(some 36), none, (.ext (.t 33) 0)⟩, ⟨(some 37), none, (.ext (.t 33) 1)⟩, ⟨(some 9), none, (.alloc 58 0 [(.int .i64 ((0 : Nat) : Int)), (.int .i64 ((0 : Nat) : Int))])⟩, ⟨(some 8), none, (.mov (.t 36))⟩, ⟨none, none, (.store 2 (.t 9) (.t 37))⟩] [0, 1, 5, 6, 7, 8, 9]) (.seq (.reg [⟨(some 39), none, (.mov (.t 1))⟩, ⟨(some 40), none, (.call (.k (.fn (.func 71) [] [])) [(.t 39)])⟩, ⟨(some 38), none, (.mov (.t 40))⟩, ⟨(some 41), none, (.ext (.t 38) 0)⟩, ⟨(some 42), none, (.ext (.t 38) 1)⟩, ⟨(some 11), none, (.alloc 58 0 [(.int .i64 ((0 : Nat) : Int)), (.int .i64 ((0 : Nat) : Int))])⟩, ⟨(some 10), none, (.mov (.t 41))⟩, ⟨none, none, (.store 2 (.t 11) (.t 42))⟩] [0, 5, 6, 7, 8, 9, 10, 11]) (.seq (.seq (.draw [⟨(some 43), none, (.load none (.t 7))⟩, ⟨(some 44), none, (.mov (.t 0))⟩, ⟨(some 45), none, (.call (.k (.fn (.func 72) [] [])) [(.t 44)])⟩, ⟨(some 46), none, (.bin .neq (.t 43) (.t 45))⟩, ⟨(some 47), none, (.mov (.t 46))⟩, ⟨(some 48), (some (47, false)), (.mov (.t 8))⟩, ⟨(some 49), (some (47, false)), (.mov (.t 10))⟩, ⟨(some 50), (some (47, false)), (.call (.k (.fn (.func 37) [] [])) [(.t 48), (.t 49)])⟩, ⟨(some 51), (some (47, false)), (.un .not (.t 50))⟩, ⟨(some 52), none, (.pick (.t 47) (.k (.bool true)) (.t 51))⟩, ⟨(some 53), none, (.mov (.t 52))⟩, ⟨(some 54), (some (53, false)), (.load (some 2) (.t 9))⟩, ⟨(some 55), (some (53, false)), (.load (some 2) (.t 11))⟩] [⟨(some 56), (some (53, false)), (.prim (.aeq true) [(.t 54), (.t 55)])⟩, ⟨(some 57), none, (.pick (.t 53) (.k (.bool true)) (.t 56))⟩] [0, 1, 1, 0, 0, 0, 32, 0, 0, 0, 0, 0, 2048] [0, 5, 6, 7, 57]) (.cond (.t 57) (.seq (.reg [⟨none, none, (.store 1 (.t 6) (.k (.bool false)))⟩] [6]) .ret) .skip)) (.seq (.reg [⟨(some 58), none, (.mov (.t 0))⟩, ⟨(some 59), none, (.call (.k (.fn (.func 47) [] [])) [(.t 58)])⟩, ⟨(some 60), none, (.call (.k (.fn (.func 73) [] [])) [(.t 59)])⟩, ⟨(some 12), none, (.mov (.t 60))⟩] [5, 6, 7, 12]) (.seq (.reg [⟨(some 13), none, (.alloc 3 0 [(.int .i64 ((0 : Nat) : Int))])⟩, ⟨none, none, (.store 1 (.t 13) (.k (.int .i64 ((0 : Nat) : Int))))⟩] [5, 6, 7, 12, 13]) (.seq (.seq (.reg [⟨(some 61), none, (.mov (.t 12))⟩] [5, 6, 7, 12, 13, 61]) (.block 0 (.rfn (.t 61) [62] .skip (.block 1 (.seq (.seq (.reg [⟨(some 63), none, (.load none (.t 13))⟩, ⟨(some 64), none, (.load none (.t 5))⟩, ⟨(some 65), none, (.bin .eql (.t 63) (.t 64))⟩] [13, 65]) (.cond (.t 65) (.exit 0) .skip)) (.reg [⟨(some 66), none, (.load none (.t 13))⟩, ⟨(some 67), none, (.bin .add (.t 66) (.k (.int .i64 ((1 : Nat) : Int))))⟩, ⟨none, none, (.store 1 (.t 13) (.t 67))⟩] [])))))) (.seq (.reg [⟨none, none, (.store 1 (.t 13) (.k (.int .i64 ((0 : Nat) : Int))))⟩] [6, 7, 12, 13]) (.seq (.seq (.reg [⟨(some 68), none, (.mov (.t 12))⟩] [6, 7, 13, 68]) (.block 2 (.rfn (.t 68) [69] (.reg [⟨(some 14), none, (.mov (.t 69))⟩] [6, 7, 13, 14]) (.block 3 (.seq (.seq (.reg [⟨(some 70), none, (.load none (.t 13))⟩, ⟨(some 71), none, (.load none (.t 7))⟩, ⟨(some 72), none, (.len true (.t 71))⟩, ⟨(some 73), none, (.bin .geq (.t 70) (.t 72))⟩, ⟨(some 74), none, (.mov (.t 73))⟩, ⟨(some 75), (some (74, false)), (.mov (.t 14))⟩, ⟨(some 76), (some (74, false)), (.load none (.t 7))⟩, ⟨(some 77), (some (74, false)), (.load none (.t 13))⟩, ⟨(some 78), (some (74, false)), (.idxS (.t 76) (.t 77))⟩, ⟨(some 79), (some (74, false)), (.bin .sub (.t 78) (.k (.int .u8 ((48 : Nat) : Int))))⟩, ⟨(some 80), (some (74, false)), (.conv .i64 (.t 79))⟩, ⟨(some 81), (some (74, false)), (.bin .neq (.t 75) (.t 80))⟩, ⟨(some 82), none, (.pick (.t 74) (.k (.bool true)) (.t 81))⟩] [6, 13, 82]) (.cond (.t 82) (.seq (.reg [⟨none, none, (.store 1 (.t 6) (.k (.bool false)))⟩] [6]) .ret) .skip)) (.reg [⟨(some 83), none, (.load none (.t 13))⟩, ⟨(some 84), none, (.bin .add (.t 83) (.k (.int .i64 ((1 : Nat) : Int))))⟩, ⟨none, none, (.store 1 (.t 13) (.t 84))⟩] [])))))) (.seq (.reg [⟨(some 85), none, (.load none (.t 13))⟩, ⟨(some 86), none, (.load none (.t 7))⟩, ⟨(some 87), none, (.len true (.t 86))⟩, ⟨(some 88), none, (.bin .eql (.t 85) (.t 87))⟩, ⟨none, none, (.store 1 (.t 6) (.t 88))⟩] [6]) .ret)))))))))))))
def rs15 : List RV := [(.cell 6 none)]
theorem co15 : compFn Go.Proofs.Tryd.prog Go.Proofs.Tryd.f15 pl15 = some (ac15, rs15) := by kernel_rfl
theorem enter15 {args : List AV} {H : AHeap} {Q : AV → AHeap → Prop} (hn : args.length ≤ 89) (h : W Go.Proofs.Tryd.prog ac15 (retN rs15 Q) ⟨[], initE args 0, H⟩) : Run Go.Proofs.Tryd.prog 15 args H Q := Run_fn2 mixed Go.Proofs.Tryd.func15 (by kernel_rfl) co15 (n := 89) (by kernel_rfl) hn h
end Go.Proofs.YtipbcjnniamcgaaDoor.Fw

/- The reference for limbs: texts told and read. The law of limbs' texts. -/
namespace Go.Proofs.YtipbcjnniamcgaaDoor.Fw
set_option linter.unusedSimpArgs false
set_option linter.unusedVariables false
open Go Go.Proofs.YtipbcjnniamcgaaDoor.Ma
set_option maxRecDepth 20000

theorem dec_step {n : Nat} (h : 0 < n) : dec n = dec (n / 10) ++ [chr (n % 10)] := by
  unfold dec
  rw [digs_pos (by omega) h]; simp
theorem ten_chars {r : Nat} (h : r < 10) : (([48, 49, 50, 51, 52, 53, 54, 55, 56, 57] : List UInt8).drop r).take (r + 1 - r) = [chr r] := by
  match r, h with
  | 0, _ => rfl
  | 1, _ => rfl
  | 2, _ => rfl
  | 3, _ => rfl
  | 4, _ => rfl
  | 5, _ => rfl
  | 6, _ => rfl
  | 7, _ => rfl
  | 8, _ => rfl
  | 9, _ => rfl
theorem nm_dec {a : List Nat} {n k : Nat} (h : Nm a n k) : (dec n).length ≤ 10 * k := by
  refine dec_len (Nat.lt_of_lt_of_le h.lt ?_)
  calc 4294967296 ^ k ≤ (10 ^ 10) ^ k := Nat.pow_le_pow_left (by omega) k
    _ = 10 ^ (10 * k) := by rw [Nat.pow_mul]
theorem dn_pos {k : Nat} (h : 0 < k) : ((k - 1 : Nat) : Int) = dn k := by
  obtain ⟨m, rfl⟩ : ∃ m, k = m + 1 := ⟨k - 1, by omega⟩
  rfl
theorem ltext_n {a : List Nat} {N k : Nat} (t : Bool) (ha : Nm a N k) (hk : k ≤ 1000000) : PFn Tryd.prog 72 [LS a t] (Sx (decT N)) := by
  intro H Q hq
  have hdl := nm_dec ha
  refine enter72 (by simp) ?_
  simp (disch := first | assumption | (apply Ap.symm; assumption) | omega | decide | (simp only [U_len, List.length_append, List.length_replicate, List.length_cons, List.length_nil, List.length_set] <;> omega) | fail) only [ac72, ↓Xa, Xb, Xc, ↓reduceIte, Nat.reduceLT, Nat.reduceEqDiff, Nat.reduceBEq, Nat.reduceLeDiff, Nat.reduceAdd, Nat.reduceMul]
  refine (lnorm_n t ha hk).call ?_
  have nN := (Nm.digs ha.lt).len
  rcases Nat.eq_zero_or_pos N with e | hpos
  · subst e
    rw [digs_zero]
    simp (disch := first | assumption | (apply Ap.symm; assumption) | omega | decide | (simp only [U_len, List.length_append, List.length_replicate, List.length_cons, List.length_nil, List.length_set] <;> omega) | fail) only [List.length_nil, str_Sx, rs72, ↓Xa, Xb, Xc, ↓reduceIte, Nat.reduceLT, Nat.reduceEqDiff, Nat.reduceBEq, Nat.reduceLeDiff, Nat.reduceAdd, Nat.reduceMul]
    exact SetR.now hq
  have hne : ¬ (Ma.digs 4294967296 N).length = 0 := by rw [digs_pos (by omega) hpos]; simp
  have hNk := ha.lt
  rw [decT, if_neg (by omega)] at hq
  simp (disch := first | assumption | (apply Ap.symm; assumption) | omega | decide | (simp only [U_len, List.length_append, List.length_replicate, List.length_cons, List.length_nil, List.length_set] <;> omega) | fail) only [hne, str_Sx, ↓Xa, Xb, Xc, ↓reduceIte, Nat.reduceLT, Nat.reduceEqDiff, Nat.reduceBEq, Nat.reduceLeDiff, Nat.reduceAdd, Nat.reduceMul]
  refine W_loop (fun s : Nat × List UInt8 => ⟨[], [(0, LS (Ma.digs 4294967296 s.1) false), (3, Sx s.2)], H⟩) (fun s => s.1 < 4294967296 ^ k ∧ dec N = dec s.1 ++ s.2) (fun s => s.1) (N, []) (Settle.now rfl) ⟨hNk, by simp⟩ ?_
  rintro ⟨n, s⟩ ⟨hn, hs⟩
  dsimp only at hn hs ⊢
  have nn := Nm.digs hn
  have nl := nn.len
  have hsl : s.length ≤ 10 * k := by rw [hs, List.length_append] at hdl; omega
  rcases Nat.eq_zero_or_pos n with rfl | h0
  · rw [digs_zero, dec_zero, List.nil_append] at *
    simp (disch := first | assumption | (apply Ap.symm; assumption) | omega | decide | (simp only [U_len, List.length_append, List.length_replicate, List.length_cons, List.length_nil, List.length_set] <;> omega) | fail) only [List.length_nil, ↓Xa, Xb, Xc, ↓reduceIte, Nat.reduceLT, Nat.reduceEqDiff, Nat.reduceBEq, Nat.reduceLeDiff, Nat.reduceAdd, Nat.reduceMul]
    refine Settle.now ?_
    simp (disch := first | assumption | (apply Ap.symm; assumption) | omega | decide | (simp only [U_len, List.length_append, List.length_replicate, List.length_cons, List.length_nil, List.length_set] <;> omega) | fail) only [rs72, ↓Xa, Xb, Xc, ↓reduceIte, Nat.reduceLT, Nat.reduceEqDiff, Nat.reduceBEq, Nat.reduceLeDiff, Nat.reduceAdd, Nat.reduceMul]
    rw [← hs]
    exact SetR.now hq
  · have hlp : 0 < (Ma.digs 4294967296 n).length := by rw [digs_pos (by omega) h0]; simp
    simp (disch := first | assumption | (apply Ap.symm; assumption) | omega | decide | (simp only [U_len, List.length_append, List.length_replicate, List.length_cons, List.length_nil, List.length_set] <;> omega) | fail) only [hlp, ↓Xa, Xb, Xc, ↓reduceIte, Nat.reduceLT, Nat.reduceEqDiff, Nat.reduceBEq, Nat.reduceLeDiff, Nat.reduceAdd, Nat.reduceMul]
    refine newU_i fun o ho => ?_
    simp (disch := first | assumption | (apply Ap.symm; assumption) | omega | decide | (simp only [U_len, List.length_append, List.length_replicate, List.length_cons, List.length_nil, List.length_set] <;> omega) | fail) only [↓Xa, Xb, Xc, ↓reduceIte, Nat.reduceLT, Nat.reduceEqDiff, Nat.reduceBEq, Nat.reduceLeDiff, Nat.reduceAdd, Nat.reduceMul]
    rw [dn_pos hlp]
    refine W_loop (fun p : Nat × Nat × List Nat => ⟨[], [(0, LS (Ma.digs 4294967296 n) false), (3, Sx s), (4, .int .u64 (p.2.1 : Nat)), (5, .own o (Ma.digs 4294967296 n).length 0 (Ma.digs 4294967296 n).length true), (6, .int .i64 (dn p.1))], H.upd o (some (.row 45 1 (U p.2.2)))⟩)
      (fun p => p.1 ≤ (Ma.digs 4294967296 n).length ∧ DivI (Ma.digs 4294967296 n) 10 p.1 p.2.1 p.2.2) (fun p => p.1) ((Ma.digs 4294967296 n).length, 0, List.replicate (Ma.digs 4294967296 n).length 0) (Settle.now rfl) ⟨by simp, DivI.zero _ (by omega)⟩ ?_
    rintro ⟨i, r, out⟩ ⟨h1, h2⟩
    dsimp only at h1 h2 ⊢
    have hol := h2.1
    have hr := h2.2.2.1
    cases i with
    | zero =>
      obtain ⟨e1, e2⟩ := h2.end
      have hlo := h2.2.1
      rw [nn.val] at e1 e2
      simp (disch := first | assumption | (apply Ap.symm; assumption) | omega | decide | (simp only [U_len, List.length_append, List.length_replicate, List.length_cons, List.length_nil, List.length_set] <;> omega) | fail) only [↓Xa, Xb, Xc, ↓reduceIte, Nat.reduceLT, Nat.reduceEqDiff, Nat.reduceBEq, Nat.reduceLeDiff, Nat.reduceAdd, Nat.reduceMul]
      refine Settle.freeze 5 rfl (upd_same _ _ _) (by simp [hol]) (.inr (by simp)) ?_
      rw [upd_upd, upd_back _ ho]
      have ef : AV.seq (Ma.digs 4294967296 n).length (((U out).drop 0).take ((Ma.digs 4294967296 n).length * 1)) true = LS out true := by
        rw [← hol, Nat.mul_one, List.drop_zero, List.take_of_length_le (by simp)]; rfl
      rw [ef]
      refine Settle.now ?_
      subst e2
      have hs10 : s.length + 1 ≤ 9223372036854775807 := by omega
      simp (disch := first | assumption | (apply Ap.symm; assumption) | omega | decide | (simp only [U_len, List.length_append, List.length_replicate, List.length_cons, List.length_nil, List.length_set] <;> omega) | fail) only [slc_Sx, ten_chars, add_Sx, ↓Xa, Xb, Xc, ↓reduceIte, Nat.reduceLT, Nat.reduceEqDiff, Nat.reduceBEq, Nat.reduceLeDiff, Nat.reduceAdd, Nat.reduceMul]
      refine (lnorm_fn true (by omega)).call ?_
      rw [e1]
      simp (disch := first | assumption | (apply Ap.symm; assumption) | omega | decide | (simp only [U_len, List.length_append, List.length_replicate, List.length_cons, List.length_nil, List.length_set] <;> omega) | fail) only [↓Xa, Xb, Xc, ↓reduceIte, Nat.reduceLT, Nat.reduceEqDiff, Nat.reduceBEq, Nat.reduceLeDiff, Nat.reduceAdd, Nat.reduceMul]
      refine Settle.now ⟨(n / 10, chr (n % 10) :: s), Nat.div_lt_self h0 (by omega), ⟨Nat.lt_of_le_of_lt (Nat.div_le_self _ _) hn, ?_⟩, rfl⟩
      dsimp only
      rw [hs, dec_step h0]; simp
    | succ i =>
      have hx := (lim_digs (B := 4294967296) (by omega) n).getD (by omega) i
      have st := h2.step (by omega) (lim_digs (by omega) n) (by omega) rfl
      rw [show (2 : Nat) ^ 32 = 4294967296 from rfl, Nat.mod_eq_of_lt (show (r * 4294967296 + (Ma.digs 4294967296 n).getD i 0) / 10 < 4294967296 by omega)] at st
      simp (disch := first | assumption | (apply Ap.symm; assumption) | omega | decide | (simp only [U_len, List.length_append, List.length_replicate, List.length_cons, List.length_nil, List.length_set] <;> omega) | fail) only [↓Xa, Xb, Xc, ↓reduceIte, Nat.reduceLT, Nat.reduceEqDiff, Nat.reduceBEq, Nat.reduceLeDiff, Nat.reduceAdd, Nat.reduceMul]
      exact ⟨by decide, by decide, Settle.now ⟨(i, _, _), by dsimp only; omega, ⟨by dsimp only; omega, st⟩, rfl⟩⟩
theorem decV_bd {l : List UInt8} {i : Nat} (h : ∀ j, j < i → ¬ badAt l j) (hi : i ≤ l.length) (hl : l.length ≤ 65536) : decV (l.take i) < 4294967296 ^ 8192 := by
  refine Nat.lt_of_lt_of_le (decV_lt fun b hb => ?_) (ten_bound (by simp; omega))
  obtain ⟨k, hk, rfl⟩ := List.getElem_of_mem hb
  simp only [List.length_take] at hk
  have := h k (by omega)
  unfold badAt at this
  simp only [List.getElem_take]
  have e : l.getD k 0 = l[k] := by rw [List.getD_eq_getElem?_getD, List.getElem?_eq_getElem (by omega), Option.getD_some]
  rw [e] at this; omega
/-- What the reference answers of a text. -/
theorem lread_fn {l : List UInt8} {a : List Nat} {e i : Nat} (hr : ReadR l (.tup [LS a true, spot e i])) (hsz : l.length < 9223372036854775808) : ∃ t, PFn Tryd.prog 71 [Sx l] (.tup [LS a t, spot e i]) := by
  refine ⟨if e = 0 then false else true, ?_⟩
  intro H Q hq
  refine enter71 (by simp) ?_
  simp (disch := first | assumption | (apply Ap.symm; assumption) | omega | decide | (simp only [U_len, List.length_append, List.length_replicate, List.length_cons, List.length_nil, List.length_set] <;> omega) | fail) only [ac71, ↓Xa, Xb, Xc, ↓reduceIte, Nat.reduceLT, Nat.reduceEqDiff, Nat.reduceBEq, Nat.reduceLeDiff, Nat.reduceAdd, Nat.reduceMul]
  refine alloc_i fun p1 hp1 => ?_
  have n1 := hp1
  have out : ∀ {r' : AV} {x : Option ABlk}, r' = .tup [LS a (if e = 0 then false else true), spot e i] → SetR Q r' (H.upd p1 x) := fun h => by rw [h]; exact SetR.dropTo ((Le.refl H).updB n1) (SetR.now hq)
  have err : ∀ {e' i' : Nat} {x : Option ABlk}, e' ≠ 0 → ReadR l (.tup [LS [] true, spot e' i']) → SetR Q (.tup [LS [] true, spot e' i']) (H.upd p1 x) := fun {e' i' x} h0 h => by
    have := readR_fn hr h
    injection this with this; injection this with q1 q2; injection q2 with q2
    unfold spot at q2; injection q2 with q2; injection q2 with q3 q4; injection q4 with q4
    have e3 : e = e' := by injection q3 with _ q3; omega
    have e4 : i = i' := by injection q4 with _ q4; omega
    rw [← e3] at h0
    refine out ?_
    rw [if_neg h0, q1, e3, e4]
  by_cases h1 : 65536 < l.length
  · simp (disch := first | assumption | (apply Ap.symm; assumption) | omega | decide | (simp only [U_len, List.length_append, List.length_replicate, List.length_cons, List.length_nil, List.length_set] <;> omega) | fail) only [len_Sx, h1, cells_i2, rs71, ↓Xa, Xb, Xc, ↓reduceIte, Nat.reduceLT, Nat.reduceEqDiff, Nat.reduceBEq, Nat.reduceLeDiff, Nat.reduceAdd, Nat.reduceMul]
    exact err (by omega) (.inl ⟨h1, rfl⟩)
  by_cases h2 : l = []
  · simp (disch := first | assumption | (apply Ap.symm; assumption) | omega | decide | (simp only [U_len, List.length_append, List.length_replicate, List.length_cons, List.length_nil, List.length_set] <;> omega) | fail) only [len_Sx, h2, cells_i2, rs71, List.length_nil, ↓Xa, Xb, Xc, ↓reduceIte, Nat.reduceLT, Nat.reduceEqDiff, Nat.reduceBEq, Nat.reduceLeDiff, Nat.reduceAdd, Nat.reduceMul]
    exact err (by omega) (.inr (.inl ⟨h2, rfl⟩))
  have hpos : 0 < l.length := List.length_pos_iff.2 h2
  have hne : ¬ l.length = 0 := by omega
  simp (disch := first | assumption | (apply Ap.symm; assumption) | omega | decide | (simp only [U_len, List.length_append, List.length_replicate, List.length_cons, List.length_nil, List.length_set] <;> omega) | fail) only [len_Sx, h1, hne, ↓Xa, Xb, Xc, ↓reduceIte, Nat.reduceLT, Nat.reduceEqDiff, Nat.reduceBEq, Nat.reduceLeDiff, Nat.reduceAdd, Nat.reduceMul]
  refine W_loop (fun s : Nat × Bool => ⟨[], [(0, Sx l), (3, .ptr p1 2 0), (4, LS (Ma.digs 4294967296 (decV (l.take s.1))) s.2), (5, .int .i64 (s.1 : Nat))], H.upd p1 (some (.row 58 0 [.int .i64 ((0 : Nat) : Int), .int .i64 ((0 : Nat) : Int)]))⟩) (fun s => s.1 ≤ l.length ∧ (∀ j, j < s.1 → ¬ badAt l j) ∧ (0 < s.1 → s.2 = false)) (fun s => l.length - s.1) (0, true) (Settle.now ?_) ⟨by simp, fun j h => by dsimp only at h; omega, fun h => by dsimp only at h; omega⟩ ?_
  · simp [decV, decF, digs_zero, LS, U]
  rintro ⟨q, t⟩ ⟨hi1, hi2, hi3⟩
  dsimp only at hi1 hi2 hi3 ⊢
  have hvb := decV_bd hi2 hi1 (by omega)
  by_cases hi : q < l.length
  · have bad : badAt l q → SetR Q (.tup [LS [] true, spot 6 q]) (H.upd p1 (some (.row 58 0 [.int .i64 ((6 : Nat) : Int), .int .i64 (q : Int)]))) := fun hb => err (by omega) (.inr (.inr (.inl ⟨by omega, q, hi, hb, hi2, rfl⟩)))
    have step : ¬ badAt l q → ∀ j, j < q + 1 → ¬ badAt l j := fun hb j hj => by
      by_cases e : j = q
      · rw [e]; exact hb
      · exact hi2 j (by omega)
    have hsucc := decV_take hi
    have hx2 : (l.getD q 0).toNat < 256 := UInt8.toNat_lt _
    have nv := Nm.digs hvb
    generalize decV (l.take q) = v at *
    by_cases c1 : (l.getD q 0).toNat < 48
    · simp (disch := first | assumption | (apply Ap.symm; assumption) | omega | decide | (simp only [U_len, List.length_append, List.length_replicate, List.length_cons, List.length_nil, List.length_set] <;> omega) | fail) only [hi, len_Sx, idx_Sx, c1, cells_i2, rs71, ↓Xa, Xb, Xc, ↓reduceIte, Nat.reduceLT, Nat.reduceEqDiff, Nat.reduceBEq, Nat.reduceLeDiff, Nat.reduceAdd, Nat.reduceMul]
      exact bad (.inl c1)
    by_cases c2 : 57 < (l.getD q 0).toNat
    · simp (disch := first | assumption | (apply Ap.symm; assumption) | omega | decide | (simp only [U_len, List.length_append, List.length_replicate, List.length_cons, List.length_nil, List.length_set] <;> omega) | fail) only [hi, len_Sx, idx_Sx, c1, c2, cells_i2, rs71, ↓Xa, Xb, Xc, ↓reduceIte, Nat.reduceLT, Nat.reduceEqDiff, Nat.reduceBEq, Nat.reduceLeDiff, Nat.reduceAdd, Nat.reduceMul]
      exact bad (.inr (.inl c2))
    have n10 := Nm.one (show (l.getD q 0).toNat - 48 < 4294967296 by omega)
    by_cases c3 : 0 < q
    · by_cases c4 : (l.getD 0 0).toNat = 48
      · simp (disch := first | assumption | (apply Ap.symm; assumption) | omega | decide | (simp only [U_len, List.length_append, List.length_replicate, List.length_cons, List.length_nil, List.length_set] <;> omega) | fail) only [hi, len_Sx, idx_Sx, c1, c2, c3, c4, cells_i2, rs71, ↓Xa, Xb, Xc, ↓reduceIte, Nat.reduceLT, Nat.reduceEqDiff, Nat.reduceBEq, Nat.reduceLeDiff, Nat.reduceAdd, Nat.reduceMul]
        exact bad (.inr (.inr ⟨c3, c4⟩))
      · simp (disch := first | assumption | (apply Ap.symm; assumption) | omega | decide | (simp only [U_len, List.length_append, List.length_replicate, List.length_cons, List.length_nil, List.length_set] <;> omega) | fail) only [hi, len_Sx, idx_Sx, c1, c2, c3, c4, ↓Xa, Xb, Xc, ↓reduceIte, Nat.reduceLT, Nat.reduceEqDiff, Nat.reduceBEq, Nat.reduceLeDiff, Nat.reduceAdd, Nat.reduceMul]
        refine PFn.dcall (lmuls_n t nv (by omega) (c := 10) (by omega)) ?_
        simp (disch := first | assumption | (apply Ap.symm; assumption) | omega | decide | (simp only [U_len, List.length_append, List.length_replicate, List.length_cons, List.length_nil, List.length_set] <;> omega) | fail) only [idx_Sx, ↓Xa, Xb, Xc, ↓reduceIte, Nat.reduceLT, Nat.reduceEqDiff, Nat.reduceBEq, Nat.reduceLeDiff, Nat.reduceAdd, Nat.reduceMul]
        refine (ladd_n (b := [(l.getD q 0).toNat - 48]) false true (Nm.digs (lt_mul nv.lt (show 10 < 4294967296 ^ 1 by omega))) n10 (by omega) (by omega)).call ?_
        rw [← hsucc]
        simp (disch := first | assumption | (apply Ap.symm; assumption) | omega | decide | (simp only [U_len, List.length_append, List.length_replicate, List.length_cons, List.length_nil, List.length_set] <;> omega) | fail) only [↓Xa, Xb, Xc, ↓reduceIte, Nat.reduceLT, Nat.reduceEqDiff, Nat.reduceBEq, Nat.reduceLeDiff, Nat.reduceAdd, Nat.reduceMul]
        exact Settle.now ⟨(q + 1, false), by dsimp only; omega, ⟨by dsimp only; omega, step (by unfold badAt; omega), fun _ => rfl⟩, rfl⟩
    · simp (disch := first | assumption | (apply Ap.symm; assumption) | omega | decide | (simp only [U_len, List.length_append, List.length_replicate, List.length_cons, List.length_nil, List.length_set] <;> omega) | fail) only [hi, len_Sx, idx_Sx, c1, c2, c3, ↓Xa, Xb, Xc, ↓reduceIte, Nat.reduceLT, Nat.reduceEqDiff, Nat.reduceBEq, Nat.reduceLeDiff, Nat.reduceAdd, Nat.reduceMul]
      refine PFn.dcall (lmuls_n t nv (by omega) (c := 10) (by omega)) ?_
      simp (disch := first | assumption | (apply Ap.symm; assumption) | omega | decide | (simp only [U_len, List.length_append, List.length_replicate, List.length_cons, List.length_nil, List.length_set] <;> omega) | fail) only [idx_Sx, ↓Xa, Xb, Xc, ↓reduceIte, Nat.reduceLT, Nat.reduceEqDiff, Nat.reduceBEq, Nat.reduceLeDiff, Nat.reduceAdd, Nat.reduceMul]
      refine (ladd_n (b := [(l.getD q 0).toNat - 48]) false true (Nm.digs (lt_mul nv.lt (show 10 < 4294967296 ^ 1 by omega))) n10 (by omega) (by omega)).call ?_
      rw [← hsucc]
      simp (disch := first | assumption | (apply Ap.symm; assumption) | omega | decide | (simp only [U_len, List.length_append, List.length_replicate, List.length_cons, List.length_nil, List.length_set] <;> omega) | fail) only [↓Xa, Xb, Xc, ↓reduceIte, Nat.reduceLT, Nat.reduceEqDiff, Nat.reduceBEq, Nat.reduceLeDiff, Nat.reduceAdd, Nat.reduceMul]
      exact Settle.now ⟨(q + 1, false), by dsimp only; omega, ⟨by dsimp only; omega, step (by unfold badAt; omega), fun _ => rfl⟩, rfl⟩
  · have hg : Good l := good_of h2 fun j hj => hi2 j (by omega)
    have hql : q = l.length := by omega
    have ht := hi3 (by omega)
    subst ht
    simp (disch := first | assumption | (apply Ap.symm; assumption) | omega | decide | (simp only [U_len, List.length_append, List.length_replicate, List.length_cons, List.length_nil, List.length_set] <;> omega) | fail) only [hi, len_Sx, ↓Xa, Xb, Xc, ↓reduceIte, Nat.reduceLT, Nat.reduceEqDiff, Nat.reduceBEq, Nat.reduceLeDiff, Nat.reduceAdd, Nat.reduceMul]
    refine Settle.now ?_
    simp (disch := first | assumption | (apply Ap.symm; assumption) | omega | decide | (simp only [U_len, List.length_append, List.length_replicate, List.length_cons, List.length_nil, List.length_set] <;> omega) | fail) only [cells_i2, rs71, ↓Xa, Xb, Xc, ↓reduceIte, Nat.reduceLT, Nat.reduceEqDiff, Nat.reduceBEq, Nat.reduceLeDiff, Nat.reduceAdd, Nat.reduceMul]
    refine out ?_
    have := readR_fn hr (.inr (.inr (.inr ⟨by omega, hg, rfl⟩)))
    injection this with this; injection this with q1 q2; injection q2 with q2
    unfold spot at q2; injection q2 with q2; injection q2 with q3 q4; injection q4 with q4
    have e3 : e = 0 := by injection q3 with _ q3; omega
    have e4 : i = 0 := by injection q4 with _ q4; omega
    have q5 : LS a false = LS (Ma.digs 4294967296 (decV l)) false := by
      unfold LS at q1 ⊢
      injection q1 with z1 z2 z3
      rw [z1, z2]
    rw [if_pos e3, q5, e3, e4, hql, List.take_of_length_le (Nat.le_refl _)]
    rfl
theorem limbTexts_law0 (a : List Nat) (l : List UInt8) (n : Int) (ha : Lim 4294967296 a) (la : a.length < 9223372036854775808) (lb : l.length < 9223372036854775807) (hn : -9223372036854775808 ≤ n ∧ n < 9223372036854775808) :
    PFn Tryd.prog 15 [LS a false, Sx l, .int .i64 n] (.bool true) := by
  intro H Q hq
  refine enter15 (by simp) ?_
  simp (disch := first | assumption | (apply Ap.symm; assumption) | omega | decide | (simp only [U_len, List.length_append, List.length_replicate, List.length_cons, List.length_nil, List.length_set] <;> omega) | fail) only [ac15, ↓Xa, Xb, Xc, ↓reduceIte, Nat.reduceLT, Nat.reduceEqDiff, Nat.reduceBEq, Nat.reduceLeDiff, Nat.reduceAdd, Nat.reduceMul]
  refine alloc_i fun p1 hp1 => ?_
  have n1 := hp1
  simp (disch := first | assumption | (apply Ap.symm; assumption) | omega | decide | (simp only [U_len, List.length_append, List.length_replicate, List.length_cons, List.length_nil, List.length_set] <;> omega) | fail) only [↓Xa, Xb, Xc, ↓reduceIte, Nat.reduceLT, Nat.reduceEqDiff, Nat.reduceBEq, Nat.reduceLeDiff, Nat.reduceAdd, Nat.reduceMul]
  refine alloc_i fun p2 hp2 => ?_
  have n2 := hp2
  simp only [upd_none] at n2
  obtain ⟨_, n2⟩ := n2
  have out : ∀ {H' : AHeap}, Le H H' → SetR Q (.bool true) H' := fun h => SetR.dropTo h (SetR.now hq)
  have out2 : ∀ {x y : ABlk}, SetR Q (.bool true) ((H.upd p1 (some x)).upd p2 (some y)) := out (((Le.refl H).updB n1).updB n2)
  simp (disch := first | assumption | (apply Ap.symm; assumption) | omega | decide | (simp only [U_len, List.length_append, List.length_replicate, List.length_cons, List.length_nil, List.length_set] <;> omega) | fail) only [↓Xa, Xb, Xc, ↓reduceIte, Nat.reduceLT, Nat.reduceEqDiff, Nat.reduceBEq, Nat.reduceLeDiff, Nat.reduceAdd, Nat.reduceMul]
  refine works_fn.call ?_
  simp (disch := first | assumption | (apply Ap.symm; assumption) | omega | decide | (simp only [U_len, List.length_append, List.length_replicate, List.length_cons, List.length_nil, List.length_set] <;> omega) | fail) only [rep1, ↓Xa, Xb, Xc, ↓reduceIte, Nat.reduceLT, Nat.reduceEqDiff, Nat.reduceBEq, Nat.reduceLeDiff, Nat.reduceAdd, Nat.reduceMul]
  refine (llong_fn [(a, false)] true (by simp) (by simp [la])).call ?_
  have el : lngA [(a, false)] = decide (160 < a.length) := by simp [lngA]
  by_cases hl : 160 < a.length
  · rw [el, decide_eq_true hl]
    simp (disch := first | assumption | (apply Ap.symm; assumption) | omega | decide | (simp only [U_len, List.length_append, List.length_replicate, List.length_cons, List.length_nil, List.length_set] <;> omega) | fail) only [rs15, ↓Xa, Xb, Xc, ↓reduceIte, Nat.reduceLT, Nat.reduceEqDiff, Nat.reduceBEq, Nat.reduceLeDiff, Nat.reduceAdd, Nat.reduceMul]
    exact out2
  rw [el, decide_eq_false hl]
  have na := Nm.raw (k := 160) ha (by omega)
  have nl := na.len
  generalize Ma.val 4294967296 a = A at na
  obtain ⟨r, hr⟩ := readR_ex l
  obtain ⟨w, e, sp, rfl, hwl⟩ : ∃ w e sp, r = .tup [LS w true, spot e sp] ∧ w.length ≤ 8192 := by
    rcases hr with ⟨_, rfl⟩ | ⟨_, rfl⟩ | ⟨_, i, _, _, _, rfl⟩ | ⟨h1, h2, rfl⟩
    · exact ⟨_, _, _, rfl, by simp⟩
    · exact ⟨_, _, _, rfl, by simp⟩
    · exact ⟨_, _, _, rfl, by simp⟩
    · exact ⟨_, _, _, rfl, (Nm.digs (lim_decV h2 h1)).len⟩
  by_cases g1 : 1500 < l.length ∧ l.length ≤ 65536
  · simp (disch := first | assumption | (apply Ap.symm; assumption) | omega | decide | (simp only [U_len, List.length_append, List.length_replicate, List.length_cons, List.length_nil, List.length_set] <;> omega) | fail) only [len_Sx, g1.1, g1.2, rs15, ↓Xa, Xb, Xc, ↓reduceIte, Nat.reduceLT, Nat.reduceEqDiff, Nat.reduceBEq, Nat.reduceLeDiff, Nat.reduceAdd, Nat.reduceMul]
    exact out2
  obtain ⟨wt, hw⟩ := lread_fn hr (by omega)
  have tail : W Tryd.prog (sndC (sndC (sndC ac15))) (retN rs15 Q) ⟨[], [(0, LS a false), (1, Sx l), (5, .ptr p1 1 0), (6, .ptr p2 1 0), (29, .bool false)], (H.upd p1 (some (.row 3 0 [.int .i64 n]))).upd p2 (some (.row 4 0 [.bool false]))⟩ := by
    simp (disch := first | assumption | (apply Ap.symm; assumption) | omega | decide | (simp only [U_len, List.length_append, List.length_replicate, List.length_cons, List.length_nil, List.length_set] <;> omega) | fail) only [sndC, ac15, ↓Xa, Xb, Xc, ↓reduceIte, Nat.reduceLT, Nat.reduceEqDiff, Nat.reduceBEq, Nat.reduceLeDiff, Nat.reduceAdd, Nat.reduceMul]
    refine (room_fn false (by omega)).call ?_
    simp (disch := first | assumption | (apply Ap.symm; assumption) | omega | decide | (simp only [U_len, List.length_append, List.length_replicate, List.length_cons, List.length_nil, List.length_set] <;> omega) | fail) only [↓Xa, Xb, Xc, ↓reduceIte, Nat.reduceLT, Nat.reduceEqDiff, Nat.reduceBEq, Nat.reduceLeDiff, Nat.reduceAdd, Nat.reduceMul]
    have htx := text_fn false ha (by omega)
    rw [na.val] at htx
    refine (PFn.x htx).call ?_
    simp (disch := first | assumption | (apply Ap.symm; assumption) | omega | decide | (simp only [U_len, List.length_append, List.length_replicate, List.length_cons, List.length_nil, List.length_set] <;> omega) | fail) only [↓Xa, Xb, Xc, ↓reduceIte, Nat.reduceLT, Nat.reduceEqDiff, Nat.reduceBEq, Nat.reduceLeDiff, Nat.reduceAdd, Nat.reduceMul]
    refine alloc_i fun p3 hp3 => ?_
    have n3 := hp3
    simp only [upd_none] at n3
    obtain ⟨_, _, n3⟩ := n3
    simp (disch := first | assumption | (apply Ap.symm; assumption) | omega | decide | (simp only [U_len, List.length_append, List.length_replicate, List.length_cons, List.length_nil, List.length_set] <;> omega) | fail) only [cells_Sx, ↓Xa, Xb, Xc, ↓reduceIte, Nat.reduceLT, Nat.reduceEqDiff, Nat.reduceBEq, Nat.reduceLeDiff, Nat.reduceAdd, Nat.reduceMul]
    refine (read_fn hr (by omega)).call ?_
    simp (disch := first | assumption | (apply Ap.symm; assumption) | omega | decide | (simp only [U_len, List.length_append, List.length_replicate, List.length_cons, List.length_nil, List.length_set] <;> omega) | fail) only [spot, ↓Xa, Xb, Xc, ↓reduceIte, Nat.reduceLT, Nat.reduceEqDiff, Nat.reduceBEq, Nat.reduceLeDiff, Nat.reduceAdd, Nat.reduceMul]
    refine alloc_i fun p4 hp4 => ?_
    have n4 := hp4
    simp only [upd_none] at n4
    obtain ⟨_, _, _, n4⟩ := n4
    simp (disch := first | assumption | (apply Ap.symm; assumption) | omega | decide | (simp only [U_len, List.length_append, List.length_replicate, List.length_cons, List.length_nil, List.length_set] <;> omega) | fail) only [cells_i2, ↓Xa, Xb, Xc, ↓reduceIte, Nat.reduceLT, Nat.reduceEqDiff, Nat.reduceBEq, Nat.reduceLeDiff, Nat.reduceAdd, Nat.reduceMul]
    refine hw.call ?_
    simp (disch := first | assumption | (apply Ap.symm; assumption) | omega | decide | (simp only [U_len, List.length_append, List.length_replicate, List.length_cons, List.length_nil, List.length_set] <;> omega) | fail) only [spot, ↓Xa, Xb, Xc, ↓reduceIte, Nat.reduceLT, Nat.reduceEqDiff, Nat.reduceBEq, Nat.reduceLeDiff, Nat.reduceAdd, Nat.reduceMul]
    refine alloc_i fun p5 hp5 => ?_
    have n5 := hp5
    simp only [upd_none] at n5
    obtain ⟨_, _, _, _, n5⟩ := n5
    simp (disch := first | assumption | (apply Ap.symm; assumption) | omega | decide | (simp only [U_len, List.length_append, List.length_replicate, List.length_cons, List.length_nil, List.length_set] <;> omega) | fail) only [cells_i2, ↓Xa, Xb, Xc, ↓reduceIte, Nat.reduceLT, Nat.reduceEqDiff, Nat.reduceBEq, Nat.reduceLeDiff, Nat.reduceAdd, Nat.reduceMul]
    refine PFn.dcall (ltext_n (k := 160) false na (by omega)) ?_
    simp (disch := first | assumption | (apply Ap.symm; assumption) | omega | decide | (simp only [U_len, List.length_append, List.length_replicate, List.length_cons, List.length_nil, List.length_set] <;> omega) | fail) only [neq_Sx, decide_true, ↓Xa, Xb, Xc, ↓reduceIte, Nat.reduceLT, Nat.reduceEqDiff, Nat.reduceBEq, Nat.reduceLeDiff, Nat.reduceAdd, Nat.reduceMul]
    refine PFn.dcall (equal_fn true wt (by omega) (by omega)) ?_
    simp (disch := first | assumption | (apply Ap.symm; assumption) | omega | decide | (simp only [U_len, List.length_append, List.length_replicate, List.length_cons, List.length_nil, List.length_set] <;> omega) | fail) only [decide_true, bne_self_eq_false, ↓Xa, Xb, Xc, ↓reduceIte, Nat.reduceLT, Nat.reduceEqDiff, Nat.reduceBEq, Nat.reduceLeDiff, Nat.reduceAdd, Nat.reduceMul]
    refine (room_fn false (by omega)).call ?_
    simp (disch := first | assumption | (apply Ap.symm; assumption) | omega | decide | (simp only [U_len, List.length_append, List.length_replicate, List.length_cons, List.length_nil, List.length_set] <;> omega) | fail) only [↓Xa, Xb, Xc, ↓reduceIte, Nat.reduceLT, Nat.reduceEqDiff, Nat.reduceBEq, Nat.reduceLeDiff, Nat.reduceAdd, Nat.reduceMul]
    have hdg := digits_fn false ha (by omega)
    rw [na.val] at hdg
    refine (PFn.x hdg).call ?_
    simp (disch := first | assumption | (apply Ap.symm; assumption) | omega | decide | (simp only [U_len, List.length_append, List.length_replicate, List.length_cons, List.length_nil, List.length_set] <;> omega) | fail) only [↓Xa, Xb, Xc, ↓reduceIte, Nat.reduceLT, Nat.reduceEqDiff, Nat.reduceBEq, Nat.reduceLeDiff, Nat.reduceAdd, Nat.reduceMul]
    refine alloc_i fun p6 hp6 => ?_
    have n6 := hp6
    simp only [upd_none] at n6
    obtain ⟨_, _, _, _, _, n6⟩ := n6
    have hg := good_decT A
    have hDl : (decT A).length ≤ 1601 := by
      have h := nm_dec na
      unfold decT; split
      · simp
      · omega
    obtain ⟨r1, hr1⟩ : ∃ r1, r1 = ABlk.row 3 0 [.int .i64 n] := ⟨_, rfl⟩
    obtain ⟨r3, hr3⟩ : ∃ r3, r3 = ABlk.row 9 0 [Sx (decT A)] := ⟨_, rfl⟩
    have cont : ∀ (m : Nat) (d : Nat) (G : AHeap), G p6 = some (.row 3 0 [.int .i64 (m : Int)]) → G p3 = some r3 → G p2 = some (.row 4 0 [.bool false]) → G d = some (.raw (.deferred (some []))) → Le H G → (H d = none ∧ Ap d p6 ∧ Ap d p3 ∧ Ap d p2) →
        W Tryd.prog (sndC (sndC (sndC (sndC (sndC (sndC (sndC (sndC (sndC (sndC ac15)))))))))) (retN rs15 Q) ⟨[d], [(5, .ptr p1 1 0), (6, .ptr p2 1 0), (7, .ptr p3 1 0), (12, .fn (.func 106) [] [.cptr [Sx (decT A)]]), (13, .ptr p6 1 0), (61, .fn (.func 106) [] [.cptr [Sx (decT A)]])], G⟩ := by
      rintro m d G h6 h3 h2 hd hle ⟨k1, k2, k3, k4⟩
      simp (disch := first | assumption | (apply Ap.symm; assumption) | omega | decide | (simp only [U_len, List.length_append, List.length_replicate, List.length_cons, List.length_nil, List.length_set] <;> omega) | fail) only [sndC, ac15, h6, ↓Xa, Xb, Xc, ↓reduceIte, Nat.reduceLT, Nat.reduceEqDiff, Nat.reduceBEq, Nat.reduceLeDiff, Nat.reduceAdd, Nat.reduceMul]
      have g3 : (G.upd p6 (some (.row 3 0 [.int .i64 ((0 : Nat) : Int)]))) p3 = some r3 := by rw [upd_otherA ‹Ap p6 p3›.symm]; exact h3
      refine rfn_iter (digits1_iter (fun b hb => hg.2.1 b hb) (by omega)) (fun _ => rfl) (fun ds A' => A' = (nilH.upd p3 (some r3)).upd p6 (some (.row 3 0 [.int .i64 ((ds.length : Nat) : Int)]))) (fun _ _ => False)
        ((nilH.upd p3 (some r3)).upd p6 (some (.row 3 0 [.int .i64 ((0 : Nat) : Int)]))) (((G.upd p6 (some (.row 3 0 [.int .i64 ((0 : Nat) : Int)]))).upd p3 none).upd p6 none) (dj_take (dj_take dj_nil)) ?_ rfl ?_ ?_ (fun _ _ _ _ _ _ h => h.elim)
      · rw [un_take, un_take g3 rfl, un_nil]
        · rw [upd_otherA ‹Ap p6 p3›, upd_same]
        · rw [upd_otherA ‹Ap p6 p3›]; rfl
      · rintro ds dg rest A' B hds hdj rfl R1 k1
        have hlen := congrArg List.length hds
        simp only [List.length_map, List.length_append, List.length_cons] at hlen
        have hx : ((decT A).getD ds.length 0).toNat - 48 = dg := by
          have e1 : ((decT A).map fun b => b.toNat - 48)[ds.length]? = some dg := by rw [hds]; simp
          rw [List.getElem?_map] at e1
          rw [List.getD_eq_getElem?_getD]
          cases hh : (decT A)[ds.length]? with
          | none => rw [hh] at e1; simp at e1
          | some b => rw [hh] at e1; simpa using e1
        have hb := hg.2.1 _ (List.getElem_mem (show ds.length < (decT A).length by omega))
        have hb2 : 48 ≤ ((decT A).getD ds.length 0).toNat := by
          rw [List.getD_eq_getElem?_getD, List.getElem?_eq_getElem (by omega), Option.getD_some]; exact hb.1
        have hb3 : ((decT A).getD ds.length 0).toNat < 256 := UInt8.toNat_lt _
        have hge : ¬ (decT A).length ≤ ds.length := by omega
        simp (disch := first | assumption | (apply Ap.symm; assumption) | omega | decide | (simp only [U_len, List.length_append, List.length_replicate, List.length_cons, List.length_nil, List.length_set] <;> omega) | fail) only [setps, ↓Xa, Xb, Xc, ↓reduceIte, Nat.reduceLT, Nat.reduceEqDiff, Nat.reduceBEq, Nat.reduceLeDiff, Nat.reduceAdd, Nat.reduceMul]
        refine k1 _ _ hdj fun R2 B1 k2 hd1 => ?_
        rw [un_upd, un_upd, un_nil, hr3]
        simp (disch := first | assumption | (apply Ap.symm; assumption) | omega | decide | (simp only [U_len, List.length_append, List.length_replicate, List.length_cons, List.length_nil, List.length_set] <;> omega) | fail) only [hge, len_Sx, idx_Sx, hx, decide_true, Bool.not_true, ↓Xa, Xb, Xc, ↓reduceIte, Nat.reduceLT, Nat.reduceEqDiff, Nat.reduceBEq, Nat.reduceLeDiff, Nat.reduceAdd, Nat.reduceMul]
        refine k2 .normal _ (Settle.now ⟨_, dj_upd (dj_upd dj_nil (dj_at hd1 (by rw [upd_otherA ‹Ap p6 p3›.symm, upd_same]))) (dj_at hd1 (upd_same _ _ _)), ?_, rfl⟩)
        rw [un_upd, un_upd, un_nil, hr3]; simp
      · rintro d2 A' hdj hA hB rfl
        have q6 := (upd_none.1 hA).1
        have q3 := (upd_none.1 (upd_none.1 hA).2).1
        have hdl : ((decT A).map fun b => b.toNat - 48).length = (decT A).length := by simp
        rw [hdl] at hdj hA ⊢
        have q2 : Ap p2 p3 ∧ Ap p2 p6 := ⟨‹Ap p3 p2›.symm, ‹Ap p6 p2›.symm⟩
        have hBo : ∀ q x, Ap q p3 → Ap q p6 → G q = some x → (((G.upd p6 (some (.row 3 0 [.int .i64 ((0 : Nat) : Int)]))).upd p3 none).upd p6 none) q = some x := fun q x a b c => by
          rw [upd_otherA b, upd_otherA a, upd_otherA b]; exact c
        have hAo : ∀ q, Ap q p3 → Ap q p6 → ((nilH.upd p3 (some r3)).upd p6 (some (.row 3 0 [.int .i64 (((decT A).length : Nat) : Int)]))) q = none := fun q a b => by
          rw [upd_otherA b, upd_otherA a]; rfl
        have qd : Ap d2 d := by
          rintro rfl
          rw [hBo d2 _ k3 k2 hd] at hB; cases hB
        have qp2 : Ap d2 p2 := by
          rintro rfl
          rw [hBo d2 _ q2.1 q2.2 h2] at hB; cases hB
        have f6 : ((Un ((nilH.upd p3 (some r3)).upd p6 (some (.row 3 0 [.int .i64 (((decT A).length : Nat) : Int)]))) (((G.upd p6 (some (.row 3 0 [.int .i64 ((0 : Nat) : Int)]))).upd p3 none).upd p6 none)).upd d2 (some (.raw (.deferred (some []))))) p6 = some (.row 3 0 [.int .i64 (((decT A).length : Nat) : Int)]) := by
          rw [upd_otherA q6.symm]; exact un_at (upd_same _ _ _)
        have f3 : ((Un ((nilH.upd p3 (some r3)).upd p6 (some (.row 3 0 [.int .i64 (((decT A).length : Nat) : Int)]))) (((G.upd p6 (some (.row 3 0 [.int .i64 ((0 : Nat) : Int)]))).upd p3 none).upd p6 none)).upd d2 (some (.raw (.deferred (some []))))) p3 = some (.row 9 0 [Sx (decT A)]) := by
          rw [upd_otherA q3.symm, ← hr3]; exact un_at (by rw [upd_otherA ‹Ap p6 p3›.symm, upd_same])
        have fo : ∀ q x, Ap q p3 → Ap q p6 → Ap q d2 → G q = some x → ((Un ((nilH.upd p3 (some r3)).upd p6 (some (.row 3 0 [.int .i64 (((decT A).length : Nat) : Int)]))) (((G.upd p6 (some (.row 3 0 [.int .i64 ((0 : Nat) : Int)]))).upd p3 none).upd p6 none)).upd d2 (some (.raw (.deferred (some []))))) q = some x := fun q x a b c e => by
          rw [upd_otherA c]; unfold Un; rw [hAo q a b]; exact hBo q x a b e
        have f2 := fo p2 _ q2.1 q2.2 qp2.symm h2
        have fd := fo d _ k3 k2 qd.symm hd
        have fH : ∀ q x, H q = some x → Ap q d2 → G q = some x ∧ Ap q p3 ∧ Ap q p6 := fun q x hx hqd => ⟨hle q x hx, (by rintro rfl; rw [n3] at hx; cases hx), (by rintro rfl; rw [n6] at hx; cases hx)⟩
        have hHd2 : H d2 = none := by
          cases hh : H d2 with
          | none => rfl
          | some x =>
            have := hBo d2 x q3 q6 (hle _ _ hh)
            rw [this] at hB; cases hB
        have fle : Le H ((Un ((nilH.upd p3 (some r3)).upd p6 (some (.row 3 0 [.int .i64 (((decT A).length : Nat) : Int)]))) (((G.upd p6 (some (.row 3 0 [.int .i64 ((0 : Nat) : Int)]))).upd p3 none).upd p6 none)).upd d2 (some (.raw (.deferred (some []))))) := fun q x hx => by
          have hqd : Ap q d2 := by rintro rfl; rw [hHd2] at hx; cases hx
          obtain ⟨a, b, c⟩ := fH q x hx hqd
          exact fo q x b c hqd a
        have fd2 : ((Un ((nilH.upd p3 (some r3)).upd p6 (some (.row 3 0 [.int .i64 (((decT A).length : Nat) : Int)]))) (((G.upd p6 (some (.row 3 0 [.int .i64 ((0 : Nat) : Int)]))).upd p3 none).upd p6 none)).upd d2 (some (.raw (.deferred (some []))))) d2 = some (.raw (.deferred (some []))) := upd_same _ _ _
        generalize (Un ((nilH.upd p3 (some r3)).upd p6 (some (.row 3 0 [.int .i64 (((decT A).length : Nat) : Int)]))) (((G.upd p6 (some (.row 3 0 [.int .i64 ((0 : Nat) : Int)]))).upd p3 none).upd p6 none)).upd d2 (some (.raw (.deferred (some [])))) = G2 at *
        simp (disch := first | assumption | (apply Ap.symm; assumption) | omega | decide | (simp only [U_len, List.length_append, List.length_replicate, List.length_cons, List.length_nil, List.length_set] <;> omega) | fail) only [f6, f3, f2, len_Sx, rs15, ↓Xa, Xb, Xc, ↓reduceIte, Nat.reduceLT, Nat.reduceEqDiff, Nat.reduceBEq, Nat.reduceLeDiff, Nat.reduceAdd, Nat.reduceMul]
        exact ⟨fd2, fd, out (((fle.updB n2).updB hHd2).updB k1)⟩
    simp (disch := first | assumption | (apply Ap.symm; assumption) | omega | decide | (simp only [U_len, List.length_append, List.length_replicate, List.length_cons, List.length_nil, List.length_set] <;> omega) | fail) only [↓Xa, Xb, Xc, ↓reduceIte, Nat.reduceLT, Nat.reduceEqDiff, Nat.reduceBEq, Nat.reduceLeDiff, Nat.reduceAdd, Nat.reduceMul]
    obtain ⟨G, hG⟩ : ∃ G, G = (((((H.upd p1 (some (.row 3 0 [.int .i64 n]))).upd p2 (some (.row 4 0 [.bool false]))).upd p3 (some (.row 9 0 [Sx (decT A)]))).upd p4 (some (.row 58 0 [.int .i64 (e : Int), .int .i64 (sp : Int)]))).upd p5 (some (.row 58 0 [.int .i64 (e : Int), .int .i64 (sp : Int)]))).upd p6 (some (.row 3 0 [.int .i64 ((0 : Nat) : Int)])) := ⟨_, rfl⟩
    have G1 : G p1 = some r1 := by rw [hG, hr1]; simp only [upd_other, upd_same, ne_eq, Ne.symm ‹Ap p2 p1›, Ne.symm ‹Ap p3 p1›, Ne.symm ‹Ap p4 p1›, Ne.symm ‹Ap p5 p1›, Ne.symm ‹Ap p6 p1›, not_false_eq_true]
    have G6 : G p6 = some (.row 3 0 [.int .i64 ((0 : Nat) : Int)]) := by rw [hG]; exact upd_same _ _ _
    have G3 : G p3 = some r3 := by rw [hG, hr3]; simp only [upd_other, upd_same, ne_eq, Ne.symm ‹Ap p4 p3›, Ne.symm ‹Ap p5 p3›, Ne.symm ‹Ap p6 p3›, not_false_eq_true]
    have G2 : G p2 = some (.row 4 0 [.bool false]) := by rw [hG]; simp only [upd_other, upd_same, ne_eq, Ne.symm ‹Ap p3 p2›, Ne.symm ‹Ap p4 p2›, Ne.symm ‹Ap p5 p2›, Ne.symm ‹Ap p6 p2›, not_false_eq_true]
    have Gle : Le H G := by rw [hG]; exact ((((((Le.refl H).updB n1).updB n2).updB n3).updB n4).updB n5).updB n6
    rw [← hG]
    clear hG
    have p16 : p1 ≠ p6 := Ne.symm ‹Ap p6 p1›
    have after : ∀ (m d : Nat) (A' : AHeap), A' = ((nilH.upd p1 (some r1)).upd p6 (some (.row 3 0 [.int .i64 (m : Int)]))) → A' d = none → ((G.upd p1 none).upd p6 none) d = none →
        W Tryd.prog (sndC (sndC (sndC (sndC (sndC (sndC (sndC (sndC (sndC (sndC ac15)))))))))) (retN rs15 Q) ⟨[d], [(5, .ptr p1 1 0), (6, .ptr p2 1 0), (7, .ptr p3 1 0), (12, .fn (.func 106) [] [.cptr [Sx (decT A)]]), (13, .ptr p6 1 0), (61, .fn (.func 106) [] [.cptr [Sx (decT A)]])],
          (Un A' ((G.upd p1 none).upd p6 none)).upd d (some (.raw (.deferred (some []))))⟩ := by
      rintro m d A' rfl hA hB
      obtain ⟨G', e1, e2, e3, e4, e5, e6, e7, e8⟩ := un_two (x := some (.raw (.deferred (some [])))) p16 hA hB
      obtain ⟨e9, e10⟩ := e8 H Gle n1 n6
      rw [e1]
      exact cont m d G' e3 (e7 p3 _ (Ne.symm ‹Ap p3 p1›.symm) (Ne.symm ‹Ap p6 p3›) G3).2 (e7 p2 _ ‹Ap p2 p1› (Ne.symm ‹Ap p6 p2›) G2).2 e4 e10 ⟨e9, e6, Ne.symm (e7 p3 _ ‹Ap p3 p1› (Ne.symm ‹Ap p6 p3›) G3).1, Ne.symm (e7 p2 _ ‹Ap p2 p1› (Ne.symm ‹Ap p6 p2›) G2).1⟩
    refine rfn_iter (digits1_iter (fun b hb => hg.2.1 b hb) (by omega)) (fun _ => rfl) (fun ds A' => A' = (nilH.upd p1 (some r1)).upd p6 (some (.row 3 0 [.int .i64 ((ds.length : Nat) : Int)]))) (fun c A' => c = .exit 0 ∧ ∃ m : Nat, A' = (nilH.upd p1 (some r1)).upd p6 (some (.row 3 0 [.int .i64 (m : Int)])))
      ((nilH.upd p1 (some r1)).upd p6 (some (.row 3 0 [.int .i64 ((0 : Nat) : Int)]))) ((G.upd p1 none).upd p6 none) un_two_dj (un_two_eq p16 G1 G6) rfl ?_ ?_ ?_
    · rintro ds dg rest A' B hds hdj rfl R1 k1
      have hlen := congrArg List.length hds
      simp only [List.length_map, List.length_append, List.length_cons] at hlen
      have eqn : ∀ {K : AV → Prop}, binW .eql (.int .i64 ((ds.length : Nat) : Int)) (.int .i64 n) K ↔ K (.bool (decide (((ds.length : Nat) : Int) = n))) := by
        intro K; simp only [binW, binInt, true_and]
      simp (disch := first | assumption | (apply Ap.symm; assumption) | omega | decide | (simp only [U_len, List.length_append, List.length_replicate, List.length_cons, List.length_nil, List.length_set] <;> omega) | fail) only [setps, ↓Xa, Xb, Xc, ↓reduceIte, Nat.reduceLT, Nat.reduceEqDiff, Nat.reduceBEq, Nat.reduceLeDiff, Nat.reduceAdd, Nat.reduceMul]
      refine k1 _ _ hdj fun R2 B1 k2 hd1 => ?_
      rw [un_two_in, hr1]
      by_cases c : ((ds.length : Nat) : Int) = n
      · have c2 := decide_eq_true c
        simp (disch := first | assumption | (apply Ap.symm; assumption) | omega | decide | (simp only [U_len, List.length_append, List.length_replicate, List.length_cons, List.length_nil, List.length_set] <;> omega) | fail) only [eqn, c2, ↓Xa, Xb, Xc, ↓reduceIte, Nat.reduceLT, Nat.reduceEqDiff, Nat.reduceBEq, Nat.reduceLeDiff, Nat.reduceAdd, Nat.reduceMul]
        refine k2 (.exit 0) _ (Settle.now ⟨_, hd1, ?_, rfl, _, rfl⟩)
        rw [un_two_in, hr1]
      · have c2 := decide_eq_false c
        simp (disch := first | assumption | (apply Ap.symm; assumption) | omega | decide | (simp only [U_len, List.length_append, List.length_replicate, List.length_cons, List.length_nil, List.length_set] <;> omega) | fail) only [eqn, c2, ↓Xa, Xb, Xc, ↓reduceIte, Nat.reduceLT, Nat.reduceEqDiff, Nat.reduceBEq, Nat.reduceLeDiff, Nat.reduceAdd, Nat.reduceMul]
        refine k2 .normal _ (Settle.now ⟨_, un_two_out p16 hd1, ?_, rfl⟩)
        rw [un_two_in, hr1]; simp
    · intro d A' hdj hA hB hj
      have af := after _ d A' hj hA hB
      simp (disch := first | assumption | (apply Ap.symm; assumption) | omega | decide | (simp only [U_len, List.length_append, List.length_replicate, List.length_cons, List.length_nil, List.length_set] <;> omega) | fail) only [sndC, ac15, ↓Xa, Xb, Xc, ↓reduceIte, Nat.reduceLT, Nat.reduceEqDiff, Nat.reduceBEq, Nat.reduceLeDiff, Nat.reduceAdd, Nat.reduceMul] at af
      simp (disch := first | assumption | (apply Ap.symm; assumption) | omega | decide | (simp only [U_len, List.length_append, List.length_replicate, List.length_cons, List.length_nil, List.length_set] <;> omega) | fail) only [↓Xa, Xb, Xc, ↓reduceIte, Nat.reduceLT, Nat.reduceEqDiff, Nat.reduceBEq, Nat.reduceLeDiff, Nat.reduceAdd, Nat.reduceMul]
      exact af
    · rintro d A' c hdj hA hB ⟨rfl, m, hj⟩
      have af := after m d A' hj hA hB
      simp only [afterQ]
      simp (disch := first | assumption | (apply Ap.symm; assumption) | omega | decide | (simp only [U_len, List.length_append, List.length_replicate, List.length_cons, List.length_nil, List.length_set] <;> omega) | fail) only [sndC, ac15, ↓Xa, Xb, Xc, ↓reduceIte, Nat.reduceLT, Nat.reduceEqDiff, Nat.reduceBEq, Nat.reduceLeDiff, Nat.reduceAdd, Nat.reduceMul] at af
      simp (disch := first | assumption | (apply Ap.symm; assumption) | omega | decide | (simp only [U_len, List.length_append, List.length_replicate, List.length_cons, List.length_nil, List.length_set] <;> omega) | fail) only [↓Xa, Xb, Xc, ↓reduceIte, Nat.reduceLT, Nat.reduceEqDiff, Nat.reduceBEq, Nat.reduceLeDiff, Nat.reduceAdd, Nat.reduceMul]
      exact af
  simp (disch := first | assumption | (apply Ap.symm; assumption) | omega | decide | (simp only [U_len, List.length_append, List.length_replicate, List.length_cons, List.length_nil, List.length_set] <;> omega) | fail) only [sndC, ac15, ↓Xa, Xb, Xc, ↓reduceIte, Nat.reduceLT, Nat.reduceEqDiff, Nat.reduceBEq, Nat.reduceLeDiff, Nat.reduceAdd, Nat.reduceMul] at tail
  by_cases g2 : 1500 < l.length
  · have g3 : ¬ l.length ≤ 65536 := by omega
    simp (disch := first | assumption | (apply Ap.symm; assumption) | omega | decide | (simp only [U_len, List.length_append, List.length_replicate, List.length_cons, List.length_nil, List.length_set] <;> omega) | fail) only [len_Sx, g2, g3, ↓Xa, Xb, Xc, ↓reduceIte, Nat.reduceLT, Nat.reduceEqDiff, Nat.reduceBEq, Nat.reduceLeDiff, Nat.reduceAdd, Nat.reduceMul]
    exact tail
  · simp (disch := first | assumption | (apply Ap.symm; assumption) | omega | decide | (simp only [U_len, List.length_append, List.length_replicate, List.length_cons, List.length_nil, List.length_set] <;> omega) | fail) only [len_Sx, g2, ↓Xa, Xb, Xc, ↓reduceIte, Nat.reduceLT, Nat.reduceEqDiff, Nat.reduceBEq, Nat.reduceLeDiff, Nat.reduceAdd, Nat.reduceMul]
    exact tail
theorem limbTexts_law (a : List Nat) (s : ByteArray) (n : Int) (ha : Lim 4294967296 a) (la : a.length < 9223372036854775808) (ls : s.size ≤ 140737488351232) (hn : -9223372036854775808 ≤ n ∧ n < 9223372036854775808) :
    PFn Tryd.prog 15 [LS a false, .str s, .int .i64 n] (.bool true) := by
  have e : Sx s.data.toList = .str s := by cases s; rfl
  rw [← e]
  exact limbTexts_law0 a _ n ha la (by have : s.data.toList.length = s.size := rfl; omega) hn
end Go.Proofs.YtipbcjnniamcgaaDoor.Fw
