/- The texts Ll Lm Se Sf Va Vb Ne Vc Vd Al12 Ve Al4 Sh Al11 Vf Nc Vg Si Al10 Al8 Vh, joined. -/
import Derived.Test.YtipbcjnniamcgaaDoorZ4
/- What package limb computes: a quotient's digit. -/
namespace Go.Proofs.YtipbcjnniamcgaaDoor.Fw
set_option linter.unusedSimpArgs false
set_option linter.unusedVariables false
open Go Go.Proofs.YtipbcjnniamcgaaDoor.Ma
set_option maxRecDepth 20000

section
variable {H : AHeap} {b ty off L n : Nat} {ti : Bool} {pre u post : List Nat}
theorem less_run {v : List Nat} {t : Nat} (tv : Bool) {Q : AV → AHeap → Prop} (hH : H b = some (.row ty 1 (U (pre ++ (u ++ post))))) (hL : L = pre.length + (u.length + post.length)) (ho : off = pre.length) (hn : n = u.length)
    (hu : Lim 4294967296 u) (hv : Lim 4294967296 v) (ht : t < 4294967296) (hvu : v.length < u.length) (hul : L ≤ 2199023255552)
    (hq : ∀ (w : List Nat) (bo : Nat), w.length = u.length → Lim 4294967296 w → bo ≤ 1 → val 4294967296 u + 4294967296 ^ u.length * bo = val 4294967296 w + t * val 4294967296 v → Q (.bool (decide (0 < bo))) (H.upd b (some (.row ty 1 (U (pre ++ (w ++ post))))))) :
    Run Tryd.prog 114 [.own b L off n ti, LS v tv, .int .u64 (t : Int)] H Q := by
  subst hL; subst ho; subst hn
  refine enter114 (by simp) ?_
  simp (disch := first | assumption | (apply Ap.symm; assumption) | omega | decide | (simp only [U_len, List.length_append, List.length_replicate, List.length_cons, List.length_nil, List.length_set] <;> omega) | fail) only [ac114, ↓Xa, Xb, Xc, ↓reduceIte, Nat.reduceLT, Nat.reduceEqDiff, Nat.reduceBEq, Nat.reduceLeDiff, Nat.reduceAdd, Nat.reduceMul]
  refine W_loop (fun s : Nat × Nat × Nat × List Nat => ⟨[], [(0, .own b (pre.length + (u.length + post.length)) pre.length u.length ti), (1, LS v tv), (2, .int .u64 t), (7, .int .u64 s.2.1), (8, .int .u64 s.2.2.1), (12, .int .i64 u.length), (13, .int .i64 s.1)],
      H.upd b (some (.row ty 1 (U (pre ++ ((s.2.2.2 ++ u.drop s.1) ++ post)))))⟩)
    (fun s => s.1 ≤ u.length ∧ LessI u v t s.1 s.2.1 s.2.2.1 s.2.2.2) (fun s => u.length - s.1) (0, 0, 0, []) (Settle.now (by simp [upd_back _ hH])) ⟨by simp, LessI.zero u v t⟩ ?_
  rintro ⟨i, c, bo, done⟩ ⟨h1, h2⟩
  dsimp only at h1 h2 ⊢
  have hd := h2.1
  have hc := h2.2.2.1
  have hbo := h2.2.2.2.1
  by_cases hi : i < u.length
  · have hx := hu.getD (by omega) i
    have hy := hv.getD (by omega) i
    have hm : v.getD i 0 * t ≤ 4294967295 * 4294967295 := Nat.mul_le_mul (by omega) (by omega)
    have hcl : (done ++ u.drop i).length = u.length := by simp [hd]; omega
    have len1 : (pre ++ ((done ++ u.drop i) ++ post)).length = pre.length + (u.length + post.length) := by simp only [List.length_append, hd, List.length_drop]; omega
    have g1 : (pre ++ ((done ++ u.drop i) ++ post)).getD (pre.length + i) 0 = u.getD i 0 := by rw [mid_get (by omega), part_get hd hi]
    have s1 : ∀ x, (pre ++ ((done ++ u.drop i) ++ post)).set (pre.length + i) x = pre ++ (((done ++ [x]) ++ u.drop (i + 1)) ++ post) := fun x => by rw [mid_set (by omega), part_set hd hi]
    generalize hrow : pre ++ ((done ++ u.drop i) ++ post) = row at *
    by_cases hj : i < v.length
    · simp (disch := first | assumption | (apply Ap.symm; assumption) | omega | decide | (simp only [U_len, List.length_append, List.length_replicate, List.length_cons, List.length_nil, List.length_set] <;> omega) | fail) only [hi, hj, g1, ↓Xa, Xb, Xc, ↓reduceIte, Nat.reduceLT, Nat.reduceEqDiff, Nat.reduceBEq, Nat.reduceLeDiff, Nat.reduceAdd, Nat.reduceMul]
      rw [s1]
      refine Settle.now ⟨(i + 1, _, _, _), by dsimp only; omega, ⟨by dsimp only; omega, h2.step hu hv ht rfl rfl⟩, rfl⟩
    · have h0 := getD_beyond (show v.length ≤ i by omega)
      simp (disch := first | assumption | (apply Ap.symm; assumption) | omega | decide | (simp only [U_len, List.length_append, List.length_replicate, List.length_cons, List.length_nil, List.length_set] <;> omega) | fail) only [hi, hj, g1, ↓Xa, Xb, Xc, ↓reduceIte, Nat.reduceLT, Nat.reduceEqDiff, Nat.reduceBEq, Nat.reduceLeDiff, Nat.reduceAdd, Nat.reduceMul]
      rw [s1]
      refine Settle.now ⟨(i + 1, _, _, _), by dsimp only; omega, ⟨by dsimp only; omega, h2.step hu hv ht (c1 := c) (by rw [h0]; omega) rfl⟩, rfl⟩
  · obtain rfl : i = u.length := by omega
    simp (disch := first | assumption | (apply Ap.symm; assumption) | omega | decide | (simp only [U_len, List.length_append, List.length_replicate, List.length_cons, List.length_nil, List.length_set] <;> omega) | fail) only [hi, ↓Xa, Xb, Xc, ↓reduceIte, Nat.reduceLT, Nat.reduceEqDiff, Nat.reduceBEq, Nat.reduceLeDiff, Nat.reduceAdd, Nat.reduceMul]
    refine Settle.now ?_
    simp (disch := first | assumption | (apply Ap.symm; assumption) | omega | decide | (simp only [U_len, List.length_append, List.length_replicate, List.length_cons, List.length_nil, List.length_set] <;> omega) | fail) only [rs114, ↓Xa, Xb, Xc, ↓reduceIte, Nat.reduceLT, Nat.reduceEqDiff, Nat.reduceBEq, Nat.reduceLeDiff, Nat.reduceAdd, Nat.reduceMul]
    refine SetR.now ?_
    rw [List.drop_of_length_le (Nat.le_refl _), List.append_nil]
    exact hq done bo hd h2.2.1 hbo (h2.end hvu)

def scC : ACode → ACode
  | .scope0 c => c
  | x => x
theorem digit_run {v : List Nat} {m : Nat} (tv : Bool) {Q : AV → AHeap → Prop} (h : DigI u v m) (hH : H b = some (.row ty 1 (U (pre ++ (u ++ post))))) (hL : L = pre.length + (u.length + post.length)) (ho : off = pre.length) (hn : n = u.length) (hul : L ≤ 2199023255552)
    (hq : ∀ (w : List Nat), w.length = u.length → Lim 4294967296 w → val 4294967296 w = val 4294967296 u % val 4294967296 v → Q (.int .u32 ((val 4294967296 u / val 4294967296 v : Nat) : Int)) (H.upd b (some (.row ty 1 (U (pre ++ (w ++ post))))))) :
    Run Tryd.prog 92 [.own b L off n ti, LS v tv] H Q := by
  subst hL; subst ho; subst hn
  have hlu := h.hu
  have hlv := h.hv
  have hq1 := h.q_lt
  have hl := h.lims
  have htop := h.top
  have hqm : val 4294967296 u / val 4294967296 v * val 4294967296 v + val 4294967296 u % val 4294967296 v = val 4294967296 u := Nat.div_add_mod' _ _
  have hml := Nat.mod_lt (val 4294967296 u) h.vpos
  have hvl := val_lt h.lu
  refine enter92 (by simp) ?_
  have fin : ∀ g, val 4294967296 u / val 4294967296 v ≤ g → g ≤ val 4294967296 u / val 4294967296 v + 1 → g < 4294967296 → W Tryd.prog (sndC (sndC (sndC (sndC (sndC (scC (sndC ac92))))))) (scopeA (retN rs92 Q)) ⟨[], [(0, .own b (pre.length + (u.length + post.length)) pre.length u.length ti), (1, LS v tv), (5, .int .i64 v.length), (7, .int .u64 g)], H⟩ := by
    intro g g1 g2 g3
    simp (disch := first | assumption | (apply Ap.symm; assumption) | omega | decide | (simp only [U_len, List.length_append, List.length_replicate, List.length_cons, List.length_nil, List.length_set] <;> omega) | fail) only [ac92, sndC, scC, ↓Xa, Xb, Xc, ↓reduceIte, Nat.reduceLT, Nat.reduceEqDiff, Nat.reduceBEq, Nat.reduceLeDiff, Nat.reduceAdd, Nat.reduceMul]
    refine run_call (less_run tv hH rfl rfl rfl h.lu h.lv g3 (by omega) hul fun w bo hw1 hw2 hb e => ?_)
    have hwl := val_lt hw2
    rw [hw1] at hwl
    generalize val 4294967296 u / val 4294967296 v = q at *
    have hgv : g = q ∨ g = q + 1 := by omega
    have hgm : g * val 4294967296 v = q * val 4294967296 v ∨ g * val 4294967296 v = q * val 4294967296 v + val 4294967296 v := by
      rcases hgv with e | e
      · left; rw [e]
      · right; rw [e, Nat.add_mul, Nat.one_mul]
    have hbc : bo = 0 ∨ bo = 1 := by omega
    rcases hbc with rfl | rfl
    · have hg : g = q := by
        rcases hgv with e1 | e1
        · exact e1
        · rw [e1, Nat.add_mul, Nat.one_mul] at e; omega
      simp (disch := first | assumption | (apply Ap.symm; assumption) | omega | decide | (simp only [U_len, List.length_append, List.length_replicate, List.length_cons, List.length_nil, List.length_set] <;> omega) | fail) only [rs92, ↓Xa, Xb, Xc, ↓reduceIte, Nat.reduceLT, Nat.reduceEqDiff, Nat.reduceBEq, Nat.reduceLeDiff, Nat.reduceAdd, Nat.reduceMul]
      refine SetR.now ?_
      rw [hg]
      exact hq w hw1 hw2 (by rw [hg] at e; omega)
    · have hg : g = q + 1 := by
        rcases hgv with e1 | e1
        · rw [e1] at e; omega
        · exact e1
      subst hg
      simp (disch := first | assumption | (apply Ap.symm; assumption) | omega | decide | (simp only [U_len, List.length_append, List.length_replicate, List.length_cons, List.length_nil, List.length_set] <;> omega) | fail) only [↓Xa, Xb, Xc, ↓reduceIte, Nat.reduceLT, Nat.reduceEqDiff, Nat.reduceBEq, Nat.reduceLeDiff, Nat.reduceAdd, Nat.reduceMul]
      refine W_loop (fun s : Nat × Nat × List Nat => ⟨[], [(0, .own b (pre.length + (u.length + post.length)) pre.length u.length ti), (1, LS v tv), (5, .int .i64 v.length), (7, .int .u64 q), (9, .int .u64 s.2.1), (88, .int .i64 u.length), (89, .int .i64 s.1)],
          H.upd b (some (.row ty 1 (U (pre ++ ((s.2.2 ++ w.drop s.1) ++ post)))))⟩)
        (fun s => s.1 ≤ u.length ∧ AddI w v s.1 s.2.1 s.2.2) (fun s => u.length - s.1) (0, 0, []) (Settle.now rfl) ⟨by simp, AddI.zero w v⟩ ?_
      rintro ⟨i, c, done⟩ ⟨h1, h2⟩
      dsimp only at h1 h2 ⊢
      have hd := h2.1
      have hc := h2.2.2.1
      by_cases hi : i < u.length
      · have hiw : i < w.length := by omega
        have hx := hw2.getD (by omega) i
        have hy := h.lv.getD (by omega) i
        have len1 : (pre ++ ((done ++ w.drop i) ++ post)).length = pre.length + (u.length + post.length) := by simp only [List.length_append, hd, List.length_drop]; omega
        have hcl : i < (done ++ w.drop i).length := by simp only [List.length_append, hd, List.length_drop]; omega
        have g1 : (pre ++ ((done ++ w.drop i) ++ post)).getD (pre.length + i) 0 = w.getD i 0 := by rw [mid_get hcl, part_get hd hiw]
        have s1 : ∀ x, (pre ++ ((done ++ w.drop i) ++ post)).set (pre.length + i) x = pre ++ (((done ++ [x]) ++ w.drop (i + 1)) ++ post) := fun x => by rw [mid_set hcl, part_set hd hiw]
        generalize hrow : pre ++ ((done ++ w.drop i) ++ post) = row at *
        by_cases hj : i < v.length
        · simp (disch := first | assumption | (apply Ap.symm; assumption) | omega | decide | (simp only [U_len, List.length_append, List.length_replicate, List.length_cons, List.length_nil, List.length_set] <;> omega) | fail) only [hi, hj, g1, ↓Xa, Xb, Xc, ↓reduceIte, Nat.reduceLT, Nat.reduceEqDiff, Nat.reduceBEq, Nat.reduceLeDiff, Nat.reduceAdd, Nat.reduceMul]
          rw [s1]
          refine Settle.now ⟨(i + 1, _, _), by dsimp only; omega, ⟨by dsimp only; omega, h2.step hw2 h.lv rfl⟩, rfl⟩
        · have h0 := getD_beyond (show v.length ≤ i by omega)
          simp (disch := first | assumption | (apply Ap.symm; assumption) | omega | decide | (simp only [U_len, List.length_append, List.length_replicate, List.length_cons, List.length_nil, List.length_set] <;> omega) | fail) only [hi, hj, g1, ↓Xa, Xb, Xc, ↓reduceIte, Nat.reduceLT, Nat.reduceEqDiff, Nat.reduceBEq, Nat.reduceLeDiff, Nat.reduceAdd, Nat.reduceMul]
          rw [s1]
          refine Settle.now ⟨(i + 1, _, _), by dsimp only; omega, ⟨by dsimp only; omega, h2.step hw2 h.lv (s := c + w.getD i 0) (by omega)⟩, rfl⟩
      · obtain rfl : i = u.length := by omega
        simp (disch := first | assumption | (apply Ap.symm; assumption) | omega | decide | (simp only [U_len, List.length_append, List.length_replicate, List.length_cons, List.length_nil, List.length_set] <;> omega) | fail) only [hi, ↓Xa, Xb, Xc, ↓reduceIte, Nat.reduceLT, Nat.reduceEqDiff, Nat.reduceBEq, Nat.reduceLeDiff, Nat.reduceAdd, Nat.reduceMul]
        refine Settle.now ?_
        simp (disch := first | assumption | (apply Ap.symm; assumption) | omega | decide | (simp only [U_len, List.length_append, List.length_replicate, List.length_cons, List.length_nil, List.length_set] <;> omega) | fail) only [rs92, ↓Xa, Xb, Xc, ↓reduceIte, Nat.reduceLT, Nat.reduceEqDiff, Nat.reduceBEq, Nat.reduceLeDiff, Nat.reduceAdd, Nat.reduceMul]
        refine SetR.now ?_
        rw [List.drop_of_length_le (by omega), List.append_nil]
        refine hq done hd h2.2.1 ?_
        have e2 := h2.2.2.2
        rw [List.take_of_length_le (by omega), List.take_of_length_le (by omega)] at e2
        have hdl := val_lt h2.2.1
        rw [hd] at hdl
        rw [Nat.add_mul, Nat.one_mul] at e
        have hcc : c = 0 ∨ c = 1 := by omega
        rcases hcc with rfl | rfl <;> omega
  have gl : ∀ i, i < u.length → (pre ++ (u ++ post)).getD (pre.length + i) 0 = u.getD i 0 := fun i hi => mid_get hi
  have hul2 : (pre ++ (u ++ post)).length = pre.length + (u.length + post.length) := by simp
  have g1 := gl (m + 2) (by omega)
  have g2 := gl (m + 1) (by omega)
  have g3 := gl m (by omega)
  have e1 : m + 2 - 1 = m + 1 := by omega
  have e2 : m + 2 - 2 = m := by omega
  have hst := h.start
  have hU2 : U2 u m = u.getD (m + 2) 0 * 2 ^ 32 + u.getD (m + 1) 0 := rfl
  have hne : (v.getD (m + 1) 0 = 0) = False := eq_false (by omega)
  have hrl : U2 u m % v.getD (m + 1) 0 < v.getD (m + 1) 0 := Nat.mod_lt _ (by omega)
  have hgl : U2 u m / v.getD (m + 1) 0 < 18446744073709551616 := Nat.lt_of_le_of_lt (Nat.div_le_self _ _) (by rw [hU2]; omega)
  generalize hrow : pre ++ (u ++ post) = row at *
  simp (disch := first | assumption | (apply Ap.symm; assumption) | omega | decide | (simp only [U_len, List.length_append, List.length_replicate, List.length_cons, List.length_nil, List.length_set] <;> omega) | fail) only [ac92, hH, hlv, e1, e2, g1, g2, ← hU2, hne, ne_eq, ↓Xa, Xb, Xc, ↓reduceIte, Nat.reduceLT, Nat.reduceEqDiff, Nat.reduceBEq, Nat.reduceLeDiff, Nat.reduceAdd, Nat.reduceMul]
  simp only [hlv] at fin
  refine W_loop (fun s : Nat × Nat => ⟨[], [(0, .own b (pre.length + (u.length + post.length)) pre.length u.length ti), (1, LS v tv), (5, .int .i64 ((m + 2 : Nat) : Int)), (7, .int .u64 s.1), (8, .int .u64 s.2)], H⟩)
    (fun s => GuessI u v m s.1 s.2 ∧ s.2 < 4294967296) (fun s => s.1) (U2 u m / v.getD (m + 1) 0, U2 u m % v.getD (m + 1) 0) (Settle.now rfl) ⟨hst, by dsimp only; omega⟩ ?_
  rintro ⟨g, r⟩ ⟨hg, hr⟩
  dsimp only at hg hr ⊢
  have hgm := hg.2.2
  have next : (4294967296 ≤ g ∨ r * 2 ^ 32 + u.getD m 0 < g * v.getD m 0) → 0 < g ∧ GuessI u v m (g - 1) (r + v.getD (m + 1) 0) := fun hc => hg.step h hc
  have leave : (4294967296 ≤ g ∨ r * 2 ^ 32 + u.getD m 0 < g * v.getD m 0) → 4294967296 ≤ r + v.getD (m + 1) 0 → val 4294967296 u / val 4294967296 v ≤ g - 1 ∧ g - 1 ≤ val 4294967296 u / val 4294967296 v + 1 ∧ g - 1 < 4294967296 := fun hc hr' => by
    have h1 := next hc
    have h2 := h1.2.endB h hr' (by omega)
    have h3 := h1.2.2.1
    exact ⟨h3, by omega, Nat.lt_of_le_of_lt h2 hq1⟩
  by_cases hgB : 4294967296 ≤ g
  · have c1 : 0 < g / 2 ^ 32 := by omega
    have hp := (next (.inl hgB)).1
    by_cases hr' : 4294967296 ≤ r + v.getD (m + 1) 0
    · have c2 : 0 < (r + v.getD (m + 1) 0) / 2 ^ 32 := by omega
      obtain ⟨f1, f2, f3⟩ := leave (.inl hgB) hr'
      simp (disch := first | assumption | (apply Ap.symm; assumption) | omega | decide | (simp only [U_len, List.length_append, List.length_replicate, List.length_cons, List.length_nil, List.length_set] <;> omega) | fail) only [hH, e1, e2, g1, g2, g3, c1, c2, ↓Xa, Xb, Xc, ↓reduceIte, Nat.reduceLT, Nat.reduceEqDiff, Nat.reduceBEq, Nat.reduceLeDiff, Nat.reduceAdd, Nat.reduceMul]
      exact Settle.keep [0, 1, 5, 7] (fin (g - 1) f1 f2 f3)
    · have c2 : ¬ 0 < (r + v.getD (m + 1) 0) / 2 ^ 32 := by omega
      simp (disch := first | assumption | (apply Ap.symm; assumption) | omega | decide | (simp only [U_len, List.length_append, List.length_replicate, List.length_cons, List.length_nil, List.length_set] <;> omega) | fail) only [hH, e1, e2, g1, g2, g3, c1, c2, ↓Xa, Xb, Xc, ↓reduceIte, Nat.reduceLT, Nat.reduceEqDiff, Nat.reduceBEq, Nat.reduceLeDiff, Nat.reduceAdd, Nat.reduceMul]
      exact Settle.keep [0, 1, 5, 7, 8] ⟨(g - 1, r + v.getD (m + 1) 0), by dsimp only; omega, ⟨(next (.inl hgB)).2, by dsimp only; omega⟩, rfl⟩
  · have c1 : ¬ 0 < g / 2 ^ 32 := by omega
    have hm2 : g * v.getD m 0 ≤ 4294967295 * 4294967295 := Nat.mul_le_mul (by omega) (by omega)
    by_cases hc : r * 2 ^ 32 + u.getD m 0 < g * v.getD m 0
    · have hp := (next (.inr hc)).1
      by_cases hr' : 4294967296 ≤ r + v.getD (m + 1) 0
      · have c2 : 0 < (r + v.getD (m + 1) 0) / 2 ^ 32 := by omega
        obtain ⟨f1, f2, f3⟩ := leave (.inr hc) hr'
        simp (disch := first | assumption | (apply Ap.symm; assumption) | omega | decide | (simp only [U_len, List.length_append, List.length_replicate, List.length_cons, List.length_nil, List.length_set] <;> omega) | fail) only [hH, e1, e2, g1, g2, g3, c1, c2, hc, ↓Xa, Xb, Xc, ↓reduceIte, Nat.reduceLT, Nat.reduceEqDiff, Nat.reduceBEq, Nat.reduceLeDiff, Nat.reduceAdd, Nat.reduceMul]
        exact Settle.keep [0, 1, 5, 7] (fin (g - 1) f1 f2 f3)
      · have c2 : ¬ 0 < (r + v.getD (m + 1) 0) / 2 ^ 32 := by omega
        simp (disch := first | assumption | (apply Ap.symm; assumption) | omega | decide | (simp only [U_len, List.length_append, List.length_replicate, List.length_cons, List.length_nil, List.length_set] <;> omega) | fail) only [hH, e1, e2, g1, g2, g3, c1, c2, hc, ↓Xa, Xb, Xc, ↓reduceIte, Nat.reduceLT, Nat.reduceEqDiff, Nat.reduceBEq, Nat.reduceLeDiff, Nat.reduceAdd, Nat.reduceMul]
        exact Settle.keep [0, 1, 5, 7, 8] ⟨(g - 1, r + v.getD (m + 1) 0), by dsimp only; omega, ⟨(next (.inr hc)).2, by dsimp only; omega⟩, rfl⟩
    · simp (disch := first | assumption | (apply Ap.symm; assumption) | omega | decide | (simp only [U_len, List.length_append, List.length_replicate, List.length_cons, List.length_nil, List.length_set] <;> omega) | fail) only [hH, e1, e2, g1, g2, g3, c1, hc, ↓Xa, Xb, Xc, ↓reduceIte, Nat.reduceLT, Nat.reduceEqDiff, Nat.reduceBEq, Nat.reduceLeDiff, Nat.reduceAdd, Nat.reduceMul]
      exact Settle.keep [0, 1, 5, 7] (fin g hg.2.1 (hg.endA h (by omega) (by omega)) (by omega))
end
end Go.Proofs.YtipbcjnniamcgaaDoor.Fw

/- What package limb computes: quotients and remainders. -/
namespace Go.Proofs.YtipbcjnniamcgaaDoor.Fw
set_option linter.unusedSimpArgs false
set_option linter.unusedVariables false
open Go Go.Proofs.YtipbcjnniamcgaaDoor.Ma
set_option maxRecDepth 20000

theorem LS_0 (B : Nat) : AV.seq 0 [] true = LS (digs B 0) true := by rw [digs_zero]; rfl
theorem lss_cmp {m n : Nat} {K : AV → Prop} : binW .lss (.int .i64 (cmpZ m n)) (.int .i64 ((0 : Nat) : Int)) K ↔ K (.bool (decide (m < n))) := by
  have : (cmpZ m n < ((0 : Nat) : Int)) ↔ m < n := by unfold cmpZ; split <;> simp_all; split <;> omega
  simp only [binW, binInt, true_and, this]
theorem fin_trL {l x : List Nat} {b ty n : Nat} {t : Bool} {H : AHeap} {Q : AV → AHeap → Prop} {k : IntKind} {m : Int} (hb : H b = none) (hn : l.length = n) (hq : Q (.tup [LS (tr l) true, LS x t, .int k m]) H) : SetR Q (.tup [.own b n 0 (tr l).length true, LS x t, .int k m]) (H.upd b (some (.row ty 1 (U l)))) := by
  refine SetR.frz b (upd_same _ _ _) ?_
  rw [upd_upd, upd_back _ hb, frz, List.map_cons, List.map_cons, List.map_cons, List.map_nil, frz2_tr hn, frz2_int]
  exact SetR.now hq

theorem app_LS {H : AHeap} {ty n : Nat} {l m : List Nat} {t : Bool} {K : AV → AHeap → Prop} (hn : n = m.length) (hm : m ≠ []) (hb : l.length + m.length ≤ 17592186044416)
    (k : ∀ b, H b = none → K (.own b (l.length + m.length) 0 (l.length + m.length) false) (H.upd b (some (.row ty 1 (U (l ++ m)))))) : appV H ty 1 4 (LS l true) (.seq n (U m) t) K := by
  subst hn
  have hpos : 0 < m.length := List.length_pos_iff.2 hm
  refine .inl ⟨by simp, U_cell m, rfl, by simp, by omega, by omega, fun e => absurd e (by omega), fun _ b hb' => ?_⟩
  have := k b hb'
  rw [U_app] at this
  simpa using this
theorem divmod0_fn {a b : List Nat} (ta tb : Bool) (hb : Lim 4294967296 b) (h0 : val 4294967296 b = 0) : PFn Tryd.prog 34 [LS a ta, LS b tb] (.tup [LS (digs 4294967296 0) true, LS (digs 4294967296 0) true, .int .i64 ((2 : Nat) : Int)]) := by
  intro H Q hq
  refine enter34 (by simp) ?_
  simp (disch := first | assumption | (apply Ap.symm; assumption) | omega | decide | (simp only [U_len, List.length_append, List.length_replicate, List.length_cons, List.length_nil, List.length_set] <;> omega) | fail) only [ac34, ↓Xa, Xb, Xc, ↓reduceIte, Nat.reduceLT, Nat.reduceEqDiff, Nat.reduceBEq, Nat.reduceLeDiff, Nat.reduceAdd, Nat.reduceMul]
  refine (trim_fn b tb).call ?_
  rw [tr_digs (by omega) hb, h0, digs_zero]
  simp (disch := first | assumption | (apply Ap.symm; assumption) | omega | decide | (simp only [U_len, List.length_append, List.length_replicate, List.length_cons, List.length_nil, List.length_set] <;> omega) | fail) only [rs34, ↓Xa, Xb, Xc, ↓reduceIte, Nat.reduceLT, Nat.reduceEqDiff, Nat.reduceBEq, Nat.reduceLeDiff, Nat.reduceAdd, Nat.reduceMul]
  rw [LS_0 4294967296]
  exact SetR.now hq

theorem divmod_lt {a b : List Nat} (ta tb : Bool) (ha : Lim 4294967296 a) (hb : Lim 4294967296 b) (h0 : 0 < val 4294967296 b) (hla : a.length ≤ 549755813888) (hlb : b.length ≤ 549755813888) (hlt : val 4294967296 a < val 4294967296 b) :
    PFn Tryd.prog 34 [LS a ta, LS b tb] (.tup [LS (digs 4294967296 (val 4294967296 a / val 4294967296 b)) true, LS (digs 4294967296 (val 4294967296 a % val 4294967296 b)) true, .int .i64 ((0 : Nat) : Int)]) := by
  intro H Q hq
  refine enter34 (by simp) ?_
  simp (disch := first | assumption | (apply Ap.symm; assumption) | omega | decide | (simp only [U_len, List.length_append, List.length_replicate, List.length_cons, List.length_nil, List.length_set] <;> omega) | fail) only [ac34, ↓Xa, Xb, Xc, ↓reduceIte, Nat.reduceLT, Nat.reduceEqDiff, Nat.reduceBEq, Nat.reduceLeDiff, Nat.reduceAdd, Nat.reduceMul]
  refine (trim_fn b tb).call ?_
  have htb := tr_len b
  rw [tr_digs (by omega) hb] at htb ⊢
  generalize val 4294967296 b = Bv at *
  have hY := lim_digs (B := 4294967296) (by omega) Bv
  have hYv := val_digs (B := 4294967296) (by omega) Bv
  have hYp : 0 < (digs 4294967296 Bv).length := by rw [digs_pos (by omega) h0]; simp
  generalize digs 4294967296 Bv = Y at *
  have hY0 : (Y.length = 0) = False := eq_false (by omega)
  simp (disch := first | assumption | (apply Ap.symm; assumption) | omega | decide | (simp only [U_len, List.length_append, List.length_replicate, List.length_cons, List.length_nil, List.length_set] <;> omega) | fail) only [hY0, ↓Xa, Xb, Xc, ↓reduceIte, Nat.reduceLT, Nat.reduceEqDiff, Nat.reduceBEq, Nat.reduceLeDiff, Nat.reduceAdd, Nat.reduceMul]
  refine (cmp_fn ta true ha hY).call ?_
  rw [hYv]
  simp (disch := first | assumption | (apply Ap.symm; assumption) | omega | decide | (simp only [U_len, List.length_append, List.length_replicate, List.length_cons, List.length_nil, List.length_set] <;> omega) | fail) only [lss_cmp, hlt, ↓Xa, Xb, Xc, ↓reduceIte, Nat.reduceLT, Nat.reduceEqDiff, Nat.reduceBEq, Nat.reduceLeDiff, Nat.reduceAdd, Nat.reduceMul]
  refine (norm_fn ta (by omega)).call ?_
  rw [tr_digs (by omega) ha]
  simp (disch := first | assumption | (apply Ap.symm; assumption) | omega | decide | (simp only [U_len, List.length_append, List.length_replicate, List.length_cons, List.length_nil, List.length_set] <;> omega) | fail) only [rs34, ↓Xa, Xb, Xc, ↓reduceIte, Nat.reduceLT, Nat.reduceEqDiff, Nat.reduceBEq, Nat.reduceLeDiff, Nat.reduceAdd, Nat.reduceMul]
  rw [Nat.div_eq_of_lt hlt, Nat.mod_eq_of_lt hlt, ← LS_0 4294967296] at hq
  exact SetR.now hq

theorem divmod_one {a b : List Nat} (ta tb : Bool) (ha : Lim 4294967296 a) (hb : Lim 4294967296 b) (h0 : 0 < val 4294967296 b) (hla : a.length ≤ 549755813888) (hlb : b.length ≤ 549755813888) (hlt : ¬ val 4294967296 a < val 4294967296 b) (h1 : (digs 4294967296 (val 4294967296 b)).length = 1) :
    PFn Tryd.prog 34 [LS a ta, LS b tb] (.tup [LS (digs 4294967296 (val 4294967296 a / val 4294967296 b)) true, LS (digs 4294967296 (val 4294967296 a % val 4294967296 b)) true, .int .i64 ((0 : Nat) : Int)]) := by
  intro H Q hq
  refine enter34 (by simp) ?_
  simp (disch := first | assumption | (apply Ap.symm; assumption) | omega | decide | (simp only [U_len, List.length_append, List.length_replicate, List.length_cons, List.length_nil, List.length_set] <;> omega) | fail) only [ac34, ↓Xa, Xb, Xc, ↓reduceIte, Nat.reduceLT, Nat.reduceEqDiff, Nat.reduceBEq, Nat.reduceLeDiff, Nat.reduceAdd, Nat.reduceMul]
  refine (trim_fn b tb).call ?_
  rw [tr_digs (by omega) hb]
  generalize val 4294967296 b = Bv at *
  have hY := lim_digs (B := 4294967296) (by omega) Bv
  have hYv := val_digs (B := 4294967296) (by omega) Bv
  generalize digs 4294967296 Bv = Y at *
  simp (disch := first | assumption | (apply Ap.symm; assumption) | omega | decide | (simp only [U_len, List.length_append, List.length_replicate, List.length_cons, List.length_nil, List.length_set] <;> omega) | fail) only [h1, ↓Xa, Xb, Xc, ↓reduceIte, Nat.reduceLT, Nat.reduceEqDiff, Nat.reduceBEq, Nat.reduceLeDiff, Nat.reduceAdd, Nat.reduceMul]
  refine (cmp_fn ta true ha hY).call ?_
  rw [hYv]
  have hd : val 4294967296 Y = Y.getD 0 0 := by
    have := val_take_all 4294967296 Y (0 + 1) (by omega)
    rw [← this, val_take]; simp [val]
  rw [hYv] at hd
  have hBl : Bv < 4294967296 := by rw [hd]; exact hY.getD (by omega) 0
  simp (disch := first | assumption | (apply Ap.symm; assumption) | omega | decide | (simp only [U_len, List.length_append, List.length_replicate, List.length_cons, List.length_nil, List.length_set] <;> omega) | fail) only [lss_cmp, hlt, h1, load_LS0, ← hd, ↓Xa, Xb, Xc, ↓reduceIte, Nat.reduceLT, Nat.reduceEqDiff, Nat.reduceBEq, Nat.reduceLeDiff, Nat.reduceAdd, Nat.reduceMul]
  refine (divsmall_fn ta ha h0 hBl (by omega)).call ?_
  simp (disch := first | assumption | (apply Ap.symm; assumption) | omega | decide | (simp only [U_len, List.length_append, List.length_replicate, List.length_cons, List.length_nil, List.length_set] <;> omega) | fail) only [↓Xa, Xb, Xc, ↓reduceIte, Nat.reduceLT, Nat.reduceEqDiff, Nat.reduceBEq, Nat.reduceLeDiff, Nat.reduceAdd, Nat.reduceMul]
  have hm : val 4294967296 a % Bv < 4294967296 := Nat.lt_trans (Nat.mod_lt _ h0) hBl
  refine (norm_fn (l := [val 4294967296 a % Bv]) true (by simp)).call ?_
  rw [tr_digs (by omega) (Lim.one hm), val_one]
  simp (disch := first | assumption | (apply Ap.symm; assumption) | omega | decide | (simp only [U_len, List.length_append, List.length_replicate, List.length_cons, List.length_nil, List.length_set] <;> omega) | fail) only [rs34, ↓Xa, Xb, Xc, ↓reduceIte, Nat.reduceLT, Nat.reduceEqDiff, Nat.reduceBEq, Nat.reduceLeDiff, Nat.reduceAdd, Nat.reduceMul]
  exact SetR.now hq

theorem divmod_many {a b : List Nat} (ta tb : Bool) (ha : Lim 4294967296 a) (hb : Lim 4294967296 b) (h0 : 0 < val 4294967296 b) (hla : a.length ≤ 549755813888) (hlb : b.length ≤ 549755813888) (hlt : ¬ val 4294967296 a < val 4294967296 b) (h1 : ¬ (digs 4294967296 (val 4294967296 b)).length = 1) :
    PFn Tryd.prog 34 [LS a ta, LS b tb] (.tup [LS (digs 4294967296 (val 4294967296 a / val 4294967296 b)) true, LS (digs 4294967296 (val 4294967296 a % val 4294967296 b)) true, .int .i64 ((0 : Nat) : Int)]) := by
  intro H Q hq
  refine enter34 (by simp) ?_
  simp (disch := first | assumption | (apply Ap.symm; assumption) | omega | decide | (simp only [U_len, List.length_append, List.length_replicate, List.length_cons, List.length_nil, List.length_set] <;> omega) | fail) only [ac34, ↓Xa, Xb, Xc, ↓reduceIte, Nat.reduceLT, Nat.reduceEqDiff, Nat.reduceBEq, Nat.reduceLeDiff, Nat.reduceAdd, Nat.reduceMul]
  refine (trim_fn b tb).call ?_
  have htb := tr_len b
  rw [tr_digs (by omega) hb] at htb ⊢
  generalize val 4294967296 b = Bv at *
  have hY := lim_digs (B := 4294967296) (by omega) Bv
  have hYv := val_digs (B := 4294967296) (by omega) Bv
  have hYp : 0 < (digs 4294967296 Bv).length := by rw [digs_pos (by omega) h0]; simp
  have hY0 : ((digs 4294967296 Bv).length = 0) = False := eq_false (by omega)
  simp (disch := first | assumption | (apply Ap.symm; assumption) | omega | decide | (simp only [U_len, List.length_append, List.length_replicate, List.length_cons, List.length_nil, List.length_set] <;> omega) | fail) only [hY0, ↓Xa, Xb, Xc, ↓reduceIte, Nat.reduceLT, Nat.reduceEqDiff, Nat.reduceBEq, Nat.reduceLeDiff, Nat.reduceAdd, Nat.reduceMul]
  refine (cmp_fn ta true ha hY).call ?_
  rw [hYv]
  -- many limbs
  have hn2 : 2 ≤ (digs 4294967296 Bv).length := by omega
  have htop := hY.getD (by omega) ((digs 4294967296 Bv).length - 1)
  have htl : blen ((digs 4294967296 Bv).getD ((digs 4294967296 Bv).length - 1) 0) ≤ 32 := blen_le.2 (by omega)
  simp (disch := first | assumption | (apply Ap.symm; assumption) | omega | decide | (simp only [U_len, List.length_append, List.length_replicate, List.length_cons, List.length_nil, List.length_set] <;> omega) | fail) only [lss_cmp, hlt, h1, ↓Xa, Xb, Xc, ↓reduceIte, Nat.reduceLT, Nat.reduceEqDiff, Nat.reduceBEq, Nat.reduceLeDiff, Nat.reduceAdd, Nat.reduceMul]
  refine (lz_fn htop).call ?_
  generalize hs : 32 - blen ((digs 4294967296 Bv).getD ((digs 4294967296 Bv).length - 1) 0) = s at *
  have hs32 : s ≤ 32 := by omega
  obtain ⟨w1, w2, w3⟩ := shifted h0 hs.symm
  simp (disch := first | assumption | (apply Ap.symm; assumption) | omega | decide | (simp only [U_len, List.length_append, List.length_replicate, List.length_cons, List.length_nil, List.length_set] <;> omega) | fail) only [↓Xa, Xb, Xc, ↓reduceIte, Nat.reduceLT, Nat.reduceEqDiff, Nat.reduceBEq, Nat.reduceLeDiff, Nat.reduceAdd, Nat.reduceMul]
  refine (shl_fn true hY (by omega) (by omega)).call ?_
  rw [hYv]
  simp (disch := first | assumption | (apply Ap.symm; assumption) | omega | decide | (simp only [U_len, List.length_append, List.length_replicate, List.length_cons, List.length_nil, List.length_set] <;> omega) | fail) only [↓Xa, Xb, Xc, ↓reduceIte, Nat.reduceLT, Nat.reduceEqDiff, Nat.reduceBEq, Nat.reduceLeDiff, Nat.reduceAdd, Nat.reduceMul]
  refine (shl_fn ta ha (by omega) (by omega)).call ?_
  have hV0 : 0 < Bv * 2 ^ s := Nat.mul_pos h0 (Nat.pow_pos (by omega))
  have hlv := lim_digs (B := 4294967296) (by omega) (Bv * 2 ^ s)
  have hvv := val_digs (B := 4294967296) (by omega) (Bv * 2 ^ s)
  have hlu := lim_digs (B := 4294967296) (by omega) (val 4294967296 a * 2 ^ s)
  have hvu := val_digs (B := 4294967296) (by omega) (val 4294967296 a * 2 ^ s)
  have hAB : Bv * 2 ^ s ≤ val 4294967296 a * 2 ^ s := Nat.mul_le_mul_right _ (by omega)
  have hll : (digs 4294967296 (Bv * 2 ^ s)).length ≤ (digs 4294967296 (val 4294967296 a * 2 ^ s)).length := by
    rcases Nat.lt_or_ge (digs 4294967296 (val 4294967296 a * 2 ^ s)).length (digs 4294967296 (Bv * 2 ^ s)).length with h | h
    · have := digs_lt_len (by omega) h; omega
    · exact h
  have hul : (digs 4294967296 (val 4294967296 a * 2 ^ s)).length ≤ a.length + 1 := digs_len (by omega) _ _ (by
    have h1 := val_lt ha
    have h2 : (2 : Nat) ^ s ≤ 2 ^ 32 := Nat.pow_le_pow_right (by omega) hs32
    rw [Nat.pow_succ]
    exact Nat.mul_lt_mul_of_lt_of_le h1 h2 (by omega))
  rw [w1] at hll
  have hdiv : val 4294967296 a * 2 ^ s / (Bv * 2 ^ s) = val 4294967296 a / Bv := Nat.mul_div_mul_right _ _ (Nat.pow_pos (by omega))
  have hmod : val 4294967296 a * 2 ^ s % (Bv * 2 ^ s) / 2 ^ s = val 4294967296 a % Bv := by
    rw [Nat.mul_mod_mul_right, Nat.mul_div_cancel _ (Nat.pow_pos (by omega))]
  generalize val 4294967296 a * 2 ^ s = T at *
  generalize Bv * 2 ^ s = V at *
  generalize digs 4294967296 V = v at *
  generalize hn : (digs 4294967296 Bv).length = n at *
  generalize digs 4294967296 T = u0 at *
  simp (disch := first | assumption | (apply Ap.symm; assumption) | omega | decide | (simp only [U_len, List.length_append, List.length_replicate, List.length_cons, List.length_nil, List.length_set] <;> omega) | fail) only [↓Xa, Xb, Xc, ↓reduceIte, Nat.reduceLT, Nat.reduceEqDiff, Nat.reduceBEq, Nat.reduceLeDiff, Nat.reduceAdd, Nat.reduceMul]
  refine app_LS (l := u0) (m := [0]) rfl (by simp) (by simp; omega) fun bu hbu => ?_
  obtain ⟨k0, hk0⟩ : ∃ k0, u0.length = n + k0 := ⟨u0.length - n, by omega⟩
  have hum : u0.length + [0].length = n + k0 + 1 := by simp [hk0]
  rw [hum]
  have hdn : n + k0 + 1 - n = k0 + 1 := by omega
  simp (disch := first | assumption | (apply Ap.symm; assumption) | omega | decide | (simp only [U_len, List.length_append, List.length_replicate, List.length_cons, List.length_nil, List.length_set] <;> omega) | fail) only [w1, hdn, ↓Xa, Xb, Xc, ↓reduceIte, Nat.reduceLT, Nat.reduceEqDiff, Nat.reduceBEq, Nat.reduceLeDiff, Nat.reduceAdd, Nat.reduceMul]
  refine newU_i fun bq hbq => ?_
  have nb := hbq
  simp only [upd_none] at nb
  obtain ⟨nbA, nbq⟩ := nb
  simp (disch := first | assumption | (apply Ap.symm; assumption) | omega | decide | (simp only [U_len, List.length_append, List.length_replicate, List.length_cons, List.length_nil, List.length_set] <;> omega) | fail) only [hdn, Nat.add_sub_cancel, ↓Xa, Xb, Xc, ↓reduceIte, Nat.reduceLT, Nat.reduceEqDiff, Nat.reduceBEq, Nat.reduceLeDiff, Nat.reduceAdd, Nat.reduceMul]
  have hlz : (u0 ++ [0]).length = n + k0 + 1 := by simp [hk0]
  refine W_loop (fun z : Nat × List Nat × List Nat => ⟨[], [(10, .int .i64 s), (11, LS v true), (13, .own bu (n + k0 + 1) 0 (n + k0 + 1) false), (15, .int .i64 n), (16, .own bq (k0 + 1) 0 (k0 + 1) true), (17, .int .i64 (dn z.1))],
      (H.upd bu (some (.row 45 1 (U z.2.1)))).upd bq (some (.row 45 1 (U z.2.2)))⟩)
    (fun z => DivK T V n k0 z.1 z.2.1 z.2.2) (fun z => z.1) (k0 + 1, u0 ++ [0], List.replicate (k0 + 1) 0) (Settle.now rfl) ?_ ?_
  · refine ⟨Nat.le_refl _, hlz, lim_snoc hlu (by omega), by simp, lim_zeros (by omega) _, ?_, ?_⟩
    · -- the highest limbs, a nought on top
      have e := val_append 4294967296 (u0.drop (k0 + 1)) [0]
      have h1 := val_lt (hlu.drop (k0 + 1))
      rw [List.length_drop] at h1
      have h2 : (u0 ++ [0]).drop (k0 + 1) = u0.drop (k0 + 1) ++ [0] := by rw [List.drop_append_of_le_length (by omega)]
      rw [h2, e, val_one, Nat.mul_zero, Nat.add_zero]
      have h3 := val_top1 (B := 4294967296) (l := v) (n := n - 1) (by omega)
      rw [hvv] at h3
      have h4 : 4294967296 ^ (n - 1) * 1 ≤ 4294967296 ^ (n - 1) * v.getD (n - 1) 0 := Nat.mul_le_mul_left _ (by omega)
      rw [show u0.length - (k0 + 1) = n - 1 by omega] at h1
      omega
    · have z : val 4294967296 [] = 0 := rfl
      show T = V * (4294967296 ^ (k0 + 1) * val 4294967296 ((List.replicate (k0 + 1) 0).drop (k0 + 1))) + val 4294967296 (u0 ++ [0])
      rw [List.drop_of_length_le (Nat.le_of_eq List.length_replicate), val_snoc, hvu, z, Nat.mul_zero, Nat.mul_zero, Nat.mul_zero, Nat.zero_add, Nat.add_zero]
  rintro ⟨M, ul, ql⟩ hk
  dsimp only at hk ⊢
  have hu1 := hk.ulen
  have hq1 := hk.qlen
  cases M with
  | zero =>
    obtain ⟨d1, d2⟩ := hk.end
    simp (disch := first | assumption | (apply Ap.symm; assumption) | omega | decide | (simp only [U_len, List.length_append, List.length_replicate, List.length_cons, List.length_nil, List.length_set] <;> omega) | fail) only [↓Xa, Xb, Xc, ↓reduceIte, Nat.reduceLT, Nat.reduceEqDiff, Nat.reduceBEq, Nat.reduceLeDiff, Nat.reduceAdd, Nat.reduceMul]
    refine Settle.freeze 13 rfl (by rw [upd_otherA nbA.symm, upd_same]) (by simp [hu1]) (.inr (by simp)) ?_
    have e1 : AV.seq (n + k0 + 1) (((U ul).drop 0).take ((n + k0 + 1) * 1)) false = LS ul false := by
      rw [List.drop_zero, Nat.mul_one, ← hu1, List.take_of_length_le (by simp)]; rfl
    rw [e1, upd_over nbA, upd_back H hbu]
    refine Settle.now ?_
    simp (disch := first | assumption | (apply Ap.symm; assumption) | omega | decide | (simp only [U_len, List.length_append, List.length_replicate, List.length_cons, List.length_nil, List.length_set] <;> omega) | fail) only [↓Xa, Xb, Xc, ↓reduceIte, Nat.reduceLT, Nat.reduceEqDiff, Nat.reduceBEq, Nat.reduceLeDiff, Nat.reduceAdd, Nat.reduceMul]
    refine (shr_fn false hk.ulim (by omega) (by omega)).call ?_
    rw [d2, hmod]
    simp (disch := first | assumption | (apply Ap.symm; assumption) | omega | decide | (simp only [U_len, List.length_append, List.length_replicate, List.length_cons, List.length_nil, List.length_set] <;> omega) | fail) only [↓Xa, Xb, Xc, ↓reduceIte, Nat.reduceLT, Nat.reduceEqDiff, Nat.reduceBEq, Nat.reduceLeDiff, Nat.reduceAdd, Nat.reduceMul]
    refine trim_call (upd_same _ _ _) hq1 ?_
    simp (disch := first | assumption | (apply Ap.symm; assumption) | omega | decide | (simp only [U_len, List.length_append, List.length_replicate, List.length_cons, List.length_nil, List.length_set] <;> omega) | fail) only [rs34, ↓Xa, Xb, Xc, ↓reduceIte, Nat.reduceLT, Nat.reduceEqDiff, Nat.reduceBEq, Nat.reduceLeDiff, Nat.reduceAdd, Nat.reduceMul]
    refine fin_trL nbq hq1 ?_
    rw [tr_digs (by omega) hk.qlim, d1, hdiv]
    exact hq
  | succ k =>
    have hM := hk.hM
    have hkl : k ≤ k0 := by omega
    obtain ⟨s1, s2, s3⟩ := hk.seg w2
    have hseg : ((ul.drop k).take (n + 1)).length = n + 1 := by rw [List.length_take, List.length_drop]; omega
    have hparts : ul = ul.take k ++ ((ul.drop k).take (n + 1) ++ ul.drop (k + (n + 1))) := by
      rw [← List.drop_drop, List.take_append_drop, List.take_append_drop]
    have hD : DigI ((ul.drop k).take (n + 1)) v (n - 2) := by
      refine ⟨by omega, by omega, (hk.ulim.drop k).take _, hlv, ?_, ?_⟩
      · rw [show n - 2 + 1 = n - 1 by omega]; exact w3
      · rw [s1, hvv]; exact s2
    have hkn : k + n + 1 - k = n + 1 := by omega
    have hpre : (ul.take k).length = k := by rw [List.length_take]; omega
    simp (disch := first | assumption | (apply Ap.symm; assumption) | omega | decide | (simp only [U_len, List.length_append, List.length_replicate, List.length_cons, List.length_nil, List.length_set] <;> omega) | fail) only [hkn, ↓Xa, Xb, Xc, ↓reduceIte, Nat.reduceLT, Nat.reduceEqDiff, Nat.reduceBEq, Nat.reduceLeDiff, Nat.reduceAdd, Nat.reduceMul]
    refine run_call (digit_run (pre := ul.take k) (u := (ul.drop k).take (n + 1)) (post := ul.drop (k + (n + 1))) true hD (by rw [upd_otherA nbA.symm, upd_same, ← hparts]) (by rw [hpre, hseg, List.length_drop]; omega) hpre.symm hseg.symm (by omega) fun w g1 g2 g3 => ?_)
    rw [hseg] at g1
    rw [hvv] at g3 ⊢
    have hqd : val 4294967296 ((ul.drop k).take (n + 1)) / V < 4294967296 := Nat.div_lt_of_lt_mul (by rw [s1, Nat.mul_comm]; exact s2)
    have stp := hk.step w2 hV0 g1 g2 g3 rfl
    rw [Nat.mod_eq_of_lt hqd] at stp
    generalize val 4294967296 ((ul.drop k).take (n + 1)) / V = qd at *
    simp (disch := first | assumption | (apply Ap.symm; assumption) | omega | decide | (simp only [U_len, List.length_append, List.length_replicate, List.length_cons, List.length_nil, List.length_set] <;> omega) | fail) only [↓Xa, Xb, Xc, ↓reduceIte, Nat.reduceLT, Nat.reduceEqDiff, Nat.reduceBEq, Nat.reduceLeDiff, Nat.reduceAdd, Nat.reduceMul]
    exact Settle.keep [10, 11, 13, 15, 16, 17] ⟨(k, _, _), by dsimp only; omega, stp, rfl⟩

theorem divmod_fn {a b : List Nat} (ta tb : Bool) (ha : Lim 4294967296 a) (hb : Lim 4294967296 b) (h0 : 0 < val 4294967296 b) (hla : a.length ≤ 549755813888) (hlb : b.length ≤ 549755813888) :
    PFn Tryd.prog 34 [LS a ta, LS b tb] (.tup [LS (digs 4294967296 (val 4294967296 a / val 4294967296 b)) true, LS (digs 4294967296 (val 4294967296 a % val 4294967296 b)) true, .int .i64 ((0 : Nat) : Int)]) := by
  by_cases hlt : val 4294967296 a < val 4294967296 b
  · exact divmod_lt ta tb ha hb h0 hla hlb hlt
  · by_cases h1 : (digs 4294967296 (val 4294967296 b)).length = 1
    · exact divmod_one ta tb ha hb h0 hla hlb hlt h1
    · exact divmod_many ta tb ha hb h0 hla hlb hlt h1
end Go.Proofs.YtipbcjnniamcgaaDoor.Fw

/- The laws' first question: are numbers added, multiplied, divided, told? -/
namespace Go.Proofs.YtipbcjnniamcgaaDoor.Fw
set_option linter.unusedSimpArgs false
set_option linter.unusedVariables false
open Go Go.Proofs.YtipbcjnniamcgaaDoor.Ma
set_option maxRecDepth 20000

theorem digs_is {l : List Nat} (n : Nat) (h : Lim 4294967296 l) (h0 : l = [] ∨ l.getD (l.length - 1) 0 ≠ 0) (hv : val 4294967296 l = n) : digs 4294967296 n = l := by
  rw [← hv]; exact (digs_of (by omega) h h0).symm
theorem works_fn : PFn Tryd.prog 33 [] (.bool true) := by
  intro H Q hq
  refine enter33 (by simp) ?_
  simp (disch := first | assumption | (apply Ap.symm; assumption) | omega | decide | (simp only [U_len, List.length_append, List.length_replicate, List.length_cons, List.length_nil, List.length_set] <;> omega) | fail) only [ac33, str_Sx, ↓Xa, Xb, Xc, ↓reduceIte, Nat.reduceLT, Nat.reduceEqDiff, Nat.reduceBEq, Nat.reduceLeDiff, Nat.reduceAdd, Nat.reduceMul]
  have l1 : Lim 4294967296 [4294967295] := Lim.one (by omega)
  have l2 : Lim 4294967296 [4294967295, 0] := Lim.cons (by omega) (Lim.one (by omega))
  have l3 : Lim 4294967296 [5] := Lim.one (by omega)
  have l4 : Lim 4294967296 [1, 4294967294] := Lim.cons (by omega) (Lim.one (by omega))
  have d1 : digs 4294967296 18446744065119617025 = [1, 4294967294] := digs_is _ l4 (.inr (by decide)) (by decide)
  have d2 : digs 4294967296 4294967295 = [4294967295] := digs_is _ l1 (.inr (by decide)) (by decide)
  have d3 : digs 4294967296 5 = [5] := digs_is _ l3 (.inr (by decide)) (by decide)
  have m1 := mul_fn (a := [4294967295]) (b := [4294967295, 0]) true true l1 l2 (by simp) (by simp)
  rw [show val 4294967296 [4294967295] * val 4294967296 [4294967295, 0] = 18446744065119617025 by decide, d1] at m1
  refine m1.call ?_
  simp (disch := first | assumption | (apply Ap.symm; assumption) | omega | decide | (simp only [U_len, List.length_append, List.length_replicate, List.length_cons, List.length_nil, List.length_set] <;> omega) | fail) only [↓Xa, Xb, Xc, ↓reduceIte, Nat.reduceLT, Nat.reduceEqDiff, Nat.reduceBEq, Nat.reduceLeDiff, Nat.reduceAdd, Nat.reduceMul]
  have m2 := add_fn (a := [1, 4294967294]) (b := [5]) true true l4 l3 (by simp) (by simp)
  refine m2.call ?_
  rw [show val 4294967296 [1, 4294967294] + val 4294967296 [5] = 18446744065119617030 by decide]
  simp (disch := first | assumption | (apply Ap.symm; assumption) | omega | decide | (simp only [U_len, List.length_append, List.length_replicate, List.length_cons, List.length_nil, List.length_set] <;> omega) | fail) only [↓Xa, Xb, Xc, ↓reduceIte, Nat.reduceLT, Nat.reduceEqDiff, Nat.reduceBEq, Nat.reduceLeDiff, Nat.reduceAdd, Nat.reduceMul]
  have m3 := divmod_fn (a := digs 4294967296 18446744065119617030) (b := [4294967295]) true true (lim_digs (by omega) _) l1 (by decide) (Nat.le_trans (digs_len (k := 3) (by omega) _ (by decide)) (by omega)) (by simp)
  rw [val_digs (by omega), show 18446744065119617030 / val 4294967296 [4294967295] = 4294967295 by decide, show 18446744065119617030 % val 4294967296 [4294967295] = 5 by decide, d2, d3] at m3
  refine m3.call ?_
  simp (disch := first | assumption | (apply Ap.symm; assumption) | omega | decide | (simp only [U_len, List.length_append, List.length_replicate, List.length_cons, List.length_nil, List.length_set] <;> omega) | fail) only [↓Xa, Xb, Xc, ↓reduceIte, Nat.reduceLT, Nat.reduceEqDiff, Nat.reduceBEq, Nat.reduceLeDiff, Nat.reduceAdd, Nat.reduceMul]
  refine (equal_fn (a := [1, 4294967294]) (b := [1, 4294967294]) true true (by simp) (by simp)).call ?_
  rw [decide_eq_true rfl]
  simp (disch := first | assumption | (apply Ap.symm; assumption) | omega | decide | (simp only [U_len, List.length_append, List.length_replicate, List.length_cons, List.length_nil, List.length_set] <;> omega) | fail) only [↓Xa, Xb, Xc, ↓reduceIte, Nat.reduceLT, Nat.reduceEqDiff, Nat.reduceBEq, Nat.reduceLeDiff, Nat.reduceAdd, Nat.reduceMul]
  refine (equal_fn (a := [4294967295]) (b := [4294967295]) true true (by simp) (by simp)).call ?_
  rw [decide_eq_true rfl]
  simp (disch := first | assumption | (apply Ap.symm; assumption) | omega | decide | (simp only [U_len, List.length_append, List.length_replicate, List.length_cons, List.length_nil, List.length_set] <;> omega) | fail) only [↓Xa, Xb, Xc, ↓reduceIte, Nat.reduceLT, Nat.reduceEqDiff, Nat.reduceBEq, Nat.reduceLeDiff, Nat.reduceAdd, Nat.reduceMul]
  refine (equal_fn (a := [5]) (b := [5]) true true (by simp) (by simp)).call ?_
  rw [decide_eq_true rfl]
  simp (disch := first | assumption | (apply Ap.symm; assumption) | omega | decide | (simp only [U_len, List.length_append, List.length_replicate, List.length_cons, List.length_nil, List.length_set] <;> omega) | fail) only [↓Xa, Xb, Xc, ↓reduceIte, Nat.reduceLT, Nat.reduceEqDiff, Nat.reduceBEq, Nat.reduceLeDiff, Nat.reduceAdd, Nat.reduceMul]
  have m4 := text_fn (l := [1, 4294967294]) true l4 (by simp)
  refine m4.call ?_
  have d4 : decT (val 4294967296 [1, 4294967294]) = [49, 56, 52, 52, 54, 55, 52, 52, 48, 54, 53, 49, 49, 57, 54, 49, 55, 48, 50, 53] := by
    have l10 : Lim 10 [5, 2, 0, 7, 1, 6, 9, 1, 1, 5, 6, 0, 4, 4, 7, 6, 4, 4, 8, 1] := by
      intro x hx
      simp only [List.mem_cons, List.not_mem_nil, or_false] at hx
      omega
    have e10 : digs 10 18446744065119617025 = [5, 2, 0, 7, 1, 6, 9, 1, 1, 5, 6, 0, 4, 4, 7, 6, 4, 4, 8, 1] := by
      have := digs_of (by omega) l10 (.inr (by decide))
      rw [this]; congr 1
    rw [show val 4294967296 [1, 4294967294] = 18446744065119617025 by decide]
    unfold decT dec
    rw [if_neg (by decide), e10]
    rfl
  rw [d4]
  simp (disch := first | assumption | (apply Ap.symm; assumption) | omega | decide | (simp only [U_len, List.length_append, List.length_replicate, List.length_cons, List.length_nil, List.length_set] <;> omega) | fail) only [eql_Sx, rs33, ↓Xa, Xb, Xc, ↓reduceIte, Nat.reduceLT, Nat.reduceEqDiff, Nat.reduceBEq, Nat.reduceLeDiff, Nat.reduceAdd, Nat.reduceMul]
  exact SetR.now hq
end Go.Proofs.YtipbcjnniamcgaaDoor.Fw

/- What package limb computes, in terms of numbers. -/
namespace Go.Proofs.YtipbcjnniamcgaaDoor.Fw
set_option linter.unusedSimpArgs false
set_option linter.unusedVariables false
open Go Go.Proofs.YtipbcjnniamcgaaDoor.Ma
set_option maxRecDepth 20000

/-- A row of limbs, what it is worth, how long it is at most. -/
structure Nm (l : List Nat) (n k : Nat) : Prop where
  lim : Lim 4294967296 l
  val : val 4294967296 l = n
  len : l.length ≤ k
theorem Nm.lt {l : List Nat} {n k : Nat} (h : Nm l n k) : n < 4294967296 ^ k := by
  rw [← h.val]; exact Nat.lt_of_lt_of_le (val_lt h.lim) (Nat.pow_le_pow_right (by omega) h.len)
theorem Nm.digs {n k : Nat} (h : n < 4294967296 ^ k) : Nm (digs 4294967296 n) n k := ⟨lim_digs (by omega) n, val_digs (by omega) n, digs_len (by omega) k n h⟩
theorem Nm.raw {l : List Nat} {k : Nat} (h : Lim 4294967296 l) (hk : l.length ≤ k) : Nm l (Ma.val 4294967296 l) k := ⟨h, rfl, hk⟩
theorem Nm.mono {l : List Nat} {n k k' : Nat} (h : Nm l n k) (hk : k ≤ k') : Nm l n k' := ⟨h.lim, h.val, Nat.le_trans h.len hk⟩
theorem div_n {a b : List Nat} {m n k k' : Nat} (ta tb : Bool) (ha : Nm a m k) (hb : Nm b n k') (hk : k ≤ 1000000) (hk' : k' ≤ 1000000) (h : 0 < n) : PFn Tryd.prog 34 [LS a ta, LS b tb] (.tup [LS (Ma.digs 4294967296 (m / n)) true, LS (Ma.digs 4294967296 (m % n)) true, .int .i64 ((0 : Nat) : Int)]) := by
  have := divmod_fn ta tb ha.lim hb.lim (by rw [hb.val]; exact h) (Nat.le_trans ha.len (by omega)) (Nat.le_trans hb.len (by omega))
  rwa [ha.val, hb.val] at this
theorem divs_n {a : List Nat} {m k d : Nat} (ta : Bool) (ha : Nm a m k) (hk : k ≤ 1000000) (h : 0 < d) (hd : d < 4294967296) : PFn Tryd.prog 40 [LS a ta, .int .u32 (d : Nat)] (.tup [LS (Ma.digs 4294967296 (m / d)) true, .int .u32 ((m % d : Nat) : Int), .int .i64 ((0 : Nat) : Int)]) := by
  have := divsmall_fn ta ha.lim h hd (Nat.le_trans ha.len (by omega))
  rwa [ha.val] at this
theorem eq_n {m n k k' : Nat} (ta tb : Bool) (hm : m < 4294967296 ^ k) (hn : n < 4294967296 ^ k') (hk : k ≤ 1000000) (hk' : k' ≤ 1000000) : PFn Tryd.prog 37 [LS (Ma.digs 4294967296 m) ta, LS (Ma.digs 4294967296 n) tb] (.bool (decide (m = n))) := by
  have := equal_fn (a := Ma.digs 4294967296 m) (b := Ma.digs 4294967296 n) ta tb (Nat.lt_of_le_of_lt (Nm.digs hm).len (by omega)) (Nat.lt_of_le_of_lt (Nm.digs hn).len (by omega))
  have e : decide (Ma.digs 4294967296 m = Ma.digs 4294967296 n) = decide (m = n) := by
    apply decide_eq_decide.2
    constructor
    · intro h
      have h2 := congrArg (Ma.val 4294967296) h
      rwa [val_digs (by omega), val_digs (by omega)] at h2
    · rintro rfl; rfl
  rwa [e] at this
theorem eq_same {m n k : Nat} (ta tb : Bool) (h : m = n) (hm : m < 4294967296 ^ k) (hk : k ≤ 1000000) : PFn Tryd.prog 37 [LS (Ma.digs 4294967296 m) ta, LS (Ma.digs 4294967296 n) tb] (.bool true) := by
  subst h
  have := eq_n ta tb hm hm hk hk
  rwa [decide_eq_true rfl] at this
theorem cmpZ_geq {a b : Nat} {K : AV → Prop} : binW .geq (.int .i64 (cmpZ a b)) (.int .i64 ((0 : Nat) : Int)) K ↔ K (.bool (decide (b ≤ a))) := by
  have : (((0 : Nat) : Int) ≤ cmpZ a b) ↔ b ≤ a := by unfold cmpZ; (repeat' split) <;> omega
  simp only [binW, binInt, true_and, ge_iff_le, this]

end Go.Proofs.YtipbcjnniamcgaaDoor.Fw

/- What package swagelaw01 does to what it hands over: room behind it, and whether it was kept. -/
namespace Go.Proofs.YtipbcjnniamcgaaDoor.Fw
set_option linter.unusedSimpArgs false
set_option linter.unusedVariables false
open Go Go.Proofs.YtipbcjnniamcgaaDoor.Ma
set_option maxRecDepth 20000

/-- A row behind which two limbs more stand. -/
def Xr (l : List Nat) : AV := .ext l.length (U (l ++ [77, 78]))
theorem Wk.Xr {l : List Nat} : Wk (Xr l) (LS l false) := Wk.X
theorem PFn.wk {P : Program} {f : FuncId} {args args' : List AV} {r : AV} (h : PFn P f args' r) (w : Wks args args') : PFn P f args r := fun H Q hq => (h H Q hq).wk w
theorem PFn.x {P : Program} {f : FuncId} {l : List Nat} {r : AV} (h : PFn P f [LS l false] r) : PFn P f [Xr l] r := h.wk (.cons Wk.Xr .nil)
theorem PFn.x1 {P : Program} {f : FuncId} {l : List Nat} {y r : AV} (h : PFn P f [LS l false, y] r) : PFn P f [Xr l, y] r := h.wk (.cons Wk.Xr (.cons Wk.refl .nil))
theorem PFn.x2 {P : Program} {f : FuncId} {l : List Nat} {y r : AV} (h : PFn P f [y, LS l false] r) : PFn P f [y, Xr l] r := h.wk (.cons Wk.refl (.cons Wk.Xr .nil))
theorem PFn.xx {P : Program} {f : FuncId} {l m : List Nat} {r : AV} (h : PFn P f [LS l false, LS m false] r) : PFn P f [Xr l, Xr m] r := h.wk (.cons Wk.Xr (.cons Wk.Xr .nil))
theorem liveE_X {es : Nat} {l : List Nat} {H : AHeap} : liveE es H (Xr l) = True := id rfl

theorem clone_run {H : AHeap} {K : AV → AHeap → Prop} {l : List Nat} (t : Bool) (hl : l.length ≤ 1099511627776) (k : ∀ x H', grow H 45 l x H' → K x H') : Run Tryd.prog 96 [LS l t] H K := by
  refine enter96 (by simp) ?_
  cases l with
  | nil =>
    simp (disch := first | assumption | (apply Ap.symm; assumption) | omega | decide | (simp only [U_len, List.length_append, List.length_replicate, List.length_cons, List.length_nil, List.length_set] <;> omega) | fail) only [ac96, nilW_nil, ↓Xa, Xb, Xc, ↓reduceIte, Nat.reduceLT, Nat.reduceEqDiff, Nat.reduceBEq, Nat.reduceLeDiff, Nat.reduceAdd, Nat.reduceMul]
    refine ⟨?_, ?_⟩
    · simp (disch := first | assumption | (apply Ap.symm; assumption) | omega | decide | (simp only [U_len, List.length_append, List.length_replicate, List.length_cons, List.length_nil, List.length_set] <;> omega) | fail) only [rs96, ↓Xa, Xb, Xc, ↓reduceIte, Nat.reduceLT, Nat.reduceEqDiff, Nat.reduceBEq, Nat.reduceLeDiff, Nat.reduceAdd, Nat.reduceMul]
      exact SetR.now (k _ _ grow_nil)
    · refine .inl ⟨rfl, rfl, ?_⟩
      refine ⟨rfl, rfl, by simp, by simp, fun _ => ?_, fun e => absurd e (by simp)⟩
      simp (disch := first | assumption | (apply Ap.symm; assumption) | omega | decide | (simp only [U_len, List.length_append, List.length_replicate, List.length_cons, List.length_nil, List.length_set] <;> omega) | fail) only [rs96, ↓Xa, Xb, Xc, ↓reduceIte, Nat.reduceLT, Nat.reduceEqDiff, Nat.reduceBEq, Nat.reduceLeDiff, Nat.reduceAdd, Nat.reduceMul]
      exact SetR.now (k _ _ grow_nil)
  | cons x l =>
    simp (disch := first | assumption | (apply Ap.symm; assumption) | omega | decide | (simp only [U_len, List.length_append, List.length_replicate, List.length_cons, List.length_nil, List.length_set] <;> omega) | fail) only [ac96, nilW_cons, ↓Xa, Xb, Xc, ↓reduceIte, Nat.reduceLT, Nat.reduceEqDiff, Nat.reduceBEq, Nat.reduceLeDiff, Nat.reduceAdd, Nat.reduceMul]
    refine app_grow (m := x :: l) (t := t) grow_nil rfl (by simp) (by simp at hl ⊢; omega) fun y H' hg => ?_
    simp (disch := first | assumption | (apply Ap.symm; assumption) | omega | decide | (simp only [U_len, List.length_append, List.length_replicate, List.length_cons, List.length_nil, List.length_set] <;> omega) | fail) only [rs96, ↓Xa, Xb, Xc, ↓reduceIte, Nat.reduceLT, Nat.reduceEqDiff, Nat.reduceBEq, Nat.reduceLeDiff, Nat.reduceAdd, Nat.reduceMul]
    exact SetR.now (k _ _ hg)
theorem room_fn {l : List Nat} (t : Bool) (hl : l.length ≤ 1000000) : PFn Tryd.prog 47 [LS l t] (Xr l) := by
  intro H Q hq
  refine enter47 (by simp) ?_
  simp (disch := first | assumption | (apply Ap.symm; assumption) | omega | decide | (simp only [U_len, List.length_append, List.length_replicate, List.length_cons, List.length_nil, List.length_set] <;> omega) | fail) only [ac47, ↓Xa, Xb, Xc, ↓reduceIte, Nat.reduceLT, Nat.reduceEqDiff, Nat.reduceBEq, Nat.reduceLeDiff, Nat.reduceAdd, Nat.reduceMul]
  refine run_call (clone_run t (by omega) fun x H' hg => ?_)
  simp (disch := first | assumption | (apply Ap.symm; assumption) | omega | decide | (simp only [U_len, List.length_append, List.length_replicate, List.length_cons, List.length_nil, List.length_set] <;> omega) | fail) only [rep2, ↓Xa, Xb, Xc, ↓reduceIte, Nat.reduceLT, Nat.reduceEqDiff, Nat.reduceBEq, Nat.reduceLeDiff, Nat.reduceAdd, Nat.reduceMul]
  refine app_ext (m := [77, 78]) hg rfl (by simp) (by simp; omega) ?_
  simp (disch := first | assumption | (apply Ap.symm; assumption) | omega | decide | (simp only [U_len, List.length_append, List.length_replicate, List.length_cons, List.length_nil, List.length_set] <;> omega) | fail) only [liveE_ext, slc_ext1, rs47, ↓Xa, Xb, Xc, ↓reduceIte, Nat.reduceLT, Nat.reduceEqDiff, Nat.reduceBEq, Nat.reduceLeDiff, Nat.reduceAdd, Nat.reduceMul]
  exact SetR.now hq
theorem slc_X {l : List Nat} {k : IntKind} {K : AV → Prop} : slcW 1 (Xr l) none (some (.int k ((l.length + 2 : Nat) : Int))) none K = K (.ext (l.length + 2) (U (l ++ [77, 78]))) :=
  slc_ext1 (by simp)
theorem slc_X2 {l : List Nat} {k : IntKind} {K : AV → Prop} : slcW 1 (.ext (l.length + 2) (U (l ++ [77, 78]))) (some (.int k ((l.length : Nat) : Int))) none none K = K (.ext 2 (U [77, 78])) := by
  rw [slc_ext2 (by omega) (by simp), ← U_drop, List.drop_left]
  congr 2; omega
theorem Wk.two : Wk (.ext 2 (U [77, 78])) (LS [77, 78] false) := Wk.X (l := [77, 78]) (m := [])
/-- What was handed over stands as it stood, and the room behind it. -/
theorem kept_fn {l : List Nat} (t : Bool) (hl : l.length ≤ 1000000) : PFn Tryd.prog 49 [Xr l, LS l t] (.bool true) := by
  intro H Q hq
  refine enter49 (by simp) ?_
  simp (disch := first | assumption | (apply Ap.symm; assumption) | omega | decide | (simp only [U_len, List.length_append, List.length_replicate, List.length_cons, List.length_nil, List.length_set] <;> omega) | fail) only [ac49, ↓Xa, Xb, Xc, ↓reduceIte, Nat.reduceLT, Nat.reduceEqDiff, Nat.reduceBEq, Nat.reduceLeDiff, Nat.reduceAdd, Nat.reduceMul]
  refine (PFn.x1 (equal_fn false t (by omega) (by omega))).call ?_
  simp (disch := first | assumption | (apply Ap.symm; assumption) | omega | decide | (simp only [U_len, List.length_append, List.length_replicate, List.length_cons, List.length_nil, List.length_set] <;> omega) | fail) only [decide_true, liveE_X, slc_X, liveE_ext, slc_X2, rep2, ↓Xa, Xb, Xc, ↓reduceIte, Nat.reduceLT, Nat.reduceEqDiff, Nat.reduceBEq, Nat.reduceLeDiff, Nat.reduceAdd, Nat.reduceMul]
  refine ((equal_fn (a := [77, 78]) (b := [77, 78]) false true (by decide) (by decide)).wk (.cons Wk.two (.cons Wk.refl .nil))).call ?_
  simp (disch := first | assumption | (apply Ap.symm; assumption) | omega | decide | (simp only [U_len, List.length_append, List.length_replicate, List.length_cons, List.length_nil, List.length_set] <;> omega) | fail) only [decide_true, rs49, ↓Xa, Xb, Xc, ↓reduceIte, Nat.reduceLT, Nat.reduceEqDiff, Nat.reduceBEq, Nat.reduceLeDiff, Nat.reduceAdd, Nat.reduceMul]
  exact SetR.now hq
end Go.Proofs.YtipbcjnniamcgaaDoor.Fw

/- The reference for limbs: a limb, what is normal, held against each other, sums. -/
namespace Go.Proofs.YtipbcjnniamcgaaDoor.Fw
set_option linter.unusedSimpArgs false
set_option linter.unusedVariables false
open Go Go.Proofs.YtipbcjnniamcgaaDoor.Ma
set_option maxRecDepth 20000

theorem lat_fn {l : List Nat} {i : Nat} (t : Bool) (hn : l.length < 9223372036854775808) : PFn Tryd.prog 100 [LS l t, .int .i64 (i : Int)] (.int .u32 ((l.getD i 0 : Nat) : Int)) := by
  intro H Q hq
  refine enter100 (by simp) ?_
  by_cases h : i < l.length
  · simp (disch := first | assumption | (apply Ap.symm; assumption) | omega | decide | (simp only [U_len, List.length_append, List.length_replicate, List.length_cons, List.length_nil, List.length_set] <;> omega) | fail) only [ac100, h, rs100, ↓Xa, Xb, Xc, ↓reduceIte, Nat.reduceLT, Nat.reduceEqDiff, Nat.reduceBEq, Nat.reduceLeDiff, Nat.reduceAdd, Nat.reduceMul]
    exact SetR.now hq
  · rw [getD_beyond (by omega)] at hq
    simp (disch := first | assumption | (apply Ap.symm; assumption) | omega | decide | (simp only [U_len, List.length_append, List.length_replicate, List.length_cons, List.length_nil, List.length_set] <;> omega) | fail) only [ac100, h, rs100, ↓Xa, Xb, Xc, ↓reduceIte, Nat.reduceLT, Nat.reduceEqDiff, Nat.reduceBEq, Nat.reduceLeDiff, Nat.reduceAdd, Nat.reduceMul]
    exact SetR.now hq
theorem lnorm_fn {l : List Nat} (t : Bool) (hn : l.length ≤ 1099511627776) : PFn Tryd.prog 53 [LS l t] (LS (tr l) false) := by
  intro H Q hq
  refine enter53 (by simp) ?_
  simp (disch := first | assumption | (apply Ap.symm; assumption) | omega | decide | (simp only [U_len, List.length_append, List.length_replicate, List.length_cons, List.length_nil, List.length_set] <;> omega) | fail) only [ac53, ↓Xa, Xb, Xc, ↓reduceIte, Nat.reduceLT, Nat.reduceEqDiff, Nat.reduceBEq, Nat.reduceLeDiff, Nat.reduceAdd, Nat.reduceMul]
  refine W_loop (fun n : Nat => ⟨[], [(0, LS l t), (3, .int .i64 (n : Nat))], H⟩) (fun n => n ≤ l.length ∧ ∀ i, n ≤ i → i < l.length → l.getD i 0 = 0) id l.length (Settle.now rfl) ⟨Nat.le_refl _, fun i h1 h2 => absurd h1 (by omega)⟩ ?_
  rintro n ⟨h1, hz⟩
  have last : (n = 0 ∨ l.getD (n - 1) 0 ≠ 0) → W Tryd.prog (sndC (sndC (sndC ac53))) (retN rs53 Q) ⟨[], [(0, LS l t), (3, .int .i64 (n : Nat)), (17, .bool false)], H⟩ := by
    intro h
    have e := tr_take h1 hz h
    simp (disch := first | assumption | (apply Ap.symm; assumption) | omega | decide | (simp only [U_len, List.length_append, List.length_replicate, List.length_cons, List.length_nil, List.length_set] <;> omega) | fail) only [sndC, ac53, ↓Xa, Xb, Xc, ↓reduceIte, Nat.reduceLT, Nat.reduceEqDiff, Nat.reduceBEq, Nat.reduceLeDiff, Nat.reduceAdd, Nat.reduceMul]
    refine W_loop (fun s : Nat × AV × AHeap => ⟨[], [(0, LS l t), (3, .int .i64 (n : Nat)), (4, s.2.1), (5, .int .i64 (s.1 : Nat))], s.2.2⟩) (fun s => s.1 ≤ n ∧ grow H 45 (l.take s.1) s.2.1 s.2.2) (fun s => n - s.1) (0, _, _) (Settle.now rfl) ⟨Nat.zero_le _, grow_nil⟩ ?_
    rintro ⟨i, z, H'⟩ ⟨hi, hg⟩
    dsimp only at hi hg ⊢
    by_cases hlt : i < n
    · have hil : i < l.length := by omega
      simp (disch := first | assumption | (apply Ap.symm; assumption) | omega | decide | (simp only [U_len, List.length_append, List.length_replicate, List.length_cons, List.length_nil, List.length_set] <;> omega) | fail) only [hlt, rep1, ↓Xa, Xb, Xc, ↓reduceIte, Nat.reduceLT, Nat.reduceEqDiff, Nat.reduceBEq, Nat.reduceLeDiff, Nat.reduceAdd, Nat.reduceMul]
      refine app_grow (m := [l.getD i 0]) hg rfl (by simp) (by simp; omega) fun z' H2 hg2 => ?_
      simp (disch := first | assumption | (apply Ap.symm; assumption) | omega | decide | (simp only [U_len, List.length_append, List.length_replicate, List.length_cons, List.length_nil, List.length_set] <;> omega) | fail) only [↓Xa, Xb, Xc, ↓reduceIte, Nat.reduceLT, Nat.reduceEqDiff, Nat.reduceBEq, Nat.reduceLeDiff, Nat.reduceAdd, Nat.reduceMul]
      refine Settle.now ⟨(i + 1, _, _), by dsimp only; omega, ⟨by dsimp only; omega, ?_⟩, rfl⟩
      have e2 : l.take (i + 1) = l.take i ++ [l.getD i 0] := by
        rw [List.take_add_one, List.getElem?_eq_getElem hil, List.getD_eq_getElem?_getD, List.getElem?_eq_getElem hil]; rfl
      rw [e2]; exact hg2
    · obtain rfl : i = n := by omega
      simp (disch := first | assumption | (apply Ap.symm; assumption) | omega | decide | (simp only [U_len, List.length_append, List.length_replicate, List.length_cons, List.length_nil, List.length_set] <;> omega) | fail) only [hlt, ↓Xa, Xb, Xc, ↓reduceIte, Nat.reduceLT, Nat.reduceEqDiff, Nat.reduceBEq, Nat.reduceLeDiff, Nat.reduceAdd, Nat.reduceMul]
      refine Settle.now ?_
      simp (disch := first | assumption | (apply Ap.symm; assumption) | omega | decide | (simp only [U_len, List.length_append, List.length_replicate, List.length_cons, List.length_nil, List.length_set] <;> omega) | fail) only [rs53, ↓Xa, Xb, Xc, ↓reduceIte, Nat.reduceLT, Nat.reduceEqDiff, Nat.reduceBEq, Nat.reduceLeDiff, Nat.reduceAdd, Nat.reduceMul]
      rw [e] at hg
      exact grow_fin hg hq
  by_cases h0 : 0 < n
  · by_cases h2 : l.getD (n - 1) 0 = 0
    · simp (disch := first | assumption | (apply Ap.symm; assumption) | omega | decide | (simp only [U_len, List.length_append, List.length_replicate, List.length_cons, List.length_nil, List.length_set] <;> omega) | fail) only [h0, h2, ↓Xa, Xb, Xc, ↓reduceIte, Nat.reduceLT, Nat.reduceEqDiff, Nat.reduceBEq, Nat.reduceLeDiff, Nat.reduceAdd, Nat.reduceMul]
      refine Settle.now ⟨n - 1, ?_, ⟨by omega, fun i hi hl' => ?_⟩, rfl⟩
      · show n - 1 < n; omega
      · rcases Nat.lt_or_ge i n with h | h
        · rw [show i = n - 1 by omega]; exact h2
        · exact hz i h hl'
    · simp (disch := first | assumption | (apply Ap.symm; assumption) | omega | decide | (simp only [U_len, List.length_append, List.length_replicate, List.length_cons, List.length_nil, List.length_set] <;> omega) | fail) only [h0, h2, ↓Xa, Xb, Xc, ↓reduceIte, Nat.reduceLT, Nat.reduceEqDiff, Nat.reduceBEq, Nat.reduceLeDiff, Nat.reduceAdd, Nat.reduceMul]
      exact Settle.now (last (.inr h2))
  · simp (disch := first | assumption | (apply Ap.symm; assumption) | omega | decide | (simp only [U_len, List.length_append, List.length_replicate, List.length_cons, List.length_nil, List.length_set] <;> omega) | fail) only [h0, ↓Xa, Xb, Xc, ↓reduceIte, Nat.reduceLT, Nat.reduceEqDiff, Nat.reduceBEq, Nat.reduceLeDiff, Nat.reduceAdd, Nat.reduceMul]
    exact Settle.now (last (.inl (by omega)))
end Go.Proofs.YtipbcjnniamcgaaDoor.Fw

/- Plain facts of limbs: held against each other, added, subtracted, from the lowest up. -/
namespace Go.Proofs.YtipbcjnniamcgaaDoor.Ma
set_option linter.unusedSimpArgs false
set_option linter.unusedVariables false

theorem val_cut {B : Nat} (l : List Nat) (i : Nat) : val B l = val B (l.take i) + B ^ i * val B (l.drop i) := by
  by_cases h : i ≤ l.length
  · have e := val_append B (l.take i) (l.drop i)
    rw [List.take_append_drop, List.length_take, Nat.min_eq_left h] at e
    exact e
  · rw [List.take_of_length_le (by omega), List.drop_of_length_le (by omega)]
    simp [val]
theorem take_lt {B : Nat} (hB : 1 ≤ B) {l : List Nat} (h : Lim B l) (i : Nat) : val B (l.take i) < B ^ i :=
  Nat.lt_of_lt_of_le (val_lt (h.take i)) (Nat.pow_le_pow_right hB (by rw [List.length_take]; omega))
theorem val_dropC {B : Nat} (l : List Nat) (i : Nat) : val B (l.drop i) = l.getD i 0 + B * val B (l.drop (i + 1)) := by
  by_cases h : i < l.length
  · exact val_drop B h
  · rw [List.drop_of_length_le (by omega), List.drop_of_length_le (by omega), getD_beyond (by omega)]
    simp [val]
theorem cmp_at {B : Nat} (hB : 1 ≤ B) {a b : List Nat} {i : Nat} (ha : Lim B a) (hd : val B (a.drop (i + 1)) = val B (b.drop (i + 1))) (h : a.getD i 0 < b.getD i 0) : val B a < val B b := by
  have h1 := val_cut (B := B) a i
  have h2 := val_cut (B := B) b i
  have h3 := take_lt hB ha i
  rw [val_dropC] at h1 h2
  rw [h1, h2, hd]
  generalize val B (b.drop (i + 1)) = T
  have h4 : B ^ i * (a.getD i 0 + B * T) + B ^ i ≤ B ^ i * (b.getD i 0 + B * T) := by
    rw [← Nat.mul_succ]
    exact Nat.mul_le_mul_left _ (by omega)
  omega

/-- Sums, limb by limb. -/
def SumI (a b : List Nat) (i c : Nat) (done : List Nat) : Prop := done.length = i ∧ Lim 4294967296 done ∧ c ≤ 1 ∧ val 4294967296 done + 4294967296 ^ i * c = val 4294967296 (a.take i) + val 4294967296 (b.take i)
theorem SumI.zero (a b : List Nat) : SumI a b 0 0 [] := ⟨rfl, Lim.nil _, by omega, by simp [val]⟩
theorem SumI.step {a b done : List Nat} {i c s : Nat} (h : SumI a b i c done) (ha : Lim 4294967296 a) (hb : Lim 4294967296 b) (hs : s = c + (a.getD i 0 + b.getD i 0)) : SumI a b (i + 1) (s / 4294967296) (done ++ [s % 4294967296]) := by
  obtain ⟨h1, h2, h3, h4⟩ := h
  have ga := ha.getD (by omega) i
  have gb := hb.getD (by omega) i
  refine ⟨by simp [h1], lim_snoc h2 (Nat.mod_lt _ (by omega)), by omega, ?_⟩
  rw [val_snoc, val_take, val_take, h1, Nat.pow_succ]
  have e := Nat.mod_add_div s 4294967296
  have : 4294967296 ^ i * (s % 4294967296) + 4294967296 ^ i * 4294967296 * (s / 4294967296) = 4294967296 ^ i * s := by rw [Nat.mul_assoc, ← Nat.mul_add, e]
  rw [Nat.add_assoc, this, hs]
  simp only [Nat.mul_add]
  omega
theorem SumI.end {a b done : List Nat} {i : Nat} (h : SumI a b i 0 done) (ha : a.length ≤ i) (hb : b.length ≤ i) : val 4294967296 done = val 4294967296 a + val 4294967296 b := by
  have h4 := h.2.2.2
  rw [List.take_of_length_le ha, List.take_of_length_le hb] at h4
  omega
/-- Differences, limb by limb. -/
def DifI (a b : List Nat) (i c : Nat) (done : List Nat) : Prop := done.length = i ∧ Lim 4294967296 done ∧ c ≤ 1 ∧ val 4294967296 (a.take i) + 4294967296 ^ i * c = val 4294967296 done + val 4294967296 (b.take i)
theorem DifI.zero (a b : List Nat) : DifI a b 0 0 [] := ⟨rfl, Lim.nil _, by omega, by simp [val]⟩
theorem DifI.step {a b done : List Nat} {i c x c' : Nat} (h : DifI a b i c done) (hx : x < 4294967296) (hc' : c' ≤ 1) (hs : a.getD i 0 + 4294967296 * c' = x + (b.getD i 0 + c)) : DifI a b (i + 1) c' (done ++ [x]) := by
  obtain ⟨h1, h2, h3, h4⟩ := h
  refine ⟨by simp [h1], lim_snoc h2 hx, hc', ?_⟩
  rw [val_snoc, val_take, val_take, h1, Nat.pow_succ]
  have e : 4294967296 ^ i * (a.getD i 0 + 4294967296 * c') = 4294967296 ^ i * (x + (b.getD i 0 + c)) := by rw [hs]
  simp only [Nat.mul_add] at e
  rw [Nat.mul_assoc]
  omega
theorem DifI.end {a b done : List Nat} {c : Nat} (h : DifI a b a.length c done) (ha : Lim 4294967296 a) (hab : val 4294967296 b ≤ val 4294967296 a) : val 4294967296 done = val 4294967296 a - val 4294967296 b := by
  obtain ⟨h1, h2, h3, h4⟩ := h
  have l1 := val_lt ha
  have l2 := val_lt h2
  rw [h1] at l2
  have hb := val_cut (B := 4294967296) b a.length
  rw [List.take_of_length_le (Nat.le_refl _)] at h4
  have hz : val 4294967296 (b.drop a.length) = 0 := by
    rcases Nat.eq_zero_or_pos (val 4294967296 (b.drop a.length)) with e | e
    · exact e
    · have : 4294967296 ^ a.length * 1 ≤ 4294967296 ^ a.length * val 4294967296 (b.drop a.length) := Nat.mul_le_mul_left _ e
      omega
  rw [hz] at hb
  have hc : c = 0 := by
    rcases Nat.eq_zero_or_pos c with e | e
    · exact e
    · obtain rfl : c = 1 := by omega
      omega
  subst hc
  omega
end Go.Proofs.YtipbcjnniamcgaaDoor.Ma

/- The reference for limbs: held against each other, added, subtracted. -/
namespace Go.Proofs.YtipbcjnniamcgaaDoor.Fw
set_option linter.unusedSimpArgs false
set_option linter.unusedVariables false
open Go Go.Proofs.YtipbcjnniamcgaaDoor.Ma
set_option maxRecDepth 20000

theorem max_k {a b : Nat} {K : AV → Prop} : maxW true (.int .i64 (a : Int)) (.int .i64 (b : Int)) K ↔ K (.int .i64 ((max a b : Nat) : Int)) := by
  have : (if (a : Int) < (b : Int) then (b : Int) else (a : Int)) = ((max a b : Nat) : Int) := by split <;> omega
  simp only [maxW, true_and, if_true, this]
theorem lcmp_fn {a b : List Nat} (ta tb : Bool) (ha : Lim 4294967296 a) (hb : Lim 4294967296 b) (la : a.length ≤ 1099511627776) (lb : b.length ≤ 1099511627776) : PFn Tryd.prog 56 [LS a ta, LS b tb] (.int .i64 (cmpZ (val 4294967296 a) (val 4294967296 b))) := by
  intro H Q hq
  refine enter56 (by simp) ?_
  simp (disch := first | assumption | (apply Ap.symm; assumption) | omega | decide | (simp only [U_len, List.length_append, List.length_replicate, List.length_cons, List.length_nil, List.length_set] <;> omega) | fail) only [ac56, max_k, ↓Xa, Xb, Xc, ↓reduceIte, Nat.reduceLT, Nat.reduceEqDiff, Nat.reduceBEq, Nat.reduceLeDiff, Nat.reduceAdd, Nat.reduceMul]
  refine W_loop (fun s : Nat => ⟨[], [(0, LS a ta), (1, LS b tb), (5, .int .i64 (dn s))], H⟩) (fun s => s ≤ max a.length b.length ∧ val 4294967296 (a.drop s) = val 4294967296 (b.drop s)) id (max a.length b.length) (Settle.now rfl)
    ⟨Nat.le_refl _, by rw [List.drop_of_length_le (by omega), List.drop_of_length_le (by omega)]⟩ ?_
  rintro s ⟨hs, hd⟩
  cases s with
  | zero =>
    rw [List.drop_zero, List.drop_zero] at hd
    rw [show cmpZ (val 4294967296 a) (val 4294967296 b) = ((0 : Nat) : Int) by unfold cmpZ; rw [if_neg (by omega), if_neg (by omega)]] at hq
    simp (disch := first | assumption | (apply Ap.symm; assumption) | omega | decide | (simp only [U_len, List.length_append, List.length_replicate, List.length_cons, List.length_nil, List.length_set] <;> omega) | fail) only [↓Xa, Xb, Xc, ↓reduceIte, Nat.reduceLT, Nat.reduceEqDiff, Nat.reduceBEq, Nat.reduceLeDiff, Nat.reduceAdd, Nat.reduceMul]
    refine Settle.now ?_
    simp (disch := first | assumption | (apply Ap.symm; assumption) | omega | decide | (simp only [U_len, List.length_append, List.length_replicate, List.length_cons, List.length_nil, List.length_set] <;> omega) | fail) only [rs56, ↓Xa, Xb, Xc, ↓reduceIte, Nat.reduceLT, Nat.reduceEqDiff, Nat.reduceBEq, Nat.reduceLeDiff, Nat.reduceAdd, Nat.reduceMul]
    exact SetR.now hq
  | succ i =>
    have hx := ha.getD (by omega) i
    have hy := hb.getD (by omega) i
    simp (disch := first | assumption | (apply Ap.symm; assumption) | omega | decide | (simp only [U_len, List.length_append, List.length_replicate, List.length_cons, List.length_nil, List.length_set] <;> omega) | fail) only [↓Xa, Xb, Xc, ↓reduceIte, Nat.reduceLT, Nat.reduceEqDiff, Nat.reduceBEq, Nat.reduceLeDiff, Nat.reduceAdd, Nat.reduceMul]
    refine (lat_fn ta (by omega)).call ?_
    simp (disch := first | assumption | (apply Ap.symm; assumption) | omega | decide | (simp only [U_len, List.length_append, List.length_replicate, List.length_cons, List.length_nil, List.length_set] <;> omega) | fail) only [↓Xa, Xb, Xc, ↓reduceIte, Nat.reduceLT, Nat.reduceEqDiff, Nat.reduceBEq, Nat.reduceLeDiff, Nat.reduceAdd, Nat.reduceMul]
    refine (lat_fn tb (by omega)).call ?_
    rcases Nat.lt_trichotomy (a.getD i 0) (b.getD i 0) with h | h | h
    · have := cmp_at (by omega) ha hd h
      rw [show cmpZ (val 4294967296 a) (val 4294967296 b) = -1 by unfold cmpZ; rw [if_pos this]] at hq
      simp (disch := first | assumption | (apply Ap.symm; assumption) | omega | decide | (simp only [U_len, List.length_append, List.length_replicate, List.length_cons, List.length_nil, List.length_set] <;> omega) | fail) only [h, rs56, ↓Xa, Xb, Xc, ↓reduceIte, Nat.reduceLT, Nat.reduceEqDiff, Nat.reduceBEq, Nat.reduceLeDiff, Nat.reduceAdd, Nat.reduceMul]
      exact SetR.now hq
    · have h1 : ¬ a.getD i 0 < b.getD i 0 := by omega
      have h2 : ¬ b.getD i 0 < a.getD i 0 := by omega
      simp (disch := first | assumption | (apply Ap.symm; assumption) | omega | decide | (simp only [U_len, List.length_append, List.length_replicate, List.length_cons, List.length_nil, List.length_set] <;> omega) | fail) only [h1, h2, ↓Xa, Xb, Xc, ↓reduceIte, Nat.reduceLT, Nat.reduceEqDiff, Nat.reduceBEq, Nat.reduceLeDiff, Nat.reduceAdd, Nat.reduceMul]
      refine Settle.now ⟨i, by simp, ⟨by omega, ?_⟩, rfl⟩
      rw [val_dropC a i, val_dropC b i, hd, h]
    · have h1 : ¬ a.getD i 0 < b.getD i 0 := by omega
      have := cmp_at (by omega) hb hd.symm h
      rw [show cmpZ (val 4294967296 a) (val 4294967296 b) = ((1 : Nat) : Int) by unfold cmpZ; rw [if_neg (by omega), if_pos this]] at hq
      simp (disch := first | assumption | (apply Ap.symm; assumption) | omega | decide | (simp only [U_len, List.length_append, List.length_replicate, List.length_cons, List.length_nil, List.length_set] <;> omega) | fail) only [h1, h, rs56, ↓Xa, Xb, Xc, ↓reduceIte, Nat.reduceLT, Nat.reduceEqDiff, Nat.reduceBEq, Nat.reduceLeDiff, Nat.reduceAdd, Nat.reduceMul]
      exact SetR.now hq
theorem lsub_fn {a b : List Nat} (ta tb : Bool) (ha : Lim 4294967296 a) (hb : Lim 4294967296 b) (la : a.length ≤ 274877906944) (lb : b.length ≤ 274877906944) (hab : val 4294967296 b ≤ val 4294967296 a) : PFn Tryd.prog 58 [LS a ta, LS b tb] (LS (digs 4294967296 (val 4294967296 a - val 4294967296 b)) false) := by
  intro H Q hq
  refine enter58 (by simp) ?_
  simp (disch := first | assumption | (apply Ap.symm; assumption) | omega | decide | (simp only [U_len, List.length_append, List.length_replicate, List.length_cons, List.length_nil, List.length_set] <;> omega) | fail) only [ac58, ↓Xa, Xb, Xc, ↓reduceIte, Nat.reduceLT, Nat.reduceEqDiff, Nat.reduceBEq, Nat.reduceLeDiff, Nat.reduceAdd, Nat.reduceMul]
  refine W_loop (fun s : Nat × Nat × List Nat × AV × AHeap => ⟨[], [(0, LS a ta), (1, LS b tb), (5, s.2.2.2.1), (6, .int .u64 (s.2.1 : Nat)), (7, .int .i64 (s.1 : Nat))], s.2.2.2.2⟩)
    (fun s => s.1 ≤ a.length ∧ DifI a b s.1 s.2.1 s.2.2.1 ∧ grow H 45 s.2.2.1 s.2.2.2.1 s.2.2.2.2) (fun s => a.length - s.1) (0, 0, [], _, _) (Settle.now rfl) ⟨Nat.zero_le _, DifI.zero a b, grow_nil⟩ ?_
  rintro ⟨i, c, done, x, H'⟩ ⟨hi, hI, hg⟩
  dsimp only at hi hI hg ⊢
  have hx := ha.getD (by omega) i
  have hy := hb.getD (by omega) i
  have hc := hI.2.2.1
  have hdl := hI.1
  by_cases h1 : i < a.length
  · simp (disch := first | assumption | (apply Ap.symm; assumption) | omega | decide | (simp only [U_len, List.length_append, List.length_replicate, List.length_cons, List.length_nil, List.length_set] <;> omega) | fail) only [h1, ↓Xa, Xb, Xc, ↓reduceIte, Nat.reduceLT, Nat.reduceEqDiff, Nat.reduceBEq, Nat.reduceLeDiff, Nat.reduceAdd, Nat.reduceMul]
    refine (lat_fn ta (by omega)).call ?_
    simp (disch := first | assumption | (apply Ap.symm; assumption) | omega | decide | (simp only [U_len, List.length_append, List.length_replicate, List.length_cons, List.length_nil, List.length_set] <;> omega) | fail) only [↓Xa, Xb, Xc, ↓reduceIte, Nat.reduceLT, Nat.reduceEqDiff, Nat.reduceBEq, Nat.reduceLeDiff, Nat.reduceAdd, Nat.reduceMul]
    refine (lat_fn tb (by omega)).call ?_
    by_cases h2 : a.getD i 0 < b.getD i 0 + c
    · have st := hI.step (x := a.getD i 0 + 4294967296 - (b.getD i 0 + c)) (c' := 1) (by omega) (by omega) (by omega)
      simp (disch := first | assumption | (apply Ap.symm; assumption) | omega | decide | (simp only [U_len, List.length_append, List.length_replicate, List.length_cons, List.length_nil, List.length_set] <;> omega) | fail) only [h2, rep1, ↓Xa, Xb, Xc, ↓reduceIte, Nat.reduceLT, Nat.reduceEqDiff, Nat.reduceBEq, Nat.reduceLeDiff, Nat.reduceAdd, Nat.reduceMul]
      refine app_grow (m := [a.getD i 0 + 4294967296 - (b.getD i 0 + c)]) hg rfl (by simp) (by simp; omega) fun z' H2 hg2 => ?_
      simp (disch := first | assumption | (apply Ap.symm; assumption) | omega | decide | (simp only [U_len, List.length_append, List.length_replicate, List.length_cons, List.length_nil, List.length_set] <;> omega) | fail) only [↓Xa, Xb, Xc, ↓reduceIte, Nat.reduceLT, Nat.reduceEqDiff, Nat.reduceBEq, Nat.reduceLeDiff, Nat.reduceAdd, Nat.reduceMul]
      exact Settle.now ⟨(i + 1, 1, done ++ [_], _, _), by dsimp only; omega, ⟨by dsimp only; omega, st, hg2⟩, rfl⟩
    · have st := hI.step (x := a.getD i 0 - (b.getD i 0 + c)) (c' := 0) (by omega) (by omega) (by omega)
      simp (disch := first | assumption | (apply Ap.symm; assumption) | omega | decide | (simp only [U_len, List.length_append, List.length_replicate, List.length_cons, List.length_nil, List.length_set] <;> omega) | fail) only [h2, rep1, ↓Xa, Xb, Xc, ↓reduceIte, Nat.reduceLT, Nat.reduceEqDiff, Nat.reduceBEq, Nat.reduceLeDiff, Nat.reduceAdd, Nat.reduceMul]
      refine app_grow (m := [a.getD i 0 - (b.getD i 0 + c)]) hg rfl (by simp) (by simp; omega) fun z' H2 hg2 => ?_
      simp (disch := first | assumption | (apply Ap.symm; assumption) | omega | decide | (simp only [U_len, List.length_append, List.length_replicate, List.length_cons, List.length_nil, List.length_set] <;> omega) | fail) only [↓Xa, Xb, Xc, ↓reduceIte, Nat.reduceLT, Nat.reduceEqDiff, Nat.reduceBEq, Nat.reduceLeDiff, Nat.reduceAdd, Nat.reduceMul]
      exact Settle.now ⟨(i + 1, 0, done ++ [_], _, _), by dsimp only; omega, ⟨by dsimp only; omega, st, hg2⟩, rfl⟩
  · obtain rfl : i = a.length := by omega
    have hv := hI.end ha hab
    simp (disch := first | assumption | (apply Ap.symm; assumption) | omega | decide | (simp only [U_len, List.length_append, List.length_replicate, List.length_cons, List.length_nil, List.length_set] <;> omega) | fail) only [h1, ↓Xa, Xb, Xc, ↓reduceIte, Nat.reduceLT, Nat.reduceEqDiff, Nat.reduceBEq, Nat.reduceLeDiff, Nat.reduceAdd, Nat.reduceMul]
    refine Settle.grown 5 rfl hg (Settle.now ?_)
    simp (disch := first | assumption | (apply Ap.symm; assumption) | omega | decide | (simp only [U_len, List.length_append, List.length_replicate, List.length_cons, List.length_nil, List.length_set] <;> omega) | fail) only [↓Xa, Xb, Xc, ↓reduceIte, Nat.reduceLT, Nat.reduceEqDiff, Nat.reduceBEq, Nat.reduceLeDiff, Nat.reduceAdd, Nat.reduceMul]
    refine (lnorm_fn false (by omega)).call ?_
    rw [tr_digs (by omega) hI.2.1, hv]
    simp (disch := first | assumption | (apply Ap.symm; assumption) | omega | decide | (simp only [U_len, List.length_append, List.length_replicate, List.length_cons, List.length_nil, List.length_set] <;> omega) | fail) only [rs58, ↓Xa, Xb, Xc, ↓reduceIte, Nat.reduceLT, Nat.reduceEqDiff, Nat.reduceBEq, Nat.reduceLeDiff, Nat.reduceAdd, Nat.reduceMul]
    exact SetR.now hq
end Go.Proofs.YtipbcjnniamcgaaDoor.Fw

/- Whether rows are long, as package swagelaw01 asks it. -/
namespace Go.Proofs.YtipbcjnniamcgaaDoor.Fw
set_option linter.unusedSimpArgs false
set_option linter.unusedVariables false
open Go Go.Proofs.YtipbcjnniamcgaaDoor.Ma
set_option maxRecDepth 20000

/-- Rows of limbs, one behind the other. -/
def RowC (l : List (List Nat × Bool)) : List AV := l.map fun q => LS q.1 q.2
theorem RowC_len {l : List (List Nat × Bool)} : (RowC l).length = l.length := by simp [RowC]
def lngA (l : List (List Nat × Bool)) : Bool := l.any fun q => decide (160 < q.1.length)
theorem long1_fn {l : List Nat} (t : Bool) (hl : l.length < 9223372036854775808) : PFn Tryd.prog 98 [LS l t] (.bool (decide (160 < l.length))) := by
  intro H Q hq
  refine enter98 (by simp) ?_
  simp (disch := first | assumption | (apply Ap.symm; assumption) | omega | decide | (simp only [U_len, List.length_append, List.length_replicate, List.length_cons, List.length_nil, List.length_set] <;> omega) | fail) only [ac98, rs98, ↓Xa, Xb, Xc, ↓reduceIte, Nat.reduceLT, Nat.reduceEqDiff, Nat.reduceBEq, Nat.reduceLeDiff, Nat.reduceAdd, Nat.reduceMul]
  exact SetR.now hq
theorem index_run {H : AHeap} {Q : AV → AHeap → Prop} (l : List (List Nat × Bool)) (t : Bool) (hl : l.length < 1000) (hb : ∀ q, q ∈ l → q.1.length < 9223372036854775808) (hq : ∀ r : Int, decide (((0 : Nat) : Int) ≤ r) = lngA l → Q (.int .i64 r) H) :
    Run Tryd.prog 118 [.seq l.length (RowC l) t, .fn (.func 98) [] []] H Q := by
  have len9 : ∀ {n : Nat} {c : List AV} {t : Bool} {K : AV → Prop} (_ : n < 2 ^ 63), lenW false (.seq n c t) K = K (.int .i64 ((n : Nat) : Int)) := fun h => by simp [lenW, h]
  have idx9 : ∀ {i : Nat} {K : AV → Prop} (_ : i < l.length), idxAW 1 (.seq l.length (RowC l) t) (.int .i64 (i : Int)) K = K (.cptr ((RowC l).drop i)) := fun {i K} h => by simp [idxAW, RowC_len, h]
  have ld9 : ∀ {i : Nat} {K : AV → Prop} (h : i < l.length), loadW H none (.cptr ((RowC l).drop i)) K = K (LS (l[i]).1 (l[i]).2) := fun {i K} h => by
    have e : (RowC l).drop i = LS (l[i]).1 (l[i]).2 :: (RowC l).drop (i + 1) := by
      rw [List.drop_eq_getElem_cons (by rw [RowC_len]; exact h)]; simp [RowC]
    simp only [loadW, cellsAt, e]
    simp
  refine enter118 (by simp) ?_
  simp (disch := first | assumption | (apply Ap.symm; assumption) | omega | decide | (simp only [U_len, List.length_append, List.length_replicate, List.length_cons, List.length_nil, List.length_set] <;> omega) | fail) only [ac118, len9, ↓Xa, Xb, Xc, ↓reduceIte, Nat.reduceLT, Nat.reduceEqDiff, Nat.reduceBEq, Nat.reduceLeDiff, Nat.reduceAdd, Nat.reduceMul]
  refine W_loop (fun i : Nat => ⟨[], [(0, .seq l.length (RowC l) t), (1, .fn (.func 98) [] []), (7, .int .i64 (l.length : Nat)), (8, .int .i64 (i : Nat))], H⟩) (fun i => i ≤ l.length ∧ ∀ q, q ∈ l.take i → ¬ 160 < q.1.length) (fun i => l.length - i) 0 (Settle.now rfl) ⟨by simp, by simp⟩ ?_
  rintro i ⟨h1, h2⟩
  by_cases hi : i < l.length
  · have hbi := hb (l[i]) (List.getElem_mem hi)
    simp (disch := first | assumption | (apply Ap.symm; assumption) | omega | decide | (simp only [U_len, List.length_append, List.length_replicate, List.length_cons, List.length_nil, List.length_set] <;> omega) | fail) only [hi, idx9, ld9, ↓Xa, Xb, Xc, ↓reduceIte, Nat.reduceLT, Nat.reduceEqDiff, Nat.reduceBEq, Nat.reduceLeDiff, Nat.reduceAdd, Nat.reduceMul]
    refine (long1_fn _ hbi).call ?_
    by_cases hv : 160 < (l[i]).1.length
    · simp (disch := first | assumption | (apply Ap.symm; assumption) | omega | decide | (simp only [U_len, List.length_append, List.length_replicate, List.length_cons, List.length_nil, List.length_set] <;> omega) | fail) only [hv, rs118, ↓Xa, Xb, Xc, ↓reduceIte, Nat.reduceLT, Nat.reduceEqDiff, Nat.reduceBEq, Nat.reduceLeDiff, Nat.reduceAdd, Nat.reduceMul]
      have e : lngA l = true := List.any_eq_true.2 ⟨_, List.getElem_mem hi, by simpa using hv⟩
      exact SetR.now (hq _ (by rw [e]; simp))
    · simp (disch := first | assumption | (apply Ap.symm; assumption) | omega | decide | (simp only [U_len, List.length_append, List.length_replicate, List.length_cons, List.length_nil, List.length_set] <;> omega) | fail) only [hv, ↓Xa, Xb, Xc, ↓reduceIte, Nat.reduceLT, Nat.reduceEqDiff, Nat.reduceBEq, Nat.reduceLeDiff, Nat.reduceAdd, Nat.reduceMul]
      refine Settle.now ⟨i + 1, by omega, ⟨by omega, fun q hq => ?_⟩, rfl⟩
      rw [List.take_add_one, List.getElem?_eq_getElem hi, List.mem_append] at hq
      rcases hq with hq | hq
      · exact h2 q hq
      · rw [List.mem_singleton.1 hq]; exact hv
  · simp (disch := first | assumption | (apply Ap.symm; assumption) | omega | decide | (simp only [U_len, List.length_append, List.length_replicate, List.length_cons, List.length_nil, List.length_set] <;> omega) | fail) only [hi, ↓Xa, Xb, Xc, ↓reduceIte, Nat.reduceLT, Nat.reduceEqDiff, Nat.reduceBEq, Nat.reduceLeDiff, Nat.reduceAdd, Nat.reduceMul]
    refine Settle.now ?_
    simp (disch := first | assumption | (apply Ap.symm; assumption) | omega | decide | (simp only [U_len, List.length_append, List.length_replicate, List.length_cons, List.length_nil, List.length_set] <;> omega) | fail) only [rs118, ↓Xa, Xb, Xc, ↓reduceIte, Nat.reduceLT, Nat.reduceEqDiff, Nat.reduceBEq, Nat.reduceLeDiff, Nat.reduceAdd, Nat.reduceMul]
    have e : lngA l = false := by
      rw [List.take_of_length_le (by omega)] at h2
      exact List.any_eq_false.2 fun q hq => by simpa using h2 q hq
    exact SetR.now (hq _ (by rw [e]; simp))
theorem llong_fn (l : List (List Nat × Bool)) (t : Bool) (hl : l.length < 1000) (hb : ∀ q, q ∈ l → q.1.length < 9223372036854775808) : PFn Tryd.prog 51 [.seq l.length (RowC l) t] (.bool (lngA l)) := by
  intro H Q hq
  refine enter51 (by simp) ?_
  simp (disch := first | assumption | (apply Ap.symm; assumption) | omega | decide | (simp only [U_len, List.length_append, List.length_replicate, List.length_cons, List.length_nil, List.length_set] <;> omega) | fail) only [ac51, ↓Xa, Xb, Xc, ↓reduceIte, Nat.reduceLT, Nat.reduceEqDiff, Nat.reduceBEq, Nat.reduceLeDiff, Nat.reduceAdd, Nat.reduceMul]
  refine PFn.call (r := .bool (lngA l)) (fun H Q hq => ?_) ?_
  · refine enter97 (by simp) ?_
    simp (disch := first | assumption | (apply Ap.symm; assumption) | omega | decide | (simp only [U_len, List.length_append, List.length_replicate, List.length_cons, List.length_nil, List.length_set] <;> omega) | fail) only [ac97, ↓Xa, Xb, Xc, ↓reduceIte, Nat.reduceLT, Nat.reduceEqDiff, Nat.reduceBEq, Nat.reduceLeDiff, Nat.reduceAdd, Nat.reduceMul]
    refine run_call (index_run l t hl hb fun r hr => ?_)
    have c : ∀ K, binW .geq (.int .i64 r) (.int .i64 ((0 : Nat) : Int)) K ↔ K (.bool (lngA l)) := fun K => by
      rw [← hr]; simp only [binW, binInt, true_and]
    simp (disch := first | assumption | (apply Ap.symm; assumption) | omega | decide | (simp only [U_len, List.length_append, List.length_replicate, List.length_cons, List.length_nil, List.length_set] <;> omega) | fail) only [c, rs97, ↓Xa, Xb, Xc, ↓reduceIte, Nat.reduceLT, Nat.reduceEqDiff, Nat.reduceBEq, Nat.reduceLeDiff, Nat.reduceAdd, Nat.reduceMul]
    exact SetR.now hq
  · simp (disch := first | assumption | (apply Ap.symm; assumption) | omega | decide | (simp only [U_len, List.length_append, List.length_replicate, List.length_cons, List.length_nil, List.length_set] <;> omega) | fail) only [rs51, ↓Xa, Xb, Xc, ↓reduceIte, Nat.reduceLT, Nat.reduceEqDiff, Nat.reduceBEq, Nat.reduceLeDiff, Nat.reduceAdd, Nat.reduceMul]
    exact SetR.now hq
end Go.Proofs.YtipbcjnniamcgaaDoor.Fw

/- The looked-up code of one function, and that it is: by a program (wip/tools/ac.py); Lean checks it. -/
namespace Go.Proofs.YtipbcjnniamcgaaDoor.Fw
open Go
set_option maxRecDepth 100000
end Go.Proofs.YtipbcjnniamcgaaDoor.Fw

/- The law of sums of limbs, as what its code computes: true. -/
namespace Go.Proofs.YtipbcjnniamcgaaDoor.Fw
set_option linter.unusedSimpArgs false
set_option linter.unusedVariables false
open Go Go.Proofs.YtipbcjnniamcgaaDoor.Ma
set_option maxRecDepth 20000

/-- The reference's functions, by what the rows stand for. -/
theorem lnorm_n {a : List Nat} {m k : Nat} (ta : Bool) (ha : Nm a m k) (hk : k ≤ 1000000) : PFn Tryd.prog 53 [LS a ta] (LS (Ma.digs 4294967296 m) false) := by
  have h := lnorm_fn (l := a) ta (by have := ha.len; omega)
  rw [tr_digs (by omega) ha.lim, ha.val] at h; exact h
theorem lng2 {a b : List Nat} : lngA [(a, false), (b, false)] = (decide (160 < a.length) || decide (160 < b.length)) := by simp [lngA]

end Go.Proofs.YtipbcjnniamcgaaDoor.Fw

/- The looked-up code of one function, and that it is: by a program (wip/tools/ac.py); Lean checks it. -/
namespace Go.Proofs.YtipbcjnniamcgaaDoor.Fw
open Go
set_option maxRecDepth 100000
end Go.Proofs.YtipbcjnniamcgaaDoor.Fw

/- The law of quotients and remainders of limbs, without the reference, as what its code computes: true. -/
namespace Go.Proofs.YtipbcjnniamcgaaDoor.Fw
set_option linter.unusedSimpArgs false
set_option linter.unusedVariables false
open Go Go.Proofs.YtipbcjnniamcgaaDoor.Ma
set_option maxRecDepth 20000

theorem u32_in {n : Int} (h : (Lit.int .u32 n).wf = true) : 0 ≤ n ∧ n < 4294967296 := by
  simp only [Lit.wf, IntKind.min, IntKind.max, IntKind.signed, IntKind.bits, Bool.and_eq_true, decide_eq_true_eq] at h
  simp at h; omega
theorem Nm.one {c : Nat} (h : c < 4294967296) : Nm [c] c 1 := ⟨Lim.one h, val_one _ _, Nat.le_refl _⟩
theorem Nm.two {c : Nat} (h : c < 4294967296) : Nm [c, 0] c 2 := ⟨Lim.cons h (Lim.one (by omega)), by simp [Ma.val], Nat.le_refl _⟩
end Go.Proofs.YtipbcjnniamcgaaDoor.Fw

/- The looked-up code of one function, and that it is: by a program (wip/tools/ac.py); Lean checks it. -/
namespace Go.Proofs.YtipbcjnniamcgaaDoor.Fw
open Go
set_option maxRecDepth 100000
end Go.Proofs.YtipbcjnniamcgaaDoor.Fw

/- The reference for limbs: products; the law of products of limbs, as what its code computes: true. -/
namespace Go.Proofs.YtipbcjnniamcgaaDoor.Fw
set_option linter.unusedSimpArgs false
set_option linter.unusedVariables false
open Go Go.Proofs.YtipbcjnniamcgaaDoor.Ma
set_option maxRecDepth 20000

/-- A row times one limb, from the lowest up. -/
def MuI (a : List Nat) (m i c : Nat) (done : List Nat) : Prop := done.length = i ∧ Lim 4294967296 done ∧ c < 4294967296 ∧ val 4294967296 done + 4294967296 ^ i * c = val 4294967296 (a.take i) * m
theorem MuI.zero (a : List Nat) (m : Nat) : MuI a m 0 0 [] := ⟨rfl, Lim.nil _, by omega, by simp [val]⟩
theorem mul_fit {x m c : Nat} (hx : x < 4294967296) (hm : m < 4294967296) (hc : c < 4294967296) : c + x * m < 4294967296 * 4294967296 ∧ (c + x * m) / 4294967296 < 4294967296 := by
  have h : x * m ≤ (4294967296 - 1) * (4294967296 - 1) := Nat.mul_le_mul (by omega) (by omega)
  have h2 : c + x * m < 4294967296 * 4294967296 := by omega
  exact ⟨h2, Nat.div_lt_of_lt_mul h2⟩
theorem MuI.step {a done : List Nat} {m i c s : Nat} (h : MuI a m i c done) (ha : Lim 4294967296 a) (hm : m < 4294967296) (hs : s = c + a.getD i 0 * m) : MuI a m (i + 1) (s / 4294967296) (done ++ [s % 4294967296]) := by
  obtain ⟨h1, h2, h3, h4⟩ := h
  have ga := ha.getD (by omega) i
  refine ⟨by simp [h1], lim_snoc h2 (Nat.mod_lt _ (by omega)), by rw [hs]; exact (mul_fit ga hm h3).2, ?_⟩
  rw [val_snoc, val_take, h1, Nat.pow_succ]
  have e := Nat.mod_add_div s 4294967296
  have e1 : 4294967296 ^ i * (s % 4294967296) + 4294967296 ^ i * 4294967296 * (s / 4294967296) = 4294967296 ^ i * s := by rw [Nat.mul_assoc, ← Nat.mul_add, e]
  rw [Nat.add_assoc, e1, hs, Nat.mul_add, ← Nat.add_assoc, h4, Nat.add_mul, Nat.mul_assoc]
end Go.Proofs.YtipbcjnniamcgaaDoor.Fw

/- How often two divides a number. -/
namespace Go.Proofs.YtipbcjnniamcgaaDoor.Ma
set_option linter.unusedSimpArgs false
set_option linter.unusedVariables false

def tz (n : Nat) : Nat := if h : n = 0 ∨ n % 2 = 1 then 0 else tz (n / 2) + 1
termination_by n
decreasing_by omega
def deB : List Nat := [0, 1, 28, 2, 29, 14, 24, 3, 30, 22, 20, 15, 25, 17, 4, 8, 31, 27, 13, 23, 21, 19, 16, 7, 26, 12, 18, 6, 11, 5, 10, 9]
theorem val_get {a : List Nat} (ha : Lim 4294967296 a) (j : Nat) : a.getD j 0 = val 4294967296 a / 4294967296 ^ j % 4294967296 := by
  by_cases hj : j < a.length
  · have h1 := val_drop_div (B := 4294967296) (by omega) ha (q := j) (by omega)
    rw [← h1, val_drop 4294967296 hj]
    have := ha.getD (by omega) j
    omega
  · have h1 := val_lt ha
    have h2 : (4294967296 : Nat) ^ a.length ≤ 4294967296 ^ j := Nat.pow_le_pow_right (by omega) (by omega)
    rw [getD_beyond (by omega), Nat.div_eq_of_lt (by omega)]
theorem bit_val {a : List Nat} (ha : Lim 4294967296 a) (k : Nat) : a.getD (k / 32) 0 / 2 ^ (k % 32) % 2 = val 4294967296 a / 2 ^ k % 2 := by
  rw [val_get ha]
  have e : 2 ^ k = 4294967296 ^ (k / 32) * 2 ^ (k % 32) := by
    conv => lhs; rw [← Nat.div_add_mod k 32, Nat.pow_add, Nat.pow_mul]
  rw [e, ← Nat.div_div_eq_div_mul]
  generalize val 4294967296 a / 4294967296 ^ (k / 32) = x
  have ht : k % 32 < 32 := Nat.mod_lt _ (by omega)
  generalize k % 32 = t at *
  have h32 : (4294967296 : Nat) = 2 ^ t * (2 * 2 ^ (31 - t)) := by
    rw [Nat.mul_comm 2, ← Nat.pow_succ, ← Nat.pow_add, show t + (31 - t + 1) = 32 by omega]
  rw [h32, Nat.mod_mul_right_div_self, Nat.mod_mul_right_mod]
theorem bit_high {a : List Nat} (ha : Lim 4294967296 a) {k : Nat} (h : a.length ≤ k / 32) : val 4294967296 a / 2 ^ k = 0 := by
  refine Nat.div_eq_of_lt (Nat.lt_of_lt_of_le (val_lt ha) ?_)
  rw [show (4294967296 : Nat) = 2 ^ 32 from rfl, ← Nat.pow_mul]
  exact Nat.pow_le_pow_right (by omega) (by omega)
end Go.Proofs.YtipbcjnniamcgaaDoor.Ma

/- The reference for limbs: binary digits; a row twice over; division bit by bit. -/
namespace Go.Proofs.YtipbcjnniamcgaaDoor.Fw
set_option linter.unusedSimpArgs false
set_option linter.unusedVariables false
open Go Go.Proofs.YtipbcjnniamcgaaDoor.Ma
set_option maxRecDepth 20000

theorem lbits_n {a : List Nat} {n k : Nat} (t : Bool) (ha : Nm a n k) (hk : k ≤ 1000000) : PFn Tryd.prog 62 [LS a t] (.int .i64 ((blen n : Nat) : Int)) := by
  intro H Q hq
  have hdn := (Nm.digs ha.lt).len
  refine enter62 (by simp) ?_
  simp (disch := first | assumption | (apply Ap.symm; assumption) | omega | decide | (simp only [U_len, List.length_append, List.length_replicate, List.length_cons, List.length_nil, List.length_set] <;> omega) | fail) only [ac62, ↓Xa, Xb, Xc, ↓reduceIte, Nat.reduceLT, Nat.reduceEqDiff, Nat.reduceBEq, Nat.reduceLeDiff, Nat.reduceAdd, Nat.reduceMul]
  refine (lnorm_n t ha hk).call ?_
  rcases Nat.eq_zero_or_pos n with e | e
  · subst e
    rw [digs_zero] at *
    simp (disch := first | assumption | (apply Ap.symm; assumption) | omega | decide | (simp only [U_len, List.length_append, List.length_replicate, List.length_cons, List.length_nil, List.length_set] <;> omega) | fail) only [List.length_nil, rs62, ↓Xa, Xb, Xc, ↓reduceIte, Nat.reduceLT, Nat.reduceEqDiff, Nat.reduceBEq, Nat.reduceLeDiff, Nat.reduceAdd, Nat.reduceMul]
    exact SetR.now hq
  · have hp : 0 < (Ma.digs 4294967296 n).length := by rw [digs_pos (by omega) e]; simp
    have hne : ((Ma.digs 4294967296 n).length = 0) = False := eq_false (by omega)
    have hb := blen_digs (w := 32) (by omega) e
    have hlim := (lim_digs (B := 4294967296) (by omega) n).getD (by omega) ((Ma.digs 4294967296 n).length - 1)
    have hb32 : blen ((Ma.digs 4294967296 n).getD ((Ma.digs 4294967296 n).length - 1) 0) ≤ 32 := blen_le.2 (by omega)
    change blen n = 32 * ((Ma.digs 4294967296 n).length - 1) + blen ((Ma.digs 4294967296 n).getD ((Ma.digs 4294967296 n).length - 1) 0) at hb
    simp (disch := first | assumption | (apply Ap.symm; assumption) | omega | decide | (simp only [U_len, List.length_append, List.length_replicate, List.length_cons, List.length_nil, List.length_set] <;> omega) | fail) only [hne, ↓Xa, Xb, Xc, ↓reduceIte, Nat.reduceLT, Nat.reduceEqDiff, Nat.reduceBEq, Nat.reduceLeDiff, Nat.reduceAdd, Nat.reduceMul]
    refine W_loop (fun s : Nat × Nat => ⟨[], [(4, .int .i64 (s.1 : Nat)), (5, .int .u32 (s.2 : Nat))], H⟩) (fun s => s.1 + blen s.2 = blen n ∧ s.2 < 4294967296) (fun s => s.2)
      (32 * ((Ma.digs 4294967296 n).length - 1), (Ma.digs 4294967296 n).getD ((Ma.digs 4294967296 n).length - 1) 0) (Settle.now rfl) ⟨hb.symm, hlim⟩ ?_
    rintro ⟨m, u⟩ ⟨h1, h2⟩
    dsimp only at h1 h2 ⊢
    have hbn : blen n ≤ 32 * 1000000 + 32 := by omega
    by_cases h0 : 0 < u
    · have hh := blen_half h0
      simp (disch := first | assumption | (apply Ap.symm; assumption) | omega | decide | (simp only [U_len, List.length_append, List.length_replicate, List.length_cons, List.length_nil, List.length_set] <;> omega) | fail) only [h0, ne_eq, Nat.reduceEqDiff, ↓Xa, Xb, Xc, ↓reduceIte, Nat.reduceLT, Nat.reduceEqDiff, Nat.reduceBEq, Nat.reduceLeDiff, Nat.reduceAdd, Nat.reduceMul]
      refine Settle.now ⟨(m + 1, u / 2), by dsimp only; omega, ⟨by dsimp only; omega, by dsimp only; omega⟩, rfl⟩
    · obtain rfl : u = 0 := by omega
      rw [blen_zero, Nat.add_zero] at h1
      simp (disch := first | assumption | (apply Ap.symm; assumption) | omega | decide | (simp only [U_len, List.length_append, List.length_replicate, List.length_cons, List.length_nil, List.length_set] <;> omega) | fail) only [h0, ↓Xa, Xb, Xc, ↓reduceIte, Nat.reduceLT, Nat.reduceEqDiff, Nat.reduceBEq, Nat.reduceLeDiff, Nat.reduceAdd, Nat.reduceMul]
      refine Settle.now ?_
      simp (disch := first | assumption | (apply Ap.symm; assumption) | omega | decide | (simp only [U_len, List.length_append, List.length_replicate, List.length_cons, List.length_nil, List.length_set] <;> omega) | fail) only [rs62, ↓Xa, Xb, Xc, ↓reduceIte, Nat.reduceLT, Nat.reduceEqDiff, Nat.reduceBEq, Nat.reduceLeDiff, Nat.reduceAdd, Nat.reduceMul]
      rw [h1]
      exact SetR.now hq
theorem rlbit_fn {l : List Nat} {k : Nat} (t : Bool) (hl : Lim 4294967296 l) (hn : l.length < 9223372036854775808) (hk : k < 9223372036854775808) : PFn Tryd.prog 64 [LS l t, .int .i64 (k : Int)] (.bool (decide (val 4294967296 l / 2 ^ k % 2 = 1))) := by
  intro H Q hq
  refine enter64 (by simp) ?_
  by_cases h : k / 32 < l.length
  · have hx := hl.getD (by omega) (k / 32)
    have hs : l.getD (k / 32) 0 / 2 ^ (k % 32) < 4294967296 := Nat.lt_of_le_of_lt (Nat.div_le_self _ _) hx
    have c2 : ∀ K, binW .and (.int .u32 ((l.getD (k / 32) 0 / 2 ^ (k % 32) : Nat) : Int)) (.int .u32 ((1 : Nat) : Int)) K ↔ K (.int .u32 ((l.getD (k / 32) 0 / 2 ^ (k % 32) % 2 : Nat) : Int)) := fun K => by
      rw [bin_and .u32 (by simp only [IntKind.bits]; omega) (by simp [IntKind.bits]), Nat.and_one_is_mod, wn_u32 (by omega)]
    simp (disch := first | assumption | (apply Ap.symm; assumption) | omega | decide | (simp only [U_len, List.length_append, List.length_replicate, List.length_cons, List.length_nil, List.length_set] <;> omega) | fail) only [ac64, h, c2, bit_val hl, rs64, ↓Xa, Xb, Xc, ↓reduceIte, Nat.reduceLT, Nat.reduceEqDiff, Nat.reduceBEq, Nat.reduceLeDiff, Nat.reduceAdd, Nat.reduceMul]
    exact ⟨by decide, by decide, by decide, SetR.now hq⟩
  · rw [bit_high hl (by omega)] at hq
    simp (disch := first | assumption | (apply Ap.symm; assumption) | omega | decide | (simp only [U_len, List.length_append, List.length_replicate, List.length_cons, List.length_nil, List.length_set] <;> omega) | fail) only [ac64, h, rs64, ↓Xa, Xb, Xc, ↓reduceIte, Nat.reduceLT, Nat.reduceEqDiff, Nat.reduceBEq, Nat.reduceLeDiff, Nat.reduceAdd, Nat.reduceMul]
    exact ⟨by decide, SetR.now hq⟩

/-- A row twice over, from the lowest up. -/
def DbI (a : List Nat) (c0 i c : Nat) (done : List Nat) : Prop := done.length = i ∧ Lim 4294967296 done ∧ c ≤ 1 ∧ val 4294967296 done + 4294967296 ^ i * c = 2 * val 4294967296 (a.take i) + c0
theorem DbI.zero (a : List Nat) {c0 : Nat} (h : c0 ≤ 1) : DbI a c0 0 c0 [] := ⟨rfl, Lim.nil _, h, by simp [val]⟩
theorem DbI.step {a done : List Nat} {c0 i c : Nat} (h : DbI a c0 i c done) (ha : Lim 4294967296 a) : DbI a c0 (i + 1) (a.getD i 0 / 2147483648) (done ++ [(a.getD i 0 * 2 % 4294967296 + c) % 4294967296]) := by
  obtain ⟨h1, h2, h3, h4⟩ := h
  have ga := ha.getD (by omega) i
  refine ⟨by simp [h1], lim_snoc h2 (Nat.mod_lt _ (by omega)), by omega, ?_⟩
  rw [val_snoc, val_take, h1, Nat.pow_succ, Nat.mul_assoc]
  have e : (a.getD i 0 * 2 % 4294967296 + c) % 4294967296 + 4294967296 * (a.getD i 0 / 2147483648) = c + 2 * a.getD i 0 := by omega
  have e1 : 4294967296 ^ i * ((a.getD i 0 * 2 % 4294967296 + c) % 4294967296) + 4294967296 ^ i * (4294967296 * (a.getD i 0 / 2147483648)) = 4294967296 ^ i * c + 2 * (4294967296 ^ i * a.getD i 0) := by
    rw [← Nat.mul_add, e, Nat.mul_add, Nat.mul_left_comm]
  omega
theorem double_run {H : AHeap} {Q : AV → AHeap → Prop} {a : List Nat} {bit : Bool} (t : Bool) (ha : Lim 4294967296 a) (hl : a.length ≤ 1099511627776) (hq : ∀ y, Lim 4294967296 y → val 4294967296 y = 2 * val 4294967296 a + (if bit then 1 else 0) → y.length ≤ a.length + 1 → Q (LS y false) H) :
    Run Tryd.prog 99 [LS a t, .bool bit] H Q := by
  refine enter99 (by simp) ?_
  have tail : ∀ c0, c0 ≤ 1 → c0 = (if bit then 1 else 0) → ∀ v : Env, (v = [] ∨ v = [(8, .bool false)]) → W Tryd.prog (sndC (sndC (sndC (sndC ac99)))) (retN rs99 Q) ⟨[], [(0, LS a t), (5, .seq 0 [] true), (6, .int .u32 (c0 : Nat))] ++ v, H⟩ := by
    intro c0 hc0 hcb v hv
    rw [← hcb] at hq
    rcases hv with rfl | rfl
    all_goals
      simp (disch := first | assumption | (apply Ap.symm; assumption) | omega | decide | (simp only [U_len, List.length_append, List.length_replicate, List.length_cons, List.length_nil, List.length_set] <;> omega) | fail) only [sndC, ac99, ↓Xa, Xb, Xc, ↓reduceIte, Nat.reduceLT, Nat.reduceEqDiff, Nat.reduceBEq, Nat.reduceLeDiff, Nat.reduceAdd, Nat.reduceMul]
      refine W_loop (fun s : Nat × Nat × List Nat × AV × AHeap => ⟨[], [(0, LS a t), (5, s.2.2.2.1), (6, .int .u32 (s.2.1 : Nat)), (7, .int .i64 (s.1 : Nat))], s.2.2.2.2⟩)
        (fun s => s.1 ≤ a.length ∧ DbI a c0 s.1 s.2.1 s.2.2.1 ∧ grow H 45 s.2.2.1 s.2.2.2.1 s.2.2.2.2) (fun s => a.length - s.1) (0, c0, [], _, _) (Settle.now rfl) ⟨Nat.zero_le _, DbI.zero a hc0, grow_nil⟩ ?_
      rintro ⟨i, c, done, x, H'⟩ ⟨hi, hI, hg⟩
      dsimp only at hi hI hg ⊢
      have hdl := hI.1
      have hc1 := hI.2.2.1
      by_cases h : i < a.length
      · have hx := ha.getD (by omega) i
        have st := hI.step ha
        rw [Nat.mod_eq_of_lt (show a.getD i 0 * 2 % 4294967296 + c < 4294967296 by omega)] at st
        simp (disch := first | assumption | (apply Ap.symm; assumption) | omega | decide | (simp only [U_len, List.length_append, List.length_replicate, List.length_cons, List.length_nil, List.length_set] <;> omega) | fail) only [h, rep1, ↓Xa, Xb, Xc, ↓reduceIte, Nat.reduceLT, Nat.reduceEqDiff, Nat.reduceBEq, Nat.reduceLeDiff, Nat.reduceAdd, Nat.reduceMul]
        refine app_grow (m := [a.getD i 0 * 2 % 4294967296 + c]) hg rfl (by simp) (by simp; omega) fun z' H2 hg2 => ?_
        simp (disch := first | assumption | (apply Ap.symm; assumption) | omega | decide | (simp only [U_len, List.length_append, List.length_replicate, List.length_cons, List.length_nil, List.length_set] <;> omega) | fail) only [ne_eq, Nat.reduceEqDiff, ↓Xa, Xb, Xc, ↓reduceIte, Nat.reduceLT, Nat.reduceEqDiff, Nat.reduceBEq, Nat.reduceLeDiff, Nat.reduceAdd, Nat.reduceMul]
        first
          | exact Settle.now ⟨(i + 1, _, done ++ [_], _, _), by dsimp only; omega, ⟨by dsimp only; omega, st, hg2⟩, rfl⟩
          | exact ⟨by decide, Settle.now ⟨(i + 1, _, done ++ [_], _, _), by dsimp only; omega, ⟨by dsimp only; omega, st, hg2⟩, rfl⟩⟩
      · obtain rfl : i = a.length := by omega
        obtain ⟨h1, h2, h3, h4⟩ := hI
        rw [List.take_of_length_le (Nat.le_refl _)] at h4
        simp (disch := first | assumption | (apply Ap.symm; assumption) | omega | decide | (simp only [U_len, List.length_append, List.length_replicate, List.length_cons, List.length_nil, List.length_set] <;> omega) | fail) only [h, ↓Xa, Xb, Xc, ↓reduceIte, Nat.reduceLT, Nat.reduceEqDiff, Nat.reduceBEq, Nat.reduceLeDiff, Nat.reduceAdd, Nat.reduceMul]
        refine Settle.now ?_
        by_cases hc : 0 < c
        · obtain rfl : c = 1 := by omega
          simp (disch := first | assumption | (apply Ap.symm; assumption) | omega | decide | (simp only [U_len, List.length_append, List.length_replicate, List.length_cons, List.length_nil, List.length_set] <;> omega) | fail) only [rep1, ↓Xa, Xb, Xc, ↓reduceIte, Nat.reduceLT, Nat.reduceEqDiff, Nat.reduceBEq, Nat.reduceLeDiff, Nat.reduceAdd, Nat.reduceMul]
          refine app_grow (m := [1]) hg rfl (by simp) (by simp; omega) fun z' H2 hg2 => ?_
          simp (disch := first | assumption | (apply Ap.symm; assumption) | omega | decide | (simp only [U_len, List.length_append, List.length_replicate, List.length_cons, List.length_nil, List.length_set] <;> omega) | fail) only [rs99, ↓Xa, Xb, Xc, ↓reduceIte, Nat.reduceLT, Nat.reduceEqDiff, Nat.reduceBEq, Nat.reduceLeDiff, Nat.reduceAdd, Nat.reduceMul]
          exact grow_fin hg2 (hq _ (lim_snoc h2 (by omega)) (by rw [val_snoc, h1]; exact h4) (by simp; omega))
        · obtain rfl : c = 0 := by omega
          simp (disch := first | assumption | (apply Ap.symm; assumption) | omega | decide | (simp only [U_len, List.length_append, List.length_replicate, List.length_cons, List.length_nil, List.length_set] <;> omega) | fail) only [rs99, ↓Xa, Xb, Xc, ↓reduceIte, Nat.reduceLT, Nat.reduceEqDiff, Nat.reduceBEq, Nat.reduceLeDiff, Nat.reduceAdd, Nat.reduceMul]
          exact grow_fin hg (hq _ h2 (by simpa using h4) (by omega))
  cases bit with
  | true =>
    have tl := tail 1 (by omega) rfl [] (.inl rfl)
    simp (disch := first | assumption | (apply Ap.symm; assumption) | omega | decide | (simp only [U_len, List.length_append, List.length_replicate, List.length_cons, List.length_nil, List.length_set] <;> omega) | fail) only [sndC, ac99, ↓Xa, Xb, Xc, ↓reduceIte, Nat.reduceLT, Nat.reduceEqDiff, Nat.reduceBEq, Nat.reduceLeDiff, Nat.reduceAdd, Nat.reduceMul] at tl
    simp (disch := first | assumption | (apply Ap.symm; assumption) | omega | decide | (simp only [U_len, List.length_append, List.length_replicate, List.length_cons, List.length_nil, List.length_set] <;> omega) | fail) only [ac99, ↓Xa, Xb, Xc, ↓reduceIte, Nat.reduceLT, Nat.reduceEqDiff, Nat.reduceBEq, Nat.reduceLeDiff, Nat.reduceAdd, Nat.reduceMul]
    exact tl
  | false =>
    have tl := tail 0 (by omega) rfl _ (.inr rfl)
    simp (disch := first | assumption | (apply Ap.symm; assumption) | omega | decide | (simp only [U_len, List.length_append, List.length_replicate, List.length_cons, List.length_nil, List.length_set] <;> omega) | fail) only [sndC, ac99, ↓Xa, Xb, Xc, ↓reduceIte, Nat.reduceLT, Nat.reduceEqDiff, Nat.reduceBEq, Nat.reduceLeDiff, Nat.reduceAdd, Nat.reduceMul] at tl
    simp (disch := first | assumption | (apply Ap.symm; assumption) | omega | decide | (simp only [U_len, List.length_append, List.length_replicate, List.length_cons, List.length_nil, List.length_set] <;> omega) | fail) only [ac99, ↓Xa, Xb, Xc, ↓reduceIte, Nat.reduceLT, Nat.reduceEqDiff, Nat.reduceBEq, Nat.reduceLeDiff, Nat.reduceAdd, Nat.reduceMul]
    exact tl
/-- The remainder's next bit. -/
theorem div_bit {m n s : Nat} (h : 0 < n) : 2 * ((m / 2 ^ (s + 1)) % n) + (if m / 2 ^ s % 2 = 1 then 1 else 0) < 2 * n ∧
    2 * (m / 2 ^ (s + 1) / n) * n + (2 * ((m / 2 ^ (s + 1)) % n) + (if m / 2 ^ s % 2 = 1 then 1 else 0)) = m / 2 ^ s := by
  have e : m / 2 ^ (s + 1) = m / 2 ^ s / 2 := by rw [Nat.pow_succ, Nat.div_div_eq_div_mul]
  rw [e]
  generalize m / 2 ^ s = x
  have h1 := Nat.mod_lt (x / 2) h
  have h2 := Nat.div_add_mod (x / 2) n
  have h3 : (if x % 2 = 1 then 1 else 0) = x % 2 := by split <;> omega
  rw [h3]
  refine ⟨by omega, ?_⟩
  have e2 : 2 * (x / 2 / n) * n = 2 * (n * (x / 2 / n)) := by rw [Nat.mul_assoc, Nat.mul_comm (x / 2 / n) n]
  rw [e2]; omega
theorem div_res {x n q r : Nat} (h : q * n + r = x) (hr : r < n) : x / n = q ∧ x % n = r := by
  have hn : 0 < n := by omega
  subst h
  rw [Nat.mul_comm q n, Nat.mul_add_div hn, Nat.div_eq_of_lt hr, Nat.mul_add_mod, Nat.mod_eq_of_lt hr]; simp
theorem ldivmod_n {a b : List Nat} {m n k k' : Nat} (ta tb : Bool) (ha : Nm a m k) (hb : Nm b n k') (hk : k ≤ 1000000) (hk' : k' ≤ 1000000) (h0 : 0 < n) :
    PFn Tryd.prog 52 [LS a ta, LS b tb] (.tup [LS (Ma.digs 4294967296 (m / n)) false, LS (Ma.digs 4294967296 (m % n)) false]) := by
  intro H Q hq
  have hbm : blen m ≤ 32 * k := blen_le.2 (by
    have := ha.lt
    rwa [show (4294967296 : Nat) = 2 ^ 32 from rfl, ← Nat.pow_mul] at this)
  refine enter52 (by simp) ?_
  simp (disch := first | assumption | (apply Ap.symm; assumption) | omega | decide | (simp only [U_len, List.length_append, List.length_replicate, List.length_cons, List.length_nil, List.length_set] <;> omega) | fail) only [ac52, ↓Xa, Xb, Xc, ↓reduceIte, Nat.reduceLT, Nat.reduceEqDiff, Nat.reduceBEq, Nat.reduceLeDiff, Nat.reduceAdd, Nat.reduceMul]
  refine (lnorm_n tb hb hk').call ?_
  simp (disch := first | assumption | (apply Ap.symm; assumption) | omega | decide | (simp only [U_len, List.length_append, List.length_replicate, List.length_cons, List.length_nil, List.length_set] <;> omega) | fail) only [↓Xa, Xb, Xc, ↓reduceIte, Nat.reduceLT, Nat.reduceEqDiff, Nat.reduceBEq, Nat.reduceLeDiff, Nat.reduceAdd, Nat.reduceMul]
  refine (lbits_n ta ha hk).call ?_
  simp (disch := first | assumption | (apply Ap.symm; assumption) | omega | decide | (simp only [U_len, List.length_append, List.length_replicate, List.length_cons, List.length_nil, List.length_set] <;> omega) | fail) only [↓Xa, Xb, Xc, ↓reduceIte, Nat.reduceLT, Nat.reduceEqDiff, Nat.reduceBEq, Nat.reduceLeDiff, Nat.reduceAdd, Nat.reduceMul]
  have nb := Nm.digs hb.lt
  refine W_loop (fun s : Nat × List Nat × Bool × List Nat × Bool => ⟨[], [(0, LS a ta), (1, LS (Ma.digs 4294967296 n) false), (6, LS s.2.1 s.2.2.1), (7, LS s.2.2.2.1 s.2.2.2.2), (8, .int .i64 (dn s.1))], H⟩)
    (fun s => s.1 ≤ blen m ∧ (Lim 4294967296 s.2.1 ∧ val 4294967296 s.2.1 = m / 2 ^ s.1 / n ∧ s.2.1.length ≤ blen m - s.1) ∧ (Lim 4294967296 s.2.2.2.1 ∧ val 4294967296 s.2.2.2.1 = m / 2 ^ s.1 % n ∧ s.2.2.2.1.length ≤ blen m - s.1 + 1000001)) (fun s => s.1) (blen m, [], true, [], true) (Settle.now rfl) ?_ ?_
  · have e : m / 2 ^ blen m = 0 := Nat.div_eq_of_lt (blen_le.1 (Nat.le_refl _))
    dsimp only
    rw [e]
    exact ⟨Nat.le_refl _, ⟨Lim.nil _, by simp [val], by simp⟩, Lim.nil _, by simp [val], by simp⟩
  rintro ⟨s, ql, tq, rl, tr⟩ ⟨hs, ⟨q1, q2, q3⟩, r1, r2, r3⟩
  dsimp only at hs q1 q2 q3 r1 r2 r3 ⊢
  cases s with
  | zero =>
    rw [Nat.pow_zero, Nat.div_one] at q2 r2
    simp (disch := first | assumption | (apply Ap.symm; assumption) | omega | decide | (simp only [U_len, List.length_append, List.length_replicate, List.length_cons, List.length_nil, List.length_set] <;> omega) | fail) only [↓Xa, Xb, Xc, ↓reduceIte, Nat.reduceLT, Nat.reduceEqDiff, Nat.reduceBEq, Nat.reduceLeDiff, Nat.reduceAdd, Nat.reduceMul]
    refine Settle.now ?_
    simp (disch := first | assumption | (apply Ap.symm; assumption) | omega | decide | (simp only [U_len, List.length_append, List.length_replicate, List.length_cons, List.length_nil, List.length_set] <;> omega) | fail) only [↓Xa, Xb, Xc, ↓reduceIte, Nat.reduceLT, Nat.reduceEqDiff, Nat.reduceBEq, Nat.reduceLeDiff, Nat.reduceAdd, Nat.reduceMul]
    refine (lnorm_fn tq (by omega)).call ?_
    rw [tr_digs (by omega) q1, q2]
    simp (disch := first | assumption | (apply Ap.symm; assumption) | omega | decide | (simp only [U_len, List.length_append, List.length_replicate, List.length_cons, List.length_nil, List.length_set] <;> omega) | fail) only [↓Xa, Xb, Xc, ↓reduceIte, Nat.reduceLT, Nat.reduceEqDiff, Nat.reduceBEq, Nat.reduceLeDiff, Nat.reduceAdd, Nat.reduceMul]
    refine (lnorm_fn tr (by omega)).call ?_
    rw [tr_digs (by omega) r1, r2]
    simp (disch := first | assumption | (apply Ap.symm; assumption) | omega | decide | (simp only [U_len, List.length_append, List.length_replicate, List.length_cons, List.length_nil, List.length_set] <;> omega) | fail) only [rs52, ↓Xa, Xb, Xc, ↓reduceIte, Nat.reduceLT, Nat.reduceEqDiff, Nat.reduceBEq, Nat.reduceLeDiff, Nat.reduceAdd, Nat.reduceMul]
    exact SetR.now hq
  | succ s =>
    obtain ⟨d1, d2⟩ := div_bit (m := m) (s := s) h0
    simp (disch := first | assumption | (apply Ap.symm; assumption) | omega | decide | (simp only [U_len, List.length_append, List.length_replicate, List.length_cons, List.length_nil, List.length_set] <;> omega) | fail) only [↓Xa, Xb, Xc, ↓reduceIte, Nat.reduceLT, Nat.reduceEqDiff, Nat.reduceBEq, Nat.reduceLeDiff, Nat.reduceAdd, Nat.reduceMul]
    refine (rlbit_fn ta ha.lim (by have := ha.len; omega) (by omega)).call ?_
    rw [ha.val]
    simp (disch := first | assumption | (apply Ap.symm; assumption) | omega | decide | (simp only [U_len, List.length_append, List.length_replicate, List.length_cons, List.length_nil, List.length_set] <;> omega) | fail) only [↓Xa, Xb, Xc, ↓reduceIte, Nat.reduceLT, Nat.reduceEqDiff, Nat.reduceBEq, Nat.reduceLeDiff, Nat.reduceAdd, Nat.reduceMul]
    refine run_call (double_run tr r1 (by omega) fun y y1 y2 y3 => ?_)
    have hif : (if decide (m / 2 ^ s % 2 = 1) = true then 1 else 0) = (if m / 2 ^ s % 2 = 1 then 1 else 0) := by simp
    rw [r2, hif] at y2
    rw [← y2] at d1 d2
    simp (disch := first | assumption | (apply Ap.symm; assumption) | omega | decide | (simp only [U_len, List.length_append, List.length_replicate, List.length_cons, List.length_nil, List.length_set] <;> omega) | fail) only [↓Xa, Xb, Xc, ↓reduceIte, Nat.reduceLT, Nat.reduceEqDiff, Nat.reduceBEq, Nat.reduceLeDiff, Nat.reduceAdd, Nat.reduceMul]
    refine (lcmp_fn false false y1 nb.lim (by omega) (by have := nb.len; omega)).call ?_
    rw [nb.val]
    by_cases hge : n ≤ val 4294967296 y
    · obtain ⟨e1, e2⟩ := div_res (x := m / 2 ^ s) (n := n) (q := 2 * (m / 2 ^ (s + 1) / n) + 1) (r := val 4294967296 y - n) (by rw [Nat.add_mul]; omega) (by omega)
      simp (disch := first | assumption | (apply Ap.symm; assumption) | omega | decide | (simp only [U_len, List.length_append, List.length_replicate, List.length_cons, List.length_nil, List.length_set] <;> omega) | fail) only [cmpZ_geq, hge, ↓Xa, Xb, Xc, ↓reduceIte, Nat.reduceLT, Nat.reduceEqDiff, Nat.reduceBEq, Nat.reduceLeDiff, Nat.reduceAdd, Nat.reduceMul]
      refine (lsub_fn false false y1 nb.lim (by omega) (by have := nb.len; omega) (by rw [nb.val]; exact hge)).call ?_
      rw [nb.val]
      simp (disch := first | assumption | (apply Ap.symm; assumption) | omega | decide | (simp only [U_len, List.length_append, List.length_replicate, List.length_cons, List.length_nil, List.length_set] <;> omega) | fail) only [↓Xa, Xb, Xc, ↓reduceIte, Nat.reduceLT, Nat.reduceEqDiff, Nat.reduceBEq, Nat.reduceLeDiff, Nat.reduceAdd, Nat.reduceMul]
      refine run_call (double_run tq q1 (by omega) fun z z1 z2 z3 => ?_)
      simp (disch := first | assumption | (apply Ap.symm; assumption) | omega | decide | (simp only [U_len, List.length_append, List.length_replicate, List.length_cons, List.length_nil, List.length_set] <;> omega) | fail) only [↓Xa, Xb, Xc, ↓reduceIte, Nat.reduceLT, Nat.reduceEqDiff, Nat.reduceBEq, Nat.reduceLeDiff, Nat.reduceAdd, Nat.reduceMul]
      have nr := Nm.digs (n := val 4294967296 y - n) (k := k') (Nat.lt_of_lt_of_le (show val 4294967296 y - n < n by omega) (Nat.le_of_lt hb.lt))
      refine Settle.now ⟨(s, z, false, Ma.digs 4294967296 (val 4294967296 y - n), false), Nat.lt_succ_self s, ⟨by dsimp only; omega, ⟨z1, by dsimp only; rw [z2, q2, e1]; simp, by dsimp only; omega⟩, nr.lim, by dsimp only; rw [nr.val, e2], by dsimp only; have := nr.len; omega⟩, rfl⟩
    · obtain ⟨e1, e2⟩ := div_res (x := m / 2 ^ s) (n := n) (q := 2 * (m / 2 ^ (s + 1) / n)) (r := val 4294967296 y) (by omega) (by omega)
      simp (disch := first | assumption | (apply Ap.symm; assumption) | omega | decide | (simp only [U_len, List.length_append, List.length_replicate, List.length_cons, List.length_nil, List.length_set] <;> omega) | fail) only [cmpZ_geq, hge, ↓Xa, Xb, Xc, ↓reduceIte, Nat.reduceLT, Nat.reduceEqDiff, Nat.reduceBEq, Nat.reduceLeDiff, Nat.reduceAdd, Nat.reduceMul]
      refine run_call (double_run tq q1 (by omega) fun z z1 z2 z3 => ?_)
      simp (disch := first | assumption | (apply Ap.symm; assumption) | omega | decide | (simp only [U_len, List.length_append, List.length_replicate, List.length_cons, List.length_nil, List.length_set] <;> omega) | fail) only [↓Xa, Xb, Xc, ↓reduceIte, Nat.reduceLT, Nat.reduceEqDiff, Nat.reduceBEq, Nat.reduceLeDiff, Nat.reduceAdd, Nat.reduceMul]
      refine Settle.now ⟨(s, z, false, y, false), Nat.lt_succ_self s, ⟨by dsimp only; omega, ⟨z1, by dsimp only; rw [z2, q2, e1]; simp, by dsimp only; omega⟩, y1, by dsimp only; rw [e2], by dsimp only; omega⟩, rfl⟩
end Go.Proofs.YtipbcjnniamcgaaDoor.Fw

/- The greatest common divisor of limbs. -/
namespace Go.Proofs.YtipbcjnniamcgaaDoor.Fw
set_option linter.unusedSimpArgs false
set_option linter.unusedVariables false
open Go Go.Proofs.YtipbcjnniamcgaaDoor.Ma
set_option maxRecDepth 20000

end Go.Proofs.YtipbcjnniamcgaaDoor.Fw

/- The looked-up code of one function, and that it is: by a program (wip/tools/ac.py); Lean checks it. -/
namespace Go.Proofs.YtipbcjnniamcgaaDoor.Fw
open Go
set_option maxRecDepth 100000
def ac10 : ACode := (.seq (.reg [⟨(some 6), none, (.mov (.k (.bool false)))⟩] [0, 1, 2]) (.seq (.seq (.reg [⟨(some 19), none, (.call (.k (.fn (.func 33) [] [])) [])⟩, ⟨(some 20), none, (.un .not (.t 19))⟩] [0, 1, 2, 20]) (.cond (.t 20) (.seq (.reg [⟨(some 6), none, (.mov (.k (.bool false)))⟩] [6]) .ret) .skip)) (.seq (.seq (.reg [⟨(some 21), none, (.mov (.t 0))⟩, ⟨(some 22), none, (.mov (.t 1))⟩, ⟨(some 23), none, (.bsl [(.seq 0 [] true)] 2 1 [(0, (1, (.t 21))), (1, (1, (.t 22)))])⟩, ⟨(some 24), none, (.call (.k (.fn (.func 51) [] [])) [(.t 23)])⟩] [0, 1, 2, 24]) (.cond (.t 24) (.seq (.reg [⟨(some 6), none, (.mov (.k (.bool true)))⟩] [6]) .ret) .skip)) (.seq (.reg [⟨(some 25), none, (.mov (.t 0))⟩, ⟨(some 26), none, (.call (.k (.fn (.func 47) [] [])) [(.t 25)])⟩, ⟨(some 27), none, (.mov (.t 1))⟩, ⟨(some 28), none, (.call (.k (.fn (.func 47) [] [])) [(.t 27)])⟩, ⟨(some 7), none, (.mov (.t 26))⟩, ⟨(some 8), none, (.mov (.t 28))⟩] [0, 1, 2, 7, 8]) (.seq (.reg [⟨(some 30), none, (.mov (.t 7))⟩, ⟨(some 31), none, (.mov (.t 8))⟩, ⟨(some 32), none, (.call (.k (.fn (.func 34) [] [])) [(.t 30), (.t 31)])⟩, ⟨(some 29), none, (.mov (.t 32))⟩, ⟨(some 33), none, (.ext (.t 29) 0)⟩, ⟨(some 34), none, (.ext (.t 29) 1)⟩, ⟨(some 35), none, (.ext (.t 29) 2)⟩, ⟨(some 9), none, (.mov (.t 33))⟩, ⟨(some 10), none, (.mov (.t 34))⟩, ⟨(some 11), none, (.mov (.t 35))⟩] [0, 1, 2, 7, 8, 9, 10, 11]) (.seq (.reg [⟨(some 37), none, (.mov (.t 7))⟩, ⟨(some 38), none, (.mov (.t 2))⟩, ⟨(some 39), none, (.call (.k (.fn (.func 40) [] [])) [(.t 37), (.t 38)])⟩, ⟨(some 36), none, (.mov (.t 39))⟩, ⟨(some 40), none, (.ext (.t 36) 0)⟩, ⟨(some 41), none, (.ext (.t 36) 1)⟩, ⟨(some 42), none, (.ext (.t 36) 2)⟩, ⟨(some 12), none, (.mov (.t 40))⟩, ⟨(some 13), none, (.mov (.t 41))⟩, ⟨(some 14), none, (.mov (.t 42))⟩] [0, 1, 2, 7, 8, 9, 10, 11, 12, 13, 14]) (.seq (.seq (.reg [⟨(some 43), none, (.mov (.t 7))⟩, ⟨(some 44), none, (.mov (.t 0))⟩, ⟨(some 45), none, (.call (.k (.fn (.func 49) [] [])) [(.t 43), (.t 44)])⟩, ⟨(some 46), none, (.un .not (.t 45))⟩, ⟨(some 47), none, (.mov (.t 46))⟩, ⟨(some 48), (some (47, false)), (.mov (.t 8))⟩, ⟨(some 49), (some (47, false)), (.mov (.t 1))⟩, ⟨(some 50), (some (47, false)), (.call (.k (.fn (.func 49) [] [])) [(.t 48), (.t 49)])⟩, ⟨(some 51), (some (47, false)), (.un .not (.t 50))⟩, ⟨(some 52), none, (.pick (.t 47) (.k (.bool true)) (.t 51))⟩] [0, 1, 2, 9, 10, 11, 12, 13, 14, 52]) (.cond (.t 52) (.seq (.reg [⟨(some 6), none, (.mov (.k (.bool false)))⟩] [6]) .ret) .skip)) (.seq (.seq (.reg [⟨(some 53), none, (.mov (.t 2))⟩, ⟨(some 54), none, (.bin .eql (.t 53) (.k (.int .u32 ((0 : Nat) : Int))))⟩] [0, 1, 2, 9, 10, 11, 12, 13, 14, 54]) (.cond (.t 54) (.seq (.reg [⟨(some 55), none, (.mov (.t 12))⟩, ⟨(some 56), none, (.len false (.t 55))⟩, ⟨(some 57), none, (.bin .neq (.t 56) (.k (.int .i64 ((0 : Nat) : Int))))⟩, ⟨(some 58), none, (.mov (.t 57))⟩, ⟨(some 59), (some (58, false)), (.mov (.t 13))⟩, ⟨(some 60), (some (58, false)), (.bin .neq (.t 59) (.k (.int .u32 ((0 : Nat) : Int))))⟩, ⟨(some 61), none, (.pick (.t 58) (.k (.bool true)) (.t 60))⟩, ⟨(some 62), none, (.mov (.t 61))⟩, ⟨(some 63), (some (62, false)), (.mov (.t 14))⟩, ⟨(some 64), (some (62, false)), (.bin .neq (.t 63) (.k (.int .i64 ((2 : Nat) : Int))))⟩, ⟨(some 65), none, (.pick (.t 62) (.k (.bool true)) (.t 64))⟩] [0, 1, 9, 10, 11, 65]) (.cond (.t 65) (.seq (.reg [⟨(some 6), none, (.mov (.k (.bool false)))⟩] [6]) .ret) .skip)) (.seq (.reg [⟨(some 67), none, (.mov (.t 0))⟩, ⟨(some 68), none, (.mov (.t 2))⟩, ⟨(some 69), none, (.bsl [(.int .u32 ((0 : Nat) : Int))] 1 1 [(0, (1, (.t 68)))])⟩, ⟨(some 70), none, (.call (.k (.fn (.func 52) [] [])) [(.t 67), (.t 69)])⟩, ⟨(some 66), none, (.mov (.t 70))⟩, ⟨(some 71), none, (.ext (.t 66) 0)⟩, ⟨(some 72), none, (.ext (.t 66) 1)⟩, ⟨(some 15), none, (.mov (.t 71))⟩, ⟨(some 16), none, (.mov (.t 72))⟩] [0, 1, 9, 10, 11, 12, 13, 14, 15, 16]) (.seq (.reg [⟨(some 73), none, (.mov (.t 12))⟩, ⟨(some 74), none, (.mov (.t 15))⟩, ⟨(some 75), none, (.call (.k (.fn (.func 37) [] [])) [(.t 73), (.t 74)])⟩, ⟨(some 76), none, (.un .not (.t 75))⟩, ⟨(some 77), none, (.mov (.t 76))⟩, ⟨(some 78), (some (77, false)), (.mov (.t 14))⟩, ⟨(some 79), (some (77, false)), (.bin .neq (.t 78) (.k (.int .i64 ((0 : Nat) : Int))))⟩, ⟨(some 80), none, (.pick (.t 77) (.k (.bool true)) (.t 79))⟩, ⟨(some 81), none, (.mov (.t 80))⟩, ⟨(some 82), (some (81, false)), (.mov (.t 13))⟩, ⟨(some 83), (some (81, false)), (.bsl [(.int .u32 ((0 : Nat) : Int))] 1 1 [(0, (1, (.t 82)))])⟩, ⟨(some 84), (some (81, false)), (.call (.k (.fn (.func 53) [] [])) [(.t 83)])⟩, ⟨(some 85), (some (81, false)), (.mov (.t 16))⟩, ⟨(some 86), (some (81, false)), (.call (.k (.fn (.func 37) [] [])) [(.t 84), (.t 85)])⟩, ⟨(some 87), (some (81, false)), (.un .not (.t 86))⟩, ⟨(some 88), none, (.pick (.t 81) (.k (.bool true)) (.t 87))⟩] [0, 1, 9, 10, 11, 88]) (.cond (.t 88) (.seq (.reg [⟨(some 6), none, (.mov (.k (.bool false)))⟩] [6]) .ret) .skip))))) (.seq (.seq (.reg [⟨(some 89), none, (.mov (.t 1))⟩, ⟨(some 90), none, (.call (.k (.fn (.func 53) [] [])) [(.t 89)])⟩, ⟨(some 91), none, (.len false (.t 90))⟩, ⟨(some 92), none, (.bin .eql (.t 91) (.k (.int .i64 ((0 : Nat) : Int))))⟩] [0, 1, 9, 10, 11, 92]) (.cond (.t 92) (.seq (.reg [⟨(some 93), none, (.mov (.t 9))⟩, ⟨(some 94), none, (.len false (.t 93))⟩, ⟨(some 95), none, (.bin .eql (.t 94) (.k (.int .i64 ((0 : Nat) : Int))))⟩, ⟨(some 96), none, (.mov (.t 95))⟩, ⟨(some 97), (some (96, true)), (.mov (.t 10))⟩, ⟨(some 98), (some (96, true)), (.len false (.t 97))⟩, ⟨(some 99), (some (96, true)), (.bin .eql (.t 98) (.k (.int .i64 ((0 : Nat) : Int))))⟩, ⟨(some 100), none, (.pick (.t 96) (.t 99) (.k (.bool false)))⟩, ⟨(some 101), none, (.mov (.t 100))⟩, ⟨(some 102), (some (101, true)), (.mov (.t 11))⟩, ⟨(some 103), (some (101, true)), (.bin .eql (.t 102) (.k (.int .i64 ((2 : Nat) : Int))))⟩, ⟨(some 104), none, (.pick (.t 101) (.t 103) (.k (.bool false)))⟩, ⟨(some 6), none, (.mov (.t 104))⟩] [6]) .ret) .skip)) (.seq (.reg [⟨(some 106), none, (.mov (.t 0))⟩, ⟨(some 107), none, (.mov (.t 1))⟩, ⟨(some 108), none, (.call (.k (.fn (.func 52) [] [])) [(.t 106), (.t 107)])⟩, ⟨(some 105), none, (.mov (.t 108))⟩, ⟨(some 109), none, (.ext (.t 105) 0)⟩, ⟨(some 110), none, (.ext (.t 105) 1)⟩, ⟨(some 17), none, (.mov (.t 109))⟩, ⟨(some 18), none, (.mov (.t 110))⟩] [9, 10, 11, 17, 18]) (.seq (.reg [⟨(some 111), none, (.mov (.t 9))⟩, ⟨(some 112), none, (.mov (.t 17))⟩, ⟨(some 113), none, (.call (.k (.fn (.func 37) [] [])) [(.t 111), (.t 112)])⟩, ⟨(some 114), none, (.mov (.t 113))⟩, ⟨(some 115), (some (114, true)), (.mov (.t 10))⟩, ⟨(some 116), (some (114, true)), (.mov (.t 18))⟩, ⟨(some 117), (some (114, true)), (.call (.k (.fn (.func 37) [] [])) [(.t 115), (.t 116)])⟩, ⟨(some 118), none, (.pick (.t 114) (.t 117) (.k (.bool false)))⟩, ⟨(some 119), none, (.mov (.t 118))⟩, ⟨(some 120), (some (119, true)), (.mov (.t 11))⟩, ⟨(some 121), (some (119, true)), (.bin .eql (.t 120) (.k (.int .i64 ((0 : Nat) : Int))))⟩, ⟨(some 122), none, (.pick (.t 119) (.t 121) (.k (.bool false)))⟩, ⟨(some 6), none, (.mov (.t 122))⟩] [6]) .ret)))))))))))
def rs10 : List RV := [(.t 6)]
theorem co10 : compFn Go.Proofs.Tryd.prog Go.Proofs.Tryd.f10 pl10 = some (ac10, rs10) := by kernel_rfl
theorem enter10 {args : List AV} {H : AHeap} {Q : AV → AHeap → Prop} (hn : args.length ≤ 123) (h : W Go.Proofs.Tryd.prog ac10 (retN rs10 Q) ⟨[], initE args 0, H⟩) : Run Go.Proofs.Tryd.prog 10 args H Q := Run_fn2 mixed Go.Proofs.Tryd.func10 (by kernel_rfl) co10 (n := 123) (by kernel_rfl) hn h
end Go.Proofs.YtipbcjnniamcgaaDoor.Fw

/- The looked-up code of one function, and that it is: by a program (wip/tools/ac.py); Lean checks it. -/
namespace Go.Proofs.YtipbcjnniamcgaaDoor.Fw
open Go
set_option maxRecDepth 100000
end Go.Proofs.YtipbcjnniamcgaaDoor.Fw

/- The reference for limbs: common divisors, shifts. The laws of limbs divided, of common divisors. -/
namespace Go.Proofs.YtipbcjnniamcgaaDoor.Fw
set_option linter.unusedSimpArgs false
set_option linter.unusedVariables false
open Go Go.Proofs.YtipbcjnniamcgaaDoor.Ma
set_option maxRecDepth 20000

theorem divs0_fn {a : List Nat} (t : Bool) : PFn Tryd.prog 40 [LS a t, .int .u32 ((0 : Nat) : Int)] (.tup [LS [] true, .int .u32 ((0 : Nat) : Int), .int .i64 ((2 : Nat) : Int)]) := by
  intro H Q hq
  refine enter40 (by simp) ?_
  simp (disch := first | assumption | (apply Ap.symm; assumption) | omega | decide | (simp only [U_len, List.length_append, List.length_replicate, List.length_cons, List.length_nil, List.length_set] <;> omega) | fail) only [ac40, rs40, ↓Xa, Xb, Xc, ↓reduceIte, Nat.reduceLT, Nat.reduceEqDiff, Nat.reduceBEq, Nat.reduceLeDiff, Nat.reduceAdd, Nat.reduceMul]
  exact SetR.now hq
theorem limbDivides_law (a b : List Nat) (c : Int) (ha : Lim 4294967296 a) (hb : Lim 4294967296 b) (la : a.length < 9223372036854775808) (lb : b.length < 9223372036854775808) (hc : 0 ≤ c ∧ c < 4294967296) :
    PFn Tryd.prog 10 [LS a false, LS b false, .int .u32 c] (.bool true) := by
  intro H Q hq
  obtain ⟨c, rfl⟩ : ∃ n : Nat, c = (n : Int) := ⟨c.toNat, by omega⟩
  have hc32 : c < 4294967296 := by omega
  refine enter10 (by simp) ?_
  simp (disch := first | assumption | (apply Ap.symm; assumption) | omega | decide | (simp only [U_len, List.length_append, List.length_replicate, List.length_cons, List.length_nil, List.length_set] <;> omega) | fail) only [ac10, ↓Xa, Xb, Xc, ↓reduceIte, Nat.reduceLT, Nat.reduceEqDiff, Nat.reduceBEq, Nat.reduceLeDiff, Nat.reduceAdd, Nat.reduceMul]
  refine works_fn.call ?_
  simp (disch := first | assumption | (apply Ap.symm; assumption) | omega | decide | (simp only [U_len, List.length_append, List.length_replicate, List.length_cons, List.length_nil, List.length_set] <;> omega) | fail) only [rep2, ↓Xa, Xb, Xc, ↓reduceIte, Nat.reduceLT, Nat.reduceEqDiff, Nat.reduceBEq, Nat.reduceLeDiff, Nat.reduceAdd, Nat.reduceMul]
  refine (llong_fn [(a, false), (b, false)] true (by simp) (by simp [la, lb])).call ?_
  by_cases hl : 160 < a.length ∨ 160 < b.length
  · have e : lngA [(a, false), (b, false)] = true := by rw [lng2]; simpa using hl
    rw [e]
    simp (disch := first | assumption | (apply Ap.symm; assumption) | omega | decide | (simp only [U_len, List.length_append, List.length_replicate, List.length_cons, List.length_nil, List.length_set] <;> omega) | fail) only [rs10, ↓Xa, Xb, Xc, ↓reduceIte, Nat.reduceLT, Nat.reduceEqDiff, Nat.reduceBEq, Nat.reduceLeDiff, Nat.reduceAdd, Nat.reduceMul]
    exact SetR.now hq
  have e : lngA [(a, false), (b, false)] = false := by
    rw [lng2, decide_eq_false (by omega), decide_eq_false (by omega)]; rfl
  rw [e]
  clear e
  have na := Nm.raw (k := 160) ha (by omega)
  have nb := Nm.raw (k := 160) hb (by omega)
  have n0 := nb
  generalize Ma.val 4294967296 a = A at na
  obtain ⟨B, hB⟩ : ∃ B, B = Ma.val 4294967296 b := ⟨_, rfl⟩
  rw [← hB] at nb
  simp (disch := first | assumption | (apply Ap.symm; assumption) | omega | decide | (simp only [U_len, List.length_append, List.length_replicate, List.length_cons, List.length_nil, List.length_set] <;> omega) | fail) only [↓Xa, Xb, Xc, ↓reduceIte, Nat.reduceLT, Nat.reduceEqDiff, Nat.reduceBEq, Nat.reduceLeDiff, Nat.reduceAdd, Nat.reduceMul]
  refine (room_fn false (by omega)).call ?_
  simp (disch := first | assumption | (apply Ap.symm; assumption) | omega | decide | (simp only [U_len, List.length_append, List.length_replicate, List.length_cons, List.length_nil, List.length_set] <;> omega) | fail) only [↓Xa, Xb, Xc, ↓reduceIte, Nat.reduceLT, Nat.reduceEqDiff, Nat.reduceBEq, Nat.reduceLeDiff, Nat.reduceAdd, Nat.reduceMul]
  refine (room_fn false (by omega)).call ?_
  simp (disch := first | assumption | (apply Ap.symm; assumption) | omega | decide | (simp only [U_len, List.length_append, List.length_replicate, List.length_cons, List.length_nil, List.length_set] <;> omega) | fail) only [↓Xa, Xb, Xc, ↓reduceIte, Nat.reduceLT, Nat.reduceEqDiff, Nat.reduceBEq, Nat.reduceLeDiff, Nat.reduceAdd, Nat.reduceMul]
  obtain ⟨q, r, e, hD, C⟩ : ∃ (q r : List Nat) (e : Nat), PFn Tryd.prog 34 [Xr a, Xr b] (.tup [LS q true, LS r true, .int .i64 (e : Int)]) ∧ ((B = 0 ∧ q = [] ∧ r = [] ∧ e = 2) ∨ (0 < B ∧ q = Ma.digs 4294967296 (A / B) ∧ r = Ma.digs 4294967296 (A % B) ∧ e = 0)) := by
    rcases Nat.eq_zero_or_pos B with h | h
    · have h := divmod0_fn (a := a) false false hb (by omega)
      rw [digs_zero] at h
      exact ⟨_, _, _, PFn.xx h, .inl ⟨‹_›, rfl, rfl, rfl⟩⟩
    · exact ⟨_, _, _, PFn.xx (div_n false false na nb (by omega) (by omega) h), .inr ⟨h, rfl, rfl, rfl⟩⟩
  refine hD.call ?_
  simp (disch := first | assumption | (apply Ap.symm; assumption) | omega | decide | (simp only [U_len, List.length_append, List.length_replicate, List.length_cons, List.length_nil, List.length_set] <;> omega) | fail) only [↓Xa, Xb, Xc, ↓reduceIte, Nat.reduceLT, Nat.reduceEqDiff, Nat.reduceBEq, Nat.reduceLeDiff, Nat.reduceAdd, Nat.reduceMul]
  obtain ⟨k, rest, f, hS, C2⟩ : ∃ (k : List Nat) (rest f : Nat), PFn Tryd.prog 40 [Xr a, .int .u32 (c : Int)] (.tup [LS k true, .int .u32 (rest : Int), .int .i64 (f : Int)]) ∧ ((c = 0 ∧ k = [] ∧ rest = 0 ∧ f = 2) ∨ (0 < c ∧ k = Ma.digs 4294967296 (A / c) ∧ rest = A % c ∧ f = 0)) := by
    rcases Nat.eq_zero_or_pos c with h | h
    · subst h
      exact ⟨_, _, _, PFn.x1 (divs0_fn false), .inl ⟨rfl, rfl, rfl, rfl⟩⟩
    · exact ⟨_, _, _, PFn.x1 (divs_n false na (by omega) h hc32), .inr ⟨h, rfl, rfl, rfl⟩⟩
  refine hS.call ?_
  simp (disch := first | assumption | (apply Ap.symm; assumption) | omega | decide | (simp only [U_len, List.length_append, List.length_replicate, List.length_cons, List.length_nil, List.length_set] <;> omega) | fail) only [↓Xa, Xb, Xc, ↓reduceIte, Nat.reduceLT, Nat.reduceEqDiff, Nat.reduceBEq, Nat.reduceLeDiff, Nat.reduceAdd, Nat.reduceMul]
  refine (kept_fn false (by omega)).call ?_
  simp (disch := first | assumption | (apply Ap.symm; assumption) | omega | decide | (simp only [U_len, List.length_append, List.length_replicate, List.length_cons, List.length_nil, List.length_set] <;> omega) | fail) only [↓Xa, Xb, Xc, ↓reduceIte, Nat.reduceLT, Nat.reduceEqDiff, Nat.reduceBEq, Nat.reduceLeDiff, Nat.reduceAdd, Nat.reduceMul]
  refine (kept_fn false (by omega)).call ?_
  rcases C2 with ⟨h0, rfl, rfl, rfl⟩ | ⟨h0, rfl, rfl, rfl⟩
  · subst h0
    simp (disch := first | assumption | (apply Ap.symm; assumption) | omega | decide | (simp only [U_len, List.length_append, List.length_replicate, List.length_cons, List.length_nil, List.length_set] <;> omega) | fail) only [List.length_nil, ↓Xa, Xb, Xc, ↓reduceIte, Nat.reduceLT, Nat.reduceEqDiff, Nat.reduceBEq, Nat.reduceLeDiff, Nat.reduceAdd, Nat.reduceMul]
    refine (lnorm_n false nb (by omega)).call ?_
    rcases C with ⟨hb0, rfl, rfl, rfl⟩ | ⟨hb0, rfl, rfl, rfl⟩
    · rw [hb0, digs_zero]
      simp (disch := first | assumption | (apply Ap.symm; assumption) | omega | decide | (simp only [U_len, List.length_append, List.length_replicate, List.length_cons, List.length_nil, List.length_set] <;> omega) | fail) only [List.length_nil, rs10, ↓Xa, Xb, Xc, ↓reduceIte, Nat.reduceLT, Nat.reduceEqDiff, Nat.reduceBEq, Nat.reduceLeDiff, Nat.reduceAdd, Nat.reduceMul]
      exact SetR.now hq
    · have hyl := (Nm.digs nb.lt).len
      have hlp : ¬ (Ma.digs 4294967296 B).length = 0 := by rw [digs_pos (by omega) hb0]; simp
      simp (disch := first | assumption | (apply Ap.symm; assumption) | omega | decide | (simp only [U_len, List.length_append, List.length_replicate, List.length_cons, List.length_nil, List.length_set] <;> omega) | fail) only [hlp, ↓Xa, Xb, Xc, ↓reduceIte, Nat.reduceLT, Nat.reduceEqDiff, Nat.reduceBEq, Nat.reduceLeDiff, Nat.reduceAdd, Nat.reduceMul]
      refine (ldivmod_n false false na nb (by omega) (by omega) hb0).call ?_
      simp (disch := first | assumption | (apply Ap.symm; assumption) | omega | decide | (simp only [U_len, List.length_append, List.length_replicate, List.length_cons, List.length_nil, List.length_set] <;> omega) | fail) only [↓Xa, Xb, Xc, ↓reduceIte, Nat.reduceLT, Nat.reduceEqDiff, Nat.reduceBEq, Nat.reduceLeDiff, Nat.reduceAdd, Nat.reduceMul]
      refine (eq_same (k := 160) true false rfl (Nat.lt_of_le_of_lt (Nat.div_le_self _ _) na.lt) (by omega)).call ?_
      simp (disch := first | assumption | (apply Ap.symm; assumption) | omega | decide | (simp only [U_len, List.length_append, List.length_replicate, List.length_cons, List.length_nil, List.length_set] <;> omega) | fail) only [↓Xa, Xb, Xc, ↓reduceIte, Nat.reduceLT, Nat.reduceEqDiff, Nat.reduceBEq, Nat.reduceLeDiff, Nat.reduceAdd, Nat.reduceMul]
      refine (eq_same (k := 160) true false rfl (Nat.lt_trans (Nat.mod_lt _ hb0) nb.lt) (by omega)).call ?_
      simp (disch := first | assumption | (apply Ap.symm; assumption) | omega | decide | (simp only [U_len, List.length_append, List.length_replicate, List.length_cons, List.length_nil, List.length_set] <;> omega) | fail) only [rs10, ↓Xa, Xb, Xc, ↓reduceIte, Nat.reduceLT, Nat.reduceEqDiff, Nat.reduceBEq, Nat.reduceLeDiff, Nat.reduceAdd, Nat.reduceMul]
      exact SetR.now hq
  · have h0' : ¬ c = 0 := by omega
    simp (disch := first | assumption | (apply Ap.symm; assumption) | omega | decide | (simp only [U_len, List.length_append, List.length_replicate, List.length_cons, List.length_nil, List.length_set] <;> omega) | fail) only [h0', rep1, ↓Xa, Xb, Xc, ↓reduceIte, Nat.reduceLT, Nat.reduceEqDiff, Nat.reduceBEq, Nat.reduceLeDiff, Nat.reduceAdd, Nat.reduceMul]
    have n1 := Nm.one hc32
    refine (ldivmod_n false true na n1 (by omega) (by omega) h0).call ?_
    simp (disch := first | assumption | (apply Ap.symm; assumption) | omega | decide | (simp only [U_len, List.length_append, List.length_replicate, List.length_cons, List.length_nil, List.length_set] <;> omega) | fail) only [↓Xa, Xb, Xc, ↓reduceIte, Nat.reduceLT, Nat.reduceEqDiff, Nat.reduceBEq, Nat.reduceLeDiff, Nat.reduceAdd, Nat.reduceMul]
    refine (eq_same (k := 160) true false rfl (Nat.lt_of_le_of_lt (Nat.div_le_self _ _) na.lt) (by omega)).call ?_
    have hr : A % c < 4294967296 := Nat.lt_trans (Nat.mod_lt _ h0) hc32
    simp (disch := first | assumption | (apply Ap.symm; assumption) | omega | decide | (simp only [U_len, List.length_append, List.length_replicate, List.length_cons, List.length_nil, List.length_set] <;> omega) | fail) only [rep1, ↓Xa, Xb, Xc, ↓reduceIte, Nat.reduceLT, Nat.reduceEqDiff, Nat.reduceBEq, Nat.reduceLeDiff, Nat.reduceAdd, Nat.reduceMul]
    refine (lnorm_n true (Nm.one hr) (by omega)).call ?_
    simp (disch := first | assumption | (apply Ap.symm; assumption) | omega | decide | (simp only [U_len, List.length_append, List.length_replicate, List.length_cons, List.length_nil, List.length_set] <;> omega) | fail) only [↓Xa, Xb, Xc, ↓reduceIte, Nat.reduceLT, Nat.reduceEqDiff, Nat.reduceBEq, Nat.reduceLeDiff, Nat.reduceAdd, Nat.reduceMul]
    refine (eq_same (k := 1) false false rfl (by omega) (by omega)).call ?_
    simp (disch := first | assumption | (apply Ap.symm; assumption) | omega | decide | (simp only [U_len, List.length_append, List.length_replicate, List.length_cons, List.length_nil, List.length_set] <;> omega) | fail) only [↓Xa, Xb, Xc, ↓reduceIte, Nat.reduceLT, Nat.reduceEqDiff, Nat.reduceBEq, Nat.reduceLeDiff, Nat.reduceAdd, Nat.reduceMul]
    refine (lnorm_n false nb (by omega)).call ?_
    rcases C with ⟨hb0, rfl, rfl, rfl⟩ | ⟨hb0, rfl, rfl, rfl⟩
    · rw [hb0, digs_zero]
      simp (disch := first | assumption | (apply Ap.symm; assumption) | omega | decide | (simp only [U_len, List.length_append, List.length_replicate, List.length_cons, List.length_nil, List.length_set] <;> omega) | fail) only [List.length_nil, rs10, ↓Xa, Xb, Xc, ↓reduceIte, Nat.reduceLT, Nat.reduceEqDiff, Nat.reduceBEq, Nat.reduceLeDiff, Nat.reduceAdd, Nat.reduceMul]
      exact SetR.now hq
    · have hyl := (Nm.digs nb.lt).len
      have hlp : ¬ (Ma.digs 4294967296 B).length = 0 := by rw [digs_pos (by omega) hb0]; simp
      simp (disch := first | assumption | (apply Ap.symm; assumption) | omega | decide | (simp only [U_len, List.length_append, List.length_replicate, List.length_cons, List.length_nil, List.length_set] <;> omega) | fail) only [hlp, ↓Xa, Xb, Xc, ↓reduceIte, Nat.reduceLT, Nat.reduceEqDiff, Nat.reduceBEq, Nat.reduceLeDiff, Nat.reduceAdd, Nat.reduceMul]
      refine (ldivmod_n false false na nb (by omega) (by omega) hb0).call ?_
      simp (disch := first | assumption | (apply Ap.symm; assumption) | omega | decide | (simp only [U_len, List.length_append, List.length_replicate, List.length_cons, List.length_nil, List.length_set] <;> omega) | fail) only [↓Xa, Xb, Xc, ↓reduceIte, Nat.reduceLT, Nat.reduceEqDiff, Nat.reduceBEq, Nat.reduceLeDiff, Nat.reduceAdd, Nat.reduceMul]
      refine (eq_same (k := 160) true false rfl (Nat.lt_of_le_of_lt (Nat.div_le_self _ _) na.lt) (by omega)).call ?_
      simp (disch := first | assumption | (apply Ap.symm; assumption) | omega | decide | (simp only [U_len, List.length_append, List.length_replicate, List.length_cons, List.length_nil, List.length_set] <;> omega) | fail) only [↓Xa, Xb, Xc, ↓reduceIte, Nat.reduceLT, Nat.reduceEqDiff, Nat.reduceBEq, Nat.reduceLeDiff, Nat.reduceAdd, Nat.reduceMul]
      refine (eq_same (k := 160) true false rfl (Nat.lt_trans (Nat.mod_lt _ hb0) nb.lt) (by omega)).call ?_
      simp (disch := first | assumption | (apply Ap.symm; assumption) | omega | decide | (simp only [U_len, List.length_append, List.length_replicate, List.length_cons, List.length_nil, List.length_set] <;> omega) | fail) only [rs10, ↓Xa, Xb, Xc, ↓reduceIte, Nat.reduceLT, Nat.reduceEqDiff, Nat.reduceBEq, Nat.reduceLeDiff, Nat.reduceAdd, Nat.reduceMul]
      exact SetR.now hq
end Go.Proofs.YtipbcjnniamcgaaDoor.Fw
