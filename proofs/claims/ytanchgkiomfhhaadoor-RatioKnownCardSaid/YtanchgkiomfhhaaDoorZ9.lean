/- The texts Lay145 Qj Qm Qo Qp, joined. -/
import Derived.Test.YtanchgkiomfhhaaDoorZ8
import Derived.Shelf.Strings.Cut
import Derived.Test.YtanchgkiomfhhaaDoorProg
import Derived.Lib.CutLaws
import Derived.Lib.SmallJoins
/- The numbers under which the library's functions stand in this program, and that their texts are those which the kit's contracts speak of: printed by wip/tools/lay.py. -/
namespace Go.Proofs.YtanchgkiomfhhaaDoor.Fw
open Go Go.Shelf Go.Proofs
def lay145_ren : Ren :=
  {
    f := fun x =>
      match x with
      | 145 => 189
      | 220 => 211
      | 219 => 222
      | 217 => 230
      | 225 => 231
      | 224 => 232
      | 267 => 233
      | 266 => 237
      | 314 => 238
      | n => n,
    t := fun x =>
      match x with
      | 9 => 9
      | 4 => 4
      | 59 => 224
      | 3 => 3
      | 5 => 5
      | 46 => 186
      | 146 => 273
      | 51 => 172
      | n => n,
    g := fun x =>
      match x with
      | 1 => 0
      | n => n }
theorem lay145 : Lays.n145 Tryd.prog lay145_ren :=
  { mixed := Eq.refl true, f145 := Eq.trans Tryd.func189 (congrArg some (Eq.refl (Body.n145 lay145_ren))),
    f217 := Eq.trans Tryd.func230 (congrArg some (Eq.refl (Body.n217 lay145_ren))),
    f219 := Eq.trans Tryd.func222 (congrArg some (Eq.refl (Body.n219 lay145_ren))),
    f220 := Eq.trans Tryd.func211 (congrArg some (Eq.refl (Body.n220 lay145_ren))),
    f224 := Eq.trans Tryd.func232 (congrArg some (Eq.refl (Body.n224 lay145_ren))),
    f225 := Eq.trans Tryd.func231 (congrArg some (Eq.refl (Body.n225 lay145_ren))),
    f266 := Eq.trans Tryd.func237 (congrArg some (Eq.refl (Body.n266 lay145_ren))),
    f267 := Eq.trans Tryd.func233 (congrArg some (Eq.refl (Body.n267 lay145_ren))),
    f314 := Eq.trans Tryd.func238 (congrArg some (Eq.refl (Body.n314 lay145_ren))), t3 := Tryd.underlying3,
    a3 := Tryd.isAgg3, z3 := Tryd.sizeOf3, v3 := Tryd.zeroValue3, t4 := Tryd.underlying4, a4 := Tryd.isAgg4,
    z4 := Tryd.sizeOf4, v4 := Tryd.zeroValue4, t5 := Tryd.underlying5, a5 := Tryd.isAgg5, z5 := Tryd.sizeOf5,
    v5 := Tryd.zeroValue5, t9 := Tryd.underlying9, a9 := Tryd.isAgg9, z9 := Tryd.sizeOf9, v9 := Tryd.zeroValue9,
    t46 := Tryd.underlying186, a46 := Tryd.isAgg186, z46 := Tryd.sizeOf186, v46 := Tryd.zeroValue186,
    t51 := Tryd.underlying172, a51 := Tryd.isAgg172, z51 := Tryd.sizeOf172, v51 := Tryd.zeroValue172,
    t59 := Tryd.underlying224, a59 := Tryd.isAgg224, z59 := Tryd.sizeOf224, v59 := Tryd.zeroValue224,
    t146 := Tryd.underlying273, a146 := Tryd.isAgg273, z146 := Tryd.sizeOf273, v146 := Tryd.zeroValue273,
    g1 := by kernel_rfl }
end Go.Proofs.YtanchgkiomfhhaaDoor.Fw

/- A text cut in two: by the kit's contract, which reads a cell of the library's own. -/
namespace Go.Proofs.YtanchgkiomfhhaaDoor.Fw
set_option linter.unusedSimpArgs false
set_option linter.unusedVariables false
open Go Go.Proofs.YtanchgkiomfhhaaDoor.Ma Go.Shelf
set_option maxRecDepth 20000

def MlH (H : AHeap) : Prop := ∃ m : Int, H 0 = some (.glob 0 [.int .i64 m])
theorem MlH.upd {H : AHeap} (h : MlH H) {p : Nat} {x : Option ABlk} (hp : H p = none) : MlH (H.upd p x) := by
  obtain ⟨m, e⟩ := h
  refine ⟨m, ?_⟩
  rw [upd_other _ _ (by rintro rfl; rw [hp] at e; cases e)]
  exact e
theorem MlH.le {H G : AHeap} (h : MlH H) (hl : Le H G) : MlH G := let ⟨m, e⟩ := h; ⟨m, hl _ _ e⟩
theorem below_ok {c : Ctx} (hok : Ok c) {w' : World} (hb : Go.RowKit.Below c.w.heap.size c.w w') : Ok { c with w := w' } ∧ Later c { c with w := w' } := by
  let c2 : Ctx := { c with w := w' }
  have hsz : ∀ i x, c.H i = some x → c.μ i < c.w.heap.size := fun i x e => by
    have := hok.blk i x e
    cases x with
    | row ty es cells => obtain ⟨arr, h1, _⟩ := this; exact (Array.getElem?_eq_some_iff.1 h1).1
    | raw o => exact (Array.getElem?_eq_some_iff.1 this.1).1
    | glob g cells => rw [this.1]; exact this.2.1
    | loop st pend fn ps assign body n E => obtain ⟨tm, dd, h1, _⟩ := this; exact (Array.getElem?_eq_some_iff.1 h1).1
  have later : Later c c2 := by
    refine ⟨⟨hb.size, hb.os, hb.tape, hb.output, fun _ h => h, ?_, fun k hk hm => ⟨hb.block k hk, hm⟩⟩, fun _ h => ⟨h, fun k => k⟩⟩
    intro i x' _ hx'
    exact ⟨x', hx', Nat.le_refl _, fun _ => ⟨rfl, fun ty' es' cells' e => ⟨cells', e, fun arr ha => ⟨arr, (hb.block _ (hsz i x' hx')).trans ha, rfl⟩⟩⟩⟩
  exact ⟨⟨hok.used, hok.fin, hok.inj, fun b x hx => (hok.blk b x hx).later later rfl (hb.block _ (hsz b x hx))⟩, later⟩
theorem below_drew {w : World} : ∀ n, Go.RowKit.Below w.heap.size w (w.drewN n) := fun n => ⟨rfl, rfl, rfl, Nat.le_refl _, fun _ _ => rfl⟩
theorem cut_run {H : AHeap} {Q : AV → AHeap → Prop} (hM : MlH H) {s sep : List UInt8} (hs : s.length < 4294967281) (hq : Q (.tup [Sx (Lib.cut s sep).1, Sx (Lib.cut s sep).2.1, .bool (Lib.cut s sep).2.2]) H) : Run Tryd.prog 189 [Sx s, Sx sep] H Q := by
  refine ⟨⟨_, Tryd.func189, by kernel_rfl, by kernel_rfl⟩, fun c vs hH hok hsz he => ?_⟩
  obtain ⟨v0, v1, rfl⟩ : ∃ v0 v1, vs = #[v0, v1] := Go.Joins.array2 hsz
  have e0 : Enc c (Sx s) v0 := he 0 (by simp) (by simp)
  have e1 : Enc c (Sx sep) v1 := he 1 (by simp) (by simp)
  cases e0
  cases e1
  obtain ⟨m, hm⟩ := hM
  obtain ⟨_, _, cv, hcell, hc⟩ := hok.blk _ _ (by rw [hH]; exact hm)
  have h1 := hcell 0 (by simp)
  have h2 : Enc c (.int .i64 m) (cv 0) := hc 0 (by simp)
  generalize cv 0 = u at h1 h2
  cases h2
  refine (Any.strings_Cut (P := Tryd.prog) (ρ := lay145_ren) lay145 ⟨s.toArray⟩ ⟨sep.toArray⟩ m c.w (by show s.toArray.size < 4294967281; simpa using hs) h1).mono ?_
  rintro e w' ⟨rfl, n, rfl⟩
  obtain ⟨g1, g2⟩ := below_ok hok (below_drew (w := c.w) n)
  refine ⟨{ c with w := c.w.drewN n }, _, _, rfl, rfl, g1, g2, ?_, by show Q _ c.H; rw [hH]; exact hq⟩
  refine .tup _ _ rfl fun i hi hi' => ?_
  match i, hi with
  | 0, _ => exact .str _
  | 1, _ => exact .str _
  | 2, _ => exact .bool _
theorem index_none {b : UInt8} : ∀ {l : List UInt8}, b ∉ l → Lib.index l [b] = -1
  | [], _ => rfl
  | a :: l, h => by
    simp only [List.mem_cons, not_or] at h
    have h1 : List.isPrefixOf [b] (a :: l) = false := by simp [List.isPrefixOf, h.1]
    unfold Lib.index
    rw [h1, index_none h.2]; rfl
theorem index_at {b : UInt8} {r : List UInt8} : ∀ {l : List UInt8}, b ∉ l → Lib.index (l ++ b :: r) [b] = (l.length : Int)
  | [], _ => by
    show Lib.index (b :: r) [b] = 0
    unfold Lib.index
    rw [show List.isPrefixOf [b] (b :: r) = true by simp [List.isPrefixOf]]; rfl
  | a :: l, h => by
    simp only [List.mem_cons, not_or] at h
    have h1 : List.isPrefixOf [b] (a :: (l ++ b :: r)) = false := by simp [List.isPrefixOf, h.1]
    show Lib.index (a :: (l ++ b :: r)) [b] = _
    unfold Lib.index
    rw [h1, index_at h.2]
    have : ((l.length : Int) == -1) = false := by rw [beq_eq_false_iff_ne]; omega
    simp [this]
theorem cut_none {b : UInt8} {l : List UInt8} (h : b ∉ l) : Lib.cut l [b] = (l, [], false) := by
  unfold Lib.cut; rw [index_none h]; rfl
theorem cut_at {b : UInt8} {l r : List UInt8} (h : b ∉ l) : Lib.cut (l ++ b :: r) [b] = (l, r, true) := by
  unfold Lib.cut
  rw [index_at h, if_pos (by omega)]
  simp
theorem first_mem {b : UInt8} : ∀ {s : List UInt8}, b ∈ s → ∃ l r, s = l ++ b :: r ∧ b ∉ l
  | a :: s, h => by
    by_cases e : b = a
    · subst e; exact ⟨[], s, rfl, by simp⟩
    · rcases List.mem_cons.1 h with h | h
      · exact absurd h e
      · obtain ⟨l, r, rfl, hl⟩ := first_mem h
        exact ⟨a :: l, r, rfl, by simp [e, hl]⟩
theorem cut_cases (b : UInt8) (s : List UInt8) : (b ∉ s ∧ Lib.cut s [b] = (s, [], false)) ∨ ∃ l r, s = l ++ b :: r ∧ b ∉ l ∧ Lib.cut s [b] = (l, r, true) := by
  by_cases h : b ∈ s
  · right
    obtain ⟨l, r, rfl, hl⟩ := first_mem h
    exact ⟨l, r, rfl, hl, cut_at hl⟩
  · exact .inl ⟨h, cut_none h⟩
end Go.Proofs.YtanchgkiomfhhaaDoor.Fw

/- Fractions' texts read: plain. -/
namespace Go.Proofs.YtanchgkiomfhhaaDoor.Fw
set_option linter.unusedSimpArgs false
set_option linter.unusedVariables false
open Go Go.Proofs.YtanchgkiomfhhaaDoor.Ma
set_option maxRecDepth 20000

instance (l : List UInt8) (i : Nat) : Decidable (iBad l i) := by unfold iBad; infer_instance
def iEnd (l : List UInt8) : Nat := ((List.range (l.length + 1)).find? fun i => decide (iFrom l ≤ i ∧ iBad l i)).getD l.length
theorem isAt_iEnd (l : List UInt8) : IsAt l (iEnd l) := by
  obtain ⟨p, hp⟩ := isAt_ex l
  have e : (List.range (l.length + 1)).find? (fun i => decide (iFrom l ≤ i ∧ iBad l i)) = some p := by
    rw [List.find?_range_eq_some]
    refine ⟨decide_eq_true ⟨hp.1, hp.2.2.1⟩, List.mem_range.2 (by have := hp.2.1; omega), fun j hj => ?_⟩
    simp only [Bool.not_eq_true', decide_eq_false_iff_not]
    rintro ⟨h1, h2⟩
    exact hp.2.2.2 j h1 hj h2
  unfold iEnd
  rw [e]; exact hp
def iRd (l : List UInt8) : Int × Nat × Nat := if 65536 < l.length then (0, 3, 65536) else if iEnd l = iFrom l ∨ iEnd l < l.length then (0, 6, iEnd l) else (iVal l, 0, 0)
theorem ird_fn {l : List UInt8} (hl : l.length < 9223372036854775808) : PFn Tryd.prog 167 [Sx l] (.tup [IntA (iRd l).1, spot (iRd l).2.1 (iRd l).2.2]) := by
  have h := iread_fn (isAt_iEnd l) hl
  unfold iReadA at h
  unfold iRd
  split at h
  · rename_i h1; rw [if_pos h1]; exact h
  · rename_i h1; rw [if_neg h1]
    split at h
    · rename_i h2; rw [if_pos h2]; exact h
    · rename_i h2; rw [if_neg h2]; exact h
theorem iRd_good {l : List UInt8} (h : (iRd l).2.1 = 0) : l.length ≤ 65536 ∧ IsAt l l.length ∧ l.length ≠ iFrom l ∧ iRd l = (iVal l, 0, 0) := by
  unfold iRd at h ⊢
  split at h
  · cases h
  · rename_i h1
    split at h
    · cases h
    · rename_i h2
      have hp := isAt_iEnd l
      have := hp.2.1
      have e : iEnd l = l.length := by omega
      rw [e] at hp
      rw [if_neg h1, if_neg h2]
      exact ⟨by omega, hp, fun e2 => h2 (.inl (by rw [e]; exact e2)), rfl⟩
theorem iRd_bd (l : List UInt8) : Bd 8192 (iRd l).1 := by
  by_cases h : (iRd l).2.1 = 0
  · obtain ⟨h1, h2, h3, h4⟩ := iRd_good h
    rw [h4]
    exact Bd.sgn (Nat.lt_of_lt_of_le (decV_lt fun b hb => ((isAt_good h2 h3).2.1 b hb).2) (ten_bound (by simp; omega)))
  · have e : (iRd l).1 = 0 := by
      unfold iRd at h ⊢
      split
      · rfl
      · rename_i h1
        rw [if_neg h1] at h
        split
        · rfl
        · rename_i h2
          rw [if_neg h2] at h; exact absurd rfl h
    rw [e]; exact Bd.zero _
theorem iRd_text {x : Int} (h : (iText x).length ≤ 65536) : iRd (iText x) = (x, 0, 0) := by
  obtain ⟨h1, h2, h3⟩ := iText_at x
  have e := isAt_fn (isAt_iEnd (iText x)) h1
  unfold iRd
  rw [if_neg (by omega), if_neg (by rw [e]; omega), h3]
theorem iRd_pos {l : List UInt8} (h : (iRd l).2.1 = 0) (h0 : (l.getD 0 0).toNat ≠ 45) (h1 : (l.getD 0 0).toNat ≠ 48) : ∃ d : Nat, 0 < d ∧ (iRd l).1 = (d : Int) := by
  obtain ⟨_, h2, h3, h4⟩ := iRd_good h
  have hf : iFrom l = 0 := by unfold iFrom; rw [if_neg h0]
  have ev : iVal l = ((decV l : Nat) : Int) := by
    unfold iVal
    rw [hf, decide_eq_false (by omega)]; rfl
  have hg := isAt_good h2 h3
  rw [hf, List.drop_zero] at hg
  refine ⟨decV l, ?_, by rw [h4]; exact ev⟩
  rcases Nat.eq_zero_or_pos (decV l) with e | e
  · have ht := decT_decV hg
    rw [e] at ht
    have : decT 0 = [48] := rfl
    rw [this] at ht
    rw [← ht] at h1
    exact absurd rfl h1
  · exact e
def qRd (l : List UInt8) : QQ × Nat × Nat :=
  if 65536 < l.length then (0, 3, 65536)
  else if (iRd (Lib.cut l [47]).1).2.1 ≠ 0 then (0, 6, (iRd (Lib.cut l [47]).1).2.2)
  else if (Lib.cut l [47]).2.2 = false then (((iRd (Lib.cut l [47]).1).1 : QQ), 0, 0)
  else if (Lib.cut l [47]).2.1 = [] ∨ ((Lib.cut l [47]).2.1.getD 0 0).toNat = 45 ∨ ((Lib.cut l [47]).2.1.getD 0 0).toNat = 48 then (0, 6, (Lib.cut l [47]).1.length + 1)
  else if (iRd (Lib.cut l [47]).2.1).2.1 ≠ 0 then (0, 6, (Lib.cut l [47]).1.length + 1 + (iRd (Lib.cut l [47]).2.1).2.2)
  else if qText (mkRat (iRd (Lib.cut l [47]).1).1 (iRd (Lib.cut l [47]).2.1).1.toNat) ≠ l then (0, 6, l.length)
  else (mkRat (iRd (Lib.cut l [47]).1).1 (iRd (Lib.cut l [47]).2.1).1.toNat, 0, 0)
theorem iText_no47 (x : Int) : (47 : UInt8) ∉ iText x := by
  intro h
  obtain ⟨h1, h2, _⟩ := iText_at x
  obtain ⟨i, hi, e⟩ := List.getElem_of_mem h
  have eg : (iText x).getD i 0 = 47 := by rw [List.getD_eq_getElem?_getD, List.getElem?_eq_getElem hi, e]; rfl
  have hf := (iFrom_le (iText x)).2
  by_cases hlt : i < iFrom (iText x)
  · have e0 : i = 0 := by omega
    have hf1 : iFrom (iText x) = 1 := by omega
    unfold iFrom at hf1
    split at hf1
    · rename_i h45
      rw [e0] at eg
      rw [eg] at h45
      exact absurd h45 (by decide)
    · cases hf1
  · exact h1.2.2.2 i (by omega) hi (.inl (by rw [eg]; decide))
theorem iText_pos {d : Nat} (hd : 0 < d) : iText (d : Int) ≠ [] ∧ ((iText (d : Int)).getD 0 0).toNat ≠ 45 ∧ ((iText (d : Int)).getD 0 0).toNat ≠ 48 := by
  have e : iText (d : Int) = decT d := by unfold iText; rw [if_neg (by omega)]; rfl
  obtain ⟨h1, h2, h3⟩ := iText_at (d : Int)
  have hne : iText (d : Int) ≠ [] := fun h0 => by rw [h0] at h2; exact h2 rfl
  refine ⟨hne, fun h45 => ?_, fun h48 => ?_⟩
  · have hf : iFrom (iText (d : Int)) = 1 := by unfold iFrom; rw [if_pos h45]
    unfold iVal at h3
    rw [hf, decide_eq_true rfl] at h3
    unfold sg at h3
    simp at h3
    omega
  · have hf : iFrom (iText (d : Int)) = 0 := by unfold iFrom; rw [if_neg (by omega)]
    have hg := isAt_good h1 h2
    rw [hf, List.drop_zero] at hg
    have hlen : (iText (d : Int)).length = 1 := by
      rcases Nat.lt_or_ge 1 (iText (d : Int)).length with h | h
      · exact absurd (.inr (.inr (.inl ⟨by rw [hf], by rw [hf]; exact h48⟩))) (h1.2.2.2 1 (by omega) h)
      · have := List.length_pos_iff.2 hne; omega
    have hl : iText (d : Int) = [48] := by
      match hx : iText (d : Int), hlen with
      | [c], _ =>
        rw [hx] at h48
        have : c = 48 := UInt8.toNat_inj.1 (by simpa using h48)
        rw [this]
    rw [hl] at h3
    have : iVal [48] = 0 := by decide
    omega
theorem qRd_text {q : QQ} (h : (qText q).length ≤ 65536) : qRd (qText q) = (q, 0, 0) := by
  have hn := iText_no47 q.num
  by_cases hd : q.den = 1
  · have e : qText q = iText q.num := by unfold qText; rw [if_pos hd, List.append_nil]
    have hq : ((q.num : Int) : QQ) = q := by
      apply _root_.Rat.ext
      · rfl
      · exact hd.symm
    rw [e] at h ⊢
    unfold qRd
    rw [if_neg (by omega), cut_none hn]
    dsimp only
    rw [iRd_text h]
    simp [hq]
  · have e : qText q = iText q.num ++ 47 :: iText (q.den : Int) := by unfold qText; rw [if_neg hd]
    rw [e] at h ⊢
    rw [List.length_append, List.length_cons] at h
    obtain ⟨p1, p2, p3⟩ := iText_pos q.den_pos
    unfold qRd
    rw [if_neg (by rw [List.length_append, List.length_cons]; omega), cut_at hn]
    dsimp only
    rw [iRd_text (by omega), iRd_text (by omega)]
    have hm : mkRat q.num ((q.den : Int)).toNat = q := by
      rw [Int.toNat_natCast]; exact _root_.Rat.mkRat_self q
    dsimp only
    rw [if_neg (fun h => h rfl), if_neg (fun h => by cases h), if_neg (fun h => by
      rcases h with h | h | h
      · exact p1 h
      · exact p2 h
      · exact p3 h), if_neg (fun h => h rfl), hm, if_neg (fun h => h e)]
theorem wrong_fn {a : Int} : PFn Tryd.prog 188 [.int .i64 a] (.tup [RatA 0, .agg [.int .i64 ((6 : Nat) : Int), .int .i64 a]]) := by
  intro H Q hq
  refine enter188 (by simp) ?_
  simp (disch := first | assumption | (apply Ap.symm; assumption) | omega | decide | (simp only [Xd] <;> omega)) only [ac188, ↓Xa, Xb, Xc, ↓reduceIte, Nat.reduceLT, Nat.reduceEqDiff, Nat.reduceBEq, Nat.reduceLeDiff, Nat.reduceAdd, Nat.reduceMul]
  refine alloc_i fun p1 hp1 => ?_
  have n1 := hp1
  simp (disch := first | assumption | (apply Ap.symm; assumption) | omega | decide | (simp only [Xd] <;> omega)) only [↓Xa, Xb, Xc, ↓reduceIte, Nat.reduceLT, Nat.reduceEqDiff, Nat.reduceBEq, Nat.reduceLeDiff, Nat.reduceAdd, Nat.reduceMul]
  refine alloc_i fun p2 hp2 => ?_
  have n2 := hp2
  simp only [upd_none] at n2
  obtain ⟨_, n2⟩ := n2
  simp (disch := first | assumption | (apply Ap.symm; assumption) | omega | decide | (simp only [Xd] <;> omega)) only [build_raw0, cells_RatA, cells_i2, fold_Raw, fold_RatA, rs188, ↓Xa, Xb, Xc, ↓reduceIte, Nat.reduceLT, Nat.reduceEqDiff, Nat.reduceBEq, Nat.reduceLeDiff, Nat.reduceAdd, Nat.reduceMul]
  rw [← RawR_0] at hq
  exact SetR.dropTo (((Le.refl H).updB n1).updB n2) (SetR.now hq)
theorem cut_len (b : UInt8) (s : List UInt8) : (Lib.cut s [b]).1.length ≤ s.length ∧ (Lib.cut s [b]).2.1.length ≤ s.length := by
  rcases cut_cases b s with ⟨_, e⟩ | ⟨l, r, rfl, _, e⟩
  · rw [e]; simp
  · rw [e]; simp; omega
theorem ratread_run {H : AHeap} {Q : AV → AHeap → Prop} (hM : MlH H) {l : List UInt8} (hl : l.length < 4611686018427387904) (hq : Q (.tup [RatA (qRd l).1, spot (qRd l).2.1 (qRd l).2.2]) H) : Run Tryd.prog 127 [Sx l] H Q := by
  have s47 : AV.str ⟨#[47]⟩ = Sx [47] := rfl
  refine enter127 (by simp) ?_
  simp (disch := first | assumption | (apply Ap.symm; assumption) | omega | decide | (simp only [Xd] <;> omega)) only [ac127, ↓Xa, Xb, Xc, ↓reduceIte, Nat.reduceLT, Nat.reduceEqDiff, Nat.reduceBEq, Nat.reduceLeDiff, Nat.reduceAdd, Nat.reduceMul]
  refine alloc_i fun p1 hp1 => ?_
  have n1 := hp1
  simp (disch := first | assumption | (apply Ap.symm; assumption) | omega | decide | (simp only [Xd] <;> omega)) only [↓Xa, Xb, Xc, ↓reduceIte, Nat.reduceLT, Nat.reduceEqDiff, Nat.reduceBEq, Nat.reduceLeDiff, Nat.reduceAdd, Nat.reduceMul]
  refine alloc_i fun p2 hp2 => ?_
  have n2 := hp2
  simp only [upd_none] at n2
  obtain ⟨_, n2⟩ := n2
  have out : ∀ {x y : ABlk}, SetR Q (.tup [RatA (qRd l).1, spot (qRd l).2.1 (qRd l).2.2]) ((H.upd p1 (some x)).upd p2 (some y)) := SetR.dropTo (((Le.refl H).updB n1).updB n2) (SetR.now hq)
  by_cases h1 : 65536 < l.length
  · have e : qRd l = (0, 3, 65536) := by unfold qRd; rw [if_pos h1]
    rw [e] at out
    dsimp only at out
    rw [← RawR_0] at out
    simp (disch := first | assumption | (apply Ap.symm; assumption) | omega | decide | (simp only [Xd] <;> omega)) only [len_Sx, h1, build_raw0, cells_RatA, cells_i2, fold_Raw, fold_RatA, rs127, ↓Xa, Xb, Xc, ↓reduceIte, Nat.reduceLT, Nat.reduceEqDiff, Nat.reduceBEq, Nat.reduceLeDiff, Nat.reduceAdd, Nat.reduceMul]
    exact out
  have hcl := cut_len 47 l
  have hm2 : MlH ((H.upd p1 (some (.row 121 0 [.bool false, .seq 0 [] true, .bool false, .seq 0 [] true]))).upd p2 (some (.row 105 0 [.int .i64 ((0 : Nat) : Int), .int .i64 ((0 : Nat) : Int)]))) := (hM.upd n1).upd hp2
  simp (disch := first | assumption | (apply Ap.symm; assumption) | omega | decide | (simp only [Xd] <;> omega)) only [len_Sx, h1, s47, ↓Xa, Xb, Xc, ↓reduceIte, Nat.reduceLT, Nat.reduceEqDiff, Nat.reduceBEq, Nat.reduceLeDiff, Nat.reduceAdd, Nat.reduceMul]
  refine run_call (cut_run hm2 (by omega) ?_)
  unfold qRd at out
  rw [if_neg h1] at out
  generalize Lib.cut l [47] = cc at *
  obtain ⟨a, b, par⟩ := cc
  dsimp only at hcl out ⊢
  obtain ⟨la, lb⟩ := hcl
  have ra := ird_fn (l := a) (by omega)
  have ba := iRd_bd a
  simp (disch := first | assumption | (apply Ap.symm; assumption) | omega | decide | (simp only [Xd] <;> omega)) only [↓Xa, Xb, Xc, ↓reduceIte, Nat.reduceLT, Nat.reduceEqDiff, Nat.reduceBEq, Nat.reduceLeDiff, Nat.reduceAdd, Nat.reduceMul]
  refine ra.call ?_
  generalize hA : iRd a = A at *
  obtain ⟨n, en, an⟩ := A
  dsimp only at ba out ⊢
  simp (disch := first | assumption | (apply Ap.symm; assumption) | omega | decide | (simp only [Xd] <;> omega)) only [spot, ↓Xa, Xb, Xc, ↓reduceIte, Nat.reduceLT, Nat.reduceEqDiff, Nat.reduceBEq, Nat.reduceLeDiff, Nat.reduceAdd, Nat.reduceMul]
  refine alloc_i fun p3 hp3 => ?_
  have n3 := hp3
  simp only [upd_none] at n3
  obtain ⟨_, _, n3⟩ := n3
  simp (disch := first | assumption | (apply Ap.symm; assumption) | omega | decide | (simp only [Xd] <;> omega)) only [↓Xa, Xb, Xc, ↓reduceIte, Nat.reduceLT, Nat.reduceEqDiff, Nat.reduceBEq, Nat.reduceLeDiff, Nat.reduceAdd, Nat.reduceMul]
  refine alloc_i fun p4 hp4 => ?_
  have n4 := hp4
  simp only [upd_none] at n4
  obtain ⟨_, _, _, n4⟩ := n4
  by_cases h2 : en = 0
  rotate_left
  · rw [if_pos h2] at out
    dsimp only at out
    have e2 : decide (((en : Nat) : Int) = ((0 : Nat) : Int)) = false := decide_eq_false (by omega)
    simp (disch := first | assumption | (apply Ap.symm; assumption) | omega | decide | (simp only [Xd] <;> omega)) only [cells_IntA, cells_i2, neq_int, e2, ↓Xa, Xb, Xc, ↓reduceIte, Nat.reduceLT, Nat.reduceEqDiff, Nat.reduceBEq, Nat.reduceLeDiff, Nat.reduceAdd, Nat.reduceMul]
    refine wrong_fn.call ?_
    simp (disch := first | assumption | (apply Ap.symm; assumption) | omega | decide | (simp only [Xd] <;> omega)) only [cells_RatA, cells_i2, rs127, fold_Raw, fold_RatA, ↓Xa, Xb, Xc, ↓reduceIte, Nat.reduceLT, Nat.reduceEqDiff, Nat.reduceBEq, Nat.reduceLeDiff, Nat.reduceAdd, Nat.reduceMul]
    refine SetR.dropTo (Le.updB (Le.updB (Le.refl _) ?_) ?_) out
    · exact upd_none.2 ⟨by assumption, upd_none.2 ⟨by assumption, n3⟩⟩
    · exact upd_none.2 ⟨by assumption, upd_none.2 ⟨by assumption, n4⟩⟩
  subst h2
  rw [if_neg (fun h => h rfl)] at out
  have e2 : decide (((0 : Nat) : Int) = ((0 : Nat) : Int)) = true := rfl
  cases hp : par with
  | false =>
    rw [hp, if_pos rfl] at out
    dsimp only at out
    simp (disch := first | assumption | (apply Ap.symm; assumption) | omega | decide | (simp only [Xd] <;> omega)) only [cells_IntA, cells_i2, neq_int, e2, fold_IntA, ↓Xa, Xb, Xc, ↓reduceIte, Nat.reduceLT, Nat.reduceEqDiff, Nat.reduceBEq, Nat.reduceLeDiff, Nat.reduceAdd, Nat.reduceMul]
    refine rwh_fn.call ?_
    simp (disch := first | assumption | (apply Ap.symm; assumption) | omega | decide | (simp only [Xd] <;> omega)) only [cells_RatA, cells_i2, rs127, fold_Raw, fold_RatA, ↓Xa, Xb, Xc, ↓reduceIte, Nat.reduceLT, Nat.reduceEqDiff, Nat.reduceBEq, Nat.reduceLeDiff, Nat.reduceAdd, Nat.reduceMul]
    refine SetR.dropTo (Le.updB (Le.updB (Le.refl _) ?_) ?_) out
    · exact upd_none.2 ⟨by assumption, upd_none.2 ⟨by assumption, n3⟩⟩
    · exact upd_none.2 ⟨by assumption, upd_none.2 ⟨by assumption, n4⟩⟩
  | true =>
  rw [hp, if_neg (fun h => by cases h)] at out
  have s0 : AV.str ⟨#[]⟩ = Sx [] := rfl
  by_cases h4 : b = []
  · subst h4
    rw [if_pos (.inl rfl)] at out
    dsimp only at out
    simp (disch := first | assumption | (apply Ap.symm; assumption) | omega | decide | (simp only [Xd] <;> omega)) only [cells_IntA, cells_i2, neq_int, e2, len_Sx, s0, eql_Sx, decide_true, ↓Xa, Xb, Xc, ↓reduceIte, Nat.reduceLT, Nat.reduceEqDiff, Nat.reduceBEq, Nat.reduceLeDiff, Nat.reduceAdd, Nat.reduceMul]
    refine wrong_fn.call ?_
    simp (disch := first | assumption | (apply Ap.symm; assumption) | omega | decide | (simp only [Xd] <;> omega)) only [cells_RatA, cells_i2, rs127, fold_Raw, fold_RatA, ↓Xa, Xb, Xc, ↓reduceIte, Nat.reduceLT, Nat.reduceEqDiff, Nat.reduceBEq, Nat.reduceLeDiff, Nat.reduceAdd, Nat.reduceMul]
    refine SetR.dropTo (Le.updB (Le.updB (Le.refl _) ?_) ?_) out
    · exact upd_none.2 ⟨by assumption, upd_none.2 ⟨by assumption, n3⟩⟩
    · exact upd_none.2 ⟨by assumption, upd_none.2 ⟨by assumption, n4⟩⟩
  have h4' : decide (b = []) = false := decide_eq_false h4
  have hb0 : 0 < b.length := List.length_pos_iff.2 h4
  by_cases h5 : (b.getD 0 0).toNat = 45
  · rw [if_pos (.inr (.inl h5))] at out
    dsimp only at out
    simp (disch := first | assumption | (apply Ap.symm; assumption) | omega | decide | (simp only [Xd] <;> omega)) only [cells_IntA, cells_i2, neq_int, e2, len_Sx, s0, eql_Sx, h4', idx_Sx, hb0, h5, ↓Xa, Xb, Xc, ↓reduceIte, Nat.reduceLT, Nat.reduceEqDiff, Nat.reduceBEq, Nat.reduceLeDiff, Nat.reduceAdd, Nat.reduceMul]
    refine wrong_fn.call ?_
    simp (disch := first | assumption | (apply Ap.symm; assumption) | omega | decide | (simp only [Xd] <;> omega)) only [cells_RatA, cells_i2, rs127, fold_Raw, fold_RatA, ↓Xa, Xb, Xc, ↓reduceIte, Nat.reduceLT, Nat.reduceEqDiff, Nat.reduceBEq, Nat.reduceLeDiff, Nat.reduceAdd, Nat.reduceMul]
    refine SetR.dropTo (Le.updB (Le.updB (Le.refl _) ?_) ?_) out
    · exact upd_none.2 ⟨by assumption, upd_none.2 ⟨by assumption, n3⟩⟩
    · exact upd_none.2 ⟨by assumption, upd_none.2 ⟨by assumption, n4⟩⟩
  by_cases h6 : (b.getD 0 0).toNat = 48
  · rw [if_pos (.inr (.inr h6))] at out
    dsimp only at out
    simp (disch := first | assumption | (apply Ap.symm; assumption) | omega | decide | (simp only [Xd] <;> omega)) only [cells_IntA, cells_i2, neq_int, e2, len_Sx, s0, eql_Sx, h4', idx_Sx, hb0, h5, h6, ↓Xa, Xb, Xc, ↓reduceIte, Nat.reduceLT, Nat.reduceEqDiff, Nat.reduceBEq, Nat.reduceLeDiff, Nat.reduceAdd, Nat.reduceMul]
    refine wrong_fn.call ?_
    simp (disch := first | assumption | (apply Ap.symm; assumption) | omega | decide | (simp only [Xd] <;> omega)) only [cells_RatA, cells_i2, rs127, fold_Raw, fold_RatA, ↓Xa, Xb, Xc, ↓reduceIte, Nat.reduceLT, Nat.reduceEqDiff, Nat.reduceBEq, Nat.reduceLeDiff, Nat.reduceAdd, Nat.reduceMul]
    refine SetR.dropTo (Le.updB (Le.updB (Le.refl _) ?_) ?_) out
    · exact upd_none.2 ⟨by assumption, upd_none.2 ⟨by assumption, n3⟩⟩
    · exact upd_none.2 ⟨by assumption, upd_none.2 ⟨by assumption, n4⟩⟩
  rw [if_neg (fun h => by rcases h with h | h | h; exact h4 h; exact h5 h; exact h6 h)] at out
  have rb := ird_fn (l := b) (by omega)
  have bb := iRd_bd b
  have pos := fun h => iRd_pos (l := b) h h5 h6
  simp (disch := first | assumption | (apply Ap.symm; assumption) | omega | decide | (simp only [Xd] <;> omega)) only [cells_IntA, cells_i2, neq_int, e2, len_Sx, s0, eql_Sx, h4', idx_Sx, hb0, h5, h6, ↓Xa, Xb, Xc, ↓reduceIte, Nat.reduceLT, Nat.reduceEqDiff, Nat.reduceBEq, Nat.reduceLeDiff, Nat.reduceAdd, Nat.reduceMul]
  refine rb.call ?_
  generalize hB : iRd b = B at *
  obtain ⟨d, ed, ad⟩ := B
  dsimp only at bb pos out ⊢
  simp (disch := first | assumption | (apply Ap.symm; assumption) | omega | decide | (simp only [Xd] <;> omega)) only [spot, ↓Xa, Xb, Xc, ↓reduceIte, Nat.reduceLT, Nat.reduceEqDiff, Nat.reduceBEq, Nat.reduceLeDiff, Nat.reduceAdd, Nat.reduceMul]
  refine alloc_i fun p5 hp5 => ?_
  have n5 := hp5
  simp only [upd_none] at n5
  obtain ⟨_, _, _, _, n5⟩ := n5
  by_cases h7 : ed = 0
  rotate_left
  · rw [if_pos h7] at out
    dsimp only at out
    have e7 : decide (((ed : Nat) : Int) = ((0 : Nat) : Int)) = false := decide_eq_false (by omega)
    have hadd : ∀ K : AV → Prop, binW .add (.int .i64 ((a.length + 1 : Nat) : Int)) (.int .i64 ((ad : Nat) : Int)) K ↔ K (.int .i64 ((a.length + 1 + ad : Nat) : Int)) := fun K => by
      have had : ad ≤ b.length ∨ ad = 65536 := by
        have e := congrArg (fun x => x.2.2) hB
        dsimp only at e
        rw [← e]
        unfold iRd
        split
        · exact .inr rfl
        · split
          · exact .inl (isAt_iEnd b).2.1
          · exact .inl (Nat.zero_le _)
      rw [bin_add, wn_i64 (by omega)]
    simp (disch := first | assumption | (apply Ap.symm; assumption) | omega | decide | (simp only [Xd] <;> omega)) only [cells_IntA, cells_i2, neq_int, e7, hadd, ↓Xa, Xb, Xc, ↓reduceIte, Nat.reduceLT, Nat.reduceEqDiff, Nat.reduceBEq, Nat.reduceLeDiff, Nat.reduceAdd, Nat.reduceMul]
    refine wrong_fn.call ?_
    simp (disch := first | assumption | (apply Ap.symm; assumption) | omega | decide | (simp only [Xd] <;> omega)) only [cells_RatA, cells_i2, rs127, fold_Raw, fold_RatA, ↓Xa, Xb, Xc, ↓reduceIte, Nat.reduceLT, Nat.reduceEqDiff, Nat.reduceBEq, Nat.reduceLeDiff, Nat.reduceAdd, Nat.reduceMul]
    refine SetR.dropTo (Le.updB (Le.updB (Le.updB (Le.refl _) ?_) ?_) ?_) out
    · exact upd_none.2 ⟨by assumption, upd_none.2 ⟨by assumption, n3⟩⟩
    · exact upd_none.2 ⟨by assumption, upd_none.2 ⟨by assumption, n4⟩⟩
    · exact upd_none.2 ⟨by assumption, upd_none.2 ⟨by assumption, n5⟩⟩
  subst h7
  rw [if_neg (fun h => h rfl)] at out
  obtain ⟨dn, hdn, rfl⟩ := pos rfl
  rw [Int.toNat_natCast] at out
  have hx : RB 8192 (mkRat n dn) := RB.mk ba bb hdn
  simp (disch := first | assumption | (apply Ap.symm; assumption) | omega | decide | (simp only [Xd] <;> omega)) only [cells_IntA, cells_i2, neq_int, e2, fold_IntA, ↓Xa, Xb, Xc, ↓reduceIte, Nat.reduceLT, Nat.reduceEqDiff, Nat.reduceBEq, Nat.reduceLeDiff, Nat.reduceAdd, Nat.reduceMul]
  refine (lowest_fn ba bb hdn (by omega)).call ?_
  generalize mkRat n dn = x at *
  simp (disch := first | assumption | (apply Ap.symm; assumption) | omega | decide | (simp only [Xd] <;> omega)) only [↓Xa, Xb, Xc, ↓reduceIte, Nat.reduceLT, Nat.reduceEqDiff, Nat.reduceBEq, Nat.reduceLeDiff, Nat.reduceAdd, Nat.reduceMul]
  refine alloc_i fun p6 hp6 => ?_
  have n6 := hp6
  simp only [upd_none] at n6
  obtain ⟨_, _, _, _, _, n6⟩ := n6
  simp (disch := first | assumption | (apply Ap.symm; assumption) | omega | decide | (simp only [Xd] <;> omega)) only [cells_RatA, fold_Raw, fold_RatA, ↓Xa, Xb, Xc, ↓reduceIte, Nat.reduceLT, Nat.reduceEqDiff, Nat.reduceBEq, Nat.reduceLeDiff, Nat.reduceAdd, Nat.reduceMul]
  refine (rtextq_fn hx (by omega)).call ?_
  have dr : ∀ {x y z w u v : ABlk} {r : AV}, (∀ {x y : ABlk}, SetR Q r ((H.upd p1 (some x)).upd p2 (some y))) → SetR Q r ((((((H.upd p1 (some x)).upd p2 (some y)).upd p3 (some z)).upd p4 (some w)).upd p5 (some u)).upd p6 (some v)) := fun h => by
    refine SetR.dropTo (Le.updB (Le.updB (Le.updB (Le.updB (Le.refl _) ?_) ?_) ?_) ?_) h
    · exact upd_none.2 ⟨by assumption, upd_none.2 ⟨by assumption, n3⟩⟩
    · exact upd_none.2 ⟨by assumption, upd_none.2 ⟨by assumption, n4⟩⟩
    · exact upd_none.2 ⟨by assumption, upd_none.2 ⟨by assumption, n5⟩⟩
    · exact upd_none.2 ⟨by assumption, upd_none.2 ⟨by assumption, n6⟩⟩
  by_cases h8 : qText x = l
  · rw [if_neg (fun h => h h8)] at out
    dsimp only at out
    have e8 : decide (qText x = l) = true := decide_eq_true h8
    simp (disch := first | assumption | (apply Ap.symm; assumption) | omega | decide | (simp only [Xd] <;> omega)) only [neq_Sx, e8, cells_RatA, cells_i2, fold_Raw, fold_RatA, rs127, ↓Xa, Xb, Xc, ↓reduceIte, Nat.reduceLT, Nat.reduceEqDiff, Nat.reduceBEq, Nat.reduceLeDiff, Nat.reduceAdd, Nat.reduceMul]
    exact dr out
  · rw [if_pos h8] at out
    dsimp only at out
    have e8 : decide (qText x = l) = false := decide_eq_false h8
    simp (disch := first | assumption | (apply Ap.symm; assumption) | omega | decide | (simp only [Xd] <;> omega)) only [neq_Sx, e8, len_Sx, ↓Xa, Xb, Xc, ↓reduceIte, Nat.reduceLT, Nat.reduceEqDiff, Nat.reduceBEq, Nat.reduceLeDiff, Nat.reduceAdd, Nat.reduceMul]
    refine wrong_fn.call ?_
    simp (disch := first | assumption | (apply Ap.symm; assumption) | omega | decide | (simp only [Xd] <;> omega)) only [cells_RatA, cells_i2, fold_Raw, fold_RatA, rs127, ↓Xa, Xb, Xc, ↓reduceIte, Nat.reduceLT, Nat.reduceEqDiff, Nat.reduceBEq, Nat.reduceLeDiff, Nat.reduceAdd, Nat.reduceMul]
    exact dr out
end Go.Proofs.YtanchgkiomfhhaaDoor.Fw

/- The law of a fraction in lowest terms, told and read: true. -/
namespace Go.Proofs.YtanchgkiomfhhaaDoor.Fw
set_option linter.unusedSimpArgs false
set_option linter.unusedVariables false
open Go Go.Proofs.YtanchgkiomfhhaaDoor.Ma
set_option maxRecDepth 20000

def alQ (a : List UInt8 × List UInt8) : QQ := _root_.Rat.divInt (iRd a.1).1 (iRd a.2).1
def alOk (a : List UInt8 × List UInt8) : Bool := decide ((iRd a.1).2.1 = 0) && decide ((iRd a.2).2.1 = 0) && decide ((if (iRd a.2).1 = 0 then 2 else 0 : Nat) = 0)
abbrev qC' (x : QQ) : List AV := [IntB x.num, IntD x.num, IntB ((x.den : Int) - 1), IntD ((x.den : Int) - 1)]
end Go.Proofs.YtanchgkiomfhhaaDoor.Fw

/- The law of what the document's examples of fractions name: true. -/
namespace Go.Proofs.YtanchgkiomfhhaaDoor.Fw
set_option linter.unusedSimpArgs false
set_option linter.unusedVariables false
open Go Go.Proofs.YtanchgkiomfhhaaDoor.Ma
set_option maxRecDepth 20000

theorem ofq_run {H : AHeap} {Q : AV → AHeap → Prop} (hM : MlH H) {l : List UInt8} (hl : l.length ≤ 65536) {x : QQ} (hx : (qRd l).1 = x) (hq : Q (RatA x) H) : Run Tryd.prog 130 [Sx l] H Q := by
  subst hx
  refine enter130 (by simp) ?_
  simp (disch := first | assumption | (apply Ap.symm; assumption) | omega | decide | (simp only [Xd] <;> omega)) only [ac130, ↓Xa, Xb, Xc, ↓reduceIte, Nat.reduceLT, Nat.reduceEqDiff, Nat.reduceBEq, Nat.reduceLeDiff, Nat.reduceAdd, Nat.reduceMul]
  refine alloc_i fun p1 hp1 => ?_
  have n1 := hp1
  simp (disch := first | assumption | (apply Ap.symm; assumption) | omega | decide | (simp only [Xd] <;> omega)) only [↓Xa, Xb, Xc, ↓reduceIte, Nat.reduceLT, Nat.reduceEqDiff, Nat.reduceBEq, Nat.reduceLeDiff, Nat.reduceAdd, Nat.reduceMul]
  refine run_call (ratread_run (hM.upd n1) (by omega) ?_)
  simp (disch := first | assumption | (apply Ap.symm; assumption) | omega | decide | (simp only [Xd] <;> omega)) only [spot, ↓Xa, Xb, Xc, ↓reduceIte, Nat.reduceLT, Nat.reduceEqDiff, Nat.reduceBEq, Nat.reduceLeDiff, Nat.reduceAdd, Nat.reduceMul]
  refine alloc_i fun p2 hp2 => ?_
  have n2 := hp2
  simp only [upd_none] at n2
  obtain ⟨_, n2⟩ := n2
  simp (disch := first | assumption | (apply Ap.symm; assumption) | omega | decide | (simp only [Xd] <;> omega)) only [↓Xa, Xb, Xc, ↓reduceIte, Nat.reduceLT, Nat.reduceEqDiff, Nat.reduceBEq, Nat.reduceLeDiff, Nat.reduceAdd, Nat.reduceMul]
  refine alloc_i fun p3 hp3 => ?_
  have n3 := hp3
  simp only [upd_none] at n3
  obtain ⟨_, _, n3⟩ := n3
  simp (disch := first | assumption | (apply Ap.symm; assumption) | omega | decide | (simp only [Xd] <;> omega)) only [cells_RatA, cells_i2, fold_Raw, fold_RatA, rs130, ↓Xa, Xb, Xc, ↓reduceIte, Nat.reduceLT, Nat.reduceEqDiff, Nat.reduceBEq, Nat.reduceLeDiff, Nat.reduceAdd, Nat.reduceMul]
  exact SetR.dropTo ((((Le.refl H).updB n1).updB n2).updB n3) (SetR.now hq)
theorem rd_of {q : QQ} {l : List UInt8} (h : qText q = l) (hl : l.length ≤ 65536) : (qRd l).1 = q := by
  subst h; rw [qRd_text hl]
theorem of_run {H : AHeap} {Q : AV → AHeap → Prop} (q : QQ) (l : List UInt8) (h : qText q = l) (hl : l.length ≤ 65536) (hM : MlH H) (hq : Q (RatA q) H) : Run Tryd.prog 130 [Sx l] H Q := ofq_run hM hl (rd_of h hl) hq
theorem of_dcall {H : AHeap} {K : AV → List Nat → Option (Nat × ABlk) → Prop} {o : Bool} (q : QQ) (l : List UInt8) (h : qText q = l) (hl : l.length ≤ 65536) (hM : MlH H) (k : K (RatA q) [0] none) : dcall o Tryd.prog (.fn (.func 130) [] []) [Sx l] H K :=
  dcall_at 0 (fun H' Q' e hq => of_run q l h hl (let ⟨m, hm⟩ := hM; ⟨m, e.trans hm⟩) hq) k
theorem qT (n : Int) (d : Nat) (q : QQ) (hn : q.num = n) (hd : q.den = d) : qText q = iText n ++ (if d = 1 then [] else 47 :: iText (d : Int)) := by
  subst hn; subst hd; rfl
def k12 : QQ := mkRat 1 2
def k13 : QQ := mkRat 1 3
def k16 : QQ := mkRat 1 6
def k56 : QQ := mkRat 5 6
def k32 : QQ := mkRat 3 2
def km32 : QQ := mkRat (-3) 2
def km23 : QQ := mkRat (-2) 3
def k4 : QQ := mkRat 4 1
def k1 : QQ := mkRat 1 1
def k23 : QQ := mkRat 2 3
def k3 : QQ := mkRat 3 1
theorem t12 : qText k12 = [49, 47, 50] := by rw [qT 1 2 k12 (by decide +kernel) (by decide +kernel)]; simp [iText, decT, dec, digs, chr]
theorem t13 : qText k13 = [49, 47, 51] := by rw [qT 1 3 k13 (by decide +kernel) (by decide +kernel)]; simp [iText, decT, dec, digs, chr]
theorem t16 : qText k16 = [49, 47, 54] := by rw [qT 1 6 k16 (by decide +kernel) (by decide +kernel)]; simp [iText, decT, dec, digs, chr]
theorem t56 : qText k56 = [53, 47, 54] := by rw [qT 5 6 k56 (by decide +kernel) (by decide +kernel)]; simp [iText, decT, dec, digs, chr]
theorem t32 : qText k32 = [51, 47, 50] := by rw [qT 3 2 k32 (by decide +kernel) (by decide +kernel)]; simp [iText, decT, dec, digs, chr]
theorem tm32 : qText km32 = [45, 51, 47, 50] := by rw [qT (-3) 2 km32 (by decide +kernel) (by decide +kernel)]; simp [iText, decT, dec, digs, chr]
theorem tm23 : qText km23 = [45, 50, 47, 51] := by rw [qT (-2) 3 km23 (by decide +kernel) (by decide +kernel)]; simp [iText, decT, dec, digs, chr]
theorem t4 : qText k4 = [52] := by rw [qT 4 1 k4 (by decide +kernel) (by decide +kernel)]; simp [iText, decT, dec, digs, chr]
theorem t1 : qText k1 = [49] := by rw [qT 1 1 k1 (by decide +kernel) (by decide +kernel)]; simp [iText, decT, dec, digs, chr]
theorem t0 : qText 0 = [48] := by rw [qT 0 1 0 (by decide +kernel) (by decide +kernel)]; simp [iText, decT, dec, digs, chr]
theorem t23 : qText k23 = [50, 47, 51] := by rw [qT 2 3 k23 (by decide +kernel) (by decide +kernel)]; simp [iText, decT, dec, digs, chr]
theorem t3 : qText k3 = [51] := by rw [qT 3 1 k3 (by decide +kernel) (by decide +kernel)]; simp [iText, decT, dec, digs, chr]
def badL : List (List UInt8 × Nat) := [([52, 47, 54], 3), ([51, 47, 49], 3), ([48, 47, 53], 3), ([], 0), ([45], 1), ([49, 47], 2), ([49, 47, 45, 50], 2), ([49, 47, 48, 50], 2), ([45, 48], 1), ([48, 49], 1), ([49, 47, 50, 120], 3)]
theorem bad_at : ∀ x, x ∈ badL → qRd x.1 = (0, 6, x.2) := by
  have e1 : qRd [52, 47, 54] = (0, 6, 3) := by
    have h : qRd [52, 47, 54] = if qText k23 ≠ [52, 47, 54] then (0, 6, 3) else (k23, 0, 0) := by decide +kernel
    rw [h, t23]; rfl
  have e2 : qRd [51, 47, 49] = (0, 6, 3) := by
    have h : qRd [51, 47, 49] = if qText k3 ≠ [51, 47, 49] then (0, 6, 3) else (k3, 0, 0) := by decide +kernel
    rw [h, t3]; rfl
  have e3 : qRd [48, 47, 53] = (0, 6, 3) := by
    have h : qRd [48, 47, 53] = if qText 0 ≠ [48, 47, 53] then (0, 6, 3) else (0, 0, 0) := by decide +kernel
    rw [h, t0]; rfl
  intro x hx
  simp only [badL, List.mem_cons, List.not_mem_nil, or_false] at hx
  rcases hx with rfl | rfl | rfl | rfl | rfl | rfl | rfl | rfl | rfl | rfl | rfl
  · exact e1
  · exact e2
  · exact e3
  all_goals decide +kernel
theorem RB1 {q : QQ} (h : q.num.natAbs < 4294967296 ∧ q.den < 4294967296) : RB 1 q := by
  unfold RB Bd
  exact ⟨by simpa using h.1, by simpa using h.2⟩
theorem b12 : RB 1 k12 := RB1 (by decide +kernel)
theorem b13 : RB 1 k13 := RB1 (by decide +kernel)
theorem b16 : RB 1 k16 := RB1 (by decide +kernel)
theorem b56 : RB 1 k56 := RB1 (by decide +kernel)
theorem b32 : RB 1 k32 := RB1 (by decide +kernel)
theorem bm32 : RB 1 km32 := RB1 (by decide +kernel)
theorem bm23 : RB 1 km23 := RB1 (by decide +kernel)
theorem b4 : RB 1 k4 := RB1 (by decide +kernel)
theorem b1' : RB 1 k1 := RB1 (by decide +kernel)
theorem b0 : RB 1 (0 : QQ) := RB1 (by decide +kernel)
def bdC (x : List UInt8 × Nat) : List AV := [Sx x.1, .int .i64 ((x.2 : Nat) : Int)]
theorem bdC_len (x : List UInt8 × Nat) : (bdC x).length = 2 := rfl
theorem bad_small : ∀ x, x ∈ badL → x.1.length ≤ 65536 := by
  intro x hx
  simp only [badL, List.mem_cons, List.not_mem_nil, or_false] at hx
  rcases hx with rfl | rfl | rfl | rfl | rfl | rfl | rfl | rfl | rfl | rfl | rfl <;> decide
set_option maxHeartbeats 8000000 in
theorem ratioKnown_law {H : AHeap} {Q : AV → AHeap → Prop} (hM : MlH H) (hq : Q (.bool true) H) : Run Tryd.prog 22 [] H Q := by
  have s12 : AV.str ⟨#[49, 47, 50]⟩ = Sx [49, 47, 50] := rfl
  have s13 : AV.str ⟨#[49, 47, 51]⟩ = Sx [49, 47, 51] := rfl
  have s16 : AV.str ⟨#[49, 47, 54]⟩ = Sx [49, 47, 54] := rfl
  have s56 : AV.str ⟨#[53, 47, 54]⟩ = Sx [53, 47, 54] := rfl
  have s32 : AV.str ⟨#[51, 47, 50]⟩ = Sx [51, 47, 50] := rfl
  have sm32 : AV.str ⟨#[45, 51, 47, 50]⟩ = Sx [45, 51, 47, 50] := rfl
  have sm23 : AV.str ⟨#[45, 50, 47, 51]⟩ = Sx [45, 50, 47, 51] := rfl
  have s0 : AV.str ⟨#[48]⟩ = Sx [48] := rfl
  have s1 : AV.str ⟨#[49]⟩ = Sx [49] := rfl
  have s3 : AV.str ⟨#[51]⟩ = Sx [51] := rfl
  have s4 : AV.str ⟨#[52]⟩ = Sx [52] := rfl
  have s6 : AV.str ⟨#[54]⟩ = Sx [54] := rfl
  have sm4 : AV.str ⟨#[45, 52]⟩ = Sx [45, 52] := rfl
  have s24 : AV.str ⟨#[50, 52]⟩ = Sx [50, 52] := rfl
  have d0 : decide (((0 : Nat) : Int) = ((0 : Nat) : Int)) = true := rfl
  have d2 : decide (((2 : Nat) : Int) = ((2 : Nat) : Int)) = true := rfl
  have m1 := rmk_fn (k := 2) (Bd.i64 (n := ((1 : Nat) : Int)) (by omega)) (Bd.i64 (n := ((0 : Nat) : Int)) (by omega)) (by omega)
  rw [show _root_.Rat.divInt ((1 : Nat) : Int) ((0 : Nat) : Int) = 0 from by decide +kernel, if_pos (show ((0 : Nat) : Int) = 0 from rfl)] at m1
  have m2 := rmk_fn (k := 2) (Bd.i64 (n := ((0 : Nat) : Int)) (by omega)) (Bd.i64 (n := -5) (by omega)) (by omega)
  rw [show _root_.Rat.divInt ((0 : Nat) : Int) (-5) = 0 from by decide +kernel, if_neg (show ¬ (-5 : Int) = 0 by decide)] at m2
  have o1 := rover_q b12 b0 (by omega)
  rw [if_pos rfl, show k12 / 0 = (0 : QQ) from by decide +kernel] at o1
  have o2 := rover_q b12 b13 (by omega)
  rw [if_neg (show ¬ k13 = 0 by decide +kernel), show k12 / k13 = k32 from by decide +kernel] at o2
  refine enter22 (by simp) ?_
  simp (disch := first | assumption | (apply Ap.symm; assumption) | omega | decide | (simp only [Xd] <;> omega)) only [ac22, ↓Xa, Xb, Xc, ↓reduceIte, Nat.reduceLT, Nat.reduceEqDiff, Nat.reduceBEq, Nat.reduceLeDiff, Nat.reduceAdd, Nat.reduceMul]
  refine works_q.call ?_
  simp (disch := first | assumption | (apply Ap.symm; assumption) | omega | decide | (simp only [Xd] <;> omega)) only [↓Xa, Xb, Xc, ↓reduceIte, Nat.reduceLT, Nat.reduceEqDiff, Nat.reduceBEq, Nat.reduceLeDiff, Nat.reduceAdd, Nat.reduceMul]
  refine (of_fn (n := ((1 : Nat) : Int)) (by omega)).call ?_
  simp (disch := first | assumption | (apply Ap.symm; assumption) | omega | decide | (simp only [Xd] <;> omega)) only [↓Xa, Xb, Xc, ↓reduceIte, Nat.reduceLT, Nat.reduceEqDiff, Nat.reduceBEq, Nat.reduceLeDiff, Nat.reduceAdd, Nat.reduceMul]
  refine (of_fn (n := ((0 : Nat) : Int)) (by omega)).call ?_
  simp (disch := first | assumption | (apply Ap.symm; assumption) | omega | decide | (simp only [Xd] <;> omega)) only [↓Xa, Xb, Xc, ↓reduceIte, Nat.reduceLT, Nat.reduceEqDiff, Nat.reduceBEq, Nat.reduceLeDiff, Nat.reduceAdd, Nat.reduceMul]
  refine m1.call ?_
  simp (disch := first | assumption | (apply Ap.symm; assumption) | omega | decide | (simp only [Xd] <;> omega)) only [RatE, ↓Xa, Xb, Xc, ↓reduceIte, Nat.reduceLT, Nat.reduceEqDiff, Nat.reduceBEq, Nat.reduceLeDiff, Nat.reduceAdd, Nat.reduceMul]
  refine alloc_i fun p1 hp1 => ?_
  have n1 := hp1
  simp (disch := first | assumption | (apply Ap.symm; assumption) | omega | decide | (simp only [Xd] <;> omega)) only [cells_RatA, ↓Xa, Xb, Xc, ↓reduceIte, Nat.reduceLT, Nat.reduceEqDiff, Nat.reduceBEq, Nat.reduceLeDiff, Nat.reduceAdd, Nat.reduceMul]
  refine (of_fn (n := ((0 : Nat) : Int)) (by omega)).call ?_
  simp (disch := first | assumption | (apply Ap.symm; assumption) | omega | decide | (simp only [Xd] <;> omega)) only [↓Xa, Xb, Xc, ↓reduceIte, Nat.reduceLT, Nat.reduceEqDiff, Nat.reduceBEq, Nat.reduceLeDiff, Nat.reduceAdd, Nat.reduceMul]
  refine (of_fn (n := -5) (by omega)).call ?_
  simp (disch := first | assumption | (apply Ap.symm; assumption) | omega | decide | (simp only [Xd] <;> omega)) only [↓Xa, Xb, Xc, ↓reduceIte, Nat.reduceLT, Nat.reduceEqDiff, Nat.reduceBEq, Nat.reduceLeDiff, Nat.reduceAdd, Nat.reduceMul]
  refine m2.call ?_
  simp (disch := first | assumption | (apply Ap.symm; assumption) | omega | decide | (simp only [Xd] <;> omega)) only [RatE, ↓Xa, Xb, Xc, ↓reduceIte, Nat.reduceLT, Nat.reduceEqDiff, Nat.reduceBEq, Nat.reduceLeDiff, Nat.reduceAdd, Nat.reduceMul]
  refine alloc_i fun p2 hp2 => ?_
  have n2 := hp2
  simp only [upd_none] at n2
  obtain ⟨_, n2⟩ := n2
  simp (disch := first | assumption | (apply Ap.symm; assumption) | omega | decide | (simp only [Xd] <;> omega)) only [cells_RatA, s12, ↓Xa, Xb, Xc, ↓reduceIte, Nat.reduceLT, Nat.reduceEqDiff, Nat.reduceBEq, Nat.reduceLeDiff, Nat.reduceAdd, Nat.reduceMul]
  refine run_call (of_run k12 _ t12 (by decide) (hM.le (((Le.refl H).updB n1).updB n2)) ?_)
  simp (disch := first | assumption | (apply Ap.symm; assumption) | omega | decide | (simp only [Xd] <;> omega)) only [s0, ↓Xa, Xb, Xc, ↓reduceIte, Nat.reduceLT, Nat.reduceEqDiff, Nat.reduceBEq, Nat.reduceLeDiff, Nat.reduceAdd, Nat.reduceMul]
  refine run_call (of_run 0 _ t0 (by decide) (hM.le (((Le.refl H).updB n1).updB n2)) ?_)
  simp (disch := first | assumption | (apply Ap.symm; assumption) | omega | decide | (simp only [Xd] <;> omega)) only [↓Xa, Xb, Xc, ↓reduceIte, Nat.reduceLT, Nat.reduceEqDiff, Nat.reduceBEq, Nat.reduceLeDiff, Nat.reduceAdd, Nat.reduceMul]
  refine o1.call ?_
  simp (disch := first | assumption | (apply Ap.symm; assumption) | omega | decide | (simp only [Xd] <;> omega)) only [RatE, ↓Xa, Xb, Xc, ↓reduceIte, Nat.reduceLT, Nat.reduceEqDiff, Nat.reduceBEq, Nat.reduceLeDiff, Nat.reduceAdd, Nat.reduceMul]
  refine alloc_i fun p3 hp3 => ?_
  have n3 := hp3
  simp only [upd_none] at n3
  obtain ⟨_, _, n3⟩ := n3
  simp (disch := first | assumption | (apply Ap.symm; assumption) | omega | decide | (simp only [Xd] <;> omega)) only [cells_RatA, s12, ↓Xa, Xb, Xc, ↓reduceIte, Nat.reduceLT, Nat.reduceEqDiff, Nat.reduceBEq, Nat.reduceLeDiff, Nat.reduceAdd, Nat.reduceMul]
  refine run_call (of_run k12 _ t12 (by decide) (hM.le ((((Le.refl H).updB n1).updB n2).updB n3)) ?_)
  simp (disch := first | assumption | (apply Ap.symm; assumption) | omega | decide | (simp only [Xd] <;> omega)) only [s13, ↓Xa, Xb, Xc, ↓reduceIte, Nat.reduceLT, Nat.reduceEqDiff, Nat.reduceBEq, Nat.reduceLeDiff, Nat.reduceAdd, Nat.reduceMul]
  refine run_call (of_run k13 _ t13 (by decide) (hM.le ((((Le.refl H).updB n1).updB n2).updB n3)) ?_)
  simp (disch := first | assumption | (apply Ap.symm; assumption) | omega | decide | (simp only [Xd] <;> omega)) only [↓Xa, Xb, Xc, ↓reduceIte, Nat.reduceLT, Nat.reduceEqDiff, Nat.reduceBEq, Nat.reduceLeDiff, Nat.reduceAdd, Nat.reduceMul]
  refine o2.call ?_
  simp (disch := first | assumption | (apply Ap.symm; assumption) | omega | decide | (simp only [Xd] <;> omega)) only [RatE, ↓Xa, Xb, Xc, ↓reduceIte, Nat.reduceLT, Nat.reduceEqDiff, Nat.reduceBEq, Nat.reduceLeDiff, Nat.reduceAdd, Nat.reduceMul]
  refine alloc_i fun p4 hp4 => ?_
  have n4 := hp4
  simp only [upd_none] at n4
  obtain ⟨_, _, _, n4⟩ := n4
  simp (disch := first | assumption | (apply Ap.symm; assumption) | omega | decide | (simp only [Xd] <;> omega)) only [cells_RatA, neq_int, d0, d2, Bool.not_true, fold_Raw, fold_RatA, ↓Xa, Xb, Xc, ↓reduceIte, Nat.reduceLT, Nat.reduceEqDiff, Nat.reduceBEq, Nat.reduceLeDiff, Nat.reduceAdd, Nat.reduceMul]
  refine (rtextq_fn b0 (by omega)).call ?_
  rw [t0]
  simp (disch := first | assumption | (apply Ap.symm; assumption) | omega | decide | (simp only [Xd] <;> omega)) only [s0, neq_Sx, decide_true, neq_int, d0, d2, Bool.not_true, fold_Raw, fold_RatA, ↓Xa, Xb, Xc, ↓reduceIte, Nat.reduceLT, Nat.reduceEqDiff, Nat.reduceBEq, Nat.reduceLeDiff, Nat.reduceAdd, Nat.reduceMul]
  refine (rtextq_fn b32 (by omega)).call ?_
  rw [t32]
  simp (disch := first | assumption | (apply Ap.symm; assumption) | omega | decide | (simp only [Xd] <;> omega)) only [s32, neq_Sx, decide_true, ↓Xa, Xb, Xc, ↓reduceIte, Nat.reduceLT, Nat.reduceEqDiff, Nat.reduceBEq, Nat.reduceLeDiff, Nat.reduceAdd, Nat.reduceMul]
  refine alloc_i fun p5 hp5 => ?_
  have n5 := hp5
  simp only [upd_none] at n5
  obtain ⟨_, _, _, _, n5⟩ := n5
  have x0 := rtextq_fn b0 (by omega)
  rw [t0] at x0
  have x12 := rtextq_fn b12 (by omega)
  rw [t12] at x12
  have x56 := rtextq_fn b56 (by omega)
  rw [t56] at x56
  have x16 := rtextq_fn b16 (by omega)
  rw [t16] at x16
  have xm32 := rtextq_fn bm32 (by omega)
  rw [tm32] at xm32
  have x4 := rtextq_fn b4 (by omega)
  rw [t4] at x4
  have x1 := rtextq_fn b1' (by omega)
  rw [t1] at x1
  have dn0 := rden_fn b0 (by omega)
  rw [show (((0 : QQ).den : Nat) : Int) = 1 from rfl] at dn0
  have wh0 := rwhole_fn b0 (by omega)
  rw [show decide ((0 : QQ).den = 1) = true from by decide +kernel] at wh0
  have sg0 := rsgn_fn b0 (by omega)
  rw [show sgnI (0 : QQ).num = ((0 : Nat) : Int) from by decide +kernel] at sg0
  have ad0 := radd_fn b0 b12 (by omega)
  rw [show (0 : QQ) + k12 = k12 from by decide +kernel] at ad0
  have mu0 := rmul_fn b0 b12 (by omega)
  rw [show (0 : QQ) * k12 = 0 from by decide +kernel] at mu0
  have cm0 := rcmp_q b0 b0 (by omega)
  rw [show cmpQ 0 0 = ((0 : Nat) : Int) from by decide +kernel] at cm0
  have ng0 := rneg2_fn b0 (by omega)
  rw [show -(0 : QQ) = 0 from by decide +kernel] at ng0
  have ad1 := radd_fn b12 b13 (by omega)
  rw [show k12 + k13 = k56 from by decide +kernel] at ad1
  have su1 := rsub_fn b12 b13 (by omega)
  rw [show k12 - k13 = k16 from by decide +kernel] at su1
  have mu1 := rmul_fn b12 b13 (by omega)
  rw [show k12 * k13 = k16 from by decide +kernel] at mu1
  have cm1 := rcmp_q b12 b13 (by omega)
  rw [show cmpQ k12 k13 = ((1 : Nat) : Int) from by decide +kernel] at cm1
  have i1 := itext_fn (x := 1) (k := 1) (by unfold Bd; decide) (by omega)
  rw [show iText 1 = [49] from by simp [iText, decT, dec, digs, chr]] at i1
  have i3 := itext_fn (x := 3) (k := 1) (by unfold Bd; decide) (by omega)
  rw [show iText 3 = [51] from by simp [iText, decT, dec, digs, chr]] at i3
  have im4 := itext_fn (x := -4) (k := 1) (by unfold Bd; decide) (by omega)
  rw [show iText (-4) = [45, 52] from by simp [iText, decT, dec, digs, chr]] at im4
  have i24 := itext_fn (x := 24) (k := 1) (by unfold Bd; decide) (by omega)
  rw [show iText 24 = [50, 52] from by simp [iText, decT, dec, digs, chr]] at i24
  have i6 := itext_fn (x := 6) (k := 1) (by unfold Bd; decide) (by omega)
  rw [show iText 6 = [54] from by simp [iText, decT, dec, digs, chr]] at i6
  have hM4 : ∀ {x1 x2 x3 x4 x5 : ABlk}, MlH (((((H.upd p1 (some x1)).upd p2 (some x2)).upd p3 (some x3)).upd p4 (some x4)).upd p5 (some x5)) := hM.le ((((((Le.refl H).updB n1).updB n2).updB n3).updB n4).updB n5)
  simp (disch := first | assumption | (apply Ap.symm; assumption) | omega | decide | (simp only [Xd] <;> omega)) only [fold_Raw, fold_RatA, RawR_0, ↓Xa, Xb, Xc, ↓reduceIte, Nat.reduceLT, Nat.reduceEqDiff, Nat.reduceBEq, Nat.reduceLeDiff, Nat.reduceAdd, Nat.reduceMul]
  refine PFn.dcall x0 ?_
  simp (disch := first | assumption | (apply Ap.symm; assumption) | omega | decide | (simp only [Xd] <;> omega)) only [s0, neq_Sx, decide_true, fold_Raw, fold_RatA, RawR_0, ↓Xa, Xb, Xc, ↓reduceIte, Nat.reduceLT, Nat.reduceEqDiff, Nat.reduceBEq, Nat.reduceLeDiff, Nat.reduceAdd, Nat.reduceMul]
  refine PFn.dcall dn0 ?_
  simp (disch := first | assumption | (apply Ap.symm; assumption) | omega | decide | (simp only [Xd] <;> omega)) only [↓Xa, Xb, Xc, ↓reduceIte, Nat.reduceLT, Nat.reduceEqDiff, Nat.reduceBEq, Nat.reduceLeDiff, Nat.reduceAdd, Nat.reduceMul]
  refine PFn.dcall i1 ?_
  simp (disch := first | assumption | (apply Ap.symm; assumption) | omega | decide | (simp only [Xd] <;> omega)) only [s1, neq_Sx, decide_true, fold_Raw, fold_RatA, RawR_0, ↓Xa, Xb, Xc, ↓reduceIte, Nat.reduceLT, Nat.reduceEqDiff, Nat.reduceBEq, Nat.reduceLeDiff, Nat.reduceAdd, Nat.reduceMul]
  refine PFn.dcall wh0 ?_
  simp (disch := first | assumption | (apply Ap.symm; assumption) | omega | decide | (simp only [Xd] <;> omega)) only [Bool.not_true, fold_Raw, fold_RatA, RawR_0, ↓Xa, Xb, Xc, ↓reduceIte, Nat.reduceLT, Nat.reduceEqDiff, Nat.reduceBEq, Nat.reduceLeDiff, Nat.reduceAdd, Nat.reduceMul]
  refine PFn.dcall sg0 ?_
  simp (disch := first | assumption | (apply Ap.symm; assumption) | omega | decide | (simp only [Xd] <;> omega)) only [neq_int, d0, Bool.not_true, s12, fold_Raw, fold_RatA, RawR_0, ↓Xa, Xb, Xc, ↓reduceIte, Nat.reduceLT, Nat.reduceEqDiff, Nat.reduceBEq, Nat.reduceLeDiff, Nat.reduceAdd, Nat.reduceMul]
  refine of_dcall k12 _ t12 (by decide) hM4 ?_
  simp (disch := first | assumption | (apply Ap.symm; assumption) | omega | decide | (simp only [Xd] <;> omega)) only [↓Xa, Xb, Xc, ↓reduceIte, Nat.reduceLT, Nat.reduceEqDiff, Nat.reduceBEq, Nat.reduceLeDiff, Nat.reduceAdd, Nat.reduceMul]
  refine PFn.dcall ad0 ?_
  simp (disch := first | assumption | (apply Ap.symm; assumption) | omega | decide | (simp only [Xd] <;> omega)) only [↓Xa, Xb, Xc, ↓reduceIte, Nat.reduceLT, Nat.reduceEqDiff, Nat.reduceBEq, Nat.reduceLeDiff, Nat.reduceAdd, Nat.reduceMul]
  refine PFn.dcall x12 ?_
  simp (disch := first | assumption | (apply Ap.symm; assumption) | omega | decide | (simp only [Xd] <;> omega)) only [s12, neq_Sx, decide_true, fold_Raw, fold_RatA, RawR_0, ↓Xa, Xb, Xc, ↓reduceIte, Nat.reduceLT, Nat.reduceEqDiff, Nat.reduceBEq, Nat.reduceLeDiff, Nat.reduceAdd, Nat.reduceMul]
  refine of_dcall k12 _ t12 (by decide) hM4 ?_
  simp (disch := first | assumption | (apply Ap.symm; assumption) | omega | decide | (simp only [Xd] <;> omega)) only [↓Xa, Xb, Xc, ↓reduceIte, Nat.reduceLT, Nat.reduceEqDiff, Nat.reduceBEq, Nat.reduceLeDiff, Nat.reduceAdd, Nat.reduceMul]
  refine PFn.dcall mu0 ?_
  simp (disch := first | assumption | (apply Ap.symm; assumption) | omega | decide | (simp only [Xd] <;> omega)) only [↓Xa, Xb, Xc, ↓reduceIte, Nat.reduceLT, Nat.reduceEqDiff, Nat.reduceBEq, Nat.reduceLeDiff, Nat.reduceAdd, Nat.reduceMul]
  refine PFn.dcall x0 ?_
  simp (disch := first | assumption | (apply Ap.symm; assumption) | omega | decide | (simp only [Xd] <;> omega)) only [s0, neq_Sx, decide_true, fold_Raw, fold_RatA, RawR_0, ↓Xa, Xb, Xc, ↓reduceIte, Nat.reduceLT, Nat.reduceEqDiff, Nat.reduceBEq, Nat.reduceLeDiff, Nat.reduceAdd, Nat.reduceMul]
  refine cm0.call ?_
  simp (disch := first | assumption | (apply Ap.symm; assumption) | omega | decide | (simp only [Xd] <;> omega)) only [neq_int, d0, Bool.not_true, fold_Raw, fold_RatA, RawR_0, ↓Xa, Xb, Xc, ↓reduceIte, Nat.reduceLT, Nat.reduceEqDiff, Nat.reduceBEq, Nat.reduceLeDiff, Nat.reduceAdd, Nat.reduceMul]
  refine ng0.call ?_
  simp (disch := first | assumption | (apply Ap.symm; assumption) | omega | decide | (simp only [Xd] <;> omega)) only [↓Xa, Xb, Xc, ↓reduceIte, Nat.reduceLT, Nat.reduceEqDiff, Nat.reduceBEq, Nat.reduceLeDiff, Nat.reduceAdd, Nat.reduceMul]
  refine x0.call ?_
  simp (disch := first | assumption | (apply Ap.symm; assumption) | omega | decide | (simp only [Xd] <;> omega)) only [s0, neq_Sx, decide_true, s12, ↓Xa, Xb, Xc, ↓reduceIte, Nat.reduceLT, Nat.reduceEqDiff, Nat.reduceBEq, Nat.reduceLeDiff, Nat.reduceAdd, Nat.reduceMul]
  refine run_call (of_run k12 _ t12 (by decide) hM4 ?_)
  simp (disch := first | assumption | (apply Ap.symm; assumption) | omega | decide | (simp only [Xd] <;> omega)) only [s13, ↓Xa, Xb, Xc, ↓reduceIte, Nat.reduceLT, Nat.reduceEqDiff, Nat.reduceBEq, Nat.reduceLeDiff, Nat.reduceAdd, Nat.reduceMul]
  refine run_call (of_run k13 _ t13 (by decide) hM4 ?_)
  simp (disch := first | assumption | (apply Ap.symm; assumption) | omega | decide | (simp only [Xd] <;> omega)) only [↓Xa, Xb, Xc, ↓reduceIte, Nat.reduceLT, Nat.reduceEqDiff, Nat.reduceBEq, Nat.reduceLeDiff, Nat.reduceAdd, Nat.reduceMul]
  refine ad1.call ?_
  simp (disch := first | assumption | (apply Ap.symm; assumption) | omega | decide | (simp only [Xd] <;> omega)) only [↓Xa, Xb, Xc, ↓reduceIte, Nat.reduceLT, Nat.reduceEqDiff, Nat.reduceBEq, Nat.reduceLeDiff, Nat.reduceAdd, Nat.reduceMul]
  refine x56.call ?_
  simp (disch := first | assumption | (apply Ap.symm; assumption) | omega | decide | (simp only [Xd] <;> omega)) only [s56, neq_Sx, decide_true, s12, ↓Xa, Xb, Xc, ↓reduceIte, Nat.reduceLT, Nat.reduceEqDiff, Nat.reduceBEq, Nat.reduceLeDiff, Nat.reduceAdd, Nat.reduceMul]
  refine run_call (of_run k12 _ t12 (by decide) hM4 ?_)
  simp (disch := first | assumption | (apply Ap.symm; assumption) | omega | decide | (simp only [Xd] <;> omega)) only [s13, ↓Xa, Xb, Xc, ↓reduceIte, Nat.reduceLT, Nat.reduceEqDiff, Nat.reduceBEq, Nat.reduceLeDiff, Nat.reduceAdd, Nat.reduceMul]
  refine run_call (of_run k13 _ t13 (by decide) hM4 ?_)
  simp (disch := first | assumption | (apply Ap.symm; assumption) | omega | decide | (simp only [Xd] <;> omega)) only [↓Xa, Xb, Xc, ↓reduceIte, Nat.reduceLT, Nat.reduceEqDiff, Nat.reduceBEq, Nat.reduceLeDiff, Nat.reduceAdd, Nat.reduceMul]
  refine su1.call ?_
  simp (disch := first | assumption | (apply Ap.symm; assumption) | omega | decide | (simp only [Xd] <;> omega)) only [↓Xa, Xb, Xc, ↓reduceIte, Nat.reduceLT, Nat.reduceEqDiff, Nat.reduceBEq, Nat.reduceLeDiff, Nat.reduceAdd, Nat.reduceMul]
  refine x16.call ?_
  simp (disch := first | assumption | (apply Ap.symm; assumption) | omega | decide | (simp only [Xd] <;> omega)) only [s16, neq_Sx, decide_true, s12, ↓Xa, Xb, Xc, ↓reduceIte, Nat.reduceLT, Nat.reduceEqDiff, Nat.reduceBEq, Nat.reduceLeDiff, Nat.reduceAdd, Nat.reduceMul]
  refine run_call (of_run k12 _ t12 (by decide) hM4 ?_)
  simp (disch := first | assumption | (apply Ap.symm; assumption) | omega | decide | (simp only [Xd] <;> omega)) only [s13, ↓Xa, Xb, Xc, ↓reduceIte, Nat.reduceLT, Nat.reduceEqDiff, Nat.reduceBEq, Nat.reduceLeDiff, Nat.reduceAdd, Nat.reduceMul]
  refine run_call (of_run k13 _ t13 (by decide) hM4 ?_)
  simp (disch := first | assumption | (apply Ap.symm; assumption) | omega | decide | (simp only [Xd] <;> omega)) only [↓Xa, Xb, Xc, ↓reduceIte, Nat.reduceLT, Nat.reduceEqDiff, Nat.reduceBEq, Nat.reduceLeDiff, Nat.reduceAdd, Nat.reduceMul]
  refine mu1.call ?_
  simp (disch := first | assumption | (apply Ap.symm; assumption) | omega | decide | (simp only [Xd] <;> omega)) only [↓Xa, Xb, Xc, ↓reduceIte, Nat.reduceLT, Nat.reduceEqDiff, Nat.reduceBEq, Nat.reduceLeDiff, Nat.reduceAdd, Nat.reduceMul]
  refine x16.call ?_
  simp (disch := first | assumption | (apply Ap.symm; assumption) | omega | decide | (simp only [Xd] <;> omega)) only [s16, neq_Sx, decide_true, s12, ↓Xa, Xb, Xc, ↓reduceIte, Nat.reduceLT, Nat.reduceEqDiff, Nat.reduceBEq, Nat.reduceLeDiff, Nat.reduceAdd, Nat.reduceMul]
  refine run_call (of_run k12 _ t12 (by decide) hM4 ?_)
  simp (disch := first | assumption | (apply Ap.symm; assumption) | omega | decide | (simp only [Xd] <;> omega)) only [s13, ↓Xa, Xb, Xc, ↓reduceIte, Nat.reduceLT, Nat.reduceEqDiff, Nat.reduceBEq, Nat.reduceLeDiff, Nat.reduceAdd, Nat.reduceMul]
  refine run_call (of_run k13 _ t13 (by decide) hM4 ?_)
  simp (disch := first | assumption | (apply Ap.symm; assumption) | omega | decide | (simp only [Xd] <;> omega)) only [↓Xa, Xb, Xc, ↓reduceIte, Nat.reduceLT, Nat.reduceEqDiff, Nat.reduceBEq, Nat.reduceLeDiff, Nat.reduceAdd, Nat.reduceMul]
  refine cm1.call ?_
  have d1 : decide (((1 : Nat) : Int) = ((1 : Nat) : Int)) = true := rfl
  simp (disch := first | assumption | (apply Ap.symm; assumption) | omega | decide | (simp only [Xd] <;> omega)) only [neq_int, d1, Bool.not_true, s12, ↓Xa, Xb, Xc, ↓reduceIte, Nat.reduceLT, Nat.reduceEqDiff, Nat.reduceBEq, Nat.reduceLeDiff, Nat.reduceAdd, Nat.reduceMul]
  refine run_call (of_run k12 _ t12 (by decide) hM4 ?_)
  simp (disch := first | assumption | (apply Ap.symm; assumption) | omega | decide | (simp only [Xd] <;> omega)) only [sm23, ↓Xa, Xb, Xc, ↓reduceIte, Nat.reduceLT, Nat.reduceEqDiff, Nat.reduceBEq, Nat.reduceLeDiff, Nat.reduceAdd, Nat.reduceMul]
  refine run_call (of_run km23 _ tm23 (by decide) hM4 ?_)
  simp (disch := first | assumption | (apply Ap.symm; assumption) | omega | decide | (simp only [Xd] <;> omega)) only [s4, ↓Xa, Xb, Xc, ↓reduceIte, Nat.reduceLT, Nat.reduceEqDiff, Nat.reduceBEq, Nat.reduceLeDiff, Nat.reduceAdd, Nat.reduceMul]
  refine run_call (of_run k4 _ t4 (by decide) hM4 ?_)
  have rp : List.drop 4 (List.drop 4 (List.drop 4 (repA [.bool false, .seq 0 [] true, .bool false, .seq 0 [] true] 12))) = [] := by simp [repA, List.range, List.range.loop]
  have c1 := rcommon_fn (l := [k12, km23, k4]) (t := true) (k := 2) (fun q hq => by
    simp only [List.mem_cons, List.not_mem_nil, or_false] at hq
    rcases hq with rfl | rfl | rfl
    · exact b12.mono (by omega)
    · exact bm23.mono (by omega)
    · exact b4.mono (by omega)) (by decide) (by omega) (by omega)
  rw [show comD 1 [k12, km23, k4] = 6 from by decide +kernel, show [k12, km23, k4].map (comN 6) = [3, -4, 24] from by decide +kernel] at c1
  have c0 := rcommon_fn (l := []) (t := true) (k := 2) (fun q hq => by simp at hq) (by decide) (by omega) (by omega)
  rw [show comD 1 [] = 1 from rfl] at c0
  have u1 := rsum_fn (l := [k12, k13, k16]) (t := true) (k := 2) (fun q hq => by
    simp only [List.mem_cons, List.not_mem_nil, or_false] at hq
    rcases hq with rfl | rfl | rfl
    · exact b12.mono (by omega)
    · exact b13.mono (by omega)
    · exact b16.mono (by omega)) (by decide) (by omega)
  rw [show sumQ 0 [k12, k13, k16] = k1 from by decide +kernel] at u1
  have u0 := rsum_fn (l := []) (t := true) (k := 2) (fun q hq => by simp at hq) (by decide) (by omega)
  rw [show sumQ 0 [] = 0 from rfl] at u0
  simp (disch := first | assumption | (apply Ap.symm; assumption) | omega | decide | (simp only [Xd] <;> omega)) only [cells_RatA, rp, ↓Xa, Xb, Xc, ↓reduceIte, Nat.reduceLT, Nat.reduceEqDiff, Nat.reduceBEq, Nat.reduceLeDiff, Nat.reduceAdd, Nat.reduceMul]
  refine (show PFn _ _ _ (.tup [.seq 3 (IC [3, -4, 24]) false, IntA 6]) from c1).call ?_
  simp (disch := first | assumption | (apply Ap.symm; assumption) | omega | decide | (simp only [Xd] <;> omega)) only [↓Xa, Xb, Xc, ↓reduceIte, Nat.reduceLT, Nat.reduceEqDiff, Nat.reduceBEq, Nat.reduceLeDiff, Nat.reduceAdd, Nat.reduceMul]
  refine alloc_i fun p6 hp6 => ?_
  have n6 := hp6
  simp only [upd_none] at n6
  obtain ⟨_, _, _, _, _, n6⟩ := n6
  simp (disch := first | assumption | (apply Ap.symm; assumption) | omega | decide | (simp only [Xd] <;> omega)) only [cells_IntA, ↓Xa, Xb, Xc, ↓reduceIte, Nat.reduceLT, Nat.reduceEqDiff, Nat.reduceBEq, Nat.reduceLeDiff, Nat.reduceAdd, Nat.reduceMul]
  refine (show PFn _ _ _ (.tup [.seq 0 [] false, IntA 1]) from c0).call ?_
  simp (disch := first | assumption | (apply Ap.symm; assumption) | omega | decide | (simp only [Xd] <;> omega)) only [↓Xa, Xb, Xc, ↓reduceIte, Nat.reduceLT, Nat.reduceEqDiff, Nat.reduceBEq, Nat.reduceLeDiff, Nat.reduceAdd, Nat.reduceMul]
  refine alloc_i fun p7 hp7 => ?_
  have n7 := hp7
  simp only [upd_none] at n7
  obtain ⟨_, _, _, _, _, _, n7⟩ := n7
  have dr0 : ∀ {K : AV → Prop}, idxAW 2 (.seq 3 (IC [3, -4, 24]) false) (.int .i64 ((0 : Nat) : Int)) K = K (.cptr (IC [3, -4, 24])) := fun {K} => idx_rw (n := 3) (i := 0) rfl (by omega)
  have dr1 : ∀ {K : AV → Prop}, idxAW 2 (.seq 3 (IC [3, -4, 24]) false) (.int .i64 ((1 : Nat) : Int)) K = K (.cptr (IC [-4, 24])) := fun {K} => idx_rw (n := 3) (i := 1) rfl (by omega)
  have dr2 : ∀ {K : AV → Prop}, idxAW 2 (.seq 3 (IC [3, -4, 24]) false) (.int .i64 ((2 : Nat) : Int)) K = K (.cptr (IC [24])) := fun {K} => idx_rw (n := 3) (i := 2) rfl (by omega)
  have l3 : ∀ {H : AHeap} {K : AV → Prop}, loadW H (some 2) (.cptr (IC [3, -4, 24])) K = K (IntA 3) := fun {H K} => load_IC (zs := [3, -4, 24]) (i := 0) (by decide)
  have lm4 : ∀ {H : AHeap} {K : AV → Prop}, loadW H (some 2) (.cptr (IC [-4, 24])) K = K (IntA (-4)) := fun {H K} => load_IC (zs := [-4, 24]) (i := 0) (by decide)
  have l24 : ∀ {H : AHeap} {K : AV → Prop}, loadW H (some 2) (.cptr (IC [24])) K = K (IntA 24) := fun {H K} => load_IC (zs := [24]) (i := 0) (by decide)
  have d3 : decide (((3 : Nat) : Int) = ((3 : Nat) : Int)) = true := rfl
  have hM7 : ∀ {x1 x2 x3 x4 x5 x6 x7 : ABlk}, MlH (((((((H.upd p1 (some x1)).upd p2 (some x2)).upd p3 (some x3)).upd p4 (some x4)).upd p5 (some x5)).upd p6 (some x6)).upd p7 (some x7)) := hM.le ((((((((Le.refl H).updB n1).updB n2).updB n3).updB n4).updB n5).updB n6).updB n7)
  simp (disch := first | assumption | (apply Ap.symm; assumption) | omega | decide | (simp only [Xd] <;> omega)) only [cells_IntA, len_rw, neq_int, d3, Bool.not_true, dr0, l3, ↓Xa, Xb, Xc, ↓reduceIte, Nat.reduceLT, Nat.reduceEqDiff, Nat.reduceBEq, Nat.reduceLeDiff, Nat.reduceAdd, Nat.reduceMul]
  refine i3.call ?_
  simp (disch := first | assumption | (apply Ap.symm; assumption) | omega | decide | (simp only [Xd] <;> omega)) only [s3, neq_Sx, decide_true, dr1, lm4, ↓Xa, Xb, Xc, ↓reduceIte, Nat.reduceLT, Nat.reduceEqDiff, Nat.reduceBEq, Nat.reduceLeDiff, Nat.reduceAdd, Nat.reduceMul]
  refine im4.call ?_
  simp (disch := first | assumption | (apply Ap.symm; assumption) | omega | decide | (simp only [Xd] <;> omega)) only [sm4, neq_Sx, decide_true, dr2, l24, ↓Xa, Xb, Xc, ↓reduceIte, Nat.reduceLT, Nat.reduceEqDiff, Nat.reduceBEq, Nat.reduceLeDiff, Nat.reduceAdd, Nat.reduceMul]
  refine i24.call ?_
  simp (disch := first | assumption | (apply Ap.symm; assumption) | omega | decide | (simp only [Xd] <;> omega)) only [s24, neq_Sx, decide_true, fold_IntA, ↓Xa, Xb, Xc, ↓reduceIte, Nat.reduceLT, Nat.reduceEqDiff, Nat.reduceBEq, Nat.reduceLeDiff, Nat.reduceAdd, Nat.reduceMul]
  refine i6.call ?_
  simp (disch := first | assumption | (apply Ap.symm; assumption) | omega | decide | (simp only [Xd] <;> omega)) only [s6, neq_Sx, decide_true, len_rw, neq_int, d0, Bool.not_true, fold_IntA, ↓Xa, Xb, Xc, ↓reduceIte, Nat.reduceLT, Nat.reduceEqDiff, Nat.reduceBEq, Nat.reduceLeDiff, Nat.reduceAdd, Nat.reduceMul]
  refine i1.call ?_
  simp (disch := first | assumption | (apply Ap.symm; assumption) | omega | decide | (simp only [Xd] <;> omega)) only [s1, neq_Sx, decide_true, s12, ↓Xa, Xb, Xc, ↓reduceIte, Nat.reduceLT, Nat.reduceEqDiff, Nat.reduceBEq, Nat.reduceLeDiff, Nat.reduceAdd, Nat.reduceMul]
  refine run_call (of_run k12 _ t12 (by decide) hM7 ?_)
  simp (disch := first | assumption | (apply Ap.symm; assumption) | omega | decide | (simp only [Xd] <;> omega)) only [s13, ↓Xa, Xb, Xc, ↓reduceIte, Nat.reduceLT, Nat.reduceEqDiff, Nat.reduceBEq, Nat.reduceLeDiff, Nat.reduceAdd, Nat.reduceMul]
  refine run_call (of_run k13 _ t13 (by decide) hM7 ?_)
  simp (disch := first | assumption | (apply Ap.symm; assumption) | omega | decide | (simp only [Xd] <;> omega)) only [s16, ↓Xa, Xb, Xc, ↓reduceIte, Nat.reduceLT, Nat.reduceEqDiff, Nat.reduceBEq, Nat.reduceLeDiff, Nat.reduceAdd, Nat.reduceMul]
  refine run_call (of_run k16 _ t16 (by decide) hM7 ?_)
  simp (disch := first | assumption | (apply Ap.symm; assumption) | omega | decide | (simp only [Xd] <;> omega)) only [cells_RatA, rp, ↓Xa, Xb, Xc, ↓reduceIte, Nat.reduceLT, Nat.reduceEqDiff, Nat.reduceBEq, Nat.reduceLeDiff, Nat.reduceAdd, Nat.reduceMul]
  refine u1.call ?_
  simp (disch := first | assumption | (apply Ap.symm; assumption) | omega | decide | (simp only [Xd] <;> omega)) only [↓Xa, Xb, Xc, ↓reduceIte, Nat.reduceLT, Nat.reduceEqDiff, Nat.reduceBEq, Nat.reduceLeDiff, Nat.reduceAdd, Nat.reduceMul]
  refine x1.call ?_
  simp (disch := first | assumption | (apply Ap.symm; assumption) | omega | decide | (simp only [Xd] <;> omega)) only [s1, neq_Sx, decide_true, ↓Xa, Xb, Xc, ↓reduceIte, Nat.reduceLT, Nat.reduceEqDiff, Nat.reduceBEq, Nat.reduceLeDiff, Nat.reduceAdd, Nat.reduceMul]
  refine u0.call ?_
  simp (disch := first | assumption | (apply Ap.symm; assumption) | omega | decide | (simp only [Xd] <;> omega)) only [↓Xa, Xb, Xc, ↓reduceIte, Nat.reduceLT, Nat.reduceEqDiff, Nat.reduceBEq, Nat.reduceLeDiff, Nat.reduceAdd, Nat.reduceMul]
  refine x0.call ?_
  simp (disch := first | assumption | (apply Ap.symm; assumption) | omega | decide | (simp only [Xd] <;> omega)) only [s0, neq_Sx, decide_true, len_rw, ↓Xa, Xb, Xc, ↓reduceIte, Nat.reduceLT, Nat.reduceEqDiff, Nat.reduceBEq, Nat.reduceLeDiff, Nat.reduceAdd, Nat.reduceMul]
  have hbl : badL.length = 11 := rfl
  generalize hG : ((((((((H.upd p1 _).upd p2 _).upd p3 _).upd p4 _).upd p5 _).upd p6 _).upd p7 _)) = G
  have hHG : Le H G := hG ▸ ((((((((Le.refl H).updB n1).updB n2).updB n3).updB n4).updB n5).updB n6).updB n7)
  refine W_loop (fun s : Nat => ⟨[], [(1, .fn (.func 130) [] []), (235, .seq badL.length (badL.flatMap bdC) true), (236, .int .i64 badL.length), (237, .int .i64 s)], G⟩) (fun s => s ≤ badL.length) (fun s => badL.length - s) 0 (Settle.now (by simp [repA, List.range, List.range.loop]; exact ⟨⟨rfl, rfl⟩, rfl⟩)) (Nat.zero_le _) ?_
  intro j hj
  by_cases h : j < badL.length
  · have hb := bad_at _ (List.getElem_mem h)
    have hsm := bad_small _ (List.getElem_mem h)
    have e1 : ∀ {K : AV → Prop}, idxAW 2 (.seq badL.length (badL.flatMap bdC) true) (.int .i64 (j : Int)) K = K (.cptr ((badL.flatMap bdC).drop (j * 2))) := fun {K} => idx_rw (flat_len bdC_len badL) h
    have e2 : ∀ {H : AHeap} {K : AV → Prop}, loadW H (some 2) (.cptr ((badL.flatMap bdC).drop (j * 2))) K = K (.agg [Sx (badL[j]).1, .int .i64 (((badL[j]).2 : Nat) : Int)]) := fun {H K} => by
      rw [flat_drop bdC_len badL j h]; simp [loadW, cellsAt, bdC]
    have c2 : ∀ {a : List UInt8} {n : Int}, (AV.agg [Sx a, .int .i64 n]).cells = some [Sx a, .int .i64 n] := id rfl
    simp (disch := first | assumption | (apply Ap.symm; assumption) | omega | decide | (simp only [Xd] <;> omega)) only [h, e1, e2, ↓Xa, Xb, Xc, ↓reduceIte, Nat.reduceLT, Nat.reduceEqDiff, Nat.reduceBEq, Nat.reduceLeDiff, Nat.reduceAdd, Nat.reduceMul]
    refine alloc_i fun q1 hq1 => ?_
    simp (disch := first | assumption | (apply Ap.symm; assumption) | omega | decide | (simp only [Xd] <;> omega)) only [c2, ↓Xa, Xb, Xc, ↓reduceIte, Nat.reduceLT, Nat.reduceEqDiff, Nat.reduceBEq, Nat.reduceLeDiff, Nat.reduceAdd, Nat.reduceMul]
    refine run_call (ratread_run (hM.le (hHG.updB (hHG.none hq1))) (by omega) ?_)
    rw [hb]
    simp (disch := first | assumption | (apply Ap.symm; assumption) | omega | decide | (simp only [Xd] <;> omega)) only [spot, ↓Xa, Xb, Xc, ↓reduceIte, Nat.reduceLT, Nat.reduceEqDiff, Nat.reduceBEq, Nat.reduceLeDiff, Nat.reduceAdd, Nat.reduceMul]
    refine alloc_i fun q2 hq2 => ?_
    have g2 := upd_none.1 hq2
    have u1 := g2.1
    simp (disch := first | assumption | (apply Ap.symm; assumption) | omega | decide | (simp only [Xd] <;> omega)) only [↓Xa, Xb, Xc, ↓reduceIte, Nat.reduceLT, Nat.reduceEqDiff, Nat.reduceBEq, Nat.reduceLeDiff, Nat.reduceAdd, Nat.reduceMul]
    refine alloc_i fun q3 hq3 => ?_
    have g3 := upd_none.1 hq3
    have g3' := upd_none.1 g3.2
    have u2 := g3.1
    have u3 := g3'.1
    simp (disch := first | assumption | (apply Ap.symm; assumption) | omega | decide | (simp only [Xd] <;> omega)) only [cells_RatA, cells_i2, fold_Raw, fold_RatA, ↓Xa, Xb, Xc, ↓reduceIte, Nat.reduceLT, Nat.reduceEqDiff, Nat.reduceBEq, Nat.reduceLeDiff, Nat.reduceAdd, Nat.reduceMul]
    refine x0.call ?_
    have da : decide ((((badL[j]).2 : Nat) : Int) = (((badL[j]).2 : Nat) : Int)) = true := decide_eq_true rfl
    have d6 : decide (((6 : Nat) : Int) = ((6 : Nat) : Int)) = true := rfl
    simp (disch := first | assumption | (apply Ap.symm; assumption) | omega | decide | (simp only [Xd] <;> omega)) only [s0, neq_Sx, decide_true, aeq_ii, da, d6, Bool.and_self, bne_self_eq_false, ↓Xa, Xb, Xc, ↓reduceIte, Nat.reduceLT, Nat.reduceEqDiff, Nat.reduceBEq, Nat.reduceLeDiff, Nat.reduceAdd, Nat.reduceMul]
    refine Settle.dropTo ((((Le.refl G).updB hq1).updB g2.2).updB g3'.2) ?_
    exact Settle.now ⟨j + 1, by omega, by omega, rfl⟩
  · simp (disch := first | assumption | (apply Ap.symm; assumption) | omega | decide | (simp only [Xd] <;> omega)) only [h, s32, sm32, ↓Xa, Xb, Xc, ↓reduceIte, Nat.reduceLT, Nat.reduceEqDiff, Nat.reduceBEq, Nat.reduceLeDiff, Nat.reduceAdd, Nat.reduceMul]
    refine Settle.now ?_
    simp (disch := first | assumption | (apply Ap.symm; assumption) | omega | decide | (simp only [Xd] <;> omega)) only [sm32, ↓Xa, Xb, Xc, ↓reduceIte, Nat.reduceLT, Nat.reduceEqDiff, Nat.reduceBEq, Nat.reduceLeDiff, Nat.reduceAdd, Nat.reduceMul]
    refine run_call (of_run km32 _ tm32 (by decide) (hM.le hHG) ?_)
    simp (disch := first | assumption | (apply Ap.symm; assumption) | omega | decide | (simp only [Xd] <;> omega)) only [↓Xa, Xb, Xc, ↓reduceIte, Nat.reduceLT, Nat.reduceEqDiff, Nat.reduceBEq, Nat.reduceLeDiff, Nat.reduceAdd, Nat.reduceMul]
    refine xm32.call ?_
    simp (disch := first | assumption | (apply Ap.symm; assumption) | omega | decide | (simp only [Xd] <;> omega)) only [sm32, eql_Sx, decide_true, s4, ↓Xa, Xb, Xc, ↓reduceIte, Nat.reduceLT, Nat.reduceEqDiff, Nat.reduceBEq, Nat.reduceLeDiff, Nat.reduceAdd, Nat.reduceMul]
    refine run_call (of_run k4 _ t4 (by decide) (hM.le hHG) ?_)
    simp (disch := first | assumption | (apply Ap.symm; assumption) | omega | decide | (simp only [Xd] <;> omega)) only [↓Xa, Xb, Xc, ↓reduceIte, Nat.reduceLT, Nat.reduceEqDiff, Nat.reduceBEq, Nat.reduceLeDiff, Nat.reduceAdd, Nat.reduceMul]
    refine x4.call ?_
    simp (disch := first | assumption | (apply Ap.symm; assumption) | omega | decide | (simp only [Xd] <;> omega)) only [s4, eql_Sx, decide_true, rs22, ↓Xa, Xb, Xc, ↓reduceIte, Nat.reduceLT, Nat.reduceEqDiff, Nat.reduceBEq, Nat.reduceLeDiff, Nat.reduceAdd, Nat.reduceMul]
    exact SetR.dropTo hHG (SetR.now hq)
end Go.Proofs.YtanchgkiomfhhaaDoor.Fw
