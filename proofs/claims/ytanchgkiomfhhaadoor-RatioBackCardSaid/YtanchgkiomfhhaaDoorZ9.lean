/- The texts Lay145 Qj Qm Qo, joined. -/
import Derived.Test.YtanchgkiomfhhaaDoorZ8
import Derived.Shelf.Strings.Cut
import Derived.Test.YtanchgkiomfhhaaDoorProg
import Derived.Lib.CutLaws
import Derived.Lib.SmallJoins
/- The numbers under which the library's functions stand in this program, and that their texts are those which the kit's contracts speak of: printed by wip/tools/lay.py. -/
namespace Go.Proofs.YtanchgkiomfhhaaDoor.Fw
open Go Go.Shelf Go.Proofs
def lay145_ren : Ren :=
  {
    f := fun x =>
      match x with
      | 145 => 189
      | 220 => 211
      | 219 => 222
      | 217 => 230
      | 225 => 231
      | 224 => 232
      | 267 => 233
      | 266 => 237
      | 314 => 238
      | n => n,
    t := fun x =>
      match x with
      | 9 => 9
      | 4 => 4
      | 59 => 224
      | 3 => 3
      | 5 => 5
      | 46 => 186
      | 146 => 273
      | 51 => 172
      | n => n,
    g := fun x =>
      match x with
      | 1 => 0
      | n => n }
theorem lay145 : Lays.n145 Tryd.prog lay145_ren :=
  { mixed := Eq.refl true, f145 := Eq.trans Tryd.func189 (congrArg some (Eq.refl (Body.n145 lay145_ren))),
    f217 := Eq.trans Tryd.func230 (congrArg some (Eq.refl (Body.n217 lay145_ren))),
    f219 := Eq.trans Tryd.func222 (congrArg some (Eq.refl (Body.n219 lay145_ren))),
    f220 := Eq.trans Tryd.func211 (congrArg some (Eq.refl (Body.n220 lay145_ren))),
    f224 := Eq.trans Tryd.func232 (congrArg some (Eq.refl (Body.n224 lay145_ren))),
    f225 := Eq.trans Tryd.func231 (congrArg some (Eq.refl (Body.n225 lay145_ren))),
    f266 := Eq.trans Tryd.func237 (congrArg some (Eq.refl (Body.n266 lay145_ren))),
    f267 := Eq.trans Tryd.func233 (congrArg some (Eq.refl (Body.n267 lay145_ren))),
    f314 := Eq.trans Tryd.func238 (congrArg some (Eq.refl (Body.n314 lay145_ren))), t3 := Tryd.underlying3,
    a3 := Tryd.isAgg3, z3 := Tryd.sizeOf3, v3 := Tryd.zeroValue3, t4 := Tryd.underlying4, a4 := Tryd.isAgg4,
    z4 := Tryd.sizeOf4, v4 := Tryd.zeroValue4, t5 := Tryd.underlying5, a5 := Tryd.isAgg5, z5 := Tryd.sizeOf5,
    v5 := Tryd.zeroValue5, t9 := Tryd.underlying9, a9 := Tryd.isAgg9, z9 := Tryd.sizeOf9, v9 := Tryd.zeroValue9,
    t46 := Tryd.underlying186, a46 := Tryd.isAgg186, z46 := Tryd.sizeOf186, v46 := Tryd.zeroValue186,
    t51 := Tryd.underlying172, a51 := Tryd.isAgg172, z51 := Tryd.sizeOf172, v51 := Tryd.zeroValue172,
    t59 := Tryd.underlying224, a59 := Tryd.isAgg224, z59 := Tryd.sizeOf224, v59 := Tryd.zeroValue224,
    t146 := Tryd.underlying273, a146 := Tryd.isAgg273, z146 := Tryd.sizeOf273, v146 := Tryd.zeroValue273,
    g1 := by kernel_rfl }
end Go.Proofs.YtanchgkiomfhhaaDoor.Fw

/- A text cut in two: by the kit's contract, which reads a cell of the library's own. -/
namespace Go.Proofs.YtanchgkiomfhhaaDoor.Fw
set_option linter.unusedSimpArgs false
set_option linter.unusedVariables false
open Go Go.Proofs.YtanchgkiomfhhaaDoor.Ma Go.Shelf
set_option maxRecDepth 20000

def MlH (H : AHeap) : Prop := ∃ m : Int, H 0 = some (.glob 0 [.int .i64 m])
theorem MlH.upd {H : AHeap} (h : MlH H) {p : Nat} {x : Option ABlk} (hp : H p = none) : MlH (H.upd p x) := by
  obtain ⟨m, e⟩ := h
  refine ⟨m, ?_⟩
  rw [upd_other _ _ (by rintro rfl; rw [hp] at e; cases e)]
  exact e
theorem MlH.le {H G : AHeap} (h : MlH H) (hl : Le H G) : MlH G := let ⟨m, e⟩ := h; ⟨m, hl _ _ e⟩
theorem below_ok {c : Ctx} (hok : Ok c) {w' : World} (hb : Go.RowKit.Below c.w.heap.size c.w w') : Ok { c with w := w' } ∧ Later c { c with w := w' } := by
  let c2 : Ctx := { c with w := w' }
  have hsz : ∀ i x, c.H i = some x → c.μ i < c.w.heap.size := fun i x e => by
    have := hok.blk i x e
    cases x with
    | row ty es cells => obtain ⟨arr, h1, _⟩ := this; exact (Array.getElem?_eq_some_iff.1 h1).1
    | raw o => exact (Array.getElem?_eq_some_iff.1 this.1).1
    | glob g cells => rw [this.1]; exact this.2.1
    | loop st pend fn ps assign body n E => obtain ⟨tm, dd, h1, _⟩ := this; exact (Array.getElem?_eq_some_iff.1 h1).1
  have later : Later c c2 := by
    refine ⟨⟨hb.size, hb.os, hb.tape, hb.output, fun _ h => h, ?_, fun k hk hm => ⟨hb.block k hk, hm⟩⟩, fun _ h => ⟨h, fun k => k⟩⟩
    intro i x' _ hx'
    exact ⟨x', hx', Nat.le_refl _, fun _ => ⟨rfl, fun ty' es' cells' e => ⟨cells', e, fun arr ha => ⟨arr, (hb.block _ (hsz i x' hx')).trans ha, rfl⟩⟩⟩⟩
  exact ⟨⟨hok.used, hok.fin, hok.inj, fun b x hx => (hok.blk b x hx).later later rfl (hb.block _ (hsz b x hx))⟩, later⟩
theorem below_drew {w : World} : ∀ n, Go.RowKit.Below w.heap.size w (w.drewN n) := fun n => ⟨rfl, rfl, rfl, Nat.le_refl _, fun _ _ => rfl⟩
theorem cut_run {H : AHeap} {Q : AV → AHeap → Prop} (hM : MlH H) {s sep : List UInt8} (hs : s.length < 4294967281) (hq : Q (.tup [Sx (Lib.cut s sep).1, Sx (Lib.cut s sep).2.1, .bool (Lib.cut s sep).2.2]) H) : Run Tryd.prog 189 [Sx s, Sx sep] H Q := by
  refine ⟨⟨_, Tryd.func189, by kernel_rfl, by kernel_rfl⟩, fun c vs hH hok hsz he => ?_⟩
  obtain ⟨v0, v1, rfl⟩ : ∃ v0 v1, vs = #[v0, v1] := Go.Joins.array2 hsz
  have e0 : Enc c (Sx s) v0 := he 0 (by simp) (by simp)
  have e1 : Enc c (Sx sep) v1 := he 1 (by simp) (by simp)
  cases e0
  cases e1
  obtain ⟨m, hm⟩ := hM
  obtain ⟨_, _, cv, hcell, hc⟩ := hok.blk _ _ (by rw [hH]; exact hm)
  have h1 := hcell 0 (by simp)
  have h2 : Enc c (.int .i64 m) (cv 0) := hc 0 (by simp)
  generalize cv 0 = u at h1 h2
  cases h2
  refine (Any.strings_Cut (P := Tryd.prog) (ρ := lay145_ren) lay145 ⟨s.toArray⟩ ⟨sep.toArray⟩ m c.w (by show s.toArray.size < 4294967281; simpa using hs) h1).mono ?_
  rintro e w' ⟨rfl, n, rfl⟩
  obtain ⟨g1, g2⟩ := below_ok hok (below_drew (w := c.w) n)
  refine ⟨{ c with w := c.w.drewN n }, _, _, rfl, rfl, g1, g2, ?_, by show Q _ c.H; rw [hH]; exact hq⟩
  refine .tup _ _ rfl fun i hi hi' => ?_
  match i, hi with
  | 0, _ => exact .str _
  | 1, _ => exact .str _
  | 2, _ => exact .bool _
theorem index_none {b : UInt8} : ∀ {l : List UInt8}, b ∉ l → Lib.index l [b] = -1
  | [], _ => rfl
  | a :: l, h => by
    simp only [List.mem_cons, not_or] at h
    have h1 : List.isPrefixOf [b] (a :: l) = false := by simp [List.isPrefixOf, h.1]
    unfold Lib.index
    rw [h1, index_none h.2]; rfl
theorem index_at {b : UInt8} {r : List UInt8} : ∀ {l : List UInt8}, b ∉ l → Lib.index (l ++ b :: r) [b] = (l.length : Int)
  | [], _ => by
    show Lib.index (b :: r) [b] = 0
    unfold Lib.index
    rw [show List.isPrefixOf [b] (b :: r) = true by simp [List.isPrefixOf]]; rfl
  | a :: l, h => by
    simp only [List.mem_cons, not_or] at h
    have h1 : List.isPrefixOf [b] (a :: (l ++ b :: r)) = false := by simp [List.isPrefixOf, h.1]
    show Lib.index (a :: (l ++ b :: r)) [b] = _
    unfold Lib.index
    rw [h1, index_at h.2]
    have : ((l.length : Int) == -1) = false := by rw [beq_eq_false_iff_ne]; omega
    simp [this]
theorem cut_none {b : UInt8} {l : List UInt8} (h : b ∉ l) : Lib.cut l [b] = (l, [], false) := by
  unfold Lib.cut; rw [index_none h]; rfl
theorem cut_at {b : UInt8} {l r : List UInt8} (h : b ∉ l) : Lib.cut (l ++ b :: r) [b] = (l, r, true) := by
  unfold Lib.cut
  rw [index_at h, if_pos (by omega)]
  simp
theorem first_mem {b : UInt8} : ∀ {s : List UInt8}, b ∈ s → ∃ l r, s = l ++ b :: r ∧ b ∉ l
  | a :: s, h => by
    by_cases e : b = a
    · subst e; exact ⟨[], s, rfl, by simp⟩
    · rcases List.mem_cons.1 h with h | h
      · exact absurd h e
      · obtain ⟨l, r, rfl, hl⟩ := first_mem h
        exact ⟨a :: l, r, rfl, by simp [e, hl]⟩
theorem cut_cases (b : UInt8) (s : List UInt8) : (b ∉ s ∧ Lib.cut s [b] = (s, [], false)) ∨ ∃ l r, s = l ++ b :: r ∧ b ∉ l ∧ Lib.cut s [b] = (l, r, true) := by
  by_cases h : b ∈ s
  · right
    obtain ⟨l, r, rfl, hl⟩ := first_mem h
    exact ⟨l, r, rfl, hl, cut_at hl⟩
  · exact .inl ⟨h, cut_none h⟩
end Go.Proofs.YtanchgkiomfhhaaDoor.Fw

/- Fractions' texts read: plain. -/
namespace Go.Proofs.YtanchgkiomfhhaaDoor.Fw
set_option linter.unusedSimpArgs false
set_option linter.unusedVariables false
open Go Go.Proofs.YtanchgkiomfhhaaDoor.Ma
set_option maxRecDepth 20000

instance (l : List UInt8) (i : Nat) : Decidable (iBad l i) := by unfold iBad; infer_instance
def iEnd (l : List UInt8) : Nat := ((List.range (l.length + 1)).find? fun i => decide (iFrom l ≤ i ∧ iBad l i)).getD l.length
theorem isAt_iEnd (l : List UInt8) : IsAt l (iEnd l) := by
  obtain ⟨p, hp⟩ := isAt_ex l
  have e : (List.range (l.length + 1)).find? (fun i => decide (iFrom l ≤ i ∧ iBad l i)) = some p := by
    rw [List.find?_range_eq_some]
    refine ⟨decide_eq_true ⟨hp.1, hp.2.2.1⟩, List.mem_range.2 (by have := hp.2.1; omega), fun j hj => ?_⟩
    simp only [Bool.not_eq_true', decide_eq_false_iff_not]
    rintro ⟨h1, h2⟩
    exact hp.2.2.2 j h1 hj h2
  unfold iEnd
  rw [e]; exact hp
def iRd (l : List UInt8) : Int × Nat × Nat := if 65536 < l.length then (0, 3, 65536) else if iEnd l = iFrom l ∨ iEnd l < l.length then (0, 6, iEnd l) else (iVal l, 0, 0)
theorem ird_fn {l : List UInt8} (hl : l.length < 9223372036854775808) : PFn Tryd.prog 167 [Sx l] (.tup [IntA (iRd l).1, spot (iRd l).2.1 (iRd l).2.2]) := by
  have h := iread_fn (isAt_iEnd l) hl
  unfold iReadA at h
  unfold iRd
  split at h
  · rename_i h1; rw [if_pos h1]; exact h
  · rename_i h1; rw [if_neg h1]
    split at h
    · rename_i h2; rw [if_pos h2]; exact h
    · rename_i h2; rw [if_neg h2]; exact h
theorem iRd_good {l : List UInt8} (h : (iRd l).2.1 = 0) : l.length ≤ 65536 ∧ IsAt l l.length ∧ l.length ≠ iFrom l ∧ iRd l = (iVal l, 0, 0) := by
  unfold iRd at h ⊢
  split at h
  · cases h
  · rename_i h1
    split at h
    · cases h
    · rename_i h2
      have hp := isAt_iEnd l
      have := hp.2.1
      have e : iEnd l = l.length := by omega
      rw [e] at hp
      rw [if_neg h1, if_neg h2]
      exact ⟨by omega, hp, fun e2 => h2 (.inl (by rw [e]; exact e2)), rfl⟩
theorem iRd_bd (l : List UInt8) : Bd 8192 (iRd l).1 := by
  by_cases h : (iRd l).2.1 = 0
  · obtain ⟨h1, h2, h3, h4⟩ := iRd_good h
    rw [h4]
    exact Bd.sgn (Nat.lt_of_lt_of_le (decV_lt fun b hb => ((isAt_good h2 h3).2.1 b hb).2) (ten_bound (by simp; omega)))
  · have e : (iRd l).1 = 0 := by
      unfold iRd at h ⊢
      split
      · rfl
      · rename_i h1
        rw [if_neg h1] at h
        split
        · rfl
        · rename_i h2
          rw [if_neg h2] at h; exact absurd rfl h
    rw [e]; exact Bd.zero _
theorem iRd_text {x : Int} (h : (iText x).length ≤ 65536) : iRd (iText x) = (x, 0, 0) := by
  obtain ⟨h1, h2, h3⟩ := iText_at x
  have e := isAt_fn (isAt_iEnd (iText x)) h1
  unfold iRd
  rw [if_neg (by omega), if_neg (by rw [e]; omega), h3]
theorem iRd_pos {l : List UInt8} (h : (iRd l).2.1 = 0) (h0 : (l.getD 0 0).toNat ≠ 45) (h1 : (l.getD 0 0).toNat ≠ 48) : ∃ d : Nat, 0 < d ∧ (iRd l).1 = (d : Int) := by
  obtain ⟨_, h2, h3, h4⟩ := iRd_good h
  have hf : iFrom l = 0 := by unfold iFrom; rw [if_neg h0]
  have ev : iVal l = ((decV l : Nat) : Int) := by
    unfold iVal
    rw [hf, decide_eq_false (by omega)]; rfl
  have hg := isAt_good h2 h3
  rw [hf, List.drop_zero] at hg
  refine ⟨decV l, ?_, by rw [h4]; exact ev⟩
  rcases Nat.eq_zero_or_pos (decV l) with e | e
  · have ht := decT_decV hg
    rw [e] at ht
    have : decT 0 = [48] := rfl
    rw [this] at ht
    rw [← ht] at h1
    exact absurd rfl h1
  · exact e
def qRd (l : List UInt8) : QQ × Nat × Nat :=
  if 65536 < l.length then (0, 3, 65536)
  else if (iRd (Lib.cut l [47]).1).2.1 ≠ 0 then (0, 6, (iRd (Lib.cut l [47]).1).2.2)
  else if (Lib.cut l [47]).2.2 = false then (((iRd (Lib.cut l [47]).1).1 : QQ), 0, 0)
  else if (Lib.cut l [47]).2.1 = [] ∨ ((Lib.cut l [47]).2.1.getD 0 0).toNat = 45 ∨ ((Lib.cut l [47]).2.1.getD 0 0).toNat = 48 then (0, 6, (Lib.cut l [47]).1.length + 1)
  else if (iRd (Lib.cut l [47]).2.1).2.1 ≠ 0 then (0, 6, (Lib.cut l [47]).1.length + 1 + (iRd (Lib.cut l [47]).2.1).2.2)
  else if qText (mkRat (iRd (Lib.cut l [47]).1).1 (iRd (Lib.cut l [47]).2.1).1.toNat) ≠ l then (0, 6, l.length)
  else (mkRat (iRd (Lib.cut l [47]).1).1 (iRd (Lib.cut l [47]).2.1).1.toNat, 0, 0)
theorem iText_no47 (x : Int) : (47 : UInt8) ∉ iText x := by
  intro h
  obtain ⟨h1, h2, _⟩ := iText_at x
  obtain ⟨i, hi, e⟩ := List.getElem_of_mem h
  have eg : (iText x).getD i 0 = 47 := by rw [List.getD_eq_getElem?_getD, List.getElem?_eq_getElem hi, e]; rfl
  have hf := (iFrom_le (iText x)).2
  by_cases hlt : i < iFrom (iText x)
  · have e0 : i = 0 := by omega
    have hf1 : iFrom (iText x) = 1 := by omega
    unfold iFrom at hf1
    split at hf1
    · rename_i h45
      rw [e0] at eg
      rw [eg] at h45
      exact absurd h45 (by decide)
    · cases hf1
  · exact h1.2.2.2 i (by omega) hi (.inl (by rw [eg]; decide))
theorem qInt_text (z : Int) : qText (z : QQ) = iText z := by
  unfold qText
  rw [if_pos (show ((z : QQ)).den = 1 from rfl), List.append_nil]; rfl
theorem qRd_ok {l : List UInt8} (h : (qRd l).2 = (0, 0)) : qText (qRd l).1 = l := by
  unfold qRd at h ⊢
  split at h
  · cases h
  rename_i h1; rw [if_neg h1]
  split at h
  · cases h
  rename_i h2; rw [if_neg h2]
  split at h
  · rename_i h3
    rw [if_pos h3]
    rcases cut_cases 47 l with ⟨_, e⟩ | ⟨a, r, _, _, e⟩
    · rw [e] at h2 ⊢
      dsimp only at h2 ⊢
      obtain ⟨_, g2, g3, g4⟩ := iRd_good (Classical.not_not.1 h2)
      rw [g4, qInt_text]
      exact iText_iVal g2 g3
    · rw [e] at h3; cases h3
  rename_i h3; rw [if_neg h3]
  split at h
  · cases h
  rename_i h4; rw [if_neg h4]
  split at h
  · cases h
  rename_i h5; rw [if_neg h5]
  split at h
  · cases h
  rename_i h6; rw [if_neg h6]
  exact Classical.not_not.1 h6
theorem iText_pos {d : Nat} (hd : 0 < d) : iText (d : Int) ≠ [] ∧ ((iText (d : Int)).getD 0 0).toNat ≠ 45 ∧ ((iText (d : Int)).getD 0 0).toNat ≠ 48 := by
  have e : iText (d : Int) = decT d := by unfold iText; rw [if_neg (by omega)]; rfl
  obtain ⟨h1, h2, h3⟩ := iText_at (d : Int)
  have hne : iText (d : Int) ≠ [] := fun h0 => by rw [h0] at h2; exact h2 rfl
  refine ⟨hne, fun h45 => ?_, fun h48 => ?_⟩
  · have hf : iFrom (iText (d : Int)) = 1 := by unfold iFrom; rw [if_pos h45]
    unfold iVal at h3
    rw [hf, decide_eq_true rfl] at h3
    unfold sg at h3
    simp at h3
    omega
  · have hf : iFrom (iText (d : Int)) = 0 := by unfold iFrom; rw [if_neg (by omega)]
    have hg := isAt_good h1 h2
    rw [hf, List.drop_zero] at hg
    have hlen : (iText (d : Int)).length = 1 := by
      rcases Nat.lt_or_ge 1 (iText (d : Int)).length with h | h
      · exact absurd (.inr (.inr (.inl ⟨by rw [hf], by rw [hf]; exact h48⟩))) (h1.2.2.2 1 (by omega) h)
      · have := List.length_pos_iff.2 hne; omega
    have hl : iText (d : Int) = [48] := by
      match hx : iText (d : Int), hlen with
      | [c], _ =>
        rw [hx] at h48
        have : c = 48 := UInt8.toNat_inj.1 (by simpa using h48)
        rw [this]
    rw [hl] at h3
    have : iVal [48] = 0 := by decide
    omega
theorem qRd_text {q : QQ} (h : (qText q).length ≤ 65536) : qRd (qText q) = (q, 0, 0) := by
  have hn := iText_no47 q.num
  by_cases hd : q.den = 1
  · have e : qText q = iText q.num := by unfold qText; rw [if_pos hd, List.append_nil]
    have hq : ((q.num : Int) : QQ) = q := by
      apply _root_.Rat.ext
      · rfl
      · exact hd.symm
    rw [e] at h ⊢
    unfold qRd
    rw [if_neg (by omega), cut_none hn]
    dsimp only
    rw [iRd_text h]
    simp [hq]
  · have e : qText q = iText q.num ++ 47 :: iText (q.den : Int) := by unfold qText; rw [if_neg hd]
    rw [e] at h ⊢
    rw [List.length_append, List.length_cons] at h
    obtain ⟨p1, p2, p3⟩ := iText_pos q.den_pos
    unfold qRd
    rw [if_neg (by rw [List.length_append, List.length_cons]; omega), cut_at hn]
    dsimp only
    rw [iRd_text (by omega), iRd_text (by omega)]
    have hm : mkRat q.num ((q.den : Int)).toNat = q := by
      rw [Int.toNat_natCast]; exact _root_.Rat.mkRat_self q
    dsimp only
    rw [if_neg (fun h => h rfl), if_neg (fun h => by cases h), if_neg (fun h => by
      rcases h with h | h | h
      · exact p1 h
      · exact p2 h
      · exact p3 h), if_neg (fun h => h rfl), hm, if_neg (fun h => h e)]
theorem wrong_fn {a : Int} : PFn Tryd.prog 188 [.int .i64 a] (.tup [RatA 0, .agg [.int .i64 ((6 : Nat) : Int), .int .i64 a]]) := by
  intro H Q hq
  refine enter188 (by simp) ?_
  simp (disch := first | assumption | (apply Ap.symm; assumption) | omega | decide | (simp only [Xd] <;> omega)) only [ac188, ↓Xa, Xb, Xc, ↓reduceIte, Nat.reduceLT, Nat.reduceEqDiff, Nat.reduceBEq, Nat.reduceLeDiff, Nat.reduceAdd, Nat.reduceMul]
  refine alloc_i fun p1 hp1 => ?_
  have n1 := hp1
  simp (disch := first | assumption | (apply Ap.symm; assumption) | omega | decide | (simp only [Xd] <;> omega)) only [↓Xa, Xb, Xc, ↓reduceIte, Nat.reduceLT, Nat.reduceEqDiff, Nat.reduceBEq, Nat.reduceLeDiff, Nat.reduceAdd, Nat.reduceMul]
  refine alloc_i fun p2 hp2 => ?_
  have n2 := hp2
  simp only [upd_none] at n2
  obtain ⟨_, n2⟩ := n2
  simp (disch := first | assumption | (apply Ap.symm; assumption) | omega | decide | (simp only [Xd] <;> omega)) only [build_raw0, cells_RatA, cells_i2, fold_Raw, fold_RatA, rs188, ↓Xa, Xb, Xc, ↓reduceIte, Nat.reduceLT, Nat.reduceEqDiff, Nat.reduceBEq, Nat.reduceLeDiff, Nat.reduceAdd, Nat.reduceMul]
  rw [← RawR_0] at hq
  exact SetR.dropTo (((Le.refl H).updB n1).updB n2) (SetR.now hq)
theorem cut_len (b : UInt8) (s : List UInt8) : (Lib.cut s [b]).1.length ≤ s.length ∧ (Lib.cut s [b]).2.1.length ≤ s.length := by
  rcases cut_cases b s with ⟨_, e⟩ | ⟨l, r, rfl, _, e⟩
  · rw [e]; simp
  · rw [e]; simp; omega
theorem ratread_run {H : AHeap} {Q : AV → AHeap → Prop} (hM : MlH H) {l : List UInt8} (hl : l.length < 4611686018427387904) (hq : Q (.tup [RatA (qRd l).1, spot (qRd l).2.1 (qRd l).2.2]) H) : Run Tryd.prog 127 [Sx l] H Q := by
  have s47 : AV.str ⟨#[47]⟩ = Sx [47] := rfl
  refine enter127 (by simp) ?_
  simp (disch := first | assumption | (apply Ap.symm; assumption) | omega | decide | (simp only [Xd] <;> omega)) only [ac127, ↓Xa, Xb, Xc, ↓reduceIte, Nat.reduceLT, Nat.reduceEqDiff, Nat.reduceBEq, Nat.reduceLeDiff, Nat.reduceAdd, Nat.reduceMul]
  refine alloc_i fun p1 hp1 => ?_
  have n1 := hp1
  simp (disch := first | assumption | (apply Ap.symm; assumption) | omega | decide | (simp only [Xd] <;> omega)) only [↓Xa, Xb, Xc, ↓reduceIte, Nat.reduceLT, Nat.reduceEqDiff, Nat.reduceBEq, Nat.reduceLeDiff, Nat.reduceAdd, Nat.reduceMul]
  refine alloc_i fun p2 hp2 => ?_
  have n2 := hp2
  simp only [upd_none] at n2
  obtain ⟨_, n2⟩ := n2
  have out : ∀ {x y : ABlk}, SetR Q (.tup [RatA (qRd l).1, spot (qRd l).2.1 (qRd l).2.2]) ((H.upd p1 (some x)).upd p2 (some y)) := SetR.dropTo (((Le.refl H).updB n1).updB n2) (SetR.now hq)
  by_cases h1 : 65536 < l.length
  · have e : qRd l = (0, 3, 65536) := by unfold qRd; rw [if_pos h1]
    rw [e] at out
    dsimp only at out
    rw [← RawR_0] at out
    simp (disch := first | assumption | (apply Ap.symm; assumption) | omega | decide | (simp only [Xd] <;> omega)) only [len_Sx, h1, build_raw0, cells_RatA, cells_i2, fold_Raw, fold_RatA, rs127, ↓Xa, Xb, Xc, ↓reduceIte, Nat.reduceLT, Nat.reduceEqDiff, Nat.reduceBEq, Nat.reduceLeDiff, Nat.reduceAdd, Nat.reduceMul]
    exact out
  have hcl := cut_len 47 l
  have hm2 : MlH ((H.upd p1 (some (.row 121 0 [.bool false, .seq 0 [] true, .bool false, .seq 0 [] true]))).upd p2 (some (.row 105 0 [.int .i64 ((0 : Nat) : Int), .int .i64 ((0 : Nat) : Int)]))) := (hM.upd n1).upd hp2
  simp (disch := first | assumption | (apply Ap.symm; assumption) | omega | decide | (simp only [Xd] <;> omega)) only [len_Sx, h1, s47, ↓Xa, Xb, Xc, ↓reduceIte, Nat.reduceLT, Nat.reduceEqDiff, Nat.reduceBEq, Nat.reduceLeDiff, Nat.reduceAdd, Nat.reduceMul]
  refine run_call (cut_run hm2 (by omega) ?_)
  unfold qRd at out
  rw [if_neg h1] at out
  generalize Lib.cut l [47] = cc at *
  obtain ⟨a, b, par⟩ := cc
  dsimp only at hcl out ⊢
  obtain ⟨la, lb⟩ := hcl
  have ra := ird_fn (l := a) (by omega)
  have ba := iRd_bd a
  simp (disch := first | assumption | (apply Ap.symm; assumption) | omega | decide | (simp only [Xd] <;> omega)) only [↓Xa, Xb, Xc, ↓reduceIte, Nat.reduceLT, Nat.reduceEqDiff, Nat.reduceBEq, Nat.reduceLeDiff, Nat.reduceAdd, Nat.reduceMul]
  refine ra.call ?_
  generalize hA : iRd a = A at *
  obtain ⟨n, en, an⟩ := A
  dsimp only at ba out ⊢
  simp (disch := first | assumption | (apply Ap.symm; assumption) | omega | decide | (simp only [Xd] <;> omega)) only [spot, ↓Xa, Xb, Xc, ↓reduceIte, Nat.reduceLT, Nat.reduceEqDiff, Nat.reduceBEq, Nat.reduceLeDiff, Nat.reduceAdd, Nat.reduceMul]
  refine alloc_i fun p3 hp3 => ?_
  have n3 := hp3
  simp only [upd_none] at n3
  obtain ⟨_, _, n3⟩ := n3
  simp (disch := first | assumption | (apply Ap.symm; assumption) | omega | decide | (simp only [Xd] <;> omega)) only [↓Xa, Xb, Xc, ↓reduceIte, Nat.reduceLT, Nat.reduceEqDiff, Nat.reduceBEq, Nat.reduceLeDiff, Nat.reduceAdd, Nat.reduceMul]
  refine alloc_i fun p4 hp4 => ?_
  have n4 := hp4
  simp only [upd_none] at n4
  obtain ⟨_, _, _, n4⟩ := n4
  by_cases h2 : en = 0
  rotate_left
  · rw [if_pos h2] at out
    dsimp only at out
    have e2 : decide (((en : Nat) : Int) = ((0 : Nat) : Int)) = false := decide_eq_false (by omega)
    simp (disch := first | assumption | (apply Ap.symm; assumption) | omega | decide | (simp only [Xd] <;> omega)) only [cells_IntA, cells_i2, neq_int, e2, ↓Xa, Xb, Xc, ↓reduceIte, Nat.reduceLT, Nat.reduceEqDiff, Nat.reduceBEq, Nat.reduceLeDiff, Nat.reduceAdd, Nat.reduceMul]
    refine wrong_fn.call ?_
    simp (disch := first | assumption | (apply Ap.symm; assumption) | omega | decide | (simp only [Xd] <;> omega)) only [cells_RatA, cells_i2, rs127, fold_Raw, fold_RatA, ↓Xa, Xb, Xc, ↓reduceIte, Nat.reduceLT, Nat.reduceEqDiff, Nat.reduceBEq, Nat.reduceLeDiff, Nat.reduceAdd, Nat.reduceMul]
    refine SetR.dropTo (Le.updB (Le.updB (Le.refl _) ?_) ?_) out
    · exact upd_none.2 ⟨by assumption, upd_none.2 ⟨by assumption, n3⟩⟩
    · exact upd_none.2 ⟨by assumption, upd_none.2 ⟨by assumption, n4⟩⟩
  subst h2
  rw [if_neg (fun h => h rfl)] at out
  have e2 : decide (((0 : Nat) : Int) = ((0 : Nat) : Int)) = true := rfl
  cases hp : par with
  | false =>
    rw [hp, if_pos rfl] at out
    dsimp only at out
    simp (disch := first | assumption | (apply Ap.symm; assumption) | omega | decide | (simp only [Xd] <;> omega)) only [cells_IntA, cells_i2, neq_int, e2, fold_IntA, ↓Xa, Xb, Xc, ↓reduceIte, Nat.reduceLT, Nat.reduceEqDiff, Nat.reduceBEq, Nat.reduceLeDiff, Nat.reduceAdd, Nat.reduceMul]
    refine rwh_fn.call ?_
    simp (disch := first | assumption | (apply Ap.symm; assumption) | omega | decide | (simp only [Xd] <;> omega)) only [cells_RatA, cells_i2, rs127, fold_Raw, fold_RatA, ↓Xa, Xb, Xc, ↓reduceIte, Nat.reduceLT, Nat.reduceEqDiff, Nat.reduceBEq, Nat.reduceLeDiff, Nat.reduceAdd, Nat.reduceMul]
    refine SetR.dropTo (Le.updB (Le.updB (Le.refl _) ?_) ?_) out
    · exact upd_none.2 ⟨by assumption, upd_none.2 ⟨by assumption, n3⟩⟩
    · exact upd_none.2 ⟨by assumption, upd_none.2 ⟨by assumption, n4⟩⟩
  | true =>
  rw [hp, if_neg (fun h => by cases h)] at out
  have s0 : AV.str ⟨#[]⟩ = Sx [] := rfl
  by_cases h4 : b = []
  · subst h4
    rw [if_pos (.inl rfl)] at out
    dsimp only at out
    simp (disch := first | assumption | (apply Ap.symm; assumption) | omega | decide | (simp only [Xd] <;> omega)) only [cells_IntA, cells_i2, neq_int, e2, len_Sx, s0, eql_Sx, decide_true, ↓Xa, Xb, Xc, ↓reduceIte, Nat.reduceLT, Nat.reduceEqDiff, Nat.reduceBEq, Nat.reduceLeDiff, Nat.reduceAdd, Nat.reduceMul]
    refine wrong_fn.call ?_
    simp (disch := first | assumption | (apply Ap.symm; assumption) | omega | decide | (simp only [Xd] <;> omega)) only [cells_RatA, cells_i2, rs127, fold_Raw, fold_RatA, ↓Xa, Xb, Xc, ↓reduceIte, Nat.reduceLT, Nat.reduceEqDiff, Nat.reduceBEq, Nat.reduceLeDiff, Nat.reduceAdd, Nat.reduceMul]
    refine SetR.dropTo (Le.updB (Le.updB (Le.refl _) ?_) ?_) out
    · exact upd_none.2 ⟨by assumption, upd_none.2 ⟨by assumption, n3⟩⟩
    · exact upd_none.2 ⟨by assumption, upd_none.2 ⟨by assumption, n4⟩⟩
  have h4' : decide (b = []) = false := decide_eq_false h4
  have hb0 : 0 < b.length := List.length_pos_iff.2 h4
  by_cases h5 : (b.getD 0 0).toNat = 45
  · rw [if_pos (.inr (.inl h5))] at out
    dsimp only at out
    simp (disch := first | assumption | (apply Ap.symm; assumption) | omega | decide | (simp only [Xd] <;> omega)) only [cells_IntA, cells_i2, neq_int, e2, len_Sx, s0, eql_Sx, h4', idx_Sx, hb0, h5, ↓Xa, Xb, Xc, ↓reduceIte, Nat.reduceLT, Nat.reduceEqDiff, Nat.reduceBEq, Nat.reduceLeDiff, Nat.reduceAdd, Nat.reduceMul]
    refine wrong_fn.call ?_
    simp (disch := first | assumption | (apply Ap.symm; assumption) | omega | decide | (simp only [Xd] <;> omega)) only [cells_RatA, cells_i2, rs127, fold_Raw, fold_RatA, ↓Xa, Xb, Xc, ↓reduceIte, Nat.reduceLT, Nat.reduceEqDiff, Nat.reduceBEq, Nat.reduceLeDiff, Nat.reduceAdd, Nat.reduceMul]
    refine SetR.dropTo (Le.updB (Le.updB (Le.refl _) ?_) ?_) out
    · exact upd_none.2 ⟨by assumption, upd_none.2 ⟨by assumption, n3⟩⟩
    · exact upd_none.2 ⟨by assumption, upd_none.2 ⟨by assumption, n4⟩⟩
  by_cases h6 : (b.getD 0 0).toNat = 48
  · rw [if_pos (.inr (.inr h6))] at out
    dsimp only at out
    simp (disch := first | assumption | (apply Ap.symm; assumption) | omega | decide | (simp only [Xd] <;> omega)) only [cells_IntA, cells_i2, neq_int, e2, len_Sx, s0, eql_Sx, h4', idx_Sx, hb0, h5, h6, ↓Xa, Xb, Xc, ↓reduceIte, Nat.reduceLT, Nat.reduceEqDiff, Nat.reduceBEq, Nat.reduceLeDiff, Nat.reduceAdd, Nat.reduceMul]
    refine wrong_fn.call ?_
    simp (disch := first | assumption | (apply Ap.symm; assumption) | omega | decide | (simp only [Xd] <;> omega)) only [cells_RatA, cells_i2, rs127, fold_Raw, fold_RatA, ↓Xa, Xb, Xc, ↓reduceIte, Nat.reduceLT, Nat.reduceEqDiff, Nat.reduceBEq, Nat.reduceLeDiff, Nat.reduceAdd, Nat.reduceMul]
    refine SetR.dropTo (Le.updB (Le.updB (Le.refl _) ?_) ?_) out
    · exact upd_none.2 ⟨by assumption, upd_none.2 ⟨by assumption, n3⟩⟩
    · exact upd_none.2 ⟨by assumption, upd_none.2 ⟨by assumption, n4⟩⟩
  rw [if_neg (fun h => by rcases h with h | h | h; exact h4 h; exact h5 h; exact h6 h)] at out
  have rb := ird_fn (l := b) (by omega)
  have bb := iRd_bd b
  have pos := fun h => iRd_pos (l := b) h h5 h6
  simp (disch := first | assumption | (apply Ap.symm; assumption) | omega | decide | (simp only [Xd] <;> omega)) only [cells_IntA, cells_i2, neq_int, e2, len_Sx, s0, eql_Sx, h4', idx_Sx, hb0, h5, h6, ↓Xa, Xb, Xc, ↓reduceIte, Nat.reduceLT, Nat.reduceEqDiff, Nat.reduceBEq, Nat.reduceLeDiff, Nat.reduceAdd, Nat.reduceMul]
  refine rb.call ?_
  generalize hB : iRd b = B at *
  obtain ⟨d, ed, ad⟩ := B
  dsimp only at bb pos out ⊢
  simp (disch := first | assumption | (apply Ap.symm; assumption) | omega | decide | (simp only [Xd] <;> omega)) only [spot, ↓Xa, Xb, Xc, ↓reduceIte, Nat.reduceLT, Nat.reduceEqDiff, Nat.reduceBEq, Nat.reduceLeDiff, Nat.reduceAdd, Nat.reduceMul]
  refine alloc_i fun p5 hp5 => ?_
  have n5 := hp5
  simp only [upd_none] at n5
  obtain ⟨_, _, _, _, n5⟩ := n5
  by_cases h7 : ed = 0
  rotate_left
  · rw [if_pos h7] at out
    dsimp only at out
    have e7 : decide (((ed : Nat) : Int) = ((0 : Nat) : Int)) = false := decide_eq_false (by omega)
    have hadd : ∀ K : AV → Prop, binW .add (.int .i64 ((a.length + 1 : Nat) : Int)) (.int .i64 ((ad : Nat) : Int)) K ↔ K (.int .i64 ((a.length + 1 + ad : Nat) : Int)) := fun K => by
      have had : ad ≤ b.length ∨ ad = 65536 := by
        have e := congrArg (fun x => x.2.2) hB
        dsimp only at e
        rw [← e]
        unfold iRd
        split
        · exact .inr rfl
        · split
          · exact .inl (isAt_iEnd b).2.1
          · exact .inl (Nat.zero_le _)
      rw [bin_add, wn_i64 (by omega)]
    simp (disch := first | assumption | (apply Ap.symm; assumption) | omega | decide | (simp only [Xd] <;> omega)) only [cells_IntA, cells_i2, neq_int, e7, hadd, ↓Xa, Xb, Xc, ↓reduceIte, Nat.reduceLT, Nat.reduceEqDiff, Nat.reduceBEq, Nat.reduceLeDiff, Nat.reduceAdd, Nat.reduceMul]
    refine wrong_fn.call ?_
    simp (disch := first | assumption | (apply Ap.symm; assumption) | omega | decide | (simp only [Xd] <;> omega)) only [cells_RatA, cells_i2, rs127, fold_Raw, fold_RatA, ↓Xa, Xb, Xc, ↓reduceIte, Nat.reduceLT, Nat.reduceEqDiff, Nat.reduceBEq, Nat.reduceLeDiff, Nat.reduceAdd, Nat.reduceMul]
    refine SetR.dropTo (Le.updB (Le.updB (Le.updB (Le.refl _) ?_) ?_) ?_) out
    · exact upd_none.2 ⟨by assumption, upd_none.2 ⟨by assumption, n3⟩⟩
    · exact upd_none.2 ⟨by assumption, upd_none.2 ⟨by assumption, n4⟩⟩
    · exact upd_none.2 ⟨by assumption, upd_none.2 ⟨by assumption, n5⟩⟩
  subst h7
  rw [if_neg (fun h => h rfl)] at out
  obtain ⟨dn, hdn, rfl⟩ := pos rfl
  rw [Int.toNat_natCast] at out
  have hx : RB 8192 (mkRat n dn) := RB.mk ba bb hdn
  simp (disch := first | assumption | (apply Ap.symm; assumption) | omega | decide | (simp only [Xd] <;> omega)) only [cells_IntA, cells_i2, neq_int, e2, fold_IntA, ↓Xa, Xb, Xc, ↓reduceIte, Nat.reduceLT, Nat.reduceEqDiff, Nat.reduceBEq, Nat.reduceLeDiff, Nat.reduceAdd, Nat.reduceMul]
  refine (lowest_fn ba bb hdn (by omega)).call ?_
  generalize mkRat n dn = x at *
  simp (disch := first | assumption | (apply Ap.symm; assumption) | omega | decide | (simp only [Xd] <;> omega)) only [↓Xa, Xb, Xc, ↓reduceIte, Nat.reduceLT, Nat.reduceEqDiff, Nat.reduceBEq, Nat.reduceLeDiff, Nat.reduceAdd, Nat.reduceMul]
  refine alloc_i fun p6 hp6 => ?_
  have n6 := hp6
  simp only [upd_none] at n6
  obtain ⟨_, _, _, _, _, n6⟩ := n6
  simp (disch := first | assumption | (apply Ap.symm; assumption) | omega | decide | (simp only [Xd] <;> omega)) only [cells_RatA, fold_Raw, fold_RatA, ↓Xa, Xb, Xc, ↓reduceIte, Nat.reduceLT, Nat.reduceEqDiff, Nat.reduceBEq, Nat.reduceLeDiff, Nat.reduceAdd, Nat.reduceMul]
  refine (rtextq_fn hx (by omega)).call ?_
  have dr : ∀ {x y z w u v : ABlk} {r : AV}, (∀ {x y : ABlk}, SetR Q r ((H.upd p1 (some x)).upd p2 (some y))) → SetR Q r ((((((H.upd p1 (some x)).upd p2 (some y)).upd p3 (some z)).upd p4 (some w)).upd p5 (some u)).upd p6 (some v)) := fun h => by
    refine SetR.dropTo (Le.updB (Le.updB (Le.updB (Le.updB (Le.refl _) ?_) ?_) ?_) ?_) h
    · exact upd_none.2 ⟨by assumption, upd_none.2 ⟨by assumption, n3⟩⟩
    · exact upd_none.2 ⟨by assumption, upd_none.2 ⟨by assumption, n4⟩⟩
    · exact upd_none.2 ⟨by assumption, upd_none.2 ⟨by assumption, n5⟩⟩
    · exact upd_none.2 ⟨by assumption, upd_none.2 ⟨by assumption, n6⟩⟩
  by_cases h8 : qText x = l
  · rw [if_neg (fun h => h h8)] at out
    dsimp only at out
    have e8 : decide (qText x = l) = true := decide_eq_true h8
    simp (disch := first | assumption | (apply Ap.symm; assumption) | omega | decide | (simp only [Xd] <;> omega)) only [neq_Sx, e8, cells_RatA, cells_i2, fold_Raw, fold_RatA, rs127, ↓Xa, Xb, Xc, ↓reduceIte, Nat.reduceLT, Nat.reduceEqDiff, Nat.reduceBEq, Nat.reduceLeDiff, Nat.reduceAdd, Nat.reduceMul]
    exact dr out
  · rw [if_pos h8] at out
    dsimp only at out
    have e8 : decide (qText x = l) = false := decide_eq_false h8
    simp (disch := first | assumption | (apply Ap.symm; assumption) | omega | decide | (simp only [Xd] <;> omega)) only [neq_Sx, e8, len_Sx, ↓Xa, Xb, Xc, ↓reduceIte, Nat.reduceLT, Nat.reduceEqDiff, Nat.reduceBEq, Nat.reduceLeDiff, Nat.reduceAdd, Nat.reduceMul]
    refine wrong_fn.call ?_
    simp (disch := first | assumption | (apply Ap.symm; assumption) | omega | decide | (simp only [Xd] <;> omega)) only [cells_RatA, cells_i2, fold_Raw, fold_RatA, rs127, ↓Xa, Xb, Xc, ↓reduceIte, Nat.reduceLT, Nat.reduceEqDiff, Nat.reduceBEq, Nat.reduceLeDiff, Nat.reduceAdd, Nat.reduceMul]
    exact dr out
end Go.Proofs.YtanchgkiomfhhaaDoor.Fw

/- The law of a fraction in lowest terms, told and read: true. -/
namespace Go.Proofs.YtanchgkiomfhhaaDoor.Fw
set_option linter.unusedSimpArgs false
set_option linter.unusedVariables false
open Go Go.Proofs.YtanchgkiomfhhaaDoor.Ma
set_option maxRecDepth 20000

theorem iRd_bd2 {l : List UInt8} {k : Nat} (hk : 10 ^ l.length ≤ 4294967296 ^ k) : Bd k (iRd l).1 := by
  by_cases h : (iRd l).2.1 = 0
  · obtain ⟨h1, h2, h3, h4⟩ := iRd_good h
    rw [h4]
    refine Bd.sgn (Nat.lt_of_lt_of_le (decV_lt fun b hb => ((isAt_good h2 h3).2.1 b hb).2) (Nat.le_trans (Nat.pow_le_pow_right (by omega) ?_) hk))
    simp
  · have e : (iRd l).1 = 0 := by
      unfold iRd at h ⊢
      split
      · rfl
      · rename_i h1
        rw [if_neg h1] at h
        split
        · rfl
        · rename_i h2
          rw [if_neg h2] at h; exact absurd rfl h
    rw [e]; exact Bd.zero _
def alQ (a : List UInt8 × List UInt8) : QQ := _root_.Rat.divInt (iRd a.1).1 (iRd a.2).1
def alOk (a : List UInt8 × List UInt8) : Bool := decide ((iRd a.1).2.1 = 0) && decide ((iRd a.2).2.1 = 0) && decide ((if (iRd a.2).1 = 0 then 2 else 0 : Nat) = 0)
theorem alone_q (a : List UInt8 × List UInt8) (h1 : a.1.length < 9223372036854775808) (h2 : a.2.length < 9223372036854775808) : PFn Tryd.prog 123 [FracA a] (.tup [RatA (alQ a), .bool (alOk a)]) := by
  intro H Q hq
  have f1 := ird_fn h1
  have f2 := ird_fn h2
  have b1 := iRd_bd a.1
  have b2 := iRd_bd a.2
  unfold alQ alOk at hq
  generalize iRd a.1 = A at *
  generalize iRd a.2 = B at *
  obtain ⟨z1, e1, a1⟩ := A
  obtain ⟨z2, e2, a2⟩ := B
  dsimp only at f1 f2 b1 b2 hq
  refine enter123 (by simp) ?_
  simp (disch := first | assumption | (apply Ap.symm; assumption) | omega | decide | (simp only [Xd] <;> omega)) only [ac123, cells_FracA, ↓Xa, Xb, Xc, ↓reduceIte, Nat.reduceLT, Nat.reduceEqDiff, Nat.reduceBEq, Nat.reduceLeDiff, Nat.reduceAdd, Nat.reduceMul]
  refine alloc_i fun p1 hp1 => ?_
  have n1 := hp1
  simp (disch := first | assumption | (apply Ap.symm; assumption) | omega | decide | (simp only [Xd] <;> omega)) only [↓Xa, Xb, Xc, ↓reduceIte, Nat.reduceLT, Nat.reduceEqDiff, Nat.reduceBEq, Nat.reduceLeDiff, Nat.reduceAdd, Nat.reduceMul]
  refine alloc_i fun p2 hp2 => ?_
  have n2 := hp2
  simp only [upd_none] at n2
  obtain ⟨_, n2⟩ := n2
  simp (disch := first | assumption | (apply Ap.symm; assumption) | omega | decide | (simp only [Xd] <;> omega)) only [↓Xa, Xb, Xc, ↓reduceIte, Nat.reduceLT, Nat.reduceEqDiff, Nat.reduceBEq, Nat.reduceLeDiff, Nat.reduceAdd, Nat.reduceMul]
  refine f1.call ?_
  simp (disch := first | assumption | (apply Ap.symm; assumption) | omega | decide | (simp only [Xd] <;> omega)) only [spot, ↓Xa, Xb, Xc, ↓reduceIte, Nat.reduceLT, Nat.reduceEqDiff, Nat.reduceBEq, Nat.reduceLeDiff, Nat.reduceAdd, Nat.reduceMul]
  refine alloc_i fun p3 hp3 => ?_
  have n3 := hp3
  simp only [upd_none] at n3
  obtain ⟨_, _, n3⟩ := n3
  simp (disch := first | assumption | (apply Ap.symm; assumption) | omega | decide | (simp only [Xd] <;> omega)) only [↓Xa, Xb, Xc, ↓reduceIte, Nat.reduceLT, Nat.reduceEqDiff, Nat.reduceBEq, Nat.reduceLeDiff, Nat.reduceAdd, Nat.reduceMul]
  refine alloc_i fun p4 hp4 => ?_
  have n4 := hp4
  simp only [upd_none] at n4
  obtain ⟨_, _, _, n4⟩ := n4
  simp (disch := first | assumption | (apply Ap.symm; assumption) | omega | decide | (simp only [Xd] <;> omega)) only [cells_IntA, cells_i2, ↓Xa, Xb, Xc, ↓reduceIte, Nat.reduceLT, Nat.reduceEqDiff, Nat.reduceBEq, Nat.reduceLeDiff, Nat.reduceAdd, Nat.reduceMul]
  refine f2.call ?_
  simp (disch := first | assumption | (apply Ap.symm; assumption) | omega | decide | (simp only [Xd] <;> omega)) only [spot, ↓Xa, Xb, Xc, ↓reduceIte, Nat.reduceLT, Nat.reduceEqDiff, Nat.reduceBEq, Nat.reduceLeDiff, Nat.reduceAdd, Nat.reduceMul]
  refine alloc_i fun p5 hp5 => ?_
  have n5 := hp5
  simp only [upd_none] at n5
  obtain ⟨_, _, _, _, n5⟩ := n5
  simp (disch := first | assumption | (apply Ap.symm; assumption) | omega | decide | (simp only [Xd] <;> omega)) only [↓Xa, Xb, Xc, ↓reduceIte, Nat.reduceLT, Nat.reduceEqDiff, Nat.reduceBEq, Nat.reduceLeDiff, Nat.reduceAdd, Nat.reduceMul]
  refine alloc_i fun p6 hp6 => ?_
  have n6 := hp6
  simp only [upd_none] at n6
  obtain ⟨_, _, _, _, _, n6⟩ := n6
  simp (disch := first | assumption | (apply Ap.symm; assumption) | omega | decide | (simp only [Xd] <;> omega)) only [cells_IntA, fold_IntA, cells_i2, ↓Xa, Xb, Xc, ↓reduceIte, Nat.reduceLT, Nat.reduceEqDiff, Nat.reduceBEq, Nat.reduceLeDiff, Nat.reduceAdd, Nat.reduceMul]
  refine (rmk_fn b1 b2 (by omega)).call ?_
  simp (disch := first | assumption | (apply Ap.symm; assumption) | omega | decide | (simp only [Xd] <;> omega)) only [RatE, ↓Xa, Xb, Xc, ↓reduceIte, Nat.reduceLT, Nat.reduceEqDiff, Nat.reduceBEq, Nat.reduceLeDiff, Nat.reduceAdd, Nat.reduceMul]
  refine alloc_i fun p7 hp7 => ?_
  have n7 := hp7
  simp only [upd_none] at n7
  obtain ⟨_, _, _, _, _, _, n7⟩ := n7
  generalize (if z2 = 0 then 2 else 0 : Nat) = e3 at *
  have fin : ∀ {x1 x2 x3 x4 x5 x6 x7 : ABlk}, SetR Q (.tup [RatA (_root_.Rat.divInt z1 z2), .bool (decide (e1 = 0) && decide (e2 = 0) && decide (e3 = 0))]) (((((((H.upd p1 (some x1)).upd p2 (some x2)).upd p3 (some x3)).upd p4 (some x4)).upd p5 (some x5)).upd p6 (some x6)).upd p7 (some x7)) :=
    SetR.dropTo ((((((((Le.refl H).updB n1).updB n2).updB n3).updB n4).updB n5).updB n6).updB n7) (SetR.now hq)
  by_cases c1 : e1 = 0
  · rw [decide_eq_true c1, Bool.true_and] at fin
    by_cases c2 : e2 = 0
    · rw [decide_eq_true c2, Bool.true_and] at fin
      simp (disch := first | assumption | (apply Ap.symm; assumption) | omega | decide | (simp only [Xd] <;> omega)) only [decide_eq_true c1, decide_eq_true c2, cells_RatA, fold_Raw, fold_RatA, rs123, ↓Xa, Xb, Xc, ↓reduceIte, Nat.reduceLT, Nat.reduceEqDiff, Nat.reduceBEq, Nat.reduceLeDiff, Nat.reduceAdd, Nat.reduceMul]
      exact fin
    · rw [decide_eq_false c2, Bool.false_and] at fin
      simp (disch := first | assumption | (apply Ap.symm; assumption) | omega | decide | (simp only [Xd] <;> omega)) only [decide_eq_true c1, decide_eq_false c2, cells_RatA, fold_Raw, fold_RatA, rs123, ↓Xa, Xb, Xc, ↓reduceIte, Nat.reduceLT, Nat.reduceEqDiff, Nat.reduceBEq, Nat.reduceLeDiff, Nat.reduceAdd, Nat.reduceMul]
      exact fin
  · rw [decide_eq_false c1, Bool.false_and, Bool.false_and] at fin
    simp (disch := first | assumption | (apply Ap.symm; assumption) | omega | decide | (simp only [Xd] <;> omega)) only [decide_eq_false c1, cells_RatA, fold_Raw, fold_RatA, rs123, ↓Xa, Xb, Xc, ↓reduceIte, Nat.reduceLT, Nat.reduceEqDiff, Nat.reduceBEq, Nat.reduceLeDiff, Nat.reduceAdd, Nat.reduceMul]
    exact fin
theorem alQ_bd (a : List UInt8 × List UInt8) (h : lngF a = false) : RB 33 (alQ a) := by
  unfold lngF at h
  rw [Bool.or_eq_false_iff] at h
  have h1 := of_decide_eq_false h.1
  have h2 := of_decide_eq_false h.2
  have e : (10 : Nat) ^ 300 ≤ 4294967296 ^ 32 := by decide +kernel
  exact RB.divInt (iRd_bd2 (Nat.le_trans (Nat.pow_le_pow_right (by omega) (by omega)) e)) (iRd_bd2 (Nat.le_trans (Nat.pow_le_pow_right (by omega) (by omega)) e))
theorem qRd_bd (l : List UInt8) : RB 8192 (qRd l).1 := by
  have z : RB 8192 (0 : QQ) := ⟨Bd.zero _, Bd.oneQ 8191⟩
  unfold qRd
  split
  · exact z
  split
  · exact z
  split
  · exact RB.int (k := 8191) (iRd_bd _)
  split
  · exact z
  rename_i h4
  split
  · exact z
  rename_i h5
  split
  · exact z
  obtain ⟨d, hd, e⟩ := iRd_pos (Classical.not_not.1 h5) (fun h => h4 (.inr (.inl h))) (fun h => h4 (.inr (.inr h)))
  have hb := iRd_bd (Lib.cut l [47]).2.1
  rw [e] at hb ⊢
  rw [Int.toNat_natCast]
  exact RB.mk (iRd_bd _) hb hd
abbrev qC' (x : QQ) : List AV := [IntB x.num, IntD x.num, IntB ((x.den : Int) - 1), IntD ((x.den : Int) - 1)]
set_option maxHeartbeats 4000000 in
theorem back0 {H : AHeap} {Q : AV → AHeap → Prop} (a : List UInt8 × List UInt8) (tm : Int) (l : List UInt8) (h1 : a.1.length < 9223372036854775808) (h2 : a.2.length < 9223372036854775808) (ht : -9223372036854775808 ≤ tm ∧ tm < 9223372036854775808) (hl : l.length < 4611686018427387904)
    (hM : MlH H) (hq : Q (.bool true) H) : Run Tryd.prog 21 [FracA a, .int .i64 tm, Sx l] H Q := by
  have hlg : PFn Tryd.prog 107 [.seq 1 [Sx a.1, Sx a.2] true] (.bool (decide (12 < [a].length) || [a].any lngF)) := longF_fn [a] true (by simp)
  have el : (decide (12 < [a].length) || [a].any lngF) = lngF a := by simp
  rw [el] at hlg
  have r4 : ∀ {x y : AV}, repA [x, y] 2 = [x, y] := by simp [repA, List.range, List.range.loop]
  have tail : ∀ (E : Env) (M : AHeap), (E = [(2, Sx l), (113, .bool false)] ∨ ∃ p, E = [(1, .int .i64 tm), (2, Sx l), (7, .ptr p 4 0), (33, .bool false)]) → Le H M → W Tryd.prog (sndC (sndC (sndC (sndC (sndC ac21))))) (retN rs21 Q) ⟨[], E, M⟩ := by
    intro E M hE hle
    have hM2 := hM.le hle
    have hok := qRd_ok (l := l)
    rcases hE with rfl | ⟨p, rfl⟩
    all_goals
      simp (disch := first | assumption | (apply Ap.symm; assumption) | omega | decide | (simp only [Xd] <;> omega)) only [sndC, ac21, ↓Xa, Xb, Xc, ↓reduceIte, Nat.reduceLT, Nat.reduceEqDiff, Nat.reduceBEq, Nat.reduceLeDiff, Nat.reduceAdd, Nat.reduceMul]
      refine run_call (ratread_run hM2 hl ?_)
      have hb := qRd_bd l
      generalize qRd l = R at *
      obtain ⟨x, e, at'⟩ := R
      dsimp only at hok hb ⊢
      simp (disch := first | assumption | (apply Ap.symm; assumption) | omega | decide | (simp only [Xd] <;> omega)) only [spot, ↓Xa, Xb, Xc, ↓reduceIte, Nat.reduceLT, Nat.reduceEqDiff, Nat.reduceBEq, Nat.reduceLeDiff, Nat.reduceAdd, Nat.reduceMul]
      refine alloc_i fun q1 hq1 => ?_
      simp (disch := first | assumption | (apply Ap.symm; assumption) | omega | decide | (simp only [Xd] <;> omega)) only [↓Xa, Xb, Xc, ↓reduceIte, Nat.reduceLT, Nat.reduceEqDiff, Nat.reduceBEq, Nat.reduceLeDiff, Nat.reduceAdd, Nat.reduceMul]
      refine alloc_i fun q2 hq2 => ?_
      have g2 := upd_none.1 hq2
      have fin : ∀ {x1 x2 : ABlk}, SetR Q (.bool true) ((M.upd q1 (some x1)).upd q2 (some x2)) := SetR.dropTo ((hle.updB (hle.none hq1)).updB (hle.none g2.2)) (SetR.now hq)
      have d1 := g2.1
      by_cases he : e = 0 ∧ at' = 0
      · have e1 : decide (((e : Nat) : Int) = ((0 : Nat) : Int)) = true := decide_eq_true (by omega)
        have e2 : decide (((at' : Nat) : Int) = ((0 : Nat) : Int)) = true := decide_eq_true (by omega)
        have e3 : qText x = l := hok (by rw [he.1, he.2])
        simp (disch := first | assumption | (apply Ap.symm; assumption) | omega | decide | (simp only [Xd] <;> omega)) only [cells_RatA, cells_i2, aeq_ii, e1, e2, Bool.and_self, bne_self_eq_false, fold_Raw, fold_RatA, ↓Xa, Xb, Xc, ↓reduceIte, Nat.reduceLT, Nat.reduceEqDiff, Nat.reduceBEq, Nat.reduceLeDiff, Nat.reduceAdd, Nat.reduceMul]
        refine (rtextq_fn hb (by omega)).call ?_
        rw [e3]
        simp (disch := first | assumption | (apply Ap.symm; assumption) | omega | decide | (simp only [Xd] <;> omega)) only [eql_Sx, decide_true, rs21, ↓Xa, Xb, Xc, ↓reduceIte, Nat.reduceLT, Nat.reduceEqDiff, Nat.reduceBEq, Nat.reduceLeDiff, Nat.reduceAdd, Nat.reduceMul]
        exact fin
      · have e1 : (true != (decide (((e : Nat) : Int) = ((0 : Nat) : Int)) && decide (((at' : Nat) : Int) = ((0 : Nat) : Int)))) = true := by
          by_cases h : e = 0
          · rw [decide_eq_false (show ¬ ((at' : Nat) : Int) = ((0 : Nat) : Int) by omega)]; simp
          · rw [decide_eq_false (show ¬ ((e : Nat) : Int) = ((0 : Nat) : Int) by omega)]; simp
        simp (disch := first | assumption | (apply Ap.symm; assumption) | omega | decide | (simp only [Xd] <;> omega)) only [cells_RatA, cells_i2, aeq_ii, e1, fold_Raw, fold_RatA, rs21, ↓Xa, Xb, Xc, ↓reduceIte, Nat.reduceLT, Nat.reduceEqDiff, Nat.reduceBEq, Nat.reduceLeDiff, Nat.reduceAdd, Nat.reduceMul]
        exact fin
  have aq := alone_q a h1 h2
  have bq := alQ_bd a
  generalize alQ a = x at *
  generalize alOk a = ok at *
  refine enter21 (by simp) ?_
  simp (disch := first | assumption | (apply Ap.symm; assumption) | omega | decide | (simp only [Xd] <;> omega)) only [ac21, cells_FracA, ↓Xa, Xb, Xc, ↓reduceIte, Nat.reduceLT, Nat.reduceEqDiff, Nat.reduceBEq, Nat.reduceLeDiff, Nat.reduceAdd, Nat.reduceMul]
  refine alloc_i fun p1 hp1 => ?_
  have n1 := hp1
  simp (disch := first | assumption | (apply Ap.symm; assumption) | omega | decide | (simp only [Xd] <;> omega)) only [↓Xa, Xb, Xc, ↓reduceIte, Nat.reduceLT, Nat.reduceEqDiff, Nat.reduceBEq, Nat.reduceLeDiff, Nat.reduceAdd, Nat.reduceMul]
  refine works_q.call ?_
  simp (disch := first | assumption | (apply Ap.symm; assumption) | omega | decide | (simp only [Xd] <;> omega)) only [fold_FracA, ↓Xa, Xb, Xc, ↓reduceIte, Nat.reduceLT, Nat.reduceEqDiff, Nat.reduceBEq, Nat.reduceLeDiff, Nat.reduceAdd, Nat.reduceMul]
  refine aq.call ?_
  simp (disch := first | assumption | (apply Ap.symm; assumption) | omega | decide | (simp only [Xd] <;> omega)) only [↓Xa, Xb, Xc, ↓reduceIte, Nat.reduceLT, Nat.reduceEqDiff, Nat.reduceBEq, Nat.reduceLeDiff, Nat.reduceAdd, Nat.reduceMul]
  refine alloc_i fun p2 hp2 => ?_
  have n2 := hp2
  simp only [upd_none] at n2
  obtain ⟨_, n2⟩ := n2
  simp (disch := first | assumption | (apply Ap.symm; assumption) | omega | decide | (simp only [Xd] <;> omega)) only [cells_RatA, fold_FracA, cells_FracA, r4, ↓Xa, Xb, Xc, ↓reduceIte, Nat.reduceLT, Nat.reduceEqDiff, Nat.reduceBEq, Nat.reduceLeDiff, Nat.reduceAdd, Nat.reduceMul]
  refine hlg.call ?_
  have fin2 : ∀ {x1 x2 : ABlk}, SetR Q (.bool true) ((H.upd p1 (some x1)).upd p2 (some x2)) := SetR.dropTo (((Le.refl H).updB n1).updB n2) (SetR.now hq)
  cases hlo : lngF a with
  | true =>
    simp (disch := first | assumption | (apply Ap.symm; assumption) | omega | decide | (simp only [Xd] <;> omega)) only [rs21, ↓Xa, Xb, Xc, ↓reduceIte, Nat.reduceLT, Nat.reduceEqDiff, Nat.reduceBEq, Nat.reduceLeDiff, Nat.reduceAdd, Nat.reduceMul]
    exact fin2
  | false =>
  by_cases h8 : 800 < l.length
  · simp (disch := first | assumption | (apply Ap.symm; assumption) | omega | decide | (simp only [Xd] <;> omega)) only [len_Sx, h8, rs21, ↓Xa, Xb, Xc, ↓reduceIte, Nat.reduceLT, Nat.reduceEqDiff, Nat.reduceBEq, Nat.reduceLeDiff, Nat.reduceAdd, Nat.reduceMul]
    exact fin2
  have bq := bq hlo
  cases ok with
  | false =>
    have r := fun M (h : Le H M) => tail _ M (.inr ⟨p2, rfl⟩) h
    simp (disch := first | assumption | (apply Ap.symm; assumption) | omega | decide | (simp only [Xd] <;> omega)) only [sndC, ac21, ↓Xa, Xb, Xc, ↓reduceIte, Nat.reduceLT, Nat.reduceEqDiff, Nat.reduceBEq, Nat.reduceLeDiff, Nat.reduceAdd, Nat.reduceMul] at r
    simp (disch := first | assumption | (apply Ap.symm; assumption) | omega | decide | (simp only [Xd] <;> omega)) only [len_Sx, h8, ↓Xa, Xb, Xc, ↓reduceIte, Nat.reduceLT, Nat.reduceEqDiff, Nat.reduceBEq, Nat.reduceLeDiff, Nat.reduceAdd, Nat.reduceMul]
    exact r _ (((Le.refl H).updB n1).updB n2)
  | true =>
  have hpos := q_pos x
  have hxe : _root_.Rat.divInt x.num (x.den : Int) = x := _root_.Rat.num_divInt_den x
  have mk := rmk_fn bq.1 bq.2 (by omega)
  rw [hxe, if_neg (by omega)] at mk
  have tl : (qText x).length ≤ 65536 := by
    have l1 := iText_len bq.1
    have l2 := iText_len bq.2
    unfold qText
    rw [List.length_append]
    split
    · simp; omega
    · simp; omega
  have hrd := qRd_text tl
  have hgcd : Int.gcd x.num (x.den : Int) = 1 := x.reduced
  have gf := igcd_fn bq.1 (by omega) bq.2
  rw [hgcd] at gf
  have hsg : sgnI (x.den : Int) = ((1 : Nat) : Int) := by unfold sgnI; rw [if_neg (by omega), if_neg (by omega)]
  simp (disch := first | assumption | (apply Ap.symm; assumption) | omega | decide | (simp only [Xd] <;> omega)) only [len_Sx, h8, cells_RatA, fold_Raw, fold_RatA, ↓Xa, Xb, Xc, ↓reduceIte, Nat.reduceLT, Nat.reduceEqDiff, Nat.reduceBEq, Nat.reduceLeDiff, Nat.reduceAdd, Nat.reduceMul]
  refine PFn.dcall rnum_fn ?_
  simp (disch := first | assumption | (apply Ap.symm; assumption) | omega | decide | (simp only [Xd] <;> omega)) only [fold_Raw, fold_RatA, ↓Xa, Xb, Xc, ↓reduceIte, Nat.reduceLT, Nat.reduceEqDiff, Nat.reduceBEq, Nat.reduceLeDiff, Nat.reduceAdd, Nat.reduceMul]
  refine PFn.dcall (rden_fn bq (by omega)) ?_
  simp (disch := first | assumption | (apply Ap.symm; assumption) | omega | decide | (simp only [Xd] <;> omega)) only [↓Xa, Xb, Xc, ↓reduceIte, Nat.reduceLT, Nat.reduceEqDiff, Nat.reduceBEq, Nat.reduceLeDiff, Nat.reduceAdd, Nat.reduceMul]
  refine dalloc_i fun p3 hp3 => ?_
  have n3 := hp3
  simp only [upd_none] at n3
  obtain ⟨_, _, n3⟩ := n3
  simp (disch := first | assumption | (apply Ap.symm; assumption) | omega | decide | (simp only [Xd] <;> omega)) only [↓Xa, Xb, Xc, ↓reduceIte, Nat.reduceLT, Nat.reduceEqDiff, Nat.reduceBEq, Nat.reduceLeDiff, Nat.reduceAdd, Nat.reduceMul]
  refine dalloc_i fun p4 hp4 => ?_
  have n4 := hp4
  simp only [upd_none] at n4
  obtain ⟨_, _, _, n4⟩ := n4
  simp (disch := first | assumption | (apply Ap.symm; assumption) | omega | decide | (simp only [Xd] <;> omega)) only [cells_IntA, fold_IntA, ↓Xa, Xb, Xc, ↓reduceIte, Nat.reduceLT, Nat.reduceEqDiff, Nat.reduceBEq, Nat.reduceLeDiff, Nat.reduceAdd, Nat.reduceMul]
  refine mk.call ?_
  simp (disch := first | assumption | (apply Ap.symm; assumption) | omega | decide | (simp only [Xd] <;> omega)) only [RatE, ↓Xa, Xb, Xc, ↓reduceIte, Nat.reduceLT, Nat.reduceEqDiff, Nat.reduceBEq, Nat.reduceLeDiff, Nat.reduceAdd, Nat.reduceMul]
  refine alloc_i fun p5 hp5 => ?_
  have n5 := hp5
  simp only [upd_none] at n5
  obtain ⟨_, _, _, _, n5⟩ := n5
  simp (disch := first | assumption | (apply Ap.symm; assumption) | omega | decide | (simp only [Xd] <;> omega)) only [cells_RatA, fold_Raw, fold_RatA, ↓Xa, Xb, Xc, ↓reduceIte, Nat.reduceLT, Nat.reduceEqDiff, Nat.reduceBEq, Nat.reduceLeDiff, Nat.reduceAdd, Nat.reduceMul]
  refine (rtextq_fn bq (by omega)).call ?_
  simp (disch := first | assumption | (apply Ap.symm; assumption) | omega | decide | (simp only [Xd] <;> omega)) only [↓Xa, Xb, Xc, ↓reduceIte, Nat.reduceLT, Nat.reduceEqDiff, Nat.reduceBEq, Nat.reduceLeDiff, Nat.reduceAdd, Nat.reduceMul]
  refine run_call (ratread_run (hM.le ((((((Le.refl H).updB n1).updB n2).updB n3).updB n4).updB n5)) (by omega) ?_)
  rw [hrd]
  simp (disch := first | assumption | (apply Ap.symm; assumption) | omega | decide | (simp only [Xd] <;> omega)) only [spot, ↓Xa, Xb, Xc, ↓reduceIte, Nat.reduceLT, Nat.reduceEqDiff, Nat.reduceBEq, Nat.reduceLeDiff, Nat.reduceAdd, Nat.reduceMul]
  refine alloc_i fun p6 hp6 => ?_
  have n6 := hp6
  simp only [upd_none] at n6
  obtain ⟨_, _, _, _, _, n6⟩ := n6
  simp (disch := first | assumption | (apply Ap.symm; assumption) | omega | decide | (simp only [Xd] <;> omega)) only [↓Xa, Xb, Xc, ↓reduceIte, Nat.reduceLT, Nat.reduceEqDiff, Nat.reduceBEq, Nat.reduceLeDiff, Nat.reduceAdd, Nat.reduceMul]
  refine alloc_i fun p7 hp7 => ?_
  have n7 := hp7
  simp only [upd_none] at n7
  obtain ⟨_, _, _, _, _, _, n7⟩ := n7
  simp (disch := first | assumption | (apply Ap.symm; assumption) | omega | decide | (simp only [Xd] <;> omega)) only [cells_RatA, cells_i2, fold_IntA, ↓Xa, Xb, Xc, ↓reduceIte, Nat.reduceLT, Nat.reduceEqDiff, Nat.reduceBEq, Nat.reduceLeDiff, Nat.reduceAdd, Nat.reduceMul]
  refine (sign_fn bq.2 (by omega)).call ?_
  have hleq : ∀ K : AV → Prop, binW .leq (.int .i64 (sgnI (x.den : Int))) (.int .i64 ((0 : Nat) : Int)) K ↔ K (.bool false) := fun K => by rw [hsg]; simp [binW, binInt]
  simp (disch := first | assumption | (apply Ap.symm; assumption) | omega | decide | (simp only [Xd] <;> omega)) only [hleq, fold_IntA, ↓Xa, Xb, Xc, ↓reduceIte, Nat.reduceLT, Nat.reduceEqDiff, Nat.reduceBEq, Nat.reduceLeDiff, Nat.reduceAdd, Nat.reduceMul]
  refine gf.call ?_
  simp (disch := first | assumption | (apply Ap.symm; assumption) | omega | decide | (simp only [Xd] <;> omega)) only [↓Xa, Xb, Xc, ↓reduceIte, Nat.reduceLT, Nat.reduceEqDiff, Nat.reduceBEq, Nat.reduceLeDiff, Nat.reduceAdd, Nat.reduceMul]
  refine (of_fn (n := ((1 : Nat) : Int)) (by omega)).call ?_
  simp (disch := first | assumption | (apply Ap.symm; assumption) | omega | decide | (simp only [Xd] <;> omega)) only [↓Xa, Xb, Xc, ↓reduceIte, Nat.reduceLT, Nat.reduceEqDiff, Nat.reduceBEq, Nat.reduceLeDiff, Nat.reduceAdd, Nat.reduceMul]
  refine (cmpi_fn (Bd.i64 (n := ((1 : Nat) : Int)) (by omega)) (by omega) (Bd.i64 (n := ((1 : Nat) : Int)) (by omega)) (by omega)).call ?_
  have hcm : cmpI ((1 : Nat) : Int) ((1 : Nat) : Int) = ((0 : Nat) : Int) := by decide
  have sq := same_q bq bq (by omega) (by omega)
  rw [decide_eq_true rfl] at sq
  simp (disch := first | assumption | (apply Ap.symm; assumption) | omega | decide | (simp only [Xd] <;> omega)) only [hcm, fold_Raw, fold_RatA, ↓Xa, Xb, Xc, ↓reduceIte, Nat.reduceLT, Nat.reduceEqDiff, Nat.reduceBEq, Nat.reduceLeDiff, Nat.reduceAdd, Nat.reduceMul]
  refine sq.call ?_
  have hd0 : decide (((0 : Nat) : Int) = ((0 : Nat) : Int)) = true := rfl
  simp (disch := first | assumption | (apply Ap.symm; assumption) | omega | decide | (simp only [Xd] <;> omega)) only [aeq_ii, hd0, Bool.and_self, bne_self_eq_false, fold_Raw, fold_RatA, ↓Xa, Xb, Xc, ↓reduceIte, Nat.reduceLT, Nat.reduceEqDiff, Nat.reduceBEq, Nat.reduceLeDiff, Nat.reduceAdd, Nat.reduceMul]
  refine sq.call ?_
  have bt : Bd 2 tm := Bd.i64 ht
  simp (disch := first | assumption | (apply Ap.symm; assumption) | omega | decide | (simp only [Xd] <;> omega)) only [fold_IntA, ↓Xa, Xb, Xc, ↓reduceIte, Nat.reduceLT, Nat.reduceEqDiff, Nat.reduceBEq, Nat.reduceLeDiff, Nat.reduceAdd, Nat.reduceMul]
  refine PFn.dcall (of_fn ht) ?_
  simp (disch := first | assumption | (apply Ap.symm; assumption) | omega | decide | (simp only [Xd] <;> omega)) only [↓Xa, Xb, Xc, ↓reduceIte, Nat.reduceLT, Nat.reduceEqDiff, Nat.reduceBEq, Nat.reduceLeDiff, Nat.reduceAdd, Nat.reduceMul]
  refine PFn.dcall (muli_fn bq.1 (by omega) bt (by omega)) ?_
  simp (disch := first | assumption | (apply Ap.symm; assumption) | omega | decide | (simp only [Xd] <;> omega)) only [fold_IntA, ↓Xa, Xb, Xc, ↓reduceIte, Nat.reduceLT, Nat.reduceEqDiff, Nat.reduceBEq, Nat.reduceLeDiff, Nat.reduceAdd, Nat.reduceMul]
  refine PFn.dcall (of_fn ht) ?_
  simp (disch := first | assumption | (apply Ap.symm; assumption) | omega | decide | (simp only [Xd] <;> omega)) only [↓Xa, Xb, Xc, ↓reduceIte, Nat.reduceLT, Nat.reduceEqDiff, Nat.reduceBEq, Nat.reduceLeDiff, Nat.reduceAdd, Nat.reduceMul]
  refine PFn.dcall (muli_fn bq.2 (by omega) bt (by omega)) ?_
  simp (disch := first | assumption | (apply Ap.symm; assumption) | omega | decide | (simp only [Xd] <;> omega)) only [↓Xa, Xb, Xc, ↓reduceIte, Nat.reduceLT, Nat.reduceEqDiff, Nat.reduceBEq, Nat.reduceLeDiff, Nat.reduceAdd, Nat.reduceMul]
  refine PFn.dcall (rmk_fn (bq.1.mul bt) (bq.2.mul bt) (by omega)) ?_
  simp (disch := first | assumption | (apply Ap.symm; assumption) | omega | decide | (simp only [Xd] <;> omega)) only [RatE, ↓Xa, Xb, Xc, ↓reduceIte, Nat.reduceLT, Nat.reduceEqDiff, Nat.reduceBEq, Nat.reduceLeDiff, Nat.reduceAdd, Nat.reduceMul]
  refine dalloc_i fun p8 hp8 => ?_
  have n8 := hp8
  simp only [upd_none] at n8
  obtain ⟨_, _, _, _, _, _, _, n8⟩ := n8
  have r := fun M (h : Le H M) => tail _ M (.inl rfl) h
  simp (disch := first | assumption | (apply Ap.symm; assumption) | omega | decide | (simp only [Xd] <;> omega)) only [sndC, ac21, ↓Xa, Xb, Xc, ↓reduceIte, Nat.reduceLT, Nat.reduceEqDiff, Nat.reduceBEq, Nat.reduceLeDiff, Nat.reduceAdd, Nat.reduceMul] at r
  by_cases h0 : tm = 0
  · have e0 : decide (tm = ((0 : Nat) : Int)) = true := decide_eq_true h0
    have e1 : (if (x.den : Int) * tm = 0 then 2 else 0 : Nat) = 2 := if_pos (by rw [h0, Int.mul_zero])
    rw [e1]
    have e2 : decide (((2 : Nat) : Int) = ((2 : Nat) : Int)) = true := rfl
    simp (disch := first | assumption | (apply Ap.symm; assumption) | omega | decide | (simp only [Xd] <;> omega)) only [eql_int, neq_int, e0, e2, Bool.not_true, cells_RatA, ↓Xa, Xb, Xc, ↓reduceIte, Nat.reduceLT, Nat.reduceEqDiff, Nat.reduceBEq, Nat.reduceLeDiff, Nat.reduceAdd, Nat.reduceMul]
    exact r _ (((((((((Le.refl H).updB n1).updB n2).updB n3).updB n4).updB n5).updB n6).updB n7).updB n8)
  · have e0 : decide (tm = ((0 : Nat) : Int)) = false := decide_eq_false h0
    have hdt : ¬ (x.den : Int) * tm = 0 := fun h => by
      rcases Int.mul_eq_zero.1 h with h | h
      · omega
      · exact h0 h
    have e1 : (if (x.den : Int) * tm = 0 then 2 else 0 : Nat) = 0 := if_neg hdt
    have ez : _root_.Rat.divInt (x.num * tm) ((x.den : Int) * tm) = x := by rw [_root_.Rat.divInt_mul_right h0, hxe]
    rw [e1, ez]
    simp (disch := first | assumption | (apply Ap.symm; assumption) | omega | decide | (simp only [Xd] <;> omega)) only [eql_int, neq_int, e0, hd0, Bool.not_true, Bool.not_false, cells_RatA, fold_Raw, fold_RatA, ↓Xa, Xb, Xc, ↓reduceIte, Nat.reduceLT, Nat.reduceEqDiff, Nat.reduceBEq, Nat.reduceLeDiff, Nat.reduceAdd, Nat.reduceMul]
    refine sq.call ?_
    simp (disch := first | assumption | (apply Ap.symm; assumption) | omega | decide | (simp only [Xd] <;> omega)) only [↓Xa, Xb, Xc, ↓reduceIte, Nat.reduceLT, Nat.reduceEqDiff, Nat.reduceBEq, Nat.reduceLeDiff, Nat.reduceAdd, Nat.reduceMul]
    exact r _ (((((((((Le.refl H).updB n1).updB n2).updB n3).updB n4).updB n5).updB n6).updB n7).updB n8)
theorem ratioBack_law {H : AHeap} {Q : AV → AHeap → Prop} (a : ByteArray × ByteArray) (tm : Int) (s : ByteArray) (ha : a.1.size < 9223372036854775808 ∧ a.2.size < 9223372036854775808) (ht : -9223372036854775808 ≤ tm ∧ tm < 9223372036854775808) (hs : s.size ≤ 140737488351232)
    (hM : MlH H) (hq : Q (.bool true) H) : Run Tryd.prog 21 [.agg [.str a.1, .str a.2], .int .i64 tm, .str s] H Q := by
  have e : AV.agg [.str a.1, .str a.2] = FracA (a.1.data.toList, a.2.data.toList) := by cases a; rfl
  have e2 : AV.str s = Sx s.data.toList := rfl
  rw [e, e2]
  exact back0 _ tm _ ha.1 ha.2 ht (by have : s.data.toList.length = s.size := rfl; omega) hM hq
end Go.Proofs.YtanchgkiomfhhaaDoor.Fw
