/- The texts Kc Kd Pl, joined. -/
import Derived.Test.YtanchgkiomfhhaaDoorZ4
/- Rows that grow, two at once, or beside memory that turns. -/
namespace Go.Proofs.YtanchgkiomfhhaaDoor.Fw
set_option linter.unusedSimpArgs false
set_option linter.unusedVariables false
open Go Go.Proofs.YtanchgkiomfhhaaDoor.Ma
set_option maxRecDepth 20000

theorem app_under {H0 H1 H : AHeap} {ty es bytes n m ty' es' n' : Nat} {cells ys cells' : List AV} {x y : AV} {t : Bool} {K : AV → AHeap → Prop} (h : growC H0 ty es n cells x H1) (h2 : growC H1 ty' es' n' cells' y H) (hy : ys.length = m * es) (hc : ys.all AV.cell = true) (hm : 0 < m) (hb : (n + m) * bytes ≤ 70368744177664) (hb2 : n + m ≤ 70368744177664)
    (k : ∀ x' H1' H', growC H0 ty es (n + m) (cells ++ ys) x' H1' → growC H1' ty' es' n' cells' y H' → K x' H') : appV H ty es bytes x (.seq m ys t) K := by
  refine .inl ⟨hy, hc, ?_⟩
  rcases h with ⟨rfl, rfl, rfl, rfl⟩ | ⟨hn, hl, b, hb', rfl, rfl⟩
  · refine ⟨rfl, by simp, hb, hb2, fun e => absurd e (by omega), fun _ b hbn => ?_⟩
    rcases h2 with ⟨rfl, rfl, rfl, rfl⟩ | ⟨hn2, hl2, b2, hb2', rfl, rfl⟩
    · exact k _ _ _ (.inr ⟨by omega, by simp [hy], b, hbn, rfl, by simp⟩) growC_nil
    · obtain ⟨e, e2⟩ := upd_none.1 hbn
      refine k _ _ _ (.inr ⟨by omega, by simp [hy], b, e2, rfl, rfl⟩) (.inr ⟨hn2, hl2, b2, ?_, rfl, ?_⟩)
      · rw [upd_other _ _ (Ne.symm e)]; exact hb2'
      · simp only [List.nil_append]; exact upd_comm _ _ _ (Ne.symm e)
  · rcases h2 with ⟨rfl, rfl, rfl, rfl⟩ | ⟨hn2, hl2, b2, hb2', rfl, rfl⟩
    · dsimp only
      rw [upd_same]
      refine ⟨hl, rfl, rfl, rfl, rfl, hb, hb2, ?_⟩
      exact k _ _ _ (.inr ⟨by omega, by rw [List.length_append, hl, hy, Nat.add_mul], b, hb', rfl, by rw [upd_upd]⟩) growC_nil
    · obtain ⟨e, e2⟩ := upd_none.1 hb2'
      dsimp only
      rw [upd_other _ _ (Ne.symm e), upd_same]
      refine ⟨hl, rfl, rfl, rfl, rfl, hb, hb2, ?_⟩
      refine k _ (H0.upd b (some (.row ty es (cells ++ ys)))) _ (.inr ⟨by omega, by rw [List.length_append, hl, hy, Nat.add_mul], b, hb', rfl, rfl⟩) (.inr ⟨hn2, hl2, b2, upd_none.2 ⟨e, e2⟩, rfl, ?_⟩)
      rw [upd_comm _ _ _ e, upd_upd]
theorem growC_fin2 {H0 H1 H : AHeap} {ty es n ty' es' n' : Nat} {cells cells' : List AV} {x y : AV} {Q : AV → AHeap → Prop} (h : growC H0 ty es n cells x H1) (h2 : growC H1 ty' es' n' cells' y H) (hq : Q (.tup [.seq n cells false, .seq n' cells' false]) H0) : SetR Q (.tup [x, y]) H := by
  rcases h with ⟨rfl, rfl, rfl, rfl⟩ | ⟨hn, hl, b, hb, rfl, rfl⟩ <;> rcases h2 with ⟨rfl, rfl, rfl, rfl⟩ | ⟨hn2, hl2, b2, hb2, rfl, rfl⟩
  · exact SetR.loose (SetR.now hq)
  · refine SetR.loose (SetR.frz b2 (upd_same _ _ _) ?_)
    rw [upd_upd, upd_back _ hb2]
    have e : frz b2 es' cells' (loose (.tup [.seq 0 [] true, .own b2 (n' * es') 0 n' false])) = .tup [.seq 0 [] false, .seq n' cells' false] := by simp [frz, frz2, frz1, loose, loose2, loose1, hl2, List.take_of_length_le]
    rw [e]; exact SetR.now hq
  · refine SetR.loose (SetR.frz b (upd_same _ _ _) ?_)
    rw [upd_upd, upd_back _ hb]
    have e : frz b es cells (loose (.tup [.own b (n * es) 0 n false, .seq 0 [] true])) = .tup [.seq n cells false, .seq 0 [] false] := by simp [frz, frz2, frz1, loose, loose2, loose1, hl, List.take_of_length_le]
    rw [e]; exact SetR.now hq
  · obtain ⟨e, e2⟩ := upd_none.1 hb2
    refine SetR.frz b2 (upd_same _ _ _) ?_
    rw [upd_upd, upd_back _ hb2]
    have e1 : frz b2 es' cells' (.tup [.own b (n * es) 0 n false, .own b2 (n' * es') 0 n' false]) = .tup [.own b (n * es) 0 n false, .seq n' cells' false] := by simp [frz, frz2, frz1, hl2, List.take_of_length_le, Ne.symm e]
    rw [e1]
    refine SetR.frz b (upd_same _ _ _) ?_
    rw [upd_upd, upd_back _ hb]
    have e3 : frz b es cells (.tup [.own b (n * es) 0 n false, .seq n' cells' false]) = .tup [.seq n cells false, .seq n' cells' false] := by simp [frz, frz2, frz1, hl, List.take_of_length_le]
    rw [e3]; exact SetR.now hq
theorem growC_fin1 {H0 H : AHeap} {ty es n : Nat} {cells : List AV} {x : AV} {k : IntKind} {e : Int} {Q : AV → AHeap → Prop} (h : growC H0 ty es n cells x H) (hq : Q (.tup [.seq n cells false, .int k e]) H0) : SetR Q (.tup [x, .int k e]) H := by
  rcases h with ⟨rfl, rfl, rfl, rfl⟩ | ⟨hn, hl, b, hb, rfl, rfl⟩
  · exact SetR.loose (SetR.now hq)
  · refine SetR.frz b (upd_same _ _ _) ?_
    rw [upd_upd, upd_back _ hb]
    have e : frz b es cells (.tup [.own b (n * es) 0 n false, .int k e]) = .tup [.seq n cells false, .int k e] := by simp [frz, frz2, frz1, hl, List.take_of_length_le]
    rw [e]; exact SetR.now hq
theorem growC_move {H0 H M : AHeap} {ty es n : Nat} {cells : List AV} {y : AV} (h : growC H0 ty es n cells y H) (hm : ∀ b, H0 b = none → H b ≠ none → M b = H b) : ∃ H1, growC H1 ty es n cells y M ∧ ∀ H2, Le H2 M → (∀ b, H0 b = none → H2 b = none) → Le H2 H1 := by
  rcases h with ⟨rfl, rfl, rfl, rfl⟩ | ⟨hn, hl, b, hb, rfl, rfl⟩
  · exact ⟨M, growC_nil, fun _ h _ => h⟩
  · have e := hm b hb (by rw [upd_same]; simp)
    rw [upd_same] at e
    refine ⟨M.upd b none, .inr ⟨hn, hl, b, upd_same _ _ _, rfl, by rw [upd_upd, upd_back _ e]⟩, fun H2 h h3 i x hi => ?_⟩
    have hib : i ≠ b := by rintro rfl; rw [h3 _ hb] at hi; cases hi
    rw [upd_other _ _ hib]; exact h i x hi
theorem growC_le2 {H1 H2 M : AHeap} {ty es n : Nat} {cells : List AV} {y : AV} (h : growC H1 ty es n cells y M) (hl : Le H2 H1) : ∃ M2, growC H2 ty es n cells y M2 ∧ Le M2 M := by
  rcases h with ⟨rfl, rfl, rfl, rfl⟩ | ⟨hn, hlen, b, hb, rfl, rfl⟩
  · exact ⟨H2, growC_nil, hl⟩
  · have hb2 : H2 b = none := by
      cases e : H2 b with
      | none => rfl
      | some x => have := hl b x e; rw [hb] at this; cases this
    refine ⟨_, .inr ⟨hn, hlen, b, hb2, rfl, rfl⟩, fun i x hi => ?_⟩
    by_cases e : i = b
    · subst e; rw [upd_same] at hi ⊢; exact hi
    · rw [upd_other _ _ e] at hi ⊢; exact hl i x hi
theorem growC_none {H0 H : AHeap} {ty es n : Nat} {cells : List AV} {y : AV} (h : growC H0 ty es n cells y H) {b : Nat} (hb : H b = none) : H0 b = none := by
  cases e : H0 b with
  | none => rfl
  | some x => rw [growC_le h b x e] at hb; cases hb
theorem growC_upd {H0 H : AHeap} {ty es n : Nat} {cells : List AV} {y : AV} (h : growC H0 ty es n cells y H) {q : Nat} {r : ABlk} (hq : H q = none) : growC (H0.upd q (some r)) ty es n cells y (H.upd q (some r)) := by
  rcases h with ⟨rfl, rfl, rfl, rfl⟩ | ⟨hn, hlen, b, hb, rfl, rfl⟩
  · exact growC_nil
  · obtain ⟨e, e2⟩ := upd_none.1 hq
    refine .inr ⟨hn, hlen, b, upd_none.2 ⟨Ne.symm e, hb⟩, rfl, upd_comm _ _ _ (Ne.symm e)⟩
end Go.Proofs.YtanchgkiomfhhaaDoor.Fw

/- Rows lent: what only reads may be handed rows that are one's own. -/
namespace Go.Proofs.YtanchgkiomfhhaaDoor.Fw
set_option linter.unusedSimpArgs false
set_option linter.unusedVariables false
open Go Go.Proofs.YtanchgkiomfhhaaDoor.Ma
set_option maxRecDepth 20000

def scal : AV → Bool
  | .int _ _ => true
  | .bool _ => true
  | .str _ => true
  | _ => false
theorem scal_enc {c c' : Ctx} {r : AV} {v : Value} (h : scal r = true) (he : Enc c r v) : Enc c' r v := by
  cases he with
  | int k n => exact .int k n
  | bool b => exact .bool b
  | str s => exact .str s
  | _ => cases h
theorem le_nil {H : AHeap} : Le nilH H := fun _ _ h => by cases h
def Lent (H : AHeap) (x y : AV) : Prop := ∀ (c : Ctx), c.H = H → Ok c → ∀ v, Enc c x v → Enc (c.dropTo nilH) y v
theorem Lent.same {H : AHeap} {x : AV} : Lent H x x := fun c _ _ _ h => h.later (c.dropTo_later le_nil)
theorem Lent.own {H : AHeap} {b ty es n : Nat} {t : Bool} {cells : List AV} (hH : H b = some (.row ty es cells)) (hL : cells.length = n * es) : Lent H (.own b (n * es) 0 n t) (.seq n cells t) := by
  intro c hc hok v he
  have h1 := Enc.freeze hok he (hc ▸ hH) hL (.inr (by omega))
  rw [List.drop_zero, List.take_of_length_le (by omega)] at h1
  exact h1.later ((c.drop b).dropTo_later le_nil)
theorem Lent.grown {H0 H : AHeap} {ty es n : Nat} {cells : List AV} {x : AV} (h : growC H0 ty es n cells x H) : Lent H x (.seq n cells false) := by
  rcases h with ⟨rfl, rfl, rfl, rfl⟩ | ⟨hn, hl, b, hb, rfl, rfl⟩
  · intro c _ _ v he
    exact enc_loose _ _ (he.later (c.dropTo_later le_nil))
  · exact Lent.own (upd_same _ _ _) hl
def LentL (H : AHeap) : List AV → List AV → Prop
  | [], [] => True
  | x :: xs, y :: ys => Lent H x y ∧ LentL H xs ys
  | _, _ => False
theorem LentL.len {H : AHeap} : ∀ {xs ys : List AV}, LentL H xs ys → ys.length = xs.length
  | [], [], _ => rfl
  | _ :: _, _ :: _, h => by simp [LentL.len h.2]
  | [], _ :: _, h => h.elim
  | _ :: _, [], h => h.elim
theorem LentL.get {H : AHeap} : ∀ {xs ys : List AV}, LentL H xs ys → ∀ i (h : i < xs.length) (h' : i < ys.length), Lent H (xs[i]) (ys[i])
  | _ :: _, _ :: _, h, 0, _, _ => h.1
  | _ :: _, _ :: _, h, i + 1, a, b => LentL.get h.2 i (by simpa using a) (by simpa using b)
  | [], [], _, _, a, _ => absurd a (by simp)
  | [], _ :: _, h, _, _, _ => h.elim
  | _ :: _, [], h, _, _, _ => h.elim
theorem PFn.lend {P : Program} {f : FuncId} {args args' : List AV} {r : AV} (h : PFn P f args' r) (hr : scal r = true) {H : AHeap} {Q : AV → AHeap → Prop} (hx : LentL H args args') (hq : Q r H) : Run P f args H Q := by
  have run0 := h nilH (fun r' H' => r' = r ∧ H' = nilH) ⟨rfl, rfl⟩
  refine ⟨run0.1, fun c vs hH hok hs he => ?_⟩
  have hl := hx.len
  have run := run0.2 (c.dropTo nilH) vs rfl (Ctx.dropTo_ok hok le_nil) (hs.trans hl.symm) fun i hi hi' => hx.get i (by omega) hi c hH hok _ (he i (by omega) hi')
  refine run.mono ?_
  rintro e w' ⟨c', v, r', a1, a2, a3, a4, a5, rfl, a7⟩
  have nomut : ∀ k, ¬ Mut (c.dropTo nilH) k := fun k ⟨i, hi, _⟩ => hi
  have hkeep : ∀ k, k < c.w.heap.size → c'.w.heap[k]? = c.w.heap[k]? := fun k hk => (a4.keep k hk (nomut k)).1
  let c2 : Ctx := { c' with H := c.H, μ := fun i => (c.H i).elim (c'.μ i) (fun _ => c.μ i) }
  have hmu : ∀ i x, c.H i = some x → c2.μ i = c.μ i := fun i x e => by show (c.H i).elim _ _ = _; rw [e]; rfl
  have hsz : ∀ i x, c.H i = some x → c.μ i < c.w.heap.size := fun i x e => by
    have := hok.blk i x e
    cases x with
    | row ty es cells => obtain ⟨arr, h1, _⟩ := this; exact (Array.getElem?_eq_some_iff.1 h1).1
    | raw o => exact (Array.getElem?_eq_some_iff.1 this.1).1
    | glob g cells => rw [this.1]; exact this.2.1
    | loop st pend fn ps assign body n E => obtain ⟨tm, dd, h1, _⟩ := this; exact (Array.getElem?_eq_some_iff.1 h1).1
  have hheap : ∀ i x, c.H i = some x → c'.w.heap[c.μ i]? = c.w.heap[c.μ i]? := fun i x e => hkeep _ (hsz i x e)
  have later : Later c c2 := by
    refine ⟨⟨a4.size, a4.os, a4.tape, a4.output, fun b hb => a4.used b hb, ?_, ?_⟩, fun b hb => a4.res b hb⟩
    · intro i x' _ hx'
      refine ⟨x', hx', Nat.le_refl _, fun _ => ⟨hmu i x' hx', fun ty' es' cells' e => ⟨cells', e, fun arr ha => ⟨arr, ?_, rfl⟩⟩⟩⟩
      rw [hmu i x' hx']
      exact (hheap i x' hx').trans ha
    · intro k hk hm
      refine ⟨hkeep k hk, fun ⟨i, hi, e⟩ => hm ⟨i, hi, ?_⟩⟩
      have hi' : ABlk.mut (c.H i) := hi
      cases hxi : c.H i with
      | none => rw [hxi] at hi'; exact hi'.elim
      | some x => rw [← hmu i x hxi]; exact e
  have ok : Ok c2 := by
    refine ⟨fun b hb => a4.used b (hok.used b hb), a3.fin, fun b b' hb hb' e => ?_, fun b x hb => ?_⟩
    · obtain ⟨x, hx⟩ := Option.ne_none_iff_exists'.1 hb
      obtain ⟨x', hx'⟩ := Option.ne_none_iff_exists'.1 hb'
      have e1 : c2.μ b = c2.μ b' := e
      rw [hmu b x hx, hmu b' x' hx'] at e1
      exact hok.inj b b' hb hb' e1
    · exact (hok.blk b x hb).later later (hmu b x hb) (hheap b x hb)
  exact ⟨c2, v, r', a1, a2, ok, later, scal_enc hr a5, by show Q r' c.H; rw [hH]; exact hq⟩
theorem PFn.lcall {P : Program} {f : FuncId} {args args' : List AV} {r : AV} (h : PFn P f args' r) (hr : scal r = true) {H : AHeap} {K : AV → AHeap → Prop} (hx : LentL H args args') (k : K r H) : callW P (.fn (.func f) [] []) args H K := run_call (h.lend hr hx k)
theorem PFn.frozen {P : Program} {f : FuncId} {args : List AV} {ty es n : Nat} {cells : List AV} (h : ∀ (H : AHeap) (Q : AV → AHeap → Prop), (∀ x H', growC H ty es n cells x H' → Q x H') → Run P f args H Q) : PFn P f args (.seq n cells false) := fun H Q hq =>
  Run.settle (h H _ fun _ _ g => growC_fin g hq)
theorem PFn.frozen1 {P : Program} {f : FuncId} {args : List AV} {ty es n : Nat} {cells : List AV} {k : IntKind} {e : Int} (h : ∀ (H : AHeap) (Q : AV → AHeap → Prop), (∀ x H', growC H ty es n cells x H' → Q (.tup [x, .int k e]) H') → Run P f args H Q) : PFn P f args (.tup [.seq n cells false, .int k e]) := fun H Q hq =>
  Run.settle (h H _ fun _ _ g => growC_fin1 g hq)

/-! ### integers and rows, as they are read -/
section
variable {K : AV → Prop} {K2 : AV → AHeap → Prop} {H : AHeap} {k : IntKind} {n m : Int} {t : Bool}
theorem neq_int : binW .neq (.int k n) (.int k m) K ↔ K (.bool (!decide (n = m))) := by simp [binW, binInt]
theorem len_rw {n : Nat} {c : List AV} (h : n < 9223372036854775808) : lenW false (.seq n c t) K = K (.int .i64 ((n : Nat) : Int)) := by simp [lenW, h]
theorem idx_rw {es n i : Nat} {c : List AV} (hl : c.length = n * es) (h : i < n) : idxAW es (.seq n c t) (.int k (i : Int)) K = K (.cptr (c.drop (i * es))) := by simp [idxAW, hl, h]
end
end Go.Proofs.YtanchgkiomfhhaaDoor.Fw

/- What is live behind each region, and what a drawn region's edges leave open: by a program (wip/tools/plan.py); Lean checks it. -/
namespace Go.Proofs.YtanchgkiomfhhaaDoor.Fw
open Go
def pl19 : Plan := ⟨fun n => ([[0, 3], [0, 3, 21], [4], [0, 3, 26], [4], [3, 5, 6], [5, 6, 7, 8], [5, 6, 7, 8, 9, 10], [5, 6, 7, 8, 9, 10, 11], [5, 6, 7, 8, 9, 10, 11, 12, 13], [5, 6, 7, 8, 9, 10, 11, 12, 13, 14, 15], [5, 6, 7, 8, 9, 10, 87], [4], [5, 6, 7, 8, 9, 10, 90], [4], [5, 6, 7, 9, 10, 16, 17], [5, 6, 7, 9, 10, 16, 105], [4], [5, 6, 9, 10, 16, 18, 19], [4]] : List (List Nat)).getD n [], fun n => match n with | 6 => (12, [0, 0, 3, 3, 0, 31, 31, 127, 127, 0, 1023, 2047], [0, 1, 0, 4, 15, 0, 32, 0, 128, 511, 0, 0, 4095, 8191]) | 11 => (21, [0, 0, 3, 0, 0, 0, 0, 64, 0, 0, 0, 0, 0, 4096, 0, 0, 0, 0, 0, 262144, 786432], [0, 1, 0, 7, 15, 31, 63, 63, 255, 511, 1023, 2047, 4095, 4095, 16383, 32767, 65535, 131071, 262143, 262143, 262143, 2097151, 4194303, 8388607, 16777215, 33554431, 67108863, 134217727]) | 18 => (9, [0, 1, 0, 7, 0, 0, 0, 64, 128], [0, 0, 3, 0, 15, 31, 63, 63, 127, 511]) | _ => (0, [], [])⟩
def pl27 : Plan := ⟨fun n => ([[1], [1, 3], [2], [8], [2], [2]] : List (List Nat)).getD n [], fun n => match n with | _ => (0, [], [])⟩
def pl28 : Plan := ⟨fun n => ([[1, 2], [1, 2, 3], [1, 2, 3, 6], [1, 2, 3], [2, 3, 12], [3, 4], [], [2]] : List (List Nat)).getD n [], fun n => match n with | _ => (0, [], [])⟩
def pl32 : Plan := ⟨fun n => ([[], [1, 2], [0]] : List (List Nat)).getD n [], fun n => match n with | _ => (0, [], [])⟩
def pl33 : Plan := ⟨fun n => ([[0], [0, 3], [0, 3, 4], [0, 3, 4, 9], [0, 3, 4], [0, 3, 4], [0, 3, 4, 20], [2], [0, 3, 4, 5], [0, 3, 4, 5, 27], [0, 3, 4, 5], [0, 3, 4, 5], [0, 3, 4, 5, 42], [2], [2]] : List (List Nat)).getD n [], fun n => match n with | _ => (0, [], [])⟩
def pl34 : Plan := ⟨fun n => ([[0], [0, 4], [0, 4, 5], [0, 4, 5, 6], [0, 4, 5, 6, 10], [0, 4, 5, 6], [0, 4, 5, 6], [0, 4, 5, 6], [2, 3]] : List (List Nat)).getD n [], fun n => match n with | 6 => (13, [0, 1, 3, 1, 1, 1, 63, 127, 63, 63, 63, 1, 1], [0, 0, 0, 6, 14, 30, 0, 0, 192, 448, 960, 2046, 4094, 8191, 16383]) | 7 => (13, [0, 1, 3, 1, 1, 1, 63, 127, 63, 63, 63, 1, 1], [0, 0, 0, 6, 14, 30, 0, 0, 192, 448, 960, 2046, 4094, 8191, 16383]) | _ => (0, [], [])⟩
def pl35 : Plan := ⟨fun n => ([[0, 1, 4], [4]] : List (List Nat)).getD n [], fun n => match n with | _ => (0, [], [])⟩
def pl36 : Plan := ⟨fun n => ([[0, 1, 4], [0, 1, 4, 5], [0, 1, 4, 5, 6], [0, 1, 4, 5, 6, 10], [0, 1, 4, 5, 6], [0, 1, 4, 5, 6], [4]] : List (List Nat)).getD n [], fun n => match n with | 5 => (12, [0, 1, 3, 1, 1, 1, 63, 127, 63, 63, 63, 1], [0, 0, 0, 6, 14, 30, 0, 0, 192, 448, 960, 2046, 4095, 8191]) | _ => (0, [], [])⟩
def pl37 : Plan := ⟨fun n => ([[0, 1], [4, 5]] : List (List Nat)).getD n [], fun n => match n with | _ => (0, [], [])⟩
def pl42 : Plan := ⟨fun n => ([[0, 3], [4]] : List (List Nat)).getD n [], fun n => match n with | _ => (0, [], [])⟩
def pl43 : Plan := ⟨fun n => ([[0, 1], [0, 1, 10], [4], [0, 1, 5], [0, 1, 5, 14], [0, 1, 5], [0, 1, 5, 26], [4], [4]] : List (List Nat)).getD n [], fun n => match n with | 6 => (8, [0, 1, 0, 0, 15, 31, 15, 15], [0, 0, 3, 7, 0, 0, 48, 112, 255, 511]) | _ => (0, [], [])⟩
def pl45 : Plan := ⟨fun n => ([[0, 2], [0, 2, 3], [0, 2, 3, 8], [0, 2, 3], [0, 2, 3, 4], [0, 2, 3, 4, 12], [0, 2, 3, 4], [0, 2, 3, 4], [2]] : List (List Nat)).getD n [], fun n => match n with | _ => (0, [], [])⟩
def pl46 : Plan := ⟨fun n => ([[0, 1, 2], [0, 1, 2], [0, 1, 2, 7], [0, 1, 2, 7, 15], [0, 1, 2, 7], [0, 1, 2, 7], [6]] : List (List Nat)).getD n [], fun n => match n with | _ => (0, [], [])⟩
def pl50 : Plan := ⟨fun n => ([[2, 3], [2, 3, 5, 6], [4]] : List (List Nat)).getD n [], fun n => match n with | 2 => (9, [0, 1, 0, 7, 0, 0, 0, 0, 192], [0, 0, 3, 0, 15, 31, 63, 127, 63, 511, 1023, 2047, 4095]) | _ => (0, [], [])⟩
def pl54 : Plan := ⟨fun n => ([[0], [0, 3], [3, 6, 7, 8], [3, 6, 7, 8, 9], [3, 5, 6, 7, 8], [3, 6, 7, 8], [3, 6, 7, 8], [2]] : List (List Nat)).getD n [], fun n => match n with | _ => (0, [], [])⟩
def pl57 : Plan := ⟨fun n => ([[2, 3], [2, 3, 5], [4], [2, 3, 17], [4], [2, 3, 20], [4], [4]] : List (List Nat)).getD n [], fun n => match n with | _ => (0, [], [])⟩
def pl58 : Plan := ⟨fun n => ([[0, 2], [0, 2, 3], [0, 2, 3, 7], [0, 2, 3], [2]] : List (List Nat)).getD n [], fun n => match n with | _ => (0, [], [])⟩
def pl86 : Plan := ⟨fun n => ([[0], [0, 3], [3, 6, 7, 8], [3, 6, 7, 8, 9], [3, 5, 6, 7, 8], [3, 6, 7, 8], [3, 6, 7, 8], [2]] : List (List Nat)).getD n [], fun n => match n with | _ => (0, [], [])⟩
def pl89 : Plan := ⟨fun n => ([[2, 3, 4], [4]] : List (List Nat)).getD n [], fun n => match n with | 1 => (10, [0, 0, 3, 3, 0, 31, 31, 127, 127, 31], [0, 1, 0, 4, 15, 0, 32, 0, 128, 480, 1023, 2047]) | _ => (0, [], [])⟩
def pl114 : Plan := ⟨fun n => ([[0, 3], [0, 3, 14], [4, 5], [0, 3, 6], [3, 6, 15, 16, 17], [3, 6, 15, 16, 17, 18], [3, 6, 8, 15, 16, 17], [3, 6, 9, 10, 15, 16, 17], [3, 6, 9, 15, 16, 17, 30], [4, 5], [3, 6, 15, 16, 17], [3, 6, 15, 16, 17], [4, 5]] : List (List Nat)).getD n [], fun n => match n with | _ => (0, [], [])⟩
def pl115 : Plan := ⟨fun n => ([[0, 2], [0, 2, 3], [0, 2, 3, 4], [0, 2, 3, 4, 9], [0, 2, 3, 4], [0, 2, 3, 4], [2]] : List (List Nat)).getD n [], fun n => match n with | 5 => (5, [0, 1, 3, 1, 1], [0, 0, 0, 6, 14, 31, 63]) | _ => (0, [], [])⟩
def pl116 : Plan := ⟨fun n => ([[0, 3], [0, 3, 4], [0, 3, 4, 5], [0, 3, 4, 5, 13], [0, 3, 4, 5], [0, 3, 4, 5, 21], [0, 3, 4, 27], [0, 3, 4], [3, 4, 6], [2, 3], [2, 3]] : List (List Nat)).getD n [], fun n => match n with | 9 => (3, [0, 1, 2], [0, 0, 1, 7]) | 10 => (5, [0, 0, 0, 7, 8], [0, 1, 3, 0, 7, 31]) | _ => (0, [], [])⟩
def pl117 : Plan := ⟨fun n => ([[0, 3], [0, 3, 4], [0, 3, 4, 11, 12, 13], [0, 3, 4, 11, 12, 13, 14], [0, 3, 4, 6, 11, 12, 13], [0, 3, 4, 6, 11, 12, 13, 19], [0, 3, 4, 22], [0, 3, 4], [3, 4, 7], [2, 3], [0, 3, 4, 11, 12, 13], [2, 3]] : List (List Nat)).getD n [], fun n => match n with | 9 => (3, [0, 1, 2], [0, 0, 1, 7]) | 11 => (4, [0, 0, 3, 4], [0, 1, 0, 3, 15]) | _ => (0, [], [])⟩
def pl118 : Plan := ⟨fun n => ([[0, 2], [0, 2, 3], [2, 3, 6, 7, 8], [2, 3, 6, 7, 8, 9], [2, 3, 5, 6, 7, 8], [2, 3, 6, 7, 8], [2, 3, 6, 7, 8, 18], [2, 3, 6, 7, 8], [2]] : List (List Nat)).getD n [], fun n => match n with | 6 => (2, [0, 1], [0, 0, 3, 7]) | _ => (0, [], [])⟩
def pl119 : Plan := ⟨fun n => ([[1], [1, 6], [2], [8], [2], [2]] : List (List Nat)).getD n [], fun n => match n with | _ => (0, [], [])⟩
def pl120 : Plan := ⟨fun n => ([[0, 3], [0, 3, 6], [0, 3, 6, 7], [0, 3, 6, 7, 13], [0, 3, 6, 7], [0, 3, 6, 7, 8, 9], [0, 3, 6, 7, 8, 26], [4, 5], [0, 3, 6, 7], [4, 5]] : List (List Nat)).getD n [], fun n => match n with | 5 => (11, [0, 1, 0, 0, 15, 0, 0, 0, 128, 511, 256], [0, 0, 3, 7, 0, 31, 63, 127, 127, 0, 767, 2047]) | _ => (0, [], [])⟩
def pl121 : Plan := ⟨fun n => ([[2, 3, 4], [2, 3, 4, 11], [4], [2, 3, 4, 25], [2, 3, 4], [2, 4, 5], [4]] : List (List Nat)).getD n [], fun n => match n with | 2 => (7, [0, 0, 3, 3, 15, 15, 3], [0, 1, 0, 4, 0, 16, 60, 127, 255]) | _ => (0, [], [])⟩
def pl122 : Plan := ⟨fun n => ([[1, 2], [2]] : List (List Nat)).getD n [], fun n => match n with | _ => (0, [], [])⟩
def pl129 : Plan := ⟨fun n => ([[2, 3, 4], [4, 5, 6], [4, 5, 6, 16], [4, 5, 6, 8], [4, 5, 6], [4]] : List (List Nat)).getD n [], fun n => match n with | 1 => (6, [0, 0, 3, 0, 15, 31], [0, 1, 0, 7, 0, 0, 63, 127]) | 4 => (3, [0, 1, 2], [0, 0, 1, 7]) | _ => (0, [], [])⟩
def pl132 : Plan := ⟨fun n => ([[0], [3], [2]] : List (List Nat)).getD n [], fun n => match n with | _ => (0, [], [])⟩
def pl133 : Plan := ⟨fun n => ([[0, 1], [0, 1, 16], [0, 1, 6], [0, 1, 6, 7], [0, 1, 6, 7, 8], [0, 1, 6, 7, 8, 24], [0, 1, 6, 7, 8], [0, 1, 6, 7, 8], [0, 1, 6, 7, 8], [0, 1, 6, 7, 8], [4, 5], [0, 1, 9], [0, 1, 9, 10], [0, 1, 9, 10, 11], [0, 1, 9, 10, 11, 66], [0, 1, 9, 10, 11], [0, 1, 9, 10, 11, 12], [0, 1, 9, 10, 11, 12, 13], [0, 1, 9, 10, 11, 12, 13, 75], [0, 1, 9, 10, 11, 12, 13], [0, 1, 9, 10, 11, 12, 13], [0, 1, 9, 10, 11, 12, 13], [0, 1, 9, 10, 11, 12, 13], [0, 1, 9, 10, 11, 12, 93], [0, 1, 9, 10, 11], [0, 1, 9, 10, 11, 101], [0, 1, 9, 10, 11], [0, 1, 9, 10, 11], [4, 5]] : List (List Nat)).getD n [], fun n => match n with | 27 => (12, [0, 1, 1, 7, 15, 15, 7, 7, 255, 255, 255, 7], [0, 0, 2, 0, 0, 16, 56, 120, 0, 256, 768, 2040, 4095, 8191]) | _ => (0, [], [])⟩
def pl136 : Plan := ⟨fun n => ([[2, 3, 4], [2, 3, 4, 9], [4], [2, 3, 4, 23], [4], [4]] : List (List Nat)).getD n [], fun n => match n with | 2 => (7, [0, 0, 3, 3, 15, 15, 3], [0, 1, 0, 4, 0, 16, 60, 127, 255]) | 4 => (7, [0, 0, 3, 3, 15, 15, 3], [0, 1, 0, 4, 0, 16, 60, 127, 255]) | 5 => (7, [0, 0, 3, 3, 15, 15, 3], [0, 1, 0, 4, 0, 16, 60, 127, 255]) | _ => (0, [], [])⟩
def pl137 : Plan := ⟨fun n => ([[0, 1, 4], [4]] : List (List Nat)).getD n [], fun n => match n with | _ => (0, [], [])⟩
def pl138 : Plan := ⟨fun n => ([[0], [0], [0, 3], [3], [2]] : List (List Nat)).getD n [], fun n => match n with | _ => (0, [], [])⟩
def pl139 : Plan := ⟨fun n => ([[0, 1, 4], [0, 1, 4, 5], [0, 1, 4, 5, 17], [0, 1, 4, 5], [4]] : List (List Nat)).getD n [], fun n => match n with | _ => (0, [], [])⟩
def pl140 : Plan := ⟨fun n => ([[0, 4, 5], [0, 4, 5, 13], [6, 7], [0, 4, 5, 8], [6, 7]] : List (List Nat)).getD n [], fun n => match n with | _ => (0, [], [])⟩
def pl141 : Plan := ⟨fun n => ([[2, 3, 4], [4]] : List (List Nat)).getD n [], fun n => match n with | 1 => (3, [0, 1, 1], [0, 0, 2, 7, 15]) | _ => (0, [], [])⟩
def pl144 : Plan := ⟨fun n => ([[0, 1], [0, 1, 5], [1, 5, 8, 9, 10], [1, 5, 8, 9, 10, 11], [1, 5, 7, 8, 9, 10], [1, 5, 8, 9, 10], [1, 5, 8, 9, 10], [4]] : List (List Nat)).getD n [], fun n => match n with | _ => (0, [], [])⟩
def pl145 : Plan := ⟨fun n => ([[1, 2], [2]] : List (List Nat)).getD n [], fun n => match n with | _ => (0, [], [])⟩
def pl146 : Plan := ⟨fun n => ([[1], [2, 3]] : List (List Nat)).getD n [], fun n => match n with | 1 => (5, [0, 0, 3, 3, 3], [0, 1, 0, 4, 12, 31, 63]) | _ => (0, [], [])⟩
def pl147 : Plan := ⟨fun n => ([[2, 3], [4]] : List (List Nat)).getD n [], fun n => match n with | _ => (0, [], [])⟩
def pl148 : Plan := ⟨fun n => ([[0, 1], [0, 1], [0, 1, 10], [4], [0, 1, 16], [4], [0, 1, 5], [0, 1, 5, 26], [0, 1, 5], [0, 1, 5, 29], [4], [0, 1, 5, 39], [4], [4]] : List (List Nat)).getD n [], fun n => match n with | 9 => (8, [0, 1, 0, 0, 15, 31, 15, 15], [0, 0, 3, 7, 0, 0, 48, 112, 255, 511]) | 11 => (8, [0, 1, 0, 0, 15, 31, 15, 15], [0, 0, 3, 7, 0, 0, 48, 112, 255, 511]) | _ => (0, [], [])⟩
def pl149 : Plan := ⟨fun n => ([[2, 3], [2, 3, 5, 6], [2, 3, 5, 6, 13], [16], [4], [4], [2, 3, 18], [4], [4]] : List (List Nat)).getD n [], fun n => match n with | 1 => (3, [0, 0, 3], [0, 1, 0, 7, 15, 31]) | _ => (0, [], [])⟩
def pl150 : Plan := ⟨fun n => ([[1, 2], [2]] : List (List Nat)).getD n [], fun n => match n with | _ => (0, [], [])⟩
def pl159 : Plan := ⟨fun n => ([[2, 3, 4], [4]] : List (List Nat)).getD n [], fun n => match n with | 1 => (3, [0, 1, 1], [0, 0, 2, 7, 15]) | _ => (0, [], [])⟩
def pl168 : Plan := ⟨fun n => ([[0, 1], [0, 1, 12], [0, 1, 12, 13], [4], [0, 1, 15], [4], [0, 1, 5], [0, 1, 5, 22], [0, 1, 5, 29], [0, 1, 5], [0, 1, 5], [0, 1, 5, 39, 40, 41], [0, 1, 5, 39, 40, 41, 42], [0, 1, 5, 7, 39, 40, 41], [0, 1, 5, 7, 39, 40, 41, 49], [0, 1, 5, 7, 39, 40, 41], [0, 1, 5, 39, 40, 41], [0, 1, 5, 39, 40, 41], [0, 1, 5, 8], [0, 1, 8], [0, 1, 8], [1, 8, 63, 64, 65], [1, 8, 63, 64, 65, 66], [1, 8, 10, 63, 64, 65], [1, 8, 10, 63, 64, 65], [1, 8, 63, 64, 65], [1, 8, 63, 64, 65], [4]] : List (List Nat)).getD n [], fun n => match n with | _ => (0, [], [])⟩
def pl171 : Plan := ⟨fun n => ([[0, 1], [0, 1, 5], [1, 5, 17, 18, 19], [1, 5, 17, 18, 19, 20], [1, 5, 6, 7, 17, 18, 19], [1, 5, 6, 7, 8, 17, 18, 19], [1, 5, 6, 7, 8, 17, 18, 19, 24, 25, 26], [1, 5, 6, 7, 8, 17, 18, 19, 24, 25, 26, 27], [1, 5, 6, 7, 8, 9, 10, 17, 18, 19, 24, 25, 26], [1, 5, 6, 7, 8, 9, 17, 18, 19, 24, 25, 26], [1, 5, 6, 7, 8, 17, 18, 19, 24, 25, 26], [1, 5, 6, 7, 8, 17, 18, 19, 24, 25, 26], [1, 5, 6, 7, 8, 17, 18, 19, 24, 25, 26], [1, 5, 17, 18, 19], [1, 5, 17, 18, 19], [4]] : List (List Nat)).getD n [], fun n => match n with | _ => (0, [], [])⟩
def pl174 : Plan := ⟨fun n => ([[2, 3, 4, 5], [2, 3, 4, 5, 7, 8, 9], [2, 3, 4, 5, 7, 8, 22], [4, 5, 6], [3, 4, 5, 10, 11], [3, 4, 5, 10, 11, 37], [3, 4, 5, 10, 11], [4, 5, 10, 11], [4, 5, 6]] : List (List Nat)).getD n [], fun n => match n with | 4 => (13, [0, 0, 3, 3, 0, 31, 0, 127, 127, 511, 0, 2047, 4095], [0, 1, 0, 4, 15, 0, 63, 0, 128, 0, 1023, 0, 0, 8191, 16383]) | 6 => (3, [0, 1, 1], [0, 0, 2, 7, 15]) | 7 => (4, [0, 1, 1, 1], [0, 0, 2, 6, 15, 31]) | 8 => (3, [0, 1, 2], [0, 0, 1, 7, 15]) | _ => (0, [], [])⟩
def pl179 : Plan := ⟨fun n => ([[2, 3, 4], [4, 6, 7], [4, 6, 17], [4, 5], [4, 5]] : List (List Nat)).getD n [], fun n => match n with | _ => (0, [], [])⟩
def pl180 : Plan := ⟨fun n => ([[2, 3, 4], [4, 5, 6], [4, 5, 6, 16], [4, 5, 6, 8], [4, 5, 6], [4]] : List (List Nat)).getD n [], fun n => match n with | 1 => (6, [0, 0, 3, 0, 15, 31], [0, 1, 0, 7, 0, 0, 63, 127]) | 4 => (3, [0, 1, 2], [0, 0, 1, 7]) | _ => (0, [], [])⟩
def pl183 : Plan := ⟨fun n => ([[1, 2], [2]] : List (List Nat)).getD n [], fun n => match n with | _ => (0, [], [])⟩
def pl184 : Plan := ⟨fun n => ([[0], [2]] : List (List Nat)).getD n [], fun n => match n with | _ => (0, [], [])⟩
def pl185 : Plan := ⟨fun n => ([[1, 2], [2]] : List (List Nat)).getD n [], fun n => match n with | _ => (0, [], [])⟩
def pl186 : Plan := ⟨fun n => ([[0, 1], [0, 1, 13], [0, 1], [0, 1, 5], [0, 1, 5, 6], [0, 1, 5, 6, 20, 21, 22], [0, 1, 5, 6, 20, 21, 22, 23], [0, 1, 5, 6, 7, 8, 20, 21, 22], [0, 1, 5, 6, 7, 20, 21, 22], [0, 1, 5, 6, 7, 20, 21, 22, 34], [0, 1, 5, 6, 7, 20, 21, 22], [0, 1, 5, 6, 20, 21, 22], [0, 1, 5, 6, 20, 21, 22], [0, 1, 5, 6, 20, 21, 22], [5], [4]] : List (List Nat)).getD n [], fun n => match n with | _ => (0, [], [])⟩
def pl187 : Plan := ⟨fun n => ([[0, 1], [0, 1, 15], [4, 5], [0, 1, 6], [0, 1, 6, 7], [1, 6, 7, 19, 20, 21], [1, 6, 7, 19, 20, 21, 22], [1, 6, 7, 8, 9, 19, 20, 21], [1, 6, 8, 9, 10, 19, 20, 21], [1, 6, 8, 9, 10, 19, 20, 21, 30], [1, 6, 8, 9, 10, 19, 20, 21], [1, 6, 8, 11, 19, 20, 21], [1, 6, 11, 19, 20, 21], [1, 6, 7, 19, 20, 21], [1, 6, 7, 19, 20, 21], [4, 5]] : List (List Nat)).getD n [], fun n => match n with | _ => (0, [], [])⟩
def pl190 : Plan := ⟨fun n => ([[0], [0, 3], [3, 4], [3, 4, 18], [3, 5, 6], [3, 5], [3, 4], [3, 32], [2], [3, 8], [3, 8, 9], [3, 8, 9, 37], [3, 8, 9], [3, 8, 9, 10], [3, 8, 9, 10, 11], [3, 8, 9, 10, 11, 12], [3, 8, 9, 10, 11, 12, 45], [3, 8, 9, 10, 11, 12], [3, 8, 9, 10, 11, 12], [3, 8, 9, 10, 11, 12], [3, 8, 9, 13], [3, 8, 9, 13, 62], [3, 8, 9, 13], [3, 8, 9], [2]] : List (List Nat)).getD n [], fun n => match n with | _ => (0, [], [])⟩
def pl191 : Plan := ⟨fun n => ([[0, 6], [0, 6, 7, 8], [0, 4, 6], [0, 6, 15]] : List (List Nat)).getD n [], fun n => match n with | _ => (0, [], [])⟩
def pl192 : Plan := ⟨fun n => ([[0], [0, 7], [2], [0, 3], [3, 4], [3, 4, 19], [3, 4], [3, 4], [2]] : List (List Nat)).getD n [], fun n => match n with | _ => (0, [], [])⟩
def pl193 : Plan := ⟨fun n => ([[0, 1], [4]] : List (List Nat)).getD n [], fun n => match n with | _ => (0, [], [])⟩
def pl194 : Plan := ⟨fun n => ([[0, 1], [0, 1, 10], [15], [4], [4], [0, 1, 5], [0, 1, 5, 20], [0, 1, 5], [0, 1, 5, 31], [4], [0, 1, 5, 40], [4], [4]] : List (List Nat)).getD n [], fun n => match n with | 8 => (8, [0, 1, 0, 0, 15, 31, 15, 15], [0, 0, 3, 7, 0, 0, 48, 112, 255]) | 10 => (8, [0, 1, 0, 0, 15, 31, 15, 15], [0, 0, 3, 7, 0, 0, 48, 112, 255]) | _ => (0, [], [])⟩
def pl195 : Plan := ⟨fun n => ([[0, 1], [0, 1, 5], [0, 1, 5, 6], [0, 1, 5, 6, 7], [0, 1, 5, 6, 7, 13], [0, 1, 5, 6, 7], [0, 1, 5, 7, 8], [0, 1, 5, 7, 8, 20], [0, 1, 5, 7, 8], [0, 1, 5, 6, 7, 8], [0, 1, 5, 6, 7, 8, 9], [0, 1, 5, 6, 7, 8, 9, 33], [0, 1, 5, 7, 8, 9], [0, 1, 5, 6, 7, 8, 9], [0, 1, 5, 6, 7], [4]] : List (List Nat)).getD n [], fun n => match n with | _ => (0, [], [])⟩
def pl196 : Plan := ⟨fun n => ([[0, 1], [0, 1, 5], [0, 1, 5, 6], [0, 1, 5, 6, 7], [0, 1, 5, 6, 7, 21], [0, 1, 5, 6, 7], [0, 1, 5, 6, 7, 27], [0, 1, 5, 6, 7], [0, 1, 5, 6, 7, 37], [0, 1, 5, 6, 7], [0, 1, 5, 6, 7], [0, 1, 5, 6, 7], [4]] : List (List Nat)).getD n [], fun n => match n with | _ => (0, [], [])⟩
def pl197 : Plan := ⟨fun n => ([[0], [0, 3], [0, 3, 15], [0, 3], [2]] : List (List Nat)).getD n [], fun n => match n with | _ => (0, [], [])⟩
def pl198 : Plan := ⟨fun n => ([[1, 2, 3, 4, 5], [1, 2, 3, 4, 5], [5]] : List (List Nat)).getD n [], fun n => match n with | 2 => (6, [0, 1, 3, 7, 3, 3], [0, 0, 0, 0, 12, 28, 63, 127]) | _ => (0, [], [])⟩
def pl199 : Plan := ⟨fun n => ([[0], [0, 4], [2], [2]] : List (List Nat)).getD n [], fun n => match n with | _ => (0, [], [])⟩
def pl204 : Plan := ⟨fun n => ([[0, 1], [0, 1], [1], [4, 5]] : List (List Nat)).getD n [], fun n => match n with | _ => (0, [], [])⟩
def pl205 : Plan := ⟨fun n => ([[0], [2]] : List (List Nat)).getD n [], fun n => match n with | 1 => (10, [0, 0, 0, 0, 0, 31, 31, 31, 31, 31], [0, 1, 3, 7, 15, 0, 32, 96, 224, 480, 1023, 2047]) | _ => (0, [], [])⟩
def pl207 : Plan := ⟨fun n => ([[0, 1], [0, 1], [0, 1, 24], [4, 5, 6], [0, 1, 28], [4, 5, 6], [0, 1, 33], [7, 8], [4, 5, 6], [0, 1, 10], [0, 10, 11], [10, 11, 13], [10, 11, 13], [10, 11, 13, 15], [10, 11, 13, 15, 16], [10, 11, 13, 15, 16, 17], [10, 11, 13, 15, 16, 17, 82], [10, 11, 13, 15, 16, 17], [10, 11, 13, 15, 16, 17], [16, 18], [4, 5, 6]] : List (List Nat)).getD n [], fun n => match n with | _ => (0, [], [])⟩
def pl209 : Plan := ⟨fun n => ([[2, 3, 4, 5], [2, 3, 4, 5, 6, 7], [3, 4, 5, 8, 9], [3, 4, 5, 8, 9, 30], [3, 4, 5, 8, 9], [4, 5, 8, 9], [4, 5]] : List (List Nat)).getD n [], fun n => match n with | 2 => (13, [0, 0, 3, 3, 0, 31, 0, 127, 127, 511, 0, 2047, 4095], [0, 1, 0, 4, 15, 0, 63, 0, 128, 0, 1023, 0, 0, 8191, 16383]) | 4 => (3, [0, 1, 1], [0, 0, 2, 7, 15]) | 5 => (4, [0, 1, 1, 1], [0, 0, 2, 6, 15, 31]) | 6 => (3, [0, 1, 2], [0, 0, 1, 7]) | _ => (0, [], [])⟩
def pl212 : Plan := ⟨fun n => ([[0, 1], [0, 1, 11], [4, 5, 6], [0, 1, 7], [0, 1, 7, 8], [0, 1, 7, 8, 9], [0, 1, 7, 8, 9, 19], [0, 1, 7, 8, 9], [0, 1, 7, 8, 9], [0, 1, 7, 8, 9], [0, 1, 7, 8, 9], [4, 5, 6]] : List (List Nat)).getD n [], fun n => match n with | _ => (0, [], [])⟩
def pl213 : Plan := ⟨fun n => ([[0, 1], [0, 1, 12], [4], [0, 1, 21], [4], [0, 1, 5, 6], [0, 1, 5, 31], [4], [4]] : List (List Nat)).getD n [], fun n => match n with | _ => (0, [], [])⟩
def pl215 : Plan := ⟨fun n => ([[0, 6], [], [19]] : List (List Nat)).getD n [], fun n => match n with | _ => (0, [], [])⟩
def pl217 : Plan := ⟨fun n => ([[0, 2], [0, 2, 4], [0], [0, 2], [0, 2, 8], [0, 2], [0, 2], [2]] : List (List Nat)).getD n [], fun n => match n with | _ => (0, [], [])⟩
def pl218 : Plan := ⟨fun n => ([[0], [2]] : List (List Nat)).getD n [], fun n => match n with | _ => (0, [], [])⟩
def pl219 : Plan := ⟨fun n => ([[0, 1], [0, 1, 12], [4, 5], [0, 1, 14], [4, 5], [0, 1, 6], [0, 1, 6, 7], [1, 6, 7, 24, 25, 26], [1, 6, 7, 24, 25, 26, 27], [1, 6, 7, 8, 9, 24, 25, 26], [1, 6, 7, 8, 10, 24, 25, 26], [1, 6, 7, 8, 10, 24, 25, 26], [1, 6, 7, 24, 25, 26], [1, 6, 7, 24, 25, 26], [4, 5]] : List (List Nat)).getD n [], fun n => match n with | _ => (0, [], [])⟩
def pl220 : Plan := ⟨fun n => ([[0, 1], [0, 1, 5], [0, 1, 5, 6], [0, 1, 5, 7, 8], [0, 1, 5, 7, 8, 64], [0, 1, 5, 7, 8], [0, 1, 5, 7, 8], [0, 1, 5, 7, 8, 77], [0, 1, 5, 7, 82], [4], [0, 1, 5, 7], [0, 1, 5, 7, 9], [0, 1, 5, 7, 9, 88, 89], [0, 1, 5, 7, 9, 88, 89, 90], [0, 1, 5, 7, 9, 10, 88, 89], [0, 1, 5, 7, 9, 10, 88, 89], [0, 1, 5, 7, 9, 10, 88, 89, 101], [0, 1, 5, 7, 9, 10, 88, 89], [0, 1, 5, 7, 9, 88, 89], [0, 1, 5, 7, 9, 88, 89], [0, 1, 5, 7, 9, 88, 89], [4]] : List (List Nat)).getD n [], fun n => match n with | 2 => (12, [0, 1, 0, 0, 0, 0, 63, 127, 127, 63, 63, 63], [0, 0, 3, 7, 15, 31, 0, 0, 128, 448, 960, 1984, 4095, 8191]) | 3 => (17, [0, 1, 3, 3, 1, 1, 1, 0, 255, 511, 1023, 1023, 511, 511, 511, 255, 65280], [0, 0, 0, 4, 14, 30, 62, 127, 0, 0, 0, 1024, 3584, 7680, 15872, 32512, 255, 131071]) | 4 => (21, [0, 0, 0, 0, 0, 16, 48, 48, 16, 16, 16, 0, 4080, 4080, 16368, 32752, 32752, 16368, 16368, 16368, 4080], [0, 1, 3, 7, 15, 15, 15, 79, 239, 495, 1007, 2047, 15, 4111, 15, 15, 32783, 114703, 245775, 507919, 1044495, 2097151, 4194303]) | _ => (0, [], [])⟩
def pl221 : Plan := ⟨fun n => ([[0, 1], [0, 1, 12], [4, 5], [0, 1], [0, 1, 19], [4, 5], [0, 1], [0, 6], [0, 6, 7], [0, 6, 7, 29, 30, 31], [0, 6, 7, 29, 30, 31, 32], [0, 6, 7, 8, 9, 29, 30, 31], [0, 6, 7, 8, 10, 29, 30, 31], [0, 6, 7, 8, 10, 29, 30, 31, 42], [0, 6, 7, 8, 10, 29, 30, 31], [0, 6, 7, 29, 30, 31], [0, 6, 7, 29, 30, 31], [4, 5]] : List (List Nat)).getD n [], fun n => match n with | _ => (0, [], [])⟩
def pl223 : Plan := ⟨fun n => ([[0, 1], [0, 1, 13], [0, 1], [4]] : List (List Nat)).getD n [], fun n => match n with | _ => (0, [], [])⟩
def pl229 : Plan := ⟨fun n => ([[0, 1, 2], [0, 1, 2, 7, 8], [0, 1, 2, 7, 8, 12, 13], [0, 1, 2, 7, 8, 12, 13, 14], [0, 1, 2, 7, 8, 9, 12, 13], [0, 1, 2, 7, 8, 9, 12, 13, 19], [0, 1, 2, 7, 8, 9, 12, 13], [0, 1, 2, 7, 9, 10, 12, 13], [0, 1, 2, 7, 9, 10, 12, 13], [0, 1, 2, 7, 10, 12, 13], [0, 1, 2, 7, 8, 12, 13], [0, 1, 2, 7, 8, 12, 13], [6]] : List (List Nat)).getD n [], fun n => match n with | _ => (0, [], [])⟩
end Go.Proofs.YtanchgkiomfhhaaDoor.Fw
