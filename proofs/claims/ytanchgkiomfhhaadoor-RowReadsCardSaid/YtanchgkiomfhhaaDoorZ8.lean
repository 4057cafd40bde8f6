/- The texts Lay156 Kj Kh Oa Ob Oc Kk Od Kl Oe Of, joined. -/
import Derived.Test.YtanchgkiomfhhaaDoorZ7
import Derived.Shelf.Strings.OnBuilder
import Derived.Test.YtanchgkiomfhhaaDoorProg
import Derived.Lib.SmallJoins
/- The numbers under which the library's functions stand in this program, and that their texts are those which the kit's contracts speak of: printed by wip/tools/lay.py. -/
namespace Go.Proofs.YtanchgkiomfhhaaDoor.Fw
open Go Go.Shelf Go.Proofs
def lay156_ren : Ren :=
  {
    f := fun x =>
      match x with
      | 156 => 168
      | 165 => 203
      | 166 => 204
      | 169 => 205
      | 240 => 215
      | 241 => 216
      | 276 => 227
      | 277 => 228
      | n => n,
    t := fun x =>
      match x with
      | 31 => 202
      | 9 => 9
      | 3 => 3
      | 4 => 4
      | 0 => 0
      | 20 => 20
      | 72 => 234
      | 76 => 238
      | 70 => 232
      | 37 => 103
      | 75 => 237
      | 127 => 251
      | 164 => 263
      | 5 => 5
      | 80 => 36
      | n => n,
    g := fun x =>
      have n := x;
      n }
theorem lay156 : Lays.n156 Tryd.prog lay156_ren :=
  { mixed := Eq.refl true, f156 := Eq.trans Tryd.func168 (congrArg some (Eq.refl (Body.n156 lay156_ren))),
    f165 := Eq.trans Tryd.func203 (congrArg some (Eq.refl (Body.n165 lay156_ren))),
    f166 := Eq.trans Tryd.func204 (congrArg some (Eq.refl (Body.n166 lay156_ren))),
    f169 := Eq.trans Tryd.func205 (congrArg some (Eq.refl (Body.n169 lay156_ren))),
    f240 := Eq.trans Tryd.func215 (congrArg some (Eq.refl (Body.n240 lay156_ren))),
    f241 := Eq.trans Tryd.func216 (congrArg some (Eq.refl (Body.n241 lay156_ren))),
    f276 := Eq.trans Tryd.func227 (congrArg some (Eq.refl (Body.n276 lay156_ren))),
    f277 := Eq.trans Tryd.func228 (congrArg some (Eq.refl (Body.n277 lay156_ren))), t0 := Tryd.underlying0,
    a0 := Tryd.isAgg0, z0 := Tryd.sizeOf0, v0 := Tryd.zeroValue0, t3 := Tryd.underlying3, a3 := Tryd.isAgg3,
    z3 := Tryd.sizeOf3, v3 := Tryd.zeroValue3, t4 := Tryd.underlying4, a4 := Tryd.isAgg4, z4 := Tryd.sizeOf4,
    v4 := Tryd.zeroValue4, t9 := Tryd.underlying9, a9 := Tryd.isAgg9, z9 := Tryd.sizeOf9, v9 := Tryd.zeroValue9,
    t20 := Tryd.underlying20, a20 := Tryd.isAgg20, z20 := Tryd.sizeOf20, v20 := Tryd.zeroValue20,
    t31 := Tryd.underlying202, a31 := Tryd.isAgg202, z31 := Tryd.sizeOf202, v31 := Tryd.zeroValue202,
    t37 := Tryd.underlying103, a37 := Tryd.isAgg103, z37 := Tryd.sizeOf103, v37 := Tryd.zeroValue103,
    t70 := Tryd.underlying232, a70 := Tryd.isAgg232, z70 := Tryd.sizeOf232, v70 := Tryd.zeroValue232,
    t72 := Tryd.underlying234, a72 := Tryd.isAgg234, z72 := Tryd.sizeOf234, v72 := Tryd.zeroValue234,
    t75 := Tryd.underlying237, a75 := Tryd.isAgg237, z75 := Tryd.sizeOf237, v75 := Tryd.zeroValue237,
    t76 := Tryd.underlying238, a76 := Tryd.isAgg238, z76 := Tryd.sizeOf238, v76 := Tryd.zeroValue238,
    t127 := Tryd.underlying251, a127 := Tryd.isAgg251, z127 := Tryd.sizeOf251, v127 := Tryd.zeroValue251,
    t164 := Tryd.underlying263, a164 := Tryd.isAgg263, z164 := Tryd.sizeOf263, v164 := Tryd.zeroValue263 }
end Go.Proofs.YtanchgkiomfhhaaDoor.Fw

/- Strings joined: by the kit's contract. -/
namespace Go.Proofs.YtanchgkiomfhhaaDoor.Fw
set_option linter.unusedSimpArgs false
set_option linter.unusedVariables false
open Go Go.Proofs.YtanchgkiomfhhaaDoor.Ma Go.Shelf
set_option maxRecDepth 20000

theorem pfn_calls {P : Program} {f : FuncId} {args : List AV} {r : AV} (hf : ∃ fn, P.funcs[f]? = some fn ∧ (fn.name == "runtime.NumGoroutine") = false ∧ fn.body.isNone = false)
    (h : ∀ (c : Ctx) (vs : Array Value), Ok c → vs.size = args.length → (∀ i (h : i < args.length) (h' : i < vs.size), Enc c (args[i]) (vs[i])) → Calls P f vs c.w fun e w' => ∃ v, e = .returned v ∧ (∀ c', Enc c' r v) ∧ Go.RowKit.Below c.w.heap.size c.w w') : PFn P f args r := by
  intro H Q hq
  refine ⟨hf, fun c vs hH hok hs he => (h c vs hok hs he).mono ?_⟩
  rintro e w' ⟨v, rfl, hr, hb⟩
  let c2 : Ctx := { c with w := w' }
  have hsz : ∀ i x, c.H i = some x → c.μ i < c.w.heap.size := fun i x e => by
    have := hok.blk i x e
    cases x with
    | row ty es cells => obtain ⟨arr, h1, _⟩ := this; exact (Array.getElem?_eq_some_iff.1 h1).1
    | raw o => exact (Array.getElem?_eq_some_iff.1 this.1).1
    | glob g cells => rw [this.1]; exact this.2.1
    | loop st pend fn ps assign body n E => obtain ⟨tm, dd, h1, _⟩ := this; exact (Array.getElem?_eq_some_iff.1 h1).1
  have later : Later c c2 := by
    refine ⟨⟨hb.size, hb.os, hb.tape, hb.output, fun _ h => h, ?_, fun k hk hm => ⟨hb.block k hk, hm⟩⟩, fun _ h => ⟨h, fun k => k⟩⟩
    intro i x' _ hx'
    exact ⟨x', hx', Nat.le_refl _, fun _ => ⟨rfl, fun ty' es' cells' e => ⟨cells', e, fun arr ha => ⟨arr, (hb.block _ (hsz i x' hx')).trans ha, rfl⟩⟩⟩⟩
  have ok : Ok c2 := ⟨hok.used, hok.fin, hok.inj, fun b x hx => (hok.blk b x hx).later later rfl (hb.block _ (hsz b x hx))⟩
  exact ⟨c2, v, r, rfl, rfl, ok, later, hr c2, by show Q r c.H; rw [hH]; exact hq⟩
theorem joinX : Builder.Extra Tryd.prog lay156_ren where
  sizeBuilder := by kernel_rfl
  liesBuilder := by kernel_rfl
  t5 := Tryd.underlying5
  a5 := Tryd.isAgg5
  z5 := Tryd.sizeOf5
  v5 := Tryd.zeroValue5
  infoByte := by kernel_rfl
  cellsByte := by kernel_rfl
  sizeByte := by kernel_rfl
  neB5 := by decide
theorem join_fn (xs : List (List UInt8)) (sep : List UInt8) (t : Bool) (hN : xs.length ≤ 1000000) (hlen : (Lib.join xs sep).length ≤ 140737488355328) : PFn Tryd.prog 168 [.seq xs.length (xs.map Sx) t, Sx sep] (Sx (Lib.join xs sep)) := by
  by_cases h0 : xs = []
  · subst h0
    intro H Q hq
    refine enter168 (by simp) ?_
    have e : Lib.join ([] : List (List UInt8)) sep = [] := rfl
    rw [e] at hq
    have l0 : ([] : List (List UInt8)).length = 0 := rfl
    simp (disch := first | assumption | (apply Ap.symm; assumption) | omega | decide | (simp only [Xd] <;> omega)) only [ac168, l0, len_rw, rs168, ↓Xa, Xb, Xc, ↓reduceIte, Nat.reduceLT, Nat.reduceEqDiff, Nat.reduceBEq, Nat.reduceLeDiff, Nat.reduceAdd, Nat.reduceMul]
    exact SetR.now hq
  · refine pfn_calls ⟨_, Tryd.func168, by kernel_rfl, by kernel_rfl⟩ fun c vs hok hs he => ?_
    obtain ⟨v0, v1, rfl⟩ : ∃ v0 v1, vs = #[v0, v1] := Go.Joins.array2 hs
    have e0 : Enc c (.seq xs.length (xs.map Sx) t) v0 := he 0 (by simp) (by simp)
    have e1 : Enc c (Sx sep) v1 := he 1 (by simp) (by simp)
    cases e1
    cases e0 with
    | seq _ _ _ base cap cv hlen' hcap hmax ht hb hn hc =>
      obtain ⟨k, off, rfl, hmu, hk, hcell⟩ := hb (by simpa using List.length_pos_iff.2 h0)
      have hce : ∀ (j : Nat) x, (xs.map fun l => (⟨l.toArray⟩ : ByteArray))[j]? = some x → c.w.cell? ⟨k, off + j, none⟩ = some (.string x) := fun j x hx => by
        rw [List.getElem?_map] at hx
        obtain ⟨y, hy, rfl⟩ := Option.map_eq_some_iff.1 hx
        obtain ⟨hj, hy⟩ := List.getElem?_eq_some_iff.1 hy
        have h1 := hcell j (by simpa using hj)
        have h2 := hc j (by simpa using hj)
        rw [List.getElem_map, hy] at h2
        generalize cv j = u at h1 h2
        cases h2
        exact h1
      have hm : (xs.map fun l => (⟨l.toArray⟩ : ByteArray)).map (·.data.toList) = xs := by
        rw [List.map_map]
        exact (List.map_congr_left fun l _ => by simp).trans (List.map_id xs)
      have := Any.strings_Join (P := Tryd.prog) (ρ := lay156_ren) lay156 joinX k off cap (xs.map fun l => (⟨l.toArray⟩ : ByteArray)) ⟨sep.toArray⟩ c.w hce hk (by simpa using Nat.le_trans hN (by omega)) (by simpa using hcap) (by rw [hm]; simpa using hlen)
      rw [hm, List.length_map] at this
      refine this.mono fun e w' ⟨h1, h2⟩ => ⟨_, h1, fun c' => ?_, h2⟩
      simp only [Sx]
      exact .str _
end Go.Proofs.YtanchgkiomfhhaaDoor.Fw

/- Rows of whole numbers: made of small ones, told; what the laws' own helpers answer. -/
namespace Go.Proofs.YtanchgkiomfhhaaDoor.Fw
set_option linter.unusedSimpArgs false
set_option linter.unusedVariables false
open Go Go.Proofs.YtanchgkiomfhhaaDoor.Ma
set_option maxRecDepth 20000

theorem repF0 {a : AV} : repA [a] 1 = [a] := by simp [repA, List.range, List.range.loop]
theorem load_map {α : Type} {f : α → AV} {l : List α} {H : AHeap} {K : AV → Prop} {i : Nat} (h : i < l.length) : loadW H none (.cptr ((l.map f).drop i)) K = K (f (l[i])) := by
  have hi : i < (l.map f).length := by simpa using h
  simp only [loadW, cellsAt, List.drop_eq_getElem_cons hi]
  simp
theorem idx_map {α : Type} {f : α → AV} {l : List α} {t : Bool} {k : IntKind} {K : AV → Prop} {i : Nat} (h : i < l.length) : idxAW 1 (.seq l.length (l.map f) t) (.int k (i : Int)) K = K (.cptr ((l.map f).drop (i * 1))) := idx_rw (by simp) h
abbrev iA (n : Int) : AV := .int .i64 n
theorem rowof_run {l : List Int} {t : Bool} (hb : ∀ n, n ∈ l → -9223372036854775808 ≤ n ∧ n < 9223372036854775808) (hbig : l.length ≤ 1000000) {H : AHeap} {Q : AV → AHeap → Prop} (hq : ∀ y M, growC H 28 2 l.length (IC l) y M → Q y M) : Run Tryd.prog 54 [.seq l.length (l.map iA) t] H Q := by
  refine enter54 (by simp) ?_
  simp (disch := first | assumption | (apply Ap.symm; assumption) | omega | decide | (simp only [Xd] <;> omega)) only [ac54, len_rw, ↓Xa, Xb, Xc, ↓reduceIte, Nat.reduceLT, Nat.reduceEqDiff, Nat.reduceBEq, Nat.reduceLeDiff, Nat.reduceAdd, Nat.reduceMul]
  refine W_loop (fun s : Nat × AV × AHeap => ⟨[], [(3, s.2.1), (6, .seq l.length (l.map iA) t), (7, .int .i64 (l.length : Int)), (8, .int .i64 s.1)], s.2.2⟩) (fun s => s.1 ≤ l.length ∧ growC H 28 2 s.1 (IC (l.take s.1)) s.2.1 s.2.2) (fun s => l.length - s.1) (0, .seq 0 [] true, H) (Settle.now rfl) ⟨Nat.zero_le _, growC_nil⟩ ?_
  rintro ⟨i, y, M⟩ ⟨h3, hg⟩
  dsimp only at h3 hg ⊢
  by_cases hi : i < l.length
  · simp (disch := first | assumption | (apply Ap.symm; assumption) | omega | decide | (simp only [Xd] <;> omega)) only [hi, idx_map, load_map, ↓Xa, Xb, Xc, ↓reduceIte, Nat.reduceLT, Nat.reduceEqDiff, Nat.reduceBEq, Nat.reduceLeDiff, Nat.reduceAdd, Nat.reduceMul]
    refine (of_fn (hb _ (List.getElem_mem hi))).call ?_
    simp (disch := first | assumption | (apply Ap.symm; assumption) | omega | decide | (simp only [Xd] <;> omega)) only [repI1, cells_IntA, ↓Xa, Xb, Xc, ↓reduceIte, Nat.reduceLT, Nat.reduceEqDiff, Nat.reduceBEq, Nat.reduceLeDiff, Nat.reduceAdd, Nat.reduceMul]
    refine app_C (m := 1) hg rfl cellI (by omega) (by omega) (by omega) fun y' M2 hg3 => ?_
    rw [← IC_take] at hg3
    simp (disch := first | assumption | (apply Ap.symm; assumption) | omega | decide | (simp only [Xd] <;> omega)) only [↓Xa, Xb, Xc, ↓reduceIte, Nat.reduceLT, Nat.reduceEqDiff, Nat.reduceBEq, Nat.reduceLeDiff, Nat.reduceAdd, Nat.reduceMul]
    exact Settle.now ⟨(i + 1, y', M2), by dsimp only; omega, ⟨by dsimp only; omega, hg3⟩, rfl⟩
  · obtain rfl : i = l.length := by omega
    rw [List.take_of_length_le (by omega)] at hg
    simp (disch := first | assumption | (apply Ap.symm; assumption) | omega | decide | (simp only [Xd] <;> omega)) only [hi, ↓Xa, Xb, Xc, ↓reduceIte, Nat.reduceLT, Nat.reduceEqDiff, Nat.reduceBEq, Nat.reduceLeDiff, Nat.reduceAdd, Nat.reduceMul]
    refine Settle.now ?_
    simp (disch := first | assumption | (apply Ap.symm; assumption) | omega | decide | (simp only [Xd] <;> omega)) only [rs54, ↓Xa, Xb, Xc, ↓reduceIte, Nat.reduceLT, Nat.reduceEqDiff, Nat.reduceBEq, Nat.reduceLeDiff, Nat.reduceAdd, Nat.reduceMul]
    exact SetR.now (hq y M hg)
theorem rowof_fn {l : List Int} {t : Bool} (hb : ∀ n, n ∈ l → -9223372036854775808 ≤ n ∧ n < 9223372036854775808) (hbig : l.length ≤ 1000000) : PFn Tryd.prog 54 [.seq l.length (l.map iA) t] (RowA l false) :=
  PFn.frozen fun _ _ hq => rowof_run hb hbig hq

def joinT : List (List UInt8) → List UInt8
  | [] => []
  | [x] => x
  | x :: y :: r => x ++ 32 :: joinT (y :: r)
theorem joinT_eq : ∀ xs : List (List UInt8), Lib.join xs [32] = joinT xs
  | [] => rfl
  | [x] => by simp [Lib.join, joinT, List.intercalate]
  | x :: y :: r => by
    have := joinT_eq (y :: r)
    simp only [Lib.join, joinT, List.intercalate] at this ⊢
    rw [← this]
    simp
theorem joinT_len {k : Nat} : ∀ xs : List (List UInt8), (∀ x, x ∈ xs → x.length ≤ k) → (joinT xs).length ≤ xs.length * (k + 1)
  | [], _ => by simp [joinT]
  | [x], h => by have := h x (by simp); simp [joinT]; omega
  | x :: y :: r, h => by
    have h1 := joinT_len (y :: r) fun z hz => h z (by simp at hz ⊢; exact .inr hz)
    have h2 := h x (by simp)
    simp only [joinT, List.length_append, List.length_cons] at h1 ⊢
    rw [Nat.add_mul]; omega
def rowT (zs : List Int) : List UInt8 := 91 :: joinT (zs.map iText) ++ [93]
theorem joinI_len {k : Nat} {zs : List Int} (hz : RB4 k zs) (hk : k ≤ 1000000) (hbig : zs.length ≤ 1000000) : (joinT (zs.map iText)).length ≤ 1000000 * 10000003 := by
  refine Nat.le_trans (joinT_len (k := 10 * k + 2) _ fun x hx => ?_) ?_
  · obtain ⟨z, hm, rfl⟩ := List.mem_map.1 hx
    exact iText_len (hz.1 z hm)
  · rw [List.length_map]; exact Nat.mul_le_mul hbig (by omega)
theorem cell_Sx1 {l : List UInt8} : [Sx l].all AV.cell = true := rfl
theorem rowt_fn {zs : List Int} {t : Bool} {k : Nat} (hz : RB4 k zs) (hk : k ≤ 1000000) (hbig : zs.length ≤ 1000000) : PFn Tryd.prog 86 [RowA zs t] (Sx (rowT zs)) := by
  intro H Q hq
  have nz : zs.length < 9223372036854775808 := by omega
  have hjl := joinI_len hz hk hbig
  refine enter86 (by simp) ?_
  simp (disch := first | assumption | (apply Ap.symm; assumption) | omega | decide | (simp only [Xd] <;> omega)) only [ac86, len_rw, ↓Xa, Xb, Xc, ↓reduceIte, Nat.reduceLT, Nat.reduceEqDiff, Nat.reduceBEq, Nat.reduceLeDiff, Nat.reduceAdd, Nat.reduceMul]
  refine W_loop (fun s : Nat × AV × AHeap => ⟨[], [(3, s.2.1), (6, RowA zs t), (7, .int .i64 (zs.length : Int)), (8, .int .i64 s.1)], s.2.2⟩) (fun s => s.1 ≤ zs.length ∧ growC H 9 1 s.1 ((zs.take s.1).map fun z => Sx (iText z)) s.2.1 s.2.2) (fun s => zs.length - s.1) (0, .seq 0 [] true, H) (Settle.now rfl) ⟨Nat.zero_le _, growC_nil⟩ ?_
  rintro ⟨i, y, M⟩ ⟨h3, hg⟩
  dsimp only at h3 hg ⊢
  by_cases hi : i < zs.length
  · simp (disch := first | assumption | (apply Ap.symm; assumption) | omega | decide | (simp only [Xd] <;> omega)) only [hi, idx_IC, load_IC, ↓Xa, Xb, Xc, ↓reduceIte, Nat.reduceLT, Nat.reduceEqDiff, Nat.reduceBEq, Nat.reduceLeDiff, Nat.reduceAdd, Nat.reduceMul]
    refine alloc_i fun q hq1 => ?_
    simp (disch := first | assumption | (apply Ap.symm; assumption) | omega | decide | (simp only [Xd] <;> omega)) only [cells_IntA, fold_IntA, ↓Xa, Xb, Xc, ↓reduceIte, Nat.reduceLT, Nat.reduceEqDiff, Nat.reduceBEq, Nat.reduceLeDiff, Nat.reduceAdd, Nat.reduceMul]
    have hg1 := growC_upd (r := .row 28 0 [IntB (zs[i]), IntD (zs[i])]) hg hq1
    refine (itext_fn (hz.at hi) hk).call ?_
    simp (disch := first | assumption | (apply Ap.symm; assumption) | omega | decide | (simp only [Xd] <;> omega)) only [repF0, cells_Sx, str_Sx, ↓Xa, Xb, Xc, ↓reduceIte, Nat.reduceLT, Nat.reduceEqDiff, Nat.reduceBEq, Nat.reduceLeDiff, Nat.reduceAdd, Nat.reduceMul]
    refine app_C (m := 1) hg1 rfl cell_Sx1 (by omega) (by omega) (by omega) fun y' M2 hg3 => ?_
    have e : (zs.take (i + 1)).map (fun z => Sx (iText z)) = (zs.take i).map (fun z => Sx (iText z)) ++ [Sx (iText (zs[i]))] := by
      rw [List.take_add_one, List.getElem?_eq_getElem hi, Option.toList_some, List.map_append]; rfl
    rw [← e] at hg3
    obtain ⟨M3, hg4, hl4⟩ := growC_le2 hg3 ((Le.refl H).upd (growC_none hg hq1))
    simp (disch := first | assumption | (apply Ap.symm; assumption) | omega | decide | (simp only [Xd] <;> omega)) only [↓Xa, Xb, Xc, ↓reduceIte, Nat.reduceLT, Nat.reduceEqDiff, Nat.reduceBEq, Nat.reduceLeDiff, Nat.reduceAdd, Nat.reduceMul]
    exact Settle.dropTo hl4 (Settle.now ⟨(i + 1, y', M3), by dsimp only; omega, ⟨by dsimp only; omega, hg4⟩, rfl⟩)
  · obtain rfl : i = zs.length := by omega
    rw [List.take_of_length_le (by omega)] at hg
    simp (disch := first | assumption | (apply Ap.symm; assumption) | omega | decide | (simp only [Xd] <;> omega)) only [hi, ↓Xa, Xb, Xc, ↓reduceIte, Nat.reduceLT, Nat.reduceEqDiff, Nat.reduceBEq, Nat.reduceLeDiff, Nat.reduceAdd, Nat.reduceMul]
    refine Settle.grownC 3 rfl hg (Settle.now ?_)
    have hj := join_fn (zs.map iText) [32] false (by simpa using hbig) (by rw [joinT_eq]; omega)
    rw [joinT_eq, List.length_map, List.map_map] at hj
    have s1 : AV.str ⟨#[91]⟩ = Sx [91] := rfl
    have s2 : AV.str ⟨#[93]⟩ = Sx [93] := rfl
    have s3 : AV.str ⟨#[32]⟩ = Sx [32] := rfl
    have e1 : ∀ K, binW .add (Sx [91]) (Sx (joinT (zs.map iText))) K = K (Sx (91 :: joinT (zs.map iText))) := fun K => add_Sx (by simp only [List.length_cons, List.length_append, List.length_nil]; omega)
    have e2 : ∀ K, binW .add (Sx (91 :: joinT (zs.map iText))) (Sx [93]) K = K (Sx (rowT zs)) := fun K => by rw [add_Sx (by simp only [List.length_cons, List.length_append, List.length_nil]; omega)]; rfl
    simp (disch := first | assumption | (apply Ap.symm; assumption) | omega | decide | (simp only [Xd] <;> omega)) only [s3, ↓Xa, Xb, Xc, ↓reduceIte, Nat.reduceLT, Nat.reduceEqDiff, Nat.reduceBEq, Nat.reduceLeDiff, Nat.reduceAdd, Nat.reduceMul]
    refine hj.call ?_
    simp (disch := first | assumption | (apply Ap.symm; assumption) | omega | decide | (simp only [Xd] <;> omega)) only [s1, s2, e1, e2, rs86, ↓Xa, Xb, Xc, ↓reduceIte, Nat.reduceLT, Nat.reduceEqDiff, Nat.reduceBEq, Nat.reduceLeDiff, Nat.reduceAdd, Nat.reduceMul]
    exact SetR.now hq
end Go.Proofs.YtanchgkiomfhhaaDoor.Fw

/- Rows of whole numbers read of a text: where it goes wrong, or the row: plain laws. -/
namespace Go.Proofs.YtanchgkiomfhhaaDoor.Fw
set_option linter.unusedSimpArgs false
set_option linter.unusedVariables false
open Go Go.Proofs.YtanchgkiomfhhaaDoor.Ma

def isNC (c : UInt8) : Bool := decide (c.toNat = 45 ∨ (48 ≤ c.toNat ∧ c.toNat ≤ 57))
def isNE (c : UInt8) : Bool := decide (c.toNat ≠ 32 ∧ c.toNat ≠ 93)
def segP (l : List UInt8) (a : Nat) : List UInt8 := (l.drop a).takeWhile isNC
def segR (l : List UInt8) (a : Nat) : List UInt8 := (l.drop a).takeWhile isNE
noncomputable def posP (l : List UInt8) : Nat := Classical.choose (isAt_ex l)
theorem posP_at (l : List UInt8) : IsAt l (posP l) := Classical.choose_spec (isAt_ex l)
theorem posP_of {l : List UInt8} {p : Nat} (h : IsAt l p) : posP l = p := isAt_fn (posP_at l) h
inductive Res where
  | ok (zs : List Int)
  | bad (n : Nat)
  | long (n : Nat)
noncomputable def rdF (l : List UInt8) : Nat → Nat → List Int → Res
  | 0, a, _ => .bad a
  | f + 1, a, out =>
    if posP (segP l a) = iFrom (segP l a) ∨ posP (segP l a) < (segP l a).length then .bad (a + posP (segP l a))
    else if out.length = 4096 then .long a
    else if a + (segP l a).length = l.length then .bad (a + (segP l a).length)
    else if (l.getD (a + (segP l a).length) 0).toNat = 32 then rdF l f (a + (segP l a).length + 1) (out ++ [iVal (segP l a)])
    else if (l.getD (a + (segP l a).length) 0).toNat ≠ 93 then .bad (a + (segP l a).length)
    else if a + (segP l a).length + 1 < l.length then .bad (a + (segP l a).length + 1)
    else .ok (out ++ [iVal (segP l a)])
noncomputable def readR (l : List UInt8) : Res :=
  if 65536 < l.length then .long 65536 else if (l.getD 0 0).toNat ≠ 91 then .bad 0 else if l = [91, 93] then .ok [] else if l.take 2 = [91, 93] then .bad 2 else rdF l (l.length + 1) 1 []
theorem tw_le {p : UInt8 → Bool} (l : List UInt8) (a : Nat) : ((l.drop a).takeWhile p).length ≤ l.length - a := by
  have := (List.takeWhile_sublist p (l := l.drop a)).length_le
  rwa [List.length_drop] at this
theorem tw_get {p : UInt8 → Bool} {l : List UInt8} {a j : Nat} (h1 : a ≤ j) (h2 : j < a + ((l.drop a).takeWhile p).length) : p (l.getD j 0) = true := by
  have hle := tw_le (p := p) l a
  have hj : j - a < ((l.drop a).takeWhile p).length := by omega
  have hm := List.getElem_mem hj
  have hp := List.all_eq_true.1 (List.all_takeWhile (p := p) (l := l.drop a)) _ hm
  have e : ((l.drop a).takeWhile p)[j - a] = l.getD j 0 := by
    have hpre := List.takeWhile_prefix p (l := l.drop a)
    have h3 := hpre.getElem hj
    rw [h3, List.getElem_drop, List.getD_eq_getElem?_getD, List.getElem?_eq_getElem (by omega), Option.getD_some]
    congr 1; omega
  rw [e] at hp; exact hp
theorem tw_end {p : UInt8 → Bool} {l : List UInt8} {a : Nat} (h : a + ((l.drop a).takeWhile p).length < l.length) : p (l.getD (a + ((l.drop a).takeWhile p).length) 0) = false := by
  have hd : (l.drop a).length = l.length - a := by simp
  have e := List.takeWhile_append_dropWhile (p := p) (l := l.drop a)
  have hne : (l.drop a).dropWhile p ≠ [] := fun h0 => by
    rw [h0, List.append_nil] at e
    have := congrArg List.length e
    omega
  have h1 := List.head_dropWhile_not p (l := l.drop a) hne
  have e2 : l.getD (a + ((l.drop a).takeWhile p).length) 0 = ((l.drop a).dropWhile p).head hne := by
    have : (l.drop a).getD (((l.drop a).takeWhile p).length) 0 = ((l.drop a).dropWhile p).head hne := by
      conv => lhs; rw [← e]
      rw [List.getD_eq_getElem?_getD, List.getElem?_append_right (by rw [e]; exact Nat.le_refl _), e, Nat.sub_self]
      rw [← List.head?_eq_getElem?, List.head?_eq_some_head hne]; rfl
    rw [← this]
    simp [List.getD_eq_getElem?_getD]
  rw [e2]; exact h1
theorem tw_eq {p : UInt8 → Bool} (l : List UInt8) (a : Nat) : (l.drop a).takeWhile p = (l.drop a).take (((l.drop a).takeWhile p).length) := by
  have h := (List.takeWhile_prefix p (l := l.drop a))
  exact (List.prefix_iff_eq_take.1 h)
end Go.Proofs.YtanchgkiomfhhaaDoor.Fw

/- Rows of whole numbers read of a text: what package row answers. -/
namespace Go.Proofs.YtanchgkiomfhhaaDoor.Fw
set_option linter.unusedSimpArgs false
set_option linter.unusedVariables false
open Go Go.Proofs.YtanchgkiomfhhaaDoor.Ma
set_option maxRecDepth 20000

theorem hasp1_fn {l m : List UInt8} (hl : l.length < 9223372036854775808) : PFn Tryd.prog 201 [Sx l, Sx m] (.bool (decide (l.take m.length = m))) := by
  intro H Q hq
  refine enter201 (by simp) ?_
  by_cases h : m.length ≤ l.length
  · have e : decide (((m.length : Nat) : Int) ≤ ((l.length : Nat) : Int)) = true := decide_eq_true (by omega)
    simp (disch := first | assumption | (apply Ap.symm; assumption) | omega | decide | (simp only [Xd] <;> omega)) only [ac201, len_Sx, geq_int, e, slc_SxH, eql_Sx, rs201, ↓Xa, Xb, Xc, ↓reduceIte, Nat.reduceLT, Nat.reduceEqDiff, Nat.reduceBEq, Nat.reduceLeDiff, Nat.reduceAdd, Nat.reduceMul]
    exact SetR.now hq
  · have e : decide (((m.length : Nat) : Int) ≤ ((l.length : Nat) : Int)) = false := decide_eq_false (by omega)
    have e2 : decide (l.take m.length = m) = false := decide_eq_false fun h2 => by
      have := congrArg List.length h2
      rw [List.length_take] at this; omega
    rw [e2] at hq
    simp (disch := first | assumption | (apply Ap.symm; assumption) | omega | decide | (simp only [Xd] <;> omega)) only [ac201, len_Sx, geq_int, e, rs201, ↓Xa, Xb, Xc, ↓reduceIte, Nat.reduceLT, Nat.reduceEqDiff, Nat.reduceBEq, Nat.reduceLeDiff, Nat.reduceAdd, Nat.reduceMul]
    exact SetR.now hq
theorem hasp_fn {l m : List UInt8} (hl : l.length < 9223372036854775808) : PFn Tryd.prog 166 [Sx l, Sx m] (.bool (decide (l.take m.length = m))) := by
  intro H Q hq
  refine enter166 (by simp) ?_
  simp (disch := first | assumption | (apply Ap.symm; assumption) | omega | decide | (simp only [Xd] <;> omega)) only [ac166, ↓Xa, Xb, Xc, ↓reduceIte, Nat.reduceLT, Nat.reduceEqDiff, Nat.reduceBEq, Nat.reduceLeDiff, Nat.reduceAdd, Nat.reduceMul]
  refine (hasp1_fn hl).call ?_
  simp (disch := first | assumption | (apply Ap.symm; assumption) | omega | decide | (simp only [Xd] <;> omega)) only [rs166, ↓Xa, Xb, Xc, ↓reduceIte, Nat.reduceLT, Nat.reduceEqDiff, Nat.reduceBEq, Nat.reduceLeDiff, Nat.reduceAdd, Nat.reduceMul]
  exact SetR.now hq
theorem wrong4_fn {n : Nat} : PFn Tryd.prog 165 [.int .i64 (n : Int)] (.tup [.seq 0 [] true, spot 6 n]) := by
  intro H Q hq
  refine enter165 (by simp) ?_
  have sp : AV.agg [.int .i64 ((6 : Nat) : Int), .int .i64 ((n : Nat) : Int)] = spot 6 n := rfl
  simp (disch := first | assumption | (apply Ap.symm; assumption) | omega | decide | (simp only [Xd] <;> omega)) only [ac165, ↓Xa, Xb, Xc, ↓reduceIte, Nat.reduceLT, Nat.reduceEqDiff, Nat.reduceBEq, Nat.reduceLeDiff, Nat.reduceAdd, Nat.reduceMul]
  refine alloc_i fun p1 hp1 => ?_
  have n1 := hp1
  simp (disch := first | assumption | (apply Ap.symm; assumption) | omega | decide | (simp only [Xd] <;> omega)) only [sp, cells_spot, rs165, ↓Xa, Xb, Xc, ↓reduceIte, Nat.reduceLT, Nat.reduceEqDiff, Nat.reduceBEq, Nat.reduceLeDiff, Nat.reduceAdd, Nat.reduceMul]
  exact SetR.dropTo ((Le.refl H).updB n1) (SetR.now hq)
def rdA : Res → AV
  | .ok zs => .tup [RowA zs false, spot 0 0]
  | .bad n => .tup [.seq 0 [] true, spot 6 n]
  | .long n => .tup [.seq 0 [] true, spot 3 n]
theorem growC_finS {H0 H : AHeap} {ty es n : Nat} {cells : List AV} {x : AV} {a b : Nat} {Q : AV → AHeap → Prop} (h : growC H0 ty es n cells x H) (hq : Q (.tup [.seq n cells false, spot a b]) H0) : SetR Q (.tup [x, spot a b]) H := by
  rcases h with ⟨rfl, rfl, rfl, rfl⟩ | ⟨hn, hl, b, hb, rfl, rfl⟩
  · exact SetR.loose (SetR.now hq)
  · refine SetR.frz b (upd_same _ _ _) ?_
    rw [upd_upd, upd_back _ hb]
    refine SetR.now ?_
    simpa [frz, frz2, frz1, hl, List.take_of_length_le, spot] using hq
theorem growC_lenW {H0 H : AHeap} {ty es n : Nat} {cells : List AV} {x : AV} (h : growC H0 ty es n cells x H) (hn : n < 9223372036854775808) {K : AV → Prop} : lenW false x K = K (.int .i64 ((n : Nat) : Int)) := by
  rcases h with ⟨rfl, rfl, rfl, rfl⟩ | ⟨_, _, b, _, rfl, _⟩ <;> simp [lenW, hn]
set_option maxHeartbeats 2000000 in
theorem rowread_fn {l : List UInt8} (hl : l.length < 4611686018427387904) : PFn Tryd.prog 85 [Sx l] (rdA (readR l)) := by
  intro H Q hq
  have s0 : AV.str ⟨#[]⟩ = Sx [] := rfl
  have s2 : AV.str ⟨#[91, 93]⟩ = Sx [91, 93] := rfl
  have sp : ∀ a b : Nat, AV.agg [.int .i64 ((a : Nat) : Int), .int .i64 ((b : Nat) : Int)] = spot a b := fun _ _ => rfl
  refine enter85 (by simp) ?_
  simp (disch := first | assumption | (apply Ap.symm; assumption) | omega | decide | (simp only [Xd] <;> omega)) only [ac85, ↓Xa, Xb, Xc, ↓reduceIte, Nat.reduceLT, Nat.reduceEqDiff, Nat.reduceBEq, Nat.reduceLeDiff, Nat.reduceAdd, Nat.reduceMul]
  refine alloc_i fun p1 hp1 => ?_
  have n1 := hp1
  simp (disch := first | assumption | (apply Ap.symm; assumption) | omega | decide | (simp only [Xd] <;> omega)) only [↓Xa, Xb, Xc, ↓reduceIte, Nat.reduceLT, Nat.reduceEqDiff, Nat.reduceBEq, Nat.reduceLeDiff, Nat.reduceAdd, Nat.reduceMul]
  refine W_jump (fun s : Nat × Nat × List Int × AV × AHeap => ⟨[], [(0, Sx l), (3, .ptr p1 2 0), (4, .fn (.func 165) [] []), (5, s.2.2.2.1), (6, .int .i64 (s.2.1 : Int))], s.2.2.2.2⟩)
    (fun s => l.length ≤ 65536 ∧ s.2.1 ≤ l.length ∧ l.length + 1 ≤ s.1 + s.2.1 ∧ s.2.2.1.length ≤ s.2.1 ∧ rdF l s.1 s.2.1 s.2.2.1 = readR l ∧ growC (H.upd p1 (some (.row 105 0 [.int .i64 ((0 : Nat) : Int), .int .i64 ((0 : Nat) : Int)]))) 28 2 s.2.2.1.length (IC s.2.2.1) s.2.2.2.1 s.2.2.2.2) (fun s => s.1) ?_ ?_
  · rintro ⟨f, a, out, y, M⟩ ⟨h65, ha, hf, ho, hR, hg⟩ R hcont
    dsimp only at ha hf ho hR hg ⊢
    obtain ⟨f, rfl⟩ : ∃ f', f = f' + 1 := ⟨f - 1, by omega⟩
    have hle : (segP l a).length ≤ l.length - a := tw_le l a
    have lBM := growC_le hg
    have m1 : M p1 = some (.row 105 0 [.int .i64 ((0 : Nat) : Int), .int .i64 ((0 : Nat) : Int)]) := growC_old hg (upd_same _ _ _)
    have hlH : Le H M := fun o x h => lBM o x (((Le.refl H).updB n1) o x h)
    have hpl := (posP_at (segP l a)).2.1
    have hwr : IntKind.i64.wrap ((a + posP (segP l a) : Nat) : Int) = ((a + posP (segP l a) : Nat) : Int) := wn_i64 (by omega)
    have hseg : (l.drop a).take (a + (segP l a).length - a) = segP l a := by
      rw [Nat.add_sub_cancel_left]; exact (tw_eq (p := isNC) l a).symm
    have hrd := iread_fn (posP_at (segP l a)) (by omega)
    unfold iReadA at hrd
    rw [if_neg (by omega)] at hrd
    have hq' := hq
    rw [← hR] at hq'
    unfold rdF at hq'
    have hly : ∀ {K : AV → Prop}, lenW false y K = K (.int .i64 ((out.length : Nat) : Int)) := fun {K} => growC_lenW hg (by omega)
    simp (disch := first | assumption | (apply Ap.symm; assumption) | omega | decide | (simp only [Xd] <;> omega)) only [↓Xa, Xb, Xc, ↓reduceIte, Nat.reduceLT, Nat.reduceEqDiff, Nat.reduceBEq, Nat.reduceLeDiff, Nat.reduceAdd, Nat.reduceMul]
    refine W_loop (fun s : Nat => ⟨[], [(0, Sx l), (3, .ptr p1 2 0), (4, .fn (.func 165) [] []), (5, y), (6, .int .i64 (a : Int)), (7, .int .i64 s)], M⟩) (fun s => a ≤ s ∧ s ≤ a + (segP l a).length) (fun s => a + (segP l a).length - s) a (Settle.now rfl) ⟨Nat.le_refl _, by omega⟩ ?_
    rintro j ⟨j1, j2⟩
    by_cases hj : j < a + (segP l a).length
    · have hjl : j < l.length := by omega
      have hne2 := of_decide_eq_true (tw_get (p := isNC) j1 hj)
      by_cases h45 : (l.getD j 0).toNat = 45
      · simp (disch := first | assumption | (apply Ap.symm; assumption) | omega | decide | (simp only [Xd] <;> omega)) only [len_Sx, hjl, idx_Sx, h45, ↓Xa, Xb, Xc, ↓reduceIte, Nat.reduceLT, Nat.reduceEqDiff, Nat.reduceBEq, Nat.reduceLeDiff, Nat.reduceAdd, Nat.reduceMul]
        exact Settle.now ⟨j + 1, by omega, ⟨by omega, by omega⟩, rfl⟩
      · have h48 : 48 ≤ (l.getD j 0).toNat := by omega
        have h57 : (l.getD j 0).toNat ≤ 57 := by omega
        simp (disch := first | assumption | (apply Ap.symm; assumption) | omega | decide | (simp only [Xd] <;> omega)) only [len_Sx, hjl, idx_Sx, h45, h48, h57, ↓Xa, Xb, Xc, ↓reduceIte, Nat.reduceLT, Nat.reduceEqDiff, Nat.reduceBEq, Nat.reduceLeDiff, Nat.reduceAdd, Nat.reduceMul]
        exact Settle.now ⟨j + 1, by omega, ⟨by omega, by omega⟩, rfl⟩
    obtain rfl : j = a + (segP l a).length := by omega
    -- what comes behind the scan
    have tri : (¬ a + (segP l a).length < l.length) ∨ (a + (segP l a).length < l.length ∧ ¬ (l.getD (a + (segP l a).length) 0).toNat = 45 ∧ ¬ 48 ≤ (l.getD (a + (segP l a).length) 0).toNat) ∨ (a + (segP l a).length < l.length ∧ ¬ (l.getD (a + (segP l a).length) 0).toNat = 45 ∧ 48 ≤ (l.getD (a + (segP l a).length) 0).toNat ∧ ¬ (l.getD (a + (segP l a).length) 0).toNat ≤ 57) := by
      by_cases h : a + (segP l a).length < l.length
      · have := of_decide_eq_false (tw_end (p := isNC) (l := l) (a := a) h)
        have e5 : ((l.drop a).takeWhile isNC).length = (segP l a).length := rfl
        rw [e5] at this
        by_cases h48 : 48 ≤ (l.getD (a + (segP l a).length) 0).toNat
        · exact .inr (.inr ⟨h, by omega, h48, by omega⟩)
        · exact .inr (.inl ⟨h, by omega, h48⟩)
      · exact .inl h
    rcases tri with h | ⟨h, h45, h48⟩ | ⟨h, h45, h48, h57⟩
    simp (disch := first | assumption | (apply Ap.symm; assumption) | omega | decide | (simp only [Xd] <;> omega)) only [len_Sx, h, ↓Xa, Xb, Xc, ↓reduceIte, Nat.reduceLT, Nat.reduceEqDiff, Nat.reduceBEq, Nat.reduceLeDiff, Nat.reduceAdd, Nat.reduceMul]
    rotate_left
    simp (disch := first | assumption | (apply Ap.symm; assumption) | omega | decide | (simp only [Xd] <;> omega)) only [len_Sx, h, idx_Sx, h45, h48, ↓Xa, Xb, Xc, ↓reduceIte, Nat.reduceLT, Nat.reduceEqDiff, Nat.reduceBEq, Nat.reduceLeDiff, Nat.reduceAdd, Nat.reduceMul]
    rotate_left
    simp (disch := first | assumption | (apply Ap.symm; assumption) | omega | decide | (simp only [Xd] <;> omega)) only [len_Sx, h, idx_Sx, h45, h48, h57, ↓Xa, Xb, Xc, ↓reduceIte, Nat.reduceLT, Nat.reduceEqDiff, Nat.reduceBEq, Nat.reduceLeDiff, Nat.reduceAdd, Nat.reduceMul]
    rotate_left
    all_goals
      refine Settle.now ?_
      simp (disch := first | assumption | (apply Ap.symm; assumption) | omega | decide | (simp only [Xd] <;> omega)) only [slc_Sx, hseg, ↓Xa, Xb, Xc, ↓reduceIte, Nat.reduceLT, Nat.reduceEqDiff, Nat.reduceBEq, Nat.reduceLeDiff, Nat.reduceAdd, Nat.reduceMul]
      refine hrd.call ?_
      by_cases hb : posP (segP l a) = iFrom (segP l a) ∨ posP (segP l a) < (segP l a).length
      · rw [if_pos hb]
        rw [if_pos hb] at hq'
        have e3 : decide (((6 : Nat) : Int) = ((0 : Nat) : Int)) = false := by decide
        simp (disch := first | assumption | (apply Ap.symm; assumption) | omega | decide | (simp only [Xd] <;> omega)) only [↓Xa, Xb, Xc, ↓reduceIte, Nat.reduceLT, Nat.reduceEqDiff, Nat.reduceBEq, Nat.reduceLeDiff, Nat.reduceAdd, Nat.reduceMul]
        refine alloc_i fun q1 hq1 => ?_
        have a1 := ne_of_some m1 hq1
        simp (disch := first | assumption | (apply Ap.symm; assumption) | omega | decide | (simp only [Xd] <;> omega)) only [↓Xa, Xb, Xc, ↓reduceIte, Nat.reduceLT, Nat.reduceEqDiff, Nat.reduceBEq, Nat.reduceLeDiff, Nat.reduceAdd, Nat.reduceMul]
        refine alloc_i fun q2 hq2 => ?_
        have a2 := ne_of_some m1 (upd_none.1 hq2).2
        have a21 := (upd_none.1 hq2).1
        simp (disch := first | assumption | (apply Ap.symm; assumption) | omega | decide | (simp only [Xd] <;> omega)) only [cells_IntA, cells_spot, neq_int, e3, hwr, ↓Xa, Xb, Xc, ↓reduceIte, Nat.reduceLT, Nat.reduceEqDiff, Nat.reduceBEq, Nat.reduceLeDiff, Nat.reduceAdd, Nat.reduceMul]
        refine (wrong4_fn (n := a + posP (segP l a))).call ?_
        simp (disch := first | assumption | (apply Ap.symm; assumption) | omega | decide | (simp only [Xd] <;> omega)) only [m1, cells_spot, rs85, ↓Xa, Xb, Xc, ↓reduceIte, Nat.reduceLT, Nat.reduceEqDiff, Nat.reduceBEq, Nat.reduceLeDiff, Nat.reduceAdd, Nat.reduceMul]
        exact SetR.dropTo (((hlH.updB (hlH.none hq1)).updB (hlH.none (upd_none.1 hq2).2)).updB n1) (SetR.now hq')
      · rw [if_neg hb]
        rw [if_neg hb] at hq'
        have e3 : decide (((0 : Nat) : Int) = ((0 : Nat) : Int)) = true := by decide
        simp (disch := first | assumption | (apply Ap.symm; assumption) | omega | decide | (simp only [Xd] <;> omega)) only [↓Xa, Xb, Xc, ↓reduceIte, Nat.reduceLT, Nat.reduceEqDiff, Nat.reduceBEq, Nat.reduceLeDiff, Nat.reduceAdd, Nat.reduceMul]
        refine alloc_i fun q1 hq1 => ?_
        have a1 := ne_of_some m1 hq1
        simp (disch := first | assumption | (apply Ap.symm; assumption) | omega | decide | (simp only [Xd] <;> omega)) only [↓Xa, Xb, Xc, ↓reduceIte, Nat.reduceLT, Nat.reduceEqDiff, Nat.reduceBEq, Nat.reduceLeDiff, Nat.reduceAdd, Nat.reduceMul]
        refine alloc_i fun q2 hq2 => ?_
        have a2 := ne_of_some m1 (upd_none.1 hq2).2
        have a21 := (upd_none.1 hq2).1
        by_cases hcap : out.length = 4096
        · rw [if_pos hcap] at hq'
          simp (disch := first | assumption | (apply Ap.symm; assumption) | omega | decide | (simp only [Xd] <;> omega)) only [cells_IntA, cells_spot, neq_int, e3, hly, hcap, sp, m1, rs85, ↓Xa, Xb, Xc, ↓reduceIte, Nat.reduceLT, Nat.reduceEqDiff, Nat.reduceBEq, Nat.reduceLeDiff, Nat.reduceAdd, Nat.reduceMul]
          exact SetR.dropTo (((hlH.updB (hlH.none hq1)).updB (hlH.none (upd_none.1 hq2).2)).updB n1) (SetR.now hq')
        · rw [if_neg hcap] at hq'
          have hg1 := growC_upd (r := .row 28 0 [IntB (iVal (segP l a)), IntD (iVal (segP l a))]) hg hq1
          have hq2' : (M.upd q1 (some (.row 28 0 [IntB (iVal (segP l a)), IntD (iVal (segP l a))]))) q2 = none := upd_none.2 ⟨a21, (upd_none.1 hq2).2⟩
          have hg2 := growC_upd (r := .row 105 0 [.int .i64 ((0 : Nat) : Int), .int .i64 ((0 : Nat) : Int)]) hg1 hq2'
          have hle2 : Le (H.upd p1 (some (.row 105 0 [.int .i64 ((0 : Nat) : Int), .int .i64 ((0 : Nat) : Int)]))) (((H.upd p1 (some (.row 105 0 [.int .i64 ((0 : Nat) : Int), .int .i64 ((0 : Nat) : Int)]))).upd q1 (some (.row 28 0 [IntB (iVal (segP l a)), IntD (iVal (segP l a))]))).upd q2 (some (.row 105 0 [.int .i64 ((0 : Nat) : Int), .int .i64 ((0 : Nat) : Int)]))) :=
            ((Le.refl _).updB (growC_none hg hq1)).updB (growC_none hg (upd_none.1 hq2).2)
          simp (disch := first | assumption | (apply Ap.symm; assumption) | omega | decide | (simp only [Xd] <;> omega)) only [cells_IntA, cells_spot, neq_int, e3, hly, hcap, fold_IntA, repI1, ↓Xa, Xb, Xc, ↓reduceIte, Nat.reduceLT, Nat.reduceEqDiff, Nat.reduceBEq, Nat.reduceLeDiff, Nat.reduceAdd, Nat.reduceMul]
          refine app_C (m := 1) hg2 rfl cellI (by omega) (by omega) (by omega) fun y' M2 hg3 => ?_
          rw [← IC_snoc] at hg3
          obtain ⟨M3, hg4, hl4⟩ := growC_le2 hg3 hle2
          have hll : (out ++ [iVal (segP l a)]).length = out.length + 1 := by simp
          have m2 : M2 p1 = some (.row 105 0 [.int .i64 ((0 : Nat) : Int), .int .i64 ((0 : Nat) : Int)]) := hl4 _ _ (growC_old hg4 (upd_same _ _ _))
          have hlH2 : Le H M2 := fun o x h => hl4 o x (growC_le hg4 o x (((Le.refl H).updB n1) o x h))
          by_cases hjl : a + (segP l a).length = l.length
          · rw [if_pos hjl] at hq'
            simp (disch := first | assumption | (apply Ap.symm; assumption) | omega | decide | (simp only [Xd] <;> omega)) only [len_Sx, hjl, ↓Xa, Xb, Xc, ↓reduceIte, Nat.reduceLT, Nat.reduceEqDiff, Nat.reduceBEq, Nat.reduceLeDiff, Nat.reduceAdd, Nat.reduceMul]
            refine (wrong4_fn (n := l.length)).call ?_
            simp (disch := first | assumption | (apply Ap.symm; assumption) | omega | decide | (simp only [Xd] <;> omega)) only [m2, cells_spot, rs85, ↓Xa, Xb, Xc, ↓reduceIte, Nat.reduceLT, Nat.reduceEqDiff, Nat.reduceBEq, Nat.reduceLeDiff, Nat.reduceAdd, Nat.reduceMul]
            rw [hjl] at hq'
            exact SetR.dropTo (hlH2.updB n1) (SetR.now hq')
          rw [if_neg hjl] at hq'
          have hjl2 : a + (segP l a).length < l.length := by omega
          by_cases h32 : (l.getD (a + (segP l a).length) 0).toNat = 32
          · simp (disch := first | assumption | (apply Ap.symm; assumption) | omega | decide | (simp only [Xd] <;> omega)) only [len_Sx, hjl, hjl2, idx_Sx, h32, ↓Xa, Xb, Xc, ↓reduceIte, Nat.reduceLT, Nat.reduceEqDiff, Nat.reduceBEq, Nat.reduceLeDiff, Nat.reduceAdd, Nat.reduceMul]
            refine Settle.dropTo hl4 (Settle.keep [0, 3, 4, 5, 6] (hcont (f, a + (segP l a).length + 1, out ++ [iVal (segP l a)], y', M3) (by dsimp only; omega) ⟨h65, by dsimp only; omega, by dsimp only; omega, by simp; omega, ?_, by dsimp only; rw [hll]; exact hg4⟩))
            dsimp only
            rw [← hR]
            conv => rhs; unfold rdF
            rw [if_neg hb, if_neg hcap, if_neg hjl, if_pos h32]
          rw [if_neg h32] at hq'
          by_cases h93 : (l.getD (a + (segP l a).length) 0).toNat ≠ 93
          · rw [if_pos h93] at hq'
            have e5 : decide (((((l.getD (a + (segP l a).length) 0).toNat : Nat) : Int)) = ((93 : Nat) : Int)) = false := decide_eq_false (by omega)
            simp (disch := first | assumption | (apply Ap.symm; assumption) | omega | decide | (simp only [Xd] <;> omega)) only [len_Sx, hjl, hjl2, idx_Sx, h32, neq_int, e5, ↓Xa, Xb, Xc, ↓reduceIte, Nat.reduceLT, Nat.reduceEqDiff, Nat.reduceBEq, Nat.reduceLeDiff, Nat.reduceAdd, Nat.reduceMul]
            refine (wrong4_fn (n := a + (segP l a).length)).call ?_
            simp (disch := first | assumption | (apply Ap.symm; assumption) | omega | decide | (simp only [Xd] <;> omega)) only [m2, cells_spot, rs85, ↓Xa, Xb, Xc, ↓reduceIte, Nat.reduceLT, Nat.reduceEqDiff, Nat.reduceBEq, Nat.reduceLeDiff, Nat.reduceAdd, Nat.reduceMul]
            exact SetR.dropTo (hlH2.updB n1) (SetR.now hq')
          rw [if_neg h93] at hq'
          have e5 : decide (((((l.getD (a + (segP l a).length) 0).toNat : Nat) : Int)) = ((93 : Nat) : Int)) = true := decide_eq_true (by omega)
          by_cases h6 : a + (segP l a).length + 1 < l.length
          · rw [if_pos h6] at hq'
            simp (disch := first | assumption | (apply Ap.symm; assumption) | omega | decide | (simp only [Xd] <;> omega)) only [len_Sx, hjl, hjl2, idx_Sx, h32, neq_int, e5, h6, ↓Xa, Xb, Xc, ↓reduceIte, Nat.reduceLT, Nat.reduceEqDiff, Nat.reduceBEq, Nat.reduceLeDiff, Nat.reduceAdd, Nat.reduceMul]
            refine (wrong4_fn (n := a + (segP l a).length + 1)).call ?_
            simp (disch := first | assumption | (apply Ap.symm; assumption) | omega | decide | (simp only [Xd] <;> omega)) only [m2, cells_spot, rs85, ↓Xa, Xb, Xc, ↓reduceIte, Nat.reduceLT, Nat.reduceEqDiff, Nat.reduceBEq, Nat.reduceLeDiff, Nat.reduceAdd, Nat.reduceMul]
            exact SetR.dropTo (hlH2.updB n1) (SetR.now hq')
          · rw [if_neg h6] at hq'
            simp (disch := first | assumption | (apply Ap.symm; assumption) | omega | decide | (simp only [Xd] <;> omega)) only [len_Sx, hjl, hjl2, idx_Sx, h32, neq_int, e5, h6, sp, m2, cells_spot, rs85, ↓Xa, Xb, Xc, ↓reduceIte, Nat.reduceLT, Nat.reduceEqDiff, Nat.reduceBEq, Nat.reduceLeDiff, Nat.reduceAdd, Nat.reduceMul]
            obtain ⟨H1, hg5, hl5⟩ := growC_move (M := M2.upd p1 (some (.row 105 0 [.int .i64 ((0 : Nat) : Int), .int .i64 ((0 : Nat) : Int)]))) hg3 fun b hb _ => upd_other _ _ (by rintro rfl; rw [hle2 _ _ (upd_same _ _ _)] at hb; cases hb)
            obtain ⟨M4, hg6, hl6⟩ := growC_le2 hg5 (hl5 H (hlH2.updB n1) fun b hb => by
              have h1 := (upd_none.1 (upd_none.1 hb).2).2
              exact (upd_none.1 h1).2)
            refine SetR.dropTo hl6 (growC_finS hg6 ?_)
            rw [← hll]
            exact hq'
  · intro hb
    by_cases h65 : 65536 < l.length
    · have e : readR l = .long 65536 := by unfold readR; rw [if_pos h65]
      rw [e] at hq
      simp (disch := first | assumption | (apply Ap.symm; assumption) | omega | decide | (simp only [Xd] <;> omega)) only [len_Sx, h65, sp, cells_spot, rs85, ↓Xa, Xb, Xc, ↓reduceIte, Nat.reduceLT, Nat.reduceEqDiff, Nat.reduceBEq, Nat.reduceLeDiff, Nat.reduceAdd, Nat.reduceMul]
      exact SetR.dropTo ((Le.refl H).updB n1) (SetR.now hq)
    by_cases h91 : (l.getD 0 0).toNat ≠ 91
    · have e : readR l = .bad 0 := by unfold readR; rw [if_neg h65, if_pos h91]
      rw [e] at hq
      by_cases hn : l = []
      · simp (disch := first | assumption | (apply Ap.symm; assumption) | omega | decide | (simp only [Xd] <;> omega)) only [len_Sx, h65, s0, eql_Sx, decide_eq_true hn, ↓Xa, Xb, Xc, ↓reduceIte, Nat.reduceLT, Nat.reduceEqDiff, Nat.reduceBEq, Nat.reduceLeDiff, Nat.reduceAdd, Nat.reduceMul]
        refine (wrong4_fn (n := 0)).call ?_
        simp (disch := first | assumption | (apply Ap.symm; assumption) | omega | decide | (simp only [Xd] <;> omega)) only [cells_spot, rs85, ↓Xa, Xb, Xc, ↓reduceIte, Nat.reduceLT, Nat.reduceEqDiff, Nat.reduceBEq, Nat.reduceLeDiff, Nat.reduceAdd, Nat.reduceMul]
        exact SetR.dropTo ((Le.refl H).updB n1) (SetR.now hq)
      · have hp : 0 < l.length := List.length_pos_iff.2 hn
        have d1 : decide (((((l.getD 0 0).toNat : Nat) : Int)) = ((91 : Nat) : Int)) = false := decide_eq_false (by omega)
        simp (disch := first | assumption | (apply Ap.symm; assumption) | omega | decide | (simp only [Xd] <;> omega)) only [len_Sx, h65, s0, eql_Sx, decide_eq_false hn, hp, idx_Sx, neq_int, d1, ↓Xa, Xb, Xc, ↓reduceIte, Nat.reduceLT, Nat.reduceEqDiff, Nat.reduceBEq, Nat.reduceLeDiff, Nat.reduceAdd, Nat.reduceMul]
        refine (wrong4_fn (n := 0)).call ?_
        simp (disch := first | assumption | (apply Ap.symm; assumption) | omega | decide | (simp only [Xd] <;> omega)) only [cells_spot, rs85, ↓Xa, Xb, Xc, ↓reduceIte, Nat.reduceLT, Nat.reduceEqDiff, Nat.reduceBEq, Nat.reduceLeDiff, Nat.reduceAdd, Nat.reduceMul]
        exact SetR.dropTo ((Le.refl H).updB n1) (SetR.now hq)
    have h91' : (l.getD 0 0).toNat = 91 := Classical.not_not.1 h91
    have hn : l ≠ [] := fun h => by subst h; exact absurd h91' (by decide)
    have hp : 0 < l.length := List.length_pos_iff.2 hn
    have d1 : decide (((((l.getD 0 0).toNat : Nat) : Int)) = ((91 : Nat) : Int)) = true := decide_eq_true (by omega)
    by_cases h2 : l = [91, 93]
    · have e : readR l = .ok [] := by unfold readR; rw [if_neg h65, if_neg h91, if_pos h2]
      rw [e] at hq
      simp (disch := first | assumption | (apply Ap.symm; assumption) | omega | decide | (simp only [Xd] <;> omega)) only [len_Sx, h65, s0, s2, eql_Sx, decide_eq_false hn, decide_eq_true h2, hp, idx_Sx, neq_int, d1, sp, cells_spot, rs85, ↓Xa, Xb, Xc, ↓reduceIte, Nat.reduceLT, Nat.reduceEqDiff, Nat.reduceBEq, Nat.reduceLeDiff, Nat.reduceAdd, Nat.reduceMul]
      exact SetR.dropTo ((Le.refl H).updB n1) (SetR.loose (SetR.now hq))
    have hpf := hasp_fn (l := l) (m := [91, 93]) (by omega)
    have hl2 : ([91, 93] : List UInt8).length = 2 := rfl
    rw [hl2] at hpf
    by_cases h3 : l.take 2 = [91, 93]
    · have e : readR l = .bad 2 := by unfold readR; rw [if_neg h65, if_neg h91, if_neg h2, if_pos h3]
      rw [e] at hq
      simp (disch := first | assumption | (apply Ap.symm; assumption) | omega | decide | (simp only [Xd] <;> omega)) only [len_Sx, h65, s0, s2, eql_Sx, decide_eq_false hn, decide_eq_false h2, hp, idx_Sx, neq_int, d1, ↓Xa, Xb, Xc, ↓reduceIte, Nat.reduceLT, Nat.reduceEqDiff, Nat.reduceBEq, Nat.reduceLeDiff, Nat.reduceAdd, Nat.reduceMul]
      refine hpf.call ?_
      simp (disch := first | assumption | (apply Ap.symm; assumption) | omega | decide | (simp only [Xd] <;> omega)) only [decide_eq_true h3, ↓Xa, Xb, Xc, ↓reduceIte, Nat.reduceLT, Nat.reduceEqDiff, Nat.reduceBEq, Nat.reduceLeDiff, Nat.reduceAdd, Nat.reduceMul]
      refine (wrong4_fn (n := 2)).call ?_
      simp (disch := first | assumption | (apply Ap.symm; assumption) | omega | decide | (simp only [Xd] <;> omega)) only [cells_spot, rs85, ↓Xa, Xb, Xc, ↓reduceIte, Nat.reduceLT, Nat.reduceEqDiff, Nat.reduceBEq, Nat.reduceLeDiff, Nat.reduceAdd, Nat.reduceMul]
      exact SetR.dropTo ((Le.refl H).updB n1) (SetR.now hq)
    · have e : readR l = rdF l (l.length + 1) 1 [] := by unfold readR; rw [if_neg h65, if_neg h91, if_neg h2, if_neg h3]
      have hb0 := hb (l.length + 1, 1, [], .seq 0 [] true, _) ⟨by omega, by dsimp only; omega, by dsimp only; omega, by simp, e.symm, growC_nil⟩
      simp (disch := first | assumption | (apply Ap.symm; assumption) | omega | decide | (simp only [Xd] <;> omega)) only [↓Xa, Xb, Xc, ↓reduceIte, Nat.reduceLT, Nat.reduceEqDiff, Nat.reduceBEq, Nat.reduceLeDiff, Nat.reduceAdd, Nat.reduceMul] at hb0
      simp (disch := first | assumption | (apply Ap.symm; assumption) | omega | decide | (simp only [Xd] <;> omega)) only [len_Sx, h65, s0, s2, eql_Sx, decide_eq_false hn, decide_eq_false h2, hp, idx_Sx, neq_int, d1, ↓Xa, Xb, Xc, ↓reduceIte, Nat.reduceLT, Nat.reduceEqDiff, Nat.reduceBEq, Nat.reduceLeDiff, Nat.reduceAdd, Nat.reduceMul]
      refine hpf.call ?_
      simp (disch := first | assumption | (apply Ap.symm; assumption) | omega | decide | (simp only [Xd] <;> omega)) only [decide_eq_false h3, ↓Xa, Xb, Xc, ↓reduceIte, Nat.reduceLT, Nat.reduceEqDiff, Nat.reduceBEq, Nat.reduceLeDiff, Nat.reduceAdd, Nat.reduceMul]
      exact hb0
end Go.Proofs.YtanchgkiomfhhaaDoor.Fw

/- Rows read: the reference's way is the program's; a row's text is read as it; what is read has its text. -/
namespace Go.Proofs.YtanchgkiomfhhaaDoor.Fw
set_option linter.unusedSimpArgs false
set_option linter.unusedVariables false
open Go Go.Proofs.YtanchgkiomfhhaaDoor.Ma

noncomputable def rrF (l : List UInt8) : Nat → Nat → List Int → Res
  | 0, a, _ => .bad a
  | f + 1, a, out =>
    if posP (segR l a) = iFrom (segR l a) ∨ posP (segR l a) < (segR l a).length then .bad (a + posP (segR l a))
    else if a + (segR l a).length = l.length then .bad (a + (segR l a).length)
    else if (l.getD (a + (segR l a).length) 0).toNat = 93 then
      if a + (segR l a).length + 1 < l.length then .bad (a + (segR l a).length + 1) else .ok (out ++ [iVal (segR l a)])
    else rrF l f (a + (segR l a).length + 1) (out ++ [iVal (segR l a)])
noncomputable def readRR (l : List UInt8) : Res :=
  if (l.getD 0 0).toNat ≠ 91 then .bad 0 else if l.take 2 = [91, 93] then (if 2 < l.length then .bad 2 else .ok []) else rrF l (l.length + 1) 1 []
theorem getD_app_l {s t : List UInt8} {i : Nat} (h : i < s.length) : (s ++ t).getD i 0 = s.getD i 0 := by
  rw [List.getD_eq_getElem?_getD, List.getElem?_append_left h, List.getD_eq_getElem?_getD]
theorem getD_app_c {s t : List UInt8} {c : UInt8} : (s ++ c :: t).getD s.length 0 = c := by
  rw [List.getD_eq_getElem?_getD, List.getElem?_append_right (Nat.le_refl _)]; simp
theorem isAt_more {seg rest : List UInt8} {c : UInt8} {p : Nat} (hc : isNC c = false) (h : IsAt seg p) : IsAt (seg ++ c :: rest) p ∧ iFrom (seg ++ c :: rest) = iFrom seg := by
  have hc' := of_decide_eq_false hc
  have hf : iFrom (seg ++ c :: rest) = iFrom seg := by
    unfold iFrom
    by_cases h0 : seg = []
    · subst h0
      have e : ([] ++ c :: rest : List UInt8).getD 0 0 = c := rfl
      have e2 : ([] : List UInt8).getD 0 0 = 0 := rfl
      rw [e, e2, if_neg (by omega), if_neg (by decide)]
    · rw [getD_app_l (List.length_pos_iff.2 h0)]
  have hfl := iFrom_le seg
  have eqv : ∀ j, j < seg.length → (iBad (seg ++ c :: rest) j ↔ iBad seg j) := fun j hj => by
    unfold iBad
    rw [hf, getD_app_l hj]
    by_cases h1 : iFrom seg < seg.length
    · rw [getD_app_l h1]
    · have : ¬ j = iFrom seg + 1 := by omega
      have : ¬ j = iFrom seg := by omega
      simp only [*, false_and, or_false, false_or]
  obtain ⟨a, b, d, e⟩ := h
  refine ⟨⟨by rw [hf]; exact a, by simp; omega, ?_, fun j h1 h2 => ?_⟩, hf⟩
  · by_cases hp : p < seg.length
    · exact (eqv p hp).2 d
    · obtain rfl : p = seg.length := by omega
      unfold iBad
      rw [getD_app_c]
      omega
  · rw [hf] at h1
    have hj : j < seg.length := by omega
    exact fun hb => e j h1 h2 ((eqv j hj).1 hb)
theorem nc_ne {c : UInt8} (h : isNC c = true) : isNE c = true := by
  have h := of_decide_eq_true h
  exact decide_eq_true (by omega)
theorem segR_eq (l : List UInt8) (a : Nat) : segR l a = segP l a ∨ ∃ c rest, segR l a = segP l a ++ c :: rest ∧ isNC c = false ∧ isNE c = true ∧ a + (segP l a).length < l.length ∧ l.getD (a + (segP l a).length) 0 = c := by
  have gen : ∀ m : List UInt8, m.takeWhile isNE = m.takeWhile isNC ∨ ∃ c rest, m.takeWhile isNE = m.takeWhile isNC ++ c :: rest ∧ isNC c = false ∧ isNE c = true ∧ (m.takeWhile isNC).length < m.length ∧ m.getD ((m.takeWhile isNC).length) 0 = c := by
    intro m
    induction m with
    | nil => exact .inl rfl
    | cons x m ih =>
      by_cases h1 : isNC x = true
      · rw [List.takeWhile_cons_of_pos h1, List.takeWhile_cons_of_pos (nc_ne h1)]
        rcases ih with e | ⟨c, rest, e, e1, e2, e3, e4⟩
        · exact .inl (by rw [e])
        · exact .inr ⟨c, rest, by rw [e]; rfl, e1, e2, by simpa using e3, by simpa using e4⟩
      · rw [List.takeWhile_cons_of_neg h1]
        by_cases h2 : isNE x = true
        · rw [List.takeWhile_cons_of_pos h2]
          exact .inr ⟨x, _, rfl, by simpa using h1, h2, by simp, rfl⟩
        · rw [List.takeWhile_cons_of_neg h2]; exact .inl rfl
  rcases gen (l.drop a) with e | ⟨c, rest, e, e1, e2, e3, e4⟩
  · exact .inl e
  · refine .inr ⟨c, rest, e, e1, e2, by rw [List.length_drop] at e3; unfold segP; omega, ?_⟩
    rw [← e4]; simp [segP, List.getD_eq_getElem?_getD]
theorem rdF_rr (l : List UInt8) : ∀ f a out, a ≤ l.length → out.length + (l.length - a) < 4096 → rdF l f a out = rrF l f a out
  | 0, _, _, _, _ => rfl
  | f + 1, a, out, ha, hcap => by
    have hp := posP_at (segP l a)
    have hle : (segP l a).length ≤ l.length - a := tw_le l a
    rcases segR_eq l a with e | ⟨c, rest, e, hc, hne, hlt, hcl⟩
    · unfold rdF rrF
      rw [e]
      split
      · rfl
      · rw [if_neg (by omega)]
        split
        · rfl
        · rename_i h1 h2
          have hlt : a + (segP l a).length < l.length := by omega
          have hsep : (l.getD (a + (segP l a).length) 0).toNat = 32 ∨ (l.getD (a + (segP l a).length) 0).toNat = 93 := by
            have := tw_end (p := isNE) (l := l) (a := a) (by show a + (segR l a).length < _; rw [e]; exact hlt)
            have h4 := of_decide_eq_false this
            have e5 : ((l.drop a).takeWhile isNE).length = (segP l a).length := congrArg List.length e
            rw [e5] at h4
            omega
          rcases hsep with h3 | h3
          · rw [if_pos h3, if_neg (by omega)]
            exact rdF_rr l f _ _ (by omega) (by simp; omega)
          · rw [if_neg (by omega), if_neg (by omega), if_pos h3]
    · obtain ⟨hm, hf⟩ := isAt_more (rest := rest) hc hp
      have hpR : posP (segR l a) = posP (segP l a) := by rw [e]; exact posP_of hm
      have hfR : iFrom (segR l a) = iFrom (segP l a) := by rw [e]; exact hf
      have hlR : (segP l a).length < (segR l a).length := by rw [e]; simp
      have hple := hp.2.1
      have h32 := of_decide_eq_true hne
      unfold rdF rrF
      conv => rhs; rw [hpR, hfR, if_pos (.inr (by omega))]
      split
      · rfl
      · rw [if_neg (by omega), if_neg (by omega), hcl, if_neg h32.1, if_pos h32.2]
        congr 1; omega
theorem readR_rr {l : List UInt8} (hl : l.length ≤ 400) : readR l = readRR l := by
  unfold readR readRR
  rw [if_neg (by omega)]
  split
  · rfl
  · by_cases h2 : l.take 2 = [91, 93]
    · by_cases h3 : l = [91, 93]
      · rw [if_pos h3, if_pos h2, if_neg (by rw [h3]; simp)]
      · have hlen : 2 < l.length := by
          have h4 := congrArg List.length h2
          rw [List.length_take] at h4
          have h5 : ¬ l.length = 2 := fun h5 => h3 (by rw [← List.take_of_length_le (by omega : l.length ≤ 2)]; exact h2)
          simp at h4; omega
        rw [if_neg h3, if_pos h2, if_pos h2, if_pos hlen]
    · have h3 : l ≠ [91, 93] := fun h => h2 (by rw [h]; rfl)
      rw [if_neg h3, if_neg h2, if_neg h2]
      have hne : l ≠ [] := fun h => by subst h; simp at *
      have := List.length_pos_iff.2 hne
      exact rdF_rr l _ _ _ (by omega) (by simp; omega)
end Go.Proofs.YtanchgkiomfhhaaDoor.Fw

/- The row laws' own helpers: an answer that is fixed, rows that are too long, a row in both, one number in both, rows in both. -/
namespace Go.Proofs.YtanchgkiomfhhaaDoor.Fw
set_option linter.unusedSimpArgs false
set_option linter.unusedVariables false
open Go Go.Proofs.YtanchgkiomfhhaaDoor.Ma
set_option maxRecDepth 20000

theorem repL2 {a : AV} : repA [a] 2 = [a, a] := by simp [repA, List.range, List.range.loop]
theorem live4_t : rowT [4, -2] = [91, 52, 32, 45, 50, 93] := by simp [rowT, joinT, iText, decT, dec, digs, chr]
theorem live4_fn : PFn Tryd.prog 32 [] (.bool true) := by
  intro H Q hq
  obtain ⟨L1, e1, of1⟩ : ∃ L1, L1 = RowA [1, 2] false ∧ PFn Tryd.prog 54 [.seq 2 [.int .i64 ((1 : Nat) : Int), .int .i64 ((2 : Nat) : Int)] true] L1 := ⟨_, rfl, rowof_fn (l := [1, 2]) (by simp) (by simp)⟩
  obtain ⟨L2, e2, of2⟩ : ∃ L2, L2 = RowA [3, -4] false ∧ PFn Tryd.prog 54 [.seq 2 [.int .i64 ((3 : Nat) : Int), .int .i64 (-4)] true] L2 := ⟨_, rfl, rowof_fn (l := [3, -4]) (by simp) (by simp)⟩
  have b1 : RB4 2 [1, 2] := ⟨fun z h => Bd.i64 (by simp at h; omega), by simp⟩
  have b2 : RB4 2 [3, -4] := ⟨fun z h => Bd.i64 (by simp at h; omega), by simp⟩
  have b3 : RB4 2 [4, -2] := ⟨fun z h => Bd.i64 (by simp at h; omega), by simp⟩
  obtain ⟨L3, e3, add⟩ : ∃ L3, L3 = RowA [4, -2] false ∧ PFn Tryd.prog 37 [L1, L2] (.tup [L3, .int .i64 ((0 : Nat) : Int)]) := ⟨_, rfl, by
    rw [e1, e2]
    exact PFn.frozen1 fun H Q hq => rowadd_run b1 b2 (by omega) rfl (by simp) hq⟩
  have tx := rowt_fn (t := false) b3 (by omega) (by simp)
  rw [← e3, live4_t] at tx
  have s1 : AV.str ⟨#[91, 52, 32, 45, 50, 93]⟩ = Sx [91, 52, 32, 45, 50, 93] := rfl
  refine enter32 (by simp) ?_
  simp (disch := first | assumption | (apply Ap.symm; assumption) | omega | decide | (simp only [Xd] <;> omega)) only [ac32, repL2, ↓Xa, Xb, Xc, ↓reduceIte, Nat.reduceLT, Nat.reduceEqDiff, Nat.reduceBEq, Nat.reduceLeDiff, Nat.reduceAdd, Nat.reduceMul]
  refine of1.call ?_
  simp (disch := first | assumption | (apply Ap.symm; assumption) | omega | decide | (simp only [Xd] <;> omega)) only [repL2, ↓Xa, Xb, Xc, ↓reduceIte, Nat.reduceLT, Nat.reduceEqDiff, Nat.reduceBEq, Nat.reduceLeDiff, Nat.reduceAdd, Nat.reduceMul]
  refine of2.call ?_
  simp (disch := first | assumption | (apply Ap.symm; assumption) | omega | decide | (simp only [Xd] <;> omega)) only [↓Xa, Xb, Xc, ↓reduceIte, Nat.reduceLT, Nat.reduceEqDiff, Nat.reduceBEq, Nat.reduceLeDiff, Nat.reduceAdd, Nat.reduceMul]
  refine add.call ?_
  simp (disch := first | assumption | (apply Ap.symm; assumption) | omega | decide | (simp only [Xd] <;> omega)) only [eql_self, ↓Xa, Xb, Xc, ↓reduceIte, Nat.reduceLT, Nat.reduceEqDiff, Nat.reduceBEq, Nat.reduceLeDiff, Nat.reduceAdd, Nat.reduceMul]
  refine tx.call ?_
  simp (disch := first | assumption | (apply Ap.symm; assumption) | omega | decide | (simp only [Xd] <;> omega)) only [s1, eql_Sx, rs32, ↓Xa, Xb, Xc, ↓reduceIte, Nat.reduceLT, Nat.reduceEqDiff, Nat.reduceBEq, Nat.reduceLeDiff, Nat.reduceAdd, Nat.reduceMul]
  exact SetR.now hq

/-! ### too long -/
def sumN : List Nat → Nat
  | [] => 0
  | a :: l => a + sumN l
section
variable {K : AV → Prop} {H : AHeap} {k : IntKind} {t : Bool} {l : List NumV} {i : Nat}
end
def numT (l : List NumV) : Nat := l.length + sumN (l.map fun q => q.2.1.length)
abbrev rowN (x : List NumV × Bool) : AV := .seq x.1.length (NumsC x.1) x.2
end Go.Proofs.YtanchgkiomfhhaaDoor.Fw

/- Rows read: a row's text is read as it; what is read has its text. -/
namespace Go.Proofs.YtanchgkiomfhhaaDoor.Fw
set_option linter.unusedSimpArgs false
set_option linter.unusedVariables false
open Go Go.Proofs.YtanchgkiomfhhaaDoor.Ma

theorem rdF_ok (l : List UInt8) : ∀ f a out zs, a ≤ l.length → rdF l f a out = .ok zs → ∃ r, r ≠ [] ∧ zs = out ++ r ∧ l.drop a = joinT (r.map iText) ++ [93] ∧ ∀ z, z ∈ r → z.natAbs < 10 ^ l.length
  | 0, _, _, _, _, h => by simp [rdF] at h
  | f + 1, a, out, zs, ha, h => by
    unfold rdF at h
    have hp := posP_at (segP l a)
    have hle : (segP l a).length ≤ l.length - a := tw_le l a
    split at h
    · cases h
    · rename_i h1
      have hpe : posP (segP l a) = (segP l a).length := by have := hp.2.1; omega
      rw [hpe] at hp h1
      have hne : (segP l a).length ≠ iFrom (segP l a) := fun e => h1 (.inl e)
      have htx := iText_iVal hp hne
      have hb : (iVal (segP l a)).natAbs < 10 ^ l.length := by
        unfold iVal
        rw [sg_abs]
        refine Nat.lt_of_lt_of_le (decV_lt fun b hb => ((isAt_good hp hne).2.1 b hb).2) (Nat.pow_le_pow_right (by omega) (by simp; omega))
      have hsplit : l.drop a = segP l a ++ l.drop (a + (segP l a).length) := by
        have e := tw_eq (p := isNC) l a
        conv => lhs; rw [← List.take_append_drop ((segP l a).length) (l.drop a)]
        rw [List.drop_drop]
        congr 1
        exact e.symm
      split at h
      · cases h
      · split at h
        · cases h
        · rename_i h3
          have hlt : a + (segP l a).length < l.length := by omega
          have hdc : l.drop (a + (segP l a).length) = l.getD (a + (segP l a).length) 0 :: l.drop (a + (segP l a).length + 1) := by
            rw [List.drop_eq_getElem_cons hlt, List.getD_eq_getElem?_getD, List.getElem?_eq_getElem hlt, Option.getD_some]
          split at h
          · rename_i h4
            obtain ⟨r, r1, r2, r3, r4⟩ := rdF_ok l f _ _ zs (by omega) h
            refine ⟨iVal (segP l a) :: r, by simp, by rw [r2]; simp, ?_, fun z hz => ?_⟩
            · have hc : l.getD (a + (segP l a).length) 0 = 32 := UInt8.toNat_inj.1 h4
              rw [hsplit, hdc, hc, r3]
              cases r with
              | nil => exact absurd rfl r1
              | cons y r => simp [joinT, htx]
            · rcases List.mem_cons.1 hz with rfl | hz
              · exact hb
              · exact r4 z hz
          · split at h
            · cases h
            · split at h
              · cases h
              · rename_i h4 h5 h6
                injection h with h
                refine ⟨[iVal (segP l a)], by simp, h.symm, ?_, fun z hz => by rw [List.mem_singleton.1 hz]; exact hb⟩
                have hc : l.getD (a + (segP l a).length) 0 = 93 := UInt8.toNat_inj.1 (by
                  have : (l.getD (a + (segP l a).length) 0).toNat = 93 := Classical.not_not.1 h5
                  rw [this]; rfl)
                rw [hsplit, hdc, hc, List.drop_eq_nil_of_le (by omega)]
                simp [joinT, htx]
theorem readR_ok {l : List UInt8} {zs : List Int} (h : readR l = .ok zs) : l = rowT zs ∧ ∀ z, z ∈ zs → z.natAbs < 10 ^ l.length := by
  unfold readR at h
  split at h
  · cases h
  · split at h
    · cases h
    · rename_i h1
      split at h
      · rename_i h2
        injection h with h
        subst h
        exact ⟨h2, fun z hz => by simp at hz⟩
      · split at h
        · cases h
        · have h91 : l.getD 0 0 = 91 := UInt8.toNat_inj.1 (by
            have : (l.getD 0 0).toNat = 91 := Classical.not_not.1 h1
            rw [this]; rfl)
          cases l with
          | nil => simp at h91
          | cons c l =>
            have hc : c = 91 := h91
            subst hc
            obtain ⟨r, _, r2, r3, r4⟩ := rdF_ok _ _ 1 [] zs (by simp) h
            rw [List.nil_append] at r2
            subst r2
            exact ⟨by unfold rowT; rw [List.cons_append, ← r3]; rfl, r4⟩
end Go.Proofs.YtanchgkiomfhhaaDoor.Fw

/- The row laws' own helpers: a row in both, one number in both, rows in both; the law that holds rows against each other. -/
namespace Go.Proofs.YtanchgkiomfhhaaDoor.Fw
set_option linter.unusedSimpArgs false
set_option linter.unusedVariables false
open Go Go.Proofs.YtanchgkiomfhhaaDoor.Ma
set_option maxRecDepth 20000

def numZ (q : NumV) : Int := sg q.1 (val 4294967296 q.2.1)
def rowZ (l : List NumV) : List Int := l.map numZ
theorem cellR {z : Int} : [RefB z, RefD z].all AV.cell = true := rfl
theorem cells_RefT {z : Int} {t : Bool} : (RefA z t).cells = some [RefB z, LS (digs 65536 z.natAbs) t] := id rfl
theorem fold_RefT {z : Int} {t : Bool} : AV.agg [RefB z, LS (digs 65536 z.natAbs) t] = RefA z t := id rfl
theorem samet_fn {x y : Int} {k k' : Nat} (t : Bool) (hx : Bd k x) (hk : k ≤ 1000000) (hy : Bd k' y) (hk' : k' ≤ 1000000) : PFn Tryd.prog 147 [RefA x false, RefA y t] (.bool (decide (x = y))) := by
  intro H Q hq
  refine enter147 (by simp) ?_
  simp (disch := first | assumption | (apply Ap.symm; assumption) | omega | decide | (simp only [Xd] <;> omega)) only [ac147, cells_RefA, ↓Xa, Xb, Xc, ↓reduceIte, Nat.reduceLT, Nat.reduceEqDiff, Nat.reduceBEq, Nat.reduceLeDiff, Nat.reduceAdd, Nat.reduceMul]
  refine alloc_i fun p1 hp1 => ?_
  have n1 := hp1
  simp (disch := first | assumption | (apply Ap.symm; assumption) | omega | decide | (simp only [Xd] <;> omega)) only [cells_RefA, cells_RefT, fold_RefA, ↓Xa, Xb, Xc, ↓reduceIte, Nat.reduceLT, Nat.reduceEqDiff, Nat.reduceBEq, Nat.reduceLeDiff, Nat.reduceAdd, Nat.reduceMul]
  refine alloc_i fun p2 hp2 => ?_
  have n2 := hp2
  simp only [upd_none] at n2
  obtain ⟨_, n2⟩ := n2
  simp (disch := first | assumption | (apply Ap.symm; assumption) | omega | decide | (simp only [Xd] <;> omega)) only [cells_RefA, fold_RefA, fold_RefT, ↓Xa, Xb, Xc, ↓reduceIte, Nat.reduceLT, Nat.reduceEqDiff, Nat.reduceBEq, Nat.reduceLeDiff, Nat.reduceAdd, Nat.reduceMul]
  refine (rcmp_fn false t hx (by omega) hy (by omega)).call ?_
  simp (disch := first | assumption | (apply Ap.symm; assumption) | omega | decide | (simp only [Xd] <;> omega)) only [cmp_eql0, rs147, ↓Xa, Xb, Xc, ↓reduceIte, Nat.reduceLT, Nat.reduceEqDiff, Nat.reduceBEq, Nat.reduceLeDiff, Nat.reduceAdd, Nat.reduceMul]
  exact SetR.dropTo (((Le.refl H).updB n1).updB n2) (SetR.now hq)
theorem one4_fn {x : Int} {k : Nat} (t : Bool) (hx : Bd k x) (hk : k ≤ 1000000) : PFn Tryd.prog 50 [IntA x, RefA x t] (.bool true) := by
  intro H Q hq
  have hl := hx.len
  have ex : sg (decide (x < 0)) (val 4294967296 (digs 4294967296 x.natAbs)) = x := by rw [val_digs (by omega), sg_self]
  have mk := rmake_fn (decide (x < 0)) false (lim_digs (B := 4294967296) (by omega) x.natAbs) (by omega)
  rw [ex] at mk
  have e2 : decide (sgnI x = sgnI x) = true := decide_eq_true rfl
  refine enter50 (by simp) ?_
  simp (disch := first | assumption | (apply Ap.symm; assumption) | omega | decide | (simp only [Xd] <;> omega)) only [ac50, cells_IntA, ↓Xa, Xb, Xc, ↓reduceIte, Nat.reduceLT, Nat.reduceEqDiff, Nat.reduceBEq, Nat.reduceLeDiff, Nat.reduceAdd, Nat.reduceMul]
  refine alloc_i fun p1 hp1 => ?_
  have n1 := hp1
  simp (disch := first | assumption | (apply Ap.symm; assumption) | omega | decide | (simp only [Xd] <;> omega)) only [cells_RefT, ↓Xa, Xb, Xc, ↓reduceIte, Nat.reduceLT, Nat.reduceEqDiff, Nat.reduceBEq, Nat.reduceLeDiff, Nat.reduceAdd, Nat.reduceMul]
  refine alloc_i fun p2 hp2 => ?_
  have n2 := hp2
  simp only [upd_none] at n2
  obtain ⟨_, n2⟩ := n2
  simp (disch := first | assumption | (apply Ap.symm; assumption) | omega | decide | (simp only [Xd] <;> omega)) only [fold_IntA, ↓Xa, Xb, Xc, ↓reduceIte, Nat.reduceLT, Nat.reduceEqDiff, Nat.reduceBEq, Nat.reduceLeDiff, Nat.reduceAdd, Nat.reduceMul]
  refine (limbs_fn hx (by omega)).call ?_
  simp (disch := first | assumption | (apply Ap.symm; assumption) | omega | decide | (simp only [Xd] <;> omega)) only [fold_IntA, fold_RefT, ↓Xa, Xb, Xc, ↓reduceIte, Nat.reduceLT, Nat.reduceEqDiff, Nat.reduceBEq, Nat.reduceLeDiff, Nat.reduceAdd, Nat.reduceMul]
  refine PFn.dcall mk ?_
  simp (disch := first | assumption | (apply Ap.symm; assumption) | omega | decide | (simp only [Xd] <;> omega)) only [fold_IntA, fold_RefT, ↓Xa, Xb, Xc, ↓reduceIte, Nat.reduceLT, Nat.reduceEqDiff, Nat.reduceBEq, Nat.reduceLeDiff, Nat.reduceAdd, Nat.reduceMul]
  refine PFn.dcall (samet_fn t hx hk hx hk) ?_
  simp (disch := first | assumption | (apply Ap.symm; assumption) | omega | decide | (simp only [Xd] <;> omega)) only [decide_true, fold_IntA, fold_RefT, ↓Xa, Xb, Xc, ↓reduceIte, Nat.reduceLT, Nat.reduceEqDiff, Nat.reduceBEq, Nat.reduceLeDiff, Nat.reduceAdd, Nat.reduceMul]
  refine PFn.dcall (sign_fn hx (by omega)) ?_
  simp (disch := first | assumption | (apply Ap.symm; assumption) | omega | decide | (simp only [Xd] <;> omega)) only [fold_IntA, fold_RefT, ↓Xa, Xb, Xc, ↓reduceIte, Nat.reduceLT, Nat.reduceEqDiff, Nat.reduceBEq, Nat.reduceLeDiff, Nat.reduceAdd, Nat.reduceMul]
  refine (rsign_fn t hx (by omega)).call ?_
  simp (disch := first | assumption | (apply Ap.symm; assumption) | omega | decide | (simp only [Xd] <;> omega)) only [eql_int, e2, rs50, ↓Xa, Xb, Xc, ↓reduceIte, Nat.reduceLT, Nat.reduceEqDiff, Nat.reduceBEq, Nat.reduceLeDiff, Nat.reduceAdd, Nat.reduceMul]
  exact SetR.dropTo (((Le.refl H).updB n1).updB n2) (SetR.now hq)
theorem is4_fn {zs : List Int} {k : Nat} {t t' : Bool} (hz : RB4 k zs) (hk : k ≤ 1000000) : PFn Tryd.prog 43 [RowA zs t, RefR zs t'] (.bool true) := by
  intro H Q hq
  have nz : zs.length < 9223372036854775808 := by have := hz.2; omega
  have hne : decide (((zs.length : Nat) : Int) = ((zs.length : Nat) : Int)) = true := decide_eq_true rfl
  refine enter43 (by simp) ?_
  simp (disch := first | assumption | (apply Ap.symm; assumption) | omega | decide | (simp only [Xd] <;> omega)) only [ac43, len_rw, neq_int, hne, ↓Xa, Xb, Xc, ↓reduceIte, Nat.reduceLT, Nat.reduceEqDiff, Nat.reduceBEq, Nat.reduceLeDiff, Nat.reduceAdd, Nat.reduceMul]
  refine W_loop (fun s : Nat => ⟨[], [(0, RowA zs t), (1, RefR zs t'), (5, .int .i64 s)], H⟩) (fun s => s ≤ zs.length) (fun s => zs.length - s) 0 (Settle.now rfl) (Nat.zero_le _) ?_
  rintro i h3
  by_cases hi : i < zs.length
  · simp (disch := first | assumption | (apply Ap.symm; assumption) | omega | decide | (simp only [Xd] <;> omega)) only [hi, len_rw, idx_IC, load_IC, idx_RC, load_RC, ↓Xa, Xb, Xc, ↓reduceIte, Nat.reduceLT, Nat.reduceEqDiff, Nat.reduceBEq, Nat.reduceLeDiff, Nat.reduceAdd, Nat.reduceMul]
    refine (one4_fn false (hz.at hi) hk).call ?_
    simp (disch := first | assumption | (apply Ap.symm; assumption) | omega | decide | (simp only [Xd] <;> omega)) only [↓Xa, Xb, Xc, ↓reduceIte, Nat.reduceLT, Nat.reduceEqDiff, Nat.reduceBEq, Nat.reduceLeDiff, Nat.reduceAdd, Nat.reduceMul]
    exact Settle.now ⟨i + 1, by omega, by omega, rfl⟩
  · simp (disch := first | assumption | (apply Ap.symm; assumption) | omega | decide | (simp only [Xd] <;> omega)) only [hi, len_rw, ↓Xa, Xb, Xc, ↓reduceIte, Nat.reduceLT, Nat.reduceEqDiff, Nat.reduceBEq, Nat.reduceLeDiff, Nat.reduceAdd, Nat.reduceMul]
    refine Settle.now ?_
    simp (disch := first | assumption | (apply Ap.symm; assumption) | omega | decide | (simp only [Xd] <;> omega)) only [rs43, ↓Xa, Xb, Xc, ↓reduceIte, Nat.reduceLT, Nat.reduceEqDiff, Nat.reduceBEq, Nat.reduceLeDiff, Nat.reduceAdd, Nat.reduceMul]
    exact SetR.now hq
end Go.Proofs.YtanchgkiomfhhaaDoor.Fw

/- Rows of whole numbers read of a text: what the reference answers. -/
namespace Go.Proofs.YtanchgkiomfhhaaDoor.Fw
set_option linter.unusedSimpArgs false
set_option linter.unusedVariables false
open Go Go.Proofs.YtanchgkiomfhhaaDoor.Ma
set_option maxRecDepth 20000

def rrA : Res → AV
  | .ok zs => .tup [RefR zs false, .int .i64 (-1)]
  | .bad n => .tup [.seq 0 [] true, .int .i64 (n : Int)]
  | .long n => .tup [.seq 0 [] true, .int .i64 (n : Int)]
theorem geq_int' {k : IntKind} {n m : Int} {K : AV → Prop} : binW .geq (.int k n) (.int k m) K ↔ K (.bool (decide (m ≤ n))) := by simp [binW, binInt]
theorem take2_eq {l : List UInt8} (h0 : (l.getD 0 0).toNat = 91) : l.take 2 = [91, 93] ↔ 1 < l.length ∧ (l.getD 1 0).toNat = 93 := by
  match l, h0 with
  | [], h0 => exact absurd h0 (by decide)
  | [c], _ => simp
  | c :: d :: r, h0 =>
    have hc : c = 91 := UInt8.toNat_inj.1 h0
    subst hc
    have e : ((91 : UInt8) :: d :: r).getD 1 0 = d := rfl
    rw [e]
    simp only [List.take_succ_cons, List.take_zero, List.cons.injEq, and_true, true_and, List.length_cons]
    exact ⟨fun h => ⟨by omega, by rw [h]; rfl⟩, fun h => UInt8.toNat_inj.1 h.2⟩
set_option maxHeartbeats 1000000 in
theorem rrread4_fn {l : List UInt8} (hl : l.length ≤ 65536) : PFn Tryd.prog 91 [Sx l] (rrA (readRR l)) := by
  intro H Q hq
  refine enter91 (by simp) ?_
  have hl0 : l.length = 0 ↔ l = [] := List.length_eq_zero_iff
  by_cases h91 : (l.getD 0 0).toNat ≠ 91
  · have e : readRR l = .bad 0 := by unfold readRR; rw [if_pos h91]
    rw [e] at hq
    by_cases hn : l.length = 0
    · simp (disch := first | assumption | (apply Ap.symm; assumption) | omega | decide | (simp only [Xd] <;> omega)) only [ac91, len_Sx, hn, rs91, ↓Xa, Xb, Xc, ↓reduceIte, Nat.reduceLT, Nat.reduceEqDiff, Nat.reduceBEq, Nat.reduceLeDiff, Nat.reduceAdd, Nat.reduceMul]
      exact SetR.now hq
    · have hp : 0 < l.length := by omega
      have d1 : decide (((((l.getD 0 0).toNat : Nat) : Int)) = ((91 : Nat) : Int)) = false := decide_eq_false (by omega)
      simp (disch := first | assumption | (apply Ap.symm; assumption) | omega | decide | (simp only [Xd] <;> omega)) only [ac91, len_Sx, hn, hp, idx_Sx, neq_int, d1, rs91, ↓Xa, Xb, Xc, ↓reduceIte, Nat.reduceLT, Nat.reduceEqDiff, Nat.reduceBEq, Nat.reduceLeDiff, Nat.reduceAdd, Nat.reduceMul]
      exact SetR.now hq
  have h91' : (l.getD 0 0).toNat = 91 := Classical.not_not.1 h91
  have hne : l ≠ [] := fun h => by subst h; exact absurd h91' (by decide)
  have hp : 0 < l.length := List.length_pos_iff.2 hne
  have hn : ¬ l.length = 0 := by omega
  have d1 : decide (((((l.getD 0 0).toNat : Nat) : Int)) = ((91 : Nat) : Int)) = true := decide_eq_true (by omega)
  have ht2 := take2_eq h91'
  by_cases h2 : 1 < l.length ∧ (l.getD 1 0).toNat = 93
  · obtain ⟨h3, h4⟩ := h2
    have hr : readRR l = if 2 < l.length then .bad 2 else .ok [] := by unfold readRR; rw [if_neg h91, if_pos (ht2.2 ⟨h3, h4⟩)]
    rw [hr] at hq
    have d2 : decide (((((l.getD 1 0).toNat : Nat) : Int)) = ((93 : Nat) : Int)) = true := decide_eq_true (by omega)
    by_cases h5 : 2 < l.length
    · rw [if_pos h5] at hq
      simp (disch := first | assumption | (apply Ap.symm; assumption) | omega | decide | (simp only [Xd] <;> omega)) only [ac91, len_Sx, hn, hp, h3, h5, idx_Sx, neq_int, d1, h4, decide_true, rs91, ↓Xa, Xb, Xc, ↓reduceIte, Nat.reduceLT, Nat.reduceEqDiff, Nat.reduceBEq, Nat.reduceLeDiff, Nat.reduceAdd, Nat.reduceMul]
      exact SetR.now hq
    · rw [if_neg h5] at hq
      have r0 : repA [.bool false, .seq 0 [] true] 0 = [] := rfl
      simp (disch := first | assumption | (apply Ap.symm; assumption) | omega | decide | (simp only [Xd] <;> omega)) only [ac91, len_Sx, hn, hp, h3, h5, idx_Sx, neq_int, d1, h4, decide_true, r0, rs91, ↓Xa, Xb, Xc, ↓reduceIte, Nat.reduceLT, Nat.reduceEqDiff, Nat.reduceBEq, Nat.reduceLeDiff, Nat.reduceAdd, Nat.reduceMul]
      exact SetR.loose (SetR.now hq)
  have hr : readRR l = rrF l (l.length + 1) 1 [] := by unfold readRR; rw [if_neg h91, if_neg fun h => h2 (ht2.1 h)]
  obtain ⟨R, hRd⟩ : ∃ R, R = rrF l (l.length + 1) 1 [] := ⟨_, rfl⟩
  rw [hr, ← hRd] at hq
  -- the loop
  have loop : ∀ {E : Env}, E = [(0, Sx l), (4, .seq 0 [] true), (5, .int .i64 ((1 : Nat) : Int))] → W Tryd.prog (sndC (sndC (sndC (sndC (sndC ac91))))) (retN rs91 Q) ⟨[], E, H⟩ := by
    intro E hE
    subst hE
    simp (disch := first | assumption | (apply Ap.symm; assumption) | omega | decide | (simp only [Xd] <;> omega)) only [sndC, ac91, ↓Xa, Xb, Xc, ↓reduceIte, Nat.reduceLT, Nat.reduceEqDiff, Nat.reduceBEq, Nat.reduceLeDiff, Nat.reduceAdd, Nat.reduceMul]
    refine W_loop (fun s : Nat × Nat × List Int × AV × AHeap => ⟨[], [(0, Sx l), (4, s.2.2.2.1), (5, .int .i64 (s.2.1 : Int))], s.2.2.2.2⟩)
      (fun s => s.2.1 ≤ l.length ∧ l.length + 1 ≤ s.1 + s.2.1 ∧ s.2.2.1.length ≤ s.2.1 ∧ rrF l s.1 s.2.1 s.2.2.1 = R ∧ growC H 39 2 s.2.2.1.length (RC s.2.2.1) s.2.2.2.1 s.2.2.2.2) (fun s => s.1) (l.length + 1, 1, [], .seq 0 [] true, H) (Settle.now rfl) ⟨by dsimp only; omega, by dsimp only; omega, by simp, hRd.symm, growC_nil⟩ ?_
    rintro ⟨f, a, out, y, M⟩ ⟨ha, hf, ho, hR, hg⟩
    dsimp only at ha hf ho hR hg ⊢
    obtain ⟨f, rfl⟩ : ∃ f', f = f' + 1 := ⟨f - 1, by omega⟩
    have hle : (segR l a).length ≤ l.length - a := tw_le l a
    have hlH : Le H M := growC_le hg
    simp (disch := first | assumption | (apply Ap.symm; assumption) | omega | decide | (simp only [Xd] <;> omega)) only [↓Xa, Xb, Xc, ↓reduceIte, Nat.reduceLT, Nat.reduceEqDiff, Nat.reduceBEq, Nat.reduceLeDiff, Nat.reduceAdd, Nat.reduceMul]
    refine W_loop (fun s : Nat => ⟨[], [(0, Sx l), (4, y), (5, .int .i64 (a : Int)), (6, .int .i64 s)], M⟩) (fun s => a ≤ s ∧ s ≤ a + (segR l a).length) (fun s => a + (segR l a).length - s) a (Settle.now rfl) ⟨Nat.le_refl _, by omega⟩ ?_
    rintro j ⟨j1, j2⟩
    by_cases hj : j < a + (segR l a).length
    · have hjl : j < l.length := by omega
      have hne2 := of_decide_eq_true (tw_get (p := isNE) j1 hj)
      have e1 : decide (((((l.getD j 0).toNat : Nat) : Int)) = ((32 : Nat) : Int)) = false := decide_eq_false (by omega)
      have e2 : decide (((((l.getD j 0).toNat : Nat) : Int)) = ((93 : Nat) : Int)) = false := decide_eq_false (by omega)
      simp (disch := first | assumption | (apply Ap.symm; assumption) | omega | decide | (simp only [Xd] <;> omega)) only [len_Sx, hjl, idx_Sx, neq_int, e1, e2, ↓Xa, Xb, Xc, ↓reduceIte, Nat.reduceLT, Nat.reduceEqDiff, Nat.reduceBEq, Nat.reduceLeDiff, Nat.reduceAdd, Nat.reduceMul]
      exact Settle.now ⟨j + 1, by omega, ⟨by omega, by omega⟩, rfl⟩
    obtain rfl : j = a + (segR l a).length := by omega
    have hend : (a + (segR l a).length < l.length → (l.getD (a + (segR l a).length) 0).toNat = 32 ∨ (l.getD (a + (segR l a).length) 0).toNat = 93) := fun h => by
      have := of_decide_eq_false (tw_end (p := isNE) (l := l) (a := a) h)
      have e5 : ((l.drop a).takeWhile isNE).length = (segR l a).length := rfl
      rw [e5] at this; omega
    have hseg : (l.drop a).take (a + (segR l a).length - a) = segR l a := by
      rw [Nat.add_sub_cancel_left]; exact (tw_eq (p := isNE) l a).symm
    have hrd := rread_fn (posP_at (segR l a)) (by omega)
    have hpl := (posP_at (segR l a)).2.1
    have hwr : IntKind.i64.wrap ((a + posP (segR l a) : Nat) : Int) = ((a + posP (segR l a) : Nat) : Int) := wn_i64 (by omega)
    unfold rReadA at hrd
    unfold rrF at hR
    -- the scan is over
    have done : W Tryd.prog (fstC (hold .skip)) (fun _ _ => True) ⟨[], [], H⟩ ∨ True := .inr trivial
    clear done
    by_cases hjl : a + (segR l a).length < l.length
    · have hc := hend hjl
      have step : ∀ (K : Prop), K → K := fun _ h => h
      rcases hc with hc | hc
      · have e1 : decide (((((l.getD (a + (segR l a).length) 0).toNat : Nat) : Int)) = ((32 : Nat) : Int)) = true := decide_eq_true (by omega)
        simp (disch := first | assumption | (apply Ap.symm; assumption) | omega | decide | (simp only [Xd] <;> omega)) only [len_Sx, hjl, idx_Sx, neq_int, e1, ↓Xa, Xb, Xc, ↓reduceIte, Nat.reduceLT, Nat.reduceEqDiff, Nat.reduceBEq, Nat.reduceLeDiff, Nat.reduceAdd, Nat.reduceMul]
        refine Settle.now ?_
        simp (disch := first | assumption | (apply Ap.symm; assumption) | omega | decide | (simp only [Xd] <;> omega)) only [slc_Sx, hseg, ↓Xa, Xb, Xc, ↓reduceIte, Nat.reduceLT, Nat.reduceEqDiff, Nat.reduceBEq, Nat.reduceLeDiff, Nat.reduceAdd, Nat.reduceMul]
        refine hrd.call ?_
        by_cases hb : posP (segR l a) = iFrom (segR l a) ∨ posP (segR l a) < (segR l a).length
        · rw [if_pos hb]
          rw [if_pos hb] at hR
          rw [← hR] at hq
          have e3 : decide (((0 : Nat) : Int) ≤ ((posP (segR l a) : Nat) : Int)) = true := decide_eq_true (by omega)
          simp (disch := first | assumption | (apply Ap.symm; assumption) | omega | decide | (simp only [Xd] <;> omega)) only [↓Xa, Xb, Xc, ↓reduceIte, Nat.reduceLT, Nat.reduceEqDiff, Nat.reduceBEq, Nat.reduceLeDiff, Nat.reduceAdd, Nat.reduceMul]
          refine alloc_i fun q hq1 => ?_
          simp (disch := first | assumption | (apply Ap.symm; assumption) | omega | decide | (simp only [Xd] <;> omega)) only [cells_RefT, geq_int', e3, hwr, rs91, ↓Xa, Xb, Xc, ↓reduceIte, Nat.reduceLT, Nat.reduceEqDiff, Nat.reduceBEq, Nat.reduceLeDiff, Nat.reduceAdd, Nat.reduceMul]
          exact SetR.dropTo (hlH.upd hq1) (SetR.now hq)
        · rw [if_neg hb]
          have e3 : decide (((0 : Nat) : Int) ≤ (-1 : Int)) = false := by decide
          rw [if_neg hb, if_neg (by omega), if_neg (by omega)] at hR
          have hg1 := fun q (hq1 : M q = none) => growC_upd (r := .row 39 0 [RefB (iVal (segR l a)), RefD (iVal (segR l a))]) hg hq1
          have hnl : ¬ a + (segR l a).length = l.length := by omega
          have h93 : ¬ (l.getD (a + (segR l a).length) 0).toNat = 93 := by omega
          simp (disch := first | assumption | (apply Ap.symm; assumption) | omega | decide | (simp only [Xd] <;> omega)) only [↓Xa, Xb, Xc, ↓reduceIte, Nat.reduceLT, Nat.reduceEqDiff, Nat.reduceBEq, Nat.reduceLeDiff, Nat.reduceAdd, Nat.reduceMul]
          refine alloc_i fun q hq1 => ?_
          simp (disch := first | assumption | (apply Ap.symm; assumption) | omega | decide | (simp only [Xd] <;> omega)) only [cells_RefA, geq_int', e3, fold_RefA, repI1, ↓Xa, Xb, Xc, ↓reduceIte, Nat.reduceLT, Nat.reduceEqDiff, Nat.reduceBEq, Nat.reduceLeDiff, Nat.reduceAdd, Nat.reduceMul]
          refine app_C (m := 1) (hg1 q hq1) rfl cellR (by omega) (by omega) (by omega) fun y' M2 hg2 => ?_
          rw [← RC_snoc] at hg2
          obtain ⟨M3, hg3, hl3⟩ := growC_le2 hg2 ((Le.refl H).updB (hlH.none hq1))
          simp (disch := first | assumption | (apply Ap.symm; assumption) | omega | decide | (simp only [Xd] <;> omega)) only [len_Sx, hjl, idx_Sx, hnl, h93, ↓Xa, Xb, Xc, ↓reduceIte, Nat.reduceLT, Nat.reduceEqDiff, Nat.reduceBEq, Nat.reduceLeDiff, Nat.reduceAdd, Nat.reduceMul]
          refine Settle.dropTo hl3 (Settle.keep [0, 4, 5] ⟨(f, a + (segR l a).length + 1, out ++ [iVal (segR l a)], y', M3), by dsimp only; omega, ⟨by dsimp only; omega, by dsimp only; omega, by simp; omega, hR, by dsimp only; rw [List.length_append]; exact hg3⟩, rfl⟩)
      · have e1 : decide (((((l.getD (a + (segR l a).length) 0).toNat : Nat) : Int)) = ((32 : Nat) : Int)) = false := decide_eq_false (by omega)
        have e2 : decide (((((l.getD (a + (segR l a).length) 0).toNat : Nat) : Int)) = ((93 : Nat) : Int)) = true := decide_eq_true (by omega)
        simp (disch := first | assumption | (apply Ap.symm; assumption) | omega | decide | (simp only [Xd] <;> omega)) only [len_Sx, hjl, idx_Sx, neq_int, e1, e2, ↓Xa, Xb, Xc, ↓reduceIte, Nat.reduceLT, Nat.reduceEqDiff, Nat.reduceBEq, Nat.reduceLeDiff, Nat.reduceAdd, Nat.reduceMul]
        refine Settle.now ?_
        simp (disch := first | assumption | (apply Ap.symm; assumption) | omega | decide | (simp only [Xd] <;> omega)) only [slc_Sx, hseg, ↓Xa, Xb, Xc, ↓reduceIte, Nat.reduceLT, Nat.reduceEqDiff, Nat.reduceBEq, Nat.reduceLeDiff, Nat.reduceAdd, Nat.reduceMul]
        refine hrd.call ?_
        by_cases hb : posP (segR l a) = iFrom (segR l a) ∨ posP (segR l a) < (segR l a).length
        · rw [if_pos hb]
          rw [if_pos hb] at hR
          rw [← hR] at hq
          have e3 : decide (((0 : Nat) : Int) ≤ ((posP (segR l a) : Nat) : Int)) = true := decide_eq_true (by omega)
          simp (disch := first | assumption | (apply Ap.symm; assumption) | omega | decide | (simp only [Xd] <;> omega)) only [↓Xa, Xb, Xc, ↓reduceIte, Nat.reduceLT, Nat.reduceEqDiff, Nat.reduceBEq, Nat.reduceLeDiff, Nat.reduceAdd, Nat.reduceMul]
          refine alloc_i fun q hq1 => ?_
          simp (disch := first | assumption | (apply Ap.symm; assumption) | omega | decide | (simp only [Xd] <;> omega)) only [cells_RefT, geq_int', e3, hwr, rs91, ↓Xa, Xb, Xc, ↓reduceIte, Nat.reduceLT, Nat.reduceEqDiff, Nat.reduceBEq, Nat.reduceLeDiff, Nat.reduceAdd, Nat.reduceMul]
          exact SetR.dropTo (hlH.upd hq1) (SetR.now hq)
        · rw [if_neg hb]
          have e3 : decide (((0 : Nat) : Int) ≤ (-1 : Int)) = false := by decide
          rw [if_neg hb, if_neg (by omega), if_pos hc] at hR
          have hg1 := fun q (hq1 : M q = none) => growC_upd (r := .row 39 0 [RefB (iVal (segR l a)), RefD (iVal (segR l a))]) hg hq1
          have hnl : ¬ a + (segR l a).length = l.length := by omega
          simp (disch := first | assumption | (apply Ap.symm; assumption) | omega | decide | (simp only [Xd] <;> omega)) only [↓Xa, Xb, Xc, ↓reduceIte, Nat.reduceLT, Nat.reduceEqDiff, Nat.reduceBEq, Nat.reduceLeDiff, Nat.reduceAdd, Nat.reduceMul]
          refine alloc_i fun q hq1 => ?_
          simp (disch := first | assumption | (apply Ap.symm; assumption) | omega | decide | (simp only [Xd] <;> omega)) only [cells_RefA, geq_int', e3, fold_RefA, repI1, ↓Xa, Xb, Xc, ↓reduceIte, Nat.reduceLT, Nat.reduceEqDiff, Nat.reduceBEq, Nat.reduceLeDiff, Nat.reduceAdd, Nat.reduceMul]
          refine app_C (m := 1) (hg1 q hq1) rfl cellR (by omega) (by omega) (by omega) fun y' M2 hg2 => ?_
          rw [← RC_snoc] at hg2
          obtain ⟨M3, hg3, hl3⟩ := growC_le2 hg2 ((Le.refl H).updB (hlH.none hq1))
          by_cases h6 : a + (segR l a).length + 1 < l.length
          · rw [if_pos h6] at hR
            rw [← hR] at hq
            simp (disch := first | assumption | (apply Ap.symm; assumption) | omega | decide | (simp only [Xd] <;> omega)) only [len_Sx, hjl, idx_Sx, hnl, hc, h6, rs91, ↓Xa, Xb, Xc, ↓reduceIte, Nat.reduceLT, Nat.reduceEqDiff, Nat.reduceBEq, Nat.reduceLeDiff, Nat.reduceAdd, Nat.reduceMul]
            exact SetR.dropTo hl3 (SetR.dropTo (growC_le hg3) (SetR.now hq))
          · rw [if_neg h6] at hR
            rw [← hR] at hq
            simp (disch := first | assumption | (apply Ap.symm; assumption) | omega | decide | (simp only [Xd] <;> omega)) only [len_Sx, hjl, idx_Sx, hnl, hc, h6, rs91, ↓Xa, Xb, Xc, ↓reduceIte, Nat.reduceLT, Nat.reduceEqDiff, Nat.reduceBEq, Nat.reduceLeDiff, Nat.reduceAdd, Nat.reduceMul]
            refine SetR.dropTo hl3 (growC_fin1 hg3 ?_)
            have hll : (out ++ [iVal (segR l a)]).length = out.length + 1 := by simp
            rw [← hll]
            exact hq
    · simp (disch := first | assumption | (apply Ap.symm; assumption) | omega | decide | (simp only [Xd] <;> omega)) only [len_Sx, hjl, ↓Xa, Xb, Xc, ↓reduceIte, Nat.reduceLT, Nat.reduceEqDiff, Nat.reduceBEq, Nat.reduceLeDiff, Nat.reduceAdd, Nat.reduceMul]
      refine Settle.now ?_
      simp (disch := first | assumption | (apply Ap.symm; assumption) | omega | decide | (simp only [Xd] <;> omega)) only [slc_Sx, hseg, ↓Xa, Xb, Xc, ↓reduceIte, Nat.reduceLT, Nat.reduceEqDiff, Nat.reduceBEq, Nat.reduceLeDiff, Nat.reduceAdd, Nat.reduceMul]
      refine hrd.call ?_
      by_cases hb : posP (segR l a) = iFrom (segR l a) ∨ posP (segR l a) < (segR l a).length
      · rw [if_pos hb]
        rw [if_pos hb] at hR
        rw [← hR] at hq
        have e3 : decide (((0 : Nat) : Int) ≤ ((posP (segR l a) : Nat) : Int)) = true := decide_eq_true (by omega)
        simp (disch := first | assumption | (apply Ap.symm; assumption) | omega | decide | (simp only [Xd] <;> omega)) only [↓Xa, Xb, Xc, ↓reduceIte, Nat.reduceLT, Nat.reduceEqDiff, Nat.reduceBEq, Nat.reduceLeDiff, Nat.reduceAdd, Nat.reduceMul]
        refine alloc_i fun q hq1 => ?_
        simp (disch := first | assumption | (apply Ap.symm; assumption) | omega | decide | (simp only [Xd] <;> omega)) only [cells_RefT, geq_int', e3, hwr, rs91, ↓Xa, Xb, Xc, ↓reduceIte, Nat.reduceLT, Nat.reduceEqDiff, Nat.reduceBEq, Nat.reduceLeDiff, Nat.reduceAdd, Nat.reduceMul]
        exact SetR.dropTo (hlH.upd hq1) (SetR.now hq)
      · rw [if_neg hb]
        have e3 : decide (((0 : Nat) : Int) ≤ (-1 : Int)) = false := by decide
        have hnl : a + (segR l a).length = l.length := by omega
        rw [if_neg hb, if_pos hnl] at hR
        rw [← hR] at hq
        have hg1 := fun q (hq1 : M q = none) => growC_upd (r := .row 39 0 [RefB (iVal (segR l a)), RefD (iVal (segR l a))]) hg hq1
        simp (disch := first | assumption | (apply Ap.symm; assumption) | omega | decide | (simp only [Xd] <;> omega)) only [↓Xa, Xb, Xc, ↓reduceIte, Nat.reduceLT, Nat.reduceEqDiff, Nat.reduceBEq, Nat.reduceLeDiff, Nat.reduceAdd, Nat.reduceMul]
        refine alloc_i fun q hq1 => ?_
        simp (disch := first | assumption | (apply Ap.symm; assumption) | omega | decide | (simp only [Xd] <;> omega)) only [cells_RefA, geq_int', e3, fold_RefA, repI1, ↓Xa, Xb, Xc, ↓reduceIte, Nat.reduceLT, Nat.reduceEqDiff, Nat.reduceBEq, Nat.reduceLeDiff, Nat.reduceAdd, Nat.reduceMul]
        refine app_C (m := 1) (hg1 q hq1) rfl cellR (by omega) (by omega) (by omega) fun y' M2 hg2 => ?_
        obtain ⟨M3, hg3, hl3⟩ := growC_le2 hg2 ((Le.refl H).updB (hlH.none hq1))
        simp (disch := first | assumption | (apply Ap.symm; assumption) | omega | decide | (simp only [Xd] <;> omega)) only [len_Sx, hnl, rs91, ↓Xa, Xb, Xc, ↓reduceIte, Nat.reduceLT, Nat.reduceEqDiff, Nat.reduceBEq, Nat.reduceLeDiff, Nat.reduceAdd, Nat.reduceMul]
        rw [hnl] at hq
        exact SetR.dropTo hl3 (SetR.dropTo (growC_le hg3) (SetR.now hq))
  have lp := loop rfl
  simp (disch := first | assumption | (apply Ap.symm; assumption) | omega | decide | (simp only [Xd] <;> omega)) only [sndC, ac91, ↓Xa, Xb, Xc, ↓reduceIte, Nat.reduceLT, Nat.reduceEqDiff, Nat.reduceBEq, Nat.reduceLeDiff, Nat.reduceAdd, Nat.reduceMul] at lp
  by_cases h1 : 1 < l.length
  · have h4 : ¬ (l.getD 1 0).toNat = 93 := fun h => h2 ⟨h1, h⟩
    simp (disch := first | assumption | (apply Ap.symm; assumption) | omega | decide | (simp only [Xd] <;> omega)) only [ac91, len_Sx, hn, hp, h1, h4, idx_Sx, neq_int, d1, ↓Xa, Xb, Xc, ↓reduceIte, Nat.reduceLT, Nat.reduceEqDiff, Nat.reduceBEq, Nat.reduceLeDiff, Nat.reduceAdd, Nat.reduceMul]
    exact lp
  · simp (disch := first | assumption | (apply Ap.symm; assumption) | omega | decide | (simp only [Xd] <;> omega)) only [ac91, len_Sx, hn, hp, h1, idx_Sx, neq_int, d1, ↓Xa, Xb, Xc, ↓reduceIte, Nat.reduceLT, Nat.reduceEqDiff, Nat.reduceBEq, Nat.reduceLeDiff, Nat.reduceAdd, Nat.reduceMul]
    exact lp
end Go.Proofs.YtanchgkiomfhhaaDoor.Fw

/- The laws of rows' texts, told and read: true. -/
namespace Go.Proofs.YtanchgkiomfhhaaDoor.Fw
set_option linter.unusedSimpArgs false
set_option linter.unusedVariables false
open Go Go.Proofs.YtanchgkiomfhhaaDoor.Ma
set_option maxRecDepth 20000

theorem rrF_nolong (l : List UInt8) : ∀ f a out n, rrF l f a out ≠ .long n
  | 0, _, _, _, h => by simp [rrF] at h
  | f + 1, a, out, n, h => by
    unfold rrF at h
    split at h
    · cases h
    · split at h
      · cases h
      · split at h
        · split at h <;> cases h
        · exact rrF_nolong l f _ _ n h
theorem readRR_nolong (l : List UInt8) (n : Nat) : readRR l ≠ .long n := fun h => by
  unfold readRR at h
  split at h
  · cases h
  · split at h
    · split at h <;> cases h
    · exact rrF_nolong l _ _ _ n h
theorem rowT_len (zs : List Int) : zs.length ≤ (rowT zs).length := by
  have : ∀ xs : List (List UInt8), xs.length ≤ (joinT xs).length + 1 := fun xs => by
    induction xs with
    | nil => simp
    | cons x r ih =>
      cases r with
      | nil => simp
      | cons y r => simp only [joinT, List.length_cons, List.length_append] at ih ⊢; omega
  have := this (zs.map iText)
  simp only [rowT, List.length_append, List.length_cons, List.length_map] at this ⊢; omega
theorem rowReads0_law (l : List UInt8) (hl : l.length < 4611686018427387904) : PFn Tryd.prog 12 [Sx l] (.bool true) := by
  intro H Q hq
  refine enter12 (by simp) ?_
  simp (disch := first | assumption | (apply Ap.symm; assumption) | omega | decide | (simp only [Xd] <;> omega)) only [ac12, ↓Xa, Xb, Xc, ↓reduceIte, Nat.reduceLT, Nat.reduceEqDiff, Nat.reduceBEq, Nat.reduceLeDiff, Nat.reduceAdd, Nat.reduceMul]
  refine live4_fn.call ?_
  by_cases h4 : 400 < l.length
  · simp (disch := first | assumption | (apply Ap.symm; assumption) | omega | decide | (simp only [Xd] <;> omega)) only [len_Sx, h4, rs12, ↓Xa, Xb, Xc, ↓reduceIte, Nat.reduceLT, Nat.reduceEqDiff, Nat.reduceBEq, Nat.reduceLeDiff, Nat.reduceAdd, Nat.reduceMul]
    exact SetR.now hq
  have hd0 : decide (((0 : Nat) : Int) = ((0 : Nat) : Int)) = true := rfl
  have hd6 : decide (((6 : Nat) : Int) = ((6 : Nat) : Int)) = true := rfl
  have n0 : (0 : Nat) < 9223372036854775808 := by omega
  have hrd := rowread_fn (l := l) hl
  have hrf := rrread4_fn (l := l) (by omega)
  rw [← readR_rr (by omega)] at hrf
  have hnl := fun n (h : readR l = .long n) => readRR_nolong l n ((readR_rr (by omega)).symm.trans h)
  have hok := fun zs (h : readR l = .ok zs) => readR_ok h
  cases hres : readR l with
  | long n => exact absurd hres (hnl n)
  | bad n =>
    rw [hres] at hrd hrf
    have e3 : decide (((0 : Nat) : Int) ≤ ((n : Nat) : Int)) = true := decide_eq_true (by omega)
    have e4 : decide (((n : Nat) : Int) = ((n : Nat) : Int)) = true := decide_eq_true rfl
    simp (disch := first | assumption | (apply Ap.symm; assumption) | omega | decide | (simp only [Xd] <;> omega)) only [len_Sx, h4, ↓Xa, Xb, Xc, ↓reduceIte, Nat.reduceLT, Nat.reduceEqDiff, Nat.reduceBEq, Nat.reduceLeDiff, Nat.reduceAdd, Nat.reduceMul]
    refine hrd.call ?_
    simp (disch := first | assumption | (apply Ap.symm; assumption) | omega | decide | (simp only [Xd] <;> omega)) only [rdA, ↓Xa, Xb, Xc, ↓reduceIte, Nat.reduceLT, Nat.reduceEqDiff, Nat.reduceBEq, Nat.reduceLeDiff, Nat.reduceAdd, Nat.reduceMul]
    refine alloc_i fun p1 hp1 => ?_
    have n1 := hp1
    simp (disch := first | assumption | (apply Ap.symm; assumption) | omega | decide | (simp only [Xd] <;> omega)) only [cells_spot, ↓Xa, Xb, Xc, ↓reduceIte, Nat.reduceLT, Nat.reduceEqDiff, Nat.reduceBEq, Nat.reduceLeDiff, Nat.reduceAdd, Nat.reduceMul]
    refine hrf.call ?_
    simp (disch := first | assumption | (apply Ap.symm; assumption) | omega | decide | (simp only [Xd] <;> omega)) only [rrA, geq_int', e3, len_rw, eql_int, hd0, hd6, e4, rs12, ↓Xa, Xb, Xc, ↓reduceIte, Nat.reduceLT, Nat.reduceEqDiff, Nat.reduceBEq, Nat.reduceLeDiff, Nat.reduceAdd, Nat.reduceMul]
    exact SetR.dropTo ((Le.refl H).updB n1) (SetR.now hq)
  | ok zs =>
    obtain ⟨hlt, hbd⟩ := hok zs hres
    rw [hres] at hrd hrf
    have hzl := rowT_len zs
    rw [← hlt] at hzl
    have hz : RB4 8192 zs := ⟨fun z hm => Nat.lt_of_lt_of_le (hbd z hm) (ten_bound (by omega)), by omega⟩
    have e3 : decide (((0 : Nat) : Int) ≤ (-1 : Int)) = false := by decide
    simp (disch := first | assumption | (apply Ap.symm; assumption) | omega | decide | (simp only [Xd] <;> omega)) only [len_Sx, h4, ↓Xa, Xb, Xc, ↓reduceIte, Nat.reduceLT, Nat.reduceEqDiff, Nat.reduceBEq, Nat.reduceLeDiff, Nat.reduceAdd, Nat.reduceMul]
    refine hrd.call ?_
    simp (disch := first | assumption | (apply Ap.symm; assumption) | omega | decide | (simp only [Xd] <;> omega)) only [rdA, ↓Xa, Xb, Xc, ↓reduceIte, Nat.reduceLT, Nat.reduceEqDiff, Nat.reduceBEq, Nat.reduceLeDiff, Nat.reduceAdd, Nat.reduceMul]
    refine alloc_i fun p1 hp1 => ?_
    have n1 := hp1
    simp (disch := first | assumption | (apply Ap.symm; assumption) | omega | decide | (simp only [Xd] <;> omega)) only [cells_spot, ↓Xa, Xb, Xc, ↓reduceIte, Nat.reduceLT, Nat.reduceEqDiff, Nat.reduceBEq, Nat.reduceLeDiff, Nat.reduceAdd, Nat.reduceMul]
    refine hrf.call ?_
    simp (disch := first | assumption | (apply Ap.symm; assumption) | omega | decide | (simp only [Xd] <;> omega)) only [rrA, geq_int', e3, ↓Xa, Xb, Xc, ↓reduceIte, Nat.reduceLT, Nat.reduceEqDiff, Nat.reduceBEq, Nat.reduceLeDiff, Nat.reduceAdd, Nat.reduceMul]
    refine (is4_fn (t := false) (t' := false) hz (by omega)).call ?_
    simp (disch := first | assumption | (apply Ap.symm; assumption) | omega | decide | (simp only [Xd] <;> omega)) only [eql_int, hd0, ↓Xa, Xb, Xc, ↓reduceIte, Nat.reduceLT, Nat.reduceEqDiff, Nat.reduceBEq, Nat.reduceLeDiff, Nat.reduceAdd, Nat.reduceMul]
    refine (rowt_fn (t := false) hz (by omega) (by omega)).call ?_
    rw [← hlt]
    simp (disch := first | assumption | (apply Ap.symm; assumption) | omega | decide | (simp only [Xd] <;> omega)) only [eql_Sx, decide_true, rs12, ↓Xa, Xb, Xc, ↓reduceIte, Nat.reduceLT, Nat.reduceEqDiff, Nat.reduceBEq, Nat.reduceLeDiff, Nat.reduceAdd, Nat.reduceMul]
    exact SetR.dropTo ((Le.refl H).updB n1) (SetR.now hq)
theorem Sx_of4 (s : ByteArray) : Sx s.data.toList = .str s := by cases s; rfl
theorem rowReads_law (s : ByteArray) (h : s.size ≤ 140737488351232) : PFn Tryd.prog 12 [.str s] (.bool true) := by
  rw [← Sx_of4]
  exact rowReads0_law _ (by have : s.data.toList.length = s.size := rfl; omega)
end Go.Proofs.YtanchgkiomfhhaaDoor.Fw
