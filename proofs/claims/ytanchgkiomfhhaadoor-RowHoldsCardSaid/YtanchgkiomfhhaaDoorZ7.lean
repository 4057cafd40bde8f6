/- The texts Lay156 Kj Kh Kk Kl Km, joined. -/
import Derived.Test.YtanchgkiomfhhaaDoorZ6
import Derived.Shelf.Strings.OnBuilder
import Derived.Test.YtanchgkiomfhhaaDoorProg
import Derived.Lib.SmallJoins
/- The numbers under which the library's functions stand in this program, and that their texts are those which the kit's contracts speak of: printed by wip/tools/lay.py. -/
namespace Go.Proofs.YtanchgkiomfhhaaDoor.Fw
open Go Go.Shelf Go.Proofs
def lay156_ren : Ren :=
  {
    f := fun x =>
      match x with
      | 156 => 168
      | 165 => 203
      | 166 => 204
      | 169 => 205
      | 240 => 215
      | 241 => 216
      | 276 => 227
      | 277 => 228
      | n => n,
    t := fun x =>
      match x with
      | 31 => 202
      | 9 => 9
      | 3 => 3
      | 4 => 4
      | 0 => 0
      | 20 => 20
      | 72 => 234
      | 76 => 238
      | 70 => 232
      | 37 => 103
      | 75 => 237
      | 127 => 251
      | 164 => 263
      | 5 => 5
      | 80 => 36
      | n => n,
    g := fun x =>
      have n := x;
      n }
theorem lay156 : Lays.n156 Tryd.prog lay156_ren :=
  { mixed := Eq.refl true, f156 := Eq.trans Tryd.func168 (congrArg some (Eq.refl (Body.n156 lay156_ren))),
    f165 := Eq.trans Tryd.func203 (congrArg some (Eq.refl (Body.n165 lay156_ren))),
    f166 := Eq.trans Tryd.func204 (congrArg some (Eq.refl (Body.n166 lay156_ren))),
    f169 := Eq.trans Tryd.func205 (congrArg some (Eq.refl (Body.n169 lay156_ren))),
    f240 := Eq.trans Tryd.func215 (congrArg some (Eq.refl (Body.n240 lay156_ren))),
    f241 := Eq.trans Tryd.func216 (congrArg some (Eq.refl (Body.n241 lay156_ren))),
    f276 := Eq.trans Tryd.func227 (congrArg some (Eq.refl (Body.n276 lay156_ren))),
    f277 := Eq.trans Tryd.func228 (congrArg some (Eq.refl (Body.n277 lay156_ren))), t0 := Tryd.underlying0,
    a0 := Tryd.isAgg0, z0 := Tryd.sizeOf0, v0 := Tryd.zeroValue0, t3 := Tryd.underlying3, a3 := Tryd.isAgg3,
    z3 := Tryd.sizeOf3, v3 := Tryd.zeroValue3, t4 := Tryd.underlying4, a4 := Tryd.isAgg4, z4 := Tryd.sizeOf4,
    v4 := Tryd.zeroValue4, t9 := Tryd.underlying9, a9 := Tryd.isAgg9, z9 := Tryd.sizeOf9, v9 := Tryd.zeroValue9,
    t20 := Tryd.underlying20, a20 := Tryd.isAgg20, z20 := Tryd.sizeOf20, v20 := Tryd.zeroValue20,
    t31 := Tryd.underlying202, a31 := Tryd.isAgg202, z31 := Tryd.sizeOf202, v31 := Tryd.zeroValue202,
    t37 := Tryd.underlying103, a37 := Tryd.isAgg103, z37 := Tryd.sizeOf103, v37 := Tryd.zeroValue103,
    t70 := Tryd.underlying232, a70 := Tryd.isAgg232, z70 := Tryd.sizeOf232, v70 := Tryd.zeroValue232,
    t72 := Tryd.underlying234, a72 := Tryd.isAgg234, z72 := Tryd.sizeOf234, v72 := Tryd.zeroValue234,
    t75 := Tryd.underlying237, a75 := Tryd.isAgg237, z75 := Tryd.sizeOf237, v75 := Tryd.zeroValue237,
    t76 := Tryd.underlying238, a76 := Tryd.isAgg238, z76 := Tryd.sizeOf238, v76 := Tryd.zeroValue238,
    t127 := Tryd.underlying251, a127 := Tryd.isAgg251, z127 := Tryd.sizeOf251, v127 := Tryd.zeroValue251,
    t164 := Tryd.underlying263, a164 := Tryd.isAgg263, z164 := Tryd.sizeOf263, v164 := Tryd.zeroValue263 }
end Go.Proofs.YtanchgkiomfhhaaDoor.Fw

/- Strings joined: by the kit's contract. -/
namespace Go.Proofs.YtanchgkiomfhhaaDoor.Fw
set_option linter.unusedSimpArgs false
set_option linter.unusedVariables false
open Go Go.Proofs.YtanchgkiomfhhaaDoor.Ma Go.Shelf
set_option maxRecDepth 20000

theorem pfn_calls {P : Program} {f : FuncId} {args : List AV} {r : AV} (hf : ∃ fn, P.funcs[f]? = some fn ∧ (fn.name == "runtime.NumGoroutine") = false ∧ fn.body.isNone = false)
    (h : ∀ (c : Ctx) (vs : Array Value), Ok c → vs.size = args.length → (∀ i (h : i < args.length) (h' : i < vs.size), Enc c (args[i]) (vs[i])) → Calls P f vs c.w fun e w' => ∃ v, e = .returned v ∧ (∀ c', Enc c' r v) ∧ Go.RowKit.Below c.w.heap.size c.w w') : PFn P f args r := by
  intro H Q hq
  refine ⟨hf, fun c vs hH hok hs he => (h c vs hok hs he).mono ?_⟩
  rintro e w' ⟨v, rfl, hr, hb⟩
  let c2 : Ctx := { c with w := w' }
  have hsz : ∀ i x, c.H i = some x → c.μ i < c.w.heap.size := fun i x e => by
    have := hok.blk i x e
    cases x with
    | row ty es cells => obtain ⟨arr, h1, _⟩ := this; exact (Array.getElem?_eq_some_iff.1 h1).1
    | raw o => exact (Array.getElem?_eq_some_iff.1 this.1).1
    | glob g cells => rw [this.1]; exact this.2.1
    | loop st pend fn ps assign body n E => obtain ⟨tm, dd, h1, _⟩ := this; exact (Array.getElem?_eq_some_iff.1 h1).1
  have later : Later c c2 := by
    refine ⟨⟨hb.size, hb.os, hb.tape, hb.output, fun _ h => h, ?_, fun k hk hm => ⟨hb.block k hk, hm⟩⟩, fun _ h => ⟨h, fun k => k⟩⟩
    intro i x' _ hx'
    exact ⟨x', hx', Nat.le_refl _, fun _ => ⟨rfl, fun ty' es' cells' e => ⟨cells', e, fun arr ha => ⟨arr, (hb.block _ (hsz i x' hx')).trans ha, rfl⟩⟩⟩⟩
  have ok : Ok c2 := ⟨hok.used, hok.fin, hok.inj, fun b x hx => (hok.blk b x hx).later later rfl (hb.block _ (hsz b x hx))⟩
  exact ⟨c2, v, r, rfl, rfl, ok, later, hr c2, by show Q r c.H; rw [hH]; exact hq⟩
theorem joinX : Builder.Extra Tryd.prog lay156_ren where
  sizeBuilder := by kernel_rfl
  liesBuilder := by kernel_rfl
  t5 := Tryd.underlying5
  a5 := Tryd.isAgg5
  z5 := Tryd.sizeOf5
  v5 := Tryd.zeroValue5
  infoByte := by kernel_rfl
  cellsByte := by kernel_rfl
  sizeByte := by kernel_rfl
  neB5 := by decide
theorem join_fn (xs : List (List UInt8)) (sep : List UInt8) (t : Bool) (hN : xs.length ≤ 1000000) (hlen : (Lib.join xs sep).length ≤ 140737488355328) : PFn Tryd.prog 168 [.seq xs.length (xs.map Sx) t, Sx sep] (Sx (Lib.join xs sep)) := by
  by_cases h0 : xs = []
  · subst h0
    intro H Q hq
    refine enter168 (by simp) ?_
    have e : Lib.join ([] : List (List UInt8)) sep = [] := rfl
    rw [e] at hq
    have l0 : ([] : List (List UInt8)).length = 0 := rfl
    simp (disch := first | assumption | (apply Ap.symm; assumption) | omega | decide | (simp only [Xd] <;> omega)) only [ac168, l0, len_rw, rs168, ↓Xa, Xb, Xc, ↓reduceIte, Nat.reduceLT, Nat.reduceEqDiff, Nat.reduceBEq, Nat.reduceLeDiff, Nat.reduceAdd, Nat.reduceMul]
    exact SetR.now hq
  · refine pfn_calls ⟨_, Tryd.func168, by kernel_rfl, by kernel_rfl⟩ fun c vs hok hs he => ?_
    obtain ⟨v0, v1, rfl⟩ : ∃ v0 v1, vs = #[v0, v1] := Go.Joins.array2 hs
    have e0 : Enc c (.seq xs.length (xs.map Sx) t) v0 := he 0 (by simp) (by simp)
    have e1 : Enc c (Sx sep) v1 := he 1 (by simp) (by simp)
    cases e1
    cases e0 with
    | seq _ _ _ base cap cv hlen' hcap hmax ht hb hn hc =>
      obtain ⟨k, off, rfl, hmu, hk, hcell⟩ := hb (by simpa using List.length_pos_iff.2 h0)
      have hce : ∀ (j : Nat) x, (xs.map fun l => (⟨l.toArray⟩ : ByteArray))[j]? = some x → c.w.cell? ⟨k, off + j, none⟩ = some (.string x) := fun j x hx => by
        rw [List.getElem?_map] at hx
        obtain ⟨y, hy, rfl⟩ := Option.map_eq_some_iff.1 hx
        obtain ⟨hj, hy⟩ := List.getElem?_eq_some_iff.1 hy
        have h1 := hcell j (by simpa using hj)
        have h2 := hc j (by simpa using hj)
        rw [List.getElem_map, hy] at h2
        generalize cv j = u at h1 h2
        cases h2
        exact h1
      have hm : (xs.map fun l => (⟨l.toArray⟩ : ByteArray)).map (·.data.toList) = xs := by
        rw [List.map_map]
        exact (List.map_congr_left fun l _ => by simp).trans (List.map_id xs)
      have := Any.strings_Join (P := Tryd.prog) (ρ := lay156_ren) lay156 joinX k off cap (xs.map fun l => (⟨l.toArray⟩ : ByteArray)) ⟨sep.toArray⟩ c.w hce hk (by simpa using Nat.le_trans hN (by omega)) (by simpa using hcap) (by rw [hm]; simpa using hlen)
      rw [hm, List.length_map] at this
      refine this.mono fun e w' ⟨h1, h2⟩ => ⟨_, h1, fun c' => ?_, h2⟩
      simp only [Sx]
      exact .str _
end Go.Proofs.YtanchgkiomfhhaaDoor.Fw

/- Rows of whole numbers: made of small ones, told; what the laws' own helpers answer. -/
namespace Go.Proofs.YtanchgkiomfhhaaDoor.Fw
set_option linter.unusedSimpArgs false
set_option linter.unusedVariables false
open Go Go.Proofs.YtanchgkiomfhhaaDoor.Ma
set_option maxRecDepth 20000

theorem repF0 {a : AV} : repA [a] 1 = [a] := by simp [repA, List.range, List.range.loop]
theorem load_map {α : Type} {f : α → AV} {l : List α} {H : AHeap} {K : AV → Prop} {i : Nat} (h : i < l.length) : loadW H none (.cptr ((l.map f).drop i)) K = K (f (l[i])) := by
  have hi : i < (l.map f).length := by simpa using h
  simp only [loadW, cellsAt, List.drop_eq_getElem_cons hi]
  simp
theorem idx_map {α : Type} {f : α → AV} {l : List α} {t : Bool} {k : IntKind} {K : AV → Prop} {i : Nat} (h : i < l.length) : idxAW 1 (.seq l.length (l.map f) t) (.int k (i : Int)) K = K (.cptr ((l.map f).drop (i * 1))) := idx_rw (by simp) h
abbrev iA (n : Int) : AV := .int .i64 n
theorem rowof_run {l : List Int} {t : Bool} (hb : ∀ n, n ∈ l → -9223372036854775808 ≤ n ∧ n < 9223372036854775808) (hbig : l.length ≤ 1000000) {H : AHeap} {Q : AV → AHeap → Prop} (hq : ∀ y M, growC H 28 2 l.length (IC l) y M → Q y M) : Run Tryd.prog 54 [.seq l.length (l.map iA) t] H Q := by
  refine enter54 (by simp) ?_
  simp (disch := first | assumption | (apply Ap.symm; assumption) | omega | decide | (simp only [Xd] <;> omega)) only [ac54, len_rw, ↓Xa, Xb, Xc, ↓reduceIte, Nat.reduceLT, Nat.reduceEqDiff, Nat.reduceBEq, Nat.reduceLeDiff, Nat.reduceAdd, Nat.reduceMul]
  refine W_loop (fun s : Nat × AV × AHeap => ⟨[], [(3, s.2.1), (6, .seq l.length (l.map iA) t), (7, .int .i64 (l.length : Int)), (8, .int .i64 s.1)], s.2.2⟩) (fun s => s.1 ≤ l.length ∧ growC H 28 2 s.1 (IC (l.take s.1)) s.2.1 s.2.2) (fun s => l.length - s.1) (0, .seq 0 [] true, H) (Settle.now rfl) ⟨Nat.zero_le _, growC_nil⟩ ?_
  rintro ⟨i, y, M⟩ ⟨h3, hg⟩
  dsimp only at h3 hg ⊢
  by_cases hi : i < l.length
  · simp (disch := first | assumption | (apply Ap.symm; assumption) | omega | decide | (simp only [Xd] <;> omega)) only [hi, idx_map, load_map, ↓Xa, Xb, Xc, ↓reduceIte, Nat.reduceLT, Nat.reduceEqDiff, Nat.reduceBEq, Nat.reduceLeDiff, Nat.reduceAdd, Nat.reduceMul]
    refine (of_fn (hb _ (List.getElem_mem hi))).call ?_
    simp (disch := first | assumption | (apply Ap.symm; assumption) | omega | decide | (simp only [Xd] <;> omega)) only [repI1, cells_IntA, ↓Xa, Xb, Xc, ↓reduceIte, Nat.reduceLT, Nat.reduceEqDiff, Nat.reduceBEq, Nat.reduceLeDiff, Nat.reduceAdd, Nat.reduceMul]
    refine app_C (m := 1) hg rfl cellI (by omega) (by omega) (by omega) fun y' M2 hg3 => ?_
    rw [← IC_take] at hg3
    simp (disch := first | assumption | (apply Ap.symm; assumption) | omega | decide | (simp only [Xd] <;> omega)) only [↓Xa, Xb, Xc, ↓reduceIte, Nat.reduceLT, Nat.reduceEqDiff, Nat.reduceBEq, Nat.reduceLeDiff, Nat.reduceAdd, Nat.reduceMul]
    exact Settle.now ⟨(i + 1, y', M2), by dsimp only; omega, ⟨by dsimp only; omega, hg3⟩, rfl⟩
  · obtain rfl : i = l.length := by omega
    rw [List.take_of_length_le (by omega)] at hg
    simp (disch := first | assumption | (apply Ap.symm; assumption) | omega | decide | (simp only [Xd] <;> omega)) only [hi, ↓Xa, Xb, Xc, ↓reduceIte, Nat.reduceLT, Nat.reduceEqDiff, Nat.reduceBEq, Nat.reduceLeDiff, Nat.reduceAdd, Nat.reduceMul]
    refine Settle.now ?_
    simp (disch := first | assumption | (apply Ap.symm; assumption) | omega | decide | (simp only [Xd] <;> omega)) only [rs54, ↓Xa, Xb, Xc, ↓reduceIte, Nat.reduceLT, Nat.reduceEqDiff, Nat.reduceBEq, Nat.reduceLeDiff, Nat.reduceAdd, Nat.reduceMul]
    exact SetR.now (hq y M hg)
theorem rowof_fn {l : List Int} {t : Bool} (hb : ∀ n, n ∈ l → -9223372036854775808 ≤ n ∧ n < 9223372036854775808) (hbig : l.length ≤ 1000000) : PFn Tryd.prog 54 [.seq l.length (l.map iA) t] (RowA l false) :=
  PFn.frozen fun _ _ hq => rowof_run hb hbig hq

def joinT : List (List UInt8) → List UInt8
  | [] => []
  | [x] => x
  | x :: y :: r => x ++ 32 :: joinT (y :: r)
theorem joinT_eq : ∀ xs : List (List UInt8), Lib.join xs [32] = joinT xs
  | [] => rfl
  | [x] => by simp [Lib.join, joinT, List.intercalate]
  | x :: y :: r => by
    have := joinT_eq (y :: r)
    simp only [Lib.join, joinT, List.intercalate] at this ⊢
    rw [← this]
    simp
theorem joinT_len {k : Nat} : ∀ xs : List (List UInt8), (∀ x, x ∈ xs → x.length ≤ k) → (joinT xs).length ≤ xs.length * (k + 1)
  | [], _ => by simp [joinT]
  | [x], h => by have := h x (by simp); simp [joinT]; omega
  | x :: y :: r, h => by
    have h1 := joinT_len (y :: r) fun z hz => h z (by simp at hz ⊢; exact .inr hz)
    have h2 := h x (by simp)
    simp only [joinT, List.length_append, List.length_cons] at h1 ⊢
    rw [Nat.add_mul]; omega
def rowT (zs : List Int) : List UInt8 := 91 :: joinT (zs.map iText) ++ [93]
theorem joinI_len {k : Nat} {zs : List Int} (hz : RB4 k zs) (hk : k ≤ 1000000) (hbig : zs.length ≤ 1000000) : (joinT (zs.map iText)).length ≤ 1000000 * 10000003 := by
  refine Nat.le_trans (joinT_len (k := 10 * k + 2) _ fun x hx => ?_) ?_
  · obtain ⟨z, hm, rfl⟩ := List.mem_map.1 hx
    exact iText_len (hz.1 z hm)
  · rw [List.length_map]; exact Nat.mul_le_mul hbig (by omega)
theorem cell_Sx1 {l : List UInt8} : [Sx l].all AV.cell = true := rfl
theorem rowt_fn {zs : List Int} {t : Bool} {k : Nat} (hz : RB4 k zs) (hk : k ≤ 1000000) (hbig : zs.length ≤ 1000000) : PFn Tryd.prog 86 [RowA zs t] (Sx (rowT zs)) := by
  intro H Q hq
  have nz : zs.length < 9223372036854775808 := by omega
  have hjl := joinI_len hz hk hbig
  refine enter86 (by simp) ?_
  simp (disch := first | assumption | (apply Ap.symm; assumption) | omega | decide | (simp only [Xd] <;> omega)) only [ac86, len_rw, ↓Xa, Xb, Xc, ↓reduceIte, Nat.reduceLT, Nat.reduceEqDiff, Nat.reduceBEq, Nat.reduceLeDiff, Nat.reduceAdd, Nat.reduceMul]
  refine W_loop (fun s : Nat × AV × AHeap => ⟨[], [(3, s.2.1), (6, RowA zs t), (7, .int .i64 (zs.length : Int)), (8, .int .i64 s.1)], s.2.2⟩) (fun s => s.1 ≤ zs.length ∧ growC H 9 1 s.1 ((zs.take s.1).map fun z => Sx (iText z)) s.2.1 s.2.2) (fun s => zs.length - s.1) (0, .seq 0 [] true, H) (Settle.now rfl) ⟨Nat.zero_le _, growC_nil⟩ ?_
  rintro ⟨i, y, M⟩ ⟨h3, hg⟩
  dsimp only at h3 hg ⊢
  by_cases hi : i < zs.length
  · simp (disch := first | assumption | (apply Ap.symm; assumption) | omega | decide | (simp only [Xd] <;> omega)) only [hi, idx_IC, load_IC, ↓Xa, Xb, Xc, ↓reduceIte, Nat.reduceLT, Nat.reduceEqDiff, Nat.reduceBEq, Nat.reduceLeDiff, Nat.reduceAdd, Nat.reduceMul]
    refine alloc_i fun q hq1 => ?_
    simp (disch := first | assumption | (apply Ap.symm; assumption) | omega | decide | (simp only [Xd] <;> omega)) only [cells_IntA, fold_IntA, ↓Xa, Xb, Xc, ↓reduceIte, Nat.reduceLT, Nat.reduceEqDiff, Nat.reduceBEq, Nat.reduceLeDiff, Nat.reduceAdd, Nat.reduceMul]
    have hg1 := growC_upd (r := .row 28 0 [IntB (zs[i]), IntD (zs[i])]) hg hq1
    refine (itext_fn (hz.at hi) hk).call ?_
    simp (disch := first | assumption | (apply Ap.symm; assumption) | omega | decide | (simp only [Xd] <;> omega)) only [repF0, cells_Sx, str_Sx, ↓Xa, Xb, Xc, ↓reduceIte, Nat.reduceLT, Nat.reduceEqDiff, Nat.reduceBEq, Nat.reduceLeDiff, Nat.reduceAdd, Nat.reduceMul]
    refine app_C (m := 1) hg1 rfl cell_Sx1 (by omega) (by omega) (by omega) fun y' M2 hg3 => ?_
    have e : (zs.take (i + 1)).map (fun z => Sx (iText z)) = (zs.take i).map (fun z => Sx (iText z)) ++ [Sx (iText (zs[i]))] := by
      rw [List.take_add_one, List.getElem?_eq_getElem hi, Option.toList_some, List.map_append]; rfl
    rw [← e] at hg3
    obtain ⟨M3, hg4, hl4⟩ := growC_le2 hg3 ((Le.refl H).upd (growC_none hg hq1))
    simp (disch := first | assumption | (apply Ap.symm; assumption) | omega | decide | (simp only [Xd] <;> omega)) only [↓Xa, Xb, Xc, ↓reduceIte, Nat.reduceLT, Nat.reduceEqDiff, Nat.reduceBEq, Nat.reduceLeDiff, Nat.reduceAdd, Nat.reduceMul]
    exact Settle.dropTo hl4 (Settle.now ⟨(i + 1, y', M3), by dsimp only; omega, ⟨by dsimp only; omega, hg4⟩, rfl⟩)
  · obtain rfl : i = zs.length := by omega
    rw [List.take_of_length_le (by omega)] at hg
    simp (disch := first | assumption | (apply Ap.symm; assumption) | omega | decide | (simp only [Xd] <;> omega)) only [hi, ↓Xa, Xb, Xc, ↓reduceIte, Nat.reduceLT, Nat.reduceEqDiff, Nat.reduceBEq, Nat.reduceLeDiff, Nat.reduceAdd, Nat.reduceMul]
    refine Settle.grownC 3 rfl hg (Settle.now ?_)
    have hj := join_fn (zs.map iText) [32] false (by simpa using hbig) (by rw [joinT_eq]; omega)
    rw [joinT_eq, List.length_map, List.map_map] at hj
    have s1 : AV.str ⟨#[91]⟩ = Sx [91] := rfl
    have s2 : AV.str ⟨#[93]⟩ = Sx [93] := rfl
    have s3 : AV.str ⟨#[32]⟩ = Sx [32] := rfl
    have e1 : ∀ K, binW .add (Sx [91]) (Sx (joinT (zs.map iText))) K = K (Sx (91 :: joinT (zs.map iText))) := fun K => add_Sx (by simp only [List.length_cons, List.length_append, List.length_nil]; omega)
    have e2 : ∀ K, binW .add (Sx (91 :: joinT (zs.map iText))) (Sx [93]) K = K (Sx (rowT zs)) := fun K => by rw [add_Sx (by simp only [List.length_cons, List.length_append, List.length_nil]; omega)]; rfl
    simp (disch := first | assumption | (apply Ap.symm; assumption) | omega | decide | (simp only [Xd] <;> omega)) only [s3, ↓Xa, Xb, Xc, ↓reduceIte, Nat.reduceLT, Nat.reduceEqDiff, Nat.reduceBEq, Nat.reduceLeDiff, Nat.reduceAdd, Nat.reduceMul]
    refine hj.call ?_
    simp (disch := first | assumption | (apply Ap.symm; assumption) | omega | decide | (simp only [Xd] <;> omega)) only [s1, s2, e1, e2, rs86, ↓Xa, Xb, Xc, ↓reduceIte, Nat.reduceLT, Nat.reduceEqDiff, Nat.reduceBEq, Nat.reduceLeDiff, Nat.reduceAdd, Nat.reduceMul]
    exact SetR.now hq
end Go.Proofs.YtanchgkiomfhhaaDoor.Fw

/- The row laws' own helpers: an answer that is fixed, rows that are too long, a row in both, one number in both, rows in both. -/
namespace Go.Proofs.YtanchgkiomfhhaaDoor.Fw
set_option linter.unusedSimpArgs false
set_option linter.unusedVariables false
open Go Go.Proofs.YtanchgkiomfhhaaDoor.Ma
set_option maxRecDepth 20000

theorem repL2 {a : AV} : repA [a] 2 = [a, a] := by simp [repA, List.range, List.range.loop]
theorem live4_t : rowT [4, -2] = [91, 52, 32, 45, 50, 93] := by simp [rowT, joinT, iText, decT, dec, digs, chr]
theorem live4_fn : PFn Tryd.prog 32 [] (.bool true) := by
  intro H Q hq
  obtain ⟨L1, e1, of1⟩ : ∃ L1, L1 = RowA [1, 2] false ∧ PFn Tryd.prog 54 [.seq 2 [.int .i64 ((1 : Nat) : Int), .int .i64 ((2 : Nat) : Int)] true] L1 := ⟨_, rfl, rowof_fn (l := [1, 2]) (by simp) (by simp)⟩
  obtain ⟨L2, e2, of2⟩ : ∃ L2, L2 = RowA [3, -4] false ∧ PFn Tryd.prog 54 [.seq 2 [.int .i64 ((3 : Nat) : Int), .int .i64 (-4)] true] L2 := ⟨_, rfl, rowof_fn (l := [3, -4]) (by simp) (by simp)⟩
  have b1 : RB4 2 [1, 2] := ⟨fun z h => Bd.i64 (by simp at h; omega), by simp⟩
  have b2 : RB4 2 [3, -4] := ⟨fun z h => Bd.i64 (by simp at h; omega), by simp⟩
  have b3 : RB4 2 [4, -2] := ⟨fun z h => Bd.i64 (by simp at h; omega), by simp⟩
  obtain ⟨L3, e3, add⟩ : ∃ L3, L3 = RowA [4, -2] false ∧ PFn Tryd.prog 37 [L1, L2] (.tup [L3, .int .i64 ((0 : Nat) : Int)]) := ⟨_, rfl, by
    rw [e1, e2]
    exact PFn.frozen1 fun H Q hq => rowadd_run b1 b2 (by omega) rfl (by simp) hq⟩
  have tx := rowt_fn (t := false) b3 (by omega) (by simp)
  rw [← e3, live4_t] at tx
  have s1 : AV.str ⟨#[91, 52, 32, 45, 50, 93]⟩ = Sx [91, 52, 32, 45, 50, 93] := rfl
  refine enter32 (by simp) ?_
  simp (disch := first | assumption | (apply Ap.symm; assumption) | omega | decide | (simp only [Xd] <;> omega)) only [ac32, repL2, ↓Xa, Xb, Xc, ↓reduceIte, Nat.reduceLT, Nat.reduceEqDiff, Nat.reduceBEq, Nat.reduceLeDiff, Nat.reduceAdd, Nat.reduceMul]
  refine of1.call ?_
  simp (disch := first | assumption | (apply Ap.symm; assumption) | omega | decide | (simp only [Xd] <;> omega)) only [repL2, ↓Xa, Xb, Xc, ↓reduceIte, Nat.reduceLT, Nat.reduceEqDiff, Nat.reduceBEq, Nat.reduceLeDiff, Nat.reduceAdd, Nat.reduceMul]
  refine of2.call ?_
  simp (disch := first | assumption | (apply Ap.symm; assumption) | omega | decide | (simp only [Xd] <;> omega)) only [↓Xa, Xb, Xc, ↓reduceIte, Nat.reduceLT, Nat.reduceEqDiff, Nat.reduceBEq, Nat.reduceLeDiff, Nat.reduceAdd, Nat.reduceMul]
  refine add.call ?_
  simp (disch := first | assumption | (apply Ap.symm; assumption) | omega | decide | (simp only [Xd] <;> omega)) only [eql_self, ↓Xa, Xb, Xc, ↓reduceIte, Nat.reduceLT, Nat.reduceEqDiff, Nat.reduceBEq, Nat.reduceLeDiff, Nat.reduceAdd, Nat.reduceMul]
  refine tx.call ?_
  simp (disch := first | assumption | (apply Ap.symm; assumption) | omega | decide | (simp only [Xd] <;> omega)) only [s1, eql_Sx, rs32, ↓Xa, Xb, Xc, ↓reduceIte, Nat.reduceLT, Nat.reduceEqDiff, Nat.reduceBEq, Nat.reduceLeDiff, Nat.reduceAdd, Nat.reduceMul]
  exact SetR.now hq

/-! ### too long -/
def sumN : List Nat → Nat
  | [] => 0
  | a :: l => a + sumN l
theorem sumN_app : ∀ (l m : List Nat), sumN (l ++ m) = sumN l + sumN m
  | [], m => by simp [sumN]
  | a :: l, m => by simp only [List.cons_append, sumN, sumN_app l m]; omega
theorem sumN_mem : ∀ {l : List Nat} {a : Nat}, a ∈ l → a ≤ sumN l
  | x :: l, a, h => by
    rcases List.mem_cons.1 h with rfl | h
    · simp [sumN]
    · have := sumN_mem h; simp only [sumN]; omega
theorem sumN_take (l : List Nat) (i : Nat) : sumN (l.take i) ≤ sumN l := by
  conv => rhs; rw [← List.take_append_drop i l, sumN_app]
  omega
theorem sumN_succ {l : List Nat} {i : Nat} (h : i < l.length) : sumN (l.take (i + 1)) = sumN (l.take i) + l[i] := by
  rw [List.take_add_one, List.getElem?_eq_getElem h, Option.toList_some, sumN_app]; simp [sumN]
theorem NumsC_len (l : List NumV) : (NumsC l).length = l.length * 2 := by unfold NumsC; rw [pair_len (c0 := fun q : NumV => AV.bool q.1) (c1 := fun q : NumV => LS q.2.1 q.2.2)]; omega
theorem NumsC_drop : ∀ (l : List NumV) (i : Nat) (h : i < l.length), (NumsC l).drop (i * 2) = .bool (l[i]).1 :: LS (l[i]).2.1 (l[i]).2.2 :: (NumsC l).drop (i * 2 + 2)
  | a :: l, 0, _ => rfl
  | a :: l, i + 1, h => by
    have := NumsC_drop l i (by simpa using h)
    rw [show (i + 1) * 2 = i * 2 + 2 by omega]
    show ((.bool a.1 :: LS a.2.1 a.2.2 :: NumsC l).drop (i * 2 + 2)) = _
    simp only [List.drop_succ_cons, List.getElem_cons_succ]
    rw [this]
    show _ = _ :: _ :: ((.bool a.1 :: LS a.2.1 a.2.2 :: NumsC l).drop (i * 2 + 2 + 2))
    simp only [List.drop_succ_cons]
section
variable {K : AV → Prop} {H : AHeap} {k : IntKind} {t : Bool} {l : List NumV} {i : Nat}
theorem idx_NC (h : i < l.length) : idxAW 2 (.seq l.length (NumsC l) t) (.int k (i : Int)) K = K (.cptr ((NumsC l).drop (i * 2))) := idx_rw (NumsC_len l) h
theorem load_NC0 (h : i < l.length) : loadW H none (.cptr ((NumsC l).drop (i * 2))) K = K (.bool (l[i]).1) := by
  simp only [loadW, cellsAt, NumsC_drop l i h]; simp
theorem load_NC1 (h : i < l.length) : loadW H none (.cptr (((NumsC l).drop (i * 2)).drop 1)) K = K (LS (l[i]).2.1 (l[i]).2.2) := by
  simp only [loadW, cellsAt, NumsC_drop l i h]; simp
end
def numT (l : List NumV) : Nat := l.length + sumN (l.map fun q => q.2.1.length)
abbrev rowN (x : List NumV × Bool) : AV := .seq x.1.length (NumsC x.1) x.2
theorem long4_fn {ll : List (List NumV × Bool)} {t : Bool} (hl : ll.length ≤ 1000) (hg : ∀ x, x ∈ ll → x.1.length ≤ 140737488355328 ∧ ∀ q, q ∈ x.1 → q.2.1.length ≤ 140737488355328) :
    PFn Tryd.prog 33 [.seq ll.length (ll.map rowN) t] (.bool (decide (300 < sumN (ll.map fun x => numT x.1)))) := by
  intro H Q hq
  have big : ∀ {n : Nat}, 300 < n → n ≤ sumN (ll.map fun x => numT x.1) → Q (.bool true) H := fun h h2 => by
    rw [decide_eq_true (by omega)] at hq; exact hq
  refine enter33 (by simp) ?_
  simp (disch := first | assumption | (apply Ap.symm; assumption) | omega | decide | (simp only [Xd] <;> omega)) only [ac33, ↓Xa, Xb, Xc, ↓reduceIte, Nat.reduceLT, Nat.reduceEqDiff, Nat.reduceBEq, Nat.reduceLeDiff, Nat.reduceAdd, Nat.reduceMul]
  refine W_loop (fun s : Nat => ⟨[], [(0, .seq ll.length (ll.map rowN) t), (3, .int .i64 ((sumN ((ll.take s).map fun x => numT x.1) : Nat) : Int)), (4, .int .i64 s)], H⟩) (fun s => s ≤ ll.length ∧ sumN ((ll.take s).map fun x => numT x.1) ≤ 300) (fun s => ll.length - s) 0 (Settle.now rfl) ⟨Nat.zero_le _, by simp [sumN]⟩ ?_
  rintro i ⟨h3, hn⟩
  by_cases hi : i < ll.length
  · have hsucc : sumN ((ll.take (i + 1)).map fun x => numT x.1) = sumN ((ll.take i).map fun x => numT x.1) + numT (ll[i]).1 := by
      rw [List.map_take, sumN_succ (by simpa using hi), ← List.map_take, List.getElem_map]
    have htot : sumN ((ll.take (i + 1)).map fun x => numT x.1) ≤ sumN (ll.map fun x => numT x.1) := by rw [List.map_take]; exact sumN_take _ _
    obtain ⟨g1, g2⟩ := hg _ (List.getElem_mem hi)
    generalize hL : ll[i] = L at *
    obtain ⟨l, tl⟩ := L
    dsimp only at g1 g2 hsucc
    have hnt : numT l = l.length + sumN (l.map fun q => q.2.1.length) := rfl
    generalize hn0 : sumN ((ll.take i).map fun x => numT x.1) = n at *
    have hld : ∀ {M : AHeap} {K : AV → Prop}, loadW M none (.cptr ((ll.map rowN).drop i)) K = K (rowN (l, tl)) := fun {M K} => by rw [load_map hi, hL]
    by_cases hx : 300 < n + l.length
    · simp (disch := first | assumption | (apply Ap.symm; assumption) | omega | decide | (simp only [Xd] <;> omega)) only [hi, len_rw, idx_map, hld, hx, rs33, ↓Xa, Xb, Xc, ↓reduceIte, Nat.reduceLT, Nat.reduceEqDiff, Nat.reduceBEq, Nat.reduceLeDiff, Nat.reduceAdd, Nat.reduceMul]
      exact SetR.now (big hx (by omega))
    · simp (disch := first | assumption | (apply Ap.symm; assumption) | omega | decide | (simp only [Xd] <;> omega)) only [hi, len_rw, idx_map, hld, hx, ↓Xa, Xb, Xc, ↓reduceIte, Nat.reduceLT, Nat.reduceEqDiff, Nat.reduceBEq, Nat.reduceLeDiff, Nat.reduceAdd, Nat.reduceMul]
      refine W_loop (fun s : Nat => ⟨[], [(0, .seq ll.length (ll.map rowN) t), (3, .int .i64 ((n + l.length + sumN ((l.take s).map fun q => q.2.1.length) : Nat) : Int)), (4, .int .i64 i), (5, .int .i64 s)], H⟩) (fun s => s ≤ l.length ∧ n + l.length + sumN ((l.take s).map fun q => q.2.1.length) ≤ 300) (fun s => l.length - s) 0 (Settle.now rfl) ⟨Nat.zero_le _, by simp [sumN]; omega⟩ ?_
      rintro k ⟨h4, hm⟩
      by_cases hk : k < l.length
      · have ksucc : sumN ((l.take (k + 1)).map fun q => q.2.1.length) = sumN ((l.take k).map fun q => q.2.1.length) + (l[k]).2.1.length := by
          rw [List.map_take, sumN_succ (by simpa using hk), ← List.map_take, List.getElem_map]
        have ktot : sumN ((l.take (k + 1)).map fun q => q.2.1.length) ≤ sumN (l.map fun q => q.2.1.length) := by rw [List.map_take]; exact sumN_take _ _
        have gk := g2 _ (List.getElem_mem hk)
        generalize hs0 : sumN ((l.take k).map fun q => q.2.1.length) = s at *
        by_cases hy : 300 < n + l.length + s + (l[k]).2.1.length
        · simp (disch := first | assumption | (apply Ap.symm; assumption) | omega | decide | (simp only [Xd] <;> omega)) only [hi, hk, len_rw, idx_map, hld, idx_NC, load_NC1, hy, rs33, ↓Xa, Xb, Xc, ↓reduceIte, Nat.reduceLT, Nat.reduceEqDiff, Nat.reduceBEq, Nat.reduceLeDiff, Nat.reduceAdd, Nat.reduceMul]
          exact SetR.now (big hy (by omega))
        · simp (disch := first | assumption | (apply Ap.symm; assumption) | omega | decide | (simp only [Xd] <;> omega)) only [hi, hk, len_rw, idx_map, hld, idx_NC, load_NC1, hy, ↓Xa, Xb, Xc, ↓reduceIte, Nat.reduceLT, Nat.reduceEqDiff, Nat.reduceBEq, Nat.reduceLeDiff, Nat.reduceAdd, Nat.reduceMul]
          refine Settle.now ⟨k + 1, by omega, ⟨by omega, by rw [ksucc]; omega⟩, ?_⟩
          rw [ksucc]; simp [Nat.add_assoc]
      · simp (disch := first | assumption | (apply Ap.symm; assumption) | omega | decide | (simp only [Xd] <;> omega)) only [hi, hk, len_rw, idx_map, hld, ↓Xa, Xb, Xc, ↓reduceIte, Nat.reduceLT, Nat.reduceEqDiff, Nat.reduceBEq, Nat.reduceLeDiff, Nat.reduceAdd, Nat.reduceMul]
        rw [List.take_of_length_le (by omega)] at hm
        refine Settle.now ?_
        simp (disch := first | assumption | (apply Ap.symm; assumption) | omega | decide | (simp only [Xd] <;> omega)) only [↓Xa, Xb, Xc, ↓reduceIte, Nat.reduceLT, Nat.reduceEqDiff, Nat.reduceBEq, Nat.reduceLeDiff, Nat.reduceAdd, Nat.reduceMul]
        refine Settle.now ⟨i + 1, by omega, ⟨by omega, by rw [hsucc]; omega⟩, ?_⟩
        rw [hsucc, List.take_of_length_le (by omega)]; simp [numT, Nat.add_assoc]
  · simp (disch := first | assumption | (apply Ap.symm; assumption) | omega | decide | (simp only [Xd] <;> omega)) only [hi, len_rw, ↓Xa, Xb, Xc, ↓reduceIte, Nat.reduceLT, Nat.reduceEqDiff, Nat.reduceBEq, Nat.reduceLeDiff, Nat.reduceAdd, Nat.reduceMul]
    rw [List.take_of_length_le (by omega)] at hn
    refine Settle.now ?_
    simp (disch := first | assumption | (apply Ap.symm; assumption) | omega | decide | (simp only [Xd] <;> omega)) only [rs33, ↓Xa, Xb, Xc, ↓reduceIte, Nat.reduceLT, Nat.reduceEqDiff, Nat.reduceBEq, Nat.reduceLeDiff, Nat.reduceAdd, Nat.reduceMul]
    rw [decide_eq_false (by omega)] at hq
    exact SetR.now hq
end Go.Proofs.YtanchgkiomfhhaaDoor.Fw

/- The row laws' own helpers: a row in both, one number in both, rows in both; the law that holds rows against each other. -/
namespace Go.Proofs.YtanchgkiomfhhaaDoor.Fw
set_option linter.unusedSimpArgs false
set_option linter.unusedVariables false
open Go Go.Proofs.YtanchgkiomfhhaaDoor.Ma
set_option maxRecDepth 20000

def numZ (q : NumV) : Int := sg q.1 (val 4294967296 q.2.1)
def rowZ (l : List NumV) : List Int := l.map numZ
theorem RC_take {zs : List Int} {i : Nat} (h : i < zs.length) : RC (zs.take (i + 1)) = RC (zs.take i) ++ [RefB (zs[i]), RefD (zs[i])] := by
  rw [List.take_add_one, List.getElem?_eq_getElem h, Option.toList_some, RC_snoc]
theorem cellR {z : Int} : [RefB z, RefD z].all AV.cell = true := rfl
theorem rowZ_RB4 {l : List NumV} (hl : l.length ≤ 300) (hg : ∀ q, q ∈ l → NumGood q) (hs : ∀ q, q ∈ l → q.2.1.length ≤ 300) : RB4 300 (rowZ l) := by
  refine ⟨fun z hz => ?_, by unfold rowZ; rw [List.length_map]; omega⟩
  obtain ⟨q, hq, rfl⟩ := List.mem_map.1 hz
  exact (Bd.of_val (hg q hq).1).mono (hs q hq)
theorem of4_fn {l : List NumV} {t : Bool} (hl : l.length ≤ 300) (hg : ∀ q, q ∈ l → NumGood q) (hs : ∀ q, q ∈ l → q.2.1.length ≤ 300) :
    PFn Tryd.prog 34 [.seq l.length (NumsC l) t] (.tup [RowA (rowZ l) false, RefR (rowZ l) false]) := by
  intro H Q hq
  have hln : (rowZ l).length = l.length := by simp [rowZ]
  refine enter34 (by simp) ?_
  simp (disch := first | assumption | (apply Ap.symm; assumption) | omega | decide | (simp only [Xd] <;> omega)) only [ac34, ↓Xa, Xb, Xc, ↓reduceIte, Nat.reduceLT, Nat.reduceEqDiff, Nat.reduceBEq, Nat.reduceLeDiff, Nat.reduceAdd, Nat.reduceMul]
  refine W_loop (fun s : Nat × AV × AV × AHeap => ⟨[], [(0, .seq l.length (NumsC l) t), (4, s.2.1), (5, s.2.2.1), (6, .int .i64 s.1)], s.2.2.2⟩)
    (fun s => s.1 ≤ l.length ∧ ∃ M, growC H 28 2 s.1 (IC ((rowZ l).take s.1)) s.2.1 M ∧ growC M 39 2 s.1 (RC ((rowZ l).take s.1)) s.2.2.1 s.2.2.2) (fun s => l.length - s.1) (0, .seq 0 [] true, .seq 0 [] true, H) (Settle.now rfl) ⟨Nat.zero_le _, H, growC_nil, growC_nil⟩ ?_
  rintro ⟨i, x, y, M⟩ ⟨h3, M1, hx, hy⟩
  dsimp only at h3 hx hy ⊢
  by_cases hi : i < l.length
  · have hi2 : i < (rowZ l).length := by omega
    have hgi := hg _ (List.getElem_mem hi)
    have hsi := hs _ (List.getElem_mem hi)
    have ez : (rowZ l)[i] = sg (l[i]).1 (val 4294967296 (l[i]).2.1) := by simp [rowZ, numZ]
    simp (disch := first | assumption | (apply Ap.symm; assumption) | omega | decide | (simp only [Xd] <;> omega)) only [hi, len_rw, idx_NC, load_NC0, load_NC1, ↓Xa, Xb, Xc, ↓reduceIte, Nat.reduceLT, Nat.reduceEqDiff, Nat.reduceBEq, Nat.reduceLeDiff, Nat.reduceAdd, Nat.reduceMul]
    refine PFn.dcall (make_fn (l[i]).1 (l[i]).2.2 hgi.1 (by omega)) ?_
    rw [← ez]
    simp (disch := first | assumption | (apply Ap.symm; assumption) | omega | decide | (simp only [Xd] <;> omega)) only [repI1, cells_IntA, ↓Xa, Xb, Xc, ↓reduceIte, Nat.reduceLT, Nat.reduceEqDiff, Nat.reduceBEq, Nat.reduceLeDiff, Nat.reduceAdd, Nat.reduceMul]
    refine app_under (m := 1) hx hy rfl cellI (by omega) (by omega) (by omega) fun x' M1' M2 hx' hy' => ?_
    rw [← IC_take hi2] at hx'
    simp (disch := first | assumption | (apply Ap.symm; assumption) | omega | decide | (simp only [Xd] <;> omega)) only [hi, len_rw, idx_NC, load_NC0, load_NC1, ↓Xa, Xb, Xc, ↓reduceIte, Nat.reduceLT, Nat.reduceEqDiff, Nat.reduceBEq, Nat.reduceLeDiff, Nat.reduceAdd, Nat.reduceMul]
    refine PFn.dcall (rmake_fn (l[i]).1 (l[i]).2.2 hgi.1 (by omega)) ?_
    rw [← ez]
    simp (disch := first | assumption | (apply Ap.symm; assumption) | omega | decide | (simp only [Xd] <;> omega)) only [repI1, cells_RefA, ↓Xa, Xb, Xc, ↓reduceIte, Nat.reduceLT, Nat.reduceEqDiff, Nat.reduceBEq, Nat.reduceLeDiff, Nat.reduceAdd, Nat.reduceMul]
    refine app_C (m := 1) hy' rfl cellR (by omega) (by omega) (by omega) fun y' M3 hy2 => ?_
    rw [← RC_take hi2] at hy2
    simp (disch := first | assumption | (apply Ap.symm; assumption) | omega | decide | (simp only [Xd] <;> omega)) only [↓Xa, Xb, Xc, ↓reduceIte, Nat.reduceLT, Nat.reduceEqDiff, Nat.reduceBEq, Nat.reduceLeDiff, Nat.reduceAdd, Nat.reduceMul]
    exact Settle.now ⟨(i + 1, x', y', M3), by dsimp only; omega, ⟨by dsimp only; omega, M1', hx', hy2⟩, rfl⟩
  · obtain rfl : i = l.length := by omega
    rw [List.take_of_length_le (by omega)] at hx hy
    simp (disch := first | assumption | (apply Ap.symm; assumption) | omega | decide | (simp only [Xd] <;> omega)) only [hi, len_rw, ↓Xa, Xb, Xc, ↓reduceIte, Nat.reduceLT, Nat.reduceEqDiff, Nat.reduceBEq, Nat.reduceLeDiff, Nat.reduceAdd, Nat.reduceMul]
    refine Settle.now ?_
    simp (disch := first | assumption | (apply Ap.symm; assumption) | omega | decide | (simp only [Xd] <;> omega)) only [rs34, ↓Xa, Xb, Xc, ↓reduceIte, Nat.reduceLT, Nat.reduceEqDiff, Nat.reduceBEq, Nat.reduceLeDiff, Nat.reduceAdd, Nat.reduceMul]
    rw [← hln] at hx hy
    exact growC_fin2 hx hy hq
theorem cells_RefT {z : Int} {t : Bool} : (RefA z t).cells = some [RefB z, LS (digs 65536 z.natAbs) t] := id rfl
theorem fold_RefT {z : Int} {t : Bool} : AV.agg [RefB z, LS (digs 65536 z.natAbs) t] = RefA z t := id rfl
theorem samet_fn {x y : Int} {k k' : Nat} (t : Bool) (hx : Bd k x) (hk : k ≤ 1000000) (hy : Bd k' y) (hk' : k' ≤ 1000000) : PFn Tryd.prog 147 [RefA x false, RefA y t] (.bool (decide (x = y))) := by
  intro H Q hq
  refine enter147 (by simp) ?_
  simp (disch := first | assumption | (apply Ap.symm; assumption) | omega | decide | (simp only [Xd] <;> omega)) only [ac147, cells_RefA, ↓Xa, Xb, Xc, ↓reduceIte, Nat.reduceLT, Nat.reduceEqDiff, Nat.reduceBEq, Nat.reduceLeDiff, Nat.reduceAdd, Nat.reduceMul]
  refine alloc_i fun p1 hp1 => ?_
  have n1 := hp1
  simp (disch := first | assumption | (apply Ap.symm; assumption) | omega | decide | (simp only [Xd] <;> omega)) only [cells_RefA, cells_RefT, fold_RefA, ↓Xa, Xb, Xc, ↓reduceIte, Nat.reduceLT, Nat.reduceEqDiff, Nat.reduceBEq, Nat.reduceLeDiff, Nat.reduceAdd, Nat.reduceMul]
  refine alloc_i fun p2 hp2 => ?_
  have n2 := hp2
  simp only [upd_none] at n2
  obtain ⟨_, n2⟩ := n2
  simp (disch := first | assumption | (apply Ap.symm; assumption) | omega | decide | (simp only [Xd] <;> omega)) only [cells_RefA, fold_RefA, fold_RefT, ↓Xa, Xb, Xc, ↓reduceIte, Nat.reduceLT, Nat.reduceEqDiff, Nat.reduceBEq, Nat.reduceLeDiff, Nat.reduceAdd, Nat.reduceMul]
  refine (rcmp_fn false t hx (by omega) hy (by omega)).call ?_
  simp (disch := first | assumption | (apply Ap.symm; assumption) | omega | decide | (simp only [Xd] <;> omega)) only [cmp_eql0, rs147, ↓Xa, Xb, Xc, ↓reduceIte, Nat.reduceLT, Nat.reduceEqDiff, Nat.reduceBEq, Nat.reduceLeDiff, Nat.reduceAdd, Nat.reduceMul]
  exact SetR.dropTo (((Le.refl H).updB n1).updB n2) (SetR.now hq)
theorem one4_fn {x : Int} {k : Nat} (t : Bool) (hx : Bd k x) (hk : k ≤ 1000000) : PFn Tryd.prog 50 [IntA x, RefA x t] (.bool true) := by
  intro H Q hq
  have hl := hx.len
  have ex : sg (decide (x < 0)) (val 4294967296 (digs 4294967296 x.natAbs)) = x := by rw [val_digs (by omega), sg_self]
  have mk := rmake_fn (decide (x < 0)) false (lim_digs (B := 4294967296) (by omega) x.natAbs) (by omega)
  rw [ex] at mk
  have e2 : decide (sgnI x = sgnI x) = true := decide_eq_true rfl
  refine enter50 (by simp) ?_
  simp (disch := first | assumption | (apply Ap.symm; assumption) | omega | decide | (simp only [Xd] <;> omega)) only [ac50, cells_IntA, ↓Xa, Xb, Xc, ↓reduceIte, Nat.reduceLT, Nat.reduceEqDiff, Nat.reduceBEq, Nat.reduceLeDiff, Nat.reduceAdd, Nat.reduceMul]
  refine alloc_i fun p1 hp1 => ?_
  have n1 := hp1
  simp (disch := first | assumption | (apply Ap.symm; assumption) | omega | decide | (simp only [Xd] <;> omega)) only [cells_RefT, ↓Xa, Xb, Xc, ↓reduceIte, Nat.reduceLT, Nat.reduceEqDiff, Nat.reduceBEq, Nat.reduceLeDiff, Nat.reduceAdd, Nat.reduceMul]
  refine alloc_i fun p2 hp2 => ?_
  have n2 := hp2
  simp only [upd_none] at n2
  obtain ⟨_, n2⟩ := n2
  simp (disch := first | assumption | (apply Ap.symm; assumption) | omega | decide | (simp only [Xd] <;> omega)) only [fold_IntA, ↓Xa, Xb, Xc, ↓reduceIte, Nat.reduceLT, Nat.reduceEqDiff, Nat.reduceBEq, Nat.reduceLeDiff, Nat.reduceAdd, Nat.reduceMul]
  refine (limbs_fn hx (by omega)).call ?_
  simp (disch := first | assumption | (apply Ap.symm; assumption) | omega | decide | (simp only [Xd] <;> omega)) only [fold_IntA, fold_RefT, ↓Xa, Xb, Xc, ↓reduceIte, Nat.reduceLT, Nat.reduceEqDiff, Nat.reduceBEq, Nat.reduceLeDiff, Nat.reduceAdd, Nat.reduceMul]
  refine PFn.dcall mk ?_
  simp (disch := first | assumption | (apply Ap.symm; assumption) | omega | decide | (simp only [Xd] <;> omega)) only [fold_IntA, fold_RefT, ↓Xa, Xb, Xc, ↓reduceIte, Nat.reduceLT, Nat.reduceEqDiff, Nat.reduceBEq, Nat.reduceLeDiff, Nat.reduceAdd, Nat.reduceMul]
  refine PFn.dcall (samet_fn t hx hk hx hk) ?_
  simp (disch := first | assumption | (apply Ap.symm; assumption) | omega | decide | (simp only [Xd] <;> omega)) only [decide_true, fold_IntA, fold_RefT, ↓Xa, Xb, Xc, ↓reduceIte, Nat.reduceLT, Nat.reduceEqDiff, Nat.reduceBEq, Nat.reduceLeDiff, Nat.reduceAdd, Nat.reduceMul]
  refine PFn.dcall (sign_fn hx (by omega)) ?_
  simp (disch := first | assumption | (apply Ap.symm; assumption) | omega | decide | (simp only [Xd] <;> omega)) only [fold_IntA, fold_RefT, ↓Xa, Xb, Xc, ↓reduceIte, Nat.reduceLT, Nat.reduceEqDiff, Nat.reduceBEq, Nat.reduceLeDiff, Nat.reduceAdd, Nat.reduceMul]
  refine (rsign_fn t hx (by omega)).call ?_
  simp (disch := first | assumption | (apply Ap.symm; assumption) | omega | decide | (simp only [Xd] <;> omega)) only [eql_int, e2, rs50, ↓Xa, Xb, Xc, ↓reduceIte, Nat.reduceLT, Nat.reduceEqDiff, Nat.reduceBEq, Nat.reduceLeDiff, Nat.reduceAdd, Nat.reduceMul]
  exact SetR.dropTo (((Le.refl H).updB n1).updB n2) (SetR.now hq)
theorem froww_fn {zs : List Int} {t : Bool} {k : Nat} (hz : RB4 k zs) (hk : k ≤ 1000000) : ∃ t2, PFn Tryd.prog 65 [RefR zs t] (RefA (widF 0 zs) t2) := by
  have nz : zs.length < 9223372036854775808 := by have := hz.2; omega
  have step : ∀ (i : Nat) (w : Int), widF w (zs.drop i) = widF 0 zs → True := fun _ _ _ => trivial
  -- the row's own tightness: true as long as nothing is greater than 0
  refine ⟨decide (∀ z, z ∈ zs → z = 0), fun H Q hq => ?_⟩
  refine enter65 (by simp) ?_
  simp (disch := first | assumption | (apply Ap.symm; assumption) | omega | decide | (simp only [Xd] <;> omega)) only [ac65, ↓Xa, Xb, Xc, ↓reduceIte, Nat.reduceLT, Nat.reduceEqDiff, Nat.reduceBEq, Nat.reduceLeDiff, Nat.reduceAdd, Nat.reduceMul]
  refine alloc_i fun p1 hp1 => ?_
  have n1 := hp1
  simp (disch := first | assumption | (apply Ap.symm; assumption) | omega | decide | (simp only [Xd] <;> omega)) only [↓Xa, Xb, Xc, ↓reduceIte, Nat.reduceLT, Nat.reduceEqDiff, Nat.reduceBEq, Nat.reduceLeDiff, Nat.reduceAdd, Nat.reduceMul]
  refine alloc_i fun p2 hp2 => ?_
  have n2 := hp2
  simp only [upd_none] at n2
  obtain ⟨_, n2⟩ := n2
  simp (disch := first | assumption | (apply Ap.symm; assumption) | omega | decide | (simp only [Xd] <;> omega)) only [↓Xa, Xb, Xc, ↓reduceIte, Nat.reduceLT, Nat.reduceEqDiff, Nat.reduceBEq, Nat.reduceLeDiff, Nat.reduceAdd, Nat.reduceMul]
  refine W_loop (fun s : Nat × Int × Bool => ⟨[], [(0, RefR zs t), (2, .ptr p1 2 0), (3, .ptr p2 2 0), (4, .int .i64 s.1)], (H.upd p1 (some (.row 39 0 [.bool false, .seq 0 [] true]))).upd p2 (some (.row 39 0 [RefB s.2.1, LS (digs 65536 s.2.1.natAbs) s.2.2]))⟩)
    (fun s => s.1 ≤ zs.length ∧ Bd k s.2.1 ∧ 0 ≤ s.2.1 ∧ widF s.2.1 (zs.drop s.1) = widF 0 zs ∧ (s.2.2 = true ↔ ∀ z, z ∈ zs.take s.1 → z = 0) ∧ (s.2.2 = true → s.2.1 = 0)) (fun s => zs.length - s.1) (0, 0, true) (Settle.now (by simp [RefB, digs_zero, LS, U])) ⟨Nat.zero_le _, Bd.zero _, Int.le_refl 0, rfl, by simp, fun _ => rfl⟩ ?_
  rintro ⟨i, w, b⟩ ⟨h3, hb, h0, hc, ht, hw⟩
  dsimp only at h3 hb h0 hc ht hw ⊢
  by_cases hi : i < zs.length
  · rw [List.drop_eq_getElem_cons hi, widF, List.foldl_cons, widS] at hc
    have hmem : (∀ z, z ∈ zs.take (i + 1) → z = 0) ↔ (∀ z, z ∈ zs.take i → z = 0) ∧ zs[i] = 0 := by
      rw [List.take_add_one, List.getElem?_eq_getElem hi, Option.toList_some]
      constructor
      · exact fun h => ⟨fun z hz => h z (List.mem_append_left _ hz), h _ (List.mem_append_right _ (by simp))⟩
      · rintro ⟨h1, h2⟩ z hz
        rcases List.mem_append.1 hz with hz | hz
        · exact h1 z hz
        · rw [List.mem_singleton.1 hz]; exact h2
    simp (disch := first | assumption | (apply Ap.symm; assumption) | omega | decide | (simp only [Xd] <;> omega)) only [hi, len_rw, idx_RC, load_RC, fold_RefT, ↓Xa, Xb, Xc, ↓reduceIte, Nat.reduceLT, Nat.reduceEqDiff, Nat.reduceBEq, Nat.reduceLeDiff, Nat.reduceAdd, Nat.reduceMul]
    refine PFn.dcall (rabs_fn false (hz.at hi) (by omega)) ?_
    simp (disch := first | assumption | (apply Ap.symm; assumption) | omega | decide | (simp only [Xd] <;> omega)) only [fold_RefT, ↓Xa, Xb, Xc, ↓reduceIte, Nat.reduceLT, Nat.reduceEqDiff, Nat.reduceBEq, Nat.reduceLeDiff, Nat.reduceAdd, Nat.reduceMul]
    refine (rcmp_fn false b (hz.at hi).abs (by omega) hb (by omega)).call ?_
    by_cases h1 : w < ((zs[i]).natAbs : Int)
    · rw [if_pos h1] at hc
      simp (disch := first | assumption | (apply Ap.symm; assumption) | omega | decide | (simp only [Xd] <;> omega)) only [cmp_gtr0, decide_eq_true h1, idx_RC, load_RC, ↓Xa, Xb, Xc, ↓reduceIte, Nat.reduceLT, Nat.reduceEqDiff, Nat.reduceBEq, Nat.reduceLeDiff, Nat.reduceAdd, Nat.reduceMul]
      refine (rabs_fn false (hz.at hi) (by omega)).call ?_
      simp (disch := first | assumption | (apply Ap.symm; assumption) | omega | decide | (simp only [Xd] <;> omega)) only [cells_RefT, ↓Xa, Xb, Xc, ↓reduceIte, Nat.reduceLT, Nat.reduceEqDiff, Nat.reduceBEq, Nat.reduceLeDiff, Nat.reduceAdd, Nat.reduceMul]
      refine Settle.now ⟨(i + 1, _, false), by dsimp only; omega, ⟨by dsimp only; omega, (hz.at hi).abs, Int.natCast_nonneg _, hc, ?_, fun e => by cases e⟩, rfl⟩
      dsimp only
      rw [hmem]
      exact ⟨fun e => (by cases e), fun e => by have := e.2; omega⟩
    · rw [if_neg h1] at hc
      simp (disch := first | assumption | (apply Ap.symm; assumption) | omega | decide | (simp only [Xd] <;> omega)) only [cmp_gtr0, decide_eq_false h1, ↓Xa, Xb, Xc, ↓reduceIte, Nat.reduceLT, Nat.reduceEqDiff, Nat.reduceBEq, Nat.reduceLeDiff, Nat.reduceAdd, Nat.reduceMul]
      refine Settle.now ⟨(i + 1, _, b), by dsimp only; omega, ⟨by dsimp only; omega, hb, h0, hc, ?_, hw⟩, rfl⟩
      dsimp only
      rw [hmem, ht]
      refine ⟨fun h => ⟨h, ?_⟩, fun h => h.1⟩
      have := hw (ht.2 h)
      omega
  · rw [List.drop_eq_nil_of_le (by omega)] at hc
    have hc : w = widF 0 zs := hc
    rw [List.take_of_length_le (by omega)] at ht
    have hb2 : decide (∀ z, z ∈ zs → z = 0) = b := by
      cases b with
      | true => exact decide_eq_true (ht.1 rfl)
      | false => exact decide_eq_false fun h => by have := ht.2 h; cases this
    rw [← hc, hb2] at hq
    simp (disch := first | assumption | (apply Ap.symm; assumption) | omega | decide | (simp only [Xd] <;> omega)) only [hi, len_rw, ↓Xa, Xb, Xc, ↓reduceIte, Nat.reduceLT, Nat.reduceEqDiff, Nat.reduceBEq, Nat.reduceLeDiff, Nat.reduceAdd, Nat.reduceMul]
    refine Settle.now ?_
    simp (disch := first | assumption | (apply Ap.symm; assumption) | omega | decide | (simp only [Xd] <;> omega)) only [cells_RefT, fold_RefT, rs65, ↓Xa, Xb, Xc, ↓reduceIte, Nat.reduceLT, Nat.reduceEqDiff, Nat.reduceBEq, Nat.reduceLeDiff, Nat.reduceAdd, Nat.reduceMul]
    exact SetR.dropTo (((Le.refl H).updB n1).updB n2) (SetR.now hq)
end Go.Proofs.YtanchgkiomfhhaaDoor.Fw

/- The law that two rows held against each other obey: true. -/
namespace Go.Proofs.YtanchgkiomfhhaaDoor.Fw
set_option linter.unusedSimpArgs false
set_option linter.unusedVariables false
open Go Go.Proofs.YtanchgkiomfhhaaDoor.Ma
set_option maxRecDepth 20000

theorem long_ok {l : List NumV} (h : numT l ≤ 300) : l.length ≤ 300 ∧ ∀ q, q ∈ l → q.2.1.length ≤ 300 := by
  unfold numT at h
  refine ⟨by omega, fun q hq => ?_⟩
  have := sumN_mem (List.mem_map.2 ⟨q, hq, rfl⟩ : q.2.1.length ∈ l.map fun q => q.2.1.length)
  omega
theorem cells_seqN {n : Nat} {l : List AV} {t : Bool} : (AV.seq n l t).cells = some [.seq n l t] := id rfl
theorem eqlB {b : Bool} {K : AV → Prop} : binBW .eql (.bool b) (.bool b) K ↔ K (.bool true) := by simp [binBW]
theorem eqlS {n : Int} {K : AV → Prop} : binW .eql (.int .i64 n) (.int .i64 n) K ↔ K (.bool true) := by simp [binW, binInt]
theorem rowHolds_law (a b : List NumV) (ma : ∀ q, q ∈ a → NumGood q) (mb : ∀ q, q ∈ b → NumGood q) (la : a.length ≤ 140737488355328) (lb : b.length ≤ 140737488355328) :
    PFn Tryd.prog 6 [NumsA a, NumsA b] (.bool true) := by
  intro H Q hq
  have lg := long4_fn (ll := [(a, false), (b, false)]) (t := true) (by simp) (fun x hx => by
    simp only [List.mem_cons, List.not_mem_nil, or_false] at hx
    rcases hx with rfl | rfl
    · exact ⟨la, fun q hq => (ma q hq).2⟩
    · exact ⟨lb, fun q hq => (mb q hq).2⟩)
  have et : sumN ([(a, false), (b, false)].map fun x : List NumV × Bool => numT x.1) = numT a + numT b := by simp [sumN]
  rw [et] at lg
  have lg' : PFn Tryd.prog 33 [.seq 2 [NumsA a, NumsA b] true] (.bool (decide (300 < numT a + numT b))) := lg
  refine enter6 (by simp) ?_
  simp (disch := first | assumption | (apply Ap.symm; assumption) | omega | decide | (simp only [Xd] <;> omega)) only [ac6, ↓Xa, Xb, Xc, ↓reduceIte, Nat.reduceLT, Nat.reduceEqDiff, Nat.reduceBEq, Nat.reduceLeDiff, Nat.reduceAdd, Nat.reduceMul]
  refine live4_fn.call ?_
  simp (disch := first | assumption | (apply Ap.symm; assumption) | omega | decide | (simp only [Xd] <;> omega)) only [repL2, NumsA, cells_seqN, ↓Xa, Xb, Xc, ↓reduceIte, Nat.reduceLT, Nat.reduceEqDiff, Nat.reduceBEq, Nat.reduceLeDiff, Nat.reduceAdd, Nat.reduceMul]
  refine lg'.call ?_
  by_cases hl : 300 < numT a + numT b
  · simp (disch := first | assumption | (apply Ap.symm; assumption) | omega | decide | (simp only [Xd] <;> omega)) only [decide_eq_true hl, rs6, ↓Xa, Xb, Xc, ↓reduceIte, Nat.reduceLT, Nat.reduceEqDiff, Nat.reduceBEq, Nat.reduceLeDiff, Nat.reduceAdd, Nat.reduceMul]
    exact SetR.now hq
  · obtain ⟨a1, a2⟩ := long_ok (l := a) (by omega)
    obtain ⟨b1, b2⟩ := long_ok (l := b) (by omega)
    have hz := rowZ_RB4 a1 ma a2
    have hw := rowZ_RB4 b1 mb b2
    have ofa : PFn Tryd.prog 34 [NumsA a] (.tup [RowA (rowZ a) false, RefR (rowZ a) false]) := of4_fn a1 ma a2
    have ofb : PFn Tryd.prog 34 [NumsA b] (.tup [RowA (rowZ b) false, RefR (rowZ b) false]) := of4_fn b1 mb b2
    generalize rowZ a = zs at *
    generalize rowZ b = ws at *
    obtain ⟨t2, frw⟩ := froww_fn (t := false) hz (by omega)
    have hc := cmpR_bd zs ws
    have hsw := cmpR_swap zs ws
    have hneg : IntKind.i64.wrap (0 - cmpR zs ws) = cmpR ws zs := by rw [hsw, wrap_i64 (by omega) (by omega)]; omega
    simp (disch := first | assumption | (apply Ap.symm; assumption) | omega | decide | (simp only [Xd] <;> omega)) only [decide_eq_false hl, ↓Xa, Xb, Xc, ↓reduceIte, Nat.reduceLT, Nat.reduceEqDiff, Nat.reduceBEq, Nat.reduceLeDiff, Nat.reduceAdd, Nat.reduceMul]
    refine ofa.call ?_
    simp (disch := first | assumption | (apply Ap.symm; assumption) | omega | decide | (simp only [Xd] <;> omega)) only [↓Xa, Xb, Xc, ↓reduceIte, Nat.reduceLT, Nat.reduceEqDiff, Nat.reduceBEq, Nat.reduceLeDiff, Nat.reduceAdd, Nat.reduceMul]
    refine ofb.call ?_
    simp (disch := first | assumption | (apply Ap.symm; assumption) | omega | decide | (simp only [Xd] <;> omega)) only [↓Xa, Xb, Xc, ↓reduceIte, Nat.reduceLT, Nat.reduceEqDiff, Nat.reduceBEq, Nat.reduceLeDiff, Nat.reduceAdd, Nat.reduceMul]
    refine (frowc_fn hz hw (by omega)).call ?_
    simp (disch := first | assumption | (apply Ap.symm; assumption) | omega | decide | (simp only [Xd] <;> omega)) only [↓Xa, Xb, Xc, ↓reduceIte, Nat.reduceLT, Nat.reduceEqDiff, Nat.reduceBEq, Nat.reduceLeDiff, Nat.reduceAdd, Nat.reduceMul]
    refine (rows_fn hz hw (by omega)).call ?_
    simp (disch := first | assumption | (apply Ap.symm; assumption) | omega | decide | (simp only [Xd] <;> omega)) only [↓Xa, Xb, Xc, ↓reduceIte, Nat.reduceLT, Nat.reduceEqDiff, Nat.reduceBEq, Nat.reduceLeDiff, Nat.reduceAdd, Nat.reduceMul]
    refine (frows_fn hz hw (by omega)).call ?_
    simp (disch := first | assumption | (apply Ap.symm; assumption) | omega | decide | (simp only [Xd] <;> omega)) only [eqlB, ↓Xa, Xb, Xc, ↓reduceIte, Nat.reduceLT, Nat.reduceEqDiff, Nat.reduceBEq, Nat.reduceLeDiff, Nat.reduceAdd, Nat.reduceMul]
    refine (rowz_fn hz (by omega)).call ?_
    simp (disch := first | assumption | (apply Ap.symm; assumption) | omega | decide | (simp only [Xd] <;> omega)) only [↓Xa, Xb, Xc, ↓reduceIte, Nat.reduceLT, Nat.reduceEqDiff, Nat.reduceBEq, Nat.reduceLeDiff, Nat.reduceAdd, Nat.reduceMul]
    refine (frowz_fn hz (by omega)).call ?_
    simp (disch := first | assumption | (apply Ap.symm; assumption) | omega | decide | (simp only [Xd] <;> omega)) only [eqlB, ↓Xa, Xb, Xc, ↓reduceIte, Nat.reduceLT, Nat.reduceEqDiff, Nat.reduceBEq, Nat.reduceLeDiff, Nat.reduceAdd, Nat.reduceMul]
    refine (rowc_fn hz hw (by omega)).call ?_
    simp (disch := first | assumption | (apply Ap.symm; assumption) | omega | decide | (simp only [Xd] <;> omega)) only [eqlS, ↓Xa, Xb, Xc, ↓reduceIte, Nat.reduceLT, Nat.reduceEqDiff, Nat.reduceBEq, Nat.reduceLeDiff, Nat.reduceAdd, Nat.reduceMul]
    refine (rowc_fn hw hz (by omega)).call ?_
    simp (disch := first | assumption | (apply Ap.symm; assumption) | omega | decide | (simp only [Xd] <;> omega)) only [hneg, eqlS, ↓Xa, Xb, Xc, ↓reduceIte, Nat.reduceLT, Nat.reduceEqDiff, Nat.reduceBEq, Nat.reduceLeDiff, Nat.reduceAdd, Nat.reduceMul]
    refine (roww_fn hz (by omega)).call ?_
    simp (disch := first | assumption | (apply Ap.symm; assumption) | omega | decide | (simp only [Xd] <;> omega)) only [↓Xa, Xb, Xc, ↓reduceIte, Nat.reduceLT, Nat.reduceEqDiff, Nat.reduceBEq, Nat.reduceLeDiff, Nat.reduceAdd, Nat.reduceMul]
    refine frw.call ?_
    simp (disch := first | assumption | (apply Ap.symm; assumption) | omega | decide | (simp only [Xd] <;> omega)) only [↓Xa, Xb, Xc, ↓reduceIte, Nat.reduceLT, Nat.reduceEqDiff, Nat.reduceBEq, Nat.reduceLeDiff, Nat.reduceAdd, Nat.reduceMul]
    refine (one4_fn t2 (Bd.widF (Bd.zero _) hz.1) (by omega)).call ?_
    simp (disch := first | assumption | (apply Ap.symm; assumption) | omega | decide | (simp only [Xd] <;> omega)) only [↓Xa, Xb, Xc, ↓reduceIte, Nat.reduceLT, Nat.reduceEqDiff, Nat.reduceBEq, Nat.reduceLeDiff, Nat.reduceAdd, Nat.reduceMul]
    refine live4_fn.call ?_
    simp (disch := first | assumption | (apply Ap.symm; assumption) | omega | decide | (simp only [Xd] <;> omega)) only [rs6, ↓Xa, Xb, Xc, ↓reduceIte, Nat.reduceLT, Nat.reduceEqDiff, Nat.reduceBEq, Nat.reduceLeDiff, Nat.reduceAdd, Nat.reduceMul]
    exact SetR.now hq
end Go.Proofs.YtanchgkiomfhhaaDoor.Fw
