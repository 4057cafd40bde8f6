/- The texts Lay156 Kj Kh Kk Kl Km Ko Kp Kq, joined. -/
import Derived.Test.YtanchgkiomfhhaaDoorZ7
import Derived.Shelf.Strings.OnBuilder
import Derived.Test.YtanchgkiomfhhaaDoorProg
import Derived.Lib.SmallJoins
/- The numbers under which the library's functions stand in this program, and that their texts are those which the kit's contracts speak of: printed by wip/tools/lay.py. -/
namespace Go.Proofs.YtanchgkiomfhhaaDoor.Fw
open Go Go.Shelf Go.Proofs
def lay156_ren : Ren :=
  {
    f := fun x =>
      match x with
      | 156 => 168
      | 165 => 203
      | 166 => 204
      | 169 => 205
      | 240 => 215
      | 241 => 216
      | 276 => 227
      | 277 => 228
      | n => n,
    t := fun x =>
      match x with
      | 31 => 202
      | 9 => 9
      | 3 => 3
      | 4 => 4
      | 0 => 0
      | 20 => 20
      | 72 => 234
      | 76 => 238
      | 70 => 232
      | 37 => 103
      | 75 => 237
      | 127 => 251
      | 164 => 263
      | 5 => 5
      | 80 => 36
      | n => n,
    g := fun x =>
      have n := x;
      n }
theorem lay156 : Lays.n156 Tryd.prog lay156_ren :=
  { mixed := Eq.refl true, f156 := Eq.trans Tryd.func168 (congrArg some (Eq.refl (Body.n156 lay156_ren))),
    f165 := Eq.trans Tryd.func203 (congrArg some (Eq.refl (Body.n165 lay156_ren))),
    f166 := Eq.trans Tryd.func204 (congrArg some (Eq.refl (Body.n166 lay156_ren))),
    f169 := Eq.trans Tryd.func205 (congrArg some (Eq.refl (Body.n169 lay156_ren))),
    f240 := Eq.trans Tryd.func215 (congrArg some (Eq.refl (Body.n240 lay156_ren))),
    f241 := Eq.trans Tryd.func216 (congrArg some (Eq.refl (Body.n241 lay156_ren))),
    f276 := Eq.trans Tryd.func227 (congrArg some (Eq.refl (Body.n276 lay156_ren))),
    f277 := Eq.trans Tryd.func228 (congrArg some (Eq.refl (Body.n277 lay156_ren))), t0 := Tryd.underlying0,
    a0 := Tryd.isAgg0, z0 := Tryd.sizeOf0, v0 := Tryd.zeroValue0, t3 := Tryd.underlying3, a3 := Tryd.isAgg3,
    z3 := Tryd.sizeOf3, v3 := Tryd.zeroValue3, t4 := Tryd.underlying4, a4 := Tryd.isAgg4, z4 := Tryd.sizeOf4,
    v4 := Tryd.zeroValue4, t9 := Tryd.underlying9, a9 := Tryd.isAgg9, z9 := Tryd.sizeOf9, v9 := Tryd.zeroValue9,
    t20 := Tryd.underlying20, a20 := Tryd.isAgg20, z20 := Tryd.sizeOf20, v20 := Tryd.zeroValue20,
    t31 := Tryd.underlying202, a31 := Tryd.isAgg202, z31 := Tryd.sizeOf202, v31 := Tryd.zeroValue202,
    t37 := Tryd.underlying103, a37 := Tryd.isAgg103, z37 := Tryd.sizeOf103, v37 := Tryd.zeroValue103,
    t70 := Tryd.underlying232, a70 := Tryd.isAgg232, z70 := Tryd.sizeOf232, v70 := Tryd.zeroValue232,
    t72 := Tryd.underlying234, a72 := Tryd.isAgg234, z72 := Tryd.sizeOf234, v72 := Tryd.zeroValue234,
    t75 := Tryd.underlying237, a75 := Tryd.isAgg237, z75 := Tryd.sizeOf237, v75 := Tryd.zeroValue237,
    t76 := Tryd.underlying238, a76 := Tryd.isAgg238, z76 := Tryd.sizeOf238, v76 := Tryd.zeroValue238,
    t127 := Tryd.underlying251, a127 := Tryd.isAgg251, z127 := Tryd.sizeOf251, v127 := Tryd.zeroValue251,
    t164 := Tryd.underlying263, a164 := Tryd.isAgg263, z164 := Tryd.sizeOf263, v164 := Tryd.zeroValue263 }
end Go.Proofs.YtanchgkiomfhhaaDoor.Fw

/- Strings joined: by the kit's contract. -/
namespace Go.Proofs.YtanchgkiomfhhaaDoor.Fw
set_option linter.unusedSimpArgs false
set_option linter.unusedVariables false
open Go Go.Proofs.YtanchgkiomfhhaaDoor.Ma Go.Shelf
set_option maxRecDepth 20000

theorem pfn_calls {P : Program} {f : FuncId} {args : List AV} {r : AV} (hf : ∃ fn, P.funcs[f]? = some fn ∧ (fn.name == "runtime.NumGoroutine") = false ∧ fn.body.isNone = false)
    (h : ∀ (c : Ctx) (vs : Array Value), Ok c → vs.size = args.length → (∀ i (h : i < args.length) (h' : i < vs.size), Enc c (args[i]) (vs[i])) → Calls P f vs c.w fun e w' => ∃ v, e = .returned v ∧ (∀ c', Enc c' r v) ∧ Go.RowKit.Below c.w.heap.size c.w w') : PFn P f args r := by
  intro H Q hq
  refine ⟨hf, fun c vs hH hok hs he => (h c vs hok hs he).mono ?_⟩
  rintro e w' ⟨v, rfl, hr, hb⟩
  let c2 : Ctx := { c with w := w' }
  have hsz : ∀ i x, c.H i = some x → c.μ i < c.w.heap.size := fun i x e => by
    have := hok.blk i x e
    cases x with
    | row ty es cells => obtain ⟨arr, h1, _⟩ := this; exact (Array.getElem?_eq_some_iff.1 h1).1
    | raw o => exact (Array.getElem?_eq_some_iff.1 this.1).1
    | glob g cells => rw [this.1]; exact this.2.1
    | loop st pend fn ps assign body n E => obtain ⟨tm, dd, h1, _⟩ := this; exact (Array.getElem?_eq_some_iff.1 h1).1
  have later : Later c c2 := by
    refine ⟨⟨hb.size, hb.os, hb.tape, hb.output, fun _ h => h, ?_, fun k hk hm => ⟨hb.block k hk, hm⟩⟩, fun _ h => ⟨h, fun k => k⟩⟩
    intro i x' _ hx'
    exact ⟨x', hx', Nat.le_refl _, fun _ => ⟨rfl, fun ty' es' cells' e => ⟨cells', e, fun arr ha => ⟨arr, (hb.block _ (hsz i x' hx')).trans ha, rfl⟩⟩⟩⟩
  have ok : Ok c2 := ⟨hok.used, hok.fin, hok.inj, fun b x hx => (hok.blk b x hx).later later rfl (hb.block _ (hsz b x hx))⟩
  exact ⟨c2, v, r, rfl, rfl, ok, later, hr c2, by show Q r c.H; rw [hH]; exact hq⟩
theorem joinX : Builder.Extra Tryd.prog lay156_ren where
  sizeBuilder := by kernel_rfl
  liesBuilder := by kernel_rfl
  t5 := Tryd.underlying5
  a5 := Tryd.isAgg5
  z5 := Tryd.sizeOf5
  v5 := Tryd.zeroValue5
  infoByte := by kernel_rfl
  cellsByte := by kernel_rfl
  sizeByte := by kernel_rfl
  neB5 := by decide
theorem join_fn (xs : List (List UInt8)) (sep : List UInt8) (t : Bool) (hN : xs.length ≤ 1000000) (hlen : (Lib.join xs sep).length ≤ 140737488355328) : PFn Tryd.prog 168 [.seq xs.length (xs.map Sx) t, Sx sep] (Sx (Lib.join xs sep)) := by
  by_cases h0 : xs = []
  · subst h0
    intro H Q hq
    refine enter168 (by simp) ?_
    have e : Lib.join ([] : List (List UInt8)) sep = [] := rfl
    rw [e] at hq
    have l0 : ([] : List (List UInt8)).length = 0 := rfl
    simp (disch := first | assumption | (apply Ap.symm; assumption) | omega | decide | (simp only [Xd] <;> omega)) only [ac168, l0, len_rw, rs168, ↓Xa, Xb, Xc, ↓reduceIte, Nat.reduceLT, Nat.reduceEqDiff, Nat.reduceBEq, Nat.reduceLeDiff, Nat.reduceAdd, Nat.reduceMul]
    exact SetR.now hq
  · refine pfn_calls ⟨_, Tryd.func168, by kernel_rfl, by kernel_rfl⟩ fun c vs hok hs he => ?_
    obtain ⟨v0, v1, rfl⟩ : ∃ v0 v1, vs = #[v0, v1] := Go.Joins.array2 hs
    have e0 : Enc c (.seq xs.length (xs.map Sx) t) v0 := he 0 (by simp) (by simp)
    have e1 : Enc c (Sx sep) v1 := he 1 (by simp) (by simp)
    cases e1
    cases e0 with
    | seq _ _ _ base cap cv hlen' hcap hmax ht hb hn hc =>
      obtain ⟨k, off, rfl, hmu, hk, hcell⟩ := hb (by simpa using List.length_pos_iff.2 h0)
      have hce : ∀ (j : Nat) x, (xs.map fun l => (⟨l.toArray⟩ : ByteArray))[j]? = some x → c.w.cell? ⟨k, off + j, none⟩ = some (.string x) := fun j x hx => by
        rw [List.getElem?_map] at hx
        obtain ⟨y, hy, rfl⟩ := Option.map_eq_some_iff.1 hx
        obtain ⟨hj, hy⟩ := List.getElem?_eq_some_iff.1 hy
        have h1 := hcell j (by simpa using hj)
        have h2 := hc j (by simpa using hj)
        rw [List.getElem_map, hy] at h2
        generalize cv j = u at h1 h2
        cases h2
        exact h1
      have hm : (xs.map fun l => (⟨l.toArray⟩ : ByteArray)).map (·.data.toList) = xs := by
        rw [List.map_map]
        exact (List.map_congr_left fun l _ => by simp).trans (List.map_id xs)
      have := Any.strings_Join (P := Tryd.prog) (ρ := lay156_ren) lay156 joinX k off cap (xs.map fun l => (⟨l.toArray⟩ : ByteArray)) ⟨sep.toArray⟩ c.w hce hk (by simpa using Nat.le_trans hN (by omega)) (by simpa using hcap) (by rw [hm]; simpa using hlen)
      rw [hm, List.length_map] at this
      refine this.mono fun e w' ⟨h1, h2⟩ => ⟨_, h1, fun c' => ?_, h2⟩
      simp only [Sx]
      exact .str _
end Go.Proofs.YtanchgkiomfhhaaDoor.Fw

/- Rows of whole numbers: made of small ones, told; what the laws' own helpers answer. -/
namespace Go.Proofs.YtanchgkiomfhhaaDoor.Fw
set_option linter.unusedSimpArgs false
set_option linter.unusedVariables false
open Go Go.Proofs.YtanchgkiomfhhaaDoor.Ma
set_option maxRecDepth 20000

theorem repF0 {a : AV} : repA [a] 1 = [a] := by simp [repA, List.range, List.range.loop]
theorem load_map {α : Type} {f : α → AV} {l : List α} {H : AHeap} {K : AV → Prop} {i : Nat} (h : i < l.length) : loadW H none (.cptr ((l.map f).drop i)) K = K (f (l[i])) := by
  have hi : i < (l.map f).length := by simpa using h
  simp only [loadW, cellsAt, List.drop_eq_getElem_cons hi]
  simp
theorem idx_map {α : Type} {f : α → AV} {l : List α} {t : Bool} {k : IntKind} {K : AV → Prop} {i : Nat} (h : i < l.length) : idxAW 1 (.seq l.length (l.map f) t) (.int k (i : Int)) K = K (.cptr ((l.map f).drop (i * 1))) := idx_rw (by simp) h
abbrev iA (n : Int) : AV := .int .i64 n
theorem rowof_run {l : List Int} {t : Bool} (hb : ∀ n, n ∈ l → -9223372036854775808 ≤ n ∧ n < 9223372036854775808) (hbig : l.length ≤ 1000000) {H : AHeap} {Q : AV → AHeap → Prop} (hq : ∀ y M, growC H 28 2 l.length (IC l) y M → Q y M) : Run Tryd.prog 54 [.seq l.length (l.map iA) t] H Q := by
  refine enter54 (by simp) ?_
  simp (disch := first | assumption | (apply Ap.symm; assumption) | omega | decide | (simp only [Xd] <;> omega)) only [ac54, len_rw, ↓Xa, Xb, Xc, ↓reduceIte, Nat.reduceLT, Nat.reduceEqDiff, Nat.reduceBEq, Nat.reduceLeDiff, Nat.reduceAdd, Nat.reduceMul]
  refine W_loop (fun s : Nat × AV × AHeap => ⟨[], [(3, s.2.1), (6, .seq l.length (l.map iA) t), (7, .int .i64 (l.length : Int)), (8, .int .i64 s.1)], s.2.2⟩) (fun s => s.1 ≤ l.length ∧ growC H 28 2 s.1 (IC (l.take s.1)) s.2.1 s.2.2) (fun s => l.length - s.1) (0, .seq 0 [] true, H) (Settle.now rfl) ⟨Nat.zero_le _, growC_nil⟩ ?_
  rintro ⟨i, y, M⟩ ⟨h3, hg⟩
  dsimp only at h3 hg ⊢
  by_cases hi : i < l.length
  · simp (disch := first | assumption | (apply Ap.symm; assumption) | omega | decide | (simp only [Xd] <;> omega)) only [hi, idx_map, load_map, ↓Xa, Xb, Xc, ↓reduceIte, Nat.reduceLT, Nat.reduceEqDiff, Nat.reduceBEq, Nat.reduceLeDiff, Nat.reduceAdd, Nat.reduceMul]
    refine (of_fn (hb _ (List.getElem_mem hi))).call ?_
    simp (disch := first | assumption | (apply Ap.symm; assumption) | omega | decide | (simp only [Xd] <;> omega)) only [repI1, cells_IntA, ↓Xa, Xb, Xc, ↓reduceIte, Nat.reduceLT, Nat.reduceEqDiff, Nat.reduceBEq, Nat.reduceLeDiff, Nat.reduceAdd, Nat.reduceMul]
    refine app_C (m := 1) hg rfl cellI (by omega) (by omega) (by omega) fun y' M2 hg3 => ?_
    rw [← IC_take] at hg3
    simp (disch := first | assumption | (apply Ap.symm; assumption) | omega | decide | (simp only [Xd] <;> omega)) only [↓Xa, Xb, Xc, ↓reduceIte, Nat.reduceLT, Nat.reduceEqDiff, Nat.reduceBEq, Nat.reduceLeDiff, Nat.reduceAdd, Nat.reduceMul]
    exact Settle.now ⟨(i + 1, y', M2), by dsimp only; omega, ⟨by dsimp only; omega, hg3⟩, rfl⟩
  · obtain rfl : i = l.length := by omega
    rw [List.take_of_length_le (by omega)] at hg
    simp (disch := first | assumption | (apply Ap.symm; assumption) | omega | decide | (simp only [Xd] <;> omega)) only [hi, ↓Xa, Xb, Xc, ↓reduceIte, Nat.reduceLT, Nat.reduceEqDiff, Nat.reduceBEq, Nat.reduceLeDiff, Nat.reduceAdd, Nat.reduceMul]
    refine Settle.now ?_
    simp (disch := first | assumption | (apply Ap.symm; assumption) | omega | decide | (simp only [Xd] <;> omega)) only [rs54, ↓Xa, Xb, Xc, ↓reduceIte, Nat.reduceLT, Nat.reduceEqDiff, Nat.reduceBEq, Nat.reduceLeDiff, Nat.reduceAdd, Nat.reduceMul]
    exact SetR.now (hq y M hg)
theorem rowof_fn {l : List Int} {t : Bool} (hb : ∀ n, n ∈ l → -9223372036854775808 ≤ n ∧ n < 9223372036854775808) (hbig : l.length ≤ 1000000) : PFn Tryd.prog 54 [.seq l.length (l.map iA) t] (RowA l false) :=
  PFn.frozen fun _ _ hq => rowof_run hb hbig hq

def joinT : List (List UInt8) → List UInt8
  | [] => []
  | [x] => x
  | x :: y :: r => x ++ 32 :: joinT (y :: r)
theorem joinT_eq : ∀ xs : List (List UInt8), Lib.join xs [32] = joinT xs
  | [] => rfl
  | [x] => by simp [Lib.join, joinT, List.intercalate]
  | x :: y :: r => by
    have := joinT_eq (y :: r)
    simp only [Lib.join, joinT, List.intercalate] at this ⊢
    rw [← this]
    simp
theorem joinT_len {k : Nat} : ∀ xs : List (List UInt8), (∀ x, x ∈ xs → x.length ≤ k) → (joinT xs).length ≤ xs.length * (k + 1)
  | [], _ => by simp [joinT]
  | [x], h => by have := h x (by simp); simp [joinT]; omega
  | x :: y :: r, h => by
    have h1 := joinT_len (y :: r) fun z hz => h z (by simp at hz ⊢; exact .inr hz)
    have h2 := h x (by simp)
    simp only [joinT, List.length_append, List.length_cons] at h1 ⊢
    rw [Nat.add_mul]; omega
def rowT (zs : List Int) : List UInt8 := 91 :: joinT (zs.map iText) ++ [93]
theorem joinI_len {k : Nat} {zs : List Int} (hz : RB4 k zs) (hk : k ≤ 1000000) (hbig : zs.length ≤ 1000000) : (joinT (zs.map iText)).length ≤ 1000000 * 10000003 := by
  refine Nat.le_trans (joinT_len (k := 10 * k + 2) _ fun x hx => ?_) ?_
  · obtain ⟨z, hm, rfl⟩ := List.mem_map.1 hx
    exact iText_len (hz.1 z hm)
  · rw [List.length_map]; exact Nat.mul_le_mul hbig (by omega)
theorem cell_Sx1 {l : List UInt8} : [Sx l].all AV.cell = true := rfl
theorem rowt_fn {zs : List Int} {t : Bool} {k : Nat} (hz : RB4 k zs) (hk : k ≤ 1000000) (hbig : zs.length ≤ 1000000) : PFn Tryd.prog 86 [RowA zs t] (Sx (rowT zs)) := by
  intro H Q hq
  have nz : zs.length < 9223372036854775808 := by omega
  have hjl := joinI_len hz hk hbig
  refine enter86 (by simp) ?_
  simp (disch := first | assumption | (apply Ap.symm; assumption) | omega | decide | (simp only [Xd] <;> omega)) only [ac86, len_rw, ↓Xa, Xb, Xc, ↓reduceIte, Nat.reduceLT, Nat.reduceEqDiff, Nat.reduceBEq, Nat.reduceLeDiff, Nat.reduceAdd, Nat.reduceMul]
  refine W_loop (fun s : Nat × AV × AHeap => ⟨[], [(3, s.2.1), (6, RowA zs t), (7, .int .i64 (zs.length : Int)), (8, .int .i64 s.1)], s.2.2⟩) (fun s => s.1 ≤ zs.length ∧ growC H 9 1 s.1 ((zs.take s.1).map fun z => Sx (iText z)) s.2.1 s.2.2) (fun s => zs.length - s.1) (0, .seq 0 [] true, H) (Settle.now rfl) ⟨Nat.zero_le _, growC_nil⟩ ?_
  rintro ⟨i, y, M⟩ ⟨h3, hg⟩
  dsimp only at h3 hg ⊢
  by_cases hi : i < zs.length
  · simp (disch := first | assumption | (apply Ap.symm; assumption) | omega | decide | (simp only [Xd] <;> omega)) only [hi, idx_IC, load_IC, ↓Xa, Xb, Xc, ↓reduceIte, Nat.reduceLT, Nat.reduceEqDiff, Nat.reduceBEq, Nat.reduceLeDiff, Nat.reduceAdd, Nat.reduceMul]
    refine alloc_i fun q hq1 => ?_
    simp (disch := first | assumption | (apply Ap.symm; assumption) | omega | decide | (simp only [Xd] <;> omega)) only [cells_IntA, fold_IntA, ↓Xa, Xb, Xc, ↓reduceIte, Nat.reduceLT, Nat.reduceEqDiff, Nat.reduceBEq, Nat.reduceLeDiff, Nat.reduceAdd, Nat.reduceMul]
    have hg1 := growC_upd (r := .row 28 0 [IntB (zs[i]), IntD (zs[i])]) hg hq1
    refine (itext_fn (hz.at hi) hk).call ?_
    simp (disch := first | assumption | (apply Ap.symm; assumption) | omega | decide | (simp only [Xd] <;> omega)) only [repF0, cells_Sx, str_Sx, ↓Xa, Xb, Xc, ↓reduceIte, Nat.reduceLT, Nat.reduceEqDiff, Nat.reduceBEq, Nat.reduceLeDiff, Nat.reduceAdd, Nat.reduceMul]
    refine app_C (m := 1) hg1 rfl cell_Sx1 (by omega) (by omega) (by omega) fun y' M2 hg3 => ?_
    have e : (zs.take (i + 1)).map (fun z => Sx (iText z)) = (zs.take i).map (fun z => Sx (iText z)) ++ [Sx (iText (zs[i]))] := by
      rw [List.take_add_one, List.getElem?_eq_getElem hi, Option.toList_some, List.map_append]; rfl
    rw [← e] at hg3
    obtain ⟨M3, hg4, hl4⟩ := growC_le2 hg3 ((Le.refl H).upd (growC_none hg hq1))
    simp (disch := first | assumption | (apply Ap.symm; assumption) | omega | decide | (simp only [Xd] <;> omega)) only [↓Xa, Xb, Xc, ↓reduceIte, Nat.reduceLT, Nat.reduceEqDiff, Nat.reduceBEq, Nat.reduceLeDiff, Nat.reduceAdd, Nat.reduceMul]
    exact Settle.dropTo hl4 (Settle.now ⟨(i + 1, y', M3), by dsimp only; omega, ⟨by dsimp only; omega, hg4⟩, rfl⟩)
  · obtain rfl : i = zs.length := by omega
    rw [List.take_of_length_le (by omega)] at hg
    simp (disch := first | assumption | (apply Ap.symm; assumption) | omega | decide | (simp only [Xd] <;> omega)) only [hi, ↓Xa, Xb, Xc, ↓reduceIte, Nat.reduceLT, Nat.reduceEqDiff, Nat.reduceBEq, Nat.reduceLeDiff, Nat.reduceAdd, Nat.reduceMul]
    refine Settle.grownC 3 rfl hg (Settle.now ?_)
    have hj := join_fn (zs.map iText) [32] false (by simpa using hbig) (by rw [joinT_eq]; omega)
    rw [joinT_eq, List.length_map, List.map_map] at hj
    have s1 : AV.str ⟨#[91]⟩ = Sx [91] := rfl
    have s2 : AV.str ⟨#[93]⟩ = Sx [93] := rfl
    have s3 : AV.str ⟨#[32]⟩ = Sx [32] := rfl
    have e1 : ∀ K, binW .add (Sx [91]) (Sx (joinT (zs.map iText))) K = K (Sx (91 :: joinT (zs.map iText))) := fun K => add_Sx (by simp only [List.length_cons, List.length_append, List.length_nil]; omega)
    have e2 : ∀ K, binW .add (Sx (91 :: joinT (zs.map iText))) (Sx [93]) K = K (Sx (rowT zs)) := fun K => by rw [add_Sx (by simp only [List.length_cons, List.length_append, List.length_nil]; omega)]; rfl
    simp (disch := first | assumption | (apply Ap.symm; assumption) | omega | decide | (simp only [Xd] <;> omega)) only [s3, ↓Xa, Xb, Xc, ↓reduceIte, Nat.reduceLT, Nat.reduceEqDiff, Nat.reduceBEq, Nat.reduceLeDiff, Nat.reduceAdd, Nat.reduceMul]
    refine hj.call ?_
    simp (disch := first | assumption | (apply Ap.symm; assumption) | omega | decide | (simp only [Xd] <;> omega)) only [s1, s2, e1, e2, rs86, ↓Xa, Xb, Xc, ↓reduceIte, Nat.reduceLT, Nat.reduceEqDiff, Nat.reduceBEq, Nat.reduceLeDiff, Nat.reduceAdd, Nat.reduceMul]
    exact SetR.now hq
end Go.Proofs.YtanchgkiomfhhaaDoor.Fw

/- The row laws' own helpers: an answer that is fixed, rows that are too long, a row in both, one number in both, rows in both. -/
namespace Go.Proofs.YtanchgkiomfhhaaDoor.Fw
set_option linter.unusedSimpArgs false
set_option linter.unusedVariables false
open Go Go.Proofs.YtanchgkiomfhhaaDoor.Ma
set_option maxRecDepth 20000

theorem repL2 {a : AV} : repA [a] 2 = [a, a] := by simp [repA, List.range, List.range.loop]
theorem live4_t : rowT [4, -2] = [91, 52, 32, 45, 50, 93] := by simp [rowT, joinT, iText, decT, dec, digs, chr]
theorem live4_fn : PFn Tryd.prog 32 [] (.bool true) := by
  intro H Q hq
  obtain ⟨L1, e1, of1⟩ : ∃ L1, L1 = RowA [1, 2] false ∧ PFn Tryd.prog 54 [.seq 2 [.int .i64 ((1 : Nat) : Int), .int .i64 ((2 : Nat) : Int)] true] L1 := ⟨_, rfl, rowof_fn (l := [1, 2]) (by simp) (by simp)⟩
  obtain ⟨L2, e2, of2⟩ : ∃ L2, L2 = RowA [3, -4] false ∧ PFn Tryd.prog 54 [.seq 2 [.int .i64 ((3 : Nat) : Int), .int .i64 (-4)] true] L2 := ⟨_, rfl, rowof_fn (l := [3, -4]) (by simp) (by simp)⟩
  have b1 : RB4 2 [1, 2] := ⟨fun z h => Bd.i64 (by simp at h; omega), by simp⟩
  have b2 : RB4 2 [3, -4] := ⟨fun z h => Bd.i64 (by simp at h; omega), by simp⟩
  have b3 : RB4 2 [4, -2] := ⟨fun z h => Bd.i64 (by simp at h; omega), by simp⟩
  obtain ⟨L3, e3, add⟩ : ∃ L3, L3 = RowA [4, -2] false ∧ PFn Tryd.prog 37 [L1, L2] (.tup [L3, .int .i64 ((0 : Nat) : Int)]) := ⟨_, rfl, by
    rw [e1, e2]
    exact PFn.frozen1 fun H Q hq => rowadd_run b1 b2 (by omega) rfl (by simp) hq⟩
  have tx := rowt_fn (t := false) b3 (by omega) (by simp)
  rw [← e3, live4_t] at tx
  have s1 : AV.str ⟨#[91, 52, 32, 45, 50, 93]⟩ = Sx [91, 52, 32, 45, 50, 93] := rfl
  refine enter32 (by simp) ?_
  simp (disch := first | assumption | (apply Ap.symm; assumption) | omega | decide | (simp only [Xd] <;> omega)) only [ac32, repL2, ↓Xa, Xb, Xc, ↓reduceIte, Nat.reduceLT, Nat.reduceEqDiff, Nat.reduceBEq, Nat.reduceLeDiff, Nat.reduceAdd, Nat.reduceMul]
  refine of1.call ?_
  simp (disch := first | assumption | (apply Ap.symm; assumption) | omega | decide | (simp only [Xd] <;> omega)) only [repL2, ↓Xa, Xb, Xc, ↓reduceIte, Nat.reduceLT, Nat.reduceEqDiff, Nat.reduceBEq, Nat.reduceLeDiff, Nat.reduceAdd, Nat.reduceMul]
  refine of2.call ?_
  simp (disch := first | assumption | (apply Ap.symm; assumption) | omega | decide | (simp only [Xd] <;> omega)) only [↓Xa, Xb, Xc, ↓reduceIte, Nat.reduceLT, Nat.reduceEqDiff, Nat.reduceBEq, Nat.reduceLeDiff, Nat.reduceAdd, Nat.reduceMul]
  refine add.call ?_
  simp (disch := first | assumption | (apply Ap.symm; assumption) | omega | decide | (simp only [Xd] <;> omega)) only [eql_self, ↓Xa, Xb, Xc, ↓reduceIte, Nat.reduceLT, Nat.reduceEqDiff, Nat.reduceBEq, Nat.reduceLeDiff, Nat.reduceAdd, Nat.reduceMul]
  refine tx.call ?_
  simp (disch := first | assumption | (apply Ap.symm; assumption) | omega | decide | (simp only [Xd] <;> omega)) only [s1, eql_Sx, rs32, ↓Xa, Xb, Xc, ↓reduceIte, Nat.reduceLT, Nat.reduceEqDiff, Nat.reduceBEq, Nat.reduceLeDiff, Nat.reduceAdd, Nat.reduceMul]
  exact SetR.now hq

/-! ### too long -/
def sumN : List Nat → Nat
  | [] => 0
  | a :: l => a + sumN l
theorem sumN_app : ∀ (l m : List Nat), sumN (l ++ m) = sumN l + sumN m
  | [], m => by simp [sumN]
  | a :: l, m => by simp only [List.cons_append, sumN, sumN_app l m]; omega
theorem sumN_mem : ∀ {l : List Nat} {a : Nat}, a ∈ l → a ≤ sumN l
  | x :: l, a, h => by
    rcases List.mem_cons.1 h with rfl | h
    · simp [sumN]
    · have := sumN_mem h; simp only [sumN]; omega
theorem sumN_take (l : List Nat) (i : Nat) : sumN (l.take i) ≤ sumN l := by
  conv => rhs; rw [← List.take_append_drop i l, sumN_app]
  omega
theorem sumN_succ {l : List Nat} {i : Nat} (h : i < l.length) : sumN (l.take (i + 1)) = sumN (l.take i) + l[i] := by
  rw [List.take_add_one, List.getElem?_eq_getElem h, Option.toList_some, sumN_app]; simp [sumN]
theorem NumsC_len (l : List NumV) : (NumsC l).length = l.length * 2 := by unfold NumsC; rw [pair_len (c0 := fun q : NumV => AV.bool q.1) (c1 := fun q : NumV => LS q.2.1 q.2.2)]; omega
theorem NumsC_drop : ∀ (l : List NumV) (i : Nat) (h : i < l.length), (NumsC l).drop (i * 2) = .bool (l[i]).1 :: LS (l[i]).2.1 (l[i]).2.2 :: (NumsC l).drop (i * 2 + 2)
  | a :: l, 0, _ => rfl
  | a :: l, i + 1, h => by
    have := NumsC_drop l i (by simpa using h)
    rw [show (i + 1) * 2 = i * 2 + 2 by omega]
    show ((.bool a.1 :: LS a.2.1 a.2.2 :: NumsC l).drop (i * 2 + 2)) = _
    simp only [List.drop_succ_cons, List.getElem_cons_succ]
    rw [this]
    show _ = _ :: _ :: ((.bool a.1 :: LS a.2.1 a.2.2 :: NumsC l).drop (i * 2 + 2 + 2))
    simp only [List.drop_succ_cons]
section
variable {K : AV → Prop} {H : AHeap} {k : IntKind} {t : Bool} {l : List NumV} {i : Nat}
theorem idx_NC (h : i < l.length) : idxAW 2 (.seq l.length (NumsC l) t) (.int k (i : Int)) K = K (.cptr ((NumsC l).drop (i * 2))) := idx_rw (NumsC_len l) h
theorem load_NC0 (h : i < l.length) : loadW H none (.cptr ((NumsC l).drop (i * 2))) K = K (.bool (l[i]).1) := by
  simp only [loadW, cellsAt, NumsC_drop l i h]; simp
theorem load_NC1 (h : i < l.length) : loadW H none (.cptr (((NumsC l).drop (i * 2)).drop 1)) K = K (LS (l[i]).2.1 (l[i]).2.2) := by
  simp only [loadW, cellsAt, NumsC_drop l i h]; simp
end
def numT (l : List NumV) : Nat := l.length + sumN (l.map fun q => q.2.1.length)
abbrev rowN (x : List NumV × Bool) : AV := .seq x.1.length (NumsC x.1) x.2
theorem long4_fn {ll : List (List NumV × Bool)} {t : Bool} (hl : ll.length ≤ 1000) (hg : ∀ x, x ∈ ll → x.1.length ≤ 140737488355328 ∧ ∀ q, q ∈ x.1 → q.2.1.length ≤ 140737488355328) :
    PFn Tryd.prog 33 [.seq ll.length (ll.map rowN) t] (.bool (decide (300 < sumN (ll.map fun x => numT x.1)))) := by
  intro H Q hq
  have big : ∀ {n : Nat}, 300 < n → n ≤ sumN (ll.map fun x => numT x.1) → Q (.bool true) H := fun h h2 => by
    rw [decide_eq_true (by omega)] at hq; exact hq
  refine enter33 (by simp) ?_
  simp (disch := first | assumption | (apply Ap.symm; assumption) | omega | decide | (simp only [Xd] <;> omega)) only [ac33, ↓Xa, Xb, Xc, ↓reduceIte, Nat.reduceLT, Nat.reduceEqDiff, Nat.reduceBEq, Nat.reduceLeDiff, Nat.reduceAdd, Nat.reduceMul]
  refine W_loop (fun s : Nat => ⟨[], [(0, .seq ll.length (ll.map rowN) t), (3, .int .i64 ((sumN ((ll.take s).map fun x => numT x.1) : Nat) : Int)), (4, .int .i64 s)], H⟩) (fun s => s ≤ ll.length ∧ sumN ((ll.take s).map fun x => numT x.1) ≤ 300) (fun s => ll.length - s) 0 (Settle.now rfl) ⟨Nat.zero_le _, by simp [sumN]⟩ ?_
  rintro i ⟨h3, hn⟩
  by_cases hi : i < ll.length
  · have hsucc : sumN ((ll.take (i + 1)).map fun x => numT x.1) = sumN ((ll.take i).map fun x => numT x.1) + numT (ll[i]).1 := by
      rw [List.map_take, sumN_succ (by simpa using hi), ← List.map_take, List.getElem_map]
    have htot : sumN ((ll.take (i + 1)).map fun x => numT x.1) ≤ sumN (ll.map fun x => numT x.1) := by rw [List.map_take]; exact sumN_take _ _
    obtain ⟨g1, g2⟩ := hg _ (List.getElem_mem hi)
    generalize hL : ll[i] = L at *
    obtain ⟨l, tl⟩ := L
    dsimp only at g1 g2 hsucc
    have hnt : numT l = l.length + sumN (l.map fun q => q.2.1.length) := rfl
    generalize hn0 : sumN ((ll.take i).map fun x => numT x.1) = n at *
    have hld : ∀ {M : AHeap} {K : AV → Prop}, loadW M none (.cptr ((ll.map rowN).drop i)) K = K (rowN (l, tl)) := fun {M K} => by rw [load_map hi, hL]
    by_cases hx : 300 < n + l.length
    · simp (disch := first | assumption | (apply Ap.symm; assumption) | omega | decide | (simp only [Xd] <;> omega)) only [hi, len_rw, idx_map, hld, hx, rs33, ↓Xa, Xb, Xc, ↓reduceIte, Nat.reduceLT, Nat.reduceEqDiff, Nat.reduceBEq, Nat.reduceLeDiff, Nat.reduceAdd, Nat.reduceMul]
      exact SetR.now (big hx (by omega))
    · simp (disch := first | assumption | (apply Ap.symm; assumption) | omega | decide | (simp only [Xd] <;> omega)) only [hi, len_rw, idx_map, hld, hx, ↓Xa, Xb, Xc, ↓reduceIte, Nat.reduceLT, Nat.reduceEqDiff, Nat.reduceBEq, Nat.reduceLeDiff, Nat.reduceAdd, Nat.reduceMul]
      refine W_loop (fun s : Nat => ⟨[], [(0, .seq ll.length (ll.map rowN) t), (3, .int .i64 ((n + l.length + sumN ((l.take s).map fun q => q.2.1.length) : Nat) : Int)), (4, .int .i64 i), (5, .int .i64 s)], H⟩) (fun s => s ≤ l.length ∧ n + l.length + sumN ((l.take s).map fun q => q.2.1.length) ≤ 300) (fun s => l.length - s) 0 (Settle.now rfl) ⟨Nat.zero_le _, by simp [sumN]; omega⟩ ?_
      rintro k ⟨h4, hm⟩
      by_cases hk : k < l.length
      · have ksucc : sumN ((l.take (k + 1)).map fun q => q.2.1.length) = sumN ((l.take k).map fun q => q.2.1.length) + (l[k]).2.1.length := by
          rw [List.map_take, sumN_succ (by simpa using hk), ← List.map_take, List.getElem_map]
        have ktot : sumN ((l.take (k + 1)).map fun q => q.2.1.length) ≤ sumN (l.map fun q => q.2.1.length) := by rw [List.map_take]; exact sumN_take _ _
        have gk := g2 _ (List.getElem_mem hk)
        generalize hs0 : sumN ((l.take k).map fun q => q.2.1.length) = s at *
        by_cases hy : 300 < n + l.length + s + (l[k]).2.1.length
        · simp (disch := first | assumption | (apply Ap.symm; assumption) | omega | decide | (simp only [Xd] <;> omega)) only [hi, hk, len_rw, idx_map, hld, idx_NC, load_NC1, hy, rs33, ↓Xa, Xb, Xc, ↓reduceIte, Nat.reduceLT, Nat.reduceEqDiff, Nat.reduceBEq, Nat.reduceLeDiff, Nat.reduceAdd, Nat.reduceMul]
          exact SetR.now (big hy (by omega))
        · simp (disch := first | assumption | (apply Ap.symm; assumption) | omega | decide | (simp only [Xd] <;> omega)) only [hi, hk, len_rw, idx_map, hld, idx_NC, load_NC1, hy, ↓Xa, Xb, Xc, ↓reduceIte, Nat.reduceLT, Nat.reduceEqDiff, Nat.reduceBEq, Nat.reduceLeDiff, Nat.reduceAdd, Nat.reduceMul]
          refine Settle.now ⟨k + 1, by omega, ⟨by omega, by rw [ksucc]; omega⟩, ?_⟩
          rw [ksucc]; simp [Nat.add_assoc]
      · simp (disch := first | assumption | (apply Ap.symm; assumption) | omega | decide | (simp only [Xd] <;> omega)) only [hi, hk, len_rw, idx_map, hld, ↓Xa, Xb, Xc, ↓reduceIte, Nat.reduceLT, Nat.reduceEqDiff, Nat.reduceBEq, Nat.reduceLeDiff, Nat.reduceAdd, Nat.reduceMul]
        rw [List.take_of_length_le (by omega)] at hm
        refine Settle.now ?_
        simp (disch := first | assumption | (apply Ap.symm; assumption) | omega | decide | (simp only [Xd] <;> omega)) only [↓Xa, Xb, Xc, ↓reduceIte, Nat.reduceLT, Nat.reduceEqDiff, Nat.reduceBEq, Nat.reduceLeDiff, Nat.reduceAdd, Nat.reduceMul]
        refine Settle.now ⟨i + 1, by omega, ⟨by omega, by rw [hsucc]; omega⟩, ?_⟩
        rw [hsucc, List.take_of_length_le (by omega)]; simp [numT, Nat.add_assoc]
  · simp (disch := first | assumption | (apply Ap.symm; assumption) | omega | decide | (simp only [Xd] <;> omega)) only [hi, len_rw, ↓Xa, Xb, Xc, ↓reduceIte, Nat.reduceLT, Nat.reduceEqDiff, Nat.reduceBEq, Nat.reduceLeDiff, Nat.reduceAdd, Nat.reduceMul]
    rw [List.take_of_length_le (by omega)] at hn
    refine Settle.now ?_
    simp (disch := first | assumption | (apply Ap.symm; assumption) | omega | decide | (simp only [Xd] <;> omega)) only [rs33, ↓Xa, Xb, Xc, ↓reduceIte, Nat.reduceLT, Nat.reduceEqDiff, Nat.reduceBEq, Nat.reduceLeDiff, Nat.reduceAdd, Nat.reduceMul]
    rw [decide_eq_false (by omega)] at hq
    exact SetR.now hq
end Go.Proofs.YtanchgkiomfhhaaDoor.Fw

/- The row laws' own helpers: a row in both, one number in both, rows in both; the law that holds rows against each other. -/
namespace Go.Proofs.YtanchgkiomfhhaaDoor.Fw
set_option linter.unusedSimpArgs false
set_option linter.unusedVariables false
open Go Go.Proofs.YtanchgkiomfhhaaDoor.Ma
set_option maxRecDepth 20000

def numZ (q : NumV) : Int := sg q.1 (val 4294967296 q.2.1)
def rowZ (l : List NumV) : List Int := l.map numZ
theorem RC_take {zs : List Int} {i : Nat} (h : i < zs.length) : RC (zs.take (i + 1)) = RC (zs.take i) ++ [RefB (zs[i]), RefD (zs[i])] := by
  rw [List.take_add_one, List.getElem?_eq_getElem h, Option.toList_some, RC_snoc]
theorem cellR {z : Int} : [RefB z, RefD z].all AV.cell = true := rfl
theorem rowZ_RB4 {l : List NumV} (hl : l.length ≤ 300) (hg : ∀ q, q ∈ l → NumGood q) (hs : ∀ q, q ∈ l → q.2.1.length ≤ 300) : RB4 300 (rowZ l) := by
  refine ⟨fun z hz => ?_, by unfold rowZ; rw [List.length_map]; omega⟩
  obtain ⟨q, hq, rfl⟩ := List.mem_map.1 hz
  exact (Bd.of_val (hg q hq).1).mono (hs q hq)
theorem of4_fn {l : List NumV} {t : Bool} (hl : l.length ≤ 300) (hg : ∀ q, q ∈ l → NumGood q) (hs : ∀ q, q ∈ l → q.2.1.length ≤ 300) :
    PFn Tryd.prog 34 [.seq l.length (NumsC l) t] (.tup [RowA (rowZ l) false, RefR (rowZ l) false]) := by
  intro H Q hq
  have hln : (rowZ l).length = l.length := by simp [rowZ]
  refine enter34 (by simp) ?_
  simp (disch := first | assumption | (apply Ap.symm; assumption) | omega | decide | (simp only [Xd] <;> omega)) only [ac34, ↓Xa, Xb, Xc, ↓reduceIte, Nat.reduceLT, Nat.reduceEqDiff, Nat.reduceBEq, Nat.reduceLeDiff, Nat.reduceAdd, Nat.reduceMul]
  refine W_loop (fun s : Nat × AV × AV × AHeap => ⟨[], [(0, .seq l.length (NumsC l) t), (4, s.2.1), (5, s.2.2.1), (6, .int .i64 s.1)], s.2.2.2⟩)
    (fun s => s.1 ≤ l.length ∧ ∃ M, growC H 28 2 s.1 (IC ((rowZ l).take s.1)) s.2.1 M ∧ growC M 39 2 s.1 (RC ((rowZ l).take s.1)) s.2.2.1 s.2.2.2) (fun s => l.length - s.1) (0, .seq 0 [] true, .seq 0 [] true, H) (Settle.now rfl) ⟨Nat.zero_le _, H, growC_nil, growC_nil⟩ ?_
  rintro ⟨i, x, y, M⟩ ⟨h3, M1, hx, hy⟩
  dsimp only at h3 hx hy ⊢
  by_cases hi : i < l.length
  · have hi2 : i < (rowZ l).length := by omega
    have hgi := hg _ (List.getElem_mem hi)
    have hsi := hs _ (List.getElem_mem hi)
    have ez : (rowZ l)[i] = sg (l[i]).1 (val 4294967296 (l[i]).2.1) := by simp [rowZ, numZ]
    simp (disch := first | assumption | (apply Ap.symm; assumption) | omega | decide | (simp only [Xd] <;> omega)) only [hi, len_rw, idx_NC, load_NC0, load_NC1, ↓Xa, Xb, Xc, ↓reduceIte, Nat.reduceLT, Nat.reduceEqDiff, Nat.reduceBEq, Nat.reduceLeDiff, Nat.reduceAdd, Nat.reduceMul]
    refine PFn.dcall (make_fn (l[i]).1 (l[i]).2.2 hgi.1 (by omega)) ?_
    rw [← ez]
    simp (disch := first | assumption | (apply Ap.symm; assumption) | omega | decide | (simp only [Xd] <;> omega)) only [repI1, cells_IntA, ↓Xa, Xb, Xc, ↓reduceIte, Nat.reduceLT, Nat.reduceEqDiff, Nat.reduceBEq, Nat.reduceLeDiff, Nat.reduceAdd, Nat.reduceMul]
    refine app_under (m := 1) hx hy rfl cellI (by omega) (by omega) (by omega) fun x' M1' M2 hx' hy' => ?_
    rw [← IC_take hi2] at hx'
    simp (disch := first | assumption | (apply Ap.symm; assumption) | omega | decide | (simp only [Xd] <;> omega)) only [hi, len_rw, idx_NC, load_NC0, load_NC1, ↓Xa, Xb, Xc, ↓reduceIte, Nat.reduceLT, Nat.reduceEqDiff, Nat.reduceBEq, Nat.reduceLeDiff, Nat.reduceAdd, Nat.reduceMul]
    refine PFn.dcall (rmake_fn (l[i]).1 (l[i]).2.2 hgi.1 (by omega)) ?_
    rw [← ez]
    simp (disch := first | assumption | (apply Ap.symm; assumption) | omega | decide | (simp only [Xd] <;> omega)) only [repI1, cells_RefA, ↓Xa, Xb, Xc, ↓reduceIte, Nat.reduceLT, Nat.reduceEqDiff, Nat.reduceBEq, Nat.reduceLeDiff, Nat.reduceAdd, Nat.reduceMul]
    refine app_C (m := 1) hy' rfl cellR (by omega) (by omega) (by omega) fun y' M3 hy2 => ?_
    rw [← RC_take hi2] at hy2
    simp (disch := first | assumption | (apply Ap.symm; assumption) | omega | decide | (simp only [Xd] <;> omega)) only [↓Xa, Xb, Xc, ↓reduceIte, Nat.reduceLT, Nat.reduceEqDiff, Nat.reduceBEq, Nat.reduceLeDiff, Nat.reduceAdd, Nat.reduceMul]
    exact Settle.now ⟨(i + 1, x', y', M3), by dsimp only; omega, ⟨by dsimp only; omega, M1', hx', hy2⟩, rfl⟩
  · obtain rfl : i = l.length := by omega
    rw [List.take_of_length_le (by omega)] at hx hy
    simp (disch := first | assumption | (apply Ap.symm; assumption) | omega | decide | (simp only [Xd] <;> omega)) only [hi, len_rw, ↓Xa, Xb, Xc, ↓reduceIte, Nat.reduceLT, Nat.reduceEqDiff, Nat.reduceBEq, Nat.reduceLeDiff, Nat.reduceAdd, Nat.reduceMul]
    refine Settle.now ?_
    simp (disch := first | assumption | (apply Ap.symm; assumption) | omega | decide | (simp only [Xd] <;> omega)) only [rs34, ↓Xa, Xb, Xc, ↓reduceIte, Nat.reduceLT, Nat.reduceEqDiff, Nat.reduceBEq, Nat.reduceLeDiff, Nat.reduceAdd, Nat.reduceMul]
    rw [← hln] at hx hy
    exact growC_fin2 hx hy hq
end Go.Proofs.YtanchgkiomfhhaaDoor.Fw

/- The law that two rows held against each other obey: true. -/
namespace Go.Proofs.YtanchgkiomfhhaaDoor.Fw
set_option linter.unusedSimpArgs false
set_option linter.unusedVariables false
open Go Go.Proofs.YtanchgkiomfhhaaDoor.Ma
set_option maxRecDepth 20000

theorem long_ok {l : List NumV} (h : numT l ≤ 300) : l.length ≤ 300 ∧ ∀ q, q ∈ l → q.2.1.length ≤ 300 := by
  unfold numT at h
  refine ⟨by omega, fun q hq => ?_⟩
  have := sumN_mem (List.mem_map.2 ⟨q, hq, rfl⟩ : q.2.1.length ∈ l.map fun q => q.2.1.length)
  omega
theorem eqlS {n : Int} {K : AV → Prop} : binW .eql (.int .i64 n) (.int .i64 n) K ↔ K (.bool true) := by simp [binW, binInt]
end Go.Proofs.YtanchgkiomfhhaaDoor.Fw

/- Rows of whole numbers: divided by a number, content, primitive row. -/
namespace Go.Proofs.YtanchgkiomfhhaaDoor.Fw
set_option linter.unusedSimpArgs false
set_option linter.unusedVariables false
open Go Go.Proofs.YtanchgkiomfhhaaDoor.Ma
set_option maxRecDepth 20000

theorem PFn.loose1 {P : Program} {f : FuncId} {x : AV} {rest : List AV} {r : AV} (h : PFn P f (loose x :: rest) r) : PFn P f (x :: rest) r := fun H Q hq =>
  ⟨(h H Q hq).1, fun c vs hH hok hs he => (h H Q hq).2 c vs hH hok (by simpa using hs) fun i hi hi' => by
    match i, hi with
    | 0, _ => exact enc_loose _ _ (he 0 (by simp) hi')
    | i + 1, hi => exact he (i + 1) (by simpa using hi) hi'⟩
theorem rowover_run {H : AHeap} {Q : AV → AHeap → Prop} {zs : List Int} {t : Bool} {c : Int} {k : Nat} (hz : RB4 k zs) (hc : Bd k c) (hk : k ≤ 1000000) (hc0 : c ≠ 0) (hbig : zs.length ≤ 1000000)
    (hq : (∀ z, z ∈ zs → z % c = 0) → ∀ y M, growC H 28 2 zs.length (IC (zs.map (· / c))) y M → Q (.tup [y, .int .i64 ((0 : Nat) : Int)]) M)
    (hn : (∃ z, z ∈ zs ∧ z % c ≠ 0) → Q (.tup [.seq 0 [] true, .int .i64 ((20 : Nat) : Int)]) H) : Run Tryd.prog 114 [RowA zs t, IntA c] H Q := by
  have nz : zs.length < 9223372036854775808 := by omega
  have hs : decide (sgnI c = ((0 : Nat) : Int)) = false := decide_eq_false (by unfold sgnI; rw [if_neg hc0]; split <;> omega)
  refine enter114 (by simp) ?_
  simp (disch := first | assumption | (apply Ap.symm; assumption) | omega | decide | (simp only [Xd] <;> omega)) only [ac114, cells_IntA, ↓Xa, Xb, Xc, ↓reduceIte, Nat.reduceLT, Nat.reduceEqDiff, Nat.reduceBEq, Nat.reduceLeDiff, Nat.reduceAdd, Nat.reduceMul]
  refine alloc_i fun p1 hp1 => ?_
  have n1 := hp1
  simp (disch := first | assumption | (apply Ap.symm; assumption) | omega | decide | (simp only [Xd] <;> omega)) only [fold_IntA, ↓Xa, Xb, Xc, ↓reduceIte, Nat.reduceLT, Nat.reduceEqDiff, Nat.reduceBEq, Nat.reduceLeDiff, Nat.reduceAdd, Nat.reduceMul]
  refine (sign_fn hc (by omega)).call ?_
  simp (disch := first | assumption | (apply Ap.symm; assumption) | omega | decide | (simp only [Xd] <;> omega)) only [eql_int, hs, len_rw, ↓Xa, Xb, Xc, ↓reduceIte, Nat.reduceLT, Nat.reduceEqDiff, Nat.reduceBEq, Nat.reduceLeDiff, Nat.reduceAdd, Nat.reduceMul]
  refine W_loop (fun s : Nat × AV × AHeap => ⟨[], [(3, .ptr p1 2 0), (6, s.2.1), (15, RowA zs t), (16, .int .i64 (zs.length : Int)), (17, .int .i64 s.1)], s.2.2⟩)
    (fun s => s.1 ≤ zs.length ∧ (∀ z, z ∈ zs.take s.1 → z % c = 0) ∧ growC (H.upd p1 (some (.row 28 0 [IntB c, IntD c]))) 28 2 s.1 (IC ((zs.map (· / c)).take s.1)) s.2.1 s.2.2) (fun s => zs.length - s.1) (0, .seq 0 [] true, _) (Settle.now rfl) ⟨Nat.zero_le _, by simp, growC_nil⟩ ?_
  rintro ⟨i, y, M⟩ ⟨h3, hall, hg⟩
  dsimp only at h3 hall hg ⊢
  have m1 : M p1 = some (.row 28 0 [IntB c, IntD c]) := growC_old hg (upd_same _ _ _)
  by_cases hi : i < zs.length
  · have hi2 : i < (zs.map (· / c)).length := by simpa using hi
    simp (disch := first | assumption | (apply Ap.symm; assumption) | omega | decide | (simp only [Xd] <;> omega)) only [hi, idx_IC, load_IC, ↓Xa, Xb, Xc, ↓reduceIte, Nat.reduceLT, Nat.reduceEqDiff, Nat.reduceBEq, Nat.reduceLeDiff, Nat.reduceAdd, Nat.reduceMul]
    refine alloc_i fun q1 hq1 => ?_
    have a1 := ne_of_some m1 hq1
    simp (disch := first | assumption | (apply Ap.symm; assumption) | omega | decide | (simp only [Xd] <;> omega)) only [cells_IntA, fold_IntA, m1, ↓Xa, Xb, Xc, ↓reduceIte, Nat.reduceLT, Nat.reduceEqDiff, Nat.reduceBEq, Nat.reduceLeDiff, Nat.reduceAdd, Nat.reduceMul]
    have hg1 := growC_upd (r := .row 28 0 [IntB (zs[i]), IntD (zs[i])]) hg hq1
    refine (idivmod_fn (hz.at hi) (by omega) hc (by omega) hc0).call ?_
    simp (disch := first | assumption | (apply Ap.symm; assumption) | omega | decide | (simp only [Xd] <;> omega)) only [↓Xa, Xb, Xc, ↓reduceIte, Nat.reduceLT, Nat.reduceEqDiff, Nat.reduceBEq, Nat.reduceLeDiff, Nat.reduceAdd, Nat.reduceMul]
    refine alloc_i fun q2 hq2 => ?_
    have a2 := ne_of_some m1 (upd_none.1 hq2).2
    simp (disch := first | assumption | (apply Ap.symm; assumption) | omega | decide | (simp only [Xd] <;> omega)) only [↓Xa, Xb, Xc, ↓reduceIte, Nat.reduceLT, Nat.reduceEqDiff, Nat.reduceBEq, Nat.reduceLeDiff, Nat.reduceAdd, Nat.reduceMul]
    refine alloc_i fun q3 hq3 => ?_
    have a3 := ne_of_some m1 (upd_none.1 (upd_none.1 hq3).2).2
    have a32 := (upd_none.1 hq3).1
    simp (disch := first | assumption | (apply Ap.symm; assumption) | omega | decide | (simp only [Xd] <;> omega)) only [cells_IntA, fold_IntA, ↓Xa, Xb, Xc, ↓reduceIte, Nat.reduceLT, Nat.reduceEqDiff, Nat.reduceBEq, Nat.reduceLeDiff, Nat.reduceAdd, Nat.reduceMul]
    have hg2 := growC_upd (r := .row 28 0 [IntB (zs[i] / c), IntD (zs[i] / c)]) hg1 hq2
    have hq3' : ((M.upd q1 (some (.row 28 0 [IntB (zs[i]), IntD (zs[i])]))).upd q2 (some (.row 28 0 [IntB (zs[i] / c), IntD (zs[i] / c)]))) q3 = none := upd_none.2 ⟨a32, (upd_none.1 hq3).2⟩
    have hg3 := growC_upd (r := .row 28 0 [IntB (zs[i] % c), IntD (zs[i] % c)]) hg2 hq3'
    have br : Bd k (zs[i] % c) := by
      have h1 := Int.emod_lt (zs[i]) hc0
      have h2 := Int.emod_nonneg (zs[i]) hc0
      unfold Bd at hc ⊢; omega
    refine (sign_fn br (by omega)).call ?_
    by_cases h0 : zs[i] % c = 0
    · simp (disch := first | assumption | (apply Ap.symm; assumption) | omega | decide | (simp only [Xd] <;> omega)) only [sgn_neq0, h0, repI1, cells_IntA, fold_IntA, ↓Xa, Xb, Xc, ↓reduceIte, Nat.reduceLT, Nat.reduceEqDiff, Nat.reduceBEq, Nat.reduceLeDiff, Nat.reduceAdd, Nat.reduceMul]
      rw [h0] at hg3
      refine app_C (m := 1) hg3 rfl cellI (by omega) (by omega) (by omega) fun y' M2 hg4 => ?_
      have et : (zs.map (· / c))[i] = zs[i] / c := by simp
      rw [← et, ← IC_take hi2] at hg4
      have hle : Le (H.upd p1 (some (.row 28 0 [IntB c, IntD c]))) ((((H.upd p1 (some (.row 28 0 [IntB c, IntD c]))).upd q1 (some (.row 28 0 [IntB (zs[i]), IntD (zs[i])]))).upd q2 (some (.row 28 0 [IntB ((zs.map (· / c))[i]), IntD ((zs.map (· / c))[i])]))).upd q3 (some (.row 28 0 [IntB 0, IntD 0]))) :=
        (((Le.refl _).updB (growC_none hg hq1)).updB (growC_none hg (upd_none.1 hq2).2)).updB (growC_none hg (upd_none.1 (upd_none.1 hq3).2).2)
      obtain ⟨M3, hg5, hl5⟩ := growC_le2 hg4 hle
      simp (disch := first | assumption | (apply Ap.symm; assumption) | omega | decide | (simp only [Xd] <;> omega)) only [↓Xa, Xb, Xc, ↓reduceIte, Nat.reduceLT, Nat.reduceEqDiff, Nat.reduceBEq, Nat.reduceLeDiff, Nat.reduceAdd, Nat.reduceMul]
      refine Settle.dropTo hl5 (Settle.now ⟨(i + 1, y', M3), by dsimp only; omega, ⟨by dsimp only; omega, fun z hm => ?_, hg5⟩, rfl⟩)
      dsimp only at hm
      rw [List.take_add_one, List.getElem?_eq_getElem hi, Option.toList_some] at hm
      rcases List.mem_append.1 hm with hm | hm
      · exact hall z hm
      · rw [List.mem_singleton.1 hm]; exact h0
    · simp (disch := first | assumption | (apply Ap.symm; assumption) | omega | decide | (simp only [Xd] <;> omega)) only [sgn_neq0, h0, rs114, ↓Xa, Xb, Xc, ↓reduceIte, Nat.reduceLT, Nat.reduceEqDiff, Nat.reduceBEq, Nat.reduceLeDiff, Nat.reduceAdd, Nat.reduceMul]
      refine SetR.dropTo ?_ (SetR.now (hn ⟨_, List.getElem_mem hi, h0⟩))
      have hH : Le H M := fun o x ho => growC_le hg o x (((Le.refl H).updB n1) o x ho)
      exact ((hH.upd hq1).upd hq2).upd hq3'
  · obtain rfl : i = zs.length := by omega
    rw [List.take_of_length_le (by omega)] at hall
    rw [List.take_of_length_le (by simp)] at hg
    simp (disch := first | assumption | (apply Ap.symm; assumption) | omega | decide | (simp only [Xd] <;> omega)) only [hi, ↓Xa, Xb, Xc, ↓reduceIte, Nat.reduceLT, Nat.reduceEqDiff, Nat.reduceBEq, Nat.reduceLeDiff, Nat.reduceAdd, Nat.reduceMul]
    refine Settle.now ?_
    simp (disch := first | assumption | (apply Ap.symm; assumption) | omega | decide | (simp only [Xd] <;> omega)) only [rs114, ↓Xa, Xb, Xc, ↓reduceIte, Nat.reduceLT, Nat.reduceEqDiff, Nat.reduceBEq, Nat.reduceLeDiff, Nat.reduceAdd, Nat.reduceMul]
    obtain ⟨M3, hg5, hl5⟩ := growC_le2 hg ((Le.refl H).updB n1)
    exact SetR.dropTo hl5 (SetR.now (hq hall y M3 hg5))
theorem rowcont_fn {zs : List Int} {t : Bool} {k : Nat} (hz : RB4 k zs) (hk : k ≤ 1000000) (hk2 : 2 ≤ k) : PFn Tryd.prog 118 [RowA zs t] (IntA ((contN zs : Nat) : Int)) := by
  intro H Q hq
  have nz : zs.length < 9223372036854775808 := by have := hz.2; omega
  refine enter118 (by simp) ?_
  simp (disch := first | assumption | (apply Ap.symm; assumption) | omega | decide | (simp only [Xd] <;> omega)) only [ac118, ↓Xa, Xb, Xc, ↓reduceIte, Nat.reduceLT, Nat.reduceEqDiff, Nat.reduceBEq, Nat.reduceLeDiff, Nat.reduceAdd, Nat.reduceMul]
  refine alloc_i fun p1 hp1 => ?_
  have n1 := hp1
  simp (disch := first | assumption | (apply Ap.symm; assumption) | omega | decide | (simp only [Xd] <;> omega)) only [↓Xa, Xb, Xc, ↓reduceIte, Nat.reduceLT, Nat.reduceEqDiff, Nat.reduceBEq, Nat.reduceLeDiff, Nat.reduceAdd, Nat.reduceMul]
  refine alloc_i fun p2 hp2 => ?_
  have n2 := hp2
  simp only [upd_none] at n2
  obtain ⟨_, n2⟩ := n2
  simp (disch := first | assumption | (apply Ap.symm; assumption) | omega | decide | (simp only [Xd] <;> omega)) only [len_rw, ↓Xa, Xb, Xc, ↓reduceIte, Nat.reduceLT, Nat.reduceEqDiff, Nat.reduceBEq, Nat.reduceLeDiff, Nat.reduceAdd, Nat.reduceMul]
  refine W_loop (fun s : Nat × Nat => ⟨[], [(2, .ptr p1 2 0), (3, .ptr p2 2 0), (6, RowA zs t), (7, .int .i64 (zs.length : Int)), (8, .int .i64 s.1)], (H.upd p1 (some (.row 28 0 [.bool false, .seq 0 [] true]))).upd p2 (some (.row 28 0 [IntB (s.2 : Int), IntD (s.2 : Int)]))⟩)
    (fun s => s.1 ≤ zs.length ∧ Bd k (s.2 : Int) ∧ gcdF s.2 (zs.drop s.1) = contN zs) (fun s => zs.length - s.1) (0, 0) (Settle.now (by simp [IntB, IntD, digs_zero, LS, U])) ⟨Nat.zero_le _, Bd.zero _, rfl⟩ ?_
  rintro ⟨i, g⟩ ⟨h3, hb, hc⟩
  dsimp only at h3 hb hc ⊢
  by_cases hi : i < zs.length
  · rw [List.drop_eq_getElem_cons hi, gcdF, List.foldl_cons] at hc
    have hb2 : Bd k ((Int.gcd (g : Int) (zs[i]) : Nat) : Int) := Bd.gcdF (zs := [zs[i]]) hb (fun z hz' => by rw [List.mem_singleton.1 hz']; exact hz.at hi)
    simp (disch := first | assumption | (apply Ap.symm; assumption) | omega | decide | (simp only [Xd] <;> omega)) only [hi, idx_IC, load_IC, ↓Xa, Xb, Xc, ↓reduceIte, Nat.reduceLT, Nat.reduceEqDiff, Nat.reduceBEq, Nat.reduceLeDiff, Nat.reduceAdd, Nat.reduceMul]
    refine alloc_i fun p3 hp3 => ?_
    have n3 := hp3
    simp only [upd_none] at n3
    obtain ⟨_, _, n3⟩ := n3
    simp (disch := first | assumption | (apply Ap.symm; assumption) | omega | decide | (simp only [Xd] <;> omega)) only [cells_IntA, fold_IntA, ↓Xa, Xb, Xc, ↓reduceIte, Nat.reduceLT, Nat.reduceEqDiff, Nat.reduceBEq, Nat.reduceLeDiff, Nat.reduceAdd, Nat.reduceMul]
    refine (igcd_fn hb (by omega) (hz.at hi)).call ?_
    generalize hG : Int.gcd (g : Int) (zs[i]) = G at *
    simp (disch := first | assumption | (apply Ap.symm; assumption) | omega | decide | (simp only [Xd] <;> omega)) only [cells_IntA, fold_IntA, ↓Xa, Xb, Xc, ↓reduceIte, Nat.reduceLT, Nat.reduceEqDiff, Nat.reduceBEq, Nat.reduceLeDiff, Nat.reduceAdd, Nat.reduceMul]
    refine PFn.dcall (of_fn (n := ((1 : Nat) : Int)) (by omega)) ?_
    simp (disch := first | assumption | (apply Ap.symm; assumption) | omega | decide | (simp only [Xd] <;> omega)) only [↓Xa, Xb, Xc, ↓reduceIte, Nat.reduceLT, Nat.reduceEqDiff, Nat.reduceBEq, Nat.reduceLeDiff, Nat.reduceAdd, Nat.reduceMul]
    refine (cmpi_fn hb2 (by omega) (Bd.i64 (n := ((1 : Nat) : Int)) (by omega)) (by omega)).call ?_
    by_cases h1 : G = 1
    · have hd : decide ((G : Int) = ((1 : Nat) : Int)) = true := decide_eq_true (by omega)
      have hc1 : contN zs = 1 := by rw [← hc, h1]; exact gcdF_one _
      rw [hc1] at hq
      subst h1
      simp (disch := first | assumption | (apply Ap.symm; assumption) | omega | decide | (simp only [Xd] <;> omega)) only [cmp_eql0, hd, ↓Xa, Xb, Xc, ↓reduceIte, Nat.reduceLT, Nat.reduceEqDiff, Nat.reduceBEq, Nat.reduceLeDiff, Nat.reduceAdd, Nat.reduceMul]
      refine Settle.now ?_
      simp (disch := first | assumption | (apply Ap.symm; assumption) | omega | decide | (simp only [Xd] <;> omega)) only [fold_IntA, cells_IntA, rs118, ↓Xa, Xb, Xc, ↓reduceIte, Nat.reduceLT, Nat.reduceEqDiff, Nat.reduceBEq, Nat.reduceLeDiff, Nat.reduceAdd, Nat.reduceMul]
      exact SetR.dropTo ((((Le.refl H).updB n1).updB n2).updB n3) (SetR.now hq)
    · have hd : decide ((G : Int) = ((1 : Nat) : Int)) = false := decide_eq_false (by omega)
      simp (disch := first | assumption | (apply Ap.symm; assumption) | omega | decide | (simp only [Xd] <;> omega)) only [cmp_eql0, hd, ↓Xa, Xb, Xc, ↓reduceIte, Nat.reduceLT, Nat.reduceEqDiff, Nat.reduceBEq, Nat.reduceLeDiff, Nat.reduceAdd, Nat.reduceMul]
      refine Settle.dropTo ((Le.refl _).updB (upd_none.2 ⟨by assumption, upd_none.2 ⟨by assumption, n3⟩⟩)) ?_
      exact Settle.now ⟨(i + 1, _), by dsimp only; omega, ⟨by dsimp only; omega, hb2, hc⟩, rfl⟩
  · rw [List.drop_eq_nil_of_le (by omega)] at hc
    have hc : g = contN zs := hc
    rw [← hc] at hq
    simp (disch := first | assumption | (apply Ap.symm; assumption) | omega | decide | (simp only [Xd] <;> omega)) only [hi, ↓Xa, Xb, Xc, ↓reduceIte, Nat.reduceLT, Nat.reduceEqDiff, Nat.reduceBEq, Nat.reduceLeDiff, Nat.reduceAdd, Nat.reduceMul]
    refine Settle.now ?_
    simp (disch := first | assumption | (apply Ap.symm; assumption) | omega | decide | (simp only [Xd] <;> omega)) only [fold_IntA, cells_IntA, rs118, ↓Xa, Xb, Xc, ↓reduceIte, Nat.reduceLT, Nat.reduceEqDiff, Nat.reduceBEq, Nat.reduceLeDiff, Nat.reduceAdd, Nat.reduceMul]
    exact SetR.dropTo (((Le.refl H).updB n1).updB n2) (SetR.now hq)
theorem id1_fn {x : Int} : PFn Tryd.prog 185 [IntA x] (IntA x) := by
  intro H Q hq
  refine enter185 (by simp) ?_
  simp (disch := first | assumption | (apply Ap.symm; assumption) | omega | decide | (simp only [Xd] <;> omega)) only [ac185, cells_IntA, ↓Xa, Xb, Xc, ↓reduceIte, Nat.reduceLT, Nat.reduceEqDiff, Nat.reduceBEq, Nat.reduceLeDiff, Nat.reduceAdd, Nat.reduceMul]
  refine alloc_i fun p1 hp1 => ?_
  have n1 := hp1
  simp (disch := first | assumption | (apply Ap.symm; assumption) | omega | decide | (simp only [Xd] <;> omega)) only [↓Xa, Xb, Xc, ↓reduceIte, Nat.reduceLT, Nat.reduceEqDiff, Nat.reduceBEq, Nat.reduceLeDiff, Nat.reduceAdd, Nat.reduceMul]
  refine alloc_i fun p2 hp2 => ?_
  have n2 := hp2
  simp only [upd_none] at n2
  obtain ⟨_, n2⟩ := n2
  simp (disch := first | assumption | (apply Ap.symm; assumption) | omega | decide | (simp only [Xd] <;> omega)) only [cells_IntA, fold_IntA, rs185, ↓Xa, Xb, Xc, ↓reduceIte, Nat.reduceLT, Nat.reduceEqDiff, Nat.reduceBEq, Nat.reduceLeDiff, Nat.reduceAdd, Nat.reduceMul]
  exact SetR.dropTo (((Le.refl H).updB n1).updB n2) (SetR.now hq)
end Go.Proofs.YtanchgkiomfhhaaDoor.Fw

/- Rows of whole numbers: the primitive row; the reference's rows put together. -/
namespace Go.Proofs.YtanchgkiomfhhaaDoor.Fw
set_option linter.unusedSimpArgs false
set_option linter.unusedVariables false
open Go Go.Proofs.YtanchgkiomfhhaaDoor.Ma
set_option maxRecDepth 20000

theorem rowprim_run {H : AHeap} {Q : AV → AHeap → Prop} {zs : List Int} {t : Bool} {k : Nat} (hz : RB4 k zs) (hk : k ≤ 1000000) (hk2 : 2 ≤ k) (hbig : zs.length ≤ 1000000)
    (hq : contN zs ≠ 0 → ∀ y M, growC H 28 2 zs.length (IC (primR zs)) y M → Q (.tup [y, IntA (primG zs)]) M)
    (hq0 : contN zs = 0 → Q (.tup [RowA (primR zs) false, IntA (primG zs)]) H) : Run Tryd.prog 117 [RowA zs t] H Q := by
  have nz : zs.length < 9223372036854775808 := by omega
  have hcb : Bd k ((contN zs : Nat) : Int) := Bd.gcdF (Bd.zero k) hz.1
  -- what is answered out of memory G that has the two variables
  have fin : contN zs ≠ 0 → ∀ {p1 p2 : Nat} {g : Int} {G : AHeap}, H p1 = none → H p2 = none → Ap p2 p1 → Le H G → G p1 = some (.row 28 0 [.bool false, .seq 0 [] true]) → G p2 = some (.row 28 0 [IntB g, IntD g]) → g = primG zs → ∀ {y M}, growC G 28 2 zs.length (IC (primR zs)) y M →
      M p1 = some (.row 28 0 [.bool false, .seq 0 [] true]) ∧ M p2 = some (.row 28 0 [IntB g, IntD g]) ∧ SetR Q (.tup [y, IntA g]) (M.upd p1 (some (.row 28 0 [IntB g, IntD g]))) := by
    intro hc0 p1 p2 g G n1 n2 hap hG g1 g2 hg y M hgr
    refine ⟨growC_old hgr g1, growC_old hgr g2, ?_⟩
    obtain ⟨H1, hg1, hl1⟩ := growC_move (M := M.upd p1 (some (.row 28 0 [IntB g, IntD g]))) hgr fun b hb _ => upd_other _ _ (by rintro rfl; rw [g1] at hb; cases hb)
    have hle : Le H H1 := hl1 H (fun o x ho => by
      have e : o ≠ p1 := by rintro rfl; rw [n1] at ho; cases ho
      rw [upd_other _ _ e]; exact growC_le hgr o x (hG o x ho)) fun b hb => hG.none hb
    obtain ⟨M2, hg2, hl2⟩ := growC_le2 hg1 hle
    subst hg
    exact SetR.dropTo hl2 (SetR.now (hq hc0 y M2 hg2))
  refine enter117 (by simp) ?_
  simp (disch := first | assumption | (apply Ap.symm; assumption) | omega | decide | (simp only [Xd] <;> omega)) only [ac117, ↓Xa, Xb, Xc, ↓reduceIte, Nat.reduceLT, Nat.reduceEqDiff, Nat.reduceBEq, Nat.reduceLeDiff, Nat.reduceAdd, Nat.reduceMul]
  refine alloc_i fun p1 hp1 => ?_
  have n1 := hp1
  simp (disch := first | assumption | (apply Ap.symm; assumption) | omega | decide | (simp only [Xd] <;> omega)) only [↓Xa, Xb, Xc, ↓reduceIte, Nat.reduceLT, Nat.reduceEqDiff, Nat.reduceBEq, Nat.reduceLeDiff, Nat.reduceAdd, Nat.reduceMul]
  refine (rowcont_fn hz hk hk2).call ?_
  simp (disch := first | assumption | (apply Ap.symm; assumption) | omega | decide | (simp only [Xd] <;> omega)) only [↓Xa, Xb, Xc, ↓reduceIte, Nat.reduceLT, Nat.reduceEqDiff, Nat.reduceBEq, Nat.reduceLeDiff, Nat.reduceAdd, Nat.reduceMul]
  refine alloc_i fun p2 hp2 => ?_
  have n2 := hp2
  simp only [upd_none] at n2
  obtain ⟨_, n2⟩ := n2
  simp (disch := first | assumption | (apply Ap.symm; assumption) | omega | decide | (simp only [Xd] <;> omega)) only [cells_IntA, len_rw, ↓Xa, Xb, Xc, ↓reduceIte, Nat.reduceLT, Nat.reduceEqDiff, Nat.reduceBEq, Nat.reduceLeDiff, Nat.reduceAdd, Nat.reduceMul]
  refine W_loop (fun s : Nat => ⟨[], [(0, RowA zs t), (3, .ptr p1 2 0), (4, .ptr p2 2 0), (11, RowA zs t), (12, .int .i64 (zs.length : Int)), (13, .int .i64 s)], (H.upd p1 (some (.row 28 0 [.bool false, .seq 0 [] true]))).upd p2 (some (.row 28 0 [IntB ((contN zs : Nat) : Int), IntD ((contN zs : Nat) : Int)]))⟩)
    (fun s => s ≤ zs.length ∧ ∀ j (h : j < zs.length), j < s → zs[j] = 0) (fun s => zs.length - s) 0 (Settle.now rfl) ⟨Nat.zero_le _, fun j _ h => absurd h (Nat.not_lt_zero j)⟩ ?_
  rintro i ⟨h3, hno⟩
  by_cases hi : i < zs.length
  · simp (disch := first | assumption | (apply Ap.symm; assumption) | omega | decide | (simp only [Xd] <;> omega)) only [hi, idx_IC, load_IC, ↓Xa, Xb, Xc, ↓reduceIte, Nat.reduceLT, Nat.reduceEqDiff, Nat.reduceBEq, Nat.reduceLeDiff, Nat.reduceAdd, Nat.reduceMul]
    refine alloc_i fun p3 hp3 => ?_
    have n3 := hp3
    simp only [upd_none] at n3
    obtain ⟨_, _, n3⟩ := n3
    simp (disch := first | assumption | (apply Ap.symm; assumption) | omega | decide | (simp only [Xd] <;> omega)) only [cells_IntA, fold_IntA, ↓Xa, Xb, Xc, ↓reduceIte, Nat.reduceLT, Nat.reduceEqDiff, Nat.reduceBEq, Nat.reduceLeDiff, Nat.reduceAdd, Nat.reduceMul]
    refine (sign_fn (hz.at hi) (by omega)).call ?_
    by_cases h0 : zs[i] = 0
    · have hs : decide (sgnI (zs[i]) = ((0 : Nat) : Int)) = true := by rw [h0]; decide
      simp (disch := first | assumption | (apply Ap.symm; assumption) | omega | decide | (simp only [Xd] <;> omega)) only [eql_int, hs, ↓Xa, Xb, Xc, ↓reduceIte, Nat.reduceLT, Nat.reduceEqDiff, Nat.reduceBEq, Nat.reduceLeDiff, Nat.reduceAdd, Nat.reduceMul]
      refine Settle.dropTo ((Le.refl _).updB (upd_none.2 ⟨by assumption, upd_none.2 ⟨by assumption, n3⟩⟩)) ?_
      refine Settle.now ⟨i + 1, by omega, ⟨by omega, fun j h h2 => ?_⟩, rfl⟩
      by_cases e : j = i
      · subst e; exact h0
      · exact hno j h (by omega)
    · have hs : decide (sgnI (zs[i]) = ((0 : Nat) : Int)) = false := decide_eq_false (by unfold sgnI; rw [if_neg h0]; split <;> omega)
      have hfind : zs.find? (fun z => decide (z ≠ 0)) = some (zs[i]) := by
        rw [List.find?_eq_some_iff_getElem]
        exact ⟨by simpa using h0, i, hi, rfl, fun j hj => by simpa using hno j (by omega) hj⟩
      have hc0 : contN zs ≠ 0 := fun e => h0 ((contN_zero zs).1 e _ (List.getElem_mem hi))
      simp (disch := first | assumption | (apply Ap.symm; assumption) | omega | decide | (simp only [Xd] <;> omega)) only [eql_int, hs, fold_IntA, ↓Xa, Xb, Xc, ↓reduceIte, Nat.reduceLT, Nat.reduceEqDiff, Nat.reduceBEq, Nat.reduceLeDiff, Nat.reduceAdd, Nat.reduceMul]
      refine (sign_fn (hz.at hi) (by omega)).call ?_
      have hdv : ∀ {g : Int}, g = primG zs → ∀ z, z ∈ zs → z % g = 0 := fun e z hm => by
        subst e
        have h := (gcdF_dvd zs 0).2 z hm
        have e : primG zs = ((contN zs : Nat) : Int) ∨ primG zs = -((contN zs : Nat) : Int) := by have := primG_abs zs; omega
        rcases e with e | e <;> rw [e]
        · exact Int.emod_eq_zero_of_dvd h
        · exact Int.emod_eq_zero_of_dvd (Int.neg_dvd.2 h)
      by_cases hneg : zs[i] < 0
      · have hg : -((contN zs : Nat) : Int) = primG zs := by unfold primG; rw [hfind]; dsimp only; rw [if_pos hneg]
        simp (disch := first | assumption | (apply Ap.symm; assumption) | omega | decide | (simp only [Xd] <;> omega)) only [sgn_lss0, decide_eq_true hneg, cells_IntA, fold_IntA, ↓Xa, Xb, Xc, ↓reduceIte, Nat.reduceLT, Nat.reduceEqDiff, Nat.reduceBEq, Nat.reduceLeDiff, Nat.reduceAdd, Nat.reduceMul]
        refine (neg_fn hcb (by omega)).call ?_
        simp (disch := first | assumption | (apply Ap.symm; assumption) | omega | decide | (simp only [Xd] <;> omega)) only [cells_IntA, fold_IntA, ↓Xa, Xb, Xc, ↓reduceIte, Nat.reduceLT, Nat.reduceEqDiff, Nat.reduceBEq, Nat.reduceLeDiff, Nat.reduceAdd, Nat.reduceMul]
        refine run_call (rowover_run hz hcb.neg hk (by omega) hbig (fun _ y M hgr => ?_) fun ⟨z, hm, hne⟩ => absurd (hdv hg z hm) hne)
        have hR2 : primR zs = zs.map (· / -((contN zs : Nat) : Int)) := by unfold primR; rw [← hg]
        rw [← hR2] at hgr
        obtain ⟨g1, g2, g3⟩ := fin hc0 n1 n2 (by assumption) (g := -((contN zs : Nat) : Int)) ((((Le.refl H).updB n1).updB n2).updB n3) (by simp (disch := first | assumption | (apply Ap.symm; assumption) | omega | decide | (simp only [Xd] <;> omega)) only [↓Xa, Xb, Xc, ↓reduceIte, Nat.reduceLT, Nat.reduceEqDiff, Nat.reduceBEq, Nat.reduceLeDiff, Nat.reduceAdd, Nat.reduceMul]) (by simp (disch := first | assumption | (apply Ap.symm; assumption) | omega | decide | (simp only [Xd] <;> omega)) only [↓Xa, Xb, Xc, ↓reduceIte, Nat.reduceLT, Nat.reduceEqDiff, Nat.reduceBEq, Nat.reduceLeDiff, Nat.reduceAdd, Nat.reduceMul]) hg hgr
        simp (disch := first | assumption | (apply Ap.symm; assumption) | omega | decide | (simp only [Xd] <;> omega)) only [g1, g2, cells_IntA, fold_IntA, rs117, ↓Xa, Xb, Xc, ↓reduceIte, Nat.reduceLT, Nat.reduceEqDiff, Nat.reduceBEq, Nat.reduceLeDiff, Nat.reduceAdd, Nat.reduceMul]
        exact g3
      · have hg : ((contN zs : Nat) : Int) = primG zs := by unfold primG; rw [hfind]; dsimp only; rw [if_neg hneg]
        simp (disch := first | assumption | (apply Ap.symm; assumption) | omega | decide | (simp only [Xd] <;> omega)) only [sgn_lss0, decide_eq_false hneg, cells_IntA, fold_IntA, ↓Xa, Xb, Xc, ↓reduceIte, Nat.reduceLT, Nat.reduceEqDiff, Nat.reduceBEq, Nat.reduceLeDiff, Nat.reduceAdd, Nat.reduceMul]
        refine run_call (rowover_run hz hcb hk (by omega) hbig (fun _ y M hgr => ?_) fun ⟨z, hm, hne⟩ => absurd (hdv hg z hm) hne)
        have hR2 : primR zs = zs.map (· / ((contN zs : Nat) : Int)) := by unfold primR; rw [← hg]
        rw [← hR2] at hgr
        obtain ⟨g1, g2, g3⟩ := fin hc0 n1 n2 (by assumption) (g := ((contN zs : Nat) : Int)) ((((Le.refl H).updB n1).updB n2).updB n3) (by simp (disch := first | assumption | (apply Ap.symm; assumption) | omega | decide | (simp only [Xd] <;> omega)) only [↓Xa, Xb, Xc, ↓reduceIte, Nat.reduceLT, Nat.reduceEqDiff, Nat.reduceBEq, Nat.reduceLeDiff, Nat.reduceAdd, Nat.reduceMul]) (by simp (disch := first | assumption | (apply Ap.symm; assumption) | omega | decide | (simp only [Xd] <;> omega)) only [↓Xa, Xb, Xc, ↓reduceIte, Nat.reduceLT, Nat.reduceEqDiff, Nat.reduceBEq, Nat.reduceLeDiff, Nat.reduceAdd, Nat.reduceMul]) hg hgr
        simp (disch := first | assumption | (apply Ap.symm; assumption) | omega | decide | (simp only [Xd] <;> omega)) only [g1, g2, cells_IntA, fold_IntA, rs117, ↓Xa, Xb, Xc, ↓reduceIte, Nat.reduceLT, Nat.reduceEqDiff, Nat.reduceBEq, Nat.reduceLeDiff, Nat.reduceAdd, Nat.reduceMul]
        exact g3
  · have hall : ∀ z, z ∈ zs → z = 0 := fun z hm => by
      obtain ⟨j, hj, rfl⟩ := List.getElem_of_mem hm
      exact hno j hj (by omega)
    have hc0 : contN zs = 0 := (contN_zero zs).2 hall
    have hg : ((contN zs : Nat) : Int) = primG zs := by have := primG_abs zs; omega
    have hR : primR zs = zs := by
      unfold primR
      conv => rhs; rw [← List.map_id zs]
      refine List.map_congr_left fun z hm => ?_
      rw [hall z hm]; simp
    simp (disch := first | assumption | (apply Ap.symm; assumption) | omega | decide | (simp only [Xd] <;> omega)) only [hi, ↓Xa, Xb, Xc, ↓reduceIte, Nat.reduceLT, Nat.reduceEqDiff, Nat.reduceBEq, Nat.reduceLeDiff, Nat.reduceAdd, Nat.reduceMul]
    refine Settle.now ?_
    have hln : (primR zs).length = zs.length := by simp [primR]
    have ec := PFn.frozen (P := Tryd.prog) (f := 144) (args := [RowA zs t, .fn (.func 185) [] []]) (ty := 28) (es := 2) (n := zs.length) (cells := IC zs) fun H Q hq =>
      each_pure hz (ws := zs) rfl hbig (fun i h M K _ hK => id1_fn.call hK) hq
    simp (disch := first | assumption | (apply Ap.symm; assumption) | omega | decide | (simp only [Xd] <;> omega)) only [↓Xa, Xb, Xc, ↓reduceIte, Nat.reduceLT, Nat.reduceEqDiff, Nat.reduceBEq, Nat.reduceLeDiff, Nat.reduceAdd, Nat.reduceMul]
    refine PFn.dcall ec ?_
    have hq0 := hq0 hc0
    rw [← hg, hR] at hq0
    simp (disch := first | assumption | (apply Ap.symm; assumption) | omega | decide | (simp only [Xd] <;> omega)) only [cells_IntA, fold_IntA, rs117, ↓Xa, Xb, Xc, ↓reduceIte, Nat.reduceLT, Nat.reduceEqDiff, Nat.reduceBEq, Nat.reduceLeDiff, Nat.reduceAdd, Nat.reduceMul]
    exact SetR.dropTo (((Le.refl H).updB n1).updB n2) (SetR.now hq0)
theorem rowprim_fn {zs : List Int} {t : Bool} {k : Nat} (hz : RB4 k zs) (hk : k ≤ 1000000) (hk2 : 2 ≤ k) (hbig : zs.length ≤ 1000000) : PFn Tryd.prog 117 [RowA zs t] (.tup [RowA (primR zs) false, IntA (primG zs)]) := fun H Q hq => by
  have hln : (primR zs).length = zs.length := by simp [primR]
  refine Run.settle (rowprim_run hz hk hk2 hbig (fun hc0 y M hg => ?_) fun _ => SetR.now hq)
  rw [show RowA (primR zs) false = .seq zs.length (IC (primR zs)) false by rw [← hln]] at hq
  rcases hg with ⟨h1, h2, rfl, rfl⟩ | ⟨hn, hl, b, hb, rfl, rfl⟩
  · have : zs = [] := List.length_eq_zero_iff.1 h1
    subst this
    exact absurd rfl hc0
  · refine SetR.frz b (upd_same _ _ _) ?_
    rw [upd_upd, upd_back _ hb]
    have e : frz b 2 (IC (primR zs)) (.tup [.own b (zs.length * 2) 0 zs.length false, IntA (primG zs)]) = .tup [.seq zs.length (IC (primR zs)) false, IntA (primG zs)] := by simp [frz, frz2, frz1, hl, List.take_of_length_le, IntA, LS]
    rw [e]; exact SetR.now hq
end Go.Proofs.YtanchgkiomfhhaaDoor.Fw

/- The law of rows over numbers (a module): true. -/
namespace Go.Proofs.YtanchgkiomfhhaaDoor.Fw
set_option linter.unusedSimpArgs false
set_option linter.unusedVariables false
open Go Go.Proofs.YtanchgkiomfhhaaDoor.Ma
set_option maxRecDepth 20000

theorem RB4.map {k k' : Nat} {zs : List Int} {f : Int → Int} (h : RB4 k zs) (hf : ∀ z, Bd k z → Bd k' (f z)) : RB4 k' (zs.map f) :=
  ⟨fun z hz => by obtain ⟨y, hy, rfl⟩ := List.mem_map.1 hz; exact hf y (h.1 y hy), by rw [List.length_map]; exact h.2⟩
theorem RB4.zip {k k1 k2 : Nat} {zs ws : List Int} {f : Int → Int → Int} (h : RB4 k1 zs) (h2 : RB4 k2 ws) (hl : zs.length = ws.length) (hf : ∀ z w, Bd k1 z → Bd k2 w → Bd k (f z w)) : RB4 k (zipI f zs ws) :=
  ⟨fun z hz => by
    obtain ⟨i, hi, rfl⟩ := List.getElem_of_mem hz
    have hi2 : i < zs.length := by rw [zip_len hl] at hi; exact hi
    rw [zip_at hl hi2]
    exact hf _ _ (h.at hi2) (h2.at (by omega)), by rw [zip_len hl]; exact h.2⟩
theorem RB4.mono {k k' : Nat} {zs : List Int} (h : RB4 k zs) (hk : k ≤ k') : RB4 k' zs := ⟨fun z hz => (h.1 z hz).mono hk, h.2⟩
theorem Bd.sums {k : Nat} : ∀ {l : List Int} {s : Int} {j : Nat}, Bd (k + j) s → (∀ z, z ∈ l → Bd k z) → Bd (k + (j + l.length)) (l.foldl (· + ·) s)
  | [], s, j, h, _ => h
  | z :: l, s, j, h, h2 => by
    have := Bd.sums (l := l) (s := s + z) (j := j + 1) ((h.add ((h2 z (by simp)).mono (by omega))).mono (by omega)) fun y hy => h2 y (by simp [hy])
    exact this.mono (by simp only [List.length_cons]; omega)
theorem Bd.dotF {k k1 k2 : Nat} {zs ws : List Int} (h : RB4 k1 zs) (h2 : RB4 k2 ws) (hl : zs.length = ws.length) (hk : k1 + k2 + zs.length ≤ k) : Bd k (dotF 0 zs ws) := by
  have hz := RB4.zip (f := (· * ·)) h h2 hl (fun z w a b => a.mul b)
  have := Bd.sums (k := k1 + k2) (l := zipI (· * ·) zs ws) (s := 0) (j := 0) (Bd.zero _) hz.1
  rw [zip_len hl] at this
  exact this.mono (by omega)
theorem scale_add (m : Int) : ∀ zs ws : List Int, (zipI (· + ·) zs ws).map (m * ·) = zipI (· + ·) (zs.map (m * ·)) (ws.map (m * ·))
  | [], ws => by simp [zipI]
  | z :: zs, [] => by simp [zipI]
  | z :: zs, w :: ws => by
    have := scale_add m zs ws
    simp only [zipI, List.zipWith_cons_cons, List.map_cons, List.cons.injEq] at this ⊢
    exact ⟨Int.mul_add _ _ _, this⟩
theorem repL3 {a : AV} : repA [a] 3 = [a, a, a] := by simp [repA, List.range, List.range.loop]
theorem prim_back' (zs : List Int) : (primR zs).map (primG zs * ·) = zs := by
  have h := primR_back zs
  rw [show (fun x => primG zs * x) = (fun x => x * primG zs) from funext fun x => Int.mul_comm _ _]; exact h
theorem cont_scale' (m : Int) (zs : List Int) : contN (zs.map (m * ·)) = contN zs * m.natAbs := by
  have h := contN_scale m zs
  rw [show (fun x => m * x) = (fun x => x * m) from funext fun x => Int.mul_comm _ _]; exact h
section
variable {zs ws : List Int} {t t' : Bool} {k : Nat}
theorem rowadd_fn (hz : RB4 k zs) (hw : RB4 k ws) (hk : k ≤ 1000000) (hl : zs.length = ws.length) (hbig : zs.length ≤ 1000000) : PFn Tryd.prog 37 [RowA zs t, RowA ws t'] (.tup [RowA (zipI (· + ·) zs ws) false, .int .i64 ((0 : Nat) : Int)]) := by
  have h := PFn.frozen1 (k := .i64) (e := ((0 : Nat) : Int)) fun H Q hq => rowadd_run (H := H) (Q := Q) (t := t) (t' := t') hz hw hk hl hbig hq
  rw [show RowA (zipI (· + ·) zs ws) false = .seq zs.length (IC (zipI (· + ·) zs ws)) false by rw [← zip_len hl]]; exact h
theorem rowsc_fn {c : Int} {k' : Nat} (hz : RB4 k zs) (hc : Bd k' c) (hk : k + k' ≤ 1000000) (hbig : zs.length ≤ 1000000) : PFn Tryd.prog 42 [RowA zs t, IntA c] (RowA (zs.map (c * ·)) false) := by
  have h := PFn.frozen fun H Q hq => rowsc_run (H := H) (Q := Q) (t := t) hz hc hk hbig hq
  rw [show RowA (zs.map (c * ·)) false = .seq zs.length (IC (zs.map (c * ·))) false by simp]; exact h
theorem rowcomb_fn {c d : Int} {k' : Nat} (hz : RB4 k zs) (hw : RB4 k ws) (hc : Bd k' c) (hd : Bd k' d) (hk : k + k' + 1 ≤ 1000000) (hl : zs.length = ws.length) (hbig : zs.length ≤ 1000000) : PFn Tryd.prog 39 [IntA c, RowA zs t, IntA d, RowA ws t'] (.tup [RowA (zipI (fun x y => c * x + d * y) zs ws) false, .int .i64 ((0 : Nat) : Int)]) := by
  have h := PFn.frozen1 (k := .i64) (e := ((0 : Nat) : Int)) fun H Q hq => rowcomb_run (H := H) (Q := Q) (t := t) (t' := t') hz hw hc hd hk hl hbig hq
  rw [show RowA (zipI (fun x y => c * x + d * y) zs ws) false = .seq zs.length (IC (zipI (fun x y => c * x + d * y) zs ws)) false by rw [← zip_len hl]]; exact h
end
theorem rowModule_law (q : TwoV) (mq : TwoGood q) : PFn Tryd.prog 20 [TwoA q] (.bool true) := by
  obtain ⟨a, b, c, d⟩ := q
  obtain ⟨ma, la, mb, lb, mc, md⟩ := mq
  dsimp only at ma la mb lb mc md
  intro H Q hq
  have hd0 : decide (((0 : Nat) : Int) = ((0 : Nat) : Int)) = true := rfl
  have lg := long4_fn (ll := [(a, false), (b, false), ([c, d], true)]) (t := true) (by simp) (fun x hx => by
    simp only [List.mem_cons, List.not_mem_nil, or_false] at hx
    rcases hx with rfl | rfl | rfl
    · exact ⟨la, fun q hq => (ma q hq).2⟩
    · exact ⟨lb, fun q hq => (mb q hq).2⟩
    · refine ⟨by simp, fun q hq => ?_⟩
      simp only [List.mem_cons, List.not_mem_nil, or_false] at hq
      rcases hq with rfl | rfl
      · exact mc.2
      · exact md.2)
  have et : sumN ([(a, false), (b, false), ([c, d], true)].map fun x : List NumV × Bool => numT x.1) = numT a + numT b + numT [c, d] := by simp [sumN]; omega
  rw [et] at lg
  have lg' : PFn Tryd.prog 33 [.seq 3 [.seq a.length (NumsC a) false, .seq b.length (NumsC b) false, .seq 2 [.bool c.1, LS c.2.1 c.2.2, .bool d.1, LS d.2.1 d.2.2] true] true] (.bool (decide (300 < numT a + numT b + numT [c, d]))) := lg
  refine enter20 (by simp) ?_
  simp (disch := first | assumption | (apply Ap.symm; assumption) | omega | decide | (simp only [Xd] <;> omega)) only [ac20, TwoA, NumsA, ↓Xa, Xb, Xc, ↓reduceIte, Nat.reduceLT, Nat.reduceEqDiff, Nat.reduceBEq, Nat.reduceLeDiff, Nat.reduceAdd, Nat.reduceMul]
  refine alloc_i fun p1 hp1 => ?_
  have n1 := hp1
  simp (disch := first | assumption | (apply Ap.symm; assumption) | omega | decide | (simp only [Xd] <;> omega)) only [↓Xa, Xb, Xc, ↓reduceIte, Nat.reduceLT, Nat.reduceEqDiff, Nat.reduceBEq, Nat.reduceLeDiff, Nat.reduceAdd, Nat.reduceMul]
  refine live4_fn.call ?_
  simp (disch := first | assumption | (apply Ap.symm; assumption) | omega | decide | (simp only [Xd] <;> omega)) only [↓Xa, Xb, Xc, ↓reduceIte, Nat.reduceLT, Nat.reduceEqDiff, Nat.reduceBEq, Nat.reduceLeDiff, Nat.reduceAdd, Nat.reduceMul]
  refine dalloc_i fun p2 hp2 => ?_
  have n2 := hp2
  simp only [upd_none] at n2
  obtain ⟨_, n2⟩ := n2
  simp (disch := first | assumption | (apply Ap.symm; assumption) | omega | decide | (simp only [Xd] <;> omega)) only [↓Xa, Xb, Xc, ↓reduceIte, Nat.reduceLT, Nat.reduceEqDiff, Nat.reduceBEq, Nat.reduceLeDiff, Nat.reduceAdd, Nat.reduceMul]
  refine dalloc_i fun p3 hp3 => ?_
  have n3 := hp3
  simp only [upd_none] at n3
  obtain ⟨_, _, n3⟩ := n3
  simp (disch := first | assumption | (apply Ap.symm; assumption) | omega | decide | (simp only [Xd] <;> omega)) only [rep24, repL3, ↓Xa, Xb, Xc, ↓reduceIte, Nat.reduceLT, Nat.reduceEqDiff, Nat.reduceBEq, Nat.reduceLeDiff, Nat.reduceAdd, Nat.reduceMul]
  refine lg'.call ?_
  by_cases hl : 300 < numT a + numT b + numT [c, d]
  · simp (disch := first | assumption | (apply Ap.symm; assumption) | omega | decide | (simp only [Xd] <;> omega)) only [decide_eq_true hl, rs20, ↓Xa, Xb, Xc, ↓reduceIte, Nat.reduceLT, Nat.reduceEqDiff, Nat.reduceBEq, Nat.reduceLeDiff, Nat.reduceAdd, Nat.reduceMul]
    exact SetR.dropTo ((((Le.refl H).updB n1).updB n2).updB n3) (SetR.now hq)
  obtain ⟨a1, a2⟩ := long_ok (l := a) (by omega)
  obtain ⟨b1, b2⟩ := long_ok (l := b) (by omega)
  obtain ⟨_, c2⟩ := long_ok (l := [c, d]) (by omega)
  have c2c := c2 c (by simp)
  have c2d := c2 d (by simp)
  by_cases hlen : a.length = b.length
  rotate_left
  · have hne : decide (((a.length : Nat) : Int) = ((b.length : Nat) : Int)) = false := decide_eq_false (by omega)
    simp (disch := first | assumption | (apply Ap.symm; assumption) | omega | decide | (simp only [Xd] <;> omega)) only [decide_eq_false hl, len_rw, neq_int, hne, rs20, ↓Xa, Xb, Xc, ↓reduceIte, Nat.reduceLT, Nat.reduceEqDiff, Nat.reduceBEq, Nat.reduceLeDiff, Nat.reduceAdd, Nat.reduceMul]
    exact SetR.dropTo ((((Le.refl H).updB n1).updB n2).updB n3) (SetR.now hq)
  have hne : decide (((a.length : Nat) : Int) = ((b.length : Nat) : Int)) = true := decide_eq_true (by omega)
  have hz := rowZ_RB4 a1 ma a2
  have hw := rowZ_RB4 b1 mb b2
  have ofa : PFn Tryd.prog 34 [.seq a.length (NumsC a) false] (.tup [RowA (rowZ a) false, RefR (rowZ a) false]) := of4_fn a1 ma a2
  have ofb : PFn Tryd.prog 34 [.seq b.length (NumsC b) false] (.tup [RowA (rowZ b) false, RefR (rowZ b) false]) := of4_fn b1 mb b2
  have hzw : (rowZ a).length = (rowZ b).length := by simp [rowZ, hlen]
  have hbig : (rowZ a).length ≤ 300 := by simp [rowZ]; omega
  have mkc := make_fn c.1 c.2.2 mc.1 (by omega)
  have mkd := make_fn d.1 d.2.2 md.1 (by omega)
  have bm : Bd 300 (sg c.1 (val 4294967296 c.2.1)) := (Bd.of_val mc.1).mono c2c
  have bn : Bd 300 (sg d.1 (val 4294967296 d.2.1)) := (Bd.of_val md.1).mono c2d
  simp (disch := first | assumption | (apply Ap.symm; assumption) | omega | decide | (simp only [Xd] <;> omega)) only [decide_eq_false hl, len_rw, neq_int, hne, ↓Xa, Xb, Xc, ↓reduceIte, Nat.reduceLT, Nat.reduceEqDiff, Nat.reduceBEq, Nat.reduceLeDiff, Nat.reduceAdd, Nat.reduceMul]
  refine ofa.call ?_
  simp (disch := first | assumption | (apply Ap.symm; assumption) | omega | decide | (simp only [Xd] <;> omega)) only [↓Xa, Xb, Xc, ↓reduceIte, Nat.reduceLT, Nat.reduceEqDiff, Nat.reduceBEq, Nat.reduceLeDiff, Nat.reduceAdd, Nat.reduceMul]
  refine ofb.call ?_
  generalize rowZ a = zs at *
  generalize rowZ b = ws at *
  generalize sg c.1 (val 4294967296 c.2.1) = m at *
  generalize sg d.1 (val 4294967296 d.2.1) = n at *
  simp (disch := first | assumption | (apply Ap.symm; assumption) | omega | decide | (simp only [Xd] <;> omega)) only [↓Xa, Xb, Xc, ↓reduceIte, Nat.reduceLT, Nat.reduceEqDiff, Nat.reduceBEq, Nat.reduceLeDiff, Nat.reduceAdd, Nat.reduceMul]
  refine PFn.dcall mkc ?_
  simp (disch := first | assumption | (apply Ap.symm; assumption) | omega | decide | (simp only [Xd] <;> omega)) only [↓Xa, Xb, Xc, ↓reduceIte, Nat.reduceLT, Nat.reduceEqDiff, Nat.reduceBEq, Nat.reduceLeDiff, Nat.reduceAdd, Nat.reduceMul]
  refine PFn.dcall mkd ?_
  simp (disch := first | assumption | (apply Ap.symm; assumption) | omega | decide | (simp only [Xd] <;> omega)) only [↓Xa, Xb, Xc, ↓reduceIte, Nat.reduceLT, Nat.reduceEqDiff, Nat.reduceBEq, Nat.reduceLeDiff, Nat.reduceAdd, Nat.reduceMul]
  refine dalloc_i fun p4 hp4 => ?_
  have n4 := hp4
  simp only [upd_none] at n4
  obtain ⟨_, _, _, n4⟩ := n4
  simp (disch := first | assumption | (apply Ap.symm; assumption) | omega | decide | (simp only [Xd] <;> omega)) only [↓Xa, Xb, Xc, ↓reduceIte, Nat.reduceLT, Nat.reduceEqDiff, Nat.reduceBEq, Nat.reduceLeDiff, Nat.reduceAdd, Nat.reduceMul]
  refine dalloc_i fun p5 hp5 => ?_
  have n5 := hp5
  simp only [upd_none] at n5
  obtain ⟨_, _, _, _, n5⟩ := n5
  simp (disch := first | assumption | (apply Ap.symm; assumption) | omega | decide | (simp only [Xd] <;> omega)) only [cells_IntA, fold_IntA, ↓Xa, Xb, Xc, ↓reduceIte, Nat.reduceLT, Nat.reduceEqDiff, Nat.reduceBEq, Nat.reduceLeDiff, Nat.reduceAdd, Nat.reduceMul]
  -- what is reckoned
  have hs := RB4.zip (f := (· + ·)) hz hw hzw (fun z w x y => x.add y)
  have hzm := RB4.map (f := (m * ·)) hz (fun z x => bm.mul x)
  have hwm := RB4.map (f := (m * ·)) hw (fun z x => bm.mul x)
  have hu := RB4.zip (k := 601) (f := fun x y => m * x + n * y) hz hw hzw (fun z w x y => ((bm.mul x).add (bn.mul y)).mono (by omega))
  have lzm : (zs.map (m * ·)).length = zs.length := by simp
  have lwm : (ws.map (m * ·)).length = ws.length := by simp
  have lu : (zipI (fun x y => m * x + n * y) zs ws).length = ws.length := by rw [zip_len hzw]; exact hzw
  refine (rowadd_fn hz hw (by omega) hzw (by omega)).call ?_
  simp (disch := first | assumption | (apply Ap.symm; assumption) | omega | decide | (simp only [Xd] <;> omega)) only [↓Xa, Xb, Xc, ↓reduceIte, Nat.reduceLT, Nat.reduceEqDiff, Nat.reduceBEq, Nat.reduceLeDiff, Nat.reduceAdd, Nat.reduceMul]
  refine PFn.dcall (rowsc_fn hz bm (by omega) (by omega)) ?_
  simp (disch := first | assumption | (apply Ap.symm; assumption) | omega | decide | (simp only [Xd] <;> omega)) only [↓Xa, Xb, Xc, ↓reduceIte, Nat.reduceLT, Nat.reduceEqDiff, Nat.reduceBEq, Nat.reduceLeDiff, Nat.reduceAdd, Nat.reduceMul]
  refine PFn.dcall (rowsc_fn hw bm (by omega) (by omega)) ?_
  simp (disch := first | assumption | (apply Ap.symm; assumption) | omega | decide | (simp only [Xd] <;> omega)) only [↓Xa, Xb, Xc, ↓reduceIte, Nat.reduceLT, Nat.reduceEqDiff, Nat.reduceBEq, Nat.reduceLeDiff, Nat.reduceAdd, Nat.reduceMul]
  refine PFn.dcall (rowadd_fn hzm hwm (by omega) (by simp [hzw]) (by omega)) ?_
  simp (disch := first | assumption | (apply Ap.symm; assumption) | omega | decide | (simp only [Xd] <;> omega)) only [cells_IntA, fold_IntA, ↓Xa, Xb, Xc, ↓reduceIte, Nat.reduceLT, Nat.reduceEqDiff, Nat.reduceBEq, Nat.reduceLeDiff, Nat.reduceAdd, Nat.reduceMul]
  refine (rowcomb_fn hz hw bm bn (by omega) hzw (by omega)).call ?_
  simp (disch := first | assumption | (apply Ap.symm; assumption) | omega | decide | (simp only [Xd] <;> omega)) only [↓Xa, Xb, Xc, ↓reduceIte, Nat.reduceLT, Nat.reduceEqDiff, Nat.reduceBEq, Nat.reduceLeDiff, Nat.reduceAdd, Nat.reduceMul]
  refine (rowdot_fn (k := 601) hu (hw.mono (by omega)) (by omega) lu (by omega)).call ?_
  simp (disch := first | assumption | (apply Ap.symm; assumption) | omega | decide | (simp only [Xd] <;> omega)) only [↓Xa, Xb, Xc, ↓reduceIte, Nat.reduceLT, Nat.reduceEqDiff, Nat.reduceBEq, Nat.reduceLeDiff, Nat.reduceAdd, Nat.reduceMul]
  refine alloc_i fun p6 hp6 => ?_
  have n6 := hp6
  simp only [upd_none] at n6
  obtain ⟨_, _, _, _, _, n6⟩ := n6
  simp (disch := first | assumption | (apply Ap.symm; assumption) | omega | decide | (simp only [Xd] <;> omega)) only [cells_IntA, fold_IntA, ↓Xa, Xb, Xc, ↓reduceIte, Nat.reduceLT, Nat.reduceEqDiff, Nat.reduceBEq, Nat.reduceLeDiff, Nat.reduceAdd, Nat.reduceMul]
  refine (rowdot_fn hz hw (by omega) hzw (by omega)).call ?_
  simp (disch := first | assumption | (apply Ap.symm; assumption) | omega | decide | (simp only [Xd] <;> omega)) only [↓Xa, Xb, Xc, ↓reduceIte, Nat.reduceLT, Nat.reduceEqDiff, Nat.reduceBEq, Nat.reduceLeDiff, Nat.reduceAdd, Nat.reduceMul]
  refine alloc_i fun p7 hp7 => ?_
  have n7 := hp7
  simp only [upd_none] at n7
  obtain ⟨_, _, _, _, _, _, n7⟩ := n7
  simp (disch := first | assumption | (apply Ap.symm; assumption) | omega | decide | (simp only [Xd] <;> omega)) only [cells_IntA, fold_IntA, ↓Xa, Xb, Xc, ↓reduceIte, Nat.reduceLT, Nat.reduceEqDiff, Nat.reduceBEq, Nat.reduceLeDiff, Nat.reduceAdd, Nat.reduceMul]
  refine (rowdot_fn hw hw (by omega) rfl (by omega)).call ?_
  simp (disch := first | assumption | (apply Ap.symm; assumption) | omega | decide | (simp only [Xd] <;> omega)) only [↓Xa, Xb, Xc, ↓reduceIte, Nat.reduceLT, Nat.reduceEqDiff, Nat.reduceBEq, Nat.reduceLeDiff, Nat.reduceAdd, Nat.reduceMul]
  refine alloc_i fun p8 hp8 => ?_
  have n8 := hp8
  simp only [upd_none] at n8
  obtain ⟨_, _, _, _, _, _, _, n8⟩ := n8
  simp (disch := first | assumption | (apply Ap.symm; assumption) | omega | decide | (simp only [Xd] <;> omega)) only [neq_int, hd0, cells_IntA, fold_IntA, ↓Xa, Xb, Xc, ↓reduceIte, Nat.reduceLT, Nat.reduceEqDiff, Nat.reduceBEq, Nat.reduceLeDiff, Nat.reduceAdd, Nat.reduceMul]
  refine live4_fn.call ?_
  simp (disch := first | assumption | (apply Ap.symm; assumption) | omega | decide | (simp only [Xd] <;> omega)) only [↓Xa, Xb, Xc, ↓reduceIte, Nat.reduceLT, Nat.reduceEqDiff, Nat.reduceBEq, Nat.reduceLeDiff, Nat.reduceAdd, Nat.reduceMul]
  refine (rowprim_fn hz (by omega) (by omega) (by omega)).call ?_
  have hgc : Bd 300 ((contN zs : Nat) : Int) := Bd.gcdF (Bd.zero 300) hz.1
  have hgb : Bd 300 (primG zs) := by have := primG_abs zs; unfold Bd at hgc ⊢; omega
  have hpr : RB4 300 (primR zs) := RB4.map hz fun z h => h.ediv
  have lpr : (primR zs).length = zs.length := by simp [primR]
  simp (disch := first | assumption | (apply Ap.symm; assumption) | omega | decide | (simp only [Xd] <;> omega)) only [↓Xa, Xb, Xc, ↓reduceIte, Nat.reduceLT, Nat.reduceEqDiff, Nat.reduceBEq, Nat.reduceLeDiff, Nat.reduceAdd, Nat.reduceMul]
  refine alloc_i fun p9 hp9 => ?_
  have n9 := hp9
  simp only [upd_none] at n9
  obtain ⟨_, _, _, _, _, _, _, _, n9⟩ := n9
  simp (disch := first | assumption | (apply Ap.symm; assumption) | omega | decide | (simp only [Xd] <;> omega)) only [cells_IntA, fold_IntA, ↓Xa, Xb, Xc, ↓reduceIte, Nat.reduceLT, Nat.reduceEqDiff, Nat.reduceBEq, Nat.reduceLeDiff, Nat.reduceAdd, Nat.reduceMul]
  refine (rowcont_fn hpr (by omega) (by omega)).call ?_
  simp (disch := first | assumption | (apply Ap.symm; assumption) | omega | decide | (simp only [Xd] <;> omega)) only [↓Xa, Xb, Xc, ↓reduceIte, Nat.reduceLT, Nat.reduceEqDiff, Nat.reduceBEq, Nat.reduceLeDiff, Nat.reduceAdd, Nat.reduceMul]
  refine alloc_i fun p10 hp10 => ?_
  have n10 := hp10
  simp only [upd_none] at n10
  obtain ⟨_, _, _, _, _, _, _, _, _, n10⟩ := n10
  simp (disch := first | assumption | (apply Ap.symm; assumption) | omega | decide | (simp only [Xd] <;> omega)) only [cells_IntA, fold_IntA, ↓Xa, Xb, Xc, ↓reduceIte, Nat.reduceLT, Nat.reduceEqDiff, Nat.reduceBEq, Nat.reduceLeDiff, Nat.reduceAdd, Nat.reduceMul]
  refine PFn.dcall (rowsc_fn hs bm (by omega) (by rw [zip_len hzw]; omega)) ?_
  simp (disch := first | assumption | (apply Ap.symm; assumption) | omega | decide | (simp only [Xd] <;> omega)) only [↓Xa, Xb, Xc, ↓reduceIte, Nat.reduceLT, Nat.reduceEqDiff, Nat.reduceBEq, Nat.reduceLeDiff, Nat.reduceAdd, Nat.reduceMul]
  rw [scale_add]
  have hsum := RB4.zip (f := (· + ·)) hzm hwm (by simp [hzw]) (fun z w x y => x.add y)
  refine PFn.dcall (rows_fn hsum hsum (by omega)) ?_
  have e1 : decide (zipI (· + ·) (zs.map (m * ·)) (ws.map (m * ·)) = zipI (· + ·) (zs.map (m * ·)) (ws.map (m * ·))) = true := decide_eq_true rfl
  -- p against m q + n r
  have bq : Bd 901 (dotF 0 zs ws) := Bd.dotF hz hw hzw (by omega)
  have br : Bd 901 (dotF 0 ws ws) := Bd.dotF hw hw rfl (by omega)
  have bp : Bd 1210 (dotF 0 (zipI (fun x y => m * x + n * y) zs ws) ws) := Bd.dotF hu hw lu (by omega)
  have e2 : decide (dotF 0 (zipI (fun x y => m * x + n * y) zs ws) ws = m * dotF 0 zs ws + n * dotF 0 ws ws) = true := decide_eq_true (dot_comb m n zs ws ws hzw)
  simp (disch := first | assumption | (apply Ap.symm; assumption) | omega | decide | (simp only [Xd] <;> omega)) only [e1, cells_IntA, fold_IntA, ↓Xa, Xb, Xc, ↓reduceIte, Nat.reduceLT, Nat.reduceEqDiff, Nat.reduceBEq, Nat.reduceLeDiff, Nat.reduceAdd, Nat.reduceMul]
  refine PFn.dcall (muli_fn bm (by omega) bq (by omega)) ?_
  simp (disch := first | assumption | (apply Ap.symm; assumption) | omega | decide | (simp only [Xd] <;> omega)) only [cells_IntA, fold_IntA, ↓Xa, Xb, Xc, ↓reduceIte, Nat.reduceLT, Nat.reduceEqDiff, Nat.reduceBEq, Nat.reduceLeDiff, Nat.reduceAdd, Nat.reduceMul]
  refine PFn.dcall (muli_fn bn (by omega) br (by omega)) ?_
  simp (disch := first | assumption | (apply Ap.symm; assumption) | omega | decide | (simp only [Xd] <;> omega)) only [cells_IntA, fold_IntA, ↓Xa, Xb, Xc, ↓reduceIte, Nat.reduceLT, Nat.reduceEqDiff, Nat.reduceBEq, Nat.reduceLeDiff, Nat.reduceAdd, Nat.reduceMul]
  refine PFn.dcall (addi_fn (bm.mul bq) (by omega) (bn.mul br) (by omega)) ?_
  simp (disch := first | assumption | (apply Ap.symm; assumption) | omega | decide | (simp only [Xd] <;> omega)) only [cells_IntA, fold_IntA, ↓Xa, Xb, Xc, ↓reduceIte, Nat.reduceLT, Nat.reduceEqDiff, Nat.reduceBEq, Nat.reduceLeDiff, Nat.reduceAdd, Nat.reduceMul]
  refine PFn.dcall (cmpi_fn bp (by omega) ((bm.mul bq).add (bn.mul br)) (by omega)) ?_
  simp (disch := first | assumption | (apply Ap.symm; assumption) | omega | decide | (simp only [Xd] <;> omega)) only [cmp_eql0, e2, cells_IntA, fold_IntA, ↓Xa, Xb, Xc, ↓reduceIte, Nat.reduceLT, Nat.reduceEqDiff, Nat.reduceBEq, Nat.reduceLeDiff, Nat.reduceAdd, Nat.reduceMul]
  -- what is primitive times its number
  refine PFn.dcall (rowsc_fn hpr hgb (by omega) (by omega)) ?_
  rw [prim_back']
  simp (disch := first | assumption | (apply Ap.symm; assumption) | omega | decide | (simp only [Xd] <;> omega)) only [↓Xa, Xb, Xc, ↓reduceIte, Nat.reduceLT, Nat.reduceEqDiff, Nat.reduceBEq, Nat.reduceLeDiff, Nat.reduceAdd, Nat.reduceMul]
  refine PFn.dcall (rows_fn hz hz (by omega)) ?_
  have e3 : decide (zs = zs) = true := decide_eq_true rfl
  simp (disch := first | assumption | (apply Ap.symm; assumption) | omega | decide | (simp only [Xd] <;> omega)) only [e3, cells_IntA, fold_IntA, ↓Xa, Xb, Xc, ↓reduceIte, Nat.reduceLT, Nat.reduceEqDiff, Nat.reduceBEq, Nat.reduceLeDiff, Nat.reduceAdd, Nat.reduceMul]
  -- contents
  have hp1 := primR_cont zs
  have bcp : Bd 300 ((contN (primR zs) : Nat) : Int) := Bd.gcdF (Bd.zero 300) hpr.1
  refine PFn.dcall (of_fn (n := ((1 : Nat) : Int)) (by omega)) ?_
  simp (disch := first | assumption | (apply Ap.symm; assumption) | omega | decide | (simp only [Xd] <;> omega)) only [↓Xa, Xb, Xc, ↓reduceIte, Nat.reduceLT, Nat.reduceEqDiff, Nat.reduceBEq, Nat.reduceLeDiff, Nat.reduceAdd, Nat.reduceMul]
  refine PFn.dcall (cmpi_fn bcp (by omega) (Bd.i64 (n := ((1 : Nat) : Int)) (by omega)) (by omega)) ?_
  have e4 : ∀ K : AV → Prop, binW .leq (.int .i64 (cmpI ((contN (primR zs) : Nat) : Int) ((1 : Nat) : Int))) (.int .i64 ((0 : Nat) : Int)) K ↔ K (.bool true) := fun K => by
    have : cmpI ((contN (primR zs) : Nat) : Int) ((1 : Nat) : Int) ≤ 0 := by rw [hp1]; unfold cmpI; (repeat' split) <;> omega
    have h2 := decide_eq_true this
    simp only [binW, binInt]
    rw [show decide (cmpI ((contN (primR zs) : Nat) : Int) ((1 : Nat) : Int) ≤ ((0 : Nat) : Int)) = true from h2]
    simp
  simp (disch := first | assumption | (apply Ap.symm; assumption) | omega | decide | (simp only [Xd] <;> omega)) only [e4, cells_IntA, fold_IntA, ↓Xa, Xb, Xc, ↓reduceIte, Nat.reduceLT, Nat.reduceEqDiff, Nat.reduceBEq, Nat.reduceLeDiff, Nat.reduceAdd, Nat.reduceMul]
  refine PFn.dcall (sign_fn bcp (by omega)) ?_
  simp (disch := first | assumption | (apply Ap.symm; assumption) | omega | decide | (simp only [Xd] <;> omega)) only [↓Xa, Xb, Xc, ↓reduceIte, Nat.reduceLT, Nat.reduceEqDiff, Nat.reduceBEq, Nat.reduceLeDiff, Nat.reduceAdd, Nat.reduceMul]
  refine PFn.dcall (rowcont_fn hz (by omega) (by omega)) ?_
  simp (disch := first | assumption | (apply Ap.symm; assumption) | omega | decide | (simp only [Xd] <;> omega)) only [↓Xa, Xb, Xc, ↓reduceIte, Nat.reduceLT, Nat.reduceEqDiff, Nat.reduceBEq, Nat.reduceLeDiff, Nat.reduceAdd, Nat.reduceMul]
  refine PFn.dcall (sign_fn hgc (by omega)) ?_
  have e5 : sgnI ((contN (primR zs) : Nat) : Int) = sgnI ((contN zs : Nat) : Int) := by rw [hp1]; unfold sgnI; split <;> (repeat' split) <;> omega
  simp (disch := first | assumption | (apply Ap.symm; assumption) | omega | decide | (simp only [Xd] <;> omega)) only [e5, eqlS, cells_IntA, fold_IntA, ↓Xa, Xb, Xc, ↓reduceIte, Nat.reduceLT, Nat.reduceEqDiff, Nat.reduceBEq, Nat.reduceLeDiff, Nat.reduceAdd, Nat.reduceMul]
  refine PFn.dcall (rowsc_fn hz bm (by omega) (by omega)) ?_
  simp (disch := first | assumption | (apply Ap.symm; assumption) | omega | decide | (simp only [Xd] <;> omega)) only [↓Xa, Xb, Xc, ↓reduceIte, Nat.reduceLT, Nat.reduceEqDiff, Nat.reduceBEq, Nat.reduceLeDiff, Nat.reduceAdd, Nat.reduceMul]
  refine PFn.dcall (rowcont_fn hzm (by omega) (by omega)) ?_
  simp (disch := first | assumption | (apply Ap.symm; assumption) | omega | decide | (simp only [Xd] <;> omega)) only [↓Xa, Xb, Xc, ↓reduceIte, Nat.reduceLT, Nat.reduceEqDiff, Nat.reduceBEq, Nat.reduceLeDiff, Nat.reduceAdd, Nat.reduceMul]
  refine PFn.dcall (rowcont_fn hz (by omega) (by omega)) ?_
  simp (disch := first | assumption | (apply Ap.symm; assumption) | omega | decide | (simp only [Xd] <;> omega)) only [cells_IntA, fold_IntA, ↓Xa, Xb, Xc, ↓reduceIte, Nat.reduceLT, Nat.reduceEqDiff, Nat.reduceBEq, Nat.reduceLeDiff, Nat.reduceAdd, Nat.reduceMul]
  refine PFn.dcall (abs_fn bm (by omega)) ?_
  simp (disch := first | assumption | (apply Ap.symm; assumption) | omega | decide | (simp only [Xd] <;> omega)) only [↓Xa, Xb, Xc, ↓reduceIte, Nat.reduceLT, Nat.reduceEqDiff, Nat.reduceBEq, Nat.reduceLeDiff, Nat.reduceAdd, Nat.reduceMul]
  refine PFn.dcall (muli_fn hgc (by omega) bm.abs (by omega)) ?_
  simp (disch := first | assumption | (apply Ap.symm; assumption) | omega | decide | (simp only [Xd] <;> omega)) only [↓Xa, Xb, Xc, ↓reduceIte, Nat.reduceLT, Nat.reduceEqDiff, Nat.reduceBEq, Nat.reduceLeDiff, Nat.reduceAdd, Nat.reduceMul]
  have bcm : Bd 600 ((contN (zs.map (m * ·)) : Nat) : Int) := Bd.gcdF (Bd.zero 600) hzm.1
  refine PFn.dcall (cmpi_fn bcm (by omega) (hgc.mul bm.abs) (by omega)) ?_
  have e6 : decide (((contN (zs.map (m * ·)) : Nat) : Int) = ((contN zs : Nat) : Int) * ((m.natAbs : Nat) : Int)) = true := decide_eq_true (by rw [cont_scale']; simp)
  simp (disch := first | assumption | (apply Ap.symm; assumption) | omega | decide | (simp only [Xd] <;> omega)) only [cmp_eql0, e6, cells_IntA, fold_IntA, ↓Xa, Xb, Xc, ↓reduceIte, Nat.reduceLT, Nat.reduceEqDiff, Nat.reduceBEq, Nat.reduceLeDiff, Nat.reduceAdd, Nat.reduceMul]
  refine PFn.dcall (rowcont_fn hz (by omega) (by omega)) ?_
  simp (disch := first | assumption | (apply Ap.symm; assumption) | omega | decide | (simp only [Xd] <;> omega)) only [cells_IntA, fold_IntA, ↓Xa, Xb, Xc, ↓reduceIte, Nat.reduceLT, Nat.reduceEqDiff, Nat.reduceBEq, Nat.reduceLeDiff, Nat.reduceAdd, Nat.reduceMul]
  refine (abs_fn hgb (by omega)).call ?_
  simp (disch := first | assumption | (apply Ap.symm; assumption) | omega | decide | (simp only [Xd] <;> omega)) only [↓Xa, Xb, Xc, ↓reduceIte, Nat.reduceLT, Nat.reduceEqDiff, Nat.reduceBEq, Nat.reduceLeDiff, Nat.reduceAdd, Nat.reduceMul]
  refine (cmpi_fn hgc (by omega) hgb.abs (by omega)).call ?_
  have e7 : decide (((contN zs : Nat) : Int) = (((primG zs).natAbs : Nat) : Int)) = true := decide_eq_true (by rw [primG_abs])
  simp (disch := first | assumption | (apply Ap.symm; assumption) | omega | decide | (simp only [Xd] <;> omega)) only [cmp_eql0, e7, rs20, ↓Xa, Xb, Xc, ↓reduceIte, Nat.reduceLT, Nat.reduceEqDiff, Nat.reduceBEq, Nat.reduceLeDiff, Nat.reduceAdd, Nat.reduceMul]
  exact SetR.dropTo (((((((((((Le.refl H).updB n1).updB n2).updB n3).updB n4).updB n5).updB n6).updB n7).updB n8).updB n9).updB n10) (SetR.now hq)
end Go.Proofs.YtanchgkiomfhhaaDoor.Fw
