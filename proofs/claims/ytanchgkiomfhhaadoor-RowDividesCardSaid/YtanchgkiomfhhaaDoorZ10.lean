/- The texts Lay156 Kj Kh Kk Kl Km Ko Kp Kq Kr Ks Kt Ku Kv Kw Kx Ky, joined. -/
import Derived.Test.YtanchgkiomfhhaaDoorZ9
import Derived.Shelf.Strings.OnBuilder
import Derived.Test.YtanchgkiomfhhaaDoorProg
import Derived.Lib.SmallJoins
/- The numbers under which the library's functions stand in this program, and that their texts are those which the kit's contracts speak of: printed by wip/tools/lay.py. -/
namespace Go.Proofs.YtanchgkiomfhhaaDoor.Fw
open Go Go.Shelf Go.Proofs
def lay156_ren : Ren :=
  {
    f := fun x =>
      match x with
      | 156 => 168
      | 165 => 203
      | 166 => 204
      | 169 => 205
      | 240 => 215
      | 241 => 216
      | 276 => 227
      | 277 => 228
      | n => n,
    t := fun x =>
      match x with
      | 31 => 202
      | 9 => 9
      | 3 => 3
      | 4 => 4
      | 0 => 0
      | 20 => 20
      | 72 => 234
      | 76 => 238
      | 70 => 232
      | 37 => 103
      | 75 => 237
      | 127 => 251
      | 164 => 263
      | 5 => 5
      | 80 => 36
      | n => n,
    g := fun x =>
      have n := x;
      n }
theorem lay156 : Lays.n156 Tryd.prog lay156_ren :=
  { mixed := Eq.refl true, f156 := Eq.trans Tryd.func168 (congrArg some (Eq.refl (Body.n156 lay156_ren))),
    f165 := Eq.trans Tryd.func203 (congrArg some (Eq.refl (Body.n165 lay156_ren))),
    f166 := Eq.trans Tryd.func204 (congrArg some (Eq.refl (Body.n166 lay156_ren))),
    f169 := Eq.trans Tryd.func205 (congrArg some (Eq.refl (Body.n169 lay156_ren))),
    f240 := Eq.trans Tryd.func215 (congrArg some (Eq.refl (Body.n240 lay156_ren))),
    f241 := Eq.trans Tryd.func216 (congrArg some (Eq.refl (Body.n241 lay156_ren))),
    f276 := Eq.trans Tryd.func227 (congrArg some (Eq.refl (Body.n276 lay156_ren))),
    f277 := Eq.trans Tryd.func228 (congrArg some (Eq.refl (Body.n277 lay156_ren))), t0 := Tryd.underlying0,
    a0 := Tryd.isAgg0, z0 := Tryd.sizeOf0, v0 := Tryd.zeroValue0, t3 := Tryd.underlying3, a3 := Tryd.isAgg3,
    z3 := Tryd.sizeOf3, v3 := Tryd.zeroValue3, t4 := Tryd.underlying4, a4 := Tryd.isAgg4, z4 := Tryd.sizeOf4,
    v4 := Tryd.zeroValue4, t9 := Tryd.underlying9, a9 := Tryd.isAgg9, z9 := Tryd.sizeOf9, v9 := Tryd.zeroValue9,
    t20 := Tryd.underlying20, a20 := Tryd.isAgg20, z20 := Tryd.sizeOf20, v20 := Tryd.zeroValue20,
    t31 := Tryd.underlying202, a31 := Tryd.isAgg202, z31 := Tryd.sizeOf202, v31 := Tryd.zeroValue202,
    t37 := Tryd.underlying103, a37 := Tryd.isAgg103, z37 := Tryd.sizeOf103, v37 := Tryd.zeroValue103,
    t70 := Tryd.underlying232, a70 := Tryd.isAgg232, z70 := Tryd.sizeOf232, v70 := Tryd.zeroValue232,
    t72 := Tryd.underlying234, a72 := Tryd.isAgg234, z72 := Tryd.sizeOf234, v72 := Tryd.zeroValue234,
    t75 := Tryd.underlying237, a75 := Tryd.isAgg237, z75 := Tryd.sizeOf237, v75 := Tryd.zeroValue237,
    t76 := Tryd.underlying238, a76 := Tryd.isAgg238, z76 := Tryd.sizeOf238, v76 := Tryd.zeroValue238,
    t127 := Tryd.underlying251, a127 := Tryd.isAgg251, z127 := Tryd.sizeOf251, v127 := Tryd.zeroValue251,
    t164 := Tryd.underlying263, a164 := Tryd.isAgg263, z164 := Tryd.sizeOf263, v164 := Tryd.zeroValue263 }
end Go.Proofs.YtanchgkiomfhhaaDoor.Fw

/- Strings joined: by the kit's contract. -/
namespace Go.Proofs.YtanchgkiomfhhaaDoor.Fw
set_option linter.unusedSimpArgs false
set_option linter.unusedVariables false
open Go Go.Proofs.YtanchgkiomfhhaaDoor.Ma Go.Shelf
set_option maxRecDepth 20000

theorem pfn_calls {P : Program} {f : FuncId} {args : List AV} {r : AV} (hf : ∃ fn, P.funcs[f]? = some fn ∧ (fn.name == "runtime.NumGoroutine") = false ∧ fn.body.isNone = false)
    (h : ∀ (c : Ctx) (vs : Array Value), Ok c → vs.size = args.length → (∀ i (h : i < args.length) (h' : i < vs.size), Enc c (args[i]) (vs[i])) → Calls P f vs c.w fun e w' => ∃ v, e = .returned v ∧ (∀ c', Enc c' r v) ∧ Go.RowKit.Below c.w.heap.size c.w w') : PFn P f args r := by
  intro H Q hq
  refine ⟨hf, fun c vs hH hok hs he => (h c vs hok hs he).mono ?_⟩
  rintro e w' ⟨v, rfl, hr, hb⟩
  let c2 : Ctx := { c with w := w' }
  have hsz : ∀ i x, c.H i = some x → c.μ i < c.w.heap.size := fun i x e => by
    have := hok.blk i x e
    cases x with
    | row ty es cells => obtain ⟨arr, h1, _⟩ := this; exact (Array.getElem?_eq_some_iff.1 h1).1
    | raw o => exact (Array.getElem?_eq_some_iff.1 this.1).1
    | glob g cells => rw [this.1]; exact this.2.1
    | loop st pend fn ps assign body n E => obtain ⟨tm, dd, h1, _⟩ := this; exact (Array.getElem?_eq_some_iff.1 h1).1
  have later : Later c c2 := by
    refine ⟨⟨hb.size, hb.os, hb.tape, hb.output, fun _ h => h, ?_, fun k hk hm => ⟨hb.block k hk, hm⟩⟩, fun _ h => ⟨h, fun k => k⟩⟩
    intro i x' _ hx'
    exact ⟨x', hx', Nat.le_refl _, fun _ => ⟨rfl, fun ty' es' cells' e => ⟨cells', e, fun arr ha => ⟨arr, (hb.block _ (hsz i x' hx')).trans ha, rfl⟩⟩⟩⟩
  have ok : Ok c2 := ⟨hok.used, hok.fin, hok.inj, fun b x hx => (hok.blk b x hx).later later rfl (hb.block _ (hsz b x hx))⟩
  exact ⟨c2, v, r, rfl, rfl, ok, later, hr c2, by show Q r c.H; rw [hH]; exact hq⟩
theorem joinX : Builder.Extra Tryd.prog lay156_ren where
  sizeBuilder := by kernel_rfl
  liesBuilder := by kernel_rfl
  t5 := Tryd.underlying5
  a5 := Tryd.isAgg5
  z5 := Tryd.sizeOf5
  v5 := Tryd.zeroValue5
  infoByte := by kernel_rfl
  cellsByte := by kernel_rfl
  sizeByte := by kernel_rfl
  neB5 := by decide
theorem join_fn (xs : List (List UInt8)) (sep : List UInt8) (t : Bool) (hN : xs.length ≤ 1000000) (hlen : (Lib.join xs sep).length ≤ 140737488355328) : PFn Tryd.prog 168 [.seq xs.length (xs.map Sx) t, Sx sep] (Sx (Lib.join xs sep)) := by
  by_cases h0 : xs = []
  · subst h0
    intro H Q hq
    refine enter168 (by simp) ?_
    have e : Lib.join ([] : List (List UInt8)) sep = [] := rfl
    rw [e] at hq
    have l0 : ([] : List (List UInt8)).length = 0 := rfl
    simp (disch := first | assumption | (apply Ap.symm; assumption) | omega | decide | (simp only [Xd] <;> omega)) only [ac168, l0, len_rw, rs168, ↓Xa, Xb, Xc, ↓reduceIte, Nat.reduceLT, Nat.reduceEqDiff, Nat.reduceBEq, Nat.reduceLeDiff, Nat.reduceAdd, Nat.reduceMul]
    exact SetR.now hq
  · refine pfn_calls ⟨_, Tryd.func168, by kernel_rfl, by kernel_rfl⟩ fun c vs hok hs he => ?_
    obtain ⟨v0, v1, rfl⟩ : ∃ v0 v1, vs = #[v0, v1] := Go.Joins.array2 hs
    have e0 : Enc c (.seq xs.length (xs.map Sx) t) v0 := he 0 (by simp) (by simp)
    have e1 : Enc c (Sx sep) v1 := he 1 (by simp) (by simp)
    cases e1
    cases e0 with
    | seq _ _ _ base cap cv hlen' hcap hmax ht hb hn hc =>
      obtain ⟨k, off, rfl, hmu, hk, hcell⟩ := hb (by simpa using List.length_pos_iff.2 h0)
      have hce : ∀ (j : Nat) x, (xs.map fun l => (⟨l.toArray⟩ : ByteArray))[j]? = some x → c.w.cell? ⟨k, off + j, none⟩ = some (.string x) := fun j x hx => by
        rw [List.getElem?_map] at hx
        obtain ⟨y, hy, rfl⟩ := Option.map_eq_some_iff.1 hx
        obtain ⟨hj, hy⟩ := List.getElem?_eq_some_iff.1 hy
        have h1 := hcell j (by simpa using hj)
        have h2 := hc j (by simpa using hj)
        rw [List.getElem_map, hy] at h2
        generalize cv j = u at h1 h2
        cases h2
        exact h1
      have hm : (xs.map fun l => (⟨l.toArray⟩ : ByteArray)).map (·.data.toList) = xs := by
        rw [List.map_map]
        exact (List.map_congr_left fun l _ => by simp).trans (List.map_id xs)
      have := Any.strings_Join (P := Tryd.prog) (ρ := lay156_ren) lay156 joinX k off cap (xs.map fun l => (⟨l.toArray⟩ : ByteArray)) ⟨sep.toArray⟩ c.w hce hk (by simpa using Nat.le_trans hN (by omega)) (by simpa using hcap) (by rw [hm]; simpa using hlen)
      rw [hm, List.length_map] at this
      refine this.mono fun e w' ⟨h1, h2⟩ => ⟨_, h1, fun c' => ?_, h2⟩
      simp only [Sx]
      exact .str _
end Go.Proofs.YtanchgkiomfhhaaDoor.Fw

/- Rows of whole numbers: made of small ones, told; what the laws' own helpers answer. -/
namespace Go.Proofs.YtanchgkiomfhhaaDoor.Fw
set_option linter.unusedSimpArgs false
set_option linter.unusedVariables false
open Go Go.Proofs.YtanchgkiomfhhaaDoor.Ma
set_option maxRecDepth 20000

theorem repF0 {a : AV} : repA [a] 1 = [a] := by simp [repA, List.range, List.range.loop]
theorem load_map {α : Type} {f : α → AV} {l : List α} {H : AHeap} {K : AV → Prop} {i : Nat} (h : i < l.length) : loadW H none (.cptr ((l.map f).drop i)) K = K (f (l[i])) := by
  have hi : i < (l.map f).length := by simpa using h
  simp only [loadW, cellsAt, List.drop_eq_getElem_cons hi]
  simp
theorem idx_map {α : Type} {f : α → AV} {l : List α} {t : Bool} {k : IntKind} {K : AV → Prop} {i : Nat} (h : i < l.length) : idxAW 1 (.seq l.length (l.map f) t) (.int k (i : Int)) K = K (.cptr ((l.map f).drop (i * 1))) := idx_rw (by simp) h
abbrev iA (n : Int) : AV := .int .i64 n
theorem rowof_run {l : List Int} {t : Bool} (hb : ∀ n, n ∈ l → -9223372036854775808 ≤ n ∧ n < 9223372036854775808) (hbig : l.length ≤ 1000000) {H : AHeap} {Q : AV → AHeap → Prop} (hq : ∀ y M, growC H 28 2 l.length (IC l) y M → Q y M) : Run Tryd.prog 54 [.seq l.length (l.map iA) t] H Q := by
  refine enter54 (by simp) ?_
  simp (disch := first | assumption | (apply Ap.symm; assumption) | omega | decide | (simp only [Xd] <;> omega)) only [ac54, len_rw, ↓Xa, Xb, Xc, ↓reduceIte, Nat.reduceLT, Nat.reduceEqDiff, Nat.reduceBEq, Nat.reduceLeDiff, Nat.reduceAdd, Nat.reduceMul]
  refine W_loop (fun s : Nat × AV × AHeap => ⟨[], [(3, s.2.1), (6, .seq l.length (l.map iA) t), (7, .int .i64 (l.length : Int)), (8, .int .i64 s.1)], s.2.2⟩) (fun s => s.1 ≤ l.length ∧ growC H 28 2 s.1 (IC (l.take s.1)) s.2.1 s.2.2) (fun s => l.length - s.1) (0, .seq 0 [] true, H) (Settle.now rfl) ⟨Nat.zero_le _, growC_nil⟩ ?_
  rintro ⟨i, y, M⟩ ⟨h3, hg⟩
  dsimp only at h3 hg ⊢
  by_cases hi : i < l.length
  · simp (disch := first | assumption | (apply Ap.symm; assumption) | omega | decide | (simp only [Xd] <;> omega)) only [hi, idx_map, load_map, ↓Xa, Xb, Xc, ↓reduceIte, Nat.reduceLT, Nat.reduceEqDiff, Nat.reduceBEq, Nat.reduceLeDiff, Nat.reduceAdd, Nat.reduceMul]
    refine (of_fn (hb _ (List.getElem_mem hi))).call ?_
    simp (disch := first | assumption | (apply Ap.symm; assumption) | omega | decide | (simp only [Xd] <;> omega)) only [repI1, cells_IntA, ↓Xa, Xb, Xc, ↓reduceIte, Nat.reduceLT, Nat.reduceEqDiff, Nat.reduceBEq, Nat.reduceLeDiff, Nat.reduceAdd, Nat.reduceMul]
    refine app_C (m := 1) hg rfl cellI (by omega) (by omega) (by omega) fun y' M2 hg3 => ?_
    rw [← IC_take] at hg3
    simp (disch := first | assumption | (apply Ap.symm; assumption) | omega | decide | (simp only [Xd] <;> omega)) only [↓Xa, Xb, Xc, ↓reduceIte, Nat.reduceLT, Nat.reduceEqDiff, Nat.reduceBEq, Nat.reduceLeDiff, Nat.reduceAdd, Nat.reduceMul]
    exact Settle.now ⟨(i + 1, y', M2), by dsimp only; omega, ⟨by dsimp only; omega, hg3⟩, rfl⟩
  · obtain rfl : i = l.length := by omega
    rw [List.take_of_length_le (by omega)] at hg
    simp (disch := first | assumption | (apply Ap.symm; assumption) | omega | decide | (simp only [Xd] <;> omega)) only [hi, ↓Xa, Xb, Xc, ↓reduceIte, Nat.reduceLT, Nat.reduceEqDiff, Nat.reduceBEq, Nat.reduceLeDiff, Nat.reduceAdd, Nat.reduceMul]
    refine Settle.now ?_
    simp (disch := first | assumption | (apply Ap.symm; assumption) | omega | decide | (simp only [Xd] <;> omega)) only [rs54, ↓Xa, Xb, Xc, ↓reduceIte, Nat.reduceLT, Nat.reduceEqDiff, Nat.reduceBEq, Nat.reduceLeDiff, Nat.reduceAdd, Nat.reduceMul]
    exact SetR.now (hq y M hg)
theorem rowof_fn {l : List Int} {t : Bool} (hb : ∀ n, n ∈ l → -9223372036854775808 ≤ n ∧ n < 9223372036854775808) (hbig : l.length ≤ 1000000) : PFn Tryd.prog 54 [.seq l.length (l.map iA) t] (RowA l false) :=
  PFn.frozen fun _ _ hq => rowof_run hb hbig hq

def joinT : List (List UInt8) → List UInt8
  | [] => []
  | [x] => x
  | x :: y :: r => x ++ 32 :: joinT (y :: r)
theorem joinT_eq : ∀ xs : List (List UInt8), Lib.join xs [32] = joinT xs
  | [] => rfl
  | [x] => by simp [Lib.join, joinT, List.intercalate]
  | x :: y :: r => by
    have := joinT_eq (y :: r)
    simp only [Lib.join, joinT, List.intercalate] at this ⊢
    rw [← this]
    simp
theorem joinT_len {k : Nat} : ∀ xs : List (List UInt8), (∀ x, x ∈ xs → x.length ≤ k) → (joinT xs).length ≤ xs.length * (k + 1)
  | [], _ => by simp [joinT]
  | [x], h => by have := h x (by simp); simp [joinT]; omega
  | x :: y :: r, h => by
    have h1 := joinT_len (y :: r) fun z hz => h z (by simp at hz ⊢; exact .inr hz)
    have h2 := h x (by simp)
    simp only [joinT, List.length_append, List.length_cons] at h1 ⊢
    rw [Nat.add_mul]; omega
def rowT (zs : List Int) : List UInt8 := 91 :: joinT (zs.map iText) ++ [93]
theorem joinI_len {k : Nat} {zs : List Int} (hz : RB4 k zs) (hk : k ≤ 1000000) (hbig : zs.length ≤ 1000000) : (joinT (zs.map iText)).length ≤ 1000000 * 10000003 := by
  refine Nat.le_trans (joinT_len (k := 10 * k + 2) _ fun x hx => ?_) ?_
  · obtain ⟨z, hm, rfl⟩ := List.mem_map.1 hx
    exact iText_len (hz.1 z hm)
  · rw [List.length_map]; exact Nat.mul_le_mul hbig (by omega)
theorem cell_Sx1 {l : List UInt8} : [Sx l].all AV.cell = true := rfl
theorem rowt_fn {zs : List Int} {t : Bool} {k : Nat} (hz : RB4 k zs) (hk : k ≤ 1000000) (hbig : zs.length ≤ 1000000) : PFn Tryd.prog 86 [RowA zs t] (Sx (rowT zs)) := by
  intro H Q hq
  have nz : zs.length < 9223372036854775808 := by omega
  have hjl := joinI_len hz hk hbig
  refine enter86 (by simp) ?_
  simp (disch := first | assumption | (apply Ap.symm; assumption) | omega | decide | (simp only [Xd] <;> omega)) only [ac86, len_rw, ↓Xa, Xb, Xc, ↓reduceIte, Nat.reduceLT, Nat.reduceEqDiff, Nat.reduceBEq, Nat.reduceLeDiff, Nat.reduceAdd, Nat.reduceMul]
  refine W_loop (fun s : Nat × AV × AHeap => ⟨[], [(3, s.2.1), (6, RowA zs t), (7, .int .i64 (zs.length : Int)), (8, .int .i64 s.1)], s.2.2⟩) (fun s => s.1 ≤ zs.length ∧ growC H 9 1 s.1 ((zs.take s.1).map fun z => Sx (iText z)) s.2.1 s.2.2) (fun s => zs.length - s.1) (0, .seq 0 [] true, H) (Settle.now rfl) ⟨Nat.zero_le _, growC_nil⟩ ?_
  rintro ⟨i, y, M⟩ ⟨h3, hg⟩
  dsimp only at h3 hg ⊢
  by_cases hi : i < zs.length
  · simp (disch := first | assumption | (apply Ap.symm; assumption) | omega | decide | (simp only [Xd] <;> omega)) only [hi, idx_IC, load_IC, ↓Xa, Xb, Xc, ↓reduceIte, Nat.reduceLT, Nat.reduceEqDiff, Nat.reduceBEq, Nat.reduceLeDiff, Nat.reduceAdd, Nat.reduceMul]
    refine alloc_i fun q hq1 => ?_
    simp (disch := first | assumption | (apply Ap.symm; assumption) | omega | decide | (simp only [Xd] <;> omega)) only [cells_IntA, fold_IntA, ↓Xa, Xb, Xc, ↓reduceIte, Nat.reduceLT, Nat.reduceEqDiff, Nat.reduceBEq, Nat.reduceLeDiff, Nat.reduceAdd, Nat.reduceMul]
    have hg1 := growC_upd (r := .row 28 0 [IntB (zs[i]), IntD (zs[i])]) hg hq1
    refine (itext_fn (hz.at hi) hk).call ?_
    simp (disch := first | assumption | (apply Ap.symm; assumption) | omega | decide | (simp only [Xd] <;> omega)) only [repF0, cells_Sx, str_Sx, ↓Xa, Xb, Xc, ↓reduceIte, Nat.reduceLT, Nat.reduceEqDiff, Nat.reduceBEq, Nat.reduceLeDiff, Nat.reduceAdd, Nat.reduceMul]
    refine app_C (m := 1) hg1 rfl cell_Sx1 (by omega) (by omega) (by omega) fun y' M2 hg3 => ?_
    have e : (zs.take (i + 1)).map (fun z => Sx (iText z)) = (zs.take i).map (fun z => Sx (iText z)) ++ [Sx (iText (zs[i]))] := by
      rw [List.take_add_one, List.getElem?_eq_getElem hi, Option.toList_some, List.map_append]; rfl
    rw [← e] at hg3
    obtain ⟨M3, hg4, hl4⟩ := growC_le2 hg3 ((Le.refl H).upd (growC_none hg hq1))
    simp (disch := first | assumption | (apply Ap.symm; assumption) | omega | decide | (simp only [Xd] <;> omega)) only [↓Xa, Xb, Xc, ↓reduceIte, Nat.reduceLT, Nat.reduceEqDiff, Nat.reduceBEq, Nat.reduceLeDiff, Nat.reduceAdd, Nat.reduceMul]
    exact Settle.dropTo hl4 (Settle.now ⟨(i + 1, y', M3), by dsimp only; omega, ⟨by dsimp only; omega, hg4⟩, rfl⟩)
  · obtain rfl : i = zs.length := by omega
    rw [List.take_of_length_le (by omega)] at hg
    simp (disch := first | assumption | (apply Ap.symm; assumption) | omega | decide | (simp only [Xd] <;> omega)) only [hi, ↓Xa, Xb, Xc, ↓reduceIte, Nat.reduceLT, Nat.reduceEqDiff, Nat.reduceBEq, Nat.reduceLeDiff, Nat.reduceAdd, Nat.reduceMul]
    refine Settle.grownC 3 rfl hg (Settle.now ?_)
    have hj := join_fn (zs.map iText) [32] false (by simpa using hbig) (by rw [joinT_eq]; omega)
    rw [joinT_eq, List.length_map, List.map_map] at hj
    have s1 : AV.str ⟨#[91]⟩ = Sx [91] := rfl
    have s2 : AV.str ⟨#[93]⟩ = Sx [93] := rfl
    have s3 : AV.str ⟨#[32]⟩ = Sx [32] := rfl
    have e1 : ∀ K, binW .add (Sx [91]) (Sx (joinT (zs.map iText))) K = K (Sx (91 :: joinT (zs.map iText))) := fun K => add_Sx (by simp only [List.length_cons, List.length_append, List.length_nil]; omega)
    have e2 : ∀ K, binW .add (Sx (91 :: joinT (zs.map iText))) (Sx [93]) K = K (Sx (rowT zs)) := fun K => by rw [add_Sx (by simp only [List.length_cons, List.length_append, List.length_nil]; omega)]; rfl
    simp (disch := first | assumption | (apply Ap.symm; assumption) | omega | decide | (simp only [Xd] <;> omega)) only [s3, ↓Xa, Xb, Xc, ↓reduceIte, Nat.reduceLT, Nat.reduceEqDiff, Nat.reduceBEq, Nat.reduceLeDiff, Nat.reduceAdd, Nat.reduceMul]
    refine hj.call ?_
    simp (disch := first | assumption | (apply Ap.symm; assumption) | omega | decide | (simp only [Xd] <;> omega)) only [s1, s2, e1, e2, rs86, ↓Xa, Xb, Xc, ↓reduceIte, Nat.reduceLT, Nat.reduceEqDiff, Nat.reduceBEq, Nat.reduceLeDiff, Nat.reduceAdd, Nat.reduceMul]
    exact SetR.now hq
end Go.Proofs.YtanchgkiomfhhaaDoor.Fw

/- The row laws' own helpers: an answer that is fixed, rows that are too long, a row in both, one number in both, rows in both. -/
namespace Go.Proofs.YtanchgkiomfhhaaDoor.Fw
set_option linter.unusedSimpArgs false
set_option linter.unusedVariables false
open Go Go.Proofs.YtanchgkiomfhhaaDoor.Ma
set_option maxRecDepth 20000

theorem repL2 {a : AV} : repA [a] 2 = [a, a] := by simp [repA, List.range, List.range.loop]
theorem live4_t : rowT [4, -2] = [91, 52, 32, 45, 50, 93] := by simp [rowT, joinT, iText, decT, dec, digs, chr]
theorem live4_fn : PFn Tryd.prog 32 [] (.bool true) := by
  intro H Q hq
  obtain ⟨L1, e1, of1⟩ : ∃ L1, L1 = RowA [1, 2] false ∧ PFn Tryd.prog 54 [.seq 2 [.int .i64 ((1 : Nat) : Int), .int .i64 ((2 : Nat) : Int)] true] L1 := ⟨_, rfl, rowof_fn (l := [1, 2]) (by simp) (by simp)⟩
  obtain ⟨L2, e2, of2⟩ : ∃ L2, L2 = RowA [3, -4] false ∧ PFn Tryd.prog 54 [.seq 2 [.int .i64 ((3 : Nat) : Int), .int .i64 (-4)] true] L2 := ⟨_, rfl, rowof_fn (l := [3, -4]) (by simp) (by simp)⟩
  have b1 : RB4 2 [1, 2] := ⟨fun z h => Bd.i64 (by simp at h; omega), by simp⟩
  have b2 : RB4 2 [3, -4] := ⟨fun z h => Bd.i64 (by simp at h; omega), by simp⟩
  have b3 : RB4 2 [4, -2] := ⟨fun z h => Bd.i64 (by simp at h; omega), by simp⟩
  obtain ⟨L3, e3, add⟩ : ∃ L3, L3 = RowA [4, -2] false ∧ PFn Tryd.prog 37 [L1, L2] (.tup [L3, .int .i64 ((0 : Nat) : Int)]) := ⟨_, rfl, by
    rw [e1, e2]
    exact PFn.frozen1 fun H Q hq => rowadd_run b1 b2 (by omega) rfl (by simp) hq⟩
  have tx := rowt_fn (t := false) b3 (by omega) (by simp)
  rw [← e3, live4_t] at tx
  have s1 : AV.str ⟨#[91, 52, 32, 45, 50, 93]⟩ = Sx [91, 52, 32, 45, 50, 93] := rfl
  refine enter32 (by simp) ?_
  simp (disch := first | assumption | (apply Ap.symm; assumption) | omega | decide | (simp only [Xd] <;> omega)) only [ac32, repL2, ↓Xa, Xb, Xc, ↓reduceIte, Nat.reduceLT, Nat.reduceEqDiff, Nat.reduceBEq, Nat.reduceLeDiff, Nat.reduceAdd, Nat.reduceMul]
  refine of1.call ?_
  simp (disch := first | assumption | (apply Ap.symm; assumption) | omega | decide | (simp only [Xd] <;> omega)) only [repL2, ↓Xa, Xb, Xc, ↓reduceIte, Nat.reduceLT, Nat.reduceEqDiff, Nat.reduceBEq, Nat.reduceLeDiff, Nat.reduceAdd, Nat.reduceMul]
  refine of2.call ?_
  simp (disch := first | assumption | (apply Ap.symm; assumption) | omega | decide | (simp only [Xd] <;> omega)) only [↓Xa, Xb, Xc, ↓reduceIte, Nat.reduceLT, Nat.reduceEqDiff, Nat.reduceBEq, Nat.reduceLeDiff, Nat.reduceAdd, Nat.reduceMul]
  refine add.call ?_
  simp (disch := first | assumption | (apply Ap.symm; assumption) | omega | decide | (simp only [Xd] <;> omega)) only [eql_self, ↓Xa, Xb, Xc, ↓reduceIte, Nat.reduceLT, Nat.reduceEqDiff, Nat.reduceBEq, Nat.reduceLeDiff, Nat.reduceAdd, Nat.reduceMul]
  refine tx.call ?_
  simp (disch := first | assumption | (apply Ap.symm; assumption) | omega | decide | (simp only [Xd] <;> omega)) only [s1, eql_Sx, rs32, ↓Xa, Xb, Xc, ↓reduceIte, Nat.reduceLT, Nat.reduceEqDiff, Nat.reduceBEq, Nat.reduceLeDiff, Nat.reduceAdd, Nat.reduceMul]
  exact SetR.now hq

/-! ### too long -/
def sumN : List Nat → Nat
  | [] => 0
  | a :: l => a + sumN l
theorem sumN_app : ∀ (l m : List Nat), sumN (l ++ m) = sumN l + sumN m
  | [], m => by simp [sumN]
  | a :: l, m => by simp only [List.cons_append, sumN, sumN_app l m]; omega
theorem sumN_mem : ∀ {l : List Nat} {a : Nat}, a ∈ l → a ≤ sumN l
  | x :: l, a, h => by
    rcases List.mem_cons.1 h with rfl | h
    · simp [sumN]
    · have := sumN_mem h; simp only [sumN]; omega
theorem sumN_take (l : List Nat) (i : Nat) : sumN (l.take i) ≤ sumN l := by
  conv => rhs; rw [← List.take_append_drop i l, sumN_app]
  omega
theorem sumN_succ {l : List Nat} {i : Nat} (h : i < l.length) : sumN (l.take (i + 1)) = sumN (l.take i) + l[i] := by
  rw [List.take_add_one, List.getElem?_eq_getElem h, Option.toList_some, sumN_app]; simp [sumN]
theorem NumsC_len (l : List NumV) : (NumsC l).length = l.length * 2 := by unfold NumsC; rw [pair_len (c0 := fun q : NumV => AV.bool q.1) (c1 := fun q : NumV => LS q.2.1 q.2.2)]; omega
theorem NumsC_drop : ∀ (l : List NumV) (i : Nat) (h : i < l.length), (NumsC l).drop (i * 2) = .bool (l[i]).1 :: LS (l[i]).2.1 (l[i]).2.2 :: (NumsC l).drop (i * 2 + 2)
  | a :: l, 0, _ => rfl
  | a :: l, i + 1, h => by
    have := NumsC_drop l i (by simpa using h)
    rw [show (i + 1) * 2 = i * 2 + 2 by omega]
    show ((.bool a.1 :: LS a.2.1 a.2.2 :: NumsC l).drop (i * 2 + 2)) = _
    simp only [List.drop_succ_cons, List.getElem_cons_succ]
    rw [this]
    show _ = _ :: _ :: ((.bool a.1 :: LS a.2.1 a.2.2 :: NumsC l).drop (i * 2 + 2 + 2))
    simp only [List.drop_succ_cons]
section
variable {K : AV → Prop} {H : AHeap} {k : IntKind} {t : Bool} {l : List NumV} {i : Nat}
theorem idx_NC (h : i < l.length) : idxAW 2 (.seq l.length (NumsC l) t) (.int k (i : Int)) K = K (.cptr ((NumsC l).drop (i * 2))) := idx_rw (NumsC_len l) h
theorem load_NC0 (h : i < l.length) : loadW H none (.cptr ((NumsC l).drop (i * 2))) K = K (.bool (l[i]).1) := by
  simp only [loadW, cellsAt, NumsC_drop l i h]; simp
theorem load_NC1 (h : i < l.length) : loadW H none (.cptr (((NumsC l).drop (i * 2)).drop 1)) K = K (LS (l[i]).2.1 (l[i]).2.2) := by
  simp only [loadW, cellsAt, NumsC_drop l i h]; simp
end
def numT (l : List NumV) : Nat := l.length + sumN (l.map fun q => q.2.1.length)
abbrev rowN (x : List NumV × Bool) : AV := .seq x.1.length (NumsC x.1) x.2
theorem long4_fn {ll : List (List NumV × Bool)} {t : Bool} (hl : ll.length ≤ 1000) (hg : ∀ x, x ∈ ll → x.1.length ≤ 140737488355328 ∧ ∀ q, q ∈ x.1 → q.2.1.length ≤ 140737488355328) :
    PFn Tryd.prog 33 [.seq ll.length (ll.map rowN) t] (.bool (decide (300 < sumN (ll.map fun x => numT x.1)))) := by
  intro H Q hq
  have big : ∀ {n : Nat}, 300 < n → n ≤ sumN (ll.map fun x => numT x.1) → Q (.bool true) H := fun h h2 => by
    rw [decide_eq_true (by omega)] at hq; exact hq
  refine enter33 (by simp) ?_
  simp (disch := first | assumption | (apply Ap.symm; assumption) | omega | decide | (simp only [Xd] <;> omega)) only [ac33, ↓Xa, Xb, Xc, ↓reduceIte, Nat.reduceLT, Nat.reduceEqDiff, Nat.reduceBEq, Nat.reduceLeDiff, Nat.reduceAdd, Nat.reduceMul]
  refine W_loop (fun s : Nat => ⟨[], [(0, .seq ll.length (ll.map rowN) t), (3, .int .i64 ((sumN ((ll.take s).map fun x => numT x.1) : Nat) : Int)), (4, .int .i64 s)], H⟩) (fun s => s ≤ ll.length ∧ sumN ((ll.take s).map fun x => numT x.1) ≤ 300) (fun s => ll.length - s) 0 (Settle.now rfl) ⟨Nat.zero_le _, by simp [sumN]⟩ ?_
  rintro i ⟨h3, hn⟩
  by_cases hi : i < ll.length
  · have hsucc : sumN ((ll.take (i + 1)).map fun x => numT x.1) = sumN ((ll.take i).map fun x => numT x.1) + numT (ll[i]).1 := by
      rw [List.map_take, sumN_succ (by simpa using hi), ← List.map_take, List.getElem_map]
    have htot : sumN ((ll.take (i + 1)).map fun x => numT x.1) ≤ sumN (ll.map fun x => numT x.1) := by rw [List.map_take]; exact sumN_take _ _
    obtain ⟨g1, g2⟩ := hg _ (List.getElem_mem hi)
    generalize hL : ll[i] = L at *
    obtain ⟨l, tl⟩ := L
    dsimp only at g1 g2 hsucc
    have hnt : numT l = l.length + sumN (l.map fun q => q.2.1.length) := rfl
    generalize hn0 : sumN ((ll.take i).map fun x => numT x.1) = n at *
    have hld : ∀ {M : AHeap} {K : AV → Prop}, loadW M none (.cptr ((ll.map rowN).drop i)) K = K (rowN (l, tl)) := fun {M K} => by rw [load_map hi, hL]
    by_cases hx : 300 < n + l.length
    · simp (disch := first | assumption | (apply Ap.symm; assumption) | omega | decide | (simp only [Xd] <;> omega)) only [hi, len_rw, idx_map, hld, hx, rs33, ↓Xa, Xb, Xc, ↓reduceIte, Nat.reduceLT, Nat.reduceEqDiff, Nat.reduceBEq, Nat.reduceLeDiff, Nat.reduceAdd, Nat.reduceMul]
      exact SetR.now (big hx (by omega))
    · simp (disch := first | assumption | (apply Ap.symm; assumption) | omega | decide | (simp only [Xd] <;> omega)) only [hi, len_rw, idx_map, hld, hx, ↓Xa, Xb, Xc, ↓reduceIte, Nat.reduceLT, Nat.reduceEqDiff, Nat.reduceBEq, Nat.reduceLeDiff, Nat.reduceAdd, Nat.reduceMul]
      refine W_loop (fun s : Nat => ⟨[], [(0, .seq ll.length (ll.map rowN) t), (3, .int .i64 ((n + l.length + sumN ((l.take s).map fun q => q.2.1.length) : Nat) : Int)), (4, .int .i64 i), (5, .int .i64 s)], H⟩) (fun s => s ≤ l.length ∧ n + l.length + sumN ((l.take s).map fun q => q.2.1.length) ≤ 300) (fun s => l.length - s) 0 (Settle.now rfl) ⟨Nat.zero_le _, by simp [sumN]; omega⟩ ?_
      rintro k ⟨h4, hm⟩
      by_cases hk : k < l.length
      · have ksucc : sumN ((l.take (k + 1)).map fun q => q.2.1.length) = sumN ((l.take k).map fun q => q.2.1.length) + (l[k]).2.1.length := by
          rw [List.map_take, sumN_succ (by simpa using hk), ← List.map_take, List.getElem_map]
        have ktot : sumN ((l.take (k + 1)).map fun q => q.2.1.length) ≤ sumN (l.map fun q => q.2.1.length) := by rw [List.map_take]; exact sumN_take _ _
        have gk := g2 _ (List.getElem_mem hk)
        generalize hs0 : sumN ((l.take k).map fun q => q.2.1.length) = s at *
        by_cases hy : 300 < n + l.length + s + (l[k]).2.1.length
        · simp (disch := first | assumption | (apply Ap.symm; assumption) | omega | decide | (simp only [Xd] <;> omega)) only [hi, hk, len_rw, idx_map, hld, idx_NC, load_NC1, hy, rs33, ↓Xa, Xb, Xc, ↓reduceIte, Nat.reduceLT, Nat.reduceEqDiff, Nat.reduceBEq, Nat.reduceLeDiff, Nat.reduceAdd, Nat.reduceMul]
          exact SetR.now (big hy (by omega))
        · simp (disch := first | assumption | (apply Ap.symm; assumption) | omega | decide | (simp only [Xd] <;> omega)) only [hi, hk, len_rw, idx_map, hld, idx_NC, load_NC1, hy, ↓Xa, Xb, Xc, ↓reduceIte, Nat.reduceLT, Nat.reduceEqDiff, Nat.reduceBEq, Nat.reduceLeDiff, Nat.reduceAdd, Nat.reduceMul]
          refine Settle.now ⟨k + 1, by omega, ⟨by omega, by rw [ksucc]; omega⟩, ?_⟩
          rw [ksucc]; simp [Nat.add_assoc]
      · simp (disch := first | assumption | (apply Ap.symm; assumption) | omega | decide | (simp only [Xd] <;> omega)) only [hi, hk, len_rw, idx_map, hld, ↓Xa, Xb, Xc, ↓reduceIte, Nat.reduceLT, Nat.reduceEqDiff, Nat.reduceBEq, Nat.reduceLeDiff, Nat.reduceAdd, Nat.reduceMul]
        rw [List.take_of_length_le (by omega)] at hm
        refine Settle.now ?_
        simp (disch := first | assumption | (apply Ap.symm; assumption) | omega | decide | (simp only [Xd] <;> omega)) only [↓Xa, Xb, Xc, ↓reduceIte, Nat.reduceLT, Nat.reduceEqDiff, Nat.reduceBEq, Nat.reduceLeDiff, Nat.reduceAdd, Nat.reduceMul]
        refine Settle.now ⟨i + 1, by omega, ⟨by omega, by rw [hsucc]; omega⟩, ?_⟩
        rw [hsucc, List.take_of_length_le (by omega)]; simp [numT, Nat.add_assoc]
  · simp (disch := first | assumption | (apply Ap.symm; assumption) | omega | decide | (simp only [Xd] <;> omega)) only [hi, len_rw, ↓Xa, Xb, Xc, ↓reduceIte, Nat.reduceLT, Nat.reduceEqDiff, Nat.reduceBEq, Nat.reduceLeDiff, Nat.reduceAdd, Nat.reduceMul]
    rw [List.take_of_length_le (by omega)] at hn
    refine Settle.now ?_
    simp (disch := first | assumption | (apply Ap.symm; assumption) | omega | decide | (simp only [Xd] <;> omega)) only [rs33, ↓Xa, Xb, Xc, ↓reduceIte, Nat.reduceLT, Nat.reduceEqDiff, Nat.reduceBEq, Nat.reduceLeDiff, Nat.reduceAdd, Nat.reduceMul]
    rw [decide_eq_false (by omega)] at hq
    exact SetR.now hq
end Go.Proofs.YtanchgkiomfhhaaDoor.Fw

/- The row laws' own helpers: a row in both, one number in both, rows in both; the law that holds rows against each other. -/
namespace Go.Proofs.YtanchgkiomfhhaaDoor.Fw
set_option linter.unusedSimpArgs false
set_option linter.unusedVariables false
open Go Go.Proofs.YtanchgkiomfhhaaDoor.Ma
set_option maxRecDepth 20000

def numZ (q : NumV) : Int := sg q.1 (val 4294967296 q.2.1)
def rowZ (l : List NumV) : List Int := l.map numZ
theorem RC_take {zs : List Int} {i : Nat} (h : i < zs.length) : RC (zs.take (i + 1)) = RC (zs.take i) ++ [RefB (zs[i]), RefD (zs[i])] := by
  rw [List.take_add_one, List.getElem?_eq_getElem h, Option.toList_some, RC_snoc]
theorem cellR {z : Int} : [RefB z, RefD z].all AV.cell = true := rfl
theorem rowZ_RB4 {l : List NumV} (hl : l.length ≤ 300) (hg : ∀ q, q ∈ l → NumGood q) (hs : ∀ q, q ∈ l → q.2.1.length ≤ 300) : RB4 300 (rowZ l) := by
  refine ⟨fun z hz => ?_, by unfold rowZ; rw [List.length_map]; omega⟩
  obtain ⟨q, hq, rfl⟩ := List.mem_map.1 hz
  exact (Bd.of_val (hg q hq).1).mono (hs q hq)
theorem of4_fn {l : List NumV} {t : Bool} (hl : l.length ≤ 300) (hg : ∀ q, q ∈ l → NumGood q) (hs : ∀ q, q ∈ l → q.2.1.length ≤ 300) :
    PFn Tryd.prog 34 [.seq l.length (NumsC l) t] (.tup [RowA (rowZ l) false, RefR (rowZ l) false]) := by
  intro H Q hq
  have hln : (rowZ l).length = l.length := by simp [rowZ]
  refine enter34 (by simp) ?_
  simp (disch := first | assumption | (apply Ap.symm; assumption) | omega | decide | (simp only [Xd] <;> omega)) only [ac34, ↓Xa, Xb, Xc, ↓reduceIte, Nat.reduceLT, Nat.reduceEqDiff, Nat.reduceBEq, Nat.reduceLeDiff, Nat.reduceAdd, Nat.reduceMul]
  refine W_loop (fun s : Nat × AV × AV × AHeap => ⟨[], [(0, .seq l.length (NumsC l) t), (4, s.2.1), (5, s.2.2.1), (6, .int .i64 s.1)], s.2.2.2⟩)
    (fun s => s.1 ≤ l.length ∧ ∃ M, growC H 28 2 s.1 (IC ((rowZ l).take s.1)) s.2.1 M ∧ growC M 39 2 s.1 (RC ((rowZ l).take s.1)) s.2.2.1 s.2.2.2) (fun s => l.length - s.1) (0, .seq 0 [] true, .seq 0 [] true, H) (Settle.now rfl) ⟨Nat.zero_le _, H, growC_nil, growC_nil⟩ ?_
  rintro ⟨i, x, y, M⟩ ⟨h3, M1, hx, hy⟩
  dsimp only at h3 hx hy ⊢
  by_cases hi : i < l.length
  · have hi2 : i < (rowZ l).length := by omega
    have hgi := hg _ (List.getElem_mem hi)
    have hsi := hs _ (List.getElem_mem hi)
    have ez : (rowZ l)[i] = sg (l[i]).1 (val 4294967296 (l[i]).2.1) := by simp [rowZ, numZ]
    simp (disch := first | assumption | (apply Ap.symm; assumption) | omega | decide | (simp only [Xd] <;> omega)) only [hi, len_rw, idx_NC, load_NC0, load_NC1, ↓Xa, Xb, Xc, ↓reduceIte, Nat.reduceLT, Nat.reduceEqDiff, Nat.reduceBEq, Nat.reduceLeDiff, Nat.reduceAdd, Nat.reduceMul]
    refine PFn.dcall (make_fn (l[i]).1 (l[i]).2.2 hgi.1 (by omega)) ?_
    rw [← ez]
    simp (disch := first | assumption | (apply Ap.symm; assumption) | omega | decide | (simp only [Xd] <;> omega)) only [repI1, cells_IntA, ↓Xa, Xb, Xc, ↓reduceIte, Nat.reduceLT, Nat.reduceEqDiff, Nat.reduceBEq, Nat.reduceLeDiff, Nat.reduceAdd, Nat.reduceMul]
    refine app_under (m := 1) hx hy rfl cellI (by omega) (by omega) (by omega) fun x' M1' M2 hx' hy' => ?_
    rw [← IC_take hi2] at hx'
    simp (disch := first | assumption | (apply Ap.symm; assumption) | omega | decide | (simp only [Xd] <;> omega)) only [hi, len_rw, idx_NC, load_NC0, load_NC1, ↓Xa, Xb, Xc, ↓reduceIte, Nat.reduceLT, Nat.reduceEqDiff, Nat.reduceBEq, Nat.reduceLeDiff, Nat.reduceAdd, Nat.reduceMul]
    refine PFn.dcall (rmake_fn (l[i]).1 (l[i]).2.2 hgi.1 (by omega)) ?_
    rw [← ez]
    simp (disch := first | assumption | (apply Ap.symm; assumption) | omega | decide | (simp only [Xd] <;> omega)) only [repI1, cells_RefA, ↓Xa, Xb, Xc, ↓reduceIte, Nat.reduceLT, Nat.reduceEqDiff, Nat.reduceBEq, Nat.reduceLeDiff, Nat.reduceAdd, Nat.reduceMul]
    refine app_C (m := 1) hy' rfl cellR (by omega) (by omega) (by omega) fun y' M3 hy2 => ?_
    rw [← RC_take hi2] at hy2
    simp (disch := first | assumption | (apply Ap.symm; assumption) | omega | decide | (simp only [Xd] <;> omega)) only [↓Xa, Xb, Xc, ↓reduceIte, Nat.reduceLT, Nat.reduceEqDiff, Nat.reduceBEq, Nat.reduceLeDiff, Nat.reduceAdd, Nat.reduceMul]
    exact Settle.now ⟨(i + 1, x', y', M3), by dsimp only; omega, ⟨by dsimp only; omega, M1', hx', hy2⟩, rfl⟩
  · obtain rfl : i = l.length := by omega
    rw [List.take_of_length_le (by omega)] at hx hy
    simp (disch := first | assumption | (apply Ap.symm; assumption) | omega | decide | (simp only [Xd] <;> omega)) only [hi, len_rw, ↓Xa, Xb, Xc, ↓reduceIte, Nat.reduceLT, Nat.reduceEqDiff, Nat.reduceBEq, Nat.reduceLeDiff, Nat.reduceAdd, Nat.reduceMul]
    refine Settle.now ?_
    simp (disch := first | assumption | (apply Ap.symm; assumption) | omega | decide | (simp only [Xd] <;> omega)) only [rs34, ↓Xa, Xb, Xc, ↓reduceIte, Nat.reduceLT, Nat.reduceEqDiff, Nat.reduceBEq, Nat.reduceLeDiff, Nat.reduceAdd, Nat.reduceMul]
    rw [← hln] at hx hy
    exact growC_fin2 hx hy hq
theorem cells_RefT {z : Int} {t : Bool} : (RefA z t).cells = some [RefB z, LS (digs 65536 z.natAbs) t] := id rfl
theorem fold_RefT {z : Int} {t : Bool} : AV.agg [RefB z, LS (digs 65536 z.natAbs) t] = RefA z t := id rfl
theorem samet_fn {x y : Int} {k k' : Nat} (t : Bool) (hx : Bd k x) (hk : k ≤ 1000000) (hy : Bd k' y) (hk' : k' ≤ 1000000) : PFn Tryd.prog 147 [RefA x false, RefA y t] (.bool (decide (x = y))) := by
  intro H Q hq
  refine enter147 (by simp) ?_
  simp (disch := first | assumption | (apply Ap.symm; assumption) | omega | decide | (simp only [Xd] <;> omega)) only [ac147, cells_RefA, ↓Xa, Xb, Xc, ↓reduceIte, Nat.reduceLT, Nat.reduceEqDiff, Nat.reduceBEq, Nat.reduceLeDiff, Nat.reduceAdd, Nat.reduceMul]
  refine alloc_i fun p1 hp1 => ?_
  have n1 := hp1
  simp (disch := first | assumption | (apply Ap.symm; assumption) | omega | decide | (simp only [Xd] <;> omega)) only [cells_RefA, cells_RefT, fold_RefA, ↓Xa, Xb, Xc, ↓reduceIte, Nat.reduceLT, Nat.reduceEqDiff, Nat.reduceBEq, Nat.reduceLeDiff, Nat.reduceAdd, Nat.reduceMul]
  refine alloc_i fun p2 hp2 => ?_
  have n2 := hp2
  simp only [upd_none] at n2
  obtain ⟨_, n2⟩ := n2
  simp (disch := first | assumption | (apply Ap.symm; assumption) | omega | decide | (simp only [Xd] <;> omega)) only [cells_RefA, fold_RefA, fold_RefT, ↓Xa, Xb, Xc, ↓reduceIte, Nat.reduceLT, Nat.reduceEqDiff, Nat.reduceBEq, Nat.reduceLeDiff, Nat.reduceAdd, Nat.reduceMul]
  refine (rcmp_fn false t hx (by omega) hy (by omega)).call ?_
  simp (disch := first | assumption | (apply Ap.symm; assumption) | omega | decide | (simp only [Xd] <;> omega)) only [cmp_eql0, rs147, ↓Xa, Xb, Xc, ↓reduceIte, Nat.reduceLT, Nat.reduceEqDiff, Nat.reduceBEq, Nat.reduceLeDiff, Nat.reduceAdd, Nat.reduceMul]
  exact SetR.dropTo (((Le.refl H).updB n1).updB n2) (SetR.now hq)
theorem one4_fn {x : Int} {k : Nat} (t : Bool) (hx : Bd k x) (hk : k ≤ 1000000) : PFn Tryd.prog 50 [IntA x, RefA x t] (.bool true) := by
  intro H Q hq
  have hl := hx.len
  have ex : sg (decide (x < 0)) (val 4294967296 (digs 4294967296 x.natAbs)) = x := by rw [val_digs (by omega), sg_self]
  have mk := rmake_fn (decide (x < 0)) false (lim_digs (B := 4294967296) (by omega) x.natAbs) (by omega)
  rw [ex] at mk
  have e2 : decide (sgnI x = sgnI x) = true := decide_eq_true rfl
  refine enter50 (by simp) ?_
  simp (disch := first | assumption | (apply Ap.symm; assumption) | omega | decide | (simp only [Xd] <;> omega)) only [ac50, cells_IntA, ↓Xa, Xb, Xc, ↓reduceIte, Nat.reduceLT, Nat.reduceEqDiff, Nat.reduceBEq, Nat.reduceLeDiff, Nat.reduceAdd, Nat.reduceMul]
  refine alloc_i fun p1 hp1 => ?_
  have n1 := hp1
  simp (disch := first | assumption | (apply Ap.symm; assumption) | omega | decide | (simp only [Xd] <;> omega)) only [cells_RefT, ↓Xa, Xb, Xc, ↓reduceIte, Nat.reduceLT, Nat.reduceEqDiff, Nat.reduceBEq, Nat.reduceLeDiff, Nat.reduceAdd, Nat.reduceMul]
  refine alloc_i fun p2 hp2 => ?_
  have n2 := hp2
  simp only [upd_none] at n2
  obtain ⟨_, n2⟩ := n2
  simp (disch := first | assumption | (apply Ap.symm; assumption) | omega | decide | (simp only [Xd] <;> omega)) only [fold_IntA, ↓Xa, Xb, Xc, ↓reduceIte, Nat.reduceLT, Nat.reduceEqDiff, Nat.reduceBEq, Nat.reduceLeDiff, Nat.reduceAdd, Nat.reduceMul]
  refine (limbs_fn hx (by omega)).call ?_
  simp (disch := first | assumption | (apply Ap.symm; assumption) | omega | decide | (simp only [Xd] <;> omega)) only [fold_IntA, fold_RefT, ↓Xa, Xb, Xc, ↓reduceIte, Nat.reduceLT, Nat.reduceEqDiff, Nat.reduceBEq, Nat.reduceLeDiff, Nat.reduceAdd, Nat.reduceMul]
  refine PFn.dcall mk ?_
  simp (disch := first | assumption | (apply Ap.symm; assumption) | omega | decide | (simp only [Xd] <;> omega)) only [fold_IntA, fold_RefT, ↓Xa, Xb, Xc, ↓reduceIte, Nat.reduceLT, Nat.reduceEqDiff, Nat.reduceBEq, Nat.reduceLeDiff, Nat.reduceAdd, Nat.reduceMul]
  refine PFn.dcall (samet_fn t hx hk hx hk) ?_
  simp (disch := first | assumption | (apply Ap.symm; assumption) | omega | decide | (simp only [Xd] <;> omega)) only [decide_true, fold_IntA, fold_RefT, ↓Xa, Xb, Xc, ↓reduceIte, Nat.reduceLT, Nat.reduceEqDiff, Nat.reduceBEq, Nat.reduceLeDiff, Nat.reduceAdd, Nat.reduceMul]
  refine PFn.dcall (sign_fn hx (by omega)) ?_
  simp (disch := first | assumption | (apply Ap.symm; assumption) | omega | decide | (simp only [Xd] <;> omega)) only [fold_IntA, fold_RefT, ↓Xa, Xb, Xc, ↓reduceIte, Nat.reduceLT, Nat.reduceEqDiff, Nat.reduceBEq, Nat.reduceLeDiff, Nat.reduceAdd, Nat.reduceMul]
  refine (rsign_fn t hx (by omega)).call ?_
  simp (disch := first | assumption | (apply Ap.symm; assumption) | omega | decide | (simp only [Xd] <;> omega)) only [eql_int, e2, rs50, ↓Xa, Xb, Xc, ↓reduceIte, Nat.reduceLT, Nat.reduceEqDiff, Nat.reduceBEq, Nat.reduceLeDiff, Nat.reduceAdd, Nat.reduceMul]
  exact SetR.dropTo (((Le.refl H).updB n1).updB n2) (SetR.now hq)
theorem is4_fn {zs : List Int} {k : Nat} {t t' : Bool} (hz : RB4 k zs) (hk : k ≤ 1000000) : PFn Tryd.prog 43 [RowA zs t, RefR zs t'] (.bool true) := by
  intro H Q hq
  have nz : zs.length < 9223372036854775808 := by have := hz.2; omega
  have hne : decide (((zs.length : Nat) : Int) = ((zs.length : Nat) : Int)) = true := decide_eq_true rfl
  refine enter43 (by simp) ?_
  simp (disch := first | assumption | (apply Ap.symm; assumption) | omega | decide | (simp only [Xd] <;> omega)) only [ac43, len_rw, neq_int, hne, ↓Xa, Xb, Xc, ↓reduceIte, Nat.reduceLT, Nat.reduceEqDiff, Nat.reduceBEq, Nat.reduceLeDiff, Nat.reduceAdd, Nat.reduceMul]
  refine W_loop (fun s : Nat => ⟨[], [(0, RowA zs t), (1, RefR zs t'), (5, .int .i64 s)], H⟩) (fun s => s ≤ zs.length) (fun s => zs.length - s) 0 (Settle.now rfl) (Nat.zero_le _) ?_
  rintro i h3
  by_cases hi : i < zs.length
  · simp (disch := first | assumption | (apply Ap.symm; assumption) | omega | decide | (simp only [Xd] <;> omega)) only [hi, len_rw, idx_IC, load_IC, idx_RC, load_RC, ↓Xa, Xb, Xc, ↓reduceIte, Nat.reduceLT, Nat.reduceEqDiff, Nat.reduceBEq, Nat.reduceLeDiff, Nat.reduceAdd, Nat.reduceMul]
    refine (one4_fn false (hz.at hi) hk).call ?_
    simp (disch := first | assumption | (apply Ap.symm; assumption) | omega | decide | (simp only [Xd] <;> omega)) only [↓Xa, Xb, Xc, ↓reduceIte, Nat.reduceLT, Nat.reduceEqDiff, Nat.reduceBEq, Nat.reduceLeDiff, Nat.reduceAdd, Nat.reduceMul]
    exact Settle.now ⟨i + 1, by omega, by omega, rfl⟩
  · simp (disch := first | assumption | (apply Ap.symm; assumption) | omega | decide | (simp only [Xd] <;> omega)) only [hi, len_rw, ↓Xa, Xb, Xc, ↓reduceIte, Nat.reduceLT, Nat.reduceEqDiff, Nat.reduceBEq, Nat.reduceLeDiff, Nat.reduceAdd, Nat.reduceMul]
    refine Settle.now ?_
    simp (disch := first | assumption | (apply Ap.symm; assumption) | omega | decide | (simp only [Xd] <;> omega)) only [rs43, ↓Xa, Xb, Xc, ↓reduceIte, Nat.reduceLT, Nat.reduceEqDiff, Nat.reduceBEq, Nat.reduceLeDiff, Nat.reduceAdd, Nat.reduceMul]
    exact SetR.now hq
end Go.Proofs.YtanchgkiomfhhaaDoor.Fw

/- The law that two rows held against each other obey: true. -/
namespace Go.Proofs.YtanchgkiomfhhaaDoor.Fw
set_option linter.unusedSimpArgs false
set_option linter.unusedVariables false
open Go Go.Proofs.YtanchgkiomfhhaaDoor.Ma
set_option maxRecDepth 20000

theorem long_ok {l : List NumV} (h : numT l ≤ 300) : l.length ≤ 300 ∧ ∀ q, q ∈ l → q.2.1.length ≤ 300 := by
  unfold numT at h
  refine ⟨by omega, fun q hq => ?_⟩
  have := sumN_mem (List.mem_map.2 ⟨q, hq, rfl⟩ : q.2.1.length ∈ l.map fun q => q.2.1.length)
  omega
end Go.Proofs.YtanchgkiomfhhaaDoor.Fw

/- Rows of whole numbers: divided by a number, content, primitive row. -/
namespace Go.Proofs.YtanchgkiomfhhaaDoor.Fw
set_option linter.unusedSimpArgs false
set_option linter.unusedVariables false
open Go Go.Proofs.YtanchgkiomfhhaaDoor.Ma
set_option maxRecDepth 20000

theorem PFn.loose1 {P : Program} {f : FuncId} {x : AV} {rest : List AV} {r : AV} (h : PFn P f (loose x :: rest) r) : PFn P f (x :: rest) r := fun H Q hq =>
  ⟨(h H Q hq).1, fun c vs hH hok hs he => (h H Q hq).2 c vs hH hok (by simpa using hs) fun i hi hi' => by
    match i, hi with
    | 0, _ => exact enc_loose _ _ (he 0 (by simp) hi')
    | i + 1, hi => exact he (i + 1) (by simpa using hi) hi'⟩
theorem loose_RefA {z : Int} {t : Bool} : loose (RefA z t) = RefA z false := id rfl
theorem rgcdb_fn {x y : Int} {k : Nat} (b : Bool) (hx : Bd k x) (hk : k ≤ 1000000) (hy : Bd k y) : PFn Tryd.prog 180 [RefA x b, RefA y false] (RefA ((Int.gcd x y : Nat) : Int) false) :=
  PFn.loose1 (by rw [loose_RefA]; exact rgcd_fn hx (by omega) hy)

theorem rowover0_fn {zs : List Int} {t : Bool} : PFn Tryd.prog 114 [RowA zs t, IntA 0] (.tup [.seq 0 [] true, .int .i64 ((2 : Nat) : Int)]) := by
  intro H Q hq
  refine enter114 (by simp) ?_
  have hs : decide (sgnI 0 = ((0 : Nat) : Int)) = true := by decide
  simp (disch := first | assumption | (apply Ap.symm; assumption) | omega | decide | (simp only [Xd] <;> omega)) only [ac114, cells_IntA, ↓Xa, Xb, Xc, ↓reduceIte, Nat.reduceLT, Nat.reduceEqDiff, Nat.reduceBEq, Nat.reduceLeDiff, Nat.reduceAdd, Nat.reduceMul]
  refine alloc_i fun p1 hp1 => ?_
  have n1 := hp1
  simp (disch := first | assumption | (apply Ap.symm; assumption) | omega | decide | (simp only [Xd] <;> omega)) only [fold_IntA, ↓Xa, Xb, Xc, ↓reduceIte, Nat.reduceLT, Nat.reduceEqDiff, Nat.reduceBEq, Nat.reduceLeDiff, Nat.reduceAdd, Nat.reduceMul]
  refine (sign_fn (Bd.zero 0) (by omega)).call ?_
  simp (disch := first | assumption | (apply Ap.symm; assumption) | omega | decide | (simp only [Xd] <;> omega)) only [eql_int, hs, rs114, ↓Xa, Xb, Xc, ↓reduceIte, Nat.reduceLT, Nat.reduceEqDiff, Nat.reduceBEq, Nat.reduceLeDiff, Nat.reduceAdd, Nat.reduceMul]
  exact SetR.dropTo ((Le.refl H).updB n1) (SetR.now hq)
theorem rowover_run {H : AHeap} {Q : AV → AHeap → Prop} {zs : List Int} {t : Bool} {c : Int} {k : Nat} (hz : RB4 k zs) (hc : Bd k c) (hk : k ≤ 1000000) (hc0 : c ≠ 0) (hbig : zs.length ≤ 1000000)
    (hq : (∀ z, z ∈ zs → z % c = 0) → ∀ y M, growC H 28 2 zs.length (IC (zs.map (· / c))) y M → Q (.tup [y, .int .i64 ((0 : Nat) : Int)]) M)
    (hn : (∃ z, z ∈ zs ∧ z % c ≠ 0) → Q (.tup [.seq 0 [] true, .int .i64 ((20 : Nat) : Int)]) H) : Run Tryd.prog 114 [RowA zs t, IntA c] H Q := by
  have nz : zs.length < 9223372036854775808 := by omega
  have hs : decide (sgnI c = ((0 : Nat) : Int)) = false := decide_eq_false (by unfold sgnI; rw [if_neg hc0]; split <;> omega)
  refine enter114 (by simp) ?_
  simp (disch := first | assumption | (apply Ap.symm; assumption) | omega | decide | (simp only [Xd] <;> omega)) only [ac114, cells_IntA, ↓Xa, Xb, Xc, ↓reduceIte, Nat.reduceLT, Nat.reduceEqDiff, Nat.reduceBEq, Nat.reduceLeDiff, Nat.reduceAdd, Nat.reduceMul]
  refine alloc_i fun p1 hp1 => ?_
  have n1 := hp1
  simp (disch := first | assumption | (apply Ap.symm; assumption) | omega | decide | (simp only [Xd] <;> omega)) only [fold_IntA, ↓Xa, Xb, Xc, ↓reduceIte, Nat.reduceLT, Nat.reduceEqDiff, Nat.reduceBEq, Nat.reduceLeDiff, Nat.reduceAdd, Nat.reduceMul]
  refine (sign_fn hc (by omega)).call ?_
  simp (disch := first | assumption | (apply Ap.symm; assumption) | omega | decide | (simp only [Xd] <;> omega)) only [eql_int, hs, len_rw, ↓Xa, Xb, Xc, ↓reduceIte, Nat.reduceLT, Nat.reduceEqDiff, Nat.reduceBEq, Nat.reduceLeDiff, Nat.reduceAdd, Nat.reduceMul]
  refine W_loop (fun s : Nat × AV × AHeap => ⟨[], [(3, .ptr p1 2 0), (6, s.2.1), (15, RowA zs t), (16, .int .i64 (zs.length : Int)), (17, .int .i64 s.1)], s.2.2⟩)
    (fun s => s.1 ≤ zs.length ∧ (∀ z, z ∈ zs.take s.1 → z % c = 0) ∧ growC (H.upd p1 (some (.row 28 0 [IntB c, IntD c]))) 28 2 s.1 (IC ((zs.map (· / c)).take s.1)) s.2.1 s.2.2) (fun s => zs.length - s.1) (0, .seq 0 [] true, _) (Settle.now rfl) ⟨Nat.zero_le _, by simp, growC_nil⟩ ?_
  rintro ⟨i, y, M⟩ ⟨h3, hall, hg⟩
  dsimp only at h3 hall hg ⊢
  have m1 : M p1 = some (.row 28 0 [IntB c, IntD c]) := growC_old hg (upd_same _ _ _)
  by_cases hi : i < zs.length
  · have hi2 : i < (zs.map (· / c)).length := by simpa using hi
    simp (disch := first | assumption | (apply Ap.symm; assumption) | omega | decide | (simp only [Xd] <;> omega)) only [hi, idx_IC, load_IC, ↓Xa, Xb, Xc, ↓reduceIte, Nat.reduceLT, Nat.reduceEqDiff, Nat.reduceBEq, Nat.reduceLeDiff, Nat.reduceAdd, Nat.reduceMul]
    refine alloc_i fun q1 hq1 => ?_
    have a1 := ne_of_some m1 hq1
    simp (disch := first | assumption | (apply Ap.symm; assumption) | omega | decide | (simp only [Xd] <;> omega)) only [cells_IntA, fold_IntA, m1, ↓Xa, Xb, Xc, ↓reduceIte, Nat.reduceLT, Nat.reduceEqDiff, Nat.reduceBEq, Nat.reduceLeDiff, Nat.reduceAdd, Nat.reduceMul]
    have hg1 := growC_upd (r := .row 28 0 [IntB (zs[i]), IntD (zs[i])]) hg hq1
    refine (idivmod_fn (hz.at hi) (by omega) hc (by omega) hc0).call ?_
    simp (disch := first | assumption | (apply Ap.symm; assumption) | omega | decide | (simp only [Xd] <;> omega)) only [↓Xa, Xb, Xc, ↓reduceIte, Nat.reduceLT, Nat.reduceEqDiff, Nat.reduceBEq, Nat.reduceLeDiff, Nat.reduceAdd, Nat.reduceMul]
    refine alloc_i fun q2 hq2 => ?_
    have a2 := ne_of_some m1 (upd_none.1 hq2).2
    simp (disch := first | assumption | (apply Ap.symm; assumption) | omega | decide | (simp only [Xd] <;> omega)) only [↓Xa, Xb, Xc, ↓reduceIte, Nat.reduceLT, Nat.reduceEqDiff, Nat.reduceBEq, Nat.reduceLeDiff, Nat.reduceAdd, Nat.reduceMul]
    refine alloc_i fun q3 hq3 => ?_
    have a3 := ne_of_some m1 (upd_none.1 (upd_none.1 hq3).2).2
    have a32 := (upd_none.1 hq3).1
    simp (disch := first | assumption | (apply Ap.symm; assumption) | omega | decide | (simp only [Xd] <;> omega)) only [cells_IntA, fold_IntA, ↓Xa, Xb, Xc, ↓reduceIte, Nat.reduceLT, Nat.reduceEqDiff, Nat.reduceBEq, Nat.reduceLeDiff, Nat.reduceAdd, Nat.reduceMul]
    have hg2 := growC_upd (r := .row 28 0 [IntB (zs[i] / c), IntD (zs[i] / c)]) hg1 hq2
    have hq3' : ((M.upd q1 (some (.row 28 0 [IntB (zs[i]), IntD (zs[i])]))).upd q2 (some (.row 28 0 [IntB (zs[i] / c), IntD (zs[i] / c)]))) q3 = none := upd_none.2 ⟨a32, (upd_none.1 hq3).2⟩
    have hg3 := growC_upd (r := .row 28 0 [IntB (zs[i] % c), IntD (zs[i] % c)]) hg2 hq3'
    have br : Bd k (zs[i] % c) := by
      have h1 := Int.emod_lt (zs[i]) hc0
      have h2 := Int.emod_nonneg (zs[i]) hc0
      unfold Bd at hc ⊢; omega
    refine (sign_fn br (by omega)).call ?_
    by_cases h0 : zs[i] % c = 0
    · simp (disch := first | assumption | (apply Ap.symm; assumption) | omega | decide | (simp only [Xd] <;> omega)) only [sgn_neq0, h0, repI1, cells_IntA, fold_IntA, ↓Xa, Xb, Xc, ↓reduceIte, Nat.reduceLT, Nat.reduceEqDiff, Nat.reduceBEq, Nat.reduceLeDiff, Nat.reduceAdd, Nat.reduceMul]
      rw [h0] at hg3
      refine app_C (m := 1) hg3 rfl cellI (by omega) (by omega) (by omega) fun y' M2 hg4 => ?_
      have et : (zs.map (· / c))[i] = zs[i] / c := by simp
      rw [← et, ← IC_take hi2] at hg4
      have hle : Le (H.upd p1 (some (.row 28 0 [IntB c, IntD c]))) ((((H.upd p1 (some (.row 28 0 [IntB c, IntD c]))).upd q1 (some (.row 28 0 [IntB (zs[i]), IntD (zs[i])]))).upd q2 (some (.row 28 0 [IntB ((zs.map (· / c))[i]), IntD ((zs.map (· / c))[i])]))).upd q3 (some (.row 28 0 [IntB 0, IntD 0]))) :=
        (((Le.refl _).updB (growC_none hg hq1)).updB (growC_none hg (upd_none.1 hq2).2)).updB (growC_none hg (upd_none.1 (upd_none.1 hq3).2).2)
      obtain ⟨M3, hg5, hl5⟩ := growC_le2 hg4 hle
      simp (disch := first | assumption | (apply Ap.symm; assumption) | omega | decide | (simp only [Xd] <;> omega)) only [↓Xa, Xb, Xc, ↓reduceIte, Nat.reduceLT, Nat.reduceEqDiff, Nat.reduceBEq, Nat.reduceLeDiff, Nat.reduceAdd, Nat.reduceMul]
      refine Settle.dropTo hl5 (Settle.now ⟨(i + 1, y', M3), by dsimp only; omega, ⟨by dsimp only; omega, fun z hm => ?_, hg5⟩, rfl⟩)
      dsimp only at hm
      rw [List.take_add_one, List.getElem?_eq_getElem hi, Option.toList_some] at hm
      rcases List.mem_append.1 hm with hm | hm
      · exact hall z hm
      · rw [List.mem_singleton.1 hm]; exact h0
    · simp (disch := first | assumption | (apply Ap.symm; assumption) | omega | decide | (simp only [Xd] <;> omega)) only [sgn_neq0, h0, rs114, ↓Xa, Xb, Xc, ↓reduceIte, Nat.reduceLT, Nat.reduceEqDiff, Nat.reduceBEq, Nat.reduceLeDiff, Nat.reduceAdd, Nat.reduceMul]
      refine SetR.dropTo ?_ (SetR.now (hn ⟨_, List.getElem_mem hi, h0⟩))
      have hH : Le H M := fun o x ho => growC_le hg o x (((Le.refl H).updB n1) o x ho)
      exact ((hH.upd hq1).upd hq2).upd hq3'
  · obtain rfl : i = zs.length := by omega
    rw [List.take_of_length_le (by omega)] at hall
    rw [List.take_of_length_le (by simp)] at hg
    simp (disch := first | assumption | (apply Ap.symm; assumption) | omega | decide | (simp only [Xd] <;> omega)) only [hi, ↓Xa, Xb, Xc, ↓reduceIte, Nat.reduceLT, Nat.reduceEqDiff, Nat.reduceBEq, Nat.reduceLeDiff, Nat.reduceAdd, Nat.reduceMul]
    refine Settle.now ?_
    simp (disch := first | assumption | (apply Ap.symm; assumption) | omega | decide | (simp only [Xd] <;> omega)) only [rs114, ↓Xa, Xb, Xc, ↓reduceIte, Nat.reduceLT, Nat.reduceEqDiff, Nat.reduceBEq, Nat.reduceLeDiff, Nat.reduceAdd, Nat.reduceMul]
    obtain ⟨M3, hg5, hl5⟩ := growC_le2 hg ((Le.refl H).updB n1)
    exact SetR.dropTo hl5 (SetR.now (hq hall y M3 hg5))
theorem rowcont_fn {zs : List Int} {t : Bool} {k : Nat} (hz : RB4 k zs) (hk : k ≤ 1000000) (hk2 : 2 ≤ k) : PFn Tryd.prog 118 [RowA zs t] (IntA ((contN zs : Nat) : Int)) := by
  intro H Q hq
  have nz : zs.length < 9223372036854775808 := by have := hz.2; omega
  refine enter118 (by simp) ?_
  simp (disch := first | assumption | (apply Ap.symm; assumption) | omega | decide | (simp only [Xd] <;> omega)) only [ac118, ↓Xa, Xb, Xc, ↓reduceIte, Nat.reduceLT, Nat.reduceEqDiff, Nat.reduceBEq, Nat.reduceLeDiff, Nat.reduceAdd, Nat.reduceMul]
  refine alloc_i fun p1 hp1 => ?_
  have n1 := hp1
  simp (disch := first | assumption | (apply Ap.symm; assumption) | omega | decide | (simp only [Xd] <;> omega)) only [↓Xa, Xb, Xc, ↓reduceIte, Nat.reduceLT, Nat.reduceEqDiff, Nat.reduceBEq, Nat.reduceLeDiff, Nat.reduceAdd, Nat.reduceMul]
  refine alloc_i fun p2 hp2 => ?_
  have n2 := hp2
  simp only [upd_none] at n2
  obtain ⟨_, n2⟩ := n2
  simp (disch := first | assumption | (apply Ap.symm; assumption) | omega | decide | (simp only [Xd] <;> omega)) only [len_rw, ↓Xa, Xb, Xc, ↓reduceIte, Nat.reduceLT, Nat.reduceEqDiff, Nat.reduceBEq, Nat.reduceLeDiff, Nat.reduceAdd, Nat.reduceMul]
  refine W_loop (fun s : Nat × Nat => ⟨[], [(2, .ptr p1 2 0), (3, .ptr p2 2 0), (6, RowA zs t), (7, .int .i64 (zs.length : Int)), (8, .int .i64 s.1)], (H.upd p1 (some (.row 28 0 [.bool false, .seq 0 [] true]))).upd p2 (some (.row 28 0 [IntB (s.2 : Int), IntD (s.2 : Int)]))⟩)
    (fun s => s.1 ≤ zs.length ∧ Bd k (s.2 : Int) ∧ gcdF s.2 (zs.drop s.1) = contN zs) (fun s => zs.length - s.1) (0, 0) (Settle.now (by simp [IntB, IntD, digs_zero, LS, U])) ⟨Nat.zero_le _, Bd.zero _, rfl⟩ ?_
  rintro ⟨i, g⟩ ⟨h3, hb, hc⟩
  dsimp only at h3 hb hc ⊢
  by_cases hi : i < zs.length
  · rw [List.drop_eq_getElem_cons hi, gcdF, List.foldl_cons] at hc
    have hb2 : Bd k ((Int.gcd (g : Int) (zs[i]) : Nat) : Int) := Bd.gcdF (zs := [zs[i]]) hb (fun z hz' => by rw [List.mem_singleton.1 hz']; exact hz.at hi)
    simp (disch := first | assumption | (apply Ap.symm; assumption) | omega | decide | (simp only [Xd] <;> omega)) only [hi, idx_IC, load_IC, ↓Xa, Xb, Xc, ↓reduceIte, Nat.reduceLT, Nat.reduceEqDiff, Nat.reduceBEq, Nat.reduceLeDiff, Nat.reduceAdd, Nat.reduceMul]
    refine alloc_i fun p3 hp3 => ?_
    have n3 := hp3
    simp only [upd_none] at n3
    obtain ⟨_, _, n3⟩ := n3
    simp (disch := first | assumption | (apply Ap.symm; assumption) | omega | decide | (simp only [Xd] <;> omega)) only [cells_IntA, fold_IntA, ↓Xa, Xb, Xc, ↓reduceIte, Nat.reduceLT, Nat.reduceEqDiff, Nat.reduceBEq, Nat.reduceLeDiff, Nat.reduceAdd, Nat.reduceMul]
    refine (igcd_fn hb (by omega) (hz.at hi)).call ?_
    generalize hG : Int.gcd (g : Int) (zs[i]) = G at *
    simp (disch := first | assumption | (apply Ap.symm; assumption) | omega | decide | (simp only [Xd] <;> omega)) only [cells_IntA, fold_IntA, ↓Xa, Xb, Xc, ↓reduceIte, Nat.reduceLT, Nat.reduceEqDiff, Nat.reduceBEq, Nat.reduceLeDiff, Nat.reduceAdd, Nat.reduceMul]
    refine PFn.dcall (of_fn (n := ((1 : Nat) : Int)) (by omega)) ?_
    simp (disch := first | assumption | (apply Ap.symm; assumption) | omega | decide | (simp only [Xd] <;> omega)) only [↓Xa, Xb, Xc, ↓reduceIte, Nat.reduceLT, Nat.reduceEqDiff, Nat.reduceBEq, Nat.reduceLeDiff, Nat.reduceAdd, Nat.reduceMul]
    refine (cmpi_fn hb2 (by omega) (Bd.i64 (n := ((1 : Nat) : Int)) (by omega)) (by omega)).call ?_
    by_cases h1 : G = 1
    · have hd : decide ((G : Int) = ((1 : Nat) : Int)) = true := decide_eq_true (by omega)
      have hc1 : contN zs = 1 := by rw [← hc, h1]; exact gcdF_one _
      rw [hc1] at hq
      subst h1
      simp (disch := first | assumption | (apply Ap.symm; assumption) | omega | decide | (simp only [Xd] <;> omega)) only [cmp_eql0, hd, ↓Xa, Xb, Xc, ↓reduceIte, Nat.reduceLT, Nat.reduceEqDiff, Nat.reduceBEq, Nat.reduceLeDiff, Nat.reduceAdd, Nat.reduceMul]
      refine Settle.now ?_
      simp (disch := first | assumption | (apply Ap.symm; assumption) | omega | decide | (simp only [Xd] <;> omega)) only [fold_IntA, cells_IntA, rs118, ↓Xa, Xb, Xc, ↓reduceIte, Nat.reduceLT, Nat.reduceEqDiff, Nat.reduceBEq, Nat.reduceLeDiff, Nat.reduceAdd, Nat.reduceMul]
      exact SetR.dropTo ((((Le.refl H).updB n1).updB n2).updB n3) (SetR.now hq)
    · have hd : decide ((G : Int) = ((1 : Nat) : Int)) = false := decide_eq_false (by omega)
      simp (disch := first | assumption | (apply Ap.symm; assumption) | omega | decide | (simp only [Xd] <;> omega)) only [cmp_eql0, hd, ↓Xa, Xb, Xc, ↓reduceIte, Nat.reduceLT, Nat.reduceEqDiff, Nat.reduceBEq, Nat.reduceLeDiff, Nat.reduceAdd, Nat.reduceMul]
      refine Settle.dropTo ((Le.refl _).updB (upd_none.2 ⟨by assumption, upd_none.2 ⟨by assumption, n3⟩⟩)) ?_
      exact Settle.now ⟨(i + 1, _), by dsimp only; omega, ⟨by dsimp only; omega, hb2, hc⟩, rfl⟩
  · rw [List.drop_eq_nil_of_le (by omega)] at hc
    have hc : g = contN zs := hc
    rw [← hc] at hq
    simp (disch := first | assumption | (apply Ap.symm; assumption) | omega | decide | (simp only [Xd] <;> omega)) only [hi, ↓Xa, Xb, Xc, ↓reduceIte, Nat.reduceLT, Nat.reduceEqDiff, Nat.reduceBEq, Nat.reduceLeDiff, Nat.reduceAdd, Nat.reduceMul]
    refine Settle.now ?_
    simp (disch := first | assumption | (apply Ap.symm; assumption) | omega | decide | (simp only [Xd] <;> omega)) only [fold_IntA, cells_IntA, rs118, ↓Xa, Xb, Xc, ↓reduceIte, Nat.reduceLT, Nat.reduceEqDiff, Nat.reduceBEq, Nat.reduceLeDiff, Nat.reduceAdd, Nat.reduceMul]
    exact SetR.dropTo (((Le.refl H).updB n1).updB n2) (SetR.now hq)
theorem id1_fn {x : Int} : PFn Tryd.prog 185 [IntA x] (IntA x) := by
  intro H Q hq
  refine enter185 (by simp) ?_
  simp (disch := first | assumption | (apply Ap.symm; assumption) | omega | decide | (simp only [Xd] <;> omega)) only [ac185, cells_IntA, ↓Xa, Xb, Xc, ↓reduceIte, Nat.reduceLT, Nat.reduceEqDiff, Nat.reduceBEq, Nat.reduceLeDiff, Nat.reduceAdd, Nat.reduceMul]
  refine alloc_i fun p1 hp1 => ?_
  have n1 := hp1
  simp (disch := first | assumption | (apply Ap.symm; assumption) | omega | decide | (simp only [Xd] <;> omega)) only [↓Xa, Xb, Xc, ↓reduceIte, Nat.reduceLT, Nat.reduceEqDiff, Nat.reduceBEq, Nat.reduceLeDiff, Nat.reduceAdd, Nat.reduceMul]
  refine alloc_i fun p2 hp2 => ?_
  have n2 := hp2
  simp only [upd_none] at n2
  obtain ⟨_, n2⟩ := n2
  simp (disch := first | assumption | (apply Ap.symm; assumption) | omega | decide | (simp only [Xd] <;> omega)) only [cells_IntA, fold_IntA, rs185, ↓Xa, Xb, Xc, ↓reduceIte, Nat.reduceLT, Nat.reduceEqDiff, Nat.reduceBEq, Nat.reduceLeDiff, Nat.reduceAdd, Nat.reduceMul]
  exact SetR.dropTo (((Le.refl H).updB n1).updB n2) (SetR.now hq)
end Go.Proofs.YtanchgkiomfhhaaDoor.Fw

/- Rows of whole numbers: the primitive row; the reference's rows put together. -/
namespace Go.Proofs.YtanchgkiomfhhaaDoor.Fw
set_option linter.unusedSimpArgs false
set_option linter.unusedVariables false
open Go Go.Proofs.YtanchgkiomfhhaaDoor.Ma
set_option maxRecDepth 20000

theorem rowprim_run {H : AHeap} {Q : AV → AHeap → Prop} {zs : List Int} {t : Bool} {k : Nat} (hz : RB4 k zs) (hk : k ≤ 1000000) (hk2 : 2 ≤ k) (hbig : zs.length ≤ 1000000)
    (hq : contN zs ≠ 0 → ∀ y M, growC H 28 2 zs.length (IC (primR zs)) y M → Q (.tup [y, IntA (primG zs)]) M)
    (hq0 : contN zs = 0 → Q (.tup [RowA (primR zs) false, IntA (primG zs)]) H) : Run Tryd.prog 117 [RowA zs t] H Q := by
  have nz : zs.length < 9223372036854775808 := by omega
  have hcb : Bd k ((contN zs : Nat) : Int) := Bd.gcdF (Bd.zero k) hz.1
  -- what is answered out of memory G that has the two variables
  have fin : contN zs ≠ 0 → ∀ {p1 p2 : Nat} {g : Int} {G : AHeap}, H p1 = none → H p2 = none → Ap p2 p1 → Le H G → G p1 = some (.row 28 0 [.bool false, .seq 0 [] true]) → G p2 = some (.row 28 0 [IntB g, IntD g]) → g = primG zs → ∀ {y M}, growC G 28 2 zs.length (IC (primR zs)) y M →
      M p1 = some (.row 28 0 [.bool false, .seq 0 [] true]) ∧ M p2 = some (.row 28 0 [IntB g, IntD g]) ∧ SetR Q (.tup [y, IntA g]) (M.upd p1 (some (.row 28 0 [IntB g, IntD g]))) := by
    intro hc0 p1 p2 g G n1 n2 hap hG g1 g2 hg y M hgr
    refine ⟨growC_old hgr g1, growC_old hgr g2, ?_⟩
    obtain ⟨H1, hg1, hl1⟩ := growC_move (M := M.upd p1 (some (.row 28 0 [IntB g, IntD g]))) hgr fun b hb _ => upd_other _ _ (by rintro rfl; rw [g1] at hb; cases hb)
    have hle : Le H H1 := hl1 H (fun o x ho => by
      have e : o ≠ p1 := by rintro rfl; rw [n1] at ho; cases ho
      rw [upd_other _ _ e]; exact growC_le hgr o x (hG o x ho)) fun b hb => hG.none hb
    obtain ⟨M2, hg2, hl2⟩ := growC_le2 hg1 hle
    subst hg
    exact SetR.dropTo hl2 (SetR.now (hq hc0 y M2 hg2))
  refine enter117 (by simp) ?_
  simp (disch := first | assumption | (apply Ap.symm; assumption) | omega | decide | (simp only [Xd] <;> omega)) only [ac117, ↓Xa, Xb, Xc, ↓reduceIte, Nat.reduceLT, Nat.reduceEqDiff, Nat.reduceBEq, Nat.reduceLeDiff, Nat.reduceAdd, Nat.reduceMul]
  refine alloc_i fun p1 hp1 => ?_
  have n1 := hp1
  simp (disch := first | assumption | (apply Ap.symm; assumption) | omega | decide | (simp only [Xd] <;> omega)) only [↓Xa, Xb, Xc, ↓reduceIte, Nat.reduceLT, Nat.reduceEqDiff, Nat.reduceBEq, Nat.reduceLeDiff, Nat.reduceAdd, Nat.reduceMul]
  refine (rowcont_fn hz hk hk2).call ?_
  simp (disch := first | assumption | (apply Ap.symm; assumption) | omega | decide | (simp only [Xd] <;> omega)) only [↓Xa, Xb, Xc, ↓reduceIte, Nat.reduceLT, Nat.reduceEqDiff, Nat.reduceBEq, Nat.reduceLeDiff, Nat.reduceAdd, Nat.reduceMul]
  refine alloc_i fun p2 hp2 => ?_
  have n2 := hp2
  simp only [upd_none] at n2
  obtain ⟨_, n2⟩ := n2
  simp (disch := first | assumption | (apply Ap.symm; assumption) | omega | decide | (simp only [Xd] <;> omega)) only [cells_IntA, len_rw, ↓Xa, Xb, Xc, ↓reduceIte, Nat.reduceLT, Nat.reduceEqDiff, Nat.reduceBEq, Nat.reduceLeDiff, Nat.reduceAdd, Nat.reduceMul]
  refine W_loop (fun s : Nat => ⟨[], [(0, RowA zs t), (3, .ptr p1 2 0), (4, .ptr p2 2 0), (11, RowA zs t), (12, .int .i64 (zs.length : Int)), (13, .int .i64 s)], (H.upd p1 (some (.row 28 0 [.bool false, .seq 0 [] true]))).upd p2 (some (.row 28 0 [IntB ((contN zs : Nat) : Int), IntD ((contN zs : Nat) : Int)]))⟩)
    (fun s => s ≤ zs.length ∧ ∀ j (h : j < zs.length), j < s → zs[j] = 0) (fun s => zs.length - s) 0 (Settle.now rfl) ⟨Nat.zero_le _, fun j _ h => absurd h (Nat.not_lt_zero j)⟩ ?_
  rintro i ⟨h3, hno⟩
  by_cases hi : i < zs.length
  · simp (disch := first | assumption | (apply Ap.symm; assumption) | omega | decide | (simp only [Xd] <;> omega)) only [hi, idx_IC, load_IC, ↓Xa, Xb, Xc, ↓reduceIte, Nat.reduceLT, Nat.reduceEqDiff, Nat.reduceBEq, Nat.reduceLeDiff, Nat.reduceAdd, Nat.reduceMul]
    refine alloc_i fun p3 hp3 => ?_
    have n3 := hp3
    simp only [upd_none] at n3
    obtain ⟨_, _, n3⟩ := n3
    simp (disch := first | assumption | (apply Ap.symm; assumption) | omega | decide | (simp only [Xd] <;> omega)) only [cells_IntA, fold_IntA, ↓Xa, Xb, Xc, ↓reduceIte, Nat.reduceLT, Nat.reduceEqDiff, Nat.reduceBEq, Nat.reduceLeDiff, Nat.reduceAdd, Nat.reduceMul]
    refine (sign_fn (hz.at hi) (by omega)).call ?_
    by_cases h0 : zs[i] = 0
    · have hs : decide (sgnI (zs[i]) = ((0 : Nat) : Int)) = true := by rw [h0]; decide
      simp (disch := first | assumption | (apply Ap.symm; assumption) | omega | decide | (simp only [Xd] <;> omega)) only [eql_int, hs, ↓Xa, Xb, Xc, ↓reduceIte, Nat.reduceLT, Nat.reduceEqDiff, Nat.reduceBEq, Nat.reduceLeDiff, Nat.reduceAdd, Nat.reduceMul]
      refine Settle.dropTo ((Le.refl _).updB (upd_none.2 ⟨by assumption, upd_none.2 ⟨by assumption, n3⟩⟩)) ?_
      refine Settle.now ⟨i + 1, by omega, ⟨by omega, fun j h h2 => ?_⟩, rfl⟩
      by_cases e : j = i
      · subst e; exact h0
      · exact hno j h (by omega)
    · have hs : decide (sgnI (zs[i]) = ((0 : Nat) : Int)) = false := decide_eq_false (by unfold sgnI; rw [if_neg h0]; split <;> omega)
      have hfind : zs.find? (fun z => decide (z ≠ 0)) = some (zs[i]) := by
        rw [List.find?_eq_some_iff_getElem]
        exact ⟨by simpa using h0, i, hi, rfl, fun j hj => by simpa using hno j (by omega) hj⟩
      have hc0 : contN zs ≠ 0 := fun e => h0 ((contN_zero zs).1 e _ (List.getElem_mem hi))
      simp (disch := first | assumption | (apply Ap.symm; assumption) | omega | decide | (simp only [Xd] <;> omega)) only [eql_int, hs, fold_IntA, ↓Xa, Xb, Xc, ↓reduceIte, Nat.reduceLT, Nat.reduceEqDiff, Nat.reduceBEq, Nat.reduceLeDiff, Nat.reduceAdd, Nat.reduceMul]
      refine (sign_fn (hz.at hi) (by omega)).call ?_
      have hdv : ∀ {g : Int}, g = primG zs → ∀ z, z ∈ zs → z % g = 0 := fun e z hm => by
        subst e
        have h := (gcdF_dvd zs 0).2 z hm
        have e : primG zs = ((contN zs : Nat) : Int) ∨ primG zs = -((contN zs : Nat) : Int) := by have := primG_abs zs; omega
        rcases e with e | e <;> rw [e]
        · exact Int.emod_eq_zero_of_dvd h
        · exact Int.emod_eq_zero_of_dvd (Int.neg_dvd.2 h)
      by_cases hneg : zs[i] < 0
      · have hg : -((contN zs : Nat) : Int) = primG zs := by unfold primG; rw [hfind]; dsimp only; rw [if_pos hneg]
        simp (disch := first | assumption | (apply Ap.symm; assumption) | omega | decide | (simp only [Xd] <;> omega)) only [sgn_lss0, decide_eq_true hneg, cells_IntA, fold_IntA, ↓Xa, Xb, Xc, ↓reduceIte, Nat.reduceLT, Nat.reduceEqDiff, Nat.reduceBEq, Nat.reduceLeDiff, Nat.reduceAdd, Nat.reduceMul]
        refine (neg_fn hcb (by omega)).call ?_
        simp (disch := first | assumption | (apply Ap.symm; assumption) | omega | decide | (simp only [Xd] <;> omega)) only [cells_IntA, fold_IntA, ↓Xa, Xb, Xc, ↓reduceIte, Nat.reduceLT, Nat.reduceEqDiff, Nat.reduceBEq, Nat.reduceLeDiff, Nat.reduceAdd, Nat.reduceMul]
        refine run_call (rowover_run hz hcb.neg hk (by omega) hbig (fun _ y M hgr => ?_) fun ⟨z, hm, hne⟩ => absurd (hdv hg z hm) hne)
        have hR2 : primR zs = zs.map (· / -((contN zs : Nat) : Int)) := by unfold primR; rw [← hg]
        rw [← hR2] at hgr
        obtain ⟨g1, g2, g3⟩ := fin hc0 n1 n2 (by assumption) (g := -((contN zs : Nat) : Int)) ((((Le.refl H).updB n1).updB n2).updB n3) (by simp (disch := first | assumption | (apply Ap.symm; assumption) | omega | decide | (simp only [Xd] <;> omega)) only [↓Xa, Xb, Xc, ↓reduceIte, Nat.reduceLT, Nat.reduceEqDiff, Nat.reduceBEq, Nat.reduceLeDiff, Nat.reduceAdd, Nat.reduceMul]) (by simp (disch := first | assumption | (apply Ap.symm; assumption) | omega | decide | (simp only [Xd] <;> omega)) only [↓Xa, Xb, Xc, ↓reduceIte, Nat.reduceLT, Nat.reduceEqDiff, Nat.reduceBEq, Nat.reduceLeDiff, Nat.reduceAdd, Nat.reduceMul]) hg hgr
        simp (disch := first | assumption | (apply Ap.symm; assumption) | omega | decide | (simp only [Xd] <;> omega)) only [g1, g2, cells_IntA, fold_IntA, rs117, ↓Xa, Xb, Xc, ↓reduceIte, Nat.reduceLT, Nat.reduceEqDiff, Nat.reduceBEq, Nat.reduceLeDiff, Nat.reduceAdd, Nat.reduceMul]
        exact g3
      · have hg : ((contN zs : Nat) : Int) = primG zs := by unfold primG; rw [hfind]; dsimp only; rw [if_neg hneg]
        simp (disch := first | assumption | (apply Ap.symm; assumption) | omega | decide | (simp only [Xd] <;> omega)) only [sgn_lss0, decide_eq_false hneg, cells_IntA, fold_IntA, ↓Xa, Xb, Xc, ↓reduceIte, Nat.reduceLT, Nat.reduceEqDiff, Nat.reduceBEq, Nat.reduceLeDiff, Nat.reduceAdd, Nat.reduceMul]
        refine run_call (rowover_run hz hcb hk (by omega) hbig (fun _ y M hgr => ?_) fun ⟨z, hm, hne⟩ => absurd (hdv hg z hm) hne)
        have hR2 : primR zs = zs.map (· / ((contN zs : Nat) : Int)) := by unfold primR; rw [← hg]
        rw [← hR2] at hgr
        obtain ⟨g1, g2, g3⟩ := fin hc0 n1 n2 (by assumption) (g := ((contN zs : Nat) : Int)) ((((Le.refl H).updB n1).updB n2).updB n3) (by simp (disch := first | assumption | (apply Ap.symm; assumption) | omega | decide | (simp only [Xd] <;> omega)) only [↓Xa, Xb, Xc, ↓reduceIte, Nat.reduceLT, Nat.reduceEqDiff, Nat.reduceBEq, Nat.reduceLeDiff, Nat.reduceAdd, Nat.reduceMul]) (by simp (disch := first | assumption | (apply Ap.symm; assumption) | omega | decide | (simp only [Xd] <;> omega)) only [↓Xa, Xb, Xc, ↓reduceIte, Nat.reduceLT, Nat.reduceEqDiff, Nat.reduceBEq, Nat.reduceLeDiff, Nat.reduceAdd, Nat.reduceMul]) hg hgr
        simp (disch := first | assumption | (apply Ap.symm; assumption) | omega | decide | (simp only [Xd] <;> omega)) only [g1, g2, cells_IntA, fold_IntA, rs117, ↓Xa, Xb, Xc, ↓reduceIte, Nat.reduceLT, Nat.reduceEqDiff, Nat.reduceBEq, Nat.reduceLeDiff, Nat.reduceAdd, Nat.reduceMul]
        exact g3
  · have hall : ∀ z, z ∈ zs → z = 0 := fun z hm => by
      obtain ⟨j, hj, rfl⟩ := List.getElem_of_mem hm
      exact hno j hj (by omega)
    have hc0 : contN zs = 0 := (contN_zero zs).2 hall
    have hg : ((contN zs : Nat) : Int) = primG zs := by have := primG_abs zs; omega
    have hR : primR zs = zs := by
      unfold primR
      conv => rhs; rw [← List.map_id zs]
      refine List.map_congr_left fun z hm => ?_
      rw [hall z hm]; simp
    simp (disch := first | assumption | (apply Ap.symm; assumption) | omega | decide | (simp only [Xd] <;> omega)) only [hi, ↓Xa, Xb, Xc, ↓reduceIte, Nat.reduceLT, Nat.reduceEqDiff, Nat.reduceBEq, Nat.reduceLeDiff, Nat.reduceAdd, Nat.reduceMul]
    refine Settle.now ?_
    have hln : (primR zs).length = zs.length := by simp [primR]
    have ec := PFn.frozen (P := Tryd.prog) (f := 144) (args := [RowA zs t, .fn (.func 185) [] []]) (ty := 28) (es := 2) (n := zs.length) (cells := IC zs) fun H Q hq =>
      each_pure hz (ws := zs) rfl hbig (fun i h M K _ hK => id1_fn.call hK) hq
    simp (disch := first | assumption | (apply Ap.symm; assumption) | omega | decide | (simp only [Xd] <;> omega)) only [↓Xa, Xb, Xc, ↓reduceIte, Nat.reduceLT, Nat.reduceEqDiff, Nat.reduceBEq, Nat.reduceLeDiff, Nat.reduceAdd, Nat.reduceMul]
    refine PFn.dcall ec ?_
    have hq0 := hq0 hc0
    rw [← hg, hR] at hq0
    simp (disch := first | assumption | (apply Ap.symm; assumption) | omega | decide | (simp only [Xd] <;> omega)) only [cells_IntA, fold_IntA, rs117, ↓Xa, Xb, Xc, ↓reduceIte, Nat.reduceLT, Nat.reduceEqDiff, Nat.reduceBEq, Nat.reduceLeDiff, Nat.reduceAdd, Nat.reduceMul]
    exact SetR.dropTo (((Le.refl H).updB n1).updB n2) (SetR.now hq0)
end Go.Proofs.YtanchgkiomfhhaaDoor.Fw

/- The law of rows over numbers (a module): true. -/
namespace Go.Proofs.YtanchgkiomfhhaaDoor.Fw
set_option linter.unusedSimpArgs false
set_option linter.unusedVariables false
open Go Go.Proofs.YtanchgkiomfhhaaDoor.Ma
set_option maxRecDepth 20000

theorem RB4.map {k k' : Nat} {zs : List Int} {f : Int → Int} (h : RB4 k zs) (hf : ∀ z, Bd k z → Bd k' (f z)) : RB4 k' (zs.map f) :=
  ⟨fun z hz => by obtain ⟨y, hy, rfl⟩ := List.mem_map.1 hz; exact hf y (h.1 y hy), by rw [List.length_map]; exact h.2⟩
theorem RB4.zip {k k1 k2 : Nat} {zs ws : List Int} {f : Int → Int → Int} (h : RB4 k1 zs) (h2 : RB4 k2 ws) (hl : zs.length = ws.length) (hf : ∀ z w, Bd k1 z → Bd k2 w → Bd k (f z w)) : RB4 k (zipI f zs ws) :=
  ⟨fun z hz => by
    obtain ⟨i, hi, rfl⟩ := List.getElem_of_mem hz
    have hi2 : i < zs.length := by rw [zip_len hl] at hi; exact hi
    rw [zip_at hl hi2]
    exact hf _ _ (h.at hi2) (h2.at (by omega)), by rw [zip_len hl]; exact h.2⟩
theorem RB4.mono {k k' : Nat} {zs : List Int} (h : RB4 k zs) (hk : k ≤ k') : RB4 k' zs := ⟨fun z hz => (h.1 z hz).mono hk, h.2⟩
theorem Bd.sums {k : Nat} : ∀ {l : List Int} {s : Int} {j : Nat}, Bd (k + j) s → (∀ z, z ∈ l → Bd k z) → Bd (k + (j + l.length)) (l.foldl (· + ·) s)
  | [], s, j, h, _ => h
  | z :: l, s, j, h, h2 => by
    have := Bd.sums (l := l) (s := s + z) (j := j + 1) ((h.add ((h2 z (by simp)).mono (by omega))).mono (by omega)) fun y hy => h2 y (by simp [hy])
    exact this.mono (by simp only [List.length_cons]; omega)
theorem Bd.dotF {k k1 k2 : Nat} {zs ws : List Int} (h : RB4 k1 zs) (h2 : RB4 k2 ws) (hl : zs.length = ws.length) (hk : k1 + k2 + zs.length ≤ k) : Bd k (dotF 0 zs ws) := by
  have hz := RB4.zip (f := (· * ·)) h h2 hl (fun z w a b => a.mul b)
  have := Bd.sums (k := k1 + k2) (l := zipI (· * ·) zs ws) (s := 0) (j := 0) (Bd.zero _) hz.1
  rw [zip_len hl] at this
  exact this.mono (by omega)
section
variable {zs ws : List Int} {t t' : Bool} {k : Nat}
theorem rowsc_fn {c : Int} {k' : Nat} (hz : RB4 k zs) (hc : Bd k' c) (hk : k + k' ≤ 1000000) (hbig : zs.length ≤ 1000000) : PFn Tryd.prog 42 [RowA zs t, IntA c] (RowA (zs.map (c * ·)) false) := by
  have h := PFn.frozen fun H Q hq => rowsc_run (H := H) (Q := Q) (t := t) hz hc hk hbig hq
  rw [show RowA (zs.map (c * ·)) false = .seq zs.length (IC (zs.map (c * ·))) false by simp]; exact h
end
end Go.Proofs.YtanchgkiomfhhaaDoor.Fw

/- Rows of whole numbers: an answer is spoilt; the reference's rows put together. -/
namespace Go.Proofs.YtanchgkiomfhhaaDoor.Fw
set_option linter.unusedSimpArgs false
set_option linter.unusedVariables false
open Go Go.Proofs.YtanchgkiomfhhaaDoor.Ma
set_option maxRecDepth 20000

theorem stP_row {H : AHeap} {n b L off ty es : Nat} {cells l : List AV} {K : AV → AHeap → Prop} (hL : cells.length = L) (hl : l.length = n) (ho : off + n ≤ L) : stP H n b L off K (some l) (some (.row ty es cells)) ↔ K .bot (H.upd b (some (.row ty es (splice cells off l)))) := by
  simp [stP, hL, hl, ho]
theorem slc_seq0 {es : Nat} {K : AV → Prop} : slcW es (.seq 0 [] true) none (some (.int .i64 ((0 : Nat) : Int))) none K ↔ K (.seq 0 [] true) := by simp [slcW, optI]
def RowO (M : AHeap) (y : AV) (zs : List Int) : Prop := (zs = [] ∧ y = .seq 0 [] true) ∨ (0 < zs.length ∧ ∃ b, y = .own b (zs.length * 2) 0 zs.length false ∧ M b = some (.row 28 2 (IC zs)))
theorem RowO.of {H M : AHeap} {n : Nat} {y : AV} {zs : List Int} (h : growC H 28 2 n (IC zs) y M) (hn : zs.length = n) : RowO M y zs := by
  subst hn
  rcases h with ⟨h1, _, rfl, rfl⟩ | ⟨hn, _, b, hb, rfl, rfl⟩
  · exact .inl ⟨List.length_eq_zero_iff.1 h1, rfl⟩
  · exact .inr ⟨hn, b, rfl, upd_same _ _ _⟩
theorem RowO.le {M M' : AHeap} {y : AV} {zs : List Int} (h : RowO M y zs) (hl : Le M M') : RowO M' y zs := by
  rcases h with h | ⟨hn, b, e, hb⟩
  · exact .inl h
  · exact .inr ⟨hn, b, e, hl _ _ hb⟩
theorem RowO.lent {M : AHeap} {y : AV} {zs : List Int} (h : RowO M y zs) : Lent M y (RowA zs false) := by
  rcases h with ⟨rfl, rfl⟩ | ⟨hn, b, rfl, hb⟩
  · intro c _ _ v he
    exact enc_loose _ _ (he.later (c.dropTo_later le_nil))
  · exact Lent.own hb (IC_len zs)
theorem RowO.len {M : AHeap} {y : AV} {zs : List Int} (h : RowO M y zs) (hn : zs.length < 9223372036854775808) {K : AV → Prop} : lenW false y K = K (.int .i64 ((zs.length : Nat) : Int)) := by
  rcases h with ⟨rfl, rfl⟩ | ⟨h0, b, rfl, hb⟩ <;> simp [lenW, hn]
theorem own4_run {M : AHeap} {y : AV} {zs ps : List Int} {t t' : Bool} {k : Nat} {Q : AV → AHeap → Prop} (h : RowO M y zs) (hp : RB4 k ps) (hk : k ≤ 1000000)
    (hq : ∀ M', (∀ o x, M o = some x → (∀ cells, y = .own o (zs.length * 2) 0 zs.length false → x = .row 28 2 cells → False) → M' o = some x) → Q (.bool true) M') : Run Tryd.prog 46 [y, RowA ps t, RefR ps t'] M Q := by
  rcases h with ⟨rfl, rfl⟩ | ⟨hn, b, rfl, hb⟩
  · refine enter46 (by simp) ?_
    simp (disch := first | assumption | (apply Ap.symm; assumption) | omega | decide | (simp only [Xd] <;> omega)) only [ac46, slc_seq0, len_rw, ↓Xa, Xb, Xc, ↓reduceIte, Nat.reduceLT, Nat.reduceEqDiff, Nat.reduceBEq, Nat.reduceLeDiff, Nat.reduceAdd, Nat.reduceMul]
    refine ⟨by decide, ?_⟩
    refine W_loop (fun s : Unit => ⟨[], [(0, .seq 0 [] true), (1, RowA ps t), (2, RefR ps t'), (7, .int .i64 ((0 : Nat) : Int))], M⟩) (fun _ => True) (fun _ => 0) () (Settle.now rfl) trivial ?_
    rintro ⟨⟩ _
    simp (disch := first | assumption | (apply Ap.symm; assumption) | omega | decide | (simp only [Xd] <;> omega)) only [len_rw, ↓Xa, Xb, Xc, ↓reduceIte, Nat.reduceLT, Nat.reduceEqDiff, Nat.reduceBEq, Nat.reduceLeDiff, Nat.reduceAdd, Nat.reduceMul]
    refine Settle.now ?_
    simp (disch := first | assumption | (apply Ap.symm; assumption) | omega | decide | (simp only [Xd] <;> omega)) only [↓Xa, Xb, Xc, ↓reduceIte, Nat.reduceLT, Nat.reduceEqDiff, Nat.reduceBEq, Nat.reduceLeDiff, Nat.reduceAdd, Nat.reduceMul]
    refine (is4_fn hp hk).call ?_
    simp (disch := first | assumption | (apply Ap.symm; assumption) | omega | decide | (simp only [Xd] <;> omega)) only [rs46, ↓Xa, Xb, Xc, ↓reduceIte, Nat.reduceLT, Nat.reduceEqDiff, Nat.reduceBEq, Nat.reduceLeDiff, Nat.reduceAdd, Nat.reduceMul]
    exact SetR.now (hq M fun o x ho _ => ho)
  · refine Run.expose hb (IC_len zs) ⟨_, Tryd.func46, by kernel_rfl, by kernel_rfl⟩ fun m hm hm2 => ?_
    refine enter46 (by simp) ?_
    simp (disch := first | assumption | (apply Ap.symm; assumption) | omega | decide | (simp only [Xd] <;> omega)) only [ac46, ↓Xa, Xb, Xc, ↓reduceIte, Nat.reduceLT, Nat.reduceEqDiff, Nat.reduceBEq, Nat.reduceLeDiff, Nat.reduceAdd, Nat.reduceMul]
    refine W_loop (fun s : Nat × List AV => ⟨[], [(0, .own b (m * 2) 0 m true), (1, RowA ps t), (2, RefR ps t'), (7, .int .i64 s.1)], M.upd b (some (.row 28 2 s.2))⟩) (fun s => s.1 ≤ m ∧ s.2.length = m * 2) (fun s => m - s.1) (0, _) (Settle.now rfl) ⟨Nat.zero_le _, ?_⟩ ?_
    · rw [List.length_append, List.length_replicate, IC_len, ← Nat.add_mul]; congr 1; omega
    rintro ⟨i, cells⟩ ⟨h1, h2⟩
    dsimp only at h1 h2 ⊢
    have hlen : ∀ {K : AV → Prop}, lenW false (.own b (m * 2) 0 m true) K = K (.int .i64 ((m : Nat) : Int)) := fun {K} => by simp [lenW, hm2]
    by_cases hi : i < m
    · have e1 : ∀ {k : IntKind} {K : AV → Prop}, (liveS (M.upd b (some (.row 28 2 cells))) (.own b (m * 2) 0 m true) ∧ idxAW 2 (.own b (m * 2) 0 m true) (.int k (i : Int)) K) ↔ K (.ptr b (m * 2) (i * 2)) := fun {k K} => by simp [liveS, idxAW, upd_same, h2, hi]
      simp (disch := first | assumption | (apply Ap.symm; assumption) | omega | decide | (simp only [Xd] <;> omega)) only [hi, hlen, ↓Xa, Xb, Xc, ↓reduceIte, Nat.reduceLT, Nat.reduceEqDiff, Nat.reduceBEq, Nat.reduceLeDiff, Nat.reduceAdd, Nat.reduceMul]
      refine (of_fn (n := ((987654321 : Nat) : Int)) (by omega)).call ?_
      simp (disch := first | assumption | (apply Ap.symm; assumption) | omega | decide | (simp only [Xd] <;> omega)) only [e1, ↓Xa, Xb, Xc, ↓reduceIte, Nat.reduceLT, Nat.reduceEqDiff, Nat.reduceBEq, Nat.reduceLeDiff, Nat.reduceAdd, Nat.reduceMul]
      simp (disch := first | assumption | (apply Ap.symm; assumption) | omega | decide | (simp only [Xd] <;> omega)) only [cells_IntA, stP_row, h2, List.length_cons, List.length_nil, ↓Xa, Xb, Xc, ↓reduceIte, Nat.reduceLT, Nat.reduceEqDiff, Nat.reduceBEq, Nat.reduceLeDiff, Nat.reduceAdd, Nat.reduceMul]
      refine Settle.now ⟨(i + 1, _), by dsimp only; omega, ⟨by dsimp only; omega, ?_⟩, rfl⟩
      simp only [List.length_append, List.length_take, List.length_drop, List.length_cons, List.length_nil]; omega
    · simp (disch := first | assumption | (apply Ap.symm; assumption) | omega | decide | (simp only [Xd] <;> omega)) only [hi, hlen, ↓Xa, Xb, Xc, ↓reduceIte, Nat.reduceLT, Nat.reduceEqDiff, Nat.reduceBEq, Nat.reduceLeDiff, Nat.reduceAdd, Nat.reduceMul]
      refine Settle.now ?_
      simp (disch := first | assumption | (apply Ap.symm; assumption) | omega | decide | (simp only [Xd] <;> omega)) only [↓Xa, Xb, Xc, ↓reduceIte, Nat.reduceLT, Nat.reduceEqDiff, Nat.reduceBEq, Nat.reduceLeDiff, Nat.reduceAdd, Nat.reduceMul]
      refine (is4_fn hp hk).call ?_
      simp (disch := first | assumption | (apply Ap.symm; assumption) | omega | decide | (simp only [Xd] <;> omega)) only [rs46, ↓Xa, Xb, Xc, ↓reduceIte, Nat.reduceLT, Nat.reduceEqDiff, Nat.reduceBEq, Nat.reduceLeDiff, Nat.reduceAdd, Nat.reduceMul]
      refine SetR.now (hq _ fun o x ho hne => ?_)
      by_cases e : o = b
      · subst e; rw [hb] at ho; injection ho with ho; exact (hne _ rfl ho.symm).elim
      · rw [upd_other _ _ e]; exact ho
end Go.Proofs.YtanchgkiomfhhaaDoor.Fw

/- The reference's rows put together. -/
namespace Go.Proofs.YtanchgkiomfhhaaDoor.Fw
set_option linter.unusedSimpArgs false
set_option linter.unusedVariables false
open Go Go.Proofs.YtanchgkiomfhhaaDoor.Ma
set_option maxRecDepth 20000

section
variable {zs ws : List Int} {t t' : Bool} {k : Nat}
end
end Go.Proofs.YtanchgkiomfhhaaDoor.Fw

/- Rows of noughts, with a one. -/
namespace Go.Proofs.YtanchgkiomfhhaaDoor.Fw
set_option linter.unusedSimpArgs false
set_option linter.unusedVariables false
open Go Go.Proofs.YtanchgkiomfhhaaDoor.Ma
set_option maxRecDepth 20000

theorem repI (n : Nat) : repA [.bool false, .seq 0 [] true] (n * 2) = IC (List.replicate n 0) := by
  induction n with
  | zero => simp [repA, IC]
  | succ n ih =>
    have e1 : n * 2 % 2 = 0 := by omega
    have e2 : (n * 2 + 1) % 2 = 1 := by omega
    rw [List.replicate_succ', IC_snoc, ← ih, show (n + 1) * 2 = n * 2 + 1 + 1 by omega]
    simp only [repA, List.range_succ, List.map_append, List.map_cons, List.map_nil, List.length_cons, List.length_nil, e1, e2]
    simp [IntB, IntD, digs_zero, LS, U, e1, e2]
theorem mks_I {H : AHeap} {ty n : Nat} {K : AV → AHeap → Prop} (h : n ≤ 100000) : mksW H ty 2 32 [.bool false, .seq 0 [] true] (.int .i64 (n : Int)) (.int .i64 (n : Int)) K ↔ ∀ b, H b = none → K (.own b (n * 2) 0 n true) (H.upd b (some (.row ty 2 (IC (List.replicate n 0))))) := by
  have h1 : (32 : Int) * n ≤ 281474976710656 := by omega
  have h2 : (n : Int) < 9223372036854775808 := by omega
  simp [mksW, h1, h2, repI]
end Go.Proofs.YtanchgkiomfhhaaDoor.Fw

/- The law of rows of noughts, of small numbers: true. -/
namespace Go.Proofs.YtanchgkiomfhhaaDoor.Fw
set_option linter.unusedSimpArgs false
set_option linter.unusedVariables false
open Go Go.Proofs.YtanchgkiomfhhaaDoor.Ma
set_option maxRecDepth 20000

end Go.Proofs.YtanchgkiomfhhaaDoor.Fw

/- The law of rows put together: true. -/
namespace Go.Proofs.YtanchgkiomfhhaaDoor.Fw
set_option linter.unusedSimpArgs false
set_option linter.unusedVariables false
open Go Go.Proofs.YtanchgkiomfhhaaDoor.Ma
set_option maxRecDepth 20000

def minB (M : AHeap) (y : AV) : AHeap := fun o => if o ∈ blkOf y then none else M o
theorem RowO.blk {M : AHeap} {y : AV} {zs : List Int} (h : RowO M y zs) {b : Nat} (hb : b ∈ blkOf y) : M b ≠ none := by
  rcases h with ⟨_, rfl⟩ | ⟨_, c, rfl, hc⟩
  · simp [blkOf] at hb
  · rw [List.mem_singleton.1 hb, hc]; simp
theorem growC_blk {H M : AHeap} {ty es n : Nat} {cells : List AV} {y : AV} (h : growC H ty es n cells y M) {b : Nat} (hb : b ∈ blkOf y) : H b = none := by
  rcases h with ⟨_, _, rfl, _⟩ | ⟨_, _, c, hc, rfl, _⟩
  · simp [blkOf] at hb
  · rw [List.mem_singleton.1 hb]; exact hc
theorem le_minB {A M : AHeap} {y : AV} (h : Le A M) (hy : ∀ b, b ∈ blkOf y → A b = none) : Le A (minB M y) := fun o x ho => by
  unfold minB
  rw [if_neg fun hb => by rw [hy o hb] at ho; cases ho]
  exact h o x ho
theorem RowO.min {M : AHeap} {y z : AV} {zs : List Int} (h : RowO M y zs) (ha : ∀ b, b ∈ blkOf z → b ∉ blkOf y) : RowO (minB M z) y zs := by
  rcases h with h | ⟨hn, b, rfl, hb⟩
  · exact .inl h
  · refine .inr ⟨hn, b, rfl, ?_⟩
    unfold minB
    rw [if_neg fun hz => ha b hz (by simp [blkOf])]; exact hb
theorem own5_run {M : AHeap} {y : AV} {zs ps : List Int} {t t' : Bool} {k : Nat} {Q : AV → AHeap → Prop} (h : RowO M y zs) (hp : RB4 k ps) (hk : k ≤ 1000000) (hq : ∀ M', Le (minB M y) M' → Q (.bool true) M') : Run Tryd.prog 46 [y, RowA ps t, RefR ps t'] M Q :=
  own4_run h hp hk fun M' hM => hq M' fun o x ho => by
    unfold minB at ho
    split at ho
    · cases ho
    · rename_i hno
      refine hM o x ho fun cells e _ => hno (by rw [e]; simp [blkOf])
theorem dcall_lend {P : Program} {f : FuncId} {args args' : List AV} {r : AV} {o : Bool} {H : AHeap} {K : AV → List Nat → Option (Nat × ABlk) → Prop} (h : PFn P f args' r) (hr : scal r = true) (rd : List Nat) (hx : ∀ H', (∀ q, q ∈ rd → H' q = H q) → LentL H' args args') (k : K r rd none) : dcall o P (.fn (.func f) [] []) args H K :=
  .inl ⟨r, rd, fun H' e => run_call (h.lend hr (hx H' e) ⟨rfl, rfl⟩), k⟩
theorem RowO.lentD {M : AHeap} {y : AV} {zs : List Int} (h : RowO M y zs) (H' : AHeap) (e : ∀ q, q ∈ blkOf y → H' q = M q) : Lent H' y (RowA zs false) := by
  refine RowO.lent ?_
  rcases h with h | ⟨hn, b, rfl, hb⟩
  · exact .inl h
  · exact .inr ⟨hn, b, rfl, (e b (by simp [blkOf])).trans hb⟩
theorem dcall_row {P : Program} {f : FuncId} {args : List AV} {zs : List Int} {H : AHeap} {K : AV → List Nat → Option (Nat × ABlk) → Prop} (ho : ownCall (.k (.fn (.func f) [] [])) = true) (h : ∀ (H' : AHeap) (Q : AV → AHeap → Prop), (∀ y M, growC H' 28 2 zs.length (IC zs) y M → Q y M) → Run P f args H' Q)
    (k0 : zs = [] → K (.seq 0 [] true) [] none) (k1 : 0 < zs.length → ∀ b, H b = none → K (.own b (zs.length * 2) 0 zs.length false) [] (some (b, .row 28 2 (IC zs)))) : dcall (ownCall (.k (.fn (.func f) [] []))) P (.fn (.func f) [] []) args H K := by
  by_cases hz : zs = []
  · refine .inl ⟨_, [], fun H' _ => run_call (h H' _ fun y M hg => ?_), k0 hz⟩
    rcases hg with ⟨_, _, rfl, rfl⟩ | ⟨hn, _⟩
    · exact ⟨rfl, rfl⟩
    · subst hz; simp at hn
  · have hpos : 0 < zs.length := List.length_pos_iff.2 hz
    refine dcall_own ho (IC_len zs) (fun H' Q hq => h H' Q fun y M hg => ?_) (k1 hpos)
    rcases hg with ⟨h0, _⟩ | ⟨_, _, b, hb, rfl, rfl⟩
    · omega
    · exact hq b hb
end Go.Proofs.YtanchgkiomfhhaaDoor.Fw

/- Rows divided: the primitive row, one's own; the reference's quotients, content, primitive row. -/
namespace Go.Proofs.YtanchgkiomfhhaaDoor.Fw
set_option linter.unusedSimpArgs false
set_option linter.unusedVariables false
open Go Go.Proofs.YtanchgkiomfhhaaDoor.Ma
set_option maxRecDepth 20000

theorem rowprimO_run {H : AHeap} {Q : AV → AHeap → Prop} {zs : List Int} {t : Bool} {k : Nat} (hz : RB4 k zs) (hk : k ≤ 1000000) (hk2 : 2 ≤ k) (hbig : zs.length ≤ 1000000)
    (hq : ∀ y M, growC H 28 2 zs.length (IC (primR zs)) y M → Q (.tup [y, IntA (primG zs)]) M) : Run Tryd.prog 117 [RowA zs t] H Q := by
  by_cases hc0 : contN zs = 0
  rotate_left
  · exact rowprim_run hz hk hk2 hbig (fun _ y M hg => hq y M hg) fun h => absurd h hc0
  have nz : zs.length < 9223372036854775808 := by omega
  have hall := (contN_zero zs).1 hc0
  have hg0 : primG zs = 0 := by have := primG_abs zs; omega
  have hR : primR zs = zs := by
    unfold primR
    conv => rhs; rw [← List.map_id zs]
    refine List.map_congr_left fun z hm => ?_
    rw [hall z hm]; simp
  rw [hR, hg0] at hq
  have hcf := rowcont_fn (t := t) hz hk hk2
  rw [hc0] at hcf
  refine enter117 (by simp) ?_
  simp (disch := first | assumption | (apply Ap.symm; assumption) | omega | decide | (simp only [Xd] <;> omega)) only [ac117, ↓Xa, Xb, Xc, ↓reduceIte, Nat.reduceLT, Nat.reduceEqDiff, Nat.reduceBEq, Nat.reduceLeDiff, Nat.reduceAdd, Nat.reduceMul]
  refine alloc_i fun p1 hp1 => ?_
  have n1 := hp1
  simp (disch := first | assumption | (apply Ap.symm; assumption) | omega | decide | (simp only [Xd] <;> omega)) only [↓Xa, Xb, Xc, ↓reduceIte, Nat.reduceLT, Nat.reduceEqDiff, Nat.reduceBEq, Nat.reduceLeDiff, Nat.reduceAdd, Nat.reduceMul]
  refine hcf.call ?_
  simp (disch := first | assumption | (apply Ap.symm; assumption) | omega | decide | (simp only [Xd] <;> omega)) only [↓Xa, Xb, Xc, ↓reduceIte, Nat.reduceLT, Nat.reduceEqDiff, Nat.reduceBEq, Nat.reduceLeDiff, Nat.reduceAdd, Nat.reduceMul]
  refine alloc_i fun p2 hp2 => ?_
  have n2 := hp2
  simp only [upd_none] at n2
  obtain ⟨_, n2⟩ := n2
  simp (disch := first | assumption | (apply Ap.symm; assumption) | omega | decide | (simp only [Xd] <;> omega)) only [cells_IntA, len_rw, ↓Xa, Xb, Xc, ↓reduceIte, Nat.reduceLT, Nat.reduceEqDiff, Nat.reduceBEq, Nat.reduceLeDiff, Nat.reduceAdd, Nat.reduceMul]
  refine W_loop (fun s : Nat => ⟨[], [(0, RowA zs t), (3, .ptr p1 2 0), (4, .ptr p2 2 0), (11, RowA zs t), (12, .int .i64 (zs.length : Int)), (13, .int .i64 s)], (H.upd p1 (some (.row 28 0 [.bool false, .seq 0 [] true]))).upd p2 (some (.row 28 0 [IntB ((0 : Nat) : Int), IntD ((0 : Nat) : Int)]))⟩)
    (fun s => s ≤ zs.length) (fun s => zs.length - s) 0 (Settle.now rfl) (Nat.zero_le _) ?_
  rintro i h3
  by_cases hi : i < zs.length
  · have hs : decide (sgnI (zs[i]) = ((0 : Nat) : Int)) = true := by rw [hall _ (List.getElem_mem hi)]; decide
    simp (disch := first | assumption | (apply Ap.symm; assumption) | omega | decide | (simp only [Xd] <;> omega)) only [hi, idx_IC, load_IC, ↓Xa, Xb, Xc, ↓reduceIte, Nat.reduceLT, Nat.reduceEqDiff, Nat.reduceBEq, Nat.reduceLeDiff, Nat.reduceAdd, Nat.reduceMul]
    refine alloc_i fun p3 hp3 => ?_
    have n3 := hp3
    simp only [upd_none] at n3
    obtain ⟨_, _, n3⟩ := n3
    simp (disch := first | assumption | (apply Ap.symm; assumption) | omega | decide | (simp only [Xd] <;> omega)) only [cells_IntA, fold_IntA, ↓Xa, Xb, Xc, ↓reduceIte, Nat.reduceLT, Nat.reduceEqDiff, Nat.reduceBEq, Nat.reduceLeDiff, Nat.reduceAdd, Nat.reduceMul]
    refine (sign_fn (hz.at hi) (by omega)).call ?_
    simp (disch := first | assumption | (apply Ap.symm; assumption) | omega | decide | (simp only [Xd] <;> omega)) only [eql_int, hs, ↓Xa, Xb, Xc, ↓reduceIte, Nat.reduceLT, Nat.reduceEqDiff, Nat.reduceBEq, Nat.reduceLeDiff, Nat.reduceAdd, Nat.reduceMul]
    refine Settle.dropTo ((Le.refl _).updB (upd_none.2 ⟨by assumption, upd_none.2 ⟨by assumption, n3⟩⟩)) ?_
    exact Settle.now ⟨i + 1, by omega, by omega, rfl⟩
  · simp (disch := first | assumption | (apply Ap.symm; assumption) | omega | decide | (simp only [Xd] <;> omega)) only [hi, ↓Xa, Xb, Xc, ↓reduceIte, Nat.reduceLT, Nat.reduceEqDiff, Nat.reduceBEq, Nat.reduceLeDiff, Nat.reduceAdd, Nat.reduceMul]
    refine Settle.now ?_
    simp (disch := first | assumption | (apply Ap.symm; assumption) | omega | decide | (simp only [Xd] <;> omega)) only [↓Xa, Xb, Xc, ↓reduceIte, Nat.reduceLT, Nat.reduceEqDiff, Nat.reduceBEq, Nat.reduceLeDiff, Nat.reduceAdd, Nat.reduceMul]
    refine dcall_row (zs := zs) rfl (fun H' Q' hq' => each_pure hz rfl hbig (fun i h M K _ hK => id1_fn.call hK) hq') (fun h0 => ?_) fun hpos b hb => ?_
    · subst h0
      simp (disch := first | assumption | (apply Ap.symm; assumption) | omega | decide | (simp only [Xd] <;> omega)) only [cells_IntA, fold_IntA, rs117, ↓Xa, Xb, Xc, ↓reduceIte, Nat.reduceLT, Nat.reduceEqDiff, Nat.reduceBEq, Nat.reduceLeDiff, Nat.reduceAdd, Nat.reduceMul]
      exact SetR.dropTo (((Le.refl H).updB n1).updB n2) (SetR.now (hq _ _ growC_nil))
    · have hb' := hb
      simp only [upd_none] at hb'
      obtain ⟨b1, b2, b3⟩ := hb'
      simp (disch := first | assumption | (apply Ap.symm; assumption) | omega | decide | (simp only [Xd] <;> omega)) only [cells_IntA, fold_IntA, rs117, ↓Xa, Xb, Xc, ↓reduceIte, Nat.reduceLT, Nat.reduceEqDiff, Nat.reduceBEq, Nat.reduceLeDiff, Nat.reduceAdd, Nat.reduceMul]
      refine SetR.dropTo ?_ (SetR.now (hq _ (H.upd b (some (.row 28 2 (IC zs)))) (.inr ⟨hpos, IC_len zs, b, b3, rfl, rfl⟩)))
      intro o x ho
      by_cases e : o = b
      · subst e; rw [upd_same] at ho ⊢; exact ho
      · rw [upd_other _ _ e] at ho ⊢
        exact (((Le.refl H).updB n1).updB n2) o x ho

/-! ### the reference -/
def RCt (t : Bool) (zs : List Int) : List AV := zs.flatMap fun z => [RefB z, LS (digs 65536 z.natAbs) t]
theorem RCt_len (t : Bool) (zs : List Int) : (RCt t zs).length = zs.length * 2 := by
  induction zs with
  | nil => rfl
  | cons a l ih => simp only [RCt, List.flatMap_cons, List.length_append, List.length_cons, List.length_nil] at *; omega
theorem RCt_drop (t : Bool) : ∀ (l : List Int) (i : Nat) (h : i < l.length), (RCt t l).drop (i * 2) = RefB (l[i]) :: LS (digs 65536 (l[i]).natAbs) t :: (RCt t l).drop (i * 2 + 2)
  | a :: l, 0, _ => rfl
  | a :: l, i + 1, h => by
    have := RCt_drop t l i (by simpa using h)
    rw [show (i + 1) * 2 = i * 2 + 2 by omega]
    show ((RefB a :: LS (digs 65536 a.natAbs) t :: RCt t l).drop (i * 2 + 2)) = _
    simp only [List.drop_succ_cons, List.getElem_cons_succ]
    rw [this]
    show _ = _ :: _ :: ((RefB a :: LS (digs 65536 a.natAbs) t :: RCt t l).drop (i * 2 + 2 + 2))
    simp only [List.drop_succ_cons]
theorem idx_RCt {K : AV → Prop} {k : IntKind} {t t2 : Bool} {zs : List Int} {i : Nat} (h : i < zs.length) : idxAW 2 (.seq zs.length (RCt t2 zs) t) (.int k (i : Int)) K = K (.cptr ((RCt t2 zs).drop (i * 2))) := idx_rw (RCt_len t2 zs) h
theorem load_RCt {H : AHeap} {K : AV → Prop} {t2 : Bool} {zs : List Int} {i : Nat} (h : i < zs.length) : loadW H (some 2) (.cptr ((RCt t2 zs).drop (i * 2))) K = K (RefA (zs[i]) t2) := by
  simp only [loadW, cellsAt, RCt_drop t2 zs i h]; simp [RefA, RefB]
theorem is4t_fn {zs : List Int} {k : Nat} {t t' : Bool} (t2 : Bool) (hz : RB4 k zs) (hk : k ≤ 1000000) : PFn Tryd.prog 43 [RowA zs t, .seq zs.length (RCt t2 zs) t'] (.bool true) := by
  intro H Q hq
  have nz : zs.length < 9223372036854775808 := by have := hz.2; omega
  have hne : decide (((zs.length : Nat) : Int) = ((zs.length : Nat) : Int)) = true := decide_eq_true rfl
  refine enter43 (by simp) ?_
  simp (disch := first | assumption | (apply Ap.symm; assumption) | omega | decide | (simp only [Xd] <;> omega)) only [ac43, len_rw, neq_int, hne, ↓Xa, Xb, Xc, ↓reduceIte, Nat.reduceLT, Nat.reduceEqDiff, Nat.reduceBEq, Nat.reduceLeDiff, Nat.reduceAdd, Nat.reduceMul]
  refine W_loop (fun s : Nat => ⟨[], [(0, RowA zs t), (1, .seq zs.length (RCt t2 zs) t'), (5, .int .i64 s)], H⟩) (fun s => s ≤ zs.length) (fun s => zs.length - s) 0 (Settle.now rfl) (Nat.zero_le _) ?_
  rintro i h3
  by_cases hi : i < zs.length
  · simp (disch := first | assumption | (apply Ap.symm; assumption) | omega | decide | (simp only [Xd] <;> omega)) only [hi, len_rw, idx_IC, load_IC, idx_RCt, load_RCt, ↓Xa, Xb, Xc, ↓reduceIte, Nat.reduceLT, Nat.reduceEqDiff, Nat.reduceBEq, Nat.reduceLeDiff, Nat.reduceAdd, Nat.reduceMul]
    refine (one4_fn t2 (hz.at hi) hk).call ?_
    simp (disch := first | assumption | (apply Ap.symm; assumption) | omega | decide | (simp only [Xd] <;> omega)) only [↓Xa, Xb, Xc, ↓reduceIte, Nat.reduceLT, Nat.reduceEqDiff, Nat.reduceBEq, Nat.reduceLeDiff, Nat.reduceAdd, Nat.reduceMul]
    exact Settle.now ⟨i + 1, by omega, by omega, rfl⟩
  · simp (disch := first | assumption | (apply Ap.symm; assumption) | omega | decide | (simp only [Xd] <;> omega)) only [hi, len_rw, ↓Xa, Xb, Xc, ↓reduceIte, Nat.reduceLT, Nat.reduceEqDiff, Nat.reduceBEq, Nat.reduceLeDiff, Nat.reduceAdd, Nat.reduceMul]
    refine Settle.now ?_
    simp (disch := first | assumption | (apply Ap.symm; assumption) | omega | decide | (simp only [Xd] <;> omega)) only [rs43, ↓Xa, Xb, Xc, ↓reduceIte, Nat.reduceLT, Nat.reduceEqDiff, Nat.reduceBEq, Nat.reduceLeDiff, Nat.reduceAdd, Nat.reduceMul]
    exact SetR.now hq
theorem fcont_fn {zs : List Int} {t : Bool} {k : Nat} (hz : RB4 k zs) (hk : k ≤ 1000000) : PFn Tryd.prog 115 [RefR zs t] (RefA ((contN zs : Nat) : Int) (decide (zs.length = 0))) := by
  intro H Q hq
  have nz : zs.length < 9223372036854775808 := by have := hz.2; omega
  refine enter115 (by simp) ?_
  simp (disch := first | assumption | (apply Ap.symm; assumption) | omega | decide | (simp only [Xd] <;> omega)) only [ac115, ↓Xa, Xb, Xc, ↓reduceIte, Nat.reduceLT, Nat.reduceEqDiff, Nat.reduceBEq, Nat.reduceLeDiff, Nat.reduceAdd, Nat.reduceMul]
  refine alloc_i fun p1 hp1 => ?_
  have n1 := hp1
  simp (disch := first | assumption | (apply Ap.symm; assumption) | omega | decide | (simp only [Xd] <;> omega)) only [↓Xa, Xb, Xc, ↓reduceIte, Nat.reduceLT, Nat.reduceEqDiff, Nat.reduceBEq, Nat.reduceLeDiff, Nat.reduceAdd, Nat.reduceMul]
  refine alloc_i fun p2 hp2 => ?_
  have n2 := hp2
  simp only [upd_none] at n2
  obtain ⟨_, n2⟩ := n2
  simp (disch := first | assumption | (apply Ap.symm; assumption) | omega | decide | (simp only [Xd] <;> omega)) only [↓Xa, Xb, Xc, ↓reduceIte, Nat.reduceLT, Nat.reduceEqDiff, Nat.reduceBEq, Nat.reduceLeDiff, Nat.reduceAdd, Nat.reduceMul]
  refine W_loop (fun s : Nat × Nat => ⟨[], [(0, RefR zs t), (2, .ptr p1 2 0), (3, .ptr p2 2 0), (4, .int .i64 s.1)], (H.upd p1 (some (.row 39 0 [.bool false, .seq 0 [] true]))).upd p2 (some (.row 39 0 [RefB ((s.2 : Nat) : Int), LS (digs 65536 ((s.2 : Nat) : Int).natAbs) (decide (s.1 = 0))]))⟩)
    (fun s => s.1 ≤ zs.length ∧ Bd k (s.2 : Int) ∧ gcdF s.2 (zs.drop s.1) = contN zs) (fun s => zs.length - s.1) (0, 0) (Settle.now (by simp [RefB, digs_zero, LS, U])) ⟨Nat.zero_le _, Bd.zero _, rfl⟩ ?_
  rintro ⟨i, g⟩ ⟨h3, hb, hc⟩
  dsimp only at h3 hb hc ⊢
  by_cases hi : i < zs.length
  · rw [List.drop_eq_getElem_cons hi, gcdF, List.foldl_cons] at hc
    have hb2 : Bd k ((Int.gcd (g : Int) (zs[i]) : Nat) : Int) := Bd.gcdF (zs := [zs[i]]) hb (fun z hz' => by rw [List.mem_singleton.1 hz']; exact hz.at hi)
    simp (disch := first | assumption | (apply Ap.symm; assumption) | omega | decide | (simp only [Xd] <;> omega)) only [hi, len_rw, idx_RC, load_RC, fold_RefT, ↓Xa, Xb, Xc, ↓reduceIte, Nat.reduceLT, Nat.reduceEqDiff, Nat.reduceBEq, Nat.reduceLeDiff, Nat.reduceAdd, Nat.reduceMul]
    refine (rgcdb_fn _ hb hk (hz.at hi)).call ?_
    simp (disch := first | assumption | (apply Ap.symm; assumption) | omega | decide | (simp only [Xd] <;> omega)) only [cells_RefA, ↓Xa, Xb, Xc, ↓reduceIte, Nat.reduceLT, Nat.reduceEqDiff, Nat.reduceBEq, Nat.reduceLeDiff, Nat.reduceAdd, Nat.reduceMul]
    refine Settle.now ⟨(i + 1, _), by dsimp only; omega, ⟨by dsimp only; omega, hb2, hc⟩, ?_⟩
    have hd : decide (i + 1 = 0) = false := by simp
    dsimp only
    rw [hd]; rfl
  · obtain rfl : i = zs.length := by omega
    rw [List.drop_eq_nil_of_le (by omega)] at hc
    have hc : g = contN zs := hc
    rw [← hc] at hq
    simp (disch := first | assumption | (apply Ap.symm; assumption) | omega | decide | (simp only [Xd] <;> omega)) only [hi, len_rw, ↓Xa, Xb, Xc, ↓reduceIte, Nat.reduceLT, Nat.reduceEqDiff, Nat.reduceBEq, Nat.reduceLeDiff, Nat.reduceAdd, Nat.reduceMul]
    refine Settle.now ?_
    simp (disch := first | assumption | (apply Ap.symm; assumption) | omega | decide | (simp only [Xd] <;> omega)) only [cells_RefT, fold_RefT, rs115, ↓Xa, Xb, Xc, ↓reduceIte, Nat.reduceLT, Nat.reduceEqDiff, Nat.reduceBEq, Nat.reduceLeDiff, Nat.reduceAdd, Nat.reduceMul]
    exact SetR.dropTo (((Le.refl H).updB n1).updB n2) (SetR.now hq)
theorem fover_fn {zs : List Int} {t : Bool} {c : Int} {k : Nat} (hz : RB4 k zs) (hc : Bd k c) (hk : k ≤ 1000000) (hc0 : c ≠ 0) (hbig : zs.length ≤ 1000000) :
    PFn Tryd.prog 120 [RefR zs t, RefA c false] (if (zs.all fun z => decide (z % c = 0)) = true then .tup [RefR (zs.map (· / c)) false, .bool true] else .tup [.seq 0 [] true, .bool false]) := by
  intro H Q hq
  have nz : zs.length < 9223372036854775808 := by omega
  refine enter120 (by simp) ?_
  simp (disch := first | assumption | (apply Ap.symm; assumption) | omega | decide | (simp only [Xd] <;> omega)) only [ac120, cells_RefA, ↓Xa, Xb, Xc, ↓reduceIte, Nat.reduceLT, Nat.reduceEqDiff, Nat.reduceBEq, Nat.reduceLeDiff, Nat.reduceAdd, Nat.reduceMul]
  refine alloc_i fun p1 hp1 => ?_
  have n1 := hp1
  simp (disch := first | assumption | (apply Ap.symm; assumption) | omega | decide | (simp only [Xd] <;> omega)) only [↓Xa, Xb, Xc, ↓reduceIte, Nat.reduceLT, Nat.reduceEqDiff, Nat.reduceBEq, Nat.reduceLeDiff, Nat.reduceAdd, Nat.reduceMul]
  refine W_loop (fun s : Nat × AV × AHeap => ⟨[], [(0, RefR zs t), (3, .ptr p1 2 0), (6, s.2.1), (7, .int .i64 s.1)], s.2.2⟩)
    (fun s => s.1 ≤ zs.length ∧ (∀ z, z ∈ zs.take s.1 → z % c = 0) ∧ growC (H.upd p1 (some (.row 39 0 [RefB c, RefD c]))) 39 2 s.1 (RC ((zs.map (· / c)).take s.1)) s.2.1 s.2.2) (fun s => zs.length - s.1) (0, .seq 0 [] true, _) (Settle.now rfl) ⟨Nat.zero_le _, by simp, growC_nil⟩ ?_
  rintro ⟨i, y, M⟩ ⟨h3, hall, hg⟩
  dsimp only at h3 hall hg ⊢
  have m1 : M p1 = some (.row 39 0 [RefB c, RefD c]) := growC_old hg (upd_same _ _ _)
  by_cases hi : i < zs.length
  · have hi2 : i < (zs.map (· / c)).length := by simpa using hi
    have hov := rover_fn (hz.at hi) (by omega) hc (by omega) hc0
    simp (disch := first | assumption | (apply Ap.symm; assumption) | omega | decide | (simp only [Xd] <;> omega)) only [hi, len_rw, idx_RC, load_RC, m1, fold_RefA, ↓Xa, Xb, Xc, ↓reduceIte, Nat.reduceLT, Nat.reduceEqDiff, Nat.reduceBEq, Nat.reduceLeDiff, Nat.reduceAdd, Nat.reduceMul]
    refine PFn.dcall hov ?_
    by_cases h0 : zs[i] % c = 0
    · rw [if_pos h0]
      simp (disch := first | assumption | (apply Ap.symm; assumption) | omega | decide | (simp only [Xd] <;> omega)) only [↓Xa, Xb, Xc, ↓reduceIte, Nat.reduceLT, Nat.reduceEqDiff, Nat.reduceBEq, Nat.reduceLeDiff, Nat.reduceAdd, Nat.reduceMul]
      refine dalloc_i fun q hq1 => ?_
      have a1 := ne_of_some m1 hq1
      have hg1 := growC_upd (r := .row 39 0 [RefB (zs[i] / c), RefD (zs[i] / c)]) hg hq1
      simp (disch := first | assumption | (apply Ap.symm; assumption) | omega | decide | (simp only [Xd] <;> omega)) only [repI1, cells_RefA, fold_RefA, ↓Xa, Xb, Xc, ↓reduceIte, Nat.reduceLT, Nat.reduceEqDiff, Nat.reduceBEq, Nat.reduceLeDiff, Nat.reduceAdd, Nat.reduceMul]
      refine app_C (m := 1) hg1 rfl cellR (by omega) (by omega) (by omega) fun y' M2 hg4 => ?_
      have et : (zs.map (· / c))[i] = zs[i] / c := by simp
      rw [← et, ← RC_take hi2] at hg4
      obtain ⟨M3, hg5, hl5⟩ := growC_le2 hg4 ((Le.refl _).updB (growC_none hg hq1))
      simp (disch := first | assumption | (apply Ap.symm; assumption) | omega | decide | (simp only [Xd] <;> omega)) only [↓Xa, Xb, Xc, ↓reduceIte, Nat.reduceLT, Nat.reduceEqDiff, Nat.reduceBEq, Nat.reduceLeDiff, Nat.reduceAdd, Nat.reduceMul]
      refine Settle.dropTo hl5 (Settle.now ⟨(i + 1, y', M3), by dsimp only; omega, ⟨by dsimp only; omega, fun z hm => ?_, hg5⟩, rfl⟩)
      dsimp only at hm
      rw [List.take_add_one, List.getElem?_eq_getElem hi, Option.toList_some] at hm
      rcases List.mem_append.1 hm with hm | hm
      · exact hall z hm
      · rw [List.mem_singleton.1 hm]; exact h0
    · rw [if_neg h0]
      have hno : (zs.all fun z => decide (z % c = 0)) = false := List.all_eq_false.2 ⟨zs[i], List.getElem_mem hi, by simpa using h0⟩
      rw [if_neg (by rw [hno]; simp)] at hq
      simp (disch := first | assumption | (apply Ap.symm; assumption) | omega | decide | (simp only [Xd] <;> omega)) only [↓Xa, Xb, Xc, ↓reduceIte, Nat.reduceLT, Nat.reduceEqDiff, Nat.reduceBEq, Nat.reduceLeDiff, Nat.reduceAdd, Nat.reduceMul]
      refine dalloc_i fun q hq1 => ?_
      have a1 := ne_of_some m1 hq1
      simp (disch := first | assumption | (apply Ap.symm; assumption) | omega | decide | (simp only [Xd] <;> omega)) only [cells_RefA, rs120, ↓Xa, Xb, Xc, ↓reduceIte, Nat.reduceLT, Nat.reduceEqDiff, Nat.reduceBEq, Nat.reduceLeDiff, Nat.reduceAdd, Nat.reduceMul]
      refine SetR.dropTo ?_ (SetR.now hq)
      have hH : Le H M := fun o x ho => growC_le hg o x (((Le.refl H).updB n1) o x ho)
      exact hH.upd hq1
  · obtain rfl : i = zs.length := by omega
    rw [List.take_of_length_le (by omega)] at hall
    rw [List.take_of_length_le (by simp)] at hg
    have hyes : (zs.all fun z => decide (z % c = 0)) = true := List.all_eq_true.2 fun z hm => decide_eq_true (hall z hm)
    rw [if_pos hyes] at hq
    simp (disch := first | assumption | (apply Ap.symm; assumption) | omega | decide | (simp only [Xd] <;> omega)) only [hi, len_rw, ↓Xa, Xb, Xc, ↓reduceIte, Nat.reduceLT, Nat.reduceEqDiff, Nat.reduceBEq, Nat.reduceLeDiff, Nat.reduceAdd, Nat.reduceMul]
    refine Settle.now ?_
    simp (disch := first | assumption | (apply Ap.symm; assumption) | omega | decide | (simp only [Xd] <;> omega)) only [rs120, ↓Xa, Xb, Xc, ↓reduceIte, Nat.reduceLT, Nat.reduceEqDiff, Nat.reduceBEq, Nat.reduceLeDiff, Nat.reduceAdd, Nat.reduceMul]
    obtain ⟨M3, hg5, hl5⟩ := growC_le2 hg ((Le.refl H).updB n1)
    refine SetR.dropTo hl5 ?_
    rw [show RefR (zs.map (· / c)) false = .seq zs.length (RC (zs.map (· / c))) false by simp] at hq
    rcases hg5 with ⟨h1, h2, rfl, rfl⟩ | ⟨hn, hl, b, hb, rfl, rfl⟩
    · rw [h1, h2] at hq
      exact SetR.loose (SetR.now hq)
    · refine SetR.frz b (upd_same _ _ _) ?_
      rw [upd_upd, upd_back _ hb]
      have e : frz b 2 (RC (zs.map (· / c))) (.tup [.own b (zs.length * 2) 0 zs.length false, .bool true]) = .tup [.seq zs.length (RC (zs.map (· / c))) false, .bool true] := by simp [frz, frz2, frz1, hl, List.take_of_length_le]
      rw [e]; exact SetR.now hq
end Go.Proofs.YtanchgkiomfhhaaDoor.Fw

/- The law of rows divided: true. -/
namespace Go.Proofs.YtanchgkiomfhhaaDoor.Fw
set_option linter.unusedSimpArgs false
set_option linter.unusedVariables false
open Go Go.Proofs.YtanchgkiomfhhaaDoor.Ma
set_option maxRecDepth 20000

theorem dlen_rw {n : Nat} {c : List AV} {t : Bool} {KD : AV → List Nat → Option (Nat × ABlk) → Prop} (h : n < 9223372036854775808) : dlen KD false (.seq n c t) ↔ KD (.int .i64 ((n : Nat) : Int)) [] none := by simp [dlen, h]
theorem repC (n : Nat) : IC (List.replicate n 0) = RCt true (List.replicate n 0) := by
  induction n with
  | zero => rfl
  | succ n ih =>
    rw [List.replicate_succ]
    show IntB 0 :: IntD 0 :: IC (List.replicate n 0) = RefB 0 :: LS (digs 65536 (0 : Int).natAbs) true :: RCt true (List.replicate n 0)
    rw [ih]
    simp [IntB, IntD, RefB, digs_zero, LS, U]
theorem fzero_fn {n : Nat} (h : n ≤ 100000) : PFn Tryd.prog 184 [.int .i64 (n : Int)] (.seq n (RCt true (List.replicate n 0)) true) := by
  intro H Q hq
  have hl : (IC (List.replicate n 0)).length = n * 2 := by rw [IC_len]; simp
  refine enter184 (by simp) ?_
  simp (disch := first | assumption | (apply Ap.symm; assumption) | omega | decide | (simp only [Xd] <;> omega)) only [ac184, mks_I, ↓Xa, Xb, Xc, ↓reduceIte, Nat.reduceLT, Nat.reduceEqDiff, Nat.reduceBEq, Nat.reduceLeDiff, Nat.reduceAdd, Nat.reduceMul]
  intro b hb
  simp (disch := first | assumption | (apply Ap.symm; assumption) | omega | decide | (simp only [Xd] <;> omega)) only [rs184, ↓Xa, Xb, Xc, ↓reduceIte, Nat.reduceLT, Nat.reduceEqDiff, Nat.reduceBEq, Nat.reduceLeDiff, Nat.reduceAdd, Nat.reduceMul]
  refine SetR.frz b (upd_same _ _ _) ?_
  rw [upd_upd, upd_back _ hb]
  have e : frz b 2 (IC (List.replicate n 0)) (.own b (n * 2) 0 n true) = .seq n (RCt true (List.replicate n 0)) true := by
    rw [← repC]; simp [frz, frz2, frz1, hl, List.take_of_length_le]
  rw [e]; exact SetR.now hq
theorem fprim0_fn {zs : List Int} {t : Bool} {k : Nat} (hz : RB4 k zs) (hk : k ≤ 1000000) (hbig : zs.length ≤ 100000) (hc0 : contN zs = 0) :
    PFn Tryd.prog 116 [RefR zs t] (.tup [.seq zs.length (RCt true zs) true, RefA 0 (decide (zs.length = 0))]) := by
  intro H Q hq
  have nz : zs.length < 9223372036854775808 := by omega
  have hall := (contN_zero zs).1 hc0
  have hrep : List.replicate zs.length 0 = zs := (List.eq_replicate_iff.2 ⟨rfl, hall⟩).symm
  have hfz := fzero_fn hbig
  rw [hrep] at hfz
  have hcf := fcont_fn (t := t) hz hk
  rw [hc0] at hcf
  refine enter116 (by simp) ?_
  simp (disch := first | assumption | (apply Ap.symm; assumption) | omega | decide | (simp only [Xd] <;> omega)) only [ac116, ↓Xa, Xb, Xc, ↓reduceIte, Nat.reduceLT, Nat.reduceEqDiff, Nat.reduceBEq, Nat.reduceLeDiff, Nat.reduceAdd, Nat.reduceMul]
  refine alloc_i fun p1 hp1 => ?_
  have n1 := hp1
  simp (disch := first | assumption | (apply Ap.symm; assumption) | omega | decide | (simp only [Xd] <;> omega)) only [↓Xa, Xb, Xc, ↓reduceIte, Nat.reduceLT, Nat.reduceEqDiff, Nat.reduceBEq, Nat.reduceLeDiff, Nat.reduceAdd, Nat.reduceMul]
  refine hcf.call ?_
  simp (disch := first | assumption | (apply Ap.symm; assumption) | omega | decide | (simp only [Xd] <;> omega)) only [↓Xa, Xb, Xc, ↓reduceIte, Nat.reduceLT, Nat.reduceEqDiff, Nat.reduceBEq, Nat.reduceLeDiff, Nat.reduceAdd, Nat.reduceMul]
  refine alloc_i fun p2 hp2 => ?_
  have n2 := hp2
  simp only [upd_none] at n2
  obtain ⟨_, n2⟩ := n2
  simp (disch := first | assumption | (apply Ap.symm; assumption) | omega | decide | (simp only [Xd] <;> omega)) only [cells_RefT, ↓Xa, Xb, Xc, ↓reduceIte, Nat.reduceLT, Nat.reduceEqDiff, Nat.reduceBEq, Nat.reduceLeDiff, Nat.reduceAdd, Nat.reduceMul]
  refine W_loop (fun s : Nat => ⟨[], [(0, RefR zs t), (3, .ptr p1 2 0), (4, .ptr p2 2 0), (5, .int .i64 s)], (H.upd p1 (some (.row 39 0 [.bool false, .seq 0 [] true]))).upd p2 (some (.row 39 0 [RefB ((0 : Nat) : Int), LS (digs 65536 (((0 : Nat) : Int)).natAbs) (decide (zs.length = 0))]))⟩)
    (fun s => s ≤ zs.length) (fun s => zs.length - s) 0 (Settle.now rfl) (Nat.zero_le _) ?_
  rintro i h3
  by_cases hi : i < zs.length
  · have hs : decide (sgnI (zs[i]) = ((0 : Nat) : Int)) = true := by rw [hall _ (List.getElem_mem hi)]; decide
    simp (disch := first | assumption | (apply Ap.symm; assumption) | omega | decide | (simp only [Xd] <;> omega)) only [hi, len_rw, idx_RC, load_RC, ↓Xa, Xb, Xc, ↓reduceIte, Nat.reduceLT, Nat.reduceEqDiff, Nat.reduceBEq, Nat.reduceLeDiff, Nat.reduceAdd, Nat.reduceMul]
    refine (rsign_fn false (hz.at hi) (by omega)).call ?_
    simp (disch := first | assumption | (apply Ap.symm; assumption) | omega | decide | (simp only [Xd] <;> omega)) only [neq_int, hs, ↓Xa, Xb, Xc, ↓reduceIte, Nat.reduceLT, Nat.reduceEqDiff, Nat.reduceBEq, Nat.reduceLeDiff, Nat.reduceAdd, Nat.reduceMul]
    exact Settle.now ⟨i + 1, by omega, by omega, rfl⟩
  · simp (disch := first | assumption | (apply Ap.symm; assumption) | omega | decide | (simp only [Xd] <;> omega)) only [hi, len_rw, ↓Xa, Xb, Xc, ↓reduceIte, Nat.reduceLT, Nat.reduceEqDiff, Nat.reduceBEq, Nat.reduceLeDiff, Nat.reduceAdd, Nat.reduceMul]
    refine Settle.now ?_
    simp (disch := first | assumption | (apply Ap.symm; assumption) | omega | decide | (simp only [Xd] <;> omega)) only [dlen_rw, ↓Xa, Xb, Xc, ↓reduceIte, Nat.reduceLT, Nat.reduceEqDiff, Nat.reduceBEq, Nat.reduceLeDiff, Nat.reduceAdd, Nat.reduceMul]
    refine PFn.dcall hfz ?_
    simp (disch := first | assumption | (apply Ap.symm; assumption) | omega | decide | (simp only [Xd] <;> omega)) only [fold_RefT, cells_RefT, rs116, ↓Xa, Xb, Xc, ↓reduceIte, Nat.reduceLT, Nat.reduceEqDiff, Nat.reduceBEq, Nat.reduceLeDiff, Nat.reduceAdd, Nat.reduceMul]
    exact SetR.dropTo (((Le.refl H).updB n1).updB n2) (SetR.now hq)
theorem fprim_fn {zs : List Int} {t : Bool} {k : Nat} (hz : RB4 k zs) (hk : k ≤ 1000000) (hbig : zs.length ≤ 100000) (hc0 : contN zs ≠ 0) :
    PFn Tryd.prog 116 [RefR zs t] (.tup [RefR (primR zs) false, RefA (primG zs) false]) := by
  intro H Q hq
  have nz : zs.length < 9223372036854775808 := by omega
  have hne0 : zs.length ≠ 0 := fun e => hc0 (by rw [List.length_eq_zero_iff.1 e]; rfl)
  have hcb : Bd k ((contN zs : Nat) : Int) := Bd.gcdF (Bd.zero k) hz.1
  have hcf := fcont_fn (t := t) hz hk
  rw [decide_eq_false hne0] at hcf
  have hdv : ∀ {g : Int}, g = primG zs → (zs.all fun z => decide (z % g = 0)) = true := fun e => List.all_eq_true.2 fun z hm => by
    subst e
    have h := (gcdF_dvd zs 0).2 z hm
    have e : primG zs = ((contN zs : Nat) : Int) ∨ primG zs = -((contN zs : Nat) : Int) := by have := primG_abs zs; omega
    refine decide_eq_true ?_
    rcases e with e | e <;> rw [e]
    · exact Int.emod_eq_zero_of_dvd h
    · exact Int.emod_eq_zero_of_dvd (Int.neg_dvd.2 h)
  refine enter116 (by simp) ?_
  simp (disch := first | assumption | (apply Ap.symm; assumption) | omega | decide | (simp only [Xd] <;> omega)) only [ac116, ↓Xa, Xb, Xc, ↓reduceIte, Nat.reduceLT, Nat.reduceEqDiff, Nat.reduceBEq, Nat.reduceLeDiff, Nat.reduceAdd, Nat.reduceMul]
  refine alloc_i fun p1 hp1 => ?_
  have n1 := hp1
  simp (disch := first | assumption | (apply Ap.symm; assumption) | omega | decide | (simp only [Xd] <;> omega)) only [↓Xa, Xb, Xc, ↓reduceIte, Nat.reduceLT, Nat.reduceEqDiff, Nat.reduceBEq, Nat.reduceLeDiff, Nat.reduceAdd, Nat.reduceMul]
  refine hcf.call ?_
  simp (disch := first | assumption | (apply Ap.symm; assumption) | omega | decide | (simp only [Xd] <;> omega)) only [↓Xa, Xb, Xc, ↓reduceIte, Nat.reduceLT, Nat.reduceEqDiff, Nat.reduceBEq, Nat.reduceLeDiff, Nat.reduceAdd, Nat.reduceMul]
  refine alloc_i fun p2 hp2 => ?_
  have n2 := hp2
  simp only [upd_none] at n2
  obtain ⟨_, n2⟩ := n2
  simp (disch := first | assumption | (apply Ap.symm; assumption) | omega | decide | (simp only [Xd] <;> omega)) only [cells_RefA, ↓Xa, Xb, Xc, ↓reduceIte, Nat.reduceLT, Nat.reduceEqDiff, Nat.reduceBEq, Nat.reduceLeDiff, Nat.reduceAdd, Nat.reduceMul]
  refine W_loop (fun s : Nat => ⟨[], [(0, RefR zs t), (3, .ptr p1 2 0), (4, .ptr p2 2 0), (5, .int .i64 s)], (H.upd p1 (some (.row 39 0 [.bool false, .seq 0 [] true]))).upd p2 (some (.row 39 0 [RefB ((contN zs : Nat) : Int), RefD ((contN zs : Nat) : Int)]))⟩)
    (fun s => s ≤ zs.length ∧ ∀ j (h : j < zs.length), j < s → zs[j] = 0) (fun s => zs.length - s) 0 (Settle.now rfl) ⟨Nat.zero_le _, fun j _ h => absurd h (Nat.not_lt_zero j)⟩ ?_
  rintro i ⟨h3, hno⟩
  by_cases hi : i < zs.length
  · simp (disch := first | assumption | (apply Ap.symm; assumption) | omega | decide | (simp only [Xd] <;> omega)) only [hi, len_rw, idx_RC, load_RC, ↓Xa, Xb, Xc, ↓reduceIte, Nat.reduceLT, Nat.reduceEqDiff, Nat.reduceBEq, Nat.reduceLeDiff, Nat.reduceAdd, Nat.reduceMul]
    refine (rsign_fn false (hz.at hi) (by omega)).call ?_
    by_cases h0 : zs[i] = 0
    · have hs : decide (sgnI (zs[i]) = ((0 : Nat) : Int)) = true := by rw [h0]; decide
      simp (disch := first | assumption | (apply Ap.symm; assumption) | omega | decide | (simp only [Xd] <;> omega)) only [neq_int, hs, ↓Xa, Xb, Xc, ↓reduceIte, Nat.reduceLT, Nat.reduceEqDiff, Nat.reduceBEq, Nat.reduceLeDiff, Nat.reduceAdd, Nat.reduceMul]
      refine Settle.now ⟨i + 1, by omega, ⟨by omega, fun j h h2 => ?_⟩, rfl⟩
      by_cases e : j = i
      · subst e; exact h0
      · exact hno j h (by omega)
    · have hs : decide (sgnI (zs[i]) = ((0 : Nat) : Int)) = false := decide_eq_false (by unfold sgnI; rw [if_neg h0]; split <;> omega)
      have hfind : zs.find? (fun z => decide (z ≠ 0)) = some (zs[i]) := by
        rw [List.find?_eq_some_iff_getElem]
        exact ⟨by simpa using h0, i, hi, rfl, fun j hj => by simpa using hno j (by omega) hj⟩
      simp (disch := first | assumption | (apply Ap.symm; assumption) | omega | decide | (simp only [Xd] <;> omega)) only [neq_int, hs, hi, len_rw, idx_RC, load_RC, ↓Xa, Xb, Xc, ↓reduceIte, Nat.reduceLT, Nat.reduceEqDiff, Nat.reduceBEq, Nat.reduceLeDiff, Nat.reduceAdd, Nat.reduceMul]
      refine (rsign_fn false (hz.at hi) (by omega)).call ?_
      by_cases hneg : zs[i] < 0
      · have hg : -((contN zs : Nat) : Int) = primG zs := by unfold primG; rw [hfind]; dsimp only; rw [if_pos hneg]
        have hov := fover_fn (t := t) hz hcb.neg hk (by omega) (by omega)
        rw [if_pos (hdv hg), show zs.map (· / -((contN zs : Nat) : Int)) = primR zs by unfold primR; rw [hg]] at hov
        rw [← hg] at hq
        simp (disch := first | assumption | (apply Ap.symm; assumption) | omega | decide | (simp only [Xd] <;> omega)) only [sgn_lss0, decide_eq_true hneg, fold_RefA, ↓Xa, Xb, Xc, ↓reduceIte, Nat.reduceLT, Nat.reduceEqDiff, Nat.reduceBEq, Nat.reduceLeDiff, Nat.reduceAdd, Nat.reduceMul]
        refine (rneg_fn false hcb (by omega)).call ?_
        simp (disch := first | assumption | (apply Ap.symm; assumption) | omega | decide | (simp only [Xd] <;> omega)) only [cells_RefA, fold_RefA, ↓Xa, Xb, Xc, ↓reduceIte, Nat.reduceLT, Nat.reduceEqDiff, Nat.reduceBEq, Nat.reduceLeDiff, Nat.reduceAdd, Nat.reduceMul]
        refine hov.call ?_
        simp (disch := first | assumption | (apply Ap.symm; assumption) | omega | decide | (simp only [Xd] <;> omega)) only [cells_RefA, fold_RefA, rs116, ↓Xa, Xb, Xc, ↓reduceIte, Nat.reduceLT, Nat.reduceEqDiff, Nat.reduceBEq, Nat.reduceLeDiff, Nat.reduceAdd, Nat.reduceMul]
        exact SetR.dropTo (((Le.refl H).updB n1).updB n2) (SetR.now hq)
      · have hg : ((contN zs : Nat) : Int) = primG zs := by unfold primG; rw [hfind]; dsimp only; rw [if_neg hneg]
        have hov := fover_fn (t := t) hz hcb hk (by omega) (by omega)
        rw [if_pos (hdv hg), show zs.map (· / ((contN zs : Nat) : Int)) = primR zs by unfold primR; rw [hg]] at hov
        rw [← hg] at hq
        simp (disch := first | assumption | (apply Ap.symm; assumption) | omega | decide | (simp only [Xd] <;> omega)) only [sgn_lss0, decide_eq_false hneg, fold_RefA, ↓Xa, Xb, Xc, ↓reduceIte, Nat.reduceLT, Nat.reduceEqDiff, Nat.reduceBEq, Nat.reduceLeDiff, Nat.reduceAdd, Nat.reduceMul]
        refine hov.call ?_
        simp (disch := first | assumption | (apply Ap.symm; assumption) | omega | decide | (simp only [Xd] <;> omega)) only [cells_RefA, fold_RefA, rs116, ↓Xa, Xb, Xc, ↓reduceIte, Nat.reduceLT, Nat.reduceEqDiff, Nat.reduceBEq, Nat.reduceLeDiff, Nat.reduceAdd, Nat.reduceMul]
        exact SetR.dropTo (((Le.refl H).updB n1).updB n2) (SetR.now hq)
  · exact absurd ((contN_zero zs).2 fun z hm => by
      obtain ⟨j, hj, rfl⟩ := List.getElem_of_mem hm
      exact hno j hj (by omega)) hc0
end Go.Proofs.YtanchgkiomfhhaaDoor.Fw

/- The law of rows divided: true. -/
namespace Go.Proofs.YtanchgkiomfhhaaDoor.Fw
set_option linter.unusedSimpArgs false
set_option linter.unusedVariables false
open Go Go.Proofs.YtanchgkiomfhhaaDoor.Ma
set_option maxRecDepth 20000

set_option maxHeartbeats 2000000 in
theorem rowDivides_law (a : List NumV) (c : NumV) (ma : ∀ q, q ∈ a → NumGood q) (mc : NumGood c) (la : a.length ≤ 140737488355328) :
    PFn Tryd.prog 19 [NumsA a, .agg [.bool c.1, LS c.2.1 c.2.2]] (.bool true) := by
  intro H Q hq
  have lg := long4_fn (ll := [(a, false), ([c], true)]) (t := true) (by simp) (fun x hx => by
    simp only [List.mem_cons, List.not_mem_nil, or_false] at hx
    rcases hx with rfl | rfl
    · exact ⟨la, fun q hq => (ma q hq).2⟩
    · refine ⟨by simp, fun q hq => ?_⟩
      rw [List.mem_singleton.1 hq]; exact mc.2)
  have et : sumN ([(a, false), ([c], true)].map fun x : List NumV × Bool => numT x.1) = numT a + numT [c] := by simp [sumN]
  rw [et] at lg
  have lg' : PFn Tryd.prog 33 [.seq 2 [.seq a.length (NumsC a) false, .seq 1 [.bool c.1, LS c.2.1 c.2.2] true] true] (.bool (decide (300 < numT a + numT [c]))) := lg
  by_cases hl : 300 < numT a + numT [c]
  · refine enter19 (by simp) ?_
    simp (disch := first | assumption | (apply Ap.symm; assumption) | omega | decide | (simp only [Xd] <;> omega)) only [ac19, NumsA, ↓Xa, Xb, Xc, ↓reduceIte, Nat.reduceLT, Nat.reduceEqDiff, Nat.reduceBEq, Nat.reduceLeDiff, Nat.reduceAdd, Nat.reduceMul]
    refine alloc_i fun p1 hp1 => ?_
    have n1 := hp1
    simp (disch := first | assumption | (apply Ap.symm; assumption) | omega | decide | (simp only [Xd] <;> omega)) only [↓Xa, Xb, Xc, ↓reduceIte, Nat.reduceLT, Nat.reduceEqDiff, Nat.reduceBEq, Nat.reduceLeDiff, Nat.reduceAdd, Nat.reduceMul]
    refine live4_fn.call ?_
    simp (disch := first | assumption | (apply Ap.symm; assumption) | omega | decide | (simp only [Xd] <;> omega)) only [repI1, repL2, ↓Xa, Xb, Xc, ↓reduceIte, Nat.reduceLT, Nat.reduceEqDiff, Nat.reduceBEq, Nat.reduceLeDiff, Nat.reduceAdd, Nat.reduceMul]
    refine lg'.call ?_
    simp (disch := first | assumption | (apply Ap.symm; assumption) | omega | decide | (simp only [Xd] <;> omega)) only [decide_eq_true hl, rs19, ↓Xa, Xb, Xc, ↓reduceIte, Nat.reduceLT, Nat.reduceEqDiff, Nat.reduceBEq, Nat.reduceLeDiff, Nat.reduceAdd, Nat.reduceMul]
    exact SetR.dropTo ((Le.refl H).updB n1) (SetR.now hq)
  obtain ⟨a1, a2⟩ := long_ok (l := a) (by omega)
  obtain ⟨_, c2⟩ := long_ok (l := [c]) (by omega)
  have c2c := c2 c (by simp)
  have hz := rowZ_RB4 a1 ma a2
  have ofa : PFn Tryd.prog 34 [.seq a.length (NumsC a) false] (.tup [RowA (rowZ a) false, RefR (rowZ a) false]) := of4_fn a1 ma a2
  have laz : (rowZ a).length = a.length := by simp [rowZ]
  have mkc := make_fn c.1 c.2.2 mc.1 (by omega)
  have rmc := rmake_fn c.1 c.2.2 mc.1 (by omega)
  have bm : Bd 300 (sg c.1 (val 4294967296 c.2.1)) := (Bd.of_val mc.1).mono c2c
  generalize rowZ a = zs at *
  generalize sg c.1 (val 4294967296 c.2.1) = m at *
  have hbz : zs.length ≤ 300 := by omega
  have nz : zs.length < 9223372036854775808 := by omega
  have hgc : Bd 300 ((contN zs : Nat) : Int) := Bd.gcdF (Bd.zero 300) hz.1
  have hgb : Bd 300 (primG zs) := by have := primG_abs zs; unfold Bd at hgc ⊢; omega
  have hpr : RB4 300 (primR zs) := RB4.map hz fun z h => h.ediv
  have lpr : (primR zs).length = zs.length := by simp [primR]
  have hd0 : decide (((0 : Nat) : Int) = ((0 : Nat) : Int)) = true := rfl
  -- the reference's primitive row, as it is held against the program's
  obtain ⟨wr, hh, fpr, hisW⟩ : ∃ (wr : AV) (hh : Bool), PFn Tryd.prog 116 [RefR zs false] (.tup [wr, RefA (primG zs) hh]) ∧ PFn Tryd.prog 43 [RowA (primR zs) false, wr] (.bool true) := by
    by_cases hc0 : contN zs = 0
    · have hg0 : primG zs = 0 := by have := primG_abs zs; omega
      have hall := (contN_zero zs).1 hc0
      have hR : primR zs = zs := by
        unfold primR
        conv => rhs; rw [← List.map_id zs]
        refine List.map_congr_left fun z hm => ?_
        rw [hall z hm]; simp
      rw [hg0, hR]
      exact ⟨_, _, fprim0_fn hz (by omega) (by omega) hc0, is4t_fn true hz (by omega)⟩
    · exact ⟨_, _, fprim_fn hz (by omega) (by omega) hc0, is4_fn hpr (by omega)⟩
  -- behind Over: content and primitive row
  have tail : ∀ (l : AV) (e : Int) (ls : List Int) (M : AHeap) (p7 p8 : Nat), Le H M → RowO M l ls → (∀ b, b ∈ blkOf l → H b = none) → M p7 = some (.row 28 0 [IntB m, IntD m]) → M p8 = some (.row 39 0 [RefB m, RefD m]) →
      (∀ M', Le M M' → W Tryd.prog (sndC (sndC (sndC (sndC (sndC (sndC (sndC (sndC (sndC (sndC ac19)))))))))) (retN rs19 Q) ⟨[], [(5, RowA zs false), (6, RefR zs false), (7, .ptr p7 2 0), (8, .ptr p8 2 0), (9, l), (10, .int .i64 e)], M'⟩) →
      W Tryd.prog (sndC (sndC (sndC (sndC (sndC (sndC ac19)))))) (retN rs19 Q) ⟨[], [(5, RowA zs false), (6, RefR zs false), (7, .ptr p7 2 0), (8, .ptr p8 2 0), (9, l), (10, .int .i64 e)], M⟩ := by
    intro l e ls M p7 p8 hM hlO fl g7 g8 hrest
    simp (disch := first | assumption | (apply Ap.symm; assumption) | omega | decide | (simp only [Xd] <;> omega)) only [sndC, ac19, ↓Xa, Xb, Xc, ↓reduceIte, Nat.reduceLT, Nat.reduceEqDiff, Nat.reduceBEq, Nat.reduceLeDiff, Nat.reduceAdd, Nat.reduceMul] at hrest
    simp (disch := first | assumption | (apply Ap.symm; assumption) | omega | decide | (simp only [Xd] <;> omega)) only [sndC, ac19, ↓Xa, Xb, Xc, ↓reduceIte, Nat.reduceLT, Nat.reduceEqDiff, Nat.reduceBEq, Nat.reduceLeDiff, Nat.reduceAdd, Nat.reduceMul]
    refine (fcont_fn (t := false) hz (by omega)).call ?_
    simp (disch := first | assumption | (apply Ap.symm; assumption) | omega | decide | (simp only [Xd] <;> omega)) only [↓Xa, Xb, Xc, ↓reduceIte, Nat.reduceLT, Nat.reduceEqDiff, Nat.reduceBEq, Nat.reduceLeDiff, Nat.reduceAdd, Nat.reduceMul]
    refine alloc_i fun p11 hp11 => ?_
    simp (disch := first | assumption | (apply Ap.symm; assumption) | omega | decide | (simp only [Xd] <;> omega)) only [cells_RefT, ↓Xa, Xb, Xc, ↓reduceIte, Nat.reduceLT, Nat.reduceEqDiff, Nat.reduceBEq, Nat.reduceLeDiff, Nat.reduceAdd, Nat.reduceMul]
    refine fpr.call ?_
    simp (disch := first | assumption | (apply Ap.symm; assumption) | omega | decide | (simp only [Xd] <;> omega)) only [↓Xa, Xb, Xc, ↓reduceIte, Nat.reduceLT, Nat.reduceEqDiff, Nat.reduceBEq, Nat.reduceLeDiff, Nat.reduceAdd, Nat.reduceMul]
    refine alloc_i fun p13 hp13 => ?_
    obtain ⟨a1311, hp13'⟩ := upd_none.1 hp13
    simp (disch := first | assumption | (apply Ap.symm; assumption) | omega | decide | (simp only [Xd] <;> omega)) only [cells_RefT, ↓Xa, Xb, Xc, ↓reduceIte, Nat.reduceLT, Nat.reduceEqDiff, Nat.reduceBEq, Nat.reduceLeDiff, Nat.reduceAdd, Nat.reduceMul]
    refine run_call (rowprimO_run hz (by omega) (by omega) (by omega) fun u M1 hu => ?_)
    have g11 := growC_old hu (by rw [upd_other _ _ (Ne.symm a1311), upd_same])
    have g13 := growC_old hu (upd_same _ _ _)
    have lM1 : Le M M1 := fun o x ho => growC_le hu o x ((((Le.refl M).updB hp11).updB hp13') o x ho)
    simp (disch := first | assumption | (apply Ap.symm; assumption) | omega | decide | (simp only [Xd] <;> omega)) only [↓Xa, Xb, Xc, ↓reduceIte, Nat.reduceLT, Nat.reduceEqDiff, Nat.reduceBEq, Nat.reduceLeDiff, Nat.reduceAdd, Nat.reduceMul]
    refine alloc_i fun p15 hp15 => ?_
    have a11 := ne_of_some g11 hp15
    have a13 := ne_of_some g13 hp15
    have hu1 : RowO M1 u (primR zs) := RowO.of hu lpr
    have hu2 := hu1.le ((Le.refl M1).updB hp15 (x := some (.row 28 0 [IntB (primG zs), IntD (primG zs)])))
    have fu : ∀ b, b ∈ blkOf u → M b = none := fun b hb => by
      have h1 := (upd_none.1 (growC_blk hu hb)).2
      exact (upd_none.1 h1).2
    simp (disch := first | assumption | (apply Ap.symm; assumption) | omega | decide | (simp only [Xd] <;> omega)) only [cells_IntA, ↓Xa, Xb, Xc, ↓reduceIte, Nat.reduceLT, Nat.reduceEqDiff, Nat.reduceBEq, Nat.reduceLeDiff, Nat.reduceAdd, Nat.reduceMul]
    refine PFn.dcall (rowcont_fn (t := false) hz (by omega) (by omega)) ?_
    simp (disch := first | assumption | (apply Ap.symm; assumption) | omega | decide | (simp only [Xd] <;> omega)) only [g11, g13, fold_RefT, fold_IntA, ↓Xa, Xb, Xc, ↓reduceIte, Nat.reduceLT, Nat.reduceEqDiff, Nat.reduceBEq, Nat.reduceLeDiff, Nat.reduceAdd, Nat.reduceMul]
    refine PFn.dcall (one4_fn _ hgc (by omega)) ?_
    simp (disch := first | assumption | (apply Ap.symm; assumption) | omega | decide | (simp only [Xd] <;> omega)) only [g11, g13, fold_RefT, fold_IntA, ↓Xa, Xb, Xc, ↓reduceIte, Nat.reduceLT, Nat.reduceEqDiff, Nat.reduceBEq, Nat.reduceLeDiff, Nat.reduceAdd, Nat.reduceMul]
    refine dcall_lend hisW rfl (blkOf u) (fun H' e => ⟨hu2.lentD H' e, Lent.same, trivial⟩) ?_
    simp (disch := first | assumption | (apply Ap.symm; assumption) | omega | decide | (simp only [Xd] <;> omega)) only [g11, g13, fold_RefT, fold_IntA, ↓Xa, Xb, Xc, ↓reduceIte, Nat.reduceLT, Nat.reduceEqDiff, Nat.reduceBEq, Nat.reduceLeDiff, Nat.reduceAdd, Nat.reduceMul]
    refine PFn.dcall (one4_fn _ hgb (by omega)) ?_
    simp (disch := first | assumption | (apply Ap.symm; assumption) | omega | decide | (simp only [Xd] <;> omega)) only [↓Xa, Xb, Xc, ↓reduceIte, Nat.reduceLT, Nat.reduceEqDiff, Nat.reduceBEq, Nat.reduceLeDiff, Nat.reduceAdd, Nat.reduceMul]
    refine run_call (own5_run hu2 hz (by omega) fun M2 hM2 => ?_)
    have l2 : Le M M2 := fun o x ho => hM2 o x (le_minB (fun o x ho => ((Le.refl M1).updB hp15) o x (lM1 o x ho)) fu o x ho)
    simp (disch := first | assumption | (apply Ap.symm; assumption) | omega | decide | (simp only [Xd] <;> omega)) only [↓Xa, Xb, Xc, ↓reduceIte, Nat.reduceLT, Nat.reduceEqDiff, Nat.reduceBEq, Nat.reduceLeDiff, Nat.reduceAdd, Nat.reduceMul]
    refine live4_fn.call ?_
    simp (disch := first | assumption | (apply Ap.symm; assumption) | omega | decide | (simp only [Xd] <;> omega)) only [↓Xa, Xb, Xc, ↓reduceIte, Nat.reduceLT, Nat.reduceEqDiff, Nat.reduceBEq, Nat.reduceLeDiff, Nat.reduceAdd, Nat.reduceMul]
    exact hrest M2 l2
  have hd2 : decide (((2 : Nat) : Int) = ((2 : Nat) : Int)) = true := rfl
  have hd20 : decide (((20 : Nat) : Int) = ((20 : Nat) : Int)) = true := rfl
  refine enter19 (by simp) ?_
  simp (disch := first | assumption | (apply Ap.symm; assumption) | omega | decide | (simp only [Xd] <;> omega)) only [ac19, NumsA, ↓Xa, Xb, Xc, ↓reduceIte, Nat.reduceLT, Nat.reduceEqDiff, Nat.reduceBEq, Nat.reduceLeDiff, Nat.reduceAdd, Nat.reduceMul]
  refine alloc_i fun p1 hp1 => ?_
  have n1 := hp1
  simp (disch := first | assumption | (apply Ap.symm; assumption) | omega | decide | (simp only [Xd] <;> omega)) only [↓Xa, Xb, Xc, ↓reduceIte, Nat.reduceLT, Nat.reduceEqDiff, Nat.reduceBEq, Nat.reduceLeDiff, Nat.reduceAdd, Nat.reduceMul]
  refine live4_fn.call ?_
  simp (disch := first | assumption | (apply Ap.symm; assumption) | omega | decide | (simp only [Xd] <;> omega)) only [repI1, repL2, ↓Xa, Xb, Xc, ↓reduceIte, Nat.reduceLT, Nat.reduceEqDiff, Nat.reduceBEq, Nat.reduceLeDiff, Nat.reduceAdd, Nat.reduceMul]
  refine lg'.call ?_
  simp (disch := first | assumption | (apply Ap.symm; assumption) | omega | decide | (simp only [Xd] <;> omega)) only [decide_eq_false hl, ↓Xa, Xb, Xc, ↓reduceIte, Nat.reduceLT, Nat.reduceEqDiff, Nat.reduceBEq, Nat.reduceLeDiff, Nat.reduceAdd, Nat.reduceMul]
  refine ofa.call ?_
  simp (disch := first | assumption | (apply Ap.symm; assumption) | omega | decide | (simp only [Xd] <;> omega)) only [↓Xa, Xb, Xc, ↓reduceIte, Nat.reduceLT, Nat.reduceEqDiff, Nat.reduceBEq, Nat.reduceLeDiff, Nat.reduceAdd, Nat.reduceMul]
  refine PFn.dcall mkc ?_
  simp (disch := first | assumption | (apply Ap.symm; assumption) | omega | decide | (simp only [Xd] <;> omega)) only [↓Xa, Xb, Xc, ↓reduceIte, Nat.reduceLT, Nat.reduceEqDiff, Nat.reduceBEq, Nat.reduceLeDiff, Nat.reduceAdd, Nat.reduceMul]
  refine PFn.dcall rmc ?_
  simp (disch := first | assumption | (apply Ap.symm; assumption) | omega | decide | (simp only [Xd] <;> omega)) only [↓Xa, Xb, Xc, ↓reduceIte, Nat.reduceLT, Nat.reduceEqDiff, Nat.reduceBEq, Nat.reduceLeDiff, Nat.reduceAdd, Nat.reduceMul]
  refine dalloc_i fun p2 hp2 => ?_
  have n2 := hp2
  simp only [upd_none] at n2
  obtain ⟨_, n2⟩ := n2
  simp (disch := first | assumption | (apply Ap.symm; assumption) | omega | decide | (simp only [Xd] <;> omega)) only [↓Xa, Xb, Xc, ↓reduceIte, Nat.reduceLT, Nat.reduceEqDiff, Nat.reduceBEq, Nat.reduceLeDiff, Nat.reduceAdd, Nat.reduceMul]
  refine dalloc_i fun p3 hp3 => ?_
  have n3 := hp3
  simp only [upd_none] at n3
  obtain ⟨_, _, n3⟩ := n3
  simp (disch := first | assumption | (apply Ap.symm; assumption) | omega | decide | (simp only [Xd] <;> omega)) only [cells_IntA, cells_RefA, fold_IntA, fold_RefA, ↓Xa, Xb, Xc, ↓reduceIte, Nat.reduceLT, Nat.reduceEqDiff, Nat.reduceBEq, Nat.reduceLeDiff, Nat.reduceAdd, Nat.reduceMul]
  have lH : Le H (((H.upd p1 (some (.row 47 0 [.bool c.1, LS c.2.1 c.2.2]))).upd p2 (some (.row 28 0 [IntB m, IntD m]))).upd p3 (some (.row 39 0 [RefB m, RefD m]))) := (((Le.refl H).updB n1).updB n2).updB n3
  have g2 : (((H.upd p1 (some (.row 47 0 [.bool c.1, LS c.2.1 c.2.2]))).upd p2 (some (.row 28 0 [IntB m, IntD m]))).upd p3 (some (.row 39 0 [RefB m, RefD m]))) p2 = some (.row 28 0 [IntB m, IntD m]) := by simp (disch := first | assumption | (apply Ap.symm; assumption) | omega | decide | (simp only [Xd] <;> omega)) only [↓Xa, Xb, Xc, ↓reduceIte, Nat.reduceLT, Nat.reduceEqDiff, Nat.reduceBEq, Nat.reduceLeDiff, Nat.reduceAdd, Nat.reduceMul]
  have g3 : (((H.upd p1 (some (.row 47 0 [.bool c.1, LS c.2.1 c.2.2]))).upd p2 (some (.row 28 0 [IntB m, IntD m]))).upd p3 (some (.row 39 0 [RefB m, RefD m]))) p3 = some (.row 39 0 [RefB m, RefD m]) := upd_same _ _ _
  generalize (((H.upd p1 (some (.row 47 0 [.bool c.1, LS c.2.1 c.2.2]))).upd p2 (some (.row 28 0 [IntB m, IntD m]))).upd p3 (some (.row 39 0 [RefB m, RefD m]))) = M0 at *
  by_cases hm0 : m = 0
  · subst hm0
    have hs : decide (sgnI 0 = ((0 : Nat) : Int)) = true := by decide
    refine (rowover0_fn (t := false)).call ?_
    have tl := tail (.seq 0 [] true) ((2 : Nat) : Int) [] M0 p2 p3 lH (.inl ⟨rfl, rfl⟩) (fun b hb => by simp [blkOf] at hb) g2 g3 ?_
    · simp (disch := first | assumption | (apply Ap.symm; assumption) | omega | decide | (simp only [Xd] <;> omega)) only [sndC, ac19, ↓Xa, Xb, Xc, ↓reduceIte, Nat.reduceLT, Nat.reduceEqDiff, Nat.reduceBEq, Nat.reduceLeDiff, Nat.reduceAdd, Nat.reduceMul] at tl
      simp (disch := first | assumption | (apply Ap.symm; assumption) | omega | decide | (simp only [Xd] <;> omega)) only [↓Xa, Xb, Xc, ↓reduceIte, Nat.reduceLT, Nat.reduceEqDiff, Nat.reduceBEq, Nat.reduceLeDiff, Nat.reduceAdd, Nat.reduceMul]
      exact tl
    intro M' l'
    have g3' := l' _ _ g3
    simp (disch := first | assumption | (apply Ap.symm; assumption) | omega | decide | (simp only [Xd] <;> omega)) only [sndC, ac19, g3', fold_RefA, ↓Xa, Xb, Xc, ↓reduceIte, Nat.reduceLT, Nat.reduceEqDiff, Nat.reduceBEq, Nat.reduceLeDiff, Nat.reduceAdd, Nat.reduceMul]
    refine (rsign_fn false (Bd.zero 0) (by omega)).call ?_
    simp (disch := first | assumption | (apply Ap.symm; assumption) | omega | decide | (simp only [Xd] <;> omega)) only [eql_int, hs, len_rw, hd0, hd2, rs19, ↓Xa, Xb, Xc, ↓reduceIte, Nat.reduceLT, Nat.reduceEqDiff, Nat.reduceBEq, Nat.reduceLeDiff, Nat.reduceAdd, Nat.reduceMul]
    exact SetR.dropTo (fun o x ho => l' o x (lH o x ho)) (SetR.now hq)
  have hs : decide (sgnI m = ((0 : Nat) : Int)) = false := decide_eq_false (by unfold sgnI; rw [if_neg hm0]; split <;> omega)
  have fov := fover_fn (t := false) hz bm (by omega) hm0 (by omega)
  refine run_call (rowover_run hz bm (by omega) hm0 (by omega) (fun hall l M1 hl1 => ?_) fun ⟨z, hzm, hzn⟩ => ?_)
  rotate_left
  · have hno : (zs.all fun z => decide (z % m = 0)) = false := List.all_eq_false.2 ⟨z, hzm, by simpa using hzn⟩
    rw [if_neg (by rw [hno]; simp)] at fov
    have tl := tail (.seq 0 [] true) ((20 : Nat) : Int) [] M0 p2 p3 lH (.inl ⟨rfl, rfl⟩) (fun b hb => by simp [blkOf] at hb) g2 g3 ?_
    · simp (disch := first | assumption | (apply Ap.symm; assumption) | omega | decide | (simp only [Xd] <;> omega)) only [sndC, ac19, ↓Xa, Xb, Xc, ↓reduceIte, Nat.reduceLT, Nat.reduceEqDiff, Nat.reduceBEq, Nat.reduceLeDiff, Nat.reduceAdd, Nat.reduceMul] at tl
      simp (disch := first | assumption | (apply Ap.symm; assumption) | omega | decide | (simp only [Xd] <;> omega)) only [↓Xa, Xb, Xc, ↓reduceIte, Nat.reduceLT, Nat.reduceEqDiff, Nat.reduceBEq, Nat.reduceLeDiff, Nat.reduceAdd, Nat.reduceMul]
      exact tl
    intro M' l'
    have g3' := l' _ _ g3
    simp (disch := first | assumption | (apply Ap.symm; assumption) | omega | decide | (simp only [Xd] <;> omega)) only [sndC, ac19, g3', fold_RefA, ↓Xa, Xb, Xc, ↓reduceIte, Nat.reduceLT, Nat.reduceEqDiff, Nat.reduceBEq, Nat.reduceLeDiff, Nat.reduceAdd, Nat.reduceMul]
    refine (rsign_fn false bm (by omega)).call ?_
    simp (disch := first | assumption | (apply Ap.symm; assumption) | omega | decide | (simp only [Xd] <;> omega)) only [eql_int, hs, g3', fold_RefA, ↓Xa, Xb, Xc, ↓reduceIte, Nat.reduceLT, Nat.reduceEqDiff, Nat.reduceBEq, Nat.reduceLeDiff, Nat.reduceAdd, Nat.reduceMul]
    refine fov.call ?_
    simp (disch := first | assumption | (apply Ap.symm; assumption) | omega | decide | (simp only [Xd] <;> omega)) only [len_rw, eql_int, hd0, hd20, rs19, ↓Xa, Xb, Xc, ↓reduceIte, Nat.reduceLT, Nat.reduceEqDiff, Nat.reduceBEq, Nat.reduceLeDiff, Nat.reduceAdd, Nat.reduceMul]
    exact SetR.dropTo (fun o x ho => l' o x (lH o x ho)) (SetR.now hq)
  · have hyes : (zs.all fun z => decide (z % m = 0)) = true := List.all_eq_true.2 fun z hm => decide_eq_true (hall z hm)
    rw [if_pos hyes] at fov
    have lq : (zs.map (· / m)).length = zs.length := by simp
    have hq4 : RB4 300 (zs.map (· / m)) := RB4.map hz fun z h => h.ediv
    have hlO := RowO.of hl1 lq
    have lM1 : Le M0 M1 := growC_le hl1
    have fl : ∀ b, b ∈ blkOf l → H b = none := fun b hb => lH.none (growC_blk hl1 hb)
    have hzm := RB4.map (f := (m * ·)) hz (fun z x => bm.mul x)
    have lzm : (zs.map (m * ·)).length = zs.length := by simp
    have hback : (zs.map (m * ·)).map (· / m) = zs := by
      rw [List.map_map]
      conv => rhs; rw [← List.map_id zs]
      refine List.map_congr_left fun z _ => ?_
      exact Int.mul_ediv_cancel_left z hm0
    have bk := PFn.frozen1 (P := Tryd.prog) (f := 114) (args := [RowA (zs.map (m * ·)) false, IntA m]) (ty := 28) (es := 2) (n := (zs.map (m * ·)).length) (cells := IC ((zs.map (m * ·)).map (· / m))) (k := .i64) (e := ((0 : Nat) : Int)) fun H Q hq =>
      rowover_run hzm (bm.mono (by omega)) (by omega) hm0 (by omega) (fun _ => hq) fun ⟨z, hz1, hz2⟩ => by
        obtain ⟨y, _, rfl⟩ := List.mem_map.1 hz1
        exact absurd (Int.mul_emod_right m y) hz2
    rw [hback, lzm] at bk
    have tl := tail l ((0 : Nat) : Int) _ M1 p2 p3 (fun o x ho => lM1 o x (lH o x ho)) hlO fl (lM1 _ _ g2) (lM1 _ _ g3) ?_
    · simp (disch := first | assumption | (apply Ap.symm; assumption) | omega | decide | (simp only [Xd] <;> omega)) only [sndC, ac19, ↓Xa, Xb, Xc, ↓reduceIte, Nat.reduceLT, Nat.reduceEqDiff, Nat.reduceBEq, Nat.reduceLeDiff, Nat.reduceAdd, Nat.reduceMul] at tl
      simp (disch := first | assumption | (apply Ap.symm; assumption) | omega | decide | (simp only [Xd] <;> omega)) only [↓Xa, Xb, Xc, ↓reduceIte, Nat.reduceLT, Nat.reduceEqDiff, Nat.reduceBEq, Nat.reduceLeDiff, Nat.reduceAdd, Nat.reduceMul]
      exact tl
    intro M' l'
    have g3' := l' _ _ (lM1 _ _ g3)
    have g2' := l' _ _ (lM1 _ _ g2)
    have hl' := hlO.le l'
    have hH' : Le H M' := fun o x ho => l' o x (lM1 o x (lH o x ho))
    simp (disch := first | assumption | (apply Ap.symm; assumption) | omega | decide | (simp only [Xd] <;> omega)) only [sndC, ac19, g3', fold_RefA, ↓Xa, Xb, Xc, ↓reduceIte, Nat.reduceLT, Nat.reduceEqDiff, Nat.reduceBEq, Nat.reduceLeDiff, Nat.reduceAdd, Nat.reduceMul]
    refine (rsign_fn false bm (by omega)).call ?_
    simp (disch := first | assumption | (apply Ap.symm; assumption) | omega | decide | (simp only [Xd] <;> omega)) only [eql_int, hs, g3', fold_RefA, ↓Xa, Xb, Xc, ↓reduceIte, Nat.reduceLT, Nat.reduceEqDiff, Nat.reduceBEq, Nat.reduceLeDiff, Nat.reduceAdd, Nat.reduceMul]
    refine fov.call ?_
    simp (disch := first | assumption | (apply Ap.symm; assumption) | omega | decide | (simp only [Xd] <;> omega)) only [g2', fold_IntA, ↓Xa, Xb, Xc, ↓reduceIte, Nat.reduceLT, Nat.reduceEqDiff, Nat.reduceBEq, Nat.reduceLeDiff, Nat.reduceAdd, Nat.reduceMul]
    refine PFn.dcall (rowsc_fn (t := false) hz bm (by omega) (by omega)) ?_
    simp (disch := first | assumption | (apply Ap.symm; assumption) | omega | decide | (simp only [Xd] <;> omega)) only [g2', fold_IntA, ↓Xa, Xb, Xc, ↓reduceIte, Nat.reduceLT, Nat.reduceEqDiff, Nat.reduceBEq, Nat.reduceLeDiff, Nat.reduceAdd, Nat.reduceMul]
    refine PFn.dcall bk ?_
    simp (disch := first | assumption | (apply Ap.symm; assumption) | omega | decide | (simp only [Xd] <;> omega)) only [eql_int, hd0, ↓Xa, Xb, Xc, ↓reduceIte, Nat.reduceLT, Nat.reduceEqDiff, Nat.reduceBEq, Nat.reduceLeDiff, Nat.reduceAdd, Nat.reduceMul]
    refine PFn.lcall (is4_fn (t := false) (t' := false) hq4 (by omega)) rfl ⟨hl'.lent, Lent.same, trivial⟩ ?_
    simp (disch := first | assumption | (apply Ap.symm; assumption) | omega | decide | (simp only [Xd] <;> omega)) only [↓Xa, Xb, Xc, ↓reduceIte, Nat.reduceLT, Nat.reduceEqDiff, Nat.reduceBEq, Nat.reduceLeDiff, Nat.reduceAdd, Nat.reduceMul]
    refine run_call (own5_run hl' hz (by omega) fun M2 hM2 => ?_)
    have l2 : Le H M2 := fun o x ho => hM2 o x (le_minB hH' fl o x ho)
    simp (disch := first | assumption | (apply Ap.symm; assumption) | omega | decide | (simp only [Xd] <;> omega)) only [eql_int, hd0, ↓Xa, Xb, Xc, ↓reduceIte, Nat.reduceLT, Nat.reduceEqDiff, Nat.reduceBEq, Nat.reduceLeDiff, Nat.reduceAdd, Nat.reduceMul]
    refine (is4_fn (t := false) (t' := false) hz (by omega)).call ?_
    simp (disch := first | assumption | (apply Ap.symm; assumption) | omega | decide | (simp only [Xd] <;> omega)) only [rs19, ↓Xa, Xb, Xc, ↓reduceIte, Nat.reduceLT, Nat.reduceEqDiff, Nat.reduceBEq, Nat.reduceLeDiff, Nat.reduceAdd, Nat.reduceMul]
    exact SetR.dropTo l2 (SetR.now hq)
end Go.Proofs.YtanchgkiomfhhaaDoor.Fw
