/- The texts Lay156 Kj Kh Kk Kl Km Ko Kp Kq Kr Ks Kt Ku Kv, joined. -/
import Derived.Test.YtanchgkiomfhhaaDoorZ7
import Derived.Shelf.Strings.OnBuilder
import Derived.Test.YtanchgkiomfhhaaDoorProg
import Derived.Lib.SmallJoins
/- The numbers under which the library's functions stand in this program, and that their texts are those which the kit's contracts speak of: printed by wip/tools/lay.py. -/
namespace Go.Proofs.YtanchgkiomfhhaaDoor.Fw
open Go Go.Shelf Go.Proofs
def lay156_ren : Ren :=
  {
    f := fun x =>
      match x with
      | 156 => 168
      | 165 => 203
      | 166 => 204
      | 169 => 205
      | 240 => 215
      | 241 => 216
      | 276 => 227
      | 277 => 228
      | n => n,
    t := fun x =>
      match x with
      | 31 => 202
      | 9 => 9
      | 3 => 3
      | 4 => 4
      | 0 => 0
      | 20 => 20
      | 72 => 234
      | 76 => 238
      | 70 => 232
      | 37 => 103
      | 75 => 237
      | 127 => 251
      | 164 => 263
      | 5 => 5
      | 80 => 36
      | n => n,
    g := fun x =>
      have n := x;
      n }
theorem lay156 : Lays.n156 Tryd.prog lay156_ren :=
  { mixed := Eq.refl true, f156 := Eq.trans Tryd.func168 (congrArg some (Eq.refl (Body.n156 lay156_ren))),
    f165 := Eq.trans Tryd.func203 (congrArg some (Eq.refl (Body.n165 lay156_ren))),
    f166 := Eq.trans Tryd.func204 (congrArg some (Eq.refl (Body.n166 lay156_ren))),
    f169 := Eq.trans Tryd.func205 (congrArg some (Eq.refl (Body.n169 lay156_ren))),
    f240 := Eq.trans Tryd.func215 (congrArg some (Eq.refl (Body.n240 lay156_ren))),
    f241 := Eq.trans Tryd.func216 (congrArg some (Eq.refl (Body.n241 lay156_ren))),
    f276 := Eq.trans Tryd.func227 (congrArg some (Eq.refl (Body.n276 lay156_ren))),
    f277 := Eq.trans Tryd.func228 (congrArg some (Eq.refl (Body.n277 lay156_ren))), t0 := Tryd.underlying0,
    a0 := Tryd.isAgg0, z0 := Tryd.sizeOf0, v0 := Tryd.zeroValue0, t3 := Tryd.underlying3, a3 := Tryd.isAgg3,
    z3 := Tryd.sizeOf3, v3 := Tryd.zeroValue3, t4 := Tryd.underlying4, a4 := Tryd.isAgg4, z4 := Tryd.sizeOf4,
    v4 := Tryd.zeroValue4, t9 := Tryd.underlying9, a9 := Tryd.isAgg9, z9 := Tryd.sizeOf9, v9 := Tryd.zeroValue9,
    t20 := Tryd.underlying20, a20 := Tryd.isAgg20, z20 := Tryd.sizeOf20, v20 := Tryd.zeroValue20,
    t31 := Tryd.underlying202, a31 := Tryd.isAgg202, z31 := Tryd.sizeOf202, v31 := Tryd.zeroValue202,
    t37 := Tryd.underlying103, a37 := Tryd.isAgg103, z37 := Tryd.sizeOf103, v37 := Tryd.zeroValue103,
    t70 := Tryd.underlying232, a70 := Tryd.isAgg232, z70 := Tryd.sizeOf232, v70 := Tryd.zeroValue232,
    t72 := Tryd.underlying234, a72 := Tryd.isAgg234, z72 := Tryd.sizeOf234, v72 := Tryd.zeroValue234,
    t75 := Tryd.underlying237, a75 := Tryd.isAgg237, z75 := Tryd.sizeOf237, v75 := Tryd.zeroValue237,
    t76 := Tryd.underlying238, a76 := Tryd.isAgg238, z76 := Tryd.sizeOf238, v76 := Tryd.zeroValue238,
    t127 := Tryd.underlying251, a127 := Tryd.isAgg251, z127 := Tryd.sizeOf251, v127 := Tryd.zeroValue251,
    t164 := Tryd.underlying263, a164 := Tryd.isAgg263, z164 := Tryd.sizeOf263, v164 := Tryd.zeroValue263 }
end Go.Proofs.YtanchgkiomfhhaaDoor.Fw

/- Strings joined: by the kit's contract. -/
namespace Go.Proofs.YtanchgkiomfhhaaDoor.Fw
set_option linter.unusedSimpArgs false
set_option linter.unusedVariables false
open Go Go.Proofs.YtanchgkiomfhhaaDoor.Ma Go.Shelf
set_option maxRecDepth 20000

theorem pfn_calls {P : Program} {f : FuncId} {args : List AV} {r : AV} (hf : ∃ fn, P.funcs[f]? = some fn ∧ (fn.name == "runtime.NumGoroutine") = false ∧ fn.body.isNone = false)
    (h : ∀ (c : Ctx) (vs : Array Value), Ok c → vs.size = args.length → (∀ i (h : i < args.length) (h' : i < vs.size), Enc c (args[i]) (vs[i])) → Calls P f vs c.w fun e w' => ∃ v, e = .returned v ∧ (∀ c', Enc c' r v) ∧ Go.RowKit.Below c.w.heap.size c.w w') : PFn P f args r := by
  intro H Q hq
  refine ⟨hf, fun c vs hH hok hs he => (h c vs hok hs he).mono ?_⟩
  rintro e w' ⟨v, rfl, hr, hb⟩
  let c2 : Ctx := { c with w := w' }
  have hsz : ∀ i x, c.H i = some x → c.μ i < c.w.heap.size := fun i x e => by
    have := hok.blk i x e
    cases x with
    | row ty es cells => obtain ⟨arr, h1, _⟩ := this; exact (Array.getElem?_eq_some_iff.1 h1).1
    | raw o => exact (Array.getElem?_eq_some_iff.1 this.1).1
    | glob g cells => rw [this.1]; exact this.2.1
    | loop st pend fn ps assign body n E => obtain ⟨tm, dd, h1, _⟩ := this; exact (Array.getElem?_eq_some_iff.1 h1).1
  have later : Later c c2 := by
    refine ⟨⟨hb.size, hb.os, hb.tape, hb.output, fun _ h => h, ?_, fun k hk hm => ⟨hb.block k hk, hm⟩⟩, fun _ h => ⟨h, fun k => k⟩⟩
    intro i x' _ hx'
    exact ⟨x', hx', Nat.le_refl _, fun _ => ⟨rfl, fun ty' es' cells' e => ⟨cells', e, fun arr ha => ⟨arr, (hb.block _ (hsz i x' hx')).trans ha, rfl⟩⟩⟩⟩
  have ok : Ok c2 := ⟨hok.used, hok.fin, hok.inj, fun b x hx => (hok.blk b x hx).later later rfl (hb.block _ (hsz b x hx))⟩
  exact ⟨c2, v, r, rfl, rfl, ok, later, hr c2, by show Q r c.H; rw [hH]; exact hq⟩
theorem joinX : Builder.Extra Tryd.prog lay156_ren where
  sizeBuilder := by kernel_rfl
  liesBuilder := by kernel_rfl
  t5 := Tryd.underlying5
  a5 := Tryd.isAgg5
  z5 := Tryd.sizeOf5
  v5 := Tryd.zeroValue5
  infoByte := by kernel_rfl
  cellsByte := by kernel_rfl
  sizeByte := by kernel_rfl
  neB5 := by decide
theorem join_fn (xs : List (List UInt8)) (sep : List UInt8) (t : Bool) (hN : xs.length ≤ 1000000) (hlen : (Lib.join xs sep).length ≤ 140737488355328) : PFn Tryd.prog 168 [.seq xs.length (xs.map Sx) t, Sx sep] (Sx (Lib.join xs sep)) := by
  by_cases h0 : xs = []
  · subst h0
    intro H Q hq
    refine enter168 (by simp) ?_
    have e : Lib.join ([] : List (List UInt8)) sep = [] := rfl
    rw [e] at hq
    have l0 : ([] : List (List UInt8)).length = 0 := rfl
    simp (disch := first | assumption | (apply Ap.symm; assumption) | omega | decide | (simp only [Xd] <;> omega)) only [ac168, l0, len_rw, rs168, ↓Xa, Xb, Xc, ↓reduceIte, Nat.reduceLT, Nat.reduceEqDiff, Nat.reduceBEq, Nat.reduceLeDiff, Nat.reduceAdd, Nat.reduceMul]
    exact SetR.now hq
  · refine pfn_calls ⟨_, Tryd.func168, by kernel_rfl, by kernel_rfl⟩ fun c vs hok hs he => ?_
    obtain ⟨v0, v1, rfl⟩ : ∃ v0 v1, vs = #[v0, v1] := Go.Joins.array2 hs
    have e0 : Enc c (.seq xs.length (xs.map Sx) t) v0 := he 0 (by simp) (by simp)
    have e1 : Enc c (Sx sep) v1 := he 1 (by simp) (by simp)
    cases e1
    cases e0 with
    | seq _ _ _ base cap cv hlen' hcap hmax ht hb hn hc =>
      obtain ⟨k, off, rfl, hmu, hk, hcell⟩ := hb (by simpa using List.length_pos_iff.2 h0)
      have hce : ∀ (j : Nat) x, (xs.map fun l => (⟨l.toArray⟩ : ByteArray))[j]? = some x → c.w.cell? ⟨k, off + j, none⟩ = some (.string x) := fun j x hx => by
        rw [List.getElem?_map] at hx
        obtain ⟨y, hy, rfl⟩ := Option.map_eq_some_iff.1 hx
        obtain ⟨hj, hy⟩ := List.getElem?_eq_some_iff.1 hy
        have h1 := hcell j (by simpa using hj)
        have h2 := hc j (by simpa using hj)
        rw [List.getElem_map, hy] at h2
        generalize cv j = u at h1 h2
        cases h2
        exact h1
      have hm : (xs.map fun l => (⟨l.toArray⟩ : ByteArray)).map (·.data.toList) = xs := by
        rw [List.map_map]
        exact (List.map_congr_left fun l _ => by simp).trans (List.map_id xs)
      have := Any.strings_Join (P := Tryd.prog) (ρ := lay156_ren) lay156 joinX k off cap (xs.map fun l => (⟨l.toArray⟩ : ByteArray)) ⟨sep.toArray⟩ c.w hce hk (by simpa using Nat.le_trans hN (by omega)) (by simpa using hcap) (by rw [hm]; simpa using hlen)
      rw [hm, List.length_map] at this
      refine this.mono fun e w' ⟨h1, h2⟩ => ⟨_, h1, fun c' => ?_, h2⟩
      simp only [Sx]
      exact .str _
end Go.Proofs.YtanchgkiomfhhaaDoor.Fw

/- Rows of whole numbers: made of small ones, told; what the laws' own helpers answer. -/
namespace Go.Proofs.YtanchgkiomfhhaaDoor.Fw
set_option linter.unusedSimpArgs false
set_option linter.unusedVariables false
open Go Go.Proofs.YtanchgkiomfhhaaDoor.Ma
set_option maxRecDepth 20000

theorem repF0 {a : AV} : repA [a] 1 = [a] := by simp [repA, List.range, List.range.loop]
theorem load_map {α : Type} {f : α → AV} {l : List α} {H : AHeap} {K : AV → Prop} {i : Nat} (h : i < l.length) : loadW H none (.cptr ((l.map f).drop i)) K = K (f (l[i])) := by
  have hi : i < (l.map f).length := by simpa using h
  simp only [loadW, cellsAt, List.drop_eq_getElem_cons hi]
  simp
theorem idx_map {α : Type} {f : α → AV} {l : List α} {t : Bool} {k : IntKind} {K : AV → Prop} {i : Nat} (h : i < l.length) : idxAW 1 (.seq l.length (l.map f) t) (.int k (i : Int)) K = K (.cptr ((l.map f).drop (i * 1))) := idx_rw (by simp) h
abbrev iA (n : Int) : AV := .int .i64 n
theorem rowof_run {l : List Int} {t : Bool} (hb : ∀ n, n ∈ l → -9223372036854775808 ≤ n ∧ n < 9223372036854775808) (hbig : l.length ≤ 1000000) {H : AHeap} {Q : AV → AHeap → Prop} (hq : ∀ y M, growC H 28 2 l.length (IC l) y M → Q y M) : Run Tryd.prog 54 [.seq l.length (l.map iA) t] H Q := by
  refine enter54 (by simp) ?_
  simp (disch := first | assumption | (apply Ap.symm; assumption) | omega | decide | (simp only [Xd] <;> omega)) only [ac54, len_rw, ↓Xa, Xb, Xc, ↓reduceIte, Nat.reduceLT, Nat.reduceEqDiff, Nat.reduceBEq, Nat.reduceLeDiff, Nat.reduceAdd, Nat.reduceMul]
  refine W_loop (fun s : Nat × AV × AHeap => ⟨[], [(3, s.2.1), (6, .seq l.length (l.map iA) t), (7, .int .i64 (l.length : Int)), (8, .int .i64 s.1)], s.2.2⟩) (fun s => s.1 ≤ l.length ∧ growC H 28 2 s.1 (IC (l.take s.1)) s.2.1 s.2.2) (fun s => l.length - s.1) (0, .seq 0 [] true, H) (Settle.now rfl) ⟨Nat.zero_le _, growC_nil⟩ ?_
  rintro ⟨i, y, M⟩ ⟨h3, hg⟩
  dsimp only at h3 hg ⊢
  by_cases hi : i < l.length
  · simp (disch := first | assumption | (apply Ap.symm; assumption) | omega | decide | (simp only [Xd] <;> omega)) only [hi, idx_map, load_map, ↓Xa, Xb, Xc, ↓reduceIte, Nat.reduceLT, Nat.reduceEqDiff, Nat.reduceBEq, Nat.reduceLeDiff, Nat.reduceAdd, Nat.reduceMul]
    refine (of_fn (hb _ (List.getElem_mem hi))).call ?_
    simp (disch := first | assumption | (apply Ap.symm; assumption) | omega | decide | (simp only [Xd] <;> omega)) only [repI1, cells_IntA, ↓Xa, Xb, Xc, ↓reduceIte, Nat.reduceLT, Nat.reduceEqDiff, Nat.reduceBEq, Nat.reduceLeDiff, Nat.reduceAdd, Nat.reduceMul]
    refine app_C (m := 1) hg rfl cellI (by omega) (by omega) (by omega) fun y' M2 hg3 => ?_
    rw [← IC_take] at hg3
    simp (disch := first | assumption | (apply Ap.symm; assumption) | omega | decide | (simp only [Xd] <;> omega)) only [↓Xa, Xb, Xc, ↓reduceIte, Nat.reduceLT, Nat.reduceEqDiff, Nat.reduceBEq, Nat.reduceLeDiff, Nat.reduceAdd, Nat.reduceMul]
    exact Settle.now ⟨(i + 1, y', M2), by dsimp only; omega, ⟨by dsimp only; omega, hg3⟩, rfl⟩
  · obtain rfl : i = l.length := by omega
    rw [List.take_of_length_le (by omega)] at hg
    simp (disch := first | assumption | (apply Ap.symm; assumption) | omega | decide | (simp only [Xd] <;> omega)) only [hi, ↓Xa, Xb, Xc, ↓reduceIte, Nat.reduceLT, Nat.reduceEqDiff, Nat.reduceBEq, Nat.reduceLeDiff, Nat.reduceAdd, Nat.reduceMul]
    refine Settle.now ?_
    simp (disch := first | assumption | (apply Ap.symm; assumption) | omega | decide | (simp only [Xd] <;> omega)) only [rs54, ↓Xa, Xb, Xc, ↓reduceIte, Nat.reduceLT, Nat.reduceEqDiff, Nat.reduceBEq, Nat.reduceLeDiff, Nat.reduceAdd, Nat.reduceMul]
    exact SetR.now (hq y M hg)
theorem rowof_fn {l : List Int} {t : Bool} (hb : ∀ n, n ∈ l → -9223372036854775808 ≤ n ∧ n < 9223372036854775808) (hbig : l.length ≤ 1000000) : PFn Tryd.prog 54 [.seq l.length (l.map iA) t] (RowA l false) :=
  PFn.frozen fun _ _ hq => rowof_run hb hbig hq

def joinT : List (List UInt8) → List UInt8
  | [] => []
  | [x] => x
  | x :: y :: r => x ++ 32 :: joinT (y :: r)
theorem joinT_eq : ∀ xs : List (List UInt8), Lib.join xs [32] = joinT xs
  | [] => rfl
  | [x] => by simp [Lib.join, joinT, List.intercalate]
  | x :: y :: r => by
    have := joinT_eq (y :: r)
    simp only [Lib.join, joinT, List.intercalate] at this ⊢
    rw [← this]
    simp
theorem joinT_len {k : Nat} : ∀ xs : List (List UInt8), (∀ x, x ∈ xs → x.length ≤ k) → (joinT xs).length ≤ xs.length * (k + 1)
  | [], _ => by simp [joinT]
  | [x], h => by have := h x (by simp); simp [joinT]; omega
  | x :: y :: r, h => by
    have h1 := joinT_len (y :: r) fun z hz => h z (by simp at hz ⊢; exact .inr hz)
    have h2 := h x (by simp)
    simp only [joinT, List.length_append, List.length_cons] at h1 ⊢
    rw [Nat.add_mul]; omega
def rowT (zs : List Int) : List UInt8 := 91 :: joinT (zs.map iText) ++ [93]
theorem joinI_len {k : Nat} {zs : List Int} (hz : RB4 k zs) (hk : k ≤ 1000000) (hbig : zs.length ≤ 1000000) : (joinT (zs.map iText)).length ≤ 1000000 * 10000003 := by
  refine Nat.le_trans (joinT_len (k := 10 * k + 2) _ fun x hx => ?_) ?_
  · obtain ⟨z, hm, rfl⟩ := List.mem_map.1 hx
    exact iText_len (hz.1 z hm)
  · rw [List.length_map]; exact Nat.mul_le_mul hbig (by omega)
theorem cell_Sx1 {l : List UInt8} : [Sx l].all AV.cell = true := rfl
theorem rowt_fn {zs : List Int} {t : Bool} {k : Nat} (hz : RB4 k zs) (hk : k ≤ 1000000) (hbig : zs.length ≤ 1000000) : PFn Tryd.prog 86 [RowA zs t] (Sx (rowT zs)) := by
  intro H Q hq
  have nz : zs.length < 9223372036854775808 := by omega
  have hjl := joinI_len hz hk hbig
  refine enter86 (by simp) ?_
  simp (disch := first | assumption | (apply Ap.symm; assumption) | omega | decide | (simp only [Xd] <;> omega)) only [ac86, len_rw, ↓Xa, Xb, Xc, ↓reduceIte, Nat.reduceLT, Nat.reduceEqDiff, Nat.reduceBEq, Nat.reduceLeDiff, Nat.reduceAdd, Nat.reduceMul]
  refine W_loop (fun s : Nat × AV × AHeap => ⟨[], [(3, s.2.1), (6, RowA zs t), (7, .int .i64 (zs.length : Int)), (8, .int .i64 s.1)], s.2.2⟩) (fun s => s.1 ≤ zs.length ∧ growC H 9 1 s.1 ((zs.take s.1).map fun z => Sx (iText z)) s.2.1 s.2.2) (fun s => zs.length - s.1) (0, .seq 0 [] true, H) (Settle.now rfl) ⟨Nat.zero_le _, growC_nil⟩ ?_
  rintro ⟨i, y, M⟩ ⟨h3, hg⟩
  dsimp only at h3 hg ⊢
  by_cases hi : i < zs.length
  · simp (disch := first | assumption | (apply Ap.symm; assumption) | omega | decide | (simp only [Xd] <;> omega)) only [hi, idx_IC, load_IC, ↓Xa, Xb, Xc, ↓reduceIte, Nat.reduceLT, Nat.reduceEqDiff, Nat.reduceBEq, Nat.reduceLeDiff, Nat.reduceAdd, Nat.reduceMul]
    refine alloc_i fun q hq1 => ?_
    simp (disch := first | assumption | (apply Ap.symm; assumption) | omega | decide | (simp only [Xd] <;> omega)) only [cells_IntA, fold_IntA, ↓Xa, Xb, Xc, ↓reduceIte, Nat.reduceLT, Nat.reduceEqDiff, Nat.reduceBEq, Nat.reduceLeDiff, Nat.reduceAdd, Nat.reduceMul]
    have hg1 := growC_upd (r := .row 28 0 [IntB (zs[i]), IntD (zs[i])]) hg hq1
    refine (itext_fn (hz.at hi) hk).call ?_
    simp (disch := first | assumption | (apply Ap.symm; assumption) | omega | decide | (simp only [Xd] <;> omega)) only [repF0, cells_Sx, str_Sx, ↓Xa, Xb, Xc, ↓reduceIte, Nat.reduceLT, Nat.reduceEqDiff, Nat.reduceBEq, Nat.reduceLeDiff, Nat.reduceAdd, Nat.reduceMul]
    refine app_C (m := 1) hg1 rfl cell_Sx1 (by omega) (by omega) (by omega) fun y' M2 hg3 => ?_
    have e : (zs.take (i + 1)).map (fun z => Sx (iText z)) = (zs.take i).map (fun z => Sx (iText z)) ++ [Sx (iText (zs[i]))] := by
      rw [List.take_add_one, List.getElem?_eq_getElem hi, Option.toList_some, List.map_append]; rfl
    rw [← e] at hg3
    obtain ⟨M3, hg4, hl4⟩ := growC_le2 hg3 ((Le.refl H).upd (growC_none hg hq1))
    simp (disch := first | assumption | (apply Ap.symm; assumption) | omega | decide | (simp only [Xd] <;> omega)) only [↓Xa, Xb, Xc, ↓reduceIte, Nat.reduceLT, Nat.reduceEqDiff, Nat.reduceBEq, Nat.reduceLeDiff, Nat.reduceAdd, Nat.reduceMul]
    exact Settle.dropTo hl4 (Settle.now ⟨(i + 1, y', M3), by dsimp only; omega, ⟨by dsimp only; omega, hg4⟩, rfl⟩)
  · obtain rfl : i = zs.length := by omega
    rw [List.take_of_length_le (by omega)] at hg
    simp (disch := first | assumption | (apply Ap.symm; assumption) | omega | decide | (simp only [Xd] <;> omega)) only [hi, ↓Xa, Xb, Xc, ↓reduceIte, Nat.reduceLT, Nat.reduceEqDiff, Nat.reduceBEq, Nat.reduceLeDiff, Nat.reduceAdd, Nat.reduceMul]
    refine Settle.grownC 3 rfl hg (Settle.now ?_)
    have hj := join_fn (zs.map iText) [32] false (by simpa using hbig) (by rw [joinT_eq]; omega)
    rw [joinT_eq, List.length_map, List.map_map] at hj
    have s1 : AV.str ⟨#[91]⟩ = Sx [91] := rfl
    have s2 : AV.str ⟨#[93]⟩ = Sx [93] := rfl
    have s3 : AV.str ⟨#[32]⟩ = Sx [32] := rfl
    have e1 : ∀ K, binW .add (Sx [91]) (Sx (joinT (zs.map iText))) K = K (Sx (91 :: joinT (zs.map iText))) := fun K => add_Sx (by simp only [List.length_cons, List.length_append, List.length_nil]; omega)
    have e2 : ∀ K, binW .add (Sx (91 :: joinT (zs.map iText))) (Sx [93]) K = K (Sx (rowT zs)) := fun K => by rw [add_Sx (by simp only [List.length_cons, List.length_append, List.length_nil]; omega)]; rfl
    simp (disch := first | assumption | (apply Ap.symm; assumption) | omega | decide | (simp only [Xd] <;> omega)) only [s3, ↓Xa, Xb, Xc, ↓reduceIte, Nat.reduceLT, Nat.reduceEqDiff, Nat.reduceBEq, Nat.reduceLeDiff, Nat.reduceAdd, Nat.reduceMul]
    refine hj.call ?_
    simp (disch := first | assumption | (apply Ap.symm; assumption) | omega | decide | (simp only [Xd] <;> omega)) only [s1, s2, e1, e2, rs86, ↓Xa, Xb, Xc, ↓reduceIte, Nat.reduceLT, Nat.reduceEqDiff, Nat.reduceBEq, Nat.reduceLeDiff, Nat.reduceAdd, Nat.reduceMul]
    exact SetR.now hq
end Go.Proofs.YtanchgkiomfhhaaDoor.Fw

/- The row laws' own helpers: an answer that is fixed, rows that are too long, a row in both, one number in both, rows in both. -/
namespace Go.Proofs.YtanchgkiomfhhaaDoor.Fw
set_option linter.unusedSimpArgs false
set_option linter.unusedVariables false
open Go Go.Proofs.YtanchgkiomfhhaaDoor.Ma
set_option maxRecDepth 20000

theorem repL2 {a : AV} : repA [a] 2 = [a, a] := by simp [repA, List.range, List.range.loop]
theorem live4_t : rowT [4, -2] = [91, 52, 32, 45, 50, 93] := by simp [rowT, joinT, iText, decT, dec, digs, chr]
theorem live4_fn : PFn Tryd.prog 32 [] (.bool true) := by
  intro H Q hq
  obtain ⟨L1, e1, of1⟩ : ∃ L1, L1 = RowA [1, 2] false ∧ PFn Tryd.prog 54 [.seq 2 [.int .i64 ((1 : Nat) : Int), .int .i64 ((2 : Nat) : Int)] true] L1 := ⟨_, rfl, rowof_fn (l := [1, 2]) (by simp) (by simp)⟩
  obtain ⟨L2, e2, of2⟩ : ∃ L2, L2 = RowA [3, -4] false ∧ PFn Tryd.prog 54 [.seq 2 [.int .i64 ((3 : Nat) : Int), .int .i64 (-4)] true] L2 := ⟨_, rfl, rowof_fn (l := [3, -4]) (by simp) (by simp)⟩
  have b1 : RB4 2 [1, 2] := ⟨fun z h => Bd.i64 (by simp at h; omega), by simp⟩
  have b2 : RB4 2 [3, -4] := ⟨fun z h => Bd.i64 (by simp at h; omega), by simp⟩
  have b3 : RB4 2 [4, -2] := ⟨fun z h => Bd.i64 (by simp at h; omega), by simp⟩
  obtain ⟨L3, e3, add⟩ : ∃ L3, L3 = RowA [4, -2] false ∧ PFn Tryd.prog 37 [L1, L2] (.tup [L3, .int .i64 ((0 : Nat) : Int)]) := ⟨_, rfl, by
    rw [e1, e2]
    exact PFn.frozen1 fun H Q hq => rowadd_run b1 b2 (by omega) rfl (by simp) hq⟩
  have tx := rowt_fn (t := false) b3 (by omega) (by simp)
  rw [← e3, live4_t] at tx
  have s1 : AV.str ⟨#[91, 52, 32, 45, 50, 93]⟩ = Sx [91, 52, 32, 45, 50, 93] := rfl
  refine enter32 (by simp) ?_
  simp (disch := first | assumption | (apply Ap.symm; assumption) | omega | decide | (simp only [Xd] <;> omega)) only [ac32, repL2, ↓Xa, Xb, Xc, ↓reduceIte, Nat.reduceLT, Nat.reduceEqDiff, Nat.reduceBEq, Nat.reduceLeDiff, Nat.reduceAdd, Nat.reduceMul]
  refine of1.call ?_
  simp (disch := first | assumption | (apply Ap.symm; assumption) | omega | decide | (simp only [Xd] <;> omega)) only [repL2, ↓Xa, Xb, Xc, ↓reduceIte, Nat.reduceLT, Nat.reduceEqDiff, Nat.reduceBEq, Nat.reduceLeDiff, Nat.reduceAdd, Nat.reduceMul]
  refine of2.call ?_
  simp (disch := first | assumption | (apply Ap.symm; assumption) | omega | decide | (simp only [Xd] <;> omega)) only [↓Xa, Xb, Xc, ↓reduceIte, Nat.reduceLT, Nat.reduceEqDiff, Nat.reduceBEq, Nat.reduceLeDiff, Nat.reduceAdd, Nat.reduceMul]
  refine add.call ?_
  simp (disch := first | assumption | (apply Ap.symm; assumption) | omega | decide | (simp only [Xd] <;> omega)) only [eql_self, ↓Xa, Xb, Xc, ↓reduceIte, Nat.reduceLT, Nat.reduceEqDiff, Nat.reduceBEq, Nat.reduceLeDiff, Nat.reduceAdd, Nat.reduceMul]
  refine tx.call ?_
  simp (disch := first | assumption | (apply Ap.symm; assumption) | omega | decide | (simp only [Xd] <;> omega)) only [s1, eql_Sx, rs32, ↓Xa, Xb, Xc, ↓reduceIte, Nat.reduceLT, Nat.reduceEqDiff, Nat.reduceBEq, Nat.reduceLeDiff, Nat.reduceAdd, Nat.reduceMul]
  exact SetR.now hq

/-! ### too long -/
def sumN : List Nat → Nat
  | [] => 0
  | a :: l => a + sumN l
theorem sumN_app : ∀ (l m : List Nat), sumN (l ++ m) = sumN l + sumN m
  | [], m => by simp [sumN]
  | a :: l, m => by simp only [List.cons_append, sumN, sumN_app l m]; omega
theorem sumN_mem : ∀ {l : List Nat} {a : Nat}, a ∈ l → a ≤ sumN l
  | x :: l, a, h => by
    rcases List.mem_cons.1 h with rfl | h
    · simp [sumN]
    · have := sumN_mem h; simp only [sumN]; omega
theorem sumN_take (l : List Nat) (i : Nat) : sumN (l.take i) ≤ sumN l := by
  conv => rhs; rw [← List.take_append_drop i l, sumN_app]
  omega
theorem sumN_succ {l : List Nat} {i : Nat} (h : i < l.length) : sumN (l.take (i + 1)) = sumN (l.take i) + l[i] := by
  rw [List.take_add_one, List.getElem?_eq_getElem h, Option.toList_some, sumN_app]; simp [sumN]
theorem NumsC_len (l : List NumV) : (NumsC l).length = l.length * 2 := by unfold NumsC; rw [pair_len (c0 := fun q : NumV => AV.bool q.1) (c1 := fun q : NumV => LS q.2.1 q.2.2)]; omega
theorem NumsC_drop : ∀ (l : List NumV) (i : Nat) (h : i < l.length), (NumsC l).drop (i * 2) = .bool (l[i]).1 :: LS (l[i]).2.1 (l[i]).2.2 :: (NumsC l).drop (i * 2 + 2)
  | a :: l, 0, _ => rfl
  | a :: l, i + 1, h => by
    have := NumsC_drop l i (by simpa using h)
    rw [show (i + 1) * 2 = i * 2 + 2 by omega]
    show ((.bool a.1 :: LS a.2.1 a.2.2 :: NumsC l).drop (i * 2 + 2)) = _
    simp only [List.drop_succ_cons, List.getElem_cons_succ]
    rw [this]
    show _ = _ :: _ :: ((.bool a.1 :: LS a.2.1 a.2.2 :: NumsC l).drop (i * 2 + 2 + 2))
    simp only [List.drop_succ_cons]
section
variable {K : AV → Prop} {H : AHeap} {k : IntKind} {t : Bool} {l : List NumV} {i : Nat}
theorem idx_NC (h : i < l.length) : idxAW 2 (.seq l.length (NumsC l) t) (.int k (i : Int)) K = K (.cptr ((NumsC l).drop (i * 2))) := idx_rw (NumsC_len l) h
theorem load_NC0 (h : i < l.length) : loadW H none (.cptr ((NumsC l).drop (i * 2))) K = K (.bool (l[i]).1) := by
  simp only [loadW, cellsAt, NumsC_drop l i h]; simp
theorem load_NC1 (h : i < l.length) : loadW H none (.cptr (((NumsC l).drop (i * 2)).drop 1)) K = K (LS (l[i]).2.1 (l[i]).2.2) := by
  simp only [loadW, cellsAt, NumsC_drop l i h]; simp
end
def numT (l : List NumV) : Nat := l.length + sumN (l.map fun q => q.2.1.length)
abbrev rowN (x : List NumV × Bool) : AV := .seq x.1.length (NumsC x.1) x.2
theorem long4_fn {ll : List (List NumV × Bool)} {t : Bool} (hl : ll.length ≤ 1000) (hg : ∀ x, x ∈ ll → x.1.length ≤ 140737488355328 ∧ ∀ q, q ∈ x.1 → q.2.1.length ≤ 140737488355328) :
    PFn Tryd.prog 33 [.seq ll.length (ll.map rowN) t] (.bool (decide (300 < sumN (ll.map fun x => numT x.1)))) := by
  intro H Q hq
  have big : ∀ {n : Nat}, 300 < n → n ≤ sumN (ll.map fun x => numT x.1) → Q (.bool true) H := fun h h2 => by
    rw [decide_eq_true (by omega)] at hq; exact hq
  refine enter33 (by simp) ?_
  simp (disch := first | assumption | (apply Ap.symm; assumption) | omega | decide | (simp only [Xd] <;> omega)) only [ac33, ↓Xa, Xb, Xc, ↓reduceIte, Nat.reduceLT, Nat.reduceEqDiff, Nat.reduceBEq, Nat.reduceLeDiff, Nat.reduceAdd, Nat.reduceMul]
  refine W_loop (fun s : Nat => ⟨[], [(0, .seq ll.length (ll.map rowN) t), (3, .int .i64 ((sumN ((ll.take s).map fun x => numT x.1) : Nat) : Int)), (4, .int .i64 s)], H⟩) (fun s => s ≤ ll.length ∧ sumN ((ll.take s).map fun x => numT x.1) ≤ 300) (fun s => ll.length - s) 0 (Settle.now rfl) ⟨Nat.zero_le _, by simp [sumN]⟩ ?_
  rintro i ⟨h3, hn⟩
  by_cases hi : i < ll.length
  · have hsucc : sumN ((ll.take (i + 1)).map fun x => numT x.1) = sumN ((ll.take i).map fun x => numT x.1) + numT (ll[i]).1 := by
      rw [List.map_take, sumN_succ (by simpa using hi), ← List.map_take, List.getElem_map]
    have htot : sumN ((ll.take (i + 1)).map fun x => numT x.1) ≤ sumN (ll.map fun x => numT x.1) := by rw [List.map_take]; exact sumN_take _ _
    obtain ⟨g1, g2⟩ := hg _ (List.getElem_mem hi)
    generalize hL : ll[i] = L at *
    obtain ⟨l, tl⟩ := L
    dsimp only at g1 g2 hsucc
    have hnt : numT l = l.length + sumN (l.map fun q => q.2.1.length) := rfl
    generalize hn0 : sumN ((ll.take i).map fun x => numT x.1) = n at *
    have hld : ∀ {M : AHeap} {K : AV → Prop}, loadW M none (.cptr ((ll.map rowN).drop i)) K = K (rowN (l, tl)) := fun {M K} => by rw [load_map hi, hL]
    by_cases hx : 300 < n + l.length
    · simp (disch := first | assumption | (apply Ap.symm; assumption) | omega | decide | (simp only [Xd] <;> omega)) only [hi, len_rw, idx_map, hld, hx, rs33, ↓Xa, Xb, Xc, ↓reduceIte, Nat.reduceLT, Nat.reduceEqDiff, Nat.reduceBEq, Nat.reduceLeDiff, Nat.reduceAdd, Nat.reduceMul]
      exact SetR.now (big hx (by omega))
    · simp (disch := first | assumption | (apply Ap.symm; assumption) | omega | decide | (simp only [Xd] <;> omega)) only [hi, len_rw, idx_map, hld, hx, ↓Xa, Xb, Xc, ↓reduceIte, Nat.reduceLT, Nat.reduceEqDiff, Nat.reduceBEq, Nat.reduceLeDiff, Nat.reduceAdd, Nat.reduceMul]
      refine W_loop (fun s : Nat => ⟨[], [(0, .seq ll.length (ll.map rowN) t), (3, .int .i64 ((n + l.length + sumN ((l.take s).map fun q => q.2.1.length) : Nat) : Int)), (4, .int .i64 i), (5, .int .i64 s)], H⟩) (fun s => s ≤ l.length ∧ n + l.length + sumN ((l.take s).map fun q => q.2.1.length) ≤ 300) (fun s => l.length - s) 0 (Settle.now rfl) ⟨Nat.zero_le _, by simp [sumN]; omega⟩ ?_
      rintro k ⟨h4, hm⟩
      by_cases hk : k < l.length
      · have ksucc : sumN ((l.take (k + 1)).map fun q => q.2.1.length) = sumN ((l.take k).map fun q => q.2.1.length) + (l[k]).2.1.length := by
          rw [List.map_take, sumN_succ (by simpa using hk), ← List.map_take, List.getElem_map]
        have ktot : sumN ((l.take (k + 1)).map fun q => q.2.1.length) ≤ sumN (l.map fun q => q.2.1.length) := by rw [List.map_take]; exact sumN_take _ _
        have gk := g2 _ (List.getElem_mem hk)
        generalize hs0 : sumN ((l.take k).map fun q => q.2.1.length) = s at *
        by_cases hy : 300 < n + l.length + s + (l[k]).2.1.length
        · simp (disch := first | assumption | (apply Ap.symm; assumption) | omega | decide | (simp only [Xd] <;> omega)) only [hi, hk, len_rw, idx_map, hld, idx_NC, load_NC1, hy, rs33, ↓Xa, Xb, Xc, ↓reduceIte, Nat.reduceLT, Nat.reduceEqDiff, Nat.reduceBEq, Nat.reduceLeDiff, Nat.reduceAdd, Nat.reduceMul]
          exact SetR.now (big hy (by omega))
        · simp (disch := first | assumption | (apply Ap.symm; assumption) | omega | decide | (simp only [Xd] <;> omega)) only [hi, hk, len_rw, idx_map, hld, idx_NC, load_NC1, hy, ↓Xa, Xb, Xc, ↓reduceIte, Nat.reduceLT, Nat.reduceEqDiff, Nat.reduceBEq, Nat.reduceLeDiff, Nat.reduceAdd, Nat.reduceMul]
          refine Settle.now ⟨k + 1, by omega, ⟨by omega, by rw [ksucc]; omega⟩, ?_⟩
          rw [ksucc]; simp [Nat.add_assoc]
      · simp (disch := first | assumption | (apply Ap.symm; assumption) | omega | decide | (simp only [Xd] <;> omega)) only [hi, hk, len_rw, idx_map, hld, ↓Xa, Xb, Xc, ↓reduceIte, Nat.reduceLT, Nat.reduceEqDiff, Nat.reduceBEq, Nat.reduceLeDiff, Nat.reduceAdd, Nat.reduceMul]
        rw [List.take_of_length_le (by omega)] at hm
        refine Settle.now ?_
        simp (disch := first | assumption | (apply Ap.symm; assumption) | omega | decide | (simp only [Xd] <;> omega)) only [↓Xa, Xb, Xc, ↓reduceIte, Nat.reduceLT, Nat.reduceEqDiff, Nat.reduceBEq, Nat.reduceLeDiff, Nat.reduceAdd, Nat.reduceMul]
        refine Settle.now ⟨i + 1, by omega, ⟨by omega, by rw [hsucc]; omega⟩, ?_⟩
        rw [hsucc, List.take_of_length_le (by omega)]; simp [numT, Nat.add_assoc]
  · simp (disch := first | assumption | (apply Ap.symm; assumption) | omega | decide | (simp only [Xd] <;> omega)) only [hi, len_rw, ↓Xa, Xb, Xc, ↓reduceIte, Nat.reduceLT, Nat.reduceEqDiff, Nat.reduceBEq, Nat.reduceLeDiff, Nat.reduceAdd, Nat.reduceMul]
    rw [List.take_of_length_le (by omega)] at hn
    refine Settle.now ?_
    simp (disch := first | assumption | (apply Ap.symm; assumption) | omega | decide | (simp only [Xd] <;> omega)) only [rs33, ↓Xa, Xb, Xc, ↓reduceIte, Nat.reduceLT, Nat.reduceEqDiff, Nat.reduceBEq, Nat.reduceLeDiff, Nat.reduceAdd, Nat.reduceMul]
    rw [decide_eq_false (by omega)] at hq
    exact SetR.now hq
end Go.Proofs.YtanchgkiomfhhaaDoor.Fw

/- The row laws' own helpers: a row in both, one number in both, rows in both; the law that holds rows against each other. -/
namespace Go.Proofs.YtanchgkiomfhhaaDoor.Fw
set_option linter.unusedSimpArgs false
set_option linter.unusedVariables false
open Go Go.Proofs.YtanchgkiomfhhaaDoor.Ma
set_option maxRecDepth 20000

def numZ (q : NumV) : Int := sg q.1 (val 4294967296 q.2.1)
def rowZ (l : List NumV) : List Int := l.map numZ
theorem RC_take {zs : List Int} {i : Nat} (h : i < zs.length) : RC (zs.take (i + 1)) = RC (zs.take i) ++ [RefB (zs[i]), RefD (zs[i])] := by
  rw [List.take_add_one, List.getElem?_eq_getElem h, Option.toList_some, RC_snoc]
theorem cellR {z : Int} : [RefB z, RefD z].all AV.cell = true := rfl
theorem rowZ_RB4 {l : List NumV} (hl : l.length ≤ 300) (hg : ∀ q, q ∈ l → NumGood q) (hs : ∀ q, q ∈ l → q.2.1.length ≤ 300) : RB4 300 (rowZ l) := by
  refine ⟨fun z hz => ?_, by unfold rowZ; rw [List.length_map]; omega⟩
  obtain ⟨q, hq, rfl⟩ := List.mem_map.1 hz
  exact (Bd.of_val (hg q hq).1).mono (hs q hq)
theorem of4_fn {l : List NumV} {t : Bool} (hl : l.length ≤ 300) (hg : ∀ q, q ∈ l → NumGood q) (hs : ∀ q, q ∈ l → q.2.1.length ≤ 300) :
    PFn Tryd.prog 34 [.seq l.length (NumsC l) t] (.tup [RowA (rowZ l) false, RefR (rowZ l) false]) := by
  intro H Q hq
  have hln : (rowZ l).length = l.length := by simp [rowZ]
  refine enter34 (by simp) ?_
  simp (disch := first | assumption | (apply Ap.symm; assumption) | omega | decide | (simp only [Xd] <;> omega)) only [ac34, ↓Xa, Xb, Xc, ↓reduceIte, Nat.reduceLT, Nat.reduceEqDiff, Nat.reduceBEq, Nat.reduceLeDiff, Nat.reduceAdd, Nat.reduceMul]
  refine W_loop (fun s : Nat × AV × AV × AHeap => ⟨[], [(0, .seq l.length (NumsC l) t), (4, s.2.1), (5, s.2.2.1), (6, .int .i64 s.1)], s.2.2.2⟩)
    (fun s => s.1 ≤ l.length ∧ ∃ M, growC H 28 2 s.1 (IC ((rowZ l).take s.1)) s.2.1 M ∧ growC M 39 2 s.1 (RC ((rowZ l).take s.1)) s.2.2.1 s.2.2.2) (fun s => l.length - s.1) (0, .seq 0 [] true, .seq 0 [] true, H) (Settle.now rfl) ⟨Nat.zero_le _, H, growC_nil, growC_nil⟩ ?_
  rintro ⟨i, x, y, M⟩ ⟨h3, M1, hx, hy⟩
  dsimp only at h3 hx hy ⊢
  by_cases hi : i < l.length
  · have hi2 : i < (rowZ l).length := by omega
    have hgi := hg _ (List.getElem_mem hi)
    have hsi := hs _ (List.getElem_mem hi)
    have ez : (rowZ l)[i] = sg (l[i]).1 (val 4294967296 (l[i]).2.1) := by simp [rowZ, numZ]
    simp (disch := first | assumption | (apply Ap.symm; assumption) | omega | decide | (simp only [Xd] <;> omega)) only [hi, len_rw, idx_NC, load_NC0, load_NC1, ↓Xa, Xb, Xc, ↓reduceIte, Nat.reduceLT, Nat.reduceEqDiff, Nat.reduceBEq, Nat.reduceLeDiff, Nat.reduceAdd, Nat.reduceMul]
    refine PFn.dcall (make_fn (l[i]).1 (l[i]).2.2 hgi.1 (by omega)) ?_
    rw [← ez]
    simp (disch := first | assumption | (apply Ap.symm; assumption) | omega | decide | (simp only [Xd] <;> omega)) only [repI1, cells_IntA, ↓Xa, Xb, Xc, ↓reduceIte, Nat.reduceLT, Nat.reduceEqDiff, Nat.reduceBEq, Nat.reduceLeDiff, Nat.reduceAdd, Nat.reduceMul]
    refine app_under (m := 1) hx hy rfl cellI (by omega) (by omega) (by omega) fun x' M1' M2 hx' hy' => ?_
    rw [← IC_take hi2] at hx'
    simp (disch := first | assumption | (apply Ap.symm; assumption) | omega | decide | (simp only [Xd] <;> omega)) only [hi, len_rw, idx_NC, load_NC0, load_NC1, ↓Xa, Xb, Xc, ↓reduceIte, Nat.reduceLT, Nat.reduceEqDiff, Nat.reduceBEq, Nat.reduceLeDiff, Nat.reduceAdd, Nat.reduceMul]
    refine PFn.dcall (rmake_fn (l[i]).1 (l[i]).2.2 hgi.1 (by omega)) ?_
    rw [← ez]
    simp (disch := first | assumption | (apply Ap.symm; assumption) | omega | decide | (simp only [Xd] <;> omega)) only [repI1, cells_RefA, ↓Xa, Xb, Xc, ↓reduceIte, Nat.reduceLT, Nat.reduceEqDiff, Nat.reduceBEq, Nat.reduceLeDiff, Nat.reduceAdd, Nat.reduceMul]
    refine app_C (m := 1) hy' rfl cellR (by omega) (by omega) (by omega) fun y' M3 hy2 => ?_
    rw [← RC_take hi2] at hy2
    simp (disch := first | assumption | (apply Ap.symm; assumption) | omega | decide | (simp only [Xd] <;> omega)) only [↓Xa, Xb, Xc, ↓reduceIte, Nat.reduceLT, Nat.reduceEqDiff, Nat.reduceBEq, Nat.reduceLeDiff, Nat.reduceAdd, Nat.reduceMul]
    exact Settle.now ⟨(i + 1, x', y', M3), by dsimp only; omega, ⟨by dsimp only; omega, M1', hx', hy2⟩, rfl⟩
  · obtain rfl : i = l.length := by omega
    rw [List.take_of_length_le (by omega)] at hx hy
    simp (disch := first | assumption | (apply Ap.symm; assumption) | omega | decide | (simp only [Xd] <;> omega)) only [hi, len_rw, ↓Xa, Xb, Xc, ↓reduceIte, Nat.reduceLT, Nat.reduceEqDiff, Nat.reduceBEq, Nat.reduceLeDiff, Nat.reduceAdd, Nat.reduceMul]
    refine Settle.now ?_
    simp (disch := first | assumption | (apply Ap.symm; assumption) | omega | decide | (simp only [Xd] <;> omega)) only [rs34, ↓Xa, Xb, Xc, ↓reduceIte, Nat.reduceLT, Nat.reduceEqDiff, Nat.reduceBEq, Nat.reduceLeDiff, Nat.reduceAdd, Nat.reduceMul]
    rw [← hln] at hx hy
    exact growC_fin2 hx hy hq
theorem cells_RefT {z : Int} {t : Bool} : (RefA z t).cells = some [RefB z, LS (digs 65536 z.natAbs) t] := id rfl
theorem fold_RefT {z : Int} {t : Bool} : AV.agg [RefB z, LS (digs 65536 z.natAbs) t] = RefA z t := id rfl
theorem samet_fn {x y : Int} {k k' : Nat} (t : Bool) (hx : Bd k x) (hk : k ≤ 1000000) (hy : Bd k' y) (hk' : k' ≤ 1000000) : PFn Tryd.prog 147 [RefA x false, RefA y t] (.bool (decide (x = y))) := by
  intro H Q hq
  refine enter147 (by simp) ?_
  simp (disch := first | assumption | (apply Ap.symm; assumption) | omega | decide | (simp only [Xd] <;> omega)) only [ac147, cells_RefA, ↓Xa, Xb, Xc, ↓reduceIte, Nat.reduceLT, Nat.reduceEqDiff, Nat.reduceBEq, Nat.reduceLeDiff, Nat.reduceAdd, Nat.reduceMul]
  refine alloc_i fun p1 hp1 => ?_
  have n1 := hp1
  simp (disch := first | assumption | (apply Ap.symm; assumption) | omega | decide | (simp only [Xd] <;> omega)) only [cells_RefA, cells_RefT, fold_RefA, ↓Xa, Xb, Xc, ↓reduceIte, Nat.reduceLT, Nat.reduceEqDiff, Nat.reduceBEq, Nat.reduceLeDiff, Nat.reduceAdd, Nat.reduceMul]
  refine alloc_i fun p2 hp2 => ?_
  have n2 := hp2
  simp only [upd_none] at n2
  obtain ⟨_, n2⟩ := n2
  simp (disch := first | assumption | (apply Ap.symm; assumption) | omega | decide | (simp only [Xd] <;> omega)) only [cells_RefA, fold_RefA, fold_RefT, ↓Xa, Xb, Xc, ↓reduceIte, Nat.reduceLT, Nat.reduceEqDiff, Nat.reduceBEq, Nat.reduceLeDiff, Nat.reduceAdd, Nat.reduceMul]
  refine (rcmp_fn false t hx (by omega) hy (by omega)).call ?_
  simp (disch := first | assumption | (apply Ap.symm; assumption) | omega | decide | (simp only [Xd] <;> omega)) only [cmp_eql0, rs147, ↓Xa, Xb, Xc, ↓reduceIte, Nat.reduceLT, Nat.reduceEqDiff, Nat.reduceBEq, Nat.reduceLeDiff, Nat.reduceAdd, Nat.reduceMul]
  exact SetR.dropTo (((Le.refl H).updB n1).updB n2) (SetR.now hq)
theorem one4_fn {x : Int} {k : Nat} (t : Bool) (hx : Bd k x) (hk : k ≤ 1000000) : PFn Tryd.prog 50 [IntA x, RefA x t] (.bool true) := by
  intro H Q hq
  have hl := hx.len
  have ex : sg (decide (x < 0)) (val 4294967296 (digs 4294967296 x.natAbs)) = x := by rw [val_digs (by omega), sg_self]
  have mk := rmake_fn (decide (x < 0)) false (lim_digs (B := 4294967296) (by omega) x.natAbs) (by omega)
  rw [ex] at mk
  have e2 : decide (sgnI x = sgnI x) = true := decide_eq_true rfl
  refine enter50 (by simp) ?_
  simp (disch := first | assumption | (apply Ap.symm; assumption) | omega | decide | (simp only [Xd] <;> omega)) only [ac50, cells_IntA, ↓Xa, Xb, Xc, ↓reduceIte, Nat.reduceLT, Nat.reduceEqDiff, Nat.reduceBEq, Nat.reduceLeDiff, Nat.reduceAdd, Nat.reduceMul]
  refine alloc_i fun p1 hp1 => ?_
  have n1 := hp1
  simp (disch := first | assumption | (apply Ap.symm; assumption) | omega | decide | (simp only [Xd] <;> omega)) only [cells_RefT, ↓Xa, Xb, Xc, ↓reduceIte, Nat.reduceLT, Nat.reduceEqDiff, Nat.reduceBEq, Nat.reduceLeDiff, Nat.reduceAdd, Nat.reduceMul]
  refine alloc_i fun p2 hp2 => ?_
  have n2 := hp2
  simp only [upd_none] at n2
  obtain ⟨_, n2⟩ := n2
  simp (disch := first | assumption | (apply Ap.symm; assumption) | omega | decide | (simp only [Xd] <;> omega)) only [fold_IntA, ↓Xa, Xb, Xc, ↓reduceIte, Nat.reduceLT, Nat.reduceEqDiff, Nat.reduceBEq, Nat.reduceLeDiff, Nat.reduceAdd, Nat.reduceMul]
  refine (limbs_fn hx (by omega)).call ?_
  simp (disch := first | assumption | (apply Ap.symm; assumption) | omega | decide | (simp only [Xd] <;> omega)) only [fold_IntA, fold_RefT, ↓Xa, Xb, Xc, ↓reduceIte, Nat.reduceLT, Nat.reduceEqDiff, Nat.reduceBEq, Nat.reduceLeDiff, Nat.reduceAdd, Nat.reduceMul]
  refine PFn.dcall mk ?_
  simp (disch := first | assumption | (apply Ap.symm; assumption) | omega | decide | (simp only [Xd] <;> omega)) only [fold_IntA, fold_RefT, ↓Xa, Xb, Xc, ↓reduceIte, Nat.reduceLT, Nat.reduceEqDiff, Nat.reduceBEq, Nat.reduceLeDiff, Nat.reduceAdd, Nat.reduceMul]
  refine PFn.dcall (samet_fn t hx hk hx hk) ?_
  simp (disch := first | assumption | (apply Ap.symm; assumption) | omega | decide | (simp only [Xd] <;> omega)) only [decide_true, fold_IntA, fold_RefT, ↓Xa, Xb, Xc, ↓reduceIte, Nat.reduceLT, Nat.reduceEqDiff, Nat.reduceBEq, Nat.reduceLeDiff, Nat.reduceAdd, Nat.reduceMul]
  refine PFn.dcall (sign_fn hx (by omega)) ?_
  simp (disch := first | assumption | (apply Ap.symm; assumption) | omega | decide | (simp only [Xd] <;> omega)) only [fold_IntA, fold_RefT, ↓Xa, Xb, Xc, ↓reduceIte, Nat.reduceLT, Nat.reduceEqDiff, Nat.reduceBEq, Nat.reduceLeDiff, Nat.reduceAdd, Nat.reduceMul]
  refine (rsign_fn t hx (by omega)).call ?_
  simp (disch := first | assumption | (apply Ap.symm; assumption) | omega | decide | (simp only [Xd] <;> omega)) only [eql_int, e2, rs50, ↓Xa, Xb, Xc, ↓reduceIte, Nat.reduceLT, Nat.reduceEqDiff, Nat.reduceBEq, Nat.reduceLeDiff, Nat.reduceAdd, Nat.reduceMul]
  exact SetR.dropTo (((Le.refl H).updB n1).updB n2) (SetR.now hq)
theorem is4_fn {zs : List Int} {k : Nat} {t t' : Bool} (hz : RB4 k zs) (hk : k ≤ 1000000) : PFn Tryd.prog 43 [RowA zs t, RefR zs t'] (.bool true) := by
  intro H Q hq
  have nz : zs.length < 9223372036854775808 := by have := hz.2; omega
  have hne : decide (((zs.length : Nat) : Int) = ((zs.length : Nat) : Int)) = true := decide_eq_true rfl
  refine enter43 (by simp) ?_
  simp (disch := first | assumption | (apply Ap.symm; assumption) | omega | decide | (simp only [Xd] <;> omega)) only [ac43, len_rw, neq_int, hne, ↓Xa, Xb, Xc, ↓reduceIte, Nat.reduceLT, Nat.reduceEqDiff, Nat.reduceBEq, Nat.reduceLeDiff, Nat.reduceAdd, Nat.reduceMul]
  refine W_loop (fun s : Nat => ⟨[], [(0, RowA zs t), (1, RefR zs t'), (5, .int .i64 s)], H⟩) (fun s => s ≤ zs.length) (fun s => zs.length - s) 0 (Settle.now rfl) (Nat.zero_le _) ?_
  rintro i h3
  by_cases hi : i < zs.length
  · simp (disch := first | assumption | (apply Ap.symm; assumption) | omega | decide | (simp only [Xd] <;> omega)) only [hi, len_rw, idx_IC, load_IC, idx_RC, load_RC, ↓Xa, Xb, Xc, ↓reduceIte, Nat.reduceLT, Nat.reduceEqDiff, Nat.reduceBEq, Nat.reduceLeDiff, Nat.reduceAdd, Nat.reduceMul]
    refine (one4_fn false (hz.at hi) hk).call ?_
    simp (disch := first | assumption | (apply Ap.symm; assumption) | omega | decide | (simp only [Xd] <;> omega)) only [↓Xa, Xb, Xc, ↓reduceIte, Nat.reduceLT, Nat.reduceEqDiff, Nat.reduceBEq, Nat.reduceLeDiff, Nat.reduceAdd, Nat.reduceMul]
    exact Settle.now ⟨i + 1, by omega, by omega, rfl⟩
  · simp (disch := first | assumption | (apply Ap.symm; assumption) | omega | decide | (simp only [Xd] <;> omega)) only [hi, len_rw, ↓Xa, Xb, Xc, ↓reduceIte, Nat.reduceLT, Nat.reduceEqDiff, Nat.reduceBEq, Nat.reduceLeDiff, Nat.reduceAdd, Nat.reduceMul]
    refine Settle.now ?_
    simp (disch := first | assumption | (apply Ap.symm; assumption) | omega | decide | (simp only [Xd] <;> omega)) only [rs43, ↓Xa, Xb, Xc, ↓reduceIte, Nat.reduceLT, Nat.reduceEqDiff, Nat.reduceBEq, Nat.reduceLeDiff, Nat.reduceAdd, Nat.reduceMul]
    exact SetR.now hq
end Go.Proofs.YtanchgkiomfhhaaDoor.Fw

/- The law that two rows held against each other obey: true. -/
namespace Go.Proofs.YtanchgkiomfhhaaDoor.Fw
set_option linter.unusedSimpArgs false
set_option linter.unusedVariables false
open Go Go.Proofs.YtanchgkiomfhhaaDoor.Ma
set_option maxRecDepth 20000

theorem long_ok {l : List NumV} (h : numT l ≤ 300) : l.length ≤ 300 ∧ ∀ q, q ∈ l → q.2.1.length ≤ 300 := by
  unfold numT at h
  refine ⟨by omega, fun q hq => ?_⟩
  have := sumN_mem (List.mem_map.2 ⟨q, hq, rfl⟩ : q.2.1.length ∈ l.map fun q => q.2.1.length)
  omega
end Go.Proofs.YtanchgkiomfhhaaDoor.Fw

/- Rows of whole numbers: divided by a number, content, primitive row. -/
namespace Go.Proofs.YtanchgkiomfhhaaDoor.Fw
set_option linter.unusedSimpArgs false
set_option linter.unusedVariables false
open Go Go.Proofs.YtanchgkiomfhhaaDoor.Ma
set_option maxRecDepth 20000

theorem PFn.loose1 {P : Program} {f : FuncId} {x : AV} {rest : List AV} {r : AV} (h : PFn P f (loose x :: rest) r) : PFn P f (x :: rest) r := fun H Q hq =>
  ⟨(h H Q hq).1, fun c vs hH hok hs he => (h H Q hq).2 c vs hH hok (by simpa using hs) fun i hi hi' => by
    match i, hi with
    | 0, _ => exact enc_loose _ _ (he 0 (by simp) hi')
    | i + 1, hi => exact he (i + 1) (by simpa using hi) hi'⟩
end Go.Proofs.YtanchgkiomfhhaaDoor.Fw

/- Rows of whole numbers: the primitive row; the reference's rows put together. -/
namespace Go.Proofs.YtanchgkiomfhhaaDoor.Fw
set_option linter.unusedSimpArgs false
set_option linter.unusedVariables false
open Go Go.Proofs.YtanchgkiomfhhaaDoor.Ma
set_option maxRecDepth 20000

end Go.Proofs.YtanchgkiomfhhaaDoor.Fw

/- The law of rows over numbers (a module): true. -/
namespace Go.Proofs.YtanchgkiomfhhaaDoor.Fw
set_option linter.unusedSimpArgs false
set_option linter.unusedVariables false
open Go Go.Proofs.YtanchgkiomfhhaaDoor.Ma
set_option maxRecDepth 20000

theorem RB4.map {k k' : Nat} {zs : List Int} {f : Int → Int} (h : RB4 k zs) (hf : ∀ z, Bd k z → Bd k' (f z)) : RB4 k' (zs.map f) :=
  ⟨fun z hz => by obtain ⟨y, hy, rfl⟩ := List.mem_map.1 hz; exact hf y (h.1 y hy), by rw [List.length_map]; exact h.2⟩
theorem RB4.zip {k k1 k2 : Nat} {zs ws : List Int} {f : Int → Int → Int} (h : RB4 k1 zs) (h2 : RB4 k2 ws) (hl : zs.length = ws.length) (hf : ∀ z w, Bd k1 z → Bd k2 w → Bd k (f z w)) : RB4 k (zipI f zs ws) :=
  ⟨fun z hz => by
    obtain ⟨i, hi, rfl⟩ := List.getElem_of_mem hz
    have hi2 : i < zs.length := by rw [zip_len hl] at hi; exact hi
    rw [zip_at hl hi2]
    exact hf _ _ (h.at hi2) (h2.at (by omega)), by rw [zip_len hl]; exact h.2⟩
theorem RB4.mono {k k' : Nat} {zs : List Int} (h : RB4 k zs) (hk : k ≤ k') : RB4 k' zs := ⟨fun z hz => (h.1 z hz).mono hk, h.2⟩
theorem Bd.sums {k : Nat} : ∀ {l : List Int} {s : Int} {j : Nat}, Bd (k + j) s → (∀ z, z ∈ l → Bd k z) → Bd (k + (j + l.length)) (l.foldl (· + ·) s)
  | [], s, j, h, _ => h
  | z :: l, s, j, h, h2 => by
    have := Bd.sums (l := l) (s := s + z) (j := j + 1) ((h.add ((h2 z (by simp)).mono (by omega))).mono (by omega)) fun y hy => h2 y (by simp [hy])
    exact this.mono (by simp only [List.length_cons]; omega)
theorem Bd.dotF {k k1 k2 : Nat} {zs ws : List Int} (h : RB4 k1 zs) (h2 : RB4 k2 ws) (hl : zs.length = ws.length) (hk : k1 + k2 + zs.length ≤ k) : Bd k (dotF 0 zs ws) := by
  have hz := RB4.zip (f := (· * ·)) h h2 hl (fun z w a b => a.mul b)
  have := Bd.sums (k := k1 + k2) (l := zipI (· * ·) zs ws) (s := 0) (j := 0) (Bd.zero _) hz.1
  rw [zip_len hl] at this
  exact this.mono (by omega)
theorem repL3 {a : AV} : repA [a] 3 = [a, a, a] := by simp [repA, List.range, List.range.loop]
section
variable {zs ws : List Int} {t t' : Bool} {k : Nat}
end
end Go.Proofs.YtanchgkiomfhhaaDoor.Fw

/- Rows of whole numbers: an answer is spoilt; the reference's rows put together. -/
namespace Go.Proofs.YtanchgkiomfhhaaDoor.Fw
set_option linter.unusedSimpArgs false
set_option linter.unusedVariables false
open Go Go.Proofs.YtanchgkiomfhhaaDoor.Ma
set_option maxRecDepth 20000

theorem stP_row {H : AHeap} {n b L off ty es : Nat} {cells l : List AV} {K : AV → AHeap → Prop} (hL : cells.length = L) (hl : l.length = n) (ho : off + n ≤ L) : stP H n b L off K (some l) (some (.row ty es cells)) ↔ K .bot (H.upd b (some (.row ty es (splice cells off l)))) := by
  simp [stP, hL, hl, ho]
theorem slc_seq0 {es : Nat} {K : AV → Prop} : slcW es (.seq 0 [] true) none (some (.int .i64 ((0 : Nat) : Int))) none K ↔ K (.seq 0 [] true) := by simp [slcW, optI]
def RowO (M : AHeap) (y : AV) (zs : List Int) : Prop := (zs = [] ∧ y = .seq 0 [] true) ∨ (0 < zs.length ∧ ∃ b, y = .own b (zs.length * 2) 0 zs.length false ∧ M b = some (.row 28 2 (IC zs)))
theorem RowO.of {H M : AHeap} {n : Nat} {y : AV} {zs : List Int} (h : growC H 28 2 n (IC zs) y M) (hn : zs.length = n) : RowO M y zs := by
  subst hn
  rcases h with ⟨h1, _, rfl, rfl⟩ | ⟨hn, _, b, hb, rfl, rfl⟩
  · exact .inl ⟨List.length_eq_zero_iff.1 h1, rfl⟩
  · exact .inr ⟨hn, b, rfl, upd_same _ _ _⟩
theorem RowO.le {M M' : AHeap} {y : AV} {zs : List Int} (h : RowO M y zs) (hl : Le M M') : RowO M' y zs := by
  rcases h with h | ⟨hn, b, e, hb⟩
  · exact .inl h
  · exact .inr ⟨hn, b, e, hl _ _ hb⟩
theorem RowO.lent {M : AHeap} {y : AV} {zs : List Int} (h : RowO M y zs) : Lent M y (RowA zs false) := by
  rcases h with ⟨rfl, rfl⟩ | ⟨hn, b, rfl, hb⟩
  · intro c _ _ v he
    exact enc_loose _ _ (he.later (c.dropTo_later le_nil))
  · exact Lent.own hb (IC_len zs)
theorem RowO.len {M : AHeap} {y : AV} {zs : List Int} (h : RowO M y zs) (hn : zs.length < 9223372036854775808) {K : AV → Prop} : lenW false y K = K (.int .i64 ((zs.length : Nat) : Int)) := by
  rcases h with ⟨rfl, rfl⟩ | ⟨h0, b, rfl, hb⟩ <;> simp [lenW, hn]
theorem own4_run {M : AHeap} {y : AV} {zs ps : List Int} {t t' : Bool} {k : Nat} {Q : AV → AHeap → Prop} (h : RowO M y zs) (hp : RB4 k ps) (hk : k ≤ 1000000)
    (hq : ∀ M', (∀ o x, M o = some x → (∀ cells, y = .own o (zs.length * 2) 0 zs.length false → x = .row 28 2 cells → False) → M' o = some x) → Q (.bool true) M') : Run Tryd.prog 46 [y, RowA ps t, RefR ps t'] M Q := by
  rcases h with ⟨rfl, rfl⟩ | ⟨hn, b, rfl, hb⟩
  · refine enter46 (by simp) ?_
    simp (disch := first | assumption | (apply Ap.symm; assumption) | omega | decide | (simp only [Xd] <;> omega)) only [ac46, slc_seq0, len_rw, ↓Xa, Xb, Xc, ↓reduceIte, Nat.reduceLT, Nat.reduceEqDiff, Nat.reduceBEq, Nat.reduceLeDiff, Nat.reduceAdd, Nat.reduceMul]
    refine ⟨by decide, ?_⟩
    refine W_loop (fun s : Unit => ⟨[], [(0, .seq 0 [] true), (1, RowA ps t), (2, RefR ps t'), (7, .int .i64 ((0 : Nat) : Int))], M⟩) (fun _ => True) (fun _ => 0) () (Settle.now rfl) trivial ?_
    rintro ⟨⟩ _
    simp (disch := first | assumption | (apply Ap.symm; assumption) | omega | decide | (simp only [Xd] <;> omega)) only [len_rw, ↓Xa, Xb, Xc, ↓reduceIte, Nat.reduceLT, Nat.reduceEqDiff, Nat.reduceBEq, Nat.reduceLeDiff, Nat.reduceAdd, Nat.reduceMul]
    refine Settle.now ?_
    simp (disch := first | assumption | (apply Ap.symm; assumption) | omega | decide | (simp only [Xd] <;> omega)) only [↓Xa, Xb, Xc, ↓reduceIte, Nat.reduceLT, Nat.reduceEqDiff, Nat.reduceBEq, Nat.reduceLeDiff, Nat.reduceAdd, Nat.reduceMul]
    refine (is4_fn hp hk).call ?_
    simp (disch := first | assumption | (apply Ap.symm; assumption) | omega | decide | (simp only [Xd] <;> omega)) only [rs46, ↓Xa, Xb, Xc, ↓reduceIte, Nat.reduceLT, Nat.reduceEqDiff, Nat.reduceBEq, Nat.reduceLeDiff, Nat.reduceAdd, Nat.reduceMul]
    exact SetR.now (hq M fun o x ho _ => ho)
  · refine Run.expose hb (IC_len zs) ⟨_, Tryd.func46, by kernel_rfl, by kernel_rfl⟩ fun m hm hm2 => ?_
    refine enter46 (by simp) ?_
    simp (disch := first | assumption | (apply Ap.symm; assumption) | omega | decide | (simp only [Xd] <;> omega)) only [ac46, ↓Xa, Xb, Xc, ↓reduceIte, Nat.reduceLT, Nat.reduceEqDiff, Nat.reduceBEq, Nat.reduceLeDiff, Nat.reduceAdd, Nat.reduceMul]
    refine W_loop (fun s : Nat × List AV => ⟨[], [(0, .own b (m * 2) 0 m true), (1, RowA ps t), (2, RefR ps t'), (7, .int .i64 s.1)], M.upd b (some (.row 28 2 s.2))⟩) (fun s => s.1 ≤ m ∧ s.2.length = m * 2) (fun s => m - s.1) (0, _) (Settle.now rfl) ⟨Nat.zero_le _, ?_⟩ ?_
    · rw [List.length_append, List.length_replicate, IC_len, ← Nat.add_mul]; congr 1; omega
    rintro ⟨i, cells⟩ ⟨h1, h2⟩
    dsimp only at h1 h2 ⊢
    have hlen : ∀ {K : AV → Prop}, lenW false (.own b (m * 2) 0 m true) K = K (.int .i64 ((m : Nat) : Int)) := fun {K} => by simp [lenW, hm2]
    by_cases hi : i < m
    · have e1 : ∀ {k : IntKind} {K : AV → Prop}, (liveS (M.upd b (some (.row 28 2 cells))) (.own b (m * 2) 0 m true) ∧ idxAW 2 (.own b (m * 2) 0 m true) (.int k (i : Int)) K) ↔ K (.ptr b (m * 2) (i * 2)) := fun {k K} => by simp [liveS, idxAW, upd_same, h2, hi]
      simp (disch := first | assumption | (apply Ap.symm; assumption) | omega | decide | (simp only [Xd] <;> omega)) only [hi, hlen, ↓Xa, Xb, Xc, ↓reduceIte, Nat.reduceLT, Nat.reduceEqDiff, Nat.reduceBEq, Nat.reduceLeDiff, Nat.reduceAdd, Nat.reduceMul]
      refine (of_fn (n := ((987654321 : Nat) : Int)) (by omega)).call ?_
      simp (disch := first | assumption | (apply Ap.symm; assumption) | omega | decide | (simp only [Xd] <;> omega)) only [e1, ↓Xa, Xb, Xc, ↓reduceIte, Nat.reduceLT, Nat.reduceEqDiff, Nat.reduceBEq, Nat.reduceLeDiff, Nat.reduceAdd, Nat.reduceMul]
      simp (disch := first | assumption | (apply Ap.symm; assumption) | omega | decide | (simp only [Xd] <;> omega)) only [cells_IntA, stP_row, h2, List.length_cons, List.length_nil, ↓Xa, Xb, Xc, ↓reduceIte, Nat.reduceLT, Nat.reduceEqDiff, Nat.reduceBEq, Nat.reduceLeDiff, Nat.reduceAdd, Nat.reduceMul]
      refine Settle.now ⟨(i + 1, _), by dsimp only; omega, ⟨by dsimp only; omega, ?_⟩, rfl⟩
      simp only [List.length_append, List.length_take, List.length_drop, List.length_cons, List.length_nil]; omega
    · simp (disch := first | assumption | (apply Ap.symm; assumption) | omega | decide | (simp only [Xd] <;> omega)) only [hi, hlen, ↓Xa, Xb, Xc, ↓reduceIte, Nat.reduceLT, Nat.reduceEqDiff, Nat.reduceBEq, Nat.reduceLeDiff, Nat.reduceAdd, Nat.reduceMul]
      refine Settle.now ?_
      simp (disch := first | assumption | (apply Ap.symm; assumption) | omega | decide | (simp only [Xd] <;> omega)) only [↓Xa, Xb, Xc, ↓reduceIte, Nat.reduceLT, Nat.reduceEqDiff, Nat.reduceBEq, Nat.reduceLeDiff, Nat.reduceAdd, Nat.reduceMul]
      refine (is4_fn hp hk).call ?_
      simp (disch := first | assumption | (apply Ap.symm; assumption) | omega | decide | (simp only [Xd] <;> omega)) only [rs46, ↓Xa, Xb, Xc, ↓reduceIte, Nat.reduceLT, Nat.reduceEqDiff, Nat.reduceBEq, Nat.reduceLeDiff, Nat.reduceAdd, Nat.reduceMul]
      refine SetR.now (hq _ fun o x ho hne => ?_)
      by_cases e : o = b
      · subst e; rw [hb] at ho; injection ho with ho; exact (hne _ rfl ho.symm).elim
      · rw [upd_other _ _ e]; exact ho
end Go.Proofs.YtanchgkiomfhhaaDoor.Fw

/- The reference's rows put together. -/
namespace Go.Proofs.YtanchgkiomfhhaaDoor.Fw
set_option linter.unusedSimpArgs false
set_option linter.unusedVariables false
open Go Go.Proofs.YtanchgkiomfhhaaDoor.Ma
set_option maxRecDepth 20000

section
variable {zs ws : List Int} {t t' : Bool} {k : Nat}
theorem fcomb_fn {c d : Int} {k' : Nat} (tc td : Bool) (hz : RB4 k zs) (hw : RB4 k ws) (hc : Bd k' c) (hd : Bd k' d) (hk : k + k' + 1 ≤ 1000000) (hl : zs.length = ws.length) (hbig : zs.length ≤ 1000000) :
    PFn Tryd.prog 49 [RefA c tc, RefR zs t, RefA d td, RefR ws t'] (RefR (zipI (fun x y => c * x + d * y) zs ws) false) := by
  intro H Q hq
  have nz : zs.length < 9223372036854775808 := by omega
  have hln : (zipI (fun x y => c * x + d * y) zs ws).length = zs.length := zip_len hl
  rw [show RefR (zipI (fun x y => c * x + d * y) zs ws) false = .seq zs.length (RC (zipI (fun x y => c * x + d * y) zs ws)) false by rw [← hln]] at hq
  refine enter49 (by simp) ?_
  simp (disch := first | assumption | (apply Ap.symm; assumption) | omega | decide | (simp only [Xd] <;> omega)) only [ac49, cells_RefT, ↓Xa, Xb, Xc, ↓reduceIte, Nat.reduceLT, Nat.reduceEqDiff, Nat.reduceBEq, Nat.reduceLeDiff, Nat.reduceAdd, Nat.reduceMul]
  refine alloc_i fun p1 hp1 => ?_
  have n1 := hp1
  simp (disch := first | assumption | (apply Ap.symm; assumption) | omega | decide | (simp only [Xd] <;> omega)) only [cells_RefT, ↓Xa, Xb, Xc, ↓reduceIte, Nat.reduceLT, Nat.reduceEqDiff, Nat.reduceBEq, Nat.reduceLeDiff, Nat.reduceAdd, Nat.reduceMul]
  refine alloc_i fun p2 hp2 => ?_
  have n2 := hp2
  simp only [upd_none] at n2
  obtain ⟨_, n2⟩ := n2
  simp (disch := first | assumption | (apply Ap.symm; assumption) | omega | decide | (simp only [Xd] <;> omega)) only [↓Xa, Xb, Xc, ↓reduceIte, Nat.reduceLT, Nat.reduceEqDiff, Nat.reduceBEq, Nat.reduceLeDiff, Nat.reduceAdd, Nat.reduceMul]
  refine W_loop (fun s : Nat × AV × AHeap => ⟨[], [(1, RefR zs t), (3, RefR ws t'), (4, .ptr p1 2 0), (6, .ptr p2 2 0), (9, s.2.1), (10, .int .i64 s.1)], s.2.2⟩)
    (fun s => s.1 ≤ zs.length ∧ growC ((H.upd p1 (some (.row 39 0 [RefB c, LS (digs 65536 c.natAbs) tc]))).upd p2 (some (.row 39 0 [RefB d, LS (digs 65536 d.natAbs) td]))) 39 2 s.1 (RC ((zipI (fun x y => c * x + d * y) zs ws).take s.1)) s.2.1 s.2.2) (fun s => zs.length - s.1) (0, .seq 0 [] true, _) (Settle.now rfl) ⟨Nat.zero_le _, growC_nil⟩ ?_
  rintro ⟨i, y, M⟩ ⟨h3, hg⟩
  dsimp only at h3 hg ⊢
  have m1 : M p1 = some (.row 39 0 [RefB c, LS (digs 65536 c.natAbs) tc]) := growC_old hg (by rw [upd_other _ _ (by apply Ne.symm; assumption), upd_same])
  have m2 : M p2 = some (.row 39 0 [RefB d, LS (digs 65536 d.natAbs) td]) := growC_old hg (upd_same _ _ _)
  by_cases hi : i < zs.length
  · have hi2 : i < ws.length := by omega
    have hi3 : i < (zipI (fun x y => c * x + d * y) zs ws).length := by omega
    simp (disch := first | assumption | (apply Ap.symm; assumption) | omega | decide | (simp only [Xd] <;> omega)) only [hi, hi2, len_rw, m1, m2, idx_RC, load_RC, fold_RefT, ↓Xa, Xb, Xc, ↓reduceIte, Nat.reduceLT, Nat.reduceEqDiff, Nat.reduceBEq, Nat.reduceLeDiff, Nat.reduceAdd, Nat.reduceMul]
    refine PFn.dcall (rmuli_fn tc false hc (by omega) (hz.at hi) (by omega)) ?_
    simp (disch := first | assumption | (apply Ap.symm; assumption) | omega | decide | (simp only [Xd] <;> omega)) only [hi, hi2, len_rw, m1, m2, idx_RC, load_RC, fold_RefT, ↓Xa, Xb, Xc, ↓reduceIte, Nat.reduceLT, Nat.reduceEqDiff, Nat.reduceBEq, Nat.reduceLeDiff, Nat.reduceAdd, Nat.reduceMul]
    refine PFn.dcall (rmuli_fn td false hd (by omega) (hw.at hi2) (by omega)) ?_
    simp (disch := first | assumption | (apply Ap.symm; assumption) | omega | decide | (simp only [Xd] <;> omega)) only [↓Xa, Xb, Xc, ↓reduceIte, Nat.reduceLT, Nat.reduceEqDiff, Nat.reduceBEq, Nat.reduceLeDiff, Nat.reduceAdd, Nat.reduceMul]
    refine PFn.dcall (raddi_fn false false (hc.mul (hz.at hi)) (by omega) (hd.mul (hw.at hi2)) (by omega)) ?_
    simp (disch := first | assumption | (apply Ap.symm; assumption) | omega | decide | (simp only [Xd] <;> omega)) only [repI1, cells_RefA, ↓Xa, Xb, Xc, ↓reduceIte, Nat.reduceLT, Nat.reduceEqDiff, Nat.reduceBEq, Nat.reduceLeDiff, Nat.reduceAdd, Nat.reduceMul]
    refine app_C (m := 1) hg rfl cellR (by omega) (by omega) (by omega) fun y' M2 hg3 => ?_
    rw [← zip_at (f := fun x y => c * x + d * y) hl hi hi3, ← RC_take hi3] at hg3
    simp (disch := first | assumption | (apply Ap.symm; assumption) | omega | decide | (simp only [Xd] <;> omega)) only [↓Xa, Xb, Xc, ↓reduceIte, Nat.reduceLT, Nat.reduceEqDiff, Nat.reduceBEq, Nat.reduceLeDiff, Nat.reduceAdd, Nat.reduceMul]
    exact Settle.now ⟨(i + 1, y', M2), by dsimp only; omega, ⟨by dsimp only; omega, hg3⟩, rfl⟩
  · obtain rfl : i = zs.length := by omega
    rw [List.take_of_length_le (by omega)] at hg
    simp (disch := first | assumption | (apply Ap.symm; assumption) | omega | decide | (simp only [Xd] <;> omega)) only [hi, len_rw, ↓Xa, Xb, Xc, ↓reduceIte, Nat.reduceLT, Nat.reduceEqDiff, Nat.reduceBEq, Nat.reduceLeDiff, Nat.reduceAdd, Nat.reduceMul]
    refine Settle.now ?_
    simp (disch := first | assumption | (apply Ap.symm; assumption) | omega | decide | (simp only [Xd] <;> omega)) only [rs49, ↓Xa, Xb, Xc, ↓reduceIte, Nat.reduceLT, Nat.reduceEqDiff, Nat.reduceBEq, Nat.reduceLeDiff, Nat.reduceAdd, Nat.reduceMul]
    refine SetR.join (growC_fin hg ?_)
    exact SetR.dropTo (((Le.refl H).updB n1).updB n2) (SetR.now hq)
theorem fadd_fn (hz : RB4 k zs) (hw : RB4 k ws) (hk : k + 3 ≤ 1000000) (hl : zs.length = ws.length) (hbig : zs.length ≤ 1000000) :
    PFn Tryd.prog 47 [RefR zs t, RefR ws t'] (RefR (zipI (· + ·) zs ws) false) := by
  intro H Q hq
  have e : zipI (fun x y => ((1 : Nat) : Int) * x + ((1 : Nat) : Int) * y) zs ws = zipI (· + ·) zs ws := by
    rw [show (fun x y : Int => ((1 : Nat) : Int) * x + ((1 : Nat) : Int) * y) = (· + ·) from funext fun x => funext fun y => by omega]
  have hc := fcomb_fn (t := t) (t' := t') (c := ((1 : Nat) : Int)) (d := ((1 : Nat) : Int)) (k' := 2) false false hz hw (Bd.i64 (by omega)) (Bd.i64 (by omega)) (by omega) hl hbig
  rw [e] at hc
  refine enter47 (by simp) ?_
  simp (disch := first | assumption | (apply Ap.symm; assumption) | omega | decide | (simp only [Xd] <;> omega)) only [ac47, ↓Xa, Xb, Xc, ↓reduceIte, Nat.reduceLT, Nat.reduceEqDiff, Nat.reduceBEq, Nat.reduceLeDiff, Nat.reduceAdd, Nat.reduceMul]
  refine (rof_fn (n := ((1 : Nat) : Int)) (by omega)).call ?_
  simp (disch := first | assumption | (apply Ap.symm; assumption) | omega | decide | (simp only [Xd] <;> omega)) only [↓Xa, Xb, Xc, ↓reduceIte, Nat.reduceLT, Nat.reduceEqDiff, Nat.reduceBEq, Nat.reduceLeDiff, Nat.reduceAdd, Nat.reduceMul]
  refine (rof_fn (n := ((1 : Nat) : Int)) (by omega)).call ?_
  simp (disch := first | assumption | (apply Ap.symm; assumption) | omega | decide | (simp only [Xd] <;> omega)) only [↓Xa, Xb, Xc, ↓reduceIte, Nat.reduceLT, Nat.reduceEqDiff, Nat.reduceBEq, Nat.reduceLeDiff, Nat.reduceAdd, Nat.reduceMul]
  refine hc.call ?_
  simp (disch := first | assumption | (apply Ap.symm; assumption) | omega | decide | (simp only [Xd] <;> omega)) only [rs47, ↓Xa, Xb, Xc, ↓reduceIte, Nat.reduceLT, Nat.reduceEqDiff, Nat.reduceBEq, Nat.reduceLeDiff, Nat.reduceAdd, Nat.reduceMul]
  exact SetR.now hq
theorem fsub_fn (hz : RB4 k zs) (hw : RB4 k ws) (hk : k + 3 ≤ 1000000) (hl : zs.length = ws.length) (hbig : zs.length ≤ 1000000) :
    PFn Tryd.prog 48 [RefR zs t, RefR ws t'] (RefR (zipI (· - ·) zs ws) false) := by
  intro H Q hq
  have e : zipI (fun x y => ((1 : Nat) : Int) * x + -1 * y) zs ws = zipI (· - ·) zs ws := by
    rw [show (fun x y : Int => ((1 : Nat) : Int) * x + -1 * y) = (· - ·) from funext fun x => funext fun y => by omega]
  have hc := fcomb_fn (t := t) (t' := t') (c := ((1 : Nat) : Int)) (d := -1) (k' := 2) false false hz hw (Bd.i64 (by omega)) (Bd.i64 (by omega)) (by omega) hl hbig
  rw [e] at hc
  refine enter48 (by simp) ?_
  simp (disch := first | assumption | (apply Ap.symm; assumption) | omega | decide | (simp only [Xd] <;> omega)) only [ac48, ↓Xa, Xb, Xc, ↓reduceIte, Nat.reduceLT, Nat.reduceEqDiff, Nat.reduceBEq, Nat.reduceLeDiff, Nat.reduceAdd, Nat.reduceMul]
  refine (rof_fn (n := ((1 : Nat) : Int)) (by omega)).call ?_
  simp (disch := first | assumption | (apply Ap.symm; assumption) | omega | decide | (simp only [Xd] <;> omega)) only [↓Xa, Xb, Xc, ↓reduceIte, Nat.reduceLT, Nat.reduceEqDiff, Nat.reduceBEq, Nat.reduceLeDiff, Nat.reduceAdd, Nat.reduceMul]
  refine (rof_fn (n := -1) (by omega)).call ?_
  simp (disch := first | assumption | (apply Ap.symm; assumption) | omega | decide | (simp only [Xd] <;> omega)) only [↓Xa, Xb, Xc, ↓reduceIte, Nat.reduceLT, Nat.reduceEqDiff, Nat.reduceBEq, Nat.reduceLeDiff, Nat.reduceAdd, Nat.reduceMul]
  refine hc.call ?_
  simp (disch := first | assumption | (apply Ap.symm; assumption) | omega | decide | (simp only [Xd] <;> omega)) only [rs48, ↓Xa, Xb, Xc, ↓reduceIte, Nat.reduceLT, Nat.reduceEqDiff, Nat.reduceBEq, Nat.reduceLeDiff, Nat.reduceAdd, Nat.reduceMul]
  exact SetR.now hq
theorem fscale_fn {c : Int} {k' : Nat} (hz : RB4 k zs) (hc : Bd k' c) (hk : k + k' + 1 ≤ 1000000) (hbig : zs.length ≤ 1000000) :
    PFn Tryd.prog 44 [RefR zs t, RefA c false] (RefR (zs.map (c * ·)) false) := by
  intro H Q hq
  have e : zipI (fun x y => c * x + 0 * y) zs zs = zs.map (c * ·) := by
    refine List.ext_getElem (by simp [zipI]) fun i h1 h2 => ?_
    simp [zipI]
  have hcb := fcomb_fn (t := t) (t' := t) (c := c) (d := 0) (k' := k') false true hz hz hc (Bd.zero _) (by omega) rfl hbig
  rw [e] at hcb
  have z : RefA 0 true = .agg [.bool false, .seq 0 [] true] := by simp [RefA, digs_zero, LS, U]
  rw [z] at hcb
  refine enter44 (by simp) ?_
  simp (disch := first | assumption | (apply Ap.symm; assumption) | omega | decide | (simp only [Xd] <;> omega)) only [ac44, cells_RefA, ↓Xa, Xb, Xc, ↓reduceIte, Nat.reduceLT, Nat.reduceEqDiff, Nat.reduceBEq, Nat.reduceLeDiff, Nat.reduceAdd, Nat.reduceMul]
  refine alloc_i fun p1 hp1 => ?_
  have n1 := hp1
  simp (disch := first | assumption | (apply Ap.symm; assumption) | omega | decide | (simp only [Xd] <;> omega)) only [fold_RefA, ↓Xa, Xb, Xc, ↓reduceIte, Nat.reduceLT, Nat.reduceEqDiff, Nat.reduceBEq, Nat.reduceLeDiff, Nat.reduceAdd, Nat.reduceMul]
  refine hcb.call ?_
  simp (disch := first | assumption | (apply Ap.symm; assumption) | omega | decide | (simp only [Xd] <;> omega)) only [rs44, ↓Xa, Xb, Xc, ↓reduceIte, Nat.reduceLT, Nat.reduceEqDiff, Nat.reduceBEq, Nat.reduceLeDiff, Nat.reduceAdd, Nat.reduceMul]
  exact SetR.dropTo ((Le.refl H).updB n1) (SetR.now hq)
theorem drop_zip {f : Int → Int → Int} (hl : zs.length = ws.length) {i : Nat} (hi : i < zs.length) : zipI f (zs.drop i) (ws.drop i) = f (zs[i]) (ws[i]'(by omega)) :: zipI f (zs.drop (i + 1)) (ws.drop (i + 1)) := by
  rw [List.drop_eq_getElem_cons hi, List.drop_eq_getElem_cons (by omega : i < ws.length)]; rfl
theorem fdot_fn (hz : RB4 k zs) (hw : RB4 k ws) (hk : k + k ≤ 100000) (hl : zs.length = ws.length) (hbig : zs.length ≤ 100000) :
    ∃ t2, PFn Tryd.prog 51 [RefR zs t, RefR ws t'] (RefA (dotF 0 zs ws) t2) := by
  have nz : zs.length < 9223372036854775808 := by omega
  have nw : ws.length < 9223372036854775808 := by omega
  refine ⟨decide (zs.length = 0), fun H Q hq => ?_⟩
  refine enter51 (by simp) ?_
  simp (disch := first | assumption | (apply Ap.symm; assumption) | omega | decide | (simp only [Xd] <;> omega)) only [ac51, ↓Xa, Xb, Xc, ↓reduceIte, Nat.reduceLT, Nat.reduceEqDiff, Nat.reduceBEq, Nat.reduceLeDiff, Nat.reduceAdd, Nat.reduceMul]
  refine alloc_i fun p1 hp1 => ?_
  have n1 := hp1
  simp (disch := first | assumption | (apply Ap.symm; assumption) | omega | decide | (simp only [Xd] <;> omega)) only [↓Xa, Xb, Xc, ↓reduceIte, Nat.reduceLT, Nat.reduceEqDiff, Nat.reduceBEq, Nat.reduceLeDiff, Nat.reduceAdd, Nat.reduceMul]
  refine alloc_i fun p2 hp2 => ?_
  have n2 := hp2
  simp only [upd_none] at n2
  obtain ⟨_, n2⟩ := n2
  simp (disch := first | assumption | (apply Ap.symm; assumption) | omega | decide | (simp only [Xd] <;> omega)) only [↓Xa, Xb, Xc, ↓reduceIte, Nat.reduceLT, Nat.reduceEqDiff, Nat.reduceBEq, Nat.reduceLeDiff, Nat.reduceAdd, Nat.reduceMul]
  refine W_loop (fun s : Nat × Int => ⟨[], [(0, RefR zs t), (1, RefR ws t'), (4, .ptr p1 2 0), (5, .ptr p2 2 0), (6, .int .i64 s.1)], (H.upd p1 (some (.row 39 0 [.bool false, .seq 0 [] true]))).upd p2 (some (.row 39 0 [RefB s.2, LS (digs 65536 s.2.natAbs) (decide (s.1 = 0))]))⟩)
    (fun s => s.1 ≤ zs.length ∧ Bd (k + k + s.1) s.2 ∧ dotF s.2 (zs.drop s.1) (ws.drop s.1) = dotF 0 zs ws) (fun s => zs.length - s.1) (0, 0) (Settle.now (by simp [RefB, digs_zero, LS, U])) ⟨Nat.zero_le _, Bd.zero _, rfl⟩ ?_
  rintro ⟨i, s⟩ ⟨h3, hb, hc⟩
  dsimp only at h3 hb hc ⊢
  by_cases hi : i < zs.length
  · have hi2 : i < ws.length := by omega
    have hc2 : dotF (s + zs[i] * ws[i]) (zs.drop (i + 1)) (ws.drop (i + 1)) = dotF 0 zs ws := by
      rw [← hc]; unfold dotF; rw [drop_zip hl hi]; rfl
    simp (disch := first | assumption | (apply Ap.symm; assumption) | omega | decide | (simp only [Xd] <;> omega)) only [hi, hi2, len_rw, idx_RC, load_RC, fold_RefT, ↓Xa, Xb, Xc, ↓reduceIte, Nat.reduceLT, Nat.reduceEqDiff, Nat.reduceBEq, Nat.reduceLeDiff, Nat.reduceAdd, Nat.reduceMul]
    refine PFn.dcall (rmuli_fn false false (hz.at hi) (by omega) (hw.at hi2) (by omega)) ?_
    simp (disch := first | assumption | (apply Ap.symm; assumption) | omega | decide | (simp only [Xd] <;> omega)) only [↓Xa, Xb, Xc, ↓reduceIte, Nat.reduceLT, Nat.reduceEqDiff, Nat.reduceBEq, Nat.reduceLeDiff, Nat.reduceAdd, Nat.reduceMul]
    refine (raddi_fn _ false hb (by omega) ((hz.at hi).mul (hw.at hi2)) (by omega)).call ?_
    simp (disch := first | assumption | (apply Ap.symm; assumption) | omega | decide | (simp only [Xd] <;> omega)) only [cells_RefA, ↓Xa, Xb, Xc, ↓reduceIte, Nat.reduceLT, Nat.reduceEqDiff, Nat.reduceBEq, Nat.reduceLeDiff, Nat.reduceAdd, Nat.reduceMul]
    refine Settle.now ⟨(i + 1, s + zs[i] * ws[i]), by dsimp only; omega, ⟨by dsimp only; omega, (hb.add (((hz.at hi).mul (hw.at hi2)).mono (by omega))).mono (by dsimp only; omega), hc2⟩, ?_⟩
    simp [RefD]
  · obtain rfl : i = zs.length := by omega
    rw [List.drop_eq_nil_of_le (by omega), List.drop_eq_nil_of_le (by omega)] at hc
    have hc : s = dotF 0 zs ws := hc
    rw [← hc] at hq
    simp (disch := first | assumption | (apply Ap.symm; assumption) | omega | decide | (simp only [Xd] <;> omega)) only [hi, len_rw, ↓Xa, Xb, Xc, ↓reduceIte, Nat.reduceLT, Nat.reduceEqDiff, Nat.reduceBEq, Nat.reduceLeDiff, Nat.reduceAdd, Nat.reduceMul]
    refine Settle.now ?_
    simp (disch := first | assumption | (apply Ap.symm; assumption) | omega | decide | (simp only [Xd] <;> omega)) only [cells_RefT, fold_RefT, rs51, ↓Xa, Xb, Xc, ↓reduceIte, Nat.reduceLT, Nat.reduceEqDiff, Nat.reduceBEq, Nat.reduceLeDiff, Nat.reduceAdd, Nat.reduceMul]
    exact SetR.dropTo (((Le.refl H).updB n1).updB n2) (SetR.now hq)
end
end Go.Proofs.YtanchgkiomfhhaaDoor.Fw

/- Rows of noughts, with a one. -/
namespace Go.Proofs.YtanchgkiomfhhaaDoor.Fw
set_option linter.unusedSimpArgs false
set_option linter.unusedVariables false
open Go Go.Proofs.YtanchgkiomfhhaaDoor.Ma
set_option maxRecDepth 20000

end Go.Proofs.YtanchgkiomfhhaaDoor.Fw

/- The law of rows of noughts, of small numbers: true. -/
namespace Go.Proofs.YtanchgkiomfhhaaDoor.Fw
set_option linter.unusedSimpArgs false
set_option linter.unusedVariables false
open Go Go.Proofs.YtanchgkiomfhhaaDoor.Ma
set_option maxRecDepth 20000

end Go.Proofs.YtanchgkiomfhhaaDoor.Fw

/- The law of rows put together: true. -/
namespace Go.Proofs.YtanchgkiomfhhaaDoor.Fw
set_option linter.unusedSimpArgs false
set_option linter.unusedVariables false
open Go Go.Proofs.YtanchgkiomfhhaaDoor.Ma
set_option maxRecDepth 20000

def minB (M : AHeap) (y : AV) : AHeap := fun o => if o ∈ blkOf y then none else M o
theorem RowO.blk {M : AHeap} {y : AV} {zs : List Int} (h : RowO M y zs) {b : Nat} (hb : b ∈ blkOf y) : M b ≠ none := by
  rcases h with ⟨_, rfl⟩ | ⟨_, c, rfl, hc⟩
  · simp [blkOf] at hb
  · rw [List.mem_singleton.1 hb, hc]; simp
theorem growC_blk {H M : AHeap} {ty es n : Nat} {cells : List AV} {y : AV} (h : growC H ty es n cells y M) {b : Nat} (hb : b ∈ blkOf y) : H b = none := by
  rcases h with ⟨_, _, rfl, _⟩ | ⟨_, _, c, hc, rfl, _⟩
  · simp [blkOf] at hb
  · rw [List.mem_singleton.1 hb]; exact hc
theorem le_minB {A M : AHeap} {y : AV} (h : Le A M) (hy : ∀ b, b ∈ blkOf y → A b = none) : Le A (minB M y) := fun o x ho => by
  unfold minB
  rw [if_neg fun hb => by rw [hy o hb] at ho; cases ho]
  exact h o x ho
theorem RowO.min {M : AHeap} {y z : AV} {zs : List Int} (h : RowO M y zs) (ha : ∀ b, b ∈ blkOf z → b ∉ blkOf y) : RowO (minB M z) y zs := by
  rcases h with h | ⟨hn, b, rfl, hb⟩
  · exact .inl h
  · refine .inr ⟨hn, b, rfl, ?_⟩
    unfold minB
    rw [if_neg fun hz => ha b hz (by simp [blkOf])]; exact hb
theorem own5_run {M : AHeap} {y : AV} {zs ps : List Int} {t t' : Bool} {k : Nat} {Q : AV → AHeap → Prop} (h : RowO M y zs) (hp : RB4 k ps) (hk : k ≤ 1000000) (hq : ∀ M', Le (minB M y) M' → Q (.bool true) M') : Run Tryd.prog 46 [y, RowA ps t, RefR ps t'] M Q :=
  own4_run h hp hk fun M' hM => hq M' fun o x ho => by
    unfold minB at ho
    split at ho
    · cases ho
    · rename_i hno
      refine hM o x ho fun cells e _ => hno (by rw [e]; simp [blkOf])
theorem dcall_lend {P : Program} {f : FuncId} {args args' : List AV} {r : AV} {o : Bool} {H : AHeap} {K : AV → List Nat → Option (Nat × ABlk) → Prop} (h : PFn P f args' r) (hr : scal r = true) (rd : List Nat) (hx : ∀ H', (∀ q, q ∈ rd → H' q = H q) → LentL H' args args') (k : K r rd none) : dcall o P (.fn (.func f) [] []) args H K :=
  .inl ⟨r, rd, fun H' e => run_call (h.lend hr (hx H' e) ⟨rfl, rfl⟩), k⟩
theorem RowO.lentD {M : AHeap} {y : AV} {zs : List Int} (h : RowO M y zs) (H' : AHeap) (e : ∀ q, q ∈ blkOf y → H' q = M q) : Lent H' y (RowA zs false) := by
  refine RowO.lent ?_
  rcases h with h | ⟨hn, b, rfl, hb⟩
  · exact .inl h
  · exact .inr ⟨hn, b, rfl, (e b (by simp [blkOf])).trans hb⟩
theorem dcall_row {P : Program} {f : FuncId} {args : List AV} {zs : List Int} {H : AHeap} {K : AV → List Nat → Option (Nat × ABlk) → Prop} (ho : ownCall (.k (.fn (.func f) [] [])) = true) (h : ∀ (H' : AHeap) (Q : AV → AHeap → Prop), (∀ y M, growC H' 28 2 zs.length (IC zs) y M → Q y M) → Run P f args H' Q)
    (k0 : zs = [] → K (.seq 0 [] true) [] none) (k1 : 0 < zs.length → ∀ b, H b = none → K (.own b (zs.length * 2) 0 zs.length false) [] (some (b, .row 28 2 (IC zs)))) : dcall (ownCall (.k (.fn (.func f) [] []))) P (.fn (.func f) [] []) args H K := by
  by_cases hz : zs = []
  · refine .inl ⟨_, [], fun H' _ => run_call (h H' _ fun y M hg => ?_), k0 hz⟩
    rcases hg with ⟨_, _, rfl, rfl⟩ | ⟨hn, _⟩
    · exact ⟨rfl, rfl⟩
    · subst hz; simp at hn
  · have hpos : 0 < zs.length := List.length_pos_iff.2 hz
    refine dcall_own ho (IC_len zs) (fun H' Q hq => h H' Q fun y M hg => ?_) (k1 hpos)
    rcases hg with ⟨h0, _⟩ | ⟨_, _, b, hb, rfl, rfl⟩
    · omega
    · exact hq b hb
theorem neg_map (zs : List Int) : zs.map (-1 * ·) = zs.map (- ·) := by
  refine List.map_congr_left fun z _ => ?_
  omega
set_option maxHeartbeats 2000000 in
theorem rowSums_law (q : TwoV) (mq : TwoGood q) : PFn Tryd.prog 4 [TwoA q] (.bool true) := by
  obtain ⟨a, b, c, d⟩ := q
  obtain ⟨ma, la, mb, lb, mc, md⟩ := mq
  dsimp only at ma la mb lb mc md
  intro H Q hq
  have lg := long4_fn (ll := [(a, false), (b, false), ([c, d], true)]) (t := true) (by simp) (fun x hx => by
    simp only [List.mem_cons, List.not_mem_nil, or_false] at hx
    rcases hx with rfl | rfl | rfl
    · exact ⟨la, fun q hq => (ma q hq).2⟩
    · exact ⟨lb, fun q hq => (mb q hq).2⟩
    · refine ⟨by simp, fun q hq => ?_⟩
      simp only [List.mem_cons, List.not_mem_nil, or_false] at hq
      rcases hq with rfl | rfl
      · exact mc.2
      · exact md.2)
  have et : sumN ([(a, false), (b, false), ([c, d], true)].map fun x : List NumV × Bool => numT x.1) = numT a + numT b + numT [c, d] := by simp [sumN]; omega
  rw [et] at lg
  have lg' : PFn Tryd.prog 33 [.seq 3 [.seq a.length (NumsC a) false, .seq b.length (NumsC b) false, .seq 2 [.bool c.1, LS c.2.1 c.2.2, .bool d.1, LS d.2.1 d.2.2] true] true] (.bool (decide (300 < numT a + numT b + numT [c, d]))) := lg
  by_cases hl : 300 < numT a + numT b + numT [c, d]
  · refine enter4 (by simp) ?_
    simp (disch := first | assumption | (apply Ap.symm; assumption) | omega | decide | (simp only [Xd] <;> omega)) only [ac4, TwoA, NumsA, ↓Xa, Xb, Xc, ↓reduceIte, Nat.reduceLT, Nat.reduceEqDiff, Nat.reduceBEq, Nat.reduceLeDiff, Nat.reduceAdd, Nat.reduceMul]
    refine alloc_i fun p1 hp1 => ?_
    have n1 := hp1
    simp (disch := first | assumption | (apply Ap.symm; assumption) | omega | decide | (simp only [Xd] <;> omega)) only [↓Xa, Xb, Xc, ↓reduceIte, Nat.reduceLT, Nat.reduceEqDiff, Nat.reduceBEq, Nat.reduceLeDiff, Nat.reduceAdd, Nat.reduceMul]
    refine live4_fn.call ?_
    simp (disch := first | assumption | (apply Ap.symm; assumption) | omega | decide | (simp only [Xd] <;> omega)) only [↓Xa, Xb, Xc, ↓reduceIte, Nat.reduceLT, Nat.reduceEqDiff, Nat.reduceBEq, Nat.reduceLeDiff, Nat.reduceAdd, Nat.reduceMul]
    refine dalloc_i fun p2 hp2 => ?_
    have n2 := hp2
    simp only [upd_none] at n2
    obtain ⟨_, n2⟩ := n2
    simp (disch := first | assumption | (apply Ap.symm; assumption) | omega | decide | (simp only [Xd] <;> omega)) only [↓Xa, Xb, Xc, ↓reduceIte, Nat.reduceLT, Nat.reduceEqDiff, Nat.reduceBEq, Nat.reduceLeDiff, Nat.reduceAdd, Nat.reduceMul]
    refine dalloc_i fun p3 hp3 => ?_
    have n3 := hp3
    simp only [upd_none] at n3
    obtain ⟨_, _, n3⟩ := n3
    simp (disch := first | assumption | (apply Ap.symm; assumption) | omega | decide | (simp only [Xd] <;> omega)) only [rep24, repL3, ↓Xa, Xb, Xc, ↓reduceIte, Nat.reduceLT, Nat.reduceEqDiff, Nat.reduceBEq, Nat.reduceLeDiff, Nat.reduceAdd, Nat.reduceMul]
    refine lg'.call ?_
    simp (disch := first | assumption | (apply Ap.symm; assumption) | omega | decide | (simp only [Xd] <;> omega)) only [decide_eq_true hl, rs4, ↓Xa, Xb, Xc, ↓reduceIte, Nat.reduceLT, Nat.reduceEqDiff, Nat.reduceBEq, Nat.reduceLeDiff, Nat.reduceAdd, Nat.reduceMul]
    exact SetR.dropTo ((((Le.refl H).updB n1).updB n2).updB n3) (SetR.now hq)
  obtain ⟨a1, a2⟩ := long_ok (l := a) (by omega)
  obtain ⟨b1, b2⟩ := long_ok (l := b) (by omega)
  obtain ⟨_, c2⟩ := long_ok (l := [c, d]) (by omega)
  have c2c := c2 c (by simp)
  have c2d := c2 d (by simp)
  have hz := rowZ_RB4 a1 ma a2
  have hw := rowZ_RB4 b1 mb b2
  have ofa : PFn Tryd.prog 34 [.seq a.length (NumsC a) false] (.tup [RowA (rowZ a) false, RefR (rowZ a) false]) := of4_fn a1 ma a2
  have ofb : PFn Tryd.prog 34 [.seq b.length (NumsC b) false] (.tup [RowA (rowZ b) false, RefR (rowZ b) false]) := of4_fn b1 mb b2
  have laz : (rowZ a).length = a.length := by simp [rowZ]
  have lbz : (rowZ b).length = b.length := by simp [rowZ]
  have mkc := make_fn c.1 c.2.2 mc.1 (by omega)
  have mkd := make_fn d.1 d.2.2 md.1 (by omega)
  have rmc := rmake_fn c.1 c.2.2 mc.1 (by omega)
  have rmd := rmake_fn d.1 d.2.2 md.1 (by omega)
  have bm : Bd 300 (sg c.1 (val 4294967296 c.2.1)) := (Bd.of_val mc.1).mono c2c
  have bn : Bd 300 (sg d.1 (val 4294967296 d.2.1)) := (Bd.of_val md.1).mono c2d
  generalize rowZ a = zs at *
  generalize rowZ b = ws at *
  generalize sg c.1 (val 4294967296 c.2.1) = m at *
  generalize sg d.1 (val 4294967296 d.2.1) = n at *
  have hbz : zs.length ≤ 300 := by omega
  have hbw : ws.length ≤ 300 := by omega
  have hzn := RB4.map (f := (- ·)) hz (fun z x => x.neg)
  have hzm := RB4.map (f := (m * ·)) hz (fun z x => bm.mul x)
  -- behind the draw: the two answers are held against the reference, then spoilt
  have tail2 : ∀ (s t u v w : AV) (e1 e2 e3 e4 : Int) (p11 p12 p13 p14 p21 : Nat) (M0 M : AHeap), Le M0 M → RowO M v (zs.map (- ·)) → RowO M w (zs.map (m * ·)) → (∀ b, b ∈ blkOf v → M0 b = none) → (∀ b, b ∈ blkOf w → M0 b = none) → (∀ b, b ∈ blkOf v → b ∉ blkOf w) →
      M0 p12 = some (.row 39 0 [RefB m, RefD m]) →
      (∀ M', Le M0 M' → W Tryd.prog (sndC (sndC (sndC (sndC (sndC (sndC (sndC (sndC (sndC (sndC (sndC (sndC (sndC (sndC ac4)))))))))))))) (retN rs4 Q) ⟨[], [(3, .seq a.length (NumsC a) false), (4, .seq b.length (NumsC b) false), (7, RowA zs false), (8, RefR zs false), (9, RowA ws false), (10, RefR ws false), (12, .ptr p12 2 0), (14, .ptr p14 2 0), (15, s), (16, .int .i64 e1), (17, t), (18, .int .i64 e2), (19, u), (20, .int .i64 e3), (21, .ptr p21 2 0), (22, .int .i64 e4)], M'⟩) →
      W Tryd.prog (sndC (sndC (sndC (sndC (sndC (sndC (sndC (sndC (sndC (sndC (sndC (sndC (sndC ac4))))))))))))) (retN rs4 Q) ⟨[], [(3, .seq a.length (NumsC a) false), (4, .seq b.length (NumsC b) false), (7, RowA zs false), (8, RefR zs false), (9, RowA ws false), (10, RefR ws false), (12, .ptr p12 2 0), (14, .ptr p14 2 0), (15, s), (16, .int .i64 e1), (17, t), (18, .int .i64 e2), (19, u), (20, .int .i64 e3), (21, .ptr p21 2 0), (22, .int .i64 e4), (23, v), (24, w)], M⟩ := by
    intro s t u v w e1 e2 e3 e4 p11 p12 p13 p14 p21 M0 M hM hv hw' fv fw fvw hp12 hrest
    have m12 := hM _ _ hp12
    have fsc := fscale_fn (t := false) (c := -1) (k' := 2) hz (Bd.i64 (by omega)) (by omega) (by omega)
    rw [neg_map] at fsc
    simp (disch := first | assumption | (apply Ap.symm; assumption) | omega | decide | (simp only [Xd] <;> omega)) only [sndC, ac4, ↓Xa, Xb, Xc, ↓reduceIte, Nat.reduceLT, Nat.reduceEqDiff, Nat.reduceBEq, Nat.reduceLeDiff, Nat.reduceAdd, Nat.reduceMul] at hrest
    simp (disch := first | assumption | (apply Ap.symm; assumption) | omega | decide | (simp only [Xd] <;> omega)) only [sndC, ac4, ↓Xa, Xb, Xc, ↓reduceIte, Nat.reduceLT, Nat.reduceEqDiff, Nat.reduceBEq, Nat.reduceLeDiff, Nat.reduceAdd, Nat.reduceMul]
    refine (rof_fn (n := -1) (by omega)).call ?_
    simp (disch := first | assumption | (apply Ap.symm; assumption) | omega | decide | (simp only [Xd] <;> omega)) only [↓Xa, Xb, Xc, ↓reduceIte, Nat.reduceLT, Nat.reduceEqDiff, Nat.reduceBEq, Nat.reduceLeDiff, Nat.reduceAdd, Nat.reduceMul]
    refine fsc.call ?_
    simp (disch := first | assumption | (apply Ap.symm; assumption) | omega | decide | (simp only [Xd] <;> omega)) only [↓Xa, Xb, Xc, ↓reduceIte, Nat.reduceLT, Nat.reduceEqDiff, Nat.reduceBEq, Nat.reduceLeDiff, Nat.reduceAdd, Nat.reduceMul]
    refine PFn.lcall (is4_fn (t := false) (t' := false) hzn (by omega)) rfl ⟨hv.lent, Lent.same, trivial⟩ ?_
    simp (disch := first | assumption | (apply Ap.symm; assumption) | omega | decide | (simp only [Xd] <;> omega)) only [m12, fold_RefA, ↓Xa, Xb, Xc, ↓reduceIte, Nat.reduceLT, Nat.reduceEqDiff, Nat.reduceBEq, Nat.reduceLeDiff, Nat.reduceAdd, Nat.reduceMul]
    refine (fscale_fn (t := false) hz bm (by omega) (by omega)).call ?_
    simp (disch := first | assumption | (apply Ap.symm; assumption) | omega | decide | (simp only [Xd] <;> omega)) only [↓Xa, Xb, Xc, ↓reduceIte, Nat.reduceLT, Nat.reduceEqDiff, Nat.reduceBEq, Nat.reduceLeDiff, Nat.reduceAdd, Nat.reduceMul]
    refine PFn.lcall (is4_fn (t := false) (t' := false) hzm (by omega)) rfl ⟨hw'.lent, Lent.same, trivial⟩ ?_
    simp (disch := first | assumption | (apply Ap.symm; assumption) | omega | decide | (simp only [Xd] <;> omega)) only [↓Xa, Xb, Xc, ↓reduceIte, Nat.reduceLT, Nat.reduceEqDiff, Nat.reduceBEq, Nat.reduceLeDiff, Nat.reduceAdd, Nat.reduceMul]
    refine run_call (own5_run hv hz (by omega) fun M1 hM1 => ?_)
    have hw1 : RowO M1 w (zs.map (m * ·)) := (hw'.min fvw).le hM1
    have l1 : Le M0 M1 := fun o x ho => hM1 o x (le_minB hM fv o x ho)
    simp (disch := first | assumption | (apply Ap.symm; assumption) | omega | decide | (simp only [Xd] <;> omega)) only [↓Xa, Xb, Xc, ↓reduceIte, Nat.reduceLT, Nat.reduceEqDiff, Nat.reduceBEq, Nat.reduceLeDiff, Nat.reduceAdd, Nat.reduceMul]
    refine run_call (own5_run hw1 hz (by omega) fun M2 hM2 => ?_)
    have l2 : Le M0 M2 := fun o x ho => hM2 o x (le_minB l1 fw o x ho)
    simp (disch := first | assumption | (apply Ap.symm; assumption) | omega | decide | (simp only [Xd] <;> omega)) only [↓Xa, Xb, Xc, ↓reduceIte, Nat.reduceLT, Nat.reduceEqDiff, Nat.reduceBEq, Nat.reduceLeDiff, Nat.reduceAdd, Nat.reduceMul]
    refine live4_fn.call ?_
    simp (disch := first | assumption | (apply Ap.symm; assumption) | omega | decide | (simp only [Xd] <;> omega)) only [↓Xa, Xb, Xc, ↓reduceIte, Nat.reduceLT, Nat.reduceEqDiff, Nat.reduceBEq, Nat.reduceLeDiff, Nat.reduceAdd, Nat.reduceMul]
    exact hrest M2 l2
  have tail1 : ∀ (s t u : AV) (e1 e2 e3 e4 : Int) (p11 p12 p13 p14 p21 : Nat) (M0 : AHeap), M0 p11 = some (.row 28 0 [IntB m, IntD m]) → M0 p12 = some (.row 39 0 [RefB m, RefD m]) →
      (∀ M', Le M0 M' → W Tryd.prog (sndC (sndC (sndC (sndC (sndC (sndC (sndC (sndC (sndC (sndC (sndC (sndC (sndC (sndC ac4)))))))))))))) (retN rs4 Q) ⟨[], [(3, .seq a.length (NumsC a) false), (4, .seq b.length (NumsC b) false), (7, RowA zs false), (8, RefR zs false), (9, RowA ws false), (10, RefR ws false), (12, .ptr p12 2 0), (14, .ptr p14 2 0), (15, s), (16, .int .i64 e1), (17, t), (18, .int .i64 e2), (19, u), (20, .int .i64 e3), (21, .ptr p21 2 0), (22, .int .i64 e4)], M'⟩) →
      W Tryd.prog (sndC (sndC (sndC (sndC (sndC (sndC (sndC (sndC (sndC (sndC (sndC (sndC ac4)))))))))))) (retN rs4 Q) ⟨[], [(3, .seq a.length (NumsC a) false), (4, .seq b.length (NumsC b) false), (7, RowA zs false), (8, RefR zs false), (9, RowA ws false), (10, RefR ws false), (11, .ptr p11 2 0), (12, .ptr p12 2 0), (14, .ptr p14 2 0), (15, s), (16, .int .i64 e1), (17, t), (18, .int .i64 e2), (19, u), (20, .int .i64 e3), (21, .ptr p21 2 0), (22, .int .i64 e4)], M0⟩ := by
    intro s t u e1 e2 e3 e4 p11 p12 p13 p14 p21 M0 m11 m12 hrest
    have tl := fun v w M x1 x2 x3 x4 x5 x6 => tail2 s t u v w e1 e2 e3 e4 p11 p12 p13 p14 p21 M0 M x1 x2 x3 x4 x5 x6 m12 hrest
    simp (disch := first | assumption | (apply Ap.symm; assumption) | omega | decide | (simp only [Xd] <;> omega)) only [sndC, ac4, ↓Xa, Xb, Xc, ↓reduceIte, Nat.reduceLT, Nat.reduceEqDiff, Nat.reduceBEq, Nat.reduceLeDiff, Nat.reduceAdd, Nat.reduceMul] at tl
    simp (disch := first | assumption | (apply Ap.symm; assumption) | omega | decide | (simp only [Xd] <;> omega)) only [sndC, ac4, ↓Xa, Xb, Xc, ↓reduceIte, Nat.reduceLT, Nat.reduceEqDiff, Nat.reduceBEq, Nat.reduceLeDiff, Nat.reduceAdd, Nat.reduceMul]
    have lneg : (zs.map (- ·)).length = zs.length := by simp
    have lmul : (zs.map (m * ·)).length = zs.length := by simp
    refine dcall_row (zs := zs.map (- ·)) rfl (fun H' Q' hq' => rown_run hz (by omega) (by omega) fun y M hg => hq' y M (by rw [lneg]; exact hg)) (fun h0 => ?_) fun hpos bv hbv => ?_
    · simp (disch := first | assumption | (apply Ap.symm; assumption) | omega | decide | (simp only [Xd] <;> omega)) only [m11, fold_IntA, ↓Xa, Xb, Xc, ↓reduceIte, Nat.reduceLT, Nat.reduceEqDiff, Nat.reduceBEq, Nat.reduceLeDiff, Nat.reduceAdd, Nat.reduceMul]
      refine run_call (rowsc_run hz bm (by omega) (by omega) fun w M1 hw1 => ?_)
      simp (disch := first | assumption | (apply Ap.symm; assumption) | omega | decide | (simp only [Xd] <;> omega)) only [↓Xa, Xb, Xc, ↓reduceIte, Nat.reduceLT, Nat.reduceEqDiff, Nat.reduceBEq, Nat.reduceLeDiff, Nat.reduceAdd, Nat.reduceMul]
      exact tl (.seq 0 [] true) w M1 (growC_le hw1) (.inl ⟨h0, rfl⟩) (RowO.of hw1 lmul) (fun b hb => by simp [blkOf] at hb) (fun b hb => growC_blk hw1 hb) (fun b hb => by simp [blkOf] at hb)
    · have a11 := ne_of_some m11 hbv
      simp (disch := first | assumption | (apply Ap.symm; assumption) | omega | decide | (simp only [Xd] <;> omega)) only [m11, fold_IntA, ↓Xa, Xb, Xc, ↓reduceIte, Nat.reduceLT, Nat.reduceEqDiff, Nat.reduceBEq, Nat.reduceLeDiff, Nat.reduceAdd, Nat.reduceMul]
      refine run_call (rowsc_run hz bm (by omega) (by omega) fun w M1 hw1 => ?_)
      have hv1 : RowO M1 (.own bv ((zs.map (- ·)).length * 2) 0 (zs.map (- ·)).length false) (zs.map (- ·)) := .inr ⟨hpos, bv, rfl, growC_old hw1 (upd_same _ _ _)⟩
      have l1 : Le M0 M1 := fun o x ho => growC_le hw1 o x (((Le.refl M0).updB hbv) o x ho)
      simp (disch := first | assumption | (apply Ap.symm; assumption) | omega | decide | (simp only [Xd] <;> omega)) only [↓Xa, Xb, Xc, ↓reduceIte, Nat.reduceLT, Nat.reduceEqDiff, Nat.reduceBEq, Nat.reduceLeDiff, Nat.reduceAdd, Nat.reduceMul]
      refine tl _ w M1 l1 hv1 (RowO.of hw1 lmul) (fun b hb => ?_) (fun b hb => ?_) (fun b hb => ?_)
      · rw [List.mem_singleton.1 hb]; exact hbv
      · have := growC_blk hw1 hb
        exact (upd_none.1 this).2
      · rw [List.mem_singleton.1 hb]
        intro hbw'
        have := growC_blk hw1 hbw'
        rw [upd_same] at this; cases this
  have hd0 : decide (((0 : Nat) : Int) = ((0 : Nat) : Int)) = true := rfl
  have hd5 : decide (((5 : Nat) : Int) = ((5 : Nat) : Int)) = true := rfl
  have tail0 : ∀ (M : AHeap) (p4 p5 p6 p7 : Nat), Le H M → M p4 = some (.row 28 0 [IntB m, IntD m]) → M p5 = some (.row 39 0 [RefB m, RefD m]) → M p6 = some (.row 28 0 [IntB n, IntD n]) → M p7 = some (.row 39 0 [RefB n, RefD n]) →
      W Tryd.prog (sndC (sndC (sndC (sndC (sndC (sndC (sndC (sndC ac4)))))))) (retN rs4 Q) ⟨[], [(3, .seq a.length (NumsC a) false), (4, .seq b.length (NumsC b) false), (7, RowA zs false), (8, RefR zs false), (9, RowA ws false), (10, RefR ws false), (11, .ptr p4 2 0), (12, .ptr p5 2 0), (13, .ptr p6 2 0), (14, .ptr p7 2 0)], M⟩ := by
    intro M p4 p5 p6 p7 hM g4 g5 g6 g7
    by_cases hlen : zs.length = ws.length
    · have ladd : (zipI (· + ·) zs ws).length = zs.length := zip_len hlen
      have lsub : (zipI (· - ·) zs ws).length = zs.length := zip_len hlen
      have lcomb : (zipI (fun x y => m * x + n * y) zs ws).length = zs.length := zip_len hlen
      have hne : decide (((a.length : Nat) : Int) = ((b.length : Nat) : Int)) = true := decide_eq_true (by omega)
      have badd := RB4.zip (f := (· + ·)) hz hw hlen (fun z w x y => x.add y)
      have bsub := RB4.zip (f := (· - ·)) hz hw hlen (fun z w x y => x.sub y)
      have bcomb := RB4.zip (k := 601) (f := fun x y => m * x + n * y) hz hw hlen (fun z w x y => ((bm.mul x).add (bn.mul y)).mono (by omega))
      have bdot : Bd 901 (dotF 0 zs ws) := Bd.dotF hz hw hlen (by omega)
      obtain ⟨td, fdot⟩ := fdot_fn (t := false) (t' := false) hz hw (by omega) hlen (by omega)
      simp (disch := first | assumption | (apply Ap.symm; assumption) | omega | decide | (simp only [Xd] <;> omega)) only [sndC, ac4, ↓Xa, Xb, Xc, ↓reduceIte, Nat.reduceLT, Nat.reduceEqDiff, Nat.reduceBEq, Nat.reduceLeDiff, Nat.reduceAdd, Nat.reduceMul]
      refine run_call (rowadd_run hz hw (by omega) hlen (by omega) fun s M1 hs => ?_)
      have g41 := growC_old hs g4
      simp (disch := first | assumption | (apply Ap.symm; assumption) | omega | decide | (simp only [Xd] <;> omega)) only [↓Xa, Xb, Xc, ↓reduceIte, Nat.reduceLT, Nat.reduceEqDiff, Nat.reduceBEq, Nat.reduceLeDiff, Nat.reduceAdd, Nat.reduceMul]
      refine run_call (rowsub_run hz hw (by omega) hlen (by omega) fun t M2 ht => ?_)
      have g42 := growC_old ht g41
      have g62 := growC_old ht (growC_old hs g6)
      simp (disch := first | assumption | (apply Ap.symm; assumption) | omega | decide | (simp only [Xd] <;> omega)) only [g42, g62, fold_IntA, ↓Xa, Xb, Xc, ↓reduceIte, Nat.reduceLT, Nat.reduceEqDiff, Nat.reduceBEq, Nat.reduceLeDiff, Nat.reduceAdd, Nat.reduceMul]
      refine run_call (rowcomb_run hz hw bm bn (by omega) hlen (by omega) fun u M3 hu => ?_)
      simp (disch := first | assumption | (apply Ap.symm; assumption) | omega | decide | (simp only [Xd] <;> omega)) only [↓Xa, Xb, Xc, ↓reduceIte, Nat.reduceLT, Nat.reduceEqDiff, Nat.reduceBEq, Nat.reduceLeDiff, Nat.reduceAdd, Nat.reduceMul]
      refine (rowdot_fn hz hw (by omega) hlen (by omega)).call ?_
      simp (disch := first | assumption | (apply Ap.symm; assumption) | omega | decide | (simp only [Xd] <;> omega)) only [↓Xa, Xb, Xc, ↓reduceIte, Nat.reduceLT, Nat.reduceEqDiff, Nat.reduceBEq, Nat.reduceLeDiff, Nat.reduceAdd, Nat.reduceMul]
      refine alloc_i fun p21 hp21 => ?_
      have hs3 : RowO M3 s (zipI (· + ·) zs ws) := (RowO.of hs ladd).le fun o x ho => growC_le hu o x (growC_le ht o x ho)
      have ht3 : RowO M3 t (zipI (· - ·) zs ws) := (RowO.of ht lsub).le (growC_le hu)
      have hu3 : RowO M3 u (zipI (fun x y => m * x + n * y) zs ws) := RowO.of hu lcomb
      have hst : ∀ b, b ∈ blkOf s → b ∉ blkOf t := fun b hb hb2 => (RowO.of hs ladd).blk hb (growC_blk ht hb2)
      have hsu : ∀ b, b ∈ blkOf s → b ∉ blkOf u := fun b hb hb2 => ((RowO.of hs ladd).le (growC_le ht)).blk hb (growC_blk hu hb2)
      have htu : ∀ b, b ∈ blkOf t → b ∉ blkOf u := fun b hb hb2 => (RowO.of ht lsub).blk hb (growC_blk hu hb2)
      have fs : ∀ b, b ∈ blkOf s → H b = none := fun b hb => hM.none (growC_blk hs hb)
      have ft : ∀ b, b ∈ blkOf t → H b = none := fun b hb => hM.none (growC_none hs (growC_blk ht hb))
      have fu : ∀ b, b ∈ blkOf u → H b = none := fun b hb => hM.none (growC_none hs (growC_none ht (growC_blk hu hb)))
      have lM3 : Le M M3 := fun o x ho => growC_le hu o x (growC_le ht o x (growC_le hs o x ho))
      have g43 := lM3 _ _ g4
      have g53 := lM3 _ _ g5
      have g73 := lM3 _ _ g7
      have a4 := ne_of_some g43 hp21
      have a5 := ne_of_some g53 hp21
      have a7 := ne_of_some g73 hp21
      simp (disch := first | assumption | (apply Ap.symm; assumption) | omega | decide | (simp only [Xd] <;> omega)) only [cells_IntA, ↓Xa, Xb, Xc, ↓reduceIte, Nat.reduceLT, Nat.reduceEqDiff, Nat.reduceBEq, Nat.reduceLeDiff, Nat.reduceAdd, Nat.reduceMul]
      have tl1 := tail1 s t u ((0 : Nat) : Int) ((0 : Nat) : Int) ((0 : Nat) : Int) ((0 : Nat) : Int) p4 p5 p6 p7 p21 (M3.upd p21 (some (.row 28 0 [IntB (dotF 0 zs ws), IntD (dotF 0 zs ws)]))) (by rw [upd_other _ _ (Ne.symm a4)]; exact g43) (by rw [upd_other _ _ (Ne.symm a5)]; exact g53) ?_
      · simp (disch := first | assumption | (apply Ap.symm; assumption) | omega | decide | (simp only [Xd] <;> omega)) only [sndC, ac4, ↓Xa, Xb, Xc, ↓reduceIte, Nat.reduceLT, Nat.reduceEqDiff, Nat.reduceBEq, Nat.reduceLeDiff, Nat.reduceAdd, Nat.reduceMul] at tl1
        exact tl1
      intro M4 l4
      have l34 : Le M3 M4 := fun o x ho => l4 o x (((Le.refl M3).upd hp21) o x ho)
      have g54 := l34 _ _ g53
      have g74 := l34 _ _ g73
      have gd4 := l4 _ _ (upd_same _ _ _)
      have hs4 := hs3.le l34
      have ht4 := ht3.le l34
      have hu4 := hu3.le l34
      simp (disch := first | assumption | (apply Ap.symm; assumption) | omega | decide | (simp only [Xd] <;> omega)) only [sndC, ac4, len_rw, neq_int, hne, hd0, ↓Xa, Xb, Xc, ↓reduceIte, Nat.reduceLT, Nat.reduceEqDiff, Nat.reduceBEq, Nat.reduceLeDiff, Nat.reduceAdd, Nat.reduceMul]
      refine PFn.dcall (fadd_fn (t := false) (t' := false) hz hw (by omega) hlen (by omega)) ?_
      simp (disch := first | assumption | (apply Ap.symm; assumption) | omega | decide | (simp only [Xd] <;> omega)) only [↓Xa, Xb, Xc, ↓reduceIte, Nat.reduceLT, Nat.reduceEqDiff, Nat.reduceBEq, Nat.reduceLeDiff, Nat.reduceAdd, Nat.reduceMul]
      refine dcall_lend (is4_fn (t := false) (t' := false) badd (by omega)) rfl (blkOf s) (fun H' e => ⟨hs4.lentD H' e, Lent.same, trivial⟩) ?_
      simp (disch := first | assumption | (apply Ap.symm; assumption) | omega | decide | (simp only [Xd] <;> omega)) only [↓Xa, Xb, Xc, ↓reduceIte, Nat.reduceLT, Nat.reduceEqDiff, Nat.reduceBEq, Nat.reduceLeDiff, Nat.reduceAdd, Nat.reduceMul]
      refine PFn.dcall (fsub_fn (t := false) (t' := false) hz hw (by omega) hlen (by omega)) ?_
      simp (disch := first | assumption | (apply Ap.symm; assumption) | omega | decide | (simp only [Xd] <;> omega)) only [↓Xa, Xb, Xc, ↓reduceIte, Nat.reduceLT, Nat.reduceEqDiff, Nat.reduceBEq, Nat.reduceLeDiff, Nat.reduceAdd, Nat.reduceMul]
      refine dcall_lend (is4_fn (t := false) (t' := false) bsub (by omega)) rfl (blkOf t) (fun H' e => ⟨ht4.lentD H' e, Lent.same, trivial⟩) ?_
      simp (disch := first | assumption | (apply Ap.symm; assumption) | omega | decide | (simp only [Xd] <;> omega)) only [g54, g74, fold_RefA, ↓Xa, Xb, Xc, ↓reduceIte, Nat.reduceLT, Nat.reduceEqDiff, Nat.reduceBEq, Nat.reduceLeDiff, Nat.reduceAdd, Nat.reduceMul]
      refine PFn.dcall (fcomb_fn (t := false) (t' := false) false false hz hw bm bn (by omega) hlen (by omega)) ?_
      simp (disch := first | assumption | (apply Ap.symm; assumption) | omega | decide | (simp only [Xd] <;> omega)) only [↓Xa, Xb, Xc, ↓reduceIte, Nat.reduceLT, Nat.reduceEqDiff, Nat.reduceBEq, Nat.reduceLeDiff, Nat.reduceAdd, Nat.reduceMul]
      refine dcall_lend (is4_fn (t := false) (t' := false) bcomb (by omega)) rfl (blkOf u) (fun H' e => ⟨hu4.lentD H' e, Lent.same, trivial⟩) ?_
      simp (disch := first | assumption | (apply Ap.symm; assumption) | omega | decide | (simp only [Xd] <;> omega)) only [gd4, fold_IntA, ↓Xa, Xb, Xc, ↓reduceIte, Nat.reduceLT, Nat.reduceEqDiff, Nat.reduceBEq, Nat.reduceLeDiff, Nat.reduceAdd, Nat.reduceMul]
      refine PFn.dcall fdot ?_
      simp (disch := first | assumption | (apply Ap.symm; assumption) | omega | decide | (simp only [Xd] <;> omega)) only [↓Xa, Xb, Xc, ↓reduceIte, Nat.reduceLT, Nat.reduceEqDiff, Nat.reduceBEq, Nat.reduceLeDiff, Nat.reduceAdd, Nat.reduceMul]
      refine (one4_fn td bdot (by omega)).call ?_
      simp (disch := first | assumption | (apply Ap.symm; assumption) | omega | decide | (simp only [Xd] <;> omega)) only [↓Xa, Xb, Xc, ↓reduceIte, Nat.reduceLT, Nat.reduceEqDiff, Nat.reduceBEq, Nat.reduceLeDiff, Nat.reduceAdd, Nat.reduceMul]
      have hH4 : Le H M4 := fun o x ho => l34 o x (lM3 o x (hM o x ho))
      refine run_call (own5_run hs4 hz (by omega) fun M5 h5 => ?_)
      have ht5 : RowO M5 t (zipI (· - ·) zs ws) := (ht4.min hst).le h5
      have hu5 : RowO M5 u (zipI (fun x y => m * x + n * y) zs ws) := (hu4.min hsu).le h5
      have l5 : Le H M5 := fun o x ho => h5 o x (le_minB hH4 fs o x ho)
      simp (disch := first | assumption | (apply Ap.symm; assumption) | omega | decide | (simp only [Xd] <;> omega)) only [↓Xa, Xb, Xc, ↓reduceIte, Nat.reduceLT, Nat.reduceEqDiff, Nat.reduceBEq, Nat.reduceLeDiff, Nat.reduceAdd, Nat.reduceMul]
      refine run_call (own5_run ht5 hw (by omega) fun M6 h6 => ?_)
      have hu6 : RowO M6 u (zipI (fun x y => m * x + n * y) zs ws) := (hu5.min htu).le h6
      have l6 : Le H M6 := fun o x ho => h6 o x (le_minB l5 ft o x ho)
      simp (disch := first | assumption | (apply Ap.symm; assumption) | omega | decide | (simp only [Xd] <;> omega)) only [↓Xa, Xb, Xc, ↓reduceIte, Nat.reduceLT, Nat.reduceEqDiff, Nat.reduceBEq, Nat.reduceLeDiff, Nat.reduceAdd, Nat.reduceMul]
      refine run_call (own5_run hu6 hz (by omega) fun M7 h7 => ?_)
      have l7 : Le H M7 := fun o x ho => h7 o x (le_minB l6 fu o x ho)
      simp (disch := first | assumption | (apply Ap.symm; assumption) | omega | decide | (simp only [Xd] <;> omega)) only [rs4, ↓Xa, Xb, Xc, ↓reduceIte, Nat.reduceLT, Nat.reduceEqDiff, Nat.reduceBEq, Nat.reduceLeDiff, Nat.reduceAdd, Nat.reduceMul]
      exact SetR.dropTo l7 (SetR.now hq)
    · have hne : decide (((a.length : Nat) : Int) = ((b.length : Nat) : Int)) = false := decide_eq_false (by omega)
      have nz : zs.length < 9223372036854775808 := by omega
      have nw : ws.length < 9223372036854775808 := by omega
      have hs0 : decide (sgnI 0 = ((0 : Nat) : Int)) = true := by decide
      simp (disch := first | assumption | (apply Ap.symm; assumption) | omega | decide | (simp only [Xd] <;> omega)) only [sndC, ac4, ↓Xa, Xb, Xc, ↓reduceIte, Nat.reduceLT, Nat.reduceEqDiff, Nat.reduceBEq, Nat.reduceLeDiff, Nat.reduceAdd, Nat.reduceMul]
      refine (rowadd_ne nz nw hlen).call ?_
      simp (disch := first | assumption | (apply Ap.symm; assumption) | omega | decide | (simp only [Xd] <;> omega)) only [↓Xa, Xb, Xc, ↓reduceIte, Nat.reduceLT, Nat.reduceEqDiff, Nat.reduceBEq, Nat.reduceLeDiff, Nat.reduceAdd, Nat.reduceMul]
      refine (rowsub_ne nz nw hlen).call ?_
      simp (disch := first | assumption | (apply Ap.symm; assumption) | omega | decide | (simp only [Xd] <;> omega)) only [g4, g6, fold_IntA, ↓Xa, Xb, Xc, ↓reduceIte, Nat.reduceLT, Nat.reduceEqDiff, Nat.reduceBEq, Nat.reduceLeDiff, Nat.reduceAdd, Nat.reduceMul]
      refine (rowcomb_ne nz nw hlen).call ?_
      simp (disch := first | assumption | (apply Ap.symm; assumption) | omega | decide | (simp only [Xd] <;> omega)) only [↓Xa, Xb, Xc, ↓reduceIte, Nat.reduceLT, Nat.reduceEqDiff, Nat.reduceBEq, Nat.reduceLeDiff, Nat.reduceAdd, Nat.reduceMul]
      refine (rowdot_ne nz nw hlen).call ?_
      simp (disch := first | assumption | (apply Ap.symm; assumption) | omega | decide | (simp only [Xd] <;> omega)) only [↓Xa, Xb, Xc, ↓reduceIte, Nat.reduceLT, Nat.reduceEqDiff, Nat.reduceBEq, Nat.reduceLeDiff, Nat.reduceAdd, Nat.reduceMul]
      refine alloc_i fun p21 hp21 => ?_
      have a4 := ne_of_some g4 hp21
      have a5 := ne_of_some g5 hp21
      simp (disch := first | assumption | (apply Ap.symm; assumption) | omega | decide | (simp only [Xd] <;> omega)) only [cells_IntA, ↓Xa, Xb, Xc, ↓reduceIte, Nat.reduceLT, Nat.reduceEqDiff, Nat.reduceBEq, Nat.reduceLeDiff, Nat.reduceAdd, Nat.reduceMul]
      have tl1 := tail1 (.seq 0 [] true) (.seq 0 [] true) (.seq 0 [] true) ((5 : Nat) : Int) ((5 : Nat) : Int) ((5 : Nat) : Int) ((5 : Nat) : Int) p4 p5 p6 p7 p21 (M.upd p21 (some (.row 28 0 [IntB 0, IntD 0]))) (by rw [upd_other _ _ (Ne.symm a4)]; exact g4) (by rw [upd_other _ _ (Ne.symm a5)]; exact g5) ?_
      · simp (disch := first | assumption | (apply Ap.symm; assumption) | omega | decide | (simp only [Xd] <;> omega)) only [sndC, ac4, ↓Xa, Xb, Xc, ↓reduceIte, Nat.reduceLT, Nat.reduceEqDiff, Nat.reduceBEq, Nat.reduceLeDiff, Nat.reduceAdd, Nat.reduceMul] at tl1
        exact tl1
      intro M4 l4
      have gd4 := l4 _ _ (upd_same _ _ _)
      have hH4 : Le H M4 := fun o x ho => l4 o x (((hM).upd hp21) o x ho)
      simp (disch := first | assumption | (apply Ap.symm; assumption) | omega | decide | (simp only [Xd] <;> omega)) only [sndC, ac4, len_rw, neq_int, hne, eql_int, hd0, hd5, gd4, fold_IntA, ↓Xa, Xb, Xc, ↓reduceIte, Nat.reduceLT, Nat.reduceEqDiff, Nat.reduceBEq, Nat.reduceLeDiff, Nat.reduceAdd, Nat.reduceMul]
      refine (sign_fn (Bd.zero 0) (by omega)).call ?_
      simp (disch := first | assumption | (apply Ap.symm; assumption) | omega | decide | (simp only [Xd] <;> omega)) only [eql_int, hs0, hd5, rs4, ↓Xa, Xb, Xc, ↓reduceIte, Nat.reduceLT, Nat.reduceEqDiff, Nat.reduceBEq, Nat.reduceLeDiff, Nat.reduceAdd, Nat.reduceMul]
      exact SetR.dropTo hH4 (SetR.now hq)
  have tl0 := tail0
  simp (disch := first | assumption | (apply Ap.symm; assumption) | omega | decide | (simp only [Xd] <;> omega)) only [sndC, ac4, ↓Xa, Xb, Xc, ↓reduceIte, Nat.reduceLT, Nat.reduceEqDiff, Nat.reduceBEq, Nat.reduceLeDiff, Nat.reduceAdd, Nat.reduceMul] at tl0
  refine enter4 (by simp) ?_
  simp (disch := first | assumption | (apply Ap.symm; assumption) | omega | decide | (simp only [Xd] <;> omega)) only [ac4, TwoA, NumsA, ↓Xa, Xb, Xc, ↓reduceIte, Nat.reduceLT, Nat.reduceEqDiff, Nat.reduceBEq, Nat.reduceLeDiff, Nat.reduceAdd, Nat.reduceMul]
  refine alloc_i fun p1 hp1 => ?_
  have n1 := hp1
  simp (disch := first | assumption | (apply Ap.symm; assumption) | omega | decide | (simp only [Xd] <;> omega)) only [↓Xa, Xb, Xc, ↓reduceIte, Nat.reduceLT, Nat.reduceEqDiff, Nat.reduceBEq, Nat.reduceLeDiff, Nat.reduceAdd, Nat.reduceMul]
  refine live4_fn.call ?_
  simp (disch := first | assumption | (apply Ap.symm; assumption) | omega | decide | (simp only [Xd] <;> omega)) only [↓Xa, Xb, Xc, ↓reduceIte, Nat.reduceLT, Nat.reduceEqDiff, Nat.reduceBEq, Nat.reduceLeDiff, Nat.reduceAdd, Nat.reduceMul]
  refine dalloc_i fun p2 hp2 => ?_
  have n2 := hp2
  simp only [upd_none] at n2
  obtain ⟨_, n2⟩ := n2
  simp (disch := first | assumption | (apply Ap.symm; assumption) | omega | decide | (simp only [Xd] <;> omega)) only [↓Xa, Xb, Xc, ↓reduceIte, Nat.reduceLT, Nat.reduceEqDiff, Nat.reduceBEq, Nat.reduceLeDiff, Nat.reduceAdd, Nat.reduceMul]
  refine dalloc_i fun p3 hp3 => ?_
  have n3 := hp3
  simp only [upd_none] at n3
  obtain ⟨_, _, n3⟩ := n3
  simp (disch := first | assumption | (apply Ap.symm; assumption) | omega | decide | (simp only [Xd] <;> omega)) only [rep24, repL3, ↓Xa, Xb, Xc, ↓reduceIte, Nat.reduceLT, Nat.reduceEqDiff, Nat.reduceBEq, Nat.reduceLeDiff, Nat.reduceAdd, Nat.reduceMul]
  refine lg'.call ?_
  simp (disch := first | assumption | (apply Ap.symm; assumption) | omega | decide | (simp only [Xd] <;> omega)) only [decide_eq_false hl, ↓Xa, Xb, Xc, ↓reduceIte, Nat.reduceLT, Nat.reduceEqDiff, Nat.reduceBEq, Nat.reduceLeDiff, Nat.reduceAdd, Nat.reduceMul]
  refine ofa.call ?_
  simp (disch := first | assumption | (apply Ap.symm; assumption) | omega | decide | (simp only [Xd] <;> omega)) only [↓Xa, Xb, Xc, ↓reduceIte, Nat.reduceLT, Nat.reduceEqDiff, Nat.reduceBEq, Nat.reduceLeDiff, Nat.reduceAdd, Nat.reduceMul]
  refine ofb.call ?_
  simp (disch := first | assumption | (apply Ap.symm; assumption) | omega | decide | (simp only [Xd] <;> omega)) only [↓Xa, Xb, Xc, ↓reduceIte, Nat.reduceLT, Nat.reduceEqDiff, Nat.reduceBEq, Nat.reduceLeDiff, Nat.reduceAdd, Nat.reduceMul]
  refine PFn.dcall mkc ?_
  simp (disch := first | assumption | (apply Ap.symm; assumption) | omega | decide | (simp only [Xd] <;> omega)) only [↓Xa, Xb, Xc, ↓reduceIte, Nat.reduceLT, Nat.reduceEqDiff, Nat.reduceBEq, Nat.reduceLeDiff, Nat.reduceAdd, Nat.reduceMul]
  refine PFn.dcall rmc ?_
  simp (disch := first | assumption | (apply Ap.symm; assumption) | omega | decide | (simp only [Xd] <;> omega)) only [↓Xa, Xb, Xc, ↓reduceIte, Nat.reduceLT, Nat.reduceEqDiff, Nat.reduceBEq, Nat.reduceLeDiff, Nat.reduceAdd, Nat.reduceMul]
  refine dalloc_i fun p4 hp4 => ?_
  have n4 := hp4
  simp only [upd_none] at n4
  obtain ⟨_, _, _, n4⟩ := n4
  simp (disch := first | assumption | (apply Ap.symm; assumption) | omega | decide | (simp only [Xd] <;> omega)) only [↓Xa, Xb, Xc, ↓reduceIte, Nat.reduceLT, Nat.reduceEqDiff, Nat.reduceBEq, Nat.reduceLeDiff, Nat.reduceAdd, Nat.reduceMul]
  refine dalloc_i fun p5 hp5 => ?_
  have n5 := hp5
  simp only [upd_none] at n5
  obtain ⟨_, _, _, _, n5⟩ := n5
  simp (disch := first | assumption | (apply Ap.symm; assumption) | omega | decide | (simp only [Xd] <;> omega)) only [cells_IntA, cells_RefA, ↓Xa, Xb, Xc, ↓reduceIte, Nat.reduceLT, Nat.reduceEqDiff, Nat.reduceBEq, Nat.reduceLeDiff, Nat.reduceAdd, Nat.reduceMul]
  refine PFn.dcall mkd ?_
  simp (disch := first | assumption | (apply Ap.symm; assumption) | omega | decide | (simp only [Xd] <;> omega)) only [↓Xa, Xb, Xc, ↓reduceIte, Nat.reduceLT, Nat.reduceEqDiff, Nat.reduceBEq, Nat.reduceLeDiff, Nat.reduceAdd, Nat.reduceMul]
  refine PFn.dcall rmd ?_
  simp (disch := first | assumption | (apply Ap.symm; assumption) | omega | decide | (simp only [Xd] <;> omega)) only [↓Xa, Xb, Xc, ↓reduceIte, Nat.reduceLT, Nat.reduceEqDiff, Nat.reduceBEq, Nat.reduceLeDiff, Nat.reduceAdd, Nat.reduceMul]
  refine dalloc_i fun p6 hp6 => ?_
  have n6 := hp6
  simp only [upd_none] at n6
  obtain ⟨_, _, _, _, _, n6⟩ := n6
  simp (disch := first | assumption | (apply Ap.symm; assumption) | omega | decide | (simp only [Xd] <;> omega)) only [↓Xa, Xb, Xc, ↓reduceIte, Nat.reduceLT, Nat.reduceEqDiff, Nat.reduceBEq, Nat.reduceLeDiff, Nat.reduceAdd, Nat.reduceMul]
  refine dalloc_i fun p7 hp7 => ?_
  have n7 := hp7
  simp only [upd_none] at n7
  obtain ⟨_, _, _, _, _, _, n7⟩ := n7
  simp (disch := first | assumption | (apply Ap.symm; assumption) | omega | decide | (simp only [Xd] <;> omega)) only [cells_IntA, cells_RefA, fold_IntA, fold_RefA, ↓Xa, Xb, Xc, ↓reduceIte, Nat.reduceLT, Nat.reduceEqDiff, Nat.reduceBEq, Nat.reduceLeDiff, Nat.reduceAdd, Nat.reduceMul]
  exact tl0 _ p4 p5 p6 p7 ((((((((Le.refl H).updB n1).updB n2).updB n3).updB n4).updB n5).updB n6).updB n7) (by simp (disch := first | assumption | (apply Ap.symm; assumption) | omega | decide | (simp only [Xd] <;> omega)) only [↓Xa, Xb, Xc, ↓reduceIte, Nat.reduceLT, Nat.reduceEqDiff, Nat.reduceBEq, Nat.reduceLeDiff, Nat.reduceAdd, Nat.reduceMul]) (by simp (disch := first | assumption | (apply Ap.symm; assumption) | omega | decide | (simp only [Xd] <;> omega)) only [↓Xa, Xb, Xc, ↓reduceIte, Nat.reduceLT, Nat.reduceEqDiff, Nat.reduceBEq, Nat.reduceLeDiff, Nat.reduceAdd, Nat.reduceMul]) (by simp (disch := first | assumption | (apply Ap.symm; assumption) | omega | decide | (simp only [Xd] <;> omega)) only [↓Xa, Xb, Xc, ↓reduceIte, Nat.reduceLT, Nat.reduceEqDiff, Nat.reduceBEq, Nat.reduceLeDiff, Nat.reduceAdd, Nat.reduceMul]) (by simp (disch := first | assumption | (apply Ap.symm; assumption) | omega | decide | (simp only [Xd] <;> omega)) only [↓Xa, Xb, Xc, ↓reduceIte, Nat.reduceLT, Nat.reduceEqDiff, Nat.reduceBEq, Nat.reduceLeDiff, Nat.reduceAdd, Nat.reduceMul])
end Go.Proofs.YtanchgkiomfhhaaDoor.Fw
