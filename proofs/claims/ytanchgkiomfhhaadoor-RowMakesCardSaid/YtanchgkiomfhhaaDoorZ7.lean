/- The texts Lay156 Kj Kh Kk Kl Km Ko Kp Kq Kr Ks Kt Ku, joined. -/
import Derived.Test.YtanchgkiomfhhaaDoorZ6
import Derived.Shelf.Strings.OnBuilder
import Derived.Test.YtanchgkiomfhhaaDoorProg
import Derived.Lib.SmallJoins
/- The numbers under which the library's functions stand in this program, and that their texts are those which the kit's contracts speak of: printed by wip/tools/lay.py. -/
namespace Go.Proofs.YtanchgkiomfhhaaDoor.Fw
open Go Go.Shelf Go.Proofs
def lay156_ren : Ren :=
  {
    f := fun x =>
      match x with
      | 156 => 168
      | 165 => 203
      | 166 => 204
      | 169 => 205
      | 240 => 215
      | 241 => 216
      | 276 => 227
      | 277 => 228
      | n => n,
    t := fun x =>
      match x with
      | 31 => 202
      | 9 => 9
      | 3 => 3
      | 4 => 4
      | 0 => 0
      | 20 => 20
      | 72 => 234
      | 76 => 238
      | 70 => 232
      | 37 => 103
      | 75 => 237
      | 127 => 251
      | 164 => 263
      | 5 => 5
      | 80 => 36
      | n => n,
    g := fun x =>
      have n := x;
      n }
theorem lay156 : Lays.n156 Tryd.prog lay156_ren :=
  { mixed := Eq.refl true, f156 := Eq.trans Tryd.func168 (congrArg some (Eq.refl (Body.n156 lay156_ren))),
    f165 := Eq.trans Tryd.func203 (congrArg some (Eq.refl (Body.n165 lay156_ren))),
    f166 := Eq.trans Tryd.func204 (congrArg some (Eq.refl (Body.n166 lay156_ren))),
    f169 := Eq.trans Tryd.func205 (congrArg some (Eq.refl (Body.n169 lay156_ren))),
    f240 := Eq.trans Tryd.func215 (congrArg some (Eq.refl (Body.n240 lay156_ren))),
    f241 := Eq.trans Tryd.func216 (congrArg some (Eq.refl (Body.n241 lay156_ren))),
    f276 := Eq.trans Tryd.func227 (congrArg some (Eq.refl (Body.n276 lay156_ren))),
    f277 := Eq.trans Tryd.func228 (congrArg some (Eq.refl (Body.n277 lay156_ren))), t0 := Tryd.underlying0,
    a0 := Tryd.isAgg0, z0 := Tryd.sizeOf0, v0 := Tryd.zeroValue0, t3 := Tryd.underlying3, a3 := Tryd.isAgg3,
    z3 := Tryd.sizeOf3, v3 := Tryd.zeroValue3, t4 := Tryd.underlying4, a4 := Tryd.isAgg4, z4 := Tryd.sizeOf4,
    v4 := Tryd.zeroValue4, t9 := Tryd.underlying9, a9 := Tryd.isAgg9, z9 := Tryd.sizeOf9, v9 := Tryd.zeroValue9,
    t20 := Tryd.underlying20, a20 := Tryd.isAgg20, z20 := Tryd.sizeOf20, v20 := Tryd.zeroValue20,
    t31 := Tryd.underlying202, a31 := Tryd.isAgg202, z31 := Tryd.sizeOf202, v31 := Tryd.zeroValue202,
    t37 := Tryd.underlying103, a37 := Tryd.isAgg103, z37 := Tryd.sizeOf103, v37 := Tryd.zeroValue103,
    t70 := Tryd.underlying232, a70 := Tryd.isAgg232, z70 := Tryd.sizeOf232, v70 := Tryd.zeroValue232,
    t72 := Tryd.underlying234, a72 := Tryd.isAgg234, z72 := Tryd.sizeOf234, v72 := Tryd.zeroValue234,
    t75 := Tryd.underlying237, a75 := Tryd.isAgg237, z75 := Tryd.sizeOf237, v75 := Tryd.zeroValue237,
    t76 := Tryd.underlying238, a76 := Tryd.isAgg238, z76 := Tryd.sizeOf238, v76 := Tryd.zeroValue238,
    t127 := Tryd.underlying251, a127 := Tryd.isAgg251, z127 := Tryd.sizeOf251, v127 := Tryd.zeroValue251,
    t164 := Tryd.underlying263, a164 := Tryd.isAgg263, z164 := Tryd.sizeOf263, v164 := Tryd.zeroValue263 }
end Go.Proofs.YtanchgkiomfhhaaDoor.Fw

/- Strings joined: by the kit's contract. -/
namespace Go.Proofs.YtanchgkiomfhhaaDoor.Fw
set_option linter.unusedSimpArgs false
set_option linter.unusedVariables false
open Go Go.Proofs.YtanchgkiomfhhaaDoor.Ma Go.Shelf
set_option maxRecDepth 20000

theorem pfn_calls {P : Program} {f : FuncId} {args : List AV} {r : AV} (hf : ∃ fn, P.funcs[f]? = some fn ∧ (fn.name == "runtime.NumGoroutine") = false ∧ fn.body.isNone = false)
    (h : ∀ (c : Ctx) (vs : Array Value), Ok c → vs.size = args.length → (∀ i (h : i < args.length) (h' : i < vs.size), Enc c (args[i]) (vs[i])) → Calls P f vs c.w fun e w' => ∃ v, e = .returned v ∧ (∀ c', Enc c' r v) ∧ Go.RowKit.Below c.w.heap.size c.w w') : PFn P f args r := by
  intro H Q hq
  refine ⟨hf, fun c vs hH hok hs he => (h c vs hok hs he).mono ?_⟩
  rintro e w' ⟨v, rfl, hr, hb⟩
  let c2 : Ctx := { c with w := w' }
  have hsz : ∀ i x, c.H i = some x → c.μ i < c.w.heap.size := fun i x e => by
    have := hok.blk i x e
    cases x with
    | row ty es cells => obtain ⟨arr, h1, _⟩ := this; exact (Array.getElem?_eq_some_iff.1 h1).1
    | raw o => exact (Array.getElem?_eq_some_iff.1 this.1).1
    | glob g cells => rw [this.1]; exact this.2.1
    | loop st pend fn ps assign body n E => obtain ⟨tm, dd, h1, _⟩ := this; exact (Array.getElem?_eq_some_iff.1 h1).1
  have later : Later c c2 := by
    refine ⟨⟨hb.size, hb.os, hb.tape, hb.output, fun _ h => h, ?_, fun k hk hm => ⟨hb.block k hk, hm⟩⟩, fun _ h => ⟨h, fun k => k⟩⟩
    intro i x' _ hx'
    exact ⟨x', hx', Nat.le_refl _, fun _ => ⟨rfl, fun ty' es' cells' e => ⟨cells', e, fun arr ha => ⟨arr, (hb.block _ (hsz i x' hx')).trans ha, rfl⟩⟩⟩⟩
  have ok : Ok c2 := ⟨hok.used, hok.fin, hok.inj, fun b x hx => (hok.blk b x hx).later later rfl (hb.block _ (hsz b x hx))⟩
  exact ⟨c2, v, r, rfl, rfl, ok, later, hr c2, by show Q r c.H; rw [hH]; exact hq⟩
theorem joinX : Builder.Extra Tryd.prog lay156_ren where
  sizeBuilder := by kernel_rfl
  liesBuilder := by kernel_rfl
  t5 := Tryd.underlying5
  a5 := Tryd.isAgg5
  z5 := Tryd.sizeOf5
  v5 := Tryd.zeroValue5
  infoByte := by kernel_rfl
  cellsByte := by kernel_rfl
  sizeByte := by kernel_rfl
  neB5 := by decide
theorem join_fn (xs : List (List UInt8)) (sep : List UInt8) (t : Bool) (hN : xs.length ≤ 1000000) (hlen : (Lib.join xs sep).length ≤ 140737488355328) : PFn Tryd.prog 168 [.seq xs.length (xs.map Sx) t, Sx sep] (Sx (Lib.join xs sep)) := by
  by_cases h0 : xs = []
  · subst h0
    intro H Q hq
    refine enter168 (by simp) ?_
    have e : Lib.join ([] : List (List UInt8)) sep = [] := rfl
    rw [e] at hq
    have l0 : ([] : List (List UInt8)).length = 0 := rfl
    simp (disch := first | assumption | (apply Ap.symm; assumption) | omega | decide | (simp only [Xd] <;> omega)) only [ac168, l0, len_rw, rs168, ↓Xa, Xb, Xc, ↓reduceIte, Nat.reduceLT, Nat.reduceEqDiff, Nat.reduceBEq, Nat.reduceLeDiff, Nat.reduceAdd, Nat.reduceMul]
    exact SetR.now hq
  · refine pfn_calls ⟨_, Tryd.func168, by kernel_rfl, by kernel_rfl⟩ fun c vs hok hs he => ?_
    obtain ⟨v0, v1, rfl⟩ : ∃ v0 v1, vs = #[v0, v1] := Go.Joins.array2 hs
    have e0 : Enc c (.seq xs.length (xs.map Sx) t) v0 := he 0 (by simp) (by simp)
    have e1 : Enc c (Sx sep) v1 := he 1 (by simp) (by simp)
    cases e1
    cases e0 with
    | seq _ _ _ base cap cv hlen' hcap hmax ht hb hn hc =>
      obtain ⟨k, off, rfl, hmu, hk, hcell⟩ := hb (by simpa using List.length_pos_iff.2 h0)
      have hce : ∀ (j : Nat) x, (xs.map fun l => (⟨l.toArray⟩ : ByteArray))[j]? = some x → c.w.cell? ⟨k, off + j, none⟩ = some (.string x) := fun j x hx => by
        rw [List.getElem?_map] at hx
        obtain ⟨y, hy, rfl⟩ := Option.map_eq_some_iff.1 hx
        obtain ⟨hj, hy⟩ := List.getElem?_eq_some_iff.1 hy
        have h1 := hcell j (by simpa using hj)
        have h2 := hc j (by simpa using hj)
        rw [List.getElem_map, hy] at h2
        generalize cv j = u at h1 h2
        cases h2
        exact h1
      have hm : (xs.map fun l => (⟨l.toArray⟩ : ByteArray)).map (·.data.toList) = xs := by
        rw [List.map_map]
        exact (List.map_congr_left fun l _ => by simp).trans (List.map_id xs)
      have := Any.strings_Join (P := Tryd.prog) (ρ := lay156_ren) lay156 joinX k off cap (xs.map fun l => (⟨l.toArray⟩ : ByteArray)) ⟨sep.toArray⟩ c.w hce hk (by simpa using Nat.le_trans hN (by omega)) (by simpa using hcap) (by rw [hm]; simpa using hlen)
      rw [hm, List.length_map] at this
      refine this.mono fun e w' ⟨h1, h2⟩ => ⟨_, h1, fun c' => ?_, h2⟩
      simp only [Sx]
      exact .str _
end Go.Proofs.YtanchgkiomfhhaaDoor.Fw

/- Rows of whole numbers: made of small ones, told; what the laws' own helpers answer. -/
namespace Go.Proofs.YtanchgkiomfhhaaDoor.Fw
set_option linter.unusedSimpArgs false
set_option linter.unusedVariables false
open Go Go.Proofs.YtanchgkiomfhhaaDoor.Ma
set_option maxRecDepth 20000

theorem repF0 {a : AV} : repA [a] 1 = [a] := by simp [repA, List.range, List.range.loop]
theorem load_map {α : Type} {f : α → AV} {l : List α} {H : AHeap} {K : AV → Prop} {i : Nat} (h : i < l.length) : loadW H none (.cptr ((l.map f).drop i)) K = K (f (l[i])) := by
  have hi : i < (l.map f).length := by simpa using h
  simp only [loadW, cellsAt, List.drop_eq_getElem_cons hi]
  simp
theorem idx_map {α : Type} {f : α → AV} {l : List α} {t : Bool} {k : IntKind} {K : AV → Prop} {i : Nat} (h : i < l.length) : idxAW 1 (.seq l.length (l.map f) t) (.int k (i : Int)) K = K (.cptr ((l.map f).drop (i * 1))) := idx_rw (by simp) h
abbrev iA (n : Int) : AV := .int .i64 n
theorem rowof_run {l : List Int} {t : Bool} (hb : ∀ n, n ∈ l → -9223372036854775808 ≤ n ∧ n < 9223372036854775808) (hbig : l.length ≤ 1000000) {H : AHeap} {Q : AV → AHeap → Prop} (hq : ∀ y M, growC H 28 2 l.length (IC l) y M → Q y M) : Run Tryd.prog 54 [.seq l.length (l.map iA) t] H Q := by
  refine enter54 (by simp) ?_
  simp (disch := first | assumption | (apply Ap.symm; assumption) | omega | decide | (simp only [Xd] <;> omega)) only [ac54, len_rw, ↓Xa, Xb, Xc, ↓reduceIte, Nat.reduceLT, Nat.reduceEqDiff, Nat.reduceBEq, Nat.reduceLeDiff, Nat.reduceAdd, Nat.reduceMul]
  refine W_loop (fun s : Nat × AV × AHeap => ⟨[], [(3, s.2.1), (6, .seq l.length (l.map iA) t), (7, .int .i64 (l.length : Int)), (8, .int .i64 s.1)], s.2.2⟩) (fun s => s.1 ≤ l.length ∧ growC H 28 2 s.1 (IC (l.take s.1)) s.2.1 s.2.2) (fun s => l.length - s.1) (0, .seq 0 [] true, H) (Settle.now rfl) ⟨Nat.zero_le _, growC_nil⟩ ?_
  rintro ⟨i, y, M⟩ ⟨h3, hg⟩
  dsimp only at h3 hg ⊢
  by_cases hi : i < l.length
  · simp (disch := first | assumption | (apply Ap.symm; assumption) | omega | decide | (simp only [Xd] <;> omega)) only [hi, idx_map, load_map, ↓Xa, Xb, Xc, ↓reduceIte, Nat.reduceLT, Nat.reduceEqDiff, Nat.reduceBEq, Nat.reduceLeDiff, Nat.reduceAdd, Nat.reduceMul]
    refine (of_fn (hb _ (List.getElem_mem hi))).call ?_
    simp (disch := first | assumption | (apply Ap.symm; assumption) | omega | decide | (simp only [Xd] <;> omega)) only [repI1, cells_IntA, ↓Xa, Xb, Xc, ↓reduceIte, Nat.reduceLT, Nat.reduceEqDiff, Nat.reduceBEq, Nat.reduceLeDiff, Nat.reduceAdd, Nat.reduceMul]
    refine app_C (m := 1) hg rfl cellI (by omega) (by omega) (by omega) fun y' M2 hg3 => ?_
    rw [← IC_take] at hg3
    simp (disch := first | assumption | (apply Ap.symm; assumption) | omega | decide | (simp only [Xd] <;> omega)) only [↓Xa, Xb, Xc, ↓reduceIte, Nat.reduceLT, Nat.reduceEqDiff, Nat.reduceBEq, Nat.reduceLeDiff, Nat.reduceAdd, Nat.reduceMul]
    exact Settle.now ⟨(i + 1, y', M2), by dsimp only; omega, ⟨by dsimp only; omega, hg3⟩, rfl⟩
  · obtain rfl : i = l.length := by omega
    rw [List.take_of_length_le (by omega)] at hg
    simp (disch := first | assumption | (apply Ap.symm; assumption) | omega | decide | (simp only [Xd] <;> omega)) only [hi, ↓Xa, Xb, Xc, ↓reduceIte, Nat.reduceLT, Nat.reduceEqDiff, Nat.reduceBEq, Nat.reduceLeDiff, Nat.reduceAdd, Nat.reduceMul]
    refine Settle.now ?_
    simp (disch := first | assumption | (apply Ap.symm; assumption) | omega | decide | (simp only [Xd] <;> omega)) only [rs54, ↓Xa, Xb, Xc, ↓reduceIte, Nat.reduceLT, Nat.reduceEqDiff, Nat.reduceBEq, Nat.reduceLeDiff, Nat.reduceAdd, Nat.reduceMul]
    exact SetR.now (hq y M hg)
theorem rowof_fn {l : List Int} {t : Bool} (hb : ∀ n, n ∈ l → -9223372036854775808 ≤ n ∧ n < 9223372036854775808) (hbig : l.length ≤ 1000000) : PFn Tryd.prog 54 [.seq l.length (l.map iA) t] (RowA l false) :=
  PFn.frozen fun _ _ hq => rowof_run hb hbig hq

def joinT : List (List UInt8) → List UInt8
  | [] => []
  | [x] => x
  | x :: y :: r => x ++ 32 :: joinT (y :: r)
theorem joinT_eq : ∀ xs : List (List UInt8), Lib.join xs [32] = joinT xs
  | [] => rfl
  | [x] => by simp [Lib.join, joinT, List.intercalate]
  | x :: y :: r => by
    have := joinT_eq (y :: r)
    simp only [Lib.join, joinT, List.intercalate] at this ⊢
    rw [← this]
    simp
theorem joinT_len {k : Nat} : ∀ xs : List (List UInt8), (∀ x, x ∈ xs → x.length ≤ k) → (joinT xs).length ≤ xs.length * (k + 1)
  | [], _ => by simp [joinT]
  | [x], h => by have := h x (by simp); simp [joinT]; omega
  | x :: y :: r, h => by
    have h1 := joinT_len (y :: r) fun z hz => h z (by simp at hz ⊢; exact .inr hz)
    have h2 := h x (by simp)
    simp only [joinT, List.length_append, List.length_cons] at h1 ⊢
    rw [Nat.add_mul]; omega
def rowT (zs : List Int) : List UInt8 := 91 :: joinT (zs.map iText) ++ [93]
theorem joinI_len {k : Nat} {zs : List Int} (hz : RB4 k zs) (hk : k ≤ 1000000) (hbig : zs.length ≤ 1000000) : (joinT (zs.map iText)).length ≤ 1000000 * 10000003 := by
  refine Nat.le_trans (joinT_len (k := 10 * k + 2) _ fun x hx => ?_) ?_
  · obtain ⟨z, hm, rfl⟩ := List.mem_map.1 hx
    exact iText_len (hz.1 z hm)
  · rw [List.length_map]; exact Nat.mul_le_mul hbig (by omega)
theorem cell_Sx1 {l : List UInt8} : [Sx l].all AV.cell = true := rfl
theorem rowt_fn {zs : List Int} {t : Bool} {k : Nat} (hz : RB4 k zs) (hk : k ≤ 1000000) (hbig : zs.length ≤ 1000000) : PFn Tryd.prog 86 [RowA zs t] (Sx (rowT zs)) := by
  intro H Q hq
  have nz : zs.length < 9223372036854775808 := by omega
  have hjl := joinI_len hz hk hbig
  refine enter86 (by simp) ?_
  simp (disch := first | assumption | (apply Ap.symm; assumption) | omega | decide | (simp only [Xd] <;> omega)) only [ac86, len_rw, ↓Xa, Xb, Xc, ↓reduceIte, Nat.reduceLT, Nat.reduceEqDiff, Nat.reduceBEq, Nat.reduceLeDiff, Nat.reduceAdd, Nat.reduceMul]
  refine W_loop (fun s : Nat × AV × AHeap => ⟨[], [(3, s.2.1), (6, RowA zs t), (7, .int .i64 (zs.length : Int)), (8, .int .i64 s.1)], s.2.2⟩) (fun s => s.1 ≤ zs.length ∧ growC H 9 1 s.1 ((zs.take s.1).map fun z => Sx (iText z)) s.2.1 s.2.2) (fun s => zs.length - s.1) (0, .seq 0 [] true, H) (Settle.now rfl) ⟨Nat.zero_le _, growC_nil⟩ ?_
  rintro ⟨i, y, M⟩ ⟨h3, hg⟩
  dsimp only at h3 hg ⊢
  by_cases hi : i < zs.length
  · simp (disch := first | assumption | (apply Ap.symm; assumption) | omega | decide | (simp only [Xd] <;> omega)) only [hi, idx_IC, load_IC, ↓Xa, Xb, Xc, ↓reduceIte, Nat.reduceLT, Nat.reduceEqDiff, Nat.reduceBEq, Nat.reduceLeDiff, Nat.reduceAdd, Nat.reduceMul]
    refine alloc_i fun q hq1 => ?_
    simp (disch := first | assumption | (apply Ap.symm; assumption) | omega | decide | (simp only [Xd] <;> omega)) only [cells_IntA, fold_IntA, ↓Xa, Xb, Xc, ↓reduceIte, Nat.reduceLT, Nat.reduceEqDiff, Nat.reduceBEq, Nat.reduceLeDiff, Nat.reduceAdd, Nat.reduceMul]
    have hg1 := growC_upd (r := .row 28 0 [IntB (zs[i]), IntD (zs[i])]) hg hq1
    refine (itext_fn (hz.at hi) hk).call ?_
    simp (disch := first | assumption | (apply Ap.symm; assumption) | omega | decide | (simp only [Xd] <;> omega)) only [repF0, cells_Sx, str_Sx, ↓Xa, Xb, Xc, ↓reduceIte, Nat.reduceLT, Nat.reduceEqDiff, Nat.reduceBEq, Nat.reduceLeDiff, Nat.reduceAdd, Nat.reduceMul]
    refine app_C (m := 1) hg1 rfl cell_Sx1 (by omega) (by omega) (by omega) fun y' M2 hg3 => ?_
    have e : (zs.take (i + 1)).map (fun z => Sx (iText z)) = (zs.take i).map (fun z => Sx (iText z)) ++ [Sx (iText (zs[i]))] := by
      rw [List.take_add_one, List.getElem?_eq_getElem hi, Option.toList_some, List.map_append]; rfl
    rw [← e] at hg3
    obtain ⟨M3, hg4, hl4⟩ := growC_le2 hg3 ((Le.refl H).upd (growC_none hg hq1))
    simp (disch := first | assumption | (apply Ap.symm; assumption) | omega | decide | (simp only [Xd] <;> omega)) only [↓Xa, Xb, Xc, ↓reduceIte, Nat.reduceLT, Nat.reduceEqDiff, Nat.reduceBEq, Nat.reduceLeDiff, Nat.reduceAdd, Nat.reduceMul]
    exact Settle.dropTo hl4 (Settle.now ⟨(i + 1, y', M3), by dsimp only; omega, ⟨by dsimp only; omega, hg4⟩, rfl⟩)
  · obtain rfl : i = zs.length := by omega
    rw [List.take_of_length_le (by omega)] at hg
    simp (disch := first | assumption | (apply Ap.symm; assumption) | omega | decide | (simp only [Xd] <;> omega)) only [hi, ↓Xa, Xb, Xc, ↓reduceIte, Nat.reduceLT, Nat.reduceEqDiff, Nat.reduceBEq, Nat.reduceLeDiff, Nat.reduceAdd, Nat.reduceMul]
    refine Settle.grownC 3 rfl hg (Settle.now ?_)
    have hj := join_fn (zs.map iText) [32] false (by simpa using hbig) (by rw [joinT_eq]; omega)
    rw [joinT_eq, List.length_map, List.map_map] at hj
    have s1 : AV.str ⟨#[91]⟩ = Sx [91] := rfl
    have s2 : AV.str ⟨#[93]⟩ = Sx [93] := rfl
    have s3 : AV.str ⟨#[32]⟩ = Sx [32] := rfl
    have e1 : ∀ K, binW .add (Sx [91]) (Sx (joinT (zs.map iText))) K = K (Sx (91 :: joinT (zs.map iText))) := fun K => add_Sx (by simp only [List.length_cons, List.length_append, List.length_nil]; omega)
    have e2 : ∀ K, binW .add (Sx (91 :: joinT (zs.map iText))) (Sx [93]) K = K (Sx (rowT zs)) := fun K => by rw [add_Sx (by simp only [List.length_cons, List.length_append, List.length_nil]; omega)]; rfl
    simp (disch := first | assumption | (apply Ap.symm; assumption) | omega | decide | (simp only [Xd] <;> omega)) only [s3, ↓Xa, Xb, Xc, ↓reduceIte, Nat.reduceLT, Nat.reduceEqDiff, Nat.reduceBEq, Nat.reduceLeDiff, Nat.reduceAdd, Nat.reduceMul]
    refine hj.call ?_
    simp (disch := first | assumption | (apply Ap.symm; assumption) | omega | decide | (simp only [Xd] <;> omega)) only [s1, s2, e1, e2, rs86, ↓Xa, Xb, Xc, ↓reduceIte, Nat.reduceLT, Nat.reduceEqDiff, Nat.reduceBEq, Nat.reduceLeDiff, Nat.reduceAdd, Nat.reduceMul]
    exact SetR.now hq
end Go.Proofs.YtanchgkiomfhhaaDoor.Fw

/- The row laws' own helpers: an answer that is fixed, rows that are too long, a row in both, one number in both, rows in both. -/
namespace Go.Proofs.YtanchgkiomfhhaaDoor.Fw
set_option linter.unusedSimpArgs false
set_option linter.unusedVariables false
open Go Go.Proofs.YtanchgkiomfhhaaDoor.Ma
set_option maxRecDepth 20000

theorem repL2 {a : AV} : repA [a] 2 = [a, a] := by simp [repA, List.range, List.range.loop]
theorem live4_t : rowT [4, -2] = [91, 52, 32, 45, 50, 93] := by simp [rowT, joinT, iText, decT, dec, digs, chr]
theorem live4_fn : PFn Tryd.prog 32 [] (.bool true) := by
  intro H Q hq
  obtain ⟨L1, e1, of1⟩ : ∃ L1, L1 = RowA [1, 2] false ∧ PFn Tryd.prog 54 [.seq 2 [.int .i64 ((1 : Nat) : Int), .int .i64 ((2 : Nat) : Int)] true] L1 := ⟨_, rfl, rowof_fn (l := [1, 2]) (by simp) (by simp)⟩
  obtain ⟨L2, e2, of2⟩ : ∃ L2, L2 = RowA [3, -4] false ∧ PFn Tryd.prog 54 [.seq 2 [.int .i64 ((3 : Nat) : Int), .int .i64 (-4)] true] L2 := ⟨_, rfl, rowof_fn (l := [3, -4]) (by simp) (by simp)⟩
  have b1 : RB4 2 [1, 2] := ⟨fun z h => Bd.i64 (by simp at h; omega), by simp⟩
  have b2 : RB4 2 [3, -4] := ⟨fun z h => Bd.i64 (by simp at h; omega), by simp⟩
  have b3 : RB4 2 [4, -2] := ⟨fun z h => Bd.i64 (by simp at h; omega), by simp⟩
  obtain ⟨L3, e3, add⟩ : ∃ L3, L3 = RowA [4, -2] false ∧ PFn Tryd.prog 37 [L1, L2] (.tup [L3, .int .i64 ((0 : Nat) : Int)]) := ⟨_, rfl, by
    rw [e1, e2]
    exact PFn.frozen1 fun H Q hq => rowadd_run b1 b2 (by omega) rfl (by simp) hq⟩
  have tx := rowt_fn (t := false) b3 (by omega) (by simp)
  rw [← e3, live4_t] at tx
  have s1 : AV.str ⟨#[91, 52, 32, 45, 50, 93]⟩ = Sx [91, 52, 32, 45, 50, 93] := rfl
  refine enter32 (by simp) ?_
  simp (disch := first | assumption | (apply Ap.symm; assumption) | omega | decide | (simp only [Xd] <;> omega)) only [ac32, repL2, ↓Xa, Xb, Xc, ↓reduceIte, Nat.reduceLT, Nat.reduceEqDiff, Nat.reduceBEq, Nat.reduceLeDiff, Nat.reduceAdd, Nat.reduceMul]
  refine of1.call ?_
  simp (disch := first | assumption | (apply Ap.symm; assumption) | omega | decide | (simp only [Xd] <;> omega)) only [repL2, ↓Xa, Xb, Xc, ↓reduceIte, Nat.reduceLT, Nat.reduceEqDiff, Nat.reduceBEq, Nat.reduceLeDiff, Nat.reduceAdd, Nat.reduceMul]
  refine of2.call ?_
  simp (disch := first | assumption | (apply Ap.symm; assumption) | omega | decide | (simp only [Xd] <;> omega)) only [↓Xa, Xb, Xc, ↓reduceIte, Nat.reduceLT, Nat.reduceEqDiff, Nat.reduceBEq, Nat.reduceLeDiff, Nat.reduceAdd, Nat.reduceMul]
  refine add.call ?_
  simp (disch := first | assumption | (apply Ap.symm; assumption) | omega | decide | (simp only [Xd] <;> omega)) only [eql_self, ↓Xa, Xb, Xc, ↓reduceIte, Nat.reduceLT, Nat.reduceEqDiff, Nat.reduceBEq, Nat.reduceLeDiff, Nat.reduceAdd, Nat.reduceMul]
  refine tx.call ?_
  simp (disch := first | assumption | (apply Ap.symm; assumption) | omega | decide | (simp only [Xd] <;> omega)) only [s1, eql_Sx, rs32, ↓Xa, Xb, Xc, ↓reduceIte, Nat.reduceLT, Nat.reduceEqDiff, Nat.reduceBEq, Nat.reduceLeDiff, Nat.reduceAdd, Nat.reduceMul]
  exact SetR.now hq

/-! ### too long -/
def sumN : List Nat → Nat
  | [] => 0
  | a :: l => a + sumN l
section
variable {K : AV → Prop} {H : AHeap} {k : IntKind} {t : Bool} {l : List NumV} {i : Nat}
end
def numT (l : List NumV) : Nat := l.length + sumN (l.map fun q => q.2.1.length)
abbrev rowN (x : List NumV × Bool) : AV := .seq x.1.length (NumsC x.1) x.2
end Go.Proofs.YtanchgkiomfhhaaDoor.Fw

/- The row laws' own helpers: a row in both, one number in both, rows in both; the law that holds rows against each other. -/
namespace Go.Proofs.YtanchgkiomfhhaaDoor.Fw
set_option linter.unusedSimpArgs false
set_option linter.unusedVariables false
open Go Go.Proofs.YtanchgkiomfhhaaDoor.Ma
set_option maxRecDepth 20000

def numZ (q : NumV) : Int := sg q.1 (val 4294967296 q.2.1)
def rowZ (l : List NumV) : List Int := l.map numZ
end Go.Proofs.YtanchgkiomfhhaaDoor.Fw

/- The law that two rows held against each other obey: true. -/
namespace Go.Proofs.YtanchgkiomfhhaaDoor.Fw
set_option linter.unusedSimpArgs false
set_option linter.unusedVariables false
open Go Go.Proofs.YtanchgkiomfhhaaDoor.Ma
set_option maxRecDepth 20000

end Go.Proofs.YtanchgkiomfhhaaDoor.Fw

/- Rows of whole numbers: divided by a number, content, primitive row. -/
namespace Go.Proofs.YtanchgkiomfhhaaDoor.Fw
set_option linter.unusedSimpArgs false
set_option linter.unusedVariables false
open Go Go.Proofs.YtanchgkiomfhhaaDoor.Ma
set_option maxRecDepth 20000

theorem PFn.loose1 {P : Program} {f : FuncId} {x : AV} {rest : List AV} {r : AV} (h : PFn P f (loose x :: rest) r) : PFn P f (x :: rest) r := fun H Q hq =>
  ⟨(h H Q hq).1, fun c vs hH hok hs he => (h H Q hq).2 c vs hH hok (by simpa using hs) fun i hi hi' => by
    match i, hi with
    | 0, _ => exact enc_loose _ _ (he 0 (by simp) hi')
    | i + 1, hi => exact he (i + 1) (by simpa using hi) hi'⟩
end Go.Proofs.YtanchgkiomfhhaaDoor.Fw

/- Rows of whole numbers: the primitive row; the reference's rows put together. -/
namespace Go.Proofs.YtanchgkiomfhhaaDoor.Fw
set_option linter.unusedSimpArgs false
set_option linter.unusedVariables false
open Go Go.Proofs.YtanchgkiomfhhaaDoor.Ma
set_option maxRecDepth 20000

end Go.Proofs.YtanchgkiomfhhaaDoor.Fw

/- The law of rows over numbers (a module): true. -/
namespace Go.Proofs.YtanchgkiomfhhaaDoor.Fw
set_option linter.unusedSimpArgs false
set_option linter.unusedVariables false
open Go Go.Proofs.YtanchgkiomfhhaaDoor.Ma
set_option maxRecDepth 20000

theorem RB4.map {k k' : Nat} {zs : List Int} {f : Int → Int} (h : RB4 k zs) (hf : ∀ z, Bd k z → Bd k' (f z)) : RB4 k' (zs.map f) :=
  ⟨fun z hz => by obtain ⟨y, hy, rfl⟩ := List.mem_map.1 hz; exact hf y (h.1 y hy), by rw [List.length_map]; exact h.2⟩
theorem RB4.zip {k k1 k2 : Nat} {zs ws : List Int} {f : Int → Int → Int} (h : RB4 k1 zs) (h2 : RB4 k2 ws) (hl : zs.length = ws.length) (hf : ∀ z w, Bd k1 z → Bd k2 w → Bd k (f z w)) : RB4 k (zipI f zs ws) :=
  ⟨fun z hz => by
    obtain ⟨i, hi, rfl⟩ := List.getElem_of_mem hz
    have hi2 : i < zs.length := by rw [zip_len hl] at hi; exact hi
    rw [zip_at hl hi2]
    exact hf _ _ (h.at hi2) (h2.at (by omega)), by rw [zip_len hl]; exact h.2⟩
theorem RB4.mono {k k' : Nat} {zs : List Int} (h : RB4 k zs) (hk : k ≤ k') : RB4 k' zs := ⟨fun z hz => (h.1 z hz).mono hk, h.2⟩
theorem Bd.sums {k : Nat} : ∀ {l : List Int} {s : Int} {j : Nat}, Bd (k + j) s → (∀ z, z ∈ l → Bd k z) → Bd (k + (j + l.length)) (l.foldl (· + ·) s)
  | [], s, j, h, _ => h
  | z :: l, s, j, h, h2 => by
    have := Bd.sums (l := l) (s := s + z) (j := j + 1) ((h.add ((h2 z (by simp)).mono (by omega))).mono (by omega)) fun y hy => h2 y (by simp [hy])
    exact this.mono (by simp only [List.length_cons]; omega)
theorem Bd.dotF {k k1 k2 : Nat} {zs ws : List Int} (h : RB4 k1 zs) (h2 : RB4 k2 ws) (hl : zs.length = ws.length) (hk : k1 + k2 + zs.length ≤ k) : Bd k (dotF 0 zs ws) := by
  have hz := RB4.zip (f := (· * ·)) h h2 hl (fun z w a b => a.mul b)
  have := Bd.sums (k := k1 + k2) (l := zipI (· * ·) zs ws) (s := 0) (j := 0) (Bd.zero _) hz.1
  rw [zip_len hl] at this
  exact this.mono (by omega)
section
variable {zs ws : List Int} {t t' : Bool} {k : Nat}
end
end Go.Proofs.YtanchgkiomfhhaaDoor.Fw

/- Rows of whole numbers: an answer is spoilt; the reference's rows put together. -/
namespace Go.Proofs.YtanchgkiomfhhaaDoor.Fw
set_option linter.unusedSimpArgs false
set_option linter.unusedVariables false
open Go Go.Proofs.YtanchgkiomfhhaaDoor.Ma
set_option maxRecDepth 20000

theorem stP_row {H : AHeap} {n b L off ty es : Nat} {cells l : List AV} {K : AV → AHeap → Prop} (hL : cells.length = L) (hl : l.length = n) (ho : off + n ≤ L) : stP H n b L off K (some l) (some (.row ty es cells)) ↔ K .bot (H.upd b (some (.row ty es (splice cells off l)))) := by
  simp [stP, hL, hl, ho]
def RowO (M : AHeap) (y : AV) (zs : List Int) : Prop := (zs = [] ∧ y = .seq 0 [] true) ∨ (0 < zs.length ∧ ∃ b, y = .own b (zs.length * 2) 0 zs.length false ∧ M b = some (.row 28 2 (IC zs)))
theorem RowO.of {H M : AHeap} {n : Nat} {y : AV} {zs : List Int} (h : growC H 28 2 n (IC zs) y M) (hn : zs.length = n) : RowO M y zs := by
  subst hn
  rcases h with ⟨h1, _, rfl, rfl⟩ | ⟨hn, _, b, hb, rfl, rfl⟩
  · exact .inl ⟨List.length_eq_zero_iff.1 h1, rfl⟩
  · exact .inr ⟨hn, b, rfl, upd_same _ _ _⟩
theorem RowO.le {M M' : AHeap} {y : AV} {zs : List Int} (h : RowO M y zs) (hl : Le M M') : RowO M' y zs := by
  rcases h with h | ⟨hn, b, e, hb⟩
  · exact .inl h
  · exact .inr ⟨hn, b, e, hl _ _ hb⟩
theorem RowO.len {M : AHeap} {y : AV} {zs : List Int} (h : RowO M y zs) (hn : zs.length < 9223372036854775808) {K : AV → Prop} : lenW false y K = K (.int .i64 ((zs.length : Nat) : Int)) := by
  rcases h with ⟨rfl, rfl⟩ | ⟨h0, b, rfl, hb⟩ <;> simp [lenW, hn]
end Go.Proofs.YtanchgkiomfhhaaDoor.Fw

/- The reference's rows put together. -/
namespace Go.Proofs.YtanchgkiomfhhaaDoor.Fw
set_option linter.unusedSimpArgs false
set_option linter.unusedVariables false
open Go Go.Proofs.YtanchgkiomfhhaaDoor.Ma
set_option maxRecDepth 20000

section
variable {zs ws : List Int} {t t' : Bool} {k : Nat}
end
end Go.Proofs.YtanchgkiomfhhaaDoor.Fw

/- Rows of noughts, with a one. -/
namespace Go.Proofs.YtanchgkiomfhhaaDoor.Fw
set_option linter.unusedSimpArgs false
set_option linter.unusedVariables false
open Go Go.Proofs.YtanchgkiomfhhaaDoor.Ma
set_option maxRecDepth 20000

theorem IC_app (a b : List Int) : IC (a ++ b) = IC a ++ IC b := by simp [IC, List.flatMap_append]
theorem repI (n : Nat) : repA [.bool false, .seq 0 [] true] (n * 2) = IC (List.replicate n 0) := by
  induction n with
  | zero => simp [repA, IC]
  | succ n ih =>
    have e1 : n * 2 % 2 = 0 := by omega
    have e2 : (n * 2 + 1) % 2 = 1 := by omega
    rw [List.replicate_succ', IC_snoc, ← ih, show (n + 1) * 2 = n * 2 + 1 + 1 by omega]
    simp only [repA, List.range_succ, List.map_append, List.map_cons, List.map_nil, List.length_cons, List.length_nil, e1, e2]
    simp [IntB, IntD, digs_zero, LS, U, e1, e2]
theorem mks_I {H : AHeap} {ty n : Nat} {K : AV → AHeap → Prop} (h : n ≤ 100000) : mksW H ty 2 32 [.bool false, .seq 0 [] true] (.int .i64 (n : Int)) (.int .i64 (n : Int)) K ↔ ∀ b, H b = none → K (.own b (n * 2) 0 n true) (H.upd b (some (.row ty 2 (IC (List.replicate n 0))))) := by
  have h1 : (32 : Int) * n ≤ 281474976710656 := by omega
  have h2 : (n : Int) < 9223372036854775808 := by omega
  simp [mksW, h1, h2, repI]
theorem IC_tk {zs : List Int} {k : Nat} (h : k ≤ zs.length) : (IC zs).take (k * 2) = IC (zs.take k) := by
  conv => lhs; rw [← List.take_append_drop k zs, IC_app]
  exact List.take_left' (by rw [IC_len, List.length_take]; omega)
theorem IC_dp {zs : List Int} {k : Nat} (h : k ≤ zs.length) : (IC zs).drop (k * 2) = IC (zs.drop k) := by
  conv => lhs; rw [← List.take_append_drop k zs, IC_app]
  exact List.drop_left' (by rw [IC_len, List.length_take]; omega)
theorem IC_set {zs : List Int} {k : Nat} {v : Int} (h : k < zs.length) : (IC zs).take (k * 2) ++ [IntB v, IntD v] ++ (IC zs).drop (k * 2 + 2) = IC (zs.set k v) := by
  rw [IC_tk (by omega), show k * 2 + 2 = (k + 1) * 2 by omega, IC_dp (by omega), List.set_eq_take_append_cons_drop, if_pos h, IC_app]
  simp [IC]
theorem zero4_bad {n : Int} (h : n < 0 ∨ 4096 < n) : PFn Tryd.prog 52 [.int .i64 n] (.tup [.seq 0 [] true, .int .i64 ((2 : Nat) : Int)]) := by
  intro H Q hq
  refine enter52 (by simp) ?_
  by_cases h0 : n < 0
  · have e : decide (n < ((0 : Nat) : Int)) = true := decide_eq_true h0
    simp (disch := first | assumption | (apply Ap.symm; assumption) | omega | decide | (simp only [Xd] <;> omega)) only [ac52, lss_int, e, rs52, ↓Xa, Xb, Xc, ↓reduceIte, Nat.reduceLT, Nat.reduceEqDiff, Nat.reduceBEq, Nat.reduceLeDiff, Nat.reduceAdd, Nat.reduceMul]
    exact SetR.now hq
  · have e : decide (n < ((0 : Nat) : Int)) = false := decide_eq_false h0
    have e2 : decide (((4096 : Nat) : Int) < n) = true := decide_eq_true (by omega)
    simp (disch := first | assumption | (apply Ap.symm; assumption) | omega | decide | (simp only [Xd] <;> omega)) only [ac52, lss_int, gtr_int, e, e2, rs52, ↓Xa, Xb, Xc, ↓reduceIte, Nat.reduceLT, Nat.reduceEqDiff, Nat.reduceBEq, Nat.reduceLeDiff, Nat.reduceAdd, Nat.reduceMul]
    exact SetR.now hq
theorem zero4_run {n : Nat} (h : n ≤ 4096) {H : AHeap} {Q : AV → AHeap → Prop} (hq : ∀ b, H b = none → Q (.tup [.own b (n * 2) 0 n true, .int .i64 ((0 : Nat) : Int)]) (H.upd b (some (.row 28 2 (IC (List.replicate n 0)))))) : Run Tryd.prog 52 [.int .i64 (n : Int)] H Q := by
  refine enter52 (by simp) ?_
  have e : decide ((n : Int) < ((0 : Nat) : Int)) = false := decide_eq_false (by omega)
  have e2 : decide (((4096 : Nat) : Int) < (n : Int)) = false := decide_eq_false (by omega)
  simp (disch := first | assumption | (apply Ap.symm; assumption) | omega | decide | (simp only [Xd] <;> omega)) only [ac52, lss_int, gtr_int, e, e2, mks_I, ↓Xa, Xb, Xc, ↓reduceIte, Nat.reduceLT, Nat.reduceEqDiff, Nat.reduceBEq, Nat.reduceLeDiff, Nat.reduceAdd, Nat.reduceMul]
  intro b hb
  simp (disch := first | assumption | (apply Ap.symm; assumption) | omega | decide | (simp only [Xd] <;> omega)) only [rs52, ↓Xa, Xb, Xc, ↓reduceIte, Nat.reduceLT, Nat.reduceEqDiff, Nat.reduceBEq, Nat.reduceLeDiff, Nat.reduceAdd, Nat.reduceMul]
  exact SetR.now (hq b hb)
theorem unit4_bad {n k : Int} (h : n < 0 ∨ 4096 < n) : PFn Tryd.prog 53 [.int .i64 n, .int .i64 k] (.tup [.seq 0 [] true, .int .i64 ((2 : Nat) : Int)]) := by
  intro H Q hq
  have hd : decide (((2 : Nat) : Int) = ((0 : Nat) : Int)) = false := by decide
  refine enter53 (by simp) ?_
  simp (disch := first | assumption | (apply Ap.symm; assumption) | omega | decide | (simp only [Xd] <;> omega)) only [ac53, ↓Xa, Xb, Xc, ↓reduceIte, Nat.reduceLT, Nat.reduceEqDiff, Nat.reduceBEq, Nat.reduceLeDiff, Nat.reduceAdd, Nat.reduceMul]
  refine (zero4_bad h).call ?_
  simp (disch := first | assumption | (apply Ap.symm; assumption) | omega | decide | (simp only [Xd] <;> omega)) only [neq_int, hd, rs53, ↓Xa, Xb, Xc, ↓reduceIte, Nat.reduceLT, Nat.reduceEqDiff, Nat.reduceBEq, Nat.reduceLeDiff, Nat.reduceAdd, Nat.reduceMul]
  exact SetR.now hq
theorem unit4_out {n : Nat} {k : Int} (h : n ≤ 4096) (hk : k < 0 ∨ (n : Int) ≤ k) : PFn Tryd.prog 53 [.int .i64 (n : Int), .int .i64 k] (.tup [.seq 0 [] true, .int .i64 ((5 : Nat) : Int)]) := by
  intro H Q hq
  have hd : decide (((0 : Nat) : Int) = ((0 : Nat) : Int)) = true := by decide
  refine enter53 (by simp) ?_
  simp (disch := first | assumption | (apply Ap.symm; assumption) | omega | decide | (simp only [Xd] <;> omega)) only [ac53, ↓Xa, Xb, Xc, ↓reduceIte, Nat.reduceLT, Nat.reduceEqDiff, Nat.reduceBEq, Nat.reduceLeDiff, Nat.reduceAdd, Nat.reduceMul]
  refine run_call (zero4_run h fun b hb => ?_)
  by_cases h0 : k < 0
  · have e : decide (k < ((0 : Nat) : Int)) = true := decide_eq_true h0
    simp (disch := first | assumption | (apply Ap.symm; assumption) | omega | decide | (simp only [Xd] <;> omega)) only [neq_int, hd, lss_int, e, rs53, ↓Xa, Xb, Xc, ↓reduceIte, Nat.reduceLT, Nat.reduceEqDiff, Nat.reduceBEq, Nat.reduceLeDiff, Nat.reduceAdd, Nat.reduceMul]
    exact SetR.dropTo ((Le.refl H).updB hb) (SetR.now hq)
  · have e : decide (k < ((0 : Nat) : Int)) = false := decide_eq_false h0
    have e2 : decide ((n : Int) ≤ k) = true := decide_eq_true (by omega)
    simp (disch := first | assumption | (apply Ap.symm; assumption) | omega | decide | (simp only [Xd] <;> omega)) only [neq_int, hd, lss_int, geq_int, e, e2, rs53, ↓Xa, Xb, Xc, ↓reduceIte, Nat.reduceLT, Nat.reduceEqDiff, Nat.reduceBEq, Nat.reduceLeDiff, Nat.reduceAdd, Nat.reduceMul]
    exact SetR.dropTo ((Le.refl H).updB hb) (SetR.now hq)
theorem idx_own2 {G : AHeap} {b m i ty : Nat} {t : Bool} {cells : List AV} (hG : G b = some (.row ty 2 cells)) (hl : cells.length = m * 2) (hi : i < m) {k : IntKind} {K : AV → Prop} : (liveS G (.own b (m * 2) 0 m t) ∧ idxAW 2 (.own b (m * 2) 0 m t) (.int k (i : Int)) K) ↔ K (.ptr b (m * 2) (i * 2)) := by simp [liveS, idxAW, hG, hl, hi]
theorem unit4_run {n k : Nat} (h : n ≤ 4096) (hk : k < n) {H : AHeap} {Q : AV → AHeap → Prop} (hq : ∀ b, H b = none → Q (.tup [.own b (n * 2) 0 n true, .int .i64 ((0 : Nat) : Int)]) (H.upd b (some (.row 28 2 (IC ((List.replicate n 0).set k 1)))))) : Run Tryd.prog 53 [.int .i64 (n : Int), .int .i64 (k : Int)] H Q := by
  have hd : decide (((0 : Nat) : Int) = ((0 : Nat) : Int)) = true := by decide
  refine enter53 (by simp) ?_
  simp (disch := first | assumption | (apply Ap.symm; assumption) | omega | decide | (simp only [Xd] <;> omega)) only [ac53, ↓Xa, Xb, Xc, ↓reduceIte, Nat.reduceLT, Nat.reduceEqDiff, Nat.reduceBEq, Nat.reduceLeDiff, Nat.reduceAdd, Nat.reduceMul]
  refine run_call (zero4_run h fun b hb => ?_)
  have e : decide ((k : Int) < ((0 : Nat) : Int)) = false := decide_eq_false (by omega)
  have e2 : decide ((n : Int) ≤ (k : Int)) = false := decide_eq_false (by omega)
  simp (disch := first | assumption | (apply Ap.symm; assumption) | omega | decide | (simp only [Xd] <;> omega)) only [neq_int, hd, lss_int, geq_int, e, e2, ↓Xa, Xb, Xc, ↓reduceIte, Nat.reduceLT, Nat.reduceEqDiff, Nat.reduceBEq, Nat.reduceLeDiff, Nat.reduceAdd, Nat.reduceMul]
  refine (of_fn (n := ((1 : Nat) : Int)) (by omega)).call ?_
  have e3 : ∀ {kk : IntKind} {K : AV → Prop}, (liveS (H.upd b (some (.row 28 2 (IC (List.replicate n 0))))) (.own b (n * 2) 0 n true) ∧ idxAW 2 (.own b (n * 2) 0 n true) (.int kk (k : Int)) K) ↔ K (.ptr b (n * 2) (k * 2)) := fun {kk K} => idx_own2 (upd_same _ _ _) (by rw [IC_len]; simp) hk
  have hl2 : (IC (List.replicate n 0)).length = n * 2 := by rw [IC_len]; simp
  simp (disch := first | assumption | (apply Ap.symm; assumption) | omega | decide | (simp only [Xd] <;> omega)) only [e3, ↓Xa, Xb, Xc, ↓reduceIte, Nat.reduceLT, Nat.reduceEqDiff, Nat.reduceBEq, Nat.reduceLeDiff, Nat.reduceAdd, Nat.reduceMul]
  simp (disch := first | assumption | (apply Ap.symm; assumption) | omega | decide | (simp only [Xd] <;> omega)) only [cells_IntA, stP_row, hl2, List.length_cons, List.length_nil, rs53, ↓Xa, Xb, Xc, ↓reduceIte, Nat.reduceLT, Nat.reduceEqDiff, Nat.reduceBEq, Nat.reduceLeDiff, Nat.reduceAdd, Nat.reduceMul]
  have es : (IC (List.replicate n 0)).take (k * 2) ++ [IntB ((1 : Nat) : Int), IntD ((1 : Nat) : Int)] ++ (IC (List.replicate n 0)).drop (k * 2 + 2) = IC ((List.replicate n 0).set k 1) := IC_set (by simpa using hk)
  rw [es]
  exact SetR.now (hq b hb)
end Go.Proofs.YtanchgkiomfhhaaDoor.Fw

/- The law of rows of noughts, of small numbers: true. -/
namespace Go.Proofs.YtanchgkiomfhhaaDoor.Fw
set_option linter.unusedSimpArgs false
set_option linter.unusedVariables false
open Go Go.Proofs.YtanchgkiomfhhaaDoor.Ma
set_option maxRecDepth 20000

theorem own_lent {M : AHeap} {b m : Nat} {t : Bool} {zs : List Int} (hl : zs.length = m) (hH : M b = some (.row 28 2 (IC zs))) : Lent M (.own b (m * 2) 0 m t) (RowA zs t) := by subst hl; exact Lent.own hH (IC_len _)
theorem ldP_IC {ty m j : Nat} {zs : List Int} {K : AV → Prop} (hl : zs.length = m) (hj : j < zs.length) : ldP (some 2) (m * 2) (j * 2) K (some (.row ty 2 (IC zs))) ↔ K (IntA (zs[j])) := by
  have h1 : (IC zs).length = m * 2 := by rw [IC_len, hl]
  have h2 : j * 2 + 2 ≤ m * 2 := by omega
  simp [ldP, ldC, h1, h2, IC_drop zs j hj, IntA_eq]
theorem all0_rep (n : Nat) : ((List.replicate n (0 : Int)).all fun z => decide (z = 0)) = true := by simp
theorem all0_set {n k : Nat} (hk : k < n) : (((List.replicate n (0 : Int)).set k 1).all fun z => decide (z = 0)) = false :=
  List.all_eq_false.2 ⟨1, List.mem_iff_getElem.2 ⟨k, by simpa using hk, by simp⟩, by simp⟩
theorem rep_RB4 {n : Nat} (h : n ≤ 4096) : RB4 2 (List.replicate n 0) := ⟨fun z hz => by rw [List.eq_of_mem_replicate hz]; exact Bd.zero _, by simp; omega⟩
theorem rep_RB41 {n k : Nat} (h : n ≤ 4096) : RB4 2 ((List.replicate n 0).set k 1) := ⟨fun z hz => by
  rcases List.mem_or_eq_of_mem_set hz with hz | rfl
  · rw [List.eq_of_mem_replicate hz]; exact Bd.zero _
  · exact Bd.i64 (by omega), by simp; omega⟩
theorem rowMakes_law (n k : Int) (l : List Int) (ml : ∀ z, z ∈ l → -9223372036854775808 ≤ z ∧ z < 9223372036854775808) (ll : l.length < 9223372036854775808) (hn : -9223372036854775808 ≤ n ∧ n < 9223372036854775808) (hk : -9223372036854775808 ≤ k ∧ k < 9223372036854775808) :
    PFn Tryd.prog 5 [.int .i64 n, .int .i64 k, I64s l] (.bool true) := by
  intro H Q hq
  by_cases hl : 5000 < l.length
  · refine enter5 (by simp) ?_
    simp (disch := first | assumption | (apply Ap.symm; assumption) | omega | decide | (simp only [Xd] <;> omega)) only [ac5, I64s, ↓Xa, Xb, Xc, ↓reduceIte, Nat.reduceLT, Nat.reduceEqDiff, Nat.reduceBEq, Nat.reduceLeDiff, Nat.reduceAdd, Nat.reduceMul]
    refine live4_fn.call ?_
    simp (disch := first | assumption | (apply Ap.symm; assumption) | omega | decide | (simp only [Xd] <;> omega)) only [len_rw, hl, rs5, ↓Xa, Xb, Xc, ↓reduceIte, Nat.reduceLT, Nat.reduceEqDiff, Nat.reduceBEq, Nat.reduceLeDiff, Nat.reduceAdd, Nat.reduceMul]
    exact SetR.now hq
  have ofl : PFn Tryd.prog 54 [.seq l.length (l.map fun n => .int .i64 n) false] (RowA l false) := rowof_fn ml (by omega)
  have hlz : RB4 2 l := ⟨fun z hz => Bd.i64 (ml z hz), by omega⟩
  -- behind the two rows: the small numbers are gone over; then what is left
  have tail : ∀ (a b : AV) (ea eb : Int) (M : AHeap),
      W Tryd.prog (sndC (sndC (sndC (sndC (sndC (sndC (sndC (sndC (sndC ac5))))))))) (retN rs5 Q) ⟨[], [(0, .int .i64 n), (1, .int .i64 k), (7, a), (8, .int .i64 ea), (9, b), (10, .int .i64 eb)], M⟩ →
      W Tryd.prog (sndC (sndC (sndC (sndC (sndC ac5))))) (retN rs5 Q) ⟨[], [(0, .int .i64 n), (1, .int .i64 k), (2, .seq l.length (l.map fun n => .int .i64 n) false), (7, a), (8, .int .i64 ea), (9, b), (10, .int .i64 eb)], M⟩ := by
    intro a b ea eb M hrest
    have hne : decide (((l.length : Nat) : Int) = ((l.length : Nat) : Int)) = true := decide_eq_true rfl
    simp (disch := first | assumption | (apply Ap.symm; assumption) | omega | decide | (simp only [Xd] <;> omega)) only [sndC, ac5, ↓Xa, Xb, Xc, ↓reduceIte, Nat.reduceLT, Nat.reduceEqDiff, Nat.reduceBEq, Nat.reduceLeDiff, Nat.reduceAdd, Nat.reduceMul] at hrest
    simp (disch := first | assumption | (apply Ap.symm; assumption) | omega | decide | (simp only [Xd] <;> omega)) only [sndC, ac5, ↓Xa, Xb, Xc, ↓reduceIte, Nat.reduceLT, Nat.reduceEqDiff, Nat.reduceBEq, Nat.reduceLeDiff, Nat.reduceAdd, Nat.reduceMul]
    refine ofl.call ?_
    simp (disch := first | assumption | (apply Ap.symm; assumption) | omega | decide | (simp only [Xd] <;> omega)) only [len_rw, neq_int, hne, ↓Xa, Xb, Xc, ↓reduceIte, Nat.reduceLT, Nat.reduceEqDiff, Nat.reduceBEq, Nat.reduceLeDiff, Nat.reduceAdd, Nat.reduceMul]
    refine W_loop (fun s : Nat => ⟨[], [(0, .int .i64 n), (1, .int .i64 k), (2, .seq l.length (l.map fun n => .int .i64 n) false), (7, a), (8, .int .i64 ea), (9, b), (10, .int .i64 eb), (11, RowA l false), (12, .int .i64 s)], M⟩) (fun s => s ≤ l.length) (fun s => l.length - s) 0 (Settle.now rfl) (Nat.zero_le _) ?_
    rintro i h3
    by_cases hi : i < l.length
    · have hf : fits (l[i]) = true := decide_eq_true (ml _ (List.getElem_mem hi))
      have hv : smallV (l[i]) = l[i] := by unfold smallV; rw [if_pos hf]
      have he : decide (l[i] = l[i]) = true := decide_eq_true rfl
      simp (disch := first | assumption | (apply Ap.symm; assumption) | omega | decide | (simp only [Xd] <;> omega)) only [hi, len_rw, idx_IC, load_IC, ↓Xa, Xb, Xc, ↓reduceIte, Nat.reduceLT, Nat.reduceEqDiff, Nat.reduceBEq, Nat.reduceLeDiff, Nat.reduceAdd, Nat.reduceMul]
      refine (small_fn (hlz.at hi) (by omega)).call ?_
      rw [hv, hf]
      simp (disch := first | assumption | (apply Ap.symm; assumption) | omega | decide | (simp only [Xd] <;> omega)) only [hi, len_rw, idx_map, load_map, neq_int, he, ↓Xa, Xb, Xc, ↓reduceIte, Nat.reduceLT, Nat.reduceEqDiff, Nat.reduceBEq, Nat.reduceLeDiff, Nat.reduceAdd, Nat.reduceMul]
      exact Settle.now ⟨i + 1, by omega, by omega, rfl⟩
    · simp (disch := first | assumption | (apply Ap.symm; assumption) | omega | decide | (simp only [Xd] <;> omega)) only [hi, len_rw, ↓Xa, Xb, Xc, ↓reduceIte, Nat.reduceLT, Nat.reduceEqDiff, Nat.reduceBEq, Nat.reduceLeDiff, Nat.reduceAdd, Nat.reduceMul]
      refine Settle.now ?_
      simp (disch := first | assumption | (apply Ap.symm; assumption) | omega | decide | (simp only [Xd] <;> omega)) only [len_rw, neq_int, hne, ↓Xa, Xb, Xc, ↓reduceIte, Nat.reduceLT, Nat.reduceEqDiff, Nat.reduceBEq, Nat.reduceLeDiff, Nat.reduceAdd, Nat.reduceMul]
      exact hrest
  have hd0 : decide (((0 : Nat) : Int) = ((0 : Nat) : Int)) = true := rfl
  have hd2 : decide (((2 : Nat) : Int) = ((2 : Nat) : Int)) = true := rfl
  have hd5 : decide (((5 : Nat) : Int) = ((5 : Nat) : Int)) = true := rfl
  have n0 : (0 : Nat) < 9223372036854775808 := by omega
  by_cases hbad : n < 0 ∨ 4096 < n
  · have t := tail (.seq 0 [] true) (.seq 0 [] true) ((2 : Nat) : Int) ((2 : Nat) : Int) H ?_
    · simp (disch := first | assumption | (apply Ap.symm; assumption) | omega | decide | (simp only [Xd] <;> omega)) only [sndC, ac5, ↓Xa, Xb, Xc, ↓reduceIte, Nat.reduceLT, Nat.reduceEqDiff, Nat.reduceBEq, Nat.reduceLeDiff, Nat.reduceAdd, Nat.reduceMul] at t
      refine enter5 (by simp) ?_
      simp (disch := first | assumption | (apply Ap.symm; assumption) | omega | decide | (simp only [Xd] <;> omega)) only [ac5, I64s, ↓Xa, Xb, Xc, ↓reduceIte, Nat.reduceLT, Nat.reduceEqDiff, Nat.reduceBEq, Nat.reduceLeDiff, Nat.reduceAdd, Nat.reduceMul]
      refine live4_fn.call ?_
      simp (disch := first | assumption | (apply Ap.symm; assumption) | omega | decide | (simp only [Xd] <;> omega)) only [len_rw, hl, ↓Xa, Xb, Xc, ↓reduceIte, Nat.reduceLT, Nat.reduceEqDiff, Nat.reduceBEq, Nat.reduceLeDiff, Nat.reduceAdd, Nat.reduceMul]
      refine (zero4_bad hbad).call ?_
      simp (disch := first | assumption | (apply Ap.symm; assumption) | omega | decide | (simp only [Xd] <;> omega)) only [↓Xa, Xb, Xc, ↓reduceIte, Nat.reduceLT, Nat.reduceEqDiff, Nat.reduceBEq, Nat.reduceLeDiff, Nat.reduceAdd, Nat.reduceMul]
      refine (unit4_bad hbad).call ?_
      simp (disch := first | assumption | (apply Ap.symm; assumption) | omega | decide | (simp only [Xd] <;> omega)) only [↓Xa, Xb, Xc, ↓reduceIte, Nat.reduceLT, Nat.reduceEqDiff, Nat.reduceBEq, Nat.reduceLeDiff, Nat.reduceAdd, Nat.reduceMul]
      exact t
    · by_cases h0 : n < 0
      · have e : decide (n < ((0 : Nat) : Int)) = true := decide_eq_true h0
        simp (disch := first | assumption | (apply Ap.symm; assumption) | omega | decide | (simp only [Xd] <;> omega)) only [sndC, ac5, lss_int, e, len_rw, eql_int, hd0, hd2, ↓Xa, Xb, Xc, ↓reduceIte, Nat.reduceLT, Nat.reduceEqDiff, Nat.reduceBEq, Nat.reduceLeDiff, Nat.reduceAdd, Nat.reduceMul]
        refine live4_fn.call ?_
        simp (disch := first | assumption | (apply Ap.symm; assumption) | omega | decide | (simp only [Xd] <;> omega)) only [rs5, ↓Xa, Xb, Xc, ↓reduceIte, Nat.reduceLT, Nat.reduceEqDiff, Nat.reduceBEq, Nat.reduceLeDiff, Nat.reduceAdd, Nat.reduceMul]
        exact SetR.now hq
      · have e : decide (n < ((0 : Nat) : Int)) = false := decide_eq_false h0
        have e2 : decide (((4096 : Nat) : Int) < n) = true := decide_eq_true (by omega)
        simp (disch := first | assumption | (apply Ap.symm; assumption) | omega | decide | (simp only [Xd] <;> omega)) only [sndC, ac5, lss_int, gtr_int, e, e2, len_rw, eql_int, hd0, hd2, ↓Xa, Xb, Xc, ↓reduceIte, Nat.reduceLT, Nat.reduceEqDiff, Nat.reduceBEq, Nat.reduceLeDiff, Nat.reduceAdd, Nat.reduceMul]
        refine live4_fn.call ?_
        simp (disch := first | assumption | (apply Ap.symm; assumption) | omega | decide | (simp only [Xd] <;> omega)) only [rs5, ↓Xa, Xb, Xc, ↓reduceIte, Nat.reduceLT, Nat.reduceEqDiff, Nat.reduceBEq, Nat.reduceLeDiff, Nat.reduceAdd, Nat.reduceMul]
        exact SetR.now hq
  obtain ⟨m, rfl⟩ : ∃ m : Nat, n = (m : Int) := ⟨n.toNat, by omega⟩
  have hm : m ≤ 4096 := by omega
  have e : decide ((m : Int) < ((0 : Nat) : Int)) = false := decide_eq_false (by omega)
  have e2 : decide (((4096 : Nat) : Int) < (m : Int)) = false := decide_eq_false (by omega)
  have em : decide ((m : Int) = (m : Int)) = true := decide_eq_true rfl
  have hlo : ∀ {b : Nat} {K : AV → Prop}, lenW false (.own b (m * 2) 0 m true) K = K (.int .i64 ((m : Nat) : Int)) := fun {b K} => by
    have : (m : Nat) < 2 ^ 63 := by omega
    simp [lenW, this]
  by_cases hkb : k < 0 ∨ (m : Int) ≤ k
  · have t : ∀ b, H b = none → _ := fun b hb => tail (.own b (m * 2) 0 m true) (.seq 0 [] true) ((0 : Nat) : Int) ((5 : Nat) : Int) (H.upd b (some (.row 28 2 (IC (List.replicate m 0))))) ?_
    · refine enter5 (by simp) ?_
      simp (disch := first | assumption | (apply Ap.symm; assumption) | omega | decide | (simp only [Xd] <;> omega)) only [ac5, I64s, ↓Xa, Xb, Xc, ↓reduceIte, Nat.reduceLT, Nat.reduceEqDiff, Nat.reduceBEq, Nat.reduceLeDiff, Nat.reduceAdd, Nat.reduceMul]
      refine live4_fn.call ?_
      simp (disch := first | assumption | (apply Ap.symm; assumption) | omega | decide | (simp only [Xd] <;> omega)) only [len_rw, hl, ↓Xa, Xb, Xc, ↓reduceIte, Nat.reduceLT, Nat.reduceEqDiff, Nat.reduceBEq, Nat.reduceLeDiff, Nat.reduceAdd, Nat.reduceMul]
      refine run_call (zero4_run hm fun b hb => ?_)
      have t := t b hb
      simp (disch := first | assumption | (apply Ap.symm; assumption) | omega | decide | (simp only [Xd] <;> omega)) only [sndC, ac5, ↓Xa, Xb, Xc, ↓reduceIte, Nat.reduceLT, Nat.reduceEqDiff, Nat.reduceBEq, Nat.reduceLeDiff, Nat.reduceAdd, Nat.reduceMul] at t
      simp (disch := first | assumption | (apply Ap.symm; assumption) | omega | decide | (simp only [Xd] <;> omega)) only [↓Xa, Xb, Xc, ↓reduceIte, Nat.reduceLT, Nat.reduceEqDiff, Nat.reduceBEq, Nat.reduceLeDiff, Nat.reduceAdd, Nat.reduceMul]
      refine (unit4_out hm hkb).call ?_
      simp (disch := first | assumption | (apply Ap.symm; assumption) | omega | decide | (simp only [Xd] <;> omega)) only [↓Xa, Xb, Xc, ↓reduceIte, Nat.reduceLT, Nat.reduceEqDiff, Nat.reduceBEq, Nat.reduceLeDiff, Nat.reduceAdd, Nat.reduceMul]
      exact t
    · simp (disch := first | assumption | (apply Ap.symm; assumption) | omega | decide | (simp only [Xd] <;> omega)) only [sndC, ac5, lss_int, gtr_int, e, e2, hlo, neq_int, em, hd0, ↓Xa, Xb, Xc, ↓reduceIte, Nat.reduceLT, Nat.reduceEqDiff, Nat.reduceBEq, Nat.reduceLeDiff, Nat.reduceAdd, Nat.reduceMul]
      refine PFn.lcall (rowz_fn (rep_RB4 hm) (by omega)) rfl ⟨own_lent (t := true) (by simp) (upd_same _ _ _), trivial⟩ ?_
      rw [all0_rep]
      by_cases h0 : k < 0
      · have e3 : decide (k < ((0 : Nat) : Int)) = true := decide_eq_true h0
        simp (disch := first | assumption | (apply Ap.symm; assumption) | omega | decide | (simp only [Xd] <;> omega)) only [lss_int, e3, len_rw, eql_int, hd0, hd5, ↓Xa, Xb, Xc, ↓reduceIte, Nat.reduceLT, Nat.reduceEqDiff, Nat.reduceBEq, Nat.reduceLeDiff, Nat.reduceAdd, Nat.reduceMul]
        refine live4_fn.call ?_
        simp (disch := first | assumption | (apply Ap.symm; assumption) | omega | decide | (simp only [Xd] <;> omega)) only [rs5, ↓Xa, Xb, Xc, ↓reduceIte, Nat.reduceLT, Nat.reduceEqDiff, Nat.reduceBEq, Nat.reduceLeDiff, Nat.reduceAdd, Nat.reduceMul]
        exact SetR.dropTo ((Le.refl H).updB hb) (SetR.now hq)
      · have e3 : decide (k < ((0 : Nat) : Int)) = false := decide_eq_false h0
        have e4 : decide ((m : Int) ≤ k) = true := decide_eq_true (by omega)
        simp (disch := first | assumption | (apply Ap.symm; assumption) | omega | decide | (simp only [Xd] <;> omega)) only [lss_int, geq_int, e3, e4, len_rw, eql_int, hd0, hd5, ↓Xa, Xb, Xc, ↓reduceIte, Nat.reduceLT, Nat.reduceEqDiff, Nat.reduceBEq, Nat.reduceLeDiff, Nat.reduceAdd, Nat.reduceMul]
        refine live4_fn.call ?_
        simp (disch := first | assumption | (apply Ap.symm; assumption) | omega | decide | (simp only [Xd] <;> omega)) only [rs5, ↓Xa, Xb, Xc, ↓reduceIte, Nat.reduceLT, Nat.reduceEqDiff, Nat.reduceBEq, Nat.reduceLeDiff, Nat.reduceAdd, Nat.reduceMul]
        exact SetR.dropTo ((Le.refl H).updB hb) (SetR.now hq)
  obtain ⟨j, rfl⟩ : ∃ j : Nat, k = (j : Int) := ⟨k.toNat, by omega⟩
  have hj : j < m := by omega
  have e3 : decide ((j : Int) < ((0 : Nat) : Int)) = false := decide_eq_false (by omega)
  have e4 : decide ((m : Int) ≤ (j : Int)) = false := decide_eq_false (by omega)
  have t : ∀ b c, H b = none → (H.upd b (some (.row 28 2 (IC (List.replicate m 0))))) c = none → _ := fun b c hb hc => tail (.own b (m * 2) 0 m true) (.own c (m * 2) 0 m true) ((0 : Nat) : Int) ((0 : Nat) : Int) ((H.upd b (some (.row 28 2 (IC (List.replicate m 0))))).upd c (some (.row 28 2 (IC ((List.replicate m 0).set j 1))))) ?_
  · refine enter5 (by simp) ?_
    simp (disch := first | assumption | (apply Ap.symm; assumption) | omega | decide | (simp only [Xd] <;> omega)) only [ac5, I64s, ↓Xa, Xb, Xc, ↓reduceIte, Nat.reduceLT, Nat.reduceEqDiff, Nat.reduceBEq, Nat.reduceLeDiff, Nat.reduceAdd, Nat.reduceMul]
    refine live4_fn.call ?_
    simp (disch := first | assumption | (apply Ap.symm; assumption) | omega | decide | (simp only [Xd] <;> omega)) only [len_rw, hl, ↓Xa, Xb, Xc, ↓reduceIte, Nat.reduceLT, Nat.reduceEqDiff, Nat.reduceBEq, Nat.reduceLeDiff, Nat.reduceAdd, Nat.reduceMul]
    refine run_call (zero4_run hm fun b hb => ?_)
    have t := t b
    simp (disch := first | assumption | (apply Ap.symm; assumption) | omega | decide | (simp only [Xd] <;> omega)) only [↓Xa, Xb, Xc, ↓reduceIte, Nat.reduceLT, Nat.reduceEqDiff, Nat.reduceBEq, Nat.reduceLeDiff, Nat.reduceAdd, Nat.reduceMul]
    refine run_call (unit4_run hm hj fun c hc => ?_)
    have t := t c hb hc
    simp (disch := first | assumption | (apply Ap.symm; assumption) | omega | decide | (simp only [Xd] <;> omega)) only [sndC, ac5, ↓Xa, Xb, Xc, ↓reduceIte, Nat.reduceLT, Nat.reduceEqDiff, Nat.reduceBEq, Nat.reduceLeDiff, Nat.reduceAdd, Nat.reduceMul] at t
    simp (disch := first | assumption | (apply Ap.symm; assumption) | omega | decide | (simp only [Xd] <;> omega)) only [↓Xa, Xb, Xc, ↓reduceIte, Nat.reduceLT, Nat.reduceEqDiff, Nat.reduceBEq, Nat.reduceLeDiff, Nat.reduceAdd, Nat.reduceMul]
    exact t
  · obtain ⟨hcb, hc'⟩ := upd_none.1 hc
    have Mb : ((H.upd b (some (.row 28 2 (IC (List.replicate m 0))))).upd c (some (.row 28 2 (IC ((List.replicate m 0).set j 1))))) b = some (.row 28 2 (IC (List.replicate m 0))) := by rw [upd_other _ _ (Ne.symm hcb), upd_same]
    have hlc : ((List.replicate m (0 : Int)).set j 1).length = m := by simp
    simp (disch := first | assumption | (apply Ap.symm; assumption) | omega | decide | (simp only [Xd] <;> omega)) only [sndC, ac5, lss_int, gtr_int, e, e2, hlo, neq_int, em, hd0, ↓Xa, Xb, Xc, ↓reduceIte, Nat.reduceLT, Nat.reduceEqDiff, Nat.reduceBEq, Nat.reduceLeDiff, Nat.reduceAdd, Nat.reduceMul]
    refine PFn.lcall (rowz_fn (rep_RB4 hm) (by omega)) rfl ⟨own_lent (t := true) (by simp) Mb, trivial⟩ ?_
    rw [all0_rep]
    simp (disch := first | assumption | (apply Ap.symm; assumption) | omega | decide | (simp only [Xd] <;> omega)) only [lss_int, geq_int, e3, e4, hlo, neq_int, em, hd0, ↓Xa, Xb, Xc, ↓reduceIte, Nat.reduceLT, Nat.reduceEqDiff, Nat.reduceBEq, Nat.reduceLeDiff, Nat.reduceAdd, Nat.reduceMul]
    have hj1 : j < ((List.replicate m (0 : Int)).set j 1).length := by omega
    have hv : ((List.replicate m (0 : Int)).set j 1)[j] = ((1 : Nat) : Int) := by simp
    refine ⟨by rw [IC_len, hlc], (ldP_IC hlc hj1).2 ?_⟩
    rw [hv]
    simp (disch := first | assumption | (apply Ap.symm; assumption) | omega | decide | (simp only [Xd] <;> omega)) only [↓Xa, Xb, Xc, ↓reduceIte, Nat.reduceLT, Nat.reduceEqDiff, Nat.reduceBEq, Nat.reduceLeDiff, Nat.reduceAdd, Nat.reduceMul]
    refine PFn.dcall (of_fn (n := ((1 : Nat) : Int)) (by omega)) ?_
    simp (disch := first | assumption | (apply Ap.symm; assumption) | omega | decide | (simp only [Xd] <;> omega)) only [↓Xa, Xb, Xc, ↓reduceIte, Nat.reduceLT, Nat.reduceEqDiff, Nat.reduceBEq, Nat.reduceLeDiff, Nat.reduceAdd, Nat.reduceMul]
    refine (cmpi_fn (Bd.i64 (n := ((1 : Nat) : Int)) (by omega)) (by omega) (Bd.i64 (n := ((1 : Nat) : Int)) (by omega)) (by omega)).call ?_
    have e5 : decide (cmpI ((1 : Nat) : Int) ((1 : Nat) : Int) = ((0 : Nat) : Int)) = true := by decide
    simp (disch := first | assumption | (apply Ap.symm; assumption) | omega | decide | (simp only [Xd] <;> omega)) only [neq_int, e5, ↓Xa, Xb, Xc, ↓reduceIte, Nat.reduceLT, Nat.reduceEqDiff, Nat.reduceBEq, Nat.reduceLeDiff, Nat.reduceAdd, Nat.reduceMul]
    refine PFn.lcall (rowz_fn (t := true) (rep_RB41 (k := j) hm) (by omega)) rfl ⟨own_lent hlc (upd_same _ _ _), trivial⟩ ?_
    rw [all0_set hj]
    simp (disch := first | assumption | (apply Ap.symm; assumption) | omega | decide | (simp only [Xd] <;> omega)) only [↓Xa, Xb, Xc, ↓reduceIte, Nat.reduceLT, Nat.reduceEqDiff, Nat.reduceBEq, Nat.reduceLeDiff, Nat.reduceAdd, Nat.reduceMul]
    refine (of_fn (n := ((0 : Nat) : Int)) (by omega)).call ?_
    have e6 : ∀ {kk : IntKind} {K : AV → Prop}, (liveS ((H.upd b (some (.row 28 2 (IC (List.replicate m 0))))).upd c (some (.row 28 2 (IC ((List.replicate m 0).set j 1))))) (.own c (m * 2) 0 m true) ∧ idxAW 2 (.own c (m * 2) 0 m true) (.int kk (j : Int)) K) ↔ K (.ptr c (m * 2) (j * 2)) := fun {kk K} => idx_own2 (upd_same _ _ _) (by rw [IC_len, hlc]) hj
    have hl2 : (IC ((List.replicate m 0).set j 1)).length = m * 2 := by rw [IC_len, hlc]
    simp (disch := first | assumption | (apply Ap.symm; assumption) | omega | decide | (simp only [Xd] <;> omega)) only [e6, ↓Xa, Xb, Xc, ↓reduceIte, Nat.reduceLT, Nat.reduceEqDiff, Nat.reduceBEq, Nat.reduceLeDiff, Nat.reduceAdd, Nat.reduceMul]
    simp (disch := first | assumption | (apply Ap.symm; assumption) | omega | decide | (simp only [Xd] <;> omega)) only [cells_IntA, stP_row, hl2, List.length_cons, List.length_nil, ↓Xa, Xb, Xc, ↓reduceIte, Nat.reduceLT, Nat.reduceEqDiff, Nat.reduceBEq, Nat.reduceLeDiff, Nat.reduceAdd, Nat.reduceMul]
    have es : (IC ((List.replicate m 0).set j 1)).take (j * 2) ++ [IntB ((0 : Nat) : Int), IntD ((0 : Nat) : Int)] ++ (IC ((List.replicate m 0).set j 1)).drop (j * 2 + 2) = IC (List.replicate m 0) := by
      rw [IC_set hj1]
      congr 1
      rw [List.set_set]
      exact List.ext_getElem (by simp) fun i h1 h2 => by simp [List.getElem_set]
    rw [es]
    refine PFn.lcall (rowz_fn (t := true) (rep_RB4 hm) (by omega)) rfl ⟨own_lent (by simp) (upd_same _ _ _), trivial⟩ ?_
    rw [all0_rep]
    simp (disch := first | assumption | (apply Ap.symm; assumption) | omega | decide | (simp only [Xd] <;> omega)) only [rs5, ↓Xa, Xb, Xc, ↓reduceIte, Nat.reduceLT, Nat.reduceEqDiff, Nat.reduceBEq, Nat.reduceLeDiff, Nat.reduceAdd, Nat.reduceMul]
    refine SetR.dropTo ?_ (SetR.now hq)
    exact ((Le.refl H).updB hb).updB hc'
end Go.Proofs.YtanchgkiomfhhaaDoor.Fw
