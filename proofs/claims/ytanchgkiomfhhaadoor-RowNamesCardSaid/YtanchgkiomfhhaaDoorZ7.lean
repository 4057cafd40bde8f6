/- The texts Lay156 Kj Kh Oa Ob Oc Kk Od Kl Oe Of Pa, joined. -/
import Derived.Test.YtanchgkiomfhhaaDoorZ6
import Derived.Shelf.Strings.OnBuilder
import Derived.Test.YtanchgkiomfhhaaDoorProg
import Derived.Lib.SmallJoins
/- The numbers under which the library's functions stand in this program, and that their texts are those which the kit's contracts speak of: printed by wip/tools/lay.py. -/
namespace Go.Proofs.YtanchgkiomfhhaaDoor.Fw
open Go Go.Shelf Go.Proofs
def lay156_ren : Ren :=
  {
    f := fun x =>
      match x with
      | 156 => 168
      | 165 => 203
      | 166 => 204
      | 169 => 205
      | 240 => 215
      | 241 => 216
      | 276 => 227
      | 277 => 228
      | n => n,
    t := fun x =>
      match x with
      | 31 => 202
      | 9 => 9
      | 3 => 3
      | 4 => 4
      | 0 => 0
      | 20 => 20
      | 72 => 234
      | 76 => 238
      | 70 => 232
      | 37 => 103
      | 75 => 237
      | 127 => 251
      | 164 => 263
      | 5 => 5
      | 80 => 36
      | n => n,
    g := fun x =>
      have n := x;
      n }
theorem lay156 : Lays.n156 Tryd.prog lay156_ren :=
  { mixed := Eq.refl true, f156 := Eq.trans Tryd.func168 (congrArg some (Eq.refl (Body.n156 lay156_ren))),
    f165 := Eq.trans Tryd.func203 (congrArg some (Eq.refl (Body.n165 lay156_ren))),
    f166 := Eq.trans Tryd.func204 (congrArg some (Eq.refl (Body.n166 lay156_ren))),
    f169 := Eq.trans Tryd.func205 (congrArg some (Eq.refl (Body.n169 lay156_ren))),
    f240 := Eq.trans Tryd.func215 (congrArg some (Eq.refl (Body.n240 lay156_ren))),
    f241 := Eq.trans Tryd.func216 (congrArg some (Eq.refl (Body.n241 lay156_ren))),
    f276 := Eq.trans Tryd.func227 (congrArg some (Eq.refl (Body.n276 lay156_ren))),
    f277 := Eq.trans Tryd.func228 (congrArg some (Eq.refl (Body.n277 lay156_ren))), t0 := Tryd.underlying0,
    a0 := Tryd.isAgg0, z0 := Tryd.sizeOf0, v0 := Tryd.zeroValue0, t3 := Tryd.underlying3, a3 := Tryd.isAgg3,
    z3 := Tryd.sizeOf3, v3 := Tryd.zeroValue3, t4 := Tryd.underlying4, a4 := Tryd.isAgg4, z4 := Tryd.sizeOf4,
    v4 := Tryd.zeroValue4, t9 := Tryd.underlying9, a9 := Tryd.isAgg9, z9 := Tryd.sizeOf9, v9 := Tryd.zeroValue9,
    t20 := Tryd.underlying20, a20 := Tryd.isAgg20, z20 := Tryd.sizeOf20, v20 := Tryd.zeroValue20,
    t31 := Tryd.underlying202, a31 := Tryd.isAgg202, z31 := Tryd.sizeOf202, v31 := Tryd.zeroValue202,
    t37 := Tryd.underlying103, a37 := Tryd.isAgg103, z37 := Tryd.sizeOf103, v37 := Tryd.zeroValue103,
    t70 := Tryd.underlying232, a70 := Tryd.isAgg232, z70 := Tryd.sizeOf232, v70 := Tryd.zeroValue232,
    t72 := Tryd.underlying234, a72 := Tryd.isAgg234, z72 := Tryd.sizeOf234, v72 := Tryd.zeroValue234,
    t75 := Tryd.underlying237, a75 := Tryd.isAgg237, z75 := Tryd.sizeOf237, v75 := Tryd.zeroValue237,
    t76 := Tryd.underlying238, a76 := Tryd.isAgg238, z76 := Tryd.sizeOf238, v76 := Tryd.zeroValue238,
    t127 := Tryd.underlying251, a127 := Tryd.isAgg251, z127 := Tryd.sizeOf251, v127 := Tryd.zeroValue251,
    t164 := Tryd.underlying263, a164 := Tryd.isAgg263, z164 := Tryd.sizeOf263, v164 := Tryd.zeroValue263 }
end Go.Proofs.YtanchgkiomfhhaaDoor.Fw

/- Strings joined: by the kit's contract. -/
namespace Go.Proofs.YtanchgkiomfhhaaDoor.Fw
set_option linter.unusedSimpArgs false
set_option linter.unusedVariables false
open Go Go.Proofs.YtanchgkiomfhhaaDoor.Ma Go.Shelf
set_option maxRecDepth 20000

theorem pfn_calls {P : Program} {f : FuncId} {args : List AV} {r : AV} (hf : ∃ fn, P.funcs[f]? = some fn ∧ (fn.name == "runtime.NumGoroutine") = false ∧ fn.body.isNone = false)
    (h : ∀ (c : Ctx) (vs : Array Value), Ok c → vs.size = args.length → (∀ i (h : i < args.length) (h' : i < vs.size), Enc c (args[i]) (vs[i])) → Calls P f vs c.w fun e w' => ∃ v, e = .returned v ∧ (∀ c', Enc c' r v) ∧ Go.RowKit.Below c.w.heap.size c.w w') : PFn P f args r := by
  intro H Q hq
  refine ⟨hf, fun c vs hH hok hs he => (h c vs hok hs he).mono ?_⟩
  rintro e w' ⟨v, rfl, hr, hb⟩
  let c2 : Ctx := { c with w := w' }
  have hsz : ∀ i x, c.H i = some x → c.μ i < c.w.heap.size := fun i x e => by
    have := hok.blk i x e
    cases x with
    | row ty es cells => obtain ⟨arr, h1, _⟩ := this; exact (Array.getElem?_eq_some_iff.1 h1).1
    | raw o => exact (Array.getElem?_eq_some_iff.1 this.1).1
    | glob g cells => rw [this.1]; exact this.2.1
    | loop st pend fn ps assign body n E => obtain ⟨tm, dd, h1, _⟩ := this; exact (Array.getElem?_eq_some_iff.1 h1).1
  have later : Later c c2 := by
    refine ⟨⟨hb.size, hb.os, hb.tape, hb.output, fun _ h => h, ?_, fun k hk hm => ⟨hb.block k hk, hm⟩⟩, fun _ h => ⟨h, fun k => k⟩⟩
    intro i x' _ hx'
    exact ⟨x', hx', Nat.le_refl _, fun _ => ⟨rfl, fun ty' es' cells' e => ⟨cells', e, fun arr ha => ⟨arr, (hb.block _ (hsz i x' hx')).trans ha, rfl⟩⟩⟩⟩
  have ok : Ok c2 := ⟨hok.used, hok.fin, hok.inj, fun b x hx => (hok.blk b x hx).later later rfl (hb.block _ (hsz b x hx))⟩
  exact ⟨c2, v, r, rfl, rfl, ok, later, hr c2, by show Q r c.H; rw [hH]; exact hq⟩
theorem joinX : Builder.Extra Tryd.prog lay156_ren where
  sizeBuilder := by kernel_rfl
  liesBuilder := by kernel_rfl
  t5 := Tryd.underlying5
  a5 := Tryd.isAgg5
  z5 := Tryd.sizeOf5
  v5 := Tryd.zeroValue5
  infoByte := by kernel_rfl
  cellsByte := by kernel_rfl
  sizeByte := by kernel_rfl
  neB5 := by decide
theorem join_fn (xs : List (List UInt8)) (sep : List UInt8) (t : Bool) (hN : xs.length ≤ 1000000) (hlen : (Lib.join xs sep).length ≤ 140737488355328) : PFn Tryd.prog 168 [.seq xs.length (xs.map Sx) t, Sx sep] (Sx (Lib.join xs sep)) := by
  by_cases h0 : xs = []
  · subst h0
    intro H Q hq
    refine enter168 (by simp) ?_
    have e : Lib.join ([] : List (List UInt8)) sep = [] := rfl
    rw [e] at hq
    have l0 : ([] : List (List UInt8)).length = 0 := rfl
    simp (disch := first | assumption | (apply Ap.symm; assumption) | omega | decide | (simp only [Xd] <;> omega)) only [ac168, l0, len_rw, rs168, ↓Xa, Xb, Xc, ↓reduceIte, Nat.reduceLT, Nat.reduceEqDiff, Nat.reduceBEq, Nat.reduceLeDiff, Nat.reduceAdd, Nat.reduceMul]
    exact SetR.now hq
  · refine pfn_calls ⟨_, Tryd.func168, by kernel_rfl, by kernel_rfl⟩ fun c vs hok hs he => ?_
    obtain ⟨v0, v1, rfl⟩ : ∃ v0 v1, vs = #[v0, v1] := Go.Joins.array2 hs
    have e0 : Enc c (.seq xs.length (xs.map Sx) t) v0 := he 0 (by simp) (by simp)
    have e1 : Enc c (Sx sep) v1 := he 1 (by simp) (by simp)
    cases e1
    cases e0 with
    | seq _ _ _ base cap cv hlen' hcap hmax ht hb hn hc =>
      obtain ⟨k, off, rfl, hmu, hk, hcell⟩ := hb (by simpa using List.length_pos_iff.2 h0)
      have hce : ∀ (j : Nat) x, (xs.map fun l => (⟨l.toArray⟩ : ByteArray))[j]? = some x → c.w.cell? ⟨k, off + j, none⟩ = some (.string x) := fun j x hx => by
        rw [List.getElem?_map] at hx
        obtain ⟨y, hy, rfl⟩ := Option.map_eq_some_iff.1 hx
        obtain ⟨hj, hy⟩ := List.getElem?_eq_some_iff.1 hy
        have h1 := hcell j (by simpa using hj)
        have h2 := hc j (by simpa using hj)
        rw [List.getElem_map, hy] at h2
        generalize cv j = u at h1 h2
        cases h2
        exact h1
      have hm : (xs.map fun l => (⟨l.toArray⟩ : ByteArray)).map (·.data.toList) = xs := by
        rw [List.map_map]
        exact (List.map_congr_left fun l _ => by simp).trans (List.map_id xs)
      have := Any.strings_Join (P := Tryd.prog) (ρ := lay156_ren) lay156 joinX k off cap (xs.map fun l => (⟨l.toArray⟩ : ByteArray)) ⟨sep.toArray⟩ c.w hce hk (by simpa using Nat.le_trans hN (by omega)) (by simpa using hcap) (by rw [hm]; simpa using hlen)
      rw [hm, List.length_map] at this
      refine this.mono fun e w' ⟨h1, h2⟩ => ⟨_, h1, fun c' => ?_, h2⟩
      simp only [Sx]
      exact .str _
end Go.Proofs.YtanchgkiomfhhaaDoor.Fw

/- Rows of whole numbers: made of small ones, told; what the laws' own helpers answer. -/
namespace Go.Proofs.YtanchgkiomfhhaaDoor.Fw
set_option linter.unusedSimpArgs false
set_option linter.unusedVariables false
open Go Go.Proofs.YtanchgkiomfhhaaDoor.Ma
set_option maxRecDepth 20000

theorem repF0 {a : AV} : repA [a] 1 = [a] := by simp [repA, List.range, List.range.loop]
theorem load_map {α : Type} {f : α → AV} {l : List α} {H : AHeap} {K : AV → Prop} {i : Nat} (h : i < l.length) : loadW H none (.cptr ((l.map f).drop i)) K = K (f (l[i])) := by
  have hi : i < (l.map f).length := by simpa using h
  simp only [loadW, cellsAt, List.drop_eq_getElem_cons hi]
  simp
theorem idx_map {α : Type} {f : α → AV} {l : List α} {t : Bool} {k : IntKind} {K : AV → Prop} {i : Nat} (h : i < l.length) : idxAW 1 (.seq l.length (l.map f) t) (.int k (i : Int)) K = K (.cptr ((l.map f).drop (i * 1))) := idx_rw (by simp) h
abbrev iA (n : Int) : AV := .int .i64 n
theorem rowof_run {l : List Int} {t : Bool} (hb : ∀ n, n ∈ l → -9223372036854775808 ≤ n ∧ n < 9223372036854775808) (hbig : l.length ≤ 1000000) {H : AHeap} {Q : AV → AHeap → Prop} (hq : ∀ y M, growC H 28 2 l.length (IC l) y M → Q y M) : Run Tryd.prog 54 [.seq l.length (l.map iA) t] H Q := by
  refine enter54 (by simp) ?_
  simp (disch := first | assumption | (apply Ap.symm; assumption) | omega | decide | (simp only [Xd] <;> omega)) only [ac54, len_rw, ↓Xa, Xb, Xc, ↓reduceIte, Nat.reduceLT, Nat.reduceEqDiff, Nat.reduceBEq, Nat.reduceLeDiff, Nat.reduceAdd, Nat.reduceMul]
  refine W_loop (fun s : Nat × AV × AHeap => ⟨[], [(3, s.2.1), (6, .seq l.length (l.map iA) t), (7, .int .i64 (l.length : Int)), (8, .int .i64 s.1)], s.2.2⟩) (fun s => s.1 ≤ l.length ∧ growC H 28 2 s.1 (IC (l.take s.1)) s.2.1 s.2.2) (fun s => l.length - s.1) (0, .seq 0 [] true, H) (Settle.now rfl) ⟨Nat.zero_le _, growC_nil⟩ ?_
  rintro ⟨i, y, M⟩ ⟨h3, hg⟩
  dsimp only at h3 hg ⊢
  by_cases hi : i < l.length
  · simp (disch := first | assumption | (apply Ap.symm; assumption) | omega | decide | (simp only [Xd] <;> omega)) only [hi, idx_map, load_map, ↓Xa, Xb, Xc, ↓reduceIte, Nat.reduceLT, Nat.reduceEqDiff, Nat.reduceBEq, Nat.reduceLeDiff, Nat.reduceAdd, Nat.reduceMul]
    refine (of_fn (hb _ (List.getElem_mem hi))).call ?_
    simp (disch := first | assumption | (apply Ap.symm; assumption) | omega | decide | (simp only [Xd] <;> omega)) only [repI1, cells_IntA, ↓Xa, Xb, Xc, ↓reduceIte, Nat.reduceLT, Nat.reduceEqDiff, Nat.reduceBEq, Nat.reduceLeDiff, Nat.reduceAdd, Nat.reduceMul]
    refine app_C (m := 1) hg rfl cellI (by omega) (by omega) (by omega) fun y' M2 hg3 => ?_
    rw [← IC_take] at hg3
    simp (disch := first | assumption | (apply Ap.symm; assumption) | omega | decide | (simp only [Xd] <;> omega)) only [↓Xa, Xb, Xc, ↓reduceIte, Nat.reduceLT, Nat.reduceEqDiff, Nat.reduceBEq, Nat.reduceLeDiff, Nat.reduceAdd, Nat.reduceMul]
    exact Settle.now ⟨(i + 1, y', M2), by dsimp only; omega, ⟨by dsimp only; omega, hg3⟩, rfl⟩
  · obtain rfl : i = l.length := by omega
    rw [List.take_of_length_le (by omega)] at hg
    simp (disch := first | assumption | (apply Ap.symm; assumption) | omega | decide | (simp only [Xd] <;> omega)) only [hi, ↓Xa, Xb, Xc, ↓reduceIte, Nat.reduceLT, Nat.reduceEqDiff, Nat.reduceBEq, Nat.reduceLeDiff, Nat.reduceAdd, Nat.reduceMul]
    refine Settle.now ?_
    simp (disch := first | assumption | (apply Ap.symm; assumption) | omega | decide | (simp only [Xd] <;> omega)) only [rs54, ↓Xa, Xb, Xc, ↓reduceIte, Nat.reduceLT, Nat.reduceEqDiff, Nat.reduceBEq, Nat.reduceLeDiff, Nat.reduceAdd, Nat.reduceMul]
    exact SetR.now (hq y M hg)
theorem rowof_fn {l : List Int} {t : Bool} (hb : ∀ n, n ∈ l → -9223372036854775808 ≤ n ∧ n < 9223372036854775808) (hbig : l.length ≤ 1000000) : PFn Tryd.prog 54 [.seq l.length (l.map iA) t] (RowA l false) :=
  PFn.frozen fun _ _ hq => rowof_run hb hbig hq

def joinT : List (List UInt8) → List UInt8
  | [] => []
  | [x] => x
  | x :: y :: r => x ++ 32 :: joinT (y :: r)
theorem joinT_eq : ∀ xs : List (List UInt8), Lib.join xs [32] = joinT xs
  | [] => rfl
  | [x] => by simp [Lib.join, joinT, List.intercalate]
  | x :: y :: r => by
    have := joinT_eq (y :: r)
    simp only [Lib.join, joinT, List.intercalate] at this ⊢
    rw [← this]
    simp
theorem joinT_snoc : ∀ (xs : List (List UInt8)) (z : List UInt8), joinT (xs ++ [z]) = joinT xs ++ (if xs = [] then [] else [32]) ++ z
  | [], z => by simp [joinT]
  | [x], z => by simp [joinT]
  | x :: y :: r, z => by
    have := joinT_snoc (y :: r) z
    rw [if_neg (by simp)] at this ⊢
    show x ++ 32 :: joinT (y :: r ++ [z]) = x ++ 32 :: joinT (y :: r) ++ [32] ++ z
    rw [this]; simp
theorem joinT_len {k : Nat} : ∀ xs : List (List UInt8), (∀ x, x ∈ xs → x.length ≤ k) → (joinT xs).length ≤ xs.length * (k + 1)
  | [], _ => by simp [joinT]
  | [x], h => by have := h x (by simp); simp [joinT]; omega
  | x :: y :: r, h => by
    have h1 := joinT_len (y :: r) fun z hz => h z (by simp at hz ⊢; exact .inr hz)
    have h2 := h x (by simp)
    simp only [joinT, List.length_append, List.length_cons] at h1 ⊢
    rw [Nat.add_mul]; omega
def rowT (zs : List Int) : List UInt8 := 91 :: joinT (zs.map iText) ++ [93]
theorem joinI_len {k : Nat} {zs : List Int} (hz : RB4 k zs) (hk : k ≤ 1000000) (hbig : zs.length ≤ 1000000) : (joinT (zs.map iText)).length ≤ 1000000 * 10000003 := by
  refine Nat.le_trans (joinT_len (k := 10 * k + 2) _ fun x hx => ?_) ?_
  · obtain ⟨z, hm, rfl⟩ := List.mem_map.1 hx
    exact iText_len (hz.1 z hm)
  · rw [List.length_map]; exact Nat.mul_le_mul hbig (by omega)
theorem cell_Sx1 {l : List UInt8} : [Sx l].all AV.cell = true := rfl
theorem rowt_fn {zs : List Int} {t : Bool} {k : Nat} (hz : RB4 k zs) (hk : k ≤ 1000000) (hbig : zs.length ≤ 1000000) : PFn Tryd.prog 86 [RowA zs t] (Sx (rowT zs)) := by
  intro H Q hq
  have nz : zs.length < 9223372036854775808 := by omega
  have hjl := joinI_len hz hk hbig
  refine enter86 (by simp) ?_
  simp (disch := first | assumption | (apply Ap.symm; assumption) | omega | decide | (simp only [Xd] <;> omega)) only [ac86, len_rw, ↓Xa, Xb, Xc, ↓reduceIte, Nat.reduceLT, Nat.reduceEqDiff, Nat.reduceBEq, Nat.reduceLeDiff, Nat.reduceAdd, Nat.reduceMul]
  refine W_loop (fun s : Nat × AV × AHeap => ⟨[], [(3, s.2.1), (6, RowA zs t), (7, .int .i64 (zs.length : Int)), (8, .int .i64 s.1)], s.2.2⟩) (fun s => s.1 ≤ zs.length ∧ growC H 9 1 s.1 ((zs.take s.1).map fun z => Sx (iText z)) s.2.1 s.2.2) (fun s => zs.length - s.1) (0, .seq 0 [] true, H) (Settle.now rfl) ⟨Nat.zero_le _, growC_nil⟩ ?_
  rintro ⟨i, y, M⟩ ⟨h3, hg⟩
  dsimp only at h3 hg ⊢
  by_cases hi : i < zs.length
  · simp (disch := first | assumption | (apply Ap.symm; assumption) | omega | decide | (simp only [Xd] <;> omega)) only [hi, idx_IC, load_IC, ↓Xa, Xb, Xc, ↓reduceIte, Nat.reduceLT, Nat.reduceEqDiff, Nat.reduceBEq, Nat.reduceLeDiff, Nat.reduceAdd, Nat.reduceMul]
    refine alloc_i fun q hq1 => ?_
    simp (disch := first | assumption | (apply Ap.symm; assumption) | omega | decide | (simp only [Xd] <;> omega)) only [cells_IntA, fold_IntA, ↓Xa, Xb, Xc, ↓reduceIte, Nat.reduceLT, Nat.reduceEqDiff, Nat.reduceBEq, Nat.reduceLeDiff, Nat.reduceAdd, Nat.reduceMul]
    have hg1 := growC_upd (r := .row 28 0 [IntB (zs[i]), IntD (zs[i])]) hg hq1
    refine (itext_fn (hz.at hi) hk).call ?_
    simp (disch := first | assumption | (apply Ap.symm; assumption) | omega | decide | (simp only [Xd] <;> omega)) only [repF0, cells_Sx, str_Sx, ↓Xa, Xb, Xc, ↓reduceIte, Nat.reduceLT, Nat.reduceEqDiff, Nat.reduceBEq, Nat.reduceLeDiff, Nat.reduceAdd, Nat.reduceMul]
    refine app_C (m := 1) hg1 rfl cell_Sx1 (by omega) (by omega) (by omega) fun y' M2 hg3 => ?_
    have e : (zs.take (i + 1)).map (fun z => Sx (iText z)) = (zs.take i).map (fun z => Sx (iText z)) ++ [Sx (iText (zs[i]))] := by
      rw [List.take_add_one, List.getElem?_eq_getElem hi, Option.toList_some, List.map_append]; rfl
    rw [← e] at hg3
    obtain ⟨M3, hg4, hl4⟩ := growC_le2 hg3 ((Le.refl H).upd (growC_none hg hq1))
    simp (disch := first | assumption | (apply Ap.symm; assumption) | omega | decide | (simp only [Xd] <;> omega)) only [↓Xa, Xb, Xc, ↓reduceIte, Nat.reduceLT, Nat.reduceEqDiff, Nat.reduceBEq, Nat.reduceLeDiff, Nat.reduceAdd, Nat.reduceMul]
    exact Settle.dropTo hl4 (Settle.now ⟨(i + 1, y', M3), by dsimp only; omega, ⟨by dsimp only; omega, hg4⟩, rfl⟩)
  · obtain rfl : i = zs.length := by omega
    rw [List.take_of_length_le (by omega)] at hg
    simp (disch := first | assumption | (apply Ap.symm; assumption) | omega | decide | (simp only [Xd] <;> omega)) only [hi, ↓Xa, Xb, Xc, ↓reduceIte, Nat.reduceLT, Nat.reduceEqDiff, Nat.reduceBEq, Nat.reduceLeDiff, Nat.reduceAdd, Nat.reduceMul]
    refine Settle.grownC 3 rfl hg (Settle.now ?_)
    have hj := join_fn (zs.map iText) [32] false (by simpa using hbig) (by rw [joinT_eq]; omega)
    rw [joinT_eq, List.length_map, List.map_map] at hj
    have s1 : AV.str ⟨#[91]⟩ = Sx [91] := rfl
    have s2 : AV.str ⟨#[93]⟩ = Sx [93] := rfl
    have s3 : AV.str ⟨#[32]⟩ = Sx [32] := rfl
    have e1 : ∀ K, binW .add (Sx [91]) (Sx (joinT (zs.map iText))) K = K (Sx (91 :: joinT (zs.map iText))) := fun K => add_Sx (by simp only [List.length_cons, List.length_append, List.length_nil]; omega)
    have e2 : ∀ K, binW .add (Sx (91 :: joinT (zs.map iText))) (Sx [93]) K = K (Sx (rowT zs)) := fun K => by rw [add_Sx (by simp only [List.length_cons, List.length_append, List.length_nil]; omega)]; rfl
    simp (disch := first | assumption | (apply Ap.symm; assumption) | omega | decide | (simp only [Xd] <;> omega)) only [s3, ↓Xa, Xb, Xc, ↓reduceIte, Nat.reduceLT, Nat.reduceEqDiff, Nat.reduceBEq, Nat.reduceLeDiff, Nat.reduceAdd, Nat.reduceMul]
    refine hj.call ?_
    simp (disch := first | assumption | (apply Ap.symm; assumption) | omega | decide | (simp only [Xd] <;> omega)) only [s1, s2, e1, e2, rs86, ↓Xa, Xb, Xc, ↓reduceIte, Nat.reduceLT, Nat.reduceEqDiff, Nat.reduceBEq, Nat.reduceLeDiff, Nat.reduceAdd, Nat.reduceMul]
    exact SetR.now hq
end Go.Proofs.YtanchgkiomfhhaaDoor.Fw

/- Rows of whole numbers read of a text: where it goes wrong, or the row: plain laws. -/
namespace Go.Proofs.YtanchgkiomfhhaaDoor.Fw
set_option linter.unusedSimpArgs false
set_option linter.unusedVariables false
open Go Go.Proofs.YtanchgkiomfhhaaDoor.Ma

def isNC (c : UInt8) : Bool := decide (c.toNat = 45 ∨ (48 ≤ c.toNat ∧ c.toNat ≤ 57))
def isNE (c : UInt8) : Bool := decide (c.toNat ≠ 32 ∧ c.toNat ≠ 93)
def segP (l : List UInt8) (a : Nat) : List UInt8 := (l.drop a).takeWhile isNC
def segR (l : List UInt8) (a : Nat) : List UInt8 := (l.drop a).takeWhile isNE
noncomputable def posP (l : List UInt8) : Nat := Classical.choose (isAt_ex l)
theorem posP_at (l : List UInt8) : IsAt l (posP l) := Classical.choose_spec (isAt_ex l)
theorem posP_of {l : List UInt8} {p : Nat} (h : IsAt l p) : posP l = p := isAt_fn (posP_at l) h
inductive Res where
  | ok (zs : List Int)
  | bad (n : Nat)
  | long (n : Nat)
noncomputable def rdF (l : List UInt8) : Nat → Nat → List Int → Res
  | 0, a, _ => .bad a
  | f + 1, a, out =>
    if posP (segP l a) = iFrom (segP l a) ∨ posP (segP l a) < (segP l a).length then .bad (a + posP (segP l a))
    else if out.length = 4096 then .long a
    else if a + (segP l a).length = l.length then .bad (a + (segP l a).length)
    else if (l.getD (a + (segP l a).length) 0).toNat = 32 then rdF l f (a + (segP l a).length + 1) (out ++ [iVal (segP l a)])
    else if (l.getD (a + (segP l a).length) 0).toNat ≠ 93 then .bad (a + (segP l a).length)
    else if a + (segP l a).length + 1 < l.length then .bad (a + (segP l a).length + 1)
    else .ok (out ++ [iVal (segP l a)])
noncomputable def readR (l : List UInt8) : Res :=
  if 65536 < l.length then .long 65536 else if (l.getD 0 0).toNat ≠ 91 then .bad 0 else if l = [91, 93] then .ok [] else if l.take 2 = [91, 93] then .bad 2 else rdF l (l.length + 1) 1 []
theorem tw_le {p : UInt8 → Bool} (l : List UInt8) (a : Nat) : ((l.drop a).takeWhile p).length ≤ l.length - a := by
  have := (List.takeWhile_sublist p (l := l.drop a)).length_le
  rwa [List.length_drop] at this
theorem tw_get {p : UInt8 → Bool} {l : List UInt8} {a j : Nat} (h1 : a ≤ j) (h2 : j < a + ((l.drop a).takeWhile p).length) : p (l.getD j 0) = true := by
  have hle := tw_le (p := p) l a
  have hj : j - a < ((l.drop a).takeWhile p).length := by omega
  have hm := List.getElem_mem hj
  have hp := List.all_eq_true.1 (List.all_takeWhile (p := p) (l := l.drop a)) _ hm
  have e : ((l.drop a).takeWhile p)[j - a] = l.getD j 0 := by
    have hpre := List.takeWhile_prefix p (l := l.drop a)
    have h3 := hpre.getElem hj
    rw [h3, List.getElem_drop, List.getD_eq_getElem?_getD, List.getElem?_eq_getElem (by omega), Option.getD_some]
    congr 1; omega
  rw [e] at hp; exact hp
theorem tw_end {p : UInt8 → Bool} {l : List UInt8} {a : Nat} (h : a + ((l.drop a).takeWhile p).length < l.length) : p (l.getD (a + ((l.drop a).takeWhile p).length) 0) = false := by
  have hd : (l.drop a).length = l.length - a := by simp
  have e := List.takeWhile_append_dropWhile (p := p) (l := l.drop a)
  have hne : (l.drop a).dropWhile p ≠ [] := fun h0 => by
    rw [h0, List.append_nil] at e
    have := congrArg List.length e
    omega
  have h1 := List.head_dropWhile_not p (l := l.drop a) hne
  have e2 : l.getD (a + ((l.drop a).takeWhile p).length) 0 = ((l.drop a).dropWhile p).head hne := by
    have : (l.drop a).getD (((l.drop a).takeWhile p).length) 0 = ((l.drop a).dropWhile p).head hne := by
      conv => lhs; rw [← e]
      rw [List.getD_eq_getElem?_getD, List.getElem?_append_right (by rw [e]; exact Nat.le_refl _), e, Nat.sub_self]
      rw [← List.head?_eq_getElem?, List.head?_eq_some_head hne]; rfl
    rw [← this]
    simp [List.getD_eq_getElem?_getD]
  rw [e2]; exact h1
theorem tw_eq {p : UInt8 → Bool} (l : List UInt8) (a : Nat) : (l.drop a).takeWhile p = (l.drop a).take (((l.drop a).takeWhile p).length) := by
  have h := (List.takeWhile_prefix p (l := l.drop a))
  exact (List.prefix_iff_eq_take.1 h)
end Go.Proofs.YtanchgkiomfhhaaDoor.Fw

/- Rows of whole numbers read of a text: what package row answers. -/
namespace Go.Proofs.YtanchgkiomfhhaaDoor.Fw
set_option linter.unusedSimpArgs false
set_option linter.unusedVariables false
open Go Go.Proofs.YtanchgkiomfhhaaDoor.Ma
set_option maxRecDepth 20000

theorem hasp1_fn {l m : List UInt8} (hl : l.length < 9223372036854775808) : PFn Tryd.prog 201 [Sx l, Sx m] (.bool (decide (l.take m.length = m))) := by
  intro H Q hq
  refine enter201 (by simp) ?_
  by_cases h : m.length ≤ l.length
  · have e : decide (((m.length : Nat) : Int) ≤ ((l.length : Nat) : Int)) = true := decide_eq_true (by omega)
    simp (disch := first | assumption | (apply Ap.symm; assumption) | omega | decide | (simp only [Xd] <;> omega)) only [ac201, len_Sx, geq_int, e, slc_SxH, eql_Sx, rs201, ↓Xa, Xb, Xc, ↓reduceIte, Nat.reduceLT, Nat.reduceEqDiff, Nat.reduceBEq, Nat.reduceLeDiff, Nat.reduceAdd, Nat.reduceMul]
    exact SetR.now hq
  · have e : decide (((m.length : Nat) : Int) ≤ ((l.length : Nat) : Int)) = false := decide_eq_false (by omega)
    have e2 : decide (l.take m.length = m) = false := decide_eq_false fun h2 => by
      have := congrArg List.length h2
      rw [List.length_take] at this; omega
    rw [e2] at hq
    simp (disch := first | assumption | (apply Ap.symm; assumption) | omega | decide | (simp only [Xd] <;> omega)) only [ac201, len_Sx, geq_int, e, rs201, ↓Xa, Xb, Xc, ↓reduceIte, Nat.reduceLT, Nat.reduceEqDiff, Nat.reduceBEq, Nat.reduceLeDiff, Nat.reduceAdd, Nat.reduceMul]
    exact SetR.now hq
theorem hasp_fn {l m : List UInt8} (hl : l.length < 9223372036854775808) : PFn Tryd.prog 166 [Sx l, Sx m] (.bool (decide (l.take m.length = m))) := by
  intro H Q hq
  refine enter166 (by simp) ?_
  simp (disch := first | assumption | (apply Ap.symm; assumption) | omega | decide | (simp only [Xd] <;> omega)) only [ac166, ↓Xa, Xb, Xc, ↓reduceIte, Nat.reduceLT, Nat.reduceEqDiff, Nat.reduceBEq, Nat.reduceLeDiff, Nat.reduceAdd, Nat.reduceMul]
  refine (hasp1_fn hl).call ?_
  simp (disch := first | assumption | (apply Ap.symm; assumption) | omega | decide | (simp only [Xd] <;> omega)) only [rs166, ↓Xa, Xb, Xc, ↓reduceIte, Nat.reduceLT, Nat.reduceEqDiff, Nat.reduceBEq, Nat.reduceLeDiff, Nat.reduceAdd, Nat.reduceMul]
  exact SetR.now hq
theorem wrong4_fn {n : Nat} : PFn Tryd.prog 165 [.int .i64 (n : Int)] (.tup [.seq 0 [] true, spot 6 n]) := by
  intro H Q hq
  refine enter165 (by simp) ?_
  have sp : AV.agg [.int .i64 ((6 : Nat) : Int), .int .i64 ((n : Nat) : Int)] = spot 6 n := rfl
  simp (disch := first | assumption | (apply Ap.symm; assumption) | omega | decide | (simp only [Xd] <;> omega)) only [ac165, ↓Xa, Xb, Xc, ↓reduceIte, Nat.reduceLT, Nat.reduceEqDiff, Nat.reduceBEq, Nat.reduceLeDiff, Nat.reduceAdd, Nat.reduceMul]
  refine alloc_i fun p1 hp1 => ?_
  have n1 := hp1
  simp (disch := first | assumption | (apply Ap.symm; assumption) | omega | decide | (simp only [Xd] <;> omega)) only [sp, cells_spot, rs165, ↓Xa, Xb, Xc, ↓reduceIte, Nat.reduceLT, Nat.reduceEqDiff, Nat.reduceBEq, Nat.reduceLeDiff, Nat.reduceAdd, Nat.reduceMul]
  exact SetR.dropTo ((Le.refl H).updB n1) (SetR.now hq)
def rdA : Res → AV
  | .ok zs => .tup [RowA zs false, spot 0 0]
  | .bad n => .tup [.seq 0 [] true, spot 6 n]
  | .long n => .tup [.seq 0 [] true, spot 3 n]
theorem growC_finS {H0 H : AHeap} {ty es n : Nat} {cells : List AV} {x : AV} {a b : Nat} {Q : AV → AHeap → Prop} (h : growC H0 ty es n cells x H) (hq : Q (.tup [.seq n cells false, spot a b]) H0) : SetR Q (.tup [x, spot a b]) H := by
  rcases h with ⟨rfl, rfl, rfl, rfl⟩ | ⟨hn, hl, b, hb, rfl, rfl⟩
  · exact SetR.loose (SetR.now hq)
  · refine SetR.frz b (upd_same _ _ _) ?_
    rw [upd_upd, upd_back _ hb]
    refine SetR.now ?_
    simpa [frz, frz2, frz1, hl, List.take_of_length_le, spot] using hq
theorem growC_lenW {H0 H : AHeap} {ty es n : Nat} {cells : List AV} {x : AV} (h : growC H0 ty es n cells x H) (hn : n < 9223372036854775808) {K : AV → Prop} : lenW false x K = K (.int .i64 ((n : Nat) : Int)) := by
  rcases h with ⟨rfl, rfl, rfl, rfl⟩ | ⟨_, _, b, _, rfl, _⟩ <;> simp [lenW, hn]
set_option maxHeartbeats 2000000 in
theorem rowread_fn {l : List UInt8} (hl : l.length < 4611686018427387904) : PFn Tryd.prog 85 [Sx l] (rdA (readR l)) := by
  intro H Q hq
  have s0 : AV.str ⟨#[]⟩ = Sx [] := rfl
  have s2 : AV.str ⟨#[91, 93]⟩ = Sx [91, 93] := rfl
  have sp : ∀ a b : Nat, AV.agg [.int .i64 ((a : Nat) : Int), .int .i64 ((b : Nat) : Int)] = spot a b := fun _ _ => rfl
  refine enter85 (by simp) ?_
  simp (disch := first | assumption | (apply Ap.symm; assumption) | omega | decide | (simp only [Xd] <;> omega)) only [ac85, ↓Xa, Xb, Xc, ↓reduceIte, Nat.reduceLT, Nat.reduceEqDiff, Nat.reduceBEq, Nat.reduceLeDiff, Nat.reduceAdd, Nat.reduceMul]
  refine alloc_i fun p1 hp1 => ?_
  have n1 := hp1
  simp (disch := first | assumption | (apply Ap.symm; assumption) | omega | decide | (simp only [Xd] <;> omega)) only [↓Xa, Xb, Xc, ↓reduceIte, Nat.reduceLT, Nat.reduceEqDiff, Nat.reduceBEq, Nat.reduceLeDiff, Nat.reduceAdd, Nat.reduceMul]
  refine W_jump (fun s : Nat × Nat × List Int × AV × AHeap => ⟨[], [(0, Sx l), (3, .ptr p1 2 0), (4, .fn (.func 165) [] []), (5, s.2.2.2.1), (6, .int .i64 (s.2.1 : Int))], s.2.2.2.2⟩)
    (fun s => l.length ≤ 65536 ∧ s.2.1 ≤ l.length ∧ l.length + 1 ≤ s.1 + s.2.1 ∧ s.2.2.1.length ≤ s.2.1 ∧ rdF l s.1 s.2.1 s.2.2.1 = readR l ∧ growC (H.upd p1 (some (.row 105 0 [.int .i64 ((0 : Nat) : Int), .int .i64 ((0 : Nat) : Int)]))) 28 2 s.2.2.1.length (IC s.2.2.1) s.2.2.2.1 s.2.2.2.2) (fun s => s.1) ?_ ?_
  · rintro ⟨f, a, out, y, M⟩ ⟨h65, ha, hf, ho, hR, hg⟩ R hcont
    dsimp only at ha hf ho hR hg ⊢
    obtain ⟨f, rfl⟩ : ∃ f', f = f' + 1 := ⟨f - 1, by omega⟩
    have hle : (segP l a).length ≤ l.length - a := tw_le l a
    have lBM := growC_le hg
    have m1 : M p1 = some (.row 105 0 [.int .i64 ((0 : Nat) : Int), .int .i64 ((0 : Nat) : Int)]) := growC_old hg (upd_same _ _ _)
    have hlH : Le H M := fun o x h => lBM o x (((Le.refl H).updB n1) o x h)
    have hpl := (posP_at (segP l a)).2.1
    have hwr : IntKind.i64.wrap ((a + posP (segP l a) : Nat) : Int) = ((a + posP (segP l a) : Nat) : Int) := wn_i64 (by omega)
    have hseg : (l.drop a).take (a + (segP l a).length - a) = segP l a := by
      rw [Nat.add_sub_cancel_left]; exact (tw_eq (p := isNC) l a).symm
    have hrd := iread_fn (posP_at (segP l a)) (by omega)
    unfold iReadA at hrd
    rw [if_neg (by omega)] at hrd
    have hq' := hq
    rw [← hR] at hq'
    unfold rdF at hq'
    have hly : ∀ {K : AV → Prop}, lenW false y K = K (.int .i64 ((out.length : Nat) : Int)) := fun {K} => growC_lenW hg (by omega)
    simp (disch := first | assumption | (apply Ap.symm; assumption) | omega | decide | (simp only [Xd] <;> omega)) only [↓Xa, Xb, Xc, ↓reduceIte, Nat.reduceLT, Nat.reduceEqDiff, Nat.reduceBEq, Nat.reduceLeDiff, Nat.reduceAdd, Nat.reduceMul]
    refine W_loop (fun s : Nat => ⟨[], [(0, Sx l), (3, .ptr p1 2 0), (4, .fn (.func 165) [] []), (5, y), (6, .int .i64 (a : Int)), (7, .int .i64 s)], M⟩) (fun s => a ≤ s ∧ s ≤ a + (segP l a).length) (fun s => a + (segP l a).length - s) a (Settle.now rfl) ⟨Nat.le_refl _, by omega⟩ ?_
    rintro j ⟨j1, j2⟩
    by_cases hj : j < a + (segP l a).length
    · have hjl : j < l.length := by omega
      have hne2 := of_decide_eq_true (tw_get (p := isNC) j1 hj)
      by_cases h45 : (l.getD j 0).toNat = 45
      · simp (disch := first | assumption | (apply Ap.symm; assumption) | omega | decide | (simp only [Xd] <;> omega)) only [len_Sx, hjl, idx_Sx, h45, ↓Xa, Xb, Xc, ↓reduceIte, Nat.reduceLT, Nat.reduceEqDiff, Nat.reduceBEq, Nat.reduceLeDiff, Nat.reduceAdd, Nat.reduceMul]
        exact Settle.now ⟨j + 1, by omega, ⟨by omega, by omega⟩, rfl⟩
      · have h48 : 48 ≤ (l.getD j 0).toNat := by omega
        have h57 : (l.getD j 0).toNat ≤ 57 := by omega
        simp (disch := first | assumption | (apply Ap.symm; assumption) | omega | decide | (simp only [Xd] <;> omega)) only [len_Sx, hjl, idx_Sx, h45, h48, h57, ↓Xa, Xb, Xc, ↓reduceIte, Nat.reduceLT, Nat.reduceEqDiff, Nat.reduceBEq, Nat.reduceLeDiff, Nat.reduceAdd, Nat.reduceMul]
        exact Settle.now ⟨j + 1, by omega, ⟨by omega, by omega⟩, rfl⟩
    obtain rfl : j = a + (segP l a).length := by omega
    -- what comes behind the scan
    have tri : (¬ a + (segP l a).length < l.length) ∨ (a + (segP l a).length < l.length ∧ ¬ (l.getD (a + (segP l a).length) 0).toNat = 45 ∧ ¬ 48 ≤ (l.getD (a + (segP l a).length) 0).toNat) ∨ (a + (segP l a).length < l.length ∧ ¬ (l.getD (a + (segP l a).length) 0).toNat = 45 ∧ 48 ≤ (l.getD (a + (segP l a).length) 0).toNat ∧ ¬ (l.getD (a + (segP l a).length) 0).toNat ≤ 57) := by
      by_cases h : a + (segP l a).length < l.length
      · have := of_decide_eq_false (tw_end (p := isNC) (l := l) (a := a) h)
        have e5 : ((l.drop a).takeWhile isNC).length = (segP l a).length := rfl
        rw [e5] at this
        by_cases h48 : 48 ≤ (l.getD (a + (segP l a).length) 0).toNat
        · exact .inr (.inr ⟨h, by omega, h48, by omega⟩)
        · exact .inr (.inl ⟨h, by omega, h48⟩)
      · exact .inl h
    rcases tri with h | ⟨h, h45, h48⟩ | ⟨h, h45, h48, h57⟩
    simp (disch := first | assumption | (apply Ap.symm; assumption) | omega | decide | (simp only [Xd] <;> omega)) only [len_Sx, h, ↓Xa, Xb, Xc, ↓reduceIte, Nat.reduceLT, Nat.reduceEqDiff, Nat.reduceBEq, Nat.reduceLeDiff, Nat.reduceAdd, Nat.reduceMul]
    rotate_left
    simp (disch := first | assumption | (apply Ap.symm; assumption) | omega | decide | (simp only [Xd] <;> omega)) only [len_Sx, h, idx_Sx, h45, h48, ↓Xa, Xb, Xc, ↓reduceIte, Nat.reduceLT, Nat.reduceEqDiff, Nat.reduceBEq, Nat.reduceLeDiff, Nat.reduceAdd, Nat.reduceMul]
    rotate_left
    simp (disch := first | assumption | (apply Ap.symm; assumption) | omega | decide | (simp only [Xd] <;> omega)) only [len_Sx, h, idx_Sx, h45, h48, h57, ↓Xa, Xb, Xc, ↓reduceIte, Nat.reduceLT, Nat.reduceEqDiff, Nat.reduceBEq, Nat.reduceLeDiff, Nat.reduceAdd, Nat.reduceMul]
    rotate_left
    all_goals
      refine Settle.now ?_
      simp (disch := first | assumption | (apply Ap.symm; assumption) | omega | decide | (simp only [Xd] <;> omega)) only [slc_Sx, hseg, ↓Xa, Xb, Xc, ↓reduceIte, Nat.reduceLT, Nat.reduceEqDiff, Nat.reduceBEq, Nat.reduceLeDiff, Nat.reduceAdd, Nat.reduceMul]
      refine hrd.call ?_
      by_cases hb : posP (segP l a) = iFrom (segP l a) ∨ posP (segP l a) < (segP l a).length
      · rw [if_pos hb]
        rw [if_pos hb] at hq'
        have e3 : decide (((6 : Nat) : Int) = ((0 : Nat) : Int)) = false := by decide
        simp (disch := first | assumption | (apply Ap.symm; assumption) | omega | decide | (simp only [Xd] <;> omega)) only [↓Xa, Xb, Xc, ↓reduceIte, Nat.reduceLT, Nat.reduceEqDiff, Nat.reduceBEq, Nat.reduceLeDiff, Nat.reduceAdd, Nat.reduceMul]
        refine alloc_i fun q1 hq1 => ?_
        have a1 := ne_of_some m1 hq1
        simp (disch := first | assumption | (apply Ap.symm; assumption) | omega | decide | (simp only [Xd] <;> omega)) only [↓Xa, Xb, Xc, ↓reduceIte, Nat.reduceLT, Nat.reduceEqDiff, Nat.reduceBEq, Nat.reduceLeDiff, Nat.reduceAdd, Nat.reduceMul]
        refine alloc_i fun q2 hq2 => ?_
        have a2 := ne_of_some m1 (upd_none.1 hq2).2
        have a21 := (upd_none.1 hq2).1
        simp (disch := first | assumption | (apply Ap.symm; assumption) | omega | decide | (simp only [Xd] <;> omega)) only [cells_IntA, cells_spot, neq_int, e3, hwr, ↓Xa, Xb, Xc, ↓reduceIte, Nat.reduceLT, Nat.reduceEqDiff, Nat.reduceBEq, Nat.reduceLeDiff, Nat.reduceAdd, Nat.reduceMul]
        refine (wrong4_fn (n := a + posP (segP l a))).call ?_
        simp (disch := first | assumption | (apply Ap.symm; assumption) | omega | decide | (simp only [Xd] <;> omega)) only [m1, cells_spot, rs85, ↓Xa, Xb, Xc, ↓reduceIte, Nat.reduceLT, Nat.reduceEqDiff, Nat.reduceBEq, Nat.reduceLeDiff, Nat.reduceAdd, Nat.reduceMul]
        exact SetR.dropTo (((hlH.updB (hlH.none hq1)).updB (hlH.none (upd_none.1 hq2).2)).updB n1) (SetR.now hq')
      · rw [if_neg hb]
        rw [if_neg hb] at hq'
        have e3 : decide (((0 : Nat) : Int) = ((0 : Nat) : Int)) = true := by decide
        simp (disch := first | assumption | (apply Ap.symm; assumption) | omega | decide | (simp only [Xd] <;> omega)) only [↓Xa, Xb, Xc, ↓reduceIte, Nat.reduceLT, Nat.reduceEqDiff, Nat.reduceBEq, Nat.reduceLeDiff, Nat.reduceAdd, Nat.reduceMul]
        refine alloc_i fun q1 hq1 => ?_
        have a1 := ne_of_some m1 hq1
        simp (disch := first | assumption | (apply Ap.symm; assumption) | omega | decide | (simp only [Xd] <;> omega)) only [↓Xa, Xb, Xc, ↓reduceIte, Nat.reduceLT, Nat.reduceEqDiff, Nat.reduceBEq, Nat.reduceLeDiff, Nat.reduceAdd, Nat.reduceMul]
        refine alloc_i fun q2 hq2 => ?_
        have a2 := ne_of_some m1 (upd_none.1 hq2).2
        have a21 := (upd_none.1 hq2).1
        by_cases hcap : out.length = 4096
        · rw [if_pos hcap] at hq'
          simp (disch := first | assumption | (apply Ap.symm; assumption) | omega | decide | (simp only [Xd] <;> omega)) only [cells_IntA, cells_spot, neq_int, e3, hly, hcap, sp, m1, rs85, ↓Xa, Xb, Xc, ↓reduceIte, Nat.reduceLT, Nat.reduceEqDiff, Nat.reduceBEq, Nat.reduceLeDiff, Nat.reduceAdd, Nat.reduceMul]
          exact SetR.dropTo (((hlH.updB (hlH.none hq1)).updB (hlH.none (upd_none.1 hq2).2)).updB n1) (SetR.now hq')
        · rw [if_neg hcap] at hq'
          have hg1 := growC_upd (r := .row 28 0 [IntB (iVal (segP l a)), IntD (iVal (segP l a))]) hg hq1
          have hq2' : (M.upd q1 (some (.row 28 0 [IntB (iVal (segP l a)), IntD (iVal (segP l a))]))) q2 = none := upd_none.2 ⟨a21, (upd_none.1 hq2).2⟩
          have hg2 := growC_upd (r := .row 105 0 [.int .i64 ((0 : Nat) : Int), .int .i64 ((0 : Nat) : Int)]) hg1 hq2'
          have hle2 : Le (H.upd p1 (some (.row 105 0 [.int .i64 ((0 : Nat) : Int), .int .i64 ((0 : Nat) : Int)]))) (((H.upd p1 (some (.row 105 0 [.int .i64 ((0 : Nat) : Int), .int .i64 ((0 : Nat) : Int)]))).upd q1 (some (.row 28 0 [IntB (iVal (segP l a)), IntD (iVal (segP l a))]))).upd q2 (some (.row 105 0 [.int .i64 ((0 : Nat) : Int), .int .i64 ((0 : Nat) : Int)]))) :=
            ((Le.refl _).updB (growC_none hg hq1)).updB (growC_none hg (upd_none.1 hq2).2)
          simp (disch := first | assumption | (apply Ap.symm; assumption) | omega | decide | (simp only [Xd] <;> omega)) only [cells_IntA, cells_spot, neq_int, e3, hly, hcap, fold_IntA, repI1, ↓Xa, Xb, Xc, ↓reduceIte, Nat.reduceLT, Nat.reduceEqDiff, Nat.reduceBEq, Nat.reduceLeDiff, Nat.reduceAdd, Nat.reduceMul]
          refine app_C (m := 1) hg2 rfl cellI (by omega) (by omega) (by omega) fun y' M2 hg3 => ?_
          rw [← IC_snoc] at hg3
          obtain ⟨M3, hg4, hl4⟩ := growC_le2 hg3 hle2
          have hll : (out ++ [iVal (segP l a)]).length = out.length + 1 := by simp
          have m2 : M2 p1 = some (.row 105 0 [.int .i64 ((0 : Nat) : Int), .int .i64 ((0 : Nat) : Int)]) := hl4 _ _ (growC_old hg4 (upd_same _ _ _))
          have hlH2 : Le H M2 := fun o x h => hl4 o x (growC_le hg4 o x (((Le.refl H).updB n1) o x h))
          by_cases hjl : a + (segP l a).length = l.length
          · rw [if_pos hjl] at hq'
            simp (disch := first | assumption | (apply Ap.symm; assumption) | omega | decide | (simp only [Xd] <;> omega)) only [len_Sx, hjl, ↓Xa, Xb, Xc, ↓reduceIte, Nat.reduceLT, Nat.reduceEqDiff, Nat.reduceBEq, Nat.reduceLeDiff, Nat.reduceAdd, Nat.reduceMul]
            refine (wrong4_fn (n := l.length)).call ?_
            simp (disch := first | assumption | (apply Ap.symm; assumption) | omega | decide | (simp only [Xd] <;> omega)) only [m2, cells_spot, rs85, ↓Xa, Xb, Xc, ↓reduceIte, Nat.reduceLT, Nat.reduceEqDiff, Nat.reduceBEq, Nat.reduceLeDiff, Nat.reduceAdd, Nat.reduceMul]
            rw [hjl] at hq'
            exact SetR.dropTo (hlH2.updB n1) (SetR.now hq')
          rw [if_neg hjl] at hq'
          have hjl2 : a + (segP l a).length < l.length := by omega
          by_cases h32 : (l.getD (a + (segP l a).length) 0).toNat = 32
          · simp (disch := first | assumption | (apply Ap.symm; assumption) | omega | decide | (simp only [Xd] <;> omega)) only [len_Sx, hjl, hjl2, idx_Sx, h32, ↓Xa, Xb, Xc, ↓reduceIte, Nat.reduceLT, Nat.reduceEqDiff, Nat.reduceBEq, Nat.reduceLeDiff, Nat.reduceAdd, Nat.reduceMul]
            refine Settle.dropTo hl4 (Settle.keep [0, 3, 4, 5, 6] (hcont (f, a + (segP l a).length + 1, out ++ [iVal (segP l a)], y', M3) (by dsimp only; omega) ⟨h65, by dsimp only; omega, by dsimp only; omega, by simp; omega, ?_, by dsimp only; rw [hll]; exact hg4⟩))
            dsimp only
            rw [← hR]
            conv => rhs; unfold rdF
            rw [if_neg hb, if_neg hcap, if_neg hjl, if_pos h32]
          rw [if_neg h32] at hq'
          by_cases h93 : (l.getD (a + (segP l a).length) 0).toNat ≠ 93
          · rw [if_pos h93] at hq'
            have e5 : decide (((((l.getD (a + (segP l a).length) 0).toNat : Nat) : Int)) = ((93 : Nat) : Int)) = false := decide_eq_false (by omega)
            simp (disch := first | assumption | (apply Ap.symm; assumption) | omega | decide | (simp only [Xd] <;> omega)) only [len_Sx, hjl, hjl2, idx_Sx, h32, neq_int, e5, ↓Xa, Xb, Xc, ↓reduceIte, Nat.reduceLT, Nat.reduceEqDiff, Nat.reduceBEq, Nat.reduceLeDiff, Nat.reduceAdd, Nat.reduceMul]
            refine (wrong4_fn (n := a + (segP l a).length)).call ?_
            simp (disch := first | assumption | (apply Ap.symm; assumption) | omega | decide | (simp only [Xd] <;> omega)) only [m2, cells_spot, rs85, ↓Xa, Xb, Xc, ↓reduceIte, Nat.reduceLT, Nat.reduceEqDiff, Nat.reduceBEq, Nat.reduceLeDiff, Nat.reduceAdd, Nat.reduceMul]
            exact SetR.dropTo (hlH2.updB n1) (SetR.now hq')
          rw [if_neg h93] at hq'
          have e5 : decide (((((l.getD (a + (segP l a).length) 0).toNat : Nat) : Int)) = ((93 : Nat) : Int)) = true := decide_eq_true (by omega)
          by_cases h6 : a + (segP l a).length + 1 < l.length
          · rw [if_pos h6] at hq'
            simp (disch := first | assumption | (apply Ap.symm; assumption) | omega | decide | (simp only [Xd] <;> omega)) only [len_Sx, hjl, hjl2, idx_Sx, h32, neq_int, e5, h6, ↓Xa, Xb, Xc, ↓reduceIte, Nat.reduceLT, Nat.reduceEqDiff, Nat.reduceBEq, Nat.reduceLeDiff, Nat.reduceAdd, Nat.reduceMul]
            refine (wrong4_fn (n := a + (segP l a).length + 1)).call ?_
            simp (disch := first | assumption | (apply Ap.symm; assumption) | omega | decide | (simp only [Xd] <;> omega)) only [m2, cells_spot, rs85, ↓Xa, Xb, Xc, ↓reduceIte, Nat.reduceLT, Nat.reduceEqDiff, Nat.reduceBEq, Nat.reduceLeDiff, Nat.reduceAdd, Nat.reduceMul]
            exact SetR.dropTo (hlH2.updB n1) (SetR.now hq')
          · rw [if_neg h6] at hq'
            simp (disch := first | assumption | (apply Ap.symm; assumption) | omega | decide | (simp only [Xd] <;> omega)) only [len_Sx, hjl, hjl2, idx_Sx, h32, neq_int, e5, h6, sp, m2, cells_spot, rs85, ↓Xa, Xb, Xc, ↓reduceIte, Nat.reduceLT, Nat.reduceEqDiff, Nat.reduceBEq, Nat.reduceLeDiff, Nat.reduceAdd, Nat.reduceMul]
            obtain ⟨H1, hg5, hl5⟩ := growC_move (M := M2.upd p1 (some (.row 105 0 [.int .i64 ((0 : Nat) : Int), .int .i64 ((0 : Nat) : Int)]))) hg3 fun b hb _ => upd_other _ _ (by rintro rfl; rw [hle2 _ _ (upd_same _ _ _)] at hb; cases hb)
            obtain ⟨M4, hg6, hl6⟩ := growC_le2 hg5 (hl5 H (hlH2.updB n1) fun b hb => by
              have h1 := (upd_none.1 (upd_none.1 hb).2).2
              exact (upd_none.1 h1).2)
            refine SetR.dropTo hl6 (growC_finS hg6 ?_)
            rw [← hll]
            exact hq'
  · intro hb
    by_cases h65 : 65536 < l.length
    · have e : readR l = .long 65536 := by unfold readR; rw [if_pos h65]
      rw [e] at hq
      simp (disch := first | assumption | (apply Ap.symm; assumption) | omega | decide | (simp only [Xd] <;> omega)) only [len_Sx, h65, sp, cells_spot, rs85, ↓Xa, Xb, Xc, ↓reduceIte, Nat.reduceLT, Nat.reduceEqDiff, Nat.reduceBEq, Nat.reduceLeDiff, Nat.reduceAdd, Nat.reduceMul]
      exact SetR.dropTo ((Le.refl H).updB n1) (SetR.now hq)
    by_cases h91 : (l.getD 0 0).toNat ≠ 91
    · have e : readR l = .bad 0 := by unfold readR; rw [if_neg h65, if_pos h91]
      rw [e] at hq
      by_cases hn : l = []
      · simp (disch := first | assumption | (apply Ap.symm; assumption) | omega | decide | (simp only [Xd] <;> omega)) only [len_Sx, h65, s0, eql_Sx, decide_eq_true hn, ↓Xa, Xb, Xc, ↓reduceIte, Nat.reduceLT, Nat.reduceEqDiff, Nat.reduceBEq, Nat.reduceLeDiff, Nat.reduceAdd, Nat.reduceMul]
        refine (wrong4_fn (n := 0)).call ?_
        simp (disch := first | assumption | (apply Ap.symm; assumption) | omega | decide | (simp only [Xd] <;> omega)) only [cells_spot, rs85, ↓Xa, Xb, Xc, ↓reduceIte, Nat.reduceLT, Nat.reduceEqDiff, Nat.reduceBEq, Nat.reduceLeDiff, Nat.reduceAdd, Nat.reduceMul]
        exact SetR.dropTo ((Le.refl H).updB n1) (SetR.now hq)
      · have hp : 0 < l.length := List.length_pos_iff.2 hn
        have d1 : decide (((((l.getD 0 0).toNat : Nat) : Int)) = ((91 : Nat) : Int)) = false := decide_eq_false (by omega)
        simp (disch := first | assumption | (apply Ap.symm; assumption) | omega | decide | (simp only [Xd] <;> omega)) only [len_Sx, h65, s0, eql_Sx, decide_eq_false hn, hp, idx_Sx, neq_int, d1, ↓Xa, Xb, Xc, ↓reduceIte, Nat.reduceLT, Nat.reduceEqDiff, Nat.reduceBEq, Nat.reduceLeDiff, Nat.reduceAdd, Nat.reduceMul]
        refine (wrong4_fn (n := 0)).call ?_
        simp (disch := first | assumption | (apply Ap.symm; assumption) | omega | decide | (simp only [Xd] <;> omega)) only [cells_spot, rs85, ↓Xa, Xb, Xc, ↓reduceIte, Nat.reduceLT, Nat.reduceEqDiff, Nat.reduceBEq, Nat.reduceLeDiff, Nat.reduceAdd, Nat.reduceMul]
        exact SetR.dropTo ((Le.refl H).updB n1) (SetR.now hq)
    have h91' : (l.getD 0 0).toNat = 91 := Classical.not_not.1 h91
    have hn : l ≠ [] := fun h => by subst h; exact absurd h91' (by decide)
    have hp : 0 < l.length := List.length_pos_iff.2 hn
    have d1 : decide (((((l.getD 0 0).toNat : Nat) : Int)) = ((91 : Nat) : Int)) = true := decide_eq_true (by omega)
    by_cases h2 : l = [91, 93]
    · have e : readR l = .ok [] := by unfold readR; rw [if_neg h65, if_neg h91, if_pos h2]
      rw [e] at hq
      simp (disch := first | assumption | (apply Ap.symm; assumption) | omega | decide | (simp only [Xd] <;> omega)) only [len_Sx, h65, s0, s2, eql_Sx, decide_eq_false hn, decide_eq_true h2, hp, idx_Sx, neq_int, d1, sp, cells_spot, rs85, ↓Xa, Xb, Xc, ↓reduceIte, Nat.reduceLT, Nat.reduceEqDiff, Nat.reduceBEq, Nat.reduceLeDiff, Nat.reduceAdd, Nat.reduceMul]
      exact SetR.dropTo ((Le.refl H).updB n1) (SetR.loose (SetR.now hq))
    have hpf := hasp_fn (l := l) (m := [91, 93]) (by omega)
    have hl2 : ([91, 93] : List UInt8).length = 2 := rfl
    rw [hl2] at hpf
    by_cases h3 : l.take 2 = [91, 93]
    · have e : readR l = .bad 2 := by unfold readR; rw [if_neg h65, if_neg h91, if_neg h2, if_pos h3]
      rw [e] at hq
      simp (disch := first | assumption | (apply Ap.symm; assumption) | omega | decide | (simp only [Xd] <;> omega)) only [len_Sx, h65, s0, s2, eql_Sx, decide_eq_false hn, decide_eq_false h2, hp, idx_Sx, neq_int, d1, ↓Xa, Xb, Xc, ↓reduceIte, Nat.reduceLT, Nat.reduceEqDiff, Nat.reduceBEq, Nat.reduceLeDiff, Nat.reduceAdd, Nat.reduceMul]
      refine hpf.call ?_
      simp (disch := first | assumption | (apply Ap.symm; assumption) | omega | decide | (simp only [Xd] <;> omega)) only [decide_eq_true h3, ↓Xa, Xb, Xc, ↓reduceIte, Nat.reduceLT, Nat.reduceEqDiff, Nat.reduceBEq, Nat.reduceLeDiff, Nat.reduceAdd, Nat.reduceMul]
      refine (wrong4_fn (n := 2)).call ?_
      simp (disch := first | assumption | (apply Ap.symm; assumption) | omega | decide | (simp only [Xd] <;> omega)) only [cells_spot, rs85, ↓Xa, Xb, Xc, ↓reduceIte, Nat.reduceLT, Nat.reduceEqDiff, Nat.reduceBEq, Nat.reduceLeDiff, Nat.reduceAdd, Nat.reduceMul]
      exact SetR.dropTo ((Le.refl H).updB n1) (SetR.now hq)
    · have e : readR l = rdF l (l.length + 1) 1 [] := by unfold readR; rw [if_neg h65, if_neg h91, if_neg h2, if_neg h3]
      have hb0 := hb (l.length + 1, 1, [], .seq 0 [] true, _) ⟨by omega, by dsimp only; omega, by dsimp only; omega, by simp, e.symm, growC_nil⟩
      simp (disch := first | assumption | (apply Ap.symm; assumption) | omega | decide | (simp only [Xd] <;> omega)) only [↓Xa, Xb, Xc, ↓reduceIte, Nat.reduceLT, Nat.reduceEqDiff, Nat.reduceBEq, Nat.reduceLeDiff, Nat.reduceAdd, Nat.reduceMul] at hb0
      simp (disch := first | assumption | (apply Ap.symm; assumption) | omega | decide | (simp only [Xd] <;> omega)) only [len_Sx, h65, s0, s2, eql_Sx, decide_eq_false hn, decide_eq_false h2, hp, idx_Sx, neq_int, d1, ↓Xa, Xb, Xc, ↓reduceIte, Nat.reduceLT, Nat.reduceEqDiff, Nat.reduceBEq, Nat.reduceLeDiff, Nat.reduceAdd, Nat.reduceMul]
      refine hpf.call ?_
      simp (disch := first | assumption | (apply Ap.symm; assumption) | omega | decide | (simp only [Xd] <;> omega)) only [decide_eq_false h3, ↓Xa, Xb, Xc, ↓reduceIte, Nat.reduceLT, Nat.reduceEqDiff, Nat.reduceBEq, Nat.reduceLeDiff, Nat.reduceAdd, Nat.reduceMul]
      exact hb0
end Go.Proofs.YtanchgkiomfhhaaDoor.Fw

/- Rows read: the reference's way is the program's; a row's text is read as it; what is read has its text. -/
namespace Go.Proofs.YtanchgkiomfhhaaDoor.Fw
set_option linter.unusedSimpArgs false
set_option linter.unusedVariables false
open Go Go.Proofs.YtanchgkiomfhhaaDoor.Ma

noncomputable def rrF (l : List UInt8) : Nat → Nat → List Int → Res
  | 0, a, _ => .bad a
  | f + 1, a, out =>
    if posP (segR l a) = iFrom (segR l a) ∨ posP (segR l a) < (segR l a).length then .bad (a + posP (segR l a))
    else if a + (segR l a).length = l.length then .bad (a + (segR l a).length)
    else if (l.getD (a + (segR l a).length) 0).toNat = 93 then
      if a + (segR l a).length + 1 < l.length then .bad (a + (segR l a).length + 1) else .ok (out ++ [iVal (segR l a)])
    else rrF l f (a + (segR l a).length + 1) (out ++ [iVal (segR l a)])
noncomputable def readRR (l : List UInt8) : Res :=
  if (l.getD 0 0).toNat ≠ 91 then .bad 0 else if l.take 2 = [91, 93] then (if 2 < l.length then .bad 2 else .ok []) else rrF l (l.length + 1) 1 []
theorem getD_app_l {s t : List UInt8} {i : Nat} (h : i < s.length) : (s ++ t).getD i 0 = s.getD i 0 := by
  rw [List.getD_eq_getElem?_getD, List.getElem?_append_left h, List.getD_eq_getElem?_getD]
theorem getD_app_c {s t : List UInt8} {c : UInt8} : (s ++ c :: t).getD s.length 0 = c := by
  rw [List.getD_eq_getElem?_getD, List.getElem?_append_right (Nat.le_refl _)]; simp
end Go.Proofs.YtanchgkiomfhhaaDoor.Fw

/- The row laws' own helpers: an answer that is fixed, rows that are too long, a row in both, one number in both, rows in both. -/
namespace Go.Proofs.YtanchgkiomfhhaaDoor.Fw
set_option linter.unusedSimpArgs false
set_option linter.unusedVariables false
open Go Go.Proofs.YtanchgkiomfhhaaDoor.Ma
set_option maxRecDepth 20000

theorem repL2 {a : AV} : repA [a] 2 = [a, a] := by simp [repA, List.range, List.range.loop]
theorem live4_t : rowT [4, -2] = [91, 52, 32, 45, 50, 93] := by simp [rowT, joinT, iText, decT, dec, digs, chr]
theorem live4_fn : PFn Tryd.prog 32 [] (.bool true) := by
  intro H Q hq
  obtain ⟨L1, e1, of1⟩ : ∃ L1, L1 = RowA [1, 2] false ∧ PFn Tryd.prog 54 [.seq 2 [.int .i64 ((1 : Nat) : Int), .int .i64 ((2 : Nat) : Int)] true] L1 := ⟨_, rfl, rowof_fn (l := [1, 2]) (by simp) (by simp)⟩
  obtain ⟨L2, e2, of2⟩ : ∃ L2, L2 = RowA [3, -4] false ∧ PFn Tryd.prog 54 [.seq 2 [.int .i64 ((3 : Nat) : Int), .int .i64 (-4)] true] L2 := ⟨_, rfl, rowof_fn (l := [3, -4]) (by simp) (by simp)⟩
  have b1 : RB4 2 [1, 2] := ⟨fun z h => Bd.i64 (by simp at h; omega), by simp⟩
  have b2 : RB4 2 [3, -4] := ⟨fun z h => Bd.i64 (by simp at h; omega), by simp⟩
  have b3 : RB4 2 [4, -2] := ⟨fun z h => Bd.i64 (by simp at h; omega), by simp⟩
  obtain ⟨L3, e3, add⟩ : ∃ L3, L3 = RowA [4, -2] false ∧ PFn Tryd.prog 37 [L1, L2] (.tup [L3, .int .i64 ((0 : Nat) : Int)]) := ⟨_, rfl, by
    rw [e1, e2]
    exact PFn.frozen1 fun H Q hq => rowadd_run b1 b2 (by omega) rfl (by simp) hq⟩
  have tx := rowt_fn (t := false) b3 (by omega) (by simp)
  rw [← e3, live4_t] at tx
  have s1 : AV.str ⟨#[91, 52, 32, 45, 50, 93]⟩ = Sx [91, 52, 32, 45, 50, 93] := rfl
  refine enter32 (by simp) ?_
  simp (disch := first | assumption | (apply Ap.symm; assumption) | omega | decide | (simp only [Xd] <;> omega)) only [ac32, repL2, ↓Xa, Xb, Xc, ↓reduceIte, Nat.reduceLT, Nat.reduceEqDiff, Nat.reduceBEq, Nat.reduceLeDiff, Nat.reduceAdd, Nat.reduceMul]
  refine of1.call ?_
  simp (disch := first | assumption | (apply Ap.symm; assumption) | omega | decide | (simp only [Xd] <;> omega)) only [repL2, ↓Xa, Xb, Xc, ↓reduceIte, Nat.reduceLT, Nat.reduceEqDiff, Nat.reduceBEq, Nat.reduceLeDiff, Nat.reduceAdd, Nat.reduceMul]
  refine of2.call ?_
  simp (disch := first | assumption | (apply Ap.symm; assumption) | omega | decide | (simp only [Xd] <;> omega)) only [↓Xa, Xb, Xc, ↓reduceIte, Nat.reduceLT, Nat.reduceEqDiff, Nat.reduceBEq, Nat.reduceLeDiff, Nat.reduceAdd, Nat.reduceMul]
  refine add.call ?_
  simp (disch := first | assumption | (apply Ap.symm; assumption) | omega | decide | (simp only [Xd] <;> omega)) only [eql_self, ↓Xa, Xb, Xc, ↓reduceIte, Nat.reduceLT, Nat.reduceEqDiff, Nat.reduceBEq, Nat.reduceLeDiff, Nat.reduceAdd, Nat.reduceMul]
  refine tx.call ?_
  simp (disch := first | assumption | (apply Ap.symm; assumption) | omega | decide | (simp only [Xd] <;> omega)) only [s1, eql_Sx, rs32, ↓Xa, Xb, Xc, ↓reduceIte, Nat.reduceLT, Nat.reduceEqDiff, Nat.reduceBEq, Nat.reduceLeDiff, Nat.reduceAdd, Nat.reduceMul]
  exact SetR.now hq

/-! ### too long -/
def sumN : List Nat → Nat
  | [] => 0
  | a :: l => a + sumN l
section
variable {K : AV → Prop} {H : AHeap} {k : IntKind} {t : Bool} {l : List NumV} {i : Nat}
end
def numT (l : List NumV) : Nat := l.length + sumN (l.map fun q => q.2.1.length)
abbrev rowN (x : List NumV × Bool) : AV := .seq x.1.length (NumsC x.1) x.2
end Go.Proofs.YtanchgkiomfhhaaDoor.Fw

/- Rows read: a row's text is read as it; what is read has its text. -/
namespace Go.Proofs.YtanchgkiomfhhaaDoor.Fw
set_option linter.unusedSimpArgs false
set_option linter.unusedVariables false
open Go Go.Proofs.YtanchgkiomfhhaaDoor.Ma

theorem nc_iText (x : Int) : ∀ c, c ∈ iText x → isNC c = true := fun c hc => by
  refine decide_eq_true ?_
  rcases List.mem_append.1 hc with h | h
  · split at h
    · rw [List.mem_singleton.1 h]; exact .inl rfl
    · simp at h
  · exact .inr ((good_decT x.natAbs).2.1 c h)
theorem tw_stop {p : UInt8 → Bool} : ∀ {s : List UInt8} {c : UInt8} {t : List UInt8}, (∀ x, x ∈ s → p x = true) → p c = false → (s ++ c :: t).takeWhile p = s
  | [], c, t, _, h => by rw [List.nil_append, List.takeWhile_cons_of_neg (by simp [h])]
  | x :: s, c, t, hs, h => by
    rw [List.cons_append, List.takeWhile_cons_of_pos (hs x (by simp)), tw_stop (fun y hy => hs y (by simp [hy])) h]
theorem drop_get {l s t : List UInt8} {c : UInt8} {a : Nat} (h : l.drop a = s ++ c :: t) : l.getD (a + s.length) 0 = c ∧ l.drop (a + s.length + 1) = t ∧ a + s.length < l.length ∧ (t = [] ↔ ¬ a + s.length + 1 < l.length) := by
  have h1 := congrArg List.length h
  simp only [List.length_drop, List.length_append, List.length_cons] at h1
  refine ⟨?_, ?_, by omega, ?_⟩
  · have : (l.drop a).getD s.length 0 = c := by rw [h]; exact getD_app_c
    rw [← this]; simp [List.getD_eq_getElem?_getD]
  · have := congrArg (List.drop (s.length + 1)) h
    rw [List.drop_drop] at this
    rw [Nat.add_assoc, this, List.drop_append]
    simp
  · constructor
    · rintro rfl; simp at h1; omega
    · intro h2
      exact List.length_eq_zero_iff.1 (by omega)
theorem rdF_text (l : List UInt8) : ∀ (zs : List Int) f a out, zs ≠ [] → zs.length ≤ f → l.drop a = joinT (zs.map iText) ++ [93] →
    rdF l f a out = if out.length + zs.length ≤ 4096 then .ok (out ++ zs) else if out.length ≤ 4096 then .long (a + sumN ((zs.take (4096 - out.length)).map fun z => (iText z).length + 1)) else rdF l f a out
  | [], _, _, _, h, _, _ => absurd rfl h
  | _ :: _, 0, _, _, _, hf, _ => by simp at hf
  | z :: r, f + 1, a, out, _, hf, hd => by
    obtain ⟨i1, i2, i3⟩ := iText_at z
    -- what stands behind the number
    obtain ⟨c, t, ht, hcd⟩ : ∃ c t, l.drop a = iText z ++ c :: t ∧ ((r = [] ∧ c = 93 ∧ t = []) ∨ (r ≠ [] ∧ c = 32 ∧ t = joinT (r.map iText) ++ [93])) := by
      cases r with
      | nil => exact ⟨93, [], by rw [hd]; rfl, .inl ⟨rfl, rfl, rfl⟩⟩
      | cons y r => exact ⟨32, joinT ((y :: r).map iText) ++ [93], by rw [hd]; simp [joinT], .inr ⟨by simp, rfl, rfl⟩⟩
    have hnc : isNC c = false := by rcases hcd with ⟨_, rfl, _⟩ | ⟨_, rfl, _⟩ <;> decide
    have hseg : segP l a = iText z := by unfold segP; rw [ht]; exact tw_stop (nc_iText z) hnc
    have hpos : posP (iText z) = (iText z).length := posP_of i1
    obtain ⟨g1, g2, g3, g4⟩ := drop_get ht
    by_cases h1 : out.length = 4096
    · rw [if_neg (by simp only [List.length_cons]; omega), if_pos (by omega), h1]
      conv => lhs; unfold rdF
      rw [hseg, hpos, if_neg (by omega), if_pos h1]
      simp [sumN]
    by_cases h2 : out.length ≤ 4096
    rotate_left
    · rw [if_neg (by simp only [List.length_cons]; omega), if_neg h2]
    rcases hcd with ⟨rfl, rfl, rfl⟩ | ⟨hr, rfl, rfl⟩
    · rw [if_pos (by simp only [List.length_cons, List.length_nil]; omega)]
      conv => lhs; unfold rdF
      have := g4.1 rfl
      rw [hseg, hpos, if_neg (by omega), if_neg h1, if_neg (by omega), g1, if_neg (by decide), if_neg (by decide), if_neg this, i3]
    · conv => lhs; unfold rdF
      rw [hseg, hpos, if_neg (by omega), if_neg h1, if_neg (by omega), g1, if_pos (by decide), i3]
      have ih := rdF_text l r f (a + (iText z).length + 1) (out ++ [z]) hr (by simpa using hf) g2
      have hlen : (out ++ [z]).length = out.length + 1 := by simp
      by_cases h3 : out.length + (z :: r).length ≤ 4096
      · rw [if_pos h3]
        rw [if_pos (by rw [hlen]; simp only [List.length_cons] at h3; omega)] at ih
        rw [ih]; simp
      · rw [if_neg h3, if_pos h2]
        rw [if_neg (by rw [hlen]; simp only [List.length_cons] at h3; omega), if_pos (by rw [hlen]; omega)] at ih
        rw [ih, hlen, show 4096 - out.length = (4096 - (out.length + 1)) + 1 by omega, List.take_succ_cons, List.map_cons, sumN]
        congr 1; omega
theorem rowT_hd (zs : List Int) : (rowT zs).getD 0 0 = 91 := rfl
theorem joinT_hd {xs : List (List UInt8)} (h0 : xs ≠ []) (h : ∀ x, x ∈ xs → x ≠ [] ∧ x.getD 0 0 ≠ 93) : (joinT xs ++ [93]).getD 0 0 ≠ 93 := by
  cases xs with
  | nil => exact absurd rfl h0
  | cons x r =>
    obtain ⟨h1, h2⟩ := h x (by simp)
    have h3 := List.length_pos_iff.2 h1
    cases r with
    | nil => simp only [joinT]; rw [getD_app_l h3]; exact h2
    | cons y r => simp only [joinT, List.append_assoc, List.cons_append]; rw [getD_app_l h3]; exact h2
theorem iText_hd (z : Int) : iText z ≠ [] ∧ (iText z).getD 0 0 ≠ 93 := by
  have hne : iText z ≠ [] := fun h => by
    have hg := (good_decT z.natAbs).1
    unfold iText at h
    exact hg (List.append_eq_nil_iff.1 h).2
  refine ⟨hne, fun h => ?_⟩
  cases hx : iText z with
  | nil => exact hne hx
  | cons c t =>
    have := nc_iText z c (by rw [hx]; simp)
    rw [hx] at h
    have h : c = 93 := h
    subst h
    revert this; decide
theorem readR_text {zs : List Int} (hlen : (rowT zs).length ≤ 65536) (hc : zs.length ≤ 4096) : readR (rowT zs) = .ok zs := by
  unfold readR
  rw [if_neg (by omega), rowT_hd, if_neg (by decide)]
  by_cases h0 : zs = []
  · subst h0; exact if_pos (rfl : rowT [] = [91, 93])
  have hj := joinT_hd (xs := zs.map iText) (by simpa using h0) fun x hx => by
    obtain ⟨z, _, rfl⟩ := List.mem_map.1 hx
    exact iText_hd z
  have h2 : (rowT zs).take 2 ≠ [91, 93] := fun h => by
    have h3 := congrArg (fun l => l.getD 1 0) h
    have h4 : ((rowT zs).take 2).getD 1 0 = (joinT (zs.map iText) ++ [93]).getD 0 0 := by
      rw [List.getD_eq_getElem?_getD, List.getElem?_take_of_lt (by omega), List.getD_eq_getElem?_getD]; rfl
    rw [h4] at h3
    exact hj h3
  have h1 : rowT zs ≠ [91, 93] := fun h => h2 (by rw [h]; rfl)
  rw [if_neg h1, if_neg h2]
  have hle : zs.length ≤ (rowT zs).length := by
    have : ∀ xs : List (List UInt8), xs.length ≤ (joinT xs).length + 1 := fun xs => by
      induction xs with
      | nil => simp
      | cons x r ih =>
        cases r with
        | nil => simp
        | cons y r => simp only [joinT, List.length_cons, List.length_append] at ih ⊢; omega
    have := this (zs.map iText)
    simp only [rowT, List.length_append, List.length_cons, List.length_map] at this ⊢; omega
  rw [rdF_text (rowT zs) zs _ 1 [] h0 (by omega) rfl, if_pos (by simpa using hc)]; rfl
end Go.Proofs.YtanchgkiomfhhaaDoor.Fw

/- The row laws' own helpers: a row in both, one number in both, rows in both; the law that holds rows against each other. -/
namespace Go.Proofs.YtanchgkiomfhhaaDoor.Fw
set_option linter.unusedSimpArgs false
set_option linter.unusedVariables false
open Go Go.Proofs.YtanchgkiomfhhaaDoor.Ma
set_option maxRecDepth 20000

def numZ (q : NumV) : Int := sg q.1 (val 4294967296 q.2.1)
def rowZ (l : List NumV) : List Int := l.map numZ
end Go.Proofs.YtanchgkiomfhhaaDoor.Fw

/- Rows of whole numbers read of a text: what the reference answers. -/
namespace Go.Proofs.YtanchgkiomfhhaaDoor.Fw
set_option linter.unusedSimpArgs false
set_option linter.unusedVariables false
open Go Go.Proofs.YtanchgkiomfhhaaDoor.Ma
set_option maxRecDepth 20000

def rrA : Res → AV
  | .ok zs => .tup [RefR zs false, .int .i64 (-1)]
  | .bad n => .tup [.seq 0 [] true, .int .i64 (n : Int)]
  | .long n => .tup [.seq 0 [] true, .int .i64 (n : Int)]
end Go.Proofs.YtanchgkiomfhhaaDoor.Fw

/- The laws of rows' texts, told and read: true. -/
namespace Go.Proofs.YtanchgkiomfhhaaDoor.Fw
set_option linter.unusedSimpArgs false
set_option linter.unusedVariables false
open Go Go.Proofs.YtanchgkiomfhhaaDoor.Ma
set_option maxRecDepth 20000

end Go.Proofs.YtanchgkiomfhhaaDoor.Fw

/- The law of rows' names: true. -/
namespace Go.Proofs.YtanchgkiomfhhaaDoor.Fw
set_option linter.unusedSimpArgs false
set_option linter.unusedVariables false
open Go Go.Proofs.YtanchgkiomfhhaaDoor.Ma
set_option maxRecDepth 20000

def patB (n : Nat) : List UInt8 := (List.replicate n [49, 32]).flatten
theorem patB_snoc (n : Nat) : patB (n + 1) = patB n ++ [49, 32] := by simp [patB, List.replicate_succ']
theorem patB_len (n : Nat) : (patB n).length = 2 * n := by
  induction n with
  | zero => rfl
  | succ n ih => rw [patB_snoc, List.length_append, ih]; simp; omega
def onesZ (n : Nat) : List Int := List.replicate n 1
theorem onesZ_len (n : Nat) : (onesZ n).length = n := by simp [onesZ]
theorem iText_one : iText 1 = [49] := by
  have h := decT_decV (l := [49]) ⟨by simp, by simp [isDig], by simp⟩
  exact h
theorem join_ones (n : Nat) : joinT ((onesZ (n + 1)).map iText) = patB n ++ [49] := by
  induction n with
  | zero => simp [onesZ, joinT, iText_one, patB]
  | succ n ih =>
    have e : onesZ (n + 1 + 1) = onesZ (n + 1) ++ [1] := by simp only [onesZ]; rw [List.replicate_succ']
    rw [e, List.map_append, List.map_singleton, joinT_snoc, ih, if_neg (by simp [onesZ]), patB_snoc]
    simp [iText_one]
theorem ones_set (n : Nat) : (91 :: patB (n + 1)).set (2 * n + 2) 93 = rowT (onesZ (n + 1)) := by
  unfold rowT
  rw [join_ones, patB_snoc, List.set_cons_succ, List.set_append_right _ _ (by rw [patB_len]; omega), patB_len, show 2 * n + 1 - 2 * n = 1 by omega]
  simp
theorem ones_back (n : Nat) : (rowT (onesZ (n + 1))).set (2 * n + 2) 32 = 91 :: patB (n + 1) := by
  rw [← ones_set, List.set_set, List.set_cons_succ, patB_snoc, List.set_append_right _ _ (by rw [patB_len]; omega), patB_len, show 2 * n + 1 - 2 * n = 1 by omega]
  simp
theorem ones_more (n : Nat) : 91 :: patB n ++ [49, 93] = rowT (onesZ (n + 1)) := by
  unfold rowT; rw [join_ones]; simp
theorem ones_len (n : Nat) : (rowT (onesZ (n + 1))).length = 2 * n + 3 := by
  rw [← ones_more]; simp [patB_len]
theorem readR_many {zs : List Int} (hlen : (rowT zs).length ≤ 65536) (hc : 4096 < zs.length) : readR (rowT zs) = .long (1 + sumN ((zs.take 4096).map fun z => (iText z).length + 1)) := by
  have h0 : zs ≠ [] := by rintro rfl; simp at hc
  unfold readR
  rw [if_neg (by omega), rowT_hd, if_neg (by decide)]
  have hj := joinT_hd (xs := zs.map iText) (by simpa using h0) fun x hx => by
    obtain ⟨z, _, rfl⟩ := List.mem_map.1 hx
    exact iText_hd z
  have h2 : (rowT zs).take 2 ≠ [91, 93] := fun h => by
    have h3 := congrArg (fun l => l.getD 1 0) h
    have h4 : ((rowT zs).take 2).getD 1 0 = (joinT (zs.map iText) ++ [93]).getD 0 0 := by
      rw [List.getD_eq_getElem?_getD, List.getElem?_take_of_lt (by omega), List.getD_eq_getElem?_getD]; rfl
    rw [h4] at h3
    exact hj h3
  have h1 : rowT zs ≠ [91, 93] := fun h => h2 (by rw [h]; rfl)
  rw [if_neg h1, if_neg h2]
  have hle : zs.length ≤ (rowT zs).length := by
    have : ∀ xs : List (List UInt8), xs.length ≤ (joinT xs).length + 1 := fun xs => by
      induction xs with
      | nil => simp
      | cons x r ih =>
        cases r with
        | nil => simp
        | cons y r => simp only [joinT, List.length_cons, List.length_append] at ih ⊢; omega
    have := this (zs.map iText)
    simp only [rowT, List.length_append, List.length_cons, List.length_map] at this ⊢; omega
  rw [rdF_text (rowT zs) zs _ 1 [] h0 (by omega) rfl, if_neg (by simp only [List.length_nil]; omega), if_pos (by simp)]; rfl
theorem sum_ones (n : Nat) : sumN ((onesZ n).map fun z => (iText z).length + 1) = 2 * n := by
  induction n with
  | zero => rfl
  | succ n ih =>
    have e : onesZ (n + 1) = 1 :: onesZ n := by simp only [onesZ]; rw [List.replicate_succ]
    rw [e, List.map_cons, sumN, ih, iText_one]; simp; omega
theorem readR_ones {n : Nat} (h : n = 4096) : readR (rowT (onesZ (n + 1))) = .long (2 * n + 1) := by
  rw [readR_many (by rw [ones_len]; omega) (by rw [onesZ_len]; omega)]
  have e : (onesZ (n + 1)).take 4096 = onesZ n := by
    unfold onesZ
    rw [List.take_replicate]; congr 1; omega
  rw [e, sum_ones]; congr 1; omega
def zerosB (n : Nat) : List UInt8 := List.replicate n 0
theorem zerosB_len (n : Nat) : (zerosB n).length = n := by simp [zerosB]
theorem mks_B {H : AHeap} {ty n : Nat} {K : AV → AHeap → Prop} (h : n ≤ 100000) : mksW H ty 1 1 [.int .u8 ((0 : Nat) : Int)] (.int .i64 (n : Int)) (.int .i64 (n : Int)) K ↔ ∀ b, H b = none → K (.own b n 0 n true) (H.upd b (some (.row ty 1 (Bt (zerosB n))))) := by
  have h1 : (n : Int) ≤ 281474976710656 := by omega
  have h2 : (n : Int) < 9223372036854775808 := by omega
  have e : repA [.int .u8 ((0 : Nat) : Int)] n = Bt (zerosB n) := by rw [repA_one]; simp [Bt, zerosB]
  simp [mksW, h1, h2, ← e]
theorem b2s_r {L ty : Nat} {l : List UInt8} {K : AV → Prop} (hn : L = l.length) (h : K (Sx l)) : rowP L (fun _ es cells => es = 1 ∧ strK K (bytesOf (cells.take L))) (some (.row ty 1 (Bt l))) := by
  subst hn
  rw [rowP_k Bt_len, List.take_of_length_le (by rw [Bt_len]; omega), strK_Bt]
  exact ⟨rfl, h⟩
theorem b2s_k {L : Nat} {l : List UInt8} {K : AV → Prop} (hn : L = l.length) (h : K (Sx l)) : strK K (bytesOf ((Bt l).take L)) := by
  subst hn
  rw [List.take_of_length_le (by rw [Bt_len]; omega), strK_Bt]
  exact h
theorem rowNames_law : PFn Tryd.prog 9 [] (.bool true) := by
  intro H Q hq
  refine enter9 (by simp) ?_
  simp (disch := first | assumption | (apply Ap.symm; assumption) | omega | decide | (simp only [Xd] <;> omega)) only [ac9, ↓Xa, Xb, Xc, ↓reduceIte, Nat.reduceLT, Nat.reduceEqDiff, Nat.reduceBEq, Nat.reduceLeDiff, Nat.reduceAdd, Nat.reduceMul]
  refine live4_fn.call ?_
  simp (disch := first | assumption | (apply Ap.symm; assumption) | omega | decide | (simp only [Xd] <;> omega)) only [↓Xa, Xb, Xc, ↓reduceIte, Nat.reduceLT, Nat.reduceEqDiff, Nat.reduceBEq, Nat.reduceLeDiff, Nat.reduceAdd, Nat.reduceMul]
  refine W_loop (fun s : Nat × AV × AHeap => ⟨[], [(1, s.2.1), (2, .int .i64 (s.1 : Int))], s.2.2⟩)
    (fun s => s.1 ≤ 4096 ∧ ((s.1 = 0 ∧ s.2.1 = .seq 1 (Bt [91]) true ∧ s.2.2 = H) ∨ growC H 5 1 (1 + 2 * s.1) (Bt (91 :: patB s.1)) s.2.1 s.2.2)) (fun s => 4096 - s.1)
    (0, .seq 1 (Bt [91]) true, H) (Settle.now rfl) ⟨by omega, .inl ⟨rfl, rfl, rfl⟩⟩ ?_
  rintro ⟨i, y, M⟩ ⟨hi, hy⟩
  dsimp only at hi hy ⊢
  by_cases hlt : i < 4096
  · simp (disch := first | assumption | (apply Ap.symm; assumption) | omega | decide | (simp only [Xd] <;> omega)) only [hlt, ↓Xa, Xb, Xc, ↓reduceIte, Nat.reduceLT, Nat.reduceEqDiff, Nat.reduceBEq, Nat.reduceLeDiff, Nat.reduceAdd, Nat.reduceMul]
    rcases hy with ⟨rfl, rfl, rfl⟩ | hg
    · refine .inl ⟨rfl, rfl, rfl, rfl, by omega, by omega, fun e => absurd e (by omega), fun _ b hb => ?_⟩
      simp (disch := first | assumption | (apply Ap.symm; assumption) | omega | decide | (simp only [Xd] <;> omega)) only [↓Xa, Xb, Xc, ↓reduceIte, Nat.reduceLT, Nat.reduceEqDiff, Nat.reduceBEq, Nat.reduceLeDiff, Nat.reduceAdd, Nat.reduceMul]
      exact Settle.now ⟨(1, _, _), by omega, ⟨by omega, .inr (.inr ⟨by omega, rfl, b, hb, rfl, rfl⟩)⟩, rfl⟩
    · refine app_C (m := 2) hg rfl rfl (by omega) (by omega) (by omega) fun y' M' hg' => ?_
      simp (disch := first | assumption | (apply Ap.symm; assumption) | omega | decide | (simp only [Xd] <;> omega)) only [↓Xa, Xb, Xc, ↓reduceIte, Nat.reduceLT, Nat.reduceEqDiff, Nat.reduceBEq, Nat.reduceLeDiff, Nat.reduceAdd, Nat.reduceMul]
      refine Settle.now ⟨(i + 1, y', M'), by omega, ⟨by omega, .inr ?_⟩, rfl⟩
      rw [patB_snoc, show 1 + 2 * (i + 1) = 1 + 2 * i + 2 by omega]
      simpa [Bt] using hg'
  · rcases hy with ⟨h0, _⟩ | hg
    · omega
    rcases hg with ⟨h0, _⟩ | ⟨hn, hl, b, hb, rfl, rfl⟩
    · omega
    simp (disch := first | assumption | (apply Ap.symm; assumption) | omega | decide | (simp only [Xd] <;> omega)) only [hlt, ↓Xa, Xb, Xc, ↓reduceIte, Nat.reduceLT, Nat.reduceEqDiff, Nat.reduceBEq, Nat.reduceLeDiff, Nat.reduceAdd, Nat.reduceMul]
    obtain ⟨m, rfl⟩ : ∃ m : Nat, i = m + 1 := ⟨i - 1, by omega⟩
    have e3 : 1 + 2 * (m + 1) = 2 * m + 3 := by omega
    have e32 : 2 * m + 3 - 1 = 2 * m + 2 := by omega
    rw [e3]
    have l0 : (91 :: patB (m + 1)).length = 2 * m + 3 := by simp [patB_len]; omega
    have l1 := ones_len m
    have hlt2 : 2 * m + 2 < 2 * m + 3 := by omega
    have hd1 := rowread_fn (l := rowT (onesZ (m + 1))) (by omega)
    rw [readR_text (by omega) (by rw [onesZ_len]; omega)] at hd1
    have hd2 := rowread_fn (l := rowT (onesZ (m + 1 + 1))) (by rw [ones_len]; omega)
    rw [readR_ones (n := m + 1) (by omega)] at hd2
    have hd3 := rowread_fn (l := zerosB 65537) (by rw [zerosB_len]; omega)
    have hr3 : readR (zerosB 65537) = .long 65536 := by
      unfold readR
      rw [zerosB_len, if_pos (by omega)]
    rw [hr3] at hd3
    refine Settle.now ?_
    simp (disch := first | assumption | (apply Ap.symm; assumption) | omega | decide | (simp only [Xd] <;> omega)) only [e32, ↓Xa, Xb, Xc, ↓reduceIte, Nat.reduceLT, Nat.reduceEqDiff, Nat.reduceBEq, Nat.reduceLeDiff, Nat.reduceAdd, Nat.reduceMul]
    rw [stP_Bt l0 hlt2 (by omega), show UInt8.ofNat 93 = 93 from rfl, ones_set]
    simp (disch := first | assumption | (apply Ap.symm; assumption) | omega | decide | (simp only [Xd] <;> omega)) only [↓Xa, Xb, Xc, ↓reduceIte, Nat.reduceLT, Nat.reduceEqDiff, Nat.reduceBEq, Nat.reduceLeDiff, Nat.reduceAdd, Nat.reduceMul]
    refine b2s_r l1.symm ?_
    simp (disch := first | assumption | (apply Ap.symm; assumption) | omega | decide | (simp only [Xd] <;> omega)) only [↓Xa, Xb, Xc, ↓reduceIte, Nat.reduceLT, Nat.reduceEqDiff, Nat.reduceBEq, Nat.reduceLeDiff, Nat.reduceAdd, Nat.reduceMul]
    refine (show PFn _ _ _ (.tup [RowA (onesZ (m + 1)) false, spot 0 0]) from hd1).call ?_
    simp (disch := first | assumption | (apply Ap.symm; assumption) | omega | decide | (simp only [Xd] <;> omega)) only [↓Xa, Xb, Xc, ↓reduceIte, Nat.reduceLT, Nat.reduceEqDiff, Nat.reduceBEq, Nat.reduceLeDiff, Nat.reduceAdd, Nat.reduceMul]
    refine alloc_i fun p1 hp1 => ?_
    obtain ⟨a1, n1⟩ := upd_none.1 hp1
    have a1' := a1.symm
    have lk0 : liveSP (2 * m + 3) (some (.row 5 1 (Bt (91 :: patB (m + 1))))) = True := liveSP_rowk (by rw [Bt_len, l0])
    have lk1 : liveSP (2 * m + 3) (some (.row 5 1 (Bt (rowT (onesZ (m + 1)))))) = True := liveSP_rowk (by rw [Bt_len, l1])
    simp (disch := first | assumption | (apply Ap.symm; assumption) | omega | decide | (simp only [Xd] <;> omega)) only [e32, cells_spot, a1, a1', lk1, ↓Xa, Xb, Xc, ↓reduceIte, Nat.reduceLT, Nat.reduceEqDiff, Nat.reduceBEq, Nat.reduceLeDiff, Nat.reduceAdd, Nat.reduceMul]
    rw [stP_Bt l1 hlt2 (by omega), show UInt8.ofNat 32 = 32 from rfl, ones_back]
    simp (disch := first | assumption | (apply Ap.symm; assumption) | omega | decide | (simp only [Xd] <;> omega)) only [a1, a1', lk0, ↓Xa, Xb, Xc, ↓reduceIte, Nat.reduceLT, Nat.reduceEqDiff, Nat.reduceBEq, Nat.reduceLeDiff, Nat.reduceAdd, Nat.reduceMul]
    refine b2s_k l0.symm ?_
    have hadd : ∀ K, binW .add (Sx (91 :: patB (m + 1))) (Sx [49, 93]) K = K (Sx (rowT (onesZ (m + 1 + 1)))) := fun K => by
      rw [add_Sx (by rw [l0]; simp; omega), ← ones_more]
    have s2 : AV.str ⟨#[49, 93]⟩ = Sx [49, 93] := rfl
    simp (disch := first | assumption | (apply Ap.symm; assumption) | omega | decide | (simp only [Xd] <;> omega)) only [s2, hadd, ↓Xa, Xb, Xc, ↓reduceIte, Nat.reduceLT, Nat.reduceEqDiff, Nat.reduceBEq, Nat.reduceLeDiff, Nat.reduceAdd, Nat.reduceMul]
    refine (show PFn _ _ _ (.tup [.seq 0 [] true, spot 3 (2 * (m + 1) + 1)]) from hd2).call ?_
    simp (disch := first | assumption | (apply Ap.symm; assumption) | omega | decide | (simp only [Xd] <;> omega)) only [↓Xa, Xb, Xc, ↓reduceIte, Nat.reduceLT, Nat.reduceEqDiff, Nat.reduceBEq, Nat.reduceLeDiff, Nat.reduceAdd, Nat.reduceMul]
    refine alloc_i fun p2 hp2 => ?_
    obtain ⟨a2, n2⟩ := upd_none.1 hp2
    simp (disch := first | assumption | (apply Ap.symm; assumption) | omega | decide | (simp only [Xd] <;> omega)) only [cells_spot, a1, a1', lk0, ↓Xa, Xb, Xc, ↓reduceIte, Nat.reduceLT, Nat.reduceEqDiff, Nat.reduceBEq, Nat.reduceLeDiff, Nat.reduceAdd, Nat.reduceMul]
    have lz : (zerosB 65537).length = 65537 := zerosB_len _
    have hbig : 65537 ≤ 100000 := by omega
    clear hr3
    generalize 65537 = N at *
    refine (mks_B hbig).2 fun b3 hb3 => ?_
    have lk3 : liveSP N (some (.row 5 1 (Bt (zerosB N)))) = True := liveSP_rowk (by rw [Bt_len, lz])
    simp (disch := first | assumption | (apply Ap.symm; assumption) | omega | decide | (simp only [Xd] <;> omega)) only [lk3, ↓Xa, Xb, Xc, ↓reduceIte, Nat.reduceLT, Nat.reduceEqDiff, Nat.reduceBEq, Nat.reduceLeDiff, Nat.reduceAdd, Nat.reduceMul]
    refine b2s_r lz.symm ?_
    simp (disch := first | assumption | (apply Ap.symm; assumption) | omega | decide | (simp only [Xd] <;> omega)) only [↓Xa, Xb, Xc, ↓reduceIte, Nat.reduceLT, Nat.reduceEqDiff, Nat.reduceBEq, Nat.reduceLeDiff, Nat.reduceAdd, Nat.reduceMul]
    refine (show PFn _ _ _ (.tup [.seq 0 [] true, spot 3 65536]) from hd3).call ?_
    simp (disch := first | assumption | (apply Ap.symm; assumption) | omega | decide | (simp only [Xd] <;> omega)) only [↓Xa, Xb, Xc, ↓reduceIte, Nat.reduceLT, Nat.reduceEqDiff, Nat.reduceBEq, Nat.reduceLeDiff, Nat.reduceAdd, Nat.reduceMul]
    refine alloc_i fun p4 hp4 => ?_
    obtain ⟨a43, a4⟩ := upd_none.1 hp4
    obtain ⟨a42, a4⟩ := upd_none.1 a4
    obtain ⟨a41, a4⟩ := upd_none.1 a4
    obtain ⟨a4b, n4⟩ := upd_none.1 a4
    obtain ⟨a32, a3⟩ := upd_none.1 hb3
    obtain ⟨a31, a3⟩ := upd_none.1 a3
    obtain ⟨a3b, n3⟩ := upd_none.1 a3
    have a21 := a2
    obtain ⟨a2b, n2'⟩ := upd_none.1 n2
    have hd : decide (m = 4095) = true := decide_eq_true (by omega)
    have e4 : 2 * (m + 1) + 1 = 2 * m + 3 := by omega
    have hl0 : ∀ K, lenW false (.seq 0 [] true) K = K (.int .i64 ((0 : Nat) : Int)) := fun K => len_rw (by omega)
    have s3 : AV.str ⟨#[91, 93]⟩ = Sx [91, 93] := rfl
    have hln : ∀ K, lenW false (RowA (onesZ (m + 1)) false) K = K (.int .i64 ((m + 1 : Nat) : Int)) := fun K => by
      rw [RowA, onesZ_len]
      simp only [lenW]
      simp
      omega
    have htx : PFn Tryd.prog 86 [.seq 0 [] true] (Sx [91, 93]) := rowt_fn (zs := []) (t := true) (k := 1) (by simp [RB4]) (by omega) (by simp)
    simp (disch := first | assumption | (apply Ap.symm; assumption) | omega | decide | (simp only [Xd] <;> omega)) only [cells_spot, a1, a1', a21, a21.symm, a2b, a2b.symm, a41, a41.symm, a42, a42.symm, a43, a43.symm, a4b, a4b.symm, a31, a31.symm, a32, a32.symm, a3b, a3b.symm, lk0, hln, hd, e4, hl0, s3, ↓Xa, Xb, Xc, ↓reduceIte, Nat.reduceLT, Nat.reduceEqDiff, Nat.reduceBEq, Nat.reduceLeDiff, Nat.reduceAdd, Nat.reduceMul]
    refine htx.call ?_
    simp (disch := first | assumption | (apply Ap.symm; assumption) | omega | decide | (simp only [Xd] <;> omega)) only [eql_Sx, s3, rs9, ↓Xa, Xb, Xc, ↓reduceIte, Nat.reduceLT, Nat.reduceEqDiff, Nat.reduceBEq, Nat.reduceLeDiff, Nat.reduceAdd, Nat.reduceMul]
    exact SetR.dropTo ((((((Le.refl H).updB hb).updB n1).updB n2').updB n3).updB n4) (SetR.now hq)
end Go.Proofs.YtanchgkiomfhhaaDoor.Fw
