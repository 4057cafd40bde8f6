/- The texts Lay156 Kj Kh Kk Kl Km Ko Kp Kq Kr Ks Kt Pb Pc Oa Oc Od Pd Pe Pf Pk Pm Ob Oe Of Pr Ps, joined. -/
import Derived.Test.YtanchgkiomfhhaaDoorZ8
import Derived.Shelf.Strings.OnBuilder
import Derived.Test.YtanchgkiomfhhaaDoorProg
import Derived.Lib.SmallJoins
/- The numbers under which the library's functions stand in this program, and that their texts are those which the kit's contracts speak of: printed by wip/tools/lay.py. -/
namespace Go.Proofs.YtanchgkiomfhhaaDoor.Fw
open Go Go.Shelf Go.Proofs
def lay156_ren : Ren :=
  {
    f := fun x =>
      match x with
      | 156 => 168
      | 165 => 203
      | 166 => 204
      | 169 => 205
      | 240 => 215
      | 241 => 216
      | 276 => 227
      | 277 => 228
      | n => n,
    t := fun x =>
      match x with
      | 31 => 202
      | 9 => 9
      | 3 => 3
      | 4 => 4
      | 0 => 0
      | 20 => 20
      | 72 => 234
      | 76 => 238
      | 70 => 232
      | 37 => 103
      | 75 => 237
      | 127 => 251
      | 164 => 263
      | 5 => 5
      | 80 => 36
      | n => n,
    g := fun x =>
      have n := x;
      n }
theorem lay156 : Lays.n156 Tryd.prog lay156_ren :=
  { mixed := Eq.refl true, f156 := Eq.trans Tryd.func168 (congrArg some (Eq.refl (Body.n156 lay156_ren))),
    f165 := Eq.trans Tryd.func203 (congrArg some (Eq.refl (Body.n165 lay156_ren))),
    f166 := Eq.trans Tryd.func204 (congrArg some (Eq.refl (Body.n166 lay156_ren))),
    f169 := Eq.trans Tryd.func205 (congrArg some (Eq.refl (Body.n169 lay156_ren))),
    f240 := Eq.trans Tryd.func215 (congrArg some (Eq.refl (Body.n240 lay156_ren))),
    f241 := Eq.trans Tryd.func216 (congrArg some (Eq.refl (Body.n241 lay156_ren))),
    f276 := Eq.trans Tryd.func227 (congrArg some (Eq.refl (Body.n276 lay156_ren))),
    f277 := Eq.trans Tryd.func228 (congrArg some (Eq.refl (Body.n277 lay156_ren))), t0 := Tryd.underlying0,
    a0 := Tryd.isAgg0, z0 := Tryd.sizeOf0, v0 := Tryd.zeroValue0, t3 := Tryd.underlying3, a3 := Tryd.isAgg3,
    z3 := Tryd.sizeOf3, v3 := Tryd.zeroValue3, t4 := Tryd.underlying4, a4 := Tryd.isAgg4, z4 := Tryd.sizeOf4,
    v4 := Tryd.zeroValue4, t9 := Tryd.underlying9, a9 := Tryd.isAgg9, z9 := Tryd.sizeOf9, v9 := Tryd.zeroValue9,
    t20 := Tryd.underlying20, a20 := Tryd.isAgg20, z20 := Tryd.sizeOf20, v20 := Tryd.zeroValue20,
    t31 := Tryd.underlying202, a31 := Tryd.isAgg202, z31 := Tryd.sizeOf202, v31 := Tryd.zeroValue202,
    t37 := Tryd.underlying103, a37 := Tryd.isAgg103, z37 := Tryd.sizeOf103, v37 := Tryd.zeroValue103,
    t70 := Tryd.underlying232, a70 := Tryd.isAgg232, z70 := Tryd.sizeOf232, v70 := Tryd.zeroValue232,
    t72 := Tryd.underlying234, a72 := Tryd.isAgg234, z72 := Tryd.sizeOf234, v72 := Tryd.zeroValue234,
    t75 := Tryd.underlying237, a75 := Tryd.isAgg237, z75 := Tryd.sizeOf237, v75 := Tryd.zeroValue237,
    t76 := Tryd.underlying238, a76 := Tryd.isAgg238, z76 := Tryd.sizeOf238, v76 := Tryd.zeroValue238,
    t127 := Tryd.underlying251, a127 := Tryd.isAgg251, z127 := Tryd.sizeOf251, v127 := Tryd.zeroValue251,
    t164 := Tryd.underlying263, a164 := Tryd.isAgg263, z164 := Tryd.sizeOf263, v164 := Tryd.zeroValue263 }
end Go.Proofs.YtanchgkiomfhhaaDoor.Fw

/- Strings joined: by the kit's contract. -/
namespace Go.Proofs.YtanchgkiomfhhaaDoor.Fw
set_option linter.unusedSimpArgs false
set_option linter.unusedVariables false
open Go Go.Proofs.YtanchgkiomfhhaaDoor.Ma Go.Shelf
set_option maxRecDepth 20000

theorem pfn_calls {P : Program} {f : FuncId} {args : List AV} {r : AV} (hf : ∃ fn, P.funcs[f]? = some fn ∧ (fn.name == "runtime.NumGoroutine") = false ∧ fn.body.isNone = false)
    (h : ∀ (c : Ctx) (vs : Array Value), Ok c → vs.size = args.length → (∀ i (h : i < args.length) (h' : i < vs.size), Enc c (args[i]) (vs[i])) → Calls P f vs c.w fun e w' => ∃ v, e = .returned v ∧ (∀ c', Enc c' r v) ∧ Go.RowKit.Below c.w.heap.size c.w w') : PFn P f args r := by
  intro H Q hq
  refine ⟨hf, fun c vs hH hok hs he => (h c vs hok hs he).mono ?_⟩
  rintro e w' ⟨v, rfl, hr, hb⟩
  let c2 : Ctx := { c with w := w' }
  have hsz : ∀ i x, c.H i = some x → c.μ i < c.w.heap.size := fun i x e => by
    have := hok.blk i x e
    cases x with
    | row ty es cells => obtain ⟨arr, h1, _⟩ := this; exact (Array.getElem?_eq_some_iff.1 h1).1
    | raw o => exact (Array.getElem?_eq_some_iff.1 this.1).1
    | glob g cells => rw [this.1]; exact this.2.1
    | loop st pend fn ps assign body n E => obtain ⟨tm, dd, h1, _⟩ := this; exact (Array.getElem?_eq_some_iff.1 h1).1
  have later : Later c c2 := by
    refine ⟨⟨hb.size, hb.os, hb.tape, hb.output, fun _ h => h, ?_, fun k hk hm => ⟨hb.block k hk, hm⟩⟩, fun _ h => ⟨h, fun k => k⟩⟩
    intro i x' _ hx'
    exact ⟨x', hx', Nat.le_refl _, fun _ => ⟨rfl, fun ty' es' cells' e => ⟨cells', e, fun arr ha => ⟨arr, (hb.block _ (hsz i x' hx')).trans ha, rfl⟩⟩⟩⟩
  have ok : Ok c2 := ⟨hok.used, hok.fin, hok.inj, fun b x hx => (hok.blk b x hx).later later rfl (hb.block _ (hsz b x hx))⟩
  exact ⟨c2, v, r, rfl, rfl, ok, later, hr c2, by show Q r c.H; rw [hH]; exact hq⟩
theorem joinX : Builder.Extra Tryd.prog lay156_ren where
  sizeBuilder := by kernel_rfl
  liesBuilder := by kernel_rfl
  t5 := Tryd.underlying5
  a5 := Tryd.isAgg5
  z5 := Tryd.sizeOf5
  v5 := Tryd.zeroValue5
  infoByte := by kernel_rfl
  cellsByte := by kernel_rfl
  sizeByte := by kernel_rfl
  neB5 := by decide
theorem join_fn (xs : List (List UInt8)) (sep : List UInt8) (t : Bool) (hN : xs.length ≤ 1000000) (hlen : (Lib.join xs sep).length ≤ 140737488355328) : PFn Tryd.prog 168 [.seq xs.length (xs.map Sx) t, Sx sep] (Sx (Lib.join xs sep)) := by
  by_cases h0 : xs = []
  · subst h0
    intro H Q hq
    refine enter168 (by simp) ?_
    have e : Lib.join ([] : List (List UInt8)) sep = [] := rfl
    rw [e] at hq
    have l0 : ([] : List (List UInt8)).length = 0 := rfl
    simp (disch := first | assumption | (apply Ap.symm; assumption) | omega | decide | (simp only [Xd] <;> omega)) only [ac168, l0, len_rw, rs168, ↓Xa, Xb, Xc, ↓reduceIte, Nat.reduceLT, Nat.reduceEqDiff, Nat.reduceBEq, Nat.reduceLeDiff, Nat.reduceAdd, Nat.reduceMul]
    exact SetR.now hq
  · refine pfn_calls ⟨_, Tryd.func168, by kernel_rfl, by kernel_rfl⟩ fun c vs hok hs he => ?_
    obtain ⟨v0, v1, rfl⟩ : ∃ v0 v1, vs = #[v0, v1] := Go.Joins.array2 hs
    have e0 : Enc c (.seq xs.length (xs.map Sx) t) v0 := he 0 (by simp) (by simp)
    have e1 : Enc c (Sx sep) v1 := he 1 (by simp) (by simp)
    cases e1
    cases e0 with
    | seq _ _ _ base cap cv hlen' hcap hmax ht hb hn hc =>
      obtain ⟨k, off, rfl, hmu, hk, hcell⟩ := hb (by simpa using List.length_pos_iff.2 h0)
      have hce : ∀ (j : Nat) x, (xs.map fun l => (⟨l.toArray⟩ : ByteArray))[j]? = some x → c.w.cell? ⟨k, off + j, none⟩ = some (.string x) := fun j x hx => by
        rw [List.getElem?_map] at hx
        obtain ⟨y, hy, rfl⟩ := Option.map_eq_some_iff.1 hx
        obtain ⟨hj, hy⟩ := List.getElem?_eq_some_iff.1 hy
        have h1 := hcell j (by simpa using hj)
        have h2 := hc j (by simpa using hj)
        rw [List.getElem_map, hy] at h2
        generalize cv j = u at h1 h2
        cases h2
        exact h1
      have hm : (xs.map fun l => (⟨l.toArray⟩ : ByteArray)).map (·.data.toList) = xs := by
        rw [List.map_map]
        exact (List.map_congr_left fun l _ => by simp).trans (List.map_id xs)
      have := Any.strings_Join (P := Tryd.prog) (ρ := lay156_ren) lay156 joinX k off cap (xs.map fun l => (⟨l.toArray⟩ : ByteArray)) ⟨sep.toArray⟩ c.w hce hk (by simpa using Nat.le_trans hN (by omega)) (by simpa using hcap) (by rw [hm]; simpa using hlen)
      rw [hm, List.length_map] at this
      refine this.mono fun e w' ⟨h1, h2⟩ => ⟨_, h1, fun c' => ?_, h2⟩
      simp only [Sx]
      exact .str _
end Go.Proofs.YtanchgkiomfhhaaDoor.Fw

/- Rows of whole numbers: made of small ones, told; what the laws' own helpers answer. -/
namespace Go.Proofs.YtanchgkiomfhhaaDoor.Fw
set_option linter.unusedSimpArgs false
set_option linter.unusedVariables false
open Go Go.Proofs.YtanchgkiomfhhaaDoor.Ma
set_option maxRecDepth 20000

theorem repF0 {a : AV} : repA [a] 1 = [a] := by simp [repA, List.range, List.range.loop]
theorem load_map {α : Type} {f : α → AV} {l : List α} {H : AHeap} {K : AV → Prop} {i : Nat} (h : i < l.length) : loadW H none (.cptr ((l.map f).drop i)) K = K (f (l[i])) := by
  have hi : i < (l.map f).length := by simpa using h
  simp only [loadW, cellsAt, List.drop_eq_getElem_cons hi]
  simp
theorem idx_map {α : Type} {f : α → AV} {l : List α} {t : Bool} {k : IntKind} {K : AV → Prop} {i : Nat} (h : i < l.length) : idxAW 1 (.seq l.length (l.map f) t) (.int k (i : Int)) K = K (.cptr ((l.map f).drop (i * 1))) := idx_rw (by simp) h
abbrev iA (n : Int) : AV := .int .i64 n
def joinT : List (List UInt8) → List UInt8
  | [] => []
  | [x] => x
  | x :: y :: r => x ++ 32 :: joinT (y :: r)
theorem joinT_eq : ∀ xs : List (List UInt8), Lib.join xs [32] = joinT xs
  | [] => rfl
  | [x] => by simp [Lib.join, joinT, List.intercalate]
  | x :: y :: r => by
    have := joinT_eq (y :: r)
    simp only [Lib.join, joinT, List.intercalate] at this ⊢
    rw [← this]
    simp
theorem joinT_snoc : ∀ (xs : List (List UInt8)) (z : List UInt8), joinT (xs ++ [z]) = joinT xs ++ (if xs = [] then [] else [32]) ++ z
  | [], z => by simp [joinT]
  | [x], z => by simp [joinT]
  | x :: y :: r, z => by
    have := joinT_snoc (y :: r) z
    rw [if_neg (by simp)] at this ⊢
    show x ++ 32 :: joinT (y :: r ++ [z]) = x ++ 32 :: joinT (y :: r) ++ [32] ++ z
    rw [this]; simp
theorem joinT_len {k : Nat} : ∀ xs : List (List UInt8), (∀ x, x ∈ xs → x.length ≤ k) → (joinT xs).length ≤ xs.length * (k + 1)
  | [], _ => by simp [joinT]
  | [x], h => by have := h x (by simp); simp [joinT]; omega
  | x :: y :: r, h => by
    have h1 := joinT_len (y :: r) fun z hz => h z (by simp at hz ⊢; exact .inr hz)
    have h2 := h x (by simp)
    simp only [joinT, List.length_append, List.length_cons] at h1 ⊢
    rw [Nat.add_mul]; omega
def rowT (zs : List Int) : List UInt8 := 91 :: joinT (zs.map iText) ++ [93]
theorem joinI_len {k : Nat} {zs : List Int} (hz : RB4 k zs) (hk : k ≤ 1000000) (hbig : zs.length ≤ 1000000) : (joinT (zs.map iText)).length ≤ 1000000 * 10000003 := by
  refine Nat.le_trans (joinT_len (k := 10 * k + 2) _ fun x hx => ?_) ?_
  · obtain ⟨z, hm, rfl⟩ := List.mem_map.1 hx
    exact iText_len (hz.1 z hm)
  · rw [List.length_map]; exact Nat.mul_le_mul hbig (by omega)
theorem cell_Sx1 {l : List UInt8} : [Sx l].all AV.cell = true := rfl
theorem rowt_fn {zs : List Int} {t : Bool} {k : Nat} (hz : RB4 k zs) (hk : k ≤ 1000000) (hbig : zs.length ≤ 1000000) : PFn Tryd.prog 86 [RowA zs t] (Sx (rowT zs)) := by
  intro H Q hq
  have nz : zs.length < 9223372036854775808 := by omega
  have hjl := joinI_len hz hk hbig
  refine enter86 (by simp) ?_
  simp (disch := first | assumption | (apply Ap.symm; assumption) | omega | decide | (simp only [Xd] <;> omega)) only [ac86, len_rw, ↓Xa, Xb, Xc, ↓reduceIte, Nat.reduceLT, Nat.reduceEqDiff, Nat.reduceBEq, Nat.reduceLeDiff, Nat.reduceAdd, Nat.reduceMul]
  refine W_loop (fun s : Nat × AV × AHeap => ⟨[], [(3, s.2.1), (6, RowA zs t), (7, .int .i64 (zs.length : Int)), (8, .int .i64 s.1)], s.2.2⟩) (fun s => s.1 ≤ zs.length ∧ growC H 9 1 s.1 ((zs.take s.1).map fun z => Sx (iText z)) s.2.1 s.2.2) (fun s => zs.length - s.1) (0, .seq 0 [] true, H) (Settle.now rfl) ⟨Nat.zero_le _, growC_nil⟩ ?_
  rintro ⟨i, y, M⟩ ⟨h3, hg⟩
  dsimp only at h3 hg ⊢
  by_cases hi : i < zs.length
  · simp (disch := first | assumption | (apply Ap.symm; assumption) | omega | decide | (simp only [Xd] <;> omega)) only [hi, idx_IC, load_IC, ↓Xa, Xb, Xc, ↓reduceIte, Nat.reduceLT, Nat.reduceEqDiff, Nat.reduceBEq, Nat.reduceLeDiff, Nat.reduceAdd, Nat.reduceMul]
    refine alloc_i fun q hq1 => ?_
    simp (disch := first | assumption | (apply Ap.symm; assumption) | omega | decide | (simp only [Xd] <;> omega)) only [cells_IntA, fold_IntA, ↓Xa, Xb, Xc, ↓reduceIte, Nat.reduceLT, Nat.reduceEqDiff, Nat.reduceBEq, Nat.reduceLeDiff, Nat.reduceAdd, Nat.reduceMul]
    have hg1 := growC_upd (r := .row 28 0 [IntB (zs[i]), IntD (zs[i])]) hg hq1
    refine (itext_fn (hz.at hi) hk).call ?_
    simp (disch := first | assumption | (apply Ap.symm; assumption) | omega | decide | (simp only [Xd] <;> omega)) only [repF0, cells_Sx, str_Sx, ↓Xa, Xb, Xc, ↓reduceIte, Nat.reduceLT, Nat.reduceEqDiff, Nat.reduceBEq, Nat.reduceLeDiff, Nat.reduceAdd, Nat.reduceMul]
    refine app_C (m := 1) hg1 rfl cell_Sx1 (by omega) (by omega) (by omega) fun y' M2 hg3 => ?_
    have e : (zs.take (i + 1)).map (fun z => Sx (iText z)) = (zs.take i).map (fun z => Sx (iText z)) ++ [Sx (iText (zs[i]))] := by
      rw [List.take_add_one, List.getElem?_eq_getElem hi, Option.toList_some, List.map_append]; rfl
    rw [← e] at hg3
    obtain ⟨M3, hg4, hl4⟩ := growC_le2 hg3 ((Le.refl H).upd (growC_none hg hq1))
    simp (disch := first | assumption | (apply Ap.symm; assumption) | omega | decide | (simp only [Xd] <;> omega)) only [↓Xa, Xb, Xc, ↓reduceIte, Nat.reduceLT, Nat.reduceEqDiff, Nat.reduceBEq, Nat.reduceLeDiff, Nat.reduceAdd, Nat.reduceMul]
    exact Settle.dropTo hl4 (Settle.now ⟨(i + 1, y', M3), by dsimp only; omega, ⟨by dsimp only; omega, hg4⟩, rfl⟩)
  · obtain rfl : i = zs.length := by omega
    rw [List.take_of_length_le (by omega)] at hg
    simp (disch := first | assumption | (apply Ap.symm; assumption) | omega | decide | (simp only [Xd] <;> omega)) only [hi, ↓Xa, Xb, Xc, ↓reduceIte, Nat.reduceLT, Nat.reduceEqDiff, Nat.reduceBEq, Nat.reduceLeDiff, Nat.reduceAdd, Nat.reduceMul]
    refine Settle.grownC 3 rfl hg (Settle.now ?_)
    have hj := join_fn (zs.map iText) [32] false (by simpa using hbig) (by rw [joinT_eq]; omega)
    rw [joinT_eq, List.length_map, List.map_map] at hj
    have s1 : AV.str ⟨#[91]⟩ = Sx [91] := rfl
    have s2 : AV.str ⟨#[93]⟩ = Sx [93] := rfl
    have s3 : AV.str ⟨#[32]⟩ = Sx [32] := rfl
    have e1 : ∀ K, binW .add (Sx [91]) (Sx (joinT (zs.map iText))) K = K (Sx (91 :: joinT (zs.map iText))) := fun K => add_Sx (by simp only [List.length_cons, List.length_append, List.length_nil]; omega)
    have e2 : ∀ K, binW .add (Sx (91 :: joinT (zs.map iText))) (Sx [93]) K = K (Sx (rowT zs)) := fun K => by rw [add_Sx (by simp only [List.length_cons, List.length_append, List.length_nil]; omega)]; rfl
    simp (disch := first | assumption | (apply Ap.symm; assumption) | omega | decide | (simp only [Xd] <;> omega)) only [s3, ↓Xa, Xb, Xc, ↓reduceIte, Nat.reduceLT, Nat.reduceEqDiff, Nat.reduceBEq, Nat.reduceLeDiff, Nat.reduceAdd, Nat.reduceMul]
    refine hj.call ?_
    simp (disch := first | assumption | (apply Ap.symm; assumption) | omega | decide | (simp only [Xd] <;> omega)) only [s1, s2, e1, e2, rs86, ↓Xa, Xb, Xc, ↓reduceIte, Nat.reduceLT, Nat.reduceEqDiff, Nat.reduceBEq, Nat.reduceLeDiff, Nat.reduceAdd, Nat.reduceMul]
    exact SetR.now hq
theorem frowt_fn {zs : List Int} {t : Bool} {k : Nat} (hz : RB4 k zs) (hk : k ≤ 1000000) (hbig : zs.length ≤ 1000000) : PFn Tryd.prog 90 [RefR zs t] (Sx (rowT zs)) := by
  intro H Q hq
  have nz : zs.length < 9223372036854775808 := by omega
  have s1 : AV.str ⟨#[91]⟩ = Sx [91] := rfl
  have s2 : AV.str ⟨#[93]⟩ = Sx [93] := rfl
  have s3 : AV.str ⟨#[32]⟩ = Sx [32] := rfl
  refine enter90 (by simp) ?_
  simp (disch := first | assumption | (apply Ap.symm; assumption) | omega | decide | (simp only [Xd] <;> omega)) only [ac90, s1, ↓Xa, Xb, Xc, ↓reduceIte, Nat.reduceLT, Nat.reduceEqDiff, Nat.reduceBEq, Nat.reduceLeDiff, Nat.reduceAdd, Nat.reduceMul]
  refine W_loop (fun s : Nat => ⟨[], [(0, RefR zs t), (3, Sx (91 :: joinT ((zs.take s).map iText))), (4, .int .i64 s)], H⟩) (fun s => s ≤ zs.length) (fun s => zs.length - s) 0 (Settle.now rfl) (Nat.zero_le _) ?_
  rintro i h3
  have hti : RB4 k (zs.take i) := ⟨fun z h => hz.1 z (List.mem_of_mem_take h), by have := hz.2; rw [List.length_take]; omega⟩
  have hjl := joinI_len hti hk (by rw [List.length_take]; omega)
  by_cases hi : i < zs.length
  · have htl := iText_len (hz.at hi)
    have e : joinT ((zs.take (i + 1)).map iText) = joinT ((zs.take i).map iText) ++ (if i = 0 then [] else [32]) ++ iText (zs[i]) := by
      rw [List.take_add_one, List.getElem?_eq_getElem hi, Option.toList_some, List.map_append, List.map_cons, List.map_nil, joinT_snoc]
      have : ((zs.take i).map iText = []) ↔ i = 0 := by
        rw [List.map_eq_nil_iff, List.take_eq_nil_iff]
        constructor
        · rintro (h | h)
          · exact h
          · subst h; simp at hi
        · exact .inl
      by_cases h0 : i = 0
      · rw [if_pos (this.2 h0), if_pos h0]
      · rw [if_neg (fun h => h0 (this.1 h)), if_neg h0]
    by_cases h0 : i = 0
    · rw [if_pos h0] at e
      have hn : ¬ 0 < i := by omega
      have e2 : ∀ K, binW .add (Sx (91 :: joinT ((zs.take i).map iText))) (Sx (iText (zs[i]))) K = K (Sx (91 :: joinT ((zs.take (i + 1)).map iText))) := fun K => by rw [add_Sx (by simp only [List.length_cons, List.length_append, List.length_nil]; omega), e]; simp
      simp (disch := first | assumption | (apply Ap.symm; assumption) | omega | decide | (simp only [Xd] <;> omega)) only [hi, hn, len_rw, idx_RC, load_RC, ↓Xa, Xb, Xc, ↓reduceIte, Nat.reduceLT, Nat.reduceEqDiff, Nat.reduceBEq, Nat.reduceLeDiff, Nat.reduceAdd, Nat.reduceMul]
      refine (rtext_fn false (hz.at hi) hk).call ?_
      simp (disch := first | assumption | (apply Ap.symm; assumption) | omega | decide | (simp only [Xd] <;> omega)) only [e2, ↓Xa, Xb, Xc, ↓reduceIte, Nat.reduceLT, Nat.reduceEqDiff, Nat.reduceBEq, Nat.reduceLeDiff, Nat.reduceAdd, Nat.reduceMul]
      exact Settle.now ⟨i + 1, by omega, by omega, rfl⟩
    · rw [if_neg h0] at e
      have hn : 0 < i := by omega
      have e1 : ∀ K, binW .add (Sx (91 :: joinT ((zs.take i).map iText))) (Sx [32]) K = K (Sx (91 :: (joinT ((zs.take i).map iText) ++ [32]))) := fun K => add_Sx (by simp only [List.length_cons, List.length_append, List.length_nil]; omega)
      have e2 : ∀ K, binW .add (Sx (91 :: (joinT ((zs.take i).map iText) ++ [32]))) (Sx (iText (zs[i]))) K = K (Sx (91 :: joinT ((zs.take (i + 1)).map iText))) := fun K => by rw [add_Sx (by simp only [List.length_cons, List.length_append, List.length_nil]; omega), e]; simp
      simp (disch := first | assumption | (apply Ap.symm; assumption) | omega | decide | (simp only [Xd] <;> omega)) only [hi, hn, len_rw, idx_RC, load_RC, s3, e1, ↓Xa, Xb, Xc, ↓reduceIte, Nat.reduceLT, Nat.reduceEqDiff, Nat.reduceBEq, Nat.reduceLeDiff, Nat.reduceAdd, Nat.reduceMul]
      refine (rtext_fn false (hz.at hi) hk).call ?_
      simp (disch := first | assumption | (apply Ap.symm; assumption) | omega | decide | (simp only [Xd] <;> omega)) only [e2, ↓Xa, Xb, Xc, ↓reduceIte, Nat.reduceLT, Nat.reduceEqDiff, Nat.reduceBEq, Nat.reduceLeDiff, Nat.reduceAdd, Nat.reduceMul]
      exact Settle.now ⟨i + 1, by omega, by omega, rfl⟩
  · rw [List.take_of_length_le (by omega)] at hjl ⊢
    have e2 : ∀ K, binW .add (Sx (91 :: joinT (zs.map iText))) (Sx [93]) K = K (Sx (rowT zs)) := fun K => by rw [add_Sx (by simp only [List.length_cons, List.length_append, List.length_nil]; omega)]; rfl
    simp (disch := first | assumption | (apply Ap.symm; assumption) | omega | decide | (simp only [Xd] <;> omega)) only [hi, len_rw, ↓Xa, Xb, Xc, ↓reduceIte, Nat.reduceLT, Nat.reduceEqDiff, Nat.reduceBEq, Nat.reduceLeDiff, Nat.reduceAdd, Nat.reduceMul]
    refine Settle.now ?_
    simp (disch := first | assumption | (apply Ap.symm; assumption) | omega | decide | (simp only [Xd] <;> omega)) only [s2, e2, rs90, ↓Xa, Xb, Xc, ↓reduceIte, Nat.reduceLT, Nat.reduceEqDiff, Nat.reduceBEq, Nat.reduceLeDiff, Nat.reduceAdd, Nat.reduceMul]
    exact SetR.now hq
end Go.Proofs.YtanchgkiomfhhaaDoor.Fw

/- The row laws' own helpers: an answer that is fixed, rows that are too long, a row in both, one number in both, rows in both. -/
namespace Go.Proofs.YtanchgkiomfhhaaDoor.Fw
set_option linter.unusedSimpArgs false
set_option linter.unusedVariables false
open Go Go.Proofs.YtanchgkiomfhhaaDoor.Ma
set_option maxRecDepth 20000

/-! ### too long -/
def sumN : List Nat → Nat
  | [] => 0
  | a :: l => a + sumN l
section
variable {K : AV → Prop} {H : AHeap} {k : IntKind} {t : Bool} {l : List NumV} {i : Nat}
end
def numT (l : List NumV) : Nat := l.length + sumN (l.map fun q => q.2.1.length)
abbrev rowN (x : List NumV × Bool) : AV := .seq x.1.length (NumsC x.1) x.2
end Go.Proofs.YtanchgkiomfhhaaDoor.Fw

/- The row laws' own helpers: a row in both, one number in both, rows in both; the law that holds rows against each other. -/
namespace Go.Proofs.YtanchgkiomfhhaaDoor.Fw
set_option linter.unusedSimpArgs false
set_option linter.unusedVariables false
open Go Go.Proofs.YtanchgkiomfhhaaDoor.Ma
set_option maxRecDepth 20000

def numZ (q : NumV) : Int := sg q.1 (val 4294967296 q.2.1)
def rowZ (l : List NumV) : List Int := l.map numZ
theorem RC_take {zs : List Int} {i : Nat} (h : i < zs.length) : RC (zs.take (i + 1)) = RC (zs.take i) ++ [RefB (zs[i]), RefD (zs[i])] := by
  rw [List.take_add_one, List.getElem?_eq_getElem h, Option.toList_some, RC_snoc]
theorem cellR {z : Int} : [RefB z, RefD z].all AV.cell = true := rfl
theorem cells_RefT {z : Int} {t : Bool} : (RefA z t).cells = some [RefB z, LS (digs 65536 z.natAbs) t] := id rfl
end Go.Proofs.YtanchgkiomfhhaaDoor.Fw

/- The law that two rows held against each other obey: true. -/
namespace Go.Proofs.YtanchgkiomfhhaaDoor.Fw
set_option linter.unusedSimpArgs false
set_option linter.unusedVariables false
open Go Go.Proofs.YtanchgkiomfhhaaDoor.Ma
set_option maxRecDepth 20000

end Go.Proofs.YtanchgkiomfhhaaDoor.Fw

/- Rows of whole numbers: divided by a number, content, primitive row. -/
namespace Go.Proofs.YtanchgkiomfhhaaDoor.Fw
set_option linter.unusedSimpArgs false
set_option linter.unusedVariables false
open Go Go.Proofs.YtanchgkiomfhhaaDoor.Ma
set_option maxRecDepth 20000

theorem PFn.loose1 {P : Program} {f : FuncId} {x : AV} {rest : List AV} {r : AV} (h : PFn P f (loose x :: rest) r) : PFn P f (x :: rest) r := fun H Q hq =>
  ⟨(h H Q hq).1, fun c vs hH hok hs he => (h H Q hq).2 c vs hH hok (by simpa using hs) fun i hi hi' => by
    match i, hi with
    | 0, _ => exact enc_loose _ _ (he 0 (by simp) hi')
    | i + 1, hi => exact he (i + 1) (by simpa using hi) hi'⟩
end Go.Proofs.YtanchgkiomfhhaaDoor.Fw

/- Rows of whole numbers: the primitive row; the reference's rows put together. -/
namespace Go.Proofs.YtanchgkiomfhhaaDoor.Fw
set_option linter.unusedSimpArgs false
set_option linter.unusedVariables false
open Go Go.Proofs.YtanchgkiomfhhaaDoor.Ma
set_option maxRecDepth 20000

end Go.Proofs.YtanchgkiomfhhaaDoor.Fw

/- The law of rows over numbers (a module): true. -/
namespace Go.Proofs.YtanchgkiomfhhaaDoor.Fw
set_option linter.unusedSimpArgs false
set_option linter.unusedVariables false
open Go Go.Proofs.YtanchgkiomfhhaaDoor.Ma
set_option maxRecDepth 20000

theorem RB4.map {k k' : Nat} {zs : List Int} {f : Int → Int} (h : RB4 k zs) (hf : ∀ z, Bd k z → Bd k' (f z)) : RB4 k' (zs.map f) :=
  ⟨fun z hz => by obtain ⟨y, hy, rfl⟩ := List.mem_map.1 hz; exact hf y (h.1 y hy), by rw [List.length_map]; exact h.2⟩
theorem RB4.zip {k k1 k2 : Nat} {zs ws : List Int} {f : Int → Int → Int} (h : RB4 k1 zs) (h2 : RB4 k2 ws) (hl : zs.length = ws.length) (hf : ∀ z w, Bd k1 z → Bd k2 w → Bd k (f z w)) : RB4 k (zipI f zs ws) :=
  ⟨fun z hz => by
    obtain ⟨i, hi, rfl⟩ := List.getElem_of_mem hz
    have hi2 : i < zs.length := by rw [zip_len hl] at hi; exact hi
    rw [zip_at hl hi2]
    exact hf _ _ (h.at hi2) (h2.at (by omega)), by rw [zip_len hl]; exact h.2⟩
theorem RB4.mono {k k' : Nat} {zs : List Int} (h : RB4 k zs) (hk : k ≤ k') : RB4 k' zs := ⟨fun z hz => (h.1 z hz).mono hk, h.2⟩
theorem Bd.sums {k : Nat} : ∀ {l : List Int} {s : Int} {j : Nat}, Bd (k + j) s → (∀ z, z ∈ l → Bd k z) → Bd (k + (j + l.length)) (l.foldl (· + ·) s)
  | [], s, j, h, _ => h
  | z :: l, s, j, h, h2 => by
    have := Bd.sums (l := l) (s := s + z) (j := j + 1) ((h.add ((h2 z (by simp)).mono (by omega))).mono (by omega)) fun y hy => h2 y (by simp [hy])
    exact this.mono (by simp only [List.length_cons]; omega)
theorem Bd.dotF {k k1 k2 : Nat} {zs ws : List Int} (h : RB4 k1 zs) (h2 : RB4 k2 ws) (hl : zs.length = ws.length) (hk : k1 + k2 + zs.length ≤ k) : Bd k (dotF 0 zs ws) := by
  have hz := RB4.zip (f := (· * ·)) h h2 hl (fun z w a b => a.mul b)
  have := Bd.sums (k := k1 + k2) (l := zipI (· * ·) zs ws) (s := 0) (j := 0) (Bd.zero _) hz.1
  rw [zip_len hl] at this
  exact this.mono (by omega)
section
variable {zs ws : List Int} {t t' : Bool} {k : Nat}
end
end Go.Proofs.YtanchgkiomfhhaaDoor.Fw

/- Rows of whole numbers: an answer is spoilt; the reference's rows put together. -/
namespace Go.Proofs.YtanchgkiomfhhaaDoor.Fw
set_option linter.unusedSimpArgs false
set_option linter.unusedVariables false
open Go Go.Proofs.YtanchgkiomfhhaaDoor.Ma
set_option maxRecDepth 20000

theorem stP_row {H : AHeap} {n b L off ty es : Nat} {cells l : List AV} {K : AV → AHeap → Prop} (hL : cells.length = L) (hl : l.length = n) (ho : off + n ≤ L) : stP H n b L off K (some l) (some (.row ty es cells)) ↔ K .bot (H.upd b (some (.row ty es (splice cells off l)))) := by
  simp [stP, hL, hl, ho]
def RowO (M : AHeap) (y : AV) (zs : List Int) : Prop := (zs = [] ∧ y = .seq 0 [] true) ∨ (0 < zs.length ∧ ∃ b, y = .own b (zs.length * 2) 0 zs.length false ∧ M b = some (.row 28 2 (IC zs)))
theorem RowO.of {H M : AHeap} {n : Nat} {y : AV} {zs : List Int} (h : growC H 28 2 n (IC zs) y M) (hn : zs.length = n) : RowO M y zs := by
  subst hn
  rcases h with ⟨h1, _, rfl, rfl⟩ | ⟨hn, _, b, hb, rfl, rfl⟩
  · exact .inl ⟨List.length_eq_zero_iff.1 h1, rfl⟩
  · exact .inr ⟨hn, b, rfl, upd_same _ _ _⟩
theorem RowO.le {M M' : AHeap} {y : AV} {zs : List Int} (h : RowO M y zs) (hl : Le M M') : RowO M' y zs := by
  rcases h with h | ⟨hn, b, e, hb⟩
  · exact .inl h
  · exact .inr ⟨hn, b, e, hl _ _ hb⟩
theorem RowO.len {M : AHeap} {y : AV} {zs : List Int} (h : RowO M y zs) (hn : zs.length < 9223372036854775808) {K : AV → Prop} : lenW false y K = K (.int .i64 ((zs.length : Nat) : Int)) := by
  rcases h with ⟨rfl, rfl⟩ | ⟨h0, b, rfl, hb⟩ <;> simp [lenW, hn]
end Go.Proofs.YtanchgkiomfhhaaDoor.Fw

/- The reference's rows put together. -/
namespace Go.Proofs.YtanchgkiomfhhaaDoor.Fw
set_option linter.unusedSimpArgs false
set_option linter.unusedVariables false
open Go Go.Proofs.YtanchgkiomfhhaaDoor.Ma
set_option maxRecDepth 20000

section
variable {zs ws : List Int} {t t' : Bool} {k : Nat}
end
end Go.Proofs.YtanchgkiomfhhaaDoor.Fw

/- Rows of noughts, with a one. -/
namespace Go.Proofs.YtanchgkiomfhhaaDoor.Fw
set_option linter.unusedSimpArgs false
set_option linter.unusedVariables false
open Go Go.Proofs.YtanchgkiomfhhaaDoor.Ma
set_option maxRecDepth 20000

theorem IC_app (a b : List Int) : IC (a ++ b) = IC a ++ IC b := by simp [IC, List.flatMap_append]
theorem repI (n : Nat) : repA [.bool false, .seq 0 [] true] (n * 2) = IC (List.replicate n 0) := by
  induction n with
  | zero => simp [repA, IC]
  | succ n ih =>
    have e1 : n * 2 % 2 = 0 := by omega
    have e2 : (n * 2 + 1) % 2 = 1 := by omega
    rw [List.replicate_succ', IC_snoc, ← ih, show (n + 1) * 2 = n * 2 + 1 + 1 by omega]
    simp only [repA, List.range_succ, List.map_append, List.map_cons, List.map_nil, List.length_cons, List.length_nil, e1, e2]
    simp [IntB, IntD, digs_zero, LS, U, e1, e2]
theorem mks_I {H : AHeap} {ty n : Nat} {K : AV → AHeap → Prop} (h : n ≤ 100000) : mksW H ty 2 32 [.bool false, .seq 0 [] true] (.int .i64 (n : Int)) (.int .i64 (n : Int)) K ↔ ∀ b, H b = none → K (.own b (n * 2) 0 n true) (H.upd b (some (.row ty 2 (IC (List.replicate n 0))))) := by
  have h1 : (32 : Int) * n ≤ 281474976710656 := by omega
  have h2 : (n : Int) < 9223372036854775808 := by omega
  simp [mksW, h1, h2, repI]
theorem IC_tk {zs : List Int} {k : Nat} (h : k ≤ zs.length) : (IC zs).take (k * 2) = IC (zs.take k) := by
  conv => lhs; rw [← List.take_append_drop k zs, IC_app]
  exact List.take_left' (by rw [IC_len, List.length_take]; omega)
theorem IC_dp {zs : List Int} {k : Nat} (h : k ≤ zs.length) : (IC zs).drop (k * 2) = IC (zs.drop k) := by
  conv => lhs; rw [← List.take_append_drop k zs, IC_app]
  exact List.drop_left' (by rw [IC_len, List.length_take]; omega)
theorem IC_set {zs : List Int} {k : Nat} {v : Int} (h : k < zs.length) : (IC zs).take (k * 2) ++ [IntB v, IntD v] ++ (IC zs).drop (k * 2 + 2) = IC (zs.set k v) := by
  rw [IC_tk (by omega), show k * 2 + 2 = (k + 1) * 2 by omega, IC_dp (by omega), List.set_eq_take_append_cons_drop, if_pos h, IC_app]
  simp [IC]
end Go.Proofs.YtanchgkiomfhhaaDoor.Fw

/- Polynomials: made of small numbers, with room behind them; the degree; held against the reference's. -/
namespace Go.Proofs.YtanchgkiomfhhaaDoor.Fw
set_option linter.unusedSimpArgs false
set_option linter.unusedVariables false
open Go Go.Proofs.YtanchgkiomfhhaaDoor.Ma
set_option maxRecDepth 20000

def ExtI (zs : List Int) : AV := .exte 2 zs.length (IC (zs ++ [0, 0]))
theorem Wk.I {zs : List Int} : Wk (ExtI zs) (RowA zs false) := by
  have h := Wk.exte (es := 2) (n := zs.length) (cells := IC (zs ++ [0, 0]))
  rw [IC_app, List.take_left' (IC_len zs)] at h
  unfold ExtI; rw [IC_app]; exact h
theorem PFn.wk {P : Program} {f : FuncId} {args args' : List AV} {r : AV} (h : PFn P f args' r) (w : Wks args args') : PFn P f args r := fun H Q hq => (h H Q hq).wk w
def Small (l : List Int) : Prop := ∀ n, n ∈ l → -9223372036854775808 ≤ n ∧ n < 9223372036854775808
theorem list_fn {l : List Int} {t : Bool} (hb : Small l) (hbig : l.length ≤ 1000000) : PFn Tryd.prog 25 [.seq l.length (l.map iA) t] (ExtI l) := by
  intro H Q hq
  refine enter25 (by simp) ?_
  simp (disch := first | assumption | (apply Ap.symm; assumption) | omega | decide | (simp only [Xd] <;> omega)) only [ac25, len_rw, ↓Xa, Xb, Xc, ↓reduceIte, Nat.reduceLT, Nat.reduceEqDiff, Nat.reduceBEq, Nat.reduceLeDiff, Nat.reduceAdd, Nat.reduceMul]
  have m1 : (32 : Int) * ((l.length + 2 : Nat) : Int) ≤ 281474976710656 := by omega
  refine ⟨⟨by omega, by omega, by omega, m1⟩, fun b hb0 => ?_⟩
  rw [show (((l.length + 2 : Nat) : Int)).toNat = l.length + 2 by omega, show (((0 : Nat) : Int)).toNat = 0 from rfl, repI]
  simp (disch := first | assumption | (apply Ap.symm; assumption) | omega | decide | (simp only [Xd] <;> omega)) only [len_rw, ↓Xa, Xb, Xc, ↓reduceIte, Nat.reduceLT, Nat.reduceEqDiff, Nat.reduceBEq, Nat.reduceLeDiff, Nat.reduceAdd, Nat.reduceMul]
  refine W_loop (fun s : Nat => ⟨[], [(3, .ownc b ((l.length + 2) * 2) s (l.length + 2)), (10, .seq l.length (l.map iA) t), (11, .int .i64 (l.length : Int)), (12, .int .i64 s)], H.upd b (some (.row 28 2 (IC (l.take s ++ List.replicate (l.length + 2 - s) 0))))⟩)
    (fun s => s ≤ l.length) (fun s => l.length - s) 0 (Settle.now (by simp)) (Nat.zero_le _) ?_
  intro i hi'
  by_cases hi : i < l.length
  · simp (disch := first | assumption | (apply Ap.symm; assumption) | omega | decide | (simp only [Xd] <;> omega)) only [hi, idx_map, load_map, ↓Xa, Xb, Xc, ↓reduceIte, Nat.reduceLT, Nat.reduceEqDiff, Nat.reduceBEq, Nat.reduceLeDiff, Nat.reduceAdd, Nat.reduceMul]
    refine (of_fn (hb _ (List.getElem_mem hi))).call ?_
    simp (disch := first | assumption | (apply Ap.symm; assumption) | omega | decide | (simp only [Xd] <;> omega)) only [repI1, cells_IntA, ↓Xa, Xb, Xc, ↓reduceIte, Nat.reduceLT, Nat.reduceEqDiff, Nat.reduceBEq, Nat.reduceLeDiff, Nat.reduceAdd, Nat.reduceMul]
    refine .inr (.inr (.inr ⟨rfl, cellI, ?_⟩))
    dsimp only
    rw [upd_same]
    have hlen : (l.take i ++ List.replicate (l.length + 2 - i) (0 : Int)).length = l.length + 2 := by simp; omega
    refine ⟨by rw [IC_len, hlen], rfl, rfl, rfl, by omega, ?_⟩
    have hsp : splice (IC (l.take i ++ List.replicate (l.length + 2 - i) 0)) (i * 2) [IntB (l[i]), IntD (l[i])] = IC (l.take (i + 1) ++ List.replicate (l.length + 2 - (i + 1)) 0) := by
      have h1 : i < (l.take i ++ List.replicate (l.length + 2 - i) (0 : Int)).length := by omega
      have h2 := IC_set (v := l[i]) h1
      rw [show splice (IC (l.take i ++ List.replicate (l.length + 2 - i) 0)) (i * 2) [IntB (l[i]), IntD (l[i])] = (IC (l.take i ++ List.replicate (l.length + 2 - i) 0)).take (i * 2) ++ [IntB (l[i]), IntD (l[i])] ++ (IC (l.take i ++ List.replicate (l.length + 2 - i) 0)).drop (i * 2 + 2) from rfl, h2]
      congr 1
      rw [List.set_append_right _ _ (by simp; omega), show i - (l.take i).length = 0 by simp; omega, show l.length + 2 - i = (l.length + 2 - (i + 1)) + 1 by omega, List.replicate_succ, List.set_cons_zero, ← List.take_append_getElem hi, List.append_assoc]
      rfl
    rw [hsp, upd_upd]
    simp (disch := first | assumption | (apply Ap.symm; assumption) | omega | decide | (simp only [Xd] <;> omega)) only [↓Xa, Xb, Xc, ↓reduceIte, Nat.reduceLT, Nat.reduceEqDiff, Nat.reduceBEq, Nat.reduceLeDiff, Nat.reduceAdd, Nat.reduceMul]
    exact Settle.now ⟨i + 1, by omega, by omega, rfl⟩
  · obtain rfl : i = l.length := by omega
    simp (disch := first | assumption | (apply Ap.symm; assumption) | omega | decide | (simp only [Xd] <;> omega)) only [hi, ↓Xa, Xb, Xc, ↓reduceIte, Nat.reduceLT, Nat.reduceEqDiff, Nat.reduceBEq, Nat.reduceLeDiff, Nat.reduceAdd, Nat.reduceMul]
    refine Settle.freezeC 3 rfl (upd_same _ _ _) (by rw [IC_len]; simp) rfl (by omega) ?_
    rw [upd_upd, upd_back _ hb0, List.take_length, show l.length + 2 - l.length = 2 by omega]
    refine Settle.now ?_
    simp (disch := first | assumption | (apply Ap.symm; assumption) | omega | decide | (simp only [Xd] <;> omega)) only [rs25, ↓Xa, Xb, Xc, ↓reduceIte, Nat.reduceLT, Nat.reduceEqDiff, Nat.reduceBEq, Nat.reduceLeDiff, Nat.reduceAdd, Nat.reduceMul]
    exact SetR.now hq
theorem ref_fn {l : List Int} {t : Bool} (hb : Small l) (hbig : l.length ≤ 1000000) : PFn Tryd.prog 31 [.seq l.length (l.map iA) t] (RefR l false) := by
  refine PFn.frozen (ty := 39) (es := 2) fun H Q hq => ?_
  refine enter31 (by simp) ?_
  simp (disch := first | assumption | (apply Ap.symm; assumption) | omega | decide | (simp only [Xd] <;> omega)) only [ac31, len_rw, ↓Xa, Xb, Xc, ↓reduceIte, Nat.reduceLT, Nat.reduceEqDiff, Nat.reduceBEq, Nat.reduceLeDiff, Nat.reduceAdd, Nat.reduceMul]
  refine W_loop (fun s : Nat × AV × AHeap => ⟨[], [(3, s.2.1), (6, .seq l.length (l.map iA) t), (7, .int .i64 (l.length : Int)), (8, .int .i64 s.1)], s.2.2⟩) (fun s => s.1 ≤ l.length ∧ growC H 39 2 s.1 (RC (l.take s.1)) s.2.1 s.2.2) (fun s => l.length - s.1) (0, .seq 0 [] true, H) (Settle.now rfl) ⟨Nat.zero_le _, growC_nil⟩ ?_
  rintro ⟨i, y, M⟩ ⟨h3, hg⟩
  dsimp only at h3 hg ⊢
  by_cases hi : i < l.length
  · simp (disch := first | assumption | (apply Ap.symm; assumption) | omega | decide | (simp only [Xd] <;> omega)) only [hi, idx_map, load_map, ↓Xa, Xb, Xc, ↓reduceIte, Nat.reduceLT, Nat.reduceEqDiff, Nat.reduceBEq, Nat.reduceLeDiff, Nat.reduceAdd, Nat.reduceMul]
    refine (rof_fn (hb _ (List.getElem_mem hi))).call ?_
    simp (disch := first | assumption | (apply Ap.symm; assumption) | omega | decide | (simp only [Xd] <;> omega)) only [repI1, cells_RefA, ↓Xa, Xb, Xc, ↓reduceIte, Nat.reduceLT, Nat.reduceEqDiff, Nat.reduceBEq, Nat.reduceLeDiff, Nat.reduceAdd, Nat.reduceMul]
    refine app_C (m := 1) hg rfl cellR (by omega) (by omega) (by omega) fun y' M2 hg3 => ?_
    rw [← RC_take] at hg3
    simp (disch := first | assumption | (apply Ap.symm; assumption) | omega | decide | (simp only [Xd] <;> omega)) only [↓Xa, Xb, Xc, ↓reduceIte, Nat.reduceLT, Nat.reduceEqDiff, Nat.reduceBEq, Nat.reduceLeDiff, Nat.reduceAdd, Nat.reduceMul]
    exact Settle.now ⟨(i + 1, y', M2), by dsimp only; omega, ⟨by dsimp only; omega, hg3⟩, rfl⟩
  · obtain rfl : i = l.length := by omega
    rw [List.take_of_length_le (by omega)] at hg
    simp (disch := first | assumption | (apply Ap.symm; assumption) | omega | decide | (simp only [Xd] <;> omega)) only [hi, ↓Xa, Xb, Xc, ↓reduceIte, Nat.reduceLT, Nat.reduceEqDiff, Nat.reduceBEq, Nat.reduceLeDiff, Nat.reduceAdd, Nat.reduceMul]
    refine Settle.now ?_
    simp (disch := first | assumption | (apply Ap.symm; assumption) | omega | decide | (simp only [Xd] <;> omega)) only [rs31, ↓Xa, Xb, Xc, ↓reduceIte, Nat.reduceLT, Nat.reduceEqDiff, Nat.reduceBEq, Nat.reduceLeDiff, Nat.reduceAdd, Nat.reduceMul]
    exact SetR.now (hq y M hg)
theorem sgn_neqZ {x : Int} {K : AV → Prop} : binW .neq (.int .i64 (sgnI x)) (.int .i64 ((0 : Nat) : Int)) K ↔ K (.bool (!decide (x = 0))) := sgn_neq0
theorem deg_fn {zs : List Int} {t : Bool} {k : Nat} (hz : RB4 k zs) (hk : k ≤ 1000000) (hbig : zs.length ≤ 1000000) : PFn Tryd.prog 70 [RowA zs t] (.int .i64 (dn (degN zs))) := by
  intro H Q hq
  refine enter70 (by simp) ?_
  simp (disch := first | assumption | (apply Ap.symm; assumption) | omega | decide | (simp only [Xd] <;> omega)) only [ac70, len_rw, bin_dec, ↓Xa, Xb, Xc, ↓reduceIte, Nat.reduceLT, Nat.reduceEqDiff, Nat.reduceBEq, Nat.reduceLeDiff, Nat.reduceAdd, Nat.reduceMul]
  refine W_loop (fun s : Nat => ⟨[], [(0, RowA zs t), (3, .int .i64 (dn s))], H⟩) (fun s => s ≤ zs.length ∧ ∀ j, s ≤ j → co zs j = 0) (fun s => s) zs.length (Settle.now rfl) ⟨Nat.le_refl _, fun j hj => co_ge hj⟩ ?_
  rintro n ⟨hn, hh⟩
  cases n with
  | zero =>
    simp (disch := first | assumption | (apply Ap.symm; assumption) | omega | decide | (simp only [Xd] <;> omega)) only [dn_zero, bin_geq_neg, ↓Xa, Xb, Xc, ↓reduceIte, Nat.reduceLT, Nat.reduceEqDiff, Nat.reduceBEq, Nat.reduceLeDiff, Nat.reduceAdd, Nat.reduceMul]
    refine Settle.now ?_
    have e : degN zs = 0 := degN_of hh fun h => absurd h (by omega)
    rw [e] at hq
    simp (disch := first | assumption | (apply Ap.symm; assumption) | omega | decide | (simp only [Xd] <;> omega)) only [rs70, ↓Xa, Xb, Xc, ↓reduceIte, Nat.reduceLT, Nat.reduceEqDiff, Nat.reduceBEq, Nat.reduceLeDiff, Nat.reduceAdd, Nat.reduceMul]
    exact SetR.now hq
  | succ n =>
    have hlt : n < zs.length := by omega
    simp (disch := first | assumption | (apply Ap.symm; assumption) | omega | decide | (simp only [Xd] <;> omega)) only [dn_succ, Nat.zero_le, idx_IC, load_IC, hlt, ↓Xa, Xb, Xc, ↓reduceIte, Nat.reduceLT, Nat.reduceEqDiff, Nat.reduceBEq, Nat.reduceLeDiff, Nat.reduceAdd, Nat.reduceMul]
    refine (sign_fn (hz.at hlt) (by omega)).call ?_
    by_cases h0 : zs[n] = 0
    · simp (disch := first | assumption | (apply Ap.symm; assumption) | omega | decide | (simp only [Xd] <;> omega)) only [sgn_neqZ, h0, bin_dec, ↓Xa, Xb, Xc, ↓reduceIte, Nat.reduceLT, Nat.reduceEqDiff, Nat.reduceBEq, Nat.reduceLeDiff, Nat.reduceAdd, Nat.reduceMul]
      refine Settle.now ⟨n, by omega, ⟨by omega, fun j hj => ?_⟩, rfl⟩
      by_cases e : j = n
      · subst e; rw [co_get hlt]; exact h0
      · exact hh j (by omega)
    · simp (disch := first | assumption | (apply Ap.symm; assumption) | omega | decide | (simp only [Xd] <;> omega)) only [sgn_neqZ, h0, ↓Xa, Xb, Xc, ↓reduceIte, Nat.reduceLT, Nat.reduceEqDiff, Nat.reduceBEq, Nat.reduceLeDiff, Nat.reduceAdd, Nat.reduceMul]
      refine Settle.now ?_
      have e : degN zs = n + 1 := degN_of hh fun _ => by rw [Nat.add_sub_cancel, co_get hlt]; exact h0
      rw [e] at hq
      simp (disch := first | assumption | (apply Ap.symm; assumption) | omega | decide | (simp only [Xd] <;> omega)) only [rs70, ↓Xa, Xb, Xc, ↓reduceIte, Nat.reduceLT, Nat.reduceEqDiff, Nat.reduceBEq, Nat.reduceLeDiff, Nat.reduceAdd, Nat.reduceMul]
      exact SetR.now hq
theorem ptext_fn {zs : List Int} {t : Bool} {k : Nat} (hz : RB4 k zs) (hk : k ≤ 1000000) (hbig : zs.length ≤ 1000000) : PFn Tryd.prog 93 [RowA zs t] (Sx (rowT zs)) := by
  intro H Q hq
  refine enter93 (by simp) ?_
  simp (disch := first | assumption | (apply Ap.symm; assumption) | omega | decide | (simp only [Xd] <;> omega)) only [ac93, ↓Xa, Xb, Xc, ↓reduceIte, Nat.reduceLT, Nat.reduceEqDiff, Nat.reduceBEq, Nat.reduceLeDiff, Nat.reduceAdd, Nat.reduceMul]
  refine (rowt_fn hz hk hbig).call ?_
  simp (disch := first | assumption | (apply Ap.symm; assumption) | omega | decide | (simp only [Xd] <;> omega)) only [rs93, ↓Xa, Xb, Xc, ↓reduceIte, Nat.reduceLT, Nat.reduceEqDiff, Nat.reduceBEq, Nat.reduceLeDiff, Nat.reduceAdd, Nat.reduceMul]
  exact SetR.now hq
end Go.Proofs.YtanchgkiomfhhaaDoor.Fw

/- Polynomials: two rows held against each other, place by place. -/
namespace Go.Proofs.YtanchgkiomfhhaaDoor.Fw
set_option linter.unusedSimpArgs false
set_option linter.unusedVariables false
open Go Go.Proofs.YtanchgkiomfhhaaDoor.Ma
set_option maxRecDepth 20000

theorem eqfR_fn {zs ws : List Int} {t t' : Bool} {g : FuncId} (hg : ∀ x y, x ∈ zs → y ∈ ws → PFn Tryd.prog g [IntA x, RefA y false] (.bool (decide (x = y)))) (nz : zs.length < 4611686018427387904) (nw : ws.length < 4611686018427387904) : PFn Tryd.prog 154 [RowA zs t, RefR ws t', .fn (.func g) [] []] (.bool (decide (zs = ws))) := by
  intro H Q hq
  refine enter154 (by simp) ?_
  have nz' : zs.length < 9223372036854775808 := by omega
  have nw' : ws.length < 9223372036854775808 := by omega
  by_cases hl : zs.length = ws.length
  rotate_left
  · have e : decide (zs = ws) = false := decide_eq_false fun h => hl (congrArg _ h)
    rw [e] at hq
    simp (disch := first | assumption | (apply Ap.symm; assumption) | omega | decide | (simp only [Xd] <;> omega)) only [ac154, len_rw, nz', nw', hl, rs154, ↓Xa, Xb, Xc, ↓reduceIte, Nat.reduceLT, Nat.reduceEqDiff, Nat.reduceBEq, Nat.reduceLeDiff, Nat.reduceAdd, Nat.reduceMul]
    exact SetR.now hq
  simp (disch := first | assumption | (apply Ap.symm; assumption) | omega | decide | (simp only [Xd] <;> omega)) only [ac154, len_rw, nz', nw', hl, ↓Xa, Xb, Xc, ↓reduceIte, Nat.reduceLT, Nat.reduceEqDiff, Nat.reduceBEq, Nat.reduceLeDiff, Nat.reduceAdd, Nat.reduceMul]
  refine W_loop (fun s : Nat × AHeap => ⟨[], [(1, RefR ws t'), (2, .fn (.func g) [] []), (15, RowA zs t), (16, .int .i64 (ws.length : Int)), (17, .int .i64 s.1)], s.2⟩) (fun s => s.1 ≤ ws.length ∧ Le H s.2 ∧ zs.take s.1 = ws.take s.1) (fun s => ws.length - s.1) (0, H) (Settle.now (by simp [hl])) ⟨Nat.zero_le _, Le.refl H, by simp⟩ ?_
  rintro ⟨i, G⟩ ⟨h1, hG, ht⟩
  dsimp only at h1 hG ht ⊢
  by_cases hi : i < ws.length
  · have hiz : i < zs.length := by omega
    simp (disch := first | assumption | (apply Ap.symm; assumption) | omega | decide | (simp only [Xd] <;> omega)) only [hi, hiz, idx_IC, load_IC, ↓Xa, Xb, Xc, ↓reduceIte, Nat.reduceLT, Nat.reduceEqDiff, Nat.reduceBEq, Nat.reduceLeDiff, Nat.reduceAdd, Nat.reduceMul]
    refine alloc_i fun q1 hq1 => ?_
    simp (disch := first | assumption | (apply Ap.symm; assumption) | omega | decide | (simp only [Xd] <;> omega)) only [cells_IntA, fold_IntA, hi, idx_RC, load_RC, ↓Xa, Xb, Xc, ↓reduceIte, Nat.reduceLT, Nat.reduceEqDiff, Nat.reduceBEq, Nat.reduceLeDiff, Nat.reduceAdd, Nat.reduceMul]
    refine alloc_i fun q2 hq2 => ?_
    obtain ⟨a21, hq2'⟩ := upd_none.1 hq2
    have hl2 : ∀ {x y : Option ABlk}, Le H ((G.upd q1 x).upd q2 y) := fun {x y} => (hG.updB (hG.none hq1)).updB (hG.none hq2')
    have a12 := a21.symm
    simp (disch := first | assumption | (apply Ap.symm; assumption) | omega | decide | (simp only [Xd] <;> omega)) only [cells_IntA, fold_IntA, cells_RefA, fold_RefA, a21, a12, ↓Xa, Xb, Xc, ↓reduceIte, Nat.reduceLT, Nat.reduceEqDiff, Nat.reduceBEq, Nat.reduceLeDiff, Nat.reduceAdd, Nat.reduceMul]
    refine (hg (zs[i]) (ws[i]) (List.getElem_mem hiz) (List.getElem_mem hi)).call ?_
    by_cases he : zs[i] = ws[i]
    · simp (disch := first | assumption | (apply Ap.symm; assumption) | omega | decide | (simp only [Xd] <;> omega)) only [he, ↓Xa, Xb, Xc, ↓reduceIte, Nat.reduceLT, Nat.reduceEqDiff, Nat.reduceBEq, Nat.reduceLeDiff, Nat.reduceAdd, Nat.reduceMul]
      refine Settle.now ⟨(i + 1, _), by dsimp only; omega, ⟨by dsimp only; omega, hl2, ?_⟩, rfl⟩
      dsimp only
      rw [← List.take_append_getElem hiz, ← List.take_append_getElem hi, ht, he]
    · have e : decide (zs = ws) = false := decide_eq_false fun h => he (by subst h; rfl)
      rw [e] at hq
      simp (disch := first | assumption | (apply Ap.symm; assumption) | omega | decide | (simp only [Xd] <;> omega)) only [he, rs154, ↓Xa, Xb, Xc, ↓reduceIte, Nat.reduceLT, Nat.reduceEqDiff, Nat.reduceBEq, Nat.reduceLeDiff, Nat.reduceAdd, Nat.reduceMul]
      exact SetR.dropTo hl2 (SetR.now hq)
  · obtain rfl : i = ws.length := by omega
    have e : decide (zs = ws) = true := decide_eq_true (by rwa [List.take_of_length_le (by omega), List.take_of_length_le (by omega)] at ht)
    rw [e] at hq
    simp (disch := first | assumption | (apply Ap.symm; assumption) | omega | decide | (simp only [Xd] <;> omega)) only [hi, ↓Xa, Xb, Xc, ↓reduceIte, Nat.reduceLT, Nat.reduceEqDiff, Nat.reduceBEq, Nat.reduceLeDiff, Nat.reduceAdd, Nat.reduceMul]
    refine Settle.now ?_
    simp (disch := first | assumption | (apply Ap.symm; assumption) | omega | decide | (simp only [Xd] <;> omega)) only [rs154, ↓Xa, Xb, Xc, ↓reduceIte, Nat.reduceLT, Nat.reduceEqDiff, Nat.reduceBEq, Nat.reduceLeDiff, Nat.reduceAdd, Nat.reduceMul]
    exact SetR.dropTo hG (SetR.now hq)
end Go.Proofs.YtanchgkiomfhhaaDoor.Fw

/- Rows of whole numbers read of a text: where it goes wrong, or the row: plain laws. -/
namespace Go.Proofs.YtanchgkiomfhhaaDoor.Fw
set_option linter.unusedSimpArgs false
set_option linter.unusedVariables false
open Go Go.Proofs.YtanchgkiomfhhaaDoor.Ma

def isNC (c : UInt8) : Bool := decide (c.toNat = 45 ∨ (48 ≤ c.toNat ∧ c.toNat ≤ 57))
def isNE (c : UInt8) : Bool := decide (c.toNat ≠ 32 ∧ c.toNat ≠ 93)
def segP (l : List UInt8) (a : Nat) : List UInt8 := (l.drop a).takeWhile isNC
def segR (l : List UInt8) (a : Nat) : List UInt8 := (l.drop a).takeWhile isNE
noncomputable def posP (l : List UInt8) : Nat := Classical.choose (isAt_ex l)
theorem posP_at (l : List UInt8) : IsAt l (posP l) := Classical.choose_spec (isAt_ex l)
theorem posP_of {l : List UInt8} {p : Nat} (h : IsAt l p) : posP l = p := isAt_fn (posP_at l) h
inductive Res where
  | ok (zs : List Int)
  | bad (n : Nat)
  | long (n : Nat)
noncomputable def rdF (l : List UInt8) : Nat → Nat → List Int → Res
  | 0, a, _ => .bad a
  | f + 1, a, out =>
    if posP (segP l a) = iFrom (segP l a) ∨ posP (segP l a) < (segP l a).length then .bad (a + posP (segP l a))
    else if out.length = 4096 then .long a
    else if a + (segP l a).length = l.length then .bad (a + (segP l a).length)
    else if (l.getD (a + (segP l a).length) 0).toNat = 32 then rdF l f (a + (segP l a).length + 1) (out ++ [iVal (segP l a)])
    else if (l.getD (a + (segP l a).length) 0).toNat ≠ 93 then .bad (a + (segP l a).length)
    else if a + (segP l a).length + 1 < l.length then .bad (a + (segP l a).length + 1)
    else .ok (out ++ [iVal (segP l a)])
noncomputable def readR (l : List UInt8) : Res :=
  if 65536 < l.length then .long 65536 else if (l.getD 0 0).toNat ≠ 91 then .bad 0 else if l = [91, 93] then .ok [] else if l.take 2 = [91, 93] then .bad 2 else rdF l (l.length + 1) 1 []
theorem tw_le {p : UInt8 → Bool} (l : List UInt8) (a : Nat) : ((l.drop a).takeWhile p).length ≤ l.length - a := by
  have := (List.takeWhile_sublist p (l := l.drop a)).length_le
  rwa [List.length_drop] at this
theorem tw_get {p : UInt8 → Bool} {l : List UInt8} {a j : Nat} (h1 : a ≤ j) (h2 : j < a + ((l.drop a).takeWhile p).length) : p (l.getD j 0) = true := by
  have hle := tw_le (p := p) l a
  have hj : j - a < ((l.drop a).takeWhile p).length := by omega
  have hm := List.getElem_mem hj
  have hp := List.all_eq_true.1 (List.all_takeWhile (p := p) (l := l.drop a)) _ hm
  have e : ((l.drop a).takeWhile p)[j - a] = l.getD j 0 := by
    have hpre := List.takeWhile_prefix p (l := l.drop a)
    have h3 := hpre.getElem hj
    rw [h3, List.getElem_drop, List.getD_eq_getElem?_getD, List.getElem?_eq_getElem (by omega), Option.getD_some]
    congr 1; omega
  rw [e] at hp; exact hp
theorem tw_end {p : UInt8 → Bool} {l : List UInt8} {a : Nat} (h : a + ((l.drop a).takeWhile p).length < l.length) : p (l.getD (a + ((l.drop a).takeWhile p).length) 0) = false := by
  have hd : (l.drop a).length = l.length - a := by simp
  have e := List.takeWhile_append_dropWhile (p := p) (l := l.drop a)
  have hne : (l.drop a).dropWhile p ≠ [] := fun h0 => by
    rw [h0, List.append_nil] at e
    have := congrArg List.length e
    omega
  have h1 := List.head_dropWhile_not p (l := l.drop a) hne
  have e2 : l.getD (a + ((l.drop a).takeWhile p).length) 0 = ((l.drop a).dropWhile p).head hne := by
    have : (l.drop a).getD (((l.drop a).takeWhile p).length) 0 = ((l.drop a).dropWhile p).head hne := by
      conv => lhs; rw [← e]
      rw [List.getD_eq_getElem?_getD, List.getElem?_append_right (by rw [e]; exact Nat.le_refl _), e, Nat.sub_self]
      rw [← List.head?_eq_getElem?, List.head?_eq_some_head hne]; rfl
    rw [← this]
    simp [List.getD_eq_getElem?_getD]
  rw [e2]; exact h1
theorem tw_eq {p : UInt8 → Bool} (l : List UInt8) (a : Nat) : (l.drop a).takeWhile p = (l.drop a).take (((l.drop a).takeWhile p).length) := by
  have h := (List.takeWhile_prefix p (l := l.drop a))
  exact (List.prefix_iff_eq_take.1 h)
end Go.Proofs.YtanchgkiomfhhaaDoor.Fw

/- Rows read: the reference's way is the program's; a row's text is read as it; what is read has its text. -/
namespace Go.Proofs.YtanchgkiomfhhaaDoor.Fw
set_option linter.unusedSimpArgs false
set_option linter.unusedVariables false
open Go Go.Proofs.YtanchgkiomfhhaaDoor.Ma

noncomputable def rrF (l : List UInt8) : Nat → Nat → List Int → Res
  | 0, a, _ => .bad a
  | f + 1, a, out =>
    if posP (segR l a) = iFrom (segR l a) ∨ posP (segR l a) < (segR l a).length then .bad (a + posP (segR l a))
    else if a + (segR l a).length = l.length then .bad (a + (segR l a).length)
    else if (l.getD (a + (segR l a).length) 0).toNat = 93 then
      if a + (segR l a).length + 1 < l.length then .bad (a + (segR l a).length + 1) else .ok (out ++ [iVal (segR l a)])
    else rrF l f (a + (segR l a).length + 1) (out ++ [iVal (segR l a)])
noncomputable def readRR (l : List UInt8) : Res :=
  if (l.getD 0 0).toNat ≠ 91 then .bad 0 else if l.take 2 = [91, 93] then (if 2 < l.length then .bad 2 else .ok []) else rrF l (l.length + 1) 1 []
theorem getD_app_l {s t : List UInt8} {i : Nat} (h : i < s.length) : (s ++ t).getD i 0 = s.getD i 0 := by
  rw [List.getD_eq_getElem?_getD, List.getElem?_append_left h, List.getD_eq_getElem?_getD]
theorem getD_app_c {s t : List UInt8} {c : UInt8} : (s ++ c :: t).getD s.length 0 = c := by
  rw [List.getD_eq_getElem?_getD, List.getElem?_append_right (Nat.le_refl _)]; simp
theorem isAt_more {seg rest : List UInt8} {c : UInt8} {p : Nat} (hc : isNC c = false) (h : IsAt seg p) : IsAt (seg ++ c :: rest) p ∧ iFrom (seg ++ c :: rest) = iFrom seg := by
  have hc' := of_decide_eq_false hc
  have hf : iFrom (seg ++ c :: rest) = iFrom seg := by
    unfold iFrom
    by_cases h0 : seg = []
    · subst h0
      have e : ([] ++ c :: rest : List UInt8).getD 0 0 = c := rfl
      have e2 : ([] : List UInt8).getD 0 0 = 0 := rfl
      rw [e, e2, if_neg (by omega), if_neg (by decide)]
    · rw [getD_app_l (List.length_pos_iff.2 h0)]
  have hfl := iFrom_le seg
  have eqv : ∀ j, j < seg.length → (iBad (seg ++ c :: rest) j ↔ iBad seg j) := fun j hj => by
    unfold iBad
    rw [hf, getD_app_l hj]
    by_cases h1 : iFrom seg < seg.length
    · rw [getD_app_l h1]
    · have : ¬ j = iFrom seg + 1 := by omega
      have : ¬ j = iFrom seg := by omega
      simp only [*, false_and, or_false, false_or]
  obtain ⟨a, b, d, e⟩ := h
  refine ⟨⟨by rw [hf]; exact a, by simp; omega, ?_, fun j h1 h2 => ?_⟩, hf⟩
  · by_cases hp : p < seg.length
    · exact (eqv p hp).2 d
    · obtain rfl : p = seg.length := by omega
      unfold iBad
      rw [getD_app_c]
      omega
  · rw [hf] at h1
    have hj : j < seg.length := by omega
    exact fun hb => e j h1 h2 ((eqv j hj).1 hb)
theorem nc_ne {c : UInt8} (h : isNC c = true) : isNE c = true := by
  have h := of_decide_eq_true h
  exact decide_eq_true (by omega)
theorem segR_eq (l : List UInt8) (a : Nat) : segR l a = segP l a ∨ ∃ c rest, segR l a = segP l a ++ c :: rest ∧ isNC c = false ∧ isNE c = true ∧ a + (segP l a).length < l.length ∧ l.getD (a + (segP l a).length) 0 = c := by
  have gen : ∀ m : List UInt8, m.takeWhile isNE = m.takeWhile isNC ∨ ∃ c rest, m.takeWhile isNE = m.takeWhile isNC ++ c :: rest ∧ isNC c = false ∧ isNE c = true ∧ (m.takeWhile isNC).length < m.length ∧ m.getD ((m.takeWhile isNC).length) 0 = c := by
    intro m
    induction m with
    | nil => exact .inl rfl
    | cons x m ih =>
      by_cases h1 : isNC x = true
      · rw [List.takeWhile_cons_of_pos h1, List.takeWhile_cons_of_pos (nc_ne h1)]
        rcases ih with e | ⟨c, rest, e, e1, e2, e3, e4⟩
        · exact .inl (by rw [e])
        · exact .inr ⟨c, rest, by rw [e]; rfl, e1, e2, by simpa using e3, by simpa using e4⟩
      · rw [List.takeWhile_cons_of_neg h1]
        by_cases h2 : isNE x = true
        · rw [List.takeWhile_cons_of_pos h2]
          exact .inr ⟨x, _, rfl, by simpa using h1, h2, by simp, rfl⟩
        · rw [List.takeWhile_cons_of_neg h2]; exact .inl rfl
  rcases gen (l.drop a) with e | ⟨c, rest, e, e1, e2, e3, e4⟩
  · exact .inl e
  · refine .inr ⟨c, rest, e, e1, e2, by rw [List.length_drop] at e3; unfold segP; omega, ?_⟩
    rw [← e4]; simp [segP, List.getD_eq_getElem?_getD]
theorem rdF_rr (l : List UInt8) : ∀ f a out, a ≤ l.length → out.length + (l.length - a) < 4096 → rdF l f a out = rrF l f a out
  | 0, _, _, _, _ => rfl
  | f + 1, a, out, ha, hcap => by
    have hp := posP_at (segP l a)
    have hle : (segP l a).length ≤ l.length - a := tw_le l a
    rcases segR_eq l a with e | ⟨c, rest, e, hc, hne, hlt, hcl⟩
    · unfold rdF rrF
      rw [e]
      split
      · rfl
      · rw [if_neg (by omega)]
        split
        · rfl
        · rename_i h1 h2
          have hlt : a + (segP l a).length < l.length := by omega
          have hsep : (l.getD (a + (segP l a).length) 0).toNat = 32 ∨ (l.getD (a + (segP l a).length) 0).toNat = 93 := by
            have := tw_end (p := isNE) (l := l) (a := a) (by show a + (segR l a).length < _; rw [e]; exact hlt)
            have h4 := of_decide_eq_false this
            have e5 : ((l.drop a).takeWhile isNE).length = (segP l a).length := congrArg List.length e
            rw [e5] at h4
            omega
          rcases hsep with h3 | h3
          · rw [if_pos h3, if_neg (by omega)]
            exact rdF_rr l f _ _ (by omega) (by simp; omega)
          · rw [if_neg (by omega), if_neg (by omega), if_pos h3]
    · obtain ⟨hm, hf⟩ := isAt_more (rest := rest) hc hp
      have hpR : posP (segR l a) = posP (segP l a) := by rw [e]; exact posP_of hm
      have hfR : iFrom (segR l a) = iFrom (segP l a) := by rw [e]; exact hf
      have hlR : (segP l a).length < (segR l a).length := by rw [e]; simp
      have hple := hp.2.1
      have h32 := of_decide_eq_true hne
      unfold rdF rrF
      conv => rhs; rw [hpR, hfR, if_pos (.inr (by omega))]
      split
      · rfl
      · rw [if_neg (by omega), if_neg (by omega), hcl, if_neg h32.1, if_pos h32.2]
        congr 1; omega
end Go.Proofs.YtanchgkiomfhhaaDoor.Fw

/- Rows read: a row's text is read as it; what is read has its text. -/
namespace Go.Proofs.YtanchgkiomfhhaaDoor.Fw
set_option linter.unusedSimpArgs false
set_option linter.unusedVariables false
open Go Go.Proofs.YtanchgkiomfhhaaDoor.Ma

theorem rdF_ok (l : List UInt8) : ∀ f a out zs, a ≤ l.length → rdF l f a out = .ok zs → ∃ r, r ≠ [] ∧ zs = out ++ r ∧ l.drop a = joinT (r.map iText) ++ [93] ∧ ∀ z, z ∈ r → z.natAbs < 10 ^ l.length
  | 0, _, _, _, _, h => by simp [rdF] at h
  | f + 1, a, out, zs, ha, h => by
    unfold rdF at h
    have hp := posP_at (segP l a)
    have hle : (segP l a).length ≤ l.length - a := tw_le l a
    split at h
    · cases h
    · rename_i h1
      have hpe : posP (segP l a) = (segP l a).length := by have := hp.2.1; omega
      rw [hpe] at hp h1
      have hne : (segP l a).length ≠ iFrom (segP l a) := fun e => h1 (.inl e)
      have htx := iText_iVal hp hne
      have hb : (iVal (segP l a)).natAbs < 10 ^ l.length := by
        unfold iVal
        rw [sg_abs]
        refine Nat.lt_of_lt_of_le (decV_lt fun b hb => ((isAt_good hp hne).2.1 b hb).2) (Nat.pow_le_pow_right (by omega) (by simp; omega))
      have hsplit : l.drop a = segP l a ++ l.drop (a + (segP l a).length) := by
        have e := tw_eq (p := isNC) l a
        conv => lhs; rw [← List.take_append_drop ((segP l a).length) (l.drop a)]
        rw [List.drop_drop]
        congr 1
        exact e.symm
      split at h
      · cases h
      · split at h
        · cases h
        · rename_i h3
          have hlt : a + (segP l a).length < l.length := by omega
          have hdc : l.drop (a + (segP l a).length) = l.getD (a + (segP l a).length) 0 :: l.drop (a + (segP l a).length + 1) := by
            rw [List.drop_eq_getElem_cons hlt, List.getD_eq_getElem?_getD, List.getElem?_eq_getElem hlt, Option.getD_some]
          split at h
          · rename_i h4
            obtain ⟨r, r1, r2, r3, r4⟩ := rdF_ok l f _ _ zs (by omega) h
            refine ⟨iVal (segP l a) :: r, by simp, by rw [r2]; simp, ?_, fun z hz => ?_⟩
            · have hc : l.getD (a + (segP l a).length) 0 = 32 := UInt8.toNat_inj.1 h4
              rw [hsplit, hdc, hc, r3]
              cases r with
              | nil => exact absurd rfl r1
              | cons y r => simp [joinT, htx]
            · rcases List.mem_cons.1 hz with rfl | hz
              · exact hb
              · exact r4 z hz
          · split at h
            · cases h
            · split at h
              · cases h
              · rename_i h4 h5 h6
                injection h with h
                refine ⟨[iVal (segP l a)], by simp, h.symm, ?_, fun z hz => by rw [List.mem_singleton.1 hz]; exact hb⟩
                have hc : l.getD (a + (segP l a).length) 0 = 93 := UInt8.toNat_inj.1 (by
                  have : (l.getD (a + (segP l a).length) 0).toNat = 93 := Classical.not_not.1 h5
                  rw [this]; rfl)
                rw [hsplit, hdc, hc, List.drop_eq_nil_of_le (by omega)]
                simp [joinT, htx]
theorem readR_ok {l : List UInt8} {zs : List Int} (h : readR l = .ok zs) : l = rowT zs ∧ ∀ z, z ∈ zs → z.natAbs < 10 ^ l.length := by
  unfold readR at h
  split at h
  · cases h
  · split at h
    · cases h
    · rename_i h1
      split at h
      · rename_i h2
        injection h with h
        subst h
        exact ⟨h2, fun z hz => by simp at hz⟩
      · split at h
        · cases h
        · have h91 : l.getD 0 0 = 91 := UInt8.toNat_inj.1 (by
            have : (l.getD 0 0).toNat = 91 := Classical.not_not.1 h1
            rw [this]; rfl)
          cases l with
          | nil => simp at h91
          | cons c l =>
            have hc : c = 91 := h91
            subst hc
            obtain ⟨r, _, r2, r3, r4⟩ := rdF_ok _ _ 1 [] zs (by simp) h
            rw [List.nil_append] at r2
            subst r2
            exact ⟨by unfold rowT; rw [List.cons_append, ← r3]; rfl, r4⟩
end Go.Proofs.YtanchgkiomfhhaaDoor.Fw

/- Polynomials: trimmed, the same, copied. -/
namespace Go.Proofs.YtanchgkiomfhhaaDoor.Fw
set_option linter.unusedSimpArgs false
set_option linter.unusedVariables false
open Go Go.Proofs.YtanchgkiomfhhaaDoor.Ma
set_option maxRecDepth 20000

theorem iText_inj {x y : Int} : iText x = iText y ↔ x = y := by
  constructor
  · intro h
    obtain ⟨_, _, h1⟩ := iText_at x
    obtain ⟨_, _, h2⟩ := iText_at y
    rw [← h1, ← h2, h]
  · rintro rfl; rfl
theorem is20a_fn {x y : Int} {k : Nat} (hx : Bd k x) (hy : Bd k y) (hk : k ≤ 1000000) : PFn Tryd.prog 155 [IntA x, RefA y false] (.bool (decide (x = y))) := by
  intro H Q hq
  refine enter155 (by simp) ?_
  have e : decide (iText x = iText y) = decide (x = y) := by simp [iText_inj]
  simp (disch := first | assumption | (apply Ap.symm; assumption) | omega | decide | (simp only [Xd] <;> omega)) only [ac155, cells_IntA, ↓Xa, Xb, Xc, ↓reduceIte, Nat.reduceLT, Nat.reduceEqDiff, Nat.reduceBEq, Nat.reduceLeDiff, Nat.reduceAdd, Nat.reduceMul]
  refine alloc_i fun p1 hp1 => ?_
  have n1 := hp1
  simp (disch := first | assumption | (apply Ap.symm; assumption) | omega | decide | (simp only [Xd] <;> omega)) only [cells_RefA, ↓Xa, Xb, Xc, ↓reduceIte, Nat.reduceLT, Nat.reduceEqDiff, Nat.reduceBEq, Nat.reduceLeDiff, Nat.reduceAdd, Nat.reduceMul]
  refine alloc_i fun p2 hp2 => ?_
  have n2 := hp2
  simp only [upd_none] at n2
  obtain ⟨_, n2⟩ := n2
  simp (disch := first | assumption | (apply Ap.symm; assumption) | omega | decide | (simp only [Xd] <;> omega)) only [cells_IntA, cells_RefA, fold_IntA, fold_RefA, ↓Xa, Xb, Xc, ↓reduceIte, Nat.reduceLT, Nat.reduceEqDiff, Nat.reduceBEq, Nat.reduceLeDiff, Nat.reduceAdd, Nat.reduceMul]
  refine (itext_fn hx hk).dcall ?_
  simp (disch := first | assumption | (apply Ap.symm; assumption) | omega | decide | (simp only [Xd] <;> omega)) only [cells_RefA, fold_RefA, ↓Xa, Xb, Xc, ↓reduceIte, Nat.reduceLT, Nat.reduceEqDiff, Nat.reduceBEq, Nat.reduceLeDiff, Nat.reduceAdd, Nat.reduceMul]
  refine (rtext_fn false hy hk).call ?_
  simp (disch := first | assumption | (apply Ap.symm; assumption) | omega | decide | (simp only [Xd] <;> omega)) only [eql_Sx, e, rs155, ↓Xa, Xb, Xc, ↓reduceIte, Nat.reduceLT, Nat.reduceEqDiff, Nat.reduceBEq, Nat.reduceLeDiff, Nat.reduceAdd, Nat.reduceMul]
  exact SetR.dropTo (((Le.refl H).updB n1).updB n2) (SetR.now hq)
theorem is20_fn {zs : List Int} {k : Nat} {t t' : Bool} (hz : RB4 k zs) (hk : k ≤ 1000000) : PFn Tryd.prog 73 [RowA zs t, RefR zs t'] (.bool true) := by
  intro H Q hq
  refine enter73 (by simp) ?_
  simp (disch := first | assumption | (apply Ap.symm; assumption) | omega | decide | (simp only [Xd] <;> omega)) only [ac73, ↓Xa, Xb, Xc, ↓reduceIte, Nat.reduceLT, Nat.reduceEqDiff, Nat.reduceBEq, Nat.reduceLeDiff, Nat.reduceAdd, Nat.reduceMul]
  have h := eqfR_fn (zs := zs) (ws := zs) (t := t) (t' := t') (g := 155) (fun x y hx hy => is20a_fn (hz.1 _ hx) (hz.1 _ hy) hk) hz.2 hz.2
  rw [decide_eq_true rfl] at h
  refine h.call ?_
  simp (disch := first | assumption | (apply Ap.symm; assumption) | omega | decide | (simp only [Xd] <;> omega)) only [rs73, ↓Xa, Xb, Xc, ↓reduceIte, Nat.reduceLT, Nat.reduceEqDiff, Nat.reduceBEq, Nat.reduceLeDiff, Nat.reduceAdd, Nat.reduceMul]
  exact SetR.now hq
end Go.Proofs.YtanchgkiomfhhaaDoor.Fw

/- Polynomials multiplied. -/
namespace Go.Proofs.YtanchgkiomfhhaaDoor.Fw
set_option linter.unusedSimpArgs false
set_option linter.unusedVariables false
open Go Go.Proofs.YtanchgkiomfhhaaDoor.Ma
set_option maxRecDepth 20000

def cs (a b : List Int) (i k n : Nat) : Int := mf (a.take i) (co b) n + if i ≤ n ∧ n - i < k then co a i * co b (n - i) else 0
def csL (a b : List Int) (N i k : Nat) : List Int := (List.range N).map (cs a b i k)
theorem csL_len (a b : List Int) (N i k : Nat) : (csL a b N i k).length = N := by simp [csL]
theorem csL_0 (a b : List Int) (N : Nat) : csL a b N 0 0 = List.replicate N 0 := by
  refine List.ext_getElem (by simp [csL]) fun i h1 h2 => ?_
  simp [csL, cs, mf]
theorem csL_next (a b : List Int) {N i : Nat} (hi : i < a.length) : csL a b N i b.length = csL a b N (i + 1) 0 := by
  refine List.ext_getElem (by simp [csL]) fun n h1 h2 => ?_
  simp only [csL, List.getElem_map, List.getElem_range, cs]
  rw [← List.take_append_getElem hi, mf_snoc, List.length_take, Nat.min_eq_left (by omega), co_get hi]
  by_cases h : i ≤ n
  · by_cases h3 : n - i < b.length
    · rw [if_pos ⟨h, h3⟩, if_pos h, if_neg (by omega)]; omega
    · rw [if_neg (by omega), if_pos h, if_neg (by omega), co_ge (by omega)]; simp
  · rw [if_neg (by omega), if_neg h, if_neg (by omega)]; simp
theorem csL_end {a b : List Int} (ha : a.length ≠ 0) (hb : b.length ≠ 0) : csL a b (a.length + b.length - 1) a.length 0 = mulP a b := by
  unfold mulP csL
  rw [if_neg (by omega)]
  congr 1
  funext n
  simp [cs, List.take_of_length_le]
theorem cs_at {a b : List Int} {N i k : Nat} (h : i + k < N) : (csL a b N i k)[i + k]'(by rw [csL_len]; exact h) = mf (a.take i) (co b) (i + k) := by
  simp [csL, cs]
theorem csL_step {a b : List Int} {N i k : Nat} (h : i + k < N) : (csL a b N i k).set (i + k) (mf (a.take i) (co b) (i + k) + co a i * co b k) = csL a b N i (k + 1) := by
  refine List.ext_getElem (by simp [csL]) fun n h1 h2 => ?_
  rw [List.getElem_set]
  simp only [csL, List.getElem_map, List.getElem_range, cs]
  split
  · rename_i e; subst e
    rw [if_pos (by omega), show i + k - i = k by omega]
  · by_cases h3 : i ≤ n ∧ n - i < k
    · rw [if_pos h3, if_pos (by omega)]
    · rw [if_neg h3, if_neg (by omega)]
def PB (k X Y : Nat) (zs ws : List Int) : Prop := (∀ z, z ∈ zs → z.natAbs ≤ X) ∧ (∀ z, z ∈ ws → z.natAbs ≤ Y) ∧ zs.length * (X * Y) < 4294967296 ^ k ∧ X < 4294967296 ^ k ∧ Y < 4294967296 ^ k
theorem bd_of {k X : Nat} {z : Int} (h : z.natAbs ≤ X) (hX : X < 4294967296 ^ k) : Bd k z := by
  unfold Bd; omega
theorem co_bound {Y : Nat} {ws : List Int} (h : ∀ z, z ∈ ws → z.natAbs ≤ Y) (j : Nat) : (co ws j).natAbs ≤ Y := by
  by_cases hj : j < ws.length
  · rw [co_get hj]; exact h _ (List.getElem_mem hj)
  · rw [co_ge (by omega)]; simp
theorem PB.part {k X Y i n : Nat} {zs ws : List Int} (h : PB k X Y zs ws) : Bd k (mf (zs.take i) (co ws) n) := by
  refine bd_of (Nat.le_trans (mf_bound (co_bound h.2.1) _ _ fun x hx => h.1 x (List.mem_of_mem_take hx)) (Nat.mul_le_mul_right _ (List.length_take_le' i zs))) h.2.2.1
theorem PB.mul {k X Y i m : Nat} {zs ws : List Int} (h : PB k X Y zs ws) (hi : i < zs.length) : Bd k (co zs i * co ws m) := by
  refine bd_of (X := X * Y) ?_ (Nat.lt_of_le_of_lt (Nat.le_mul_of_pos_left _ (by omega)) h.2.2.1)
  rw [Int.natAbs_mul]
  exact Nat.mul_le_mul (co_bound h.1 i) (co_bound h.2.1 m)
theorem PB.all {k X Y : Nat} {zs ws : List Int} (h : PB k X Y zs ws) : ∀ z, z ∈ mulP zs ws → Bd k z := fun z hz => by
  obtain ⟨n, hn, rfl⟩ := List.getElem_of_mem hz
  rw [← co_get hn, co_mul]
  have := h.part (i := zs.length) (n := n)
  rwa [List.take_length] at this
theorem ld_IC {L ty es m : Nat} {c : List Int} {K : AV → Prop} (hL : (IC c).length = L) (h : m < c.length) : ldP (some 2) L (m * 2) K (some (.row ty es (IC c))) ↔ K (IntA (c[m])) := by
  have hl := IC_len c
  subst hL
  have h1 : m * 2 + 2 ≤ c.length * 2 := by omega
  simp only [ldP, ldC, IC_drop c m h]
  simp [IntA_eq, hl, h1]
theorem mul20_run {zs ws : List Int} {t t' : Bool} {k X Y : Nat} (hb : PB k X Y zs ws) (hk : k ≤ 1000000) (lz : zs.length ≤ 10000) (lw : ws.length ≤ 10000) (hz0 : zs.length ≠ 0) (hw0 : ws.length ≠ 0) {H : AHeap} {Q : AV → AHeap → Prop}
    (hq : ∀ b, H b = none → Q (.tup [.own b ((zs.length + ws.length - 1) * 2) 0 (zs.length + ws.length - 1) true, .int .i64 ((zs.length * ws.length : Nat) : Int)]) (H.upd b (some (.row 28 2 (IC (mulP zs ws)))))) : Run Tryd.prog 71 [RowA zs t, RowA ws t'] H Q := by
  refine enter71 (by simp) ?_
  have nz : zs.length < 9223372036854775808 := by omega
  have nw : ws.length < 9223372036854775808 := by omega
  have hN : zs.length + ws.length - 1 ≤ 100000 := by omega
  have h1N : 1 ≤ zs.length + ws.length := by omega
  simp (disch := first | assumption | (apply Ap.symm; assumption) | omega | decide | (simp only [Xd] <;> omega)) only [ac71, len_rw, nz, nw, hz0, hw0, h1N, ↓Xa, Xb, Xc, ↓reduceIte, Nat.reduceLT, Nat.reduceEqDiff, Nat.reduceBEq, Nat.reduceLeDiff, Nat.reduceAdd, Nat.reduceMul]
  refine (mks_I hN).2 fun b hb0 => ?_
  rw [← csL_0 zs ws]
  simp (disch := first | assumption | (apply Ap.symm; assumption) | omega | decide | (simp only [Xd] <;> omega)) only [len_rw, nz, nw, ↓Xa, Xb, Xc, ↓reduceIte, Nat.reduceLT, Nat.reduceEqDiff, Nat.reduceBEq, Nat.reduceLeDiff, Nat.reduceAdd, Nat.reduceMul]
  generalize hNe : zs.length + ws.length - 1 = N at *
  refine W_loop (fun s : Nat × AHeap => ⟨[], [(1, RowA ws t'), (6, .own b (N * 2) 0 N true), (7, .int .i64 ((s.1 * ws.length : Nat) : Int)), (27, RowA zs t), (28, .int .i64 (zs.length : Int)), (29, .int .i64 s.1)], s.2.upd b (some (.row 28 2 (IC (csL zs ws N s.1 0))))⟩)
    (fun s => s.1 ≤ zs.length ∧ Le H s.2 ∧ s.2 b = none) (fun s => zs.length - s.1) (0, H) (Settle.now (by simp)) ⟨Nat.zero_le _, Le.refl H, hb0⟩ ?_
  rintro ⟨i, G⟩ ⟨h1, hG, hGb⟩
  dsimp only at h1 hG hGb ⊢
  by_cases hi : i < zs.length
  rotate_left
  · obtain rfl : i = zs.length := by omega
    simp (disch := first | assumption | (apply Ap.symm; assumption) | omega | decide | (simp only [Xd] <;> omega)) only [hi, ↓Xa, Xb, Xc, ↓reduceIte, Nat.reduceLT, Nat.reduceEqDiff, Nat.reduceBEq, Nat.reduceLeDiff, Nat.reduceAdd, Nat.reduceMul]
    refine Settle.now ?_
    simp (disch := first | assumption | (apply Ap.symm; assumption) | omega | decide | (simp only [Xd] <;> omega)) only [rs71, ↓Xa, Xb, Xc, ↓reduceIte, Nat.reduceLT, Nat.reduceEqDiff, Nat.reduceBEq, Nat.reduceLeDiff, Nat.reduceAdd, Nat.reduceMul]
    have e := csL_end hz0 hw0
    rw [hNe] at e
    rw [e]
    refine SetR.dropTo (H := H.upd b (some (.row 28 2 (IC (mulP zs ws))))) ?_ (SetR.now (hq b hb0))
    intro o x ho
    by_cases e : o = b
    · subst e; rw [upd_same] at ho ⊢; exact ho
    · rw [upd_other _ _ e] at ho ⊢; exact hG o x ho
  · simp (disch := first | assumption | (apply Ap.symm; assumption) | omega | decide | (simp only [Xd] <;> omega)) only [hi, idx_IC, load_IC, ↓Xa, Xb, Xc, ↓reduceIte, Nat.reduceLT, Nat.reduceEqDiff, Nat.reduceBEq, Nat.reduceLeDiff, Nat.reduceAdd, Nat.reduceMul]
    refine alloc_i fun q1 hq1 => ?_
    obtain ⟨a1, n1⟩ := upd_none.1 hq1
    have a1' := a1.symm
    rw [upd_comm _ _ _ a1']
    simp (disch := first | assumption | (apply Ap.symm; assumption) | omega | decide | (simp only [Xd] <;> omega)) only [cells_IntA, fold_IntA, a1, a1', len_rw, nw, ↓Xa, Xb, Xc, ↓reduceIte, Nat.reduceLT, Nat.reduceEqDiff, Nat.reduceBEq, Nat.reduceLeDiff, Nat.reduceAdd, Nat.reduceMul]
    refine W_loop (fun s : Nat × AHeap => ⟨[], [(1, RowA ws t'), (6, .own b (N * 2) 0 N true), (7, .int .i64 ((i * ws.length + s.1 : Nat) : Int)), (8, .int .i64 (i : Int)), (9, .ptr q1 2 0), (27, RowA zs t), (28, .int .i64 (zs.length : Int)), (29, .int .i64 (i : Int)), (34, RowA ws t'), (35, .int .i64 (ws.length : Int)), (36, .int .i64 s.1)], s.2.upd b (some (.row 28 2 (IC (csL zs ws N i s.1))))⟩)
      (fun s => s.1 ≤ ws.length ∧ Le H s.2 ∧ s.2 b = none ∧ s.2 q1 = some (.row 28 0 [IntB (zs[i]), IntD (zs[i])])) (fun s => ws.length - s.1) (0, G.upd q1 (some (.row 28 0 [IntB (zs[i]), IntD (zs[i])]))) (Settle.now (by simp)) ⟨Nat.zero_le _, hG.updB (hG.none n1), by dsimp only; rw [upd_otherA a1']; exact hGb, upd_same _ _ _⟩ ?_
    rintro ⟨j, M⟩ ⟨h2, hM, hMb, hMq⟩
    dsimp only at h2 hM hMb hMq ⊢
    by_cases hj : j < ws.length
    rotate_left
    · obtain rfl : j = ws.length := by omega
      simp (disch := first | assumption | (apply Ap.symm; assumption) | omega | decide | (simp only [Xd] <;> omega)) only [hj, ↓Xa, Xb, Xc, ↓reduceIte, Nat.reduceLT, Nat.reduceEqDiff, Nat.reduceBEq, Nat.reduceLeDiff, Nat.reduceAdd, Nat.reduceMul]
      refine Settle.now ?_
      simp (disch := first | assumption | (apply Ap.symm; assumption) | omega | decide | (simp only [Xd] <;> omega)) only [↓Xa, Xb, Xc, ↓reduceIte, Nat.reduceLT, Nat.reduceEqDiff, Nat.reduceBEq, Nat.reduceLeDiff, Nat.reduceAdd, Nat.reduceMul]
      rw [csL_next zs ws hi, ← Nat.succ_mul]
      exact Settle.now ⟨(i + 1, M), by dsimp only; omega, ⟨by dsimp only; omega, hM, hMb⟩, rfl⟩
    · simp (disch := first | assumption | (apply Ap.symm; assumption) | omega | decide | (simp only [Xd] <;> omega)) only [hj, idx_IC, load_IC, ↓Xa, Xb, Xc, ↓reduceIte, Nat.reduceLT, Nat.reduceEqDiff, Nat.reduceBEq, Nat.reduceLeDiff, Nat.reduceAdd, Nat.reduceMul]
      refine alloc_i fun q2 hq2 => ?_
      obtain ⟨a2, n2⟩ := upd_none.1 hq2
      have a2' := a2.symm
      rw [upd_comm _ _ _ a2']
      have a21 := ne_of_some hMq n2
      have hij : i + j < N := by omega
      simp (disch := first | assumption | (apply Ap.symm; assumption) | omega | decide | (simp only [Xd] <;> omega)) only [cells_IntA, fold_IntA, a1, a1', a2, a2', a21, a21.symm, hMq, len_rw, nw, ↓Xa, Xb, Xc, ↓reduceIte, Nat.reduceLT, Nat.reduceEqDiff, Nat.reduceBEq, Nat.reduceLeDiff, Nat.reduceAdd, Nat.reduceMul]
      refine ⟨by rw [IC_len, csL_len], ?_⟩
      refine (ld_IC (by rw [IC_len, csL_len]) (by rw [csL_len]; exact hij)).2 ?_
      rw [cs_at hij]
      simp (disch := first | assumption | (apply Ap.symm; assumption) | omega | decide | (simp only [Xd] <;> omega)) only [a1, a1', a2, a2', a21, a21.symm, hMq, cells_IntA, fold_IntA, ↓Xa, Xb, Xc, ↓reduceIte, Nat.reduceLT, Nat.reduceEqDiff, Nat.reduceBEq, Nat.reduceLeDiff, Nat.reduceAdd, Nat.reduceMul]
      have hbz := bd_of (hb.1 _ (List.getElem_mem hi)) hb.2.2.2.1
      have hbw := bd_of (hb.2.1 _ (List.getElem_mem hj)) hb.2.2.2.2
      refine PFn.dcall (muli_fn hbz (by omega) hbw (by omega)) ?_
      simp (disch := first | assumption | (apply Ap.symm; assumption) | omega | decide | (simp only [Xd] <;> omega)) only [↓Xa, Xb, Xc, ↓reduceIte, Nat.reduceLT, Nat.reduceEqDiff, Nat.reduceBEq, Nat.reduceLeDiff, Nat.reduceAdd, Nat.reduceMul]
      have hbm := hb.mul (m := j) hi
      rw [co_get hi, co_get hj] at hbm
      refine PFn.dcall (addi_fn hb.part (by omega) hbm (by omega)) ?_
      simp (disch := first | assumption | (apply Ap.symm; assumption) | omega | decide | (simp only [Xd] <;> omega)) only [↓Xa, Xb, Xc, ↓reduceIte, Nat.reduceLT, Nat.reduceEqDiff, Nat.reduceBEq, Nat.reduceLeDiff, Nat.reduceAdd, Nat.reduceMul]
      have hcl : (IC (csL zs ws N i j)).length = N * 2 := by rw [IC_len, csL_len]
      refine ⟨hcl, ?_⟩
      have hib : (i + j) * 2 + 2 ≤ N * 2 := by omega
      simp (disch := first | assumption | (apply Ap.symm; assumption) | omega | decide | (simp only [Xd] <;> omega)) only [cells_IntA, stP_row, hcl, hib, List.length_cons, List.length_nil, ↓Xa, Xb, Xc, ↓reduceIte, Nat.reduceLT, Nat.reduceEqDiff, Nat.reduceBEq, Nat.reduceLeDiff, Nat.reduceAdd, Nat.reduceMul]
      have es : splice (IC (csL zs ws N i j)) ((i + j) * 2) [IntB (mf (zs.take i) (co ws) (i + j) + zs[i] * ws[j]), IntD (mf (zs.take i) (co ws) (i + j) + zs[i] * ws[j])] = IC (csL zs ws N i (j + 1)) := by
        have h := IC_set (v := mf (zs.take i) (co ws) (i + j) + zs[i] * ws[j]) (show i + j < (csL zs ws N i j).length by rw [csL_len]; exact hij)
        have h2 := csL_step (a := zs) (b := ws) hij
        rw [co_get hi, co_get hj] at h2
        rw [h2] at h
        exact h
      have hil : i * ws.length ≤ 10000 * 10000 := Nat.mul_le_mul (by omega) lw
      rw [wn_i64 (by omega)]
      refine Settle.now ⟨(j + 1, M.upd q2 (some (.row 28 0 [IntB (ws[j]), IntD (ws[j])]))), by dsimp only; omega, ⟨by dsimp only; omega, hM.updB (hM.none n2), by dsimp only; rw [upd_otherA a2']; exact hMb, by dsimp only; rw [upd_otherA a21.symm]; exact hMq⟩, ?_⟩
      dsimp only
      rw [← es]; rfl
theorem pmul_fn {zs ws : List Int} {t t' : Bool} {k X Y : Nat} (hb : PB k X Y zs ws) (hk : k ≤ 1000000) (lz : zs.length ≤ 10000) (lw : ws.length ≤ 10000) : PFn Tryd.prog 71 [RowA zs t, RowA ws t'] (.tup [RowA (mulP zs ws) false, .int .i64 ((zs.length * ws.length : Nat) : Int)]) := by
  intro H Q hq
  have nz : zs.length < 9223372036854775808 := by omega
  have nw : ws.length < 9223372036854775808 := by omega
  by_cases hz0 : zs.length = 0
  · have e : mulP zs ws = [] := by unfold mulP; rw [if_pos (.inl hz0)]
    have e2 : zs.length * ws.length = 0 := by rw [hz0, Nat.zero_mul]
    rw [e, e2] at hq
    refine enter71 (by simp) ?_
    simp (disch := first | assumption | (apply Ap.symm; assumption) | omega | decide | (simp only [Xd] <;> omega)) only [ac71, len_rw, nz, nw, hz0, rs71, ↓Xa, Xb, Xc, ↓reduceIte, Nat.reduceLT, Nat.reduceEqDiff, Nat.reduceBEq, Nat.reduceLeDiff, Nat.reduceAdd, Nat.reduceMul]
    exact SetR.loose (SetR.now hq)
  by_cases hw0 : ws.length = 0
  · have e : mulP zs ws = [] := by unfold mulP; rw [if_pos (.inr hw0)]
    have e2 : zs.length * ws.length = 0 := by rw [hw0, Nat.mul_zero]
    rw [e, e2] at hq
    refine enter71 (by simp) ?_
    simp (disch := first | assumption | (apply Ap.symm; assumption) | omega | decide | (simp only [Xd] <;> omega)) only [ac71, len_rw, nz, nw, hz0, hw0, rs71, ↓Xa, Xb, Xc, ↓reduceIte, Nat.reduceLT, Nat.reduceEqDiff, Nat.reduceBEq, Nat.reduceLeDiff, Nat.reduceAdd, Nat.reduceMul]
    exact SetR.loose (SetR.now hq)
  refine Run.settle (mul20_run hb hk lz lw hz0 hw0 fun b hb0 => ?_)
  refine SetR.frz b (upd_same _ _ _) (SetR.loose ?_)
  rw [upd_upd, upd_back _ hb0]
  have hl : (IC (mulP zs ws)).length = (zs.length + ws.length - 1) * 2 := by rw [IC_len, mulP_len hz0 hw0]
  have e : loose (frz b 2 (IC (mulP zs ws)) (.tup [.own b ((zs.length + ws.length - 1) * 2) 0 (zs.length + ws.length - 1) true, .int .i64 ((zs.length * ws.length : Nat) : Int)])) = .tup [RowA (mulP zs ws) false, .int .i64 ((zs.length * ws.length : Nat) : Int)] := by
    simp [loose, loose2, loose1, frz, frz2, frz1, hl, mulP_len hz0 hw0, List.take_of_length_le]
  rw [e]
  exact SetR.now hq
end Go.Proofs.YtanchgkiomfhhaaDoor.Fw

/- Polynomials: they are multiplied. -/
namespace Go.Proofs.YtanchgkiomfhhaaDoor.Fw
set_option linter.unusedSimpArgs false
set_option linter.unusedVariables false
open Go Go.Proofs.YtanchgkiomfhhaaDoor.Ma
set_option maxRecDepth 20000

theorem iText_of {l : List UInt8} {n : Nat} (h : Ma.Good l) (e : decV l = n) : iText (n : Int) = l := by
  have := decT_decV h
  rw [e] at this
  unfold iText
  rw [if_neg (by omega)]
  exact this
theorem mul_known : mulP [1, 2] [3, 4, 5] = [3, 10, 13, 10] := by decide
theorem text_known : rowT [3, 10, 13, 10] = [91, 51, 32, 49, 48, 32, 49, 51, 32, 49, 48, 93] := by
  have e3 : iText 3 = [51] := iText_of (l := [51]) (n := 3) ⟨by simp, by simp [isDig], by simp⟩ rfl
  have e10 : iText 10 = [49, 48] := iText_of (l := [49, 48]) (n := 10) ⟨by simp, by simp [isDig], by simp⟩ rfl
  have e13 : iText 13 = [49, 51] := iText_of (l := [49, 51]) (n := 13) ⟨by simp, by simp [isDig], by simp⟩ rfl
  simp [rowT, joinT, e3, e10, e13]
theorem smallL {l : List Int} (h : ∀ n, n ∈ l → n.natAbs ≤ 1000) : Small l := fun n hn => by have := h n hn; omega
theorem RB4.small {l : List Int} (h : ∀ n, n ∈ l → n.natAbs ≤ 1000) (hl : l.length ≤ 1000000) : RB4 1 l := ⟨fun n hn => by have := h n hn; unfold Bd; omega, by omega⟩
theorem works20_fn : PFn Tryd.prog 23 [] (.bool true) := by
  intro H Q hq
  have l1 := list_fn (l := [1, 2]) (t := true) (smallL (by simp)) (by simp)
  have l2 := list_fn (l := [3, 4, 5]) (t := true) (smallL (by simp)) (by simp)
  have r1 := ref_fn (l := [3, 10, 13, 10]) (t := true) (smallL (by simp)) (by simp)
  have pb : PB 1 5 5 [1, 2] [3, 4, 5] := ⟨by simp, by simp, by simp, by omega, by omega⟩
  have m1 := pmul_fn (t := false) (t' := false) pb (by omega) (by simp) (by simp)
  rw [mul_known] at m1
  have hr : RB4 1 [3, 10, 13, 10] := RB4.small (by simp) (by simp)
  have i1 := is20_fn (t := false) (t' := false) hr (by omega)
  have t1 := ptext_fn (t := false) hr (by omega) (by simp)
  rw [text_known] at t1
  have d1 := deg_fn (t := false) hr (by omega) (by simp)
  rw [show degN [3, 10, 13, 10] = 4 by decide, show dn 4 = ((3 : Nat) : Int) from rfl] at d1
  have a1 : PFn Tryd.prog 25 [.seq 2 [.int .i64 ((1 : Nat) : Int), .int .i64 ((2 : Nat) : Int)] true] (ExtI [1, 2]) := l1
  have a2 : PFn Tryd.prog 25 [.seq 3 [.int .i64 ((3 : Nat) : Int), .int .i64 ((4 : Nat) : Int), .int .i64 ((5 : Nat) : Int)] true] (ExtI [3, 4, 5]) := l2
  have a3 : PFn Tryd.prog 31 [.seq 4 [.int .i64 ((3 : Nat) : Int), .int .i64 ((10 : Nat) : Int), .int .i64 ((13 : Nat) : Int), .int .i64 ((10 : Nat) : Int)] true] (RefR [3, 10, 13, 10] false) := r1
  have s2 : AV.str ⟨#[91, 51, 32, 49, 48, 32, 49, 51, 32, 49, 48, 93]⟩ = Sx [91, 51, 32, 49, 48, 32, 49, 51, 32, 49, 48, 93] := rfl
  refine enter23 (by simp) ?_
  simp (disch := first | assumption | (apply Ap.symm; assumption) | omega | decide | (simp only [Xd] <;> omega)) only [ac23, ↓Xa, Xb, Xc, ↓reduceIte, Nat.reduceLT, Nat.reduceEqDiff, Nat.reduceBEq, Nat.reduceLeDiff, Nat.reduceAdd, Nat.reduceMul]
  refine a1.call ?_
  simp (disch := first | assumption | (apply Ap.symm; assumption) | omega | decide | (simp only [Xd] <;> omega)) only [↓Xa, Xb, Xc, ↓reduceIte, Nat.reduceLT, Nat.reduceEqDiff, Nat.reduceBEq, Nat.reduceLeDiff, Nat.reduceAdd, Nat.reduceMul]
  refine a2.call ?_
  simp (disch := first | assumption | (apply Ap.symm; assumption) | omega | decide | (simp only [Xd] <;> omega)) only [↓Xa, Xb, Xc, ↓reduceIte, Nat.reduceLT, Nat.reduceEqDiff, Nat.reduceBEq, Nat.reduceLeDiff, Nat.reduceAdd, Nat.reduceMul]
  refine (m1.wk (.cons Wk.I (.cons Wk.I .nil))).call ?_
  simp (disch := first | assumption | (apply Ap.symm; assumption) | omega | decide | (simp only [Xd] <;> omega)) only [↓Xa, Xb, Xc, ↓reduceIte, Nat.reduceLT, Nat.reduceEqDiff, Nat.reduceBEq, Nat.reduceLeDiff, Nat.reduceAdd, Nat.reduceMul]
  refine a3.call ?_
  simp (disch := first | assumption | (apply Ap.symm; assumption) | omega | decide | (simp only [Xd] <;> omega)) only [↓Xa, Xb, Xc, ↓reduceIte, Nat.reduceLT, Nat.reduceEqDiff, Nat.reduceBEq, Nat.reduceLeDiff, Nat.reduceAdd, Nat.reduceMul]
  refine i1.call ?_
  simp (disch := first | assumption | (apply Ap.symm; assumption) | omega | decide | (simp only [Xd] <;> omega)) only [↓Xa, Xb, Xc, ↓reduceIte, Nat.reduceLT, Nat.reduceEqDiff, Nat.reduceBEq, Nat.reduceLeDiff, Nat.reduceAdd, Nat.reduceMul]
  refine t1.call ?_
  simp (disch := first | assumption | (apply Ap.symm; assumption) | omega | decide | (simp only [Xd] <;> omega)) only [eql_Sx, s2, ↓Xa, Xb, Xc, ↓reduceIte, Nat.reduceLT, Nat.reduceEqDiff, Nat.reduceBEq, Nat.reduceLeDiff, Nat.reduceAdd, Nat.reduceMul]
  refine d1.call ?_
  simp (disch := first | assumption | (apply Ap.symm; assumption) | omega | decide | (simp only [Xd] <;> omega)) only [eql_int, rs23, ↓Xa, Xb, Xc, ↓reduceIte, Nat.reduceLT, Nat.reduceEqDiff, Nat.reduceBEq, Nat.reduceLeDiff, Nat.reduceAdd, Nat.reduceMul]
  exact SetR.now hq
end Go.Proofs.YtanchgkiomfhhaaDoor.Fw

/- Polynomials: something done at each place of the longer one. -/
namespace Go.Proofs.YtanchgkiomfhhaaDoor.Fw
set_option linter.unusedSimpArgs false
set_option linter.unusedVariables false
open Go Go.Proofs.YtanchgkiomfhhaaDoor.Ma
set_option maxRecDepth 20000

end Go.Proofs.YtanchgkiomfhhaaDoor.Fw

/- Polynomials added, subtracted, scaled; bounds. -/
namespace Go.Proofs.YtanchgkiomfhhaaDoor.Fw
set_option linter.unusedSimpArgs false
set_option linter.unusedVariables false
open Go Go.Proofs.YtanchgkiomfhhaaDoor.Ma
set_option maxRecDepth 20000

def NB (X n : Nat) (zs : List Int) : Prop := (∀ z, z ∈ zs → z.natAbs ≤ X) ∧ zs.length ≤ n
theorem NB.co {X n : Nat} {zs : List Int} (h : NB X n zs) (i : Nat) : (co zs i).natAbs ≤ X := co_bound h.1 i
theorem NB.rb {X n k : Nat} {zs : List Int} (h : NB X n zs) (hX : X < 4294967296 ^ k) (hn : n ≤ 1000000) : RB4 k zs := ⟨fun z hz => bd_of (h.1 z hz) hX, by have := h.2; omega⟩
theorem NB.long {X Y Z n m : Nat} {f : Int → Int → Int} {zs ws : List Int} (hz : NB X n zs) (hw : NB Y m ws) (hf : ∀ x y : Int, x.natAbs ≤ X → y.natAbs ≤ Y → (f x y).natAbs ≤ Z) : NB Z (Nat.max n m) (longP f zs ws) := by
  refine ⟨fun z h => ?_, ?_⟩
  · obtain ⟨i, _, rfl⟩ := List.mem_map.1 h
    exact hf _ _ (hz.co i) (hw.co i)
  · rw [longP_len]
    have h1 := hz.2
    have h2 := hw.2
    have e1 : Nat.max zs.length ws.length = max zs.length ws.length := rfl
    have e2 : Nat.max n m = max n m := rfl
    omega
theorem NB.add {X Y n m : Nat} {zs ws : List Int} (hz : NB X n zs) (hw : NB Y m ws) : NB (X + Y) (Nat.max n m) (addP zs ws) := hz.long hw fun x y h1 h2 => by have := Int.natAbs_add_le x y; omega
theorem NB.sub {X Y n m : Nat} {zs ws : List Int} (hz : NB X n zs) (hw : NB Y m ws) : NB (X + Y) (Nat.max n m) (subP zs ws) := hz.long hw fun x y h1 h2 => by have := Int.natAbs_sub_le x y; omega
theorem NB.mul {X Y n m : Nat} {zs ws : List Int} (hz : NB X n zs) (hw : NB Y m ws) : NB (n * (X * Y)) (n + m) (mulP zs ws) := by
  refine ⟨fun z h => ?_, Nat.le_trans (mulP_le zs ws) (Nat.add_le_add hz.2 hw.2)⟩
  obtain ⟨i, hi, rfl⟩ := List.getElem_of_mem h
  rw [← co_get hi, co_mul]
  exact Nat.le_trans (mf_bound (co_bound hw.1) zs i hz.1) (Nat.mul_le_mul_right _ hz.2)
theorem NB.pb {X Y n m k : Nat} {zs ws : List Int} (hz : NB X n zs) (hw : NB Y m ws) (h1 : n * (X * Y) < 4294967296 ^ k) (h2 : X < 4294967296 ^ k) (h3 : Y < 4294967296 ^ k) : PB k X Y zs ws :=
  ⟨hz.1, hw.1, Nat.lt_of_le_of_lt (Nat.mul_le_mul_right _ hz.2) h1, h2, h3⟩
theorem NB.le {X Y n m : Nat} {zs : List Int} (h : NB X n zs) (hX : X ≤ Y) (hn : n ≤ m) : NB Y m zs := ⟨fun z hz => Nat.le_trans (h.1 z hz) hX, Nat.le_trans h.2 hn⟩
section
variable {zs ws : List Int} {x y : AV} {t t' : Bool} {k X Y n m : Nat}
end
theorem NB.sm {l : List Int} {n : Nat} (h : Small l) (hl : l.length ≤ n) : NB 9223372036854775808 n l := ⟨fun z hz => by have := h z hz; omega, hl⟩
end Go.Proofs.YtanchgkiomfhhaaDoor.Fw

/- Rows of whole numbers read of a text: what package row answers. -/
namespace Go.Proofs.YtanchgkiomfhhaaDoor.Fw
set_option linter.unusedSimpArgs false
set_option linter.unusedVariables false
open Go Go.Proofs.YtanchgkiomfhhaaDoor.Ma
set_option maxRecDepth 20000

theorem hasp1_fn {l m : List UInt8} (hl : l.length < 9223372036854775808) : PFn Tryd.prog 201 [Sx l, Sx m] (.bool (decide (l.take m.length = m))) := by
  intro H Q hq
  refine enter201 (by simp) ?_
  by_cases h : m.length ≤ l.length
  · have e : decide (((m.length : Nat) : Int) ≤ ((l.length : Nat) : Int)) = true := decide_eq_true (by omega)
    simp (disch := first | assumption | (apply Ap.symm; assumption) | omega | decide | (simp only [Xd] <;> omega)) only [ac201, len_Sx, geq_int, e, slc_SxH, eql_Sx, rs201, ↓Xa, Xb, Xc, ↓reduceIte, Nat.reduceLT, Nat.reduceEqDiff, Nat.reduceBEq, Nat.reduceLeDiff, Nat.reduceAdd, Nat.reduceMul]
    exact SetR.now hq
  · have e : decide (((m.length : Nat) : Int) ≤ ((l.length : Nat) : Int)) = false := decide_eq_false (by omega)
    have e2 : decide (l.take m.length = m) = false := decide_eq_false fun h2 => by
      have := congrArg List.length h2
      rw [List.length_take] at this; omega
    rw [e2] at hq
    simp (disch := first | assumption | (apply Ap.symm; assumption) | omega | decide | (simp only [Xd] <;> omega)) only [ac201, len_Sx, geq_int, e, rs201, ↓Xa, Xb, Xc, ↓reduceIte, Nat.reduceLT, Nat.reduceEqDiff, Nat.reduceBEq, Nat.reduceLeDiff, Nat.reduceAdd, Nat.reduceMul]
    exact SetR.now hq
theorem hasp_fn {l m : List UInt8} (hl : l.length < 9223372036854775808) : PFn Tryd.prog 166 [Sx l, Sx m] (.bool (decide (l.take m.length = m))) := by
  intro H Q hq
  refine enter166 (by simp) ?_
  simp (disch := first | assumption | (apply Ap.symm; assumption) | omega | decide | (simp only [Xd] <;> omega)) only [ac166, ↓Xa, Xb, Xc, ↓reduceIte, Nat.reduceLT, Nat.reduceEqDiff, Nat.reduceBEq, Nat.reduceLeDiff, Nat.reduceAdd, Nat.reduceMul]
  refine (hasp1_fn hl).call ?_
  simp (disch := first | assumption | (apply Ap.symm; assumption) | omega | decide | (simp only [Xd] <;> omega)) only [rs166, ↓Xa, Xb, Xc, ↓reduceIte, Nat.reduceLT, Nat.reduceEqDiff, Nat.reduceBEq, Nat.reduceLeDiff, Nat.reduceAdd, Nat.reduceMul]
  exact SetR.now hq
theorem wrong4_fn {n : Nat} : PFn Tryd.prog 165 [.int .i64 (n : Int)] (.tup [.seq 0 [] true, spot 6 n]) := by
  intro H Q hq
  refine enter165 (by simp) ?_
  have sp : AV.agg [.int .i64 ((6 : Nat) : Int), .int .i64 ((n : Nat) : Int)] = spot 6 n := rfl
  simp (disch := first | assumption | (apply Ap.symm; assumption) | omega | decide | (simp only [Xd] <;> omega)) only [ac165, ↓Xa, Xb, Xc, ↓reduceIte, Nat.reduceLT, Nat.reduceEqDiff, Nat.reduceBEq, Nat.reduceLeDiff, Nat.reduceAdd, Nat.reduceMul]
  refine alloc_i fun p1 hp1 => ?_
  have n1 := hp1
  simp (disch := first | assumption | (apply Ap.symm; assumption) | omega | decide | (simp only [Xd] <;> omega)) only [sp, cells_spot, rs165, ↓Xa, Xb, Xc, ↓reduceIte, Nat.reduceLT, Nat.reduceEqDiff, Nat.reduceBEq, Nat.reduceLeDiff, Nat.reduceAdd, Nat.reduceMul]
  exact SetR.dropTo ((Le.refl H).updB n1) (SetR.now hq)
def rdA : Res → AV
  | .ok zs => .tup [RowA zs false, spot 0 0]
  | .bad n => .tup [.seq 0 [] true, spot 6 n]
  | .long n => .tup [.seq 0 [] true, spot 3 n]
theorem growC_finS {H0 H : AHeap} {ty es n : Nat} {cells : List AV} {x : AV} {a b : Nat} {Q : AV → AHeap → Prop} (h : growC H0 ty es n cells x H) (hq : Q (.tup [.seq n cells false, spot a b]) H0) : SetR Q (.tup [x, spot a b]) H := by
  rcases h with ⟨rfl, rfl, rfl, rfl⟩ | ⟨hn, hl, b, hb, rfl, rfl⟩
  · exact SetR.loose (SetR.now hq)
  · refine SetR.frz b (upd_same _ _ _) ?_
    rw [upd_upd, upd_back _ hb]
    refine SetR.now ?_
    simpa [frz, frz2, frz1, hl, List.take_of_length_le, spot] using hq
theorem growC_lenW {H0 H : AHeap} {ty es n : Nat} {cells : List AV} {x : AV} (h : growC H0 ty es n cells x H) (hn : n < 9223372036854775808) {K : AV → Prop} : lenW false x K = K (.int .i64 ((n : Nat) : Int)) := by
  rcases h with ⟨rfl, rfl, rfl, rfl⟩ | ⟨_, _, b, _, rfl, _⟩ <;> simp [lenW, hn]
set_option maxHeartbeats 2000000 in
theorem rowread_fn {l : List UInt8} (hl : l.length < 4611686018427387904) : PFn Tryd.prog 85 [Sx l] (rdA (readR l)) := by
  intro H Q hq
  have s0 : AV.str ⟨#[]⟩ = Sx [] := rfl
  have s2 : AV.str ⟨#[91, 93]⟩ = Sx [91, 93] := rfl
  have sp : ∀ a b : Nat, AV.agg [.int .i64 ((a : Nat) : Int), .int .i64 ((b : Nat) : Int)] = spot a b := fun _ _ => rfl
  refine enter85 (by simp) ?_
  simp (disch := first | assumption | (apply Ap.symm; assumption) | omega | decide | (simp only [Xd] <;> omega)) only [ac85, ↓Xa, Xb, Xc, ↓reduceIte, Nat.reduceLT, Nat.reduceEqDiff, Nat.reduceBEq, Nat.reduceLeDiff, Nat.reduceAdd, Nat.reduceMul]
  refine alloc_i fun p1 hp1 => ?_
  have n1 := hp1
  simp (disch := first | assumption | (apply Ap.symm; assumption) | omega | decide | (simp only [Xd] <;> omega)) only [↓Xa, Xb, Xc, ↓reduceIte, Nat.reduceLT, Nat.reduceEqDiff, Nat.reduceBEq, Nat.reduceLeDiff, Nat.reduceAdd, Nat.reduceMul]
  refine W_jump (fun s : Nat × Nat × List Int × AV × AHeap => ⟨[], [(0, Sx l), (3, .ptr p1 2 0), (4, .fn (.func 165) [] []), (5, s.2.2.2.1), (6, .int .i64 (s.2.1 : Int))], s.2.2.2.2⟩)
    (fun s => l.length ≤ 65536 ∧ s.2.1 ≤ l.length ∧ l.length + 1 ≤ s.1 + s.2.1 ∧ s.2.2.1.length ≤ s.2.1 ∧ rdF l s.1 s.2.1 s.2.2.1 = readR l ∧ growC (H.upd p1 (some (.row 105 0 [.int .i64 ((0 : Nat) : Int), .int .i64 ((0 : Nat) : Int)]))) 28 2 s.2.2.1.length (IC s.2.2.1) s.2.2.2.1 s.2.2.2.2) (fun s => s.1) ?_ ?_
  · rintro ⟨f, a, out, y, M⟩ ⟨h65, ha, hf, ho, hR, hg⟩ R hcont
    dsimp only at ha hf ho hR hg ⊢
    obtain ⟨f, rfl⟩ : ∃ f', f = f' + 1 := ⟨f - 1, by omega⟩
    have hle : (segP l a).length ≤ l.length - a := tw_le l a
    have lBM := growC_le hg
    have m1 : M p1 = some (.row 105 0 [.int .i64 ((0 : Nat) : Int), .int .i64 ((0 : Nat) : Int)]) := growC_old hg (upd_same _ _ _)
    have hlH : Le H M := fun o x h => lBM o x (((Le.refl H).updB n1) o x h)
    have hpl := (posP_at (segP l a)).2.1
    have hwr : IntKind.i64.wrap ((a + posP (segP l a) : Nat) : Int) = ((a + posP (segP l a) : Nat) : Int) := wn_i64 (by omega)
    have hseg : (l.drop a).take (a + (segP l a).length - a) = segP l a := by
      rw [Nat.add_sub_cancel_left]; exact (tw_eq (p := isNC) l a).symm
    have hrd := iread_fn (posP_at (segP l a)) (by omega)
    unfold iReadA at hrd
    rw [if_neg (by omega)] at hrd
    have hq' := hq
    rw [← hR] at hq'
    unfold rdF at hq'
    have hly : ∀ {K : AV → Prop}, lenW false y K = K (.int .i64 ((out.length : Nat) : Int)) := fun {K} => growC_lenW hg (by omega)
    simp (disch := first | assumption | (apply Ap.symm; assumption) | omega | decide | (simp only [Xd] <;> omega)) only [↓Xa, Xb, Xc, ↓reduceIte, Nat.reduceLT, Nat.reduceEqDiff, Nat.reduceBEq, Nat.reduceLeDiff, Nat.reduceAdd, Nat.reduceMul]
    refine W_loop (fun s : Nat => ⟨[], [(0, Sx l), (3, .ptr p1 2 0), (4, .fn (.func 165) [] []), (5, y), (6, .int .i64 (a : Int)), (7, .int .i64 s)], M⟩) (fun s => a ≤ s ∧ s ≤ a + (segP l a).length) (fun s => a + (segP l a).length - s) a (Settle.now rfl) ⟨Nat.le_refl _, by omega⟩ ?_
    rintro j ⟨j1, j2⟩
    by_cases hj : j < a + (segP l a).length
    · have hjl : j < l.length := by omega
      have hne2 := of_decide_eq_true (tw_get (p := isNC) j1 hj)
      by_cases h45 : (l.getD j 0).toNat = 45
      · simp (disch := first | assumption | (apply Ap.symm; assumption) | omega | decide | (simp only [Xd] <;> omega)) only [len_Sx, hjl, idx_Sx, h45, ↓Xa, Xb, Xc, ↓reduceIte, Nat.reduceLT, Nat.reduceEqDiff, Nat.reduceBEq, Nat.reduceLeDiff, Nat.reduceAdd, Nat.reduceMul]
        exact Settle.now ⟨j + 1, by omega, ⟨by omega, by omega⟩, rfl⟩
      · have h48 : 48 ≤ (l.getD j 0).toNat := by omega
        have h57 : (l.getD j 0).toNat ≤ 57 := by omega
        simp (disch := first | assumption | (apply Ap.symm; assumption) | omega | decide | (simp only [Xd] <;> omega)) only [len_Sx, hjl, idx_Sx, h45, h48, h57, ↓Xa, Xb, Xc, ↓reduceIte, Nat.reduceLT, Nat.reduceEqDiff, Nat.reduceBEq, Nat.reduceLeDiff, Nat.reduceAdd, Nat.reduceMul]
        exact Settle.now ⟨j + 1, by omega, ⟨by omega, by omega⟩, rfl⟩
    obtain rfl : j = a + (segP l a).length := by omega
    -- what comes behind the scan
    have tri : (¬ a + (segP l a).length < l.length) ∨ (a + (segP l a).length < l.length ∧ ¬ (l.getD (a + (segP l a).length) 0).toNat = 45 ∧ ¬ 48 ≤ (l.getD (a + (segP l a).length) 0).toNat) ∨ (a + (segP l a).length < l.length ∧ ¬ (l.getD (a + (segP l a).length) 0).toNat = 45 ∧ 48 ≤ (l.getD (a + (segP l a).length) 0).toNat ∧ ¬ (l.getD (a + (segP l a).length) 0).toNat ≤ 57) := by
      by_cases h : a + (segP l a).length < l.length
      · have := of_decide_eq_false (tw_end (p := isNC) (l := l) (a := a) h)
        have e5 : ((l.drop a).takeWhile isNC).length = (segP l a).length := rfl
        rw [e5] at this
        by_cases h48 : 48 ≤ (l.getD (a + (segP l a).length) 0).toNat
        · exact .inr (.inr ⟨h, by omega, h48, by omega⟩)
        · exact .inr (.inl ⟨h, by omega, h48⟩)
      · exact .inl h
    rcases tri with h | ⟨h, h45, h48⟩ | ⟨h, h45, h48, h57⟩
    simp (disch := first | assumption | (apply Ap.symm; assumption) | omega | decide | (simp only [Xd] <;> omega)) only [len_Sx, h, ↓Xa, Xb, Xc, ↓reduceIte, Nat.reduceLT, Nat.reduceEqDiff, Nat.reduceBEq, Nat.reduceLeDiff, Nat.reduceAdd, Nat.reduceMul]
    rotate_left
    simp (disch := first | assumption | (apply Ap.symm; assumption) | omega | decide | (simp only [Xd] <;> omega)) only [len_Sx, h, idx_Sx, h45, h48, ↓Xa, Xb, Xc, ↓reduceIte, Nat.reduceLT, Nat.reduceEqDiff, Nat.reduceBEq, Nat.reduceLeDiff, Nat.reduceAdd, Nat.reduceMul]
    rotate_left
    simp (disch := first | assumption | (apply Ap.symm; assumption) | omega | decide | (simp only [Xd] <;> omega)) only [len_Sx, h, idx_Sx, h45, h48, h57, ↓Xa, Xb, Xc, ↓reduceIte, Nat.reduceLT, Nat.reduceEqDiff, Nat.reduceBEq, Nat.reduceLeDiff, Nat.reduceAdd, Nat.reduceMul]
    rotate_left
    all_goals
      refine Settle.now ?_
      simp (disch := first | assumption | (apply Ap.symm; assumption) | omega | decide | (simp only [Xd] <;> omega)) only [slc_Sx, hseg, ↓Xa, Xb, Xc, ↓reduceIte, Nat.reduceLT, Nat.reduceEqDiff, Nat.reduceBEq, Nat.reduceLeDiff, Nat.reduceAdd, Nat.reduceMul]
      refine hrd.call ?_
      by_cases hb : posP (segP l a) = iFrom (segP l a) ∨ posP (segP l a) < (segP l a).length
      · rw [if_pos hb]
        rw [if_pos hb] at hq'
        have e3 : decide (((6 : Nat) : Int) = ((0 : Nat) : Int)) = false := by decide
        simp (disch := first | assumption | (apply Ap.symm; assumption) | omega | decide | (simp only [Xd] <;> omega)) only [↓Xa, Xb, Xc, ↓reduceIte, Nat.reduceLT, Nat.reduceEqDiff, Nat.reduceBEq, Nat.reduceLeDiff, Nat.reduceAdd, Nat.reduceMul]
        refine alloc_i fun q1 hq1 => ?_
        have a1 := ne_of_some m1 hq1
        simp (disch := first | assumption | (apply Ap.symm; assumption) | omega | decide | (simp only [Xd] <;> omega)) only [↓Xa, Xb, Xc, ↓reduceIte, Nat.reduceLT, Nat.reduceEqDiff, Nat.reduceBEq, Nat.reduceLeDiff, Nat.reduceAdd, Nat.reduceMul]
        refine alloc_i fun q2 hq2 => ?_
        have a2 := ne_of_some m1 (upd_none.1 hq2).2
        have a21 := (upd_none.1 hq2).1
        simp (disch := first | assumption | (apply Ap.symm; assumption) | omega | decide | (simp only [Xd] <;> omega)) only [cells_IntA, cells_spot, neq_int, e3, hwr, ↓Xa, Xb, Xc, ↓reduceIte, Nat.reduceLT, Nat.reduceEqDiff, Nat.reduceBEq, Nat.reduceLeDiff, Nat.reduceAdd, Nat.reduceMul]
        refine (wrong4_fn (n := a + posP (segP l a))).call ?_
        simp (disch := first | assumption | (apply Ap.symm; assumption) | omega | decide | (simp only [Xd] <;> omega)) only [m1, cells_spot, rs85, ↓Xa, Xb, Xc, ↓reduceIte, Nat.reduceLT, Nat.reduceEqDiff, Nat.reduceBEq, Nat.reduceLeDiff, Nat.reduceAdd, Nat.reduceMul]
        exact SetR.dropTo (((hlH.updB (hlH.none hq1)).updB (hlH.none (upd_none.1 hq2).2)).updB n1) (SetR.now hq')
      · rw [if_neg hb]
        rw [if_neg hb] at hq'
        have e3 : decide (((0 : Nat) : Int) = ((0 : Nat) : Int)) = true := by decide
        simp (disch := first | assumption | (apply Ap.symm; assumption) | omega | decide | (simp only [Xd] <;> omega)) only [↓Xa, Xb, Xc, ↓reduceIte, Nat.reduceLT, Nat.reduceEqDiff, Nat.reduceBEq, Nat.reduceLeDiff, Nat.reduceAdd, Nat.reduceMul]
        refine alloc_i fun q1 hq1 => ?_
        have a1 := ne_of_some m1 hq1
        simp (disch := first | assumption | (apply Ap.symm; assumption) | omega | decide | (simp only [Xd] <;> omega)) only [↓Xa, Xb, Xc, ↓reduceIte, Nat.reduceLT, Nat.reduceEqDiff, Nat.reduceBEq, Nat.reduceLeDiff, Nat.reduceAdd, Nat.reduceMul]
        refine alloc_i fun q2 hq2 => ?_
        have a2 := ne_of_some m1 (upd_none.1 hq2).2
        have a21 := (upd_none.1 hq2).1
        by_cases hcap : out.length = 4096
        · rw [if_pos hcap] at hq'
          simp (disch := first | assumption | (apply Ap.symm; assumption) | omega | decide | (simp only [Xd] <;> omega)) only [cells_IntA, cells_spot, neq_int, e3, hly, hcap, sp, m1, rs85, ↓Xa, Xb, Xc, ↓reduceIte, Nat.reduceLT, Nat.reduceEqDiff, Nat.reduceBEq, Nat.reduceLeDiff, Nat.reduceAdd, Nat.reduceMul]
          exact SetR.dropTo (((hlH.updB (hlH.none hq1)).updB (hlH.none (upd_none.1 hq2).2)).updB n1) (SetR.now hq')
        · rw [if_neg hcap] at hq'
          have hg1 := growC_upd (r := .row 28 0 [IntB (iVal (segP l a)), IntD (iVal (segP l a))]) hg hq1
          have hq2' : (M.upd q1 (some (.row 28 0 [IntB (iVal (segP l a)), IntD (iVal (segP l a))]))) q2 = none := upd_none.2 ⟨a21, (upd_none.1 hq2).2⟩
          have hg2 := growC_upd (r := .row 105 0 [.int .i64 ((0 : Nat) : Int), .int .i64 ((0 : Nat) : Int)]) hg1 hq2'
          have hle2 : Le (H.upd p1 (some (.row 105 0 [.int .i64 ((0 : Nat) : Int), .int .i64 ((0 : Nat) : Int)]))) (((H.upd p1 (some (.row 105 0 [.int .i64 ((0 : Nat) : Int), .int .i64 ((0 : Nat) : Int)]))).upd q1 (some (.row 28 0 [IntB (iVal (segP l a)), IntD (iVal (segP l a))]))).upd q2 (some (.row 105 0 [.int .i64 ((0 : Nat) : Int), .int .i64 ((0 : Nat) : Int)]))) :=
            ((Le.refl _).updB (growC_none hg hq1)).updB (growC_none hg (upd_none.1 hq2).2)
          simp (disch := first | assumption | (apply Ap.symm; assumption) | omega | decide | (simp only [Xd] <;> omega)) only [cells_IntA, cells_spot, neq_int, e3, hly, hcap, fold_IntA, repI1, ↓Xa, Xb, Xc, ↓reduceIte, Nat.reduceLT, Nat.reduceEqDiff, Nat.reduceBEq, Nat.reduceLeDiff, Nat.reduceAdd, Nat.reduceMul]
          refine app_C (m := 1) hg2 rfl cellI (by omega) (by omega) (by omega) fun y' M2 hg3 => ?_
          rw [← IC_snoc] at hg3
          obtain ⟨M3, hg4, hl4⟩ := growC_le2 hg3 hle2
          have hll : (out ++ [iVal (segP l a)]).length = out.length + 1 := by simp
          have m2 : M2 p1 = some (.row 105 0 [.int .i64 ((0 : Nat) : Int), .int .i64 ((0 : Nat) : Int)]) := hl4 _ _ (growC_old hg4 (upd_same _ _ _))
          have hlH2 : Le H M2 := fun o x h => hl4 o x (growC_le hg4 o x (((Le.refl H).updB n1) o x h))
          by_cases hjl : a + (segP l a).length = l.length
          · rw [if_pos hjl] at hq'
            simp (disch := first | assumption | (apply Ap.symm; assumption) | omega | decide | (simp only [Xd] <;> omega)) only [len_Sx, hjl, ↓Xa, Xb, Xc, ↓reduceIte, Nat.reduceLT, Nat.reduceEqDiff, Nat.reduceBEq, Nat.reduceLeDiff, Nat.reduceAdd, Nat.reduceMul]
            refine (wrong4_fn (n := l.length)).call ?_
            simp (disch := first | assumption | (apply Ap.symm; assumption) | omega | decide | (simp only [Xd] <;> omega)) only [m2, cells_spot, rs85, ↓Xa, Xb, Xc, ↓reduceIte, Nat.reduceLT, Nat.reduceEqDiff, Nat.reduceBEq, Nat.reduceLeDiff, Nat.reduceAdd, Nat.reduceMul]
            rw [hjl] at hq'
            exact SetR.dropTo (hlH2.updB n1) (SetR.now hq')
          rw [if_neg hjl] at hq'
          have hjl2 : a + (segP l a).length < l.length := by omega
          by_cases h32 : (l.getD (a + (segP l a).length) 0).toNat = 32
          · simp (disch := first | assumption | (apply Ap.symm; assumption) | omega | decide | (simp only [Xd] <;> omega)) only [len_Sx, hjl, hjl2, idx_Sx, h32, ↓Xa, Xb, Xc, ↓reduceIte, Nat.reduceLT, Nat.reduceEqDiff, Nat.reduceBEq, Nat.reduceLeDiff, Nat.reduceAdd, Nat.reduceMul]
            refine Settle.dropTo hl4 (Settle.keep [0, 3, 4, 5, 6] (hcont (f, a + (segP l a).length + 1, out ++ [iVal (segP l a)], y', M3) (by dsimp only; omega) ⟨h65, by dsimp only; omega, by dsimp only; omega, by simp; omega, ?_, by dsimp only; rw [hll]; exact hg4⟩))
            dsimp only
            rw [← hR]
            conv => rhs; unfold rdF
            rw [if_neg hb, if_neg hcap, if_neg hjl, if_pos h32]
          rw [if_neg h32] at hq'
          by_cases h93 : (l.getD (a + (segP l a).length) 0).toNat ≠ 93
          · rw [if_pos h93] at hq'
            have e5 : decide (((((l.getD (a + (segP l a).length) 0).toNat : Nat) : Int)) = ((93 : Nat) : Int)) = false := decide_eq_false (by omega)
            simp (disch := first | assumption | (apply Ap.symm; assumption) | omega | decide | (simp only [Xd] <;> omega)) only [len_Sx, hjl, hjl2, idx_Sx, h32, neq_int, e5, ↓Xa, Xb, Xc, ↓reduceIte, Nat.reduceLT, Nat.reduceEqDiff, Nat.reduceBEq, Nat.reduceLeDiff, Nat.reduceAdd, Nat.reduceMul]
            refine (wrong4_fn (n := a + (segP l a).length)).call ?_
            simp (disch := first | assumption | (apply Ap.symm; assumption) | omega | decide | (simp only [Xd] <;> omega)) only [m2, cells_spot, rs85, ↓Xa, Xb, Xc, ↓reduceIte, Nat.reduceLT, Nat.reduceEqDiff, Nat.reduceBEq, Nat.reduceLeDiff, Nat.reduceAdd, Nat.reduceMul]
            exact SetR.dropTo (hlH2.updB n1) (SetR.now hq')
          rw [if_neg h93] at hq'
          have e5 : decide (((((l.getD (a + (segP l a).length) 0).toNat : Nat) : Int)) = ((93 : Nat) : Int)) = true := decide_eq_true (by omega)
          by_cases h6 : a + (segP l a).length + 1 < l.length
          · rw [if_pos h6] at hq'
            simp (disch := first | assumption | (apply Ap.symm; assumption) | omega | decide | (simp only [Xd] <;> omega)) only [len_Sx, hjl, hjl2, idx_Sx, h32, neq_int, e5, h6, ↓Xa, Xb, Xc, ↓reduceIte, Nat.reduceLT, Nat.reduceEqDiff, Nat.reduceBEq, Nat.reduceLeDiff, Nat.reduceAdd, Nat.reduceMul]
            refine (wrong4_fn (n := a + (segP l a).length + 1)).call ?_
            simp (disch := first | assumption | (apply Ap.symm; assumption) | omega | decide | (simp only [Xd] <;> omega)) only [m2, cells_spot, rs85, ↓Xa, Xb, Xc, ↓reduceIte, Nat.reduceLT, Nat.reduceEqDiff, Nat.reduceBEq, Nat.reduceLeDiff, Nat.reduceAdd, Nat.reduceMul]
            exact SetR.dropTo (hlH2.updB n1) (SetR.now hq')
          · rw [if_neg h6] at hq'
            simp (disch := first | assumption | (apply Ap.symm; assumption) | omega | decide | (simp only [Xd] <;> omega)) only [len_Sx, hjl, hjl2, idx_Sx, h32, neq_int, e5, h6, sp, m2, cells_spot, rs85, ↓Xa, Xb, Xc, ↓reduceIte, Nat.reduceLT, Nat.reduceEqDiff, Nat.reduceBEq, Nat.reduceLeDiff, Nat.reduceAdd, Nat.reduceMul]
            obtain ⟨H1, hg5, hl5⟩ := growC_move (M := M2.upd p1 (some (.row 105 0 [.int .i64 ((0 : Nat) : Int), .int .i64 ((0 : Nat) : Int)]))) hg3 fun b hb _ => upd_other _ _ (by rintro rfl; rw [hle2 _ _ (upd_same _ _ _)] at hb; cases hb)
            obtain ⟨M4, hg6, hl6⟩ := growC_le2 hg5 (hl5 H (hlH2.updB n1) fun b hb => by
              have h1 := (upd_none.1 (upd_none.1 hb).2).2
              exact (upd_none.1 h1).2)
            refine SetR.dropTo hl6 (growC_finS hg6 ?_)
            rw [← hll]
            exact hq'
  · intro hb
    by_cases h65 : 65536 < l.length
    · have e : readR l = .long 65536 := by unfold readR; rw [if_pos h65]
      rw [e] at hq
      simp (disch := first | assumption | (apply Ap.symm; assumption) | omega | decide | (simp only [Xd] <;> omega)) only [len_Sx, h65, sp, cells_spot, rs85, ↓Xa, Xb, Xc, ↓reduceIte, Nat.reduceLT, Nat.reduceEqDiff, Nat.reduceBEq, Nat.reduceLeDiff, Nat.reduceAdd, Nat.reduceMul]
      exact SetR.dropTo ((Le.refl H).updB n1) (SetR.now hq)
    by_cases h91 : (l.getD 0 0).toNat ≠ 91
    · have e : readR l = .bad 0 := by unfold readR; rw [if_neg h65, if_pos h91]
      rw [e] at hq
      by_cases hn : l = []
      · simp (disch := first | assumption | (apply Ap.symm; assumption) | omega | decide | (simp only [Xd] <;> omega)) only [len_Sx, h65, s0, eql_Sx, decide_eq_true hn, ↓Xa, Xb, Xc, ↓reduceIte, Nat.reduceLT, Nat.reduceEqDiff, Nat.reduceBEq, Nat.reduceLeDiff, Nat.reduceAdd, Nat.reduceMul]
        refine (wrong4_fn (n := 0)).call ?_
        simp (disch := first | assumption | (apply Ap.symm; assumption) | omega | decide | (simp only [Xd] <;> omega)) only [cells_spot, rs85, ↓Xa, Xb, Xc, ↓reduceIte, Nat.reduceLT, Nat.reduceEqDiff, Nat.reduceBEq, Nat.reduceLeDiff, Nat.reduceAdd, Nat.reduceMul]
        exact SetR.dropTo ((Le.refl H).updB n1) (SetR.now hq)
      · have hp : 0 < l.length := List.length_pos_iff.2 hn
        have d1 : decide (((((l.getD 0 0).toNat : Nat) : Int)) = ((91 : Nat) : Int)) = false := decide_eq_false (by omega)
        simp (disch := first | assumption | (apply Ap.symm; assumption) | omega | decide | (simp only [Xd] <;> omega)) only [len_Sx, h65, s0, eql_Sx, decide_eq_false hn, hp, idx_Sx, neq_int, d1, ↓Xa, Xb, Xc, ↓reduceIte, Nat.reduceLT, Nat.reduceEqDiff, Nat.reduceBEq, Nat.reduceLeDiff, Nat.reduceAdd, Nat.reduceMul]
        refine (wrong4_fn (n := 0)).call ?_
        simp (disch := first | assumption | (apply Ap.symm; assumption) | omega | decide | (simp only [Xd] <;> omega)) only [cells_spot, rs85, ↓Xa, Xb, Xc, ↓reduceIte, Nat.reduceLT, Nat.reduceEqDiff, Nat.reduceBEq, Nat.reduceLeDiff, Nat.reduceAdd, Nat.reduceMul]
        exact SetR.dropTo ((Le.refl H).updB n1) (SetR.now hq)
    have h91' : (l.getD 0 0).toNat = 91 := Classical.not_not.1 h91
    have hn : l ≠ [] := fun h => by subst h; exact absurd h91' (by decide)
    have hp : 0 < l.length := List.length_pos_iff.2 hn
    have d1 : decide (((((l.getD 0 0).toNat : Nat) : Int)) = ((91 : Nat) : Int)) = true := decide_eq_true (by omega)
    by_cases h2 : l = [91, 93]
    · have e : readR l = .ok [] := by unfold readR; rw [if_neg h65, if_neg h91, if_pos h2]
      rw [e] at hq
      simp (disch := first | assumption | (apply Ap.symm; assumption) | omega | decide | (simp only [Xd] <;> omega)) only [len_Sx, h65, s0, s2, eql_Sx, decide_eq_false hn, decide_eq_true h2, hp, idx_Sx, neq_int, d1, sp, cells_spot, rs85, ↓Xa, Xb, Xc, ↓reduceIte, Nat.reduceLT, Nat.reduceEqDiff, Nat.reduceBEq, Nat.reduceLeDiff, Nat.reduceAdd, Nat.reduceMul]
      exact SetR.dropTo ((Le.refl H).updB n1) (SetR.loose (SetR.now hq))
    have hpf := hasp_fn (l := l) (m := [91, 93]) (by omega)
    have hl2 : ([91, 93] : List UInt8).length = 2 := rfl
    rw [hl2] at hpf
    by_cases h3 : l.take 2 = [91, 93]
    · have e : readR l = .bad 2 := by unfold readR; rw [if_neg h65, if_neg h91, if_neg h2, if_pos h3]
      rw [e] at hq
      simp (disch := first | assumption | (apply Ap.symm; assumption) | omega | decide | (simp only [Xd] <;> omega)) only [len_Sx, h65, s0, s2, eql_Sx, decide_eq_false hn, decide_eq_false h2, hp, idx_Sx, neq_int, d1, ↓Xa, Xb, Xc, ↓reduceIte, Nat.reduceLT, Nat.reduceEqDiff, Nat.reduceBEq, Nat.reduceLeDiff, Nat.reduceAdd, Nat.reduceMul]
      refine hpf.call ?_
      simp (disch := first | assumption | (apply Ap.symm; assumption) | omega | decide | (simp only [Xd] <;> omega)) only [decide_eq_true h3, ↓Xa, Xb, Xc, ↓reduceIte, Nat.reduceLT, Nat.reduceEqDiff, Nat.reduceBEq, Nat.reduceLeDiff, Nat.reduceAdd, Nat.reduceMul]
      refine (wrong4_fn (n := 2)).call ?_
      simp (disch := first | assumption | (apply Ap.symm; assumption) | omega | decide | (simp only [Xd] <;> omega)) only [cells_spot, rs85, ↓Xa, Xb, Xc, ↓reduceIte, Nat.reduceLT, Nat.reduceEqDiff, Nat.reduceBEq, Nat.reduceLeDiff, Nat.reduceAdd, Nat.reduceMul]
      exact SetR.dropTo ((Le.refl H).updB n1) (SetR.now hq)
    · have e : readR l = rdF l (l.length + 1) 1 [] := by unfold readR; rw [if_neg h65, if_neg h91, if_neg h2, if_neg h3]
      have hb0 := hb (l.length + 1, 1, [], .seq 0 [] true, _) ⟨by omega, by dsimp only; omega, by dsimp only; omega, by simp, e.symm, growC_nil⟩
      simp (disch := first | assumption | (apply Ap.symm; assumption) | omega | decide | (simp only [Xd] <;> omega)) only [↓Xa, Xb, Xc, ↓reduceIte, Nat.reduceLT, Nat.reduceEqDiff, Nat.reduceBEq, Nat.reduceLeDiff, Nat.reduceAdd, Nat.reduceMul] at hb0
      simp (disch := first | assumption | (apply Ap.symm; assumption) | omega | decide | (simp only [Xd] <;> omega)) only [len_Sx, h65, s0, s2, eql_Sx, decide_eq_false hn, decide_eq_false h2, hp, idx_Sx, neq_int, d1, ↓Xa, Xb, Xc, ↓reduceIte, Nat.reduceLT, Nat.reduceEqDiff, Nat.reduceBEq, Nat.reduceLeDiff, Nat.reduceAdd, Nat.reduceMul]
      refine hpf.call ?_
      simp (disch := first | assumption | (apply Ap.symm; assumption) | omega | decide | (simp only [Xd] <;> omega)) only [decide_eq_false h3, ↓Xa, Xb, Xc, ↓reduceIte, Nat.reduceLT, Nat.reduceEqDiff, Nat.reduceBEq, Nat.reduceLeDiff, Nat.reduceAdd, Nat.reduceMul]
      exact hb0
end Go.Proofs.YtanchgkiomfhhaaDoor.Fw

/- Rows of whole numbers read of a text: what the reference answers. -/
namespace Go.Proofs.YtanchgkiomfhhaaDoor.Fw
set_option linter.unusedSimpArgs false
set_option linter.unusedVariables false
open Go Go.Proofs.YtanchgkiomfhhaaDoor.Ma
set_option maxRecDepth 20000

def rrA : Res → AV
  | .ok zs => .tup [RefR zs false, .int .i64 (-1)]
  | .bad n => .tup [.seq 0 [] true, .int .i64 (n : Int)]
  | .long n => .tup [.seq 0 [] true, .int .i64 (n : Int)]
theorem geq_int' {k : IntKind} {n m : Int} {K : AV → Prop} : binW .geq (.int k n) (.int k m) K ↔ K (.bool (decide (m ≤ n))) := by simp [binW, binInt]
theorem take2_eq {l : List UInt8} (h0 : (l.getD 0 0).toNat = 91) : l.take 2 = [91, 93] ↔ 1 < l.length ∧ (l.getD 1 0).toNat = 93 := by
  match l, h0 with
  | [], h0 => exact absurd h0 (by decide)
  | [c], _ => simp
  | c :: d :: r, h0 =>
    have hc : c = 91 := UInt8.toNat_inj.1 h0
    subst hc
    have e : ((91 : UInt8) :: d :: r).getD 1 0 = d := rfl
    rw [e]
    simp only [List.take_succ_cons, List.take_zero, List.cons.injEq, and_true, true_and, List.length_cons]
    exact ⟨fun h => ⟨by omega, by rw [h]; rfl⟩, fun h => UInt8.toNat_inj.1 h.2⟩
set_option maxHeartbeats 1000000 in
theorem rrread4_fn {l : List UInt8} (hl : l.length ≤ 65536) : PFn Tryd.prog 91 [Sx l] (rrA (readRR l)) := by
  intro H Q hq
  refine enter91 (by simp) ?_
  have hl0 : l.length = 0 ↔ l = [] := List.length_eq_zero_iff
  by_cases h91 : (l.getD 0 0).toNat ≠ 91
  · have e : readRR l = .bad 0 := by unfold readRR; rw [if_pos h91]
    rw [e] at hq
    by_cases hn : l.length = 0
    · simp (disch := first | assumption | (apply Ap.symm; assumption) | omega | decide | (simp only [Xd] <;> omega)) only [ac91, len_Sx, hn, rs91, ↓Xa, Xb, Xc, ↓reduceIte, Nat.reduceLT, Nat.reduceEqDiff, Nat.reduceBEq, Nat.reduceLeDiff, Nat.reduceAdd, Nat.reduceMul]
      exact SetR.now hq
    · have hp : 0 < l.length := by omega
      have d1 : decide (((((l.getD 0 0).toNat : Nat) : Int)) = ((91 : Nat) : Int)) = false := decide_eq_false (by omega)
      simp (disch := first | assumption | (apply Ap.symm; assumption) | omega | decide | (simp only [Xd] <;> omega)) only [ac91, len_Sx, hn, hp, idx_Sx, neq_int, d1, rs91, ↓Xa, Xb, Xc, ↓reduceIte, Nat.reduceLT, Nat.reduceEqDiff, Nat.reduceBEq, Nat.reduceLeDiff, Nat.reduceAdd, Nat.reduceMul]
      exact SetR.now hq
  have h91' : (l.getD 0 0).toNat = 91 := Classical.not_not.1 h91
  have hne : l ≠ [] := fun h => by subst h; exact absurd h91' (by decide)
  have hp : 0 < l.length := List.length_pos_iff.2 hne
  have hn : ¬ l.length = 0 := by omega
  have d1 : decide (((((l.getD 0 0).toNat : Nat) : Int)) = ((91 : Nat) : Int)) = true := decide_eq_true (by omega)
  have ht2 := take2_eq h91'
  by_cases h2 : 1 < l.length ∧ (l.getD 1 0).toNat = 93
  · obtain ⟨h3, h4⟩ := h2
    have hr : readRR l = if 2 < l.length then .bad 2 else .ok [] := by unfold readRR; rw [if_neg h91, if_pos (ht2.2 ⟨h3, h4⟩)]
    rw [hr] at hq
    have d2 : decide (((((l.getD 1 0).toNat : Nat) : Int)) = ((93 : Nat) : Int)) = true := decide_eq_true (by omega)
    by_cases h5 : 2 < l.length
    · rw [if_pos h5] at hq
      simp (disch := first | assumption | (apply Ap.symm; assumption) | omega | decide | (simp only [Xd] <;> omega)) only [ac91, len_Sx, hn, hp, h3, h5, idx_Sx, neq_int, d1, h4, decide_true, rs91, ↓Xa, Xb, Xc, ↓reduceIte, Nat.reduceLT, Nat.reduceEqDiff, Nat.reduceBEq, Nat.reduceLeDiff, Nat.reduceAdd, Nat.reduceMul]
      exact SetR.now hq
    · rw [if_neg h5] at hq
      have r0 : repA [.bool false, .seq 0 [] true] 0 = [] := rfl
      simp (disch := first | assumption | (apply Ap.symm; assumption) | omega | decide | (simp only [Xd] <;> omega)) only [ac91, len_Sx, hn, hp, h3, h5, idx_Sx, neq_int, d1, h4, decide_true, r0, rs91, ↓Xa, Xb, Xc, ↓reduceIte, Nat.reduceLT, Nat.reduceEqDiff, Nat.reduceBEq, Nat.reduceLeDiff, Nat.reduceAdd, Nat.reduceMul]
      exact SetR.loose (SetR.now hq)
  have hr : readRR l = rrF l (l.length + 1) 1 [] := by unfold readRR; rw [if_neg h91, if_neg fun h => h2 (ht2.1 h)]
  obtain ⟨R, hRd⟩ : ∃ R, R = rrF l (l.length + 1) 1 [] := ⟨_, rfl⟩
  rw [hr, ← hRd] at hq
  -- the loop
  have loop : ∀ {E : Env}, E = [(0, Sx l), (4, .seq 0 [] true), (5, .int .i64 ((1 : Nat) : Int))] → W Tryd.prog (sndC (sndC (sndC (sndC (sndC ac91))))) (retN rs91 Q) ⟨[], E, H⟩ := by
    intro E hE
    subst hE
    simp (disch := first | assumption | (apply Ap.symm; assumption) | omega | decide | (simp only [Xd] <;> omega)) only [sndC, ac91, ↓Xa, Xb, Xc, ↓reduceIte, Nat.reduceLT, Nat.reduceEqDiff, Nat.reduceBEq, Nat.reduceLeDiff, Nat.reduceAdd, Nat.reduceMul]
    refine W_loop (fun s : Nat × Nat × List Int × AV × AHeap => ⟨[], [(0, Sx l), (4, s.2.2.2.1), (5, .int .i64 (s.2.1 : Int))], s.2.2.2.2⟩)
      (fun s => s.2.1 ≤ l.length ∧ l.length + 1 ≤ s.1 + s.2.1 ∧ s.2.2.1.length ≤ s.2.1 ∧ rrF l s.1 s.2.1 s.2.2.1 = R ∧ growC H 39 2 s.2.2.1.length (RC s.2.2.1) s.2.2.2.1 s.2.2.2.2) (fun s => s.1) (l.length + 1, 1, [], .seq 0 [] true, H) (Settle.now rfl) ⟨by dsimp only; omega, by dsimp only; omega, by simp, hRd.symm, growC_nil⟩ ?_
    rintro ⟨f, a, out, y, M⟩ ⟨ha, hf, ho, hR, hg⟩
    dsimp only at ha hf ho hR hg ⊢
    obtain ⟨f, rfl⟩ : ∃ f', f = f' + 1 := ⟨f - 1, by omega⟩
    have hle : (segR l a).length ≤ l.length - a := tw_le l a
    have hlH : Le H M := growC_le hg
    simp (disch := first | assumption | (apply Ap.symm; assumption) | omega | decide | (simp only [Xd] <;> omega)) only [↓Xa, Xb, Xc, ↓reduceIte, Nat.reduceLT, Nat.reduceEqDiff, Nat.reduceBEq, Nat.reduceLeDiff, Nat.reduceAdd, Nat.reduceMul]
    refine W_loop (fun s : Nat => ⟨[], [(0, Sx l), (4, y), (5, .int .i64 (a : Int)), (6, .int .i64 s)], M⟩) (fun s => a ≤ s ∧ s ≤ a + (segR l a).length) (fun s => a + (segR l a).length - s) a (Settle.now rfl) ⟨Nat.le_refl _, by omega⟩ ?_
    rintro j ⟨j1, j2⟩
    by_cases hj : j < a + (segR l a).length
    · have hjl : j < l.length := by omega
      have hne2 := of_decide_eq_true (tw_get (p := isNE) j1 hj)
      have e1 : decide (((((l.getD j 0).toNat : Nat) : Int)) = ((32 : Nat) : Int)) = false := decide_eq_false (by omega)
      have e2 : decide (((((l.getD j 0).toNat : Nat) : Int)) = ((93 : Nat) : Int)) = false := decide_eq_false (by omega)
      simp (disch := first | assumption | (apply Ap.symm; assumption) | omega | decide | (simp only [Xd] <;> omega)) only [len_Sx, hjl, idx_Sx, neq_int, e1, e2, ↓Xa, Xb, Xc, ↓reduceIte, Nat.reduceLT, Nat.reduceEqDiff, Nat.reduceBEq, Nat.reduceLeDiff, Nat.reduceAdd, Nat.reduceMul]
      exact Settle.now ⟨j + 1, by omega, ⟨by omega, by omega⟩, rfl⟩
    obtain rfl : j = a + (segR l a).length := by omega
    have hend : (a + (segR l a).length < l.length → (l.getD (a + (segR l a).length) 0).toNat = 32 ∨ (l.getD (a + (segR l a).length) 0).toNat = 93) := fun h => by
      have := of_decide_eq_false (tw_end (p := isNE) (l := l) (a := a) h)
      have e5 : ((l.drop a).takeWhile isNE).length = (segR l a).length := rfl
      rw [e5] at this; omega
    have hseg : (l.drop a).take (a + (segR l a).length - a) = segR l a := by
      rw [Nat.add_sub_cancel_left]; exact (tw_eq (p := isNE) l a).symm
    have hrd := rread_fn (posP_at (segR l a)) (by omega)
    have hpl := (posP_at (segR l a)).2.1
    have hwr : IntKind.i64.wrap ((a + posP (segR l a) : Nat) : Int) = ((a + posP (segR l a) : Nat) : Int) := wn_i64 (by omega)
    unfold rReadA at hrd
    unfold rrF at hR
    -- the scan is over
    have done : W Tryd.prog (fstC (hold .skip)) (fun _ _ => True) ⟨[], [], H⟩ ∨ True := .inr trivial
    clear done
    by_cases hjl : a + (segR l a).length < l.length
    · have hc := hend hjl
      have step : ∀ (K : Prop), K → K := fun _ h => h
      rcases hc with hc | hc
      · have e1 : decide (((((l.getD (a + (segR l a).length) 0).toNat : Nat) : Int)) = ((32 : Nat) : Int)) = true := decide_eq_true (by omega)
        simp (disch := first | assumption | (apply Ap.symm; assumption) | omega | decide | (simp only [Xd] <;> omega)) only [len_Sx, hjl, idx_Sx, neq_int, e1, ↓Xa, Xb, Xc, ↓reduceIte, Nat.reduceLT, Nat.reduceEqDiff, Nat.reduceBEq, Nat.reduceLeDiff, Nat.reduceAdd, Nat.reduceMul]
        refine Settle.now ?_
        simp (disch := first | assumption | (apply Ap.symm; assumption) | omega | decide | (simp only [Xd] <;> omega)) only [slc_Sx, hseg, ↓Xa, Xb, Xc, ↓reduceIte, Nat.reduceLT, Nat.reduceEqDiff, Nat.reduceBEq, Nat.reduceLeDiff, Nat.reduceAdd, Nat.reduceMul]
        refine hrd.call ?_
        by_cases hb : posP (segR l a) = iFrom (segR l a) ∨ posP (segR l a) < (segR l a).length
        · rw [if_pos hb]
          rw [if_pos hb] at hR
          rw [← hR] at hq
          have e3 : decide (((0 : Nat) : Int) ≤ ((posP (segR l a) : Nat) : Int)) = true := decide_eq_true (by omega)
          simp (disch := first | assumption | (apply Ap.symm; assumption) | omega | decide | (simp only [Xd] <;> omega)) only [↓Xa, Xb, Xc, ↓reduceIte, Nat.reduceLT, Nat.reduceEqDiff, Nat.reduceBEq, Nat.reduceLeDiff, Nat.reduceAdd, Nat.reduceMul]
          refine alloc_i fun q hq1 => ?_
          simp (disch := first | assumption | (apply Ap.symm; assumption) | omega | decide | (simp only [Xd] <;> omega)) only [cells_RefT, geq_int', e3, hwr, rs91, ↓Xa, Xb, Xc, ↓reduceIte, Nat.reduceLT, Nat.reduceEqDiff, Nat.reduceBEq, Nat.reduceLeDiff, Nat.reduceAdd, Nat.reduceMul]
          exact SetR.dropTo (hlH.upd hq1) (SetR.now hq)
        · rw [if_neg hb]
          have e3 : decide (((0 : Nat) : Int) ≤ (-1 : Int)) = false := by decide
          rw [if_neg hb, if_neg (by omega), if_neg (by omega)] at hR
          have hg1 := fun q (hq1 : M q = none) => growC_upd (r := .row 39 0 [RefB (iVal (segR l a)), RefD (iVal (segR l a))]) hg hq1
          have hnl : ¬ a + (segR l a).length = l.length := by omega
          have h93 : ¬ (l.getD (a + (segR l a).length) 0).toNat = 93 := by omega
          simp (disch := first | assumption | (apply Ap.symm; assumption) | omega | decide | (simp only [Xd] <;> omega)) only [↓Xa, Xb, Xc, ↓reduceIte, Nat.reduceLT, Nat.reduceEqDiff, Nat.reduceBEq, Nat.reduceLeDiff, Nat.reduceAdd, Nat.reduceMul]
          refine alloc_i fun q hq1 => ?_
          simp (disch := first | assumption | (apply Ap.symm; assumption) | omega | decide | (simp only [Xd] <;> omega)) only [cells_RefA, geq_int', e3, fold_RefA, repI1, ↓Xa, Xb, Xc, ↓reduceIte, Nat.reduceLT, Nat.reduceEqDiff, Nat.reduceBEq, Nat.reduceLeDiff, Nat.reduceAdd, Nat.reduceMul]
          refine app_C (m := 1) (hg1 q hq1) rfl cellR (by omega) (by omega) (by omega) fun y' M2 hg2 => ?_
          rw [← RC_snoc] at hg2
          obtain ⟨M3, hg3, hl3⟩ := growC_le2 hg2 ((Le.refl H).updB (hlH.none hq1))
          simp (disch := first | assumption | (apply Ap.symm; assumption) | omega | decide | (simp only [Xd] <;> omega)) only [len_Sx, hjl, idx_Sx, hnl, h93, ↓Xa, Xb, Xc, ↓reduceIte, Nat.reduceLT, Nat.reduceEqDiff, Nat.reduceBEq, Nat.reduceLeDiff, Nat.reduceAdd, Nat.reduceMul]
          refine Settle.dropTo hl3 (Settle.keep [0, 4, 5] ⟨(f, a + (segR l a).length + 1, out ++ [iVal (segR l a)], y', M3), by dsimp only; omega, ⟨by dsimp only; omega, by dsimp only; omega, by simp; omega, hR, by dsimp only; rw [List.length_append]; exact hg3⟩, rfl⟩)
      · have e1 : decide (((((l.getD (a + (segR l a).length) 0).toNat : Nat) : Int)) = ((32 : Nat) : Int)) = false := decide_eq_false (by omega)
        have e2 : decide (((((l.getD (a + (segR l a).length) 0).toNat : Nat) : Int)) = ((93 : Nat) : Int)) = true := decide_eq_true (by omega)
        simp (disch := first | assumption | (apply Ap.symm; assumption) | omega | decide | (simp only [Xd] <;> omega)) only [len_Sx, hjl, idx_Sx, neq_int, e1, e2, ↓Xa, Xb, Xc, ↓reduceIte, Nat.reduceLT, Nat.reduceEqDiff, Nat.reduceBEq, Nat.reduceLeDiff, Nat.reduceAdd, Nat.reduceMul]
        refine Settle.now ?_
        simp (disch := first | assumption | (apply Ap.symm; assumption) | omega | decide | (simp only [Xd] <;> omega)) only [slc_Sx, hseg, ↓Xa, Xb, Xc, ↓reduceIte, Nat.reduceLT, Nat.reduceEqDiff, Nat.reduceBEq, Nat.reduceLeDiff, Nat.reduceAdd, Nat.reduceMul]
        refine hrd.call ?_
        by_cases hb : posP (segR l a) = iFrom (segR l a) ∨ posP (segR l a) < (segR l a).length
        · rw [if_pos hb]
          rw [if_pos hb] at hR
          rw [← hR] at hq
          have e3 : decide (((0 : Nat) : Int) ≤ ((posP (segR l a) : Nat) : Int)) = true := decide_eq_true (by omega)
          simp (disch := first | assumption | (apply Ap.symm; assumption) | omega | decide | (simp only [Xd] <;> omega)) only [↓Xa, Xb, Xc, ↓reduceIte, Nat.reduceLT, Nat.reduceEqDiff, Nat.reduceBEq, Nat.reduceLeDiff, Nat.reduceAdd, Nat.reduceMul]
          refine alloc_i fun q hq1 => ?_
          simp (disch := first | assumption | (apply Ap.symm; assumption) | omega | decide | (simp only [Xd] <;> omega)) only [cells_RefT, geq_int', e3, hwr, rs91, ↓Xa, Xb, Xc, ↓reduceIte, Nat.reduceLT, Nat.reduceEqDiff, Nat.reduceBEq, Nat.reduceLeDiff, Nat.reduceAdd, Nat.reduceMul]
          exact SetR.dropTo (hlH.upd hq1) (SetR.now hq)
        · rw [if_neg hb]
          have e3 : decide (((0 : Nat) : Int) ≤ (-1 : Int)) = false := by decide
          rw [if_neg hb, if_neg (by omega), if_pos hc] at hR
          have hg1 := fun q (hq1 : M q = none) => growC_upd (r := .row 39 0 [RefB (iVal (segR l a)), RefD (iVal (segR l a))]) hg hq1
          have hnl : ¬ a + (segR l a).length = l.length := by omega
          simp (disch := first | assumption | (apply Ap.symm; assumption) | omega | decide | (simp only [Xd] <;> omega)) only [↓Xa, Xb, Xc, ↓reduceIte, Nat.reduceLT, Nat.reduceEqDiff, Nat.reduceBEq, Nat.reduceLeDiff, Nat.reduceAdd, Nat.reduceMul]
          refine alloc_i fun q hq1 => ?_
          simp (disch := first | assumption | (apply Ap.symm; assumption) | omega | decide | (simp only [Xd] <;> omega)) only [cells_RefA, geq_int', e3, fold_RefA, repI1, ↓Xa, Xb, Xc, ↓reduceIte, Nat.reduceLT, Nat.reduceEqDiff, Nat.reduceBEq, Nat.reduceLeDiff, Nat.reduceAdd, Nat.reduceMul]
          refine app_C (m := 1) (hg1 q hq1) rfl cellR (by omega) (by omega) (by omega) fun y' M2 hg2 => ?_
          rw [← RC_snoc] at hg2
          obtain ⟨M3, hg3, hl3⟩ := growC_le2 hg2 ((Le.refl H).updB (hlH.none hq1))
          by_cases h6 : a + (segR l a).length + 1 < l.length
          · rw [if_pos h6] at hR
            rw [← hR] at hq
            simp (disch := first | assumption | (apply Ap.symm; assumption) | omega | decide | (simp only [Xd] <;> omega)) only [len_Sx, hjl, idx_Sx, hnl, hc, h6, rs91, ↓Xa, Xb, Xc, ↓reduceIte, Nat.reduceLT, Nat.reduceEqDiff, Nat.reduceBEq, Nat.reduceLeDiff, Nat.reduceAdd, Nat.reduceMul]
            exact SetR.dropTo hl3 (SetR.dropTo (growC_le hg3) (SetR.now hq))
          · rw [if_neg h6] at hR
            rw [← hR] at hq
            simp (disch := first | assumption | (apply Ap.symm; assumption) | omega | decide | (simp only [Xd] <;> omega)) only [len_Sx, hjl, idx_Sx, hnl, hc, h6, rs91, ↓Xa, Xb, Xc, ↓reduceIte, Nat.reduceLT, Nat.reduceEqDiff, Nat.reduceBEq, Nat.reduceLeDiff, Nat.reduceAdd, Nat.reduceMul]
            refine SetR.dropTo hl3 (growC_fin1 hg3 ?_)
            have hll : (out ++ [iVal (segR l a)]).length = out.length + 1 := by simp
            rw [← hll]
            exact hq
    · simp (disch := first | assumption | (apply Ap.symm; assumption) | omega | decide | (simp only [Xd] <;> omega)) only [len_Sx, hjl, ↓Xa, Xb, Xc, ↓reduceIte, Nat.reduceLT, Nat.reduceEqDiff, Nat.reduceBEq, Nat.reduceLeDiff, Nat.reduceAdd, Nat.reduceMul]
      refine Settle.now ?_
      simp (disch := first | assumption | (apply Ap.symm; assumption) | omega | decide | (simp only [Xd] <;> omega)) only [slc_Sx, hseg, ↓Xa, Xb, Xc, ↓reduceIte, Nat.reduceLT, Nat.reduceEqDiff, Nat.reduceBEq, Nat.reduceLeDiff, Nat.reduceAdd, Nat.reduceMul]
      refine hrd.call ?_
      by_cases hb : posP (segR l a) = iFrom (segR l a) ∨ posP (segR l a) < (segR l a).length
      · rw [if_pos hb]
        rw [if_pos hb] at hR
        rw [← hR] at hq
        have e3 : decide (((0 : Nat) : Int) ≤ ((posP (segR l a) : Nat) : Int)) = true := decide_eq_true (by omega)
        simp (disch := first | assumption | (apply Ap.symm; assumption) | omega | decide | (simp only [Xd] <;> omega)) only [↓Xa, Xb, Xc, ↓reduceIte, Nat.reduceLT, Nat.reduceEqDiff, Nat.reduceBEq, Nat.reduceLeDiff, Nat.reduceAdd, Nat.reduceMul]
        refine alloc_i fun q hq1 => ?_
        simp (disch := first | assumption | (apply Ap.symm; assumption) | omega | decide | (simp only [Xd] <;> omega)) only [cells_RefT, geq_int', e3, hwr, rs91, ↓Xa, Xb, Xc, ↓reduceIte, Nat.reduceLT, Nat.reduceEqDiff, Nat.reduceBEq, Nat.reduceLeDiff, Nat.reduceAdd, Nat.reduceMul]
        exact SetR.dropTo (hlH.upd hq1) (SetR.now hq)
      · rw [if_neg hb]
        have e3 : decide (((0 : Nat) : Int) ≤ (-1 : Int)) = false := by decide
        have hnl : a + (segR l a).length = l.length := by omega
        rw [if_neg hb, if_pos hnl] at hR
        rw [← hR] at hq
        have hg1 := fun q (hq1 : M q = none) => growC_upd (r := .row 39 0 [RefB (iVal (segR l a)), RefD (iVal (segR l a))]) hg hq1
        simp (disch := first | assumption | (apply Ap.symm; assumption) | omega | decide | (simp only [Xd] <;> omega)) only [↓Xa, Xb, Xc, ↓reduceIte, Nat.reduceLT, Nat.reduceEqDiff, Nat.reduceBEq, Nat.reduceLeDiff, Nat.reduceAdd, Nat.reduceMul]
        refine alloc_i fun q hq1 => ?_
        simp (disch := first | assumption | (apply Ap.symm; assumption) | omega | decide | (simp only [Xd] <;> omega)) only [cells_RefA, geq_int', e3, fold_RefA, repI1, ↓Xa, Xb, Xc, ↓reduceIte, Nat.reduceLT, Nat.reduceEqDiff, Nat.reduceBEq, Nat.reduceLeDiff, Nat.reduceAdd, Nat.reduceMul]
        refine app_C (m := 1) (hg1 q hq1) rfl cellR (by omega) (by omega) (by omega) fun y' M2 hg2 => ?_
        obtain ⟨M3, hg3, hl3⟩ := growC_le2 hg2 ((Le.refl H).updB (hlH.none hq1))
        simp (disch := first | assumption | (apply Ap.symm; assumption) | omega | decide | (simp only [Xd] <;> omega)) only [len_Sx, hnl, rs91, ↓Xa, Xb, Xc, ↓reduceIte, Nat.reduceLT, Nat.reduceEqDiff, Nat.reduceBEq, Nat.reduceLeDiff, Nat.reduceAdd, Nat.reduceMul]
        rw [hnl] at hq
        exact SetR.dropTo hl3 (SetR.dropTo (growC_le hg3) (SetR.now hq))
  have lp := loop rfl
  simp (disch := first | assumption | (apply Ap.symm; assumption) | omega | decide | (simp only [Xd] <;> omega)) only [sndC, ac91, ↓Xa, Xb, Xc, ↓reduceIte, Nat.reduceLT, Nat.reduceEqDiff, Nat.reduceBEq, Nat.reduceLeDiff, Nat.reduceAdd, Nat.reduceMul] at lp
  by_cases h1 : 1 < l.length
  · have h4 : ¬ (l.getD 1 0).toNat = 93 := fun h => h2 ⟨h1, h⟩
    simp (disch := first | assumption | (apply Ap.symm; assumption) | omega | decide | (simp only [Xd] <;> omega)) only [ac91, len_Sx, hn, hp, h1, h4, idx_Sx, neq_int, d1, ↓Xa, Xb, Xc, ↓reduceIte, Nat.reduceLT, Nat.reduceEqDiff, Nat.reduceBEq, Nat.reduceLeDiff, Nat.reduceAdd, Nat.reduceMul]
    exact lp
  · simp (disch := first | assumption | (apply Ap.symm; assumption) | omega | decide | (simp only [Xd] <;> omega)) only [ac91, len_Sx, hn, hp, h1, idx_Sx, neq_int, d1, ↓Xa, Xb, Xc, ↓reduceIte, Nat.reduceLT, Nat.reduceEqDiff, Nat.reduceBEq, Nat.reduceLeDiff, Nat.reduceAdd, Nat.reduceMul]
    exact lp
end Go.Proofs.YtanchgkiomfhhaaDoor.Fw

/- The laws of rows' texts, told and read: true. -/
namespace Go.Proofs.YtanchgkiomfhhaaDoor.Fw
set_option linter.unusedSimpArgs false
set_option linter.unusedVariables false
open Go Go.Proofs.YtanchgkiomfhhaaDoor.Ma
set_option maxRecDepth 20000

theorem rrF_nolong (l : List UInt8) : ∀ f a out n, rrF l f a out ≠ .long n
  | 0, _, _, _, h => by simp [rrF] at h
  | f + 1, a, out, n, h => by
    unfold rrF at h
    split at h
    · cases h
    · split at h
      · cases h
      · split at h
        · split at h <;> cases h
        · exact rrF_nolong l f _ _ n h
theorem readRR_nolong (l : List UInt8) (n : Nat) : readRR l ≠ .long n := fun h => by
  unfold readRR at h
  split at h
  · cases h
  · split at h
    · split at h <;> cases h
    · exact rrF_nolong l _ _ _ n h
theorem rowT_len (zs : List Int) : zs.length ≤ (rowT zs).length := by
  have : ∀ xs : List (List UInt8), xs.length ≤ (joinT xs).length + 1 := fun xs => by
    induction xs with
    | nil => simp
    | cons x r ih =>
      cases r with
      | nil => simp
      | cons y r => simp only [joinT, List.length_cons, List.length_append] at ih ⊢; omega
  have := this (zs.map iText)
  simp only [rowT, List.length_append, List.length_cons, List.length_map] at this ⊢; omega
theorem Sx_of4 (s : ByteArray) : Sx s.data.toList = .str s := by cases s; rfl
end Go.Proofs.YtanchgkiomfhhaaDoor.Fw

/- Polynomials read of texts; the laws of their texts: true. -/
namespace Go.Proofs.YtanchgkiomfhhaaDoor.Fw
set_option linter.unusedSimpArgs false
set_option linter.unusedVariables false
open Go Go.Proofs.YtanchgkiomfhhaaDoor.Ma
set_option maxRecDepth 20000

def rdP : Res → AV
  | .ok zs => .tup [RowA zs false, spot 0 0]
  | .bad n => .tup [RowA [] false, spot 6 n]
  | .long n => .tup [RowA [] false, spot 3 n]
theorem spot_fold (a b : Nat) : AV.agg [.int .i64 ((a : Nat) : Int), .int .i64 ((b : Nat) : Int)] = spot a b := rfl
theorem pread1 {l : List UInt8} {zs : List Int} {e n : Nat} {t : Bool} (hrd : PFn Tryd.prog 85 [Sx l] (.tup [RowA zs t, spot e n])) (hz : zs.length < 9223372036854775808) : PFn Tryd.prog 92 [Sx l] (.tup [RowA zs false, spot e n]) := by
  intro H Q hq
  refine enter92 (by simp) ?_
  simp (disch := first | assumption | (apply Ap.symm; assumption) | omega | decide | (simp only [Xd] <;> omega)) only [ac92, ↓Xa, Xb, Xc, ↓reduceIte, Nat.reduceLT, Nat.reduceEqDiff, Nat.reduceBEq, Nat.reduceLeDiff, Nat.reduceAdd, Nat.reduceMul]
  refine alloc_i fun p3 n3 => ?_
  simp (disch := first | assumption | (apply Ap.symm; assumption) | omega | decide | (simp only [Xd] <;> omega)) only [↓Xa, Xb, Xc, ↓reduceIte, Nat.reduceLT, Nat.reduceEqDiff, Nat.reduceBEq, Nat.reduceLeDiff, Nat.reduceAdd, Nat.reduceMul]
  refine hrd.call ?_
  simp (disch := first | assumption | (apply Ap.symm; assumption) | omega | decide | (simp only [Xd] <;> omega)) only [↓Xa, Xb, Xc, ↓reduceIte, Nat.reduceLT, Nat.reduceEqDiff, Nat.reduceBEq, Nat.reduceLeDiff, Nat.reduceAdd, Nat.reduceMul]
  refine alloc_i fun p5 hp5 => ?_
  obtain ⟨a53, n5⟩ := upd_none.1 hp5
  have b53 := a53.symm
  by_cases h0 : zs = []
  · subst h0
    simp (disch := first | assumption | (apply Ap.symm; assumption) | omega | decide | (simp only [Xd] <;> omega)) only [cells_spot, len_rw, hz, a53, b53, spot_fold, rs92, ↓Xa, Xb, Xc, ↓reduceIte, Nat.reduceLT, Nat.reduceEqDiff, Nat.reduceBEq, Nat.reduceLeDiff, Nat.reduceAdd, Nat.reduceMul]
    refine SetR.loose (SetR.dropTo (((Le.refl H).updB n3).updB n5) (SetR.now ?_))
    exact hq
  · have h1 : ¬ zs.length = 0 := fun h => h0 (List.length_eq_zero_iff.1 h)
    simp (disch := first | assumption | (apply Ap.symm; assumption) | omega | decide | (simp only [Xd] <;> omega)) only [cells_spot, len_rw, hz, h1, a53, b53, spot_fold, rs92, ↓Xa, Xb, Xc, ↓reduceIte, Nat.reduceLT, Nat.reduceEqDiff, Nat.reduceBEq, Nat.reduceLeDiff, Nat.reduceAdd, Nat.reduceMul]
    refine SetR.loose (SetR.dropTo (((Le.refl H).updB n3).updB n5) (SetR.now ?_))
    exact hq
theorem pread_fn {l : List UInt8} (hl : l.length < 4611686018427387904) : PFn Tryd.prog 92 [Sx l] (rdP (readR l)) := by
  have hrd := rowread_fn hl
  cases hr : readR l with
  | ok zs =>
    rw [hr] at hrd
    have h1 := (readR_ok hr).1
    have h2 := rowT_len zs
    rw [← h1] at h2
    exact pread1 hrd (by omega)
  | bad n =>
    rw [hr] at hrd
    exact pread1 (zs := []) hrd (by simp)
  | long n =>
    rw [hr] at hrd
    exact pread1 (zs := []) hrd (by simp)
theorem RB4.read {l : List UInt8} {zs : List Int} (h : readR l = .ok zs) (hl : l.length ≤ 65536) : RB4 8192 zs ∧ l = rowT zs ∧ zs.length ≤ l.length := by
  obtain ⟨h1, h2⟩ := readR_ok h
  have h3 := rowT_len zs
  rw [← h1] at h3
  exact ⟨⟨fun z hm => Nat.lt_of_lt_of_le (h2 z hm) (ten_bound (by omega)), by omega⟩, h1, by omega⟩
end Go.Proofs.YtanchgkiomfhhaaDoor.Fw

/- The law of polynomials' texts: true. -/
namespace Go.Proofs.YtanchgkiomfhhaaDoor.Fw
set_option linter.unusedSimpArgs false
set_option linter.unusedVariables false
open Go Go.Proofs.YtanchgkiomfhhaaDoor.Ma
set_option maxRecDepth 20000

theorem readR_rr4 {l : List UInt8} (hl : l.length ≤ 4000) : readR l = readRR l := by
  unfold readR readRR
  rw [if_neg (by omega)]
  split
  · rfl
  · by_cases h2 : l.take 2 = [91, 93]
    · by_cases h3 : l = [91, 93]
      · rw [if_pos h3, if_pos h2, if_neg (by rw [h3]; simp)]
      · have hlen : 2 < l.length := by
          have h4 := congrArg List.length h2
          rw [List.length_take] at h4
          have h5 : ¬ l.length = 2 := fun h5 => h3 (by rw [← List.take_of_length_le (by omega : l.length ≤ 2)]; exact h2)
          simp at h4; omega
        rw [if_neg h3, if_pos h2, if_pos h2, if_pos hlen]
    · have h3 : l ≠ [91, 93] := fun h => h2 (by rw [h]; rfl)
      rw [if_neg h3, if_neg h2, if_neg h2]
      have hne : l ≠ [] := fun h => by subst h; simp at *
      have := List.length_pos_iff.2 hne
      exact rdF_rr l _ _ _ (by omega) (by simp; omega)
theorem polyTexts0 (a : List Int) (l : List UInt8) (ma : Small a) (la : a.length < 9223372036854775808) (hl : l.length < 4611686018427387904) : PFn Tryd.prog 13 [.seq a.length (a.map iA) false, Sx l] (.bool true) := by
  intro H Q hq
  refine enter13 (by simp) ?_
  simp (disch := first | assumption | (apply Ap.symm; assumption) | omega | decide | (simp only [Xd] <;> omega)) only [ac13, ↓Xa, Xb, Xc, ↓reduceIte, Nat.reduceLT, Nat.reduceEqDiff, Nat.reduceBEq, Nat.reduceLeDiff, Nat.reduceAdd, Nat.reduceMul]
  refine works20_fn.call ?_
  by_cases h2 : 1000 < l.length ∧ l.length ≤ 65536
  · obtain ⟨h2, h3⟩ := h2
    simp (disch := first | assumption | (apply Ap.symm; assumption) | omega | decide | (simp only [Xd] <;> omega)) only [len_Sx, h2, h3, rs13, ↓Xa, Xb, Xc, ↓reduceIte, Nat.reduceLT, Nat.reduceEqDiff, Nat.reduceBEq, Nat.reduceLeDiff, Nat.reduceAdd, Nat.reduceMul]
    exact SetR.now hq
  have hguard : (1000 < l.length ∧ ¬ l.length ≤ 65536) ∨ ¬ 1000 < l.length := by omega
  by_cases h1 : 300 < a.length
  · rcases hguard with ⟨g1, g2⟩ | g1
    · simp (disch := first | assumption | (apply Ap.symm; assumption) | omega | decide | (simp only [Xd] <;> omega)) only [len_rw, la, h1, len_Sx, g1, g2, rs13, ↓Xa, Xb, Xc, ↓reduceIte, Nat.reduceLT, Nat.reduceEqDiff, Nat.reduceBEq, Nat.reduceLeDiff, Nat.reduceAdd, Nat.reduceMul]
      exact SetR.now hq
    · simp (disch := first | assumption | (apply Ap.symm; assumption) | omega | decide | (simp only [Xd] <;> omega)) only [len_rw, la, h1, len_Sx, g1, rs13, ↓Xa, Xb, Xc, ↓reduceIte, Nat.reduceLT, Nat.reduceEqDiff, Nat.reduceBEq, Nat.reduceLeDiff, Nat.reduceAdd, Nat.reduceMul]
      exact SetR.now hq
  have hz := (NB.sm (n := 300) ma (by omega)).rb (k := 2) (by decide) (by omega)
  have r2 := pread_fn (l := l) hl
  have hbb : (true != true) = false := rfl
  have hbf : (false != true) = true := rfl
  have hd0 : decide (((0 : Nat) : Int) = ((0 : Nat) : Int)) = true := rfl
  have hd6 : decide (((6 : Nat) : Int) = ((6 : Nat) : Int)) = true := rfl
  have hd3 : decide (((3 : Nat) : Int) = ((3 : Nat) : Int)) = true := rfl
  have hdn : ∀ n : Nat, decide (((n : Nat) : Int) = ((n : Nat) : Int)) = true := fun n => decide_eq_true rfl
  have n0 : (0 : Nat) < 9223372036854775808 := by omega
  have tl := (ptext_fn (t := false) hz (by omega) (by omega)).wk (.cons (Wk.I (zs := a)) .nil)
  have tr := frowt_fn (t := false) hz (by omega) (by omega)
  have hli := list_fn (t := false) ma (by omega)
  have hrf := ref_fn (t := false) ma (by omega)
  have dr : ∀ {p : Nat} {x : Option ABlk}, H p = none → Le H (H.upd p x) := fun h => (Le.refl H).updB h
  by_cases hlong : 65536 < l.length
  · have g1 : 1000 < l.length := by omega
    have g2 : ¬ l.length ≤ 65536 := by omega
    have hr : readR l = .long 65536 := by unfold readR; rw [if_pos hlong]
    rw [hr] at r2
    simp (disch := first | assumption | (apply Ap.symm; assumption) | omega | decide | (simp only [Xd] <;> omega)) only [len_rw, la, h1, len_Sx, g1, g2, ↓Xa, Xb, Xc, ↓reduceIte, Nat.reduceLT, Nat.reduceEqDiff, Nat.reduceBEq, Nat.reduceLeDiff, Nat.reduceAdd, Nat.reduceMul]
    refine (show PFn _ _ _ (.tup [RowA [] false, spot 3 65536]) from r2).call ?_
    simp (disch := first | assumption | (apply Ap.symm; assumption) | omega | decide | (simp only [Xd] <;> omega)) only [↓Xa, Xb, Xc, ↓reduceIte, Nat.reduceLT, Nat.reduceEqDiff, Nat.reduceBEq, Nat.reduceLeDiff, Nat.reduceAdd, Nat.reduceMul]
    refine alloc_i fun p n => ?_
    simp (disch := first | assumption | (apply Ap.symm; assumption) | omega | decide | (simp only [Xd] <;> omega)) only [cells_spot, ↓Xa, Xb, Xc, ↓reduceIte, Nat.reduceLT, Nat.reduceEqDiff, Nat.reduceBEq, Nat.reduceLeDiff, Nat.reduceAdd, Nat.reduceMul]
    refine hli.call ?_
    simp (disch := first | assumption | (apply Ap.symm; assumption) | omega | decide | (simp only [Xd] <;> omega)) only [↓Xa, Xb, Xc, ↓reduceIte, Nat.reduceLT, Nat.reduceEqDiff, Nat.reduceBEq, Nat.reduceLeDiff, Nat.reduceAdd, Nat.reduceMul]
    refine tl.call ?_
    simp (disch := first | assumption | (apply Ap.symm; assumption) | omega | decide | (simp only [Xd] <;> omega)) only [↓Xa, Xb, Xc, ↓reduceIte, Nat.reduceLT, Nat.reduceEqDiff, Nat.reduceBEq, Nat.reduceLeDiff, Nat.reduceAdd, Nat.reduceMul]
    refine hrf.call ?_
    simp (disch := first | assumption | (apply Ap.symm; assumption) | omega | decide | (simp only [Xd] <;> omega)) only [↓Xa, Xb, Xc, ↓reduceIte, Nat.reduceLT, Nat.reduceEqDiff, Nat.reduceBEq, Nat.reduceLeDiff, Nat.reduceAdd, Nat.reduceMul]
    refine tr.call ?_
    simp (disch := first | assumption | (apply Ap.symm; assumption) | omega | decide | (simp only [Xd] <;> omega)) only [neq_Sx, decide_true, len_Sx, hlong, len_rw, n0, List.length_nil, eql_int, hd0, spot, aeq_ii, hd3, hdn, hbf, rs13, ↓Xa, Xb, Xc, ↓reduceIte, Nat.reduceLT, Nat.reduceEqDiff, Nat.reduceBEq, Nat.reduceLeDiff, Nat.reduceAdd, Nat.reduceMul]
    exact SetR.dropTo (dr n) (SetR.now hq)
  have g1 : ¬ 1000 < l.length := by omega
  have hrr := rrread4_fn (l := l) (by omega)
  rw [← readR_rr4 (by omega)] at hrr
  cases hr : readR l with
  | long n =>
    exact absurd ((readR_rr4 (by omega)).symm.trans hr) (readRR_nolong l n)
  | bad n =>
    rw [hr] at r2 hrr
    have e3 : decide (((0 : Nat) : Int) ≤ ((n : Nat) : Int)) = true := decide_eq_true (by omega)
    simp (disch := first | assumption | (apply Ap.symm; assumption) | omega | decide | (simp only [Xd] <;> omega)) only [len_rw, la, h1, len_Sx, g1, ↓Xa, Xb, Xc, ↓reduceIte, Nat.reduceLT, Nat.reduceEqDiff, Nat.reduceBEq, Nat.reduceLeDiff, Nat.reduceAdd, Nat.reduceMul]
    refine (show PFn _ _ _ (.tup [RowA [] false, spot 6 n]) from r2).call ?_
    simp (disch := first | assumption | (apply Ap.symm; assumption) | omega | decide | (simp only [Xd] <;> omega)) only [↓Xa, Xb, Xc, ↓reduceIte, Nat.reduceLT, Nat.reduceEqDiff, Nat.reduceBEq, Nat.reduceLeDiff, Nat.reduceAdd, Nat.reduceMul]
    refine alloc_i fun p n' => ?_
    simp (disch := first | assumption | (apply Ap.symm; assumption) | omega | decide | (simp only [Xd] <;> omega)) only [cells_spot, ↓Xa, Xb, Xc, ↓reduceIte, Nat.reduceLT, Nat.reduceEqDiff, Nat.reduceBEq, Nat.reduceLeDiff, Nat.reduceAdd, Nat.reduceMul]
    refine hli.call ?_
    simp (disch := first | assumption | (apply Ap.symm; assumption) | omega | decide | (simp only [Xd] <;> omega)) only [↓Xa, Xb, Xc, ↓reduceIte, Nat.reduceLT, Nat.reduceEqDiff, Nat.reduceBEq, Nat.reduceLeDiff, Nat.reduceAdd, Nat.reduceMul]
    refine tl.call ?_
    simp (disch := first | assumption | (apply Ap.symm; assumption) | omega | decide | (simp only [Xd] <;> omega)) only [↓Xa, Xb, Xc, ↓reduceIte, Nat.reduceLT, Nat.reduceEqDiff, Nat.reduceBEq, Nat.reduceLeDiff, Nat.reduceAdd, Nat.reduceMul]
    refine hrf.call ?_
    simp (disch := first | assumption | (apply Ap.symm; assumption) | omega | decide | (simp only [Xd] <;> omega)) only [↓Xa, Xb, Xc, ↓reduceIte, Nat.reduceLT, Nat.reduceEqDiff, Nat.reduceBEq, Nat.reduceLeDiff, Nat.reduceAdd, Nat.reduceMul]
    refine tr.call ?_
    simp (disch := first | assumption | (apply Ap.symm; assumption) | omega | decide | (simp only [Xd] <;> omega)) only [neq_Sx, decide_true, len_Sx, hlong, ↓Xa, Xb, Xc, ↓reduceIte, Nat.reduceLT, Nat.reduceEqDiff, Nat.reduceBEq, Nat.reduceLeDiff, Nat.reduceAdd, Nat.reduceMul]
    refine (show PFn _ _ _ (.tup [.seq 0 [] true, .int .i64 (n : Int)]) from hrr).call ?_
    simp (disch := first | assumption | (apply Ap.symm; assumption) | omega | decide | (simp only [Xd] <;> omega)) only [geq_int', e3, len_rw, n0, List.length_nil, eql_int, hd0, spot, aeq_ii, hd6, hdn, hbf, rs13, ↓Xa, Xb, Xc, ↓reduceIte, Nat.reduceLT, Nat.reduceEqDiff, Nat.reduceBEq, Nat.reduceLeDiff, Nat.reduceAdd, Nat.reduceMul]
    exact SetR.dropTo (dr n') (SetR.now hq)
  | ok zs =>
    rw [hr] at r2 hrr
    obtain ⟨z1, z2, z3⟩ := RB4.read hr (by omega)
    have e3 : decide (((0 : Nat) : Int) ≤ (-1 : Int)) = false := by decide
    simp (disch := first | assumption | (apply Ap.symm; assumption) | omega | decide | (simp only [Xd] <;> omega)) only [len_rw, la, h1, len_Sx, g1, ↓Xa, Xb, Xc, ↓reduceIte, Nat.reduceLT, Nat.reduceEqDiff, Nat.reduceBEq, Nat.reduceLeDiff, Nat.reduceAdd, Nat.reduceMul]
    refine (show PFn _ _ _ (.tup [RowA zs false, spot 0 0]) from r2).call ?_
    simp (disch := first | assumption | (apply Ap.symm; assumption) | omega | decide | (simp only [Xd] <;> omega)) only [↓Xa, Xb, Xc, ↓reduceIte, Nat.reduceLT, Nat.reduceEqDiff, Nat.reduceBEq, Nat.reduceLeDiff, Nat.reduceAdd, Nat.reduceMul]
    refine alloc_i fun p n' => ?_
    simp (disch := first | assumption | (apply Ap.symm; assumption) | omega | decide | (simp only [Xd] <;> omega)) only [cells_spot, ↓Xa, Xb, Xc, ↓reduceIte, Nat.reduceLT, Nat.reduceEqDiff, Nat.reduceBEq, Nat.reduceLeDiff, Nat.reduceAdd, Nat.reduceMul]
    refine hli.call ?_
    simp (disch := first | assumption | (apply Ap.symm; assumption) | omega | decide | (simp only [Xd] <;> omega)) only [↓Xa, Xb, Xc, ↓reduceIte, Nat.reduceLT, Nat.reduceEqDiff, Nat.reduceBEq, Nat.reduceLeDiff, Nat.reduceAdd, Nat.reduceMul]
    refine tl.call ?_
    simp (disch := first | assumption | (apply Ap.symm; assumption) | omega | decide | (simp only [Xd] <;> omega)) only [↓Xa, Xb, Xc, ↓reduceIte, Nat.reduceLT, Nat.reduceEqDiff, Nat.reduceBEq, Nat.reduceLeDiff, Nat.reduceAdd, Nat.reduceMul]
    refine hrf.call ?_
    simp (disch := first | assumption | (apply Ap.symm; assumption) | omega | decide | (simp only [Xd] <;> omega)) only [↓Xa, Xb, Xc, ↓reduceIte, Nat.reduceLT, Nat.reduceEqDiff, Nat.reduceBEq, Nat.reduceLeDiff, Nat.reduceAdd, Nat.reduceMul]
    refine tr.call ?_
    simp (disch := first | assumption | (apply Ap.symm; assumption) | omega | decide | (simp only [Xd] <;> omega)) only [neq_Sx, decide_true, len_Sx, hlong, ↓Xa, Xb, Xc, ↓reduceIte, Nat.reduceLT, Nat.reduceEqDiff, Nat.reduceBEq, Nat.reduceLeDiff, Nat.reduceAdd, Nat.reduceMul]
    refine (show PFn _ _ _ (.tup [RefR zs false, .int .i64 (-1)]) from hrr).call ?_
    simp (disch := first | assumption | (apply Ap.symm; assumption) | omega | decide | (simp only [Xd] <;> omega)) only [geq_int', e3, spot, aeq_ii, hd0, hdn, hbf, ↓Xa, Xb, Xc, ↓reduceIte, Nat.reduceLT, Nat.reduceEqDiff, Nat.reduceBEq, Nat.reduceLeDiff, Nat.reduceAdd, Nat.reduceMul]
    refine (is20_fn (t := false) (t' := false) z1 (by omega)).call ?_
    simp (disch := first | assumption | (apply Ap.symm; assumption) | omega | decide | (simp only [Xd] <;> omega)) only [rs13, ↓Xa, Xb, Xc, ↓reduceIte, Nat.reduceLT, Nat.reduceEqDiff, Nat.reduceBEq, Nat.reduceLeDiff, Nat.reduceAdd, Nat.reduceMul]
    exact SetR.dropTo (dr n') (SetR.now hq)
theorem polyTexts_law (a : List Int) (s : ByteArray) (ma : ∀ n, n ∈ a → -9223372036854775808 ≤ n ∧ n < 9223372036854775808) (la : a.length < 9223372036854775808) (h : s.size ≤ 140737488351232) : PFn Tryd.prog 13 [I64s a, .str s] (.bool true) := by
  rw [← Sx_of4]
  exact polyTexts0 a _ ma la (by have : s.data.toList.length = s.size := rfl; omega)
end Go.Proofs.YtanchgkiomfhhaaDoor.Fw
