/- The texts Lay156 Kj Kh Kk Kl Km Ko Kp Kq Kr Ks Kt Pb Pc Oa Oc Od Pd Pe Pf Pk Pm Pg Ph Pi Pt Pp Pu Pv Pw Ob Oe Of Pr Pz, joined. -/
import Derived.Test.YtanchgkiomfhhaaDoorZ8
import Derived.Shelf.Strings.OnBuilder
import Derived.Test.YtanchgkiomfhhaaDoorProg
import Derived.Lib.SmallJoins
/- The numbers under which the library's functions stand in this program, and that their texts are those which the kit's contracts speak of: printed by wip/tools/lay.py. -/
namespace Go.Proofs.YtanchgkiomfhhaaDoor.Fw
open Go Go.Shelf Go.Proofs
def lay156_ren : Ren :=
  {
    f := fun x =>
      match x with
      | 156 => 168
      | 165 => 203
      | 166 => 204
      | 169 => 205
      | 240 => 215
      | 241 => 216
      | 276 => 227
      | 277 => 228
      | n => n,
    t := fun x =>
      match x with
      | 31 => 202
      | 9 => 9
      | 3 => 3
      | 4 => 4
      | 0 => 0
      | 20 => 20
      | 72 => 234
      | 76 => 238
      | 70 => 232
      | 37 => 103
      | 75 => 237
      | 127 => 251
      | 164 => 263
      | 5 => 5
      | 80 => 36
      | n => n,
    g := fun x =>
      have n := x;
      n }
theorem lay156 : Lays.n156 Tryd.prog lay156_ren :=
  { mixed := Eq.refl true, f156 := Eq.trans Tryd.func168 (congrArg some (Eq.refl (Body.n156 lay156_ren))),
    f165 := Eq.trans Tryd.func203 (congrArg some (Eq.refl (Body.n165 lay156_ren))),
    f166 := Eq.trans Tryd.func204 (congrArg some (Eq.refl (Body.n166 lay156_ren))),
    f169 := Eq.trans Tryd.func205 (congrArg some (Eq.refl (Body.n169 lay156_ren))),
    f240 := Eq.trans Tryd.func215 (congrArg some (Eq.refl (Body.n240 lay156_ren))),
    f241 := Eq.trans Tryd.func216 (congrArg some (Eq.refl (Body.n241 lay156_ren))),
    f276 := Eq.trans Tryd.func227 (congrArg some (Eq.refl (Body.n276 lay156_ren))),
    f277 := Eq.trans Tryd.func228 (congrArg some (Eq.refl (Body.n277 lay156_ren))), t0 := Tryd.underlying0,
    a0 := Tryd.isAgg0, z0 := Tryd.sizeOf0, v0 := Tryd.zeroValue0, t3 := Tryd.underlying3, a3 := Tryd.isAgg3,
    z3 := Tryd.sizeOf3, v3 := Tryd.zeroValue3, t4 := Tryd.underlying4, a4 := Tryd.isAgg4, z4 := Tryd.sizeOf4,
    v4 := Tryd.zeroValue4, t9 := Tryd.underlying9, a9 := Tryd.isAgg9, z9 := Tryd.sizeOf9, v9 := Tryd.zeroValue9,
    t20 := Tryd.underlying20, a20 := Tryd.isAgg20, z20 := Tryd.sizeOf20, v20 := Tryd.zeroValue20,
    t31 := Tryd.underlying202, a31 := Tryd.isAgg202, z31 := Tryd.sizeOf202, v31 := Tryd.zeroValue202,
    t37 := Tryd.underlying103, a37 := Tryd.isAgg103, z37 := Tryd.sizeOf103, v37 := Tryd.zeroValue103,
    t70 := Tryd.underlying232, a70 := Tryd.isAgg232, z70 := Tryd.sizeOf232, v70 := Tryd.zeroValue232,
    t72 := Tryd.underlying234, a72 := Tryd.isAgg234, z72 := Tryd.sizeOf234, v72 := Tryd.zeroValue234,
    t75 := Tryd.underlying237, a75 := Tryd.isAgg237, z75 := Tryd.sizeOf237, v75 := Tryd.zeroValue237,
    t76 := Tryd.underlying238, a76 := Tryd.isAgg238, z76 := Tryd.sizeOf238, v76 := Tryd.zeroValue238,
    t127 := Tryd.underlying251, a127 := Tryd.isAgg251, z127 := Tryd.sizeOf251, v127 := Tryd.zeroValue251,
    t164 := Tryd.underlying263, a164 := Tryd.isAgg263, z164 := Tryd.sizeOf263, v164 := Tryd.zeroValue263 }
end Go.Proofs.YtanchgkiomfhhaaDoor.Fw

/- Strings joined: by the kit's contract. -/
namespace Go.Proofs.YtanchgkiomfhhaaDoor.Fw
set_option linter.unusedSimpArgs false
set_option linter.unusedVariables false
open Go Go.Proofs.YtanchgkiomfhhaaDoor.Ma Go.Shelf
set_option maxRecDepth 20000

theorem pfn_calls {P : Program} {f : FuncId} {args : List AV} {r : AV} (hf : ∃ fn, P.funcs[f]? = some fn ∧ (fn.name == "runtime.NumGoroutine") = false ∧ fn.body.isNone = false)
    (h : ∀ (c : Ctx) (vs : Array Value), Ok c → vs.size = args.length → (∀ i (h : i < args.length) (h' : i < vs.size), Enc c (args[i]) (vs[i])) → Calls P f vs c.w fun e w' => ∃ v, e = .returned v ∧ (∀ c', Enc c' r v) ∧ Go.RowKit.Below c.w.heap.size c.w w') : PFn P f args r := by
  intro H Q hq
  refine ⟨hf, fun c vs hH hok hs he => (h c vs hok hs he).mono ?_⟩
  rintro e w' ⟨v, rfl, hr, hb⟩
  let c2 : Ctx := { c with w := w' }
  have hsz : ∀ i x, c.H i = some x → c.μ i < c.w.heap.size := fun i x e => by
    have := hok.blk i x e
    cases x with
    | row ty es cells => obtain ⟨arr, h1, _⟩ := this; exact (Array.getElem?_eq_some_iff.1 h1).1
    | raw o => exact (Array.getElem?_eq_some_iff.1 this.1).1
    | glob g cells => rw [this.1]; exact this.2.1
    | loop st pend fn ps assign body n E => obtain ⟨tm, dd, h1, _⟩ := this; exact (Array.getElem?_eq_some_iff.1 h1).1
  have later : Later c c2 := by
    refine ⟨⟨hb.size, hb.os, hb.tape, hb.output, fun _ h => h, ?_, fun k hk hm => ⟨hb.block k hk, hm⟩⟩, fun _ h => ⟨h, fun k => k⟩⟩
    intro i x' _ hx'
    exact ⟨x', hx', Nat.le_refl _, fun _ => ⟨rfl, fun ty' es' cells' e => ⟨cells', e, fun arr ha => ⟨arr, (hb.block _ (hsz i x' hx')).trans ha, rfl⟩⟩⟩⟩
  have ok : Ok c2 := ⟨hok.used, hok.fin, hok.inj, fun b x hx => (hok.blk b x hx).later later rfl (hb.block _ (hsz b x hx))⟩
  exact ⟨c2, v, r, rfl, rfl, ok, later, hr c2, by show Q r c.H; rw [hH]; exact hq⟩
theorem joinX : Builder.Extra Tryd.prog lay156_ren where
  sizeBuilder := by kernel_rfl
  liesBuilder := by kernel_rfl
  t5 := Tryd.underlying5
  a5 := Tryd.isAgg5
  z5 := Tryd.sizeOf5
  v5 := Tryd.zeroValue5
  infoByte := by kernel_rfl
  cellsByte := by kernel_rfl
  sizeByte := by kernel_rfl
  neB5 := by decide
theorem join_fn (xs : List (List UInt8)) (sep : List UInt8) (t : Bool) (hN : xs.length ≤ 1000000) (hlen : (Lib.join xs sep).length ≤ 140737488355328) : PFn Tryd.prog 168 [.seq xs.length (xs.map Sx) t, Sx sep] (Sx (Lib.join xs sep)) := by
  by_cases h0 : xs = []
  · subst h0
    intro H Q hq
    refine enter168 (by simp) ?_
    have e : Lib.join ([] : List (List UInt8)) sep = [] := rfl
    rw [e] at hq
    have l0 : ([] : List (List UInt8)).length = 0 := rfl
    simp (disch := first | assumption | (apply Ap.symm; assumption) | omega | decide | (simp only [Xd] <;> omega)) only [ac168, l0, len_rw, rs168, ↓Xa, Xb, Xc, ↓reduceIte, Nat.reduceLT, Nat.reduceEqDiff, Nat.reduceBEq, Nat.reduceLeDiff, Nat.reduceAdd, Nat.reduceMul]
    exact SetR.now hq
  · refine pfn_calls ⟨_, Tryd.func168, by kernel_rfl, by kernel_rfl⟩ fun c vs hok hs he => ?_
    obtain ⟨v0, v1, rfl⟩ : ∃ v0 v1, vs = #[v0, v1] := Go.Joins.array2 hs
    have e0 : Enc c (.seq xs.length (xs.map Sx) t) v0 := he 0 (by simp) (by simp)
    have e1 : Enc c (Sx sep) v1 := he 1 (by simp) (by simp)
    cases e1
    cases e0 with
    | seq _ _ _ base cap cv hlen' hcap hmax ht hb hn hc =>
      obtain ⟨k, off, rfl, hmu, hk, hcell⟩ := hb (by simpa using List.length_pos_iff.2 h0)
      have hce : ∀ (j : Nat) x, (xs.map fun l => (⟨l.toArray⟩ : ByteArray))[j]? = some x → c.w.cell? ⟨k, off + j, none⟩ = some (.string x) := fun j x hx => by
        rw [List.getElem?_map] at hx
        obtain ⟨y, hy, rfl⟩ := Option.map_eq_some_iff.1 hx
        obtain ⟨hj, hy⟩ := List.getElem?_eq_some_iff.1 hy
        have h1 := hcell j (by simpa using hj)
        have h2 := hc j (by simpa using hj)
        rw [List.getElem_map, hy] at h2
        generalize cv j = u at h1 h2
        cases h2
        exact h1
      have hm : (xs.map fun l => (⟨l.toArray⟩ : ByteArray)).map (·.data.toList) = xs := by
        rw [List.map_map]
        exact (List.map_congr_left fun l _ => by simp).trans (List.map_id xs)
      have := Any.strings_Join (P := Tryd.prog) (ρ := lay156_ren) lay156 joinX k off cap (xs.map fun l => (⟨l.toArray⟩ : ByteArray)) ⟨sep.toArray⟩ c.w hce hk (by simpa using Nat.le_trans hN (by omega)) (by simpa using hcap) (by rw [hm]; simpa using hlen)
      rw [hm, List.length_map] at this
      refine this.mono fun e w' ⟨h1, h2⟩ => ⟨_, h1, fun c' => ?_, h2⟩
      simp only [Sx]
      exact .str _
end Go.Proofs.YtanchgkiomfhhaaDoor.Fw

/- Rows of whole numbers: made of small ones, told; what the laws' own helpers answer. -/
namespace Go.Proofs.YtanchgkiomfhhaaDoor.Fw
set_option linter.unusedSimpArgs false
set_option linter.unusedVariables false
open Go Go.Proofs.YtanchgkiomfhhaaDoor.Ma
set_option maxRecDepth 20000

theorem repF0 {a : AV} : repA [a] 1 = [a] := by simp [repA, List.range, List.range.loop]
theorem load_map {α : Type} {f : α → AV} {l : List α} {H : AHeap} {K : AV → Prop} {i : Nat} (h : i < l.length) : loadW H none (.cptr ((l.map f).drop i)) K = K (f (l[i])) := by
  have hi : i < (l.map f).length := by simpa using h
  simp only [loadW, cellsAt, List.drop_eq_getElem_cons hi]
  simp
theorem idx_map {α : Type} {f : α → AV} {l : List α} {t : Bool} {k : IntKind} {K : AV → Prop} {i : Nat} (h : i < l.length) : idxAW 1 (.seq l.length (l.map f) t) (.int k (i : Int)) K = K (.cptr ((l.map f).drop (i * 1))) := idx_rw (by simp) h
abbrev iA (n : Int) : AV := .int .i64 n
def joinT : List (List UInt8) → List UInt8
  | [] => []
  | [x] => x
  | x :: y :: r => x ++ 32 :: joinT (y :: r)
theorem joinT_eq : ∀ xs : List (List UInt8), Lib.join xs [32] = joinT xs
  | [] => rfl
  | [x] => by simp [Lib.join, joinT, List.intercalate]
  | x :: y :: r => by
    have := joinT_eq (y :: r)
    simp only [Lib.join, joinT, List.intercalate] at this ⊢
    rw [← this]
    simp
theorem joinT_len {k : Nat} : ∀ xs : List (List UInt8), (∀ x, x ∈ xs → x.length ≤ k) → (joinT xs).length ≤ xs.length * (k + 1)
  | [], _ => by simp [joinT]
  | [x], h => by have := h x (by simp); simp [joinT]; omega
  | x :: y :: r, h => by
    have h1 := joinT_len (y :: r) fun z hz => h z (by simp at hz ⊢; exact .inr hz)
    have h2 := h x (by simp)
    simp only [joinT, List.length_append, List.length_cons] at h1 ⊢
    rw [Nat.add_mul]; omega
def rowT (zs : List Int) : List UInt8 := 91 :: joinT (zs.map iText) ++ [93]
theorem joinI_len {k : Nat} {zs : List Int} (hz : RB4 k zs) (hk : k ≤ 1000000) (hbig : zs.length ≤ 1000000) : (joinT (zs.map iText)).length ≤ 1000000 * 10000003 := by
  refine Nat.le_trans (joinT_len (k := 10 * k + 2) _ fun x hx => ?_) ?_
  · obtain ⟨z, hm, rfl⟩ := List.mem_map.1 hx
    exact iText_len (hz.1 z hm)
  · rw [List.length_map]; exact Nat.mul_le_mul hbig (by omega)
theorem cell_Sx1 {l : List UInt8} : [Sx l].all AV.cell = true := rfl
theorem rowt_fn {zs : List Int} {t : Bool} {k : Nat} (hz : RB4 k zs) (hk : k ≤ 1000000) (hbig : zs.length ≤ 1000000) : PFn Tryd.prog 86 [RowA zs t] (Sx (rowT zs)) := by
  intro H Q hq
  have nz : zs.length < 9223372036854775808 := by omega
  have hjl := joinI_len hz hk hbig
  refine enter86 (by simp) ?_
  simp (disch := first | assumption | (apply Ap.symm; assumption) | omega | decide | (simp only [Xd] <;> omega)) only [ac86, len_rw, ↓Xa, Xb, Xc, ↓reduceIte, Nat.reduceLT, Nat.reduceEqDiff, Nat.reduceBEq, Nat.reduceLeDiff, Nat.reduceAdd, Nat.reduceMul]
  refine W_loop (fun s : Nat × AV × AHeap => ⟨[], [(3, s.2.1), (6, RowA zs t), (7, .int .i64 (zs.length : Int)), (8, .int .i64 s.1)], s.2.2⟩) (fun s => s.1 ≤ zs.length ∧ growC H 9 1 s.1 ((zs.take s.1).map fun z => Sx (iText z)) s.2.1 s.2.2) (fun s => zs.length - s.1) (0, .seq 0 [] true, H) (Settle.now rfl) ⟨Nat.zero_le _, growC_nil⟩ ?_
  rintro ⟨i, y, M⟩ ⟨h3, hg⟩
  dsimp only at h3 hg ⊢
  by_cases hi : i < zs.length
  · simp (disch := first | assumption | (apply Ap.symm; assumption) | omega | decide | (simp only [Xd] <;> omega)) only [hi, idx_IC, load_IC, ↓Xa, Xb, Xc, ↓reduceIte, Nat.reduceLT, Nat.reduceEqDiff, Nat.reduceBEq, Nat.reduceLeDiff, Nat.reduceAdd, Nat.reduceMul]
    refine alloc_i fun q hq1 => ?_
    simp (disch := first | assumption | (apply Ap.symm; assumption) | omega | decide | (simp only [Xd] <;> omega)) only [cells_IntA, fold_IntA, ↓Xa, Xb, Xc, ↓reduceIte, Nat.reduceLT, Nat.reduceEqDiff, Nat.reduceBEq, Nat.reduceLeDiff, Nat.reduceAdd, Nat.reduceMul]
    have hg1 := growC_upd (r := .row 28 0 [IntB (zs[i]), IntD (zs[i])]) hg hq1
    refine (itext_fn (hz.at hi) hk).call ?_
    simp (disch := first | assumption | (apply Ap.symm; assumption) | omega | decide | (simp only [Xd] <;> omega)) only [repF0, cells_Sx, str_Sx, ↓Xa, Xb, Xc, ↓reduceIte, Nat.reduceLT, Nat.reduceEqDiff, Nat.reduceBEq, Nat.reduceLeDiff, Nat.reduceAdd, Nat.reduceMul]
    refine app_C (m := 1) hg1 rfl cell_Sx1 (by omega) (by omega) (by omega) fun y' M2 hg3 => ?_
    have e : (zs.take (i + 1)).map (fun z => Sx (iText z)) = (zs.take i).map (fun z => Sx (iText z)) ++ [Sx (iText (zs[i]))] := by
      rw [List.take_add_one, List.getElem?_eq_getElem hi, Option.toList_some, List.map_append]; rfl
    rw [← e] at hg3
    obtain ⟨M3, hg4, hl4⟩ := growC_le2 hg3 ((Le.refl H).upd (growC_none hg hq1))
    simp (disch := first | assumption | (apply Ap.symm; assumption) | omega | decide | (simp only [Xd] <;> omega)) only [↓Xa, Xb, Xc, ↓reduceIte, Nat.reduceLT, Nat.reduceEqDiff, Nat.reduceBEq, Nat.reduceLeDiff, Nat.reduceAdd, Nat.reduceMul]
    exact Settle.dropTo hl4 (Settle.now ⟨(i + 1, y', M3), by dsimp only; omega, ⟨by dsimp only; omega, hg4⟩, rfl⟩)
  · obtain rfl : i = zs.length := by omega
    rw [List.take_of_length_le (by omega)] at hg
    simp (disch := first | assumption | (apply Ap.symm; assumption) | omega | decide | (simp only [Xd] <;> omega)) only [hi, ↓Xa, Xb, Xc, ↓reduceIte, Nat.reduceLT, Nat.reduceEqDiff, Nat.reduceBEq, Nat.reduceLeDiff, Nat.reduceAdd, Nat.reduceMul]
    refine Settle.grownC 3 rfl hg (Settle.now ?_)
    have hj := join_fn (zs.map iText) [32] false (by simpa using hbig) (by rw [joinT_eq]; omega)
    rw [joinT_eq, List.length_map, List.map_map] at hj
    have s1 : AV.str ⟨#[91]⟩ = Sx [91] := rfl
    have s2 : AV.str ⟨#[93]⟩ = Sx [93] := rfl
    have s3 : AV.str ⟨#[32]⟩ = Sx [32] := rfl
    have e1 : ∀ K, binW .add (Sx [91]) (Sx (joinT (zs.map iText))) K = K (Sx (91 :: joinT (zs.map iText))) := fun K => add_Sx (by simp only [List.length_cons, List.length_append, List.length_nil]; omega)
    have e2 : ∀ K, binW .add (Sx (91 :: joinT (zs.map iText))) (Sx [93]) K = K (Sx (rowT zs)) := fun K => by rw [add_Sx (by simp only [List.length_cons, List.length_append, List.length_nil]; omega)]; rfl
    simp (disch := first | assumption | (apply Ap.symm; assumption) | omega | decide | (simp only [Xd] <;> omega)) only [s3, ↓Xa, Xb, Xc, ↓reduceIte, Nat.reduceLT, Nat.reduceEqDiff, Nat.reduceBEq, Nat.reduceLeDiff, Nat.reduceAdd, Nat.reduceMul]
    refine hj.call ?_
    simp (disch := first | assumption | (apply Ap.symm; assumption) | omega | decide | (simp only [Xd] <;> omega)) only [s1, s2, e1, e2, rs86, ↓Xa, Xb, Xc, ↓reduceIte, Nat.reduceLT, Nat.reduceEqDiff, Nat.reduceBEq, Nat.reduceLeDiff, Nat.reduceAdd, Nat.reduceMul]
    exact SetR.now hq
end Go.Proofs.YtanchgkiomfhhaaDoor.Fw

/- The row laws' own helpers: an answer that is fixed, rows that are too long, a row in both, one number in both, rows in both. -/
namespace Go.Proofs.YtanchgkiomfhhaaDoor.Fw
set_option linter.unusedSimpArgs false
set_option linter.unusedVariables false
open Go Go.Proofs.YtanchgkiomfhhaaDoor.Ma
set_option maxRecDepth 20000

/-! ### too long -/
def sumN : List Nat → Nat
  | [] => 0
  | a :: l => a + sumN l
section
variable {K : AV → Prop} {H : AHeap} {k : IntKind} {t : Bool} {l : List NumV} {i : Nat}
end
def numT (l : List NumV) : Nat := l.length + sumN (l.map fun q => q.2.1.length)
abbrev rowN (x : List NumV × Bool) : AV := .seq x.1.length (NumsC x.1) x.2
end Go.Proofs.YtanchgkiomfhhaaDoor.Fw

/- The row laws' own helpers: a row in both, one number in both, rows in both; the law that holds rows against each other. -/
namespace Go.Proofs.YtanchgkiomfhhaaDoor.Fw
set_option linter.unusedSimpArgs false
set_option linter.unusedVariables false
open Go Go.Proofs.YtanchgkiomfhhaaDoor.Ma
set_option maxRecDepth 20000

def numZ (q : NumV) : Int := sg q.1 (val 4294967296 q.2.1)
def rowZ (l : List NumV) : List Int := l.map numZ
theorem RC_take {zs : List Int} {i : Nat} (h : i < zs.length) : RC (zs.take (i + 1)) = RC (zs.take i) ++ [RefB (zs[i]), RefD (zs[i])] := by
  rw [List.take_add_one, List.getElem?_eq_getElem h, Option.toList_some, RC_snoc]
theorem cellR {z : Int} : [RefB z, RefD z].all AV.cell = true := rfl
end Go.Proofs.YtanchgkiomfhhaaDoor.Fw

/- The law that two rows held against each other obey: true. -/
namespace Go.Proofs.YtanchgkiomfhhaaDoor.Fw
set_option linter.unusedSimpArgs false
set_option linter.unusedVariables false
open Go Go.Proofs.YtanchgkiomfhhaaDoor.Ma
set_option maxRecDepth 20000

end Go.Proofs.YtanchgkiomfhhaaDoor.Fw

/- Rows of whole numbers: divided by a number, content, primitive row. -/
namespace Go.Proofs.YtanchgkiomfhhaaDoor.Fw
set_option linter.unusedSimpArgs false
set_option linter.unusedVariables false
open Go Go.Proofs.YtanchgkiomfhhaaDoor.Ma
set_option maxRecDepth 20000

theorem PFn.loose1 {P : Program} {f : FuncId} {x : AV} {rest : List AV} {r : AV} (h : PFn P f (loose x :: rest) r) : PFn P f (x :: rest) r := fun H Q hq =>
  ⟨(h H Q hq).1, fun c vs hH hok hs he => (h H Q hq).2 c vs hH hok (by simpa using hs) fun i hi hi' => by
    match i, hi with
    | 0, _ => exact enc_loose _ _ (he 0 (by simp) hi')
    | i + 1, hi => exact he (i + 1) (by simpa using hi) hi'⟩
end Go.Proofs.YtanchgkiomfhhaaDoor.Fw

/- Rows of whole numbers: the primitive row; the reference's rows put together. -/
namespace Go.Proofs.YtanchgkiomfhhaaDoor.Fw
set_option linter.unusedSimpArgs false
set_option linter.unusedVariables false
open Go Go.Proofs.YtanchgkiomfhhaaDoor.Ma
set_option maxRecDepth 20000

end Go.Proofs.YtanchgkiomfhhaaDoor.Fw

/- The law of rows over numbers (a module): true. -/
namespace Go.Proofs.YtanchgkiomfhhaaDoor.Fw
set_option linter.unusedSimpArgs false
set_option linter.unusedVariables false
open Go Go.Proofs.YtanchgkiomfhhaaDoor.Ma
set_option maxRecDepth 20000

theorem RB4.map {k k' : Nat} {zs : List Int} {f : Int → Int} (h : RB4 k zs) (hf : ∀ z, Bd k z → Bd k' (f z)) : RB4 k' (zs.map f) :=
  ⟨fun z hz => by obtain ⟨y, hy, rfl⟩ := List.mem_map.1 hz; exact hf y (h.1 y hy), by rw [List.length_map]; exact h.2⟩
theorem RB4.zip {k k1 k2 : Nat} {zs ws : List Int} {f : Int → Int → Int} (h : RB4 k1 zs) (h2 : RB4 k2 ws) (hl : zs.length = ws.length) (hf : ∀ z w, Bd k1 z → Bd k2 w → Bd k (f z w)) : RB4 k (zipI f zs ws) :=
  ⟨fun z hz => by
    obtain ⟨i, hi, rfl⟩ := List.getElem_of_mem hz
    have hi2 : i < zs.length := by rw [zip_len hl] at hi; exact hi
    rw [zip_at hl hi2]
    exact hf _ _ (h.at hi2) (h2.at (by omega)), by rw [zip_len hl]; exact h.2⟩
theorem RB4.mono {k k' : Nat} {zs : List Int} (h : RB4 k zs) (hk : k ≤ k') : RB4 k' zs := ⟨fun z hz => (h.1 z hz).mono hk, h.2⟩
theorem Bd.sums {k : Nat} : ∀ {l : List Int} {s : Int} {j : Nat}, Bd (k + j) s → (∀ z, z ∈ l → Bd k z) → Bd (k + (j + l.length)) (l.foldl (· + ·) s)
  | [], s, j, h, _ => h
  | z :: l, s, j, h, h2 => by
    have := Bd.sums (l := l) (s := s + z) (j := j + 1) ((h.add ((h2 z (by simp)).mono (by omega))).mono (by omega)) fun y hy => h2 y (by simp [hy])
    exact this.mono (by simp only [List.length_cons]; omega)
theorem Bd.dotF {k k1 k2 : Nat} {zs ws : List Int} (h : RB4 k1 zs) (h2 : RB4 k2 ws) (hl : zs.length = ws.length) (hk : k1 + k2 + zs.length ≤ k) : Bd k (dotF 0 zs ws) := by
  have hz := RB4.zip (f := (· * ·)) h h2 hl (fun z w a b => a.mul b)
  have := Bd.sums (k := k1 + k2) (l := zipI (· * ·) zs ws) (s := 0) (j := 0) (Bd.zero _) hz.1
  rw [zip_len hl] at this
  exact this.mono (by omega)
section
variable {zs ws : List Int} {t t' : Bool} {k : Nat}
end
end Go.Proofs.YtanchgkiomfhhaaDoor.Fw

/- Rows of whole numbers: an answer is spoilt; the reference's rows put together. -/
namespace Go.Proofs.YtanchgkiomfhhaaDoor.Fw
set_option linter.unusedSimpArgs false
set_option linter.unusedVariables false
open Go Go.Proofs.YtanchgkiomfhhaaDoor.Ma
set_option maxRecDepth 20000

theorem stP_row {H : AHeap} {n b L off ty es : Nat} {cells l : List AV} {K : AV → AHeap → Prop} (hL : cells.length = L) (hl : l.length = n) (ho : off + n ≤ L) : stP H n b L off K (some l) (some (.row ty es cells)) ↔ K .bot (H.upd b (some (.row ty es (splice cells off l)))) := by
  simp [stP, hL, hl, ho]
def RowO (M : AHeap) (y : AV) (zs : List Int) : Prop := (zs = [] ∧ y = .seq 0 [] true) ∨ (0 < zs.length ∧ ∃ b, y = .own b (zs.length * 2) 0 zs.length false ∧ M b = some (.row 28 2 (IC zs)))
theorem RowO.of {H M : AHeap} {n : Nat} {y : AV} {zs : List Int} (h : growC H 28 2 n (IC zs) y M) (hn : zs.length = n) : RowO M y zs := by
  subst hn
  rcases h with ⟨h1, _, rfl, rfl⟩ | ⟨hn, _, b, hb, rfl, rfl⟩
  · exact .inl ⟨List.length_eq_zero_iff.1 h1, rfl⟩
  · exact .inr ⟨hn, b, rfl, upd_same _ _ _⟩
theorem RowO.le {M M' : AHeap} {y : AV} {zs : List Int} (h : RowO M y zs) (hl : Le M M') : RowO M' y zs := by
  rcases h with h | ⟨hn, b, e, hb⟩
  · exact .inl h
  · exact .inr ⟨hn, b, e, hl _ _ hb⟩
theorem RowO.len {M : AHeap} {y : AV} {zs : List Int} (h : RowO M y zs) (hn : zs.length < 9223372036854775808) {K : AV → Prop} : lenW false y K = K (.int .i64 ((zs.length : Nat) : Int)) := by
  rcases h with ⟨rfl, rfl⟩ | ⟨h0, b, rfl, hb⟩ <;> simp [lenW, hn]
end Go.Proofs.YtanchgkiomfhhaaDoor.Fw

/- The reference's rows put together. -/
namespace Go.Proofs.YtanchgkiomfhhaaDoor.Fw
set_option linter.unusedSimpArgs false
set_option linter.unusedVariables false
open Go Go.Proofs.YtanchgkiomfhhaaDoor.Ma
set_option maxRecDepth 20000

section
variable {zs ws : List Int} {t t' : Bool} {k : Nat}
end
end Go.Proofs.YtanchgkiomfhhaaDoor.Fw

/- Rows of noughts, with a one. -/
namespace Go.Proofs.YtanchgkiomfhhaaDoor.Fw
set_option linter.unusedSimpArgs false
set_option linter.unusedVariables false
open Go Go.Proofs.YtanchgkiomfhhaaDoor.Ma
set_option maxRecDepth 20000

theorem IC_app (a b : List Int) : IC (a ++ b) = IC a ++ IC b := by simp [IC, List.flatMap_append]
theorem repI (n : Nat) : repA [.bool false, .seq 0 [] true] (n * 2) = IC (List.replicate n 0) := by
  induction n with
  | zero => simp [repA, IC]
  | succ n ih =>
    have e1 : n * 2 % 2 = 0 := by omega
    have e2 : (n * 2 + 1) % 2 = 1 := by omega
    rw [List.replicate_succ', IC_snoc, ← ih, show (n + 1) * 2 = n * 2 + 1 + 1 by omega]
    simp only [repA, List.range_succ, List.map_append, List.map_cons, List.map_nil, List.length_cons, List.length_nil, e1, e2]
    simp [IntB, IntD, digs_zero, LS, U, e1, e2]
theorem mks_I {H : AHeap} {ty n : Nat} {K : AV → AHeap → Prop} (h : n ≤ 100000) : mksW H ty 2 32 [.bool false, .seq 0 [] true] (.int .i64 (n : Int)) (.int .i64 (n : Int)) K ↔ ∀ b, H b = none → K (.own b (n * 2) 0 n true) (H.upd b (some (.row ty 2 (IC (List.replicate n 0))))) := by
  have h1 : (32 : Int) * n ≤ 281474976710656 := by omega
  have h2 : (n : Int) < 9223372036854775808 := by omega
  simp [mksW, h1, h2, repI]
theorem IC_tk {zs : List Int} {k : Nat} (h : k ≤ zs.length) : (IC zs).take (k * 2) = IC (zs.take k) := by
  conv => lhs; rw [← List.take_append_drop k zs, IC_app]
  exact List.take_left' (by rw [IC_len, List.length_take]; omega)
theorem IC_dp {zs : List Int} {k : Nat} (h : k ≤ zs.length) : (IC zs).drop (k * 2) = IC (zs.drop k) := by
  conv => lhs; rw [← List.take_append_drop k zs, IC_app]
  exact List.drop_left' (by rw [IC_len, List.length_take]; omega)
theorem IC_set {zs : List Int} {k : Nat} {v : Int} (h : k < zs.length) : (IC zs).take (k * 2) ++ [IntB v, IntD v] ++ (IC zs).drop (k * 2 + 2) = IC (zs.set k v) := by
  rw [IC_tk (by omega), show k * 2 + 2 = (k + 1) * 2 by omega, IC_dp (by omega), List.set_eq_take_append_cons_drop, if_pos h, IC_app]
  simp [IC]
end Go.Proofs.YtanchgkiomfhhaaDoor.Fw

/- Polynomials: made of small numbers, with room behind them; the degree; held against the reference's. -/
namespace Go.Proofs.YtanchgkiomfhhaaDoor.Fw
set_option linter.unusedSimpArgs false
set_option linter.unusedVariables false
open Go Go.Proofs.YtanchgkiomfhhaaDoor.Ma
set_option maxRecDepth 20000

def ExtI (zs : List Int) : AV := .exte 2 zs.length (IC (zs ++ [0, 0]))
theorem Wk.I {zs : List Int} : Wk (ExtI zs) (RowA zs false) := by
  have h := Wk.exte (es := 2) (n := zs.length) (cells := IC (zs ++ [0, 0]))
  rw [IC_app, List.take_left' (IC_len zs)] at h
  unfold ExtI; rw [IC_app]; exact h
theorem PFn.wk {P : Program} {f : FuncId} {args args' : List AV} {r : AV} (h : PFn P f args' r) (w : Wks args args') : PFn P f args r := fun H Q hq => (h H Q hq).wk w
def Small (l : List Int) : Prop := ∀ n, n ∈ l → -9223372036854775808 ≤ n ∧ n < 9223372036854775808
theorem list_fn {l : List Int} {t : Bool} (hb : Small l) (hbig : l.length ≤ 1000000) : PFn Tryd.prog 25 [.seq l.length (l.map iA) t] (ExtI l) := by
  intro H Q hq
  refine enter25 (by simp) ?_
  simp (disch := first | assumption | (apply Ap.symm; assumption) | omega | decide | (simp only [Xd] <;> omega)) only [ac25, len_rw, ↓Xa, Xb, Xc, ↓reduceIte, Nat.reduceLT, Nat.reduceEqDiff, Nat.reduceBEq, Nat.reduceLeDiff, Nat.reduceAdd, Nat.reduceMul]
  have m1 : (32 : Int) * ((l.length + 2 : Nat) : Int) ≤ 281474976710656 := by omega
  refine ⟨⟨by omega, by omega, by omega, m1⟩, fun b hb0 => ?_⟩
  rw [show (((l.length + 2 : Nat) : Int)).toNat = l.length + 2 by omega, show (((0 : Nat) : Int)).toNat = 0 from rfl, repI]
  simp (disch := first | assumption | (apply Ap.symm; assumption) | omega | decide | (simp only [Xd] <;> omega)) only [len_rw, ↓Xa, Xb, Xc, ↓reduceIte, Nat.reduceLT, Nat.reduceEqDiff, Nat.reduceBEq, Nat.reduceLeDiff, Nat.reduceAdd, Nat.reduceMul]
  refine W_loop (fun s : Nat => ⟨[], [(3, .ownc b ((l.length + 2) * 2) s (l.length + 2)), (10, .seq l.length (l.map iA) t), (11, .int .i64 (l.length : Int)), (12, .int .i64 s)], H.upd b (some (.row 28 2 (IC (l.take s ++ List.replicate (l.length + 2 - s) 0))))⟩)
    (fun s => s ≤ l.length) (fun s => l.length - s) 0 (Settle.now (by simp)) (Nat.zero_le _) ?_
  intro i hi'
  by_cases hi : i < l.length
  · simp (disch := first | assumption | (apply Ap.symm; assumption) | omega | decide | (simp only [Xd] <;> omega)) only [hi, idx_map, load_map, ↓Xa, Xb, Xc, ↓reduceIte, Nat.reduceLT, Nat.reduceEqDiff, Nat.reduceBEq, Nat.reduceLeDiff, Nat.reduceAdd, Nat.reduceMul]
    refine (of_fn (hb _ (List.getElem_mem hi))).call ?_
    simp (disch := first | assumption | (apply Ap.symm; assumption) | omega | decide | (simp only [Xd] <;> omega)) only [repI1, cells_IntA, ↓Xa, Xb, Xc, ↓reduceIte, Nat.reduceLT, Nat.reduceEqDiff, Nat.reduceBEq, Nat.reduceLeDiff, Nat.reduceAdd, Nat.reduceMul]
    refine .inr (.inr (.inr ⟨rfl, cellI, ?_⟩))
    dsimp only
    rw [upd_same]
    have hlen : (l.take i ++ List.replicate (l.length + 2 - i) (0 : Int)).length = l.length + 2 := by simp; omega
    refine ⟨by rw [IC_len, hlen], rfl, rfl, rfl, by omega, ?_⟩
    have hsp : splice (IC (l.take i ++ List.replicate (l.length + 2 - i) 0)) (i * 2) [IntB (l[i]), IntD (l[i])] = IC (l.take (i + 1) ++ List.replicate (l.length + 2 - (i + 1)) 0) := by
      have h1 : i < (l.take i ++ List.replicate (l.length + 2 - i) (0 : Int)).length := by omega
      have h2 := IC_set (v := l[i]) h1
      rw [show splice (IC (l.take i ++ List.replicate (l.length + 2 - i) 0)) (i * 2) [IntB (l[i]), IntD (l[i])] = (IC (l.take i ++ List.replicate (l.length + 2 - i) 0)).take (i * 2) ++ [IntB (l[i]), IntD (l[i])] ++ (IC (l.take i ++ List.replicate (l.length + 2 - i) 0)).drop (i * 2 + 2) from rfl, h2]
      congr 1
      rw [List.set_append_right _ _ (by simp; omega), show i - (l.take i).length = 0 by simp; omega, show l.length + 2 - i = (l.length + 2 - (i + 1)) + 1 by omega, List.replicate_succ, List.set_cons_zero, ← List.take_append_getElem hi, List.append_assoc]
      rfl
    rw [hsp, upd_upd]
    simp (disch := first | assumption | (apply Ap.symm; assumption) | omega | decide | (simp only [Xd] <;> omega)) only [↓Xa, Xb, Xc, ↓reduceIte, Nat.reduceLT, Nat.reduceEqDiff, Nat.reduceBEq, Nat.reduceLeDiff, Nat.reduceAdd, Nat.reduceMul]
    exact Settle.now ⟨i + 1, by omega, by omega, rfl⟩
  · obtain rfl : i = l.length := by omega
    simp (disch := first | assumption | (apply Ap.symm; assumption) | omega | decide | (simp only [Xd] <;> omega)) only [hi, ↓Xa, Xb, Xc, ↓reduceIte, Nat.reduceLT, Nat.reduceEqDiff, Nat.reduceBEq, Nat.reduceLeDiff, Nat.reduceAdd, Nat.reduceMul]
    refine Settle.freezeC 3 rfl (upd_same _ _ _) (by rw [IC_len]; simp) rfl (by omega) ?_
    rw [upd_upd, upd_back _ hb0, List.take_length, show l.length + 2 - l.length = 2 by omega]
    refine Settle.now ?_
    simp (disch := first | assumption | (apply Ap.symm; assumption) | omega | decide | (simp only [Xd] <;> omega)) only [rs25, ↓Xa, Xb, Xc, ↓reduceIte, Nat.reduceLT, Nat.reduceEqDiff, Nat.reduceBEq, Nat.reduceLeDiff, Nat.reduceAdd, Nat.reduceMul]
    exact SetR.now hq
theorem ref_fn {l : List Int} {t : Bool} (hb : Small l) (hbig : l.length ≤ 1000000) : PFn Tryd.prog 31 [.seq l.length (l.map iA) t] (RefR l false) := by
  refine PFn.frozen (ty := 39) (es := 2) fun H Q hq => ?_
  refine enter31 (by simp) ?_
  simp (disch := first | assumption | (apply Ap.symm; assumption) | omega | decide | (simp only [Xd] <;> omega)) only [ac31, len_rw, ↓Xa, Xb, Xc, ↓reduceIte, Nat.reduceLT, Nat.reduceEqDiff, Nat.reduceBEq, Nat.reduceLeDiff, Nat.reduceAdd, Nat.reduceMul]
  refine W_loop (fun s : Nat × AV × AHeap => ⟨[], [(3, s.2.1), (6, .seq l.length (l.map iA) t), (7, .int .i64 (l.length : Int)), (8, .int .i64 s.1)], s.2.2⟩) (fun s => s.1 ≤ l.length ∧ growC H 39 2 s.1 (RC (l.take s.1)) s.2.1 s.2.2) (fun s => l.length - s.1) (0, .seq 0 [] true, H) (Settle.now rfl) ⟨Nat.zero_le _, growC_nil⟩ ?_
  rintro ⟨i, y, M⟩ ⟨h3, hg⟩
  dsimp only at h3 hg ⊢
  by_cases hi : i < l.length
  · simp (disch := first | assumption | (apply Ap.symm; assumption) | omega | decide | (simp only [Xd] <;> omega)) only [hi, idx_map, load_map, ↓Xa, Xb, Xc, ↓reduceIte, Nat.reduceLT, Nat.reduceEqDiff, Nat.reduceBEq, Nat.reduceLeDiff, Nat.reduceAdd, Nat.reduceMul]
    refine (rof_fn (hb _ (List.getElem_mem hi))).call ?_
    simp (disch := first | assumption | (apply Ap.symm; assumption) | omega | decide | (simp only [Xd] <;> omega)) only [repI1, cells_RefA, ↓Xa, Xb, Xc, ↓reduceIte, Nat.reduceLT, Nat.reduceEqDiff, Nat.reduceBEq, Nat.reduceLeDiff, Nat.reduceAdd, Nat.reduceMul]
    refine app_C (m := 1) hg rfl cellR (by omega) (by omega) (by omega) fun y' M2 hg3 => ?_
    rw [← RC_take] at hg3
    simp (disch := first | assumption | (apply Ap.symm; assumption) | omega | decide | (simp only [Xd] <;> omega)) only [↓Xa, Xb, Xc, ↓reduceIte, Nat.reduceLT, Nat.reduceEqDiff, Nat.reduceBEq, Nat.reduceLeDiff, Nat.reduceAdd, Nat.reduceMul]
    exact Settle.now ⟨(i + 1, y', M2), by dsimp only; omega, ⟨by dsimp only; omega, hg3⟩, rfl⟩
  · obtain rfl : i = l.length := by omega
    rw [List.take_of_length_le (by omega)] at hg
    simp (disch := first | assumption | (apply Ap.symm; assumption) | omega | decide | (simp only [Xd] <;> omega)) only [hi, ↓Xa, Xb, Xc, ↓reduceIte, Nat.reduceLT, Nat.reduceEqDiff, Nat.reduceBEq, Nat.reduceLeDiff, Nat.reduceAdd, Nat.reduceMul]
    refine Settle.now ?_
    simp (disch := first | assumption | (apply Ap.symm; assumption) | omega | decide | (simp only [Xd] <;> omega)) only [rs31, ↓Xa, Xb, Xc, ↓reduceIte, Nat.reduceLT, Nat.reduceEqDiff, Nat.reduceBEq, Nat.reduceLeDiff, Nat.reduceAdd, Nat.reduceMul]
    exact SetR.now (hq y M hg)
theorem sgn_neqZ {x : Int} {K : AV → Prop} : binW .neq (.int .i64 (sgnI x)) (.int .i64 ((0 : Nat) : Int)) K ↔ K (.bool (!decide (x = 0))) := sgn_neq0
theorem deg_fn {zs : List Int} {t : Bool} {k : Nat} (hz : RB4 k zs) (hk : k ≤ 1000000) (hbig : zs.length ≤ 1000000) : PFn Tryd.prog 70 [RowA zs t] (.int .i64 (dn (degN zs))) := by
  intro H Q hq
  refine enter70 (by simp) ?_
  simp (disch := first | assumption | (apply Ap.symm; assumption) | omega | decide | (simp only [Xd] <;> omega)) only [ac70, len_rw, bin_dec, ↓Xa, Xb, Xc, ↓reduceIte, Nat.reduceLT, Nat.reduceEqDiff, Nat.reduceBEq, Nat.reduceLeDiff, Nat.reduceAdd, Nat.reduceMul]
  refine W_loop (fun s : Nat => ⟨[], [(0, RowA zs t), (3, .int .i64 (dn s))], H⟩) (fun s => s ≤ zs.length ∧ ∀ j, s ≤ j → co zs j = 0) (fun s => s) zs.length (Settle.now rfl) ⟨Nat.le_refl _, fun j hj => co_ge hj⟩ ?_
  rintro n ⟨hn, hh⟩
  cases n with
  | zero =>
    simp (disch := first | assumption | (apply Ap.symm; assumption) | omega | decide | (simp only [Xd] <;> omega)) only [dn_zero, bin_geq_neg, ↓Xa, Xb, Xc, ↓reduceIte, Nat.reduceLT, Nat.reduceEqDiff, Nat.reduceBEq, Nat.reduceLeDiff, Nat.reduceAdd, Nat.reduceMul]
    refine Settle.now ?_
    have e : degN zs = 0 := degN_of hh fun h => absurd h (by omega)
    rw [e] at hq
    simp (disch := first | assumption | (apply Ap.symm; assumption) | omega | decide | (simp only [Xd] <;> omega)) only [rs70, ↓Xa, Xb, Xc, ↓reduceIte, Nat.reduceLT, Nat.reduceEqDiff, Nat.reduceBEq, Nat.reduceLeDiff, Nat.reduceAdd, Nat.reduceMul]
    exact SetR.now hq
  | succ n =>
    have hlt : n < zs.length := by omega
    simp (disch := first | assumption | (apply Ap.symm; assumption) | omega | decide | (simp only [Xd] <;> omega)) only [dn_succ, Nat.zero_le, idx_IC, load_IC, hlt, ↓Xa, Xb, Xc, ↓reduceIte, Nat.reduceLT, Nat.reduceEqDiff, Nat.reduceBEq, Nat.reduceLeDiff, Nat.reduceAdd, Nat.reduceMul]
    refine (sign_fn (hz.at hlt) (by omega)).call ?_
    by_cases h0 : zs[n] = 0
    · simp (disch := first | assumption | (apply Ap.symm; assumption) | omega | decide | (simp only [Xd] <;> omega)) only [sgn_neqZ, h0, bin_dec, ↓Xa, Xb, Xc, ↓reduceIte, Nat.reduceLT, Nat.reduceEqDiff, Nat.reduceBEq, Nat.reduceLeDiff, Nat.reduceAdd, Nat.reduceMul]
      refine Settle.now ⟨n, by omega, ⟨by omega, fun j hj => ?_⟩, rfl⟩
      by_cases e : j = n
      · subst e; rw [co_get hlt]; exact h0
      · exact hh j (by omega)
    · simp (disch := first | assumption | (apply Ap.symm; assumption) | omega | decide | (simp only [Xd] <;> omega)) only [sgn_neqZ, h0, ↓Xa, Xb, Xc, ↓reduceIte, Nat.reduceLT, Nat.reduceEqDiff, Nat.reduceBEq, Nat.reduceLeDiff, Nat.reduceAdd, Nat.reduceMul]
      refine Settle.now ?_
      have e : degN zs = n + 1 := degN_of hh fun _ => by rw [Nat.add_sub_cancel, co_get hlt]; exact h0
      rw [e] at hq
      simp (disch := first | assumption | (apply Ap.symm; assumption) | omega | decide | (simp only [Xd] <;> omega)) only [rs70, ↓Xa, Xb, Xc, ↓reduceIte, Nat.reduceLT, Nat.reduceEqDiff, Nat.reduceBEq, Nat.reduceLeDiff, Nat.reduceAdd, Nat.reduceMul]
      exact SetR.now hq
theorem ptext_fn {zs : List Int} {t : Bool} {k : Nat} (hz : RB4 k zs) (hk : k ≤ 1000000) (hbig : zs.length ≤ 1000000) : PFn Tryd.prog 93 [RowA zs t] (Sx (rowT zs)) := by
  intro H Q hq
  refine enter93 (by simp) ?_
  simp (disch := first | assumption | (apply Ap.symm; assumption) | omega | decide | (simp only [Xd] <;> omega)) only [ac93, ↓Xa, Xb, Xc, ↓reduceIte, Nat.reduceLT, Nat.reduceEqDiff, Nat.reduceBEq, Nat.reduceLeDiff, Nat.reduceAdd, Nat.reduceMul]
  refine (rowt_fn hz hk hbig).call ?_
  simp (disch := first | assumption | (apply Ap.symm; assumption) | omega | decide | (simp only [Xd] <;> omega)) only [rs93, ↓Xa, Xb, Xc, ↓reduceIte, Nat.reduceLT, Nat.reduceEqDiff, Nat.reduceBEq, Nat.reduceLeDiff, Nat.reduceAdd, Nat.reduceMul]
  exact SetR.now hq
end Go.Proofs.YtanchgkiomfhhaaDoor.Fw

/- Polynomials: two rows held against each other, place by place. -/
namespace Go.Proofs.YtanchgkiomfhhaaDoor.Fw
set_option linter.unusedSimpArgs false
set_option linter.unusedVariables false
open Go Go.Proofs.YtanchgkiomfhhaaDoor.Ma
set_option maxRecDepth 20000

theorem eqfR_fn {zs ws : List Int} {t t' : Bool} {g : FuncId} (hg : ∀ x y, x ∈ zs → y ∈ ws → PFn Tryd.prog g [IntA x, RefA y false] (.bool (decide (x = y)))) (nz : zs.length < 4611686018427387904) (nw : ws.length < 4611686018427387904) : PFn Tryd.prog 154 [RowA zs t, RefR ws t', .fn (.func g) [] []] (.bool (decide (zs = ws))) := by
  intro H Q hq
  refine enter154 (by simp) ?_
  have nz' : zs.length < 9223372036854775808 := by omega
  have nw' : ws.length < 9223372036854775808 := by omega
  by_cases hl : zs.length = ws.length
  rotate_left
  · have e : decide (zs = ws) = false := decide_eq_false fun h => hl (congrArg _ h)
    rw [e] at hq
    simp (disch := first | assumption | (apply Ap.symm; assumption) | omega | decide | (simp only [Xd] <;> omega)) only [ac154, len_rw, nz', nw', hl, rs154, ↓Xa, Xb, Xc, ↓reduceIte, Nat.reduceLT, Nat.reduceEqDiff, Nat.reduceBEq, Nat.reduceLeDiff, Nat.reduceAdd, Nat.reduceMul]
    exact SetR.now hq
  simp (disch := first | assumption | (apply Ap.symm; assumption) | omega | decide | (simp only [Xd] <;> omega)) only [ac154, len_rw, nz', nw', hl, ↓Xa, Xb, Xc, ↓reduceIte, Nat.reduceLT, Nat.reduceEqDiff, Nat.reduceBEq, Nat.reduceLeDiff, Nat.reduceAdd, Nat.reduceMul]
  refine W_loop (fun s : Nat × AHeap => ⟨[], [(1, RefR ws t'), (2, .fn (.func g) [] []), (15, RowA zs t), (16, .int .i64 (ws.length : Int)), (17, .int .i64 s.1)], s.2⟩) (fun s => s.1 ≤ ws.length ∧ Le H s.2 ∧ zs.take s.1 = ws.take s.1) (fun s => ws.length - s.1) (0, H) (Settle.now (by simp [hl])) ⟨Nat.zero_le _, Le.refl H, by simp⟩ ?_
  rintro ⟨i, G⟩ ⟨h1, hG, ht⟩
  dsimp only at h1 hG ht ⊢
  by_cases hi : i < ws.length
  · have hiz : i < zs.length := by omega
    simp (disch := first | assumption | (apply Ap.symm; assumption) | omega | decide | (simp only [Xd] <;> omega)) only [hi, hiz, idx_IC, load_IC, ↓Xa, Xb, Xc, ↓reduceIte, Nat.reduceLT, Nat.reduceEqDiff, Nat.reduceBEq, Nat.reduceLeDiff, Nat.reduceAdd, Nat.reduceMul]
    refine alloc_i fun q1 hq1 => ?_
    simp (disch := first | assumption | (apply Ap.symm; assumption) | omega | decide | (simp only [Xd] <;> omega)) only [cells_IntA, fold_IntA, hi, idx_RC, load_RC, ↓Xa, Xb, Xc, ↓reduceIte, Nat.reduceLT, Nat.reduceEqDiff, Nat.reduceBEq, Nat.reduceLeDiff, Nat.reduceAdd, Nat.reduceMul]
    refine alloc_i fun q2 hq2 => ?_
    obtain ⟨a21, hq2'⟩ := upd_none.1 hq2
    have hl2 : ∀ {x y : Option ABlk}, Le H ((G.upd q1 x).upd q2 y) := fun {x y} => (hG.updB (hG.none hq1)).updB (hG.none hq2')
    have a12 := a21.symm
    simp (disch := first | assumption | (apply Ap.symm; assumption) | omega | decide | (simp only [Xd] <;> omega)) only [cells_IntA, fold_IntA, cells_RefA, fold_RefA, a21, a12, ↓Xa, Xb, Xc, ↓reduceIte, Nat.reduceLT, Nat.reduceEqDiff, Nat.reduceBEq, Nat.reduceLeDiff, Nat.reduceAdd, Nat.reduceMul]
    refine (hg (zs[i]) (ws[i]) (List.getElem_mem hiz) (List.getElem_mem hi)).call ?_
    by_cases he : zs[i] = ws[i]
    · simp (disch := first | assumption | (apply Ap.symm; assumption) | omega | decide | (simp only [Xd] <;> omega)) only [he, ↓Xa, Xb, Xc, ↓reduceIte, Nat.reduceLT, Nat.reduceEqDiff, Nat.reduceBEq, Nat.reduceLeDiff, Nat.reduceAdd, Nat.reduceMul]
      refine Settle.now ⟨(i + 1, _), by dsimp only; omega, ⟨by dsimp only; omega, hl2, ?_⟩, rfl⟩
      dsimp only
      rw [← List.take_append_getElem hiz, ← List.take_append_getElem hi, ht, he]
    · have e : decide (zs = ws) = false := decide_eq_false fun h => he (by subst h; rfl)
      rw [e] at hq
      simp (disch := first | assumption | (apply Ap.symm; assumption) | omega | decide | (simp only [Xd] <;> omega)) only [he, rs154, ↓Xa, Xb, Xc, ↓reduceIte, Nat.reduceLT, Nat.reduceEqDiff, Nat.reduceBEq, Nat.reduceLeDiff, Nat.reduceAdd, Nat.reduceMul]
      exact SetR.dropTo hl2 (SetR.now hq)
  · obtain rfl : i = ws.length := by omega
    have e : decide (zs = ws) = true := decide_eq_true (by rwa [List.take_of_length_le (by omega), List.take_of_length_le (by omega)] at ht)
    rw [e] at hq
    simp (disch := first | assumption | (apply Ap.symm; assumption) | omega | decide | (simp only [Xd] <;> omega)) only [hi, ↓Xa, Xb, Xc, ↓reduceIte, Nat.reduceLT, Nat.reduceEqDiff, Nat.reduceBEq, Nat.reduceLeDiff, Nat.reduceAdd, Nat.reduceMul]
    refine Settle.now ?_
    simp (disch := first | assumption | (apply Ap.symm; assumption) | omega | decide | (simp only [Xd] <;> omega)) only [rs154, ↓Xa, Xb, Xc, ↓reduceIte, Nat.reduceLT, Nat.reduceEqDiff, Nat.reduceBEq, Nat.reduceLeDiff, Nat.reduceAdd, Nat.reduceMul]
    exact SetR.dropTo hG (SetR.now hq)
theorem eqfI_fn {zs ws : List Int} {t t' : Bool} {g : FuncId} (hg : ∀ x y, x ∈ zs → y ∈ ws → PFn Tryd.prog g [IntA x, IntA y] (.bool (decide (x = y)))) (nz : zs.length < 4611686018427387904) (nw : ws.length < 4611686018427387904) : PFn Tryd.prog 151 [RowA zs t, RowA ws t', .fn (.func g) [] []] (.bool (decide (zs = ws))) := by
  intro H Q hq
  refine enter151 (by simp) ?_
  have nz' : zs.length < 9223372036854775808 := by omega
  have nw' : ws.length < 9223372036854775808 := by omega
  by_cases hl : zs.length = ws.length
  rotate_left
  · have e : decide (zs = ws) = false := decide_eq_false fun h => hl (congrArg _ h)
    rw [e] at hq
    simp (disch := first | assumption | (apply Ap.symm; assumption) | omega | decide | (simp only [Xd] <;> omega)) only [ac151, len_rw, nz', nw', hl, rs151, ↓Xa, Xb, Xc, ↓reduceIte, Nat.reduceLT, Nat.reduceEqDiff, Nat.reduceBEq, Nat.reduceLeDiff, Nat.reduceAdd, Nat.reduceMul]
    exact SetR.now hq
  simp (disch := first | assumption | (apply Ap.symm; assumption) | omega | decide | (simp only [Xd] <;> omega)) only [ac151, len_rw, nz', nw', hl, ↓Xa, Xb, Xc, ↓reduceIte, Nat.reduceLT, Nat.reduceEqDiff, Nat.reduceBEq, Nat.reduceLeDiff, Nat.reduceAdd, Nat.reduceMul]
  refine W_loop (fun s : Nat × AHeap => ⟨[], [(1, RowA ws t'), (2, .fn (.func g) [] []), (15, RowA zs t), (16, .int .i64 (ws.length : Int)), (17, .int .i64 s.1)], s.2⟩) (fun s => s.1 ≤ ws.length ∧ Le H s.2 ∧ zs.take s.1 = ws.take s.1) (fun s => ws.length - s.1) (0, H) (Settle.now (by simp [hl])) ⟨Nat.zero_le _, Le.refl H, by simp⟩ ?_
  rintro ⟨i, G⟩ ⟨h1, hG, ht⟩
  dsimp only at h1 hG ht ⊢
  by_cases hi : i < ws.length
  · have hiz : i < zs.length := by omega
    simp (disch := first | assumption | (apply Ap.symm; assumption) | omega | decide | (simp only [Xd] <;> omega)) only [hi, hiz, idx_IC, load_IC, ↓Xa, Xb, Xc, ↓reduceIte, Nat.reduceLT, Nat.reduceEqDiff, Nat.reduceBEq, Nat.reduceLeDiff, Nat.reduceAdd, Nat.reduceMul]
    refine alloc_i fun q1 hq1 => ?_
    simp (disch := first | assumption | (apply Ap.symm; assumption) | omega | decide | (simp only [Xd] <;> omega)) only [cells_IntA, fold_IntA, hi, idx_IC, load_IC, ↓Xa, Xb, Xc, ↓reduceIte, Nat.reduceLT, Nat.reduceEqDiff, Nat.reduceBEq, Nat.reduceLeDiff, Nat.reduceAdd, Nat.reduceMul]
    refine alloc_i fun q2 hq2 => ?_
    obtain ⟨a21, hq2'⟩ := upd_none.1 hq2
    have hl2 : ∀ {x y : Option ABlk}, Le H ((G.upd q1 x).upd q2 y) := fun {x y} => (hG.updB (hG.none hq1)).updB (hG.none hq2')
    have a12 := a21.symm
    simp (disch := first | assumption | (apply Ap.symm; assumption) | omega | decide | (simp only [Xd] <;> omega)) only [cells_IntA, fold_IntA, cells_IntA, a21, a12, ↓Xa, Xb, Xc, ↓reduceIte, Nat.reduceLT, Nat.reduceEqDiff, Nat.reduceBEq, Nat.reduceLeDiff, Nat.reduceAdd, Nat.reduceMul]
    refine (hg (zs[i]) (ws[i]) (List.getElem_mem hiz) (List.getElem_mem hi)).call ?_
    by_cases he : zs[i] = ws[i]
    · simp (disch := first | assumption | (apply Ap.symm; assumption) | omega | decide | (simp only [Xd] <;> omega)) only [he, ↓Xa, Xb, Xc, ↓reduceIte, Nat.reduceLT, Nat.reduceEqDiff, Nat.reduceBEq, Nat.reduceLeDiff, Nat.reduceAdd, Nat.reduceMul]
      refine Settle.now ⟨(i + 1, _), by dsimp only; omega, ⟨by dsimp only; omega, hl2, ?_⟩, rfl⟩
      dsimp only
      rw [← List.take_append_getElem hiz, ← List.take_append_getElem hi, ht, he]
    · have e : decide (zs = ws) = false := decide_eq_false fun h => he (by subst h; rfl)
      rw [e] at hq
      simp (disch := first | assumption | (apply Ap.symm; assumption) | omega | decide | (simp only [Xd] <;> omega)) only [he, rs151, ↓Xa, Xb, Xc, ↓reduceIte, Nat.reduceLT, Nat.reduceEqDiff, Nat.reduceBEq, Nat.reduceLeDiff, Nat.reduceAdd, Nat.reduceMul]
      exact SetR.dropTo hl2 (SetR.now hq)
  · obtain rfl : i = ws.length := by omega
    have e : decide (zs = ws) = true := decide_eq_true (by rwa [List.take_of_length_le (by omega), List.take_of_length_le (by omega)] at ht)
    rw [e] at hq
    simp (disch := first | assumption | (apply Ap.symm; assumption) | omega | decide | (simp only [Xd] <;> omega)) only [hi, ↓Xa, Xb, Xc, ↓reduceIte, Nat.reduceLT, Nat.reduceEqDiff, Nat.reduceBEq, Nat.reduceLeDiff, Nat.reduceAdd, Nat.reduceMul]
    refine Settle.now ?_
    simp (disch := first | assumption | (apply Ap.symm; assumption) | omega | decide | (simp only [Xd] <;> omega)) only [rs151, ↓Xa, Xb, Xc, ↓reduceIte, Nat.reduceLT, Nat.reduceEqDiff, Nat.reduceBEq, Nat.reduceLeDiff, Nat.reduceAdd, Nat.reduceMul]
    exact SetR.dropTo hG (SetR.now hq)
end Go.Proofs.YtanchgkiomfhhaaDoor.Fw

/- Rows of whole numbers read of a text: where it goes wrong, or the row: plain laws. -/
namespace Go.Proofs.YtanchgkiomfhhaaDoor.Fw
set_option linter.unusedSimpArgs false
set_option linter.unusedVariables false
open Go Go.Proofs.YtanchgkiomfhhaaDoor.Ma

def isNC (c : UInt8) : Bool := decide (c.toNat = 45 ∨ (48 ≤ c.toNat ∧ c.toNat ≤ 57))
def isNE (c : UInt8) : Bool := decide (c.toNat ≠ 32 ∧ c.toNat ≠ 93)
def segP (l : List UInt8) (a : Nat) : List UInt8 := (l.drop a).takeWhile isNC
def segR (l : List UInt8) (a : Nat) : List UInt8 := (l.drop a).takeWhile isNE
noncomputable def posP (l : List UInt8) : Nat := Classical.choose (isAt_ex l)
theorem posP_at (l : List UInt8) : IsAt l (posP l) := Classical.choose_spec (isAt_ex l)
theorem posP_of {l : List UInt8} {p : Nat} (h : IsAt l p) : posP l = p := isAt_fn (posP_at l) h
inductive Res where
  | ok (zs : List Int)
  | bad (n : Nat)
  | long (n : Nat)
noncomputable def rdF (l : List UInt8) : Nat → Nat → List Int → Res
  | 0, a, _ => .bad a
  | f + 1, a, out =>
    if posP (segP l a) = iFrom (segP l a) ∨ posP (segP l a) < (segP l a).length then .bad (a + posP (segP l a))
    else if out.length = 4096 then .long a
    else if a + (segP l a).length = l.length then .bad (a + (segP l a).length)
    else if (l.getD (a + (segP l a).length) 0).toNat = 32 then rdF l f (a + (segP l a).length + 1) (out ++ [iVal (segP l a)])
    else if (l.getD (a + (segP l a).length) 0).toNat ≠ 93 then .bad (a + (segP l a).length)
    else if a + (segP l a).length + 1 < l.length then .bad (a + (segP l a).length + 1)
    else .ok (out ++ [iVal (segP l a)])
noncomputable def readR (l : List UInt8) : Res :=
  if 65536 < l.length then .long 65536 else if (l.getD 0 0).toNat ≠ 91 then .bad 0 else if l = [91, 93] then .ok [] else if l.take 2 = [91, 93] then .bad 2 else rdF l (l.length + 1) 1 []
theorem tw_le {p : UInt8 → Bool} (l : List UInt8) (a : Nat) : ((l.drop a).takeWhile p).length ≤ l.length - a := by
  have := (List.takeWhile_sublist p (l := l.drop a)).length_le
  rwa [List.length_drop] at this
theorem tw_get {p : UInt8 → Bool} {l : List UInt8} {a j : Nat} (h1 : a ≤ j) (h2 : j < a + ((l.drop a).takeWhile p).length) : p (l.getD j 0) = true := by
  have hle := tw_le (p := p) l a
  have hj : j - a < ((l.drop a).takeWhile p).length := by omega
  have hm := List.getElem_mem hj
  have hp := List.all_eq_true.1 (List.all_takeWhile (p := p) (l := l.drop a)) _ hm
  have e : ((l.drop a).takeWhile p)[j - a] = l.getD j 0 := by
    have hpre := List.takeWhile_prefix p (l := l.drop a)
    have h3 := hpre.getElem hj
    rw [h3, List.getElem_drop, List.getD_eq_getElem?_getD, List.getElem?_eq_getElem (by omega), Option.getD_some]
    congr 1; omega
  rw [e] at hp; exact hp
theorem tw_end {p : UInt8 → Bool} {l : List UInt8} {a : Nat} (h : a + ((l.drop a).takeWhile p).length < l.length) : p (l.getD (a + ((l.drop a).takeWhile p).length) 0) = false := by
  have hd : (l.drop a).length = l.length - a := by simp
  have e := List.takeWhile_append_dropWhile (p := p) (l := l.drop a)
  have hne : (l.drop a).dropWhile p ≠ [] := fun h0 => by
    rw [h0, List.append_nil] at e
    have := congrArg List.length e
    omega
  have h1 := List.head_dropWhile_not p (l := l.drop a) hne
  have e2 : l.getD (a + ((l.drop a).takeWhile p).length) 0 = ((l.drop a).dropWhile p).head hne := by
    have : (l.drop a).getD (((l.drop a).takeWhile p).length) 0 = ((l.drop a).dropWhile p).head hne := by
      conv => lhs; rw [← e]
      rw [List.getD_eq_getElem?_getD, List.getElem?_append_right (by rw [e]; exact Nat.le_refl _), e, Nat.sub_self]
      rw [← List.head?_eq_getElem?, List.head?_eq_some_head hne]; rfl
    rw [← this]
    simp [List.getD_eq_getElem?_getD]
  rw [e2]; exact h1
theorem tw_eq {p : UInt8 → Bool} (l : List UInt8) (a : Nat) : (l.drop a).takeWhile p = (l.drop a).take (((l.drop a).takeWhile p).length) := by
  have h := (List.takeWhile_prefix p (l := l.drop a))
  exact (List.prefix_iff_eq_take.1 h)
end Go.Proofs.YtanchgkiomfhhaaDoor.Fw

/- Rows read: the reference's way is the program's; a row's text is read as it; what is read has its text. -/
namespace Go.Proofs.YtanchgkiomfhhaaDoor.Fw
set_option linter.unusedSimpArgs false
set_option linter.unusedVariables false
open Go Go.Proofs.YtanchgkiomfhhaaDoor.Ma

noncomputable def rrF (l : List UInt8) : Nat → Nat → List Int → Res
  | 0, a, _ => .bad a
  | f + 1, a, out =>
    if posP (segR l a) = iFrom (segR l a) ∨ posP (segR l a) < (segR l a).length then .bad (a + posP (segR l a))
    else if a + (segR l a).length = l.length then .bad (a + (segR l a).length)
    else if (l.getD (a + (segR l a).length) 0).toNat = 93 then
      if a + (segR l a).length + 1 < l.length then .bad (a + (segR l a).length + 1) else .ok (out ++ [iVal (segR l a)])
    else rrF l f (a + (segR l a).length + 1) (out ++ [iVal (segR l a)])
noncomputable def readRR (l : List UInt8) : Res :=
  if (l.getD 0 0).toNat ≠ 91 then .bad 0 else if l.take 2 = [91, 93] then (if 2 < l.length then .bad 2 else .ok []) else rrF l (l.length + 1) 1 []
theorem getD_app_l {s t : List UInt8} {i : Nat} (h : i < s.length) : (s ++ t).getD i 0 = s.getD i 0 := by
  rw [List.getD_eq_getElem?_getD, List.getElem?_append_left h, List.getD_eq_getElem?_getD]
theorem getD_app_c {s t : List UInt8} {c : UInt8} : (s ++ c :: t).getD s.length 0 = c := by
  rw [List.getD_eq_getElem?_getD, List.getElem?_append_right (Nat.le_refl _)]; simp
end Go.Proofs.YtanchgkiomfhhaaDoor.Fw

/- Rows read: a row's text is read as it; what is read has its text. -/
namespace Go.Proofs.YtanchgkiomfhhaaDoor.Fw
set_option linter.unusedSimpArgs false
set_option linter.unusedVariables false
open Go Go.Proofs.YtanchgkiomfhhaaDoor.Ma

theorem nc_iText (x : Int) : ∀ c, c ∈ iText x → isNC c = true := fun c hc => by
  refine decide_eq_true ?_
  rcases List.mem_append.1 hc with h | h
  · split at h
    · rw [List.mem_singleton.1 h]; exact .inl rfl
    · simp at h
  · exact .inr ((good_decT x.natAbs).2.1 c h)
theorem tw_stop {p : UInt8 → Bool} : ∀ {s : List UInt8} {c : UInt8} {t : List UInt8}, (∀ x, x ∈ s → p x = true) → p c = false → (s ++ c :: t).takeWhile p = s
  | [], c, t, _, h => by rw [List.nil_append, List.takeWhile_cons_of_neg (by simp [h])]
  | x :: s, c, t, hs, h => by
    rw [List.cons_append, List.takeWhile_cons_of_pos (hs x (by simp)), tw_stop (fun y hy => hs y (by simp [hy])) h]
theorem drop_get {l s t : List UInt8} {c : UInt8} {a : Nat} (h : l.drop a = s ++ c :: t) : l.getD (a + s.length) 0 = c ∧ l.drop (a + s.length + 1) = t ∧ a + s.length < l.length ∧ (t = [] ↔ ¬ a + s.length + 1 < l.length) := by
  have h1 := congrArg List.length h
  simp only [List.length_drop, List.length_append, List.length_cons] at h1
  refine ⟨?_, ?_, by omega, ?_⟩
  · have : (l.drop a).getD s.length 0 = c := by rw [h]; exact getD_app_c
    rw [← this]; simp [List.getD_eq_getElem?_getD]
  · have := congrArg (List.drop (s.length + 1)) h
    rw [List.drop_drop] at this
    rw [Nat.add_assoc, this, List.drop_append]
    simp
  · constructor
    · rintro rfl; simp at h1; omega
    · intro h2
      exact List.length_eq_zero_iff.1 (by omega)
theorem rdF_text (l : List UInt8) : ∀ (zs : List Int) f a out, zs ≠ [] → zs.length ≤ f → l.drop a = joinT (zs.map iText) ++ [93] →
    rdF l f a out = if out.length + zs.length ≤ 4096 then .ok (out ++ zs) else if out.length ≤ 4096 then .long (a + sumN ((zs.take (4096 - out.length)).map fun z => (iText z).length + 1)) else rdF l f a out
  | [], _, _, _, h, _, _ => absurd rfl h
  | _ :: _, 0, _, _, _, hf, _ => by simp at hf
  | z :: r, f + 1, a, out, _, hf, hd => by
    obtain ⟨i1, i2, i3⟩ := iText_at z
    -- what stands behind the number
    obtain ⟨c, t, ht, hcd⟩ : ∃ c t, l.drop a = iText z ++ c :: t ∧ ((r = [] ∧ c = 93 ∧ t = []) ∨ (r ≠ [] ∧ c = 32 ∧ t = joinT (r.map iText) ++ [93])) := by
      cases r with
      | nil => exact ⟨93, [], by rw [hd]; rfl, .inl ⟨rfl, rfl, rfl⟩⟩
      | cons y r => exact ⟨32, joinT ((y :: r).map iText) ++ [93], by rw [hd]; simp [joinT], .inr ⟨by simp, rfl, rfl⟩⟩
    have hnc : isNC c = false := by rcases hcd with ⟨_, rfl, _⟩ | ⟨_, rfl, _⟩ <;> decide
    have hseg : segP l a = iText z := by unfold segP; rw [ht]; exact tw_stop (nc_iText z) hnc
    have hpos : posP (iText z) = (iText z).length := posP_of i1
    obtain ⟨g1, g2, g3, g4⟩ := drop_get ht
    by_cases h1 : out.length = 4096
    · rw [if_neg (by simp only [List.length_cons]; omega), if_pos (by omega), h1]
      conv => lhs; unfold rdF
      rw [hseg, hpos, if_neg (by omega), if_pos h1]
      simp [sumN]
    by_cases h2 : out.length ≤ 4096
    rotate_left
    · rw [if_neg (by simp only [List.length_cons]; omega), if_neg h2]
    rcases hcd with ⟨rfl, rfl, rfl⟩ | ⟨hr, rfl, rfl⟩
    · rw [if_pos (by simp only [List.length_cons, List.length_nil]; omega)]
      conv => lhs; unfold rdF
      have := g4.1 rfl
      rw [hseg, hpos, if_neg (by omega), if_neg h1, if_neg (by omega), g1, if_neg (by decide), if_neg (by decide), if_neg this, i3]
    · conv => lhs; unfold rdF
      rw [hseg, hpos, if_neg (by omega), if_neg h1, if_neg (by omega), g1, if_pos (by decide), i3]
      have ih := rdF_text l r f (a + (iText z).length + 1) (out ++ [z]) hr (by simpa using hf) g2
      have hlen : (out ++ [z]).length = out.length + 1 := by simp
      by_cases h3 : out.length + (z :: r).length ≤ 4096
      · rw [if_pos h3]
        rw [if_pos (by rw [hlen]; simp only [List.length_cons] at h3; omega)] at ih
        rw [ih]; simp
      · rw [if_neg h3, if_pos h2]
        rw [if_neg (by rw [hlen]; simp only [List.length_cons] at h3; omega), if_pos (by rw [hlen]; omega)] at ih
        rw [ih, hlen, show 4096 - out.length = (4096 - (out.length + 1)) + 1 by omega, List.take_succ_cons, List.map_cons, sumN]
        congr 1; omega
theorem rdF_ok (l : List UInt8) : ∀ f a out zs, a ≤ l.length → rdF l f a out = .ok zs → ∃ r, r ≠ [] ∧ zs = out ++ r ∧ l.drop a = joinT (r.map iText) ++ [93] ∧ ∀ z, z ∈ r → z.natAbs < 10 ^ l.length
  | 0, _, _, _, _, h => by simp [rdF] at h
  | f + 1, a, out, zs, ha, h => by
    unfold rdF at h
    have hp := posP_at (segP l a)
    have hle : (segP l a).length ≤ l.length - a := tw_le l a
    split at h
    · cases h
    · rename_i h1
      have hpe : posP (segP l a) = (segP l a).length := by have := hp.2.1; omega
      rw [hpe] at hp h1
      have hne : (segP l a).length ≠ iFrom (segP l a) := fun e => h1 (.inl e)
      have htx := iText_iVal hp hne
      have hb : (iVal (segP l a)).natAbs < 10 ^ l.length := by
        unfold iVal
        rw [sg_abs]
        refine Nat.lt_of_lt_of_le (decV_lt fun b hb => ((isAt_good hp hne).2.1 b hb).2) (Nat.pow_le_pow_right (by omega) (by simp; omega))
      have hsplit : l.drop a = segP l a ++ l.drop (a + (segP l a).length) := by
        have e := tw_eq (p := isNC) l a
        conv => lhs; rw [← List.take_append_drop ((segP l a).length) (l.drop a)]
        rw [List.drop_drop]
        congr 1
        exact e.symm
      split at h
      · cases h
      · split at h
        · cases h
        · rename_i h3
          have hlt : a + (segP l a).length < l.length := by omega
          have hdc : l.drop (a + (segP l a).length) = l.getD (a + (segP l a).length) 0 :: l.drop (a + (segP l a).length + 1) := by
            rw [List.drop_eq_getElem_cons hlt, List.getD_eq_getElem?_getD, List.getElem?_eq_getElem hlt, Option.getD_some]
          split at h
          · rename_i h4
            obtain ⟨r, r1, r2, r3, r4⟩ := rdF_ok l f _ _ zs (by omega) h
            refine ⟨iVal (segP l a) :: r, by simp, by rw [r2]; simp, ?_, fun z hz => ?_⟩
            · have hc : l.getD (a + (segP l a).length) 0 = 32 := UInt8.toNat_inj.1 h4
              rw [hsplit, hdc, hc, r3]
              cases r with
              | nil => exact absurd rfl r1
              | cons y r => simp [joinT, htx]
            · rcases List.mem_cons.1 hz with rfl | hz
              · exact hb
              · exact r4 z hz
          · split at h
            · cases h
            · split at h
              · cases h
              · rename_i h4 h5 h6
                injection h with h
                refine ⟨[iVal (segP l a)], by simp, h.symm, ?_, fun z hz => by rw [List.mem_singleton.1 hz]; exact hb⟩
                have hc : l.getD (a + (segP l a).length) 0 = 93 := UInt8.toNat_inj.1 (by
                  have : (l.getD (a + (segP l a).length) 0).toNat = 93 := Classical.not_not.1 h5
                  rw [this]; rfl)
                rw [hsplit, hdc, hc, List.drop_eq_nil_of_le (by omega)]
                simp [joinT, htx]
theorem rowT_hd (zs : List Int) : (rowT zs).getD 0 0 = 91 := rfl
theorem joinT_hd {xs : List (List UInt8)} (h0 : xs ≠ []) (h : ∀ x, x ∈ xs → x ≠ [] ∧ x.getD 0 0 ≠ 93) : (joinT xs ++ [93]).getD 0 0 ≠ 93 := by
  cases xs with
  | nil => exact absurd rfl h0
  | cons x r =>
    obtain ⟨h1, h2⟩ := h x (by simp)
    have h3 := List.length_pos_iff.2 h1
    cases r with
    | nil => simp only [joinT]; rw [getD_app_l h3]; exact h2
    | cons y r => simp only [joinT, List.append_assoc, List.cons_append]; rw [getD_app_l h3]; exact h2
theorem iText_hd (z : Int) : iText z ≠ [] ∧ (iText z).getD 0 0 ≠ 93 := by
  have hne : iText z ≠ [] := fun h => by
    have hg := (good_decT z.natAbs).1
    unfold iText at h
    exact hg (List.append_eq_nil_iff.1 h).2
  refine ⟨hne, fun h => ?_⟩
  cases hx : iText z with
  | nil => exact hne hx
  | cons c t =>
    have := nc_iText z c (by rw [hx]; simp)
    rw [hx] at h
    have h : c = 93 := h
    subst h
    revert this; decide
theorem readR_text {zs : List Int} (hlen : (rowT zs).length ≤ 65536) (hc : zs.length ≤ 4096) : readR (rowT zs) = .ok zs := by
  unfold readR
  rw [if_neg (by omega), rowT_hd, if_neg (by decide)]
  by_cases h0 : zs = []
  · subst h0; exact if_pos (rfl : rowT [] = [91, 93])
  have hj := joinT_hd (xs := zs.map iText) (by simpa using h0) fun x hx => by
    obtain ⟨z, _, rfl⟩ := List.mem_map.1 hx
    exact iText_hd z
  have h2 : (rowT zs).take 2 ≠ [91, 93] := fun h => by
    have h3 := congrArg (fun l => l.getD 1 0) h
    have h4 : ((rowT zs).take 2).getD 1 0 = (joinT (zs.map iText) ++ [93]).getD 0 0 := by
      rw [List.getD_eq_getElem?_getD, List.getElem?_take_of_lt (by omega), List.getD_eq_getElem?_getD]; rfl
    rw [h4] at h3
    exact hj h3
  have h1 : rowT zs ≠ [91, 93] := fun h => h2 (by rw [h]; rfl)
  rw [if_neg h1, if_neg h2]
  have hle : zs.length ≤ (rowT zs).length := by
    have : ∀ xs : List (List UInt8), xs.length ≤ (joinT xs).length + 1 := fun xs => by
      induction xs with
      | nil => simp
      | cons x r ih =>
        cases r with
        | nil => simp
        | cons y r => simp only [joinT, List.length_cons, List.length_append] at ih ⊢; omega
    have := this (zs.map iText)
    simp only [rowT, List.length_append, List.length_cons, List.length_map] at this ⊢; omega
  rw [rdF_text (rowT zs) zs _ 1 [] h0 (by omega) rfl, if_pos (by simpa using hc)]; rfl
theorem readR_ok {l : List UInt8} {zs : List Int} (h : readR l = .ok zs) : l = rowT zs ∧ ∀ z, z ∈ zs → z.natAbs < 10 ^ l.length := by
  unfold readR at h
  split at h
  · cases h
  · split at h
    · cases h
    · rename_i h1
      split at h
      · rename_i h2
        injection h with h
        subst h
        exact ⟨h2, fun z hz => by simp at hz⟩
      · split at h
        · cases h
        · have h91 : l.getD 0 0 = 91 := UInt8.toNat_inj.1 (by
            have : (l.getD 0 0).toNat = 91 := Classical.not_not.1 h1
            rw [this]; rfl)
          cases l with
          | nil => simp at h91
          | cons c l =>
            have hc : c = 91 := h91
            subst hc
            obtain ⟨r, _, r2, r3, r4⟩ := rdF_ok _ _ 1 [] zs (by simp) h
            rw [List.nil_append] at r2
            subst r2
            exact ⟨by unfold rowT; rw [List.cons_append, ← r3]; rfl, r4⟩
end Go.Proofs.YtanchgkiomfhhaaDoor.Fw

/- Polynomials: trimmed, the same, copied. -/
namespace Go.Proofs.YtanchgkiomfhhaaDoor.Fw
set_option linter.unusedSimpArgs false
set_option linter.unusedVariables false
open Go Go.Proofs.YtanchgkiomfhhaaDoor.Ma
set_option maxRecDepth 20000

theorem iText_inj {x y : Int} : iText x = iText y ↔ x = y := by
  constructor
  · intro h
    obtain ⟨_, _, h1⟩ := iText_at x
    obtain ⟨_, _, h2⟩ := iText_at y
    rw [← h1, ← h2, h]
  · rintro rfl; rfl
theorem is20a_fn {x y : Int} {k : Nat} (hx : Bd k x) (hy : Bd k y) (hk : k ≤ 1000000) : PFn Tryd.prog 155 [IntA x, RefA y false] (.bool (decide (x = y))) := by
  intro H Q hq
  refine enter155 (by simp) ?_
  have e : decide (iText x = iText y) = decide (x = y) := by simp [iText_inj]
  simp (disch := first | assumption | (apply Ap.symm; assumption) | omega | decide | (simp only [Xd] <;> omega)) only [ac155, cells_IntA, ↓Xa, Xb, Xc, ↓reduceIte, Nat.reduceLT, Nat.reduceEqDiff, Nat.reduceBEq, Nat.reduceLeDiff, Nat.reduceAdd, Nat.reduceMul]
  refine alloc_i fun p1 hp1 => ?_
  have n1 := hp1
  simp (disch := first | assumption | (apply Ap.symm; assumption) | omega | decide | (simp only [Xd] <;> omega)) only [cells_RefA, ↓Xa, Xb, Xc, ↓reduceIte, Nat.reduceLT, Nat.reduceEqDiff, Nat.reduceBEq, Nat.reduceLeDiff, Nat.reduceAdd, Nat.reduceMul]
  refine alloc_i fun p2 hp2 => ?_
  have n2 := hp2
  simp only [upd_none] at n2
  obtain ⟨_, n2⟩ := n2
  simp (disch := first | assumption | (apply Ap.symm; assumption) | omega | decide | (simp only [Xd] <;> omega)) only [cells_IntA, cells_RefA, fold_IntA, fold_RefA, ↓Xa, Xb, Xc, ↓reduceIte, Nat.reduceLT, Nat.reduceEqDiff, Nat.reduceBEq, Nat.reduceLeDiff, Nat.reduceAdd, Nat.reduceMul]
  refine (itext_fn hx hk).dcall ?_
  simp (disch := first | assumption | (apply Ap.symm; assumption) | omega | decide | (simp only [Xd] <;> omega)) only [cells_RefA, fold_RefA, ↓Xa, Xb, Xc, ↓reduceIte, Nat.reduceLT, Nat.reduceEqDiff, Nat.reduceBEq, Nat.reduceLeDiff, Nat.reduceAdd, Nat.reduceMul]
  refine (rtext_fn false hy hk).call ?_
  simp (disch := first | assumption | (apply Ap.symm; assumption) | omega | decide | (simp only [Xd] <;> omega)) only [eql_Sx, e, rs155, ↓Xa, Xb, Xc, ↓reduceIte, Nat.reduceLT, Nat.reduceEqDiff, Nat.reduceBEq, Nat.reduceLeDiff, Nat.reduceAdd, Nat.reduceMul]
  exact SetR.dropTo (((Le.refl H).updB n1).updB n2) (SetR.now hq)
theorem is20_fn {zs : List Int} {k : Nat} {t t' : Bool} (hz : RB4 k zs) (hk : k ≤ 1000000) : PFn Tryd.prog 73 [RowA zs t, RefR zs t'] (.bool true) := by
  intro H Q hq
  refine enter73 (by simp) ?_
  simp (disch := first | assumption | (apply Ap.symm; assumption) | omega | decide | (simp only [Xd] <;> omega)) only [ac73, ↓Xa, Xb, Xc, ↓reduceIte, Nat.reduceLT, Nat.reduceEqDiff, Nat.reduceBEq, Nat.reduceLeDiff, Nat.reduceAdd, Nat.reduceMul]
  have h := eqfR_fn (zs := zs) (ws := zs) (t := t) (t' := t') (g := 155) (fun x y hx hy => is20a_fn (hz.1 _ hx) (hz.1 _ hy) hk) hz.2 hz.2
  rw [decide_eq_true rfl] at h
  refine h.call ?_
  simp (disch := first | assumption | (apply Ap.symm; assumption) | omega | decide | (simp only [Xd] <;> omega)) only [rs73, ↓Xa, Xb, Xc, ↓reduceIte, Nat.reduceLT, Nat.reduceEqDiff, Nat.reduceBEq, Nat.reduceLeDiff, Nat.reduceAdd, Nat.reduceMul]
  exact SetR.now hq
theorem same20a_fn {x y : Int} {k : Nat} (hx : Bd k x) (hy : Bd k y) (hk : k ≤ 1000000) : PFn Tryd.prog 152 [IntA x, IntA y] (.bool (decide (x = y))) := by
  intro H Q hq
  refine enter152 (by simp) ?_
  have e : decide (cmpI x y = ((0 : Nat) : Int)) = decide (x = y) := by
    unfold cmpI
    split
    · rename_i h; simp; omega
    · split <;> simp <;> omega
  simp (disch := first | assumption | (apply Ap.symm; assumption) | omega | decide | (simp only [Xd] <;> omega)) only [ac152, cells_IntA, ↓Xa, Xb, Xc, ↓reduceIte, Nat.reduceLT, Nat.reduceEqDiff, Nat.reduceBEq, Nat.reduceLeDiff, Nat.reduceAdd, Nat.reduceMul]
  refine alloc_i fun p1 hp1 => ?_
  have n1 := hp1
  simp (disch := first | assumption | (apply Ap.symm; assumption) | omega | decide | (simp only [Xd] <;> omega)) only [cells_IntA, ↓Xa, Xb, Xc, ↓reduceIte, Nat.reduceLT, Nat.reduceEqDiff, Nat.reduceBEq, Nat.reduceLeDiff, Nat.reduceAdd, Nat.reduceMul]
  refine alloc_i fun p2 hp2 => ?_
  have n2 := hp2
  simp only [upd_none] at n2
  obtain ⟨_, n2⟩ := n2
  simp (disch := first | assumption | (apply Ap.symm; assumption) | omega | decide | (simp only [Xd] <;> omega)) only [cells_IntA, fold_IntA, ↓Xa, Xb, Xc, ↓reduceIte, Nat.reduceLT, Nat.reduceEqDiff, Nat.reduceBEq, Nat.reduceLeDiff, Nat.reduceAdd, Nat.reduceMul]
  refine (cmpi_fn hx (by omega) hy (by omega)).call ?_
  simp (disch := first | assumption | (apply Ap.symm; assumption) | omega | decide | (simp only [Xd] <;> omega)) only [eql_int, e, rs152, ↓Xa, Xb, Xc, ↓reduceIte, Nat.reduceLT, Nat.reduceEqDiff, Nat.reduceBEq, Nat.reduceLeDiff, Nat.reduceAdd, Nat.reduceMul]
  exact SetR.dropTo (((Le.refl H).updB n1).updB n2) (SetR.now hq)
theorem nilR_pos {g t : Bool} {zs : List Int} {K : AV → Prop} (h : 0 < zs.length) : nilW g (RowA zs t) K ↔ K (.bool g) := by
  cases zs with
  | nil => simp at h
  | cons x l => simp [nilW]
theorem cellIC (zs : List Int) : (IC zs).all AV.cell = true := by
  induction zs with
  | nil => rfl
  | cons z zs ih => simp only [IC, List.flatMap_cons, List.all_append] at *; rw [ih]; rfl
theorem clone20_fn {zs : List Int} {t : Bool} (h0 : 0 < zs.length) (hbig : zs.length ≤ 1000000) {H : AHeap} {Q : AV → AHeap → Prop} (hq : ∀ y M, growC H 28 2 zs.length (IC zs) y M → Q y M) : Run Tryd.prog 156 [RowA zs t] H Q := by
  refine enter156 (by simp) ?_
  simp (disch := first | assumption | (apply Ap.symm; assumption) | omega | decide | (simp only [Xd] <;> omega)) only [ac156, nilR_pos h0, ↓Xa, Xb, Xc, ↓reduceIte, Nat.reduceLT, Nat.reduceEqDiff, Nat.reduceBEq, Nat.reduceLeDiff, Nat.reduceAdd, Nat.reduceMul]
  refine app_C (n := 0) (m := zs.length) growC_nil (IC_len zs) (cellIC zs) h0 (by omega) (by omega) fun y M hg => ?_
  rw [Nat.zero_add, List.nil_append] at hg
  simp (disch := first | assumption | (apply Ap.symm; assumption) | omega | decide | (simp only [Xd] <;> omega)) only [rs156, ↓Xa, Xb, Xc, ↓reduceIte, Nat.reduceLT, Nat.reduceEqDiff, Nat.reduceBEq, Nat.reduceLeDiff, Nat.reduceAdd, Nat.reduceMul]
  exact SetR.now (hq y M hg)
theorem ptrim_run {zs : List Int} {t : Bool} {k : Nat} (hz : RB4 k zs) (hk : k ≤ 1000000) (hbig : zs.length ≤ 1000000) {H : AHeap} {Q : AV → AHeap → Prop} (hq : ∀ y M, growC H 28 2 (degN zs) (IC (trimP zs)) y M → Q y M) : Run Tryd.prog 74 [RowA zs t] H Q := by
  have hd := degN_le zs
  refine enter74 (by simp) ?_
  simp (disch := first | assumption | (apply Ap.symm; assumption) | omega | decide | (simp only [Xd] <;> omega)) only [ac74, ↓Xa, Xb, Xc, ↓reduceIte, Nat.reduceLT, Nat.reduceEqDiff, Nat.reduceBEq, Nat.reduceLeDiff, Nat.reduceAdd, Nat.reduceMul]
  refine (deg_fn hz hk hbig).call ?_
  have ha : ∀ K : AV → Prop, binW .add (.int .i64 (dn (degN zs))) (.int .i64 ((1 : Nat) : Int)) K ↔ K (.int .i64 ((degN zs : Nat) : Int)) := fun K => by
    cases h : degN zs with
    | zero => simp [dn, binW, binInt]; rfl
    | succ n =>
      rw [dn_succ, bin_add, wn_i64 (by omega)]
  by_cases h0 : degN zs = 0
  · have hq' := hq (.seq 0 [] true) H (by
      have : trimP zs = [] := List.length_eq_zero_iff.1 (by rw [trimP_len, h0])
      rw [h0, this]; exact growC_nil)
    have ham : ∀ K : AV → Prop, binW .add (.int .i64 (-1)) (.int .i64 ((1 : Nat) : Int)) K ↔ K (.int .i64 ((0 : Nat) : Int)) := fun K => by
      have := ha K; rwa [h0] at this
    rw [h0]
    simp (disch := first | assumption | (apply Ap.symm; assumption) | omega | decide | (simp only [Xd] <;> omega)) only [ham, rs74, ↓Xa, Xb, Xc, ↓reduceIte, Nat.reduceLT, Nat.reduceEqDiff, Nat.reduceBEq, Nat.reduceLeDiff, Nat.reduceAdd, Nat.reduceMul]
    exact SetR.now hq'
  · have hsl : ∀ K : AV → Prop, slcW 2 (RowA zs t) none (some (.int .i64 ((degN zs : Nat) : Int))) none K ↔ K (.seq (degN zs) (IC (trimP zs)) (t && decide (degN zs = zs.length))) := fun K => by
      have e : decide (((degN zs : Nat) : Int) = ((zs.length : Nat) : Int)) = decide (degN zs = zs.length) := by
        by_cases h : degN zs = zs.length
        · simp [h]
        · rw [decide_eq_false h, decide_eq_false (by omega)]
      simp [slcW, optI, IC_len, hd, IC_tk hd, trimP, e]
    simp (disch := first | assumption | (apply Ap.symm; assumption) | omega | decide | (simp only [Xd] <;> omega)) only [ha, h0, hsl, ↓Xa, Xb, Xc, ↓reduceIte, Nat.reduceLT, Nat.reduceEqDiff, Nat.reduceBEq, Nat.reduceLeDiff, Nat.reduceAdd, Nat.reduceMul]
    have hcl : ∀ (t : Bool) (K : AV → AHeap → Prop), (∀ y M, growC H 28 2 (degN zs) (IC (trimP zs)) y M → K y M) → Run Tryd.prog 156 [.seq (degN zs) (IC (trimP zs)) t] H K := by
      rw [← trimP_len]
      intro t K h
      exact clone20_fn (by rw [trimP_len]; omega) (by rw [trimP_len]; omega) h
    refine run_call (hcl _ _ fun y M hg => ?_)
    simp (disch := first | assumption | (apply Ap.symm; assumption) | omega | decide | (simp only [Xd] <;> omega)) only [rs74, ↓Xa, Xb, Xc, ↓reduceIte, Nat.reduceLT, Nat.reduceEqDiff, Nat.reduceBEq, Nat.reduceLeDiff, Nat.reduceAdd, Nat.reduceMul]
    exact SetR.now (hq y M hg)
theorem ptrim_fn {zs : List Int} {t : Bool} {k : Nat} (hz : RB4 k zs) (hk : k ≤ 1000000) (hbig : zs.length ≤ 1000000) : PFn Tryd.prog 74 [RowA zs t] (RowA (trimP zs) false) := by
  have := PFn.frozen (ty := 28) (es := 2) fun H Q hq => ptrim_run (t := t) hz hk hbig (H := H) (Q := Q) hq
  rwa [← trimP_len] at this
theorem RB4.trim {k : Nat} {zs : List Int} (h : RB4 k zs) : RB4 k (trimP zs) := ⟨fun z hz => h.1 z (List.mem_of_mem_take hz), by have := degN_le zs; have := h.2; rw [trimP_len]; omega⟩
theorem psame_fn {zs ws : List Int} {t t' : Bool} {k : Nat} (hz : RB4 k zs) (hw : RB4 k ws) (hk : k ≤ 1000000) (hbig : zs.length ≤ 1000000) (hbig' : ws.length ≤ 1000000) : PFn Tryd.prog 66 [RowA zs t, RowA ws t'] (.bool (decide (trimP zs = trimP ws))) := by
  intro H Q hq
  refine enter66 (by simp) ?_
  simp (disch := first | assumption | (apply Ap.symm; assumption) | omega | decide | (simp only [Xd] <;> omega)) only [ac66, ↓Xa, Xb, Xc, ↓reduceIte, Nat.reduceLT, Nat.reduceEqDiff, Nat.reduceBEq, Nat.reduceLeDiff, Nat.reduceAdd, Nat.reduceMul]
  refine (ptrim_fn hz hk hbig).call ?_
  simp (disch := first | assumption | (apply Ap.symm; assumption) | omega | decide | (simp only [Xd] <;> omega)) only [↓Xa, Xb, Xc, ↓reduceIte, Nat.reduceLT, Nat.reduceEqDiff, Nat.reduceBEq, Nat.reduceLeDiff, Nat.reduceAdd, Nat.reduceMul]
  refine (ptrim_fn hw hk hbig').call ?_
  simp (disch := first | assumption | (apply Ap.symm; assumption) | omega | decide | (simp only [Xd] <;> omega)) only [↓Xa, Xb, Xc, ↓reduceIte, Nat.reduceLT, Nat.reduceEqDiff, Nat.reduceBEq, Nat.reduceLeDiff, Nat.reduceAdd, Nat.reduceMul]
  refine (eqfI_fn (g := 152) (fun x y hx hy => same20a_fn (hz.trim.1 _ hx) (hw.trim.1 _ hy) hk) hz.trim.2 hw.trim.2).call ?_
  simp (disch := first | assumption | (apply Ap.symm; assumption) | omega | decide | (simp only [Xd] <;> omega)) only [rs66, ↓Xa, Xb, Xc, ↓reduceIte, Nat.reduceLT, Nat.reduceEqDiff, Nat.reduceBEq, Nat.reduceLeDiff, Nat.reduceAdd, Nat.reduceMul]
  exact SetR.now hq
end Go.Proofs.YtanchgkiomfhhaaDoor.Fw

/- Polynomials multiplied. -/
namespace Go.Proofs.YtanchgkiomfhhaaDoor.Fw
set_option linter.unusedSimpArgs false
set_option linter.unusedVariables false
open Go Go.Proofs.YtanchgkiomfhhaaDoor.Ma
set_option maxRecDepth 20000

def cs (a b : List Int) (i k n : Nat) : Int := mf (a.take i) (co b) n + if i ≤ n ∧ n - i < k then co a i * co b (n - i) else 0
def csL (a b : List Int) (N i k : Nat) : List Int := (List.range N).map (cs a b i k)
theorem csL_len (a b : List Int) (N i k : Nat) : (csL a b N i k).length = N := by simp [csL]
theorem csL_0 (a b : List Int) (N : Nat) : csL a b N 0 0 = List.replicate N 0 := by
  refine List.ext_getElem (by simp [csL]) fun i h1 h2 => ?_
  simp [csL, cs, mf]
theorem csL_next (a b : List Int) {N i : Nat} (hi : i < a.length) : csL a b N i b.length = csL a b N (i + 1) 0 := by
  refine List.ext_getElem (by simp [csL]) fun n h1 h2 => ?_
  simp only [csL, List.getElem_map, List.getElem_range, cs]
  rw [← List.take_append_getElem hi, mf_snoc, List.length_take, Nat.min_eq_left (by omega), co_get hi]
  by_cases h : i ≤ n
  · by_cases h3 : n - i < b.length
    · rw [if_pos ⟨h, h3⟩, if_pos h, if_neg (by omega)]; omega
    · rw [if_neg (by omega), if_pos h, if_neg (by omega), co_ge (by omega)]; simp
  · rw [if_neg (by omega), if_neg h, if_neg (by omega)]; simp
theorem csL_end {a b : List Int} (ha : a.length ≠ 0) (hb : b.length ≠ 0) : csL a b (a.length + b.length - 1) a.length 0 = mulP a b := by
  unfold mulP csL
  rw [if_neg (by omega)]
  congr 1
  funext n
  simp [cs, List.take_of_length_le]
theorem cs_at {a b : List Int} {N i k : Nat} (h : i + k < N) : (csL a b N i k)[i + k]'(by rw [csL_len]; exact h) = mf (a.take i) (co b) (i + k) := by
  simp [csL, cs]
theorem csL_step {a b : List Int} {N i k : Nat} (h : i + k < N) : (csL a b N i k).set (i + k) (mf (a.take i) (co b) (i + k) + co a i * co b k) = csL a b N i (k + 1) := by
  refine List.ext_getElem (by simp [csL]) fun n h1 h2 => ?_
  rw [List.getElem_set]
  simp only [csL, List.getElem_map, List.getElem_range, cs]
  split
  · rename_i e; subst e
    rw [if_pos (by omega), show i + k - i = k by omega]
  · by_cases h3 : i ≤ n ∧ n - i < k
    · rw [if_pos h3, if_pos (by omega)]
    · rw [if_neg h3, if_neg (by omega)]
def PB (k X Y : Nat) (zs ws : List Int) : Prop := (∀ z, z ∈ zs → z.natAbs ≤ X) ∧ (∀ z, z ∈ ws → z.natAbs ≤ Y) ∧ zs.length * (X * Y) < 4294967296 ^ k ∧ X < 4294967296 ^ k ∧ Y < 4294967296 ^ k
theorem bd_of {k X : Nat} {z : Int} (h : z.natAbs ≤ X) (hX : X < 4294967296 ^ k) : Bd k z := by
  unfold Bd; omega
theorem co_bound {Y : Nat} {ws : List Int} (h : ∀ z, z ∈ ws → z.natAbs ≤ Y) (j : Nat) : (co ws j).natAbs ≤ Y := by
  by_cases hj : j < ws.length
  · rw [co_get hj]; exact h _ (List.getElem_mem hj)
  · rw [co_ge (by omega)]; simp
theorem PB.part {k X Y i n : Nat} {zs ws : List Int} (h : PB k X Y zs ws) : Bd k (mf (zs.take i) (co ws) n) := by
  refine bd_of (Nat.le_trans (mf_bound (co_bound h.2.1) _ _ fun x hx => h.1 x (List.mem_of_mem_take hx)) (Nat.mul_le_mul_right _ (List.length_take_le' i zs))) h.2.2.1
theorem PB.mul {k X Y i m : Nat} {zs ws : List Int} (h : PB k X Y zs ws) (hi : i < zs.length) : Bd k (co zs i * co ws m) := by
  refine bd_of (X := X * Y) ?_ (Nat.lt_of_le_of_lt (Nat.le_mul_of_pos_left _ (by omega)) h.2.2.1)
  rw [Int.natAbs_mul]
  exact Nat.mul_le_mul (co_bound h.1 i) (co_bound h.2.1 m)
theorem PB.all {k X Y : Nat} {zs ws : List Int} (h : PB k X Y zs ws) : ∀ z, z ∈ mulP zs ws → Bd k z := fun z hz => by
  obtain ⟨n, hn, rfl⟩ := List.getElem_of_mem hz
  rw [← co_get hn, co_mul]
  have := h.part (i := zs.length) (n := n)
  rwa [List.take_length] at this
theorem ld_IC {L ty es m : Nat} {c : List Int} {K : AV → Prop} (hL : (IC c).length = L) (h : m < c.length) : ldP (some 2) L (m * 2) K (some (.row ty es (IC c))) ↔ K (IntA (c[m])) := by
  have hl := IC_len c
  subst hL
  have h1 : m * 2 + 2 ≤ c.length * 2 := by omega
  simp only [ldP, ldC, IC_drop c m h]
  simp [IntA_eq, hl, h1]
theorem mul20_run {zs ws : List Int} {t t' : Bool} {k X Y : Nat} (hb : PB k X Y zs ws) (hk : k ≤ 1000000) (lz : zs.length ≤ 10000) (lw : ws.length ≤ 10000) (hz0 : zs.length ≠ 0) (hw0 : ws.length ≠ 0) {H : AHeap} {Q : AV → AHeap → Prop}
    (hq : ∀ b, H b = none → Q (.tup [.own b ((zs.length + ws.length - 1) * 2) 0 (zs.length + ws.length - 1) true, .int .i64 ((zs.length * ws.length : Nat) : Int)]) (H.upd b (some (.row 28 2 (IC (mulP zs ws)))))) : Run Tryd.prog 71 [RowA zs t, RowA ws t'] H Q := by
  refine enter71 (by simp) ?_
  have nz : zs.length < 9223372036854775808 := by omega
  have nw : ws.length < 9223372036854775808 := by omega
  have hN : zs.length + ws.length - 1 ≤ 100000 := by omega
  have h1N : 1 ≤ zs.length + ws.length := by omega
  simp (disch := first | assumption | (apply Ap.symm; assumption) | omega | decide | (simp only [Xd] <;> omega)) only [ac71, len_rw, nz, nw, hz0, hw0, h1N, ↓Xa, Xb, Xc, ↓reduceIte, Nat.reduceLT, Nat.reduceEqDiff, Nat.reduceBEq, Nat.reduceLeDiff, Nat.reduceAdd, Nat.reduceMul]
  refine (mks_I hN).2 fun b hb0 => ?_
  rw [← csL_0 zs ws]
  simp (disch := first | assumption | (apply Ap.symm; assumption) | omega | decide | (simp only [Xd] <;> omega)) only [len_rw, nz, nw, ↓Xa, Xb, Xc, ↓reduceIte, Nat.reduceLT, Nat.reduceEqDiff, Nat.reduceBEq, Nat.reduceLeDiff, Nat.reduceAdd, Nat.reduceMul]
  generalize hNe : zs.length + ws.length - 1 = N at *
  refine W_loop (fun s : Nat × AHeap => ⟨[], [(1, RowA ws t'), (6, .own b (N * 2) 0 N true), (7, .int .i64 ((s.1 * ws.length : Nat) : Int)), (27, RowA zs t), (28, .int .i64 (zs.length : Int)), (29, .int .i64 s.1)], s.2.upd b (some (.row 28 2 (IC (csL zs ws N s.1 0))))⟩)
    (fun s => s.1 ≤ zs.length ∧ Le H s.2 ∧ s.2 b = none) (fun s => zs.length - s.1) (0, H) (Settle.now (by simp)) ⟨Nat.zero_le _, Le.refl H, hb0⟩ ?_
  rintro ⟨i, G⟩ ⟨h1, hG, hGb⟩
  dsimp only at h1 hG hGb ⊢
  by_cases hi : i < zs.length
  rotate_left
  · obtain rfl : i = zs.length := by omega
    simp (disch := first | assumption | (apply Ap.symm; assumption) | omega | decide | (simp only [Xd] <;> omega)) only [hi, ↓Xa, Xb, Xc, ↓reduceIte, Nat.reduceLT, Nat.reduceEqDiff, Nat.reduceBEq, Nat.reduceLeDiff, Nat.reduceAdd, Nat.reduceMul]
    refine Settle.now ?_
    simp (disch := first | assumption | (apply Ap.symm; assumption) | omega | decide | (simp only [Xd] <;> omega)) only [rs71, ↓Xa, Xb, Xc, ↓reduceIte, Nat.reduceLT, Nat.reduceEqDiff, Nat.reduceBEq, Nat.reduceLeDiff, Nat.reduceAdd, Nat.reduceMul]
    have e := csL_end hz0 hw0
    rw [hNe] at e
    rw [e]
    refine SetR.dropTo (H := H.upd b (some (.row 28 2 (IC (mulP zs ws))))) ?_ (SetR.now (hq b hb0))
    intro o x ho
    by_cases e : o = b
    · subst e; rw [upd_same] at ho ⊢; exact ho
    · rw [upd_other _ _ e] at ho ⊢; exact hG o x ho
  · simp (disch := first | assumption | (apply Ap.symm; assumption) | omega | decide | (simp only [Xd] <;> omega)) only [hi, idx_IC, load_IC, ↓Xa, Xb, Xc, ↓reduceIte, Nat.reduceLT, Nat.reduceEqDiff, Nat.reduceBEq, Nat.reduceLeDiff, Nat.reduceAdd, Nat.reduceMul]
    refine alloc_i fun q1 hq1 => ?_
    obtain ⟨a1, n1⟩ := upd_none.1 hq1
    have a1' := a1.symm
    rw [upd_comm _ _ _ a1']
    simp (disch := first | assumption | (apply Ap.symm; assumption) | omega | decide | (simp only [Xd] <;> omega)) only [cells_IntA, fold_IntA, a1, a1', len_rw, nw, ↓Xa, Xb, Xc, ↓reduceIte, Nat.reduceLT, Nat.reduceEqDiff, Nat.reduceBEq, Nat.reduceLeDiff, Nat.reduceAdd, Nat.reduceMul]
    refine W_loop (fun s : Nat × AHeap => ⟨[], [(1, RowA ws t'), (6, .own b (N * 2) 0 N true), (7, .int .i64 ((i * ws.length + s.1 : Nat) : Int)), (8, .int .i64 (i : Int)), (9, .ptr q1 2 0), (27, RowA zs t), (28, .int .i64 (zs.length : Int)), (29, .int .i64 (i : Int)), (34, RowA ws t'), (35, .int .i64 (ws.length : Int)), (36, .int .i64 s.1)], s.2.upd b (some (.row 28 2 (IC (csL zs ws N i s.1))))⟩)
      (fun s => s.1 ≤ ws.length ∧ Le H s.2 ∧ s.2 b = none ∧ s.2 q1 = some (.row 28 0 [IntB (zs[i]), IntD (zs[i])])) (fun s => ws.length - s.1) (0, G.upd q1 (some (.row 28 0 [IntB (zs[i]), IntD (zs[i])]))) (Settle.now (by simp)) ⟨Nat.zero_le _, hG.updB (hG.none n1), by dsimp only; rw [upd_otherA a1']; exact hGb, upd_same _ _ _⟩ ?_
    rintro ⟨j, M⟩ ⟨h2, hM, hMb, hMq⟩
    dsimp only at h2 hM hMb hMq ⊢
    by_cases hj : j < ws.length
    rotate_left
    · obtain rfl : j = ws.length := by omega
      simp (disch := first | assumption | (apply Ap.symm; assumption) | omega | decide | (simp only [Xd] <;> omega)) only [hj, ↓Xa, Xb, Xc, ↓reduceIte, Nat.reduceLT, Nat.reduceEqDiff, Nat.reduceBEq, Nat.reduceLeDiff, Nat.reduceAdd, Nat.reduceMul]
      refine Settle.now ?_
      simp (disch := first | assumption | (apply Ap.symm; assumption) | omega | decide | (simp only [Xd] <;> omega)) only [↓Xa, Xb, Xc, ↓reduceIte, Nat.reduceLT, Nat.reduceEqDiff, Nat.reduceBEq, Nat.reduceLeDiff, Nat.reduceAdd, Nat.reduceMul]
      rw [csL_next zs ws hi, ← Nat.succ_mul]
      exact Settle.now ⟨(i + 1, M), by dsimp only; omega, ⟨by dsimp only; omega, hM, hMb⟩, rfl⟩
    · simp (disch := first | assumption | (apply Ap.symm; assumption) | omega | decide | (simp only [Xd] <;> omega)) only [hj, idx_IC, load_IC, ↓Xa, Xb, Xc, ↓reduceIte, Nat.reduceLT, Nat.reduceEqDiff, Nat.reduceBEq, Nat.reduceLeDiff, Nat.reduceAdd, Nat.reduceMul]
      refine alloc_i fun q2 hq2 => ?_
      obtain ⟨a2, n2⟩ := upd_none.1 hq2
      have a2' := a2.symm
      rw [upd_comm _ _ _ a2']
      have a21 := ne_of_some hMq n2
      have hij : i + j < N := by omega
      simp (disch := first | assumption | (apply Ap.symm; assumption) | omega | decide | (simp only [Xd] <;> omega)) only [cells_IntA, fold_IntA, a1, a1', a2, a2', a21, a21.symm, hMq, len_rw, nw, ↓Xa, Xb, Xc, ↓reduceIte, Nat.reduceLT, Nat.reduceEqDiff, Nat.reduceBEq, Nat.reduceLeDiff, Nat.reduceAdd, Nat.reduceMul]
      refine ⟨by rw [IC_len, csL_len], ?_⟩
      refine (ld_IC (by rw [IC_len, csL_len]) (by rw [csL_len]; exact hij)).2 ?_
      rw [cs_at hij]
      simp (disch := first | assumption | (apply Ap.symm; assumption) | omega | decide | (simp only [Xd] <;> omega)) only [a1, a1', a2, a2', a21, a21.symm, hMq, cells_IntA, fold_IntA, ↓Xa, Xb, Xc, ↓reduceIte, Nat.reduceLT, Nat.reduceEqDiff, Nat.reduceBEq, Nat.reduceLeDiff, Nat.reduceAdd, Nat.reduceMul]
      have hbz := bd_of (hb.1 _ (List.getElem_mem hi)) hb.2.2.2.1
      have hbw := bd_of (hb.2.1 _ (List.getElem_mem hj)) hb.2.2.2.2
      refine PFn.dcall (muli_fn hbz (by omega) hbw (by omega)) ?_
      simp (disch := first | assumption | (apply Ap.symm; assumption) | omega | decide | (simp only [Xd] <;> omega)) only [↓Xa, Xb, Xc, ↓reduceIte, Nat.reduceLT, Nat.reduceEqDiff, Nat.reduceBEq, Nat.reduceLeDiff, Nat.reduceAdd, Nat.reduceMul]
      have hbm := hb.mul (m := j) hi
      rw [co_get hi, co_get hj] at hbm
      refine PFn.dcall (addi_fn hb.part (by omega) hbm (by omega)) ?_
      simp (disch := first | assumption | (apply Ap.symm; assumption) | omega | decide | (simp only [Xd] <;> omega)) only [↓Xa, Xb, Xc, ↓reduceIte, Nat.reduceLT, Nat.reduceEqDiff, Nat.reduceBEq, Nat.reduceLeDiff, Nat.reduceAdd, Nat.reduceMul]
      have hcl : (IC (csL zs ws N i j)).length = N * 2 := by rw [IC_len, csL_len]
      refine ⟨hcl, ?_⟩
      have hib : (i + j) * 2 + 2 ≤ N * 2 := by omega
      simp (disch := first | assumption | (apply Ap.symm; assumption) | omega | decide | (simp only [Xd] <;> omega)) only [cells_IntA, stP_row, hcl, hib, List.length_cons, List.length_nil, ↓Xa, Xb, Xc, ↓reduceIte, Nat.reduceLT, Nat.reduceEqDiff, Nat.reduceBEq, Nat.reduceLeDiff, Nat.reduceAdd, Nat.reduceMul]
      have es : splice (IC (csL zs ws N i j)) ((i + j) * 2) [IntB (mf (zs.take i) (co ws) (i + j) + zs[i] * ws[j]), IntD (mf (zs.take i) (co ws) (i + j) + zs[i] * ws[j])] = IC (csL zs ws N i (j + 1)) := by
        have h := IC_set (v := mf (zs.take i) (co ws) (i + j) + zs[i] * ws[j]) (show i + j < (csL zs ws N i j).length by rw [csL_len]; exact hij)
        have h2 := csL_step (a := zs) (b := ws) hij
        rw [co_get hi, co_get hj] at h2
        rw [h2] at h
        exact h
      have hil : i * ws.length ≤ 10000 * 10000 := Nat.mul_le_mul (by omega) lw
      rw [wn_i64 (by omega)]
      refine Settle.now ⟨(j + 1, M.upd q2 (some (.row 28 0 [IntB (ws[j]), IntD (ws[j])]))), by dsimp only; omega, ⟨by dsimp only; omega, hM.updB (hM.none n2), by dsimp only; rw [upd_otherA a2']; exact hMb, by dsimp only; rw [upd_otherA a21.symm]; exact hMq⟩, ?_⟩
      dsimp only
      rw [← es]; rfl
theorem pmul_fn {zs ws : List Int} {t t' : Bool} {k X Y : Nat} (hb : PB k X Y zs ws) (hk : k ≤ 1000000) (lz : zs.length ≤ 10000) (lw : ws.length ≤ 10000) : PFn Tryd.prog 71 [RowA zs t, RowA ws t'] (.tup [RowA (mulP zs ws) false, .int .i64 ((zs.length * ws.length : Nat) : Int)]) := by
  intro H Q hq
  have nz : zs.length < 9223372036854775808 := by omega
  have nw : ws.length < 9223372036854775808 := by omega
  by_cases hz0 : zs.length = 0
  · have e : mulP zs ws = [] := by unfold mulP; rw [if_pos (.inl hz0)]
    have e2 : zs.length * ws.length = 0 := by rw [hz0, Nat.zero_mul]
    rw [e, e2] at hq
    refine enter71 (by simp) ?_
    simp (disch := first | assumption | (apply Ap.symm; assumption) | omega | decide | (simp only [Xd] <;> omega)) only [ac71, len_rw, nz, nw, hz0, rs71, ↓Xa, Xb, Xc, ↓reduceIte, Nat.reduceLT, Nat.reduceEqDiff, Nat.reduceBEq, Nat.reduceLeDiff, Nat.reduceAdd, Nat.reduceMul]
    exact SetR.loose (SetR.now hq)
  by_cases hw0 : ws.length = 0
  · have e : mulP zs ws = [] := by unfold mulP; rw [if_pos (.inr hw0)]
    have e2 : zs.length * ws.length = 0 := by rw [hw0, Nat.mul_zero]
    rw [e, e2] at hq
    refine enter71 (by simp) ?_
    simp (disch := first | assumption | (apply Ap.symm; assumption) | omega | decide | (simp only [Xd] <;> omega)) only [ac71, len_rw, nz, nw, hz0, hw0, rs71, ↓Xa, Xb, Xc, ↓reduceIte, Nat.reduceLT, Nat.reduceEqDiff, Nat.reduceBEq, Nat.reduceLeDiff, Nat.reduceAdd, Nat.reduceMul]
    exact SetR.loose (SetR.now hq)
  refine Run.settle (mul20_run hb hk lz lw hz0 hw0 fun b hb0 => ?_)
  refine SetR.frz b (upd_same _ _ _) (SetR.loose ?_)
  rw [upd_upd, upd_back _ hb0]
  have hl : (IC (mulP zs ws)).length = (zs.length + ws.length - 1) * 2 := by rw [IC_len, mulP_len hz0 hw0]
  have e : loose (frz b 2 (IC (mulP zs ws)) (.tup [.own b ((zs.length + ws.length - 1) * 2) 0 (zs.length + ws.length - 1) true, .int .i64 ((zs.length * ws.length : Nat) : Int)])) = .tup [RowA (mulP zs ws) false, .int .i64 ((zs.length * ws.length : Nat) : Int)] := by
    simp [loose, loose2, loose1, frz, frz2, frz1, hl, mulP_len hz0 hw0, List.take_of_length_le]
  rw [e]
  exact SetR.now hq
end Go.Proofs.YtanchgkiomfhhaaDoor.Fw

/- Polynomials: they are multiplied. -/
namespace Go.Proofs.YtanchgkiomfhhaaDoor.Fw
set_option linter.unusedSimpArgs false
set_option linter.unusedVariables false
open Go Go.Proofs.YtanchgkiomfhhaaDoor.Ma
set_option maxRecDepth 20000

theorem iText_of {l : List UInt8} {n : Nat} (h : Ma.Good l) (e : decV l = n) : iText (n : Int) = l := by
  have := decT_decV h
  rw [e] at this
  unfold iText
  rw [if_neg (by omega)]
  exact this
theorem mul_known : mulP [1, 2] [3, 4, 5] = [3, 10, 13, 10] := by decide
theorem text_known : rowT [3, 10, 13, 10] = [91, 51, 32, 49, 48, 32, 49, 51, 32, 49, 48, 93] := by
  have e3 : iText 3 = [51] := iText_of (l := [51]) (n := 3) ⟨by simp, by simp [isDig], by simp⟩ rfl
  have e10 : iText 10 = [49, 48] := iText_of (l := [49, 48]) (n := 10) ⟨by simp, by simp [isDig], by simp⟩ rfl
  have e13 : iText 13 = [49, 51] := iText_of (l := [49, 51]) (n := 13) ⟨by simp, by simp [isDig], by simp⟩ rfl
  simp [rowT, joinT, e3, e10, e13]
theorem smallL {l : List Int} (h : ∀ n, n ∈ l → n.natAbs ≤ 1000) : Small l := fun n hn => by have := h n hn; omega
theorem RB4.small {l : List Int} (h : ∀ n, n ∈ l → n.natAbs ≤ 1000) (hl : l.length ≤ 1000000) : RB4 1 l := ⟨fun n hn => by have := h n hn; unfold Bd; omega, by omega⟩
theorem works20_fn : PFn Tryd.prog 23 [] (.bool true) := by
  intro H Q hq
  have l1 := list_fn (l := [1, 2]) (t := true) (smallL (by simp)) (by simp)
  have l2 := list_fn (l := [3, 4, 5]) (t := true) (smallL (by simp)) (by simp)
  have r1 := ref_fn (l := [3, 10, 13, 10]) (t := true) (smallL (by simp)) (by simp)
  have pb : PB 1 5 5 [1, 2] [3, 4, 5] := ⟨by simp, by simp, by simp, by omega, by omega⟩
  have m1 := pmul_fn (t := false) (t' := false) pb (by omega) (by simp) (by simp)
  rw [mul_known] at m1
  have hr : RB4 1 [3, 10, 13, 10] := RB4.small (by simp) (by simp)
  have i1 := is20_fn (t := false) (t' := false) hr (by omega)
  have t1 := ptext_fn (t := false) hr (by omega) (by simp)
  rw [text_known] at t1
  have d1 := deg_fn (t := false) hr (by omega) (by simp)
  rw [show degN [3, 10, 13, 10] = 4 by decide, show dn 4 = ((3 : Nat) : Int) from rfl] at d1
  have a1 : PFn Tryd.prog 25 [.seq 2 [.int .i64 ((1 : Nat) : Int), .int .i64 ((2 : Nat) : Int)] true] (ExtI [1, 2]) := l1
  have a2 : PFn Tryd.prog 25 [.seq 3 [.int .i64 ((3 : Nat) : Int), .int .i64 ((4 : Nat) : Int), .int .i64 ((5 : Nat) : Int)] true] (ExtI [3, 4, 5]) := l2
  have a3 : PFn Tryd.prog 31 [.seq 4 [.int .i64 ((3 : Nat) : Int), .int .i64 ((10 : Nat) : Int), .int .i64 ((13 : Nat) : Int), .int .i64 ((10 : Nat) : Int)] true] (RefR [3, 10, 13, 10] false) := r1
  have s2 : AV.str ⟨#[91, 51, 32, 49, 48, 32, 49, 51, 32, 49, 48, 93]⟩ = Sx [91, 51, 32, 49, 48, 32, 49, 51, 32, 49, 48, 93] := rfl
  refine enter23 (by simp) ?_
  simp (disch := first | assumption | (apply Ap.symm; assumption) | omega | decide | (simp only [Xd] <;> omega)) only [ac23, ↓Xa, Xb, Xc, ↓reduceIte, Nat.reduceLT, Nat.reduceEqDiff, Nat.reduceBEq, Nat.reduceLeDiff, Nat.reduceAdd, Nat.reduceMul]
  refine a1.call ?_
  simp (disch := first | assumption | (apply Ap.symm; assumption) | omega | decide | (simp only [Xd] <;> omega)) only [↓Xa, Xb, Xc, ↓reduceIte, Nat.reduceLT, Nat.reduceEqDiff, Nat.reduceBEq, Nat.reduceLeDiff, Nat.reduceAdd, Nat.reduceMul]
  refine a2.call ?_
  simp (disch := first | assumption | (apply Ap.symm; assumption) | omega | decide | (simp only [Xd] <;> omega)) only [↓Xa, Xb, Xc, ↓reduceIte, Nat.reduceLT, Nat.reduceEqDiff, Nat.reduceBEq, Nat.reduceLeDiff, Nat.reduceAdd, Nat.reduceMul]
  refine (m1.wk (.cons Wk.I (.cons Wk.I .nil))).call ?_
  simp (disch := first | assumption | (apply Ap.symm; assumption) | omega | decide | (simp only [Xd] <;> omega)) only [↓Xa, Xb, Xc, ↓reduceIte, Nat.reduceLT, Nat.reduceEqDiff, Nat.reduceBEq, Nat.reduceLeDiff, Nat.reduceAdd, Nat.reduceMul]
  refine a3.call ?_
  simp (disch := first | assumption | (apply Ap.symm; assumption) | omega | decide | (simp only [Xd] <;> omega)) only [↓Xa, Xb, Xc, ↓reduceIte, Nat.reduceLT, Nat.reduceEqDiff, Nat.reduceBEq, Nat.reduceLeDiff, Nat.reduceAdd, Nat.reduceMul]
  refine i1.call ?_
  simp (disch := first | assumption | (apply Ap.symm; assumption) | omega | decide | (simp only [Xd] <;> omega)) only [↓Xa, Xb, Xc, ↓reduceIte, Nat.reduceLT, Nat.reduceEqDiff, Nat.reduceBEq, Nat.reduceLeDiff, Nat.reduceAdd, Nat.reduceMul]
  refine t1.call ?_
  simp (disch := first | assumption | (apply Ap.symm; assumption) | omega | decide | (simp only [Xd] <;> omega)) only [eql_Sx, s2, ↓Xa, Xb, Xc, ↓reduceIte, Nat.reduceLT, Nat.reduceEqDiff, Nat.reduceBEq, Nat.reduceLeDiff, Nat.reduceAdd, Nat.reduceMul]
  refine d1.call ?_
  simp (disch := first | assumption | (apply Ap.symm; assumption) | omega | decide | (simp only [Xd] <;> omega)) only [eql_int, rs23, ↓Xa, Xb, Xc, ↓reduceIte, Nat.reduceLT, Nat.reduceEqDiff, Nat.reduceBEq, Nat.reduceLeDiff, Nat.reduceAdd, Nat.reduceMul]
  exact SetR.now hq
end Go.Proofs.YtanchgkiomfhhaaDoor.Fw

/- Polynomials: something done at each place of the longer one. -/
namespace Go.Proofs.YtanchgkiomfhhaaDoor.Fw
set_option linter.unusedSimpArgs false
set_option linter.unusedVariables false
open Go Go.Proofs.YtanchgkiomfhhaaDoor.Ma
set_option maxRecDepth 20000

theorem IntB_0 : IntB 0 = .bool false := rfl
theorem IntD_0 : IntD 0 = .seq 0 [] true := by simp [IntD, Ma.digs_zero, LS, U]
theorem placed_run {zs ws : List Int} {t t' : Bool} {g : AV} {f : Int → Int → Int} (nz : zs.length ≤ 1000000) (nw : ws.length ≤ 1000000) {H : AHeap} {Q : AV → AHeap → Prop}
    (hcall : ∀ i, i < Nat.max zs.length ws.length → ∀ (M : AHeap) (K : AV → AHeap → Prop), Le H M → K (IntA (f (co zs i) (co ws i))) M → callW Tryd.prog g [IntA (co zs i), IntA (co ws i)] M K)
    (hq : ∀ y M, growC H 28 2 (Nat.max zs.length ws.length) (IC (longP f zs ws)) y M → Q y M) : Run Tryd.prog 153 [RowA zs t, RowA ws t', g] H Q := by
  have nz' : zs.length < 9223372036854775808 := by omega
  have nw' : ws.length < 9223372036854775808 := by omega
  obtain ⟨N, hN⟩ : ∃ N, N = Nat.max zs.length ws.length := ⟨_, rfl⟩
  rw [← hN] at hcall hq
  have hNz : zs.length ≤ N := by rw [hN]; exact Nat.le_max_left _ _
  have hNw : ws.length ≤ N := by rw [hN]; exact Nat.le_max_right _ _
  have hNe : N = zs.length ∨ N = ws.length := by
    have : N = max zs.length ws.length := hN
    omega
  have hmx : ∀ K : AV → Prop, maxW true (.int .i64 (zs.length : Int)) (.int .i64 (ws.length : Int)) K ↔ K (.int .i64 ((N : Nat) : Int)) := fun K => by
    simp only [maxW, true_and, if_true]
    rw [show (if (ws.length : Int) > (zs.length : Int) then (ws.length : Int) else (zs.length : Int)) = ((N : Nat) : Int) by split <;> omega]
  refine enter153 (by simp) ?_
  simp (disch := first | assumption | (apply Ap.symm; assumption) | omega | decide | (simp only [Xd] <;> omega)) only [ac153, len_rw, nz', nw', hmx, ↓Xa, Xb, Xc, ↓reduceIte, Nat.reduceLT, Nat.reduceEqDiff, Nat.reduceBEq, Nat.reduceLeDiff, Nat.reduceAdd, Nat.reduceMul]
  refine W_loop (fun s : Nat × AV × AHeap × AHeap => ⟨[], [(0, RowA zs t), (1, RowA ws t'), (2, g), (7, s.2.1), (15, .int .i64 (N : Int)), (16, .int .i64 s.1)], s.2.2.2⟩)
    (fun s => s.1 ≤ N ∧ Le H s.2.2.1 ∧ growC s.2.2.1 28 2 s.1 (IC ((longP f zs ws).take s.1)) s.2.1 s.2.2.2) (fun s => N - s.1) (0, .seq 0 [] true, H, H) (Settle.now rfl) ⟨Nat.zero_le _, Le.refl H, growC_nil⟩ ?_
  have hlen : (longP f zs ws).length = N := by rw [longP_len, hN]
  rintro ⟨i, y, G, M⟩ ⟨h1, hG, hg⟩
  dsimp only at h1 hG hg ⊢
  by_cases hi : i < N
  rotate_left
  · obtain rfl : i = N := by omega
    simp (disch := first | assumption | (apply Ap.symm; assumption) | omega | decide | (simp only [Xd] <;> omega)) only [hi, ↓Xa, Xb, Xc, ↓reduceIte, Nat.reduceLT, Nat.reduceEqDiff, Nat.reduceBEq, Nat.reduceLeDiff, Nat.reduceAdd, Nat.reduceMul]
    refine Settle.now ?_
    rw [List.take_of_length_le (by omega)] at hg
    obtain ⟨M2, hg2, hle⟩ := growC_le2 hg hG
    simp (disch := first | assumption | (apply Ap.symm; assumption) | omega | decide | (simp only [Xd] <;> omega)) only [rs153, ↓Xa, Xb, Xc, ↓reduceIte, Nat.reduceLT, Nat.reduceEqDiff, Nat.reduceBEq, Nat.reduceLeDiff, Nat.reduceAdd, Nat.reduceMul]
    exact SetR.dropTo hle (SetR.now (hq y M2 hg2))
  · simp (disch := first | assumption | (apply Ap.symm; assumption) | omega | decide | (simp only [Xd] <;> omega)) only [hi, ↓Xa, Xb, Xc, ↓reduceIte, Nat.reduceLT, Nat.reduceEqDiff, Nat.reduceBEq, Nat.reduceLeDiff, Nat.reduceAdd, Nat.reduceMul]
    refine alloc_i fun q1 hq1 => ?_
    have hg1 := growC_upd (r := .row 28 0 [IntB (co zs i), IntD (co zs i)]) hg hq1
    simp (disch := first | assumption | (apply Ap.symm; assumption) | omega | decide | (simp only [Xd] <;> omega)) only [↓Xa, Xb, Xc, ↓reduceIte, Nat.reduceLT, Nat.reduceEqDiff, Nat.reduceBEq, Nat.reduceLeDiff, Nat.reduceAdd, Nat.reduceMul]
    refine alloc_i fun q2 hq2 => ?_
    obtain ⟨a21, n2⟩ := upd_none.1 hq2
    have a12 := a21.symm
    have hq2' : (M.upd q1 (some (.row 28 0 [IntB (co zs i), IntD (co zs i)]))) q2 = none := upd_none.2 ⟨a21, n2⟩
    have hg2 := growC_upd (r := .row 28 0 [IntB (co ws i), IntD (co ws i)]) hg1 hq2'
    have hGM : Le G M := growC_le hg
    have hG2 : Le H ((G.upd q1 (some (.row 28 0 [IntB (co zs i), IntD (co zs i)]))).upd q2 (some (.row 28 0 [IntB (co ws i), IntD (co ws i)]))) := (hG.updB (hG.none (hGM.none hq1))).updB (hG.none (hGM.none n2))
    have hM2 := hG2.trans (growC_le hg2)
    have fin : ∀ (K : AV → AHeap → Prop), (∀ y' M', growC ((G.upd q1 (some (.row 28 0 [IntB (co zs i), IntD (co zs i)]))).upd q2 (some (.row 28 0 [IntB (co ws i), IntD (co ws i)]))) 28 2 (i + 1) (IC ((longP f zs ws).take (i + 1))) y' M' → K y' M') →
        appV ((M.upd q1 (some (.row 28 0 [IntB (co zs i), IntD (co zs i)]))).upd q2 (some (.row 28 0 [IntB (co ws i), IntD (co ws i)]))) 28 2 32 y (.seq 1 [IntB (f (co zs i) (co ws i)), IntD (f (co zs i) (co ws i))] true) K := fun K hK => by
      refine app_C (m := 1) hg2 rfl cellI (by omega) (by omega) (by omega) fun y' M' hg' => hK y' M' ?_
      rw [IC_take (by omega), show (longP f zs ws)[i]'(by omega) = f (co zs i) (co ws i) by simp [longP]]
      exact hg'
    have hc := hcall i hi
    by_cases hz : i < zs.length
    · have ez := co_get hz
      by_cases hw : i < ws.length
      · have ew := co_get hw
        simp (disch := first | assumption | (apply Ap.symm; assumption) | omega | decide | (simp only [Xd] <;> omega)) only [hz, hw, len_rw, nz', nw', idx_IC, load_IC, ← ez, ← ew, cells_IntA, a21, a12, fold_IntA, ↓Xa, Xb, Xc, ↓reduceIte, Nat.reduceLT, Nat.reduceEqDiff, Nat.reduceBEq, Nat.reduceLeDiff, Nat.reduceAdd, Nat.reduceMul]
        refine hc _ _ hM2 ?_
        simp (disch := first | assumption | (apply Ap.symm; assumption) | omega | decide | (simp only [Xd] <;> omega)) only [repI1, cells_IntA, ↓Xa, Xb, Xc, ↓reduceIte, Nat.reduceLT, Nat.reduceEqDiff, Nat.reduceBEq, Nat.reduceLeDiff, Nat.reduceAdd, Nat.reduceMul]
        refine fin _ fun y' M' hg' => ?_
        simp (disch := first | assumption | (apply Ap.symm; assumption) | omega | decide | (simp only [Xd] <;> omega)) only [↓Xa, Xb, Xc, ↓reduceIte, Nat.reduceLT, Nat.reduceEqDiff, Nat.reduceBEq, Nat.reduceLeDiff, Nat.reduceAdd, Nat.reduceMul]
        exact Settle.now ⟨(i + 1, y', _, M'), by dsimp only; omega, ⟨by dsimp only; omega, hG2, hg'⟩, rfl⟩
      · have ew : co ws i = 0 := co_ge (by omega)
        rw [ew] at hc
        simp only [ew, IntB_0, IntD_0] at hM2 fin hG2
        simp (disch := first | assumption | (apply Ap.symm; assumption) | omega | decide | (simp only [Xd] <;> omega)) only [hz, hw, len_rw, nz', nw', idx_IC, load_IC, ← ez, IntA_0, cells_IntA, a21, a12, fold_IntA, ↓Xa, Xb, Xc, ↓reduceIte, Nat.reduceLT, Nat.reduceEqDiff, Nat.reduceBEq, Nat.reduceLeDiff, Nat.reduceAdd, Nat.reduceMul]
        refine hc _ _ hM2 ?_
        simp (disch := first | assumption | (apply Ap.symm; assumption) | omega | decide | (simp only [Xd] <;> omega)) only [repI1, cells_IntA, ↓Xa, Xb, Xc, ↓reduceIte, Nat.reduceLT, Nat.reduceEqDiff, Nat.reduceBEq, Nat.reduceLeDiff, Nat.reduceAdd, Nat.reduceMul]
        refine fin _ fun y' M' hg' => ?_
        simp (disch := first | assumption | (apply Ap.symm; assumption) | omega | decide | (simp only [Xd] <;> omega)) only [↓Xa, Xb, Xc, ↓reduceIte, Nat.reduceLT, Nat.reduceEqDiff, Nat.reduceBEq, Nat.reduceLeDiff, Nat.reduceAdd, Nat.reduceMul]
        exact Settle.now ⟨(i + 1, y', _, M'), by dsimp only; omega, ⟨by dsimp only; omega, hG2, hg'⟩, rfl⟩
    · have hw : i < ws.length := by omega
      have ew := co_get hw
      have ez : co zs i = 0 := co_ge (by omega)
      rw [ez] at hc
      simp only [ez, IntB_0, IntD_0] at hM2 fin hG2
      simp (disch := first | assumption | (apply Ap.symm; assumption) | omega | decide | (simp only [Xd] <;> omega)) only [hz, hw, len_rw, nz', nw', idx_IC, load_IC, ← ew, IntA_0, cells_IntA, a21, a12, fold_IntA, ↓Xa, Xb, Xc, ↓reduceIte, Nat.reduceLT, Nat.reduceEqDiff, Nat.reduceBEq, Nat.reduceLeDiff, Nat.reduceAdd, Nat.reduceMul]
      refine hc _ _ hM2 ?_
      simp (disch := first | assumption | (apply Ap.symm; assumption) | omega | decide | (simp only [Xd] <;> omega)) only [repI1, cells_IntA, ↓Xa, Xb, Xc, ↓reduceIte, Nat.reduceLT, Nat.reduceEqDiff, Nat.reduceBEq, Nat.reduceLeDiff, Nat.reduceAdd, Nat.reduceMul]
      refine fin _ fun y' M' hg' => ?_
      simp (disch := first | assumption | (apply Ap.symm; assumption) | omega | decide | (simp only [Xd] <;> omega)) only [↓Xa, Xb, Xc, ↓reduceIte, Nat.reduceLT, Nat.reduceEqDiff, Nat.reduceBEq, Nat.reduceLeDiff, Nat.reduceAdd, Nat.reduceMul]
      exact Settle.now ⟨(i + 1, y', _, M'), by dsimp only; omega, ⟨by dsimp only; omega, hG2, hg'⟩, rfl⟩
end Go.Proofs.YtanchgkiomfhhaaDoor.Fw

/- Polynomials added, subtracted, scaled; bounds. -/
namespace Go.Proofs.YtanchgkiomfhhaaDoor.Fw
set_option linter.unusedSimpArgs false
set_option linter.unusedVariables false
open Go Go.Proofs.YtanchgkiomfhhaaDoor.Ma
set_option maxRecDepth 20000

def NB (X n : Nat) (zs : List Int) : Prop := (∀ z, z ∈ zs → z.natAbs ≤ X) ∧ zs.length ≤ n
theorem NB.co {X n : Nat} {zs : List Int} (h : NB X n zs) (i : Nat) : (co zs i).natAbs ≤ X := co_bound h.1 i
theorem NB.rb {X n k : Nat} {zs : List Int} (h : NB X n zs) (hX : X < 4294967296 ^ k) (hn : n ≤ 1000000) : RB4 k zs := ⟨fun z hz => bd_of (h.1 z hz) hX, by have := h.2; omega⟩
theorem NB.long {X Y Z n m : Nat} {f : Int → Int → Int} {zs ws : List Int} (hz : NB X n zs) (hw : NB Y m ws) (hf : ∀ x y : Int, x.natAbs ≤ X → y.natAbs ≤ Y → (f x y).natAbs ≤ Z) : NB Z (Nat.max n m) (longP f zs ws) := by
  refine ⟨fun z h => ?_, ?_⟩
  · obtain ⟨i, _, rfl⟩ := List.mem_map.1 h
    exact hf _ _ (hz.co i) (hw.co i)
  · rw [longP_len]
    have h1 := hz.2
    have h2 := hw.2
    have e1 : Nat.max zs.length ws.length = max zs.length ws.length := rfl
    have e2 : Nat.max n m = max n m := rfl
    omega
theorem NB.add {X Y n m : Nat} {zs ws : List Int} (hz : NB X n zs) (hw : NB Y m ws) : NB (X + Y) (Nat.max n m) (addP zs ws) := hz.long hw fun x y h1 h2 => by have := Int.natAbs_add_le x y; omega
theorem NB.sub {X Y n m : Nat} {zs ws : List Int} (hz : NB X n zs) (hw : NB Y m ws) : NB (X + Y) (Nat.max n m) (subP zs ws) := hz.long hw fun x y h1 h2 => by have := Int.natAbs_sub_le x y; omega
theorem NB.mul {X Y n m : Nat} {zs ws : List Int} (hz : NB X n zs) (hw : NB Y m ws) : NB (n * (X * Y)) (n + m) (mulP zs ws) := by
  refine ⟨fun z h => ?_, Nat.le_trans (mulP_le zs ws) (Nat.add_le_add hz.2 hw.2)⟩
  obtain ⟨i, hi, rfl⟩ := List.getElem_of_mem h
  rw [← co_get hi, co_mul]
  exact Nat.le_trans (mf_bound (co_bound hw.1) zs i hz.1) (Nat.mul_le_mul_right _ hz.2)
theorem NB.pb {X Y n m k : Nat} {zs ws : List Int} (hz : NB X n zs) (hw : NB Y m ws) (h1 : n * (X * Y) < 4294967296 ^ k) (h2 : X < 4294967296 ^ k) (h3 : Y < 4294967296 ^ k) : PB k X Y zs ws :=
  ⟨hz.1, hw.1, Nat.lt_of_le_of_lt (Nat.mul_le_mul_right _ hz.2) h1, h2, h3⟩
theorem NB.le {X Y n m : Nat} {zs : List Int} (h : NB X n zs) (hX : X ≤ Y) (hn : n ≤ m) : NB Y m zs := ⟨fun z hz => Nat.le_trans (h.1 z hz) hX, Nat.le_trans h.2 hn⟩
section
variable {zs ws : List Int} {x y : AV} {t t' : Bool} {k X Y n m : Nat}
theorem padd_fn (hz : NB X n zs) (hw : NB Y m ws) (hX : X < 4294967296 ^ k) (hY : Y < 4294967296 ^ k) (hn : n ≤ 1000000) (hm : m ≤ 1000000) (hk : k ≤ 1000000) (wx : Wk x (RowA zs t)) (wy : Wk y (RowA ws t')) : PFn Tryd.prog 67 [x, y] (RowA (addP zs ws) false) := by
  refine PFn.wk ?_ (.cons wx (.cons wy .nil))
  have h := PFn.frozen (P := Tryd.prog) (f := 67) (args := [RowA zs t, RowA ws t']) (ty := 28) (es := 2) (n := Nat.max zs.length ws.length) (cells := IC (addP zs ws)) fun H Q hq => ?_
  · rw [← longP_len (f := (· + ·))] at h; exact h
  refine enter67 (by simp) ?_
  simp (disch := first | assumption | (apply Ap.symm; assumption) | omega | decide | (simp only [Xd] <;> omega)) only [ac67, ↓Xa, Xb, Xc, ↓reduceIte, Nat.reduceLT, Nat.reduceEqDiff, Nat.reduceBEq, Nat.reduceLeDiff, Nat.reduceAdd, Nat.reduceMul]
  refine run_call (placed_run (f := (· + ·)) (Nat.le_trans hz.2 hn) (Nat.le_trans hw.2 hm) (fun i hi M K hM hK => ?_) fun y' M hg => ?_)
  · exact (addi_fn (bd_of (hz.co i) hX) (by omega) (bd_of (hw.co i) hY) (by omega)).call hK
  · simp (disch := first | assumption | (apply Ap.symm; assumption) | omega | decide | (simp only [Xd] <;> omega)) only [rs67, ↓Xa, Xb, Xc, ↓reduceIte, Nat.reduceLT, Nat.reduceEqDiff, Nat.reduceBEq, Nat.reduceLeDiff, Nat.reduceAdd, Nat.reduceMul]
    exact SetR.now (hq y' M hg)
theorem psub_fn (hz : NB X n zs) (hw : NB Y m ws) (hX : X < 4294967296 ^ k) (hY : Y < 4294967296 ^ k) (hn : n ≤ 1000000) (hm : m ≤ 1000000) (hk : k ≤ 1000000) (wx : Wk x (RowA zs t)) (wy : Wk y (RowA ws t')) : PFn Tryd.prog 69 [x, y] (RowA (subP zs ws) false) := by
  refine PFn.wk ?_ (.cons wx (.cons wy .nil))
  have h := PFn.frozen (P := Tryd.prog) (f := 69) (args := [RowA zs t, RowA ws t']) (ty := 28) (es := 2) (n := Nat.max zs.length ws.length) (cells := IC (subP zs ws)) fun H Q hq => ?_
  · rw [← longP_len (f := (· - ·))] at h; exact h
  refine enter69 (by simp) ?_
  simp (disch := first | assumption | (apply Ap.symm; assumption) | omega | decide | (simp only [Xd] <;> omega)) only [ac69, ↓Xa, Xb, Xc, ↓reduceIte, Nat.reduceLT, Nat.reduceEqDiff, Nat.reduceBEq, Nat.reduceLeDiff, Nat.reduceAdd, Nat.reduceMul]
  refine run_call (placed_run (f := (· - ·)) (Nat.le_trans hz.2 hn) (Nat.le_trans hw.2 hm) (fun i hi M K hM hK => ?_) fun y' M hg => ?_)
  · exact (subi_fn (bd_of (hz.co i) hX) (by omega) (bd_of (hw.co i) hY) (by omega)).call hK
  · simp (disch := first | assumption | (apply Ap.symm; assumption) | omega | decide | (simp only [Xd] <;> omega)) only [rs69, ↓Xa, Xb, Xc, ↓reduceIte, Nat.reduceLT, Nat.reduceEqDiff, Nat.reduceBEq, Nat.reduceLeDiff, Nat.reduceAdd, Nat.reduceMul]
    exact SetR.now (hq y' M hg)
theorem pmul_w (hz : NB X n zs) (hw : NB Y m ws) (h1 : n * (X * Y) < 4294967296 ^ k) (h2 : X < 4294967296 ^ k) (h3 : Y < 4294967296 ^ k) (hn : n ≤ 10000) (hm : m ≤ 10000) (hk : k ≤ 1000000) (wx : Wk x (RowA zs t)) (wy : Wk y (RowA ws t')) : PFn Tryd.prog 71 [x, y] (.tup [RowA (mulP zs ws) false, .int .i64 ((zs.length * ws.length : Nat) : Int)]) :=
  (pmul_fn (hz.pb hw h1 h2 h3) hk (Nat.le_trans hz.2 hn) (Nat.le_trans hw.2 hm)).wk (.cons wx (.cons wy .nil))
theorem psame_w (hz : NB X n zs) (hw : NB Y m ws) (hX : X < 4294967296 ^ k) (hY : Y < 4294967296 ^ k) (hn : n ≤ 1000000) (hm : m ≤ 1000000) (hk : k ≤ 1000000) (wx : Wk x (RowA zs t)) (wy : Wk y (RowA ws t')) : PFn Tryd.prog 66 [x, y] (.bool (decide (trimP zs = trimP ws))) :=
  (psame_fn (hz.rb hX hn) (hw.rb hY hm) hk (Nat.le_trans hz.2 hn) (Nat.le_trans hw.2 hm)).wk (.cons wx (.cons wy .nil))
theorem deg_w (hz : NB X n zs) (hX : X < 4294967296 ^ k) (hn : n ≤ 1000000) (hk : k ≤ 1000000) (wx : Wk x (RowA zs t)) : PFn Tryd.prog 70 [x] (.int .i64 (dn (degN zs))) :=
  (deg_fn (hz.rb hX hn) hk (Nat.le_trans hz.2 hn)).wk (.cons wx .nil)
end
end Go.Proofs.YtanchgkiomfhhaaDoor.Fw

/- Polynomials: their values at points. -/
namespace Go.Proofs.YtanchgkiomfhhaaDoor.Fw
set_option linter.unusedSimpArgs false
set_option linter.unusedVariables false
open Go Go.Proofs.YtanchgkiomfhhaaDoor.Ma
set_option maxRecDepth 20000

def PtA (A B : Int) : AV := .agg [.int .i64 A, .int .i64 B]
theorem cells_PtA {A B : Int} : (PtA A B).cells = some [.int .i64 A, .int .i64 B] := rfl
def inP (A B : Int) : Bool := decide (-16 ≤ A ∧ A ≤ 16 ∧ -16 ≤ B ∧ B ≤ 16)
theorem leq_int' {k : IntKind} {n m : Int} {K : AV → Prop} : binW .leq (.int k n) (.int k m) K ↔ K (.bool (decide (n ≤ m))) := by simp [binW, binInt]
theorem within_fn {n : Int} : PFn Tryd.prog 169 [.int .i64 n] (.bool (decide (-16 ≤ n ∧ n ≤ 16))) := by
  intro H Q hq
  refine enter169 (by simp) ?_
  by_cases h1 : -16 ≤ n
  · by_cases h2 : n ≤ 16
    · rw [decide_eq_true ⟨h1, h2⟩] at hq
      have e1 : decide (-16 ≤ n) = true := decide_eq_true h1
      have e2 : decide (n ≤ ((16 : Nat) : Int)) = true := decide_eq_true h2
      simp (disch := first | assumption | (apply Ap.symm; assumption) | omega | decide | (simp only [Xd] <;> omega)) only [ac169, geq_int, leq_int', e1, e2, rs169, ↓Xa, Xb, Xc, ↓reduceIte, Nat.reduceLT, Nat.reduceEqDiff, Nat.reduceBEq, Nat.reduceLeDiff, Nat.reduceAdd, Nat.reduceMul]
      exact SetR.now hq
    · rw [decide_eq_false (by omega)] at hq
      have e1 : decide (-16 ≤ n) = true := decide_eq_true h1
      have e2 : decide (n ≤ ((16 : Nat) : Int)) = false := decide_eq_false h2
      simp (disch := first | assumption | (apply Ap.symm; assumption) | omega | decide | (simp only [Xd] <;> omega)) only [ac169, geq_int, leq_int', e1, e2, rs169, ↓Xa, Xb, Xc, ↓reduceIte, Nat.reduceLT, Nat.reduceEqDiff, Nat.reduceBEq, Nat.reduceLeDiff, Nat.reduceAdd, Nat.reduceMul]
      exact SetR.now hq
  · rw [decide_eq_false (by omega)] at hq
    have e1 : decide (-16 ≤ n) = false := decide_eq_false h1
    simp (disch := first | assumption | (apply Ap.symm; assumption) | omega | decide | (simp only [Xd] <;> omega)) only [ac169, geq_int, leq_int', e1, rs169, ↓Xa, Xb, Xc, ↓reduceIte, Nat.reduceLT, Nat.reduceEqDiff, Nat.reduceBEq, Nat.reduceLeDiff, Nat.reduceAdd, Nat.reduceMul]
    exact SetR.now hq
theorem pin_fn {A B : Int} : PFn Tryd.prog 87 [PtA A B] (.bool (inP A B)) := by
  intro H Q hq
  refine enter87 (by simp) ?_
  simp (disch := first | assumption | (apply Ap.symm; assumption) | omega | decide | (simp only [Xd] <;> omega)) only [ac87, cells_PtA, ↓Xa, Xb, Xc, ↓reduceIte, Nat.reduceLT, Nat.reduceEqDiff, Nat.reduceBEq, Nat.reduceLeDiff, Nat.reduceAdd, Nat.reduceMul]
  refine alloc_i fun p1 hp1 => ?_
  have n1 := hp1
  simp (disch := first | assumption | (apply Ap.symm; assumption) | omega | decide | (simp only [Xd] <;> omega)) only [↓Xa, Xb, Xc, ↓reduceIte, Nat.reduceLT, Nat.reduceEqDiff, Nat.reduceBEq, Nat.reduceLeDiff, Nat.reduceAdd, Nat.reduceMul]
  refine within_fn.call ?_
  by_cases h1 : -16 ≤ A ∧ A ≤ 16
  · rw [decide_eq_true h1]
    simp (disch := first | assumption | (apply Ap.symm; assumption) | omega | decide | (simp only [Xd] <;> omega)) only [↓Xa, Xb, Xc, ↓reduceIte, Nat.reduceLT, Nat.reduceEqDiff, Nat.reduceBEq, Nat.reduceLeDiff, Nat.reduceAdd, Nat.reduceMul]
    refine within_fn.call ?_
    have e : decide (-16 ≤ B ∧ B ≤ 16) = inP A B := by unfold inP; congr 1; simp [h1.1, h1.2]
    rw [e]
    simp (disch := first | assumption | (apply Ap.symm; assumption) | omega | decide | (simp only [Xd] <;> omega)) only [rs87, ↓Xa, Xb, Xc, ↓reduceIte, Nat.reduceLT, Nat.reduceEqDiff, Nat.reduceBEq, Nat.reduceLeDiff, Nat.reduceAdd, Nat.reduceMul]
    exact SetR.dropTo ((Le.refl H).updB n1) (SetR.now hq)
  · rw [decide_eq_false h1]
    have e : inP A B = false := decide_eq_false (by omega)
    rw [e] at hq
    simp (disch := first | assumption | (apply Ap.symm; assumption) | omega | decide | (simp only [Xd] <;> omega)) only [rs87, ↓Xa, Xb, Xc, ↓reduceIte, Nat.reduceLT, Nat.reduceEqDiff, Nat.reduceBEq, Nat.reduceLeDiff, Nat.reduceAdd, Nat.reduceMul]
    exact SetR.dropTo ((Le.refl H).updB n1) (SetR.now hq)
theorem at_bad {zs : List Int} {t : Bool} {A B : Int} (lz : zs.length ≤ 1000000) (h : zs.length = 0 ∨ inP A B = false) : PFn Tryd.prog 24 [RowA zs t, PtA A B] (.tup [IntA 0, .int .i64 ((2 : Nat) : Int)]) := by
  intro H Q hq
  have nz : zs.length < 9223372036854775808 := by omega
  have e0 : AV.agg [.bool false, .seq 0 [] true] = IntA 0 := IntA_0
  refine enter24 (by simp) ?_
  simp (disch := first | assumption | (apply Ap.symm; assumption) | omega | decide | (simp only [Xd] <;> omega)) only [ac24, cells_PtA, ↓Xa, Xb, Xc, ↓reduceIte, Nat.reduceLT, Nat.reduceEqDiff, Nat.reduceBEq, Nat.reduceLeDiff, Nat.reduceAdd, Nat.reduceMul]
  refine alloc_i fun p1 hp1 => ?_
  have n1 := hp1
  simp (disch := first | assumption | (apply Ap.symm; assumption) | omega | decide | (simp only [Xd] <;> omega)) only [↓Xa, Xb, Xc, ↓reduceIte, Nat.reduceLT, Nat.reduceEqDiff, Nat.reduceBEq, Nat.reduceLeDiff, Nat.reduceAdd, Nat.reduceMul]
  refine alloc_i fun p2 hp2 => ?_
  have n2 := hp2
  simp only [upd_none] at n2
  obtain ⟨_, n2⟩ := n2
  by_cases h0 : zs.length = 0
  · simp (disch := first | assumption | (apply Ap.symm; assumption) | omega | decide | (simp only [Xd] <;> omega)) only [len_rw, nz, h0, ↓Xa, Xb, Xc, ↓reduceIte, Nat.reduceLT, Nat.reduceEqDiff, Nat.reduceBEq, Nat.reduceLeDiff, Nat.reduceAdd, Nat.reduceMul]
    simp (disch := first | assumption | (apply Ap.symm; assumption) | omega | decide | (simp only [Xd] <;> omega)) only [e0, cells_IntA, fold_IntA, rs24, ↓Xa, Xb, Xc, ↓reduceIte, Nat.reduceLT, Nat.reduceEqDiff, Nat.reduceBEq, Nat.reduceLeDiff, Nat.reduceAdd, Nat.reduceMul]
    exact SetR.dropTo (((Le.refl H).updB n1).updB n2) (SetR.now hq)
  · have hi := h.resolve_left h0
    simp (disch := first | assumption | (apply Ap.symm; assumption) | omega | decide | (simp only [Xd] <;> omega)) only [len_rw, nz, h0, ↓Xa, Xb, Xc, ↓reduceIte, Nat.reduceLT, Nat.reduceEqDiff, Nat.reduceBEq, Nat.reduceLeDiff, Nat.reduceAdd, Nat.reduceMul]
    refine (pin_fn (A := A) (B := B)).call ?_
    rw [hi]
    simp (disch := first | assumption | (apply Ap.symm; assumption) | omega | decide | (simp only [Xd] <;> omega)) only [e0, cells_IntA, fold_IntA, rs24, ↓Xa, Xb, Xc, ↓reduceIte, Nat.reduceLT, Nat.reduceEqDiff, Nat.reduceBEq, Nat.reduceLeDiff, Nat.reduceAdd, Nat.reduceMul]
    exact SetR.dropTo (((Le.refl H).updB n1).updB n2) (SetR.now hq)
end Go.Proofs.YtanchgkiomfhhaaDoor.Fw

/- Polynomials: their values, the program's way and the reference's. -/
namespace Go.Proofs.YtanchgkiomfhhaaDoor.Fw
set_option linter.unusedSimpArgs false
set_option linter.unusedVariables false
open Go Go.Proofs.YtanchgkiomfhhaaDoor.Ma
set_option maxRecDepth 20000

def VB (k X : Nat) (zs : List Int) : Prop := (∀ z, z ∈ zs → z.natAbs ≤ X) ∧ zs.length * X * 16 ^ zs.length < 4294967296 ^ k ∧ X < 4294967296 ^ k ∧ 16 ^ zs.length < 4294967296 ^ k
theorem inP_iff {A B : Int} (h : inP A B = true) : A.natAbs ≤ 16 ∧ B.natAbs ≤ 16 := by
  have := of_decide_eq_true h
  omega
theorem VB.val {k X s : Nat} {zs : List Int} {A B : Int} (h : VB k X zs) (hi : inP A B = true) : Bd k (homP A B (zs.drop s)) := by
  obtain ⟨hA, hB⟩ := inP_iff hi
  refine bd_of (hom_bound hA hB _ fun z hz => h.1 z (List.mem_of_mem_drop hz)) (Nat.lt_of_le_of_lt ?_ h.2.1)
  have hl : (zs.drop s).length ≤ zs.length := by simp
  exact Nat.mul_le_mul (Nat.mul_le_mul_right _ hl) (Nat.pow_le_pow_right (by omega) hl)
theorem VB.pow {k X s : Nat} {zs : List Int} {B : Int} (h : VB k X zs) (hB : B.natAbs ≤ 16) (hs : s ≤ zs.length) : Bd k (B ^ s) := by
  refine bd_of (X := 16 ^ zs.length) ?_ h.2.2.2
  rw [Int.natAbs_pow]
  exact Nat.le_trans (Nat.pow_le_pow_left hB _) (Nat.pow_le_pow_right (by omega) hs)
theorem VB.at {k X i : Nat} {zs : List Int} (h : VB k X zs) (hi : i < zs.length) : Bd k (zs[i]) := bd_of (h.1 _ (List.getElem_mem hi)) h.2.2.1
theorem bd16 {A : Int} (h : A.natAbs ≤ 16) : Bd 1 A := by unfold Bd; omega
theorem at_fn {zs : List Int} {t : Bool} {A B : Int} {k X : Nat} (hv : VB k X zs) (hk : k ≤ 400000) (lz : zs.length ≤ 1000000) (h0 : zs.length ≠ 0) (hi : inP A B = true) : PFn Tryd.prog 24 [RowA zs t, PtA A B] (.tup [IntA (homP A B zs), .int .i64 ((0 : Nat) : Int)]) := by
  intro H Q hq
  have nz : zs.length < 9223372036854775808 := by omega
  have e0 : AV.agg [.bool false, .seq 0 [] true] = IntA 0 := IntA_0
  obtain ⟨hA, hB⟩ := inP_iff hi
  have h1 : zs.length - 1 < zs.length := by omega
  have h1' : 1 ≤ zs.length := by omega
  have hdl : ∀ {K : AV → List Nat → Option (Nat × ABlk) → Prop}, dlen K false (RowA zs t) = K (.int .i64 ((zs.length : Nat) : Int)) [] none := fun {K} => by simp [dlen, nz]
  have hsub2 : ∀ K : AV → Prop, binW .sub (.int .i64 (zs.length : Int)) (.int .i64 ((2 : Nat) : Int)) K ↔ K (.int .i64 (dn (zs.length - 1))) := fun K => by
    have e : IntKind.i64.wrap ((zs.length : Int) - ((2 : Nat) : Int)) = dn (zs.length - 1) := by
      rw [wrap_i64 (by omega) (by omega)]
      cases hz : zs.length - 1 with
      | zero => simp only [dn]; omega
      | succ n => simp only [dn]; omega
    simp only [binW, binInt, e, true_and]
  refine enter24 (by simp) ?_
  simp (disch := first | assumption | (apply Ap.symm; assumption) | omega | decide | (simp only [Xd] <;> omega)) only [ac24, cells_PtA, ↓Xa, Xb, Xc, ↓reduceIte, Nat.reduceLT, Nat.reduceEqDiff, Nat.reduceBEq, Nat.reduceLeDiff, Nat.reduceAdd, Nat.reduceMul]
  refine alloc_i fun p1 hp1 => ?_
  have n1 := hp1
  simp (disch := first | assumption | (apply Ap.symm; assumption) | omega | decide | (simp only [Xd] <;> omega)) only [↓Xa, Xb, Xc, ↓reduceIte, Nat.reduceLT, Nat.reduceEqDiff, Nat.reduceBEq, Nat.reduceLeDiff, Nat.reduceAdd, Nat.reduceMul]
  refine alloc_i fun p2 hp2 => ?_
  have n2 := hp2
  simp only [upd_none] at n2
  obtain ⟨_, n2⟩ := n2
  simp (disch := first | assumption | (apply Ap.symm; assumption) | omega | decide | (simp only [Xd] <;> omega)) only [len_rw, nz, h0, ↓Xa, Xb, Xc, ↓reduceIte, Nat.reduceLT, Nat.reduceEqDiff, Nat.reduceBEq, Nat.reduceLeDiff, Nat.reduceAdd, Nat.reduceMul]
  refine (pin_fn (A := A) (B := B)).call ?_
  rw [hi]
  have a21 := (upd_none.1 hp2).1
  simp (disch := first | assumption | (apply Ap.symm; assumption) | omega | decide | (simp only [Xd] <;> omega)) only [len_rw, hdl, nz, h1, h1', idx_IC, load_IC, ↓Xa, Xb, Xc, ↓reduceIte, Nat.reduceLT, Nat.reduceEqDiff, Nat.reduceBEq, Nat.reduceLeDiff, Nat.reduceAdd, Nat.reduceMul]
  refine PFn.dcall (of_fn (n := ((1 : Nat) : Int)) (by omega)) ?_
  simp (disch := first | assumption | (apply Ap.symm; assumption) | omega | decide | (simp only [Xd] <;> omega)) only [↓Xa, Xb, Xc, ↓reduceIte, Nat.reduceLT, Nat.reduceEqDiff, Nat.reduceBEq, Nat.reduceLeDiff, Nat.reduceAdd, Nat.reduceMul]
  refine dalloc_i fun p3 hp3 => ?_
  obtain ⟨a32, hx⟩ := upd_none.1 hp3
  obtain ⟨a31, n3⟩ := upd_none.1 hx
  simp (disch := first | assumption | (apply Ap.symm; assumption) | omega | decide | (simp only [Xd] <;> omega)) only [↓Xa, Xb, Xc, ↓reduceIte, Nat.reduceLT, Nat.reduceEqDiff, Nat.reduceBEq, Nat.reduceLeDiff, Nat.reduceAdd, Nat.reduceMul]
  refine dalloc_i fun p4 hp4 => ?_
  obtain ⟨a43, hx⟩ := upd_none.1 hp4
  obtain ⟨a42, hx⟩ := upd_none.1 hx
  obtain ⟨a41, n4⟩ := upd_none.1 hx
  have b21 := a21.symm
  have b32 := a32.symm
  have b31 := a31.symm
  have b43 := a43.symm
  have b42 := a42.symm
  have b41 := a41.symm
  simp (disch := first | assumption | (apply Ap.symm; assumption) | omega | decide | (simp only [Xd] <;> omega)) only [cells_IntA, a43, b43, len_rw, nz, hsub2, ↓Xa, Xb, Xc, ↓reduceIte, Nat.reduceLT, Nat.reduceEqDiff, Nat.reduceBEq, Nat.reduceLeDiff, Nat.reduceAdd, Nat.reduceMul]
  have hstart : homP A B (zs.drop (zs.length - 1)) = zs[zs.length - 1] := by
    rw [hom_drop h1, show zs.length - (zs.length - 1 + 1) = 0 by omega, List.drop_eq_nil_of_le (by omega)]
    simp [homP]
  refine W_loop (fun s : Nat => ⟨[], [(0, RowA zs t), (3, .ptr p1 2 0), (4, .ptr p2 2 0), (6, .ptr p3 2 0), (7, .ptr p4 2 0), (8, .int .i64 (dn s))], (((H.upd p1 (some (.row 24 0 [.int .i64 A, .int .i64 B]))).upd p2 (some (.row 28 0 [.bool false, .seq 0 [] true]))).upd p3 (some (.row 28 0 [IntB (homP A B (zs.drop s)), IntD (homP A B (zs.drop s))]))).upd p4 (some (.row 28 0 [IntB (B ^ (zs.length - 1 - s)), IntD (B ^ (zs.length - 1 - s))]))⟩)
    (fun s => s ≤ zs.length - 1) (fun s => s) (zs.length - 1) (Settle.now (by rw [hstart, Nat.sub_self, Int.pow_zero]; rfl)) (Nat.le_refl _) ?_
  intro s hs
  have hle : ∀ {x1 x2 x3 x4 : Option ABlk}, Le H ((((H.upd p1 x1).upd p2 x2).upd p3 x3).upd p4 x4) := fun {x1 x2 x3 x4} => ((((Le.refl H).updB n1).updB n2).updB n3).updB n4
  cases s with
  | zero =>
    simp (disch := first | assumption | (apply Ap.symm; assumption) | omega | decide | (simp only [Xd] <;> omega)) only [dn_zero, bin_geq_neg, ↓Xa, Xb, Xc, ↓reduceIte, Nat.reduceLT, Nat.reduceEqDiff, Nat.reduceBEq, Nat.reduceLeDiff, Nat.reduceAdd, Nat.reduceMul]
    refine Settle.now ?_
    simp (disch := first | assumption | (apply Ap.symm; assumption) | omega | decide | (simp only [Xd] <;> omega)) only [a43, b43, a42, b42, a32, b32, cells_IntA, fold_IntA, rs24, ↓Xa, Xb, Xc, ↓reduceIte, Nat.reduceLT, Nat.reduceEqDiff, Nat.reduceBEq, Nat.reduceLeDiff, Nat.reduceAdd, Nat.reduceMul]
    exact SetR.dropTo hle (SetR.now hq)
  | succ s =>
    have hlt : s < zs.length := by omega
    simp (disch := first | assumption | (apply Ap.symm; assumption) | omega | decide | (simp only [Xd] <;> omega)) only [dn_succ, Nat.zero_le, a43, b43, a42, b42, a41, b41, a32, b32, a31, b31, fold_IntA, ↓Xa, Xb, Xc, ↓reduceIte, Nat.reduceLT, Nat.reduceEqDiff, Nat.reduceBEq, Nat.reduceLeDiff, Nat.reduceAdd, Nat.reduceMul]
    refine (timesi_fn (hv.pow hB (s := zs.length - 1 - (s + 1)) (by omega)) (by omega) (by omega)).call ?_
    have ep : B ^ (zs.length - 1 - (s + 1)) * B = B ^ (zs.length - 1 - s) := by
      rw [← Int.pow_succ]; congr 1; omega
    rw [ep]
    simp (disch := first | assumption | (apply Ap.symm; assumption) | omega | decide | (simp only [Xd] <;> omega)) only [dn_succ, Nat.zero_le, a43, b43, a42, b42, a41, b41, a32, b32, a31, b31, cells_IntA, fold_IntA, upd_upd, ↓Xa, Xb, Xc, ↓reduceIte, Nat.reduceLT, Nat.reduceEqDiff, Nat.reduceBEq, Nat.reduceLeDiff, Nat.reduceAdd, Nat.reduceMul]
    refine PFn.dcall (timesi_fn (hv.val (s := s + 1) hi) (by omega) (by omega)) ?_
    simp (disch := first | assumption | (apply Ap.symm; assumption) | omega | decide | (simp only [Xd] <;> omega)) only [idx_IC, load_IC, hlt, a43, b43, a42, b42, a41, b41, a32, b32, a31, b31, fold_IntA, ↓Xa, Xb, Xc, ↓reduceIte, Nat.reduceLT, Nat.reduceEqDiff, Nat.reduceBEq, Nat.reduceLeDiff, Nat.reduceAdd, Nat.reduceMul]
    refine (muli_fn (hv.at hlt) (by omega) (hv.pow hB (s := zs.length - 1 - s) (by omega)) (by omega)).call ?_
    simp (disch := first | assumption | (apply Ap.symm; assumption) | omega | decide | (simp only [Xd] <;> omega)) only [↓Xa, Xb, Xc, ↓reduceIte, Nat.reduceLT, Nat.reduceEqDiff, Nat.reduceBEq, Nat.reduceLeDiff, Nat.reduceAdd, Nat.reduceMul]
    refine (addi_fn ((hv.val (s := s + 1) hi).mul (bd16 hA)) (by omega) ((hv.at hlt).mul (hv.pow hB (s := zs.length - 1 - s) (by omega))) (by omega)).call ?_
    have ev : homP A B (zs.drop (s + 1)) * A + zs[s] * B ^ (zs.length - 1 - s) = homP A B (zs.drop s) := by
      rw [hom_drop hlt, show zs.length - (s + 1) = zs.length - 1 - s by omega, Int.mul_comm A]; omega
    rw [ev]
    simp (disch := first | assumption | (apply Ap.symm; assumption) | omega | decide | (simp only [Xd] <;> omega)) only [a43, b43, a42, b42, a41, b41, a32, b32, a31, b31, cells_IntA, fold_IntA, bin_dec, ↓Xa, Xb, Xc, ↓reduceIte, Nat.reduceLT, Nat.reduceEqDiff, Nat.reduceBEq, Nat.reduceLeDiff, Nat.reduceAdd, Nat.reduceMul]
    refine Settle.now ⟨s, by omega, by omega, ?_⟩
    rw [upd_comm _ _ _ b43]
end Go.Proofs.YtanchgkiomfhhaaDoor.Fw

/- Polynomials: the reference's values. -/
namespace Go.Proofs.YtanchgkiomfhhaaDoor.Fw
set_option linter.unusedSimpArgs false
set_option linter.unusedVariables false
open Go Go.Proofs.YtanchgkiomfhhaaDoor.Ma
set_option maxRecDepth 20000

end Go.Proofs.YtanchgkiomfhhaaDoor.Fw

/- Polynomials: the reference's trimmed, held against each other, added, scaled. -/
namespace Go.Proofs.YtanchgkiomfhhaaDoor.Fw
set_option linter.unusedSimpArgs false
set_option linter.unusedVariables false
open Go Go.Proofs.YtanchgkiomfhhaaDoor.Ma
set_option maxRecDepth 20000

theorem RC_app (a b : List Int) : RC (a ++ b) = RC a ++ RC b := by simp [RC, List.flatMap_append]
end Go.Proofs.YtanchgkiomfhhaaDoor.Fw

/- Polynomials shifted; the law of products' values: true. -/
namespace Go.Proofs.YtanchgkiomfhhaaDoor.Fw
set_option linter.unusedSimpArgs false
set_option linter.unusedVariables false
open Go Go.Proofs.YtanchgkiomfhhaaDoor.Ma
set_option maxRecDepth 20000

theorem SetR.frzC {Q : AV → AHeap → Prop} {H : AHeap} {b L n cap ty es : Nat} {cells : List AV} {k : IntKind} {e : Int} (hb : H b = some (.row ty es cells)) (hL : cells.length = L) (hn : L = cap * es) (h0 : 0 < cap)
    (h : SetR Q (.tup [.seq n (cells.take (n * es)) false, .int k e]) (H.upd b none)) : SetR Q (.tup [.ownc b L n cap, .int k e]) H :=
  SetR.join fun c v hH hok he => ⟨c.drop b, .tup [.seq n (cells.take (n * es)) false, .int k e], rfl, Ctx.drop_ok hok b, c.drop_later b, by
    cases he with
    | tup l vs hlen hc =>
      refine .tup _ vs hlen fun i hi hi' => ?_
      match i, hi with
      | 0, _ => exact (Enc.freezeC hok (hc 0 (by simp) hi') (by rw [hH]; exact hb) hL hn h0).exte_seq
      | 1, _ => exact (hc 1 (by simp) hi').later (c.drop_later b)
    , by show SetR Q _ (c.H.upd b none); rw [hH]; exact h⟩
section
variable {zs : List Int} {x : AV} {t : Bool}
theorem shift_neg {n : Int} (h : n < 0) : PFn Tryd.prog 72 [x, .int .i64 n] (.tup [.seq 0 [] true, .int .i64 ((2 : Nat) : Int)]) := by
  intro H Q hq
  have e : decide (n < ((0 : Nat) : Int)) = true := decide_eq_true h
  refine enter72 (by simp) ?_
  simp (disch := first | assumption | (apply Ap.symm; assumption) | omega | decide | (simp only [Xd] <;> omega)) only [ac72, lss_int, e, rs72, ↓Xa, Xb, Xc, ↓reduceIte, Nat.reduceLT, Nat.reduceEqDiff, Nat.reduceBEq, Nat.reduceLeDiff, Nat.reduceAdd, Nat.reduceMul]
  exact SetR.now hq
theorem shift_long {n : Int} (h : 4096 < n) : PFn Tryd.prog 72 [x, .int .i64 n] (.tup [.seq 0 [] true, .int .i64 ((3 : Nat) : Int)]) := by
  intro H Q hq
  have e : decide (n < ((0 : Nat) : Int)) = false := decide_eq_false (by omega)
  have e2 : decide (((4096 : Nat) : Int) < n) = true := decide_eq_true h
  refine enter72 (by simp) ?_
  simp (disch := first | assumption | (apply Ap.symm; assumption) | omega | decide | (simp only [Xd] <;> omega)) only [ac72, lss_int, gtr_int, e, e2, rs72, ↓Xa, Xb, Xc, ↓reduceIte, Nat.reduceLT, Nat.reduceEqDiff, Nat.reduceBEq, Nat.reduceLeDiff, Nat.reduceAdd, Nat.reduceMul]
  exact SetR.now hq
theorem shift_fn {n : Nat} (h : n ≤ 4096) (lz : zs.length ≤ 100000) (wx : Wk x (RowA zs t)) : PFn Tryd.prog 72 [x, .int .i64 (n : Int)] (.tup [RowA (shiftP n zs) false, .int .i64 ((0 : Nat) : Int)]) := by
  refine PFn.wk ?_ (.cons wx (.cons Wk.refl .nil))
  intro H Q hq
  have nz : zs.length < 9223372036854775808 := by omega
  have hl : (shiftP n zs).length = n + zs.length := by simp [shiftP]
  have e : decide ((n : Int) < ((0 : Nat) : Int)) = false := decide_eq_false (by omega)
  have e2 : decide (((4096 : Nat) : Int) < (n : Int)) = false := decide_eq_false (by omega)
  refine enter72 (by simp) ?_
  by_cases h0 : n + zs.length = 0
  · have e3 : shiftP n zs = [] := List.length_eq_zero_iff.1 (by rw [hl, h0])
    rw [e3] at hq
    simp (disch := first | assumption | (apply Ap.symm; assumption) | omega | decide | (simp only [Xd] <;> omega)) only [ac72, lss_int, gtr_int, e, e2, len_rw, nz, h0, rs72, ↓Xa, Xb, Xc, ↓reduceIte, Nat.reduceLT, Nat.reduceEqDiff, Nat.reduceBEq, Nat.reduceLeDiff, Nat.reduceAdd, Nat.reduceMul]
    exact SetR.loose (SetR.now hq)
  · have hne : decide (((n + zs.length : Nat) : Int) = ((0 : Nat) : Int)) = false := decide_eq_false (by omega)
    simp (disch := first | assumption | (apply Ap.symm; assumption) | omega | decide | (simp only [Xd] <;> omega)) only [ac72, lss_int, gtr_int, e, e2, len_rw, nz, eql_int, hne, ↓Xa, Xb, Xc, ↓reduceIte, Nat.reduceLT, Nat.reduceEqDiff, Nat.reduceBEq, Nat.reduceLeDiff, Nat.reduceAdd, Nat.reduceMul]
    have m1 : (32 : Int) * ((n + zs.length : Nat) : Int) ≤ 281474976710656 := by omega
    refine ⟨⟨by omega, by omega, by omega, m1⟩, fun b hb0 => ?_⟩
    rw [Int.toNat_natCast, Int.toNat_natCast, repI]
    simp (disch := first | assumption | (apply Ap.symm; assumption) | omega | decide | (simp only [Xd] <;> omega)) only [↓Xa, Xb, Xc, ↓reduceIte, Nat.reduceLT, Nat.reduceEqDiff, Nat.reduceBEq, Nat.reduceLeDiff, Nat.reduceAdd, Nat.reduceMul]
    refine .inr (.inr (.inr ⟨IC_len zs, cellIC zs, ?_⟩))
    dsimp only
    rw [upd_same]
    have hrl : (IC (List.replicate (n + zs.length) 0)).length = (n + zs.length) * 2 := by rw [IC_len]; simp
    refine ⟨hrl, rfl, rfl, rfl, Nat.le_refl _, ?_⟩
    have hsp : splice (IC (List.replicate (n + zs.length) 0)) (n * 2) (IC zs) = IC (shiftP n zs) := by
      unfold splice
      rw [IC_tk (by simp), List.drop_eq_nil_of_le (by rw [hrl, IC_len]; omega), List.append_nil, ← IC_app]
      congr 1
      simp [shiftP]
    rw [hsp, upd_upd]
    simp (disch := first | assumption | (apply Ap.symm; assumption) | omega | decide | (simp only [Xd] <;> omega)) only [rs72, ↓Xa, Xb, Xc, ↓reduceIte, Nat.reduceLT, Nat.reduceEqDiff, Nat.reduceBEq, Nat.reduceLeDiff, Nat.reduceAdd, Nat.reduceMul]
    refine SetR.frzC (upd_same _ _ _) (by rw [IC_len, hl]) rfl (by omega) ?_
    rw [upd_upd, upd_back _ hb0, List.take_of_length_le (by rw [IC_len, hl]; omega), ← hl]
    exact SetR.now hq
end
theorem VB.of {X n k : Nat} {zs : List Int} (h : NB X n zs) (h1 : n * X * 16 ^ n < 4294967296 ^ k) (h2 : X < 4294967296 ^ k) (h3 : 16 ^ n < 4294967296 ^ k) : VB k X zs := by
  have hp : 16 ^ zs.length ≤ 16 ^ n := Nat.pow_le_pow_right (by omega) h.2
  exact ⟨h.1, Nat.lt_of_le_of_lt (Nat.mul_le_mul (Nat.mul_le_mul_right _ h.2) hp) h1, h2, Nat.lt_of_le_of_lt hp h3⟩
theorem NB.shift {X n m : Nat} {zs : List Int} (h : NB X n zs) : NB X (m + n) (shiftP m zs) := by
  refine ⟨fun z hz => ?_, by have := h.2; simp [shiftP]; omega⟩
  rcases List.mem_append.1 hz with h1 | h1
  · rw [(List.mem_replicate.1 h1).2]; simp
  · exact h.1 z h1
end Go.Proofs.YtanchgkiomfhhaaDoor.Fw

/- Polynomials: the reference's sums, multiples, products, shifted ones. -/
namespace Go.Proofs.YtanchgkiomfhhaaDoor.Fw
set_option linter.unusedSimpArgs false
set_option linter.unusedVariables false
open Go Go.Proofs.YtanchgkiomfhhaaDoor.Ma
set_option maxRecDepth 20000

end Go.Proofs.YtanchgkiomfhhaaDoor.Fw

/- Polynomials: the reference's products, shifted ones; the program's multiples. -/
namespace Go.Proofs.YtanchgkiomfhhaaDoor.Fw
set_option linter.unusedSimpArgs false
set_option linter.unusedVariables false
open Go Go.Proofs.YtanchgkiomfhhaaDoor.Ma
set_option maxRecDepth 20000

theorem pscale_fn {zs : List Int} {x : AV} {t : Bool} {c : Int} {k k' : Nat} (hz : RB4 k zs) (hc : Bd k' c) (hk : k + k' ≤ 1000000) (nz : zs.length ≤ 1000000) (wx : Wk x (RowA zs t)) : PFn Tryd.prog 80 [x, IntA c] (RowA (scaleP zs c) false) := by
  refine PFn.wk ?_ (.cons wx (.cons Wk.refl .nil))
  have hlen : (scaleP zs c).length = zs.length := by simp [scaleP]
  have hmx : Nat.max zs.length ([] : List Int).length = zs.length := Nat.max_zero _
  have h := PFn.frozen (P := Tryd.prog) (f := 80) (args := [RowA zs t, IntA c]) (ty := 28) (es := 2) (n := zs.length) (cells := IC (scaleP zs c)) fun H Q hq => ?_
  · show PFn _ _ _ (.seq (scaleP zs c).length _ _); rw [hlen]; exact h
  refine enter80 (by simp) ?_
  simp (disch := first | assumption | (apply Ap.symm; assumption) | omega | decide | (simp only [Xd] <;> omega)) only [ac80, cells_IntA, ↓Xa, Xb, Xc, ↓reduceIte, Nat.reduceLT, Nat.reduceEqDiff, Nat.reduceBEq, Nat.reduceLeDiff, Nat.reduceAdd, Nat.reduceMul]
  refine alloc_i fun p n1 => ?_
  simp (disch := first | assumption | (apply Ap.symm; assumption) | omega | decide | (simp only [Xd] <;> omega)) only [↓Xa, Xb, Xc, ↓reduceIte, Nat.reduceLT, Nat.reduceEqDiff, Nat.reduceBEq, Nat.reduceLeDiff, Nat.reduceAdd, Nat.reduceMul]
  obtain ⟨H1, eH1⟩ : ∃ H1, H1 = H.upd p (some (.row 28 0 [IntB c, IntD c])) := ⟨_, rfl⟩
  rw [← eH1]
  have hp : H1 p = some (.row 28 0 [IntB c, IntD c]) := by rw [eH1, upd_same]
  refine run_call (placed_run (f := fun x _ => x * c) (ws := []) (t' := true) nz (by simp) (fun i hi M K hM hK => ?_) fun y' M hg => ?_)
  · refine callW_fn ?_
    have mp := hM _ _ hp
    have hiz : i < zs.length := by rw [hmx] at hi; exact hi
    refine enter160 (by simp) ?_
    simp (disch := first | assumption | (apply Ap.symm; assumption) | omega | decide | (simp only [Xd] <;> omega)) only [ac160, cells_IntA, ↓Xa, Xb, Xc, ↓reduceIte, Nat.reduceLT, Nat.reduceEqDiff, Nat.reduceBEq, Nat.reduceLeDiff, Nat.reduceAdd, Nat.reduceMul]
    refine alloc_i fun q1 m1 => ?_
    simp (disch := first | assumption | (apply Ap.symm; assumption) | omega | decide | (simp only [Xd] <;> omega)) only [cells_IntA, ↓Xa, Xb, Xc, ↓reduceIte, Nat.reduceLT, Nat.reduceEqDiff, Nat.reduceBEq, Nat.reduceLeDiff, Nat.reduceAdd, Nat.reduceMul]
    refine alloc_i fun q2 hm2 => ?_
    obtain ⟨a21, m2⟩ := upd_none.1 hm2
    simp (disch := first | assumption | (apply Ap.symm; assumption) | omega | decide | (simp only [Xd] <;> omega)) only [↓Xa, Xb, Xc, ↓reduceIte, Nat.reduceLT, Nat.reduceEqDiff, Nat.reduceBEq, Nat.reduceLeDiff, Nat.reduceAdd, Nat.reduceMul]
    refine alloc_i fun q3 hm3 => ?_
    obtain ⟨a32, hx⟩ := upd_none.1 hm3
    obtain ⟨a31, m3⟩ := upd_none.1 hx
    have b21 := a21.symm
    have b31 := a31.symm
    have b32 := a32.symm
    have c1 := ne_of_some mp m1
    have c2 := ne_of_some mp m2
    have c3 := ne_of_some mp m3
    have d1 := c1.symm
    have d2 := c2.symm
    have d3 := c3.symm
    have hbz : Bd k (co zs i) := by rw [co_get hiz]; exact hz.at hiz
    simp (disch := first | assumption | (apply Ap.symm; assumption) | omega | decide | (simp only [Xd] <;> omega)) only [a21, b21, a31, b31, a32, b32, c1, c2, c3, d1, d2, d3, mp, cells_IntA, fold_IntA, ↓Xa, Xb, Xc, ↓reduceIte, Nat.reduceLT, Nat.reduceEqDiff, Nat.reduceBEq, Nat.reduceLeDiff, Nat.reduceAdd, Nat.reduceMul]
    refine (muli_fn hbz (by omega) hc (by omega)).call ?_
    simp (disch := first | assumption | (apply Ap.symm; assumption) | omega | decide | (simp only [Xd] <;> omega)) only [a21, b21, a31, b31, a32, b32, c1, c2, c3, d1, d2, d3, mp, cells_IntA, fold_IntA, rs160, ↓Xa, Xb, Xc, ↓reduceIte, Nat.reduceLT, Nat.reduceEqDiff, Nat.reduceBEq, Nat.reduceLeDiff, Nat.reduceAdd, Nat.reduceMul]
    exact SetR.dropTo ((((Le.refl M).updB m1).updB m2).updB m3) (SetR.now hK)
  · rw [hmx, scale_long] at hg
    rw [eH1] at hg
    obtain ⟨M2, hg2, hle⟩ := growC_le2 hg ((Le.refl H).updB n1)
    simp (disch := first | assumption | (apply Ap.symm; assumption) | omega | decide | (simp only [Xd] <;> omega)) only [rs80, ↓Xa, Xb, Xc, ↓reduceIte, Nat.reduceLT, Nat.reduceEqDiff, Nat.reduceBEq, Nat.reduceLeDiff, Nat.reduceAdd, Nat.reduceMul]
    exact SetR.dropTo hle (SetR.now (hq y' M2 hg2))
theorem Wk.seqC {n : Nat} {a b : List AV} {t : Bool} (hl : a.length = b.length) (h : ∀ i (h1 : i < a.length) (h2 : i < b.length), Wk (a[i]) (b[i])) : Wk (.seq n a t) (.seq n b false) := fun c v he => by
  cases he with
  | seq _ _ _ base cap cv hlen hcap hmax ht hb hn hce =>
    exact .seq n b false base cap cv (fun e => List.length_eq_zero_iff.1 (by rw [← hl, hlen e]; rfl)) hcap hmax (fun e => by cases e) (fun hp => by rw [← hl] at hp ⊢; exact hb hp) hn fun i hi => h i (by omega) hi c _ (hce i (by omega))
theorem Wk.loose {n : Nat} {cells : List AV} {t : Bool} : Wk (.seq n cells t) (.seq n cells false) := fun _ _ h => enc_loose _ _ h
theorem Wk.shift {zs : List Int} {n : Nat} : Wk (.seq (n + zs.length) (IC (List.replicate n 0) ++ RC zs) false) (RefR (shiftP n zs) false) := by
  have e : (shiftP n zs).length = n + zs.length := by simp [shiftP]
  show Wk _ (.seq (shiftP n zs).length (RC (shiftP n zs)) false)
  rw [e, shiftP, RC_app]
  have h1 : (IC (List.replicate n 0)).length = (RC (List.replicate n 0)).length := by rw [IC_len, RC_len]
  refine Wk.seqC (by simp only [List.length_append, h1]) fun i a1 a2 => ?_
  by_cases hi : i < (IC (List.replicate n 0)).length
  · rw [List.getElem_append_left hi, List.getElem_append_left (by omega)]
    have key : ∀ (n i : Nat) (a1 : i < (IC (List.replicate n 0)).length) (a2 : i < (RC (List.replicate n 0)).length), Wk ((IC (List.replicate n 0))[i]) ((RC (List.replicate n 0))[i]) := fun n => by
      induction n with
      | zero => intro i a1; simp [IC] at a1
      | succ n ih =>
        intro i a1 a2
        have e1 : IC (List.replicate (n + 1) 0) = IntB 0 :: IntD 0 :: IC (List.replicate n 0) := rfl
        have e2 : RC (List.replicate (n + 1) 0) = RefB 0 :: RefD 0 :: RC (List.replicate n 0) := rfl
        match i with
        | 0 => exact Wk.refl
        | 1 =>
          show Wk (IntD 0) (RefD 0)
          have w : IntD 0 = .seq 0 [] true := IntD_0
          have w2 : RefD 0 = .seq 0 [] false := by simp [RefD, Ma.digs_zero, LS, U]
          rw [w, w2]; exact Wk.loose
        | i + 2 =>
          simp only [e1, e2, List.getElem_cons_succ]
          exact ih i (by rw [e1] at a1; simpa using a1) (by rw [e2] at a2; simpa using a2)
    exact key n i hi (by omega)
  · rw [List.getElem_append_right (by omega), List.getElem_append_right (by omega)]
    have e3 : i - (IC (List.replicate n 0)).length = i - (RC (List.replicate n 0)).length := by rw [h1]
    simp only [e3]
    exact Wk.refl
end Go.Proofs.YtanchgkiomfhhaaDoor.Fw

/- Polynomials: the reference's products. -/
namespace Go.Proofs.YtanchgkiomfhhaaDoor.Fw
set_option linter.unusedSimpArgs false
set_option linter.unusedVariables false
open Go Go.Proofs.YtanchgkiomfhhaaDoor.Ma
set_option maxRecDepth 20000

end Go.Proofs.YtanchgkiomfhhaaDoor.Fw

/- Rows of whole numbers read of a text: what package row answers. -/
namespace Go.Proofs.YtanchgkiomfhhaaDoor.Fw
set_option linter.unusedSimpArgs false
set_option linter.unusedVariables false
open Go Go.Proofs.YtanchgkiomfhhaaDoor.Ma
set_option maxRecDepth 20000

theorem hasp1_fn {l m : List UInt8} (hl : l.length < 9223372036854775808) : PFn Tryd.prog 201 [Sx l, Sx m] (.bool (decide (l.take m.length = m))) := by
  intro H Q hq
  refine enter201 (by simp) ?_
  by_cases h : m.length ≤ l.length
  · have e : decide (((m.length : Nat) : Int) ≤ ((l.length : Nat) : Int)) = true := decide_eq_true (by omega)
    simp (disch := first | assumption | (apply Ap.symm; assumption) | omega | decide | (simp only [Xd] <;> omega)) only [ac201, len_Sx, geq_int, e, slc_SxH, eql_Sx, rs201, ↓Xa, Xb, Xc, ↓reduceIte, Nat.reduceLT, Nat.reduceEqDiff, Nat.reduceBEq, Nat.reduceLeDiff, Nat.reduceAdd, Nat.reduceMul]
    exact SetR.now hq
  · have e : decide (((m.length : Nat) : Int) ≤ ((l.length : Nat) : Int)) = false := decide_eq_false (by omega)
    have e2 : decide (l.take m.length = m) = false := decide_eq_false fun h2 => by
      have := congrArg List.length h2
      rw [List.length_take] at this; omega
    rw [e2] at hq
    simp (disch := first | assumption | (apply Ap.symm; assumption) | omega | decide | (simp only [Xd] <;> omega)) only [ac201, len_Sx, geq_int, e, rs201, ↓Xa, Xb, Xc, ↓reduceIte, Nat.reduceLT, Nat.reduceEqDiff, Nat.reduceBEq, Nat.reduceLeDiff, Nat.reduceAdd, Nat.reduceMul]
    exact SetR.now hq
theorem hasp_fn {l m : List UInt8} (hl : l.length < 9223372036854775808) : PFn Tryd.prog 166 [Sx l, Sx m] (.bool (decide (l.take m.length = m))) := by
  intro H Q hq
  refine enter166 (by simp) ?_
  simp (disch := first | assumption | (apply Ap.symm; assumption) | omega | decide | (simp only [Xd] <;> omega)) only [ac166, ↓Xa, Xb, Xc, ↓reduceIte, Nat.reduceLT, Nat.reduceEqDiff, Nat.reduceBEq, Nat.reduceLeDiff, Nat.reduceAdd, Nat.reduceMul]
  refine (hasp1_fn hl).call ?_
  simp (disch := first | assumption | (apply Ap.symm; assumption) | omega | decide | (simp only [Xd] <;> omega)) only [rs166, ↓Xa, Xb, Xc, ↓reduceIte, Nat.reduceLT, Nat.reduceEqDiff, Nat.reduceBEq, Nat.reduceLeDiff, Nat.reduceAdd, Nat.reduceMul]
  exact SetR.now hq
theorem wrong4_fn {n : Nat} : PFn Tryd.prog 165 [.int .i64 (n : Int)] (.tup [.seq 0 [] true, spot 6 n]) := by
  intro H Q hq
  refine enter165 (by simp) ?_
  have sp : AV.agg [.int .i64 ((6 : Nat) : Int), .int .i64 ((n : Nat) : Int)] = spot 6 n := rfl
  simp (disch := first | assumption | (apply Ap.symm; assumption) | omega | decide | (simp only [Xd] <;> omega)) only [ac165, ↓Xa, Xb, Xc, ↓reduceIte, Nat.reduceLT, Nat.reduceEqDiff, Nat.reduceBEq, Nat.reduceLeDiff, Nat.reduceAdd, Nat.reduceMul]
  refine alloc_i fun p1 hp1 => ?_
  have n1 := hp1
  simp (disch := first | assumption | (apply Ap.symm; assumption) | omega | decide | (simp only [Xd] <;> omega)) only [sp, cells_spot, rs165, ↓Xa, Xb, Xc, ↓reduceIte, Nat.reduceLT, Nat.reduceEqDiff, Nat.reduceBEq, Nat.reduceLeDiff, Nat.reduceAdd, Nat.reduceMul]
  exact SetR.dropTo ((Le.refl H).updB n1) (SetR.now hq)
def rdA : Res → AV
  | .ok zs => .tup [RowA zs false, spot 0 0]
  | .bad n => .tup [.seq 0 [] true, spot 6 n]
  | .long n => .tup [.seq 0 [] true, spot 3 n]
theorem growC_finS {H0 H : AHeap} {ty es n : Nat} {cells : List AV} {x : AV} {a b : Nat} {Q : AV → AHeap → Prop} (h : growC H0 ty es n cells x H) (hq : Q (.tup [.seq n cells false, spot a b]) H0) : SetR Q (.tup [x, spot a b]) H := by
  rcases h with ⟨rfl, rfl, rfl, rfl⟩ | ⟨hn, hl, b, hb, rfl, rfl⟩
  · exact SetR.loose (SetR.now hq)
  · refine SetR.frz b (upd_same _ _ _) ?_
    rw [upd_upd, upd_back _ hb]
    refine SetR.now ?_
    simpa [frz, frz2, frz1, hl, List.take_of_length_le, spot] using hq
theorem growC_lenW {H0 H : AHeap} {ty es n : Nat} {cells : List AV} {x : AV} (h : growC H0 ty es n cells x H) (hn : n < 9223372036854775808) {K : AV → Prop} : lenW false x K = K (.int .i64 ((n : Nat) : Int)) := by
  rcases h with ⟨rfl, rfl, rfl, rfl⟩ | ⟨_, _, b, _, rfl, _⟩ <;> simp [lenW, hn]
set_option maxHeartbeats 2000000 in
theorem rowread_fn {l : List UInt8} (hl : l.length < 4611686018427387904) : PFn Tryd.prog 85 [Sx l] (rdA (readR l)) := by
  intro H Q hq
  have s0 : AV.str ⟨#[]⟩ = Sx [] := rfl
  have s2 : AV.str ⟨#[91, 93]⟩ = Sx [91, 93] := rfl
  have sp : ∀ a b : Nat, AV.agg [.int .i64 ((a : Nat) : Int), .int .i64 ((b : Nat) : Int)] = spot a b := fun _ _ => rfl
  refine enter85 (by simp) ?_
  simp (disch := first | assumption | (apply Ap.symm; assumption) | omega | decide | (simp only [Xd] <;> omega)) only [ac85, ↓Xa, Xb, Xc, ↓reduceIte, Nat.reduceLT, Nat.reduceEqDiff, Nat.reduceBEq, Nat.reduceLeDiff, Nat.reduceAdd, Nat.reduceMul]
  refine alloc_i fun p1 hp1 => ?_
  have n1 := hp1
  simp (disch := first | assumption | (apply Ap.symm; assumption) | omega | decide | (simp only [Xd] <;> omega)) only [↓Xa, Xb, Xc, ↓reduceIte, Nat.reduceLT, Nat.reduceEqDiff, Nat.reduceBEq, Nat.reduceLeDiff, Nat.reduceAdd, Nat.reduceMul]
  refine W_jump (fun s : Nat × Nat × List Int × AV × AHeap => ⟨[], [(0, Sx l), (3, .ptr p1 2 0), (4, .fn (.func 165) [] []), (5, s.2.2.2.1), (6, .int .i64 (s.2.1 : Int))], s.2.2.2.2⟩)
    (fun s => l.length ≤ 65536 ∧ s.2.1 ≤ l.length ∧ l.length + 1 ≤ s.1 + s.2.1 ∧ s.2.2.1.length ≤ s.2.1 ∧ rdF l s.1 s.2.1 s.2.2.1 = readR l ∧ growC (H.upd p1 (some (.row 105 0 [.int .i64 ((0 : Nat) : Int), .int .i64 ((0 : Nat) : Int)]))) 28 2 s.2.2.1.length (IC s.2.2.1) s.2.2.2.1 s.2.2.2.2) (fun s => s.1) ?_ ?_
  · rintro ⟨f, a, out, y, M⟩ ⟨h65, ha, hf, ho, hR, hg⟩ R hcont
    dsimp only at ha hf ho hR hg ⊢
    obtain ⟨f, rfl⟩ : ∃ f', f = f' + 1 := ⟨f - 1, by omega⟩
    have hle : (segP l a).length ≤ l.length - a := tw_le l a
    have lBM := growC_le hg
    have m1 : M p1 = some (.row 105 0 [.int .i64 ((0 : Nat) : Int), .int .i64 ((0 : Nat) : Int)]) := growC_old hg (upd_same _ _ _)
    have hlH : Le H M := fun o x h => lBM o x (((Le.refl H).updB n1) o x h)
    have hpl := (posP_at (segP l a)).2.1
    have hwr : IntKind.i64.wrap ((a + posP (segP l a) : Nat) : Int) = ((a + posP (segP l a) : Nat) : Int) := wn_i64 (by omega)
    have hseg : (l.drop a).take (a + (segP l a).length - a) = segP l a := by
      rw [Nat.add_sub_cancel_left]; exact (tw_eq (p := isNC) l a).symm
    have hrd := iread_fn (posP_at (segP l a)) (by omega)
    unfold iReadA at hrd
    rw [if_neg (by omega)] at hrd
    have hq' := hq
    rw [← hR] at hq'
    unfold rdF at hq'
    have hly : ∀ {K : AV → Prop}, lenW false y K = K (.int .i64 ((out.length : Nat) : Int)) := fun {K} => growC_lenW hg (by omega)
    simp (disch := first | assumption | (apply Ap.symm; assumption) | omega | decide | (simp only [Xd] <;> omega)) only [↓Xa, Xb, Xc, ↓reduceIte, Nat.reduceLT, Nat.reduceEqDiff, Nat.reduceBEq, Nat.reduceLeDiff, Nat.reduceAdd, Nat.reduceMul]
    refine W_loop (fun s : Nat => ⟨[], [(0, Sx l), (3, .ptr p1 2 0), (4, .fn (.func 165) [] []), (5, y), (6, .int .i64 (a : Int)), (7, .int .i64 s)], M⟩) (fun s => a ≤ s ∧ s ≤ a + (segP l a).length) (fun s => a + (segP l a).length - s) a (Settle.now rfl) ⟨Nat.le_refl _, by omega⟩ ?_
    rintro j ⟨j1, j2⟩
    by_cases hj : j < a + (segP l a).length
    · have hjl : j < l.length := by omega
      have hne2 := of_decide_eq_true (tw_get (p := isNC) j1 hj)
      by_cases h45 : (l.getD j 0).toNat = 45
      · simp (disch := first | assumption | (apply Ap.symm; assumption) | omega | decide | (simp only [Xd] <;> omega)) only [len_Sx, hjl, idx_Sx, h45, ↓Xa, Xb, Xc, ↓reduceIte, Nat.reduceLT, Nat.reduceEqDiff, Nat.reduceBEq, Nat.reduceLeDiff, Nat.reduceAdd, Nat.reduceMul]
        exact Settle.now ⟨j + 1, by omega, ⟨by omega, by omega⟩, rfl⟩
      · have h48 : 48 ≤ (l.getD j 0).toNat := by omega
        have h57 : (l.getD j 0).toNat ≤ 57 := by omega
        simp (disch := first | assumption | (apply Ap.symm; assumption) | omega | decide | (simp only [Xd] <;> omega)) only [len_Sx, hjl, idx_Sx, h45, h48, h57, ↓Xa, Xb, Xc, ↓reduceIte, Nat.reduceLT, Nat.reduceEqDiff, Nat.reduceBEq, Nat.reduceLeDiff, Nat.reduceAdd, Nat.reduceMul]
        exact Settle.now ⟨j + 1, by omega, ⟨by omega, by omega⟩, rfl⟩
    obtain rfl : j = a + (segP l a).length := by omega
    -- what comes behind the scan
    have tri : (¬ a + (segP l a).length < l.length) ∨ (a + (segP l a).length < l.length ∧ ¬ (l.getD (a + (segP l a).length) 0).toNat = 45 ∧ ¬ 48 ≤ (l.getD (a + (segP l a).length) 0).toNat) ∨ (a + (segP l a).length < l.length ∧ ¬ (l.getD (a + (segP l a).length) 0).toNat = 45 ∧ 48 ≤ (l.getD (a + (segP l a).length) 0).toNat ∧ ¬ (l.getD (a + (segP l a).length) 0).toNat ≤ 57) := by
      by_cases h : a + (segP l a).length < l.length
      · have := of_decide_eq_false (tw_end (p := isNC) (l := l) (a := a) h)
        have e5 : ((l.drop a).takeWhile isNC).length = (segP l a).length := rfl
        rw [e5] at this
        by_cases h48 : 48 ≤ (l.getD (a + (segP l a).length) 0).toNat
        · exact .inr (.inr ⟨h, by omega, h48, by omega⟩)
        · exact .inr (.inl ⟨h, by omega, h48⟩)
      · exact .inl h
    rcases tri with h | ⟨h, h45, h48⟩ | ⟨h, h45, h48, h57⟩
    simp (disch := first | assumption | (apply Ap.symm; assumption) | omega | decide | (simp only [Xd] <;> omega)) only [len_Sx, h, ↓Xa, Xb, Xc, ↓reduceIte, Nat.reduceLT, Nat.reduceEqDiff, Nat.reduceBEq, Nat.reduceLeDiff, Nat.reduceAdd, Nat.reduceMul]
    rotate_left
    simp (disch := first | assumption | (apply Ap.symm; assumption) | omega | decide | (simp only [Xd] <;> omega)) only [len_Sx, h, idx_Sx, h45, h48, ↓Xa, Xb, Xc, ↓reduceIte, Nat.reduceLT, Nat.reduceEqDiff, Nat.reduceBEq, Nat.reduceLeDiff, Nat.reduceAdd, Nat.reduceMul]
    rotate_left
    simp (disch := first | assumption | (apply Ap.symm; assumption) | omega | decide | (simp only [Xd] <;> omega)) only [len_Sx, h, idx_Sx, h45, h48, h57, ↓Xa, Xb, Xc, ↓reduceIte, Nat.reduceLT, Nat.reduceEqDiff, Nat.reduceBEq, Nat.reduceLeDiff, Nat.reduceAdd, Nat.reduceMul]
    rotate_left
    all_goals
      refine Settle.now ?_
      simp (disch := first | assumption | (apply Ap.symm; assumption) | omega | decide | (simp only [Xd] <;> omega)) only [slc_Sx, hseg, ↓Xa, Xb, Xc, ↓reduceIte, Nat.reduceLT, Nat.reduceEqDiff, Nat.reduceBEq, Nat.reduceLeDiff, Nat.reduceAdd, Nat.reduceMul]
      refine hrd.call ?_
      by_cases hb : posP (segP l a) = iFrom (segP l a) ∨ posP (segP l a) < (segP l a).length
      · rw [if_pos hb]
        rw [if_pos hb] at hq'
        have e3 : decide (((6 : Nat) : Int) = ((0 : Nat) : Int)) = false := by decide
        simp (disch := first | assumption | (apply Ap.symm; assumption) | omega | decide | (simp only [Xd] <;> omega)) only [↓Xa, Xb, Xc, ↓reduceIte, Nat.reduceLT, Nat.reduceEqDiff, Nat.reduceBEq, Nat.reduceLeDiff, Nat.reduceAdd, Nat.reduceMul]
        refine alloc_i fun q1 hq1 => ?_
        have a1 := ne_of_some m1 hq1
        simp (disch := first | assumption | (apply Ap.symm; assumption) | omega | decide | (simp only [Xd] <;> omega)) only [↓Xa, Xb, Xc, ↓reduceIte, Nat.reduceLT, Nat.reduceEqDiff, Nat.reduceBEq, Nat.reduceLeDiff, Nat.reduceAdd, Nat.reduceMul]
        refine alloc_i fun q2 hq2 => ?_
        have a2 := ne_of_some m1 (upd_none.1 hq2).2
        have a21 := (upd_none.1 hq2).1
        simp (disch := first | assumption | (apply Ap.symm; assumption) | omega | decide | (simp only [Xd] <;> omega)) only [cells_IntA, cells_spot, neq_int, e3, hwr, ↓Xa, Xb, Xc, ↓reduceIte, Nat.reduceLT, Nat.reduceEqDiff, Nat.reduceBEq, Nat.reduceLeDiff, Nat.reduceAdd, Nat.reduceMul]
        refine (wrong4_fn (n := a + posP (segP l a))).call ?_
        simp (disch := first | assumption | (apply Ap.symm; assumption) | omega | decide | (simp only [Xd] <;> omega)) only [m1, cells_spot, rs85, ↓Xa, Xb, Xc, ↓reduceIte, Nat.reduceLT, Nat.reduceEqDiff, Nat.reduceBEq, Nat.reduceLeDiff, Nat.reduceAdd, Nat.reduceMul]
        exact SetR.dropTo (((hlH.updB (hlH.none hq1)).updB (hlH.none (upd_none.1 hq2).2)).updB n1) (SetR.now hq')
      · rw [if_neg hb]
        rw [if_neg hb] at hq'
        have e3 : decide (((0 : Nat) : Int) = ((0 : Nat) : Int)) = true := by decide
        simp (disch := first | assumption | (apply Ap.symm; assumption) | omega | decide | (simp only [Xd] <;> omega)) only [↓Xa, Xb, Xc, ↓reduceIte, Nat.reduceLT, Nat.reduceEqDiff, Nat.reduceBEq, Nat.reduceLeDiff, Nat.reduceAdd, Nat.reduceMul]
        refine alloc_i fun q1 hq1 => ?_
        have a1 := ne_of_some m1 hq1
        simp (disch := first | assumption | (apply Ap.symm; assumption) | omega | decide | (simp only [Xd] <;> omega)) only [↓Xa, Xb, Xc, ↓reduceIte, Nat.reduceLT, Nat.reduceEqDiff, Nat.reduceBEq, Nat.reduceLeDiff, Nat.reduceAdd, Nat.reduceMul]
        refine alloc_i fun q2 hq2 => ?_
        have a2 := ne_of_some m1 (upd_none.1 hq2).2
        have a21 := (upd_none.1 hq2).1
        by_cases hcap : out.length = 4096
        · rw [if_pos hcap] at hq'
          simp (disch := first | assumption | (apply Ap.symm; assumption) | omega | decide | (simp only [Xd] <;> omega)) only [cells_IntA, cells_spot, neq_int, e3, hly, hcap, sp, m1, rs85, ↓Xa, Xb, Xc, ↓reduceIte, Nat.reduceLT, Nat.reduceEqDiff, Nat.reduceBEq, Nat.reduceLeDiff, Nat.reduceAdd, Nat.reduceMul]
          exact SetR.dropTo (((hlH.updB (hlH.none hq1)).updB (hlH.none (upd_none.1 hq2).2)).updB n1) (SetR.now hq')
        · rw [if_neg hcap] at hq'
          have hg1 := growC_upd (r := .row 28 0 [IntB (iVal (segP l a)), IntD (iVal (segP l a))]) hg hq1
          have hq2' : (M.upd q1 (some (.row 28 0 [IntB (iVal (segP l a)), IntD (iVal (segP l a))]))) q2 = none := upd_none.2 ⟨a21, (upd_none.1 hq2).2⟩
          have hg2 := growC_upd (r := .row 105 0 [.int .i64 ((0 : Nat) : Int), .int .i64 ((0 : Nat) : Int)]) hg1 hq2'
          have hle2 : Le (H.upd p1 (some (.row 105 0 [.int .i64 ((0 : Nat) : Int), .int .i64 ((0 : Nat) : Int)]))) (((H.upd p1 (some (.row 105 0 [.int .i64 ((0 : Nat) : Int), .int .i64 ((0 : Nat) : Int)]))).upd q1 (some (.row 28 0 [IntB (iVal (segP l a)), IntD (iVal (segP l a))]))).upd q2 (some (.row 105 0 [.int .i64 ((0 : Nat) : Int), .int .i64 ((0 : Nat) : Int)]))) :=
            ((Le.refl _).updB (growC_none hg hq1)).updB (growC_none hg (upd_none.1 hq2).2)
          simp (disch := first | assumption | (apply Ap.symm; assumption) | omega | decide | (simp only [Xd] <;> omega)) only [cells_IntA, cells_spot, neq_int, e3, hly, hcap, fold_IntA, repI1, ↓Xa, Xb, Xc, ↓reduceIte, Nat.reduceLT, Nat.reduceEqDiff, Nat.reduceBEq, Nat.reduceLeDiff, Nat.reduceAdd, Nat.reduceMul]
          refine app_C (m := 1) hg2 rfl cellI (by omega) (by omega) (by omega) fun y' M2 hg3 => ?_
          rw [← IC_snoc] at hg3
          obtain ⟨M3, hg4, hl4⟩ := growC_le2 hg3 hle2
          have hll : (out ++ [iVal (segP l a)]).length = out.length + 1 := by simp
          have m2 : M2 p1 = some (.row 105 0 [.int .i64 ((0 : Nat) : Int), .int .i64 ((0 : Nat) : Int)]) := hl4 _ _ (growC_old hg4 (upd_same _ _ _))
          have hlH2 : Le H M2 := fun o x h => hl4 o x (growC_le hg4 o x (((Le.refl H).updB n1) o x h))
          by_cases hjl : a + (segP l a).length = l.length
          · rw [if_pos hjl] at hq'
            simp (disch := first | assumption | (apply Ap.symm; assumption) | omega | decide | (simp only [Xd] <;> omega)) only [len_Sx, hjl, ↓Xa, Xb, Xc, ↓reduceIte, Nat.reduceLT, Nat.reduceEqDiff, Nat.reduceBEq, Nat.reduceLeDiff, Nat.reduceAdd, Nat.reduceMul]
            refine (wrong4_fn (n := l.length)).call ?_
            simp (disch := first | assumption | (apply Ap.symm; assumption) | omega | decide | (simp only [Xd] <;> omega)) only [m2, cells_spot, rs85, ↓Xa, Xb, Xc, ↓reduceIte, Nat.reduceLT, Nat.reduceEqDiff, Nat.reduceBEq, Nat.reduceLeDiff, Nat.reduceAdd, Nat.reduceMul]
            rw [hjl] at hq'
            exact SetR.dropTo (hlH2.updB n1) (SetR.now hq')
          rw [if_neg hjl] at hq'
          have hjl2 : a + (segP l a).length < l.length := by omega
          by_cases h32 : (l.getD (a + (segP l a).length) 0).toNat = 32
          · simp (disch := first | assumption | (apply Ap.symm; assumption) | omega | decide | (simp only [Xd] <;> omega)) only [len_Sx, hjl, hjl2, idx_Sx, h32, ↓Xa, Xb, Xc, ↓reduceIte, Nat.reduceLT, Nat.reduceEqDiff, Nat.reduceBEq, Nat.reduceLeDiff, Nat.reduceAdd, Nat.reduceMul]
            refine Settle.dropTo hl4 (Settle.keep [0, 3, 4, 5, 6] (hcont (f, a + (segP l a).length + 1, out ++ [iVal (segP l a)], y', M3) (by dsimp only; omega) ⟨h65, by dsimp only; omega, by dsimp only; omega, by simp; omega, ?_, by dsimp only; rw [hll]; exact hg4⟩))
            dsimp only
            rw [← hR]
            conv => rhs; unfold rdF
            rw [if_neg hb, if_neg hcap, if_neg hjl, if_pos h32]
          rw [if_neg h32] at hq'
          by_cases h93 : (l.getD (a + (segP l a).length) 0).toNat ≠ 93
          · rw [if_pos h93] at hq'
            have e5 : decide (((((l.getD (a + (segP l a).length) 0).toNat : Nat) : Int)) = ((93 : Nat) : Int)) = false := decide_eq_false (by omega)
            simp (disch := first | assumption | (apply Ap.symm; assumption) | omega | decide | (simp only [Xd] <;> omega)) only [len_Sx, hjl, hjl2, idx_Sx, h32, neq_int, e5, ↓Xa, Xb, Xc, ↓reduceIte, Nat.reduceLT, Nat.reduceEqDiff, Nat.reduceBEq, Nat.reduceLeDiff, Nat.reduceAdd, Nat.reduceMul]
            refine (wrong4_fn (n := a + (segP l a).length)).call ?_
            simp (disch := first | assumption | (apply Ap.symm; assumption) | omega | decide | (simp only [Xd] <;> omega)) only [m2, cells_spot, rs85, ↓Xa, Xb, Xc, ↓reduceIte, Nat.reduceLT, Nat.reduceEqDiff, Nat.reduceBEq, Nat.reduceLeDiff, Nat.reduceAdd, Nat.reduceMul]
            exact SetR.dropTo (hlH2.updB n1) (SetR.now hq')
          rw [if_neg h93] at hq'
          have e5 : decide (((((l.getD (a + (segP l a).length) 0).toNat : Nat) : Int)) = ((93 : Nat) : Int)) = true := decide_eq_true (by omega)
          by_cases h6 : a + (segP l a).length + 1 < l.length
          · rw [if_pos h6] at hq'
            simp (disch := first | assumption | (apply Ap.symm; assumption) | omega | decide | (simp only [Xd] <;> omega)) only [len_Sx, hjl, hjl2, idx_Sx, h32, neq_int, e5, h6, ↓Xa, Xb, Xc, ↓reduceIte, Nat.reduceLT, Nat.reduceEqDiff, Nat.reduceBEq, Nat.reduceLeDiff, Nat.reduceAdd, Nat.reduceMul]
            refine (wrong4_fn (n := a + (segP l a).length + 1)).call ?_
            simp (disch := first | assumption | (apply Ap.symm; assumption) | omega | decide | (simp only [Xd] <;> omega)) only [m2, cells_spot, rs85, ↓Xa, Xb, Xc, ↓reduceIte, Nat.reduceLT, Nat.reduceEqDiff, Nat.reduceBEq, Nat.reduceLeDiff, Nat.reduceAdd, Nat.reduceMul]
            exact SetR.dropTo (hlH2.updB n1) (SetR.now hq')
          · rw [if_neg h6] at hq'
            simp (disch := first | assumption | (apply Ap.symm; assumption) | omega | decide | (simp only [Xd] <;> omega)) only [len_Sx, hjl, hjl2, idx_Sx, h32, neq_int, e5, h6, sp, m2, cells_spot, rs85, ↓Xa, Xb, Xc, ↓reduceIte, Nat.reduceLT, Nat.reduceEqDiff, Nat.reduceBEq, Nat.reduceLeDiff, Nat.reduceAdd, Nat.reduceMul]
            obtain ⟨H1, hg5, hl5⟩ := growC_move (M := M2.upd p1 (some (.row 105 0 [.int .i64 ((0 : Nat) : Int), .int .i64 ((0 : Nat) : Int)]))) hg3 fun b hb _ => upd_other _ _ (by rintro rfl; rw [hle2 _ _ (upd_same _ _ _)] at hb; cases hb)
            obtain ⟨M4, hg6, hl6⟩ := growC_le2 hg5 (hl5 H (hlH2.updB n1) fun b hb => by
              have h1 := (upd_none.1 (upd_none.1 hb).2).2
              exact (upd_none.1 h1).2)
            refine SetR.dropTo hl6 (growC_finS hg6 ?_)
            rw [← hll]
            exact hq'
  · intro hb
    by_cases h65 : 65536 < l.length
    · have e : readR l = .long 65536 := by unfold readR; rw [if_pos h65]
      rw [e] at hq
      simp (disch := first | assumption | (apply Ap.symm; assumption) | omega | decide | (simp only [Xd] <;> omega)) only [len_Sx, h65, sp, cells_spot, rs85, ↓Xa, Xb, Xc, ↓reduceIte, Nat.reduceLT, Nat.reduceEqDiff, Nat.reduceBEq, Nat.reduceLeDiff, Nat.reduceAdd, Nat.reduceMul]
      exact SetR.dropTo ((Le.refl H).updB n1) (SetR.now hq)
    by_cases h91 : (l.getD 0 0).toNat ≠ 91
    · have e : readR l = .bad 0 := by unfold readR; rw [if_neg h65, if_pos h91]
      rw [e] at hq
      by_cases hn : l = []
      · simp (disch := first | assumption | (apply Ap.symm; assumption) | omega | decide | (simp only [Xd] <;> omega)) only [len_Sx, h65, s0, eql_Sx, decide_eq_true hn, ↓Xa, Xb, Xc, ↓reduceIte, Nat.reduceLT, Nat.reduceEqDiff, Nat.reduceBEq, Nat.reduceLeDiff, Nat.reduceAdd, Nat.reduceMul]
        refine (wrong4_fn (n := 0)).call ?_
        simp (disch := first | assumption | (apply Ap.symm; assumption) | omega | decide | (simp only [Xd] <;> omega)) only [cells_spot, rs85, ↓Xa, Xb, Xc, ↓reduceIte, Nat.reduceLT, Nat.reduceEqDiff, Nat.reduceBEq, Nat.reduceLeDiff, Nat.reduceAdd, Nat.reduceMul]
        exact SetR.dropTo ((Le.refl H).updB n1) (SetR.now hq)
      · have hp : 0 < l.length := List.length_pos_iff.2 hn
        have d1 : decide (((((l.getD 0 0).toNat : Nat) : Int)) = ((91 : Nat) : Int)) = false := decide_eq_false (by omega)
        simp (disch := first | assumption | (apply Ap.symm; assumption) | omega | decide | (simp only [Xd] <;> omega)) only [len_Sx, h65, s0, eql_Sx, decide_eq_false hn, hp, idx_Sx, neq_int, d1, ↓Xa, Xb, Xc, ↓reduceIte, Nat.reduceLT, Nat.reduceEqDiff, Nat.reduceBEq, Nat.reduceLeDiff, Nat.reduceAdd, Nat.reduceMul]
        refine (wrong4_fn (n := 0)).call ?_
        simp (disch := first | assumption | (apply Ap.symm; assumption) | omega | decide | (simp only [Xd] <;> omega)) only [cells_spot, rs85, ↓Xa, Xb, Xc, ↓reduceIte, Nat.reduceLT, Nat.reduceEqDiff, Nat.reduceBEq, Nat.reduceLeDiff, Nat.reduceAdd, Nat.reduceMul]
        exact SetR.dropTo ((Le.refl H).updB n1) (SetR.now hq)
    have h91' : (l.getD 0 0).toNat = 91 := Classical.not_not.1 h91
    have hn : l ≠ [] := fun h => by subst h; exact absurd h91' (by decide)
    have hp : 0 < l.length := List.length_pos_iff.2 hn
    have d1 : decide (((((l.getD 0 0).toNat : Nat) : Int)) = ((91 : Nat) : Int)) = true := decide_eq_true (by omega)
    by_cases h2 : l = [91, 93]
    · have e : readR l = .ok [] := by unfold readR; rw [if_neg h65, if_neg h91, if_pos h2]
      rw [e] at hq
      simp (disch := first | assumption | (apply Ap.symm; assumption) | omega | decide | (simp only [Xd] <;> omega)) only [len_Sx, h65, s0, s2, eql_Sx, decide_eq_false hn, decide_eq_true h2, hp, idx_Sx, neq_int, d1, sp, cells_spot, rs85, ↓Xa, Xb, Xc, ↓reduceIte, Nat.reduceLT, Nat.reduceEqDiff, Nat.reduceBEq, Nat.reduceLeDiff, Nat.reduceAdd, Nat.reduceMul]
      exact SetR.dropTo ((Le.refl H).updB n1) (SetR.loose (SetR.now hq))
    have hpf := hasp_fn (l := l) (m := [91, 93]) (by omega)
    have hl2 : ([91, 93] : List UInt8).length = 2 := rfl
    rw [hl2] at hpf
    by_cases h3 : l.take 2 = [91, 93]
    · have e : readR l = .bad 2 := by unfold readR; rw [if_neg h65, if_neg h91, if_neg h2, if_pos h3]
      rw [e] at hq
      simp (disch := first | assumption | (apply Ap.symm; assumption) | omega | decide | (simp only [Xd] <;> omega)) only [len_Sx, h65, s0, s2, eql_Sx, decide_eq_false hn, decide_eq_false h2, hp, idx_Sx, neq_int, d1, ↓Xa, Xb, Xc, ↓reduceIte, Nat.reduceLT, Nat.reduceEqDiff, Nat.reduceBEq, Nat.reduceLeDiff, Nat.reduceAdd, Nat.reduceMul]
      refine hpf.call ?_
      simp (disch := first | assumption | (apply Ap.symm; assumption) | omega | decide | (simp only [Xd] <;> omega)) only [decide_eq_true h3, ↓Xa, Xb, Xc, ↓reduceIte, Nat.reduceLT, Nat.reduceEqDiff, Nat.reduceBEq, Nat.reduceLeDiff, Nat.reduceAdd, Nat.reduceMul]
      refine (wrong4_fn (n := 2)).call ?_
      simp (disch := first | assumption | (apply Ap.symm; assumption) | omega | decide | (simp only [Xd] <;> omega)) only [cells_spot, rs85, ↓Xa, Xb, Xc, ↓reduceIte, Nat.reduceLT, Nat.reduceEqDiff, Nat.reduceBEq, Nat.reduceLeDiff, Nat.reduceAdd, Nat.reduceMul]
      exact SetR.dropTo ((Le.refl H).updB n1) (SetR.now hq)
    · have e : readR l = rdF l (l.length + 1) 1 [] := by unfold readR; rw [if_neg h65, if_neg h91, if_neg h2, if_neg h3]
      have hb0 := hb (l.length + 1, 1, [], .seq 0 [] true, _) ⟨by omega, by dsimp only; omega, by dsimp only; omega, by simp, e.symm, growC_nil⟩
      simp (disch := first | assumption | (apply Ap.symm; assumption) | omega | decide | (simp only [Xd] <;> omega)) only [↓Xa, Xb, Xc, ↓reduceIte, Nat.reduceLT, Nat.reduceEqDiff, Nat.reduceBEq, Nat.reduceLeDiff, Nat.reduceAdd, Nat.reduceMul] at hb0
      simp (disch := first | assumption | (apply Ap.symm; assumption) | omega | decide | (simp only [Xd] <;> omega)) only [len_Sx, h65, s0, s2, eql_Sx, decide_eq_false hn, decide_eq_false h2, hp, idx_Sx, neq_int, d1, ↓Xa, Xb, Xc, ↓reduceIte, Nat.reduceLT, Nat.reduceEqDiff, Nat.reduceBEq, Nat.reduceLeDiff, Nat.reduceAdd, Nat.reduceMul]
      refine hpf.call ?_
      simp (disch := first | assumption | (apply Ap.symm; assumption) | omega | decide | (simp only [Xd] <;> omega)) only [decide_eq_false h3, ↓Xa, Xb, Xc, ↓reduceIte, Nat.reduceLT, Nat.reduceEqDiff, Nat.reduceBEq, Nat.reduceLeDiff, Nat.reduceAdd, Nat.reduceMul]
      exact hb0
end Go.Proofs.YtanchgkiomfhhaaDoor.Fw

/- Rows of whole numbers read of a text: what the reference answers. -/
namespace Go.Proofs.YtanchgkiomfhhaaDoor.Fw
set_option linter.unusedSimpArgs false
set_option linter.unusedVariables false
open Go Go.Proofs.YtanchgkiomfhhaaDoor.Ma
set_option maxRecDepth 20000

def rrA : Res → AV
  | .ok zs => .tup [RefR zs false, .int .i64 (-1)]
  | .bad n => .tup [.seq 0 [] true, .int .i64 (n : Int)]
  | .long n => .tup [.seq 0 [] true, .int .i64 (n : Int)]
end Go.Proofs.YtanchgkiomfhhaaDoor.Fw

/- The laws of rows' texts, told and read: true. -/
namespace Go.Proofs.YtanchgkiomfhhaaDoor.Fw
set_option linter.unusedSimpArgs false
set_option linter.unusedVariables false
open Go Go.Proofs.YtanchgkiomfhhaaDoor.Ma
set_option maxRecDepth 20000

theorem rowT_len (zs : List Int) : zs.length ≤ (rowT zs).length := by
  have : ∀ xs : List (List UInt8), xs.length ≤ (joinT xs).length + 1 := fun xs => by
    induction xs with
    | nil => simp
    | cons x r ih =>
      cases r with
      | nil => simp
      | cons y r => simp only [joinT, List.length_cons, List.length_append] at ih ⊢; omega
  have := this (zs.map iText)
  simp only [rowT, List.length_append, List.length_cons, List.length_map] at this ⊢; omega
end Go.Proofs.YtanchgkiomfhhaaDoor.Fw

/- Polynomials read of texts; the laws of their texts: true. -/
namespace Go.Proofs.YtanchgkiomfhhaaDoor.Fw
set_option linter.unusedSimpArgs false
set_option linter.unusedVariables false
open Go Go.Proofs.YtanchgkiomfhhaaDoor.Ma
set_option maxRecDepth 20000

def rdP : Res → AV
  | .ok zs => .tup [RowA zs false, spot 0 0]
  | .bad n => .tup [RowA [] false, spot 6 n]
  | .long n => .tup [RowA [] false, spot 3 n]
theorem spot_fold (a b : Nat) : AV.agg [.int .i64 ((a : Nat) : Int), .int .i64 ((b : Nat) : Int)] = spot a b := rfl
theorem pread1 {l : List UInt8} {zs : List Int} {e n : Nat} {t : Bool} (hrd : PFn Tryd.prog 85 [Sx l] (.tup [RowA zs t, spot e n])) (hz : zs.length < 9223372036854775808) : PFn Tryd.prog 92 [Sx l] (.tup [RowA zs false, spot e n]) := by
  intro H Q hq
  refine enter92 (by simp) ?_
  simp (disch := first | assumption | (apply Ap.symm; assumption) | omega | decide | (simp only [Xd] <;> omega)) only [ac92, ↓Xa, Xb, Xc, ↓reduceIte, Nat.reduceLT, Nat.reduceEqDiff, Nat.reduceBEq, Nat.reduceLeDiff, Nat.reduceAdd, Nat.reduceMul]
  refine alloc_i fun p3 n3 => ?_
  simp (disch := first | assumption | (apply Ap.symm; assumption) | omega | decide | (simp only [Xd] <;> omega)) only [↓Xa, Xb, Xc, ↓reduceIte, Nat.reduceLT, Nat.reduceEqDiff, Nat.reduceBEq, Nat.reduceLeDiff, Nat.reduceAdd, Nat.reduceMul]
  refine hrd.call ?_
  simp (disch := first | assumption | (apply Ap.symm; assumption) | omega | decide | (simp only [Xd] <;> omega)) only [↓Xa, Xb, Xc, ↓reduceIte, Nat.reduceLT, Nat.reduceEqDiff, Nat.reduceBEq, Nat.reduceLeDiff, Nat.reduceAdd, Nat.reduceMul]
  refine alloc_i fun p5 hp5 => ?_
  obtain ⟨a53, n5⟩ := upd_none.1 hp5
  have b53 := a53.symm
  by_cases h0 : zs = []
  · subst h0
    simp (disch := first | assumption | (apply Ap.symm; assumption) | omega | decide | (simp only [Xd] <;> omega)) only [cells_spot, len_rw, hz, a53, b53, spot_fold, rs92, ↓Xa, Xb, Xc, ↓reduceIte, Nat.reduceLT, Nat.reduceEqDiff, Nat.reduceBEq, Nat.reduceLeDiff, Nat.reduceAdd, Nat.reduceMul]
    refine SetR.loose (SetR.dropTo (((Le.refl H).updB n3).updB n5) (SetR.now ?_))
    exact hq
  · have h1 : ¬ zs.length = 0 := fun h => h0 (List.length_eq_zero_iff.1 h)
    simp (disch := first | assumption | (apply Ap.symm; assumption) | omega | decide | (simp only [Xd] <;> omega)) only [cells_spot, len_rw, hz, h1, a53, b53, spot_fold, rs92, ↓Xa, Xb, Xc, ↓reduceIte, Nat.reduceLT, Nat.reduceEqDiff, Nat.reduceBEq, Nat.reduceLeDiff, Nat.reduceAdd, Nat.reduceMul]
    refine SetR.loose (SetR.dropTo (((Le.refl H).updB n3).updB n5) (SetR.now ?_))
    exact hq
theorem pread_fn {l : List UInt8} (hl : l.length < 4611686018427387904) : PFn Tryd.prog 92 [Sx l] (rdP (readR l)) := by
  have hrd := rowread_fn hl
  cases hr : readR l with
  | ok zs =>
    rw [hr] at hrd
    have h1 := (readR_ok hr).1
    have h2 := rowT_len zs
    rw [← h1] at h2
    exact pread1 hrd (by omega)
  | bad n =>
    rw [hr] at hrd
    exact pread1 (zs := []) hrd (by simp)
  | long n =>
    rw [hr] at hrd
    exact pread1 (zs := []) hrd (by simp)
theorem RB4.read {l : List UInt8} {zs : List Int} (h : readR l = .ok zs) (hl : l.length ≤ 65536) : RB4 8192 zs ∧ l = rowT zs ∧ zs.length ≤ l.length := by
  obtain ⟨h1, h2⟩ := readR_ok h
  have h3 := rowT_len zs
  rw [← h1] at h3
  exact ⟨⟨fun z hm => Nat.lt_of_lt_of_le (h2 z hm) (ten_bound (by omega)), by omega⟩, h1, by omega⟩
end Go.Proofs.YtanchgkiomfhhaaDoor.Fw

/- The law of what the document's examples of polynomials name: true. -/
namespace Go.Proofs.YtanchgkiomfhhaaDoor.Fw
set_option linter.unusedSimpArgs false
set_option linter.unusedVariables false
open Go Go.Proofs.YtanchgkiomfhhaaDoor.Ma
set_option maxRecDepth 20000

theorem sm20 {l : List Int} (h : (l.all fun n => decide (n.natAbs ≤ 1000)) = true) : ∀ n, n ∈ l → n.natAbs ≤ 1000 := fun n hn => of_decide_eq_true (List.all_eq_true.1 h n hn)
theorem lk20 {l : List Int} (h : (l.all fun n => decide (n.natAbs ≤ 1000)) = true) (hl : l.length ≤ 1000) : PFn Tryd.prog 25 [.seq l.length (l.map iA) true] (ExtI l) := list_fn (smallL (sm20 h)) (by omega)
theorem rk20 {l : List Int} (h : (l.all fun n => decide (n.natAbs ≤ 1000)) = true) (hl : l.length ≤ 1000) : PFn Tryd.prog 31 [.seq l.length (l.map iA) true] (RefR l false) := ref_fn (smallL (sm20 h)) (by omega)
theorem ik20 {l : List Int} (h : (l.all fun n => decide (n.natAbs ≤ 1000)) = true) (hl : l.length ≤ 1000) : PFn Tryd.prog 73 [RowA l false, RefR l false] (.bool true) := is20_fn (RB4.small (sm20 h) (by omega)) (by omega)
theorem nk20 {l : List Int} (h : (l.all fun n => decide (n.natAbs ≤ 1000)) = true) (hl : l.length ≤ 10) : NB 1000 10 l := ⟨sm20 h, hl⟩
theorem vk20 {l : List Int} (h : (l.all fun n => decide (n.natAbs ≤ 1000)) = true) (hl : l.length ≤ 10) : VB 20 1000 l := VB.of (nk20 h hl) (by decide) (by decide) (by decide)
theorem iT1 : iText 1 = [49] := iText_of (l := [49]) (n := 1) ⟨by simp, by simp [isDig], by simp⟩ rfl
theorem iT17 : iText 17 = [49, 55] := iText_of (l := [49, 55]) (n := 17) ⟨by simp, by simp [isDig], by simp⟩ rfl
theorem iT11 : iText 11 = [49, 49] := iText_of (l := [49, 49]) (n := 11) ⟨by simp, by simp [isDig], by simp⟩ rfl
theorem iTm2 : iText (-2) = [45, 50] := by
  have h := decT_decV (l := [50]) ⟨by simp, by simp [isDig], by simp⟩
  have e : decV [50] = 2 := rfl
  rw [e] at h
  unfold iText
  rw [if_pos (by omega), show (-2 : Int).natAbs = 2 from rfl, h]; rfl
theorem read_k1 : readR [91, 49, 32, 45, 50, 93] = .ok [1, -2] := by
  have e : rowT [1, -2] = [91, 49, 32, 45, 50, 93] := by simp [rowT, joinT, iT1, iTm2]
  rw [← e]
  exact readR_text (by rw [e]; simp) (by simp)
theorem read_k2 : readR [91, 49] = .bad 2 := by
  have hseg : segP [91, 49] 1 = [49] := by
    simp [segP, isNC]
  obtain ⟨i1, i2, i3⟩ := iText_at 1
  rw [iT1] at i1 i2
  have hp : posP [49] = 1 := posP_of i1
  have i2' : ¬ (1 : Nat) = iFrom [49] := i2
  unfold readR
  rw [if_neg (by simp), if_neg (by decide), if_neg (by decide), if_neg (by decide)]
  show rdF [91, 49] 3 1 [] = _
  unfold rdF
  rw [hseg, hp, if_neg (by simp only [List.length_cons, List.length_nil]; omega), if_neg (by simp), if_pos (by simp)]
  rfl
set_option maxHeartbeats 2000000 in
theorem polyKnown_law : PFn Tryd.prog 18 [] (.bool true) := by
  intro H Q hq
  have sh1 : PFn Tryd.prog 72 [ExtI [1, 2], .int .i64 ((2 : Nat) : Int)] (.tup [RowA [0, 0, 1, 2] false, .int .i64 ((0 : Nat) : Int)]) := shift_fn (n := 2) (zs := [1, 2]) (by omega) (by simp) Wk.I
  have sh2 : PFn Tryd.prog 72 [ExtI [1], .int .i64 (-1)] (.tup [.seq 0 [] true, .int .i64 ((2 : Nat) : Int)]) := shift_neg (by omega)
  have sh3 : PFn Tryd.prog 72 [.seq 0 [] true, .int .i64 ((4097 : Nat) : Int)] (.tup [.seq 0 [] true, .int .i64 ((3 : Nat) : Int)]) := shift_long (by omega)
  have at1 := (at_fn (t := false) (A := 2) (B := 1) (vk20 (l := [1, 2, 3]) rfl (by simp)) (by omega) (by simp) (by simp) rfl).wk (.cons Wk.I (.cons Wk.refl .nil))
  rw [show homP 2 1 [1, 2, 3] = 17 by decide] at at1
  have at2 := (at_fn (t := false) (A := 1) (B := 2) (vk20 (l := [1, 2, 3]) rfl (by simp)) (by omega) (by simp) (by simp) rfl).wk (.cons Wk.I (.cons Wk.refl .nil))
  rw [show homP 1 2 [1, 2, 3] = 11 by decide] at at2
  have at3 := at_bad (zs := []) (t := true) (A := 1) (B := 1) (by simp) (.inl rfl)
  have mu1 := pmul_w (k := 30) (nk20 (l := [0, 0]) rfl (by simp)) (nk20 (l := [1, 2]) rfl (by simp)) (by decide) (by decide) (by decide) (by decide) (by decide) (by decide) Wk.I Wk.I
  rw [show mulP [0, 0] [1, 2] = [0, 0, 0] by decide] at mu1
  have mu2 := pmul_w (k := 30) (nk20 (l := []) rfl (by simp)) (nk20 (l := [1, 2]) rfl (by simp)) (by decide) (by decide) (by decide) (by decide) (by decide) (by decide) (Wk.refl (x := RowA [] true)) Wk.I
  rw [show mulP [] [1, 2] = [] by decide] at mu2
  have rd1 := pread_fn (l := [91, 49, 32, 45, 50, 93]) (by simp)
  rw [read_k1] at rd1
  have rd2 := pread_fn (l := [91, 49]) (by simp)
  rw [read_k2] at rd2
  have tr1 := (ptrim_fn (t := false) (RB4.small (sm20 (l := [1, 0, 2, 0, 0]) rfl) (by simp)) (by omega) (by simp)).wk (.cons Wk.I .nil)
  rw [show trimP [1, 0, 2, 0, 0] = [1, 0, 2] by decide] at tr1
  have tr2 := (ptrim_fn (t := false) (RB4.small (sm20 (l := [0]) rfl) (by simp)) (by omega) (by simp)).wk (.cons Wk.I .nil)
  rw [show trimP [0] = [] by decide] at tr2
  have dg1 := deg_w (k := 20) (nk20 (l := [0, 0, 3, 0]) rfl (by simp)) (by decide) (by decide) (by decide) Wk.I
  rw [show degN [0, 0, 3, 0] = 3 by decide, show dn 3 = ((2 : Nat) : Int) from rfl] at dg1
  have dg2 := deg_w (k := 20) (nk20 (l := [0, 0]) rfl (by simp)) (by decide) (by decide) (by decide) Wk.I
  rw [show degN [0, 0] = 0 by decide, dn_zero] at dg2
  have sm1 := psame_w (k := 20) (nk20 (l := [1, 2]) rfl (by simp)) (nk20 (l := [1, 2, 0]) rfl (by simp)) (by decide) (by decide) (by decide) (by decide) (by decide) Wk.I Wk.I
  rw [show decide (trimP [1, 2] = trimP [1, 2, 0]) = true by decide] at sm1
  have ad1 := padd_fn (k := 20) (nk20 (l := [1, 2, 3]) rfl (by simp)) (nk20 (l := [4, 5]) rfl (by simp)) (by decide) (by decide) (by decide) (by decide) (by decide) Wk.I Wk.I
  rw [show addP [1, 2, 3] [4, 5] = [5, 7, 3] by decide] at ad1
  have su1 := psub_fn (k := 20) (nk20 (l := []) rfl (by simp)) (nk20 (l := [1, 2]) rfl (by simp)) (by decide) (by decide) (by decide) (by decide) (by decide) (Wk.refl (x := RowA [] true)) Wk.I
  rw [show subP [] [1, 2] = [-1, -2] by decide] at su1
  have sc1 := pscale_fn (t := false) (c := -3) (RB4.small (sm20 (l := [1, -2]) rfl) (by simp)) (Bd.i64 (n := -3) (by omega)) (by omega) (by simp) Wk.I
  rw [show scaleP [1, -2] (-3) = [-3, 6] by decide] at sc1
  have ofm : PFn Tryd.prog 58 [.int .i64 (-3)] (IntA (-3)) := of_fn (by omega)
  have tx1 := itext_fn (x := 17) (Bd.i64 (by omega)) (by omega)
  rw [iT17] at tx1
  have tx2 := itext_fn (x := 11) (Bd.i64 (by omega)) (by omega)
  rw [iT11] at tx2
  have pt21 : AV.agg [.int .i64 ((2 : Nat) : Int), .int .i64 ((1 : Nat) : Int)] = PtA 2 1 := rfl
  have pt12 : AV.agg [.int .i64 ((1 : Nat) : Int), .int .i64 ((2 : Nat) : Int)] = PtA 1 2 := rfl
  have pt11 : AV.agg [.int .i64 ((1 : Nat) : Int), .int .i64 ((1 : Nat) : Int)] = PtA 1 1 := rfl
  have z1 : AV.str ⟨#[91, 49, 32, 45, 50, 93]⟩ = Sx [91, 49, 32, 45, 50, 93] := rfl
  have z2 : AV.str ⟨#[91, 49]⟩ = Sx [91, 49] := rfl
  have z3 : AV.str ⟨#[49, 55]⟩ = Sx [49, 55] := rfl
  have z4 : AV.str ⟨#[49, 49]⟩ = Sx [49, 49] := rfl
  have hbf : (false != true) = true := rfl
  have hd0 : decide (((0 : Nat) : Int) = ((0 : Nat) : Int)) = true := rfl
  have hd6 : decide (((6 : Nat) : Int) = ((6 : Nat) : Int)) = true := rfl
  have hd2 : decide (((2 : Nat) : Int) = ((2 : Nat) : Int)) = true := rfl
  have n0 : (0 : Nat) < 9223372036854775808 := by omega
  have ln0 : ∀ K, lenW false (RowA [] false) K = K (.int .i64 ((0 : Nat) : Int)) := fun K => len_rw (by simp)
  have hm1 : decide ((-1 : Int) = -1) = true := rfl
  refine enter18 (by simp) ?_
  simp (disch := first | assumption | (apply Ap.symm; assumption) | omega | decide | (simp only [Xd] <;> omega)) only [ac18, ↓Xa, Xb, Xc, ↓reduceIte, Nat.reduceLT, Nat.reduceEqDiff, Nat.reduceBEq, Nat.reduceLeDiff, Nat.reduceAdd, Nat.reduceMul]
  refine (works20_fn).call ?_
  simp (disch := first | assumption | (apply Ap.symm; assumption) | omega | decide | (simp only [Xd] <;> omega)) only [↓Xa, Xb, Xc, ↓reduceIte, Nat.reduceLT, Nat.reduceEqDiff, Nat.reduceBEq, Nat.reduceLeDiff, Nat.reduceAdd, Nat.reduceMul]
  refine (lk20 (l := [1, 2]) rfl (by simp)).call ?_
  simp (disch := first | assumption | (apply Ap.symm; assumption) | omega | decide | (simp only [Xd] <;> omega)) only [↓Xa, Xb, Xc, ↓reduceIte, Nat.reduceLT, Nat.reduceEqDiff, Nat.reduceBEq, Nat.reduceLeDiff, Nat.reduceAdd, Nat.reduceMul]
  refine (sh1).call ?_
  simp (disch := first | assumption | (apply Ap.symm; assumption) | omega | decide | (simp only [Xd] <;> omega)) only [↓Xa, Xb, Xc, ↓reduceIte, Nat.reduceLT, Nat.reduceEqDiff, Nat.reduceBEq, Nat.reduceLeDiff, Nat.reduceAdd, Nat.reduceMul]
  refine (lk20 (l := [1]) rfl (by simp)).call ?_
  simp (disch := first | assumption | (apply Ap.symm; assumption) | omega | decide | (simp only [Xd] <;> omega)) only [↓Xa, Xb, Xc, ↓reduceIte, Nat.reduceLT, Nat.reduceEqDiff, Nat.reduceBEq, Nat.reduceLeDiff, Nat.reduceAdd, Nat.reduceMul]
  refine (sh2).call ?_
  simp (disch := first | assumption | (apply Ap.symm; assumption) | omega | decide | (simp only [Xd] <;> omega)) only [↓Xa, Xb, Xc, ↓reduceIte, Nat.reduceLT, Nat.reduceEqDiff, Nat.reduceBEq, Nat.reduceLeDiff, Nat.reduceAdd, Nat.reduceMul]
  refine (sh3).call ?_
  simp (disch := first | assumption | (apply Ap.symm; assumption) | omega | decide | (simp only [Xd] <;> omega)) only [↓Xa, Xb, Xc, ↓reduceIte, Nat.reduceLT, Nat.reduceEqDiff, Nat.reduceBEq, Nat.reduceLeDiff, Nat.reduceAdd, Nat.reduceMul]
  refine (lk20 (l := [1, 2, 3]) rfl (by simp)).call ?_
  simp (disch := first | assumption | (apply Ap.symm; assumption) | omega | decide | (simp only [Xd] <;> omega)) only [pt21, ↓Xa, Xb, Xc, ↓reduceIte, Nat.reduceLT, Nat.reduceEqDiff, Nat.reduceBEq, Nat.reduceLeDiff, Nat.reduceAdd, Nat.reduceMul]
  refine (at1).call ?_
  simp (disch := first | assumption | (apply Ap.symm; assumption) | omega | decide | (simp only [Xd] <;> omega)) only [↓Xa, Xb, Xc, ↓reduceIte, Nat.reduceLT, Nat.reduceEqDiff, Nat.reduceBEq, Nat.reduceLeDiff, Nat.reduceAdd, Nat.reduceMul]
  refine alloc_i fun p7 hp7 => ?_
  simp (disch := first | assumption | (apply Ap.symm; assumption) | omega | decide | (simp only [Xd] <;> omega)) only [cells_IntA, ↓Xa, Xb, Xc, ↓reduceIte, Nat.reduceLT, Nat.reduceEqDiff, Nat.reduceBEq, Nat.reduceLeDiff, Nat.reduceAdd, Nat.reduceMul]
  refine (lk20 (l := [1, 2, 3]) rfl (by simp)).call ?_
  simp (disch := first | assumption | (apply Ap.symm; assumption) | omega | decide | (simp only [Xd] <;> omega)) only [pt12, ↓Xa, Xb, Xc, ↓reduceIte, Nat.reduceLT, Nat.reduceEqDiff, Nat.reduceBEq, Nat.reduceLeDiff, Nat.reduceAdd, Nat.reduceMul]
  refine (at2).call ?_
  simp (disch := first | assumption | (apply Ap.symm; assumption) | omega | decide | (simp only [Xd] <;> omega)) only [↓Xa, Xb, Xc, ↓reduceIte, Nat.reduceLT, Nat.reduceEqDiff, Nat.reduceBEq, Nat.reduceLeDiff, Nat.reduceAdd, Nat.reduceMul]
  refine alloc_i fun p9 hp9 => ?_
  obtain ⟨a_p9_p7, hp9⟩ := upd_none.1 hp9
  have b_p9_p7 := a_p9_p7.symm
  simp (disch := first | assumption | (apply Ap.symm; assumption) | omega | decide | (simp only [Xd] <;> omega)) only [cells_IntA, a_p9_p7, b_p9_p7, pt11, ↓Xa, Xb, Xc, ↓reduceIte, Nat.reduceLT, Nat.reduceEqDiff, Nat.reduceBEq, Nat.reduceLeDiff, Nat.reduceAdd, Nat.reduceMul]
  refine (at3).call ?_
  simp (disch := first | assumption | (apply Ap.symm; assumption) | omega | decide | (simp only [Xd] <;> omega)) only [↓Xa, Xb, Xc, ↓reduceIte, Nat.reduceLT, Nat.reduceEqDiff, Nat.reduceBEq, Nat.reduceLeDiff, Nat.reduceAdd, Nat.reduceMul]
  refine alloc_i fun p11 hp11 => ?_
  obtain ⟨a_p11_p9, hp11⟩ := upd_none.1 hp11
  have b_p11_p9 := a_p11_p9.symm
  obtain ⟨a_p11_p7, hp11⟩ := upd_none.1 hp11
  have b_p11_p7 := a_p11_p7.symm
  simp (disch := first | assumption | (apply Ap.symm; assumption) | omega | decide | (simp only [Xd] <;> omega)) only [cells_IntA, a_p9_p7, b_p9_p7, a_p11_p7, b_p11_p7, a_p11_p9, b_p11_p9, ↓Xa, Xb, Xc, ↓reduceIte, Nat.reduceLT, Nat.reduceEqDiff, Nat.reduceBEq, Nat.reduceLeDiff, Nat.reduceAdd, Nat.reduceMul]
  refine (lk20 (l := [0, 0]) rfl (by simp)).call ?_
  simp (disch := first | assumption | (apply Ap.symm; assumption) | omega | decide | (simp only [Xd] <;> omega)) only [↓Xa, Xb, Xc, ↓reduceIte, Nat.reduceLT, Nat.reduceEqDiff, Nat.reduceBEq, Nat.reduceLeDiff, Nat.reduceAdd, Nat.reduceMul]
  refine (lk20 (l := [1, 2]) rfl (by simp)).call ?_
  simp (disch := first | assumption | (apply Ap.symm; assumption) | omega | decide | (simp only [Xd] <;> omega)) only [↓Xa, Xb, Xc, ↓reduceIte, Nat.reduceLT, Nat.reduceEqDiff, Nat.reduceBEq, Nat.reduceLeDiff, Nat.reduceAdd, Nat.reduceMul]
  refine (mu1).call ?_
  simp (disch := first | assumption | (apply Ap.symm; assumption) | omega | decide | (simp only [Xd] <;> omega)) only [↓Xa, Xb, Xc, ↓reduceIte, Nat.reduceLT, Nat.reduceEqDiff, Nat.reduceBEq, Nat.reduceLeDiff, Nat.reduceAdd, Nat.reduceMul]
  refine (lk20 (l := [1, 2]) rfl (by simp)).call ?_
  simp (disch := first | assumption | (apply Ap.symm; assumption) | omega | decide | (simp only [Xd] <;> omega)) only [↓Xa, Xb, Xc, ↓reduceIte, Nat.reduceLT, Nat.reduceEqDiff, Nat.reduceBEq, Nat.reduceLeDiff, Nat.reduceAdd, Nat.reduceMul]
  refine (mu2).call ?_
  simp (disch := first | assumption | (apply Ap.symm; assumption) | omega | decide | (simp only [Xd] <;> omega)) only [z1, ↓Xa, Xb, Xc, ↓reduceIte, Nat.reduceLT, Nat.reduceEqDiff, Nat.reduceBEq, Nat.reduceLeDiff, Nat.reduceAdd, Nat.reduceMul]
  refine (show PFn _ _ _ (.tup [RowA [1, -2] false, spot 0 0]) from rd1).call ?_
  simp (disch := first | assumption | (apply Ap.symm; assumption) | omega | decide | (simp only [Xd] <;> omega)) only [↓Xa, Xb, Xc, ↓reduceIte, Nat.reduceLT, Nat.reduceEqDiff, Nat.reduceBEq, Nat.reduceLeDiff, Nat.reduceAdd, Nat.reduceMul]
  refine alloc_i fun p18 hp18 => ?_
  obtain ⟨a_p18_p11, hp18⟩ := upd_none.1 hp18
  have b_p18_p11 := a_p18_p11.symm
  obtain ⟨a_p18_p9, hp18⟩ := upd_none.1 hp18
  have b_p18_p9 := a_p18_p9.symm
  obtain ⟨a_p18_p7, hp18⟩ := upd_none.1 hp18
  have b_p18_p7 := a_p18_p7.symm
  simp (disch := first | assumption | (apply Ap.symm; assumption) | omega | decide | (simp only [Xd] <;> omega)) only [cells_spot, z2, a_p9_p7, b_p9_p7, a_p11_p7, b_p11_p7, a_p11_p9, b_p11_p9, a_p18_p7, b_p18_p7, a_p18_p9, b_p18_p9, a_p18_p11, b_p18_p11, ↓Xa, Xb, Xc, ↓reduceIte, Nat.reduceLT, Nat.reduceEqDiff, Nat.reduceBEq, Nat.reduceLeDiff, Nat.reduceAdd, Nat.reduceMul]
  refine (show PFn _ _ _ (.tup [RowA [] false, spot 6 2]) from rd2).call ?_
  simp (disch := first | assumption | (apply Ap.symm; assumption) | omega | decide | (simp only [Xd] <;> omega)) only [↓Xa, Xb, Xc, ↓reduceIte, Nat.reduceLT, Nat.reduceEqDiff, Nat.reduceBEq, Nat.reduceLeDiff, Nat.reduceAdd, Nat.reduceMul]
  refine alloc_i fun p20 hp20 => ?_
  obtain ⟨a_p20_p18, hp20⟩ := upd_none.1 hp20
  have b_p20_p18 := a_p20_p18.symm
  obtain ⟨a_p20_p11, hp20⟩ := upd_none.1 hp20
  have b_p20_p11 := a_p20_p11.symm
  obtain ⟨a_p20_p9, hp20⟩ := upd_none.1 hp20
  have b_p20_p9 := a_p20_p9.symm
  obtain ⟨a_p20_p7, hp20⟩ := upd_none.1 hp20
  have b_p20_p7 := a_p20_p7.symm
  simp (disch := first | assumption | (apply Ap.symm; assumption) | omega | decide | (simp only [Xd] <;> omega)) only [cells_spot, a_p9_p7, b_p9_p7, a_p11_p7, b_p11_p7, a_p11_p9, b_p11_p9, a_p18_p7, b_p18_p7, a_p18_p9, b_p18_p9, a_p18_p11, b_p18_p11, a_p20_p7, b_p20_p7, a_p20_p9, b_p20_p9, a_p20_p11, b_p20_p11, a_p20_p18, b_p20_p18, ↓Xa, Xb, Xc, ↓reduceIte, Nat.reduceLT, Nat.reduceEqDiff, Nat.reduceBEq, Nat.reduceLeDiff, Nat.reduceAdd, Nat.reduceMul]
  refine (lk20 (l := [1, 0, 2, 0, 0]) rfl (by simp)).call ?_
  simp (disch := first | assumption | (apply Ap.symm; assumption) | omega | decide | (simp only [Xd] <;> omega)) only [↓Xa, Xb, Xc, ↓reduceIte, Nat.reduceLT, Nat.reduceEqDiff, Nat.reduceBEq, Nat.reduceLeDiff, Nat.reduceAdd, Nat.reduceMul]
  refine (tr1).call ?_
  simp (disch := first | assumption | (apply Ap.symm; assumption) | omega | decide | (simp only [Xd] <;> omega)) only [↓Xa, Xb, Xc, ↓reduceIte, Nat.reduceLT, Nat.reduceEqDiff, Nat.reduceBEq, Nat.reduceLeDiff, Nat.reduceAdd, Nat.reduceMul]
  refine (rk20 (l := [1, 0, 2]) rfl (by simp)).call ?_
  simp (disch := first | assumption | (apply Ap.symm; assumption) | omega | decide | (simp only [Xd] <;> omega)) only [↓Xa, Xb, Xc, ↓reduceIte, Nat.reduceLT, Nat.reduceEqDiff, Nat.reduceBEq, Nat.reduceLeDiff, Nat.reduceAdd, Nat.reduceMul]
  refine (ik20 (l := [1, 0, 2]) rfl (by simp)).call ?_
  simp (disch := first | assumption | (apply Ap.symm; assumption) | omega | decide | (simp only [Xd] <;> omega)) only [↓Xa, Xb, Xc, ↓reduceIte, Nat.reduceLT, Nat.reduceEqDiff, Nat.reduceBEq, Nat.reduceLeDiff, Nat.reduceAdd, Nat.reduceMul]
  refine (lk20 (l := [0]) rfl (by simp)).call ?_
  simp (disch := first | assumption | (apply Ap.symm; assumption) | omega | decide | (simp only [Xd] <;> omega)) only [↓Xa, Xb, Xc, ↓reduceIte, Nat.reduceLT, Nat.reduceEqDiff, Nat.reduceBEq, Nat.reduceLeDiff, Nat.reduceAdd, Nat.reduceMul]
  refine (tr2).call ?_
  simp (disch := first | assumption | (apply Ap.symm; assumption) | omega | decide | (simp only [Xd] <;> omega)) only [ln0, eql_int, hd0, ↓Xa, Xb, Xc, ↓reduceIte, Nat.reduceLT, Nat.reduceEqDiff, Nat.reduceBEq, Nat.reduceLeDiff, Nat.reduceAdd, Nat.reduceMul]
  refine (lk20 (l := [0, 0, 3, 0]) rfl (by simp)).call ?_
  simp (disch := first | assumption | (apply Ap.symm; assumption) | omega | decide | (simp only [Xd] <;> omega)) only [↓Xa, Xb, Xc, ↓reduceIte, Nat.reduceLT, Nat.reduceEqDiff, Nat.reduceBEq, Nat.reduceLeDiff, Nat.reduceAdd, Nat.reduceMul]
  refine (dg1).call ?_
  simp (disch := first | assumption | (apply Ap.symm; assumption) | omega | decide | (simp only [Xd] <;> omega)) only [eql_int, hd2, ↓Xa, Xb, Xc, ↓reduceIte, Nat.reduceLT, Nat.reduceEqDiff, Nat.reduceBEq, Nat.reduceLeDiff, Nat.reduceAdd, Nat.reduceMul]
  refine (lk20 (l := [0, 0]) rfl (by simp)).call ?_
  simp (disch := first | assumption | (apply Ap.symm; assumption) | omega | decide | (simp only [Xd] <;> omega)) only [↓Xa, Xb, Xc, ↓reduceIte, Nat.reduceLT, Nat.reduceEqDiff, Nat.reduceBEq, Nat.reduceLeDiff, Nat.reduceAdd, Nat.reduceMul]
  refine (dg2).call ?_
  simp (disch := first | assumption | (apply Ap.symm; assumption) | omega | decide | (simp only [Xd] <;> omega)) only [eql_int, hm1, ↓Xa, Xb, Xc, ↓reduceIte, Nat.reduceLT, Nat.reduceEqDiff, Nat.reduceBEq, Nat.reduceLeDiff, Nat.reduceAdd, Nat.reduceMul]
  refine (lk20 (l := [1, 2]) rfl (by simp)).call ?_
  simp (disch := first | assumption | (apply Ap.symm; assumption) | omega | decide | (simp only [Xd] <;> omega)) only [↓Xa, Xb, Xc, ↓reduceIte, Nat.reduceLT, Nat.reduceEqDiff, Nat.reduceBEq, Nat.reduceLeDiff, Nat.reduceAdd, Nat.reduceMul]
  refine (lk20 (l := [1, 2, 0]) rfl (by simp)).call ?_
  simp (disch := first | assumption | (apply Ap.symm; assumption) | omega | decide | (simp only [Xd] <;> omega)) only [↓Xa, Xb, Xc, ↓reduceIte, Nat.reduceLT, Nat.reduceEqDiff, Nat.reduceBEq, Nat.reduceLeDiff, Nat.reduceAdd, Nat.reduceMul]
  refine (sm1).call ?_
  simp (disch := first | assumption | (apply Ap.symm; assumption) | omega | decide | (simp only [Xd] <;> omega)) only [↓Xa, Xb, Xc, ↓reduceIte, Nat.reduceLT, Nat.reduceEqDiff, Nat.reduceBEq, Nat.reduceLeDiff, Nat.reduceAdd, Nat.reduceMul]
  refine (lk20 (l := [1, 2, 3]) rfl (by simp)).call ?_
  simp (disch := first | assumption | (apply Ap.symm; assumption) | omega | decide | (simp only [Xd] <;> omega)) only [↓Xa, Xb, Xc, ↓reduceIte, Nat.reduceLT, Nat.reduceEqDiff, Nat.reduceBEq, Nat.reduceLeDiff, Nat.reduceAdd, Nat.reduceMul]
  refine (lk20 (l := [4, 5]) rfl (by simp)).call ?_
  simp (disch := first | assumption | (apply Ap.symm; assumption) | omega | decide | (simp only [Xd] <;> omega)) only [↓Xa, Xb, Xc, ↓reduceIte, Nat.reduceLT, Nat.reduceEqDiff, Nat.reduceBEq, Nat.reduceLeDiff, Nat.reduceAdd, Nat.reduceMul]
  refine (ad1).call ?_
  simp (disch := first | assumption | (apply Ap.symm; assumption) | omega | decide | (simp only [Xd] <;> omega)) only [↓Xa, Xb, Xc, ↓reduceIte, Nat.reduceLT, Nat.reduceEqDiff, Nat.reduceBEq, Nat.reduceLeDiff, Nat.reduceAdd, Nat.reduceMul]
  refine (rk20 (l := [5, 7, 3]) rfl (by simp)).call ?_
  simp (disch := first | assumption | (apply Ap.symm; assumption) | omega | decide | (simp only [Xd] <;> omega)) only [↓Xa, Xb, Xc, ↓reduceIte, Nat.reduceLT, Nat.reduceEqDiff, Nat.reduceBEq, Nat.reduceLeDiff, Nat.reduceAdd, Nat.reduceMul]
  refine (ik20 (l := [5, 7, 3]) rfl (by simp)).call ?_
  simp (disch := first | assumption | (apply Ap.symm; assumption) | omega | decide | (simp only [Xd] <;> omega)) only [↓Xa, Xb, Xc, ↓reduceIte, Nat.reduceLT, Nat.reduceEqDiff, Nat.reduceBEq, Nat.reduceLeDiff, Nat.reduceAdd, Nat.reduceMul]
  refine (lk20 (l := [1, 2]) rfl (by simp)).call ?_
  simp (disch := first | assumption | (apply Ap.symm; assumption) | omega | decide | (simp only [Xd] <;> omega)) only [↓Xa, Xb, Xc, ↓reduceIte, Nat.reduceLT, Nat.reduceEqDiff, Nat.reduceBEq, Nat.reduceLeDiff, Nat.reduceAdd, Nat.reduceMul]
  refine (su1).call ?_
  simp (disch := first | assumption | (apply Ap.symm; assumption) | omega | decide | (simp only [Xd] <;> omega)) only [↓Xa, Xb, Xc, ↓reduceIte, Nat.reduceLT, Nat.reduceEqDiff, Nat.reduceBEq, Nat.reduceLeDiff, Nat.reduceAdd, Nat.reduceMul]
  refine (rk20 (l := [-1, -2]) rfl (by simp)).call ?_
  simp (disch := first | assumption | (apply Ap.symm; assumption) | omega | decide | (simp only [Xd] <;> omega)) only [↓Xa, Xb, Xc, ↓reduceIte, Nat.reduceLT, Nat.reduceEqDiff, Nat.reduceBEq, Nat.reduceLeDiff, Nat.reduceAdd, Nat.reduceMul]
  refine (ik20 (l := [-1, -2]) rfl (by simp)).call ?_
  simp (disch := first | assumption | (apply Ap.symm; assumption) | omega | decide | (simp only [Xd] <;> omega)) only [↓Xa, Xb, Xc, ↓reduceIte, Nat.reduceLT, Nat.reduceEqDiff, Nat.reduceBEq, Nat.reduceLeDiff, Nat.reduceAdd, Nat.reduceMul]
  refine (lk20 (l := [1, -2]) rfl (by simp)).call ?_
  simp (disch := first | assumption | (apply Ap.symm; assumption) | omega | decide | (simp only [Xd] <;> omega)) only [↓Xa, Xb, Xc, ↓reduceIte, Nat.reduceLT, Nat.reduceEqDiff, Nat.reduceBEq, Nat.reduceLeDiff, Nat.reduceAdd, Nat.reduceMul]
  refine (ofm).call ?_
  simp (disch := first | assumption | (apply Ap.symm; assumption) | omega | decide | (simp only [Xd] <;> omega)) only [↓Xa, Xb, Xc, ↓reduceIte, Nat.reduceLT, Nat.reduceEqDiff, Nat.reduceBEq, Nat.reduceLeDiff, Nat.reduceAdd, Nat.reduceMul]
  refine (sc1).call ?_
  simp (disch := first | assumption | (apply Ap.symm; assumption) | omega | decide | (simp only [Xd] <;> omega)) only [↓Xa, Xb, Xc, ↓reduceIte, Nat.reduceLT, Nat.reduceEqDiff, Nat.reduceBEq, Nat.reduceLeDiff, Nat.reduceAdd, Nat.reduceMul]
  refine (rk20 (l := [-3, 6]) rfl (by simp)).call ?_
  simp (disch := first | assumption | (apply Ap.symm; assumption) | omega | decide | (simp only [Xd] <;> omega)) only [↓Xa, Xb, Xc, ↓reduceIte, Nat.reduceLT, Nat.reduceEqDiff, Nat.reduceBEq, Nat.reduceLeDiff, Nat.reduceAdd, Nat.reduceMul]
  refine (ik20 (l := [-3, 6]) rfl (by simp)).call ?_
  simp (disch := first | assumption | (apply Ap.symm; assumption) | omega | decide | (simp only [Xd] <;> omega)) only [eql_int, hd0, ↓Xa, Xb, Xc, ↓reduceIte, Nat.reduceLT, Nat.reduceEqDiff, Nat.reduceBEq, Nat.reduceLeDiff, Nat.reduceAdd, Nat.reduceMul]
  refine (rk20 (l := [0, 0, 1, 2]) rfl (by simp)).call ?_
  simp (disch := first | assumption | (apply Ap.symm; assumption) | omega | decide | (simp only [Xd] <;> omega)) only [↓Xa, Xb, Xc, ↓reduceIte, Nat.reduceLT, Nat.reduceEqDiff, Nat.reduceBEq, Nat.reduceLeDiff, Nat.reduceAdd, Nat.reduceMul]
  refine (ik20 (l := [0, 0, 1, 2]) rfl (by simp)).call ?_
  simp (disch := first | assumption | (apply Ap.symm; assumption) | omega | decide | (simp only [Xd] <;> omega)) only [eql_int, hd0, fold_IntA, a_p9_p7, b_p9_p7, a_p11_p7, b_p11_p7, a_p11_p9, b_p11_p9, a_p18_p7, b_p18_p7, a_p18_p9, b_p18_p9, a_p18_p11, b_p18_p11, a_p20_p7, b_p20_p7, a_p20_p9, b_p20_p9, a_p20_p11, b_p20_p11, a_p20_p18, b_p20_p18, ↓Xa, Xb, Xc, ↓reduceIte, Nat.reduceLT, Nat.reduceEqDiff, Nat.reduceBEq, Nat.reduceLeDiff, Nat.reduceAdd, Nat.reduceMul]
  refine (tx1).call ?_
  simp (disch := first | assumption | (apply Ap.symm; assumption) | omega | decide | (simp only [Xd] <;> omega)) only [z3, eql_Sx, decide_true, eql_int, hd0, fold_IntA, a_p9_p7, b_p9_p7, a_p11_p7, b_p11_p7, a_p11_p9, b_p11_p9, a_p18_p7, b_p18_p7, a_p18_p9, b_p18_p9, a_p18_p11, b_p18_p11, a_p20_p7, b_p20_p7, a_p20_p9, b_p20_p9, a_p20_p11, b_p20_p11, a_p20_p18, b_p20_p18, ↓Xa, Xb, Xc, ↓reduceIte, Nat.reduceLT, Nat.reduceEqDiff, Nat.reduceBEq, Nat.reduceLeDiff, Nat.reduceAdd, Nat.reduceMul]
  refine (tx2).call ?_
  simp (disch := first | assumption | (apply Ap.symm; assumption) | omega | decide | (simp only [Xd] <;> omega)) only [z4, eql_Sx, decide_true, eql_int, hd0, fold_IntA, a_p9_p7, b_p9_p7, a_p11_p7, b_p11_p7, a_p11_p9, b_p11_p9, a_p18_p7, b_p18_p7, a_p18_p9, b_p18_p9, a_p18_p11, b_p18_p11, a_p20_p7, b_p20_p7, a_p20_p9, b_p20_p9, a_p20_p11, b_p20_p11, a_p20_p18, b_p20_p18, ↓Xa, Xb, Xc, ↓reduceIte, Nat.reduceLT, Nat.reduceEqDiff, Nat.reduceBEq, Nat.reduceLeDiff, Nat.reduceAdd, Nat.reduceMul]
  refine (rk20 (l := [0, 0, 0]) rfl (by simp)).call ?_
  simp (disch := first | assumption | (apply Ap.symm; assumption) | omega | decide | (simp only [Xd] <;> omega)) only [↓Xa, Xb, Xc, ↓reduceIte, Nat.reduceLT, Nat.reduceEqDiff, Nat.reduceBEq, Nat.reduceLeDiff, Nat.reduceAdd, Nat.reduceMul]
  refine (ik20 (l := [0, 0, 0]) rfl (by simp)).call ?_
  simp (disch := first | assumption | (apply Ap.symm; assumption) | omega | decide | (simp only [Xd] <;> omega)) only [ln0, eql_int, hd0, aeq_ii, hbf, a_p9_p7, b_p9_p7, a_p11_p7, b_p11_p7, a_p11_p9, b_p11_p9, a_p18_p7, b_p18_p7, a_p18_p9, b_p18_p9, a_p18_p11, b_p18_p11, a_p20_p7, b_p20_p7, a_p20_p9, b_p20_p9, a_p20_p11, b_p20_p11, a_p20_p18, b_p20_p18, ↓Xa, Xb, Xc, ↓reduceIte, Nat.reduceLT, Nat.reduceEqDiff, Nat.reduceBEq, Nat.reduceLeDiff, Nat.reduceAdd, Nat.reduceMul]
  refine (rk20 (l := [1, -2]) rfl (by simp)).call ?_
  simp (disch := first | assumption | (apply Ap.symm; assumption) | omega | decide | (simp only [Xd] <;> omega)) only [↓Xa, Xb, Xc, ↓reduceIte, Nat.reduceLT, Nat.reduceEqDiff, Nat.reduceBEq, Nat.reduceLeDiff, Nat.reduceAdd, Nat.reduceMul]
  refine (ik20 (l := [1, -2]) rfl (by simp)).call ?_
  simp (disch := first | assumption | (apply Ap.symm; assumption) | omega | decide | (simp only [Xd] <;> omega)) only [eql_int, hd6, hd2, aeq_ii, hbf, rs18, a_p9_p7, b_p9_p7, a_p11_p7, b_p11_p7, a_p11_p9, b_p11_p9, a_p18_p7, b_p18_p7, a_p18_p9, b_p18_p9, a_p18_p11, b_p18_p11, a_p20_p7, b_p20_p7, a_p20_p9, b_p20_p9, a_p20_p11, b_p20_p11, a_p20_p18, b_p20_p18, ↓Xa, Xb, Xc, ↓reduceIte, Nat.reduceLT, Nat.reduceEqDiff, Nat.reduceBEq, Nat.reduceLeDiff, Nat.reduceAdd, Nat.reduceMul]
  exact SetR.dropTo ((((((Le.refl H).updB hp7).updB hp9).updB hp11).updB hp18).updB hp20) (SetR.now hq)
end Go.Proofs.YtanchgkiomfhhaaDoor.Fw
