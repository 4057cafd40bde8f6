/- The texts FwZ FwV Ql, joined. -/
import Derived.Test.YtanchgkiomfhhaaDoorZ9
import Derived.ProofKit
import Derived.Lib.SmallJoins
import Derived.SizedLaws
import Derived.OpenShut
import Derived.ShutString
import Derived.ChangeOld
import Derived.Below
import Derived.Deep.SlicePairs
/- The framework, part Z: from what a law's code computes to the row: its arguments, its memory. -/
namespace Go.Proofs.YtanchgkiomfhhaaDoor.Fw
set_option linter.unusedSimpArgs false
set_option linter.unusedVariables false
open Go Go.Proofs.YtanchgkiomfhhaaDoor.Ma Go.ChangeShapes Go.WideShapes Go.ChangeAt Go.RowKit

def ctx0 (w : World) : Ctx := ⟨fun _ => 0, fun _ => False, fun _ => False, fun _ => none, w⟩
theorem ctx0_ok (w : World) : Ok (ctx0 w) :=
  ⟨fun _ h => absurd rfl h, ⟨0, fun _ h => h.elim False.elim False.elim⟩, fun _ _ h _ _ => absurd rfl h, fun _ _ h => by cases h⟩
theorem ctx0_mut {w : World} {k : Nat} : ¬ Mut (ctx0 w) k := fun ⟨_, h, _⟩ => h
theorem below_of_later {w : World} {c : Ctx} (h : Later (ctx0 w) c) : Below w.heap.size w c.w :=
  ⟨h.os, h.tape, h.output, h.size, fun k hk => (h.keep k hk ctx0_mut).1⟩
theorem law_calls {P : Program} {f : FuncId} {args : List AV} (h : PFn P f args (.bool true)) (w : World) (vs : Array Value) (hn : vs.size = args.length) (he : ∀ i (h : i < args.length) (h' : i < vs.size), Enc (ctx0 w) (args[i]) (vs[i])) :
    Calls P f vs w fun e w' => e = .returned (.bool true) ∧ Below w.heap.size w w' := by
  refine ((h (fun _ => none) (fun r _ => r = .bool true) rfl).2 (ctx0 w) vs rfl (ctx0_ok w) hn he).mono ?_
  rintro e w' ⟨c, v, r, rfl, rfl, _, hl, hr, rfl⟩
  cases hr
  exact ⟨rfl, below_of_later hl⟩

section
variable {H : Type} {enc : TypeId × Value → H} {P : Program} {w : World} {base : Nat} {held : Bool}
theorem spot_none {a : Addr} {v : Value} (h : w.cell? a = some v) : a.spot = none ∧ a.block < w.heap.size := by
  unfold World.cell? at h
  split at h
  · rename_i hb
    split at h
    · cases h
    · rename_i hs
      exact ⟨by cases e : a.spot with
        | none => rfl
        | some x => rw [e] at hs; exact absurd rfl hs, (Array.getElem?_eq_some_iff.1 hb).1⟩
  · cases h
theorem addr_eta {a : Addr} (h : a.spot = none) : a = ⟨a.block, a.off, none⟩ := by cases a; simp_all
theorem addr_add {a : Addr} (h : a.spot = none) (i : Nat) : a.add i = ⟨a.block, a.off + i, none⟩ := by
  unfold Addr.add
  split
  · rename_i e; subst e; exact addr_eta h
  · rfl
end
end Go.Proofs.YtanchgkiomfhhaaDoor.Fw

/- The framework, part V: rows of pairs, of whole numbers, that are handed in. -/
namespace Go.Proofs.YtanchgkiomfhhaaDoor.Fw
set_option linter.unusedSimpArgs false
set_option linter.unusedVariables false
open Go Go.Proofs.YtanchgkiomfhhaaDoor.Ma Go.ChangeShapes Go.WideShapes Go.ChangeAt Go.RowKit

theorem pair_len {α : Type} {c0 c1 : α → AV} (l : List α) : (l.flatMap fun q => [c0 q, c1 q]).length = 2 * l.length := by
  induction l with
  | nil => rfl
  | cons a l ih => simp only [List.flatMap_cons, List.length_append, List.length_cons, List.length_nil, ih]; omega
theorem pair_get {α : Type} {c0 c1 : α → AV} : ∀ (l : List α) (i : Nat) (h : i < (l.flatMap fun q => [c0 q, c1 q]).length), ∃ (k : Nat) (hk : k < l.length), (i = 2 * k ∧ (l.flatMap fun q => [c0 q, c1 q])[i] = c0 l[k]) ∨ (i = 2 * k + 1 ∧ (l.flatMap fun q => [c0 q, c1 q])[i] = c1 l[k])
  | [], i, h => absurd h (by simp)
  | a :: l, 0, _ => ⟨0, by simp, .inl ⟨rfl, rfl⟩⟩
  | a :: l, 1, _ => ⟨0, by simp, .inr ⟨rfl, rfl⟩⟩
  | a :: l, i + 2, h => by
    obtain ⟨k, hk, h⟩ := pair_get l i (by rw [pair_len (c0 := c0) (c1 := c1)] at h ⊢; simp only [List.length_cons] at h; omega)
    refine ⟨k + 1, by simpa using hk, ?_⟩
    rcases h with ⟨e, h⟩ | ⟨e, h⟩
    · exact .inl ⟨by omega, by simpa using h⟩
    · exact .inr ⟨by omega, by simpa using h⟩
section
variable {H : Type} {enc : TypeId × Value → H} {P : Program} {w : World} {base : Nat} {held : Bool}
theorem seq_nil {c : Ctx} : Enc c (.seq 0 [] false) (.slice none 0 0) :=
  .seq 0 [] false none 0 (fun _ => .bool true) (fun _ => rfl) (Nat.le_refl _) (by omega) (fun e => by cases e) (fun h => absurd h (by simp)) (.inl rfl) (fun i h => absurd h (by simp))
theorem wts_all {e : TypeId} {p : Nat → Bool} : ∀ {ds : List (DataW H)} {d : DataW H}, (DataW.weightsAll P e ds).all p = true → d ∈ ds → (d.weights P e).all p = true
  | [], d, _, h => by simp at h
  | x :: ds, d, h, hd => by
    rw [DataW.weightsAll, List.all_append, Bool.and_eq_true] at h
    rcases List.mem_cons.1 hd with rfl | hd
    · exact h.1
    · exact wts_all h.2 hd
theorem sized_all {ts : List TypeId} {ds : List (DataW H)} (h : (DataW.weightsEach P ts ds).all (· ≤ reachBytes) = true) {j : Nat} {t : TypeId} {d : DataW H} (ht : ts[j]? = some t) (hd : ds[j]? = some d) : (d.weights P t).all (· ≤ reachBytes) = true :=
  List.all_eq_true.2 fun n hn => List.all_eq_true.1 h _ (DataW.weights_mem_each ht hd n hn)
theorem wts_slice {t e : TypeId} {elems spare : List (DataW H)} (ht : P.underlying t = some (.slice e)) (hb : 0 < P.bytesOf e) (h : ((DataW.slice elems spare).weights P t).all (· ≤ reachBytes) = true) :
    elems.length ≤ 140737488355328 ∧ ∀ d, d ∈ elems → (d.weights P e).all (· ≤ reachBytes) = true := by
  simp only [DataW.weights, ht, List.all_cons, List.all_append, Bool.and_eq_true, decide_eq_true_eq] at h
  obtain ⟨h1, h2, _⟩ := h
  have h3 := Nat.le_mul_of_pos_right (elems.length + spare.length) hb
  have := reachBytes_lt
  exact ⟨by omega, fun d hd => wts_all h2 hd⟩
theorem wts_pair {e : TypeId} {f0 f1 : Field} {a b : DataW H} (he : P.underlying e = some (.struct #[f0, f1])) (h : ((DataW.agg [a, b]).weights P e).all (· ≤ reachBytes) = true) : (a.weights P f0.type).all (· ≤ reachBytes) = true ∧ (b.weights P f1.type).all (· ≤ reachBytes) = true := by
  simp only [DataW.weights, he, DataW.weightsEach, List.map_cons, List.map_nil, List.all_append, Bool.and_eq_true] at h
  exact ⟨h.1, h.2.1⟩
theorem pairs_in {α : Type} {Good : α → Prop} {c0 c1 : α → AV} {t e : TypeId} {f0 f1 : Field} {fuel : Nat} {v : Value} {x : DataW H × List MemPlace} (ht : P.underlying t = some (.slice e)) (he : P.underlying e = some (.struct #[f0, f1]))
    (ce : P.cellsOf e = 2) (o0 : f0.offset = 0) (o1 : f1.offset = 1) (k0 : P.cellsOf f0.type = 1) (k1 : P.cellsOf f1.type = 1) (hby : 0 < P.bytesOf e)
    (hx : ∀ n v0 v1 y0 y1, DataW.trod enc P w base (fun _ => true) held n f0.type [v0] = some y0 → DataW.trod enc P w base (fun _ => true) held n f1.type [v1] = some y1 → (y0.1.weights P f0.type).all (· ≤ reachBytes) = true → (y1.1.weights P f1.type).all (· ≤ reachBytes) = true → ∃ q : α, Good q ∧ Enc (ctx0 w) (c0 q) v0 ∧ Enc (ctx0 w) (c1 q) v1)
    (h : DataW.trod enc P w base (fun _ => true) held fuel t [v] = some x) (hw : (x.1.weights P t).all (· ≤ reachBytes) = true) : ∃ l : List α, (∀ q, q ∈ l → Good q) ∧ l.length ≤ 140737488355328 ∧ Enc (ctx0 w) (.seq l.length (l.flatMap fun q => [c0 q, c1 q]) false) v := by
  rcases Go.Deep.open_slice_pairs ht he ce o0 o1 k0 k1 h with ⟨hcs, _⟩ | ⟨a, len, cap, m, n, V0, V1, D0, D1, P0, P1, hcs, _, hl, hm, hmm, rfl, hall⟩
  · injection hcs with hcs; subst hcs
    exact ⟨[], by simp, by simp, seq_nil⟩
  · injection hcs with hcs; subst hcs
    simp only [if_true] at hmm; subst hmm
    have hm' : m < 2 ^ 63 := by unfold maxLen at hm; omega
    obtain ⟨hwl, hwe⟩ := wts_slice ht hby hw
    rw [List.length_map, List.length_range] at hwl
    have hex : ∀ i, ∃ q : Option α, i < len → ∃ q', q = some q' ∧ Good q' ∧ Enc (ctx0 w) (c0 q') (V0 i) ∧ Enc (ctx0 w) (c1 q') (V1 i) := fun i => by
      by_cases hi : i < len
      · obtain ⟨_, _, h2, h3⟩ := hall i (by omega)
        obtain ⟨w0, w1⟩ := wts_pair he (hwe _ (List.mem_map.2 ⟨i, List.mem_range.2 hi, rfl⟩))
        obtain ⟨q, h⟩ := hx _ _ _ _ _ h2 h3 w0 w1
        exact ⟨some q, fun _ => ⟨q, rfl, h⟩⟩
      · exact ⟨none, fun h => absurd h hi⟩
    obtain ⟨q, hq⟩ := Classical.axiomOfChoice hex
    let L := (List.range len).filterMap q
    have hL : ∀ n, n ≤ len → ((List.range n).filterMap q).length = n ∧ ∀ k (hk : k < ((List.range n).filterMap q).length), q k = some (((List.range n).filterMap q)[k]) := by
      intro n
      induction n with
      | zero => intro _; exact ⟨rfl, fun k hk => absurd hk (by simp)⟩
      | succ n ih =>
        intro hn
        obtain ⟨h1, h2⟩ := ih (by omega)
        obtain ⟨q', e, _⟩ := hq n (by omega)
        have e2 : (List.range (n + 1)).filterMap q = (List.range n).filterMap q ++ [q'] := by
          rw [List.range_succ, List.filterMap_append]; simp [e]
        rw [e2]
        refine ⟨by simp [h1], fun k hk => ?_⟩
        by_cases hkn : k < n
        · rw [List.getElem_append_left (by omega)]; exact h2 k (by omega)
        · have : k = n := by simp [h1] at hk; omega
          subst this
          rw [List.getElem_append_right (by omega)]; simpa [h1] using e
    obtain ⟨hl1, hl2⟩ := hL len (Nat.le_refl _)
    refine ⟨L, ?_, by show L.length ≤ _; rw [hl1]; omega, ?_⟩
    · intro y hy
      obtain ⟨k, hk, rfl⟩ := List.getElem_of_mem hy
      have hk' : k < len := by rw [← hl1]; exact hk
      obtain ⟨q', e, g, _⟩ := hq k (by omega)
      have := hl2 k hk
      rw [e] at this; injection this with this
      exact this ▸ g
    · show Enc _ (.seq L.length _ _) _
      rw [show L.length = len from hl1]
      have hcl : (L.flatMap fun q => [c0 q, c1 q]).length = 2 * len := by rw [pair_len, show L.length = len from hl1]
      refine .seq len _ false (some a) m (fun i => if i % 2 = 0 then V0 (i / 2) else V1 (i / 2)) (fun e => List.length_eq_zero_iff.1 (by rw [hcl, e])) hl hm' (fun e => by cases e) (fun hpos => ?_) (.inr (by simp)) (fun i hi => ?_)
      · have hm0 : 0 < m := by omega
        have hs := spot_none (hall 0 hm0).1
        have hs1 : a.spot = none := by have := hs.1; simpa [Addr.add] using this
        have hb1 : a.block < w.heap.size := by have := hs.2; simpa [Addr.add] using this
        refine ⟨a.block, a.off, by rw [← addr_eta hs1], ctx0_mut, hb1, fun i hi => ?_⟩
        have hi2 : i / 2 < m := by omega
        obtain ⟨g0, g1, _⟩ := hall (i / 2) hi2
        rw [addr_add hs1] at g0 g1
        show w.cell? ⟨a.block, a.off + i, none⟩ = _
        by_cases hm2 : i % 2 = 0
        · rw [if_pos hm2]
          rw [show a.off + i / 2 * 2 = a.off + i by omega] at g0; exact g0
        · rw [if_neg hm2]
          rw [show a.off + (i / 2 * 2 + 1) = a.off + i by omega] at g1; exact g1
      · obtain ⟨k, hk, h⟩ := pair_get (c0 := c0) (c1 := c1) L i hi
        have hk' : k < len := by rw [← hl1]; exact hk
        obtain ⟨q', e, _, g0, g1⟩ := hq k (by omega)
        have e2 := hl2 k hk
        rw [e] at e2; injection e2 with e2
        have e3 : L[k] = q' := e2.symm
        rcases h with ⟨rfl, h⟩ | ⟨rfl, h⟩
        · rw [h, e3]
          have z : 2 * k % 2 = 0 := by omega
          have z2 : 2 * k / 2 = k := by omega
          simp only [z, z2, if_true]; exact g0
        · rw [h, e3]
          have z : ¬ (2 * k + 1) % 2 = 0 := by omega
          have z2 : (2 * k + 1) / 2 = k := by omega
          simp only [z, z2, if_false]; exact g1
abbrev NumV := Bool × List Nat × Bool
def NumGood (q : NumV) : Prop := Lim 4294967296 q.2.1 ∧ q.2.1.length ≤ 140737488355328
def NumsC (l : List NumV) : List AV := l.flatMap fun q => [.bool q.1, LS q.2.1 q.2.2]
def NumsA (l : List NumV) : AV := .seq l.length (NumsC l) false
def FracsA (l : List (ByteArray × ByteArray)) : AV := .seq l.length (l.flatMap fun q => [.str q.1, .str q.2]) false
theorem fracs_in {t e : TypeId} {f0 f1 : Field} {fuel : Nat} {v : Value} {x : DataW H × List MemPlace} (ht : P.underlying t = some (.slice e)) (he : P.underlying e = some (.struct #[f0, f1]))
    (ce : P.cellsOf e = 2) (o0 : f0.offset = 0) (o1 : f1.offset = 1) (k0 : P.cellsOf f0.type = 1) (k1 : P.cellsOf f1.type = 1) (hby : 0 < P.bytesOf e)
    (h0 : P.underlying f0.type = some .string) (h1 : P.underlying f1.type = some .string)
    (h : DataW.trod enc P w base (fun _ => true) held fuel t [v] = some x) (hw : (x.1.weights P t).all (· ≤ reachBytes) = true) : ∃ l : List (ByteArray × ByteArray), (∀ q, q ∈ l → q.1.size < 9223372036854775808 ∧ q.2.size < 9223372036854775808) ∧ l.length ≤ 140737488355328 ∧ Enc (ctx0 w) (FracsA l) v :=
  pairs_in (Good := fun q : ByteArray × ByteArray => q.1.size < 9223372036854775808 ∧ q.2.size < 9223372036854775808) (c0 := fun q : ByteArray × ByteArray => .str q.1) (c1 := fun q : ByteArray × ByteArray => .str q.2) ht he ce o0 o1 k0 k1 hby (fun n v0 v1 y0 y1 a b _ _ => by
    obtain ⟨s0, e0, _, g0⟩ := DataW.trod_string h0 a
    obtain ⟨s1, e1, _, g1⟩ := DataW.trod_string h1 b
    injection e0 with e0; injection e1 with e1
    subst e0; subst e1
    exact ⟨(s0, s1), ⟨by unfold maxLen at g0; dsimp only; omega, by unfold maxLen at g1; dsimp only; omega⟩, .str s0, .str s1⟩) h hw
def I64s (l : List Int) : AV := .seq l.length (l.map fun n => .int .i64 n) false
abbrev TwoV := List NumV × List NumV × NumV × NumV
def TwoA (q : TwoV) : AV := .agg [NumsA q.1, NumsA q.2.1, .bool q.2.2.1.1, LS q.2.2.1.2.1 q.2.2.1.2.2, .bool q.2.2.2.1, LS q.2.2.2.2.1 q.2.2.2.2.2]
def TwoGood (q : TwoV) : Prop := (∀ x, x ∈ q.1 → NumGood x) ∧ q.1.length ≤ 140737488355328 ∧ (∀ x, x ∈ q.2.1 → NumGood x) ∧ q.2.1.length ≤ 140737488355328 ∧ NumGood q.2.2.1 ∧ NumGood q.2.2.2
end
end Go.Proofs.YtanchgkiomfhhaaDoor.Fw

/- The law of many fractions: true. -/
namespace Go.Proofs.YtanchgkiomfhhaaDoor.Fw
set_option linter.unusedSimpArgs false
set_option linter.unusedVariables false
open Go Go.Proofs.YtanchgkiomfhhaaDoor.Ma
set_option maxRecDepth 20000

theorem dlen_q {n : Nat} {c : List AV} {t : Bool} {KD : AV → List Nat → Option (Nat × ABlk) → Prop} (h : n < 9223372036854775808) : dlen KD false (.seq n c t) ↔ KD (.int .i64 ((n : Nat) : Int)) [] none := by simp [dlen, h]
theorem app_old {H : AHeap} {ty es bytes n m b : Nat} {cells ys : List AV} {t ti : Bool} {K : AV → AHeap → Prop} (hH : H b = some (.row ty es cells)) (hl : cells.length = n * es) (h1 : ys.length = m * es) (h2 : ys.all AV.cell = true) (h4 : (n + m) * bytes ≤ 70368744177664) (h5 : n + m ≤ 70368744177664)
    (k : K (.own b ((n + m) * es) 0 (n + m) false) (H.upd b (some (.row ty es (cells ++ ys))))) : appV H ty es bytes (.own b (n * es) 0 n ti) (.seq m ys t) K := by
  refine .inl ⟨h1, h2, ?_⟩
  dsimp only
  rw [hH]
  exact ⟨hl, rfl, rfl, rfl, rfl, h4, h5, k⟩
theorem QC_snoc (l : List QQ) (q : QQ) : QC (l ++ [q]) = QC l ++ qC q := by simp [QC, List.flatMap_append]
theorem QR_snoc (l : List QQ) (q : QQ) : QR (l ++ [q]) = QR l ++ qR q := by simp [QR, List.flatMap_append]
theorem repQ1 {a b c d : AV} : repA [a, b, c, d] 4 = [a, b, c, d] := by simp [repA, List.range, List.range.loop]
set_option maxHeartbeats 4000000 in
theorem many0 (l : List (List UInt8 × List UInt8)) (hlen : l.length < 9223372036854775807) : PFn Tryd.prog 17 [.seq l.length (FracC l) false] (.bool true) := by
  intro H Q hq
  have len9 : ∀ {n : Nat} {c : List AV} {t : Bool} {K : AV → Prop} (_ : n < 2 ^ 63), lenW false (.seq n c t) K = K (.int .i64 ((n : Nat) : Int)) := fun h => by simp [lenW, h]
  have idx9 : ∀ {i : Nat} {K : AV → Prop} (_ : i < l.length), idxAW 2 (.seq l.length (FracC l) false) (.int .i64 (i : Int)) K = K (.cptr ((FracC l).drop (i * 2))) := fun {i K} h => by simp [idxAW, FracC_len, h]
  have ld9 : ∀ {H : AHeap} {i : Nat} {K : AV → Prop} (h : i < l.length), loadW H (some 2) (.cptr ((FracC l).drop (i * 2))) K = K (FracA (l[i])) := fun {H i K} h => by
    simp only [loadW, cellsAt, FracC_drop l i h]
    simp [FracA]
  refine enter17 (by simp) ?_
  simp (disch := first|exact Xe|fail) only [ac17, ↓Xa,Xb,Xc,↓reduceIte,Nat.reduceLT,Nat.reduceEqDiff,Nat.reduceBEq,Nat.reduceLeDiff,Nat.reduceAdd,Nat.reduceMul]
  refine works_q.call ?_
  simp (disch := first|exact Xe|fail) only [↓Xa,Xb,Xc,↓reduceIte,Nat.reduceLT,Nat.reduceEqDiff,Nat.reduceBEq,Nat.reduceLeDiff,Nat.reduceAdd,Nat.reduceMul]
  refine (longF_fn l false hlen).call ?_
  cases hlg : (decide (12 < l.length) || l.any lngF) with
  | true =>
    simp (disch := first|exact Xe|fail) only [rs17, ↓Xa,Xb,Xc,↓reduceIte,Nat.reduceLT,Nat.reduceEqDiff,Nat.reduceBEq,Nat.reduceLeDiff,Nat.reduceAdd,Nat.reduceMul]
    exact SetR.now hq
  | false =>
  rw [Bool.or_eq_false_iff] at hlg
  have hle : l.length ≤ 12 := by have := of_decide_eq_false hlg.1; omega
  have hsm : ∀ q, q ∈ l → lngF q = false := fun q hm => by simpa using List.any_eq_false.1 hlg.2 q hm
  simp (disch := first|exact Xe|fail) only [len_rw, ↓Xa,Xb,Xc,↓reduceIte,Nat.reduceLT,Nat.reduceEqDiff,Nat.reduceBEq,Nat.reduceLeDiff,Nat.reduceAdd,Nat.reduceMul]
  refine W_loop (fun s : Nat × List QQ × AV × AV × AHeap => ⟨[], [(0, .seq l.length (FracC l) false), (3, s.2.2.1), (4, s.2.2.2.1), (19, .seq l.length (FracC l) false), (20, .int .i64 l.length), (21, .int .i64 s.1)], s.2.2.2.2⟩)
    (fun s => s.1 ≤ l.length ∧ s.2.1.length = s.1 ∧ (∀ q, q ∈ s.2.1 → RB 8193 q) ∧ ∃ M1, growC H 121 4 s.1 (QC s.2.1) s.2.2.1 M1 ∧ growC M1 138 4 s.1 (QR s.2.1) s.2.2.2.1 s.2.2.2.2) (fun s => l.length - s.1) (0, [], .seq 0 [] true, .seq 0 [] true, H) (Settle.now rfl) ⟨Nat.zero_le _, rfl, by simp, H, growC_nil, growC_nil⟩ ?_
  rintro ⟨i, qs, y, z, M⟩ ⟨h3, hqs, hqb, M1, hg1, hg2⟩
  dsimp only at h3 hqs hqb hg1 hg2 ⊢
  by_cases hi : i < l.length
  · simp (disch := first|exact Xe|fail) only [hi, idx9, ld9, ↓Xa,Xb,Xc,↓reduceIte,Nat.reduceLT,Nat.reduceEqDiff,Nat.reduceBEq,Nat.reduceLeDiff,Nat.reduceAdd,Nat.reduceMul]
    refine alloc_i fun q1 hq1 => ?_
    simp (disch := first|exact Xe|fail) only [cells_FracA, fold_FracA, ↓Xa,Xb,Xc,↓reduceIte,Nat.reduceLT,Nat.reduceEqDiff,Nat.reduceBEq,Nat.reduceLeDiff,Nat.reduceAdd,Nat.reduceMul]
    obtain ⟨l1, l2⟩ := (show (l[i]).1.length ≤ 65536 ∧ (l[i]).2.length ≤ 65536 from by
      have h := hsm _ (List.getElem_mem hi)
      unfold lngF at h
      rw [Bool.or_eq_false_iff] at h
      have := of_decide_eq_false h.1
      have := of_decide_eq_false h.2
      omega)
    obtain ⟨x, c1, c2, c3, c4, ok, bx, hcx, hx, fx⟩ := rat_ex (l[i]) l1 l2
    refine fx.call ?_
    simp (disch := first|exact Xe|fail) only [↓Xa,Xb,Xc,↓reduceIte,Nat.reduceLT,Nat.reduceEqDiff,Nat.reduceBEq,Nat.reduceLeDiff,Nat.reduceAdd,Nat.reduceMul]
    refine alloc_i fun q2 hq2 => ?_
    simp (disch := first|exact Xe|fail) only [↓Xa,Xb,Xc,↓reduceIte,Nat.reduceLT,Nat.reduceEqDiff,Nat.reduceBEq,Nat.reduceLeDiff,Nat.reduceAdd,Nat.reduceMul]
    refine alloc_i fun q3 hq3 => ?_
    have d12 := (upd_none.1 hq2).1
    have d23 := (upd_none.1 hq3).1
    have d13 := (upd_none.1 (upd_none.1 hq3).2).1
    have b2 := (upd_none.1 hq2).2
    have b3 := (upd_none.1 (upd_none.1 hq3).2).2
    have hHM : Le H M := fun o x ho => growC_le hg2 o x (growC_le hg1 o x ho)
    cases ok with
    | false =>
      simp (disch := first|exact Xe|fail) only [cells_RatA, hcx, rs17, ↓Xa,Xb,Xc,↓reduceIte,Nat.reduceLT,Nat.reduceEqDiff,Nat.reduceBEq,Nat.reduceLeDiff,Nat.reduceAdd,Nat.reduceMul]
      refine SetR.dropTo ?_ (SetR.now hq)
      exact ((hHM.updB (hHM.none hq1)).updB (hHM.none b2)).updB (hHM.none b3)
    | true =>
    have hx := hx rfl
    rw [hx] at *
    have hqb' : ∀ q, q ∈ qs ++ [x] → RB 8193 q := fun q hm => by
      rcases List.mem_append.1 hm with hm | hm
      · exact hqb q hm
      · rw [List.mem_singleton.1 hm]; exact bx
    rcases Nat.eq_zero_or_pos i with hi0 | hi0
    · obtain ⟨rfl, rfl, rfl, rfl⟩ : y = .seq 0 [] true ∧ M1 = H ∧ z = .seq 0 [] true ∧ M = H := by
        rcases hg1 with ⟨_, _, e1, e2⟩ | ⟨h, _⟩
        · rcases hg2 with ⟨_, _, e3, e4⟩ | ⟨h, _⟩
          · exact ⟨e1, e2, e3, e4.trans e2⟩
          · omega
        · omega
      have hqe : qs = [] := List.length_eq_zero_iff.1 (by omega)
      subst hqe
      subst hi0
      simp (disch := first|exact Xe|fail) only [cells_RatA, cells_RatR, fold_Raw, fold_RatA, repQ1, ↓Xa,Xb,Xc,↓reduceIte,Nat.reduceLT,Nat.reduceEqDiff,Nat.reduceBEq,Nat.reduceLeDiff,Nat.reduceAdd,Nat.reduceMul]
      refine dap_new (m := 1) rfl rfl (by omega) (by omega) (by omega) fun b1 hb1 => ?_
      have f1 := (upd_none.1 hb1).1
      have f2 := (upd_none.1 (upd_none.1 hb1).2).1
      have f3 := (upd_none.1 (upd_none.1 (upd_none.1 hb1).2).2).1
      have f4 := (upd_none.1 (upd_none.1 (upd_none.1 hb1).2).2).2
      simp (disch := first|exact Xe|fail) only [fold_Rax, fold_RatR, cells_RatR, repQ1, ↓Xa,Xb,Xc,↓reduceIte,Nat.reduceLT,Nat.reduceEqDiff,Nat.reduceBEq,Nat.reduceLeDiff,Nat.reduceAdd,Nat.reduceMul]
      refine app_C (m := 1) growC_nil rfl rfl (by omega) (by omega) (by omega) fun z' M2 hg => ?_
      obtain ⟨M3, hg', hl'⟩ := growC_le2 hg ((((Le.refl M).updB hq1).updB b2).updB b3).both
      simp (disch := first|exact Xe|fail) only [↓Xa,Xb,Xc,↓reduceIte,Nat.reduceLT,Nat.reduceEqDiff,Nat.reduceBEq,Nat.reduceLeDiff,Nat.reduceAdd,Nat.reduceMul]
      exact Settle.dropTo hl' (Settle.now ⟨(1, [x], .own b1 (1 * 4) 0 1 false, z', M3), by dsimp only; omega, ⟨by dsimp only; omega, rfl, hqb', _, .inr ⟨by omega, rfl, b1, f4, rfl, rfl⟩, hg'⟩, rfl⟩)
    · obtain ⟨_, hl1, B1, hB1, rfl, rfl⟩ := (show _ from hg1.resolve_left fun h => by omega)
      obtain ⟨_, hl2, B2, hB2, rfl, rfl⟩ := (show _ from hg2.resolve_left fun h => by omega)
      obtain ⟨g12, hB2'⟩ := upd_none.1 hB2
      have s1 := upd_none.1 hq1
      have s1' := upd_none.1 s1.2
      have s2 := upd_none.1 b2
      have s2' := upd_none.1 s2.2
      have s3 := upd_none.1 b3
      have s3' := upd_none.1 s3.2
      have u1 := s1.1; have u2 := s1'.1; have u3 := s2.1; have u4 := s2'.1; have u5 := s3.1; have u6 := s3'.1
      simp (disch := first|exact Xe|fail) only [cells_RatA, cells_RatR, fold_Raw, fold_RatA, repQ1, ↓Xa,Xb,Xc,↓reduceIte,Nat.reduceLT,Nat.reduceEqDiff,Nat.reduceBEq,Nat.reduceLeDiff,Nat.reduceAdd,Nat.reduceMul]
      refine dap_old (m := 1) (cells := QC qs) ?_ hl1 rfl rfl (by omega) (by omega) (by omega) ?_
      · rw [upd_other _ _ (Ne.symm u6), upd_other _ _ (Ne.symm u4), upd_other _ _ (Ne.symm u2), upd_other _ _ (Ne.symm g12), upd_same]
      simp (disch := first|exact Xe|fail) only [fold_Rax, fold_RatR, cells_RatR, repQ1, ↓Xa,Xb,Xc,↓reduceIte,Nat.reduceLT,Nat.reduceEqDiff,Nat.reduceBEq,Nat.reduceLeDiff,Nat.reduceAdd,Nat.reduceMul]
      refine app_old (m := 1) (cells := QR qs) ?_ hl2 rfl rfl (by omega) (by omega) ?_
      · rw [upd_other _ _ (Ne.symm u5), upd_other _ _ (Ne.symm u3), upd_other _ _ (Ne.symm u1), upd_same]
      simp (disch := first|exact Xe|fail) only [↓Xa,Xb,Xc,↓reduceIte,Nat.reduceLT,Nat.reduceEqDiff,Nat.reduceBEq,Nat.reduceLeDiff,Nat.reduceAdd,Nat.reduceMul]
      refine Settle.dropTo ((((Le.refl _).updB (upd_none.2 ⟨u1, upd_none.2 ⟨u2, s1'.2⟩⟩)).updB (upd_none.2 ⟨u3, upd_none.2 ⟨u4, s2'.2⟩⟩)).updB (upd_none.2 ⟨u5, upd_none.2 ⟨u6, s3'.2⟩⟩)) ?_
      refine Settle.now ⟨(i + 1, qs ++ [x], .own B1 ((i + 1) * 4) 0 (i + 1) false, .own B2 ((i + 1) * 4) 0 (i + 1) false, (H.upd B1 (some (.row 121 4 (QC (qs ++ [x]))))).upd B2 (some (.row 138 4 (QR (qs ++ [x]))))), by dsimp only; omega, ⟨by dsimp only; omega, by simp [hqs], hqb', (H.upd B1 (some (.row 121 4 (QC (qs ++ [x]))))), ?_, ?_⟩, ?_⟩
      · exact .inr ⟨by dsimp only; omega, (flat_len qC_len (qs ++ [x])).trans (by simp [hqs]), B1, hB1, rfl, rfl⟩
      · exact .inr ⟨by dsimp only; omega, (flat_len qR_len (qs ++ [x])).trans (by simp [hqs]), B2, upd_none.2 ⟨g12, hB2'⟩, rfl, rfl⟩
      · dsimp only
        rw [QC_snoc, QR_snoc]; rfl
  · obtain rfl : i = l.length := by omega
    simp (disch := first|exact Xe|fail) only [hi, ↓Xa,Xb,Xc,↓reduceIte,Nat.reduceLT,Nat.reduceEqDiff,Nat.reduceBEq,Nat.reduceLeDiff,Nat.reduceAdd,Nat.reduceMul]
    refine Settle.grownC 4 rfl hg2 ?_
    refine Settle.grownC 3 rfl hg1 ?_
    refine Settle.now ?_
    have kb : l.length * 8193 ≤ 12 * 8193 := Nat.mul_le_mul hle (Nat.le_refl _)
    rw [← hqs]
    have cA := rcommon_fn (t := false) hqb (by omega) (by omega) (by omega)
    have cR := rrcommon_fn (t := false) hqb (by omega) (by omega) (by omega)
    have sA := rsum_fn (t := false) hqb (by omega) (by omega)
    have sR := rrsum_fn (t := false) hqb (by omega) (by omega)
    unfold RatsA at cA sA
    unfold RatsR at cR sR
    have bD := comD_bd qs 1 2 (Bd.i64 (by omega)) hqb
    have bS := sumQ_bd qs 0 1 ⟨Bd.zero _, Bd.oneQ 0⟩ hqb
    generalize comD 1 qs = dd at *
    generalize sumQ 0 qs = ss at *
    simp (disch := first|exact Xe|fail) only [↓Xa,Xb,Xc,↓reduceIte,Nat.reduceLT,Nat.reduceEqDiff,Nat.reduceBEq,Nat.reduceLeDiff,Nat.reduceAdd,Nat.reduceMul]
    refine cA.call ?_
    simp (disch := first|exact Xe|fail) only [↓Xa,Xb,Xc,↓reduceIte,Nat.reduceLT,Nat.reduceEqDiff,Nat.reduceBEq,Nat.reduceLeDiff,Nat.reduceAdd,Nat.reduceMul]
    refine alloc_i fun p1 hp1 => ?_
    have n1 := hp1
    simp (disch := first|exact Xe|fail) only [cells_IntA, ↓Xa,Xb,Xc,↓reduceIte,Nat.reduceLT,Nat.reduceEqDiff,Nat.reduceBEq,Nat.reduceLeDiff,Nat.reduceAdd,Nat.reduceMul]
    refine cR.call ?_
    simp (disch := first|exact Xe|fail) only [↓Xa,Xb,Xc,↓reduceIte,Nat.reduceLT,Nat.reduceEqDiff,Nat.reduceBEq,Nat.reduceLeDiff,Nat.reduceAdd,Nat.reduceMul]
    refine alloc_i fun p2 hp2 => ?_
    have n2 := hp2
    simp only [upd_none] at n2
    obtain ⟨_, n2⟩ := n2
    have hno : ∀ n : Nat, (!decide (((n : Nat) : Int) = ((n : Nat) : Int))) = false := fun n => by simp
    have hnl : qs.length < 9223372036854775808 := by omega
    have hnz : 2 + 8193 * qs.length ≤ 98318 := by omega
    have hdn : ∀ z : Int, Bd 98318 z → True := fun _ _ => trivial
    have kS : (8193 + 1) * qs.length ≤ 98328 := Nat.mul_le_mul (show 8193 + 1 ≤ 8194 by omega) (show qs.length ≤ 12 by omega)
    have bN : ∀ i (h : i < qs.length), Bd 200000 ((qs.map (comN dd))[i]'(by simpa using h)) := fun i h => by
      rw [List.getElem_map]
      exact ((hqb _ (List.getElem_mem h)).1.mul (bD.ediv (y := ((qs[i]).den : Int)))).mono (by omega)
    have hmap : (qs.map (comN dd)).length = qs.length := by simp
    cases hbz : decide (((qs.length : Nat) : Int) = ((0 : Nat) : Int))
    all_goals
      simp (disch := first|exact Xe|fail) only [cells_RefA, dlen_q, hnl, neq_int, eql_int, hno, hbz, Bool.not_true, fold_IntA, fold_RefA, ↓Xa,Xb,Xc,↓reduceIte,Nat.reduceLT,Nat.reduceEqDiff,Nat.reduceBEq,Nat.reduceLeDiff,Nat.reduceAdd,Nat.reduceMul]
      refine PFn.dcall (itext_fn bD (by omega)) ?_
      simp (disch := first|exact Xe|fail) only [fold_IntA, fold_RefA, ↓Xa,Xb,Xc,↓reduceIte,Nat.reduceLT,Nat.reduceEqDiff,Nat.reduceBEq,Nat.reduceLeDiff,Nat.reduceAdd,Nat.reduceMul]
      refine PFn.dcall (rtext_fn false bD (by omega)) ?_
      simp (disch := first|exact Xe|fail) only [neq_Sx, decide_true, ↓Xa,Xb,Xc,↓reduceIte,Nat.reduceLT,Nat.reduceEqDiff,Nat.reduceBEq,Nat.reduceLeDiff,Nat.reduceAdd,Nat.reduceMul]
      refine PFn.dcall sA ?_
      simp (disch := first|exact Xe|fail) only [↓Xa,Xb,Xc,↓reduceIte,Nat.reduceLT,Nat.reduceEqDiff,Nat.reduceBEq,Nat.reduceLeDiff,Nat.reduceAdd,Nat.reduceMul]
      refine sR.call ?_
      simp (disch := first|exact Xe|fail) only [↓Xa,Xb,Xc,↓reduceIte,Nat.reduceLT,Nat.reduceEqDiff,Nat.reduceBEq,Nat.reduceLeDiff,Nat.reduceAdd,Nat.reduceMul]
      refine (isq_fn bS (by omega)).call ?_
      simp (disch := first|exact Xe|fail) only [len_rw, hnl, ↓Xa,Xb,Xc,↓reduceIte,Nat.reduceLT,Nat.reduceEqDiff,Nat.reduceBEq,Nat.reduceLeDiff,Nat.reduceAdd,Nat.reduceMul]
      refine W_loop (fun s : Nat => ⟨[], [(3, .seq qs.length (QC qs) false), (4, .seq qs.length (QR qs) false), (10, .seq qs.length (IC (qs.map (comN dd))) false), (12, .seq qs.length (RC (qs.map (comN dd))) false), (83, .int .i64 qs.length), (84, .int .i64 s)], (H.upd p1 (some (.row 28 0 [IntB dd, IntD dd]))).upd p2 (some (.row 39 0 [RefB dd, RefD dd]))⟩) (fun s => s ≤ qs.length) (fun s => qs.length - s) 0 (Settle.now rfl) (Nat.zero_le _) ?_
      intro j h3
      by_cases hj : j < qs.length
      · have hj2 : j < (qs.map (comN dd)).length := by rw [hmap]; exact hj
        have e1 : ∀ {K : AV → Prop}, idxAW 2 (.seq qs.length (IC (qs.map (comN dd))) false) (.int .i64 (j : Int)) K = K (.cptr ((IC (qs.map (comN dd))).drop (j * 2))) := fun {K} => idx_rw (by rw [IC_len, hmap]) hj
        have e2 : ∀ {K : AV → Prop}, idxAW 2 (.seq qs.length (RC (qs.map (comN dd))) false) (.int .i64 (j : Int)) K = K (.cptr ((RC (qs.map (comN dd))).drop (j * 2))) := fun {K} => idx_rw (by rw [RC_len, hmap]) hj
        simp (disch := first|exact Xe|fail) only [hj, hj2, e1, e2, load_IC, load_RC, ↓Xa,Xb,Xc,↓reduceIte,Nat.reduceLT,Nat.reduceEqDiff,Nat.reduceBEq,Nat.reduceLeDiff,Nat.reduceAdd,Nat.reduceMul]
        refine PFn.dcall (itext_fn (bN j hj) (by omega)) ?_
        simp (disch := first|exact Xe|fail) only [hj, hj2, e1, e2, load_IC, load_RC, ↓Xa,Xb,Xc,↓reduceIte,Nat.reduceLT,Nat.reduceEqDiff,Nat.reduceBEq,Nat.reduceLeDiff,Nat.reduceAdd,Nat.reduceMul]
        refine PFn.dcall (rtext_fn false (bN j hj) (by omega)) ?_
        simp (disch := first|exact Xe|fail) only [hj, idx_QC, idx_QR, load_QC, load_QR, neq_Sx, decide_true, ↓Xa,Xb,Xc,↓reduceIte,Nat.reduceLT,Nat.reduceEqDiff,Nat.reduceBEq,Nat.reduceLeDiff,Nat.reduceAdd,Nat.reduceMul]
        refine (isq_fn (hqb _ (List.getElem_mem hj)) (by omega)).call ?_
        simp (disch := first|exact Xe|fail) only [↓Xa,Xb,Xc,↓reduceIte,Nat.reduceLT,Nat.reduceEqDiff,Nat.reduceBEq,Nat.reduceLeDiff,Nat.reduceAdd,Nat.reduceMul]
        exact Settle.now ⟨j + 1, by omega, by omega, rfl⟩
      · simp (disch := first|exact Xe|fail) only [hj, ↓Xa,Xb,Xc,↓reduceIte,Nat.reduceLT,Nat.reduceEqDiff,Nat.reduceBEq,Nat.reduceLeDiff,Nat.reduceAdd,Nat.reduceMul]
        refine Settle.now ?_
        simp (disch := first|exact Xe|fail) only [rs17, ↓Xa,Xb,Xc,↓reduceIte,Nat.reduceLT,Nat.reduceEqDiff,Nat.reduceBEq,Nat.reduceLeDiff,Nat.reduceAdd,Nat.reduceMul]
        exact SetR.dropTo (((Le.refl H).updB n1).updB n2) (SetR.now hq)
theorem ratioMany_law (l : List (ByteArray × ByteArray)) (hl : ∀ q, q ∈ l → q.1.size < 9223372036854775808 ∧ q.2.size < 9223372036854775808) (ll : l.length ≤ 140737488355328) : PFn Tryd.prog 17 [FracsA l] (.bool true) := by
  have h := many0 (l.map fun q => (q.1.data.toList, q.2.data.toList)) (by rw [List.length_map]; omega)
  have e : AV.seq (l.map fun q => (q.1.data.toList, q.2.data.toList)).length (FracC (l.map fun q => (q.1.data.toList, q.2.data.toList))) false = FracsA l := by
    unfold FracsA FracC
    rw [List.length_map, List.flatMap_map]
    rfl
  rwa [e] at h
end Go.Proofs.YtanchgkiomfhhaaDoor.Fw
