/- The texts FwZ FwV, joined. -/
import Derived.Test.YtanchgkiomfhhaaDoorZ6
import Derived.ProofKit
import Derived.Lib.SmallJoins
import Derived.SizedLaws
import Derived.OpenShut
import Derived.ShutString
import Derived.ChangeOld
import Derived.Below
import Derived.Deep.SlicePairs
/- The framework, part Z: from what a law's code computes to the row: its arguments, its memory. -/
namespace Go.Proofs.YtanchgkiomfhhaaDoor.Fw
set_option linter.unusedSimpArgs false
set_option linter.unusedVariables false
open Go Go.Proofs.YtanchgkiomfhhaaDoor.Ma Go.ChangeShapes Go.WideShapes Go.ChangeAt Go.RowKit

def ctx0 (w : World) : Ctx := ⟨fun _ => 0, fun _ => False, fun _ => False, fun _ => none, w⟩
theorem ctx0_ok (w : World) : Ok (ctx0 w) :=
  ⟨fun _ h => absurd rfl h, ⟨0, fun _ h => h.elim False.elim False.elim⟩, fun _ _ h _ _ => absurd rfl h, fun _ _ h => by cases h⟩
theorem ctx0_mut {w : World} {k : Nat} : ¬ Mut (ctx0 w) k := fun ⟨_, h, _⟩ => h
theorem below_of_later {w : World} {c : Ctx} (h : Later (ctx0 w) c) : Below w.heap.size w c.w :=
  ⟨h.os, h.tape, h.output, h.size, fun k hk => (h.keep k hk ctx0_mut).1⟩
theorem law_calls {P : Program} {f : FuncId} {args : List AV} (h : PFn P f args (.bool true)) (w : World) (vs : Array Value) (hn : vs.size = args.length) (he : ∀ i (h : i < args.length) (h' : i < vs.size), Enc (ctx0 w) (args[i]) (vs[i])) :
    Calls P f vs w fun e w' => e = .returned (.bool true) ∧ Below w.heap.size w w' := by
  refine ((h (fun _ => none) (fun r _ => r = .bool true) rfl).2 (ctx0 w) vs rfl (ctx0_ok w) hn he).mono ?_
  rintro e w' ⟨c, v, r, rfl, rfl, _, hl, hr, rfl⟩
  cases hr
  exact ⟨rfl, below_of_later hl⟩

section
variable {H : Type} {enc : TypeId × Value → H} {P : Program} {w : World} {base : Nat} {held : Bool}
theorem spot_none {a : Addr} {v : Value} (h : w.cell? a = some v) : a.spot = none ∧ a.block < w.heap.size := by
  unfold World.cell? at h
  split at h
  · rename_i hb
    split at h
    · cases h
    · rename_i hs
      exact ⟨by cases e : a.spot with
        | none => rfl
        | some x => rw [e] at hs; exact absurd rfl hs, (Array.getElem?_eq_some_iff.1 hb).1⟩
  · cases h
theorem addr_eta {a : Addr} (h : a.spot = none) : a = ⟨a.block, a.off, none⟩ := by cases a; simp_all
theorem addr_add {a : Addr} (h : a.spot = none) (i : Nat) : a.add i = ⟨a.block, a.off + i, none⟩ := by
  unfold Addr.add
  split
  · rename_i e; subst e; exact addr_eta h
  · rfl
theorem words_in {t e : TypeId} {fuel : Nat} {v : Value} {x : DataW H × List MemPlace} (ht : P.underlying t = some (.slice e)) (he : P.underlying e = some (.int .u32)) (hc : P.cellsOf e = 1)
    (h : DataW.trod enc P w base (fun _ => true) held fuel t [v] = some x) : ∃ l : List Nat, Lim 4294967296 l ∧ l.length < 9223372036854775808 ∧ Enc (ctx0 w) (LS l false) v := by
  rcases open_ints ht he hc h with ⟨hcs, _⟩ | ⟨a, len, cap, zs, hcs, _, hl, hm, hz, _, hcell, hwf⟩
  · injection hcs with hcs; subst hcs
    exact ⟨[], Lim.nil _, by simp, .seq 0 [] false none 0 (fun _ => .bool true) (fun _ => rfl) (Nat.le_refl _) (by omega) (fun e => by cases e) (fun h => absurd h (by simp)) (.inl rfl) (fun i h => absurd h (by simp))⟩
  · injection hcs with hcs; subst hcs
    simp only [if_true] at hz
    have hm' : cap < 2 ^ 63 := by unfold maxLen at hm; omega
    have wf : ∀ n, n ∈ zs → 0 ≤ n ∧ n < 4294967296 := fun n hn => by
      have := hwf n hn
      simp only [Lit.wf, IntKind.min, IntKind.max, IntKind.signed, IntKind.bits, Bool.and_eq_true, decide_eq_true_eq] at this
      simp at this; omega
    refine ⟨(zs.take len).map Int.toNat, ?_, ?_, ?_⟩
    · intro y hy
      obtain ⟨n, hn, rfl⟩ := List.mem_map.1 hy
      have := wf n (List.mem_of_mem_take hn)
      omega
    · simp only [List.length_map, List.length_take]; omega
    · have hlen : ((zs.take len).map Int.toNat).length = len := by simp only [List.length_map, List.length_take]; omega
      unfold LS
      rw [hlen]
      refine .seq len _ false (some a) cap (fun i => .int .u32 (zs.getD i 0)) (fun e => ?_) hl hm' (fun e => by cases e) (fun hpos => ?_) (.inr (by simp)) (fun i hi => ?_)
      · subst e; simp [U]
      · have hlp : 0 < zs.length := by simp only [U_len, hlen] at hpos; omega
        have hs := spot_none (hcell 0 hlp)
        have hs1 : a.spot = none := by
          have := hs.1
          simpa [Addr.add] using this
        have hb1 : a.block < w.heap.size := by
          have := hs.2
          simpa [Addr.add] using this
        refine ⟨a.block, a.off, by rw [← addr_eta hs1], ctx0_mut, hb1, fun i hi => ?_⟩
        have hi' : i < zs.length := by simp only [U_len, hlen] at hi; omega
        have := hcell i hi'
        rwa [addr_add hs1] at this
      · have hi' : i < zs.length := by simp only [U_len, hlen] at hi; omega
        have hi2 : i < len := by simp only [U_len, hlen] at hi; omega
        have e1 : (U ((zs.take len).map Int.toNat))[i] = .int .u32 (zs.getD i 0) := by
          simp only [U, List.getElem_map, List.getElem_take]
          have h0 := wf (zs[i]) (List.getElem_mem hi')
          rw [Int.toNat_of_nonneg h0.1, List.getD_eq_getElem?_getD, List.getElem?_eq_getElem hi', Option.getD_some]
        rw [e1]; exact .int .u32 _
end
end Go.Proofs.YtanchgkiomfhhaaDoor.Fw

/- The framework, part V: rows of pairs, of whole numbers, that are handed in. -/
namespace Go.Proofs.YtanchgkiomfhhaaDoor.Fw
set_option linter.unusedSimpArgs false
set_option linter.unusedVariables false
open Go Go.Proofs.YtanchgkiomfhhaaDoor.Ma Go.ChangeShapes Go.WideShapes Go.ChangeAt Go.RowKit

theorem pair_len {α : Type} {c0 c1 : α → AV} (l : List α) : (l.flatMap fun q => [c0 q, c1 q]).length = 2 * l.length := by
  induction l with
  | nil => rfl
  | cons a l ih => simp only [List.flatMap_cons, List.length_append, List.length_cons, List.length_nil, ih]; omega
theorem pair_get {α : Type} {c0 c1 : α → AV} : ∀ (l : List α) (i : Nat) (h : i < (l.flatMap fun q => [c0 q, c1 q]).length), ∃ (k : Nat) (hk : k < l.length), (i = 2 * k ∧ (l.flatMap fun q => [c0 q, c1 q])[i] = c0 l[k]) ∨ (i = 2 * k + 1 ∧ (l.flatMap fun q => [c0 q, c1 q])[i] = c1 l[k])
  | [], i, h => absurd h (by simp)
  | a :: l, 0, _ => ⟨0, by simp, .inl ⟨rfl, rfl⟩⟩
  | a :: l, 1, _ => ⟨0, by simp, .inr ⟨rfl, rfl⟩⟩
  | a :: l, i + 2, h => by
    obtain ⟨k, hk, h⟩ := pair_get l i (by rw [pair_len (c0 := c0) (c1 := c1)] at h ⊢; simp only [List.length_cons] at h; omega)
    refine ⟨k + 1, by simpa using hk, ?_⟩
    rcases h with ⟨e, h⟩ | ⟨e, h⟩
    · exact .inl ⟨by omega, by simpa using h⟩
    · exact .inr ⟨by omega, by simpa using h⟩
section
variable {H : Type} {enc : TypeId × Value → H} {P : Program} {w : World} {base : Nat} {held : Bool}
theorem seq_nil {c : Ctx} : Enc c (.seq 0 [] false) (.slice none 0 0) :=
  .seq 0 [] false none 0 (fun _ => .bool true) (fun _ => rfl) (Nat.le_refl _) (by omega) (fun e => by cases e) (fun h => absurd h (by simp)) (.inl rfl) (fun i h => absurd h (by simp))
theorem wts_all {e : TypeId} {p : Nat → Bool} : ∀ {ds : List (DataW H)} {d : DataW H}, (DataW.weightsAll P e ds).all p = true → d ∈ ds → (d.weights P e).all p = true
  | [], d, _, h => by simp at h
  | x :: ds, d, h, hd => by
    rw [DataW.weightsAll, List.all_append, Bool.and_eq_true] at h
    rcases List.mem_cons.1 hd with rfl | hd
    · exact h.1
    · exact wts_all h.2 hd
theorem sized_all {ts : List TypeId} {ds : List (DataW H)} (h : (DataW.weightsEach P ts ds).all (· ≤ reachBytes) = true) {j : Nat} {t : TypeId} {d : DataW H} (ht : ts[j]? = some t) (hd : ds[j]? = some d) : (d.weights P t).all (· ≤ reachBytes) = true :=
  List.all_eq_true.2 fun n hn => List.all_eq_true.1 h _ (DataW.weights_mem_each ht hd n hn)
theorem wts_slice {t e : TypeId} {elems spare : List (DataW H)} (ht : P.underlying t = some (.slice e)) (hb : 0 < P.bytesOf e) (h : ((DataW.slice elems spare).weights P t).all (· ≤ reachBytes) = true) :
    elems.length ≤ 140737488355328 ∧ ∀ d, d ∈ elems → (d.weights P e).all (· ≤ reachBytes) = true := by
  simp only [DataW.weights, ht, List.all_cons, List.all_append, Bool.and_eq_true, decide_eq_true_eq] at h
  obtain ⟨h1, h2, _⟩ := h
  have h3 := Nat.le_mul_of_pos_right (elems.length + spare.length) hb
  have := reachBytes_lt
  exact ⟨by omega, fun d hd => wts_all h2 hd⟩
theorem wts_pair {e : TypeId} {f0 f1 : Field} {a b : DataW H} (he : P.underlying e = some (.struct #[f0, f1])) (h : ((DataW.agg [a, b]).weights P e).all (· ≤ reachBytes) = true) : (a.weights P f0.type).all (· ≤ reachBytes) = true ∧ (b.weights P f1.type).all (· ≤ reachBytes) = true := by
  simp only [DataW.weights, he, DataW.weightsEach, List.map_cons, List.map_nil, List.all_append, Bool.and_eq_true] at h
  exact ⟨h.1, h.2.1⟩
theorem slen {c : Ctx} {n : Nat} {cells : List AV} {t : Bool} {a : Option Addr} {len cap : Nat} (h : Enc c (.seq n cells t) (.slice a len cap)) : n = len := by cases h; rfl
theorem words_in2 {t e : TypeId} {fuel : Nat} {v : Value} {x : DataW H × List MemPlace} (ht : P.underlying t = some (.slice e)) (he : P.underlying e = some (.int .u32)) (hc : P.cellsOf e = 1) (hb : 0 < P.bytesOf e)
    (h : DataW.trod enc P w base (fun _ => true) held fuel t [v] = some x) (hw : (x.1.weights P t).all (· ≤ reachBytes) = true) : ∃ l : List Nat, Lim 4294967296 l ∧ l.length ≤ 140737488355328 ∧ Enc (ctx0 w) (LS l false) v := by
  obtain ⟨l, h1, _, h3⟩ := words_in ht he hc h
  refine ⟨l, h1, ?_, h3⟩
  rcases open_ints ht he hc h with ⟨hcs, _⟩ | ⟨a, len, cap, zs, hcs, _, hl, hm, hz, rfl, _⟩
  · injection hcs with hcs; subst hcs
    have := slen h3
    omega
  · injection hcs with hcs; subst hcs
    have := slen h3
    have := (wts_slice ht hb hw).1
    simp only [lits, List.length_map, List.length_take] at this
    simp only [if_true] at hz
    omega
theorem pairs_in {α : Type} {Good : α → Prop} {c0 c1 : α → AV} {t e : TypeId} {f0 f1 : Field} {fuel : Nat} {v : Value} {x : DataW H × List MemPlace} (ht : P.underlying t = some (.slice e)) (he : P.underlying e = some (.struct #[f0, f1]))
    (ce : P.cellsOf e = 2) (o0 : f0.offset = 0) (o1 : f1.offset = 1) (k0 : P.cellsOf f0.type = 1) (k1 : P.cellsOf f1.type = 1) (hby : 0 < P.bytesOf e)
    (hx : ∀ n v0 v1 y0 y1, DataW.trod enc P w base (fun _ => true) held n f0.type [v0] = some y0 → DataW.trod enc P w base (fun _ => true) held n f1.type [v1] = some y1 → (y0.1.weights P f0.type).all (· ≤ reachBytes) = true → (y1.1.weights P f1.type).all (· ≤ reachBytes) = true → ∃ q : α, Good q ∧ Enc (ctx0 w) (c0 q) v0 ∧ Enc (ctx0 w) (c1 q) v1)
    (h : DataW.trod enc P w base (fun _ => true) held fuel t [v] = some x) (hw : (x.1.weights P t).all (· ≤ reachBytes) = true) : ∃ l : List α, (∀ q, q ∈ l → Good q) ∧ l.length ≤ 140737488355328 ∧ Enc (ctx0 w) (.seq l.length (l.flatMap fun q => [c0 q, c1 q]) false) v := by
  rcases Go.Deep.open_slice_pairs ht he ce o0 o1 k0 k1 h with ⟨hcs, _⟩ | ⟨a, len, cap, m, n, V0, V1, D0, D1, P0, P1, hcs, _, hl, hm, hmm, rfl, hall⟩
  · injection hcs with hcs; subst hcs
    exact ⟨[], by simp, by simp, seq_nil⟩
  · injection hcs with hcs; subst hcs
    simp only [if_true] at hmm; subst hmm
    have hm' : m < 2 ^ 63 := by unfold maxLen at hm; omega
    obtain ⟨hwl, hwe⟩ := wts_slice ht hby hw
    rw [List.length_map, List.length_range] at hwl
    have hex : ∀ i, ∃ q : Option α, i < len → ∃ q', q = some q' ∧ Good q' ∧ Enc (ctx0 w) (c0 q') (V0 i) ∧ Enc (ctx0 w) (c1 q') (V1 i) := fun i => by
      by_cases hi : i < len
      · obtain ⟨_, _, h2, h3⟩ := hall i (by omega)
        obtain ⟨w0, w1⟩ := wts_pair he (hwe _ (List.mem_map.2 ⟨i, List.mem_range.2 hi, rfl⟩))
        obtain ⟨q, h⟩ := hx _ _ _ _ _ h2 h3 w0 w1
        exact ⟨some q, fun _ => ⟨q, rfl, h⟩⟩
      · exact ⟨none, fun h => absurd h hi⟩
    obtain ⟨q, hq⟩ := Classical.axiomOfChoice hex
    let L := (List.range len).filterMap q
    have hL : ∀ n, n ≤ len → ((List.range n).filterMap q).length = n ∧ ∀ k (hk : k < ((List.range n).filterMap q).length), q k = some (((List.range n).filterMap q)[k]) := by
      intro n
      induction n with
      | zero => intro _; exact ⟨rfl, fun k hk => absurd hk (by simp)⟩
      | succ n ih =>
        intro hn
        obtain ⟨h1, h2⟩ := ih (by omega)
        obtain ⟨q', e, _⟩ := hq n (by omega)
        have e2 : (List.range (n + 1)).filterMap q = (List.range n).filterMap q ++ [q'] := by
          rw [List.range_succ, List.filterMap_append]; simp [e]
        rw [e2]
        refine ⟨by simp [h1], fun k hk => ?_⟩
        by_cases hkn : k < n
        · rw [List.getElem_append_left (by omega)]; exact h2 k (by omega)
        · have : k = n := by simp [h1] at hk; omega
          subst this
          rw [List.getElem_append_right (by omega)]; simpa [h1] using e
    obtain ⟨hl1, hl2⟩ := hL len (Nat.le_refl _)
    refine ⟨L, ?_, by show L.length ≤ _; rw [hl1]; omega, ?_⟩
    · intro y hy
      obtain ⟨k, hk, rfl⟩ := List.getElem_of_mem hy
      have hk' : k < len := by rw [← hl1]; exact hk
      obtain ⟨q', e, g, _⟩ := hq k (by omega)
      have := hl2 k hk
      rw [e] at this; injection this with this
      exact this ▸ g
    · show Enc _ (.seq L.length _ _) _
      rw [show L.length = len from hl1]
      have hcl : (L.flatMap fun q => [c0 q, c1 q]).length = 2 * len := by rw [pair_len, show L.length = len from hl1]
      refine .seq len _ false (some a) m (fun i => if i % 2 = 0 then V0 (i / 2) else V1 (i / 2)) (fun e => List.length_eq_zero_iff.1 (by rw [hcl, e])) hl hm' (fun e => by cases e) (fun hpos => ?_) (.inr (by simp)) (fun i hi => ?_)
      · have hm0 : 0 < m := by omega
        have hs := spot_none (hall 0 hm0).1
        have hs1 : a.spot = none := by have := hs.1; simpa [Addr.add] using this
        have hb1 : a.block < w.heap.size := by have := hs.2; simpa [Addr.add] using this
        refine ⟨a.block, a.off, by rw [← addr_eta hs1], ctx0_mut, hb1, fun i hi => ?_⟩
        have hi2 : i / 2 < m := by omega
        obtain ⟨g0, g1, _⟩ := hall (i / 2) hi2
        rw [addr_add hs1] at g0 g1
        show w.cell? ⟨a.block, a.off + i, none⟩ = _
        by_cases hm2 : i % 2 = 0
        · rw [if_pos hm2]
          rw [show a.off + i / 2 * 2 = a.off + i by omega] at g0; exact g0
        · rw [if_neg hm2]
          rw [show a.off + (i / 2 * 2 + 1) = a.off + i by omega] at g1; exact g1
      · obtain ⟨k, hk, h⟩ := pair_get (c0 := c0) (c1 := c1) L i hi
        have hk' : k < len := by rw [← hl1]; exact hk
        obtain ⟨q', e, _, g0, g1⟩ := hq k (by omega)
        have e2 := hl2 k hk
        rw [e] at e2; injection e2 with e2
        have e3 : L[k] = q' := e2.symm
        rcases h with ⟨rfl, h⟩ | ⟨rfl, h⟩
        · rw [h, e3]
          have z : 2 * k % 2 = 0 := by omega
          have z2 : 2 * k / 2 = k := by omega
          simp only [z, z2, if_true]; exact g0
        · rw [h, e3]
          have z : ¬ (2 * k + 1) % 2 = 0 := by omega
          have z2 : (2 * k + 1) / 2 = k := by omega
          simp only [z, z2, if_false]; exact g1
abbrev NumV := Bool × List Nat × Bool
def NumGood (q : NumV) : Prop := Lim 4294967296 q.2.1 ∧ q.2.1.length ≤ 140737488355328
def NumsC (l : List NumV) : List AV := l.flatMap fun q => [.bool q.1, LS q.2.1 q.2.2]
def NumsA (l : List NumV) : AV := .seq l.length (NumsC l) false
theorem numc_in {f0 f1 : Field} {e : TypeId} (h0 : P.underlying f0.type = some .bool) (h1 : P.underlying f1.type = some (.slice e)) (h2 : P.underlying e = some (.int .u32)) (h3 : P.cellsOf e = 1) (h4 : 0 < P.bytesOf e) (n : Nat) (v0 v1 : Value) (y0 y1 : DataW H × List MemPlace)
    (a : DataW.trod enc P w base (fun _ => true) held n f0.type [v0] = some y0) (b : DataW.trod enc P w base (fun _ => true) held n f1.type [v1] = some y1) (hw : (y1.1.weights P f1.type).all (· ≤ reachBytes) = true) : ∃ q : NumV, NumGood q ∧ Enc (ctx0 w) (.bool q.1) v0 ∧ Enc (ctx0 w) (LS q.2.1 q.2.2) v1 := by
  obtain ⟨b0, hb0, _⟩ := DataW.trod_bool h0 a
  injection hb0 with hb0; subst hb0
  obtain ⟨l, g1, g2, g3⟩ := words_in2 h1 h2 h3 h4 b hw
  exact ⟨(b0, l, false), ⟨g1, g2⟩, .bool b0, g3⟩
theorem nums_in {t e u : TypeId} {f0 f1 : Field} {fuel : Nat} {v : Value} {x : DataW H × List MemPlace} (ht : P.underlying t = some (.slice e)) (he : P.underlying e = some (.struct #[f0, f1]))
    (ce : P.cellsOf e = 2) (o0 : f0.offset = 0) (o1 : f1.offset = 1) (k0 : P.cellsOf f0.type = 1) (k1 : P.cellsOf f1.type = 1) (hby : 0 < P.bytesOf e)
    (h0 : P.underlying f0.type = some .bool) (h1 : P.underlying f1.type = some (.slice u)) (h2 : P.underlying u = some (.int .u32)) (h3 : P.cellsOf u = 1) (h4 : 0 < P.bytesOf u)
    (h : DataW.trod enc P w base (fun _ => true) held fuel t [v] = some x) (hw : (x.1.weights P t).all (· ≤ reachBytes) = true) : ∃ l : List NumV, (∀ q, q ∈ l → NumGood q) ∧ l.length ≤ 140737488355328 ∧ Enc (ctx0 w) (NumsA l) v :=
  pairs_in (c0 := fun q : NumV => .bool q.1) (c1 := fun q : NumV => LS q.2.1 q.2.2) ht he ce o0 o1 k0 k1 hby (fun n v0 v1 y0 y1 a b _ w1 => numc_in h0 h1 h2 h3 h4 n v0 v1 y0 y1 a b w1) h hw
def FracsA (l : List (ByteArray × ByteArray)) : AV := .seq l.length (l.flatMap fun q => [.str q.1, .str q.2]) false
def I64s (l : List Int) : AV := .seq l.length (l.map fun n => .int .i64 n) false
abbrev TwoV := List NumV × List NumV × NumV × NumV
def TwoA (q : TwoV) : AV := .agg [NumsA q.1, NumsA q.2.1, .bool q.2.2.1.1, LS q.2.2.1.2.1 q.2.2.1.2.2, .bool q.2.2.2.1, LS q.2.2.2.2.1 q.2.2.2.2.2]
def TwoGood (q : TwoV) : Prop := (∀ x, x ∈ q.1 → NumGood x) ∧ q.1.length ≤ 140737488355328 ∧ (∀ x, x ∈ q.2.1 → NumGood x) ∧ q.2.1.length ≤ 140737488355328 ∧ NumGood q.2.2.1 ∧ NumGood q.2.2.2
end
end Go.Proofs.YtanchgkiomfhhaaDoor.Fw
