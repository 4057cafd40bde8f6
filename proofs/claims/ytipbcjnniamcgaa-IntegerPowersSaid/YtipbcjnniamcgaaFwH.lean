/- The framework, part H: memory that is made and written. -/
import Derived.Test.YtipbcjnniamcgaaFwG
namespace Go.Proofs.Ytipbcjnniamcgaa.Fw
set_option linter.unusedSimpArgs false
set_option linter.unusedVariables false
open Go

def repA (zero : List AV) (n : Nat) : List AV := (List.range n).map fun i => zero.getD (i % zero.length) .bot
theorem repA_length (zero : List AV) (n : Nat) : (repA zero n).length = n := by simp [repA]
theorem repA_one (z : AV) (n : Nat) : repA [z] n = List.replicate n z := by
  simp only [repA, List.length_singleton, Nat.mod_one]
  rw [List.eq_replicate_iff]
  simp

theorem encArr_rep {c : Ctx} {zero : List AV} {arr : Array Value} (h : EncArr c zero arr) (hz : zero ≠ []) (n : Nat) : EncArr c (repA zero n) ((Array.range n).map (arr[· % arr.size]!)) := by
  have hpos : 0 < zero.length := List.length_pos_iff.2 hz
  refine ⟨by simp [repA], fun i hi hi' => ?_⟩
  have h1 : i % zero.length < zero.length := Nat.mod_lt _ hpos
  have h2 : i % arr.size < arr.size := by rw [h.1]; exact h1
  have := h.2 (i % zero.length) h1 (by rw [h.1]; exact h1)
  simp only [repA, List.getElem_map, List.getElem_range, Array.getElem_map, Array.getElem_range, List.getD_eq_getElem?_getD, List.getElem?_eq_getElem h1, Option.getD_some]
  rw [getElem!_pos arr (i % arr.size) h2]
  simpa [h.1] using this

/-- A new row that is not followed. -/
theorem enc_new_seq {c : Ctx} (hok : Ok c) {n : Nat} {cells : List AV} {arr : Array Value} {ty : TypeId} (h : EncArr c cells arr) (hn : n = 0 → cells = []) (hb : n < 2 ^ 63) :
    Enc (c.push (.cells arr ty)) (.seq n cells true) (.slice (some ⟨c.w.heap.size, 0, none⟩) n n) := by
  refine .seq n cells true _ n (fun i => arr.getD i undef) hn (Nat.le_refl _) hb (fun _ => rfl) (fun hpos => ⟨_, 0, rfl, ?_, by simp [Ctx.push], fun i hi => ?_⟩) (.inr (by simp)) (fun i hi => ?_)
  · rintro ⟨b, h1, h2⟩
    cases hx : c.H b with
    | none => exact h1 hx
    | some x =>
      have := (hok.blk b x hx).lt
      have h2' : c.μ b = c.w.heap.size := h2
      omega
  · have hi' : i < arr.size := by rw [h.1]; exact hi
    rw [Nat.zero_add]
    show World.cell? (c.w.alloc _) _ = _
    rw [World.cell?_alloc_new]
    simp [Array.getD_eq_getD_getElem?, hi']
  · have hi' : i < arr.size := by rw [h.1]; exact hi
    have := (h.2 i hi hi').later (c.push_later (.cells arr ty))
    simpa [Array.getD_eq_getD_getElem?, hi'] using this

def bslW (zero : List AV) (len es : Nat) (parts : List (Nat × Nat × AV)) (K : AV → Prop) : Prop :=
  match fillA (repA zero (len * es)) parts with
  | some l => K (.seq len l true)
  | none => False

theorem bslW_sound {P : Program} {c : Ctx} (hok : Ok c) {t e : TypeId} {inf : TypeInfo} {len : Nat} {zero : List AV} (hu : P.underlying t = some (.slice e)) (hi : P.info? e = some inf) (hz : zeroOf P e = some zero) (hzl : zero.length = inf.size) (hes : inf.size ≠ 0)
    (hlen : len * inf.size ≤ 2 ^ 24) {ps : Array (Nat × Value)} {qs : List (Nat × Nat × AV)} {K : AV → Prop} (h : bslW zero len inf.size qs K) (hl : ps.toList.length = qs.length)
    (hp : ∀ i (h : i < ps.toList.length) (h' : i < qs.length), (some ((ps.toList[i]).1 * inf.size, inf.size) : Option (Nat × Nat)) = some ((qs[i]).1, (qs[i]).2.1) ∧ Enc c (qs[i]).2.2 (ps.toList[i]).2) :
    ∃ (c' : Ctx) (r : AV) (v' : Value), (Instr.buildSlice t len ps).run P c.w = .ok v' c'.w ∧ Later c c' ∧ Ok c' ∧ c'.H = c.H ∧ Enc c' r v' ∧ K r := by
  unfold bslW at h
  split at h
  · rename_i l hf
    have hz0 := hz
    unfold zeroOf at hz
    rw [hi] at hz
    simp only at hz
    split at hz
    · rename_i v0 hv0
      have hzero : EncArr c (repA zero (len * inf.size)) ((Array.range (len * inf.size)).map ((if len * inf.size = 0 then #[] else v0.cells)[· % (if len * inf.size = 0 then #[] else v0.cells).size]!)) := by
        by_cases h0 : len * inf.size = 0
        · rw [h0]; exact ⟨by simp [repA], fun i h => absurd h (by simp [repA])⟩
        · simp only [if_neg h0]
          exact encArr_rep (encArr_const c hz) (by intro e; rw [e] at hzl; simp at hzl; omega) _
      obtain ⟨arr, h1, h2⟩ := fill_sound (c := c) (place := fun i => some (i * inf.size, inf.size)) hzero hf hl hp
      refine ⟨c.push (.cells arr e), .seq len l true, .slice (some ⟨c.w.heap.size, 0, none⟩) len len, ?_, c.push_later _, Ctx.push_ok hok _, rfl, enc_new_seq hok h2 (fun e0 => ?_) ?_, h⟩
      · have hle : ¬ (len * inf.size > 2 ^ 24) := by omega
        simp only [Instr.buildSlice, Sem.run_bind, run_underlying hu, Result.andThen_ok, run_sizeOf hi, if_neg hle]
        by_cases h0 : len * inf.size = 0
        · simp only [h0, if_true] at h1
          simp only [h0, if_true, Sem.run_bind, Sem.run_pure, Result.andThen_ok, h1, newRow, run_newObj]
          rfl
        · simp only [if_neg h0] at h1
          simp only [if_neg h0, Sem.run_bind, run_zeroValue hi hv0, Sem.run_pure, Result.andThen_ok, h1, newRow, run_newObj]
          rfl
      · subst e0
        have : (repA zero (0 * inf.size)).length = 0 := by simp [repA]
        have hlen2 : ∀ {cells out : List AV} {qs : List (Nat × Nat × AV)}, fillA cells qs = some out → out.length = cells.length := by
          intro cells out qs
          induction qs generalizing cells with
          | nil => intro h; injection h with h; rw [h]
          | cons q r ih =>
            intro h
            obtain ⟨off, size, x⟩ := q
            simp only [fillA] at h
            split at h
            · split at h
              · rename_i hc
                rw [ih h, splice_length hc.2]
              · cases h
            · cases h
        exact List.eq_nil_of_length_eq_zero ((hlen2 hf).trans this)
      · have : len ≤ len * inf.size := Nat.le_mul_of_pos_right _ (by omega)
        omega
    · cases hz
  · exact h.elim

/-! ### variables -/
def allocW (H : AHeap) (ty es : Nat) (cells : List AV) (K : AV → AHeap → Prop) : Prop :=
  ∀ b, H b = none → K (.ptr b cells.length 0) (H.upd b (some (.row ty es cells)))

theorem free_nx {c : Ctx} (hok : Ok c) {b : Nat} (hb : ¬ c.U b) : c.H b = none := by
  cases h : c.H b with
  | none => rfl
  | some x => exact absurd (hok.used b (by rw [h]; simp)) hb
theorem Ok.fresh {c : Ctx} (hok : Ok c) : ∃ b, ¬ c.U b ∧ ¬ c.R b := by
  obtain ⟨M, hM⟩ := hok.fin
  exact ⟨M, fun h => by have := hM M (.inl h); omega, fun h => by have := hM M (.inr h); omega⟩

theorem enc_new_ptr (c : Ctx) (b : Nat) (o : Obj) (x : ABlk) : Enc (c.new b o x) (.ptr b x.len 0) (.pointer (some ⟨c.w.heap.size, 0, none⟩)) := by
  refine .ptr b _ 0 _ ⟨_, rfl⟩ (.inr rfl) (fun y hy => ?_) (fun y hy _ => ?_)
  · have : some x = some y := by rw [← hy]; simp [Ctx.new, AHeap.upd]
    injection this with this; rw [this]; exact Nat.le_refl _
  · simp [Ctx.new]

theorem newVar_sound {P : Program} {c : Ctx} (hok : Ok c) {ty es : Nat} {cells : List AV} {v : Value} (ha : EncArr c cells v.cells) {b : Nat} (hb : ¬ c.U b ∧ ¬ c.R b) {K : AV → AHeap → Prop} (h : K (.ptr b cells.length 0) (c.H.upd b (some (.row ty es cells)))) :
    ∃ (c' : Ctx) (r : AV) (v' : Value), (do pure (.pointer (some (← newVar ty v))) : Sem Value).run P c.w = .ok v' c'.w ∧ Later c c' ∧ Ok c' ∧ Enc c' r v' ∧ K r c'.H :=
  ⟨c.new b (.cells v.cells ty) (.row ty es cells), _, _, by simp [newVar, newRow]; rfl, Ctx.new_later hok hb _ _, Ctx.new_row hok hb ty es cells v.cells (by rw [ha.1]; exact Nat.le_refl _) ha.2, enc_new_ptr c b _ _, h⟩

/-! ### stores -/
def storeW (H : AHeap) (n : Nat) (x y : AV) (K : AV → AHeap → Prop) : Prop :=
  match x with
  | .ptr b L off => match H b with
    | some (.row ty es cells) => match y.cells with
      | some l => cells.length = L ∧ l.length = n ∧ off + n ≤ L ∧ K .bot (H.upd b (some (.row ty es (splice cells off l))))
      | none => False
    | _ => False
  | _ => False

theorem put_cells {c : Ctx} (hok : Ok c) {b ty es off : Nat} {cells l : List AV} {arr : Array Value} (hH : c.H b = some (.row ty es cells)) (hw : c.w.heap[c.μ b]? = some (.cells arr ty)) (hle : cells.length ≤ arr.size)
    (he : ∀ i (h : i < cells.length) (h' : i < arr.size), Enc c (cells[i]) (arr[i])) {vs : List Value} (hl : vs.length = l.length) (hv : ∀ i (h : i < l.length) (h' : i < vs.length), Enc c (l[i]) (vs[i])) {cells' : List AV} (hc : cells.length ≤ cells'.length) (hc' : cells'.length ≤ arr.size)
    (hoff : off + l.length ≤ cells'.length)
    (hcells : ∀ i, i < cells'.length → cells'[i]? = if off ≤ i ∧ i < off + l.length then l[i - off]? else cells[i]?) :
    Later c (c.put b (.row ty es cells') (arr.toList.take off ++ vs ++ arr.toList.drop (off + vs.length)).toArray) ∧ Ok (c.put b (.row ty es cells') (arr.toList.take off ++ vs ++ arr.toList.drop (off + vs.length)).toArray) := by
  have hsz : (arr.toList.take off ++ vs ++ arr.toList.drop (off + vs.length)).toArray.size = arr.size := by simp; omega
  refine ⟨Ctx.put_later hok hH hw hc hsz, Ctx.put_ok hok hH hw hc hsz (by rw [hsz]; exact hc') fun i h h' => ?_⟩
  have h1 := hcells i h
  rw [List.getElem?_eq_getElem h] at h1
  have hia : i < arr.size := by omega
  have h2 : (arr.toList.take off ++ vs ++ arr.toList.drop (off + vs.length)).toArray[i]? = if off ≤ i ∧ i < off + vs.length then vs[i - off]? else arr[i]? := by
    simp only [List.getElem?_toArray]
    have ht : (arr.toList.take off).length = off := by simp; omega
    have htl : (arr.toList.take off ++ vs).length = off + vs.length := by rw [List.length_append, ht]
    by_cases e1 : i < off
    · rw [if_neg (by omega), List.getElem?_append_left (by omega), List.getElem?_append_left (by omega), List.getElem?_take, if_pos e1, Array.getElem?_toList]
    · by_cases e2 : i < off + vs.length
      · rw [if_pos ⟨by omega, e2⟩, List.getElem?_append_left (by omega), List.getElem?_append_right (by omega), ht]
      · rw [if_neg (by omega), List.getElem?_append_right (by omega), htl, List.getElem?_drop, Array.getElem?_toList]
        congr 1
        omega
  rw [Array.getElem?_eq_getElem h'] at h2
  by_cases e : off ≤ i ∧ i < off + l.length
  · rw [if_pos e, List.getElem?_eq_getElem (by omega)] at h1
    rw [if_pos (by omega), List.getElem?_eq_getElem (by omega)] at h2
    injection h1 with h1; injection h2 with h2
    rw [h1, h2]
    exact hv _ _ _
  · rw [if_neg e] at h1
    rw [if_neg (by omega), Array.getElem?_eq_getElem hia] at h2
    have hic : i < cells.length := by
      rcases Nat.lt_or_ge i cells.length with h | hge
      · exact h
      · rw [List.getElem?_eq_none hge] at h1; cases h1
    rw [List.getElem?_eq_getElem hic] at h1
    injection h1 with h1; injection h2 with h2
    rw [h1, h2]
    exact he _ _ _

theorem storeW_sound {P : Program} {c : Ctx} (hok : Ok c) {t : TypeId} {inf : TypeInfo} (hi : P.info? t = some inf) {x y : AV} {v u : Value} {K : AV → AHeap → Prop} (h : storeW c.H inf.size x y K) (he : Enc c x v) (hu : Enc c y u) :
    ∃ c' : Ctx, (Instr.storeAt t v u).run P c.w = .ok () c'.w ∧ Later c c' ∧ Ok c' ∧ K .bot c'.H := by
  unfold storeW at h
  split at h
  · rename_i b L off
    split at h
    · rename_i ty es cells hH
      split at h
      · rename_i l hl
        obtain ⟨h1, h2, h3, hK⟩ := h
        obtain ⟨rfl, arr, g1, g2, g3⟩ := ptr_spec hok he hH h1
        obtain ⟨e1, e2, e3⟩ := hu.cells hl
        have hst := run_storeCells_at (P := P) (c.μ b) off ty u.cells.toList 0 arr c.w g1 (by simp; omega) e3
        obtain ⟨k1, k2⟩ := put_cells hok (l := l) (off := off) hH g1 g2 g3 (vs := u.cells.toList) (by simpa using e1) (fun i h h' => by rw [Array.getElem_toList]; exact e2 i h (by simpa using h')) (cells' := splice cells off l)
          (by rw [splice_length (by omega)]; exact Nat.le_refl _) (by rw [splice_length (by omega)]; exact g2) (by rw [splice_length (by omega)]; omega) (fun i _ => splice_get? (by omega) i)
        refine ⟨_, ?_, k1, k2, hK⟩
        have hne : ¬ (u.cells.size ≠ inf.size) := by omega
        simp only [Instr.storeAt, Instr.sureAddr, Sem.run_bind, Sem.run_pure, Result.andThen_ok, storeVar, run_sizeOf hi, if_neg hne]
        rw [hst]
        rfl
      · exact h.elim
    · exact h.elim
  · exact h.elim

/-! ### make -/
theorem wrap_i64 {x : Int} (h0 : -9223372036854775808 ≤ x) (h1 : x ≤ 9223372036854775807) : IntKind.i64.wrap x = x := by
  unfold IntKind.wrap
  simp only [IntKind.bits, IntKind.signed, Bool.true_and, decide_eq_true_eq, ge_iff_le]
  split <;> omega

theorem enc_new_own {c : Ctx} (b : Nat) {ty es n cap : Nat} {cells : List AV} {arr : Array Value} {t : Bool} (h1 : n ≤ cap) (h2 : cap < 2 ^ 63) (h3 : t = true → cap = n) (h4 : cap * es ≤ arr.size) :
    Enc (c.new b (.cells arr ty) (.row ty es cells)) (.own b cells.length 0 n t) (.slice (some ⟨c.w.heap.size, 0, none⟩) n cap) := by
  refine .own b _ 0 n t _ ⟨_, _, rfl, by omega⟩ (.inr rfl) (fun y hy => ?_) (fun ty' es' cells' hy hl => ?_)
  · have : some (ABlk.row ty es cells) = some y := by rw [← hy]; simp [Ctx.new, AHeap.upd]
    injection this with this; rw [← this]
    exact Nat.le_refl _
  · have : some (ABlk.row ty es cells) = some (.row ty' es' cells') := by rw [← hy]; simp [Ctx.new, AHeap.upd]
    injection this with this
    injection this with k1 k2 k3
    subst k1; subst k2
    refine ⟨_, _, arr, rfl, .inr ?_, h1, h2, h3, ?_, by omega⟩
    · simp [Ctx.new]
    · show (c.w.alloc _).heap[(if b = b then c.w.heap.size else c.μ b)]? = _
      rw [if_pos rfl]; exact alloc_new _ _

def mksW (H : AHeap) (ty es bytes : Nat) (zero : List AV) (l c : AV) (K : AV → AHeap → Prop) : Prop :=
  match l, c with
  | .int _ l, .int _ c => (0 ≤ l ∧ l ≤ c ∧ c < 9223372036854775808 ∧ bytes * c ≤ 281474976710656) ∧ ∀ b, H b = none → K (.own b (c.toNat * es) 0 l.toNat (decide (l = c))) (H.upd b (some (.row ty es (repA zero (c.toNat * es)))))
  | _, _ => False

theorem mksW_sound {P : Program} {c : Ctx} (hok : Ok c) {t e : TypeId} {inf : TypeInfo} {zero : List AV} (hu : P.underlying t = some (.slice e)) (hi : P.info? e = some inf) (hz : zeroOf P e = some zero) (hzl : zero.length = inf.size) (hes : inf.size ≠ 0)
    {x y : AV} {v u : Value} {K : AV → AHeap → Prop} (h : mksW c.H e inf.size inf.bytes zero x y K) (hx : Enc c x v) (hy : Enc c y u) :
    ∃ (c' : Ctx) (r : AV) (v' : Value), (Instr.makeSlice t v u).run P c.w = .ok v' c'.w ∧ Later c c' ∧ Ok c' ∧ Enc c' r v' ∧ K r c'.H := by
  unfold mksW at h
  split at h
  · rename_i kl l kc n
    obtain ⟨⟨h1, h2, h3, h4⟩, hK⟩ := h
    cases hx; cases hy
    obtain ⟨nx, hnx⟩ := hok.fresh
    have hb := hK nx (free_nx hok hnx.1)
    unfold zeroOf at hz
    rw [hi] at hz
    simp only at hz
    split at hz
    · rename_i v0 hv0
      have hzero : EncArr c (repA zero (n.toNat * inf.size)) ((Array.range (n.toNat * inf.size)).map ((if n.toNat * inf.size = 0 then #[] else v0.cells)[· % (if n.toNat * inf.size = 0 then #[] else v0.cells).size]!)) := by
        by_cases h0 : n.toNat * inf.size = 0
        · rw [h0]; exact ⟨by simp [repA], fun i h => absurd h (by simp [repA])⟩
        · simp only [if_neg h0]
          exact encArr_rep (encArr_const c hz) (by intro e; rw [e] at hzl; simp at hzl; omega) _
      refine ⟨c.new nx (.cells _ e) (.row e inf.size (repA zero (n.toNat * inf.size))), _, .slice (some ⟨c.w.heap.size, 0, none⟩) l.toNat n.toNat, ?_, Ctx.new_later hok hnx _ _, Ctx.new_row hok hnx e inf.size _ _ (by rw [hzero.1]; exact Nat.le_refl _) hzero.2, ?_, hb⟩
      · have w1 := wrap_i64 (x := l) (by omega) (by omega)
        have w2 := wrap_i64 (x := n) (by omega) (by omega)
        have t1 : ¬ (decide (n < 0) || decide ((inf.bytes : Int) * n > 2 ^ 48) || decide (l < 0) || decide (l > n)) = true := by
          simp only [Bool.or_eq_true, decide_eq_true_eq, not_or]
          refine ⟨⟨⟨by omega, by omega⟩, by omega⟩, by omega⟩
        simp only [Instr.makeSlice, Sem.run_bind, run_underlying hu, Result.andThen_ok, asInt, asIntOf, Sem.run_pure, run_typeInfo hi, w1, w2]
        rw [if_neg t1]
        simp only [Sem.run_bind, Result.andThen_ok, run_askRoom, run_sizeOf hi]
        by_cases h0 : n.toNat * inf.size = 0
        · simp only [h0, if_true, Sem.run_bind, Sem.run_pure, Result.andThen_ok, newRow, run_newObj]
          rfl
        · simp only [if_neg h0, Sem.run_bind, run_zeroValue hi hv0, Sem.run_pure, Result.andThen_ok, newRow, run_newObj]
          rfl
      · have := enc_new_own (c := c) nx (es := inf.size) (cells := repA zero (n.toNat * inf.size)) (ty := e) (arr := (Array.range (n.toNat * inf.size)).map ((if n.toNat * inf.size = 0 then #[] else v0.cells)[· % (if n.toNat * inf.size = 0 then #[] else v0.cells).size]!))
          (n := l.toNat) (cap := n.toNat) (t := decide (l = n)) (by omega) (by omega) (fun e => by have := of_decide_eq_true e; omega) (by rw [hzero.1, repA_length]; exact Nat.le_refl _)
        rw [repA_length] at this
        exact this
    · cases hz
  · exact h.elim

end Go.Proofs.Ytipbcjnniamcgaa.Fw
