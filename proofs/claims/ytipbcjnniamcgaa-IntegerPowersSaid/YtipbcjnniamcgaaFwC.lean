/- The framework, part C: what becomes of the correspondence when memory is made or written. -/
import Derived.Test.YtipbcjnniamcgaaFwB
import Derived.Laws.CopyRow
import Derived.Laws.Cells
namespace Go.Proofs.Ytipbcjnniamcgaa.Fw
set_option linter.unusedSimpArgs false
set_option linter.unusedVariables false
open Go

/-- One cell's value. -/
def AV.cell : AV → Bool
  | .bot | .agg _ | .tup _ => false
  | _ => true

theorem Enc.oneCell {c : Ctx} {x : AV} {v : Value} (h : Enc c x v) (hx : x.cell = true) : v.oneCell' = true ∧ v.cells = #[v] := by
  cases h with
  | yld b v hs => obtain ⟨p, rfl⟩ := hs; exact ⟨rfl, rfl⟩
  | own b L off n t v hs => obtain ⟨p, r, rfl, _⟩ := hs; exact ⟨rfl, rfl⟩
  | ptr b L off v hs => obtain ⟨p, rfl⟩ := hs; exact ⟨rfl, rfl⟩
  | bot | agg | tup => cases hx
  | _ => exact ⟨rfl, rfl⟩

/-- The cells of a value. -/
def AV.cells : AV → Option (List AV)
  | .agg l => if l.all AV.cell then some l else none
  | x => if x.cell then some [x] else none

theorem Enc.cells {c : Ctx} {x : AV} {v : Value} {l : List AV} (h : Enc c x v) (hx : x.cells = some l) :
    v.cells.size = l.length ∧ (∀ i (h : i < l.length) (h' : i < v.cells.size), Enc c (l[i]) (v.cells[i])) ∧ (∀ u ∈ v.cells.toList, u.oneCell' = true) := by
  have one : ∀ {x : AV}, Enc c x v → (if x.cell then some [x] else none) = some l → v.cells.size = l.length ∧ (∀ i (h : i < l.length) (h' : i < v.cells.size), Enc c (l[i]) (v.cells[i])) ∧ (∀ u ∈ v.cells.toList, u.oneCell' = true) := by
    intro x h hx
    split at hx
    · rename_i hc
      injection hx with hx
      subst hx
      obtain ⟨h1, h2⟩ := h.oneCell hc
      rw [h2]
      refine ⟨rfl, fun i hi hi' => ?_, fun u hu => ?_⟩
      · have : i = 0 := by simp at hi; omega
        subst this
        exact h
      · have : u = v := by simpa using hu
        rw [this]; exact h1
    · cases hx
  cases x with
  | agg l' =>
    simp only [AV.cells] at hx
    split at hx
    · rename_i hc
      injection hx with hx
      subst hx
      cases h with
      | agg _ vs hlen hcs =>
        refine ⟨hlen, fun i hi hi' => hcs i hi hi', fun u hu => ?_⟩
        obtain ⟨i, hi, rfl⟩ := List.mem_iff_getElem.1 hu
        have hi' : i < vs.size := by simpa [Value.cells] using hi
        have := hcs i (by omega) hi'
        refine (this.oneCell ?_).1
        exact (List.all_eq_true.1 hc) _ (List.getElem_mem _)
    · cases hx
  | _ => exact one h hx

/-! ### A new block that is not followed -/
def Ctx.push (c : Ctx) (o : Obj) : Ctx := { c with w := c.w.alloc o }

theorem alloc_old (w : World) (o : Obj) {k : Nat} (h : k < w.heap.size) : (w.alloc o).heap[k]? = w.heap[k]? := by
  show (w.heap.push o)[k]? = _
  rw [Array.getElem?_push, if_neg (by omega)]
theorem alloc_new (w : World) (o : Obj) : (w.alloc o).heap[w.heap.size]? = some o := by
  show (w.heap.push o)[w.heap.size]? = _
  simp

theorem later_grow {c c' : Ctx} (hμ : c'.μ = c.μ) (hn : c'.U = c.U) (hR : c'.R = c.R) (hH : c'.H = c.H) (hs : c.w.heap.size ≤ c'.w.heap.size) (ho : c'.w.os = c.w.os) (ht : c'.w.tape = c.w.tape) (hp : c'.w.output = c.w.output)
    (hk : ∀ k, k < c.w.heap.size → c'.w.heap[k]? = c.w.heap[k]?) : Later c c' := by
  refine ⟨⟨hs, ho, ht, hp, fun b hb => hn ▸ hb, fun b x' hb hx => ⟨x', hH ▸ hx, Nat.le_refl _, fun _ => ⟨by rw [hμ], fun ty es cells e => ⟨cells, e, fun arr h => ⟨arr, ?_, rfl⟩⟩⟩⟩, fun k hk' hm => ⟨hk k hk', ?_⟩⟩, fun b hb => ⟨hR ▸ hb, fun h => hn ▸ h⟩⟩
  · rw [hμ, hk _ (Array.getElem?_eq_some_iff.1 h).1]; exact h
  · rintro ⟨b, h1, h2⟩
    exact hm ⟨b, hH ▸ h1, hμ ▸ h2⟩

theorem BlkOk.lt {c : Ctx} {b : Nat} {x : ABlk} (h : BlkOk c b x) : c.μ b < c.w.heap.size := by
  cases x with
  | row ty es cells => obtain ⟨arr, h1, _⟩ := h; exact (Array.getElem?_eq_some_iff.1 h1).1
  | raw o => exact (Array.getElem?_eq_some_iff.1 h.1).1

theorem ok_grow {c c' : Ctx} (hok : Ok c) (hl : Later c c') (hμ : c'.μ = c.μ) (hn : c'.U = c.U) (hR : c'.R = c.R) (hH : c'.H = c.H) (hk : ∀ k, k < c.w.heap.size → c'.w.heap[k]? = c.w.heap[k]?) : Ok c' := by
  refine ⟨fun b hb => by rw [hn]; exact hok.used b (hH ▸ hb), by rw [hn, hR]; exact hok.fin, fun b b' h1 h2 e => hok.inj b b' (hH ▸ h1) (hH ▸ h2) (hμ ▸ e), fun b x hx => ?_⟩
  have h := hok.blk b x (hH ▸ hx)
  exact h.later hl (by rw [hμ]) (hk _ h.lt)

theorem Ctx.push_later (c : Ctx) (o : Obj) : Later c (c.push o) := later_grow rfl rfl rfl rfl (by simp [Ctx.push]) rfl rfl rfl (fun _ h => alloc_old _ _ h)
theorem Ctx.push_ok {c : Ctx} (h : Ok c) (o : Obj) : Ok (c.push o) := ok_grow h (c.push_later o) rfl rfl rfl rfl (fun _ h => alloc_old _ _ h)
def Ctx.drew (c : Ctx) : Ctx := { c with w := c.w.drew }
theorem Ctx.drew_later (c : Ctx) : Later c c.drew := later_grow rfl rfl rfl rfl (Nat.le_refl _) rfl rfl rfl (fun _ _ => rfl)
theorem Ctx.drew_ok {c : Ctx} (h : Ok c) : Ok c.drew := ok_grow h c.drew_later rfl rfl rfl rfl (fun _ _ => rfl)

/-! ### A new block that is followed: at a number that the caller chooses among those that are free -/
def Ctx.new (c : Ctx) (b : Nat) (o : Obj) (x : ABlk) : Ctx :=
  { μ := fun i => if i = b then c.w.heap.size else c.μ i, U := fun i => c.U i ∨ i = b, R := c.R, H := c.H.upd b (some x), w := c.w.alloc o }

theorem upd_some {H : AHeap} {b i : Nat} {x : Option ABlk} {y : ABlk} (h : (H.upd b x) i = some y) : (i = b ∧ x = some y) ∨ (i ≠ b ∧ H i = some y) := by
  have h2 : (if i = b then x else H i) = some y := h
  split at h2
  · exact .inl ⟨‹_›, h2⟩
  · exact .inr ⟨‹_›, h2⟩
theorem upd_ne {H : AHeap} {b i : Nat} {x : Option ABlk} (h : (H.upd b x) i ≠ none) : i = b ∨ (i ≠ b ∧ H i ≠ none) := by
  have h2 : (if i = b then x else H i) ≠ none := h
  split at h2
  · exact .inl ‹_›
  · exact .inr ⟨‹_›, h2⟩
theorem upd_same (H : AHeap) (b : Nat) (x : Option ABlk) : (H.upd b x) b = x := by simp [AHeap.upd]
theorem upd_other (H : AHeap) {b i : Nat} (x : Option ABlk) (h : i ≠ b) : (H.upd b x) i = H i := by simp [AHeap.upd, h]
theorem upd_upd (H : AHeap) (b : Nat) (x y : Option ABlk) : (H.upd b x).upd b y = H.upd b y := by
  funext i; simp only [AHeap.upd]; split <;> rfl
theorem upd_back (H : AHeap) {b : Nat} {x : Option ABlk} (h : H b = x) : H.upd b x = H := by
  funext i; simp only [AHeap.upd]; split
  · rename_i e; rw [e, h]
  · rfl
theorem upd_comm (H : AHeap) {b b' : Nat} (x y : Option ABlk) (h : b ≠ b') : (H.upd b x).upd b' y = (H.upd b' y).upd b x := by
  funext i; simp only [AHeap.upd]; split <;> split <;> simp_all

theorem Ctx.new_later {c : Ctx} (hok : Ok c) {b : Nat} (hb : ¬ c.U b ∧ ¬ c.R b) (o : Obj) (x : ABlk) : Later c (c.new b o x) := by
  refine ⟨⟨by simp [Ctx.new], rfl, rfl, rfl, fun i hi => .inl hi, fun i x' hi hx => ?_, fun k hk hm => ⟨alloc_old _ _ hk, ?_⟩⟩, fun i hi => ⟨hi, fun h => h.resolve_right fun e => hb.2 (e ▸ hi)⟩⟩
  · rcases upd_some hx with ⟨e, _⟩ | ⟨hne, hx⟩
    · exact absurd (e ▸ hi) hb.1
    · have hμ : (c.new b o x).μ i = c.μ i := by simp [Ctx.new, hne]
      refine ⟨x', hx, Nat.le_refl _, fun _ => ⟨hμ, fun ty es cells e => ⟨cells, e, fun arr h => ⟨arr, ?_, rfl⟩⟩⟩⟩
      rw [hμ]
      exact (alloc_old _ _ (Array.getElem?_eq_some_iff.1 h).1).trans h
  · rintro ⟨i, h1, h2⟩
    rcases upd_ne h1 with e | ⟨hne, h1⟩
    · simp only [Ctx.new, e, if_true] at h2
      omega
    · exact hm ⟨i, h1, by simpa [Ctx.new, hne] using h2⟩

theorem Ctx.new_ok {c : Ctx} (hok : Ok c) {b : Nat} (hb : ¬ c.U b ∧ ¬ c.R b) (o : Obj) (x : ABlk) (hx : BlkOk (c.new b o x) b x) : Ok (c.new b o x) := by
  have hl := Ctx.new_later hok hb o x
  have hμ : ∀ i, i ≠ b → (c.new b o x).μ i = c.μ i := fun i h => by simp [Ctx.new, h]
  have hμb : (c.new b o x).μ b = c.w.heap.size := by simp [Ctx.new]
  have lt : ∀ i, c.H i ≠ none → c.μ i < c.w.heap.size := by
    intro i hi
    cases hx : c.H i with
    | none => exact absurd hx hi
    | some y => exact (hok.blk i y hx).lt
  refine ⟨fun i hi => ?_, ?_, fun i j hi hj e => ?_, fun i y hy => ?_⟩
  · rcases upd_ne hi with e | ⟨_, h⟩
    · exact .inr e
    · exact .inl (hok.used i h)
  · obtain ⟨M, hM⟩ := hok.fin
    refine ⟨max M (b + 1), fun i hi => ?_⟩
    rcases hi with (h | h) | h
    · have := hM i (.inl h); omega
    · omega
    · have := hM i (.inr h); omega
  · rcases upd_ne hi with ei | ⟨hi1, hi2⟩ <;> rcases upd_ne hj with ej | ⟨hj1, hj2⟩
    · rw [ei, ej]
    · rw [ei, hμb, hμ j hj1] at e; have := lt j hj2; omega
    · rw [ej, hμb, hμ i hi1] at e; have := lt i hi2; omega
    · rw [hμ i hi1, hμ j hj1] at e; exact hok.inj i j hi2 hj2 e
  · rcases upd_some hy with ⟨e, h⟩ | ⟨hne, h⟩
    · subst e; injection h with h; subst h; exact hx
    · have hb' := hok.blk i y h
      exact hb'.later hl (hμ i hne) (alloc_old _ _ hb'.lt)

/-- A new row. -/
theorem Ctx.new_row {c : Ctx} (hok : Ok c) {b : Nat} (hb : ¬ c.U b ∧ ¬ c.R b) (ty es : Nat) (cells : List AV) (arr : Array Value) (hlen : cells.length ≤ arr.size)
    (he : ∀ i (h : i < cells.length) (h' : i < arr.size), Enc c (cells[i]) (arr[i])) : Ok (c.new b (.cells arr ty) (.row ty es cells)) :=
  Ctx.new_ok hok hb _ _ ⟨arr, by
    show (c.w.alloc _).heap[(if b = b then c.w.heap.size else c.μ b)]? = _
    rw [if_pos rfl]; exact alloc_new _ _, hlen, fun i h h' => (he i h h').later (Ctx.new_later hok hb _ _)⟩

/-! ### A row that is written in place -/
def Ctx.put (c : Ctx) (b : Nat) (x : ABlk) (arr : Array Value) : Ctx := { c with H := c.H.upd b (some x), w := c.w.setRow (c.μ b) arr }

theorem Ctx.put_later {c : Ctx} (hok : Ok c) {b ty es : Nat} {cells cells' : List AV} {arr arr' : Array Value} (hH : c.H b = some (.row ty es cells)) (hw : c.w.heap[c.μ b]? = some (.cells arr ty))
    (hle : cells.length ≤ cells'.length) (hs : arr'.size = arr.size) : Later c (c.put b (.row ty es cells') arr') := by
  refine ⟨⟨by simp [Ctx.put], rfl, rfl, rfl, fun _ h => h, fun i x' hi hx => ?_, fun k hk hm => ⟨setRow_other _ _ _ _ ?_, ?_⟩⟩, fun _ h => ⟨h, fun k => k⟩⟩
  · rcases upd_some hx with ⟨e, h⟩ | ⟨hne, hx⟩
    · subst e; injection h with h; subst h
      refine ⟨_, hH, hle, fun _ => ⟨rfl, fun ty' es' cells'' e => ?_⟩⟩
      injection e with e1 e2 e3
      subst e1; subst e2; subst e3
      refine ⟨cells, rfl, fun arr2 h => ⟨arr', setRow_heap _ _ arr _ _ _ hw, ?_⟩⟩
      rw [hw] at h; injection h with h; injection h with h; rw [hs, h]
    · refine ⟨x', hx, Nat.le_refl _, fun _ => ⟨rfl, fun ty' es' cells'' e => ⟨cells'', e, fun arr2 h => ⟨arr2, ?_, rfl⟩⟩⟩⟩
      have hne' : c.μ i ≠ c.μ b := fun e => hne (hok.inj i b (by rw [hx]; simp) (by rw [hH]; simp) e)
      show (c.w.setRow _ _).heap[c.μ i]? = _
      rw [setRow_other _ _ _ _ hne']; exact h
  · rintro rfl
    exact hm ⟨b, by rw [hH]; simp, rfl⟩
  · rintro ⟨i, h1, h2⟩
    rcases upd_ne h1 with e | ⟨_, h1⟩
    · subst e; exact hm ⟨i, by rw [hH]; simp, h2⟩
    · exact hm ⟨i, h1, h2⟩

theorem Ctx.put_ok {c : Ctx} (hok : Ok c) {b ty es : Nat} {cells cells' : List AV} {arr arr' : Array Value} (hH : c.H b = some (.row ty es cells)) (hw : c.w.heap[c.μ b]? = some (.cells arr ty))
    (hle : cells.length ≤ cells'.length) (hs : arr'.size = arr.size) (hlen : cells'.length ≤ arr'.size)
    (he : ∀ i (h : i < cells'.length) (h' : i < arr'.size), Enc c (cells'[i]) (arr'[i])) : Ok (c.put b (.row ty es cells') arr') := by
  have hl := Ctx.put_later hok hH hw hle hs
  refine ⟨fun i hi => ?_, hok.fin, fun i j hi hj e => ?_, fun i y hy => ?_⟩
  · rcases upd_ne hi with e | ⟨_, h⟩
    · subst e; exact hok.used i (by rw [hH]; simp)
    · exact hok.used i h
  · have ne : ∀ i, (c.H.upd b (some (.row ty es cells'))) i ≠ none → c.H i ≠ none := by
      intro i hi
      rcases upd_ne hi with e | ⟨_, h⟩
      · subst e; rw [hH]; simp
      · exact h
    exact hok.inj i j (ne i hi) (ne j hj) e
  · rcases upd_some hy with ⟨e, h⟩ | ⟨hne, h⟩
    · subst e; injection h with h; subst h
      exact ⟨arr', setRow_heap _ _ arr _ _ _ hw, hlen, fun i h h' => (he i h h').later hl⟩
    · have hb' := hok.blk i y h
      refine hb'.later hl rfl (setRow_other _ _ _ _ ?_)
      exact fun e => hne (hok.inj i b (by rw [h]; simp) (by rw [hH]; simp) e)

/-! ### A row that is made anew, longer, at the same number -/
def Ctx.move (c : Ctx) (b : Nat) (x : ABlk) (o : Obj) : Ctx := { c with μ := fun i => if i = b then c.w.heap.size else c.μ i, H := c.H.upd b (some x), w := c.w.alloc o }

theorem Ctx.move_later {c : Ctx} {b : Nat} {x y : ABlk} (hH : c.H b = some x) (hlt : x.len < y.len) (o : Obj) : Later c (c.move b y o) := by
  refine ⟨⟨by simp [Ctx.move], rfl, rfl, rfl, fun _ h => h, fun i x' hi hx => ?_, fun k hk hm => ⟨alloc_old _ _ hk, ?_⟩⟩, fun _ h => ⟨h, fun k => k⟩⟩
  · rcases upd_some hx with ⟨e, h⟩ | ⟨hne, hx⟩
    · subst e; injection h with h; subst h
      exact ⟨x, hH, by omega, fun e => by omega⟩
    · have hμ : (c.move b y o).μ i = c.μ i := by simp [Ctx.move, hne]
      refine ⟨x', hx, Nat.le_refl _, fun _ => ⟨hμ, fun ty es cells e => ⟨cells, e, fun arr h => ⟨arr, ?_, rfl⟩⟩⟩⟩
      rw [hμ]
      exact (alloc_old _ _ (Array.getElem?_eq_some_iff.1 h).1).trans h
  · rintro ⟨i, h1, h2⟩
    rcases upd_ne h1 with e | ⟨hne, h1⟩
    · simp only [Ctx.move, e, if_true] at h2
      omega
    · exact hm ⟨i, h1, by simpa [Ctx.move, hne] using h2⟩

theorem Ctx.move_ok {c : Ctx} (hok : Ok c) {b ty es : Nat} {x : ABlk} {cells' : List AV} {arr : Array Value} (hH : c.H b = some x) (hlt : x.len < cells'.length) (hlen : cells'.length ≤ arr.size)
    (he : ∀ i (h : i < cells'.length) (h' : i < arr.size), Enc c (cells'[i]) (arr[i])) : Ok (c.move b (.row ty es cells') (.cells arr ty)) := by
  have hl := Ctx.move_later (y := .row ty es cells') hH hlt (.cells arr ty)
  have hμ : ∀ i, i ≠ b → (c.move b (.row ty es cells') (.cells arr ty)).μ i = c.μ i := fun i h => by simp [Ctx.move, h]
  have hμb : (c.move b (.row ty es cells') (.cells arr ty)).μ b = c.w.heap.size := by simp [Ctx.move]
  have lt : ∀ i, c.H i ≠ none → c.μ i < c.w.heap.size := by
    intro i hi
    cases hx : c.H i with
    | none => exact absurd hx hi
    | some y => exact (hok.blk i y hx).lt
  refine ⟨fun i hi => ?_, hok.fin, fun i j hi hj e => ?_, fun i y hy => ?_⟩
  · rcases upd_ne hi with e | ⟨_, h⟩
    · subst e; exact hok.used i (by rw [hH]; simp)
    · exact hok.used i h
  · rcases upd_ne hi with ei | ⟨hi1, hi2⟩ <;> rcases upd_ne hj with ej | ⟨hj1, hj2⟩
    · rw [ei, ej]
    · rw [ei, hμb, hμ j hj1] at e; have := lt j hj2; omega
    · rw [ej, hμb, hμ i hi1] at e; have := lt i hi2; omega
    · rw [hμ i hi1, hμ j hj1] at e; exact hok.inj i j hi2 hj2 e
  · rcases upd_some hy with ⟨e, h⟩ | ⟨hne, h⟩
    · subst e; injection h with h; subst h
      refine ⟨arr, ?_, hlen, fun i h h' => (he i h h').later hl⟩
      rw [hμb]; exact alloc_new _ _
    · have hb' := hok.blk i y h
      exact hb'.later hl (hμ i hne) (alloc_old _ _ hb'.lt)

end Go.Proofs.Ytipbcjnniamcgaa.Fw
