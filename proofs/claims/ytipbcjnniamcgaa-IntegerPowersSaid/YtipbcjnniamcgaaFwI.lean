/- The framework, part I: append, copy; small things. -/
import Derived.Test.YtipbcjnniamcgaaFwH
namespace Go.Proofs.Ytipbcjnniamcgaa.Fw
set_option linter.unusedSimpArgs false
set_option linter.unusedVariables false
open Go

/-! ### what is appended or copied -/
def bytesA (s : ByteArray) : List AV := s.data.toList.map fun b => .int .u8 b.toNat
def srcW (H : AHeap) (es : Nat) (y : AV) (K : Nat → List AV → Prop) : Prop :=
  match y with
  | .seq m cells _ => cells.length = m * es ∧ K m cells
  | .own b L off m _ => match H b with
    | some (.row _ _ cells) => cells.length = L ∧ off + m * es ≤ L ∧ K m ((cells.drop off).take (m * es))
    | _ => False
  | .str s => es = 1 ∧ K s.size (bytesA s)
  | _ => False

theorem lenOf_slice {P : Program} {w : World} (a : Option Addr) (n c : Nat) : (Builtin.lenOf (.slice a n c)).run P w = .ok n w := rfl

theorem srcW_sound {P : Program} {c : Ctx} (hok : Ok c) {es : Nat} (hes : es ≠ 0) {y : AV} {u : Value} {K : Nat → List AV → Prop} (h : srcW c.H es y K) (he : Enc c y u) :
    ∃ (m : Nat) (l : List AV) (f : Nat → Value), (∀ w, (Builtin.lenOf u).run P w = .ok m w) ∧ l.length = m * es ∧ K m l ∧ (∀ i (h : i < l.length), Enc c (l[i]) (f i)) ∧
      ∀ (w : World), (∀ a, w.cell? a = c.w.cell? a) → ∀ k, k ≤ m → (Builtin.firstCells es k u).run P w = .ok ((List.range (k * es)).map f).toArray w := by
  unfold srcW at h
  split at h
  · rename_i m cells ti
    obtain ⟨h1, h2⟩ := h
    cases he with
    | seq _ _ _ base cap cv hlen hcap hmax ht hb hn hc =>
      refine ⟨m, cells, cv, fun _ => rfl, h1, h2, hc, fun w hw k hk => ?_⟩
      have hke : k * es ≤ cells.length := by rw [h1]; exact Nat.mul_le_mul_right _ hk
      cases base with
      | none =>
        have hm0 : m = 0 := hn.resolve_right (by simp)
        have : k = 0 := by omega
        subst this
        simp [Builtin.firstCells]
      | some a =>
        by_cases hk0 : k = 0
        · subst hk0
          have := run_loadCells (P := P) w a 0 cv (fun j hj => by omega)
          simpa [Builtin.firstCells] using this
        · have hpos : 0 < cells.length := by rw [h1]; exact Nat.mul_pos (by omega) (by omega)
          obtain ⟨kk, off, e1, _, _, hcell⟩ := hb hpos
          injection e1 with e1
          subst e1
          exact run_loadCells (P := P) w _ (k * es) cv (fun j hj => by rw [add_off, hw]; exact hcell j (by omega))
  · rename_i b L off m ti
    split at h
    · rename_i ty es' cells hH
      obtain ⟨h1, h2, h3⟩ := h
      cases he with
      | own _ _ _ _ _ _ hs hb hL hv =>
        obtain ⟨base, cap, arr, rfl, g0, g1, g2, g3, g4, g5⟩ := hv ty es' cells hH h1
        obtain ⟨arr', k1, k2, k3⟩ := hok.blk b _ hH
        obtain rfl : arr = arr' := by rw [g4] at k1; injection k1 with k1; injection k1
        refine ⟨m, _, fun i => arr.getD (off + i) undef, fun _ => rfl, by simp; omega, h3, fun i hi => ?_, fun w hw k hk => ?_⟩
        · have hi' : i < m * es := by simp at hi; omega
          have h4 : off + i < arr.size := by omega
          have := k3 (off + i) (by omega) h4
          simpa [Array.getD_eq_getD_getElem?, h4] using this
        · have hke : k * es ≤ m * es := Nat.mul_le_mul_right _ hk
          by_cases hk0 : k = 0
          · subst hk0
            cases base with
            | none => simp [Builtin.firstCells]
            | some a =>
              have := run_loadCells (P := P) w a 0 (fun i => arr.getD (off + i) undef) (fun j hj => by omega)
              simpa [Builtin.firstCells] using this
          · have hbase := g0.resolve_left (by omega)
            subst hbase
            refine run_loadCells (P := P) w _ (k * es) _ (fun j hj => ?_)
            have h4 : off + j < arr.size := by omega
            rw [add_off, hw, row_cell g4 h4]
            simp [Array.getD_eq_getD_getElem?, h4]
    · exact h.elim
  · rename_i s
    obtain ⟨rfl, h2⟩ := h
    cases he
    have hsz : s.data.toList.length = s.size := by rw [Array.length_toList]; rfl
    refine ⟨s.size, bytesA s, fun i => .int .u8 (s.data.toList.getD i 0).toNat, fun _ => rfl, by simp only [bytesA, List.length_map]; omega, h2, fun i hi => ?_, fun w _ k hk => ?_⟩
    · have hi' : i < s.data.toList.length := by simpa [bytesA] using hi
      simp only [bytesA, List.getElem_map, List.getD_eq_getElem?_getD, List.getElem?_eq_getElem hi', Option.getD_some]
      exact .int _ _
    · simp only [Builtin.firstCells, Sem.run_pure]
      congr 1
      apply Array.ext'
      apply List.ext_getElem
      · simp only [Array.toList_map, List.length_map, Array.length_toList, List.length_range, Nat.mul_one]
        have : (s.extract 0 k).data.size = (s.extract 0 k).size := rfl
        rw [this, ByteArray.size_extract]; omega
      · intro i h1 h2
        have hik : i < k := by simpa using h2
        have hi' : i < s.data.toList.length := by omega
        simp only [Array.toList_map, List.getElem_map, List.getElem_range, List.getD_eq_getElem?_getD, List.getElem?_eq_getElem hi', Option.getD_some, Array.getElem_toList]
        congr 3
        have : (s.extract 0 k).data = s.data.extract 0 k := by simp [ByteArray.data_extract]
        simp [this]
  · exact h.elim

theorem range_map_get (f : Nat → Value) (n i : Nat) (h : i < ((List.range n).map f).length) : ((List.range n).map f)[i] = f i := by simp

theorem growBy_le (n : Nat) : ∀ (r c : Nat), c ≤ 2 * n + 192 → Builtin.growBy n r c ≤ 2 * n + 192
  | 0, c, h => h
  | r + 1, c, h => by
    simp only [Builtin.growBy]
    split
    · exact h
    · exact growBy_le n r _ (by omega)
theorem nextslicecap_le {n c : Nat} (h : c < n) : Builtin.nextslicecap n c ≤ 2 * n + 192 := by
  unfold Builtin.nextslicecap
  split
  · omega
  · split
    · omega
    · exact growBy_le n 4 c (by omega)

/-! ### append -/
def appW (H : AHeap) (ty es bytes : Nat) (x y : AV) (K : AV → AHeap → Prop) : Prop :=
  srcW H es y fun m ys => ys.all AV.cell = true ∧
    match x with
    | .seq n cells ti => ti = true ∧ cells.length = n * es ∧ (n + m) * bytes ≤ 70368744177664 ∧ n + m ≤ 70368744177664 ∧ (m = 0 → K (.seq n cells true) H) ∧
        (0 < m → ∀ b, H b = none → K (.own b ((n + m) * es) 0 (n + m) false) (H.upd b (some (.row ty es (cells ++ ys)))))
    | .own b L off n _ => match H b with
      | some (.row ty' es' cells) => cells.length = L ∧ off = 0 ∧ L = n * es ∧ ty' = ty ∧ es' = es ∧ (n + m) * bytes ≤ 70368744177664 ∧ n + m ≤ 70368744177664 ∧ K (.own b ((n + m) * es) 0 (n + m) false) (H.upd b (some (.row ty es (cells ++ ys))))
      | _ => False
    | _ => False

theorem size_zc (z : Array Value) (n : Nat) : (Builtin.zeroCells z n).size = n * z.size := by simp [Builtin.zeroCells]

/-- The room of the longer row. -/
def newCap (w : World) (need cap : Nat) (e : TypeId) : Nat := (Question.appendCap need cap e).cut (w.tape w.drawn (Question.appendCap need cap e))
theorem newCap_ge (w : World) (need cap : Nat) (e : TypeId) : need ≤ newCap w need cap e := by simp only [newCap, Question.cut]; omega
theorem newCap_lt (w : World) (need cap : Nat) (e : TypeId) (h : need < 2 ^ 63) : newCap w need cap e < 2 ^ 63 := by
  simp only [newCap, Question.cut]
  have := Nat.mod_lt (w.tape w.drawn (Question.appendCap need cap e)) (show 0 < 2 ^ 63 - need by omega)
  omega

/-- The making of the longer row. -/
theorem run_append_grow' {P : Program} {w : World} {t t2 e ty : TypeId} {inf : TypeInfo} (hu : P.underlying t = some (.slice e)) (hu2 : (∃ e2, P.underlying t2 = some (.slice e2)) ∨ P.underlying t2 = some .string) (hi : P.info? e = some inf) {v0 : Value} (hv0 : inf.zero = some v0) (hby : inf.bytes ≤ 4096)
    {base : Option Addr} {n cap m : Nat} {u : Value} (hlen : ∀ w, (Builtin.lenOf u).run P w = .ok m w) (hgt : cap < n + m) (hb1 : (n + m) * inf.bytes ≤ 70368744177664) (hb2 : n + m ≤ 70368744177664) {old new : Array Value}
    (hold : (Builtin.firstCells inf.size n (.slice base n cap)).run P w.drew = .ok old w.drew) (hnew : (Builtin.firstCells inf.size m u).run P w.drew = .ok new w.drew) :
    (Builtin.append_ #[t, t2] ty #[.slice base n cap, u]).run P w = .ok (.slice (some ⟨w.heap.size, 0, none⟩) (n + m) (newCap w (n + m) cap e)) (w.drew.alloc (.cells (old ++ new ++ Builtin.zeroCells v0.cells (newCap w (n + m) cap e - (n + m))) e)) := by
  have hneed : ¬ (n + m ≤ cap) := by omega
  have hmax : ¬ ((9223372036854775807 : Int) < (n : Int) + (m : Int)) := by omega
  have hcapb : ¬ (281474976710656 < Builtin.nextslicecap (n + m) cap * inf.bytes) := by
    have h1 := nextslicecap_le hgt
    have h2 : Builtin.nextslicecap (n + m) cap * inf.bytes ≤ (2 * (n + m) + 192) * inf.bytes := Nat.mul_le_mul_right _ h1
    have h3 : (2 * (n + m) + 192) * inf.bytes = 2 * ((n + m) * inf.bytes) + 192 * inf.bytes := by rw [Nat.add_mul, Nat.mul_assoc]
    omega
  have hcapq : (Question.appendCap (n + m) cap e).forced = false := rfl
  have hd : ({ w with drawn := w.drawn + 1 } : World) = w.drew := rfl
  have hzv : ∀ w, (zeroValue e).run P w = .ok v0 w := fun w => run_zeroValue hi hv0 w
  rcases hu2 with ⟨e2, h⟩ | h
  · simp [Builtin.append_, run_underlying hu, run_underlying h, run_sizeOf hi, run_typeInfo hi, hlen, hneed, hmax, hcapb, hcapq, hd, hold, hnew, hzv, newRow, newCap]
  · simp [Builtin.append_, run_underlying hu, run_underlying h, run_sizeOf hi, run_typeInfo hi, hlen, hneed, hmax, hcapb, hcapq, hd, hold, hnew, hzv, newRow, newCap]

/-- A row that is not longer than its room. -/
theorem run_append_in {P : Program} {w : World} {t t2 e ty : TypeId} {inf : TypeInfo} (hu : P.underlying t = some (.slice e)) (hu2 : (∃ e2, P.underlying t2 = some (.slice e2)) ∨ P.underlying t2 = some .string) (hi : P.info? e = some inf)
    {base : Option Addr} {n cap m : Nat} {u : Value} (hlen : ∀ w, (Builtin.lenOf u).run P w = .ok m w) (hle : n + m ≤ cap) {new : Array Value} (hnew : (Builtin.firstCells inf.size m u).run P w = .ok new w) {w' : World}
    (hst : ∀ a, base = some a → (storeCells (a.add (n * inf.size)) new.toList).run P w = .ok () w') (hnone : base = none → w' = w) :
    (Builtin.append_ #[t, t2] ty #[.slice base n cap, u]).run P w = .ok (.slice base (n + m) cap) w' := by
  cases base with
  | none =>
    rw [hnone rfl]
    rcases hu2 with ⟨e2, h⟩ | h <;> simp [Builtin.append_, run_underlying hu, run_underlying h, run_sizeOf hi, hlen, hle, hnew]
  | some a =>
    have := hst a rfl
    rcases hu2 with ⟨e2, h⟩ | h <;> simp [Builtin.append_, run_underlying hu, run_underlying h, run_sizeOf hi, hlen, hle, hnew, this]

theorem encArr_cat {c : Ctx} {cells ys : List AV} {f g : Nat → Value} {rest : Array Value} (h1 : ∀ i (h : i < cells.length), Enc c (cells[i]) (f i)) (h2 : ∀ i (h : i < ys.length), Enc c (ys[i]) (g i)) :
    ∀ i (h : i < (cells ++ ys).length) (h' : i < (((List.range cells.length).map f).toArray ++ ((List.range ys.length).map g).toArray ++ rest).size), Enc c ((cells ++ ys)[i]) ((((List.range cells.length).map f).toArray ++ ((List.range ys.length).map g).toArray ++ rest)[i]) := by
  intro i h h'
  have e1 : (cells ++ ys)[i]? = some ((cells ++ ys)[i]) := List.getElem?_eq_getElem h
  have e2 : (((List.range cells.length).map f).toArray ++ ((List.range ys.length).map g).toArray ++ rest)[i]? = some ((((List.range cells.length).map f).toArray ++ ((List.range ys.length).map g).toArray ++ rest)[i]) := Array.getElem?_eq_getElem h'
  rw [List.length_append] at h
  rw [Array.getElem?_append_left (by simp; omega)] at e2
  by_cases hi : i < cells.length
  · rw [List.getElem?_append_left hi, List.getElem?_eq_getElem hi] at e1
    rw [Array.getElem?_append_left (by simp; omega)] at e2
    simp only [List.getElem?_toArray, List.getElem?_map, List.getElem?_range hi, Option.map_some] at e2
    injection e1 with e1; injection e2 with e2
    rw [← e1, ← e2]; exact h1 i hi
  · have hi2 : i - cells.length < ys.length := by omega
    rw [List.getElem?_append_right (by omega), List.getElem?_eq_getElem hi2] at e1
    rw [Array.getElem?_append_right (by simp; omega)] at e2
    simp only [List.size_toArray, List.length_map, List.length_range, List.getElem?_toArray, List.getElem?_map, List.getElem?_range hi2, Option.map_some] at e2
    injection e1 with e1; injection e2 with e2
    rw [← e1, ← e2]; exact h2 _ hi2

theorem range_all {c : Ctx} {ys : List AV} {f : Nat → Value} (hall : ys.all AV.cell = true) (h : ∀ i (h : i < ys.length), Enc c (ys[i]) (f i)) : ∀ u ∈ (List.range ys.length).map f, u.oneCell' = true := by
  intro u hu
  obtain ⟨i, hi, rfl⟩ := List.mem_map.1 hu
  have hi' : i < ys.length := by simpa using hi
  exact ((h i hi').oneCell ((List.all_eq_true.1 hall) _ (List.getElem_mem hi'))).1

theorem appW_sound {P : Program} {c : Ctx} (hok : Ok c) {t t2 e tr : TypeId} {inf : TypeInfo} (hu : P.underlying t = some (.slice e)) (hu2 : (∃ e2, P.underlying t2 = some (.slice e2)) ∨ P.underlying t2 = some .string) (hi : P.info? e = some inf) {v0 : Value} (hv0 : inf.zero = some v0)
    (hz : v0.cells.size = inf.size) (hby : inf.bytes ≤ 4096) (hes : inf.size ≠ 0) {x y : AV} {v u : Value} {K : AV → AHeap → Prop} (h : appW c.H e inf.size inf.bytes x y K) (hx : Enc c x v) (hy : Enc c y u) :
    ∃ (c' : Ctx) (r : AV) (v' : Value), (Builtin.append_ #[t, t2] tr #[v, u]).run P c.w = .ok v' c'.w ∧ Later c c' ∧ Ok c' ∧ Enc c' r v' ∧ K r c'.H := by
  obtain ⟨m, ys, f, hlen, hyl, hKK, hye, hfirst⟩ := srcW_sound (P := P) hok hes h hy
  clear h
  obtain ⟨hall, h⟩ := hKK
  have hes' : 0 < inf.size := Nat.pos_of_ne_zero hes
  have hd := hfirst c.w.drew (fun _ => rfl) m (Nat.le_refl _)
  have hc := hfirst c.w (fun _ => rfl) m (Nat.le_refl _)
  rw [← hyl] at hd hc
  split at h
  · rename_i n cells ti
    obtain ⟨hti, hcl, hb1, hb2, hm0, hmp⟩ := h
    subst hti
    have hx0 := hx
    cases hx with
    | seq _ _ _ base cap cv hlen0 hcap hmax ht hb hn hce =>
      have hcapn : cap = n := ht rfl
      subst hcapn
      rcases Nat.eq_zero_or_pos m with hm | hm
      · subst hm
        have hnil : (List.range ys.length).map f = [] := by rw [hyl]; simp
        refine ⟨c, .seq cap cells true, .slice base (cap + 0) cap, ?_, Later.refl c, hok, hx0, hm0 rfl⟩
        refine run_append_in hu hu2 hi hlen (by omega) hc (fun a _ => ?_) (fun _ => rfl)
        rw [hnil]; rfl
      · obtain ⟨nx, hnx⟩ := hok.fresh
        have hfree := hmp hm nx (free_nx hok hnx.1)
        have hold : (Builtin.firstCells inf.size cap (.slice base cap cap)).run P c.w.drew = .ok ((List.range cells.length).map cv).toArray c.w.drew := by
          by_cases hp : 0 < cells.length
          · obtain ⟨k, off, e1, _, _, hcell⟩ := hb hp
            subst e1
            have := run_loadCells (P := P) c.w.drew ⟨k, off, none⟩ (cap * inf.size) cv (fun j hj => by rw [add_off]; exact hcell j (by omega))
            rw [hcl]; exact this
          · have hc0 : cells.length = 0 := by omega
            have hn0 : cap = 0 := by
              rcases Nat.eq_zero_or_pos cap with h | h
              · exact h
              · have := Nat.mul_pos h hes'; omega
            subst hn0
            rw [hc0]
            cases base with
            | none => simp [Builtin.firstCells]
            | some a =>
              have := run_loadCells (P := P) c.w.drew a 0 cv (fun j hj => by omega)
              simpa [Builtin.firstCells] using this
        have hrun := run_append_grow' (ty := tr) hu hu2 hi hv0 hby hlen (cap := cap) (base := base) (n := cap) (by omega) hb1 hb2 hold hd
        have hsz : (((List.range cells.length).map cv).toArray ++ ((List.range ys.length).map f).toArray ++ Builtin.zeroCells v0.cells (newCap c.w (cap + m) cap e - (cap + m))).size = newCap c.w (cap + m) cap e * inf.size := by
          have hge := newCap_ge c.w (cap + m) cap e
          simp only [Array.size_append, List.size_toArray, List.length_map, List.length_range, size_zc, hz, hcl, hyl, ← Nat.add_mul]
          congr 1; omega
        have hlt := newCap_lt c.w (cap + m) cap e (by omega)
        have hge := newCap_ge c.w (cap + m) cap e
        have hcat : (cells ++ ys).length = (cap + m) * inf.size := by rw [List.length_append, hcl, hyl, Nat.add_mul]
        have hok' := Ctx.drew_ok hok
        refine ⟨c.drew.new nx _ (.row e inf.size (cells ++ ys)), .own nx ((cap + m) * inf.size) 0 (cap + m) false, _, hrun, c.drew_later.trans (Ctx.new_later hok' hnx _ _), Ctx.new_row hok' hnx e inf.size (cells ++ ys) _ ?_ ?_, ?_, hfree⟩
        · rw [hcat, hsz]; exact Nat.mul_le_mul_right _ hge
        · intro i h1 h2; exact (encArr_cat hce hye i h1 h2).later c.drew_later
        · have := enc_new_own (c := c.drew) nx (ty := e) (es := inf.size) (n := cap + m) (cap := newCap c.w (cap + m) cap e) (cells := cells ++ ys) (t := false) hge hlt (fun h => by cases h) (by rw [hsz]; exact Nat.le_refl _)
          rw [hcat] at this
          exact this
  · rename_i b L off n ti
    split at h
    · rename_i ty' es' cells hH
      obtain ⟨h1, h2, h3, h4, h5, hb1, hb2, hK⟩ := h
      subst h2
      have h4' := h4.symm
      clear h4
      subst h4'
      subst h5
      have hx0 := hx
      cases hx with
      | own _ _ _ _ _ _ hs hbb hL hv =>
        obtain ⟨base, cap, arr, rfl, g0, g1, g2, g3, g4, g5⟩ := hv _ _ cells hH h1
        obtain ⟨arr', k1, k2, k3⟩ := hok.blk b _ hH
        obtain rfl : arr = arr' := by rw [g4] at k1; injection k1 with k1; injection k1
        have hcl : cells.length = n * inf.size := h1.trans h3
        have hcat : (cells ++ ys).length = (n + m) * inf.size := by rw [List.length_append, hcl, hyl, Nat.add_mul]
        rcases Nat.lt_or_ge cap (n + m) with hgt | hle
        · -- a new row
          have hold : (Builtin.firstCells inf.size n (.slice base n cap)).run P c.w.drew = .ok ((List.range cells.length).map fun i => arr.getD i undef).toArray c.w.drew := by
            by_cases hp : n = 0
            · subst hp
              rw [hcl]
              cases base with
              | none => simp [Builtin.firstCells]
              | some a =>
                have := run_loadCells (P := P) c.w.drew a 0 (fun i => arr.getD i undef) (fun j hj => by omega)
                simpa [Builtin.firstCells] using this
            · have hbase := g0.resolve_left (by omega)
              subst hbase
              rw [hcl]
              refine run_loadCells (P := P) c.w.drew _ (n * inf.size) _ (fun j hj => ?_)
              have h4 : j < arr.size := by omega
              rw [add_off, Nat.zero_add]
              show c.w.cell? _ = _
              rw [row_cell g4 h4]
              simp [Array.getD_eq_getD_getElem?, h4]
          have hrun := run_append_grow' (ty := tr) hu hu2 hi hv0 hby hlen (cap := cap) (base := base) (n := n) hgt hb1 hb2 hold hd
          have hlt := newCap_lt c.w (n + m) cap e (by omega)
          have hge := newCap_ge c.w (n + m) cap e
          have hsz : (((List.range cells.length).map fun i => arr.getD i undef).toArray ++ ((List.range ys.length).map f).toArray ++ Builtin.zeroCells v0.cells (newCap c.w (n + m) cap e - (n + m))).size = newCap c.w (n + m) cap e * inf.size := by
            simp only [Array.size_append, List.size_toArray, List.length_map, List.length_range, size_zc, hz, hcl, hyl, ← Nat.add_mul]
            congr 1; omega
          have hmpos : 0 < m := by omega
          have hlen3 : cells.length < (cells ++ ys).length := by
            rw [List.length_append, hyl]
            have := Nat.mul_pos hmpos hes'
            omega
          have hH' : c.drew.H b = some (.row e inf.size cells) := hH
          have hmk := Ctx.move_ok (c := c.drew) (ty := e) (es := inf.size) (cells' := cells ++ ys) (Ctx.drew_ok hok) hH' hlen3 (by rw [hcat, hsz]; exact Nat.mul_le_mul_right _ hge) (fun i q1 q2 => (encArr_cat (fun i hi => by
            have h4 : i < arr.size := by omega
            have := k3 i hi h4
            simpa [Array.getD_eq_getD_getElem?, h4] using this) hye i q1 q2).later c.drew_later)
          refine ⟨_, .own b ((n + m) * inf.size) 0 (n + m) false, _, hrun, c.drew_later.trans (Ctx.move_later (y := .row e inf.size (cells ++ ys)) hH' hlen3 _), hmk, ?_, hK⟩
          refine .own b _ 0 _ false _ ⟨_, _, rfl, by omega⟩ hbb (fun y hy => ?_) (fun ty2 es2 cells2 hy hl => ?_)
          · have : some (ABlk.row e inf.size (cells ++ ys)) = some y := by rw [← hy]; simp [Ctx.move, AHeap.upd]
            injection this with this; rw [← this]
            exact Nat.le_of_eq hcat.symm
          · have : some (ABlk.row e inf.size (cells ++ ys)) = some (.row ty2 es2 cells2) := by rw [← hy]; simp [Ctx.move, AHeap.upd]
            injection this with this
            injection this with q1 q2 q3
            subst q1; subst q2
            refine ⟨_, _, ((List.range cells.length).map fun i => arr.getD i undef).toArray ++ ((List.range ys.length).map f).toArray ++ Builtin.zeroCells v0.cells (newCap c.w (n + m) cap e - (n + m)), rfl, .inr ?_, hge, hlt, (fun h => by cases h), ?_, ?_⟩
            · simp [Ctx.move]; rfl
            · show (c.w.drew.alloc _).heap[(if b = b then c.w.drew.heap.size else c.μ b)]? = _
              rw [if_pos rfl]; exact alloc_new _ _
            · rw [hsz]; omega
        · -- in place
          have hye2 : ∀ i (h : i < ys.length) (h' : i < ((List.range ys.length).map f).length), Enc c (ys[i]) (((List.range ys.length).map f)[i]) := fun i h h' => by rw [range_map_get]; exact hye i h
          have hfit : cells.length + ys.length ≤ arr.size := by
            have : (n + m) * inf.size ≤ cap * inf.size := Nat.mul_le_mul_right _ hle
            rw [hcl, hyl, ← Nat.add_mul]; omega
          obtain ⟨p1, p2⟩ := put_cells hok (l := ys) (off := n * inf.size) (cells' := cells ++ ys) hH g4 k2 k3 (vs := (List.range ys.length).map f) (by simp) hye2 (by simp) (by rw [List.length_append]; exact hfit) (by rw [List.length_append, hcl]; exact Nat.le_refl _) (fun i hi => by
            rw [List.length_append] at hi
            by_cases q : i < cells.length
            · rw [if_neg (by omega), List.getElem?_append_left q]
            · rw [if_pos (by omega), List.getElem?_append_right (by omega), hcl])
          refine ⟨_, .own b ((n + m) * inf.size) 0 (n + m) false, .slice base (n + m) cap, ?_, p1, p2, ?_, hK⟩
          · refine run_append_in hu hu2 hi hlen hle hc (fun a ha => ?_) (fun hnone => ?_)
            · subst ha
              by_cases hz0 : n + m = 0
              · have e1 : n = 0 := by omega
                have e2 : m = 0 := by omega
                subst e1; subst e2
                have e3 : (List.range ys.length).map f = [] := by rw [hyl]; simp
                rw [e3]
                simp only [Ctx.put, List.length_nil, Nat.add_zero, List.append_nil, List.take_append_drop, Array.toArray_toList]
                rw [setRow_self c.w (c.μ b) arr e (0, 0) g4]
                rfl
              · have hbase := g0.resolve_left (by omega)
                injection hbase with hbase
                subst hbase
                rw [add_off, Nat.zero_add]
                have := run_storeCells_at (P := P) (c.μ b) (n * inf.size) e ((List.range ys.length).map f) 0 arr c.w g4 (by simp; omega) (range_all hall hye)
                simpa [Ctx.put] using this
            · subst hnone
              have e0 : cap = 0 := g0.resolve_right (by simp)
              have e1 : n = 0 := by omega
              have e2 : m = 0 := by omega
              subst e1; subst e2
              have e3 : (List.range ys.length).map f = [] := by rw [hyl]; simp
              rw [e3]
              simp only [Ctx.put, List.length_nil, Nat.add_zero, List.append_nil, List.take_append_drop, Array.toArray_toList]
              exact setRow_self c.w (c.μ b) arr e (0, 0) g4
          · refine .own b _ 0 _ false _ ⟨_, _, rfl, by omega⟩ hbb (fun y hy => ?_) (fun ty2 es2 cells2 hy hl => ?_)
            · have : some (ABlk.row e inf.size (cells ++ ys)) = some y := by rw [← hy]; simp [Ctx.put, AHeap.upd]
              injection this with this; rw [← this]
              exact Nat.le_of_eq hcat.symm
            · have : some (ABlk.row e inf.size (cells ++ ys)) = some (.row ty2 es2 cells2) := by rw [← hy]; simp [Ctx.put, AHeap.upd]
              injection this with this
              injection this with q1 q2 q3
              subst q1; subst q2
              refine ⟨_, _, _, rfl, g0, hle, g2, (fun h => by cases h), setRow_heap _ _ arr _ _ _ g4, ?_⟩
              simp only [List.size_toArray, List.length_append, List.length_take, List.length_drop, Array.length_toList, List.length_map, List.length_range]
              omega
    · exact h.elim
  · exact h.elim

/-! ### copy -/
def cpyW (H : AHeap) (es : Nat) (x y : AV) (K : AV → AHeap → Prop) : Prop :=
  srcW H es y fun m ys => ys.all AV.cell = true ∧
    match x with
    | .own b L off n _ => match H b with
      | some (.row ty es' cells) => cells.length = L ∧ off + n * es ≤ L ∧ K (.int .i64 (Nat.min m n)) (H.upd b (some (.row ty es' (splice cells off (ys.take (Nat.min m n * es))))))
      | _ => False
    | .seq 0 _ _ => K (.int .i64 0) H
    | _ => False

theorem cpyW_sound {P : Program} {c : Ctx} (hok : Ok c) {t e t2 tr : TypeId} {inf : TypeInfo} (hu : P.underlying t = some (.slice e)) (hi : P.info? e = some inf) (hes : inf.size ≠ 0) {x y : AV} {v u : Value} {K : AV → AHeap → Prop} (h : cpyW c.H inf.size x y K) (hx : Enc c x v) (hy : Enc c y u) :
    ∃ (c' : Ctx) (r : AV) (v' : Value), (Builtin.copy_ #[t, t2] tr #[v, u]).run P c.w = .ok v' c'.w ∧ Later c c' ∧ Ok c' ∧ Enc c' r v' ∧ K r c'.H := by
  obtain ⟨m, ys, f, hlen, hyl, hKK, hye, hfirst⟩ := srcW_sound (P := P) hok hes h hy
  clear h
  obtain ⟨hall, h⟩ := hKK
  split at h
  · rename_i b L off n ti
    split at h
    · rename_i ty es' cells hH
      obtain ⟨h1, h2, hK⟩ := h
      cases hx with
      | own _ _ _ _ _ _ hs hbb hL hv =>
        obtain ⟨base, cap, arr, rfl, g0, g1, g2, g3, g4, g5⟩ := hv _ _ cells hH h1
        obtain ⟨arr', k1, k2, k3⟩ := hok.blk b _ hH
        obtain rfl : arr = arr' := by rw [g4] at k1; injection k1 with k1; injection k1
        have hk : Nat.min m n ≤ m := Nat.min_le_left _ _
        have hk2 : Nat.min m n ≤ n := Nat.min_le_right _ _
        generalize hkk : Nat.min m n = k at *
        have hkk' : min m n = k := hkk
        have hks : k * inf.size ≤ ys.length := by rw [hyl]; exact Nat.mul_le_mul_right _ hk
        have hkn : k * inf.size ≤ n * inf.size := Nat.mul_le_mul_right _ hk2
        have hf := hfirst c.w (fun _ => rfl) k hk
        have htk : (ys.take (k * inf.size)).length = k * inf.size := by simp; omega
        have hye2 : ∀ i (h : i < (ys.take (k * inf.size)).length) (h' : i < ((List.range (k * inf.size)).map f).length), Enc c ((ys.take (k * inf.size))[i]) (((List.range (k * inf.size)).map f)[i]) := fun i h h' => by
          rw [range_map_get, List.getElem_take]; exact hye i (by omega)
        obtain ⟨p1, p2⟩ := put_cells hok (l := ys.take (k * inf.size)) (off := off) (cells' := splice cells off (ys.take (k * inf.size))) hH g4 k2 k3 (vs := (List.range (k * inf.size)).map f) (by simp; omega) hye2
          (by rw [splice_length (by omega)]; exact Nat.le_refl _) (by rw [splice_length (by omega)]; exact k2) (by rw [splice_length (by omega)]; omega) (fun i _ => splice_get? (by omega) i)
        refine ⟨_, .int .i64 k, .int .i64 k, ?_, p1, p2, .int _ _, hK⟩
        have hone : ∀ u ∈ (List.range (k * inf.size)).map f, u.oneCell' = true := by
          intro u hu
          obtain ⟨i, hi, rfl⟩ := List.mem_map.1 hu
          have hi' : i < k * inf.size := by simpa using hi
          exact ((hye i (by omega)).oneCell ((List.all_eq_true.1 hall) _ (List.getElem_mem (by omega)))).1
        cases base with
        | none =>
          have e0 : cap = 0 := g0.resolve_right (by simp)
          have e1 : k = 0 := by omega
          subst e1
          have hset := setRow_self c.w (c.μ b) arr ty (0, 0) g4
          have e2 : (c.put b (.row ty es' (splice cells off (ys.take (0 * inf.size)))) (arr.toList.take off ++ (List.range (0 * inf.size)).map f ++ arr.toList.drop (off + ((List.range (0 * inf.size)).map f).length)).toArray).w = c.w := by
            simp only [Ctx.put, Nat.zero_mul, List.range_zero, List.map_nil, List.append_nil, List.length_nil, Nat.add_zero, List.take_append_drop, Array.toArray_toList]
            exact hset
          rw [e2]
          simp [Builtin.copy_, run_underlying hu, run_sizeOf hi, hlen, hkk, hkk', hf, goInt]
        | some a =>
          by_cases hz0 : k = 0
          · subst hz0
            have hset := setRow_self c.w (c.μ b) arr ty (0, 0) g4
            have e2 : (c.put b (.row ty es' (splice cells off (ys.take (0 * inf.size)))) (arr.toList.take off ++ (List.range (0 * inf.size)).map f ++ arr.toList.drop (off + ((List.range (0 * inf.size)).map f).length)).toArray).w = c.w := by
              simp only [Ctx.put, Nat.zero_mul, List.range_zero, List.map_nil, List.append_nil, List.length_nil, Nat.add_zero, List.take_append_drop, Array.toArray_toList]
              exact hset
            rw [e2]
            simp [Builtin.copy_, run_underlying hu, run_sizeOf hi, hlen, hkk, hkk', hf, goInt, storeCells]
          · have hbase := g0.resolve_left (by omega)
            injection hbase with hbase
            subst hbase
            have hst := run_storeCells_at (P := P) (c.μ b) off ty ((List.range (k * inf.size)).map f) 0 arr c.w g4 (by simp; omega) hone
            simp only [Nat.add_zero] at hst
            simp [Builtin.copy_, run_underlying hu, run_sizeOf hi, hlen, hkk, hkk', hf, goInt, hst, Ctx.put]
    · exact h.elim
  · rename_i cells ti
    cases hx with
    | seq _ _ _ base cap cv hlen0 hcap hmax ht hb hn hce =>
      have hf := hfirst c.w (fun _ => rfl) 0 (Nat.zero_le _)
      have hk0 : Nat.min m 0 = 0 := Nat.min_zero m
      refine ⟨c, .int .i64 0, .int .i64 0, ?_, Later.refl c, hok, .int _ _, h⟩
      cases base with
      | none => simp [Builtin.copy_, run_underlying hu, run_sizeOf hi, hlen, hk0, hf, goInt]
      | some a => simp [Builtin.copy_, run_underlying hu, run_sizeOf hi, hlen, hk0, hf, goInt, storeCells]
  · exact h.elim

/-! ### conversions, functions, interfaces, the greater of two -/
def convW (k : IntKind) (x : AV) (K : AV → Prop) : Prop :=
  match x with
  | .int _ n => K (.int k (k.wrap n))
  | _ => False
theorem convW_sound {P : Program} {c : Ctx} {src dst : TypeId} {k : IntKind} (hs : (P.underlying src).isSome = true) (hd : P.underlying dst = some (.int k)) {x : AV} {v : Value} {K : AV → Prop} (h : convW k x K) (he : Enc c x v) :
    ∃ r v', (convert src dst v).run P c.w = .ok v' c.w ∧ Enc c r v' ∧ K r := by
  unfold convW at h
  split at h
  · cases he
    obtain ⟨d, hd'⟩ := Option.isSome_iff_exists.1 hs
    exact ⟨_, _, by simp [convert, run_underlying hd', run_underlying hd, Conv.intToInt], .int _ _, h⟩
  · exact h.elim

def maxW (mx : Bool) (x y : AV) (K : AV → Prop) : Prop :=
  match x, y with
  | .int k a, .int k' b => k = k' ∧ K (.int k (if mx then (if b > a then b else a) else (if b < a then b else a)))
  | _, _ => False

theorem maxW_sound {P : Program} {c : Ctx} {mx : Bool} {ts : Array TypeId} {ty : TypeId} {x y : AV} {u v : Value} {K : AV → Prop} (h : maxW mx x y K) (hx : Enc c x u) (hy : Enc c y v) :
    ∃ r v', (if mx then Builtin.max_ ts ty #[u, v] else Builtin.min_ ts ty #[u, v]).run P c.w = .ok v' c.w ∧ Enc c r v' ∧ K r := by
  unfold maxW at h
  split at h
  · obtain ⟨rfl, hK⟩ := h
    cases hx; cases hy
    cases mx with
    | true => exact ⟨_, _, by simp [Builtin.max_, Builtin.max2], .int _ _, hK⟩
    | false => exact ⟨_, _, by simp [Builtin.min_, Builtin.min2], .int _ _, hK⟩
  · exact h.elim

end Go.Proofs.Ytipbcjnniamcgaa.Fw
