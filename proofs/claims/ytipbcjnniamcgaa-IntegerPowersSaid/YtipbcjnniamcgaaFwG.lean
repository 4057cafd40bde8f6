/- The framework, part G: built values; memory that is made and written. -/
import Derived.Test.YtipbcjnniamcgaaFwF
import Derived.Laws.AppendOwn
import Derived.Laws.Tables
namespace Go.Proofs.Ytipbcjnniamcgaa.Fw
set_option linter.unusedSimpArgs false
set_option linter.unusedVariables false
open Go

def splice (cells : List AV) (off : Nat) (l : List AV) : List AV := cells.take off ++ l ++ cells.drop (off + l.length)

theorem splice_length {cells : List AV} {off : Nat} {l : List AV} (h : off + l.length ≤ cells.length) : (splice cells off l).length = cells.length := by
  simp [splice]; omega

theorem splice_get? {cells : List AV} {off : Nat} {l : List AV} (h : off + l.length ≤ cells.length) (i : Nat) :
    (splice cells off l)[i]? = if off ≤ i ∧ i < off + l.length then l[i - off]? else cells[i]? := by
  have ht : (cells.take off).length = off := by simp; omega
  have hl : (cells.take off ++ l).length = off + l.length := by simp; omega
  unfold splice
  by_cases h1 : i < off
  · rw [if_neg (by omega), List.getElem?_append_left (by omega), List.getElem?_append_left (by omega), List.getElem?_take, if_pos h1]
  · by_cases h2 : i < off + l.length
    · rw [if_pos ⟨by omega, h2⟩, List.getElem?_append_left (by omega), List.getElem?_append_right (by omega), ht]
    · rw [if_neg (by omega), List.getElem?_append_right (by omega), hl, List.getElem?_drop]
      congr 1
      omega

theorem splice_get {cells : List AV} {off : Nat} {l : List AV} (h : off + l.length ≤ cells.length) (i : Nat) (hi : i < (splice cells off l).length) :
    (splice cells off l)[i] = if h1 : off ≤ i ∧ i < off + l.length then l[i - off]'(by omega) else cells[i]'(by rw [splice_length h] at hi; exact hi) := by
  have hi' : i < cells.length := by rw [splice_length h] at hi; exact hi
  have e := splice_get? h i
  rw [List.getElem?_eq_getElem hi] at e
  split
  · rename_i h1
    rw [if_pos h1, List.getElem?_eq_getElem (by omega)] at e
    injection e
  · rename_i h1
    rw [if_neg h1, List.getElem?_eq_getElem hi'] at e
    injection e

/-- An array stands for a list of cells. -/
def EncArr (c : Ctx) (cells : List AV) (arr : Array Value) : Prop := arr.size = cells.length ∧ ∀ i (h : i < cells.length) (h' : i < arr.size), Enc c (cells[i]) (arr[i])

theorem foldl_set (off : Nat) : ∀ (vs : List Value) (k : Nat) (arr : Array Value),
    ((vs.zipIdx k).foldl (fun cs (p : Value × Nat) => cs.setIfInBounds (off + p.2) p.1) arr).size = arr.size ∧
    ∀ i, ((vs.zipIdx k).foldl (fun cs (p : Value × Nat) => cs.setIfInBounds (off + p.2) p.1) arr)[i]? = if off + k ≤ i ∧ i < off + k + vs.length ∧ i < arr.size then vs[i - (off + k)]? else arr[i]?
  | [], k, arr => ⟨rfl, fun i => by
    rw [if_neg (fun h => by simp at h; omega)]
    rfl⟩
  | v :: r, k, arr => by
    have hh := foldl_set off r (k + 1) (arr.setIfInBounds (off + k) v)
    have h1 := hh.1
    have h2 := hh.2
    simp only [List.zipIdx_cons, List.foldl_cons]
    refine ⟨by rw [h1]; simp, fun i => ?_⟩
    rw [h2 i]
    have hsz : (arr.setIfInBounds (off + k) v).size = arr.size := by simp
    rw [hsz, List.length_cons]
    by_cases e : i = off + k
    · have c1 : ¬ (off + (k + 1) ≤ i ∧ i < off + (k + 1) + r.length ∧ i < arr.size) := by omega
      rw [if_neg c1, Array.getElem?_setIfInBounds, if_pos e.symm]
      by_cases hs : off + k < arr.size
      · have c2 : off + k ≤ i ∧ i < off + k + (r.length + 1) ∧ i < arr.size := by omega
        rw [if_pos c2, if_pos hs, e]; simp
      · have c2 : ¬ (off + k ≤ i ∧ i < off + k + (r.length + 1) ∧ i < arr.size) := by omega
        rw [if_neg c2, if_neg hs, e]; simp [hs]
    · rw [Array.getElem?_setIfInBounds, if_neg (fun hh : off + k = i => e hh.symm)]
      by_cases h : off + (k + 1) ≤ i ∧ i < off + (k + 1) + r.length ∧ i < arr.size
      · have c2 : off + k ≤ i ∧ i < off + k + (r.length + 1) ∧ i < arr.size := by omega
        rw [if_pos h, if_pos c2]
        rw [show i - (off + k) = (i - (off + (k + 1))) + 1 by omega]
        rfl
      · have c2 : ¬ (off + k ≤ i ∧ i < off + k + (r.length + 1) ∧ i < arr.size) := by omega
        rw [if_neg h, if_neg c2]

def fillA (cells : List AV) : List (Nat × Nat × AV) → Option (List AV)
  | [] => some cells
  | (off, size, x) :: r => match x.cells with
    | some l => if l.length = size ∧ off + l.length ≤ cells.length then fillA (splice cells off l) r else none
    | none => none

theorem fill_sound {c : Ctx} {place : Nat → Option (Nat × Nat)} : ∀ {ps : List (Nat × Value)} {qs : List (Nat × Nat × AV)} {cells out : List AV} {arr : Array Value}, EncArr c cells arr → fillA cells qs = some out → ps.length = qs.length →
    (∀ i (h : i < ps.length) (h' : i < qs.length), place (ps[i]).1 = some ((qs[i]).1, (qs[i]).2.1) ∧ Enc c (qs[i]).2.2 (ps[i]).2) → ∃ arr', Instr.fill place arr ps = some arr' ∧ EncArr c out arr'
  | [], [], cells, out, arr, ha, h, _, _ => by
    injection h with h; subst h
    exact ⟨arr, rfl, ha⟩
  | (i, v) :: ps, (off, size, x) :: qs, cells, out, arr, ha, h, hl, hp => by
    simp only [fillA] at h
    split at h
    · rename_i l hx
      split at h
      · rename_i hc
        obtain ⟨hp1, hp2⟩ := hp 0 (by simp) (by simp)
        obtain ⟨e1, e2, _⟩ := Enc.cells hp2 hx
        have hstep := foldl_set off v.cells.toList 0 arr
        have hfold : v.cells.zipIdx.foldl (fun cs (x : Value × Nat) => match x with | (c, j) => cs.setIfInBounds (off + j) c) arr = (v.cells.toList.zipIdx 0).foldl (fun cs (p : Value × Nat) => cs.setIfInBounds (off + p.2) p.1) arr := by
          rw [← Array.foldl_toList, Array.toList_zipIdx]
        have hcond : ¬ (v.cells.size ≠ size || decide (off + v.cells.size > arr.size)) = true := by
          simp only [Bool.or_eq_true, decide_eq_true_eq, not_or]
          refine ⟨fun e => e (by simp at e1; omega), by rw [ha.1]; simp at e1; omega⟩
        have hA : EncArr c (splice cells off l) ((v.cells.toList.zipIdx 0).foldl (fun cs (p : Value × Nat) => cs.setIfInBounds (off + p.2) p.1) arr) := by
          refine ⟨by rw [hstep.1, splice_length hc.2]; exact ha.1, fun j hj hj' => ?_⟩
          have hg := hstep.2 j
          have hjc : j < cells.length := by rw [splice_length hc.2] at hj; exact hj
          have hja : j < arr.size := by rw [ha.1]; exact hjc
          rw [Array.getElem?_eq_getElem hj'] at hg
          rw [splice_get hc.2]
          have hvl : v.cells.size = l.length := e1
          split
          · rename_i hh
            rw [if_pos ⟨by omega, by simp; omega, hja⟩] at hg
            have hlt : j - off < v.cells.size := by omega
            rw [show j - (off + 0) = j - off by omega, List.getElem?_eq_getElem (by simpa using hlt)] at hg
            injection hg with hg
            rw [hg]
            have := e2 (j - off) (by omega) hlt
            rwa [Array.getElem_toList]
          · rename_i hh
            rw [if_neg (by simp; omega), Array.getElem?_eq_getElem hja] at hg
            injection hg with hg
            rw [hg]
            exact ha.2 j hjc hja
        obtain ⟨arr', g1, g2⟩ := fill_sound (place := place) (ps := ps) (qs := qs) hA h (by simpa using hl) (fun i h h' => hp (i + 1) (by simpa using h) (by simpa using h'))
        refine ⟨arr', ?_, g2⟩
        simp only [List.getElem_cons_zero] at hp1
        simp only [Instr.fill, hp1]
        rw [if_neg hcond, hfold]
        exact g1
      · cases h
    · cases h
  | [], _ :: _, _, _, _, _, _, hl, _ => by simp at hl
  | _ :: _, [], _, _, _, _, _, hl, _ => by simp at hl

theorem encArr_const (c : Ctx) {v : Value} {cells : List AV} (h : ofCells v = some cells) : EncArr c cells v.cells := by
  obtain ⟨h1, h2, _⟩ := enc_ofVals c h
  refine ⟨by simpa using h1, fun i hi hi' => ?_⟩
  have := h2 i hi (by simpa using hi')
  rwa [Array.getElem_toList] at this

/-! ### struct and array values -/
/-- Where the parts of a struct's or an array's value lie. -/
def placesOf (P : Program) (t : TypeId) : Option (Nat → Option (Nat × Nat)) :=
  match P.underlying t with
  | some (.struct fields) => (fields.toList.mapM (fun f => (P.info? f.type).map fun i => (f.offset, i.size))).map fun places => (places.toArray[·]?)
  | some (.array _ e) => (P.info? e).map fun inf => fun i => some (i * inf.size, inf.size)
  | _ => none
def zeroOf (P : Program) (t : TypeId) : Option (List AV) :=
  match P.info? t with
  | some i => match i.zero with
    | some v => ofCells v
    | none => none
  | none => none

def buildW (zero : List AV) (parts : List (Nat × Nat × AV)) (K : AV → Prop) : Prop :=
  match fillA zero parts with
  | some l => K (.agg l)
  | none => False

theorem buildW_sound {P : Program} {c : Ctx} {t : TypeId} {zero : List AV} (hz : zeroOf P t = some zero) {place : Nat → Option (Nat × Nat)} (hpl : placesOf P t = some place) {ps : Array (Nat × Value)} {qs : List (Nat × Nat × AV)} {K : AV → Prop}
    (h : buildW zero qs K) (hl : ps.toList.length = qs.length) (hp : ∀ i (h : i < ps.toList.length) (h' : i < qs.length), place (ps.toList[i]).1 = some ((qs[i]).1, (qs[i]).2.1) ∧ Enc c (qs[i]).2.2 (ps.toList[i]).2) :
    ∃ r v', (Instr.build t ps).run P c.w = .ok v' c.w ∧ Enc c r v' ∧ K r := by
  unfold buildW at h
  split at h
  · rename_i l hf
    unfold zeroOf at hz
    split at hz
    · rename_i inf hinf
      split at hz
      · rename_i v0 hv0
        obtain ⟨arr, h1, h2⟩ := fill_sound (c := c) (place := place) (encArr_const c hz) hf hl hp
        refine ⟨.agg l, .agg arr, run_build c.w t ps arr ?_, .agg l arr h2.1 h2.2, h⟩
        unfold Program.built
        unfold placesOf at hpl
        split at hpl
        · rename_i fields hu
          cases hm : fields.toList.mapM (fun f => (P.info? f.type).map fun i => (f.offset, i.size)) with
          | none => rw [hm] at hpl; cases hpl
          | some places =>
            rw [hm] at hpl
            injection hpl with hpl
            subst hpl
            simp only [hinf, hu, hv0, hm]
            exact h1
        · rename_i n e hu
          cases hi : P.info? e with
          | none => rw [hi] at hpl; cases hpl
          | some ie =>
            rw [hi] at hpl
            injection hpl with hpl
            subst hpl
            simp only [hinf, hu, hv0, hi]
            exact h1
        · cases hpl
      · cases hz
    · cases hz
  · exact h.elim

end Go.Proofs.Ytipbcjnniamcgaa.Fw
