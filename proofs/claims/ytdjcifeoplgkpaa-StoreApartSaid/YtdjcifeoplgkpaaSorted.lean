/-
  The plain law of sorting spans: there is one sorted list of any spans, however they come; each put at its place one by one comes to it. No condition.
-/
import Derived.Test.YtdjcifeoplgkpaaOrder
import Derived.Shelf.SlSortCmp.InsertionK
namespace Go.Proofs.Ytdjcifeoplgkpaa
open Go.RowKit Go.Sort

instance : Inhabited Sp := ⟨⟨0, 0, 0, 0, 0, ⟨#[]⟩⟩⟩

/-- The one sorted list of some spans. -/
def sortS (l : List Sp) : List Sp := l.mergeSort fun x y => !ltOf Sp.cmp y x
theorem leS_iff (x y : Sp) : (!ltOf Sp.cmp y x) = true ↔ x.cmp y ≤ 0 := by
  have := isCmp_span.swap x y
  simp only [ltOf, Bool.not_eq_true', decide_eq_false_iff_not]; omega
theorem leS_total (x y : Sp) : x.cmp y ≤ 0 ∨ y.cmp x ≤ 0 := by
  have := isCmp_span.swap x y; omega
theorem swoS : SWO (ltOf Sp.cmp) where
  irrefl x := by
    have := cmp_zero.2 (rfl : x = x)
    simp [ltOf, this]
  trans x y z h1 h2 := by
    simp only [ltOf, decide_eq_true_eq] at *
    have h3 := isCmp_span.trans x y z (by omega) (by omega)
    by_cases h : x.cmp z = 0
    · have := isCmp_span.zero x y z (by omega) (by omega) h; omega
    · omega
  ntrans x y z h1 h2 := by
    simp only [ltOf, decide_eq_false_iff_not] at *
    have a := isCmp_span.swap x y
    have b := isCmp_span.swap y z
    have c := isCmp_span.swap x z
    have h3 := isCmp_span.trans z y x (by omega) (by omega)
    omega
theorem totS (x y : Sp) (h1 : ltOf Sp.cmp x y = false) (h2 : ltOf Sp.cmp y x = false) : x = y := by
  simp only [ltOf, decide_eq_false_iff_not] at *
  have a := isCmp_span.swap x y
  exact cmp_zero.1 (by omega)
theorem sortS_perm (l : List Sp) : (sortS l).Perm l := List.mergeSort_perm _ _
theorem sortS_len (l : List Sp) : (sortS l).length = l.length := (sortS_perm l).length_eq
theorem sortS_mem {l : List Sp} {s : Sp} : s ∈ sortS l ↔ s ∈ l := (sortS_perm l).mem_iff
theorem sortS_sorted (l : List Sp) : (sortS l).Pairwise fun x y => x.cmp y ≤ 0 := by
  have h := List.pairwise_mergeSort (le := fun x y : Sp => !ltOf Sp.cmp y x) (by
    intro a b c h1 h2
    rw [leS_iff] at *
    exact isCmp_span.trans a b c h1 h2) (by
    intro a b
    rw [Bool.or_eq_true, leS_iff, leS_iff]
    exact leS_total a b) l
  exact h.imp (fun {a b} h => (leS_iff a b).1 h)
theorem sortS_unique {l m : List Sp} (hp : m.Perm l) (hs : m.Pairwise fun x y => x.cmp y ≤ 0) : m = sortS l := by
  refine List.Perm.eq_of_pairwise (le := fun x y : Sp => x.cmp y ≤ 0) ?_ hs (sortS_sorted l) (hp.trans (sortS_perm l).symm)
  intro a b _ _ h1 h2
  have a := isCmp_span.swap a b
  exact cmp_zero.1 (by omega)
theorem sortS_congr {l m : List Sp} (h : m.Perm l) : sortS m = sortS l := sortS_unique ((sortS_perm m).trans h) (sortS_sorted m)
theorem sortS_of {l : List Sp} (h : l.Pairwise fun x y => x.cmp y ≤ 0) : sortS l = l := (sortS_unique (List.Perm.refl l) h).symm
theorem sortS_idem (l : List Sp) : sortS (sortS l) = sortS l := sortS_of (sortS_sorted l)
theorem sortS_filter (p : Sp → Bool) (l : List Sp) : (sortS l).filter p = sortS (l.filter p) := sortS_unique ((sortS_perm l).filter p) ((sortS_sorted l).filter p)

/-- One put at its place. -/
def insS (s : Sp) : List Sp → List Sp
  | [] => [s]
  | x :: r => if s.cmp x < 0 then s :: x :: r else x :: insS s r
theorem insS_perm (s : Sp) (l : List Sp) : (insS s l).Perm (s :: l) := by
  induction l with
  | nil => exact List.Perm.refl _
  | cons x r ih =>
    rw [insS]
    by_cases h : s.cmp x < 0
    · rw [if_pos h]
    · rw [if_neg h]
      exact (ih.cons x).trans (List.Perm.swap s x r)
theorem insS_len (s : Sp) (l : List Sp) : (insS s l).length = l.length + 1 := (insS_perm s l).length_eq
theorem insS_sorted (s : Sp) (l : List Sp) (h : l.Pairwise fun x y => x.cmp y ≤ 0) : (insS s l).Pairwise fun x y => x.cmp y ≤ 0 := by
  induction l with
  | nil => simp [insS]
  | cons x r ih =>
    obtain ⟨h1, h2⟩ := List.pairwise_cons.1 h
    rw [insS]
    by_cases hc : s.cmp x < 0
    · rw [if_pos hc]
      refine List.pairwise_cons.2 ⟨fun y hy => ?_, h⟩
      rcases List.mem_cons.1 hy with rfl | hy
      · omega
      · exact isCmp_span.trans s x y (by omega) (h1 y hy)
    · rw [if_neg hc]
      refine List.pairwise_cons.2 ⟨fun y hy => ?_, ih h2⟩
      have hm := (insS_perm s r).mem_iff.1 hy
      rcases List.mem_cons.1 hm with rfl | hm
      · have := isCmp_span.swap x y; omega
      · exact h1 y hm
/-- Each at its place, from the left on. -/
def insAll (acc : List Sp) (l : List Sp) : List Sp := l.foldl (fun a s => insS s a) acc
theorem insAll_perm (l acc : List Sp) : (insAll acc l).Perm (acc ++ l) := by
  induction l generalizing acc with
  | nil => simp [insAll]
  | cons s l ih =>
    refine (ih (insS s acc)).trans ?_
    refine ((insS_perm s acc).append_right l).trans ?_
    rw [List.cons_append]
    exact List.perm_middle.symm
theorem insAll_sorted (l acc : List Sp) (h : acc.Pairwise fun x y => x.cmp y ≤ 0) : (insAll acc l).Pairwise fun x y => x.cmp y ≤ 0 := by
  induction l generalizing acc with
  | nil => exact h
  | cons s l ih => exact ih _ (insS_sorted s acc h)
theorem insAll_sortS (l : List Sp) : insAll [] l = sortS l := sortS_unique (by simpa using insAll_perm l []) (insAll_sorted l [] List.Pairwise.nil)
/-- What is ahead of the place of one, and what is behind it. -/
theorem insS_split (s : Sp) (a b : List Sp) (ha : ∀ x ∈ a, ¬ s.cmp x < 0) (hb : ∀ x ∈ b.head?, s.cmp x < 0) : insS s (a ++ b) = a ++ s :: b := by
  induction a with
  | nil =>
    cases b with
    | nil => rfl
    | cons x r => rw [List.nil_append, insS, if_pos (hb x (by simp))]; rfl
  | cons x a ih => rw [List.cons_append, insS, if_neg (ha x (by simp)), ih fun y hy => ha y (by simp [hy])]; rfl

/-! ### A row of the caller's own, sorted in place -/
theorem flatK_cells (l : List Sp) : flatK Sp.cells 6 l.toArray = (l.flatMap Sp.cells).toArray := by
  have hl := flat_len Sp.cells 6 Sp.cells_len l
  refine ext_get! (by simp [hl]) fun t ht => ?_
  have ht' : t < l.length * 6 := by simpa using ht
  rw [get_flatK _ _ _ _ (by simpa using ht')]
  have h6 : t / 6 < l.length := by omega
  have e1 : l.toArray[t / 6]! = l[t / 6] := by simp [h6]
  have e2 := flat_at Sp.cells 6 Sp.cells_len l (t / 6) (t % 6) h6 (by omega)
  rw [show t / 6 * 6 + t % 6 = t by omega] at e2
  rw [e1]
  simp only [getElem!_def, List.getElem?_toArray, e2]
theorem holds_of_own {w : World} {base g n c : Nat} {e : TypeId} {l : List Sp} (h : w.ownsRow base e 6 (.slice (some ⟨g, 0, none⟩) n c) n (l.flatMap Sp.cells)) : HoldsK Sp.cells 6 w g 0 l.toArray := by
  rcases h.2 with ⟨hv, _⟩ | ⟨g', cap, cur, hv, _, hh, hn, _, hs, ht⟩
  · cases hv
  · injection hv with ha
    injection ha with ha
    injection ha with ha
    subst ha
    unfold HoldsK
    rw [flatK_cells]
    intro j hj
    have hj' : j < (l.flatMap Sp.cells).length := by simpa using hj
    refine ⟨?_, by simp [World.frozen?, hh]⟩
    rw [Nat.zero_add, cell_of_row w g j cur e (0, 0) hh]
    have hl := h.1
    have h2 : (cur.toList.take (n * 6))[j]? = (l.flatMap Sp.cells)[j]? := by rw [ht]
    rw [List.getElem?_take_of_lt (by omega)] at h2
    rw [← Array.getElem?_toList, h2, List.getElem?_eq_getElem hj']
    simp [getElem!_def, List.getElem?_eq_getElem hj']
theorem own_sorted {w : World} {base g n c : Nat} {e : TypeId} {l m : List Sp} (h : w.ownsRow base e 6 (.slice (some ⟨g, 0, none⟩) n c) n (l.flatMap Sp.cells)) (hm : m.length = l.length) (q : Nat) (os : Array Obj) :
    (sortWorldK Sp.cells 6 w g 0 q m.toArray os).ownsRow base e 6 (.slice (some ⟨g, 0, none⟩) n c) n (m.flatMap Sp.cells) ∧ Below base w (sortWorldK Sp.cells 6 w g 0 q m.toArray os) := by
  have hl := h.1
  rw [flat_len Sp.cells 6 Sp.cells_len] at hl
  rcases h.2 with ⟨hv, _⟩ | ⟨g', cap, cur, hv, hb, hh, hn, hc, hs, ht⟩
  · cases hv
  · injection hv with ha hn' hc'
    injection ha with ha
    injection ha with ha
    subst ha hc'
    have hg : g < w.heap.size := (Array.getElem?_eq_some_iff.1 hh).1
    constructor
    · refine ⟨by rw [flat_len Sp.cells 6 Sp.cells_len, hm]; exact hl, .inr ⟨g, c, putCells id 0 (m.flatMap Sp.cells).toArray cur, rfl, hb, ?_, hn, hc, by simp [putCells, hs], ?_⟩⟩
      · unfold sortWorldK putRowK
        rw [heap_grow_old _ _ (by simpa [putRow, mapBlock, Sort.ahead] using hg), flatK_cells]
        simp [putRow, mapBlock, Sort.ahead, Array.getElem?_modify, hh, onCells]
      · apply List.ext_getElem?
        intro j
        have hf := flat_len Sp.cells 6 Sp.cells_len m
        have hnc : n * 6 ≤ c * 6 := Nat.mul_le_mul_right 6 hn
        by_cases hj : j < n * 6
        · rw [List.getElem?_take_of_lt hj, Array.getElem?_toList]
          simp only [putCells, Array.getElem?_mapIdx]
          have hj2 : j < cur.size := by omega
          have hj3 : j < (m.flatMap Sp.cells).length := by rw [hf, hm, hl]; exact hj
          rw [Array.getElem?_eq_getElem hj2, Option.map_some, if_pos ⟨Nat.zero_le _, by simpa using hj3⟩, List.getElem?_eq_getElem hj3]
          simp [getElem!_def, List.getElem?_eq_getElem hj3]
        · rw [List.getElem?_eq_none (by simp; omega), List.getElem?_eq_none (by rw [hf, hm, hl]; omega)]
    · refine ⟨rfl, rfl, rfl, ?_, ?_⟩
      · unfold sortWorldK putRowK; rw [size_grow]; simp [putRow, mapBlock, Sort.ahead]
      · intro k hk
        unfold sortWorldK putRowK
        rw [heap_grow_old _ _ (by simp [putRow, mapBlock, Sort.ahead]; omega)]
        simp [putRow, mapBlock, Sort.ahead, Array.getElem?_modify, show ¬ g = k by omega]
end Go.Proofs.Ytdjcifeoplgkpaa
