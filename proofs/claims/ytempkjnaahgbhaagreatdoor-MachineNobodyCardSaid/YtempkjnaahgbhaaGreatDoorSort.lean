/-
  The walk of span.Sort: a new slice that reads as the sorted list. Conditions: the slice reads as a list, not longer than memory bears.
-/
import Derived.Test.YtempkjnaahgbhaaGreatDoorStd
import Derived.Test.YtempkjnaahgbhaaGreatDoorSorted
import Derived.Test.YtempkjnaahgbhaaGreatDoorLaySort
import Derived.Shelf.SlSortCmp.NoneTotal
namespace Go.Proofs.YtempkjnaahgbhaaGreatDoor
open Go.RowKit Go.Sort

theorem sortFunc_any (g n c : Nat) (base : Nat) (l : List Sp) (w : World) (hb : n < 4611686018427387904) (h : w.ownsRow base 30 6 (.slice (some ⟨g, 0, none⟩) n c) n (l.flatMap Sp.cells)) :
    Calls Tryz.prog 174 #[.slice (some ⟨g, 0, none⟩) n c, .func (.func 175) #[] #[]] w fun e w' =>
      e = .returned (.tuple #[]) ∧ w'.ownsRow base 30 6 (.slice (some ⟨g, 0, none⟩) n c) n ((sortS l).flatMap Sp.cells) ∧ Below base w w' := by
  have hl : l.length = n := by have := h.1; rw [flat_len Sp.cells 6 Sp.cells_len] at this; omega
  have hg : g < w.heap.size := (h.lt g rfl).2
  have eg : ∀ args w, (callFunc 175 args).run Tryz.prog w = .ok (.enter 175 args) w := enters_of Tryz.func175 (by kernel_rfl) rfl
  have hcmp : CmpLays Tryz.prog 175 #[] Sp.cells 6 Sp.cmp g 0 l.toArray.size w := by
    intro m os dk hs x y
    exact (compare_any x y _).mono fun e w' ⟨he, q, os', hw⟩ => ⟨he, q, os', hw⟩
  have hS := AnyQ.slices_SortFunc_total Tryz.sortL 6 (fun w => Tryz.isAgg30 w) (fun w => Tryz.sizeOf30 w) Sp.cells Sp.cells_len (fun x v hv => cells_oneCell [x] v (by simpa using hv)) Sp.cmp swoS 175 #[] g 0 c l.toArray w eg hcmp (holds_of_own h) hg (by simpa [hl] using hb) totS
  rw [show l.toArray.size = n by simpa using hl] at hS
  refine hS.mono ?_
  rintro e w' ⟨he, q, os, rfl⟩
  exact ⟨he, own_sorted h (sortS_len l) q os⟩

set_option maxRecDepth 100000 in
set_option maxHeartbeats 400000 in
theorem Sort_any (A : Option Addr) (n cap B : Nat) (l : List Sp) (w : World) (hB : B ≤ w.heap.size) (hb : n ≤ 2513169434916) (hr : RdS w B A n l) :
    Calls Tryz.prog 161 #[.slice A n cap] w (ResS w (sortS l)) := by
  have hl := hr.len
  subst hl
  go_enter Tryz.func161, Tryz.ntmps161
  go_wp2_with fail
  refine (cloneSpans_any A l.length cap B l w hB hb hr).mono ?_
  rintro e w2 ⟨A2, c2, rfl, hown, hbel⟩
  go_wp2_with fail
  by_cases h0 : l.length = 0
  · obtain rfl : l = [] := List.length_eq_zero_iff.1 h0
    have hS := AnyF.slices_SortFunc_none (P := Tryz.prog) (ρ := Tryz.sortL_ren) { Tryz.sortL with } A2 c2 (.func (.func 175) #[] #[]) w2
    refine hS.mono ?_
    rintro e w3 ⟨rfl, rfl⟩
    go_wp2_with fail
    go_ret
    have e0 : sortS [] = [] := List.length_eq_zero_iff.1 (sortS_len [])
    rw [e0]
    exact ⟨A2, c2, rfl, hown, hbel⟩
  · obtain ⟨g, rfl, hg1, hg2⟩ := own_form hown (by omega)
    refine (sortFunc_any g l.length c2 _ l w2 (by omega) hown).mono ?_
    rintro e w3 ⟨rfl, hown3, hb3⟩
    go_wp2_with fail
    go_ret
    rw [← sortS_len l] at hown3 ⊢
    exact ⟨some ⟨g, 0, none⟩, c2, rfl, hown3, hbel.trans hb3⟩
end Go.Proofs.YtempkjnaahgbhaaGreatDoor
