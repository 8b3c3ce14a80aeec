/-
  The walk of span.Less. No condition.
-/
import Derived.Test.YtgdhbklgcmcdeaaOrder
namespace Go.Proofs.Ytgdhbklgcmcdeaa
open Go.RowKit

set_option maxRecDepth 100000 in
set_option maxHeartbeats 400000 in
theorem less_any (s t : Sp) (w : World) :
    Calls Try.prog 23 #[s.val, t.val] w fun e w' => e = .returned (.bool (decide (s.cmp t < 0))) ∧ Below w.heap.size w w' := by
  go_enter Try.func23, Try.ntmps23
  go_wp2_with fail
  refine (compare_any s t _).mono ?_
  rintro e w2 ⟨rfl, hg⟩
  go_wp2_with fail
  go_ret
  exact ⟨rfl, (((Below.refl _ _).alloc (Nat.le_refl _) _).alloc (by simp) _).trans (hg.below.mono (by simp; omega))⟩
end Go.Proofs.Ytgdhbklgcmcdeaa
