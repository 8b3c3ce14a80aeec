/-
  The walk of span.Check: it answers OK just if the span may be; new memory alone is laid. Condition: the name is not longer than memory bears.
-/
import Derived.Test.YtdjcifeoplgkpaaWithin
namespace Go.Proofs.Ytdjcifeoplgkpaa
open Go.RowKit

set_option maxRecDepth 100000 in
set_option maxHeartbeats 400000 in
theorem check_any (s : Sp) (w : World) (hs : s.nm.size ≤ 140737488355328) :
    Calls Try.prog 38 #[s.val] w fun e w' => e = .returned (.int .i64 s.check) ∧ Below w.heap.size w w' := by
  go_enter Try.func38, Try.ntmps38
  go_wp2_with fail
  · have h1 : (1 : Int) ≤ s.nm.size := by assumption
    have h2 : (s.nm.size : Int) ≤ 32 := by assumption
    refine upon_conv_sb Try.underlying9 Try.underlying27 Try.underlying5 ?_
    intro cap w1 _ hb hz hr
    have hB := blk_cell (blk_below hb (by simp) (heap_alloc_new w _))
    have hb1 : Below w.heap.size w w1 := ((Below.refl _ _).alloc (Nat.le_refl _) _).trans (hb.mono (by simp))
    simp only [World.size_alloc] at hz hr
    clear hb
    have hz1 : w.heap.size < w1.heap.size := by omega
    go_wp2_with fail
    refine (within_byte _ _ _ _ _ _ s.nm.data.toList _ (by simpa using hs) rfl hr).mono ?_
    rintro e w2 ⟨rfl, rfl⟩
    clear hr
    cases hq1 : allBytes 33 126 s.nm.data.toList
    · go_wp2_with fail
      go_ret
      exact ⟨ret_int (Sp.check_f (by simp [Sp.ok, hq1])).symm, hb1⟩
    · go_wp2_with fail
      refine (within_int _ _ _ _ _ _ [s.tr, s.id] _ (by simp) rfl (Rd.new (by simp) (by simp) (by simp))).mono ?_
      rintro e w3 ⟨rfl, rfl⟩
      have hb2 := hb1.alloc (by omega) (.cells #[.int .i64 s.tr, .int .i64 s.id] 3)
      cases hq2 : allIn 1 1099511627776 [s.tr, s.id]
      · go_wp2_with fail
        go_ret
        exact ⟨ret_int (Sp.check_f (by simp [Sp.ok, hq2])).symm, hb2⟩
      · go_wp2_with fail
        refine (within_int _ _ _ _ _ _ [s.pa, s.st, s.en] _ (by simp) rfl (Rd.new (by simp) (by simp) (by simp))).mono ?_
        rintro e w3 ⟨rfl, rfl⟩
        have hb3 := hb2.alloc (by simp; omega) (.cells #[.int .i64 s.pa, .int .i64 s.st, .int .i64 s.en] 3)
        cases hq3 : allIn 0 1099511627776 [s.pa, s.st, s.en]
        · go_wp2_with fail
          go_ret
          exact ⟨ret_int (Sp.check_f (by simp [Sp.ok, hq3])).symm, hb3⟩
        · cases h4 : s.pa == s.id
          · have n4 : s.pa ≠ s.id := by simpa using h4
            by_cases h5 : s.st ≤ s.en
            · have h5' : ¬ s.en < s.st := by omega
              have HN := Lib.hid n4; clear n4
              go_wp2_with fail
              go_ret
              exact ⟨ret_int (Sp.check_t (by have n4 := HN.out; simp [Sp.ok, hq1, hq2, hq3, n4, h5]; omega)).symm, hb3⟩
            · have h5' : s.en < s.st := by omega
              have HN := Lib.hid n4; clear n4
              go_wp2_with fail
              go_ret
              exact ⟨ret_int (Sp.check_f (by simp [Sp.ok, h5])).symm, hb3⟩
          · have n4 : s.pa = s.id := by simpa using h4
            have HN := Lib.hid n4; clear n4
            go_wp2_with fail
            go_ret
            exact ⟨ret_int (Sp.check_f (by simp [Sp.ok, HN.out])).symm, hb3⟩
  · have h2 : (32 : Int) < s.nm.size := by assumption
    go_ret
    exact ⟨ret_int (Sp.check_f (by simp [Sp.ok]; intros; omega)).symm, (Below.refl _ _).alloc (Nat.le_refl _) _⟩
  · have h2 : (s.nm.size : Int) < 1 := by assumption
    go_ret
    exact ⟨ret_int (Sp.check_f (by simp [Sp.ok]; intros; omega)).symm, (Below.refl _ _).alloc (Nat.le_refl _) _⟩
end Go.Proofs.Ytdjcifeoplgkpaa
