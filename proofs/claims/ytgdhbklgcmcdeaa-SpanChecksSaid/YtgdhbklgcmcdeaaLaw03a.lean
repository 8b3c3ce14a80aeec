/-
  The walk of the law SpanChecks: the Go text answers true. Condition: the name is not longer than memory bears.
-/
import Derived.Test.YtgdhbklgcmcdeaaLight03
import Derived.Test.YtgdhbklgcmcdeaaRefPut
import Derived.Test.YtgdhbklgcmcdeaaSched
namespace Go.Proofs.Ytgdhbklgcmcdeaa
open Go.RowKit

set_option maxRecDepth 100000 in
set_option maxHeartbeats 2000000 in
theorem spanChecks_any (s : Sp) (w : World) (hs : s.nm.size ≤ 140737488355328) :
    Calls Try.prog 3 #[s.val] w fun e w' => e = .returned (.bool true) ∧ Below w.heap.size w w' := by
  have hS : ∀ W, Below (w.heap.size + 1) (w.alloc (.cells #[.int .i64 s.tr, .int .i64 s.id, .int .i64 s.pa, .int .i64 s.st, .int .i64 s.en, .string s.nm] 23)) W →
      W.cell? ⟨w.heap.size, 0, none⟩ = some (.int .i64 s.tr) ∧ W.cell? ⟨w.heap.size, 1, none⟩ = some (.int .i64 s.id) ∧ W.cell? ⟨w.heap.size, 2, none⟩ = some (.int .i64 s.pa) ∧ W.cell? ⟨w.heap.size, 3, none⟩ = some (.int .i64 s.st) ∧ W.cell? ⟨w.heap.size, 4, none⟩ = some (.int .i64 s.en) ∧ W.cell? ⟨w.heap.size, 5, none⟩ = some (.string s.nm) := by
    intro W hW
    have hc := blk_cell (blk_below hW (by omega) (heap_alloc_new w _))
    exact ⟨hc 0, hc 1, hc 2, hc 3, hc 4, hc 5⟩
  have HSS := Lib.hid hS
  clear hS
  cases hl : lightB [s]
  · have HL := Lib.hid hl
    have hnm := hs
    clear hl
    go_enter Try.func3, Try.ntmps3
    go_wp2_with fail
    generalize hw0 : w.alloc (.cells #[.int .i64 s.tr, .int .i64 s.id, .int .i64 s.pa, .int .i64 s.st, .int .i64 s.en, .string s.nm] 23) = w0 at *
    have hz0 : w0.heap.size = w.heap.size + 1 := by rw [← hw0]; simp
    have hbw : Below w.heap.size w w0 := by rw [← hw0]; exact (Below.refl _ _).alloc (Nat.le_refl _) _
    have HZ := Lib.hid hz0
    have HW := Lib.hid hw0
    have HB : Hid (w.heap.size + 1 ≤ w0.heap.size) := Lib.hid (by omega)
    clear hz0 hw0
    refine wp_region_sched [(0, true), (1, false), (2, false), (3, true), (4, true), (5, false), (6, true), (7, true), (8, true), (9, false), (10, false), (11, true), (12, true), (14, true), (13, false), (15, false), (16, true), (17, true), (18, true), (19, false), (20, true), (21, true), (22, true)] (fun W => Below (w.heap.size + 1) w0 W) (by kernel_rfl) (by kernel_rfl) rfl (by kernel_rfl) ((Below.refl _ _).drew) ?_
    repeat (first | (apply sched_take rfl; (focus (first | rfl | (go_simp; done))); (focus (intro W hW; obtain ⟨c0, c1, c2, c3, c4, c5⟩ := HSS.out W hW; go_simp; rfl)); (focus (intro K hK; go_simp; refine hK _ ?_; clear hK K))) | (apply sched_skip rfl; (focus (first | rfl | (go_simp; done))); (focus (intro K hK; go_simp; refine hK _ ?_; clear hK K))))
    apply sched_op rfl
    intro K hK
    go_simp
    go_wp2_with (fail)
    refine ⟨by repeat (first | exact Below.refl _ _ | assumption | refine Below.drew ?_ | refine below_alloc HB.out ?_ _), ?_⟩
    repeat (first | (apply sched_take rfl; (focus (first | rfl | (go_simp; done))); (focus (intro W hW; obtain ⟨c0, c1, c2, c3, c4, c5⟩ := HSS.out W hW; go_simp; rfl)); (focus (intro K hK; go_simp; refine hK _ ?_; clear hK K))) | (apply sched_skip rfl; (focus (first | rfl | (go_simp; done))); (focus (intro K hK; go_simp; refine hK _ ?_; clear hK K))))
    apply sched_op rfl
    intro K hK
    go_simp
    go_wp2_with (fail)
    refine (light_any _ _ _ _ [s] _ (by omega) (RdS.one (by simp) s _ _).drew).mono ?_
    rintro e w4 ⟨rfl, rfl⟩
    rw [HL.out]
    go_wp2_with fail
    refine ⟨by repeat (first | exact Below.refl _ _ | assumption | refine Below.drew ?_ | refine below_alloc HB.out ?_ _), ?_⟩
    repeat (first | (apply sched_take rfl; (focus (first | rfl | (go_simp; done))); (focus (intro W hW; obtain ⟨c0, c1, c2, c3, c4, c5⟩ := HSS.out W hW; go_simp; rfl)); (focus (intro K hK; go_simp; refine hK _ ?_; clear hK K))) | (apply sched_skip rfl; (focus (first | rfl | (go_simp; done))); (focus (intro K hK; go_simp; refine hK _ ?_; clear hK K))))
    apply sched_op rfl
    intro K hK
    go_simp
    go_wp2_with (fail)
    refine (awake_any _).mono ?_
    rintro e w5 ⟨rfl, hb5⟩
    have hk5 := below_step HB.out (by repeat (first | exact Below.refl _ _ | assumption | refine Below.drew ?_ | refine below_alloc HB.out ?_ _)) hb5
    go_wp2_with fail
    refine ⟨by repeat (first | exact Below.refl _ _ | assumption | refine Below.drew ?_ | refine below_alloc HB.out ?_ _), ?_⟩
    repeat (first | (apply sched_take rfl; (focus (first | rfl | (go_simp; done))); (focus (intro W hW; obtain ⟨c0, c1, c2, c3, c4, c5⟩ := HSS.out W hW; go_simp; rfl)); (focus (intro K hK; go_simp; refine hK _ ?_; clear hK K))) | (apply sched_skip rfl; (focus (first | rfl | (go_simp; done))); (focus (intro K hK; go_simp; refine hK _ ?_; clear hK K))))
    refine sched_nil ?_
    go_wp2_with fail
    go_ret
    exact ⟨rfl, hbw.trans (hk5.mono (by omega))⟩
  · have HL := Lib.hid hl
    have hnm := hs
    clear hl
    go_enter Try.func3, Try.ntmps3
    go_wp2_with fail
    generalize hw0 : w.alloc (.cells #[.int .i64 s.tr, .int .i64 s.id, .int .i64 s.pa, .int .i64 s.st, .int .i64 s.en, .string s.nm] 23) = w0 at *
    have hz0 : w0.heap.size = w.heap.size + 1 := by rw [← hw0]; simp
    have hbw : Below w.heap.size w w0 := by rw [← hw0]; exact (Below.refl _ _).alloc (Nat.le_refl _) _
    have HZ := Lib.hid hz0
    have HW := Lib.hid hw0
    have HB : Hid (w.heap.size + 1 ≤ w0.heap.size) := Lib.hid (by omega)
    clear hz0 hw0
    refine wp_region_sched [(0, true), (1, false), (2, false), (3, true), (4, true), (5, false), (6, true), (7, true), (8, true), (9, false), (10, false), (11, true), (12, true), (14, true), (13, false), (15, false), (16, true), (17, true), (18, true), (19, false), (20, true), (21, true), (22, true)] (fun W => Below (w.heap.size + 1) w0 W) (by kernel_rfl) (by kernel_rfl) rfl (by kernel_rfl) ((Below.refl _ _).drew) ?_
    repeat (first | (apply sched_take rfl; (focus (first | rfl | (go_simp; done))); (focus (intro W hW; obtain ⟨c0, c1, c2, c3, c4, c5⟩ := HSS.out W hW; go_simp; rfl)); (focus (intro K hK; go_simp; refine hK _ ?_; clear hK K))) | (apply sched_skip rfl; (focus (first | rfl | (go_simp; done))); (focus (intro K hK; go_simp; refine hK _ ?_; clear hK K))))
    apply sched_op rfl
    intro K hK
    go_simp
    go_wp2_with (fail)
    refine ⟨by repeat (first | exact Below.refl _ _ | assumption | refine Below.drew ?_ | refine below_alloc HB.out ?_ _), ?_⟩
    repeat (first | (apply sched_take rfl; (focus (first | rfl | (go_simp; done))); (focus (intro W hW; obtain ⟨c0, c1, c2, c3, c4, c5⟩ := HSS.out W hW; go_simp; rfl)); (focus (intro K hK; go_simp; refine hK _ ?_; clear hK K))) | (apply sched_skip rfl; (focus (first | rfl | (go_simp; done))); (focus (intro K hK; go_simp; refine hK _ ?_; clear hK K))))
    apply sched_op rfl
    intro K hK
    go_simp
    go_wp2_with (fail)
    refine (light_any _ _ _ _ [s] _ (by omega) (RdS.one (by simp) s _ _).drew).mono ?_
    rintro e w4 ⟨rfl, rfl⟩
    rw [HL.out]
    go_wp2_with fail
    refine ⟨by repeat (first | exact Below.refl _ _ | assumption | refine Below.drew ?_ | refine below_alloc HB.out ?_ _), ?_⟩
    repeat (first | (apply sched_take rfl; (focus (first | rfl | (go_simp; done))); (focus (intro W hW; obtain ⟨c0, c1, c2, c3, c4, c5⟩ := HSS.out W hW; go_simp; rfl)); (focus (intro K hK; go_simp; refine hK _ ?_; clear hK K))) | (apply sched_skip rfl; (focus (first | rfl | (go_simp; done))); (focus (intro K hK; go_simp; refine hK _ ?_; clear hK K))))
    apply sched_op rfl
    intro K hK
    go_simp
    go_wp2_with (fail)
    refine ⟨by repeat (first | exact Below.refl _ _ | assumption | refine Below.drew ?_ | refine below_alloc HB.out ?_ _), ?_⟩
    repeat (first | (apply sched_take rfl; (focus (first | rfl | (go_simp; done))); (focus (intro W hW; obtain ⟨c0, c1, c2, c3, c4, c5⟩ := HSS.out W hW; go_simp; rfl)); (focus (intro K hK; go_simp; refine hK _ ?_; clear hK K))) | (apply sched_skip rfl; (focus (first | rfl | (go_simp; done))); (focus (intro K hK; go_simp; refine hK _ ?_; clear hK K))))
    apply sched_op rfl
    intro K hK
    go_simp
    go_wp2_with (fail)
    refine (light_any _ _ _ _ [s] _ (by omega) (RdS.one (by simp) s _ _).drew).mono ?_
    rintro e w4 ⟨rfl, rfl⟩
    rw [HL.out]
    go_wp2_with fail
    refine ⟨by repeat (first | exact Below.refl _ _ | assumption | refine Below.drew ?_ | refine below_alloc HB.out ?_ _), ?_⟩
    repeat (first | (apply sched_take rfl; (focus (first | rfl | (go_simp; done))); (focus (intro W hW; obtain ⟨c0, c1, c2, c3, c4, c5⟩ := HSS.out W hW; go_simp; rfl)); (focus (intro K hK; go_simp; refine hK _ ?_; clear hK K))) | (apply sched_skip rfl; (focus (first | rfl | (go_simp; done))); (focus (intro K hK; go_simp; refine hK _ ?_; clear hK K))))
    apply sched_op rfl
    intro K hK
    go_simp
    go_wp2_with (fail)
    refine (check_any s _ hnm).mono ?_
    rintro e w5 ⟨rfl, hb5⟩
    have hk5 := below_step HB.out (by repeat (first | exact Below.refl _ _ | assumption | refine Below.drew ?_ | refine below_alloc HB.out ?_ _)) hb5
    go_wp2_with fail
    refine ⟨by repeat (first | exact Below.refl _ _ | assumption | refine Below.drew ?_ | refine below_alloc HB.out ?_ _), ?_⟩
    repeat (first | (apply sched_take rfl; (focus (first | rfl | (go_simp; done))); (focus (intro W hW; obtain ⟨c0, c1, c2, c3, c4, c5⟩ := HSS.out W hW; go_simp; rfl)); (focus (intro K hK; go_simp; refine hK _ ?_; clear hK K))) | (apply sched_skip rfl; (focus (first | rfl | (go_simp; done))); (focus (intro K hK; go_simp; refine hK _ ?_; clear hK K))))
    apply sched_op rfl
    intro K hK
    go_simp
    go_wp2_with (fail)
    refine (refCheck_any s _ hnm).mono ?_
    rintro e w6 ⟨rfl, hb6⟩
    have hk6 := below_step HB.out (by repeat (first | exact Below.refl _ _ | assumption | refine Below.drew ?_ | refine below_alloc HB.out ?_ _)) hb6
    go_wp2_with fail
    refine ⟨by repeat (first | exact Below.refl _ _ | assumption | refine Below.drew ?_ | refine below_alloc HB.out ?_ _), ?_⟩
    repeat (first | (apply sched_take rfl; (focus (first | rfl | (go_simp; done))); (focus (intro W hW; obtain ⟨c0, c1, c2, c3, c4, c5⟩ := HSS.out W hW; go_simp; rfl)); (focus (intro K hK; go_simp; refine hK _ ?_; clear hK K))) | (apply sched_skip rfl; (focus (first | rfl | (go_simp; done))); (focus (intro K hK; go_simp; refine hK _ ?_; clear hK K))))
    apply sched_op rfl
    intro K hK
    go_simp
    go_wp2_with (fail)
    refine (awake_any _).mono ?_
    rintro e w7 ⟨rfl, hb7⟩
    have hk7 := below_step HB.out (by repeat (first | exact Below.refl _ _ | assumption | refine Below.drew ?_ | refine below_alloc HB.out ?_ _)) hb7
    go_wp2_with fail
    refine ⟨by repeat (first | exact Below.refl _ _ | assumption | refine Below.drew ?_ | refine below_alloc HB.out ?_ _), ?_⟩
    repeat (first | (apply sched_take rfl; (focus (first | rfl | (go_simp; done))); (focus (intro W hW; obtain ⟨c0, c1, c2, c3, c4, c5⟩ := HSS.out W hW; go_simp; rfl)); (focus (intro K hK; go_simp; refine hK _ ?_; clear hK K))) | (apply sched_skip rfl; (focus (first | rfl | (go_simp; done))); (focus (intro K hK; go_simp; refine hK _ ?_; clear hK K))))
    refine sched_nil ?_
    go_wp2_with fail
    go_ret
    exact ⟨rfl, hbw.trans (hk7.mono (by omega))⟩
end Go.Proofs.Ytgdhbklgcmcdeaa
