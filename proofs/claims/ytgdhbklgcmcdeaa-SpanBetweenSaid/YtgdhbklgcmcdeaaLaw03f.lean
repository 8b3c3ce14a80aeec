/-
  The walk of the law SpanBetween: the Go text answers true. No condition.
-/
import Derived.Test.YtgdhbklgcmcdeaaOrder
import Derived.Test.YtgdhbklgcmcdeaaStd
import Derived.Test.YtgdhbklgcmcdeaaLight03
namespace Go.Proofs.Ytgdhbklgcmcdeaa
open Go.RowKit

def QP (q : Bool) (a b : Sp) : Prop := q = true ↔ a = b
theorem rd_newL {w : World} {H : Nat} (hH : w.heap.size = H) {cs : Array Value} {t : TypeId} {fr : Nat × Nat} {xs : List Value} {n sz : Nat} (hx : xs.length = n * sz) (h : cs.toList = xs) :
    Rd (w.alloc (.cells cs t fr)) (H + 1) sz (some ⟨H, 0, none⟩) n xs := Rd.new hH hx (by subst h; intro j hj; simp)
theorem cmp_strict {a b c : Sp} (h1 : a.cmp b < 0) (h2 : b.cmp c < 0) : a.cmp c < 0 := by
  have t := isCmp_span.trans a b c (by omega) (by omega)
  by_cases h : a.cmp c = 0
  · have := isCmp_span.zero a b c (by omega) (by omega) h
    omega
  · omega

set_option maxRecDepth 100000 in
set_option maxHeartbeats 4000000 in
theorem spanBetween_any (a b c : Sp) (w : World) :
    Calls Try.prog 8 #[a.val, b.val, c.val] w fun e w' => e = .returned (.bool true) ∧ Below w.heap.size w w' := by
  obtain ⟨w0, hw0⟩ : ∃ w0, w0 = ((w.alloc (.cells #[.int .i64 a.tr, .int .i64 a.id, .int .i64 a.pa, .int .i64 a.st, .int .i64 a.en, .string a.nm] 23)).alloc (.cells #[.int .i64 b.tr, .int .i64 b.id, .int .i64 b.pa, .int .i64 b.st, .int .i64 b.en, .string b.nm] 23)).alloc (.cells #[.int .i64 c.tr, .int .i64 c.id, .int .i64 c.pa, .int .i64 c.st, .int .i64 c.en, .string c.nm] 23) := ⟨_, rfl⟩
  have hz0 : w0.heap.size = w.heap.size + 3 := by rw [hw0]; simp
  have hbw : Below w.heap.size w w0 := by rw [hw0]; exact (((Below.refl _ _).alloc (Nat.le_refl _) _).alloc (by simp) _).alloc (by simp; omega) _
  have hS : ∀ W, Below (w.heap.size + 3) w0 W → (W.cell? ⟨w.heap.size, 0, none⟩ = some (.int .i64 a.tr) ∧ W.cell? ⟨w.heap.size, 1, none⟩ = some (.int .i64 a.id) ∧ W.cell? ⟨w.heap.size, 2, none⟩ = some (.int .i64 a.pa) ∧ W.cell? ⟨w.heap.size, 3, none⟩ = some (.int .i64 a.st) ∧ W.cell? ⟨w.heap.size, 4, none⟩ = some (.int .i64 a.en) ∧ W.cell? ⟨w.heap.size, 5, none⟩ = some (.string a.nm)) ∧ (W.cell? ⟨w.heap.size + 1, 0, none⟩ = some (.int .i64 b.tr) ∧ W.cell? ⟨w.heap.size + 1, 1, none⟩ = some (.int .i64 b.id) ∧ W.cell? ⟨w.heap.size + 1, 2, none⟩ = some (.int .i64 b.pa) ∧ W.cell? ⟨w.heap.size + 1, 3, none⟩ = some (.int .i64 b.st) ∧ W.cell? ⟨w.heap.size + 1, 4, none⟩ = some (.int .i64 b.en) ∧ W.cell? ⟨w.heap.size + 1, 5, none⟩ = some (.string b.nm)) ∧ (W.cell? ⟨w.heap.size + 1 + 1, 0, none⟩ = some (.int .i64 c.tr) ∧ W.cell? ⟨w.heap.size + 1 + 1, 1, none⟩ = some (.int .i64 c.id) ∧ W.cell? ⟨w.heap.size + 1 + 1, 2, none⟩ = some (.int .i64 c.pa) ∧ W.cell? ⟨w.heap.size + 1 + 1, 3, none⟩ = some (.int .i64 c.st) ∧ W.cell? ⟨w.heap.size + 1 + 1, 4, none⟩ = some (.int .i64 c.en) ∧ W.cell? ⟨w.heap.size + 1 + 1, 5, none⟩ = some (.string c.nm)) := by
    intro W hW
    have h1 : w0.heap[w.heap.size]? = some (.cells #[.int .i64 a.tr, .int .i64 a.id, .int .i64 a.pa, .int .i64 a.st, .int .i64 a.en, .string a.nm] 23 (0, 0)) := by
      rw [hw0]; exact blk_below (((Below.refl (w.heap.size + 1) _).alloc (by simp) _).alloc (by simp) _) (by omega) (heap_alloc_new w _)
    have h2 : w0.heap[w.heap.size + 1]? = some (.cells #[.int .i64 b.tr, .int .i64 b.id, .int .i64 b.pa, .int .i64 b.st, .int .i64 b.en, .string b.nm] 23 (0, 0)) := by
      have h := heap_alloc_new (w.alloc (.cells #[.int .i64 a.tr, .int .i64 a.id, .int .i64 a.pa, .int .i64 a.st, .int .i64 a.en, .string a.nm] 23)) (.cells #[.int .i64 b.tr, .int .i64 b.id, .int .i64 b.pa, .int .i64 b.st, .int .i64 b.en, .string b.nm] 23)
      rw [World.size_alloc] at h
      rw [hw0]; exact blk_below ((Below.refl (w.heap.size + 2) _).alloc (by simp) _) (by omega) h
    have h3 : w0.heap[w.heap.size + 2]? = some (.cells #[.int .i64 c.tr, .int .i64 c.id, .int .i64 c.pa, .int .i64 c.st, .int .i64 c.en, .string c.nm] 23 (0, 0)) := by
      have h := heap_alloc_new ((w.alloc (.cells #[.int .i64 a.tr, .int .i64 a.id, .int .i64 a.pa, .int .i64 a.st, .int .i64 a.en, .string a.nm] 23)).alloc (.cells #[.int .i64 b.tr, .int .i64 b.id, .int .i64 b.pa, .int .i64 b.st, .int .i64 b.en, .string b.nm] 23)) (.cells #[.int .i64 c.tr, .int .i64 c.id, .int .i64 c.pa, .int .i64 c.st, .int .i64 c.en, .string c.nm] 23)
      rw [World.size_alloc, World.size_alloc] at h
      rw [hw0]; exact h
    have e1 := blk_cell (blk_below hW (by omega) h1)
    have e2 := blk_cell (blk_below hW (by omega) h2)
    have e3 := blk_cell (blk_below hW (by omega) h3)
    exact ⟨⟨e1 0, e1 1, e1 2, e1 3, e1 4, e1 5⟩, ⟨e2 0, e2 1, e2 2, e2 3, e2 4, e2 5⟩, ⟨e3 0, e3 1, e3 2, e3 3, e3 4, e3 5⟩⟩
  have HSS := Lib.hid hS
  have HW0 := Lib.hid hw0
  have HZ0 := Lib.hid hz0
  have HB : Hid (w.heap.size + 3 ≤ w0.heap.size) := Lib.hid (by omega)
  have hR : RdS (w0.alloc (.cells #[.int .i64 a.tr, .int .i64 a.id, .int .i64 a.pa, .int .i64 a.st, .int .i64 a.en, .string a.nm, .int .i64 b.tr, .int .i64 b.id, .int .i64 b.pa, .int .i64 b.st, .int .i64 b.en, .string b.nm, .int .i64 c.tr, .int .i64 c.id, .int .i64 c.pa, .int .i64 c.st, .int .i64 c.en, .string c.nm] 23)) (w0.heap.size + 1) (some ⟨w.heap.size + 1 + 1 + 1, 0, none⟩) 3 [a, b, c] := by
    have h := rd_newL (w := w0) (t := 23) (fr := (0, 0)) (n := 3) (sz := 6) hz0 rfl (cs := #[.int .i64 a.tr, .int .i64 a.id, .int .i64 a.pa, .int .i64 a.st, .int .i64 a.en, .string a.nm, .int .i64 b.tr, .int .i64 b.id, .int .i64 b.pa, .int .i64 b.st, .int .i64 b.en, .string b.nm, .int .i64 c.tr, .int .i64 c.id, .int .i64 c.pa, .int .i64 c.st, .int .i64 c.en, .string c.nm]) (xs := [a, b, c].flatMap Sp.cells) rfl
    rw [hz0]; exact h
  have HR := Lib.hid hR
  clear hS hw0 hz0 hR
  cases hl : lightB [a, b, c]
  · have HL := Lib.hid hl
    clear hl
    go_enter Try.func8, Try.ntmps8
    go_wp2_with fail
    rw [← HW0.out]
    refine (light_any _ _ _ _ [a, b, c] _ (by omega) HR.out).mono ?_
    rintro e w1 ⟨rfl, rfl⟩
    rw [HL.out]
    go_wp2_with fail
    refine (awake_any _).mono ?_
    rintro e w2 ⟨rfl, hb2⟩
    go_wp2_with fail
    go_ret
    exact ⟨rfl, below_via (hbw.alloc hbw.size _) hb2 (by have := hbw.size; simp; omega)⟩
  · have HL := Lib.hid hl
    clear hl
    cases hab : decide (a.cmp b < 0)
    · have HAB := Lib.hid hab
      cases hba : decide (b.cmp a < 0)
      · have HBA := Lib.hid hba
        have HQ : Hid (QP true a b) := Lib.hid (by
          have h1 := of_decide_eq_false hab
          have h2 := of_decide_eq_false hba
          have h3 := isCmp_span.swap a b
          have h4 := (cmp_zero (s := a) (t := b)).1 (by omega)
          simp [QP, h4])
        clear hab hba
        go_enter Try.func8, Try.ntmps8
        go_wp2_with fail
        rw [← HW0.out]
        refine (light_any _ _ _ _ [a, b, c] _ (by omega) HR.out).mono ?_
        rintro e w1 ⟨rfl, rfl⟩
        rw [HL.out]
        have hk0 : Below (w.heap.size + 3) w0 (w0.alloc _) := below_alloc HB.out (Below.refl _ _) (.cells #[.int .i64 a.tr, .int .i64 a.id, .int .i64 a.pa, .int .i64 a.st, .int .i64 a.en, .string a.nm, .int .i64 b.tr, .int .i64 b.id, .int .i64 b.pa, .int .i64 b.st, .int .i64 b.en, .string b.nm, .int .i64 c.tr, .int .i64 c.id, .int .i64 c.pa, .int .i64 c.st, .int .i64 c.en, .string c.nm] 23)
        obtain ⟨⟨c0, c1, c2, c3, c4, c5⟩, ⟨d0, d1, d2, d3, d4, d5⟩, f0, f1, f2, f3, f4, f5⟩ := HSS.out _ hk0
        go_wp2_with fail
        refine (less_any a b _).mono ?_
        rintro e v1 ⟨rfl, hb1⟩
        have hk1 := below_step HB.out (by repeat (first | exact Below.refl _ _ | assumption | refine Below.drew ?_ | refine below_alloc HB.out ?_ _)) hb1
        rw [HAB.out]
        clear c0 c1 c2 c3 c4 c5 d0 d1 d2 d3 d4 d5 f0 f1 f2 f3 f4 f5
        obtain ⟨⟨c0, c1, c2, c3, c4, c5⟩, ⟨d0, d1, d2, d3, d4, d5⟩, f0, f1, f2, f3, f4, f5⟩ := HSS.out _ hk1
        go_wp2_with fail
        clear c0 c1 c2 c3 c4 c5 d0 d1 d2 d3 d4 d5 f0 f1 f2 f3 f4 f5
        refine wp_region_sched [(0, true), (1, true), (2, true), (3, true), (4, true), (5, false), (6, true), (7, true), (8, true), (9, true), (10, false), (11, true), (12, true), (13, true), (14, true), (15, true), (16, true), (17, false), (18, true), (19, true), (20, true), (21, true), (22, false), (23, true), (24, true), (25, true), (26, true), (27, false), (28, true), (29, true)] (fun W => Below (w.heap.size + 3) w0 W) (by kernel_rfl) (by kernel_rfl) rfl (by kernel_rfl) (hk1.drew) ?_
        repeat (first | (apply sched_take rfl; (focus (first | rfl | (go_simp; done))); (focus (intro W hW; obtain ⟨⟨c0, c1, c2, c3, c4, c5⟩, ⟨d0, d1, d2, d3, d4, d5⟩, f0, f1, f2, f3, f4, f5⟩ := HSS.out W hW; go_simp; rfl)); (focus (intro K hK; go_simp; refine hK _ ?_; clear hK K))) | (apply sched_skip rfl; (focus (first | rfl | (go_simp; done))); (focus (intro K hK; go_simp; refine hK _ ?_; clear hK K))))
        apply sched_take rfl
        · rfl
        · intro W hW; obtain ⟨⟨c0, c1, c2, c3, c4, c5⟩, ⟨d0, d1, d2, d3, d4, d5⟩, f0, f1, f2, f3, f4, f5⟩ := HSS.out W hW; go_simp; exact (span_if HQ.out _ _).trans rfl
        intro K hK; go_simp; refine hK _ ?_; clear hK K
        repeat (first | (apply sched_take rfl; (focus (first | rfl | (go_simp; done))); (focus (intro W hW; obtain ⟨⟨c0, c1, c2, c3, c4, c5⟩, ⟨d0, d1, d2, d3, d4, d5⟩, f0, f1, f2, f3, f4, f5⟩ := HSS.out W hW; go_simp; rfl)); (focus (intro K hK; go_simp; refine hK _ ?_; clear hK K))) | (apply sched_skip rfl; (focus (first | rfl | (go_simp; done))); (focus (intro K hK; go_simp; refine hK _ ?_; clear hK K))))
        apply sched_op rfl
        intro K hK
        go_simp
        go_wp2_with (fail)
        refine (less_any a b _).mono ?_
        rintro e v2 ⟨rfl, hb2⟩
        have hk2 := below_step HB.out (by repeat (first | exact Below.refl _ _ | assumption | refine Below.drew ?_ | refine below_alloc HB.out ?_ _)) hb2
        rw [HAB.out]
        go_wp2_with fail
        refine ⟨by repeat (first | exact Below.refl _ _ | assumption | refine Below.drew ?_ | refine below_alloc HB.out ?_ _), ?_⟩
        repeat (first | (apply sched_take rfl; (focus (first | rfl | (go_simp; done))); (focus (intro W hW; obtain ⟨⟨c0, c1, c2, c3, c4, c5⟩, ⟨d0, d1, d2, d3, d4, d5⟩, f0, f1, f2, f3, f4, f5⟩ := HSS.out W hW; go_simp; rfl)); (focus (intro K hK; go_simp; refine hK _ ?_; clear hK K))) | (apply sched_skip rfl; (focus (first | rfl | (go_simp; done))); (focus (intro K hK; go_simp; refine hK _ ?_; clear hK K))))
        apply sched_op rfl
        intro K hK
        go_simp
        go_wp2_with (fail)
        refine (less_any b a _).mono ?_
        rintro e v3 ⟨rfl, hb3⟩
        have hk3 := below_step HB.out (by repeat (first | exact Below.refl _ _ | assumption | refine Below.drew ?_ | refine below_alloc HB.out ?_ _)) hb3
        rw [HBA.out]
        go_wp2_with fail
        refine ⟨by repeat (first | exact Below.refl _ _ | assumption | refine Below.drew ?_ | refine below_alloc HB.out ?_ _), ?_⟩
        repeat (first | (apply sched_take rfl; (focus (first | rfl | (go_simp; done))); (focus (intro W hW; obtain ⟨⟨c0, c1, c2, c3, c4, c5⟩, ⟨d0, d1, d2, d3, d4, d5⟩, f0, f1, f2, f3, f4, f5⟩ := HSS.out W hW; go_simp; rfl)); (focus (intro K hK; go_simp; refine hK _ ?_; clear hK K))) | (apply sched_skip rfl; (focus (first | rfl | (go_simp; done))); (focus (intro K hK; go_simp; refine hK _ ?_; clear hK K))))
        apply sched_op rfl
        intro K hK
        go_simp
        go_wp2_with (fail)
        refine (less_any a b _).mono ?_
        rintro e v4 ⟨rfl, hb4⟩
        have hk4 := below_step HB.out (by repeat (first | exact Below.refl _ _ | assumption | refine Below.drew ?_ | refine below_alloc HB.out ?_ _)) hb4
        rw [HAB.out]
        go_wp2_with fail
        refine ⟨by repeat (first | exact Below.refl _ _ | assumption | refine Below.drew ?_ | refine below_alloc HB.out ?_ _), ?_⟩
        repeat (first | (apply sched_take rfl; (focus (first | rfl | (go_simp; done))); (focus (intro W hW; obtain ⟨⟨c0, c1, c2, c3, c4, c5⟩, ⟨d0, d1, d2, d3, d4, d5⟩, f0, f1, f2, f3, f4, f5⟩ := HSS.out W hW; go_simp; rfl)); (focus (intro K hK; go_simp; refine hK _ ?_; clear hK K))) | (apply sched_skip rfl; (focus (first | rfl | (go_simp; done))); (focus (intro K hK; go_simp; refine hK _ ?_; clear hK K))))
        apply sched_op rfl
        intro K hK
        go_simp
        go_wp2_with (fail)
        refine (awake_any _).mono ?_
        rintro e v5 ⟨rfl, hb5⟩
        have hk5 := below_step HB.out (by repeat (first | exact Below.refl _ _ | assumption | refine Below.drew ?_ | refine below_alloc HB.out ?_ _)) hb5
        go_wp2_with fail
        refine ⟨by repeat (first | exact Below.refl _ _ | assumption | refine Below.drew ?_ | refine below_alloc HB.out ?_ _), ?_⟩
        repeat (first | (apply sched_take rfl; (focus (first | rfl | (go_simp; done))); (focus (intro W hW; obtain ⟨⟨c0, c1, c2, c3, c4, c5⟩, ⟨d0, d1, d2, d3, d4, d5⟩, f0, f1, f2, f3, f4, f5⟩ := HSS.out W hW; go_simp; rfl)); (focus (intro K hK; go_simp; refine hK _ ?_; clear hK K))) | (apply sched_skip rfl; (focus (first | rfl | (go_simp; done))); (focus (intro K hK; go_simp; refine hK _ ?_; clear hK K))))
        refine sched_nil ?_
        go_wp2_with fail
        go_ret
        exact ⟨rfl, hbw.trans (hk5.mono (by omega))⟩
      · have HBA := Lib.hid hba
        have HQ : Hid (QP false a b) := Lib.hid (by
          have h2 := of_decide_eq_true hba
          have h3 := isCmp_span.swap a b
          constructor
          · intro h; cases h
          · intro h; have := cmp_zero.2 h; omega)
        clear hab hba
        go_enter Try.func8, Try.ntmps8
        go_wp2_with fail
        rw [← HW0.out]
        refine (light_any _ _ _ _ [a, b, c] _ (by omega) HR.out).mono ?_
        rintro e w1 ⟨rfl, rfl⟩
        rw [HL.out]
        have hk0 : Below (w.heap.size + 3) w0 (w0.alloc _) := below_alloc HB.out (Below.refl _ _) (.cells #[.int .i64 a.tr, .int .i64 a.id, .int .i64 a.pa, .int .i64 a.st, .int .i64 a.en, .string a.nm, .int .i64 b.tr, .int .i64 b.id, .int .i64 b.pa, .int .i64 b.st, .int .i64 b.en, .string b.nm, .int .i64 c.tr, .int .i64 c.id, .int .i64 c.pa, .int .i64 c.st, .int .i64 c.en, .string c.nm] 23)
        obtain ⟨⟨c0, c1, c2, c3, c4, c5⟩, ⟨d0, d1, d2, d3, d4, d5⟩, f0, f1, f2, f3, f4, f5⟩ := HSS.out _ hk0
        go_wp2_with fail
        refine (less_any a b _).mono ?_
        rintro e v6 ⟨rfl, hb6⟩
        have hk6 := below_step HB.out (by repeat (first | exact Below.refl _ _ | assumption | refine Below.drew ?_ | refine below_alloc HB.out ?_ _)) hb6
        rw [HAB.out]
        clear c0 c1 c2 c3 c4 c5 d0 d1 d2 d3 d4 d5 f0 f1 f2 f3 f4 f5
        obtain ⟨⟨c0, c1, c2, c3, c4, c5⟩, ⟨d0, d1, d2, d3, d4, d5⟩, f0, f1, f2, f3, f4, f5⟩ := HSS.out _ hk6
        go_wp2_with fail
        clear c0 c1 c2 c3 c4 c5 d0 d1 d2 d3 d4 d5 f0 f1 f2 f3 f4 f5
        refine wp_region_sched [(0, true), (1, true), (2, true), (3, true), (4, true), (5, false), (6, true), (7, true), (8, true), (9, true), (10, false), (11, true), (12, true), (13, true), (14, true), (15, true), (16, true), (17, false), (18, true), (19, true), (20, true), (21, true), (22, false), (23, true), (24, true), (25, true), (26, true), (27, false), (28, true), (29, true)] (fun W => Below (w.heap.size + 3) w0 W) (by kernel_rfl) (by kernel_rfl) rfl (by kernel_rfl) (hk6.drew) ?_
        repeat (first | (apply sched_take rfl; (focus (first | rfl | (go_simp; done))); (focus (intro W hW; obtain ⟨⟨c0, c1, c2, c3, c4, c5⟩, ⟨d0, d1, d2, d3, d4, d5⟩, f0, f1, f2, f3, f4, f5⟩ := HSS.out W hW; go_simp; rfl)); (focus (intro K hK; go_simp; refine hK _ ?_; clear hK K))) | (apply sched_skip rfl; (focus (first | rfl | (go_simp; done))); (focus (intro K hK; go_simp; refine hK _ ?_; clear hK K))))
        apply sched_take rfl
        · rfl
        · intro W hW; obtain ⟨⟨c0, c1, c2, c3, c4, c5⟩, ⟨d0, d1, d2, d3, d4, d5⟩, f0, f1, f2, f3, f4, f5⟩ := HSS.out W hW; go_simp; exact (span_if HQ.out _ _).trans rfl
        intro K hK; go_simp; refine hK _ ?_; clear hK K
        repeat (first | (apply sched_take rfl; (focus (first | rfl | (go_simp; done))); (focus (intro W hW; obtain ⟨⟨c0, c1, c2, c3, c4, c5⟩, ⟨d0, d1, d2, d3, d4, d5⟩, f0, f1, f2, f3, f4, f5⟩ := HSS.out W hW; go_simp; rfl)); (focus (intro K hK; go_simp; refine hK _ ?_; clear hK K))) | (apply sched_skip rfl; (focus (first | rfl | (go_simp; done))); (focus (intro K hK; go_simp; refine hK _ ?_; clear hK K))))
        apply sched_op rfl
        intro K hK
        go_simp
        go_wp2_with (fail)
        refine (less_any a b _).mono ?_
        rintro e v7 ⟨rfl, hb7⟩
        have hk7 := below_step HB.out (by repeat (first | exact Below.refl _ _ | assumption | refine Below.drew ?_ | refine below_alloc HB.out ?_ _)) hb7
        rw [HAB.out]
        go_wp2_with fail
        refine ⟨by repeat (first | exact Below.refl _ _ | assumption | refine Below.drew ?_ | refine below_alloc HB.out ?_ _), ?_⟩
        repeat (first | (apply sched_take rfl; (focus (first | rfl | (go_simp; done))); (focus (intro W hW; obtain ⟨⟨c0, c1, c2, c3, c4, c5⟩, ⟨d0, d1, d2, d3, d4, d5⟩, f0, f1, f2, f3, f4, f5⟩ := HSS.out W hW; go_simp; rfl)); (focus (intro K hK; go_simp; refine hK _ ?_; clear hK K))) | (apply sched_skip rfl; (focus (first | rfl | (go_simp; done))); (focus (intro K hK; go_simp; refine hK _ ?_; clear hK K))))
        apply sched_op rfl
        intro K hK
        go_simp
        go_wp2_with (fail)
        refine (less_any b a _).mono ?_
        rintro e v8 ⟨rfl, hb8⟩
        have hk8 := below_step HB.out (by repeat (first | exact Below.refl _ _ | assumption | refine Below.drew ?_ | refine below_alloc HB.out ?_ _)) hb8
        rw [HBA.out]
        go_wp2_with fail
        refine ⟨by repeat (first | exact Below.refl _ _ | assumption | refine Below.drew ?_ | refine below_alloc HB.out ?_ _), ?_⟩
        repeat (first | (apply sched_take rfl; (focus (first | rfl | (go_simp; done))); (focus (intro W hW; obtain ⟨⟨c0, c1, c2, c3, c4, c5⟩, ⟨d0, d1, d2, d3, d4, d5⟩, f0, f1, f2, f3, f4, f5⟩ := HSS.out W hW; go_simp; rfl)); (focus (intro K hK; go_simp; refine hK _ ?_; clear hK K))) | (apply sched_skip rfl; (focus (first | rfl | (go_simp; done))); (focus (intro K hK; go_simp; refine hK _ ?_; clear hK K))))
        apply sched_op rfl
        intro K hK
        go_simp
        go_wp2_with (fail)
        refine (less_any a b _).mono ?_
        rintro e v9 ⟨rfl, hb9⟩
        have hk9 := below_step HB.out (by repeat (first | exact Below.refl _ _ | assumption | refine Below.drew ?_ | refine below_alloc HB.out ?_ _)) hb9
        rw [HAB.out]
        go_wp2_with fail
        refine ⟨by repeat (first | exact Below.refl _ _ | assumption | refine Below.drew ?_ | refine below_alloc HB.out ?_ _), ?_⟩
        repeat (first | (apply sched_take rfl; (focus (first | rfl | (go_simp; done))); (focus (intro W hW; obtain ⟨⟨c0, c1, c2, c3, c4, c5⟩, ⟨d0, d1, d2, d3, d4, d5⟩, f0, f1, f2, f3, f4, f5⟩ := HSS.out W hW; go_simp; rfl)); (focus (intro K hK; go_simp; refine hK _ ?_; clear hK K))) | (apply sched_skip rfl; (focus (first | rfl | (go_simp; done))); (focus (intro K hK; go_simp; refine hK _ ?_; clear hK K))))
        apply sched_op rfl
        intro K hK
        go_simp
        go_wp2_with (fail)
        refine (awake_any _).mono ?_
        rintro e v10 ⟨rfl, hb10⟩
        have hk10 := below_step HB.out (by repeat (first | exact Below.refl _ _ | assumption | refine Below.drew ?_ | refine below_alloc HB.out ?_ _)) hb10
        go_wp2_with fail
        refine ⟨by repeat (first | exact Below.refl _ _ | assumption | refine Below.drew ?_ | refine below_alloc HB.out ?_ _), ?_⟩
        repeat (first | (apply sched_take rfl; (focus (first | rfl | (go_simp; done))); (focus (intro W hW; obtain ⟨⟨c0, c1, c2, c3, c4, c5⟩, ⟨d0, d1, d2, d3, d4, d5⟩, f0, f1, f2, f3, f4, f5⟩ := HSS.out W hW; go_simp; rfl)); (focus (intro K hK; go_simp; refine hK _ ?_; clear hK K))) | (apply sched_skip rfl; (focus (first | rfl | (go_simp; done))); (focus (intro K hK; go_simp; refine hK _ ?_; clear hK K))))
        refine sched_nil ?_
        go_wp2_with fail
        go_ret
        exact ⟨rfl, hbw.trans (hk10.mono (by omega))⟩
    · have HAB := Lib.hid hab
      have HBA : Hid (decide (b.cmp a < 0) = false) := Lib.hid (by
        have h1 := of_decide_eq_true hab
        have h3 := isCmp_span.swap a b
        exact decide_eq_false (by omega))
      have HQ : Hid (QP false a b) := Lib.hid (by
        have h2 := of_decide_eq_true hab
        constructor
        · intro h; cases h
        · intro h; have := cmp_zero.2 h; omega)
      cases hbc : decide (b.cmp c < 0)
      · have HBC := Lib.hid hbc
        clear hab hbc
        go_enter Try.func8, Try.ntmps8
        go_wp2_with fail
        rw [← HW0.out]
        refine (light_any _ _ _ _ [a, b, c] _ (by omega) HR.out).mono ?_
        rintro e w1 ⟨rfl, rfl⟩
        rw [HL.out]
        have hk0 : Below (w.heap.size + 3) w0 (w0.alloc _) := below_alloc HB.out (Below.refl _ _) (.cells #[.int .i64 a.tr, .int .i64 a.id, .int .i64 a.pa, .int .i64 a.st, .int .i64 a.en, .string a.nm, .int .i64 b.tr, .int .i64 b.id, .int .i64 b.pa, .int .i64 b.st, .int .i64 b.en, .string b.nm, .int .i64 c.tr, .int .i64 c.id, .int .i64 c.pa, .int .i64 c.st, .int .i64 c.en, .string c.nm] 23)
        obtain ⟨⟨c0, c1, c2, c3, c4, c5⟩, ⟨d0, d1, d2, d3, d4, d5⟩, f0, f1, f2, f3, f4, f5⟩ := HSS.out _ hk0
        go_wp2_with fail
        refine (less_any a b _).mono ?_
        rintro e v11 ⟨rfl, hb11⟩
        have hk11 := below_step HB.out (by repeat (first | exact Below.refl _ _ | assumption | refine Below.drew ?_ | refine below_alloc HB.out ?_ _)) hb11
        rw [HAB.out]
        clear c0 c1 c2 c3 c4 c5 d0 d1 d2 d3 d4 d5 f0 f1 f2 f3 f4 f5
        obtain ⟨⟨c0, c1, c2, c3, c4, c5⟩, ⟨d0, d1, d2, d3, d4, d5⟩, f0, f1, f2, f3, f4, f5⟩ := HSS.out _ hk11
        go_wp2_with fail
        refine (less_any b c _).mono ?_
        rintro e v12 ⟨rfl, hb12⟩
        have hk12 := below_step HB.out (by repeat (first | exact Below.refl _ _ | assumption | refine Below.drew ?_ | refine below_alloc HB.out ?_ _)) hb12
        rw [HBC.out]
        clear c0 c1 c2 c3 c4 c5 d0 d1 d2 d3 d4 d5 f0 f1 f2 f3 f4 f5
        obtain ⟨⟨c0, c1, c2, c3, c4, c5⟩, ⟨d0, d1, d2, d3, d4, d5⟩, f0, f1, f2, f3, f4, f5⟩ := HSS.out _ hk12
        go_wp2_with fail
        clear c0 c1 c2 c3 c4 c5 d0 d1 d2 d3 d4 d5 f0 f1 f2 f3 f4 f5
        refine wp_region_sched [(0, true), (1, true), (2, true), (3, true), (4, true), (5, false), (6, true), (7, true), (8, true), (9, true), (10, false), (11, true), (12, true), (13, true), (14, true), (15, true), (16, true), (17, false), (18, true), (19, true), (20, true), (21, true), (22, false), (23, true), (24, true), (25, true), (26, true), (27, false), (28, true), (29, true)] (fun W => Below (w.heap.size + 3) w0 W) (by kernel_rfl) (by kernel_rfl) rfl (by kernel_rfl) (hk12.drew) ?_
        repeat (first | (apply sched_take rfl; (focus (first | rfl | (go_simp; done))); (focus (intro W hW; obtain ⟨⟨c0, c1, c2, c3, c4, c5⟩, ⟨d0, d1, d2, d3, d4, d5⟩, f0, f1, f2, f3, f4, f5⟩ := HSS.out W hW; go_simp; rfl)); (focus (intro K hK; go_simp; refine hK _ ?_; clear hK K))) | (apply sched_skip rfl; (focus (first | rfl | (go_simp; done))); (focus (intro K hK; go_simp; refine hK _ ?_; clear hK K))))
        apply sched_take rfl
        · rfl
        · intro W hW; obtain ⟨⟨c0, c1, c2, c3, c4, c5⟩, ⟨d0, d1, d2, d3, d4, d5⟩, f0, f1, f2, f3, f4, f5⟩ := HSS.out W hW; go_simp; exact (span_if HQ.out _ _).trans rfl
        intro K hK; go_simp; refine hK _ ?_; clear hK K
        repeat (first | (apply sched_take rfl; (focus (first | rfl | (go_simp; done))); (focus (intro W hW; obtain ⟨⟨c0, c1, c2, c3, c4, c5⟩, ⟨d0, d1, d2, d3, d4, d5⟩, f0, f1, f2, f3, f4, f5⟩ := HSS.out W hW; go_simp; rfl)); (focus (intro K hK; go_simp; refine hK _ ?_; clear hK K))) | (apply sched_skip rfl; (focus (first | rfl | (go_simp; done))); (focus (intro K hK; go_simp; refine hK _ ?_; clear hK K))))
        apply sched_op rfl
        intro K hK
        go_simp
        go_wp2_with (fail)
        refine (less_any a b _).mono ?_
        rintro e v13 ⟨rfl, hb13⟩
        have hk13 := below_step HB.out (by repeat (first | exact Below.refl _ _ | assumption | refine Below.drew ?_ | refine below_alloc HB.out ?_ _)) hb13
        rw [HAB.out]
        go_wp2_with fail
        refine ⟨by repeat (first | exact Below.refl _ _ | assumption | refine Below.drew ?_ | refine below_alloc HB.out ?_ _), ?_⟩
        repeat (first | (apply sched_take rfl; (focus (first | rfl | (go_simp; done))); (focus (intro W hW; obtain ⟨⟨c0, c1, c2, c3, c4, c5⟩, ⟨d0, d1, d2, d3, d4, d5⟩, f0, f1, f2, f3, f4, f5⟩ := HSS.out W hW; go_simp; rfl)); (focus (intro K hK; go_simp; refine hK _ ?_; clear hK K))) | (apply sched_skip rfl; (focus (first | rfl | (go_simp; done))); (focus (intro K hK; go_simp; refine hK _ ?_; clear hK K))))
        apply sched_op rfl
        intro K hK
        go_simp
        go_wp2_with (fail)
        refine (less_any a b _).mono ?_
        rintro e v14 ⟨rfl, hb14⟩
        have hk14 := below_step HB.out (by repeat (first | exact Below.refl _ _ | assumption | refine Below.drew ?_ | refine below_alloc HB.out ?_ _)) hb14
        rw [HAB.out]
        go_wp2_with fail
        refine ⟨by repeat (first | exact Below.refl _ _ | assumption | refine Below.drew ?_ | refine below_alloc HB.out ?_ _), ?_⟩
        repeat (first | (apply sched_take rfl; (focus (first | rfl | (go_simp; done))); (focus (intro W hW; obtain ⟨⟨c0, c1, c2, c3, c4, c5⟩, ⟨d0, d1, d2, d3, d4, d5⟩, f0, f1, f2, f3, f4, f5⟩ := HSS.out W hW; go_simp; rfl)); (focus (intro K hK; go_simp; refine hK _ ?_; clear hK K))) | (apply sched_skip rfl; (focus (first | rfl | (go_simp; done))); (focus (intro K hK; go_simp; refine hK _ ?_; clear hK K))))
        apply sched_op rfl
        intro K hK
        go_simp
        go_wp2_with (fail)
        refine (less_any b a _).mono ?_
        rintro e v15 ⟨rfl, hb15⟩
        have hk15 := below_step HB.out (by repeat (first | exact Below.refl _ _ | assumption | refine Below.drew ?_ | refine below_alloc HB.out ?_ _)) hb15
        rw [HBA.out]
        go_wp2_with fail
        refine ⟨by repeat (first | exact Below.refl _ _ | assumption | refine Below.drew ?_ | refine below_alloc HB.out ?_ _), ?_⟩
        repeat (first | (apply sched_take rfl; (focus (first | rfl | (go_simp; done))); (focus (intro W hW; obtain ⟨⟨c0, c1, c2, c3, c4, c5⟩, ⟨d0, d1, d2, d3, d4, d5⟩, f0, f1, f2, f3, f4, f5⟩ := HSS.out W hW; go_simp; rfl)); (focus (intro K hK; go_simp; refine hK _ ?_; clear hK K))) | (apply sched_skip rfl; (focus (first | rfl | (go_simp; done))); (focus (intro K hK; go_simp; refine hK _ ?_; clear hK K))))
        apply sched_op rfl
        intro K hK
        go_simp
        go_wp2_with (fail)
        refine (awake_any _).mono ?_
        rintro e v16 ⟨rfl, hb16⟩
        have hk16 := below_step HB.out (by repeat (first | exact Below.refl _ _ | assumption | refine Below.drew ?_ | refine below_alloc HB.out ?_ _)) hb16
        go_wp2_with fail
        refine ⟨by repeat (first | exact Below.refl _ _ | assumption | refine Below.drew ?_ | refine below_alloc HB.out ?_ _), ?_⟩
        repeat (first | (apply sched_take rfl; (focus (first | rfl | (go_simp; done))); (focus (intro W hW; obtain ⟨⟨c0, c1, c2, c3, c4, c5⟩, ⟨d0, d1, d2, d3, d4, d5⟩, f0, f1, f2, f3, f4, f5⟩ := HSS.out W hW; go_simp; rfl)); (focus (intro K hK; go_simp; refine hK _ ?_; clear hK K))) | (apply sched_skip rfl; (focus (first | rfl | (go_simp; done))); (focus (intro K hK; go_simp; refine hK _ ?_; clear hK K))))
        refine sched_nil ?_
        go_wp2_with fail
        go_ret
        exact ⟨rfl, hbw.trans (hk16.mono (by omega))⟩
      · have HBC := Lib.hid hbc
        have HAC : Hid (decide (a.cmp c < 0) = true) := Lib.hid (decide_eq_true (cmp_strict (of_decide_eq_true hab) (of_decide_eq_true hbc)))
        clear hab hbc
        go_enter Try.func8, Try.ntmps8
        go_wp2_with fail
        rw [← HW0.out]
        refine (light_any _ _ _ _ [a, b, c] _ (by omega) HR.out).mono ?_
        rintro e w1 ⟨rfl, rfl⟩
        rw [HL.out]
        have hk0 : Below (w.heap.size + 3) w0 (w0.alloc _) := below_alloc HB.out (Below.refl _ _) (.cells #[.int .i64 a.tr, .int .i64 a.id, .int .i64 a.pa, .int .i64 a.st, .int .i64 a.en, .string a.nm, .int .i64 b.tr, .int .i64 b.id, .int .i64 b.pa, .int .i64 b.st, .int .i64 b.en, .string b.nm, .int .i64 c.tr, .int .i64 c.id, .int .i64 c.pa, .int .i64 c.st, .int .i64 c.en, .string c.nm] 23)
        obtain ⟨⟨c0, c1, c2, c3, c4, c5⟩, ⟨d0, d1, d2, d3, d4, d5⟩, f0, f1, f2, f3, f4, f5⟩ := HSS.out _ hk0
        go_wp2_with fail
        refine (less_any a b _).mono ?_
        rintro e v17 ⟨rfl, hb17⟩
        have hk17 := below_step HB.out (by repeat (first | exact Below.refl _ _ | assumption | refine Below.drew ?_ | refine below_alloc HB.out ?_ _)) hb17
        rw [HAB.out]
        clear c0 c1 c2 c3 c4 c5 d0 d1 d2 d3 d4 d5 f0 f1 f2 f3 f4 f5
        obtain ⟨⟨c0, c1, c2, c3, c4, c5⟩, ⟨d0, d1, d2, d3, d4, d5⟩, f0, f1, f2, f3, f4, f5⟩ := HSS.out _ hk17
        go_wp2_with fail
        refine (less_any b c _).mono ?_
        rintro e v18 ⟨rfl, hb18⟩
        have hk18 := below_step HB.out (by repeat (first | exact Below.refl _ _ | assumption | refine Below.drew ?_ | refine below_alloc HB.out ?_ _)) hb18
        rw [HBC.out]
        clear c0 c1 c2 c3 c4 c5 d0 d1 d2 d3 d4 d5 f0 f1 f2 f3 f4 f5
        obtain ⟨⟨c0, c1, c2, c3, c4, c5⟩, ⟨d0, d1, d2, d3, d4, d5⟩, f0, f1, f2, f3, f4, f5⟩ := HSS.out _ hk18
        go_wp2_with fail
        refine (less_any a c _).mono ?_
        rintro e v19 ⟨rfl, hb19⟩
        have hk19 := below_step HB.out (by repeat (first | exact Below.refl _ _ | assumption | refine Below.drew ?_ | refine below_alloc HB.out ?_ _)) hb19
        rw [HAC.out]
        clear c0 c1 c2 c3 c4 c5 d0 d1 d2 d3 d4 d5 f0 f1 f2 f3 f4 f5
        obtain ⟨⟨c0, c1, c2, c3, c4, c5⟩, ⟨d0, d1, d2, d3, d4, d5⟩, f0, f1, f2, f3, f4, f5⟩ := HSS.out _ hk19
        go_wp2_with fail
        clear c0 c1 c2 c3 c4 c5 d0 d1 d2 d3 d4 d5 f0 f1 f2 f3 f4 f5
        refine wp_region_sched [(0, true), (1, true), (2, true), (3, true), (4, true), (5, false), (6, true), (7, true), (8, true), (9, true), (10, false), (11, true), (12, true), (13, true), (14, true), (15, true), (16, true), (17, false), (18, true), (19, true), (20, true), (21, true), (22, false), (23, true), (24, true), (25, true), (26, true), (27, false), (28, true), (29, true)] (fun W => Below (w.heap.size + 3) w0 W) (by kernel_rfl) (by kernel_rfl) rfl (by kernel_rfl) (hk19.drew) ?_
        repeat (first | (apply sched_take rfl; (focus (first | rfl | (go_simp; done))); (focus (intro W hW; obtain ⟨⟨c0, c1, c2, c3, c4, c5⟩, ⟨d0, d1, d2, d3, d4, d5⟩, f0, f1, f2, f3, f4, f5⟩ := HSS.out W hW; go_simp; rfl)); (focus (intro K hK; go_simp; refine hK _ ?_; clear hK K))) | (apply sched_skip rfl; (focus (first | rfl | (go_simp; done))); (focus (intro K hK; go_simp; refine hK _ ?_; clear hK K))))
        apply sched_take rfl
        · rfl
        · intro W hW; obtain ⟨⟨c0, c1, c2, c3, c4, c5⟩, ⟨d0, d1, d2, d3, d4, d5⟩, f0, f1, f2, f3, f4, f5⟩ := HSS.out W hW; go_simp; exact (span_if HQ.out _ _).trans rfl
        intro K hK; go_simp; refine hK _ ?_; clear hK K
        repeat (first | (apply sched_take rfl; (focus (first | rfl | (go_simp; done))); (focus (intro W hW; obtain ⟨⟨c0, c1, c2, c3, c4, c5⟩, ⟨d0, d1, d2, d3, d4, d5⟩, f0, f1, f2, f3, f4, f5⟩ := HSS.out W hW; go_simp; rfl)); (focus (intro K hK; go_simp; refine hK _ ?_; clear hK K))) | (apply sched_skip rfl; (focus (first | rfl | (go_simp; done))); (focus (intro K hK; go_simp; refine hK _ ?_; clear hK K))))
        apply sched_op rfl
        intro K hK
        go_simp
        go_wp2_with (fail)
        refine (less_any a b _).mono ?_
        rintro e v20 ⟨rfl, hb20⟩
        have hk20 := below_step HB.out (by repeat (first | exact Below.refl _ _ | assumption | refine Below.drew ?_ | refine below_alloc HB.out ?_ _)) hb20
        rw [HAB.out]
        go_wp2_with fail
        refine ⟨by repeat (first | exact Below.refl _ _ | assumption | refine Below.drew ?_ | refine below_alloc HB.out ?_ _), ?_⟩
        repeat (first | (apply sched_take rfl; (focus (first | rfl | (go_simp; done))); (focus (intro W hW; obtain ⟨⟨c0, c1, c2, c3, c4, c5⟩, ⟨d0, d1, d2, d3, d4, d5⟩, f0, f1, f2, f3, f4, f5⟩ := HSS.out W hW; go_simp; rfl)); (focus (intro K hK; go_simp; refine hK _ ?_; clear hK K))) | (apply sched_skip rfl; (focus (first | rfl | (go_simp; done))); (focus (intro K hK; go_simp; refine hK _ ?_; clear hK K))))
        apply sched_op rfl
        intro K hK
        go_simp
        go_wp2_with (fail)
        refine (less_any a b _).mono ?_
        rintro e v21 ⟨rfl, hb21⟩
        have hk21 := below_step HB.out (by repeat (first | exact Below.refl _ _ | assumption | refine Below.drew ?_ | refine below_alloc HB.out ?_ _)) hb21
        rw [HAB.out]
        go_wp2_with fail
        refine ⟨by repeat (first | exact Below.refl _ _ | assumption | refine Below.drew ?_ | refine below_alloc HB.out ?_ _), ?_⟩
        repeat (first | (apply sched_take rfl; (focus (first | rfl | (go_simp; done))); (focus (intro W hW; obtain ⟨⟨c0, c1, c2, c3, c4, c5⟩, ⟨d0, d1, d2, d3, d4, d5⟩, f0, f1, f2, f3, f4, f5⟩ := HSS.out W hW; go_simp; rfl)); (focus (intro K hK; go_simp; refine hK _ ?_; clear hK K))) | (apply sched_skip rfl; (focus (first | rfl | (go_simp; done))); (focus (intro K hK; go_simp; refine hK _ ?_; clear hK K))))
        apply sched_op rfl
        intro K hK
        go_simp
        go_wp2_with (fail)
        refine (less_any b a _).mono ?_
        rintro e v22 ⟨rfl, hb22⟩
        have hk22 := below_step HB.out (by repeat (first | exact Below.refl _ _ | assumption | refine Below.drew ?_ | refine below_alloc HB.out ?_ _)) hb22
        rw [HBA.out]
        go_wp2_with fail
        refine ⟨by repeat (first | exact Below.refl _ _ | assumption | refine Below.drew ?_ | refine below_alloc HB.out ?_ _), ?_⟩
        repeat (first | (apply sched_take rfl; (focus (first | rfl | (go_simp; done))); (focus (intro W hW; obtain ⟨⟨c0, c1, c2, c3, c4, c5⟩, ⟨d0, d1, d2, d3, d4, d5⟩, f0, f1, f2, f3, f4, f5⟩ := HSS.out W hW; go_simp; rfl)); (focus (intro K hK; go_simp; refine hK _ ?_; clear hK K))) | (apply sched_skip rfl; (focus (first | rfl | (go_simp; done))); (focus (intro K hK; go_simp; refine hK _ ?_; clear hK K))))
        apply sched_op rfl
        intro K hK
        go_simp
        go_wp2_with (fail)
        refine (awake_any _).mono ?_
        rintro e v23 ⟨rfl, hb23⟩
        have hk23 := below_step HB.out (by repeat (first | exact Below.refl _ _ | assumption | refine Below.drew ?_ | refine below_alloc HB.out ?_ _)) hb23
        go_wp2_with fail
        refine ⟨by repeat (first | exact Below.refl _ _ | assumption | refine Below.drew ?_ | refine below_alloc HB.out ?_ _), ?_⟩
        repeat (first | (apply sched_take rfl; (focus (first | rfl | (go_simp; done))); (focus (intro W hW; obtain ⟨⟨c0, c1, c2, c3, c4, c5⟩, ⟨d0, d1, d2, d3, d4, d5⟩, f0, f1, f2, f3, f4, f5⟩ := HSS.out W hW; go_simp; rfl)); (focus (intro K hK; go_simp; refine hK _ ?_; clear hK K))) | (apply sched_skip rfl; (focus (first | rfl | (go_simp; done))); (focus (intro K hK; go_simp; refine hK _ ?_; clear hK K))))
        refine sched_nil ?_
        go_wp2_with fail
        go_ret
        exact ⟨rfl, hbw.trans (hk23.mono (by omega))⟩
end Go.Proofs.Ytgdhbklgcmcdeaa
