/-
  The walk of the forest laws' example: it answers true. No condition.
-/
import Derived.Test.YtnocknhfdegkgaaForest2
import Derived.Test.YtnocknhfdegkgaaForest4
import Derived.Test.YtnocknhfdegkgaaLight04
namespace Go.Proofs.Ytnocknhfdegkgaa
open Go Go.RowKit Go.Maps

/-- A span of trace 1. -/
def ofS (id pa : Int) : Sp := ⟨1, id, pa, 0, 0, ⟨#[97]⟩⟩
set_option maxRecDepth 100000 in
set_option maxHeartbeats 400000 in
theorem of_any (id pa : Int) (w : World) :
    Calls Try.prog 16 #[.int .i64 id, .int .i64 pa] w fun e w' => e = .returned (.agg #[.int .i64 1, .int .i64 id, .int .i64 pa, .int .i64 0, .int .i64 0, .string ⟨#[97]⟩]) ∧ Below w.heap.size w w' := by
  go_enter Try.func16, Try.ntmps16
  go_wp2_with fail
  refine bodyPost_ret (v := .agg #[.int .i64 1, .int .i64 id, .int .i64 pa, .int .i64 0, .int .i64 0, .string ⟨#[97]⟩]) (by simp [results, Try.results16, go_sem]) rfl ⟨rfl, ?_⟩
  exact (Below.refl _ _).alloc (Nat.le_refl _) _
def exL : List Sp := [ofS 2 0, ofS 3 2, ofS 4 9]
theorem ex_add : addA 1 [] exL = (exL, ⟨3, 0, 0, 0, 0⟩, 0) := by kernel_rfl
theorem ex_cyc : addA 1 exL [ofS 9 4] = (exL, ⟨0, 0, 0, 1, 0⟩, 0) := by kernel_rfl
theorem sortS_one (s : Sp) : sortS [s] = [s] := sortS_of (by simp)
theorem sortS_nil : sortS [] = [] := List.length_eq_zero_iff.1 (sortS_len [])
theorem ex_br : branches exL = [⟨0, false, ofS 2 0⟩, ⟨1, false, ofS 3 2⟩, ⟨0, true, ofS 4 9⟩] := by
  have k0 : kidIds exL 0 = [2] := by kernel_rfl
  have k2 : kidIds exL 2 = [3] := by kernel_rfl
  have k3 : kidIds exL 3 = [] := by kernel_rfl
  have k4 : kidIds exL 4 = [] := by kernel_rfl
  have lo : lost exL = [4] := by kernel_rfl
  have g2 : getS exL 2 = ofS 2 0 := by kernel_rfl
  have g3 : getS exL 3 = ofS 3 2 := by kernel_rfl
  have g4 : getS exL 4 = ofS 4 9 := by kernel_rfl
  rw [branches, k0, lo]
  show layL exL 4 0 false [2] ++ layL exL 4 0 true [4] = _
  have a3 : layL exL 3 1 false (kidIds exL (ofS 2 0).id) = [⟨1, false, ofS 3 2⟩] := by
    show layL exL 3 1 false (kidIds exL 2) = _
    rw [k2, layL]
    simp only [List.map_cons, List.map_nil, g3, sortS_one, List.flatMap_cons, List.flatMap_nil, List.append_nil]
    show _ :: layL exL 2 2 false (kidIds exL 3) = _
    rw [k3, layL_nil]
  have a4 : layL exL 3 1 false (kidIds exL (ofS 4 9).id) = [] := by
    show layL exL 3 1 false (kidIds exL 4) = _
    rw [k4, layL_nil]
  rw [layL, layL]
  simp only [List.map_cons, List.map_nil, g2, g4, sortS_one, List.flatMap_cons, List.flatMap_nil, List.append_nil]
  rw [a3, a4]
  rfl

set_option maxRecDepth 100000 in
set_option maxHeartbeats 4000000 in
theorem awake4_any (w : World) : Calls Try.prog 13 #[] w fun e w' => e = .returned (.bool true) ∧ Below w.heap.size w w' := by
  go_enter Try.func13, Try.ntmps13
  go_wp2_with fail
  refine (new_any 1 w ⟨by omega, by omega⟩).mono ?_
  rintro e w1 ⟨p, a, d, rfl, hf1, hb1⟩
  have HF1 := Lib.hid hf1
  have HB1 := Lib.hid hb1
  have hz1 := hb1.size
  clear hf1 hb1
  go_wp2_with fail
  refine (of_any 2 0 w1).mono ?_
  rintro e w2 ⟨rfl, hb2⟩
  have hz2 := hb2.size
  have HB2 := Lib.hid hb2
  clear hb2
  go_wp2_with fail
  refine (of_any 3 2 w2).mono ?_
  rintro e w3 ⟨rfl, hb3⟩
  have hz3 := hb3.size
  have HB3 := Lib.hid hb3
  clear hb3
  go_wp2_with fail
  refine (of_any 4 9 w3).mono ?_
  rintro e w4 ⟨rfl, hb4⟩
  have hz4 := hb4.size
  have HB4 : Hid (Below w1.heap.size w1 w4) := Lib.hid (HB2.out.trans ((HB3.out.mono hz2).trans (hb4.mono (by omega))))
  clear hb4
  go_wp2_with fail
  have hb5 : Below w1.heap.size w1 (w4.alloc (.cells #[.int .i64 1, .int .i64 2, .int .i64 0, .int .i64 0, .int .i64 0, .string ⟨#[97]⟩, .int .i64 1, .int .i64 3, .int .i64 2, .int .i64 0, .int .i64 0, .string ⟨#[97]⟩, .int .i64 1, .int .i64 4, .int .i64 9, .int .i64 0, .int .i64 0, .string ⟨#[97]⟩] 30)) := HB4.out.alloc (by omega) _
  have hr5 : RdS (w4.alloc (.cells #[.int .i64 1, .int .i64 2, .int .i64 0, .int .i64 0, .int .i64 0, .string ⟨#[97]⟩, .int .i64 1, .int .i64 3, .int .i64 2, .int .i64 0, .int .i64 0, .string ⟨#[97]⟩, .int .i64 1, .int .i64 4, .int .i64 9, .int .i64 0, .int .i64 0, .string ⟨#[97]⟩] 30)) (w4.heap.size + 1) (some ⟨w4.heap.size, 0, none⟩) 3 exL := rd_newL (w := w4) rfl (n := 3) (sz := 6) (xs := exL.flatMap Sp.cells) rfl rfl
  refine (add_any (HF1.out.below hb5 (Nat.le_refl _)) (some ⟨w4.heap.size, 0, none⟩) 3 3 (w4.heap.size + 1) exL (by simp) (by omega) (by intro s hs; simp [exL] at hs; rcases hs with rfl | rfl | rfl <;> decide) hr5 (by
    intro k hk hs
    have := Option.some.inj hk
    simp only at this hs
    omega)).mono ?_
  rw [ex_add]
  rintro e w5 ⟨rfl, hf5, hfr5⟩
  dsimp only at hf5 hfr5 ⊢
  have hz5 := hfr5.size
  simp at hz5
  have HF5 := Lib.hid hf5
  have HB5 : Hid (Below w.heap.size w w5) := Lib.hid (HB1.out.trans ((hb5.mono hz1).trans (hfr5.below (by simp <;> omega) (fun k hk => hk.1))))
  clear hf5 hfr5 hb5 hr5
  go_wp2_with fail
  have HF6 : Hid (Fo (w5.alloc (.cells #[.int .i64 3, .int .i64 0, .int .i64 0, .int .i64 0, .int .i64 0] 33)) p a d 1 exL _) := Lib.hid (HF5.out.below ((Below.refl _ _).alloc (Nat.le_refl _) _) (Nat.le_refl _))
  refine (of_any 9 4 _).mono ?_
  rintro e w6 ⟨rfl, hb6⟩
  have hz6 := hb6.size
  simp at hz6
  have hc6 : w6.heap[w5.heap.size]? = some (.cells #[.int .i64 3, .int .i64 0, .int .i64 0, .int .i64 0, .int .i64 0] 33 (0, 0)) := blk_below hb6 (by simp) (heap_alloc_new w5 _)
  have HC6 := Lib.hid hc6
  have HF7 : Hid (Fo w6 p a d 1 exL _) := Lib.hid (HF6.out.below hb6 (Nat.le_refl _))
  have HB6 : Hid (Below w.heap.size w w6) := Lib.hid ((HB5.out.alloc HB5.out.size _).trans (hb6.mono (by have := HB5.out.size; simp <;> omega)))
  clear hb6 hc6
  go_wp2_with fail
  have hb7 : Below w6.heap.size w6 (w6.alloc (.cells #[.int .i64 1, .int .i64 9, .int .i64 4, .int .i64 0, .int .i64 0, .string ⟨#[97]⟩] 30)) := (Below.refl _ _).alloc (Nat.le_refl _) _
  have hr7 : RdS (w6.alloc (.cells #[.int .i64 1, .int .i64 9, .int .i64 4, .int .i64 0, .int .i64 0, .string ⟨#[97]⟩] 30)) (w6.heap.size + 1) (some ⟨w6.heap.size, 0, none⟩) 1 [ofS 9 4] := rd_newL (w := w6) rfl (n := 1) (sz := 6) (xs := [ofS 9 4].flatMap Sp.cells) rfl rfl
  refine (add_any (HF7.out.below hb7 (Nat.le_refl _)) (some ⟨w6.heap.size, 0, none⟩) 1 1 (w6.heap.size + 1) [ofS 9 4] (by simp) (by omega) (by intro s hs; simp at hs; subst hs; decide) hr7 (by
    intro k hk hs
    have := Option.some.inj hk
    have h5 := HF7.out.lt k hs
    simp only at this
    omega)).mono ?_
  rw [ex_cyc]
  rintro e w8 ⟨rfl, hf8, hfr8⟩
  dsimp only at hf8 hfr8 ⊢
  have hz8 := hfr8.size
  simp at hz8
  have hc8 : w8.heap[w5.heap.size]? = some (.cells #[.int .i64 3, .int .i64 0, .int .i64 0, .int .i64 0, .int .i64 0] 33 (0, 0)) := (hfr8.block _ (by simp <;> omega) (fun hs => by have := HF5.out.lt _ hs; omega)).trans ((Below.heap_alloc _ _ _ (by omega)).trans HC6.out)
  have HC8 := Lib.hid hc8
  have HF8 := Lib.hid hf8
  have HB8 : Hid (Below w.heap.size w w8) := Lib.hid (HB6.out.trans ((hb7.mono HB6.out.size).trans (hfr8.below (by have := HB6.out.size; simp <;> omega) (fun k hk => by
    rcases hk with ⟨h1, _⟩ | ⟨h1, _⟩
    · exact h1
    · simp at h1; omega))))
  clear hf8 hfr8 hc8 hb7 hr7
  go_wp2_with fail
  have hb9 : Below w8.heap.size w8 (w8.alloc (.cells #[.int .i64 0, .int .i64 0, .int .i64 0, .int .i64 1, .int .i64 0] 33)) := (Below.refl _ _).alloc (Nat.le_refl _) _
  refine (branches_any (HF8.out.below hb9 (Nat.le_refl _))).mono ?_
  rw [ex_br]
  rintro e w9 ⟨A9, c9, rfl, hown9, hbl9⟩
  obtain ⟨g, rfl, hg1, hg2⟩ := own_form hown9 (by decide)
  have hz9 := hbl9.size
  simp at hz9
  have hc1 : w9.heap[w5.heap.size]? = some (.cells #[.int .i64 3, .int .i64 0, .int .i64 0, .int .i64 0, .int .i64 0] 33 (0, 0)) := (hbl9.block _ (by simp <;> omega)).trans ((Below.heap_alloc _ _ _ (by omega)).trans HC8.out)
  have hc2 : w9.heap[w8.heap.size]? = some (.cells #[.int .i64 0, .int .i64 0, .int .i64 0, .int .i64 1, .int .i64 0] 33 (0, 0)) := (hbl9.block _ (by simp)).trans (heap_alloc_new w8 _)
  have HS : Hid (∀ W, Below w9.heap.size w9 W → W.cell? ⟨w5.heap.size, 0, none⟩ = some (.int .i64 3) ∧ W.cell? ⟨w5.heap.size, 1, none⟩ = some (.int .i64 0) ∧ W.cell? ⟨w5.heap.size, 2, none⟩ = some (.int .i64 0) ∧ W.cell? ⟨w5.heap.size, 3, none⟩ = some (.int .i64 0) ∧ W.cell? ⟨w5.heap.size, 4, none⟩ = some (.int .i64 0) ∧ W.cell? ⟨w8.heap.size, 0, none⟩ = some (.int .i64 0) ∧ W.cell? ⟨w8.heap.size, 1, none⟩ = some (.int .i64 0) ∧ W.cell? ⟨w8.heap.size, 2, none⟩ = some (.int .i64 0) ∧ W.cell? ⟨w8.heap.size, 3, none⟩ = some (.int .i64 1) ∧ W.cell? ⟨w8.heap.size, 4, none⟩ = some (.int .i64 0) ∧ W.cell? ⟨g, 8, none⟩ = some (.int .i64 1) ∧ W.cell? ⟨g, 9, none⟩ = some (.bool false) ∧ W.cell? ⟨g, 10, none⟩ = some (.int .i64 1) ∧ W.cell? ⟨g, 11, none⟩ = some (.int .i64 3) ∧ W.cell? ⟨g, 12, none⟩ = some (.int .i64 2) ∧ W.cell? ⟨g, 13, none⟩ = some (.int .i64 0) ∧ W.cell? ⟨g, 14, none⟩ = some (.int .i64 0) ∧ W.cell? ⟨g, 15, none⟩ = some (.string ⟨#[97]⟩) ∧ W.cell? ⟨g, 17, none⟩ = some (.bool true)) := Lib.hid (by
    intro W hW
    have e1 := blk_cell (blk_below hW (by omega) hc1)
    have e2 := blk_cell (blk_below hW (by omega) hc2)
    have e3 : ∀ j, j < 24 → W.cell? ⟨g, j, none⟩ = _ := fun j hj => (hW.cell (p := ⟨g, j, none⟩) hg2).trans (hown9.cellAt j (by simpa using hj))
    exact ⟨e1 0, e1 1, e1 2, e1 3, e1 4, e2 0, e2 1, e2 2, e2 3, e2 4, e3 8 (by omega), e3 9 (by omega), e3 10 (by omega), e3 11 (by omega), e3 12 (by omega), e3 13 (by omega), e3 14 (by omega), e3 15 (by omega), e3 17 (by omega)⟩)
  have HB9 : Hid (Below w.heap.size w w9) := Lib.hid ((HB8.out.alloc HB8.out.size _).trans (hbl9.mono (by have := HB8.out.size; simp <;> omega)))
  clear hown9 hbl9 hc1 hc2 hb9
  go_wp2_with fail
  have HB : Hid (w9.heap.size ≤ w9.heap.size) := Lib.hid (Nat.le_refl _)
  refine wp_region_sched [(0, true), (1, true), (2, true), (3, true), (4, true), (5, true), (6, true), (7, true), (8, true), (9, true), (10, true), (11, true), (12, true), (13, true), (14, true), (15, true), (16, true), (17, true), (18, true), (19, true), (20, true), (21, false), (22, true), (23, true), (24, true), (25, true), (26, true), (27, true), (28, true), (29, true), (30, true), (31, true)] (fun W => Below w9.heap.size w9 W) (by kernel_rfl) (by kernel_rfl) rfl (by kernel_rfl) ((Below.refl _ _).drew) ?_
  repeat (first | (apply sched_take rfl; (focus (first | rfl | (go_simp; done))); (focus (intro W hW; obtain ⟨q0, q1, q2, q3, q4, q5, q6, q7, q8, q9, q10, q11, q12, q13, q14, q15, q16, q17, q18⟩ := HS.out W hW; go_simp; rfl)); (focus (intro K hK; go_simp; refine hK _ ?_; clear hK K))) | (apply sched_skip rfl; (focus (first | rfl | (go_simp; done))); (focus (intro K hK; go_simp; refine hK _ ?_; clear hK K))))
  apply sched_op rfl
  intro K hK
  go_simp
  go_wp2_with (fail)
  refine (of_any 3 2 _).mono ?_
  rintro e v1 ⟨rfl, hbv⟩
  have hk1 : Below w9.heap.size w9 v1 := below_step HB.out (by repeat (first | exact Below.refl _ _ | assumption | refine Below.drew ?_ | refine below_alloc HB.out ?_ _)) hbv
  go_wp2_with fail
  refine ⟨by exact hk1, ?_⟩
  repeat (first | (apply sched_take rfl; (focus (first | rfl | (go_simp; done))); (focus (intro W hW; obtain ⟨q0, q1, q2, q3, q4, q5, q6, q7, q8, q9, q10, q11, q12, q13, q14, q15, q16, q17, q18⟩ := HS.out W hW; go_simp; rfl)); (focus (intro K hK; go_simp; refine hK _ ?_; clear hK K))) | (apply sched_skip rfl; (focus (first | rfl | (go_simp; done))); (focus (intro K hK; go_simp; refine hK _ ?_; clear hK K))))
  refine sched_nil ?_
  go_wp2_with fail
  go_ret
  exact ⟨rfl, HB9.out.trans (hk1.mono HB9.out.size)⟩
end Go.Proofs.Ytnocknhfdegkgaa
