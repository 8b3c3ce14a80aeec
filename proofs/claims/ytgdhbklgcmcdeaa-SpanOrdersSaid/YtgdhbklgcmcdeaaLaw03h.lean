/-
  The walk of the law SpanOrders: the Go text answers true. Condition: the spans are not more than memory bears.
-/
import Derived.Test.YtgdhbklgcmcdeaaLess
import Derived.Test.YtgdhbklgcmcdeaaStd
import Derived.Test.YtgdhbklgcmcdeaaSort
import Derived.Test.YtgdhbklgcmcdeaaRefSort
import Derived.Test.YtgdhbklgcmcdeaaLight03
namespace Go.Proofs.Ytgdhbklgcmcdeaa
open Go.RowKit

theorem own_row0 {w : World} {base g n c : Nat} {e : TypeId} {xs : List Value} {x : Sp} {r : List Sp} (h : w.ownsRow base e 6 (.slice (some ⟨g, 0, none⟩) n c) n xs) (he : xs = (x :: r).flatMap Sp.cells) :
    w.cell? ⟨g, 1, none⟩ = some (.int .i64 x.id) ∧ w.frozen? ⟨g, 1, none⟩ = false := by
  subst he
  have hc := World.ownsRow.cells h (g := g) rfl 1 (.int .i64 x.id) (by simp [Sp.cells])
  rw [Addr.add_lit] at hc
  refine ⟨by simpa using hc, ?_⟩
  rcases h.2 with ⟨hv, _⟩ | ⟨g', cap, cur, hv, _, hh, _⟩
  · cases hv
  · injection hv with ha
    injection ha with ha
    injection ha with ha
    subst ha
    simp [World.frozen?, hh]

set_option maxRecDepth 100000 in
set_option maxHeartbeats 4000000 in
theorem spanOrders_any (a b : Sp) (A : Option Addr) (n cap B : Nat) (l : List Sp) (w : World) (hB : B ≤ w.heap.size) (hbig : n * 56 ≤ 140737488351232) (hr : RdS w B A n l) :
    Calls Try.prog 10 #[a.val, b.val, .slice A n cap] w fun e w' => e = .returned (.bool true) ∧ Below w.heap.size w w' := by
  obtain ⟨i0, hi0, hz0, hz1, hz2⟩ := info_parts Try.infoSpan
  have hlen := hr.len
  subst hlen
  have HN : Hid ((((w.alloc (.cells #[.int .i64 a.tr, .int .i64 a.id, .int .i64 a.pa, .int .i64 a.st, .int .i64 a.en, .string a.nm] 23)).alloc (.cells #[.int .i64 b.tr, .int .i64 b.id, .int .i64 b.pa, .int .i64 b.st, .int .i64 b.en, .string b.nm] 23)).alloc (.cells #[.int .i64 a.tr, .int .i64 a.id, .int .i64 a.pa, .int .i64 a.st, .int .i64 a.en, .string a.nm, .int .i64 b.tr, .int .i64 b.id, .int .i64 b.pa, .int .i64 b.st, .int .i64 b.en, .string b.nm] 23)).ownsRow (w.heap.size + 2) 23 6 (.slice (some ⟨w.heap.size + 1 + 1, 0, none⟩) 2 2) 2 ([a, b].flatMap Sp.cells)) := Lib.hid (by
    have h := own_new ((w.alloc (.cells #[.int .i64 a.tr, .int .i64 a.id, .int .i64 a.pa, .int .i64 a.st, .int .i64 a.en, .string a.nm] 23)).alloc (.cells #[.int .i64 b.tr, .int .i64 b.id, .int .i64 b.pa, .int .i64 b.st, .int .i64 b.en, .string b.nm] 23)) #[.int .i64 a.tr, .int .i64 a.id, .int .i64 a.pa, .int .i64 a.st, .int .i64 a.en, .string a.nm, .int .i64 b.tr, .int .i64 b.id, .int .i64 b.pa, .int .i64 b.st, .int .i64 b.en, .string b.nm] 23 2 6 rfl (by unfold maxLen; omega) (w.heap.size + 2) (by simp)
    rw [World.size_alloc, World.size_alloc] at h
    exact h)
  have hBN : Below w.heap.size w (((w.alloc (.cells #[.int .i64 a.tr, .int .i64 a.id, .int .i64 a.pa, .int .i64 a.st, .int .i64 a.en, .string a.nm] 23)).alloc (.cells #[.int .i64 b.tr, .int .i64 b.id, .int .i64 b.pa, .int .i64 b.st, .int .i64 b.en, .string b.nm] 23)).alloc (.cells #[.int .i64 a.tr, .int .i64 a.id, .int .i64 a.pa, .int .i64 a.st, .int .i64 a.en, .string a.nm, .int .i64 b.tr, .int .i64 b.id, .int .i64 b.pa, .int .i64 b.st, .int .i64 b.en, .string b.nm] 23)) := (((Below.refl _ _).alloc (Nat.le_refl _) _).alloc (by simp) _).alloc (by simp <;> omega) _
  have HRN : Hid (RdS (((w.alloc (.cells #[.int .i64 a.tr, .int .i64 a.id, .int .i64 a.pa, .int .i64 a.st, .int .i64 a.en, .string a.nm] 23)).alloc (.cells #[.int .i64 b.tr, .int .i64 b.id, .int .i64 b.pa, .int .i64 b.st, .int .i64 b.en, .string b.nm] 23)).alloc (.cells #[.int .i64 a.tr, .int .i64 a.id, .int .i64 a.pa, .int .i64 a.st, .int .i64 a.en, .string a.nm, .int .i64 b.tr, .int .i64 b.id, .int .i64 b.pa, .int .i64 b.st, .int .i64 b.en, .string b.nm] 23)) B A l.length l) := Lib.hid (Rd.below' hr hBN hB (Nat.le_refl _))
  have HBN := Lib.hid hBN
  have HR := Lib.hid hr
  have hb0 : Below w.heap.size w ((w.alloc (.cells #[.int .i64 a.tr, .int .i64 a.id, .int .i64 a.pa, .int .i64 a.st, .int .i64 a.en, .string a.nm] 23)).alloc (.cells #[.int .i64 b.tr, .int .i64 b.id, .int .i64 b.pa, .int .i64 b.st, .int .i64 b.en, .string b.nm] 23)) := (((Below.refl _ _).alloc (Nat.le_refl _) _).alloc (by simp) _)
  have HR0 : Hid (RdS ((w.alloc (.cells #[.int .i64 a.tr, .int .i64 a.id, .int .i64 a.pa, .int .i64 a.st, .int .i64 a.en, .string a.nm] 23)).alloc (.cells #[.int .i64 b.tr, .int .i64 b.id, .int .i64 b.pa, .int .i64 b.st, .int .i64 b.en, .string b.nm] 23)) B A l.length l) := Lib.hid (Rd.below' hr hb0 hB (Nat.le_refl _))
  have HS1 : Hid (∀ W, Below (w.heap.size + 2) (((w.alloc (.cells #[.int .i64 a.tr, .int .i64 a.id, .int .i64 a.pa, .int .i64 a.st, .int .i64 a.en, .string a.nm] 23)).alloc (.cells #[.int .i64 b.tr, .int .i64 b.id, .int .i64 b.pa, .int .i64 b.st, .int .i64 b.en, .string b.nm] 23)).alloc (.cells #[.int .i64 a.tr, .int .i64 a.id, .int .i64 a.pa, .int .i64 a.st, .int .i64 a.en, .string a.nm, .int .i64 b.tr, .int .i64 b.id, .int .i64 b.pa, .int .i64 b.st, .int .i64 b.en, .string b.nm] 23)) W → (W.cell? ⟨w.heap.size, 0, none⟩ = some (.int .i64 a.tr) ∧ W.cell? ⟨w.heap.size, 1, none⟩ = some (.int .i64 a.id) ∧ W.cell? ⟨w.heap.size, 2, none⟩ = some (.int .i64 a.pa) ∧ W.cell? ⟨w.heap.size, 3, none⟩ = some (.int .i64 a.st) ∧ W.cell? ⟨w.heap.size, 4, none⟩ = some (.int .i64 a.en) ∧ W.cell? ⟨w.heap.size, 5, none⟩ = some (.string a.nm)) ∧ (W.cell? ⟨w.heap.size + 1, 0, none⟩ = some (.int .i64 b.tr) ∧ W.cell? ⟨w.heap.size + 1, 1, none⟩ = some (.int .i64 b.id) ∧ W.cell? ⟨w.heap.size + 1, 2, none⟩ = some (.int .i64 b.pa) ∧ W.cell? ⟨w.heap.size + 1, 3, none⟩ = some (.int .i64 b.st) ∧ W.cell? ⟨w.heap.size + 1, 4, none⟩ = some (.int .i64 b.en) ∧ W.cell? ⟨w.heap.size + 1, 5, none⟩ = some (.string b.nm))) := Lib.hid (by
    intro W hW
    have h1 : (((w.alloc (.cells #[.int .i64 a.tr, .int .i64 a.id, .int .i64 a.pa, .int .i64 a.st, .int .i64 a.en, .string a.nm] 23)).alloc (.cells #[.int .i64 b.tr, .int .i64 b.id, .int .i64 b.pa, .int .i64 b.st, .int .i64 b.en, .string b.nm] 23)).alloc (.cells #[.int .i64 a.tr, .int .i64 a.id, .int .i64 a.pa, .int .i64 a.st, .int .i64 a.en, .string a.nm, .int .i64 b.tr, .int .i64 b.id, .int .i64 b.pa, .int .i64 b.st, .int .i64 b.en, .string b.nm] 23)).heap[w.heap.size]? = some (.cells #[.int .i64 a.tr, .int .i64 a.id, .int .i64 a.pa, .int .i64 a.st, .int .i64 a.en, .string a.nm] 23 (0, 0)) :=
      blk_below ((((Below.refl (w.heap.size + 1) _).alloc (by simp) _).alloc (by simp) _)) (by omega) (heap_alloc_new w _)
    have h2 : (((w.alloc (.cells #[.int .i64 a.tr, .int .i64 a.id, .int .i64 a.pa, .int .i64 a.st, .int .i64 a.en, .string a.nm] 23)).alloc (.cells #[.int .i64 b.tr, .int .i64 b.id, .int .i64 b.pa, .int .i64 b.st, .int .i64 b.en, .string b.nm] 23)).alloc (.cells #[.int .i64 a.tr, .int .i64 a.id, .int .i64 a.pa, .int .i64 a.st, .int .i64 a.en, .string a.nm, .int .i64 b.tr, .int .i64 b.id, .int .i64 b.pa, .int .i64 b.st, .int .i64 b.en, .string b.nm] 23)).heap[w.heap.size + 1]? = some (.cells #[.int .i64 b.tr, .int .i64 b.id, .int .i64 b.pa, .int .i64 b.st, .int .i64 b.en, .string b.nm] 23 (0, 0)) := by
      have h := heap_alloc_new (w.alloc (.cells #[.int .i64 a.tr, .int .i64 a.id, .int .i64 a.pa, .int .i64 a.st, .int .i64 a.en, .string a.nm] 23)) (.cells #[.int .i64 b.tr, .int .i64 b.id, .int .i64 b.pa, .int .i64 b.st, .int .i64 b.en, .string b.nm] 23)
      rw [World.size_alloc] at h
      exact blk_below ((Below.refl (w.heap.size + 2) _).alloc (by simp) _) (by omega) h
    have e1 := blk_cell (blk_below hW (by omega) h1)
    have e2 := blk_cell (blk_below hW (by omega) h2)
    exact ⟨⟨e1 0, e1 1, e1 2, e1 3, e1 4, e1 5⟩, ⟨e2 0, e2 1, e2 2, e2 3, e2 4, e2 5⟩⟩)
  clear hr hBN hb0
  cases hl : lightB ([a, b] ++ l)
  · have HL := Lib.hid hl
    clear hl
    go_enter Try.func10, Try.ntmps10
    go_wp2_with (at_builtin; refine wpList_app _ rfl (.tmp 12) (.tmp 13) _ rfl (w.heap.size + 2) 23 i0 _ 6 56 Try.underlying25 hi0 hz0 hz1 hz2 rfl (by omega) _ _ _ _ rfl HN.out B _ _ _ _ rfl HRN.out (cells_oneCell _) (by unfold maxLen; omega) (by omega) (by simp <;> omega) ?_; intro A1 c1 w1 hown1 hg1 _)
    have hb1 := below_app HBN.out (own_le HN.out (by omega)) hg1 (by simp <;> omega)
    rw [← List.flatMap_append] at hown1
    refine (light_any _ _ _ _ ([a, b] ++ l) _ (by omega) (Rd.of_own hown1)).mono ?_
    rintro e w2 ⟨rfl, rfl⟩
    rw [HL.out]
    clear hown1 hg1
    go_wp2_with fail
    refine (awake_any _).mono ?_
    rintro e w3 ⟨rfl, hb3⟩
    go_wp2_with fail
    go_ret
    exact ⟨rfl, below_via hb1 hb3 hb1.size⟩
  · have HL := Lib.hid hl
    have hl200 : l.length + 2 ≤ 200 := by have := (light_parts hl).1; simpa using this
    clear hl
    obtain ⟨s0, r0, hs0⟩ : ∃ s0 r0, sortS l ++ [a] = s0 :: r0 := by
      cases h : sortS l with
      | nil => exact ⟨a, [], rfl⟩
      | cons x r => exact ⟨x, r ++ [a], rfl⟩
    have HS0 := Lib.hid hs0
    have HSL := Lib.hid (sortS_len l)
    clear hs0
    go_enter Try.func10, Try.ntmps10
    go_wp2_with (at_builtin; refine wpList_app _ rfl (.tmp 12) (.tmp 13) _ rfl (w.heap.size + 2) 23 i0 _ 6 56 Try.underlying25 hi0 hz0 hz1 hz2 rfl (by omega) _ _ _ _ rfl HN.out B _ _ _ _ rfl HRN.out (cells_oneCell _) (by unfold maxLen; omega) (by omega) (by simp <;> omega) ?_; intro A1 c1 w1 hown1 hg1 _)
    have hb1 := below_app HBN.out (own_le HN.out (by omega)) hg1 (by simp <;> omega)
    have hbx : Below (w.heap.size + 2) (((w.alloc (.cells #[.int .i64 a.tr, .int .i64 a.id, .int .i64 a.pa, .int .i64 a.st, .int .i64 a.en, .string a.nm] 23)).alloc (.cells #[.int .i64 b.tr, .int .i64 b.id, .int .i64 b.pa, .int .i64 b.st, .int .i64 b.en, .string b.nm] 23)).alloc (.cells #[.int .i64 a.tr, .int .i64 a.id, .int .i64 a.pa, .int .i64 a.st, .int .i64 a.en, .string a.nm, .int .i64 b.tr, .int .i64 b.id, .int .i64 b.pa, .int .i64 b.st, .int .i64 b.en, .string b.nm] 23)) w1 := below_app (b := w.heap.size + 2) (Below.refl _ _) HN.out hg1 (by simp)
    rw [← List.flatMap_append] at hown1
    refine (light_any _ _ _ _ ([a, b] ++ l) _ (by omega) (Rd.of_own hown1)).mono ?_
    rintro e w2 ⟨rfl, rfl⟩
    rw [HL.out]
    have HX := Lib.hid hbx
    have HB1 := Lib.hid hb1
    have hz1w : w.heap.size + 2 ≤ w1.heap.size := by have := hbx.size; simp at this; omega
    clear hown1 hg1 hbx hb1
    go_wp2_with fail
    have HR1 : Hid (RdS w1 B A l.length l) := Lib.hid (Rd.below' HR.out HB1.out hB (Nat.le_refl _))
    refine (cloneSpans_any _ _ _ B l _ (by omega) (by omega) HR1.out).mono ?_
    rintro e w2 ⟨A2, c2, rfl, hown2, hb2⟩
    have hz2w := hb2.size
    have HG := Lib.hid (Rd.of_own hown2)
    have HR2 : Hid (RdS w2 B A l.length l) := Lib.hid (Rd.below' HR1.out hb2 (by omega) (Nat.le_refl _))
    have HB2 : Hid (Below w.heap.size w w2) := Lib.hid (below_via HB1.out hb2 (by omega))
    have HX2 : Hid (Below (w.heap.size + 2) _ w2) := Lib.hid (HX.out.trans (hb2.mono (by omega)))
    clear hown2 hb2
    go_wp2_with fail
    refine (Sort_any _ _ _ w2.heap.size l _ (Nat.le_refl _) (by omega) HG.out).mono ?_
    rintro e w3 ⟨A3, c3, rfl, hown3, hb3⟩
    have hz3w := hb3.size
    have HO3 := Lib.hid hown3
    have HB3 := Lib.hid hb3
    have HR3 : Hid (RdS w3 B A l.length l) := Lib.hid (Rd.below' HR2.out hb3 (by omega) (Nat.le_refl _))
    clear hown3 hb3
    go_wp2_with fail
    refine (refSort_any _ _ _ B l _ (by omega) (by omega) HR3.out).mono ?_
    rintro e w4 ⟨A4, c4, rfl, hown4, hb4⟩
    have hz4w := hb4.size
    have HQ4 := Lib.hid (Rd.of_own hown4)
    have HO4 := Lib.hid (own_below HO3.out hb4)
    have HB4 : Hid (Below w2.heap.size w2 w4) := Lib.hid (below_via HB3.out hb4 (by omega))
    have HP4 : Hid (RdS w4 w3.heap.size A3 (sortS l).length (sortS l)) := Lib.hid (Rd.below' (Rd.of_own HO3.out) hb4 (Nat.le_refl _) (Nat.le_refl _))
    clear hown4 hb4
    go_wp2_with fail
    refine (slicesEqual_any _ _ _ _ _ _ _ _ (sortS l) (sortS l) _ HP4.out HQ4.out (by rw [HSL.out]; omega)).mono ?_
    rintro e w5 ⟨q, rfl, hq, m, rfl⟩
    obtain rfl : q = true := hq.2 rfl
    clear hq
    have HG4 : Hid (RdS w4 w2.heap.size A2 l.length l) := Lib.hid (Rd.below' HG.out HB4.out (Nat.le_refl _) (Nat.le_refl _))
    have HR4 : Hid (RdS w4 B A l.length l) := Lib.hid (Rd.below' HR2.out HB4.out (by omega) (Nat.le_refl _))
    go_wp2_with fail
    refine (slicesEqual_any _ _ _ _ _ _ _ _ l l _ (Rd.drewN HG4.out m) (Rd.drewN HR4.out m) (by omega)).mono ?_
    rintro e w5 ⟨q, rfl, hq, m2, rfl⟩
    obtain rfl : q = true := hq.2 rfl
    clear hq
    rw [World.drewN_drewN]
    generalize m + m2 = mm
    have HB5 : Hid (Below w2.heap.size w2 (w4.drewN mm)) := Lib.hid (below_dN HB4.out mm)
    have HO5 : Hid ((w4.drewN mm).ownsRow w2.heap.size 23 6 (.slice A3 (sortS l).length c3) (sortS l).length ((sortS l).flatMap Sp.cells)) := Lib.hid HO4.out
    obtain ⟨⟨c0, c1', c2', c3', c4', c5⟩, ⟨d0, d1, d2, d3, d4, d5⟩⟩ := HS1.out _ (below_dN (HX2.out.trans (HB4.out.mono (by omega))) mm)
    go_wp2_with (at_builtin; refine wpList_app _ rfl (.tmp 31) (.tmp 33) _ rfl w2.heap.size 23 i0 _ 6 56 Try.underlying25 hi0 hz0 hz1 hz2 rfl (by omega) _ _ _ _ rfl (HO5.out.alloc _) (w4.heap.size + 1) _ 1 _ _ rfl (Rd.one6 (by simp) _ _ _) (cells_one1 _) (by have := HSL.out; unfold maxLen; omega) (by have := HSL.out; omega) (by simp <;> omega) ?_; intro A6 c6 w6 hown6 hg6 _; obtain ⟨g6, rfl, hg61, hg62⟩ := own_form hown6 (by omega); have HO6 := own_row0 (x := s0) (r := r0) hown6 (by rw [← flat_snoc, HS0.out]); obtain ⟨hc6, hf6⟩ := HO6; have HB6 := Lib.hid (below_app (HB5.out.alloc (by simp <;> omega) _) (HO5.out.alloc _) hg6 (by simp <;> omega)); clear hown6 hg6)
    have HB : Hid (w2.heap.size ≤ w2.heap.size) := Lib.hid (Nat.le_refl _)
    have hk0 : Below w2.heap.size w2 (w6.setCell ⟨g6, 1, none⟩ (.int .i64 (wrap64 (s0.id + 1)))) := HB6.out.setCell hg61 _
    generalize w6.setCell ⟨g6, 1, none⟩ (.int .i64 (wrap64 (s0.id + 1))) = w7 at hk0 ⊢
    refine wp_region_sched [(0, true), (1, true), (2, true), (3, true), (4, false), (5, true), (6, true), (7, true), (8, true), (10, true), (11, true), (9, false), (12, false), (13, true), (14, true), (15, true), (16, false), (17, true), (18, true)] (fun W => Below w2.heap.size w2 W) (by kernel_rfl) (by kernel_rfl) rfl (by kernel_rfl) (hk0.drew) ?_
    repeat (first | (apply sched_take rfl; (focus (first | rfl | (go_simp; done))); (focus (intro W hW; obtain ⟨⟨c0, c1, c2, c3, c4, c5⟩, ⟨d0, d1, d2, d3, d4, d5⟩⟩ := HS1.out W (HX2.out.trans (hW.mono (by omega))); go_simp; rfl)); (focus (intro K hK; go_simp; refine hK _ ?_; clear hK K))) | (apply sched_skip rfl; (focus (first | rfl | (go_simp; done))); (focus (intro K hK; go_simp; refine hK _ ?_; clear hK K))))
    apply sched_op rfl
    intro K hK
    go_simp
    go_wp2_with (fail)
    refine (slicesEqual_any _ _ _ _ _ _ _ _ l l _ (Rd.below' HG.out hk0.drew (Nat.le_refl _) (Nat.le_refl _)) (Rd.below' HR2.out hk0.drew (by omega) (Nat.le_refl _)) (by omega)).mono ?_
    rintro e v1 ⟨q, rfl, hq, m1, rfl⟩
    obtain rfl : q = true := hq.2 rfl
    clear hq
    have hk1 : Below w2.heap.size w2 (w7.drewN (1 + m1)) := below_dN hk0 (1 + m1)
    go_wp2_with fail
    refine ⟨by repeat (first | exact Below.refl _ _ | assumption | refine Below.drew ?_ | refine below_alloc HB.out ?_ _), ?_⟩
    repeat (first | (apply sched_take rfl; (focus (first | rfl | (go_simp; done))); (focus (intro W hW; obtain ⟨⟨c0, c1, c2, c3, c4, c5⟩, ⟨d0, d1, d2, d3, d4, d5⟩⟩ := HS1.out W (HX2.out.trans (hW.mono (by omega))); go_simp; rfl)); (focus (intro K hK; go_simp; refine hK _ ?_; clear hK K))) | (apply sched_skip rfl; (focus (first | rfl | (go_simp; done))); (focus (intro K hK; go_simp; refine hK _ ?_; clear hK K))))
    apply sched_op rfl
    intro K hK
    go_simp
    go_wp2_with (fail)
    refine (less_any a b _).mono ?_
    rintro e v2 ⟨rfl, hb2⟩
    have hk2 := below_step HB.out (by repeat (first | exact Below.refl _ _ | assumption | refine Below.drew ?_ | refine below_alloc HB.out ?_ _)) hb2
    go_wp2_with fail
    refine ⟨by repeat (first | exact Below.refl _ _ | assumption | refine Below.drew ?_ | refine below_alloc HB.out ?_ _), ?_⟩
    repeat (first | (apply sched_take rfl; (focus (first | rfl | (go_simp; done))); (focus (intro W hW; obtain ⟨⟨c0, c1, c2, c3, c4, c5⟩, ⟨d0, d1, d2, d3, d4, d5⟩⟩ := HS1.out W (HX2.out.trans (hW.mono (by omega))); go_simp; rfl)); (focus (intro K hK; go_simp; refine hK _ ?_; clear hK K))) | (apply sched_skip rfl; (focus (first | rfl | (go_simp; done))); (focus (intro K hK; go_simp; refine hK _ ?_; clear hK K))))
    apply sched_op rfl
    intro K hK
    go_simp
    go_wp2_with (fail)
    refine (refLess_any a b _).mono ?_
    rintro e v3 ⟨rfl, hb3⟩
    have hk3 := below_step HB.out (by repeat (first | exact Below.refl _ _ | assumption | refine Below.drew ?_ | refine below_alloc HB.out ?_ _)) hb3
    go_wp2_with fail
    refine ⟨by repeat (first | exact Below.refl _ _ | assumption | refine Below.drew ?_ | refine below_alloc HB.out ?_ _), ?_⟩
    repeat (first | (apply sched_take rfl; (focus (first | rfl | (go_simp; done))); (focus (intro W hW; obtain ⟨⟨c0, c1, c2, c3, c4, c5⟩, ⟨d0, d1, d2, d3, d4, d5⟩⟩ := HS1.out W (HX2.out.trans (hW.mono (by omega))); go_simp; rfl)); (focus (intro K hK; go_simp; refine hK _ ?_; clear hK K))) | (apply sched_skip rfl; (focus (first | rfl | (go_simp; done))); (focus (intro K hK; go_simp; refine hK _ ?_; clear hK K))))
    apply sched_op rfl
    intro K hK
    go_simp
    go_wp2_with (fail)
    refine (awake_any _).mono ?_
    rintro e v4 ⟨rfl, hb4⟩
    have hk4 := below_step HB.out (by repeat (first | exact Below.refl _ _ | assumption | refine Below.drew ?_ | refine below_alloc HB.out ?_ _)) hb4
    go_wp2_with fail
    refine ⟨by repeat (first | exact Below.refl _ _ | assumption | refine Below.drew ?_ | refine below_alloc HB.out ?_ _), ?_⟩
    repeat (first | (apply sched_take rfl; (focus (first | rfl | (go_simp; done))); (focus (intro W hW; obtain ⟨⟨c0, c1, c2, c3, c4, c5⟩, ⟨d0, d1, d2, d3, d4, d5⟩⟩ := HS1.out W (HX2.out.trans (hW.mono (by omega))); go_simp; rfl)); (focus (intro K hK; go_simp; refine hK _ ?_; clear hK K))) | (apply sched_skip rfl; (focus (first | rfl | (go_simp; done))); (focus (intro K hK; go_simp; refine hK _ ?_; clear hK K))))
    refine sched_nil ?_
    go_wp2_with fail
    go_ret
    exact ⟨rfl, HB2.out.trans (hk4.mono (by omega))⟩
end Go.Proofs.Ytgdhbklgcmcdeaa
