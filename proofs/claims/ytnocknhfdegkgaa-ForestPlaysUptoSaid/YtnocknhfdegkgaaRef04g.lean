/-
  The walk of the forest laws' tells: a forest tells what the document's does. Conditions: both lie in memory, with the same spans.
-/
import Derived.Test.YtnocknhfdegkgaaRef04c
import Derived.Test.YtnocknhfdegkgaaRef04f
import Derived.Test.YtnocknhfdegkgaaPutFld
namespace Go.Proofs.Ytnocknhfdegkgaa
open Go Go.RowKit Go.Maps

theorem own_setRaw {w : World} {base g n c sz : Nat} {e : TypeId} {xs : List Value} (h : w.ownsRow base e sz (.slice (some ⟨g, 0, none⟩) n c) n xs) (j : Nat) (u : Value) :
    (w.setCell ⟨g, j, none⟩ u).ownsRow base e sz (.slice (some ⟨g, 0, none⟩) n c) n (xs.set j u) := by
  have hl := h.1
  rcases h.2 with ⟨hv, _⟩ | ⟨g', cap, cur, hv, hb, hh, hn, hc, hs, ht⟩
  · cases hv
  · injection hv with ha _ hc'
    injection ha with ha
    injection ha with ha
    subst ha hc'
    have hnc : n * sz ≤ c * sz := Nat.mul_le_mul_right sz hn
    rw [setCell_eq_setRow w g _ cur e _ u hh]
    refine ⟨by rw [List.length_set]; exact hl, .inr ⟨g, c, _, rfl, hb, setRow_heap w g cur _ e _ hh, hn, hc, ?_, ?_⟩⟩
    · simp; omega
    · rw [← ht, ← List.take_set]
      simp
theorem own_cellAt {w : World} {base g n c sz : Nat} {e : TypeId} {xs : List Value} (h : w.ownsRow base e sz (.slice (some ⟨g, 0, none⟩) n c) n xs) (j : Nat) (hj : j < n * sz) : ∃ v, w.cell? ⟨g, j, none⟩ = some v := by
  have hl := h.1
  have hj' : j < xs.length := by omega
  have hc := World.ownsRow.cells h (g := g) rfl j xs[j] (List.getElem?_eq_getElem hj')
  rw [Addr.add_lit, Nat.zero_add] at hc
  exact ⟨_, hc⟩
theorem own_slice {w : World} {base n c m sz : Nat} {A : Option Addr} {e : TypeId} {xs : List Value} (h : w.ownsRow base e sz (.slice A n c) m xs) (hm : 0 < m) : ∃ g, A = some ⟨g, 0, none⟩ ∧ base ≤ g := by
  rcases h.2 with ⟨_, h0⟩ | ⟨g, cap, cur, hv, hb, _⟩
  · omega
  · injection hv with ha
    exact ⟨g, ha, hb⟩

set_option maxRecDepth 100000 in
set_option maxHeartbeats 4000000 in
theorem tells_any {w : World} {p a d x : Nat} {tr : Int} {L : List Sp} {S S2 : Nat → Prop} (h : Fo w p a d tr L S) (h2 : RF w x tr L S2) :
    Calls Try.prog 30 #[.pointer (some ⟨p, 0, none⟩), .pointer (some ⟨x, 0, none⟩)] w fun e w' => e = .returned (.bool true) ∧ Below w.heap.size w w' := by
  have HF := Lib.hid h
  have HG := Lib.hid h.gr
  have hl64 := h.gr.len
  obtain ⟨A, c, hr, hA⟩ := h2.ex
  have HR := Lib.hid hr
  have HAL : Hid (∀ k, A.map (·.block) = some k → k < w.heap.size) := Lib.hid (fun k hk => h2.lt k (hA k hk).1)
  have HWID : Hid (∀ s ∈ L, wfI s.id ∧ atS L s.id = some s) := Lib.hid (fun s hs => ⟨by have := ok_bounds (fits_ok (h.gr.fits s hs)).1; exact wfI_of (by omega) (by omega), atS_mem h.gr.nodup hs⟩)
  clear h h2 hr hA
  go_enter Try.func30, Try.ntmps30
  go_wp2_with fail
  refine (branches_any HF.out).mono ?_
  rintro e w1 ⟨Ab, cb, rfl, hownb, hb1⟩
  have hz1 := hb1.size
  have HOB := Lib.hid hownb
  have HB1 := Lib.hid hb1
  have HBL : Hid ((branches L).length ≤ 64) := Lib.hid (by
    have := (branches_perm HG.out).length_eq
    rw [List.length_map] at this; omega)
  have HFo : Hid (∀ W, Below w1.heap.size w1 W → Fo W p a d tr L S) := Lib.hid (fun W hW => (HF.out.below HB1.out (Nat.le_refl _)).below hW (Nat.le_refl _))
  have HRf : Hid (∀ W, Below w1.heap.size w1 W → Rf W x A c tr L) := Lib.hid (fun W hW => (HR.out.below HB1.out (Nat.le_refl _)).below hW (Nat.le_refl _))
  have HX : Hid (∀ W, Below w1.heap.size w1 W → (∀ j, W.cell? ⟨x, j, none⟩ = (#[.int .i64 tr, .slice A L.length c] : Array Value)[j]?)) := Lib.hid (fun W hW => blk_cell (HRf.out W hW).hp)
  have HSL : Hid ((sortS L).length ≤ 64) := Lib.hid (by have := sortS_len L; omega)
  clear hownb hb1
  go_wp2_with fail
  refine wp_region_sched [(0, true), (2, true), (3, true), (4, true), (5, true), (6, true), (1, false), (7, true), (8, true), (9, true), (11, true), (10, false), (12, false), (13, true), (14, true), (15, true), (16, true), (18, true), (19, true), (20, true), (21, true), (17, false), (22, false), (23, false), (24, true), (25, true), (26, true), (27, true), (28, false), (29, false), (30, true), (31, true)] (fun W => Below w1.heap.size w1 W) (by kernel_rfl) (by kernel_rfl) rfl (by kernel_rfl) ((Below.refl _ _).drew) ?_
  repeat (first | (apply sched_take rfl; (focus (first | rfl | (go_simp; done))); (focus (intro W hW; have g1 := HX.out W hW; go_simp; rfl)); (focus (intro K hK; go_simp; refine hK _ ?_; clear hK K))) | (apply sched_skip rfl; (focus (first | rfl | (go_simp; done))); (focus (intro K hK; go_simp; refine hK _ ?_; clear hK K))))
  apply sched_op rfl
  intro K hK
  go_simp
  go_wp2_with (fail)
  refine (flen_any (HFo.out _ (Below.refl _ _).drew)).mono ?_
  rintro e v0 ⟨rfl, rfl⟩
  go_wp2_with fail
  refine ⟨by exact (Below.refl _ _).drew, ?_⟩
  repeat (first | (apply sched_take rfl; (focus (first | rfl | (go_simp; done))); (focus (intro W hW; have g1 := HX.out W hW; go_simp; rfl)); (focus (intro K hK; go_simp; refine hK _ ?_; clear hK K))) | (apply sched_skip rfl; (focus (first | rfl | (go_simp; done))); (focus (intro K hK; go_simp; refine hK _ ?_; clear hK K))))
  apply sched_op rfl
  intro K hK
  go_simp
  go_wp2_with (fail)
  refine (fend_any (HFo.out _ (Below.refl _ _).drew)).mono ?_
  rintro e v1 ⟨rfl, hq⟩
  have hk1 : Below w1.heap.size w1 v1 := (Below.refl _ _).drew.trans (hq.mono (Nat.le_refl _))
  go_wp2_with fail
  refine ⟨by exact hk1, ?_⟩
  apply sched_op rfl
  intro K hK
  go_simp
  go_wp2_with (fail)
  refine (rend_any (HRf.out _ hk1)).mono ?_
  rintro e v2 ⟨rfl, hq2⟩
  have hk2 : Below w1.heap.size w1 v2 := hk1.trans (hq2.mono hk1.size)
  clear hq hq2
  go_wp2_with fail
  refine ⟨by exact hk2, ?_⟩
  repeat (first | (apply sched_take rfl; (focus (first | rfl | (go_simp; done))); (focus (intro W hW; have g1 := HX.out W hW; go_simp; rfl)); (focus (intro K hK; go_simp; refine hK _ ?_; clear hK K))) | (apply sched_skip rfl; (focus (first | rfl | (go_simp; done))); (focus (intro K hK; go_simp; refine hK _ ?_; clear hK K))))
  apply sched_op rfl
  intro K hK
  go_simp
  go_wp2_with (fail)
  refine (fspans_any (HFo.out _ hk2)).mono ?_
  rintro e v3 ⟨As, cs, rfl, howns, hq3⟩
  have hk3 : Below w1.heap.size w1 v3 := hk2.trans (hq3.mono hk2.size)
  go_wp2_with fail
  refine ⟨by exact hk3, ?_⟩
  apply sched_op rfl
  intro K hK
  go_simp
  go_wp2_with (fail)
  refine (refSort_any A L.length c v3.heap.size L v3 (Nat.le_refl _) (by omega) (HRf.out _ hk3).rd).mono ?_
  rintro e v4 ⟨At, ct, rfl, hownt, hq4⟩
  have hk4 : Below w1.heap.size w1 v4 := hk3.trans (hq4.mono hk3.size)
  have howns4 := own_below howns hq4
  go_wp2_with fail
  refine ⟨by exact hk4, ?_⟩
  apply sched_op rfl
  intro K hK
  go_simp
  go_wp2_with (fail)
  refine (slicesEqual_any _ _ _ _ _ _ _ _ (sortS L) (sortS L) _ (Rd.of_own howns4) (Rd.of_own hownt) (by have := HSL.out; omega)).mono ?_
  rintro e v5 ⟨q, rfl, hq5, m5, rfl⟩
  obtain rfl : q = true := hq5.2 rfl
  have hk5 : Below w1.heap.size w1 (v4.drewN m5) := below_dN hk4 m5
  clear hq3 hq4 hq5 howns hownt howns4
  go_wp2_with fail
  refine ⟨by exact hk5, ?_⟩
  repeat (first | (apply sched_take rfl; (focus (first | rfl | (go_simp; done))); (focus (intro W hW; have g1 := HX.out W hW; go_simp; rfl)); (focus (intro K hK; go_simp; refine hK _ ?_; clear hK K))) | (apply sched_skip rfl; (focus (first | rfl | (go_simp; done))); (focus (intro K hK; go_simp; refine hK _ ?_; clear hK K))))
  apply sched_op rfl
  intro K hK
  go_simp
  go_wp2_with (fail)
  refine (rbr_any (HRf.out _ hk5) HG.out (fun k hk => by have h1 := HAL.out k hk; have h2 := hk5.size; omega)).mono ?_
  rintro e v6 ⟨Ac, cc, rfl, hownc, hq6⟩
  have hk6 : Below w1.heap.size w1 v6 := hk5.trans (hq6.mono hk5.size)
  have HOB6 : Hid (v6.ownsRow w.heap.size 44 8 (.slice Ab (branches L).length cb) (branches L).length ((branches L).flatMap Br.cells)) := Lib.hid (own_below HOB.out hk6)
  go_wp2_with fail
  refine ⟨by exact hk6, ?_⟩
  apply sched_op rfl
  intro K hK
  go_simp
  go_wp2_with (fail)
  refine (eqB_any _ _ _ _ _ _ _ _ (branches L) (branches L) _ (Rd.of_own HOB6.out) (Rd.of_own hownc) (by have := HBL.out; omega)).mono ?_
  rintro e v7 ⟨q, rfl, hq7, m7, rfl⟩
  obtain rfl : q = true := hq7.2 rfl
  have hk7 : Below w1.heap.size w1 (v6.drewN m7) := below_dN hk6 m7
  clear hq6 hq7 hownc
  go_wp2_with fail
  refine ⟨by exact hk7, ?_⟩
  repeat (first | (apply sched_take rfl; (focus (first | rfl | (go_simp; done))); (focus (intro W hW; have g1 := HX.out W hW; go_simp; rfl)); (focus (intro K hK; go_simp; refine hK _ ?_; clear hK K))) | (apply sched_skip rfl; (focus (first | rfl | (go_simp; done))); (focus (intro K hK; go_simp; refine hK _ ?_; clear hK K))))
  refine sched_nil ?_
  have HK7 := Lib.hid hk7
  have HOB7 : Hid ((v6.drewN m7).ownsRow w.heap.size 44 8 (.slice Ab (branches L).length cb) (branches L).length ((branches L).flatMap Br.cells)) := Lib.hid (own_below HOB.out hk7)
  generalize v6.drewN m7 = v7 at *
  clear hk1 hk2 hk3 hk4 hk5 hk6 hk7 HOB6
  have hbl64 := HBL.out
  generalize (branches L).length = nb at *
  generalize (branches L).flatMap Br.cells = cbs at *
  have HAB : Hid (∀ k, Ab.map (·.block) = some k → w.heap.size ≤ k ∧ k < v7.heap.size) := Lib.hid (fun k hk => HOB7.out.lt k (by rw [← hk]; cases Ab <;> rfl))
  go_wp2_with fail
  go_loopw [47] (fun i wr => ∃ (k : Nat) (xs : List Value), k ≤ nb ∧ i = .int .i64 k ∧ wr.ownsRow w.heap.size 44 8 (.slice Ab nb cb) nb xs ∧ Fr (rowIs Ab) v7 wr) (fun i _ => nb - (intOf i).toNat)
  case atStart => exact ⟨0, _, by omega, rfl, HOB7.out, Fr.refl _ _⟩
  case round =>
    obtain ⟨k, xs, hk, rfl, hown, hfr⟩ := hrel
    have HOWN := Lib.hid hown
    have HFR := Lib.hid hfr
    have hzr := hfr.size
    by_cases hlt : k < nb
    · have hk1 : (k : Int) < (nb : Int) := by omega
      obtain ⟨g, hg, hgb⟩ := own_slice hown (by omega)
      subst hg
      obtain ⟨v0, hv0⟩ := own_cellAt hown (k * 8) (by omega)
      have hfz := own_frozen hown (k * 8)
      have HSET := Lib.hid (own_setRaw hown (k * 8) (.int .i64 (-7)))
      clear hown hfr
      go_wp2_with fail
      go_roundw
      case rel => exact ⟨k + 1, _, by omega, by go_num, HSET.out, HFR.out.setCell (p := ⟨g, k * 8, none⟩) rfl _⟩
      case measure => simp [intOf]; omega
    · have hk1 : ¬ (k : Int) < (nb : Int) := by omega
      clear hown hfr
      obtain ⟨wA, rfl⟩ : ∃ wA, wA = wr := ⟨_, rfl⟩
      have HBA : Hid (Below w.heap.size w wA) := Lib.hid ((HB1.out.trans (HK7.out.mono hz1)).trans (HFR.out.below (by have := HK7.out.size; omega) (fun k hk => (HAB.out k hk).1)))
      have hza := HBA.out.size
      have HFA := Lib.hid (HF.out.below HBA.out (Nat.le_refl _))
      have HRA := Lib.hid (HR.out.below HBA.out (Nat.le_refl _))
      have hxa := blk_cell HRA.out.hp
      go_wp2_with fail
      go_loopw [6, 60] (fun v i wr => ∃ (k : Nat), k ≤ L.length ∧ v = .bool true ∧ i = .int .i64 k ∧ Below wA.heap.size wA wr) (fun _ i _ => L.length - (intOf i).toNat)
      case atStart => exact ⟨0, by omega, rfl, rfl, Below.refl _ _⟩
      case round =>
        obtain ⟨k, hk, rfl, rfl, hb⟩ := hrel
        have HB := Lib.hid hb
        have hzr := hb.size
        clear hb
        by_cases hlt : k < L.length
        · have hk1 : (k : Int) < (L.length : Int) := by omega
          obtain ⟨b1, o1, rfl, hb1, x0, x1, x2, x3, x4, x5⟩ := RdS.at_ (HRA.out.below HB.out (Nat.le_refl _)).rd hlt
          obtain ⟨hwf, hat⟩ := HWID.out _ (List.getElem_mem hlt)
          generalize L[k] = s at *
          have hget : getS L s.id = s := by rw [getS, hat]; rfl
          have HAT := Lib.hid hat
          have HGET := Lib.hid hget
          clear hat hget
          have HB5 : Hid (Below wr.heap.size wr (wr.alloc (.cells #[.int .i64 s.tr, .int .i64 s.id, .int .i64 s.pa, .int .i64 s.st, .int .i64 s.en, .string s.nm] 30))) := Lib.hid ((Below.refl _ _).alloc (Nat.le_refl _) _)
          have HFB := Lib.hid ((HFA.out.below HB.out (Nat.le_refl _)).below HB5.out (Nat.le_refl _))
          have hcmp := eql_span (s := s) (t := s) (q := true) (by simp)
          go_wp2_with fail
          refine (find_any HFB.out s.id hwf).mono ?_
          rintro e w5 ⟨rfl, hb5⟩
          rw [HGET.out, HAT.out]
          have hz5 := hb5.size
          simp at hz5
          have hlt5 : wr.heap.size < w5.heap.size := by omega
          have hsc : ∀ j, w5.cell? ⟨wr.heap.size, j, none⟩ = (#[.int .i64 s.tr, .int .i64 s.id, .int .i64 s.pa, .int .i64 s.st, .int .i64 s.en, .string s.nm] : Array Value)[j]? := blk_cell (blk_below hb5 (by simp) (heap_alloc_new wr _))
          have HBW : Hid (Below wA.heap.size wA w5) := Lib.hid (HB.out.trans ((HB5.out.trans (hb5.mono (by simp))).mono (by omega)))
          clear hb5
          go_wp2_with fail
          go_roundw
          case rel => exact ⟨k + 1, by omega, rfl, by go_num, HBW.out.alloc (by omega) _⟩
          case measure => simp [intOf]; omega
        · have hk1 : ¬ (k : Int) < (L.length : Int) := by omega
          go_wp2_with fail
          go_ret
          exact ⟨rfl, HBA.out.trans (HB.out.mono hza)⟩
end Go.Proofs.Ytnocknhfdegkgaa
