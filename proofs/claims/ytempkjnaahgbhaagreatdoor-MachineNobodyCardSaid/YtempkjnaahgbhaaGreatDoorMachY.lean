/-
  The walk of a machine's Apply. Conditions: the machine lies in memory as New made it; the entry's bytes are not more than memory bears; the package variable errors.errorType lies as it is laid.
-/
import Derived.Test.YtempkjnaahgbhaaGreatDoorMachD
import Derived.Test.YtempkjnaahgbhaaGreatDoorMachE
import Derived.Test.YtempkjnaahgbhaaGreatDoorLookP
namespace Go.Proofs.YtempkjnaahgbhaaGreatDoor
open Go Go.RowKit Go.Maps

/-- The package variable errors.errorType as it is laid. -/
def ErrT (w : World) : Prop := w.cell? ⟨0, 0, none⟩ = some (.iface 228 (.agg #[.pointer (some ⟨1, 130, none⟩)]))
theorem ErrT.fr {w w' : World} {S : Nat → Prop} (h : ErrT w) (hf : Fr S w w') (h0 : ¬ S 0) : ErrT w' := by
  have hl : 0 < w.heap.size := by
    unfold ErrT at h
    rcases Nat.eq_zero_or_pos w.heap.size with h1 | h1
    · simp [World.cell?, h1] at h
    · exact h1
  unfold ErrT at h ⊢
  rw [← h]
  simp only [World.cell?, hf.block 0 hl h0]
theorem ErrT.below {w w' : World} {B : Nat} (h : ErrT w) (hb : Below B w w') (hB : w.heap.size ≤ B) : ErrT w' := h.fr (S := fun _ => False) (Fr.of_below (hb.mono hB)) (fun h => h)
/-- errors.As at a number: it is laid there. -/
theorem as_got (n : Int) (t : Addr) (old : Value) (w : World) (hg : ErrT w) (ht0 : w.cell? t = some old) (hf0 : w.frozen? t = false) :
    Calls Tryz.prog 81 #[.iface 33 (.int .i64 n), .iface 134 (.pointer (some t))] w fun ev w' => ev = .returned (.bool true) ∧ Fr (fun k => k = t.block) w w' ∧ w'.cell? t = some (.int .i64 n) := by
  have htl : t.block < w.heap.size := by
    rcases Nat.lt_or_ge t.block w.heap.size with h | h
    · exact h
    · simp [World.cell?, Array.getElem?_eq_none h] at ht0
  refine (as_hit n t old w hg ht0 hf0).mono ?_
  rintro ev w' ⟨rfl, rfl⟩
  refine ⟨rfl, ?_, ?_⟩
  · exact (((((Fr.refl (fun k => k = t.block) w).alloc _).alloc _).alloc _).alloc _).setCell (p := t) rfl _
  · refine World.cell?_setCell_same _ _ _ (u := old) ?_
    rw [World.cell?_alloc_lt _ _ t (by simp; omega), World.cell?_alloc_lt _ _ t (by simp; omega), World.cell?_alloc_lt _ _ t (by simp; omega), World.cell?_alloc_lt _ _ t htl]
    exact ht0

/-- What Apply leaves. -/
def ResApp (w : World) (b : Nat) (S : Nat → Prop) (r : Ma × Rp × Int) (e : Ending) (w' : World) : Prop :=
  e = .returned (.tuple #[r.2.1.val, .int .i64 r.2.2]) ∧ MaAt w' b (fun k => S k ∨ (w.heap.size ≤ k ∧ k < w'.heap.size)) r.1 ∧ Fr S w w'
set_option maxRecDepth 100000 in
set_option maxHeartbeats 8000000 in
theorem mapply_any {w : World} {b : Nat} {S : Nat → Prop} {M : Ma} (h : MaAt w b S M) (h0 : ¬ S 0) (hg : ErrT w) (e : EnV) (B : Nat) (hB : B ≤ w.heap.size) (hbig : e.n ≤ 4294967296) (hr : RdB w B e.A e.n e.da) (hSd : 0 < e.n → ∀ k, e.A.map (·.block) = some k → ¬ S k) :
    Calls Tryz.prog 34 #[.pointer (some ⟨b, 0, none⟩), e.val] w (ResApp w b S (applyM M e.en)) := by
  obtain ⟨s, sm, t, tm, vb, c, SS, h⟩ := h
  obtain ⟨ix, te, A, n, ca, da⟩ := e
  dsimp only [EnV.val, EnV.en] at *
  have H := Lib.hid h
  have H0 := Lib.hid h0
  have HG := Lib.hid hg
  have HR := Lib.hid hr
  have HSD := Lib.hid hSd
  have HB0 := Lib.hid hB
  have hix := h.gr.i0
  have hix1 := h.gr.i1
  have hte := h.gr.t0
  have hte1 := h.gr.t1
  have hbl : b < w.heap.size := h.lt b h.sb.1
  generalize hW0 : (w.alloc (.cells #[.int .i64 ix, .int .i64 te, .slice A n ca] 66 (0, 0))).alloc (.cells #[.int .i64 0, .int .i64 0, .int .i64 0, .int .i64 0, .int .i64 0, .int .i64 0, .int .i64 0, .int .i64 0] 56 (0, 0)) = W0
  have hz0 : W0.heap.size = w.heap.size + 2 := by rw [← hW0]; simp
  have hb0 : Below w.heap.size w W0 := by rw [← hW0]; exact ((Below.refl _ _).alloc (Nat.le_refl _) _).alloc (by simp) _
  have hc0 : W0.heap[w.heap.size]? = some (.cells #[.int .i64 ix, .int .i64 te, .slice A n ca] 66 (0, 0)) := by
    rw [← hW0]
    exact (Below.heap_alloc _ _ _ (by simp)).trans (heap_alloc_new w _)
  have hc1 : W0.heap[w.heap.size + 1]? = some (.cells #[.int .i64 0, .int .i64 0, .int .i64 0, .int .i64 0, .int .i64 0, .int .i64 0, .int .i64 0, .int .i64 0] 56 (0, 0)) := by
    rw [← hW0]
    exact heap_at (by simp)
  have HM0 := Lib.hid (h.below hb0 (Nat.le_refl _))
  have HB1 := Lib.hid hb0
  have HEN := Lib.hid hc0
  have HRES := Lib.hid hc1
  have hz0x : w.heap.size + 2 ≤ W0.heap.size := by omega
  have HZ0 := Lib.hid hz0
  have HLT : Hid (∀ k, S k → k < w.heap.size) := Lib.hid (fun k hk => h.lt k hk)
  have HSb := Lib.hid h.sb.1
  have hw0 : 0 < w.heap.size := by omega
  obtain ⟨q, hqi⟩ : ∃ q : Bool, q = true ↔ badE M ⟨ix, te, da⟩ := ⟨decide (ix ≠ M.ix + 1 ∨ 1099511627776 < ix ∨ te < max M.te 1 ∨ 1099511627776 < te), by unfold badE; exact decide_eq_true_iff⟩
  have HQ := Lib.hid hqi
  have HQ2 : Hid (q = true ↔ (ix ≠ M.ix + 1 ∨ 1099511627776 < ix ∨ te < max M.te 1 ∨ 1099511627776 < te)) := Lib.hid hqi
  clear h h0 hg hr hSd hB hb0 hc0 hc1 hz0 hqi
  go_enter Tryz.func34, Tryz.ntmps34
  go_wp2_with fail
  clear hW0
  refine (mmade_any HM0.out.at_).mono ?_
  rintro e w1 ⟨rfl, rfl⟩
  go_upto_region 3 with fail
  go_cut [16] (fun v wx => v = .bool q ∧ Fr (fun _ => False) W0 wx)
  case first =>
    have HC : Hid (∀ W, Fr (fun _ => False) W0 W → (∀ j, W.cell? ⟨b, j, none⟩ = (#[.pointer (some ⟨s, 0, none⟩), .pointer (some ⟨t, 0, none⟩), .int .i64 M.ix, .int .i64 M.te, .slice (some ⟨vb, 0, none⟩) M.vo.length c] : Array Value)[j]?) ∧ (∀ j, W.cell? ⟨w.heap.size, j, none⟩ = (#[.int .i64 ix, .int .i64 te, .slice A n ca] : Array Value)[j]?)) := Lib.hid (fun W hW => ⟨blk_cell ((hW.block b (by omega) (fun h => h)).trans HM0.out.hp), blk_cell ((hW.block w.heap.size (by omega) (fun h => h)).trans HEN.out)⟩)
    have HW1 : Hid (IntKind.i64.wrap (M.ix + 1) = M.ix + 1) := Lib.hid ((IntWalk.i64_left _).trans (IntWalk.wrap64_in _ (by omega)))
    by_cases h1 : ix = M.ix + 1
    · have h1b : (ix != M.ix + 1) = false := by simpa using h1
      have H1 := Lib.hid h1
      clear h1
      by_cases h2 : 1099511627776 < ix
      · obtain rfl : q = true := HQ2.out.2 (.inr (.inl h2))
        have h2b : decide (1099511627776 < ix) = true := decide_eq_true h2
        refine wp_region_sched [(0, true), (1, true), (2, true), (3, true), (4, true), (5, true), (6, true), (7, true), (8, true), (9, true), (10, true), (11, true), (12, true), (13, true), (14, true), (15, true), (16, true), (17, true), (18, true), (19, true), (20, true), (21, true), (22, true), (23, true), (24, true), (25, true), (26, true), (27, true), (28, true)] (fun W => Fr (fun _ => False) W0 W) (by kernel_rfl) (by kernel_rfl) rfl (by kernel_rfl) ((Fr.refl _ _).drew) ?_
        repeat (first | (apply sched_take rfl; (focus (first | rfl | (go_simp; done))); (focus (intro W hW; have f12 := HC.out W hW; have f1 := f12.1; have f2 := f12.2; have q1 := HW1.out; clear f12; go_simp; rfl)); (focus (intro K hK; go_simp; refine hK _ ?_; clear hK K))) | (apply sched_skip rfl; (focus (first | rfl | (go_simp; done))); (focus (intro K hK; go_simp; refine hK _ ?_; clear hK K))))
        refine sched_nil ?_
        go_wp2_with fail
        go_meet
        exact ⟨rfl, (Fr.refl _ _).drew⟩
      · have h2b : decide (1099511627776 < ix) = false := decide_eq_false h2
        by_cases h3 : te < max M.te 1
        · obtain rfl : q = true := HQ2.out.2 (.inr (.inr (.inl h3)))
          have h3b : decide (te < max M.te 1) = true := decide_eq_true h3
          refine wp_region_sched [(0, true), (1, true), (2, true), (3, true), (4, true), (5, true), (6, true), (7, true), (8, true), (9, true), (10, true), (11, true), (12, true), (13, true), (14, true), (15, true), (16, true), (17, true), (18, true), (19, true), (20, true), (21, true), (22, true), (23, true), (24, true), (25, true), (26, true), (27, true), (28, true)] (fun W => Fr (fun _ => False) W0 W) (by kernel_rfl) (by kernel_rfl) rfl (by kernel_rfl) ((Fr.refl _ _).drew) ?_
          repeat (first | (apply sched_take rfl; (focus (first | rfl | (go_simp; done))); (focus (intro W hW; have f12 := HC.out W hW; have f1 := f12.1; have f2 := f12.2; have q1 := HW1.out; clear f12; go_simp; rfl)); (focus (intro K hK; go_simp; refine hK _ ?_; clear hK K))) | (apply sched_skip rfl; (focus (first | rfl | (go_simp; done))); (focus (intro K hK; go_simp; refine hK _ ?_; clear hK K))))
          refine sched_nil ?_
          go_wp2_with fail
          go_meet
          exact ⟨rfl, (Fr.refl _ _).drew⟩
        · have h3b : decide (te < max M.te 1) = false := decide_eq_false h3
          by_cases h4 : 1099511627776 < te
          · obtain rfl : q = true := HQ2.out.2 (.inr (.inr (.inr h4)))
            have h4b : decide (1099511627776 < te) = true := decide_eq_true h4
            refine wp_region_sched [(0, true), (1, true), (2, true), (3, true), (4, true), (5, true), (6, true), (7, true), (8, true), (9, true), (10, true), (11, true), (12, true), (13, true), (14, true), (15, true), (16, true), (17, true), (18, true), (19, true), (20, true), (21, true), (22, true), (23, true), (24, true), (25, true), (26, true), (27, true), (28, true)] (fun W => Fr (fun _ => False) W0 W) (by kernel_rfl) (by kernel_rfl) rfl (by kernel_rfl) ((Fr.refl _ _).drew) ?_
            repeat (first | (apply sched_take rfl; (focus (first | rfl | (go_simp; done))); (focus (intro W hW; have f12 := HC.out W hW; have f1 := f12.1; have f2 := f12.2; have q1 := HW1.out; clear f12; go_simp; rfl)); (focus (intro K hK; go_simp; refine hK _ ?_; clear hK K))) | (apply sched_skip rfl; (focus (first | rfl | (go_simp; done))); (focus (intro K hK; go_simp; refine hK _ ?_; clear hK K))))
            refine sched_nil ?_
            go_wp2_with fail
            go_meet
            exact ⟨rfl, (Fr.refl _ _).drew⟩
          · have h4b : decide (1099511627776 < te) = false := decide_eq_false h4
            obtain rfl : q = false := by
              cases q
              · rfl
              · rcases HQ2.out.1 rfl with h | h | h | h
                · exact absurd H1.out h
                · exact absurd h h2
                · exact absurd h h3
                · exact absurd h h4
            refine wp_region_sched [(0, true), (1, true), (2, true), (3, true), (4, true), (5, true), (6, true), (7, true), (8, true), (9, true), (10, true), (11, true), (12, true), (13, true), (14, true), (15, true), (16, true), (17, true), (18, true), (19, true), (20, true), (21, true), (22, true), (23, true), (24, true), (25, true), (26, true), (27, true), (28, true)] (fun W => Fr (fun _ => False) W0 W) (by kernel_rfl) (by kernel_rfl) rfl (by kernel_rfl) ((Fr.refl _ _).drew) ?_
            repeat (first | (apply sched_take rfl; (focus (first | rfl | (go_simp; done))); (focus (intro W hW; have f12 := HC.out W hW; have f1 := f12.1; have f2 := f12.2; have q1 := HW1.out; clear f12; go_simp; rfl)); (focus (intro K hK; go_simp; refine hK _ ?_; clear hK K))) | (apply sched_skip rfl; (focus (first | rfl | (go_simp; done))); (focus (intro K hK; go_simp; refine hK _ ?_; clear hK K))))
            refine sched_nil ?_
            go_wp2_with fail
            go_meet
            exact ⟨rfl, (Fr.refl _ _).drew⟩
    · obtain rfl : q = true := HQ2.out.2 (.inl h1)
      have h1b : (ix != M.ix + 1) = true := by simpa using h1
      refine wp_region_sched [(0, true), (1, true), (2, true), (3, true), (4, true), (5, true), (6, true), (7, true), (8, true), (9, true), (10, true), (11, true), (12, true), (13, true), (14, true), (15, true), (16, true), (17, true), (18, true), (19, true), (20, true), (21, true), (22, true), (23, true), (24, true), (25, true), (26, true), (27, true), (28, true)] (fun W => Fr (fun _ => False) W0 W) (by kernel_rfl) (by kernel_rfl) rfl (by kernel_rfl) ((Fr.refl _ _).drew) ?_
      repeat (first | (apply sched_take rfl; (focus (first | rfl | (go_simp; done))); (focus (intro W hW; have f12 := HC.out W hW; have f1 := f12.1; have f2 := f12.2; have q1 := HW1.out; clear f12; go_simp; rfl)); (focus (intro K hK; go_simp; refine hK _ ?_; clear hK K))) | (apply sched_skip rfl; (focus (first | rfl | (go_simp; done))); (focus (intro K hK; go_simp; refine hK _ ?_; clear hK K))))
      refine sched_nil ?_
      go_wp2_with fail
      go_meet
      exact ⟨rfl, (Fr.refl _ _).drew⟩
  case rest =>
  obtain ⟨rfl, hfc⟩ := hcut
  have HFC := Lib.hid hfc
  have hresc := (hfc.block (w.heap.size + 1) (by omega) (fun h => h)).trans HRES.out
  have hmc := HM0.out.fr hfc (fun _ _ h => h)
  have HMC := Lib.hid hmc
  have HRESC := Lib.hid hresc
  have fres := blk_cell hresc
  have gres := blk_frozen hresc
  have fmb := blk_cell hmc.hp
  have gmb := blk_frozen hmc.hp
  have hzc := hfc.size
  have HB1C : Hid (Below w.heap.size w wc) := Lib.hid (HB1.out.trans (hfc.below HB1.out.size (fun k hk => hk.elim)))
  clear hfc hresc hmc
  cases q
  · have HNB : Hid (¬ badE M ⟨ix, te, da⟩) := Lib.hid (fun h => by have := HQ.out.2 h; cases this)
    have HEI : Hid (0 ≤ ix ∧ ix ≤ 1099511627776) := Lib.hid (by have := HNB.out; unfold badE at this; dsimp only at this; omega)
    have HET : Hid (0 ≤ te ∧ te ≤ 1099511627776) := Lib.hid (by have := HNB.out; unfold badE at this; dsimp only at this; omega)
    clear HQ HQ2
    have HC2 : Hid (∀ W, Fr (fun k => k = b) W0 W → (∀ j, W.cell? ⟨w.heap.size, j, none⟩ = (#[.int .i64 ix, .int .i64 te, .slice A n ca] : Array Value)[j]?)) := Lib.hid (fun W hW => blk_cell ((hW.block w.heap.size (by omega) (by omega)).trans HEN.out))
    have HFC2 : Hid (Fr (fun k => k = b) W0 wc) := Lib.hid (HFC.out.mono (fun k hk => hk.elim))
    go_upto_region 5 with fail
    go_cut [] (fun wx => Mc wx b s sm t tm vb c SS S { M with ix := ix, te := te } ∧ Fr (fun k => k = b) W0 wx)
    case first =>
      refine wp_region_sched [(0, true), (1, true), (2, true), (3, true), (4, true), (5, true), (6, true), (7, true), (8, false), (9, true), (10, true), (11, false)] (fun W => Fr (fun k => k = b) W0 W) (by kernel_rfl) (by kernel_rfl) rfl (by kernel_rfl) (HFC2.out.drew) ?_
      repeat (first | (apply sched_take rfl; (focus (first | rfl | (go_simp; done))); (focus (intro W hW; have f1 := HC2.out W hW; go_simp; rfl)); (focus (intro K hK; go_simp; refine hK _ ?_; clear hK K))) | (apply sched_skip rfl; (focus (first | rfl | (go_simp; done))); (focus (intro K hK; go_simp; refine hK _ ?_; clear hK K))))
      apply sched_op rfl
      intro K hK
      go_simp
      go_wp2_with (fail)
      have h1 : Fr (fun k => k = b) W0 ((wc.setCell ⟨b, 2, none⟩ (.int .i64 ix)).drew) := (HFC2.out.setCell (p := ⟨b, 2, none⟩) rfl _).drew
      refine ⟨by exact h1, ?_⟩
      clear h1
      repeat (first | (apply sched_take rfl; (focus (first | rfl | (go_simp; done))); (focus (intro W hW; have f1 := HC2.out W hW; go_simp; rfl)); (focus (intro K hK; go_simp; refine hK _ ?_; clear hK K))) | (apply sched_skip rfl; (focus (first | rfl | (go_simp; done))); (focus (intro K hK; go_simp; refine hK _ ?_; clear hK K))))
      apply sched_op rfl
      intro K hK
      go_simp
      go_wp2_with (fail)
      have h1 : Fr (fun k => k = b) W0 (((wc.setCell ⟨b, 2, none⟩ (.int .i64 ix)).setCell ⟨b, 3, none⟩ (.int .i64 te)).drew) := ((HFC2.out.setCell (p := ⟨b, 2, none⟩) rfl _).setCell (p := ⟨b, 3, none⟩) rfl _).drew
      have HH1 := Lib.hid h1
      refine ⟨by exact h1, ?_⟩
      clear h1
      refine sched_nil ?_
      go_wp2_with fail
      go_meet
      exact ⟨(HMC.out.num HEI.out HET.out).fr (S2 := fun _ => False) (Fr.refl _ _).drew (fun _ _ h => h), HH1.out⟩
    case rest =>
    obtain ⟨hm2, hf2⟩ := hcut
    have HM2 := Lib.hid hm2
    have HF2 := Lib.hid hf2
    have hz2 := hf2.size
    have hent2 := (hf2.block w.heap.size (by omega) (by omega)).trans HEN.out
    have hres2 := (hf2.block (w.heap.size + 1) (by omega) (by omega)).trans HRES.out
    have HRES2 := Lib.hid hres2
    have fent := blk_cell hent2
    have HRD : Hid (RdB wc B A n da) := Lib.hid (Fr.rdN (Rd.below' HR.out HB1.out HB0.out (Nat.le_refl _)) hf2 (by have := HB0.out; omega) (fun hn k hk e => HSD.out hn k hk (e ▸ HSb.out)))
    have HF02 : Hid (Fr S w wc) := Lib.hid ((Fr.of_below HB1.out).step hf2 (fun j hj => .inl (hj ▸ HSb.out)))
    clear hm2 hf2 hent2 hres2 fres gres fmb gmb
    go_wp2_with fail
    refine (mget_any A n ca B da wc (by have := HB0.out; omega) hbig HRD.out).mono ?_
    rintro e w3 ⟨v, rfl, hv, hown1, hown2, hb3⟩
    obtain ⟨⟨ki, se, sq, at_, sp, vo⟩, As, ns, cs, Av, nv, cv⟩ := v
    dsimp only [CmV.val] at hv hown1 hown2 ⊢
    have HO1 := Lib.hid hown1
    have HO2 := Lib.hid hown2
    have HB3 := Lib.hid hb3
    have hz3 := hb3.size
    have hw3 : w.heap.size + 1 < w3.heap.size := by omega
    have HB4 : Hid (Below wc.heap.size wc (w3.alloc (.cells #[.int .i64 ki, .int .i64 se, .int .i64 sq, .int .i64 at_, .slice As ns cs, .slice Av nv cv] 25 (0, 0)))) := Lib.hid (below_alloc (Nat.le_refl _) hb3 _)
    have hres3 := (HB3.out.block (w.heap.size + 1) (by omega)).trans HRES2.out
    have hres4 := (HB4.out.block (w.heap.size + 1) (by omega)).trans HRES2.out
    have hn3a : ¬ w.heap.size = w3.heap.size := by omega
    have hn3b : ¬ w.heap.size + 1 = w3.heap.size := by omega
    have HRES4 := Lib.hid hres4
    have HMA4 := Lib.hid (HM2.out.below HB4.out (Nat.le_refl _))
    clear hown1 hown2 hb3 fent
    cases hcg : cmGet da with
    | none =>
      rw [hcg] at hv
      have hap := applyM_none HNB.out hcg
      dsimp only at hap
      have HAP := Lib.hid hap
      have fres := blk_cell hres3
      have gres := blk_frozen hres3
      clear hv hcg hap hres4 hres3
      simp only [Option.isSome_none, Bool.false_eq_true, if_false]
      go_wp2_with fail
      refine bodyPost_ret (v := .tuple #[.agg #[.int .i64 90, .int .i64 0, .int .i64 0, .int .i64 0, .int .i64 0, .int .i64 0, .int .i64 0, .int .i64 0], .int .i64 0]) (by simp [results, Tryz.results34, go_sem, fres, hw3]) rfl ?_
      rw [HAP.out]
      have hfr8 := fr_eight w3 (w.heap.size + 1) (.int .i64 90) (.int .i64 0) (.int .i64 0) (.int .i64 0) (.int .i64 0) (.int .i64 0) (.int .i64 0) (.int .i64 0)
      have hfa := hfr8.alloc (.cells #[.int .i64 ki, .int .i64 se, .int .i64 sq, .int .i64 at_, .slice As ns cs, .slice Av nv cv] 25 (0, 0))
      refine ⟨rfl, ?_, ?_⟩
      · refine ((HM2.out.below HB3.out (Nat.le_refl _)).fr hfa (fun k hk e => by have := HLT.out k hk; omega)).at_.mono (fun k hk => .inl hk) ?_
        rintro k (hk | hk)
        · have := HLT.out k hk
          have h2 := hfa.size
          omega
        · exact hk.2
      · exact (HF02.out.trans (Fr.of_below HB3.out)).step hfa (fun j hj => .inr (by omega))
    | some cm =>
      rw [hcg] at hv
      dsimp only [Option.getD] at hv
      subst hv
      have hap := applyM_some HNB.out hcg
      dsimp only at hap
      have HDO : Hid (Calls Tryz.prog 80 #[.pointer (some ⟨b, 0, none⟩), .agg #[.int .i64 ki, .int .i64 se, .int .i64 sq, .int .i64 at_, .slice As ns cs, .slice Av nv cv]] (w3.alloc (.cells #[.int .i64 ki, .int .i64 se, .int .i64 sq, .int .i64 at_, .slice As ns cs, .slice Av nv cv] 25 (0, 0))) (ResDo (w3.alloc (.cells #[.int .i64 ki, .int .i64 se, .int .i64 sq, .int .i64 at_, .slice As ns cs, .slice Av nv cv] 25 (0, 0))) b S (doM { M with ix := ix, te := te } ⟨ki, se, sq, at_, sp, vo⟩))) := Lib.hid (mdo_any HMA4.out.at_ ⟨⟨ki, se, sq, at_, sp, vo⟩, As, ns, cs, Av, nv, cv⟩ w3.heap.size (by simp) (cmGet_ok hcg) ⟨Rd.alloc (Rd.of_own HO1.out) _ (Nat.le_refl _) (Nat.le_refl _), Rd.alloc (Rd.of_own HO2.out) _ (Nat.le_refl _) (Nat.le_refl _)⟩ (fun hn k hk hs => by
        obtain ⟨g, hg, hg1, _⟩ := own_form HO1.out hn
        dsimp only at hk
        rw [hg] at hk
        cases hk
        have h9 : g < w.heap.size := HLT.out _ hs
        omega))
      generalize doM { M with ix := ix, te := te } ⟨ki, se, sq, at_, sp, vo⟩ = g at *
      obtain ⟨M5, r, oe⟩ := g
      have HAP := Lib.hid hap
      clear hcg hap hres4 hres3
      simp only [Option.isSome_some, if_true]
      go_wp2_with fail
      refine HDO.out.mono ?_
      rintro e w5 ⟨rfl, hma5, hfr5⟩
      dsimp only at hma5 ⊢
      have hz5 := hfr5.size
      simp only [World.size_alloc] at hz5
      have HMA5 := Lib.hid hma5
      have HF5 := Lib.hid hfr5
      have hres5 := (hfr5.block (w.heap.size + 1) (by simp; omega) (fun hk => by have := HLT.out _ hk; omega)).trans HRES4.out
      have HRES5 := Lib.hid hres5
      have HG5 : Hid (ErrT w5) := Lib.hid (((HG.out.fr HF02.out H0.out).below HB4.out (Nat.le_refl _)).fr hfr5 H0.out)
      have hr5l : w.heap.size + 1 < w5.heap.size := by omega
      have hn5a : ¬ w.heap.size = w5.heap.size := by omega
      have hn5b : ¬ w.heap.size + 1 = w5.heap.size := by omega
      have hn5c : w.heap.size < w5.heap.size := by omega
      clear hma5 hfr5 hres5
      have HFIN : Hid (∀ w9, Fr (fun k => k = w.heap.size + 1 ∨ w5.heap.size ≤ k) w5 w9 → MaAt w9 b (fun k => S k ∨ (w.heap.size ≤ k ∧ k < w9.heap.size)) M5 ∧ Fr S w w9) := Lib.hid (fun w9 h9 => by
        have h59 := h9.size
        refine ⟨(HMA5.out.fr h9 (fun k hk e => ?_)).mono ?_ ?_, ((HF02.out.trans (Fr.of_below HB4.out)).step HF5.out (fun j hj => .inl hj)).step h9 (fun j hj => .inr (by omega))⟩
        · rcases hk with hk | hk
          · have := HLT.out k hk
            rcases e with e | e <;> omega
          · have hk1 := hk.1
            simp only [World.size_alloc] at hk1
            rcases e with e | e <;> omega
        · rintro k (hk | hk)
          · exact .inl hk
          · have hk1 := hk.1
            simp only [World.size_alloc] at hk1
            exact .inr ⟨by omega, by omega⟩
        · rintro k (hk | hk)
          · have := HLT.out k hk; omega
          · exact hk.2)
      cases oe with
      | none =>
        dsimp only [errV]
        have fres := blk_cell HRES5.out
        have gres := blk_frozen HRES5.out
        go_wp2_with fail
        refine (as_nil _ _).mono ?_
        rintro e w6 ⟨rfl, rfl⟩
        go_wp2_with fail
        refine bodyPost_ret (v := .tuple #[.agg #[.int .i64 r.er, .int .i64 r.ss, .int .i64 r.gn, .int .i64 r.ad, .int .i64 r.sa, .int .i64 r.ot, .int .i64 r.cy, .int .i64 r.fu], .int .i64 0]) (by simp [results, Tryz.results34, go_sem, fres, hr5l, hn5c]) rfl ?_
        rw [HAP.out]
        have hfr8 := fr_eight w5 (w.heap.size + 1) (.int .i64 r.er) (.int .i64 r.ss) (.int .i64 r.gn) (.int .i64 r.ad) (.int .i64 r.sa) (.int .i64 r.ot) (.int .i64 r.cy) (.int .i64 r.fu)
        exact ⟨rfl, HFIN.out _ (((hfr8.mono (fun k hk => .inl hk)).alloc _).alloc _)⟩
      | some x =>
        dsimp only [errV]
        have HG7 : Hid (ErrT ((w5.alloc (.cells #[.int .i64 r.er, .int .i64 r.ss, .int .i64 r.gn, .int .i64 r.ad, .int .i64 r.sa, .int .i64 r.ot, .int .i64 r.cy, .int .i64 r.fu] 56 (0, 0))).alloc (.cells #[.int .i64 0] 33 (0, 0)))) := Lib.hid (HG5.out.below (((Below.refl w5.heap.size w5).alloc (Nat.le_refl _) _).alloc (by simp) _) (Nat.le_refl _))
        go_wp2_with fail
        refine (as_got x ⟨w5.heap.size + 1, 0, none⟩ (.int .i64 0) _ HG7.out (blk_cell (heap_at (by simp)) 0) (blk_frozen (heap_at (by simp)) 0)).mono ?_
        rintro e w8 ⟨rfl, hfr8, hx8⟩
        dsimp only at hfr8
        have hz8 := hfr8.size
        simp only [World.size_alloc] at hz8
        have HF8 : Hid (Fr (fun k => k = w.heap.size + 1 ∨ w5.heap.size ≤ k) w5 w8) := Lib.hid ((((Fr.refl _ w5).alloc _).alloc _).trans (hfr8.mono (fun k hk => .inr (by omega))))
        have hb8 : w8.heap[w5.heap.size]? = some (.cells #[.int .i64 r.er, .int .i64 r.ss, .int .i64 r.gn, .int .i64 r.ad, .int .i64 r.sa, .int .i64 r.ot, .int .i64 r.cy, .int .i64 r.fu] 56 (0, 0)) := (hfr8.block _ (by simp only [World.size_alloc]; omega) (by omega)).trans ((Below.heap_alloc _ _ _ (by simp)).trans (heap_at rfl))
        have HB8 := Lib.hid hb8
        have fb8 := blk_cell hb8
        have gb8 := blk_frozen hb8
        have hres8 := (hfr8.block (w.heap.size + 1) (by simp only [World.size_alloc]; omega) (by omega)).trans ((Below.heap_alloc _ _ _ (by simp only [World.size_alloc]; omega)).trans ((Below.heap_alloc _ _ _ (by omega)).trans HRES5.out))
        have fres := blk_cell hres8
        have gres := blk_frozen hres8
        clear hfr8 hb8 hres8
        go_wp2_with fail
        refine bodyPost_ret (v := .tuple #[.agg #[.int .i64 x, .int .i64 0, .int .i64 0, .int .i64 0, .int .i64 0, .int .i64 0, .int .i64 0, .int .i64 0], .int .i64 0]) (by simp [results, Tryz.results34, go_sem, fres]) rfl ?_
        rw [HAP.out]
        have hfx := fr_eight w8 w5.heap.size (.int .i64 x) (.int .i64 0) (.int .i64 0) (.int .i64 0) (.int .i64 0) (.int .i64 0) (.int .i64 0) (.int .i64 0)
        have hfy := fr_eight (((((((((w8.setCell ⟨w5.heap.size, 0, none⟩ (.int .i64 x)).setCell ⟨w5.heap.size, 1, none⟩ (.int .i64 0)).setCell ⟨w5.heap.size, 2, none⟩ (.int .i64 0)).setCell ⟨w5.heap.size, 3, none⟩ (.int .i64 0)).setCell ⟨w5.heap.size, 4, none⟩ (.int .i64 0)).setCell ⟨w5.heap.size, 5, none⟩ (.int .i64 0)).setCell ⟨w5.heap.size, 6, none⟩ (.int .i64 0)).setCell ⟨w5.heap.size, 7, none⟩ (.int .i64 0))) (w.heap.size + 1) (.int .i64 x) (.int .i64 0) (.int .i64 0) (.int .i64 0) (.int .i64 0) (.int .i64 0) (.int .i64 0) (.int .i64 0)
        exact ⟨rfl, HFIN.out _ ((HF8.out.trans (hfx.mono (fun k hk => .inr (by omega)))).trans (hfy.mono (fun k hk => .inl hk)))⟩
  · have HNB : Hid (badE M ⟨ix, te, da⟩) := Lib.hid (HQ.out.1 rfl)
    clear HQ HQ2
    go_wp2_with fail
    refine bodyPost_ret (v := .tuple #[.agg #[.int .i64 0, .int .i64 0, .int .i64 0, .int .i64 0, .int .i64 0, .int .i64 0, .int .i64 0, .int .i64 0], .int .i64 51]) (by simp [results, Tryz.results34, go_sem, fres]) rfl ?_
    rw [applyM_bad HNB.out]
    have hfr8 := fr_eight wc (w.heap.size + 1) (.int .i64 0) (.int .i64 0) (.int .i64 0) (.int .i64 0) (.int .i64 0) (.int .i64 0) (.int .i64 0) (.int .i64 0)
    exact ⟨rfl, H.out.at_.same (HB1C.out.trans (hfr8.below HB1C.out.size (fun k hk => by omega)))⟩
end Go.Proofs.YtempkjnaahgbhaaGreatDoor
