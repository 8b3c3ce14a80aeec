/-
  The walk of a machine's do. Conditions: the machine lies in memory as New made it; a command that may be, whose spans lie outside of the machine.
-/
import Derived.Test.YtempkjnaahgbhaaGreatDoorMachN
import Derived.Test.YtempkjnaahgbhaaGreatDoorForest6
namespace Go.Proofs.YtempkjnaahgbhaaGreatDoor
open Go Go.RowKit Go.Maps

set_option maxRecDepth 100000 in
set_option maxHeartbeats 4000000 in
theorem mdo1_any {w : World} {b : Nat} {S : Nat → Prop} {M : Ma} (h : MaAt w b S M) (v : CmV) (B : Nat) (hB : B ≤ w.heap.size) (hok : v.c.ok = true) (hki : v.c.ki = 1) (hr : RdCm w B v) (hS : 0 < v.ns → ∀ k, v.As.map (·.block) = some k → ¬ S k) :
    Calls Tryz.prog 80 #[.pointer (some ⟨b, 0, none⟩), v.val] w (ResDo w b S (doM M v.c)) := by
  obtain ⟨s, sm, t, tm, vb, c, SS, h⟩ := h
  obtain ⟨⟨ki, se, sq, at_, sp, vo⟩, As, ns, cs, Av, nv, cv⟩ := v
  dsimp only [CmV.val] at *
  subst hki
  have HOK := Lib.hid hok
  have HS := Lib.hid hS
  have HR := Lib.hid hr
  have HB0 := Lib.hid hB
  have H := Lib.hid h
  have hix := h.gr.i0
  have hix1 := h.gr.i1
  generalize hW0 : (w.alloc (.cells #[.int .i64 1, .int .i64 se, .int .i64 sq, .int .i64 at_, .slice As ns cs, .slice Av nv cv] 25 (0, 0))).alloc (.cells #[.int .i64 0, .int .i64 0, .int .i64 0, .int .i64 0, .int .i64 0, .int .i64 0, .int .i64 0, .int .i64 0] 56 (0, 0)) = W0
  have hz0 : W0.heap.size = w.heap.size + 2 := by rw [← hW0]; simp
  have hb0 : Below w.heap.size w W0 := by rw [← hW0]; exact ((Below.refl _ _).alloc (Nat.le_refl _) _).alloc (by simp) _
  have hc0 : W0.heap[w.heap.size]? = some (.cells #[.int .i64 1, .int .i64 se, .int .i64 sq, .int .i64 at_, .slice As ns cs, .slice Av nv cv] 25 (0, 0)) := by
    rw [← hW0]
    exact (Below.heap_alloc _ _ _ (by simp)).trans (heap_alloc_new w _)
  have hc1 : W0.heap[w.heap.size + 1]? = some (.cells #[.int .i64 0, .int .i64 0, .int .i64 0, .int .i64 0, .int .i64 0, .int .i64 0, .int .i64 0, .int .i64 0] 56 (0, 0)) := by
    rw [← hW0]
    exact heap_at (by simp)
  have HM0 := Lib.hid (h.below hb0 (Nat.le_refl _))
  have HB1 := Lib.hid hb0
  have HCM := Lib.hid hc0
  have HRES := Lib.hid hc1
  have hz0x : w.heap.size + 2 ≤ W0.heap.size := by omega
  have hbl : b < w.heap.size := h.lt b h.sb.1
  have html : tm < w.heap.size := h.lt _ h.sb.2.2.1
  have hSl : Hid (∀ k, SS k → k < w.heap.size) := Lib.hid (fun k hk => h.lt k (h.sS k hk))
  have fcm := blk_cell hc0
  have fmb := blk_cell HM0.out.hp
  have fres := blk_cell hc1
  have gres := blk_frozen hc1
  have HDM : Hid (doM M ⟨1, se, sq, at_, sp, vo⟩ = if (opnS M.L M.ix).2 ≠ 0 then ({ M with L := (opnS M.L M.ix).1 }, Rp.zero, some (opnS M.L M.ix).2) else ({ M with L := (opnS M.L M.ix).1 }, { Rp.zero with ss := M.ix }, none)) := Lib.hid (by
    unfold doM
    rw [if_pos rfl])
  clear h hr hS hB hok hb0 hc0 hc1 hz0
  have HOPN : Hid (Calls Tryz.prog 119 #[.pointer (some ⟨t, 0, none⟩), .int .i64 M.ix] W0.drew (ResOpn W0.drew t tm M.L M.ix)) := Lib.hid (topen_any (HM0.out.tb.drewN 1) M.ix (wfI_of (by omega) (by omega)))
  generalize hO : opnS M.L M.ix = o at *
  obtain ⟨L2, eo⟩ := o
  have HO := Lib.hid hO
  clear hO
  have HC : Hid (∀ W, Fr (fun k => k = tm) W0 W → (∀ j, W.cell? ⟨b, j, none⟩ = (#[.pointer (some ⟨s, 0, none⟩), .pointer (some ⟨t, 0, none⟩), .int .i64 M.ix, .int .i64 M.te, .slice (some ⟨vb, 0, none⟩) M.vo.length c] : Array Value)[j]?) ∧ (∀ j, W.cell? ⟨w.heap.size, j, none⟩ = (#[.int .i64 1, .int .i64 se, .int .i64 sq, .int .i64 at_, .slice As ns cs, .slice Av nv cv] : Array Value)[j]?)) := Lib.hid (fun W hW => ⟨blk_cell ((hW.block b (by omega) H.out.n1.2.1).trans HM0.out.hp), blk_cell ((hW.block w.heap.size (by omega) (by omega)).trans HCM.out)⟩)
  go_enter Tryz.func80, Tryz.ntmps80
  go_wp2_with fail
  clear hW0
  refine wp_region_sched [(0, true), (1, true), (2, true), (3, true), (4, true), (5, true), (6, true), (7, true), (8, false), (9, true)] (fun W => Fr (fun k => k = tm) W0 W) (by kernel_rfl) (by kernel_rfl) rfl (by kernel_rfl) ((Fr.refl _ _).drew) ?_
  repeat (first | (apply sched_take rfl; (focus (first | rfl | (go_simp; done))); (focus (intro W hW; have f12 := HC.out W hW; have f1 := f12.1; have f2 := f12.2; clear f12; go_simp; rfl)); (focus (intro K hK; go_simp; refine hK _ ?_; clear hK K))) | (apply sched_skip rfl; (focus (first | rfl | (go_simp; done))); (focus (intro K hK; go_simp; refine hK _ ?_; clear hK K))))
  apply sched_op rfl
  intro K hK
  go_simp
  go_wp2_with (fail)
  refine HOPN.out.mono ?_
  rintro e w2 ⟨rfl, htb2, hfr2⟩
  rw [HO.out] at htb2 ⊢
  dsimp only at htb2 ⊢
  have HF2 : Hid (Fr (fun k => k = tm) W0 w2) := Lib.hid ((Fr.refl (fun k => k = tm) W0).drew.trans hfr2)
  have HM2 := Lib.hid ((HM0.out.drewN 1).tab htb2 hfr2)
  have hres2 : w2.heap[w.heap.size + 1]? = some (.cells #[.int .i64 0, .int .i64 0, .int .i64 0, .int .i64 0, .int .i64 0, .int .i64 0, .int .i64 0, .int .i64 0] 56 (0, 0)) := (HF2.out.block _ (by omega) (by omega)).trans HRES.out
  clear fres gres fmb fcm htb2 hfr2
  have fres := blk_cell hres2
  have gres := blk_frozen hres2
  have fmb := blk_cell HM2.out.hp
  clear hres2
  go_wp2_with fail
  refine ⟨by exact HF2.out, ?_⟩
  repeat (first | (apply sched_take rfl; (focus (first | rfl | (go_simp; done))); (focus (intro W hW; have f12 := HC.out W hW; have f1 := f12.1; have f2 := f12.2; clear f12; go_simp; rfl)); (focus (intro K hK; go_simp; refine hK _ ?_; clear hK K))) | (apply sched_skip rfl; (focus (first | rfl | (go_simp; done))); (focus (intro K hK; go_simp; refine hK _ ?_; clear hK K))))
  refine sched_nil ?_
  have hdm := HDM.out
  by_cases he : eo = 0
  · subst he
    rw [if_neg (by simp)] at hdm
    have HD2 := Lib.hid hdm
    clear hdm HDM
    have HDM := HD2
    go_wp2_with fail
    refine bodyPost_ret (v := .tuple #[.agg #[.int .i64 0, .int .i64 M.ix, .int .i64 0, .int .i64 0, .int .i64 0, .int .i64 0, .int .i64 0, .int .i64 0], .nilIface]) (by simp [results, Tryz.results80, go_sem, fres]) rfl ?_
    rw [HDM.out]
    have hfr8 := fr_eight w2 (w.heap.size + 1) (.int .i64 0) (.int .i64 M.ix) (.int .i64 0) (.int .i64 0) (.int .i64 0) (.int .i64 0) (.int .i64 0) (.int .i64 0)
    have hM8 := HM2.out.fr hfr8 (fun k hk e => by have := H.out.lt k hk; omega)
    have h28 := hfr8.size
    have h02 := HF2.out.size
    refine ⟨rfl, ?_, ?_⟩
    · refine (hM8.at_).mono (fun k hk => .inl hk) ?_
      rintro k (hk | hk)
      · have := H.out.lt k hk; omega
      · exact hk.2
    · exact ((Fr.of_below HB1.out).step HF2.out (fun j hj => .inl (hj ▸ H.out.sb.2.2.1))).step hfr8 (fun j hj => .inr (by omega))
  · have hbe : (eo != 0) = true := by simpa using he
    rw [if_pos he] at hdm
    have HD2 := Lib.hid hdm
    clear hdm HDM he
    have HDM := HD2
    go_wp2_with fail
    refine bodyPost_ret (v := .tuple #[.agg #[.int .i64 0, .int .i64 0, .int .i64 0, .int .i64 0, .int .i64 0, .int .i64 0, .int .i64 0, .int .i64 0], .iface 33 (.int .i64 eo)]) (by simp [results, Tryz.results80, go_sem, fres]) rfl ?_
    rw [HDM.out]
    have hfr8 := fr_eight w2 (w.heap.size + 1) (.int .i64 0) (.int .i64 0) (.int .i64 0) (.int .i64 0) (.int .i64 0) (.int .i64 0) (.int .i64 0) (.int .i64 0)
    have hM8 := HM2.out.fr hfr8 (fun k hk e => by have := H.out.lt k hk; omega)
    have h28 := hfr8.size
    have h02 := HF2.out.size
    refine ⟨rfl, ?_, ?_⟩
    · refine (hM8.at_).mono (fun k hk => .inl hk) ?_
      rintro k (hk | hk)
      · have := H.out.lt k hk; omega
      · exact hk.2
    · exact ((Fr.of_below HB1.out).step HF2.out (fun j hj => .inl (hj ▸ H.out.sb.2.2.1))).step hfr8 (fun j hj => .inr (by omega))
set_option maxRecDepth 100000 in
set_option maxHeartbeats 4000000 in
theorem mdo2_any {w : World} {b : Nat} {S : Nat → Prop} {M : Ma} (h : MaAt w b S M) (v : CmV) (B : Nat) (hB : B ≤ w.heap.size) (hok : v.c.ok = true) (hki : v.c.ki = 2) (hr : RdCm w B v) (hS : 0 < v.ns → ∀ k, v.As.map (·.block) = some k → ¬ S k) :
    Calls Tryz.prog 80 #[.pointer (some ⟨b, 0, none⟩), v.val] w (ResDo w b S (doM M v.c)) := by
  obtain ⟨s, sm, t, tm, vb, c, SS, h⟩ := h
  obtain ⟨⟨ki, se, sq, at_, sp, vo⟩, As, ns, cs, Av, nv, cv⟩ := v
  dsimp only [CmV.val] at *
  subst hki
  have HOK := Lib.hid hok
  have HS := Lib.hid hS
  have HR := Lib.hid hr
  have HB0 := Lib.hid hB
  have H := Lib.hid h
  have hix := h.gr.i0
  have hix1 := h.gr.i1
  generalize hW0 : (w.alloc (.cells #[.int .i64 2, .int .i64 se, .int .i64 sq, .int .i64 at_, .slice As ns cs, .slice Av nv cv] 25 (0, 0))).alloc (.cells #[.int .i64 0, .int .i64 0, .int .i64 0, .int .i64 0, .int .i64 0, .int .i64 0, .int .i64 0, .int .i64 0] 56 (0, 0)) = W0
  have hz0 : W0.heap.size = w.heap.size + 2 := by rw [← hW0]; simp
  have hb0 : Below w.heap.size w W0 := by rw [← hW0]; exact ((Below.refl _ _).alloc (Nat.le_refl _) _).alloc (by simp) _
  have hc0 : W0.heap[w.heap.size]? = some (.cells #[.int .i64 2, .int .i64 se, .int .i64 sq, .int .i64 at_, .slice As ns cs, .slice Av nv cv] 25 (0, 0)) := by
    rw [← hW0]
    exact (Below.heap_alloc _ _ _ (by simp)).trans (heap_alloc_new w _)
  have hc1 : W0.heap[w.heap.size + 1]? = some (.cells #[.int .i64 0, .int .i64 0, .int .i64 0, .int .i64 0, .int .i64 0, .int .i64 0, .int .i64 0, .int .i64 0] 56 (0, 0)) := by
    rw [← hW0]
    exact heap_at (by simp)
  have HM0 := Lib.hid (h.below hb0 (Nat.le_refl _))
  have HB1 := Lib.hid hb0
  have HCM := Lib.hid hc0
  have HRES := Lib.hid hc1
  have hz0x : w.heap.size + 2 ≤ W0.heap.size := by omega
  have hbl : b < w.heap.size := h.lt b h.sb.1
  have html : tm < w.heap.size := h.lt _ h.sb.2.2.1
  have hSl : Hid (∀ k, SS k → k < w.heap.size) := Lib.hid (fun k hk => h.lt k (h.sS k hk))
  have fcm := blk_cell hc0
  have fmb := blk_cell HM0.out.hp
  have fres := blk_cell hc1
  have gres := blk_frozen hc1
  have HDM : Hid (doM M ⟨2, se, sq, at_, sp, vo⟩ = ingM M ⟨2, se, sq, at_, sp, vo⟩) := Lib.hid (by
    unfold doM
    dsimp only
    rw [if_neg (by decide), if_pos rfl])
  clear h hr hS hB hok hb0 hc0 hc1 hz0
  have HING : Hid (Calls Tryz.prog 120 #[.pointer (some ⟨b, 0, none⟩), .agg #[.int .i64 2, .int .i64 se, .int .i64 sq, .int .i64 at_, .slice As ns cs, .slice Av nv cv]] W0 (ResDo W0 b S (ingM M ⟨2, se, sq, at_, sp, vo⟩))) := Lib.hid (mingest_any HM0.out.at_ ⟨⟨2, se, sq, at_, sp, vo⟩, As, ns, cs, Av, nv, cv⟩ B (by have := HB0.out; omega) HOK.out rfl (HR.out.below HB1.out HB0.out) HS.out)
  generalize hg : ingM M ⟨2, se, sq, at_, sp, vo⟩ = g at *
  obtain ⟨M2, r, oe⟩ := g
  clear hg
  go_enter Tryz.func80, Tryz.ntmps80
  go_wp2_with fail
  clear hW0
  refine HING.out.mono ?_
  rintro e w2 ⟨rfl, hma2, hfr2⟩
  dsimp only at hma2 ⊢
  have HMA2 := Lib.hid hma2
  have HF2 := Lib.hid hfr2
  have hres2 : w2.heap[w.heap.size + 1]? = some (.cells #[.int .i64 0, .int .i64 0, .int .i64 0, .int .i64 0, .int .i64 0, .int .i64 0, .int .i64 0, .int .i64 0] 56 (0, 0)) := (hfr2.block _ (by omega) (fun hk => by have := H.out.lt _ hk; omega)).trans HRES.out
  clear fres gres fmb fcm hma2 hfr2
  have fres := blk_cell hres2
  have gres := blk_frozen hres2
  clear hres2
  go_wp2_with fail
  refine bodyPost_ret (v := .tuple #[.agg #[.int .i64 r.er, .int .i64 r.ss, .int .i64 r.gn, .int .i64 r.ad, .int .i64 r.sa, .int .i64 r.ot, .int .i64 r.cy, .int .i64 r.fu], errV oe]) (by simp [results, Tryz.results80, go_sem, fres]) rfl ?_
  rw [HDM.out]
  have hfr8 := fr_eight w2 (w.heap.size + 1) (.int .i64 r.er) (.int .i64 r.ss) (.int .i64 r.gn) (.int .i64 r.ad) (.int .i64 r.sa) (.int .i64 r.ot) (.int .i64 r.cy) (.int .i64 r.fu)
  have hM8 := HMA2.out.fr hfr8 (fun k hk e => by
    rcases hk with hk | hk
    · have := H.out.lt k hk; omega
    · omega)
  have h28 := hfr8.size
  have h02 := HF2.out.size
  refine ⟨rfl, ?_, ?_⟩
  · refine hM8.mono ?_ ?_
    · rintro k (hk | hk)
      · exact .inl hk
      · exact .inr ⟨by omega, by omega⟩
    · rintro k (hk | hk)
      · have := H.out.lt k hk; omega
      · exact hk.2
  · exact ((Fr.of_below HB1.out).step HF2.out (fun j hj => .inl hj)).step hfr8 (fun j hj => .inr (by omega))
set_option maxRecDepth 100000 in
set_option maxHeartbeats 4000000 in
theorem mdo3_any {w : World} {b : Nat} {S : Nat → Prop} {M : Ma} (h : MaAt w b S M) (v : CmV) (B : Nat) (hB : B ≤ w.heap.size) (hok : v.c.ok = true) (hki : v.c.ki = 3) (hr : RdCm w B v) (hS : 0 < v.ns → ∀ k, v.As.map (·.block) = some k → ¬ S k) :
    Calls Tryz.prog 80 #[.pointer (some ⟨b, 0, none⟩), v.val] w (ResDo w b S (doM M v.c)) := by
  obtain ⟨s, sm, t, tm, vb, c, SS, h⟩ := h
  obtain ⟨⟨ki, se, sq, at_, sp, vo⟩, As, ns, cs, Av, nv, cv⟩ := v
  dsimp only [CmV.val] at *
  subst hki
  have HOK := Lib.hid hok
  have HS := Lib.hid hS
  have HR := Lib.hid hr
  have HB0 := Lib.hid hB
  have H := Lib.hid h
  have hix := h.gr.i0
  have hix1 := h.gr.i1
  generalize hW0 : (w.alloc (.cells #[.int .i64 3, .int .i64 se, .int .i64 sq, .int .i64 at_, .slice As ns cs, .slice Av nv cv] 25 (0, 0))).alloc (.cells #[.int .i64 0, .int .i64 0, .int .i64 0, .int .i64 0, .int .i64 0, .int .i64 0, .int .i64 0, .int .i64 0] 56 (0, 0)) = W0
  have hz0 : W0.heap.size = w.heap.size + 2 := by rw [← hW0]; simp
  have hb0 : Below w.heap.size w W0 := by rw [← hW0]; exact ((Below.refl _ _).alloc (Nat.le_refl _) _).alloc (by simp) _
  have hc0 : W0.heap[w.heap.size]? = some (.cells #[.int .i64 3, .int .i64 se, .int .i64 sq, .int .i64 at_, .slice As ns cs, .slice Av nv cv] 25 (0, 0)) := by
    rw [← hW0]
    exact (Below.heap_alloc _ _ _ (by simp)).trans (heap_alloc_new w _)
  have hc1 : W0.heap[w.heap.size + 1]? = some (.cells #[.int .i64 0, .int .i64 0, .int .i64 0, .int .i64 0, .int .i64 0, .int .i64 0, .int .i64 0, .int .i64 0] 56 (0, 0)) := by
    rw [← hW0]
    exact heap_at (by simp)
  have HM0 := Lib.hid (h.below hb0 (Nat.le_refl _))
  have HB1 := Lib.hid hb0
  have HCM := Lib.hid hc0
  have HRES := Lib.hid hc1
  have hz0x : w.heap.size + 2 ≤ W0.heap.size := by omega
  have hbl : b < w.heap.size := h.lt b h.sb.1
  have html : tm < w.heap.size := h.lt _ h.sb.2.2.1
  have hSl : Hid (∀ k, SS k → k < w.heap.size) := Lib.hid (fun k hk => h.lt k (h.sS k hk))
  have fcm := blk_cell hc0
  have fmb := blk_cell HM0.out.hp
  have fres := blk_cell hc1
  have gres := blk_frozen hc1
  have HDM : Hid (doM M ⟨3, se, sq, at_, sp, vo⟩ = ({ M with L := expS M.L at_ }, { Rp.zero with gn := (M.L.length : Int) - ((expS M.L at_).length : Int) }, none)) := Lib.hid (by
    unfold doM
    dsimp only
    rw [if_neg (by decide), if_neg (by decide), if_pos rfl])
  clear h hr hS hB hok hb0 hc0 hc1 hz0
  have HEXP : Hid (Calls Tryz.prog 121 #[.pointer (some ⟨t, 0, none⟩), .int .i64 at_] W0.drew (ResExp W0.drew t tm M.L at_)) := Lib.hid (texp_any (HM0.out.tb.drewN 1) at_)
  have HC : Hid (∀ W, Fr (fun k => k = tm ∨ k = w.heap.size + 1) W0 W → (∀ j, W.cell? ⟨b, j, none⟩ = (#[.pointer (some ⟨s, 0, none⟩), .pointer (some ⟨t, 0, none⟩), .int .i64 M.ix, .int .i64 M.te, .slice (some ⟨vb, 0, none⟩) M.vo.length c] : Array Value)[j]?) ∧ (∀ j, W.cell? ⟨w.heap.size, j, none⟩ = (#[.int .i64 3, .int .i64 se, .int .i64 sq, .int .i64 at_, .slice As ns cs, .slice Av nv cv] : Array Value)[j]?)) := Lib.hid (fun W hW => ⟨blk_cell ((hW.block b (by omega) (fun hk => by
      rcases hk with hk | hk
      · exact H.out.n1.2.1 hk
      · omega)).trans HM0.out.hp), blk_cell ((hW.block w.heap.size (by omega) (fun hk => by
      rcases hk with hk | hk
      · omega
      · omega)).trans HCM.out)⟩)
  go_enter Tryz.func80, Tryz.ntmps80
  go_wp2_with fail
  clear hW0
  refine wp_region_sched [(0, true), (1, true), (2, true), (3, true), (4, true), (5, true), (6, false), (7, true), (8, false), (9, true)] (fun W => Fr (fun k => k = tm ∨ k = w.heap.size + 1) W0 W) (by kernel_rfl) (by kernel_rfl) rfl (by kernel_rfl) ((Fr.refl _ _).drew) ?_
  repeat (first | (apply sched_take rfl; (focus (first | rfl | (go_simp; done))); (focus (intro W hW; have f12 := HC.out W hW; have f1 := f12.1; have f2 := f12.2; clear f12; go_simp; rfl)); (focus (intro K hK; go_simp; refine hK _ ?_; clear hK K))) | (apply sched_skip rfl; (focus (first | rfl | (go_simp; done))); (focus (intro K hK; go_simp; refine hK _ ?_; clear hK K))))
  apply sched_op rfl
  intro K hK
  go_simp
  go_wp2_with (fail)
  refine HEXP.out.mono ?_
  rintro e w2 ⟨rfl, htb2, hfr2⟩
  have HF2 : Hid (Fr (fun k => k = tm) W0 w2) := Lib.hid ((Fr.refl (fun k => k = tm) W0).drew.trans hfr2)
  have HM2 := Lib.hid ((HM0.out.drewN 1).tab htb2 hfr2)
  generalize (M.L.length : Int) - ((expS M.L at_).length : Int) = gn at *
  clear htb2 hfr2
  have hres2 : w2.heap[w.heap.size + 1]? = some (.cells #[.int .i64 0, .int .i64 0, .int .i64 0, .int .i64 0, .int .i64 0, .int .i64 0, .int .i64 0, .int .i64 0] 56 (0, 0)) := (HF2.out.block _ (by omega) (by omega)).trans HRES.out
  clear fres gres fmb fcm
  have HRES2 := Lib.hid hres2
  have fres := blk_cell hres2
  have gres := blk_frozen hres2
  clear hres2
  go_wp2_with fail
  refine ⟨by exact HF2.out.mono (fun k hk => .inl hk), ?_⟩
  repeat (first | (apply sched_take rfl; (focus (first | rfl | (go_simp; done))); (focus (intro W hW; have f12 := HC.out W hW; have f1 := f12.1; have f2 := f12.2; clear f12; go_simp; rfl)); (focus (intro K hK; go_simp; refine hK _ ?_; clear hK K))) | (apply sched_skip rfl; (focus (first | rfl | (go_simp; done))); (focus (intro K hK; go_simp; refine hK _ ?_; clear hK K))))
  apply sched_op rfl
  intro K hK
  go_simp
  go_wp2_with (fail)
  have hfr8 := fr_eight w2 (w.heap.size + 1) (.int .i64 0) (.int .i64 0) (.int .i64 gn) (.int .i64 0) (.int .i64 0) (.int .i64 0) (.int .i64 0) (.int .i64 0)
  refine ⟨by exact (HF2.out.mono (fun k hk => .inl hk)).trans (hfr8.mono (fun k hk => .inr hk)), ?_⟩
  clear hfr8
  repeat (first | (apply sched_take rfl; (focus (first | rfl | (go_simp; done))); (focus (intro W hW; have f12 := HC.out W hW; have f1 := f12.1; have f2 := f12.2; clear f12; go_simp; rfl)); (focus (intro K hK; go_simp; refine hK _ ?_; clear hK K))) | (apply sched_skip rfl; (focus (first | rfl | (go_simp; done))); (focus (intro K hK; go_simp; refine hK _ ?_; clear hK K))))
  refine sched_nil ?_
  go_wp2_with fail
  refine bodyPost_ret (v := .tuple #[.agg #[.int .i64 0, .int .i64 0, .int .i64 gn, .int .i64 0, .int .i64 0, .int .i64 0, .int .i64 0, .int .i64 0], .nilIface]) (by simp [results, Tryz.results80, go_sem, fres]) rfl ?_
  rw [HDM.out]
  have hfr8 := fr_eight w2 (w.heap.size + 1) (.int .i64 0) (.int .i64 0) (.int .i64 gn) (.int .i64 0) (.int .i64 0) (.int .i64 0) (.int .i64 0) (.int .i64 0)
  have hM8 := HM2.out.fr hfr8 (fun k hk e => by have := H.out.lt k hk; omega)
  have h28 := hfr8.size
  have h02 := HF2.out.size
  refine ⟨rfl, ?_, ?_⟩
  · refine (hM8.at_).mono (fun k hk => .inl hk) ?_
    rintro k (hk | hk)
    · have := H.out.lt k hk; omega
    · exact hk.2
  · exact ((Fr.of_below HB1.out).step HF2.out (fun j hj => .inl (hj ▸ H.out.sb.2.2.1))).step hfr8 (fun j hj => .inr (by omega))
set_option maxRecDepth 100000 in
set_option maxHeartbeats 4000000 in
theorem mdo4_any {w : World} {b : Nat} {S : Nat → Prop} {M : Ma} (h : MaAt w b S M) (v : CmV) (B : Nat) (hB : B ≤ w.heap.size) (hok : v.c.ok = true) (hki : v.c.ki = 4) (hr : RdCm w B v) (hS : 0 < v.ns → ∀ k, v.As.map (·.block) = some k → ¬ S k) :
    Calls Tryz.prog 80 #[.pointer (some ⟨b, 0, none⟩), v.val] w (ResDo w b S (doM M v.c)) := by
  obtain ⟨s, sm, t, tm, vb, c, SS, h⟩ := h
  obtain ⟨⟨ki, se, sq, at_, sp, vo⟩, As, ns, cs, Av, nv, cv⟩ := v
  dsimp only [CmV.val] at *
  subst hki
  have HOK := Lib.hid hok
  have HS := Lib.hid hS
  have HR := Lib.hid hr
  have HB0 := Lib.hid hB
  have H := Lib.hid h
  have hix := h.gr.i0
  have hix1 := h.gr.i1
  generalize hW0 : (w.alloc (.cells #[.int .i64 4, .int .i64 se, .int .i64 sq, .int .i64 at_, .slice As ns cs, .slice Av nv cv] 25 (0, 0))).alloc (.cells #[.int .i64 0, .int .i64 0, .int .i64 0, .int .i64 0, .int .i64 0, .int .i64 0, .int .i64 0, .int .i64 0] 56 (0, 0)) = W0
  have hz0 : W0.heap.size = w.heap.size + 2 := by rw [← hW0]; simp
  have hb0 : Below w.heap.size w W0 := by rw [← hW0]; exact ((Below.refl _ _).alloc (Nat.le_refl _) _).alloc (by simp) _
  have hc0 : W0.heap[w.heap.size]? = some (.cells #[.int .i64 4, .int .i64 se, .int .i64 sq, .int .i64 at_, .slice As ns cs, .slice Av nv cv] 25 (0, 0)) := by
    rw [← hW0]
    exact (Below.heap_alloc _ _ _ (by simp)).trans (heap_alloc_new w _)
  have hc1 : W0.heap[w.heap.size + 1]? = some (.cells #[.int .i64 0, .int .i64 0, .int .i64 0, .int .i64 0, .int .i64 0, .int .i64 0, .int .i64 0, .int .i64 0] 56 (0, 0)) := by
    rw [← hW0]
    exact heap_at (by simp)
  have HM0 := Lib.hid (h.below hb0 (Nat.le_refl _))
  have HB1 := Lib.hid hb0
  have HCM := Lib.hid hc0
  have HRES := Lib.hid hc1
  have hz0x : w.heap.size + 2 ≤ W0.heap.size := by omega
  have hbl : b < w.heap.size := h.lt b h.sb.1
  have html : tm < w.heap.size := h.lt _ h.sb.2.2.1
  have hSl : Hid (∀ k, SS k → k < w.heap.size) := Lib.hid (fun k hk => h.lt k (h.sS k hk))
  have fcm := blk_cell hc0
  have fmb := blk_cell HM0.out.hp
  have fres := blk_cell hc1
  have gres := blk_frozen hc1
  have HDM : Hid (doM M ⟨4, se, sq, at_, sp, vo⟩ = ({ M with T := retT M.T at_ }, { Rp.zero with gn := (M.T.length : Int) - ((retT M.T at_).length : Int) }, none)) := Lib.hid (by
    unfold doM
    dsimp only
    rw [if_neg (by decide), if_neg (by decide), if_neg (by decide), if_pos rfl])
  clear h hr hS hB hok hb0 hc0 hc1 hz0
  have HRET : Hid (Calls Tryz.prog 122 #[.pointer (some ⟨s, 0, none⟩), .int .i64 at_] W0.drew (ResRet W0.drew s sm SS M.T at_)) := Lib.hid (retain_any (HM0.out.st.drewN 1) at_)
  have HC : Hid (∀ W, Fr (fun k => SS k ∨ k = w.heap.size + 1) W0 W → (∀ j, W.cell? ⟨b, j, none⟩ = (#[.pointer (some ⟨s, 0, none⟩), .pointer (some ⟨t, 0, none⟩), .int .i64 M.ix, .int .i64 M.te, .slice (some ⟨vb, 0, none⟩) M.vo.length c] : Array Value)[j]?) ∧ (∀ j, W.cell? ⟨w.heap.size, j, none⟩ = (#[.int .i64 4, .int .i64 se, .int .i64 sq, .int .i64 at_, .slice As ns cs, .slice Av nv cv] : Array Value)[j]?)) := Lib.hid (fun W hW => ⟨blk_cell ((hW.block b (by omega) (fun hk => by
      rcases hk with hk | hk
      · exact H.out.n2.1 hk
      · omega)).trans HM0.out.hp), blk_cell ((hW.block w.heap.size (by omega) (fun hk => by
      rcases hk with hk | hk
      · have := hSl.out _ hk; omega
      · omega)).trans HCM.out)⟩)
  go_enter Tryz.func80, Tryz.ntmps80
  go_wp2_with fail
  clear hW0
  refine wp_region_sched [(0, true), (1, true), (2, true), (3, true), (4, true), (5, true), (6, false), (7, true), (8, false), (9, true)] (fun W => Fr (fun k => SS k ∨ k = w.heap.size + 1) W0 W) (by kernel_rfl) (by kernel_rfl) rfl (by kernel_rfl) ((Fr.refl _ _).drew) ?_
  repeat (first | (apply sched_take rfl; (focus (first | rfl | (go_simp; done))); (focus (intro W hW; have f12 := HC.out W hW; have f1 := f12.1; have f2 := f12.2; clear f12; go_simp; rfl)); (focus (intro K hK; go_simp; refine hK _ ?_; clear hK K))) | (apply sched_skip rfl; (focus (first | rfl | (go_simp; done))); (focus (intro K hK; go_simp; refine hK _ ?_; clear hK K))))
  apply sched_op rfl
  intro K hK
  go_simp
  go_wp2_with (fail)
  refine HRET.out.mono ?_
  rintro e w2 ⟨rfl, hst2, hfr2⟩
  have HF2 : Hid (Fr SS W0 w2) := Lib.hid ((Fr.refl SS W0).drew.trans hfr2)
  have hw2z : W0.heap.size ≤ w2.heap.size := HF2.out.size
  have HM2 := Lib.hid ((HM0.out.drewN 1).sto (hst2.mono (fun k hk => .inl hk) (fun k hk => by
    rcases hk with hk | hk
    · have := hSl.out k hk; omega
    · exact hk.2)) hfr2)
  generalize (M.T.length : Int) - ((retT M.T at_).length : Int) = gn at *
  clear hst2 hfr2
  have hres2 : w2.heap[w.heap.size + 1]? = some (.cells #[.int .i64 0, .int .i64 0, .int .i64 0, .int .i64 0, .int .i64 0, .int .i64 0, .int .i64 0, .int .i64 0] 56 (0, 0)) := (HF2.out.block _ (by omega) (fun hk => by have := hSl.out _ hk; omega)).trans HRES.out
  clear fres gres fmb fcm
  have HRES2 := Lib.hid hres2
  have fres := blk_cell hres2
  have gres := blk_frozen hres2
  clear hres2
  go_wp2_with fail
  refine ⟨by exact HF2.out.mono (fun k hk => .inl hk), ?_⟩
  repeat (first | (apply sched_take rfl; (focus (first | rfl | (go_simp; done))); (focus (intro W hW; have f12 := HC.out W hW; have f1 := f12.1; have f2 := f12.2; clear f12; go_simp; rfl)); (focus (intro K hK; go_simp; refine hK _ ?_; clear hK K))) | (apply sched_skip rfl; (focus (first | rfl | (go_simp; done))); (focus (intro K hK; go_simp; refine hK _ ?_; clear hK K))))
  apply sched_op rfl
  intro K hK
  go_simp
  go_wp2_with (fail)
  have hfr8 := fr_eight w2 (w.heap.size + 1) (.int .i64 0) (.int .i64 0) (.int .i64 gn) (.int .i64 0) (.int .i64 0) (.int .i64 0) (.int .i64 0) (.int .i64 0)
  refine ⟨by exact (HF2.out.mono (fun k hk => .inl hk)).trans (hfr8.mono (fun k hk => .inr hk)), ?_⟩
  clear hfr8
  repeat (first | (apply sched_take rfl; (focus (first | rfl | (go_simp; done))); (focus (intro W hW; have f12 := HC.out W hW; have f1 := f12.1; have f2 := f12.2; clear f12; go_simp; rfl)); (focus (intro K hK; go_simp; refine hK _ ?_; clear hK K))) | (apply sched_skip rfl; (focus (first | rfl | (go_simp; done))); (focus (intro K hK; go_simp; refine hK _ ?_; clear hK K))))
  refine sched_nil ?_
  go_wp2_with fail
  refine bodyPost_ret (v := .tuple #[.agg #[.int .i64 0, .int .i64 0, .int .i64 gn, .int .i64 0, .int .i64 0, .int .i64 0, .int .i64 0, .int .i64 0], .nilIface]) (by simp [results, Tryz.results80, go_sem, fres]) rfl ?_
  rw [HDM.out]
  have hfr8 := fr_eight w2 (w.heap.size + 1) (.int .i64 0) (.int .i64 0) (.int .i64 gn) (.int .i64 0) (.int .i64 0) (.int .i64 0) (.int .i64 0) (.int .i64 0)
  have hM8 := HM2.out.fr hfr8 (fun k hk e => by
    rcases hk with hk | hk
    · have := H.out.lt k hk; omega
    · have hkz : W0.heap.size ≤ k := hk.1
      omega)
  have h28 := hfr8.size
  have h02 := HF2.out.size
  refine ⟨rfl, ?_, ?_⟩
  · refine (hM8.at_).mono ?_ ?_
    · rintro k (hk | hk)
      · exact .inl hk
      · have hkz : W0.heap.size ≤ k := hk.1
        have hkl : k < w2.heap.size := hk.2
        exact .inr ⟨by omega, by omega⟩
    · rintro k (hk | hk)
      · have := H.out.lt k hk; omega
      · exact hk.2
  · exact ((Fr.of_below HB1.out).step HF2.out (fun j hj => .inl (H.out.sS j hj))).step hfr8 (fun j hj => .inr (by omega))
set_option maxRecDepth 100000 in
set_option maxHeartbeats 4000000 in
theorem mdo5_any {w : World} {b : Nat} {S : Nat → Prop} {M : Ma} (h : MaAt w b S M) (v : CmV) (B : Nat) (hB : B ≤ w.heap.size) (hok : v.c.ok = true) (hki : v.c.ki = 5) (hr : RdCm w B v) (hS : 0 < v.ns → ∀ k, v.As.map (·.block) = some k → ¬ S k) :
    Calls Tryz.prog 80 #[.pointer (some ⟨b, 0, none⟩), v.val] w (ResDo w b S (doM M v.c)) := by
  obtain ⟨s, sm, t, tm, vb, c, SS, h⟩ := h
  obtain ⟨⟨ki, se, sq, at_, sp, vo⟩, As, ns, cs, Av, nv, cv⟩ := v
  dsimp only [CmV.val] at *
  subst hki
  have HOK := Lib.hid hok
  have HS := Lib.hid hS
  have HR := Lib.hid hr
  have HB0 := Lib.hid hB
  have H := Lib.hid h
  have hix := h.gr.i0
  have hix1 := h.gr.i1
  generalize hW0 : (w.alloc (.cells #[.int .i64 5, .int .i64 se, .int .i64 sq, .int .i64 at_, .slice As ns cs, .slice Av nv cv] 25 (0, 0))).alloc (.cells #[.int .i64 0, .int .i64 0, .int .i64 0, .int .i64 0, .int .i64 0, .int .i64 0, .int .i64 0, .int .i64 0] 56 (0, 0)) = W0
  have hz0 : W0.heap.size = w.heap.size + 2 := by rw [← hW0]; simp
  have hb0 : Below w.heap.size w W0 := by rw [← hW0]; exact ((Below.refl _ _).alloc (Nat.le_refl _) _).alloc (by simp) _
  have hc0 : W0.heap[w.heap.size]? = some (.cells #[.int .i64 5, .int .i64 se, .int .i64 sq, .int .i64 at_, .slice As ns cs, .slice Av nv cv] 25 (0, 0)) := by
    rw [← hW0]
    exact (Below.heap_alloc _ _ _ (by simp)).trans (heap_alloc_new w _)
  have hc1 : W0.heap[w.heap.size + 1]? = some (.cells #[.int .i64 0, .int .i64 0, .int .i64 0, .int .i64 0, .int .i64 0, .int .i64 0, .int .i64 0, .int .i64 0] 56 (0, 0)) := by
    rw [← hW0]
    exact heap_at (by simp)
  have HM0 := Lib.hid (h.below hb0 (Nat.le_refl _))
  have HB1 := Lib.hid hb0
  have HCM := Lib.hid hc0
  have HRES := Lib.hid hc1
  have hz0x : w.heap.size + 2 ≤ W0.heap.size := by omega
  have hbl : b < w.heap.size := h.lt b h.sb.1
  have html : tm < w.heap.size := h.lt _ h.sb.2.2.1
  have hSl : Hid (∀ k, SS k → k < w.heap.size) := Lib.hid (fun k hk => h.lt k (h.sS k hk))
  have fcm := blk_cell hc0
  have fmb := blk_cell HM0.out.hp
  have fres := blk_cell hc1
  have gres := blk_frozen hc1
  have HDM : Hid (doM M ⟨5, se, sq, at_, sp, vo⟩ = ({ M with vo := vo }, Rp.zero, none)) := Lib.hid (by
    unfold doM
    dsimp only
    rw [if_neg (by decide), if_neg (by decide), if_neg (by decide), if_neg (by decide), if_pos rfl])
  clear h hr hS hB hok hb0 hc0 hc1 hz0
  have hvo := (Cm.ok_parts HOK.out).2.2.2 rfl
  dsimp only at hvo
  have hvl := okV_len hvo
  have hvn : vo.length = nv := HR.out.vo.len
  obtain ⟨vb0, voff, hav⟩ : ∃ b off, Av = some ⟨b, off, none⟩ := by
    obtain ⟨x, y, h, _, _⟩ := HR.out.vo.at_ (k := 0) (by show 0 < vo.length; omega)
    exact ⟨x, y, h⟩
  subst hav
  have HVO := Lib.hid hvo
  have HVR := Lib.hid (Rd.below' HR.out.vo HB1.out HB0.out (Nat.le_refl _))
  have hnv7 : nv ≤ 7 := by omega
  have HVN := Lib.hid hvn
  have hvp : 0 < vo.length := by omega
  clear hvo hvl
  subst hvn
  go_enter Tryz.func80, Tryz.ntmps80
  go_wp2_with fail
  clear hW0
  refine (cloneInts_any ⟨vb0, voff, none⟩ vo.length cv B vo _ (by have := HB0.out; omega) (by omega) HVR.out).mono ?_
  rintro e w2 ⟨A2, c2, rfl, hown2, hb2⟩
  obtain ⟨g2, rfl, hg2, hg3⟩ := own_form hown2 hvp
  have HB2 := Lib.hid hb2
  have HV2 : Hid (RdI w2 w2.heap.size (some ⟨g2, 0, none⟩) vo.length vo) := Lib.hid (Rd.of_own hown2)
  have hmb2 := (hb2.block b (by omega)).trans HM0.out.hp
  have fmb2 := blk_cell hmb2
  have gmb2 := blk_frozen hmb2
  have hres2 := (hb2.block (w.heap.size + 1) (by omega)).trans HRES.out
  have fres2 := blk_cell hres2
  have gres2 := blk_frozen hres2
  have hz2 := hb2.size
  have HM3 := Lib.hid (HM0.out.vot hb2 HVO.out HV2.out hg2 hg3 (c' := c2))
  have HRES3 : Hid ((w2.setCell ⟨b, 4, none⟩ (.slice (some ⟨g2, 0, none⟩) vo.length c2)).heap[w.heap.size + 1]? = some (.cells #[.int .i64 0, .int .i64 0, .int .i64 0, .int .i64 0, .int .i64 0, .int .i64 0, .int .i64 0, .int .i64 0] 56 (0, 0))) := Lib.hid ((Below.heap_setCell _ _ _ _ (by simp only; omega)).trans hres2)
  have HF3 : Hid (Fr (fun k => k = b) w2 (w2.setCell ⟨b, 4, none⟩ (.slice (some ⟨g2, 0, none⟩) vo.length c2))) := Lib.hid ((Fr.refl (fun k => k = b) w2).setCell (p := ⟨b, 4, none⟩) rfl _)
  have hz3 : (w2.setCell ⟨b, 4, none⟩ (.slice (some ⟨g2, 0, none⟩) vo.length c2)).heap.size = w2.heap.size := by simp
  have HZ3 := Lib.hid hz3
  clear fres gres fcm hmb2 hres2 hown2 hb2 hz3 fres2 gres2 fmb
  have fres := blk_cell HRES3.out
  have gres := blk_frozen HRES3.out
  go_wp2_with fail
  refine bodyPost_ret (v := .tuple #[.agg #[.int .i64 0, .int .i64 0, .int .i64 0, .int .i64 0, .int .i64 0, .int .i64 0, .int .i64 0, .int .i64 0], .nilIface]) (by simp [results, Tryz.results80, go_sem, fres]) rfl ?_
  rw [HDM.out]
  have hfr8 := fr_eight (w2.setCell ⟨b, 4, none⟩ (.slice (some ⟨g2, 0, none⟩) vo.length c2)) (w.heap.size + 1) (.int .i64 0) (.int .i64 0) (.int .i64 0) (.int .i64 0) (.int .i64 0) (.int .i64 0) (.int .i64 0) (.int .i64 0)
  have hM8 := HM3.out.fr hfr8 (fun k hk e => by
    rcases hk with hk | hk
    · have := H.out.lt k hk; omega
    · have hkz : W0.heap.size ≤ k := hk.1
      omega)
  have h28 := hfr8.size
  have h22 := HZ3.out
  refine ⟨rfl, ?_, ?_⟩
  · refine (hM8.at_).mono ?_ ?_
    · rintro k (hk | hk)
      · exact .inl hk
      · have hkz : W0.heap.size ≤ k := hk.1
        have hkl : k < w2.heap.size := hk.2
        exact .inr ⟨by omega, by omega⟩
    · rintro k (hk | hk)
      · have := H.out.lt k hk; omega
      · exact hk.2
  · exact (((Fr.of_below (HB1.out.trans (HB2.out.mono (by omega)))).step HF3.out (fun j hj => .inl (hj ▸ H.out.sb.1)))).step hfr8 (fun j hj => .inr (by omega))
set_option maxRecDepth 100000 in
set_option maxHeartbeats 4000000 in
theorem mdo0_any {w : World} {b : Nat} {S : Nat → Prop} {M : Ma} (h : MaAt w b S M) (v : CmV) (B : Nat) (hB : B ≤ w.heap.size) (hok : v.c.ok = true) (hki : v.c.ki ≠ 1 ∧ v.c.ki ≠ 2 ∧ v.c.ki ≠ 3 ∧ v.c.ki ≠ 4 ∧ v.c.ki ≠ 5) (hr : RdCm w B v) (hS : 0 < v.ns → ∀ k, v.As.map (·.block) = some k → ¬ S k) :
    Calls Tryz.prog 80 #[.pointer (some ⟨b, 0, none⟩), v.val] w (ResDo w b S (doM M v.c)) := by
  obtain ⟨s, sm, t, tm, vb, c, SS, h⟩ := h
  obtain ⟨⟨ki, se, sq, at_, sp, vo⟩, As, ns, cs, Av, nv, cv⟩ := v
  dsimp only [CmV.val] at *
  have HOK := Lib.hid hok
  have HS := Lib.hid hS
  have HR := Lib.hid hr
  have HB0 := Lib.hid hB
  have H := Lib.hid h
  have hix := h.gr.i0
  have hix1 := h.gr.i1
  generalize hW0 : (w.alloc (.cells #[.int .i64 ki, .int .i64 se, .int .i64 sq, .int .i64 at_, .slice As ns cs, .slice Av nv cv] 25 (0, 0))).alloc (.cells #[.int .i64 0, .int .i64 0, .int .i64 0, .int .i64 0, .int .i64 0, .int .i64 0, .int .i64 0, .int .i64 0] 56 (0, 0)) = W0
  have hz0 : W0.heap.size = w.heap.size + 2 := by rw [← hW0]; simp
  have hb0 : Below w.heap.size w W0 := by rw [← hW0]; exact ((Below.refl _ _).alloc (Nat.le_refl _) _).alloc (by simp) _
  have hc0 : W0.heap[w.heap.size]? = some (.cells #[.int .i64 ki, .int .i64 se, .int .i64 sq, .int .i64 at_, .slice As ns cs, .slice Av nv cv] 25 (0, 0)) := by
    rw [← hW0]
    exact (Below.heap_alloc _ _ _ (by simp)).trans (heap_alloc_new w _)
  have hc1 : W0.heap[w.heap.size + 1]? = some (.cells #[.int .i64 0, .int .i64 0, .int .i64 0, .int .i64 0, .int .i64 0, .int .i64 0, .int .i64 0, .int .i64 0] 56 (0, 0)) := by
    rw [← hW0]
    exact heap_at (by simp)
  have HM0 := Lib.hid (h.below hb0 (Nat.le_refl _))
  have HB1 := Lib.hid hb0
  have HCM := Lib.hid hc0
  have HRES := Lib.hid hc1
  have hz0x : w.heap.size + 2 ≤ W0.heap.size := by omega
  have hbl : b < w.heap.size := h.lt b h.sb.1
  have html : tm < w.heap.size := h.lt _ h.sb.2.2.1
  have hSl : Hid (∀ k, SS k → k < w.heap.size) := Lib.hid (fun k hk => h.lt k (h.sS k hk))
  have fcm := blk_cell hc0
  have fmb := blk_cell HM0.out.hp
  have fres := blk_cell hc1
  have gres := blk_frozen hc1
  have HDM : Hid (doM M ⟨ki, se, sq, at_, sp, vo⟩ = (M, Rp.zero, none)) := Lib.hid (by
    unfold doM
    dsimp only
    rw [if_neg hki.1, if_neg hki.2.1, if_neg hki.2.2.1, if_neg hki.2.2.2.1, if_neg hki.2.2.2.2])
  clear h hr hS hB hok hb0 hc0 hc1 hz0
  obtain ⟨hk1, hk2, hk3, hk4, hk5⟩ := hki
  have hb1 : (ki == 1) = false := by simpa using hk1
  have hb2 : (ki == 2) = false := by simpa using hk2
  have hb3 : (ki == 3) = false := by simpa using hk3
  have hb4 : (ki == 4) = false := by simpa using hk4
  have hb5 : (ki == 5) = false := by simpa using hk5
  go_enter Tryz.func80, Tryz.ntmps80
  go_wp2_with fail
  clear hW0
  refine bodyPost_ret (v := .tuple #[.agg #[.int .i64 0, .int .i64 0, .int .i64 0, .int .i64 0, .int .i64 0, .int .i64 0, .int .i64 0, .int .i64 0], .nilIface]) (by simp [results, Tryz.results80, go_sem, fres]) rfl ?_
  rw [HDM.out]
  have hfr8 := fr_eight W0 (w.heap.size + 1) (.int .i64 0) (.int .i64 0) (.int .i64 0) (.int .i64 0) (.int .i64 0) (.int .i64 0) (.int .i64 0) (.int .i64 0)
  exact ⟨rfl, H.out.at_.same (HB1.out.trans (hfr8.below HB1.out.size (fun k hk => by omega)))⟩
/-- A machine does a command. -/
theorem mdo_any {w : World} {b : Nat} {S : Nat → Prop} {M : Ma} (h : MaAt w b S M) (v : CmV) (B : Nat) (hB : B ≤ w.heap.size) (hok : v.c.ok = true) (hr : RdCm w B v) (hS : 0 < v.ns → ∀ k, v.As.map (·.block) = some k → ¬ S k) :
    Calls Tryz.prog 80 #[.pointer (some ⟨b, 0, none⟩), v.val] w (ResDo w b S (doM M v.c)) := by
  by_cases h1 : v.c.ki = 1
  · exact mdo1_any h v B hB hok h1 hr hS
  by_cases h2 : v.c.ki = 2
  · exact mdo2_any h v B hB hok h2 hr hS
  by_cases h3 : v.c.ki = 3
  · exact mdo3_any h v B hB hok h3 hr hS
  by_cases h4 : v.c.ki = 4
  · exact mdo4_any h v B hB hok h4 hr hS
  by_cases h5 : v.c.ki = 5
  · exact mdo5_any h v B hB hok h5 hr hS
  exact mdo0_any h v B hB hok ⟨h1, h2, h3, h4, h5⟩ hr hS
end Go.Proofs.YtempkjnaahgbhaaGreatDoor
