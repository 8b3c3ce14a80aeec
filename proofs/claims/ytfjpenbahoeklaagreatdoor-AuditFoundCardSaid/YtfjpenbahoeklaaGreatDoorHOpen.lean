/-
  The walk of a machine's do. Conditions: the machine lies in memory as New made it; a command that may be, whose spans lie outside of the machine.
  errors.As at a target that is an error's number: a nil error; an error of that very type. Condition: the package variable errors.errorType lies as it is laid.
  The plain side of what is found of views; entries and views in memory. No condition.
  The walk of a machine's Apply. Conditions: the machine lies in memory as New made it; the entry's bytes are not more than memory bears; the package variable errors.errorType lies as it is laid.
  The package variable errors.errorType: what the rows' premise gives a walk; a world that meets it. No condition.
  Spans that came in as arguments, opened to their fields: one span, a list of spans, a list of bytes, a list of numbers. No condition: plain lemmas over the reading of data.
-/
import Derived.Test.YtfjpenbahoeklaaGreatDoorHMachN
import Derived.Test.YtfjpenbahoeklaaGreatDoorHPut
import Derived.LaidEql
import Derived.Stop.Asserts
import Derived.RowKitTokens
import Derived.Test.YtfjpenbahoeklaaGreatDoorRows
import Derived.RowKit
import Derived.ChangeSame
import Derived.ChangeVars
import Derived.LaidLaws
import Derived.LaidHandle
import Derived.Stop.Joined
import Derived.Deep.Slices
import Derived.ProofKit
import Derived.SizedLaws
namespace Go.Proofs.YtfjpenbahoeklaaGreatDoor
open Go Go.RowKit Go.Maps

set_option maxRecDepth 100000 in
set_option maxHeartbeats 4000000 in
theorem mdo1_any {w : World} {b : Nat} {S : Nat → Prop} {M : Ma} (h : MaAt w b S M) (v : CmV) (B : Nat) (hB : B ≤ w.heap.size) (hok : v.c.ok = true) (hki : v.c.ki = 1) (hr : RdCm w B v) (hS : 0 < v.ns → ∀ k, v.As.map (·.block) = some k → ¬ S k) :
    Calls Tryz.prog 83 #[.pointer (some ⟨b, 0, none⟩), v.val] w (ResDo w b S (doM M v.c)) := by
  obtain ⟨s, sm, t, tm, vb, c, SS, h⟩ := h
  obtain ⟨⟨ki, se, sq, at_, sp, vo⟩, As, ns, cs, Av, nv, cv⟩ := v
  dsimp only [CmV.val] at *
  subst hki
  have HOK := Lib.hid hok
  have HS := Lib.hid hS
  have HR := Lib.hid hr
  have HB0 := Lib.hid hB
  have H := Lib.hid h
  have hix := h.gr.i0
  have hix1 := h.gr.i1
  generalize hW0 : (w.alloc (.cells #[.int .i64 1, .int .i64 se, .int .i64 sq, .int .i64 at_, .slice As ns cs, .slice Av nv cv] 50 (0, 0))).alloc (.cells #[.int .i64 0, .int .i64 0, .int .i64 0, .int .i64 0, .int .i64 0, .int .i64 0, .int .i64 0, .int .i64 0] 32 (0, 0)) = W0
  have hz0 : W0.heap.size = w.heap.size + 2 := by rw [← hW0]; simp
  have hb0 : Below w.heap.size w W0 := by rw [← hW0]; exact ((Below.refl _ _).alloc (Nat.le_refl _) _).alloc (by simp) _
  have hc0 : W0.heap[w.heap.size]? = some (.cells #[.int .i64 1, .int .i64 se, .int .i64 sq, .int .i64 at_, .slice As ns cs, .slice Av nv cv] 50 (0, 0)) := by
    rw [← hW0]
    exact (Below.heap_alloc _ _ _ (by simp)).trans (heap_alloc_new w _)
  have hc1 : W0.heap[w.heap.size + 1]? = some (.cells #[.int .i64 0, .int .i64 0, .int .i64 0, .int .i64 0, .int .i64 0, .int .i64 0, .int .i64 0, .int .i64 0] 32 (0, 0)) := by
    rw [← hW0]
    exact heap_at (by simp)
  have HM0 := Lib.hid (h.below hb0 (Nat.le_refl _))
  have HB1 := Lib.hid hb0
  have HCM := Lib.hid hc0
  have HRES := Lib.hid hc1
  have hz0x : w.heap.size + 2 ≤ W0.heap.size := by omega
  have hbl : b < w.heap.size := h.lt b h.sb.1
  have html : tm < w.heap.size := h.lt _ h.sb.2.2.1
  have hSl : Hid (∀ k, SS k → k < w.heap.size) := Lib.hid (fun k hk => h.lt k (h.sS k hk))
  have fcm := blk_cell hc0
  have fmb := blk_cell HM0.out.hp
  have fres := blk_cell hc1
  have gres := blk_frozen hc1
  have HDM : Hid (doM M ⟨1, se, sq, at_, sp, vo⟩ = if (opnS M.L M.ix).2 ≠ 0 then ({ M with L := (opnS M.L M.ix).1 }, Rp.zero, some (opnS M.L M.ix).2) else ({ M with L := (opnS M.L M.ix).1 }, { Rp.zero with ss := M.ix }, none)) := Lib.hid (by
    unfold doM
    rw [if_pos rfl])
  clear h hr hS hB hok hb0 hc0 hc1 hz0
  have HOPN : Hid (Calls Tryz.prog 113 #[.pointer (some ⟨t, 0, none⟩), .int .i64 M.ix] W0.drew (ResOpn W0.drew t tm M.L M.ix)) := Lib.hid (topen_any (HM0.out.tb.drewN 1) M.ix (wfI_of (by omega) (by omega)))
  generalize hO : opnS M.L M.ix = o at *
  obtain ⟨L2, eo⟩ := o
  have HO := Lib.hid hO
  clear hO
  have HC : Hid (∀ W, Fr (fun k => k = tm) W0 W → (∀ j, W.cell? ⟨b, j, none⟩ = (#[.pointer (some ⟨s, 0, none⟩), .pointer (some ⟨t, 0, none⟩), .int .i64 M.ix, .int .i64 M.te, .slice (some ⟨vb, 0, none⟩) M.vo.length c] : Array Value)[j]?) ∧ (∀ j, W.cell? ⟨w.heap.size, j, none⟩ = (#[.int .i64 1, .int .i64 se, .int .i64 sq, .int .i64 at_, .slice As ns cs, .slice Av nv cv] : Array Value)[j]?)) := Lib.hid (fun W hW => ⟨blk_cell ((hW.block b (by omega) H.out.n1.2.1).trans HM0.out.hp), blk_cell ((hW.block w.heap.size (by omega) (by omega)).trans HCM.out)⟩)
  go_enter Tryz.func83, Tryz.ntmps83
  go_wp2_with fail
  clear hW0
  refine wp_region_sched [(0, true), (1, true), (2, true), (3, true), (4, true), (5, true), (6, true), (7, true), (8, false), (9, true)] (fun W => Fr (fun k => k = tm) W0 W) (by kernel_rfl) (by kernel_rfl) rfl (by kernel_rfl) ((Fr.refl _ _).drew) ?_
  repeat (first | (apply sched_take rfl; (focus (first | rfl | (go_simp; done))); (focus (intro W hW; have f12 := HC.out W hW; have f1 := f12.1; have f2 := f12.2; clear f12; go_simp; rfl)); (focus (intro K hK; go_simp; refine hK _ ?_; clear hK K))) | (apply sched_skip rfl; (focus (first | rfl | (go_simp; done))); (focus (intro K hK; go_simp; refine hK _ ?_; clear hK K))))
  apply sched_op rfl
  intro K hK
  go_simp
  go_wp2_with (fail)
  refine HOPN.out.mono ?_
  rintro e w2 ⟨rfl, htb2, hfr2⟩
  rw [HO.out] at htb2 ⊢
  dsimp only at htb2 ⊢
  have HF2 : Hid (Fr (fun k => k = tm) W0 w2) := Lib.hid ((Fr.refl (fun k => k = tm) W0).drew.trans hfr2)
  have HM2 := Lib.hid ((HM0.out.drewN 1).tab htb2 hfr2)
  have hres2 : w2.heap[w.heap.size + 1]? = some (.cells #[.int .i64 0, .int .i64 0, .int .i64 0, .int .i64 0, .int .i64 0, .int .i64 0, .int .i64 0, .int .i64 0] 32 (0, 0)) := (HF2.out.block _ (by omega) (by omega)).trans HRES.out
  clear fres gres fmb fcm htb2 hfr2
  have fres := blk_cell hres2
  have gres := blk_frozen hres2
  have fmb := blk_cell HM2.out.hp
  clear hres2
  go_wp2_with fail
  refine ⟨by exact HF2.out, ?_⟩
  repeat (first | (apply sched_take rfl; (focus (first | rfl | (go_simp; done))); (focus (intro W hW; have f12 := HC.out W hW; have f1 := f12.1; have f2 := f12.2; clear f12; go_simp; rfl)); (focus (intro K hK; go_simp; refine hK _ ?_; clear hK K))) | (apply sched_skip rfl; (focus (first | rfl | (go_simp; done))); (focus (intro K hK; go_simp; refine hK _ ?_; clear hK K))))
  refine sched_nil ?_
  have hdm := HDM.out
  by_cases he : eo = 0
  · subst he
    rw [if_neg (by simp)] at hdm
    have HD2 := Lib.hid hdm
    clear hdm HDM
    have HDM := HD2
    go_wp2_with fail
    refine bodyPost_ret (v := .tuple #[.agg #[.int .i64 0, .int .i64 M.ix, .int .i64 0, .int .i64 0, .int .i64 0, .int .i64 0, .int .i64 0, .int .i64 0], .nilIface]) (by simp [results, Tryz.results83, go_sem, fres]) rfl ?_
    rw [HDM.out]
    have hfr8 := fr_eight w2 (w.heap.size + 1) (.int .i64 0) (.int .i64 M.ix) (.int .i64 0) (.int .i64 0) (.int .i64 0) (.int .i64 0) (.int .i64 0) (.int .i64 0)
    have hM8 := HM2.out.fr hfr8 (fun k hk e => by have := H.out.lt k hk; omega)
    have h28 := hfr8.size
    have h02 := HF2.out.size
    refine ⟨rfl, ?_, ?_⟩
    · refine (hM8.at_).mono (fun k hk => .inl hk) ?_
      rintro k (hk | hk)
      · have := H.out.lt k hk; omega
      · exact hk.2
    · exact ((Fr.of_below HB1.out).step HF2.out (fun j hj => .inl (hj ▸ H.out.sb.2.2.1))).step hfr8 (fun j hj => .inr (by omega))
  · have hbe : (eo != 0) = true := by simpa using he
    rw [if_pos he] at hdm
    have HD2 := Lib.hid hdm
    clear hdm HDM he
    have HDM := HD2
    go_wp2_with fail
    refine bodyPost_ret (v := .tuple #[.agg #[.int .i64 0, .int .i64 0, .int .i64 0, .int .i64 0, .int .i64 0, .int .i64 0, .int .i64 0, .int .i64 0], .iface 28 (.int .i64 eo)]) (by simp [results, Tryz.results83, go_sem, fres]) rfl ?_
    rw [HDM.out]
    have hfr8 := fr_eight w2 (w.heap.size + 1) (.int .i64 0) (.int .i64 0) (.int .i64 0) (.int .i64 0) (.int .i64 0) (.int .i64 0) (.int .i64 0) (.int .i64 0)
    have hM8 := HM2.out.fr hfr8 (fun k hk e => by have := H.out.lt k hk; omega)
    have h28 := hfr8.size
    have h02 := HF2.out.size
    refine ⟨rfl, ?_, ?_⟩
    · refine (hM8.at_).mono (fun k hk => .inl hk) ?_
      rintro k (hk | hk)
      · have := H.out.lt k hk; omega
      · exact hk.2
    · exact ((Fr.of_below HB1.out).step HF2.out (fun j hj => .inl (hj ▸ H.out.sb.2.2.1))).step hfr8 (fun j hj => .inr (by omega))
set_option maxRecDepth 100000 in
set_option maxHeartbeats 4000000 in
theorem mdo2_any {w : World} {b : Nat} {S : Nat → Prop} {M : Ma} (h : MaAt w b S M) (v : CmV) (B : Nat) (hB : B ≤ w.heap.size) (hok : v.c.ok = true) (hki : v.c.ki = 2) (hr : RdCm w B v) (hS : 0 < v.ns → ∀ k, v.As.map (·.block) = some k → ¬ S k) :
    Calls Tryz.prog 83 #[.pointer (some ⟨b, 0, none⟩), v.val] w (ResDo w b S (doM M v.c)) := by
  obtain ⟨s, sm, t, tm, vb, c, SS, h⟩ := h
  obtain ⟨⟨ki, se, sq, at_, sp, vo⟩, As, ns, cs, Av, nv, cv⟩ := v
  dsimp only [CmV.val] at *
  subst hki
  have HOK := Lib.hid hok
  have HS := Lib.hid hS
  have HR := Lib.hid hr
  have HB0 := Lib.hid hB
  have H := Lib.hid h
  have hix := h.gr.i0
  have hix1 := h.gr.i1
  generalize hW0 : (w.alloc (.cells #[.int .i64 2, .int .i64 se, .int .i64 sq, .int .i64 at_, .slice As ns cs, .slice Av nv cv] 50 (0, 0))).alloc (.cells #[.int .i64 0, .int .i64 0, .int .i64 0, .int .i64 0, .int .i64 0, .int .i64 0, .int .i64 0, .int .i64 0] 32 (0, 0)) = W0
  have hz0 : W0.heap.size = w.heap.size + 2 := by rw [← hW0]; simp
  have hb0 : Below w.heap.size w W0 := by rw [← hW0]; exact ((Below.refl _ _).alloc (Nat.le_refl _) _).alloc (by simp) _
  have hc0 : W0.heap[w.heap.size]? = some (.cells #[.int .i64 2, .int .i64 se, .int .i64 sq, .int .i64 at_, .slice As ns cs, .slice Av nv cv] 50 (0, 0)) := by
    rw [← hW0]
    exact (Below.heap_alloc _ _ _ (by simp)).trans (heap_alloc_new w _)
  have hc1 : W0.heap[w.heap.size + 1]? = some (.cells #[.int .i64 0, .int .i64 0, .int .i64 0, .int .i64 0, .int .i64 0, .int .i64 0, .int .i64 0, .int .i64 0] 32 (0, 0)) := by
    rw [← hW0]
    exact heap_at (by simp)
  have HM0 := Lib.hid (h.below hb0 (Nat.le_refl _))
  have HB1 := Lib.hid hb0
  have HCM := Lib.hid hc0
  have HRES := Lib.hid hc1
  have hz0x : w.heap.size + 2 ≤ W0.heap.size := by omega
  have hbl : b < w.heap.size := h.lt b h.sb.1
  have html : tm < w.heap.size := h.lt _ h.sb.2.2.1
  have hSl : Hid (∀ k, SS k → k < w.heap.size) := Lib.hid (fun k hk => h.lt k (h.sS k hk))
  have fcm := blk_cell hc0
  have fmb := blk_cell HM0.out.hp
  have fres := blk_cell hc1
  have gres := blk_frozen hc1
  have HDM : Hid (doM M ⟨2, se, sq, at_, sp, vo⟩ = ingM M ⟨2, se, sq, at_, sp, vo⟩) := Lib.hid (by
    unfold doM
    dsimp only
    rw [if_neg (by decide), if_pos rfl])
  clear h hr hS hB hok hb0 hc0 hc1 hz0
  have HING : Hid (Calls Tryz.prog 114 #[.pointer (some ⟨b, 0, none⟩), .agg #[.int .i64 2, .int .i64 se, .int .i64 sq, .int .i64 at_, .slice As ns cs, .slice Av nv cv]] W0 (ResDo W0 b S (ingM M ⟨2, se, sq, at_, sp, vo⟩))) := Lib.hid (mingest_any HM0.out.at_ ⟨⟨2, se, sq, at_, sp, vo⟩, As, ns, cs, Av, nv, cv⟩ B (by have := HB0.out; omega) HOK.out rfl (HR.out.below HB1.out HB0.out) HS.out)
  generalize hg : ingM M ⟨2, se, sq, at_, sp, vo⟩ = g at *
  obtain ⟨M2, r, oe⟩ := g
  clear hg
  go_enter Tryz.func83, Tryz.ntmps83
  go_wp2_with fail
  clear hW0
  refine HING.out.mono ?_
  rintro e w2 ⟨rfl, hma2, hfr2⟩
  dsimp only at hma2 ⊢
  have HMA2 := Lib.hid hma2
  have HF2 := Lib.hid hfr2
  have hres2 : w2.heap[w.heap.size + 1]? = some (.cells #[.int .i64 0, .int .i64 0, .int .i64 0, .int .i64 0, .int .i64 0, .int .i64 0, .int .i64 0, .int .i64 0] 32 (0, 0)) := (hfr2.block _ (by omega) (fun hk => by have := H.out.lt _ hk; omega)).trans HRES.out
  clear fres gres fmb fcm hma2 hfr2
  have fres := blk_cell hres2
  have gres := blk_frozen hres2
  clear hres2
  go_wp2_with fail
  refine bodyPost_ret (v := .tuple #[.agg #[.int .i64 r.er, .int .i64 r.ss, .int .i64 r.gn, .int .i64 r.ad, .int .i64 r.sa, .int .i64 r.ot, .int .i64 r.cy, .int .i64 r.fu], errV oe]) (by simp [results, Tryz.results83, go_sem, fres]) rfl ?_
  rw [HDM.out]
  have hfr8 := fr_eight w2 (w.heap.size + 1) (.int .i64 r.er) (.int .i64 r.ss) (.int .i64 r.gn) (.int .i64 r.ad) (.int .i64 r.sa) (.int .i64 r.ot) (.int .i64 r.cy) (.int .i64 r.fu)
  have hM8 := HMA2.out.fr hfr8 (fun k hk e => by
    rcases hk with hk | hk
    · have := H.out.lt k hk; omega
    · omega)
  have h28 := hfr8.size
  have h02 := HF2.out.size
  refine ⟨rfl, ?_, ?_⟩
  · refine hM8.mono ?_ ?_
    · rintro k (hk | hk)
      · exact .inl hk
      · exact .inr ⟨by omega, by omega⟩
    · rintro k (hk | hk)
      · have := H.out.lt k hk; omega
      · exact hk.2
  · exact ((Fr.of_below HB1.out).step HF2.out (fun j hj => .inl hj)).step hfr8 (fun j hj => .inr (by omega))
set_option maxRecDepth 100000 in
set_option maxHeartbeats 4000000 in
theorem mdo3_any {w : World} {b : Nat} {S : Nat → Prop} {M : Ma} (h : MaAt w b S M) (v : CmV) (B : Nat) (hB : B ≤ w.heap.size) (hok : v.c.ok = true) (hki : v.c.ki = 3) (hr : RdCm w B v) (hS : 0 < v.ns → ∀ k, v.As.map (·.block) = some k → ¬ S k) :
    Calls Tryz.prog 83 #[.pointer (some ⟨b, 0, none⟩), v.val] w (ResDo w b S (doM M v.c)) := by
  obtain ⟨s, sm, t, tm, vb, c, SS, h⟩ := h
  obtain ⟨⟨ki, se, sq, at_, sp, vo⟩, As, ns, cs, Av, nv, cv⟩ := v
  dsimp only [CmV.val] at *
  subst hki
  have HOK := Lib.hid hok
  have HS := Lib.hid hS
  have HR := Lib.hid hr
  have HB0 := Lib.hid hB
  have H := Lib.hid h
  have hix := h.gr.i0
  have hix1 := h.gr.i1
  generalize hW0 : (w.alloc (.cells #[.int .i64 3, .int .i64 se, .int .i64 sq, .int .i64 at_, .slice As ns cs, .slice Av nv cv] 50 (0, 0))).alloc (.cells #[.int .i64 0, .int .i64 0, .int .i64 0, .int .i64 0, .int .i64 0, .int .i64 0, .int .i64 0, .int .i64 0] 32 (0, 0)) = W0
  have hz0 : W0.heap.size = w.heap.size + 2 := by rw [← hW0]; simp
  have hb0 : Below w.heap.size w W0 := by rw [← hW0]; exact ((Below.refl _ _).alloc (Nat.le_refl _) _).alloc (by simp) _
  have hc0 : W0.heap[w.heap.size]? = some (.cells #[.int .i64 3, .int .i64 se, .int .i64 sq, .int .i64 at_, .slice As ns cs, .slice Av nv cv] 50 (0, 0)) := by
    rw [← hW0]
    exact (Below.heap_alloc _ _ _ (by simp)).trans (heap_alloc_new w _)
  have hc1 : W0.heap[w.heap.size + 1]? = some (.cells #[.int .i64 0, .int .i64 0, .int .i64 0, .int .i64 0, .int .i64 0, .int .i64 0, .int .i64 0, .int .i64 0] 32 (0, 0)) := by
    rw [← hW0]
    exact heap_at (by simp)
  have HM0 := Lib.hid (h.below hb0 (Nat.le_refl _))
  have HB1 := Lib.hid hb0
  have HCM := Lib.hid hc0
  have HRES := Lib.hid hc1
  have hz0x : w.heap.size + 2 ≤ W0.heap.size := by omega
  have hbl : b < w.heap.size := h.lt b h.sb.1
  have html : tm < w.heap.size := h.lt _ h.sb.2.2.1
  have hSl : Hid (∀ k, SS k → k < w.heap.size) := Lib.hid (fun k hk => h.lt k (h.sS k hk))
  have fcm := blk_cell hc0
  have fmb := blk_cell HM0.out.hp
  have fres := blk_cell hc1
  have gres := blk_frozen hc1
  have HDM : Hid (doM M ⟨3, se, sq, at_, sp, vo⟩ = ({ M with L := expS M.L at_ }, { Rp.zero with gn := (M.L.length : Int) - ((expS M.L at_).length : Int) }, none)) := Lib.hid (by
    unfold doM
    dsimp only
    rw [if_neg (by decide), if_neg (by decide), if_pos rfl])
  clear h hr hS hB hok hb0 hc0 hc1 hz0
  have HEXP : Hid (Calls Tryz.prog 115 #[.pointer (some ⟨t, 0, none⟩), .int .i64 at_] W0.drew (ResExp W0.drew t tm M.L at_)) := Lib.hid (texp_any (HM0.out.tb.drewN 1) at_)
  have HC : Hid (∀ W, Fr (fun k => k = tm ∨ k = w.heap.size + 1) W0 W → (∀ j, W.cell? ⟨b, j, none⟩ = (#[.pointer (some ⟨s, 0, none⟩), .pointer (some ⟨t, 0, none⟩), .int .i64 M.ix, .int .i64 M.te, .slice (some ⟨vb, 0, none⟩) M.vo.length c] : Array Value)[j]?) ∧ (∀ j, W.cell? ⟨w.heap.size, j, none⟩ = (#[.int .i64 3, .int .i64 se, .int .i64 sq, .int .i64 at_, .slice As ns cs, .slice Av nv cv] : Array Value)[j]?)) := Lib.hid (fun W hW => ⟨blk_cell ((hW.block b (by omega) (fun hk => by
      rcases hk with hk | hk
      · exact H.out.n1.2.1 hk
      · omega)).trans HM0.out.hp), blk_cell ((hW.block w.heap.size (by omega) (fun hk => by
      rcases hk with hk | hk
      · omega
      · omega)).trans HCM.out)⟩)
  go_enter Tryz.func83, Tryz.ntmps83
  go_wp2_with fail
  clear hW0
  refine wp_region_sched [(0, true), (1, true), (2, true), (3, true), (4, true), (5, true), (6, false), (7, true), (8, false), (9, true)] (fun W => Fr (fun k => k = tm ∨ k = w.heap.size + 1) W0 W) (by kernel_rfl) (by kernel_rfl) rfl (by kernel_rfl) ((Fr.refl _ _).drew) ?_
  repeat (first | (apply sched_take rfl; (focus (first | rfl | (go_simp; done))); (focus (intro W hW; have f12 := HC.out W hW; have f1 := f12.1; have f2 := f12.2; clear f12; go_simp; rfl)); (focus (intro K hK; go_simp; refine hK _ ?_; clear hK K))) | (apply sched_skip rfl; (focus (first | rfl | (go_simp; done))); (focus (intro K hK; go_simp; refine hK _ ?_; clear hK K))))
  apply sched_op rfl
  intro K hK
  go_simp
  go_wp2_with (fail)
  refine HEXP.out.mono ?_
  rintro e w2 ⟨rfl, htb2, hfr2⟩
  have HF2 : Hid (Fr (fun k => k = tm) W0 w2) := Lib.hid ((Fr.refl (fun k => k = tm) W0).drew.trans hfr2)
  have HM2 := Lib.hid ((HM0.out.drewN 1).tab htb2 hfr2)
  generalize (M.L.length : Int) - ((expS M.L at_).length : Int) = gn at *
  clear htb2 hfr2
  have hres2 : w2.heap[w.heap.size + 1]? = some (.cells #[.int .i64 0, .int .i64 0, .int .i64 0, .int .i64 0, .int .i64 0, .int .i64 0, .int .i64 0, .int .i64 0] 32 (0, 0)) := (HF2.out.block _ (by omega) (by omega)).trans HRES.out
  clear fres gres fmb fcm
  have HRES2 := Lib.hid hres2
  have fres := blk_cell hres2
  have gres := blk_frozen hres2
  clear hres2
  go_wp2_with fail
  refine ⟨by exact HF2.out.mono (fun k hk => .inl hk), ?_⟩
  repeat (first | (apply sched_take rfl; (focus (first | rfl | (go_simp; done))); (focus (intro W hW; have f12 := HC.out W hW; have f1 := f12.1; have f2 := f12.2; clear f12; go_simp; rfl)); (focus (intro K hK; go_simp; refine hK _ ?_; clear hK K))) | (apply sched_skip rfl; (focus (first | rfl | (go_simp; done))); (focus (intro K hK; go_simp; refine hK _ ?_; clear hK K))))
  apply sched_op rfl
  intro K hK
  go_simp
  go_wp2_with (fail)
  have hfr8 := fr_eight w2 (w.heap.size + 1) (.int .i64 0) (.int .i64 0) (.int .i64 gn) (.int .i64 0) (.int .i64 0) (.int .i64 0) (.int .i64 0) (.int .i64 0)
  refine ⟨by exact (HF2.out.mono (fun k hk => .inl hk)).trans (hfr8.mono (fun k hk => .inr hk)), ?_⟩
  clear hfr8
  repeat (first | (apply sched_take rfl; (focus (first | rfl | (go_simp; done))); (focus (intro W hW; have f12 := HC.out W hW; have f1 := f12.1; have f2 := f12.2; clear f12; go_simp; rfl)); (focus (intro K hK; go_simp; refine hK _ ?_; clear hK K))) | (apply sched_skip rfl; (focus (first | rfl | (go_simp; done))); (focus (intro K hK; go_simp; refine hK _ ?_; clear hK K))))
  refine sched_nil ?_
  go_wp2_with fail
  refine bodyPost_ret (v := .tuple #[.agg #[.int .i64 0, .int .i64 0, .int .i64 gn, .int .i64 0, .int .i64 0, .int .i64 0, .int .i64 0, .int .i64 0], .nilIface]) (by simp [results, Tryz.results83, go_sem, fres]) rfl ?_
  rw [HDM.out]
  have hfr8 := fr_eight w2 (w.heap.size + 1) (.int .i64 0) (.int .i64 0) (.int .i64 gn) (.int .i64 0) (.int .i64 0) (.int .i64 0) (.int .i64 0) (.int .i64 0)
  have hM8 := HM2.out.fr hfr8 (fun k hk e => by have := H.out.lt k hk; omega)
  have h28 := hfr8.size
  have h02 := HF2.out.size
  refine ⟨rfl, ?_, ?_⟩
  · refine (hM8.at_).mono (fun k hk => .inl hk) ?_
    rintro k (hk | hk)
    · have := H.out.lt k hk; omega
    · exact hk.2
  · exact ((Fr.of_below HB1.out).step HF2.out (fun j hj => .inl (hj ▸ H.out.sb.2.2.1))).step hfr8 (fun j hj => .inr (by omega))
set_option maxRecDepth 100000 in
set_option maxHeartbeats 4000000 in
theorem mdo4_any {w : World} {b : Nat} {S : Nat → Prop} {M : Ma} (h : MaAt w b S M) (v : CmV) (B : Nat) (hB : B ≤ w.heap.size) (hok : v.c.ok = true) (hki : v.c.ki = 4) (hr : RdCm w B v) (hS : 0 < v.ns → ∀ k, v.As.map (·.block) = some k → ¬ S k) :
    Calls Tryz.prog 83 #[.pointer (some ⟨b, 0, none⟩), v.val] w (ResDo w b S (doM M v.c)) := by
  obtain ⟨s, sm, t, tm, vb, c, SS, h⟩ := h
  obtain ⟨⟨ki, se, sq, at_, sp, vo⟩, As, ns, cs, Av, nv, cv⟩ := v
  dsimp only [CmV.val] at *
  subst hki
  have HOK := Lib.hid hok
  have HS := Lib.hid hS
  have HR := Lib.hid hr
  have HB0 := Lib.hid hB
  have H := Lib.hid h
  have hix := h.gr.i0
  have hix1 := h.gr.i1
  generalize hW0 : (w.alloc (.cells #[.int .i64 4, .int .i64 se, .int .i64 sq, .int .i64 at_, .slice As ns cs, .slice Av nv cv] 50 (0, 0))).alloc (.cells #[.int .i64 0, .int .i64 0, .int .i64 0, .int .i64 0, .int .i64 0, .int .i64 0, .int .i64 0, .int .i64 0] 32 (0, 0)) = W0
  have hz0 : W0.heap.size = w.heap.size + 2 := by rw [← hW0]; simp
  have hb0 : Below w.heap.size w W0 := by rw [← hW0]; exact ((Below.refl _ _).alloc (Nat.le_refl _) _).alloc (by simp) _
  have hc0 : W0.heap[w.heap.size]? = some (.cells #[.int .i64 4, .int .i64 se, .int .i64 sq, .int .i64 at_, .slice As ns cs, .slice Av nv cv] 50 (0, 0)) := by
    rw [← hW0]
    exact (Below.heap_alloc _ _ _ (by simp)).trans (heap_alloc_new w _)
  have hc1 : W0.heap[w.heap.size + 1]? = some (.cells #[.int .i64 0, .int .i64 0, .int .i64 0, .int .i64 0, .int .i64 0, .int .i64 0, .int .i64 0, .int .i64 0] 32 (0, 0)) := by
    rw [← hW0]
    exact heap_at (by simp)
  have HM0 := Lib.hid (h.below hb0 (Nat.le_refl _))
  have HB1 := Lib.hid hb0
  have HCM := Lib.hid hc0
  have HRES := Lib.hid hc1
  have hz0x : w.heap.size + 2 ≤ W0.heap.size := by omega
  have hbl : b < w.heap.size := h.lt b h.sb.1
  have html : tm < w.heap.size := h.lt _ h.sb.2.2.1
  have hSl : Hid (∀ k, SS k → k < w.heap.size) := Lib.hid (fun k hk => h.lt k (h.sS k hk))
  have fcm := blk_cell hc0
  have fmb := blk_cell HM0.out.hp
  have fres := blk_cell hc1
  have gres := blk_frozen hc1
  have HDM : Hid (doM M ⟨4, se, sq, at_, sp, vo⟩ = ({ M with T := retT M.T at_ }, { Rp.zero with gn := (M.T.length : Int) - ((retT M.T at_).length : Int) }, none)) := Lib.hid (by
    unfold doM
    dsimp only
    rw [if_neg (by decide), if_neg (by decide), if_neg (by decide), if_pos rfl])
  clear h hr hS hB hok hb0 hc0 hc1 hz0
  have HRET : Hid (Calls Tryz.prog 116 #[.pointer (some ⟨s, 0, none⟩), .int .i64 at_] W0.drew (ResRet W0.drew s sm SS M.T at_)) := Lib.hid (retain_any (HM0.out.st.drewN 1) at_)
  have HC : Hid (∀ W, Fr (fun k => SS k ∨ k = w.heap.size + 1) W0 W → (∀ j, W.cell? ⟨b, j, none⟩ = (#[.pointer (some ⟨s, 0, none⟩), .pointer (some ⟨t, 0, none⟩), .int .i64 M.ix, .int .i64 M.te, .slice (some ⟨vb, 0, none⟩) M.vo.length c] : Array Value)[j]?) ∧ (∀ j, W.cell? ⟨w.heap.size, j, none⟩ = (#[.int .i64 4, .int .i64 se, .int .i64 sq, .int .i64 at_, .slice As ns cs, .slice Av nv cv] : Array Value)[j]?)) := Lib.hid (fun W hW => ⟨blk_cell ((hW.block b (by omega) (fun hk => by
      rcases hk with hk | hk
      · exact H.out.n2.1 hk
      · omega)).trans HM0.out.hp), blk_cell ((hW.block w.heap.size (by omega) (fun hk => by
      rcases hk with hk | hk
      · have := hSl.out _ hk; omega
      · omega)).trans HCM.out)⟩)
  go_enter Tryz.func83, Tryz.ntmps83
  go_wp2_with fail
  clear hW0
  refine wp_region_sched [(0, true), (1, true), (2, true), (3, true), (4, true), (5, true), (6, false), (7, true), (8, false), (9, true)] (fun W => Fr (fun k => SS k ∨ k = w.heap.size + 1) W0 W) (by kernel_rfl) (by kernel_rfl) rfl (by kernel_rfl) ((Fr.refl _ _).drew) ?_
  repeat (first | (apply sched_take rfl; (focus (first | rfl | (go_simp; done))); (focus (intro W hW; have f12 := HC.out W hW; have f1 := f12.1; have f2 := f12.2; clear f12; go_simp; rfl)); (focus (intro K hK; go_simp; refine hK _ ?_; clear hK K))) | (apply sched_skip rfl; (focus (first | rfl | (go_simp; done))); (focus (intro K hK; go_simp; refine hK _ ?_; clear hK K))))
  apply sched_op rfl
  intro K hK
  go_simp
  go_wp2_with (fail)
  refine HRET.out.mono ?_
  rintro e w2 ⟨rfl, hst2, hfr2⟩
  have HF2 : Hid (Fr SS W0 w2) := Lib.hid ((Fr.refl SS W0).drew.trans hfr2)
  have hw2z : W0.heap.size ≤ w2.heap.size := HF2.out.size
  have HM2 := Lib.hid ((HM0.out.drewN 1).sto (hst2.mono (fun k hk => .inl hk) (fun k hk => by
    rcases hk with hk | hk
    · have := hSl.out k hk; omega
    · exact hk.2)) hfr2)
  generalize (M.T.length : Int) - ((retT M.T at_).length : Int) = gn at *
  clear hst2 hfr2
  have hres2 : w2.heap[w.heap.size + 1]? = some (.cells #[.int .i64 0, .int .i64 0, .int .i64 0, .int .i64 0, .int .i64 0, .int .i64 0, .int .i64 0, .int .i64 0] 32 (0, 0)) := (HF2.out.block _ (by omega) (fun hk => by have := hSl.out _ hk; omega)).trans HRES.out
  clear fres gres fmb fcm
  have HRES2 := Lib.hid hres2
  have fres := blk_cell hres2
  have gres := blk_frozen hres2
  clear hres2
  go_wp2_with fail
  refine ⟨by exact HF2.out.mono (fun k hk => .inl hk), ?_⟩
  repeat (first | (apply sched_take rfl; (focus (first | rfl | (go_simp; done))); (focus (intro W hW; have f12 := HC.out W hW; have f1 := f12.1; have f2 := f12.2; clear f12; go_simp; rfl)); (focus (intro K hK; go_simp; refine hK _ ?_; clear hK K))) | (apply sched_skip rfl; (focus (first | rfl | (go_simp; done))); (focus (intro K hK; go_simp; refine hK _ ?_; clear hK K))))
  apply sched_op rfl
  intro K hK
  go_simp
  go_wp2_with (fail)
  have hfr8 := fr_eight w2 (w.heap.size + 1) (.int .i64 0) (.int .i64 0) (.int .i64 gn) (.int .i64 0) (.int .i64 0) (.int .i64 0) (.int .i64 0) (.int .i64 0)
  refine ⟨by exact (HF2.out.mono (fun k hk => .inl hk)).trans (hfr8.mono (fun k hk => .inr hk)), ?_⟩
  clear hfr8
  repeat (first | (apply sched_take rfl; (focus (first | rfl | (go_simp; done))); (focus (intro W hW; have f12 := HC.out W hW; have f1 := f12.1; have f2 := f12.2; clear f12; go_simp; rfl)); (focus (intro K hK; go_simp; refine hK _ ?_; clear hK K))) | (apply sched_skip rfl; (focus (first | rfl | (go_simp; done))); (focus (intro K hK; go_simp; refine hK _ ?_; clear hK K))))
  refine sched_nil ?_
  go_wp2_with fail
  refine bodyPost_ret (v := .tuple #[.agg #[.int .i64 0, .int .i64 0, .int .i64 gn, .int .i64 0, .int .i64 0, .int .i64 0, .int .i64 0, .int .i64 0], .nilIface]) (by simp [results, Tryz.results83, go_sem, fres]) rfl ?_
  rw [HDM.out]
  have hfr8 := fr_eight w2 (w.heap.size + 1) (.int .i64 0) (.int .i64 0) (.int .i64 gn) (.int .i64 0) (.int .i64 0) (.int .i64 0) (.int .i64 0) (.int .i64 0)
  have hM8 := HM2.out.fr hfr8 (fun k hk e => by
    rcases hk with hk | hk
    · have := H.out.lt k hk; omega
    · have hkz : W0.heap.size ≤ k := hk.1
      omega)
  have h28 := hfr8.size
  have h02 := HF2.out.size
  refine ⟨rfl, ?_, ?_⟩
  · refine (hM8.at_).mono ?_ ?_
    · rintro k (hk | hk)
      · exact .inl hk
      · have hkz : W0.heap.size ≤ k := hk.1
        have hkl : k < w2.heap.size := hk.2
        exact .inr ⟨by omega, by omega⟩
    · rintro k (hk | hk)
      · have := H.out.lt k hk; omega
      · exact hk.2
  · exact ((Fr.of_below HB1.out).step HF2.out (fun j hj => .inl (H.out.sS j hj))).step hfr8 (fun j hj => .inr (by omega))
set_option maxRecDepth 100000 in
set_option maxHeartbeats 4000000 in
theorem mdo5_any {w : World} {b : Nat} {S : Nat → Prop} {M : Ma} (h : MaAt w b S M) (v : CmV) (B : Nat) (hB : B ≤ w.heap.size) (hok : v.c.ok = true) (hki : v.c.ki = 5) (hr : RdCm w B v) (hS : 0 < v.ns → ∀ k, v.As.map (·.block) = some k → ¬ S k) :
    Calls Tryz.prog 83 #[.pointer (some ⟨b, 0, none⟩), v.val] w (ResDo w b S (doM M v.c)) := by
  obtain ⟨s, sm, t, tm, vb, c, SS, h⟩ := h
  obtain ⟨⟨ki, se, sq, at_, sp, vo⟩, As, ns, cs, Av, nv, cv⟩ := v
  dsimp only [CmV.val] at *
  subst hki
  have HOK := Lib.hid hok
  have HS := Lib.hid hS
  have HR := Lib.hid hr
  have HB0 := Lib.hid hB
  have H := Lib.hid h
  have hix := h.gr.i0
  have hix1 := h.gr.i1
  generalize hW0 : (w.alloc (.cells #[.int .i64 5, .int .i64 se, .int .i64 sq, .int .i64 at_, .slice As ns cs, .slice Av nv cv] 50 (0, 0))).alloc (.cells #[.int .i64 0, .int .i64 0, .int .i64 0, .int .i64 0, .int .i64 0, .int .i64 0, .int .i64 0, .int .i64 0] 32 (0, 0)) = W0
  have hz0 : W0.heap.size = w.heap.size + 2 := by rw [← hW0]; simp
  have hb0 : Below w.heap.size w W0 := by rw [← hW0]; exact ((Below.refl _ _).alloc (Nat.le_refl _) _).alloc (by simp) _
  have hc0 : W0.heap[w.heap.size]? = some (.cells #[.int .i64 5, .int .i64 se, .int .i64 sq, .int .i64 at_, .slice As ns cs, .slice Av nv cv] 50 (0, 0)) := by
    rw [← hW0]
    exact (Below.heap_alloc _ _ _ (by simp)).trans (heap_alloc_new w _)
  have hc1 : W0.heap[w.heap.size + 1]? = some (.cells #[.int .i64 0, .int .i64 0, .int .i64 0, .int .i64 0, .int .i64 0, .int .i64 0, .int .i64 0, .int .i64 0] 32 (0, 0)) := by
    rw [← hW0]
    exact heap_at (by simp)
  have HM0 := Lib.hid (h.below hb0 (Nat.le_refl _))
  have HB1 := Lib.hid hb0
  have HCM := Lib.hid hc0
  have HRES := Lib.hid hc1
  have hz0x : w.heap.size + 2 ≤ W0.heap.size := by omega
  have hbl : b < w.heap.size := h.lt b h.sb.1
  have html : tm < w.heap.size := h.lt _ h.sb.2.2.1
  have hSl : Hid (∀ k, SS k → k < w.heap.size) := Lib.hid (fun k hk => h.lt k (h.sS k hk))
  have fcm := blk_cell hc0
  have fmb := blk_cell HM0.out.hp
  have fres := blk_cell hc1
  have gres := blk_frozen hc1
  have HDM : Hid (doM M ⟨5, se, sq, at_, sp, vo⟩ = ({ M with vo := vo }, Rp.zero, none)) := Lib.hid (by
    unfold doM
    dsimp only
    rw [if_neg (by decide), if_neg (by decide), if_neg (by decide), if_neg (by decide), if_pos rfl])
  clear h hr hS hB hok hb0 hc0 hc1 hz0
  have hvo := (Cm.ok_parts HOK.out).2.2.2 rfl
  dsimp only at hvo
  have hvl := okV_len hvo
  have hvn : vo.length = nv := HR.out.vo.len
  obtain ⟨vb0, voff, hav⟩ : ∃ b off, Av = some ⟨b, off, none⟩ := by
    obtain ⟨x, y, h, _, _⟩ := HR.out.vo.at_ (k := 0) (by show 0 < vo.length; omega)
    exact ⟨x, y, h⟩
  subst hav
  have HVO := Lib.hid hvo
  have HVR := Lib.hid (Rd.below' HR.out.vo HB1.out HB0.out (Nat.le_refl _))
  have hnv7 : nv ≤ 7 := by omega
  have HVN := Lib.hid hvn
  have hvp : 0 < vo.length := by omega
  clear hvo hvl
  subst hvn
  go_enter Tryz.func83, Tryz.ntmps83
  go_wp2_with fail
  clear hW0
  refine (cloneInts_any ⟨vb0, voff, none⟩ vo.length cv B vo _ (by have := HB0.out; omega) (by omega) HVR.out).mono ?_
  rintro e w2 ⟨A2, c2, rfl, hown2, hb2⟩
  obtain ⟨g2, rfl, hg2, hg3⟩ := own_form hown2 hvp
  have HB2 := Lib.hid hb2
  have HV2 : Hid (RdI w2 w2.heap.size (some ⟨g2, 0, none⟩) vo.length vo) := Lib.hid (Rd.of_own hown2)
  have hmb2 := (hb2.block b (by omega)).trans HM0.out.hp
  have fmb2 := blk_cell hmb2
  have gmb2 := blk_frozen hmb2
  have hres2 := (hb2.block (w.heap.size + 1) (by omega)).trans HRES.out
  have fres2 := blk_cell hres2
  have gres2 := blk_frozen hres2
  have hz2 := hb2.size
  have HM3 := Lib.hid (HM0.out.vot hb2 HVO.out HV2.out hg2 hg3 (c' := c2))
  have HRES3 : Hid ((w2.setCell ⟨b, 4, none⟩ (.slice (some ⟨g2, 0, none⟩) vo.length c2)).heap[w.heap.size + 1]? = some (.cells #[.int .i64 0, .int .i64 0, .int .i64 0, .int .i64 0, .int .i64 0, .int .i64 0, .int .i64 0, .int .i64 0] 32 (0, 0))) := Lib.hid ((Below.heap_setCell _ _ _ _ (by simp only; omega)).trans hres2)
  have HF3 : Hid (Fr (fun k => k = b) w2 (w2.setCell ⟨b, 4, none⟩ (.slice (some ⟨g2, 0, none⟩) vo.length c2))) := Lib.hid ((Fr.refl (fun k => k = b) w2).setCell (p := ⟨b, 4, none⟩) rfl _)
  have hz3 : (w2.setCell ⟨b, 4, none⟩ (.slice (some ⟨g2, 0, none⟩) vo.length c2)).heap.size = w2.heap.size := by simp
  have HZ3 := Lib.hid hz3
  clear fres gres fcm hmb2 hres2 hown2 hb2 hz3 fres2 gres2 fmb
  have fres := blk_cell HRES3.out
  have gres := blk_frozen HRES3.out
  go_wp2_with fail
  refine bodyPost_ret (v := .tuple #[.agg #[.int .i64 0, .int .i64 0, .int .i64 0, .int .i64 0, .int .i64 0, .int .i64 0, .int .i64 0, .int .i64 0], .nilIface]) (by simp [results, Tryz.results83, go_sem, fres]) rfl ?_
  rw [HDM.out]
  have hfr8 := fr_eight (w2.setCell ⟨b, 4, none⟩ (.slice (some ⟨g2, 0, none⟩) vo.length c2)) (w.heap.size + 1) (.int .i64 0) (.int .i64 0) (.int .i64 0) (.int .i64 0) (.int .i64 0) (.int .i64 0) (.int .i64 0) (.int .i64 0)
  have hM8 := HM3.out.fr hfr8 (fun k hk e => by
    rcases hk with hk | hk
    · have := H.out.lt k hk; omega
    · have hkz : W0.heap.size ≤ k := hk.1
      omega)
  have h28 := hfr8.size
  have h22 := HZ3.out
  refine ⟨rfl, ?_, ?_⟩
  · refine (hM8.at_).mono ?_ ?_
    · rintro k (hk | hk)
      · exact .inl hk
      · have hkz : W0.heap.size ≤ k := hk.1
        have hkl : k < w2.heap.size := hk.2
        exact .inr ⟨by omega, by omega⟩
    · rintro k (hk | hk)
      · have := H.out.lt k hk; omega
      · exact hk.2
  · exact (((Fr.of_below (HB1.out.trans (HB2.out.mono (by omega)))).step HF3.out (fun j hj => .inl (hj ▸ H.out.sb.1)))).step hfr8 (fun j hj => .inr (by omega))
set_option maxRecDepth 100000 in
set_option maxHeartbeats 4000000 in
theorem mdo0_any {w : World} {b : Nat} {S : Nat → Prop} {M : Ma} (h : MaAt w b S M) (v : CmV) (B : Nat) (hB : B ≤ w.heap.size) (hok : v.c.ok = true) (hki : v.c.ki ≠ 1 ∧ v.c.ki ≠ 2 ∧ v.c.ki ≠ 3 ∧ v.c.ki ≠ 4 ∧ v.c.ki ≠ 5) (hr : RdCm w B v) (hS : 0 < v.ns → ∀ k, v.As.map (·.block) = some k → ¬ S k) :
    Calls Tryz.prog 83 #[.pointer (some ⟨b, 0, none⟩), v.val] w (ResDo w b S (doM M v.c)) := by
  obtain ⟨s, sm, t, tm, vb, c, SS, h⟩ := h
  obtain ⟨⟨ki, se, sq, at_, sp, vo⟩, As, ns, cs, Av, nv, cv⟩ := v
  dsimp only [CmV.val] at *
  have HOK := Lib.hid hok
  have HS := Lib.hid hS
  have HR := Lib.hid hr
  have HB0 := Lib.hid hB
  have H := Lib.hid h
  have hix := h.gr.i0
  have hix1 := h.gr.i1
  generalize hW0 : (w.alloc (.cells #[.int .i64 ki, .int .i64 se, .int .i64 sq, .int .i64 at_, .slice As ns cs, .slice Av nv cv] 50 (0, 0))).alloc (.cells #[.int .i64 0, .int .i64 0, .int .i64 0, .int .i64 0, .int .i64 0, .int .i64 0, .int .i64 0, .int .i64 0] 32 (0, 0)) = W0
  have hz0 : W0.heap.size = w.heap.size + 2 := by rw [← hW0]; simp
  have hb0 : Below w.heap.size w W0 := by rw [← hW0]; exact ((Below.refl _ _).alloc (Nat.le_refl _) _).alloc (by simp) _
  have hc0 : W0.heap[w.heap.size]? = some (.cells #[.int .i64 ki, .int .i64 se, .int .i64 sq, .int .i64 at_, .slice As ns cs, .slice Av nv cv] 50 (0, 0)) := by
    rw [← hW0]
    exact (Below.heap_alloc _ _ _ (by simp)).trans (heap_alloc_new w _)
  have hc1 : W0.heap[w.heap.size + 1]? = some (.cells #[.int .i64 0, .int .i64 0, .int .i64 0, .int .i64 0, .int .i64 0, .int .i64 0, .int .i64 0, .int .i64 0] 32 (0, 0)) := by
    rw [← hW0]
    exact heap_at (by simp)
  have HM0 := Lib.hid (h.below hb0 (Nat.le_refl _))
  have HB1 := Lib.hid hb0
  have HCM := Lib.hid hc0
  have HRES := Lib.hid hc1
  have hz0x : w.heap.size + 2 ≤ W0.heap.size := by omega
  have hbl : b < w.heap.size := h.lt b h.sb.1
  have html : tm < w.heap.size := h.lt _ h.sb.2.2.1
  have hSl : Hid (∀ k, SS k → k < w.heap.size) := Lib.hid (fun k hk => h.lt k (h.sS k hk))
  have fcm := blk_cell hc0
  have fmb := blk_cell HM0.out.hp
  have fres := blk_cell hc1
  have gres := blk_frozen hc1
  have HDM : Hid (doM M ⟨ki, se, sq, at_, sp, vo⟩ = (M, Rp.zero, none)) := Lib.hid (by
    unfold doM
    dsimp only
    rw [if_neg hki.1, if_neg hki.2.1, if_neg hki.2.2.1, if_neg hki.2.2.2.1, if_neg hki.2.2.2.2])
  clear h hr hS hB hok hb0 hc0 hc1 hz0
  obtain ⟨hk1, hk2, hk3, hk4, hk5⟩ := hki
  have hb1 : (ki == 1) = false := by simpa using hk1
  have hb2 : (ki == 2) = false := by simpa using hk2
  have hb3 : (ki == 3) = false := by simpa using hk3
  have hb4 : (ki == 4) = false := by simpa using hk4
  have hb5 : (ki == 5) = false := by simpa using hk5
  go_enter Tryz.func83, Tryz.ntmps83
  go_wp2_with fail
  clear hW0
  refine bodyPost_ret (v := .tuple #[.agg #[.int .i64 0, .int .i64 0, .int .i64 0, .int .i64 0, .int .i64 0, .int .i64 0, .int .i64 0, .int .i64 0], .nilIface]) (by simp [results, Tryz.results83, go_sem, fres]) rfl ?_
  rw [HDM.out]
  have hfr8 := fr_eight W0 (w.heap.size + 1) (.int .i64 0) (.int .i64 0) (.int .i64 0) (.int .i64 0) (.int .i64 0) (.int .i64 0) (.int .i64 0) (.int .i64 0)
  exact ⟨rfl, H.out.at_.same (HB1.out.trans (hfr8.below HB1.out.size (fun k hk => by omega)))⟩
/-- A machine does a command. -/
theorem mdo_any {w : World} {b : Nat} {S : Nat → Prop} {M : Ma} (h : MaAt w b S M) (v : CmV) (B : Nat) (hB : B ≤ w.heap.size) (hok : v.c.ok = true) (hr : RdCm w B v) (hS : 0 < v.ns → ∀ k, v.As.map (·.block) = some k → ¬ S k) :
    Calls Tryz.prog 83 #[.pointer (some ⟨b, 0, none⟩), v.val] w (ResDo w b S (doM M v.c)) := by
  by_cases h1 : v.c.ki = 1
  · exact mdo1_any h v B hB hok h1 hr hS
  by_cases h2 : v.c.ki = 2
  · exact mdo2_any h v B hB hok h2 hr hS
  by_cases h3 : v.c.ki = 3
  · exact mdo3_any h v B hB hok h3 hr hS
  by_cases h4 : v.c.ki = 4
  · exact mdo4_any h v B hB hok h4 hr hS
  by_cases h5 : v.c.ki = 5
  · exact mdo5_any h v B hB hok h5 hr hS
  exact mdo0_any h v B hB hok ⟨h1, h2, h3, h4, h5⟩ hr hS
end Go.Proofs.YtfjpenbahoeklaaGreatDoor
namespace Go.Proofs.YtfjpenbahoeklaaGreatDoor
open Go Go.RowKit Go.Extern.Stop Go.Stop Go.Extern

theorem as_nil (t : Value) (w : World) :
    Calls Tryz.prog 84 #[.nilIface, t] w fun e w' => e = .returned (.bool false) ∧ w' = w := by
  go_enter Tryz.func84, Tryz.ntmps84
  go_wp2
  go_ret
  exact ⟨rfl, rfl⟩

theorem ev_target (t : Addr) (w : World) : (ReflectliteValue.unpack (.iface 150 (.pointer (some t)))).run Tryz.prog w
    = .ok (.agg #[.pointer (some ⟨1, 150, none⟩), .pointer (some ⟨w.heap.size, 0, none⟩), .int .u64 150]) (w.alloc (.cells #[.pointer (some t)] 150)) := by kernel_rfl
theorem ev_type (a : Addr) (w : World) : (ReflectliteValue.methodAny (ReflectliteValue.valueError "reflectlite.Value.Type" 0) (fun t _ _ _ => ReflectliteType.toType t) #[.agg #[.pointer (some ⟨1, 150, none⟩), .pointer (some a), .int .u64 150]]).run Tryz.prog w
    = .ok (.iface 219 (.agg #[.pointer (some ⟨1, 150, none⟩)])) w := by kernel_rfl
theorem ev_kindP (w : World) : ((ReflectliteType.abiMethod fun t => (fun a : Nat => Value.int IntKind.u8 (a : Int)) <$> Rtype.kind t) #[.pointer (some ⟨1, 150, none⟩)]).run Tryz.prog w = .ok (.int .u8 22) w := by kernel_rfl
theorem ev_kindE (w : World) : ((ReflectliteType.abiMethod fun t => (fun a : Nat => Value.int IntKind.u8 (a : Int)) <$> Rtype.kind t) #[.pointer (some ⟨1, 28, none⟩)]).run Tryz.prog w = .ok (.int .u8 2) w := by kernel_rfl
theorem rlm (z : Sem Value) (f : TypeId → Addr → Nat → Nat → Sem Value) (v : Value) :
    ReflectliteValue.method z f #[v] = (do match ← ReflectliteValue.parts v with | none => z | some (t, a, fl) => f t a fl (fl % 32)) := rfl
theorem ev_partsP (a : Addr) (w : World) : (ReflectliteValue.parts (.agg #[.pointer (some ⟨1, 150, none⟩), .pointer (some a), .int .u64 150])).run Tryz.prog w = .ok (some (150, a, 150)) w := by kernel_rfl
theorem ev_isNil (a p : Addr) (W : World) (ha : W.cell? a = some (.pointer (some p))) :
    (ReflectliteValue.method (ReflectliteValue.valueError "reflectlite.Value.IsNil" 0) ReflectliteValue.isNil #[.agg #[.pointer (some ⟨1, 150, none⟩), .pointer (some a), .int .u64 150]]).run Tryz.prog W = .ok (.bool false) W := by
  rw [rlm]
  simp only [Sem.run_bind, ev_partsP, Result.andThen]
  simp [ReflectliteValue.isNil, loadVar, isAgg, underlying, Tryz.underlying150, ha, Result.andThen]
theorem ev_elem (w : World) : (ReflectliteType.method ReflectliteType.elem #[.agg #[.pointer (some ⟨1, 150, none⟩)]]).run Tryz.prog w = .ok (.iface 219 (.agg #[.pointer (some ⟨1, 28, none⟩)])) w := by kernel_rfl
theorem ev_impl (w : World) : (ReflectliteType.relation "Implements" ReflectliteType.implements_ #[.agg #[.pointer (some ⟨1, 28, none⟩)], .iface 219 (.agg #[.pointer (some ⟨1, 146, none⟩)])]).run Tryz.prog w = .ok (.bool true) w := by kernel_rfl
theorem ev_typeOf (v : Value) (w : World) : (ReflectliteType.typeOf #[.iface 28 v]).run Tryz.prog w = .ok (.iface 219 (.agg #[.pointer (some ⟨1, 28, none⟩)])) w := by kernel_rfl
theorem ev_assign (w : World) : (ReflectliteType.relation "AssignableTo" ReflectliteType.assignableTo #[.agg #[.pointer (some ⟨1, 28, none⟩)], .iface 219 (.agg #[.pointer (some ⟨1, 28, none⟩)])]).run Tryz.prog w = .ok (.bool true) w := by kernel_rfl
theorem ev_valueE (n : Int) (w : World) : (ReflectliteValue.unpack (.iface 28 (.int .i64 n))).run Tryz.prog w
    = .ok (.agg #[.pointer (some ⟨1, 28, none⟩), .pointer (some ⟨w.heap.size, 0, none⟩), .int .u64 130]) (w.alloc (.cells #[.int .i64 n] 28)) := by kernel_rfl
theorem ev_elemOf (w : World) : (Rtype.elem? 150).run Tryz.prog w = .ok (some 28) w := by kernel_rfl
theorem ev_mk (p : Addr) (w : World) : (ReflectliteValue.mk 28 p ReflectliteValue.flagAddr).run Tryz.prog w = .ok (.agg #[.pointer (some ⟨1, 28, none⟩), .pointer (some p), .int .u64 386]) w := by kernel_rfl
theorem ev_elemV (a p : Addr) (W : World) (ha : W.cell? a = some (.pointer (some p))) :
    (ReflectliteValue.method (ReflectliteValue.valueError "reflectlite.Value.Elem" 0) ReflectliteValue.elem #[.agg #[.pointer (some ⟨1, 150, none⟩), .pointer (some a), .int .u64 150]]).run Tryz.prog W
      = .ok (.agg #[.pointer (some ⟨1, 28, none⟩), .pointer (some p), .int .u64 386]) W := by
  rw [rlm]
  simp only [Sem.run_bind, ev_partsP, Result.andThen]
  simp [ReflectliteValue.elem, loadVar, isAgg, underlying, Tryz.underlying150, ha, Result.andThen, ev_elemOf, ev_mk]
theorem rls (v x : Value) : ReflectliteValue.set #[v, x] = (do
    let (some (dst, a, fl), some (src, b, _)) := (← ReflectliteValue.parts v, ← ReflectliteValue.parts x)
      | unsupported (.noEntry "extern/(internal/reflectlite.Value).Set.zeroValue")
    if fl / ReflectliteValue.flagAddr % 2 == 0 then unsupported (.noEntry "extern/(internal/reflectlite.Value).Set.unaddressable")
    let val ← loadVar src b
    if ← Rtype.directlyAssignable dst src then storeVar dst a val
    else if ← Rtype.implements dst src then
      if (← Rtype.kind src) == 20 then
        match val with
        | .nilIface => unsupported (.noEntry "extern/reflectlite: a nil value of one interface type handed on as a value of another")
        | _ => storeVar dst a val
      else storeVar dst a (.iface src val)
    else panicString ("reflectlite.Set: value of type " ++ (← Rtype.spelt src) ++ " is not assignable to type " ++ (← Rtype.spelt dst))
    pure (.tuple #[])) := rfl
theorem ev_partsA (a : Addr) (w : World) : (ReflectliteValue.parts (.agg #[.pointer (some ⟨1, 28, none⟩), .pointer (some a), .int .u64 386])).run Tryz.prog w = .ok (some (28, a, 386)) w := by kernel_rfl
theorem ev_partsE (a : Addr) (w : World) : (ReflectliteValue.parts (.agg #[.pointer (some ⟨1, 28, none⟩), .pointer (some a), .int .u64 130])).run Tryz.prog w = .ok (some (28, a, 130)) w := by kernel_rfl
theorem ev_direct (w : World) : (Rtype.directlyAssignable 28 28).run Tryz.prog w = .ok true w := by kernel_rfl
theorem ev_set (ta b : Addr) (n : Int) (old : Value) (W : World) (hb : W.cell? b = some (.int .i64 n)) (ht : W.cell? ta = some old) (hf : W.frozen? ta = false) :
    (ReflectliteValue.set #[.agg #[.pointer (some ⟨1, 28, none⟩), .pointer (some ta), .int .u64 386], .agg #[.pointer (some ⟨1, 28, none⟩), .pointer (some b), .int .u64 130]]).run Tryz.prog W
      = .ok (.tuple #[]) (W.setCell ta (.int .i64 n)) := by
  rw [rls]
  simp only [Sem.run_bind, ev_partsA, ev_partsE, Result.andThen]
  simp [ReflectliteValue.flagAddr, loadVar, isAgg, underlying, Tryz.underlying28, hb, Result.andThen, ev_direct, storeVar, Value.cells, storeCells, Addr.add]
  rw [run_store Tryz.prog W ta _ _ (by rfl)]
  simp [ht, hf]
theorem ev_mKind (h : Value) (w : World) : (Go.method 409 219 (.agg #[h]) "Kind").run Tryz.prog w = .ok (198, h) w := by kernel_rfl
theorem ev_mElem (h : Value) (w : World) : (Go.method 409 219 (.agg #[h]) "Elem").run Tryz.prog w = .ok (214, .agg #[h]) w := by kernel_rfl
theorem ev_mImpl (h : Value) (w : World) : (Go.method 409 219 (.agg #[h]) "Implements").run Tryz.prog w = .ok (215, .agg #[h]) w := by kernel_rfl
theorem ev_mAss (h : Value) (w : World) : (Go.method 409 219 (.agg #[h]) "AssignableTo").run Tryz.prog w = .ok (212, .agg #[h]) w := by kernel_rfl
set_option maxRecDepth 100000 in
set_option maxHeartbeats 4000000 in
theorem as_hit (n : Int) (t : Addr) (old : Value) (w : World) (hg : w.cell? ⟨0, 0, none⟩ = some (.iface 219 (.agg #[.pointer (some ⟨1, 146, none⟩)]))) (ht0 : w.cell? t = some old) (hf0 : w.frozen? t = false) :
    Calls Tryz.prog 84 #[.iface 28 (.int .i64 n), .iface 150 (.pointer (some t))] w fun ev w' => ev = .returned (.bool true) ∧ w' = ((((w.alloc (.cells #[.pointer (some t)] 150)).alloc (.cells #[.pointer (some ⟨1, 150, none⟩), .pointer (some ⟨w.heap.size, 0, none⟩), .int .u64 150] 186)).alloc (.cells #[.pointer (some ⟨1, 150, none⟩), .pointer (some ⟨w.heap.size, 0, none⟩), .int .u64 150] 186)).alloc (.cells #[.int .i64 n] 28)).setCell t (.int .i64 n) := by
  have h6 := @run_callFunc_extern Tryz.prog 117 _ (fun args => ReflectliteValue.unpack (args.getD 0 (.tuple #[]))) Tryz.func117 (by kernel_rfl) (by kernel_rfl) (by kernel_rfl) (by kernel_rfl)
  have h7 := @run_callFunc_extern Tryz.prog 118 _ (ReflectliteValue.methodAny (ReflectliteValue.valueError "reflectlite.Value.Type" 0) (fun t _ _ _ => ReflectliteType.toType t)) Tryz.func118 (by kernel_rfl) (by kernel_rfl) (by kernel_rfl) (by kernel_rfl)
  have h8 := @run_callFunc_extern Tryz.prog 119 _ (ReflectliteValue.method (ReflectliteValue.valueError "reflectlite.Value.IsNil" 0) ReflectliteValue.isNil) Tryz.func119 (by kernel_rfl) (by kernel_rfl) (by kernel_rfl) (by kernel_rfl)
  have h27 := @run_callFunc_extern Tryz.prog 198 _ (ReflectliteType.abiMethod fun t => do pure (.int .u8 (← Rtype.kind t))) Tryz.func198 (by kernel_rfl) (by kernel_rfl) (by kernel_rfl) (by kernel_rfl)
  have h37 := @run_callFunc_extern Tryz.prog 214 _ (ReflectliteType.method ReflectliteType.elem) Tryz.func214 (by kernel_rfl) (by kernel_rfl) (by kernel_rfl) (by kernel_rfl)
  have h38 := @run_callFunc_extern Tryz.prog 215 _ (ReflectliteType.relation "Implements" ReflectliteType.implements_) Tryz.func215 (by kernel_rfl) (by kernel_rfl) (by kernel_rfl) (by kernel_rfl)
  have h10 := @run_callFunc_extern Tryz.prog 144 _ (ReflectliteType.typeOf) Tryz.func144 (by kernel_rfl) (by kernel_rfl) (by kernel_rfl) (by kernel_rfl)
  have h35 := @run_callFunc_extern Tryz.prog 212 _ (ReflectliteType.relation "AssignableTo" ReflectliteType.assignableTo) Tryz.func212 (by kernel_rfl) (by kernel_rfl) (by kernel_rfl) (by kernel_rfl)
  have h11 := @run_callFunc_extern Tryz.prog 145 _ (ReflectliteValue.method (ReflectliteValue.valueError "reflectlite.Value.Elem" 0) ReflectliteValue.elem) Tryz.func145 (by kernel_rfl) (by kernel_rfl) (by kernel_rfl) (by kernel_rfl)
  have h12 := @run_callFunc_extern Tryz.prog 146 _ (ReflectliteValue.set) Tryz.func146 (by kernel_rfl) (by kernel_rfl) (by kernel_rfl) (by kernel_rfl)
  have tO := ev_typeOf
  have mA := ev_mAss
  have a25 := ev_assign
  have v25 := ev_valueE
  have f6 := ev_target
  have f7 := ev_type
  have mK := ev_mKind
  have mE := ev_mElem
  have mI := ev_mImpl
  have k27 := ev_kindP
  have k25 := ev_kindE
  have e27 := ev_elem
  have i25 := ev_impl
  have n8 := ev_isNil ⟨w.heap.size, 0, none⟩ t ((w.alloc (.cells #[.pointer (some t)] 150)).alloc (.cells #[.pointer (some ⟨1, 150, none⟩), .pointer (some ⟨w.heap.size, 0, none⟩), .int .u64 150] 186)) (by simp)
  have hlt : 0 < w.heap.size := by
    rcases Nat.eq_zero_or_pos w.heap.size with h0 | h
    · simp [World.cell?, h0] at hg
    · exact h
  have hg2 : ((w.alloc (.cells #[.pointer (some t)] 150)).alloc (.cells #[.pointer (some ⟨1, 150, none⟩), .pointer (some ⟨w.heap.size, 0, none⟩), .int .u64 150] 186)).cell? ⟨0, 0, none⟩ = some (.iface 219 (.agg #[.pointer (some ⟨1, 146, none⟩)])) := by
    rw [World.cell?_alloc_lt _ _ ⟨0, 0, none⟩ (by simp), World.cell?_alloc_lt _ _ ⟨0, 0, none⟩ hlt]; exact hg
  have htl : t.block < w.heap.size := by
    rcases Nat.lt_or_ge t.block w.heap.size with h | h
    · exact h
    · simp [World.cell?, Array.getElem?_eq_none h] at ht0
  have el := ev_elemV ⟨w.heap.size, 0, none⟩ t (((w.alloc (.cells #[.pointer (some t)] 150)).alloc (.cells #[.pointer (some ⟨1, 150, none⟩), .pointer (some ⟨w.heap.size, 0, none⟩), .int .u64 150] 186)).alloc (.cells #[.pointer (some ⟨1, 150, none⟩), .pointer (some ⟨w.heap.size, 0, none⟩), .int .u64 150] 186)) (by rw [World.cell?_alloc_lt _ _ ⟨w.heap.size, 0, none⟩ (by simp; omega)]; simp)
  have st := ev_set t ⟨w.heap.size + 1 + 1 + 1, 0, none⟩ n old ((((w.alloc (.cells #[.pointer (some t)] 150)).alloc (.cells #[.pointer (some ⟨1, 150, none⟩), .pointer (some ⟨w.heap.size, 0, none⟩), .int .u64 150] 186)).alloc (.cells #[.pointer (some ⟨1, 150, none⟩), .pointer (some ⟨w.heap.size, 0, none⟩), .int .u64 150] 186)).alloc (.cells #[.int .i64 n] 28))
    (by rw [World.cell?_alloc_at _ _ _ _ (by simp)]; rfl)
    (by rw [World.cell?_alloc_lt _ _ t (by simp; omega), World.cell?_alloc_lt _ _ t (by simp; omega), World.cell?_alloc_lt _ _ t (by simp; omega), World.cell?_alloc_lt _ _ t htl]; exact ht0)
    (by rw [World.frozen?_alloc_old _ _ t (by simp; omega), World.frozen?_alloc_old _ _ t (by simp; omega), World.frozen?_alloc_old _ _ t (by simp; omega), World.frozen?_alloc_old _ _ t (Nat.ne_of_lt htl)]; exact hf0)
  go_enter Tryz.func84, Tryz.ntmps84
  go_wp2
  refine wp_loop_rounds 1 ?_
  rw [rounds_succ]
  go_wp2
  go_ret
  exact ⟨rfl, rfl⟩
end Go.Proofs.YtfjpenbahoeklaaGreatDoor
namespace Go.Proofs.YtfjpenbahoeklaaGreatDoor
open Go Go.RowKit

def sameE (a b : En) : Bool := decide (a.ix = b.ix) && decide (a.te = b.te) && decide (a.da = b.da)
/-- A view, what is asked of it. -/
structure Vw where
  ro : Int
  ht : Int
  co : Int
  ix : Int
  es : List En
instance : Inhabited En := ⟨⟨0, 0, []⟩⟩
instance : Inhabited Vw := ⟨⟨0, 0, 0, 0, []⟩⟩
def rightB (v : Vw) : Bool := decide (0 ≤ v.ix) && decide (v.ix ≤ 1099511627776) && decide (v.ix ≤ v.co) && decide (v.co ≤ 1099511627776) && decide (v.co - v.ix ≤ v.es.length)
/-- Are the entries at a place of one view unlike, where it is asked? -/
def unB (a b : Vw) (q : Int → En → En → Bool) (k : Nat) : Bool :=
  decide (0 ≤ a.ix - b.ix + k) && decide (a.ix - b.ix + k < b.es.length) && q (a.ix + k + 1) (a.es.getD k default) (b.es.getD (a.ix - b.ix + k).toNat default) && !sameE (a.es.getD k default) (b.es.getD (a.ix - b.ix + k).toNat default)
def pairB (a b : Vw) (q : Int → En → En → Bool) : Bool := (List.range a.es.length).any (unB a b q)
def qTerm : Int → En → En → Bool := fun _ x y => decide (x.te = y.te)
def qBoth (a b : Vw) : Int → En → En → Bool := fun i _ _ => decide (i ≤ a.co) && decide (i ≤ b.co)
def leadB (a b : Vw) : Bool := decide (a.ro = 2) && decide (b.ro = 2) && decide (a.ht = b.ht)
def twoL (a b : Vw) : List Int := (if leadB a b then [2] else []) ++ (if pairB a b qTerm then [3] else []) ++ (if pairB a b (qBoth a b) then [4] else [])
/-- What is found of two views, the second one behind the first. -/
def findK (l : List Vw) (i k : Nat) : List (Int × Int × Int) := if rightB (l.getD k default) then (twoL (l.getD i default) (l.getD k default)).map fun z => (z, (k : Int), (i : Int)) else []
def findI (l : List Vw) (i : Nat) : List (Int × Int × Int) := if rightB (l.getD i default) then (List.range i).flatMap (findK l i) else [(1, (i : Int), (i : Int))]
/-- What is found of views. -/
def lookL (l : List Vw) : List (Int × Int × Int) := (List.range l.length).flatMap (findI l)

theorem sameE_iff {a b : En} : sameE a b = true ↔ a.ix = b.ix ∧ a.te = b.te ∧ a.da = b.da := by
  unfold sameE; simp [and_assoc]
theorem sameE_refl (a : En) : sameE a a = true := sameE_iff.2 ⟨rfl, rfl, rfl⟩
theorem pairB_self (a : Vw) (q : Int → En → En → Bool) : pairB a a q = false := by
  unfold pairB
  rw [List.any_eq_false]
  intro k _
  unfold unB
  have e : (a.ix - a.ix + (k : Int)).toNat = k := by omega
  rw [e, sameE_refl]
  simp
theorem two_kinds {a : Vw} {z : Int} (h : z ∈ twoL a a) : z = 2 := by
  unfold twoL at h
  rw [pairB_self, pairB_self] at h
  by_cases hl : leadB a a = true
  · rw [if_pos hl] at h; simpa using h
  · rw [if_neg hl] at h; simp at h
theorem look_self {v : Vw} {f : Int × Int × Int} (h : f ∈ lookL [v, v]) : f.1 = 1 ∨ f.1 = 2 := by
  unfold lookL at h
  obtain ⟨i, hi, h⟩ := List.mem_flatMap.1 h
  have hi : i < 2 := by simpa using hi
  have hgi : ∀ j, j < 2 → ([v, v] : List Vw).getD j default = v := by
    intro j hj
    match j, hj with
    | 0, _ => rfl
    | 1, _ => rfl
  unfold findI at h
  rw [hgi i hi] at h
  by_cases hr : rightB v = true
  · rw [if_pos hr] at h
    obtain ⟨k, hk, h⟩ := List.mem_flatMap.1 h
    have hk : k < i := by simpa using hk
    unfold findK at h
    rw [hgi i hi, hgi k (by omega), if_pos hr] at h
    obtain ⟨z, hz, rfl⟩ := List.mem_map.1 h
    exact .inr (two_kinds hz)
  · rw [if_neg hr] at h
    simp only [List.mem_singleton] at h
    rw [h]; exact .inl rfl
theorem getD_app {l m : List Vw} {k : Nat} (h : k < l.length) : (l ++ m).getD k default = l.getD k default := by
  rw [List.getD_eq_getElem?_getD, List.getD_eq_getElem?_getD, List.getElem?_append_left h]
theorem flatMap_congr' {α β : Type} {l : List α} {f g : α → List β} (h : ∀ x ∈ l, f x = g x) : l.flatMap f = l.flatMap g := by
  induction l with
  | nil => rfl
  | cons a l ih => rw [List.flatMap_cons, List.flatMap_cons, h a (by simp), ih (fun x hx => h x (by simp [hx]))]
theorem look_app (l m : List Vw) : ∃ rest, lookL (l ++ m) = lookL l ++ rest := by
  unfold lookL
  rw [List.length_append, List.range_add, List.flatMap_append]
  refine ⟨_, congrArg (· ++ _) (flatMap_congr' fun i hi => ?_)⟩
  have hi : i < l.length := by simpa using hi
  unfold findI
  rw [getD_app hi]
  by_cases hr : rightB (l.getD i default) = true
  · rw [if_pos hr, if_pos hr]
    refine flatMap_congr' fun k hk => ?_
    have hk : k < i := by simpa using hk
    unfold findK
    rw [getD_app hi, getD_app (by omega)]
  · rw [if_neg hr, if_neg hr]
/-- As far as a row of views has come. -/
def lookTo (l : List Vw) (i : Nat) : List (Int × Int × Int) := (List.range i).flatMap (findI l)
def findTo (l : List Vw) (i k : Nat) : List (Int × Int × Int) := (List.range k).flatMap (findK l i)
theorem lookTo_succ (l : List Vw) (i : Nat) : lookTo l (i + 1) = lookTo l i ++ findI l i := by unfold lookTo; rw [List.range_succ, List.flatMap_append]; simp
theorem findTo_succ (l : List Vw) (i k : Nat) : findTo l i (k + 1) = findTo l i k ++ findK l i k := by unfold findTo; rw [List.range_succ, List.flatMap_append]; simp
theorem findI_right {l : List Vw} {i : Nat} (h : rightB (l.getD i default) = true) : findI l i = findTo l i i := if_pos h
theorem findI_wrong {l : List Vw} {i : Nat} (h : rightB (l.getD i default) = false) : findI l i = [(1, (i : Int), (i : Int))] := if_neg (by rw [h]; exact Bool.false_ne_true)
theorem twoL_len (a b : Vw) : (twoL a b).length ≤ 3 := by
  unfold twoL
  simp only [List.length_append]
  have : ∀ (c : Bool) (z : Int), (if c = true then [z] else []).length ≤ 1 := by intro c z; cases c <;> simp
  have h1 := this (leadB a b) 2
  have h2 := this (pairB a b qTerm) 3
  have h3 := this (pairB a b (qBoth a b)) 4
  omega
theorem findK_len (l : List Vw) (i k : Nat) : (findK l i k).length ≤ 3 := by
  unfold findK
  by_cases h : rightB (l.getD k default) = true
  · rw [if_pos h, List.length_map]; exact twoL_len _ _
  · rw [if_neg h]; simp
theorem flat_le {α β : Type} (l : List α) (f : α → List β) (n : Nat) (h : ∀ x ∈ l, (f x).length ≤ n) : (l.flatMap f).length ≤ l.length * n := by
  induction l with
  | nil => simp
  | cons a l ih =>
    have h1 := h a (by simp)
    have h2 := ih (fun x hx => h x (by simp [hx]))
    rw [List.flatMap_cons, List.length_append, List.length_cons, Nat.succ_mul]; omega
theorem findTo_len (l : List Vw) (i k : Nat) : (findTo l i k).length ≤ 3 * k := by
  have := flat_le (List.range k) (findK l i) 3 (fun x _ => findK_len l i x)
  rw [List.length_range] at this
  unfold findTo; omega
theorem findI_len (l : List Vw) (i : Nat) : (findI l i).length ≤ 3 * i + 1 := by
  by_cases h : rightB (l.getD i default) = true
  · rw [findI_right h]; have := findTo_len l i i; omega
  · rw [findI_wrong (by simpa using h)]; simp
theorem lookTo_len (l : List Vw) (i : Nat) : (lookTo l i).length ≤ i * (3 * i + 1) := by
  have := flat_le (List.range i) (findI l) (3 * i + 1) (fun x hx => by
    have h1 := findI_len l x
    have h2 : x < i := by simpa using hx
    omega)
  rw [List.length_range] at this
  exact this
theorem unB_all_succ (a b : Vw) (q : Int → En → En → Bool) (k : Nat) : (List.range (k + 1)).any (unB a b q) = ((List.range k).any (unB a b q) || unB a b q k) := by
  rw [List.range_succ, List.any_append]; simp
theorem pairB_t {a b : Vw} {q : Int → En → En → Bool} {k : Nat} (hk : k < a.es.length) (h : unB a b q k = true) : pairB a b q = true := List.any_eq_true.2 ⟨k, List.mem_range.2 hk, h⟩

theorem flat_take {α β : Type} (f : α → List β) (n : Nat) (hf : ∀ a, (f a).length = n) : ∀ (l : List α) (j : Nat), (l.take j).flatMap f = (l.flatMap f).take (j * n) := by
  intro l
  induction l with
  | nil => intro j; simp
  | cons a l ih =>
    intro j
    cases j with
    | zero => simp
    | succ j => rw [List.take_succ_cons, List.flatMap_cons, List.flatMap_cons, ih j, List.take_append, List.take_of_length_le (l := f a) (by rw [hf, Nat.succ_mul]; omega), hf, Nat.succ_mul, Nat.add_sub_cancel]
/-- An entry in memory. -/
structure EnV where
  ix : Int
  te : Int
  A : Option Addr
  n : Nat
  c : Nat
  da : List UInt8
def EnV.cells (e : EnV) : List Value := [.int .i64 e.ix, .int .i64 e.te, .slice e.A e.n e.c]
abbrev EnV.val (e : EnV) : Value := .agg #[.int .i64 e.ix, .int .i64 e.te, .slice e.A e.n e.c]
def EnV.en (e : EnV) : En := ⟨e.ix, e.te, e.da⟩
theorem EnV.cells_len (e : EnV) : e.cells.length = 3 := rfl
/-- A row that reads as entries. -/
def RdEn (w : World) (B : Nat) (A : Option Addr) (n : Nat) (es : List EnV) : Prop := Rd w B 3 A n (es.flatMap EnV.cells) ∧ ∀ e ∈ es, RdB w B e.A e.n e.da
theorem RdEn.len {w : World} {B n : Nat} {A : Option Addr} {es : List EnV} (h : RdEn w B A n es) : es.length = n := by
  have h1 := h.1.1
  rw [flat_len EnV.cells 3 EnV.cells_len] at h1
  omega
theorem RdEn.below {w w' : World} {B C : Nat} {A : Option Addr} {n : Nat} {es : List EnV} (h : RdEn w B A n es) (hb : Below C w w') (hB : B ≤ C) : RdEn w' B A n es :=
  ⟨h.1.below' hb hB (Nat.le_refl _), fun e he => (h.2 e he).below' hb hB (Nat.le_refl _)⟩
theorem RdEn.more {w : World} {B C : Nat} {A : Option Addr} {n : Nat} {es : List EnV} (h : RdEn w B A n es) (hB : B ≤ C) : RdEn w C A n es := ⟨h.1.more hB, fun e he => (h.2 e he).more hB⟩
theorem RdEn.at_ {w : World} {B n k : Nat} {A : Option Addr} {es : List EnV} (h : RdEn w B A n es) (hk : k < es.length) :
    ∃ b off, A = some ⟨b, off, none⟩ ∧ b < B ∧ w.cell? ⟨b, off + k * 3, none⟩ = some (.int .i64 es[k].ix) ∧ w.cell? ⟨b, off + k * 3 + 1, none⟩ = some (.int .i64 es[k].te) ∧ w.cell? ⟨b, off + k * 3 + 2, none⟩ = some (.slice es[k].A es[k].n es[k].c) ∧ RdB w B es[k].A es[k].n es[k].da := by
  obtain ⟨b, off, hA, hb, hc⟩ := Rd.elem EnV.cells_len h.1 (k := k) (by rw [← h.len]; exact hk) hk
  exact ⟨b, off, hA, hb, hc 0 (by omega), hc 1 (by omega), hc 2 (by omega), h.2 _ (List.getElem_mem hk)⟩
theorem RdEn.take {w : World} {B n k : Nat} {A : Option Addr} {es : List EnV} (h : RdEn w B A n es) (hk : k ≤ n) : RdEn w B A k (es.take k) := by
  refine ⟨?_, fun e he => h.2 e (List.mem_of_mem_take he)⟩
  have h1 := h.1.take hk
  rw [flat_take EnV.cells 3 EnV.cells_len]; exact h1
/-- A view in memory. -/
structure VwV where
  id : Int
  ro : Int
  le : Int
  ht : Int
  hv : Int
  co : Int
  ix : Int
  te : Int
  vA : Option Addr
  vn : Nat
  vc : Nat
  eA : Option Addr
  en : Nat
  ec : Nat
  es : List EnV
def VwV.cells (v : VwV) : List Value := [.int .i64 v.id, .int .i64 v.ro, .int .i64 v.le, .int .i64 v.ht, .int .i64 v.hv, .int .i64 v.co, .int .i64 v.ix, .int .i64 v.te, .slice v.vA v.vn v.vc, .slice v.eA v.en v.ec]
abbrev VwV.val (v : VwV) : Value := .agg #[.int .i64 v.id, .int .i64 v.ro, .int .i64 v.le, .int .i64 v.ht, .int .i64 v.hv, .int .i64 v.co, .int .i64 v.ix, .int .i64 v.te, .slice v.vA v.vn v.vc, .slice v.eA v.en v.ec]
theorem VwV.cells_len (v : VwV) : v.cells.length = 10 := rfl
def VwV.vw (v : VwV) : Vw := ⟨v.ro, v.ht, v.co, v.ix, v.es.map EnV.en⟩
def RdVw (w : World) (B : Nat) (A : Option Addr) (n : Nat) (vs : List VwV) : Prop := Rd w B 10 A n (vs.flatMap VwV.cells) ∧ ∀ v ∈ vs, RdEn w B v.eA v.en v.es
theorem RdVw.len {w : World} {B n : Nat} {A : Option Addr} {vs : List VwV} (h : RdVw w B A n vs) : vs.length = n := by
  have h1 := h.1.1
  rw [flat_len VwV.cells 10 VwV.cells_len] at h1
  omega
theorem RdVw.below {w w' : World} {B C : Nat} {A : Option Addr} {n : Nat} {vs : List VwV} (h : RdVw w B A n vs) (hb : Below C w w') (hB : B ≤ C) : RdVw w' B A n vs :=
  ⟨h.1.below' hb hB (Nat.le_refl _), fun v hv => (h.2 v hv).below hb hB⟩
theorem RdVw.at_ {w : World} {B n k : Nat} {A : Option Addr} {vs : List VwV} (h : RdVw w B A n vs) (hk : k < vs.length) :
    ∃ b off, A = some ⟨b, off, none⟩ ∧ b < B ∧ (∀ j, j < 10 → w.cell? ⟨b, off + k * 10 + j, none⟩ = (vs[k]).cells[j]?) ∧ RdEn w B vs[k].eA vs[k].en vs[k].es := by
  obtain ⟨b, off, hA, hb, hc⟩ := Rd.elem VwV.cells_len h.1 (k := k) (by rw [← h.len]; exact hk) hk
  exact ⟨b, off, hA, hb, hc, h.2 _ (List.getElem_mem hk)⟩
end Go.Proofs.YtfjpenbahoeklaaGreatDoor
namespace Go.Proofs.YtfjpenbahoeklaaGreatDoor
open Go Go.RowKit Go.Maps

/-- The package variable errors.errorType as it is laid. -/
def ErrT (w : World) : Prop := w.cell? ⟨0, 0, none⟩ = some (.iface 219 (.agg #[.pointer (some ⟨1, 146, none⟩)]))
theorem ErrT.fr {w w' : World} {S : Nat → Prop} (h : ErrT w) (hf : Fr S w w') (h0 : ¬ S 0) : ErrT w' := by
  have hl : 0 < w.heap.size := by
    unfold ErrT at h
    rcases Nat.eq_zero_or_pos w.heap.size with h1 | h1
    · simp [World.cell?, h1] at h
    · exact h1
  unfold ErrT at h ⊢
  rw [← h]
  simp only [World.cell?, hf.block 0 hl h0]
theorem ErrT.below {w w' : World} {B : Nat} (h : ErrT w) (hb : Below B w w') (hB : w.heap.size ≤ B) : ErrT w' := h.fr (S := fun _ => False) (Fr.of_below (hb.mono hB)) (fun h => h)
/-- errors.As at a number: it is laid there. -/
theorem as_got (n : Int) (t : Addr) (old : Value) (w : World) (hg : ErrT w) (ht0 : w.cell? t = some old) (hf0 : w.frozen? t = false) :
    Calls Tryz.prog 84 #[.iface 28 (.int .i64 n), .iface 150 (.pointer (some t))] w fun ev w' => ev = .returned (.bool true) ∧ Fr (fun k => k = t.block) w w' ∧ w'.cell? t = some (.int .i64 n) := by
  have htl : t.block < w.heap.size := by
    rcases Nat.lt_or_ge t.block w.heap.size with h | h
    · exact h
    · simp [World.cell?, Array.getElem?_eq_none h] at ht0
  refine (as_hit n t old w hg ht0 hf0).mono ?_
  rintro ev w' ⟨rfl, rfl⟩
  refine ⟨rfl, ?_, ?_⟩
  · exact (((((Fr.refl (fun k => k = t.block) w).alloc _).alloc _).alloc _).alloc _).setCell (p := t) rfl _
  · refine World.cell?_setCell_same _ _ _ (u := old) ?_
    rw [World.cell?_alloc_lt _ _ t (by simp; omega), World.cell?_alloc_lt _ _ t (by simp; omega), World.cell?_alloc_lt _ _ t (by simp; omega), World.cell?_alloc_lt _ _ t htl]
    exact ht0

/-- What Apply leaves. -/
def ResApp (w : World) (b : Nat) (S : Nat → Prop) (r : Ma × Rp × Int) (e : Ending) (w' : World) : Prop :=
  e = .returned (.tuple #[r.2.1.val, .int .i64 r.2.2]) ∧ MaAt w' b (fun k => S k ∨ (w.heap.size ≤ k ∧ k < w'.heap.size)) r.1 ∧ Fr S w w'
set_option maxRecDepth 100000 in
set_option maxHeartbeats 8000000 in
theorem mapply_any {w : World} {b : Nat} {S : Nat → Prop} {M : Ma} (h : MaAt w b S M) (h0 : ¬ S 0) (hg : ErrT w) (e : EnV) (B : Nat) (hB : B ≤ w.heap.size) (hbig : e.n ≤ 4294967296) (hr : RdB w B e.A e.n e.da) (hSd : 0 < e.n → ∀ k, e.A.map (·.block) = some k → ¬ S k) :
    Calls Tryz.prog 49 #[.pointer (some ⟨b, 0, none⟩), e.val] w (ResApp w b S (applyM M e.en)) := by
  obtain ⟨s, sm, t, tm, vb, c, SS, h⟩ := h
  obtain ⟨ix, te, A, n, ca, da⟩ := e
  dsimp only [EnV.val, EnV.en] at *
  have H := Lib.hid h
  have H0 := Lib.hid h0
  have HG := Lib.hid hg
  have HR := Lib.hid hr
  have HSD := Lib.hid hSd
  have HB0 := Lib.hid hB
  have hix := h.gr.i0
  have hix1 := h.gr.i1
  have hte := h.gr.t0
  have hte1 := h.gr.t1
  have hbl : b < w.heap.size := h.lt b h.sb.1
  generalize hW0 : (w.alloc (.cells #[.int .i64 ix, .int .i64 te, .slice A n ca] 75 (0, 0))).alloc (.cells #[.int .i64 0, .int .i64 0, .int .i64 0, .int .i64 0, .int .i64 0, .int .i64 0, .int .i64 0, .int .i64 0] 32 (0, 0)) = W0
  have hz0 : W0.heap.size = w.heap.size + 2 := by rw [← hW0]; simp
  have hb0 : Below w.heap.size w W0 := by rw [← hW0]; exact ((Below.refl _ _).alloc (Nat.le_refl _) _).alloc (by simp) _
  have hc0 : W0.heap[w.heap.size]? = some (.cells #[.int .i64 ix, .int .i64 te, .slice A n ca] 75 (0, 0)) := by
    rw [← hW0]
    exact (Below.heap_alloc _ _ _ (by simp)).trans (heap_alloc_new w _)
  have hc1 : W0.heap[w.heap.size + 1]? = some (.cells #[.int .i64 0, .int .i64 0, .int .i64 0, .int .i64 0, .int .i64 0, .int .i64 0, .int .i64 0, .int .i64 0] 32 (0, 0)) := by
    rw [← hW0]
    exact heap_at (by simp)
  have HM0 := Lib.hid (h.below hb0 (Nat.le_refl _))
  have HB1 := Lib.hid hb0
  have HEN := Lib.hid hc0
  have HRES := Lib.hid hc1
  have hz0x : w.heap.size + 2 ≤ W0.heap.size := by omega
  have HZ0 := Lib.hid hz0
  have HLT : Hid (∀ k, S k → k < w.heap.size) := Lib.hid (fun k hk => h.lt k hk)
  have HSb := Lib.hid h.sb.1
  have hw0 : 0 < w.heap.size := by omega
  obtain ⟨q, hqi⟩ : ∃ q : Bool, q = true ↔ badE M ⟨ix, te, da⟩ := ⟨decide (ix ≠ M.ix + 1 ∨ 1099511627776 < ix ∨ te < max M.te 1 ∨ 1099511627776 < te), by unfold badE; exact decide_eq_true_iff⟩
  have HQ := Lib.hid hqi
  have HQ2 : Hid (q = true ↔ (ix ≠ M.ix + 1 ∨ 1099511627776 < ix ∨ te < max M.te 1 ∨ 1099511627776 < te)) := Lib.hid hqi
  clear h h0 hg hr hSd hB hb0 hc0 hc1 hz0 hqi
  go_enter Tryz.func49, Tryz.ntmps49
  go_wp2_with fail
  clear hW0
  refine (mmade_any HM0.out.at_).mono ?_
  rintro e w1 ⟨rfl, rfl⟩
  go_upto_region 3 with fail
  go_cut [16] (fun v wx => v = .bool q ∧ Fr (fun _ => False) W0 wx)
  case first =>
    have HC : Hid (∀ W, Fr (fun _ => False) W0 W → (∀ j, W.cell? ⟨b, j, none⟩ = (#[.pointer (some ⟨s, 0, none⟩), .pointer (some ⟨t, 0, none⟩), .int .i64 M.ix, .int .i64 M.te, .slice (some ⟨vb, 0, none⟩) M.vo.length c] : Array Value)[j]?) ∧ (∀ j, W.cell? ⟨w.heap.size, j, none⟩ = (#[.int .i64 ix, .int .i64 te, .slice A n ca] : Array Value)[j]?)) := Lib.hid (fun W hW => ⟨blk_cell ((hW.block b (by omega) (fun h => h)).trans HM0.out.hp), blk_cell ((hW.block w.heap.size (by omega) (fun h => h)).trans HEN.out)⟩)
    have HW1 : Hid (IntKind.i64.wrap (M.ix + 1) = M.ix + 1) := Lib.hid ((IntWalk.i64_left _).trans (IntWalk.wrap64_in _ (by omega)))
    by_cases h1 : ix = M.ix + 1
    · have h1b : (ix != M.ix + 1) = false := by simpa using h1
      have H1 := Lib.hid h1
      clear h1
      by_cases h2 : 1099511627776 < ix
      · obtain rfl : q = true := HQ2.out.2 (.inr (.inl h2))
        have h2b : decide (1099511627776 < ix) = true := decide_eq_true h2
        refine wp_region_sched [(0, true), (1, true), (2, true), (3, true), (4, true), (5, true), (6, true), (7, true), (8, true), (9, true), (10, true), (11, true), (12, true), (13, true), (14, true), (15, true), (16, true), (17, true), (18, true), (19, true), (20, true), (21, true), (22, true), (23, true), (24, true), (25, true), (26, true), (27, true), (28, true)] (fun W => Fr (fun _ => False) W0 W) (by kernel_rfl) (by kernel_rfl) rfl (by kernel_rfl) ((Fr.refl _ _).drew) ?_
        repeat (first | (apply sched_take rfl; (focus (first | rfl | (go_simp; done))); (focus (intro W hW; have f12 := HC.out W hW; have f1 := f12.1; have f2 := f12.2; have q1 := HW1.out; clear f12; go_simp; rfl)); (focus (intro K hK; go_simp; refine hK _ ?_; clear hK K))) | (apply sched_skip rfl; (focus (first | rfl | (go_simp; done))); (focus (intro K hK; go_simp; refine hK _ ?_; clear hK K))))
        refine sched_nil ?_
        go_wp2_with fail
        go_meet
        exact ⟨rfl, (Fr.refl _ _).drew⟩
      · have h2b : decide (1099511627776 < ix) = false := decide_eq_false h2
        by_cases h3 : te < max M.te 1
        · obtain rfl : q = true := HQ2.out.2 (.inr (.inr (.inl h3)))
          have h3b : decide (te < max M.te 1) = true := decide_eq_true h3
          refine wp_region_sched [(0, true), (1, true), (2, true), (3, true), (4, true), (5, true), (6, true), (7, true), (8, true), (9, true), (10, true), (11, true), (12, true), (13, true), (14, true), (15, true), (16, true), (17, true), (18, true), (19, true), (20, true), (21, true), (22, true), (23, true), (24, true), (25, true), (26, true), (27, true), (28, true)] (fun W => Fr (fun _ => False) W0 W) (by kernel_rfl) (by kernel_rfl) rfl (by kernel_rfl) ((Fr.refl _ _).drew) ?_
          repeat (first | (apply sched_take rfl; (focus (first | rfl | (go_simp; done))); (focus (intro W hW; have f12 := HC.out W hW; have f1 := f12.1; have f2 := f12.2; have q1 := HW1.out; clear f12; go_simp; rfl)); (focus (intro K hK; go_simp; refine hK _ ?_; clear hK K))) | (apply sched_skip rfl; (focus (first | rfl | (go_simp; done))); (focus (intro K hK; go_simp; refine hK _ ?_; clear hK K))))
          refine sched_nil ?_
          go_wp2_with fail
          go_meet
          exact ⟨rfl, (Fr.refl _ _).drew⟩
        · have h3b : decide (te < max M.te 1) = false := decide_eq_false h3
          by_cases h4 : 1099511627776 < te
          · obtain rfl : q = true := HQ2.out.2 (.inr (.inr (.inr h4)))
            have h4b : decide (1099511627776 < te) = true := decide_eq_true h4
            refine wp_region_sched [(0, true), (1, true), (2, true), (3, true), (4, true), (5, true), (6, true), (7, true), (8, true), (9, true), (10, true), (11, true), (12, true), (13, true), (14, true), (15, true), (16, true), (17, true), (18, true), (19, true), (20, true), (21, true), (22, true), (23, true), (24, true), (25, true), (26, true), (27, true), (28, true)] (fun W => Fr (fun _ => False) W0 W) (by kernel_rfl) (by kernel_rfl) rfl (by kernel_rfl) ((Fr.refl _ _).drew) ?_
            repeat (first | (apply sched_take rfl; (focus (first | rfl | (go_simp; done))); (focus (intro W hW; have f12 := HC.out W hW; have f1 := f12.1; have f2 := f12.2; have q1 := HW1.out; clear f12; go_simp; rfl)); (focus (intro K hK; go_simp; refine hK _ ?_; clear hK K))) | (apply sched_skip rfl; (focus (first | rfl | (go_simp; done))); (focus (intro K hK; go_simp; refine hK _ ?_; clear hK K))))
            refine sched_nil ?_
            go_wp2_with fail
            go_meet
            exact ⟨rfl, (Fr.refl _ _).drew⟩
          · have h4b : decide (1099511627776 < te) = false := decide_eq_false h4
            obtain rfl : q = false := by
              cases q
              · rfl
              · rcases HQ2.out.1 rfl with h | h | h | h
                · exact absurd H1.out h
                · exact absurd h h2
                · exact absurd h h3
                · exact absurd h h4
            refine wp_region_sched [(0, true), (1, true), (2, true), (3, true), (4, true), (5, true), (6, true), (7, true), (8, true), (9, true), (10, true), (11, true), (12, true), (13, true), (14, true), (15, true), (16, true), (17, true), (18, true), (19, true), (20, true), (21, true), (22, true), (23, true), (24, true), (25, true), (26, true), (27, true), (28, true)] (fun W => Fr (fun _ => False) W0 W) (by kernel_rfl) (by kernel_rfl) rfl (by kernel_rfl) ((Fr.refl _ _).drew) ?_
            repeat (first | (apply sched_take rfl; (focus (first | rfl | (go_simp; done))); (focus (intro W hW; have f12 := HC.out W hW; have f1 := f12.1; have f2 := f12.2; have q1 := HW1.out; clear f12; go_simp; rfl)); (focus (intro K hK; go_simp; refine hK _ ?_; clear hK K))) | (apply sched_skip rfl; (focus (first | rfl | (go_simp; done))); (focus (intro K hK; go_simp; refine hK _ ?_; clear hK K))))
            refine sched_nil ?_
            go_wp2_with fail
            go_meet
            exact ⟨rfl, (Fr.refl _ _).drew⟩
    · obtain rfl : q = true := HQ2.out.2 (.inl h1)
      have h1b : (ix != M.ix + 1) = true := by simpa using h1
      refine wp_region_sched [(0, true), (1, true), (2, true), (3, true), (4, true), (5, true), (6, true), (7, true), (8, true), (9, true), (10, true), (11, true), (12, true), (13, true), (14, true), (15, true), (16, true), (17, true), (18, true), (19, true), (20, true), (21, true), (22, true), (23, true), (24, true), (25, true), (26, true), (27, true), (28, true)] (fun W => Fr (fun _ => False) W0 W) (by kernel_rfl) (by kernel_rfl) rfl (by kernel_rfl) ((Fr.refl _ _).drew) ?_
      repeat (first | (apply sched_take rfl; (focus (first | rfl | (go_simp; done))); (focus (intro W hW; have f12 := HC.out W hW; have f1 := f12.1; have f2 := f12.2; have q1 := HW1.out; clear f12; go_simp; rfl)); (focus (intro K hK; go_simp; refine hK _ ?_; clear hK K))) | (apply sched_skip rfl; (focus (first | rfl | (go_simp; done))); (focus (intro K hK; go_simp; refine hK _ ?_; clear hK K))))
      refine sched_nil ?_
      go_wp2_with fail
      go_meet
      exact ⟨rfl, (Fr.refl _ _).drew⟩
  case rest =>
  obtain ⟨rfl, hfc⟩ := hcut
  have HFC := Lib.hid hfc
  have hresc := (hfc.block (w.heap.size + 1) (by omega) (fun h => h)).trans HRES.out
  have hmc := HM0.out.fr hfc (fun _ _ h => h)
  have HMC := Lib.hid hmc
  have HRESC := Lib.hid hresc
  have fres := blk_cell hresc
  have gres := blk_frozen hresc
  have fmb := blk_cell hmc.hp
  have gmb := blk_frozen hmc.hp
  have hzc := hfc.size
  have HB1C : Hid (Below w.heap.size w wc) := Lib.hid (HB1.out.trans (hfc.below HB1.out.size (fun k hk => hk.elim)))
  clear hfc hresc hmc
  cases q
  · have HNB : Hid (¬ badE M ⟨ix, te, da⟩) := Lib.hid (fun h => by have := HQ.out.2 h; cases this)
    have HEI : Hid (0 ≤ ix ∧ ix ≤ 1099511627776) := Lib.hid (by have := HNB.out; unfold badE at this; dsimp only at this; omega)
    have HET : Hid (0 ≤ te ∧ te ≤ 1099511627776) := Lib.hid (by have := HNB.out; unfold badE at this; dsimp only at this; omega)
    clear HQ HQ2
    have HC2 : Hid (∀ W, Fr (fun k => k = b) W0 W → (∀ j, W.cell? ⟨w.heap.size, j, none⟩ = (#[.int .i64 ix, .int .i64 te, .slice A n ca] : Array Value)[j]?)) := Lib.hid (fun W hW => blk_cell ((hW.block w.heap.size (by omega) (by omega)).trans HEN.out))
    have HFC2 : Hid (Fr (fun k => k = b) W0 wc) := Lib.hid (HFC.out.mono (fun k hk => hk.elim))
    go_upto_region 5 with fail
    go_cut [] (fun wx => Mc wx b s sm t tm vb c SS S { M with ix := ix, te := te } ∧ Fr (fun k => k = b) W0 wx)
    case first =>
      refine wp_region_sched [(0, true), (1, true), (2, true), (3, true), (4, true), (5, true), (6, true), (7, true), (8, false), (9, true), (10, true), (11, false)] (fun W => Fr (fun k => k = b) W0 W) (by kernel_rfl) (by kernel_rfl) rfl (by kernel_rfl) (HFC2.out.drew) ?_
      repeat (first | (apply sched_take rfl; (focus (first | rfl | (go_simp; done))); (focus (intro W hW; have f1 := HC2.out W hW; go_simp; rfl)); (focus (intro K hK; go_simp; refine hK _ ?_; clear hK K))) | (apply sched_skip rfl; (focus (first | rfl | (go_simp; done))); (focus (intro K hK; go_simp; refine hK _ ?_; clear hK K))))
      apply sched_op rfl
      intro K hK
      go_simp
      go_wp2_with (fail)
      have h1 : Fr (fun k => k = b) W0 ((wc.setCell ⟨b, 2, none⟩ (.int .i64 ix)).drew) := (HFC2.out.setCell (p := ⟨b, 2, none⟩) rfl _).drew
      refine ⟨by exact h1, ?_⟩
      clear h1
      repeat (first | (apply sched_take rfl; (focus (first | rfl | (go_simp; done))); (focus (intro W hW; have f1 := HC2.out W hW; go_simp; rfl)); (focus (intro K hK; go_simp; refine hK _ ?_; clear hK K))) | (apply sched_skip rfl; (focus (first | rfl | (go_simp; done))); (focus (intro K hK; go_simp; refine hK _ ?_; clear hK K))))
      apply sched_op rfl
      intro K hK
      go_simp
      go_wp2_with (fail)
      have h1 : Fr (fun k => k = b) W0 (((wc.setCell ⟨b, 2, none⟩ (.int .i64 ix)).setCell ⟨b, 3, none⟩ (.int .i64 te)).drew) := ((HFC2.out.setCell (p := ⟨b, 2, none⟩) rfl _).setCell (p := ⟨b, 3, none⟩) rfl _).drew
      have HH1 := Lib.hid h1
      refine ⟨by exact h1, ?_⟩
      clear h1
      refine sched_nil ?_
      go_wp2_with fail
      go_meet
      exact ⟨(HMC.out.num HEI.out HET.out).fr (S2 := fun _ => False) (Fr.refl _ _).drew (fun _ _ h => h), HH1.out⟩
    case rest =>
    obtain ⟨hm2, hf2⟩ := hcut
    have HM2 := Lib.hid hm2
    have HF2 := Lib.hid hf2
    have hz2 := hf2.size
    have hent2 := (hf2.block w.heap.size (by omega) (by omega)).trans HEN.out
    have hres2 := (hf2.block (w.heap.size + 1) (by omega) (by omega)).trans HRES.out
    have HRES2 := Lib.hid hres2
    have fent := blk_cell hent2
    have HRD : Hid (RdB wc B A n da) := Lib.hid (Fr.rdN (Rd.below' HR.out HB1.out HB0.out (Nat.le_refl _)) hf2 (by have := HB0.out; omega) (fun hn k hk e => HSD.out hn k hk (e ▸ HSb.out)))
    have HF02 : Hid (Fr S w wc) := Lib.hid ((Fr.of_below HB1.out).step hf2 (fun j hj => .inl (hj ▸ HSb.out)))
    clear hm2 hf2 hent2 hres2 fres gres fmb gmb
    go_wp2_with fail
    refine (mget_any A n ca B da wc (by have := HB0.out; omega) hbig HRD.out).mono ?_
    rintro e w3 ⟨v, rfl, hv, hown1, hown2, hb3⟩
    obtain ⟨⟨ki, se, sq, at_, sp, vo⟩, As, ns, cs, Av, nv, cv⟩ := v
    dsimp only [CmV.val] at hv hown1 hown2 ⊢
    have HO1 := Lib.hid hown1
    have HO2 := Lib.hid hown2
    have HB3 := Lib.hid hb3
    have hz3 := hb3.size
    have hw3 : w.heap.size + 1 < w3.heap.size := by omega
    have HB4 : Hid (Below wc.heap.size wc (w3.alloc (.cells #[.int .i64 ki, .int .i64 se, .int .i64 sq, .int .i64 at_, .slice As ns cs, .slice Av nv cv] 50 (0, 0)))) := Lib.hid (below_alloc (Nat.le_refl _) hb3 _)
    have hres3 := (HB3.out.block (w.heap.size + 1) (by omega)).trans HRES2.out
    have hres4 := (HB4.out.block (w.heap.size + 1) (by omega)).trans HRES2.out
    have hn3a : ¬ w.heap.size = w3.heap.size := by omega
    have hn3b : ¬ w.heap.size + 1 = w3.heap.size := by omega
    have HRES4 := Lib.hid hres4
    have HMA4 := Lib.hid (HM2.out.below HB4.out (Nat.le_refl _))
    clear hown1 hown2 hb3 fent
    cases hcg : cmGet da with
    | none =>
      rw [hcg] at hv
      have hap := applyM_none HNB.out hcg
      dsimp only at hap
      have HAP := Lib.hid hap
      have fres := blk_cell hres3
      have gres := blk_frozen hres3
      clear hv hcg hap hres4 hres3
      simp only [Option.isSome_none, Bool.false_eq_true, if_false]
      go_wp2_with fail
      refine bodyPost_ret (v := .tuple #[.agg #[.int .i64 90, .int .i64 0, .int .i64 0, .int .i64 0, .int .i64 0, .int .i64 0, .int .i64 0, .int .i64 0], .int .i64 0]) (by simp [results, Tryz.results49, go_sem, fres, hw3]) rfl ?_
      rw [HAP.out]
      have hfr8 := fr_eight w3 (w.heap.size + 1) (.int .i64 90) (.int .i64 0) (.int .i64 0) (.int .i64 0) (.int .i64 0) (.int .i64 0) (.int .i64 0) (.int .i64 0)
      have hfa := hfr8.alloc (.cells #[.int .i64 ki, .int .i64 se, .int .i64 sq, .int .i64 at_, .slice As ns cs, .slice Av nv cv] 50 (0, 0))
      refine ⟨rfl, ?_, ?_⟩
      · refine ((HM2.out.below HB3.out (Nat.le_refl _)).fr hfa (fun k hk e => by have := HLT.out k hk; omega)).at_.mono (fun k hk => .inl hk) ?_
        rintro k (hk | hk)
        · have := HLT.out k hk
          have h2 := hfa.size
          omega
        · exact hk.2
      · exact (HF02.out.trans (Fr.of_below HB3.out)).step hfa (fun j hj => .inr (by omega))
    | some cm =>
      rw [hcg] at hv
      dsimp only [Option.getD] at hv
      subst hv
      have hap := applyM_some HNB.out hcg
      dsimp only at hap
      have HDO : Hid (Calls Tryz.prog 83 #[.pointer (some ⟨b, 0, none⟩), .agg #[.int .i64 ki, .int .i64 se, .int .i64 sq, .int .i64 at_, .slice As ns cs, .slice Av nv cv]] (w3.alloc (.cells #[.int .i64 ki, .int .i64 se, .int .i64 sq, .int .i64 at_, .slice As ns cs, .slice Av nv cv] 50 (0, 0))) (ResDo (w3.alloc (.cells #[.int .i64 ki, .int .i64 se, .int .i64 sq, .int .i64 at_, .slice As ns cs, .slice Av nv cv] 50 (0, 0))) b S (doM { M with ix := ix, te := te } ⟨ki, se, sq, at_, sp, vo⟩))) := Lib.hid (mdo_any HMA4.out.at_ ⟨⟨ki, se, sq, at_, sp, vo⟩, As, ns, cs, Av, nv, cv⟩ w3.heap.size (by simp) (cmGet_ok hcg) ⟨Rd.alloc (Rd.of_own HO1.out) _ (Nat.le_refl _) (Nat.le_refl _), Rd.alloc (Rd.of_own HO2.out) _ (Nat.le_refl _) (Nat.le_refl _)⟩ (fun hn k hk hs => by
        obtain ⟨g, hg, hg1, _⟩ := own_form HO1.out hn
        dsimp only at hk
        rw [hg] at hk
        cases hk
        have h9 : g < w.heap.size := HLT.out _ hs
        omega))
      generalize doM { M with ix := ix, te := te } ⟨ki, se, sq, at_, sp, vo⟩ = g at *
      obtain ⟨M5, r, oe⟩ := g
      have HAP := Lib.hid hap
      clear hcg hap hres4 hres3
      simp only [Option.isSome_some, if_true]
      go_wp2_with fail
      refine HDO.out.mono ?_
      rintro e w5 ⟨rfl, hma5, hfr5⟩
      dsimp only at hma5 ⊢
      have hz5 := hfr5.size
      simp only [World.size_alloc] at hz5
      have HMA5 := Lib.hid hma5
      have HF5 := Lib.hid hfr5
      have hres5 := (hfr5.block (w.heap.size + 1) (by simp; omega) (fun hk => by have := HLT.out _ hk; omega)).trans HRES4.out
      have HRES5 := Lib.hid hres5
      have HG5 : Hid (ErrT w5) := Lib.hid (((HG.out.fr HF02.out H0.out).below HB4.out (Nat.le_refl _)).fr hfr5 H0.out)
      have hr5l : w.heap.size + 1 < w5.heap.size := by omega
      have hn5a : ¬ w.heap.size = w5.heap.size := by omega
      have hn5b : ¬ w.heap.size + 1 = w5.heap.size := by omega
      have hn5c : w.heap.size < w5.heap.size := by omega
      clear hma5 hfr5 hres5
      have HFIN : Hid (∀ w9, Fr (fun k => k = w.heap.size + 1 ∨ w5.heap.size ≤ k) w5 w9 → MaAt w9 b (fun k => S k ∨ (w.heap.size ≤ k ∧ k < w9.heap.size)) M5 ∧ Fr S w w9) := Lib.hid (fun w9 h9 => by
        have h59 := h9.size
        refine ⟨(HMA5.out.fr h9 (fun k hk e => ?_)).mono ?_ ?_, ((HF02.out.trans (Fr.of_below HB4.out)).step HF5.out (fun j hj => .inl hj)).step h9 (fun j hj => .inr (by omega))⟩
        · rcases hk with hk | hk
          · have := HLT.out k hk
            rcases e with e | e <;> omega
          · have hk1 := hk.1
            simp only [World.size_alloc] at hk1
            rcases e with e | e <;> omega
        · rintro k (hk | hk)
          · exact .inl hk
          · have hk1 := hk.1
            simp only [World.size_alloc] at hk1
            exact .inr ⟨by omega, by omega⟩
        · rintro k (hk | hk)
          · have := HLT.out k hk; omega
          · exact hk.2)
      cases oe with
      | none =>
        dsimp only [errV]
        have fres := blk_cell HRES5.out
        have gres := blk_frozen HRES5.out
        go_wp2_with fail
        refine (as_nil _ _).mono ?_
        rintro e w6 ⟨rfl, rfl⟩
        go_wp2_with fail
        refine bodyPost_ret (v := .tuple #[.agg #[.int .i64 r.er, .int .i64 r.ss, .int .i64 r.gn, .int .i64 r.ad, .int .i64 r.sa, .int .i64 r.ot, .int .i64 r.cy, .int .i64 r.fu], .int .i64 0]) (by simp [results, Tryz.results49, go_sem, fres, hr5l, hn5c]) rfl ?_
        rw [HAP.out]
        have hfr8 := fr_eight w5 (w.heap.size + 1) (.int .i64 r.er) (.int .i64 r.ss) (.int .i64 r.gn) (.int .i64 r.ad) (.int .i64 r.sa) (.int .i64 r.ot) (.int .i64 r.cy) (.int .i64 r.fu)
        exact ⟨rfl, HFIN.out _ (((hfr8.mono (fun k hk => .inl hk)).alloc _).alloc _)⟩
      | some x =>
        dsimp only [errV]
        have HG7 : Hid (ErrT ((w5.alloc (.cells #[.int .i64 r.er, .int .i64 r.ss, .int .i64 r.gn, .int .i64 r.ad, .int .i64 r.sa, .int .i64 r.ot, .int .i64 r.cy, .int .i64 r.fu] 32 (0, 0))).alloc (.cells #[.int .i64 0] 28 (0, 0)))) := Lib.hid (HG5.out.below (((Below.refl w5.heap.size w5).alloc (Nat.le_refl _) _).alloc (by simp) _) (Nat.le_refl _))
        go_wp2_with fail
        refine (as_got x ⟨w5.heap.size + 1, 0, none⟩ (.int .i64 0) _ HG7.out (blk_cell (heap_at (by simp)) 0) (blk_frozen (heap_at (by simp)) 0)).mono ?_
        rintro e w8 ⟨rfl, hfr8, hx8⟩
        dsimp only at hfr8
        have hz8 := hfr8.size
        simp only [World.size_alloc] at hz8
        have HF8 : Hid (Fr (fun k => k = w.heap.size + 1 ∨ w5.heap.size ≤ k) w5 w8) := Lib.hid ((((Fr.refl _ w5).alloc _).alloc _).trans (hfr8.mono (fun k hk => .inr (by omega))))
        have hb8 : w8.heap[w5.heap.size]? = some (.cells #[.int .i64 r.er, .int .i64 r.ss, .int .i64 r.gn, .int .i64 r.ad, .int .i64 r.sa, .int .i64 r.ot, .int .i64 r.cy, .int .i64 r.fu] 32 (0, 0)) := (hfr8.block _ (by simp only [World.size_alloc]; omega) (by omega)).trans ((Below.heap_alloc _ _ _ (by simp)).trans (heap_at rfl))
        have HB8 := Lib.hid hb8
        have fb8 := blk_cell hb8
        have gb8 := blk_frozen hb8
        have hres8 := (hfr8.block (w.heap.size + 1) (by simp only [World.size_alloc]; omega) (by omega)).trans ((Below.heap_alloc _ _ _ (by simp only [World.size_alloc]; omega)).trans ((Below.heap_alloc _ _ _ (by omega)).trans HRES5.out))
        have fres := blk_cell hres8
        have gres := blk_frozen hres8
        clear hfr8 hb8 hres8
        go_wp2_with fail
        refine bodyPost_ret (v := .tuple #[.agg #[.int .i64 x, .int .i64 0, .int .i64 0, .int .i64 0, .int .i64 0, .int .i64 0, .int .i64 0, .int .i64 0], .int .i64 0]) (by simp [results, Tryz.results49, go_sem, fres]) rfl ?_
        rw [HAP.out]
        have hfx := fr_eight w8 w5.heap.size (.int .i64 x) (.int .i64 0) (.int .i64 0) (.int .i64 0) (.int .i64 0) (.int .i64 0) (.int .i64 0) (.int .i64 0)
        have hfy := fr_eight (((((((((w8.setCell ⟨w5.heap.size, 0, none⟩ (.int .i64 x)).setCell ⟨w5.heap.size, 1, none⟩ (.int .i64 0)).setCell ⟨w5.heap.size, 2, none⟩ (.int .i64 0)).setCell ⟨w5.heap.size, 3, none⟩ (.int .i64 0)).setCell ⟨w5.heap.size, 4, none⟩ (.int .i64 0)).setCell ⟨w5.heap.size, 5, none⟩ (.int .i64 0)).setCell ⟨w5.heap.size, 6, none⟩ (.int .i64 0)).setCell ⟨w5.heap.size, 7, none⟩ (.int .i64 0))) (w.heap.size + 1) (.int .i64 x) (.int .i64 0) (.int .i64 0) (.int .i64 0) (.int .i64 0) (.int .i64 0) (.int .i64 0) (.int .i64 0)
        exact ⟨rfl, HFIN.out _ ((HF8.out.trans (hfx.mono (fun k hk => .inr (by omega)))).trans (hfy.mono (fun k hk => .inl hk)))⟩
  · have HNB : Hid (badE M ⟨ix, te, da⟩) := Lib.hid (HQ.out.1 rfl)
    clear HQ HQ2
    go_wp2_with fail
    refine bodyPost_ret (v := .tuple #[.agg #[.int .i64 0, .int .i64 0, .int .i64 0, .int .i64 0, .int .i64 0, .int .i64 0, .int .i64 0, .int .i64 0], .int .i64 51]) (by simp [results, Tryz.results49, go_sem, fres]) rfl ?_
    rw [applyM_bad HNB.out]
    have hfr8 := fr_eight wc (w.heap.size + 1) (.int .i64 0) (.int .i64 0) (.int .i64 0) (.int .i64 0) (.int .i64 0) (.int .i64 0) (.int .i64 0) (.int .i64 0)
    exact ⟨rfl, H.out.at_.same (HB1C.out.trans (hfr8.below HB1C.out.size (fun k hk => by omega)))⟩
end Go.Proofs.YtfjpenbahoeklaaGreatDoor
namespace Go.Proofs.YtfjpenbahoeklaaGreatDoor
open Go.ChangeShapes Go.WideShapes Go.RowKit

theorem et_global : Tryz.prog.globalNamed "errors.errorType" = some 0 := by kernel_rfl
theorem et_rtype : (Tryz.prog.cutTypes.find? (·.1 == "internal/reflectlite.rtype")).map (·.2) = some 219 := by kernel_rfl
theorem et_row : ((List.range Tryz.prog.types.size).filter fun t => Tryz.prog.rowNamed t [101, 114, 114, 111, 114]) = [146] := by kernel_rfl
def laidL : List (String × DataW Unit) := [("errors.errorType", Rows.laid_errors_errorType)]
/-- What the premise gives a walk: the variable's one cell. -/
theorem handle_of_laid {W : World} (h : laidMetH Tryz.prog laidL W) : ErrT W := by
  have h' : laidMet Tryz.prog [] W ∧ handlesMet Tryz.prog laidL W := h
  obtain ⟨name, u, ty, e1, e2, e3, e4, e5⟩ := h'.2 _ (List.mem_singleton.2 rfl)
  have en : name = [101, 114, 114, 111, 114] := (Option.some.inj e1).symm
  subst en
  obtain rfl := Option.some.inj (et_rtype.symm.trans e2)
  have hm : ty ∈ (List.range Tryz.prog.types.size).filter fun t => Tryz.prog.rowNamed t [101, 114, 114, 111, 114] := List.mem_filter.2 ⟨List.mem_range.2 e3, e4⟩
  rw [et_row] at hm
  obtain rfl := List.mem_singleton.1 hm
  have hh : typeHandle Tryz.prog 146 = .pointer (some ⟨1, 146, none⟩) := by kernel_rfl
  rw [hh] at e5
  have := World.var?_cell et_global e5 0
  simpa [ErrT] using this
/-- A world that meets the premise. -/
noncomputable def laidWorld (os : Os) : World :=
  let w0 := World.holding Tryz.prog os ⟨#[], #[], []⟩
  { w0 with heap := w0.heap.modify 0 fun
      | .cells _ t frozen => .cells #[.iface 219 (.agg #[.pointer (some ⟨1, 146, none⟩)])] t frozen
      | o => o }
theorem laidWorld_met (os : Os) (args : Array Value) : laidMetH Tryz.prog laidL ((laidWorld os).forCall (fun _ _ => 0) ⟨#[], args, []⟩).memory :=
  laidMetH_of_parts (laidMet_nil _ _) (by kernel_rfl)
end Go.Proofs.YtfjpenbahoeklaaGreatDoor
namespace Go.Proofs.YtfjpenbahoeklaaGreatDoor
open Go.ChangeShapes Go.WideShapes Go.ChangeAt Go.RowKit Go.Deep

/-- A span as a datum. -/
def Sp.datum {H : Type} (s : Sp) : DataW H :=
  .agg [.lit (.int .i64 s.tr), .lit (.int .i64 s.id), .lit (.int .i64 s.pa), .lit (.int .i64 s.st), .lit (.int .i64 s.en), .lit (.string s.nm.data.toList)]
/-- Its numbers are words. -/
def Sp.wf (s : Sp) : Prop :=
  (Lit.int .i64 s.tr).wf = true ∧ (Lit.int .i64 s.id).wf = true ∧ (Lit.int .i64 s.pa).wf = true ∧ (Lit.int .i64 s.st).wf = true ∧ (Lit.int .i64 s.en).wf = true

theorem ownKnob_none : ownKnob Tryz.prog.godebug = none := by kernel_rfl
theorem laidOut_true : laidOutB Tryz.prog = true := by kernel_rfl
theorem cellsOf_span : Tryz.prog.cellsOf 93 = 6 := by kernel_rfl

section
variable {H : Type} {enc : TypeId × Value → H} {w : World} {base : Nat} {spare : Nat → Bool} {held : Bool}
set_option maxRecDepth 100000 in
theorem open_span_cells {fuel : Nat} {cs : List Value} {x : DataW H × List MemPlace}
    (h : DataW.trod enc Tryz.prog w base spare held fuel 93 cs = some x) : ∃ s : Sp, cs = s.cells ∧ x = (s.datum, []) ∧ s.wf := by
  obtain ⟨xs, n, _, hx, hlen, hxl, hg⟩ := DataW.trod_struct Tryz.underlying93 h
  have hC : Tryz.prog.cellsOf 93 = 6 := cellsOf_span
  have k3 : Tryz.prog.cellsOf 3 = 1 := by kernel_rfl
  have k9 : Tryz.prog.cellsOf 9 = 1 := by kernel_rfl
  match cs, hlen.trans hC with
  | [c0, c1, c2, c3, c4, c5], _ =>
    match xs, hxl with
    | [y0, y1, y2, y3, y4, y5], _ =>
      have g0 : DataW.trod enc Tryz.prog w base spare held n 3 [c0] = some y0 := by simpa [k3] using hg 0 _ rfl
      have g1 : DataW.trod enc Tryz.prog w base spare held n 3 [c1] = some y1 := by simpa [k3] using hg 1 _ rfl
      have g2 : DataW.trod enc Tryz.prog w base spare held n 3 [c2] = some y2 := by simpa [k3] using hg 2 _ rfl
      have g3 : DataW.trod enc Tryz.prog w base spare held n 3 [c3] = some y3 := by simpa [k3] using hg 3 _ rfl
      have g4 : DataW.trod enc Tryz.prog w base spare held n 3 [c4] = some y4 := by simpa [k3] using hg 4 _ rfl
      have g5 : DataW.trod enc Tryz.prog w base spare held n 9 [c5] = some y5 := by simpa [k9] using hg 5 _ rfl
      obtain ⟨a0, e0, rfl, f0⟩ := DataW.trod_int Tryz.underlying3 g0
      obtain ⟨a1, e1, rfl, f1⟩ := DataW.trod_int Tryz.underlying3 g1
      obtain ⟨a2, e2, rfl, f2⟩ := DataW.trod_int Tryz.underlying3 g2
      obtain ⟨a3, e3, rfl, f3⟩ := DataW.trod_int Tryz.underlying3 g3
      obtain ⟨a4, e4, rfl, f4⟩ := DataW.trod_int Tryz.underlying3 g4
      obtain ⟨a5, e5, rfl, f5⟩ := DataW.trod_string Tryz.underlying9 g5
      simp only [List.cons.injEq, and_true] at e0 e1 e2 e3 e4 e5
      subst e0 e1 e2 e3 e4 e5
      exact ⟨⟨a0, a1, a2, a3, a4, a5⟩, rfl, hx, f0, f1, f2, f3, f4⟩

set_option maxRecDepth 100000 in
theorem open_span {r : Reach} {b0 : Nat} {v : Value} {d : DataW H} {p : List MemPlace} (hv : Value.okWide Tryz.prog w r b0 93 v) (h : DataW.Trod enc Tryz.prog w base spare held 93 v d p) :
    ∃ s : Sp, v = s.val ∧ d = s.datum ∧ p = [] ∧ s.wf := by
  obtain ⟨cs, rfl, hsz⟩ := okWide_struct Tryz.underlying93 hv
  obtain ⟨fuel, hf⟩ := h
  obtain ⟨s, hc, hx, hw⟩ := open_span_cells hf
  simp only [Prod.mk.injEq] at hx
  refine ⟨s, ?_, hx.1, hx.2, hw⟩
  obtain ⟨l⟩ := cs
  simp only [Value.cells] at hc
  simp only [hc, Sp.cells, Sp.val]

theorem mem_weightsAll {P : Program} {e : TypeId} {α : Type} {g : α → DataW H} {l : List α} {x : α} {n : Nat} (hx : x ∈ l) (hn : n ∈ (g x).weights P e) : n ∈ DataW.weightsAll P e (l.map g) := by
  induction l with
  | nil => simp at hx
  | cons y l ih =>
    simp only [List.map_cons, DataW.weightsAll, List.mem_append]
    rcases List.mem_cons.1 hx with rfl | hx
    · exact .inl hn
    · exact .inr (ih hx)
theorem cell_lt {b off : Nat} {v : Value} (h : w.cell? ⟨b, off, none⟩ = some v) : b < w.heap.size := by
  by_cases hb : b < w.heap.size
  · exact hb
  · simp [World.cell?, Array.getElem?_eq_none (Nat.le_of_not_lt hb)] at h
/-- A span's name that came in is not longer than memory bears. -/
theorem span_reach {ts : List TypeId} {ds : List (DataW H)} {j : Nat} {s : Sp} (h : (DataW.weightsEach Tryz.prog ts ds).all (· ≤ reachBytes) = true) (ht : ts[j]? = some 93) (hd : ds[j]? = some s.datum) : s.nm.size ≤ 140737488351232 := by
  have := List.all_eq_true.1 h _ (DataW.weights_mem_each ht hd s.nm.size (by simp [DataW.weights, Sp.datum, DataW.weightsEach, Tryz.underlying93]))
  simpa only [reachBytes] using of_decide_eq_true this

/-- A choice made for each number below n, as a list. -/
theorem list_of {α : Type} {p : Nat → α → Prop} : ∀ n, (∀ i, i < n → ∃ x, p i x) → ∃ l : List α, l.length = n ∧ ∀ i (h : i < l.length), p i l[i] := by
  intro n
  induction n with
  | zero => intro _; exact ⟨[], rfl, fun i h => absurd h (by simp)⟩
  | succ n ih =>
    intro h
    obtain ⟨l, hl, hp⟩ := ih fun i hi => h i (by omega)
    obtain ⟨x, hx⟩ := h n (by omega)
    refine ⟨l ++ [x], by simp [hl], fun i hi => ?_⟩
    by_cases h1 : i < l.length
    · rw [List.getElem_append_left h1]; exact hp i h1
    · obtain rfl : i = n := by simp at hi; omega
      simpa [List.getElem_append_right (Nat.le_of_eq hl), hl] using hx

/-- A slice that came in reads as a list, if each of its elements can be read. -/
theorem rd_of {α : Type} {f : α → List Value} {sz : Nat} (hf : ∀ x, (f x).length = sz) (hsz : 0 < sz) {a : Addr} {len : Nat} {l : List α} (hl : l.length = len)
    (h : ∀ i (hi : i < l.length), ∀ j, j < sz → w.cell? (a.add (i * sz + j)) = (f l[i])[j]?) : Rd w w.heap.size sz (some a) len (l.flatMap f) := by
  refine ⟨by rw [flat_len f sz hf, hl], fun hn => ?_⟩
  have h0 := h 0 (by omega) 0 hsz
  have h1 : (f l[0])[0]? = some ((f l[0])[0]'(by rw [hf]; exact hsz)) := List.getElem?_eq_getElem _
  rw [h1] at h0
  have hs : a.spot = none := by simpa [Addr.add] using World.cell?_spot h0
  obtain ⟨b, off, spot⟩ := a
  dsimp only at hs
  subst hs
  refine ⟨b, off, rfl, ?_, fun j hj => ?_⟩
  · rw [Addr.add_lit] at h0
    exact cell_lt h0
  · rw [flat_len f sz hf] at hj
    have hq : j / sz < l.length := (Nat.div_lt_iff_lt_mul hsz).2 hj
    have h2 := h (j / sz) hq (j % sz) (Nat.mod_lt _ hsz)
    rw [Addr.add_lit, show j / sz * sz + j % sz = j by rw [Nat.mul_comm]; exact Nat.div_add_mod j sz] at h2
    rw [h2, ← flat_at f sz hf l (j / sz) (j % sz) hq (Nat.mod_lt _ hsz), show j / sz * sz + j % sz = j by rw [Nat.mul_comm]; exact Nat.div_add_mod j sz]
    exact List.getElem?_eq_getElem _
theorem cells_at {a : Addr} {n : Nat} {cs : List Value} (h : w.cells? base a n = some cs) : cs.length = n ∧ ∀ i, i < n → w.cell? (a.add i) = cs[i]? := (World.cells?_some h).2

theorem open_bytes {d : DataW H} {p : List MemPlace} {v : Value} (hv : v.cells.toList = [v]) (h : DataW.Trod enc Tryz.prog w base spare held 73 v d p) :
    ∃ (A : Option Addr) (len cap : Nat) (l : List UInt8), v = .slice A len cap ∧ RdB w w.heap.size A len l ∧ len ≤ cap := by
  obtain ⟨fuel, hf⟩ := h
  rw [hv] at hf
  rcases open_slice Tryz.underlying73 hf with ⟨hcs, _⟩ | ⟨a, len, cap, m, n, D, Pl, hcs, _, hl, _, hm, _, hi⟩
  · simp only [List.cons.injEq, and_true] at hcs
    exact ⟨none, 0, 0, [], hcs, Rd.nil, Nat.le_refl _⟩
  · simp only [List.cons.injEq, and_true] at hcs
    have k1 : Tryz.prog.cellsOf 5 = 1 := by kernel_rfl
    have hle : len ≤ m := by rw [hm]; split <;> omega
    obtain ⟨l, hll, hp⟩ := list_of (p := fun i (x : UInt8) => w.cell? (a.add (i * 1 + 0)) = some (u8v x)) len fun i hi1 => by
      obtain ⟨cs', hc, ht⟩ := hi i (by omega)
      rw [k1] at hc
      obtain ⟨z, rfl, _, hw⟩ := DataW.trod_int Tryz.underlying5 ht
      have h2 := (cells_at hc).2 0 (by omega)
      rw [add_add] at h2
      have hb : 0 ≤ z ∧ z < 256 := by simp [Lit.wf, IntKind.min, IntKind.max, IntKind.signed, IntKind.bits] at hw; omega
      refine ⟨UInt8.ofNat z.toNat, h2.trans ?_⟩
      have e : (UInt8.ofNat z.toNat).toNat = z.toNat := by rw [UInt8.toNat_ofNat']; exact Nat.mod_eq_of_lt (by omega)
      simp only [List.getElem?_cons_zero, u8v, e]
      rw [show ((z.toNat : Nat) : Int) = z by omega]
    have hr := rd_of (f := fun x => [u8v x]) (sz := 1) (fun _ => rfl) (by omega) hll (a := a) fun i hi1 j hj => by
      obtain rfl : j = 0 := by omega
      exact hp i hi1
    have e : ∀ l : List UInt8, l.flatMap (fun x => [u8v x]) = l.map u8v := by
      intro l; induction l with
      | nil => rfl
      | cons x l ih => rw [List.flatMap_cons, ih]; rfl
    rw [e] at hr
    exact ⟨some a, len, cap, l, hcs, hr, hl⟩

theorem open_int {d : DataW H} {p : List MemPlace} {z : Int} (h : DataW.Trod enc Tryz.prog w base spare held 3 (.int .i64 z) d p) : -9223372036854775808 ≤ z ∧ z ≤ 9223372036854775807 := by
  obtain ⟨fuel, hf⟩ := h
  obtain ⟨n, hn, _, hw⟩ := DataW.trod_int Tryz.underlying3 hf
  simp [Value.cells] at hn
  subst hn
  simp [Lit.wf, IntKind.min, IntKind.max, IntKind.signed, IntKind.bits] at hw
  omega
theorem open_ints {d : DataW H} {p : List MemPlace} {v : Value} (hv : v.cells.toList = [v]) (h : DataW.Trod enc Tryz.prog w base spare held 22 v d p) :
    ∃ (A : Option Addr) (len cap : Nat) (l : List Int), v = .slice A len cap ∧ RdI w w.heap.size A len l ∧ len ≤ cap := by
  obtain ⟨fuel, hf⟩ := h
  rw [hv] at hf
  rcases open_slice Tryz.underlying22 hf with ⟨hcs, _⟩ | ⟨a, len, cap, m, n, D, Pl, hcs, _, hl, _, hm, _, hi⟩
  · simp only [List.cons.injEq, and_true] at hcs
    exact ⟨none, 0, 0, [], hcs, Rd.nil, Nat.le_refl _⟩
  · simp only [List.cons.injEq, and_true] at hcs
    have k1 : Tryz.prog.cellsOf 3 = 1 := by kernel_rfl
    have hle : len ≤ m := by rw [hm]; split <;> omega
    obtain ⟨l, hll, hp⟩ := list_of (p := fun i (x : Int) => w.cell? (a.add (i * 1 + 0)) = some (Value.int .i64 x)) len fun i hi1 => by
      obtain ⟨cs', hc, ht⟩ := hi i (by omega)
      rw [k1] at hc
      obtain ⟨z, rfl, _, hw⟩ := DataW.trod_int Tryz.underlying3 ht
      have h2 := (cells_at hc).2 0 (by omega)
      rw [add_add] at h2
      exact ⟨z, by rw [show i * 1 + 0 = i * 1 by omega] at h2 ⊢; exact h2⟩
    have hr := rd_of (f := fun x => [Value.int .i64 x]) (sz := 1) (fun _ => rfl) (by omega) hll (a := a) fun i hi1 j hj => by
      obtain rfl : j = 0 := by omega
      exact hp i hi1
    have e : ∀ l : List Int, l.flatMap (fun x => [Value.int .i64 x]) = l.map (Value.int .i64) := by
      intro l; induction l with
      | nil => rfl
      | cons x l ih => rw [List.flatMap_cons, ih]; rfl
    rw [e] at hr
    exact ⟨some a, len, cap, l, hcs, hr, hl⟩

theorem open_spans {d : DataW H} {p : List MemPlace} {v : Value} (hv : v.cells.toList = [v]) (h : DataW.Trod enc Tryz.prog w base spare held 48 v d p) :
    ∃ (A : Option Addr) (len cap : Nat) (l : List Sp), v = .slice A len cap ∧ RdS w w.heap.size A len l ∧ (∀ s ∈ l, s.wf) ∧ ((l = [] ∧ d = .nil) ∨ ∃ sp, d = .slice (l.map Sp.datum) sp) := by
  obtain ⟨fuel, hf⟩ := h
  rw [hv] at hf
  rcases open_slice Tryz.underlying48 hf with ⟨hcs, hx⟩ | ⟨a, len, cap, m, n, D, Pl, hcs, _, hl, _, hm, hx, hi⟩
  · simp only [List.cons.injEq, and_true] at hcs
    simp only [Prod.mk.injEq] at hx
    exact ⟨none, 0, 0, [], hcs, Rd.nil, by simp, .inl ⟨rfl, hx.1⟩⟩
  · simp only [List.cons.injEq, and_true] at hcs
    simp only [Prod.mk.injEq] at hx
    have hle : len ≤ m := by rw [hm]; split <;> omega
    obtain ⟨l, hll, hp⟩ := list_of (p := fun i (s : Sp) => (∀ j, j < 6 → w.cell? (a.add (i * 6 + j)) = s.cells[j]?) ∧ s.wf ∧ D i = s.datum) len fun i hi1 => by
      obtain ⟨cs', hc, ht⟩ := hi i (by omega)
      rw [cellsOf_span] at hc
      obtain ⟨s, rfl, hx2, hw⟩ := open_span_cells ht
      simp only [Prod.mk.injEq] at hx2
      refine ⟨s, fun j hj => ?_, hw, hx2.1⟩
      have h2 := (cells_at hc).2 j hj
      rwa [add_add] at h2
    have hr := rd_of (f := Sp.cells) (sz := 6) Sp.cells_len (by omega) hll (a := a) fun i hi1 j hj => (hp i hi1).1 j hj
    refine ⟨some a, len, cap, l, hcs, hr, fun s hs => ?_, .inr ⟨(List.range (m - len)).map fun j => D (len + j), ?_⟩⟩
    · obtain ⟨i, hi1, rfl⟩ := List.mem_iff_getElem.1 hs
      exact (hp i hi1).2.1
    · rw [hx.1]
      have e : (List.range len).map D = l.map Sp.datum := by
        apply List.ext_getElem
        · simp [hll]
        · intro i h1 h2
          simp only [List.length_map] at h2
          simp [(hp i h2).2.2]
      rw [e]

/-- What came in is not longer than memory bears: spans. -/
theorem spans_reach {ts : List TypeId} {ds : List (DataW H)} {j : Nat} {l : List Sp} {d : DataW H} (h : (DataW.weightsEach Tryz.prog ts ds).all (· ≤ reachBytes) = true) (ht : ts[j]? = some 48) (hd : ds[j]? = some d) (hdl : (l = [] ∧ d = .nil) ∨ ∃ sp, d = .slice (l.map Sp.datum) sp) :
    l.length * 56 ≤ 140737488351232 ∧ ∀ s ∈ l, s.nm.size ≤ 140737488351232 := by
  rcases hdl with ⟨rfl, _⟩ | ⟨sp, rfl⟩
  · simp
  · constructor
    · have h1 := sized_slice h ht hd Tryz.underlying48
      have hb : Tryz.prog.bytesOf 93 = 56 := by kernel_rfl
      rw [hb, List.length_map] at h1
      simp only [reachBytes] at h1
      omega
    · intro s hs
      have h2 := List.all_eq_true.1 h _ (DataW.weights_mem_each ht hd s.nm.size (by
        simp only [DataW.weights, Tryz.underlying48, List.mem_cons, List.mem_append]
        right; left
        exact mem_weightsAll hs (by simp [DataW.weights, Sp.datum, DataW.weightsEach, Tryz.underlying93])))
      simpa only [reachBytes] using of_decide_eq_true h2
end
end Go.Proofs.YtfjpenbahoeklaaGreatDoor
