/-
  The walks of a machine's ingest. Conditions: the machine lies in memory as New made it; a command that may be, whose spans lie outside of the machine.
-/
import Derived.Test.YtempkjnaahgbhaaGreatDoorMachM
import Derived.Test.YtempkjnaahgbhaaGreatDoorStoreB
import Derived.Test.YtempkjnaahgbhaaGreatDoorSched
import Derived.Deep.DeepCutAuto
import Derived.Deep.CutBlock
namespace Go.Proofs.YtempkjnaahgbhaaGreatDoor
open Go Go.RowKit Go.Maps

/-- An error as a value. -/
def errV : Option Int → Value
  | none => .nilIface
  | some n => .iface 33 (.int .i64 n)
/-- What doing a command leaves. -/
def ResDo (w : World) (b : Nat) (S : Nat → Prop) (r : Ma × Rp × Option Int) (e : Ending) (w' : World) : Prop :=
  e = .returned (.tuple #[r.2.1.val, errV r.2.2]) ∧ MaAt w' b (fun k => S k ∨ (w.heap.size ≤ k ∧ k < w'.heap.size)) r.1 ∧ Fr S w w'
theorem blk_set8 {w : World} {g : Nat} {t : TypeId} {z0 z1 z2 z3 z4 z5 z6 z7 : Value} (h : w.heap[g]? = some (.cells #[z0, z1, z2, z3, z4, z5, z6, z7] t (0, 0))) (u0 u1 u2 u3 u4 u5 u6 u7 : Value) :
    ((((((((w.setCell ⟨g, 0, none⟩ u0).setCell ⟨g, 1, none⟩ u1).setCell ⟨g, 2, none⟩ u2).setCell ⟨g, 3, none⟩ u3).setCell ⟨g, 4, none⟩ u4).setCell ⟨g, 5, none⟩ u5).setCell ⟨g, 6, none⟩ u6).setCell ⟨g, 7, none⟩ u7).heap[g]? = some (.cells #[u0, u1, u2, u3, u4, u5, u6, u7] t (0, 0)) := by
  have h8 := blk_set (blk_set (blk_set (blk_set (blk_set (blk_set (blk_set (blk_set h 0 u0) 1 u1) 2 u2) 3 u3) 4 u4) 5 u5) 6 u6) 7 u7
  simpa using h8
theorem fr_eight (w : World) (g : Nat) (u0 u1 u2 u3 u4 u5 u6 u7 : Value) : Fr (fun k => k = g) w
    ((((((((w.setCell ⟨g, 0, none⟩ u0).setCell ⟨g, 1, none⟩ u1).setCell ⟨g, 2, none⟩ u2).setCell ⟨g, 3, none⟩ u3).setCell ⟨g, 4, none⟩ u4).setCell ⟨g, 5, none⟩ u5).setCell ⟨g, 6, none⟩ u6).setCell ⟨g, 7, none⟩ u7) :=
  (((((((((Fr.refl (fun k => k = g) w).setCell (p := ⟨g, 0, none⟩) rfl u0).setCell (p := ⟨g, 1, none⟩) rfl u1).setCell (p := ⟨g, 2, none⟩) rfl u2).setCell (p := ⟨g, 3, none⟩) rfl u3).setCell (p := ⟨g, 4, none⟩) rfl u4).setCell (p := ⟨g, 5, none⟩) rfl u5).setCell (p := ⟨g, 6, none⟩) rfl u6).setCell (p := ⟨g, 7, none⟩) rfl u7)

set_option maxRecDepth 100000 in
set_option maxHeartbeats 4000000 in
theorem mingest_any {w : World} {b : Nat} {S : Nat → Prop} {M : Ma} (h : MaAt w b S M) (v : CmV) (B : Nat) (hB : B ≤ w.heap.size) (hok : v.c.ok = true) (hki : v.c.ki = 2) (hr : RdCm w B v) (hS : 0 < v.ns → ∀ k, v.As.map (·.block) = some k → ¬ S k) :
    Calls Tryz.prog 120 #[.pointer (some ⟨b, 0, none⟩), v.val] w (ResDo w b S (ingM M v.c)) := by
  obtain ⟨s, sm, t, tm, vb, c, SS, h⟩ := h
  obtain ⟨⟨ki, se, sq, at_, sp, vo⟩, As, ns, cs, Av, nv, cv⟩ := v
  dsimp only [CmV.val] at *
  subst hki
  obtain ⟨hfb, h8, hsp, hvx⟩ := Cm.ok_parts hok
  clear hvx
  have hfb := (fieldsB_iff _).1 hfb
  dsimp only at hfb h8 hsp
  have hnum := hfb.2.1
  clear hfb
  have hse : 1 ≤ se ∧ se ≤ 1099511627776 ∧ 1 ≤ sq ∧ sq ≤ 1099511627776 := by rcases hnum with h | h <;> omega
  have hlen : sp.length = ns := hr.sp.len
  have HNM : Hid (∀ s ∈ sp, s.nm.size ≤ 140737488355328) := Lib.hid (fun s hs => by
    have := (Sp.ok_parts (List.all_eq_true.1 hsp s hs)).2.1
    omega)
  have HS := Lib.hid hS
  have HR := Lib.hid hr.sp
  have HB0 := Lib.hid hB
  have H := Lib.hid h
  have hns8 : ns ≤ 8 := by omega
  have hix := h.gr.i0
  have hix1 := h.gr.i1
  have HLEN := Lib.hid hlen
  have HSP := Lib.hid hsp
  generalize hW0 : (w.alloc (.cells #[.int .i64 2, .int .i64 se, .int .i64 sq, .int .i64 at_, .slice As ns cs, .slice Av nv cv] 25 (0, 0))).alloc (.cells #[.int .i64 0, .int .i64 0, .int .i64 0, .int .i64 0, .int .i64 0, .int .i64 0, .int .i64 0, .int .i64 0] 56 (0, 0)) = W0
  have hz0 : W0.heap.size = w.heap.size + 2 := by rw [← hW0]; simp
  have hb0 : Below w.heap.size w W0 := by rw [← hW0]; exact ((Below.refl _ _).alloc (Nat.le_refl _) _).alloc (by simp) _
  have hc0 : W0.heap[w.heap.size]? = some (.cells #[.int .i64 2, .int .i64 se, .int .i64 sq, .int .i64 at_, .slice As ns cs, .slice Av nv cv] 25 (0, 0)) := by
    rw [← hW0]
    exact (Below.heap_alloc _ _ _ (by simp)).trans (heap_alloc_new w _)
  have hc1 : W0.heap[w.heap.size + 1]? = some (.cells #[.int .i64 0, .int .i64 0, .int .i64 0, .int .i64 0, .int .i64 0, .int .i64 0, .int .i64 0, .int .i64 0] 56 (0, 0)) := by
    rw [← hW0]
    exact heap_at (by simp)
  have HX : Hid (∀ W, Below (w.heap.size + 2) W0 W → Below w.heap.size w W ∧ w.heap.size + 2 ≤ W.heap.size ∧ Mc W b s sm t tm vb c SS S M ∧ (∀ j, W.cell? ⟨w.heap.size, j, none⟩ = (#[.int .i64 2, .int .i64 se, .int .i64 sq, .int .i64 at_, .slice As ns cs, .slice Av nv cv] : Array Value)[j]?) ∧
      W.heap[w.heap.size + 1]? = some (.cells #[.int .i64 0, .int .i64 0, .int .i64 0, .int .i64 0, .int .i64 0, .int .i64 0, .int .i64 0, .int .i64 0] 56 (0, 0))) := Lib.hid (fun W hW => by
    have hz := hW.size
    have hb1 : Below w.heap.size w W := hb0.trans (hW.mono (by omega))
    exact ⟨hb1, by omega, h.below hb1 (Nat.le_refl _), blk_cell ((hW.block _ (by omega)).trans hc0), (hW.block _ (by omega)).trans hc1⟩)
  have HASK : Hid (∀ W, Below (w.heap.size + 2) W0 W → Calls Tryz.prog 150 #[.pointer (some ⟨t, 0, none⟩), .int .i64 se, .int .i64 sq] W (ResAsk W M.L se sq)) := Lib.hid (fun W hW => task_any (HX.out W hW).2.2.1.tb se sq (wfI_of (by omega) (by omega)) (by omega))
  have HW0 := Lib.hid hW0
  clear h hr hS hB hlen hsp hok hb0 hc0 hc1 hnum
  generalize hA : askS M.L se sq = a at *
  obtain ⟨r, dn, ec⟩ := a
  have HA := Lib.hid hA
  clear hA
  go_enter Tryz.func120, Tryz.ntmps120
  go_upto_region 1 with fail
  have HZ0 := Lib.hid hz0
  have hz0x : w.heap.size + 2 ≤ W0.heap.size := by omega
  clear hz0
  go_cut [6, 7, 8] (fun v6 v7 v8 wx => ∃ rb, v6 = .pointer (some ⟨rb, 0, none⟩) ∧ v7 = .bool dn ∧ v8 = .int .i64 ec ∧ Below (w.heap.size + 2) W0 wx ∧ wx.heap[rb]? = some (.cells #[.int .i64 r.er, .int .i64 r.ss, .int .i64 r.gn, .int .i64 r.ad, .int .i64 r.sa, .int .i64 r.ot, .int .i64 r.cy, .int .i64 r.fu] 56 (0, 0)) ∧ w.heap.size + 2 ≤ rb)
  case first =>
    have HF1 : Hid (∀ W, Below (w.heap.size + 2) W0 W → (∀ j, W.cell? ⟨b, j, none⟩ = (#[.pointer (some ⟨s, 0, none⟩), .pointer (some ⟨t, 0, none⟩), .int .i64 M.ix, .int .i64 M.te, .slice (some ⟨vb, 0, none⟩) M.vo.length c] : Array Value)[j]?)) := Lib.hid (fun W hW => blk_cell (HX.out W hW).2.2.1.hp)
    have HF2 : Hid (∀ W, Below (w.heap.size + 2) W0 W → (∀ j, W.cell? ⟨w.heap.size, j, none⟩ = (#[.int .i64 2, .int .i64 se, .int .i64 sq, .int .i64 at_, .slice As ns cs, .slice Av nv cv] : Array Value)[j]?)) := Lib.hid (fun W hW => (HX.out W hW).2.2.2.1)
    clear hW0
    refine wp_region_plan 99 (.take 0 (.take 1 (.take 2 (.take 3 (.take 4 (.take 5 (.take 6 (.take 7 (.two 8 (.take 9 (.take 10 (.take 11 (.take 12 (.op 13 (.op 14 (.take 15 (.take 16 .done)))))))) 13 (.op 8 (.take 9 (.take 10 (.take 11 (.take 12 (.op 14 (.take 15 (.take 16 .done))))))))))))))))) (fun W => Below (w.heap.size + 2) W0 W) (by kernel_rfl) (by kernel_rfl) (by kernel_rfl) ((Below.refl _ _).drew) ?_
    repeat (first | (apply plan_take rfl; (focus (first | rfl | (go_simp; done))); (focus (intro W hW; have f1 := HF1.out W hW; have f2 := HF2.out W hW; go_simp; rfl)); (focus (intro K hK; go_simp; refine hK _ ?_; clear hK K))) | (apply plan_skip rfl; (focus (first | rfl | (go_simp; done))); (focus (intro K hK; go_simp; refine hK _ ?_; clear hK K))))
    refine plan_two ?_ ?_
    · apply plan_op rfl
      intro K hK
      go_simp
      go_wp2_with (fail)
      refine (HASK.out _ ((Below.refl _ _).drew)).mono ?_
      rintro e w1 ⟨rfl, hb1⟩
      have HB1 : Hid (Below (w.heap.size + 2) W0 w1) := Lib.hid ((Below.refl _ _).drew.trans (hb1.mono (show w.heap.size + 2 ≤ W0.heap.size by omega)))
      rw [HA.out]
      clear hb1
      go_wp2_with fail
      refine ⟨by first | exact HB1.out | (intro _; exact HB1.out), ?_⟩
      repeat (first | (apply plan_take rfl; (focus (first | rfl | (go_simp; done))); (focus (intro W hW; have f1 := HF1.out W hW; have f2 := HF2.out W hW; go_simp; rfl)); (focus (intro K hK; go_simp; refine hK _ ?_; clear hK K))) | (apply plan_skip rfl; (focus (first | rfl | (go_simp; done))); (focus (intro K hK; go_simp; refine hK _ ?_; clear hK K))))
      apply plan_op rfl
      intro K hK
      go_simp
      go_wp2_with (fail)
      have HB2 : Hid (Below (w.heap.size + 2) W0 (w1.alloc (.cells #[.int .i64 0, .int .i64 0, .int .i64 0, .int .i64 0, .int .i64 0, .int .i64 0, .int .i64 0, .int .i64 0] 56 (0, 0)))) := Lib.hid (below_alloc (by omega) HB1.out _)
      refine ⟨by first | exact HB2.out | (intro _; exact HB2.out), ?_⟩
      apply plan_op rfl
      intro K hK
      go_simp
      go_wp2_with (fail)
      have HW2 : Hid (Below (w.heap.size + 2) W0 (w1.alloc (.cells #[.int .i64 r.er, .int .i64 r.ss, .int .i64 r.gn, .int .i64 r.ad, .int .i64 r.sa, .int .i64 r.ot, .int .i64 r.cy, .int .i64 r.fu] 56 (0, 0)))) := Lib.hid (below_alloc (by omega) HB1.out _)
      refine ⟨by first | exact HW2.out | (intro _; exact HW2.out), ?_⟩
      repeat (first | (apply plan_take rfl; (focus (first | rfl | (go_simp; done))); (focus (intro W hW; have f1 := HF1.out W hW; have f2 := HF2.out W hW; go_simp; rfl)); (focus (intro K hK; go_simp; refine hK _ ?_; clear hK K))) | (apply plan_skip rfl; (focus (first | rfl | (go_simp; done))); (focus (intro K hK; go_simp; refine hK _ ?_; clear hK K))))
      refine plan_nil ?_
      go_wp2_with fail
      go_meet
      exact ⟨w1.heap.size, rfl, rfl, rfl, HW2.out, heap_at rfl, by have := HB1.out.size; omega⟩
    · apply plan_op rfl
      intro K hK
      go_simp
      go_wp2_with (fail)
      have HB2 : Hid (Below (w.heap.size + 2) W0 ((W0.alloc (.cells #[.int .i64 0, .int .i64 0, .int .i64 0, .int .i64 0, .int .i64 0, .int .i64 0, .int .i64 0, .int .i64 0] 56 (0, 0))).drew)) := Lib.hid (below_alloc (by omega) (Below.refl _ _) _).drew
      refine ⟨by first | exact HB2.out | (intro _; exact HB2.out), ?_⟩
      apply plan_op rfl
      intro K hK
      go_simp
      go_wp2_with (fail)
      refine (HASK.out _ HB2.out).mono ?_
      rintro e w1 ⟨rfl, hb1⟩
      have HB1 : Hid (Below (w.heap.size + 2) W0 w1) := Lib.hid (HB2.out.trans (hb1.mono (by have := HB2.out.size; omega)))
      have HC1 : Hid (w1.heap[W0.heap.size]? = some (.cells #[.int .i64 0, .int .i64 0, .int .i64 0, .int .i64 0, .int .i64 0, .int .i64 0, .int .i64 0, .int .i64 0] 56 (0, 0))) := Lib.hid ((hb1.block W0.heap.size (by show W0.heap.size < (W0.alloc _).heap.size; simp)).trans (heap_at (w := W0) rfl))
      rw [HA.out]
      clear hb1
      go_wp2_with fail
      refine ⟨by first | exact HB1.out | (intro _; exact HB1.out), ?_⟩
      repeat (first | (apply plan_take rfl; (focus (first | rfl | (go_simp; done))); (focus (intro W hW; have f1 := HF1.out W hW; have f2 := HF2.out W hW; go_simp; rfl)); (focus (intro K hK; go_simp; refine hK _ ?_; clear hK K))) | (apply plan_skip rfl; (focus (first | rfl | (go_simp; done))); (focus (intro K hK; go_simp; refine hK _ ?_; clear hK K))))
      have fc1 := blk_cell HC1.out
      have ff1 := blk_frozen HC1.out
      apply plan_op rfl
      intro K hK
      go_simp
      go_wp2_with (fail)
      have hfr := fr_eight w1 W0.heap.size (.int .i64 r.er) (.int .i64 r.ss) (.int .i64 r.gn) (.int .i64 r.ad) (.int .i64 r.sa) (.int .i64 r.ot) (.int .i64 r.cy) (.int .i64 r.fu)
      have hst := blk_set8 HC1.out (.int .i64 r.er) (.int .i64 r.ss) (.int .i64 r.gn) (.int .i64 r.ad) (.int .i64 r.sa) (.int .i64 r.ot) (.int .i64 r.cy) (.int .i64 r.fu)
      have HST := Lib.hid hst
      have HW2 := Lib.hid (HB1.out.trans (hfr.below (B := w.heap.size + 2) (by have := HB1.out.size; omega) (fun k hk => by omega)))
      clear hfr hst
      refine ⟨by first | exact HW2.out | (intro _; exact HW2.out), ?_⟩
      repeat (first | (apply plan_take rfl; (focus (first | rfl | (go_simp; done))); (focus (intro W hW; have f1 := HF1.out W hW; have f2 := HF2.out W hW; go_simp; rfl)); (focus (intro K hK; go_simp; refine hK _ ?_; clear hK K))) | (apply plan_skip rfl; (focus (first | rfl | (go_simp; done))); (focus (intro K hK; go_simp; refine hK _ ?_; clear hK K))))
      refine plan_nil ?_
      go_wp2_with fail
      go_meet
      exact ⟨W0.heap.size, rfl, rfl, rfl, HW2.out, HST.out, hz0x⟩
  case rest =>
  obtain ⟨rb, rfl, rfl, rfl, hbc, hrb, hrb2⟩ := hcut
  obtain ⟨hb1, hz1, hmc, hcmd, hres⟩ := HX.out wc hbc
  have HB1 := Lib.hid hb1
  have HMC := Lib.hid hmc
  have HRB := Lib.hid hrb
  have HRES := Lib.hid hres
  have HCC := Lib.hid hcmd
  have fres := blk_cell hres
  have gres := blk_frozen hres
  have frb := blk_cell hrb
  have hrbl : rb < wc.heap.size := (Array.getElem?_eq_some_iff.1 hrb).1
  clear hb1 hmc hrb hres hcmd hbc hW0
  have HIM : Hid (ingM M ⟨2, se, sq, at_, sp, vo⟩ = if ec ≠ 0 then (M, Rp.zero, some ec) else if dn = true then (M, r, none) else ({ M with T := (ingA M.T sp).1, L := (keepS M.L se sq M.ix (r.cnt (ingA M.T sp).2.1)).1 }, r.cnt (ingA M.T sp).2.1, none)) := Lib.hid (by unfold ingM; rw [HA.out])
  by_cases he : ec = 0
  · subst he
    cases dn
    · have him := HIM.out
      rw [if_neg (by simp), if_neg Bool.false_ne_true] at him
      have HIM2 := Lib.hid him
      clear him HIM
      have HING : Hid (Calls Tryz.prog 140 #[.pointer (some ⟨s, 0, none⟩), .slice As ns cs] wc.drew (ResIng wc.drew s sm SS (ingA M.T sp))) := Lib.hid (ingest_any (HMC.out.st.drewN 1) As ns cs B sp (by have := HB0.out; show B ≤ wc.heap.size; omega) (by omega) HNM.out (Rd.drew (Rd.below' HR.out HB1.out HB0.out (Nat.le_refl _))) (fun h0 k hk hs => HS.out h0 k hk (H.out.sS k hs)))
      have hing0 : (ingA M.T sp).2.2 = 0 := by unfold ingA; rw [if_pos HSP.out]
      generalize hg : ingA M.T sp = g at *
      obtain ⟨T2, cn, e2⟩ := g
      dsimp only at hing0
      subst hing0
      have HGI := Lib.hid hg
      clear hg
      have HC : Hid (∀ W, Fr (fun k => SS k ∨ k = rb) wc W → (∀ j, W.cell? ⟨b, j, none⟩ = (#[.pointer (some ⟨s, 0, none⟩), .pointer (some ⟨t, 0, none⟩), .int .i64 M.ix, .int .i64 M.te, .slice (some ⟨vb, 0, none⟩) M.vo.length c] : Array Value)[j]?) ∧ (∀ j, W.cell? ⟨w.heap.size, j, none⟩ = (#[.int .i64 2, .int .i64 se, .int .i64 sq, .int .i64 at_, .slice As ns cs, .slice Av nv cv] : Array Value)[j]?)) := Lib.hid (fun W hW => ⟨blk_cell ((hW.block b (by have := H.out.lt b H.out.sb.1; omega) (fun hk => by
          rcases hk with hk | hk
          · exact H.out.n2.1 hk
          · have := H.out.lt b H.out.sb.1; omega)).trans HMC.out.hp), fun j => by
          rw [← HCC.out j]
          have hbk := hW.block w.heap.size (by omega) (fun hk => by
            rcases hk with hk | hk
            · have := H.out.lt _ (H.out.sS _ hk); omega
            · omega)
          simp only [World.cell?, hbk]⟩)
      go_wp2_with fail
      refine wp_region_sched [(0, true), (1, true), (2, true), (3, true), (4, true), (5, true), (6, false), (7, true), (8, true), (9, true), (10, true), (11, false)] (fun W => Fr (fun k => SS k ∨ k = rb) wc W) (by kernel_rfl) (by kernel_rfl) rfl (by kernel_rfl) ((Fr.refl _ _).drew) ?_
      repeat (first | (apply sched_take rfl; (focus (first | rfl | (go_simp; done))); (focus (intro W hW; have f12 := HC.out W hW; have f1 := f12.1; have f2 := f12.2; clear f12; go_simp; rfl)); (focus (intro K hK; go_simp; refine hK _ ?_; clear hK K))) | (apply sched_skip rfl; (focus (first | rfl | (go_simp; done))); (focus (intro K hK; go_simp; refine hK _ ?_; clear hK K))))
      apply sched_op rfl
      intro K hK
      go_simp
      go_wp2_with (fail)
      refine HING.out.mono ?_
      rintro e w5 ⟨rfl, hst5, hfr5⟩
      have hfr5w : Fr SS wc w5 := (Fr.refl SS wc).drew.trans hfr5
      have hz5 : wc.heap.size ≤ w5.heap.size := hfr5w.size
      have hrb5 : w5.heap[rb]? = some (.cells #[.int .i64 r.er, .int .i64 r.ss, .int .i64 r.gn, .int .i64 r.ad, .int .i64 r.sa, .int .i64 r.ot, .int .i64 r.cy, .int .i64 r.fu] 56 (0, 0)) := (hfr5w.block rb hrbl (fun hk => by have := H.out.lt _ (H.out.sS _ hk); omega)).trans HRB.out
      have HM5 := Lib.hid ((HMC.out.drewN 1).sto hst5 hfr5)
      have HF5 := Lib.hid hfr5w
      have HRB5 := Lib.hid hrb5
      clear hst5 hfr5 hfr5w hrb5
      dsimp only [Cnt.val] at *
      go_wp2_with fail
      refine ⟨by exact HF5.out.mono (fun k hk => .inl hk), ?_⟩
      repeat (first | (apply sched_take rfl; (focus (first | rfl | (go_simp; done))); (focus (intro W hW; have f12 := HC.out W hW; have f1 := f12.1; have f2 := f12.2; clear f12; go_simp; rfl)); (focus (intro K hK; go_simp; refine hK _ ?_; clear hK K))) | (apply sched_skip rfl; (focus (first | rfl | (go_simp; done))); (focus (intro K hK; go_simp; refine hK _ ?_; clear hK K))))
      have frb5 := blk_cell HRB5.out
      have grb5 := blk_frozen HRB5.out
      apply sched_op rfl
      intro K hK
      go_simp
      go_wp2_with (fail)
      have hfr6 : Fr (fun k => k = rb) w5 (((((w5.setCell ⟨rb, 3, none⟩ (.int .i64 cn.ad)).setCell ⟨rb, 4, none⟩ (.int .i64 cn.sa)).setCell ⟨rb, 5, none⟩ (.int .i64 cn.ot)).setCell ⟨rb, 6, none⟩ (.int .i64 cn.cy)).setCell ⟨rb, 7, none⟩ (.int .i64 cn.fu)) :=
        ((((((Fr.refl (fun k => k = rb) w5).setCell (p := ⟨rb, 3, none⟩) rfl _).setCell (p := ⟨rb, 4, none⟩) rfl _).setCell (p := ⟨rb, 5, none⟩) rfl _).setCell (p := ⟨rb, 6, none⟩) rfl _).setCell (p := ⟨rb, 7, none⟩) rfl _)
      have hrb6 := blk_set (blk_set (blk_set (blk_set (blk_set HRB5.out 3 (.int .i64 cn.ad)) 4 (.int .i64 cn.sa)) 5 (.int .i64 cn.ot)) 6 (.int .i64 cn.cy)) 7 (.int .i64 cn.fu)
      generalize hw6 : (((((w5.setCell ⟨rb, 3, none⟩ (.int .i64 cn.ad)).setCell ⟨rb, 4, none⟩ (.int .i64 cn.sa)).setCell ⟨rb, 5, none⟩ (.int .i64 cn.ot)).setCell ⟨rb, 6, none⟩ (.int .i64 cn.cy)).setCell ⟨rb, 7, none⟩ (.int .i64 cn.fu)) = w6 at *
      have hrb6' : w6.heap[rb]? = some (.cells #[.int .i64 r.er, .int .i64 r.ss, .int .i64 r.gn, .int .i64 cn.ad, .int .i64 cn.sa, .int .i64 cn.ot, .int .i64 cn.cy, .int .i64 cn.fu] 56 (0, 0)) := by simpa using hrb6
      have HRB6 := Lib.hid hrb6'
      have HF6 := Lib.hid hfr6
      have HM6 := Lib.hid (HM5.out.fr hfr6 (fun k hk e => by
        rcases hk with hk | hk
        · have := H.out.lt k hk; omega
        · have hkz : wc.heap.size ≤ k := hk.1
          omega))
      have hz6 : wc.heap.size ≤ w6.heap.size := Nat.le_trans hz5 hfr6.size
      have HF56 : Hid (Fr (fun k => SS k ∨ k = rb) wc w6) := Lib.hid ((HF5.out.mono (fun k hk => .inl hk)).trans (hfr6.mono (fun k hk => .inr hk)))
      clear hw6 hrb6 hrb6' hfr6 frb5 grb5 frb
      refine ⟨by exact HF56.out, ?_⟩
      refine sched_nil ?_
      go_wp2_with fail
      have HRES6 : Hid (w6.heap[w.heap.size + 1]? = some (.cells #[.int .i64 0, .int .i64 0, .int .i64 0, .int .i64 0, .int .i64 0, .int .i64 0, .int .i64 0, .int .i64 0] 56 (0, 0))) := Lib.hid ((HF56.out.block _ (by omega) (fun hk => by
        rcases hk with hk | hk
        · have := H.out.lt _ (H.out.sS _ hk); omega
        · omega)).trans HRES.out)
      have html : tm < w.heap.size := H.out.lt _ H.out.sb.2.2.1
      have HC7 : Hid (∀ W, Fr (fun k => k = tm) w6 W → (∀ j, W.cell? ⟨b, j, none⟩ = (#[.pointer (some ⟨s, 0, none⟩), .pointer (some ⟨t, 0, none⟩), .int .i64 M.ix, .int .i64 M.te, .slice (some ⟨vb, 0, none⟩) M.vo.length c] : Array Value)[j]?) ∧ (∀ j, W.cell? ⟨w.heap.size, j, none⟩ = (#[.int .i64 2, .int .i64 se, .int .i64 sq, .int .i64 at_, .slice As ns cs, .slice Av nv cv] : Array Value)[j]?) ∧ (∀ j, W.cell? ⟨rb, j, none⟩ = (#[.int .i64 r.er, .int .i64 r.ss, .int .i64 r.gn, .int .i64 cn.ad, .int .i64 cn.sa, .int .i64 cn.ot, .int .i64 cn.cy, .int .i64 cn.fu] : Array Value)[j]?)) := Lib.hid (fun W hW => ⟨blk_cell ((hW.block b (HM6.out.lt b HM6.out.sb.1) H.out.n1.2.1).trans HM6.out.hp), fun j => by
          rw [← (HC.out w6 HF56.out).2 j]
          have hbk := hW.block w.heap.size (by omega) (by omega)
          simp only [World.cell?, hbk], blk_cell ((hW.block rb (by omega) (by omega)).trans HRB6.out)⟩)
      have HKEEP : Hid (Calls Tryz.prog 151 #[.pointer (some ⟨t, 0, none⟩), .int .i64 se, .int .i64 sq, .int .i64 M.ix, .agg #[.int .i64 r.er, .int .i64 r.ss, .int .i64 r.gn, .int .i64 cn.ad, .int .i64 cn.sa, .int .i64 cn.ot, .int .i64 cn.cy, .int .i64 cn.fu]] w6.drew (ResKep w6.drew t tm M.L se sq M.ix (r.cnt cn))) := Lib.hid (tkeep_any (HM6.out.tb.drewN 1) se sq M.ix (r.cnt cn) (wfI_of (by omega) (by omega)) (by omega))
      refine wp_region_sched [(0, true), (1, true), (2, true), (3, true), (4, true), (5, true), (6, true), (7, true), (8, true), (9, true), (10, true), (11, true), (12, true), (13, false)] (fun W => Fr (fun k => k = tm) w6 W) (by kernel_rfl) (by kernel_rfl) rfl (by kernel_rfl) ((Fr.refl _ _).drew) ?_
      repeat (first | (apply sched_take rfl; (focus (first | rfl | (go_simp; done))); (focus (intro W hW; have f12 := HC7.out W hW; have f1 := f12.1; have f2 := f12.2.1; have f3 := f12.2.2; clear f12; go_simp; rfl)); (focus (intro K hK; go_simp; refine hK _ ?_; clear hK K))) | (apply sched_skip rfl; (focus (first | rfl | (go_simp; done))); (focus (intro K hK; go_simp; refine hK _ ?_; clear hK K))))
      apply sched_op rfl
      intro K hK
      go_simp
      go_wp2_with (fail)
      refine HKEEP.out.mono ?_
      rintro e w7 ⟨rfl, htb7, hfr7⟩
      have hfr7w : Fr (fun k => k = tm) w6 w7 := (Fr.refl (fun k => k = tm) w6).drew.trans hfr7
      have HM7 := Lib.hid ((HM6.out.drewN 1).tab htb7 hfr7)
      have HF7 := Lib.hid hfr7w
      have hres7 : w7.heap[w.heap.size + 1]? = some (.cells #[.int .i64 0, .int .i64 0, .int .i64 0, .int .i64 0, .int .i64 0, .int .i64 0, .int .i64 0, .int .i64 0] 56 (0, 0)) := (hfr7w.block _ (by omega) (by omega)).trans HRES6.out
      have HRES7 := Lib.hid hres7
      have fres7 := blk_cell hres7
      have gres7 := blk_frozen hres7
      have frb7 := (HC7.out w7 hfr7w).2.2
      have hz7 : wc.heap.size ≤ w7.heap.size := Nat.le_trans hz6 hfr7w.size
      clear htb7 hfr7 hfr7w hres7 fres gres
      go_wp2_with fail
      refine ⟨by exact HF7.out, ?_⟩
      refine sched_nil ?_
      go_wp2_with fail
      refine bodyPost_ret (v := .tuple #[.agg #[.int .i64 r.er, .int .i64 r.ss, .int .i64 r.gn, .int .i64 cn.ad, .int .i64 cn.sa, .int .i64 cn.ot, .int .i64 cn.cy, .int .i64 cn.fu], .nilIface]) (by simp [results, Tryz.results120, go_sem, fres7]) rfl ?_
      rw [HIM2.out]
      have hfr8 := fr_eight w7 (w.heap.size + 1) (.int .i64 r.er) (.int .i64 r.ss) (.int .i64 r.gn) (.int .i64 cn.ad) (.int .i64 cn.sa) (.int .i64 cn.ot) (.int .i64 cn.cy) (.int .i64 cn.fu)
      have hM8 := HM7.out.fr hfr8 (fun k hk e => by
        rcases hk with hk | hk
        · have := H.out.lt k hk; omega
        · have hkz : wc.heap.size ≤ k := hk.1
          omega)
      refine ⟨rfl, ?_, ?_⟩
      · refine (hM8.at_).mono ?_ ?_
        · rintro k (hk | hk)
          · exact .inl hk
          · have hkz : wc.heap.size ≤ k := hk.1
            have hkl : k < w5.heap.size := hk.2
            have h56 := HF6.out.size
            have h67 := HF7.out.size
            have h78 := hfr8.size
            exact .inr ⟨by omega, by omega⟩
        · rintro k (hk | hk)
          · have := H.out.lt k hk
            have h78 := hfr8.size
            omega
          · exact hk.2
      · exact ((((Fr.of_below HB1.out).step HF56.out (fun j hj => by
          rcases hj with hj | hj
          · exact .inl (H.out.sS j hj)
          · exact .inr (by omega))).step HF7.out (fun j hj => .inl (hj ▸ H.out.sb.2.2.1))).step hfr8 (fun j hj => .inr (by omega)))
    · have him := HIM.out
      rw [if_neg (by simp), if_pos rfl] at him
      have HIM2 := Lib.hid him
      clear him HIM
      go_wp2_with fail
      refine bodyPost_ret (v := .tuple #[.agg #[.int .i64 r.er, .int .i64 r.ss, .int .i64 r.gn, .int .i64 r.ad, .int .i64 r.sa, .int .i64 r.ot, .int .i64 r.cy, .int .i64 r.fu], .nilIface]) (by simp [results, Tryz.results120, go_sem, fres]) rfl ?_
      rw [HIM2.out]
      have hfr8 := fr_eight wc (w.heap.size + 1) (.int .i64 r.er) (.int .i64 r.ss) (.int .i64 r.gn) (.int .i64 r.ad) (.int .i64 r.sa) (.int .i64 r.ot) (.int .i64 r.cy) (.int .i64 r.fu)
      exact ⟨rfl, H.out.at_.same (HB1.out.trans (hfr8.below HB1.out.size (fun k hk => by omega)))⟩
  · have hbe : (ec != 0) = true := by simpa using he
    have him := HIM.out
    rw [if_pos he] at him
    have HIM2 := Lib.hid him
    clear him HIM he
    go_wp2_with fail
    refine bodyPost_ret (v := .tuple #[.agg #[.int .i64 0, .int .i64 0, .int .i64 0, .int .i64 0, .int .i64 0, .int .i64 0, .int .i64 0, .int .i64 0], .iface 33 (.int .i64 ec)]) (by simp [results, Tryz.results120, go_sem, fres]) rfl ?_
    rw [HIM2.out]
    have hfr8 := fr_eight wc (w.heap.size + 1) (.int .i64 0) (.int .i64 0) (.int .i64 0) (.int .i64 0) (.int .i64 0) (.int .i64 0) (.int .i64 0) (.int .i64 0)
    exact ⟨rfl, H.out.at_.same (HB1.out.trans (hfr8.below HB1.out.size (fun k hk => by omega)))⟩
end Go.Proofs.YtempkjnaahgbhaaGreatDoor
