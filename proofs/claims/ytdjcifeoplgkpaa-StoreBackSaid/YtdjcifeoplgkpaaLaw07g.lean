/-
  The walk of the law StoreBack: the Go text answers true. Conditions: the calls are not more than memory bears.
-/
import Derived.Test.YtdjcifeoplgkpaaLoad07
import Derived.Test.YtdjcifeoplgkpaaSame07
namespace Go.Proofs.Ytdjcifeoplgkpaa
open Go Go.RowKit Go.Maps

theorem PermT.look2 {T U : List Tr} (h : PermT T U) (hg : GrT T) : ∀ x, lookT U x = lookT T x := fun x => h.look hg x
theorem ret_len {T U : List Tr} (h : PermT T U) (z : Int) : ((U.length : Int) - ((retT U z).length : Int)) = ((T.length : Int) - ((retT T z).length : Int)) := by
  rw [h.len, (h.ret z).len]
/-- Two stores that have the same, apart from one another. -/
def TwoSt (w wr : World) (a ma b mb : Nat) : Prop := ∃ (T U : List Tr) (SA SB : Nat → Prop), St wr a ma T SA ∧ St wr b mb U SB ∧ PermT T U ∧ (∀ k, SA k → ¬ SB k) ∧ (∀ k, SA k → w.heap.size ≤ k) ∧ (∀ k, SB k → w.heap.size ≤ k)
theorem TwoSt.below {w wr w' : World} {a ma b mb : Nat} (h : TwoSt w wr a ma b mb) (hb : Below wr.heap.size wr w') : TwoSt w w' a ma b mb := by
  obtain ⟨T, U, SA, SB, h1, h2, h3, h4, h5, h6⟩ := h
  exact ⟨T, U, SA, SB, h1.below hb (Nat.le_refl _), h2.below hb (Nat.le_refl _), h3, h4, h5, h6⟩
theorem neq_cnt7 {a b c d e a' b' c' d' e' : Int} (h1 : a = a') (h2 : b = b') (h3 : c = c') (h4 : d = d') (h5 : e = e') (W : World) :
    (binOp .neq 39 (.agg #[.int .i64 a, .int .i64 b, .int .i64 c, .int .i64 d, .int .i64 e]) (.agg #[.int .i64 a', .int .i64 b', .int .i64 c', .int .i64 d', .int .i64 e'])).run Try.prog W = .ok (.bool false) W := by
  subst h1 h2 h3 h4 h5
  go_simp

set_option maxRecDepth 100000 in
set_option maxHeartbeats 4000000 in
theorem storeBack_any (A : Option Addr) (n cap B : Nat) (ds : List DoV) (A1 : Option Addr) (n1 cap1 : Nat) (es : List DoV) (w : World) (hB : B ≤ w.heap.size) (hbig : n ≤ 140737488355328) (hnb : ∀ d ∈ ds, d.n ≤ 140737488355328) (hr : RdDo w B A n ds)
    (hbig1 : n1 ≤ 140737488355328) (hnb1 : ∀ d ∈ es, d.n ≤ 140737488355328) (hr1 : RdDo w B A1 n1 es) :
    Calls Try.prog 10 #[.slice A n cap, .slice A1 n1 cap1] w fun e w' => e = .returned (.bool true) ∧ Below w.heap.size w w' := by
  have hlen := hr.len
  subst hlen
  have hlen := hr1.len
  subst hlen
  have HR := Lib.hid hr
  have HR1 := Lib.hid hr1
  have HNB := Lib.hid hnb
  have HNB1 := Lib.hid hnb1
  clear hr hr1 hnb hnb1
  go_enter Try.func10, Try.ntmps10
  go_wp2_with fail
  refine (short_any A _ cap B ds w hB hbig HNB.out HR.out).mono ?_
  rintro e w0 ⟨q, rfl, hq, hb0⟩
  have HB0 := Lib.hid hb0
  have hz0 := hb0.size
  cases q
  · clear hb0 hq
    go_wp2_with fail
    refine (awake7_any _).mono ?_
    rintro e w2 ⟨rfl, hb2⟩
    go_wp2_with fail
    go_ret
    exact ⟨rfl, below_via HB0.out hb2 HB0.out.size⟩
  have HS := Lib.hid (hq rfl)
  clear hb0 hq
  go_wp2_with fail
  refine (short_any A1 _ cap1 B es w0 (by omega) hbig1 HNB1.out (HR1.out.below HB0.out hB)).mono ?_
  rintro e w1 ⟨q, rfl, hq, hb1⟩
  have HB1 : Hid (Below w.heap.size w w1) := Lib.hid (HB0.out.trans (hb1.mono hz0))
  have hz1 := HB1.out.size
  cases q
  · clear hb1 hq
    go_wp2_with fail
    refine (awake7_any _).mono ?_
    rintro e w2 ⟨rfl, hb2⟩
    go_wp2_with fail
    go_ret
    exact ⟨rfl, below_via HB1.out hb2 HB1.out.size⟩
  have HS1 := Lib.hid (hq rfl)
  clear hb1 hq
  go_wp2_with fail
  refine (play_any A _ cap B ds w1 (by omega) HS.out (HR.out.below HB1.out hB)).mono ?_
  rintro e w2 ⟨a, ma, rfl, hst2, hb2⟩
  have hz2 := hb2.size
  have HST2 := Lib.hid hst2
  have HGR := Lib.hid hst2.gr
  have HB2 : Hid (Below w.heap.size w w2) := Lib.hid (HB1.out.trans (hb2.mono hz1))
  clear hst2 hb2
  generalize playD ds = T at *
  have himl := imgT_len HGR.out
  have HPN := Lib.hid (normT_perm T)
  have HLI := Lib.hid (load_img HGR.out)
  have HIM := Lib.hid (image_any HST2.out)
  generalize hN : normT T = U at *
  clear hN
  go_wp2_with fail
  refine HIM.out.mono ?_
  rintro e w3 ⟨A3, c3, rfl, hown3, hb3⟩
  have hz3 := hb3.size
  have HR3 : Hid (RdB w3 w3.heap.size A3 (imgT T).length (imgT T)) := Lib.hid (RdB.of_own hown3)
  have HST3 := Lib.hid (HST2.out.below hb3 (Nat.le_refl _))
  have HB3 : Hid (Below w.heap.size w w3) := Lib.hid (HB2.out.trans (hb3.mono HB2.out.size))
  have hload := load_any A3 (imgT T).length c3 w3.heap.size (imgT T) w3 (Nat.le_refl _) (by omega) HR3.out
  rw [HLI.out] at hload
  have HLOAD := Lib.hid hload
  have HIE := Lib.hid HPN.out.img
  clear hown3 hb3 hload HIM
  generalize imgT T = im at *
  go_wp2_with fail
  refine HLOAD.out.mono ?_
  rintro e w4 ⟨hb4, hres⟩
  obtain ⟨b, mb, he, hst4⟩ : ∃ b mb, e = .returned (.tuple #[.pointer (some ⟨b, 0, none⟩), .int .i64 0]) ∧ St w4 b mb U (fun k => w3.heap.size ≤ k ∧ k < w4.heap.size) := hres
  subst he
  have hz4 := hb4.size
  have HU4 := Lib.hid hst4
  have HST4 := Lib.hid (HST3.out.below hb4 (Nat.le_refl _))
  have HB4 : Hid (Below w.heap.size w w4) := Lib.hid (HB3.out.trans (hb4.mono HB3.out.size))
  clear hst4 hb4 HLOAD
  go_wp2_with fail
  refine (same2_any HST4.out HU4.out HPN.out.trc HPN.out.img (HPN.out.look2 HGR.out)).mono ?_
  rintro e w5 ⟨rfl, hb5⟩
  have hz5 := hb5.size
  have HTWO : Hid (TwoSt w w5 a ma b mb) := Lib.hid ⟨T, U, _, _, HST4.out.below hb5 (Nat.le_refl _), HU4.out.below hb5 (Nat.le_refl _), HPN.out, (fun k h1 h2 => by
    have h3 : w1.heap.size ≤ k ∧ k < w2.heap.size := h1
    have h4 : w3.heap.size ≤ k ∧ k < w4.heap.size := h2
    omega), (fun k h1 => by
    have h3 : w1.heap.size ≤ k ∧ k < w2.heap.size := h1
    omega), (fun k h2 => by
    have h4 : w3.heap.size ≤ k ∧ k < w4.heap.size := h2
    omega)⟩
  have HB5 : Hid (Below w.heap.size w w5) := Lib.hid (HB4.out.trans (hb5.mono HB4.out.size))
  clear hb5 HU4 HST4 HST3 HST2 HPN HIE HGR HLI HR3
  go_wp2_with fail
  go_loopw [41] (fun i wr => ∃ k : Nat, k ≤ es.length ∧ i = .int .i64 k ∧ TwoSt w wr a ma b mb ∧ Below w.heap.size w wr) (fun i _ => es.length - (intOf i).toNat)
  case atStart => exact ⟨0, by omega, rfl, HTWO.out, HB5.out⟩
  case round =>
    obtain ⟨k, hk, rfl, htwo, hb⟩ := hrel
    obtain ⟨T1, U1, SA, SB, hsa, hsb, hpt, hdis, hla, hlb⟩ := htwo
    have HSA := Lib.hid hsa
    have HSB := Lib.hid hsb
    have HPT := Lib.hid hpt
    have HDIS := Lib.hid hdis
    have HLA := Lib.hid hla
    have HLB := Lib.hid hlb
    have HB := Lib.hid hb
    have HG := Lib.hid hsa.gr
    have hzr := hb.size
    clear hsa hsb hpt hdis hla hlb hb
    by_cases hlt : k < es.length
    · have hk1 : (k : Int) < (es.length : Int) := by omega
      obtain ⟨b1, o1, rfl, hb1, x0, x1, x2, hrs⟩ := (HR1.out.below HB.out hB).at_ hlt
      have hlight := light_parts (HS1.out.2.2 _ (List.getElem_mem hlt))
      have HRSA : Hid (∀ W, Below w.heap.size w W → RdS W B es[k].A es[k].n es[k].l) := Lib.hid (fun W hW => ((HR1.out.below hW hB).2 _ (List.getElem_mem hlt)))
      have HDL := Lib.hid hrs.len
      clear hrs
      generalize es[k] = d at *
      have hdn : d.n ≤ 400 := by have := HDL.out; omega
      have HNM : Hid (∀ x ∈ d.l, x.nm.size ≤ 140737488355328) := Lib.hid (fun x hx => by have := hlight.2 x hx; omega)
      clear hlight
      obtain ⟨r, hrz, hop, hr5⟩ := opc_nat d.op
      have HBA : Hid (Below wr.heap.size wr (wr.alloc (.cells #[.int .i64 d.op, .slice d.A d.n d.c, .int .i64 d.N] 68))) := Lib.hid ((Below.refl _ _).alloc (Nat.le_refl _) _)
      have HBW : Hid (Below w.heap.size w (wr.alloc (.cells #[.int .i64 d.op, .slice d.A d.n d.c, .int .i64 d.N] 68))) := Lib.hid (HB.out.trans (HBA.out.mono hzr))
      have HSAA := Lib.hid (HSA.out.below HBA.out (Nat.le_refl _))
      have HSBA := Lib.hid (HSB.out.below HBA.out (Nat.le_refl _))
      have HCX := Lib.hid (heap_alloc_new wr (.cells #[.int .i64 d.op, .slice d.A d.n d.c, .int .i64 d.N] 68))
      clear hop
      by_cases h3 : r = 3
      · have hrb : ((r : Int) == 3) = true := by simp [h3]
        have hw2 : wrap64 (r : Int) = r := IntWalk.wrap64_in _ (by omega)
        have hw1 : IntKind.i64.wrap (r : Int) = r := (IntWalk.i64_left _).trans hw2
        clear h3
        go_wp2_with fail
        clear hw1 hw2
        have HCV : Hid (∀ W : World, W.heap[wr.heap.size]? = some (.cells #[.int .i64 d.op, .slice d.A d.n d.c, .int .i64 d.N] 68 (0, 0)) → ∀ j, W.cell? ⟨wr.heap.size, j, none⟩ = (#[.int .i64 d.op, .slice d.A d.n d.c, .int .i64 d.N] : Array Value)[j]?) := Lib.hid (fun W hW => blk_cell hW)
        refine wp_region_sched [(0, true), (1, true), (2, true), (4, true), (5, true), (6, true), (3, false), (7, false), (8, true)] (fun W => W.heap[wr.heap.size]? = some (.cells #[.int .i64 d.op, .slice d.A d.n d.c, .int .i64 d.N] 68 (0, 0))) (by kernel_rfl) (by kernel_rfl) rfl (by kernel_rfl) HCX.out ?_
        repeat (first | (apply sched_take rfl; (focus (first | rfl | (go_simp; done))); (focus (intro W hW; have f1 := HCV.out W hW; go_simp; rfl)); (focus (intro K hK; go_simp; refine hK _ ?_; clear hK K))) | (apply sched_skip rfl; (focus (first | rfl | (go_simp; done))); (focus (intro K hK; go_simp; refine hK _ ?_; clear hK K))))
        apply sched_op rfl
        intro K hK
        go_simp
        go_wp2_with (fail)
        refine (retain_any (HSAA.out.drewN 1) d.N).mono ?_
        rintro e v1 ⟨rfl, hs1, hf1⟩
        have hzv1 := hf1.size
        simp at hzv1
        have hc1 : v1.heap[wr.heap.size]? = some (.cells #[.int .i64 d.op, .slice d.A d.n d.c, .int .i64 d.N] 68 (0, 0)) := (hf1.block _ (by simp) (fun hs => by have := HSA.out.lt _ hs; omega)).trans HCX.out
        have hs1b : St v1 b mb U1 SB := (HSBA.out.drewN 1).fr hf1 (fun j hj hs => HDIS.out j hs hj)
        have hk1 : Below w.heap.size w v1 := (below_dN HBW.out 1).trans (hf1.below (by have := HBW.out.size; simpa using this) (fun j hj => HLA.out j hj))
        clear hf1
        go_wp2_with fail
        refine ⟨by exact hc1, ?_⟩
        repeat (first | (apply sched_take rfl; (focus (first | rfl | (go_simp; done))); (focus (intro W hW; have f1 := HCV.out W hW; go_simp; rfl)); (focus (intro K hK; go_simp; refine hK _ ?_; clear hK K))) | (apply sched_skip rfl; (focus (first | rfl | (go_simp; done))); (focus (intro K hK; go_simp; refine hK _ ?_; clear hK K))))
        apply sched_op rfl
        intro K hK
        go_simp
        go_wp2_with (fail)
        refine (retain_any hs1b d.N).mono ?_
        rintro e v2 ⟨he2, hs2b, hf2⟩
        rw [ret_len HPT.out] at he2
        subst he2
        have hs2 : St v2 a ma (retT T1 d.N) SA := hs1.fr hf2 (fun j hj hs => HDIS.out j hj hs)
        have hc2 : v2.heap[wr.heap.size]? = some (.cells #[.int .i64 d.op, .slice d.A d.n d.c, .int .i64 d.N] 68 (0, 0)) := (hf2.block _ (by omega) (fun hs => by have := HSB.out.lt _ hs; omega)).trans hc1
        have hk2 : Below w.heap.size w v2 := hk1.trans (hf2.below hk1.size (fun j hj => HLB.out j hj))
        have HTWO2 : Hid (TwoSt w v2 a ma b mb) := Lib.hid ⟨_, _, SA, SB, hs2, hs2b, HPT.out.ret d.N, HDIS.out, HLA.out, HLB.out⟩
        have HBV2 := Lib.hid hk2
        clear hf2 hs1 hs1b hs2 hs2b hk1 hk2 hc1
        go_wp2_with fail
        refine ⟨by exact hc2, ?_⟩
        repeat (first | (apply sched_take rfl; (focus (first | rfl | (go_simp; done))); (focus (intro W hW; have f1 := HCV.out W hW; go_simp; rfl)); (focus (intro K hK; go_simp; refine hK _ ?_; clear hK K))) | (apply sched_skip rfl; (focus (first | rfl | (go_simp; done))); (focus (intro K hK; go_simp; refine hK _ ?_; clear hK K))))
        refine sched_nil ?_
        clear hc2
        go_wp2_with fail
        go_roundw
        case rel => exact ⟨k + 1, by omega, by go_num, HTWO2.out, HBV2.out⟩
        case measure => simp [intOf]; omega
      · have hrb : ((r : Int) == 3) = false := by simp; omega
        have hw2 : wrap64 (r : Int) = r := IntWalk.wrap64_in _ (by omega)
        have hw1 : IntKind.i64.wrap (r : Int) = r := (IntWalk.i64_left _).trans hw2
        clear h3
        have HING := Lib.hid (ingest_any HSAA.out d.A d.n d.c B d.l (by have := HBW.out.size; omega) (by omega) HNM.out (HRSA.out _ HBW.out) (fun h0 j hj hs => by
          have h1 := rd_block (HRSA.out _ HBW.out) h0 j hj
          have h2 := HLA.out j hs
          omega))
        go_wp2_with fail
        refine HING.out.mono ?_
        rintro e v1 ⟨rfl, hs1, hf1⟩
        clear hw1 hw2
        have hzv1 := hf1.size
        simp at hzv1
        have HC1 : Hid (v1.heap[wr.heap.size]? = some (.cells #[.int .i64 d.op, .slice d.A d.n d.c, .int .i64 d.N] 68 (0, 0))) := Lib.hid ((hf1.block _ (by simp) (fun hs => by have := HSA.out.lt _ hs; omega)).trans HCX.out)
        have HS1B : Hid (St v1 b mb U1 SB) := Lib.hid (HSBA.out.fr hf1 (fun j hj hs => HDIS.out j hs hj))
        have HK1 : Hid (Below w.heap.size w v1) := Lib.hid (HBW.out.trans (hf1.below (HBW.out.size) (fun j hj => HLA.out j hj)))
        have HS1A := Lib.hid hs1
        have hpi := HPT.out.ingA HG.out d.l
        have HPI := Lib.hid hpi.1
        have HPC := Lib.hid hpi.2
        clear hs1 hf1 hpi HING
        generalize hRA : ingA T1 d.l = ra at *
        obtain ⟨T2, cn, er⟩ := ra
        dsimp only at HS1A HPI HPC ⊢
        have hcx := blk_cell HC1.out
        have hwv : wr.heap.size < v1.heap.size := by omega
        have HBC : Hid (Below v1.heap.size v1 (v1.alloc (.cells #[.int .i64 cn.ad, .int .i64 cn.sa, .int .i64 cn.ot, .int .i64 cn.cy, .int .i64 cn.fu] 39))) := Lib.hid ((Below.refl _ _).alloc (Nat.le_refl _) _)
        have HBW1 : Hid (Below w.heap.size w (v1.alloc (.cells #[.int .i64 cn.ad, .int .i64 cn.sa, .int .i64 cn.ot, .int .i64 cn.cy, .int .i64 cn.fu] 39))) := Lib.hid (HK1.out.trans (HBC.out.mono HK1.out.size))
        have hing2 := ingest_any (HS1B.out.below HBC.out (Nat.le_refl _)) d.A d.n d.c B d.l (by have := HBW1.out.size; omega) (by omega) HNM.out (HRSA.out _ HBW1.out) (fun h0 j hj hs => by
          have h1 := rd_block (HRSA.out _ HBW1.out) h0 j hj
          have h2 := HLB.out j hs
          omega)
        generalize hRU : ingA U1 d.l = ru at *
        obtain ⟨U2, cn2, er2⟩ := ru
        have hpc := HPC.out
        dsimp only at hpc
        simp only [Prod.mk.injEq] at hpc
        obtain ⟨hpc1, hpc2⟩ := hpc
        subst hpc1 hpc2
        have HING2 := Lib.hid hing2
        have HC2 : Hid ((v1.alloc (.cells #[.int .i64 cn2.ad, .int .i64 cn2.sa, .int .i64 cn2.ot, .int .i64 cn2.cy, .int .i64 cn2.fu] 39)).heap[v1.heap.size]? = some (.cells #[.int .i64 cn2.ad, .int .i64 cn2.sa, .int .i64 cn2.ot, .int .i64 cn2.cy, .int .i64 cn2.fu] 39 (0, 0))) := Lib.hid (heap_alloc_new v1 _)
        clear hing2
        go_wp2_with fail
        refine HING2.out.mono ?_
        rintro e v3 ⟨rfl, hs3, hf3⟩
        have hzv3 := hf3.size
        simp at hzv3
        dsimp only at hs3 ⊢
        have hcn := blk_cell ((hf3.block v1.heap.size (by simp) (fun hs => by have := HS1B.out.lt _ hs; omega)).trans HC2.out)
        have HSA3 := Lib.hid ((HS1A.out.below HBC.out (Nat.le_refl _)).fr hf3 (fun j hj hs => by
          have h1 : SA j ∨ ((wr.alloc (.cells #[.int .i64 d.op, .slice d.A d.n d.c, .int .i64 d.N] 68)).heap.size ≤ j ∧ j < v1.heap.size) := hj
          rcases h1 with h1 | h1
          · exact HDIS.out j h1 hs
          · have := HSB.out.lt j hs; simp at h1; omega))
        have HK3 : Hid (Below w.heap.size w v3) := Lib.hid (HBW1.out.trans (hf3.below HBW1.out.size (fun j hj => HLB.out j hj)))
        have HTWO3 : Hid (TwoSt w v3 a ma b mb) := Lib.hid ⟨T2, U2, _, _, HSA3.out, hs3, HPI.out, (fun j hj hs => by
          have h1 : SA j ∨ ((wr.alloc (.cells #[.int .i64 d.op, .slice d.A d.n d.c, .int .i64 d.N] 68)).heap.size ≤ j ∧ j < v1.heap.size) := hj
          have h2 : SB j ∨ ((v1.alloc (.cells #[.int .i64 cn2.ad, .int .i64 cn2.sa, .int .i64 cn2.ot, .int .i64 cn2.cy, .int .i64 cn2.fu] 39)).heap.size ≤ j ∧ j < v3.heap.size) := hs
          simp at h1 h2
          rcases h1 with h1 | h1
          · rcases h2 with h2 | h2
            · exact HDIS.out j h1 h2
            · have := HSA.out.lt j h1; omega
          · rcases h2 with h2 | h2
            · have := HSB.out.lt j h2; omega
            · omega), (fun j hj => by
          have h1 : SA j ∨ ((wr.alloc (.cells #[.int .i64 d.op, .slice d.A d.n d.c, .int .i64 d.N] 68)).heap.size ≤ j ∧ j < v1.heap.size) := hj
          simp at h1
          rcases h1 with h1 | h1
          · exact HLA.out j h1
          · omega), (fun j hs => by
          have h2 : SB j ∨ ((v1.alloc (.cells #[.int .i64 cn2.ad, .int .i64 cn2.sa, .int .i64 cn2.ot, .int .i64 cn2.cy, .int .i64 cn2.fu] 39)).heap.size ≤ j ∧ j < v3.heap.size) := hs
          simp at h2
          have := HK1.out.size
          rcases h2 with h2 | h2
          · exact HLB.out j h2
          · omega)⟩
        clear hs3 hf3 hcx
        have hzz : v1.heap.size < v3.heap.size := by omega
        go_wp2_with fail
        go_roundw
        case rel => exact ⟨k + 1, by omega, by go_num, HTWO3.out.below ((Below.refl _ _).alloc (Nat.le_refl _) _), HK3.out.alloc HK3.out.size _⟩
        case measure => simp [intOf]; omega
    · have hk1 : ¬ (k : Int) < (es.length : Int) := by omega
      go_wp2_with fail
      refine (same2_any HSA.out HSB.out HPT.out.trc HPT.out.img (HPT.out.look2 HG.out)).mono ?_
      rintro e v1 ⟨rfl, hb1⟩
      have HBV1 : Hid (Below w.heap.size w v1) := Lib.hid (HB.out.trans (hb1.mono hzr))
      clear hb1
      go_wp2_with fail
      refine (awake7_any _).mono ?_
      rintro e v2 ⟨rfl, hb2⟩
      go_wp2_with fail
      go_ret
      exact ⟨rfl, below_via HBV1.out hb2 HBV1.out.size⟩
end Go.Proofs.Ytdjcifeoplgkpaa
