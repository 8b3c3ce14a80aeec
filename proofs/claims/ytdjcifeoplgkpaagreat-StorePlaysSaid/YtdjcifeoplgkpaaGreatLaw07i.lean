/-
  The walk of the law StorePlays: the Go text answers true. Conditions: the calls are not more than memory bears.
-/
import Derived.Test.YtdjcifeoplgkpaaGreatTells07
import Derived.Test.YtdjcifeoplgkpaaGreatStoreC
namespace Go.Proofs.YtdjcifeoplgkpaaGreat
open Go Go.RowKit Go.Maps

/-- A store and the reference's that have the same, apart from one another. -/
def TwoP (w wr : World) (s x : Nat) : Prop := ∃ (m : Nat) (T : List Tr) (S S' : Nat → Prop), St wr s m T S ∧ RS wr x T S' ∧ (∀ k, S k → ¬ S' k) ∧ (∀ k, S k → w.heap.size ≤ k) ∧ (∀ k, S' k → w.heap.size ≤ k)
theorem TwoP.below {w wr w' : World} {s x : Nat} (h : TwoP w wr s x) (hb : Below wr.heap.size wr w') : TwoP w w' s x := by
  obtain ⟨m, T, S, S', h1, h2, h3, h4, h5⟩ := h
  exact ⟨m, T, S, S', h1.below hb (Nat.le_refl _), h2.below hb (Nat.le_refl _), h3, h4, h5⟩

set_option maxRecDepth 100000 in
set_option maxHeartbeats 4000000 in
theorem storePlays_any (A : Option Addr) (n cap B : Nat) (ds : List DoV) (w : World) (hB : B ≤ w.heap.size) (hbig : n ≤ 140737488355328) (hnb : ∀ d ∈ ds, d.n ≤ 140737488355328) (hr : RdDo w B A n ds) :
    Calls Tryz.prog 3 #[.slice A n cap] w fun e w' => e = .returned (.bool true) ∧ Below w.heap.size w w' := by
  have hlen := hr.len
  subst hlen
  have HR := Lib.hid hr
  have HNB := Lib.hid hnb
  clear hr hnb
  go_enter Tryz.func3, Tryz.ntmps3
  go_wp2_with fail
  refine (short_any A _ cap B ds w hB hbig HNB.out HR.out).mono ?_
  rintro e w0 ⟨q, rfl, hq, hb0⟩
  have HB0 := Lib.hid hb0
  have hz0 := hb0.size
  cases q
  · clear hb0 hq
    go_wp2_with fail
    refine (awake7_any _).mono ?_
    rintro e w2 ⟨rfl, hb2⟩
    go_wp2_with fail
    go_ret
    exact ⟨rfl, below_via HB0.out hb2 HB0.out.size⟩
  have HS := Lib.hid (hq rfl)
  clear hb0 hq
  go_wp2_with fail
  refine (snew_any w0).mono ?_
  rintro e w1 ⟨s0, m0, rfl, hst1, hb1⟩
  have hz1 := hb1.size
  have HBX : Hid (Below w1.heap.size w1 (w1.alloc (.cells #[.slice none 0 0] 30))) := Lib.hid ((Below.refl _ _).alloc (Nat.le_refl _) _)
  have HB1 : Hid (Below w.heap.size w (w1.alloc (.cells #[.slice none 0 0] 30))) := Lib.hid ((HB0.out.trans (hb1.mono hz0)).alloc (by omega) _)
  have HTWO : Hid (TwoP w (w1.alloc (.cells #[.slice none 0 0] 30)) s0 w1.heap.size) := Lib.hid ⟨m0, [], _, _, hst1.below HBX.out (Nat.le_refl _), RS.new w1, (fun k h1 h2 => by
    have h3 := h1.2
    have h4 := h2.1
    omega), (fun k h1 => by have h3 := h1.1; omega), (fun k h1 => by have h3 := h1.1; omega)⟩
  clear hst1 hb1
  go_wp2_with fail
  generalize w1.alloc (.cells #[.slice none 0 0] 30) = w2 at *
  generalize w1.heap.size = x at *
  go_loopw [3, 22] (fun sv i wr => ∃ k s : Nat, k ≤ ds.length ∧ i = .int .i64 k ∧ sv = .pointer (some ⟨s, 0, none⟩) ∧ TwoP w wr s x ∧ Below w.heap.size w wr) (fun _ i _ => ds.length - (intOf i).toNat)
  case atStart => exact ⟨0, s0, by omega, rfl, rfl, HTWO.out, HB1.out⟩
  case round =>
    obtain ⟨k, s, hk, rfl, rfl, htwo, hb⟩ := hrel
    obtain ⟨m, T, SA, SB, hsa, hsb, hdis, hla, hlb⟩ := htwo
    have HSA := Lib.hid hsa
    have HSB := Lib.hid hsb
    have HDIS := Lib.hid hdis
    have HLA := Lib.hid hla
    have HLB := Lib.hid hlb
    have HB := Lib.hid hb
    have hzr := hb.size
    clear hsa hsb hdis hla hlb hb
    by_cases hlt : k < ds.length
    · have hk1 : (k : Int) < (ds.length : Int) := by omega
      obtain ⟨b1, o1, rfl, hb1, x0, x1, x2, hrs⟩ := (HR.out.below HB.out hB).at_ hlt
      have hlight := light_parts (HS.out.2.2 _ (List.getElem_mem hlt))
      have HRSA : Hid (∀ W, Below w.heap.size w W → RdS W B ds[k].A ds[k].n ds[k].l) := Lib.hid (fun W hW => ((HR.out.below hW hB).2 _ (List.getElem_mem hlt)))
      have HDL := Lib.hid hrs.len
      clear hrs
      generalize ds[k] = d at *
      have hdn : d.n ≤ 400 := by have := HDL.out; omega
      have HNM : Hid (∀ x ∈ d.l, x.nm.size ≤ 140737488355328) := Lib.hid (fun x hx => by have := hlight.2 x hx; omega)
      clear hlight
      obtain ⟨r, hrz, hop, hr5⟩ := opc_nat d.op
      have HBA : Hid (Below wr.heap.size wr (wr.alloc (.cells #[.int .i64 d.op, .slice d.A d.n d.c, .int .i64 d.N] 33))) := Lib.hid ((Below.refl _ _).alloc (Nat.le_refl _) _)
      have HBW : Hid (Below w.heap.size w (wr.alloc (.cells #[.int .i64 d.op, .slice d.A d.n d.c, .int .i64 d.N] 33))) := Lib.hid (HB.out.trans (HBA.out.mono hzr))
      have HSAA := Lib.hid (HSA.out.below HBA.out (Nat.le_refl _))
      have HSBA := Lib.hid (HSB.out.below HBA.out (Nat.le_refl _))
      have HCX := Lib.hid (heap_alloc_new wr (.cells #[.int .i64 d.op, .slice d.A d.n d.c, .int .i64 d.N] 33))
      clear hop
      by_cases h3 : r = 3
      · have hrb : ((r : Int) == 3) = true := by simp [h3]
        clear h3
        have hw2 : wrap64 (r : Int) = r := IntWalk.wrap64_in _ (by omega)
        have hw1 : IntKind.i64.wrap (r : Int) = r := (IntWalk.i64_left _).trans hw2
        go_wp2_with fail
        clear hw1 hw2
        have HCV : Hid (∀ W : World, W.heap[wr.heap.size]? = some (.cells #[.int .i64 d.op, .slice d.A d.n d.c, .int .i64 d.N] 33 (0, 0)) → ∀ j, W.cell? ⟨wr.heap.size, j, none⟩ = (#[.int .i64 d.op, .slice d.A d.n d.c, .int .i64 d.N] : Array Value)[j]?) := Lib.hid (fun W hW => blk_cell hW)
        refine wp_region_sched [(0, true), (1, true), (2, true), (4, true), (5, true), (6, true), (3, false), (7, false), (8, true)] (fun W => W.heap[wr.heap.size]? = some (.cells #[.int .i64 d.op, .slice d.A d.n d.c, .int .i64 d.N] 33 (0, 0))) (by kernel_rfl) (by kernel_rfl) rfl (by kernel_rfl) HCX.out ?_
        repeat (first | (apply sched_take rfl; (focus (first | rfl | (go_simp; done))); (focus (intro W hW; have f1 := HCV.out W hW; go_simp; rfl)); (focus (intro K hK; go_simp; refine hK _ ?_; clear hK K))) | (apply sched_skip rfl; (focus (first | rfl | (go_simp; done))); (focus (intro K hK; go_simp; refine hK _ ?_; clear hK K))))
        apply sched_op rfl
        intro K hK
        go_simp
        go_wp2_with (fail)
        refine (retain_any (HSAA.out.drewN 1) d.N).mono ?_
        rintro e v1 ⟨rfl, hs1, hf1⟩
        have hzv1 := hf1.size
        simp at hzv1
        have hc1 : v1.heap[wr.heap.size]? = some (.cells #[.int .i64 d.op, .slice d.A d.n d.c, .int .i64 d.N] 33 (0, 0)) := (hf1.block _ (by simp) (fun hs => by have := HSA.out.lt _ hs; omega)).trans HCX.out
        have hs1b : RS v1 x T SB := (HSBA.out.drewN 1).fr hf1 (fun j hj hs => HDIS.out j hs hj)
        have hk1 : Below w.heap.size w v1 := (below_dN HBW.out 1).trans (hf1.below (by have := HBW.out.size; simpa using this) (fun j hj => HLA.out j hj))
        clear hf1
        go_wp2_with fail
        refine ⟨by exact hc1, ?_⟩
        repeat (first | (apply sched_take rfl; (focus (first | rfl | (go_simp; done))); (focus (intro W hW; have f1 := HCV.out W hW; go_simp; rfl)); (focus (intro K hK; go_simp; refine hK _ ?_; clear hK K))) | (apply sched_skip rfl; (focus (first | rfl | (go_simp; done))); (focus (intro K hK; go_simp; refine hK _ ?_; clear hK K))))
        apply sched_op rfl
        intro K hK
        go_simp
        go_wp2_with (fail)
        refine (rretain_any hs1b d.N).mono ?_
        rintro e v2 ⟨rfl, hs2b, hf2⟩
        have hs2 : St v2 s m (retT T d.N) SA := hs1.fr hf2 (fun j hj hs => HDIS.out j hj hs)
        have hc2 : v2.heap[wr.heap.size]? = some (.cells #[.int .i64 d.op, .slice d.A d.n d.c, .int .i64 d.N] 33 (0, 0)) := (hf2.block _ (by omega) (fun hs => by have := HSB.out.lt _ hs; omega)).trans hc1
        have hk2 : Below w.heap.size w v2 := hk1.trans (hf2.below hk1.size (fun j hj => HLB.out j hj))
        have HSA2 := Lib.hid hs2
        have HSB2 := Lib.hid hs2b
        have HTWO2 : Hid (TwoP w v2 s x) := Lib.hid ⟨m, _, SA, _, hs2, hs2b, (fun j h1 h2 => by
          rcases h2 with h2 | h2
          · exact HDIS.out j h1 h2
          · have := HSA.out.lt j h1; have := h2.1; omega), HLA.out, (fun j h2 => by
          rcases h2 with h2 | h2
          · exact HLB.out j h2
          · have := h2.1; omega)⟩
        have HBV2 := Lib.hid hk2
        clear hf2 hs1 hs1b hs2 hs2b hk1 hk2 hc1
        go_wp2_with fail
        refine ⟨by exact hc2, ?_⟩
        repeat (first | (apply sched_take rfl; (focus (first | rfl | (go_simp; done))); (focus (intro W hW; have f1 := HCV.out W hW; go_simp; rfl)); (focus (intro K hK; go_simp; refine hK _ ?_; clear hK K))) | (apply sched_skip rfl; (focus (first | rfl | (go_simp; done))); (focus (intro K hK; go_simp; refine hK _ ?_; clear hK K))))
        refine sched_nil ?_
        clear hc2
        go_wp2_with fail
        refine (tells7_any HSA2.out HSB2.out).mono ?_
        rintro e v3 ⟨rfl, hb3⟩
        have HTWO3 := Lib.hid (HTWO2.out.below hb3)
        have HBV3 : Hid (Below w.heap.size w v3) := Lib.hid (HBV2.out.trans (hb3.mono HBV2.out.size))
        clear hb3
        go_wp2_with fail
        go_roundw
        case rel => exact ⟨k + 1, s, by omega, by go_num, rfl, HTWO3.out, HBV3.out⟩
        case measure => simp [intOf]; omega
      · have hrb : ((r : Int) == 3) = false := by simp; omega
        clear h3
        by_cases h4 : r = 4
        · have hrb4 : ((r : Int) == 4) = true := by simp [h4]
          clear h4
          have HCL := Lib.hid (sclone_any HSAA.out)
          have hw2 : wrap64 (r : Int) = r := IntWalk.wrap64_in _ (by omega)
          have hw1 : IntKind.i64.wrap (r : Int) = r := (IntWalk.i64_left _).trans hw2
          go_wp2_with fail
          refine HCL.out.mono ?_
          rintro e v1 ⟨s2, m2, rfl, hst2, hb2⟩
          clear hw1 hw2
          have hzv1 := hb2.size
          simp at hzv1
          have HC1 := Lib.hid hst2
          have HSA1 := Lib.hid (HSAA.out.below hb2 (Nat.le_refl _))
          have HSB1 := Lib.hid (HSBA.out.below hb2 (Nat.le_refl _))
          have HBV1 : Hid (Below w.heap.size w v1) := Lib.hid (HBW.out.trans (hb2.mono HBW.out.size))
          clear hst2 hb2
          go_wp2_with fail
          refine (retain_any HSA1.out 4611686018427387904).mono ?_
          rintro e v2 ⟨rfl, _, hf2⟩
          have hzv2 := hf2.size
          have HC2 : Hid (St v2 s2 m2 T (fun k => (wr.alloc (.cells #[.int .i64 d.op, .slice d.A d.n d.c, .int .i64 d.N] 33)).heap.size ≤ k ∧ k < v1.heap.size)) := Lib.hid (HC1.out.fr hf2 (fun j hj hs => by
            have h1 := hj.1
            have := HSA.out.lt j hs
            simp at h1
            omega))
          have HSB2 : Hid (RS v2 x T SB) := Lib.hid (HSB1.out.fr hf2 (fun j hj hs => HDIS.out j hs hj))
          have HBV2 : Hid (Below w.heap.size w v2) := Lib.hid (HBV1.out.trans (hf2.below HBV1.out.size (fun j hj => HLA.out j hj)))
          have HTWO2 : Hid (TwoP w v2 s2 x) := Lib.hid ⟨m2, T, _, SB, HC2.out, HSB2.out, (fun j h1 h2 => by
            have h3 := h1.1
            have := HSB.out.lt j h2
            simp at h3
            omega), (fun j h1 => by
            have h3 := h1.1
            simp at h3
            omega), HLB.out⟩
          clear hf2
          go_wp2_with fail
          refine (tells7_any HC2.out HSB2.out).mono ?_
          rintro e v3 ⟨rfl, hb3⟩
          have HTWO3 := Lib.hid (HTWO2.out.below hb3)
          have HBV3 : Hid (Below w.heap.size w v3) := Lib.hid (HBV2.out.trans (hb3.mono HBV2.out.size))
          clear hb3
          go_wp2_with fail
          go_roundw
          case rel => exact ⟨k + 1, s2, by omega, by go_num, rfl, HTWO3.out, HBV3.out⟩
          case measure => simp [intOf]; omega
        · have hrb4 : ((r : Int) == 4) = false := by simp; omega
          clear h4
          have HCLN := Lib.hid (cloneSpans_any d.A d.n d.c B d.l _ (by have := HBW.out.size; omega) (by omega) (HRSA.out _ HBW.out))
          have hw2 : wrap64 (r : Int) = r := IntWalk.wrap64_in _ (by omega)
          have hw1 : IntKind.i64.wrap (r : Int) = r := (IntWalk.i64_left _).trans hw2
          go_wp2_with fail
          refine HCLN.out.mono ?_
          rintro e v1 ⟨A2, c2, rfl, hown, hb2⟩
          clear hw1 hw2
          have hzv1 := hb2.size
          simp at hzv1
          have hdl := HDL.out
          rw [hdl] at hown ⊢
          have HRG : Hid (RdS v1 v1.heap.size A2 d.n d.l) := Lib.hid (Rd.of_own hown)
          have HAB : Hid (∀ j, A2.map (·.block) = some j → (wr.alloc (.cells #[.int .i64 d.op, .slice d.A d.n d.c, .int .i64 d.N] 33)).heap.size ≤ j ∧ j < v1.heap.size) := Lib.hid (fun j hj => hown.lt j (by rw [← hj]; cases A2 <;> rfl))
          have HSA1 := Lib.hid (HSAA.out.below hb2 (Nat.le_refl _))
          have HSB1 := Lib.hid (HSBA.out.below hb2 (Nat.le_refl _))
          have HBV1 : Hid (Below w.heap.size w v1) := Lib.hid (HBW.out.trans (hb2.mono HBW.out.size))
          have HCX1 : Hid (v1.heap[wr.heap.size]? = some (.cells #[.int .i64 d.op, .slice d.A d.n d.c, .int .i64 d.N] 33 (0, 0))) := Lib.hid (blk_below hb2 (by simp) HCX.out)
          have hing := ingest_any HSA1.out A2 d.n c2 v1.heap.size d.l (Nat.le_refl _) (by omega) HNM.out HRG.out (fun _ j hj hs => by
            have h1 := (HAB.out j hj).1
            have := HSA.out.lt j hs
            simp at h1
            omega)
          have HING := Lib.hid hing
          clear hown hb2 hing hdl
          go_wp2_with fail
          refine HING.out.mono ?_
          rintro e v2 ⟨rfl, hs2, hf2⟩
          have hzv2 := hf2.size
          have HC2 : Hid (v2.heap[wr.heap.size]? = some (.cells #[.int .i64 d.op, .slice d.A d.n d.c, .int .i64 d.N] 33 (0, 0))) := Lib.hid ((hf2.block _ (by omega) (fun hs => by have := HSA.out.lt _ hs; omega)).trans HCX1.out)
          have HS2B : Hid (RS v2 x T SB) := Lib.hid (HSB1.out.fr hf2 (fun j hj hs => HDIS.out j hs hj))
          have HK2 : Hid (Below w.heap.size w v2) := Lib.hid (HBV1.out.trans (hf2.below HBV1.out.size (fun j hj => HLA.out j hj)))
          have HRG2 : Hid (RdS v2 v2.heap.size A2 d.n d.l) := Lib.hid ((Fr.rdA HRG.out hf2 (Nat.le_refl _) (fun j hj hs => by
            have h1 := (HAB.out j hj).1
            have := HSA.out.lt j hs
            simp at h1
            omega)).more hzv2)
          have HS2A := Lib.hid hs2
          clear hs2 hf2 HING
          generalize hRA : ingA T d.l = ra at *
          obtain ⟨T2, cn, er⟩ := ra
          have HRA := Lib.hid hRA
          clear hRA
          dsimp only at HS2A ⊢
          have hcx := blk_cell HC2.out
          have hwv : wr.heap.size < v2.heap.size := by omega
          have HBC : Hid (Below v2.heap.size v2 (v2.alloc (.cells #[.int .i64 cn.ad, .int .i64 cn.sa, .int .i64 cn.ot, .int .i64 cn.cy, .int .i64 cn.fu] 40))) := Lib.hid ((Below.refl _ _).alloc (Nat.le_refl _) _)
          have HBW1 : Hid (Below w.heap.size w (v2.alloc (.cells #[.int .i64 cn.ad, .int .i64 cn.sa, .int .i64 cn.ot, .int .i64 cn.cy, .int .i64 cn.fu] 40))) := Lib.hid (HK2.out.trans (HBC.out.mono HK2.out.size))
          have hing2 := ringest_any (HS2B.out.below HBC.out (Nat.le_refl _)) d.A d.n d.c B d.l (by have := HBW1.out.size; omega) (by omega) HNM.out (HRSA.out _ HBW1.out) (fun h0 j hj hs => by
            have h1 := rd_block (HRSA.out _ HBW1.out) h0 j hj
            have h2 := HLB.out j hs
            omega)
          rw [HRA.out] at hing2
          have HING2 := Lib.hid hing2
          have HCN : Hid ((v2.alloc (.cells #[.int .i64 cn.ad, .int .i64 cn.sa, .int .i64 cn.ot, .int .i64 cn.cy, .int .i64 cn.fu] 40)).heap[v2.heap.size]? = some (.cells #[.int .i64 cn.ad, .int .i64 cn.sa, .int .i64 cn.ot, .int .i64 cn.cy, .int .i64 cn.fu] 40 (0, 0))) := Lib.hid (heap_alloc_new v2 _)
          clear hing2
          go_wp2_with fail
          refine HING2.out.mono ?_
          rintro e v3 ⟨rfl, hs3, hf3⟩
          have hzv3 := hf3.size
          simp at hzv3
          dsimp only at hs3 ⊢
          have hcn := blk_cell ((hf3.block v2.heap.size (by simp) (fun hs => by have := HS2B.out.lt _ hs; omega)).trans HCN.out)
          have hcx3 := blk_cell ((hf3.block wr.heap.size (by simp; omega) (fun hs => by have := HSB.out.lt _ hs; omega)).trans ((Below.heap_alloc _ _ _ hwv).trans HC2.out))
          have HSA3 := Lib.hid ((HS2A.out.below HBC.out (Nat.le_refl _)).fr hf3 (fun j hj hs => by
            rcases hj with h1 | h1
            · exact HDIS.out j h1 hs
            · have := HSB.out.lt j hs; have := h1.1; omega))
          have HK3 : Hid (Below w.heap.size w v3) := Lib.hid (HBW1.out.trans (hf3.below HBW1.out.size (fun j hj => HLB.out j hj)))
          have HRG3 : Hid (RdS v3 v3.heap.size A2 d.n d.l) := Lib.hid ((Fr.rdA (Rd.below' HRG2.out HBC.out (Nat.le_refl _) (by simp : v2.heap.size ≤ (v2.alloc (.cells #[.int .i64 cn.ad, .int .i64 cn.sa, .int .i64 cn.ot, .int .i64 cn.cy, .int .i64 cn.fu] 40)).heap.size)) hf3 (Nat.le_refl _) (fun j hj hs => by
            have h1 := (HAB.out j hj).1
            have := HSB.out.lt j hs
            simp at h1
            omega)).more hf3.size)
          have HTWO3 : Hid (TwoP w v3 s x) := Lib.hid ⟨m, T2, _, _, HSA3.out, hs3, (fun j hj hs => by
            simp only [World.size_alloc] at hs
            rcases hj with h1 | h1
            · rcases hs with h2 | h2
              · exact HDIS.out j h1 h2
              · have := HSA.out.lt j h1; have := h2.1; omega
            · rcases hs with h2 | h2
              · have := HSB.out.lt j h2; have := h1.1; omega
              · have := h1.2; have := h2.1; omega), (fun j hj => by
            rcases hj with h1 | h1
            · exact HLA.out j h1
            · have := h1.1; have := HBV1.out.size; omega), (fun j hs => by
            simp only [World.size_alloc] at hs
            have := HK2.out.size
            rcases hs with h2 | h2
            · exact HLB.out j h2
            · have := h2.1; omega)⟩
          have HS3 := Lib.hid hs3
          clear hs3 hf3 hcx
          have hzz : v2.heap.size < v3.heap.size := by omega
          have hzw : wr.heap.size < v3.heap.size := by omega
          have HBD : Hid (Below v3.heap.size v3 (v3.alloc (.cells #[.int .i64 cn.ad, .int .i64 cn.sa, .int .i64 cn.ot, .int .i64 cn.cy, .int .i64 cn.fu] 40))) := Lib.hid ((Below.refl _ _).alloc (Nat.le_refl _) _)
          have HK4 : Hid (Below w.heap.size w (v3.alloc (.cells #[.int .i64 cn.ad, .int .i64 cn.sa, .int .i64 cn.ot, .int .i64 cn.cy, .int .i64 cn.fu] 40))) := Lib.hid (HK3.out.alloc HK3.out.size _)
          have HEQ := Lib.hid (slicesEqual_any A2 d.A d.n d.n c2 d.c _ _ d.l d.l _ (Rd.below' HRG3.out HBD.out (Nat.le_refl _) (Nat.le_refl _)) (HRSA.out _ HK4.out) (by omega))
          go_wp2_with fail
          refine HEQ.out.mono ?_
          rintro e v5 ⟨q, rfl, hq5, m5, rfl⟩
          obtain rfl : q = true := hq5.2 (by trivial)
          have HB5 : Hid (Below v3.heap.size v3 ((v3.alloc (.cells #[.int .i64 cn.ad, .int .i64 cn.sa, .int .i64 cn.ot, .int .i64 cn.cy, .int .i64 cn.fu] 40)).drewN m5)) := Lib.hid (below_dN HBD.out m5)
          have HK5 : Hid (Below w.heap.size w ((v3.alloc (.cells #[.int .i64 cn.ad, .int .i64 cn.sa, .int .i64 cn.ot, .int .i64 cn.cy, .int .i64 cn.fu] 40)).drewN m5)) := Lib.hid (below_dN HK4.out m5)
          have HSA5 := Lib.hid (HSA3.out.below HB5.out (Nat.le_refl _))
          have HSB5 := Lib.hid (HS3.out.below HB5.out (Nat.le_refl _))
          have HTWO5 := Lib.hid (HTWO3.out.below HB5.out)
          clear hq5 hcn hcx3
          generalize (v3.alloc (.cells #[.int .i64 cn.ad, .int .i64 cn.sa, .int .i64 cn.ot, .int .i64 cn.cy, .int .i64 cn.fu] 40)).drewN m5 = v5 at *
          go_wp2_with fail
          refine (tells7_any HSA5.out HSB5.out).mono ?_
          rintro e v6 ⟨rfl, hb6⟩
          have HTWO6 := Lib.hid (HTWO5.out.below hb6)
          have HBV6 : Hid (Below w.heap.size w v6) := Lib.hid (HK5.out.trans (hb6.mono HK5.out.size))
          clear hb6
          go_wp2_with fail
          go_roundw
          case rel => exact ⟨k + 1, s, by omega, by go_num, rfl, HTWO6.out, HBV6.out⟩
          case measure => simp [intOf]; omega
    · have hk1 : ¬ (k : Int) < (ds.length : Int) := by omega
      go_wp2_with fail
      refine (awake7_any _).mono ?_
      rintro e v2 ⟨rfl, hb2⟩
      go_wp2_with fail
      go_ret
      exact ⟨rfl, below_via HB.out hb2 HB.out.size⟩
end Go.Proofs.YtdjcifeoplgkpaaGreat
