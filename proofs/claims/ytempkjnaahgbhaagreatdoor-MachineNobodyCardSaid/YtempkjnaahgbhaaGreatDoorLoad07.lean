/-
  The walk of store.Load: the store of which bytes are the image, or that they are none's. Condition: the bytes are not more than memory bears.
-/
import Derived.Test.YtempkjnaahgbhaaGreatDoorPerm07
import Derived.Test.YtempkjnaahgbhaaGreatDoorStoreB
import Derived.Test.YtempkjnaahgbhaaGreatDoorCodec
namespace Go.Proofs.YtempkjnaahgbhaaGreatDoor
open Go Go.RowKit Go.Maps

/-- What Load leaves. -/
def ResLoad (w : World) (r : Option (List Tr)) (e : Ending) (w' : World) : Prop :=
  Below w.heap.size w w' ∧ match r with
  | none => e = .returned (.tuple #[.pointer none, .int .i64 70])
  | some T => ∃ s m, e = .returned (.tuple #[.pointer (some ⟨s, 0, none⟩), .int .i64 0]) ∧ St w' s m T (fun k => w.heap.size ≤ k ∧ k < w'.heap.size)
theorem getAns_ok (l : List UInt8) : ∀ s ∈ (getAns l).1, s.ok = true := by
  rcases put_get l with ⟨sps, h1, h2, _⟩ | h
  · rw [h1]; exact List.all_eq_true.1 h2
  · rw [h]; simp
theorem getAns_len (l : List UInt8) : (getAns l).1.length ≤ l.length := by
  rcases put_get l with ⟨sps, h1, h2, h3⟩ | h
  · rw [h1, ← h3]; exact putEnc_ge sps
  · rw [h]; simp

set_option maxRecDepth 100000 in
set_option maxHeartbeats 4000000 in
theorem load_any (A : Option Addr) (n cap B : Nat) (l : List UInt8) (w : World) (hB : B ≤ w.heap.size) (hbig : n ≤ 4294967296) (hr : RdB w B A n l) :
    Calls Tryz.prog 96 #[.slice A n cap] w (ResLoad w (loadA l)) := by
  have hlen := hr.len
  subst hlen
  have HR := Lib.hid hr
  have HCV : Hid (∀ W, Below w.heap.size w W → (convert 32 9 (.slice A l.length cap)).run Tryz.prog W = .ok (.string ⟨l.toArray⟩) W) := Lib.hid (fun W hW => run_conv_bs Tryz.underlying32 Tryz.underlying5 Tryz.underlying9 (Rd.below' hr hW hB (Nat.le_refl _)) cap)
  have HG : Hid (loadA l = loadFin l (loadL l (scNum l 0 0).1 [] (scNum l 0 0).2.1 (scNum l 0 0).2.2)) := Lib.hid rfl
  clear hr
  go_enter Tryz.func96, Tryz.ntmps96
  go_wp2_with fail
  refine (over_any _ _ _ _ _ _ hB (by omega) HR.out).mono ?_
  rintro e w1 ⟨sb, pb, A1, c1, rfl, hpb, hs1, hb1⟩
  have HS1 := Lib.hid hs1
  have hsb : pb < sb := hs1.lt
  have hsbl := hs1.sb_lt
  have hz1 := hb1.size
  have HB1 := Lib.hid hb1
  clear hs1 hb1
  go_wp2_with fail
  refine (scanNumber_any HS1.out).mono ?_
  rintro e w2 ⟨rfl, hs2, hf2⟩
  have HB2 : Hid (Below w.heap.size w w2) := Lib.hid (HB1.out.trans (hf2.below hz1 (fun k hk => by rcases hk with rfl | rfl <;> omega)))
  have hz2 := hf2.size
  have hNb := scNum_bound l 0 0
  generalize scNum l 0 0 = q at *
  obtain ⟨N, a2, e2⟩ := q
  dsimp only at hs2 HG hNb ⊢
  have HS2 := Lib.hid hs2
  clear hs2 hf2 HS1
  go_wp2_with fail
  refine (snew_any w2).mono ?_
  rintro e w3 ⟨s, m, rfl, hst3, hb3⟩
  have hz3 := hb3.size
  have HST3 := Lib.hid hst3
  have HS3 := Lib.hid (HS2.out.below hb3 (by omega))
  have HB3 : Hid (Below w.heap.size w w3) := Lib.hid (HB2.out.trans (hb3.mono (by omega)))
  clear hst3 hb3
  go_wp2_with fail
  go_loopw [7] (fun i wr => ∃ (k : Nat) (T : List Tr) (a : Nat) (err : Int), k ≤ N ∧ i = .int .i64 k ∧ St wr s m T (fun j => w2.heap.size ≤ j ∧ j < wr.heap.size) ∧ ScanAt wr sb pb A1 c1 l a err ∧ Below w.heap.size w wr ∧ w3.heap.size ≤ wr.heap.size ∧ loadL l N [] a2 e2 = loadL l (N - k) T a err) (fun i _ => N - (intOf i).toNat)
  case atStart => exact ⟨0, [], a2, e2, by omega, rfl, HST3.out, HS3.out, HB3.out, Nat.le_refl _, rfl⟩
  case round =>
    obtain ⟨k, T, a, err, hk, rfl, hst, hs, hb, h3r, hg⟩ := hrel
    have HST := Lib.hid hst
    have HS := Lib.hid hs
    have HB := Lib.hid hb
    have HG2 := Lib.hid hg
    have hsz := hb.size
    clear hst hs hb hg
    by_cases hlt : k < N
    · obtain ⟨r, hm⟩ : ∃ r, N - k = r + 1 := ⟨N - k - 1, by omega⟩
      have hmk : N - (k + 1) = r := by omega
      have hk1 : (k : Int) < (N : Int) := by omega
      by_cases herr : err = 0
      · subst herr
        have hstep : loadL l (N - k) T a 0 = if (getAns (scText 262144 l a 0).1).2 = 0 ∧ (getAns (scText 262144 l a 0).1).1 ≠ [] then loadL l r (ingA T (getAns (scText 262144 l a 0).1).1).1 (scText 262144 l a 0).2.1 (scText 262144 l a 0).2.2 else none := by rw [hm, loadL, if_pos rfl]
        have htl := scText_len 262144 l a 0
        have HMK := Lib.hid hmk
        clear hm hmk
        go_wp2_with fail
        refine (err_any HS.out).mono ?_
        rintro e w' ⟨rfl, rfl⟩
        go_wp2_with fail
        refine (scanText_any 262144 (by omega) HS.out).mono ?_
        rintro e v1 ⟨rfl, hs1, hf1⟩
        generalize scText 262144 l a 0 = tq at *
        obtain ⟨tx, a3, e3⟩ := tq
        dsimp only at hs1 hstep htl ⊢
        have hzv1 := hf1.size
        have HST1 := Lib.hid (HST.out.fr hf1 (fun j hj hs => by
          have h1 : w2.heap.size ≤ j ∧ j < wr.heap.size := hj
          rcases hs with rfl | rfl <;> omega))
        have HSC1 := Lib.hid hs1
        have HBV1 : Hid (Below w.heap.size w v1) := Lib.hid (HB.out.trans (hf1.below hsz (fun j hj => by rcases hj with rfl | rfl <;> omega)))
        have HSTEP := Lib.hid hstep
        clear hs1 hf1 hstep
        go_wp2_with fail
        refine upon_conv_sb Tryz.underlying9 Tryz.underlying32 Tryz.underlying5 ?_
        intro cap2 v2 _ hb2 hzv2 hr2
        have htsz : (⟨tx.toArray⟩ : ByteArray).size = tx.length := by show tx.toArray.size = _; simp
        have HR2 : Hid (RdB v2 (v1.heap.size + 1) (some ⟨v1.heap.size, 0, none⟩) tx.length tx) := Lib.hid (by
          have h := hr2
          rw [htsz] at h
          have e : Lib.strCells ⟨tx.toArray⟩ = tx.map u8v := by simp [Lib.strCells, u8v]
          rw [e] at h
          exact h)
        rw [htsz]
        have HST2 := Lib.hid (HST1.out.below hb2 (Nat.le_refl _))
        have HSC2 := Lib.hid (HSC1.out.below hb2 (by omega))
        have HBV2 : Hid (Below w.heap.size w v2) := Lib.hid (HBV1.out.trans (hb2.mono HBV1.out.size))
        clear hb2 hr2 htsz
        go_wp2_with fail
        refine (Get_any _ _ _ _ tx _ (by omega) (by omega) HR2.out).mono ?_
        rintro e v3 ⟨A3, c3, rfl, hown3, hb3⟩
        have hzv3 := hb3.size
        have hgl := getAns_len tx
        have HOK := Lib.hid (getAns_ok tx)
        generalize getAns tx = ga at *
        obtain ⟨sp, e4⟩ := ga
        dsimp only at hown3 hgl HOK HSTEP ⊢
        have HR3 : Hid (RdS v3 v3.heap.size A3 sp.length sp) := Lib.hid (Rd.of_own hown3)
        have HBL3 : Hid (∀ j, A3.map (·.block) = some j → v2.heap.size ≤ j) := Lib.hid (fun j hj => (hown3.lt j (by rw [← hj]; cases A3 <;> rfl)).1)
        have HST3 := Lib.hid (HST2.out.below hb3 (Nat.le_refl _))
        have HSC3 := Lib.hid (HSC2.out.below hb3 (by omega))
        have HBV3 : Hid (Below w.heap.size w v3) := Lib.hid (HBV2.out.trans (hb3.mono HBV2.out.size))
        clear hown3 hb3
        by_cases he4 : e4 = 0
        · subst he4
          by_cases hl0 : sp.length = 0
          · have HN : Hid (loadA l = none) := Lib.hid (by rw [HG.out, HG2.out, HSTEP.out, if_neg (fun h => h.2 (List.eq_nil_of_length_eq_zero hl0))]; rfl)
            have hb0 : ((sp.length : Int) == 0) = true := by simp [hl0]
            clear hl0
            go_wp2_with fail
            go_ret2
            rw [HN.out]
            exact ⟨HBV3.out, rfl⟩
          · have HL : Hid (loadL l (N - k) T a 0 = loadL l r (ingA T sp).1 a3 e3) := Lib.hid (by rw [HSTEP.out, if_pos ⟨rfl, fun h => hl0 (by rw [h]; rfl)⟩])
            have hb0 : ((sp.length : Int) == 0) = false := beq_eq_false_iff_ne.2 (by omega)
            clear hl0
            have HING := Lib.hid (ingest_any HST3.out A3 sp.length c3 v3.heap.size sp (Nat.le_refl _) (by omega) (fun x hx => by have := ok_bounds (HOK.out x hx); omega) HR3.out (fun _ j hj hs => by
              have h1 := HBL3.out j hj
              have h2 : w2.heap.size ≤ j ∧ j < wr.heap.size := hs
              omega))
            go_wp2_with fail
            refine HING.out.mono ?_
            rintro e v5 ⟨rfl, hst5, hfr5⟩
            have hz5 := hfr5.size
            have HST5 := Lib.hid (hst5.mono (S2 := fun j => w2.heap.size ≤ j ∧ j < v5.heap.size) (fun j hj => by
              have h1 : (w2.heap.size ≤ j ∧ j < wr.heap.size) ∨ (v3.heap.size ≤ j ∧ j < v5.heap.size) := hj
              show w2.heap.size ≤ j ∧ j < v5.heap.size
              omega) (fun j hj => hj.2))
            have HSC5 := Lib.hid (HSC3.out.fr hfr5 (fun j hj => by
              have h2 : w2.heap.size ≤ j ∧ j < wr.heap.size := hj
              omega))
            have HB5 : Hid (Below w.heap.size w v5) := Lib.hid (HBV3.out.trans (hfr5.below HBV3.out.size (fun j hj => by
              have h2 : w2.heap.size ≤ j ∧ j < wr.heap.size := hj
              omega)))
            clear hst5 hfr5
            go_wp2_with fail
            go_roundw
            case rel => exact ⟨k + 1, _, a3, e3, by omega, by go_num, HST5.out, HSC5.out, HB5.out, by omega, by rw [HG2.out, HL.out, HMK.out]⟩
            case measure => simp [intOf]; omega
        · have HN : Hid (loadA l = none) := Lib.hid (by rw [HG.out, HG2.out, HSTEP.out, if_neg (fun h => he4 h.1)]; rfl)
          have hb0 : (e4 != 0) = true := by simpa using he4
          clear he4
          go_wp2_with fail
          go_ret2
          rw [HN.out]
          exact ⟨HBV3.out, rfl⟩
      · have HF : Hid (loadL l (N - k) T a err = some (T, a, err)) := Lib.hid (by rw [hm, loadL, if_neg herr])
        have hbe : (err == 0) = false := by simpa using herr
        clear herr hm hmk
        go_wp2_with fail
        refine (err_any HS.out).mono ?_
        rintro e w' ⟨rfl, rfl⟩
        go_wp2_with fail
        have HFIN : Hid (loadA l = if scEnd l a err = 0 ∧ imgT T = l then some T else none) := Lib.hid (by rw [HG.out, HG2.out, HF.out]; rfl)
        have HI0 := Lib.hid (HB.out.drew)
        refine wp_region_sched [(0, true), (1, false), (2, true), (3, true), (4, true), (7, true), (8, true), (5, false), (6, false), (9, true), (10, true)] (fun W => Below w.heap.size w W) (by kernel_rfl) (by kernel_rfl) rfl (by kernel_rfl) HI0.out ?_
        repeat (first | (apply sched_take rfl; (focus (first | rfl | (go_simp; done))); (focus (intro W hW; have f1 := HCV.out W hW; go_simp; rfl)); (focus (intro K hK; go_simp; refine hK _ ?_; clear hK K))) | (apply sched_skip rfl; (focus (first | rfl | (go_simp; done))); (focus (intro K hK; go_simp; refine hK _ ?_; clear hK K))))
        apply sched_op rfl
        intro K hK
        go_simp
        go_wp2_with (fail)
        refine (scanEnd_any (HS.out.drewN 1)).mono ?_
        rintro e v1 ⟨rfl, hs1, hf1⟩
        have hk1 : Below w.heap.size w v1 := HI0.out.trans (hf1.below (by simpa using hsz) (fun k hk => by rcases hk with rfl | rfl <;> omega))
        have hst1 : St v1 s m T (fun j => w2.heap.size ≤ j ∧ j < wr.heap.size) := (HST.out.drewN 1).fr hf1 (fun k hk hs => by
          have h1 : w2.heap.size ≤ k ∧ k < wr.heap.size := hk
          rcases hs with rfl | rfl <;> omega)
        have hzv := hf1.size
        simp at hzv
        clear hs1 hf1
        generalize scEnd l a err = ee at *
        by_cases hee : ee = 0
        · subst hee
          go_wp2_with fail
          refine ⟨by exact hk1, ?_⟩
          repeat (first | (apply sched_take rfl; (focus (first | rfl | (go_simp; done))); (focus (intro W hW; have f1 := HCV.out W hW; go_simp; rfl)); (focus (intro K hK; go_simp; refine hK _ ?_; clear hK K))) | (apply sched_skip rfl; (focus (first | rfl | (go_simp; done))); (focus (intro K hK; go_simp; refine hK _ ?_; clear hK K))))
          apply sched_op rfl
          intro K hK
          go_simp
          go_wp2_with (fail)
          have himl := imgT_len hst1.gr
          refine (image_any hst1).mono ?_
          rintro e v2 ⟨A4, c4, rfl, hown4, hb4⟩
          have hk2 : Below w.heap.size w v2 := hk1.trans (hb4.mono hk1.size)
          have hst2 := hst1.below hb4 (Nat.le_refl _)
          have hz2 := hb4.size
          have hcv4 := run_conv_bs (P := Tryz.prog) (w := v2) Tryz.underlying32 Tryz.underlying5 Tryz.underlying9 (RdB.of_own hown4) c4
          clear hown4 hb4
          generalize imgT T = im at *
          go_wp2_with fail
          refine ⟨by exact hk2, ?_⟩
          repeat (first | (apply sched_take rfl; (focus (first | rfl | (go_simp; done))); (focus (intro W hW; have f1 := HCV.out W hW; go_simp; rfl)); (focus (intro K hK; go_simp; refine hK _ ?_; clear hK K))) | (apply sched_skip rfl; (focus (first | rfl | (go_simp; done))); (focus (intro K hK; go_simp; refine hK _ ?_; clear hK K))))
          apply sched_op rfl
          intro K hK
          go_simp
          go_wp2_with (fail)
          refine ⟨by exact hk2, ?_⟩
          clear hcv4
          by_cases hEq : im = l
          · have HT : Hid (loadA l = some T) := Lib.hid (by rw [HFIN.out, if_pos ⟨by trivial, hEq⟩])
            subst hEq
            repeat (first | (apply sched_take rfl; (focus (first | rfl | (go_simp; done))); (focus (intro W hW; have f1 := HCV.out W hW; go_simp; rfl)); (focus (intro K hK; go_simp; refine hK _ ?_; clear hK K))) | (apply sched_skip rfl; (focus (first | rfl | (go_simp; done))); (focus (intro K hK; go_simp; refine hK _ ?_; clear hK K))))
            refine sched_nil ?_
            go_wp2_with fail
            go_ret2
            rw [HT.out]
            exact ⟨hk2, s, m, rfl, hst2.mono (fun j hj => ⟨by have := hj.1; omega, by have := hj.2; omega⟩) (fun j hj => hj.2)⟩
          · have HT : Hid (loadA l = none) := Lib.hid (by rw [HFIN.out, if_neg (fun h => hEq h.2)])
            have hne : (im == l) = false := by simpa using hEq
            have hne2 : (im != l) = true := by simpa using hEq
            clear hEq
            repeat (first | (apply sched_take rfl; (focus (first | rfl | (go_simp; done))); (focus (intro W hW; have f1 := HCV.out W hW; go_simp; rfl)); (focus (intro K hK; go_simp; refine hK _ ?_; clear hK K))) | (apply sched_skip rfl; (focus (first | rfl | (go_simp; done))); (focus (intro K hK; go_simp; refine hK _ ?_; clear hK K))))
            refine sched_nil ?_
            go_wp2_with fail
            go_ret2
            rw [HT.out]
            exact ⟨hk2, rfl⟩
        · have HT : Hid (loadA l = none) := Lib.hid (by rw [HFIN.out, if_neg (fun h => hee h.1)])
          have hbe : (ee != 0) = true := by simpa using hee
          have hbe2 : (ee == 0) = false := by simpa using hee
          clear hee
          go_wp2_with fail
          refine ⟨by exact hk1, ?_⟩
          repeat (first | (apply sched_take rfl; (focus (first | rfl | (go_simp; done))); (focus (intro W hW; have f1 := HCV.out W hW; go_simp; rfl)); (focus (intro K hK; go_simp; refine hK _ ?_; clear hK K))) | (apply sched_skip rfl; (focus (first | rfl | (go_simp; done))); (focus (intro K hK; go_simp; refine hK _ ?_; clear hK K))))
          refine sched_nil ?_
          go_wp2_with fail
          go_ret2
          rw [HT.out]
          exact ⟨hk1, rfl⟩
    · have hk0 : N - k = 0 := by omega
      have hk1 : ¬ (k : Int) < (N : Int) := by omega
      have HF : Hid (loadL l (N - k) T a err = some (T, a, err)) := Lib.hid (by rw [hk0]; rfl)
      clear hk0
      go_wp2_with fail
      have HFIN : Hid (loadA l = if scEnd l a err = 0 ∧ imgT T = l then some T else none) := Lib.hid (by rw [HG.out, HG2.out, HF.out]; rfl)
      have HI0 := Lib.hid (HB.out.drew)
      refine wp_region_sched [(0, true), (1, false), (2, true), (3, true), (4, true), (7, true), (8, true), (5, false), (6, false), (9, true), (10, true)] (fun W => Below w.heap.size w W) (by kernel_rfl) (by kernel_rfl) rfl (by kernel_rfl) HI0.out ?_
      repeat (first | (apply sched_take rfl; (focus (first | rfl | (go_simp; done))); (focus (intro W hW; have f1 := HCV.out W hW; go_simp; rfl)); (focus (intro K hK; go_simp; refine hK _ ?_; clear hK K))) | (apply sched_skip rfl; (focus (first | rfl | (go_simp; done))); (focus (intro K hK; go_simp; refine hK _ ?_; clear hK K))))
      apply sched_op rfl
      intro K hK
      go_simp
      go_wp2_with (fail)
      refine (scanEnd_any (HS.out.drewN 1)).mono ?_
      rintro e v1 ⟨rfl, hs1, hf1⟩
      have hk1 : Below w.heap.size w v1 := HI0.out.trans (hf1.below (by simpa using hsz) (fun k hk => by rcases hk with rfl | rfl <;> omega))
      have hst1 : St v1 s m T (fun j => w2.heap.size ≤ j ∧ j < wr.heap.size) := (HST.out.drewN 1).fr hf1 (fun k hk hs => by
        have h1 : w2.heap.size ≤ k ∧ k < wr.heap.size := hk
        rcases hs with rfl | rfl <;> omega)
      have hzv := hf1.size
      simp at hzv
      clear hs1 hf1
      generalize scEnd l a err = ee at *
      by_cases hee : ee = 0
      · subst hee
        go_wp2_with fail
        refine ⟨by exact hk1, ?_⟩
        repeat (first | (apply sched_take rfl; (focus (first | rfl | (go_simp; done))); (focus (intro W hW; have f1 := HCV.out W hW; go_simp; rfl)); (focus (intro K hK; go_simp; refine hK _ ?_; clear hK K))) | (apply sched_skip rfl; (focus (first | rfl | (go_simp; done))); (focus (intro K hK; go_simp; refine hK _ ?_; clear hK K))))
        apply sched_op rfl
        intro K hK
        go_simp
        go_wp2_with (fail)
        have himl := imgT_len hst1.gr
        refine (image_any hst1).mono ?_
        rintro e v2 ⟨A4, c4, rfl, hown4, hb4⟩
        have hk2 : Below w.heap.size w v2 := hk1.trans (hb4.mono hk1.size)
        have hst2 := hst1.below hb4 (Nat.le_refl _)
        have hz2 := hb4.size
        have hcv4 := run_conv_bs (P := Tryz.prog) (w := v2) Tryz.underlying32 Tryz.underlying5 Tryz.underlying9 (RdB.of_own hown4) c4
        clear hown4 hb4
        generalize imgT T = im at *
        go_wp2_with fail
        refine ⟨by exact hk2, ?_⟩
        repeat (first | (apply sched_take rfl; (focus (first | rfl | (go_simp; done))); (focus (intro W hW; have f1 := HCV.out W hW; go_simp; rfl)); (focus (intro K hK; go_simp; refine hK _ ?_; clear hK K))) | (apply sched_skip rfl; (focus (first | rfl | (go_simp; done))); (focus (intro K hK; go_simp; refine hK _ ?_; clear hK K))))
        apply sched_op rfl
        intro K hK
        go_simp
        go_wp2_with (fail)
        refine ⟨by exact hk2, ?_⟩
        clear hcv4
        by_cases hEq : im = l
        · have HT : Hid (loadA l = some T) := Lib.hid (by rw [HFIN.out, if_pos ⟨by trivial, hEq⟩])
          subst hEq
          repeat (first | (apply sched_take rfl; (focus (first | rfl | (go_simp; done))); (focus (intro W hW; have f1 := HCV.out W hW; go_simp; rfl)); (focus (intro K hK; go_simp; refine hK _ ?_; clear hK K))) | (apply sched_skip rfl; (focus (first | rfl | (go_simp; done))); (focus (intro K hK; go_simp; refine hK _ ?_; clear hK K))))
          refine sched_nil ?_
          go_wp2_with fail
          go_ret2
          rw [HT.out]
          exact ⟨hk2, s, m, rfl, hst2.mono (fun j hj => ⟨by have := hj.1; omega, by have := hj.2; omega⟩) (fun j hj => hj.2)⟩
        · have HT : Hid (loadA l = none) := Lib.hid (by rw [HFIN.out, if_neg (fun h => hEq h.2)])
          have hne : (im == l) = false := by simpa using hEq
          have hne2 : (im != l) = true := by simpa using hEq
          clear hEq
          repeat (first | (apply sched_take rfl; (focus (first | rfl | (go_simp; done))); (focus (intro W hW; have f1 := HCV.out W hW; go_simp; rfl)); (focus (intro K hK; go_simp; refine hK _ ?_; clear hK K))) | (apply sched_skip rfl; (focus (first | rfl | (go_simp; done))); (focus (intro K hK; go_simp; refine hK _ ?_; clear hK K))))
          refine sched_nil ?_
          go_wp2_with fail
          go_ret2
          rw [HT.out]
          exact ⟨hk2, rfl⟩
      · have HT : Hid (loadA l = none) := Lib.hid (by rw [HFIN.out, if_neg (fun h => hee h.1)])
        have hbe : (ee != 0) = true := by simpa using hee
        have hbe2 : (ee == 0) = false := by simpa using hee
        clear hee
        go_wp2_with fail
        refine ⟨by exact hk1, ?_⟩
        repeat (first | (apply sched_take rfl; (focus (first | rfl | (go_simp; done))); (focus (intro W hW; have f1 := HCV.out W hW; go_simp; rfl)); (focus (intro K hK; go_simp; refine hK _ ?_; clear hK K))) | (apply sched_skip rfl; (focus (first | rfl | (go_simp; done))); (focus (intro K hK; go_simp; refine hK _ ?_; clear hK K))))
        refine sched_nil ?_
        go_wp2_with fail
        go_ret2
        rw [HT.out]
        exact ⟨hk1, rfl⟩
end Go.Proofs.YtempkjnaahgbhaaGreatDoor
