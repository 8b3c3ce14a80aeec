/-
  The walk of the law ForestOnce: the Go text answers true. Condition: the spans are not more than memory bears.
-/
import Derived.Test.YtnocknhfdegkgaaAwake04
import Derived.Test.YtnocknhfdegkgaaGrown04
import Derived.Test.YtnocknhfdegkgaaForest5
import Derived.Test.YtnocknhfdegkgaaForestU
import Derived.Test.YtnocknhfdegkgaaEqB04
namespace Go.Proofs.Ytnocknhfdegkgaa
open Go Go.RowKit Go.Maps

theorem app_blk {wr w5 : World} {A5 : Option Addr} {o o2 : Obj} {b : Nat} (hg : ((wr.alloc o).alloc o2).grownBy w5 (A5.map (·.block))) (hal : ∀ j, A5.map (·.block) = some j → b ≤ j ∧ j < wr.heap.size) : w5.heap[wr.heap.size]? = some o :=
  (hg.block wr.heap.size (by simp <;> omega) (fun e => by have := (hal _ e.symm).2; omega)).trans ((Below.heap_alloc _ _ _ (by simp)).trans (heap_alloc_new wr _))

set_option maxRecDepth 100000 in
set_option maxHeartbeats 4000000 in
theorem forestOnce_any (A : Option Addr) (n cap B : Nat) (l : List Sp) (w : World) (hB : B ≤ w.heap.size) (hbig : n ≤ 140737488355328) (hr : RdS w B A n l) :
    Calls Try.prog 8 #[.slice A n cap] w fun e w' => e = .returned (.bool true) ∧ Below w.heap.size w w' := by
  obtain ⟨i0, hi0, gz0, gz1, gz2⟩ := info_parts Try.infoSpan
  have hlen := hr.len
  subst hlen
  have HR := Lib.hid hr
  clear hr
  cases hl : lightB l
  · have HL := Lib.hid hl
    clear hl
    go_enter Try.func8, Try.ntmps8
    go_wp2_with fail
    refine (light_any _ _ _ _ l _ (by omega) HR.out).mono ?_
    rintro e w1 ⟨rfl, rfl⟩
    rw [HL.out]
    go_wp2_with fail
    refine (awake4_any _).mono ?_
    rintro e w2 ⟨rfl, hb2⟩
    go_wp2_with fail
    go_ret
    exact ⟨rfl, hb2⟩
  · have HL := Lib.hid hl
    have hlp := light_parts hl
    have hl200 := hlp.1
    have HNM : Hid (∀ s ∈ l, s.nm.size ≤ 140737488355328) := Lib.hid fun s hs => by have := hlp.2 s hs; omega
    clear hl hlp
    go_enter Try.func8, Try.ntmps8
    go_wp2_with fail
    refine (light_any _ _ _ _ l _ (by omega) HR.out).mono ?_
    rintro e w1 ⟨rfl, rfl⟩
    rw [HL.out]
    go_wp2_with fail
    refine (grown_any _ _ _ B l _ hB (by omega) HNM.out HR.out).mono ?_
    rintro e w1 ⟨p, a, d, rfl, hf1, hb1⟩
    have hz1 := hb1.size
    have hL64 := hf1.gr.len
    have HF1 := Lib.hid hf1
    have HB1 := Lib.hid hb1
    clear hf1 hb1
    generalize growL l = L at *
    go_wp2_with fail
    refine (branches_any HF1.out).mono ?_
    rintro e w2 ⟨A2, c2, rfl, hown2, hb2⟩
    have hz2 := hb2.size
    have HPM := Lib.hid (branches_perm HF1.out.gr)
    have HPL := Lib.hid (branches_at HF1.out.gr)
    have HDP : Hid (∀ z ∈ branches L, z.dp ≤ 64) := Lib.hid (fun z hz => by have := branches_dp L z hz; omega)
    have hbl : (branches L).length = L.length := by have := HPM.out.length_eq; simpa using this
    generalize branches L = bs at *
    have HBL := Lib.hid hbl
    have hb64 : bs.length ≤ 64 := by omega
    clear hbl
    have HO2 := Lib.hid hown2
    have HB2 := Lib.hid hb2
    have HF2 := Lib.hid (HF1.out.below hb2 (Nat.le_refl _))
    clear hown2 hb2
    go_wp2_with fail
    go_loopw [5, 21] (fun v i wr => ∃ (k : Nat) (A5 : Option Addr) (c5 : Nat), k ≤ bs.length ∧ v = .slice A5 k c5 ∧ i = .int .i64 k ∧ wr.ownsRow w2.heap.size 30 6 (.slice A5 k c5) k (((bs.take k).map Br.sp).flatMap Sp.cells) ∧ Below w2.heap.size w2 wr) (fun _ i _ => bs.length - (intOf i).toNat)
    case atStart => exact ⟨0, none, 0, by omega, rfl, rfl, World.ownsRow_nil _ _ _ _, Below.refl _ _⟩
    case round =>
      obtain ⟨k, A5, c5, hk, rfl, rfl, hown, hb⟩ := hrel
      have HOWN := Lib.hid hown
      have HB := Lib.hid hb
      have hzr := hb.size
      clear hown hb
      by_cases hlt : k < bs.length
      · have hk1 : (k : Int) < (bs.length : Int) := by omega
        have HRB : Hid (RdBr wr w2.heap.size A2 bs.length bs) := Lib.hid (Rd.below' (Rd.of_own HO2.out) HB.out (Nat.le_refl _) (Nat.le_refl _))
        obtain ⟨b1, o1, ea, hb1, x0, x1, x2, x3, x4, x5, x6, x7⟩ := HRB.out.at_ hlt
        obtain ⟨hsm, horp, hpl⟩ := HPL.out k hlt
        have HTK : Hid (bs.take (k + 1) = bs.take k ++ [bs[k]]) := Lib.hid (List.take_succ_eq_append_getElem hlt)
        generalize hx : bs[k] = x at *
        have hxdp : x.dp ≤ 64 := HDP.out x (by rw [← hx]; exact List.getElem_mem hlt)
        have HX := Lib.hid hx
        have hwpa := wf_pa HF1.out.gr x.sp hsm
        have hpa0 : 0 ≤ x.sp.pa := by have := ok_bounds (fits_ok (HF1.out.gr.fits x.sp hsm)).1; omega
        have hal : ∀ j, A5.map (·.block) = some j → w2.heap.size ≤ j ∧ j < wr.heap.size := fun j hj => HOWN.out.lt j (by rw [← hj]; cases A5 <;> rfl)
        have HAL := Lib.hid hal
        have HORP := Lib.hid horp
        have HPLX := Lib.hid hpl
        clear hx hsm hal horp hpl
        subst ea
        go_wp2_with (at_builtin; refine wpList_app _ rfl (.tmp 26) (.tmp 29) _ rfl w2.heap.size 30 i0 _ 6 56 Try.underlying22 hi0 gz0 gz1 gz2 rfl (by omega) _ _ _ _ rfl ((HOWN.out.alloc _).alloc _) (wr.heap.size + 2) _ 1 _ _ rfl (Rd.one6 (by simp) x.sp _ _) (cells_one1 _) (by unfold maxLen; omega) (by omega) (by simp <;> omega) ?_; intro A6 c6 w5 hown5 hg5 _; have hxc5 : w5.cell? ⟨wr.heap.size, 4, none⟩ = some (.int .i64 x.sp.pa) := blk_cell (app_blk hg5 HAL.out) 4)
        have hz5 := hg5.size
        simp at hz5
        have hb5 : Below w2.heap.size w2 w5 := ((HB.out.alloc hzr _).alloc (by simp <;> omega) _).grown hg5 (by simp <;> omega) (fun j hj => (HAL.out j hj).1)
        have hc5 := app_blk hg5 HAL.out
        have HC5 := Lib.hid hc5
        have HB5 := Lib.hid hb5
        have HOWN5 : Hid (w5.ownsRow w2.heap.size 30 6 (.slice A6 (k + 1) c6) (k + 1) (((bs.take (k + 1)).map Br.sp).flatMap Sp.cells)) := Lib.hid (by
          rw [HTK.out, List.map_append, List.flatMap_append]
          simpa using hown5)
        have HF5 := Lib.hid (HF2.out.below hb5 (by omega))
        clear hown5 hg5 hb5 hc5
        refine (find_any HF5.out x.sp.pa hwpa).mono ?_
        rintro e w6 ⟨rfl, hb6⟩
        have hz6 := hb6.size
        have hc6 : w6.heap[wr.heap.size]? = some (.cells #[.int .i64 x.dp, .bool x.orp, .int .i64 x.sp.tr, .int .i64 x.sp.id, .int .i64 x.sp.pa, .int .i64 x.sp.st, .int .i64 x.sp.en, .string x.sp.nm] 44 (0, 0)) := blk_below hb6 (by omega) HC5.out
        generalize getS L x.sp.pa = y at *
        have HB9 : Hid (Below w2.heap.size w2 (w6.alloc (.cells #[.int .i64 y.tr, .int .i64 y.id, .int .i64 y.pa, .int .i64 y.st, .int .i64 y.en, .string y.nm] 30))) := Lib.hid ((HB5.out.trans (hb6.mono (by omega))).alloc (by omega) _)
        have HOWN9 : Hid ((w6.alloc (.cells #[.int .i64 y.tr, .int .i64 y.id, .int .i64 y.pa, .int .i64 y.st, .int .i64 y.en, .string y.nm] 30)).ownsRow w2.heap.size 30 6 (.slice A6 (k + 1) c6) (k + 1) (((bs.take (k + 1)).map Br.sp).flatMap Sp.cells)) := Lib.hid ((own_fr' HOWN5.out (Fr.of_below hb6 : Fr (fun _ => False) _ _) (fun _ _ h => h)).alloc _)
        have hxc6 := blk_cell hc6
        have hxc9 : ∀ j, _ = _ := blk_cell ((Below.heap_alloc w6 (.cells #[.int .i64 y.tr, .int .i64 y.id, .int .i64 y.pa, .int .i64 y.st, .int .i64 y.en, .string y.nm] 30) _ (by omega)).trans hc6)
        have hx90 := hxc9 0
        have hx91 := hxc9 1
        have hx94 := hxc9 4
        simp only [List.getElem?_toArray, List.getElem?_cons_zero, List.getElem?_cons_succ] at hx90 hx91 hx94
        have HXC := Lib.hid hxc9
        have hlw : wr.heap.size < w6.heap.size := by omega
        clear hxc5 hb6 hc6 hxc6 hxc9
        rcases HPLX.out with ⟨hdp, hth⟩ | ⟨hdp, hth, kk, hkk, hk2, hk3, hk4⟩
        · have horp := HORP.out
          rw [hth] at horp ⊢
          have hd0 : (x.dp : Int) = 0 := by omega
          rw [hd0] at hx90
          clear hth hdp hd0
          by_cases hpa : x.sp.pa = 0
          · have ho : x.orp = false := by rw [horp]; simp [hpa]
            rw [ho] at hx91
            rw [hpa] at hx94
            clear horp ho hpa
            go_wp2_with fail
            go_roundw
            case rel => exact ⟨k + 1, A6, c6, by omega, by simp, by go_num, HOWN9.out, HB9.out⟩
            case measure => simp [intOf]; omega
          · have ho : x.orp = true := by rw [horp]; simp [hpa]
            rw [ho] at hx91
            have hpb : (x.sp.pa != 0) = true := by simp [hpa]
            clear horp ho hpa
            go_wp2_with fail
            go_roundw
            case rel => exact ⟨k + 1, A6, c6, by omega, by simp, by go_num, HOWN9.out, HB9.out⟩
            case measure => simp [intOf]; omega
        · have hpa : x.sp.pa ≠ 0 := fun e => by
            have := hth
            rw [e, no_zero HF1.out.gr] at this
            cases this
          have ho : x.orp = false := by rw [HORP.out, hth]; simp
          rw [hth]
          rw [ho] at hx91
          have hpb : (x.sp.pa != 0) = true := by simp [hpa]
          have hdb : ((x.dp : Int) == 0) = false := by simp; omega
          have hkp : 1 ≤ k := by omega
          clear ho hth hpa
          have HK4 := Lib.hid hk4
          have HK2 := Lib.hid hk2
          have HK3 := Lib.hid hk3
          clear hk4 hk2 hk3
          go_wp2_with fail
          go_loopw [10] (fun v wq => ∃ (j m : Nat), v = .int .i64 j ∧ kk ≤ j ∧ j < k ∧ wq = (w6.alloc (.cells #[.int .i64 y.tr, .int .i64 y.id, .int .i64 y.pa, .int .i64 y.st, .int .i64 y.en, .string y.nm] 30)).drewN m ∧ ∀ (i : Nat) (hi : i < k), j < i → x.dp ≤ (bs[i]'(by omega)).dp) (fun v _ => (intOf v).toNat)
          case atStart => exact ⟨k - 1, 0, by go_num, by omega, by omega, rfl, fun i hi h => by omega⟩
          case round =>
            obtain ⟨j, m, rfl, hkj, hjk, rfl, hall⟩ := hrel
            have HALLJ := Lib.hid hall
            clear hall
            have HRB9 : Hid (RdBr (w6.alloc (.cells #[.int .i64 y.tr, .int .i64 y.id, .int .i64 y.pa, .int .i64 y.st, .int .i64 y.en, .string y.nm] 30)) w2.heap.size (some ⟨b1, o1, none⟩) bs.length bs) := Lib.hid (Rd.below' (Rd.of_own HO2.out) HB9.out (Nat.le_refl _) (Nat.le_refl _))
            obtain ⟨b2, o2, eb, _, z0, _, _, z3, _, _, _, _⟩ := HRB9.out.at_ (k := j) (by omega)
            injection eb with eb
            injection eb with eb1 eb2
            subst eb1 eb2
            have hji : (j : Int) < (bs.length : Int) := by omega
            have hj0 : (0 : Int) ≤ (j : Int) := by omega
            by_cases hge : x.dp ≤ (bs[j]'(by omega)).dp
            · have hkj2 : kk < j := by
                rcases Nat.lt_or_ge kk j with h | h
                · exact h
                · have e : j = kk := by omega
                  subst e
                  have := HK2.out
                  omega
              have HNEXT : Hid (∀ (i : Nat) (hi : i < k), j - 1 < i → x.dp ≤ (bs[i]'(by omega)).dp) := Lib.hid (fun i hi h => by
                by_cases hij : i = j
                · subst hij; exact hge
                · exact HALLJ.out i hi (by omega))
              have hgi : (x.dp : Int) ≤ ((bs[j]'(by omega)).dp : Int) := by omega
              clear hge
              generalize (bs[j]'(by omega)) = bj at *
              go_wp2_with fail
              refine wp_region_sched [(0, true), (1, true), (2, true), (3, true), (4, true), (5, true), (6, true), (7, true), (8, true), (9, true), (10, true), (11, true)] (fun W => ∃ m, W = (w6.alloc (.cells #[.int .i64 y.tr, .int .i64 y.id, .int .i64 y.pa, .int .i64 y.st, .int .i64 y.en, .string y.nm] 30)).drewN m) (by kernel_rfl) (by kernel_rfl) rfl (by kernel_rfl) (⟨m + 1, rfl⟩) ?_
              repeat (first | (apply sched_take rfl; (focus (first | rfl | (go_simp; done))); (focus (intro W hW; obtain ⟨m, rfl⟩ := hW; go_simp; rfl)); (focus (intro K hK; go_simp; refine hK _ ?_; clear hK K))) | (apply sched_skip rfl; (focus (first | rfl | (go_simp; done))); (focus (intro K hK; go_simp; refine hK _ ?_; clear hK K))))
              refine sched_nil ?_
              go_wp2_with fail
              go_roundw
              case rel => exact ⟨j - 1, m + 1, by go_num, by omega, by omega, rfl, HNEXT.out⟩
              case measure => simp [intOf] <;> omega
            · obtain rfl : j = kk := by
                rcases Nat.lt_or_ge kk j with h | h
                · exact absurd (HK4.out j hjk h) hge
                · omega
              have hgi : ¬ (x.dp : Int) ≤ ((bs[j]'(by omega)).dp : Int) := by omega
              have hd2 : ((bs[j]'(by omega)).dp : Int) = (x.dp : Int) - 1 := by have := HK2.out; omega
              rw [hd2] at z0 hgi
              rw [HK3.out] at z3
              have hwr : IntKind.i64.wrap ((x.dp : Int) - 1) = (x.dp : Int) - 1 := (IntWalk.i64_left _).trans (IntWalk.wrap64_in _ (by omega))
              clear hge hd2
              go_wp2_with fail
              refine wp_region_sched [(0, true), (1, true), (2, true), (3, true), (4, true), (5, true), (6, true), (7, true), (8, true), (9, true), (10, true), (11, true)] (fun W => ∃ m, W = (w6.alloc (.cells #[.int .i64 y.tr, .int .i64 y.id, .int .i64 y.pa, .int .i64 y.st, .int .i64 y.en, .string y.nm] 30)).drewN m) (by kernel_rfl) (by kernel_rfl) rfl (by kernel_rfl) (⟨m + 1, rfl⟩) ?_
              repeat (first | (apply sched_take rfl; (focus (first | rfl | (go_simp; done))); (focus (intro W hW; obtain ⟨m, rfl⟩ := hW; go_simp; rfl)); (focus (intro K hK; go_simp; refine hK _ ?_; clear hK K))) | (apply sched_skip rfl; (focus (first | rfl | (go_simp; done))); (focus (intro K hK; go_simp; refine hK _ ?_; clear hK K))))
              refine sched_nil ?_
              go_wp2_with fail
              refine wp_region_sched [(0, true), (1, true), (2, true), (3, true), (4, true), (5, true), (6, true), (7, true), (8, true), (9, true), (10, true), (11, true), (12, true), (13, true), (14, true), (15, true), (16, true), (17, true), (18, true), (19, true), (20, true), (21, true), (22, true), (23, true), (24, true)] (fun W => ∃ m, W = (w6.alloc (.cells #[.int .i64 y.tr, .int .i64 y.id, .int .i64 y.pa, .int .i64 y.st, .int .i64 y.en, .string y.nm] 30)).drewN m) (by kernel_rfl) (by kernel_rfl) rfl (by kernel_rfl) (⟨m + 2, rfl⟩) ?_
              repeat (first | (apply sched_take rfl; (focus (first | rfl | (go_simp; done))); (focus (intro W hW; obtain ⟨m, rfl⟩ := hW; go_simp; rfl)); (focus (intro K hK; go_simp; refine hK _ ?_; clear hK K))) | (apply sched_skip rfl; (focus (first | rfl | (go_simp; done))); (focus (intro K hK; go_simp; refine hK _ ?_; clear hK K))))
              refine sched_nil ?_
              go_wp2_with fail
              go_roundw
              case rel => exact ⟨k + 1, A6, c6, by omega, by simp, by go_num, HOWN9.out, below_dN HB9.out _⟩
              case measure => simp [intOf]; omega
      · obtain rfl : k = bs.length := by omega
        have hk1 : ¬ (bs.length : Int) < (bs.length : Int) := by omega
        have HALLO : Hid (wr.ownsRow w2.heap.size 30 6 (.slice A5 bs.length c5) bs.length ((bs.map Br.sp).flatMap Sp.cells)) := Lib.hid (by have := HOWN.out; rw [List.take_of_length_le (Nat.le_refl _)] at this; exact this)
        have HSRT : Hid (sortS (bs.map Br.sp) = sortS L) := Lib.hid (sortS_congr HPM.out)
        have hcall := Sort_any A5 bs.length c5 wr.heap.size (bs.map Br.sp) wr (Nat.le_refl _) (by omega) (Rd.of_own HALLO.out)
        rw [HSRT.out] at hcall
        have HCALL := Lib.hid hcall
        have HFW := Lib.hid (HF2.out.below HB.out (by omega))
        have HBW : Hid (Below w.heap.size w wr) := Lib.hid ((HB1.out.trans (HB2.out.mono hz1)).trans (HB.out.mono (by omega)))
        have HSL : Hid ((sortS L).length ≤ 64) := Lib.hid (by have := sortS_len L; omega)
        clear hcall
        go_wp2_with fail
        refine HCALL.out.mono ?_
        rintro e w3 ⟨A7, c7, rfl, hown7, hb7⟩
        have hz7 := hb7.size
        have HO7 := Lib.hid hown7
        have HF7 := Lib.hid (HFW.out.below hb7 (Nat.le_refl _))
        have HB7 : Hid (Below w.heap.size w w3) := Lib.hid (HBW.out.trans (hb7.mono HBW.out.size))
        clear hown7 hb7
        go_wp2_with fail
        refine (fspans_any HF7.out).mono ?_
        rintro e w4 ⟨A8, c8, rfl, hown8, hb8⟩
        have HO8 := Lib.hid hown8
        have HO7b := Lib.hid (own_fr' HO7.out (Fr.of_below hb8 : Fr (fun _ => False) _ _) (fun _ _ h => h))
        have HF8 := Lib.hid (HF7.out.below hb8 (Nat.le_refl _))
        have HB8 : Hid (Below w.heap.size w w4) := Lib.hid (HB7.out.trans (hb8.mono HB7.out.size))
        clear hown8 hb8
        go_wp2_with fail
        refine (slicesEqual_any _ _ _ _ _ _ _ _ (sortS L) (sortS L) _ (Rd.of_own HO7b.out) (Rd.of_own HO8.out) (by have := HSL.out; omega)).mono ?_
        rintro e w5 ⟨q, rfl, hq, m1, rfl⟩
        obtain rfl : q = true := hq.2 rfl
        clear hq
        go_wp2_with fail
        refine (flen_any (HF8.out.drewN m1)).mono ?_
        rintro e w6 ⟨rfl, rfl⟩
        rw [← HBL.out]
        go_wp2_with fail
        refine (awake4_any _).mono ?_
        rintro e w7 ⟨rfl, hb9⟩
        go_wp2_with fail
        go_ret
        exact ⟨rfl, below_via (below_dN HB8.out m1) hb9 HB8.out.size⟩
end Go.Proofs.Ytnocknhfdegkgaa
