/-
  The walk of the law ForestOrder: the Go text answers true. Condition: the spans are not more than memory bears.
-/
import Derived.Test.YtnocknhfdegkgaaAwake04
import Derived.Test.YtnocknhfdegkgaaGrown04
import Derived.Test.YtnocknhfdegkgaaForest5
import Derived.Test.YtnocknhfdegkgaaForestO
import Derived.Test.YtnocknhfdegkgaaEqB04
import Derived.Test.YtnocknhfdegkgaaPutAt
namespace Go.Proofs.Ytnocknhfdegkgaa
open Go Go.RowKit Go.Maps

theorem cells_len1 (s : Sp) : ∀ u ∈ s.cells, u.oneCell' = true := by have := cells_oneCell [s]; simpa using this
theorem u64_rem (z : Int) {n : Nat} (h0 : 0 < n) : ∃ r : Nat, (IntKind.u64.wrap z).tmod (n : Int) = (r : Int) ∧ r < n := by
  obtain ⟨a, ha⟩ : ∃ a : Nat, IntKind.u64.wrap z = (a : Int) := by
    have h : 0 ≤ IntKind.u64.wrap z := by simp [IntKind.wrap, IntKind.bits, IntKind.signed]; omega
    exact ⟨(IntKind.u64.wrap z).toNat, by omega⟩
  rw [ha]
  exact ⟨a % n, rfl, Nat.mod_lt _ h0⟩
theorem own_at {w : World} {base g n c k : Nat} {e : TypeId} {m : List Sp} (h : w.ownsRow base e 6 (.slice (some ⟨g, 0, none⟩) n c) n (m.flatMap Sp.cells)) (hk : k < m.length) :
    w.cell? ⟨g, k * 6, none⟩ = some (.int .i64 m[k].tr) ∧ w.cell? ⟨g, k * 6 + 1, none⟩ = some (.int .i64 m[k].id) ∧ w.cell? ⟨g, k * 6 + 2, none⟩ = some (.int .i64 m[k].pa) ∧
      w.cell? ⟨g, k * 6 + 3, none⟩ = some (.int .i64 m[k].st) ∧ w.cell? ⟨g, k * 6 + 4, none⟩ = some (.int .i64 m[k].en) ∧ w.cell? ⟨g, k * 6 + 5, none⟩ = some (.string m[k].nm) := by
  obtain ⟨b, off, e, _, x⟩ := RdS.at_ (Rd.of_own h) hk
  injection e with e
  injection e with e1 e2
  subst e1 e2
  simpa using x
theorem swap_perm {l m : List Sp} (h : m.Perm l) {i j : Nat} (hi : i < m.length) (hj : j < m.length) : ((m.set i m[j]).set j m[i]).Perm l := (List.set_set_perm hi hj).trans h

theorem eql_cntO {a a' : Int} (h1 : a = a') (W : World) :
    (binOp .eql 33 (.agg #[.int .i64 a, .int .i64 0, .int .i64 0, .int .i64 0, .int .i64 0]) (.agg #[.int .i64 a', .int .i64 0, .int .i64 0, .int .i64 0, .int .i64 0])).run Try.prog W = .ok (.bool true) W := by
  subst h1
  go_simp

set_option maxRecDepth 100000 in
set_option maxHeartbeats 4000000 in
theorem forestOrder_any (A : Option Addr) (n cap B : Nat) (l : List Sp) (A1 : Option Addr) (n1 cap1 : Nat) (zs : List Int) (w : World) (hB : B ≤ w.heap.size) (hbig : n ≤ 140737488355328) (hr : RdS w B A n l) (hr1 : RdI w B A1 n1 zs) :
    Calls Try.prog 4 #[.slice A n cap, .slice A1 n1 cap1] w fun e w' => e = .returned (.bool true) ∧ Below w.heap.size w w' := by
  have hlen := hr.len
  subst hlen
  have hlen := hr1.len
  subst hlen
  have HR := Lib.hid hr
  have HI := Lib.hid hr1
  clear hr hr1
  cases hl : lightB l
  · have HL := Lib.hid hl
    clear hl
    go_enter Try.func4, Try.ntmps4
    go_wp2_with fail
    refine (light_any _ _ _ _ l _ (by omega) HR.out).mono ?_
    rintro e w1 ⟨rfl, rfl⟩
    rw [HL.out]
    go_wp2_with fail
    refine (awake4_any _).mono ?_
    rintro e w2 ⟨rfl, hb2⟩
    go_wp2_with fail
    go_ret
    exact ⟨rfl, hb2⟩
  · have HL := Lib.hid hl
    have hlp := light_parts hl
    have hl200 := hlp.1
    have HNM : Hid (∀ s ∈ l, s.nm.size ≤ 140737488355328) := Lib.hid fun s hs => by have := hlp.2 s hs; omega
    clear hl hlp
    by_cases hz : zs.length ≤ 1000
    · go_enter Try.func4, Try.ntmps4
      go_wp2_with fail
      refine (light_any _ _ _ _ l _ (by omega) HR.out).mono ?_
      rintro e w1 ⟨rfl, rfl⟩
      rw [HL.out]
      go_wp2_with fail
      refine (grown_any _ _ _ B l _ hB (by omega) HNM.out HR.out).mono ?_
      rintro e w1 ⟨p, a, d, rfl, hf1, hb1⟩
      have hz1 := hb1.size
      have hL64 := hf1.gr.len
      have HF1 := Lib.hid hf1
      have HB1 := Lib.hid hb1
      have HFIT : Hid (∀ s ∈ growL l, s.nm.size ≤ 140737488355328) := Lib.hid (fun s hs => by have := ok_bounds (fits_ok (hf1.gr.fits s hs)).1; omega)
      clear hf1 hb1
      generalize growL l = L at *
      go_wp2_with fail
      refine (fspans_any HF1.out).mono ?_
      rintro e w2 ⟨A2, c2, rfl, hown2, hb2⟩
      rw [sortS_len] at hown2 ⊢
      have HO0 := Lib.hid hown2
      have HB0 := Lib.hid hb2
      have HP0 : Hid ((sortS L).Perm L) := Lib.hid (sortS_perm L)
      clear hown2 hb2
      go_wp2_with fail
      go_loopw [30] (fun i wr => ∃ (k : Nat) (m : List Sp), k ≤ zs.length ∧ i = .int .i64 k ∧ m.Perm L ∧ wr.ownsRow w1.heap.size 30 6 (.slice A2 L.length c2) L.length (m.flatMap Sp.cells) ∧ Below w1.heap.size w1 wr) (fun i _ => zs.length - (intOf i).toNat)
      case atStart => exact ⟨0, sortS L, by omega, rfl, HP0.out, HO0.out, HB0.out⟩
      case round =>
        obtain ⟨k, m, hk, rfl, hp, hown, hb⟩ := hrel
        have hszr := hb.size
        have HP := Lib.hid hp
        have hml : m.length = L.length := hp.length_eq
        have HML := Lib.hid hml
        clear hp hml
        by_cases hlt : k < zs.length
        · obtain ⟨b, off, rfl, hbB, x0⟩ := RdI.at_ (Rd.below' HI.out (HB1.out.trans (hb.mono hz1)) hB (Nat.le_refl _)) hlt
          have hk1 : (k : Int) < (zs.length : Int) := by omega
          generalize zs[k] = z at *
          by_cases h0 : L.length = 0
          · have hl0 : ¬ (0 : Int) < (L.length : Int) := by omega
            have HO2 := Lib.hid hown
            clear hown
            go_wp2_with fail
            go_roundw
            case rel => exact ⟨k + 1, m, by omega, by go_num, HP.out, HO2.out, hb⟩
            case measure => simp [intOf]; omega
          · obtain ⟨g, rfl, hg1, hg2⟩ := own_form hown (by omega)
            have HO2 := Lib.hid hown
            have hl0 : (0 : Int) < (L.length : Int) := by omega
            have hl1 : ¬ (L.length : Int) = 0 := by omega
            clear hown
            obtain ⟨r, hr, hrl⟩ := u64_rem z (show 0 < L.length by omega)
            have hw1 : IntKind.u64.wrap (L.length : Int) = L.length := by simp [IntKind.wrap, IntKind.bits, IntKind.signed]; omega
            have hw2 : wrap64 (r : Int) = r := IntWalk.wrap64_in _ (by omega)
            have hw3 : IntKind.i64.wrap (r : Int) = r := (IntWalk.i64_left _).trans hw2
            obtain ⟨q, hq⟩ : ∃ q, q = k % L.length := ⟨_, rfl⟩
            have hq1 : (k : Int).tmod (L.length : Int) = (q : Int) := by rw [hq]; rfl
            have hql : q < L.length := by rw [hq]; exact Nat.mod_lt _ (by omega)
            have HQ := Lib.hid hq
            clear hq
            go_wp2_with fail
            refine wp_region_sched [(0, true), (1, true), (2, true), (3, true), (4, true), (5, true), (6, true), (7, true), (8, true), (9, true), (10, true), (11, true), (12, true)] (fun W => ∃ m, W = wr.drewN m) (by kernel_rfl) (by kernel_rfl) rfl (by kernel_rfl) (⟨1, rfl⟩) ?_
            repeat (first | (apply sched_take rfl; (focus (first | rfl | (go_simp; done))); (focus (intro W hW; obtain ⟨m, rfl⟩ := hW; go_simp; rfl)); (focus (intro K hK; go_simp; refine hK _ ?_; clear hK K))) | (apply sched_skip rfl; (focus (first | rfl | (go_simp; done))); (focus (intro K hK; go_simp; refine hK _ ?_; clear hK K))))
            refine sched_nil ?_
            obtain ⟨x0, x1, x2, x3, x4, x5⟩ := own_at HO2.out (k := q) (by rw [HML.out]; exact hql)
            obtain ⟨y0, y1, y2, y3, y4, y5⟩ := own_at HO2.out (k := r) (by rw [HML.out]; exact hrl)
            have HP2 := Lib.hid (swap_perm HP.out (i := q) (j := r) (by rw [HML.out]; exact hql) (by rw [HML.out]; exact hrl))
            have hqi : (q : Int) < (L.length : Int) := Int.ofNat_lt.2 hql
            have hri : (r : Int) < (L.length : Int) := Int.ofNat_lt.2 hrl
            have HQL : Hid (q < m.length) := Lib.hid (by rw [HML.out]; exact hql)
            have HRL : Hid (r < m.length) := Lib.hid (by rw [HML.out]; exact hrl)
            generalize m[q]'HQL.out = x at *
            generalize m[r]'HRL.out = y at *
            have HOD : Hid (wr.drew.ownsRow w1.heap.size 30 6 (.slice (some ⟨g, 0, none⟩) L.length c2) L.length (m.flatMap Sp.cells)) := Lib.hid HO2.out
            have hgn : g ≠ wr.heap.size := Nat.ne_of_lt hg2
            have hbD := hb.drew
            have HXX := Lib.hid (blk_cell (heap_alloc_new wr.drew (.cells #[.int .i64 x.tr, .int .i64 x.id, .int .i64 x.pa, .int .i64 x.st, .int .i64 x.en, .string x.nm] 30)))
            go_wp2_with (first | (refine wpList_store_elem _ rfl (.tmp 59) (.tmp 58) 30 rfl w1.heap.size g L.length c2 6 q 30 Sp.cells Sp.cells_len m y _ HQL.out (cells_len1 _) (Try.sizeOf30 _) rfl rfl rfl (HOD.out.alloc _) ?_; intro w5 hown5 hg5 hs5; have hX5 := fun j => (grown_cell hg5 (p := ⟨wr.heap.size, j, none⟩) (by simp) (by simpa using hgn.symm)).trans (HXX.out j); have hb5 := (hbD.alloc hszr (.cells #[.int .i64 x.tr, .int .i64 x.id, .int .i64 x.pa, .int .i64 x.st, .int .i64 x.en, .string x.nm] 30)).grown hg5 (by simp <;> omega) (fun k hk => by cases hk; exact hg1)) | (refine wpList_store_elem _ rfl (.tmp 63) (.tmp 62) 30 rfl w1.heap.size g L.length c2 6 r 30 Sp.cells Sp.cells_len (m.set q y) x _ (by rw [List.length_set]; exact HRL.out) (cells_len1 _) (Try.sizeOf30 _) rfl rfl rfl hown5 ?_; intro w6 hown6 hg6 hs6))
            go_roundw
            case rel =>
              clear hw1 hw2 hw3 hr hq1
              refine ⟨k + 1, (m.set q y).set r x, by omega, by go_num, HP2.out, hown6, hb5.grown hg6 hb5.size (fun k hk => by cases hk; exact hg1)⟩
            case measure => clear hw1 hw2 hw3 hr hq1; simp [intOf]; omega
        · have HO2 := Lib.hid hown
          have HB2 := Lib.hid hb
          have hk1 : ¬ (k : Int) < (zs.length : Int) := by omega
          have HAO := Lib.hid (add_order HF1.out.gr HP.out)
          have HBO := Lib.hid (branches_order HF1.out.gr.nodup HP.out)
          have HNM2 : Hid (∀ s ∈ m, s.nm.size ≤ 140737488355328) := Lib.hid (fun s hs => HFIT.out s (HP.out.mem_iff.1 hs))
          have HFW := Lib.hid (HF1.out.below hb (Nat.le_refl _))
          have HBL : Hid ((branches L).length ≤ 140737488355328) := Lib.hid (branches_len HF1.out.gr)
          clear hown hb
          go_wp2_with fail
          refine (new_any 1 wr ⟨by omega, by omega⟩).mono ?_
          rintro e w3 ⟨p2, a2, d2, rfl, hg3, hb3⟩
          have hz3 := hb3.size
          have HG3 := Lib.hid hg3
          have HF3 := Lib.hid (HFW.out.below hb3 (Nat.le_refl _))
          have hrd : RdS w3 wr.heap.size A2 L.length m := Rd.below' (Rd.of_own HO2.out) hb3 (Nat.le_refl _) (Nat.le_refl _)
          have HB3 : Hid (Below w.heap.size w w3) := Lib.hid (HB1.out.trans ((HB2.out.mono hz1).trans (hb3.mono (by omega))))
          have hadd := add_any HG3.out A2 L.length c2 wr.heap.size m (by omega) (by omega) HNM2.out hrd (fun j hj hs => by
            have := (HO2.out.lt j (by rw [← hj]; cases A2 <;> rfl)).2
            omega)
          rw [HAO.out, HML.out] at hadd
          have HADD := Lib.hid hadd
          clear hg3 hb3 hrd hadd
          go_wp2_with fail
          refine HADD.out.mono ?_
          rintro e w4 ⟨rfl, hg4, hfr4⟩
          dsimp only at hg4 ⊢
          have hz4 := hfr4.size
          have HG4 := Lib.hid (hg4.below ((Below.refl _ _).alloc (Nat.le_refl _) (.cells #[.int .i64 L.length, .int .i64 0, .int .i64 0, .int .i64 0, .int .i64 0] 33)) (Nat.le_refl _))
          have HF4 := Lib.hid ((HF3.out.fr hfr4 (fun k hk hs => by omega)).below ((Below.refl _ _).alloc (Nat.le_refl _) (.cells #[.int .i64 L.length, .int .i64 0, .int .i64 0, .int .i64 0, .int .i64 0] 33)) (Nat.le_refl _))
          have HB4 : Hid (Below w.heap.size w (w4.alloc (.cells #[.int .i64 L.length, .int .i64 0, .int .i64 0, .int .i64 0, .int .i64 0] 33))) := Lib.hid ((HB3.out.trans (hfr4.below HB3.out.size (fun k hk => by omega))).alloc (by have := HB3.out.size; omega) _)
          have heq := eql_cntO (rfl : (L.length : Int) = L.length)
          clear hg4 hfr4
          go_wp2_with fail
          refine (branches_any HF4.out).mono ?_
          rintro e w5 ⟨A5, c5, rfl, hown5, hb5⟩
          have hz5 := hb5.size
          simp at hz5
          have HR5 : Hid (RdBr w5 w5.heap.size A5 (branches L).length (branches L)) := Lib.hid (Rd.of_own hown5)
          have HG5 := Lib.hid (HG4.out.below hb5 (Nat.le_refl _))
          have HB5 : Hid (Below w.heap.size w w5) := Lib.hid (HB4.out.trans (hb5.mono HB4.out.size))
          clear hown5 hb5
          go_wp2_with fail
          refine (branches_any HG5.out).mono ?_
          rw [HBO.out]
          rintro e w6 ⟨A6, c6, rfl, hown6, hb6⟩
          have HR6 : Hid (RdBr w6 w6.heap.size A6 (branches L).length (branches L)) := Lib.hid (Rd.of_own hown6)
          have HR5b : Hid (RdBr w6 w5.heap.size A5 (branches L).length (branches L)) := Lib.hid (Rd.below' HR5.out hb6 (Nat.le_refl _) (Nat.le_refl _))
          have HB6 : Hid (Below w.heap.size w w6) := Lib.hid (HB5.out.trans (hb6.mono HB5.out.size))
          clear hown6 hb6
          generalize branches L = bs at *
          go_wp2_with fail
          refine (eqB_any _ _ _ _ _ _ _ _ bs bs _ HR5b.out HR6.out HBL.out).mono ?_
          rintro e w7 ⟨q, rfl, hq, m1, rfl⟩
          obtain rfl : q = true := hq.2 rfl
          clear hq
          go_wp2_with fail
          refine (awake4_any _).mono ?_
          rintro e w8 ⟨rfl, hb8⟩
          go_wp2_with fail
          go_ret
          exact ⟨rfl, below_via (below_dN HB6.out m1) hb8 HB6.out.size⟩
    · go_enter Try.func4, Try.ntmps4
      have hz1 : (1000 : Int) < (zs.length : Int) := by omega
      go_wp2_with fail
      refine (light_any _ _ _ _ l _ (by omega) HR.out).mono ?_
      rintro e w1 ⟨rfl, rfl⟩
      rw [HL.out]
      go_wp2_with fail
      refine (awake4_any _).mono ?_
      rintro e w2 ⟨rfl, hb2⟩
      go_wp2_with fail
      go_ret
      exact ⟨rfl, hb2⟩
end Go.Proofs.Ytnocknhfdegkgaa
