/-
  The walk of the law SpanSame: the Go text answers true. Condition: the spans are not more than memory bears.
-/
import Derived.Test.YtgdhbklgcmcdeaaStd
import Derived.Test.YtgdhbklgcmcdeaaSort
import Derived.Test.YtgdhbklgcmcdeaaRefSort
import Derived.Test.YtgdhbklgcmcdeaaInts
import Derived.Test.YtgdhbklgcmcdeaaPutAt
import Derived.Test.YtgdhbklgcmcdeaaLight03
namespace Go.Proofs.Ytgdhbklgcmcdeaa
open Go.RowKit

theorem cells_len1 (s : Sp) : ∀ u ∈ s.cells, u.oneCell' = true := by have := cells_oneCell [s]; simpa using this
theorem u64_rem (z : Int) {n : Nat} (h0 : 0 < n) : ∃ r : Nat, (IntKind.u64.wrap z).tmod (n : Int) = (r : Int) ∧ r < n := by
  obtain ⟨a, ha⟩ : ∃ a : Nat, IntKind.u64.wrap z = (a : Int) := by
    have h : 0 ≤ IntKind.u64.wrap z := by simp [IntKind.wrap, IntKind.bits, IntKind.signed]; omega
    exact ⟨(IntKind.u64.wrap z).toNat, by omega⟩
  rw [ha]
  exact ⟨a % n, rfl, Nat.mod_lt _ h0⟩
theorem own_at {w : World} {base g n c k : Nat} {e : TypeId} {m : List Sp} (h : w.ownsRow base e 6 (.slice (some ⟨g, 0, none⟩) n c) n (m.flatMap Sp.cells)) (hk : k < m.length) :
    w.cell? ⟨g, k * 6, none⟩ = some (.int .i64 m[k].tr) ∧ w.cell? ⟨g, k * 6 + 1, none⟩ = some (.int .i64 m[k].id) ∧ w.cell? ⟨g, k * 6 + 2, none⟩ = some (.int .i64 m[k].pa) ∧
      w.cell? ⟨g, k * 6 + 3, none⟩ = some (.int .i64 m[k].st) ∧ w.cell? ⟨g, k * 6 + 4, none⟩ = some (.int .i64 m[k].en) ∧ w.cell? ⟨g, k * 6 + 5, none⟩ = some (.string m[k].nm) := by
  obtain ⟨b, off, e, _, x⟩ := RdS.at_ (Rd.of_own h) hk
  injection e with e
  injection e with e1 e2
  subst e1 e2
  simpa using x
theorem swap_perm {l m : List Sp} (h : m.Perm l) {i j : Nat} (hi : i < m.length) (hj : j < m.length) : ((m.set i m[j]).set j m[i]).Perm l := (List.set_set_perm hi hj).trans h

set_option maxRecDepth 100000 in
set_option maxHeartbeats 4000000 in
theorem spanSame_any (A : Option Addr) (n cap B : Nat) (l : List Sp) (A1 : Option Addr) (n1 cap1 : Nat) (zs : List Int) (w : World) (hB : B ≤ w.heap.size) (hbig : n * 56 ≤ 140737488351232) (hr : RdS w B A n l) (hr1 : RdI w B A1 n1 zs) :
    Calls Try.prog 9 #[.slice A n cap, .slice A1 n1 cap1] w fun e w' => e = .returned (.bool true) ∧ Below w.heap.size w w' := by
  have hlen := hr.len
  subst hlen
  have hlen := hr1.len
  subst hlen
  have HR := Lib.hid hr
  have HI := Lib.hid hr1
  clear hr hr1
  cases hl : lightB l
  · have HL := Lib.hid hl
    clear hl
    go_enter Try.func9, Try.ntmps9
    go_wp2_with fail
    refine (light_any _ _ _ _ l _ (by omega) HR.out).mono ?_
    rintro e w1 ⟨rfl, rfl⟩
    rw [HL.out]
    go_wp2_with fail
    refine (awake_any _).mono ?_
    rintro e w2 ⟨rfl, hb2⟩
    go_wp2_with fail
    go_ret
    exact ⟨rfl, hb2⟩
  · have HL := Lib.hid hl
    have hl200 := (light_parts hl).1
    clear hl
    by_cases hz : zs.length ≤ 1000
    · go_enter Try.func9, Try.ntmps9
      go_wp2_with fail
      refine (light_any _ _ _ _ l _ (by omega) HR.out).mono ?_
      rintro e w1 ⟨rfl, rfl⟩
      rw [HL.out]
      go_wp2_with fail
      refine (cloneSpans_any _ _ _ B l _ hB (by omega) HR.out).mono ?_
      rintro e w1 ⟨A2, c2, rfl, hown, hb1⟩
      have hz1 := hb1.size
      have HO := Lib.hid hown
      have HB1 := Lib.hid hb1
      clear hown hb1
      go_wp2_with fail
      go_loopw [25] (fun i wr => ∃ (k : Nat) (m : List Sp), k ≤ zs.length ∧ i = .int .i64 k ∧ m.Perm l ∧ wr.ownsRow w.heap.size 23 6 (.slice A2 l.length c2) l.length (m.flatMap Sp.cells) ∧ Below w.heap.size w wr) (fun i _ => zs.length - (intOf i).toNat)
      case atStart => exact ⟨0, l, by omega, rfl, List.Perm.refl _, HO.out, HB1.out⟩
      case round =>
        obtain ⟨k, m, hk, rfl, hp, hown, hb⟩ := hrel
        have hszr := hb.size
        have HP := Lib.hid hp
        have hml : m.length = l.length := hp.length_eq
        have HML := Lib.hid hml
        clear hp hml
        by_cases hlt : k < zs.length
        · obtain ⟨b, off, rfl, hbB, x0⟩ := RdI.at_ (Rd.below' HI.out hb hB (Nat.le_refl _)) hlt
          have hk1 : (k : Int) < (zs.length : Int) := by omega
          generalize zs[k] = z at *
          by_cases h0 : l.length = 0
          · have hl0 : ¬ (0 : Int) < (l.length : Int) := by omega
            have HO2 := Lib.hid hown
            clear hown
            go_wp2_with fail
            go_roundw
            case rel => exact ⟨k + 1, m, by omega, by go_num, HP.out, HO2.out, hb⟩
            case measure => simp [intOf]; omega
          · obtain ⟨g, rfl, hg1, hg2⟩ := own_form hown (by omega)
            have HO2 := Lib.hid hown
            have hl0 : (0 : Int) < (l.length : Int) := by omega
            have hl1 : ¬ (l.length : Int) = 0 := by omega
            clear hown
            obtain ⟨r, hr, hrl⟩ := u64_rem z (show 0 < l.length by omega)
            have hw1 : IntKind.u64.wrap (l.length : Int) = l.length := by simp [IntKind.wrap, IntKind.bits, IntKind.signed]; omega
            have hw2 : wrap64 (r : Int) = r := IntWalk.wrap64_in _ (by omega)
            have hw3 : IntKind.i64.wrap (r : Int) = r := (IntWalk.i64_left _).trans hw2
            obtain ⟨q, hq⟩ : ∃ q, q = k % l.length := ⟨_, rfl⟩
            have hq1 : (k : Int).tmod (l.length : Int) = (q : Int) := by rw [hq]; rfl
            have hql : q < l.length := by rw [hq]; exact Nat.mod_lt _ (by omega)
            have HQ := Lib.hid hq
            clear hq
            go_wp2_with fail
            refine wp_region_sched [(0, true), (1, true), (2, true), (3, true), (4, true), (5, true), (6, true), (7, true), (8, true), (9, true), (10, true), (11, true), (12, true)] (fun W => ∃ m, W = wr.drewN m) (by kernel_rfl) (by kernel_rfl) rfl (by kernel_rfl) (⟨1, rfl⟩) ?_
            repeat (first | (apply sched_take rfl; (focus (first | rfl | (go_simp; done))); (focus (intro W hW; obtain ⟨m, rfl⟩ := hW; go_simp; rfl)); (focus (intro K hK; go_simp; refine hK _ ?_; clear hK K))) | (apply sched_skip rfl; (focus (first | rfl | (go_simp; done))); (focus (intro K hK; go_simp; refine hK _ ?_; clear hK K))))
            refine sched_nil ?_
            obtain ⟨x0, x1, x2, x3, x4, x5⟩ := own_at HO2.out (k := q) (by rw [HML.out]; exact hql)
            obtain ⟨y0, y1, y2, y3, y4, y5⟩ := own_at HO2.out (k := r) (by rw [HML.out]; exact hrl)
            have HP2 := Lib.hid (swap_perm HP.out (i := q) (j := r) (by rw [HML.out]; exact hql) (by rw [HML.out]; exact hrl))
            have hqi : (q : Int) < (l.length : Int) := Int.ofNat_lt.2 hql
            have hri : (r : Int) < (l.length : Int) := Int.ofNat_lt.2 hrl
            have HQL : Hid (q < m.length) := Lib.hid (by rw [HML.out]; exact hql)
            have HRL : Hid (r < m.length) := Lib.hid (by rw [HML.out]; exact hrl)
            generalize m[q]'HQL.out = x at *
            generalize m[r]'HRL.out = y at *
            have HOD : Hid (wr.drew.ownsRow w.heap.size 23 6 (.slice (some ⟨g, 0, none⟩) l.length c2) l.length (m.flatMap Sp.cells)) := Lib.hid HO2.out
            have hgn : g ≠ wr.heap.size := Nat.ne_of_lt hg2
            have hbD := hb.drew
            have HXX := Lib.hid (blk_cell (heap_alloc_new wr.drew (.cells #[.int .i64 x.tr, .int .i64 x.id, .int .i64 x.pa, .int .i64 x.st, .int .i64 x.en, .string x.nm] 23)))
            go_wp2_with (first | (refine wpList_store_elem _ rfl (.tmp 54) (.tmp 53) 23 rfl w.heap.size g l.length c2 6 q 23 Sp.cells Sp.cells_len m y _ HQL.out (cells_len1 _) (Try.sizeOf23 _) rfl rfl rfl (HOD.out.alloc _) ?_; intro w5 hown5 hg5 hs5; have hX5 := fun j => (grown_cell hg5 (p := ⟨wr.heap.size, j, none⟩) (by simp) (by simpa using hgn.symm)).trans (HXX.out j); have hb5 := (hbD.alloc hszr (.cells #[.int .i64 x.tr, .int .i64 x.id, .int .i64 x.pa, .int .i64 x.st, .int .i64 x.en, .string x.nm] 23)).grown hg5 (by simp <;> omega) (fun k hk => by cases hk; exact hg1)) | (refine wpList_store_elem _ rfl (.tmp 58) (.tmp 57) 23 rfl w.heap.size g l.length c2 6 r 23 Sp.cells Sp.cells_len (m.set q y) x _ (by rw [List.length_set]; exact HRL.out) (cells_len1 _) (Try.sizeOf23 _) rfl rfl rfl hown5 ?_; intro w6 hown6 hg6 hs6))
            go_roundw
            case rel =>
              clear hw1 hw2 hw3 hr hq1
              refine ⟨k + 1, (m.set q y).set r x, by omega, by go_num, HP2.out, hown6, hb5.grown hg6 hb5.size (fun k hk => by cases hk; exact hg1)⟩
            case measure => clear hw1 hw2 hw3 hr hq1; simp [intOf]; omega
        · have HO2 := Lib.hid hown
          have HB2 := Lib.hid hb
          have HR2 : Hid (RdS wr B A l.length l) := Lib.hid (Rd.below' HR.out hb hB (Nat.le_refl _))
          have hk1 : ¬ (k : Int) < (zs.length : Int) := by omega
          have HSS := Lib.hid (sortS_congr HP.out)
          clear hown hb
          go_wp2_with fail
          refine (Sort_any _ _ _ B l _ (by omega) (by omega) HR2.out).mono ?_
          rintro e w3 ⟨A3, c3, rfl, hown3, hb3⟩
          have hz3 := hb3.size
          have HX := Lib.hid (Rd.of_own hown3)
          have HM : Hid (RdS w3 wr.heap.size A2 l.length m) := Lib.hid (Rd.below' (Rd.of_own HO2.out) hb3 (Nat.le_refl _) (Nat.le_refl _))
          have hls := sortS_len l
          have HLS := Lib.hid hls
          have HB3 : Hid (Below w.heap.size w w3) := Lib.hid (below_via HB2.out hb3 hszr)
          clear hown3 hb3 hls
          rw [HLS.out] at HX
          rw [HLS.out]
          go_wp2_with fail
          refine (Sort_any _ _ _ wr.heap.size m _ hz3 (by omega) HM.out).mono ?_
          rintro e w4 ⟨A4, c4, rfl, hown4, hb4⟩
          have hz4 := hb4.size
          have HY : Hid (RdS w4 w4.heap.size A4 l.length (sortS l)) := Lib.hid (by
            have := Rd.of_own hown4
            rw [HSS.out, HLS.out] at this
            exact this)
          have hml : (sortS m).length = l.length := by rw [HSS.out, HLS.out]
          have HX4 : Hid (RdS w4 w3.heap.size A3 l.length (sortS l)) := Lib.hid (Rd.below' HX.out hb4 (Nat.le_refl _) (Nat.le_refl _))
          have HB4 : Hid (Below w.heap.size w w4) := Lib.hid (below_via HB3.out hb4 (by omega))
          clear hown4 hb4
          rw [hml]
          clear hml
          go_wp2_with fail
          refine (slicesEqual_any _ _ _ _ _ _ _ _ (sortS l) (sortS l) _ HX4.out HY.out (by omega)).mono ?_
          rintro e w5 ⟨q, rfl, hq, m1, rfl⟩
          obtain rfl : q = true := hq.2 rfl
          clear hq
          go_wp2_with fail
          have HX5 : Hid (RdS (w4.drewN m1) w3.heap.size A3 l.length (sortS l)) := Lib.hid (Rd.drewN HX4.out m1)
          have hz5 : w3.heap.size ≤ (w4.drewN m1).heap.size := hz4
          refine (Sort_any _ _ _ w3.heap.size (sortS l) _ hz5 (by omega) HX5.out).mono ?_
          rw [sortS_idem]
          rintro e w6 ⟨A6, c6, rfl, hown6, hb6⟩
          rw [HLS.out] at hown6 ⊢
          have HZ := Lib.hid (Rd.of_own hown6)
          have HX6 : Hid (RdS w6 w3.heap.size A3 l.length (sortS l)) := Lib.hid (Rd.below' HX5.out hb6 hz5 (Nat.le_refl _))
          have HB6 : Hid (Below w.heap.size w w6) := Lib.hid (below_via (below_dN HB4.out m1) hb6 (by have := HB4.out.size; exact this))
          clear hown6 hb6
          go_wp2_with fail
          refine (slicesEqual_any _ _ _ _ _ _ _ _ (sortS l) (sortS l) _ HX6.out HZ.out (by omega)).mono ?_
          rintro e w7 ⟨q, rfl, hq, m2, rfl⟩
          obtain rfl : q = true := hq.2 rfl
          clear hq
          go_wp2_with fail
          refine (awake_any _).mono ?_
          rintro e w8 ⟨rfl, hb8⟩
          go_wp2_with fail
          go_ret
          exact ⟨rfl, below_via (below_dN HB6.out m2) hb8 (by have := HB6.out.size; simpa using this)⟩
    · go_enter Try.func9, Try.ntmps9
      have hz1 : (1000 : Int) < (zs.length : Int) := by omega
      go_wp2_with fail
      refine (light_any _ _ _ _ l _ (by omega) HR.out).mono ?_
      rintro e w1 ⟨rfl, rfl⟩
      rw [HL.out]
      go_wp2_with fail
      refine (awake_any _).mono ?_
      rintro e w2 ⟨rfl, hb2⟩
      go_wp2_with fail
      go_ret
      exact ⟨rfl, hb2⟩
end Go.Proofs.Ytgdhbklgcmcdeaa
