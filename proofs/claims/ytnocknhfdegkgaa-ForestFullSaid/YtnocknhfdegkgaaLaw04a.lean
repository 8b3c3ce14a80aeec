/-
  The walk of the law ForestFull: the Go text answers true. Condition: the spans are not more than memory bears.
-/
import Derived.Test.YtnocknhfdegkgaaAwake04
import Derived.Test.YtnocknhfdegkgaaGrown04
namespace Go.Proofs.Ytnocknhfdegkgaa
open Go Go.RowKit Go.Maps

def wideL (r : Nat) : List Sp := (List.range r).map fun i : Nat => ofS (1000 + (i : Int)) 0
theorem wide_snoc (r : Nat) : wideL (r + 1) = wideL r ++ [ofS (1000 + r) 0] := by simp [wideL, List.range_succ]
theorem of_ok {i : Nat} (h : i < 100) : fits 1 (ofS (1000 + (i : Int)) 0) = true := by
  have hb : allBytes 33 126 [97] = true := by decide
  simp only [fits, ofS, Sp.ok, allIn, List.all_cons, List.all_nil]
  have e1 : inB 1 1099511627776 (1 : Int) = true := by decide
  have e2 : inB 1 1099511627776 (1000 + (i : Int)) = true := inB_t (by omega) (by omega)
  have e3 : inB 0 1099511627776 (0 : Int) = true := by decide
  have e4 : decide ((0 : Int) ≠ 1000 + (i : Int)) = true := decide_eq_true (by omega)
  rw [e1, e2, e3]
  show (decide (1 ≤ 1) && decide (1 ≤ 32) && allBytes 33 126 [97] && (true && (true && true)) && (true && (true && (true && true))) && decide ((0 : Int) ≠ 1000 + (i : Int)) && decide ((0 : Int) ≤ 0) && decide ((1 : Int) = 1)) = true
  rw [e4]
  rfl
theorem wide_ok {r : Nat} (h : r ≤ 100) : (wideL r).all (fits 1) = true := by
  refine List.all_eq_true.2 fun s hs => ?_
  obtain ⟨i, hi, rfl⟩ := List.mem_map.1 hs
  exact of_ok (by have := List.mem_range.1 hi; omega)
theorem addL_len (st : List Sp × Cnt) (l : List Sp) : (addL st l).1.length + st.2.ad = st.1.length + (addL st l).2.ad := by
  induction l generalizing st with
  | nil => show st.1.length + st.2.ad = st.1.length + st.2.ad; rfl
  | cons s l ih =>
    have h := ih (addS st s)
    have h2 : (addS st s).1.length + st.2.ad = st.1.length + (addS st s).2.ad := by
      unfold addS
      split
      · split <;> rfl
      · split
        · rfl
        · split
          · rfl
          · simp only [List.length_append, List.length_cons, List.length_nil]; omega
    show (addL (addS st s) l).1.length + _ = _ + (addL (addS st s) l).2.ad
    omega
theorem addL_full (st : List Sp × Cnt) (l : List Sp) (h : st.2.fu = 0 ∨ 64 ≤ st.1.length) : (addL st l).2.fu = 0 ∨ 64 ≤ (addL st l).1.length := by
  induction l generalizing st with
  | nil => exact h
  | cons s l ih =>
    refine ih (addS st s) ?_
    unfold addS
    split
    · split <;> exact h
    · split
      · rename_i h64; exact .inr h64
      · split
        · exact h
        · rename_i h64 _
          rcases h with h | h
          · exact .inl h
          · exact absurd h h64
theorem u64_100 (z : Int) : ∃ r : Nat, (IntKind.u64.wrap z).tmod 100 = (r : Int) ∧ r < 100 := by
  obtain ⟨a, ha⟩ : ∃ a : Nat, IntKind.u64.wrap z = (a : Int) := by
    have h : 0 ≤ IntKind.u64.wrap z := by simp [IntKind.wrap, IntKind.bits, IntKind.signed]; omega
    exact ⟨(IntKind.u64.wrap z).toNat, by omega⟩
  rw [ha]
  exact ⟨a % 100, rfl, Nat.mod_lt _ (by omega)⟩

set_option maxRecDepth 100000 in
set_option maxHeartbeats 4000000 in
theorem forestFull_any (A : Option Addr) (n cap B : Nat) (l : List Sp) (z : Int) (w : World) (hB : B ≤ w.heap.size) (hbig : n ≤ 140737488355328) (hr : RdS w B A n l) :
    Calls Try.prog 3 #[.slice A n cap, .int .i64 z] w fun e w' => e = .returned (.bool true) ∧ Below w.heap.size w w' := by
  obtain ⟨i0, hi0, gz0, gz1, gz2⟩ := info_parts Try.infoSpan
  have hlen := hr.len
  subst hlen
  have HR := Lib.hid hr
  clear hr
  cases hl : lightB l
  · have HL := Lib.hid hl
    clear hl
    go_enter Try.func3, Try.ntmps3
    go_wp2_with fail
    refine (light_any _ _ _ _ l _ (by omega) HR.out).mono ?_
    rintro e w1 ⟨rfl, rfl⟩
    rw [HL.out]
    go_wp2_with fail
    refine (awake4_any _).mono ?_
    rintro e w2 ⟨rfl, hb2⟩
    go_wp2_with fail
    go_ret
    exact ⟨rfl, hb2⟩
  · have HL := Lib.hid hl
    have hlp := light_parts hl
    have hl200 := hlp.1
    have HNM : Hid (∀ s ∈ l, s.nm.size ≤ 140737488355328) := Lib.hid fun s hs => by have := hlp.2 s hs; omega
    clear hl hlp
    obtain ⟨r, hrz, hr100⟩ := u64_100 z
    have hw1 : IntKind.i64.wrap (r : Int) = r := (IntWalk.i64_left _).trans (IntWalk.wrap64_in _ (by omega))
    have hw2 : wrap64 (r : Int) = r := IntWalk.wrap64_in _ (by omega)
    go_enter Try.func3, Try.ntmps3
    go_wp2_with fail
    refine (light_any _ _ _ _ l _ (by omega) HR.out).mono ?_
    rintro e w1 ⟨rfl, rfl⟩
    rw [HL.out]
    go_wp2_with fail
    refine (grown_any _ _ _ B l _ hB (by omega) HNM.out HR.out).mono ?_
    rintro e w1 ⟨p, a, d, rfl, hf1, hb1⟩
    have hz1 := hb1.size
    have hL64 := hf1.gr.len
    have HF1 := Lib.hid hf1
    have HB1 := Lib.hid hb1
    clear hf1 hb1
    generalize growL l = L at *
    go_wp2_with fail
    refine (flen_any HF1.out).mono ?_
    rintro e w2 ⟨rfl, rfl⟩
    go_wp2_with fail
    clear hrz hw1 hw2
    go_loopw [7, 24] (fun v i wr => ∃ (k : Nat) (A2 : Option Addr) (c2 : Nat), k ≤ r ∧ i = .int .i64 k ∧ v = .slice A2 k c2 ∧ wr.ownsRow w1.heap.size 30 6 (.slice A2 k c2) k ((wideL k).flatMap Sp.cells) ∧ Below w1.heap.size w1 wr) (fun _ i _ => r - (intOf i).toNat)
    case atStart => exact ⟨0, none, 0, by omega, rfl, rfl, by exact World.ownsRow_nil _ _ _ _, Below.refl _ _⟩
    case round =>
      obtain ⟨k, A2, c2, hk, rfl, rfl, hown, hb⟩ := hrel
      have hsz := hb.size
      have HO := Lib.hid hown
      have HBR := Lib.hid hb
      clear hown hb
      by_cases hlt : k < r
      · have hk1 : (k : Int) < (r : Int) := Int.ofNat_lt.2 hlt
        go_wp2_with fail
        refine (of_any _ 0 _).mono ?_
        rintro e w3 ⟨rfl, hb3⟩
        have hz3 := hb3.size
        have HO3 := Lib.hid (own_below HO.out hb3)
        have HB3 : Hid (Below w1.heap.size w1 w3) := Lib.hid (HBR.out.trans (hb3.mono hsz))
        clear hb3
        go_wp2_with (at_builtin; refine wpList_app _ rfl (.tmp 27) (.tmp 31) _ rfl w1.heap.size 30 i0 _ 6 56 Try.underlying22 hi0 gz0 gz1 gz2 rfl (by omega) _ _ _ _ rfl (HO3.out.alloc _) (w3.heap.size + 1) _ 1 _ _ rfl (Rd.one6 (by simp) (ofS (1000 + k) 0) _ _) (cells_one1 _) (by unfold maxLen; omega) (by omega) (by simp <;> omega) ?_; intro A3 c3 w4 hown4 hg4 _)
        go_roundw
        case rel =>
          refine ⟨k + 1, A3, c3, by omega, by go_num, rfl, ?_, below_app (HB3.out.alloc (by omega) _) (HO3.out.alloc _) hg4 (by simp <;> omega)⟩
          rw [wide_snoc, List.flatMap_append]; simpa using hown4
        case measure => simp [intOf]; omega
      · have hkr : k = r := by omega
        subst hkr
        have hk1 : ¬ (k : Int) < (k : Int) := by omega
        have hwok := wide_ok (r := k) (by omega)
        have hAA : addA 1 L (wideL k) = ((addL (L, Cnt.zero) (wideL k)).1, (addL (L, Cnt.zero) (wideL k)).2, 0) := by rw [addA, if_pos hwok]
        have hsum := addL_sum (L, Cnt.zero) (wideL k)
        have hln := addL_len (L, Cnt.zero) (wideL k)
        have hfu := addL_full (L, Cnt.zero) (wideL k) (.inl rfl)
        have hwl : (wideL k).length = k := by simp [wideL]
        have hwn : ∀ s ∈ wideL k, s.nm.size ≤ 140737488355328 := fun s hs => by
          obtain ⟨i, _, rfl⟩ := List.mem_map.1 hs
          show 1 ≤ 140737488355328
          omega
        rw [hwl] at hsum
        have HAA := Lib.hid hAA
        have HWN := Lib.hid hwn
        have hrd : RdS wr wr.heap.size A2 k (wideL k) := Rd.of_own HO.out
        have hAS : ∀ j, A2.map (·.block) = some j → ¬ (w.heap.size ≤ j ∧ j < w1.heap.size) := fun j hj hs => by
          have := (HO.out.lt j (by rw [← hj]; cases A2 <;> rfl)).1
          omega
        have hadd := add_any (HF1.out.below HBR.out (Nat.le_refl _)) A2 k c2 wr.heap.size (wideL k) (Nat.le_refl _) (by omega) hwn hrd hAS
        rw [hAA] at hadd
        have HADD := Lib.hid hadd
        clear hrd hAS hadd hAA hwn hwok hwl
        generalize addL (L, Cnt.zero) (wideL k) = st at *
        obtain ⟨L2, c⟩ := st
        simp only [Cnt.sum, Cnt.zero] at hsum hln hfu
        have hcs : c.ad + c.sa + c.ot + c.cy + c.fu = k := by omega
        have hle1 : c.ad ≤ 100 ∧ c.sa ≤ 100 ∧ c.ot ≤ 100 ∧ c.cy ≤ 100 ∧ c.fu ≤ 100 := by omega
        obtain ⟨ha1, ha2, ha3, ha4, ha5⟩ := hle1
        have HLN : Hid (L2.length = L.length + c.ad) := Lib.hid (by omega)
        have HFU := Lib.hid hfu
        have HCS := Lib.hid hcs
        clear hsum hln hfu hcs
        go_wp2_with fail
        refine HADD.out.mono ?_
        rintro e w5 ⟨rfl, hf5, hfr5⟩
        dsimp only at hf5 ⊢
        have hL2 := hf5.gr.len
        have HF5 := Lib.hid hf5
        have hz5 := hfr5.size
        have HB5 : Hid (Below w.heap.size w w5) := Lib.hid (HB1.out.trans ((HBR.out.mono hz1).trans (hfr5.below (by omega) (fun j hj => hj.1))))
        clear hf5 hfr5
        go_wp2_with fail
        have HB : Hid (w5.heap.size + 1 ≤ (w5.alloc (.cells #[.int .i64 c.ad, .int .i64 c.sa, .int .i64 c.ot, .int .i64 c.cy, .int .i64 c.fu] 33)).heap.size) := Lib.hid (by simp)
        have HF6 : Hid (Fo (w5.alloc (.cells #[.int .i64 c.ad, .int .i64 c.sa, .int .i64 c.ot, .int .i64 c.cy, .int .i64 c.fu] 33)) p a d 1 L2 _) := Lib.hid (HF5.out.below ((Below.refl _ _).alloc (Nat.le_refl _) _) (Nat.le_refl _))
        have HS : Hid (∀ W, Below (w5.heap.size + 1) (w5.alloc (.cells #[.int .i64 c.ad, .int .i64 c.sa, .int .i64 c.ot, .int .i64 c.cy, .int .i64 c.fu] 33)) W → W.cell? ⟨w5.heap.size, 0, none⟩ = some (.int .i64 c.ad) ∧ W.cell? ⟨w5.heap.size, 1, none⟩ = some (.int .i64 c.sa) ∧ W.cell? ⟨w5.heap.size, 2, none⟩ = some (.int .i64 c.ot) ∧ W.cell? ⟨w5.heap.size, 3, none⟩ = some (.int .i64 c.cy) ∧ W.cell? ⟨w5.heap.size, 4, none⟩ = some (.int .i64 c.fu)) := Lib.hid (fun W hW => by
          have e1 := blk_cell (blk_below hW (by omega) (heap_alloc_new w5 (.cells #[.int .i64 c.ad, .int .i64 c.sa, .int .i64 c.ot, .int .i64 c.cy, .int .i64 c.fu] 33)))
          exact ⟨e1 0, e1 1, e1 2, e1 3, e1 4⟩)
        have hs1 : (c.ad : Int) + c.sa + c.ot + c.cy + c.fu = (k : Int) := by have := HCS.out; omega
        have hs2 : (L.length : Int) + c.ad = (L2.length : Int) := by have := HLN.out; omega
        have hq1 : IntKind.i64.wrap ((c.ad : Int) + c.sa) = (c.ad : Int) + c.sa := (IntWalk.i64_left _).trans (IntWalk.wrap64_in _ (by omega))
        have hq2 : IntKind.i64.wrap ((c.ad : Int) + c.sa + c.ot) = (c.ad : Int) + c.sa + c.ot := (IntWalk.i64_left _).trans (IntWalk.wrap64_in _ (by omega))
        have hq3 : IntKind.i64.wrap ((c.ad : Int) + c.sa + c.ot + c.cy) = (c.ad : Int) + c.sa + c.ot + c.cy := (IntWalk.i64_left _).trans (IntWalk.wrap64_in _ (by omega))
        have hq4 : IntKind.i64.wrap ((c.ad : Int) + c.sa + c.ot + c.cy + c.fu) = (k : Int) := ((IntWalk.i64_left _).trans (IntWalk.wrap64_in _ (by omega))).trans hs1
        have hq5 : IntKind.i64.wrap ((L.length : Int) + c.ad) = (L2.length : Int) := ((IntWalk.i64_left _).trans (IntWalk.wrap64_in _ (by omega))).trans hs2
        clear hs1 hs2
        refine wp_region_sched [(0, true), (1, true), (2, true), (3, true), (4, true), (5, true), (6, true), (7, true), (8, true), (9, true), (10, true), (11, true), (12, true), (13, true), (14, true), (15, true), (16, true), (17, true), (18, true), (19, true), (20, true), (21, true), (23, true), (24, true), (25, true), (26, true), (22, false), (27, true), (28, true)] (fun W => Below (w5.heap.size + 1) (w5.alloc (.cells #[.int .i64 c.ad, .int .i64 c.sa, .int .i64 c.ot, .int .i64 c.cy, .int .i64 c.fu] 33)) W) (by kernel_rfl) (by kernel_rfl) rfl (by kernel_rfl) ((Below.refl _ _).drew) ?_
        repeat (first | (apply sched_take rfl; (focus (first | rfl | (go_simp; done))); (focus (intro W hW; obtain ⟨q0, q1, q2, q3, q4⟩ := HS.out W hW; go_simp; rfl)); (focus (intro K hK; go_simp; refine hK _ ?_; clear hK K))) | (apply sched_skip rfl; (focus (first | rfl | (go_simp; done))); (focus (intro K hK; go_simp; refine hK _ ?_; clear hK K))))
        apply sched_op rfl
        intro K hK
        go_simp
        go_wp2_with (fail)
        refine (flen_any (HF6.out.drewN 1)).mono ?_
        rintro e v1 ⟨rfl, hv1⟩
        subst hv1
        go_wp2_with fail
        refine ⟨by exact (Below.refl _ _).drew, ?_⟩
        repeat (first | (apply sched_take rfl; (focus (first | rfl | (go_simp; done))); (focus (intro W hW; obtain ⟨q0, q1, q2, q3, q4⟩ := HS.out W hW; go_simp; rfl)); (focus (intro K hK; go_simp; refine hK _ ?_; clear hK K))) | (apply sched_skip rfl; (focus (first | rfl | (go_simp; done))); (focus (intro K hK; go_simp; refine hK _ ?_; clear hK K))))
        refine sched_nil ?_
        clear hq1 hq2 hq3 hq4 hq5
        have hc4 : ((w5.alloc (.cells #[.int .i64 c.ad, .int .i64 c.sa, .int .i64 c.ot, .int .i64 c.cy, .int .i64 c.fu] 33)).drewN 1).cell? ⟨w5.heap.size, 4, none⟩ = some (.int .i64 c.fu) := (HS.out _ (below_dN (Below.refl _ _) 1)).2.2.2.2
        have HF9 : Hid (Fo ((w5.alloc (.cells #[.int .i64 c.ad, .int .i64 c.sa, .int .i64 c.ot, .int .i64 c.cy, .int .i64 c.fu] 33)).drewN 1) p a d 1 L2 _) := Lib.hid (HF6.out.drewN 1)
        have HB9 : Hid (Below w.heap.size w ((w5.alloc (.cells #[.int .i64 c.ad, .int .i64 c.sa, .int .i64 c.ot, .int .i64 c.cy, .int .i64 c.fu] 33)).drewN 1)) := Lib.hid (below_dN (HB5.out.alloc HB5.out.size _) 1)
        generalize (w5.alloc (.cells #[.int .i64 c.ad, .int .i64 c.sa, .int .i64 c.ot, .int .i64 c.cy, .int .i64 c.fu] 33)).drewN 1 = w9 at *
        have hL2i : (L2.length : Int) ≤ 64 := by omega
        by_cases hfu : c.fu = 0
        · have hfi : ((c.fu : Int) == 0) = true := by simp [hfu]
          clear hfu
          go_wp2_with fail
          refine (flen_any HF9.out).mono ?_
          rintro e v1 ⟨rfl, rfl⟩
          go_wp2_with fail
          refine (awake4_any _).mono ?_
          rintro e v2 ⟨rfl, hb2⟩
          go_wp2_with fail
          go_ret
          exact ⟨rfl, below_via HB9.out hb2 HB9.out.size⟩
        · have hfi : ((c.fu : Int) == 0) = false := by simp [hfu]
          have h64 : L2.length = 64 := by have := HFU.out.resolve_left hfu; omega
          have h64i : ((L2.length : Int) == 64) = true := by simp [h64]
          clear hfu h64
          go_wp2_with fail
          refine (flen_any HF9.out).mono ?_
          rintro e v1 ⟨rfl, rfl⟩
          go_wp2_with fail
          refine (flen_any HF9.out).mono ?_
          rintro e v1 ⟨rfl, rfl⟩
          go_wp2_with fail
          refine (awake4_any _).mono ?_
          rintro e v2 ⟨rfl, hb2⟩
          go_wp2_with fail
          go_ret
          exact ⟨rfl, below_via HB9.out hb2 HB9.out.size⟩
end Go.Proofs.Ytnocknhfdegkgaa
