/-
  The walk of the law SpanForm: the Go text answers true. Condition: the bytes are not more than memory bears.
-/
import Derived.Test.YtgdhbklgcmcdeaaCodec
import Derived.Test.YtgdhbklgcmcdeaaStd
import Derived.Test.YtgdhbklgcmcdeaaLight03
namespace Go.Proofs.Ytgdhbklgcmcdeaa
open Go.RowKit

theorem below_via {B : Nat} {a b c : World} (h : Below B a b) (k : Below b.heap.size b c) (hB : B ≤ b.heap.size) : Below B a c := h.trans (k.mono hB)

set_option maxRecDepth 100000 in
set_option maxHeartbeats 1000000 in
theorem spanForm_any (A : Option Addr) (n cap B : Nat) (l : List UInt8) (w : World) (hB : B ≤ w.heap.size) (hr : RdB w B A n l) :
    Calls Try.prog 4 #[.slice A n cap] w fun e w' => e = .returned (.bool true) ∧ Below w.heap.size w w' := by
  have hlen := hr.len
  by_cases hn : n ≤ 65536
  · have HR := Lib.hid hr
    have HLN := Lib.hid hlen
    clear hr hlen
    rcases put_get l with ⟨sps, hg, hok, hp⟩ | hg
    · have HO := Lib.hid hok
      have HP := Lib.hid hp
      clear hok hp
      go_enter Try.func4, Try.ntmps4
      go_wp2_with fail
      refine (Get_any _ _ _ _ l _ hB (by omega) HR.out).mono ?_
      rw [hg]
      clear hg
      rintro e w1 ⟨A1, c1, rfl, hown, hb1⟩
      dsimp only at hown ⊢
      have hsz := hb1.size
      have HS : Hid (RdS w1 w1.heap.size A1 sps.length sps) := Lib.hid (Rd.of_own hown)
      have HR1 := Lib.hid (Rd.below' HR.out hb1 hB (Nat.le_refl _))
      clear hown
      have hsl : sps.length ≤ 65536 := by
        have h1 := putEnc_ge sps
        have h2 := HLN.out
        rw [HP.out] at h1; omega
      go_wp2_with fail
      go_loopw [31] (fun i wr => ∃ k : Nat, k ≤ sps.length ∧ i = .int .i64 k ∧ Below w1.heap.size w1 wr) (fun i _ => sps.length - (intOf i).toNat)
      case atStart => exact ⟨0, by omega, rfl, Below.refl _ _⟩
      case round =>
        obtain ⟨k, hk, rfl, hb⟩ := hrel
        have hszr := hb.size
        by_cases hlt : k < sps.length
        · obtain ⟨b, off, rfl, hbB, q0, q1, q2, q3, q4, q5⟩ := RdS.at_ (Rd.below' HS.out hb (Nat.le_refl _) (Nat.le_refl _)) hlt
          have hbw : b < wr.heap.size := by omega
          have hk2 : (k : Int) < (sps.length : Int) := by omega
          have hok := List.all_eq_true.1 HO.out _ (List.getElem_mem hlt)
          generalize sps[k] = s at *
          have hnm : s.nm.size ≤ 140737488355328 := by have := Sp.ok_parts hok; omega
          have hc : s.check = 0 := Sp.check_t hok
          clear hok
          go_wp2_with fail
          refine (check_any s _ hnm).mono ?_
          rintro e w2 ⟨rfl, hb2⟩
          rw [hc]
          have hb3 : Below w1.heap.size w1 w2 := below_via (hb.alloc hszr _) hb2 (by simp; omega)
          have hzz : wr.heap.size < w2.heap.size := by have := hb2.size; simp at this; omega
          have hB2 := blk_cell (blk_below hb2 (by simp) (heap_alloc_new wr _))
          clear hb2
          go_wp2_with fail
          go_roundw
          case rel => exact ⟨k + 1, by omega, by go_num, hb3⟩
          case measure => simp [intOf]; omega
        · have HRS := Lib.hid (Rd.below' HS.out hb (Nat.le_refl _) hszr)
          have HRB := Lib.hid (Rd.below' HR1.out (hb.mono (B' := B) (by omega)) (Nat.le_refl _) (Nat.le_refl _))
          have hBr : B ≤ wr.heap.size := by omega
          have HNM : Hid (∀ s ∈ sps, s.nm.size ≤ 140737488355328) := Lib.hid fun s hs => by
            have := Sp.ok_parts (List.all_eq_true.1 HO.out s hs); omega
          go_wp2_with fail
          refine (Put_any _ _ _ _ sps _ (Nat.le_refl _) (by omega) HNM.out HRS.out).mono ?_
          rw [putAns_ok HO.out, HP.out]
          rintro e w2 ⟨A2, c2, rfl, hown2, hb2⟩
          dsimp only at hown2 ⊢
          have hR2 := RdB.of_own hown2
          have hRB2 := Rd.below' HRB.out hb2 hBr (Nat.le_refl _)
          have HR2 := Lib.hid hR2
          have HRB2 := Lib.hid hRB2
          have hb12 : Below w.heap.size w w2 := below_via (below_via hb1 hb (by omega)) hb2 (by omega)
          clear hown2 hR2 hRB2
          go_wp2_with fail
          refine (bytesEqual_any _ _ _ _ _ _ _ _ l l _ HRB2.out HR2.out).mono ?_
          rintro e w3 ⟨q, rfl, hq, m, rfl⟩
          obtain rfl : q = true := hq.2 rfl
          clear hq
          go_wp2_with fail
          refine (awake_any _).mono ?_
          rintro e w4 ⟨rfl, hb4⟩
          go_wp2_with fail
          go_ret
          exact ⟨rfl, below_via (below_drewN hb12 m) hb4 (by have := hb12.size; simpa using this)⟩
    · go_enter Try.func4, Try.ntmps4
      go_wp2_with fail
      refine (Get_any _ _ _ _ l _ hB (by omega) HR.out).mono ?_
      rw [hg]
      clear hg
      rintro e w1 ⟨A1, c1, rfl, hown, hb1⟩
      dsimp only at hown ⊢
      clear hown
      go_wp2_with fail
      refine (awake_any _).mono ?_
      rintro e w2 ⟨rfl, hb2⟩
      go_wp2_with fail
      go_ret
      exact ⟨rfl, below_via hb1 hb2 hb1.size⟩
  · clear hr
    have h1 : (65536 : Int) < (n : Int) := by omega
    go_enter Try.func4, Try.ntmps4
    go_wp2_with fail
    refine (awake_any _).mono ?_
    rintro e w2 ⟨rfl, hb2⟩
    go_wp2_with fail
    go_ret
    exact ⟨rfl, hb2⟩
end Go.Proofs.Ytgdhbklgcmcdeaa
