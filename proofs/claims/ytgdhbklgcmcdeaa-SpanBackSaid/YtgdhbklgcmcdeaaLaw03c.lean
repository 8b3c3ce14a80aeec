/-
  The walk of the law SpanBack: the Go text answers true. Condition: the spans are not more than memory bears.
-/
import Derived.Test.YtgdhbklgcmcdeaaLaw03b
namespace Go.Proofs.Ytgdhbklgcmcdeaa
open Go.RowKit

theorem putEnc_len {l : List Sp} (h : l.all Sp.ok = true) (hl : l.length ≤ 200) : (putEnc l).length ≤ 100000 := by
  have h1 := encL_len l (List.all_eq_true.1 h)
  have h2 := digits_len (n := l.length) (by omega)
  simp only [putEnc, List.length_append]; omega

set_option maxRecDepth 100000 in
set_option maxHeartbeats 1000000 in
theorem spanBack_any (A : Option Addr) (n cap B : Nat) (l : List Sp) (w : World) (hB : B ≤ w.heap.size) (hbig : n ≤ 140737488355328) (hr : RdS w B A n l) :
    Calls Try.prog 5 #[.slice A n cap] w fun e w' => e = .returned (.bool true) ∧ Below w.heap.size w w' := by
  have hlen := hr.len
  subst hlen
  have HR := Lib.hid hr
  clear hr
  cases hl : lightB l
  · have HL := Lib.hid hl
    clear hl
    go_enter Try.func5, Try.ntmps5
    go_wp2_with fail
    refine (light_any _ _ _ _ l _ hbig HR.out).mono ?_
    rintro e w1 ⟨rfl, rfl⟩
    rw [HL.out]
    go_wp2_with fail
    refine (awake_any _).mono ?_
    rintro e w2 ⟨rfl, hb2⟩
    go_wp2_with fail
    go_ret
    exact ⟨rfl, hb2⟩
  · have HL := Lib.hid hl
    have hlp := light_parts hl
    have hl200 := hlp.1
    have HNM : Hid (∀ s ∈ l, s.nm.size ≤ 140737488355328) := Lib.hid fun s hs => by have := hlp.2 s hs; omega
    clear hl hlp
    cases hok : l.all Sp.ok
    · have HO := Lib.hid hok
      have HP := Lib.hid (putAns_no hok)
      clear hok
      go_enter Try.func5, Try.ntmps5
      go_wp2_with fail
      refine (light_any _ _ _ _ l _ hbig HR.out).mono ?_
      rintro e w1 ⟨rfl, rfl⟩
      rw [HL.out]
      go_wp2_with fail
      refine (Put_any _ _ _ _ l _ hB (by omega) HNM.out HR.out).mono ?_
      rw [HP.out]
      rintro e w1 ⟨A1, c1, rfl, hown, hb1⟩
      dsimp only at hown ⊢
      have hsz := hb1.size
      clear hown
      have HR1 := Lib.hid (Rd.below' HR.out hb1 hB (Nat.le_refl _))
      go_wp2_with fail
      go_loopw [20] (fun i wr => ∃ k : Nat, k ≤ l.length ∧ i = .int .i64 k ∧ (l.take k).all Sp.ok = true ∧ Below w1.heap.size w1 wr) (fun i _ => l.length - (intOf i).toNat)
      case atStart => exact ⟨0, by omega, rfl, rfl, Below.refl _ _⟩
      case round =>
        obtain ⟨k, hk, rfl, hall, hb⟩ := hrel
        have HA := Lib.hid hall
        clear hall
        have hszr := hb.size
        by_cases hlt : k < l.length
        · obtain ⟨b, off, rfl, hbB, q0, q1, q2, q3, q4, q5⟩ := RdS.at_ (Rd.below' HR1.out (hb.mono (B' := B) (by omega)) (Nat.le_refl _) (Nat.le_refl _)) hlt
          have hbw : b < wr.heap.size := by omega
          have hk2 : (k : Int) < (l.length : Int) := by omega
          have hnm := HNM.out _ (List.getElem_mem hlt)
          have HTK := Lib.hid (all_take_succ l Sp.ok k hlt)
          generalize l[k] = s at *
          go_wp2_with fail
          refine (check_any s _ hnm).mono ?_
          rintro e w2 ⟨rfl, hb2⟩
          have hb3 : Below w1.heap.size w1 w2 := below_via (hb.alloc hszr _) hb2 (by simp; omega)
          have hzz : wr.heap.size < w2.heap.size := by have := hb2.size; simp at this; omega
          clear hb2
          cases hok : s.ok
          · have hc : s.check = 30 := Sp.check_f hok
            rw [hc]
            clear hok hc
            go_wp2_with fail
            refine (awake_any _).mono ?_
            rintro e w4 ⟨rfl, hb4⟩
            go_wp2_with fail
            go_ret
            exact ⟨rfl, below_via hb1 (below_via hb3 hb4 (by omega)) (by omega)⟩
          · have hc : s.check = 0 := Sp.check_t hok
            rw [hc]
            have HK := Lib.hid hok
            clear hok hc
            go_wp2_with fail
            go_roundw
            case rel =>
              refine ⟨_, _, _, _, _, _, _, _, _, _, _, _, _, _, _, _, _, _, _, _, ⟨k + 1, by omega, ?_, ?_, hb3⟩, rfl⟩
              · go_num
              · rw [HTK.out, HA.out, HK.out]; rfl
            case measure => simp [intOf]; omega
        · have h1 := HA.out
          rw [List.take_of_length_le (by omega), HO.out] at h1
          cases h1
    · have HO := Lib.hid hok
      have HP := Lib.hid (putAns_ok hok)
      have HG := Lib.hid (get_put l hok (by omega))
      have hel := putEnc_len hok hl200
      clear hok
      go_enter Try.func5, Try.ntmps5
      go_wp2_with fail
      refine (light_any _ _ _ _ l _ hbig HR.out).mono ?_
      rintro e w1 ⟨rfl, rfl⟩
      rw [HL.out]
      go_wp2_with fail
      refine (Put_any _ _ _ _ l _ hB (by omega) HNM.out HR.out).mono ?_
      rw [HP.out]
      rintro e w1 ⟨A1, c1, rfl, hown, hb1⟩
      dsimp only at hown ⊢
      have hsz := hb1.size
      have HS := Lib.hid (RdB.of_own hown)
      clear hown
      generalize putEnc l = E at *
      have HR1 := Lib.hid (Rd.below' HR.out hb1 hB (Nat.le_refl _))
      go_wp2_with fail
      go_loopw [20] (fun i wr => ∃ k : Nat, k ≤ l.length ∧ i = .int .i64 k ∧ Below w1.heap.size w1 wr) (fun i _ => l.length - (intOf i).toNat)
      case atStart => exact ⟨0, by omega, rfl, Below.refl _ _⟩
      case round =>
        obtain ⟨k, hk, rfl, hb⟩ := hrel
        have hszr := hb.size
        by_cases hlt : k < l.length
        · obtain ⟨b, off, rfl, hbB, q0, q1, q2, q3, q4, q5⟩ := RdS.at_ (Rd.below' HR1.out (hb.mono (B' := B) (by omega)) (Nat.le_refl _) (Nat.le_refl _)) hlt
          have hbw : b < wr.heap.size := by omega
          have hk2 : (k : Int) < (l.length : Int) := by omega
          have hnm := HNM.out _ (List.getElem_mem hlt)
          have hok := List.all_eq_true.1 HO.out _ (List.getElem_mem hlt)
          generalize l[k] = s at *
          have hc : s.check = 0 := Sp.check_t hok
          clear hok
          go_wp2_with fail
          refine (check_any s _ hnm).mono ?_
          rintro e w2 ⟨rfl, hb2⟩
          rw [hc]
          have hb3 : Below w1.heap.size w1 w2 := below_via (hb.alloc hszr _) hb2 (by simp; omega)
          have hzz : wr.heap.size < w2.heap.size := by have := hb2.size; simp at this; omega
          clear hb2
          go_wp2_with fail
          go_roundw
          case rel => exact ⟨k + 1, by omega, by go_num, hb3⟩
          case measure => simp [intOf]; omega
        · have HRS := Lib.hid (Rd.below' HR1.out (hb.mono (B' := B) (by omega)) (Nat.le_refl _) (Nat.le_refl _))
          have HRB := Lib.hid (Rd.below' HS.out hb (Nat.le_refl _) hszr)
          have hBr : B ≤ wr.heap.size := by omega
          go_wp2_with fail
          refine (Get_any _ _ _ _ E _ (Nat.le_refl _) (by omega) HRB.out).mono ?_
          rw [HG.out]
          rintro e w2 ⟨A2, c2, rfl, hown2, hb2⟩
          dsimp only at hown2 ⊢
          have HR2 : Hid (RdS w2 w2.heap.size A2 l.length l) := Lib.hid (Rd.of_own hown2)
          have HRS2 : Hid (RdS w2 B A l.length l) := Lib.hid (Rd.below' HRS.out hb2 hBr (Nat.le_refl _))
          have hb12 : Below w.heap.size w w2 := below_via (below_via hb1 hb (by omega)) hb2 (by omega)
          clear hown2
          go_wp2_with fail
          refine (slicesEqual_any _ _ _ _ _ _ _ _ l l _ HRS2.out HR2.out hbig).mono ?_
          rintro e w3 ⟨q, rfl, hq, m, rfl⟩
          obtain rfl : q = true := hq.2 rfl
          clear hq
          go_wp2_with fail
          refine (awake_any _).mono ?_
          rintro e w4 ⟨rfl, hb4⟩
          go_wp2_with fail
          go_ret
          exact ⟨rfl, below_via (below_drewN hb12 m) hb4 (by have := hb12.size; simpa using this)⟩
end Go.Proofs.Ytgdhbklgcmcdeaa
