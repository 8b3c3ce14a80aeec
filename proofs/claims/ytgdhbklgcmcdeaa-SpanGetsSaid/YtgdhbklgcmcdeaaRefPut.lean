/-
  The walks of spandrelref03.bytes and spandrelref03.Put: a span's bytes; all spans' bytes, or that one may not be. Conditions: what comes in reads as a list, not longer than memory bears.
-/
import Derived.Test.YtgdhbklgcmcdeaaPut
namespace Go.Proofs.Ytgdhbklgcmcdeaa
open Go.RowKit

set_option maxRecDepth 100000 in
set_option maxHeartbeats 1000000 in
theorem refBytes_any (s : Sp) (w : World) (hs : s.ok = true) :
    Calls Try.prog 38 #[s.val] w (ResB w s.enc) := by
  have hp := Sp.ok_parts hs
  have hnk := Sp.nums_ok hs
  have hen : (0 : Int) ≤ s.en - s.st ∧ s.en - s.st ≤ 1099511627776 := by omega
  go_enter Try.func38, Try.ntmps38
  go_wp2_with fail
  go_loopw [3, 21] (fun v i wr => ∃ k : Nat, k ≤ 5 ∧ i = .int .i64 k ∧ ∃ A' c B', v = .slice A' (numsEnc (s.nums.take k)).length c ∧ B' ≤ wr.heap.size ∧ RdB wr B' A' (numsEnc (s.nums.take k)).length (numsEnc (s.nums.take k)) ∧
      wr.heap[w.heap.size]? = some (.cells #[.int .i64 s.tr, .int .i64 s.id, .int .i64 s.pa, .int .i64 s.st, .int .i64 s.en, .string s.nm] 23 (0, 0)) ∧
      wr.heap[w.heap.size + 1]? = some (.cells (s.nums.map (Value.int .i64)).toArray 3 (0, 0)) ∧ Below w.heap.size w wr) (fun _ i _ => 5 - (intOf i).toNat)
  case atStart =>
    refine ⟨0, by omega, rfl, none, 0, 0, by simp [numsEnc], by simp, ?_, ?_, ?_, ?_⟩
    · have e : numsEnc (s.nums.take 0) = [] := by simp [numsEnc]
      rw [e]
      exact Rd.nil
    · exact blk_below ((Below.refl _ _).alloc (Nat.le_refl _) _) (by simp) (heap_alloc_new w _)
    · exact heap_at (by simp)
    · exact ((Below.refl _ _).alloc (Nat.le_refl _) _).alloc (by simp) _
  case round =>
    obtain ⟨k, hk, rfl, A', c, B', rfl, hB', hrd, h1, h2, hb⟩ := hrel
    have hk1 := numsEnc_len (s.nums.take k) fun z hz => by have := hnk z (List.mem_of_mem_take hz); omega
    have hk2 : (s.nums.take k).length ≤ 5 := by simp [Sp.nums]; omega
    have hm : (numsEnc (s.nums.take k)).length ≤ 17592186044416 + 45 := by omega
    have hsz := hb.size
    by_cases hlt : k < 5
    · have hkl : k < s.nums.length := hlt
      have hst : numsEnc (s.nums.take (k + 1)) = (numsEnc (s.nums.take k)) ++ digits (s.nums[k]).toNat := by rw [numsEnc_take _ _ hkl]
      obtain ⟨N, hN⟩ := Int.eq_ofNat_of_zero_le (hnk _ (List.getElem_mem hkl)).1
      have hN2 := (hnk _ (List.getElem_mem hkl)).2
      have hcell : wr.cell? ⟨w.heap.size + 1, k, none⟩ = some (.int .i64 N) := by
        rw [cell_of_row wr _ _ _ _ _ h2]; simp [hkl, hN]
      rw [hN] at hst hN2
      rw [Int.toNat_natCast] at hst
      generalize numsEnc (s.nums.take k) = Lk at *
      have HS := Lib.hid hst
      have H1 := Lib.hid h1
      have H2 := Lib.hid h2
      clear hst h1 h2 hN
      go_wp2_with fail
      refine (refNumber_any _ _ _ _ _ _ _ hB' (by omega) (by omega) hrd).mono ?_
      rintro e w1 ⟨A1, c1, rfl, hown, hb1⟩
      rw [← HS.out] at hown ⊢
      generalize hL1 : numsEnc (s.nums.take (k + 1)) = L1 at hown ⊢
      have HL1 := Lib.hid hL1
      have HO := Lib.hid hown
      clear hown hL1 hrd
      go_wp2_with fail
      go_roundw
      case rel =>
        refine ⟨k + 1, by omega, by go_num, A1, c1, w1.heap.size, by rw [HL1.out], Nat.le_refl _, by rw [HL1.out]; exact RdB.of_own HO.out, blk_below hb1 ?_ H1.out, blk_below hb1 ?_ H2.out, hb.trans (hb1.mono hsz)⟩
        · exact (Array.getElem?_eq_some_iff.1 H1.out).1
        · exact (Array.getElem?_eq_some_iff.1 H2.out).1
      case measure => simp [intOf]; omega

    · obtain rfl : k = 5 := by omega
      have hcell : ∀ j, wr.cell? ⟨w.heap.size, j, none⟩ = _ := blk_cell h1
      have he : numsEnc (s.nums.take 5) ++ digits s.nm.size ++ s.nm.data.toList = s.enc := by
        rw [List.take_of_length_le (by simp [Sp.nums])]; simp [Sp.enc]
      generalize numsEnc (s.nums.take 5) = Lk at *
      have HE := Lib.hid he
      clear he h1 h2
      go_wp2_with fail
      refine (refText_any _ _ _ _ _ _ _ hB' (by omega) (by omega) hrd).mono ?_
      rintro e w1 ⟨A1, c1, rfl, hown, hb1⟩
      rw [HE.out] at hown ⊢
      generalize s.enc = L1 at *
      have HO := Lib.hid hown
      clear hown hrd
      go_wp2_with fail
      go_ret
      exact ⟨A1, c1, rfl, own_le HO.out hsz, hb.trans (hb1.mono hsz)⟩
set_option maxRecDepth 100000 in
set_option maxHeartbeats 1000000 in
theorem refPut_any (A : Option Addr) (n cap B : Nat) (l : List Sp) (w : World) (hB : B ≤ w.heap.size) (hbig : n ≤ 4294967296) (hnm : ∀ s ∈ l, s.nm.size ≤ 140737488355328) (hr : RdS w B A n l) :
    Calls Try.prog 20 #[.slice A n cap] w (ResBE w (putAns l)) := by
  obtain ⟨i0, hi0, hz0, hz1, hz2⟩ := info_parts Try.infoByte
  have hlen := hr.len
  subst hlen
  go_enter Try.func20, Try.ntmps20
  go_wp2_with fail
  refine (refNumber_any _ _ _ 0 [] _ _ (by omega) (by omega) (by omega) Rd.nil).mono ?_
  rintro e w1 ⟨A1, c1, rfl, hown, hb1⟩
  rw [List.nil_append] at hown ⊢
  have HO := Lib.hid (RdB.of_own hown)
  have hown' := hown
  clear hown
  have HOW := Lib.hid hown'
  clear hown'
  have hsz1 := hb1.size
  go_wp2_with fail
  go_loopw [4, 12] (fun v i wr => ∃ k : Nat, k ≤ l.length ∧ i = .int .i64 k ∧ (l.take k).all Sp.ok = true ∧ ∃ A' c, v = .slice A' (digits l.length ++ encL (l.take k)).length c ∧
      wr.ownsRow w.heap.size 5 1 (.slice A' (digits l.length ++ encL (l.take k)).length c) (digits l.length ++ encL (l.take k)).length ((digits l.length ++ encL (l.take k)).map u8v) ∧ Below w.heap.size w wr) (fun _ i _ => l.length - (intOf i).toNat)
  case atStart =>
    refine ⟨0, by omega, rfl, rfl, A1, c1, by simp [encL], ?_, hb1⟩
    have e : digits l.length ++ encL (l.take 0) = digits l.length := by simp [encL]
    rw [e]; exact HOW.out
  case round =>
    obtain ⟨k, hk, rfl, hall, A', c, rfl, hown, hb⟩ := hrel
    have HA := Lib.hid hall
    clear hall
    by_cases hlt : k < l.length
    · obtain ⟨b, off, rfl, hbB, q0, q1, q2, q3, q4, q5⟩ := hr.at_ hlt
      have hbw : b < w.heap.size := by omega
      rw [← hb.cell hbw] at q0 q1 q2 q3 q4 q5
      have hsz := hb.size
      have hst : digits l.length ++ encL (l.take (k + 1)) = (digits l.length ++ encL (l.take k)) ++ l[k].enc := by rw [encL_take _ _ hlt, List.append_assoc]
      have hlk : (digits l.length ++ encL (l.take k)).length ≤ 1000000000000 := by
        have h1 := encL_len (l.take k) (fun s hs => List.all_eq_true.1 HA.out s hs)
        have h2 := digits_len (n := l.length) (by omega)
        rw [List.length_take] at h1
        rw [List.length_append]; omega
      generalize digits l.length ++ encL (l.take k) = Lk at *
      have HS := Lib.hid hst
      have HO2 := Lib.hid hown
      have hnk := hnm _ (List.getElem_mem hlt)
      have HTK := Lib.hid (all_take_succ l Sp.ok k hlt)
      have HALL : Hid (l[k].ok = false → l.all Sp.ok = false) := Lib.hid (all_false_of l Sp.ok k hlt)
      generalize l[k] = s at *
      clear hst hown hr hnm
      go_wp2_with fail
      refine (refCheck_any s _ hnk).mono ?_
      rintro e w2 ⟨rfl, hb2⟩
      have hB2 := blk_cell (blk_below hb2 (by simp) (heap_alloc_new wr _))
      have hbw2 : Below wr.heap.size wr w2 := ((Below.refl _ _).alloc (Nat.le_refl _) _).trans (hb2.mono (by simp))
      have hzz : wr.heap.size < w2.heap.size := by have := hb2.size; simp at this; omega
      clear hb2
      cases hok : s.ok
      · have hc : s.check = 30 := Sp.check_f hok
        rw [hc]
        have HF := Lib.hid (HALL.out hok)
        clear hok hc
        go_wp2_with fail
        go_ret2
        refine ⟨none, 0, ?_, ?_, hb.trans (hbw2.mono hsz)⟩
        · simp [putAns, HF.out]
        · have e : (putAns l).1 = [] := by simp [putAns, HF.out]
          rw [e]
          exact World.ownsRow_nil _ _ _ _
      · have hc : s.check = 0 := Sp.check_t hok
        rw [hc]
        have HK := Lib.hid hok
        have hel := Sp.enc_len HK.out
        clear hok hc
        go_wp2_with fail
        refine (refBytes_any s _ HK.out).mono ?_
        rintro e w3 ⟨A3, c3, rfl, hown3, hb3⟩
        have hrd3 := RdB.of_own hown3
        have HO4 := Lib.hid (own_below (own_below HO2.out hbw2) hb3)
        have hbw3 : Below w.heap.size w w3 := (hb.trans (hbw2.mono hsz)).trans (hb3.mono (by omega))
        have hsz3 := hbw3.size
        clear hown3
        go_wp2_with (at_builtin; refine wpList_app _ rfl (.tmp 19) (.tmp 21) _ rfl w.heap.size 5 i0 _ 1 1 Try.underlying30 hi0 hz0 hz1 hz2 rfl (by omega) _ _ _ _ rfl HO4.out _ _ _ _ _ rfl hrd3 (u8v_oneCell _) (by unfold maxLen; omega) (by omega) hsz3 ?_; intro A4 c4 w4 hown4 hg4 _)
        have hbw4 := below_app hbw3 HO4.out hg4 hsz3
        rw [← List.map_append, ← HS.out] at hown4
        have HLn : Hid ((digits l.length ++ encL (l.take (k + 1))).length = Lk.length + s.enc.length) := Lib.hid (by rw [HS.out, List.length_append])
        rw [← HLn.out] at hown4
        go_roundw
        case rel => exact ⟨k + 1, by omega, by go_num, by rw [HTK.out, HA.out, HK.out]; rfl, A4, c4, by rw [HLn.out], hown4, hbw4⟩
        case measure => simp [intOf]; omega
    · have e : l.take k = l := List.take_of_length_le (by omega)
      rw [e] at HA hown ⊢
      have HP : Hid (putAns l = (digits l.length ++ encL l, 0)) := Lib.hid (by simp [putAns, HA.out, putEnc])
      generalize digits l.length ++ encL l = Lk at *
      have HO2 := Lib.hid hown
      clear hown e
      go_wp2_with fail
      go_ret2
      refine ⟨A', c, by rw [HP.out]; rfl, by rw [HP.out]; exact HO2.out, hb⟩
end Go.Proofs.Ytgdhbklgcmcdeaa
