/-
  The walks of the reference's Digits, Number and Text: bytes behind bytes. Conditions: what comes in reads as a list, not longer than memory bears.
  The walks of spandrelref03.bytes and spandrelref03.Put: a span's bytes; all spans' bytes, or that one may not be. Conditions: what comes in reads as a list, not longer than memory bears.
-/
import Derived.Test.YtdjcifeoplgkpaaGreatText
import Derived.Test.YtdjcifeoplgkpaaGreatPut
import Derived.Test.YtdjcifeoplgkpaaGreatRefCheck
namespace Go.Proofs.YtdjcifeoplgkpaaGreat
open Go.RowKit

set_option maxRecDepth 100000 in
set_option maxHeartbeats 400000 in
theorem digits_calls (k : Nat) : ∀ (N : Nat) (w : World), N < 128 ^ (k + 1) → N ≤ 9223372036854775807 →
    Calls Tryz.prog 84 #[.int .i64 N] w (ResB w (digits N)) := by
  induction k with
  | zero =>
    intro N w hN _
    have h1 : N < 128 := by simpa using hN
    have h2 : digits N = [UInt8.ofNat N] := by simp [digits, show N / 128 = 0 by omega, dhi_zero, show N % 128 = N by omega]
    rw [h2]
    clear hN h2
    go_enter Tryz.func84, Tryz.ntmps84
    go_wp2_with fail
    go_ret
    refine ⟨_, _, rfl, ?_, (Below.refl _ _).alloc (Nat.le_refl _) _⟩
    have ho := own_new w #[.int .u8 N] 5 1 1 rfl (by unfold maxLen; omega) w.heap.size (Nat.le_refl _)
    have hm : [UInt8.ofNat N].map u8v = [.int .u8 (N : Int)] := by simp [u8v]; omega
    rw [hm]
    exact ho
  | succ k ih =>
    intro N w hN hN2
    by_cases h1 : N < 128
    · have h2 : digits N = [UInt8.ofNat N] := by simp [digits, show N / 128 = 0 by omega, dhi_zero, show N % 128 = N by omega]
      rw [h2]
      clear hN h2 ih
      go_enter Tryz.func84, Tryz.ntmps84
      go_wp2_with fail
      go_ret
      refine ⟨_, _, rfl, ?_, (Below.refl _ _).alloc (Nat.le_refl _) _⟩
      have ho := own_new w #[.int .u8 N] 5 1 1 rfl (by unfold maxLen; omega) w.heap.size (Nat.le_refl _)
      have hm : [UInt8.ofNat N].map u8v = [.int .u8 (N : Int)] := by simp [u8v]; omega
      rw [hm]
      exact ho
    · obtain ⟨i0, hi0, hz0, hz1, hz2⟩ := info_parts Tryz.infoByte
      have hlt : N / 128 < 128 ^ (k + 1) := by rw [Nat.div_lt_iff_lt_mul (by omega)]; rw [Nat.pow_succ] at hN; exact hN
      have IH := Lib.hid (ih (N / 128))
      have hdl := digits_len (n := N / 128) (by omega)
      have hset : dhi (N / 128) = dhi (N / 128 / 128) ++ [UInt8.ofNat (N / 128 % 128 + 128)] := dhi_pos (by omega)
      have HD : Hid (digits N = dhi (N / 128) ++ [UInt8.ofNat (N % 128)]) := Lib.hid rfl
      have HE : Hid (digits (N / 128) = dhi (N / 128 / 128) ++ [UInt8.ofNat (N / 128 % 128)]) := Lib.hid rfl
      have HS := Lib.hid hset
      have HLT := Lib.hid hlt
      clear ih hset hN hlt
      go_enter Tryz.func84, Tryz.ntmps84
      go_wp2_with fail
      rw [show ((N : Int) / 128) = ((N / 128 : Nat) : Int) from by omega]
      refine (IH.out _ HLT.out (by omega)).mono ?_
      rintro e w1 ⟨A1, c1, rfl, hown, hb⟩
      rw [HE.out] at hown ⊢
      generalize hpre : dhi (N / 128 / 128) = pre at *
      have hv128 : N / 128 % 128 < 128 := by omega
      generalize hv : N / 128 % 128 = v at *
      have hlen : (pre ++ [UInt8.ofNat v]).length = pre.length + 1 := by simp
      rw [hlen] at hown ⊢
      obtain ⟨g, rfl, hg1, hg2⟩ := own_form hown (by omega)
      have hcell : w1.cell? ⟨g, pre.length, none⟩ = some (.int .u8 (v : Int)) := by
        rw [hown.cellAt pre.length (by omega)]
        simp [u8v]; omega
      have hfr := hown.frozenAt pre.length
      have hst := hown.stored pre.length (.int .u8 ((v : Int) + 128))
      have hb1 := hb.setCell (p := ⟨g, pre.length, none⟩) hg1 (.int .u8 ((v : Int) + 128))
      rw [show ((pre ++ [UInt8.ofNat v]).map u8v).set pre.length (.int .u8 ((v : Int) + 128)) = (dhi (N / 128)).map u8v from by
        rw [HS.out]; simp [u8v]; omega] at hst
      have HST := Lib.hid hst.1
      have HPL : Hid ((dhi (N / 128)).length = pre.length + 1) := Lib.hid (by rw [HS.out]; simp)
      have hsz := hb.size
      have hpl : pre.length ≤ 9 := by have := hdl.2; rw [HE.out] at this; simp at this; omega
      have HR : Hid ((dhi (N / 128)).map u8v ++ [.int .u8 ((N : Int) % 128)] = (digits N).map u8v) := Lib.hid (by rw [HD.out]; simp [u8v]; omega)
      have HDL : Hid ((digits N).length = pre.length + 1 + 1) := Lib.hid (by rw [HD.out, List.length_append, HPL.out]; rfl)
      clear hst hown hlen hpre hv hdl
      go_wp2_with (at_builtin; refine wpList_app _ rfl (.tmp 21) (.tmp 25) _ rfl w.heap.size 5 i0 _ 1 1 Tryz.underlying47 hi0 hz0 hz1 hz2 rfl (by omega) _ _ _ _ rfl (HST.out.alloc _) (w1.heap.size + 1) _ 1 _ [.int .u8 ((N : Int) % 128)] rfl (Rd.new (by simp) (by simp) (by simp)) (by simp [Value.oneCell']) (by unfold maxLen; omega) (by omega) (by simp; omega) ?_; intro A2 c2 w2 hown2 hg2 _)
      go_ret
      rw [HR.out, ← HDL.out] at hown2
      exact ⟨A2, c2, by rw [HDL.out]; rfl, hown2, below_app (hb1.alloc (by simp; omega) _) (HST.out.alloc _) hg2 (by simp; omega)⟩

theorem digits_any (N : Nat) (w : World) (hN : N ≤ 9223372036854775807) : Calls Tryz.prog 84 #[.int .i64 N] w (ResB w (digits N)) := digits_calls 8 N w (by omega) hN

set_option maxRecDepth 100000 in
set_option maxHeartbeats 400000 in
theorem refNumber_any (A : Option Addr) (m cap B : Nat) (l : List UInt8) (N : Nat) (w : World) (hB : B ≤ w.heap.size) (hbig : m ≤ 35184372088832) (hn2 : N ≤ 9223372036854775807) (hr : RdB w B A m l) :
    Calls Tryz.prog 67 #[.slice A m cap, .int .i64 N] w (ResB w (l ++ digits N)) := by
  obtain ⟨i0, hi0, hz0, hz1, hz2⟩ := info_parts Tryz.infoByte
  have hl := hr.len
  have hd := digits_len (n := N) (by omega)
  have hn := own_new w #[] 5 0 1 rfl (by unfold maxLen; omega) w.heap.size (Nat.le_refl _)
  have HN := Lib.hid hn
  have HR : Hid (RdB (w.alloc (.cells #[] 5)) B A m l) := Lib.hid (Rd.alloc hr _ hB (Nat.le_refl _))
  have HL := Lib.hid hl
  clear hn hl
  go_enter Tryz.func67, Tryz.ntmps67
  go_wp2_with (at_builtin; refine wpList_app _ rfl (.tmp 5) (.tmp 6) _ rfl w.heap.size 5 i0 _ 1 1 Tryz.underlying47 hi0 hz0 hz1 hz2 rfl (by omega) _ _ _ _ rfl HN.out B _ _ _ _ rfl HR.out (u8v_oneCell _) (by unfold maxLen; omega) (by omega) (by simp) ?_; intro A2 c2 w2 hown2 hg2 _)
  have hb2 : Below w.heap.size w w2 := below_app ((Below.refl _ _).alloc (Nat.le_refl _) _) HN.out hg2 (by simp)
  have hsz := hb2.size
  rw [List.nil_append, Nat.zero_add] at hown2
  have HO := Lib.hid hown2
  clear hown2 hg2
  refine (digits_any N w2 hn2).mono ?_
  rintro e w3 ⟨A3, c3, rfl, hown3, hb3⟩
  have hsz3 := hb3.size
  have HO3 := Lib.hid (RdB.of_own hown3)
  have HK := Lib.hid (own_below HO.out hb3)
  clear hown3
  go_wp2_with (at_builtin; refine wpList_app _ rfl (.tmp 7) (.tmp 9) _ rfl w.heap.size 5 i0 _ 1 1 Tryz.underlying47 hi0 hz0 hz1 hz2 rfl (by omega) _ _ _ _ rfl HK.out _ _ _ _ _ rfl HO3.out (u8v_oneCell _) (by unfold maxLen; omega) (by omega) (by omega) ?_; intro A4 c4 w4 hown4 hg4 _)
  go_ret
  have e : (l ++ digits N).length = m + (digits N).length := by rw [List.length_append, HL.out]
  rw [← List.map_append, ← e] at hown4
  exact ⟨A4, c4, by rw [e]; rfl, hown4, below_app (hb2.trans (hb3.mono hsz)) HK.out hg4 (by omega)⟩

set_option maxRecDepth 100000 in
set_option maxHeartbeats 400000 in
theorem refText_any (A : Option Addr) (m cap B : Nat) (l : List UInt8) (s : ByteArray) (w : World) (hB : B ≤ w.heap.size) (hbig : m ≤ 35184372088832) (hs : s.size ≤ 35184372088832) (hr : RdB w B A m l) :
    Calls Tryz.prog 70 #[.slice A m cap, .string s] w (ResB w (l ++ digits s.size ++ s.data.toList)) := by
  obtain ⟨i0, hi0, hz0, hz1, hz2⟩ := info_parts Tryz.infoByte
  have hl := hr.len
  have hd := digits_len (n := s.size) (by omega)
  have hl2 : (l ++ digits s.size).length ≤ 35184372088900 := by rw [List.length_append]; omega
  have HL := Lib.hid hl
  clear hl hd
  go_enter Tryz.func70, Tryz.ntmps70
  go_wp2_with fail
  refine (refNumber_any _ _ _ _ _ _ _ hB hbig (by omega) hr).mono ?_
  rintro e w1 ⟨A1, c1, rfl, hown, hb⟩
  generalize hL1 : l ++ digits s.size = L1 at *
  have HL1 := Lib.hid hL1
  have HO := Lib.hid hown
  clear hown hL1
  go_wp2_with (at_builtin; refine wpList_app_str _ rfl (.tmp 8) (.tmp 9) _ _ rfl w.heap.size 5 i0 Tryz.underlying47 Tryz.underlying9 hi0 hz0 hz1 hz2 _ _ _ rfl HO.out _ rfl (by unfold maxLen; omega) (by omega) hb.size ?_; intro A2 c2 w2 hown2 hg2; generalize L1 ++ s.data.toList = L2 at *)
  go_ret
  exact ⟨A2, c2, rfl, hown2, below_app hb HO.out hg2 hb.size⟩

end Go.Proofs.YtdjcifeoplgkpaaGreat
namespace Go.Proofs.YtdjcifeoplgkpaaGreat
open Go.RowKit

set_option maxRecDepth 100000 in
set_option maxHeartbeats 1000000 in
theorem refBytes_any (s : Sp) (w : World) (hs : s.ok = true) :
    Calls Tryz.prog 85 #[s.val] w (ResB w s.enc) := by
  have hp := Sp.ok_parts hs
  have hnk := Sp.nums_ok hs
  have hen : (0 : Int) ≤ s.en - s.st ∧ s.en - s.st ≤ 1099511627776 := by omega
  go_enter Tryz.func85, Tryz.ntmps85
  go_wp2_with fail
  go_loopw [3, 21] (fun v i wr => ∃ k : Nat, k ≤ 5 ∧ i = .int .i64 k ∧ ∃ A' c B', v = .slice A' (numsEnc (s.nums.take k)).length c ∧ B' ≤ wr.heap.size ∧ RdB wr B' A' (numsEnc (s.nums.take k)).length (numsEnc (s.nums.take k)) ∧
      wr.heap[w.heap.size]? = some (.cells #[.int .i64 s.tr, .int .i64 s.id, .int .i64 s.pa, .int .i64 s.st, .int .i64 s.en, .string s.nm] 38 (0, 0)) ∧
      wr.heap[w.heap.size + 1]? = some (.cells (s.nums.map (Value.int .i64)).toArray 3 (0, 0)) ∧ Below w.heap.size w wr) (fun _ i _ => 5 - (intOf i).toNat)
  case atStart =>
    refine ⟨0, by omega, rfl, none, 0, 0, by simp [numsEnc], by simp, ?_, ?_, ?_, ?_⟩
    · have e : numsEnc (s.nums.take 0) = [] := by simp [numsEnc]
      rw [e]
      exact Rd.nil
    · exact blk_below ((Below.refl _ _).alloc (Nat.le_refl _) _) (by simp) (heap_alloc_new w _)
    · exact heap_at (by simp)
    · exact ((Below.refl _ _).alloc (Nat.le_refl _) _).alloc (by simp) _
  case round =>
    obtain ⟨k, hk, rfl, A', c, B', rfl, hB', hrd, h1, h2, hb⟩ := hrel
    have hk1 := numsEnc_len (s.nums.take k) fun z hz => by have := hnk z (List.mem_of_mem_take hz); omega
    have hk2 : (s.nums.take k).length ≤ 5 := by simp [Sp.nums]; omega
    have hm : (numsEnc (s.nums.take k)).length ≤ 17592186044416 + 45 := by omega
    have hsz := hb.size
    by_cases hlt : k < 5
    · have hkl : k < s.nums.length := hlt
      have hst : numsEnc (s.nums.take (k + 1)) = (numsEnc (s.nums.take k)) ++ digits (s.nums[k]).toNat := by rw [numsEnc_take _ _ hkl]
      obtain ⟨N, hN⟩ := Int.eq_ofNat_of_zero_le (hnk _ (List.getElem_mem hkl)).1
      have hN2 := (hnk _ (List.getElem_mem hkl)).2
      have hcell : wr.cell? ⟨w.heap.size + 1, k, none⟩ = some (.int .i64 N) := by
        rw [cell_of_row wr _ _ _ _ _ h2]; simp [hkl, hN]
      rw [hN] at hst hN2
      rw [Int.toNat_natCast] at hst
      generalize numsEnc (s.nums.take k) = Lk at *
      have HS := Lib.hid hst
      have H1 := Lib.hid h1
      have H2 := Lib.hid h2
      clear hst h1 h2 hN
      go_wp2_with fail
      refine (refNumber_any _ _ _ _ _ _ _ hB' (by omega) (by omega) hrd).mono ?_
      rintro e w1 ⟨A1, c1, rfl, hown, hb1⟩
      rw [← HS.out] at hown ⊢
      generalize hL1 : numsEnc (s.nums.take (k + 1)) = L1 at hown ⊢
      have HL1 := Lib.hid hL1
      have HO := Lib.hid hown
      clear hown hL1 hrd
      go_wp2_with fail
      go_roundw
      case rel =>
        refine ⟨k + 1, by omega, by go_num, A1, c1, w1.heap.size, by rw [HL1.out], Nat.le_refl _, by rw [HL1.out]; exact RdB.of_own HO.out, blk_below hb1 ?_ H1.out, blk_below hb1 ?_ H2.out, hb.trans (hb1.mono hsz)⟩
        · exact (Array.getElem?_eq_some_iff.1 H1.out).1
        · exact (Array.getElem?_eq_some_iff.1 H2.out).1
      case measure => simp [intOf]; omega

    · obtain rfl : k = 5 := by omega
      have hcell : ∀ j, wr.cell? ⟨w.heap.size, j, none⟩ = _ := blk_cell h1
      have he : numsEnc (s.nums.take 5) ++ digits s.nm.size ++ s.nm.data.toList = s.enc := by
        rw [List.take_of_length_le (by simp [Sp.nums])]; simp [Sp.enc]
      generalize numsEnc (s.nums.take 5) = Lk at *
      have HE := Lib.hid he
      clear he h1 h2
      go_wp2_with fail
      refine (refText_any _ _ _ _ _ _ _ hB' (by omega) (by omega) hrd).mono ?_
      rintro e w1 ⟨A1, c1, rfl, hown, hb1⟩
      rw [HE.out] at hown ⊢
      generalize s.enc = L1 at *
      have HO := Lib.hid hown
      clear hown hrd
      go_wp2_with fail
      go_ret
      exact ⟨A1, c1, rfl, own_le HO.out hsz, hb.trans (hb1.mono hsz)⟩
set_option maxRecDepth 100000 in
set_option maxHeartbeats 1000000 in
theorem refPut_any (A : Option Addr) (n cap B : Nat) (l : List Sp) (w : World) (hB : B ≤ w.heap.size) (hbig : n ≤ 4294967296) (hnm : ∀ s ∈ l, s.nm.size ≤ 140737488355328) (hr : RdS w B A n l) :
    Calls Tryz.prog 68 #[.slice A n cap] w (ResBE w (putAns l)) := by
  obtain ⟨i0, hi0, hz0, hz1, hz2⟩ := info_parts Tryz.infoByte
  have hlen := hr.len
  subst hlen
  go_enter Tryz.func68, Tryz.ntmps68
  go_wp2_with fail
  refine (refNumber_any _ _ _ 0 [] _ _ (by omega) (by omega) (by omega) Rd.nil).mono ?_
  rintro e w1 ⟨A1, c1, rfl, hown, hb1⟩
  rw [List.nil_append] at hown ⊢
  have HO := Lib.hid (RdB.of_own hown)
  have hown' := hown
  clear hown
  have HOW := Lib.hid hown'
  clear hown'
  have hsz1 := hb1.size
  go_wp2_with fail
  go_loopw [4, 12] (fun v i wr => ∃ k : Nat, k ≤ l.length ∧ i = .int .i64 k ∧ (l.take k).all Sp.ok = true ∧ ∃ A' c, v = .slice A' (digits l.length ++ encL (l.take k)).length c ∧
      wr.ownsRow w.heap.size 5 1 (.slice A' (digits l.length ++ encL (l.take k)).length c) (digits l.length ++ encL (l.take k)).length ((digits l.length ++ encL (l.take k)).map u8v) ∧ Below w.heap.size w wr) (fun _ i _ => l.length - (intOf i).toNat)
  case atStart =>
    refine ⟨0, by omega, rfl, rfl, A1, c1, by simp [encL], ?_, hb1⟩
    have e : digits l.length ++ encL (l.take 0) = digits l.length := by simp [encL]
    rw [e]; exact HOW.out
  case round =>
    obtain ⟨k, hk, rfl, hall, A', c, rfl, hown, hb⟩ := hrel
    have HA := Lib.hid hall
    clear hall
    by_cases hlt : k < l.length
    · obtain ⟨b, off, rfl, hbB, q0, q1, q2, q3, q4, q5⟩ := hr.at_ hlt
      have hbw : b < w.heap.size := by omega
      rw [← hb.cell hbw] at q0 q1 q2 q3 q4 q5
      have hsz := hb.size
      have hst : digits l.length ++ encL (l.take (k + 1)) = (digits l.length ++ encL (l.take k)) ++ l[k].enc := by rw [encL_take _ _ hlt, List.append_assoc]
      have hlk : (digits l.length ++ encL (l.take k)).length ≤ 1000000000000 := by
        have h1 := encL_len (l.take k) (fun s hs => List.all_eq_true.1 HA.out s hs)
        have h2 := digits_len (n := l.length) (by omega)
        rw [List.length_take] at h1
        rw [List.length_append]; omega
      generalize digits l.length ++ encL (l.take k) = Lk at *
      have HS := Lib.hid hst
      have HO2 := Lib.hid hown
      have hnk := hnm _ (List.getElem_mem hlt)
      have HTK := Lib.hid (all_take_succ l Sp.ok k hlt)
      have HALL : Hid (l[k].ok = false → l.all Sp.ok = false) := Lib.hid (all_false_of l Sp.ok k hlt)
      generalize l[k] = s at *
      clear hst hown hr hnm
      go_wp2_with fail
      refine (refCheck_any s _ hnk).mono ?_
      rintro e w2 ⟨rfl, hb2⟩
      have hB2 := blk_cell (blk_below hb2 (by simp) (heap_alloc_new wr _))
      have hbw2 : Below wr.heap.size wr w2 := ((Below.refl _ _).alloc (Nat.le_refl _) _).trans (hb2.mono (by simp))
      have hzz : wr.heap.size < w2.heap.size := by have := hb2.size; simp at this; omega
      clear hb2
      cases hok : s.ok
      · have hc : s.check = 30 := Sp.check_f hok
        rw [hc]
        have HF := Lib.hid (HALL.out hok)
        clear hok hc
        go_wp2_with fail
        go_ret2
        refine ⟨none, 0, ?_, ?_, hb.trans (hbw2.mono hsz)⟩
        · simp [putAns, HF.out]
        · have e : (putAns l).1 = [] := by simp [putAns, HF.out]
          rw [e]
          exact World.ownsRow_nil _ _ _ _
      · have hc : s.check = 0 := Sp.check_t hok
        rw [hc]
        have HK := Lib.hid hok
        have hel := Sp.enc_len HK.out
        clear hok hc
        go_wp2_with fail
        refine (refBytes_any s _ HK.out).mono ?_
        rintro e w3 ⟨A3, c3, rfl, hown3, hb3⟩
        have hrd3 := RdB.of_own hown3
        have HO4 := Lib.hid (own_below (own_below HO2.out hbw2) hb3)
        have hbw3 : Below w.heap.size w w3 := (hb.trans (hbw2.mono hsz)).trans (hb3.mono (by omega))
        have hsz3 := hbw3.size
        clear hown3
        go_wp2_with (at_builtin; refine wpList_app _ rfl (.tmp 19) (.tmp 21) _ rfl w.heap.size 5 i0 _ 1 1 Tryz.underlying47 hi0 hz0 hz1 hz2 rfl (by omega) _ _ _ _ rfl HO4.out _ _ _ _ _ rfl hrd3 (u8v_oneCell _) (by unfold maxLen; omega) (by omega) hsz3 ?_; intro A4 c4 w4 hown4 hg4 _)
        have hbw4 := below_app hbw3 HO4.out hg4 hsz3
        rw [← List.map_append, ← HS.out] at hown4
        have HLn : Hid ((digits l.length ++ encL (l.take (k + 1))).length = Lk.length + s.enc.length) := Lib.hid (by rw [HS.out, List.length_append])
        rw [← HLn.out] at hown4
        go_roundw
        case rel => exact ⟨k + 1, by omega, by go_num, by rw [HTK.out, HA.out, HK.out]; rfl, A4, c4, by rw [HLn.out], hown4, hbw4⟩
        case measure => simp [intOf]; omega
    · have e : l.take k = l := List.take_of_length_le (by omega)
      rw [e] at HA hown ⊢
      have HP : Hid (putAns l = (digits l.length ++ encL l, 0)) := Lib.hid (by simp [putAns, HA.out, putEnc])
      generalize digits l.length ++ encL l = Lk at *
      have HO2 := Lib.hid hown
      clear hown e
      go_wp2_with fail
      go_ret2
      refine ⟨A', c, by rw [HP.out]; rfl, by rw [HP.out]; exact HO2.out, hb⟩
end Go.Proofs.YtdjcifeoplgkpaaGreat
