/-
  The walks of span.put and span.Put: a span's bytes behind bytes. Conditions: what comes in reads as a list, not longer than memory bears; the span may be.
-/
import Derived.Test.YtempkjnaahgbhaaGreatDoorText
import Derived.Test.YtempkjnaahgbhaaGreatDoorCheck
import Derived.Test.YtempkjnaahgbhaaGreatDoorSpanRow
namespace Go.Proofs.YtempkjnaahgbhaaGreatDoor
open Go.RowKit

def numsEnc (zs : List Int) : List UInt8 := zs.flatMap fun z => digits z.toNat
def Sp.nums (s : Sp) : List Int := [s.tr, s.id, s.pa, s.st, s.en - s.st]
/-- A span's bytes. -/
def Sp.enc (s : Sp) : List UInt8 := numsEnc s.nums ++ digits s.nm.size ++ s.nm.data.toList
theorem numsEnc_take (zs : List Int) (k : Nat) (h : k < zs.length) : numsEnc (zs.take (k + 1)) = numsEnc (zs.take k) ++ digits (zs[k]).toNat := by
  rw [List.take_succ_eq_append_getElem h]; simp only [numsEnc, List.flatMap_append, List.flatMap_cons, List.flatMap_nil, List.append_nil]
theorem numsEnc_len (zs : List Int) (hz : ∀ z ∈ zs, z ≤ 9223372036854775807) : (numsEnc zs).length ≤ 9 * zs.length := by
  induction zs with
  | nil => simp [numsEnc]
  | cons z zs ih =>
    have h1 := digits_len (n := z.toNat) (by have := hz z (by simp); omega)
    have h2 := ih fun z h => hz z (by simp [h])
    simp only [numsEnc, List.flatMap_cons, List.length_append, List.length_cons] at h2 ⊢
    omega
theorem Sp.ok_parts {s : Sp} (h : s.ok = true) : 1 ≤ s.nm.size ∧ s.nm.size ≤ 32 ∧ 1 ≤ s.tr ∧ s.tr ≤ 1099511627776 ∧ 1 ≤ s.id ∧ s.id ≤ 1099511627776 ∧ 0 ≤ s.pa ∧ s.pa ≤ 1099511627776 ∧ 0 ≤ s.st ∧ s.st ≤ 1099511627776 ∧ 0 ≤ s.en ∧ s.en ≤ 1099511627776 ∧ s.pa ≠ s.id ∧ s.st ≤ s.en := by
  simp only [Sp.ok, Bool.and_eq_true, decide_eq_true_eq, allIn, List.all_cons, List.all_nil, inB_iff, Bool.and_true] at h
  obtain ⟨⟨⟨⟨⟨⟨h1, h2⟩, h3⟩, h4, h5⟩, h6, h7, h8⟩, h9⟩, h10⟩ := h
  omega
theorem Sp.nums_ok {s : Sp} (h : s.ok = true) : ∀ z ∈ s.nums, 0 ≤ z ∧ z ≤ 1099511627776 := by
  have := Sp.ok_parts h
  intro z hz
  simp only [Sp.nums, List.mem_cons, List.not_mem_nil, or_false] at hz
  rcases hz with rfl | rfl | rfl | rfl | rfl <;> omega
theorem Sp.enc_len {s : Sp} (h : s.ok = true) : s.enc.length ≤ 86 := by
  have h1 := numsEnc_len s.nums fun z hz => by have := Sp.nums_ok h z hz; omega
  have h2 := Sp.ok_parts h
  have h3 := digits_len (n := s.nm.size) (by omega)
  have h4 : s.nums.length = 5 := rfl
  simp only [Sp.enc, List.length_append, Array.length_toList, ByteArray.size_data]
  omega

set_option maxRecDepth 100000 in
set_option maxHeartbeats 1000000 in
theorem put_any (A : Option Addr) (m cap B : Nat) (l : List UInt8) (s : Sp) (w : World) (hB : B ≤ w.heap.size) (hbig : m ≤ 17592186044416) (hs : s.ok = true) (hr : RdB w B A m l) :
    Calls Tryz.prog 102 #[.slice A m cap, s.val] w (ResB w (l ++ s.enc)) := by
  have hp := Sp.ok_parts hs
  have hnk := Sp.nums_ok hs
  have hlen := hr.len
  have HL := Lib.hid hlen
  clear hlen
  have hen : (0 : Int) ≤ s.en - s.st ∧ s.en - s.st ≤ 1099511627776 := by omega
  go_enter Tryz.func102, Tryz.ntmps102
  go_wp2_with fail
  go_loopw [0, 22] (fun v i wr => ∃ k : Nat, k ≤ 5 ∧ i = .int .i64 k ∧ ∃ A' c B', v = .slice A' (l ++ numsEnc (s.nums.take k)).length c ∧ B' ≤ wr.heap.size ∧ RdB wr B' A' (l ++ numsEnc (s.nums.take k)).length (l ++ numsEnc (s.nums.take k)) ∧
      wr.heap[w.heap.size]? = some (.cells #[.int .i64 s.tr, .int .i64 s.id, .int .i64 s.pa, .int .i64 s.st, .int .i64 s.en, .string s.nm] 30 (0, 0)) ∧
      wr.heap[w.heap.size + 1]? = some (.cells (s.nums.map (Value.int .i64)).toArray 3 (0, 0)) ∧ Below w.heap.size w wr) (fun _ i _ => 5 - (intOf i).toNat)
  case atStart => 
    refine ⟨0, by omega, rfl, A, cap, B, by simp [numsEnc, HL.out], by simp; omega, ?_, ?_, ?_, ?_⟩
    · have e : l ++ numsEnc (s.nums.take 0) = l := by simp [numsEnc]
      rw [e, HL.out]
      exact (Rd.alloc hr _ hB (Nat.le_refl _)).alloc _ (by simp; omega) (Nat.le_refl _)
    · exact blk_below ((Below.refl _ _).alloc (Nat.le_refl _) _) (by simp) (heap_alloc_new w _)
    · exact heap_at (by simp)
    · exact ((Below.refl _ _).alloc (Nat.le_refl _) _).alloc (by simp) _
  case round =>
    obtain ⟨k, hk, rfl, A', c, B', rfl, hB', hrd, h1, h2, hb⟩ := hrel
    have hk1 := numsEnc_len (s.nums.take k) fun z hz => by have := hnk z (List.mem_of_mem_take hz); omega
    have hk2 : (s.nums.take k).length ≤ 5 := by simp [Sp.nums]; omega
    have hm : (l ++ numsEnc (s.nums.take k)).length ≤ 17592186044416 + 45 := by rw [List.length_append, HL.out]; omega
    have hsz := hb.size
    by_cases hlt : k < 5
    · have hkl : k < s.nums.length := hlt
      have hst : l ++ numsEnc (s.nums.take (k + 1)) = (l ++ numsEnc (s.nums.take k)) ++ digits (s.nums[k]).toNat := by rw [numsEnc_take _ _ hkl, List.append_assoc]
      obtain ⟨N, hN⟩ := Int.eq_ofNat_of_zero_le (hnk _ (List.getElem_mem hkl)).1
      have hN2 := (hnk _ (List.getElem_mem hkl)).2
      have hcell : wr.cell? ⟨w.heap.size + 1, k, none⟩ = some (.int .i64 N) := by
        rw [cell_of_row wr _ _ _ _ _ h2]; simp [hkl, hN]
      rw [hN] at hst hN2
      rw [Int.toNat_natCast] at hst
      generalize l ++ numsEnc (s.nums.take k) = Lk at *
      have HS := Lib.hid hst
      have H1 := Lib.hid h1
      have H2 := Lib.hid h2
      clear hst h1 h2 hN hr
      go_wp2_with fail
      refine (number_nat _ _ _ _ _ _ _ hB' (by omega) (by omega) hrd).mono ?_
      rintro e w1 ⟨A1, c1, rfl, hown, hb1⟩
      rw [← HS.out] at hown ⊢
      generalize hL1 : l ++ numsEnc (s.nums.take (k + 1)) = L1 at hown ⊢
      have HL1 := Lib.hid hL1
      have HO := Lib.hid hown
      clear hown hL1 hrd
      go_wp2_with fail
      go_roundw
      case rel =>
        refine ⟨k + 1, by omega, by go_num, A1, c1, w1.heap.size, by rw [HL1.out], Nat.le_refl _, by rw [HL1.out]; exact RdB.of_own HO.out, blk_below hb1 ?_ H1.out, blk_below hb1 ?_ H2.out, hb.trans (hb1.mono hsz)⟩
        · exact (Array.getElem?_eq_some_iff.1 H1.out).1
        · exact (Array.getElem?_eq_some_iff.1 H2.out).1
      case measure => simp [intOf]; omega

    · obtain rfl : k = 5 := by omega
      have hcell : ∀ j, wr.cell? ⟨w.heap.size, j, none⟩ = _ := blk_cell h1
      have he : l ++ numsEnc (s.nums.take 5) ++ digits s.nm.size ++ s.nm.data.toList = l ++ s.enc := by
        rw [List.take_of_length_le (by simp [Sp.nums])]; simp [Sp.enc]
      generalize l ++ numsEnc (s.nums.take 5) = Lk at *
      have HE := Lib.hid he
      clear he h1 h2 hr
      go_wp2_with fail
      refine (text_any _ _ _ _ _ _ _ hB' (by omega) (by omega) hrd).mono ?_
      rintro e w1 ⟨A1, c1, rfl, hown, hb1⟩
      rw [HE.out] at hown ⊢
      generalize l ++ s.enc = L1 at *
      have HO := Lib.hid hown
      clear hown hrd
      go_wp2_with fail
      go_ret
      exact ⟨A1, c1, rfl, own_le HO.out hsz, hb.trans (hb1.mono hsz)⟩

/-- All spans' bytes, behind how many there are. -/
def encL (l : List Sp) : List UInt8 := l.flatMap Sp.enc
def putEnc (l : List Sp) : List UInt8 := digits l.length ++ encL l
theorem encL_take (l : List Sp) (k : Nat) (h : k < l.length) : encL (l.take (k + 1)) = encL (l.take k) ++ l[k].enc := by
  rw [List.take_succ_eq_append_getElem h]; simp only [encL, List.flatMap_append, List.flatMap_cons, List.flatMap_nil, List.append_nil]
theorem encL_len (l : List Sp) (h : ∀ s ∈ l, s.ok = true) : (encL l).length ≤ 86 * l.length := by
  induction l with
  | nil => simp [encL]
  | cons s l ih =>
    have h1 := Sp.enc_len (h s (by simp))
    have h2 := ih fun s hs => h s (by simp [hs])
    simp only [encL, List.flatMap_cons, List.length_append, List.length_cons] at h2 ⊢
    omega
/-- The answer of Put. -/
def putAns (l : List Sp) : List UInt8 × Int := if l.all Sp.ok then (putEnc l, 0) else ([], 30)
/-- What a call leaves that answers bytes and an error. -/
def ResBE (w : World) (r : List UInt8 × Int) (e : Ending) (w' : World) : Prop :=
  ∃ A c, e = .returned (.tuple #[.slice A r.1.length c, .int .i64 r.2]) ∧ w'.ownsRow w.heap.size 5 1 (.slice A r.1.length c) r.1.length (r.1.map u8v) ∧ Below w.heap.size w w'

set_option maxRecDepth 100000 in
set_option maxHeartbeats 1000000 in
theorem Put_any (A : Option Addr) (n cap B : Nat) (l : List Sp) (w : World) (hB : B ≤ w.heap.size) (hbig : n ≤ 4294967296) (hnm : ∀ s ∈ l, s.nm.size ≤ 140737488355328) (hr : RdS w B A n l) :
    Calls Tryz.prog 53 #[.slice A n cap] w (ResBE w (putAns l)) := by
  have hlen := hr.len
  subst hlen
  go_enter Tryz.func53, Tryz.ntmps53
  go_wp2_with fail
  refine (number_nat _ _ _ 0 [] _ _ (by omega) (by omega) (by omega) Rd.nil).mono ?_
  rintro e w1 ⟨A1, c1, rfl, hown, hb1⟩
  rw [List.nil_append] at hown ⊢
  have HO := Lib.hid (RdB.of_own hown)
  have hown' := hown
  clear hown
  have HOW := Lib.hid hown'
  clear hown'
  have hsz1 := hb1.size
  go_wp2_with fail
  go_loopw [4, 13] (fun v i wr => ∃ k : Nat, k ≤ l.length ∧ i = .int .i64 k ∧ (l.take k).all Sp.ok = true ∧ ∃ A' c, v = .slice A' (digits l.length ++ encL (l.take k)).length c ∧
      wr.ownsRow w.heap.size 5 1 (.slice A' (digits l.length ++ encL (l.take k)).length c) (digits l.length ++ encL (l.take k)).length ((digits l.length ++ encL (l.take k)).map u8v) ∧ Below w.heap.size w wr) (fun _ i _ => l.length - (intOf i).toNat)
  case atStart =>
    refine ⟨0, by omega, rfl, rfl, A1, c1, by simp [encL], ?_, hb1⟩
    have e : digits l.length ++ encL (l.take 0) = digits l.length := by simp [encL]
    rw [e]; exact HOW.out
  case round =>
    obtain ⟨k, hk, rfl, hall, A', c, rfl, hown, hb⟩ := hrel
    have HA := Lib.hid hall
    clear hall
    by_cases hlt : k < l.length
    · obtain ⟨b, off, rfl, hbB, q0, q1, q2, q3, q4, q5⟩ := hr.at_ hlt
      have hbw : b < w.heap.size := by omega
      rw [← hb.cell hbw] at q0 q1 q2 q3 q4 q5
      have hsz := hb.size
      have hst : digits l.length ++ encL (l.take (k + 1)) = (digits l.length ++ encL (l.take k)) ++ l[k].enc := by rw [encL_take _ _ hlt, List.append_assoc]
      have hlk : (digits l.length ++ encL (l.take k)).length ≤ 1000000000000 := by
        have h1 := encL_len (l.take k) (fun s hs => List.all_eq_true.1 HA.out s hs)
        have h2 := digits_len (n := l.length) (by omega)
        rw [List.length_take] at h1
        rw [List.length_append]; omega
      generalize digits l.length ++ encL (l.take k) = Lk at *
      have HS := Lib.hid hst
      have HO2 := Lib.hid hown
      have hnk := hnm _ (List.getElem_mem hlt)
      have HTK := Lib.hid (all_take_succ l Sp.ok k hlt)
      have HALL : Hid (l[k].ok = false → l.all Sp.ok = false) := Lib.hid (all_false_of l Sp.ok k hlt)
      generalize l[k] = s at *
      clear hst hown hr hnm
      go_wp2_with fail
      refine (check_any s _ hnk).mono ?_
      rintro e w2 ⟨rfl, hb2⟩
      have hB2 := blk_cell (blk_below hb2 (by simp) (heap_alloc_new wr _))
      have hbw2 : Below wr.heap.size wr w2 := ((Below.refl _ _).alloc (Nat.le_refl _) _).trans (hb2.mono (by simp))
      have hzz : wr.heap.size < w2.heap.size := by have := hb2.size; simp at this; omega
      clear hb2
      cases hok : s.ok
      · have hc : s.check = 30 := Sp.check_f hok
        rw [hc]
        have HF := Lib.hid (HALL.out hok)
        clear hok hc
        go_wp2_with fail
        go_ret2
        refine ⟨none, 0, ?_, ?_, hb.trans (hbw2.mono hsz)⟩
        · simp [putAns, HF.out]
        · have e : (putAns l).1 = [] := by simp [putAns, HF.out]
          rw [e]
          exact World.ownsRow_nil _ _ _ _
      · have hc : s.check = 0 := Sp.check_t hok
        rw [hc]
        have HK := Lib.hid hok
        have hrd := RdB.of_own (own_below HO2.out hbw2)
        clear hok hc
        go_wp2_with fail
        refine (put_any _ _ _ _ _ s _ (Nat.le_refl _) (by omega) HK.out hrd).mono ?_
        rintro e w3 ⟨A3, c3, rfl, hown3, hb3⟩
        rw [← HS.out] at hown3 ⊢
        generalize hL3 : digits l.length ++ encL (l.take (k + 1)) = L3 at hown3 ⊢
        have HL3 := Lib.hid hL3
        have HO3 := Lib.hid hown3
        clear hL3 hown3 hrd
        go_wp2_with fail
        go_roundw
        case rel => exact ⟨k + 1, by omega, by go_num, by rw [HTK.out, HA.out, HK.out]; rfl, A3, c3, by rw [HL3.out], by rw [HL3.out]; exact own_le HO3.out (by omega), (hb.trans (hbw2.mono hsz)).trans (hb3.mono (by omega))⟩
        case measure => simp [intOf]; omega
    · have e : l.take k = l := List.take_of_length_le (by omega)
      rw [e] at HA hown ⊢
      have HP : Hid (putAns l = (digits l.length ++ encL l, 0)) := Lib.hid (by simp [putAns, HA.out, putEnc])
      generalize digits l.length ++ encL l = Lk at *
      have HO2 := Lib.hid hown
      clear hown e
      go_wp2_with fail
      go_ret2
      refine ⟨A', c, by rw [HP.out]; rfl, by rw [HP.out]; exact HO2.out, hb⟩
end Go.Proofs.YtempkjnaahgbhaaGreatDoor
