/-
  The walk of wire.Number: it puts a number's groups behind bytes. Conditions: the bytes read as a list, not longer than memory bears; the number is an int.
-/
import Derived.Test.YtdjcifeoplgkpaaJoin
import Derived.Test.YtdjcifeoplgkpaaDigits
import Derived.Laws.BitsAllLaws
namespace Go.Proofs.Ytdjcifeoplgkpaa
open Go.RowKit

theorem ofInt_i64 (a : Nat) (ha : a < 9223372036854775808) : (BitVec.ofInt 64 (a : Int)).toNat = a := by
  rw [BitVec.ofInt_natCast, BitVec.toNat_ofNat]; exact Nat.mod_eq_of_lt (by omega)
theorem and127 (a : Nat) (ha : a < 9223372036854775808) : bits .and .i64 (a : Int) 127 = ((a % 128 : Nat) : Int) := by
  have h2 : (BitVec.ofInt 64 (127 : Int)).toNat = 127 := by decide
  have e : a &&& 127 = a % 128 := Nat.and_two_pow_sub_one_eq_mod a 7
  show IntKind.i64.wrap ((BitVec.ofInt 64 (a : Int) &&& BitVec.ofInt 64 (127 : Int)).toNat : Int) = _
  rw [BitVec.toNat_and, ofInt_i64 a ha, h2, e, IntKind.wrap_i64]
  omega
theorem or128 (a : Nat) (ha : a < 128) : bits .or .u8 (a : Int) 128 = (a : Int) + 128 := by
  have e : a ||| 128 = a + 128 := by
    have h : 128 + a = 128 ||| a := Nat.two_pow_add_eq_or_of_lt (i := 7) (b := a) (by omega) 1
    rw [Nat.or_comm]; omega
  rw [show (128 : Int) = ((128 : Nat) : Int) from rfl, u8_or_nat a 128 (by omega) (by omega), e]; omega
theorem or128' (a : Nat) : bits .or .u8 ((a : Int) % 128) 128 = (a : Int) % 128 + 128 := by
  have := or128 (a % 128) (by omega)
  rwa [Int.natCast_emod] at this

set_option maxRecDepth 100000 in
set_option maxHeartbeats 1000000 in
theorem number_nat (A : Option Addr) (m cap B : Nat) (l : List UInt8) (N : Nat) (w : World) (hB : B ≤ w.heap.size) (hbig : m ≤ 35184372088832) (hn2 : N ≤ 9223372036854775807) (hr : RdB w B A m l) :
    Calls Try.prog 32 #[.slice A m cap, .int .i64 N] w (ResB w (l ++ digits N)) := by
  have h7 := and127 N (by omega)
  have HN : Hid (digits N = dhi (N / 128) ++ [UInt8.ofNat (N % 128)]) := Lib.hid rfl
  go_enter Try.func32, Try.ntmps32
  go_wp2_with fail
  go_loopw [1, 6] (fun c i wr => ∃ (cur at_ : Nat) (L : List UInt8) (cs : Array Value), c = .int .i64 cur ∧ i = .int .i64 at_ ∧ at_ ≤ 8 ∧ cur ≤ N ∧ cur < 128 ^ at_ ∧ digits N = dhi cur ++ L ∧ L.length = 9 - at_ ∧
      wr.heap[w.heap.size]? = some (.cells cs 94 (0, 0)) ∧ cs.size = 9 ∧ cs.toList.drop at_ = L.map u8v ∧ Below w.heap.size w wr) (fun c _ _ => (intOf c).toNat)
  case atStart =>
    refine ⟨N / 128, 8, [UInt8.ofNat (N % 128)], _, by go_num, rfl, by omega, by omega, by omega, HN.out, rfl, heap_alloc_new w _, rfl, ?_, (Below.refl _ _).alloc (Nat.le_refl _) _⟩
    simp [u8v, Nat.mod_eq_of_lt (show N % 128 < 256 by omega)]
  case round =>
    obtain ⟨cur, at_, L, cs, rfl, rfl, hat, hcn, hlt, hd, hL, hblk, hcs, hdrop, hb⟩ := hrel
    by_cases h0 : 0 < cur
    · obtain ⟨q, rfl⟩ : ∃ q, at_ = q + 1 := by
        refine ⟨at_ - 1, ?_⟩
        rcases Nat.eq_zero_or_pos at_ with h | h
        · subst h; simp at hlt; omega
        · omega
      have hcell : ∃ v0, wr.cell? ⟨w.heap.size, q, none⟩ = some v0 := ⟨_, by rw [cell_of_row wr _ _ _ _ _ hblk]; exact Array.getElem?_eq_getElem (by omega)⟩
      obtain ⟨v0, hcell⟩ := hcell
      have hfr : wr.frozen? ⟨w.heap.size, q, none⟩ = false := by simp [World.frozen?, hblk]
      have h7 := and127 cur (by omega)
      have h8 := or128' cur
      have hset := drop_set (v := Value.int .u8 ((cur : Int) % 128 + 128)) (by omega) hdrop
      have hd' : digits N = dhi (cur / 128) ++ (UInt8.ofNat (cur % 128 + 128) :: L) := by rw [hd, dhi_pos h0]; simp
      have HD := Lib.hid hd'
      have HS := Lib.hid hset
      have HL := Lib.hid hL
      have HC := Lib.hid hcs
      have HB := Lib.hid (blk_set hblk q (Value.int .u8 ((cur : Int) % 128 + 128)))
      clear hd hd' hset hL hdrop hcs hblk hr HN
      go_wp2_with fail
      have hp : cur / 128 < 128 ^ q := by rw [Nat.div_lt_iff_lt_mul (by omega)]; rw [Nat.pow_succ] at hlt; exact hlt
      refine ⟨⟨cur / 128, q, UInt8.ofNat (cur % 128 + 128) :: L, _, by go_num, rfl, by omega, by omega, hp, HD.out, by rw [List.length_cons, HL.out]; omega, HB.out, by rw [Array.size_setIfInBounds]; exact HC.out, ?_, hb.setCell (Nat.le_refl _) _⟩, ?_⟩
      · rw [HS.out, List.map_cons]
        congr 1
        simp [u8v, Nat.mod_eq_of_lt (show cur % 128 + 128 < 256 by omega)]
      · simp [intOf]; omega
    · obtain rfl : cur = 0 := by omega
      rw [dhi_zero, List.nil_append] at hd
      subst hd
      have hi1 : (0 : Int) ≤ (at_ : Int) := by omega
      have hi2 : (at_ : Int) ≤ 9 := by omega
      have HL := Lib.hid hL
      have HD := Lib.hid hdrop
      have HC := Lib.hid hcs
      have HB := Lib.hid hblk
      clear hL hdrop hcs hblk
      go_wp2_with fail
      have hp : RdP (wr.alloc (.cells #[.slice A m cap, .slice (some ⟨w.heap.size, at_, none⟩) (9 - at_) (9 - at_)] 27)) (wr.heap.size + 1) (some ⟨wr.heap.size, 0, none⟩) 2
          [⟨A, m, cap, l⟩, ⟨some ⟨w.heap.size, at_, none⟩, 9 - at_, 9 - at_, digits N⟩] := by
        refine ⟨Rd.new rfl (by simp) (by simp [Part.val]), fun p hp => ?_⟩
        simp only [List.mem_cons, List.not_mem_nil, or_false] at hp
        have hs := hb.size
        rcases hp with rfl | rfl
        · exact Rd.alloc (Rd.below' hr hb hB (Nat.le_refl _)) _ (by omega) (by omega)
        · refine Rd.alloc (B := w.heap.size + 1) (Rd.of_off HB.out (by omega) (by rw [List.length_map, HL.out]; simp) HD.out) _ ?_ ?_
          · have := (Array.getElem?_eq_some_iff.1 HB.out).1; omega
          · have := (Array.getElem?_eq_some_iff.1 HB.out).1; omega
      have hlen : l.length = m := RdB.len hr
      refine (join_any _ _ _ _ _ _ (by simp) (by simp [total, HL.out]; omega) (by omega) hp).mono ?_
      rintro e w2 ⟨A2, c2, rfl, hown, hb2⟩
      have hj : (joined [⟨A, m, cap, l⟩, ⟨some ⟨w.heap.size, at_, none⟩, 9 - at_, 9 - at_, digits N⟩]) = l ++ digits N := by simp [joined]
      rw [hj] at hown ⊢
      generalize hL2 : l ++ digits N = L2 at hown ⊢
      have HL2 := Lib.hid hL2
      have HO := Lib.hid hown
      have HB2 : Below w.heap.size w w2 := (hb.alloc hb.size _).trans (hb2.mono (by simp; have := hb.size; omega))
      clear hown hp hj hb2 hL2
      go_wp2_with fail
      go_ret
      rw [HL2.out]
      exact ⟨A2, c2, rfl, own_le HO.out (by simp; have := hb.size; omega), HB2⟩
end Go.Proofs.Ytdjcifeoplgkpaa
