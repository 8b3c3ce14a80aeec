/-
  The walks of a Scan's Number, Text and End, and of Over. Conditions: the Scan lies in memory as Over made it.
-/
import Derived.Test.YtdjcifeoplgkpaaScan
namespace Go.Proofs.Ytdjcifeoplgkpaa
open Go.RowKit

theorem and127u8 (x : Nat) (hx : x < 256) : bits .and .u8 (x : Int) 127 = (x : Int) % 128 := by
  rw [show (127 : Int) = ((127 : Nat) : Int) from rfl, u8_and_nat x 127 hx (by omega)]
  have e : x &&& 127 = x % 128 := Nat.and_two_pow_sub_one_eq_mod x 7
  rw [e]; omega
theorem or_low (n x : Nat) (hn : n * 128 < 9223372036854775808) : bits .or .i64 ((n : Int) * 128) ((x : Int) % 128) = (n : Int) * 128 + (x : Int) % 128 := by
  have h1 : ((n : Int) * 128) = ((n * 128 : Nat) : Int) := by omega
  have h2 : ((x : Int) % 128) = ((x % 128 : Nat) : Int) := by omega
  have e : n * 128 ||| x % 128 = n * 128 + x % 128 := by
    have h : 2 ^ 7 * n + x % 128 = 2 ^ 7 * n ||| x % 128 := Nat.two_pow_add_eq_or_of_lt (i := 7) (b := x % 128) (by omega) n
    rw [Nat.mul_comm n 128]; exact h.symm
  rw [h1, h2]
  show IntKind.i64.wrap ((BitVec.ofInt 64 ((n * 128 : Nat) : Int) ||| BitVec.ofInt 64 ((x % 128 : Nat) : Int)).toNat : Int) = _
  rw [BitVec.toNat_or, ofInt_i64 _ (by omega), ofInt_i64 _ (by omega), e, IntKind.wrap_i64]
  omega
theorem rdNum_step {l : List UInt8} {k N : Nat} (hk : k < l.length) (h1 : ¬ (k = 0 ∧ (l[k]).toNat = 128)) (h2 : k ≠ 9) (h3 : 128 ≤ (l[k]).toNat) :
    rdNum k N (l.drop k) = rdNum (k + 1) (N * 128 + (l[k]).toNat % 128) (l.drop (k + 1)) := by
  rw [List.drop_eq_getElem_cons hk, rdNum, if_neg h1, if_neg h2, if_neg (by omega)]
theorem rdNum_last {l : List UInt8} {k N : Nat} (hk : k < l.length) (h1 : ¬ (k = 0 ∧ (l[k]).toNat = 128)) (h2 : k ≠ 9) (h3 : (l[k]).toNat < 128) :
    rdNum k N (l.drop k) = (N * 128 + (l[k]).toNat % 128, k + 1, 0) := by
  rw [List.drop_eq_getElem_cons hk, rdNum, if_neg h1, if_neg h2, if_pos h3]
theorem rdNum_form {l : List UInt8} {N : Nat} (hk : 0 < l.length) (h1 : (l[0]).toNat = 128) : rdNum 0 N (l.drop 0) = (0, 0, 10) := by
  rw [List.drop_eq_getElem_cons hk, rdNum, if_pos ⟨rfl, h1⟩]
theorem rdNum_range {l : List UInt8} {N : Nat} (hk : 9 < l.length) : rdNum 9 N (l.drop 9) = (0, 0, 5) := by
  rw [List.drop_eq_getElem_cons hk, rdNum, if_neg (by omega), if_pos rfl]
theorem rdNum_short {l : List UInt8} {k N : Nat} (hk : l.length ≤ k) : rdNum k N (l.drop k) = (0, 0, 2) := by
  rw [List.drop_of_length_le hk]; rfl

/-- What a method of a Scan leaves: an answer, the Scan at another place; but for it all stands. -/
def ResSc (w : World) (sb pb : Nat) (A : Option Addr) (c : Nat) (l : List UInt8) (v : Value) (at_ : Nat) (err : Int) (e : Ending) (w' : World) : Prop :=
  e = .returned v ∧ ScanAt w' sb pb A c l at_ err ∧ Fr (SP sb pb) w w'

set_option maxRecDepth 100000 in
set_option maxHeartbeats 1000000 in
theorem scanNumber_any {w : World} {sb pb c at_ : Nat} {A : Option Addr} {l : List UInt8} {err : Int} (h : ScanAt w sb pb A c l at_ err) :
    Calls Try.prog 50 #[.pointer (some ⟨sb, 0, none⟩)] w (ResSc w sb pb A c l (.int .i64 ((scNum l at_ err).1 : Nat)) (scNum l at_ err).2.1 (scNum l at_ err).2.2) := by
  have hc := blk_cell h.sc
  have hct := blk_cell h.st
  have HH := Lib.hid h
  have he0 := h.err0
  by_cases her : err = 0
  · subst her
    have hlen := h.len
    have hle := h.le
    clear h he0
    obtain ⟨L, hL⟩ : ∃ L, L = l.drop at_ := ⟨_, rfl⟩
    have hLl : L.length = l.length - at_ := by rw [hL]; simp
    have hrd : RdB w pb (cutA A c at_ 1) L.length L := by
      have := Rd.cut HH.out.rd HH.out.le HH.out.cap
      rw [hLl]
      rw [hL, RdB, List.map_drop]
      simpa [cutA] using this
    have HS : Hid (scNum l at_ 0 = ((rdNum 0 0 L).1, at_ + (rdNum 0 0 L).2.1, (rdNum 0 0 L).2.2)) := Lib.hid (by simp [scNum, hL])
    have HL := Lib.hid hLl
    clear hLl hL
    go_enter Try.func50, Try.ntmps50
    go_wp2_with (first | (go_at_call 66; refine (made_any HH.out).mono ?_; rintro e w' ⟨rfl, rfl⟩) | (go_at_call 67; refine (rest_any HH.out).mono ?_; rintro e w' ⟨rfl, n, rfl⟩; rw [← HL.out]))
    have HW := Lib.hid (HH.out.drewN n)
    have hf1 : Fr (SP sb pb) w (w.drewN n) := (Fr.refl _ _).drewN n
    have hrd1 : RdB (w.drewN n) pb (cutA A c at_ 1) L.length L := hrd
    have hc1 : ∀ j, (w.drewN n).cell? ⟨sb, j, none⟩ = _ := blk_cell HW.out.sc
    have hct1 : ∀ j, (w.drewN n).cell? ⟨pb, j, none⟩ = _ := blk_cell HW.out.st
    have hfz : (w.drewN n).frozen? ⟨pb, 1, none⟩ = false := blk_frozen HW.out.st 1
    clear hc hct hrd
    generalize w.drewN n = w1 at *
    go_loop [3, 22] (fun nn i => ∃ k N : Nat, k ≤ L.length ∧ i = .int .i64 k ∧ nn = .int .i64 N ∧ N < 128 ^ k ∧ k ≤ 9 ∧ rdNum 0 0 L = rdNum k N (L.drop k)) (fun _ i => L.length - (intOf i).toNat)
    case atStart => exact ⟨0, 0, by omega, rfl, rfl, by simp, by omega, rfl⟩
    case round =>
      obtain ⟨k, N, hk, rfl, rfl, hN, hk9, hR⟩ := hrel
      have HR := Lib.hid hR
      clear hR
      by_cases hlt : k < L.length
      · obtain ⟨b, off, hA, _, hcell⟩ := hrd1.at_ (k := k) hlt (by simpa using hlt)
        rw [List.getElem_map] at hcell
        unfold u8v at hcell
        rw [hA]
        have hx := (L[k]).toNat_lt
        have HLast := Lib.hid (@rdNum_last L k N hlt)
        have HStep := Lib.hid (@rdNum_step L k N hlt)
        have HForm : Hid (k = 0 → (L[k]).toNat = 128 → rdNum k N (L.drop k) = (0, 0, 10)) := Lib.hid (fun h0 h1 => by subst h0; exact rdNum_form hlt h1)
        have HRange : Hid (k = 9 → rdNum k N (L.drop k) = (0, 0, 5)) := Lib.hid (fun h0 => by subst h0; exact rdNum_range hlt)
        generalize (L[k]).toNat = x at *
        have HA := Lib.hid hA
        clear hA hrd1
        by_cases h1 : k = 0 ∧ x = 128
        · obtain ⟨rfl, rfl⟩ := h1
          simp only [Nat.add_zero] at hcell
          go_wp2_with (go_at_call 68; refine (fail_any _ HW.out).mono ?_; rintro e w' ⟨rfl, rfl⟩)
          go_ret
          have e := HR.out.trans (HForm.out (by trivial) (by trivial))
          rw [ResSc, HS.out, e]
          exact ⟨rfl, HW.out.setErr 10 (by omega), hf1.setCell (.inl rfl) _⟩
        · by_cases h2 : k = 9
          · have HH1 := Lib.hid h1
            clear h1
            subst h2
            go_wp2_with (go_at_call 68; refine (fail_any _ HW.out).mono ?_; rintro e w' ⟨rfl, rfl⟩)
            go_ret
            have e := HR.out.trans (HRange.out (by trivial))
            rw [ResSc, HS.out, e]
            exact ⟨rfl, HW.out.setErr 5 (by omega), hf1.setCell (.inl rfl) _⟩
          · have hp : N * 128 + x % 128 < 128 ^ (k + 1) := by rw [Nat.pow_succ]; omega
            have hp2 : 128 ^ (k + 1) ≤ 128 ^ 9 := Nat.pow_le_pow_right (by omega) (by omega)
            have hN128 : (N : Int) * 128 + (x : Int) % 128 ≤ 9223372036854775807 := by omega
            have hN0 : (0 : Int) ≤ (N : Int) * 128 := by omega
            have ha := and127u8 x (by omega)
            have hor := or_low N x (by omega)
            have h2b : ((k : Int) == 9) = false := by simp; omega
            have hkl : k + 1 ≤ l.length - at_ := by rw [← HL.out]; omega
            have h1b : ((k : Int) == 0) = false ∨ (((k : Int) == 0) = true ∧ ((x : Int) == 128) = false) := by
              by_cases h0 : k = 0
              · subst h0; right; simp; intro hx; exact h1 ⟨rfl, by omega⟩
              · left; simp; omega
            have HH1 := Lib.hid h1
            have HN := Lib.hid hN
            have h2' : Hid (k ≠ 9) := Lib.hid h2
            clear h1 h2 hN hp2
            by_cases h3 : x < 128
            · have h3i : (x : Int) < 128 := by omega
              have h3' : Hid (x < 128) := Lib.hid h3
              have HP := Lib.hid hp
              clear hp h3
              rcases h1b with h1b | ⟨h1b, h1c⟩
              all_goals
                go_wp2_with fail
                go_ret
                rw [ResSc, HS.out, HR.out, HLast.out HH1.out h2'.out h3'.out]
                refine ⟨ret_int (by omega), ?_, hf1.setCell (.inr rfl) _⟩
                have := HW.out.setAt (at_ + (k + 1)) (by omega)
                rwa [show (((at_ + (k + 1) : Nat)) : Int) = (at_ : Int) + ((k : Int) + 1) by omega] at this
            · have h3i : (128 : Int) ≤ (x : Int) := by omega
              have h3' : Hid (128 ≤ x) := Lib.hid (by omega)
              have HP := Lib.hid hp
              clear hp h3
              rcases h1b with h1b | ⟨h1b, h1c⟩
              all_goals
                go_wp2_with fail
                go_round
                case rel => exact ⟨k + 1, N * 128 + x % 128, by omega, by go_num, by go_num, HP.out, by have := h2'.out; omega, HR.out.trans (HStep.out HH1.out h2'.out h3'.out)⟩
                case measure => simp [intOf]; omega
      · go_wp2_with (go_at_call 68; refine (fail_any _ HW.out).mono ?_; rintro e w' ⟨rfl, rfl⟩)
        go_ret
        rw [ResSc, HS.out, HR.out, rdNum_short (by omega)]
        exact ⟨rfl, HW.out.setErr 2 (by omega), hf1.setCell (.inl rfl) _⟩
  · have HS : Hid (scNum l at_ err = (0, at_, err)) := Lib.hid (by simp [scNum, her])
    have hb : (err == 0) = false := by simpa using her
    have hb' : (err != 0) = true := by simpa using her
    clear h
    go_enter Try.func50, Try.ntmps50
    go_wp2_with (go_at_call 66; refine (made_any HH.out).mono ?_; rintro e w' ⟨rfl, rfl⟩)
    go_ret
    rw [ResSc, HS.out]
    exact ⟨rfl, HH.out, Fr.refl _ _⟩
end Go.Proofs.Ytdjcifeoplgkpaa
