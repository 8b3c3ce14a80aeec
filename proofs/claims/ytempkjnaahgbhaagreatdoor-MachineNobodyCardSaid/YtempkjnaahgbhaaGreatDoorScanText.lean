/-
  The walks of wire.Over and of a Scan's methods: it reads bytes up to the first error. Conditions: the Scan lies in memory as Over made it.
  The walks of a Scan's Number, Text and End, and of Over. Conditions: the Scan lies in memory as Over made it.
  The walks of a Scan's Text and End, and of Over. Conditions: the Scan lies in memory as Over made it.
-/
import Derived.Test.YtempkjnaahgbhaaGreatDoorText
import Derived.Test.YtempkjnaahgbhaaGreatDoorFr
namespace Go.Proofs.YtempkjnaahgbhaaGreatDoor
open Go.RowKit

/-- A Scan in block sb, its strip in block pb, over the bytes l, at_ of which were read. -/
structure ScanAt (w : World) (sb pb : Nat) (A : Option Addr) (c : Nat) (l : List UInt8) (at_ : Nat) (err : Int) : Prop where
  sc : w.heap[sb]? = some (.cells #[.pointer (some ⟨pb, 0, none⟩), .int .i64 err] 166 (0, 0))
  st : w.heap[pb]? = some (.cells #[.slice A l.length c, .int .i64 at_] 164 (0, 0))
  lt : pb < sb
  cap : l.length ≤ c
  rd : RdB w pb A l.length l
  le : at_ ≤ l.length
  err0 : 0 ≤ err
  len : l.length ≤ 70368744177664
def SP (sb pb : Nat) (k : Nat) : Prop := k = sb ∨ k = pb
section
variable {w w' : World} {sb pb c at_ : Nat} {A : Option Addr} {l : List UInt8} {err : Int}
theorem ScanAt.sb_lt (h : ScanAt w sb pb A c l at_ err) : sb < w.heap.size := (Array.getElem?_eq_some_iff.1 h.sc).1
theorem ScanAt.drewN (h : ScanAt w sb pb A c l at_ err) (n : Nat) : ScanAt (w.drewN n) sb pb A c l at_ err := ⟨h.sc, h.st, h.lt, h.cap, h.rd, h.le, h.err0, h.len⟩
theorem ScanAt.below {B : Nat} (h : ScanAt w sb pb A c l at_ err) (hb : Below B w w') (hB : sb < B) : ScanAt w' sb pb A c l at_ err :=
  ⟨blk_below hb hB h.sc, blk_below hb (by have := h.lt; omega) h.st, h.lt, h.cap, Rd.below' h.rd hb (by have := h.lt; omega) (Nat.le_refl _), h.le, h.err0, h.len⟩
theorem ScanAt.fr {S : Nat → Prop} (h : ScanAt w sb pb A c l at_ err) (hf : Fr S w w') (hS : ∀ k, S k → sb < k) : ScanAt w' sb pb A c l at_ err :=
  h.below (B := sb + 1) (hf.below h.sb_lt (fun k hk => hS k hk)) (by omega)
theorem ScanAt.setErr (h : ScanAt w sb pb A c l at_ err) (e : Int) (he : 0 ≤ e) : ScanAt (w.setCell ⟨sb, 1, none⟩ (.int .i64 e)) sb pb A c l at_ e :=
  ⟨blk_set h.sc 1 _, (Below.heap_setCell _ _ _ _ (by have := h.lt; simp; omega)).trans h.st, h.lt, h.cap, Fr.rd h.rd ((Fr.refl (fun k => k = sb) w).setCell rfl _) (by have := h.lt; have := h.sb_lt; omega) (fun k hk => by have := h.lt; omega), h.le, he, h.len⟩
theorem ScanAt.setAt (h : ScanAt w sb pb A c l at_ err) (a : Nat) (ha : a ≤ l.length) : ScanAt (w.setCell ⟨pb, 1, none⟩ (.int .i64 a)) sb pb A c l a err :=
  ⟨(Below.heap_setCell _ _ _ _ (by have := h.lt; simp; omega)).trans h.sc, blk_set h.st 1 _, h.lt, h.cap, Fr.rd h.rd ((Fr.refl (fun k => k = pb) w).setCell rfl _) (by have := h.lt; have := h.sb_lt; omega) (fun k hk => by omega), ha, h.err0, h.len⟩
end

set_option maxHeartbeats 400000 in
theorem made_any {w : World} {sb pb c at_ : Nat} {A : Option Addr} {l : List UInt8} {err : Int} (h : ScanAt w sb pb A c l at_ err) :
    Calls Tryz.prog 108 #[.pointer (some ⟨sb, 0, none⟩)] w fun e w' => e = .returned (.bool true) ∧ w = w' := by
  have hc := blk_cell h.sc
  have HH := Lib.hid h
  clear h
  go_enter Tryz.func108, Tryz.ntmps108
  go_wp2_with fail
  go_ret
  exact ⟨rfl, rfl⟩

set_option maxHeartbeats 400000 in
theorem err_any {w : World} {sb pb c at_ : Nat} {A : Option Addr} {l : List UInt8} {err : Int} (h : ScanAt w sb pb A c l at_ err) :
    Calls Tryz.prog 69 #[.pointer (some ⟨sb, 0, none⟩)] w fun e w' => e = .returned (.int .i64 err) ∧ w = w' := by
  have hc := blk_cell h.sc
  have HH := Lib.hid h
  clear h
  go_enter Tryz.func69, Tryz.ntmps69
  go_wp2_with (refine (made_any HH.out).mono ?_; rintro e w' ⟨rfl, rfl⟩)
  go_ret
  exact ⟨rfl, rfl⟩

set_option maxHeartbeats 400000 in
theorem fail_any {w : World} {sb pb c at_ : Nat} {A : Option Addr} {l : List UInt8} (ec : Int) (h : ScanAt w sb pb A c l at_ 0) :
    Calls Tryz.prog 110 #[.pointer (some ⟨sb, 0, none⟩), .int .i64 ec] w fun e w' => e = .returned (.int .i64 0) ∧ w.setCell ⟨sb, 1, none⟩ (.int .i64 ec) = w' := by
  have hc := blk_cell h.sc
  have hf := blk_frozen h.sc 1
  have HH := Lib.hid h
  clear h
  go_enter Tryz.func110, Tryz.ntmps110
  go_wp2_with (refine (made_any HH.out).mono ?_; rintro e w' ⟨rfl, rfl⟩)
  go_ret
  exact ⟨rfl, rfl⟩

/-- A slice cut at its head. -/
def cutA (A : Option Addr) (c k sz : Nat) : Option Addr := if c = k then A else A.map (·.add (k * sz))
set_option maxHeartbeats 400000 in
theorem rest_any {w : World} {sb pb c at_ : Nat} {A : Option Addr} {l : List UInt8} {err : Int} (h : ScanAt w sb pb A c l at_ err) :
    Calls Tryz.prog 109 #[.pointer (some ⟨pb, 0, none⟩)] w fun e w' => e = .returned (.slice (cutA A c at_ 1) (l.length - at_) (c - at_)) ∧ ∃ n, w' = w.drewN n := by
  have hc := blk_cell h.st
  have h1 : (0 : Int) ≤ (at_ : Int) := by omega
  have h2 : (at_ : Int) ≤ (l.length : Int) := by have := h.le; omega
  have h3 : (l.length : Int) ≤ (c : Int) := by have := h.cap; omega
  clear h
  by_cases hca : c = at_
  · subst hca
    go_enter Tryz.func109, Tryz.ntmps109
    go_wp2_with fail
    go_quiet (fail)
    go_wp2_with fail
    go_ret
    exact ⟨by simp [cutA], _, rfl⟩
  · go_enter Tryz.func109, Tryz.ntmps109
    go_wp2_with fail
    go_quiet (fail)
    go_wp2_with fail
    go_ret
    exact ⟨by simp [cutA, hca], _, rfl⟩

set_option maxHeartbeats 400000 in
theorem left_any {w : World} {sb pb c at_ : Nat} {A : Option Addr} {l : List UInt8} {err : Int} (h : ScanAt w sb pb A c l at_ err) :
    Calls Tryz.prog 112 #[.pointer (some ⟨sb, 0, none⟩)] w fun e w' => e = .returned (.int .i64 (l.length - at_ : Nat)) ∧ ∃ n, w' = w.drewN n := by
  have hc := blk_cell h.sc
  have HH := Lib.hid h
  clear h
  go_enter Tryz.func112, Tryz.ntmps112
  go_wp2_with (first | (go_at_call 108; refine (made_any HH.out).mono ?_; rintro e w' ⟨rfl, rfl⟩) | (go_at_call 109; refine (rest_any HH.out).mono ?_; rintro e w' ⟨rfl, n, rfl⟩))
  go_ret
  exact ⟨rfl, _, rfl⟩

/-- A number at the head of bytes: it, how many bytes it has, the error. -/
def rdNum : Nat → Nat → List UInt8 → Nat × Nat × Int
  | _, _, [] => (0, 0, 2)
  | i, n, x :: r => if i = 0 ∧ x.toNat = 128 then (0, 0, 10) else if i = 9 then (0, 0, 5) else if x.toNat < 128 then (n * 128 + x.toNat % 128, i + 1, 0) else rdNum (i + 1) (n * 128 + x.toNat % 128) r
theorem rdNum_bound : ∀ (l : List UInt8) (i n : Nat), n < 128 ^ i → i ≤ 9 → (rdNum i n l).1 < 128 ^ 9 ∧ (rdNum i n l).2.1 ≤ i + l.length ∧ 0 ≤ (rdNum i n l).2.2 ∧ ((rdNum i n l).2.2 ≠ 0 → (rdNum i n l).1 = 0 ∧ (rdNum i n l).2.1 = 0) := by
  intro l
  induction l with
  | nil => intro i n _ _; simp [rdNum]
  | cons x r ih =>
    intro i n hn hi
    rw [rdNum]
    by_cases h1 : i = 0 ∧ x.toNat = 128
    · rw [if_pos h1]; simp
    · rw [if_neg h1]
      by_cases h2 : i = 9
      · rw [if_pos h2]; simp
      · rw [if_neg h2]
        have hb : n * 128 + x.toNat % 128 < 128 ^ (i + 1) := by rw [Nat.pow_succ]; omega
        by_cases h3 : x.toNat < 128
        · rw [if_pos h3]
          refine ⟨Nat.lt_of_lt_of_le hb (Nat.pow_le_pow_right (by omega) (by omega)), ?_, by simp, by simp⟩
          simp only [List.length_cons]; omega
        · rw [if_neg h3]
          have := ih (i + 1) _ hb (by omega)
          simp only [List.length_cons]
          refine ⟨this.1, by omega, this.2.2⟩
/-- A Scan's state behind a call of Number. -/
def scNum (l : List UInt8) (at_ : Nat) (err : Int) : Nat × Nat × Int :=
  if err = 0 then ((rdNum 0 0 (l.drop at_)).1, at_ + (rdNum 0 0 (l.drop at_)).2.1, (rdNum 0 0 (l.drop at_)).2.2) else (0, at_, err)
end Go.Proofs.YtempkjnaahgbhaaGreatDoor
namespace Go.Proofs.YtempkjnaahgbhaaGreatDoor
open Go.RowKit

theorem and127u8 (x : Nat) (hx : x < 256) : bits .and .u8 (x : Int) 127 = (x : Int) % 128 := by
  rw [show (127 : Int) = ((127 : Nat) : Int) from rfl, u8_and_nat x 127 hx (by omega)]
  have e : x &&& 127 = x % 128 := Nat.and_two_pow_sub_one_eq_mod x 7
  rw [e]; omega
theorem or_low (n x : Nat) (hn : n * 128 < 9223372036854775808) : bits .or .i64 ((n : Int) * 128) ((x : Int) % 128) = (n : Int) * 128 + (x : Int) % 128 := by
  have h1 : ((n : Int) * 128) = ((n * 128 : Nat) : Int) := by omega
  have h2 : ((x : Int) % 128) = ((x % 128 : Nat) : Int) := by omega
  have e : n * 128 ||| x % 128 = n * 128 + x % 128 := by
    have h : 2 ^ 7 * n + x % 128 = 2 ^ 7 * n ||| x % 128 := Nat.two_pow_add_eq_or_of_lt (i := 7) (b := x % 128) (by omega) n
    rw [Nat.mul_comm n 128]; exact h.symm
  rw [h1, h2]
  show IntKind.i64.wrap ((BitVec.ofInt 64 ((n * 128 : Nat) : Int) ||| BitVec.ofInt 64 ((x % 128 : Nat) : Int)).toNat : Int) = _
  rw [BitVec.toNat_or, ofInt_i64 _ (by omega), ofInt_i64 _ (by omega), e, IntKind.wrap_i64]
  omega
theorem rdNum_step {l : List UInt8} {k N : Nat} (hk : k < l.length) (h1 : ¬ (k = 0 ∧ (l[k]).toNat = 128)) (h2 : k ≠ 9) (h3 : 128 ≤ (l[k]).toNat) :
    rdNum k N (l.drop k) = rdNum (k + 1) (N * 128 + (l[k]).toNat % 128) (l.drop (k + 1)) := by
  rw [List.drop_eq_getElem_cons hk, rdNum, if_neg h1, if_neg h2, if_neg (by omega)]
theorem rdNum_last {l : List UInt8} {k N : Nat} (hk : k < l.length) (h1 : ¬ (k = 0 ∧ (l[k]).toNat = 128)) (h2 : k ≠ 9) (h3 : (l[k]).toNat < 128) :
    rdNum k N (l.drop k) = (N * 128 + (l[k]).toNat % 128, k + 1, 0) := by
  rw [List.drop_eq_getElem_cons hk, rdNum, if_neg h1, if_neg h2, if_pos h3]
theorem rdNum_form {l : List UInt8} {N : Nat} (hk : 0 < l.length) (h1 : (l[0]).toNat = 128) : rdNum 0 N (l.drop 0) = (0, 0, 10) := by
  rw [List.drop_eq_getElem_cons hk, rdNum, if_pos ⟨rfl, h1⟩]
theorem rdNum_range {l : List UInt8} {N : Nat} (hk : 9 < l.length) : rdNum 9 N (l.drop 9) = (0, 0, 5) := by
  rw [List.drop_eq_getElem_cons hk, rdNum, if_neg (by omega), if_pos rfl]
theorem rdNum_short {l : List UInt8} {k N : Nat} (hk : l.length ≤ k) : rdNum k N (l.drop k) = (0, 0, 2) := by
  rw [List.drop_of_length_le hk]; rfl

/-- What a method of a Scan leaves: an answer, the Scan at another place; but for it all stands. -/
def ResSc (w : World) (sb pb : Nat) (A : Option Addr) (c : Nat) (l : List UInt8) (v : Value) (at_ : Nat) (err : Int) (e : Ending) (w' : World) : Prop :=
  e = .returned v ∧ ScanAt w' sb pb A c l at_ err ∧ Fr (SP sb pb) w w'

set_option maxRecDepth 100000 in
set_option maxHeartbeats 1000000 in
theorem scanNumber_any {w : World} {sb pb c at_ : Nat} {A : Option Addr} {l : List UInt8} {err : Int} (h : ScanAt w sb pb A c l at_ err) :
    Calls Tryz.prog 66 #[.pointer (some ⟨sb, 0, none⟩)] w (ResSc w sb pb A c l (.int .i64 ((scNum l at_ err).1 : Nat)) (scNum l at_ err).2.1 (scNum l at_ err).2.2) := by
  have hc := blk_cell h.sc
  have hct := blk_cell h.st
  have HH := Lib.hid h
  have he0 := h.err0
  by_cases her : err = 0
  · subst her
    have hlen := h.len
    have hle := h.le
    clear h he0
    obtain ⟨L, hL⟩ : ∃ L, L = l.drop at_ := ⟨_, rfl⟩
    have hLl : L.length = l.length - at_ := by rw [hL]; simp
    have hrd : RdB w pb (cutA A c at_ 1) L.length L := by
      have := Rd.cut HH.out.rd HH.out.le HH.out.cap
      rw [hLl]
      rw [hL, RdB, List.map_drop]
      simpa [cutA] using this
    have HS : Hid (scNum l at_ 0 = ((rdNum 0 0 L).1, at_ + (rdNum 0 0 L).2.1, (rdNum 0 0 L).2.2)) := Lib.hid (by simp [scNum, hL])
    have HL := Lib.hid hLl
    clear hLl hL
    go_enter Tryz.func66, Tryz.ntmps66
    go_wp2_with (first | (go_at_call 108; refine (made_any HH.out).mono ?_; rintro e w' ⟨rfl, rfl⟩) | (go_at_call 109; refine (rest_any HH.out).mono ?_; rintro e w' ⟨rfl, n, rfl⟩; rw [← HL.out]))
    have HW := Lib.hid (HH.out.drewN n)
    have hf1 : Fr (SP sb pb) w (w.drewN n) := (Fr.refl _ _).drewN n
    have hrd1 : RdB (w.drewN n) pb (cutA A c at_ 1) L.length L := hrd
    have hc1 : ∀ j, (w.drewN n).cell? ⟨sb, j, none⟩ = _ := blk_cell HW.out.sc
    have hct1 : ∀ j, (w.drewN n).cell? ⟨pb, j, none⟩ = _ := blk_cell HW.out.st
    have hfz : (w.drewN n).frozen? ⟨pb, 1, none⟩ = false := blk_frozen HW.out.st 1
    clear hc hct hrd
    generalize w.drewN n = w1 at *
    go_loop [3, 22] (fun nn i => ∃ k N : Nat, k ≤ L.length ∧ i = .int .i64 k ∧ nn = .int .i64 N ∧ N < 128 ^ k ∧ k ≤ 9 ∧ rdNum 0 0 L = rdNum k N (L.drop k)) (fun _ i => L.length - (intOf i).toNat)
    case atStart => exact ⟨0, 0, by omega, rfl, rfl, by simp, by omega, rfl⟩
    case round =>
      obtain ⟨k, N, hk, rfl, rfl, hN, hk9, hR⟩ := hrel
      have HR := Lib.hid hR
      clear hR
      by_cases hlt : k < L.length
      · obtain ⟨b, off, hA, _, hcell⟩ := hrd1.at_ (k := k) hlt (by simpa using hlt)
        rw [List.getElem_map] at hcell
        unfold u8v at hcell
        rw [hA]
        have hx := (L[k]).toNat_lt
        have HLast := Lib.hid (@rdNum_last L k N hlt)
        have HStep := Lib.hid (@rdNum_step L k N hlt)
        have HForm : Hid (k = 0 → (L[k]).toNat = 128 → rdNum k N (L.drop k) = (0, 0, 10)) := Lib.hid (fun h0 h1 => by subst h0; exact rdNum_form hlt h1)
        have HRange : Hid (k = 9 → rdNum k N (L.drop k) = (0, 0, 5)) := Lib.hid (fun h0 => by subst h0; exact rdNum_range hlt)
        generalize (L[k]).toNat = x at *
        have HA := Lib.hid hA
        clear hA hrd1
        by_cases h1 : k = 0 ∧ x = 128
        · obtain ⟨rfl, rfl⟩ := h1
          simp only [Nat.add_zero] at hcell
          go_wp2_with (go_at_call 110; refine (fail_any _ HW.out).mono ?_; rintro e w' ⟨rfl, rfl⟩)
          go_ret
          have e := HR.out.trans (HForm.out (by trivial) (by trivial))
          rw [ResSc, HS.out, e]
          exact ⟨rfl, HW.out.setErr 10 (by omega), hf1.setCell (.inl rfl) _⟩
        · by_cases h2 : k = 9
          · have HH1 := Lib.hid h1
            clear h1
            subst h2
            go_wp2_with (go_at_call 110; refine (fail_any _ HW.out).mono ?_; rintro e w' ⟨rfl, rfl⟩)
            go_ret
            have e := HR.out.trans (HRange.out (by trivial))
            rw [ResSc, HS.out, e]
            exact ⟨rfl, HW.out.setErr 5 (by omega), hf1.setCell (.inl rfl) _⟩
          · have hp : N * 128 + x % 128 < 128 ^ (k + 1) := by rw [Nat.pow_succ]; omega
            have hp2 : 128 ^ (k + 1) ≤ 128 ^ 9 := Nat.pow_le_pow_right (by omega) (by omega)
            have hN128 : (N : Int) * 128 + (x : Int) % 128 ≤ 9223372036854775807 := by omega
            have hN0 : (0 : Int) ≤ (N : Int) * 128 := by omega
            have ha := and127u8 x (by omega)
            have hor := or_low N x (by omega)
            have h2b : ((k : Int) == 9) = false := by simp; omega
            have hkl : k + 1 ≤ l.length - at_ := by rw [← HL.out]; omega
            have h1b : ((k : Int) == 0) = false ∨ (((k : Int) == 0) = true ∧ ((x : Int) == 128) = false) := by
              by_cases h0 : k = 0
              · subst h0; right; simp; intro hx; exact h1 ⟨rfl, by omega⟩
              · left; simp; omega
            have HH1 := Lib.hid h1
            have HN := Lib.hid hN
            have h2' : Hid (k ≠ 9) := Lib.hid h2
            clear h1 h2 hN hp2
            by_cases h3 : x < 128
            · have h3i : (x : Int) < 128 := by omega
              have h3' : Hid (x < 128) := Lib.hid h3
              have HP := Lib.hid hp
              clear hp h3
              rcases h1b with h1b | ⟨h1b, h1c⟩
              all_goals
                go_wp2_with fail
                go_ret
                rw [ResSc, HS.out, HR.out, HLast.out HH1.out h2'.out h3'.out]
                refine ⟨ret_int (by omega), ?_, hf1.setCell (.inr rfl) _⟩
                have := HW.out.setAt (at_ + (k + 1)) (by omega)
                rwa [show (((at_ + (k + 1) : Nat)) : Int) = (at_ : Int) + ((k : Int) + 1) by omega] at this
            · have h3i : (128 : Int) ≤ (x : Int) := by omega
              have h3' : Hid (128 ≤ x) := Lib.hid (by omega)
              have HP := Lib.hid hp
              clear hp h3
              rcases h1b with h1b | ⟨h1b, h1c⟩
              all_goals
                go_wp2_with fail
                go_round
                case rel => exact ⟨k + 1, N * 128 + x % 128, by omega, by go_num, by go_num, HP.out, by have := h2'.out; omega, HR.out.trans (HStep.out HH1.out h2'.out h3'.out)⟩
                case measure => simp [intOf]; omega
      · go_wp2_with (go_at_call 110; refine (fail_any _ HW.out).mono ?_; rintro e w' ⟨rfl, rfl⟩)
        go_ret
        rw [ResSc, HS.out, HR.out, rdNum_short (by omega)]
        exact ⟨rfl, HW.out.setErr 2 (by omega), hf1.setCell (.inl rfl) _⟩
  · have HS : Hid (scNum l at_ err = (0, at_, err)) := Lib.hid (by simp [scNum, her])
    have hb : (err == 0) = false := by simpa using her
    have hb' : (err != 0) = true := by simpa using her
    clear h
    go_enter Tryz.func66, Tryz.ntmps66
    go_wp2_with (go_at_call 108; refine (made_any HH.out).mono ?_; rintro e w' ⟨rfl, rfl⟩)
    go_ret
    rw [ResSc, HS.out]
    exact ⟨rfl, HH.out, Fr.refl _ _⟩
end Go.Proofs.YtempkjnaahgbhaaGreatDoor
namespace Go.Proofs.YtempkjnaahgbhaaGreatDoor
open Go.RowKit

/-- string(b) of a slice that reads as l. -/
theorem run_conv_bs {P : Program} {w : World} {src dst e : TypeId} (hs : P.underlying src = some (.slice e)) (he : P.underlying e = some (.int .u8)) (hd : P.underlying dst = some .string) {B n : Nat} {A : Option Addr} {l : List UInt8} (h : RdB w B A n l) (c : Nat) :
    (convert src dst (.slice A n c)).run P w = .ok (.string ⟨l.toArray⟩) w := by
  have hl := h.len
  subst hl
  rcases A with _ | a
  · have h0 : l.length = 0 := by
      rcases Nat.eq_zero_or_pos l.length with h0 | h0
      · exact h0
      · obtain ⟨b, off, e, _⟩ := h.2 h0; cases e
    obtain rfl : l = [] := List.eq_nil_of_length_eq_zero h0
    rw [run_convert_bytes_string w src dst e _ _ _ hs he hd]
    simp [Conv.bytesToString, Sem.run_pure]
    rfl
  · refine run_convert_bytes_back w src dst e a c l hs he hd fun j hj => ?_
    obtain ⟨b, off, e, _, hc⟩ := h.2 (by omega)
    injection e with e
    subst e
    rw [Addr.add_lit, hc j (by simpa using hj), List.getElem_map]
    rfl

/-- A Scan's state behind a call of Text. -/
def scText (most : Nat) (l : List UInt8) (at_ : Nat) (err : Int) : List UInt8 × Nat × Int :=
  if (scNum l at_ err).2.2 ≠ 0 then ([], at_, (scNum l at_ err).2.2)
  else if most < (scNum l at_ err).1 then ([], at_, 4)
  else if l.length - (scNum l at_ err).2.1 < (scNum l at_ err).1 then ([], at_, 2)
  else ((l.drop (scNum l at_ err).2.1).take (scNum l at_ err).1, (scNum l at_ err).2.1 + (scNum l at_ err).1, 0)
theorem scText_eq (most : Nat) (l : List UInt8) (at_ : Nat) (err : Int) : scText most l at_ err = if (scNum l at_ err).2.2 ≠ 0 then ([], at_, (scNum l at_ err).2.2)
  else if most < (scNum l at_ err).1 then ([], at_, 4)
  else if l.length - (scNum l at_ err).2.1 < (scNum l at_ err).1 then ([], at_, 2)
  else ((l.drop (scNum l at_ err).2.1).take (scNum l at_ err).1, (scNum l at_ err).2.1 + (scNum l at_ err).1, 0) := rfl
theorem scNum_stay {l : List UInt8} {at_ : Nat} {err : Int} (h : (scNum l at_ err).2.2 ≠ 0) : (scNum l at_ err).1 = 0 ∧ (scNum l at_ err).2.1 = at_ := by
  unfold scNum at h ⊢
  by_cases he : err = 0
  · rw [if_pos he] at h ⊢
    have := (rdNum_bound (l.drop at_) 0 0 (by simp) (by omega)).2.2.2 h
    exact ⟨this.1, by simp [this.2]⟩
  · rw [if_neg he]; exact ⟨rfl, rfl⟩
theorem scNum_bound (l : List UInt8) (at_ : Nat) (err : Int) : (scNum l at_ err).1 < 9223372036854775808 := by
  unfold scNum
  by_cases he : err = 0
  · rw [if_pos he]; exact (rdNum_bound (l.drop at_) 0 0 (by simp) (by omega)).1
  · rw [if_neg he]; simp

set_option maxRecDepth 100000 in
set_option maxHeartbeats 1000000 in
theorem scanText_any {w : World} {sb pb c at_ : Nat} {A : Option Addr} {l : List UInt8} {err : Int} (most : Nat) (hmost : most ≤ 1000000000000) (h : ScanAt w sb pb A c l at_ err) :
    Calls Tryz.prog 68 #[.pointer (some ⟨sb, 0, none⟩), .int .i64 most] w (ResSc w sb pb A c l (.string ⟨(scText most l at_ err).1.toArray⟩) (scText most l at_ err).2.1 (scText most l at_ err).2.2) := by
  have hc := blk_cell h.sc
  have hct := blk_cell h.st
  have hst := @scNum_stay l at_ err
  have hbd := scNum_bound l at_ err
  have HT := Lib.hid (scText_eq most l at_ err)
  have hle0 := h.le
  have HH := Lib.hid h
  clear h
  go_enter Tryz.func68, Tryz.ntmps68
  go_wp2_with (go_at_call 108; refine (made_any HH.out).mono ?_; rintro e w' ⟨rfl, rfl⟩)
  refine (scanNumber_any HH.out).mono ?_
  rintro e w1 ⟨rfl, hs1, hf1⟩
  clear hc hct
  generalize scNum l at_ err = q at *
  obtain ⟨n, at1, e1⟩ := q
  simp only at hst hbd HT hs1 ⊢
  have HS1 := Lib.hid hs1
  have hc1 := blk_cell hs1.sc
  have hct1 := blk_cell hs1.st
  have hfz := blk_frozen hs1.st 1
  have hle1 := hs1.le
  clear hs1
  by_cases he : e1 = 0
  · subst he
    by_cases h1 : most < n
    · have h1i : (most : Int) < (n : Int) := by omega
      have HH1 := Lib.hid h1
      clear h1 hst
      go_wp2_with fail
      refine (err_any HS1.out).mono ?_
      rintro e w' ⟨rfl, rfl⟩
      go_wp2_with fail
      refine (fail_any _ (HS1.out.setAt at_ hle0)).mono ?_
      rintro e w' ⟨rfl, rfl⟩
      go_wp2_with fail
      go_ret
      rw [HT.out, if_neg (by simp), if_pos HH1.out]
      exact ⟨rfl, (HS1.out.setAt at_ hle0).setErr 4 (by omega), (hf1.setCell (.inr rfl) _).setCell (.inl rfl) _⟩
    · have h1i : ¬ (most : Int) < (n : Int) := by omega
      have HH1 := Lib.hid h1
      clear h1 hst
      by_cases h2 : l.length - at1 < n
      · have HH2 := Lib.hid h2
        go_wp2_with fail
        refine (err_any HS1.out).mono ?_
        rintro e w' ⟨rfl, rfl⟩
        go_wp2_with fail
        refine (left_any HS1.out).mono ?_
        rintro e w' ⟨rfl, nq, rfl⟩
        have h2i : ((l.length - at1 : Nat) : Int) < (n : Int) := by omega
        have HD := Lib.hid (HS1.out.drewN nq)
        have hc2 : ∀ j, (w1.drewN nq).cell? ⟨sb, j, none⟩ = _ := blk_cell HD.out.sc
        have hct2 : ∀ j, (w1.drewN nq).cell? ⟨pb, j, none⟩ = _ := blk_cell HD.out.st
        have hfz2 := blk_frozen HD.out.st 1
        have hf2 := hf1.drewN nq
        clear h2 hc1 hct1 hfz
        generalize w1.drewN nq = w2 at *
        go_wp2_with fail
        refine (fail_any _ (HD.out.setAt at_ hle0)).mono ?_
        rintro e w' ⟨rfl, rfl⟩
        go_wp2_with fail
        go_ret
        rw [HT.out, if_neg (by simp), if_neg HH1.out, if_pos HH2.out]
        exact ⟨rfl, (HD.out.setAt at_ hle0).setErr 2 (by omega), (hf2.setCell (.inr rfl) _).setCell (.inl rfl) _⟩
      · have HH2 := Lib.hid h2
        go_wp2_with fail
        refine (err_any HS1.out).mono ?_
        rintro e w' ⟨rfl, rfl⟩
        go_wp2_with fail
        refine (left_any HS1.out).mono ?_
        rintro e w' ⟨rfl, nq, rfl⟩
        have h2i : ¬ ((l.length - at1 : Nat) : Int) < (n : Int) := by omega
        have HD := Lib.hid (HS1.out.drewN nq)
        have hc2 : ∀ j, (w1.drewN nq).cell? ⟨sb, j, none⟩ = _ := blk_cell HD.out.sc
        have hct2 : ∀ j, (w1.drewN nq).cell? ⟨pb, j, none⟩ = _ := blk_cell HD.out.st
        have hfz2 := blk_frozen HD.out.st 1
        have hf2 := hf1.drewN nq
        have hsum : (at1 : Int) + (n : Int) ≤ 70368744177664 := by have := HS1.out.len; omega
        clear h2 hc1 hct1 hfz
        generalize w1.drewN nq = w2 at *
        go_wp2_with fail
        have HD3 := HD.out.setAt (at1 + n) (by omega)
        rw [show (((at1 + n : Nat)) : Int) = (at1 : Int) + (n : Int) by omega] at HD3
        have hf3 := hf2.setCell (p := ⟨pb, 1, none⟩) (.inr rfl) (.int .i64 ((at1 : Int) + (n : Int)))
        clear hc2 hct2 hfz2 hf2
        generalize w2.setCell ⟨pb, 1, none⟩ (.int .i64 ((at1 : Int) + (n : Int))) = w3 at *
        have hc3 : ∀ j, w3.cell? ⟨sb, j, none⟩ = _ := blk_cell HD3.sc
        have hct3 : ∀ j, w3.cell? ⟨pb, j, none⟩ = _ := blk_cell HD3.st
        have hrd : RdB w3 pb (cutA A c at1 1) n ((l.drop at1).take n) := by
          have h1 := (Rd.cut HD3.rd hle1 HD3.cap).take (k := n) (by omega)
          rw [RdB, List.map_take, List.map_drop]
          simpa [cutA] using h1
        have hcv := fun (k : Nat) => run_conv_bs (P := Tryz.prog) (w := w3.drewN k) Tryz.underlying32 Tryz.underlying5 Tryz.underlying9 (show RdB (w3.drewN k) pb _ n _ from hrd) (c - at1)
        have hb1 : (0 : Int) ≤ (at1 : Int) := by omega
        have hb2 : (at1 : Int) ≤ (at1 : Int) + (n : Int) := by omega
        have hb3 : (at1 : Int) + (n : Int) ≤ (c : Int) := by have := HD3.cap; omega
        have HD4 := Lib.hid HD3
        clear HD3 hrd
        by_cases hca : c = at1
        · have hcu : cutA A c at1 1 = A := by simp [cutA, hca]
          rw [hcu] at hcv
          subst hca
          obtain rfl : n = 0 := by omega
          simp only [Nat.sub_self] at hcv
          go_quiet (fail)
          go_wp2_with fail
          go_ret
          rw [HT.out, if_neg (by simp), if_neg HH1.out, if_neg HH2.out]
          exact ⟨rfl, HD4.out.drewN _, hf3.drewN _⟩
        · have hcu : cutA A c at1 1 = A.map (·.add at1) := by simp [cutA, hca]
          rw [hcu] at hcv
          go_quiet (fail)
          go_wp2_with fail
          go_ret
          rw [HT.out, if_neg (by simp), if_neg HH1.out, if_neg HH2.out]
          exact ⟨rfl, HD4.out.drewN _, hf3.drewN _⟩
  · have hb : (e1 != 0) = true := by simpa using he
    obtain ⟨rfl, rfl⟩ := hst he
    have HE := Lib.hid he
    clear he hst
    go_wp2_with (go_at_call 69; refine (err_any HS1.out).mono ?_; rintro e w' ⟨rfl, rfl⟩)
    go_ret
    rw [HT.out, if_pos HE.out]
    exact ⟨rfl, HS1.out, hf1⟩

/-- A Scan's error behind a call of End. -/
def scEnd (l : List UInt8) (at_ : Nat) (err : Int) : Int := if err = 0 ∧ at_ < l.length then 3 else err
set_option maxRecDepth 100000 in
set_option maxHeartbeats 1000000 in
theorem scanEnd_any {w : World} {sb pb c at_ : Nat} {A : Option Addr} {l : List UInt8} {err : Int} (h : ScanAt w sb pb A c l at_ err) :
    Calls Tryz.prog 70 #[.pointer (some ⟨sb, 0, none⟩)] w (ResSc w sb pb A c l (.int .i64 (scEnd l at_ err)) at_ (scEnd l at_ err)) := by
  have HH := Lib.hid h
  have hlen := h.len
  clear h
  by_cases he : err = 0
  · subst he
    by_cases hlt : at_ < l.length
    · have HS : Hid (scEnd l at_ 0 = 3) := Lib.hid (by simp [scEnd, hlt])
      have hi : (0 : Int) < ((l.length - at_ : Nat) : Int) := by omega
      go_enter Tryz.func70, Tryz.ntmps70
      go_wp2_with fail
      refine (err_any HH.out).mono ?_
      rintro e w' ⟨rfl, rfl⟩
      go_wp2_with fail
      refine (left_any HH.out).mono ?_
      rintro e w' ⟨rfl, nq, rfl⟩
      have HD := Lib.hid (HH.out.drewN nq)
      have hf2 := (Fr.refl (SP sb pb) w).drewN nq
      generalize w.drewN nq = w2 at *
      go_wp2_with fail
      refine (fail_any _ HD.out).mono ?_
      rintro e w' ⟨rfl, rfl⟩
      go_wp2_with fail
      refine (err_any (HD.out.setErr 3 (by omega))).mono ?_
      rintro e w' ⟨rfl, rfl⟩
      go_wp2_with fail
      go_ret
      rw [ResSc, HS.out]
      exact ⟨rfl, HD.out.setErr 3 (by omega), hf2.setCell (.inl rfl) _⟩
    · have HS : Hid (scEnd l at_ 0 = 0) := Lib.hid (by simp [scEnd, hlt])
      have hi : ((l.length - at_ : Nat) : Int) = 0 := by omega
      go_enter Tryz.func70, Tryz.ntmps70
      go_wp2_with fail
      refine (err_any HH.out).mono ?_
      rintro e w' ⟨rfl, rfl⟩
      go_wp2_with fail
      refine (left_any HH.out).mono ?_
      rw [hi]
      clear hi
      rintro e w' ⟨rfl, nq, rfl⟩
      have HD := Lib.hid (HH.out.drewN nq)
      have hf2 := (Fr.refl (SP sb pb) w).drewN nq
      generalize w.drewN nq = w2 at *
      go_wp2_with fail
      refine (err_any HD.out).mono ?_
      rintro e w' ⟨rfl, rfl⟩
      go_wp2_with fail
      go_ret
      rw [ResSc, HS.out]
      exact ⟨rfl, HD.out, hf2⟩
  · have HS : Hid (scEnd l at_ err = err) := Lib.hid (by simp [scEnd, he])
    have hb : (err == 0) = false := by simpa using he
    clear he
    go_enter Tryz.func70, Tryz.ntmps70
    go_wp2_with fail
    refine (err_any HH.out).mono ?_
    rintro e w' ⟨rfl, rfl⟩
    go_wp2_with fail
    refine (err_any HH.out).mono ?_
    rintro e w' ⟨rfl, rfl⟩
    go_wp2_with fail
    go_ret
    rw [ResSc, HS.out]
    exact ⟨rfl, HH.out, Fr.refl _ _⟩

/-- What Over leaves. -/
def ResOver (w : World) (l : List UInt8) (e : Ending) (w' : World) : Prop :=
  ∃ sb pb A c, e = .returned (.pointer (some ⟨sb, 0, none⟩)) ∧ w.heap.size ≤ pb ∧ ScanAt w' sb pb A c l 0 0 ∧ Below w.heap.size w w'
theorem own_cap {w : World} {base : Nat} {e : TypeId} {size n c : Nat} {A : Option Addr} {xs : List Value} (h : w.ownsRow base e size (.slice A n c) n xs) : n ≤ c := by
  rcases h.2 with ⟨h0, h1⟩ | ⟨g, cap, cur, hv, _, _, hc, _⟩
  · omega
  · injection hv; omega
set_option maxRecDepth 100000 in
set_option maxHeartbeats 1000000 in
theorem over_any (A : Option Addr) (n cap B : Nat) (l : List UInt8) (w : World) (hB : B ≤ w.heap.size) (hbig : n ≤ 70368744177664) (hr : RdB w B A n l) :
    Calls Tryz.prog 65 #[.slice A n cap] w (ResOver w l) := by
  have hlen := hr.len
  subst hlen
  go_enter Tryz.func65, Tryz.ntmps65
  go_wp2_with fail
  have hp : RdP (w.alloc (.cells #[.slice A l.length cap] 32)) (w.heap.size + 1) (some ⟨w.heap.size, 0, none⟩) 1 [⟨A, l.length, cap, l⟩] := by
    refine ⟨Rd.new rfl (by simp) (by simp [Part.val]), fun p hp => ?_⟩
    simp only [List.mem_cons, List.not_mem_nil, or_false] at hp
    subst hp
    exact Rd.alloc hr _ hB (by omega)
  refine (join_any _ _ _ _ _ _ (by simp) (by simp [total]; omega) (by omega) hp).mono ?_
  rintro e w2 ⟨A2, c2, rfl, hown, hb2⟩
  rw [show joined [⟨A, l.length, cap, l⟩] = l from by simp [joined]] at hown ⊢
  have hb1 : Below w.heap.size w w2 := ((Below.refl _ _).alloc (Nat.le_refl _) _).trans (hb2.mono (by simp))
  have HO := Lib.hid hown
  have HP := Lib.hid (RdB.of_own hown)
  have hsz := hb1.size
  clear hown hp hb2 hr
  go_wp2_with fail
  go_ret
  refine ⟨w2.heap.size + 1, w2.heap.size, A2, c2, rfl, hsz, ⟨heap_at (by simp), ?_, by omega, own_cap HO.out, ?_, by omega, by omega, by omega⟩, (hb1.alloc hsz _).alloc (by simp; omega) _⟩
  · exact blk_below ((Below.refl _ _).alloc (Nat.le_refl _) _) (by simp) (heap_alloc_new w2 _)
  · exact (Rd.alloc HP.out _ (Nat.le_refl _) (Nat.le_refl _)).alloc _ (by simp) (Nat.le_refl _)
end Go.Proofs.YtempkjnaahgbhaaGreatDoor
