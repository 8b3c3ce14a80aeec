/-
  The walk of the law SpanPuts: the Go text answers true. Condition: the spans are not more than memory bears.
-/
import Derived.Test.YtgdhbklgcmcdeaaLaw03b
import Derived.Test.YtgdhbklgcmcdeaaRefPut
namespace Go.Proofs.Ytgdhbklgcmcdeaa
open Go.RowKit

theorem putAns_len {l : List Sp} (hl : l.length ≤ 200) : (putAns l).1.length ≤ 100000 := by
  cases h : l.all Sp.ok
  · rw [putAns_no h]; simp
  · rw [putAns_ok h]
    have h1 := encL_len l (List.all_eq_true.1 h)
    have h2 := digits_len (n := l.length) (by omega)
    simp only [putEnc, List.length_append]; omega

set_option maxRecDepth 100000 in
set_option maxHeartbeats 1000000 in
theorem spanPuts_any (A : Option Addr) (n cap B : Nat) (l : List Sp) (w : World) (hB : B ≤ w.heap.size) (hbig : n ≤ 140737488355328) (hr : RdS w B A n l) :
    Calls Try.prog 6 #[.slice A n cap] w fun e w' => e = .returned (.bool true) ∧ Below w.heap.size w w' := by
  have hlen := hr.len
  subst hlen
  have HR := Lib.hid hr
  clear hr
  cases hl : lightB l
  · have HL := Lib.hid hl
    clear hl
    go_enter Try.func6, Try.ntmps6
    go_wp2_with fail
    refine (light_any _ _ _ _ l _ hbig HR.out).mono ?_
    rintro e w1 ⟨rfl, rfl⟩
    rw [HL.out]
    go_wp2_with fail
    refine (awake_any _).mono ?_
    rintro e w2 ⟨rfl, hb2⟩
    go_wp2_with fail
    go_ret
    exact ⟨rfl, hb2⟩
  · have HL := Lib.hid hl
    have hlp := light_parts hl
    have hl200 := hlp.1
    have HNM : Hid (∀ s ∈ l, s.nm.size ≤ 140737488355328) := Lib.hid fun s hs => by have := hlp.2 s hs; omega
    clear hl hlp
    go_enter Try.func6, Try.ntmps6
    go_wp2_with fail
    refine (light_any _ _ _ _ l _ hbig HR.out).mono ?_
    rintro e w1 ⟨rfl, rfl⟩
    rw [HL.out]
    go_wp2_with fail
    refine (cloneSpans_any _ _ _ _ l _ hB (by omega) HR.out).mono ?_
    rintro e w1 ⟨A1, c1, rfl, hown1, hb1⟩
    have hsz1 := hb1.size
    have HC1 : Hid (RdS w1 w1.heap.size A1 l.length l) := Lib.hid (Rd.of_own hown1)
    have HR1 : Hid (RdS w1 B A l.length l) := Lib.hid (Rd.below' HR.out hb1 hB (Nat.le_refl _))
    clear hown1
    go_wp2_with fail
    refine (Put_any _ _ _ _ l _ (Nat.le_refl _) (by omega) HNM.out HC1.out).mono ?_
    rintro e w2 ⟨A2, c2, rfl, hown2, hb2⟩
    have hsz2 := hb2.size
    have HS2 := Lib.hid (RdB.of_own hown2)
    have HC2 : Hid (RdS w2 w1.heap.size A1 l.length l) := Lib.hid (Rd.below' HC1.out hb2 (Nat.le_refl _) (Nat.le_refl _))
    have HR2 : Hid (RdS w2 B A l.length l) := Lib.hid (Rd.below' HR1.out hb2 (by omega) (Nat.le_refl _))
    have hb12 : Below w.heap.size w w2 := below_via hb1 hb2 (by omega)
    clear hown2
    generalize hP : putAns l = P at *
    have HP := Lib.hid hP
    clear hP
    go_wp2_with fail
    refine (refPut_any _ _ _ _ l _ (by omega) (by omega) HNM.out HR2.out).mono ?_
    rw [HP.out]
    rintro e w3 ⟨A3, c3, rfl, hown3, hb3⟩
    have hsz3 := hb3.size
    have HS3 := Lib.hid (RdB.of_own hown3)
    have HS2' := Lib.hid (Rd.below' HS2.out hb3 (Nat.le_refl _) (Nat.le_refl _))
    have HC3 : Hid (RdS w3 w1.heap.size A1 l.length l) := Lib.hid (Rd.below' HC2.out hb3 (by omega) (Nat.le_refl _))
    have HR3 : Hid (RdS w3 B A l.length l) := Lib.hid (Rd.below' HR2.out hb3 (by omega) (Nat.le_refl _))
    have hb13 : Below w.heap.size w w3 := below_via hb12 hb3 (by omega)
    clear hown3
    go_wp2_with fail
    refine (bytesEqual_any _ _ _ _ _ _ _ _ P.1 P.1 _ HS2'.out HS3.out).mono ?_
    rintro e w4 ⟨q, rfl, hq, m, rfl⟩
    obtain rfl : q = true := hq.2 rfl
    clear hq
    go_wp2_with fail
    refine (slicesEqual_any _ _ _ _ _ _ _ _ l l _ (Rd.drewN HC3.out m) (Rd.drewN HR3.out m) hbig).mono ?_
    rintro e w5 ⟨q, rfl, hq, m2, rfl⟩
    obtain rfl : q = true := hq.2 rfl
    clear hq
    go_wp2_with fail
    refine (awake_any _).mono ?_
    rintro e w4 ⟨rfl, hb4⟩
    go_wp2_with fail
    go_ret
    exact ⟨rfl, below_via (below_drewN hb13 (m + m2)) hb4 (by have := hb13.size; simpa using this)⟩
end Go.Proofs.Ytgdhbklgcmcdeaa
