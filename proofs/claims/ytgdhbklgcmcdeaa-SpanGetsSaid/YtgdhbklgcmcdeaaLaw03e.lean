/-
  The walk of the law SpanGets: the Go text answers true. Condition: the slice's length is not above its capacity.
-/
import Derived.Test.YtgdhbklgcmcdeaaLaw03b
import Derived.Test.YtgdhbklgcmcdeaaRefGet
namespace Go.Proofs.Ytgdhbklgcmcdeaa
open Go.RowKit

set_option maxRecDepth 100000 in
set_option maxHeartbeats 1000000 in
theorem spanGets_any (A : Option Addr) (n cap B : Nat) (l : List UInt8) (w : World) (hB : B ≤ w.heap.size) (hcap : n ≤ cap) (hr : RdB w B A n l) :
    Calls Try.prog 7 #[.slice A n cap] w fun e w' => e = .returned (.bool true) ∧ Below w.heap.size w w' := by
  have hlen := hr.len
  subst hlen
  have HR := Lib.hid hr
  clear hr
  by_cases hn : l.length ≤ 65536
  · go_enter Try.func7, Try.ntmps7
    go_wp2_with fail
    refine (cloneBytes_any _ _ _ _ l _ hB (by omega) HR.out).mono ?_
    rintro e w1 ⟨A1, c1, rfl, hown1, hb1⟩
    have hsz1 := hb1.size
    have HC1 : Hid (RdB w1 w1.heap.size A1 l.length l) := Lib.hid (RdB.of_own hown1)
    have HR1 : Hid (RdB w1 B A l.length l) := Lib.hid (Rd.below' HR.out hb1 hB (Nat.le_refl _))
    clear hown1
    go_wp2_with fail
    refine (Get_any _ _ _ _ l _ (Nat.le_refl _) (by omega) HC1.out).mono ?_
    rintro e w2 ⟨A2, c2, rfl, hown2, hb2⟩
    have hsz2 := hb2.size
    have HS2 : Hid (RdS w2 w2.heap.size A2 (getAns l).1.length (getAns l).1) := Lib.hid (Rd.of_own hown2)
    have HC2 : Hid (RdB w2 w1.heap.size A1 l.length l) := Lib.hid (Rd.below' HC1.out hb2 (Nat.le_refl _) (Nat.le_refl _))
    have HR2 : Hid (RdB w2 B A l.length l) := Lib.hid (Rd.below' HR1.out hb2 (by omega) (Nat.le_refl _))
    have hb12 : Below w.heap.size w w2 := below_via hb1 hb2 (by omega)
    clear hown2
    have hgl : (getAns l).1.length ≤ 140737488355328 := by
      rcases put_get l with ⟨sps, h, _, hp⟩ | h
      · have h1 := putEnc_ge sps
        rw [hp] at h1
        rw [h]; dsimp only; omega
      · rw [h]; simp
    generalize hP : getAns l = P at *
    have HP := Lib.hid hP
    clear hP
    go_wp2_with fail
    refine (refGet_any _ _ _ _ l _ (by omega) (by omega) hcap HR2.out).mono ?_
    rw [HP.out]
    rintro e w3 ⟨A3, c3, rfl, hown3, hb3⟩
    have hsz3 := hb3.size
    have HS3 : Hid (RdS w3 w3.heap.size A3 P.1.length P.1) := Lib.hid (Rd.of_own hown3)
    have HS2' : Hid (RdS w3 w2.heap.size A2 P.1.length P.1) := Lib.hid (Rd.below' HS2.out hb3 (Nat.le_refl _) (Nat.le_refl _))
    have HC3 : Hid (RdB w3 w1.heap.size A1 l.length l) := Lib.hid (Rd.below' HC2.out hb3 (by omega) (Nat.le_refl _))
    have HR3 : Hid (RdB w3 B A l.length l) := Lib.hid (Rd.below' HR2.out hb3 (by omega) (Nat.le_refl _))
    have hb13 : Below w.heap.size w w3 := below_via hb12 hb3 (by omega)
    clear hown3
    go_wp2_with fail
    refine (slicesEqual_any _ _ _ _ _ _ _ _ P.1 P.1 _ HS2'.out HS3.out hgl).mono ?_
    rintro e w4 ⟨q, rfl, hq, m, rfl⟩
    obtain rfl : q = true := hq.2 rfl
    clear hq
    go_wp2_with fail
    refine (bytesEqual_any _ _ _ _ _ _ _ _ l l _ (Rd.drewN HC3.out m) (Rd.drewN HR3.out m)).mono ?_
    rintro e w5 ⟨q, rfl, hq, m2, rfl⟩
    obtain rfl : q = true := hq.2 rfl
    clear hq
    go_wp2_with fail
    refine (awake_any _).mono ?_
    rintro e w4 ⟨rfl, hb4⟩
    go_wp2_with fail
    go_ret
    exact ⟨rfl, below_via (below_drewN hb13 (m + m2)) hb4 (by have := hb13.size; simpa using this)⟩
  · have h1 : (65536 : Int) < (l.length : Int) := by omega
    go_enter Try.func7, Try.ntmps7
    go_wp2_with fail
    refine (awake_any _).mono ?_
    rintro e w2 ⟨rfl, hb2⟩
    go_wp2_with fail
    go_ret
    exact ⟨rfl, hb2⟩
end Go.Proofs.Ytgdhbklgcmcdeaa
