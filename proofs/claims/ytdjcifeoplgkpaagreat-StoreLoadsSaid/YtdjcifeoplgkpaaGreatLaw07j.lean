/-
  The walk of the law StoreLoads: the Go text answers true. Condition: the bytes read as a list.
-/
import Derived.Test.YtdjcifeoplgkpaaGreatTells07
namespace Go.Proofs.YtdjcifeoplgkpaaGreat
open Go Go.RowKit Go.Maps

set_option maxRecDepth 100000 in
set_option maxHeartbeats 2000000 in
theorem storeLoads_any (A : Option Addr) (n cap B : Nat) (l : List UInt8) (w : World) (hB : B ≤ w.heap.size) (hcap : n ≤ cap) (hr : RdB w B A n l) :
    Calls Tryz.prog 4 #[.slice A n cap] w fun e w' => e = .returned (.bool true) ∧ Below w.heap.size w w' := by
  have hlen := hr.len
  subst hlen
  have HR := Lib.hid hr
  clear hr
  by_cases hbig : (65536 : Int) < (l.length : Int)
  · go_enter Tryz.func4, Tryz.ntmps4
    go_wp2_with fail
    refine (awake7_any _).mono ?_
    rintro e w2 ⟨rfl, hb2⟩
    go_wp2_with fail
    go_ret
    exact ⟨rfl, hb2⟩
  · go_enter Tryz.func4, Tryz.ntmps4
    go_wp2_with fail
    refine (cloneBytes_any A l.length cap B l w hB (by omega) HR.out).mono ?_
    rintro e w1 ⟨A1, c1, rfl, hown1, hb1⟩
    have hz1 := hb1.size
    have HO1 := Lib.hid hown1
    have HB1 := Lib.hid hb1
    have HLOAD := Lib.hid (load_any A1 l.length c1 w1.heap.size l w1 (Nat.le_refl _) (by omega) (RdB.of_own hown1))
    clear hown1 hb1
    go_wp2_with fail
    refine HLOAD.out.mono ?_
    rintro e w2 ⟨hb2, hres⟩
    have hz2 := hb2.size
    have HB2 : Hid (Below w.heap.size w w2) := Lib.hid (HB1.out.trans (hb2.mono hz1))
    have HO2 := Lib.hid (own_below HO1.out hb2)
    have hrl := rload_any A l.length cap B l w2 (by omega) (by omega) hcap (Rd.below' HR.out HB2.out hB (Nat.le_refl _))
    rw [rload_load] at hrl
    clear hb2 HLOAD
    cases hla : loadA l with
    | none =>
      rw [hla] at hres hrl
      obtain rfl : e = .returned (.tuple #[.pointer none, .int .i64 70]) := hres
      have HRL := Lib.hid hrl
      clear hrl hla
      go_wp2_with fail
      refine HRL.out.mono ?_
      rintro e w3 ⟨hb3, he⟩
      obtain rfl : e = .returned (.tuple #[.pointer none, .int .i64 70]) := he
      have HB3 : Hid (Below w.heap.size w w3) := Lib.hid (HB2.out.trans (hb3.mono HB2.out.size))
      have HO3 := Lib.hid (own_below HO2.out hb3)
      clear hb3
      have HR3 : Hid (RdB w3 B A l.length l) := Lib.hid (Rd.below' HR.out HB3.out hB (Nat.le_refl _))
      go_wp2_with fail
      refine (bytesEqual_any _ _ _ _ _ _ _ _ l l _ (RdB.of_own HO3.out) HR3.out).mono ?_
      rintro e w4 ⟨q, rfl, hq, m4, rfl⟩
      obtain rfl : q = true := hq.2 rfl
      clear hq
      go_wp2_with fail
      refine (awake7_any _).mono ?_
      rintro e w5 ⟨rfl, hb5⟩
      go_wp2_with fail
      go_ret
      exact ⟨rfl, below_via (below_dN HB3.out m4) hb5 HB3.out.size⟩
    | some T =>
      rw [hla] at hres hrl
      obtain ⟨s, m, he, hst⟩ : ∃ s m, e = .returned (.tuple #[.pointer (some ⟨s, 0, none⟩), .int .i64 0]) ∧ St w2 s m T (fun k => w1.heap.size ≤ k ∧ k < w2.heap.size) := hres
      subst he
      have HST := Lib.hid hst
      have HRL := Lib.hid hrl
      clear hrl hla hst
      go_wp2_with fail
      refine HRL.out.mono ?_
      rintro e w3 ⟨hb3, he⟩
      obtain ⟨x, he, hrs⟩ : ∃ x, e = .returned (.tuple #[.pointer (some ⟨x, 0, none⟩), .int .i64 0]) ∧ RS w3 x T (fun k => w2.heap.size ≤ k ∧ k < w3.heap.size) := he
      subst he
      have HRS := Lib.hid hrs
      have HST3 := Lib.hid (HST.out.below hb3 (Nat.le_refl _))
      have HB3 : Hid (Below w.heap.size w w3) := Lib.hid (HB2.out.trans (hb3.mono HB2.out.size))
      have HO3 := Lib.hid (own_below HO2.out hb3)
      clear hb3 hrs
      go_wp2_with fail
      refine (tells7_any HST3.out HRS.out).mono ?_
      rintro e w4 ⟨rfl, hb4⟩
      have HB4 : Hid (Below w.heap.size w w4) := Lib.hid (HB3.out.trans (hb4.mono HB3.out.size))
      have HO4 := Lib.hid (own_below HO3.out hb4)
      have HR4 : Hid (RdB w4 B A l.length l) := Lib.hid (Rd.below' HR.out HB4.out hB (Nat.le_refl _))
      clear hb4
      go_wp2_with fail
      refine (bytesEqual_any _ _ _ _ _ _ _ _ l l _ (RdB.of_own HO4.out) HR4.out).mono ?_
      rintro e w5 ⟨q, rfl, hq, m5, rfl⟩
      obtain rfl : q = true := hq.2 rfl
      clear hq
      go_wp2_with fail
      refine (awake7_any _).mono ?_
      rintro e w6 ⟨rfl, hb6⟩
      go_wp2_with fail
      go_ret
      exact ⟨rfl, below_via (below_dN HB4.out m5) hb6 HB4.out.size⟩
end Go.Proofs.YtdjcifeoplgkpaaGreat
