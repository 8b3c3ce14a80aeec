/-
  The walk of the law ForestTwins: the Go text answers true. Condition: the spans are not more than memory bears.
-/
import Derived.Test.YtnocknhfdegkgaaAwake04
import Derived.Test.YtnocknhfdegkgaaGrown04
import Derived.Test.YtnocknhfdegkgaaForestO
import Derived.Test.YtnocknhfdegkgaaEqB04
import Derived.Test.YtnocknhfdegkgaaForest6
namespace Go.Proofs.Ytnocknhfdegkgaa
open Go Go.RowKit Go.Maps

theorem add_gr {tr : Int} {L : List Sp} (h : Grown tr L) (l : List Sp) : Grown tr (addA tr L l).1 := by
  unfold addA
  cases hl : l.all (fits tr)
  · rw [if_neg Bool.false_ne_true]; exact h
  · rw [if_pos rfl]
    show Grown tr (addL (L, Cnt.zero) l).1
    have : ∀ (l : List Sp) (st : List Sp × Cnt), (∀ s ∈ l, fits tr s = true) → Grown tr st.1 → Grown tr (addL st l).1 := by
      intro l
      induction l with
      | nil => intro st _ h; exact h
      | cons s l ih =>
        intro st hf h
        exact ih (addS st s) (fun t ht => hf t (by simp [ht])) (by obtain ⟨L, c⟩ := st; exact h.addS (hf s (by simp)) c)
    exact this l _ (List.all_eq_true.1 hl) h

set_option maxRecDepth 100000 in
set_option maxHeartbeats 4000000 in
theorem forestTwins_any (A : Option Addr) (n cap B : Nat) (l : List Sp) (A1 : Option Addr) (n1 cap1 : Nat) (l1 : List Sp) (A2 : Option Addr) (n2 cap2 : Nat) (l2 : List Sp) (w : World) (hB : B ≤ w.heap.size) (hbig : n ≤ 140737488355328) (hbig1 : n1 ≤ 140737488355328) (hbig2 : n2 ≤ 140737488355328) (hr : RdS w B A n l) (hr1 : RdS w B A1 n1 l1) (hr2 : RdS w B A2 n2 l2) :
    Calls Try.prog 7 #[.slice A n cap, .slice A1 n1 cap1, .slice A2 n2 cap2] w fun e w' => e = .returned (.bool true) ∧ Below w.heap.size w w' := by
  have hlen := hr.len
  subst hlen
  have hlen := hr1.len
  subst hlen
  have hlen := hr2.len
  subst hlen
  have HR := Lib.hid hr
  have HR1 := Lib.hid hr1
  have HR2 := Lib.hid hr2
  clear hr hr1 hr2
  cases hl : lightB l
  · have HL := Lib.hid hl
    clear hl
    go_enter Try.func7, Try.ntmps7
    go_wp2_with fail
    refine (light_any _ _ _ _ l _ (by omega) HR.out).mono ?_
    rintro e w1 ⟨rfl, rfl⟩
    rw [HL.out]
    go_wp2_with fail
    refine (awake4_any _).mono ?_
    rintro e w2 ⟨rfl, hb2⟩
    go_wp2_with fail
    go_ret
    exact ⟨rfl, hb2⟩
  · have HL := Lib.hid hl
    have hlp := light_parts hl
    have hl200 := hlp.1
    have HNM : Hid (∀ s ∈ l, s.nm.size ≤ 140737488355328) := Lib.hid fun s hs => by have := hlp.2 s hs; omega
    clear hl hlp
    cases hl : lightB l1
    · have HL1 := Lib.hid hl
      clear hl
      go_enter Try.func7, Try.ntmps7
      go_wp2_with fail
      refine (light_any _ _ _ _ l _ (by omega) HR.out).mono ?_
      rintro e w1 ⟨rfl, rfl⟩
      rw [HL.out]
      go_wp2_with fail
      refine (light_any _ _ _ _ l1 _ (by omega) HR1.out).mono ?_
      rintro e w1 ⟨rfl, rfl⟩
      rw [HL1.out]
      go_wp2_with fail
      refine (awake4_any _).mono ?_
      rintro e w2 ⟨rfl, hb2⟩
      go_wp2_with fail
      go_ret
      exact ⟨rfl, hb2⟩
    · have HL1 := Lib.hid hl
      have hlp := light_parts hl
      have hl201 := hlp.1
      have HNM1 : Hid (∀ s ∈ l1, s.nm.size ≤ 140737488355328) := Lib.hid fun s hs => by have := hlp.2 s hs; omega
      clear hl hlp
      cases hl : lightB l2
      · have HL2 := Lib.hid hl
        clear hl
        go_enter Try.func7, Try.ntmps7
        go_wp2_with fail
        refine (light_any _ _ _ _ l _ (by omega) HR.out).mono ?_
        rintro e w1 ⟨rfl, rfl⟩
        rw [HL.out]
        go_wp2_with fail
        refine (light_any _ _ _ _ l1 _ (by omega) HR1.out).mono ?_
        rintro e w1 ⟨rfl, rfl⟩
        rw [HL1.out]
        go_wp2_with fail
        refine (light_any _ _ _ _ l2 _ (by omega) HR2.out).mono ?_
        rintro e w1 ⟨rfl, rfl⟩
        rw [HL2.out]
        go_wp2_with fail
        refine (awake4_any _).mono ?_
        rintro e w2 ⟨rfl, hb2⟩
        go_wp2_with fail
        go_ret
        exact ⟨rfl, hb2⟩
      · have HL2 := Lib.hid hl
        have hlp := light_parts hl
        have hl202 := hlp.1
        have HNM2 : Hid (∀ s ∈ l2, s.nm.size ≤ 140737488355328) := Lib.hid fun s hs => by have := hlp.2 s hs; omega
        clear hl hlp
        go_enter Try.func7, Try.ntmps7
        go_wp2_with fail
        refine (light_any _ _ _ _ l _ (by omega) HR.out).mono ?_
        rintro e w1 ⟨rfl, rfl⟩
        rw [HL.out]
        go_wp2_with fail
        refine (light_any _ _ _ _ l1 _ (by omega) HR1.out).mono ?_
        rintro e w1 ⟨rfl, rfl⟩
        rw [HL1.out]
        go_wp2_with fail
        refine (light_any _ _ _ _ l2 _ (by omega) HR2.out).mono ?_
        rintro e w1 ⟨rfl, rfl⟩
        rw [HL2.out]
        go_wp2_with fail
        refine (grown_any _ _ _ B l _ hB (by omega) HNM.out HR.out).mono ?_
        rintro e w1 ⟨p, a, d, rfl, hf1, hb1⟩
        have hz1 := hb1.size
        have HF1 := Lib.hid hf1
        have HB1 := Lib.hid hb1
        clear hf1 hb1
        go_wp2_with fail
        refine (grown_any _ _ _ B l _ (by omega) (by omega) HNM.out (Rd.below' HR.out HB1.out hB (Nat.le_refl _))).mono ?_
        rintro e w2 ⟨p2, a2, d2, rfl, hg2, hb2⟩
        have hz2 := hb2.size
        have HG2 := Lib.hid hg2
        have HF2 := Lib.hid (HF1.out.below hb2 (Nat.le_refl _))
        have HB2 : Hid (Below w.heap.size w w2) := Lib.hid (HB1.out.trans (hb2.mono hz1))
        clear hg2 hb2
        go_wp2_with fail
        refine (grown_any _ _ _ B l _ (by omega) (by omega) HNM.out (Rd.below' HR.out HB2.out hB (Nat.le_refl _))).mono ?_
        rintro e w3 ⟨p3, a3, d3, rfl, hh3, hb3⟩
        have hz3 := hb3.size
        have HH3 := Lib.hid hh3
        have HF3 := Lib.hid (HF2.out.below hb3 (Nat.le_refl _))
        have HG3 := Lib.hid (HG2.out.below hb3 (Nat.le_refl _))
        have HB3 : Hid (Below w.heap.size w w3) := Lib.hid (HB2.out.trans (hb3.mono (by omega)))
        clear hh3 hb3
        generalize growL l = L at *
        go_wp2_with fail
        refine (clone_any HF3.out).mono ?_
        rintro e w4 ⟨p4, a4, d4, rfl, hc4, hb4⟩
        have hz4 := hb4.size
        have HC4 := Lib.hid hc4
        have HF4 := Lib.hid (HF3.out.below hb4 (Nat.le_refl _))
        have HG4 := Lib.hid (HG3.out.below hb4 (Nat.le_refl _))
        have HH4 := Lib.hid (HH3.out.below hb4 (Nat.le_refl _))
        have HB4 : Hid (Below w.heap.size w w4) := Lib.hid (HB3.out.trans (hb4.mono (by omega)))
        clear hc4 hb4
        go_wp2_with fail
        refine (add_all HF4.out A1 l1.length cap1 B l1 (by omega) (by omega) HNM1.out (Rd.below' HR1.out HB4.out hB (Nat.le_refl _)) (fun hn k hk hs => by
          have := rd_block HR1.out hn k hk
          omega)).mono ?_
        have HG1R := Lib.hid (add_gr HF1.out.gr l1)
        have HG2R := Lib.hid (add_gr HF1.out.gr l2)
        generalize hr1 : addA 1 L l1 = r1 at *
        generalize hr2 : addA 1 L l2 = r2 at *
        have HE1 := Lib.hid hr1
        have HE2 := Lib.hid hr2
        clear hr1 hr2
        rintro e w5 ⟨rfl, hf5, hfr5⟩
        have hz5 := hfr5.size
        have HF5 := Lib.hid hf5
        have HG5 := Lib.hid (HG4.out.fr hfr5 (fun k hk hs => by omega))
        have HH5 := Lib.hid (HH4.out.fr hfr5 (fun k hk hs => by omega))
        have HC5 := Lib.hid (HC4.out.fr hfr5 (fun k hk hs => by omega))
        have HB5 : Hid (Below w.heap.size w w5) := Lib.hid (HB4.out.trans (hfr5.below (by omega) (fun k hk => by omega)))
        clear hf5 hfr5
        go_wp2_with fail
        have hc := add_all HC5.out A2 l2.length cap2 B l2 (by omega) (by omega) HNM2.out (Rd.below' HR2.out HB5.out hB (Nat.le_refl _)) (fun hn k hk hs => by
          have := rd_block HR2.out hn k hk
          omega)
        rw [HE2.out] at hc
        refine hc.mono ?_
        clear hc
        rintro e w6 ⟨rfl, hc6, hfr6⟩
        have hz6 := hfr6.size
        have HC6 := Lib.hid hc6
        have HF6 := Lib.hid (HF5.out.fr hfr6 (fun k hk hs => by omega))
        have HG6 := Lib.hid (HG5.out.fr hfr6 (fun k hk hs => by omega))
        have HH6 := Lib.hid (HH5.out.fr hfr6 (fun k hk hs => by omega))
        have HB6 : Hid (Below w.heap.size w w6) := Lib.hid (HB5.out.trans (hfr6.below (by omega) (fun k hk => by omega)))
        clear hc6 hfr6
        go_wp2_with fail
        have hc := add_all HG6.out A1 l1.length cap1 B l1 (by omega) (by omega) HNM1.out (Rd.below' HR1.out HB6.out hB (Nat.le_refl _)) (fun hn k hk hs => by
          have := rd_block HR1.out hn k hk
          omega)
        rw [HE1.out] at hc
        refine hc.mono ?_
        clear hc
        rintro e w7 ⟨rfl, hg7, hfr7⟩
        have hz7 := hfr7.size
        have HG7 := Lib.hid hg7
        have HF7 := Lib.hid (HF6.out.fr hfr7 (fun k hk hs => by omega))
        have HC7 := Lib.hid (HC6.out.fr hfr7 (fun k hk hs => by omega))
        have HH7 := Lib.hid (HH6.out.fr hfr7 (fun k hk hs => by omega))
        have HB7 : Hid (Below w.heap.size w w7) := Lib.hid (HB6.out.trans (hfr7.below (by omega) (fun k hk => by omega)))
        clear hg7 hfr7
        go_wp2_with fail
        have hc := add_all HH7.out A2 l2.length cap2 B l2 (by omega) (by omega) HNM2.out (Rd.below' HR2.out HB7.out hB (Nat.le_refl _)) (fun hn k hk hs => by
          have := rd_block HR2.out hn k hk
          omega)
        rw [HE2.out] at hc
        refine hc.mono ?_
        clear hc
        rintro e w8 ⟨rfl, hh8, hfr8⟩
        have hz8 := hfr8.size
        have HH8 := Lib.hid hh8
        have HF8 := Lib.hid (HF7.out.fr hfr8 (fun k hk hs => by omega))
        have HC8 := Lib.hid (HC7.out.fr hfr8 (fun k hk hs => by omega))
        have HG8 := Lib.hid (HG7.out.fr hfr8 (fun k hk hs => by omega))
        have HB8 : Hid (Below w.heap.size w w8) := Lib.hid (HB7.out.trans (hfr8.below (by omega) (fun k hk => by omega)))
        have HBL1 : Hid ((branches r1.1).length ≤ 140737488355328) := Lib.hid (branches_len HG1R.out)
        have HBL2 : Hid ((branches r2.1).length ≤ 140737488355328) := Lib.hid (branches_len HG2R.out)
        clear hh8 hfr8
        go_wp2_with fail
        refine (branches_any HF8.out).mono ?_
        rintro e va1 ⟨A51, c51, rfl, hown5, hb5⟩
        have hva1 := hb5.size
        have HR51 := Lib.hid (Rd.of_own hown5)
        have HGa1 := Lib.hid (HG8.out.below hb5 (Nat.le_refl _))
        have HCa := Lib.hid (HC8.out.below hb5 (Nat.le_refl _))
        have HHa := Lib.hid (HH8.out.below hb5 (Nat.le_refl _))
        have HBa1 : Hid (Below w.heap.size w va1) := Lib.hid (HB8.out.trans (hb5.mono HB8.out.size))
        clear hown5 hb5
        go_wp2_with fail
        refine (branches_any HGa1.out).mono ?_
        rintro e vb1 ⟨A61, c61, rfl, hown6, hb6⟩
        have HR61 := Lib.hid (Rd.of_own hown6)
        have HR5b1 := Lib.hid (Rd.below' HR51.out hb6 (Nat.le_refl _) (Nat.le_refl _))
        have HCb := Lib.hid (HCa.out.below hb6 (Nat.le_refl _))
        have HHb := Lib.hid (HHa.out.below hb6 (Nat.le_refl _))
        have HBb1 : Hid (Below w.heap.size w vb1) := Lib.hid (HBa1.out.trans (hb6.mono HBa1.out.size))
        clear hown6 hb6
        go_wp2_with fail
        refine (eqB_any _ _ _ _ _ _ _ _ (branches r1.1) (branches r1.1) _ HR5b1.out HR61.out HBL1.out).mono ?_
        rintro e w7 ⟨q, rfl, hq, m1, rfl⟩
        obtain rfl : q = true := hq.2 rfl
        clear hq
        have HCc := Lib.hid (HCb.out.drewN m1)
        have HHc := Lib.hid (HHb.out.drewN m1)
        have HBc := Lib.hid (below_dN HBb1.out m1)
        go_wp2_with fail
        refine (branches_any HCc.out).mono ?_
        rintro e va2 ⟨A52, c52, rfl, hown5, hb5⟩
        have hva2 := hb5.size
        have HR52 := Lib.hid (Rd.of_own hown5)
        have HGa2 := Lib.hid (HHc.out.below hb5 (Nat.le_refl _))
        have HBa2 : Hid (Below w.heap.size w va2) := Lib.hid (HBc.out.trans (hb5.mono HBc.out.size))
        clear hown5 hb5
        go_wp2_with fail
        refine (branches_any HGa2.out).mono ?_
        rintro e vb2 ⟨A62, c62, rfl, hown6, hb6⟩
        have HR62 := Lib.hid (Rd.of_own hown6)
        have HR5b2 := Lib.hid (Rd.below' HR52.out hb6 (Nat.le_refl _) (Nat.le_refl _))
        have HBb2 : Hid (Below w.heap.size w vb2) := Lib.hid (HBa2.out.trans (hb6.mono HBa2.out.size))
        clear hown6 hb6
        go_wp2_with fail
        refine (eqB_any _ _ _ _ _ _ _ _ (branches r2.1) (branches r2.1) _ HR5b2.out HR62.out HBL2.out).mono ?_
        rintro e w7 ⟨q, rfl, hq, m2, rfl⟩
        obtain rfl : q = true := hq.2 rfl
        clear hq
        go_wp2_with fail
        refine (awake4_any _).mono ?_
        rintro e v8 ⟨rfl, hb8⟩
        go_wp2_with fail
        go_ret
        exact ⟨rfl, below_via (below_dN HBb2.out m2) hb8 HBb2.out.size⟩
end Go.Proofs.Ytnocknhfdegkgaa
