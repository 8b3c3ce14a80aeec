/-
  The walk of the law ForestPlays: the Go text answers true. Conditions: the number is an int; the lists are not more than 2000000, nor what they hold together.
-/
import Derived.Test.YtnocknhfdegkgaaAwake04
import Derived.Test.YtnocknhfdegkgaaRef04g
import Derived.Test.YtnocknhfdegkgaaConcat
namespace Go.Proofs.Ytnocknhfdegkgaa
open Go Go.RowKit Go.Maps

/-- Both forests behind the first calls. -/
def Both (w wr : World) (p a d x : Nat) (tr : Int) : Prop :=
  ∃ (L : List Sp) (S1 S2 : Nat → Prop), Fo wr p a d tr L S1 ∧ RF wr x tr L S2 ∧ (∀ k, S1 k → ¬ S2 k) ∧ (∀ k, S1 k ∨ S2 k → w.heap.size ≤ k) ∧ Below w.heap.size w wr
theorem both_box {w w1 : World} {p a d : Nat} {tr : Int} (hf : Fo w1 p a d tr [] (fun k => w.heap.size ≤ k ∧ k < w1.heap.size)) (hb : Below w.heap.size w w1) :
    Both w (w1.alloc (.cells #[.int .i64 tr, .slice none 0 0] 65)) p a d w1.heap.size tr := by
  have hz := hb.size
  refine ⟨[], fun k => w.heap.size ≤ k ∧ k < w1.heap.size, fun k => k = w1.heap.size, hf.below ((Below.refl _ _).alloc (Nat.le_refl _) _) (Nat.le_refl _), ⟨⟨none, 0, ⟨heap_alloc_new w1 _, Rd.nil, by simp⟩, fun k hk => by cases hk⟩, rfl, fun k hk => by simp <;> omega⟩, fun k hk he => by omega, fun k hk => by omega, hb.alloc hz _⟩
theorem flat_all {ps : List PartS} {k : Nat} (hk : k < ps.length) {P : Sp → Prop} (h : ∀ s ∈ joinS ps, P s) : ∀ s ∈ ps[k].l, P s := fun s hs => h s (List.mem_flatMap.2 ⟨_, List.getElem_mem hk, hs⟩)
theorem part_len {w : World} {B n : Nat} {A : Option Addr} {ps : List PartS} (h : RdPS w B A n ps) : (joinS ps).length = totPS ps := by
  have hp := h.2
  clear h
  induction ps with
  | nil => rfl
  | cons q ps ih =>
    have e : joinS (q :: ps) = q.l ++ joinS ps := by simp [joinS]
    have e2 : totPS (q :: ps) = q.n + totPS ps := by simp [totPS]
    rw [e, e2, List.length_append, ih (fun p hp' => hp p (by simp [hp']))]
    have := RdS.len (hp q (by simp))
    omega
theorem part_le {ps : List PartS} {k : Nat} (hk : k < ps.length) : ps[k].n ≤ totPS ps := by
  have h1 := totPS_take_succ ps k hk
  have h2 := totPS_take_le ps (k + 1)
  omega
theorem cnt_eql (c : Cnt) (W : World) : (binOp .neq 33 c.val c.val).run Try.prog W = .ok (.bool false) W := by
  go_simp

set_option maxRecDepth 100000 in
set_option maxHeartbeats 4000000 in
theorem forestPlays_any (tr : Int) (A : Option Addr) (n cap B : Nat) (ps : List PartS) (w : World) (hB : B ≤ w.heap.size) (hn : n ≤ 2000000) (htot : totPS ps ≤ 2000000) (hr : RdPS w B A n ps) :
    Calls Try.prog 11 #[.int .i64 tr, .slice A n cap] w fun e w' => e = .returned (.bool true) ∧ Below w.heap.size w w' := by
  have hl : ps.length = n := by simpa using hr.1.1
  subst hl
  have HR := Lib.hid hr
  have HJL := Lib.hid (part_len hr)
  clear hr
  by_cases hbad : tr < 1 ∨ 1099511627776 < tr
  · have HNIL := Lib.hid (newNil_any tr w hbad)
    rcases hbad with h1 | h1
    · go_enter Try.func11, Try.ntmps11
      go_wp2_with fail
      refine HNIL.out.mono ?_
      rintro e w1 ⟨rfl, rfl⟩
      go_wp2_with fail
      refine (awake4_any _).mono ?_
      rintro e w2 ⟨rfl, hb2⟩
      go_wp2_with fail
      go_ret
      exact ⟨rfl, hb2⟩
    · have h2 : ¬ tr < 1 := by omega
      go_enter Try.func11, Try.ntmps11
      go_wp2_with fail
      refine HNIL.out.mono ?_
      rintro e w1 ⟨rfl, rfl⟩
      go_wp2_with fail
      refine (awake4_any _).mono ?_
      rintro e w2 ⟨rfl, hb2⟩
      go_wp2_with fail
      go_ret
      exact ⟨rfl, hb2⟩
  · have h1 : ¬ tr < 1 := by omega
    have h2 : ¬ (1099511627776 : Int) < tr := by omega
    have HNEW := Lib.hid (new_any tr w ⟨by omega, by omega⟩)
    clear hbad
    go_enter Try.func11, Try.ntmps11
    go_wp2_with fail
    refine HNEW.out.mono ?_
    rintro e w1 ⟨p, a, d, rfl, hf1, hb1⟩
    have hz1 := hb1.size
    have HBOTH := Lib.hid (both_box hf1 hb1)
    clear hf1 hb1
    go_wp2_with fail
    have HB2 : Hid (Below w.heap.size w (w1.alloc (.cells #[.int .i64 tr, .slice none 0 0] 65))) := Lib.hid (by obtain ⟨_, _, _, _, _, _, _, h⟩ := HBOTH.out; exact h)
    generalize (w1.alloc (.cells #[.int .i64 tr, .slice none 0 0] 65)) = w2 at *
    generalize w1.heap.size = x at *
    have hz2 := HB2.out.size
    refine (concat_any A _ cap B ps w2 (by omega) hn htot (HR.out.below HB2.out hB)).mono ?_
    rintro e w3 ⟨A3, c3, rfl, hown3, hb3⟩
    have hz3 := hb3.size
    have HRJ : Hid (RdS w3 w3.heap.size A3 (joinS ps).length (joinS ps)) := Lib.hid (Rd.of_own hown3)
    have HB3 : Hid (Below w.heap.size w w3) := Lib.hid (HB2.out.trans (hb3.mono hz2))
    have HBOTH3 : Hid (Both w w3 p a d x tr) := Lib.hid (by
      obtain ⟨L, S1, S2, g1, g2, g3, g4, g5⟩ := HBOTH.out
      exact ⟨L, S1, S2, g1.below hb3 (Nat.le_refl _), g2.below hb3 (Nat.le_refl _), g3, g4, HB3.out⟩)
    have hjl : (joinS ps).length ≤ 2000000 := by have := HJL.out; omega
    clear hown3 hb3
    go_wp2_with fail
    refine (light_any _ _ _ _ (joinS ps) _ (by omega) HRJ.out).mono ?_
    rintro e w4 ⟨rfl, rfl⟩
    cases hlt : lightB (joinS ps)
    · have HL := Lib.hid hlt
      clear hlt
      go_wp2_with fail
      refine (awake4_any _).mono ?_
      rintro e w2 ⟨rfl, hb2⟩
      go_wp2_with fail
      go_ret
      exact ⟨rfl, below_via HB3.out hb2 HB3.out.size⟩
    · have hlp := light_parts hlt
      have HNM : Hid (∀ s ∈ joinS ps, s.nm.size ≤ 140737488355328) := Lib.hid fun s hs => by have := hlp.2 s hs; omega
      have hl200 := hlp.1
      clear hlp hlt
      by_cases hlong : 200 < ps.length
      · have hli : (200 : Int) < (ps.length : Int) := by omega
        go_wp2_with fail
        refine (awake4_any _).mono ?_
        rintro e w2 ⟨rfl, hb2⟩
        go_wp2_with fail
        go_ret
        exact ⟨rfl, below_via HB3.out hb2 HB3.out.size⟩
      · have hli : ¬ (200 : Int) < (ps.length : Int) := by omega
        go_wp2_with fail
        go_loopw [52] (fun i wr => ∃ k : Nat, k ≤ ps.length ∧ i = .int .i64 k ∧ Both w wr p a d x tr) (fun i _ => ps.length - (intOf i).toNat)
        case atStart => exact ⟨0, by omega, rfl, HBOTH3.out⟩
        case round =>
          obtain ⟨k, hk, rfl, L, S1, S2, hfo, hrf, hdis, hlow, hb⟩ := hrel
          have HFO := Lib.hid hfo
          have HRF := Lib.hid hrf
          have HDIS := Lib.hid hdis
          have HLOW := Lib.hid hlow
          have HB := Lib.hid hb
          have hzr := hb.size
          clear hfo hrf hdis hlow hb
          by_cases hlt : k < ps.length
          · have hk1 : (k : Int) < (ps.length : Int) := by omega
            obtain ⟨b1, o1, rfl, hb1, x0, hrp⟩ := (HR.out.below HB.out hB).at_ hlt
            have hnp := part_le hlt
            have hnm := flat_all hlt HNM.out
            have HRP := Lib.hid hrp
            have HRPA : Hid (∀ W, Below w.heap.size w W → RdS W B ps[k].A ps[k].n ps[k].l) := Lib.hid (fun W hW => (HR.out.below hW hB).2 _ (List.getElem_mem hlt))
            have HNMP := Lib.hid hnm
            have HPL := Lib.hid (RdS.len hrp)
            clear hrp hnm
            generalize ps[k] = pt at *
            have hpn : pt.n ≤ 1000000 := by
              have h1 := HJL.out
              omega
            go_wp2_with fail
            refine (cloneSpans_any pt.A pt.n pt.c B pt.l wr (by omega) (by omega) HRP.out).mono ?_
            rintro e w5 ⟨A5, c5, rfl, hown5, hb5⟩
            have hz5 := hb5.size
            have hA5 : ∀ j, A5.map (·.block) = some j → wr.heap.size ≤ j ∧ j < w5.heap.size := fun j hj => hown5.lt j (by rw [← hj]; cases A5 <;> rfl)
            have HA5 := Lib.hid hA5
            have HO5 := Lib.hid hown5
            have HB5 := Lib.hid hb5
            have HFO5 := Lib.hid (HFO.out.below hb5 (Nat.le_refl _))
            have HRF5 := Lib.hid (HRF.out.below hb5 (Nat.le_refl _))
            have HBW5 : Hid (Below w.heap.size w w5) := Lib.hid (HB.out.trans (hb5.mono hzr))
            clear hown5 hb5 hA5
            have hpl5 : pt.l.length ≤ 1000000 := by have := HPL.out; omega
            go_wp2_with fail
            refine (add_all HFO5.out A5 pt.l.length c5 w5.heap.size pt.l (Nat.le_refl _) hpl5 HNMP.out (Rd.of_own HO5.out) (fun _ j hj hs => by
              have h1 := (HA5.out j hj).1
              have h2 := HFO.out.lt j hs
              omega)).mono ?_
            rintro e w6 ⟨rfl, hfo6, hfr6⟩
            have hz6 := hfr6.size
            have HFO6 := Lib.hid hfo6
            have HFR6 := Lib.hid hfr6
            have HRF6 := Lib.hid (HRF5.out.fr hfr6 (fun j hj hs => HDIS.out j hs hj))
            have HBW6 : Hid (Below w.heap.size w w6) := Lib.hid (HBW5.out.trans (hfr6.below (by have := HBW5.out.size; omega) (fun j hj => HLOW.out j (.inl hj))))
            have HO6 := Lib.hid (own_fr' HO5.out hfr6 (fun j hj hs => by
              have h1 := (HO5.out.lt j hj).1
              have h2 := HFO.out.lt j hs
              omega))
            clear hfo6 hfr6
            go_wp2_with fail
            generalize hcv : (addA tr L pt.l).2.1 = cv
            generalize hev : (addA tr L pt.l).2.2 = ev
            have HCV := Lib.hid hcv
            have HEV := Lib.hid hev
            clear hcv hev
            generalize hB7 : (w6.alloc (.cells #[.int .i64 cv.ad, .int .i64 cv.sa, .int .i64 cv.ot, .int .i64 cv.cy, .int .i64 cv.fu] 33)) = w7
            have hn7 : ∀ j, w7.cell? ⟨w6.heap.size, j, none⟩ = (#[.int .i64 cv.ad, .int .i64 cv.sa, .int .i64 cv.ot, .int .i64 cv.cy, .int .i64 cv.fu] : Array Value)[j]? := by rw [← hB7]; exact blk_cell (heap_alloc_new w6 _)
            have HN7 := Lib.hid hn7
            have hb7 : Below w6.heap.size w6 w7 := by rw [← hB7]; exact (Below.refl _ _).alloc (Nat.le_refl _) _
            have hz67 : w6.heap.size < w7.heap.size := by rw [← hB7]; simp
            have HB7 := Lib.hid hb7
            have HFO7 := Lib.hid (HFO6.out.below hb7 (Nat.le_refl _))
            have HRF7 := Lib.hid (HRF6.out.below hb7 (Nat.le_refl _))
            have HBW7 : Hid (Below w.heap.size w w7) := Lib.hid (HBW6.out.trans (hb7.mono HBW6.out.size))
            have HO7 := Lib.hid (own_below HO6.out hb7)
            clear hn7 hb7 hB7
            refine (radd_any HRF7.out pt.A pt.n pt.c B pt.l (by have := HBW7.out.size; omega) hpn HNMP.out (HRPA.out w7 HBW7.out) (fun h0 j hj hs => by
              have h1 := rd_block (HRPA.out w7 HBW7.out) h0 j hj
              have h2 := HLOW.out j (.inr hs)
              omega)).mono ?_
            rintro e w8 ⟨he, hrf8, hfr8⟩
            rw [HCV.out, HEV.out] at he
            subst he
            have hz8 := hfr8.size
            have hS2lt : ∀ j, S2 j → j < wr.heap.size := HRF.out.lt
            have HRF8 := Lib.hid hrf8
            have HFO8 : Hid (Fo w8 p a d tr (addA tr L pt.l).1 (fun j => S1 j ∨ (w5.heap.size ≤ j ∧ j < w6.heap.size))) := Lib.hid (HFO7.out.fr hfr8 (fun j hj hs => by
              rcases hj with hj | ⟨h1, _⟩
              · exact HDIS.out j hj hs
              · have := hS2lt j hs; omega))
            have HBW8 : Hid (Below w.heap.size w w8) := Lib.hid (HBW7.out.trans (hfr8.below (by have := HBW7.out.size; omega) (fun j hj => HLOW.out j (.inr hj))))
            have HO8 := Lib.hid (own_fr' HO7.out hfr8 (fun j hj hs => by
              have h1 := (HO5.out.lt j hj).1
              have h2 := hS2lt j hs
              omega))
            have hn8 : ∀ j, w8.cell? ⟨w6.heap.size, j, none⟩ = (#[.int .i64 cv.ad, .int .i64 cv.sa, .int .i64 cv.ot, .int .i64 cv.cy, .int .i64 cv.fu] : Array Value)[j]? := fun j => by
              rw [← HN7.out j]
              simp only [World.cell?, hfr8.block w6.heap.size hz67 (fun hs => by have := hS2lt _ hs; omega)]
            have hlt8 : w6.heap.size < w8.heap.size := by omega
            have HB9 : Hid (Below w8.heap.size w8 (w8.alloc (.cells #[.int .i64 cv.ad, .int .i64 cv.sa, .int .i64 cv.ot, .int .i64 cv.cy, .int .i64 cv.fu] 33))) := Lib.hid ((Below.refl _ _).alloc (Nat.le_refl _) _)
            have HBW9 : Hid (Below w.heap.size w (w8.alloc (.cells #[.int .i64 cv.ad, .int .i64 cv.sa, .int .i64 cv.ot, .int .i64 cv.cy, .int .i64 cv.fu] 33))) := Lib.hid (HBW8.out.trans (HB9.out.mono HBW8.out.size))
            clear hrf8 hfr8 hS2lt
            go_wp2_with fail
            refine (slicesEqual_any _ _ _ _ _ _ _ _ pt.l pt.l _ (Rd.of_own (own_below HO8.out HB9.out)) (HRPA.out _ HBW9.out) (by omega)).mono ?_
            rintro e w9 ⟨q, rfl, hq, m9, rfl⟩
            obtain rfl : q = true := hq.2 rfl
            clear hq
            go_wp2_with fail
            go_roundw
            case rel =>
              refine ⟨k + 1, by omega, by go_num, _, _, _, (HFO8.out.below HB9.out (Nat.le_refl _)).drewN m9, (HRF8.out.below HB9.out (Nat.le_refl _)).below (below_drew' _ m9) (Nat.le_refl _), ?_, ?_, below_dN HBW9.out m9⟩
              · intro j hj hs
                have h2 := HRF.out.lt j
                have h3 := HFO.out.lt j
                rcases hj with hj | ⟨g1, g2⟩ <;> rcases hs with hs | ⟨g3, g4⟩
                · exact HDIS.out j hj hs
                · have := h3 hj; omega
                · have := h2 hs; omega
                · omega
              · intro j hj
                have := HBW7.out.size
                have := HBW5.out.size
                rcases hj with (hj | ⟨g1, _⟩) | (hj | ⟨g1, _⟩)
                · exact HLOW.out j (.inl hj)
                · omega
                · exact HLOW.out j (.inr hj)
                · omega
            case measure => simp [intOf]; omega
          · have hk1 : ¬ (k : Int) < (ps.length : Int) := by omega
            go_wp2_with fail
            refine (find_any HFO.out 0 (wfI_of (by omega) (by omega))).mono ?_
            rintro e w5 ⟨rfl, hb5⟩
            have hz5 := hb5.size
            have HNZ : Hid (atS L 0 = none) := Lib.hid (no_zero HFO.out.gr)
            have HBW5 : Hid (Below w.heap.size w w5) := Lib.hid (HB.out.trans (hb5.mono hzr))
            have HFO5 := Lib.hid (HFO.out.below hb5 (Nat.le_refl _))
            have HRF5 := Lib.hid (HRF.out.below hb5 (Nat.le_refl _))
            clear hb5
            rw [HNZ.out]
            generalize getS L 0 = y at *
            have HB6 : Hid (Below w5.heap.size w5 (w5.alloc (.cells #[.int .i64 y.tr, .int .i64 y.id, .int .i64 y.pa, .int .i64 y.st, .int .i64 y.en, .string y.nm] 30))) := Lib.hid ((Below.refl _ _).alloc (Nat.le_refl _) _)
            go_wp2_with fail
            refine (tells_any (HFO5.out.below HB6.out (Nat.le_refl _)) (HRF5.out.below HB6.out (Nat.le_refl _))).mono ?_
            rintro e w7 ⟨rfl, hb7⟩
            have HBW7 : Hid (Below w.heap.size w w7) := Lib.hid ((HBW5.out.trans (HB6.out.mono HBW5.out.size)).trans (hb7.mono (by have := HBW5.out.size; simp; omega)))
            clear hb7
            go_wp2_with fail
            refine (awake4_any _).mono ?_
            rintro e w8 ⟨rfl, hb8⟩
            go_wp2_with fail
            go_ret
            exact ⟨rfl, below_via HBW7.out hb8 HBW7.out.size⟩
end Go.Proofs.Ytnocknhfdegkgaa
