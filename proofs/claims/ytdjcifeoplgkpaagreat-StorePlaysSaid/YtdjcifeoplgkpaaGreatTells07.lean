/-
  The walk of the store laws' tells: a store tells what the document's does. Conditions: both lie in memory, with the same traces.
-/
import Derived.Test.YtdjcifeoplgkpaaGreatRef07d
import Derived.Test.YtdjcifeoplgkpaaGreatActs07
import Derived.Test.YtdjcifeoplgkpaaGreatEq07
import Derived.Test.YtdjcifeoplgkpaaGreatOwnSet
namespace Go.Proofs.YtdjcifeoplgkpaaGreat
open Go Go.RowKit Go.Maps

theorem look_low {T : List Tr} (h : GrT T) : lookT T (-7) = [] := by
  unfold lookT
  cases hg : getT T (-7) with
  | none => rfl
  | some L =>
    have h1 := h.ok _ (getT_some hg)
    have := h1.1.key h1.2
    dsimp only at this
    omega

set_option maxRecDepth 100000 in
set_option maxHeartbeats 2000000 in
theorem tells7_any {w : World} {s m x : Nat} {T : List Tr} {S S' : Nat → Prop} (h : St w s m T S) (h' : RS w x T S') :
    Calls Tryz.prog 15 #[.pointer (some ⟨s, 0, none⟩), .pointer (some ⟨x, 0, none⟩)] w fun e w' => e = .returned (.bool true) ∧ Below w.heap.size w w' := by
  have HST := Lib.hid h
  have HSU := Lib.hid h'
  have HGR := Lib.hid h.gr
  have HTR := Lib.hid (traces_any h)
  have HSL := Lib.hid h.lt
  clear h h'
  go_enter Tryz.func15, Tryz.ntmps15
  go_wp2_with fail
  refine HTR.out.mono ?_
  rintro e w1 ⟨A1, c1, rfl, hown1, hb1⟩
  have htl : (trcT T).length = T.length := by simp [trcT]
  rw [htl] at hown1 ⊢
  have HTL := Lib.hid htl
  have HO1 : Hid (w1.ownsRow w.heap.size 3 1 (.slice A1 T.length c1) T.length ((trcT T).map (Value.int .i64))) := Lib.hid hown1
  have HB1 := Lib.hid hb1
  have hz1 := hb1.size
  have HSU1 := Lib.hid (HSU.out.below hb1 (Nat.le_refl _))
  have HST1 := Lib.hid (HST.out.below hb1 (Nat.le_refl _))
  have hT32 := HGR.out.len
  clear hown1 hb1 htl
  have HTR2 := Lib.hid (rtraces_any HSU1.out)
  go_wp2_with fail
  refine HTR2.out.mono ?_
  rintro e w2 ⟨A2, c2, rfl, hown2, hb2⟩
  have htl : (trcT T).length = T.length := HTL.out
  rw [htl] at hown2 ⊢
  clear htl
  have HO2 : Hid (w2.ownsRow w1.heap.size 3 1 (.slice A2 T.length c2) T.length ((trcT T).map (Value.int .i64))) := Lib.hid hown2
  have HO12 := Lib.hid (own_below HO1.out hb2)
  have HB2 : Hid (Below w.heap.size w w2) := Lib.hid (HB1.out.trans (hb2.mono HB1.out.size))
  have HSU2 := Lib.hid (HSU1.out.below hb2 (Nat.le_refl _))
  have HST2 := Lib.hid (HST1.out.below hb2 (Nat.le_refl _))
  clear hown2 hb2
  go_wp2_with fail
  refine (eqI_any _ _ _ _ _ _ _ _ (trcT T) (trcT T) _ (Rd.of_own HO12.out) (Rd.of_own HO2.out) (by omega)).mono ?_
  rintro e w3 ⟨q, rfl, hq, m3, rfl⟩
  obtain rfl : q = true := hq.2 rfl
  clear hq
  have HST3 := Lib.hid (HST2.out.drewN m3)
  have HSU3 := Lib.hid (HSU2.out.drewN m3)
  have himl := imgT_len HGR.out
  have HIM := Lib.hid (image_any HST3.out)
  go_wp2_with fail
  refine HIM.out.mono ?_
  rintro e w4 ⟨A4, c4, rfl, hown4, hb4⟩
  have HO4 := Lib.hid hown4
  have HO14 := Lib.hid (own_below (own_below HO12.out (below_drew' _ m3)) hb4)
  have HB4 : Hid (Below w.heap.size w w4) := Lib.hid ((below_dN HB2.out m3).trans (hb4.mono HB2.out.size))
  have HSU4 := Lib.hid (HSU3.out.below hb4 (Nat.le_refl _))
  have HST4 := Lib.hid (HST3.out.below hb4 (Nat.le_refl _))
  clear hown4 hb4
  have HIM4 := Lib.hid (rimage_any HSU4.out)
  generalize imgT T = im at *
  go_wp2_with fail
  refine HIM4.out.mono ?_
  rintro e w5 ⟨A5, c5, rfl, hown5, hb5⟩
  have HO5 := Lib.hid hown5
  have HO45 := Lib.hid (own_below HO4.out hb5)
  have HO15 := Lib.hid (own_below HO14.out hb5)
  have HB5 : Hid (Below w.heap.size w w5) := Lib.hid (HB4.out.trans (hb5.mono HB4.out.size))
  have HSU5 := Lib.hid (HSU4.out.below hb5 (Nat.le_refl _))
  have HST5 := Lib.hid (HST4.out.below hb5 (Nat.le_refl _))
  clear hown5 hb5
  go_wp2_with fail
  refine (bytesEqual_any _ _ _ _ _ _ _ _ im im _ (Rd.of_own HO45.out) (Rd.of_own HO5.out)).mono ?_
  rintro e w6 ⟨q, rfl, hq, m6, rfl⟩
  obtain rfl : q = true := hq.2 rfl
  clear hq
  have HST6 := Lib.hid (HST5.out.drewN m6)
  have HSU6 := Lib.hid (HSU5.out.drewN m6)
  have HO16 := Lib.hid (own_below HO15.out (below_drew' _ m6))
  have HB6 : Hid (Below w.heap.size w (w5.drewN m6)) := Lib.hid (below_dN HB5.out m6)
  generalize w5.drewN m6 = w6 at *
  have hz6 := HB6.out.size
  go_wp2_with fail
  go_loopw [6, 25] (fun v i wr => ∃ k : Nat, k ≤ T.length ∧ v = .bool true ∧ i = .int .i64 k ∧ Below w6.heap.size w6 wr) (fun _ i _ => T.length - (intOf i).toNat)
  case atStart => exact ⟨0, by omega, rfl, rfl, Below.refl _ _⟩
  case round =>
    obtain ⟨k, hk, rfl, rfl, hb⟩ := hrel
    have HB := Lib.hid hb
    clear hb
    by_cases hlt : k < T.length
    · have hk1 : (k : Int) < (T.length : Int) := by omega
      have hownr := own_below HO16.out HB.out
      obtain ⟨b1, o1, ea, hb1, x0⟩ := RdI.at_ (zs := trcT T) (Rd.of_own hownr) (k := k) (by rw [HTL.out]; exact hlt)
      subst ea
      have hx0 : (trcT T)[k]'(by rw [HTL.out]; exact hlt) = T[k].tr := by simp [trcT]
      rw [hx0] at x0
      have hmem : T[k] ∈ T := List.getElem_mem hlt
      generalize T[k] = t at *
      have hwf := HST6.out.key hmem
      have HL64 := Lib.hid (look_len7 HGR.out t.tr)
      have HSTR := Lib.hid (HST6.out.below HB.out (Nat.le_refl _))
      have HSUR := Lib.hid (HSU6.out.below HB.out (Nat.le_refl _))
      have HLK := Lib.hid (lookup_any HSTR.out t.tr hwf)
      clear hownr hx0 hwf hmem
      go_wp2_with fail
      refine HLK.out.mono ?_
      rintro e v1 ⟨Ab, cb, rfl, hownb, hbb⟩
      have HOB := Lib.hid hownb
      have HBB := Lib.hid hbb
      have HSUV := Lib.hid (HSUR.out.below hbb (Nat.le_refl _))
      have HLK2 := Lib.hid (rlookup_any HSUV.out t.tr)
      clear hownb hbb HLK
      generalize lookT T t.tr = bs at *
      go_wp2_with fail
      refine HLK2.out.mono ?_
      rintro e v2 ⟨Ac, cc, rfl, hownc, hbc⟩
      have HOC := Lib.hid hownc
      have HOB2 := Lib.hid (own_below HOB.out hbc)
      have HBC : Hid (Below w6.heap.size w6 v2) := Lib.hid (HB.out.trans ((HBB.out.trans (hbc.mono HBB.out.size)).mono HB.out.size))
      clear hownc hbc
      have hl64 := HL64.out
      go_wp2_with fail
      refine (eqB_any _ _ _ _ _ _ _ _ bs bs _ (Rd.of_own HOB2.out) (Rd.of_own HOC.out) (by omega)).mono ?_
      rintro e v3 ⟨q, rfl, hq, m7, rfl⟩
      obtain rfl : q = true := hq.2 rfl
      clear hq
      go_wp2_with fail
      go_roundw
      case rel => exact ⟨k + 1, by omega, rfl, by go_num, below_dN HBC.out m7⟩
      case measure => simp [intOf]; omega
    · have hk1 : ¬ (k : Int) < (T.length : Int) := by omega
      obtain ⟨w7, rfl⟩ : ∃ w7, w7 = wr := ⟨_, rfl⟩
      have HB7 : Hid (Below w.heap.size w w7) := Lib.hid (HB6.out.trans (HB.out.mono hz6))
      have HO7 := Lib.hid (own_below HO16.out HB.out)
      have HST7 := Lib.hid (HST6.out.below HB.out (Nat.le_refl _))
      have HAB : Hid (∀ k, A1.map (·.block) = some k → w.heap.size ≤ k ∧ k < w7.heap.size) := Lib.hid (fun k hk => HO7.out.lt k (by rw [← hk]; cases A1 <;> rfl))
      have HLL := Lib.hid (look_low HGR.out)
      generalize (trcT T).map (Value.int .i64) = xs0 at *
      generalize hn : T.length = n at *
      go_wp2_with fail
      go_loopw [42] (fun i wr => ∃ (k : Nat) (xs : List Value), k ≤ n ∧ i = .int .i64 k ∧ wr.ownsRow w.heap.size 3 1 (.slice A1 n c1) n xs ∧ Fr (rowIs A1) w7 wr) (fun i _ => n - (intOf i).toNat)
      case atStart => exact ⟨0, _, by omega, rfl, HO7.out, Fr.refl _ _⟩
      case round =>
        obtain ⟨k, xs, hk, rfl, hown, hfr⟩ := hrel
        have HOWN := Lib.hid hown
        have HFR := Lib.hid hfr
        have hzr := hfr.size
        by_cases hlt : k < n
        · have hk1 : (k : Int) < (n : Int) := by omega
          obtain ⟨g, hg, hgb⟩ := own_slice hown (by omega)
          subst hg
          obtain ⟨v0, hv0⟩ := own_cellAt hown k (by omega)
          have hfz := own_frozen hown k
          have HSET := Lib.hid (own_setRaw hown k (.int .i64 (-7)))
          clear hown hfr
          go_wp2_with fail
          go_roundw
          case rel => exact ⟨k + 1, _, by omega, by go_num, HSET.out, HFR.out.setCell (p := ⟨g, k, none⟩) rfl _⟩
          case measure => simp [intOf]; omega
        · have hk1 : ¬ (k : Int) < (n : Int) := by omega
          have HSTF := Lib.hid (HST7.out.fr HFR.out (fun j hj hs => by
            have h1 := HSL.out j hj
            have h2 := (HAB.out j hs).1
            omega))
          have HBF : Hid (Below w.heap.size w wr) := Lib.hid (HB7.out.trans (HFR.out.below HB7.out.size (fun j hj => (HAB.out j hj).1)))
          have hlk := lookup_any HSTF.out (-7) (wfI_of (by omega) (by omega))
          rw [HLL.out] at hlk
          have HLK := Lib.hid hlk
          clear hown hfr hlk
          go_wp2_with fail
          refine HLK.out.mono ?_
          rintro e v1 ⟨Ab, cb, rfl, _, hbb⟩
          go_wp2_with fail
          go_ret
          exact ⟨rfl, below_via HBF.out hbb HBF.out.size⟩
end Go.Proofs.YtdjcifeoplgkpaaGreat
