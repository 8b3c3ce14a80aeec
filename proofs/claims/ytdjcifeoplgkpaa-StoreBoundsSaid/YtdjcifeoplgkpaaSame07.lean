/-
  The walks of slices.Equal at numbers, and of the store laws' same: two stores of the same traces tell the same. Conditions: the slices read as lists; the stores lie in memory.
-/
import Derived.Test.YtdjcifeoplgkpaaActs07
import Derived.Test.YtdjcifeoplgkpaaStdB
import Derived.Test.YtdjcifeoplgkpaaForestU
namespace Go.Proofs.Ytdjcifeoplgkpaa
open Go Go.RowKit Go.Maps

theorem look_sps {T : List Tr} (h : GrT T) {x : Int} {L : List Sp} (hg : getT T x = some L) : ((lookT T x).map Br.sp).Perm L := by
  unfold lookT
  rw [hg]
  exact branches_perm (h.ok _ (getT_some hg)).1
set_option maxRecDepth 100000 in
set_option maxHeartbeats 400000 in
theorem eqI_any (A1 A2 : Option Addr) (n1 n2 c1 c2 B1 B2 : Nat) (l1 l2 : List Int) (w : World) (h1 : RdI w B1 A1 n1 l1) (h2 : RdI w B2 A2 n2 l2) (hb : n1 ≤ 140737488355328) :
    Calls Try.prog 47 #[.slice A1 n1 c1, .slice A2 n2 c2] w (ResEq w (l1 = l2)) := by
  have hl1 : l1.length = n1 := by simpa using h1.1
  have hl2 : l2.length = n2 := by simpa using h2.1
  subst hl1 hl2
  by_cases hlen : l1.length = l2.length
  · have HLE := Lib.hid hlen
    rw [← hlen] at h2 ⊢
    clear hlen
    go_enter Try.func47, Try.ntmps47
    go_wp2_with fail
    go_loopw [13] (fun i wr => ∃ k n : Nat, k ≤ l1.length ∧ i = .int .i64 k ∧ wr = w.drewN n ∧ l1.take k = l2.take k) (fun i _ => l1.length - (intOf i).toNat)
    case atStart => exact ⟨0, 0, by omega, rfl, rfl, by simp⟩
    case round =>
      obtain ⟨k, n, hk, rfl, rfl, ht⟩ := hrel
      by_cases hlt : k < l1.length
      · obtain ⟨b1, o1, rfl, _, x0⟩ := RdI.at_ h1 hlt
        obtain ⟨b2, o2, rfl, _, y0⟩ := RdI.at_ h2 (k := k) (by have := HLE.out; omega)
        have HT1 := Lib.hid (List.take_succ_eq_append_getElem hlt)
        have HT2 := Lib.hid (List.take_succ_eq_append_getElem (l := l2) (i := k) (by have := HLE.out; omega))
        have HT := Lib.hid ht
        generalize l1[k] = s at *
        generalize l2[k] = t at *
        clear h1 h2 ht
        have hk1 : (k : Int) < (l1.length : Int) := by omega
        go_wp2_with fail
        cases hq : (s == t)
        · have HQ : Hid (¬ s = t) := Lib.hid (by simpa using hq)
          refine wp_region_sched [(0, true), (1, true), (2, true), (3, true), (4, true), (5, true), (6, true), (7, true), (8, true)] (fun W => ∃ m, W = w.drewN m) (by kernel_rfl) (by kernel_rfl) rfl (by kernel_rfl) (⟨n + 1, rfl⟩) ?_
          repeat (first | (apply sched_take rfl; (focus (first | rfl | (go_simp; done))); (focus (intro W hW; obtain ⟨m, rfl⟩ := hW; go_simp; rfl)); (focus (intro K hK; go_simp; refine hK _ ?_; clear hK K))) | (apply sched_skip rfl; (focus (first | rfl | (go_simp; done))); (focus (intro K hK; go_simp; refine hK _ ?_; clear hK K))))
          refine sched_nil ?_
          go_wp2_with fail
          go_ret
          refine ⟨false, rfl, ⟨(fun h => by cases h), fun h => ?_⟩, n + 1, rfl⟩
          have e := HT1.out
          rw [h, HT2.out] at e
          have e2 := List.append_cancel_left e
          simp only [List.cons.injEq, and_true] at e2
          exact absurd e2.symm HQ.out
        · have HE : Hid (s = t) := Lib.hid (by simpa using hq)
          refine wp_region_sched [(0, true), (1, true), (2, true), (3, true), (4, true), (5, true), (6, true), (7, true), (8, true)] (fun W => ∃ m, W = w.drewN m) (by kernel_rfl) (by kernel_rfl) rfl (by kernel_rfl) (⟨n + 1, rfl⟩) ?_
          repeat (first | (apply sched_take rfl; (focus (first | rfl | (go_simp; done))); (focus (intro W hW; obtain ⟨m, rfl⟩ := hW; go_simp; rfl)); (focus (intro K hK; go_simp; refine hK _ ?_; clear hK K))) | (apply sched_skip rfl; (focus (first | rfl | (go_simp; done))); (focus (intro K hK; go_simp; refine hK _ ?_; clear hK K))))
          refine sched_nil ?_
          go_wp2_with fail
          go_roundw
          case rel =>
            have hf : l1.take (k + 1) = l2.take (k + 1) := by rw [HT1.out, HT2.out, HT.out, HE.out]
            exact ⟨k + 1, n + 1, by omega, by go_num, rfl, hf⟩
          case measure => simp [intOf]; omega
      · go_wp2_with fail
        go_ret
        have hle := HLE.out
        rw [List.take_of_length_le (by omega), List.take_of_length_le (by omega)] at ht
        exact ⟨_, rfl, by simp [ht], n, rfl⟩
  · have hne : ((l1.length : Int) == l2.length) = false := by simp; omega
    go_enter Try.func47, Try.ntmps47
    go_wp2_with fail
    go_ret
    exact ⟨_, rfl, ⟨(fun h => by cases h), fun h => absurd (congrArg List.length h) hlen⟩, 0, rfl⟩

set_option maxRecDepth 100000 in
set_option maxHeartbeats 1000000 in
theorem same2_any {w : World} {s m s' m' : Nat} {T T' : List Tr} {S S' : Nat → Prop} (h : St w s m T S) (h' : St w s' m' T' S') (hte : trcT T' = trcT T) (hie : imgT T' = imgT T) (hle : ∀ x, lookT T' x = lookT T x) :
    Calls Try.prog 24 #[.pointer (some ⟨s, 0, none⟩), .pointer (some ⟨s', 0, none⟩)] w fun e w' => e = .returned (.bool true) ∧ Below w.heap.size w w' := by
  have HST := Lib.hid h
  have HSU := Lib.hid h'
  have HGR := Lib.hid h.gr
  have HTR := Lib.hid (traces_any h)
  have HTE := Lib.hid hte
  have HIE := Lib.hid hie
  have HLE := Lib.hid hle
  clear h h' hte hie hle
  go_enter Try.func24, Try.ntmps24
  go_wp2_with fail
  refine HTR.out.mono ?_
  rintro e w1 ⟨A1, c1, rfl, hown1, hb1⟩
  have htl : (trcT T).length = T.length := by simp [trcT]
  rw [htl] at hown1 ⊢
  have HTL := Lib.hid htl
  have HO1 : Hid (w1.ownsRow w.heap.size 3 1 (.slice A1 T.length c1) T.length ((trcT T).map (Value.int .i64))) := Lib.hid hown1
  have HB1 := Lib.hid hb1
  have HSU1 := Lib.hid (HSU.out.below hb1 (Nat.le_refl _))
  have HST1 := Lib.hid (HST.out.below hb1 (Nat.le_refl _))
  have hT32 := HGR.out.len
  clear hown1 hb1 htl
  have htr2 := traces_any HSU1.out
  rw [HTE.out] at htr2
  have HTR2 := Lib.hid htr2
  clear htr2
  go_wp2_with fail
  refine HTR2.out.mono ?_
  rintro e w2 ⟨A2, c2, rfl, hown2, hb2⟩
  have htl : (trcT T).length = T.length := HTL.out
  rw [htl] at hown2 ⊢
  clear htl
  have HO2 : Hid (w2.ownsRow w1.heap.size 3 1 (.slice A2 T.length c2) T.length ((trcT T).map (Value.int .i64))) := Lib.hid hown2
  have HO12 := Lib.hid (own_below HO1.out hb2)
  have HB2 : Hid (Below w.heap.size w w2) := Lib.hid (HB1.out.trans (hb2.mono HB1.out.size))
  have HSU2 := Lib.hid (HSU1.out.below hb2 (Nat.le_refl _))
  have HST2 := Lib.hid (HST1.out.below hb2 (Nat.le_refl _))
  clear hown2 hb2
  go_wp2_with fail
  refine (eqI_any _ _ _ _ _ _ _ _ (trcT T) (trcT T) _ (Rd.of_own HO12.out) (Rd.of_own HO2.out) (by omega)).mono ?_
  rintro e w3 ⟨q, rfl, hq, m3, rfl⟩
  obtain rfl : q = true := hq.2 rfl
  clear hq
  have HST3 := Lib.hid (HST2.out.drewN m3)
  have HSU3 := Lib.hid (HSU2.out.drewN m3)
  have himl := imgT_len HGR.out
  have HIM := Lib.hid (image_any HST3.out)
  go_wp2_with fail
  refine HIM.out.mono ?_
  rintro e w4 ⟨A4, c4, rfl, hown4, hb4⟩
  have HO4 := Lib.hid hown4
  have HO14 := Lib.hid (own_below (own_below HO12.out (below_drew' _ m3)) hb4)
  have HB4 : Hid (Below w.heap.size w w4) := Lib.hid ((below_dN HB2.out m3).trans (hb4.mono HB2.out.size))
  have HSU4 := Lib.hid (HSU3.out.below hb4 (Nat.le_refl _))
  have HST4 := Lib.hid (HST3.out.below hb4 (Nat.le_refl _))
  clear hown4 hb4
  have him4 := image_any HSU4.out
  rw [HIE.out] at him4
  have HIM4 := Lib.hid him4
  clear him4
  generalize imgT T = im at *
  go_wp2_with fail
  refine HIM4.out.mono ?_
  rintro e w5 ⟨A5, c5, rfl, hown5, hb5⟩
  have HO5 := Lib.hid hown5
  have HO45 := Lib.hid (own_below HO4.out hb5)
  have HO15 := Lib.hid (own_below HO14.out hb5)
  have HB5 : Hid (Below w.heap.size w w5) := Lib.hid (HB4.out.trans (hb5.mono HB4.out.size))
  have HSU5 := Lib.hid (HSU4.out.below hb5 (Nat.le_refl _))
  have HST5 := Lib.hid (HST4.out.below hb5 (Nat.le_refl _))
  clear hown5 hb5
  go_wp2_with fail
  refine (bytesEqual_any _ _ _ _ _ _ _ _ im im _ (Rd.of_own HO45.out) (Rd.of_own HO5.out)).mono ?_
  rintro e w6 ⟨q, rfl, hq, m6, rfl⟩
  obtain rfl : q = true := hq.2 rfl
  clear hq
  have HST6 := Lib.hid (HST5.out.drewN m6)
  have HSU6 := Lib.hid (HSU5.out.drewN m6)
  have HO16 := Lib.hid (own_below HO15.out (below_drew' _ m6))
  have HB6 : Hid (Below w.heap.size w (w5.drewN m6)) := Lib.hid (below_dN HB5.out m6)
  generalize w5.drewN m6 = w6 at *
  go_wp2_with fail
  go_loopw [25] (fun i wr => ∃ k : Nat, k ≤ T.length ∧ i = .int .i64 k ∧ Below w6.heap.size w6 wr) (fun i _ => T.length - (intOf i).toNat)
  case atStart => exact ⟨0, by omega, rfl, Below.refl _ _⟩
  case round =>
    obtain ⟨k, hk, rfl, hb⟩ := hrel
    have HB := Lib.hid hb
    clear hb
    by_cases hlt : k < T.length
    · have hk1 : (k : Int) < (T.length : Int) := by omega
      have hownr := own_below HO16.out HB.out
      obtain ⟨b1, o1, ea, hb1, x0⟩ := RdI.at_ (zs := trcT T) (Rd.of_own hownr) (k := k) (by rw [HTL.out]; exact hlt)
      subst ea
      have hx0 : (trcT T)[k]'(by rw [HTL.out]; exact hlt) = T[k].tr := by simp [trcT]
      rw [hx0] at x0
      have hmem : T[k] ∈ T := List.getElem_mem hlt
      generalize T[k] = t at *
      have hwf := HST6.out.key hmem
      have hget := getT_mem HGR.out.srt hmem
      have HL64 : Hid ((lookT T t.tr).length ≤ 64) := Lib.hid (by
        have hl := (look_sps HGR.out hget).length_eq
        rw [List.length_map] at hl
        have h64 := (HGR.out.ok _ hmem).1.len
        omega)
      have HSTR := Lib.hid (HST6.out.below HB.out (Nat.le_refl _))
      have HSUR := Lib.hid (HSU6.out.below HB.out (Nat.le_refl _))
      have HLK := Lib.hid (lookup_any HSTR.out t.tr hwf)
      have HWF := Lib.hid hwf
      have HLL : Hid (∃ bs, bs = lookT T t.tr) := Lib.hid ⟨_, rfl⟩
      clear hownr hget hx0 hwf hmem
      go_wp2_with fail
      refine HLK.out.mono ?_
      rintro e v1 ⟨Ab, cb, rfl, hownb, hbb⟩
      have HOB := Lib.hid hownb
      have HBB := Lib.hid hbb
      have HSUV := Lib.hid (HSUR.out.below hbb (Nat.le_refl _))
      have hlk2 := lookup_any HSUV.out t.tr HWF.out
      rw [HLE.out] at hlk2
      have HLK2 := Lib.hid hlk2
      clear hlk2
      clear hownb hbb HLK HLL
      generalize lookT T t.tr = bs at *
      go_wp2_with fail
      refine HLK2.out.mono ?_
      rintro e v2 ⟨Ac, cc, rfl, hownc, hbc⟩
      have HOC := Lib.hid hownc
      have HOB2 := Lib.hid (own_below HOB.out hbc)
      have HBC : Hid (Below w6.heap.size w6 v2) := Lib.hid (HB.out.trans ((HBB.out.trans (hbc.mono HBB.out.size)).mono HB.out.size))
      clear hownc hbc
      have hl64 := HL64.out
      go_wp2_with fail
      refine (eqB_any _ _ _ _ _ _ _ _ bs bs _ (Rd.of_own HOB2.out) (Rd.of_own HOC.out) (by omega)).mono ?_
      rintro e v3 ⟨q, rfl, hq, m7, rfl⟩
      obtain rfl : q = true := hq.2 rfl
      clear hq
      go_wp2_with fail
      go_roundw
      case rel => exact ⟨k + 1, by omega, by go_num, below_dN HBC.out m7⟩
      case measure => simp [intOf]; omega
    · have hk1 : ¬ (k : Int) < (T.length : Int) := by omega
      go_wp2_with fail
      go_ret
      exact ⟨rfl, HB6.out.trans (HB.out.mono HB6.out.size)⟩
theorem same_any {w : World} {s m s' m' : Nat} {T : List Tr} {S S' : Nat → Prop} (h : St w s m T S) (h' : St w s' m' T S') :
    Calls Try.prog 24 #[.pointer (some ⟨s, 0, none⟩), .pointer (some ⟨s', 0, none⟩)] w fun e w' => e = .returned (.bool true) ∧ Below w.heap.size w w' :=
  same2_any h h' rfl rfl (fun _ => rfl)
end Go.Proofs.Ytdjcifeoplgkpaa
