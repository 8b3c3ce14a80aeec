/-
  The law StoreRetains: which traces stay, and the walk: the Go text answers true. Conditions: the calls are not more than memory bears.
-/
import Derived.Test.YtdjcifeoplgkpaaSame07
import Derived.Test.YtdjcifeoplgkpaaStoreC
import Derived.Test.YtdjcifeoplgkpaaIndex07
namespace Go.Proofs.Ytdjcifeoplgkpaa
open Go Go.RowKit Go.Maps

theorem endL_le (z : Int) (L : List Sp) : ∀ n : Int, z ≤ L.foldl (fun n s => max n s.en) n ↔ z ≤ n ∨ ∃ s ∈ L, z ≤ s.en := by
  induction L with
  | nil => intro n; simp
  | cons s L ih =>
    intro n
    rw [List.foldl_cons, ih]
    simp only [List.mem_cons, exists_eq_or_imp]
    have : z ≤ max n s.en ↔ z ≤ n ∨ z ≤ s.en := by omega
    rw [this, or_assoc]
theorem late_iff {T : List Tr} (h : GrT T) {t : Tr} (ht : t ∈ T) (z : Int) : ((lookT T t.tr).any fun b => decide (z ≤ b.sp.en)) = decide (z ≤ endL t.L) := by
  have hp := look_sps h (getT_mem h.srt ht)
  obtain ⟨hgr, hne⟩ := h.ok _ ht
  rw [Bool.eq_iff_iff, List.any_eq_true, decide_eq_true_eq]
  unfold endL
  rw [endL_le]
  simp only [decide_eq_true_eq]
  constructor
  · rintro ⟨b, hb, hz⟩
    exact .inr ⟨b.sp, hp.mem_iff.1 (List.mem_map_of_mem hb), hz⟩
  · have hall : ∀ s ∈ t.L, z ≤ s.en → ∃ b ∈ lookT T t.tr, z ≤ b.sp.en := fun s hs hz => by
      obtain ⟨b, hb, rfl⟩ := List.mem_map.1 (hp.mem_iff.2 hs)
      exact ⟨b, hb, hz⟩
    rintro (hz | ⟨s, hs, hz⟩)
    · obtain ⟨s, hs⟩ := List.exists_mem_of_ne_nil _ hne
      refine hall s hs ?_
      have := ok_more (fits_ok (hgr.fits s hs)).1
      omega
    · exact hall s hs hz
theorem getT_ret {T : List Tr} (h : GrT T) {t : Tr} (ht : t ∈ T) (z : Int) : getT (retT T z) t.tr = if z ≤ endL t.L then some t.L else none := by
  by_cases hz : z ≤ endL t.L
  · rw [if_pos hz]
    exact getT_mem (retT_srt h.srt z) (List.mem_filter.2 ⟨ht, by simpa using hz⟩)
  · rw [if_neg hz]
    cases hg : getT (retT T z) t.tr with
    | none => rfl
    | some L =>
      have h1 := List.mem_filter.1 (getT_some hg)
      have h2 := getT_mem h.srt h1.1
      have h4 := getT_mem h.srt ht
      rw [h4] at h2
      have h3 := Option.some.inj h2
      have h5 : z ≤ endL L := by simpa using h1.2
      rw [h3] at hz
      exact absurd h5 hz
theorem look_ret {T : List Tr} (h : GrT T) {t : Tr} (ht : t ∈ T) (z : Int) : lookT (retT T z) t.tr = if z ≤ endL t.L then lookT T t.tr else [] := by
  unfold lookT
  rw [getT_ret h ht, getT_mem h.srt ht]
  by_cases hz : z ≤ endL t.L
  · rw [if_pos hz, if_pos hz]
  · rw [if_neg hz, if_neg hz]
/-- How many go. -/
def goneN (T : List Tr) (z : Int) : Nat := (T.filter fun t => !decide (z ≤ endL t.L)).length
theorem goneN_take (T : List Tr) (z : Int) (k : Nat) (h : k < T.length) : goneN (T.take (k + 1)) z = goneN (T.take k) z + if z ≤ endL T[k].L then 0 else 1 := by
  unfold goneN
  rw [List.take_succ_eq_append_getElem h, List.filter_append, List.length_append]
  by_cases hz : z ≤ endL T[k].L <;> simp [hz]
theorem goneN_le (T : List Tr) (z : Int) : goneN T z ≤ T.length := List.length_filter_le _ _
theorem goneN_ret (T : List Tr) (z : Int) : (retT T z).length + goneN T z = T.length := by
  induction T with
  | nil => rfl
  | cons t T ih =>
    unfold goneN retT at *
    by_cases hz : z ≤ endL t.L
    · rw [List.filter_cons_of_pos (by simpa using hz), List.filter_cons_of_neg (by simpa using hz), List.length_cons, List.length_cons]; omega
    · rw [List.filter_cons_of_neg (by simpa using hz), List.filter_cons_of_pos (by simpa using hz), List.length_cons, List.length_cons]; omega

set_option maxRecDepth 100000 in
set_option maxHeartbeats 4000000 in
theorem storeRetains_any (A : Option Addr) (n cap B : Nat) (ds : List DoV) (z : Int) (w : World) (hB : B ≤ w.heap.size) (hbig : n ≤ 140737488355328) (hnb : ∀ d ∈ ds, d.n ≤ 140737488355328) (hr : RdDo w B A n ds) :
    Calls Try.prog 7 #[.slice A n cap, .int .i64 z] w fun e w' => e = .returned (.bool true) ∧ Below w.heap.size w w' := by
  have hlen := hr.len
  subst hlen
  have HR := Lib.hid hr
  have HNB := Lib.hid hnb
  clear hr hnb
  have HBX : Hid (Below w.heap.size w (w.alloc (.cells #[.int .i64 z] 3))) := Lib.hid ((Below.refl _ _).alloc (Nat.le_refl _) _)
  have HCX := Lib.hid (blk_cell (heap_alloc_new w (.cells #[.int .i64 z] 3)) 0)
  go_enter Try.func7, Try.ntmps7
  go_wp2_with fail
  refine (short_any A _ cap B ds _ (by have := HBX.out.size; omega) hbig HNB.out (HR.out.below HBX.out hB)).mono ?_
  rintro e w0 ⟨q, rfl, hq, hb0⟩
  have hb0z := hb0.size
  simp only [World.size_alloc] at hb0z
  have HB0 : Hid (Below w.heap.size w w0) := Lib.hid (HBX.out.trans (hb0.mono (by simp)))
  have HX0 : Hid (w0.cell? ⟨w.heap.size, 0, none⟩ = some (.int .i64 z)) := Lib.hid ((hb0.cell (p := ⟨w.heap.size, 0, none⟩) (by simp)).trans HCX.out)
  have hz0 := HB0.out.size
  cases q
  · clear hb0 hq
    go_wp2_with fail
    refine (awake7_any _).mono ?_
    rintro e w2 ⟨rfl, hb2⟩
    go_wp2_with fail
    go_ret
    exact ⟨rfl, below_via HB0.out hb2 HB0.out.size⟩
  have HS := Lib.hid (hq rfl)
  clear hb0 hq
  go_wp2_with fail
  refine (play_any A _ cap B ds w0 (by omega) HS.out (HR.out.below HB0.out hB)).mono ?_
  rintro e w1 ⟨s, m, rfl, hst1, hb1⟩
  have hz1 := hb1.size
  have HST1 := Lib.hid hst1
  have HB1 : Hid (Below w.heap.size w w1) := Lib.hid (HB0.out.trans (hb1.mono hz0))
  have HX1 : Hid (w1.cell? ⟨w.heap.size, 0, none⟩ = some (.int .i64 z)) := Lib.hid ((hb1.cell (p := ⟨w.heap.size, 0, none⟩) (by simp; omega)).trans HX0.out)
  have HGR := Lib.hid hst1.gr
  clear hst1 hb1
  generalize playD ds = T at *
  go_wp2_with fail
  refine (sclone_any HST1.out).mono ?_
  rintro e w2 ⟨u, mu, rfl, hst2, hb2⟩
  have hz2 := hb2.size
  have HU2 := Lib.hid hst2
  have HST2 := Lib.hid (HST1.out.below hb2 (Nat.le_refl _))
  have HB2 : Hid (Below w.heap.size w w2) := Lib.hid (HB1.out.trans (hb2.mono HB1.out.size))
  have HX2 : Hid (w2.cell? ⟨w.heap.size, 0, none⟩ = some (.int .i64 z)) := Lib.hid ((hb2.cell (p := ⟨w.heap.size, 0, none⟩) (by simp; omega)).trans HX1.out)
  clear hst2 hb2
  have hx2 := HX2.out
  go_wp2_with fail
  refine (retain_any HST2.out z).mono ?_
  rintro e w3 ⟨rfl, hst3, hfr3⟩
  clear hx2
  have hz3 := hfr3.size
  have HST3 := Lib.hid hst3
  have HU3 : Hid (St w3 u mu T (fun k => w1.heap.size ≤ k ∧ k < w2.heap.size)) := Lib.hid (HU2.out.fr hfr3 (fun k hk hs => by
    have h1 : w1.heap.size ≤ k ∧ k < w2.heap.size := hk
    have h2 : w0.heap.size ≤ k ∧ k < w1.heap.size := hs
    omega))
  have HB3 : Hid (Below w.heap.size w w3) := Lib.hid (HB2.out.trans (hfr3.below HB2.out.size (fun k hk => by
    have h2 : w0.heap.size ≤ k ∧ k < w1.heap.size := hk
    omega)))
  have HX3 : Hid (w3.cell? ⟨w.heap.size, 0, none⟩ = some (.int .i64 z)) := Lib.hid (by
    have hk : w3.heap[w.heap.size]? = w2.heap[w.heap.size]? := hfr3.block _ (by omega) (fun hs => by
      have h2 : w0.heap.size ≤ w.heap.size ∧ w.heap.size < w1.heap.size := hs
      omega)
    have h0 := HX2.out
    simp only [World.cell?, hk] at h0 ⊢
    exact h0)
  have hR32 := hst3.gr.len
  have hT32 := HGR.out.len
  have HGN := Lib.hid (goneN_ret T z)
  clear hst3 hfr3
  generalize hRR : retT T z = R at *
  have HRR := Lib.hid hRR
  clear hRR
  go_wp2_with fail
  refine (traces_any HU3.out).mono ?_
  rintro e w4 ⟨At, ct, rfl, hownt, hb4⟩
  have hz4 := hb4.size
  have htl : (trcT T).length = T.length := by simp [trcT]
  rw [htl] at hownt ⊢
  have HTL := Lib.hid htl
  have HOT : Hid (w4.ownsRow w3.heap.size 3 1 (.slice At T.length ct) T.length ((trcT T).map (Value.int .i64))) := Lib.hid hownt
  have HB4 : Hid (Below w.heap.size w w4) := Lib.hid (HB3.out.trans (hb4.mono HB3.out.size))
  have HST4 := Lib.hid (HST3.out.below hb4 (Nat.le_refl _))
  have HU4 := Lib.hid (HU3.out.below hb4 (Nat.le_refl _))
  have HX4 : Hid (w4.cell? ⟨w.heap.size, 0, none⟩ = some (.int .i64 z)) := Lib.hid ((hb4.cell (p := ⟨w.heap.size, 0, none⟩) (by simp; omega)).trans HX3.out)
  clear hownt hb4 htl
  go_wp2_with fail
  go_loopw [8, 26] (fun g i wr => ∃ k G : Nat, k ≤ T.length ∧ i = .int .i64 k ∧ g = .int .i64 G ∧ G ≤ k ∧ goneN (T.take k) z = G ∧ Below w4.heap.size w4 wr) (fun _ i _ => T.length - (intOf i).toNat)
  case atStart => exact ⟨0, 0, by omega, rfl, rfl, by omega, rfl, Below.refl _ _⟩
  case round =>
    obtain ⟨k, G, hk, rfl, rfl, hG, hgn, hb⟩ := hrel
    have HG := Lib.hid hgn
    have HB := Lib.hid hb
    have hzr := hb.size
    clear hgn hb
    have hGi : (G : Int) ≤ 32 := by omega
    by_cases hlt : k < T.length
    · have hk1 : (k : Int) < (T.length : Int) := by omega
      have hownr := own_below HOT.out HB.out
      obtain ⟨b1, o1, ea, hb1, x0⟩ := RdI.at_ (zs := trcT T) (Rd.of_own hownr) (k := k) (by rw [HTL.out]; exact hlt)
      subst ea
      have hx0 : (trcT T)[k]'(by rw [HTL.out]; exact hlt) = T[k].tr := by simp [trcT]
      rw [hx0] at x0
      have hmem : T[k] ∈ T := List.getElem_mem hlt
      have HTK := Lib.hid (goneN_take T z k hlt)
      generalize T[k] = t at *
      have HWF := Lib.hid (HU4.out.key hmem)
      have hget := getT_mem HGR.out.srt hmem
      have hsp := look_sps HGR.out hget
      have hbl : (lookT T t.tr).length ≤ 64 ∧ 0 < (lookT T t.tr).length := by
        have hl := hsp.length_eq
        rw [List.length_map] at hl
        have h64 := (HGR.out.ok _ hmem).1.len
        have hp := List.length_pos_iff.2 (HGR.out.ok _ hmem).2
        omega
      have HBL := Lib.hid hbl
      have HLR := Lib.hid (look_ret HGR.out hmem z)
      rw [HRR.out] at HLR
      have HLI := Lib.hid (late_iff HGR.out hmem z)
      have HSTR := Lib.hid (HST4.out.below HB.out (Nat.le_refl _))
      have HUR := Lib.hid (HU4.out.below HB.out (Nat.le_refl _))
      have HXR : Hid (wr.cell? ⟨w.heap.size, 0, none⟩ = some (.int .i64 z)) := Lib.hid ((HB.out.cell (p := ⟨w.heap.size, 0, none⟩) (by simp; omega)).trans HX4.out)
      have HLK := Lib.hid (lookup_any HUR.out t.tr HWF.out)
      clear hownr hget hx0 hmem hsp hbl
      generalize hbs : lookT T t.tr = bs at *
      have HBS := Lib.hid hbs
      clear hbs
      go_wp2_with fail
      refine HLK.out.mono ?_
      rintro e v1 ⟨Ab, cb, rfl, hownb, hbb⟩
      have hzb := hbb.size
      have HOB := Lib.hid hownb
      have HBV : Hid (Below w4.heap.size w4 v1) := Lib.hid (HB.out.trans (hbb.mono HB.out.size))
      have HSTV := Lib.hid (HSTR.out.below hbb (Nat.le_refl _))
      have HUV := Lib.hid (HUR.out.below hbb (Nat.le_refl _))
      have HXV : Hid (v1.cell? ⟨w.heap.size, 0, none⟩ = some (.int .i64 z)) := Lib.hid ((hbb.cell (p := ⟨w.heap.size, 0, none⟩) (by simp; omega)).trans HXR.out)
      obtain ⟨gb, rfl, hgb, hgl⟩ := own_form hownb HBL.out.2
      have HRB : Hid (RdBr v1 v1.heap.size (some ⟨gb, 0, none⟩) bs.length bs) := Lib.hid (Rd.of_own hownb)
      clear hownb hbb HLK
      have HCC : Hid (∀ j, j < bs.length → ∀ i v, (Br.cells bs[j]!)[i]? = some v → v1.cell? ⟨gb, 0 + j * 8 + i, none⟩ = some v) := Lib.hid (fun j hj i v hv => by
        obtain ⟨b5, o5, e5, _, hc5⟩ := Rd.elem Br.cells_len HRB.out hj hj
        injection e5 with e5
        injection e5 with e5 e6
        subst e5 e6
        have hi8 : i < 8 := by
          have := (List.getElem?_eq_some_iff.1 hv).1
          rwa [Br.cells_len] at this
        rw [hc5 i hi8, ← hv, getElem!_pos bs j hj])
      have hbl64 := HBL.out.1
      have HCON := Lib.hid (contains7_any gb 0 bs.length cb bs z w.heap.size v1 rfl hbl64 hgl HXV.out HCC.out)
      go_wp2_with fail
      refine HCON.out.mono ?_
      rintro e v2 ⟨rfl, hb2⟩
      rw [HLI.out]
      have hzv := hb2.size
      have HBV2 : Hid (Below w4.heap.size w4 v2) := Lib.hid (HBV.out.trans (hb2.mono HBV.out.size))
      have HSTV2 := Lib.hid (HSTV.out.below hb2 (Nat.le_refl _))
      have HUV2 := Lib.hid (HUV.out.below hb2 (Nat.le_refl _))
      have hlk2 := lookup_any HUV2.out t.tr HWF.out
      rw [HBS.out] at hlk2
      have HLK2 := Lib.hid hlk2
      clear hb2 HCON HCC hlk2
      by_cases hz : z ≤ endL t.L
      · have HTK2 : Hid (goneN (T.take (k + 1)) z = G) := Lib.hid (by rw [HTK.out, if_pos hz, HG.out]; rfl)
        have HLR2 : Hid (lookT R t.tr = bs) := Lib.hid (by rw [HLR.out, if_pos hz])
        rw [decide_eq_true hz]
        clear hz
        go_wp2_with fail
        refine HLK2.out.mono ?_
        rintro e v3 ⟨Ac, cc, rfl, hownc, hbc⟩
        have HOC := Lib.hid hownc
        have HBV3 : Hid (Below w4.heap.size w4 v3) := Lib.hid (HBV2.out.trans (hbc.mono HBV2.out.size))
        have hlk3 := lookup_any (HSTV2.out.below hbc (Nat.le_refl _)) t.tr HWF.out
        rw [HLR2.out] at hlk3
        have HLK3 := Lib.hid hlk3
        clear hownc hbc hlk3
        go_wp2_with fail
        refine HLK3.out.mono ?_
        rintro e v4 ⟨Ad, cd, rfl, hownd, hbd⟩
        have HOD := Lib.hid hownd
        have HOC2 := Lib.hid (own_below HOC.out hbd)
        have HBV4 : Hid (Below w4.heap.size w4 v4) := Lib.hid (HBV3.out.trans (hbd.mono HBV3.out.size))
        clear hownd hbd
        have hl64 := HBL.out.1
        go_wp2_with fail
        refine (eqB_any _ _ _ _ _ _ _ _ bs bs _ (Rd.of_own HOC2.out) (Rd.of_own HOD.out) (by omega)).mono ?_
        rintro e v5 ⟨q, rfl, hq, m7, rfl⟩
        obtain rfl : q = true := hq.2 rfl
        clear hq
        go_wp2_with fail
        go_roundw
        case rel => exact ⟨k + 1, G, by omega, by go_num, rfl, by omega, HTK2.out, below_dN HBV4.out m7⟩
        case measure => simp [intOf]; omega
      · have HTK2 : Hid (goneN (T.take (k + 1)) z = G + 1) := Lib.hid (by rw [HTK.out, if_neg hz, HG.out])
        have HLR2 : Hid (lookT R t.tr = []) := Lib.hid (by rw [HLR.out, if_neg hz])
        rw [decide_eq_false hz]
        clear hz
        have hlk3 := lookup_any HSTV2.out t.tr HWF.out
        rw [HLR2.out] at hlk3
        have HLK3 := Lib.hid hlk3
        clear hlk3
        go_wp2_with fail
        refine HLK3.out.mono ?_
        rintro e v3 ⟨Ac, cc, rfl, _, hbc⟩
        have HBV3 : Hid (Below w4.heap.size w4 v3) := Lib.hid (HBV2.out.trans (hbc.mono HBV2.out.size))
        clear hbc
        go_wp2_with fail
        go_roundw
        case rel => exact ⟨k + 1, G + 1, by omega, by go_num, by go_num, by omega, HTK2.out, HBV3.out⟩
        case measure => simp [intOf]; omega
    · obtain rfl : k = T.length := by omega
      have hk1 : ¬ (T.length : Int) < (T.length : Int) := by omega
      have hGR : R.length + G = T.length := by
        have h1 := HG.out
        rw [List.take_of_length_le (Nat.le_refl _)] at h1
        have := HGN.out
        omega
      have hq1 : (((T.length : Int) - (R.length : Int)) == (G : Int)) = true := by simp; omega
      have hq2 : ((R.length : Int) == ((T.length : Int) - (G : Int))) = true := by simp; omega
      have HRL : Hid ((trcT R).length = R.length) := Lib.hid (by simp [trcT])
      have HUR := Lib.hid (HU4.out.below HB.out (Nat.le_refl _))
      have htr := traces_any (HST4.out.below HB.out (Nat.le_refl _))
      have HTR := Lib.hid htr
      have HBW : Hid (Below w.heap.size w wr) := Lib.hid (HB4.out.trans (HB.out.mono HB4.out.size))
      clear htr hGR
      go_wp2_with fail
      refine HTR.out.mono ?_
      rintro e v1 ⟨A5, c5, rfl, _, hb5⟩
      rw [HRL.out]
      have HU5 := Lib.hid (HUR.out.below hb5 (Nat.le_refl _))
      have HB5 : Hid (Below w.heap.size w v1) := Lib.hid (HBW.out.trans (hb5.mono HBW.out.size))
      clear hb5
      go_wp2_with fail
      refine (traces_any HU5.out).mono ?_
      rintro e v2 ⟨A6, c6, rfl, _, hb6⟩
      rw [HTL.out]
      have HB6 : Hid (Below w.heap.size w v2) := Lib.hid (HB5.out.trans (hb6.mono HB5.out.size))
      clear hb6
      go_wp2_with fail
      refine (awake7_any _).mono ?_
      rintro e v3 ⟨rfl, hb7⟩
      go_wp2_with fail
      go_ret
      exact ⟨rfl, below_via HB6.out hb7 HB6.out.size⟩
end Go.Proofs.Ytdjcifeoplgkpaa
