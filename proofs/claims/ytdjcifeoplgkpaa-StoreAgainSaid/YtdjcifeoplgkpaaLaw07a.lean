/-
  The walk of the law StoreAgain: the Go text answers true. Condition: the calls are not more than memory bears.
-/
import Derived.Test.YtdjcifeoplgkpaaActs07
import Derived.Test.YtdjcifeoplgkpaaStdB
import Derived.Test.YtdjcifeoplgkpaaForestU
namespace Go.Proofs.Ytdjcifeoplgkpaa
open Go Go.RowKit Go.Maps

theorem setT_same {T : List Tr} (h : SrtT T) {x : Int} {L : List Sp} (hg : getT T x = some L) : setT T x L = T := by
  unfold setT
  conv => rhs; rw [← List.map_id T]
  refine List.map_congr_left fun t ht => ?_
  by_cases e : t.tr = x
  · rw [if_pos e]
    have h1 := getT_mem h ht
    rw [e, hg] at h1
    obtain ⟨a, b⟩ := t
    simp only at e h1
    rw [id, ← e, Option.some.inj h1]
  · rw [if_neg e]; rfl
/-- Spans that are there, put in again. -/
theorem ing_same {T : List Tr} (h : SrtT T) : ∀ (l : List Sp) (c : Cnt), (∀ x ∈ l, ∃ L, getT T x.tr = some L ∧ atS L x.id = some x) → ingL (T, c) l = (T, { c with sa := c.sa + l.length }) := by
  intro l
  induction l with
  | nil => intro c _; rfl
  | cons x l ih =>
    intro c hl
    obtain ⟨L, h1, h2⟩ := hl x (by simp)
    have e : ingS (T, c) x = (T, { c with sa := c.sa + 1 }) := by
      simp only [ingS, h1, addS_same h2 rfl, setT_same h h1]
      simp [Cnt.plus, Cnt.zero]
    show ingL (ingS (T, c) x) l = _
    rw [e, ih _ fun y hy => hl y (by simp [hy])]
    simp only [List.length_cons]
    congr 2
    omega
theorem look_spans {T : List Tr} (h : GrT T) {x : Int} {L : List Sp} (hg : getT T x = some L) : ((lookT T x).map Br.sp).Perm L := by
  unfold lookT
  rw [hg]
  exact branches_perm (h.ok _ (getT_some hg)).1
theorem ing_again {T : List Tr} (h : GrT T) {x : Int} {L : List Sp} (hg : getT T x = some L) : ingA T ((lookT T x).map Br.sp) = (T, ⟨0, (lookT T x).length, 0, 0, 0⟩, 0) ∧ 0 < (lookT T x).length ∧ (lookT T x).length ≤ 64 := by
  have hp := look_spans h hg
  obtain ⟨hgr, hne⟩ := h.ok _ (getT_some hg)
  have hl := hp.length_eq
  rw [List.length_map] at hl
  have h64 := hgr.len
  have hpos := List.length_pos_iff.2 hne
  dsimp only at h64 hpos
  refine ⟨?_, by omega, by omega⟩
  have hok : ((lookT T x).map Br.sp).all Sp.ok = true := List.all_eq_true.2 fun y hy => (fits_ok (hgr.fits y (hp.mem_iff.1 hy))).1
  unfold ingA
  rw [if_pos hok, ing_same h.srt _ Cnt.zero fun y hy => ?_]
  · simp [Cnt.zero]
  · have hy2 := hp.mem_iff.1 hy
    exact ⟨L, by rw [(fits_ok (hgr.fits y hy2)).2]; exact hg, atS_mem hgr.nodup hy2⟩

set_option maxRecDepth 100000 in
set_option maxHeartbeats 4000000 in
theorem storeAgain_any (A : Option Addr) (n cap B : Nat) (ds : List DoV) (w : World) (hB : B ≤ w.heap.size) (hbig : n ≤ 140737488355328) (hnb : ∀ d ∈ ds, d.n ≤ 140737488355328) (hr : RdDo w B A n ds) :
    Calls Try.prog 3 #[.slice A n cap] w fun e w' => e = .returned (.bool true) ∧ Below w.heap.size w w' := by
  obtain ⟨i0, hi0, gz0, gz1, gz2⟩ := info_parts Try.infoSpan
  have hlen := hr.len
  subst hlen
  have HR := Lib.hid hr
  have HNB := Lib.hid hnb
  clear hr hnb
  go_enter Try.func3, Try.ntmps3
  go_wp2_with fail
  refine (short_any A _ cap B ds w hB hbig HNB.out HR.out).mono ?_
  rintro e w0 ⟨q, rfl, hq, hb0⟩
  have HB0 := Lib.hid hb0
  have hz0 := hb0.size
  cases q
  · clear hb0 hq
    go_wp2_with fail
    refine (awake7_any _).mono ?_
    rintro e w2 ⟨rfl, hb2⟩
    go_wp2_with fail
    go_ret
    exact ⟨rfl, below_via HB0.out hb2 HB0.out.size⟩
  · have HS := Lib.hid (hq rfl)
    clear hb0 hq
    go_wp2_with fail
    refine (play_any A _ cap B ds w0 (by omega) HS.out (HR.out.below HB0.out hB)).mono ?_
    rintro e w1 ⟨s, m, rfl, hst1, hb1⟩
    have hz1 := hb1.size
    have HST1 := Lib.hid hst1
    have HB1 : Hid (Below w.heap.size w w1) := Lib.hid (HB0.out.trans (hb1.mono hz0))
    have HGR := Lib.hid hst1.gr
    clear hst1 hb1
    generalize playD ds = T at *
    go_wp2_with fail
    refine (image_any HST1.out).mono ?_
    rintro e w2 ⟨Ai, ci, rfl, howni, hb2⟩
    have hz2 := hb2.size
    have HOI := Lib.hid howni
    have HB2 : Hid (Below w1.heap.size w1 w2) := Lib.hid hb2
    have HST2 := Lib.hid (HST1.out.below hb2 (Nat.le_refl _))
    clear howni hb2
    go_wp2_with fail
    refine (traces_any HST2.out).mono ?_
    rintro e w3 ⟨At, ct, rfl, hownt, hb3⟩
    have hz3 := hb3.size
    have htl : (trcT T).length = T.length := by simp [trcT]
    rw [htl] at hownt ⊢
    have HTL := Lib.hid htl
    have HOT : Hid (w3.ownsRow w2.heap.size 3 1 (.slice At T.length ct) T.length ((trcT T).map (Value.int .i64))) := Lib.hid hownt
    have HOI3 := Lib.hid (own_below HOI.out hb3)
    have HB3 : Hid (Below w1.heap.size w1 w3) := Lib.hid (HB2.out.trans (hb3.mono hz2))
    have HST3 := Lib.hid (HST2.out.below hb3 (Nat.le_refl _))
    have hT32 := HGR.out.len
    clear hownt hb3 htl
    go_wp2_with fail
    go_loopw [23] (fun i wr => ∃ k : Nat, k ≤ T.length ∧ i = .int .i64 k ∧ St wr s m T (fun j => (w0.heap.size ≤ j ∧ j < w1.heap.size) ∨ (w3.heap.size ≤ j ∧ j < wr.heap.size)) ∧ Fr (fun j => w0.heap.size ≤ j ∧ j < w1.heap.size) w3 wr) (fun i _ => T.length - (intOf i).toNat)
    case atStart => exact ⟨0, by omega, rfl, HST3.out.mono (fun j hj => .inl hj) (fun j hj => by omega), Fr.refl _ _⟩
    case round =>
      obtain ⟨k, hk, rfl, hst, hfr⟩ := hrel
      have HST := Lib.hid hst
      have HFR := Lib.hid hfr
      have hzr := hfr.size
      clear hst hfr
      by_cases hlt : k < T.length
      · have hk1 : (k : Int) < (T.length : Int) := by omega
        have hownr := own_fr' HOT.out HFR.out (fun j hj hs => by have := (HOT.out.lt j hj).1; omega)
        obtain ⟨b1, o1, ea, hb1, x0⟩ := RdI.at_ (zs := trcT T) (Rd.of_own hownr) (k := k) (by rw [HTL.out]; exact hlt)
        subst ea
        have hx0 : (trcT T)[k]'(by rw [HTL.out]; exact hlt) = T[k].tr := by simp [trcT]
        rw [hx0] at x0
        have hmem : T[k] ∈ T := List.getElem_mem hlt
        generalize T[k] = t at *
        have hwf := HST.out.key hmem
        have hget := getT_mem HGR.out.srt hmem
        obtain ⟨hag, hpos, hl64⟩ := ing_again HGR.out hget
        have HAG := Lib.hid hag
        have HOKS : Hid (∀ x ∈ (lookT T t.tr).map Br.sp, x.nm.size ≤ 140737488355328) := Lib.hid (fun x hx => by
          have h1 := (look_spans HGR.out hget).mem_iff.1 hx
          have := ok_bounds (fits_ok ((HGR.out.ok _ hmem).1.fits x h1)).1
          omega)
        have HLK := Lib.hid (lookup_any HST.out t.tr hwf)
        clear hownr hget hag hx0
        generalize lookT T t.tr = bs at *
        go_wp2_with fail
        refine HLK.out.mono ?_
        rintro e w4 ⟨Ab, cb, rfl, hownb, hb4⟩
        have hz4 := hb4.size
        have HOB := Lib.hid hownb
        have HB4 := Lib.hid hb4
        clear hownb hb4
        go_wp2_with fail
        obtain ⟨wA, rfl⟩ : ∃ wA, wA = wr := ⟨_, rfl⟩
        go_loopw [7, 31] (fun v i wq => ∃ (j : Nat) (A5 : Option Addr) (c5 : Nat), j ≤ bs.length ∧ i = .int .i64 j ∧ v = .slice A5 j c5 ∧ wq.ownsRow w4.heap.size 35 6 (.slice A5 j c5) j (((bs.take j).map Br.sp).flatMap Sp.cells) ∧ Below w4.heap.size w4 wq) (fun _ i _ => bs.length - (intOf i).toNat)
        case atStart => exact ⟨0, none, 0, by omega, rfl, rfl, World.ownsRow_nil _ _ _ _, Below.refl _ _⟩
        case round =>
          obtain ⟨j, A5, c5, hj, rfl, rfl, hown, hbq⟩ := hrel
          have HOWN := Lib.hid hown
          have HBQ := Lib.hid hbq
          have hzq := hbq.size
          clear hown hbq
          by_cases hjl : j < bs.length
          · have hj1 : (j : Int) < (bs.length : Int) := by omega
            have HRB : Hid (RdBr wr w4.heap.size Ab bs.length bs) := Lib.hid (Rd.below' (Rd.of_own HOB.out) HBQ.out (Nat.le_refl _) (Nat.le_refl _))
            obtain ⟨b2, o2, e2, _, y0, y1, y2, y3, y4, y5, y6, y7⟩ := HRB.out.at_ hjl
            have HTK : Hid (((bs.take (j + 1)).map Br.sp).flatMap Sp.cells = ((bs.take j).map Br.sp).flatMap Sp.cells ++ bs[j].sp.cells) := Lib.hid (by
              rw [List.take_succ_eq_append_getElem hjl, List.map_append, List.flatMap_append]; simp)
            subst e2
            generalize bs[j] = y at *
            go_wp2_with (at_builtin; refine wpList_app _ rfl (.tmp 35) (.tmp 38) _ rfl w4.heap.size 35 i0 _ 6 56 Try.underlying31 hi0 gz0 gz1 gz2 rfl (by omega) _ _ _ _ rfl ((HOWN.out.alloc _).alloc _) (wr.heap.size + 2) _ 1 _ _ rfl (Rd.one6 (by simp) y.sp _ _) (cells_one1 _) (by unfold maxLen; omega) (by omega) (by simp <;> omega) ?_; intro A6 c6 w5 hown5 hg5 _)
            go_roundw
            case rel =>
              refine ⟨j + 1, A6, c6, by omega, by go_num, rfl, ?_, below_app ((HBQ.out.alloc hzq _).alloc (by simp <;> omega) _) ((HOWN.out.alloc _).alloc _) hg5 (by simp <;> omega)⟩
              rw [HTK.out]; exact hown5
            case measure => simp [intOf]; omega
          · obtain rfl : j = bs.length := by omega
            have hj1 : ¬ (bs.length : Int) < (bs.length : Int) := by omega
            have hown := HOWN.out
            rw [List.take_of_length_le (Nat.le_refl _)] at hown
            have HALL : Hid (RdS wr wr.heap.size A5 bs.length (bs.map Br.sp)) := Lib.hid (Rd.of_own hown)
            have HABLK : Hid (∀ z, A5.map (·.block) = some z → w4.heap.size ≤ z) := Lib.hid (fun z hz => (HOWN.out.lt z (by rw [← hz]; cases A5 <;> rfl)).1)
            have HBAQ : Hid (Below wA.heap.size wA wr) := Lib.hid (HB4.out.trans (HBQ.out.mono hz4))
            have HSTQ := Lib.hid (HST.out.below HBAQ.out (Nat.le_refl _))
            clear hown
            have HING := Lib.hid (ingest_any HSTQ.out A5 bs.length c5 wr.heap.size (bs.map Br.sp) (Nat.le_refl _) (by omega) HOKS.out HALL.out (fun _ z hz hs => by
              have := HABLK.out z hz
              omega))
            go_wp2_with fail
            refine HING.out.mono ?_
            rw [HAG.out]
            rintro e w7 ⟨rfl, hst7, hfr7⟩
            have hz7 := hfr7.size
            dsimp only at hst7
            have HST7 := Lib.hid (hst7.mono (S2 := fun j => (w0.heap.size ≤ j ∧ j < w1.heap.size) ∨ (w3.heap.size ≤ j ∧ j < w7.heap.size)) (fun j hj => by
              try dsimp only at hj
              show (_ ∨ _)
              omega) (fun j hj => by
              have hj2 : (w0.heap.size ≤ j ∧ j < w1.heap.size) ∨ (w3.heap.size ≤ j ∧ j < w7.heap.size) := hj
              omega))
            have HFR7 : Hid (Fr (fun j => w0.heap.size ≤ j ∧ j < w1.heap.size) w3 w7) := Lib.hid ((HFR.out.trans (Fr.of_below HBAQ.out)).step hfr7 (fun j hj => by
              have hj2 : (w0.heap.size ≤ j ∧ j < w1.heap.size) ∨ (w3.heap.size ≤ j ∧ j < wA.heap.size) := hj
              show (w0.heap.size ≤ j ∧ j < w1.heap.size) ∨ w3.heap.size ≤ j
              omega))
            clear hst7 hfr7
            have hposi : ((bs.length : Int) == 0) = false := beq_eq_false_iff_ne.2 (by omega)
            go_wp2_with fail
            go_roundw
            case rel => exact ⟨k + 1, by omega, by go_num, (HST7.out.below ((Below.refl _ _).alloc (Nat.le_refl _) _) (Nat.le_refl _)).mono (fun j hj => by simp <;> omega) (fun j hj => by simp at hj ⊢; omega), HFR7.out.alloc _⟩
            case measure => simp [intOf]; omega
      · have hk1 : ¬ (k : Int) < (T.length : Int) := by omega
        have HOIR := Lib.hid (own_fr' HOI3.out HFR.out (fun j hj hs => by have := (HOI3.out.lt j hj).1; omega))
        have himl := imgT_len HGR.out
        have HIM := Lib.hid (image_any HST.out)
        have HBR : Hid (Below w.heap.size w wr) := Lib.hid ((HB1.out.trans (HB3.out.mono (by omega))).trans (HFR.out.below (by omega) (fun j hj => by omega)))
        generalize imgT T = im at *
        go_wp2_with fail
        refine HIM.out.mono ?_
        rintro e w5 ⟨A5, c5, rfl, hown5, hb5⟩
        have HO5 := Lib.hid hown5
        have HOI5 := Lib.hid (own_below HOIR.out hb5)
        have HB5 : Hid (Below w.heap.size w w5) := Lib.hid (HBR.out.trans (hb5.mono HBR.out.size))
        clear hown5 hb5
        go_wp2_with fail
        refine (bytesEqual_any _ _ _ _ _ _ _ _ im im _ (Rd.of_own HO5.out) (Rd.of_own HOI5.out)).mono ?_
        rintro e w6 ⟨q, rfl, hq, m6, rfl⟩
        obtain rfl : q = true := hq.2 rfl
        clear hq
        go_wp2_with fail
        refine (awake7_any _).mono ?_
        rintro e w7 ⟨rfl, hb7⟩
        go_wp2_with fail
        go_ret
        exact ⟨rfl, below_via (below_dN HB5.out m6) hb7 HB5.out.size⟩
end Go.Proofs.Ytdjcifeoplgkpaa
