/-
  The walk of the law StoreApart: the Go text answers true. Conditions: the number is an int; the calls and the spans are not more than memory bears.
  The law StoreApart: whatever the input, the Go text answers true, and the input reads as it did. No condition.
-/
import Derived.Test.YtdjcifeoplgkpaaSame07
import Derived.Test.YtdjcifeoplgkpaaStoreC
import Derived.Test.YtdjcifeoplgkpaaOpenD
import Derived.OpenShut
namespace Go.Proofs.Ytdjcifeoplgkpaa
open Go Go.RowKit Go.Maps

theorem getT_iff {T : List Tr} (h : SrtT T) {x : Int} {L : List Sp} : getT T x = some L ↔ (⟨x, L⟩ : Tr) ∈ T :=
  ⟨getT_some, fun hm => getT_mem h hm⟩
theorem getT_setT {T : List Tr} (h : SrtT T) {x z : Int} (hz : z ≠ x) (L : List Sp) : getT (setT T x L) z = getT T z := by
  apply Option.ext
  intro M
  rw [getT_iff (setT_srt h x L), getT_iff h]
  constructor
  · intro hm
    rcases setT_mem hm with ⟨_, h1⟩ | ⟨h1, _⟩
    · exact h1
    · injection h1 with h2 _; exact absurd h2 hz
  · intro hm
    exact List.mem_map.2 ⟨_, hm, if_neg hz⟩
theorem getT_insT {T : List Tr} (h : SrtT T) {x z : Int} (hz : z ≠ x) (hn : ∀ u ∈ T, u.tr ≠ x) (L : List Sp) : getT (insT T ⟨x, L⟩) z = getT T z := by
  apply Option.ext
  intro M
  rw [getT_iff (insT_srt h hn), getT_iff h, insT_mem]
  constructor
  · rintro (h1 | h1)
    · injection h1 with h2 _; exact absurd h2 hz
    · exact h1
  · exact fun h1 => .inr h1
theorem getT_ingS {T : List Tr} (h : SrtT T) (c : Cnt) (s : Sp) {z : Int} (hz : z ≠ s.tr) : getT (ingS (T, c) s).1 z = getT T z := by
  unfold ingS
  cases hg : getT T s.tr with
  | some L => exact getT_setT h hz _
  | none =>
    dsimp only
    by_cases h1 : 32 ≤ T.length
    · rw [if_pos h1]
    · rw [if_neg h1]; exact getT_insT h hz (getT_none hg) _
/-- A span of another trace. -/
def trS (x : Int) (s : Sp) : Sp := { s with tr := x }
def apT (x : Int) (l : List Sp) (T : List Tr) : List Tr := l.foldl (fun T s => (ingA T [trS x s]).1) T
theorem apT_take (x : Int) (l : List Sp) (T : List Tr) (k : Nat) (h : k < l.length) : apT x (l.take (k + 1)) T = (ingA (apT x (l.take k) T) [trS x l[k]]).1 := by
  rw [List.take_succ_eq_append_getElem h]; simp only [apT, List.foldl_append, List.foldl_cons, List.foldl_nil]
theorem getT_ingA {T : List Tr} (h : GrT T) (s : Sp) {z : Int} (hz : z ≠ s.tr) : getT (ingA T [s]).1 z = getT T z := by
  unfold ingA
  by_cases h1 : [s].all Sp.ok = true
  · rw [if_pos h1]; exact getT_ingS h.srt _ s hz
  · rw [if_neg h1]
theorem apT_gr (x : Int) (l : List Sp) : ∀ T, GrT T → GrT (apT x l T) := by
  induction l with
  | nil => intro T h; exact h
  | cons s l ih => intro T h; exact ih _ (h.ingA _)
theorem apT_get (x : Int) (l : List Sp) {z : Int} (hz : z ≠ x) : ∀ T, GrT T → getT (apT x l T) z = getT T z := by
  induction l with
  | nil => intro T _; rfl
  | cons s l ih =>
    intro T h
    show getT (apT x l (ingA T [trS x s]).1) z = _
    rw [ih _ (h.ingA _), getT_ingA h _ (by exact hz)]
theorem apT_look (x : Int) (l : List Sp) {z : Int} (hz : z ≠ x) (T : List Tr) (h : GrT T) : lookT (apT x l T) z = lookT T z := by
  unfold lookT; rw [apT_get x l hz T h]
set_option maxRecDepth 100000 in
set_option maxHeartbeats 4000000 in
theorem storeApart_any (A : Option Addr) (n cap B : Nat) (ds : List DoV) (z : Int) (A2 : Option Addr) (n2 cap2 : Nat) (m : List Sp) (w : World) (hB : B ≤ w.heap.size) (hbig : n ≤ 140737488355328) (hnb : ∀ d ∈ ds, d.n ≤ 140737488355328) (hr : RdDo w B A n ds)
    (hbig2 : n2 ≤ 140737488355328) (hr2 : RdS w B A2 n2 m) :
    Calls Try.prog 5 #[.slice A n cap, .int .i64 z, .slice A2 n2 cap2] w fun e w' => e = .returned (.bool true) ∧ Below w.heap.size w w' := by
  obtain ⟨i0, hi0, gz0, gz1, gz2⟩ := info_parts Try.infoInt
  have hlen := hr.len
  subst hlen
  have hlen := hr2.len
  subst hlen
  have HR := Lib.hid hr
  have HR2 := Lib.hid hr2
  have HNB := Lib.hid hnb
  clear hr hr2 hnb
  go_enter Try.func5, Try.ntmps5
  go_wp2_with fail
  refine (short_any A _ cap B ds w hB hbig HNB.out HR.out).mono ?_
  rintro e w0 ⟨q, rfl, hq, hb0⟩
  have HB0 := Lib.hid hb0
  have hz0 := hb0.size
  cases q
  · clear hb0 hq
    go_wp2_with fail
    refine (awake7_any _).mono ?_
    rintro e w2 ⟨rfl, hb2⟩
    go_wp2_with fail
    go_ret
    exact ⟨rfl, below_via HB0.out hb2 HB0.out.size⟩
  have HS := Lib.hid (hq rfl)
  have HR20 : Hid (RdS w0 B A2 m.length m) := Lib.hid (Rd.below' HR2.out hb0 hB (Nat.le_refl _))
  clear hb0 hq
  cases hm : lightB m
  · have HM := Lib.hid hm
    clear hm
    go_wp2_with fail
    refine (light_any _ _ _ _ m _ (by omega) HR20.out).mono ?_
    rintro e w1 ⟨rfl, rfl⟩
    rw [HM.out]
    go_wp2_with fail
    refine (awake7_any _).mono ?_
    rintro e w2 ⟨rfl, hb2⟩
    go_wp2_with fail
    go_ret
    exact ⟨rfl, below_via HB0.out hb2 HB0.out.size⟩
  have HM := Lib.hid hm
  have hmp := light_parts hm
  have hm400 := hmp.1
  have HNM2 : Hid (∀ s ∈ m, s.nm.size ≤ 140737488355328) := Lib.hid fun s hs => by have := hmp.2 s hs; omega
  clear hm hmp
  go_wp2_with fail
  refine (light_any _ _ _ _ m _ (by omega) HR20.out).mono ?_
  rintro e w1 ⟨rfl, rfl⟩
  rw [HM.out]
  go_wp2_with fail
  refine (play_any A _ cap B ds w0 (by omega) HS.out (HR.out.below HB0.out hB)).mono ?_
  rintro e w1 ⟨s, ms, rfl, hst1, hb1⟩
  have hz1 := hb1.size
  have HST1 := Lib.hid hst1
  have HB1 : Hid (Below w.heap.size w w1) := Lib.hid (HB0.out.trans (hb1.mono hz0))
  have HGR := Lib.hid hst1.gr
  clear hst1 hb1
  generalize playD ds = T at *
  go_wp2_with fail
  refine (sclone_any HST1.out).mono ?_
  rintro e w2 ⟨t, mt, rfl, hst2, hb2⟩
  have hz2 := hb2.size
  have HT2 := Lib.hid hst2
  have HS2 := Lib.hid (HST1.out.below hb2 (Nat.le_refl _))
  have HB2 : Hid (Below w.heap.size w w2) := Lib.hid (HB1.out.trans (hb2.mono HB1.out.size))
  clear hst2 hb2
  go_wp2_with fail
  go_loopw [28] (fun i wr => ∃ k : Nat, k ≤ m.length ∧ i = .int .i64 k ∧ St wr s ms (apT z (m.take k) T) (fun j => (w0.heap.size ≤ j ∧ j < w1.heap.size) ∨ (w2.heap.size ≤ j ∧ j < wr.heap.size)) ∧ Fr (fun j => w0.heap.size ≤ j ∧ j < w1.heap.size) w2 wr) (fun i _ => m.length - (intOf i).toNat)
  case atStart => exact ⟨0, by omega, rfl, HS2.out.mono (fun j hj => .inl hj) (fun j hj => by omega), Fr.refl _ _⟩
  case round =>
    obtain ⟨k, hk, rfl, hst, hfr⟩ := hrel
    have HST := Lib.hid hst
    have HFR := Lib.hid hfr
    have hzr := hfr.size
    have HBR : Hid (Below w.heap.size w wr) := Lib.hid (HB2.out.trans (hfr.below HB2.out.size (fun j hj => by
      have h2 : w0.heap.size ≤ j ∧ j < w1.heap.size := hj
      omega)))
    clear hst hfr
    by_cases hlt : k < m.length
    · have hk1 : (k : Int) < (m.length : Int) := by omega
      obtain ⟨b1, o1, ea, hb1, x0, x1, x2, x3, x4, x5⟩ := RdS.at_ (Rd.below' HR2.out HBR.out hB (Nat.le_refl _)) hlt
      subst ea
      have HTK := Lib.hid (apT_take z m T k hlt)
      have HN1 := Lib.hid (HNM2.out _ (List.getElem_mem hlt))
      generalize m[k] = y at *
      go_wp2_with fail
      have HBA : Hid (Below wr.heap.size wr ((wr.alloc (.cells #[.int .i64 z, .int .i64 y.id, .int .i64 y.pa, .int .i64 y.st, .int .i64 y.en, .string y.nm] 35)).alloc (.cells #[.int .i64 z, .int .i64 y.id, .int .i64 y.pa, .int .i64 y.st, .int .i64 y.en, .string y.nm] 35))) := Lib.hid (((Below.refl _ _).alloc (Nat.le_refl _) _).alloc (by simp) _)
      have HSI := Lib.hid (HST.out.below HBA.out (Nat.le_refl _))
      have HONE : Hid (RdS ((wr.alloc (.cells #[.int .i64 z, .int .i64 y.id, .int .i64 y.pa, .int .i64 y.st, .int .i64 y.en, .string y.nm] 35)).alloc (.cells #[.int .i64 z, .int .i64 y.id, .int .i64 y.pa, .int .i64 y.st, .int .i64 y.en, .string y.nm] 35)) (wr.heap.size + 2) (some ⟨wr.heap.size + 1, 0, none⟩) 1 [trS z y]) := Lib.hid (RdS.one (w := wr.alloc (.cells #[.int .i64 z, .int .i64 y.id, .int .i64 y.pa, .int .i64 y.st, .int .i64 y.en, .string y.nm] 35)) (by simp) (trS z y) 35 (0, 0))
      refine (ingest_any HSI.out (some ⟨wr.heap.size + 1, 0, none⟩) 1 1 (wr.heap.size + 2) [trS z y] (by simp) (by omega) (fun u hu => by obtain rfl := List.mem_singleton.1 hu; exact HN1.out) HONE.out (fun _ j hj hs => by
        have h2 : (w0.heap.size ≤ j ∧ j < w1.heap.size) ∨ (w2.heap.size ≤ j ∧ j < wr.heap.size) := hs
        have hj2 : wr.heap.size + 1 = j := by simpa using hj
        omega)).mono ?_
      rintro e w5 ⟨rfl, hst5, hfr5⟩
      have hz5 := hfr5.size
      simp at hz5
      have HST5 : Hid (St w5 s ms (apT z (m.take (k + 1)) T) (fun j => (w0.heap.size ≤ j ∧ j < w1.heap.size) ∨ (w2.heap.size ≤ j ∧ j < w5.heap.size))) := Lib.hid (by
        rw [HTK.out]
        refine hst5.mono (fun j hj => ?_) (fun j hj => ?_)
        · have h2 : ((w0.heap.size ≤ j ∧ j < w1.heap.size) ∨ (w2.heap.size ≤ j ∧ j < wr.heap.size)) ∨ (((wr.alloc (.cells #[.int .i64 z, .int .i64 y.id, .int .i64 y.pa, .int .i64 y.st, .int .i64 y.en, .string y.nm] 35)).alloc (.cells #[.int .i64 z, .int .i64 y.id, .int .i64 y.pa, .int .i64 y.st, .int .i64 y.en, .string y.nm] 35)).heap.size ≤ j ∧ j < w5.heap.size) := hj
          simp at h2
          show (w0.heap.size ≤ j ∧ j < w1.heap.size) ∨ (w2.heap.size ≤ j ∧ j < w5.heap.size)
          omega
        · have h2 : (w0.heap.size ≤ j ∧ j < w1.heap.size) ∨ (w2.heap.size ≤ j ∧ j < w5.heap.size) := hj
          omega)
      have HFR5 : Hid (Fr (fun j => w0.heap.size ≤ j ∧ j < w1.heap.size) w2 w5) := Lib.hid ((HFR.out.trans (Fr.of_below HBA.out)).step hfr5 (fun j hj => by
        have h2 : (w0.heap.size ≤ j ∧ j < w1.heap.size) ∨ (w2.heap.size ≤ j ∧ j < wr.heap.size) := hj
        show (w0.heap.size ≤ j ∧ j < w1.heap.size) ∨ w2.heap.size ≤ j
        omega))
      clear hst5 hfr5
      go_wp2_with fail
      go_roundw
      case rel => first | exact ⟨k + 1, by omega, by go_num, HST5.out, HFR5.out⟩ | exact ⟨_, _, ⟨k + 1, by omega, by go_num, HST5.out, HFR5.out⟩, rfl, rfl⟩ | exact ⟨_, _, _, ⟨k + 1, by omega, by go_num, HST5.out, HFR5.out⟩, rfl, rfl, rfl⟩
      case measure => simp [intOf]; omega
    · obtain rfl : k = m.length := by omega
      have hk1 : ¬ (m.length : Int) < (m.length : Int) := by omega
      have hst := HST.out
      rw [List.take_of_length_le (Nat.le_refl _)] at hst
      have HSX := Lib.hid hst
      have HLO : Hid (∀ y, y ≠ z → lookT (apT z m T) y = lookT T y) := Lib.hid (fun y hy => apT_look z m hy T HGR.out)
      have HG2 := Lib.hid hst.gr
      have HTX : Hid (St wr t mt T (fun j => w1.heap.size ≤ j ∧ j < w2.heap.size)) := Lib.hid (HT2.out.fr HFR.out (fun j hj hs => by
        have h1 : w1.heap.size ≤ j ∧ j < w2.heap.size := hj
        have h2 : w0.heap.size ≤ j ∧ j < w1.heap.size := hs
        omega))
      have HKEY : Hid (∀ x ∈ trcT T ++ trcT (apT z m T), wfI x) := Lib.hid (fun x hx => by
        rcases List.mem_append.1 hx with h | h
        · obtain ⟨u, hu, rfl⟩ := List.mem_map.1 h; exact HTX.out.key hu
        · obtain ⟨u, hu, rfl⟩ := List.mem_map.1 h; exact hst.key hu)
      clear hst HST HS2 HT2
      obtain ⟨wA, rfl⟩ : ∃ wA, wA = wr := ⟨_, rfl⟩
      generalize apT z m T = T2 at *
      have hl1 := HGR.out.len
      have hl2 := HG2.out.len
      have HL1 : Hid ((trcT T).length = T.length) := Lib.hid (by simp [trcT])
      have HL2 : Hid ((trcT T2).length = T2.length) := Lib.hid (by simp [trcT])
      have HLL : Hid ((trcT T ++ trcT T2).length = T.length + T2.length) := Lib.hid (by rw [List.length_append, HL1.out, HL2.out])
      go_wp2_with fail
      refine (traces_any HTX.out).mono ?_
      rintro e w3 ⟨A3, c3, rfl, hown3, hb3⟩
      rw [HL1.out] at hown3 ⊢
      have hz3 := hb3.size
      have HO3 : Hid (w3.ownsRow wA.heap.size 3 1 (.slice A3 T.length c3) T.length ((trcT T).map (Value.int .i64))) := Lib.hid hown3
      have HB3 := Lib.hid hb3
      have HSX3 := Lib.hid (HSX.out.below hb3 (Nat.le_refl _))
      clear hown3 hb3
      go_wp2_with fail
      refine (traces_any HSX3.out).mono ?_
      rintro e w4 ⟨A4, c4, rfl, hown4, hb4⟩
      rw [HL2.out] at hown4 ⊢
      have hz4 := hb4.size
      have HRD4 : Hid (Rd w4 w4.heap.size 1 A4 T2.length ((trcT T2).map (Value.int .i64))) := Lib.hid (Rd.of_own hown4)
      have HO34 := Lib.hid (own_below HO3.out hb4)
      have HB4 : Hid (Below wA.heap.size wA w4) := Lib.hid (HB3.out.trans (hb4.mono hz3))
      clear hown4 hb4
      go_wp2_with (at_builtin; refine wpList_app _ rfl (.tmp 43) (.tmp 45) _ rfl wA.heap.size 3 i0 _ 1 8 Try.underlying29 hi0 gz0 gz1 gz2 rfl (by omega) _ _ _ _ rfl HO34.out w4.heap.size _ _ _ _ rfl HRD4.out (ints_one _) (by unfold maxLen; omega) (by omega) (by omega) ?_; intro A5 c5 w5 hown5 hg5 _)
      have HB5 : Hid (Below wA.heap.size wA w5) := Lib.hid (below_app HB4.out HO34.out hg5 (by omega))
      have hz5 := HB5.out.size
      have HO5 : Hid (w5.ownsRow wA.heap.size 3 1 (.slice A5 (T.length + T2.length) c5) (T.length + T2.length) ((trcT T ++ trcT T2).map (Value.int .i64))) := Lib.hid (by rw [List.map_append]; exact hown5)
      have HTX5 := Lib.hid (HTX.out.below HB5.out (Nat.le_refl _))
      have HSX5 := Lib.hid (HSX.out.below HB5.out (Nat.le_refl _))
      have HBW : Hid (Below w.heap.size w w5) := Lib.hid (HBR.out.trans (HB5.out.mono HBR.out.size))
      clear hown5 hg5
      generalize trcT T ++ trcT T2 = zs at *
      go_wp2_with fail
      go_loopw [48] (fun i wq => ∃ k : Nat, k ≤ T.length + T2.length ∧ i = .int .i64 k ∧ Below w5.heap.size w5 wq) (fun i _ => T.length + T2.length - (intOf i).toNat)
      case atStart => exact ⟨0, by omega, rfl, Below.refl _ _⟩
      case round =>
        obtain ⟨j, hj, rfl, hb⟩ := hrel
        have HB := Lib.hid hb
        clear hb
        by_cases hjl : j < T.length + T2.length
        · have hj1 : (j : Int) < ((T.length + T2.length : Nat) : Int) := by omega
          have hownr := own_below HO5.out HB.out
          obtain ⟨b3, o3, ea, _, x0⟩ := RdI.at_ (zs := zs) (Rd.of_own hownr) (k := j) (by rw [HLL.out]; exact hjl)
          subst ea
          have HWF := Lib.hid (HKEY.out _ (List.getElem_mem (by rw [HLL.out]; exact hjl : j < zs.length)))
          generalize zs[j]'(by rw [HLL.out]; exact hjl) = x at *
          have HTR := Lib.hid (HTX5.out.below HB.out (Nat.le_refl _))
          have HSR := Lib.hid (HSX5.out.below HB.out (Nat.le_refl _))
          clear hownr
          by_cases hxz : x = z
          · subst hxz
            go_wp2_with fail
            go_roundw
            case rel => first | exact ⟨j + 1, by omega, by go_num, HB.out⟩ | exact ⟨_, ⟨j + 1, by omega, by go_num, HB.out⟩, rfl⟩ | exact ⟨_, _, ⟨j + 1, by omega, by go_num, HB.out⟩, rfl, rfl⟩ | exact ⟨_, _, _, ⟨j + 1, by omega, by go_num, HB.out⟩, rfl, rfl, rfl⟩
            case measure => simp [intOf]; omega
          · have HLX := Lib.hid (HLO.out x hxz)
            have HLEN : Hid ((lookT T x).length ≤ 64) := Lib.hid (by
              unfold lookT
              cases hg : getT T x with
              | none => simp
              | some L =>
                have h1 := (branches_perm (HGR.out.ok _ (getT_some hg)).1).length_eq
                have h2 := (HGR.out.ok _ (getT_some hg)).1.len
                rw [List.length_map] at h1
                dsimp only at h1 h2 ⊢
                omega)
            have hxz1 : (x == z) = false := beq_eq_false_iff_ne.2 hxz
            have HLK := Lib.hid (lookup_any HTR.out x HWF.out)
            go_wp2_with fail
            refine HLK.out.mono ?_
            rintro e v1 ⟨Ab, cb, rfl, hownb, hbb⟩
            have HOB := Lib.hid hownb
            have HBB := Lib.hid hbb
            have HSV := Lib.hid (HSR.out.below hbb (Nat.le_refl _))
            have HLK2 := Lib.hid (lookup_any HSV.out x HWF.out)
            rw [HLX.out] at HLK2
            clear hownb hbb HLK HLX
            generalize lookT T x = bs at *
            go_wp2_with fail
            refine HLK2.out.mono ?_
            rintro e v2 ⟨Ac, cc, rfl, hownc, hbc⟩
            have HOC := Lib.hid hownc
            have HOB2 := Lib.hid (own_below HOB.out hbc)
            have HBC : Hid (Below w5.heap.size w5 v2) := Lib.hid (HB.out.trans ((HBB.out.trans (hbc.mono HBB.out.size)).mono HB.out.size))
            clear hownc hbc
            have hl64 := HLEN.out
            go_wp2_with fail
            refine (eqB_any _ _ _ _ _ _ _ _ bs bs _ (Rd.of_own HOB2.out) (Rd.of_own HOC.out) (by omega)).mono ?_
            rintro e v3 ⟨q, rfl, hq, m7, rfl⟩
            obtain rfl : q = true := hq.2 rfl
            clear hq
            go_wp2_with fail
            go_roundw
            case rel => first | exact ⟨j + 1, by omega, by go_num, below_dN HBC.out m7⟩ | exact ⟨_, ⟨j + 1, by omega, by go_num, below_dN HBC.out m7⟩, rfl⟩ | exact ⟨_, _, ⟨j + 1, by omega, by go_num, below_dN HBC.out m7⟩, rfl, rfl⟩ | exact ⟨_, _, _, ⟨j + 1, by omega, by go_num, below_dN HBC.out m7⟩, rfl, rfl, rfl⟩
            case measure => simp [intOf]; omega
        · have hj1 : ¬ (j : Int) < ((T.length + T2.length : Nat) : Int) := by omega
          go_wp2_with fail
          refine (awake7_any _).mono ?_
          rintro e w7 ⟨rfl, hb7⟩
          go_wp2_with fail
          go_ret
          exact ⟨rfl, below_via (HBW.out.trans (HB.out.mono HBW.out.size)) hb7 (by have := HBW.out.size; have := HB.out.size; omega)⟩
end Go.Proofs.Ytdjcifeoplgkpaa
namespace Go.Proofs.Ytdjcifeoplgkpaa.StoreApartDone
open Go.ChangeShapes Go.WideShapes Go.ChangeAt Go.RowKit

set_option maxRecDepth 100000 in
set_option maxHeartbeats 1000000 in
theorem lifted (os : Os) (started : os.Started) (H : Type) (enc : TypeId × Value → H) :
    ReturnsInHanded {} Try.checked os 5 .any (Rows.storeApartSpec.pre6 enc Try.prog Try.f5 Rows.storeApartRow.domain false) (Rows.storeApartSpec.post enc Try.prog Try.f5 false true false false) := by
  refine returnsInHanded_of_change_sized (C := Try.checked) ownKnob_none started (by kernel_rfl) Try.func5
    (ChangeSpec.witness6 (enc := enc) (C := Try.checked) false ⟨#[], #[.slice none 0 0, .int .i64 0, .slice none 0 0], []⟩ 8 (by kernel_rfl) (by kernel_rfl) (by kernel_rfl) (by kernel_rfl)) ?_
  intro W base args ds gs before hval0 hW hcnd hsz _
  have hval : ∀ (j : Nat) t v, Try.f5.params[j]? = some t → args[j]? = some v → Value.okWide Try.prog W .any base t v := hval0
  have hW' := hW
  obtain ⟨p, q, hA0, hV, rfl, hfz, hnd⟩ := hW
  have hA : DataW.TrodAll enc Try.prog W 0 (fun _ => true) true Try.f5.params.toList args.toList ds p := hA0
  rw [Try.params5] at hA hval
  obtain ⟨v0, vs0, d0, ds0, p0, q0, hargs, rfl, rfl, h0, r0⟩ := trodAll_cons hA
  obtain ⟨v1, vs1, d1, ds1, p1, q1, rfl, rfl, rfl, h1, r1⟩ := trodAll_cons r0
  obtain ⟨v2, vs2, d2, ds2, p2, q2, rfl, rfl, rfl, h2, r2⟩ := trodAll_cons r1
  obtain ⟨rfl, rfl, rfl⟩ := trodAll_nil r2
  obtain rfl : args = #[v0, v1, v2] := by cases args; simp_all
  obtain ⟨rfl, rfl⟩ := trodVars_none hV
  have k0 := h0
  have lt0 : ∀ x ∈ p0, x.block < W.heap.size := by obtain ⟨m, hm⟩ := k0; exact DataW.trod_lt m _ _ _ hm
  have k1 := h1
  have lt1 : ∀ x ∈ p1, x.block < W.heap.size := by obtain ⟨m, hm⟩ := k1; exact DataW.trod_lt m _ _ _ hm
  have k2 := h2
  have lt2 : ∀ x ∈ p2, x.block < W.heap.size := by obtain ⟨m, hm⟩ := k2; exact DataW.trod_lt m _ _ _ hm
  obtain ⟨a0, len0, cap0, rfl⟩ := okWide_slice Try.underlying22 (hval 0 22 v0 rfl rfl)
  obtain ⟨A0, n0, c0, l0, e0, R0, D0⟩ := open_dos (by rfl) h0
  cases e0
  obtain ⟨z1, rfl⟩ := okWide_int Try.underlying3 (hval 1 3 v1 rfl rfl)
  obtain ⟨a2, len2, cap2, rfl⟩ := okWide_slice Try.underlying31 (hval 2 31 v2 rfl rfl)
  obtain ⟨A2, n2, c2, l2, e2, R2, Q2, D2⟩ := open_spans (by rfl) h2
  cases e2
  have Z0 := dos_reach (j := 0) hsz rfl rfl D0 (fun q hq => RdS.len (R0.2 q hq))
  have Z2 := spans_reach (j := 2) hsz rfl rfl D2
  clear hA0 hval0
  refine (storeApart_any a0 len0 cap0 W.heap.size l0 z1 a2 len2 cap2 l2 W (Nat.le_refl _) (by have h1 := Z0.1; have h2 := RdDo.len R0; omega) (fun d hd => Nat.le_trans (Z0.2 d hd) (by omega)) R0 (by have h1 := Z2.1; have h2 := RdS.len R2; omega) R2).mono fun e W' ⟨he, bel⟩ => ?_
  subst he
  exact ⟨_, rfl, _, _, _, [], _, [], hW', trodAll_mk1 (shut_bool Try.underlying4 _), trodAll_cons_mk (Below.trod laidOut_true (by kernel_rfl) (of_decide_eq_true (by kernel_rfl)) k0 bel lt0) (trodAll_cons_mk (Below.trod laidOut_true (by kernel_rfl) (of_decide_eq_true (by kernel_rfl)) k1 bel lt1) (trodAll_cons_mk (Below.trod laidOut_true (by kernel_rfl) (of_decide_eq_true (by kernel_rfl)) k2 bel lt2) trodAll_mk0)), rfl, bel.frame _, fun h => by cases h⟩

theorem over : Rows.storeApartRow.holds Try.pinned (OpenSpec.ofChange Rows.storeApartSpec) :=
  OpenClaim.holds_of_wide 5 Try.f5 rfl rfl rfl rfl rfl rfl rfl ⟨rfl, rfl, rfl, rfl, rfl⟩ rfl rfl rfl rfl rfl (by kernel_rfl) Try.func5 (by kernel_rfl)
    (of_decide_eq_true (by kernel_rfl)) (by unfold Func.isWrapper; first | (rw [if_pos (by decide +kernel)]; kernel_rfl) | (rw [if_neg (by decide +kernel)]; exact ⟨rfl, rfl⟩))
    (fun os started H enc _ => lifted os started H enc)

theorem proved : Rows.StoreApartSaid := over
#print axioms proved
end Go.Proofs.Ytdjcifeoplgkpaa.StoreApartDone
