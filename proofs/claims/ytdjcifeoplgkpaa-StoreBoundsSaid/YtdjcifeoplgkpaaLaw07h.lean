/-
  The law StoreBounds: where spans are counted as too many, and the walk: the Go text answers true. Conditions: the calls are not more than memory bears.
-/
import Derived.Test.YtdjcifeoplgkpaaLoad07
import Derived.Test.YtdjcifeoplgkpaaSame07
namespace Go.Proofs.Ytdjcifeoplgkpaa
open Go Go.RowKit Go.Maps

theorem addS_mono (L : List Sp) (c : Cnt) (s : Sp) : L.length ≤ (addS (L, c) s).1.length := by
  unfold addS
  dsimp only
  split
  · split <;> exact Nat.le_refl _
  · split
    · exact Nat.le_refl _
    · split
      · exact Nat.le_refl _
      · simp
/-- All there may be of a trace, or of traces. -/
def FullT (T : List Tr) (x : Int) : Prop := 32 ≤ T.length ∨ ∃ L, getT T x = some L ∧ 64 ≤ L.length
theorem getT_set (T : List Tr) (x : Int) {L M : List Sp} (h : getT T x = some L) : getT (setT T x M) x = some M := by
  induction T with
  | nil => cases h
  | cons t T ih =>
    rw [getT_cons] at h
    unfold setT at ih ⊢
    rw [List.map_cons, getT_cons]
    by_cases e : t.tr = x
    · rw [if_pos e]; simp
    · rw [if_neg e] at h
      rw [if_neg e, if_neg e]
      exact ih h
theorem addS_full64 {L : List Sp} {s : Sp} (h : 0 < (addS (L, Cnt.zero) s).2.fu) : 64 ≤ L.length := by
  unfold addS at h
  dsimp only at h
  split at h
  · split at h <;> simp [Cnt.zero] at h
  · split at h
    · assumption
    · split at h <;> simp [Cnt.zero] at h
theorem ingS_fullT {T : List Tr} {c : Cnt} {s : Sp} {x : Int} (hs : s.tr = x) (h : 0 < c.fu → FullT T x) : 0 < (ingS (T, c) s).2.fu → FullT (ingS (T, c) s).1 x := by
  unfold ingS
  dsimp only
  rw [hs]
  cases hg : getT T x with
  | some L =>
    dsimp only
    intro hf
    have hfu : c.fu + (addS (L, Cnt.zero) s).2.fu = (c.plus (addS (L, Cnt.zero) s).2).fu := rfl
    have hm := addS_mono L Cnt.zero s
    by_cases h0 : 0 < c.fu
    · rcases h h0 with h1 | ⟨M, h1, h2⟩
      · left; rw [setT_len]; exact h1
      · rw [hg] at h1
        cases h1
        exact .inr ⟨_, getT_set T x hg, by omega⟩
    · have := addS_full64 (L := L) (s := s) (by omega)
      exact .inr ⟨_, getT_set T x hg, by omega⟩
  | none =>
    dsimp only
    by_cases h32 : 32 ≤ T.length
    · rw [if_pos h32]; intro _; exact .inl h32
    · rw [if_neg h32]
      dsimp only
      intro hf
      have hfu : c.fu + (addS ([], Cnt.zero) s).2.fu = (c.plus (addS ([], Cnt.zero) s).2).fu := rfl
      by_cases h0 : 0 < c.fu
      · rcases h h0 with h1 | ⟨M, h1, h2⟩
        · exact absurd h1 h32
        · rw [hg] at h1; cases h1
      · have := addS_full64 (L := []) (s := s) (by omega)
        simp at this
theorem ingL_full {x : Int} (l : List Sp) : ∀ (T : List Tr) (c : Cnt), (∀ s ∈ l, s.tr = x) → (0 < c.fu → FullT T x) → 0 < (ingL (T, c) l).2.fu → FullT (ingL (T, c) l).1 x := by
  induction l with
  | nil => intro T c _ h; exact h
  | cons s l ih =>
    intro T c hs h
    exact ih (ingS (T, c) s).1 (ingS (T, c) s).2 (fun u hu => hs u (by simp [hu])) (ingS_fullT (hs s (by simp)) h)
/-- The spans of a round. -/
def wideS (k j : Nat) : Sp := ⟨100 + k, 1 + j, 0, 0, 0, ⟨#[97]⟩⟩
def wideL (k n : Nat) : List Sp := (List.range n).map (wideS k)
theorem wideL_len (k n : Nat) : (wideL k n).length = n := by simp [wideL]
theorem wideL_succ (k n : Nat) : wideL k (n + 1) = wideL k n ++ [wideS k n] := by simp [wideL, List.range_succ]
theorem wideS_ok {k j : Nat} (hk : k < 40) (hj : j < 70) : (wideS k j).ok = true := by
  have h1 : allBytes 33 126 [97] = true := by decide
  have h2 : allIn 1 1099511627776 [(100 : Int) + k, 1 + j] = true := by simp [allIn, inB]; omega
  have h3 : allIn 0 1099511627776 [0, 0, 0] = true := by decide
  have hsz : (⟨#[97]⟩ : ByteArray).size = 1 := rfl
  simp only [Sp.ok, wideS, hsz, h1, h2, h3]
  simp
  exact decide_eq_true (by omega)
theorem wideL_ok {k n : Nat} (hk : k < 40) (hn : n ≤ 70) : (wideL k n).all Sp.ok = true := by
  refine List.all_eq_true.2 fun s hs => ?_
  obtain ⟨j, hj, rfl⟩ := List.mem_map.1 hs
  have := List.mem_range.1 hj
  exact wideS_ok hk (by omega)
theorem look_len {T : List Tr} (h : GrT T) (x : Int) : (lookT T x).length ≤ 64 := by
  cases hg : getT T x with
  | none => simp [lookT, hg]
  | some L =>
    have h1 := (look_sps h hg).length_eq
    have h2 := (h.ok _ (getT_some hg)).1.len
    rw [List.length_map] at h1
    dsimp only at h2
    omega
/-- What comes of the spans of a round. -/
theorem ing_wide {T : List Tr} (h : GrT T) {k n : Nat} (hk : k < 40) (hn : n ≤ 70) : ∃ T2 c, ingA T (wideL k n) = (T2, c, 0) ∧ c.ad + c.sa + c.ot + c.cy + c.fu = n ∧ (lookT T2 (100 + k)).length ≤ 64 ∧ T2.length ≤ 32 ∧ (0 < c.fu → 32 ≤ T2.length ∨ 64 ≤ (lookT T2 (100 + k)).length) := by
  have hok := wideL_ok hk hn
  have hg := h.ingA (wideL k n)
  have e : ingA T (wideL k n) = ((ingL (T, Cnt.zero) (wideL k n)).1, (ingL (T, Cnt.zero) (wideL k n)).2, 0) := by rw [ingA, if_pos hok]
  have hf := ingL_full (x := 100 + (k : Int)) (wideL k n) T Cnt.zero (fun s hs => by obtain ⟨j, _, rfl⟩ := List.mem_map.1 hs; rfl) (fun h => by simp [Cnt.zero] at h)
  have hs := ingL_sum (T, Cnt.zero) (wideL k n)
  rw [e] at hg
  generalize ingL (T, Cnt.zero) (wideL k n) = st at *
  obtain ⟨T2, c⟩ := st
  dsimp only at hg hf hs e
  refine ⟨T2, c, e, ?_, look_len hg _, hg.len, fun h0 => ?_⟩
  · rw [wideL_len] at hs
    simpa [Cnt.sum, Cnt.zero] using hs
  · rcases hf h0 with h1 | ⟨L, h1, h2⟩
    · exact .inl h1
    · have h3 := (look_sps hg h1).length_eq
      rw [List.length_map] at h3
      exact .inr (by omega)
theorem mod_nat (z : Int) (m : Nat) (hm : 0 < m) : ∃ r : Nat, (IntKind.u64.wrap z).tmod (m : Int) = (r : Int) ∧ r < m := by
  obtain ⟨a, ha⟩ : ∃ a : Nat, IntKind.u64.wrap z = (a : Int) := by
    have h : 0 ≤ IntKind.u64.wrap z := by simp [IntKind.wrap, IntKind.bits, IntKind.signed]; omega
    exact ⟨(IntKind.u64.wrap z).toNat, by omega⟩
  rw [ha]
  exact ⟨a % m, rfl, Nat.mod_lt _ hm⟩

set_option maxRecDepth 100000 in
set_option maxHeartbeats 4000000 in
theorem storeBounds_any (A : Option Addr) (n cap B : Nat) (ds : List DoV) (zt zs : Int) (w : World) (hB : B ≤ w.heap.size) (hbig : n ≤ 140737488355328) (hnb : ∀ d ∈ ds, d.n ≤ 140737488355328) (hr : RdDo w B A n ds) :
    Calls Try.prog 8 #[.slice A n cap, .int .i64 zt, .int .i64 zs] w fun e w' => e = .returned (.bool true) ∧ Below w.heap.size w w' := by
  obtain ⟨i0, hi0, gz0, gz1, gz2⟩ := info_parts Try.infoSpan
  have hlen := hr.len
  subst hlen
  have HR := Lib.hid hr
  have HNB := Lib.hid hnb
  clear hr hnb
  obtain ⟨R, hR1, hR⟩ := mod_nat zt 40 (by omega)
  obtain ⟨N, hN1, hN⟩ := mod_nat zs 70 (by omega)
  have hR2 : (IntKind.u64.wrap zt).tmod 40 = (R : Int) := hR1
  have hN2 : (IntKind.u64.wrap zs).tmod 70 = (N : Int) := hN1
  clear hR1 hN1
  have hw2 : wrap64 (R : Int) = R := IntWalk.wrap64_in _ (by omega)
  have hw1 : IntKind.i64.wrap (R : Int) = R := (IntWalk.i64_left _).trans hw2
  have hw4 : wrap64 (N : Int) = N := IntWalk.wrap64_in _ (by omega)
  have hw3 : IntKind.i64.wrap (N : Int) = N := (IntWalk.i64_left _).trans hw4
  have HW : Hid (True) := Lib.hid trivial
  go_enter Try.func8, Try.ntmps8
  go_wp2_with fail
  refine (short_any A _ cap B ds w hB hbig HNB.out HR.out).mono ?_
  rintro e w0 ⟨q, rfl, hq, hb0⟩
  have HB0 := Lib.hid hb0
  have hz0 := hb0.size
  cases q
  · clear hb0 hq
    go_wp2_with fail
    refine (awake7_any _).mono ?_
    rintro e w2 ⟨rfl, hb2⟩
    go_wp2_with fail
    go_ret
    exact ⟨rfl, below_via HB0.out hb2 HB0.out.size⟩
  have HS := Lib.hid (hq rfl)
  clear hb0 hq
  go_wp2_with fail
  refine (play_any A _ cap B ds w0 (by clear hw1 hw2 hw3 hw4 hR2 hN2; omega) HS.out (HR.out.below HB0.out hB)).mono ?_
  rintro e w1 ⟨s, m, rfl, hst1, hb1⟩
  have hz1 := hb1.size
  have HST1 := Lib.hid hst1
  have HB1 : Hid (Below w.heap.size w w1) := Lib.hid (HB0.out.trans (hb1.mono hz0))
  clear hst1 hb1
  generalize playD ds = T0 at *
  go_wp2_with fail
  clear hw1 hw2 hw3 hw4 hR2 hN2
  go_loopw [30] (fun i wr => ∃ (k : Nat) (T : List Tr), k ≤ R ∧ i = .int .i64 k ∧ St wr s m T (fun j => w0.heap.size ≤ j ∧ j < wr.heap.size) ∧ Below w.heap.size w wr) (fun i _ => R - (intOf i).toNat)
  case atStart => exact ⟨0, T0, by omega, rfl, HST1.out, HB1.out⟩
  case round =>
    obtain ⟨k, T, hk, rfl, hst, hb⟩ := hrel
    have HST := Lib.hid hst
    have HB := Lib.hid hb
    have hzr := hb.size
    clear hst hb
    obtain ⟨wA, rfl⟩ : ∃ wA, wA = wr := ⟨_, rfl⟩
    have hw0A : w0.heap.size ≤ wA.heap.size := by
      have h1 : w0.heap.size ≤ s ∧ s < wA.heap.size := HST.out.ss
      omega
    by_cases hlt : k < R
    · have hk1 : (k : Int) < (R : Int) := by omega
      have hk39 : (k : Int) ≤ 39 := by omega
      go_wp2_with fail
      go_loopw [9, 34] (fun v i wr => ∃ (j : Nat) (A5 : Option Addr) (c5 : Nat), j ≤ N ∧ i = .int .i64 j ∧ v = .slice A5 j c5 ∧ wr.ownsRow wA.heap.size 35 6 (.slice A5 j c5) j ((wideL k j).flatMap Sp.cells) ∧ Below wA.heap.size wA wr) (fun _ i _ => N - (intOf i).toNat)
      case atStart => exact ⟨0, none, 0, by omega, rfl, rfl, World.ownsRow_nil _ _ _ _, Below.refl _ _⟩
      case round =>
        obtain ⟨j, A5, c5, hj, rfl, rfl, hown, hbq⟩ := hrel
        have HOWN := Lib.hid hown
        have HBQ := Lib.hid hbq
        have hzq := hbq.size
        clear hown hbq
        by_cases hjl : j < N
        · have hj1 : (j : Int) < (N : Int) := by omega
          have hj69 : (j : Int) ≤ 69 := by omega
          have HTK : Hid ((wideL k (j + 1)).flatMap Sp.cells = (wideL k j).flatMap Sp.cells ++ (wideS k j).cells) := Lib.hid (by rw [wideL_succ, List.flatMap_append]; simp)
          go_wp2_with (at_builtin; refine wpList_app _ rfl (.tmp 37) (.tmp 43) _ rfl wA.heap.size 35 i0 _ 6 56 Try.underlying31 hi0 gz0 gz1 gz2 rfl (by omega) _ _ _ _ rfl (HOWN.out.alloc _) (wr.heap.size + 1) _ 1 _ (wideS k j).cells rfl (Rd.new (by simp) rfl (by intro i hi; simp [Sp.cells] at hi; match i, hi with | 0, _ => rfl | 1, _ => rfl | 2, _ => rfl | 3, _ => rfl | 4, _ => rfl | 5, _ => rfl)) (cells_one1 _) (by unfold maxLen; omega) (by omega) (by simp <;> omega) ?_; intro A6 c6 w5 hown5 hg5 _)
          go_roundw
          case rel =>
            refine ⟨j + 1, A6, c6, by omega, by go_num, rfl, ?_, below_app (HBQ.out.alloc hzq _) (HOWN.out.alloc _) hg5 (by simp <;> omega)⟩
            rw [HTK.out]; exact hown5
          case measure => simp [intOf]; omega
        · obtain rfl : j = N := by omega
          have hj1 : ¬ (j : Int) < (j : Int) := by omega
          have HALL : Hid (RdS wr wr.heap.size A5 j (wideL k j)) := Lib.hid (Rd.of_own HOWN.out)
          have HABLK : Hid (∀ z, A5.map (·.block) = some z → wA.heap.size ≤ z) := Lib.hid (fun z hz => (HOWN.out.lt z (by rw [← hz]; cases A5 <;> rfl)).1)
          have HSTQ := Lib.hid (HST.out.below HBQ.out (Nat.le_refl _))
          obtain ⟨T2, cn, hing, hsum, hl64, ht32, hfull⟩ := ing_wide HST.out.gr (k := k) (n := j) (by omega) (by omega)
          have hingc := ingest_any HSTQ.out A5 j c5 wr.heap.size (wideL k j) (Nat.le_refl _) (by omega) (fun x hx => by
            have := ok_bounds (List.all_eq_true.1 (wideL_ok (k := k) (n := j) (by omega) (by omega)) x hx); omega) HALL.out (fun _ z hz hs => by
            have h1 := HABLK.out z hz
            have h2 : w0.heap.size ≤ z ∧ z < wA.heap.size := hs
            omega)
          rw [hing] at hingc
          have HING := Lib.hid hingc
          clear hing hingc
          go_wp2_with fail
          refine HING.out.mono ?_
          rintro e w4 ⟨rfl, hst4, hfr4⟩
          have hz4 := hfr4.size
          dsimp only at hst4 ⊢
          have HST4 := Lib.hid (hst4.mono (S2 := fun j => w0.heap.size ≤ j ∧ j < w4.heap.size) (fun z hz => by
            have h1 : (w0.heap.size ≤ z ∧ z < wA.heap.size) ∨ (wr.heap.size ≤ z ∧ z < w4.heap.size) := hz
            show w0.heap.size ≤ z ∧ z < w4.heap.size
            omega) (fun z hz => hz.2))
          have HB4 : Hid (Below w.heap.size w w4) := Lib.hid ((HB.out.trans (HBQ.out.mono hzr)).trans (hfr4.below (by have := HB.out.size; omega) (fun z hz => by
            have h2 : w0.heap.size ≤ z ∧ z < wA.heap.size := hz
            omega)))
          clear hst4 hfr4
          have HBC : Hid (Below w4.heap.size w4 (w4.alloc (.cells #[.int .i64 cn.ad, .int .i64 cn.sa, .int .i64 cn.ot, .int .i64 cn.cy, .int .i64 cn.fu] 39))) := Lib.hid ((Below.refl _ _).alloc (Nat.le_refl _) _)
          have HCN := Lib.hid (heap_alloc_new w4 (.cells #[.int .i64 cn.ad, .int .i64 cn.sa, .int .i64 cn.ot, .int .i64 cn.cy, .int .i64 cn.fu] 39))
          have e1 : (cn.ad : Int) ≤ 70 := by omega
          have e2 : (cn.sa : Int) ≤ 70 := by omega
          have e3 : (cn.ot : Int) ≤ 70 := by omega
          have e4 : (cn.cy : Int) ≤ 70 := by omega
          have e5 : (cn.fu : Int) ≤ 70 := by omega
          have hsq : ((cn.ad : Int) + cn.sa + cn.ot + cn.cy + cn.fu == (j : Int)) = true := by simp; omega
          have hsn : ((cn.ad : Int) + cn.sa + cn.ot + cn.cy + cn.fu != (j : Int)) = false := by simp; omega
          have HLK := Lib.hid (lookup_any (HST4.out.below HBC.out (Nat.le_refl _)) (100 + (k : Int)) (wfI_of (by omega) (by omega)))
          have HFULL := Lib.hid hfull
          have HLT : Hid ((trcT T2).length = T2.length) := Lib.hid (by simp [trcT])
          clear hsum hfull
          have hl64i : ¬ (64 : Int) < ((lookT T2 (100 + (k : Int))).length : Int) := by omega
          have ht32i : ¬ (32 : Int) < (T2.length : Int) := by omega
          generalize hbs : lookT T2 (100 + (k : Int)) = bs at *
          have HBS := Lib.hid hbs
          clear hbs
          go_wp2_with fail
          refine HLK.out.mono ?_
          rintro e v1 ⟨Ab, cb, rfl, _, hb1⟩
          have HV1 := Lib.hid ((HST4.out.below HBC.out (Nat.le_refl _)).below hb1 (Nat.le_refl _))
          have HBV1 : Hid (Below w.heap.size w v1) := Lib.hid ((HB4.out.trans (HBC.out.mono HB4.out.size)).trans (hb1.mono (by have := HB4.out.size; simp; omega)))
          have HC1 : Hid (v1.heap[w4.heap.size]? = _) := Lib.hid (blk_below hb1 (by simp) HCN.out)
          have hzv1 := hb1.size
          simp at hzv1
          clear hb1 HLK
          go_wp2_with fail
          refine (traces_any HV1.out).mono ?_
          rintro e v2 ⟨A6, c6, rfl, _, hb2⟩
          rw [HLT.out]
          have HV2 := Lib.hid (HV1.out.below hb2 (Nat.le_refl _))
          have HBV2 : Hid (Below w.heap.size w v2) := Lib.hid (HBV1.out.trans (hb2.mono HBV1.out.size))
          have HC2 : Hid (v2.heap[w4.heap.size]? = some (.cells #[.int .i64 cn.ad, .int .i64 cn.sa, .int .i64 cn.ot, .int .i64 cn.cy, .int .i64 cn.fu] 39 (0, 0))) := Lib.hid (blk_below hb2 (by omega) HC1.out)
          have hzv2 := hb2.size
          have hzz : w4.heap.size < v2.heap.size := by omega
          have hcc := blk_cell HC2.out
          clear hb2
          by_cases hf0 : 0 < cn.fu
          · have hf1 : (0 : Int) < (cn.fu : Int) := by omega
            by_cases hT : T2.length < 32
            · have hT1 : (T2.length : Int) < 32 := by omega
              have hL1 : ¬ (bs.length : Int) < 64 := by have := HFULL.out hf0; omega
              go_wp2_with fail
              refine (traces_any HV2.out).mono ?_
              rintro e v3 ⟨A7, c7, rfl, _, hb3⟩
              rw [HLT.out]
              have HV3 := Lib.hid (HV2.out.below hb3 (Nat.le_refl _))
              have HBV3 : Hid (Below w.heap.size w v3) := Lib.hid (HBV2.out.trans (hb3.mono HBV2.out.size))
              have hlk3 := lookup_any HV3.out (100 + (k : Int)) (wfI_of (by omega) (by omega))
              rw [HBS.out] at hlk3
              have HLK3 := Lib.hid hlk3
              have hzv3 := hb3.size
              clear hb3 hlk3 hcc
              go_wp2_with fail
              refine HLK3.out.mono ?_
              rintro e v4 ⟨A8, c8, rfl, _, hb4⟩
              have HV4 := Lib.hid (HV3.out.below hb4 (Nat.le_refl _))
              have HBV4 : Hid (Below w.heap.size w v4) := Lib.hid (HBV3.out.trans (hb4.mono HBV3.out.size))
              have hz44 : w4.heap.size ≤ v4.heap.size := by have h1 := hb4.size; omega
              clear hb4
              go_wp2_with fail
              go_roundw
              case rel => exact ⟨k + 1, T2, by omega, by go_num, HV4.out.mono (fun z hz => ⟨hz.1, by have := hz.2; omega⟩) (fun z hz => hz.2), HBV4.out⟩
              case measure => simp [intOf]; omega
            · have hT1 : ¬ (T2.length : Int) < 32 := by omega
              go_wp2_with fail
              refine (traces_any HV2.out).mono ?_
              rintro e v3 ⟨A7, c7, rfl, _, hb3⟩
              rw [HLT.out]
              have HV3 := Lib.hid (HV2.out.below hb3 (Nat.le_refl _))
              have HBV3 : Hid (Below w.heap.size w v3) := Lib.hid (HBV2.out.trans (hb3.mono HBV2.out.size))
              have hzv3 := hb3.size
              clear hb3 hcc
              go_wp2_with fail
              go_roundw
              case rel => exact ⟨k + 1, T2, by omega, by go_num, HV3.out.mono (fun z hz => ⟨hz.1, by have := hz.2; omega⟩) (fun z hz => hz.2), HBV3.out⟩
              case measure => simp [intOf]; omega
          · have hf1 : ¬ (0 : Int) < (cn.fu : Int) := by omega
            go_wp2_with fail
            go_roundw
            case rel => exact ⟨k + 1, T2, by omega, by go_num, HV2.out.mono (fun z hz => ⟨hz.1, by have := hz.2; omega⟩) (fun z hz => hz.2), HBV2.out⟩
            case measure => simp [intOf]; omega
    · have hk1 : ¬ (k : Int) < (R : Int) := by omega
      have himl := imgT_len HST.out.gr
      have HLI := Lib.hid (load_img HST.out.gr)
      have HIM := Lib.hid (image_any HST.out)
      go_wp2_with fail
      refine HIM.out.mono ?_
      rintro e w3 ⟨A3, c3, rfl, hown3, hb3⟩
      have hload := load_any A3 (imgT T).length c3 w3.heap.size (imgT T) w3 (Nat.le_refl _) (by omega) (RdB.of_own hown3)
      rw [HLI.out] at hload
      have HLOAD := Lib.hid hload
      have HB3 : Hid (Below w.heap.size w w3) := Lib.hid (HB.out.trans (hb3.mono HB.out.size))
      clear hown3 hb3 hload HIM
      generalize imgT T = im at *
      go_wp2_with fail
      refine HLOAD.out.mono ?_
      rintro e w4 ⟨hb4, hres⟩
      obtain ⟨b, mb, he, _⟩ : ∃ b mb, e = .returned (.tuple #[.pointer (some ⟨b, 0, none⟩), .int .i64 0]) ∧ St w4 b mb (normT T) (fun k => w3.heap.size ≤ k ∧ k < w4.heap.size) := hres
      subst he
      have HB4 : Hid (Below w.heap.size w w4) := Lib.hid (HB3.out.trans (hb4.mono HB3.out.size))
      clear hb4 HLOAD
      go_wp2_with fail
      refine (awake7_any _).mono ?_
      rintro e w5 ⟨rfl, hb5⟩
      go_wp2_with fail
      go_ret
      exact ⟨rfl, below_via HB4.out hb5 HB4.out.size⟩
end Go.Proofs.Ytdjcifeoplgkpaa
