/-
  The walk of the law StoreParts: the Go text answers true. Conditions: the calls and the spans are not more than memory bears.
-/
import Derived.Test.YtdjcifeoplgkpaaSame07
import Derived.Test.YtdjcifeoplgkpaaConcat
namespace Go.Proofs.Ytdjcifeoplgkpaa
open Go Go.RowKit Go.Maps

theorem cplus_assoc (a b c : Cnt) : (a.plus b).plus c = a.plus (b.plus c) := by simp only [Cnt.plus, Nat.add_assoc]
theorem ingS_plus (T : List Tr) (c : Cnt) (s : Sp) : ingS (T, c) s = ((ingS (T, Cnt.zero) s).1, c.plus (ingS (T, Cnt.zero) s).2) := by
  have hz : ∀ d : Cnt, Cnt.zero.plus d = d := fun d => by simp only [Cnt.plus, Cnt.zero, Nat.zero_add]
  unfold ingS
  dsimp only
  cases h : getT T s.tr with
  | some L => simp only [hz]
  | none =>
    dsimp only
    by_cases h1 : 32 ≤ T.length
    · simp only [if_pos h1, Cnt.plus, Cnt.zero, Nat.add_zero, Nat.zero_add]
    · simp only [if_neg h1, hz]
theorem ingL_plus (l : List Sp) (T : List Tr) (c : Cnt) : ingL (T, c) l = ((ingL (T, Cnt.zero) l).1, c.plus (ingL (T, Cnt.zero) l).2) := by
  induction l generalizing T c with
  | nil => rfl
  | cons s l ih =>
    show ingL (ingS (T, c) s) l = ((ingL (ingS (T, Cnt.zero) s) l).1, c.plus (ingL (ingS (T, Cnt.zero) s) l).2)
    rw [ingS_plus T c s]
    generalize ingS (T, Cnt.zero) s = st
    obtain ⟨T1, c1⟩ := st
    rw [ih T1 (c.plus c1), ih T1 c1, cplus_assoc]
/-- At once, or in parts. -/
theorem ing_parts (T : List Tr) {l m : List Sp} (h1 : l.all Sp.ok = true) (h2 : m.all Sp.ok = true) :
    ∃ T1 c1 T2 c2, ingA T l = (T1, c1, 0) ∧ ingA T1 m = (T2, c2, 0) ∧ ingA T (l ++ m) = (T2, c1.plus c2, 0) ∧ c1.sum = l.length ∧ c2.sum = m.length := by
  refine ⟨_, _, _, _, by rw [ingA, if_pos h1], by rw [ingA, if_pos h2], ?_, ?_, ?_⟩
  · rw [ingA, if_pos (by rw [List.all_append, h1, h2]; rfl), ingL_app]
    have e := ingL_plus m (ingL (T, Cnt.zero) l).1 (ingL (T, Cnt.zero) l).2
    rw [show ingL (T, Cnt.zero) l = ((ingL (T, Cnt.zero) l).1, (ingL (T, Cnt.zero) l).2) from rfl, e]
  · have := ingL_sum (T, Cnt.zero) l
    simpa [Cnt.sum, Cnt.zero] using this
  · have := ingL_sum ((ingL (T, Cnt.zero) l).1, Cnt.zero) m
    simpa [Cnt.sum, Cnt.zero] using this
theorem ing_not (T : List Tr) {l m : List Sp} (h : ¬ (l.all Sp.ok = true ∧ m.all Sp.ok = true)) : ingA T (l ++ m) = (T, Cnt.zero, 30) := by
  rw [ingA, if_neg (by rw [List.all_append, Bool.and_eq_true]; exact h)]
theorem eql_cnt7 {a b c d e a' b' c' d' e' : Int} (h1 : a = a') (h2 : b = b') (h3 : c = c') (h4 : d = d') (h5 : e = e') (W : World) :
    (binOp .eql 39 (.agg #[.int .i64 a, .int .i64 b, .int .i64 c, .int .i64 d, .int .i64 e]) (.agg #[.int .i64 a', .int .i64 b', .int .i64 c', .int .i64 d', .int .i64 e'])).run Try.prog W = .ok (.bool true) W := by
  subst h1 h2 h3 h4 h5
  go_simp

set_option maxRecDepth 100000 in
set_option maxHeartbeats 1000000 in
theorem sum7_any (a b : Cnt) (w : World) (h : a.sum + b.sum ≤ 2000000) :
    Calls Try.prog 25 #[a.val, b.val] w fun e w' => e = .returned (a.plus b).val ∧ Below w.heap.size w w' := by
  simp only [Cnt.sum] at h
  have e1 : a.ad + b.ad ≤ 2000000 := by omega
  have e2 : a.sa + b.sa ≤ 2000000 := by omega
  have e3 : a.ot + b.ot ≤ 2000000 := by omega
  have e4 : a.cy + b.cy ≤ 2000000 := by omega
  have e5 : a.fu + b.fu ≤ 2000000 := by omega
  have h1 := wrap_sum _ _ _ e1 (by decide)
  have h2 := wrap_sum _ _ _ e2 (by decide)
  have h3 := wrap_sum _ _ _ e3 (by decide)
  have h4 := wrap_sum _ _ _ e4 (by decide)
  have h5 := wrap_sum _ _ _ e5 (by decide)
  clear h e1 e2 e3 e4 e5
  go_enter Try.func25, Try.ntmps25
  go_wp2_with fail
  refine bodyPost_ret (v := (a.plus b).val) (by simp [results, Try.results25, go_sem, Cnt.plus]) rfl ?_
  refine ⟨rfl, ?_⟩
  repeat (first | exact (((Below.refl _ _).alloc (Nat.le_refl _) _).alloc (by simp) _).alloc (by simp <;> omega) _ | refine Below.setCell ?_ (by first | exact Nat.le_refl _ | (simp <;> omega)) _)
set_option maxRecDepth 100000 in
set_option maxHeartbeats 4000000 in
theorem storeParts_any (A : Option Addr) (n cap B : Nat) (ds : List DoV) (A1 : Option Addr) (n1 cap1 : Nat) (l : List Sp) (A2 : Option Addr) (n2 cap2 : Nat) (m : List Sp) (w : World) (hB : B ≤ w.heap.size) (hbig : n ≤ 140737488355328) (hnb : ∀ d ∈ ds, d.n ≤ 140737488355328) (hr : RdDo w B A n ds)
    (hbig1 : n1 ≤ 140737488355328) (hr1 : RdS w B A1 n1 l) (hbig2 : n2 ≤ 140737488355328) (hr2 : RdS w B A2 n2 m) :
    Calls Try.prog 6 #[.slice A n cap, .slice A1 n1 cap1, .slice A2 n2 cap2] w fun e w' => e = .returned (.bool true) ∧ Below w.heap.size w w' := by
  have hlen := hr.len
  subst hlen
  have hlen := hr1.len
  subst hlen
  have hlen := hr2.len
  subst hlen
  have HR := Lib.hid hr
  have HR1 := Lib.hid hr1
  have HR2 := Lib.hid hr2
  have HNB := Lib.hid hnb
  clear hr hr1 hr2 hnb
  go_enter Try.func6, Try.ntmps6
  go_wp2_with fail
  refine (short_any A _ cap B ds w hB hbig HNB.out HR.out).mono ?_
  rintro e w0 ⟨q, rfl, hq, hb0⟩
  have HB0 := Lib.hid hb0
  have hz0 := hb0.size
  cases q
  · clear hb0 hq
    go_wp2_with fail
    refine (awake7_any _).mono ?_
    rintro e w2 ⟨rfl, hb2⟩
    go_wp2_with fail
    go_ret
    exact ⟨rfl, below_via HB0.out hb2 HB0.out.size⟩
  have HS := Lib.hid (hq rfl)
  have HR10 : Hid (RdS w0 B A1 l.length l) := Lib.hid (Rd.below' HR1.out hb0 hB (Nat.le_refl _))
  have HR20 : Hid (RdS w0 B A2 m.length m) := Lib.hid (Rd.below' HR2.out hb0 hB (Nat.le_refl _))
  clear hb0 hq
  cases hl : lightB l
  · have HL := Lib.hid hl
    clear hl
    go_wp2_with fail
    refine (light_any _ _ _ _ l _ (by omega) HR10.out).mono ?_
    rintro e w1 ⟨rfl, rfl⟩
    rw [HL.out]
    go_wp2_with fail
    refine (awake7_any _).mono ?_
    rintro e w2 ⟨rfl, hb2⟩
    go_wp2_with fail
    go_ret
    exact ⟨rfl, below_via HB0.out hb2 HB0.out.size⟩
  have HL := Lib.hid hl
  have hlp := light_parts hl
  have hl400 := hlp.1
  have HNM : Hid (∀ s ∈ l, s.nm.size ≤ 140737488355328) := Lib.hid fun s hs => by have := hlp.2 s hs; omega
  clear hl hlp
  go_wp2_with fail
  refine (light_any _ _ _ _ l _ (by omega) HR10.out).mono ?_
  rintro e w1 ⟨rfl, rfl⟩
  rw [HL.out]
  cases hm : lightB m
  · have HM := Lib.hid hm
    clear hm
    go_wp2_with fail
    refine (light_any _ _ _ _ m _ (by omega) HR20.out).mono ?_
    rintro e w1 ⟨rfl, rfl⟩
    rw [HM.out]
    go_wp2_with fail
    refine (awake7_any _).mono ?_
    rintro e w2 ⟨rfl, hb2⟩
    go_wp2_with fail
    go_ret
    exact ⟨rfl, below_via HB0.out hb2 HB0.out.size⟩
  have HM := Lib.hid hm
  have hmp := light_parts hm
  have hm400 := hmp.1
  have HNM2 : Hid (∀ s ∈ m, s.nm.size ≤ 140737488355328) := Lib.hid fun s hs => by have := hmp.2 s hs; omega
  clear hm hmp
  go_wp2_with fail
  refine (light_any _ _ _ _ m _ (by omega) HR20.out).mono ?_
  rintro e w1 ⟨rfl, rfl⟩
  rw [HM.out]
  go_wp2_with fail
  refine (play_any A _ cap B ds w0 (by omega) HS.out (HR.out.below HB0.out hB)).mono ?_
  rintro e w1 ⟨s, ms, rfl, hst1, hb1⟩
  have hz1 := hb1.size
  have HST1 := Lib.hid hst1
  have HB1 : Hid (Below w.heap.size w w1) := Lib.hid (HB0.out.trans (hb1.mono hz0))
  clear hst1 hb1
  go_wp2_with fail
  refine (play_any A _ cap B ds w1 (by omega) HS.out (HR.out.below HB1.out hB)).mono ?_
  rintro e w2 ⟨t, mt, rfl, hst2, hb2⟩
  have hz2 := hb2.size
  have HT2 := Lib.hid hst2
  have HS2 := Lib.hid (HST1.out.below hb2 (Nat.le_refl _))
  have HB2 : Hid (Below w.heap.size w w2) := Lib.hid (HB1.out.trans (hb2.mono HB1.out.size))
  clear hst2 hb2
  generalize playD ds = T at *
  go_wp2_with fail
  have hpt : RdPS (w2.alloc (.cells #[.slice A1 l.length cap1, .slice A2 m.length cap2] 31)) (w2.heap.size + 1) (some ⟨w2.heap.size, 0, none⟩) 2 [⟨A1, l.length, cap1, l⟩, ⟨A2, m.length, cap2, m⟩] := by
    refine ⟨Rd.new rfl rfl (fun j hj => by match j, hj with | 0, _ => rfl | 1, _ => rfl), fun q hq => ?_⟩
    have hbb := HB2.out.alloc HB2.out.size (.cells #[.slice A1 l.length cap1, .slice A2 m.length cap2] 31)
    simp only [List.mem_cons, List.not_mem_nil, or_false] at hq
    rcases hq with rfl | rfl
    · exact Rd.below' HR1.out hbb hB (by omega)
    · exact Rd.below' HR2.out hbb hB (by omega)
  refine (concat_any _ 2 2 _ _ _ (by simp) (by omega) (by simp [totPS] <;> omega) hpt).mono ?_
  have hjn : joinS [⟨A1, l.length, cap1, l⟩, ⟨A2, m.length, cap2, m⟩] = l ++ m := by simp [joinS]
  rw [hjn]
  rintro e w3 ⟨A3, c3, rfl, hown3, hb3⟩
  have hz3 := hb3.size
  simp at hz3
  have HO3 := Lib.hid hown3
  have HS3 := Lib.hid ((HS2.out.below ((Below.refl _ _).alloc (Nat.le_refl _) _) (Nat.le_refl _)).below hb3 (Nat.le_refl _))
  have HT3 := Lib.hid ((HT2.out.below ((Below.refl _ _).alloc (Nat.le_refl _) _) (Nat.le_refl _)).below hb3 (Nat.le_refl _))
  have HB3 : Hid (Below w.heap.size w w3) := Lib.hid ((HB2.out.alloc HB2.out.size _).trans (hb3.mono (by have := HB2.out.size; simp <;> omega)))
  clear hown3 hb3 hpt hjn
  have hlm : (l ++ m).length ≤ 1000 := by simp; omega
  have HNM3 : Hid (∀ s ∈ l ++ m, s.nm.size ≤ 140737488355328) := Lib.hid (fun s hs => (List.mem_append.1 hs).elim (HNM.out s) (HNM2.out s))
  have hadd := ingest_any HS3.out A3 (l ++ m).length c3 w3.heap.size (l ++ m) (Nat.le_refl _) (by omega) HNM3.out (Rd.of_own HO3.out) (fun _ k hk hs => by
    have h1 := (HO3.out.lt k (by rw [← hk]; cases A3 <;> rfl)).1
    have h2 : w0.heap.size ≤ k ∧ k < w1.heap.size := hs
    simp at h1
    omega)
  have HADD := Lib.hid hadd
  clear hadd
  by_cases hall : l.all Sp.ok = true ∧ m.all Sp.ok = true
  · obtain ⟨T1, k1, T2, k2, e1, e2, e3, hs1, hs2⟩ := ing_parts T hall.1 hall.2
    rw [e3] at HADD
    have HE1 := Lib.hid e1
    have HE2 := Lib.hid e2
    have HSUM : Hid (k1.sum + k2.sum ≤ 2000000) := Lib.hid (by omega)
    clear e1 e2 e3 hall hs1 hs2
    generalize (l ++ m).length = N at *
    go_wp2_with fail
    refine HADD.out.mono ?_
    rintro e w4 ⟨rfl, hf4, hfr4⟩
    dsimp only at hf4 ⊢
    have hz4 := hfr4.size
    have HS4 := Lib.hid hf4
    have HT4 := Lib.hid (HT3.out.fr hfr4 (fun k hk hs => by
      have h1 : w1.heap.size ≤ k ∧ k < w2.heap.size := hk
      have h2 : w0.heap.size ≤ k ∧ k < w1.heap.size := hs
      omega))
    have HB4 : Hid (Below w.heap.size w w4) := Lib.hid (HB3.out.trans (hfr4.below HB3.out.size (fun k hk => by
      have h2 : w0.heap.size ≤ k ∧ k < w1.heap.size := hk
      omega)))
    clear hf4 hfr4
    go_wp2_with fail
    have hb5 : Below w4.heap.size w4 (w4.alloc (.cells #[.int .i64 (k1.plus k2).ad, .int .i64 (k1.plus k2).sa, .int .i64 (k1.plus k2).ot, .int .i64 (k1.plus k2).cy, .int .i64 (k1.plus k2).fu] 39)) := (Below.refl _ _).alloc (Nat.le_refl _) _
    have hrl : RdS (w4.alloc (.cells #[.int .i64 (k1.plus k2).ad, .int .i64 (k1.plus k2).sa, .int .i64 (k1.plus k2).ot, .int .i64 (k1.plus k2).cy, .int .i64 (k1.plus k2).fu] 39)) B A1 l.length l := Rd.below' HR1.out (HB4.out.trans (hb5.mono HB4.out.size)) hB (Nat.le_refl _)
    refine (ingest_any (HT4.out.below hb5 (Nat.le_refl _)) A1 l.length cap1 B l (by have := HB4.out.size; simp <;> omega) (by omega) HNM.out hrl (fun hn k hk hs => by
      have h1 := rd_block HR1.out hn k hk
      have h2 : w1.heap.size ≤ k ∧ k < w2.heap.size := hs
      omega)).mono ?_
    rw [HE1.out]
    rintro e w6 ⟨rfl, hg6, hfr6⟩
    dsimp only at hg6 ⊢
    have hz6 := hfr6.size
    simp at hz6
    have HT6 : Hid (St w6 t mt T1 (fun k => (w1.heap.size ≤ k ∧ k < w2.heap.size) ∨ (w4.heap.size + 1 ≤ k ∧ k < w6.heap.size))) := Lib.hid (by simpa using hg6)
    have HS6 : Hid (St w6 s ms T2 (fun k => (w0.heap.size ≤ k ∧ k < w1.heap.size) ∨ (w3.heap.size ≤ k ∧ k < w4.heap.size))) := Lib.hid ((HS4.out.below hb5 (Nat.le_refl _)).fr hfr6 (fun k hk hs => by
      have h1 : (w0.heap.size ≤ k ∧ k < w1.heap.size) ∨ (w3.heap.size ≤ k ∧ k < w4.heap.size) := hk
      have h2 : w1.heap.size ≤ k ∧ k < w2.heap.size := hs
      omega))
    have HB6 : Hid (Below w.heap.size w w6) := Lib.hid (HB4.out.trans ((hb5.mono HB4.out.size).trans (hfr6.below (by have := HB4.out.size; simp <;> omega) (fun k hk => by
      have h2 : w1.heap.size ≤ k ∧ k < w2.heap.size := hk
      omega))))
    have HC6 : Hid (w6.heap[w4.heap.size]? = some (.cells #[.int .i64 (k1.plus k2).ad, .int .i64 (k1.plus k2).sa, .int .i64 (k1.plus k2).ot, .int .i64 (k1.plus k2).cy, .int .i64 (k1.plus k2).fu] 39 (0, 0))) := Lib.hid ((hfr6.block _ (by simp) (fun hs => by
      have h2 : w1.heap.size ≤ w4.heap.size ∧ w4.heap.size < w2.heap.size := hs
      omega)).trans (heap_alloc_new w4 _))
    clear hg6 hfr6 hrl hb5
    go_wp2_with fail
    have hb7 : Below w6.heap.size w6 (w6.alloc (.cells #[.int .i64 k1.ad, .int .i64 k1.sa, .int .i64 k1.ot, .int .i64 k1.cy, .int .i64 k1.fu] 39)) := (Below.refl _ _).alloc (Nat.le_refl _) _
    have hrm : RdS (w6.alloc (.cells #[.int .i64 k1.ad, .int .i64 k1.sa, .int .i64 k1.ot, .int .i64 k1.cy, .int .i64 k1.fu] 39)) B A2 m.length m := Rd.below' HR2.out (HB6.out.trans (hb7.mono HB6.out.size)) hB (Nat.le_refl _)
    refine (ingest_any (HT6.out.below hb7 (Nat.le_refl _)) A2 m.length cap2 B m (by have := HB6.out.size; simp <;> omega) (by omega) HNM2.out hrm (fun hn k hk hs => by
      have h1 := rd_block HR2.out hn k hk
      have h2 : (w1.heap.size ≤ k ∧ k < w2.heap.size) ∨ (w4.heap.size + 1 ≤ k ∧ k < w6.heap.size) := hs
      omega)).mono ?_
    rw [HE2.out]
    rintro e w8 ⟨rfl, hg8, hfr8⟩
    dsimp only at hg8 ⊢
    have hz8 := hfr8.size
    simp at hz8
    have HT8 := Lib.hid hg8
    have HS8 := Lib.hid ((HS6.out.below hb7 (Nat.le_refl _)).fr hfr8 (fun k hk hs => by
      have h1 : (w0.heap.size ≤ k ∧ k < w1.heap.size) ∨ (w3.heap.size ≤ k ∧ k < w4.heap.size) := hk
      have h2 : (w1.heap.size ≤ k ∧ k < w2.heap.size) ∨ (w4.heap.size + 1 ≤ k ∧ k < w6.heap.size) := hs
      omega))
    have HB8 : Hid (Below w.heap.size w w8) := Lib.hid (HB6.out.trans ((hb7.mono HB6.out.size).trans (hfr8.below (by have := HB6.out.size; simp <;> omega) (fun k hk => by
      have h2 : (w1.heap.size ≤ k ∧ k < w2.heap.size) ∨ (w4.heap.size + 1 ≤ k ∧ k < w6.heap.size) := hk
      omega))))
    have HC8 : Hid (w8.heap[w4.heap.size]? = some (.cells #[.int .i64 (k1.plus k2).ad, .int .i64 (k1.plus k2).sa, .int .i64 (k1.plus k2).ot, .int .i64 (k1.plus k2).cy, .int .i64 (k1.plus k2).fu] 39 (0, 0))) := Lib.hid ((hfr8.block _ (by simp <;> omega) (fun hs => by
      have h2 : (w1.heap.size ≤ w4.heap.size ∧ w4.heap.size < w2.heap.size) ∨ (w4.heap.size + 1 ≤ w4.heap.size ∧ w4.heap.size < w6.heap.size) := hs
      omega)).trans ((Below.heap_alloc _ _ _ (by omega)).trans HC6.out))
    have HD8 : Hid (w8.heap[w6.heap.size]? = some (.cells #[.int .i64 k1.ad, .int .i64 k1.sa, .int .i64 k1.ot, .int .i64 k1.cy, .int .i64 k1.fu] 39 (0, 0))) := Lib.hid ((hfr8.block _ (by simp) (fun hs => by
      have h2 : (w1.heap.size ≤ w6.heap.size ∧ w6.heap.size < w2.heap.size) ∨ (w4.heap.size + 1 ≤ w6.heap.size ∧ w6.heap.size < w6.heap.size) := hs
      omega)).trans (heap_alloc_new w6 _))
    clear hg8 hfr8 hrm hb7
    have hb9 : Below w8.heap.size w8 (w8.alloc (.cells #[.int .i64 k2.ad, .int .i64 k2.sa, .int .i64 k2.ot, .int .i64 k2.cy, .int .i64 k2.fu] 39)) := (Below.refl _ _).alloc (Nat.le_refl _) _
    have HC : Hid (∀ W, Below (w8.heap.size + 1) (w8.alloc (.cells #[.int .i64 k2.ad, .int .i64 k2.sa, .int .i64 k2.ot, .int .i64 k2.cy, .int .i64 k2.fu] 39)) W → (∀ j, W.cell? ⟨w4.heap.size, j, none⟩ = (#[.int .i64 (k1.plus k2).ad, .int .i64 (k1.plus k2).sa, .int .i64 (k1.plus k2).ot, .int .i64 (k1.plus k2).cy, .int .i64 (k1.plus k2).fu] : Array Value)[j]?) ∧ (∀ j, W.cell? ⟨w6.heap.size, j, none⟩ = (#[.int .i64 k1.ad, .int .i64 k1.sa, .int .i64 k1.ot, .int .i64 k1.cy, .int .i64 k1.fu] : Array Value)[j]?) ∧ (∀ j, W.cell? ⟨w8.heap.size, j, none⟩ = (#[.int .i64 k2.ad, .int .i64 k2.sa, .int .i64 k2.ot, .int .i64 k2.cy, .int .i64 k2.fu] : Array Value)[j]?)) := Lib.hid (fun W hW =>
      ⟨blk_cell (blk_below hW (by omega) ((Below.heap_alloc _ _ _ (by omega)).trans HC8.out)), blk_cell (blk_below hW (by omega) ((Below.heap_alloc _ _ _ (by omega)).trans HD8.out)), blk_cell (blk_below hW (by omega) (heap_alloc_new w8 _))⟩)
    have HS9 := Lib.hid (HS8.out.below hb9 (Nat.le_refl _))
    have HT9 := Lib.hid (HT8.out.below hb9 (Nat.le_refl _))
    have HB9 : Hid (Below w.heap.size w (w8.alloc (.cells #[.int .i64 k2.ad, .int .i64 k2.sa, .int .i64 k2.ot, .int .i64 k2.cy, .int .i64 k2.fu] 39))) := Lib.hid (HB8.out.trans (hb9.mono HB8.out.size))
    have hw8 := HB8.out.size
    clear hb9
    go_wp2_with fail
    have HI0 : Hid (Below (w8.heap.size + 1) (w8.alloc (.cells #[.int .i64 k2.ad, .int .i64 k2.sa, .int .i64 k2.ot, .int .i64 k2.cy, .int .i64 k2.fu] 39)) ((w8.alloc (.cells #[.int .i64 k2.ad, .int .i64 k2.sa, .int .i64 k2.ot, .int .i64 k2.cy, .int .i64 k2.fu] 39)).drew)) := Lib.hid (by
      have h0 := below_drew' (w8.alloc (.cells #[.int .i64 k2.ad, .int .i64 k2.sa, .int .i64 k2.ot, .int .i64 k2.cy, .int .i64 k2.fu] 39)) 1
      rw [World.size_alloc] at h0
      exact h0)
    refine wp_region_sched [(0, true), (1, true), (2, true), (3, true), (4, true), (5, true), (6, true), (7, true), (8, true), (9, true), (10, false), (11, true), (12, true), (13, true), (14, true), (15, true), (16, false), (17, true), (18, true), (19, false), (20, true), (21, true)] (fun W => Below (w8.heap.size + 1) (w8.alloc (.cells #[.int .i64 k2.ad, .int .i64 k2.sa, .int .i64 k2.ot, .int .i64 k2.cy, .int .i64 k2.fu] 39)) W) (by kernel_rfl) (by kernel_rfl) rfl (by kernel_rfl) HI0.out ?_
    repeat (first | (apply sched_take rfl; (focus (first | rfl | (go_simp; done))); (focus (intro W hW; obtain ⟨f1, f2, f3⟩ := HC.out W hW; go_simp; rfl)); (focus (intro K hK; go_simp; refine hK _ ?_; clear hK K))) | (apply sched_skip rfl; (focus (first | rfl | (go_simp; done))); (focus (intro K hK; go_simp; refine hK _ ?_; clear hK K))))
    apply sched_op rfl
    intro K hK
    go_simp
    go_wp2_with (fail)
    refine (sum7_any k1 k2 _ HSUM.out).mono ?_
    rintro e v1 ⟨rfl, hq1⟩
    have hk1 : Below (w8.heap.size + 1) (w8.alloc (.cells #[.int .i64 k2.ad, .int .i64 k2.sa, .int .i64 k2.ot, .int .i64 k2.cy, .int .i64 k2.fu] 39)) v1 := HI0.out.trans (hq1.mono (by simp [World.drew]))
    have HSV1 := HS9.out.below hk1 (by simp)
    have HTV1 := HT9.out.below hk1 (by simp)
    clear hq1
    go_wp2_with fail
    refine ⟨by exact hk1, ?_⟩
    repeat (first | (apply sched_take rfl; (focus (first | rfl | (go_simp; done))); (focus (intro W hW; obtain ⟨f1, f2, f3⟩ := HC.out W hW; go_simp; rfl)); (focus (intro K hK; go_simp; refine hK _ ?_; clear hK K))) | (apply sched_skip rfl; (focus (first | rfl | (go_simp; done))); (focus (intro K hK; go_simp; refine hK _ ?_; clear hK K))))
    apply sched_op rfl
    intro K hK
    go_simp
    go_wp2_with (fail)
    refine (same_any HSV1 HTV1).mono ?_
    rintro e v2 ⟨rfl, hq2⟩
    have hk2 : Below (w8.heap.size + 1) (w8.alloc (.cells #[.int .i64 k2.ad, .int .i64 k2.sa, .int .i64 k2.ot, .int .i64 k2.cy, .int .i64 k2.fu] 39)) v2 := hk1.trans (hq2.mono (by have := hk1.size; simp at this; omega))
    clear hq2
    go_wp2_with fail
    refine ⟨by exact hk2, ?_⟩
    repeat (first | (apply sched_take rfl; (focus (first | rfl | (go_simp; done))); (focus (intro W hW; obtain ⟨f1, f2, f3⟩ := HC.out W hW; go_simp; rfl)); (focus (intro K hK; go_simp; refine hK _ ?_; clear hK K))) | (apply sched_skip rfl; (focus (first | rfl | (go_simp; done))); (focus (intro K hK; go_simp; refine hK _ ?_; clear hK K))))
    apply sched_op rfl
    intro K hK
    go_simp
    go_wp2_with (fail)
    refine (awake7_any v2).mono ?_
    rintro e v3 ⟨rfl, hq3⟩
    have hk3 : Below (w8.heap.size + 1) (w8.alloc (.cells #[.int .i64 k2.ad, .int .i64 k2.sa, .int .i64 k2.ot, .int .i64 k2.cy, .int .i64 k2.fu] 39)) v3 := hk2.trans (hq3.mono (by have := hk2.size; simp at this; omega))
    clear hq3
    go_wp2_with fail
    refine ⟨by exact hk3, ?_⟩
    repeat (first | (apply sched_take rfl; (focus (first | rfl | (go_simp; done))); (focus (intro W hW; obtain ⟨f1, f2, f3⟩ := HC.out W hW; go_simp; rfl)); (focus (intro K hK; go_simp; refine hK _ ?_; clear hK K))) | (apply sched_skip rfl; (focus (first | rfl | (go_simp; done))); (focus (intro K hK; go_simp; refine hK _ ?_; clear hK K))))
    refine sched_nil ?_
    go_wp2_with fail
    go_ret
    exact ⟨rfl, HB9.out.trans (hk3.mono (by omega))⟩
  · have HNA := Lib.hid (ing_not T hall)
    rw [HNA.out] at HADD
    clear hall HNA
    generalize (l ++ m).length = N at *
    go_wp2_with fail
    refine HADD.out.mono ?_
    rintro e w4 ⟨rfl, hf4, hfr4⟩
    dsimp only at hf4 ⊢
    have hz4 := hfr4.size
    have HS4 := Lib.hid (hf4.below ((Below.refl _ _).alloc (Nat.le_refl _) (.cells #[.int .i64 0, .int .i64 0, .int .i64 0, .int .i64 0, .int .i64 0] 39)) (Nat.le_refl _))
    have HT4 := Lib.hid ((HT3.out.fr hfr4 (fun k hk hs => by
      have h1 : w1.heap.size ≤ k ∧ k < w2.heap.size := hk
      have h2 : w0.heap.size ≤ k ∧ k < w1.heap.size := hs
      omega)).below ((Below.refl _ _).alloc (Nat.le_refl _) (.cells #[.int .i64 0, .int .i64 0, .int .i64 0, .int .i64 0, .int .i64 0] 39)) (Nat.le_refl _))
    have HB4 : Hid (Below w.heap.size w (w4.alloc (.cells #[.int .i64 0, .int .i64 0, .int .i64 0, .int .i64 0, .int .i64 0] 39))) := Lib.hid ((HB3.out.trans (hfr4.below HB3.out.size (fun k hk => by
      have h2 : w0.heap.size ≤ k ∧ k < w1.heap.size := hk
      omega))).alloc (by have := HB3.out.size; omega) _)
    have HCZ := Lib.hid (heap_alloc_new w4 (.cells #[.int .i64 0, .int .i64 0, .int .i64 0, .int .i64 0, .int .i64 0] 39))
    clear hf4 hfr4
    go_wp2_with fail
    refine (same_any HS4.out HT4.out).mono ?_
    rintro e w5 ⟨rfl, hb5⟩
    have hz5 := hb5.size
    simp at hz5
    have hcc := blk_cell (blk_below hb5 (by simp) HCZ.out)
    have hzz : w4.heap.size < w5.heap.size := by omega
    have HB5 : Hid (Below w.heap.size w w5) := Lib.hid (HB4.out.trans (hb5.mono HB4.out.size))
    clear hb5
    go_wp2_with fail
    refine (awake7_any _).mono ?_
    rintro e w6 ⟨rfl, hb6⟩
    go_wp2_with fail
    go_ret
    exact ⟨rfl, below_via HB5.out hb6 HB5.out.size⟩
end Go.Proofs.Ytdjcifeoplgkpaa
