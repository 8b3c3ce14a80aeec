/-
  The walk of the law ForestParts: the Go text answers true. Condition: the spans are not more than memory bears.
-/
import Derived.Test.YtnocknhfdegkgaaAwake04
import Derived.Test.YtnocknhfdegkgaaEqB04
import Derived.Test.YtnocknhfdegkgaaConcat
import Derived.Test.YtnocknhfdegkgaaForestO
namespace Go.Proofs.Ytnocknhfdegkgaa
open Go Go.RowKit Go.Maps

def Cnt.plus (a b : Cnt) : Cnt := ⟨a.ad + b.ad, a.sa + b.sa, a.ot + b.ot, a.cy + b.cy, a.fu + b.fu⟩
theorem addS_plus (L : List Sp) (c : Cnt) (s : Sp) : addS (L, c) s = ((addS (L, Cnt.zero) s).1, c.plus (addS (L, Cnt.zero) s).2) := by
  unfold addS
  cases h : atS L s.id with
  | some o =>
    simp only []
    by_cases h1 : o = s
    · simp only [if_pos h1, Cnt.plus, Cnt.zero, Nat.add_zero, Nat.zero_add]
    · simp only [if_neg h1, Cnt.plus, Cnt.zero, Nat.add_zero, Nat.zero_add]
  | none =>
    simp only []
    by_cases h1 : 64 ≤ L.length
    · simp only [if_pos h1, Cnt.plus, Cnt.zero, Nat.add_zero, Nat.zero_add]
    · simp only [if_neg h1]
      cases aboveB L s.pa s.id <;> simp only [Bool.false_eq_true, if_false, if_true, Cnt.plus, Cnt.zero, Nat.add_zero, Nat.zero_add]
theorem plus_assoc (a b c : Cnt) : (a.plus b).plus c = a.plus (b.plus c) := by simp only [Cnt.plus, Nat.add_assoc]
theorem plus_zero (a : Cnt) : a.plus Cnt.zero = a := rfl
theorem addL_plus (l : List Sp) (L : List Sp) (c : Cnt) : addL (L, c) l = ((addL (L, Cnt.zero) l).1, c.plus (addL (L, Cnt.zero) l).2) := by
  induction l generalizing L c with
  | nil => rfl
  | cons s l ih =>
    show addL (addS (L, c) s) l = ((addL (addS (L, Cnt.zero) s) l).1, c.plus (addL (addS (L, Cnt.zero) s) l).2)
    rw [addS_plus L c s]
    generalize addS (L, Cnt.zero) s = st
    obtain ⟨L1, c1⟩ := st
    rw [ih L1 (c.plus c1), ih L1 c1, plus_assoc]
/-- At once, or in parts. -/
theorem add_parts {l m : List Sp} (h1 : l.all (fits 1) = true) (h2 : m.all (fits 1) = true) :
    ∃ L1 c1 L2 c2, addA 1 [] l = (L1, c1, 0) ∧ addA 1 L1 m = (L2, c2, 0) ∧ addA 1 [] (l ++ m) = (L2, c1.plus c2, 0) ∧ c1.sum = l.length ∧ c2.sum = m.length := by
  refine ⟨_, _, _, _, by rw [addA, if_pos h1], by rw [addA, if_pos h2], ?_, ?_, ?_⟩
  · rw [addA, if_pos (by rw [List.all_append, h1, h2]; rfl), addL_app, addL_plus m]
  · have := addL_sum ([], Cnt.zero) l
    simpa [Cnt.sum, Cnt.zero] using this
  · have := addL_sum ((addL ([], Cnt.zero) l).1, Cnt.zero) m
    simpa [Cnt.sum, Cnt.zero] using this
theorem eql_cnt {a b c d e a' b' c' d' e' : Int} (h1 : a = a') (h2 : b = b') (h3 : c = c') (h4 : d = d') (h5 : e = e') (W : World) :
    (binOp .eql 33 (.agg #[.int .i64 a, .int .i64 b, .int .i64 c, .int .i64 d, .int .i64 e]) (.agg #[.int .i64 a', .int .i64 b', .int .i64 c', .int .i64 d', .int .i64 e'])).run Try.prog W = .ok (.bool true) W := by
  subst h1 h2 h3 h4 h5
  go_simp

set_option maxRecDepth 100000 in
set_option maxHeartbeats 4000000 in
theorem forestParts_any (A : Option Addr) (n cap B : Nat) (l : List Sp) (A2 : Option Addr) (n2 cap2 : Nat) (m : List Sp) (w : World) (hB : B ≤ w.heap.size) (hbig : n ≤ 140737488355328) (hbig2 : n2 ≤ 140737488355328) (hr : RdS w B A n l) (hr2 : RdS w B A2 n2 m) :
    Calls Try.prog 10 #[.slice A n cap, .slice A2 n2 cap2] w fun e w' => e = .returned (.bool true) ∧ Below w.heap.size w w' := by
  have hlen := hr.len
  subst hlen
  have hlen := hr2.len
  subst hlen
  have HR := Lib.hid hr
  have HR2 := Lib.hid hr2
  clear hr hr2
  cases hl : lightB l
  · have HL := Lib.hid hl
    clear hl
    go_enter Try.func10, Try.ntmps10
    go_wp2_with fail
    refine (light_any _ _ _ _ l _ (by omega) HR.out).mono ?_
    rintro e w1 ⟨rfl, rfl⟩
    rw [HL.out]
    go_wp2_with fail
    refine (awake4_any _).mono ?_
    rintro e w2 ⟨rfl, hb2⟩
    go_wp2_with fail
    go_ret
    exact ⟨rfl, hb2⟩
  · have HL := Lib.hid hl
    have hlp := light_parts hl
    have hl200 := hlp.1
    have HNM : Hid (∀ s ∈ l, s.nm.size ≤ 140737488355328) := Lib.hid fun s hs => by have := hlp.2 s hs; omega
    clear hl hlp
    cases hm : lightB m
    · have HM := Lib.hid hm
      clear hm
      go_enter Try.func10, Try.ntmps10
      go_wp2_with fail
      refine (light_any _ _ _ _ l _ (by omega) HR.out).mono ?_
      rintro e w1 ⟨rfl, rfl⟩
      rw [HL.out]
      go_wp2_with fail
      refine (light_any _ _ _ _ m _ (by omega) HR2.out).mono ?_
      rintro e w1 ⟨rfl, rfl⟩
      rw [HM.out]
      go_wp2_with fail
      refine (awake4_any _).mono ?_
      rintro e w2 ⟨rfl, hb2⟩
      go_wp2_with fail
      go_ret
      exact ⟨rfl, hb2⟩
    · have HM := Lib.hid hm
      have hmp := light_parts hm
      have hm200 := hmp.1
      have HNM2 : Hid (∀ s ∈ m, s.nm.size ≤ 140737488355328) := Lib.hid fun s hs => by have := hmp.2 s hs; omega
      clear hm hmp
      go_enter Try.func10, Try.ntmps10
      go_wp2_with fail
      refine (light_any _ _ _ _ l _ (by omega) HR.out).mono ?_
      rintro e w1 ⟨rfl, rfl⟩
      rw [HL.out]
      go_wp2_with fail
      refine (light_any _ _ _ _ m _ (by omega) HR2.out).mono ?_
      rintro e w1 ⟨rfl, rfl⟩
      rw [HM.out]
      go_wp2_with fail
      refine (new_any 1 w ⟨by omega, by omega⟩).mono ?_
      rintro e w1 ⟨p, a, d, rfl, hf1, hb1⟩
      have HF1 := Lib.hid hf1
      have HB1 := Lib.hid hb1
      have hz1 := hb1.size
      clear hf1 hb1
      go_wp2_with fail
      refine (new_any 1 w1 ⟨by omega, by omega⟩).mono ?_
      rintro e w2 ⟨p2, a2, d2, rfl, hg1, hb2⟩
      have HG1 := Lib.hid hg1
      have HF2 := Lib.hid (HF1.out.below hb2 (Nat.le_refl _))
      have HB2 : Hid (Below w.heap.size w w2) := Lib.hid (HB1.out.trans (hb2.mono hz1))
      have hz2 := hb2.size
      clear hg1 hb2
      go_wp2_with fail
      have hpt : RdPS (w2.alloc (.cells #[.slice A l.length cap, .slice A2 m.length cap2] 22)) (w2.heap.size + 1) (some ⟨w2.heap.size, 0, none⟩) 2 [⟨A, l.length, cap, l⟩, ⟨A2, m.length, cap2, m⟩] := by
        refine ⟨Rd.new rfl rfl (fun j hj => by match j, hj with | 0, _ => rfl | 1, _ => rfl), fun q hq => ?_⟩
        have hbb := HB2.out.alloc HB2.out.size (.cells #[.slice A l.length cap, .slice A2 m.length cap2] 22)
        simp only [List.mem_cons, List.not_mem_nil, or_false] at hq
        rcases hq with rfl | rfl
        · exact Rd.below' HR.out hbb hB (by omega)
        · exact Rd.below' HR2.out hbb hB (by omega)
      refine (concat_any _ 2 2 _ _ _ (by simp) (by omega) (by simp [totPS] <;> omega) hpt).mono ?_
      have hjn : joinS [⟨A, l.length, cap, l⟩, ⟨A2, m.length, cap2, m⟩] = l ++ m := by simp [joinS]
      rw [hjn]
      rintro e w3 ⟨A3, c3, rfl, hown3, hb3⟩
      have hz3 := hb3.size
      simp at hz3
      have HO3 := Lib.hid hown3
      have HF3 := Lib.hid ((HF2.out.below ((Below.refl _ _).alloc (Nat.le_refl _) _) (Nat.le_refl _)).below hb3 (Nat.le_refl _))
      have HG3 := Lib.hid ((HG1.out.below ((Below.refl _ _).alloc (Nat.le_refl _) _) (Nat.le_refl _)).below hb3 (Nat.le_refl _))
      have HB3 : Hid (Below w.heap.size w w3) := Lib.hid ((HB2.out.alloc HB2.out.size _).trans (hb3.mono (by have := HB2.out.size; simp <;> omega)))
      clear hown3 hb3 hpt hjn
      have hlm : (l ++ m).length ≤ 400 := by simp; omega
      have HNM3 : Hid (∀ s ∈ l ++ m, s.nm.size ≤ 140737488355328) := Lib.hid (fun s hs => (List.mem_append.1 hs).elim (HNM.out s) (HNM2.out s))
      have hadd := add_any HF3.out A3 (l ++ m).length c3 w3.heap.size (l ++ m) (Nat.le_refl _) (by omega) HNM3.out (Rd.of_own HO3.out) (fun k hk hs => by
        have := (HO3.out.lt k (by rw [← hk]; cases A3 <;> rfl)).1
        simp at this
        omega)
      have HADD := Lib.hid hadd
      clear hadd
      by_cases hall : l.all (fits 1) = true ∧ m.all (fits 1) = true
      · obtain ⟨L1, k1, L2, k2, e1, e2, e3, hs1, hs2⟩ := add_parts hall.1 hall.2
        rw [e3] at HADD
        have HE1 := Lib.hid e1
        have HE2 := Lib.hid e2
        simp only [Cnt.sum] at hs1 hs2
        have hk1 : k1.ad ≤ 200 ∧ k1.sa ≤ 200 ∧ k1.ot ≤ 200 ∧ k1.cy ≤ 200 ∧ k1.fu ≤ 200 := by omega
        have hk2 : k2.ad ≤ 200 ∧ k2.sa ≤ 200 ∧ k2.ot ≤ 200 ∧ k2.cy ≤ 200 ∧ k2.fu ≤ 200 := by omega
        obtain ⟨ka1, ka2, ka3, ka4, ka5⟩ := hk1
        obtain ⟨kb1, kb2, kb3, kb4, kb5⟩ := hk2
        clear e1 e2 e3 hall hs1 hs2
        generalize (l ++ m).length = N at *
        go_wp2_with fail
        refine HADD.out.mono ?_
        rintro e w4 ⟨rfl, hf4, hfr4⟩
        dsimp only at hf4 ⊢
        have hz4 := hfr4.size
        have HF4 := Lib.hid hf4
        have HG4 := Lib.hid (HG3.out.fr hfr4 (fun k hk hs => by omega))
        have HB4 : Hid (Below w.heap.size w w4) := Lib.hid (HB3.out.trans (hfr4.below HB3.out.size (fun k hk => hk.1)))
        clear hf4 hfr4
        go_wp2_with fail
        have HC5 : Hid (Fr (fun k => k < w4.heap.size) (w4.alloc (.cells #[.int .i64 (k1.plus k2).ad, .int .i64 (k1.plus k2).sa, .int .i64 (k1.plus k2).ot, .int .i64 (k1.plus k2).cy, .int .i64 (k1.plus k2).fu] 33)) (w4.alloc (.cells #[.int .i64 (k1.plus k2).ad, .int .i64 (k1.plus k2).sa, .int .i64 (k1.plus k2).ot, .int .i64 (k1.plus k2).cy, .int .i64 (k1.plus k2).fu] 33))) := Lib.hid (Fr.refl _ _)
        have hb5 : Below w4.heap.size w4 (w4.alloc (.cells #[.int .i64 (k1.plus k2).ad, .int .i64 (k1.plus k2).sa, .int .i64 (k1.plus k2).ot, .int .i64 (k1.plus k2).cy, .int .i64 (k1.plus k2).fu] 33)) := (Below.refl _ _).alloc (Nat.le_refl _) _
        have hrl : RdS (w4.alloc (.cells #[.int .i64 (k1.plus k2).ad, .int .i64 (k1.plus k2).sa, .int .i64 (k1.plus k2).ot, .int .i64 (k1.plus k2).cy, .int .i64 (k1.plus k2).fu] 33)) B A l.length l := Rd.below' HR.out (HB4.out.trans (hb5.mono HB4.out.size)) hB (Nat.le_refl _)
        refine (add_all (HG4.out.below hb5 (Nat.le_refl _)) A l.length cap B l (by have := HB4.out.size; simp <;> omega) (by omega) HNM.out hrl (fun hn k hk hs => by
          have := rd_block HR.out hn k hk
          omega)).mono ?_
        rw [HE1.out]
        rintro e w6 ⟨rfl, hg6, hfr6⟩
        dsimp only at hg6 ⊢
        have hz6 := hfr6.size
        simp at hz6
        have HG6 := Lib.hid hg6
        have HF6 := Lib.hid ((HF4.out.below hb5 (Nat.le_refl _)).fr hfr6 (fun k hk hs => by rcases hk with ⟨h1, h2⟩ | ⟨h1, h2⟩ <;> omega))
        have HB6 : Hid (Below w.heap.size w w6) := Lib.hid (HB4.out.trans ((hb5.mono HB4.out.size).trans (hfr6.below (by have := HB4.out.size; simp <;> omega) (fun k hk => by omega))))
        have HC6 : Hid (w6.heap[w4.heap.size]? = some (.cells #[.int .i64 (k1.plus k2).ad, .int .i64 (k1.plus k2).sa, .int .i64 (k1.plus k2).ot, .int .i64 (k1.plus k2).cy, .int .i64 (k1.plus k2).fu] 33 (0, 0))) := Lib.hid ((hfr6.block _ (by simp) (by omega)).trans (heap_alloc_new w4 _))
        clear hg6 hfr6 hrl hb5 HC5
        go_wp2_with fail
        have hb7 : Below w6.heap.size w6 (w6.alloc (.cells #[.int .i64 k1.ad, .int .i64 k1.sa, .int .i64 k1.ot, .int .i64 k1.cy, .int .i64 k1.fu] 33)) := (Below.refl _ _).alloc (Nat.le_refl _) _
        have hrm : RdS (w6.alloc (.cells #[.int .i64 k1.ad, .int .i64 k1.sa, .int .i64 k1.ot, .int .i64 k1.cy, .int .i64 k1.fu] 33)) B A2 m.length m := Rd.below' HR2.out (HB6.out.trans (hb7.mono HB6.out.size)) hB (Nat.le_refl _)
        refine (add_all (HG6.out.below hb7 (Nat.le_refl _)) A2 m.length cap2 B m (by have := HB6.out.size; simp <;> omega) (by omega) HNM2.out hrm (fun hn k hk hs => by
          have := rd_block HR2.out hn k hk
          have := HB6.out.size
          simp at hs
          omega)).mono ?_
        rw [HE2.out]
        rintro e w8 ⟨rfl, hg8, hfr8⟩
        dsimp only at hg8 ⊢
        have hz8 := hfr8.size
        simp at hz8
        have HG8 := Lib.hid hg8
        have HF8 := Lib.hid ((HF6.out.below hb7 (Nat.le_refl _)).fr hfr8 (fun k hk hs => by simp at hs; rcases hk with ⟨h1, h2⟩ | ⟨h1, h2⟩ <;> omega))
        have HB8 : Hid (Below w.heap.size w w8) := Lib.hid (HB6.out.trans ((hb7.mono HB6.out.size).trans (hfr8.below (by have := HB6.out.size; simp <;> omega) (fun k hk => by simp at hk; omega))))
        have HC8 : Hid (w8.heap[w4.heap.size]? = some (.cells #[.int .i64 (k1.plus k2).ad, .int .i64 (k1.plus k2).sa, .int .i64 (k1.plus k2).ot, .int .i64 (k1.plus k2).cy, .int .i64 (k1.plus k2).fu] 33 (0, 0))) := Lib.hid ((hfr8.block _ (by simp <;> omega) (by simp <;> omega)).trans ((Below.heap_alloc _ _ _ (by omega)).trans HC6.out))
        have HD8 : Hid (w8.heap[w6.heap.size]? = some (.cells #[.int .i64 k1.ad, .int .i64 k1.sa, .int .i64 k1.ot, .int .i64 k1.cy, .int .i64 k1.fu] 33 (0, 0))) := Lib.hid ((hfr8.block _ (by simp) (by simp <;> omega)).trans (heap_alloc_new w6 _))
        clear hg8 hfr8 hrm hb7
        have HS : Hid (∀ W, Below w8.heap.size w8 W → (W.heap[w4.heap.size]? = some (.cells #[.int .i64 (k1.plus k2).ad, .int .i64 (k1.plus k2).sa, .int .i64 (k1.plus k2).ot, .int .i64 (k1.plus k2).cy, .int .i64 (k1.plus k2).fu] 33 (0, 0))) ∧ (W.heap[w6.heap.size]? = some (.cells #[.int .i64 k1.ad, .int .i64 k1.sa, .int .i64 k1.ot, .int .i64 k1.cy, .int .i64 k1.fu] 33 (0, 0)))) := Lib.hid (fun W hW => ⟨blk_below hW (by omega) HC8.out, blk_below hW (by omega) HD8.out⟩)
        obtain ⟨d1, d2⟩ := HS.out (w8.alloc (.cells #[.int .i64 k2.ad, .int .i64 k2.sa, .int .i64 k2.ot, .int .i64 k2.cy, .int .i64 k2.fu] 33)) ((Below.refl _ _).alloc (Nat.le_refl _) _)
        have qa0 : (w8.alloc (.cells #[.int .i64 k2.ad, .int .i64 k2.sa, .int .i64 k2.ot, .int .i64 k2.cy, .int .i64 k2.fu] 33)).cell? ⟨w4.heap.size, 0, none⟩ = some (.int .i64 (k1.plus k2).ad) := blk_cell d1 0
        have qa1 : (w8.alloc (.cells #[.int .i64 k2.ad, .int .i64 k2.sa, .int .i64 k2.ot, .int .i64 k2.cy, .int .i64 k2.fu] 33)).cell? ⟨w4.heap.size, 1, none⟩ = some (.int .i64 (k1.plus k2).sa) := blk_cell d1 1
        have qa2 : (w8.alloc (.cells #[.int .i64 k2.ad, .int .i64 k2.sa, .int .i64 k2.ot, .int .i64 k2.cy, .int .i64 k2.fu] 33)).cell? ⟨w4.heap.size, 2, none⟩ = some (.int .i64 (k1.plus k2).ot) := blk_cell d1 2
        have qa3 : (w8.alloc (.cells #[.int .i64 k2.ad, .int .i64 k2.sa, .int .i64 k2.ot, .int .i64 k2.cy, .int .i64 k2.fu] 33)).cell? ⟨w4.heap.size, 3, none⟩ = some (.int .i64 (k1.plus k2).cy) := blk_cell d1 3
        have qa4 : (w8.alloc (.cells #[.int .i64 k2.ad, .int .i64 k2.sa, .int .i64 k2.ot, .int .i64 k2.cy, .int .i64 k2.fu] 33)).cell? ⟨w4.heap.size, 4, none⟩ = some (.int .i64 (k1.plus k2).fu) := blk_cell d1 4
        have qb0 : (w8.alloc (.cells #[.int .i64 k2.ad, .int .i64 k2.sa, .int .i64 k2.ot, .int .i64 k2.cy, .int .i64 k2.fu] 33)).cell? ⟨w6.heap.size, 0, none⟩ = some (.int .i64 k1.ad) := blk_cell d2 0
        have qb1 : (w8.alloc (.cells #[.int .i64 k2.ad, .int .i64 k2.sa, .int .i64 k2.ot, .int .i64 k2.cy, .int .i64 k2.fu] 33)).cell? ⟨w6.heap.size, 1, none⟩ = some (.int .i64 k1.sa) := blk_cell d2 1
        have qb2 : (w8.alloc (.cells #[.int .i64 k2.ad, .int .i64 k2.sa, .int .i64 k2.ot, .int .i64 k2.cy, .int .i64 k2.fu] 33)).cell? ⟨w6.heap.size, 2, none⟩ = some (.int .i64 k1.ot) := blk_cell d2 2
        have qb3 : (w8.alloc (.cells #[.int .i64 k2.ad, .int .i64 k2.sa, .int .i64 k2.ot, .int .i64 k2.cy, .int .i64 k2.fu] 33)).cell? ⟨w6.heap.size, 3, none⟩ = some (.int .i64 k1.cy) := blk_cell d2 3
        have qb4 : (w8.alloc (.cells #[.int .i64 k2.ad, .int .i64 k2.sa, .int .i64 k2.ot, .int .i64 k2.cy, .int .i64 k2.fu] 33)).cell? ⟨w6.heap.size, 4, none⟩ = some (.int .i64 k1.fu) := blk_cell d2 4
        clear d1 d2
        have heq := eql_cnt (a := ((k1.plus k2).ad : Int)) (b := ((k1.plus k2).sa : Int)) (c := ((k1.plus k2).ot : Int)) (d := ((k1.plus k2).cy : Int)) (e := ((k1.plus k2).fu : Int)) (a' := (k1.ad : Int) + k2.ad) (b' := (k1.sa : Int) + k2.sa) (c' := (k1.ot : Int) + k2.ot) (d' := (k1.cy : Int) + k2.cy) (e' := (k1.fu : Int) + k2.fu) rfl rfl rfl rfl rfl
        have hb9 : Below w8.heap.size w8 ((w8.alloc (.cells #[.int .i64 k2.ad, .int .i64 k2.sa, .int .i64 k2.ot, .int .i64 k2.cy, .int .i64 k2.fu] 33)).alloc (.cells #[.int .i64 ((k1.ad : Int) + k2.ad), .int .i64 ((k1.sa : Int) + k2.sa), .int .i64 ((k1.ot : Int) + k2.ot), .int .i64 ((k1.cy : Int) + k2.cy), .int .i64 ((k1.fu : Int) + k2.fu)] 33)) := ((Below.refl _ _).alloc (Nat.le_refl _) _).alloc (by simp) _
        have HF9 := Lib.hid (HF8.out.below hb9 (Nat.le_refl _))
        have HG9 := Lib.hid (HG8.out.below hb9 (Nat.le_refl _))
        have HB9 : Hid (Below w.heap.size w ((w8.alloc (.cells #[.int .i64 k2.ad, .int .i64 k2.sa, .int .i64 k2.ot, .int .i64 k2.cy, .int .i64 k2.fu] 33)).alloc (.cells #[.int .i64 ((k1.ad : Int) + k2.ad), .int .i64 ((k1.sa : Int) + k2.sa), .int .i64 ((k1.ot : Int) + k2.ot), .int .i64 ((k1.cy : Int) + k2.cy), .int .i64 ((k1.fu : Int) + k2.fu)] 33))) := Lib.hid (HB8.out.trans (hb9.mono HB8.out.size))
        have HBL : Hid ((branches L2).length ≤ 140737488355328) := Lib.hid (branches_len HF8.out.gr)
        have hzz1 : w4.heap.size < w8.heap.size := by omega
        have hzz2 : w6.heap.size < w8.heap.size := by omega
        clear hb9
        go_wp2_with fail
        refine (branches_any HF9.out).mono ?_
        rintro e v5 ⟨A5, c5, rfl, hown5, hb5⟩
        have hv5 := hb5.size
        simp at hv5
        have HR5 : Hid (RdBr v5 v5.heap.size A5 (branches L2).length (branches L2)) := Lib.hid (Rd.of_own hown5)
        have HG5 := Lib.hid (HG9.out.below hb5 (Nat.le_refl _))
        have HB5 : Hid (Below w.heap.size w v5) := Lib.hid (HB9.out.trans (hb5.mono HB9.out.size))
        clear hown5 hb5
        go_wp2_with fail
        refine (branches_any HG5.out).mono ?_
        rintro e v6 ⟨A6, c6, rfl, hown6, hb6⟩
        have HR6 : Hid (RdBr v6 v6.heap.size A6 (branches L2).length (branches L2)) := Lib.hid (Rd.of_own hown6)
        have HR5b : Hid (RdBr v6 v5.heap.size A5 (branches L2).length (branches L2)) := Lib.hid (Rd.below' HR5.out hb6 (Nat.le_refl _) (Nat.le_refl _))
        have HB6 : Hid (Below w.heap.size w v6) := Lib.hid (HB5.out.trans (hb6.mono HB5.out.size))
        clear hown6 hb6
        generalize branches L2 = bs at *
        go_wp2_with fail
        refine (eqB_any _ _ _ _ _ _ _ _ bs bs _ HR5b.out HR6.out HBL.out).mono ?_
        rintro e v7 ⟨q, rfl, hq, m1, rfl⟩
        obtain rfl : q = true := hq.2 rfl
        clear hq
        go_wp2_with fail
        refine (awake4_any _).mono ?_
        rintro e v8 ⟨rfl, hb8⟩
        go_wp2_with fail
        go_ret
        exact ⟨rfl, below_via (below_dN HB6.out m1) hb8 HB6.out.size⟩
      · have hna : (l ++ m).all (fits 1) = false := by
          rw [List.all_append]
          cases h1 : l.all (fits 1) <;> cases h2 : m.all (fits 1) <;> first | rfl | exact absurd ⟨h1, h2⟩ hall
        have hAA : addA 1 [] (l ++ m) = ([], Cnt.zero, 30) := by rw [addA, if_neg (by rw [hna]; exact Bool.false_ne_true)]
        rw [hAA] at HADD
        clear hall hna hAA
        generalize (l ++ m).length = N at *
        go_wp2_with fail
        refine HADD.out.mono ?_
        rintro e w4 ⟨rfl, hf4, hfr4⟩
        dsimp only at hf4 ⊢
        have hz4 := hfr4.size
        have HF4 := Lib.hid (hf4.below ((Below.refl _ _).alloc (Nat.le_refl _) (.cells #[.int .i64 0, .int .i64 0, .int .i64 0, .int .i64 0, .int .i64 0] 33)) (Nat.le_refl _))
        have HB4 : Hid (Below w.heap.size w (w4.alloc (.cells #[.int .i64 0, .int .i64 0, .int .i64 0, .int .i64 0, .int .i64 0] 33))) := Lib.hid ((HB3.out.trans (hfr4.below HB3.out.size (fun k hk => hk.1))).alloc (by have := HB3.out.size; omega) _)
        have hcz := blk_cell (heap_alloc_new w4 (.cells #[.int .i64 0, .int .i64 0, .int .i64 0, .int .i64 0, .int .i64 0] 33))
        clear hf4 hfr4 hcz
        go_wp2_with fail
        refine (flen_any HF4.out).mono ?_
        rintro e v1 ⟨rfl, rfl⟩
        go_wp2_with fail
        refine (awake4_any _).mono ?_
        rintro e w5 ⟨rfl, hb5⟩
        go_wp2_with fail
        go_ret
        exact ⟨rfl, HB4.out.trans (hb5.mono HB4.out.size)⟩
end Go.Proofs.Ytnocknhfdegkgaa
