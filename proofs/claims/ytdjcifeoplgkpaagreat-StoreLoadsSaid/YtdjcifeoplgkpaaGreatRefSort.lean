/-
  The walk of the reference's Less: it answers as Less does. No condition.
  The walk of the reference's Sort: each span at its place, one by one; it comes to the one sorted list. Conditions: the slice reads as a list, not longer than memory bears.
-/
import Derived.Test.YtdjcifeoplgkpaaGreatSorted
import Derived.Test.YtdjcifeoplgkpaaGreatStd
import Derived.Test.YtdjcifeoplgkpaaGreatRow6
namespace Go.Proofs.YtdjcifeoplgkpaaGreat
open Go.RowKit

def Sp.keys (s : Sp) : List Int := [s.tr, s.st, s.id, s.pa, s.en]
theorem cmpI_neg {a b : Int} : cmpI a b < 0 ↔ a < b := by
  simp only [cmpI]
  by_cases h : a < b
  · simp [h]
  · rw [if_neg h]
    by_cases h2 : b < a
    · rw [if_pos h2]; omega
    · rw [if_neg h2]; omega
theorem cmpI_ne {a b : Int} (h : a ≠ b) : cmpI a b ≠ 0 := fun e => h (cmpI_zero e)
theorem cmpI_self (a : Int) : cmpI a a = 0 := by simp [cmpI]
theorem cmp_at (s t : Sp) (k : Nat) (hk : k < 5) (h : s.keys.take k = t.keys.take k) (hne : s.keys[k]'(by simpa [Sp.keys] using hk) ≠ t.keys[k]'(by simpa [Sp.keys] using hk)) :
    (s.cmp t < 0) ↔ s.keys[k]'(by simpa [Sp.keys] using hk) < t.keys[k]'(by simpa [Sp.keys] using hk) := by
  rw [cmp_eq]
  match k, hk with
  | 0, _ =>
    simp only [Sp.keys, List.getElem_cons_zero] at hne ⊢
    rw [if_neg (cmpI_ne hne), cmpI_neg]
  | 1, _ =>
    simp only [Sp.keys, List.take_succ_cons, List.take_zero, List.cons.injEq, and_true, List.getElem_cons_succ, List.getElem_cons_zero] at h hne ⊢
    rw [h, cmpI_self, if_pos rfl, if_neg (cmpI_ne hne), cmpI_neg]
  | 2, _ =>
    simp only [Sp.keys, List.take_succ_cons, List.take_zero, List.cons.injEq, and_true, List.getElem_cons_succ, List.getElem_cons_zero] at h hne ⊢
    rw [h.1, h.2, cmpI_self, if_pos rfl, cmpI_self, if_pos rfl, if_neg (cmpI_ne hne), cmpI_neg]
  | 3, _ =>
    simp only [Sp.keys, List.take_succ_cons, List.take_zero, List.cons.injEq, and_true, List.getElem_cons_succ, List.getElem_cons_zero] at h hne ⊢
    rw [h.1, h.2.1, h.2.2, cmpI_self, if_pos rfl, cmpI_self, if_pos rfl, cmpI_self, if_pos rfl, if_neg (cmpI_ne hne), cmpI_neg]
  | 4, _ =>
    simp only [Sp.keys, List.take_succ_cons, List.take_zero, List.cons.injEq, and_true, List.getElem_cons_succ, List.getElem_cons_zero] at h hne ⊢
    rw [h.1, h.2.1, h.2.2.1, h.2.2.2, cmpI_self, if_pos rfl, cmpI_self, if_pos rfl, cmpI_self, if_pos rfl, cmpI_self, if_pos rfl, if_neg (cmpI_ne hne), cmpI_neg]
theorem cmp_nm (s t : Sp) (h : s.keys = t.keys) : (s.cmp t < 0) ↔ Op.bytesLess s.nm.toList t.nm.toList = true := by
  rw [cmp_eq]
  simp only [Sp.keys, List.cons.injEq, and_true] at h
  obtain ⟨h1, h2, h3, h4, h5⟩ := h
  rw [h1, h2, h3, h4, h5, cmpI_self, if_pos rfl, cmpI_self, if_pos rfl, cmpI_self, if_pos rfl, cmpI_self, if_pos rfl, cmpI_self, if_pos rfl]
  rcases cmpS_cases s.nm t.nm with k | k | k
  · have := cmpS_lt k; simp [k]; omega
  · have := cmpS_lt k
    constructor
    · intro; omega
    · intro e; exact absurd k (bl_asymm e)
  · rw [k, cmpS_self]; constructor
    · intro; omega
    · intro e; exact absurd e (bl_irrefl _)

set_option maxRecDepth 100000 in
set_option maxHeartbeats 1000000 in
theorem refLess_any (s t : Sp) (w : World) :
    Calls Tryz.prog 86 #[s.val, t.val] w fun e w' => e = .returned (.bool (decide (s.cmp t < 0))) ∧ Below w.heap.size w w' := by
  obtain ⟨w1, hw1⟩ : ∃ w1, w1 = (w.alloc (.cells #[.int .i64 s.tr, .int .i64 s.id, .int .i64 s.pa, .int .i64 s.st, .int .i64 s.en, .string s.nm] 38)) := ⟨_, rfl⟩
  obtain ⟨w2, hw2⟩ : ∃ w2, w2 = (w1.alloc (.cells #[.int .i64 t.tr, .int .i64 t.id, .int .i64 t.pa, .int .i64 t.st, .int .i64 t.en, .string t.nm] 38)) := ⟨_, rfl⟩
  obtain ⟨w3, hw3⟩ : ∃ w3, w3 = (w2.alloc (.cells #[.int .i64 s.tr, .int .i64 s.st, .int .i64 s.id, .int .i64 s.pa, .int .i64 s.en] 3)) := ⟨_, rfl⟩
  obtain ⟨w4, hw4⟩ : ∃ w4, w4 = (w3.alloc (.cells #[.int .i64 t.tr, .int .i64 t.st, .int .i64 t.id, .int .i64 t.pa, .int .i64 t.en] 3)) := ⟨_, rfl⟩
  have z1 : w1.heap.size = w.heap.size + 1 := by rw [hw1]; simp
  have z2 : w2.heap.size = w.heap.size + 1 + 1 := by rw [hw2]; simp [z1]
  have z3 : w3.heap.size = w.heap.size + 1 + 1 + 1 := by rw [hw3]; simp [z2]
  have b34 : Below w3.heap.size w3 w4 := by rw [hw4]; exact (Below.refl _ _).alloc (Nat.le_refl _) _
  have b23 : Below w2.heap.size w2 w3 := by rw [hw3]; exact (Below.refl _ _).alloc (Nat.le_refl _) _
  have b12 : Below w1.heap.size w1 w2 := by rw [hw2]; exact (Below.refl _ _).alloc (Nat.le_refl _) _
  have b01 : Below w.heap.size w w1 := by rw [hw1]; exact (Below.refl _ _).alloc (Nat.le_refl _) _
  have b24 : Below w2.heap.size w2 w4 := b23.trans (b34.mono (by omega))
  have b14 : Below w1.heap.size w1 w4 := b12.trans (b24.mono (by omega))
  have hbw : Below w.heap.size w w4 := b01.trans (b14.mono (by omega))
  have hs5 : w4.cell? ⟨w.heap.size, 5, none⟩ = some (.string s.nm) := by
    have h : w1.heap[w.heap.size]? = some (.cells #[.int .i64 s.tr, .int .i64 s.id, .int .i64 s.pa, .int .i64 s.st, .int .i64 s.en, .string s.nm] 38 (0, 0)) := by rw [hw1]; exact heap_alloc_new w _
    exact blk_cell (blk_below b14 (by omega) h) 5
  have ht5 : w4.cell? ⟨w.heap.size + 1, 5, none⟩ = some (.string t.nm) := by
    have h : w2.heap[w.heap.size + 1]? = some (.cells #[.int .i64 t.tr, .int .i64 t.id, .int .i64 t.pa, .int .i64 t.st, .int .i64 t.en, .string t.nm] 38 (0, 0)) := by rw [hw2, ← z1]; exact heap_alloc_new w1 _
    exact blk_cell (blk_below b24 (by omega) h) 5
  have hX : Rd w4 (w.heap.size + 1 + 1 + 1 + 1) 1 (some ⟨w.heap.size + 1 + 1, 0, none⟩) 5 (s.keys.map (Value.int .i64)) := by
    have h := rd_newL (w := w2) (t := 3) (fr := (0, 0)) (n := 5) (sz := 1) z2 rfl (cs := #[.int .i64 s.tr, .int .i64 s.st, .int .i64 s.id, .int .i64 s.pa, .int .i64 s.en]) (xs := s.keys.map (Value.int .i64)) rfl
    rw [← hw3] at h
    exact Rd.below' h b34 (by omega) (by omega)
  have hY : Rd w4 (w.heap.size + 1 + 1 + 1 + 1) 1 (some ⟨w.heap.size + 1 + 1 + 1, 0, none⟩) 5 (t.keys.map (Value.int .i64)) := by
    have h := rd_newL (w := w3) (t := 3) (fr := (0, 0)) (n := 5) (sz := 1) z3 rfl (cs := #[.int .i64 t.tr, .int .i64 t.st, .int .i64 t.id, .int .i64 t.pa, .int .i64 t.en]) (xs := t.keys.map (Value.int .i64)) rfl
    rw [← hw4] at h
    exact h
  have HX := Lib.hid hX
  have HY := Lib.hid hY
  have HW : Hid (w4 = ((((w.alloc (.cells #[.int .i64 s.tr, .int .i64 s.id, .int .i64 s.pa, .int .i64 s.st, .int .i64 s.en, .string s.nm] 38)).alloc (.cells #[.int .i64 t.tr, .int .i64 t.id, .int .i64 t.pa, .int .i64 t.st, .int .i64 t.en, .string t.nm] 38)).alloc (.cells #[.int .i64 s.tr, .int .i64 s.st, .int .i64 s.id, .int .i64 s.pa, .int .i64 s.en] 3)).alloc (.cells #[.int .i64 t.tr, .int .i64 t.st, .int .i64 t.id, .int .i64 t.pa, .int .i64 t.en] 3))) := Lib.hid (by rw [hw4, hw3, hw2, hw1])
  have HA := Lib.hid (cmp_at s t)
  have HN := Lib.hid (cmp_nm s t)
  have hk1 : s.keys.length = 5 := rfl
  have hk2 : t.keys.length = 5 := rfl
  clear hw1 hw2 hw3 hw4 z1 z2 z3 b34 b23 b12 b01 b24 b14 hX hY
  go_enter Tryz.func86, Tryz.ntmps86
  go_wp2_with fail
  rw [← HW.out]
  clear HW
  go_loopw [32] (fun i wr => ∃ k m : Nat, k ≤ 5 ∧ i = .int .i64 k ∧ wr = w4.drewN m ∧ s.keys.take k = t.keys.take k) (fun i _ => 5 - (intOf i).toNat)
  case atStart => exact ⟨0, 0, by omega, rfl, rfl, by simp⟩
  case round =>
    obtain ⟨k, m, hk, rfl, rfl, ht⟩ := hrel
    have HT := Lib.hid ht
    clear ht
    by_cases hlt : k < 5
    · obtain ⟨b1, o1, hA1, _, x0⟩ := HX.out.at_ (k := k) hlt (by simpa [Sp.keys] using hlt)
      obtain ⟨b2, o2, hA2, _, y0⟩ := HY.out.at_ (k := k) hlt (by simpa [Sp.keys] using hlt)
      rw [List.getElem_map] at x0 y0
      injection hA1 with e1
      injection hA2 with e2
      injection e1 with q1 q2
      injection e2 with q3 q4
      subst q1 q2 q3 q4
      simp only [Nat.zero_add] at x0 y0
      have HAk := Lib.hid (HA.out k hlt HT.out)
      have HT1 : Hid (s.keys.take (k + 1) = s.keys.take k ++ [s.keys[k]'(by omega)]) := Lib.hid (List.take_succ_eq_append_getElem (by omega))
      have HT2 : Hid (t.keys.take (k + 1) = t.keys.take k ++ [t.keys[k]'(by omega)]) := Lib.hid (List.take_succ_eq_append_getElem (by omega))
      have hki : (k : Int) < 5 := by omega
      generalize s.keys[k]'(by omega) = x at *
      generalize t.keys[k]'(by omega) = y at *
      by_cases hxy : x = y
      · subst hxy
        go_wp2_with fail
        go_quiet (fail)
        go_wp2_with fail
        go_roundw
        case rel => exact ⟨k + 1, m + nq, by omega, by go_num, rfl, by rw [HT1.out, HT2.out, HT.out]⟩
        case measure => simp [intOf]; omega
      · have hne : (x != y) = true := by simpa using hxy
        have HD : Hid (decide (s.cmp t < 0) = decide (x < y)) := Lib.hid (by simp only [HAk.out hxy])
        clear hxy HAk
        go_wp2_with fail
        go_quiet (fail)
        go_wp2_with fail
        go_quiet (fail)
        go_wp2_with fail
        go_ret
        exact ⟨ret_bool HD.out.symm, below_drewN (below_drewN (below_drewN hbw _) _) _⟩
    · have ht := HT.out
      rw [List.take_of_length_le (by omega), List.take_of_length_le (by omega)] at ht
      have HD : Hid (decide (s.cmp t < 0) = Op.bytesLess s.nm.toList t.nm.toList) := Lib.hid (by simp only [HN.out ht, Bool.decide_eq_true])
      clear ht
      go_wp2_with fail
      go_ret
      exact ⟨ret_bool HD.out.symm, below_drewN hbw _⟩
end Go.Proofs.YtdjcifeoplgkpaaGreat
namespace Go.Proofs.YtdjcifeoplgkpaaGreat
open Go.RowKit

/-- What is still to be put, when one has been put at its place or not. -/
def restS (s : Sp) (done : Bool) (l : List Sp) : List Sp := if done then l else insS s l
theorem rest_done {s : Sp} {nx l r : List Sp} {x : Sp} (h : nx ++ restS s true (x :: l) = r) : (nx ++ [x]) ++ restS s true l = r := by subst h; simp [restS]
theorem rest_now {s : Sp} {nx l r : List Sp} {x : Sp} (hc : decide (s.cmp x < 0) = true) (h : nx ++ restS s false (x :: l) = r) : (nx ++ [s] ++ [x]) ++ restS s true l = r := by
  subst h; simp [restS, insS, of_decide_eq_true hc]
theorem rest_later {s : Sp} {nx l r : List Sp} {x : Sp} (hc : decide (s.cmp x < 0) = false) (h : nx ++ restS s false (x :: l) = r) : (nx ++ [x]) ++ restS s false l = r := by
  subst h; simp [restS, insS, of_decide_eq_false hc]
theorem insAll_step {acc l : List Sp} {k : Nat} (h : k < l.length) : insAll acc (l.drop k) = insAll (insS l[k] acc) (l.drop (k + 1)) := by
  rw [List.drop_eq_getElem_cons h]; rfl
set_option maxRecDepth 100000 in
set_option maxHeartbeats 2000000 in
theorem refSort_any (A : Option Addr) (n cap B : Nat) (l : List Sp) (w : World) (hB : B ≤ w.heap.size) (hb : n ≤ 2513169434915) (hr : RdS w B A n l) :
    Calls Tryz.prog 69 #[.slice A n cap] w (ResS w (sortS l)) := by
  obtain ⟨i0, hi0, hz0, hz1, hz2⟩ := info_parts Tryz.infoSpan
  have hl := hr.len
  subst hl
  have HG : Hid (insAll [] l = sortS l) := Lib.hid (insAll_sortS l)
  go_enter Tryz.func69, Tryz.ntmps69
  go_wp2_with fail
  go_loopw [3, 12] (fun v i wr => ∃ (k : Nat) (acc : List Sp) (A' : Option Addr) (c : Nat), k ≤ l.length ∧ i = .int .i64 k ∧ v = .slice A' acc.length c ∧ acc.length = k ∧
      wr.ownsRow w.heap.size 38 6 (.slice A' acc.length c) acc.length (acc.flatMap Sp.cells) ∧ Below w.heap.size w wr ∧ insAll acc (l.drop k) = insAll [] l) (fun _ i _ => l.length - (intOf i).toNat)
  case atStart => exact ⟨0, [], none, 0, by omega, rfl, rfl, rfl, World.ownsRow_nil _ _ _ _, Below.refl _ _, by simp⟩
  case round =>
    obtain ⟨k, acc, A', c, hk, rfl, rfl, hak, hown, hbel, hins⟩ := hrel
    obtain ⟨we, rfl⟩ : ∃ we, we = wr := ⟨wr, rfl⟩
    by_cases hlt : k < l.length
    · have hstep := insAll_step (acc := acc) hlt
      obtain ⟨b1, o1, rfl, hbB, x0, x1, x2, x3, x4, x5⟩ := RdS.at_ (Rd.below hr (hbel.mono hB) (Nat.le_refl _)) hlt
      have HI := Lib.hid (hstep.symm.trans hins)
      have hal : acc.length < l.length := by omega
      have HK := Lib.hid hak
      have HO := Lib.hid hown
      have HB := Lib.hid hbel
      have HR := Lib.hid hr
      have hk1 : (k : Int) < (l.length : Int) := by omega
      have hsz := hbel.size
      generalize l[k] = s at *
      clear hstep hins hak hown hbel hr
      go_wp2_with fail
      have HS := Lib.hid (blk_cell (heap_alloc_new we (.cells #[.int .i64 s.tr, .int .i64 s.id, .int .i64 s.pa, .int .i64 s.st, .int .i64 s.en, .string s.nm] 38)))
      go_loopw [6, 7, 18] (fun v d i wr => ∃ (j : Nat) (nx : List Sp) (A2 : Option Addr) (c2 : Nat) (dn : Bool), j ≤ acc.length ∧ i = .int .i64 j ∧ d = .bool dn ∧ v = .slice A2 nx.length c2 ∧ nx.length ≤ j + 1 ∧ (dn = false → nx.length ≤ j) ∧
          wr.ownsRow (we.heap.size + 1) 38 6 (.slice A2 nx.length c2) nx.length (nx.flatMap Sp.cells) ∧ Below (we.heap.size + 1) (we.alloc (.cells #[.int .i64 s.tr, .int .i64 s.id, .int .i64 s.pa, .int .i64 s.st, .int .i64 s.en, .string s.nm] 38)) wr ∧ nx ++ restS s dn (acc.drop j) = insS s acc) (fun _ _ i _ => acc.length - (intOf i).toNat)
      case atStart => exact ⟨0, [], none, 0, false, by omega, rfl, rfl, rfl, by simp, fun _ => by simp, World.ownsRow_nil _ _ _ _, Below.refl _ _, by simp [restS]⟩
      case round =>
        obtain ⟨j, nx, A2, c2, dn, hj, rfl, rfl, rfl, hnl, hnf, hown2, hb2, hrest⟩ := hrel
        have HO2 := Lib.hid hown2
        have HN := Lib.hid hnf
        clear hnf
        have HB2 := Lib.hid hb2
        have hs2 := hb2.size
        simp at hs2
        have hs3 : we.heap.size < wr.heap.size := by omega
        have hSc : ∀ j, wr.cell? ⟨we.heap.size, j, none⟩ = (#[.int .i64 s.tr, .int .i64 s.id, .int .i64 s.pa, .int .i64 s.st, .int .i64 s.en, .string s.nm] : Array Value)[j]? := fun j => (hb2.cell (by simp)).trans (HS.out j)
        have hb3 : Below w.heap.size w wr := ((HB.out.alloc (by omega) _).trans (hb2.mono (by omega)))
        have HB3 := Lib.hid hb3
        clear hown2 hb2 hb3
        by_cases hjl : j < acc.length
        · have hra : RdS wr we.heap.size A' acc.length acc := Rd.below (Rd.of_own HO.out) ((((Below.refl _ _).alloc (Nat.le_refl _) _)).trans (HB2.out.mono (by omega))) (Nat.le_refl _)
          obtain ⟨b2, o2, rfl, hb2B, y0, y1, y2, y3, y4, y5⟩ := RdS.at_ hra hjl
          rw [List.drop_eq_getElem_cons hjl] at hrest
          have HX := Lib.hid hrest
          have hj1 : (j : Int) < (acc.length : Int) := by omega
          generalize acc[j] = x at *
          clear hra hrest
          cases dn
          · go_wp2_with fail
            refine (refLess_any s x _).mono ?_
            rintro e w3 ⟨rfl, hb4⟩
            have hb5 : Below wr.heap.size wr w3 := ((Below.refl _ _).alloc (Nat.le_refl _) _).trans (hb4.mono (by simp))
            have hS5 : ∀ j, w3.cell? ⟨we.heap.size, j, none⟩ = (#[.int .i64 s.tr, .int .i64 s.id, .int .i64 s.pa, .int .i64 s.st, .int .i64 s.en, .string s.nm] : Array Value)[j]? := fun j => (hb5.cell (by simp <;> omega)).trans (hSc j)
            have hX5 := blk_cell (blk_below hb4 (by simp) (heap_alloc_new wr (.cells #[.int .i64 x.tr, .int .i64 x.id, .int .i64 x.pa, .int .i64 x.st, .int .i64 x.en, .string x.nm] 38)))
            have hz5 : wr.heap.size < w3.heap.size := by have := hb4.size; simp at this; omega
            have HO5 := Lib.hid (own_below HO2.out hb5)
            have HB5 := Lib.hid (HB2.out.trans (hb5.mono (by omega)))
            clear hb4 hb5
            cases hc : decide (s.cmp x < 0)
            · have HL := Lib.hid (rest_later hc HX.out)
              clear hc
              go_wp2_with (at_builtin; refine wpList_app _ rfl (.tmp 33) (.tmp 35) _ rfl (we.heap.size + 1) 38 i0 _ 6 56 Tryz.underlying31 hi0 hz0 hz1 hz2 rfl (by omega) _ _ _ _ rfl (HO5.out.alloc _) (w3.heap.size + 1) _ 1 _ _ rfl (Rd.one6 (by simp) _ _ _) (cells_one1 _) (by unfold maxLen; omega) (by omega) (by simp <;> omega) ?_; intro A6 c6 w6 hown6 hg6 _)
              go_roundw
              case rel =>
                have hB6 := below_app (HB5.out.alloc (by omega) _) (HO5.out.alloc _) hg6 (by simp <;> omega)
                have hln : (nx ++ [x]).length = nx.length + 1 := by simp
                refine ⟨j + 1, nx ++ [x], A6, c6, false, by omega, by go_num, rfl, by rw [hln], by rw [hln]; have := HN.out (by trivial); omega, fun _ => by rw [hln]; have := HN.out (by trivial); omega, ?_, hB6, HL.out⟩
                rw [hln, flat_snoc]; exact hown6
              case measure => simp [intOf]; omega
            · have HL := Lib.hid (rest_now hc HX.out)
              clear hc
              go_wp2_with (first | (at_builtin; refine wpList_app _ rfl (.tmp 29) (.tmp 31) _ rfl (we.heap.size + 1) 38 i0 _ 6 56 Tryz.underlying31 hi0 hz0 hz1 hz2 rfl (by omega) _ _ _ _ rfl (HO5.out.alloc _) (w3.heap.size + 1) _ 1 _ _ rfl (Rd.one6 (by simp) _ _ _) (cells_one1 _) (by unfold maxLen; omega) (by omega) (by simp <;> omega) ?_; intro A6 c6 w6 hown6 hg6 _; have hX6 : ∀ j, w6.cell? ⟨wr.heap.size, j, none⟩ = (#[.int .i64 x.tr, .int .i64 x.id, .int .i64 x.pa, .int .i64 x.st, .int .i64 x.en, .string x.nm] : Array Value)[j]? := fun j => (grown_cell hg6 (by simp <;> omega) (own_ne HO2.out (Nat.le_refl _))).trans ((World.cell?_alloc_lt _ _ _ (by simpa using hz5)).trans (hX5 j)); have hs6 : w3.heap.size + 1 ≤ w6.heap.size := (by have := hg6.size; simpa using this); have hln6 : (nx ++ [s]).length = nx.length + 1 := (by simp); have HO6 : Hid (w6.ownsRow (we.heap.size + 1) 38 6 (.slice A6 (nx.length + 1) c6) (nx.length + 1) ((nx ++ [s]).flatMap Sp.cells)) := Lib.hid (by rw [flat_snoc]; exact hown6); have HB6 := Lib.hid (below_app (HB5.out.alloc (by omega) _) (HO5.out.alloc _) hg6 (by simp <;> omega)); clear hown6 hg6) | (at_builtin; refine wpList_app _ rfl (.tmp 33) (.tmp 35) _ rfl (we.heap.size + 1) 38 i0 _ 6 56 Tryz.underlying31 hi0 hz0 hz1 hz2 rfl (by omega) _ _ _ _ rfl (HO6.out.alloc _) (w6.heap.size + 1) _ 1 _ _ rfl (Rd.one6 (by simp) _ _ _) (cells_one1 _) (by unfold maxLen; omega) (by omega) (by simp <;> omega) ?_; intro A7 c7 w7 hown7 hg7 _))
              go_roundw
              case rel =>
                have hB7 := below_app (HB6.out.alloc (by omega) _) (HO6.out.alloc _) hg7 (by simp <;> omega)
                have hln : (nx ++ [s] ++ [x]).length = nx.length + 2 := by simp
                refine ⟨j + 1, nx ++ [s] ++ [x], A7, c7, true, by omega, by go_num, rfl, by rw [hln], by rw [hln]; have := HN.out (by trivial); omega, (fun h => by cases h), ?_, hB7, HL.out⟩
                rw [hln, flat_snoc]; exact hown7
              case measure => simp [intOf]; omega
          · go_wp2_with (at_builtin; refine wpList_app _ rfl (.tmp 33) (.tmp 35) _ rfl (we.heap.size + 1) 38 i0 _ 6 56 Tryz.underlying31 hi0 hz0 hz1 hz2 rfl (by omega) _ _ _ _ rfl ((HO2.out.alloc _).alloc _) ((wr.heap.size + 1) + 1) _ 1 _ _ rfl (Rd.one6 (by simp) _ _ _) (cells_one1 _) (by unfold maxLen; omega) (by omega) (by simp <;> omega) ?_; intro A6 c6 w6 hown6 hg6 _)
            have HL := Lib.hid (rest_done HX.out)
            go_roundw
            case rel =>
              have hB6 := below_app ((HB2.out.alloc (by omega) _).alloc (by simp <;> omega) _) ((HO2.out.alloc _).alloc _) hg6 (by simp <;> omega)
              have hln : (nx ++ [x]).length = nx.length + 1 := by simp
              refine ⟨j + 1, nx ++ [x], A6, c6, true, by omega, by go_num, rfl, by rw [hln], by rw [hln]; omega, (fun h => by cases h), ?_, hB6, HL.out⟩
              rw [hln, flat_snoc]; exact hown6
            case measure => simp [intOf]; omega
        · rw [List.drop_of_length_le (by omega)] at hrest
          have HX := Lib.hid hrest
          have hj1 : ¬ (j : Int) < (acc.length : Int) := by omega
          clear hrest
          cases dn
          · go_wp2_with (at_builtin; refine wpList_app _ rfl (.tmp 40) (.tmp 42) _ rfl (we.heap.size + 1) 38 i0 _ 6 56 Tryz.underlying31 hi0 hz0 hz1 hz2 rfl (by omega) _ _ _ _ rfl (HO2.out.alloc _) (wr.heap.size + 1) _ 1 _ _ rfl (Rd.one6 (by simp) _ _ _) (cells_one1 _) (by unfold maxLen; omega) (by omega) (by simp <;> omega) ?_; intro A6 c6 w6 hown6 hg6 _)
            go_roundw
            case rel =>
              have hB6 := below_app (HB3.out.alloc (by omega) _) (own_le (HO2.out.alloc _) (by omega)) hg6 (by simp <;> omega)
              have he : nx ++ [s] = insS s acc := by simpa [restS, insS] using HX.out
              have hln : (insS s acc).length = nx.length + 1 := by rw [← he]; simp
              have hla := insS_len s acc
              have hak := HK.out
              refine ⟨k + 1, insS s acc, A6, c6, by omega, by go_num, by rw [hln], by omega, ?_, hB6, HI.out⟩
              rw [hln, ← he, flat_snoc]; exact own_le hown6 (by omega)
            case measure => simp [intOf]; omega
          · go_wp2_with fail
            go_roundw
            case rel =>
              have he : nx = insS s acc := by simpa [restS] using HX.out
              have hla := insS_len s acc
              have hak := HK.out
              refine ⟨k + 1, insS s acc, A2, c2, by omega, by go_num, by rw [← he], by omega, ?_, HB3.out, HI.out⟩
              rw [← he]; exact own_le HO2.out (by omega)
            case measure => simp [intOf]; omega
    · have hkl : k = l.length := by omega
      go_wp2_with fail
      go_ret
      subst hkl
      rw [List.drop_length] at hins
      have he : acc = sortS l := hins.trans HG.out
      subst he
      exact ⟨A', c, rfl, hown, hbel⟩
end Go.Proofs.YtdjcifeoplgkpaaGreat
