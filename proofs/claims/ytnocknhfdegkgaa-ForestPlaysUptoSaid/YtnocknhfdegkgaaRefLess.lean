/-
  The walk of the reference's Less: it answers as Less does. No condition.
-/
import Derived.Test.YtnocknhfdegkgaaOrder
import Derived.Test.YtnocknhfdegkgaaStd
namespace Go.Proofs.Ytnocknhfdegkgaa
open Go.RowKit

def Sp.keys (s : Sp) : List Int := [s.tr, s.st, s.id, s.pa, s.en]
theorem cmpI_neg {a b : Int} : cmpI a b < 0 ↔ a < b := by
  simp only [cmpI]
  by_cases h : a < b
  · simp [h]
  · rw [if_neg h]
    by_cases h2 : b < a
    · rw [if_pos h2]; omega
    · rw [if_neg h2]; omega
theorem cmpI_ne {a b : Int} (h : a ≠ b) : cmpI a b ≠ 0 := fun e => h (cmpI_zero e)
theorem cmpI_self (a : Int) : cmpI a a = 0 := by simp [cmpI]
theorem cmp_at (s t : Sp) (k : Nat) (hk : k < 5) (h : s.keys.take k = t.keys.take k) (hne : s.keys[k]'(by simpa [Sp.keys] using hk) ≠ t.keys[k]'(by simpa [Sp.keys] using hk)) :
    (s.cmp t < 0) ↔ s.keys[k]'(by simpa [Sp.keys] using hk) < t.keys[k]'(by simpa [Sp.keys] using hk) := by
  rw [cmp_eq]
  match k, hk with
  | 0, _ =>
    simp only [Sp.keys, List.getElem_cons_zero] at hne ⊢
    rw [if_neg (cmpI_ne hne), cmpI_neg]
  | 1, _ =>
    simp only [Sp.keys, List.take_succ_cons, List.take_zero, List.cons.injEq, and_true, List.getElem_cons_succ, List.getElem_cons_zero] at h hne ⊢
    rw [h, cmpI_self, if_pos rfl, if_neg (cmpI_ne hne), cmpI_neg]
  | 2, _ =>
    simp only [Sp.keys, List.take_succ_cons, List.take_zero, List.cons.injEq, and_true, List.getElem_cons_succ, List.getElem_cons_zero] at h hne ⊢
    rw [h.1, h.2, cmpI_self, if_pos rfl, cmpI_self, if_pos rfl, if_neg (cmpI_ne hne), cmpI_neg]
  | 3, _ =>
    simp only [Sp.keys, List.take_succ_cons, List.take_zero, List.cons.injEq, and_true, List.getElem_cons_succ, List.getElem_cons_zero] at h hne ⊢
    rw [h.1, h.2.1, h.2.2, cmpI_self, if_pos rfl, cmpI_self, if_pos rfl, cmpI_self, if_pos rfl, if_neg (cmpI_ne hne), cmpI_neg]
  | 4, _ =>
    simp only [Sp.keys, List.take_succ_cons, List.take_zero, List.cons.injEq, and_true, List.getElem_cons_succ, List.getElem_cons_zero] at h hne ⊢
    rw [h.1, h.2.1, h.2.2.1, h.2.2.2, cmpI_self, if_pos rfl, cmpI_self, if_pos rfl, cmpI_self, if_pos rfl, cmpI_self, if_pos rfl, if_neg (cmpI_ne hne), cmpI_neg]
theorem cmp_nm (s t : Sp) (h : s.keys = t.keys) : (s.cmp t < 0) ↔ Op.bytesLess s.nm.toList t.nm.toList = true := by
  rw [cmp_eq]
  simp only [Sp.keys, List.cons.injEq, and_true] at h
  obtain ⟨h1, h2, h3, h4, h5⟩ := h
  rw [h1, h2, h3, h4, h5, cmpI_self, if_pos rfl, cmpI_self, if_pos rfl, cmpI_self, if_pos rfl, cmpI_self, if_pos rfl, cmpI_self, if_pos rfl]
  rcases cmpS_cases s.nm t.nm with k | k | k
  · have := cmpS_lt k; simp [k]; omega
  · have := cmpS_lt k
    constructor
    · intro; omega
    · intro e; exact absurd k (bl_asymm e)
  · rw [k, cmpS_self]; constructor
    · intro; omega
    · intro e; exact absurd e (bl_irrefl _)

set_option maxRecDepth 100000 in
set_option maxHeartbeats 1000000 in
theorem refLess_any (s t : Sp) (w : World) :
    Calls Try.prog 52 #[s.val, t.val] w fun e w' => e = .returned (.bool (decide (s.cmp t < 0))) ∧ Below w.heap.size w w' := by
  obtain ⟨w1, hw1⟩ : ∃ w1, w1 = (w.alloc (.cells #[.int .i64 s.tr, .int .i64 s.id, .int .i64 s.pa, .int .i64 s.st, .int .i64 s.en, .string s.nm] 30)) := ⟨_, rfl⟩
  obtain ⟨w2, hw2⟩ : ∃ w2, w2 = (w1.alloc (.cells #[.int .i64 t.tr, .int .i64 t.id, .int .i64 t.pa, .int .i64 t.st, .int .i64 t.en, .string t.nm] 30)) := ⟨_, rfl⟩
  obtain ⟨w3, hw3⟩ : ∃ w3, w3 = (w2.alloc (.cells #[.int .i64 s.tr, .int .i64 s.st, .int .i64 s.id, .int .i64 s.pa, .int .i64 s.en] 3)) := ⟨_, rfl⟩
  obtain ⟨w4, hw4⟩ : ∃ w4, w4 = (w3.alloc (.cells #[.int .i64 t.tr, .int .i64 t.st, .int .i64 t.id, .int .i64 t.pa, .int .i64 t.en] 3)) := ⟨_, rfl⟩
  have z1 : w1.heap.size = w.heap.size + 1 := by rw [hw1]; simp
  have z2 : w2.heap.size = w.heap.size + 1 + 1 := by rw [hw2]; simp [z1]
  have z3 : w3.heap.size = w.heap.size + 1 + 1 + 1 := by rw [hw3]; simp [z2]
  have b34 : Below w3.heap.size w3 w4 := by rw [hw4]; exact (Below.refl _ _).alloc (Nat.le_refl _) _
  have b23 : Below w2.heap.size w2 w3 := by rw [hw3]; exact (Below.refl _ _).alloc (Nat.le_refl _) _
  have b12 : Below w1.heap.size w1 w2 := by rw [hw2]; exact (Below.refl _ _).alloc (Nat.le_refl _) _
  have b01 : Below w.heap.size w w1 := by rw [hw1]; exact (Below.refl _ _).alloc (Nat.le_refl _) _
  have b24 : Below w2.heap.size w2 w4 := b23.trans (b34.mono (by omega))
  have b14 : Below w1.heap.size w1 w4 := b12.trans (b24.mono (by omega))
  have hbw : Below w.heap.size w w4 := b01.trans (b14.mono (by omega))
  have hs5 : w4.cell? ⟨w.heap.size, 5, none⟩ = some (.string s.nm) := by
    have h : w1.heap[w.heap.size]? = some (.cells #[.int .i64 s.tr, .int .i64 s.id, .int .i64 s.pa, .int .i64 s.st, .int .i64 s.en, .string s.nm] 30 (0, 0)) := by rw [hw1]; exact heap_alloc_new w _
    exact blk_cell (blk_below b14 (by omega) h) 5
  have ht5 : w4.cell? ⟨w.heap.size + 1, 5, none⟩ = some (.string t.nm) := by
    have h : w2.heap[w.heap.size + 1]? = some (.cells #[.int .i64 t.tr, .int .i64 t.id, .int .i64 t.pa, .int .i64 t.st, .int .i64 t.en, .string t.nm] 30 (0, 0)) := by rw [hw2, ← z1]; exact heap_alloc_new w1 _
    exact blk_cell (blk_below b24 (by omega) h) 5
  have hX : Rd w4 (w.heap.size + 1 + 1 + 1 + 1) 1 (some ⟨w.heap.size + 1 + 1, 0, none⟩) 5 (s.keys.map (Value.int .i64)) := by
    have h := rd_newL (w := w2) (t := 3) (fr := (0, 0)) (n := 5) (sz := 1) z2 rfl (cs := #[.int .i64 s.tr, .int .i64 s.st, .int .i64 s.id, .int .i64 s.pa, .int .i64 s.en]) (xs := s.keys.map (Value.int .i64)) rfl
    rw [← hw3] at h
    exact Rd.below' h b34 (by omega) (by omega)
  have hY : Rd w4 (w.heap.size + 1 + 1 + 1 + 1) 1 (some ⟨w.heap.size + 1 + 1 + 1, 0, none⟩) 5 (t.keys.map (Value.int .i64)) := by
    have h := rd_newL (w := w3) (t := 3) (fr := (0, 0)) (n := 5) (sz := 1) z3 rfl (cs := #[.int .i64 t.tr, .int .i64 t.st, .int .i64 t.id, .int .i64 t.pa, .int .i64 t.en]) (xs := t.keys.map (Value.int .i64)) rfl
    rw [← hw4] at h
    exact h
  have HX := Lib.hid hX
  have HY := Lib.hid hY
  have HW : Hid (w4 = ((((w.alloc (.cells #[.int .i64 s.tr, .int .i64 s.id, .int .i64 s.pa, .int .i64 s.st, .int .i64 s.en, .string s.nm] 30)).alloc (.cells #[.int .i64 t.tr, .int .i64 t.id, .int .i64 t.pa, .int .i64 t.st, .int .i64 t.en, .string t.nm] 30)).alloc (.cells #[.int .i64 s.tr, .int .i64 s.st, .int .i64 s.id, .int .i64 s.pa, .int .i64 s.en] 3)).alloc (.cells #[.int .i64 t.tr, .int .i64 t.st, .int .i64 t.id, .int .i64 t.pa, .int .i64 t.en] 3))) := Lib.hid (by rw [hw4, hw3, hw2, hw1])
  have HA := Lib.hid (cmp_at s t)
  have HN := Lib.hid (cmp_nm s t)
  have hk1 : s.keys.length = 5 := rfl
  have hk2 : t.keys.length = 5 := rfl
  clear hw1 hw2 hw3 hw4 z1 z2 z3 b34 b23 b12 b01 b24 b14 hX hY
  go_enter Try.func52, Try.ntmps52
  go_wp2_with fail
  rw [← HW.out]
  clear HW
  go_loopw [32] (fun i wr => ∃ k m : Nat, k ≤ 5 ∧ i = .int .i64 k ∧ wr = w4.drewN m ∧ s.keys.take k = t.keys.take k) (fun i _ => 5 - (intOf i).toNat)
  case atStart => exact ⟨0, 0, by omega, rfl, rfl, by simp⟩
  case round =>
    obtain ⟨k, m, hk, rfl, rfl, ht⟩ := hrel
    have HT := Lib.hid ht
    clear ht
    by_cases hlt : k < 5
    · obtain ⟨b1, o1, hA1, _, x0⟩ := HX.out.at_ (k := k) hlt (by simpa [Sp.keys] using hlt)
      obtain ⟨b2, o2, hA2, _, y0⟩ := HY.out.at_ (k := k) hlt (by simpa [Sp.keys] using hlt)
      rw [List.getElem_map] at x0 y0
      injection hA1 with e1
      injection hA2 with e2
      injection e1 with q1 q2
      injection e2 with q3 q4
      subst q1 q2 q3 q4
      simp only [Nat.zero_add] at x0 y0
      have HAk := Lib.hid (HA.out k hlt HT.out)
      have HT1 : Hid (s.keys.take (k + 1) = s.keys.take k ++ [s.keys[k]'(by omega)]) := Lib.hid (List.take_succ_eq_append_getElem (by omega))
      have HT2 : Hid (t.keys.take (k + 1) = t.keys.take k ++ [t.keys[k]'(by omega)]) := Lib.hid (List.take_succ_eq_append_getElem (by omega))
      have hki : (k : Int) < 5 := by omega
      generalize s.keys[k]'(by omega) = x at *
      generalize t.keys[k]'(by omega) = y at *
      by_cases hxy : x = y
      · subst hxy
        go_wp2_with fail
        go_quiet (fail)
        go_wp2_with fail
        go_roundw
        case rel => exact ⟨k + 1, m + nq, by omega, by go_num, rfl, by rw [HT1.out, HT2.out, HT.out]⟩
        case measure => simp [intOf]; omega
      · have hne : (x != y) = true := by simpa using hxy
        have HD : Hid (decide (s.cmp t < 0) = decide (x < y)) := Lib.hid (by simp only [HAk.out hxy])
        clear hxy HAk
        go_wp2_with fail
        go_quiet (fail)
        go_wp2_with fail
        go_quiet (fail)
        go_wp2_with fail
        go_ret
        exact ⟨ret_bool HD.out.symm, below_drewN (below_drewN (below_drewN hbw _) _) _⟩
    · have ht := HT.out
      rw [List.take_of_length_le (by omega), List.take_of_length_le (by omega)] at ht
      have HD : Hid (decide (s.cmp t < 0) = Op.bytesLess s.nm.toList t.nm.toList) := Lib.hid (by simp only [HN.out ht, Bool.decide_eq_true])
      clear ht
      go_wp2_with fail
      go_ret
      exact ⟨ret_bool HD.out.symm, below_drewN hbw _⟩
end Go.Proofs.Ytnocknhfdegkgaa
