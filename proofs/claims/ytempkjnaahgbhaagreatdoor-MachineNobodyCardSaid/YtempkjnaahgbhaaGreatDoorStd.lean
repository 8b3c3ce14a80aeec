/-
  The walks of slices.Clone and slices.Equal at spans: whether two lists are the same, a list copied. Conditions: the slices read as lists, not longer than memory bears.
-/
import Derived.Test.YtempkjnaahgbhaaGreatDoorSpanRow
import Derived.Laws.Cover3
import Derived.Test.YtempkjnaahgbhaaGreatDoorSched
namespace Go.Proofs.YtempkjnaahgbhaaGreatDoor
open Go.RowKit

theorem span_if {α : Type} {s t : Sp} {q : Bool} (hq : q = true ↔ s = t) (a b : α) :
    (if s.tr = t.tr then if s.id = t.id then if s.pa = t.pa then if s.st = t.st then if s.en = t.en then if s.nm.toList = t.nm.toList then a else b else b else b else b else b else b) = if q = true then a else b := by
  by_cases h : s = t
  · subst h; simp [hq.2 rfl]
  · have hf : ¬ q = true := fun e => h (hq.1 e)
    rw [if_neg hf]
    by_cases h1 : s.tr = t.tr
    · rw [if_pos h1]
      by_cases h2 : s.id = t.id
      · rw [if_pos h2]
        by_cases h3 : s.pa = t.pa
        · rw [if_pos h3]
          by_cases h4 : s.st = t.st
          · rw [if_pos h4]
            by_cases h5 : s.en = t.en
            · rw [if_pos h5]
              by_cases h6 : s.nm.toList = t.nm.toList
              · refine absurd ?_ h
                rw [ByteArray.toList_eq, ByteArray.toList_eq] at h6
                have h7 : s.nm = t.nm := by
                  cases hs : s.nm; cases ht : t.nm
                  rw [hs, ht] at h6
                  simpa using h6
                cases s; cases t; simp_all
              · rw [if_neg h6]
            · rw [if_neg h5]
          · rw [if_neg h4]
        · rw [if_neg h3]
      · rw [if_neg h2]
    · rw [if_neg h1]
theorem span_dec (s t : Sp) : ∃ q : Bool, q = true ↔ s = t := by
  by_cases h : s = t
  · exact ⟨true, by simp [h]⟩
  · exact ⟨false, by simp [h]⟩

/-- What a call leaves that answers whether two are the same, and writes nothing. -/
def ResEq (w : World) (p : Prop) (e : Ending) (w' : World) : Prop := ∃ q : Bool, e = .returned (.bool q) ∧ (q = true ↔ p) ∧ ∃ n, w' = w.drewN n

set_option maxRecDepth 100000 in
set_option maxHeartbeats 400000 in
theorem slicesEqual_any (A1 A2 : Option Addr) (n1 n2 c1 c2 B1 B2 : Nat) (l1 l2 : List Sp) (w : World) (h1 : RdS w B1 A1 n1 l1) (h2 : RdS w B2 A2 n2 l2) (hb : n1 ≤ 140737488355328) :
    Calls Tryz.prog 64 #[.slice A1 n1 c1, .slice A2 n2 c2] w (ResEq w (l1 = l2)) := by
  have hl1 := h1.len
  have hl2 := h2.len
  subst hl1 hl2
  by_cases hlen : l1.length = l2.length
  · go_enter Tryz.func64, Tryz.ntmps64
    go_wp2_with fail
    go_loopw [13] (fun i wr => ∃ k n : Nat, k ≤ l1.length ∧ i = .int .i64 k ∧ wr = w.drewN n ∧ l1.take k = l2.take k) (fun i _ => l1.length - (intOf i).toNat)
    case atStart => exact ⟨0, 0, by omega, rfl, rfl, by simp⟩
    case round =>
      obtain ⟨k, n, hk, rfl, rfl, ht⟩ := hrel
      by_cases hlt : k < l1.length
      · obtain ⟨b1, o1, rfl, _, x0, x1, x2, x3, x4, x5⟩ := h1.at_ hlt
        obtain ⟨b2, o2, rfl, _, y0, y1, y2, y3, y4, y5⟩ := h2.at_ (k := k) (by omega)
        have HT1 := Lib.hid (List.take_succ_eq_append_getElem hlt)
        have HT2 := Lib.hid (List.take_succ_eq_append_getElem (l := l2) (i := k) (by omega))
        have HT := Lib.hid ht
        generalize l1[k] = s at *
        generalize l2[k] = t at *
        clear h1 h2 ht
        have hk1 : (k : Int) < (l1.length : Int) := by omega
        have hk2 : (k : Int) < (l2.length : Int) := by omega
        go_wp2_with fail
        obtain ⟨q, hq⟩ := span_dec s t
        cases q
        · have HQ := Lib.hid hq
          clear hq
          refine wp_region_sched [(0, true), (1, true), (2, true), (3, true), (4, true), (5, true), (6, true), (7, true), (8, true)] (fun W => ∃ m, W = w.drewN m) (by kernel_rfl) (by kernel_rfl) rfl (by kernel_rfl) (⟨n + 1, rfl⟩) ?_
          repeat (first | (apply sched_take rfl; (focus (first | rfl | (go_simp; done))); (focus (intro W hW; obtain ⟨m, rfl⟩ := hW; go_simp; rfl)); (focus (intro K hK; go_simp; refine hK _ ?_; clear hK K))) | (apply sched_skip rfl; (focus (first | rfl | (go_simp; done))); (focus (intro K hK; go_simp; refine hK _ ?_; clear hK K))))
          apply sched_take rfl
          · rfl
          · intro W hW; obtain ⟨m, rfl⟩ := hW; go_simp; exact (span_if HQ.out _ _).trans rfl
          intro K hK; go_simp; refine hK _ ?_; clear hK K
          refine sched_nil ?_
          go_wp2_with fail
          go_ret
          refine ⟨false, rfl, ⟨(fun h => by cases h), fun h => ?_⟩, n + 1, rfl⟩
          have e := HT1.out
          rw [h, HT2.out] at e
          have e2 := List.append_cancel_left e
          simp only [List.cons.injEq, and_true] at e2
          exact absurd (HQ.out.2 e2.symm) (by simp)
        · have HQ := Lib.hid hq
          have HE := Lib.hid (hq.1 rfl)
          clear hq
          refine wp_region_sched [(0, true), (1, true), (2, true), (3, true), (4, true), (5, true), (6, true), (7, true), (8, true)] (fun W => ∃ m, W = w.drewN m) (by kernel_rfl) (by kernel_rfl) rfl (by kernel_rfl) (⟨n + 1, rfl⟩) ?_
          repeat (first | (apply sched_take rfl; (focus (first | rfl | (go_simp; done))); (focus (intro W hW; obtain ⟨m, rfl⟩ := hW; go_simp; rfl)); (focus (intro K hK; go_simp; refine hK _ ?_; clear hK K))) | (apply sched_skip rfl; (focus (first | rfl | (go_simp; done))); (focus (intro K hK; go_simp; refine hK _ ?_; clear hK K))))
          apply sched_take rfl
          · rfl
          · intro W hW; obtain ⟨m, rfl⟩ := hW; go_simp; exact (span_if HQ.out _ _).trans rfl
          intro K hK; go_simp; refine hK _ ?_; clear hK K
          refine sched_nil ?_
          go_wp2_with fail
          go_roundw
          case rel =>
            refine ⟨_, _, _, ⟨k + 1, by omega, ?_, ⟨n + 1, rfl⟩, ?_⟩, rfl, rfl, rfl⟩
            · go_num
            · rw [HT1.out, HT2.out, HT.out, HE.out]
          case measure => simp [intOf]; omega
      · go_wp2_with fail
        go_ret
        rw [List.take_of_length_le (by omega), List.take_of_length_le (by omega)] at ht
        exact ⟨_, rfl, by simp [ht], n, rfl⟩
  · have hne : ((l1.length : Int) == l2.length) = false := by simp; omega
    go_enter Tryz.func64, Tryz.ntmps64
    go_wp2_with fail
    go_ret
    exact ⟨_, rfl, ⟨(fun h => by cases h), fun h => absurd (congrArg List.length h) hlen⟩, 0, rfl⟩

theorem eql_nil {P : Program} (w : World) (t e : TypeId) (a : Option Addr) (l c : Nat) (h : P.underlying t = some (.slice e)) : (binOp .eql t (.slice a l c) (.slice none 0 0)).run P w = .ok (.bool a.isNone) w := by
  simp only [binOp, Sem.run_bind, run_equal_slice_nil w t e a l c h, Result.andThen_ok, Sem.run_pure]

/-- What a call leaves that makes spans: a slice of its own that reads as l; what was there stands. -/
def ResS (w : World) (l : List Sp) (e : Ending) (w' : World) : Prop :=
  ∃ A c, e = .returned (.slice A l.length c) ∧ w'.ownsRow w.heap.size 30 6 (.slice A l.length c) l.length (l.flatMap Sp.cells) ∧ Below w.heap.size w w'

set_option maxRecDepth 100000 in
set_option maxHeartbeats 400000 in
theorem cloneSpans_any (A : Option Addr) (n cap B : Nat) (l : List Sp) (w : World) (hB : B ≤ w.heap.size) (hb : n ≤ 2513169434916) (hr : RdS w B A n l) :
    Calls Tryz.prog 16 #[.slice A n cap] w (ResS w l) := by
  obtain ⟨i0, hi0, hz0, hz1, hz2⟩ := info_parts Tryz.infoSpan
  have hl := hr.len
  cases A with
  | none =>
    have hn : n = 0 := by
      by_cases h0 : n = 0
      · exact h0
      · obtain ⟨b, off, h, _⟩ := hr.2 (by omega)
        cases h
    subst hn
    obtain rfl : l = [] := List.length_eq_zero_iff.1 hl
    have hq := fun W : World => eql_nil (P := Tryz.prog) W 22 _ none 0 cap Tryz.underlying22
    go_enter Tryz.func16, Tryz.ntmps16
    go_wp2_with fail
    go_ret
    exact ⟨none, 0, rfl, World.ownsRow_nil _ _ _ _, Below.refl _ _⟩
  | some a =>
    have HN := Lib.hid (own_new w #[] 30 0 6 rfl (by unfold maxLen; omega) w.heap.size (Nat.le_refl _))
    have HR : Hid (RdS (w.alloc (.cells #[] 30)) B (some a) n l) := Lib.hid (Rd.alloc hr _ hB (Nat.le_refl _))
    have HL := Lib.hid hl
    clear hl hr
    have hq := fun W : World => eql_nil (P := Tryz.prog) W 22 _ (some a) n cap Tryz.underlying22
    go_enter Tryz.func16, Tryz.ntmps16
    go_wp2_with (at_builtin; refine wpList_app _ rfl (.tmp 5) (.tmp 6) _ rfl w.heap.size 30 i0 _ 6 56 Tryz.underlying22 hi0 hz0 hz1 hz2 rfl (by omega) _ _ _ _ rfl HN.out B _ _ _ _ rfl HR.out (cells_oneCell _) (by unfold maxLen; omega) (by omega) (by simp) ?_; intro A2 c2 w2 hown2 hg2 _)
    go_ret
    rw [List.nil_append, Nat.zero_add] at hown2
    exact ⟨A2, c2, by rw [HL.out]; rfl, by rw [HL.out]; exact hown2, below_app ((Below.refl _ _).alloc (Nat.le_refl _) _) HN.out hg2 (by simp)⟩

theorem below_dN {B : Nat} {a w : World} (h : Below B a w) (n : Nat) : Below B a (w.drewN n) := ⟨h.os, h.tape, h.output, h.size, h.block⟩
theorem below_via {B : Nat} {a b c : World} (h : Below B a b) (k : Below b.heap.size b c) (hB : B ≤ b.heap.size) : Below B a c := h.trans (k.mono hB)
end Go.Proofs.YtempkjnaahgbhaaGreatDoor
