/-
  The walks of slices.Clone and slices.Equal at spans: whether two lists are the same, a list copied. Conditions: the slices read as lists, not longer than memory bears.
-/
import Derived.Test.YtdjcifeoplgkpaaSpanRow
import Derived.Laws.Cover3
import Derived.Test.YtdjcifeoplgkpaaSched
namespace Go.Proofs.Ytdjcifeoplgkpaa
open Go.RowKit

theorem span_if {α : Type} {s t : Sp} {q : Bool} (hq : q = true ↔ s = t) (a b : α) :
    (if s.tr = t.tr then if s.id = t.id then if s.pa = t.pa then if s.st = t.st then if s.en = t.en then if s.nm.toList = t.nm.toList then a else b else b else b else b else b else b) = if q = true then a else b := by
  by_cases h : s = t
  · subst h; simp [hq.2 rfl]
  · have hf : ¬ q = true := fun e => h (hq.1 e)
    rw [if_neg hf]
    by_cases h1 : s.tr = t.tr
    · rw [if_pos h1]
      by_cases h2 : s.id = t.id
      · rw [if_pos h2]
        by_cases h3 : s.pa = t.pa
        · rw [if_pos h3]
          by_cases h4 : s.st = t.st
          · rw [if_pos h4]
            by_cases h5 : s.en = t.en
            · rw [if_pos h5]
              by_cases h6 : s.nm.toList = t.nm.toList
              · refine absurd ?_ h
                rw [ByteArray.toList_eq, ByteArray.toList_eq] at h6
                have h7 : s.nm = t.nm := by
                  cases hs : s.nm; cases ht : t.nm
                  rw [hs, ht] at h6
                  simpa using h6
                cases s; cases t; simp_all
              · rw [if_neg h6]
            · rw [if_neg h5]
          · rw [if_neg h4]
        · rw [if_neg h3]
      · rw [if_neg h2]
    · rw [if_neg h1]
theorem span_dec (s t : Sp) : ∃ q : Bool, q = true ↔ s = t := by
  by_cases h : s = t
  · exact ⟨true, by simp [h]⟩
  · exact ⟨false, by simp [h]⟩

/-- What a call leaves that answers whether two are the same, and writes nothing. -/
def ResEq (w : World) (p : Prop) (e : Ending) (w' : World) : Prop := ∃ q : Bool, e = .returned (.bool q) ∧ (q = true ↔ p) ∧ ∃ n, w' = w.drewN n

theorem eql_nil {P : Program} (w : World) (t e : TypeId) (a : Option Addr) (l c : Nat) (h : P.underlying t = some (.slice e)) : (binOp .eql t (.slice a l c) (.slice none 0 0)).run P w = .ok (.bool a.isNone) w := by
  simp only [binOp, Sem.run_bind, run_equal_slice_nil w t e a l c h, Result.andThen_ok, Sem.run_pure]

/-- What a call leaves that makes spans: a slice of its own that reads as l; what was there stands. -/
def ResS (w : World) (l : List Sp) (e : Ending) (w' : World) : Prop :=
  ∃ A c, e = .returned (.slice A l.length c) ∧ w'.ownsRow w.heap.size 35 6 (.slice A l.length c) l.length (l.flatMap Sp.cells) ∧ Below w.heap.size w w'

set_option maxRecDepth 100000 in
set_option maxHeartbeats 400000 in
theorem cloneSpans_any (A : Option Addr) (n cap B : Nat) (l : List Sp) (w : World) (hB : B ≤ w.heap.size) (hb : n ≤ 2513169434916) (hr : RdS w B A n l) :
    Calls Try.prog 74 #[.slice A n cap] w (ResS w l) := by
  obtain ⟨i0, hi0, hz0, hz1, hz2⟩ := info_parts Try.infoSpan
  have hl := hr.len
  cases A with
  | none =>
    have hn : n = 0 := by
      by_cases h0 : n = 0
      · exact h0
      · obtain ⟨b, off, h, _⟩ := hr.2 (by omega)
        cases h
    subst hn
    obtain rfl : l = [] := List.length_eq_zero_iff.1 hl
    have hq := fun W : World => eql_nil (P := Try.prog) W 31 _ none 0 cap Try.underlying31
    go_enter Try.func74, Try.ntmps74
    go_wp2_with fail
    go_ret
    exact ⟨none, 0, rfl, World.ownsRow_nil _ _ _ _, Below.refl _ _⟩
  | some a =>
    have HN := Lib.hid (own_new w #[] 35 0 6 rfl (by unfold maxLen; omega) w.heap.size (Nat.le_refl _))
    have HR : Hid (RdS (w.alloc (.cells #[] 35)) B (some a) n l) := Lib.hid (Rd.alloc hr _ hB (Nat.le_refl _))
    have HL := Lib.hid hl
    clear hl hr
    have hq := fun W : World => eql_nil (P := Try.prog) W 31 _ (some a) n cap Try.underlying31
    go_enter Try.func74, Try.ntmps74
    go_wp2_with (at_builtin; refine wpList_app _ rfl (.tmp 5) (.tmp 6) _ rfl w.heap.size 35 i0 _ 6 56 Try.underlying31 hi0 hz0 hz1 hz2 rfl (by omega) _ _ _ _ rfl HN.out B _ _ _ _ rfl HR.out (cells_oneCell _) (by unfold maxLen; omega) (by omega) (by simp) ?_; intro A2 c2 w2 hown2 hg2 _)
    go_ret
    rw [List.nil_append, Nat.zero_add] at hown2
    exact ⟨A2, c2, by rw [HL.out]; rfl, by rw [HL.out]; exact hown2, below_app ((Below.refl _ _).alloc (Nat.le_refl _) _) HN.out hg2 (by simp)⟩

theorem below_dN {B : Nat} {a w : World} (h : Below B a w) (n : Nat) : Below B a (w.drewN n) := ⟨h.os, h.tape, h.output, h.size, h.block⟩
theorem below_via {B : Nat} {a b c : World} (h : Below B a b) (k : Below b.heap.size b c) (hB : B ≤ b.heap.size) : Below B a c := h.trans (k.mono hB)
end Go.Proofs.Ytdjcifeoplgkpaa
