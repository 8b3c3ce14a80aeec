/-
  A field stored at an element of a slice that the call owns. No condition: plain lemmas.
-/
import Derived.Test.YtnocknhfdegkgaaPutAt
namespace Go.Proofs.Ytnocknhfdegkgaa
open Go.RowKit

theorem flat_set1 {α : Type} (f : α → List Value) (sz : Nat) (hf : ∀ a, (f a).length = sz) (l : List α) (k i : Nat) (hk : k < l.length) (hi : i < sz) (y : α) (u : Value) (hy : f y = (f l[k]).set i u) :
    (l.set k y).flatMap f = (l.flatMap f).set (k * sz + i) u := by
  have e : l = l.take k ++ l[k] :: l.drop (k + 1) := by rw [← List.drop_eq_getElem_cons hk, List.take_append_drop]
  have h1 : ((l.take k).flatMap f).length = k * sz := by rw [flat_len f sz hf, List.length_take, Nat.min_eq_left (by omega)]
  have h2 : l.flatMap f = (l.take k).flatMap f ++ (f l[k] ++ (l.drop (k + 1)).flatMap f) := by
    conv => lhs; rw [e]
    rw [List.flatMap_append, List.flatMap_cons]
  have h3 : (f l[k]).length = sz := hf _
  rw [List.set_eq_take_append_cons_drop, if_pos hk, List.flatMap_append, List.flatMap_cons, h2, hy]
  generalize (l.take k).flatMap f = a at h1 ⊢
  generalize (l.drop (k + 1)).flatMap f = c
  generalize f l[k] = b at h3 ⊢
  rw [List.set_append_right _ _ (by omega), h1, Nat.add_sub_cancel_left, List.set_append_left _ _ (by omega)]

theorem own_setFld {α : Type} {w : World} {base g n c sz : Nat} {e : TypeId} {f : α → List Value} {l : List α} (h : w.ownsRow base e sz (.slice (some ⟨g, 0, none⟩) n c) n (l.flatMap f)) (hf : ∀ a, (f a).length = sz) (k i : Nat) (y : α) (u : Value) (hk : k < l.length) (hi : i < sz) (hy : f y = (f l[k]).set i u) :
    (w.setCell ⟨g, k * sz + i, none⟩ u).ownsRow base e sz (.slice (some ⟨g, 0, none⟩) n c) n ((l.set k y).flatMap f) := by
  have hl := h.1
  rw [flat_len f sz hf] at hl
  rcases h.2 with ⟨hv, _⟩ | ⟨g', cap, cur, hv, hb, hh, hn, hc, hs, ht⟩
  · cases hv
  · injection hv with ha _ hc'
    injection ha with ha
    injection ha with ha
    subst ha hc'
    have hnc : n * sz ≤ c * sz := Nat.mul_le_mul_right sz hn
    have hks : k * sz + sz ≤ n * sz := by
      have := Nat.mul_le_mul_right sz (show k + 1 ≤ l.length from hk)
      rw [Nat.succ_mul] at this; omega
    rw [setCell_eq_setRow w g _ cur e _ u hh]
    refine ⟨?_, .inr ⟨g, c, _, rfl, hb, setRow_heap w g cur _ e _ hh, hn, hc, ?_, ?_⟩⟩
    · rw [flat_len f sz hf, List.length_set]; exact hl
    · simp; omega
    · rw [flat_set1 f sz hf l k i hk hi y u hy, ← ht, ← List.take_set]
      simp
theorem own_frozen {w : World} {base g n c sz m : Nat} {e : TypeId} {xs : List Value} (h : w.ownsRow base e sz (.slice (some ⟨g, 0, none⟩) n c) m xs) (i : Nat) : w.frozen? ⟨g, i, none⟩ = false := by
  rcases h.2 with ⟨hv, _⟩ | ⟨g', cap, cur, hv, hb, hh, _⟩
  · cases hv
  · injection hv with ha _ hc'
    injection ha with ha
    injection ha with ha
    subst ha
    simp [World.frozen?, hh]
end Go.Proofs.Ytnocknhfdegkgaa
