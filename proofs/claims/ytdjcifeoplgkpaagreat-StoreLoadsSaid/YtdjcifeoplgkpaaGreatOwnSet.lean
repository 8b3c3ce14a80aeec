/-
  A struct stored at a place of a slice that the call owns. No condition: plain lemmas.
  A field stored at an element of a slice that the call owns. No condition: plain lemmas.
  An owned row of which one cell is written. No condition: plain lemmas.
-/
import Derived.Test.YtdjcifeoplgkpaaGreatBase
import Derived.Laws.CopyRow
namespace Go.Proofs.YtdjcifeoplgkpaaGreat
open Go.RowKit

theorem flat_set {α : Type} (f : α → List Value) (sz : Nat) (hf : ∀ a, (f a).length = sz) (l : List α) (k : Nat) (hk : k < l.length) (y : α) :
    (l.set k y).flatMap f = (l.flatMap f).take (k * sz) ++ f y ++ (l.flatMap f).drop (k * sz + sz) := by
  have e : l = l.take k ++ l[k] :: l.drop (k + 1) := by rw [← List.drop_eq_getElem_cons hk, List.take_append_drop]
  have h1 : ((l.take k).flatMap f).length = k * sz := by rw [flat_len f sz hf, List.length_take, Nat.min_eq_left (by omega)]
  have h2 : l.flatMap f = (l.take k).flatMap f ++ (f l[k] ++ (l.drop (k + 1)).flatMap f) := by
    conv => lhs; rw [e]
    rw [List.flatMap_append, List.flatMap_cons]
  have h3 : (f l[k]).length = sz := hf _
  rw [List.set_eq_take_append_cons_drop, if_pos hk, List.flatMap_append, List.flatMap_cons, h2]
  generalize (l.take k).flatMap f = a at h1 ⊢
  generalize (l.drop (k + 1)).flatMap f = c
  generalize f l[k] = b at h3 ⊢
  have e1 : (a ++ (b ++ c)).take (k * sz) = a := by rw [← h1, List.take_left]
  have e2 : (a ++ (b ++ c)).drop (k * sz + sz) = c := by
    have h4 : k * sz + sz = (a ++ b).length := by rw [List.length_append, h1, h3]
    rw [← List.append_assoc, h4, List.drop_left]
  rw [e1, e2, List.append_assoc]

section
variable {P : Program} {α : Type}
theorem run_store_elem (w : World) (base g n c sz k : Nat) (e : TypeId) (f : α → List Value) (hf : ∀ a, (f a).length = sz) (l : List α) (y : α) (hk : k < l.length) (h1 : ∀ u ∈ f y, u.oneCell' = true)
    (h : w.ownsRow base e sz (.slice (some ⟨g, 0, none⟩) n c) n (l.flatMap f)) :
    ∃ w', (storeCells ⟨g, k * sz, none⟩ (f y) 0).run P w = .ok () w' ∧ w'.ownsRow base e sz (.slice (some ⟨g, 0, none⟩) n c) n ((l.set k y).flatMap f) ∧ w.grownBy w' (some g) ∧ w'.heap.size = w.heap.size := by
  have hl := h.1
  rw [flat_len f sz hf] at hl
  rcases h.2 with ⟨hv, _⟩ | ⟨g', cap, cur, hv, hb, hh, hn, hc, hs, ht⟩
  · cases hv
  · injection hv with ha _ hc'
    injection ha with ha
    injection ha with ha
    subst ha hc'
    have hnc : n * sz ≤ c * sz := Nat.mul_le_mul_right sz hn
    have hks : k * sz + sz ≤ n * sz := by
      have := Nat.mul_le_mul_right sz (show k + 1 ≤ l.length from hk)
      rw [Nat.succ_mul] at this; omega
    have hrun := run_storeCells_at (P := P) g (k * sz) e (f y) 0 cur w hh (by rw [hf]; omega) h1
    refine ⟨_, hrun, ⟨?_, .inr ⟨g, c, _, rfl, hb, setRow_heap w g cur _ e _ hh, hn, hc, ?_, ?_⟩⟩, ?_, ?_⟩
    · rw [flat_len f sz hf, List.length_set]; exact hl
    · simp [hf]; omega
    · rw [flat_set f sz hf l k hk y, ← ht]
      simp only [Nat.add_zero, hf]
      rw [List.take_append, List.take_append, List.take_take, Nat.min_eq_right (by omega), List.take_of_length_le (l := f y) (by simp [hf]; omega), List.take_take, Nat.min_eq_left (by omega), List.drop_take]
      simp [hf]
      rw [Nat.min_eq_left (show k * sz ≤ cur.size by omega)]
    · refine ⟨rfl, rfl, rfl, by simp [World.setRow], fun i _ hi => ?_⟩
      have hne : i ≠ g := fun e => hi (by rw [e])
      simp [World.setRow, Array.getElem?_modify, Ne.symm hne]
    · simp [World.setRow]

/-- The same at the operation, for the walk. -/
theorem wpList_store_elem {ops : Array Oper} {rest : List Oper} {o : Oper} {a : Act} {Q : Exit → Act → World → Prop} (w : World) (hgd : o.guard = none) (s x : Operand) (t : TypeId) (ho : o.op = Op.store t s x)
    (base g n c sz k : Nat) (e : TypeId) (f : α → List Value) (hf : ∀ a, (f a).length = sz) (l : List α) (y : α) (v : Value) (hk : k < l.length) (h1 : ∀ u ∈ f y, u.oneCell' = true)
    (hz : (sizeOf t).run P w = .ok sz w) (hs : a.eval s = .pointer (some ⟨g, k * sz, none⟩)) (hx : a.eval x = v) (hv : v.cells.toList = f y) (hown : w.ownsRow base e sz (.slice (some ⟨g, 0, none⟩) n c) n (l.flatMap f))
    (hK : ∀ w', w'.ownsRow base e sz (.slice (some ⟨g, 0, none⟩) n c) n ((l.set k y).flatMap f) → w.grownBy w' (some g) → w'.heap.size = w.heap.size → wpList P ops Q rest (a.put o.dst undef) w') :
    wpList P ops Q (o :: rest) a w := by
  refine wpList_plain hgd fun K' hK' => ?_
  obtain ⟨w', hrun, r1, r2, r3⟩ := run_store_elem (P := P) w base g n c sz k e f hf l y hk h1 hown
  have hcs : v.cells.size = sz := by rw [← hf y, ← hv]; simp
  unfold Oper.wp
  simp [execOp, ho, hs, hx, Instr.storeAt, Instr.sureAddr, storeVar, Sem.run_bind, hz, hv, hcs, hrun, Result.andThen]
  exact hK' _ _ (hK w' r1 r2 r3)
end
end Go.Proofs.YtdjcifeoplgkpaaGreat
namespace Go.Proofs.YtdjcifeoplgkpaaGreat
open Go.RowKit

theorem flat_set1 {α : Type} (f : α → List Value) (sz : Nat) (hf : ∀ a, (f a).length = sz) (l : List α) (k i : Nat) (hk : k < l.length) (hi : i < sz) (y : α) (u : Value) (hy : f y = (f l[k]).set i u) :
    (l.set k y).flatMap f = (l.flatMap f).set (k * sz + i) u := by
  have e : l = l.take k ++ l[k] :: l.drop (k + 1) := by rw [← List.drop_eq_getElem_cons hk, List.take_append_drop]
  have h1 : ((l.take k).flatMap f).length = k * sz := by rw [flat_len f sz hf, List.length_take, Nat.min_eq_left (by omega)]
  have h2 : l.flatMap f = (l.take k).flatMap f ++ (f l[k] ++ (l.drop (k + 1)).flatMap f) := by
    conv => lhs; rw [e]
    rw [List.flatMap_append, List.flatMap_cons]
  have h3 : (f l[k]).length = sz := hf _
  rw [List.set_eq_take_append_cons_drop, if_pos hk, List.flatMap_append, List.flatMap_cons, h2, hy]
  generalize (l.take k).flatMap f = a at h1 ⊢
  generalize (l.drop (k + 1)).flatMap f = c
  generalize f l[k] = b at h3 ⊢
  rw [List.set_append_right _ _ (by omega), h1, Nat.add_sub_cancel_left, List.set_append_left _ _ (by omega)]

theorem own_setFld {α : Type} {w : World} {base g n c sz : Nat} {e : TypeId} {f : α → List Value} {l : List α} (h : w.ownsRow base e sz (.slice (some ⟨g, 0, none⟩) n c) n (l.flatMap f)) (hf : ∀ a, (f a).length = sz) (k i : Nat) (y : α) (u : Value) (hk : k < l.length) (hi : i < sz) (hy : f y = (f l[k]).set i u) :
    (w.setCell ⟨g, k * sz + i, none⟩ u).ownsRow base e sz (.slice (some ⟨g, 0, none⟩) n c) n ((l.set k y).flatMap f) := by
  have hl := h.1
  rw [flat_len f sz hf] at hl
  rcases h.2 with ⟨hv, _⟩ | ⟨g', cap, cur, hv, hb, hh, hn, hc, hs, ht⟩
  · cases hv
  · injection hv with ha _ hc'
    injection ha with ha
    injection ha with ha
    subst ha hc'
    have hnc : n * sz ≤ c * sz := Nat.mul_le_mul_right sz hn
    have hks : k * sz + sz ≤ n * sz := by
      have := Nat.mul_le_mul_right sz (show k + 1 ≤ l.length from hk)
      rw [Nat.succ_mul] at this; omega
    rw [setCell_eq_setRow w g _ cur e _ u hh]
    refine ⟨?_, .inr ⟨g, c, _, rfl, hb, setRow_heap w g cur _ e _ hh, hn, hc, ?_, ?_⟩⟩
    · rw [flat_len f sz hf, List.length_set]; exact hl
    · simp; omega
    · rw [flat_set1 f sz hf l k i hk hi y u hy, ← ht, ← List.take_set]
      simp
theorem own_frozen {w : World} {base g n c sz m : Nat} {e : TypeId} {xs : List Value} (h : w.ownsRow base e sz (.slice (some ⟨g, 0, none⟩) n c) m xs) (i : Nat) : w.frozen? ⟨g, i, none⟩ = false := by
  rcases h.2 with ⟨hv, _⟩ | ⟨g', cap, cur, hv, hb, hh, _⟩
  · cases hv
  · injection hv with ha _ hc'
    injection ha with ha
    injection ha with ha
    subst ha
    simp [World.frozen?, hh]
end Go.Proofs.YtdjcifeoplgkpaaGreat
namespace Go.Proofs.YtdjcifeoplgkpaaGreat
open Go Go.RowKit Go.Maps

theorem own_setRaw {w : World} {base g n c sz : Nat} {e : TypeId} {xs : List Value} (h : w.ownsRow base e sz (.slice (some ⟨g, 0, none⟩) n c) n xs) (j : Nat) (u : Value) :
    (w.setCell ⟨g, j, none⟩ u).ownsRow base e sz (.slice (some ⟨g, 0, none⟩) n c) n (xs.set j u) := by
  have hl := h.1
  rcases h.2 with ⟨hv, _⟩ | ⟨g', cap, cur, hv, hb, hh, hn, hc, hs, ht⟩
  · cases hv
  · injection hv with ha _ hc'
    injection ha with ha
    injection ha with ha
    subst ha hc'
    have hnc : n * sz ≤ c * sz := Nat.mul_le_mul_right sz hn
    rw [setCell_eq_setRow w g _ cur e _ u hh]
    refine ⟨by rw [List.length_set]; exact hl, .inr ⟨g, c, _, rfl, hb, setRow_heap w g cur _ e _ hh, hn, hc, ?_, ?_⟩⟩
    · simp; omega
    · rw [← ht, ← List.take_set]
      simp
theorem own_cellAt {w : World} {base g n c sz : Nat} {e : TypeId} {xs : List Value} (h : w.ownsRow base e sz (.slice (some ⟨g, 0, none⟩) n c) n xs) (j : Nat) (hj : j < n * sz) : ∃ v, w.cell? ⟨g, j, none⟩ = some v := by
  have hl := h.1
  have hj' : j < xs.length := by omega
  have hc := World.ownsRow.cells h (g := g) rfl j xs[j] (List.getElem?_eq_getElem hj')
  rw [Addr.add_lit, Nat.zero_add] at hc
  exact ⟨_, hc⟩
theorem own_slice {w : World} {base n c m sz : Nat} {A : Option Addr} {e : TypeId} {xs : List Value} (h : w.ownsRow base e sz (.slice A n c) m xs) (hm : 0 < m) : ∃ g, A = some ⟨g, 0, none⟩ ∧ base ≤ g := by
  rcases h.2 with ⟨_, h0⟩ | ⟨g, cap, cur, hv, hb, _⟩
  · omega
  · injection hv with ha
    exact ⟨g, ha, hb⟩
end Go.Proofs.YtdjcifeoplgkpaaGreat
