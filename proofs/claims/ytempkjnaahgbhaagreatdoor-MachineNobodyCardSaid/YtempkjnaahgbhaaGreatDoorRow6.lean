/-
  Rows of spans: one span laid, a row that grows. No condition: plain lemmas.
-/
import Derived.Test.YtempkjnaahgbhaaGreatDoorSpanRow
namespace Go.Proofs.YtempkjnaahgbhaaGreatDoor
open Go.RowKit

theorem Rd.one6 {w : World} {H : Nat} (hH : w.heap.size = H) (s : Sp) (t : TypeId) (fr : Nat × Nat) : Rd (w.alloc (.cells #[.int .i64 s.tr, .int .i64 s.id, .int .i64 s.pa, .int .i64 s.st, .int .i64 s.en, .string s.nm] t fr)) (H + 1) 6 (some ⟨H, 0, none⟩) 1 s.cells := by
  have := RdS.one hH s t fr; simpa [RdS] using this
theorem cells_one1 (s : Sp) : ∀ u ∈ s.cells, u.oneCell' = true := by have := cells_oneCell [s]; simpa using this
theorem own_ne {w : World} {base sz n c m k : Nat} {e : TypeId} {A : Option Addr} {xs : List Value} (h : w.ownsRow base e sz (.slice A n c) m xs) (hk : w.heap.size ≤ k) : some k ≠ A.map (·.block) := by
  intro he
  have := h.lt k (by rw [he]; cases A <;> rfl)
  omega
theorem grown_cell {w w' : World} {row : Option Nat} (hg : w.grownBy w' row) {p : Addr} (h1 : p.block < w.heap.size) (h2 : some p.block ≠ row) : w'.cell? p = w.cell? p := by
  simp only [World.cell?, hg.block p.block h1 h2]
theorem flat_snoc (l : List Sp) (s : Sp) : (l ++ [s]).flatMap Sp.cells = l.flatMap Sp.cells ++ s.cells := by simp

end Go.Proofs.YtempkjnaahgbhaaGreatDoor
