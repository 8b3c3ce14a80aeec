/-
  Slices of numbers: what one in memory reads as. No condition.
-/
import Derived.Test.YtdjcifeoplgkpaaBase
namespace Go.Proofs.Ytdjcifeoplgkpaa
open Go.RowKit

/-- A slice of numbers that reads as zs. -/
def RdI (w : World) (B : Nat) (A : Option Addr) (n : Nat) (zs : List Int) : Prop := Rd w B 1 A n (zs.map (Value.int .i64))
theorem RdI.len {w : World} {B n : Nat} {A : Option Addr} {zs : List Int} (h : RdI w B A n zs) : zs.length = n := by simpa using h.1
theorem RdI.at_ {w : World} {B n k : Nat} {A : Option Addr} {zs : List Int} (h : RdI w B A n zs) (hk : k < zs.length) :
    ∃ b off, A = some ⟨b, off, none⟩ ∧ b < B ∧ w.cell? ⟨b, off + k, none⟩ = some (.int .i64 zs[k]) := by
  have hl := h.len
  obtain ⟨b, off, e, hb, hc⟩ := Rd.at_ h (k := k) (by omega) (by simpa using hk)
  exact ⟨b, off, e, hb, by rw [hc]; simp⟩
theorem ints_one (zs : List Int) : ∀ u ∈ zs.map (Value.int .i64), u.oneCell' = true := by
  intro u hu; obtain ⟨_, _, rfl⟩ := List.mem_map.1 hu; rfl
end Go.Proofs.Ytdjcifeoplgkpaa
