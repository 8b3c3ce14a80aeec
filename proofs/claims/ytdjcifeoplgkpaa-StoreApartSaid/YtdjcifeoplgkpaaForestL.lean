/-
  The plain side of a forest's branches: what lay lays. No condition.
-/
import Derived.Test.YtdjcifeoplgkpaaForestP
namespace Go.Proofs.Ytdjcifeoplgkpaa
open Go.RowKit

/-- A branch. -/
structure Br where
  dp : Nat
  orp : Bool
  sp : Sp
instance : Inhabited Br := ⟨⟨0, false, default⟩⟩
def Br.cells (b : Br) : List Value := [.int .i64 b.dp, .bool b.orp, .int .i64 b.sp.tr, .int .i64 b.sp.id, .int .i64 b.sp.pa, .int .i64 b.sp.st, .int .i64 b.sp.en, .string b.sp.nm]
theorem Br.cells_len (b : Br) : b.cells.length = 8 := rfl
theorem br_one (b : Br) : ∀ u ∈ b.cells, u.oneCell' = true := by
  intro u hu
  simp only [Br.cells, List.mem_cons, List.not_mem_nil, or_false] at hu
  rcases hu with rfl | rfl | rfl | rfl | rfl | rfl | rfl | rfl <;> rfl
/-- Spans and what stands beneath them. -/
def layL (L : List Sp) : Nat → Nat → Bool → List Int → List Br
  | 0, _, _, _ => []
  | n + 1, dp, o, ids => (sortS (ids.map (getS L))).flatMap fun s => ⟨dp, o, s⟩ :: layL L n (dp + 1) false (kidIds L s.id)
/-- Beneath these stands nobody more than n deep; they are all there. -/
def Fine (L : List Sp) : Nat → List Int → Prop
  | 0, ids => ids = []
  | n + 1, ids => ∀ i ∈ ids, (∃ s, atS L i = some s) ∧ Fine L n (kidIds L i)
theorem Fine.kid {L : List Sp} {n : Nat} {ids : List Int} (h : Fine L (n + 1) ids) {s : Sp} (hs : s ∈ sortS (ids.map (getS L))) : atS L s.id = some s ∧ Fine L n (kidIds L s.id) := by
  obtain ⟨i, hi, rfl⟩ := List.mem_map.1 (sortS_mem.1 hs)
  obtain ⟨⟨s, h1⟩, h2⟩ := h i hi
  have h3 := (atS_some h1).2
  have h4 : getS L i = s := by rw [getS, h1]; rfl
  rw [h4, h3]
  exact ⟨h1, h2⟩
theorem layL_nil (L : List Sp) (n dp : Nat) (o : Bool) : layL L n dp o [] = [] := by
  cases n with
  | zero => rfl
  | succ n =>
    have : sortS ([].map (getS L)) = [] := List.length_eq_zero_iff.1 (sortS_len _)
    rw [layL, this]; rfl
/-- What is still to be laid, when k of the spans are. -/
def layR (L : List Sp) (n dp : Nat) (o : Bool) (l : List Sp) (k : Nat) : List Br := (l.drop k).flatMap fun s => ⟨dp, o, s⟩ :: layL L n (dp + 1) false (kidIds L s.id)
theorem layR_step (L : List Sp) (n dp : Nat) (o : Bool) (l : List Sp) (k : Nat) (hk : k < l.length) : layR L n dp o l k = (⟨dp, o, l[k]⟩ :: layL L n (dp + 1) false (kidIds L l[k].id)) ++ layR L n dp o l (k + 1) := by
  unfold layR
  rw [List.drop_eq_getElem_cons hk, List.flatMap_cons]
theorem layR_end (L : List Sp) (n dp : Nat) (o : Bool) (l : List Sp) (k : Nat) (hk : l.length ≤ k) : layR L n dp o l k = [] := by
  unfold layR; rw [List.drop_of_length_le hk]; rfl
end Go.Proofs.Ytdjcifeoplgkpaa
