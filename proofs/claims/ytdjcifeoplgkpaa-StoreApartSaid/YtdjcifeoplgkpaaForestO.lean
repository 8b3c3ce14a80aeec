/-
  The plain law of a forest's spans in another order: each is added, and the branches are the same. No condition.
-/
import Derived.Test.YtdjcifeoplgkpaaForest4
import Derived.Test.YtdjcifeoplgkpaaForest2
namespace Go.Proofs.Ytdjcifeoplgkpaa
open Go Go.RowKit

theorem atS_perm {L m : List Sp} (hn : (L.map Sp.id).Nodup) (hp : m.Perm L) (x : Int) : atS m x = atS L x := by
  have hnm : (m.map Sp.id).Nodup := ((hp.map Sp.id).nodup_iff).2 hn
  cases h : atS L x with
  | some s =>
    obtain ⟨h1, h2⟩ := atS_some h
    rw [← h2]; exact atS_mem hnm (hp.mem_iff.2 h1)
  | none =>
    cases h2 : atS m x with
    | none => rfl
    | some s =>
      obtain ⟨h3, h4⟩ := atS_some h2
      exact absurd h4 (atS_none h s (hp.mem_iff.1 h3))
theorem it_sub {L m : List Sp} (hn : (L.map Sp.id).Nodup) (hs : ∀ s ∈ m, s ∈ L) : ∀ (n : Nat) (x y : Int), it m n x = some y → it L n x = some y := by
  intro n
  induction n with
  | zero => intro x y h; exact h
  | succ n ih =>
    intro x y h
    obtain ⟨s, h1, h2⟩ := it_here h
    obtain ⟨h3, h4⟩ := atS_some h1
    have h5 := atS_mem hn (hs s h3)
    rw [h4] at h5
    rw [it_one h5]
    exact ih _ _ h2
/-- Each is added, one behind the other. -/
theorem add_each {L : List Sp} (hn : (L.map Sp.id).Nodup) (hA : Acy L) (hl : L.length ≤ 64) : ∀ (m2 m1 : List Sp) (c : Cnt), (m1 ++ m2).Perm L → addL (m1, c) m2 = (m1 ++ m2, { c with ad := c.ad + m2.length }) := by
  intro m2
  induction m2 with
  | nil => intro m1 c _; simp [addL]
  | cons s m2 ih =>
    intro m1 c hp
    have hlen := hp.length_eq
    simp only [List.length_append, List.length_cons] at hlen
    have hnm : ((m1 ++ s :: m2).map Sp.id).Nodup := ((hp.map Sp.id).nodup_iff).2 hn
    have hno : atS m1 s.id = none := by
      cases h : atS m1 s.id with
      | none => rfl
      | some t =>
        obtain ⟨h1, h2⟩ := atS_some h
        rw [List.map_append, List.nodup_append] at hnm
        exact absurd h2 (hnm.2.2 t.id (List.mem_map.2 ⟨t, h1, rfl⟩) s.id (by simp))
    have hab : aboveB m1 s.pa s.id = false := by
      cases h : aboveB m1 s.pa s.id with
      | false => rfl
      | true =>
        obtain ⟨k, hk⟩ := (aboveB_iff m1 s.pa s.id).1 h
        have hsL : s ∈ L := hp.mem_iff.1 (by simp)
        exact absurd (it_sub hn (fun t ht => hp.mem_iff.1 (by simp [ht])) k _ _ hk) (hA s hsL k)
    have h1 : addS (m1, c) s = (m1 ++ [s], { c with ad := c.ad + 1 }) := addS_add hno (by omega) hab
    show addL (addS (m1, c) s) m2 = _
    rw [h1, ih (m1 ++ [s]) _ (by simpa using hp)]
    simp only [List.append_assoc, List.cons_append, List.nil_append, List.length_cons]
    congr 2
    omega
theorem add_order {tr : Int} {L m : List Sp} (h : Grown tr L) (hp : m.Perm L) : addA tr [] m = (m, ⟨m.length, 0, 0, 0, 0⟩, 0) := by
  have hf : m.all (fits tr) = true := List.all_eq_true.2 fun s hs => h.fits s (hp.mem_iff.1 hs)
  rw [addA, if_pos hf, add_each h.nodup h.acy h.len m [] Cnt.zero (by simpa using hp)]
  simp [Cnt.zero]
theorem layL_order {L m : List Sp} (hn : (L.map Sp.id).Nodup) (hp : m.Perm L) : ∀ (n dp : Nat) (o : Bool) (ids ids' : List Int), ids.Perm ids' → layL m n dp o ids = layL L n dp o ids' := by
  intro n
  induction n with
  | zero => intro dp o ids ids' _; rfl
  | succ n ih =>
    intro dp o ids ids' hi
    have hg : getS m = getS L := funext fun x => by rw [getS, getS, atS_perm hn hp]
    rw [layL, layL, hg, sortS_congr (hi.map _)]
    congr 1
    funext s
    rw [ih (dp + 1) false (kidIds m s.id) (kidIds L s.id) ((hp.filter _).map _)]
theorem branches_order {L m : List Sp} (hn : (L.map Sp.id).Nodup) (hp : m.Perm L) : branches m = branches L := by
  rw [branches, branches, hp.length_eq]
  have hlo : isLost m = isLost L := funext fun s => by rw [isLost, isLost, atS_perm hn hp]
  rw [layL_order hn hp _ _ _ (kidIds m 0) (kidIds L 0) ((hp.filter _).map _), layL_order hn hp _ _ _ (lost m) (lost L) (by rw [lost, lost, hlo]; exact (hp.filter _).map _)]
theorem lost_mem {L : List Sp} (hn : (L.map Sp.id).Nodup) : ∀ i ∈ lost L, ∃ s, atS L i = some s := fun i hi => by
  obtain ⟨s, hs, rfl⟩ := List.mem_map.1 hi
  exact ⟨s, atS_mem hn (List.mem_filter.1 hs).1⟩
theorem branches_len {tr : Int} {L : List Sp} (h : Grown tr L) : (branches L).length ≤ 140737488355328 := by
  have h1 := laid_le h.nodup h.acy (n := L.length + 1) (dp := 0) (o := false) (fine_ids h.nodup h.acy (fun i hi => let ⟨s, hs, _⟩ := kid_mem h.nodup hi; ⟨s, hs⟩)) (kids_anti h.nodup h.acy 0)
  have h2 := laid_le h.nodup h.acy (n := L.length + 1) (dp := 0) (o := true) (fine_ids h.nodup h.acy (lost_mem h.nodup)) (lost_anti h.nodup (List.Perm.refl _))
  have h3 := h.len
  rw [branches, List.length_append]
  omega
end Go.Proofs.Ytdjcifeoplgkpaa
