/-
  The walks of a forest's first methods: New, made, above. Conditions: the forest lies in memory as New made it.
-/
import Derived.Test.YtdjcifeoplgkpaaForestM
import Derived.Test.YtdjcifeoplgkpaaSched
namespace Go.Proofs.Ytdjcifeoplgkpaa
open Go Go.RowKit Go.Maps

def rowsOf (S : Nat → Prop) (p a d : Nat) (k : Nat) : Prop := S k ∧ k ≠ p ∧ k ≠ a ∧ k ≠ d
/-- A forest in block p, its maps in blocks a and d; all it has lies in S. -/
structure Fo (w : World) (p a d : Nat) (tr : Int) (L : List Sp) (S : Nat → Prop) : Prop where
  hp : w.heap[p]? = some (.cells #[.map (some a), .map (some d), .int .i64 tr] 107 (0, 0))
  all : AllAt w a L
  down : DownAt w d L (rowsOf S p a d)
  sp : S p
  sa : S a
  sd : S d
  ad : a ≠ d
  htr : 1 ≤ tr ∧ tr ≤ 1099511627776
  gr : Grown tr L
  lt : ∀ k, S k → k < w.heap.size
section
variable {w w' : World} {p a d : Nat} {tr : Int} {L : List Sp} {S S2 : Nat → Prop}
theorem Fo.fr (h : Fo w p a d tr L S) (hf : Fr S2 w w') (hS : ∀ k, S k → ¬ S2 k) : Fo w' p a d tr L S :=
  ⟨(hf.block p (h.lt p h.sp) (hS p h.sp)).trans h.hp, h.all.eq (hf.block a (h.lt a h.sa) (hS a h.sa)), h.down.fr hf (hS d h.sd) (fun k hk => hS k hk.1), h.sp, h.sa, h.sd, h.ad, h.htr, h.gr, fun k hk => Nat.lt_of_lt_of_le (h.lt k hk) hf.size⟩
theorem Fo.below {B : Nat} (h : Fo w p a d tr L S) (hb : Below B w w') (hB : w.heap.size ≤ B) : Fo w' p a d tr L S :=
  h.fr (S2 := fun k => False) ⟨hb.os, hb.tape, hb.output, hb.size, fun k hk _ => hb.block k (by omega)⟩ (fun _ _ h => h)
theorem Fo.mono (h : Fo w p a d tr L S) (hS : ∀ k, S k → S2 k) (hl : ∀ k, S2 k → k < w.heap.size) : Fo w p a d tr L S2 :=
  ⟨h.hp, h.all, h.down.mono (fun k hk => ⟨hS k hk.1, hk.2⟩), hS _ h.sp, hS _ h.sa, hS _ h.sd, h.ad, h.htr, h.gr, hl⟩
theorem Fo.drewN (h : Fo w p a d tr L S) (n : Nat) : Fo (w.drewN n) p a d tr L S := h.below (below_drew' w n) (Nat.le_refl _)
end
theorem wf_pa {tr : Int} {L : List Sp} (h : Grown tr L) : ∀ s ∈ L, wfI s.pa := fun s hs => by
  have := ok_bounds (fits_ok (h.fits s hs)).1
  exact wfI_of (by omega) (by omega)

/-- What a call leaves that makes a forest. -/
def ResF (w : World) (t : Int) (L : List Sp) (e : Ending) (w' : World) : Prop :=
  ∃ p a d, e = .returned (.pointer (some ⟨p, 0, none⟩)) ∧ Fo w' p a d t L (fun k => w.heap.size ≤ k ∧ k < w'.heap.size) ∧ Below w.heap.size w w'

set_option maxRecDepth 100000 in
set_option maxHeartbeats 400000 in
theorem new_any (t : Int) (w : World) (ht : 1 ≤ t ∧ t ≤ 1099511627776) :
    Calls Try.prog 39 #[.int .i64 t] w (ResF w t []) := by
  have h1 : ¬ t < 1 := by omega
  have h2 : ¬ (1099511627776 : Int) < t := by omega
  have hmm := @run_makeMap Try.prog
  go_enter Try.func39, Try.ntmps39
  go_wp2_with fail
  go_ret
  refine ⟨_, w.heap.size, w.heap.size + 1, rfl, ⟨?_, ?_, ?_, ?_, ?_, ?_, by omega, ht, .nil, fun k hk => hk.2⟩, ?_⟩
  · exact heap_at (by simp)
  · refine ⟨.map [], ?_, .nil⟩
    have h := World.ownsMap_made w Try.prog 3 spElem
    exact (h.alloc _).alloc _
  · have h := World.ownsMap_made (w.alloc (.map #[] 0)) Try.prog 3 slElem
    rw [World.size_alloc] at h
    exact ⟨.map [], fun _ => 0, fun _ => 0, h.alloc _, fun _ _ => rfl, fun x hx => absurd rfl hx, fun x y hx => absurd rfl hx⟩
  · exact ⟨by omega, by simp⟩
  · exact ⟨by omega, by simp <;> omega⟩
  · exact ⟨by omega, by simp⟩
  · exact ((((Below.refl _ _).alloc (Nat.le_refl _) _).alloc (by simp) _).alloc (by simp <;> omega) _)

set_option maxRecDepth 100000 in
theorem newNil_any (t : Int) (w : World) (ht : t < 1 ∨ 1099511627776 < t) :
    Calls Try.prog 39 #[.int .i64 t] w fun e w' => e = .returned (.pointer none) ∧ w' = w := by
  rcases ht with h1 | h1
  · go_enter Try.func39, Try.ntmps39
    go_wp2_with fail
    go_ret
    exact ⟨rfl, rfl⟩
  · have h2 : ¬ t < 1 := by omega
    go_enter Try.func39, Try.ntmps39
    go_wp2_with fail
    go_ret
    exact ⟨rfl, rfl⟩

set_option maxRecDepth 100000 in
theorem fmade_any {w : World} {p a d : Nat} {tr : Int} {L : List Sp} {S : Nat → Prop} (h : Fo w p a d tr L S) :
    Calls Try.prog 59 #[.pointer (some ⟨p, 0, none⟩)] w fun e w' => e = .returned (.bool true) ∧ w = w' := by
  have hc := blk_cell h.hp
  have h1 : (0 : Int) < tr := by have := h.htr; omega
  clear h
  go_enter Try.func59, Try.ntmps59
  go_wp2_with fail
  go_ret
  exact ⟨rfl, rfl⟩

set_option maxRecDepth 100000 in
set_option maxHeartbeats 400000 in
theorem above_any {w : World} {a d : Nat} {L : List Sp} (h : AllAt w a L) (hwf : ∀ s ∈ L, wfI s.pa) (hl : L.length ≤ 64) (id who : Int) (hid : wfI id) :
    Calls Try.prog 64 #[.agg #[.map (some a), .map (some d)], .int .i64 id, .int .i64 who] w fun e w' => e = .returned (.bool (aboveB L id who)) ∧ Below w.heap.size w w' := by
  have HA := Lib.hid h
  have HW := Lib.hid hwf
  have ha := h.lt
  have hlen := fun W (hW : AllAt W a L) => AllAt.len hW 3
  have HL := Lib.hid hlen
  clear h hwf hlen
  have hl0 := HL.out (w.alloc (.cells #[.map (some a), .map (some d)] 105)) (HA.out.eq (Below.heap_alloc _ _ _ ha))
  go_enter Try.func64, Try.ntmps64
  go_wp2_with fail
  go_loopw [1, 13] (fun x i wr => ∃ (k : Nat) (y : Int), k ≤ L.length + 1 ∧ i = .int .i64 k ∧ x = .int .i64 y ∧ wfI y ∧ aboveN L (L.length + 1 - k) y who = aboveB L id who ∧ Below (w.heap.size + 1) (w.alloc (.cells #[.map (some a), .map (some d)] 105)) wr) (fun _ i _ => L.length + 1 - (intOf i).toNat)
  case atStart => exact ⟨0, id, by omega, rfl, rfl, hid, rfl, Below.refl _ _⟩
  case round =>
    obtain ⟨k, y, hk, rfl, rfl, hy, hab, hb⟩ := hrel
    have hbc := blk_cell (blk_below hb (by omega) (heap_alloc_new w _))
    have hAr : AllAt wr a L := HA.out.eq ((hb.block a (by omega)).trans (Below.heap_alloc _ _ _ ha))
    have hlk := hAr.look hy true
    simp only [if_true] at hlk
    have hsz := hb.size
    simp at hsz
    have hbw : Below w.heap.size w wr := ((Below.refl _ _).alloc (Nat.le_refl _) _).trans (hb.mono (by omega))
    have HB := Lib.hid hb
    clear hb
    by_cases hlt : k < L.length + 1
    · obtain ⟨m, hm⟩ : ∃ m, L.length + 1 - k = m + 1 := ⟨L.length - k, by omega⟩
      rw [hm] at hab
      have HAB := Lib.hid hab
      have HM := Lib.hid hm
      clear hab hm
      have hk1 : (k : Int) < (L.length : Int) + 1 := by omega
      by_cases hyw : y = who
      · have HR : Hid (aboveB L id who = true) := Lib.hid (by rw [← HAB.out, aboveN, if_pos hyw])
        go_wp2_with fail
        go_ret
        exact ⟨by rw [HR.out]; rfl, hbw⟩
      · cases hat : atS L y with
        | none =>
          rw [hat] at hlk
          generalize getS L y = s at hlk
          have HR : Hid (aboveB L id who = false) := Lib.hid (by rw [← HAB.out, aboveN, if_neg hyw, hat])
          clear hat
          go_wp2_with fail
          go_ret
          exact ⟨by rw [HR.out]; rfl, hbw.alloc (by omega) _⟩
        | some s =>
          have hs : getS L y = s := by rw [getS, hat]; rfl
          rw [hat, hs] at hlk
          have hws := HW.out s (atS_some hat).1
          have HR : Hid (aboveN L m s.pa who = aboveB L id who) := Lib.hid (by rw [← HAB.out, aboveN, if_neg hyw, hat])
          clear hat hs
          go_wp2_with fail
          go_roundw
          case rel => exact ⟨k + 1, s.pa, by omega, by go_num, rfl, hws, by rw [show L.length + 1 - (k + 1) = m by have := HM.out; omega]; exact HR.out, HB.out.alloc (by omega) _⟩
          case measure => simp [intOf]; omega
    · have hk0 : L.length + 1 - k = 0 := by omega
      rw [hk0] at hab
      have HR : Hid (aboveB L id who = false) := Lib.hid hab.symm
      clear hab
      have hk1 : ¬ (k : Int) < (L.length : Int) + 1 := by omega
      go_wp2_with fail
      go_ret
      exact ⟨by rw [HR.out]; rfl, hbw⟩

end Go.Proofs.Ytdjcifeoplgkpaa
