/-
  The walk of the forest laws' light: may spans be gone through. Condition: the slice reads as a list.
-/
import Derived.Test.YtnocknhfdegkgaaSpanRow
import Derived.Deep.RegionWith
import Derived.Deep.RegionHeld3
import Derived.Deep.DrawnRows
namespace Go.Proofs.Ytnocknhfdegkgaa
open Go.RowKit
attribute [local go_sem ↓] Go.wp_at_zero Go.wp_at_succ

def lsum (l : List Sp) : Nat := (l.map fun s => min s.nm.size 65537).sum
def lightB (l : List Sp) : Bool := decide (l.length ≤ 200) && decide (lsum (l.take 201) ≤ 65536)
theorem lsum_take (l : List Sp) (k : Nat) (h : k < l.length) : lsum (l.take (k + 1)) = lsum (l.take k) + min l[k].nm.size 65537 := by
  rw [List.take_succ_eq_append_getElem h]; simp only [lsum, List.map_append, List.sum_append, List.map_cons, List.map_nil, List.sum_cons, List.sum_nil, Nat.add_zero]
theorem lsum_mem {l : List Sp} {s : Sp} (h : s ∈ l) : min s.nm.size 65537 ≤ lsum l := by
  induction l with
  | nil => simp at h
  | cons a l ih =>
    simp only [lsum, List.map_cons, List.sum_cons]
    rcases List.mem_cons.1 h with rfl | h
    · omega
    · have := ih h; unfold lsum at this; omega
theorem lsum_le (l : List Sp) : lsum l ≤ 65537 * l.length := by
  induction l with
  | nil => simp [lsum]
  | cons a l ih => simp only [lsum, List.map_cons, List.sum_cons, List.length_cons] at ih ⊢; omega
theorem light_parts {l : List Sp} (h : lightB l = true) : l.length ≤ 200 ∧ ∀ s ∈ l, s.nm.size ≤ 65536 := by
  simp only [lightB, Bool.and_eq_true, decide_eq_true_eq] at h
  refine ⟨h.1, fun s hs => ?_⟩
  rw [List.take_of_length_le (by omega)] at h
  have := lsum_mem hs
  omega

set_option maxRecDepth 100000 in
set_option maxHeartbeats 400000 in
theorem light_any (A : Option Addr) (n cap B : Nat) (l : List Sp) (w : World) (hbig : n ≤ 140737488355328) (hr : RdS w B A n l) :
    Calls Try.prog 12 #[.slice A n cap] w fun e w' => e = .returned (.bool (lightB l)) ∧ w = w' := by
  have hlen := hr.len
  subst hlen
  go_enter Try.func12, Try.ntmps12
  go_wp2_with fail
  go_loop [3, 4] (fun s i => ∃ k : Nat, k ≤ l.length ∧ k ≤ 201 ∧ i = .int .i64 k ∧ s = .int .i64 (lsum (l.take k) : Nat)) (fun _ i => l.length - (intOf i).toNat)
  case atStart => exact ⟨0, by omega, by omega, rfl, by simp [lsum]⟩
  case round =>
    obtain ⟨k, hk, hk2, rfl, rfl⟩ := hrel
    have hle := lsum_le (l.take k)
    have hle2 : (l.take k).length ≤ 201 := by simp; omega
    by_cases hlt : k < l.length
    · by_cases h200 : k ≤ 200
      · obtain ⟨b, off, rfl, _, _, _, _, _, _, q5⟩ := hr.at_ hlt
        have HS := Lib.hid (lsum_take l k hlt)
        have hb1 : ((lsum (l.take k) : Nat) : Int) ≤ 20000000 := by omega
        generalize hN : lsum (l.take k) = N at *
        generalize l[k] = s at *
        clear hr hN
        by_cases hmin : s.nm.size ≤ 65537
        · have hm : min (s.nm.size : Int) 65537 = s.nm.size := by omega
          have HM : Hid (min s.nm.size 65537 = s.nm.size) := Lib.hid (by omega)
          clear hle hle2
          go_wp2_with fail
          go_round
          case rel => exact ⟨k + 1, by omega, by omega, by go_num, by rw [HS.out, HM.out]; go_num⟩
          case measure => simp [intOf]; omega
        · have hm : min (s.nm.size : Int) 65537 = 65537 := by omega
          have HM : Hid (min s.nm.size 65537 = 65537) := Lib.hid (by omega)
          clear hle hle2
          go_wp2_with fail
          go_round
          case rel => exact ⟨k + 1, by omega, by omega, by go_num, by rw [HS.out, HM.out]; go_num⟩
          case measure => simp [intOf]; omega
      · obtain rfl : k = 201 := by omega
        have HF : Hid (lightB l = false) := Lib.hid (by simp [lightB]; intro h; omega)
        have hgt : (200 : Int) < (l.length : Int) := by omega
        go_wp2_with fail
        go_ret
        exact ⟨ret_bool HF.out.symm, rfl⟩
    · have e1 : l.take k = l := List.take_of_length_le (by omega)
      have e2 : k ≤ 201 → l.take 201 = l := fun h => List.take_of_length_le (by omega)
      by_cases hb : l.length ≤ 200
      · by_cases hs : lsum l ≤ 65536
        · have HF : Hid (lightB l = true) := Lib.hid (by simp [lightB, hb, e2 hk2, hs])
          have hs' : ((lsum l : Nat) : Int) ≤ 65536 := by omega
          rw [e1]
          clear e1 e2 hs hle hle2
          go_wp2_with fail
          go_ret
          exact ⟨ret_bool HF.out.symm, rfl⟩
        · have HF : Hid (lightB l = false) := Lib.hid (by simp [lightB, e2 hk2]; intro _; omega)
          have hs' : ¬ ((lsum l : Nat) : Int) ≤ 65536 := by omega
          rw [e1]
          clear e1 e2 hs hle hle2
          go_wp2_with fail
          go_ret
          exact ⟨ret_bool HF.out.symm, rfl⟩
      · have HF : Hid (lightB l = false) := Lib.hid (by simp [lightB]; intro h; omega)
        have hgt : (200 : Int) < (l.length : Int) := by omega
        clear e1 e2
        go_wp2_with fail
        go_ret
        exact ⟨ret_bool HF.out.symm, rfl⟩

end Go.Proofs.Ytnocknhfdegkgaa
