/-
  The walks of span.within at int and at byte: whether all lie between two bounds. Conditions: the slice reads as a list, not longer than memory bears.
-/
import Derived.Test.YtdjcifeoplgkpaaRows
import Derived.Test.YtdjcifeoplgkpaaBase
import Derived.Test.YtdjcifeoplgkpaaPure
namespace Go.Proofs.Ytdjcifeoplgkpaa
open Go.RowKit

set_option maxHeartbeats 400000 in
theorem within_int (lo hi : Int) (A : Option Addr) (n cap B : Nat) (zs : List Int) (w : World) (hbig : zs.length ≤ 140737488355328)
    (hn : zs.length = n) (hr : Rd w B 1 A n (zs.map (Value.int .i64))) :
    Calls Try.prog 63 #[.int .i64 lo, .int .i64 hi, .slice A n cap] w fun e w' => e = .returned (.bool (allIn lo hi zs)) ∧ w = w' := by
  subst hn
  go_enter Try.func63, Try.ntmps63
  go_wp2
  go_loop [11] (fun i => ∃ k : Nat, k ≤ zs.length ∧ i = .int .i64 k ∧ (zs.take k).all (inB lo hi) = true) (fun i => zs.length - (intOf i).toNat)
  case atStart => exact ⟨0, by omega, rfl, by simp⟩
  case round =>
    obtain ⟨k, hk, rfl, ha⟩ := hrel
    have HA := Lib.hid ha; clear ha
    by_cases hlt : k < zs.length
    · obtain ⟨b, off, rfl, _, hcell⟩ := hr.at_ (k := k) hlt (by simpa using hlt)
      rw [List.getElem_map] at hcell
      clear hr
      go_wp2
      · go_ret
        exact ⟨ret_bool (all_false_of _ _ k hlt (inB_f (by assumption))).symm, rfl⟩
      · go_round
        case rel => exact ⟨k + 1, by omega, by go_num, by rw [all_take_succ _ _ k hlt, HA.out, inB_t (by omega) (by omega)]; rfl⟩
        case measure => simp [intOf]; omega
      · go_ret
        exact ⟨ret_bool (all_false_of _ _ k hlt (inB_f (.inl (by assumption)))).symm, rfl⟩
    · clear hr
      go_wp2
      go_ret
      have e : zs.take k = zs := List.take_of_length_le (by omega)
      exact ⟨ret_bool (by unfold allIn; rw [← HA.out, e]), rfl⟩

set_option maxHeartbeats 400000 in
theorem within_byte (lo hi : Int) (A : Option Addr) (n cap B : Nat) (zs : List UInt8) (w : World) (hbig : zs.length ≤ 140737488355328)
    (hn : zs.length = n) (hr : Rd w B 1 A n (zs.map fun c => Value.int .u8 c.toNat)) :
    Calls Try.prog 62 #[.int .u8 lo, .int .u8 hi, .slice A n cap] w fun e w' => e = .returned (.bool (allBytes lo hi zs)) ∧ w = w' := by
  subst hn
  go_enter Try.func62, Try.ntmps62
  go_wp2
  go_loop [11] (fun i => ∃ k : Nat, k ≤ zs.length ∧ i = .int .i64 k ∧ (zs.take k).all (fun c => inB lo hi c.toNat) = true) (fun i => zs.length - (intOf i).toNat)
  case atStart => exact ⟨0, by omega, rfl, by simp⟩
  case round =>
    obtain ⟨k, hk, rfl, ha⟩ := hrel
    have HA := Lib.hid ha; clear ha
    by_cases hlt : k < zs.length
    · obtain ⟨b, off, rfl, _, hcell⟩ := hr.at_ (k := k) hlt (by simpa using hlt)
      rw [List.getElem_map] at hcell
      clear hr
      go_wp2
      · go_ret
        exact ⟨ret_bool (all_false_of _ _ k hlt (inB_f (by assumption))).symm, rfl⟩
      · go_round
        case rel => exact ⟨k + 1, by omega, by go_num, by rw [all_take_succ _ _ k hlt, HA.out]; rw [inB_t (by omega) (by omega)]; rfl⟩
        case measure => simp [intOf]; omega
      · go_ret
        exact ⟨ret_bool (all_false_of _ _ k hlt (inB_f (.inl (by assumption)))).symm, rfl⟩
    · clear hr
      go_wp2
      go_ret
      have e : zs.take k = zs := List.take_of_length_le (by omega)
      exact ⟨ret_bool (by unfold allBytes; rw [← HA.out, e]), rfl⟩
end Go.Proofs.Ytdjcifeoplgkpaa
