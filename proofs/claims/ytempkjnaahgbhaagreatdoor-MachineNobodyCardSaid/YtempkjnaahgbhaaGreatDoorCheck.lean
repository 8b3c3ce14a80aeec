/-
  The walks of span.within at int and at byte: whether all lie between two bounds. Conditions: the slice reads as a list, not longer than memory bears.
  The walk of span.Check: it answers OK just if the span may be; new memory alone is laid. Condition: the name is not longer than memory bears.
-/
import Derived.Test.YtempkjnaahgbhaaGreatDoorRows
import Derived.Test.YtempkjnaahgbhaaGreatDoorBase
namespace Go.Proofs.YtempkjnaahgbhaaGreatDoor
open Go.RowKit

set_option maxHeartbeats 400000 in
theorem within_int (lo hi : Int) (A : Option Addr) (n cap B : Nat) (zs : List Int) (w : World) (hbig : zs.length ≤ 140737488355328)
    (hn : zs.length = n) (hr : Rd w B 1 A n (zs.map (Value.int .i64))) :
    Calls Tryz.prog 106 #[.int .i64 lo, .int .i64 hi, .slice A n cap] w fun e w' => e = .returned (.bool (allIn lo hi zs)) ∧ w = w' := by
  subst hn
  go_enter Tryz.func106, Tryz.ntmps106
  go_wp2
  go_loop [11] (fun i => ∃ k : Nat, k ≤ zs.length ∧ i = .int .i64 k ∧ (zs.take k).all (inB lo hi) = true) (fun i => zs.length - (intOf i).toNat)
  case atStart => exact ⟨0, by omega, rfl, by simp⟩
  case round =>
    obtain ⟨k, hk, rfl, ha⟩ := hrel
    have HA := Lib.hid ha; clear ha
    by_cases hlt : k < zs.length
    · obtain ⟨b, off, rfl, _, hcell⟩ := hr.at_ (k := k) hlt (by simpa using hlt)
      rw [List.getElem_map] at hcell
      clear hr
      go_wp2
      · go_ret
        exact ⟨ret_bool (all_false_of _ _ k hlt (inB_f (by assumption))).symm, rfl⟩
      · go_round
        case rel => exact ⟨k + 1, by omega, by go_num, by rw [all_take_succ _ _ k hlt, HA.out, inB_t (by omega) (by omega)]; rfl⟩
        case measure => simp [intOf]; omega
      · go_ret
        exact ⟨ret_bool (all_false_of _ _ k hlt (inB_f (.inl (by assumption)))).symm, rfl⟩
    · clear hr
      go_wp2
      go_ret
      have e : zs.take k = zs := List.take_of_length_le (by omega)
      exact ⟨ret_bool (by unfold allIn; rw [← HA.out, e]), rfl⟩

set_option maxHeartbeats 400000 in
theorem within_byte (lo hi : Int) (A : Option Addr) (n cap B : Nat) (zs : List UInt8) (w : World) (hbig : zs.length ≤ 140737488355328)
    (hn : zs.length = n) (hr : Rd w B 1 A n (zs.map fun c => Value.int .u8 c.toNat)) :
    Calls Tryz.prog 105 #[.int .u8 lo, .int .u8 hi, .slice A n cap] w fun e w' => e = .returned (.bool (allBytes lo hi zs)) ∧ w = w' := by
  subst hn
  go_enter Tryz.func105, Tryz.ntmps105
  go_wp2
  go_loop [11] (fun i => ∃ k : Nat, k ≤ zs.length ∧ i = .int .i64 k ∧ (zs.take k).all (fun c => inB lo hi c.toNat) = true) (fun i => zs.length - (intOf i).toNat)
  case atStart => exact ⟨0, by omega, rfl, by simp⟩
  case round =>
    obtain ⟨k, hk, rfl, ha⟩ := hrel
    have HA := Lib.hid ha; clear ha
    by_cases hlt : k < zs.length
    · obtain ⟨b, off, rfl, _, hcell⟩ := hr.at_ (k := k) hlt (by simpa using hlt)
      rw [List.getElem_map] at hcell
      clear hr
      go_wp2
      · go_ret
        exact ⟨ret_bool (all_false_of _ _ k hlt (inB_f (by assumption))).symm, rfl⟩
      · go_round
        case rel => exact ⟨k + 1, by omega, by go_num, by rw [all_take_succ _ _ k hlt, HA.out]; rw [inB_t (by omega) (by omega)]; rfl⟩
        case measure => simp [intOf]; omega
      · go_ret
        exact ⟨ret_bool (all_false_of _ _ k hlt (inB_f (.inl (by assumption)))).symm, rfl⟩
    · clear hr
      go_wp2
      go_ret
      have e : zs.take k = zs := List.take_of_length_le (by omega)
      exact ⟨ret_bool (by unfold allBytes; rw [← HA.out, e]), rfl⟩
end Go.Proofs.YtempkjnaahgbhaaGreatDoor
namespace Go.Proofs.YtempkjnaahgbhaaGreatDoor
open Go.RowKit

set_option maxRecDepth 100000 in
set_option maxHeartbeats 400000 in
theorem check_any (s : Sp) (w : World) (hs : s.nm.size ≤ 140737488355328) :
    Calls Tryz.prog 59 #[s.val] w fun e w' => e = .returned (.int .i64 s.check) ∧ Below w.heap.size w w' := by
  go_enter Tryz.func59, Tryz.ntmps59
  go_wp2_with fail
  · have h1 : (1 : Int) ≤ s.nm.size := by assumption
    have h2 : (s.nm.size : Int) ≤ 32 := by assumption
    refine upon_conv_sb Tryz.underlying9 Tryz.underlying32 Tryz.underlying5 ?_
    intro cap w1 _ hb hz hr
    have hB := blk_cell (blk_below hb (by simp) (heap_alloc_new w _))
    have hb1 : Below w.heap.size w w1 := ((Below.refl _ _).alloc (Nat.le_refl _) _).trans (hb.mono (by simp))
    simp only [World.size_alloc] at hz hr
    clear hb
    have hz1 : w.heap.size < w1.heap.size := by omega
    go_wp2_with fail
    refine (within_byte _ _ _ _ _ _ s.nm.data.toList _ (by simpa using hs) rfl hr).mono ?_
    rintro e w2 ⟨rfl, rfl⟩
    clear hr
    cases hq1 : allBytes 33 126 s.nm.data.toList
    · go_wp2_with fail
      go_ret
      exact ⟨ret_int (Sp.check_f (by simp [Sp.ok, hq1])).symm, hb1⟩
    · go_wp2_with fail
      refine (within_int _ _ _ _ _ _ [s.tr, s.id] _ (by simp) rfl (Rd.new (by simp) (by simp) (by simp))).mono ?_
      rintro e w3 ⟨rfl, rfl⟩
      have hb2 := hb1.alloc (by omega) (.cells #[.int .i64 s.tr, .int .i64 s.id] 3)
      cases hq2 : allIn 1 1099511627776 [s.tr, s.id]
      · go_wp2_with fail
        go_ret
        exact ⟨ret_int (Sp.check_f (by simp [Sp.ok, hq2])).symm, hb2⟩
      · go_wp2_with fail
        refine (within_int _ _ _ _ _ _ [s.pa, s.st, s.en] _ (by simp) rfl (Rd.new (by simp) (by simp) (by simp))).mono ?_
        rintro e w3 ⟨rfl, rfl⟩
        have hb3 := hb2.alloc (by simp; omega) (.cells #[.int .i64 s.pa, .int .i64 s.st, .int .i64 s.en] 3)
        cases hq3 : allIn 0 1099511627776 [s.pa, s.st, s.en]
        · go_wp2_with fail
          go_ret
          exact ⟨ret_int (Sp.check_f (by simp [Sp.ok, hq3])).symm, hb3⟩
        · cases h4 : s.pa == s.id
          · have n4 : s.pa ≠ s.id := by simpa using h4
            by_cases h5 : s.st ≤ s.en
            · have h5' : ¬ s.en < s.st := by omega
              have HN := Lib.hid n4; clear n4
              go_wp2_with fail
              go_ret
              exact ⟨ret_int (Sp.check_t (by have n4 := HN.out; simp [Sp.ok, hq1, hq2, hq3, n4, h5]; omega)).symm, hb3⟩
            · have h5' : s.en < s.st := by omega
              have HN := Lib.hid n4; clear n4
              go_wp2_with fail
              go_ret
              exact ⟨ret_int (Sp.check_f (by simp [Sp.ok, h5])).symm, hb3⟩
          · have n4 : s.pa = s.id := by simpa using h4
            have HN := Lib.hid n4; clear n4
            go_wp2_with fail
            go_ret
            exact ⟨ret_int (Sp.check_f (by simp [Sp.ok, HN.out])).symm, hb3⟩
  · have h2 : (32 : Int) < s.nm.size := by assumption
    go_ret
    exact ⟨ret_int (Sp.check_f (by simp [Sp.ok]; intros; omega)).symm, (Below.refl _ _).alloc (Nat.le_refl _) _⟩
  · have h2 : (s.nm.size : Int) < 1 := by assumption
    go_ret
    exact ⟨ret_int (Sp.check_f (by simp [Sp.ok]; intros; omega)).symm, (Below.refl _ _).alloc (Nat.le_refl _) _⟩
end Go.Proofs.YtempkjnaahgbhaaGreatDoor
