/-
  The walk of spandrelref03.Check: the same answer. Condition: the name is not longer than memory bears.
-/
import Derived.Test.YtdjcifeoplgkpaaGreatCheck
import Derived.Deep.DeepCutAuto
import Derived.Deep.CutBlock
namespace Go.Proofs.YtdjcifeoplgkpaaGreat
open Go.RowKit

def Sp.front (s : Sp) : Bool :=
  decide (1 ≤ s.tr) && decide (s.tr ≤ 1099511627776) && decide (1 ≤ s.id) && decide (s.id ≤ 1099511627776) && decide (0 ≤ s.pa) && decide (s.pa ≤ 1099511627776) &&
  decide (0 ≤ s.st) && decide (s.st ≤ s.en) && decide (s.en ≤ 1099511627776) && decide (s.pa ≠ s.id) && decide (1 ≤ s.nm.size) && decide (s.nm.size ≤ 32)
theorem size_of_empty (s : ByteArray) : s.toList = [] ↔ s.size = 0 := by
  rw [ByteArray.toList_eq, List.eq_nil_iff_length_eq_zero]; simp

theorem byte_at (s : ByteArray) (k : Nat) (h : k < s.data.toList.length) : s.data.toList[k] = s[k]'(by simpa using h) := rfl
theorem Sp.ok_front (s : Sp) : s.ok = (s.front && allBytes 33 126 s.nm.data.toList) := by
  cases hq : allBytes 33 126 s.nm.data.toList
  · simp [Sp.ok, hq]
  · rw [Bool.eq_iff_iff]
    simp only [Sp.ok, hq, Sp.front, Bool.and_eq_true, decide_eq_true_eq, allIn, List.all_cons, List.all_nil, inB_iff, Bool.and_true]
    constructor <;> (intro h; omega)

set_option maxRecDepth 100000 in
set_option maxHeartbeats 1000000 in
theorem refCheck_any (s : Sp) (w : World) (hs : s.nm.size ≤ 140737488355328) :
    Calls Tryz.prog 35 #[s.val] w fun e w' => e = .returned (.int .i64 s.check) ∧ Below w.heap.size w w' := by
  go_enter Tryz.func35, Tryz.ntmps35
  go_upto_region 1 with fail
  go_cut [3] (fun v wx => v = .bool s.front ∧ wx = w.alloc (.cells #[.int .i64 s.tr, .int .i64 s.id, .int .i64 s.pa, .int .i64 s.st, .int .i64 s.en, .string s.nm] 38))
  case first =>
    go_wp2_with fail
    all_goals
      go_meet
      refine ⟨congrArg Value.bool ?_, by first | rfl | simp [*]⟩
      try rw [size_of_empty] at *
      rw [Bool.eq_iff_iff]
      simp only [Sp.front, Bool.and_eq_true, decide_eq_true_eq, Bool.false_eq_true, bne_iff_ne, Bool.not_eq_true', List.isEmpty_eq_false_iff, ne_eq, size_of_empty]
      constructor <;> (intro h; first | exact False.elim h | omega)
  case rest =>
    obtain ⟨rfl, rfl⟩ := hcut
    go_wp2_with fail
    go_loop [3, 71] (fun ok i => ∃ k : Nat, k ≤ s.nm.size ∧ i = .int .i64 k ∧ ok = .bool (s.front && allBytes 33 126 (s.nm.data.toList.take k))) (fun _ i => s.nm.size - (intOf i).toNat)
    case atStart => exact ⟨0, by omega, rfl, by simp [allBytes]⟩
    case round =>
      obtain ⟨k, hk, rfl, rfl⟩ := hrel
      by_cases hlt : k < s.nm.size
      · have hl : k < s.nm.data.toList.length := by simpa using hlt
        have hstep : allBytes 33 126 (s.nm.data.toList.take (k + 1)) = (allBytes 33 126 (s.nm.data.toList.take k) && inB 33 126 (s.nm.data.toList[k]).toNat) := all_take_succ _ _ k hl
        have HS := Lib.hid hstep; clear hstep
        cases hq : (s.front && allBytes 33 126 (s.nm.data.toList.take k))
        · have HQ := Lib.hid hq; clear hq
          go_wp2_with fail
          go_round
          case rel => exact ⟨k + 1, by omega, by go_num, congrArg Value.bool (by rw [HS.out, ← Bool.and_assoc, HQ.out]; rfl)⟩
          case measure => simp [intOf]; omega
        · have HQ := Lib.hid hq; clear hq
          go_wp2_with fail
          · have h33 : (33 : Int) ≤ (s.nm[k].toNat : Int) := by assumption
            go_round
            case rel => exact ⟨k + 1, by omega, by go_num, congrArg Value.bool (by rw [HS.out, ← Bool.and_assoc, HQ.out, byte_at]; simp [inB, h33])⟩
            case measure => simp [intOf]; omega
          · have h33 : ¬ (33 : Int) ≤ (s.nm[k].toNat : Int) := by assumption
            go_round
            case rel => exact ⟨k + 1, by omega, by go_num, congrArg Value.bool (by rw [HS.out, ← Bool.and_assoc, HQ.out, byte_at]; simp [inB, h33])⟩
            case measure => simp [intOf]; omega
      · have e : s.nm.data.toList.take k = s.nm.data.toList := List.take_of_length_le (by simp; omega)
        have ho := s.ok_front
        have HE := Lib.hid e; clear e
        have HO := Lib.hid ho; clear ho
        cases hq : (s.front && allBytes 33 126 (s.nm.data.toList.take k))
        · have HQ := Lib.hid hq; clear hq
          go_wp2_with fail
          go_ret
          exact ⟨ret_int (Sp.check_f (by rw [HO.out, ← HE.out, HQ.out])).symm, (Below.refl _ _).alloc (Nat.le_refl _) _⟩
        · have HQ := Lib.hid hq; clear hq
          go_wp2_with fail
          go_ret
          exact ⟨ret_int (Sp.check_t (by rw [HO.out, ← HE.out, HQ.out])).symm, (Below.refl _ _).alloc (Nat.le_refl _) _⟩
end Go.Proofs.YtdjcifeoplgkpaaGreat
