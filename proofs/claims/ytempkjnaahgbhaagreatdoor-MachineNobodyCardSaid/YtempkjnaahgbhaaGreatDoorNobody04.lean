/-
  The walks of a forest's methods at a forest that no call made: nil, or the zero struct. Condition: it is one of the two.
-/
import Derived.Test.YtempkjnaahgbhaaGreatDoorForest2
import Derived.Test.YtempkjnaahgbhaaGreatDoorForest4
namespace Go.Proofs.YtempkjnaahgbhaaGreatDoor
open Go Go.RowKit Go.Maps

/-- A forest that no call made. -/
def NoF (w : World) (v : Value) : Prop := v = .pointer none ∨ ∃ z, v = .pointer (some ⟨z, 0, none⟩) ∧ w.heap[z]? = some (.cells #[.map none, .map none, .int .i64 0] 221 (0, 0))
theorem NoF.below {w w' : World} {v : Value} (h : NoF w v) (hb : Below w.heap.size w w') : NoF w' v := by
  rcases h with h | ⟨z, h, hz⟩
  · exact .inl h
  · exact .inr ⟨z, h, (hb.block z (Array.getElem?_eq_some_iff.1 hz).1).trans hz⟩
set_option maxRecDepth 100000 in
theorem madeNo_any {w : World} {v : Value} (h : NoF w v) : Calls Tryz.prog 147 #[v] w fun e w' => e = .returned (.bool false) ∧ w = w' := by
  rcases h with rfl | ⟨z, rfl, hz⟩
  · go_enter Tryz.func147, Tryz.ntmps147
    go_wp2_with fail
    go_ret
    exact ⟨rfl, rfl⟩
  · have hc := blk_cell hz
    clear hz
    go_enter Tryz.func147, Tryz.ntmps147
    go_wp2_with fail
    go_ret
    exact ⟨rfl, rfl⟩
set_option maxRecDepth 100000 in
theorem spansNo_any {w : World} {v : Value} (h : NoF w v) : Calls Tryz.prog 128 #[v] w fun e w' => e = .returned (.slice none 0 0) ∧ w = w' := by
  have HN := Lib.hid h
  clear h
  go_enter Tryz.func128, Tryz.ntmps128
  go_wp2_with fail
  refine (madeNo_any HN.out).mono ?_
  rintro e w1 ⟨rfl, rfl⟩
  go_wp2_with fail
  go_ret
  exact ⟨rfl, rfl⟩
set_option maxRecDepth 100000 in
theorem branchesNo_any {w : World} {v : Value} (h : NoF w v) : Calls Tryz.prog 144 #[v] w fun e w' => e = .returned (.slice none 0 0) ∧ w = w' := by
  have HN := Lib.hid h
  clear h
  go_enter Tryz.func144, Tryz.ntmps144
  go_wp2_with fail
  refine (madeNo_any HN.out).mono ?_
  rintro e w1 ⟨rfl, rfl⟩
  go_wp2_with fail
  go_ret
  exact ⟨rfl, rfl⟩
set_option maxRecDepth 100000 in
theorem cloneNo_any {w : World} {v : Value} (h : NoF w v) : Calls Tryz.prog 117 #[v] w fun e w' => e = .returned (.pointer none) ∧ w = w' := by
  have HN := Lib.hid h
  clear h
  go_enter Tryz.func117, Tryz.ntmps117
  go_wp2_with fail
  refine (madeNo_any HN.out).mono ?_
  rintro e w1 ⟨rfl, rfl⟩
  go_wp2_with fail
  go_ret
  exact ⟨rfl, rfl⟩
set_option maxRecDepth 100000 in
theorem endNo_any {w : World} {v : Value} (h : NoF w v) : Calls Tryz.prog 156 #[v] w fun e w' => e = .returned (.int .i64 0) ∧ w = w' := by
  have HN := Lib.hid h
  clear h
  go_enter Tryz.func156, Tryz.ntmps156
  go_wp2_with fail
  refine (spansNo_any HN.out).mono ?_
  rintro e w1 ⟨rfl, rfl⟩
  go_wp2_with fail
  refine wp_loop_rounds 1 ?_
  rw [rounds_succ]
  go_wp2_with fail
  go_ret
  exact ⟨rfl, rfl⟩
set_option maxRecDepth 100000 in
theorem addNo_any {w : World} {v : Value} (h : NoF w v) (A : Option Addr) (n c : Nat) : Calls Tryz.prog 167 #[v, .slice A n c] w fun e w' => e = .returned (.tuple #[.agg #[.int .i64 0, .int .i64 0, .int .i64 0, .int .i64 0, .int .i64 0], .int .i64 6]) ∧ Below w.heap.size w w' := by
  have HN : Hid (NoF ((w.alloc (.cells #[.int .i64 0, .int .i64 0, .int .i64 0, .int .i64 0, .int .i64 0] 54)).alloc (.cells #[.int .i64 0, .int .i64 0, .int .i64 0, .int .i64 0, .int .i64 0] 54)) v) := Lib.hid (h.below (((Below.refl _ _).alloc (Nat.le_refl _) _).alloc (by simp) _))
  clear h
  go_enter Tryz.func167, Tryz.ntmps167
  go_wp2_with fail
  refine (madeNo_any HN.out).mono ?_
  rintro e w1 ⟨rfl, rfl⟩
  go_wp2_with fail
  refine bodyPost_ret (v := .tuple #[.agg #[.int .i64 0, .int .i64 0, .int .i64 0, .int .i64 0, .int .i64 0], .int .i64 6]) (by simp [results, Tryz.results167, go_sem]) rfl ⟨rfl, ?_⟩
  repeat (first | exact (((Below.refl _ _).alloc (Nat.le_refl _) _).alloc (by simp) _) | refine Below.setCell ?_ (Nat.le_refl _) _)
end Go.Proofs.YtempkjnaahgbhaaGreatDoor
