/-
  The walk of slices.Equal at numbers; how many branches a trace has. Condition: the slices read as lists.
-/
import Derived.Test.YtdjcifeoplgkpaaGreatStoreA
import Derived.Test.YtdjcifeoplgkpaaGreatSched
import Derived.Test.YtdjcifeoplgkpaaGreatStd
namespace Go.Proofs.YtdjcifeoplgkpaaGreat
open Go Go.RowKit Go.Maps

theorem look_sps {T : List Tr} (h : GrT T) {x : Int} {L : List Sp} (hg : getT T x = some L) : ((lookT T x).map Br.sp).Perm L := by
  unfold lookT
  rw [hg]
  exact branches_perm (h.ok _ (getT_some hg)).1
set_option maxRecDepth 100000 in
set_option maxHeartbeats 400000 in
theorem eqI_any (A1 A2 : Option Addr) (n1 n2 c1 c2 B1 B2 : Nat) (l1 l2 : List Int) (w : World) (h1 : RdI w B1 A1 n1 l1) (h2 : RdI w B2 A2 n2 l2) (hb : n1 ≤ 140737488355328) :
    Calls Tryz.prog 40 #[.slice A1 n1 c1, .slice A2 n2 c2] w (ResEq w (l1 = l2)) := by
  have hl1 : l1.length = n1 := by simpa using h1.1
  have hl2 : l2.length = n2 := by simpa using h2.1
  subst hl1 hl2
  by_cases hlen : l1.length = l2.length
  · have HLE := Lib.hid hlen
    rw [← hlen] at h2 ⊢
    clear hlen
    go_enter Tryz.func40, Tryz.ntmps40
    go_wp2_with fail
    go_loopw [13] (fun i wr => ∃ k n : Nat, k ≤ l1.length ∧ i = .int .i64 k ∧ wr = w.drewN n ∧ l1.take k = l2.take k) (fun i _ => l1.length - (intOf i).toNat)
    case atStart => exact ⟨0, 0, by omega, rfl, rfl, by simp⟩
    case round =>
      obtain ⟨k, n, hk, rfl, rfl, ht⟩ := hrel
      by_cases hlt : k < l1.length
      · obtain ⟨b1, o1, rfl, _, x0⟩ := RdI.at_ h1 hlt
        obtain ⟨b2, o2, rfl, _, y0⟩ := RdI.at_ h2 (k := k) (by have := HLE.out; omega)
        have HT1 := Lib.hid (List.take_succ_eq_append_getElem hlt)
        have HT2 := Lib.hid (List.take_succ_eq_append_getElem (l := l2) (i := k) (by have := HLE.out; omega))
        have HT := Lib.hid ht
        generalize l1[k] = s at *
        generalize l2[k] = t at *
        clear h1 h2 ht
        have hk1 : (k : Int) < (l1.length : Int) := by omega
        go_wp2_with fail
        cases hq : (s == t)
        · have HQ : Hid (¬ s = t) := Lib.hid (by simpa using hq)
          refine wp_region_sched [(0, true), (1, true), (2, true), (3, true), (4, true), (5, true), (6, true), (7, true), (8, true)] (fun W => ∃ m, W = w.drewN m) (by kernel_rfl) (by kernel_rfl) rfl (by kernel_rfl) (⟨n + 1, rfl⟩) ?_
          repeat (first | (apply sched_take rfl; (focus (first | rfl | (go_simp; done))); (focus (intro W hW; obtain ⟨m, rfl⟩ := hW; go_simp; rfl)); (focus (intro K hK; go_simp; refine hK _ ?_; clear hK K))) | (apply sched_skip rfl; (focus (first | rfl | (go_simp; done))); (focus (intro K hK; go_simp; refine hK _ ?_; clear hK K))))
          refine sched_nil ?_
          go_wp2_with fail
          go_ret
          refine ⟨false, rfl, ⟨(fun h => by cases h), fun h => ?_⟩, n + 1, rfl⟩
          have e := HT1.out
          rw [h, HT2.out] at e
          have e2 := List.append_cancel_left e
          simp only [List.cons.injEq, and_true] at e2
          exact absurd e2.symm HQ.out
        · have HE : Hid (s = t) := Lib.hid (by simpa using hq)
          refine wp_region_sched [(0, true), (1, true), (2, true), (3, true), (4, true), (5, true), (6, true), (7, true), (8, true)] (fun W => ∃ m, W = w.drewN m) (by kernel_rfl) (by kernel_rfl) rfl (by kernel_rfl) (⟨n + 1, rfl⟩) ?_
          repeat (first | (apply sched_take rfl; (focus (first | rfl | (go_simp; done))); (focus (intro W hW; obtain ⟨m, rfl⟩ := hW; go_simp; rfl)); (focus (intro K hK; go_simp; refine hK _ ?_; clear hK K))) | (apply sched_skip rfl; (focus (first | rfl | (go_simp; done))); (focus (intro K hK; go_simp; refine hK _ ?_; clear hK K))))
          refine sched_nil ?_
          go_wp2_with fail
          go_roundw
          case rel =>
            have hf : l1.take (k + 1) = l2.take (k + 1) := by rw [HT1.out, HT2.out, HT.out, HE.out]
            exact ⟨k + 1, n + 1, by omega, by go_num, rfl, hf⟩
          case measure => simp [intOf]; omega
      · go_wp2_with fail
        go_ret
        have hle := HLE.out
        rw [List.take_of_length_le (by omega), List.take_of_length_le (by omega)] at ht
        exact ⟨_, rfl, by simp [ht], n, rfl⟩
  · have hne : ((l1.length : Int) == l2.length) = false := by simp; omega
    go_enter Tryz.func40, Tryz.ntmps40
    go_wp2_with fail
    go_ret
    exact ⟨_, rfl, ⟨(fun h => by cases h), fun h => absurd (congrArg List.length h) hlen⟩, 0, rfl⟩
theorem look_len7 {T : List Tr} (h : GrT T) (x : Int) : (lookT T x).length ≤ 64 := by
  cases hg : getT T x with
  | none => simp [lookT, hg]
  | some L =>
    have h1 := (look_sps h hg).length_eq
    have h2 := (h.ok _ (getT_some hg)).1.len
    rw [List.length_map] at h1
    dsimp only at h2
    omega
end Go.Proofs.YtdjcifeoplgkpaaGreat
