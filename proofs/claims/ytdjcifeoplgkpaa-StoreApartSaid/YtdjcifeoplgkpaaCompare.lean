/-
  The walks of cmp.Compare, cmp.Or and span's compare and Less. No condition.
-/
import Derived.Test.YtdjcifeoplgkpaaSpanRow
import Derived.Test.YtdjcifeoplgkpaaSched
namespace Go.Proofs.Ytdjcifeoplgkpaa
open Go.RowKit

/-- Below 0, 0, above 0. -/
def cmpI (a b : Int) : Int := if a < b then -1 else if b < a then 1 else 0
def cmpS (a b : ByteArray) : Int := if Op.bytesLess a.toList b.toList = true then -1 else if a.toList = b.toList then 0 else 1
/-- The first that is not 0. -/
def orL : List Int → Int
  | [] => 0
  | x :: r => if x = 0 then orL r else x
def Sp.cmpL (s t : Sp) : List Int := [cmpI s.tr t.tr, cmpI s.st t.st, cmpI s.id t.id, cmpI s.pa t.pa, cmpI s.en t.en, cmpS s.nm t.nm]
def Sp.cmp (s t : Sp) : Int := orL (s.cmpL t)

/-- Draws and new blocks, no more. -/
def Gr (w W : World) : Prop := ∃ (q : Nat) (os : Array Obj), W = { w.drewN q with heap := w.heap ++ os }
section
variable {w W V : World}
theorem Gr.refl (w : World) : Gr w w := ⟨0, #[], by simp [World.drewN]⟩
theorem Gr.drewN (h : Gr w W) (n : Nat) : Gr w (W.drewN n) := by
  obtain ⟨q, os, rfl⟩ := h
  exact ⟨q + n, os, by simp [World.drewN, Nat.add_assoc]⟩
theorem Gr.drew (h : Gr w W) : Gr w W.drew := h.drewN 1
theorem Gr.alloc (h : Gr w W) (o : Obj) : Gr w (W.alloc o) := by
  obtain ⟨q, os, rfl⟩ := h
  exact ⟨q, os.push o, by simp [World.alloc, World.drewN, Array.push_append]⟩
theorem Gr.trans (h : Gr w W) (k : Gr W V) : Gr w V := by
  obtain ⟨q, os, rfl⟩ := h
  obtain ⟨p, os', rfl⟩ := k
  exact ⟨q + p, os ++ os', by simp [World.drewN, Nat.add_assoc, Array.append_assoc]⟩
theorem Gr.below (h : Gr w W) : Below w.heap.size w W := by
  obtain ⟨q, os, rfl⟩ := h
  refine ⟨rfl, rfl, rfl, by simp, fun k hk => ?_⟩
  simp [Array.getElem?_append_left hk]
end

set_option maxRecDepth 100000 in
set_option maxHeartbeats 400000 in
theorem compareInt_any (a b : Int) (w : World) :
    Calls Try.prog 82 #[.int .i64 a, .int .i64 b] w fun e w' => e = .returned (.int .i64 (cmpI a b)) ∧ w = w' := by
  go_enter Try.func82, Try.ntmps82
  go_wp2
  all_goals go_ret
  all_goals refine ⟨ret_int ?_, rfl⟩
  all_goals simp [cmpI]
  all_goals omega

set_option maxRecDepth 100000 in
set_option maxHeartbeats 400000 in
theorem compareStr_any (a b : ByteArray) (w : World) :
    Calls Try.prog 83 #[.string a, .string b] w fun e w' => e = .returned (.int .i64 (cmpS a b)) ∧ w = w' := by
  go_enter Try.func83, Try.ntmps83
  go_wp2
  all_goals go_ret
  all_goals refine ⟨ret_int ?_, rfl⟩
  all_goals simp [cmpS, *]
  all_goals (rename_i h; simpa using h)

set_option maxRecDepth 100000 in
set_option maxHeartbeats 400000 in
theorem or_any (A : Option Addr) (n cap B : Nat) (zs : List Int) (w : World) (hb : n ≤ 140737488355328) (hn : zs.length = n) (hr : Rd w B 1 A n (zs.map (Value.int .i64))) :
    Calls Try.prog 81 #[.slice A n cap] w fun e w' => e = .returned (.int .i64 (orL zs)) ∧ w = w' := by
  subst hn
  go_enter Try.func81, Try.ntmps81
  go_wp2
  go_loop [8] (fun i => ∃ k : Nat, k ≤ zs.length ∧ i = .int .i64 k ∧ orL zs = orL (zs.drop k)) (fun i => zs.length - (intOf i).toNat)
  case atStart => exact ⟨0, by omega, rfl, rfl⟩
  case round =>
    obtain ⟨k, hk, rfl, ho⟩ := hrel
    have HO := Lib.hid ho; clear ho
    by_cases hlt : k < zs.length
    · obtain ⟨b, off, rfl, _, hcell⟩ := hr.at_ (k := k) hlt (by simpa using hlt)
      rw [List.getElem_map] at hcell
      have hd : orL (zs.drop k) = if zs[k] = 0 then orL (zs.drop (k + 1)) else zs[k] := by rw [List.drop_eq_getElem_cons hlt]; rfl
      have HD := Lib.hid hd
      have hki : (k : Int) < (zs.length : Int) := by omega
      generalize zs[k] = z at *
      clear hr hd
      by_cases hz : z = 0
      · subst hz
        go_wp2
        go_round
        case rel => exact ⟨k + 1, by omega, by go_num, by rw [HO.out, HD.out, if_pos rfl]⟩
        case measure => simp [intOf]; omega
      · have hne : (z != 0) = true := by simpa using hz
        have HZ := Lib.hid hz
        clear hz
        go_wp2
        go_ret
        exact ⟨ret_int (by rw [HO.out, HD.out, if_neg HZ.out]), rfl⟩
    · go_wp2
      go_ret
      exact ⟨ret_int (by rw [HO.out, List.drop_of_length_le (by omega)]; rfl), rfl⟩

set_option maxRecDepth 100000 in
set_option maxHeartbeats 2000000 in
theorem compare_any (s t : Sp) (w : World) :
    Calls Try.prog 76 #[s.val, t.val] w fun e w' => e = .returned (.int .i64 (s.cmp t)) ∧ Gr w w' := by
  obtain ⟨w0, hw0⟩ : ∃ w0, w0 = (w.alloc (.cells #[.int .i64 s.tr, .int .i64 s.id, .int .i64 s.pa, .int .i64 s.st, .int .i64 s.en, .string s.nm] 35)).alloc (.cells #[.int .i64 t.tr, .int .i64 t.id, .int .i64 t.pa, .int .i64 t.st, .int .i64 t.en, .string t.nm] 35) := ⟨_, rfl⟩
  have hz0 : w0.heap.size = w.heap.size + 2 := by rw [hw0]; simp
  have hG : Gr w w0 := by rw [hw0]; exact ((Gr.refl w).alloc _).alloc _
  have hS : ∀ W, Below (w.heap.size + 2) w0 W →
      (W.cell? ⟨w.heap.size, 0, none⟩ = some (.int .i64 s.tr) ∧ W.cell? ⟨w.heap.size, 1, none⟩ = some (.int .i64 s.id) ∧ W.cell? ⟨w.heap.size, 2, none⟩ = some (.int .i64 s.pa) ∧ W.cell? ⟨w.heap.size, 3, none⟩ = some (.int .i64 s.st) ∧ W.cell? ⟨w.heap.size, 4, none⟩ = some (.int .i64 s.en) ∧ W.cell? ⟨w.heap.size, 5, none⟩ = some (.string s.nm)) ∧
      (W.cell? ⟨w.heap.size + 1, 0, none⟩ = some (.int .i64 t.tr) ∧ W.cell? ⟨w.heap.size + 1, 1, none⟩ = some (.int .i64 t.id) ∧ W.cell? ⟨w.heap.size + 1, 2, none⟩ = some (.int .i64 t.pa) ∧ W.cell? ⟨w.heap.size + 1, 3, none⟩ = some (.int .i64 t.st) ∧ W.cell? ⟨w.heap.size + 1, 4, none⟩ = some (.int .i64 t.en) ∧ W.cell? ⟨w.heap.size + 1, 5, none⟩ = some (.string t.nm)) := by
    intro W hW
    have h1 : w0.heap[w.heap.size]? = some (.cells #[.int .i64 s.tr, .int .i64 s.id, .int .i64 s.pa, .int .i64 s.st, .int .i64 s.en, .string s.nm] 35 (0, 0)) := by
      rw [hw0]; exact blk_below ((Below.refl (w.heap.size + 1) _).alloc (by simp) _) (by omega) (heap_alloc_new w _)
    have h2 : w0.heap[w.heap.size + 1]? = some (.cells #[.int .i64 t.tr, .int .i64 t.id, .int .i64 t.pa, .int .i64 t.st, .int .i64 t.en, .string t.nm] 35 (0, 0)) := by
      have h := heap_alloc_new (w.alloc (.cells #[.int .i64 s.tr, .int .i64 s.id, .int .i64 s.pa, .int .i64 s.st, .int .i64 s.en, .string s.nm] 35)) (.cells #[.int .i64 t.tr, .int .i64 t.id, .int .i64 t.pa, .int .i64 t.st, .int .i64 t.en, .string t.nm] 35)
      rw [World.size_alloc] at h
      rw [hw0]; exact h
    have hc := blk_cell (blk_below hW (by omega) h1)
    have hd := blk_cell (blk_below hW (by omega) h2)
    exact ⟨⟨hc 0, hc 1, hc 2, hc 3, hc 4, hc 5⟩, ⟨hd 0, hd 1, hd 2, hd 3, hd 4, hd 5⟩⟩
  have HSS := Lib.hid hS
  have HW0 := Lib.hid hw0
  have HZ0 := Lib.hid hz0
  have HC : Hid (s.cmp t = orL (s.cmpL t)) := Lib.hid rfl
  clear hS hw0 hz0
  go_enter Try.func76, Try.ntmps76
  go_wp2_with fail
  rw [← HW0.out]
  refine wp_region_sched [(0, true), (1, true), (2, true), (3, true), (5, true), (6, true), (7, true), (8, true), (10, true), (11, true), (12, true), (13, true), (15, true), (16, true), (17, true), (18, true), (20, true), (21, true), (22, true), (23, true), (25, true), (26, true), (27, true), (28, true), (4, false), (9, false), (14, false), (19, false), (24, false), (29, false), (30, false), (31, false), (32, true)] (fun W => Below (w.heap.size + 2) w0 W ∧ Gr w W) (by kernel_rfl) (by kernel_rfl) rfl (by kernel_rfl) (⟨(Below.refl _ _).drew, hG.drew⟩) ?_
  repeat (first | (apply sched_take rfl; (focus (first | rfl | (go_simp; done))); (focus (intro W hW; obtain ⟨⟨c0, c1, c2, c3, c4, c5⟩, d0, d1, d2, d3, d4, d5⟩ := HSS.out W hW.1; go_simp; rfl)); (focus (intro K hK; go_simp; refine hK _ ?_; clear hK K))) | (apply sched_skip rfl; (focus (first | rfl | (go_simp; done))); (focus (intro K hK; go_simp; refine hK _ ?_; clear hK K))))
  apply sched_op rfl
  intro K hK
  go_simp
  go_wp2_with (fail)
  refine (compareInt_any _ _ _).mono ?_
  rintro e w2 ⟨rfl, rfl⟩
  go_wp2_with fail
  refine ⟨by exact ⟨(Below.refl _ _).drew, hG.drew⟩, ?_⟩
  repeat (first | (apply sched_take rfl; (focus (first | rfl | (go_simp; done))); (focus (intro W hW; obtain ⟨⟨c0, c1, c2, c3, c4, c5⟩, d0, d1, d2, d3, d4, d5⟩ := HSS.out W hW.1; go_simp; rfl)); (focus (intro K hK; go_simp; refine hK _ ?_; clear hK K))) | (apply sched_skip rfl; (focus (first | rfl | (go_simp; done))); (focus (intro K hK; go_simp; refine hK _ ?_; clear hK K))))
  apply sched_op rfl
  intro K hK
  go_simp
  go_wp2_with (fail)
  refine (compareInt_any _ _ _).mono ?_
  rintro e w2 ⟨rfl, rfl⟩
  go_wp2_with fail
  refine ⟨by exact ⟨(Below.refl _ _).drew, hG.drew⟩, ?_⟩
  repeat (first | (apply sched_take rfl; (focus (first | rfl | (go_simp; done))); (focus (intro W hW; obtain ⟨⟨c0, c1, c2, c3, c4, c5⟩, d0, d1, d2, d3, d4, d5⟩ := HSS.out W hW.1; go_simp; rfl)); (focus (intro K hK; go_simp; refine hK _ ?_; clear hK K))) | (apply sched_skip rfl; (focus (first | rfl | (go_simp; done))); (focus (intro K hK; go_simp; refine hK _ ?_; clear hK K))))
  apply sched_op rfl
  intro K hK
  go_simp
  go_wp2_with (fail)
  refine (compareInt_any _ _ _).mono ?_
  rintro e w2 ⟨rfl, rfl⟩
  go_wp2_with fail
  refine ⟨by exact ⟨(Below.refl _ _).drew, hG.drew⟩, ?_⟩
  repeat (first | (apply sched_take rfl; (focus (first | rfl | (go_simp; done))); (focus (intro W hW; obtain ⟨⟨c0, c1, c2, c3, c4, c5⟩, d0, d1, d2, d3, d4, d5⟩ := HSS.out W hW.1; go_simp; rfl)); (focus (intro K hK; go_simp; refine hK _ ?_; clear hK K))) | (apply sched_skip rfl; (focus (first | rfl | (go_simp; done))); (focus (intro K hK; go_simp; refine hK _ ?_; clear hK K))))
  apply sched_op rfl
  intro K hK
  go_simp
  go_wp2_with (fail)
  refine (compareInt_any _ _ _).mono ?_
  rintro e w2 ⟨rfl, rfl⟩
  go_wp2_with fail
  refine ⟨by exact ⟨(Below.refl _ _).drew, hG.drew⟩, ?_⟩
  repeat (first | (apply sched_take rfl; (focus (first | rfl | (go_simp; done))); (focus (intro W hW; obtain ⟨⟨c0, c1, c2, c3, c4, c5⟩, d0, d1, d2, d3, d4, d5⟩ := HSS.out W hW.1; go_simp; rfl)); (focus (intro K hK; go_simp; refine hK _ ?_; clear hK K))) | (apply sched_skip rfl; (focus (first | rfl | (go_simp; done))); (focus (intro K hK; go_simp; refine hK _ ?_; clear hK K))))
  apply sched_op rfl
  intro K hK
  go_simp
  go_wp2_with (fail)
  refine (compareInt_any _ _ _).mono ?_
  rintro e w2 ⟨rfl, rfl⟩
  go_wp2_with fail
  refine ⟨by exact ⟨(Below.refl _ _).drew, hG.drew⟩, ?_⟩
  repeat (first | (apply sched_take rfl; (focus (first | rfl | (go_simp; done))); (focus (intro W hW; obtain ⟨⟨c0, c1, c2, c3, c4, c5⟩, d0, d1, d2, d3, d4, d5⟩ := HSS.out W hW.1; go_simp; rfl)); (focus (intro K hK; go_simp; refine hK _ ?_; clear hK K))) | (apply sched_skip rfl; (focus (first | rfl | (go_simp; done))); (focus (intro K hK; go_simp; refine hK _ ?_; clear hK K))))
  apply sched_op rfl
  intro K hK
  go_simp
  go_wp2_with (fail)
  refine (compareStr_any _ _ _).mono ?_
  rintro e w2 ⟨rfl, rfl⟩
  go_wp2_with fail
  refine ⟨by exact ⟨(Below.refl _ _).drew, hG.drew⟩, ?_⟩
  repeat (first | (apply sched_take rfl; (focus (first | rfl | (go_simp; done))); (focus (intro W hW; obtain ⟨⟨c0, c1, c2, c3, c4, c5⟩, d0, d1, d2, d3, d4, d5⟩ := HSS.out W hW.1; go_simp; rfl)); (focus (intro K hK; go_simp; refine hK _ ?_; clear hK K))) | (apply sched_skip rfl; (focus (first | rfl | (go_simp; done))); (focus (intro K hK; go_simp; refine hK _ ?_; clear hK K))))
  apply sched_op rfl
  intro K hK
  go_simp
  go_wp2_with (fail)
  refine ⟨by exact ⟨((Below.refl _ _).alloc (Nat.le_of_eq HZ0.out.symm) _).drew, (hG.alloc _).drew⟩, ?_⟩
  repeat (first | (apply sched_take rfl; (focus (first | rfl | (go_simp; done))); (focus (intro W hW; obtain ⟨⟨c0, c1, c2, c3, c4, c5⟩, d0, d1, d2, d3, d4, d5⟩ := HSS.out W hW.1; go_simp; rfl)); (focus (intro K hK; go_simp; refine hK _ ?_; clear hK K))) | (apply sched_skip rfl; (focus (first | rfl | (go_simp; done))); (focus (intro K hK; go_simp; refine hK _ ?_; clear hK K))))
  apply sched_op rfl
  intro K hK
  go_simp
  go_wp2_with (fail)
  refine (or_any _ _ _ (w0.heap.size + 1) (s.cmpL t) _ (by simp [Sp.cmpL]) rfl (Rd.drew (Rd.new rfl rfl (by intro j hj; simp [Sp.cmpL] at hj; match j, hj with | 0, _ => rfl | 1, _ => rfl | 2, _ => rfl | 3, _ => rfl | 4, _ => rfl | 5, _ => rfl)))).mono ?_
  rintro e w2 ⟨rfl, rfl⟩
  go_wp2_with fail
  refine ⟨by exact ⟨((Below.refl _ _).alloc (Nat.le_of_eq HZ0.out.symm) _).drew, (hG.alloc _).drew⟩, ?_⟩
  repeat (first | (apply sched_take rfl; (focus (first | rfl | (go_simp; done))); (focus (intro W hW; obtain ⟨⟨c0, c1, c2, c3, c4, c5⟩, d0, d1, d2, d3, d4, d5⟩ := HSS.out W hW.1; go_simp; rfl)); (focus (intro K hK; go_simp; refine hK _ ?_; clear hK K))) | (apply sched_skip rfl; (focus (first | rfl | (go_simp; done))); (focus (intro K hK; go_simp; refine hK _ ?_; clear hK K))))
  refine sched_nil ?_
  go_wp2_with fail
  go_ret
  exact ⟨ret_int HC.out.symm, (hG.alloc _).drew⟩
end Go.Proofs.Ytdjcifeoplgkpaa
