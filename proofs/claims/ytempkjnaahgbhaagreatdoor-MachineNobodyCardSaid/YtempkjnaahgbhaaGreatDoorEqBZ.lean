/-
  The walk of slices.Equal at branches whose depth is any number: whether two lists are the same. Conditions: the slices read as lists, not longer than memory bears.
-/
import Derived.Test.YtempkjnaahgbhaaGreatDoorEqB04
namespace Go.Proofs.YtempkjnaahgbhaaGreatDoor
open Go Go.RowKit

/-- A branch as it may come in: its depth is any number. -/
structure BrZ where
  dp : Int
  orp : Bool
  sp : Sp
def BrZ.cells (b : BrZ) : List Value := [.int .i64 b.dp, .bool b.orp, .int .i64 b.sp.tr, .int .i64 b.sp.id, .int .i64 b.sp.pa, .int .i64 b.sp.st, .int .i64 b.sp.en, .string b.sp.nm]
theorem BrZ.cells_len (b : BrZ) : b.cells.length = 8 := rfl
def Br.z (b : Br) : BrZ := ⟨b.dp, b.orp, b.sp⟩
/-- A slice of branches. -/
def RdBrZ (w : World) (B : Nat) (A : Option Addr) (n : Nat) (l : List BrZ) : Prop := Rd w B 8 A n (l.flatMap BrZ.cells)
theorem RdBrZ.len {w : World} {B n : Nat} {A : Option Addr} {l : List BrZ} (h : RdBrZ w B A n l) : l.length = n := by
  have h1 := h.1; rw [flat_len _ 8 BrZ.cells_len] at h1; omega
theorem RdBrZ.at_ {w : World} {B n k : Nat} {A : Option Addr} {l : List BrZ} (h : RdBrZ w B A n l) (hk : k < l.length) :
    ∃ b off, A = some ⟨b, off, none⟩ ∧ b < B ∧ w.cell? ⟨b, off + k * 8, none⟩ = some (.int .i64 l[k].dp) ∧ w.cell? ⟨b, off + k * 8 + 1, none⟩ = some (.bool l[k].orp) ∧ w.cell? ⟨b, off + k * 8 + 2, none⟩ = some (.int .i64 l[k].sp.tr) ∧ w.cell? ⟨b, off + k * 8 + 3, none⟩ = some (.int .i64 l[k].sp.id) ∧ w.cell? ⟨b, off + k * 8 + 4, none⟩ = some (.int .i64 l[k].sp.pa) ∧
      w.cell? ⟨b, off + k * 8 + 5, none⟩ = some (.int .i64 l[k].sp.st) ∧ w.cell? ⟨b, off + k * 8 + 6, none⟩ = some (.int .i64 l[k].sp.en) ∧ w.cell? ⟨b, off + k * 8 + 7, none⟩ = some (.string l[k].sp.nm) := by
  have hl := h.len
  obtain ⟨b, off, e, hb, hc⟩ := Rd.elem BrZ.cells_len h (k := k) (by omega) hk
  exact ⟨b, off, e, hb, hc 0 (by omega), hc 1 (by omega), hc 2 (by omega), hc 3 (by omega), hc 4 (by omega), hc 5 (by omega), hc 6 (by omega), hc 7 (by omega)⟩
theorem brz_dec (s t : BrZ) : ∃ q : Bool, q = true ↔ s = t := by
  by_cases h : s = t
  · exact ⟨true, by simp [h]⟩
  · exact ⟨false, by simp [h]⟩
theorem brz_if {α : Type} {s t : BrZ} {q : Bool} (hq : q = true ↔ s = t) (a b : α) :
    (if (s.dp : Int) = (t.dp : Int) then if s.orp = t.orp then if s.sp.tr = t.sp.tr then if s.sp.id = t.sp.id then if s.sp.pa = t.sp.pa then if s.sp.st = t.sp.st then if s.sp.en = t.sp.en then if s.sp.nm.toList = t.sp.nm.toList then a else b else b else b else b else b else b else b else b) = if q = true then a else b := by
  obtain ⟨q', hq'⟩ := span_dec s.sp t.sp
  rw [span_if hq']
  by_cases h1 : (s.dp : Int) = (t.dp : Int)
  · rw [if_pos h1]
    by_cases h2 : s.orp = t.orp
    · rw [if_pos h2]
      have e : (q' = true) ↔ (q = true) := by
        rw [hq', hq]
        constructor
        · intro h; cases s; cases t; simp at h2 h; simp only [BrZ.mk.injEq]; exact ⟨h1, h2, h⟩
        · rintro rfl; rfl
      by_cases h3 : q' = true
      · rw [if_pos h3, if_pos (e.1 h3)]
      · rw [if_neg h3, if_neg (fun h => h3 (e.2 h))]
    · rw [if_neg h2, if_neg (fun h => h2 (by rw [hq.1 h]))]
  · rw [if_neg h1, if_neg (fun h => h1 (by rw [hq.1 h]))]

set_option maxRecDepth 100000 in
set_option maxHeartbeats 400000 in
theorem eqBZ_any (A1 A2 : Option Addr) (n1 n2 c1 c2 B1 B2 : Nat) (l1 l2 : List BrZ) (w : World) (h1 : RdBrZ w B1 A1 n1 l1) (h2 : RdBrZ w B2 A2 n2 l2) (hb : n1 ≤ 140737488355328) :
    Calls Tryz.prog 49 #[.slice A1 n1 c1, .slice A2 n2 c2] w (ResEq w (l1 = l2)) := by
  have hl1 := h1.len
  have hl2 := h2.len
  subst hl1 hl2
  by_cases hlen : l1.length = l2.length
  · go_enter Tryz.func49, Tryz.ntmps49
    go_wp2_with fail
    go_loopw [13] (fun i wr => ∃ k n : Nat, k ≤ l1.length ∧ i = .int .i64 k ∧ wr = w.drewN n ∧ l1.take k = l2.take k) (fun i _ => l1.length - (intOf i).toNat)
    case atStart => exact ⟨0, 0, by omega, rfl, rfl, by simp⟩
    case round =>
      obtain ⟨k, n, hk, rfl, rfl, ht⟩ := hrel
      by_cases hlt : k < l1.length
      · obtain ⟨b1, o1, rfl, _, x0, x1, x2, x3, x4, x5, x6, x7⟩ := h1.at_ hlt
        obtain ⟨b2, o2, rfl, _, y0, y1, y2, y3, y4, y5, y6, y7⟩ := h2.at_ (k := k) (by omega)
        have HT1 := Lib.hid (List.take_succ_eq_append_getElem hlt)
        have HT2 := Lib.hid (List.take_succ_eq_append_getElem (l := l2) (i := k) (by omega))
        have HT := Lib.hid ht
        generalize l1[k] = s at *
        generalize l2[k] = t at *
        clear h1 h2 ht
        have hk1 : (k : Int) < (l1.length : Int) := by omega
        have hk2 : (k : Int) < (l2.length : Int) := by omega
        go_wp2_with fail
        obtain ⟨q, hq⟩ := brz_dec s t
        cases q
        · have HQ := Lib.hid hq
          clear hq
          refine wp_region_sched [(0, true), (1, true), (2, true), (3, true), (4, true), (5, true), (6, true), (7, true), (8, true)] (fun W => ∃ m, W = w.drewN m) (by kernel_rfl) (by kernel_rfl) rfl (by kernel_rfl) (⟨n + 1, rfl⟩) ?_
          repeat (first | (apply sched_take rfl; (focus (first | rfl | (go_simp; done))); (focus (intro W hW; obtain ⟨m, rfl⟩ := hW; go_simp; rfl)); (focus (intro K hK; go_simp; refine hK _ ?_; clear hK K))) | (apply sched_skip rfl; (focus (first | rfl | (go_simp; done))); (focus (intro K hK; go_simp; refine hK _ ?_; clear hK K))))
          apply sched_take rfl
          · rfl
          · intro W hW; obtain ⟨m, rfl⟩ := hW; go_simp; exact (brz_if HQ.out _ _).trans rfl
          intro K hK; go_simp; refine hK _ ?_; clear hK K
          refine sched_nil ?_
          go_wp2_with fail
          go_ret
          refine ⟨false, rfl, ⟨(fun h => by cases h), fun h => ?_⟩, n + 1, rfl⟩
          have e := HT1.out
          rw [h, HT2.out] at e
          have e2 := List.append_cancel_left e
          simp only [List.cons.injEq, and_true] at e2
          exact absurd (HQ.out.2 e2.symm) (by simp)
        · have HQ := Lib.hid hq
          have HE := Lib.hid (hq.1 rfl)
          clear hq
          refine wp_region_sched [(0, true), (1, true), (2, true), (3, true), (4, true), (5, true), (6, true), (7, true), (8, true)] (fun W => ∃ m, W = w.drewN m) (by kernel_rfl) (by kernel_rfl) rfl (by kernel_rfl) (⟨n + 1, rfl⟩) ?_
          repeat (first | (apply sched_take rfl; (focus (first | rfl | (go_simp; done))); (focus (intro W hW; obtain ⟨m, rfl⟩ := hW; go_simp; rfl)); (focus (intro K hK; go_simp; refine hK _ ?_; clear hK K))) | (apply sched_skip rfl; (focus (first | rfl | (go_simp; done))); (focus (intro K hK; go_simp; refine hK _ ?_; clear hK K))))
          apply sched_take rfl
          · rfl
          · intro W hW; obtain ⟨m, rfl⟩ := hW; go_simp; exact (brz_if HQ.out _ _).trans rfl
          intro K hK; go_simp; refine hK _ ?_; clear hK K
          refine sched_nil ?_
          go_wp2_with fail
          go_roundw
          case rel =>
            refine ⟨_, _, _, ⟨k + 1, by omega, ?_, ⟨n + 1, rfl⟩, ?_⟩, rfl, rfl, rfl⟩
            · go_num
            · rw [HT1.out, HT2.out, HT.out, HE.out]
          case measure => simp [intOf]; omega
      · go_wp2_with fail
        go_ret
        rw [List.take_of_length_le (by omega), List.take_of_length_le (by omega)] at ht
        exact ⟨_, rfl, by simp [ht], n, rfl⟩
  · have hne : ((l1.length : Int) == l2.length) = false := by simp; omega
    go_enter Tryz.func49, Tryz.ntmps49
    go_wp2_with fail
    go_ret
    exact ⟨_, rfl, ⟨(fun h => by cases h), fun h => absurd (congrArg List.length h) hlen⟩, 0, rfl⟩

theorem RdBr.z {w : World} {B n : Nat} {A : Option Addr} {l : List Br} (h : RdBr w B A n l) : RdBrZ w B A n (l.map Br.z) := by
  unfold RdBrZ
  rw [List.flatMap_map]
  exact h
end Go.Proofs.YtempkjnaahgbhaaGreatDoor
