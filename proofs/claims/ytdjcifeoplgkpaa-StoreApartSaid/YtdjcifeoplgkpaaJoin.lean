/-
  The walk of wire.Join: all parts, one behind the other, in new memory. Conditions: the parts read as lists, together not longer than memory bears.
-/
import Derived.Test.YtdjcifeoplgkpaaRows
import Derived.Test.YtdjcifeoplgkpaaBase
import Derived.Test.YtdjcifeoplgkpaaPure
import Derived.Test.YtdjcifeoplgkpaaSpanRow
namespace Go.Proofs.Ytdjcifeoplgkpaa
open Go.RowKit

/-- A slice of slices of bytes: its cells, and what each leads to. -/
structure Part where
  A : Option Addr
  n : Nat
  c : Nat
  l : List UInt8
def Part.val (p : Part) : Value := .slice p.A p.n p.c
def RdP (w : World) (B : Nat) (A : Option Addr) (n : Nat) (ps : List Part) : Prop := Rd w B 1 A n (ps.map Part.val) ∧ ∀ p ∈ ps, RdB w B p.A p.n p.l
def total (ps : List Part) : Nat := (ps.map fun p => p.l.length).sum
def joined (ps : List Part) : List UInt8 := ps.flatMap (·.l)
theorem total_take_succ (ps : List Part) (k : Nat) (h : k < ps.length) : total (ps.take (k + 1)) = total (ps.take k) + ps[k].l.length := by
  rw [List.take_succ_eq_append_getElem h]; simp only [total, List.map_append, List.sum_append, List.map_cons, List.map_nil, List.sum_cons, List.sum_nil, Nat.add_zero]
theorem joined_take_succ (ps : List Part) (k : Nat) (h : k < ps.length) : joined (ps.take (k + 1)) = joined (ps.take k) ++ ps[k].l := by
  rw [List.take_succ_eq_append_getElem h]; simp only [joined, List.flatMap_append, List.flatMap_cons, List.flatMap_nil, List.append_nil]
theorem total_take_le (ps : List Part) (k : Nat) : total (ps.take k) ≤ total ps := by
  have h : total ps = total (ps.take k) + total (ps.drop k) := by
    conv => lhs; rw [← List.take_append_drop k ps]
    simp only [total, List.map_append, List.sum_append]
  omega
theorem joined_length (ps : List Part) : (joined ps).length = total ps := by
  simp [joined, total, List.length_flatMap]

theorem Try.infoByte : (Try.prog.info? 5).map (fun i => (i.zero, i.size, i.bytes)) = some (some (.int .u8 0), 1, 1) := by kernel_rfl

set_option maxRecDepth 100000 in
set_option maxHeartbeats 1000000 in
theorem join_any (A : Option Addr) (n cap B : Nat) (ps : List Part) (w : World) (hB : B ≤ w.heap.size) (hbig : total ps ≤ 70368744177664) (hnb : n ≤ 140737488355328) (hr : RdP w B A n ps) :
    Calls Try.prog 55 #[.slice A n cap] w (ResB w (joined ps)) := by
  obtain ⟨i0, hi0, hz0, hz1, hz2⟩ := info_parts Try.infoByte
  have hl : ps.length = n := by simpa using hr.1.1
  subst hl
  go_enter Try.func55, Try.ntmps55
  go_wp2_with fail
  go_loop [3, 11] (fun s i => ∃ k : Nat, k ≤ ps.length ∧ i = .int .i64 k ∧ s = .int .i64 (total (ps.take k) : Nat)) (fun _ i => ps.length - (intOf i).toNat)
  case atStart => exact ⟨0, by omega, rfl, by simp [total]⟩
  case round =>
    obtain ⟨k, hk, rfl, rfl⟩ := hrel
    by_cases hlt : k < ps.length
    · obtain ⟨b, off, rfl, _, hcell⟩ := hr.1.at_ (k := k) hlt (by simpa using hlt)
      rw [List.getElem_map] at hcell
      have hlen := (hr.2 _ (List.getElem_mem hlt)).len
      have hstep := total_take_succ ps k hlt
      have hle := total_take_le ps (k + 1)
      rw [hlen] at hstep
      have HS := Lib.hid hstep
      have hle2 : (total (ps.take k) : Int) + (ps[k].n : Int) ≤ 70368744177664 := by omega
      clear hstep hle hlen hr
      unfold Part.val at hcell
      go_wp2
      go_round
      case rel => exact ⟨k + 1, by omega, by go_num, by rw [HS.out]; go_num⟩
      case measure => simp [intOf]; omega
    · have hle := total_take_le ps k
      go_wp2
      refine upon_make0 w.heap.size 27 5 i0 _ 1 Try.underlying27 hi0 hz0 hz1 (by rw [hz2]; omega) (by unfold maxLen; omega) (Nat.le_refl _) ?_
      intro w1 hown1 hg1
      have hb1 := below_none hg1 (Nat.le_refl _)
      clear hg1 hle
      go_wp2_with fail
      go_loopw [6, 24] (fun v i wr => ∃ k : Nat, k ≤ ps.length ∧ i = .int .i64 k ∧ ∃ A' c, v = .slice A' (joined (ps.take k)).length c ∧
          wr.ownsRow w.heap.size 5 1 (.slice A' (joined (ps.take k)).length c) (joined (ps.take k)).length ((joined (ps.take k)).map u8v) ∧ Below w.heap.size w wr) (fun _ i _ => ps.length - (intOf i).toNat)
      case atStart => exact ⟨0, by omega, rfl, _, _, rfl, hown1, hb1⟩
      case round =>
        obtain ⟨k, hk, rfl, A', c, rfl, hown, hb⟩ := hrel
        by_cases hlt : k < ps.length
        · obtain ⟨b, off, rfl, hbB, hcell⟩ := hr.1.at_ (k := k) hlt (by simpa using hlt)
          rw [List.getElem_map, ← hb.cell (by show b < w.heap.size; omega)] at hcell
          have hrp := (hr.2 _ (List.getElem_mem hlt)).below' hb hB (Nat.le_refl _)
          have hlen := (hr.2 _ (List.getElem_mem hlt)).len
          have hstep := total_take_succ ps k hlt
          have hle := total_take_le ps (k + 1)
          have hj := joined_length (ps.take k)
          have hjs := joined_take_succ ps k hlt
          have hsum : (joined (ps.take k)).length + ps[k].n ≤ 70368744177664 := by omega
          have HJ := Lib.hid hjs
          have HL := Lib.hid hlen
          clear hstep hle hlen hr hj hjs
          unfold Part.val at hcell
          go_wp2_with (at_builtin; refine wpList_app _ rfl (.tmp 28) (.tmp 29) _ rfl w.heap.size 5 i0 _ 1 1 Try.underlying27 hi0 hz0 hz1 hz2 rfl (by omega) _ _ _ _ rfl hown B _ _ _ _ rfl hrp (u8v_oneCell _) (by unfold maxLen; omega) (by omega) hb.size ?_; intro A2 c2 w2 hown2 hg2 _)
          have hb2 := below_app hb hown hg2 hb.size
          go_roundw
          case rel => exact ⟨k + 1, by omega, by go_num, A2, c2, by rw [HJ.out, List.length_append, HL.out], by rw [HJ.out, List.length_append, HL.out, List.map_append]; exact hown2, hb2⟩
          case measure => simp [intOf]; omega
        · have e : ps.take k = ps := List.take_of_length_le (by omega)
          rw [e] at hown
          have HE := Lib.hid e; clear e
          go_wp2_with fail
          go_ret
          exact ⟨A', c, by rw [HE.out]; rfl, hown, hb⟩
end Go.Proofs.Ytdjcifeoplgkpaa
