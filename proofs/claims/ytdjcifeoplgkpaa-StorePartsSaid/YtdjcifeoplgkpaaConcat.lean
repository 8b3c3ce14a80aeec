/-
  The walk of slices.Concat at spans: the lists, one behind the other, in new memory. Conditions: the slices read as lists, together not longer than memory bears.
-/
import Derived.Test.YtdjcifeoplgkpaaStd
import Derived.Test.YtdjcifeoplgkpaaLayGrow
import Derived.Shelf.Spec.SlicesGrow
namespace Go.Proofs.Ytdjcifeoplgkpaa
open Go Go.RowKit

/-- A slice of spans, as a value, and what it leads to. -/
structure PartS where
  A : Option Addr
  n : Nat
  c : Nat
  l : List Sp
def PartS.val (p : PartS) : Value := .slice p.A p.n p.c
def RdPS (w : World) (B : Nat) (A : Option Addr) (n : Nat) (ps : List PartS) : Prop := Rd w B 1 A n (ps.map PartS.val) ∧ ∀ p ∈ ps, RdS w B p.A p.n p.l
def totPS (ps : List PartS) : Nat := (ps.map fun p => p.n).sum
def joinS (ps : List PartS) : List Sp := ps.flatMap (·.l)
theorem totPS_take_succ (ps : List PartS) (k : Nat) (h : k < ps.length) : totPS (ps.take (k + 1)) = totPS (ps.take k) + ps[k].n := by
  rw [List.take_succ_eq_append_getElem h]; simp only [totPS, List.map_append, List.sum_append, List.map_cons, List.map_nil, List.sum_cons, List.sum_nil, Nat.add_zero]
theorem joinS_take_succ (ps : List PartS) (k : Nat) (h : k < ps.length) : joinS (ps.take (k + 1)) = joinS (ps.take k) ++ ps[k].l := by
  rw [List.take_succ_eq_append_getElem h]; simp only [joinS, List.flatMap_append, List.flatMap_cons, List.flatMap_nil, List.append_nil]
theorem totPS_take_le (ps : List PartS) (k : Nat) : totPS (ps.take k) ≤ totPS ps := by
  have h : totPS ps = totPS (ps.take k) + totPS (ps.drop k) := by
    conv => lhs; rw [← List.take_append_drop k ps]
    simp only [totPS, List.map_append, List.sum_append]
  omega
theorem RdPS.at_ {w : World} {B n k : Nat} {A : Option Addr} {ps : List PartS} (h : RdPS w B A n ps) (hk : k < ps.length) :
    ∃ b off, A = some ⟨b, off, none⟩ ∧ b < B ∧ w.cell? ⟨b, off + k, none⟩ = some (.slice ps[k].A ps[k].n ps[k].c) ∧ RdS w B ps[k].A ps[k].n ps[k].l := by
  have hl : ps.length = n := by simpa using h.1.1
  obtain ⟨b, off, e, hb, hc⟩ := Rd.at_ h.1 (k := k) (by omega) (by simpa using hk)
  exact ⟨b, off, e, hb, by rw [hc]; simp [PartS.val], h.2 _ (List.getElem_mem hk)⟩
theorem RdPS.below {w w' : World} {B C : Nat} {A : Option Addr} {n : Nat} {ps : List PartS} (h : RdPS w B A n ps) (hb : Below C w w') (hB : B ≤ C) : RdPS w' B A n ps :=
  ⟨Rd.below' h.1 hb hB (Nat.le_refl _), fun p hp => Rd.below' (h.2 p hp) hb hB (Nat.le_refl _)⟩

/-- What a call leaves that makes room: an empty slice of its own. -/
def ResG (w : World) (e : Ending) (w' : World) : Prop := ∃ A c, e = .returned (.slice A 0 c) ∧ w'.ownsRow w.heap.size 35 6 (.slice A 0 c) 0 [] ∧ Below w.heap.size w w'
theorem grow_any (n : Nat) (w : World) (hn : n ≤ 2000000) : Calls Try.prog 46 #[.slice none 0 0, .int .i64 n] w (ResG w) := by
  obtain ⟨i0, hi0, hz0, hz1, hz2⟩ := info_parts Try.infoSpan
  by_cases h0 : n = 0
  · subst h0
    refine (Any8.slices_Grow_room Try.growL8 none 0 0 0 w (by omega) (by omega) (by omega) (by omega)).mono ?_
    rintro e w' ⟨rfl, rfl⟩
    exact ⟨none, 0, rfl, World.ownsRow_nil _ _ _ _, Below.refl _ _⟩
  · have hG := Any8.slices_Grow_grow Try.growL8 i0 _ hi0 hz0 (by omega) none 0 0 n [] w (by omega) (by omega) (by rw [hz2]; omega) (by omega) (by simp) (fun _ => rfl) (fun a h => by cases h)
    refine hG.mono ?_
    rintro e w' ⟨rfl, rfl⟩
    have hge : 0 + n ≤ grownCap w (0 + n) 0 35 := grownCap_ge w _ _ _
    have hle : grownCap w (0 + n) 0 35 ≤ maxLen := grownCap_le_maxLen w (0 + n) 0 _ (by unfold maxLen; omega)
    refine ⟨_, _, rfl, ⟨by simp, .inr ⟨w.heap.size, _, _, rfl, Nat.le_refl _, heap_alloc_new w.drew _, Nat.zero_le _, hle, ?_, by simp⟩⟩, ?_⟩
    · show _ = grownCap w (0 + n) 0 35 * 6
      have e25 : grownCap w (0 + n) 0 (Try.growL8_ren.t 25) = grownCap w (0 + n) 0 35 := rfl
      simp only [Builtin.zeroCells, Array.size_append, Array.size_map, Array.size_range, List.size_toArray, List.length_nil, List.length_cons, Value.cells, e25]
      omega
    · exact ((Below.refl _ _).drew).alloc (Nat.le_refl _) _

set_option maxRecDepth 100000 in
set_option maxHeartbeats 2000000 in
theorem concat_any (A : Option Addr) (n cap B : Nat) (ps : List PartS) (w : World) (hB : B ≤ w.heap.size) (hbn : n ≤ 2000000) (htot : totPS ps ≤ 2000000) (hr : RdPS w B A n ps) :
    Calls Try.prog 23 #[.slice A n cap] w (ResS w (joinS ps)) := by
  obtain ⟨i0, hi0, gz0, gz1, gz2⟩ := info_parts Try.infoSpan
  have hl : ps.length = n := by simpa using hr.1.1
  subst hl
  have HR := Lib.hid hr
  clear hr
  go_enter Try.func23, Try.ntmps23
  go_wp2_with fail
  go_loopw [3, 11] (fun s i wr => ∃ k : Nat, k ≤ ps.length ∧ i = .int .i64 k ∧ s = .int .i64 (totPS (ps.take k) : Nat) ∧ wr = w) (fun _ i _ => ps.length - (intOf i).toNat)
  case atStart => exact ⟨0, by omega, rfl, by simp [totPS], rfl⟩
  case round =>
    obtain ⟨k, hk, rfl, rfl, hww⟩ := hrel
    subst hww
    by_cases hlt : k < ps.length
    · obtain ⟨b1, o1, rfl, hb1, x0, _⟩ := HR.out.at_ hlt
      have HS := Lib.hid (totPS_take_succ ps k hlt)
      have hle := totPS_take_le ps (k + 1)
      rw [HS.out] at hle
      have hk1 : (k : Int) < (ps.length : Int) := by omega
      generalize ps[k] = pt at *
      generalize totPS (ps.take k) = N at *
      have hn0 : ¬ ((N : Int) + pt.n < 0) := by omega
      have hn1 : (N : Int) + pt.n ≤ 2000000 := by omega
      go_wp2_with fail
      go_roundw
      case rel => exact ⟨k + 1, by omega, by go_num, by rw [HS.out]; go_num, by trivial⟩
      case measure => simp [intOf]; omega
    · have hkl : k = ps.length := by omega
      have hk1 : ¬ (k : Int) < (ps.length : Int) := by omega
      rw [List.take_of_length_le (by omega)]
      go_wp2_with fail
      refine (grow_any (totPS ps) _ htot).mono ?_
      rintro e w1 ⟨A1, c1, rfl, hown1, hb1⟩
      have HO1 := Lib.hid hown1
      have HB1 := Lib.hid hb1
      clear hown1 hb1 hk1
      go_wp2_with fail
      obtain ⟨wo, rfl⟩ : ∃ wo, wo = wr := ⟨wr, rfl⟩
      go_loopw [6, 27] (fun v i wr => ∃ (k : Nat) (A2 : Option Addr) (c2 : Nat), k ≤ ps.length ∧ i = .int .i64 k ∧ v = .slice A2 (totPS (ps.take k)) c2 ∧ wr.ownsRow wo.heap.size 35 6 (.slice A2 (totPS (ps.take k)) c2) (totPS (ps.take k)) ((joinS (ps.take k)).flatMap Sp.cells) ∧ Below wo.heap.size wo wr) (fun _ i _ => ps.length - (intOf i).toNat)
      case atStart => exact ⟨0, A1, c1, by omega, rfl, by simp [totPS], by simpa [totPS, joinS] using HO1.out, HB1.out⟩
      case round =>
        obtain ⟨k2, A2, c2, hk2, rfl, rfl, hown2, hb2⟩ := hrel
        have HO2 := Lib.hid hown2
        have HB2 := Lib.hid hb2
        have hsz := hb2.size
        clear hown2 hb2
        by_cases hlt2 : k2 < ps.length
        · obtain ⟨b1, o1, rfl, hb1, x0, hrp⟩ := (HR.out.below HB2.out hB).at_ hlt2
          have HRP := Lib.hid hrp
          have HS := Lib.hid (totPS_take_succ ps k2 hlt2)
          have HJ := Lib.hid (joinS_take_succ ps k2 hlt2)
          have hle := totPS_take_le ps (k2 + 1)
          rw [HS.out] at hle
          have hk1 : (k2 : Int) < (ps.length : Int) := by omega
          clear hrp
          generalize ps[k2] = pt at *
          generalize totPS (ps.take k2) = N at *
          generalize joinS (ps.take k2) = J at *
          go_wp2_with (at_builtin; refine wpList_app _ rfl (.tmp 31) (.tmp 32) _ rfl wo.heap.size 35 i0 _ 6 56 Try.underlying31 hi0 gz0 gz1 gz2 rfl (by omega) _ _ _ _ rfl HO2.out B _ _ _ _ rfl HRP.out (cells_oneCell _) (by unfold maxLen; omega) (by omega) (by omega) ?_; intro A3 c3 w3 hown3 hg3 _)
          go_roundw
          case rel =>
            refine ⟨k2 + 1, A3, c3, by omega, by go_num, by rw [HS.out], ?_, below_app HB2.out HO2.out hg3 hsz⟩
            rw [HS.out, HJ.out, List.flatMap_append]; exact hown3
          case measure => simp [intOf]; omega
        · have hk1 : ¬ (k2 : Int) < (ps.length : Int) := by omega
          have hown := HO2.out
          rw [List.take_of_length_le (by omega)] at hown
          have hjl : (joinS ps).length = totPS ps := by
            have h1 := hown.1
            rw [flat_len _ 6 Sp.cells_len] at h1; omega
          rw [List.take_of_length_le (by omega)]
          rw [← hjl] at hown ⊢
          have HOW := Lib.hid hown
          clear hown hjl
          go_wp2_with fail
          go_ret
          exact ⟨A2, c2, rfl, HOW.out, HB2.out⟩
end Go.Proofs.Ytdjcifeoplgkpaa
