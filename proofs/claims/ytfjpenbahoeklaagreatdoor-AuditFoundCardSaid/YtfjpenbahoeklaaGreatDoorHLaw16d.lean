/-
  The given contracts of the library, laid at this program: the table of numbers, and each body compared. No condition.
  The walk of slices.Concat at views: the lists, one behind the other, in new memory. Conditions: the slices read as lists, together not longer than memory bears.
  The walk of the law AuditFound: the Go text answers true. Conditions: what came in reads as lists; the package variable errors.errorType lies as it is laid.
-/
import Derived.Shelf.Spec.SlicesGrow
import Derived.Test.YtfjpenbahoeklaaGreatDoorProg
import Derived.Test.YtfjpenbahoeklaaGreatDoorHForest3
import Derived.Test.YtfjpenbahoeklaaGreatDoorHOpen
import Derived.Test.YtfjpenbahoeklaaGreatDoorHMachW
import Derived.Test.YtfjpenbahoeklaaGreatDoorHLaw16a
namespace Go.Proofs
open Go.Shelf
def Tryz.growV8_ren : Go.Shelf.Ren := ⟨fun | 4 => 47 | n => n, fun | 22 => 38 | 25 => 59 | 3 => 3 | 4 => 4 | 9 => 9 | 20 => 20 | 0 => 0 | n => n, fun | n => n⟩
theorem Tryz.growV8 : Go.Proofs.Lays8.n4 Tryz.prog Tryz.growV8_ren := {
  mixed := by kernel_rfl
  f4 := ⟨Tryz.f47.name, by decide, Tryz.func47.trans (congrArg some (by kernel_rfl))⟩
  t0 := Tryz.underlying0
  a0 := Tryz.isAgg0
  z0 := Tryz.sizeOf0
  v0 := Tryz.zeroValue0
  t3 := Tryz.underlying3
  a3 := Tryz.isAgg3
  z3 := Tryz.sizeOf3
  v3 := Tryz.zeroValue3
  t4 := Tryz.underlying4
  a4 := Tryz.isAgg4
  z4 := Tryz.sizeOf4
  v4 := Tryz.zeroValue4
  t9 := Tryz.underlying9
  a9 := Tryz.isAgg9
  z9 := Tryz.sizeOf9
  v9 := Tryz.zeroValue9
  t20 := Tryz.underlying20
  a20 := Tryz.isAgg20
  z20 := Tryz.sizeOf20
  v20 := Tryz.zeroValue20
  t22 := Tryz.underlying38
  a22 := Tryz.isAgg38
  z22 := Tryz.sizeOf38
  v22 := Tryz.zeroValue38 }
end Go.Proofs
namespace Go.Proofs.YtfjpenbahoeklaaGreatDoor
open Go Go.RowKit

/-- A slice of views, as a value, and what it leads to. -/
structure PartV where
  A : Option Addr
  n : Nat
  c : Nat
  l : List VwV
def PartV.val (p : PartV) : Value := .slice p.A p.n p.c
def RdPV (w : World) (B : Nat) (A : Option Addr) (n : Nat) (ps : List PartV) : Prop := Rd w B 1 A n (ps.map PartV.val) ∧ ∀ p ∈ ps, RdVw w B p.A p.n p.l
def totPV (ps : List PartV) : Nat := (ps.map fun p => p.n).sum
def joinV (ps : List PartV) : List VwV := ps.flatMap (·.l)
theorem totPV_take_succ (ps : List PartV) (k : Nat) (h : k < ps.length) : totPV (ps.take (k + 1)) = totPV (ps.take k) + ps[k].n := by
  rw [List.take_succ_eq_append_getElem h]; simp only [totPV, List.map_append, List.sum_append, List.map_cons, List.map_nil, List.sum_cons, List.sum_nil, Nat.add_zero]
theorem joinV_take_succ (ps : List PartV) (k : Nat) (h : k < ps.length) : joinV (ps.take (k + 1)) = joinV (ps.take k) ++ ps[k].l := by
  rw [List.take_succ_eq_append_getElem h]; simp only [joinV, List.flatMap_append, List.flatMap_cons, List.flatMap_nil, List.append_nil]
theorem totPV_take_le (ps : List PartV) (k : Nat) : totPV (ps.take k) ≤ totPV ps := by
  have h : totPV ps = totPV (ps.take k) + totPV (ps.drop k) := by
    conv => lhs; rw [← List.take_append_drop k ps]
    simp only [totPV, List.map_append, List.sum_append]
  omega
theorem RdPV.at_ {w : World} {B n k : Nat} {A : Option Addr} {ps : List PartV} (h : RdPV w B A n ps) (hk : k < ps.length) :
    ∃ b off, A = some ⟨b, off, none⟩ ∧ b < B ∧ w.cell? ⟨b, off + k, none⟩ = some (.slice ps[k].A ps[k].n ps[k].c) ∧ RdVw w B ps[k].A ps[k].n ps[k].l := by
  have hl : ps.length = n := by simpa using h.1.1
  obtain ⟨b, off, e, hb, hc⟩ := Rd.at_ h.1 (k := k) (by omega) (by simpa using hk)
  exact ⟨b, off, e, hb, by rw [hc]; simp [PartV.val], h.2 _ (List.getElem_mem hk)⟩
theorem RdPV.below {w w' : World} {B C : Nat} {A : Option Addr} {n : Nat} {ps : List PartV} (h : RdPV w B A n ps) (hb : Below C w w') (hB : B ≤ C) : RdPV w' B A n ps :=
  ⟨Rd.below' h.1 hb hB (Nat.le_refl _), fun p hp => (h.2 p hp).below hb hB⟩

theorem Tryz.infoView : (Tryz.prog.info? 59).map (fun i => (i.zero, i.size, i.bytes)) = some (some (.agg #[.int .i64 0, .int .i64 0, .int .i64 0, .int .i64 0, .int .i64 0, .int .i64 0, .int .i64 0, .int .i64 0, .slice none 0 0, .slice none 0 0]), 10, 112) := by kernel_rfl
theorem views_oneCell (l : List VwV) : ∀ u ∈ l.flatMap VwV.cells, u.oneCell' = true := by
  intro u hu
  obtain ⟨v, _, hv⟩ := List.mem_flatMap.1 hu
  simp only [VwV.cells, List.mem_cons, List.not_mem_nil, or_false] at hv
  rcases hv with rfl | rfl | rfl | rfl | rfl | rfl | rfl | rfl | rfl | rfl <;> rfl
/-- What a call leaves that makes a row of views. -/
def ResVw (w : World) (l : List VwV) (e : Ending) (w' : World) : Prop :=
  ∃ A c, e = .returned (.slice A l.length c) ∧ w'.ownsRow w.heap.size 59 10 (.slice A l.length c) l.length (l.flatMap VwV.cells) ∧ Below w.heap.size w w'
/-- What a call leaves that makes room: an empty slice of its own. -/
def ResGV (w : World) (e : Ending) (w' : World) : Prop := ∃ A c, e = .returned (.slice A 0 c) ∧ w'.ownsRow w.heap.size 59 10 (.slice A 0 c) 0 [] ∧ Below w.heap.size w w'
theorem growV_any (n : Nat) (w : World) (hn : n ≤ 2000000) : Calls Tryz.prog 47 #[.slice none 0 0, .int .i64 n] w (ResGV w) := by
  obtain ⟨i0, hi0, hz0, hz1, hz2⟩ := info_parts Tryz.infoView
  by_cases h0 : n = 0
  · subst h0
    refine (Any8.slices_Grow_room Tryz.growV8 none 0 0 0 w (by omega) (by omega) (by omega) (by omega)).mono ?_
    rintro e w' ⟨rfl, rfl⟩
    exact ⟨none, 0, rfl, World.ownsRow_nil _ _ _ _, Below.refl _ _⟩
  · have hG := Any8.slices_Grow_grow Tryz.growV8 i0 _ hi0 hz0 (by omega) none 0 0 n [] w (by omega) (by omega) (by rw [hz2]; omega) (by omega) (by simp) (fun _ => rfl) (fun a h => by cases h)
    refine hG.mono ?_
    rintro e w' ⟨rfl, rfl⟩
    have hge : 0 + n ≤ grownCap w (0 + n) 0 59 := grownCap_ge w _ _ _
    have hle : grownCap w (0 + n) 0 59 ≤ maxLen := grownCap_le_maxLen w (0 + n) 0 _ (by unfold maxLen; omega)
    refine ⟨_, _, rfl, ⟨by simp, .inr ⟨w.heap.size, _, _, rfl, Nat.le_refl _, heap_alloc_new w.drew _, Nat.zero_le _, hle, ?_, by simp⟩⟩, ?_⟩
    · show _ = grownCap w (0 + n) 0 59 * 10
      have e25 : grownCap w (0 + n) 0 (Tryz.growV8_ren.t 25) = grownCap w (0 + n) 0 59 := rfl
      simp only [Builtin.zeroCells, Array.size_append, Array.size_map, Array.size_range, List.size_toArray, List.length_nil, List.length_cons, Value.cells, e25]
      omega
    · exact ((Below.refl _ _).drew).alloc (Nat.le_refl _) _

set_option maxRecDepth 100000 in
set_option maxHeartbeats 2000000 in
theorem concatV_any (A : Option Addr) (n cap B : Nat) (ps : List PartV) (w : World) (hB : B ≤ w.heap.size) (hbn : n ≤ 2000000) (htot : totPV ps ≤ 2000000) (hr : RdPV w B A n ps) :
    Calls Tryz.prog 25 #[.slice A n cap] w (ResVw w (joinV ps)) := by
  obtain ⟨i0, hi0, gz0, gz1, gz2⟩ := info_parts Tryz.infoView
  have hl : ps.length = n := by simpa using hr.1.1
  subst hl
  have HR := Lib.hid hr
  clear hr
  go_enter Tryz.func25, Tryz.ntmps25
  go_wp2_with fail
  go_loopw [3, 11] (fun s i wr => ∃ k : Nat, k ≤ ps.length ∧ i = .int .i64 k ∧ s = .int .i64 (totPV (ps.take k) : Nat) ∧ wr = w) (fun _ i _ => ps.length - (intOf i).toNat)
  case atStart => exact ⟨0, by omega, rfl, by simp [totPV], rfl⟩
  case round =>
    obtain ⟨k, hk, rfl, rfl, hww⟩ := hrel
    subst hww
    by_cases hlt : k < ps.length
    · obtain ⟨b1, o1, rfl, hb1, x0, _⟩ := HR.out.at_ hlt
      have HS := Lib.hid (totPV_take_succ ps k hlt)
      have hle := totPV_take_le ps (k + 1)
      rw [HS.out] at hle
      have hk1 : (k : Int) < (ps.length : Int) := by omega
      generalize ps[k] = pt at *
      generalize totPV (ps.take k) = N at *
      have hn0 : ¬ ((N : Int) + pt.n < 0) := by omega
      have hn1 : (N : Int) + pt.n ≤ 2000000 := by omega
      go_wp2_with fail
      go_roundw
      case rel => exact ⟨k + 1, by omega, by go_num, by rw [HS.out]; go_num, by trivial⟩
      case measure => simp [intOf]; omega
    · have hkl : k = ps.length := by omega
      have hk1 : ¬ (k : Int) < (ps.length : Int) := by omega
      rw [List.take_of_length_le (by omega)]
      go_wp2_with fail
      refine (growV_any (totPV ps) _ htot).mono ?_
      rintro e w1 ⟨A1, c1, rfl, hown1, hb1⟩
      have HO1 := Lib.hid hown1
      have HB1 := Lib.hid hb1
      clear hown1 hb1 hk1
      go_wp2_with fail
      obtain ⟨wo, rfl⟩ : ∃ wo, wo = wr := ⟨wr, rfl⟩
      go_loopw [6, 27] (fun v i wr => ∃ (k : Nat) (A2 : Option Addr) (c2 : Nat), k ≤ ps.length ∧ i = .int .i64 k ∧ v = .slice A2 (totPV (ps.take k)) c2 ∧ wr.ownsRow wo.heap.size 59 10 (.slice A2 (totPV (ps.take k)) c2) (totPV (ps.take k)) ((joinV (ps.take k)).flatMap VwV.cells) ∧ Below wo.heap.size wo wr) (fun _ i _ => ps.length - (intOf i).toNat)
      case atStart => exact ⟨0, A1, c1, by omega, rfl, by simp [totPV], by simpa [totPV, joinV] using HO1.out, HB1.out⟩
      case round =>
        obtain ⟨k2, A2, c2, hk2, rfl, rfl, hown2, hb2⟩ := hrel
        have HO2 := Lib.hid hown2
        have HB2 := Lib.hid hb2
        have hsz := hb2.size
        clear hown2 hb2
        by_cases hlt2 : k2 < ps.length
        · obtain ⟨b1, o1, rfl, hb1, x0, hrp⟩ := (HR.out.below HB2.out hB).at_ hlt2
          have HRP := Lib.hid hrp
          have HS := Lib.hid (totPV_take_succ ps k2 hlt2)
          have HJ := Lib.hid (joinV_take_succ ps k2 hlt2)
          have hle := totPV_take_le ps (k2 + 1)
          rw [HS.out] at hle
          have hk1 : (k2 : Int) < (ps.length : Int) := by omega
          clear hrp
          generalize ps[k2] = pt at *
          generalize totPV (ps.take k2) = N at *
          generalize joinV (ps.take k2) = J at *
          go_wp2_with (at_builtin; refine wpList_app _ rfl (.tmp 31) (.tmp 32) _ rfl wo.heap.size 59 i0 _ 10 112 Tryz.underlying38 hi0 gz0 gz1 gz2 rfl (by omega) _ _ _ _ rfl HO2.out B _ _ _ _ rfl HRP.out.1 (views_oneCell _) (by unfold maxLen; omega) (by omega) (by omega) ?_; intro A3 c3 w3 hown3 hg3 _)
          go_roundw
          case rel =>
            refine ⟨k2 + 1, A3, c3, by omega, by go_num, by rw [HS.out], ?_, below_app HB2.out HO2.out hg3 hsz⟩
            rw [HS.out, HJ.out, List.flatMap_append]; exact hown3
          case measure => simp [intOf]; omega
        · have hk1 : ¬ (k2 : Int) < (ps.length : Int) := by omega
          have hown := HO2.out
          rw [List.take_of_length_le (by omega)] at hown
          have hjl : (joinV ps).length = totPV ps := by
            have h1 := hown.1
            rw [flat_len _ 10 VwV.cells_len] at h1; omega
          rw [List.take_of_length_le (by omega)]
          rw [← hjl] at hown ⊢
          have HOW := Lib.hid hown
          clear hown hjl
          go_wp2_with fail
          go_ret
          exact ⟨A2, c2, rfl, HOW.out, HB2.out⟩
end Go.Proofs.YtfjpenbahoeklaaGreatDoor
namespace Go.Proofs.YtfjpenbahoeklaaGreatDoor
open Go Go.RowKit

theorem RdFi.take {w : World} {B n k : Nat} {A : Option Addr} {l : List (Int × Int × Int)} (h : RdFi w B A n l) (hk : k ≤ n) : RdFi w B A k (l.take k) := by
  have h1 := Rd.take h hk
  unfold RdFi
  rw [flat_take fiCells 3 fiCells_len]; exact h1
theorem look_len (l : List Vw) (h : l.length ≤ 20) : (lookL l).length ≤ 1300 := by
  have h1 := lookTo_len l l.length
  have h2 : l.length * (3 * l.length + 1) ≤ 20 * 61 := Nat.mul_le_mul h (by omega)
  unfold lookTo at h1
  unfold lookL
  omega
set_option maxRecDepth 100000 in
theorem lookTwo_any (W : World) (v : VwV) (B : Nat) (hB : B ≤ W.heap.size) (hre : RdEn W B v.eA v.en v.es) (hn : v.en ≤ 140737488355328) : Calls Tryz.prog 19 #[.slice (some ⟨W.heap.size, 0, none⟩) 2 2] (W.alloc (.cells #[.int .i64 v.id, .int .i64 v.ro, .int .i64 v.le, .int .i64 v.ht, .int .i64 v.hv, .int .i64 v.co, .int .i64 v.ix, .int .i64 v.te, .slice v.vA v.vn v.vc, .slice v.eA v.en v.ec, .int .i64 v.id, .int .i64 v.ro, .int .i64 v.le, .int .i64 v.ht, .int .i64 v.hv, .int .i64 v.co, .int .i64 v.ix, .int .i64 v.te, .slice v.vA v.vn v.vc, .slice v.eA v.en v.ec] 59 (0, 0))) fun e w' => ∃ A c, e = .returned (.slice A (lookL [v.vw, v.vw]).length c) ∧ RdFi w' w'.heap.size A (lookL [v.vw, v.vw]).length (lookL [v.vw, v.vw]) ∧ Below W.heap.size W w' := by
  have hba : Below W.heap.size W (W.alloc (.cells #[.int .i64 v.id, .int .i64 v.ro, .int .i64 v.le, .int .i64 v.ht, .int .i64 v.hv, .int .i64 v.co, .int .i64 v.ix, .int .i64 v.te, .slice v.vA v.vn v.vc, .slice v.eA v.en v.ec, .int .i64 v.id, .int .i64 v.ro, .int .i64 v.le, .int .i64 v.ht, .int .i64 v.hv, .int .i64 v.co, .int .i64 v.ix, .int .i64 v.te, .slice v.vA v.vn v.vc, .slice v.eA v.en v.ec] 59 (0, 0))) := (Below.refl _ _).alloc (Nat.le_refl _) _
  refine (look_any (some ⟨W.heap.size, 0, none⟩) 2 2 (W.heap.size + 1) [v, v] _ (by simp) (by omega) (by omega) (fun x hx => by
    have : x = v := by simpa using hx
    subst this
    exact hn) ⟨Rd.new (H := W.heap.size) rfl rfl (by
    intro j hj
    simp only [List.flatMap_cons, List.flatMap_nil, List.append_nil, List.length_append, VwV.cells_len] at hj
    match j, hj with
    | 0, _ => rfl
    | 1, _ => rfl
    | 2, _ => rfl
    | 3, _ => rfl
    | 4, _ => rfl
    | 5, _ => rfl
    | 6, _ => rfl
    | 7, _ => rfl
    | 8, _ => rfl
    | 9, _ => rfl
    | 10, _ => rfl
    | 11, _ => rfl
    | 12, _ => rfl
    | 13, _ => rfl
    | 14, _ => rfl
    | 15, _ => rfl
    | 16, _ => rfl
    | 17, _ => rfl
    | 18, _ => rfl
    | 19, _ => rfl
    | n + 20, h => exact absurd h (by omega)), fun x hx => by
    have : x = v := by simpa using hx
    subst this
    exact (hre.below hba hB).more (by omega)⟩).mono ?_
  rintro e w' ⟨A, c, rfl, hown, hb⟩
  exact ⟨A, c, rfl, Rd.of_own hown, hba.trans (hb.mono (by simp))⟩
set_option maxRecDepth 100000 in
set_option maxHeartbeats 8000000 in
theorem found_any (A1 : Option Addr) (n1 c1 : Nat) (A2 : Option Addr) (n2 c2 B : Nat) (vs ms : List VwV) (w : World) (hB : B ≤ w.heap.size) (hcap : n1 ≤ c1) (hg : ErrT w) (hr1 : RdVw w B A1 n1 vs) (hr2 : RdVw w B A2 n2 ms) :
    Calls Tryz.prog 9 #[.slice A1 n1 c1, .slice A2 n2 c2] w fun e w' => e = .returned (.bool true) ∧ Below w.heap.size w w' := by
  have HV1 := Lib.hid (views_any A1 n1 c1 B vs w hr1)
  have HV2 : Hid (∀ m, Calls Tryz.prog 17 #[.slice A2 n2 c2] (w.drewN m) (ResViews (w.drewN m) n2 ms)) := Lib.hid (fun m => views_any A2 n2 c2 B ms (w.drewN m) (hr2.below (below_drew' w m) hB))
  have hl1 := hr1.len
  have hl2 := hr2.len
  subst hl1
  subst hl2
  have HR1 := Lib.hid hr1
  have HR2 := Lib.hid hr2
  have HB0 := Lib.hid hB
  have HAW : Hid (∀ W, Below w.heap.size w W → Calls Tryz.prog 11 #[] W fun e w' => e = .returned (.bool true) ∧ Below W.heap.size W w') := Lib.hid (fun W hW => awake16_any W (hg.below hW (Nat.le_refl _)))
  clear hr1 hr2 hg hB
  go_enter Tryz.func9, Tryz.ntmps9
  go_wp2_with fail
  refine HV1.out.mono ?_
  rintro e w1 ⟨q, rfl, hq, m, rfl⟩
  have HW : Hid (Below w.heap.size w (w.drewN m)) := Lib.hid (below_drew' w m)
  cases q with
  | false =>
    clear hq
    go_wp2_with fail
    refine (HAW.out _ HW.out).mono ?_
    rintro e w2 ⟨rfl, hb2⟩
    go_wp2_with fail
    go_ret
    exact ⟨rfl, HW.out.trans hb2⟩
  | true =>
  obtain ⟨hn1, hv1⟩ := hq rfl
  have HVV1 := Lib.hid hv1
  clear hq hv1
  go_wp2_with fail
  refine (HV2.out m).mono ?_
  rintro e w1 ⟨q, rfl, hq, m2, hw1⟩
  have HW2 : Hid (Below w.heap.size w w1) := Lib.hid (by rw [hw1]; exact (below_drew' w m).trans ((below_drew' (w.drewN m) m2).mono (by simp)))
  clear hw1
  cases q with
  | false =>
    clear hq
    go_wp2_with fail
    refine (HAW.out _ HW2.out).mono ?_
    rintro e w2 ⟨rfl, hb2⟩
    have HB2 : Hid (Below w.heap.size w w2) := Lib.hid (HW2.out.trans (hb2.mono HW2.out.size))
    clear hb2
    go_wp2_with fail
    go_ret
    exact ⟨rfl, HB2.out⟩
  | true =>
  obtain ⟨hn2, hv2⟩ := hq rfl
  have HVV2 := Lib.hid hv2
  clear hq hv2
  go_wp2_with fail
  go_loopw [22] (fun i wr => ∃ k : Nat, k ≤ vs.length ∧ i = .int .i64 k ∧ Below w.heap.size w wr) (fun i _ => vs.length - (intOf i).toNat)
  case atStart => exact ⟨0, by omega, rfl, HW2.out⟩
  case round =>
    obtain ⟨k, hk, rfl, hwr⟩ := hrel
    have HWR := Lib.hid hwr
    have hzr := hwr.size
    clear hwr
    by_cases hlt : k < vs.length
    · have hk1 : (k : Int) < vs.length := by omega
      obtain ⟨eb, off, hA, heb, hcell, hre⟩ := (HR1.out.below HWR.out HB0.out).at_ hlt
      have HLX : Hid (wr.rangeAt eb (off + k * 10) (vs[k]).cells) := Lib.hid (fun j v h => (hcell j (by have h1 := (List.getElem?_eq_some_iff.1 h).1; rw [VwV.cells_len] at h1; exact h1)).trans h)
      have hxn := (HVV1.out _ (List.getElem_mem hlt)).1
      have HXE := Lib.hid hre
      have hA2 := hA
      subst hA2
      clear hcell hre
      generalize vs[k] = x at *
      dsimp only [VwV.cells] at HLX
      go_upto_region 6 with (first | refine wpList_store_mid rfl 59 (.tmp 6) (.tmp 25) rfl wr.heap.size 0 _ rfl rfl (view_there wr) (by kernel_rfl) (view_one x) ?_ | refine wpList_load_mid rfl 59 (.tmp 24) rfl eb (off + k * 10) rfl _ _ HLX.out Tryz.underlying59 rfl (by kernel_rfl) ?_)
      have hset := view_set wr x
      generalize hwx : (wr.alloc (.cells #[.int .i64 0, .int .i64 0, .int .i64 0, .int .i64 0, .int .i64 0, .int .i64 0, .int .i64 0, .int .i64 0, .slice none 0 0, .slice none 0 0] 59 (0, 0))).setCells wr.heap.size 0 [.int .i64 x.id, .int .i64 x.ro, .int .i64 x.le, .int .i64 x.ht, .int .i64 x.hv, .int .i64 x.co, .int .i64 x.ix, .int .i64 x.te, .slice x.vA x.vn x.vc, .slice x.eA x.en x.ec] = wx at *
      obtain ⟨hbx, hzx, hra⟩ := hset
      have HBX : Hid (Below w.heap.size w wx) := Lib.hid (HWR.out.trans (hbx.mono hzr))
      have HRX := Lib.hid hra
      have HXW : Hid (RdEn wx B x.eA x.en x.es) := Lib.hid (HXE.out.below hbx (by have := HB0.out; omega))
      have hzwx := HBX.out.size
      clear hwx hbx hra HLX
      go_wp2_with (first | refine wpList_load_mid rfl 59 (.tmp 6) rfl wr.heap.size 0 rfl _ _ HRX.out Tryz.underlying59 rfl (by kernel_rfl) ?_)
      refine (lookTwo_any wx x B (by have := HB0.out; omega) HXW.out (by omega)).mono ?_
      rintro e w3 ⟨A3, c3, rfl, hfi, hb3⟩
      have HFI := Lib.hid hfi
      have HB3 : Hid (Below w.heap.size w w3) := Lib.hid (HBX.out.trans (hb3.mono hzwx))
      have HKD : Hid (∀ f ∈ lookL [x.vw, x.vw], f.1 = 1 ∨ f.1 = 2) := Lib.hid (fun f hf => look_self hf)
      have hlen : (lookL [x.vw, x.vw]).length ≤ 1300 := look_len _ (by simp)
      clear hfi hb3
      generalize lookL [x.vw, x.vw] = tl at *
      go_wp2_with fail
      go_loopw [31] (fun i wr => ∃ k2 : Nat, k2 ≤ tl.length ∧ i = .int .i64 k2 ∧ Below w3.heap.size w3 wr) (fun i _ => tl.length - (intOf i).toNat)
      case atStart => exact ⟨0, by omega, rfl, Below.refl _ _⟩
      case round =>
        obtain ⟨k2, hk2, rfl, hwr2⟩ := hrel
        have HWR2 := Lib.hid hwr2
        have hzr2 := hwr2.size
        by_cases hlt2 : k2 < tl.length
        · have hk21 : (k2 : Int) < tl.length := by omega
          obtain ⟨yb, yoff, hYA, hyb, y0, y1, y2⟩ := RdFi.at_ (Rd.below' HFI.out hwr2 (Nat.le_refl _) (Nat.le_refl _)) hlt2
          have hkd := HKD.out _ (List.getElem_mem hlt2)
          subst hYA
          clear hwr2
          generalize tl[k2] = f at *
          obtain ⟨f0, f1, f2⟩ := f
          dsimp only at *
          have e3 : (f0 == 3) = false := beq_eq_false_iff_ne.2 (by omega)
          have e4 : (f0 == 4) = false := beq_eq_false_iff_ne.2 (by omega)
          clear hkd
          go_wp2_with fail
          go_roundw
          case rel => exact ⟨k2 + 1, by omega, by go_num, HWR2.out.alloc hzr2 _⟩
          case measure => simp [intOf]; omega
        · have hk21 : ¬ (k2 : Int) < tl.length := by omega
          have HB4 : Hid (Below w.heap.size w wr) := Lib.hid (HB3.out.trans (hwr2.mono HB3.out.size))
          clear hwr2
          go_wp2_with fail
          go_roundw
          case rel => exact ⟨k + 1, by omega, by go_num, HB4.out⟩
          case measure => simp [intOf]; omega
    · have hk1 : ¬ (k : Int) < vs.length := by omega
      have HLK : Hid (Calls Tryz.prog 19 #[.slice A1 vs.length c1] wr (ResFi wr (lookL (vs.map VwV.vw)))) := Lib.hid (look_any A1 vs.length c1 B vs wr (by have := HB0.out; omega) (by omega) hcap (fun v hv => by have := (HVV1.out v hv).1; omega) (HR1.out.below HWR.out HB0.out))
      go_wp2_with fail
      refine HLK.out.mono ?_
      rintro e w5 ⟨A5, c5, rfl, hown5, hb5⟩
      have HO5 : Hid (RdFi w5 w5.heap.size A5 (lookL (vs.map VwV.vw)).length (lookL (vs.map VwV.vw))) := Lib.hid (Rd.of_own hown5)
      have HB5 : Hid (Below w.heap.size w w5) := Lib.hid (HWR.out.trans (hb5.mono hzr))
      have hz5 := HB5.out.size
      clear hown5 hb5
      go_wp2_with fail
      have HB6 : Hid (Below w.heap.size w (w5.alloc (.cells #[.slice A1 vs.length c1, .slice A2 ms.length c2] 38 (0, 0)))) := Lib.hid (HB5.out.alloc hz5 _)
      have hpv : RdPV (w5.alloc (.cells #[.slice A1 vs.length c1, .slice A2 ms.length c2] 38 (0, 0))) (w5.heap.size + 1) (some ⟨w5.heap.size, 0, none⟩) 2 [⟨A1, vs.length, c1, vs⟩, ⟨A2, ms.length, c2, ms⟩] := ⟨Rd.new (H := w5.heap.size) rfl rfl (by
        intro j hj
        simp only [List.map_cons, List.map_nil, List.length_cons, List.length_nil] at hj
        match j, hj with
        | 0, _ => rfl
        | 1, _ => rfl), fun p hp => by
        simp only [List.mem_cons, List.not_mem_nil, or_false] at hp
        have h0 := HB0.out
        rcases hp with rfl | rfl
        · have h := HR1.out.below HB6.out h0
          exact ⟨h.1.more (by omega), fun v hv => (h.2 v hv).more (by omega)⟩
        · have h := HR2.out.below HB6.out h0
          exact ⟨h.1.more (by omega), fun v hv => (h.2 v hv).more (by omega)⟩⟩
      refine (concatV_any (some ⟨w5.heap.size, 0, none⟩) 2 2 (w5.heap.size + 1) [⟨A1, vs.length, c1, vs⟩, ⟨A2, ms.length, c2, ms⟩] _ (by simp) (by omega) (by simp [totPV]; omega) hpv).mono ?_
      rintro e w7 ⟨A7, c7, rfl, hown7, hb7⟩
      have hj : joinV [⟨A1, vs.length, c1, vs⟩, ⟨A2, ms.length, c2, ms⟩] = vs ++ ms := by simp [joinV]
      obtain ⟨L, hL⟩ : ∃ L, vs ++ ms = L := ⟨_, rfl⟩
      rw [hj, hL] at hown7 ⊢
      have HB7 : Hid (Below w.heap.size w w7) := Lib.hid (HB6.out.trans (hb7.mono HB6.out.size))
      have HO57 : Hid (RdFi w7 w5.heap.size A5 (lookL (vs.map VwV.vw)).length (lookL (vs.map VwV.vw))) := Lib.hid (Rd.below' HO5.out (((Below.refl w5.heap.size w5).alloc (Nat.le_refl _) _).trans (hb7.mono (by simp))) (Nat.le_refl _) (Nat.le_refl _))
      have hz7 : w5.heap.size + 1 ≤ w7.heap.size := by have := hb7.size; simpa using this
      have HLK2 : Hid (Calls Tryz.prog 19 #[.slice A7 L.length c7] w7 (ResFi w7 (lookL (L.map VwV.vw)))) := Lib.hid (look_any A7 L.length c7 w7.heap.size L w7 (Nat.le_refl _) (by rw [← hL, List.length_append]; omega) (own_cap hown7) (fun v hv => by
        rw [← hL] at hv
        rcases List.mem_append.1 hv with h | h
        · have := (HVV1.out v h).1; omega
        · have := (HVV2.out v h).1; omega) ⟨Rd.of_own hown7, fun v hv => by
        have h0 := HB0.out
        have hzz := HB7.out.size
        rw [← hL] at hv
        rcases List.mem_append.1 hv with h | h
        · exact ((HR1.out.below HB7.out h0).2 v h).more (by omega)
        · exact ((HR2.out.below HB7.out h0).2 v h).more (by omega)⟩)
      obtain ⟨rest, hrest⟩ := look_app (vs.map VwV.vw) (ms.map VwV.vw)
      rw [← List.map_append, hL] at hrest
      have hla : (lookL (L.map VwV.vw)).length ≤ 1300 := look_len _ (by rw [← hL]; simp; omega)
      have hls : (lookL (vs.map VwV.vw)).length ≤ 1300 := look_len _ (by simp; omega)
      have HREST := Lib.hid hrest
      clear hown7 hb7 hj hL hpv hrest
      generalize lookL (L.map VwV.vw) = la at *
      generalize lookL (vs.map VwV.vw) = ls at *
      go_wp2_with fail
      refine HLK2.out.mono ?_
      rintro e w8 ⟨A8, c8, rfl, hown8, hb8⟩
      have HO8 : Hid (RdFi w8 w8.heap.size A8 la.length la) := Lib.hid (Rd.of_own hown8)
      have HC8 : Hid (la.length ≤ c8) := Lib.hid (own_cap hown8)
      have HO58 : Hid (RdFi w8 w5.heap.size A5 ls.length ls) := Lib.hid (Rd.below' HO57.out hb8 (by omega) (Nat.le_refl _))
      have HB8 : Hid (Below w.heap.size w w8) := Lib.hid (HB7.out.trans (hb8.mono HB7.out.size))
      have hle : ls.length ≤ la.length := by rw [HREST.out, List.length_append]; omega
      have hle1 : (ls.length : Int) ≤ (la.length : Int) := by omega
      have hc8 := HC8.out
      have hle2 : (ls.length : Int) ≤ (c8 : Int) := by omega
      have hle0 : (0 : Int) ≤ (ls.length : Int) := by omega
      have HTK : Hid (ls = la.take ls.length) := Lib.hid (by rw [HREST.out, List.take_left])
      clear hown8 hb8
      go_wp2_with fail
      refine (eqF_any A5 A8 ls.length ls.length c5 c8 w5.heap.size w8.heap.size ls (la.take ls.length) w8 HO58.out (HO8.out.take hle) (by omega)).mono ?_
      rintro e w9 ⟨q, rfl, hq, m9, rfl⟩
      obtain rfl : q = true := hq.2 HTK.out
      have HB9 : Hid (Below w.heap.size w (w8.drewN m9)) := Lib.hid (below_dN HB8.out m9)
      clear hq
      go_wp2_with fail
      refine (HAW.out _ HB9.out).mono ?_
      rintro e w10 ⟨rfl, hb10⟩
      have HB10 : Hid (Below w.heap.size w w10) := Lib.hid (HB9.out.trans (hb10.mono (by have := HB9.out.size; simpa using this)))
      clear hb10
      go_wp2_with fail
      go_ret
      exact ⟨rfl, HB10.out⟩
end Go.Proofs.YtfjpenbahoeklaaGreatDoor
