/-
  Calls of a store, as they lie in memory: what a slice of them reads as. No condition.
  The walk of the store laws' light: may spans be gone through. Condition: the slice reads as a list.
  The walk of the store laws' short: if it says yes, the calls are few, and so are their spans. Condition: the calls read as a list.
  The walks of the store laws' play and same: a store with which calls were played; whether two stores tell the same. Conditions: the calls are few; the stores lie in memory.
  The walk of the store laws' example: it answers true. No condition.
-/
import Derived.Test.YtdjcifeoplgkpaaGreatSpanRow
import Derived.Deep.RegionWith
import Derived.Deep.RegionHeld3
import Derived.Deep.DrawnRows
import Derived.Test.YtdjcifeoplgkpaaGreatStoreB
import Derived.Test.YtdjcifeoplgkpaaGreatStoreG
import Derived.Test.YtdjcifeoplgkpaaGreatEqB04
namespace Go.Proofs.YtdjcifeoplgkpaaGreat
open Go Go.RowKit

/-- A call of a store. -/
structure DoV where
  op : Int
  A : Option Addr
  n : Nat
  c : Nat
  l : List Sp
  N : Int
def DoV.cells (d : DoV) : List Value := [.int .i64 d.op, .slice d.A d.n d.c, .int .i64 d.N]
theorem DoV.cells_len (d : DoV) : d.cells.length = 3 := rfl
def RdDo (w : World) (B : Nat) (A : Option Addr) (n : Nat) (ds : List DoV) : Prop := Rd w B 3 A n (ds.flatMap DoV.cells) ∧ ∀ d ∈ ds, RdS w B d.A d.n d.l
theorem RdDo.len {w : World} {B n : Nat} {A : Option Addr} {ds : List DoV} (h : RdDo w B A n ds) : ds.length = n := by
  have h1 := h.1.1; rw [flat_len _ 3 DoV.cells_len] at h1; omega
theorem RdDo.below {w w' : World} {B C : Nat} {A : Option Addr} {n : Nat} {ds : List DoV} (h : RdDo w B A n ds) (hb : Below C w w') (hB : B ≤ C) : RdDo w' B A n ds :=
  ⟨Rd.below' h.1 hb hB (Nat.le_refl _), fun p hp => Rd.below' (h.2 p hp) hb hB (Nat.le_refl _)⟩
theorem RdDo.at_ {w : World} {B n k : Nat} {A : Option Addr} {ds : List DoV} (h : RdDo w B A n ds) (hk : k < ds.length) :
    ∃ b off, A = some ⟨b, off, none⟩ ∧ b < B ∧ w.cell? ⟨b, off + k * 3, none⟩ = some (.int .i64 ds[k].op) ∧ w.cell? ⟨b, off + k * 3 + 1, none⟩ = some (.slice ds[k].A ds[k].n ds[k].c) ∧ w.cell? ⟨b, off + k * 3 + 2, none⟩ = some (.int .i64 ds[k].N) ∧ RdS w B ds[k].A ds[k].n ds[k].l := by
  have hl := h.len
  obtain ⟨b, off, e, hb, hc⟩ := Rd.elem DoV.cells_len h.1 (k := k) (by omega) hk
  exact ⟨b, off, e, hb, hc 0 (by omega), hc 1 (by omega), hc 2 (by omega), h.2 _ (List.getElem_mem hk)⟩
/-- How many spans. -/
def totD (ds : List DoV) : Nat := (ds.map fun d => d.l.length).sum
theorem totD_take (ds : List DoV) (k : Nat) (h : k < ds.length) : totD (ds.take (k + 1)) = totD (ds.take k) + ds[k].l.length := by
  rw [List.take_succ_eq_append_getElem h]; simp only [totD, List.map_append, List.sum_append, List.map_cons, List.map_nil, List.sum_cons, List.sum_nil, Nat.add_zero]
end Go.Proofs.YtdjcifeoplgkpaaGreat
namespace Go.Proofs.YtdjcifeoplgkpaaGreat
open Go.RowKit
attribute [local go_sem ↓] Go.wp_at_zero Go.wp_at_succ

def lsum (l : List Sp) : Nat := (l.map fun s => min s.nm.size 65537).sum
def lightB (l : List Sp) : Bool := decide (l.length ≤ 400) && decide (lsum (l.take 401) ≤ 65536)
theorem lsum_take (l : List Sp) (k : Nat) (h : k < l.length) : lsum (l.take (k + 1)) = lsum (l.take k) + min l[k].nm.size 65537 := by
  rw [List.take_succ_eq_append_getElem h]; simp only [lsum, List.map_append, List.sum_append, List.map_cons, List.map_nil, List.sum_cons, List.sum_nil, Nat.add_zero]
theorem lsum_mem {l : List Sp} {s : Sp} (h : s ∈ l) : min s.nm.size 65537 ≤ lsum l := by
  induction l with
  | nil => simp at h
  | cons a l ih =>
    simp only [lsum, List.map_cons, List.sum_cons]
    rcases List.mem_cons.1 h with rfl | h
    · omega
    · have := ih h; unfold lsum at this; omega
theorem lsum_le (l : List Sp) : lsum l ≤ 65537 * l.length := by
  induction l with
  | nil => simp [lsum]
  | cons a l ih => simp only [lsum, List.map_cons, List.sum_cons, List.length_cons] at ih ⊢; omega
theorem light_parts {l : List Sp} (h : lightB l = true) : l.length ≤ 400 ∧ ∀ s ∈ l, s.nm.size ≤ 65536 := by
  simp only [lightB, Bool.and_eq_true, decide_eq_true_eq] at h
  refine ⟨h.1, fun s hs => ?_⟩
  rw [List.take_of_length_le (by omega)] at h
  have := lsum_mem hs
  omega

set_option maxRecDepth 100000 in
set_option maxHeartbeats 400000 in
theorem light_any (A : Option Addr) (n cap B : Nat) (l : List Sp) (w : World) (hbig : n ≤ 140737488355328) (hr : RdS w B A n l) :
    Calls Tryz.prog 20 #[.slice A n cap] w fun e w' => e = .returned (.bool (lightB l)) ∧ w = w' := by
  have hlen := hr.len
  subst hlen
  go_enter Tryz.func20, Tryz.ntmps20
  go_wp2_with fail
  go_loop [3, 4] (fun s i => ∃ k : Nat, k ≤ l.length ∧ k ≤ 401 ∧ i = .int .i64 k ∧ s = .int .i64 (lsum (l.take k) : Nat)) (fun _ i => l.length - (intOf i).toNat)
  case atStart => exact ⟨0, by omega, by omega, rfl, by simp [lsum]⟩
  case round =>
    obtain ⟨k, hk, hk2, rfl, rfl⟩ := hrel
    have hle := lsum_le (l.take k)
    have hle2 : (l.take k).length ≤ 401 := by simp; omega
    by_cases hlt : k < l.length
    · by_cases h400 : k ≤ 400
      · obtain ⟨b, off, rfl, _, _, _, _, _, _, q5⟩ := hr.at_ hlt
        have HS := Lib.hid (lsum_take l k hlt)
        have hb1 : ((lsum (l.take k) : Nat) : Int) ≤ 30000000 := by omega
        generalize hN : lsum (l.take k) = N at *
        generalize l[k] = s at *
        clear hr hN
        by_cases hmin : s.nm.size ≤ 65537
        · have hm : min (s.nm.size : Int) 65537 = s.nm.size := by omega
          have HM : Hid (min s.nm.size 65537 = s.nm.size) := Lib.hid (by omega)
          clear hle hle2
          go_wp2_with fail
          go_round
          case rel => exact ⟨k + 1, by omega, by omega, by go_num, by rw [HS.out, HM.out]; go_num⟩
          case measure => simp [intOf]; omega
        · have hm : min (s.nm.size : Int) 65537 = 65537 := by omega
          have HM : Hid (min s.nm.size 65537 = 65537) := Lib.hid (by omega)
          clear hle hle2
          go_wp2_with fail
          go_round
          case rel => exact ⟨k + 1, by omega, by omega, by go_num, by rw [HS.out, HM.out]; go_num⟩
          case measure => simp [intOf]; omega
      · obtain rfl : k = 401 := by omega
        have HF : Hid (lightB l = false) := Lib.hid (by simp [lightB]; intro h; omega)
        have hgt : (400 : Int) < (l.length : Int) := by omega
        go_wp2_with fail
        go_ret
        exact ⟨ret_bool HF.out.symm, rfl⟩
    · have e1 : l.take k = l := List.take_of_length_le (by omega)
      have e2 : k ≤ 401 → l.take 401 = l := fun h => List.take_of_length_le (by omega)
      by_cases hb : l.length ≤ 400
      · by_cases hs : lsum l ≤ 65536
        · have HF : Hid (lightB l = true) := Lib.hid (by simp [lightB, hb, e2 hk2, hs])
          have hs' : ((lsum l : Nat) : Int) ≤ 65536 := by omega
          rw [e1]
          clear e1 e2 hs hle hle2
          go_wp2_with fail
          go_ret
          exact ⟨ret_bool HF.out.symm, rfl⟩
        · have HF : Hid (lightB l = false) := Lib.hid (by simp [lightB, e2 hk2]; intro _; omega)
          have hs' : ¬ ((lsum l : Nat) : Int) ≤ 65536 := by omega
          rw [e1]
          clear e1 e2 hs hle hle2
          go_wp2_with fail
          go_ret
          exact ⟨ret_bool HF.out.symm, rfl⟩
      · have HF : Hid (lightB l = false) := Lib.hid (by simp [lightB]; intro h; omega)
        have hgt : (400 : Int) < (l.length : Int) := by omega
        clear e1 e2
        go_wp2_with fail
        go_ret
        exact ⟨ret_bool HF.out.symm, rfl⟩

end Go.Proofs.YtdjcifeoplgkpaaGreat
namespace Go.Proofs.YtdjcifeoplgkpaaGreat
open Go Go.RowKit

/-- Few calls, with few spans. -/
def ShortD (ds : List DoV) : Prop := ds.length ≤ 60 ∧ totD ds ≤ 400 ∧ ∀ d ∈ ds, lightB d.l = true
def ResShort (w : World) (ds : List DoV) (e : Ending) (w' : World) : Prop := ∃ q : Bool, e = .returned (.bool q) ∧ (q = true → ShortD ds) ∧ Below w.heap.size w w'

set_option maxRecDepth 100000 in
set_option maxHeartbeats 2000000 in
theorem short_any (A : Option Addr) (n cap B : Nat) (ds : List DoV) (w : World) (hB : B ≤ w.heap.size) (hbig : n ≤ 140737488355328) (hnb : ∀ d ∈ ds, d.n ≤ 140737488355328) (hr : RdDo w B A n ds) :
    Calls Tryz.prog 5 #[.slice A n cap] w (ResShort w ds) := by
  have hlen := hr.len
  subst hlen
  have HR := Lib.hid hr
  have HNB := Lib.hid hnb
  clear hr hnb
  go_enter Tryz.func5, Tryz.ntmps5
  go_wp2_with fail
  go_loopw [3, 4, 5] (fun u v i wr => ∃ (k N Z : Nat), k ≤ ds.length ∧ k ≤ 61 ∧ i = .int .i64 k ∧ u = .int .i64 N ∧ v = .int .i64 Z ∧ N = totD (ds.take k) ∧ N ≤ 801 ∧ Z ≤ 26214400 * k ∧ (∀ d ∈ ds.take k, lightB d.l = true) ∧ Below w.heap.size w wr) (fun _ _ i _ => ds.length - (intOf i).toNat)
  case atStart => exact ⟨0, 0, 0, by omega, by omega, rfl, rfl, rfl, rfl, by omega, by omega, by simp, Below.refl _ _⟩
  case round =>
    obtain ⟨k, N, Z, hk, hk61, rfl, rfl, rfl, hN, hN8, hZ, hall, hb⟩ := hrel
    have HN := Lib.hid hN
    have HALL := Lib.hid hall
    have HB := Lib.hid hb
    have hzr := hb.size
    have hNi : (N : Int) ≤ 801 := by omega
    have hZi : (Z : Int) ≤ 2000000000 := by omega
    clear hN hall hb
    have hstop : (¬ k < ds.length ∨ ¬ k ≤ 60 ∨ ¬ N ≤ 400) → ds.length ≤ 60 → N ≤ 400 → ShortD ds := fun h h1 h2 => by
      have hkl : k = ds.length := by omega
      have h3 := HALL.out
      have h4 := HN.out
      rw [List.take_of_length_le (by omega)] at h3 h4
      exact ⟨h1, by omega, h3⟩
    have HSTOP := Lib.hid hstop
    clear hstop
    by_cases hgo : k < ds.length ∧ k ≤ 60 ∧ N ≤ 400
    · obtain ⟨hlt, h60, h400⟩ := hgo
      have hk1 : (k : Int) < (ds.length : Int) := by omega
      have hk2 : (k : Int) ≤ 60 := by omega
      have hk3 : (N : Int) ≤ 400 := by omega
      obtain ⟨b1, o1, rfl, hb1, x0, x1, x2, hrs⟩ := (HR.out.below HB.out hB).at_ hlt
      have hdn := HNB.out _ (List.getElem_mem hlt)
      have HTK := Lib.hid (totD_take ds k hlt)
      have HMEM : Hid (∀ d, d ∈ ds.take (k + 1) → d ∈ ds.take k ∨ d = ds[k]) := Lib.hid (fun d hd => by
        rw [List.take_succ_eq_append_getElem hlt] at hd
        rcases List.mem_append.1 hd with h | h
        · exact .inl h
        · exact .inr (List.mem_singleton.1 h))
      have HRS := Lib.hid hrs
      have HDL := Lib.hid hrs.len
      clear hrs
      generalize ds[k] = d at *
      cases hl : lightB d.l
      · have HL := Lib.hid hl
        clear hl
        by_cases hmin : d.n ≤ 401
        · have hm : min (d.n : Int) 401 = d.n := by omega
          go_wp2_with fail
          refine (light_any _ _ _ _ d.l _ hdn HRS.out).mono ?_
          rintro e w1 ⟨rfl, rfl⟩
          rw [HL.out]
          go_wp2_with fail
          go_ret
          exact ⟨false, rfl, (fun h => by cases h), HB.out⟩
        · have hm : min (d.n : Int) 401 = 401 := by omega
          go_wp2_with fail
          refine (light_any _ _ _ _ d.l _ hdn HRS.out).mono ?_
          rintro e w1 ⟨rfl, rfl⟩
          rw [HL.out]
          go_wp2_with fail
          go_ret
          exact ⟨false, rfl, (fun h => by cases h), HB.out⟩
      · have HL := Lib.hid hl
        have hlp := light_parts hl
        have hdn400 : d.n ≤ 400 := by have := HDL.out; omega
        have HNM := Lib.hid hlp.2
        have hm : min (d.n : Int) 401 = d.n := by omega
        have hd0 : (0 : Int) ≤ (d.n : Int) := by omega
        have hd4 : (d.n : Int) ≤ 400 := by omega
        have HTOT : Hid (N + d.n = totD (ds.take (k + 1))) := Lib.hid (by rw [HTK.out, ← HN.out, HDL.out])
        have HALL2 : Hid (∀ e ∈ ds.take (k + 1), lightB e.l = true) := Lib.hid (fun e he => by
          rcases HMEM.out e he with h | rfl
          · exact HALL.out e h
          · exact HL.out)
        clear hl hlp
        go_wp2_with fail
        refine (light_any _ _ _ _ d.l _ hdn HRS.out).mono ?_
        rintro e w1 ⟨rfl, rfl⟩
        rw [HL.out]
        go_wp2_with fail
        obtain ⟨wA, rfl⟩ : ∃ wA, wA = wr := ⟨_, rfl⟩
        go_loopw [4, 44] (fun v i wq => ∃ (j Y : Nat), j ≤ d.n ∧ i = .int .i64 j ∧ v = .int .i64 Y ∧ Y ≤ Z + 65536 * j ∧ Below wA.heap.size wA wq) (fun _ i _ => d.n - (intOf i).toNat)
        case atStart => exact ⟨0, Z, by omega, rfl, rfl, by omega, Below.refl _ _⟩
        case round =>
          obtain ⟨j, Y, hj, rfl, rfl, hY, hbq⟩ := hrel
          have HBQ := Lib.hid hbq
          have hzq := hbq.size
          clear hbq
          by_cases hjl : j < d.n
          · have hj1 : (j : Int) < (d.n : Int) := by omega
            obtain ⟨b2, o2, e2, hb2, y0, y1, y2, y3, y4, y5⟩ := RdS.at_ (Rd.below' HRS.out HBQ.out (by omega) (Nat.le_refl _)) (k := j) (by rw [HDL.out]; exact hjl)
            have hns := HNM.out _ (List.getElem_mem (show j < d.l.length by rw [HDL.out]; exact hjl))
            have HE := Lib.hid e2
            generalize (d.l[j]'(by rw [HDL.out]; exact hjl)) = x at *
            have hYi : (Y : Int) ≤ 2100000000 := by omega
            have hxi : (x.nm.size : Int) ≤ 65536 := by omega
            have hx0 : (0 : Int) ≤ (x.nm.size : Int) := by omega
            clear e2
            have hdA := HE.out
            obtain ⟨dop, dA, dn, dc, dl, dN⟩ := d
            dsimp only at *
            subst hdA
            go_wp2_with fail
            go_roundw
            case rel => exact ⟨j + 1, Y + x.nm.size, by omega, by go_num, by go_num, by omega, HBQ.out.alloc hzq _⟩
            case measure => simp [intOf]; omega
          · have hj1 : ¬ (j : Int) < (d.n : Int) := by omega
            go_wp2_with fail
            go_roundw
            case rel => exact ⟨k + 1, N + d.n, Y, by omega, by omega, by go_num, by go_num, rfl, HTOT.out, by omega, by omega, HALL2.out, HB.out.trans (HBQ.out.mono hzr)⟩
            case measure => simp [intOf]; omega
    · by_cases hlt : k < ds.length
      · have hk1 : (k : Int) < (ds.length : Int) := by omega
        by_cases h60 : k ≤ 60
        · have hk2 : (k : Int) ≤ 60 := by omega
          have hk3 : ¬ (N : Int) ≤ 400 := by omega
          by_cases hl60 : (ds.length : Int) ≤ 60
          · go_wp2_with fail
            go_ret
            exact ⟨false, rfl, (fun h => by cases h), HB.out⟩
          · go_wp2_with fail
            go_ret
            exact ⟨false, rfl, (fun h => by cases h), HB.out⟩
        · have hk2 : ¬ (k : Int) ≤ 60 := by omega
          have hl60 : ¬ (ds.length : Int) ≤ 60 := by omega
          go_wp2_with fail
          go_ret
          exact ⟨false, rfl, (fun h => by cases h), HB.out⟩
      · have hk1 : ¬ (k : Int) < (ds.length : Int) := by omega
        by_cases hl60 : (ds.length : Int) ≤ 60
        · by_cases h400 : (N : Int) ≤ 400
          · by_cases hz : (Z : Int) ≤ 65536
            · go_wp2_with fail
              go_ret
              exact ⟨true, rfl, fun _ => HSTOP.out (by omega) (by omega) (by omega), HB.out⟩
            · go_wp2_with fail
              go_ret
              exact ⟨false, rfl, (fun h => by cases h), HB.out⟩
          · go_wp2_with fail
            go_ret
            exact ⟨false, rfl, (fun h => by cases h), HB.out⟩
        · go_wp2_with fail
          go_ret
          exact ⟨false, rfl, (fun h => by cases h), HB.out⟩
end Go.Proofs.YtdjcifeoplgkpaaGreat
namespace Go.Proofs.YtdjcifeoplgkpaaGreat
open Go Go.RowKit Go.Maps

/-- Which call it is. -/
def opc (z : Int) : Int := (IntKind.u64.wrap z).tmod 5
theorem opc_nat (z : Int) : ∃ r : Nat, (IntKind.u64.wrap z).tmod 5 = (r : Int) ∧ opc z = (r : Int) ∧ r < 5 := by
  obtain ⟨a, ha⟩ : ∃ a : Nat, IntKind.u64.wrap z = (a : Int) := by
    have h : 0 ≤ IntKind.u64.wrap z := by simp [IntKind.wrap, IntKind.bits, IntKind.signed]; omega
    exact ⟨(IntKind.u64.wrap z).toNat, by omega⟩
  unfold opc
  rw [ha]
  exact ⟨a % 5, rfl, rfl, Nat.mod_lt _ (by omega)⟩
/-- What a call makes of a store. -/
def stepD (T : List Tr) (d : DoV) : List Tr := if opc d.op = 3 then retT T d.N else (ingA T d.l).1
def playD (ds : List DoV) : List Tr := ds.foldl stepD []
theorem playD_take (ds : List DoV) (k : Nat) (h : k < ds.length) : playD (ds.take (k + 1)) = stepD (playD (ds.take k)) ds[k] := by
  show List.foldl stepD [] (ds.take (k + 1)) = _
  rw [List.take_succ_eq_append_getElem h, List.foldl_append]; rfl

end Go.Proofs.YtdjcifeoplgkpaaGreat
namespace Go.Proofs.YtdjcifeoplgkpaaGreat
open Go Go.RowKit Go.Maps

/-- The span of the example. -/
def oneS : Sp := ⟨1, 2, 0, 5, 7, ⟨#[97]⟩⟩
def T1 : List Tr := [⟨1, [oneS]⟩]
set_option maxRecDepth 100000 in
theorem one_any (w : World) : Calls Tryz.prog 21 #[] w fun e w' => e = .returned (.agg #[.int .i64 1, .int .i64 2, .int .i64 0, .int .i64 5, .int .i64 7, .string ⟨#[97]⟩]) ∧ Below w.heap.size w w' := by
  go_enter Tryz.func21, Tryz.ntmps21
  go_wp2_with fail
  refine bodyPost_ret (v := .agg #[.int .i64 1, .int .i64 2, .int .i64 0, .int .i64 5, .int .i64 7, .string ⟨#[97]⟩]) (by simp [results, Tryz.results21, go_sem]) rfl ⟨rfl, ?_⟩
  exact (Below.refl _ _).alloc (Nat.le_refl _) _
theorem ex_ing : ingA [] [oneS] = (T1, ⟨1, 0, 0, 0, 0⟩, 0) := by kernel_rfl
theorem sortS_1 (s : Sp) : sortS [s] = [s] := sortS_of (by simp)
theorem ex_look : lookT T1 1 = [⟨0, false, oneS⟩] := by
  have k0 : kidIds [oneS] 0 = [2] := by kernel_rfl
  have k2 : kidIds [oneS] 2 = [] := by kernel_rfl
  have lo : lost [oneS] = [] := by kernel_rfl
  have g2 : getS [oneS] 2 = oneS := by kernel_rfl
  show branches [oneS] = _
  rw [branches, k0, lo, layL_nil, layL]
  simp only [List.map_cons, List.map_nil, g2, sortS_1, List.flatMap_cons, List.flatMap_nil, List.append_nil]
  show _ :: layL [oneS] 1 1 false (kidIds [oneS] 2) = _
  rw [k2, layL_nil]
theorem ex_ret7 : retT T1 7 = T1 := by kernel_rfl
theorem ex_ret8 : retT T1 8 = [] := by kernel_rfl
theorem ex_img : 5 < (imgT T1).length := by
  have h1 := (digits_len (n := 1) (by omega)).1
  have h2 := (digits_len (n := 2) (by omega)).1
  have h0 := (digits_len (n := 0) (by omega)).1
  have h5 := (digits_len (n := 5) (by omega)).1
  have e : imgT T1 = digits 1 ++ (digits (putEnc [oneS]).length ++ (digits 1 ++ ((digits 1 ++ (digits 2 ++ (digits 0 ++ (digits 5 ++ (digits 2 ++ []))))) ++ digits 1 ++ [97] ++ [])) ++ []) := by
    unfold imgT T1
    simp only [List.flatMap_cons, List.flatMap_nil, encT, sortS_1]
    rfl
  rw [e]
  simp only [List.length_append, List.length_cons, List.length_nil]
  omega

set_option maxRecDepth 100000 in
set_option maxHeartbeats 4000000 in
theorem awake7_any (w : World) : Calls Tryz.prog 6 #[] w fun e w' => e = .returned (.bool true) ∧ Below w.heap.size w w' := by
  go_enter Tryz.func6, Tryz.ntmps6
  go_wp2_with fail
  refine (snew_any w).mono ?_
  rintro e w1 ⟨s, m, rfl, hst1, hb1⟩
  have HST1 := Lib.hid hst1
  have HB1 := Lib.hid hb1
  have hz1 := hb1.size
  clear hst1 hb1
  go_wp2_with fail
  refine (one_any w1).mono ?_
  rintro e w2 ⟨rfl, hb2⟩
  have hz2 := hb2.size
  have HB2 : Hid (Below w.heap.size w w2) := Lib.hid (HB1.out.trans (hb2.mono hz1))
  have HST2 := Lib.hid (HST1.out.below hb2 (Nat.le_refl _))
  clear hb2
  have HBB : Hid (Below w2.heap.size w2 (w2.alloc (.cells #[.int .i64 1, .int .i64 2, .int .i64 0, .int .i64 5, .int .i64 7, .string ⟨#[97]⟩] 38))) := Lib.hid ((Below.refl _ _).alloc (Nat.le_refl _) _)
  have HCALL := Lib.hid (ingest_any (HST2.out.below HBB.out (Nat.le_refl _)) (some ⟨w2.heap.size, 0, none⟩) 1 1 (w2.heap.size + 1) [oneS] (by simp) (by omega) (by intro x hx; obtain rfl := List.mem_singleton.1 hx; decide) (RdS.one rfl oneS _ _) (by
    intro _ j hj hs
    have := Option.some.inj hj
    simp only at this hs
    omega))
  go_wp2_with fail
  refine HCALL.out.mono ?_
  rw [ex_ing]
  rintro e w5 ⟨rfl, hst5, hfr5⟩
  have hz5 := hfr5.size
  simp at hz5
  dsimp only at hst5
  have HB5 : Hid (Below w.heap.size w w5) := Lib.hid ((HB2.out.trans (HBB.out.mono HB2.out.size)).trans (hfr5.below (by simp; omega) (fun j hj => hj.1)))
  have HST5 := Lib.hid (hst5.mono (S2 := fun j => w.heap.size ≤ j ∧ j < w5.heap.size) (fun j hj => by
    rcases hj with hj | ⟨h1, h2⟩
    · exact ⟨hj.1, by omega⟩
    · simp at h1; exact ⟨by omega, h2⟩) (fun j hj => hj.2))
  clear hst5 hfr5
  have HBC : Hid (Below w5.heap.size w5 (w5.alloc (.cells #[.int .i64 1, .int .i64 0, .int .i64 0, .int .i64 0, .int .i64 0] 40))) := Lib.hid ((Below.refl _ _).alloc (Nat.le_refl _) _)
  have HLK := Lib.hid (lookup_any (HST5.out.below HBC.out (Nat.le_refl _)) 1 (wfI_of (by omega) (by omega)))
  go_wp2_with fail
  refine HLK.out.mono ?_
  rw [ex_look]
  rintro e w7 ⟨Ab, cb, rfl, hownb, hb7⟩
  have hz7 := hb7.size
  simp at hz7
  obtain ⟨gb, rfl, hgb, _⟩ := own_form hownb (by simp)
  have hrb : RdBr w7 w7.heap.size (some ⟨gb, 0, none⟩) 1 [⟨0, false, oneS⟩] := Rd.of_own hownb
  obtain ⟨b1, o1, e1, _, y0, y1, y2, y3, y4, y5, y6, y7⟩ := hrb.at_ (k := 0) (by simp)
  injection e1 with e1
  injection e1 with e1 e2
  subst e1 e2
  have hcc := blk_cell (blk_below hb7 (by simp) (heap_alloc_new w5 (.cells #[.int .i64 1, .int .i64 0, .int .i64 0, .int .i64 0, .int .i64 0] 40)))
  have HB7 : Hid (Below w.heap.size w w7) := Lib.hid ((HB5.out.trans (HBC.out.mono HB5.out.size)).trans (hb7.mono (by have := HB5.out.size; simp; omega)))
  have HST7 := Lib.hid ((HST5.out.below HBC.out (Nat.le_refl _)).below hb7 (Nat.le_refl _))
  have hgl := (own_mem hownb)
  simp at hgb
  have HC : Hid (∀ W, Fr (fun j => w.heap.size ≤ j ∧ j < w5.heap.size) w7 W → (∀ j, W.cell? ⟨w5.heap.size, j, none⟩ = (#[.int .i64 1, .int .i64 0, .int .i64 0, .int .i64 0, .int .i64 0] : Array Value)[j]?) ∧
      (W.cell? ⟨gb, 2, none⟩ = some (.int .i64 1) ∧ W.cell? ⟨gb, 3, none⟩ = some (.int .i64 2) ∧ W.cell? ⟨gb, 4, none⟩ = some (.int .i64 0) ∧ W.cell? ⟨gb, 5, none⟩ = some (.int .i64 5) ∧ W.cell? ⟨gb, 6, none⟩ = some (.int .i64 7) ∧ W.cell? ⟨gb, 7, none⟩ = some (.string ⟨#[97]⟩))) := Lib.hid (fun W hW => by
    have k1 : W.heap[w5.heap.size]? = w7.heap[w5.heap.size]? := hW.block _ (by omega) (by omega)
    have k2 : W.heap[gb]? = w7.heap[gb]? := hW.block _ hgl (by omega)
    refine ⟨fun j => ?_, ?_⟩
    · rw [← hcc j]; simp only [World.cell?, k1]
    · simp only [World.cell?, k2] at y2 y3 y4 y5 y6 y7 ⊢
      exact ⟨y2, y3, y4, y5, y6, y7⟩)
  clear hownb hb7 hrb hcc y0 y1 y2 y3 y4 y5 y6 y7
  go_wp2_with fail
  refine wp_region_sched [(0, true), (1, true), (2, true), (3, true), (4, true), (5, true), (6, true), (7, true), (8, true), (9, true), (10, true), (11, true), (12, true), (13, true), (14, true), (15, true), (16, true), (17, false), (18, true), (19, true), (20, true), (21, true), (22, false), (23, true), (24, true), (25, true), (26, true), (27, false), (28, true), (29, true), (30, true), (31, true), (32, true), (33, false), (34, true), (35, true), (36, true), (37, true), (38, false), (39, true), (40, true), (41, true), (42, true)] (fun W => Fr (fun j => w.heap.size ≤ j ∧ j < w5.heap.size) w7 W) (by kernel_rfl) (by kernel_rfl) rfl (by kernel_rfl) ((Fr.refl _ _).drew) ?_
  repeat (first | (apply sched_take rfl; (focus (first | rfl | (go_simp; done))); (focus (intro W hW; obtain ⟨f1, f2⟩ := HC.out W hW; go_simp; rfl)); (focus (intro K hK; go_simp; refine hK _ ?_; clear hK K))) | (apply sched_skip rfl; (focus (first | rfl | (go_simp; done))); (focus (intro K hK; go_simp; refine hK _ ?_; clear hK K))))
  apply sched_op rfl
  intro K hK
  go_simp
  go_wp2_with (fail)
  refine (one_any w7.drew).mono ?_
  rintro e v1 ⟨rfl, hq1⟩
  have hk1 : Fr (fun j => w.heap.size ≤ j ∧ j < w5.heap.size) w7 v1 := (Fr.refl _ _).drew.trans (Fr.of_below hq1)
  have hst1 : St v1 s m T1 (fun j => w.heap.size ≤ j ∧ j < w5.heap.size) := (HST7.out.drewN 1).below hq1 (Nat.le_refl _)
  clear hq1
  go_wp2_with fail
  refine ⟨by exact hk1, ?_⟩
  repeat (first | (apply sched_take rfl; (focus (first | rfl | (go_simp; done))); (focus (intro W hW; obtain ⟨f1, f2⟩ := HC.out W hW; go_simp; rfl)); (focus (intro K hK; go_simp; refine hK _ ?_; clear hK K))) | (apply sched_skip rfl; (focus (first | rfl | (go_simp; done))); (focus (intro K hK; go_simp; refine hK _ ?_; clear hK K))))
  apply sched_op rfl
  intro K hK
  go_simp
  go_wp2_with (fail)
  refine (retain_any hst1 7).mono ?_
  rintro e v2 ⟨he2, hst2, hq2⟩
  rw [ex_ret7] at he2 hst2
  obtain rfl : e = .returned (.int .i64 0) := he2
  have hk2 : Fr (fun j => w.heap.size ≤ j ∧ j < w5.heap.size) w7 v2 := hk1.trans hq2
  clear hq2
  go_wp2_with fail
  refine ⟨by exact hk2, ?_⟩
  repeat (first | (apply sched_take rfl; (focus (first | rfl | (go_simp; done))); (focus (intro W hW; obtain ⟨f1, f2⟩ := HC.out W hW; go_simp; rfl)); (focus (intro K hK; go_simp; refine hK _ ?_; clear hK K))) | (apply sched_skip rfl; (focus (first | rfl | (go_simp; done))); (focus (intro K hK; go_simp; refine hK _ ?_; clear hK K))))
  apply sched_op rfl
  intro K hK
  go_simp
  go_wp2_with (fail)
  refine (image_any hst2).mono ?_
  rintro e v3 ⟨Ai, ci, rfl, _, hq3⟩
  have hk3 : Fr (fun j => w.heap.size ≤ j ∧ j < w5.heap.size) w7 v3 := hk2.trans (Fr.of_below hq3)
  have hst3 := hst2.below hq3 (Nat.le_refl _)
  have himg : (5 : Int) < ((imgT T1).length : Int) := by have := ex_img; omega
  generalize (imgT T1).length = nimg at *
  clear hq3
  go_wp2_with fail
  refine ⟨by exact hk3, ?_⟩
  repeat (first | (apply sched_take rfl; (focus (first | rfl | (go_simp; done))); (focus (intro W hW; obtain ⟨f1, f2⟩ := HC.out W hW; go_simp; rfl)); (focus (intro K hK; go_simp; refine hK _ ?_; clear hK K))) | (apply sched_skip rfl; (focus (first | rfl | (go_simp; done))); (focus (intro K hK; go_simp; refine hK _ ?_; clear hK K))))
  apply sched_op rfl
  intro K hK
  go_simp
  go_wp2_with (fail)
  refine (retain_any hst3 8).mono ?_
  rintro e v4 ⟨he4, hst4, hq4⟩
  rw [ex_ret8] at he4 hst4
  obtain rfl : e = .returned (.int .i64 1) := he4
  have hk4 : Fr (fun j => w.heap.size ≤ j ∧ j < w5.heap.size) w7 v4 := hk3.trans hq4
  clear hq4
  go_wp2_with fail
  refine ⟨by exact hk4, ?_⟩
  repeat (first | (apply sched_take rfl; (focus (first | rfl | (go_simp; done))); (focus (intro W hW; obtain ⟨f1, f2⟩ := HC.out W hW; go_simp; rfl)); (focus (intro K hK; go_simp; refine hK _ ?_; clear hK K))) | (apply sched_skip rfl; (focus (first | rfl | (go_simp; done))); (focus (intro K hK; go_simp; refine hK _ ?_; clear hK K))))
  apply sched_op rfl
  intro K hK
  go_simp
  go_wp2_with (fail)
  refine (traces_any hst4).mono ?_
  rintro e v5 ⟨At, ct, rfl, _, hq5⟩
  have hk5 : Fr (fun j => w.heap.size ≤ j ∧ j < w5.heap.size) w7 v5 := hk4.trans (Fr.of_below hq5)
  clear hq5
  go_wp2_with fail
  refine ⟨by exact hk5, ?_⟩
  repeat (first | (apply sched_take rfl; (focus (first | rfl | (go_simp; done))); (focus (intro W hW; obtain ⟨f1, f2⟩ := HC.out W hW; go_simp; rfl)); (focus (intro K hK; go_simp; refine hK _ ?_; clear hK K))) | (apply sched_skip rfl; (focus (first | rfl | (go_simp; done))); (focus (intro K hK; go_simp; refine hK _ ?_; clear hK K))))
  refine sched_nil ?_
  go_wp2_with fail
  go_ret
  exact ⟨rfl, HB7.out.trans (hk5.below HB7.out.size (fun j hj => hj.1))⟩
end Go.Proofs.YtdjcifeoplgkpaaGreat
