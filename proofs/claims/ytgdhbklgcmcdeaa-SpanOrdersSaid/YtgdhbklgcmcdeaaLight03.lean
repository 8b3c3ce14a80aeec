/-
  The walks of spandrellaw03's light, one and awake. Condition: the spans read as a list.
-/
import Derived.Test.YtgdhbklgcmcdeaaGet
import Derived.Deep.RegionWith
import Derived.Deep.RegionHeld3
import Derived.Deep.DrawnRows
namespace Go.Proofs.Ytgdhbklgcmcdeaa
open Go.RowKit
attribute [local go_sem ↓] Go.wp_at_zero Go.wp_at_succ

def lsum (l : List Sp) : Nat := (l.map fun s => min s.nm.size 65537).sum
def lightB (l : List Sp) : Bool := decide (l.length ≤ 200) && decide (lsum (l.take 201) ≤ 65536)
theorem lsum_take (l : List Sp) (k : Nat) (h : k < l.length) : lsum (l.take (k + 1)) = lsum (l.take k) + min l[k].nm.size 65537 := by
  rw [List.take_succ_eq_append_getElem h]; simp only [lsum, List.map_append, List.sum_append, List.map_cons, List.map_nil, List.sum_cons, List.sum_nil, Nat.add_zero]
theorem lsum_mem {l : List Sp} {s : Sp} (h : s ∈ l) : min s.nm.size 65537 ≤ lsum l := by
  induction l with
  | nil => simp at h
  | cons a l ih =>
    simp only [lsum, List.map_cons, List.sum_cons]
    rcases List.mem_cons.1 h with rfl | h
    · omega
    · have := ih h; unfold lsum at this; omega
theorem lsum_le (l : List Sp) : lsum l ≤ 65537 * l.length := by
  induction l with
  | nil => simp [lsum]
  | cons a l ih => simp only [lsum, List.map_cons, List.sum_cons, List.length_cons] at ih ⊢; omega
theorem light_parts {l : List Sp} (h : lightB l = true) : l.length ≤ 200 ∧ ∀ s ∈ l, s.nm.size ≤ 65536 := by
  simp only [lightB, Bool.and_eq_true, decide_eq_true_eq] at h
  refine ⟨h.1, fun s hs => ?_⟩
  rw [List.take_of_length_le (by omega)] at h
  have := lsum_mem hs
  omega

set_option maxRecDepth 100000 in
set_option maxHeartbeats 400000 in
theorem light_any (A : Option Addr) (n cap B : Nat) (l : List Sp) (w : World) (hbig : n ≤ 140737488355328) (hr : RdS w B A n l) :
    Calls Try.prog 11 #[.slice A n cap] w fun e w' => e = .returned (.bool (lightB l)) ∧ w = w' := by
  have hlen := hr.len
  subst hlen
  go_enter Try.func11, Try.ntmps11
  go_wp2_with fail
  go_loop [3, 4] (fun s i => ∃ k : Nat, k ≤ l.length ∧ k ≤ 201 ∧ i = .int .i64 k ∧ s = .int .i64 (lsum (l.take k) : Nat)) (fun _ i => l.length - (intOf i).toNat)
  case atStart => exact ⟨0, by omega, by omega, rfl, by simp [lsum]⟩
  case round =>
    obtain ⟨k, hk, hk2, rfl, rfl⟩ := hrel
    have hle := lsum_le (l.take k)
    have hle2 : (l.take k).length ≤ 201 := by simp; omega
    by_cases hlt : k < l.length
    · by_cases h200 : k ≤ 200
      · obtain ⟨b, off, rfl, _, _, _, _, _, _, q5⟩ := hr.at_ hlt
        have HS := Lib.hid (lsum_take l k hlt)
        have hb1 : ((lsum (l.take k) : Nat) : Int) ≤ 20000000 := by omega
        generalize hN : lsum (l.take k) = N at *
        generalize l[k] = s at *
        clear hr hN
        by_cases hmin : s.nm.size ≤ 65537
        · have hm : min (s.nm.size : Int) 65537 = s.nm.size := by omega
          have HM : Hid (min s.nm.size 65537 = s.nm.size) := Lib.hid (by omega)
          clear hle hle2
          go_wp2_with fail
          go_round
          case rel => exact ⟨k + 1, by omega, by omega, by go_num, by rw [HS.out, HM.out]; go_num⟩
          case measure => simp [intOf]; omega
        · have hm : min (s.nm.size : Int) 65537 = 65537 := by omega
          have HM : Hid (min s.nm.size 65537 = 65537) := Lib.hid (by omega)
          clear hle hle2
          go_wp2_with fail
          go_round
          case rel => exact ⟨k + 1, by omega, by omega, by go_num, by rw [HS.out, HM.out]; go_num⟩
          case measure => simp [intOf]; omega
      · obtain rfl : k = 201 := by omega
        have HF : Hid (lightB l = false) := Lib.hid (by simp [lightB]; intro h; omega)
        have hgt : (200 : Int) < (l.length : Int) := by omega
        go_wp2_with fail
        go_ret
        exact ⟨ret_bool HF.out.symm, rfl⟩
    · have e1 : l.take k = l := List.take_of_length_le (by omega)
      have e2 : k ≤ 201 → l.take 201 = l := fun h => List.take_of_length_le (by omega)
      by_cases hb : l.length ≤ 200
      · by_cases hs : lsum l ≤ 65536
        · have HF : Hid (lightB l = true) := Lib.hid (by simp [lightB, hb, e2 hk2, hs])
          have hs' : ((lsum l : Nat) : Int) ≤ 65536 := by omega
          rw [e1]
          clear e1 e2 hs hle hle2
          go_wp2_with fail
          go_ret
          exact ⟨ret_bool HF.out.symm, rfl⟩
        · have HF : Hid (lightB l = false) := Lib.hid (by simp [lightB, e2 hk2]; intro _; omega)
          have hs' : ¬ ((lsum l : Nat) : Int) ≤ 65536 := by omega
          rw [e1]
          clear e1 e2 hs hle hle2
          go_wp2_with fail
          go_ret
          exact ⟨ret_bool HF.out.symm, rfl⟩
      · have HF : Hid (lightB l = false) := Lib.hid (by simp [lightB]; intro h; omega)
        have hgt : (200 : Int) < (l.length : Int) := by omega
        clear e1 e2
        go_wp2_with fail
        go_ret
        exact ⟨ret_bool HF.out.symm, rfl⟩

/-- The span of the example. -/
def spOne : Sp := ⟨1, 2, 0, 5, 7, ⟨#[97]⟩⟩
set_option maxRecDepth 100000 in
set_option maxHeartbeats 400000 in
theorem one_any (w : World) :
    Calls Try.prog 27 #[] w fun e w' => e = .returned (.agg #[.int .i64 1, .int .i64 2, .int .i64 0, .int .i64 5, .int .i64 7, .string ⟨#[97]⟩]) ∧ Below w.heap.size w w' := by
  go_enter Try.func27, Try.ntmps27
  go_wp2_with fail
  refine bodyPost_ret (v := .agg #[.int .i64 1, .int .i64 2, .int .i64 0, .int .i64 5, .int .i64 7, .string ⟨#[97]⟩]) (by simp [results, Try.results27, go_sem]) rfl ⟨rfl, ?_⟩
  exact (Below.refl _ _).alloc (Nat.le_refl _) _

def bOne : List UInt8 := [1, 1, 2, 0, 5, 2, 1, 97]
theorem digits_small {n : Nat} (h : n < 128) : digits n = [UInt8.ofNat n] := by simp [digits, show n / 128 = 0 by omega, dhi_zero, show n % 128 = n by omega]
theorem putOne : putAns [spOne] = (bOne, 0) := by
  have h : ([spOne].all Sp.ok) = true := by kernel_rfl
  rw [putAns, if_pos h]
  simp only [putEnc, encL, List.flatMap_cons, List.flatMap_nil, List.append_nil, Sp.enc, numsEnc, Sp.nums, spOne, List.length_cons, List.length_nil]
  simp only [digits_small (n := 0 + 1) (by omega), digits_small (n := (1 : Int).toNat) (by decide), digits_small (n := (2 : Int).toNat) (by decide), digits_small (n := (0 : Int).toNat) (by decide), digits_small (n := (5 : Int).toNat) (by decide), digits_small (n := ((7 : Int) - 5).toNat) (by decide), digits_small (n := (ByteArray.mk #[97]).size) (by decide)]
  rfl
theorem getOne : getAns bOne = ([spOne], 0) := by kernel_rfl

set_option maxRecDepth 100000 in
set_option maxHeartbeats 1000000 in
theorem awake_any (w : World) :
    Calls Try.prog 12 #[] w fun e w' => e = .returned (.bool true) ∧ Below w.heap.size w w' := by
  go_enter Try.func12, Try.ntmps12
  go_wp2_with fail
  refine (one_any w).mono ?_
  rintro e w1 ⟨rfl, hb1⟩
  have hsz1 := hb1.size
  go_wp2_with fail
  have hr1 : RdS (w1.alloc (.cells #[.int .i64 1, .int .i64 2, .int .i64 0, .int .i64 5, .int .i64 7, .string ⟨#[97]⟩] 23)) (w1.heap.size + 1) (some ⟨w1.heap.size, 0, none⟩) 1 [spOne] :=
    Rd.new rfl rfl (by intro j hj; simp [Sp.cells] at hj; match j, hj with | 0, _ => rfl | 1, _ => rfl | 2, _ => rfl | 3, _ => rfl | 4, _ => rfl | 5, _ => rfl)
  refine (Put_any _ _ _ _ [spOne] _ (by simp) (by omega) (by intro s hs; simp at hs; subst hs; decide) hr1).mono ?_
  rw [putOne]
  rintro e w2 ⟨A2, c2, rfl, hown2, hb2⟩
  dsimp only at hown2 ⊢
  have hb2' : Below w.heap.size w w2 := (hb1.alloc hsz1 _).trans (hb2.mono (by simp; omega))
  have hsz2 := hb2'.size
  have HP := Lib.hid (RdB.of_own hown2)
  clear hown2 hb2 hr1 hb1
  generalize hL : bOne = L at *
  have HL := Lib.hid hL
  clear hL
  go_wp2_with fail
  refine (Get_any _ _ _ _ L _ (Nat.le_refl _) (by rw [← HL.out]; decide) HP.out).mono ?_
  rw [← HL.out, getOne]
  rintro e w3 ⟨A3, c3, rfl, hown3, hb3⟩
  dsimp only at hown3 ⊢
  have HP3 := Lib.hid (Rd.below' HP.out hb3 (Nat.le_refl _) hb3.size)
  have hb3' : Below w.heap.size w w3 := hb2'.trans (hb3.mono hsz2)
  obtain ⟨g, rfl, hg1, hg2⟩ := own_form hown3 (by decide)
  have hS : ∀ W, Below w3.heap.size w3 W → W.cell? ⟨g, 0, none⟩ = some (.int .i64 1) ∧ W.cell? ⟨g, 1, none⟩ = some (.int .i64 2) ∧ W.cell? ⟨g, 2, none⟩ = some (.int .i64 0) ∧ W.cell? ⟨g, 3, none⟩ = some (.int .i64 5) ∧ W.cell? ⟨g, 4, none⟩ = some (.int .i64 7) ∧ W.cell? ⟨g, 5, none⟩ = some (.string ⟨#[97]⟩) ∧
      (convert 30 9 (.slice A2 L.length c2)).run Try.prog W = .ok (.string ⟨#[1, 1, 2, 0, 5, 2, 1, 97]⟩) W := by
    intro W hW
    have hc : ∀ j, j < 6 → W.cell? ⟨g, j, none⟩ = spOne.cells[j]? := fun j hj => (hW.cell (p := ⟨g, j, none⟩) hg2).trans (hown3.cellAt j (by simpa using hj))
    refine ⟨hc 0 (by omega), hc 1 (by omega), hc 2 (by omega), hc 3 (by omega), hc 4 (by omega), hc 5 (by omega), ?_⟩
    rw [run_conv_bs (w := W) Try.underlying30 Try.underlying5 Try.underlying9 (Rd.below' HP3.out hW (Nat.le_refl _) hW.size) c2, ← HL.out]; rfl
  rw [HL.out]
  have HSS := Lib.hid hS
  clear hown3 HL hS
  go_wp2_with fail
  go_region_held3 (fun W => W.cell? ⟨g, 0, none⟩ = some (.int .i64 1) ∧ W.cell? ⟨g, 1, none⟩ = some (.int .i64 2) ∧ W.cell? ⟨g, 2, none⟩ = some (.int .i64 0) ∧ W.cell? ⟨g, 3, none⟩ = some (.int .i64 5) ∧ W.cell? ⟨g, 4, none⟩ = some (.int .i64 7) ∧ W.cell? ⟨g, 5, none⟩ = some (.string ⟨#[97]⟩) ∧ (convert 30 9 (.slice A2 L.length c2)).run Try.prog W = .ok (.string ⟨#[1, 1, 2, 0, 5, 2, 1, 97]⟩) W) (first | exact HSS.out _ (Below.refl _ _) | exact HSS.out _ (Below.refl _ _).drew | exact HSS.out _ hk4 | exact HSS.out _ hk5)
    (first | (go_at_call 27; refine (one_any _).mono ?_; rintro e w4 ⟨rfl, hb4⟩; have hk4 : Below w3.heap.size w3 w4 := ((Below.refl w3.heap.size w3).drew).trans hb4) | (go_at_call 13; refine (check_any ⟨0, 0, 0, 0, 0, ⟨#[]⟩⟩ _ (by decide)).mono ?_; rintro e w5 ⟨rfl, hb5⟩; have hk5 : Below w3.heap.size w3 w5 := hk4.trans (hb5.mono hk4.size)))
  go_wp2_with fail
  go_ret
  exact ⟨ret_bool (by kernel_rfl), hb3'.trans (hk5.mono (by have := hb3'.size; omega))⟩
end Go.Proofs.Ytgdhbklgcmcdeaa
