/-
  The walks of the reference's Read and its Scan's Number and Text. Conditions: the bytes read as a list, not more than memory bears.
-/
import Derived.Test.YtgdhbklgcmcdeaaScanText
import Derived.Test.YtgdhbklgcmcdeaaSched
namespace Go.Proofs.Ytgdhbklgcmcdeaa
open Go.RowKit

set_option maxRecDepth 100000 in
set_option maxHeartbeats 1000000 in
theorem read_any (A : Option Addr) (n cap B : Nat) (l : List UInt8) (w : World) (hb : n ≤ 70368744177664) (hr : RdB w B A n l) :
    Calls Try.prog 52 #[.slice A n cap] w fun e w' => e = .returned (.tuple #[.int .i64 ((rdNum 0 0 l).1 : Nat), .int .i64 ((rdNum 0 0 l).2.1 : Nat), .int .i64 (rdNum 0 0 l).2.2]) ∧ w = w' := by
  have hlen := hr.len
  subst hlen
  go_enter Try.func52, Try.ntmps52
  go_wp2_with fail
  go_loop [5, 6] (fun nn i => ∃ k N : Nat, k ≤ l.length ∧ i = .int .i64 k ∧ nn = .int .i64 N ∧ N < 128 ^ k ∧ k ≤ 9 ∧ rdNum 0 0 l = rdNum k N (l.drop k)) (fun _ i => l.length - (intOf i).toNat)
  case atStart => exact ⟨0, 0, by omega, rfl, rfl, by simp, by omega, rfl⟩
  case round =>
    obtain ⟨k, N, hk, rfl, rfl, hN, hk9, hR⟩ := hrel
    have HR := Lib.hid hR
    clear hR
    by_cases hlt : k < l.length
    · obtain ⟨b, off, hA, _, hcell⟩ := hr.at_ (k := k) hlt (by simpa using hlt)
      rw [List.getElem_map] at hcell
      unfold u8v at hcell
      rw [hA]
      have hx := (l[k]).toNat_lt
      have hki : (k : Int) < (l.length : Int) := by omega
      have HLast := Lib.hid (@rdNum_last l k N hlt)
      have HStep := Lib.hid (@rdNum_step l k N hlt)
      have HForm : Hid (k = 0 → (l[k]).toNat = 128 → rdNum k N (l.drop k) = (0, 0, 10)) := Lib.hid (fun h0 h1 => by subst h0; exact rdNum_form hlt h1)
      have HRange : Hid (k = 9 → rdNum k N (l.drop k) = (0, 0, 5)) := Lib.hid (fun h0 => by subst h0; exact rdNum_range hlt)
      generalize (l[k]).toNat = x at *
      have HA := Lib.hid hA
      clear hA hr
      by_cases h1 : k = 0 ∧ x = 128
      · obtain ⟨rfl, rfl⟩ := h1
        simp only [Nat.add_zero] at hcell
        go_wp2_with fail
        go_ret3
        have e := HR.out.trans (HForm.out (by trivial) (by trivial))
        rw [e]
        exact ⟨rfl, rfl⟩
      · by_cases h2 : k = 9
        · have HH1 := Lib.hid h1
          clear h1
          subst h2
          go_wp2_with fail
          go_ret3
          have e := HR.out.trans (HRange.out (by trivial))
          rw [e]
          exact ⟨rfl, rfl⟩
        · have hp : N * 128 + x % 128 < 128 ^ (k + 1) := by rw [Nat.pow_succ]; omega
          have hp2 : 128 ^ (k + 1) ≤ 128 ^ 9 := Nat.pow_le_pow_right (by omega) (by omega)
          have hN128 : 128 * (N : Int) + (x : Int) % 128 ≤ 9223372036854775807 := by omega
          have hN0 : (0 : Int) ≤ 128 * (N : Int) := by omega
          have h2b : ((k : Int) == 9) = false := by simp; omega
          have h1b : ((k : Int) == 0) = false ∨ (((k : Int) == 0) = true ∧ ((x : Int) == 128) = false) := by
            by_cases h0 : k = 0
            · subst h0; right; simp; intro hx; exact h1 ⟨rfl, by omega⟩
            · left; simp; omega
          have HH1 := Lib.hid h1
          have HN := Lib.hid hN
          have h2' : Hid (k ≠ 9) := Lib.hid h2
          clear h1 h2 hN hp2
          by_cases h3 : x < 128
          · have h3i : (x : Int) < 128 := by omega
            have h3' : Hid (x < 128) := Lib.hid h3
            have HP := Lib.hid hp
            clear hp h3
            rcases h1b with h1b | ⟨h1b, h1c⟩
            all_goals
              go_wp2_with fail
              go_ret3
              rw [HR.out, HLast.out HH1.out h2'.out h3'.out]
              have e1 : ((N * 128 + x % 128 : Nat) : Int) = 128 * (N : Int) + (x : Int) % 128 := by omega
              have e2 : ((k + 1 : Nat) : Int) = (k : Int) + 1 := by omega
              dsimp only
              rw [e1, e2]
              exact ⟨rfl, rfl⟩
          · have h3i : (128 : Int) ≤ (x : Int) := by omega
            have h3' : Hid (128 ≤ x) := Lib.hid (by omega)
            have HP := Lib.hid hp
            clear hp h3
            rcases h1b with h1b | ⟨h1b, h1c⟩
            all_goals
              go_wp2_with fail
              go_round
              case rel => exact ⟨k + 1, N * 128 + x % 128, by omega, by go_num, by go_num, HP.out, by have := h2'.out; omega, HR.out.trans (HStep.out HH1.out h2'.out h3'.out)⟩
              case measure => simp [intOf]; omega
    · go_wp2_with fail
      go_ret3
      rw [HR.out, rdNum_short (by omega)]
      exact ⟨rfl, rfl⟩

/-- A reference's Scan in block g. -/
structure RefAt (w : World) (g : Nat) (A : Option Addr) (c : Nat) (l : List UInt8) (at_ : Nat) (err : Int) : Prop where
  sc : w.heap[g]? = some (.cells #[.slice A l.length c, .int .i64 at_, .int .i64 err] 61 (0, 0))
  cap : l.length ≤ c
  rd : RdB w g A l.length l
  le : at_ ≤ l.length
  err0 : 0 ≤ err
  len : l.length ≤ 70368744177664
section
variable {w w' : World} {g c at_ : Nat} {A : Option Addr} {l : List UInt8} {err : Int}
theorem RefAt.lt (h : RefAt w g A c l at_ err) : g < w.heap.size := (Array.getElem?_eq_some_iff.1 h.sc).1
theorem RefAt.drewN (h : RefAt w g A c l at_ err) (n : Nat) : RefAt (w.drewN n) g A c l at_ err := ⟨h.sc, h.cap, h.rd, h.le, h.err0, h.len⟩
theorem RefAt.below {B : Nat} (h : RefAt w g A c l at_ err) (hb : Below B w w') (hB : g < B) : RefAt w' g A c l at_ err :=
  ⟨blk_below hb hB h.sc, h.cap, Rd.below' h.rd hb (by omega) (Nat.le_refl _), h.le, h.err0, h.len⟩
theorem RefAt.setErr (h : RefAt w g A c l at_ err) (e : Int) (he : 0 ≤ e) : RefAt (w.setCell ⟨g, 2, none⟩ (.int .i64 e)) g A c l at_ e :=
  ⟨blk_set h.sc 2 _, h.cap, Fr.rd h.rd ((Fr.refl (fun k => k = g) w).setCell rfl _) (by have := h.lt; omega) (fun k hk => by omega), h.le, he, h.len⟩
theorem RefAt.setAt (h : RefAt w g A c l at_ err) (a : Nat) (ha : a ≤ l.length) : RefAt (w.setCell ⟨g, 1, none⟩ (.int .i64 a)) g A c l a err :=
  ⟨blk_set h.sc 1 _, h.cap, Fr.rd h.rd ((Fr.refl (fun k => k = g) w).setCell rfl _) (by have := h.lt; omega) (fun k hk => by omega), ha, h.err0, h.len⟩
end

/-- What a method of a reference's Scan leaves. -/
def ResRf (w : World) (g : Nat) (A : Option Addr) (c : Nat) (l : List UInt8) (v : Value) (at_ : Nat) (err : Int) (e : Ending) (w' : World) : Prop :=
  e = .returned v ∧ RefAt w' g A c l at_ err ∧ Fr (fun k => k = g) w w'

set_option maxRecDepth 100000 in
set_option maxHeartbeats 1000000 in
theorem refScanNumber_any {w : World} {g c at_ : Nat} {A : Option Addr} {l : List UInt8} {err : Int} (h : RefAt w g A c l at_ err) :
    Calls Try.prog 39 #[.pointer (some ⟨g, 0, none⟩)] w (ResRf w g A c l (.int .i64 ((scNum l at_ err).1 : Nat)) (scNum l at_ err).2.1 (scNum l at_ err).2.2) := by
  have hc := blk_cell h.sc
  have hfz1 : ∀ W, RefAt W g A c l at_ err → W.frozen? ⟨g, 1, none⟩ = false ∧ W.frozen? ⟨g, 2, none⟩ = false := fun W hW => ⟨blk_frozen hW.sc 1, blk_frozen hW.sc 2⟩
  have HH := Lib.hid h
  have he0 := h.err0
  by_cases her : err = 0
  · subst her
    have hlen := h.len
    have hle := h.le
    have hcap := h.cap
    clear h he0
    obtain ⟨L, hL⟩ : ∃ L, L = l.drop at_ := ⟨_, rfl⟩
    have hLl : L.length = l.length - at_ := by rw [hL]; simp
    have hrd : RdB w g (cutA A c at_ 1) L.length L := by
      have := Rd.cut HH.out.rd HH.out.le HH.out.cap
      rw [hLl]
      rw [hL, RdB, List.map_drop]
      simpa [cutA] using this
    have HS : Hid (scNum l at_ 0 = ((rdNum 0 0 L).1, at_ + (rdNum 0 0 L).2.1, (rdNum 0 0 L).2.2)) := Lib.hid (by simp [scNum, hL])
    have hbd := rdNum_bound L 0 0 (by simp) (by omega)
    have HL := Lib.hid hLl
    have HD := Lib.hid hrd
    clear hLl hL hrd
    have h1 : (0 : Int) ≤ (at_ : Int) := by omega
    have h2 : (at_ : Int) ≤ (l.length : Int) := by omega
    have h3 : (l.length : Int) ≤ (c : Int) := by omega
    generalize hq : rdNum 0 0 L = q at *
    obtain ⟨n1, k1, e1⟩ := q
    have HQ := Lib.hid hq
    clear hq
    dsimp only at hbd
    obtain ⟨hn1, hk1, he1, hz1⟩ := hbd
    have hk2 : k1 ≤ l.length - at_ := by have := HL.out; omega
    have HZ1 := Lib.hid hz1
    clear hz1 hk1
    have hnf := hfz1 _ HH.out
    by_cases hca : c = at_
    · have HD1 : Hid (RdB w g (A) (l.length - at_) L) := Lib.hid (by
        have h := HD.out
        rw [HL.out] at h
        simpa [cutA, hca] using h)
      go_enter Try.func39, Try.ntmps39
      go_wp2_with fail
      refine wp_region_sched [(0, true), (1, true), (2, true), (3, true), (4, true), (5, true), (6, true), (7, true), (8, true), (9, false), (10, true), (11, true), (12, true), (13, true), (14, true), (15, true), (16, true)] (fun W => ∃ m, W = w.drewN m) (by kernel_rfl) (by kernel_rfl) rfl (by kernel_rfl) (⟨_, rfl⟩) ?_
      repeat (first | (apply sched_take rfl; (focus (first | rfl | (go_simp; done))); (focus (intro W hW; obtain ⟨m, rfl⟩ := hW; go_simp; rfl)); (focus (intro K hK; go_simp; refine hK _ ?_; clear hK K))) | (apply sched_skip rfl; (focus (first | rfl | (go_simp; done))); (focus (intro K hK; go_simp; refine hK _ ?_; clear hK K))))
      apply sched_op rfl
      intro K hK
      go_simp
      go_wp2_with (fail)
      refine (read_any _ _ _ g L _ (by have := HL.out; omega) (Rd.drew HD1.out)).mono ?_

      rintro e w2 ⟨rfl, rfl⟩
      rw [HQ.out]
      dsimp only
      go_wp2_with fail
      refine ⟨by exact ⟨_, rfl⟩, ?_⟩
      repeat (first | (apply sched_take rfl; (focus (first | rfl | (go_simp; done))); (focus (intro W hW; obtain ⟨m, rfl⟩ := hW; go_simp; rfl)); (focus (intro K hK; go_simp; refine hK _ ?_; clear hK K))) | (apply sched_skip rfl; (focus (first | rfl | (go_simp; done))); (focus (intro K hK; go_simp; refine hK _ ?_; clear hK K))))
      refine sched_nil ?_
      go_wp2_with fail
      go_ret
      rw [ResRf, HS.out]
      refine ⟨rfl, ?_, (((Fr.refl (fun k => k = g) w).setCell rfl _).setCell rfl _).drewN 1⟩
      have h := ((HH.out.setAt (at_ + k1) (by omega)).setErr e1 he1).drewN 1
      rwa [show (((at_ + k1 : Nat)) : Int) = (at_ : Int) + (k1 : Int) from Int.natCast_add _ _] at h
    · have HD1 : Hid (RdB w g (A.map fun x => x.add at_) (l.length - at_) L) := Lib.hid (by
        have h := HD.out
        rw [HL.out] at h
        simpa [cutA, hca] using h)
      go_enter Try.func39, Try.ntmps39
      go_wp2_with fail
      refine wp_region_sched [(0, true), (1, true), (2, true), (3, true), (4, true), (5, true), (6, true), (7, true), (8, true), (9, false), (10, true), (11, true), (12, true), (13, true), (14, true), (15, true), (16, true)] (fun W => ∃ m, W = w.drewN m) (by kernel_rfl) (by kernel_rfl) rfl (by kernel_rfl) (⟨_, rfl⟩) ?_
      repeat (first | (apply sched_take rfl; (focus (first | rfl | (go_simp; done))); (focus (intro W hW; obtain ⟨m, rfl⟩ := hW; go_simp; rfl)); (focus (intro K hK; go_simp; refine hK _ ?_; clear hK K))) | (apply sched_skip rfl; (focus (first | rfl | (go_simp; done))); (focus (intro K hK; go_simp; refine hK _ ?_; clear hK K))))
      generalize Option.map (fun x : Addr => x.add at_) A = A' at *
      apply sched_op rfl
      intro K hK
      go_simp
      go_wp2_with (fail)
      refine (read_any _ _ _ g L _ (by have := HL.out; omega) (Rd.drew HD1.out)).mono ?_

      rintro e w2 ⟨rfl, rfl⟩
      rw [HQ.out]
      dsimp only
      go_wp2_with fail
      refine ⟨by exact ⟨_, rfl⟩, ?_⟩
      repeat (first | (apply sched_take rfl; (focus (first | rfl | (go_simp; done))); (focus (intro W hW; obtain ⟨m, rfl⟩ := hW; go_simp; rfl)); (focus (intro K hK; go_simp; refine hK _ ?_; clear hK K))) | (apply sched_skip rfl; (focus (first | rfl | (go_simp; done))); (focus (intro K hK; go_simp; refine hK _ ?_; clear hK K))))
      refine sched_nil ?_
      go_wp2_with fail
      go_ret
      rw [ResRf, HS.out]
      refine ⟨rfl, ?_, (((Fr.refl (fun k => k = g) w).setCell rfl _).setCell rfl _).drewN 1⟩
      have h := ((HH.out.setAt (at_ + k1) (by omega)).setErr e1 he1).drewN 1
      rwa [show (((at_ + k1 : Nat)) : Int) = (at_ : Int) + (k1 : Int) from Int.natCast_add _ _] at h
  · have hb : (err != 0) = true := by simpa using her
    have HE : Hid (scNum l at_ err = (0, at_, err)) := Lib.hid (by rw [scNum, if_neg her])
    clear her h
    go_enter Try.func39, Try.ntmps39
    go_wp2_with fail
    go_ret
    rw [ResRf, HE.out]
    exact ⟨rfl, HH.out, Fr.refl _ _⟩

set_option maxRecDepth 100000 in
set_option maxHeartbeats 1000000 in
theorem refScanText_any {w : World} {g c at_ : Nat} {A : Option Addr} {l : List UInt8} {err : Int} (h : RefAt w g A c l at_ err) :
    Calls Try.prog 40 #[.pointer (some ⟨g, 0, none⟩), .int .i64 32] w (ResRf w g A c l (.string ⟨(scText 32 l at_ err).1.toArray⟩) (scText 32 l at_ err).2.1 (scText 32 l at_ err).2.2) := by
  have hc := blk_cell h.sc
  have hfz1 : ∀ W, RefAt W g A c l at_ err → W.frozen? ⟨g, 1, none⟩ = false ∧ W.frozen? ⟨g, 2, none⟩ = false := fun W hW => ⟨blk_frozen hW.sc 1, blk_frozen hW.sc 2⟩
  have HH := Lib.hid h
  have HT := Lib.hid (scText_eq 32 l at_ err)
  by_cases her : err = 0
  · subst her
    have hlen := h.len
    have hle := h.le
    have hcap := h.cap
    clear h
    obtain ⟨L, hL⟩ : ∃ L, L = l.drop at_ := ⟨_, rfl⟩
    have hLl : L.length = l.length - at_ := by rw [hL]; simp
    have hrd : RdB w g (cutA A c at_ 1) L.length L := by
      have := Rd.cut HH.out.rd HH.out.le HH.out.cap
      rw [hLl]
      rw [hL, RdB, List.map_drop]
      simpa [cutA] using this
    have HS : Hid (scNum l at_ 0 = ((rdNum 0 0 L).1, at_ + (rdNum 0 0 L).2.1, (rdNum 0 0 L).2.2)) := Lib.hid (by simp [scNum, hL])
    have hbd := rdNum_bound L 0 0 (by simp) (by omega)
    have HL := Lib.hid hLl
    have HD := Lib.hid hrd
    clear hLl hL hrd
    have h1 : (0 : Int) ≤ (at_ : Int) := by omega
    have h2 : (at_ : Int) ≤ (l.length : Int) := by omega
    have h3 : (l.length : Int) ≤ (c : Int) := by omega
    generalize hq : rdNum 0 0 L = q at *
    obtain ⟨n1, k1, e1⟩ := q
    have HQ := Lib.hid hq
    clear hq
    dsimp only at hbd HS
    obtain ⟨hn1, hk1, he1, hz1⟩ := hbd
    have hk2 : k1 ≤ l.length - at_ := by have := HL.out; omega
    have HN1 : Hid (n1 < 128 ^ 9) := Lib.hid hn1
    have hn1' : (n1 : Int) ≤ 9223372036854775807 := by omega
    have HZ1 := Lib.hid hz1
    clear hz1 hk1 hn1
    have hnf := hfz1 _ HH.out
    have HT2 : Hid (scText 32 l at_ 0 = if e1 ≠ 0 then ([], at_, e1) else if 32 < n1 then ([], at_, 4) else if l.length - (at_ + k1) < n1 then ([], at_, 2) else ((l.drop (at_ + k1)).take n1, at_ + k1 + n1, 0)) := Lib.hid (by rw [HT.out, HS.out])
    by_cases hca : c = at_
    · have HD1 : Hid (RdB w g (A) (l.length - at_) L) := Lib.hid (by
        have h := HD.out
        rw [HL.out] at h
        simpa [cutA, hca] using h)
      go_enter Try.func40, Try.ntmps40
      go_wp2_with fail
      refine wp_region_sched [(0, true), (1, true), (2, true), (3, true), (4, true), (5, true), (6, true), (7, true), (8, true), (9, false), (10, true), (11, true), (12, true), (13, true), (14, true), (15, true), (16, true)] (fun W => ∃ m, W = w.drewN m) (by kernel_rfl) (by kernel_rfl) rfl (by kernel_rfl) (⟨_, rfl⟩) ?_
      repeat (first | (apply sched_take rfl; (focus (first | rfl | (go_simp; done))); (focus (intro W hW; obtain ⟨m, rfl⟩ := hW; go_simp; rfl)); (focus (intro K hK; go_simp; refine hK _ ?_; clear hK K))) | (apply sched_skip rfl; (focus (first | rfl | (go_simp; done))); (focus (intro K hK; go_simp; refine hK _ ?_; clear hK K))))
      apply sched_op rfl
      intro K hK
      go_simp
      go_wp2_with (fail)
      refine (read_any _ _ _ g L _ (by have := HL.out; omega) (Rd.drew HD1.out)).mono ?_
      rintro e w2 ⟨rfl, rfl⟩
      rw [HQ.out]
      dsimp only
      go_wp2_with fail
      refine ⟨by exact ⟨_, rfl⟩, ?_⟩
      repeat (first | (apply sched_take rfl; (focus (first | rfl | (go_simp; done))); (focus (intro W hW; obtain ⟨m, rfl⟩ := hW; go_simp; rfl)); (focus (intro K hK; go_simp; refine hK _ ?_; clear hK K))) | (apply sched_skip rfl; (focus (first | rfl | (go_simp; done))); (focus (intro K hK; go_simp; refine hK _ ?_; clear hK K))))
      refine sched_nil ?_
      by_cases he : e1 = 0
      · exfalso
        have hL0 : L = [] := List.length_eq_zero_iff.1 (by have := HL.out; omega)
        have h := HQ.out
        rw [hL0, he] at h
        simp [rdNum] at h
      · have hne : (e1 != 0) = true := by simpa using he
        have HE := Lib.hid he
        clear he
        go_wp2_with fail
        go_ret
        rw [ResRf, HT2.out, if_pos HE.out]
        exact ⟨rfl, (HH.out.drewN 1).setErr e1 he1, ((Fr.refl (fun k => k = g) w).drewN 1).setCell rfl _⟩
    · have HD1 : Hid (RdB w g (A.map fun x => x.add at_) (l.length - at_) L) := Lib.hid (by
        have h := HD.out
        rw [HL.out] at h
        simpa [cutA, hca] using h)
      go_enter Try.func40, Try.ntmps40
      go_wp2_with fail
      refine wp_region_sched [(0, true), (1, true), (2, true), (3, true), (4, true), (5, true), (6, true), (7, true), (8, true), (9, false), (10, true), (11, true), (12, true), (13, true), (14, true), (15, true), (16, true)] (fun W => ∃ m, W = w.drewN m) (by kernel_rfl) (by kernel_rfl) rfl (by kernel_rfl) (⟨_, rfl⟩) ?_
      repeat (first | (apply sched_take rfl; (focus (first | rfl | (go_simp; done))); (focus (intro W hW; obtain ⟨m, rfl⟩ := hW; go_simp; rfl)); (focus (intro K hK; go_simp; refine hK _ ?_; clear hK K))) | (apply sched_skip rfl; (focus (first | rfl | (go_simp; done))); (focus (intro K hK; go_simp; refine hK _ ?_; clear hK K))))
      generalize Option.map (fun x : Addr => x.add at_) A = A' at *
      apply sched_op rfl
      intro K hK
      go_simp
      go_wp2_with (fail)
      refine (read_any _ _ _ g L _ (by have := HL.out; omega) (Rd.drew HD1.out)).mono ?_
      rintro e w2 ⟨rfl, rfl⟩
      rw [HQ.out]
      dsimp only
      go_wp2_with fail
      refine ⟨by exact ⟨_, rfl⟩, ?_⟩
      repeat (first | (apply sched_take rfl; (focus (first | rfl | (go_simp; done))); (focus (intro W hW; obtain ⟨m, rfl⟩ := hW; go_simp; rfl)); (focus (intro K hK; go_simp; refine hK _ ?_; clear hK K))) | (apply sched_skip rfl; (focus (first | rfl | (go_simp; done))); (focus (intro K hK; go_simp; refine hK _ ?_; clear hK K))))
      refine sched_nil ?_
      by_cases he : e1 = 0
      · subst he
        by_cases hgt : 32 < n1
        · have HGT := Lib.hid hgt
          have hg1 : (32 : Int) < (n1 : Int) := by omega
          have hg2 : (0 : Int) < (n1 : Int) := by omega
          clear hgt
          go_wp2_with fail
          go_ret
          rw [ResRf, HT2.out, if_neg (by simp), if_pos HGT.out]
          exact ⟨rfl, (HH.out.drewN 1).setErr 4 (by omega), ((Fr.refl (fun k => k = g) w).drewN 1).setCell rfl _⟩
        · have HGT := Lib.hid hgt
          have hg1 : ¬ (32 : Int) < (n1 : Int) := by omega
          clear hgt
          by_cases hsh : l.length - (at_ + k1) < n1
          · have HSH := Lib.hid hsh
            have hs : (l.length : Int) - (at_ : Int) - (k1 : Int) < (n1 : Int) := by omega
            clear hsh
            go_wp2_with fail
            go_quiet (fail)
            go_wp2_with fail
            go_ret
            rw [ResRf, HT2.out, if_neg (by simp), if_neg HGT.out, if_pos HSH.out]
            exact ⟨rfl, (HH.out.drewN (1 + nq)).setErr 2 (by omega), ((Fr.refl (fun k => k = g) w).drewN (1 + nq)).setCell rfl _⟩
          · have HSH := Lib.hid hsh
            have hs : ¬ (l.length : Int) - (at_ : Int) - (k1 : Int) < (n1 : Int) := by omega
            have hsum : (at_ : Int) + ((k1 : Int) + (n1 : Int)) ≤ 70368744177664 := by omega
            clear hsh
            go_wp2_with fail
            go_quiet (fail)
            go_wp2_with fail
            obtain ⟨a1, ha1⟩ : ∃ a1, a1 = at_ + k1 := ⟨_, rfl⟩
            have HA1 := Lib.hid ha1
            have HD3 := (HH.out.drewN (1 + nq)).setAt (a1 + n1) (by omega)
            have hf3 := ((Fr.refl (fun k => k = g) w).drewN (1 + nq)).setCell (p := ⟨g, 1, none⟩) rfl (.int .i64 ((at_ : Int) + ((k1 : Int) + (n1 : Int))))
            rw [show (((a1 + n1 : Nat)) : Int) = (at_ : Int) + ((k1 : Int) + (n1 : Int)) by omega] at HD3
            have hle1 : a1 ≤ l.length := by omega
            have hn1l : n1 ≤ l.length - a1 := by omega
            have hb3 : (a1 : Int) + (n1 : Int) ≤ (c : Int) := by omega
            clear hc hnf HD1 hs hsum ha1 hfz1
            generalize (w.drewN (1 + nq)).setCell ⟨g, 1, none⟩ (.int .i64 ((at_ : Int) + ((k1 : Int) + (n1 : Int)))) = w3 at *
            have hc3 : ∀ j, w3.cell? ⟨g, j, none⟩ = _ := blk_cell HD3.sc
            have hrd3 : RdB w3 g (cutA A c a1 1) n1 ((l.drop a1).take n1) := by
              have h1 := (Rd.cut HD3.rd hle1 HD3.cap).take (k := n1) (by omega)
              rw [RdB, List.map_take, List.map_drop]
              simpa [cutA] using h1
            have hcv := fun (k : Nat) => run_conv_bs (P := Try.prog) (w := w3.drewN k) Try.underlying30 Try.underlying5 Try.underlying9 (show RdB (w3.drewN k) g _ n1 _ from hrd3) (c - a1)
            have hb1 : (0 : Int) ≤ (a1 : Int) := by omega
            have hb2 : (a1 : Int) ≤ (a1 : Int) + (n1 : Int) := by omega
            have HD4 := Lib.hid HD3
            clear HD3 hrd3
            by_cases hc1 : c = a1
            · have hcu : cutA A c a1 1 = A := by simp [cutA, hc1]
              rw [hcu] at hcv
              have hn0 : n1 = 0 := by omega
              subst hn0
              rw [hc1] at hcv
              simp only [Nat.sub_self] at hcv
              go_quiet (fail)
              go_wp2_with fail
              go_ret
              rw [ResRf, HT2.out, if_neg (by simp), if_neg HGT.out, if_neg HSH.out, ← HA1.out]
              exact ⟨rfl, by have h := HD4.out.drewN nq; rw [hc1] at h; exact h, hf3.drewN _⟩
            · have hcu : cutA A c a1 1 = A.map (·.add a1) := by simp [cutA, hc1]
              rw [hcu] at hcv
              go_quiet (fail)
              go_wp2_with fail
              go_ret
              rw [ResRf, HT2.out, if_neg (by simp), if_neg HGT.out, if_neg HSH.out, ← HA1.out]
              exact ⟨rfl, HD4.out.drewN _, hf3.drewN _⟩
      · have hne : (e1 != 0) = true := by simpa using he
        have HE := Lib.hid he
        clear he
        go_wp2_with fail
        go_ret
        rw [ResRf, HT2.out, if_pos HE.out]
        exact ⟨rfl, (HH.out.drewN 1).setErr e1 he1, ((Fr.refl (fun k => k = g) w).drewN 1).setCell rfl _⟩
  · have hb : (err != 0) = true := by simpa using her
    have HE : Hid (scText 32 l at_ err = ([], at_, err)) := Lib.hid (by rw [HT.out, scNum, if_neg her, if_pos her])
    clear her h
    go_enter Try.func40, Try.ntmps40
    go_wp2_with fail
    go_ret
    rw [ResRf, HE.out]
    exact ⟨rfl, HH.out, Fr.refl _ _⟩
end Go.Proofs.Ytgdhbklgcmcdeaa
