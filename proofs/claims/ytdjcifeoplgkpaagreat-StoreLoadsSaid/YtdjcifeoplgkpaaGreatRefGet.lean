/-
  The walks of the reference's Read and its Scan's Number and Text. Conditions: the bytes read as a list, not more than memory bears.
  The walk of the reference's Get: it answers as Get does. Condition: the bytes are not more than memory bears.
-/
import Derived.Test.YtdjcifeoplgkpaaGreatScanText
import Derived.Test.YtdjcifeoplgkpaaGreatSched
import Derived.Test.YtdjcifeoplgkpaaGreatCodec
import Derived.Test.YtdjcifeoplgkpaaGreatRefPut
import Derived.Test.YtdjcifeoplgkpaaGreatStdB
namespace Go.Proofs.YtdjcifeoplgkpaaGreat
open Go.RowKit

set_option maxRecDepth 100000 in
set_option maxHeartbeats 1000000 in
theorem read_any (A : Option Addr) (n cap B : Nat) (l : List UInt8) (w : World) (hb : n ≤ 70368744177664) (hr : RdB w B A n l) :
    Calls Tryz.prog 78 #[.slice A n cap] w fun e w' => e = .returned (.tuple #[.int .i64 ((rdNum 0 0 l).1 : Nat), .int .i64 ((rdNum 0 0 l).2.1 : Nat), .int .i64 (rdNum 0 0 l).2.2]) ∧ w = w' := by
  have hlen := hr.len
  subst hlen
  go_enter Tryz.func78, Tryz.ntmps78
  go_wp2_with fail
  go_loop [5, 6] (fun nn i => ∃ k N : Nat, k ≤ l.length ∧ i = .int .i64 k ∧ nn = .int .i64 N ∧ N < 128 ^ k ∧ k ≤ 9 ∧ rdNum 0 0 l = rdNum k N (l.drop k)) (fun _ i => l.length - (intOf i).toNat)
  case atStart => exact ⟨0, 0, by omega, rfl, rfl, by simp, by omega, rfl⟩
  case round =>
    obtain ⟨k, N, hk, rfl, rfl, hN, hk9, hR⟩ := hrel
    have HR := Lib.hid hR
    clear hR
    by_cases hlt : k < l.length
    · obtain ⟨b, off, hA, _, hcell⟩ := hr.at_ (k := k) hlt (by simpa using hlt)
      rw [List.getElem_map] at hcell
      unfold u8v at hcell
      rw [hA]
      have hx := (l[k]).toNat_lt
      have hki : (k : Int) < (l.length : Int) := by omega
      have HLast := Lib.hid (@rdNum_last l k N hlt)
      have HStep := Lib.hid (@rdNum_step l k N hlt)
      have HForm : Hid (k = 0 → (l[k]).toNat = 128 → rdNum k N (l.drop k) = (0, 0, 10)) := Lib.hid (fun h0 h1 => by subst h0; exact rdNum_form hlt h1)
      have HRange : Hid (k = 9 → rdNum k N (l.drop k) = (0, 0, 5)) := Lib.hid (fun h0 => by subst h0; exact rdNum_range hlt)
      generalize (l[k]).toNat = x at *
      have HA := Lib.hid hA
      clear hA hr
      by_cases h1 : k = 0 ∧ x = 128
      · obtain ⟨rfl, rfl⟩ := h1
        simp only [Nat.add_zero] at hcell
        go_wp2_with fail
        go_ret3
        have e := HR.out.trans (HForm.out (by trivial) (by trivial))
        rw [e]
        exact ⟨rfl, rfl⟩
      · by_cases h2 : k = 9
        · have HH1 := Lib.hid h1
          clear h1
          subst h2
          go_wp2_with fail
          go_ret3
          have e := HR.out.trans (HRange.out (by trivial))
          rw [e]
          exact ⟨rfl, rfl⟩
        · have hp : N * 128 + x % 128 < 128 ^ (k + 1) := by rw [Nat.pow_succ]; omega
          have hp2 : 128 ^ (k + 1) ≤ 128 ^ 9 := Nat.pow_le_pow_right (by omega) (by omega)
          have hN128 : 128 * (N : Int) + (x : Int) % 128 ≤ 9223372036854775807 := by omega
          have hN0 : (0 : Int) ≤ 128 * (N : Int) := by omega
          have h2b : ((k : Int) == 9) = false := by simp; omega
          have h1b : ((k : Int) == 0) = false ∨ (((k : Int) == 0) = true ∧ ((x : Int) == 128) = false) := by
            by_cases h0 : k = 0
            · subst h0; right; simp; intro hx; exact h1 ⟨rfl, by omega⟩
            · left; simp; omega
          have HH1 := Lib.hid h1
          have HN := Lib.hid hN
          have h2' : Hid (k ≠ 9) := Lib.hid h2
          clear h1 h2 hN hp2
          by_cases h3 : x < 128
          · have h3i : (x : Int) < 128 := by omega
            have h3' : Hid (x < 128) := Lib.hid h3
            have HP := Lib.hid hp
            clear hp h3
            rcases h1b with h1b | ⟨h1b, h1c⟩
            all_goals
              go_wp2_with fail
              go_ret3
              rw [HR.out, HLast.out HH1.out h2'.out h3'.out]
              have e1 : ((N * 128 + x % 128 : Nat) : Int) = 128 * (N : Int) + (x : Int) % 128 := by omega
              have e2 : ((k + 1 : Nat) : Int) = (k : Int) + 1 := by omega
              dsimp only
              rw [e1, e2]
              exact ⟨rfl, rfl⟩
          · have h3i : (128 : Int) ≤ (x : Int) := by omega
            have h3' : Hid (128 ≤ x) := Lib.hid (by omega)
            have HP := Lib.hid hp
            clear hp h3
            rcases h1b with h1b | ⟨h1b, h1c⟩
            all_goals
              go_wp2_with fail
              go_round
              case rel => exact ⟨k + 1, N * 128 + x % 128, by omega, by go_num, by go_num, HP.out, by have := h2'.out; omega, HR.out.trans (HStep.out HH1.out h2'.out h3'.out)⟩
              case measure => simp [intOf]; omega
    · go_wp2_with fail
      go_ret3
      rw [HR.out, rdNum_short (by omega)]
      exact ⟨rfl, rfl⟩

/-- A reference's Scan in block g. -/
structure RefAt (w : World) (g : Nat) (A : Option Addr) (c : Nat) (l : List UInt8) (at_ : Nat) (err : Int) : Prop where
  sc : w.heap[g]? = some (.cells #[.slice A l.length c, .int .i64 at_, .int .i64 err] 88 (0, 0))
  cap : l.length ≤ c
  rd : RdB w g A l.length l
  le : at_ ≤ l.length
  err0 : 0 ≤ err
  len : l.length ≤ 70368744177664
section
variable {w w' : World} {g c at_ : Nat} {A : Option Addr} {l : List UInt8} {err : Int}
theorem RefAt.lt (h : RefAt w g A c l at_ err) : g < w.heap.size := (Array.getElem?_eq_some_iff.1 h.sc).1
theorem RefAt.drewN (h : RefAt w g A c l at_ err) (n : Nat) : RefAt (w.drewN n) g A c l at_ err := ⟨h.sc, h.cap, h.rd, h.le, h.err0, h.len⟩
theorem RefAt.below {B : Nat} (h : RefAt w g A c l at_ err) (hb : Below B w w') (hB : g < B) : RefAt w' g A c l at_ err :=
  ⟨blk_below hb hB h.sc, h.cap, Rd.below' h.rd hb (by omega) (Nat.le_refl _), h.le, h.err0, h.len⟩
theorem RefAt.setErr (h : RefAt w g A c l at_ err) (e : Int) (he : 0 ≤ e) : RefAt (w.setCell ⟨g, 2, none⟩ (.int .i64 e)) g A c l at_ e :=
  ⟨blk_set h.sc 2 _, h.cap, Fr.rd h.rd ((Fr.refl (fun k => k = g) w).setCell rfl _) (by have := h.lt; omega) (fun k hk => by omega), h.le, he, h.len⟩
theorem RefAt.setAt (h : RefAt w g A c l at_ err) (a : Nat) (ha : a ≤ l.length) : RefAt (w.setCell ⟨g, 1, none⟩ (.int .i64 a)) g A c l a err :=
  ⟨blk_set h.sc 1 _, h.cap, Fr.rd h.rd ((Fr.refl (fun k => k = g) w).setCell rfl _) (by have := h.lt; omega) (fun k hk => by omega), ha, h.err0, h.len⟩
end

/-- What a method of a reference's Scan leaves. -/
def ResRf (w : World) (g : Nat) (A : Option Addr) (c : Nat) (l : List UInt8) (v : Value) (at_ : Nat) (err : Int) (e : Ending) (w' : World) : Prop :=
  e = .returned v ∧ RefAt w' g A c l at_ err ∧ Fr (fun k => k = g) w w'

set_option maxRecDepth 100000 in
set_option maxHeartbeats 1000000 in
theorem refScanNumber_any {w : World} {g c at_ : Nat} {A : Option Addr} {l : List UInt8} {err : Int} (h : RefAt w g A c l at_ err) :
    Calls Tryz.prog 51 #[.pointer (some ⟨g, 0, none⟩)] w (ResRf w g A c l (.int .i64 ((scNum l at_ err).1 : Nat)) (scNum l at_ err).2.1 (scNum l at_ err).2.2) := by
  have hc := blk_cell h.sc
  have hfz1 : ∀ W, RefAt W g A c l at_ err → W.frozen? ⟨g, 1, none⟩ = false ∧ W.frozen? ⟨g, 2, none⟩ = false := fun W hW => ⟨blk_frozen hW.sc 1, blk_frozen hW.sc 2⟩
  have HH := Lib.hid h
  have he0 := h.err0
  by_cases her : err = 0
  · subst her
    have hlen := h.len
    have hle := h.le
    have hcap := h.cap
    clear h he0
    obtain ⟨L, hL⟩ : ∃ L, L = l.drop at_ := ⟨_, rfl⟩
    have hLl : L.length = l.length - at_ := by rw [hL]; simp
    have hrd : RdB w g (cutA A c at_ 1) L.length L := by
      have := Rd.cut HH.out.rd HH.out.le HH.out.cap
      rw [hLl]
      rw [hL, RdB, List.map_drop]
      simpa [cutA] using this
    have HS : Hid (scNum l at_ 0 = ((rdNum 0 0 L).1, at_ + (rdNum 0 0 L).2.1, (rdNum 0 0 L).2.2)) := Lib.hid (by simp [scNum, hL])
    have hbd := rdNum_bound L 0 0 (by simp) (by omega)
    have HL := Lib.hid hLl
    have HD := Lib.hid hrd
    clear hLl hL hrd
    have h1 : (0 : Int) ≤ (at_ : Int) := by omega
    have h2 : (at_ : Int) ≤ (l.length : Int) := by omega
    have h3 : (l.length : Int) ≤ (c : Int) := by omega
    generalize hq : rdNum 0 0 L = q at *
    obtain ⟨n1, k1, e1⟩ := q
    have HQ := Lib.hid hq
    clear hq
    dsimp only at hbd
    obtain ⟨hn1, hk1, he1, hz1⟩ := hbd
    have hk2 : k1 ≤ l.length - at_ := by have := HL.out; omega
    have HZ1 := Lib.hid hz1
    clear hz1 hk1
    have hnf := hfz1 _ HH.out
    by_cases hca : c = at_
    · have HD1 : Hid (RdB w g (A) (l.length - at_) L) := Lib.hid (by
        have h := HD.out
        rw [HL.out] at h
        simpa [cutA, hca] using h)
      go_enter Tryz.func51, Tryz.ntmps51
      go_wp2_with fail
      refine wp_region_sched [(0, true), (1, true), (2, true), (3, true), (4, true), (5, true), (6, true), (7, true), (8, true), (9, false), (10, true), (11, true), (12, true), (13, true), (14, true), (15, true), (16, true)] (fun W => ∃ m, W = w.drewN m) (by kernel_rfl) (by kernel_rfl) rfl (by kernel_rfl) (⟨_, rfl⟩) ?_
      repeat (first | (apply sched_take rfl; (focus (first | rfl | (go_simp; done))); (focus (intro W hW; obtain ⟨m, rfl⟩ := hW; go_simp; rfl)); (focus (intro K hK; go_simp; refine hK _ ?_; clear hK K))) | (apply sched_skip rfl; (focus (first | rfl | (go_simp; done))); (focus (intro K hK; go_simp; refine hK _ ?_; clear hK K))))
      apply sched_op rfl
      intro K hK
      go_simp
      go_wp2_with (fail)
      refine (read_any _ _ _ g L _ (by have := HL.out; omega) (Rd.drew HD1.out)).mono ?_

      rintro e w2 ⟨rfl, rfl⟩
      rw [HQ.out]
      dsimp only
      go_wp2_with fail
      refine ⟨by exact ⟨_, rfl⟩, ?_⟩
      repeat (first | (apply sched_take rfl; (focus (first | rfl | (go_simp; done))); (focus (intro W hW; obtain ⟨m, rfl⟩ := hW; go_simp; rfl)); (focus (intro K hK; go_simp; refine hK _ ?_; clear hK K))) | (apply sched_skip rfl; (focus (first | rfl | (go_simp; done))); (focus (intro K hK; go_simp; refine hK _ ?_; clear hK K))))
      refine sched_nil ?_
      go_wp2_with fail
      go_ret
      rw [ResRf, HS.out]
      refine ⟨rfl, ?_, (((Fr.refl (fun k => k = g) w).setCell rfl _).setCell rfl _).drewN 1⟩
      have h := ((HH.out.setAt (at_ + k1) (by omega)).setErr e1 he1).drewN 1
      rwa [show (((at_ + k1 : Nat)) : Int) = (at_ : Int) + (k1 : Int) from Int.natCast_add _ _] at h
    · have HD1 : Hid (RdB w g (A.map fun x => x.add at_) (l.length - at_) L) := Lib.hid (by
        have h := HD.out
        rw [HL.out] at h
        simpa [cutA, hca] using h)
      go_enter Tryz.func51, Tryz.ntmps51
      go_wp2_with fail
      refine wp_region_sched [(0, true), (1, true), (2, true), (3, true), (4, true), (5, true), (6, true), (7, true), (8, true), (9, false), (10, true), (11, true), (12, true), (13, true), (14, true), (15, true), (16, true)] (fun W => ∃ m, W = w.drewN m) (by kernel_rfl) (by kernel_rfl) rfl (by kernel_rfl) (⟨_, rfl⟩) ?_
      repeat (first | (apply sched_take rfl; (focus (first | rfl | (go_simp; done))); (focus (intro W hW; obtain ⟨m, rfl⟩ := hW; go_simp; rfl)); (focus (intro K hK; go_simp; refine hK _ ?_; clear hK K))) | (apply sched_skip rfl; (focus (first | rfl | (go_simp; done))); (focus (intro K hK; go_simp; refine hK _ ?_; clear hK K))))
      generalize Option.map (fun x : Addr => x.add at_) A = A' at *
      apply sched_op rfl
      intro K hK
      go_simp
      go_wp2_with (fail)
      refine (read_any _ _ _ g L _ (by have := HL.out; omega) (Rd.drew HD1.out)).mono ?_

      rintro e w2 ⟨rfl, rfl⟩
      rw [HQ.out]
      dsimp only
      go_wp2_with fail
      refine ⟨by exact ⟨_, rfl⟩, ?_⟩
      repeat (first | (apply sched_take rfl; (focus (first | rfl | (go_simp; done))); (focus (intro W hW; obtain ⟨m, rfl⟩ := hW; go_simp; rfl)); (focus (intro K hK; go_simp; refine hK _ ?_; clear hK K))) | (apply sched_skip rfl; (focus (first | rfl | (go_simp; done))); (focus (intro K hK; go_simp; refine hK _ ?_; clear hK K))))
      refine sched_nil ?_
      go_wp2_with fail
      go_ret
      rw [ResRf, HS.out]
      refine ⟨rfl, ?_, (((Fr.refl (fun k => k = g) w).setCell rfl _).setCell rfl _).drewN 1⟩
      have h := ((HH.out.setAt (at_ + k1) (by omega)).setErr e1 he1).drewN 1
      rwa [show (((at_ + k1 : Nat)) : Int) = (at_ : Int) + (k1 : Int) from Int.natCast_add _ _] at h
  · have hb : (err != 0) = true := by simpa using her
    have HE : Hid (scNum l at_ err = (0, at_, err)) := Lib.hid (by rw [scNum, if_neg her])
    clear her h
    go_enter Tryz.func51, Tryz.ntmps51
    go_wp2_with fail
    go_ret
    rw [ResRf, HE.out]
    exact ⟨rfl, HH.out, Fr.refl _ _⟩

set_option maxRecDepth 100000 in
set_option maxHeartbeats 1000000 in
theorem refScanTextM_any {w : World} {g c at_ : Nat} {A : Option Addr} {l : List UInt8} {err : Int} (most : Nat) (hmost : most ≤ 1000000000000) (h : RefAt w g A c l at_ err) :
    Calls Tryz.prog 53 #[.pointer (some ⟨g, 0, none⟩), .int .i64 most] w (ResRf w g A c l (.string ⟨(scText most l at_ err).1.toArray⟩) (scText most l at_ err).2.1 (scText most l at_ err).2.2) := by
  have hc := blk_cell h.sc
  have hfz1 : ∀ W, RefAt W g A c l at_ err → W.frozen? ⟨g, 1, none⟩ = false ∧ W.frozen? ⟨g, 2, none⟩ = false := fun W hW => ⟨blk_frozen hW.sc 1, blk_frozen hW.sc 2⟩
  have HH := Lib.hid h
  have HT := Lib.hid (scText_eq most l at_ err)
  by_cases her : err = 0
  · subst her
    have hlen := h.len
    have hle := h.le
    have hcap := h.cap
    clear h
    obtain ⟨L, hL⟩ : ∃ L, L = l.drop at_ := ⟨_, rfl⟩
    have hLl : L.length = l.length - at_ := by rw [hL]; simp
    have hrd : RdB w g (cutA A c at_ 1) L.length L := by
      have := Rd.cut HH.out.rd HH.out.le HH.out.cap
      rw [hLl]
      rw [hL, RdB, List.map_drop]
      simpa [cutA] using this
    have HS : Hid (scNum l at_ 0 = ((rdNum 0 0 L).1, at_ + (rdNum 0 0 L).2.1, (rdNum 0 0 L).2.2)) := Lib.hid (by simp [scNum, hL])
    have hbd := rdNum_bound L 0 0 (by simp) (by omega)
    have HL := Lib.hid hLl
    have HD := Lib.hid hrd
    clear hLl hL hrd
    have h1 : (0 : Int) ≤ (at_ : Int) := by omega
    have h2 : (at_ : Int) ≤ (l.length : Int) := by omega
    have h3 : (l.length : Int) ≤ (c : Int) := by omega
    generalize hq : rdNum 0 0 L = q at *
    obtain ⟨n1, k1, e1⟩ := q
    have HQ := Lib.hid hq
    clear hq
    dsimp only at hbd HS
    obtain ⟨hn1, hk1, he1, hz1⟩ := hbd
    have hk2 : k1 ≤ l.length - at_ := by have := HL.out; omega
    have HN1 : Hid (n1 < 128 ^ 9) := Lib.hid hn1
    have hn1' : (n1 : Int) ≤ 9223372036854775807 := by omega
    have HZ1 := Lib.hid hz1
    clear hz1 hk1 hn1
    have hnf := hfz1 _ HH.out
    have HT2 : Hid (scText most l at_ 0 = if e1 ≠ 0 then ([], at_, e1) else if most < n1 then ([], at_, 4) else if l.length - (at_ + k1) < n1 then ([], at_, 2) else ((l.drop (at_ + k1)).take n1, at_ + k1 + n1, 0)) := Lib.hid (by rw [HT.out, HS.out])
    by_cases hca : c = at_
    · have HD1 : Hid (RdB w g (A) (l.length - at_) L) := Lib.hid (by
        have h := HD.out
        rw [HL.out] at h
        simpa [cutA, hca] using h)
      go_enter Tryz.func53, Tryz.ntmps53
      go_wp2_with fail
      refine wp_region_sched [(0, true), (1, true), (2, true), (3, true), (4, true), (5, true), (6, true), (7, true), (8, true), (9, false), (10, true), (11, true), (12, true), (13, true), (14, true), (15, true), (16, true)] (fun W => ∃ m, W = w.drewN m) (by kernel_rfl) (by kernel_rfl) rfl (by kernel_rfl) (⟨_, rfl⟩) ?_
      repeat (first | (apply sched_take rfl; (focus (first | rfl | (go_simp; done))); (focus (intro W hW; obtain ⟨m, rfl⟩ := hW; go_simp; rfl)); (focus (intro K hK; go_simp; refine hK _ ?_; clear hK K))) | (apply sched_skip rfl; (focus (first | rfl | (go_simp; done))); (focus (intro K hK; go_simp; refine hK _ ?_; clear hK K))))
      apply sched_op rfl
      intro K hK
      go_simp
      go_wp2_with (fail)
      refine (read_any _ _ _ g L _ (by have := HL.out; omega) (Rd.drew HD1.out)).mono ?_
      rintro e w2 ⟨rfl, rfl⟩
      rw [HQ.out]
      dsimp only
      go_wp2_with fail
      refine ⟨by exact ⟨_, rfl⟩, ?_⟩
      repeat (first | (apply sched_take rfl; (focus (first | rfl | (go_simp; done))); (focus (intro W hW; obtain ⟨m, rfl⟩ := hW; go_simp; rfl)); (focus (intro K hK; go_simp; refine hK _ ?_; clear hK K))) | (apply sched_skip rfl; (focus (first | rfl | (go_simp; done))); (focus (intro K hK; go_simp; refine hK _ ?_; clear hK K))))
      refine sched_nil ?_
      by_cases he : e1 = 0
      · exfalso
        have hL0 : L = [] := List.length_eq_zero_iff.1 (by have := HL.out; omega)
        have h := HQ.out
        rw [hL0, he] at h
        simp [rdNum] at h
      · have hne : (e1 != 0) = true := by simpa using he
        have HE := Lib.hid he
        clear he
        go_wp2_with fail
        go_ret
        rw [ResRf, HT2.out, if_pos HE.out]
        exact ⟨rfl, (HH.out.drewN 1).setErr e1 he1, ((Fr.refl (fun k => k = g) w).drewN 1).setCell rfl _⟩
    · have HD1 : Hid (RdB w g (A.map fun x => x.add at_) (l.length - at_) L) := Lib.hid (by
        have h := HD.out
        rw [HL.out] at h
        simpa [cutA, hca] using h)
      go_enter Tryz.func53, Tryz.ntmps53
      go_wp2_with fail
      refine wp_region_sched [(0, true), (1, true), (2, true), (3, true), (4, true), (5, true), (6, true), (7, true), (8, true), (9, false), (10, true), (11, true), (12, true), (13, true), (14, true), (15, true), (16, true)] (fun W => ∃ m, W = w.drewN m) (by kernel_rfl) (by kernel_rfl) rfl (by kernel_rfl) (⟨_, rfl⟩) ?_
      repeat (first | (apply sched_take rfl; (focus (first | rfl | (go_simp; done))); (focus (intro W hW; obtain ⟨m, rfl⟩ := hW; go_simp; rfl)); (focus (intro K hK; go_simp; refine hK _ ?_; clear hK K))) | (apply sched_skip rfl; (focus (first | rfl | (go_simp; done))); (focus (intro K hK; go_simp; refine hK _ ?_; clear hK K))))
      generalize Option.map (fun x : Addr => x.add at_) A = A' at *
      apply sched_op rfl
      intro K hK
      go_simp
      go_wp2_with (fail)
      refine (read_any _ _ _ g L _ (by have := HL.out; omega) (Rd.drew HD1.out)).mono ?_
      rintro e w2 ⟨rfl, rfl⟩
      rw [HQ.out]
      dsimp only
      go_wp2_with fail
      refine ⟨by exact ⟨_, rfl⟩, ?_⟩
      repeat (first | (apply sched_take rfl; (focus (first | rfl | (go_simp; done))); (focus (intro W hW; obtain ⟨m, rfl⟩ := hW; go_simp; rfl)); (focus (intro K hK; go_simp; refine hK _ ?_; clear hK K))) | (apply sched_skip rfl; (focus (first | rfl | (go_simp; done))); (focus (intro K hK; go_simp; refine hK _ ?_; clear hK K))))
      refine sched_nil ?_
      by_cases he : e1 = 0
      · subst he
        by_cases hgt : most < n1
        · have HGT := Lib.hid hgt
          have hg1 : (most : Int) < (n1 : Int) := by omega
          have hg2 : (0 : Int) < (n1 : Int) := by omega
          clear hgt
          go_wp2_with fail
          go_ret
          rw [ResRf, HT2.out, if_neg (by simp), if_pos HGT.out]
          exact ⟨rfl, (HH.out.drewN 1).setErr 4 (by omega), ((Fr.refl (fun k => k = g) w).drewN 1).setCell rfl _⟩
        · have HGT := Lib.hid hgt
          have hg1 : ¬ (most : Int) < (n1 : Int) := by omega
          clear hgt
          by_cases hsh : l.length - (at_ + k1) < n1
          · have HSH := Lib.hid hsh
            have hs : (l.length : Int) - (at_ : Int) - (k1 : Int) < (n1 : Int) := by omega
            clear hsh
            go_wp2_with fail
            go_quiet (fail)
            go_wp2_with fail
            go_ret
            rw [ResRf, HT2.out, if_neg (by simp), if_neg HGT.out, if_pos HSH.out]
            exact ⟨rfl, (HH.out.drewN (1 + nq)).setErr 2 (by omega), ((Fr.refl (fun k => k = g) w).drewN (1 + nq)).setCell rfl _⟩
          · have HSH := Lib.hid hsh
            have hs : ¬ (l.length : Int) - (at_ : Int) - (k1 : Int) < (n1 : Int) := by omega
            have hsum : (at_ : Int) + ((k1 : Int) + (n1 : Int)) ≤ 70368744177664 := by omega
            clear hsh
            go_wp2_with fail
            go_quiet (fail)
            go_wp2_with fail
            obtain ⟨a1, ha1⟩ : ∃ a1, a1 = at_ + k1 := ⟨_, rfl⟩
            have HA1 := Lib.hid ha1
            have HD3 := (HH.out.drewN (1 + nq)).setAt (a1 + n1) (by omega)
            have hf3 := ((Fr.refl (fun k => k = g) w).drewN (1 + nq)).setCell (p := ⟨g, 1, none⟩) rfl (.int .i64 ((at_ : Int) + ((k1 : Int) + (n1 : Int))))
            rw [show (((a1 + n1 : Nat)) : Int) = (at_ : Int) + ((k1 : Int) + (n1 : Int)) by omega] at HD3
            have hle1 : a1 ≤ l.length := by omega
            have hn1l : n1 ≤ l.length - a1 := by omega
            have hb3 : (a1 : Int) + (n1 : Int) ≤ (c : Int) := by omega
            clear hc hnf HD1 hs hsum ha1 hfz1
            generalize (w.drewN (1 + nq)).setCell ⟨g, 1, none⟩ (.int .i64 ((at_ : Int) + ((k1 : Int) + (n1 : Int)))) = w3 at *
            have hc3 : ∀ j, w3.cell? ⟨g, j, none⟩ = _ := blk_cell HD3.sc
            have hrd3 : RdB w3 g (cutA A c a1 1) n1 ((l.drop a1).take n1) := by
              have h1 := (Rd.cut HD3.rd hle1 HD3.cap).take (k := n1) (by omega)
              rw [RdB, List.map_take, List.map_drop]
              simpa [cutA] using h1
            have hcv := fun (k : Nat) => run_conv_bs (P := Tryz.prog) (w := w3.drewN k) Tryz.underlying47 Tryz.underlying5 Tryz.underlying9 (show RdB (w3.drewN k) g _ n1 _ from hrd3) (c - a1)
            have hb1 : (0 : Int) ≤ (a1 : Int) := by omega
            have hb2 : (a1 : Int) ≤ (a1 : Int) + (n1 : Int) := by omega
            have HD4 := Lib.hid HD3
            clear HD3 hrd3
            by_cases hc1 : c = a1
            · have hcu : cutA A c a1 1 = A := by simp [cutA, hc1]
              rw [hcu] at hcv
              have hn0 : n1 = 0 := by omega
              subst hn0
              rw [hc1] at hcv
              simp only [Nat.sub_self] at hcv
              go_quiet (fail)
              go_wp2_with fail
              go_ret
              rw [ResRf, HT2.out, if_neg (by simp), if_neg HGT.out, if_neg HSH.out, ← HA1.out]
              exact ⟨rfl, by have h := HD4.out.drewN nq; rw [hc1] at h; exact h, hf3.drewN _⟩
            · have hcu : cutA A c a1 1 = A.map (·.add a1) := by simp [cutA, hc1]
              rw [hcu] at hcv
              go_quiet (fail)
              go_wp2_with fail
              go_ret
              rw [ResRf, HT2.out, if_neg (by simp), if_neg HGT.out, if_neg HSH.out, ← HA1.out]
              exact ⟨rfl, HD4.out.drewN _, hf3.drewN _⟩
      · have hne : (e1 != 0) = true := by simpa using he
        have HE := Lib.hid he
        clear he
        go_wp2_with fail
        go_ret
        rw [ResRf, HT2.out, if_pos HE.out]
        exact ⟨rfl, (HH.out.drewN 1).setErr e1 he1, ((Fr.refl (fun k => k = g) w).drewN 1).setCell rfl _⟩
  · have hb : (err != 0) = true := by simpa using her
    have HE : Hid (scText most l at_ err = ([], at_, err)) := Lib.hid (by rw [HT.out, scNum, if_neg her, if_pos her])
    clear her h
    go_enter Tryz.func53, Tryz.ntmps53
    go_wp2_with fail
    go_ret
    rw [ResRf, HE.out]
    exact ⟨rfl, HH.out, Fr.refl _ _⟩
theorem refScanText_any {w : World} {g c at_ : Nat} {A : Option Addr} {l : List UInt8} {err : Int} (h : RefAt w g A c l at_ err) :
    Calls Tryz.prog 53 #[.pointer (some ⟨g, 0, none⟩), .int .i64 32] w (ResRf w g A c l (.string ⟨(scText 32 l at_ err).1.toArray⟩) (scText 32 l at_ err).2.1 (scText 32 l at_ err).2.2) := refScanTextM_any 32 (by omega) h
end Go.Proofs.YtdjcifeoplgkpaaGreat
namespace Go.Proofs.YtdjcifeoplgkpaaGreat
open Go.RowKit

theorem scTake_parts {l r : List UInt8} {at_ : Nat} {s : Sp} (h : l.drop at_ = s.enc ++ r) (hs : s.ok = true) : ∃ a1 a2 a3 a4 a5,
    scNum l at_ 0 = (s.tr.toNat, a1, 0) ∧ scNum l a1 0 = (s.id.toNat, a2, 0) ∧ scNum l a2 0 = (s.pa.toNat, a3, 0) ∧ scNum l a3 0 = (s.st.toNat, a4, 0) ∧ scNum l a4 0 = ((s.en - s.st).toNat, a5, 0) ∧
      scText 32 l a5 0 = (s.nm.data.toList, at_ + s.enc.length, 0) := by
  have hp := Sp.ok_parts hs
  have hsz : s.nm.data.toList.length = s.nm.size := rfl
  have hE := s.enc_eq
  rw [hE] at h
  simp only [List.append_assoc] at h
  have h1 := scNum_enc h (by omega)
  have d1 := drop_on h
  have h2 := scNum_enc d1 (by omega)
  have d2 := drop_on d1
  have h3 := scNum_enc d2 (by omega)
  have d3 := drop_on d2
  have h4 := scNum_enc d3 (by omega)
  have d4 := drop_on d3
  have h5 := scNum_enc d4 (by omega)
  have d5 := drop_on d4
  rw [← List.append_assoc] at d5
  have h6 := scText_enc d5 (by omega)
  refine ⟨_, _, _, _, _, h1, h2, h3, h4, h5, ?_⟩
  rw [h6, hE]
  simp only [List.length_append, Prod.mk.injEq, and_true, true_and]
  omega

/-- Where the reference's Get stands behind k spans: if the bytes are those of spans that may be, it has read the first k of them. -/
def GI (l : List UInt8) (N k : Nat) (acc : List Sp) (at_ : Nat) (err : Int) : Prop :=
  ∀ sps : List Sp, sps.all Sp.ok = true → putEnc sps = l → sps.length < 9223372036854775808 → N = sps.length ∧ acc = sps.take k ∧ err = 0 ∧ l.drop at_ = encL (sps.drop k)
theorem GI_start {l : List UInt8} {N a : Nat} {e : Int} (h : scNum l 0 0 = (N, a, e)) : GI l N 0 [] a e := by
  intro sps hok hp hl
  have h0 : l.drop 0 = digits sps.length ++ encL sps := by rw [← hp]; rfl
  have h1 := scNum_enc h0 hl
  rw [h] at h1
  simp only [Prod.mk.injEq] at h1
  obtain ⟨rfl, rfl, rfl⟩ := h1
  exact ⟨rfl, rfl, rfl, drop_on h0⟩
theorem GI_step {l tx : List UInt8} {N k at_ n1 n2 n3 n4 n5 a1 a2 a3 a4 a5 a6 : Nat} {err e1 e2 e3 e4 e5 e6 : Int} {acc : List Sp} (hg : GI l N k acc at_ err) (hk : k < N)
    (h1 : scNum l at_ err = (n1, a1, e1)) (h2 : scNum l a1 e1 = (n2, a2, e2)) (h3 : scNum l a2 e2 = (n3, a3, e3)) (h4 : scNum l a3 e3 = (n4, a4, e4)) (h5 : scNum l a4 e4 = (n5, a5, e5)) (ht : scText 32 l a5 e5 = (tx, a6, e6)) :
    (e6 ≠ 0 ∨ 1099511627776 < n5 ∨ 1099511627776 < n4 → l.length < 9223372036854775808 → getAns l = ([], 30)) ∧ GI l N (k + 1) (acc ++ [⟨n1, n2, n3, n4, (n4 : Int) + n5, ⟨tx.toArray⟩⟩]) a6 e6 := by
  have key : ∀ sps : List Sp, sps.all Sp.ok = true → putEnc sps = l → sps.length < 9223372036854775808 → e6 = 0 ∧ n5 ≤ 1099511627776 ∧ n4 ≤ 1099511627776 ∧
      N = sps.length ∧ acc ++ [⟨n1, n2, n3, n4, (n4 : Int) + n5, ⟨tx.toArray⟩⟩] = sps.take (k + 1) ∧ l.drop a6 = encL (sps.drop (k + 1)) := by
    intro sps hok hp hl
    obtain ⟨hN, ha, rfl, hd⟩ := hg sps hok hp hl
    have hks : k < sps.length := by omega
    have hs := List.all_eq_true.1 hok _ (List.getElem_mem hks)
    have hsp := Sp.ok_parts hs
    have hd2 : l.drop at_ = sps[k].enc ++ encL (sps.drop (k + 1)) := by
      rw [hd, List.drop_eq_getElem_cons hks]; rfl
    obtain ⟨b1, b2, b3, b4, b5, q1, q2, q3, q4, q5, q6⟩ := scTake_parts hd2 hs
    rw [h1] at q1; simp only [Prod.mk.injEq] at q1; obtain ⟨rfl, rfl, rfl⟩ := q1
    rw [h2] at q2; simp only [Prod.mk.injEq] at q2; obtain ⟨rfl, rfl, rfl⟩ := q2
    rw [h3] at q3; simp only [Prod.mk.injEq] at q3; obtain ⟨rfl, rfl, rfl⟩ := q3
    rw [h4] at q4; simp only [Prod.mk.injEq] at q4; obtain ⟨rfl, rfl, rfl⟩ := q4
    rw [h5] at q5; simp only [Prod.mk.injEq] at q5; obtain ⟨rfl, rfl, rfl⟩ := q5
    rw [ht] at q6; simp only [Prod.mk.injEq] at q6; obtain ⟨rfl, rfl, rfl⟩ := q6
    refine ⟨rfl, by omega, by omega, hN, ?_, drop_on hd2⟩
    rw [List.take_succ_eq_append_getElem hks, ha]
    congr 2
    generalize sps[k] = s at *
    cases s
    simp only [Sp.mk.injEq] at *
    refine ⟨by omega, by omega, by omega, by omega, by omega, ?_⟩
    simp
  refine ⟨fun hbad hlen => ?_, fun sps hok hp hl => ?_⟩
  · rcases put_get l with ⟨sps, h, hok, hp⟩ | h
    · have hle := putEnc_ge sps
      rw [hp] at hle
      obtain ⟨k1, k2, k3, _⟩ := key sps hok hp (by omega)
      omega
    · exact h
  · obtain ⟨k1, k2, k3, k4, k5, k6⟩ := key sps hok hp hl
    exact ⟨k4, k5, k1, k6⟩
theorem GI_end {l : List UInt8} {N k at_ : Nat} {err : Int} {acc : List Sp} (hg : GI l N k acc at_ err) (hk : ¬ k < N) (hlen : l.length < 9223372036854775808) (hacc : acc.length < 9223372036854775808) :
    (acc.all Sp.ok = true → putEnc acc = l → getAns l = (acc, 0)) ∧ ((acc.all Sp.ok = true → putEnc acc ≠ l) → getAns l = ([], 30)) := by
  refine ⟨fun hok hp => ?_, fun hno => ?_⟩
  · rw [← hp]; exact get_put acc hok hacc
  · rcases put_get l with ⟨sps, h, hok, hp⟩ | h
    · have hle := putEnc_ge sps
      rw [hp] at hle
      obtain ⟨hN, ha, _, _⟩ := hg sps hok hp (by omega)
      rw [List.take_of_length_le (by omega)] at ha
      subst ha
      exact absurd hp (hno hok)
    · exact h
theorem RefAt.fr {S : Nat → Prop} {w w' : World} {g c at_ : Nat} {A : Option Addr} {l : List UInt8} {err : Int} (h : RefAt w g A c l at_ err) (hf : Fr S w w') (hS : ∀ k, S k → g < k) : RefAt w' g A c l at_ err :=
  h.below (B := g + 1) (hf.below h.lt (fun k hk => hS k hk)) (by omega)

set_option maxRecDepth 100000 in
set_option maxHeartbeats 2000000 in
theorem refGet_any (A : Option Addr) (n cap B : Nat) (l : List UInt8) (w : World) (hB : B ≤ w.heap.size) (hbig : n ≤ 4294967296) (hcap : n ≤ cap) (hr : RdB w B A n l) :
    Calls Tryz.prog 52 #[.slice A n cap] w (ResSE w (getAns l)) := by
  obtain ⟨i0, hi0, hz0, hz1, hz2⟩ := info_parts Tryz.infoSpan
  have hlen := hr.len
  subst hlen
  have HR := Lib.hid hr
  have HS0l : Hid (l.length ≤ 4294967296) := Lib.hid hbig
  obtain ⟨g, hg⟩ : ∃ g, g = w.heap.size := ⟨_, rfl⟩
  have hs0 : RefAt (w.alloc (.cells #[.slice A l.length cap, .int .i64 (0 : Nat), .int .i64 0] 88)) g A cap l 0 0 :=
    ⟨by rw [hg]; exact heap_alloc_new w _, hcap, Rd.alloc hr _ hB (by omega), by omega, by omega, by omega⟩
  have HS0 := Lib.hid hs0
  have hb0 : Below w.heap.size w (w.alloc (.cells #[.slice A l.length cap, .int .i64 (0 : Nat), .int .i64 0] 88)) := (Below.refl _ _).alloc (Nat.le_refl _) _
  have hbs := hb0.size
  clear hs0 hr
  go_enter Tryz.func52, Tryz.ntmps52
  go_wp2_with fail
  rw [← hg]
  have HG := Lib.hid hg
  have hgle : w.heap.size ≤ g := by omega
  clear hg
  refine (refScanNumber_any HS0.out).mono ?_
  rintro e w2 ⟨rfl, hs2, hf2⟩
  have hb2 : Below w.heap.size w w2 := hb0.trans (hf2.below hbs (fun k hk => by omega))
  have hNb := scNum_bound l 0 0
  generalize hq : scNum l 0 0 = q at *
  obtain ⟨N, a2, e2⟩ := q
  dsimp only at hs2 hNb ⊢
  have HGI := Lib.hid (GI_start hq)
  have HS2 := Lib.hid hs2
  clear hs2 hf2 hb0 hbs HS0 hq
  go_wp2_with fail
  go_loopw [6, 7] (fun v i wr => ∃ (k : Nat) (acc : List Sp) (at_ : Nat) (err : Int) (A' : Option Addr) (c : Nat), k ≤ N ∧ i = .int .i64 k ∧ v = .slice A' acc.length c ∧
      wr.ownsRow (g + 1) 38 6 (.slice A' acc.length c) acc.length (acc.flatMap Sp.cells) ∧ RefAt wr g A cap l at_ err ∧ Below w.heap.size w wr ∧ GI l N k acc at_ err ∧ acc.length ≤ at_ ∧ (∀ s ∈ acc, s.nm.size ≤ 32)) (fun _ i _ => N - (intOf i).toNat)
  case atStart => exact ⟨0, [], a2, e2, none, 0, by omega, rfl, rfl, World.ownsRow_nil _ _ _ _, HS2.out, hb2, HGI.out, by simp, by simp⟩
  case round =>
    obtain ⟨k, acc, at_, err, A', c, hk, rfl, rfl, hown, hs, hb, hgi, hacc, hnms⟩ := hrel
    have HI := Lib.hid hgi
    have HO := Lib.hid hown
    have hal := hs.le
    have HS := Lib.hid hs
    have hsz := hb.size
    have hgw := hs.lt
    have HNM := Lib.hid hnms
    clear hgi hown hs hb2 HS2 HGI hnms
    by_cases hlt : k < N
    · have hB0 := heap_alloc_new wr (.cells sp0 38)
      obtain ⟨h, hh⟩ : ∃ h, h = wr.heap.size := ⟨_, rfl⟩
      have HSa := Lib.hid (HS.out.below ((Below.refl wr.heap.size wr).alloc (Nat.le_refl _) (.cells sp0 38)) hgw)
      have hFa : Fr (fun k => k = g) wr (wr.alloc (.cells sp0 38)) := (Fr.refl _ _).alloc _
      rw [← hh] at hB0
      have HB0 := Lib.hid hB0
      have hgh : g < h := by omega
      have HH := Lib.hid hh
      have hhle : wr.heap.size ≤ h := by omega
      clear hB0 hh
      go_wp2_with fail
      rw [← HH.out]
      have HF0 := Lib.hid hFa
      clear hFa
      generalize hu0 : wr.alloc (.cells #[.int .i64 0, .int .i64 0, .int .i64 0, .int .i64 0, .int .i64 0, .string ⟨#[]⟩] 38) = x0 at *
      have HX0 : Hid (RefAt x0 g A cap l at_ err) := Lib.hid (by rw [← hu0]; exact HSa.out)
      have HY0 : Hid (x0.heap[h]? = some (.cells #[.int .i64 0, .int .i64 0, .int .i64 0, .int .i64 0, .int .i64 0, .string ⟨#[]⟩] 38 (0, 0))) := Lib.hid (by rw [← hu0]; exact HB0.out)
      have HZ0 : Hid (Fr (fun k => k = g) wr x0) := Lib.hid (by rw [← hu0]; exact HF0.out)
      have hneg : h ≠ g := by omega
      clear hu0 HF0 HB0 HSa
      refine (refScanNumber_any HX0.out).mono ?_
      rintro e y1 ⟨rfl, hs, hf⟩
      generalize hq : scNum l at_ err = q at hs ⊢
      obtain ⟨n1, a1, e1⟩ := q
      dsimp only at hs ⊢
      have hbn1 := scNum_bound l at_ err
      rw [hq] at hbn1
      have HQ1 := Lib.hid hq
      have hy := fr_keep hf HY0.out hneg
      have hF := HZ0.out.trans hf
      have hcy := blk_cell hy
      have hfy := fun j => blk_frozen hy j
      have HX1 : Hid (RefAt (y1.setCell ⟨h, 0, none⟩ (.int .i64 (n1 : Nat))) g A cap l a1 e1) := Lib.hid (hs.fr ((Fr.refl (fun k => k = h) y1).setCell rfl _) (fun k hk => by omega))
      have HY1 : Hid ((y1.setCell ⟨h, 0, none⟩ (.int .i64 (n1 : Nat))).heap[h]? = some (.cells #[.int .i64 n1, .int .i64 0, .int .i64 0, .int .i64 0, .int .i64 0, .string ⟨#[]⟩] 38 (0, 0))) := Lib.hid (blk_set hy 0 _)
      have HZ1 : Hid (Fr (fun k => k = g) wr (y1.setCell ⟨h, 0, none⟩ (.int .i64 (n1 : Nat)))) := Lib.hid (hF.setNew hhle _)
      clear hq hs hf hy hF HX0 HY0 HZ0
      go_wp2_with fail
      clear hcy hfy
      generalize y1.setCell ⟨h, 0, none⟩ (.int .i64 (n1 : Nat)) = x1 at *
      refine (refScanNumber_any HX1.out).mono ?_
      rintro e y2 ⟨rfl, hs, hf⟩
      generalize hq : scNum l a1 e1 = q at hs ⊢
      obtain ⟨n2, a2, e2⟩ := q
      dsimp only at hs ⊢
      have hbn2 := scNum_bound l a1 e1
      rw [hq] at hbn2
      have HQ2 := Lib.hid hq
      have hy := fr_keep hf HY1.out hneg
      have hF := HZ1.out.trans hf
      have hcy := blk_cell hy
      have hfy := fun j => blk_frozen hy j
      have HX2 : Hid (RefAt (y2.setCell ⟨h, 1, none⟩ (.int .i64 (n2 : Nat))) g A cap l a2 e2) := Lib.hid (hs.fr ((Fr.refl (fun k => k = h) y2).setCell rfl _) (fun k hk => by omega))
      have HY2 : Hid ((y2.setCell ⟨h, 1, none⟩ (.int .i64 (n2 : Nat))).heap[h]? = some (.cells #[.int .i64 n1, .int .i64 n2, .int .i64 0, .int .i64 0, .int .i64 0, .string ⟨#[]⟩] 38 (0, 0))) := Lib.hid (blk_set hy 1 _)
      have HZ2 : Hid (Fr (fun k => k = g) wr (y2.setCell ⟨h, 1, none⟩ (.int .i64 (n2 : Nat)))) := Lib.hid (hF.setNew hhle _)
      clear hq hs hf hy hF HX1 HY1 HZ1
      go_wp2_with fail
      clear hcy hfy
      generalize y2.setCell ⟨h, 1, none⟩ (.int .i64 (n2 : Nat)) = x2 at *
      refine (refScanNumber_any HX2.out).mono ?_
      rintro e y3 ⟨rfl, hs, hf⟩
      generalize hq : scNum l a2 e2 = q at hs ⊢
      obtain ⟨n3, a3, e3⟩ := q
      dsimp only at hs ⊢
      have hbn3 := scNum_bound l a2 e2
      rw [hq] at hbn3
      have HQ3 := Lib.hid hq
      have hy := fr_keep hf HY2.out hneg
      have hF := HZ2.out.trans hf
      have hcy := blk_cell hy
      have hfy := fun j => blk_frozen hy j
      have HX3 : Hid (RefAt (y3.setCell ⟨h, 2, none⟩ (.int .i64 (n3 : Nat))) g A cap l a3 e3) := Lib.hid (hs.fr ((Fr.refl (fun k => k = h) y3).setCell rfl _) (fun k hk => by omega))
      have HY3 : Hid ((y3.setCell ⟨h, 2, none⟩ (.int .i64 (n3 : Nat))).heap[h]? = some (.cells #[.int .i64 n1, .int .i64 n2, .int .i64 n3, .int .i64 0, .int .i64 0, .string ⟨#[]⟩] 38 (0, 0))) := Lib.hid (blk_set hy 2 _)
      have HZ3 : Hid (Fr (fun k => k = g) wr (y3.setCell ⟨h, 2, none⟩ (.int .i64 (n3 : Nat)))) := Lib.hid (hF.setNew hhle _)
      clear hq hs hf hy hF HX2 HY2 HZ2
      go_wp2_with fail
      clear hcy hfy
      generalize y3.setCell ⟨h, 2, none⟩ (.int .i64 (n3 : Nat)) = x3 at *
      refine (refScanNumber_any HX3.out).mono ?_
      rintro e y4 ⟨rfl, hs, hf⟩
      generalize hq : scNum l a3 e3 = q at hs ⊢
      obtain ⟨n4, a4, e4⟩ := q
      dsimp only at hs ⊢
      have hbn4 := scNum_bound l a3 e3
      rw [hq] at hbn4
      have HQ4 := Lib.hid hq
      have hy := fr_keep hf HY3.out hneg
      have hF := HZ3.out.trans hf
      have hcy := blk_cell hy
      have hfy := fun j => blk_frozen hy j
      have HX4 : Hid (RefAt (y4.setCell ⟨h, 3, none⟩ (.int .i64 (n4 : Nat))) g A cap l a4 e4) := Lib.hid (hs.fr ((Fr.refl (fun k => k = h) y4).setCell rfl _) (fun k hk => by omega))
      have HY4 : Hid ((y4.setCell ⟨h, 3, none⟩ (.int .i64 (n4 : Nat))).heap[h]? = some (.cells #[.int .i64 n1, .int .i64 n2, .int .i64 n3, .int .i64 n4, .int .i64 0, .string ⟨#[]⟩] 38 (0, 0))) := Lib.hid (blk_set hy 3 _)
      have HZ4 : Hid (Fr (fun k => k = g) wr (y4.setCell ⟨h, 3, none⟩ (.int .i64 (n4 : Nat)))) := Lib.hid (hF.setNew hhle _)
      clear hq hs hf hy hF HX3 HY3 HZ3
      go_wp2_with fail
      clear hcy hfy
      generalize y4.setCell ⟨h, 3, none⟩ (.int .i64 (n4 : Nat)) = x4 at *
      refine (refScanNumber_any HX4.out).mono ?_
      rintro e y5 ⟨rfl, hs, hf⟩
      generalize hq : scNum l a4 e4 = q at hs ⊢
      obtain ⟨n5, a5, e5⟩ := q
      dsimp only at hs ⊢
      have hbn5 := scNum_bound l a4 e4
      rw [hq] at hbn5
      have HQ5 := Lib.hid hq
      have hy := fr_keep hf HY4.out hneg
      have hF := HZ4.out.trans hf
      have HX5 := Lib.hid hs
      have HY5 := Lib.hid hy
      have HZ5 := Lib.hid hF
      clear hq hs hf hy hF HX4 HY4 HZ4
      go_wp2_with fail
      refine (refScanText_any HX5.out).mono ?_
      rintro e y6 ⟨rfl, hs, hf⟩
      generalize hq : scText 32 l a5 e5 = q at hs ⊢
      obtain ⟨tx, a6, e6⟩ := q
      dsimp only at hs ⊢
      have htl := scText_len 32 l a5 e5
      rw [hq] at htl
      have HQ6 := Lib.hid hq
      have hy := fr_keep hf HY5.out hneg
      have hF := HZ5.out.trans hf
      have HZ6 := Lib.hid hF
      have hcy := blk_cell hy
      have hfy := fun j => blk_frozen hy j
      have hcg := blk_cell hs.sc
      have hll := HS0l.out
      have hGS := GI_step HI.out hlt HQ1.out HQ2.out HQ3.out HQ4.out HQ5.out HQ6.out
      have HGS1 := Lib.hid hGS.1
      have HGS2 := Lib.hid hGS.2
      clear hGS
      have hbelow : Below w.heap.size w y6 := hb.trans (HZ6.out.below hsz (fun k hk => by omega))
      have hwh : w.heap.size ≤ h := by omega
      have HRA := Lib.hid hs
      have HYB := Lib.hid hy
      have he6 : 0 ≤ e6 := hs.err0
      have ha6 := hs.le
      have hat6 : at_ + 1 ≤ a6 ∨ e6 ≠ 0 := by
        by_cases h0 : e6 = 0
        · left
          have t6 := scText_err (most := 32) (l := l) (at_ := a5) (err := e5) (by rw [HQ6.out]; exact h0)
          rw [HQ6.out] at t6
          have t5 := scNum_err t6.1
          have t5' := scNum_err (l := l) (at_ := a4) (err := e4) (by rw [HQ5.out]; exact t5.1)
          rw [HQ5.out] at t5'
          have t4 := scNum_err (l := l) (at_ := a3) (err := e3) (by rw [HQ4.out]; exact t5'.1)
          rw [HQ4.out] at t4
          have t3 := scNum_err (l := l) (at_ := a2) (err := e2) (by rw [HQ3.out]; exact t4.1)
          rw [HQ3.out] at t3
          have t2 := scNum_err (l := l) (at_ := a1) (err := e1) (by rw [HQ2.out]; exact t3.1)
          rw [HQ2.out] at t2
          have t1 := scNum_err (l := l) (at_ := at_) (err := err) (by rw [HQ1.out]; exact t2.1)
          rw [HQ1.out] at t1
          have h1 := t6.2
          have h2 := t5'.2
          have h3 := t4.2
          have h4 := t3.2
          have h5 := t2.2
          have h6 := t1.2
          dsimp only at h1 h2 h3 h4 h5 h6
          omega
        · exact .inr h0
      have HAT := Lib.hid hat6
      clear hq hs hf hy hF HX5 HY5 HZ5 hat6
      by_cases hbad : e6 ≠ 0 ∨ 1099511627776 < n5 ∨ 1099511627776 < n4
      · have HE := Lib.hid (HGS1.out hbad (by omega))
        have hb6 := hbelow.setCell (p := ⟨h, 5, none⟩) hwh (.string ⟨tx.toArray⟩)
        have HB6 := Lib.hid hb6
        clear hb6 hbelow
        by_cases q1 : e6 = 0
        · by_cases q2 : 1099511627776 < n5
          · have q2' : (1099511627776 : Int) < (n5 : Int) := by omega
            clear hbad q2
            subst q1
            go_wp2_with fail
            go_ret2
            rw [HE.out]
            exact ⟨none, 0, rfl, World.ownsRow_nil _ _ _ _, HB6.out⟩
          · have q2' : ¬ (1099511627776 : Int) < (n5 : Int) := by omega
            have q3' : (1099511627776 : Int) < (n4 : Int) := by omega
            clear hbad q2
            subst q1
            go_wp2_with fail
            go_ret2
            rw [HE.out]
            exact ⟨none, 0, rfl, World.ownsRow_nil _ _ _ _, HB6.out⟩
        · have q1' : (e6 != 0) = true := by simpa using q1
          clear hbad q1
          go_wp2_with fail
          go_ret2
          rw [HE.out]
          exact ⟨none, 0, rfl, World.ownsRow_nil _ _ _ _, HB6.out⟩
      · have q1 : e6 = 0 := by omega
        have q2' : ¬ (1099511627776 : Int) < (n5 : Int) := by omega
        have q3' : ¬ (1099511627776 : Int) < (n4 : Int) := by omega
        clear hbad
        subst q1
        have hatt : at_ + 1 ≤ a6 := by rcases HAT.out with h | h; exact h; exact absurd rfl h
        have hacc2 : acc.length + 1 ≤ 4294967297 := by omega
        have HRA7 : Hid (RefAt ((y6.setCell ⟨h, 5, none⟩ (.string ⟨tx.toArray⟩)).setCell ⟨h, 4, none⟩ (.int .i64 ((n4 : Int) + n5))) g A cap l a6 0) := Lib.hid (HRA.out.fr (((Fr.refl (fun k => k = h) y6).setCell rfl _).setCell rfl _) (fun k hk => by omega))
        have HYB7 : Hid (((y6.setCell ⟨h, 5, none⟩ (.string ⟨tx.toArray⟩)).setCell ⟨h, 4, none⟩ (.int .i64 ((n4 : Int) + n5))).heap[h]? = some (.cells #[.int .i64 n1, .int .i64 n2, .int .i64 n3, .int .i64 n4, .int .i64 ((n4 : Int) + n5), .string ⟨tx.toArray⟩] 38 (0, 0))) := Lib.hid (blk_set (blk_set HYB.out 5 _) 4 _)
        have HO7 : Hid (((y6.setCell ⟨h, 5, none⟩ (.string ⟨tx.toArray⟩)).setCell ⟨h, 4, none⟩ (.int .i64 ((n4 : Int) + n5))).ownsRow (g + 1) 38 6 (.slice A' acc.length c) acc.length (acc.flatMap Sp.cells)) := Lib.hid (own_fr HO.out ((HZ6.out.setNew hhle _).setNew hhle _) (fun k hk => by omega))
        have HB7 : Hid (Below w.heap.size w ((y6.setCell ⟨h, 5, none⟩ (.string ⟨tx.toArray⟩)).setCell ⟨h, 4, none⟩ (.int .i64 ((n4 : Int) + n5)))) := Lib.hid ((hbelow.setCell (p := ⟨h, 5, none⟩) hwh _).setCell (p := ⟨h, 4, none⟩) hwh _)
        have hszy : w.heap.size ≤ y6.heap.size := hbelow.size
        have hgy : g < y6.heap.size := HRA.out.lt
        clear hbelow
        obtain ⟨s, hse⟩ : ∃ s : Sp, s = ⟨n1, n2, n3, n4, (n4 : Int) + n5, ⟨tx.toArray⟩⟩ := ⟨_, rfl⟩
        have HSE := Lib.hid hse
        clear hse
        go_wp2_with (at_builtin; refine wpList_app _ rfl (.tmp 59) (.tmp 61) _ rfl (g + 1) 38 i0 _ 6 56 Tryz.underlying31 hi0 hz0 hz1 hz2 rfl (by omega) _ _ _ _ rfl (HO7.out.alloc _) (y6.heap.size + 1) _ 1 _ s.cells rfl (Rd.new (by simp) rfl (by rw [HSE.out]; intro j hj; simp [Sp.cells] at hj; match j, hj with | 0, _ => rfl | 1, _ => rfl | 2, _ => rfl | 3, _ => rfl | 4, _ => rfl | 5, _ => rfl)) (by have := cells_oneCell [s]; simpa using this) (by unfold maxLen; omega) (by omega) (by simp; omega) ?_; intro A8 c8 w8 hown8 hg8 _)
        have hs8 := HRA7.out.below ((Below.refl _ _).alloc (Nat.le_refl _) (.cells #[.int .i64 n1, .int .i64 n2, .int .i64 n3, .int .i64 n4, .int .i64 ((n4 : Int) + n5), .string ⟨tx.toArray⟩] 38)) HRA7.out.lt
        have hB8 := below_app (Below.refl (g + 1) _) (HO7.out.alloc _) hg8 (by simp; omega)
        have hW8 := below_app (b := w.heap.size) (HB7.out.alloc (by simp; exact hszy) _) (own_le (HO7.out.alloc _) (by omega)) hg8 (by simp; omega)
        have hcl : (acc ++ [s]).flatMap Sp.cells = acc.flatMap Sp.cells ++ s.cells := by simp
        have hln : (acc ++ [s]).length = acc.length + 1 := by simp
        go_roundw
        case rel =>
          refine ⟨k + 1, acc ++ [s], a6, 0, A8, c8, by omega, by go_num, by rw [hln], ?_, hs8.below hB8 (by omega), hW8, by rw [HSE.out]; exact HGS2.out, by rw [hln]; omega, ?_⟩
          · rw [hln, hcl]; exact hown8
          · intro x hx
            rcases List.mem_append.1 hx with hx | hx
            · exact HNM.out x hx
            · simp only [List.mem_cons, List.not_mem_nil, or_false] at hx
              rw [hx, HSE.out]
              simpa [ByteArray.size] using htl
        case measure => simp [intOf]; omega
    · have hll := HS0l.out
      have HGE := Lib.hid (GI_end HI.out hlt (by omega) (by omega))
      have hP : RdS wr wr.heap.size A' acc.length acc := Rd.of_own HO.out
      have HP := Lib.hid hP
      have HRB := Lib.hid (Rd.below' HR.out hb hB (Nat.le_refl _))
      have hB2 : B ≤ wr.heap.size := by omega
      clear hP
      go_wp2_with fail
      refine (refPut_any _ _ _ _ acc _ (Nat.le_refl _) (by omega) (fun s hs => by have := HNM.out s hs; omega) HP.out).mono ?_
      rintro e w3 ⟨A3, c3, rfl, hown3, hb3⟩
      have hb03 : Below w.heap.size w w3 := hb.trans (hb3.mono hsz)
      have hRb := Rd.below' HRB.out hb3 hB2 (Nat.le_refl _)
      cases hok : acc.all Sp.ok
      · rw [putAns_no hok]
        dsimp only
        have HE := Lib.hid (HGE.out.2 (fun h => by rw [hok] at h; cases h))
        clear hown3 hRb hok
        go_wp2_with fail
        go_ret2
        rw [HE.out]
        exact ⟨none, 0, rfl, World.ownsRow_nil _ _ _ _, hb03⟩
      · rw [putAns_ok hok] at hown3 ⊢
        dsimp only at hown3 ⊢
        have hR3 := RdB.of_own hown3
        have HOK := Lib.hid hok
        have HOW := Lib.hid (own_le (base' := w.heap.size) (own_below HO.out hb3) (by omega))
        have HGA := Lib.hid (HGE.out.1 hok)
        have HGB := Lib.hid HGE.out.2
        generalize putEnc acc = E at *
        have q1 := run_conv_bs (P := Tryz.prog) (w := w3) Tryz.underlying47 Tryz.underlying5 Tryz.underlying9 hR3 c3
        have q2 := run_conv_bs (P := Tryz.prog) (w := w3) Tryz.underlying47 Tryz.underlying5 Tryz.underlying9 hRb cap
        clear hR3 hRb hown3 hok
        by_cases hEq : E = l
        · have HE := Lib.hid (HGA.out hEq)
          subst hEq
          go_wp2_with fail
          go_ret2
          rw [HE.out]
          exact ⟨A', c, rfl, HOW.out, hb03⟩
        · have HE := Lib.hid (HGB.out (fun _ => hEq))
          have hne : (E == l) = false := by simpa using hEq
          have hne2 : (E != l) = true := by simpa using hEq
          clear hEq
          go_wp2_with fail
          go_ret2
          rw [HE.out]
          exact ⟨none, 0, rfl, World.ownsRow_nil _ _ _ _, hb03⟩
end Go.Proofs.YtdjcifeoplgkpaaGreat
