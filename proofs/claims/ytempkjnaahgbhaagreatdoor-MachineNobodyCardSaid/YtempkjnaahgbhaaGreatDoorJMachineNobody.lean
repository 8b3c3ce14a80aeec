/-
  The walk of machine.Put: a command as bytes. Conditions: a command whose slices read as lists, not more than memory bears.
  The plain side of commands: they are read as they were put, and bytes that are read are put again as they were. No condition.
  The walks of the machine laws' example: it answers true. Condition: the package variable errors.errorType lies as it is laid.
  The walks of a machine's methods at a machine that no call made, nil or the zero struct, and of the law MachineNobody: the Go text answers true. Condition: the package variable errors.errorType lies as it is laid.
  The package variable errors.errorType: what the rows' premise gives a walk; a world that meets it. No condition.
  Entries, commands, replies, calls and views that came in as arguments, opened to their parts. No condition: plain lemmas over the reading of data.
  One entry that came in as an argument, opened to its parts. No condition: plain lemmas over the reading of data.
  The law MachineNobody: whatever the input, the Go text answers true, and the input reads as it did; the one listed package variable is tied to the program's text. No other condition.
-/
import Derived.Test.YtempkjnaahgbhaaGreatDoorAudP
import Derived.Test.YtempkjnaahgbhaaGreatDoorMachB
import Derived.Test.YtempkjnaahgbhaaGreatDoorCodec
import Derived.Test.YtempkjnaahgbhaaGreatDoorSched
import Derived.Test.YtempkjnaahgbhaaGreatDoorMachY
import Derived.Test.YtempkjnaahgbhaaGreatDoorMachW
import Derived.Test.YtempkjnaahgbhaaGreatDoorRows
import Derived.RowKit
import Derived.RowKitTokens
import Derived.ChangeSame
import Derived.ChangeVars
import Derived.LaidLaws
import Derived.LaidHandle
import Derived.Stop.Joined
import Derived.Test.YtempkjnaahgbhaaGreatDoorOpen
import Derived.Test.YtempkjnaahgbhaaGreatDoorLookP
import Derived.Test.YtempkjnaahgbhaaGreatDoorCards
import Derived.Test.YtempkjnaahgbhaaGreatDoorTie
import Derived.Test.YtempkjnaahgbhaaGreatDoorClosedMachineNobody
import Derived.OpenShut
import Derived.SevenTiedAt
namespace Go.Proofs.YtempkjnaahgbhaaGreatDoor
open Go Go.RowKit

theorem encN_take (l : List Int) (k : Nat) (h : k < l.length) : encN (l.take (k + 1)) = encN (l.take k) ++ digits (l[k]).toNat := by
  unfold encN; rw [List.take_succ_eq_append_getElem h, List.flatMap_append]; simp
theorem number_int (A : Option Addr) (m cap B : Nat) (l : List UInt8) (z : Int) (w : World) (hB : B ≤ w.heap.size) (hbig : m ≤ 35184372088832) (h0 : 0 ≤ z) (h1 : z ≤ 9223372036854775807) (hr : RdB w B A m l) :
    Calls Tryz.prog 52 #[.slice A m cap, .int .i64 z] w (ResB w (l ++ digits z.toNat)) := by
  have h := number_nat A m cap B l z.toNat w hB hbig (by omega) hr
  rwa [Int.toNat_of_nonneg h0] at h
set_option maxRecDepth 100000 in
set_option maxHeartbeats 4000000 in
theorem mput2_any {w : World} (v : CmV) (B : Nat) (hB : B ≤ w.heap.size) (hok : v.c.ok = true) (hki : v.c.ki = 2) (hr : RdCm w B v) :
    Calls Tryz.prog 18 #[v.val] w (ResBE w (cmEnc v.c, 0)) := by
  obtain ⟨⟨ki, se, sq, at_, sp, vo⟩, As, ns, cs, Av, nv, cv⟩ := v
  dsimp only [CmV.val] at *
  subst hki
  obtain ⟨hfb, h8, hsp, hvo⟩ := Cm.ok_parts hok
  have hfb := (fieldsB_iff _).1 hfb
  dsimp only at hfb h8 hsp hvo
  have hlen : sp.length = ns := hr.sp.len
  have hvlen : vo.length = nv := hr.vo.len
  have HR := Lib.hid hr
  have HB0 := Lib.hid hB
  have HSP := Lib.hid hsp
  have hnum := hfb.2.1
  have hat0 := hfb.2.2.1
  have hat1 := hfb.2.2.2.1
  have HFB := Lib.hid hfb
  have HNM : Hid (∀ s ∈ sp, s.nm.size ≤ 140737488355328) := Lib.hid (fun s hs => by
    have := (Sp.ok_parts (List.all_eq_true.1 hsp s hs)).2.1
    omega)
  have hns8 : ns ≤ 8 := by omega
  clear hfb hsp
  generalize hW0 : w.alloc (.cells #[.int .i64 2, .int .i64 se, .int .i64 sq, .int .i64 at_, .slice As ns cs, .slice Av nv cv] 25 (0, 0)) = W0
  have hz0 : W0.heap.size = w.heap.size + 1 := by rw [← hW0]; simp
  have hb0 : Below w.heap.size w W0 := by rw [← hW0]; exact (Below.refl _ _).alloc (Nat.le_refl _) _
  have hc0 : W0.heap[w.heap.size]? = some (.cells #[.int .i64 2, .int .i64 se, .int .i64 sq, .int .i64 at_, .slice As ns cs, .slice Av nv cv] 25 (0, 0)) := by
    rw [← hW0]
    exact heap_alloc_new w _
  have hz0x : w.heap.size + 1 ≤ W0.heap.size := by omega
  have HX : Hid (∀ W, Below (w.heap.size + 1) W0 W → Below w.heap.size w W ∧ w.heap.size + 1 ≤ W.heap.size ∧ (∀ j, W.cell? ⟨w.heap.size, j, none⟩ = (#[.int .i64 2, .int .i64 se, .int .i64 sq, .int .i64 at_, .slice As ns cs, .slice Av nv cv] : Array Value)[j]?) ∧ RdCm W B ⟨⟨2, se, sq, at_, sp, vo⟩, As, ns, cs, Av, nv, cv⟩) := Lib.hid (fun W hW => by
    have hz := hW.size
    have hb1 : Below w.heap.size w W := hb0.trans (hW.mono (by omega))
    exact ⟨hb1, by omega, blk_cell ((hW.block _ (by omega)).trans hc0), hr.below hb1 hB⟩)
  have HCH : Hid (Calls Tryz.prog 21 #[.agg #[.int .i64 2, .int .i64 se, .int .i64 sq, .int .i64 at_, .slice As ns cs, .slice Av nv cv]] W0 fun e w' => e = .returned (.int .i64 0) ∧ Below W0.heap.size W0 w') := Lib.hid (by
    have h := mcheck_any ⟨⟨2, se, sq, at_, sp, vo⟩, As, ns, cs, Av, nv, cv⟩ B W0 (by omega) (by dsimp only; omega) (by dsimp only; have := HFB.out.2.2.2.2.2; omega) HNM.out (hr.below hb0 hB)
    unfold Cm.check at h
    rw [hok, if_pos rfl] at h
    exact h)
  have HBB : Hid (∀ W W', Below (w.heap.size + 1) W0 W → Below W.heap.size W W' → Below (w.heap.size + 1) W0 W') := Lib.hid (fun W W' h1 h2 => h1.trans (h2.mono (HX.out W h1).2.1))
  have fc0 := blk_cell hc0
  clear hr hB hok hb0 hc0 hz0
  go_enter Tryz.func18, Tryz.ntmps18
  go_wp2_with fail
  clear hW0 fc0
  refine HCH.out.mono ?_
  rintro e w1 ⟨rfl, hb1⟩
  have HB1 : Hid (Below (w.heap.size + 1) W0 w1) := Lib.hid (hb1.mono hz0x)
  have fc := (HX.out w1 HB1.out).2.2.1
  have hz1 := (HX.out w1 HB1.out).2.1
  clear hb1
  go_wp2_with fail
  refine (number_int none 0 0 0 [] 2 w1 (Nat.zero_le _) (by omega) (by omega) (by omega) Rd.nil).mono ?_
  rintro e w2 ⟨A2, c2, rfl, hown2, hb2⟩
  rw [List.nil_append] at hown2 ⊢
  have hl2 := (digits_len (n := Int.toNat 2) (by omega)).2
  have HB2 : Hid (Below (w.heap.size + 1) W0 w2) := Lib.hid (HBB.out _ _ HB1.out hb2)
  have HO2 : Hid (w2.ownsRow (w.heap.size + 1) 5 1 (.slice A2 (digits (Int.toNat 2)).length c2) (digits (Int.toNat 2)).length ((digits (Int.toNat 2)).map u8v)) := Lib.hid (own_le hown2 hz1)
  have hz2 := (HX.out w2 HB2.out).2.1
  clear hown2 hb2 fc
  have fc := (HX.out w2 HB2.out).2.2.1
  have HENC : Hid (cmEnc ⟨2, se, sq, at_, sp, vo⟩ = digits (Int.toNat 2) ++ (digits se.toNat ++ (digits sq.toNat ++ (digits (putEnc sp).length ++ putEnc sp)))) := Lib.hid (by
    unfold cmEnc
    dsimp only
    rw [if_pos rfl])
  generalize hd0 : digits (Int.toNat 2) = d0 at *
  clear hd0
  have hse : 1 ≤ se ∧ se ≤ 1099511627776 ∧ 1 ≤ sq ∧ sq ≤ 1099511627776 := by rcases hnum with h | h <;> omega
  clear hnum
  go_wp2_with fail
  refine wp_region_sched [(0, true), (1, true), (2, true), (4, true), (5, true), (3, false), (6, false), (7, true)] (fun W => Below (w.heap.size + 1) W0 W) (by kernel_rfl) (by kernel_rfl) rfl (by kernel_rfl) (HB2.out.drew) ?_
  repeat (first | (apply sched_take rfl; (focus (first | rfl | (go_simp; done))); (focus (intro W hW; have f1 := (HX.out W hW).2.2.1; go_simp; rfl)); (focus (intro K hK; go_simp; refine hK _ ?_; clear hK K))) | (apply sched_skip rfl; (focus (first | rfl | (go_simp; done))); (focus (intro K hK; go_simp; refine hK _ ?_; clear hK K))))
  apply sched_op rfl
  intro K hK
  go_simp
  go_wp2_with (fail)
  refine (number_int A2 d0.length c2 w2.heap.size d0 se w2.drew (Nat.le_refl _) (by omega) (by omega) (by omega) (Rd.drew (Rd.of_own HO2.out))).mono ?_
  rintro e w3 ⟨A3, c3, rfl, hown3, hb3⟩
  have hl3 := (digits_len (n := se.toNat) (by omega)).2
  have HB3 : Hid (Below (w.heap.size + 1) W0 w3) := Lib.hid (HBB.out _ _ HB2.out.drew hb3)
  have hz3 := (HX.out w3 HB3.out).2.1
  have HO3 := Lib.hid hown3
  have HL3 : Hid ((d0 ++ digits se.toNat).length ≤ 18) := Lib.hid (by rw [List.length_append]; omega)
  generalize hd1 : d0 ++ digits se.toNat = d1 at *
  have HD1 := Lib.hid hd1
  clear hown3 hb3 hd1
  go_wp2_with fail
  refine ⟨by exact HB3.out, ?_⟩
  repeat (first | (apply sched_take rfl; (focus (first | rfl | (go_simp; done))); (focus (intro W hW; have f1 := (HX.out W hW).2.2.1; go_simp; rfl)); (focus (intro K hK; go_simp; refine hK _ ?_; clear hK K))) | (apply sched_skip rfl; (focus (first | rfl | (go_simp; done))); (focus (intro K hK; go_simp; refine hK _ ?_; clear hK K))))
  apply sched_op rfl
  intro K hK
  go_simp
  go_wp2_with (fail)
  refine (number_int A3 d1.length c3 w3.heap.size d1 sq w3 (Nat.le_refl _) (by have := HL3.out; omega) (by omega) (by omega) (Rd.of_own HO3.out)).mono ?_
  rintro e w4 ⟨A4, c4, rfl, hown4, hb4⟩
  have hl4 := (digits_len (n := sq.toNat) (by omega)).2
  have HB4 : Hid (Below (w.heap.size + 1) W0 w4) := Lib.hid (HBB.out _ _ HB3.out hb4)
  have hz4 := (HX.out w4 HB4.out).2.1
  have HO4 := Lib.hid (own_le hown4 hz3)
  have HL4 : Hid ((d1 ++ digits sq.toNat).length ≤ 27) := Lib.hid (by have := HL3.out; rw [List.length_append]; omega)
  generalize hd2 : d1 ++ digits sq.toNat = d2 at *
  have HD2 := Lib.hid hd2
  clear hown4 hb4 hd2 fc
  go_wp2_with fail
  refine ⟨by exact HB4.out, ?_⟩
  repeat (first | (apply sched_take rfl; (focus (first | rfl | (go_simp; done))); (focus (intro W hW; have f1 := (HX.out W hW).2.2.1; go_simp; rfl)); (focus (intro K hK; go_simp; refine hK _ ?_; clear hK K))) | (apply sched_skip rfl; (focus (first | rfl | (go_simp; done))); (focus (intro K hK; go_simp; refine hK _ ?_; clear hK K))))
  refine sched_nil ?_
  have fc := (HX.out w4 HB4.out).2.2.1
  go_wp2_with fail
  refine (Put_any As ns cs B sp w4 (by have := HB0.out; omega) (by omega) HNM.out (HX.out w4 HB4.out).2.2.2.sp).mono ?_
  rintro e w5 ⟨A5, c5, rfl, hown5, hb5⟩
  rw [putAns_ok HSP.out] at hown5 ⊢
  dsimp only at hown5 ⊢
  have hpl : (putEnc sp).length ≤ 9 + 86 * 8 := by
    have h1 := encL_len sp (fun s hs => List.all_eq_true.1 HSP.out s hs)
    have h2 := (digits_len (n := sp.length) (by omega)).2
    have h3 : sp.length ≤ 8 := by omega
    unfold putEnc
    rw [List.length_append]
    omega
  have HB5 : Hid (Below (w.heap.size + 1) W0 w5) := Lib.hid (HBB.out _ _ HB4.out hb5)
  have hz5 := (HX.out w5 HB5.out).2.1
  have HO5 := Lib.hid hown5
  have HO45 := Lib.hid (own_below HO4.out hb5)
  have hcv := run_conv_bs (P := Tryz.prog) (w := w5) Tryz.underlying32 Tryz.underlying5 Tryz.underlying9 (RdB.of_own HO5.out) c5
  have htsz : (⟨(putEnc sp).toArray⟩ : ByteArray).size = (putEnc sp).length := by show (putEnc sp).toArray.size = _; simp
  have HTS := Lib.hid htsz
  clear hown5 hb5 fc htsz
  go_wp2_with fail
  clear hcv
  refine (text_any A4 d2.length c4 w5.heap.size d2 ⟨(putEnc sp).toArray⟩ w5 (Nat.le_refl _) (by have := HL4.out; omega) (by rw [HTS.out]; omega) (Rd.of_own HO45.out)).mono ?_
  rintro e w6 ⟨A6, c6, rfl, hown6, hb6⟩
  have he : d2 ++ digits (⟨(putEnc sp).toArray⟩ : ByteArray).size ++ (⟨(putEnc sp).toArray⟩ : ByteArray).data.toList = cmEnc ⟨2, se, sq, at_, sp, vo⟩ := by
    rw [HENC.out, HTS.out, ← HD2.out, ← HD1.out]
    simp
  rw [he] at hown6 ⊢
  have HB6 : Hid (Below (w.heap.size + 1) W0 w6) := Lib.hid (HBB.out _ _ HB5.out hb6)
  have HO6 := Lib.hid hown6
  clear hown6 hb6 he
  go_wp2_with fail
  go_ret2
  exact ⟨A6, c6, rfl, own_le HO6.out (by omega), (HX.out _ HB6.out).1⟩
set_option maxRecDepth 100000 in
set_option maxHeartbeats 4000000 in
theorem mput3_any {w : World} (v : CmV) (B : Nat) (hB : B ≤ w.heap.size) (hok : v.c.ok = true) (hki : v.c.ki = 3) (hr : RdCm w B v) :
    Calls Tryz.prog 18 #[v.val] w (ResBE w (cmEnc v.c, 0)) := by
  obtain ⟨⟨ki, se, sq, at_, sp, vo⟩, As, ns, cs, Av, nv, cv⟩ := v
  dsimp only [CmV.val] at *
  subst hki
  obtain ⟨hfb, h8, hsp, hvo⟩ := Cm.ok_parts hok
  have hfb := (fieldsB_iff _).1 hfb
  dsimp only at hfb h8 hsp hvo
  have hlen : sp.length = ns := hr.sp.len
  have hvlen : vo.length = nv := hr.vo.len
  have HR := Lib.hid hr
  have HB0 := Lib.hid hB
  have HSP := Lib.hid hsp
  have hnum := hfb.2.1
  have hat0 := hfb.2.2.1
  have hat1 := hfb.2.2.2.1
  have HFB := Lib.hid hfb
  have HNM : Hid (∀ s ∈ sp, s.nm.size ≤ 140737488355328) := Lib.hid (fun s hs => by
    have := (Sp.ok_parts (List.all_eq_true.1 hsp s hs)).2.1
    omega)
  have hns8 : ns ≤ 8 := by omega
  clear hfb hsp
  generalize hW0 : w.alloc (.cells #[.int .i64 3, .int .i64 se, .int .i64 sq, .int .i64 at_, .slice As ns cs, .slice Av nv cv] 25 (0, 0)) = W0
  have hz0 : W0.heap.size = w.heap.size + 1 := by rw [← hW0]; simp
  have hb0 : Below w.heap.size w W0 := by rw [← hW0]; exact (Below.refl _ _).alloc (Nat.le_refl _) _
  have hc0 : W0.heap[w.heap.size]? = some (.cells #[.int .i64 3, .int .i64 se, .int .i64 sq, .int .i64 at_, .slice As ns cs, .slice Av nv cv] 25 (0, 0)) := by
    rw [← hW0]
    exact heap_alloc_new w _
  have hz0x : w.heap.size + 1 ≤ W0.heap.size := by omega
  have HX : Hid (∀ W, Below (w.heap.size + 1) W0 W → Below w.heap.size w W ∧ w.heap.size + 1 ≤ W.heap.size ∧ (∀ j, W.cell? ⟨w.heap.size, j, none⟩ = (#[.int .i64 3, .int .i64 se, .int .i64 sq, .int .i64 at_, .slice As ns cs, .slice Av nv cv] : Array Value)[j]?) ∧ RdCm W B ⟨⟨3, se, sq, at_, sp, vo⟩, As, ns, cs, Av, nv, cv⟩) := Lib.hid (fun W hW => by
    have hz := hW.size
    have hb1 : Below w.heap.size w W := hb0.trans (hW.mono (by omega))
    exact ⟨hb1, by omega, blk_cell ((hW.block _ (by omega)).trans hc0), hr.below hb1 hB⟩)
  have HCH : Hid (Calls Tryz.prog 21 #[.agg #[.int .i64 3, .int .i64 se, .int .i64 sq, .int .i64 at_, .slice As ns cs, .slice Av nv cv]] W0 fun e w' => e = .returned (.int .i64 0) ∧ Below W0.heap.size W0 w') := Lib.hid (by
    have h := mcheck_any ⟨⟨3, se, sq, at_, sp, vo⟩, As, ns, cs, Av, nv, cv⟩ B W0 (by omega) (by dsimp only; omega) (by dsimp only; have := HFB.out.2.2.2.2.2; omega) HNM.out (hr.below hb0 hB)
    unfold Cm.check at h
    rw [hok, if_pos rfl] at h
    exact h)
  have HBB : Hid (∀ W W', Below (w.heap.size + 1) W0 W → Below W.heap.size W W' → Below (w.heap.size + 1) W0 W') := Lib.hid (fun W W' h1 h2 => h1.trans (h2.mono (HX.out W h1).2.1))
  have fc0 := blk_cell hc0
  clear hr hB hok hb0 hc0 hz0
  go_enter Tryz.func18, Tryz.ntmps18
  go_wp2_with fail
  clear hW0 fc0
  refine HCH.out.mono ?_
  rintro e w1 ⟨rfl, hb1⟩
  have HB1 : Hid (Below (w.heap.size + 1) W0 w1) := Lib.hid (hb1.mono hz0x)
  have fc := (HX.out w1 HB1.out).2.2.1
  have hz1 := (HX.out w1 HB1.out).2.1
  clear hb1
  go_wp2_with fail
  refine (number_int none 0 0 0 [] 3 w1 (Nat.zero_le _) (by omega) (by omega) (by omega) Rd.nil).mono ?_
  rintro e w2 ⟨A2, c2, rfl, hown2, hb2⟩
  rw [List.nil_append] at hown2 ⊢
  have hl2 := (digits_len (n := Int.toNat 3) (by omega)).2
  have HB2 : Hid (Below (w.heap.size + 1) W0 w2) := Lib.hid (HBB.out _ _ HB1.out hb2)
  have HO2 : Hid (w2.ownsRow (w.heap.size + 1) 5 1 (.slice A2 (digits (Int.toNat 3)).length c2) (digits (Int.toNat 3)).length ((digits (Int.toNat 3)).map u8v)) := Lib.hid (own_le hown2 hz1)
  have hz2 := (HX.out w2 HB2.out).2.1
  clear hown2 hb2 fc
  have fc := (HX.out w2 HB2.out).2.2.1
  have HENC : Hid (cmEnc ⟨3, se, sq, at_, sp, vo⟩ = digits (Int.toNat 3) ++ digits at_.toNat) := Lib.hid (by
    unfold cmEnc
    dsimp only
    rw [if_neg (by decide), if_pos (.inl rfl)])
  have hat2 : at_ ≤ 1099511627777 := Int.le_trans hat1 (by unfold atM; decide)
  generalize hd0 : digits (Int.toNat 3) = d0 at *
  clear hd0 hat1 hnum
  go_wp2_with fail
  refine (number_int A2 d0.length c2 w2.heap.size d0 at_ w2 (Nat.le_refl _) (by omega) (by omega) (by omega) (Rd.of_own HO2.out)).mono ?_
  rintro e w3 ⟨A3, c3, rfl, hown3, hb3⟩
  rw [← HENC.out] at hown3 ⊢
  have HB3 : Hid (Below (w.heap.size + 1) W0 w3) := Lib.hid (HBB.out _ _ HB2.out hb3)
  have HO3 := Lib.hid hown3
  clear hown3 hb3
  go_wp2_with fail
  go_ret2
  exact ⟨A3, c3, rfl, own_le HO3.out (by omega), (HX.out _ HB3.out).1⟩
set_option maxRecDepth 100000 in
set_option maxHeartbeats 4000000 in
theorem mput4_any {w : World} (v : CmV) (B : Nat) (hB : B ≤ w.heap.size) (hok : v.c.ok = true) (hki : v.c.ki = 4) (hr : RdCm w B v) :
    Calls Tryz.prog 18 #[v.val] w (ResBE w (cmEnc v.c, 0)) := by
  obtain ⟨⟨ki, se, sq, at_, sp, vo⟩, As, ns, cs, Av, nv, cv⟩ := v
  dsimp only [CmV.val] at *
  subst hki
  obtain ⟨hfb, h8, hsp, hvo⟩ := Cm.ok_parts hok
  have hfb := (fieldsB_iff _).1 hfb
  dsimp only at hfb h8 hsp hvo
  have hlen : sp.length = ns := hr.sp.len
  have hvlen : vo.length = nv := hr.vo.len
  have HR := Lib.hid hr
  have HB0 := Lib.hid hB
  have HSP := Lib.hid hsp
  have hnum := hfb.2.1
  have hat0 := hfb.2.2.1
  have hat1 := hfb.2.2.2.1
  have HFB := Lib.hid hfb
  have HNM : Hid (∀ s ∈ sp, s.nm.size ≤ 140737488355328) := Lib.hid (fun s hs => by
    have := (Sp.ok_parts (List.all_eq_true.1 hsp s hs)).2.1
    omega)
  have hns8 : ns ≤ 8 := by omega
  clear hfb hsp
  generalize hW0 : w.alloc (.cells #[.int .i64 4, .int .i64 se, .int .i64 sq, .int .i64 at_, .slice As ns cs, .slice Av nv cv] 25 (0, 0)) = W0
  have hz0 : W0.heap.size = w.heap.size + 1 := by rw [← hW0]; simp
  have hb0 : Below w.heap.size w W0 := by rw [← hW0]; exact (Below.refl _ _).alloc (Nat.le_refl _) _
  have hc0 : W0.heap[w.heap.size]? = some (.cells #[.int .i64 4, .int .i64 se, .int .i64 sq, .int .i64 at_, .slice As ns cs, .slice Av nv cv] 25 (0, 0)) := by
    rw [← hW0]
    exact heap_alloc_new w _
  have hz0x : w.heap.size + 1 ≤ W0.heap.size := by omega
  have HX : Hid (∀ W, Below (w.heap.size + 1) W0 W → Below w.heap.size w W ∧ w.heap.size + 1 ≤ W.heap.size ∧ (∀ j, W.cell? ⟨w.heap.size, j, none⟩ = (#[.int .i64 4, .int .i64 se, .int .i64 sq, .int .i64 at_, .slice As ns cs, .slice Av nv cv] : Array Value)[j]?) ∧ RdCm W B ⟨⟨4, se, sq, at_, sp, vo⟩, As, ns, cs, Av, nv, cv⟩) := Lib.hid (fun W hW => by
    have hz := hW.size
    have hb1 : Below w.heap.size w W := hb0.trans (hW.mono (by omega))
    exact ⟨hb1, by omega, blk_cell ((hW.block _ (by omega)).trans hc0), hr.below hb1 hB⟩)
  have HCH : Hid (Calls Tryz.prog 21 #[.agg #[.int .i64 4, .int .i64 se, .int .i64 sq, .int .i64 at_, .slice As ns cs, .slice Av nv cv]] W0 fun e w' => e = .returned (.int .i64 0) ∧ Below W0.heap.size W0 w') := Lib.hid (by
    have h := mcheck_any ⟨⟨4, se, sq, at_, sp, vo⟩, As, ns, cs, Av, nv, cv⟩ B W0 (by omega) (by dsimp only; omega) (by dsimp only; have := HFB.out.2.2.2.2.2; omega) HNM.out (hr.below hb0 hB)
    unfold Cm.check at h
    rw [hok, if_pos rfl] at h
    exact h)
  have HBB : Hid (∀ W W', Below (w.heap.size + 1) W0 W → Below W.heap.size W W' → Below (w.heap.size + 1) W0 W') := Lib.hid (fun W W' h1 h2 => h1.trans (h2.mono (HX.out W h1).2.1))
  have fc0 := blk_cell hc0
  clear hr hB hok hb0 hc0 hz0
  go_enter Tryz.func18, Tryz.ntmps18
  go_wp2_with fail
  clear hW0 fc0
  refine HCH.out.mono ?_
  rintro e w1 ⟨rfl, hb1⟩
  have HB1 : Hid (Below (w.heap.size + 1) W0 w1) := Lib.hid (hb1.mono hz0x)
  have fc := (HX.out w1 HB1.out).2.2.1
  have hz1 := (HX.out w1 HB1.out).2.1
  clear hb1
  go_wp2_with fail
  refine (number_int none 0 0 0 [] 4 w1 (Nat.zero_le _) (by omega) (by omega) (by omega) Rd.nil).mono ?_
  rintro e w2 ⟨A2, c2, rfl, hown2, hb2⟩
  rw [List.nil_append] at hown2 ⊢
  have hl2 := (digits_len (n := Int.toNat 4) (by omega)).2
  have HB2 : Hid (Below (w.heap.size + 1) W0 w2) := Lib.hid (HBB.out _ _ HB1.out hb2)
  have HO2 : Hid (w2.ownsRow (w.heap.size + 1) 5 1 (.slice A2 (digits (Int.toNat 4)).length c2) (digits (Int.toNat 4)).length ((digits (Int.toNat 4)).map u8v)) := Lib.hid (own_le hown2 hz1)
  have hz2 := (HX.out w2 HB2.out).2.1
  clear hown2 hb2 fc
  have fc := (HX.out w2 HB2.out).2.2.1
  have HENC : Hid (cmEnc ⟨4, se, sq, at_, sp, vo⟩ = digits (Int.toNat 4) ++ digits at_.toNat) := Lib.hid (by
    unfold cmEnc
    dsimp only
    rw [if_neg (by decide), if_pos (.inr rfl)])
  have hat2 : at_ ≤ 1099511627777 := Int.le_trans hat1 (by unfold atM; decide)
  generalize hd0 : digits (Int.toNat 4) = d0 at *
  clear hd0 hat1 hnum
  go_wp2_with fail
  refine (number_int A2 d0.length c2 w2.heap.size d0 at_ w2 (Nat.le_refl _) (by omega) (by omega) (by omega) (Rd.of_own HO2.out)).mono ?_
  rintro e w3 ⟨A3, c3, rfl, hown3, hb3⟩
  rw [← HENC.out] at hown3 ⊢
  have HB3 : Hid (Below (w.heap.size + 1) W0 w3) := Lib.hid (HBB.out _ _ HB2.out hb3)
  have HO3 := Lib.hid hown3
  clear hown3 hb3
  go_wp2_with fail
  go_ret2
  exact ⟨A3, c3, rfl, own_le HO3.out (by omega), (HX.out _ HB3.out).1⟩
set_option maxRecDepth 100000 in
set_option maxHeartbeats 4000000 in
theorem mput0_any {w : World} (v : CmV) (B : Nat) (hB : B ≤ w.heap.size) (hok : v.c.ok = true) (hki : v.c.ki = 0 ∨ v.c.ki = 1) (hr : RdCm w B v) :
    Calls Tryz.prog 18 #[v.val] w (ResBE w (cmEnc v.c, 0)) := by
  obtain ⟨⟨ki, se, sq, at_, sp, vo⟩, As, ns, cs, Av, nv, cv⟩ := v
  dsimp only [CmV.val] at *
  obtain ⟨hfb, h8, hsp, hvo⟩ := Cm.ok_parts hok
  have hfb := (fieldsB_iff _).1 hfb
  dsimp only at hfb h8 hsp hvo
  have hlen : sp.length = ns := hr.sp.len
  have hvlen : vo.length = nv := hr.vo.len
  have HR := Lib.hid hr
  have HB0 := Lib.hid hB
  have HSP := Lib.hid hsp
  have hnum := hfb.2.1
  have hat0 := hfb.2.2.1
  have hat1 := hfb.2.2.2.1
  have HFB := Lib.hid hfb
  have HNM : Hid (∀ s ∈ sp, s.nm.size ≤ 140737488355328) := Lib.hid (fun s hs => by
    have := (Sp.ok_parts (List.all_eq_true.1 hsp s hs)).2.1
    omega)
  have hns8 : ns ≤ 8 := by omega
  clear hfb hsp
  have hb2 : (ki == 2) = false := by simp; omega
  have hb3 : (ki == 3) = false := by simp; omega
  have hb4 : (ki == 4) = false := by simp; omega
  have hb5 : (ki == 5) = false := by simp; omega
  have hk01 : 0 ≤ ki ∧ ki ≤ 1 := by omega
  have HKI := Lib.hid hki
  clear hki
  generalize hW0 : w.alloc (.cells #[.int .i64 ki, .int .i64 se, .int .i64 sq, .int .i64 at_, .slice As ns cs, .slice Av nv cv] 25 (0, 0)) = W0
  have hz0 : W0.heap.size = w.heap.size + 1 := by rw [← hW0]; simp
  have hb0 : Below w.heap.size w W0 := by rw [← hW0]; exact (Below.refl _ _).alloc (Nat.le_refl _) _
  have hc0 : W0.heap[w.heap.size]? = some (.cells #[.int .i64 ki, .int .i64 se, .int .i64 sq, .int .i64 at_, .slice As ns cs, .slice Av nv cv] 25 (0, 0)) := by
    rw [← hW0]
    exact heap_alloc_new w _
  have hz0x : w.heap.size + 1 ≤ W0.heap.size := by omega
  have HX : Hid (∀ W, Below (w.heap.size + 1) W0 W → Below w.heap.size w W ∧ w.heap.size + 1 ≤ W.heap.size ∧ (∀ j, W.cell? ⟨w.heap.size, j, none⟩ = (#[.int .i64 ki, .int .i64 se, .int .i64 sq, .int .i64 at_, .slice As ns cs, .slice Av nv cv] : Array Value)[j]?) ∧ RdCm W B ⟨⟨ki, se, sq, at_, sp, vo⟩, As, ns, cs, Av, nv, cv⟩) := Lib.hid (fun W hW => by
    have hz := hW.size
    have hb1 : Below w.heap.size w W := hb0.trans (hW.mono (by omega))
    exact ⟨hb1, by omega, blk_cell ((hW.block _ (by omega)).trans hc0), hr.below hb1 hB⟩)
  have HCH : Hid (Calls Tryz.prog 21 #[.agg #[.int .i64 ki, .int .i64 se, .int .i64 sq, .int .i64 at_, .slice As ns cs, .slice Av nv cv]] W0 fun e w' => e = .returned (.int .i64 0) ∧ Below W0.heap.size W0 w') := Lib.hid (by
    have h := mcheck_any ⟨⟨ki, se, sq, at_, sp, vo⟩, As, ns, cs, Av, nv, cv⟩ B W0 (by omega) (by dsimp only; omega) (by dsimp only; have := HFB.out.2.2.2.2.2; have := HKI.out; omega) HNM.out (hr.below hb0 hB)
    unfold Cm.check at h
    rw [hok, if_pos rfl] at h
    exact h)
  have HBB : Hid (∀ W W', Below (w.heap.size + 1) W0 W → Below W.heap.size W W' → Below (w.heap.size + 1) W0 W') := Lib.hid (fun W W' h1 h2 => h1.trans (h2.mono (HX.out W h1).2.1))
  have fc0 := blk_cell hc0
  clear hr hB hok hb0 hc0 hz0
  go_enter Tryz.func18, Tryz.ntmps18
  go_wp2_with fail
  clear hW0 fc0
  refine HCH.out.mono ?_
  rintro e w1 ⟨rfl, hb1⟩
  have HB1 : Hid (Below (w.heap.size + 1) W0 w1) := Lib.hid (hb1.mono hz0x)
  have fc := (HX.out w1 HB1.out).2.2.1
  have hz1 := (HX.out w1 HB1.out).2.1
  clear hb1
  go_wp2_with fail
  refine (number_int none 0 0 0 [] ki w1 (Nat.zero_le _) (by omega) (by omega) (by omega) Rd.nil).mono ?_
  rintro e w2 ⟨A2, c2, rfl, hown2, hb2⟩
  rw [List.nil_append] at hown2 ⊢
  have hl2 := (digits_len (n := ki.toNat) (by omega)).2
  have HB2 : Hid (Below (w.heap.size + 1) W0 w2) := Lib.hid (HBB.out _ _ HB1.out hb2)
  have HO2 : Hid (w2.ownsRow (w.heap.size + 1) 5 1 (.slice A2 (digits (ki.toNat)).length c2) (digits (ki.toNat)).length ((digits (ki.toNat)).map u8v)) := Lib.hid (own_le hown2 hz1)
  have hz2 := (HX.out w2 HB2.out).2.1
  clear hown2 hb2 fc
  have fc := (HX.out w2 HB2.out).2.2.1
  have HENC : Hid (cmEnc ⟨ki, se, sq, at_, sp, vo⟩ = digits ki.toNat) := Lib.hid (by
    unfold cmEnc
    dsimp only
    rw [if_neg (by have := HKI.out; omega), if_neg (by have := HKI.out; omega), if_neg (by have := HKI.out; omega), List.append_nil])
  generalize hd0 : digits (ki.toNat) = d0 at *
  clear hd0
  go_wp2_with fail
  go_ret2
  rw [HENC.out]
  exact ⟨A2, c2, rfl, own_le HO2.out (by omega), (HX.out _ HB2.out).1⟩
set_option maxRecDepth 100000 in
set_option maxHeartbeats 4000000 in
theorem mput5_any {w : World} (v : CmV) (B : Nat) (hB : B ≤ w.heap.size) (hok : v.c.ok = true) (hki : v.c.ki = 5) (hr : RdCm w B v) :
    Calls Tryz.prog 18 #[v.val] w (ResBE w (cmEnc v.c, 0)) := by
  obtain ⟨⟨ki, se, sq, at_, sp, vo⟩, As, ns, cs, Av, nv, cv⟩ := v
  dsimp only [CmV.val] at *
  subst hki
  obtain ⟨hfb, h8, hsp, hvo⟩ := Cm.ok_parts hok
  have hfb := (fieldsB_iff _).1 hfb
  dsimp only at hfb h8 hsp hvo
  have hlen : sp.length = ns := hr.sp.len
  have hvlen : vo.length = nv := hr.vo.len
  have HR := Lib.hid hr
  have HB0 := Lib.hid hB
  have HSP := Lib.hid hsp
  have hnum := hfb.2.1
  have hat0 := hfb.2.2.1
  have hat1 := hfb.2.2.2.1
  have HFB := Lib.hid hfb
  have HNM : Hid (∀ s ∈ sp, s.nm.size ≤ 140737488355328) := Lib.hid (fun s hs => by
    have := (Sp.ok_parts (List.all_eq_true.1 hsp s hs)).2.1
    omega)
  have hns8 : ns ≤ 8 := by omega
  clear hfb hsp
  have HVO := Lib.hid (hvo rfl)
  have hvl := (okV_len HVO.out).2
  subst hvlen
  generalize hW0 : w.alloc (.cells #[.int .i64 5, .int .i64 se, .int .i64 sq, .int .i64 at_, .slice As ns cs, .slice Av vo.length cv] 25 (0, 0)) = W0
  have hz0 : W0.heap.size = w.heap.size + 1 := by rw [← hW0]; simp
  have hb0 : Below w.heap.size w W0 := by rw [← hW0]; exact (Below.refl _ _).alloc (Nat.le_refl _) _
  have hc0 : W0.heap[w.heap.size]? = some (.cells #[.int .i64 5, .int .i64 se, .int .i64 sq, .int .i64 at_, .slice As ns cs, .slice Av vo.length cv] 25 (0, 0)) := by
    rw [← hW0]
    exact heap_alloc_new w _
  have hz0x : w.heap.size + 1 ≤ W0.heap.size := by omega
  have HX : Hid (∀ W, Below (w.heap.size + 1) W0 W → Below w.heap.size w W ∧ w.heap.size + 1 ≤ W.heap.size ∧ (∀ j, W.cell? ⟨w.heap.size, j, none⟩ = (#[.int .i64 5, .int .i64 se, .int .i64 sq, .int .i64 at_, .slice As ns cs, .slice Av vo.length cv] : Array Value)[j]?) ∧ RdCm W B ⟨⟨5, se, sq, at_, sp, vo⟩, As, ns, cs, Av, vo.length, cv⟩) := Lib.hid (fun W hW => by
    have hz := hW.size
    have hb1 : Below w.heap.size w W := hb0.trans (hW.mono (by omega))
    exact ⟨hb1, by omega, blk_cell ((hW.block _ (by omega)).trans hc0), hr.below hb1 hB⟩)
  have HCH : Hid (Calls Tryz.prog 21 #[.agg #[.int .i64 5, .int .i64 se, .int .i64 sq, .int .i64 at_, .slice As ns cs, .slice Av vo.length cv]] W0 fun e w' => e = .returned (.int .i64 0) ∧ Below W0.heap.size W0 w') := Lib.hid (by
    have h := mcheck_any ⟨⟨5, se, sq, at_, sp, vo⟩, As, ns, cs, Av, vo.length, cv⟩ B W0 (by omega) (by dsimp only; omega) (by dsimp only; omega) HNM.out (hr.below hb0 hB)
    unfold Cm.check at h
    rw [hok, if_pos rfl] at h
    exact h)
  have HBB : Hid (∀ W W', Below (w.heap.size + 1) W0 W → Below W.heap.size W W' → Below (w.heap.size + 1) W0 W') := Lib.hid (fun W W' h1 h2 => h1.trans (h2.mono (HX.out W h1).2.1))
  have fc0 := blk_cell hc0
  clear hr hB hok hb0 hc0 hz0
  go_enter Tryz.func18, Tryz.ntmps18
  go_wp2_with fail
  clear hW0 fc0
  refine HCH.out.mono ?_
  rintro e w1 ⟨rfl, hb1⟩
  have HB1 : Hid (Below (w.heap.size + 1) W0 w1) := Lib.hid (hb1.mono hz0x)
  have fc := (HX.out w1 HB1.out).2.2.1
  have hz1 := (HX.out w1 HB1.out).2.1
  clear hb1
  go_wp2_with fail
  refine (number_int none 0 0 0 [] 5 w1 (Nat.zero_le _) (by omega) (by omega) (by omega) Rd.nil).mono ?_
  rintro e w2 ⟨A2, c2, rfl, hown2, hb2⟩
  rw [List.nil_append] at hown2 ⊢
  have hl2 := (digits_len (n := Int.toNat 5) (by omega)).2
  have HB2 : Hid (Below (w.heap.size + 1) W0 w2) := Lib.hid (HBB.out _ _ HB1.out hb2)
  have HO2 : Hid (w2.ownsRow (w.heap.size + 1) 5 1 (.slice A2 (digits (Int.toNat 5)).length c2) (digits (Int.toNat 5)).length ((digits (Int.toNat 5)).map u8v)) := Lib.hid (own_le hown2 hz1)
  have hz2 := (HX.out w2 HB2.out).2.1
  clear hown2 hb2 fc
  have fc := (HX.out w2 HB2.out).2.2.1
  have HENC : Hid (cmEnc ⟨5, se, sq, at_, sp, vo⟩ = digits (Int.toNat 5) ++ (digits vo.length ++ encN vo)) := Lib.hid (by
    unfold cmEnc
    dsimp only
    rw [if_neg (by decide), if_neg (by decide), if_pos rfl])
  generalize hd0 : digits (Int.toNat 5) = d0 at *
  clear hd0
  clear hat1 hnum
  go_wp2_with fail
  refine (number_int A2 d0.length c2 w2.heap.size d0 vo.length w2 (Nat.le_refl _) (by omega) (by omega) (by omega) (Rd.of_own HO2.out)).mono ?_
  rintro e w3 ⟨A3, c3, rfl, hown3, hb3⟩
  rw [Int.toNat_natCast] at hown3 ⊢
  have hl3 := (digits_len (n := vo.length) (by omega)).2
  have HB3 : Hid (Below (w.heap.size + 1) W0 w3) := Lib.hid (HBB.out _ _ HB2.out hb3)
  have hz3 := (HX.out w3 HB3.out).2.1
  have HO3 := Lib.hid (own_le hown3 hz2)
  have HL3 : Hid ((d0 ++ digits vo.length).length ≤ 18) := Lib.hid (by rw [List.length_append]; omega)
  have HE3 : Hid (cmEnc ⟨5, se, sq, at_, sp, vo⟩ = d0 ++ digits vo.length ++ encN vo) := Lib.hid (by rw [HENC.out, List.append_assoc])
  generalize d0 ++ digits vo.length = d1 at *
  clear hown3 hb3 fc
  have fc := (HX.out w3 HB3.out).2.2.1
  go_wp2_with fail
  go_loopw [5, 56] (fun v i wr => ∃ (k : Nat) (A : Option Addr) (c : Nat) (l : List UInt8), k ≤ vo.length ∧ i = .int .i64 k ∧ v = .slice A l.length c ∧ l = d1 ++ encN (vo.take k) ∧ l.length ≤ 18 + 9 * k ∧ wr.ownsRow (w.heap.size + 1) 5 1 (.slice A l.length c) l.length (l.map u8v) ∧ Below (w.heap.size + 1) W0 wr) (fun _ i _ => vo.length - (intOf i).toNat)
  case atStart => exact ⟨0, A3, c3, d1, by omega, rfl, rfl, by simp [encN], HL3.out, HO3.out, HB3.out⟩
  case round =>
    obtain ⟨k, A4, c4, l, hk, rfl, rfl, hl, hll, hown, hwr⟩ := hrel
    have HL := Lib.hid hl
    have HO := Lib.hid hown
    have HWR := Lib.hid hwr
    clear hl hown hwr fc
    by_cases hlt : k < vo.length
    · obtain ⟨vb, voff, rfl, _, hcell⟩ := (HX.out wr HWR.out).2.2.2.vo.at_ hlt
      have hx := okV_mem HVO.out (List.getElem_mem hlt)
      have HT := Lib.hid (encN_take vo k hlt)
      generalize vo[k] = x at *
      have hk1 : (k : Int) < vo.length := by omega
      go_wp2_with fail
      refine (number_int A4 l.length c4 wr.heap.size l x wr (Nat.le_refl _) (by omega) (by omega) (by omega) (Rd.of_own HO.out)).mono ?_
      rintro e w5 ⟨A5, c5, rfl, hown5, hb5⟩
      have hl5 := (digits_len (n := x.toNat) (by omega)).2
      have HB5 : Hid (Below (w.heap.size + 1) W0 w5) := Lib.hid (HBB.out _ _ HWR.out hb5)
      have HO5 := Lib.hid (own_le hown5 (HX.out wr HWR.out).2.1)
      clear hown5 hb5
      go_wp2_with fail
      go_roundw
      case rel => exact ⟨k + 1, A5, c5, l ++ digits x.toNat, by omega, by go_num, by rw [List.length_append], by rw [HT.out, HL.out, List.append_assoc], by rw [List.length_append]; omega, HO5.out, HB5.out⟩
      case measure => simp [intOf]; omega
    · have hke : k = vo.length := by omega
      obtain rfl : l = cmEnc ⟨5, se, sq, at_, sp, vo⟩ := by
        rw [HE3.out, HL.out, hke, List.take_length]
      have hk1 : ¬ (k : Int) < vo.length := by omega
      go_wp2_with fail
      go_ret2
      exact ⟨A4, c4, rfl, own_le HO.out (by omega), (HX.out _ HWR.out).1⟩
set_option maxRecDepth 100000 in
theorem mputNo_any {w : World} (v : CmV) (B : Nat) (hB : B ≤ w.heap.size) (hok : v.c.ok = false) (hns : v.ns ≤ 140737488355328) (hnv : v.nv ≤ 140737488355328) (hnm : ∀ s ∈ v.c.sp, s.nm.size ≤ 140737488355328) (hr : RdCm w B v) :
    Calls Tryz.prog 18 #[v.val] w (ResBE w ([], 90)) := by
  obtain ⟨⟨ki, se, sq, at_, sp, vo⟩, As, ns, cs, Av, nv, cv⟩ := v
  dsimp only [CmV.val] at *
  have HCH : Hid (∀ W, Below w.heap.size w W → Calls Tryz.prog 21 #[.agg #[.int .i64 ki, .int .i64 se, .int .i64 sq, .int .i64 at_, .slice As ns cs, .slice Av nv cv]] W fun e w' => e = .returned (.int .i64 90) ∧ Below W.heap.size W w') := Lib.hid (fun W hW => by
    have h := mcheck_any ⟨⟨ki, se, sq, at_, sp, vo⟩, As, ns, cs, Av, nv, cv⟩ B W (Nat.le_trans hB hW.size) hns hnv hnm (hr.below hW hB)
    unfold Cm.check at h
    rw [hok, if_neg Bool.false_ne_true] at h
    exact h)
  have HB : Hid (∀ o, Below w.heap.size w (w.alloc o)) := Lib.hid (fun o => (Below.refl _ _).alloc (Nat.le_refl _) o)
  clear hr hB hok hnm
  go_enter Tryz.func18, Tryz.ntmps18
  go_wp2_with fail
  refine (HCH.out _ (HB.out _)).mono ?_
  rintro e w1 ⟨rfl, hb1⟩
  have HB1 := Lib.hid ((HB.out (.cells #[.int .i64 ki, .int .i64 se, .int .i64 sq, .int .i64 at_, .slice As ns cs, .slice Av nv cv] 25 (0, 0))).trans (hb1.mono (by simp)))
  clear hb1
  go_wp2_with fail
  go_ret2
  exact ⟨none, 0, rfl, World.ownsRow_nil _ _ _ _, HB1.out⟩
/-- A command as bytes; 90: it may not be. -/
theorem mput_any {w : World} (v : CmV) (B : Nat) (hB : B ≤ w.heap.size) (hns : v.ns ≤ 140737488355328) (hnv : v.nv ≤ 140737488355328) (hnm : ∀ s ∈ v.c.sp, s.nm.size ≤ 140737488355328) (hr : RdCm w B v) :
    Calls Tryz.prog 18 #[v.val] w (ResBE w (mputAns v.c)) := by
  unfold mputAns
  cases hok : v.c.ok with
  | false => rw [if_neg Bool.false_ne_true]; exact mputNo_any v B hB hok hns hnv hnm hr
  | true =>
    rw [if_pos rfl]
    have hk := ((fieldsB_iff _).1 (Cm.ok_parts hok).1).1
    by_cases h2 : v.c.ki = 2
    · exact mput2_any v B hB hok h2 hr
    by_cases h3 : v.c.ki = 3
    · exact mput3_any v B hB hok h3 hr
    by_cases h4 : v.c.ki = 4
    · exact mput4_any v B hB hok h4 hr
    by_cases h5 : v.c.ki = 5
    · exact mput5_any v B hB hok h5 hr
    exact mput0_any v B hB hok (by omega) hr
end Go.Proofs.YtempkjnaahgbhaaGreatDoor
namespace Go.Proofs.YtempkjnaahgbhaaGreatDoor
open Go.RowKit

theorem scEnd_zero {l : List UInt8} {at_ : Nat} {err : Int} (h : scEnd l at_ err = 0) : err = 0 ∧ l.length ≤ at_ := by
  unfold scEnd at h
  by_cases h1 : err = 0 ∧ at_ < l.length
  · rw [if_pos h1] at h; cases h
  · rw [if_neg h1] at h; exact ⟨h, by omega⟩
theorem scEnd_all (l : List UInt8) : scEnd l l.length 0 = 0 := by unfold scEnd; rw [if_neg (by omega)]
theorem scText_decM {most : Nat} {l tx : List UInt8} {at_ k : Nat} {err : Int} (h : scText most l at_ err = (tx, k, 0)) : l.drop at_ = digits tx.length ++ tx ++ l.drop k ∧ k = at_ + (digits tx.length).length + tx.length := by
  rw [scText_eq] at h
  generalize hq : scNum l at_ err = q at h
  obtain ⟨m, k1, e1⟩ := q
  simp only at h
  by_cases h1 : e1 ≠ 0
  · rw [if_pos h1] at h; simp at h; exact absurd h.2.2 h1
  · rw [if_neg h1] at h
    obtain rfl : e1 = 0 := by omega
    by_cases h2 : most < m
    · rw [if_pos h2] at h; simp at h
    · rw [if_neg h2] at h
      by_cases h3 : l.length - k1 < m
      · rw [if_pos h3] at h; simp at h
      · rw [if_neg h3] at h
        simp only [Prod.mk.injEq, and_true] at h
        obtain ⟨rfl, rfl⟩ := h
        have hd := scNum_dec hq
        have hl : ((l.drop k1).take m).length = m := by rw [List.length_take, List.length_drop]; omega
        rw [hl, List.append_assoc, ← List.drop_drop, List.take_append_drop]
        exact ⟨hd.1, by omega⟩
theorem votL_enc (l r : List UInt8) : ∀ (vs acc : List Int) (at_ : Nat), (∀ v ∈ vs, 0 ≤ v ∧ v < 9223372036854775808) → l.drop at_ = encN vs ++ r →
    votL l vs.length acc at_ 0 = (acc ++ vs, at_ + (encN vs).length, 0) := by
  intro vs
  induction vs with
  | nil => intro acc at_ _ _; simp [votL, encN]
  | cons v vs ih =>
    intro acc at_ hv h
    have hv0 := hv v (by simp)
    have he : encN (v :: vs) = digits v.toNat ++ encN vs := by simp [encN]
    rw [he, List.append_assoc] at h
    have h1 := scNum_enc h (by omega)
    have h2 := drop_on h
    have e : ((v.toNat : Nat) : Int) = v := by omega
    rw [List.length_cons, votL, if_pos rfl, h1]
    dsimp only
    rw [ih (acc ++ [((v.toNat : Nat) : Int)]) _ (fun x hx => hv x (by simp [hx])) h2, he, e]
    simp only [List.append_assoc, List.cons_append, List.nil_append, List.length_append, Nat.add_assoc]
theorem votL_len (l : List UInt8) : ∀ (n : Nat) (acc : List Int) (at_ : Nat) (err : Int), (votL l n acc at_ err).2.2 = 0 → (votL l n acc at_ err).1.length = acc.length + n := by
  intro n
  induction n with
  | zero => intro acc at_ err _; rfl
  | succ n ih =>
    intro acc at_ err h
    rw [votL] at h ⊢
    by_cases h1 : err = 0
    · rw [if_pos h1] at h ⊢
      rw [ih _ _ _ h]
      simp only [List.length_append, List.length_cons, List.length_nil]; omega
    · rw [if_neg h1] at h; exact absurd h h1
theorem votL_err (l : List UInt8) : ∀ (n : Nat) (acc : List Int) (at_ : Nat) (err : Int), (votL l n acc at_ err).2.2 = 0 → err = 0 := by
  intro n
  induction n with
  | zero => intro acc at_ err h; exact h
  | succ n _ =>
    intro acc at_ err h
    rw [votL] at h
    by_cases h1 : err = 0
    · exact h1
    · rw [if_neg h1] at h; exact h
theorem votL_dec (l : List UInt8) : ∀ (n : Nat) (acc : List Int) (at_ : Nat) (err : Int), (votL l n acc at_ err).2.2 = 0 →
    ∃ vs, (votL l n acc at_ err).1 = acc ++ vs ∧ l.drop at_ = encN vs ++ l.drop (votL l n acc at_ err).2.1 := by
  intro n
  induction n with
  | zero => intro acc at_ err _; exact ⟨[], by simp [votL], by simp [votL, encN]⟩
  | succ n ih =>
    intro acc at_ err h
    have he := votL_err l _ _ _ _ h
    subst he
    rw [votL, if_pos rfl] at h ⊢
    obtain ⟨vs, h1, h2⟩ := ih _ _ _ h
    have he2 := votL_err l _ _ _ _ h
    have hd := scNum_dec (show scNum l at_ 0 = ((scNum l at_ 0).1, (scNum l at_ 0).2.1, 0) from Prod.ext rfl (Prod.ext rfl he2))
    refine ⟨((scNum l at_ 0).1 : Int) :: vs, by rw [h1]; simp, ?_⟩
    rw [hd.1, h2]
    simp [encN]

/-- Commands are read as they were put. -/
theorem cm_back {c : Cm} (h : c.ok = true) : cmGet (cmEnc c) = some c := by
  obtain ⟨hf, hs8, hsp, hvo⟩ := Cm.ok_parts h
  have hf' := (fieldsB_iff c).1 hf
  obtain ⟨⟨hk0, hk5⟩, hn, ha0, ha1, hks, hkv⟩ := hf'
  have fin : ∀ l : List UInt8, cmEnc c = l → cmRead l = (c, l.length, 0) → cmGet (cmEnc c) = some c := fun l e hr => by
    rw [e]
    unfold cmGet cmFin
    rw [hr, if_pos ⟨scEnd_all l, h⟩]
  obtain ⟨ki, se, sq, at_, sp, vo⟩ := c
  dsimp only at *
  have hsp0 : ki ≠ 2 → sp = [] := fun hk => List.length_eq_zero_iff.1 (by
    have : ¬ 0 < sp.length := fun hh => hk (hks.2 hh)
    omega)
  have hvo0 : ki ≠ 5 → vo = [] := fun hk => List.length_eq_zero_iff.1 (by
    have : ¬ 0 < vo.length := fun hh => hk (hkv.2 hh)
    omega)
  by_cases h2 : ki = 2
  · subst h2
    obtain rfl : vo = [] := hvo0 (by omega)
    obtain rfl : at_ = 0 := by
      have : atM 2 = 0 := rfl
      omega
    obtain ⟨hse0, hse1, hsq0, hsq1⟩ : 1 ≤ se ∧ se ≤ 1099511627776 ∧ 1 ≤ sq ∧ sq ≤ 1099511627776 := by
      rcases hn with hn | hn
      · exact hn.2
      · exact absurd rfl hn.1
    refine fin _ rfl ?_
    have hpl : (putEnc sp).length ≤ 4096 := by
      have h1 := encL_len sp (List.all_eq_true.1 hsp)
      have h2 := (digits_len (n := sp.length) (by omega)).2
      rw [putEnc, List.length_append]; omega
    have hl : (cmEnc ⟨2, se, sq, 0, sp, []⟩).drop 0 = digits 2 ++ (digits se.toNat ++ (digits sq.toNat ++ (digits (putEnc sp).length ++ putEnc sp ++ []))) := by simp [cmEnc]
    generalize cmEnc ⟨2, se, sq, 0, sp, []⟩ = l at *
    have q0 := scNum_enc hl (by omega)
    have l1 := drop_on hl
    have q1 := scNum_enc l1 (by omega)
    have l2 := drop_on l1
    have q2 := scNum_enc l2 (by omega)
    have l3 := drop_on l2
    have q3 := scText_encM l3 hpl (by omega)
    have hlen : l.length = (digits 2).length + ((digits se.toNat).length + ((digits sq.toNat).length + ((digits (putEnc sp).length).length + (putEnc sp).length))) := by
      have := congrArg List.length hl
      simpa using this
    have hgp := get_put sp hsp (by omega)
    unfold cmRead
    rw [q0]
    dsimp only
    rw [if_pos rfl]
    unfold cmRd2
    rw [q1]
    dsimp only
    rw [q2]
    dsimp only
    rw [q3]
    dsimp only
    rw [hgp]
    dsimp only
    have e1 : ((se.toNat : Nat) : Int) = se := by omega
    have e2 : ((sq.toNat : Nat) : Int) = sq := by omega
    rw [e1, e2, hlen]
    simp only [Prod.mk.injEq, true_and, and_true]
    omega
  obtain rfl : sp = [] := hsp0 h2
  obtain ⟨rfl, rfl⟩ : se = 0 ∧ sq = 0 := by
    rcases hn with hn | hn
    · exact absurd hn.1 h2
    · exact hn.2
  by_cases h5 : ki = 5
  · subst h5
    obtain rfl : at_ = 0 := by
      have : atM 5 = 0 := rfl
      omega
    have hok := hvo rfl
    have hvl := okV_len hok
    refine fin _ rfl ?_
    have hl : (cmEnc ⟨5, 0, 0, 0, [], vo⟩).drop 0 = digits 5 ++ (digits vo.length ++ (encN vo ++ [])) := by simp [cmEnc]
    generalize cmEnc ⟨5, 0, 0, 0, [], vo⟩ = l at *
    have q0 := scNum_enc hl (by omega)
    have l1 := drop_on hl
    have q1 := scNum_enc l1 (by omega)
    have l2 := drop_on l1
    have q2 := votL_enc l [] vo [] _ (fun v hv => by have := okV_mem hok hv; omega) l2
    have hlen : l.length = (digits 5).length + ((digits vo.length).length + (encN vo).length) := by
      have := congrArg List.length hl
      simpa using this
    unfold cmRead
    rw [q0]
    dsimp only
    rw [if_neg (by omega), if_neg (by omega), if_neg (by omega), if_pos rfl, q1]
    dsimp only
    rw [q2]
    dsimp only
    rw [hlen]
    simp only [Prod.mk.injEq, List.nil_append, true_and, and_true]
    omega
  obtain rfl : vo = [] := hvo0 h5
  by_cases h34 : ki = 3 ∨ ki = 4
  · have hat : at_ < 9223372036854775808 := by
      have : atM ki ≤ 1099511627777 := by unfold atM; rcases h34 with rfl | rfl <;> simp
      omega
    have e1 : ((at_.toNat : Nat) : Int) = at_ := by omega
    refine fin _ rfl ?_
    have hl : (cmEnc ⟨ki, 0, 0, at_, [], []⟩).drop 0 = digits ki.toNat ++ (digits at_.toNat ++ []) := by
      rcases h34 with rfl | rfl <;> simp [cmEnc]
    generalize cmEnc ⟨ki, 0, 0, at_, [], []⟩ = l at *
    have q0 := scNum_enc hl (by omega)
    have l1 := drop_on hl
    have q1 := scNum_enc l1 (by omega)
    have hlen : l.length = (digits ki.toNat).length + (digits at_.toNat).length := by
      have := congrArg List.length hl
      simpa using this
    unfold cmRead
    rw [q0]
    dsimp only
    rw [q1]
    dsimp only
    rcases h34 with rfl | rfl
    · rw [if_neg (by omega), if_pos (show Int.toNat 3 = 3 from rfl), e1, hlen]
      simp only [Prod.mk.injEq, true_and, and_true]
      omega
    · rw [if_neg (by omega), if_neg (by omega), if_pos (show Int.toNat 4 = 4 from rfl), e1, hlen]
      simp only [Prod.mk.injEq, true_and, and_true]
      omega
  · obtain rfl : at_ = 0 := by
      have : atM ki = 0 := by unfold atM; rw [if_neg (by omega), if_neg (by omega)]
      omega
    refine fin _ rfl ?_
    have hl : (cmEnc ⟨ki, 0, 0, 0, [], []⟩).drop 0 = digits ki.toNat ++ [] := by
      unfold cmEnc
      dsimp only
      rw [if_neg h2, if_neg h34, if_neg h5, List.drop_zero]
    generalize cmEnc ⟨ki, 0, 0, 0, [], []⟩ = l at *
    have q0 := scNum_enc hl (by omega)
    have hlen : l.length = (digits ki.toNat).length := by
      have := congrArg List.length hl
      simpa using this
    have e1 : ((ki.toNat : Nat) : Int) = ki := by omega
    unfold cmRead
    rw [q0]
    dsimp only
    rw [if_neg (by omega), if_neg (by omega), if_neg (by omega), if_neg (by omega), e1, hlen]
    simp only [Prod.mk.injEq, true_and, and_true]
    omega
/-- Bytes that are read are put again as they were. -/
theorem cm_form {l : List UInt8} {c : Cm} (h : cmGet l = some c) : cmEnc c = l := by
  have hok := cmGet_ok h
  unfold cmGet cmFin at h
  by_cases h1 : scEnd l (cmRead l).2.1 (cmRead l).2.2 = 0 ∧ (cmRead l).1.ok = true
  case neg => rw [if_neg h1] at h; cases h
  rw [if_pos h1] at h
  have hc := Option.some.inj h
  obtain ⟨he, _⟩ := h1
  obtain ⟨hz, hle⟩ := scEnd_zero he
  clear h
  have hend : l.drop (cmRead l).2.1 = [] := List.drop_eq_nil_of_le hle
  obtain ⟨hf, hs8, hsp, hvo⟩ := Cm.ok_parts hok
  have hf' := (fieldsB_iff c).1 hf
  unfold cmRead at hc hz hend
  generalize hq0 : scNum l 0 0 = q0 at *
  obtain ⟨m0, a0, e0⟩ := q0
  dsimp only at hc hz hend
  have tl : ∀ (x : Nat), ((x : Nat) : Int).toNat = x := fun x => Int.toNat_natCast x
  by_cases h2 : m0 = 2
  · subst h2
    rw [if_pos rfl] at hc hz hend
    unfold cmRd2 at hc hz hend
    dsimp only at hc hz hend
    generalize hq3 : scText 4096 l (scNum l (scNum l a0 e0).2.1 (scNum l a0 e0).2.2).2.1 (scNum l (scNum l a0 e0).2.1 (scNum l a0 e0).2.2).2.2 = q3 at *
    obtain ⟨tx, a3, e3⟩ := q3
    dsimp only at hc hz hend
    subst hz
    have d3 := scText_decM hq3
    have z2 := (scText_err (by rw [hq3])).1
    generalize hq1 : scNum l a0 e0 = q1 at *
    obtain ⟨m1, a1, e1⟩ := q1
    dsimp only at *
    generalize hq2 : scNum l a1 e1 = q2 at *
    obtain ⟨m2, a2, e2⟩ := q2
    dsimp only at *
    obtain rfl : e2 = 0 := (scNum_err z2).1
    have d2 := scNum_dec hq2
    obtain rfl : e1 = 0 := (scNum_err (by rw [hq2])).1
    have d1 := scNum_dec hq1
    obtain rfl : e0 = 0 := (scNum_err (by rw [hq1])).1
    have d0 := scNum_dec hq0
    subst hc
    dsimp only at *
    have hpe : putEnc (getAns tx).1 = tx := by
      rcases put_get tx with ⟨sps, h3, _, h5⟩ | h3
      · rw [h3]; exact h5
      · exfalso
        rw [h3] at hf'
        have := hf'.2.2.2.2.1.1 rfl
        simp at this
    unfold cmEnc
    dsimp only
    rw [if_pos rfl, tl, tl, hpe]
    rw [List.drop_zero, d1.1, d2.1, d3.1, hend] at d0
    rw [d0.1]
    simp
  have hm2 : ¬ (m0 : Int) = 2 := by omega
  rw [if_neg h2] at hc hz hend
  by_cases h3 : m0 = 3
  · subst h3
    rw [if_pos rfl] at hc hz hend
    generalize hq1 : scNum l a0 e0 = q1 at *
    obtain ⟨m1, a1, e1⟩ := q1
    dsimp only at *
    subst hz
    have d1 := scNum_dec hq1
    obtain rfl : e0 = 0 := (scNum_err (by rw [hq1])).1
    have d0 := scNum_dec hq0
    subst hc
    unfold cmEnc
    dsimp only
    rw [if_neg (by omega), if_pos (.inl rfl), tl]
    rw [List.drop_zero, d1.1, hend] at d0
    rw [d0.1]
    simp
  rw [if_neg h3] at hc hz hend
  by_cases h4 : m0 = 4
  · subst h4
    rw [if_pos rfl] at hc hz hend
    generalize hq1 : scNum l a0 e0 = q1 at *
    obtain ⟨m1, a1, e1⟩ := q1
    dsimp only at *
    subst hz
    have d1 := scNum_dec hq1
    obtain rfl : e0 = 0 := (scNum_err (by rw [hq1])).1
    have d0 := scNum_dec hq0
    subst hc
    unfold cmEnc
    dsimp only
    rw [if_neg (by omega), if_pos (.inr rfl), tl]
    rw [List.drop_zero, d1.1, hend] at d0
    rw [d0.1]
    simp
  rw [if_neg h4] at hc hz hend
  by_cases h5 : m0 = 5
  · subst h5
    rw [if_pos rfl] at hc hz hend
    generalize hq1 : scNum l a0 e0 = q1 at *
    obtain ⟨m1, a1, e1⟩ := q1
    dsimp only at *
    obtain rfl : e1 = 0 := votL_err l _ _ _ _ hz
    have d1 := scNum_dec hq1
    obtain rfl : e0 = 0 := (scNum_err (by rw [hq1])).1
    have d0 := scNum_dec hq0
    obtain ⟨vs, v1, v2⟩ := votL_dec l _ _ _ _ hz
    have v3 := votL_len l _ _ _ _ hz
    rw [List.nil_append] at v1
    rw [v1] at hc v3
    rw [List.length_nil, Nat.zero_add] at v3
    subst hc
    unfold cmEnc
    dsimp only
    rw [if_neg (by omega), if_neg (by omega), if_pos rfl, v3]
    rw [List.drop_zero, d1.1, v2, hend] at d0
    rw [d0.1]
    simp
  · rw [if_neg h5] at hc hz hend
    dsimp only at hc hz hend
    subst hz
    have d0 := scNum_dec hq0
    subst hc
    unfold cmEnc
    dsimp only
    rw [if_neg (by omega), if_neg (by omega), if_neg (by omega), tl]
    rw [List.drop_zero, hend] at d0
    rw [d0.1]
end Go.Proofs.YtempkjnaahgbhaaGreatDoor
namespace Go.Proofs.YtempkjnaahgbhaaGreatDoor
open Go Go.RowKit Go.Maps

def one9 : Sp := ⟨1, 2, 0, 0, 7, ⟨#[97]⟩⟩
def k9 : Nat → Cm
  | 0 => ⟨1, 0, 0, 0, [], []⟩
  | 1 => ⟨2, 1, 1, 0, [one9], []⟩
  | 2 => ⟨2, 1, 1, 0, [one9], []⟩
  | 3 => ⟨3, 0, 0, 3, [], []⟩
  | _ => ⟨2, 1, 2, 0, [one9], []⟩
def r9 : Nat → Rp
  | 0 => ⟨0, 1, 0, 0, 0, 0, 0, 0⟩
  | 1 => ⟨0, 0, 0, 1, 0, 0, 0, 0⟩
  | 2 => ⟨0, 0, 0, 1, 0, 0, 0, 0⟩
  | 3 => ⟨0, 0, 1, 0, 0, 0, 0, 0⟩
  | _ => ⟨80, 0, 0, 0, 0, 0, 0, 0⟩
def m9 : Nat → Ma
  | 0 => Ma.new [0, 1, 2]
  | 1 => ⟨[], [⟨1, 0, 1, Rp.zero⟩], 1, 1, [0, 1, 2]⟩
  | 2 => ⟨[⟨1, [one9]⟩], [⟨1, 1, 2, ⟨0, 0, 0, 1, 0, 0, 0, 0⟩⟩], 2, 1, [0, 1, 2]⟩
  | 3 => ⟨[⟨1, [one9]⟩], [⟨1, 1, 2, ⟨0, 0, 0, 1, 0, 0, 0, 0⟩⟩], 3, 1, [0, 1, 2]⟩
  | 4 => ⟨[⟨1, [one9]⟩], [], 4, 1, [0, 1, 2]⟩
  | _ => ⟨[⟨1, [one9]⟩], [], 5, 1, [0, 1, 2]⟩
def rs9 (k : Nat) : List Rp := (List.range k).map r9
theorem rs9_succ (k : Nat) : rs9 (k + 1) = rs9 k ++ [r9 k] := by unfold rs9; rw [List.range_succ, List.map_append]; rfl
theorem ok9_0 : (k9 0).ok = true := by kernel_rfl
theorem ok9_1 : (k9 1).ok = true := by kernel_rfl
theorem ok9_2 : (k9 2).ok = true := by kernel_rfl
theorem ok9_3 : (k9 3).ok = true := by kernel_rfl
theorem ok9_4 : (k9 4).ok = true := by kernel_rfl
theorem ok9 (k : Nat) (h : k < 5) : (k9 k).ok = true := by
  match k, h with
  | 0, _ => exact ok9_0
  | 1, _ => exact ok9_1
  | 2, _ => exact ok9_2
  | 3, _ => exact ok9_3
  | 4, _ => exact ok9_4
theorem do9_0 : doM { m9 0 with ix := (0 : Int) + 1, te := 1 } (k9 0) = (m9 1, r9 0, none) := by kernel_rfl
theorem step9_0 : applyM (m9 0) ⟨(0 : Int) + 1, 1, cmEnc (k9 0)⟩ = (m9 1, r9 0, 0) := by
  rw [applyM_some (by unfold badE m9 Ma.new; decide) (cm_back ok9_0)]
  show ((doM { m9 0 with ix := (0 : Int) + 1, te := 1 } (k9 0)).1, _, _) = _
  dsimp only
  rw [do9_0]
theorem do9_1 : doM { m9 1 with ix := (1 : Int) + 1, te := 1 } (k9 1) = (m9 2, r9 1, none) := by kernel_rfl
theorem step9_1 : applyM (m9 1) ⟨(1 : Int) + 1, 1, cmEnc (k9 1)⟩ = (m9 2, r9 1, 0) := by
  rw [applyM_some (by unfold badE m9; decide) (cm_back ok9_1)]
  show ((doM { m9 1 with ix := (1 : Int) + 1, te := 1 } (k9 1)).1, _, _) = _
  dsimp only
  rw [do9_1]
theorem do9_2 : doM { m9 2 with ix := (2 : Int) + 1, te := 1 } (k9 2) = (m9 3, r9 2, none) := by kernel_rfl
theorem step9_2 : applyM (m9 2) ⟨(2 : Int) + 1, 1, cmEnc (k9 2)⟩ = (m9 3, r9 2, 0) := by
  rw [applyM_some (by unfold badE m9; decide) (cm_back ok9_2)]
  show ((doM { m9 2 with ix := (2 : Int) + 1, te := 1 } (k9 2)).1, _, _) = _
  dsimp only
  rw [do9_2]
theorem do9_3 : doM { m9 3 with ix := (3 : Int) + 1, te := 1 } (k9 3) = (m9 4, r9 3, none) := by kernel_rfl
theorem step9_3 : applyM (m9 3) ⟨(3 : Int) + 1, 1, cmEnc (k9 3)⟩ = (m9 4, r9 3, 0) := by
  rw [applyM_some (by unfold badE m9; decide) (cm_back ok9_3)]
  show ((doM { m9 3 with ix := (3 : Int) + 1, te := 1 } (k9 3)).1, _, _) = _
  dsimp only
  rw [do9_3]
theorem do9_4 : doM { m9 4 with ix := (4 : Int) + 1, te := 1 } (k9 4) = (m9 5, Rp.zero, some 80) := by kernel_rfl
theorem step9_4 : applyM (m9 4) ⟨(4 : Int) + 1, 1, cmEnc (k9 4)⟩ = (m9 5, r9 4, 0) := by
  rw [applyM_some (by unfold badE m9; decide) (cm_back ok9_4)]
  show ((doM { m9 4 with ix := (4 : Int) + 1, te := 1 } (k9 4)).1, _, _) = _
  dsimp only
  rw [do9_4]
  rfl
theorem step9 (k : Nat) (h : k < 5) : applyM (m9 k) ⟨(k : Int) + 1, 1, cmEnc (k9 k)⟩ = (m9 (k + 1), r9 k, 0) := by
  match k, h with
  | 0, _ => exact step9_0
  | 1, _ => exact step9_1
  | 2, _ => exact step9_2
  | 3, _ => exact step9_3
  | 4, _ => exact step9_4
theorem len9_0 : Nat.ble (cmEnc (k9 0)).length 1000 = true := by kernel_rfl
theorem len9_1 : Nat.ble (cmEnc (k9 1)).length 1000 = true := by kernel_rfl
theorem len9_2 : Nat.ble (cmEnc (k9 2)).length 1000 = true := by kernel_rfl
theorem len9_3 : Nat.ble (cmEnc (k9 3)).length 1000 = true := by kernel_rfl
theorem len9_4 : Nat.ble (cmEnc (k9 4)).length 1000 = true := by kernel_rfl
theorem len9 (k : Nat) (h : k < 5) : (cmEnc (k9 k)).length ≤ 1000 := by
  match k, h with
  | 0, _ => exact Nat.le_of_ble_eq_true len9_0
  | 1, _ => exact Nat.le_of_ble_eq_true len9_1
  | 2, _ => exact Nat.le_of_ble_eq_true len9_2
  | 3, _ => exact Nat.le_of_ble_eq_true len9_3
  | 4, _ => exact Nat.le_of_ble_eq_true len9_4
def cmCells (v : CmV) : List Value := [.int .i64 v.c.ki, .int .i64 v.c.se, .int .i64 v.c.sq, .int .i64 v.c.at_, .slice v.As v.ns v.cs, .slice v.Av v.nv v.cv]
theorem cmCells_len (v : CmV) : (cmCells v).length = 6 := rfl
set_option maxRecDepth 100000 in
theorem one9_any (w : World) : Calls Tryz.prog 51 #[] w fun e w' => e = .returned (.agg #[.int .i64 1, .int .i64 2, .int .i64 0, .int .i64 0, .int .i64 7, .string ⟨#[97]⟩]) ∧ Below w.heap.size w w' := by
  go_enter Tryz.func51, Tryz.ntmps51
  go_wp2_with fail
  refine bodyPost_ret (v := .agg #[.int .i64 1, .int .i64 2, .int .i64 0, .int .i64 0, .int .i64 7, .string ⟨#[97]⟩]) (by simp [results, Tryz.results51, go_sem]) rfl ⟨rfl, ?_⟩
  exact (Below.refl _ _).alloc (Nat.le_refl _) _
def ResBeg (w : World) (e : Ending) (w' : World) : Prop :=
  ∃ b, e = .returned (.tuple #[.pointer (some ⟨b, 0, none⟩), .bool true]) ∧ MaAt w' b (fun k => w.heap.size ≤ k ∧ k < w'.heap.size) (Ma.new [0, 1, 2]) ∧ Below w.heap.size w w'
set_option maxRecDepth 100000 in
theorem begun_any (w : World) : Calls Tryz.prog 28 #[] w (ResBeg w) := by
  have HN : Hid (Calls Tryz.prog 42 #[.slice (some ⟨w.heap.size, 0, none⟩) 3 3] (w.alloc (.cells #[.int .i64 0, .int .i64 1, .int .i64 2] 3 (0, 0))) (ResNew (w.alloc (.cells #[.int .i64 0, .int .i64 1, .int .i64 2] 3 (0, 0))) [0, 1, 2])) := Lib.hid (mnew_any (some ⟨w.heap.size, 0, none⟩) 3 3 (w.heap.size + 1) [0, 1, 2] _ (by simp) (by omega) (Rd.new (H := w.heap.size) rfl rfl (by
    intro j hj
    simp only [List.map_cons, List.map_nil, List.length_cons, List.length_nil] at hj
    match j, hj with
    | 0, _ => rfl
    | 1, _ => rfl
    | 2, _ => rfl)))
  go_enter Tryz.func28, Tryz.ntmps28
  go_wp2_with fail
  refine HN.out.mono ?_
  rintro e w1 (⟨_, b, rfl, hma, hb1⟩ | ⟨hok, _, _⟩)
  · have HMA := Lib.hid hma
    have HB1 := Lib.hid hb1
    clear hma hb1
    go_wp2_with fail
    go_ret2
    have hz := HB1.out.size
    simp only [World.size_alloc] at hz
    exact ⟨b, rfl, HMA.out.mono (fun k hk => by simp only [World.size_alloc] at hk; exact ⟨by omega, hk.2⟩) (fun k hk => hk.2), ((Below.refl _ _).alloc (Nat.le_refl _) _).trans (HB1.out.mono (by simp))⟩
  · exact absurd hok (by decide)
set_option maxRecDepth 100000 in
theorem mtraces_any {w : World} {b : Nat} {S : Nat → Prop} {M : Ma} (h : MaAt w b S M) :
    Calls Tryz.prog 39 #[.pointer (some ⟨b, 0, none⟩)] w (ResNs w (trcT M.T)) := by
  have HM := Lib.hid h
  obtain ⟨s, sm, t, tm, vb, c, SS, h⟩ := h
  have hc := blk_cell h.hp
  have HT := Lib.hid (traces_any h.st)
  clear h
  go_enter Tryz.func39, Tryz.ntmps39
  go_wp2_with fail
  refine (mmade_any HM.out).mono ?_
  rintro e w1 ⟨rfl, rfl⟩
  go_wp2_with fail
  refine HT.out.mono ?_
  rintro e w1 ⟨A, c1, rfl, hown, hb⟩
  go_wp2_with fail
  go_ret
  exact ⟨A, c1, rfl, hown, hb⟩
/-- The example under way. -/
structure AwIn (W0 wr : World) (S0 : Nat → Prop) (b : Nat) (S : Nat → Prop) (M : Ma) (A : Option Addr) (c : Nat) (rs : List Rp) : Prop where
  ma : MaAt wr b S M
  lo : ∀ j, S j → S0 j ∨ W0.heap.size ≤ j
  fr : Fr S0 W0 wr
  own : wr.ownsRow W0.heap.size 56 8 (.slice A rs.length c) rs.length (rs.flatMap Rp.cells)
  na : ∀ g, A.map (·.block) = some g → ¬ S g
theorem ownBk {A : Option Addr} {n c : Nat} : Value.ownBlock (.slice A n c) = A.map (·.block) := by cases A <;> rfl
theorem AwIn.step {W0 wr w2 w3 w5 : World} {S0 S : Nat → Prop} {b c3 c5 : Nat} {M M2 : Ma} {A3 A5 : Option Addr} {rs : List Rp} {rp : Rp} {o1 o2 : Obj} (h : AwIn W0 wr S0 b S M A3 c3 rs) (hb2 : Below wr.heap.size wr w2) (hma : MaAt w3 b (fun k => S k ∨ (w2.heap.size ≤ k ∧ k < w3.heap.size)) M2) (hfr : Fr S w2 w3)
    (hown : w5.ownsRow W0.heap.size 56 8 (.slice A5 (rs.length + 1) c5) (rs.length + 1) (rs.flatMap Rp.cells ++ rp.cells)) (hg : ((w3.alloc o1).alloc o2).grownBy w5 (A3.map (·.block))) (hl : A5.map (·.block) = A3.map (·.block) ∨ A5.map (·.block) = some ((w3.alloc o1).alloc o2).heap.size) :
    AwIn W0 w5 S0 b (fun k => S k ∨ (w2.heap.size ≤ k ∧ k < w3.heap.size)) M2 A5 c5 (rs ++ [rp]) := by
  have hz0 := h.fr.size
  have hz2 := hb2.size
  have hz3 := hfr.size
  have hB4 : Below w3.heap.size w3 ((w3.alloc o1).alloc o2) := ((Below.refl _ _).alloc (Nat.le_refl _) _).alloc (by simp) _
  have hs4 : ((w3.alloc o1).alloc o2).heap.size = w3.heap.size + 2 := by simp
  have hf5 : Fr (fun k => A3.map (·.block) = some k) ((w3.alloc o1).alloc o2) w5 := Fr.of_grown hg (fun k hk => hk)
  have hA3 : ∀ g, A3.map (·.block) = some g → W0.heap.size ≤ g ∧ g < wr.heap.size := fun g hg => h.own.lt g (by rw [ownBk]; exact hg)
  refine ⟨(hma.below hB4 (Nat.le_refl _)).fr hf5 (fun k hk e => ?_), fun j hj => ?_, ?_, ?_, fun g hg9 => ?_⟩
  · rcases hk with hk | hk
    · exact h.na k e hk
    · have := hA3 k e; omega
  · rcases hj with hj | hj
    · exact h.lo j hj
    · exact .inr (by omega)
  · exact (((h.fr.trans (Fr.of_below hb2)).step hfr (fun j hj => h.lo j hj)).trans (Fr.of_below hB4)).step hf5 (fun j hj => .inr (hA3 j hj).1)
  · rw [List.length_append, List.flatMap_append]
    simpa using hown
  · rcases hl with hl | hl
    · rw [hl] at hg9
      rintro (hk | hk)
      · exact h.na g hg9 hk
      · have := hA3 g hg9; omega
    · rw [hl, hs4] at hg9
      have hg9 : w3.heap.size + 2 = g := Option.some.inj hg9
      rintro (hk | hk)
      · have := hma.lt g (.inl hk); omega
      · omega
theorem rp_one9 (r : Rp) : ∀ u ∈ r.cells, u.oneCell' = true := by
  intro u hu
  simp only [Rp.cells, List.mem_cons, List.not_mem_nil, or_false] at hu
  rcases hu with rfl | rfl | rfl | rfl | rfl | rfl | rfl | rfl <;> rfl
theorem Rd.oneP {w : World} {H : Nat} (hH : w.heap.size = H) (r : Rp) (t : TypeId) (fr : Nat × Nat) : Rd (w.alloc (.cells #[.int .i64 r.er, .int .i64 r.ss, .int .i64 r.gn, .int .i64 r.ad, .int .i64 r.sa, .int .i64 r.ot, .int .i64 r.cy, .int .i64 r.fu] t fr)) (H + 1) 8 (some ⟨H, 0, none⟩) 1 r.cells :=
  Rd.new hH rfl (by
    intro j hj
    simp only [Rp.cells, List.length_cons, List.length_nil] at hj
    match j, hj with
    | 0, _ => rfl
    | 1, _ => rfl
    | 2, _ => rfl
    | 3, _ => rfl
    | 4, _ => rfl
    | 5, _ => rfl
    | 6, _ => rfl
    | 7, _ => rfl)
theorem Tryz.infoReply9 : (Tryz.prog.info? 56).map (fun i => (i.zero, i.size, i.bytes)) = some (some (.agg #[.int .i64 0, .int .i64 0, .int .i64 0, .int .i64 0, .int .i64 0, .int .i64 0, .int .i64 0, .int .i64 0]), 8, 64) := by kernel_rfl
theorem span_one9 {w : World} {H : Nat} (hH : w.heap.size = H) : RdS (w.alloc (.cells #[.int .i64 1, .int .i64 2, .int .i64 0, .int .i64 0, .int .i64 7, .string ⟨#[97]⟩] 30 (0, 0))) (H + 1) (some ⟨H, 0, none⟩) 1 [one9] := Rd.new hH rfl (by
  intro j hj
  simp only [List.flatMap_cons, List.flatMap_nil, List.append_nil, Sp.cells_len] at hj
  match j, hj with
  | 0, _ => rfl
  | 1, _ => rfl
  | 2, _ => rfl
  | 3, _ => rfl
  | 4, _ => rfl
  | 5, _ => rfl)
set_option maxRecDepth 100000 in
set_option maxHeartbeats 3000000 in
theorem awake9_any (w : World) (hg : ErrT w) : Calls Tryz.prog 15 #[] w fun e w' => e = .returned (.bool true) ∧ Below w.heap.size w w' := by
  have hw0 : 0 < w.heap.size := by
    unfold ErrT at hg
    exact Nat.lt_of_le_of_lt (Nat.zero_le _) (lt_of_cell hg)
  have HG := Lib.hid hg
  clear hg
  obtain ⟨i0, hi0, hz0, hz1, hz2⟩ := info_parts Tryz.infoReply9
  go_enter Tryz.func15, Tryz.ntmps15
  go_wp2_with fail
  refine (begun_any _).mono ?_
  rintro e w1 ⟨b, rfl, hma1, hb1⟩
  have HMA1 := Lib.hid hma1
  have HB1 := Lib.hid hb1
  clear hma1 hb1
  go_wp2_with fail
  refine (one9_any _).mono ?_
  rintro e wa ⟨rfl, hba⟩
  have HBA : Hid (Below w1.heap.size w1 wa) := Lib.hid hba
  have hza := hba.size
  clear hba
  go_wp2_with fail
  refine (one9_any _).mono ?_
  rintro e wb ⟨rfl, hbb⟩
  have hzb := hbb.size
  simp only [World.size_alloc] at hzb
  have HSA : Hid (RdS wb (wa.heap.size + 1) (some ⟨wa.heap.size, 0, none⟩) 1 [one9]) := Lib.hid (Rd.below' (span_one9 (w := wa) rfl) hbb (by simp) (Nat.le_refl _))
  have HBB : Hid (Below w1.heap.size w1 wb) := Lib.hid (HBA.out.trans ((((Below.refl wa.heap.size wa).alloc (Nat.le_refl _) _).trans (hbb.mono (by simp))).mono hza))
  clear hbb
  go_wp2_with fail
  refine (one9_any _).mono ?_
  rintro e wc ⟨rfl, hbc⟩
  have hzc := hbc.size
  simp only [World.size_alloc] at hzc
  have HSA2 : Hid (RdS wc (wa.heap.size + 1) (some ⟨wa.heap.size, 0, none⟩) 1 [one9]) := Lib.hid (Rd.below' (Rd.alloc HSA.out _ hzb (Nat.le_refl _)) hbc (by simp; omega) (Nat.le_refl _))
  have HSB : Hid (RdS wc (wb.heap.size + 1) (some ⟨wb.heap.size, 0, none⟩) 1 [one9]) := Lib.hid (Rd.below' (span_one9 (w := wb) rfl) hbc (by simp) (Nat.le_refl _))
  have HBC : Hid (Below w1.heap.size w1 wc) := Lib.hid (HBB.out.trans ((((Below.refl wb.heap.size wb).alloc (Nat.le_refl _) _).trans (hbc.mono (by simp))).mono (by omega)))
  clear hbc
  go_upto_region 6 with fail
  have hW0 : ∃ W0, W0 = (wc.alloc (.cells #[.int .i64 1, .int .i64 2, .int .i64 0, .int .i64 0, .int .i64 7, .string ⟨#[97]⟩] 30 (0, 0))).alloc (.cells #[.int .i64 1, .int .i64 0, .int .i64 0, .int .i64 0, .slice none 0 0, .slice none 0 0, .int .i64 2, .int .i64 1, .int .i64 1, .int .i64 0, .slice (some ⟨wa.heap.size, 0, none⟩) 1 1, .slice none 0 0, .int .i64 2, .int .i64 1, .int .i64 1, .int .i64 0, .slice (some ⟨wb.heap.size, 0, none⟩) 1 1, .slice none 0 0, .int .i64 3, .int .i64 0, .int .i64 0, .int .i64 3, .slice none 0 0, .slice none 0 0, .int .i64 2, .int .i64 1, .int .i64 2, .int .i64 0, .slice (some ⟨wc.heap.size, 0, none⟩) 1 1, .slice none 0 0] 25 (0, 0)) := ⟨_, rfl⟩
  obtain ⟨W0, hW0⟩ := hW0
  have hzW : W0.heap.size = wc.heap.size + 2 := by rw [hW0]; simp
  have hbW : Below w1.heap.size w1 W0 := by rw [hW0]; exact (HBC.out.alloc (by omega) _).alloc (by simp; omega) _
  have HCM : Hid (∃ vs : List CmV, vs.length = 5 ∧ Rd W0 W0.heap.size 6 (some ⟨wc.heap.size + 1, 0, none⟩) 5 (vs.flatMap cmCells) ∧ ∀ k, (h : k < vs.length) → RdCm W0 W0.heap.size vs[k] ∧ (vs[k]).c = k9 k ∧ (vs[k]).ns ≤ 1 ∧ (vs[k]).nv = 0 ∧ (∀ g, (vs[k]).As.map (·.block) = some g → w1.heap.size ≤ g)) := Lib.hid (by
    have hs1 : RdS W0 W0.heap.size (some ⟨wa.heap.size, 0, none⟩) 1 [one9] := by
      rw [hW0]
      exact Rd.more (Rd.alloc (Rd.alloc HSA2.out _ (by omega) (Nat.le_refl _)) _ (by simp; omega) (Nat.le_refl _)) (by simp; omega)
    have hs2 : RdS W0 W0.heap.size (some ⟨wb.heap.size, 0, none⟩) 1 [one9] := by
      rw [hW0]
      exact Rd.more (Rd.alloc (Rd.alloc HSB.out _ (by omega) (Nat.le_refl _)) _ (by simp; omega) (Nat.le_refl _)) (by simp; omega)
    have hs3 : RdS W0 W0.heap.size (some ⟨wc.heap.size, 0, none⟩) 1 [one9] := by
      rw [hW0]
      exact Rd.more (Rd.alloc (span_one9 (w := wc) rfl) _ (by simp) (Nat.le_refl _)) (by simp)
    refine ⟨[⟨k9 0, none, 0, 0, none, 0, 0⟩, ⟨k9 1, some ⟨wa.heap.size, 0, none⟩, 1, 1, none, 0, 0⟩, ⟨k9 2, some ⟨wb.heap.size, 0, none⟩, 1, 1, none, 0, 0⟩, ⟨k9 3, none, 0, 0, none, 0, 0⟩, ⟨k9 4, some ⟨wc.heap.size, 0, none⟩, 1, 1, none, 0, 0⟩], rfl, ?_, fun k h => ?_⟩
    · rw [hW0]
      refine Rd.more (Rd.new (H := wc.heap.size + 1) (by simp) rfl (by
        intro j hj
        simp only [List.flatMap_cons, List.flatMap_nil, List.append_nil, List.length_append, cmCells_len] at hj
        match j, hj with
        | 0, _ => rfl
        | 1, _ => rfl
        | 2, _ => rfl
        | 3, _ => rfl
        | 4, _ => rfl
        | 5, _ => rfl
        | 6, _ => rfl
        | 7, _ => rfl
        | 8, _ => rfl
        | 9, _ => rfl
        | 10, _ => rfl
        | 11, _ => rfl
        | 12, _ => rfl
        | 13, _ => rfl
        | 14, _ => rfl
        | 15, _ => rfl
        | 16, _ => rfl
        | 17, _ => rfl
        | 18, _ => rfl
        | 19, _ => rfl
        | 20, _ => rfl
        | 21, _ => rfl
        | 22, _ => rfl
        | 23, _ => rfl
        | 24, _ => rfl
        | 25, _ => rfl
        | 26, _ => rfl
        | 27, _ => rfl
        | 28, _ => rfl
        | 29, _ => rfl
        | n + 30, h => exact absurd h (by omega))) (by simp)
    · match k, h with
      | 0, _ => exact ⟨⟨Rd.nil, Rd.nil⟩, rfl, Nat.zero_le _, rfl, fun g hg => by cases hg⟩
      | 1, _ => exact ⟨⟨hs1, Rd.nil⟩, rfl, Nat.le_refl _, rfl, fun g hg => by cases hg; exact hza⟩
      | 2, _ => exact ⟨⟨hs2, Rd.nil⟩, rfl, Nat.le_refl _, rfl, fun g hg => by cases hg; show w1.heap.size ≤ wb.heap.size; omega⟩
      | 3, _ => exact ⟨⟨Rd.nil, Rd.nil⟩, rfl, Nat.zero_le _, rfl, fun g hg => by cases hg⟩
      | 4, _ => exact ⟨⟨hs3, Rd.nil⟩, rfl, Nat.le_refl _, rfl, fun g hg => by cases hg; show w1.heap.size ≤ wc.heap.size; omega⟩)
  rw [← hW0]
  have HBW : Hid (Below w.heap.size w W0) := Lib.hid (HB1.out.trans (hbW.mono HB1.out.size))
  have hz1w := HB1.out.size
  have hcb : w1.heap.size ≤ wc.heap.size + 1 := by omega
  have HIN : Hid (AwIn W0 W0 (fun k => w.heap.size ≤ k ∧ k < w1.heap.size) b (fun k => w.heap.size ≤ k ∧ k < w1.heap.size) (m9 0) none 0 (rs9 0)) := Lib.hid ⟨HMA1.out.below hbW (Nat.le_refl _), fun j hj => .inl hj, Fr.refl _ _, World.ownsRow_nil _ _ _ _, fun g hg => by cases hg⟩
  clear hW0 hzW hbW
  obtain ⟨vs, hvl, hvr, hvk⟩ := HCM.out
  have HVR := Lib.hid hvr
  have HVK := Lib.hid hvk
  have HVL := Lib.hid hvl
  clear HCM hvr hvk hvl
  go_wp2_with fail
  go_loopw [3, 29] (fun o i wr => ∃ (k : Nat) (S : Nat → Prop) (A3 : Option Addr) (c3 : Nat), k ≤ 5 ∧ i = .int .i64 k ∧ o = .slice A3 k c3 ∧ (rs9 k).length = k ∧ AwIn W0 wr (fun k => w.heap.size ≤ k ∧ k < w1.heap.size) b S (m9 k) A3 c3 (rs9 k)) (fun _ i _ => 5 - (intOf i).toNat)
  case atStart => exact ⟨0, _, none, 0, by omega, rfl, rfl, rfl, HIN.out⟩
  case round =>
    obtain ⟨k, S, A3, c3, hk, rfl, rfl, hrl, hin⟩ := hrel
    have HI := Lib.hid hin
    have HRL := Lib.hid hrl
    have hfrz := hin.fr.size
    have hbr : Below w.heap.size w wr := HBW.out.trans (hin.fr.below HBW.out.size (fun j hj => hj.1))
    have HBR := Lib.hid hbr
    have hzr := hbr.size
    have hS0 : ¬ S 0 := fun h => by
      rcases hin.lo 0 h with h | h
      · omega
      · have := HBW.out.size; omega
    clear hin hrl hbr
    by_cases hlt : k < 5
    · have hk1 : (k : Int) < 5 := by omega
      have hkv : k < vs.length := by rw [HVL.out]; exact hlt
      obtain ⟨eb, off, hA, heb, hcell⟩ := Rd.elem cmCells_len HVR.out (k := k) hlt hkv
      cases hA
      obtain ⟨hrc, hck, hns, hnv, hAs⟩ := HVK.out k hkv
      have hkeep : ∀ g, w1.heap.size ≤ g → g < W0.heap.size → wr.heap[g]? = W0.heap[g]? := fun g h1 h2 => HI.out.fr.block g h2 (fun hs => by omega)
      have HX : Hid (∀ j, j < 6 → wr.cell? ⟨wc.heap.size + 1, 0 + k * 6 + j, none⟩ = (cmCells vs[k])[j]?) := Lib.hid (fun j hj => by
        rw [← hcell j hj]
        simp only [World.cell?, hkeep (wc.heap.size + 1) hcb heb])
      have HCMR : Hid (RdCm wr W0.heap.size vs[k]) := Lib.hid ⟨Fr.rdA hrc.sp HI.out.fr (Nat.le_refl _) (fun g hg hs => by have := hAs g hg; omega), Fr.rdN hrc.vo HI.out.fr (Nat.le_refl _) (fun h => by omega)⟩
      have hnm : ∀ s ∈ (vs[k]).c.sp, s.nm.size ≤ 140737488355328 := by
        rw [hck]
        match k, hlt with
        | 0, _ => intro s hs; cases hs
        | 1, _ => intro s hs; obtain rfl := List.mem_singleton.1 hs; decide
        | 2, _ => intro s hs; obtain rfl := List.mem_singleton.1 hs; decide
        | 3, _ => intro s hs; cases hs
        | 4, _ => intro s hs; obtain rfl := List.mem_singleton.1 hs; decide
      have HNM := Lib.hid hnm
      have HCK := Lib.hid hck
      have HST := Lib.hid (step9 k hlt)
      have HOK9 := Lib.hid (ok9 k hlt)
      clear hcell hrc hck hkeep hAs hnm
      generalize vs[k] = v at *
      have x0 := HX.out 0 (by omega)
      have x1 := HX.out 1 (by omega)
      have x2 := HX.out 2 (by omega)
      have x3 := HX.out 3 (by omega)
      have x4 := HX.out 4 (by omega)
      have x5 := HX.out 5 (by omega)
      have HPUT : Hid (∀ W, Below wr.heap.size wr W → Calls Tryz.prog 18 #[v.val] W (ResBE W (cmEnc (k9 k), 0))) := Lib.hid (fun W hW => by
        have hz := hW.size
        have h := mput_any (w := W) v W0.heap.size (by omega) (by omega) (by omega) HNM.out (HCMR.out.below hW (by omega))
        rw [HCK.out] at h
        unfold mputAns at h
        rw [if_pos HOK9.out] at h
        exact h)
      obtain ⟨⟨ki, se, sq, at_, sp, vo⟩, As, ns, ccs, Av, nv, cv⟩ := v
      dsimp only [cmCells, CmV.val] at *
      simp only [List.getElem?_cons_zero, List.getElem?_cons_succ, Nat.zero_add, Nat.add_zero] at x0 x1 x2 x3 x4 x5
      clear HX HCMR HNM HCK
      obtain rfl : nv = 0 := hnv
      go_wp2_with fail
      clear x0 x1 x2 x3 x4 x5
      have HBX : Hid (Below wr.heap.size wr (wr.alloc (.cells #[.int .i64 ki, .int .i64 se, .int .i64 sq, .int .i64 at_, .slice As ns ccs, .slice Av 0 cv] 25 (0, 0)))) := Lib.hid ((Below.refl _ _).alloc (Nat.le_refl _) _)
      refine (HPUT.out _ HBX.out).mono ?_
      rintro e w2 ⟨A6, c6, rfl, hown6, hb2⟩
      dsimp only at hown6 ⊢
      have HB2 : Hid (Below wr.heap.size wr w2) := Lib.hid (HBX.out.trans (hb2.mono (by simp)))
      have hz2' := HB2.out.size
      have HRB : Hid (RdB w2 w2.heap.size A6 (cmEnc (k9 k)).length (cmEnc (k9 k))) := Lib.hid (Rd.of_own hown6)
      have HA6 : Hid (∀ g, A6.map (·.block) = some g → wr.heap.size ≤ g) := Lib.hid (fun g hg => by
        have := (hown6.lt g (by rw [ownBk]; exact hg)).1
        simp at this
        omega)
      have hel : (cmEnc (k9 k)).length ≤ 4294967296 := Nat.le_trans (len9 k hlt) (by omega)
      have HAPP : Hid (Calls Tryz.prog 34 #[.pointer (some ⟨b, 0, none⟩), .agg #[.int .i64 ((k : Int) + 1), .int .i64 1, .slice A6 (cmEnc (k9 k)).length c6]] w2 (ResApp w2 b S (m9 (k + 1), r9 k, 0))) := Lib.hid (by
        have h := mapply_any (HI.out.ma.below HB2.out (Nat.le_refl _)) hS0 (HG.out.below (HBR.out.trans (HB2.out.mono hzr)) (Nat.le_refl _)) ⟨(k : Int) + 1, 1, A6, (cmEnc (k9 k)).length, c6, cmEnc (k9 k)⟩ w2.heap.size (Nat.le_refl _) hel HRB.out (fun _ g hg hs => by
          have h1 := HA6.out g hg
          have h2 := HI.out.ma.lt g hs
          omega)
        have e : EnV.en ⟨(k : Int) + 1, 1, A6, (cmEnc (k9 k)).length, c6, cmEnc (k9 k)⟩ = ⟨(k : Int) + 1, 1, cmEnc (k9 k)⟩ := rfl
        rw [e, HST.out] at h
        exact h)
      clear hown6 hb2 hel
      generalize (cmEnc (k9 k)).length = el at *
      go_wp2_with fail
      refine HAPP.out.mono ?_
      rintro e w3 ⟨rfl, hma3, hfr3⟩
      dsimp only at hma3 ⊢
      have HMA3 := Lib.hid hma3
      have HF3 := Lib.hid hfr3
      have HBR3 : Hid (Below w.heap.size w w3) := Lib.hid ((HBR.out.trans (HB2.out.mono hzr)).trans (hfr3.below (by omega) (fun j hj => by
        rcases HI.out.lo j hj with h | h
        · exact h.1
        · have := HBW.out.size; omega)))
      have hz3 := hfr3.size
      have HO3 := Lib.hid (own_fr' (own_below HI.out.own HB2.out) hfr3 (fun j hj hs => HI.out.na j (by rw [← hj, ownBk]) hs))
      have hrk : (rs9 k).length = k := HRL.out
      clear hma3 hfr3
      have HRS : Hid (rs9 (k + 1) = rs9 k ++ [r9 k]) := Lib.hid (rs9_succ k)
      rw [hrk] at HO3
      generalize hrp : r9 k = rp at *
      clear hrp
      go_wp2_with (at_builtin; refine wpList_app _ rfl (.tmp 54) (.tmp 56) _ rfl W0.heap.size 56 i0 _ 8 64 Tryz.underlying103 hi0 hz0 hz1 hz2 rfl (by omega) _ _ _ _ rfl ((HO3.out.alloc _).alloc _) (w3.heap.size + 2) _ 1 _ _ rfl (Rd.oneP (by simp) rp _ _) (rp_one9 rp) (by unfold maxLen; omega) (by omega) (by simp <;> omega) ?_; intro A5 c5 w5 hown5 hg5 hl5)
      have HSTP : Hid (AwIn W0 w5 (fun k => w.heap.size ≤ k ∧ k < w1.heap.size) b (fun j => S j ∨ (w2.heap.size ≤ j ∧ j < w3.heap.size)) (m9 (k + 1)) A5 c5 (rs9 (k + 1))) := Lib.hid (by
        rw [HRS.out]
        exact HI.out.step HB2.out HMA3.out HF3.out (by rw [hrk]; exact hown5) hg5 hl5)
      clear hown5 hg5 hl5
      go_roundw
      case rel => exact ⟨k + 1, _, A5, c5, by omega, by go_num, rfl, by rw [HRS.out, List.length_append, hrk]; rfl, HSTP.out⟩
      case measure => simp [intOf]; omega
    · have hk5 : k = 5 := by omega
      subst hk5
      have hform := own_form HI.out.own (by rw [HRL.out]; omega)
      obtain ⟨g, hAg, hg1, hg2⟩ := hform
      subst hAg
      have HCL : Hid (∀ W, Below wr.heap.size wr W → ∀ j u, ((rs9 5).flatMap Rp.cells)[j]? = some u → W.cell? ⟨g, j, none⟩ = some u) := Lib.hid (fun W hW j u hu => by
        have h := World.ownsRow.cells HI.out.own (g := g) rfl j u hu
        rw [Addr.add_lit, Nat.zero_add] at h
        exact (hW.cell (p := ⟨g, j, none⟩) hg2).trans h)
      have HTR : Hid (∀ W, Below wr.heap.size wr W → Calls Tryz.prog 39 #[.pointer (some ⟨b, 0, none⟩)] W (ResNs W [1])) := Lib.hid (fun W hW => mtraces_any (HI.out.ma.below hW (Nat.le_refl _)))
      go_wp2_with fail
      refine wp_region_sched [(0, true), (1, true), (2, true), (3, true), (4, true), (5, true), (6, true), (7, true), (8, true), (9, true), (10, true), (11, true), (12, true), (13, true), (14, true), (15, true), (16, true), (17, true), (18, true), (19, true), (20, true), (21, true), (22, true), (23, true), (24, true), (25, true), (26, true), (27, true), (28, true), (29, true), (30, true), (31, true), (32, true), (33, true), (34, true), (35, true), (36, true), (37, true), (38, false), (39, true), (40, true), (41, true), (42, true)] (fun W => Below wr.heap.size wr W) (by kernel_rfl) (by kernel_rfl) rfl (by kernel_rfl) ((Below.refl _ _).drew) ?_
      repeat (first | (apply sched_take rfl; (focus (first | rfl | (go_simp; done))); (focus (intro W hW; have c1 : W.cell? ⟨g, 1, none⟩ = some (.int .i64 1) := HCL.out W hW 1 _ rfl; have c8 : W.cell? ⟨g, 8, none⟩ = some (.int .i64 0) := HCL.out W hW 8 _ rfl; have c9 : W.cell? ⟨g, 9, none⟩ = some (.int .i64 0) := HCL.out W hW 9 _ rfl; have c10 : W.cell? ⟨g, 10, none⟩ = some (.int .i64 0) := HCL.out W hW 10 _ rfl; have c11 : W.cell? ⟨g, 11, none⟩ = some (.int .i64 1) := HCL.out W hW 11 _ rfl; have c12 : W.cell? ⟨g, 12, none⟩ = some (.int .i64 0) := HCL.out W hW 12 _ rfl; have c13 : W.cell? ⟨g, 13, none⟩ = some (.int .i64 0) := HCL.out W hW 13 _ rfl; have c14 : W.cell? ⟨g, 14, none⟩ = some (.int .i64 0) := HCL.out W hW 14 _ rfl; have c15 : W.cell? ⟨g, 15, none⟩ = some (.int .i64 0) := HCL.out W hW 15 _ rfl; have c16 : W.cell? ⟨g, 16, none⟩ = some (.int .i64 0) := HCL.out W hW 16 _ rfl; have c17 : W.cell? ⟨g, 17, none⟩ = some (.int .i64 0) := HCL.out W hW 17 _ rfl; have c18 : W.cell? ⟨g, 18, none⟩ = some (.int .i64 0) := HCL.out W hW 18 _ rfl; have c19 : W.cell? ⟨g, 19, none⟩ = some (.int .i64 1) := HCL.out W hW 19 _ rfl; have c20 : W.cell? ⟨g, 20, none⟩ = some (.int .i64 0) := HCL.out W hW 20 _ rfl; have c21 : W.cell? ⟨g, 21, none⟩ = some (.int .i64 0) := HCL.out W hW 21 _ rfl; have c22 : W.cell? ⟨g, 22, none⟩ = some (.int .i64 0) := HCL.out W hW 22 _ rfl; have c23 : W.cell? ⟨g, 23, none⟩ = some (.int .i64 0) := HCL.out W hW 23 _ rfl; have c26 : W.cell? ⟨g, 26, none⟩ = some (.int .i64 1) := HCL.out W hW 26 _ rfl; have c32 : W.cell? ⟨g, 32, none⟩ = some (.int .i64 80) := HCL.out W hW 32 _ rfl; go_simp; rfl)); (focus (intro K hK; go_simp; refine hK _ ?_; clear hK K))) | (apply sched_skip rfl; (focus (first | rfl | (go_simp; done))); (focus (intro K hK; go_simp; refine hK _ ?_; clear hK K))))
      apply sched_op rfl
      intro K hK
      go_simp
      go_wp2_with (fail)
      refine (HTR.out _ ((Below.refl _ _).drew)).mono ?_
      rintro e w9 ⟨A9, c9, rfl, _, hb9⟩
      have HB9 : Hid (Below wr.heap.size wr w9) := Lib.hid ((Below.refl _ _).drew.trans (hb9.mono (by simp)))
      clear hb9
      go_wp2_with fail
      refine ⟨by exact HB9.out, ?_⟩
      repeat (first | (apply sched_take rfl; (focus (first | rfl | (go_simp; done))); (focus (intro W hW; go_simp; rfl)); (focus (intro K hK; go_simp; refine hK _ ?_; clear hK K))) | (apply sched_skip rfl; (focus (first | rfl | (go_simp; done))); (focus (intro K hK; go_simp; refine hK _ ?_; clear hK K))))
      refine sched_nil ?_
      go_wp2_with fail
      go_ret
      exact ⟨rfl, HBR.out.trans (HB9.out.mono hzr)⟩
end Go.Proofs.YtempkjnaahgbhaaGreatDoor
namespace Go.Proofs.YtempkjnaahgbhaaGreatDoor
open Go Go.RowKit

/-- A machine that no call made. -/
def NoM (w : World) (v : Value) : Prop := v = .pointer none ∨ ∃ z, v = .pointer (some ⟨z, 0, none⟩) ∧ w.heap[z]? = some (.cells #[.pointer none, .pointer none, .int .i64 0, .int .i64 0, .slice none 0 0] 92 (0, 0))
theorem NoM.below {w w' : World} {v : Value} (h : NoM w v) (hb : Below w.heap.size w w') : NoM w' v := by
  rcases h with h | ⟨z, h, hz⟩
  · exact .inl h
  · exact .inr ⟨z, h, (hb.block z (Array.getElem?_eq_some_iff.1 hz).1).trans hz⟩
set_option maxRecDepth 100000 in
theorem mmadeNo_any {w : World} {v : Value} (h : NoM w v) : Calls Tryz.prog 76 #[v] w fun e w' => e = .returned (.bool false) ∧ w = w' := by
  rcases h with rfl | ⟨z, rfl, hz⟩
  · exact mmadeNil_any w
  · have hc := blk_cell hz
    clear hz
    go_enter Tryz.func76, Tryz.ntmps76
    go_wp2_with fail
    go_ret
    exact ⟨rfl, rfl⟩
set_option maxRecDepth 100000 in
theorem mindexNo_any {w : World} {v : Value} (h : NoM w v) : Calls Tryz.prog 35 #[v] w fun e w' => e = .returned (.int .i64 0) ∧ w = w' := by
  have HN := Lib.hid h
  clear h
  go_enter Tryz.func35, Tryz.ntmps35
  go_wp2_with fail
  refine (mmadeNo_any HN.out).mono ?_
  rintro e w1 ⟨rfl, rfl⟩
  go_wp2_with fail
  go_ret
  exact ⟨rfl, rfl⟩
set_option maxRecDepth 100000 in
theorem mtermNo_any {w : World} {v : Value} (h : NoM w v) : Calls Tryz.prog 36 #[v] w fun e w' => e = .returned (.int .i64 0) ∧ w = w' := by
  have HN := Lib.hid h
  clear h
  go_enter Tryz.func36, Tryz.ntmps36
  go_wp2_with fail
  refine (mmadeNo_any HN.out).mono ?_
  rintro e w1 ⟨rfl, rfl⟩
  go_wp2_with fail
  go_ret
  exact ⟨rfl, rfl⟩
set_option maxRecDepth 100000 in
theorem mvotersNo_any {w : World} {v : Value} (h : NoM w v) : Calls Tryz.prog 46 #[v] w fun e w' => e = .returned (.slice none 0 0) ∧ w = w' := by
  have HN := Lib.hid h
  clear h
  go_enter Tryz.func46, Tryz.ntmps46
  go_wp2_with fail
  refine (mmadeNo_any HN.out).mono ?_
  rintro e w1 ⟨rfl, rfl⟩
  go_wp2_with fail
  go_ret
  exact ⟨rfl, rfl⟩
set_option maxRecDepth 100000 in
theorem mimageNo_any {w : World} {v : Value} (h : NoM w v) : Calls Tryz.prog 41 #[v] w fun e w' => e = .returned (.slice none 0 0) ∧ w = w' := by
  have HN := Lib.hid h
  clear h
  go_enter Tryz.func41, Tryz.ntmps41
  go_wp2_with fail
  refine (mmadeNo_any HN.out).mono ?_
  rintro e w1 ⟨rfl, rfl⟩
  go_wp2_with fail
  go_ret
  exact ⟨rfl, rfl⟩
set_option maxRecDepth 100000 in
theorem mlookupNo_any {w : World} {v : Value} (h : NoM w v) (x : Int) : Calls Tryz.prog 48 #[v, .int .i64 x] w fun e w' => e = .returned (.slice none 0 0) ∧ w = w' := by
  have HN := Lib.hid h
  clear h
  go_enter Tryz.func48, Tryz.ntmps48
  go_wp2_with fail
  refine (mmadeNo_any HN.out).mono ?_
  rintro e w1 ⟨rfl, rfl⟩
  go_wp2_with fail
  go_ret
  exact ⟨rfl, rfl⟩
set_option maxRecDepth 100000 in
theorem mtracesNo_any {w : World} {v : Value} (h : NoM w v) : Calls Tryz.prog 39 #[v] w fun e w' => e = .returned (.slice none 0 0) ∧ w = w' := by
  have HN := Lib.hid h
  clear h
  go_enter Tryz.func39, Tryz.ntmps39
  go_wp2_with fail
  refine (mmadeNo_any HN.out).mono ?_
  rintro e w1 ⟨rfl, rfl⟩
  go_wp2_with fail
  go_ret
  exact ⟨rfl, rfl⟩
set_option maxRecDepth 100000 in
theorem mseatsNo_any {w : World} {v : Value} (h : NoM w v) : Calls Tryz.prog 31 #[v] w fun e w' => e = .returned (.slice none 0 0) ∧ w = w' := by
  have HN := Lib.hid h
  clear h
  go_enter Tryz.func31, Tryz.ntmps31
  go_wp2_with fail
  refine (mmadeNo_any HN.out).mono ?_
  rintro e w1 ⟨rfl, rfl⟩
  go_wp2_with fail
  go_ret
  exact ⟨rfl, rfl⟩
set_option maxRecDepth 100000 in
theorem mcloneNo_any {w : World} {v : Value} (h : NoM w v) : Calls Tryz.prog 33 #[v] w fun e w' => e = .returned (.pointer none) ∧ w = w' := by
  have HN := Lib.hid h
  clear h
  go_enter Tryz.func33, Tryz.ntmps33
  go_wp2_with fail
  refine (mmadeNo_any HN.out).mono ?_
  rintro e w1 ⟨rfl, rfl⟩
  go_wp2_with fail
  go_ret
  exact ⟨rfl, rfl⟩
set_option maxRecDepth 100000 in
set_option maxHeartbeats 2000000 in
theorem mapplyNo_any {w : World} {v : Value} (h : NoM w v) (ix te : Int) (eA : Option Addr) (en ec : Nat) : Calls Tryz.prog 34 #[v, .agg #[.int .i64 ix, .int .i64 te, .slice eA en ec]] w fun e w' => e = .returned (.tuple #[.agg #[.int .i64 0, .int .i64 0, .int .i64 0, .int .i64 0, .int .i64 0, .int .i64 0, .int .i64 0, .int .i64 0], .int .i64 6]) ∧ Below w.heap.size w w' := by
  have HN : Hid (NoM ((w.alloc (.cells #[.int .i64 ix, .int .i64 te, .slice eA en ec] 66 (0, 0))).alloc (.cells #[.int .i64 0, .int .i64 0, .int .i64 0, .int .i64 0, .int .i64 0, .int .i64 0, .int .i64 0, .int .i64 0] 56 (0, 0))) v) := Lib.hid (h.below (((Below.refl _ _).alloc (Nat.le_refl _) _).alloc (by simp) _))
  clear h
  go_enter Tryz.func34, Tryz.ntmps34
  go_wp2_with fail
  refine (mmadeNo_any HN.out).mono ?_
  rintro e w1 ⟨rfl, rfl⟩
  go_wp2_with fail
  refine bodyPost_ret (v := .tuple #[.agg #[.int .i64 0, .int .i64 0, .int .i64 0, .int .i64 0, .int .i64 0, .int .i64 0, .int .i64 0, .int .i64 0], .int .i64 6]) (by simp [results, Tryz.results34, go_sem]) rfl ⟨rfl, ?_⟩
  repeat (first | exact (((Below.refl _ _).alloc (Nat.le_refl _) _).alloc (by simp) _) | refine Below.setCell ?_ (by simp) _)
set_option maxRecDepth 100000 in
set_option maxHeartbeats 4000000 in
theorem nobody9_any (ix te : Int) (eA : Option Addr) (en ec : Nat) (w : World) (hg : ErrT w) :
    Calls Tryz.prog 11 #[.agg #[.int .i64 ix, .int .i64 te, .slice eA en ec]] w fun e w' => e = .returned (.bool true) ∧ Below w.heap.size w w' := by
  have HG := Lib.hid hg
  clear hg
  have hb0 : Below w.heap.size w (((w.alloc (.cells #[.int .i64 ix, .int .i64 te, .slice eA en ec] 66 (0, 0))).alloc (.cells #[.pointer none, .pointer none, .int .i64 0, .int .i64 0, .slice none 0 0] 92 (0, 0))).alloc (.cells #[.pointer none, .pointer (some ⟨w.heap.size + 1, 0, none⟩)] 47 (0, 0))) := (((Below.refl _ _).alloc (Nat.le_refl _) _).alloc (by simp) _).alloc (by simp; omega) _
  have hz0 : ((((w.alloc (.cells #[.int .i64 ix, .int .i64 te, .slice eA en ec] 66 (0, 0))).alloc (.cells #[.pointer none, .pointer none, .int .i64 0, .int .i64 0, .slice none 0 0] 92 (0, 0))).alloc (.cells #[.pointer none, .pointer (some ⟨w.heap.size + 1, 0, none⟩)] 47 (0, 0)))).heap.size = w.heap.size + 3 := by simp
  have h1 : ((((w.alloc (.cells #[.int .i64 ix, .int .i64 te, .slice eA en ec] 66 (0, 0))).alloc (.cells #[.pointer none, .pointer none, .int .i64 0, .int .i64 0, .slice none 0 0] 92 (0, 0))).alloc (.cells #[.pointer none, .pointer (some ⟨w.heap.size + 1, 0, none⟩)] 47 (0, 0)))).heap[w.heap.size]? = some (.cells #[.int .i64 ix, .int .i64 te, .slice eA en ec] 66 (0, 0)) := (Below.heap_alloc _ _ _ (by simp; omega)).trans ((Below.heap_alloc _ _ _ (by simp)).trans (heap_alloc_new w _))
  have h2 : ((((w.alloc (.cells #[.int .i64 ix, .int .i64 te, .slice eA en ec] 66 (0, 0))).alloc (.cells #[.pointer none, .pointer none, .int .i64 0, .int .i64 0, .slice none 0 0] 92 (0, 0))).alloc (.cells #[.pointer none, .pointer (some ⟨w.heap.size + 1, 0, none⟩)] 47 (0, 0)))).heap[w.heap.size + 1]? = some (.cells #[.pointer none, .pointer none, .int .i64 0, .int .i64 0, .slice none 0 0] 92 (0, 0)) := (Below.heap_alloc _ _ _ (by simp)).trans (heap_at (by simp))
  have h3 : ((((w.alloc (.cells #[.int .i64 ix, .int .i64 te, .slice eA en ec] 66 (0, 0))).alloc (.cells #[.pointer none, .pointer none, .int .i64 0, .int .i64 0, .slice none 0 0] 92 (0, 0))).alloc (.cells #[.pointer none, .pointer (some ⟨w.heap.size + 1, 0, none⟩)] 47 (0, 0)))).heap[w.heap.size + 2]? = some (.cells #[.pointer none, .pointer (some ⟨w.heap.size + 1, 0, none⟩)] 47 (0, 0)) := heap_at (by simp)
  have HX : Hid (∀ W, Below (w.heap.size + 3) (((w.alloc (.cells #[.int .i64 ix, .int .i64 te, .slice eA en ec] 66 (0, 0))).alloc (.cells #[.pointer none, .pointer none, .int .i64 0, .int .i64 0, .slice none 0 0] 92 (0, 0))).alloc (.cells #[.pointer none, .pointer (some ⟨w.heap.size + 1, 0, none⟩)] 47 (0, 0))) W → Below w.heap.size w W ∧ w.heap.size + 3 ≤ W.heap.size ∧ (∀ j, W.cell? ⟨w.heap.size, j, none⟩ = (#[.int .i64 ix, .int .i64 te, .slice eA en ec] : Array Value)[j]?) ∧ (∀ j, W.cell? ⟨w.heap.size + 2, j, none⟩ = (#[.pointer none, .pointer (some ⟨w.heap.size + 1, 0, none⟩)] : Array Value)[j]?) ∧ NoM W (.pointer none) ∧ NoM W (.pointer (some ⟨w.heap.size + 1, 0, none⟩))) := Lib.hid (fun W hW => by
    have hz := hW.size
    rw [hz0] at hz
    exact ⟨hb0.trans (hW.mono (by omega)), hz, blk_cell ((hW.block _ (by omega)).trans h1), blk_cell ((hW.block _ (by omega)).trans h3), .inl rfl, .inr ⟨_, rfl, (hW.block _ (by omega)).trans h2⟩⟩)
  have HB0 : Hid (Below (w.heap.size + 3) (((w.alloc (.cells #[.int .i64 ix, .int .i64 te, .slice eA en ec] 66 (0, 0))).alloc (.cells #[.pointer none, .pointer none, .int .i64 0, .int .i64 0, .slice none 0 0] 92 (0, 0))).alloc (.cells #[.pointer none, .pointer (some ⟨w.heap.size + 1, 0, none⟩)] 47 (0, 0))) (((w.alloc (.cells #[.int .i64 ix, .int .i64 te, .slice eA en ec] 66 (0, 0))).alloc (.cells #[.pointer none, .pointer none, .int .i64 0, .int .i64 0, .slice none 0 0] 92 (0, 0))).alloc (.cells #[.pointer none, .pointer (some ⟨w.heap.size + 1, 0, none⟩)] 47 (0, 0)))) := Lib.hid (Below.refl _ _)
  clear hb0 hz0 h1 h2 h3
  go_enter Tryz.func11, Tryz.ntmps11
  go_wp2_with fail
  go_loopw [11] (fun i wr => ∃ k : Nat, k ≤ 2 ∧ i = .int .i64 k ∧ Below (w.heap.size + 3) (((w.alloc (.cells #[.int .i64 ix, .int .i64 te, .slice eA en ec] 66 (0, 0))).alloc (.cells #[.pointer none, .pointer none, .int .i64 0, .int .i64 0, .slice none 0 0] 92 (0, 0))).alloc (.cells #[.pointer none, .pointer (some ⟨w.heap.size + 1, 0, none⟩)] 47 (0, 0))) wr) (fun i _ => 2 - (intOf i).toNat)
  case atStart => exact ⟨0, by omega, rfl, HB0.out⟩
  case round =>
    obtain ⟨k, hk, rfl, hb⟩ := hrel
    have HB := Lib.hid hb
    obtain ⟨hbw, hzr, fe, fp, n0, n1⟩ := HX.out wr hb
    have HBW := Lib.hid hbw
    clear hb hbw
    by_cases hlt : k < 2
    · obtain ⟨fv, hfv, hno⟩ : ∃ fv, wr.cell? ⟨w.heap.size + 2, k, none⟩ = some fv ∧ NoM wr fv := by
        match k, hlt with
        | 0, _ => exact ⟨_, fp 0, n0⟩
        | 1, _ => exact ⟨_, fp 1, n1⟩
      have HNO := Lib.hid hno
      have hk1 : (k : Int) < 2 := by omega
      clear fp n0 n1 hno
      go_wp2_with fail
      refine (mapplyNo_any HNO.out ix te eA en ec).mono ?_
      rintro e w2 ⟨rfl, hb2⟩
      have HB2 : Hid (Below (w.heap.size + 3) (((w.alloc (.cells #[.int .i64 ix, .int .i64 te, .slice eA en ec] 66 (0, 0))).alloc (.cells #[.pointer none, .pointer none, .int .i64 0, .int .i64 0, .slice none 0 0] 92 (0, 0))).alloc (.cells #[.pointer none, .pointer (some ⟨w.heap.size + 1, 0, none⟩)] 47 (0, 0))) w2) := Lib.hid (HB.out.trans (hb2.mono hzr))
      have hz2 := (HX.out w2 HB2.out).2.1
      have HN2 : Hid (NoM (w2.alloc (.cells #[.int .i64 0, .int .i64 0, .int .i64 0, .int .i64 0, .int .i64 0, .int .i64 0, .int .i64 0, .int .i64 0] 56 (0, 0))) fv) := Lib.hid ((HNO.out.below hb2).below ((Below.refl _ _).alloc (Nat.le_refl _) _))
      have HB3 : Hid (Below (w.heap.size + 3) (((w.alloc (.cells #[.int .i64 ix, .int .i64 te, .slice eA en ec] 66 (0, 0))).alloc (.cells #[.pointer none, .pointer none, .int .i64 0, .int .i64 0, .slice none 0 0] 92 (0, 0))).alloc (.cells #[.pointer none, .pointer (some ⟨w.heap.size + 1, 0, none⟩)] 47 (0, 0))) (w2.alloc (.cells #[.int .i64 0, .int .i64 0, .int .i64 0, .int .i64 0, .int .i64 0, .int .i64 0, .int .i64 0, .int .i64 0] 56 (0, 0)))) := Lib.hid (HB2.out.trans ((Below.refl w2.heap.size w2).alloc (Nat.le_refl _) _ |>.mono hz2))
      have HC : Hid (∀ m, (∀ j, ((w2.alloc (.cells #[.int .i64 0, .int .i64 0, .int .i64 0, .int .i64 0, .int .i64 0, .int .i64 0, .int .i64 0, .int .i64 0] 56 (0, 0))).drewN m).cell? ⟨w2.heap.size, j, none⟩ = (#[.int .i64 0, .int .i64 0, .int .i64 0, .int .i64 0, .int .i64 0, .int .i64 0, .int .i64 0, .int .i64 0] : Array Value)[j]?) ∧ (∀ j, ((w2.alloc (.cells #[.int .i64 0, .int .i64 0, .int .i64 0, .int .i64 0, .int .i64 0, .int .i64 0, .int .i64 0, .int .i64 0] 56 (0, 0))).drewN m).cell? ⟨w.heap.size, j, none⟩ = (#[.int .i64 ix, .int .i64 te, .slice eA en ec] : Array Value)[j]?) ∧ NoM ((w2.alloc (.cells #[.int .i64 0, .int .i64 0, .int .i64 0, .int .i64 0, .int .i64 0, .int .i64 0, .int .i64 0, .int .i64 0] 56 (0, 0))).drewN m) fv) := Lib.hid (fun m => ⟨blk_cell (heap_at rfl), (HX.out _ (below_dN HB3.out m)).2.2.1, HN2.out⟩)
      clear hb2 fe hfv
      go_wp2_with fail
      refine wp_region_sched [(0, true), (1, true), (2, true), (3, true), (4, true), (5, true), (6, true), (7, true), (8, true), (10, true), (13, true), (17, true), (21, true), (22, true), (23, true), (27, true), (31, true), (9, false), (11, false), (12, true), (14, false), (15, true), (16, true), (18, false), (19, true), (20, true), (24, false), (25, true), (26, true), (28, false), (29, true), (30, true), (32, false), (33, true), (34, true), (35, true), (36, true), (37, true), (38, true), (39, false), (40, true), (41, true)] (fun W => ∃ m, W = (w2.alloc (.cells #[.int .i64 0, .int .i64 0, .int .i64 0, .int .i64 0, .int .i64 0, .int .i64 0, .int .i64 0, .int .i64 0] 56 (0, 0))).drewN m) (by kernel_rfl) (by kernel_rfl) rfl (by kernel_rfl) (⟨1, rfl⟩) ?_
      repeat (first | (apply sched_take rfl; (focus (first | rfl | (go_simp; done))); (focus (intro W hW; obtain ⟨m, rfl⟩ := hW; obtain ⟨f1, f2, _⟩ := HC.out m; go_simp; rfl)); (focus (intro K hK; go_simp; refine hK _ ?_; clear hK K))) | (apply sched_skip rfl; (focus (first | rfl | (go_simp; done))); (focus (intro K hK; go_simp; refine hK _ ?_; clear hK K))))
      apply sched_op rfl
      intro K hK
      go_simp
      go_wp2_with (fail)
      refine (mindexNo_any (HC.out _).2.2).mono ?_
      rintro e w9 ⟨rfl, rfl⟩
      go_wp2_with fail
      refine ⟨by exact ⟨_, rfl⟩, ?_⟩
      repeat (first | (apply sched_take rfl; (focus (first | rfl | (go_simp; done))); (focus (intro W hW; obtain ⟨m, rfl⟩ := hW; obtain ⟨f1, f2, _⟩ := HC.out m; go_simp; rfl)); (focus (intro K hK; go_simp; refine hK _ ?_; clear hK K))) | (apply sched_skip rfl; (focus (first | rfl | (go_simp; done))); (focus (intro K hK; go_simp; refine hK _ ?_; clear hK K))))
      apply sched_op rfl
      intro K hK
      go_simp
      go_wp2_with (fail)
      refine (mtermNo_any (HC.out _).2.2).mono ?_
      rintro e w9 ⟨rfl, rfl⟩
      go_wp2_with fail
      refine ⟨by exact ⟨_, rfl⟩, ?_⟩
      repeat (first | (apply sched_take rfl; (focus (first | rfl | (go_simp; done))); (focus (intro W hW; obtain ⟨m, rfl⟩ := hW; obtain ⟨f1, f2, _⟩ := HC.out m; go_simp; rfl)); (focus (intro K hK; go_simp; refine hK _ ?_; clear hK K))) | (apply sched_skip rfl; (focus (first | rfl | (go_simp; done))); (focus (intro K hK; go_simp; refine hK _ ?_; clear hK K))))
      apply sched_op rfl
      intro K hK
      go_simp
      go_wp2_with (fail)
      refine (mvotersNo_any (HC.out _).2.2).mono ?_
      rintro e w9 ⟨rfl, rfl⟩
      go_wp2_with fail
      refine ⟨by exact ⟨_, rfl⟩, ?_⟩
      repeat (first | (apply sched_take rfl; (focus (first | rfl | (go_simp; done))); (focus (intro W hW; obtain ⟨m, rfl⟩ := hW; obtain ⟨f1, f2, _⟩ := HC.out m; go_simp; rfl)); (focus (intro K hK; go_simp; refine hK _ ?_; clear hK K))) | (apply sched_skip rfl; (focus (first | rfl | (go_simp; done))); (focus (intro K hK; go_simp; refine hK _ ?_; clear hK K))))
      apply sched_op rfl
      intro K hK
      go_simp
      go_wp2_with (fail)
      refine (mimageNo_any (HC.out _).2.2).mono ?_
      rintro e w9 ⟨rfl, rfl⟩
      go_wp2_with fail
      refine ⟨by exact ⟨_, rfl⟩, ?_⟩
      repeat (first | (apply sched_take rfl; (focus (first | rfl | (go_simp; done))); (focus (intro W hW; obtain ⟨m, rfl⟩ := hW; obtain ⟨f1, f2, _⟩ := HC.out m; go_simp; rfl)); (focus (intro K hK; go_simp; refine hK _ ?_; clear hK K))) | (apply sched_skip rfl; (focus (first | rfl | (go_simp; done))); (focus (intro K hK; go_simp; refine hK _ ?_; clear hK K))))
      apply sched_op rfl
      intro K hK
      go_simp
      go_wp2_with (fail)
      refine (mlookupNo_any (HC.out _).2.2 _).mono ?_
      rintro e w9 ⟨rfl, rfl⟩
      go_wp2_with fail
      refine ⟨by exact ⟨_, rfl⟩, ?_⟩
      repeat (first | (apply sched_take rfl; (focus (first | rfl | (go_simp; done))); (focus (intro W hW; obtain ⟨m, rfl⟩ := hW; obtain ⟨f1, f2, _⟩ := HC.out m; go_simp; rfl)); (focus (intro K hK; go_simp; refine hK _ ?_; clear hK K))) | (apply sched_skip rfl; (focus (first | rfl | (go_simp; done))); (focus (intro K hK; go_simp; refine hK _ ?_; clear hK K))))
      apply sched_op rfl
      intro K hK
      go_simp
      go_wp2_with (fail)
      refine (mtracesNo_any (HC.out _).2.2).mono ?_
      rintro e w9 ⟨rfl, rfl⟩
      go_wp2_with fail
      refine ⟨by exact ⟨_, rfl⟩, ?_⟩
      repeat (first | (apply sched_take rfl; (focus (first | rfl | (go_simp; done))); (focus (intro W hW; obtain ⟨m, rfl⟩ := hW; obtain ⟨f1, f2, _⟩ := HC.out m; go_simp; rfl)); (focus (intro K hK; go_simp; refine hK _ ?_; clear hK K))) | (apply sched_skip rfl; (focus (first | rfl | (go_simp; done))); (focus (intro K hK; go_simp; refine hK _ ?_; clear hK K))))
      apply sched_op rfl
      intro K hK
      go_simp
      go_wp2_with (fail)
      refine (mseatsNo_any (HC.out _).2.2).mono ?_
      rintro e w9 ⟨rfl, rfl⟩
      go_wp2_with fail
      refine ⟨by exact ⟨_, rfl⟩, ?_⟩
      repeat (first | (apply sched_take rfl; (focus (first | rfl | (go_simp; done))); (focus (intro W hW; obtain ⟨m, rfl⟩ := hW; obtain ⟨f1, f2, _⟩ := HC.out m; go_simp; rfl)); (focus (intro K hK; go_simp; refine hK _ ?_; clear hK K))) | (apply sched_skip rfl; (focus (first | rfl | (go_simp; done))); (focus (intro K hK; go_simp; refine hK _ ?_; clear hK K))))
      apply sched_op rfl
      intro K hK
      go_simp
      go_wp2_with (fail)
      refine (mcloneNo_any (HC.out _).2.2).mono ?_
      rintro e w9 ⟨rfl, rfl⟩
      go_wp2_with fail
      refine ⟨by exact ⟨_, rfl⟩, ?_⟩
      repeat (first | (apply sched_take rfl; (focus (first | rfl | (go_simp; done))); (focus (intro W hW; obtain ⟨m, rfl⟩ := hW; obtain ⟨f1, f2, _⟩ := HC.out m; go_simp; rfl)); (focus (intro K hK; go_simp; refine hK _ ?_; clear hK K))) | (apply sched_skip rfl; (focus (first | rfl | (go_simp; done))); (focus (intro K hK; go_simp; refine hK _ ?_; clear hK K))))
      refine sched_nil ?_
      go_wp2_with fail
      go_roundw
      case rel => exact ⟨k + 1, by omega, by go_num, HB3.out.drew⟩
      case measure => simp [intOf]; omega
    · have hk1 : ¬ (k : Int) < 2 := by omega
      clear fe fp n0 n1
      go_wp2_with fail
      refine (awake9_any _ (HG.out.below HBW.out (Nat.le_refl _))).mono ?_
      rintro e w2 ⟨rfl, hb2⟩
      have HB2 : Hid (Below w.heap.size w w2) := Lib.hid (HBW.out.trans (hb2.mono HBW.out.size))
      clear hb2
      go_wp2_with fail
      go_ret
      exact ⟨rfl, HB2.out⟩
end Go.Proofs.YtempkjnaahgbhaaGreatDoor
namespace Go.Proofs.YtempkjnaahgbhaaGreatDoor
open Go.ChangeShapes Go.WideShapes Go.RowKit

theorem et_global : Tryz.prog.globalNamed "errors.errorType" = some 0 := by kernel_rfl
theorem et_rtype : (Tryz.prog.cutTypes.find? (·.1 == "internal/reflectlite.rtype")).map (·.2) = some 228 := by kernel_rfl
theorem et_row : ((List.range Tryz.prog.types.size).filter fun t => Tryz.prog.rowNamed t [101, 114, 114, 111, 114]) = [130] := by kernel_rfl
def laidL : List (String × DataW Unit) := [("errors.errorType", Rows.laid_errors_errorType)]
/-- What the premise gives a walk: the variable's one cell. -/
theorem handle_of_laid {W : World} (h : laidMetH Tryz.prog laidL W) : ErrT W := by
  have h' : laidMet Tryz.prog [] W ∧ handlesMet Tryz.prog laidL W := h
  obtain ⟨name, u, ty, e1, e2, e3, e4, e5⟩ := h'.2 _ (List.mem_singleton.2 rfl)
  have en : name = [101, 114, 114, 111, 114] := (Option.some.inj e1).symm
  subst en
  obtain rfl := Option.some.inj (et_rtype.symm.trans e2)
  have hm : ty ∈ (List.range Tryz.prog.types.size).filter fun t => Tryz.prog.rowNamed t [101, 114, 114, 111, 114] := List.mem_filter.2 ⟨List.mem_range.2 e3, e4⟩
  rw [et_row] at hm
  obtain rfl := List.mem_singleton.1 hm
  have hh : typeHandle Tryz.prog 130 = .pointer (some ⟨1, 130, none⟩) := by kernel_rfl
  rw [hh] at e5
  have := World.var?_cell et_global e5 0
  simpa [ErrT] using this
/-- A world that meets the premise. -/
noncomputable def laidWorld (os : Os) : World :=
  let w0 := World.holding Tryz.prog os ⟨#[], #[], []⟩
  { w0 with heap := w0.heap.modify 0 fun
      | .cells _ t frozen => .cells #[.iface 228 (.agg #[.pointer (some ⟨1, 130, none⟩)])] t frozen
      | o => o }
theorem laidWorld_met (os : Os) (args : Array Value) : laidMetH Tryz.prog laidL ((laidWorld os).forCall (fun _ _ => 0) ⟨#[], args, []⟩).memory :=
  laidMetH_of_parts (laidMet_nil _ _) (by kernel_rfl)
end Go.Proofs.YtempkjnaahgbhaaGreatDoor
namespace Go.Proofs.YtempkjnaahgbhaaGreatDoor
open Go.ChangeShapes Go.WideShapes Go.ChangeAt Go.RowKit Go.Deep

section
variable {H : Type} {enc : TypeId × Value → H} {w : World} {base : Nat} {spare : Nat → Bool} {held : Bool}
theorem slice_of_bytes {n : Nat} {c : Value} {y : DataW H × List MemPlace} (g : DataW.trod enc Tryz.prog w base spare held n 32 [c] = some y) : ∃ A len cap l, c = .slice A len cap ∧ RdB w w.heap.size A len l ∧ len ≤ cap := by
  have hc : ∀ v : Value, v.cells.toList = [v] → v = c → ∃ A len cap l, c = .slice A len cap ∧ RdB w w.heap.size A len l ∧ len ≤ cap := fun v hv hvc => by
    subst hvc
    exact open_bytes (d := y.1) (p := y.2) hv ⟨n, by rw [hv]; exact g⟩
  rcases open_slice Tryz.underlying32 g with ⟨hcs, _⟩ | ⟨a, len, cap, m, n, D, Pl, hcs, _⟩
  · exact hc (.slice none 0 0) rfl (by simpa using hcs.symm)
  · exact hc (.slice (some a) len cap) rfl (by simpa using hcs.symm)
theorem slice_of_ints {n : Nat} {c : Value} {y : DataW H × List MemPlace} (g : DataW.trod enc Tryz.prog w base spare held n 23 [c] = some y) : ∃ A len cap l, c = .slice A len cap ∧ RdI w w.heap.size A len l ∧ len ≤ cap := by
  have hc : ∀ v : Value, v.cells.toList = [v] → v = c → ∃ A len cap l, c = .slice A len cap ∧ RdI w w.heap.size A len l ∧ len ≤ cap := fun v hv hvc => by
    subst hvc
    exact open_ints (d := y.1) (p := y.2) hv ⟨n, by rw [hv]; exact g⟩
  rcases open_slice Tryz.underlying23 g with ⟨hcs, _⟩ | ⟨a, len, cap, m, n, D, Pl, hcs, _⟩
  · exact hc (.slice none 0 0) rfl (by simpa using hcs.symm)
  · exact hc (.slice (some a) len cap) rfl (by simpa using hcs.symm)
set_option maxRecDepth 100000 in
theorem open_entry_cells {fuel : Nat} {cs : List Value} {x : DataW H × List MemPlace} (hf : DataW.trod enc Tryz.prog w base spare held fuel 66 cs = some x) :
    ∃ p : EnV, cs = p.cells ∧ RdB w w.heap.size p.A p.n p.da := by
  obtain ⟨xs, n, _, hx, hlen, hxl, hg⟩ := DataW.trod_struct Tryz.underlying66 hf
  have hC : Tryz.prog.cellsOf 66 = 3 := by kernel_rfl
  have k3 : Tryz.prog.cellsOf 3 = 1 := by kernel_rfl
  have k9 : Tryz.prog.cellsOf 32 = 1 := by kernel_rfl
  match cs, hlen.trans hC with
  | [c0, c1, c2], _ =>
    match xs, hxl with
    | [y0, y1, y2], _ =>
      have g0 : DataW.trod enc Tryz.prog w base spare held n 3 [c0] = some y0 := by simpa [k3] using hg 0 _ rfl
      have g1 : DataW.trod enc Tryz.prog w base spare held n 3 [c1] = some y1 := by simpa [k3, k9] using hg 1 _ rfl
      have g2 : DataW.trod enc Tryz.prog w base spare held n 32 [c2] = some y2 := by simpa [k3, k9] using hg 2 _ rfl
      obtain ⟨a0, e0, _, _⟩ := DataW.trod_int Tryz.underlying3 g0
      obtain ⟨a1, e1, _, _⟩ := DataW.trod_int Tryz.underlying3 g1
      simp only [List.cons.injEq, and_true] at e0 e1
      obtain ⟨A, len, cap, l, h1, h2, _⟩ := slice_of_bytes g2
      exact ⟨⟨a0, a1, A, len, cap, l⟩, by rw [e0, e1, h1]; rfl, h2⟩
/-- A list of structs that came in, opened. -/
theorem open_rows {α : Type} {f : α → List Value} {sz : Nat} {T S : TypeId} {q : α → Prop} (hu : Tryz.prog.underlying T = some (.slice S)) (hS : Tryz.prog.cellsOf S = sz) (hsz : 0 < sz) (hf : ∀ x, (f x).length = sz)
    (ho : ∀ {fuel : Nat} {cs : List Value} {x : DataW H × List MemPlace}, DataW.trod enc Tryz.prog w base spare held fuel S cs = some x → ∃ p : α, cs = f p ∧ q p)
    {d : DataW H} {p : List MemPlace} {v : Value} (hv : v.cells.toList = [v]) (h : DataW.Trod enc Tryz.prog w base spare held T v d p) :
    ∃ (A : Option Addr) (len cap : Nat) (l : List α), v = .slice A len cap ∧ Rd w w.heap.size sz A len (l.flatMap f) ∧ (∀ x ∈ l, q x) ∧ len ≤ cap := by
  obtain ⟨fuel, hf2⟩ := h
  rw [hv] at hf2
  rcases open_slice hu hf2 with ⟨hcs, _⟩ | ⟨a, len, cap, m, n, D, Pl, hcs, _, hl, _, hm, _, hi⟩
  · simp only [List.cons.injEq, and_true] at hcs
    exact ⟨none, 0, 0, [], hcs, Rd.nil, by simp, Nat.le_refl _⟩
  · simp only [List.cons.injEq, and_true] at hcs
    have hle : len ≤ m := by rw [hm]; split <;> omega
    obtain ⟨l, hll, hp⟩ := list_of (p := fun i (x : α) => (∀ j, j < sz → w.cell? (a.add (i * sz + j)) = (f x)[j]?) ∧ q x) len fun i hi1 => by
      obtain ⟨cs', hc, ht⟩ := hi i (by omega)
      rw [hS] at hc
      obtain ⟨x, rfl, hq⟩ := ho ht
      refine ⟨x, fun j hj => ?_, hq⟩
      have h2 := (cells_at hc).2 j hj
      rwa [add_add] at h2
    have hr := rd_of (f := f) (sz := sz) hf hsz hll (a := a) fun i hi1 j hj => (hp i hi1).1 j hj
    refine ⟨some a, len, cap, l, hcs, hr, fun x hx => ?_, hl⟩
    obtain ⟨i, hi1, rfl⟩ := List.mem_iff_getElem.1 hx
    exact (hp i hi1).2
end
end Go.Proofs.YtempkjnaahgbhaaGreatDoor
namespace Go.Proofs.YtempkjnaahgbhaaGreatDoor
open Go.ChangeShapes Go.WideShapes Go.ChangeAt Go.RowKit Go.Deep

section
variable {H : Type} {enc : TypeId × Value → H} {w : World} {base : Nat} {spare : Nat → Bool} {held : Bool}
set_option maxRecDepth 100000 in
theorem open_entry {r : Reach} {b0 : Nat} {v : Value} {d : DataW H} {p : List MemPlace} (hv : Value.okWide Tryz.prog w r b0 66 v) (h : DataW.Trod enc Tryz.prog w base spare held 66 v d p) :
    ∃ e : EnV, v = e.val ∧ RdB w w.heap.size e.A e.n e.da := by
  obtain ⟨cs, rfl, hsz⟩ := okWide_struct Tryz.underlying66 hv
  obtain ⟨fuel, hf⟩ := h
  obtain ⟨e, hc, h2⟩ := open_entry_cells hf
  refine ⟨e, ?_, h2⟩
  obtain ⟨l⟩ := cs
  simp only [Value.cells] at hc
  simp only [hc, EnV.cells, EnV.val]
end
end Go.Proofs.YtempkjnaahgbhaaGreatDoor
namespace Go.Proofs.YtempkjnaahgbhaaGreatDoor.MachineNobodyDone
open Go.ChangeShapes Go.WideShapes Go.ChangeAt Go.RowKit

set_option maxRecDepth 100000 in
set_option maxHeartbeats 1000000 in
theorem lifted (os : Os) (started : os.Started) (H : Type) (enc : TypeId × Value → H) :
    ReturnsInHanded {} Tryz.checked os 11 .any (fun w args => (Rows.machineNobodySpec.pre enc Tryz.prog Tryz.f11 [] false w args ∧ laidMetH Tryz.prog laidL w) ∧ sizedMet enc Tryz.prog Tryz.f11 (OpenSpec.ofChange Rows.machineNobodySpec) false w args) (Rows.machineNobodySpec.post enc Tryz.prog Tryz.f11 false true false false) := by
  refine returnsInHanded_of_change_and (C := Tryz.checked) (X := fun w _ => laidMetH Tryz.prog laidL w) (fun _ _ _ hh h => h.of_heap hh) ownKnob_none started (by kernel_rfl) Tryz.func11
    (ChangeSpec.witness_at (enc := enc) (C := Tryz.checked) (os := os) (X := fun w _ => laidMetH Tryz.prog laidL w) false (laidWorld os) #[.agg #[.int .i64 0, .int .i64 0, .slice none 0 0]] 8 rfl (by kernel_rfl) (by kernel_rfl) (by kernel_rfl) (by kernel_rfl) (by kernel_rfl) (laidWorld_met os _)) ?_
  intro W base args ds gs before hval0 hW _ hsz hL _
  have hval : ∀ (j : Nat) t v, Tryz.f11.params[j]? = some t → args[j]? = some v → Value.okWide Tryz.prog W .any base t v := hval0
  have hW' := hW
  obtain ⟨p, q, hA0, hV, rfl, hfz, hnd⟩ := hW
  have hA : DataW.TrodAll enc Tryz.prog W 0 (fun _ => true) true Tryz.f11.params.toList args.toList ds p := hA0
  rw [Tryz.params11] at hA hval
  have hg := handle_of_laid hL
  obtain ⟨v0, vs0, d0, ds0, p0, q0, hargs, rfl, rfl, h0, r0⟩ := trodAll_cons hA
  obtain ⟨rfl, rfl, rfl⟩ := trodAll_nil r0
  obtain rfl : args = #[v0] := by cases args; simp_all
  obtain ⟨rfl, rfl⟩ := trodVars_none hV
  have k0 := h0
  have lt0 : ∀ x ∈ p0, x.block < W.heap.size := by obtain ⟨m, hm⟩ := k0; exact DataW.trod_lt m _ _ _ hm
  obtain ⟨s0, rfl, R0⟩ := open_entry (hval 0 66 v0 rfl rfl) h0
  clear hA0 hval0
  refine (nobody9_any s0.ix s0.te s0.A s0.n s0.c W hg).mono fun e W' ⟨he, bel⟩ => ?_
  subst he
  exact ⟨_, rfl, _, _, _, [], _, [], hW', trodAll_mk1 (shut_bool Tryz.underlying4 _), trodAll_cons_mk (Below.trod laidOut_true (by kernel_rfl) (of_decide_eq_true (by kernel_rfl)) k0 bel lt0) trodAll_mk0, rfl, bel.frame _, fun h => by cases h⟩

theorem over : Rows.machineNobodyRow.holds Tryz.pinned (OpenSpec.ofChange Rows.machineNobodySpec) :=
  OpenClaim.holds_of_wide 11 Tryz.f11 rfl rfl rfl rfl rfl rfl rfl ⟨rfl, rfl, rfl, rfl, rfl⟩ rfl rfl rfl rfl rfl (by kernel_rfl) Tryz.func11 closed
    (of_decide_eq_true (by kernel_rfl)) (by unfold Func.isWrapper; first | (rw [if_pos (by decide +kernel)]; kernel_rfl) | (rw [if_neg (by decide +kernel)]; exact ⟨rfl, rfl⟩))
    (fun os started H enc _ => lifted os started H enc)

theorem proved : Rows.MachineNobodyCardSaid :=
  Claim7.holds_tied_plain_at .later [] [.handle] true Rows.machineNobodyCard.stood.harness true
    over (fun _ h => by cases h) (by kernel_rfl) (fun _ h => by cases h) machineNobody_row_tie rfl ⟨rfl, rfl⟩ (by kernel_rfl) rfl
    (fun f fn hf hfn => by
      obtain rfl : f = 11 := Option.some.inj ((show Tryz.prog.funcNamed "spandrel/spandrellaw09.MachineNobody" = some 11 by kernel_rfl).symm.trans hf) |>.symm
      obtain rfl : fn = Tryz.f11 := (Option.some.inj (Tryz.func11.symm.trans hfn)).symm
      exact ⟨by kernel_rfl, fun j t ht => by
        rw [Tryz.params11] at ht
        have hm : t ∈ [66] := by
          have := List.mem_of_getElem? (l := [66]) (i := j) (by simpa using ht)
          exact this
        simp only [List.mem_cons, List.not_mem_nil, or_false] at hm
        obtain rfl := hm
        exact (show Tryz.prog.wantsStandIn 66 = false by kernel_rfl)⟩)
    (by kernel_rfl)
#print axioms proved
end Go.Proofs.YtempkjnaahgbhaaGreatDoor.MachineNobodyDone
