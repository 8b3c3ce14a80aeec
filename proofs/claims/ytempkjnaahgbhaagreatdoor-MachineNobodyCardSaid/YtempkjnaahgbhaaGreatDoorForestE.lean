/-
  The walk of a forest's Spans: all of them, sorted. Conditions: the forest lies in memory as New and Add made it.
  The walk of a forest's End. Conditions: the forest lies in memory.
-/
import Derived.Test.YtempkjnaahgbhaaGreatDoorForest4
namespace Go.Proofs.YtempkjnaahgbhaaGreatDoor
open Go Go.RowKit Go.Maps

set_option maxRecDepth 100000 in
set_option maxHeartbeats 4000000 in
theorem fspans_any {w : World} {p a d : Nat} {tr : Int} {L : List Sp} {S : Nat → Prop} (h : Fo w p a d tr L S) :
    Calls Tryz.prog 128 #[.pointer (some ⟨p, 0, none⟩)] w (ResS w (sortS L)) := by
  obtain ⟨i0, hi0, gz0, gz1, gz2⟩ := info_parts Tryz.infoSpan
  have hnd := h.gr.nodup
  have hlen := h.gr.len
  have HND := Lib.hid hnd
  have HF := Lib.hid h
  obtain ⟨D, hD, hDof⟩ := h.all
  have HD := Lib.hid hD
  have HDOF := Lib.hid hDof
  have hpc := blk_cell h.hp
  have hal : a < w.heap.size := hD.lt
  clear h hnd hD hDof
  go_enter Tryz.func128, Tryz.ntmps128
  go_wp2_with fail
  refine (fmade_any HF.out).mono ?_
  rintro e w1 ⟨rfl, rfl⟩
  go_wp2_with (at_range; refine wpList_range_own _ rfl _ 215 rfl 3 30 keyLaw Tryz.underlying215 spElem a L.length D rfl HD.out ?_; intro w2 hrg0 hg0 hs0)
  go_frame
  have HRG0 := Lib.hid hrg0
  have HG0 := Lib.hid hg0
  have hs2 := Nat.le_of_eq hs0.symm
  have hs2b := Nat.le_of_eq hs0
  clear hrg0 hg0 hs0
  go_loopw [3] (fun v wr => ∃ (left : Lit → Bool) (cnt : Nat) (acc : List Sp) (A2 : Option Addr) (c2 : Nat), v = .slice A2 acc.length c2 ∧ acc.length ≤ 64 ∧ wr.ranges Tryz.prog 3 spElem a w.heap.size L.length D left cnt ∧ wr.ownsRow (w.heap.size + 1) 30 6 (.slice A2 acc.length c2) acc.length (acc.flatMap Sp.cells) ∧
      Fr (fun k => k = w.heap.size) w2 wr ∧ acc.Perm (come L left)) (fun _ wr => wr.rangeLeft a w.heap.size)
  case atStart => exact ⟨_, _, [], none, 0, rfl, by simp, HRG0.out, World.ownsRow_nil _ _ _ _, Fr.refl _ _, by rw [come_start HND.out HDOF.out]⟩
  case round =>
    obtain ⟨left, cnt, acc, A2, c2, rfl, hacc, hrg, hown2, hfr, hperm⟩ := hrel
    have HRG := Lib.hid hrg
    have HO2 := Lib.hid hown2
    have HFR := Lib.hid hfr
    have HPM := Lib.hid hperm
    have hszr := hfr.size
    have hbw : Below w.heap.size w wr := (below_none HG0.out (Nat.le_refl _)).trans (hfr.below (by omega) (fun k hk => by omega))
    have HBW := Lib.hid hbw
    clear hrg hown2 hfr hperm hbw hpc
    go_wp2_with (at_next; refine wpList_next_ranges _ rfl _ rfl 3 keyLaw spElem (Value.int .i64) Sp.val invI invS a w.heap.size L.length D left cnt rfl HRG.out ?_ ?_)
    · intro _ hl0
      have hp2 := HPM.out
      rw [come_end L hl0] at hp2
      have HP2 : Hid (sortS acc = sortS L) := Lib.hid (sortS_congr hp2)
      have hri : RdS wr wr.heap.size A2 acc.length acc := Rd.of_own HO2.out
      have hcall := Sort_any A2 acc.length c2 wr.heap.size acc wr (Nat.le_refl _) (by omega) hri
      rw [HP2.out] at hcall
      have HCALL := Lib.hid hcall
      clear hp2 hri hcall hl0
      go_wp2_with fail
      refine HCALL.out.mono ?_
      rintro e w3 ⟨A3, c3, rfl, hown3, hb3⟩
      go_wp2_with fail
      go_ret
      exact ⟨A3, c3, rfl, own_le hown3 (by omega), HBW.out.trans (hb3.mono (by omega))⟩
    · intro x c kl y ps w3 cnt3 hkey hleft hy hat hrg3 hlt3 hg3 hs3 hen
      obtain ⟨x', ex, rfl, _⟩ := keyOf_int_inv Tryz.underlying3 hkey
      cases ex
      have hat2 := come_mem HDOF.out (y := (y, ps)) hy hat
      have hcid := (atS_some hat2).2
      have hcm := (atS_some hat2).1
      subst hcid
      have HSTEP : Hid ((come L fun z => left z && !z.sameKey (.int .i64 c.id)).Perm (come L left ++ [c])) := Lib.hid (come_step HND.out hcm hleft)
      have HFR3 : Hid (Fr (fun k => k = w.heap.size) w2 w3) := Lib.hid (HFR.out.trans (Fr.of_grown hg3 (fun k hk => by cases hk; rfl)))
      have HO3 : Hid (w3.ownsRow (w.heap.size + 1) 30 6 (.slice A2 acc.length c2) acc.length (acc.flatMap Sp.cells)) := Lib.hid (own_fr' HO2.out (Fr.of_grown (S := fun k => k = w.heap.size) hg3 (fun k hk => by cases hk; rfl)) (fun k hk he => by
        have := (HO2.out.lt k hk).1
        omega))
      have HRG3 := Lib.hid hrg3
      have HLT3 := Lib.hid hlt3
      have hz3 : wr.heap.size ≤ w3.heap.size := Nat.le_of_eq hs3.symm
      have hal2 : acc.length < 64 := by
        have e1 := HPM.out.length_eq
        have e2 := HSTEP.out.length_eq
        have e3 : (come L fun z => left z && !z.sameKey (.int .i64 c.id)).length ≤ L.length := List.length_filter_le _ _
        simp at e2
        omega
      clear hkey hleft hy hat hrg3 hlt3 hg3 hs3 hat2
      have hen2 : (Instr.entry (.pointer (some ⟨w.heap.size, 0, none⟩))).run Tryz.prog w3 = .ok (.tuple #[.int .i64 c.id, .agg #[.int .i64 c.tr, .int .i64 c.id, .int .i64 c.pa, .int .i64 c.st, .int .i64 c.en, .string c.nm]]) w3 := hen
      clear hen
      go_wp2_with (at_builtin; refine wpList_app _ rfl (.tmp 19) (.tmp 21) _ rfl (w.heap.size + 1) 30 i0 _ 6 56 Tryz.underlying22 hi0 gz0 gz1 gz2 rfl (by omega) _ _ _ _ rfl ((HO3.out.alloc _).alloc _) (w3.heap.size + 2) _ 1 _ _ rfl (Rd.one6 (by simp) c _ _) (cells_one1 _) (by unfold maxLen; omega) (by omega) (by simp <;> omega) ?_; intro A5 c5 w5 hown5 hg5 _)
      go_roundw
      case rel =>
        refine ⟨_, cnt3, acc ++ [c], A5, c5, by simp, by simp <;> omega, ((HRG3.out.alloc _).alloc _).kept hg5 (br_ne HO3.out (by omega)) (br_ne HO3.out (by omega)), by rw [List.length_append, flat_snoc]; exact hown5, ((HFR3.out.alloc _).alloc _).step (Fr.of_grown (S := rowIs A2) hg5 (fun k hk => hk)) (fun j hj => .inr (by have := (HO3.out.lt j (by rw [← hj]; cases A2 <;> rfl)).1; omega)), ?_⟩
        exact (HPM.out.append_right [c]).trans HSTEP.out.symm
      case measure =>
        have e1 := (((HRG3.out.alloc _).alloc _).kept hg5 (br_ne HO3.out (by omega)) (br_ne HO3.out (by omega))).left_eq
        rw [e1, HRG.out.left_eq]; exact HLT3.out
end Go.Proofs.YtempkjnaahgbhaaGreatDoor
namespace Go.Proofs.YtempkjnaahgbhaaGreatDoor
open Go Go.RowKit Go.Maps

/-- When the last one ended. -/
def endL (L : List Sp) : Int := L.foldl (fun n s => max n s.en) 0
theorem endL_snoc (L : List Sp) (s : Sp) : endL (L ++ [s]) = max (endL L) s.en := by simp [endL, List.foldl_append]
theorem endL_perm {L m : List Sp} (h : m.Perm L) : endL m = endL L := by
  unfold endL
  exact h.foldl_eq' (fun x _ y _ z => by omega) 0

set_option maxRecDepth 100000 in
set_option maxHeartbeats 1000000 in
theorem fend_any {w : World} {p a d : Nat} {tr : Int} {L : List Sp} {S : Nat → Prop} (h : Fo w p a d tr L S) :
    Calls Tryz.prog 156 #[.pointer (some ⟨p, 0, none⟩)] w fun e w' => e = .returned (.int .i64 (endL L)) ∧ Below w.heap.size w w' := by
  have HF := Lib.hid h
  have hl64 := h.gr.len
  have HEQ : Hid (endL (sortS L) = endL L) := Lib.hid (endL_perm (sortS_perm L))
  have hsl : (sortS L).length ≤ 64 := by rw [sortS_len]; exact hl64
  clear h
  go_enter Tryz.func156, Tryz.ntmps156
  go_wp2_with fail
  refine (fspans_any HF.out).mono ?_
  rintro e w1 ⟨A1, c1, rfl, hown, hb1⟩
  generalize sortS L = l at *
  have HO := Lib.hid hown
  have HB1 := Lib.hid hb1
  clear hown hb1
  go_wp2_with fail
  go_loopw [3, 9] (fun v i wr => ∃ (k : Nat), k ≤ l.length ∧ i = .int .i64 k ∧ v = .int .i64 (endL (l.take k)) ∧ Below w1.heap.size w1 wr) (fun _ i _ => l.length - (intOf i).toNat)
  case atStart => exact ⟨0, by omega, rfl, rfl, Below.refl _ _⟩
  case round =>
    obtain ⟨k, hk, rfl, rfl, hb⟩ := hrel
    have hz := hb.size
    have HB := Lib.hid hb
    clear hb
    by_cases hlt : k < l.length
    · have hk1 : (k : Int) < (l.length : Int) := by omega
      obtain ⟨b1, o1, rfl, hb1, x0, x1, x2, x3, x4, x5⟩ := RdS.at_ (Rd.below' (Rd.of_own HO.out) HB.out (Nat.le_refl _) (Nat.le_refl _)) hlt
      have HST : Hid (endL (l.take (k + 1)) = max (endL (l.take k)) l[k].en) := Lib.hid (by rw [List.take_succ_eq_append_getElem hlt, endL_snoc])
      generalize l[k] = s at *
      obtain ⟨n, hn⟩ : ∃ n, n = endL (l.take k) := ⟨_, rfl⟩
      rw [← hn] at HST ⊢
      clear hn
      by_cases hgt : n ≤ s.en
      · have HN1 : Hid (endL (l.take (k + 1)) = s.en) := Lib.hid (by have := HST.out; omega)
        go_wp2_with fail
        go_roundw
        case rel => exact ⟨k + 1, by omega, by go_num, by rw [HN1.out]; first | rfl | (congr 1; omega) | (simp; omega), HB.out.alloc (by omega) _⟩
        case measure => simp [intOf]; omega
      · have HN1 : Hid (endL (l.take (k + 1)) = n) := Lib.hid (by have := HST.out; omega)
        go_wp2_with fail
        go_roundw
        case rel => exact ⟨k + 1, by omega, by go_num, by rw [HN1.out]; first | rfl | (congr 1; omega) | (simp; omega), HB.out.alloc (by omega) _⟩
        case measure => simp [intOf]; omega
    · have hk1 : ¬ (k : Int) < (l.length : Int) := by omega
      have hkl : k = l.length := by omega
      subst hkl
      go_wp2_with fail
      go_ret
      exact ⟨by rw [← HEQ.out]; rfl, HB1.out.trans (HB.out.mono HB1.out.size)⟩
end Go.Proofs.YtempkjnaahgbhaaGreatDoor
