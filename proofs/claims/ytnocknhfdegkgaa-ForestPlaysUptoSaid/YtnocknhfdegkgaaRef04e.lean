/-
  The walk of the reference's forest's beneath: the spans of a parent, and what stands beneath them. Conditions: the reference's forest lies in memory; nobody stands above itself.
-/
import Derived.Test.YtnocknhfdegkgaaRef04d
import Derived.Test.YtnocknhfdegkgaaForestU
import Derived.Test.YtnocknhfdegkgaaEqB04
namespace Go.Proofs.Ytnocknhfdegkgaa
open Go Go.RowKit Go.Maps

theorem kids_get {L : List Sp} (hn : (L.map Sp.id).Nodup) (p : Int) : (kidIds L p).map (getS L) = kids L p := by
  rw [kidIds, List.map_map]
  conv => rhs; rw [← List.map_id (kids L p)]
  refine List.map_congr_left fun s hs => ?_
  simp only [Function.comp, getS, atS_mem hn (List.mem_filter.1 hs).1, Option.getD_some, id]
theorem brs_one (l : List Br) : ∀ u ∈ l.flatMap Br.cells, u.oneCell' = true := by
  intro u hu
  obtain ⟨b, _, hb⟩ := List.mem_flatMap.1 hu
  exact br_one b u hb
theorem app_blk2 {wr w5 : World} {A5 : Option Addr} {o o2 : Obj} {b : Nat} (hg : ((wr.alloc o).alloc o2).grownBy w5 (A5.map (·.block))) (hal : ∀ j, A5.map (·.block) = some j → b ≤ j ∧ j < wr.heap.size) : w5.heap[wr.heap.size]? = some o :=
  (hg.block wr.heap.size (by simp <;> omega) (fun e => by have := (hal _ e.symm).2; omega)).trans ((Below.heap_alloc _ _ _ (by simp)).trans (heap_alloc_new wr _))
/-- Those of a parent, in their order. -/
def ofParent (L : List Sp) (p : Int) : List Sp := (sortS L).filter fun s => decide (s.pa = p)
theorem kids_sorted {L : List Sp} (hn : (L.map Sp.id).Nodup) (p : Int) : sortS ((kidIds L p).map (getS L)) = ofParent L p := by
  rw [kids_get hn]
  exact (sortS_filter _ L).symm
/-- What is still to come, when k of the sorted spans have been looked at. -/
def benR (L : List Sp) (n dp : Nat) (p : Int) (l : List Sp) (k : Nat) : List Br := ((l.drop k).filter fun s => decide (s.pa = p)).flatMap fun s => ⟨dp, false, s⟩ :: layL L n (dp + 1) false (kidIds L s.id)
theorem benR_no {L : List Sp} {n dp : Nat} {p : Int} {l : List Sp} {k : Nat} (hk : k < l.length) (h : (l[k].pa == p) = false) : benR L n dp p l k = benR L n dp p l (k + 1) := by
  have h' : ¬ l[k].pa = p := by simpa using h
  unfold benR
  rw [List.drop_eq_getElem_cons hk, List.filter_cons_of_neg (by simpa using h')]
theorem benR_yes {L : List Sp} {n dp : Nat} {p : Int} {l : List Sp} {k : Nat} (hk : k < l.length) (h : (l[k].pa == p) = true) : benR L n dp p l k = (⟨dp, false, l[k]⟩ :: layL L n (dp + 1) false (kidIds L l[k].id)) ++ benR L n dp p l (k + 1) := by
  have h' : l[k].pa = p := by simpa using h
  unfold benR
  rw [List.drop_eq_getElem_cons hk, List.filter_cons_of_pos (by simpa using h'), List.flatMap_cons]
theorem benR_end {L : List Sp} {n dp : Nat} {p : Int} {l : List Sp} {k : Nat} (hk : l.length ≤ k) : benR L n dp p l k = [] := by
  unfold benR; rw [List.drop_of_length_le hk]; rfl
theorem benR_start {L : List Sp} (hn : (L.map Sp.id).Nodup) (n dp : Nat) (p : Int) : benR L n dp p (sortS L) 0 = layL L (n + 1) dp false (kidIds L p) := by
  rw [layL, kids_sorted hn]; rfl

set_option maxRecDepth 100000 in
set_option maxHeartbeats 4000000 in
theorem rben_any (x : Nat) (A : Option Addr) (c : Nat) (tr : Int) (L : List Sp) (hn : (L.map Sp.id).Nodup) : ∀ (n dp : Nat) (p : Int) (w : World), dp + n = 65 → Rf w x A c tr L → (layL L n dp false (kidIds L p)).length ≤ 100000 →
    Calls Try.prog 53 #[.pointer (some ⟨x, 0, none⟩), .int .i64 p, .int .i64 dp] w (ResBr w (layL L n dp false (kidIds L p))) := by
  obtain ⟨j0, gi0, gz0, gz1, gz2⟩ := info_parts Try.infoBranch
  intro n
  induction n with
  | zero =>
    intro dp p w hdp hf hlen
    have HF := Lib.hid hf
    have hpc := blk_cell hf.hp
    have hl64 := hf.len
    have hdn : ¬ (dp : Int) ≤ 64 := by omega
    have hsl : (sortS L).length = L.length := sortS_len L
    have hcall := refSort_any A L.length c w.heap.size L w (Nat.le_refl _) (by omega) hf.rd
    clear hf hlen
    generalize sortS L = l at *
    have HCALL := Lib.hid hcall
    have hl64' : l.length ≤ 64 := by omega
    clear hsl hcall
    go_enter Try.func53, Try.ntmps53
    go_wp2_with fail
    refine HCALL.out.mono ?_
    rintro e w1 ⟨A1, c1, rfl, hown1, hb1⟩
    have hz1 := hb1.size
    have HO1 := Lib.hid hown1
    have HB1 := Lib.hid hb1
    clear hown1 hb1 hpc
    go_wp2_with fail
    go_loopw [7, 16] (fun v i wr => ∃ (k : Nat), k ≤ l.length ∧ i = .int .i64 k ∧ v = .slice none 0 0 ∧ Below w1.heap.size w1 wr) (fun _ i _ => l.length - (intOf i).toNat)
    case atStart => exact ⟨0, by omega, rfl, rfl, Below.refl _ _⟩
    case round =>
      obtain ⟨k, hk, rfl, rfl, hb⟩ := hrel
      have HB := Lib.hid hb
      have hzr := hb.size
      clear hb
      by_cases hlt : k < l.length
      · have hk1 : (k : Int) < (l.length : Int) := by omega
        obtain ⟨b1, o1, rfl, hb1, x0, x1, x2, x3, x4, x5⟩ := RdS.at_ (Rd.below' (Rd.of_own HO1.out) HB.out (Nat.le_refl _) (Nat.le_refl _)) hlt
        generalize l[k] = s at *
        cases hq : (s.pa == p)
        all_goals
          go_wp2_with fail
          go_roundw
          case rel => exact ⟨k + 1, by omega, by go_num, rfl, HB.out.alloc hzr _⟩
          case measure => simp [intOf]; omega
      · have hk1 : ¬ (k : Int) < (l.length : Int) := by omega
        go_wp2_with fail
        go_ret
        exact ⟨none, 0, rfl, World.ownsRow_nil _ _ _ _, HB1.out.trans (HB.out.mono hz1)⟩
  | succ n ih =>
    intro dp p w hdp hf hlen
    have HIH := Lib.hid ih
    have HF := Lib.hid hf
    have hpc := blk_cell hf.hp
    have hl64 := hf.len
    have hdn : (dp : Int) ≤ 64 := by omega
    have hsl : (sortS L).length = L.length := sortS_len L
    have HST := Lib.hid (benR_start hn n dp p)
    have HLEN := Lib.hid hlen
    have hcall := refSort_any A L.length c w.heap.size L w (Nat.le_refl _) (by omega) hf.rd
    clear hf hlen ih
    generalize sortS L = l at *
    generalize layL L (n + 1) dp false (kidIds L p) = res at *
    have HSL := Lib.hid hsl
    have HCALL := Lib.hid hcall
    have hl64' : l.length ≤ 64 := by omega
    clear hsl hcall
    go_enter Try.func53, Try.ntmps53
    go_wp2_with fail
    refine HCALL.out.mono ?_
    rintro e w1 ⟨A1, c1, rfl, hown1, hb1⟩
    have hz1 := hb1.size
    have HO1 := Lib.hid hown1
    have HB1 := Lib.hid hb1
    clear hown1 hb1 hpc
    go_wp2_with fail
    go_loopw [7, 16] (fun v i wr => ∃ (k : Nat) (acc : List Br) (A5 : Option Addr) (c5 : Nat), k ≤ l.length ∧ i = .int .i64 k ∧ v = .slice A5 acc.length c5 ∧ wr.ownsRow w1.heap.size 44 8 (.slice A5 acc.length c5) acc.length (acc.flatMap Br.cells) ∧ Below w1.heap.size w1 wr ∧ acc ++ benR L n dp p l k = res) (fun _ i _ => l.length - (intOf i).toNat)
    case atStart => exact ⟨0, [], none, 0, by omega, rfl, rfl, World.ownsRow_nil _ _ _ _, Below.refl _ _, HST.out⟩
    case round =>
      obtain ⟨k, acc, A5, c5, hk, rfl, rfl, hown, hb, hres⟩ := hrel
      have HOWN := Lib.hid hown
      have HB := Lib.hid hb
      have HRES := Lib.hid hres
      have hzr := hb.size
      clear hown hb hres
      by_cases hlt : k < l.length
      · have hk1 : (k : Int) < (l.length : Int) := by omega
        obtain ⟨b1, o1, rfl, hb1, x0, x1, x2, x3, x4, x5⟩ := RdS.at_ (Rd.below' (Rd.of_own HO1.out) HB.out (Nat.le_refl _) (Nat.le_refl _)) hlt
        cases hq : (l[k].pa == p)
        · have HNX := Lib.hid (benR_no (L := L) (n := n) (dp := dp) hlt hq)
          generalize l[k] = s at *
          go_wp2_with fail
          go_roundw
          case rel => exact ⟨k + 1, acc, A5, c5, by omega, by go_num, rfl, HOWN.out.alloc _, HB.out.alloc hzr _, by rw [← HRES.out, HNX.out]⟩
          case measure => simp [intOf]; omega
        · have HNX := Lib.hid (benR_yes (L := L) (n := n) (dp := dp) hlt hq)
          generalize l[k] = s at *
          have hlens : acc.length + 1 + (layL L n (dp + 1) false (kidIds L s.id)).length ≤ 100000 := by
            have h1 := HLEN.out
            rw [← HRES.out, HNX.out] at h1
            simp only [List.length_append, List.length_cons] at h1
            omega
          have hacc : acc.length ≤ 99999 := by omega
          have HLENS := Lib.hid hlens
          clear hlens
          have hal : ∀ j, A5.map (·.block) = some j → w1.heap.size ≤ j ∧ j < wr.heap.size := fun j hj => HOWN.out.lt j (by rw [← hj]; cases A5 <;> rfl)
          have HAL := Lib.hid hal
          clear hal
          go_wp2_with (at_builtin; refine wpList_app _ rfl (.tmp 28) (.tmp 32) _ rfl w1.heap.size 44 j0 _ 8 72 Try.underlying42 gi0 gz0 gz1 gz2 rfl (by omega) _ _ _ _ rfl ((HOWN.out.alloc _).alloc _) (wr.heap.size + 2) _ 1 _ _ rfl (Rd.oneB (by simp) dp false s _ _) (br_one ⟨dp, false, s⟩) (by unfold maxLen; omega) (by omega) (by simp <;> omega) ?_; intro A6 c6 w5 hown5 hg5 _; have hid5 : w5.cell? ⟨wr.heap.size, 1, none⟩ = some (.int .i64 s.id) := blk_cell (app_blk2 hg5 HAL.out) 1)
          have hz5 := hg5.size
          simp at hz5
          have hb5 : Below w1.heap.size w1 w5 := ((HB.out.alloc hzr _).alloc (by simp <;> omega) _).grown hg5 (by simp <;> omega) (fun j hj => (HAL.out j hj).1)
          have HB5 := Lib.hid hb5
          have hln : (acc ++ [(⟨dp, false, s⟩ : Br)]).length = acc.length + 1 := by simp
          have HOWN5 : Hid (w5.ownsRow w1.heap.size 44 8 (.slice A6 (acc.length + 1) c6) (acc.length + 1) ((acc ++ [(⟨dp, false, s⟩ : Br)]).flatMap Br.cells)) := Lib.hid (by
            rw [List.flatMap_append]
            simpa using hown5)
          have HF5 := Lib.hid ((HF.out.below HB1.out (Nat.le_refl _)).below hb5 (by have := HB1.out.size; omega))
          have hih := HIH.out (dp + 1) s.id w5 (by omega) HF5.out (by have := HLENS.out; omega)
          rw [show ((dp + 1 : Nat) : Int) = (dp : Int) + 1 from rfl] at hih
          clear hown5 hg5 hb5 hid5
          refine hih.mono ?_
          rintro e w6 ⟨A7, c7, rfl, hown7, hb7⟩
          have hz7 := hb7.size
          have HRES7 : Hid ((acc ++ [(⟨dp, false, s⟩ : Br)] ++ layL L n (dp + 1) false (kidIds L s.id)) ++ benR L n dp p l (k + 1) = res) := Lib.hid (by
            rw [← HRES.out, HNX.out]; simp)
          have HL7 := Lib.hid (show acc.length + 1 + (layL L n (dp + 1) false (kidIds L s.id)).length ≤ 100000 from HLENS.out)
          generalize layL L n (dp + 1) false (kidIds L s.id) = more at *
          have hm7 : acc.length + 1 + more.length ≤ 100000 := HL7.out
          have HB7 : Hid (Below w1.heap.size w1 w6) := Lib.hid (HB5.out.trans (hb7.mono (by have := HB5.out.size; omega)))
          have HOWN7 : Hid (w6.ownsRow w1.heap.size 44 8 (.slice A6 (acc.length + 1) c6) (acc.length + 1) ((acc ++ [(⟨dp, false, s⟩ : Br)]).flatMap Br.cells)) := Lib.hid (own_below HOWN5.out hb7)
          have HRD7 : Hid (RdBr w6 w6.heap.size A7 more.length more) := Lib.hid (Rd.of_own hown7)
          clear hown7 hb7 hih
          go_wp2_with (at_builtin; refine wpList_app _ rfl (.tmp 34) (.tmp 40) _ rfl w1.heap.size 44 j0 _ 8 72 Try.underlying42 gi0 gz0 gz1 gz2 rfl (by omega) _ _ _ _ rfl HOWN7.out w6.heap.size _ _ _ _ rfl HRD7.out (brs_one _) (by unfold maxLen; omega) (by omega) (by have := HB7.out.size; omega) ?_; intro A8 c8 w8 hown8 hg8 _)
          have hb8 : Below w1.heap.size w1 w8 := below_app HB7.out HOWN7.out hg8 (by have := HB7.out.size; omega)
          go_roundw
          case rel =>
            refine ⟨k + 1, acc ++ [(⟨dp, false, s⟩ : Br)] ++ more, A8, c8, by omega, by go_num, by simp <;> omega, ?_, hb8, HRES7.out⟩
            rw [List.flatMap_append, List.length_append, hln]
            exact hown8
          case measure => simp [intOf]; omega
      · have hk1 : ¬ (k : Int) < (l.length : Int) := by omega
        have hre : acc = res := by
          have := HRES.out
          rw [benR_end (by omega), List.append_nil] at this
          exact this
        subst hre
        go_wp2_with fail
        go_ret
        exact ⟨A5, c5, rfl, own_le HOWN.out hz1, HB1.out.trans (HB.out.mono hz1)⟩
end Go.Proofs.Ytnocknhfdegkgaa
