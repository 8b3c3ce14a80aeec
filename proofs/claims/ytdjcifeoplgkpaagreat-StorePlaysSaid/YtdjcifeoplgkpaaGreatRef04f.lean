/-
  The walk of the reference's forest's beneath: the spans of a parent, and what stands beneath them. Conditions: the reference's forest lies in memory; nobody stands above itself.
  The walk of the reference's forest's Branches: from the top on, then those whose parent is missing. Conditions: the reference's forest lies in memory; its spans were added.
-/
import Derived.Test.YtdjcifeoplgkpaaGreatRef04d
import Derived.Test.YtdjcifeoplgkpaaGreatForestU
import Derived.Test.YtdjcifeoplgkpaaGreatEqB04
import Derived.Test.YtdjcifeoplgkpaaGreatRefSort
namespace Go.Proofs.YtdjcifeoplgkpaaGreat
open Go Go.RowKit Go.Maps

theorem kids_get {L : List Sp} (hn : (L.map Sp.id).Nodup) (p : Int) : (kidIds L p).map (getS L) = kids L p := by
  rw [kidIds, List.map_map]
  conv => rhs; rw [← List.map_id (kids L p)]
  refine List.map_congr_left fun s hs => ?_
  simp only [Function.comp, getS, atS_mem hn (List.mem_filter.1 hs).1, Option.getD_some, id]
theorem brs_one (l : List Br) : ∀ u ∈ l.flatMap Br.cells, u.oneCell' = true := by
  intro u hu
  obtain ⟨b, _, hb⟩ := List.mem_flatMap.1 hu
  exact br_one b u hb
theorem app_blk2 {wr w5 : World} {A5 : Option Addr} {o o2 : Obj} {b : Nat} (hg : ((wr.alloc o).alloc o2).grownBy w5 (A5.map (·.block))) (hal : ∀ j, A5.map (·.block) = some j → b ≤ j ∧ j < wr.heap.size) : w5.heap[wr.heap.size]? = some o :=
  (hg.block wr.heap.size (by simp <;> omega) (fun e => by have := (hal _ e.symm).2; omega)).trans ((Below.heap_alloc _ _ _ (by simp)).trans (heap_alloc_new wr _))
/-- Those of a parent, in their order. -/
def ofParent (L : List Sp) (p : Int) : List Sp := (sortS L).filter fun s => decide (s.pa = p)
theorem kids_sorted {L : List Sp} (hn : (L.map Sp.id).Nodup) (p : Int) : sortS ((kidIds L p).map (getS L)) = ofParent L p := by
  rw [kids_get hn]
  exact (sortS_filter _ L).symm
/-- What is still to come, when k of the sorted spans have been looked at. -/
def benR (L : List Sp) (n dp : Nat) (p : Int) (l : List Sp) (k : Nat) : List Br := ((l.drop k).filter fun s => decide (s.pa = p)).flatMap fun s => ⟨dp, false, s⟩ :: layL L n (dp + 1) false (kidIds L s.id)
theorem benR_no {L : List Sp} {n dp : Nat} {p : Int} {l : List Sp} {k : Nat} (hk : k < l.length) (h : (l[k].pa == p) = false) : benR L n dp p l k = benR L n dp p l (k + 1) := by
  have h' : ¬ l[k].pa = p := by simpa using h
  unfold benR
  rw [List.drop_eq_getElem_cons hk, List.filter_cons_of_neg (by simpa using h')]
theorem benR_yes {L : List Sp} {n dp : Nat} {p : Int} {l : List Sp} {k : Nat} (hk : k < l.length) (h : (l[k].pa == p) = true) : benR L n dp p l k = (⟨dp, false, l[k]⟩ :: layL L n (dp + 1) false (kidIds L l[k].id)) ++ benR L n dp p l (k + 1) := by
  have h' : l[k].pa = p := by simpa using h
  unfold benR
  rw [List.drop_eq_getElem_cons hk, List.filter_cons_of_pos (by simpa using h'), List.flatMap_cons]
theorem benR_end {L : List Sp} {n dp : Nat} {p : Int} {l : List Sp} {k : Nat} (hk : l.length ≤ k) : benR L n dp p l k = [] := by
  unfold benR; rw [List.drop_of_length_le hk]; rfl
theorem benR_start {L : List Sp} (hn : (L.map Sp.id).Nodup) (n dp : Nat) (p : Int) : benR L n dp p (sortS L) 0 = layL L (n + 1) dp false (kidIds L p) := by
  rw [layL, kids_sorted hn]; rfl

set_option maxRecDepth 100000 in
set_option maxHeartbeats 4000000 in
theorem rben_any (x : Nat) (A : Option Addr) (c : Nat) (tr : Int) (L : List Sp) (hn : (L.map Sp.id).Nodup) : ∀ (n dp : Nat) (p : Int) (w : World), dp + n = 65 → Rf w x A c tr L → (layL L n dp false (kidIds L p)).length ≤ 100000 →
    Calls Tryz.prog 87 #[.pointer (some ⟨x, 0, none⟩), .int .i64 p, .int .i64 dp] w (ResBr w (layL L n dp false (kidIds L p))) := by
  obtain ⟨j0, gi0, gz0, gz1, gz2⟩ := info_parts Tryz.infoBranch
  intro n
  induction n with
  | zero =>
    intro dp p w hdp hf hlen
    have HF := Lib.hid hf
    have hpc := blk_cell hf.hp
    have hl64 := hf.len
    have hdn : ¬ (dp : Int) ≤ 64 := by omega
    have hsl : (sortS L).length = L.length := sortS_len L
    have hcall := refSort_any A L.length c w.heap.size L w (Nat.le_refl _) (by omega) hf.rd
    clear hf hlen
    generalize sortS L = l at *
    have HCALL := Lib.hid hcall
    have hl64' : l.length ≤ 64 := by omega
    clear hsl hcall
    go_enter Tryz.func87, Tryz.ntmps87
    go_wp2_with fail
    refine HCALL.out.mono ?_
    rintro e w1 ⟨A1, c1, rfl, hown1, hb1⟩
    have hz1 := hb1.size
    have HO1 := Lib.hid hown1
    have HB1 := Lib.hid hb1
    clear hown1 hb1 hpc
    go_wp2_with fail
    go_loopw [7, 16] (fun v i wr => ∃ (k : Nat), k ≤ l.length ∧ i = .int .i64 k ∧ v = .slice none 0 0 ∧ Below w1.heap.size w1 wr) (fun _ i _ => l.length - (intOf i).toNat)
    case atStart => exact ⟨0, by omega, rfl, rfl, Below.refl _ _⟩
    case round =>
      obtain ⟨k, hk, rfl, rfl, hb⟩ := hrel
      have HB := Lib.hid hb
      have hzr := hb.size
      clear hb
      by_cases hlt : k < l.length
      · have hk1 : (k : Int) < (l.length : Int) := by omega
        obtain ⟨b1, o1, rfl, hb1, x0, x1, x2, x3, x4, x5⟩ := RdS.at_ (Rd.below' (Rd.of_own HO1.out) HB.out (Nat.le_refl _) (Nat.le_refl _)) hlt
        generalize l[k] = s at *
        cases hq : (s.pa == p)
        all_goals
          go_wp2_with fail
          go_roundw
          case rel => exact ⟨k + 1, by omega, by go_num, rfl, HB.out.alloc hzr _⟩
          case measure => simp [intOf]; omega
      · have hk1 : ¬ (k : Int) < (l.length : Int) := by omega
        go_wp2_with fail
        go_ret
        exact ⟨none, 0, rfl, World.ownsRow_nil _ _ _ _, HB1.out.trans (HB.out.mono hz1)⟩
  | succ n ih =>
    intro dp p w hdp hf hlen
    have HIH := Lib.hid ih
    have HF := Lib.hid hf
    have hpc := blk_cell hf.hp
    have hl64 := hf.len
    have hdn : (dp : Int) ≤ 64 := by omega
    have hsl : (sortS L).length = L.length := sortS_len L
    have HST := Lib.hid (benR_start hn n dp p)
    have HLEN := Lib.hid hlen
    have hcall := refSort_any A L.length c w.heap.size L w (Nat.le_refl _) (by omega) hf.rd
    clear hf hlen ih
    generalize sortS L = l at *
    generalize layL L (n + 1) dp false (kidIds L p) = res at *
    have HSL := Lib.hid hsl
    have HCALL := Lib.hid hcall
    have hl64' : l.length ≤ 64 := by omega
    clear hsl hcall
    go_enter Tryz.func87, Tryz.ntmps87
    go_wp2_with fail
    refine HCALL.out.mono ?_
    rintro e w1 ⟨A1, c1, rfl, hown1, hb1⟩
    have hz1 := hb1.size
    have HO1 := Lib.hid hown1
    have HB1 := Lib.hid hb1
    clear hown1 hb1 hpc
    go_wp2_with fail
    go_loopw [7, 16] (fun v i wr => ∃ (k : Nat) (acc : List Br) (A5 : Option Addr) (c5 : Nat), k ≤ l.length ∧ i = .int .i64 k ∧ v = .slice A5 acc.length c5 ∧ wr.ownsRow w1.heap.size 60 8 (.slice A5 acc.length c5) acc.length (acc.flatMap Br.cells) ∧ Below w1.heap.size w1 wr ∧ acc ++ benR L n dp p l k = res) (fun _ i _ => l.length - (intOf i).toNat)
    case atStart => exact ⟨0, [], none, 0, by omega, rfl, rfl, World.ownsRow_nil _ _ _ _, Below.refl _ _, HST.out⟩
    case round =>
      obtain ⟨k, acc, A5, c5, hk, rfl, rfl, hown, hb, hres⟩ := hrel
      have HOWN := Lib.hid hown
      have HB := Lib.hid hb
      have HRES := Lib.hid hres
      have hzr := hb.size
      clear hown hb hres
      by_cases hlt : k < l.length
      · have hk1 : (k : Int) < (l.length : Int) := by omega
        obtain ⟨b1, o1, rfl, hb1, x0, x1, x2, x3, x4, x5⟩ := RdS.at_ (Rd.below' (Rd.of_own HO1.out) HB.out (Nat.le_refl _) (Nat.le_refl _)) hlt
        cases hq : (l[k].pa == p)
        · have HNX := Lib.hid (benR_no (L := L) (n := n) (dp := dp) hlt hq)
          generalize l[k] = s at *
          go_wp2_with fail
          go_roundw
          case rel => exact ⟨k + 1, acc, A5, c5, by omega, by go_num, rfl, HOWN.out.alloc _, HB.out.alloc hzr _, by rw [← HRES.out, HNX.out]⟩
          case measure => simp [intOf]; omega
        · have HNX := Lib.hid (benR_yes (L := L) (n := n) (dp := dp) hlt hq)
          generalize l[k] = s at *
          have hlens : acc.length + 1 + (layL L n (dp + 1) false (kidIds L s.id)).length ≤ 100000 := by
            have h1 := HLEN.out
            rw [← HRES.out, HNX.out] at h1
            simp only [List.length_append, List.length_cons] at h1
            omega
          have hacc : acc.length ≤ 99999 := by omega
          have HLENS := Lib.hid hlens
          clear hlens
          have hal : ∀ j, A5.map (·.block) = some j → w1.heap.size ≤ j ∧ j < wr.heap.size := fun j hj => HOWN.out.lt j (by rw [← hj]; cases A5 <;> rfl)
          have HAL := Lib.hid hal
          clear hal
          go_wp2_with (at_builtin; refine wpList_app _ rfl (.tmp 28) (.tmp 32) _ rfl w1.heap.size 60 j0 _ 8 72 Tryz.underlying57 gi0 gz0 gz1 gz2 rfl (by omega) _ _ _ _ rfl ((HOWN.out.alloc _).alloc _) (wr.heap.size + 2) _ 1 _ _ rfl (Rd.oneB (by simp) dp false s _ _) (br_one ⟨dp, false, s⟩) (by unfold maxLen; omega) (by omega) (by simp <;> omega) ?_; intro A6 c6 w5 hown5 hg5 _; have hid5 : w5.cell? ⟨wr.heap.size, 1, none⟩ = some (.int .i64 s.id) := blk_cell (app_blk2 hg5 HAL.out) 1)
          have hz5 := hg5.size
          simp at hz5
          have hb5 : Below w1.heap.size w1 w5 := ((HB.out.alloc hzr _).alloc (by simp <;> omega) _).grown hg5 (by simp <;> omega) (fun j hj => (HAL.out j hj).1)
          have HB5 := Lib.hid hb5
          have hln : (acc ++ [(⟨dp, false, s⟩ : Br)]).length = acc.length + 1 := by simp
          have HOWN5 : Hid (w5.ownsRow w1.heap.size 60 8 (.slice A6 (acc.length + 1) c6) (acc.length + 1) ((acc ++ [(⟨dp, false, s⟩ : Br)]).flatMap Br.cells)) := Lib.hid (by
            rw [List.flatMap_append]
            simpa using hown5)
          have HF5 := Lib.hid ((HF.out.below HB1.out (Nat.le_refl _)).below hb5 (by have := HB1.out.size; omega))
          have hih := HIH.out (dp + 1) s.id w5 (by omega) HF5.out (by have := HLENS.out; omega)
          rw [show ((dp + 1 : Nat) : Int) = (dp : Int) + 1 from rfl] at hih
          clear hown5 hg5 hb5 hid5
          refine hih.mono ?_
          rintro e w6 ⟨A7, c7, rfl, hown7, hb7⟩
          have hz7 := hb7.size
          have HRES7 : Hid ((acc ++ [(⟨dp, false, s⟩ : Br)] ++ layL L n (dp + 1) false (kidIds L s.id)) ++ benR L n dp p l (k + 1) = res) := Lib.hid (by
            rw [← HRES.out, HNX.out]; simp)
          have HL7 := Lib.hid (show acc.length + 1 + (layL L n (dp + 1) false (kidIds L s.id)).length ≤ 100000 from HLENS.out)
          generalize layL L n (dp + 1) false (kidIds L s.id) = more at *
          have hm7 : acc.length + 1 + more.length ≤ 100000 := HL7.out
          have HB7 : Hid (Below w1.heap.size w1 w6) := Lib.hid (HB5.out.trans (hb7.mono (by have := HB5.out.size; omega)))
          have HOWN7 : Hid (w6.ownsRow w1.heap.size 60 8 (.slice A6 (acc.length + 1) c6) (acc.length + 1) ((acc ++ [(⟨dp, false, s⟩ : Br)]).flatMap Br.cells)) := Lib.hid (own_below HOWN5.out hb7)
          have HRD7 : Hid (RdBr w6 w6.heap.size A7 more.length more) := Lib.hid (Rd.of_own hown7)
          clear hown7 hb7 hih
          go_wp2_with (at_builtin; refine wpList_app _ rfl (.tmp 34) (.tmp 40) _ rfl w1.heap.size 60 j0 _ 8 72 Tryz.underlying57 gi0 gz0 gz1 gz2 rfl (by omega) _ _ _ _ rfl HOWN7.out w6.heap.size _ _ _ _ rfl HRD7.out (brs_one _) (by unfold maxLen; omega) (by omega) (by have := HB7.out.size; omega) ?_; intro A8 c8 w8 hown8 hg8 _)
          have hb8 : Below w1.heap.size w1 w8 := below_app HB7.out HOWN7.out hg8 (by have := HB7.out.size; omega)
          go_roundw
          case rel =>
            refine ⟨k + 1, acc ++ [(⟨dp, false, s⟩ : Br)] ++ more, A8, c8, by omega, by go_num, by simp <;> omega, ?_, hb8, HRES7.out⟩
            rw [List.flatMap_append, List.length_append, hln]
            exact hown8
          case measure => simp [intOf]; omega
      · have hk1 : ¬ (k : Int) < (l.length : Int) := by omega
        have hre : acc = res := by
          have := HRES.out
          rw [benR_end (by omega), List.append_nil] at this
          exact this
        subst hre
        go_wp2_with fail
        go_ret
        exact ⟨A5, c5, rfl, own_le HOWN.out hz1, HB1.out.trans (HB.out.mono hz1)⟩
end Go.Proofs.YtdjcifeoplgkpaaGreat
namespace Go.Proofs.YtdjcifeoplgkpaaGreat
open Go Go.RowKit Go.Maps

theorem layL_fuel {L : List Sp} : ∀ (n m dp : Nat) (o : Bool) (ids : List Int), Fine L n ids → n ≤ m → layL L m dp o ids = layL L n dp o ids := by
  intro n
  induction n with
  | zero => intro m dp o ids h _; rw [show ids = [] from h, layL_nil, layL_nil]
  | succ n ih =>
    intro m dp o ids h hm
    obtain ⟨m, rfl⟩ : ∃ k, m = k + 1 := ⟨m - 1, by omega⟩
    rw [layL, layL]
    have key : ∀ (l : List Sp) (f g : Sp → List Br), (∀ s ∈ l, f s = g s) → l.flatMap f = l.flatMap g := fun l f g hfg => by
      rw [List.flatMap_def, List.flatMap_def, List.map_congr_left hfg]
    refine key _ _ _ fun s hs => ?_
    rw [ih m _ _ _ (h.kid hs).2 (by omega)]
/-- What is still to come of those whose parent is missing. -/
def brR (L : List Sp) (l : List Sp) (k : Nat) : List Br := ((l.drop k).filter (isLost L)).flatMap fun s => ⟨0, true, s⟩ :: layL L 64 1 false (kidIds L s.id)
theorem brR_no {L l : List Sp} {k : Nat} (hk : k < l.length) (h : isLost L l[k] = false) : brR L l k = brR L l (k + 1) := by
  unfold brR; rw [List.drop_eq_getElem_cons hk, List.filter_cons_of_neg (by rw [h]; exact Bool.false_ne_true)]
theorem brR_yes {L l : List Sp} {k : Nat} (hk : k < l.length) (h : isLost L l[k] = true) : brR L l k = (⟨0, true, l[k]⟩ :: layL L 64 1 false (kidIds L l[k].id)) ++ brR L l (k + 1) := by
  unfold brR; rw [List.drop_eq_getElem_cons hk, List.filter_cons_of_pos h, List.flatMap_cons]
theorem brR_end {L l : List Sp} {k : Nat} (hk : l.length ≤ k) : brR L l k = [] := by
  unfold brR; rw [List.drop_of_length_le hk]; rfl
theorem lost_get {L : List Sp} (hn : (L.map Sp.id).Nodup) : (lost L).map (getS L) = L.filter (isLost L) := by
  rw [lost, List.map_map]
  conv => rhs; rw [← List.map_id (L.filter (isLost L))]
  refine List.map_congr_left fun s hs => ?_
  simp only [Function.comp, getS, atS_mem hn (List.mem_filter.1 hs).1, Option.getD_some, id]
theorem br_start {tr : Int} {L : List Sp} (h : Grown tr L) : layL L 65 0 false (kidIds L 0) ++ brR L (sortS L) 0 = branches L := by
  have hl := h.len
  rw [branches, layL_fuel (L.length + 1) 65 0 false _ (top_fine h) (by omega), ← layL_fuel (L.length + 1) 65 0 true _ (lost_fine h) (by omega), show layL L 65 0 true (lost L) = (sortS ((lost L).map (getS L))).flatMap fun s => ⟨0, true, s⟩ :: layL L 64 1 false (kidIds L s.id) from rfl, lost_get h.nodup, ← sortS_filter]
  rfl

theorem br_keep {w5 w6 wr : World} {A5 : Option Addr} {o o2 : Obj} {B : Nat} (hg : ((w5.alloc o).alloc o2).grownBy w6 (A5.map (·.block))) (hal : ∀ j, A5.map (·.block) = some j → B ≤ j ∧ j < wr.heap.size) (h5 : wr.heap.size < w5.heap.size) (j : Nat) : w6.cell? ⟨wr.heap.size, j, none⟩ = w5.cell? ⟨wr.heap.size, j, none⟩ := by
  have e : w6.heap[wr.heap.size]? = w5.heap[wr.heap.size]? := (hg.block wr.heap.size (by simp <;> omega) (fun e => by have := (hal _ e.symm).2; omega)).trans ((Below.heap_alloc _ _ _ (by simp <;> omega)).trans (Below.heap_alloc _ _ _ h5))
  simp only [World.cell?, e]

set_option maxRecDepth 100000 in
set_option maxHeartbeats 4000000 in
theorem rbr_any {w : World} {x : Nat} {A : Option Addr} {c : Nat} {tr : Int} {L : List Sp} (hf : Rf w x A c tr L) (hg : Grown tr L) (hA : ∀ k, A.map (·.block) = some k → k < w.heap.size) :
    Calls Tryz.prog 71 #[.pointer (some ⟨x, 0, none⟩)] w (ResBr w (branches L)) := by
  obtain ⟨j0, gi0, gz0, gz1, gz2⟩ := info_parts Tryz.infoBranch
  have HF := Lib.hid hf
  have hl64 := hf.len
  have hsl : (sortS L).length = L.length := sortS_len L
  have HST := Lib.hid (br_start hg)
  have HLEN : Hid ((branches L).length ≤ 64) := Lib.hid (by
    have := (branches_perm hg).length_eq
    rw [List.length_map] at this; omega)
  have hlen0 : (layL L 65 0 false (kidIds L 0)).length ≤ 64 := by
    have := HLEN.out
    rw [← HST.out, List.length_append] at this; omega
  have hcall0 := rben_any x A c tr L hg.nodup 65 0 0 w (by omega) hf (by omega)
  have HN := Lib.hid hg.nodup
  have HCALL0 := Lib.hid hcall0
  clear hf hg hcall0
  generalize layL L 65 0 false (kidIds L 0) = top at *
  generalize branches L = res at *
  have hsrt : ∀ W : World, Rf W x A c tr L → Calls Tryz.prog 69 #[.slice A L.length c] W (ResS W (sortS L)) := fun W hW => refSort_any A L.length c W.heap.size L W (Nat.le_refl _) (by omega) hW.rd
  have HSRT := Lib.hid hsrt
  clear hsrt
  generalize sortS L = l at *
  have hl64' : l.length ≤ 64 := by omega
  clear hsl
  go_enter Tryz.func71, Tryz.ntmps71
  go_wp2_with fail
  refine HCALL0.out.mono ?_
  rintro e w0 ⟨A0, c0, rfl, hown0, hb0⟩
  have hz0 := hb0.size
  have HO0 := Lib.hid hown0
  have HB0 := Lib.hid hb0
  have HF0 := Lib.hid (HF.out.below hb0 (Nat.le_refl _))
  have hpc := blk_cell HF0.out.hp
  clear hown0 hb0
  go_wp2_with fail
  refine (HSRT.out w0 HF0.out).mono ?_
  rintro e w1 ⟨A1, c1, rfl, hown1, hb1⟩
  have hz1 := hb1.size
  have HO1 := Lib.hid hown1
  have HB1 := Lib.hid hb1
  have HF1 := Lib.hid (HF0.out.below hb1 (Nat.le_refl _))
  have HO01 := Lib.hid (own_below HO0.out hb1)
  have hal0 : ∀ j, A0.map (·.block) = some j → w.heap.size ≤ j ∧ j < w0.heap.size := fun j hj => HO0.out.lt j (by rw [← hj]; cases A0 <;> rfl)
  have HAL0 := Lib.hid hal0
  have HAN : Hid (∀ k, A.map (·.block) = some k → ¬ rowIs A0 k) := Lib.hid (fun k hk he => by
    have h1 := hA k hk
    have h2 := (hal0 k he).1
    omega)
  clear hown1 hb1 hpc hal0 hA
  go_wp2_with fail
  go_loopw [3, 16] (fun v i wr => ∃ (k : Nat) (acc : List Br) (A5 : Option Addr) (c5 : Nat), k ≤ l.length ∧ i = .int .i64 k ∧ v = .slice A5 acc.length c5 ∧ wr.ownsRow w.heap.size 60 8 (.slice A5 acc.length c5) acc.length (acc.flatMap Br.cells) ∧ Fr (rowIs A0) w1 wr ∧ (A5.map (·.block) = A0.map (·.block) ∨ ∃ k, A5.map (·.block) = some k ∧ w1.heap.size ≤ k) ∧ acc ++ brR L l k = res) (fun _ i _ => l.length - (intOf i).toNat)
  case atStart => exact ⟨0, top, A0, c0, by omega, rfl, rfl, HO01.out, Fr.refl _ _, .inl rfl, HST.out⟩
  case round =>
    obtain ⟨k, acc, A5, c5, hk, rfl, rfl, hown, hfr, hloc, hres⟩ := hrel
    have HOWN := Lib.hid hown
    have HFR := Lib.hid hfr
    have HRES := Lib.hid hres
    have HLOC := Lib.hid hloc
    have hzr := hfr.size
    clear hown hfr hres hloc
    by_cases hlt : k < l.length
    · have hk1 : (k : Int) < (l.length : Int) := by omega
      have hown1 : wr.ownsRow w0.heap.size 38 6 (.slice A1 l.length c1) l.length (l.flatMap Sp.cells) := own_fr' HO1.out HFR.out (fun k hk he => by
        have h1 := (HO1.out.lt k hk).1
        have h2 := (HAL0.out k he).2
        omega)
      obtain ⟨b1, o1, ea, hb1, x0, x1, x2, x3, x4, x5⟩ := RdS.at_ (Rd.of_own hown1) hlt
      clear hown1
      have HFW : Hid (Rf wr x A c tr L) := Lib.hid (HF1.out.fr HFR.out (fun he => by
        have h1 := HF.out.lt
        have h2 := (HAL0.out _ he).1
        omega) (fun k hk he => HAN.out k hk he))
      have hal : ∀ j, A5.map (·.block) = some j → w.heap.size ≤ j ∧ j < wr.heap.size := fun j hj => HOWN.out.lt j (by rw [← hj]; cases A5 <;> rfl)
      have HAL := Lib.hid hal
      clear hal
      generalize hs : l[k] = s at *
      have HS := Lib.hid hs
      clear hs
      subst ea
      have HB0' : Hid (Below wr.heap.size wr (wr.alloc (.cells #[.int .i64 s.tr, .int .i64 s.id, .int .i64 s.pa, .int .i64 s.st, .int .i64 s.en, .string s.nm] 38))) := Lib.hid ((Below.refl _ _).alloc (Nat.le_refl _) _)
      go_wp2_with fail
      refine (rfind_any (HFW.out.below HB0'.out (Nat.le_refl _)) s.pa).mono ?_
      rintro e w5 ⟨rfl, hb5'⟩
      have hz5 := hb5'.size
      simp at hz5
      have hlt5 : wr.heap.size < w5.heap.size := by omega
      have hsc : ∀ j, w5.cell? ⟨wr.heap.size, j, none⟩ = (#[.int .i64 s.tr, .int .i64 s.id, .int .i64 s.pa, .int .i64 s.st, .int .i64 s.en, .string s.nm] : Array Value)[j]? := blk_cell (blk_below hb5' (by simp) (heap_alloc_new wr _))
      have hblk5 := blk_below hb5' (by simp) (heap_alloc_new wr (.cells #[.int .i64 s.tr, .int .i64 s.id, .int .i64 s.pa, .int .i64 s.st, .int .i64 s.en, .string s.nm] 38))
      have HBLK5 := Lib.hid hblk5
      have HBW : Hid (Below wr.heap.size wr w5) := Lib.hid (HB0'.out.trans (hb5'.mono (by simp)))
      clear hb5' hblk5
      have HOWN5 := Lib.hid (own_below HOWN.out HBW.out)
      have HFR5 : Hid (Fr (rowIs A0) w1 w5) := Lib.hid (HFR.out.trans (Fr.of_below HBW.out))
      generalize getS L s.pa = y at *
      by_cases hpa : s.pa = 0
      · have HNX := Lib.hid (brR_no (L := L) (l := l) hlt (by rw [HS.out]; simp [isLost, hpa]))
        have hpb : (s.pa == 0) = true := by simpa using hpa
        clear hpa
        go_wp2_with fail
        go_roundw
        case rel => exact ⟨k + 1, acc, A5, c5, by omega, by go_num, rfl, HOWN5.out.alloc _, HFR5.out.alloc _, HLOC.out, by rw [← HRES.out, HNX.out]⟩
        case measure => simp [intOf]; omega
      · have hpb : (s.pa == 0) = false := by simpa using hpa
        cases hat : atS L s.pa with
        | some u =>
          have HNX := Lib.hid (brR_no (L := L) (l := l) hlt (by rw [HS.out]; simp [isLost, hat]))
          clear hpa hat
          go_wp2_with fail
          go_roundw
          case rel => exact ⟨k + 1, acc, A5, c5, by omega, by go_num, rfl, HOWN5.out.alloc _, HFR5.out.alloc _, HLOC.out, by rw [← HRES.out, HNX.out]⟩
          case measure => simp [intOf]; omega
        | none =>
          have HNX := Lib.hid (brR_yes (L := L) (l := l) hlt (by rw [HS.out]; simp [isLost, hat, hpa]))
          have hnx := HNX.out
          rw [HS.out] at hnx
          have HNX2 := Lib.hid hnx
          clear hpa hat hnx HNX
          have hlens : acc.length + 1 + (layL L 64 1 false (kidIds L s.id)).length ≤ 64 := by
            have h1 := HLEN.out
            rw [← HRES.out, HNX2.out] at h1
            simp only [List.length_append, List.length_cons] at h1
            omega
          have hacc : acc.length ≤ 63 := by omega
          have HLENS := Lib.hid hlens
          clear hlens
          have hal5 : ∀ j, A5.map (·.block) = some j → w.heap.size ≤ j ∧ j < wr.heap.size := HAL.out
          have HAL5 := Lib.hid hal5
          clear hal5
          go_wp2_with (at_builtin; refine wpList_app _ rfl (.tmp 33) (.tmp 36) _ rfl w.heap.size 60 j0 _ 8 72 Tryz.underlying57 gi0 gz0 gz1 gz2 rfl (by omega) _ _ _ _ rfl ((HOWN5.out.alloc _).alloc _) (w5.heap.size + 2) _ 1 _ _ rfl (Rd.oneB (by simp) 0 true s _ _) (br_one ⟨0, true, s⟩) (by unfold maxLen; omega) (by omega) (by simp <;> omega) ?_; intro A6 c6 w6 hown6 hg6 hl6; have hid6 : w6.cell? ⟨wr.heap.size, 1, none⟩ = some (.int .i64 s.id) := (br_keep hg6 HAL5.out hlt5 1).trans (hsc 1))
          have hz6 := hg6.size
          simp at hz6
          have HFR6 : Hid (Fr (rowIs A0) w1 w6) := Lib.hid (((HFR5.out.alloc _).alloc _).step (Fr.of_grown (S := rowIs A5) hg6 (fun k hk => hk)) (fun j hj => by
            rcases HLOC.out with h | ⟨k, h, hk⟩
            · left; unfold rowIs at hj ⊢; rw [← h]; exact hj
            · right; unfold rowIs at hj; rw [h] at hj; have := Option.some.inj hj; omega))
          have HLOC6 : Hid (A6.map (·.block) = A0.map (·.block) ∨ ∃ k, A6.map (·.block) = some k ∧ w1.heap.size ≤ k) := Lib.hid (by
            rcases hl6 with h | h
            · rw [h]; exact HLOC.out
            · exact .inr ⟨_, h, by simp <;> omega⟩)
          have hln : (acc ++ [(⟨0, true, s⟩ : Br)]).length = acc.length + 1 := by simp
          have HOWN6 : Hid (w6.ownsRow w.heap.size 60 8 (.slice A6 (acc.length + 1) c6) (acc.length + 1) ((acc ++ [(⟨0, true, s⟩ : Br)]).flatMap Br.cells)) := Lib.hid (by
            rw [List.flatMap_append]
            simpa using hown6)
          have HF6 : Hid (Rf w6 x A c tr L) := Lib.hid (HF1.out.fr HFR6.out (fun he => by
            have h1 := HF.out.lt
            have h2 := (HAL0.out _ he).1
            omega) (fun k hk he => HAN.out k hk he))
          have hcall := rben_any x A c tr L HN.out 64 1 s.id w6 (by omega) HF6.out (by have := HLENS.out; omega)
          rw [show ((1 : Nat) : Int) = 1 from rfl] at hcall
          clear hown6 hg6 hl6 hid6
          refine hcall.mono ?_
          rintro e w7 ⟨A7, c7, rfl, hown7, hb7⟩
          have hz7 := hb7.size
          have HRES7 : Hid ((acc ++ [(⟨0, true, s⟩ : Br)] ++ layL L 64 1 false (kidIds L s.id)) ++ brR L l (k + 1) = res) := Lib.hid (by
            rw [← HRES.out, HNX2.out]; simp)
          have HL7 := Lib.hid (show acc.length + 1 + (layL L 64 1 false (kidIds L s.id)).length ≤ 64 from HLENS.out)
          generalize layL L 64 1 false (kidIds L s.id) = more at *
          have hm7 : acc.length + 1 + more.length ≤ 64 := HL7.out
          have HFR7 : Hid (Fr (rowIs A0) w1 w7) := Lib.hid (HFR6.out.trans (Fr.of_below hb7))
          have HOWN7 : Hid (w7.ownsRow w.heap.size 60 8 (.slice A6 (acc.length + 1) c6) (acc.length + 1) ((acc ++ [(⟨0, true, s⟩ : Br)]).flatMap Br.cells)) := Lib.hid (own_below HOWN6.out hb7)
          have HRD7 : Hid (RdBr w7 w7.heap.size A7 more.length more) := Lib.hid (Rd.of_own hown7)
          clear hown7 hb7 hcall
          go_wp2_with (at_builtin; refine wpList_app _ rfl (.tmp 38) (.tmp 42) _ rfl w.heap.size 60 j0 _ 8 72 Tryz.underlying57 gi0 gz0 gz1 gz2 rfl (by omega) _ _ _ _ rfl HOWN7.out w7.heap.size _ _ _ _ rfl HRD7.out (brs_one _) (by unfold maxLen; omega) (by omega) (by omega) ?_; intro A8 c8 w8 hown8 hg8 hl8)
          have HFR8 : Hid (Fr (rowIs A0) w1 w8) := Lib.hid (HFR7.out.step (Fr.of_grown (S := rowIs A6) hg8 (fun k hk => hk)) (fun j hj => by
            rcases HLOC6.out with h | ⟨k, h, hk⟩
            · left; unfold rowIs at hj ⊢; rw [← h]; exact hj
            · right; unfold rowIs at hj; rw [h] at hj; have := Option.some.inj hj; omega))
          have HLOC8 : Hid (A8.map (·.block) = A0.map (·.block) ∨ ∃ k, A8.map (·.block) = some k ∧ w1.heap.size ≤ k) := Lib.hid (by
            rcases hl8 with h | h
            · rw [h]; exact HLOC6.out
            · exact .inr ⟨_, h, by omega⟩)
          go_roundw
          case rel =>
            refine ⟨k + 1, acc ++ [(⟨0, true, s⟩ : Br)] ++ more, A8, c8, by omega, by go_num, by simp <;> omega, ?_, HFR8.out, HLOC8.out, HRES7.out⟩
            rw [List.flatMap_append, List.length_append, hln]
            exact hown8
          case measure => simp [intOf]; omega
    · have hk1 : ¬ (k : Int) < (l.length : Int) := by omega
      have hre : acc = res := by
        have := HRES.out
        rw [brR_end (by omega), List.append_nil] at this
        exact this
      subst hre
      go_wp2_with fail
      go_ret
      exact ⟨A5, c5, rfl, HOWN.out, ((HB0.out.trans (HB1.out.mono hz0)).trans (HFR.out.below (by omega) (fun k hk => (HAL0.out k hk).1)))⟩
end Go.Proofs.YtdjcifeoplgkpaaGreat
