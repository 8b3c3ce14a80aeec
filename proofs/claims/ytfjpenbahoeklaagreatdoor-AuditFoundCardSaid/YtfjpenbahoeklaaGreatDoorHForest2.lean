/-
  The walk of a forest's Branches: from the top on, then those whose parent is missing. Conditions: the forest lies in memory as New and Add made it.
  The walk of a forest's Spans: all of them, sorted. Conditions: the forest lies in memory as New and Add made it.
  The walk of a forest's End. Conditions: the forest lies in memory.
  The walk of a forest's Add: what came of each span, and the forest behind it. Conditions: the forest lies in memory as New made it, the spans read as a list.
-/
import Derived.Test.YtfjpenbahoeklaaGreatDoorHForest3
import Derived.Test.YtfjpenbahoeklaaGreatDoorHSorted
import Derived.Test.YtfjpenbahoeklaaGreatDoorHPut
namespace Go.Proofs.YtfjpenbahoeklaaGreatDoor
open Go Go.RowKit Go.Maps

/-- Those whose parent is missing. -/
def isLost (L : List Sp) (s : Sp) : Bool := decide (s.pa ≠ 0) && (atS L s.pa).isNone
def lost (L : List Sp) : List Int := (L.filter (isLost L)).map Sp.id
/-- The branches of a forest. -/
def branches (L : List Sp) : List Br := layL L (L.length + 1) 0 false (kidIds L 0) ++ layL L (L.length + 1) 0 true (lost L)
def ResBr (w : World) (l : List Br) (e : Ending) (w' : World) : Prop :=
  ∃ A c, e = .returned (.slice A l.length c) ∧ w'.ownsRow w.heap.size 115 8 (.slice A l.length c) l.length (l.flatMap Br.cells) ∧ Below w.heap.size w w'
theorem Fo.bag {w : World} {p a d : Nat} {tr : Int} {L : List Sp} {S : Nat → Prop} (h : Fo w p a d tr L S) : FoB w a d L S := ⟨h.all, h.down.mono (fun _ hk => hk.1), h.sa, h.sd, h.lt⟩
theorem invI : ∀ key kl, keyOf Tryz.prog 3 key = some kl → ∃ x, key = Value.int .i64 x := fun key kl h => by
  obtain ⟨x, rfl, _⟩ := keyOf_int_inv Tryz.underlying3 h; exact ⟨x, rfl⟩
theorem invS : ∀ (v : Value) (y : DataW Sp × List MemPlace), spElem v = some y → ∃ c : Sp, v = c.val := fun v y h => by
  obtain ⟨s, rfl, _⟩ := spElem_inv h; exact ⟨s, rfl⟩
/-- What has come of a map's entries. -/
def come (L : List Sp) (left : Lit → Bool) : List Sp := L.filter fun s => !left (.int .i64 s.id)
theorem come_start {L : List Sp} (hn : (L.map Sp.id).Nodup) {D : DataW Sp} (h : DOf D L) : come L (Maps.has D) = [] := by
  refine List.filter_eq_nil_iff.2 fun s hs => ?_
  rw [h.has, atS_mem hn hs]; simp
theorem come_end (L : List Sp) {left : Lit → Bool} (h : ∀ kl, left kl = false) : come L left = L := List.filter_eq_self.2 fun s _ => by rw [h]; rfl
theorem come_step {L : List Sp} (hn : (L.map Sp.id).Nodup) {left : Lit → Bool} {s : Sp} (hs : s ∈ L) (hl : left (.int .i64 s.id) = true) :
    (come L fun z => left z && !z.sameKey (.int .i64 s.id)).Perm (come L left ++ [s]) := by
  induction L with
  | nil => cases hs
  | cons a L ih =>
    rw [List.map_cons, List.nodup_cons] at hn
    unfold come
    rcases List.mem_cons.1 hs with rfl | hs
    · have e : (L.filter fun t => !(left (.int .i64 t.id) && !(Lit.int .i64 t.id).sameKey (.int .i64 s.id))) = L.filter fun t => !left (.int .i64 t.id) := by
        refine List.filter_congr fun t ht => ?_
        have hne : t.id ≠ s.id := fun e => hn.1 (List.mem_map.2 ⟨t, ht, e⟩)
        rw [sameKey_ne (ne_lit hne)]; simp
      have e2 : (Lit.int .i64 s.id).sameKey (.int .i64 s.id) = true := by simp [Lit.sameKey]
      rw [List.filter_cons_of_pos (by simp [e2]), List.filter_cons_of_neg (by simp [hl]), e]
      exact (List.perm_append_singleton s _).symm
    · have ih := ih hn.2 hs
      have hne : a.id ≠ s.id := fun e => hn.1 (List.mem_map.2 ⟨s, hs, e.symm⟩)
      have e2 : (Lit.int .i64 a.id).sameKey (.int .i64 s.id) = false := sameKey_ne (ne_lit hne)
      cases ha : left (.int .i64 a.id)
      · rw [List.filter_cons_of_pos (by simp [ha]), List.filter_cons_of_pos (by simp [ha])]
        exact ih.cons a
      · rw [List.filter_cons_of_neg (by simp [ha, e2]), List.filter_cons_of_neg (by simp [ha])]
        exact ih
/-- An entry that comes out is a span of the forest. -/
theorem come_mem {L : List Sp} {D : DataW Sp} (h : DOf D L) {x : Int} {c : Sp} {y : DataW Sp × List MemPlace} (hy : spElem c.val = some y) (hat : ∀ zd, D.atKey (.int .i64 x) zd = y.1) : atS L x = some c := by
  have h1 := has_true_of_atKey hat
  rw [h.has] at h1
  obtain ⟨s, hs⟩ := Option.isSome_iff_exists.1 h1
  rw [spElem_mk] at hy
  cases hy
  have := h.at_ x s hs (.held c)
  rw [hat] at this
  cases this
  exact hs

theorem layL_perm {L : List Sp} {n dp : Nat} {o : Bool} {l m : List Int} (h : l.Perm m) : layL L (n + 1) dp o l = layL L (n + 1) dp o m := by
  rw [layL, layL, sortS_congr (h.map _)]
theorem lost_anti {L : List Sp} (hn : (L.map Sp.id).Nodup) {l : List Int} (h : l.Perm (lost L)) : Anti L l := by
  refine ⟨h.nodup_iff.2 ((List.Sublist.map _ List.filter_sublist).nodup hn), fun i hi j hj m hm => ?_⟩
  cases m with
  | zero => rfl
  | succ m =>
    obtain ⟨s, hs, rfl⟩ := List.mem_map.1 (h.mem_iff.1 hi)
    obtain ⟨h1, h2⟩ := List.mem_filter.1 hs
    rw [it_one (atS_mem hn h1)] at hm
    have hno : atS L s.pa = none := by
      simp only [isLost, Bool.and_eq_true, Option.isNone_iff_eq_none] at h2; exact h2.2
    cases m with
    | zero =>
      obtain ⟨t, ht, rfl⟩ := List.mem_map.1 (h.mem_iff.1 hj)
      have := atS_mem hn (List.mem_filter.1 ht).1
      rw [← Option.some.inj hm, hno] at this
      cases this
    | succ m => obtain ⟨t, ht, _⟩ := it_here hm; rw [hno] at ht; cases ht
theorem Rd.oneI {w : World} {H : Nat} (hH : w.heap.size = H) (z : Int) (t : TypeId) (fr : Nat × Nat) : Rd (w.alloc (.cells #[.int .i64 z] t fr)) (H + 1) 1 (some ⟨H, 0, none⟩) 1 [Value.int .i64 z] := Rd.new hH rfl (fun j hj => by match j, hj with | 0, _ => rfl)
theorem br_ne {w : World} {base sz n c m k : Nat} {e : TypeId} {A : Option Addr} {xs : List Value} (h : w.ownsRow base e sz (.slice A n c) m xs) (hk : k < base) : some k ≠ A.map (·.block) := by
  intro he
  have := (h.lt k (by rw [he]; cases A <;> rfl)).1
  omega
theorem come_lt {L : List Sp} {left left' : Lit → Bool} {acc : List Int} {c : Sp} (h : acc.Perm (((come L left).filter (isLost L)).map Sp.id)) (h2 : (come L left').Perm (come L left ++ [c])) (h3 : isLost L c = true) : acc.length < L.length := by
  have e1 := h.length_eq
  rw [List.length_map] at e1
  have e2 := (h2.filter (isLost L)).length_eq
  rw [List.filter_append, List.filter_cons_of_pos h3, List.length_append] at e2
  have e3 : ((come L left').filter (isLost L)).length ≤ L.length := Nat.le_trans (List.length_filter_le _ _) (List.length_filter_le _ _)
  simp at e2
  omega
theorem br_facts {w w2 w3 : World} {a r : Nat} {D : DataW Sp} {left : Lit → Bool} {cnt n n2 c2 base : Nat} {A2 : Option Addr} {xs : List Value} {SF : Nat → Prop} (hbw : Below w.heap.size w w3) (hrg : w3.ranges Tryz.prog 3 spElem a r n D left cnt)
    (hown : w3.ownsRow base 3 1 (.slice A2 n2 c2) n2 xs) (hfr : Fr SF w2 w3) (c x : Sp) (W : World) (hW : W = ((w3.alloc (.cells #[.int .i64 c.tr, .int .i64 c.id, .int .i64 c.pa, .int .i64 c.st, .int .i64 c.en, .string c.nm] 93)).alloc (.cells #[.int .i64 x.tr, .int .i64 x.id, .int .i64 x.pa, .int .i64 x.st, .int .i64 x.en, .string x.nm] 93)).drew) :
    (∀ j, W.cell? ⟨w3.heap.size, j, none⟩ = (#[.int .i64 c.tr, .int .i64 c.id, .int .i64 c.pa, .int .i64 c.st, .int .i64 c.en, .string c.nm] : Array Value)[j]?) ∧ Below w.heap.size w W ∧ W.ranges Tryz.prog 3 spElem a r n D left cnt ∧ W.ownsRow base 3 1 (.slice A2 n2 c2) n2 xs ∧ Fr SF w2 W ∧ W.heap.size = w3.heap.size + 2 := by
  subst hW
  have hs := hbw.size
  refine ⟨blk_cell (blk_below (((Below.refl (w3.heap.size + 1) _).alloc (by simp) _).drew) (by omega) (heap_alloc_new w3 _)), ((hbw.alloc hs _).alloc (by simp <;> omega) _).drew, (hrg.alloc _).alloc _, (hown.alloc _).alloc _, ((hfr.alloc _).alloc _).drew, by simp [World.drew, -World.drew_eq]⟩

set_option maxRecDepth 100000 in
set_option maxHeartbeats 4000000 in
theorem branches_any {w : World} {p a d : Nat} {tr : Int} {L : List Sp} {S : Nat → Prop} (h : Fo w p a d tr L S) :
    Calls Tryz.prog 125 #[.pointer (some ⟨p, 0, none⟩)] w (ResBr w (branches L)) := by
  obtain ⟨i0, hi0, gz0, gz1, gz2⟩ := info_parts Tryz.infoInt
  have hnd := h.gr.nodup
  have hacy := h.gr.acy
  have hlen := h.gr.len
  have HF := Lib.hid h
  have HND := Lib.hid hnd
  have HACY := Lib.hid hacy
  have hpl := h.lt p h.sp
  have hwid : ∀ s ∈ L, wfI s.id := fun s hs => by have := ok_bounds (fits_ok (h.gr.fits s hs)).1; exact wfI_of (by omega) (by omega)
  have HWID := Lib.hid hwid
  obtain ⟨A0, c0, hlk, hown0, _⟩ := h.down.look (x := 0) (wfI_of (by omega) (by omega))
  have HLK0 : Hid (∀ W, Below w.heap.size w W → (Instr.lookup 235 (.map (some d)) (.int .i64 0) false).run Tryz.prog W = .ok (.slice A0 (kidIds L 0).length c0) W) := Lib.hid (fun W hW => hlk W (hW.block d (h.lt d h.sd)))
  have HRI : Hid (RdI w w.heap.size A0 (kidIds L 0).length (kidIds L 0)) := Lib.hid (Rd.of_own hown0)
  have HP : Hid (∀ W, Below w.heap.size w W → (∀ j, W.cell? ⟨p, j, none⟩ = (#[.map (some a), .map (some d), .int .i64 tr] : Array Value)[j]?)) := Lib.hid (fun W hW => blk_cell (h.below hW (Nat.le_refl _)).hp)
  have hkl : (kidIds L 0).length ≤ L.length := by rw [kidIds, List.length_map]; exact List.length_filter_le _ _
  have hfk : Fine L (L.length + 1) (kidIds L 0) := fine_ids hnd hacy (fun i hi => let ⟨s, hs, _⟩ := kid_mem hnd hi; ⟨s, hs⟩)
  have hle0 := laid_le hnd hacy (dp := 0) (o := false) hfk (kids_anti hnd hacy 0)
  have HFK := Lib.hid hfk
  have HLE0 := Lib.hid hle0
  clear h hnd hacy hlk hown0 hwid hfk hle0
  go_enter Tryz.func125, Tryz.ntmps125
  go_wp2_with fail
  refine (fmade_any HF.out).mono ?_
  rintro e w1 ⟨rfl, rfl⟩
  go_wp2_with fail
  have HB : Hid (w.heap.size ≤ w.heap.size) := Lib.hid (Nat.le_refl _)
  refine wp_region_sched [(0, true), (1, true), (2, true), (3, true), (4, true), (5, true), (6, true), (7, true), (8, true), (9, true), (10, true), (11, false), (12, true)] (fun W => Below w.heap.size w W) (by kernel_rfl) (by kernel_rfl) rfl (by kernel_rfl) ((Below.refl _ _).drew) ?_
  repeat (first | (apply sched_take rfl; (focus (first | rfl | (go_simp; done))); (focus (intro W hW; have g1 := HP.out W hW; have g2 := HLK0.out W hW; go_simp; rfl)); (focus (intro K hK; go_simp; refine hK _ ?_; clear hK K))) | (apply sched_skip rfl; (focus (first | rfl | (go_simp; done))); (focus (intro K hK; go_simp; refine hK _ ?_; clear hK K))))
  apply sched_op rfl
  intro K hK
  go_simp
  go_wp2_with (fail)
  refine (lay_any a d L S HWID.out hlen (L.length + 1) (kidIds L 0) 0 false [] w.heap.size w.heap.size none 0 A0 c0 w.drew (HF.out.bag.below (Below.refl _ _).drew) HFK.out (by omega) (by omega) (by have := HLE0.out; simp only [List.length_nil]; omega) (World.ownsRow_nil _ _ _ _) (Nat.le_refl _) (fun k _ hr => by cases hr) HRI.out (Nat.le_refl _)).mono ?_
  rintro e w1 ⟨A1, c1, rfl, hown1, hfr1, _⟩
  rw [List.nil_append] at hown1 ⊢
  have hb1 : Below w.heap.size w w1 := ⟨hfr1.os, hfr1.tape, hfr1.output, hfr1.size, fun k hk => hfr1.block k hk (fun hr => by cases hr)⟩
  go_wp2_with fail
  refine ⟨by exact hb1, ?_⟩
  repeat (first | (apply sched_take rfl; (focus (first | rfl | (go_simp; done))); (focus (intro W hW; have g1 := HP.out W hW; have g2 := HLK0.out W hW; go_simp; rfl)); (focus (intro K hK; go_simp; refine hK _ ?_; clear hK K))) | (apply sched_skip rfl; (focus (first | rfl | (go_simp; done))); (focus (intro K hK; go_simp; refine hK _ ?_; clear hK K))))
  refine sched_nil ?_
  have hz1 := hb1.size
  have HO1 := Lib.hid hown1
  have HB1 := Lib.hid hb1
  obtain ⟨D, hD, hDof⟩ := (HF.out.below hb1 (Nat.le_refl _)).all
  have HD := Lib.hid hD
  have HDOF := Lib.hid hDof
  have hpc := HP.out w1 hb1
  have hL0 : (layL L (L.length + 1) 0 false (kidIds L 0)).length ≤ 64 := by have := HLE0.out; omega
  have HBR : Hid (branches L = layL L (L.length + 1) 0 false (kidIds L 0) ++ layL L (L.length + 1) 0 true (lost L)) := Lib.hid rfl
  generalize layL L (L.length + 1) 0 false (kidIds L 0) = top at *
  clear hown1 hfr1 hb1 hD hDof
  go_wp2_with (at_range; refine wpList_range_own _ rfl _ 233 rfl 3 93 keyLaw Tryz.underlying233 spElem a L.length D rfl HD.out ?_; intro w2 hrg0 hg0 hs0)
  go_frame
  have HRG0 := Lib.hid hrg0
  have hal : a < w1.heap.size := HD.out.lt
  have HG0 := Lib.hid hg0
  clear hrg0 hg0
  go_loopw [4] (fun v wr => ∃ (left : Lit → Bool) (cnt : Nat) (acc : List Int) (A2 : Option Addr) (c2 : Nat), v = .slice A2 acc.length c2 ∧ acc.length ≤ 64 ∧ wr.ranges Tryz.prog 3 spElem a w1.heap.size L.length D left cnt ∧ wr.ownsRow (w1.heap.size + 1) 3 1 (.slice A2 acc.length c2) acc.length (acc.map (Value.int .i64)) ∧
      Fr (fun k => k = w1.heap.size) w2 wr ∧ acc.Perm (((come L left).filter (isLost L)).map Sp.id)) (fun _ wr => wr.rangeLeft a w1.heap.size)
  case atStart => exact ⟨_, _, [], none, 0, rfl, by simp, HRG0.out, World.ownsRow_nil _ _ _ _, Fr.refl _ _, by rw [come_start HND.out HDOF.out]; exact List.Perm.refl _⟩
  case round =>
    obtain ⟨left, cnt, acc, A2, c2, rfl, hacc, hrg, hown2, hfr, hperm⟩ := hrel
    have HRG := Lib.hid hrg
    have HO2 := Lib.hid hown2
    have HFR := Lib.hid hfr
    have HPM := Lib.hid hperm
    have hszr := hfr.size
    have hbw : Below w.heap.size w wr := HB1.out.trans ((below_none HG0.out (by omega)).trans (hfr.below (by omega) (fun k hk => by omega)))
    have HBW := Lib.hid hbw
    have hpcr := HP.out wr hbw
    clear hrg hown2 hfr hperm hbw hpc
    go_wp2_with (at_next; refine wpList_next_ranges _ rfl _ rfl 3 keyLaw spElem (Value.int .i64) Sp.val invI invS a w1.heap.size L.length D left cnt rfl HRG.out ?_ ?_)
    · intro _ hl0
      have hp2 := HPM.out
      rw [come_end L hl0] at hp2
      have HP2 : Hid (acc.Perm (lost L)) := Lib.hid hp2
      have HA1 : Hid (∀ k, rowIs A1 k → w.heap.size ≤ k ∧ k < w1.heap.size) := Lib.hid (fun k hk => HO1.out.lt k (by rw [← hk]; cases A1 <;> rfl))
      have hotop : wr.ownsRow w.heap.size 115 8 (.slice A1 top.length c1) top.length (top.flatMap Br.cells) := own_fr' (own_below HO1.out (below_none HG0.out (Nat.le_refl _))) HFR.out (fun k hk he => by
        have := (HO1.out.lt k hk).2
        omega)
      have hfac : Fine L (L.length + 1) acc := fine_ids HND.out HACY.out (fun i hi => by
        obtain ⟨s, hs, rfl⟩ := List.mem_map.1 (hp2.mem_iff.1 hi)
        exact ⟨s, atS_mem HND.out (List.mem_filter.1 hs).1⟩)
      have hlaid := laid_le HND.out HACY.out (n := L.length + 1) (dp := 0) (o := true) (ids := acc) hfac (lost_anti HND.out hp2)
      have hri : RdI wr wr.heap.size A2 acc.length acc := Rd.of_own HO2.out
      have hcall := lay_any a d L S HWID.out hlen (L.length + 1) acc 0 true top w.heap.size wr.heap.size A1 c1 A2 c2 wr (HF.out.bag.below HBW.out) hfac (by omega) (by omega) (by omega) hotop (by omega) (fun k hk hr => by
        have h1 := HF.out.lt k hk
        have h2 := (HA1.out k hr).1
        omega) hri (Nat.le_refl _)
      rw [layL_perm HP2.out, ← HBR.out] at hcall
      have HCALL := Lib.hid hcall
      clear hp2 hotop hfac hlaid hri hcall hl0
      go_wp2_with fail
      refine HCALL.out.mono ?_
      rintro e w3 ⟨A3, c3, rfl, hown3, hfr3, _⟩
      go_wp2_with fail
      go_ret
      exact ⟨A3, c3, rfl, hown3, HBW.out.trans (hfr3.below (by omega) (fun k hk => (HA1.out k hk).1))⟩
    · intro x c kl y ps w3 cnt3 hkey hleft hy hat hrg3 hlt3 hg3 hs3 hen
      obtain ⟨x', ex, rfl, _⟩ := keyOf_int_inv Tryz.underlying3 hkey
      cases ex
      have hat2 := come_mem HDOF.out (y := (y, ps)) hy hat
      have hcid := (atS_some hat2).2
      have hcm := (atS_some hat2).1
      subst hcid
      have HSTEP : Hid ((come L fun z => left z && !z.sameKey (.int .i64 c.id)).Perm (come L left ++ [c])) := Lib.hid (come_step HND.out hcm hleft)
      have hb3 : Below w1.heap.size wr w3 := (Below.refl _ _).grown hg3 (by omega) (fun k hk => by cases hk; exact Nat.le_refl _)
      have HBW3 : Hid (Below w.heap.size w w3) := Lib.hid (HBW.out.trans (hb3.mono (by omega)))
      have HFR3 : Hid (Fr (fun k => k = w1.heap.size) w2 w3) := Lib.hid (HFR.out.trans (Fr.of_grown hg3 (fun k hk => by cases hk; rfl)))
      have HO3 : Hid (w3.ownsRow (w1.heap.size + 1) 3 1 (.slice A2 acc.length c2) acc.length (acc.map (Value.int .i64))) := Lib.hid (own_fr' HO2.out (Fr.of_grown (S := fun k => k = w1.heap.size) hg3 (fun k hk => by cases hk; rfl)) (fun k hk he => by
        have := (HO2.out.lt k hk).1
        omega))
      have HRG3 := Lib.hid hrg3
      have HLT3 := Lib.hid hlt3
      have hz3 : wr.heap.size ≤ w3.heap.size := Nat.le_of_eq hs3.symm
      have hwpa : wfI c.pa := wf_pa HF.out.gr c hcm
      have HFB : Hid (FoB w3 a d L S) := Lib.hid (HF.out.bag.below HBW3.out)
      have hpc3 := HP.out w3 HBW3.out
      clear hkey hleft hy hat hrg3 hlt3 hg3 hs3 hat2 hb3 hpcr
      have hen2 : (Instr.entry (.pointer (some ⟨w1.heap.size, 0, none⟩))).run Tryz.prog w3 = .ok (.tuple #[.int .i64 c.id, .agg #[.int .i64 c.tr, .int .i64 c.id, .int .i64 c.pa, .int .i64 c.st, .int .i64 c.en, .string c.nm]]) w3 := hen
      clear hen
      go_wp2_with fail
      have HF9 : Hid (∀ W, Below (w3.heap.size + 1) (w3.alloc (.cells #[.int .i64 c.tr, .int .i64 c.id, .int .i64 c.pa, .int .i64 c.st, .int .i64 c.en, .string c.nm] 93)) W → (∀ j, W.cell? ⟨p, j, none⟩ = (#[.map (some a), .map (some d), .int .i64 tr] : Array Value)[j]?) ∧ (∀ j, W.cell? ⟨w3.heap.size, j, none⟩ = (#[.int .i64 c.tr, .int .i64 c.id, .int .i64 c.pa, .int .i64 c.st, .int .i64 c.en, .string c.nm] : Array Value)[j]?) ∧ FoB W a d L S) := Lib.hid (fun W hW => by
        have hb : Below w3.heap.size w3 W := ((Below.refl _ _).alloc (Nat.le_refl _) _).trans (hW.mono (by omega))
        exact ⟨HP.out W (HBW3.out.trans (hb.mono (by omega))), blk_cell (blk_below hW (by omega) (heap_alloc_new w3 _)), HFB.out.below hb⟩)
      cases hpz : (c.pa != 0)
      · cases hpt : atS L c.pa with
        | none =>
          have HLO : Hid (isLost L c = false) := Lib.hid (by have : c.pa = 0 := (by simpa using hpz); simp [isLost, this])
          have HLK : Hid (∀ W, Below (w3.heap.size + 1) (w3.alloc (.cells #[.int .i64 c.tr, .int .i64 c.id, .int .i64 c.pa, .int .i64 c.st, .int .i64 c.en, .string c.nm] 93)) W → (Instr.lookup 233 (.map (some a)) (.int .i64 c.pa) true).run Tryz.prog W = .ok (.tuple #[.agg #[.int .i64 0, .int .i64 0, .int .i64 0, .int .i64 0, .int .i64 0, .string ⟨#[]⟩], .bool false]) W) := Lib.hid (by
            intro W hW
            have := (HF9.out W hW).2.2.all.look hwpa true
            rw [getS, hpt] at this
            exact this)
          clear hpt
          have HB : Hid (w3.heap.size + 1 ≤ (w3.alloc (.cells #[.int .i64 c.tr, .int .i64 c.id, .int .i64 c.pa, .int .i64 c.st, .int .i64 c.en, .string c.nm] 93)).heap.size) := Lib.hid (by simp)
          refine wp_region_sched [(0, true), (1, true), (2, true), (3, true), (4, true), (5, true), (6, true), (7, true), (8, true), (9, true), (10, true), (11, false), (12, false), (13, true)] (fun W => Below (w3.heap.size + 1) (w3.alloc (.cells #[.int .i64 c.tr, .int .i64 c.id, .int .i64 c.pa, .int .i64 c.st, .int .i64 c.en, .string c.nm] 93)) W) (by kernel_rfl) (by kernel_rfl) rfl (by kernel_rfl) ((Below.refl _ _).drew) ?_
          repeat (first | (apply sched_take rfl; (focus (first | rfl | (go_simp; done))); (focus (intro W hW; obtain ⟨f1, f2, f3⟩ := HF9.out W hW; have f4 := HLK.out W hW; go_simp; rfl)); (focus (intro K hK; go_simp; refine hK _ ?_; clear hK K))) | (apply sched_skip rfl; (focus (first | rfl | (go_simp; done))); (focus (intro K hK; go_simp; refine hK _ ?_; clear hK K))))
          apply sched_op rfl
          intro K hK
          go_simp
          go_wp2_with (fail)
          refine ⟨by repeat (first | exact Below.refl _ _ | assumption | refine Below.drew ?_ | refine below_alloc HB.out ?_ _), ?_⟩
          apply sched_op rfl
          intro K hK
          go_simp
          go_wp2_with (fail)
          refine ⟨by repeat (first | exact Below.refl _ _ | assumption | refine Below.drew ?_ | refine below_alloc HB.out ?_ _ | refine Below.setCell ?_ (by simp) _), ?_⟩
          repeat (first | (apply sched_take rfl; (focus (first | rfl | (go_simp; done))); (focus (intro W hW; obtain ⟨f1, f2, f3⟩ := HF9.out W hW; have f4 := HLK.out W hW; go_simp; rfl)); (focus (intro K hK; go_simp; refine hK _ ?_; clear hK K))) | (apply sched_skip rfl; (focus (first | rfl | (go_simp; done))); (focus (intro K hK; go_simp; refine hK _ ?_; clear hK K))))
          refine sched_nil ?_
          have hfx := br_facts HBW3.out HRG3.out HO3.out HFR3.out c default (World.drew ((w3.alloc (.cells #[.int .i64 c.tr, .int .i64 c.id, .int .i64 c.pa, .int .i64 c.st, .int .i64 c.en, .string c.nm] 93)).alloc (.cells #[.int .i64 0, .int .i64 0, .int .i64 0, .int .i64 0, .int .i64 0, .string ⟨#[]⟩] 93))) rfl
          generalize (World.drew ((w3.alloc (.cells #[.int .i64 c.tr, .int .i64 c.id, .int .i64 c.pa, .int .i64 c.st, .int .i64 c.en, .string c.nm] 93)).alloc (.cells #[.int .i64 0, .int .i64 0, .int .i64 0, .int .i64 0, .int .i64 0, .string ⟨#[]⟩] 93))) = w4 at hfx ⊢
          obtain ⟨hc2, hbw4, hrg4, hown4, hfr4, hsz4⟩ := hfx
          have HBW4 := Lib.hid hbw4
          have HRG4 := Lib.hid hrg4
          have HO4 := Lib.hid hown4
          have HFR4 := Lib.hid hfr4
          have hsz5 := Nat.le_of_eq hsz4.symm
          clear hbw4 hrg4 hown4 hfr4 hpc3 hsz4
          go_wp2_with fail
          go_roundw
          case rel =>
            refine ⟨_, cnt3, acc, A2, c2, rfl, hacc, HRG4.out, HO4.out, HFR4.out, ?_⟩
            refine List.Perm.trans ?_ (((HSTEP.out.filter _).map _)).symm
            rw [List.filter_append, List.filter_cons_of_neg (by rw [HLO.out]; exact Bool.false_ne_true), List.filter_nil, List.append_nil]
            exact HPM.out
          case measure => rw [HRG4.out.left_eq, HRG.out.left_eq]; exact HLT3.out
        | some o =>
          have HLO : Hid (isLost L c = false) := Lib.hid (by have : c.pa = 0 := (by simpa using hpz); simp [isLost, this])
          have HLK : Hid (∀ W, Below (w3.heap.size + 1) (w3.alloc (.cells #[.int .i64 c.tr, .int .i64 c.id, .int .i64 c.pa, .int .i64 c.st, .int .i64 c.en, .string c.nm] 93)) W → (Instr.lookup 233 (.map (some a)) (.int .i64 c.pa) true).run Tryz.prog W = .ok (.tuple #[.agg #[.int .i64 o.tr, .int .i64 o.id, .int .i64 o.pa, .int .i64 o.st, .int .i64 o.en, .string o.nm], .bool true]) W) := Lib.hid (by
            intro W hW
            have := (HF9.out W hW).2.2.all.look hwpa true
            rw [getS, hpt] at this
            exact this)
          clear hpt
          have HB : Hid (w3.heap.size + 1 ≤ (w3.alloc (.cells #[.int .i64 c.tr, .int .i64 c.id, .int .i64 c.pa, .int .i64 c.st, .int .i64 c.en, .string c.nm] 93)).heap.size) := Lib.hid (by simp)
          refine wp_region_sched [(0, true), (1, true), (2, true), (3, true), (4, true), (5, true), (6, true), (7, true), (8, true), (9, true), (10, true), (11, false), (12, false), (13, true)] (fun W => Below (w3.heap.size + 1) (w3.alloc (.cells #[.int .i64 c.tr, .int .i64 c.id, .int .i64 c.pa, .int .i64 c.st, .int .i64 c.en, .string c.nm] 93)) W) (by kernel_rfl) (by kernel_rfl) rfl (by kernel_rfl) ((Below.refl _ _).drew) ?_
          repeat (first | (apply sched_take rfl; (focus (first | rfl | (go_simp; done))); (focus (intro W hW; obtain ⟨f1, f2, f3⟩ := HF9.out W hW; have f4 := HLK.out W hW; go_simp; rfl)); (focus (intro K hK; go_simp; refine hK _ ?_; clear hK K))) | (apply sched_skip rfl; (focus (first | rfl | (go_simp; done))); (focus (intro K hK; go_simp; refine hK _ ?_; clear hK K))))
          apply sched_op rfl
          intro K hK
          go_simp
          go_wp2_with (fail)
          refine ⟨by repeat (first | exact Below.refl _ _ | assumption | refine Below.drew ?_ | refine below_alloc HB.out ?_ _), ?_⟩
          apply sched_op rfl
          intro K hK
          go_simp
          go_wp2_with (fail)
          refine ⟨by repeat (first | exact Below.refl _ _ | assumption | refine Below.drew ?_ | refine below_alloc HB.out ?_ _ | refine Below.setCell ?_ (by simp) _), ?_⟩
          repeat (first | (apply sched_take rfl; (focus (first | rfl | (go_simp; done))); (focus (intro W hW; obtain ⟨f1, f2, f3⟩ := HF9.out W hW; have f4 := HLK.out W hW; go_simp; rfl)); (focus (intro K hK; go_simp; refine hK _ ?_; clear hK K))) | (apply sched_skip rfl; (focus (first | rfl | (go_simp; done))); (focus (intro K hK; go_simp; refine hK _ ?_; clear hK K))))
          refine sched_nil ?_
          have hfx := br_facts HBW3.out HRG3.out HO3.out HFR3.out c o (World.drew ((w3.alloc (.cells #[.int .i64 c.tr, .int .i64 c.id, .int .i64 c.pa, .int .i64 c.st, .int .i64 c.en, .string c.nm] 93)).alloc (.cells #[.int .i64 o.tr, .int .i64 o.id, .int .i64 o.pa, .int .i64 o.st, .int .i64 o.en, .string o.nm] 93))) rfl
          generalize (World.drew ((w3.alloc (.cells #[.int .i64 c.tr, .int .i64 c.id, .int .i64 c.pa, .int .i64 c.st, .int .i64 c.en, .string c.nm] 93)).alloc (.cells #[.int .i64 o.tr, .int .i64 o.id, .int .i64 o.pa, .int .i64 o.st, .int .i64 o.en, .string o.nm] 93))) = w4 at hfx ⊢
          obtain ⟨hc2, hbw4, hrg4, hown4, hfr4, hsz4⟩ := hfx
          have HBW4 := Lib.hid hbw4
          have HRG4 := Lib.hid hrg4
          have HO4 := Lib.hid hown4
          have HFR4 := Lib.hid hfr4
          have hsz5 := Nat.le_of_eq hsz4.symm
          clear hbw4 hrg4 hown4 hfr4 hpc3 hsz4
          go_wp2_with fail
          go_roundw
          case rel =>
            refine ⟨_, cnt3, acc, A2, c2, rfl, hacc, HRG4.out, HO4.out, HFR4.out, ?_⟩
            refine List.Perm.trans ?_ (((HSTEP.out.filter _).map _)).symm
            rw [List.filter_append, List.filter_cons_of_neg (by rw [HLO.out]; exact Bool.false_ne_true), List.filter_nil, List.append_nil]
            exact HPM.out
          case measure => rw [HRG4.out.left_eq, HRG.out.left_eq]; exact HLT3.out
      · cases hpt : atS L c.pa with
        | none =>
          have HLO : Hid (isLost L c = true) := Lib.hid (by have : c.pa ≠ 0 := (by simpa using hpz); simp [isLost, hpt, this])
          have HLK : Hid (∀ W, Below (w3.heap.size + 1) (w3.alloc (.cells #[.int .i64 c.tr, .int .i64 c.id, .int .i64 c.pa, .int .i64 c.st, .int .i64 c.en, .string c.nm] 93)) W → (Instr.lookup 233 (.map (some a)) (.int .i64 c.pa) true).run Tryz.prog W = .ok (.tuple #[.agg #[.int .i64 0, .int .i64 0, .int .i64 0, .int .i64 0, .int .i64 0, .string ⟨#[]⟩], .bool false]) W) := Lib.hid (by
            intro W hW
            have := (HF9.out W hW).2.2.all.look hwpa true
            rw [getS, hpt] at this
            exact this)
          clear hpt
          have HB : Hid (w3.heap.size + 1 ≤ (w3.alloc (.cells #[.int .i64 c.tr, .int .i64 c.id, .int .i64 c.pa, .int .i64 c.st, .int .i64 c.en, .string c.nm] 93)).heap.size) := Lib.hid (by simp)
          refine wp_region_sched [(0, true), (1, true), (2, true), (3, true), (4, true), (5, true), (6, true), (7, true), (8, true), (9, true), (10, true), (11, false), (12, false), (13, true)] (fun W => Below (w3.heap.size + 1) (w3.alloc (.cells #[.int .i64 c.tr, .int .i64 c.id, .int .i64 c.pa, .int .i64 c.st, .int .i64 c.en, .string c.nm] 93)) W) (by kernel_rfl) (by kernel_rfl) rfl (by kernel_rfl) ((Below.refl _ _).drew) ?_
          repeat (first | (apply sched_take rfl; (focus (first | rfl | (go_simp; done))); (focus (intro W hW; obtain ⟨f1, f2, f3⟩ := HF9.out W hW; have f4 := HLK.out W hW; go_simp; rfl)); (focus (intro K hK; go_simp; refine hK _ ?_; clear hK K))) | (apply sched_skip rfl; (focus (first | rfl | (go_simp; done))); (focus (intro K hK; go_simp; refine hK _ ?_; clear hK K))))
          apply sched_op rfl
          intro K hK
          go_simp
          go_wp2_with (fail)
          refine ⟨by repeat (first | exact Below.refl _ _ | assumption | refine Below.drew ?_ | refine below_alloc HB.out ?_ _), ?_⟩
          apply sched_op rfl
          intro K hK
          go_simp
          go_wp2_with (fail)
          refine ⟨by repeat (first | exact Below.refl _ _ | assumption | refine Below.drew ?_ | refine below_alloc HB.out ?_ _ | refine Below.setCell ?_ (by simp) _), ?_⟩
          repeat (first | (apply sched_take rfl; (focus (first | rfl | (go_simp; done))); (focus (intro W hW; obtain ⟨f1, f2, f3⟩ := HF9.out W hW; have f4 := HLK.out W hW; go_simp; rfl)); (focus (intro K hK; go_simp; refine hK _ ?_; clear hK K))) | (apply sched_skip rfl; (focus (first | rfl | (go_simp; done))); (focus (intro K hK; go_simp; refine hK _ ?_; clear hK K))))
          refine sched_nil ?_
          have hfx := br_facts HBW3.out HRG3.out HO3.out HFR3.out c default (World.drew ((w3.alloc (.cells #[.int .i64 c.tr, .int .i64 c.id, .int .i64 c.pa, .int .i64 c.st, .int .i64 c.en, .string c.nm] 93)).alloc (.cells #[.int .i64 0, .int .i64 0, .int .i64 0, .int .i64 0, .int .i64 0, .string ⟨#[]⟩] 93))) rfl
          generalize (World.drew ((w3.alloc (.cells #[.int .i64 c.tr, .int .i64 c.id, .int .i64 c.pa, .int .i64 c.st, .int .i64 c.en, .string c.nm] 93)).alloc (.cells #[.int .i64 0, .int .i64 0, .int .i64 0, .int .i64 0, .int .i64 0, .string ⟨#[]⟩] 93))) = w4 at hfx ⊢
          obtain ⟨hc2, hbw4, hrg4, hown4, hfr4, hsz4⟩ := hfx
          have HBW4 := Lib.hid hbw4
          have HRG4 := Lib.hid hrg4
          have HO4 := Lib.hid hown4
          have HFR4 := Lib.hid hfr4
          have hsz5 := Nat.le_of_eq hsz4.symm
          clear hbw4 hrg4 hown4 hfr4 hpc3 hsz4
          have hal2 : acc.length < 64 := by have h1 := come_lt HPM.out HSTEP.out HLO.out; omega
          go_wp2_with (at_builtin; refine wpList_app _ rfl (.tmp 53) (.tmp 55) _ rfl (w1.heap.size + 1) 3 i0 _ 1 8 Tryz.underlying22 hi0 gz0 gz1 gz2 rfl (by omega) _ _ _ _ rfl (HO4.out.alloc _) (w4.heap.size + 1) _ 1 _ _ rfl (Rd.oneI (by simp) c.id _ _) (by intro u hu; obtain rfl := List.mem_singleton.1 hu; rfl) (by unfold maxLen; omega) (by omega) (by simp <;> omega) ?_; intro A5 c5 w5 hown5 hg5 _)
          go_roundw
          case rel =>
            refine ⟨_, cnt3, acc ++ [c.id], A5, c5, by simp, by simp <;> omega, (HRG4.out.alloc _).kept hg5 (br_ne HO4.out (by omega)) (br_ne HO4.out (by omega)), by simpa using hown5, (HFR4.out.alloc _).step (Fr.of_grown (S := rowIs A2) hg5 (fun k hk => hk)) (fun j hj => .inr (by have := (HO4.out.lt j (by rw [← hj]; cases A2 <;> rfl)).1; omega)), ?_⟩
            refine List.Perm.trans ?_ (((HSTEP.out.filter _).map _)).symm
            rw [List.filter_append, List.filter_cons_of_pos HLO.out, List.filter_nil, List.map_append]
            exact HPM.out.append_right [c.id]
          case measure =>
            have e1 := ((HRG4.out.alloc _).kept hg5 (br_ne HO4.out (by omega)) (br_ne HO4.out (by omega))).left_eq
            rw [e1, HRG.out.left_eq]; exact HLT3.out
        | some o =>
          have HLO : Hid (isLost L c = false) := Lib.hid (by simp [isLost, hpt])
          have HLK : Hid (∀ W, Below (w3.heap.size + 1) (w3.alloc (.cells #[.int .i64 c.tr, .int .i64 c.id, .int .i64 c.pa, .int .i64 c.st, .int .i64 c.en, .string c.nm] 93)) W → (Instr.lookup 233 (.map (some a)) (.int .i64 c.pa) true).run Tryz.prog W = .ok (.tuple #[.agg #[.int .i64 o.tr, .int .i64 o.id, .int .i64 o.pa, .int .i64 o.st, .int .i64 o.en, .string o.nm], .bool true]) W) := Lib.hid (by
            intro W hW
            have := (HF9.out W hW).2.2.all.look hwpa true
            rw [getS, hpt] at this
            exact this)
          clear hpt
          have HB : Hid (w3.heap.size + 1 ≤ (w3.alloc (.cells #[.int .i64 c.tr, .int .i64 c.id, .int .i64 c.pa, .int .i64 c.st, .int .i64 c.en, .string c.nm] 93)).heap.size) := Lib.hid (by simp)
          refine wp_region_sched [(0, true), (1, true), (2, true), (3, true), (4, true), (5, true), (6, true), (7, true), (8, true), (9, true), (10, true), (11, false), (12, false), (13, true)] (fun W => Below (w3.heap.size + 1) (w3.alloc (.cells #[.int .i64 c.tr, .int .i64 c.id, .int .i64 c.pa, .int .i64 c.st, .int .i64 c.en, .string c.nm] 93)) W) (by kernel_rfl) (by kernel_rfl) rfl (by kernel_rfl) ((Below.refl _ _).drew) ?_
          repeat (first | (apply sched_take rfl; (focus (first | rfl | (go_simp; done))); (focus (intro W hW; obtain ⟨f1, f2, f3⟩ := HF9.out W hW; have f4 := HLK.out W hW; go_simp; rfl)); (focus (intro K hK; go_simp; refine hK _ ?_; clear hK K))) | (apply sched_skip rfl; (focus (first | rfl | (go_simp; done))); (focus (intro K hK; go_simp; refine hK _ ?_; clear hK K))))
          apply sched_op rfl
          intro K hK
          go_simp
          go_wp2_with (fail)
          refine ⟨by repeat (first | exact Below.refl _ _ | assumption | refine Below.drew ?_ | refine below_alloc HB.out ?_ _), ?_⟩
          apply sched_op rfl
          intro K hK
          go_simp
          go_wp2_with (fail)
          refine ⟨by repeat (first | exact Below.refl _ _ | assumption | refine Below.drew ?_ | refine below_alloc HB.out ?_ _ | refine Below.setCell ?_ (by simp) _), ?_⟩
          repeat (first | (apply sched_take rfl; (focus (first | rfl | (go_simp; done))); (focus (intro W hW; obtain ⟨f1, f2, f3⟩ := HF9.out W hW; have f4 := HLK.out W hW; go_simp; rfl)); (focus (intro K hK; go_simp; refine hK _ ?_; clear hK K))) | (apply sched_skip rfl; (focus (first | rfl | (go_simp; done))); (focus (intro K hK; go_simp; refine hK _ ?_; clear hK K))))
          refine sched_nil ?_
          have hfx := br_facts HBW3.out HRG3.out HO3.out HFR3.out c o (World.drew ((w3.alloc (.cells #[.int .i64 c.tr, .int .i64 c.id, .int .i64 c.pa, .int .i64 c.st, .int .i64 c.en, .string c.nm] 93)).alloc (.cells #[.int .i64 o.tr, .int .i64 o.id, .int .i64 o.pa, .int .i64 o.st, .int .i64 o.en, .string o.nm] 93))) rfl
          generalize (World.drew ((w3.alloc (.cells #[.int .i64 c.tr, .int .i64 c.id, .int .i64 c.pa, .int .i64 c.st, .int .i64 c.en, .string c.nm] 93)).alloc (.cells #[.int .i64 o.tr, .int .i64 o.id, .int .i64 o.pa, .int .i64 o.st, .int .i64 o.en, .string o.nm] 93))) = w4 at hfx ⊢
          obtain ⟨hc2, hbw4, hrg4, hown4, hfr4, hsz4⟩ := hfx
          have HBW4 := Lib.hid hbw4
          have HRG4 := Lib.hid hrg4
          have HO4 := Lib.hid hown4
          have HFR4 := Lib.hid hfr4
          have hsz5 := Nat.le_of_eq hsz4.symm
          clear hbw4 hrg4 hown4 hfr4 hpc3 hsz4
          go_wp2_with fail
          go_roundw
          case rel =>
            refine ⟨_, cnt3, acc, A2, c2, rfl, hacc, HRG4.out, HO4.out, HFR4.out, ?_⟩
            refine List.Perm.trans ?_ (((HSTEP.out.filter _).map _)).symm
            rw [List.filter_append, List.filter_cons_of_neg (by rw [HLO.out]; exact Bool.false_ne_true), List.filter_nil, List.append_nil]
            exact HPM.out
          case measure => rw [HRG4.out.left_eq, HRG.out.left_eq]; exact HLT3.out
end Go.Proofs.YtfjpenbahoeklaaGreatDoor
namespace Go.Proofs.YtfjpenbahoeklaaGreatDoor
open Go Go.RowKit Go.Maps

set_option maxRecDepth 100000 in
set_option maxHeartbeats 4000000 in
theorem fspans_any {w : World} {p a d : Nat} {tr : Int} {L : List Sp} {S : Nat → Prop} (h : Fo w p a d tr L S) :
    Calls Tryz.prog 154 #[.pointer (some ⟨p, 0, none⟩)] w (ResS w (sortS L)) := by
  obtain ⟨i0, hi0, gz0, gz1, gz2⟩ := info_parts Tryz.infoSpan
  have hnd := h.gr.nodup
  have hlen := h.gr.len
  have HND := Lib.hid hnd
  have HF := Lib.hid h
  obtain ⟨D, hD, hDof⟩ := h.all
  have HD := Lib.hid hD
  have HDOF := Lib.hid hDof
  have hpc := blk_cell h.hp
  have hal : a < w.heap.size := hD.lt
  clear h hnd hD hDof
  go_enter Tryz.func154, Tryz.ntmps154
  go_wp2_with fail
  refine (fmade_any HF.out).mono ?_
  rintro e w1 ⟨rfl, rfl⟩
  go_wp2_with (at_range; refine wpList_range_own _ rfl _ 233 rfl 3 93 keyLaw Tryz.underlying233 spElem a L.length D rfl HD.out ?_; intro w2 hrg0 hg0 hs0)
  go_frame
  have HRG0 := Lib.hid hrg0
  have HG0 := Lib.hid hg0
  have hs2 := Nat.le_of_eq hs0.symm
  have hs2b := Nat.le_of_eq hs0
  clear hrg0 hg0 hs0
  go_loopw [3] (fun v wr => ∃ (left : Lit → Bool) (cnt : Nat) (acc : List Sp) (A2 : Option Addr) (c2 : Nat), v = .slice A2 acc.length c2 ∧ acc.length ≤ 64 ∧ wr.ranges Tryz.prog 3 spElem a w.heap.size L.length D left cnt ∧ wr.ownsRow (w.heap.size + 1) 93 6 (.slice A2 acc.length c2) acc.length (acc.flatMap Sp.cells) ∧
      Fr (fun k => k = w.heap.size) w2 wr ∧ acc.Perm (come L left)) (fun _ wr => wr.rangeLeft a w.heap.size)
  case atStart => exact ⟨_, _, [], none, 0, rfl, by simp, HRG0.out, World.ownsRow_nil _ _ _ _, Fr.refl _ _, by rw [come_start HND.out HDOF.out]⟩
  case round =>
    obtain ⟨left, cnt, acc, A2, c2, rfl, hacc, hrg, hown2, hfr, hperm⟩ := hrel
    have HRG := Lib.hid hrg
    have HO2 := Lib.hid hown2
    have HFR := Lib.hid hfr
    have HPM := Lib.hid hperm
    have hszr := hfr.size
    have hbw : Below w.heap.size w wr := (below_none HG0.out (Nat.le_refl _)).trans (hfr.below (by omega) (fun k hk => by omega))
    have HBW := Lib.hid hbw
    clear hrg hown2 hfr hperm hbw hpc
    go_wp2_with (at_next; refine wpList_next_ranges _ rfl _ rfl 3 keyLaw spElem (Value.int .i64) Sp.val invI invS a w.heap.size L.length D left cnt rfl HRG.out ?_ ?_)
    · intro _ hl0
      have hp2 := HPM.out
      rw [come_end L hl0] at hp2
      have HP2 : Hid (sortS acc = sortS L) := Lib.hid (sortS_congr hp2)
      have hri : RdS wr wr.heap.size A2 acc.length acc := Rd.of_own HO2.out
      have hcall := Sort_any A2 acc.length c2 wr.heap.size acc wr (Nat.le_refl _) (by omega) hri
      rw [HP2.out] at hcall
      have HCALL := Lib.hid hcall
      clear hp2 hri hcall hl0
      go_wp2_with fail
      refine HCALL.out.mono ?_
      rintro e w3 ⟨A3, c3, rfl, hown3, hb3⟩
      go_wp2_with fail
      go_ret
      exact ⟨A3, c3, rfl, own_le hown3 (by omega), HBW.out.trans (hb3.mono (by omega))⟩
    · intro x c kl y ps w3 cnt3 hkey hleft hy hat hrg3 hlt3 hg3 hs3 hen
      obtain ⟨x', ex, rfl, _⟩ := keyOf_int_inv Tryz.underlying3 hkey
      cases ex
      have hat2 := come_mem HDOF.out (y := (y, ps)) hy hat
      have hcid := (atS_some hat2).2
      have hcm := (atS_some hat2).1
      subst hcid
      have HSTEP : Hid ((come L fun z => left z && !z.sameKey (.int .i64 c.id)).Perm (come L left ++ [c])) := Lib.hid (come_step HND.out hcm hleft)
      have HFR3 : Hid (Fr (fun k => k = w.heap.size) w2 w3) := Lib.hid (HFR.out.trans (Fr.of_grown hg3 (fun k hk => by cases hk; rfl)))
      have HO3 : Hid (w3.ownsRow (w.heap.size + 1) 93 6 (.slice A2 acc.length c2) acc.length (acc.flatMap Sp.cells)) := Lib.hid (own_fr' HO2.out (Fr.of_grown (S := fun k => k = w.heap.size) hg3 (fun k hk => by cases hk; rfl)) (fun k hk he => by
        have := (HO2.out.lt k hk).1
        omega))
      have HRG3 := Lib.hid hrg3
      have HLT3 := Lib.hid hlt3
      have hz3 : wr.heap.size ≤ w3.heap.size := Nat.le_of_eq hs3.symm
      have hal2 : acc.length < 64 := by
        have e1 := HPM.out.length_eq
        have e2 := HSTEP.out.length_eq
        have e3 : (come L fun z => left z && !z.sameKey (.int .i64 c.id)).length ≤ L.length := List.length_filter_le _ _
        simp at e2
        omega
      clear hkey hleft hy hat hrg3 hlt3 hg3 hs3 hat2
      have hen2 : (Instr.entry (.pointer (some ⟨w.heap.size, 0, none⟩))).run Tryz.prog w3 = .ok (.tuple #[.int .i64 c.id, .agg #[.int .i64 c.tr, .int .i64 c.id, .int .i64 c.pa, .int .i64 c.st, .int .i64 c.en, .string c.nm]]) w3 := hen
      clear hen
      go_wp2_with (at_builtin; refine wpList_app _ rfl (.tmp 19) (.tmp 21) _ rfl (w.heap.size + 1) 93 i0 _ 6 56 Tryz.underlying48 hi0 gz0 gz1 gz2 rfl (by omega) _ _ _ _ rfl ((HO3.out.alloc _).alloc _) (w3.heap.size + 2) _ 1 _ _ rfl (Rd.one6 (by simp) c _ _) (cells_one1 _) (by unfold maxLen; omega) (by omega) (by simp <;> omega) ?_; intro A5 c5 w5 hown5 hg5 _)
      go_roundw
      case rel =>
        refine ⟨_, cnt3, acc ++ [c], A5, c5, by simp, by simp <;> omega, ((HRG3.out.alloc _).alloc _).kept hg5 (br_ne HO3.out (by omega)) (br_ne HO3.out (by omega)), by rw [List.length_append, flat_snoc]; exact hown5, ((HFR3.out.alloc _).alloc _).step (Fr.of_grown (S := rowIs A2) hg5 (fun k hk => hk)) (fun j hj => .inr (by have := (HO3.out.lt j (by rw [← hj]; cases A2 <;> rfl)).1; omega)), ?_⟩
        exact (HPM.out.append_right [c]).trans HSTEP.out.symm
      case measure =>
        have e1 := (((HRG3.out.alloc _).alloc _).kept hg5 (br_ne HO3.out (by omega)) (br_ne HO3.out (by omega))).left_eq
        rw [e1, HRG.out.left_eq]; exact HLT3.out
end Go.Proofs.YtfjpenbahoeklaaGreatDoor
namespace Go.Proofs.YtfjpenbahoeklaaGreatDoor
open Go Go.RowKit Go.Maps

/-- When the last one ended. -/
def endL (L : List Sp) : Int := L.foldl (fun n s => max n s.en) 0
theorem endL_snoc (L : List Sp) (s : Sp) : endL (L ++ [s]) = max (endL L) s.en := by simp [endL, List.foldl_append]
theorem endL_perm {L m : List Sp} (h : m.Perm L) : endL m = endL L := by
  unfold endL
  exact h.foldl_eq' (fun x _ y _ z => by omega) 0

set_option maxRecDepth 100000 in
set_option maxHeartbeats 1000000 in
theorem fend_any {w : World} {p a d : Nat} {tr : Int} {L : List Sp} {S : Nat → Prop} (h : Fo w p a d tr L S) :
    Calls Tryz.prog 143 #[.pointer (some ⟨p, 0, none⟩)] w fun e w' => e = .returned (.int .i64 (endL L)) ∧ Below w.heap.size w w' := by
  have HF := Lib.hid h
  have hl64 := h.gr.len
  have HEQ : Hid (endL (sortS L) = endL L) := Lib.hid (endL_perm (sortS_perm L))
  have hsl : (sortS L).length ≤ 64 := by rw [sortS_len]; exact hl64
  clear h
  go_enter Tryz.func143, Tryz.ntmps143
  go_wp2_with fail
  refine (fspans_any HF.out).mono ?_
  rintro e w1 ⟨A1, c1, rfl, hown, hb1⟩
  generalize sortS L = l at *
  have HO := Lib.hid hown
  have HB1 := Lib.hid hb1
  clear hown hb1
  go_wp2_with fail
  go_loopw [3, 9] (fun v i wr => ∃ (k : Nat), k ≤ l.length ∧ i = .int .i64 k ∧ v = .int .i64 (endL (l.take k)) ∧ Below w1.heap.size w1 wr) (fun _ i _ => l.length - (intOf i).toNat)
  case atStart => exact ⟨0, by omega, rfl, rfl, Below.refl _ _⟩
  case round =>
    obtain ⟨k, hk, rfl, rfl, hb⟩ := hrel
    have hz := hb.size
    have HB := Lib.hid hb
    clear hb
    by_cases hlt : k < l.length
    · have hk1 : (k : Int) < (l.length : Int) := by omega
      obtain ⟨b1, o1, rfl, hb1, x0, x1, x2, x3, x4, x5⟩ := RdS.at_ (Rd.below' (Rd.of_own HO.out) HB.out (Nat.le_refl _) (Nat.le_refl _)) hlt
      have HST : Hid (endL (l.take (k + 1)) = max (endL (l.take k)) l[k].en) := Lib.hid (by rw [List.take_succ_eq_append_getElem hlt, endL_snoc])
      generalize l[k] = s at *
      obtain ⟨n, hn⟩ : ∃ n, n = endL (l.take k) := ⟨_, rfl⟩
      rw [← hn] at HST ⊢
      clear hn
      by_cases hgt : n ≤ s.en
      · have HN1 : Hid (endL (l.take (k + 1)) = s.en) := Lib.hid (by have := HST.out; omega)
        go_wp2_with fail
        go_roundw
        case rel => exact ⟨k + 1, by omega, by go_num, by rw [HN1.out]; first | rfl | (congr 1; omega) | (simp; omega), HB.out.alloc (by omega) _⟩
        case measure => simp [intOf]; omega
      · have HN1 : Hid (endL (l.take (k + 1)) = n) := Lib.hid (by have := HST.out; omega)
        go_wp2_with fail
        go_roundw
        case rel => exact ⟨k + 1, by omega, by go_num, by rw [HN1.out]; first | rfl | (congr 1; omega) | (simp; omega), HB.out.alloc (by omega) _⟩
        case measure => simp [intOf]; omega
    · have hk1 : ¬ (k : Int) < (l.length : Int) := by omega
      have hkl : k = l.length := by omega
      subst hkl
      go_wp2_with fail
      go_ret
      exact ⟨by rw [← HEQ.out]; rfl, HB1.out.trans (HB.out.mono HB1.out.size)⟩
end Go.Proofs.YtfjpenbahoeklaaGreatDoor
namespace Go.Proofs.YtfjpenbahoeklaaGreatDoor
open Go Go.RowKit Go.Maps

/-- What Add leaves. -/
def ResAdd (w : World) (p a d : Nat) (tr : Int) (S : Nat → Prop) (r : List Sp × Cnt × Int) (e : Ending) (w' : World) : Prop :=
  e = .returned (.tuple #[r.2.1.val, .int .i64 r.2.2]) ∧ Fo w' p a d tr r.1 (fun k => S k ∨ (w.heap.size ≤ k ∧ k < w'.heap.size)) ∧ Fr S w w'

theorem fr_sets (w : World) (b : Nat) (v : Fin 5 → Value) : Fr (fun k => k = b) w (((((w.setCell ⟨b, 0, none⟩ (v 0)).setCell ⟨b, 1, none⟩ (v 1)).setCell ⟨b, 2, none⟩ (v 2)).setCell ⟨b, 3, none⟩ (v 3)).setCell ⟨b, 4, none⟩ (v 4)) :=
  (((((Fr.refl (fun k => k = b) w).setCell (p := ⟨b, 0, none⟩) rfl _).setCell (p := ⟨b, 1, none⟩) rfl _).setCell (p := ⟨b, 2, none⟩) rfl _).setCell (p := ⟨b, 3, none⟩) rfl _).setCell (p := ⟨b, 4, none⟩) rfl _
theorem eql_span {s t : Sp} {q : Bool} (hq : q = true ↔ s = t) (W : World) : (binOp .eql 93 s.val t.val).run Tryz.prog W = .ok (.bool q) W := by
  go_simp; exact (span_if hq _ _).trans (by cases q <;> rfl)
abbrev Cnt.cells (c : Cnt) : Array Value := #[.int .i64 c.ad, .int .i64 c.sa, .int .i64 c.ot, .int .i64 c.cy, .int .i64 c.fu]
/-- On the way through Add. -/
structure AddIn (w wr : World) (p a d : Nat) (tr : Int) (S : Nat → Prop) (st : List Sp × Cnt) : Prop where
  fo : Fo wr p a d tr st.1 (fun k => S k ∨ (w.heap.size + 2 ≤ k ∧ k < wr.heap.size))
  fr : Fr S w wr
  c0 : wr.heap[w.heap.size]? = some (.cells Cnt.zero.cells 30 (0, 0))
  c1 : wr.heap[w.heap.size + 1]? = some (.cells st.2.cells 30 (0, 0))
  sz : w.heap.size + 2 ≤ wr.heap.size
section
variable {w wr w1 : World} {p a d : Nat} {tr : Int} {S : Nat → Prop} {st : List Sp × Cnt}
theorem AddIn.below (h : AddIn w wr p a d tr S st) (hb : Below wr.heap.size wr w1) : AddIn w w1 p a d tr S st :=
  have hs := h.sz
  have hz := hb.size
  ⟨(h.fo.below hb (Nat.le_refl _)).mono (fun k hk => hk.imp id fun ⟨h1, h2⟩ => ⟨h1, by omega⟩) (fun k hk => by
      rcases hk with hk | ⟨_, hk⟩
      · have := h.fo.lt k (.inl hk); omega
      · exact hk),
    h.fr.trans (Fr.of_below hb), (hb.block _ (by omega)).trans h.c0, (hb.block _ (by omega)).trans h.c1, by omega⟩
theorem AddIn.bump (h : AddIn w wr p a d tr S st) (hS : ∀ k, S k → k < w.heap.size) (i : Nat) (v : Value) (c' : Cnt) (hc : st.2.cells.setIfInBounds i v = c'.cells) : AddIn w (wr.setCell ⟨w.heap.size + 1, i, none⟩ v) p a d tr S (st.1, c') := by
  have hs := h.sz
  have hf : Fr (fun k => k = w.heap.size + 1) wr (wr.setCell ⟨w.heap.size + 1, i, none⟩ v) := Fr.setCell (S := fun k => k = w.heap.size + 1) (Fr.refl _ _) rfl v
  have hz : (wr.setCell ⟨w.heap.size + 1, i, none⟩ v).heap.size = wr.heap.size := by simp [World.setCell]
  refine ⟨?_, h.fr.step hf (fun j hj => .inr (by omega)), (hf.block _ (by omega) (by omega)).trans h.c0, ?_, by omega⟩
  · have := h.fo.fr hf (fun k hk he => by
      rcases hk with hk | ⟨hk, _⟩
      · have := hS k hk; omega
      · omega)
    rw [hz]; exact this
  · rw [← hc]; exact blk_set h.c1 i v
theorem AddIn.added (h : AddIn w wr p a d tr S st) (hS : ∀ k, S k → k < w.heap.size) {v1 w6 : World} {L' : List Sp} (hb : Below wr.heap.size wr v1)
    (hfo : Fo w6 p a d tr L' (fun k => (S k ∨ (w.heap.size + 2 ≤ k ∧ k < wr.heap.size)) ∨ (v1.heap.size ≤ k ∧ k < w6.heap.size))) (hfr : Fr (fun k => S k ∨ (w.heap.size + 2 ≤ k ∧ k < wr.heap.size)) v1 w6) : AddIn w w6 p a d tr S (L', st.2) := by
  have h2 := h.below hb
  have hs := h.sz
  have hz := hb.size
  have hz6 := hfr.size
  have hn : ∀ j, j < w.heap.size + 2 → w.heap.size ≤ j → ¬ (S j ∨ (w.heap.size + 2 ≤ j ∧ j < wr.heap.size)) := fun j h1 h2 hk => by
    rcases hk with hk | ⟨hk, _⟩
    · have := hS j hk; omega
    · omega
  refine ⟨hfo.mono (fun k hk => ?_) (fun k hk => ?_), h2.fr.step hfr (fun j hj => hj.imp id fun h3 => by omega), (hfr.block _ (by omega) (hn _ (by omega) (by omega))).trans h2.c0, (hfr.block _ (by omega) (hn _ (by omega) (by omega))).trans h2.c1, by omega⟩
  · rcases hk with (hk | ⟨h3, h4⟩) | ⟨h3, h4⟩
    · exact .inl hk
    · exact .inr ⟨h3, by omega⟩
    · exact .inr ⟨by omega, h4⟩
  · rcases hk with hk | ⟨_, hk⟩
    · have := hS k hk; omega
    · exact hk
theorem AddIn.fin (h : AddIn w wr p a d tr S st) (hS : ∀ k, S k → k < w.heap.size) {w1 : World} (hf : Fr (fun k => k = w.heap.size) wr w1) :
    Fo w1 p a d tr st.1 (fun k => S k ∨ (w.heap.size ≤ k ∧ k < w1.heap.size)) ∧ Fr S w w1 := by
  have hs := h.sz
  have hz := hf.size
  refine ⟨(h.fo.fr hf (fun k hk he => ?_)).mono (fun k hk => ?_) (fun k hk => ?_), h.fr.step hf (fun j hj => .inr (by omega))⟩
  · rcases hk with hk | ⟨hk, _⟩
    · have := hS k hk; omega
    · omega
  · rcases hk with hk | ⟨h1, h2⟩
    · exact .inl hk
    · exact .inr ⟨by omega, by omega⟩
  · rcases hk with hk | ⟨_, hk⟩
    · have := hS k hk; omega
    · exact hk
end

theorem add_facts {w : World} {p a d : Nat} {tr : Int} {L : List Sp} {S : Nat → Prop} (h : Fo w p a d tr L S) (s : Sp) (W : World) (hW : Below (w.heap.size + 1) (w.alloc (.cells #[.int .i64 s.tr, .int .i64 s.id, .int .i64 s.pa, .int .i64 s.st, .int .i64 s.en, .string s.nm] 93)) W) :
    (∀ j, W.cell? ⟨p, j, none⟩ = (#[.map (some a), .map (some d), .int .i64 tr] : Array Value)[j]?) ∧ (∀ j, W.cell? ⟨w.heap.size, j, none⟩ = (#[.int .i64 s.tr, .int .i64 s.id, .int .i64 s.pa, .int .i64 s.st, .int .i64 s.en, .string s.nm] : Array Value)[j]?) ∧ Fo W p a d tr L S := by
  have hb : Below w.heap.size w W := ((Below.refl _ _).alloc (Nat.le_refl _) _).trans (hW.mono (by omega))
  have hF := h.below hb (Nat.le_refl _)
  exact ⟨blk_cell hF.hp, blk_cell (blk_below hW (by omega) (heap_alloc_new w _)), hF⟩

theorem blk_cells6 {w : World} (s : Sp) : ∀ j, (w.alloc (.cells #[.int .i64 s.tr, .int .i64 s.id, .int .i64 s.pa, .int .i64 s.st, .int .i64 s.en, .string s.nm] 93)).cell? ⟨w.heap.size, j, none⟩ = (#[.int .i64 s.tr, .int .i64 s.id, .int .i64 s.pa, .int .i64 s.st, .int .i64 s.en, .string s.nm] : Array Value)[j]? := blk_cell (heap_alloc_new w _)
theorem add_facts2 {w wr : World} {p a d : Nat} {tr : Int} {S : Nat → Prop} {L2 : List Sp} {c : Cnt} (h : AddIn w wr p a d tr S (L2, c)) (s x : Sp) (W : World) (hW : W = ((wr.alloc (.cells #[.int .i64 s.tr, .int .i64 s.id, .int .i64 s.pa, .int .i64 s.st, .int .i64 s.en, .string s.nm] 93)).alloc (.cells #[.int .i64 x.tr, .int .i64 x.id, .int .i64 x.pa, .int .i64 x.st, .int .i64 x.en, .string x.nm] 93)).drew) :
    AddIn w W p a d tr S (L2, c) ∧ Fo W p a d tr L2 (fun k => (S k ∨ (w.heap.size + 2 ≤ k ∧ k < wr.heap.size))) ∧ (∀ j, W.cell? ⟨wr.heap.size, j, none⟩ = (#[.int .i64 s.tr, .int .i64 s.id, .int .i64 s.pa, .int .i64 s.st, .int .i64 s.en, .string s.nm] : Array Value)[j]?) ∧ (∀ j, W.cell? ⟨wr.heap.size + 1, j, none⟩ = (#[.int .i64 x.tr, .int .i64 x.id, .int .i64 x.pa, .int .i64 x.st, .int .i64 x.en, .string x.nm] : Array Value)[j]?) ∧ (W.heap.size = wr.heap.size + 2 ∧ Below wr.heap.size wr W) := by
  subst hW
  have hb : Below wr.heap.size wr ((wr.alloc (.cells #[.int .i64 s.tr, .int .i64 s.id, .int .i64 s.pa, .int .i64 s.st, .int .i64 s.en, .string s.nm] 93)).alloc (.cells #[.int .i64 x.tr, .int .i64 x.id, .int .i64 x.pa, .int .i64 x.st, .int .i64 x.en, .string x.nm] 93)).drew := (((Below.refl _ _).alloc (Nat.le_refl _) _).alloc (by simp) _).drew
  refine ⟨h.below hb, h.fo.below hb (Nat.le_refl _), ?_, ?_, by simp [World.drew, -World.drew_eq], hb⟩
  · exact blk_cell (blk_below (((Below.refl (wr.heap.size + 1) _).alloc (by simp) _).drew) (by omega) (heap_alloc_new wr _))
  · have := heap_alloc_new (wr.alloc (.cells #[.int .i64 s.tr, .int .i64 s.id, .int .i64 s.pa, .int .i64 s.st, .int .i64 s.en, .string s.nm] 93)) (.cells #[.int .i64 x.tr, .int .i64 x.id, .int .i64 x.pa, .int .i64 x.st, .int .i64 x.en, .string x.nm] 93)
    rw [World.size_alloc] at this
    exact blk_cell this
theorem add_facts3 {v1 : World} {p a d : Nat} {tr : Int} {S : Nat → Prop} {L2 : List Sp} (h : Fo v1 p a d tr L2 S) {b : Nat} (hb : ¬ S b) (hbl : b < v1.heap.size) {cs : Array Value} (hc : ∀ j, v1.cell? ⟨b, j, none⟩ = cs[j]?) {W : World} (hW : Fr (fun k => k = a) v1 W) :
    (∀ j, W.cell? ⟨p, j, none⟩ = (#[.map (some a), .map (some d), .int .i64 tr] : Array Value)[j]?) ∧ (∀ j, W.cell? ⟨b, j, none⟩ = cs[j]?) := by
  have hpa : p ≠ a := by
    intro e; subst e
    obtain ⟨es, clock, hb, _⟩ := h.all.choose_spec.1
    rw [h.hp] at hb; cases hb
  refine ⟨blk_cell ((hW.block p (h.lt p h.sp) hpa).trans h.hp), fun j => ?_⟩
  rw [← hc j]
  simp only [World.cell?, hW.block b hbl (fun e => hb (by rw [e]; exact h.sa))]
theorem add_facts4 {v1 w3 : World} {p a d : Nat} {tr : Int} {S : Nat → Prop} {L2 : List Sp} (h : Fo v1 p a d tr L2 S) {b : Nat} (hb : ¬ S b) (hbl : b < v1.heap.size) (hsz : w3.heap.size = v1.heap.size) {cs : Array Value} (hc : ∀ j, v1.cell? ⟨b, j, none⟩ = cs[j]?) (h3 : Fr (fun k => k = a) v1 w3) {W : World} (hW : Fr (fun k => S k ∧ k ≠ p ∧ k ≠ a) w3 W) :
    (∀ j, W.cell? ⟨p, j, none⟩ = (#[.map (some a), .map (some d), .int .i64 tr] : Array Value)[j]?) ∧ (∀ j, W.cell? ⟨b, j, none⟩ = cs[j]?) := by
  obtain ⟨e1, e2⟩ := add_facts3 h hb hbl hc h3
  have hpl := h.lt p h.sp
  refine ⟨fun j => ?_, fun j => ?_⟩
  · rw [← e1 j]; simp only [World.cell?, hW.block p (by omega) (fun hk => hk.2.1 rfl)]
  · rw [← e2 j]; simp only [World.cell?, hW.block b (by omega) (fun hk => hb hk.1)]
theorem addS_same {L : List Sp} {c : Cnt} {s o : Sp} (h : atS L s.id = some o) (ho : o = s) : addS (L, c) s = (L, { c with sa := c.sa + 1 }) := by simp only [addS, h, if_pos ho]
theorem addS_other {L : List Sp} {c : Cnt} {s o : Sp} (h : atS L s.id = some o) (ho : ¬ o = s) : addS (L, c) s = (L, { c with ot := c.ot + 1 }) := by simp only [addS, h, if_neg ho]
theorem addS_full {L : List Sp} {c : Cnt} {s : Sp} (h : atS L s.id = none) (hl : 64 ≤ L.length) : addS (L, c) s = (L, { c with fu := c.fu + 1 }) := by simp only [addS, h, if_pos hl]
theorem addS_cycle {L : List Sp} {c : Cnt} {s : Sp} (h : atS L s.id = none) (hl : ¬ 64 ≤ L.length) (ha : aboveB L s.pa s.id = true) : addS (L, c) s = (L, { c with cy := c.cy + 1 }) := by simp only [addS, h, if_neg hl, ha, if_true]
theorem addS_add {L : List Sp} {c : Cnt} {s : Sp} (h : atS L s.id = none) (hl : ¬ 64 ≤ L.length) (ha : aboveB L s.pa s.id = false) : addS (L, c) s = (L ++ [s], { c with ad := c.ad + 1 }) := by simp only [addS, h, if_neg hl, ha, Bool.false_eq_true, if_false]

set_option maxRecDepth 100000 in
set_option maxHeartbeats 4000000 in
theorem add_all {w : World} {p a d : Nat} {tr : Int} {L : List Sp} {S : Nat → Prop} (h : Fo w p a d tr L S) (A : Option Addr) (n cap B : Nat) (l : List Sp) (hB : B ≤ w.heap.size) (hbig : n ≤ 1000000) (hnm : ∀ s ∈ l, s.nm.size ≤ 140737488355328) (hr : RdS w B A n l) (hS : 0 < n → ∀ k, A.map (·.block) = some k → ¬ S k) :
    Calls Tryz.prog 151 #[.pointer (some ⟨p, 0, none⟩), .slice A n cap] w (ResAdd w p a d tr S (addA tr L l)) := by
  have hlen := hr.len
  subst hlen
  have HR := Lib.hid hr
  have HNM := Lib.hid hnm
  have hSlt := h.lt
  have HSL : Hid (∀ k, S k → k < w.heap.size) := Lib.hid hSlt
  have HNS := Lib.hid hS
  have hz2 : ((w.alloc (.cells Cnt.zero.cells 30)).alloc (.cells Cnt.zero.cells 30)).heap.size = w.heap.size + 2 := by simp
  have hI : AddIn w ((w.alloc (.cells Cnt.zero.cells 30)).alloc (.cells Cnt.zero.cells 30)) p a d tr S (L, Cnt.zero) := by
    have hb : Below w.heap.size w ((w.alloc (.cells Cnt.zero.cells 30)).alloc (.cells Cnt.zero.cells 30)) := ((Below.refl _ _).alloc (Nat.le_refl _) _).alloc (by simp) _
    refine ⟨(h.below hb (Nat.le_refl _)).mono (fun k hk => .inl hk) (fun k hk => ?_), Fr.of_below hb, ?_, ?_, by rw [hz2]; exact Nat.le_refl _⟩
    · rw [hz2] at hk ⊢
      rcases hk with hk | hk
      · have := hSlt k hk; omega
      · omega
    · exact blk_below ((Below.refl (w.heap.size + 1) _).alloc (by simp) _) (by omega) (heap_alloc_new w _)
    · have := heap_alloc_new (w.alloc (.cells Cnt.zero.cells 30)) (.cells Cnt.zero.cells 30)
      rw [World.size_alloc] at this
      exact this
  have HI := Lib.hid hI
  clear hr h hnm hSlt hS hz2
  go_enter Tryz.func151, Tryz.ntmps151
  go_wp2_with fail
  refine (fmade_any HI.out.fo).mono ?_
  rintro e w1 ⟨rfl, rfl⟩
  clear hI
  go_wp2_with fail
  go_loopw [19] (fun i wr => ∃ (k : Nat), k ≤ l.length ∧ i = .int .i64 k ∧ (l.take k).all (fits tr) = true ∧ AddIn w wr p a d tr S (L, Cnt.zero)) (fun i _ => l.length - (intOf i).toNat)
  case atStart => exact ⟨0, by omega, rfl, rfl, HI.out⟩
  case round =>
    obtain ⟨k, hk, rfl, hall, hin⟩ := hrel
    have HIN := Lib.hid hin
    have HALL := Lib.hid hall
    have hsz := hin.sz
    clear hin hall
    by_cases hlt : k < l.length
    · obtain ⟨b1, o1, rfl, hb1, x0, x1, x2, x3, x4, x5⟩ := RdS.at_ (Fr.rdN HR.out HIN.out.fr hB HNS.out) hlt
      have hk1 : (k : Int) < (l.length : Int) := by omega
      have hnm := HNM.out _ (List.getElem_mem hlt)
      have HTK := Lib.hid (all_take_succ l (fits tr) k hlt)
      have HBAD := Lib.hid (all_false_of l (fits tr) k hlt)
      generalize l[k] = s at *
      have HF := Lib.hid (add_facts HIN.out.fo s)
      go_wp2_with fail
      cases hok : s.ok
      · have HC : Hid (s.check = 30) := Lib.hid (Sp.check_f hok)
        have HA : Hid (l.all (fits tr) = false) := Lib.hid (HBAD.out (by simp [fits, hok]))
        clear hok
        refine wp_region_sched [(0, true), (1, false), (2, true), (3, true), (4, true), (5, true), (6, true), (7, true), (8, true), (9, true), (10, true), (11, true)] (fun W => Below (wr.heap.size + 1) (wr.alloc (.cells #[.int .i64 s.tr, .int .i64 s.id, .int .i64 s.pa, .int .i64 s.st, .int .i64 s.en, .string s.nm] 93)) W) (by kernel_rfl) (by kernel_rfl) rfl (by kernel_rfl) ((Below.refl _ _).drew) ?_
        repeat (first | (apply sched_take rfl; (focus (first | rfl | (go_simp; done))); (focus (intro W hW; obtain ⟨f1, f2, _⟩ := HF.out W hW; go_simp; rfl)); (focus (intro K hK; go_simp; refine hK _ ?_; clear hK K))) | (apply sched_skip rfl; (focus (first | rfl | (go_simp; done))); (focus (intro K hK; go_simp; refine hK _ ?_; clear hK K))))
        apply sched_op rfl
        intro K hK
        go_simp
        go_wp2_with (fail)
        refine (check_any s _ hnm).mono ?_
        rintro e v1 ⟨rfl, hbc⟩
        have hk1 : Below (wr.heap.size + 1) (wr.alloc (.cells #[.int .i64 s.tr, .int .i64 s.id, .int .i64 s.pa, .int .i64 s.st, .int .i64 s.en, .string s.nm] 93)) v1 := below_step (by simp) (Below.refl _ _).drew hbc
        rw [HC.out]
        go_wp2_with fail
        refine ⟨by exact hk1, ?_⟩
        repeat (first | (apply sched_take rfl; (focus (first | rfl | (go_simp; done))); (focus (intro W hW; obtain ⟨f1, f2, _⟩ := HF.out W hW; go_simp; rfl)); (focus (intro K hK; go_simp; refine hK _ ?_; clear hK K))) | (apply sched_skip rfl; (focus (first | rfl | (go_simp; done))); (focus (intro K hK; go_simp; refine hK _ ?_; clear hK K))))
        refine sched_nil ?_
        have hbw : Below wr.heap.size wr v1 := ((Below.refl _ _).alloc (Nat.le_refl _) _).trans (hk1.mono (by omega))
        have HI2 := Lib.hid (HIN.out.below hbw)
        have hc00 : v1.cell? ⟨w.heap.size, 0, none⟩ = some (.int .i64 0) := blk_cell HI2.out.c0 0
        have hc01 : v1.cell? ⟨w.heap.size, 1, none⟩ = some (.int .i64 0) := blk_cell HI2.out.c0 1
        have hc02 : v1.cell? ⟨w.heap.size, 2, none⟩ = some (.int .i64 0) := blk_cell HI2.out.c0 2
        have hc03 : v1.cell? ⟨w.heap.size, 3, none⟩ = some (.int .i64 0) := blk_cell HI2.out.c0 3
        have hc04 : v1.cell? ⟨w.heap.size, 4, none⟩ = some (.int .i64 0) := blk_cell HI2.out.c0 4
        have hc10 : v1.cell? ⟨w.heap.size + 1, 0, none⟩ = some (.int .i64 0) := blk_cell HI2.out.c1 0
        have hc11 : v1.cell? ⟨w.heap.size + 1, 1, none⟩ = some (.int .i64 0) := blk_cell HI2.out.c1 1
        have hc12 : v1.cell? ⟨w.heap.size + 1, 2, none⟩ = some (.int .i64 0) := blk_cell HI2.out.c1 2
        have hc13 : v1.cell? ⟨w.heap.size + 1, 3, none⟩ = some (.int .i64 0) := blk_cell HI2.out.c1 3
        have hc14 : v1.cell? ⟨w.heap.size + 1, 4, none⟩ = some (.int .i64 0) := blk_cell HI2.out.c1 4
        have hf0 := blk_frozen HI2.out.c0
        clear hbc hk1 hbw
        go_wp2_with fail
        refine bodyPost_ret (v := .tuple #[Cnt.zero.val, .int .i64 30]) (by simp [results, Tryz.results151, go_sem, hc00, hc01, hc02, hc03, hc04, Cnt.zero]) rfl ?_
        have hA : addA tr L l = (L, Cnt.zero, 30) := by rw [addA, if_neg (by rw [HA.out]; exact Bool.false_ne_true)]
        rw [hA]
        exact ⟨rfl, HI2.out.fin HSL.out (fr_sets _ _ (fun _ => .int .i64 0))⟩
      · have HC : Hid (s.check = 0) := Lib.hid (Sp.check_t hok)
        cases htr : (s.tr != tr)
        · have HA : Hid (fits tr s = true) := Lib.hid (by have : s.tr = tr := (by simpa using htr); simp [fits, hok, this])
          clear hok
          refine wp_region_sched [(0, true), (1, false), (2, true), (3, true), (4, true), (5, true), (6, true), (7, true), (8, true), (9, true), (10, true), (11, true)] (fun W => Below (wr.heap.size + 1) (wr.alloc (.cells #[.int .i64 s.tr, .int .i64 s.id, .int .i64 s.pa, .int .i64 s.st, .int .i64 s.en, .string s.nm] 93)) W) (by kernel_rfl) (by kernel_rfl) rfl (by kernel_rfl) ((Below.refl _ _).drew) ?_
          repeat (first | (apply sched_take rfl; (focus (first | rfl | (go_simp; done))); (focus (intro W hW; obtain ⟨f1, f2, _⟩ := HF.out W hW; go_simp; rfl)); (focus (intro K hK; go_simp; refine hK _ ?_; clear hK K))) | (apply sched_skip rfl; (focus (first | rfl | (go_simp; done))); (focus (intro K hK; go_simp; refine hK _ ?_; clear hK K))))
          apply sched_op rfl
          intro K hK
          go_simp
          go_wp2_with (fail)
          refine (check_any s _ hnm).mono ?_
          rintro e v1 ⟨rfl, hbc⟩
          have hk1 : Below (wr.heap.size + 1) (wr.alloc (.cells #[.int .i64 s.tr, .int .i64 s.id, .int .i64 s.pa, .int .i64 s.st, .int .i64 s.en, .string s.nm] 93)) v1 := below_step (by simp) (Below.refl _ _).drew hbc
          rw [HC.out]
          go_wp2_with fail
          refine ⟨by exact hk1, ?_⟩
          repeat (first | (apply sched_take rfl; (focus (first | rfl | (go_simp; done))); (focus (intro W hW; obtain ⟨f1, f2, _⟩ := HF.out W hW; go_simp; rfl)); (focus (intro K hK; go_simp; refine hK _ ?_; clear hK K))) | (apply sched_skip rfl; (focus (first | rfl | (go_simp; done))); (focus (intro K hK; go_simp; refine hK _ ?_; clear hK K))))
          refine sched_nil ?_
          go_wp2_with fail
          have hbw : Below wr.heap.size wr v1 := ((Below.refl _ _).alloc (Nat.le_refl _) _).trans (hk1.mono (by omega))
          go_roundw
          case rel => exact ⟨k + 1, by omega, by go_num, by rw [HTK.out, HALL.out, HA.out]; rfl, HIN.out.below hbw⟩
          case measure => simp [intOf]; omega
        · have HA : Hid (l.all (fits tr) = false) := Lib.hid (HBAD.out (by have : ¬ s.tr = tr := (by simpa using htr); simp [fits, this]))
          clear hok
          refine wp_region_sched [(0, true), (1, false), (2, true), (3, true), (4, true), (5, true), (6, true), (7, true), (8, true), (9, true), (10, true), (11, true)] (fun W => Below (wr.heap.size + 1) (wr.alloc (.cells #[.int .i64 s.tr, .int .i64 s.id, .int .i64 s.pa, .int .i64 s.st, .int .i64 s.en, .string s.nm] 93)) W) (by kernel_rfl) (by kernel_rfl) rfl (by kernel_rfl) ((Below.refl _ _).drew) ?_
          repeat (first | (apply sched_take rfl; (focus (first | rfl | (go_simp; done))); (focus (intro W hW; obtain ⟨f1, f2, _⟩ := HF.out W hW; go_simp; rfl)); (focus (intro K hK; go_simp; refine hK _ ?_; clear hK K))) | (apply sched_skip rfl; (focus (first | rfl | (go_simp; done))); (focus (intro K hK; go_simp; refine hK _ ?_; clear hK K))))
          apply sched_op rfl
          intro K hK
          go_simp
          go_wp2_with (fail)
          refine (check_any s _ hnm).mono ?_
          rintro e v1 ⟨rfl, hbc⟩
          have hk1 : Below (wr.heap.size + 1) (wr.alloc (.cells #[.int .i64 s.tr, .int .i64 s.id, .int .i64 s.pa, .int .i64 s.st, .int .i64 s.en, .string s.nm] 93)) v1 := below_step (by simp) (Below.refl _ _).drew hbc
          rw [HC.out]
          go_wp2_with fail
          refine ⟨by exact hk1, ?_⟩
          repeat (first | (apply sched_take rfl; (focus (first | rfl | (go_simp; done))); (focus (intro W hW; obtain ⟨f1, f2, _⟩ := HF.out W hW; go_simp; rfl)); (focus (intro K hK; go_simp; refine hK _ ?_; clear hK K))) | (apply sched_skip rfl; (focus (first | rfl | (go_simp; done))); (focus (intro K hK; go_simp; refine hK _ ?_; clear hK K))))
          refine sched_nil ?_
          have hbw : Below wr.heap.size wr v1 := ((Below.refl _ _).alloc (Nat.le_refl _) _).trans (hk1.mono (by omega))
          have HI2 := Lib.hid (HIN.out.below hbw)
          have hc00 : v1.cell? ⟨w.heap.size, 0, none⟩ = some (.int .i64 0) := blk_cell HI2.out.c0 0
          have hc01 : v1.cell? ⟨w.heap.size, 1, none⟩ = some (.int .i64 0) := blk_cell HI2.out.c0 1
          have hc02 : v1.cell? ⟨w.heap.size, 2, none⟩ = some (.int .i64 0) := blk_cell HI2.out.c0 2
          have hc03 : v1.cell? ⟨w.heap.size, 3, none⟩ = some (.int .i64 0) := blk_cell HI2.out.c0 3
          have hc04 : v1.cell? ⟨w.heap.size, 4, none⟩ = some (.int .i64 0) := blk_cell HI2.out.c0 4
          have hc10 : v1.cell? ⟨w.heap.size + 1, 0, none⟩ = some (.int .i64 0) := blk_cell HI2.out.c1 0
          have hc11 : v1.cell? ⟨w.heap.size + 1, 1, none⟩ = some (.int .i64 0) := blk_cell HI2.out.c1 1
          have hc12 : v1.cell? ⟨w.heap.size + 1, 2, none⟩ = some (.int .i64 0) := blk_cell HI2.out.c1 2
          have hc13 : v1.cell? ⟨w.heap.size + 1, 3, none⟩ = some (.int .i64 0) := blk_cell HI2.out.c1 3
          have hc14 : v1.cell? ⟨w.heap.size + 1, 4, none⟩ = some (.int .i64 0) := blk_cell HI2.out.c1 4
          have hf0 := blk_frozen HI2.out.c0
          clear hbc hk1 hbw
          go_wp2_with fail
          refine bodyPost_ret (v := .tuple #[Cnt.zero.val, .int .i64 30]) (by simp [results, Tryz.results151, go_sem, hc00, hc01, hc02, hc03, hc04, Cnt.zero]) rfl ?_
          have hA : addA tr L l = (L, Cnt.zero, 30) := by rw [addA, if_neg (by rw [HA.out]; exact Bool.false_ne_true)]
          rw [hA]
          exact ⟨rfl, HI2.out.fin HSL.out (fr_sets _ _ (fun _ => .int .i64 0))⟩
    · have hall2 := HALL.out
      rw [List.take_of_length_le (by omega)] at hall2
      have HA2 := Lib.hid hall2
      have hk1 : ¬ (k : Int) < (l.length : Int) := by omega
      clear hall2
      go_wp2_with fail
      go_loopw [39] (fun i wr => ∃ (k : Nat), k ≤ l.length ∧ i = .int .i64 k ∧ AddIn w wr p a d tr S (addL (L, Cnt.zero) (l.take k))) (fun i _ => l.length - (intOf i).toNat)
      case atStart => exact ⟨0, by omega, rfl, HIN.out⟩
      case round =>
        obtain ⟨k, hk, rfl, hin⟩ := hrel
        have HIN := Lib.hid hin
        have hsz := hin.sz
        clear hin
        have hsum := addL_sum (L, Cnt.zero) (l.take k)
        have hgr := HIN.out.fo.gr
        by_cases hlt : k < l.length
        · obtain ⟨b1, o1, rfl, hb1, x0, x1, x2, x3, x4, x5⟩ := RdS.at_ (Fr.rdN HR.out HIN.out.fr hB HNS.out) hlt
          have hk1 : (k : Int) < (l.length : Int) := by omega
          have hfit := List.all_eq_true.1 HA2.out _ (List.getElem_mem hlt)
          have HST := Lib.hid (show addL (L, Cnt.zero) (l.take (k + 1)) = addS (addL (L, Cnt.zero) (l.take k)) l[k] by rw [List.take_succ_eq_append_getElem hlt, addL_snoc])
          rw [List.length_take, Nat.min_eq_left hk] at hsum
          generalize l[k] = s at *
          generalize addL (L, Cnt.zero) (l.take k) = st at *
          obtain ⟨L2, c⟩ := st
          have hcs : c.sum = k := by simpa [Cnt.sum, Cnt.zero] using hsum
          simp only [Cnt.sum] at hcs
          have hL64 := hgr.len
          dsimp only at hL64
          have hwid : wfI s.id := by have := ok_bounds (fits_ok hfit).1; exact wfI_of (by omega) (by omega)
          have hwpa : wfI s.pa := by have := ok_bounds (fits_ok hfit).1; exact wfI_of (by omega) (by omega)
          have HG := Lib.hid hgr
          have HFIT := Lib.hid hfit
          have HF := Lib.hid (add_facts HIN.out.fo s)
          have HCS := Lib.hid hcs
          clear hsum hfit hgr hcs
          go_wp2_with fail
          cases hat : atS L2 s.id with
          | none =>
            have hget : getS L2 s.id = default := by rw [getS, hat]; rfl
            have HLK : Hid (∀ W, Below (wr.heap.size + 1) (wr.alloc (.cells #[.int .i64 s.tr, .int .i64 s.id, .int .i64 s.pa, .int .i64 s.st, .int .i64 s.en, .string s.nm] 93)) W → (Instr.lookup 233 (.map (some a)) (.int .i64 s.id) true).run Tryz.prog W = .ok (.tuple #[.agg #[.int .i64 0, .int .i64 0, .int .i64 0, .int .i64 0, .int .i64 0, .string ⟨#[]⟩], .bool false]) W) := Lib.hid (by
              intro W hW
              have := (HF.out W hW).2.2.all.look hwid true
              rw [hget, hat] at this
              exact this)
            have HAT := Lib.hid hat
            clear hget hat
            have HB : Hid (wr.heap.size + 1 ≤ (wr.alloc (.cells #[.int .i64 s.tr, .int .i64 s.id, .int .i64 s.pa, .int .i64 s.st, .int .i64 s.en, .string s.nm] 93)).heap.size) := Lib.hid (by simp)
            refine wp_region_sched [(0, true), (1, true), (2, true), (3, true), (4, true), (5, true), (6, true), (7, true), (8, true), (9, true), (10, true), (11, false), (12, false), (13, true)] (fun W => Below (wr.heap.size + 1) (wr.alloc (.cells #[.int .i64 s.tr, .int .i64 s.id, .int .i64 s.pa, .int .i64 s.st, .int .i64 s.en, .string s.nm] 93)) W) (by kernel_rfl) (by kernel_rfl) rfl (by kernel_rfl) ((Below.refl _ _).drew) ?_
            repeat (first | (apply sched_take rfl; (focus (first | rfl | (go_simp; done))); (focus (intro W hW; obtain ⟨f1, f2, f3⟩ := HF.out W hW; have f4 := HLK.out W hW; go_simp; rfl)); (focus (intro K hK; go_simp; refine hK _ ?_; clear hK K))) | (apply sched_skip rfl; (focus (first | rfl | (go_simp; done))); (focus (intro K hK; go_simp; refine hK _ ?_; clear hK K))))
            apply sched_op rfl
            intro K hK
            go_simp
            go_wp2_with (fail)
            refine ⟨by repeat (first | exact Below.refl _ _ | assumption | refine Below.drew ?_ | refine below_alloc HB.out ?_ _), ?_⟩
            apply sched_op rfl
            intro K hK
            go_simp
            go_wp2_with (fail)
            refine ⟨by repeat (first | exact Below.refl _ _ | assumption | refine Below.drew ?_ | refine below_alloc HB.out ?_ _ | refine Below.setCell ?_ (by simp) _), ?_⟩
            repeat (first | (apply sched_take rfl; (focus (first | rfl | (go_simp; done))); (focus (intro W hW; obtain ⟨f1, f2, f3⟩ := HF.out W hW; have f4 := HLK.out W hW; go_simp; rfl)); (focus (intro K hK; go_simp; refine hK _ ?_; clear hK K))) | (apply sched_skip rfl; (focus (first | rfl | (go_simp; done))); (focus (intro K hK; go_simp; refine hK _ ?_; clear hK K))))
            refine sched_nil ?_
            have hfx := add_facts2 HIN.out s default (World.drew ((wr.alloc (.cells #[.int .i64 s.tr, .int .i64 s.id, .int .i64 s.pa, .int .i64 s.st, .int .i64 s.en, .string s.nm] 93)).alloc (.cells #[.int .i64 0, .int .i64 0, .int .i64 0, .int .i64 0, .int .i64 0, .string ⟨#[]⟩] 93))) rfl
            generalize (World.drew ((wr.alloc (.cells #[.int .i64 s.tr, .int .i64 s.id, .int .i64 s.pa, .int .i64 s.st, .int .i64 s.en, .string s.nm] 93)).alloc (.cells #[.int .i64 0, .int .i64 0, .int .i64 0, .int .i64 0, .int .i64 0, .string ⟨#[]⟩] 93))) = w2 at hfx ⊢
            obtain ⟨hin2, hfo2, hsb, hxb, hsz2⟩ := hfx
            have HIN2 := Lib.hid hin2
            have HFO2 := Lib.hid hfo2
            have HSZ2 := Lib.hid hsz2
            have hc10 : w2.cell? ⟨w.heap.size + 1, 0, none⟩ = some (.int .i64 c.ad) := blk_cell hin2.c1 0
            have hc11 : w2.cell? ⟨w.heap.size + 1, 1, none⟩ = some (.int .i64 c.sa) := blk_cell hin2.c1 1
            have hc12 : w2.cell? ⟨w.heap.size + 1, 2, none⟩ = some (.int .i64 c.ot) := blk_cell hin2.c1 2
            have hc13 : w2.cell? ⟨w.heap.size + 1, 3, none⟩ = some (.int .i64 c.cy) := blk_cell hin2.c1 3
            have hc14 : w2.cell? ⟨w.heap.size + 1, 4, none⟩ = some (.int .i64 c.fu) := blk_cell hin2.c1 4
            have hf1 := blk_frozen hin2.c1
            have hpc := blk_cell hfo2.hp
            have hpl := hfo2.lt p hfo2.sp
            clear hin2 hfo2 hsz2
            have hlen := HFO2.out.all.len 3
            by_cases h64 : 64 ≤ L2.length
            · have h64i : (64 : Int) ≤ (L2.length : Int) := by omega
              have hwr : wrap64 ((c.fu : Int) + 1) = (c.fu : Int) + 1 := IntWalk.wrap64_in _ (by have := HCS.out; omega)
              go_wp2_with fail
              go_roundw
              case rel =>
                refine ⟨k + 1, by omega, by go_num, ?_⟩
                rw [HST.out, addS_full HAT.out h64]
                exact HIN2.out.bump HSL.out 4 _ { c with fu := c.fu + 1 } (by simp [Cnt.cells])
              case measure => simp [intOf]; omega
            · have h64i : ¬ (64 : Int) ≤ (L2.length : Int) := by omega
              have HAL := Lib.hid HFO2.out.all
              have HP23 : Hid (∀ W, Below w2.heap.size w2 W → (∀ j, W.cell? ⟨p, j, none⟩ = (#[.map (some a), .map (some d), .int .i64 tr] : Array Value)[j]?) ∧ (∀ j, W.cell? ⟨wr.heap.size, j, none⟩ = (#[.int .i64 s.tr, .int .i64 s.id, .int .i64 s.pa, .int .i64 s.st, .int .i64 s.en, .string s.nm] : Array Value)[j]?)) := Lib.hid (fun W hW => ⟨blk_cell (HFO2.out.below hW (Nat.le_refl _)).hp, fun j => (hW.cell (by have := HSZ2.out; simp only; omega)).trans (hsb j)⟩)
              go_wp2_with fail
              clear hpc hlen
              have HB : Hid (w2.heap.size ≤ w2.heap.size) := Lib.hid (Nat.le_refl _)
              refine wp_region_sched [(0, true), (1, true), (2, true), (3, true), (4, true), (5, true), (6, true), (7, true), (8, false), (9, true)] (fun W => Below w2.heap.size w2 W) (by kernel_rfl) (by kernel_rfl) rfl (by kernel_rfl) ((Below.refl _ _).drew) ?_
              repeat (first | (apply sched_take rfl; (focus (first | rfl | (go_simp; done))); (focus (intro W hW; obtain ⟨g1, g2⟩ := HP23.out W hW; go_simp; rfl)); (focus (intro K hK; go_simp; refine hK _ ?_; clear hK K))) | (apply sched_skip rfl; (focus (first | rfl | (go_simp; done))); (focus (intro K hK; go_simp; refine hK _ ?_; clear hK K))))
              apply sched_op rfl
              intro K hK
              go_simp
              go_wp2_with (fail)
              refine (above_any (w := w2.drew) HAL.out (wf_pa HG.out) hL64 s.pa s.id hwpa).mono ?_
              rintro e v1 ⟨rfl, hba⟩
              have hk1 : Below w2.heap.size w2 v1 := below_step HB.out (Below.refl _ _).drew hba
              go_wp2_with fail
              refine ⟨by exact hk1, ?_⟩
              repeat (first | (apply sched_take rfl; (focus (first | rfl | (go_simp; done))); (focus (intro W hW; obtain ⟨g1, g2⟩ := HP23.out W hW; go_simp; rfl)); (focus (intro K hK; go_simp; refine hK _ ?_; clear hK K))) | (apply sched_skip rfl; (focus (first | rfl | (go_simp; done))); (focus (intro K hK; go_simp; refine hK _ ?_; clear hK K))))
              refine sched_nil ?_
              have hbw2 : Below wr.heap.size wr w2 := HSZ2.out.2
              have HBV : Hid (Below wr.heap.size wr v1) := Lib.hid (hbw2.trans (hk1.mono hbw2.size))
              have HIN3 : Hid (AddIn w v1 p a d tr S (L2, c)) := Lib.hid (HIN.out.below HBV.out)
              have HFO3 : Hid (Fo v1 p a d tr L2 (fun k => (S k ∨ (w.heap.size + 2 ≤ k ∧ k < wr.heap.size)))) := Lib.hid (HFO2.out.below hk1 (Nat.le_refl _))
              have hsb3 := (HP23.out v1 hk1).2
              have hszv : wr.heap.size + 2 ≤ v1.heap.size := by have h1 := HSZ2.out.1; have h2 := hk1.size; omega
              clear hba hk1 hbw2 hsb hxb hc10 hc11 hc12 hc13 hc14 hf1
              have hc10 : v1.cell? ⟨w.heap.size + 1, 0, none⟩ = some (.int .i64 c.ad) := blk_cell HIN3.out.c1 0
              have hc11 : v1.cell? ⟨w.heap.size + 1, 1, none⟩ = some (.int .i64 c.sa) := blk_cell HIN3.out.c1 1
              have hc12 : v1.cell? ⟨w.heap.size + 1, 2, none⟩ = some (.int .i64 c.ot) := blk_cell HIN3.out.c1 2
              have hc13 : v1.cell? ⟨w.heap.size + 1, 3, none⟩ = some (.int .i64 c.cy) := blk_cell HIN3.out.c1 3
              have hc14 : v1.cell? ⟨w.heap.size + 1, 4, none⟩ = some (.int .i64 c.fu) := blk_cell HIN3.out.c1 4
              have hf1 := blk_frozen HIN3.out.c1
              cases hab : aboveB L2 s.pa s.id
              · have HADD := Lib.hid hab
                obtain ⟨w3, hrun3, hf3, hsz3, A0, c0, hlk, A5, c5, w5, hrun5, hf5, w6, hrun6, hfo6, hfr6, hf36⟩ := HFO3.out.addSteps s HFIT.out HAT.out (by omega) hab
                have HP14 : Hid (∀ W, Fr (fun k => k = a) v1 W → (∀ j, W.cell? ⟨p, j, none⟩ = (#[.map (some a), .map (some d), .int .i64 tr] : Array Value)[j]?) ∧ (∀ j, W.cell? ⟨wr.heap.size, j, none⟩ = (#[.int .i64 s.tr, .int .i64 s.id, .int .i64 s.pa, .int .i64 s.st, .int .i64 s.en, .string s.nm] : Array Value)[j]?)) := Lib.hid (fun W hW => add_facts3 HFO3.out (fun hk => by rcases hk with hk | ⟨_, hk⟩; have := HSL.out _ hk; omega; omega) (by omega) hsb3 hW)
                have HP15 : Hid (∀ W, Fr (fun k => (S k ∨ (w.heap.size + 2 ≤ k ∧ k < wr.heap.size)) ∧ k ≠ p ∧ k ≠ a) w3 W → (∀ j, W.cell? ⟨p, j, none⟩ = (#[.map (some a), .map (some d), .int .i64 tr] : Array Value)[j]?) ∧ (∀ j, W.cell? ⟨wr.heap.size, j, none⟩ = (#[.int .i64 s.tr, .int .i64 s.id, .int .i64 s.pa, .int .i64 s.st, .int .i64 s.en, .string s.nm] : Array Value)[j]?)) := Lib.hid (fun W hW => add_facts4 HFO3.out (fun hk => by rcases hk with hk | ⟨_, hk⟩; have := HSL.out _ hk; omega; omega) (by omega) hsz3 hsb3 hf3 hW)
                have hrun3b : (Instr.mapUpdate 233 (.map (some a)) (.int .i64 s.id) (.agg #[.int .i64 s.tr, .int .i64 s.id, .int .i64 s.pa, .int .i64 s.st, .int .i64 s.en, .string s.nm])).run Tryz.prog v1.drew = .ok () w3 := hrun3
                have hlk0 := hlk w3.drew rfl
                have hlk1 := hlk (w3.alloc (.cells #[.int .i64 s.id] 3)).drew (Below.heap_alloc _ _ _ (by have := HFO3.out.lt d HFO3.out.sd; omega))
                have HIN6 : Hid (AddIn w w6 p a d tr S (L2 ++ [s], c)) := Lib.hid (HIN.out.added HSL.out HBV.out hfo6 hfr6)
                have HF3 := Lib.hid hf3
                have HF5 := Lib.hid hf5
                have HF36 := Lib.hid hf36
                have HNE := Lib.hid hfo6
                clear hrun3 hlk hf3 hf5 hf36 hfo6 hfr6 hsb3 hc10 hc11 hc12 hc13 hc14 hf1
                go_wp2_with fail
                refine wp_region_sched [(0, true), (1, true), (2, true), (3, true), (4, true), (5, true), (6, true), (7, true), (8, false)] (fun W => Fr (fun k => k = a) v1 W) (by kernel_rfl) (by kernel_rfl) rfl (by kernel_rfl) ((Fr.refl _ _).drew) ?_
                repeat (first | (apply sched_take rfl; (focus (first | rfl | (go_simp; done))); (focus (intro W hW; obtain ⟨g1, g2⟩ := HP14.out W hW; go_simp; rfl)); (focus (intro K hK; go_simp; refine hK _ ?_; clear hK K))) | (apply sched_skip rfl; (focus (first | rfl | (go_simp; done))); (focus (intro K hK; go_simp; refine hK _ ?_; clear hK K))))
                apply sched_op rfl
                intro K hK
                go_simp
                go_wp2_with (fail)
                refine ⟨by exact HF3.out, ?_⟩
                refine sched_nil ?_
                go_wp2_with fail
                refine wp_region_fork [0, 1, 2, 3, 4, 5, 6, 7, 8, 9, 10, 11, 12, 13, 15, 16] 14 17 [(17, false), (18, false), (19, false)] [(14, false), (18, false), (19, false)] (fun W => Fr (fun k => (S k ∨ (w.heap.size + 2 ≤ k ∧ k < wr.heap.size)) ∧ k ≠ p ∧ k ≠ a) w3 W) (by kernel_rfl) (by kernel_rfl) rfl rfl (by kernel_rfl) (by kernel_rfl) (by kernel_rfl) (by kernel_rfl) ((Fr.refl _ _).drew) ?_
                repeat (first | (apply take_one rfl; (focus (first | rfl | (go_simp; done))); (focus (intro W hW; obtain ⟨g1, g2⟩ := HP15.out W hW; go_simp; rfl)); (focus (intro K hK; go_simp; refine hK _ ?_; clear hK K))) | (apply take_skip rfl; (focus (first | rfl | (go_simp; done))); (focus (intro K hK; go_simp; refine hK _ ?_; clear hK K))))
                have hgoal : True := trivial
                refine take_nil ⟨?_, ?_⟩
                · apply sched_op rfl
                  intro K hK
                  go_simp
                  go_wp2_with (fail)
                  refine ⟨by exact (Fr.refl _ _).drew, ?_⟩
                  apply sched_op rfl
                  intro K hK
                  go_simp
                  go_wp2_with (fail)
                  refine ⟨by exact ((Fr.refl _ _).alloc _).drew, ?_⟩
                  apply sched_run (v := .slice A5 ((kidIds L2 s.pa).length + 1) c5) (w' := w5) rfl
                  · focus (first | rfl | (go_simp; done))
                  · focus (refine exec_app rfl ?_ ?_ hrun5 <;> go_simp)
                  · exact HF5.out
                  intro K hK; go_simp; refine hK _ ?_; clear hK K
                  apply sched_op rfl
                  intro K hK
                  go_simp
                  go_wp2_with (fail)
                  refine ⟨by exact HF36.out, ?_⟩
                  refine sched_nil ?_
                  have hc10 : w6.cell? ⟨w.heap.size + 1, 0, none⟩ = some (.int .i64 c.ad) := blk_cell HIN6.out.c1 0
                  have hc11 : w6.cell? ⟨w.heap.size + 1, 1, none⟩ = some (.int .i64 c.sa) := blk_cell HIN6.out.c1 1
                  have hc12 : w6.cell? ⟨w.heap.size + 1, 2, none⟩ = some (.int .i64 c.ot) := blk_cell HIN6.out.c1 2
                  have hc13 : w6.cell? ⟨w.heap.size + 1, 3, none⟩ = some (.int .i64 c.cy) := blk_cell HIN6.out.c1 3
                  have hc14 : w6.cell? ⟨w.heap.size + 1, 4, none⟩ = some (.int .i64 c.fu) := blk_cell HIN6.out.c1 4
                  have hf1 := blk_frozen HIN6.out.c1
                  have hwr : wrap64 ((c.ad : Int) + 1) = (c.ad : Int) + 1 := IntWalk.wrap64_in _ (by have := HCS.out; omega)
                  go_wp2_with fail
                  go_roundw
                  case rel =>
                    refine ⟨k + 1, by omega, by go_num, ?_⟩
                    rw [HST.out, addS_add HAT.out (by omega) HADD.out]
                    exact HIN6.out.bump HSL.out 0 _ { c with ad := c.ad + 1 } (by simp [Cnt.cells])
                  case measure => simp [intOf]; omega
                · apply sched_op rfl
                  intro K hK
                  go_simp
                  go_wp2_with (fail)
                  refine ⟨by exact ((Fr.refl _ _).alloc _).drew, ?_⟩
                  apply sched_op rfl
                  intro K hK
                  go_simp
                  go_wp2_with (fail)
                  refine ⟨by exact ((Fr.refl _ _).alloc _).drew, ?_⟩
                  apply sched_run (v := .slice A5 ((kidIds L2 s.pa).length + 1) c5) (w' := w5) rfl
                  · focus (first | rfl | (go_simp; done))
                  · focus (refine exec_app rfl ?_ ?_ hrun5 <;> go_simp)
                  · exact HF5.out
                  intro K hK; go_simp; refine hK _ ?_; clear hK K
                  apply sched_op rfl
                  intro K hK
                  go_simp
                  go_wp2_with (fail)
                  refine ⟨by exact HF36.out, ?_⟩
                  refine sched_nil ?_
                  have hc10 : w6.cell? ⟨w.heap.size + 1, 0, none⟩ = some (.int .i64 c.ad) := blk_cell HIN6.out.c1 0
                  have hc11 : w6.cell? ⟨w.heap.size + 1, 1, none⟩ = some (.int .i64 c.sa) := blk_cell HIN6.out.c1 1
                  have hc12 : w6.cell? ⟨w.heap.size + 1, 2, none⟩ = some (.int .i64 c.ot) := blk_cell HIN6.out.c1 2
                  have hc13 : w6.cell? ⟨w.heap.size + 1, 3, none⟩ = some (.int .i64 c.cy) := blk_cell HIN6.out.c1 3
                  have hc14 : w6.cell? ⟨w.heap.size + 1, 4, none⟩ = some (.int .i64 c.fu) := blk_cell HIN6.out.c1 4
                  have hf1 := blk_frozen HIN6.out.c1
                  have hwr : wrap64 ((c.ad : Int) + 1) = (c.ad : Int) + 1 := IntWalk.wrap64_in _ (by have := HCS.out; omega)
                  go_wp2_with fail
                  go_roundw
                  case rel =>
                    refine ⟨k + 1, by omega, by go_num, ?_⟩
                    rw [HST.out, addS_add HAT.out (by omega) HADD.out]
                    exact HIN6.out.bump HSL.out 0 _ { c with ad := c.ad + 1 } (by simp [Cnt.cells])
                  case measure => simp [intOf]; omega
              · have HCY := Lib.hid hab
                clear hab
                have hwr : wrap64 ((c.cy : Int) + 1) = (c.cy : Int) + 1 := IntWalk.wrap64_in _ (by have := HCS.out; omega)
                go_wp2_with fail
                go_roundw
                case rel =>
                  refine ⟨k + 1, by omega, by go_num, ?_⟩
                  rw [HST.out, addS_cycle HAT.out (by omega) HCY.out]
                  exact HIN3.out.bump HSL.out 3 _ { c with cy := c.cy + 1 } (by simp [Cnt.cells])
                case measure => simp [intOf]; omega
          | some o =>
            have hget : getS L2 s.id = o := by rw [getS, hat]; rfl
            have HLK : Hid (∀ W, Below (wr.heap.size + 1) (wr.alloc (.cells #[.int .i64 s.tr, .int .i64 s.id, .int .i64 s.pa, .int .i64 s.st, .int .i64 s.en, .string s.nm] 93)) W → (Instr.lookup 233 (.map (some a)) (.int .i64 s.id) true).run Tryz.prog W = .ok (.tuple #[.agg #[.int .i64 o.tr, .int .i64 o.id, .int .i64 o.pa, .int .i64 o.st, .int .i64 o.en, .string o.nm], .bool true]) W) := Lib.hid (by
              intro W hW
              have := (HF.out W hW).2.2.all.look hwid true
              rw [hget, hat] at this
              exact this)
            have HAT := Lib.hid hat
            clear hget hat
            have HB : Hid (wr.heap.size + 1 ≤ (wr.alloc (.cells #[.int .i64 s.tr, .int .i64 s.id, .int .i64 s.pa, .int .i64 s.st, .int .i64 s.en, .string s.nm] 93)).heap.size) := Lib.hid (by simp)
            refine wp_region_sched [(0, true), (1, true), (2, true), (3, true), (4, true), (5, true), (6, true), (7, true), (8, true), (9, true), (10, true), (11, false), (12, false), (13, true)] (fun W => Below (wr.heap.size + 1) (wr.alloc (.cells #[.int .i64 s.tr, .int .i64 s.id, .int .i64 s.pa, .int .i64 s.st, .int .i64 s.en, .string s.nm] 93)) W) (by kernel_rfl) (by kernel_rfl) rfl (by kernel_rfl) ((Below.refl _ _).drew) ?_
            repeat (first | (apply sched_take rfl; (focus (first | rfl | (go_simp; done))); (focus (intro W hW; obtain ⟨f1, f2, f3⟩ := HF.out W hW; have f4 := HLK.out W hW; go_simp; rfl)); (focus (intro K hK; go_simp; refine hK _ ?_; clear hK K))) | (apply sched_skip rfl; (focus (first | rfl | (go_simp; done))); (focus (intro K hK; go_simp; refine hK _ ?_; clear hK K))))
            apply sched_op rfl
            intro K hK
            go_simp
            go_wp2_with (fail)
            refine ⟨by repeat (first | exact Below.refl _ _ | assumption | refine Below.drew ?_ | refine below_alloc HB.out ?_ _), ?_⟩
            apply sched_op rfl
            intro K hK
            go_simp
            go_wp2_with (fail)
            refine ⟨by repeat (first | exact Below.refl _ _ | assumption | refine Below.drew ?_ | refine below_alloc HB.out ?_ _ | refine Below.setCell ?_ (by simp) _), ?_⟩
            repeat (first | (apply sched_take rfl; (focus (first | rfl | (go_simp; done))); (focus (intro W hW; obtain ⟨f1, f2, f3⟩ := HF.out W hW; have f4 := HLK.out W hW; go_simp; rfl)); (focus (intro K hK; go_simp; refine hK _ ?_; clear hK K))) | (apply sched_skip rfl; (focus (first | rfl | (go_simp; done))); (focus (intro K hK; go_simp; refine hK _ ?_; clear hK K))))
            refine sched_nil ?_
            have hfx := add_facts2 HIN.out s o (World.drew ((wr.alloc (.cells #[.int .i64 s.tr, .int .i64 s.id, .int .i64 s.pa, .int .i64 s.st, .int .i64 s.en, .string s.nm] 93)).alloc (.cells #[.int .i64 o.tr, .int .i64 o.id, .int .i64 o.pa, .int .i64 o.st, .int .i64 o.en, .string o.nm] 93))) rfl
            generalize (World.drew ((wr.alloc (.cells #[.int .i64 s.tr, .int .i64 s.id, .int .i64 s.pa, .int .i64 s.st, .int .i64 s.en, .string s.nm] 93)).alloc (.cells #[.int .i64 o.tr, .int .i64 o.id, .int .i64 o.pa, .int .i64 o.st, .int .i64 o.en, .string o.nm] 93))) = w2 at hfx ⊢
            obtain ⟨hin2, hfo2, hsb, hxb, hsz2⟩ := hfx
            have HIN2 := Lib.hid hin2
            have HFO2 := Lib.hid hfo2
            have HSZ2 := Lib.hid hsz2
            have hc10 : w2.cell? ⟨w.heap.size + 1, 0, none⟩ = some (.int .i64 c.ad) := blk_cell hin2.c1 0
            have hc11 : w2.cell? ⟨w.heap.size + 1, 1, none⟩ = some (.int .i64 c.sa) := blk_cell hin2.c1 1
            have hc12 : w2.cell? ⟨w.heap.size + 1, 2, none⟩ = some (.int .i64 c.ot) := blk_cell hin2.c1 2
            have hc13 : w2.cell? ⟨w.heap.size + 1, 3, none⟩ = some (.int .i64 c.cy) := blk_cell hin2.c1 3
            have hc14 : w2.cell? ⟨w.heap.size + 1, 4, none⟩ = some (.int .i64 c.fu) := blk_cell hin2.c1 4
            have hf1 := blk_frozen hin2.c1
            have hpc := blk_cell hfo2.hp
            have hpl := hfo2.lt p hfo2.sp
            clear hin2 hfo2 hsz2
            by_cases hos : o = s
            · have hcmp := eql_span (s := o) (t := s) (q := true) (by simp [hos])
              have HOS := Lib.hid hos
              clear hos
              have hwr : wrap64 ((c.sa : Int) + 1) = (c.sa : Int) + 1 := IntWalk.wrap64_in _ (by have := HCS.out; omega)
              go_wp2_with fail
              go_roundw
              case rel =>
                refine ⟨k + 1, by omega, by go_num, ?_⟩
                rw [HST.out, addS_same HAT.out HOS.out]
                exact HIN2.out.bump HSL.out 1 _ { c with sa := c.sa + 1 } (by simp [Cnt.cells])
              case measure => simp [intOf]; omega
            · have hcmp := eql_span (s := o) (t := s) (q := false) (by simp [hos])
              have HOS := Lib.hid hos
              clear hos
              have hwr : wrap64 ((c.ot : Int) + 1) = (c.ot : Int) + 1 := IntWalk.wrap64_in _ (by have := HCS.out; omega)
              go_wp2_with fail
              go_roundw
              case rel =>
                refine ⟨k + 1, by omega, by go_num, ?_⟩
                rw [HST.out, addS_other HAT.out HOS.out]
                exact HIN2.out.bump HSL.out 2 _ { c with ot := c.ot + 1 } (by simp [Cnt.cells])
              case measure => simp [intOf]; omega
        · have hAA : addA tr L l = ((addL (L, Cnt.zero) l).1, (addL (L, Cnt.zero) l).2, 0) := by rw [addA, if_pos HA2.out]
          rw [List.take_of_length_le (by omega)] at hsum
          have hin := HIN.out
          rw [List.take_of_length_le (by omega)] at hin
          have HIN9 := Lib.hid hin
          have HAA := Lib.hid hAA
          have hk1 : ¬ (k : Int) < (l.length : Int) := by omega
          clear HIN hin hAA hgr hsum
          generalize addL (L, Cnt.zero) l = st at *
          obtain ⟨L2, c⟩ := st
          have hc00 : wr.cell? ⟨w.heap.size, 0, none⟩ = some (.int .i64 0) := blk_cell HIN9.out.c0 0
          have hc01 : wr.cell? ⟨w.heap.size, 1, none⟩ = some (.int .i64 0) := blk_cell HIN9.out.c0 1
          have hc02 : wr.cell? ⟨w.heap.size, 2, none⟩ = some (.int .i64 0) := blk_cell HIN9.out.c0 2
          have hc03 : wr.cell? ⟨w.heap.size, 3, none⟩ = some (.int .i64 0) := blk_cell HIN9.out.c0 3
          have hc04 : wr.cell? ⟨w.heap.size, 4, none⟩ = some (.int .i64 0) := blk_cell HIN9.out.c0 4
          have hc10 : wr.cell? ⟨w.heap.size + 1, 0, none⟩ = some (.int .i64 c.ad) := blk_cell HIN9.out.c1 0
          have hc11 : wr.cell? ⟨w.heap.size + 1, 1, none⟩ = some (.int .i64 c.sa) := blk_cell HIN9.out.c1 1
          have hc12 : wr.cell? ⟨w.heap.size + 1, 2, none⟩ = some (.int .i64 c.ot) := blk_cell HIN9.out.c1 2
          have hc13 : wr.cell? ⟨w.heap.size + 1, 3, none⟩ = some (.int .i64 c.cy) := blk_cell HIN9.out.c1 3
          have hc14 : wr.cell? ⟨w.heap.size + 1, 4, none⟩ = some (.int .i64 c.fu) := blk_cell HIN9.out.c1 4
          have hf0 := blk_frozen HIN9.out.c0
          go_wp2_with fail
          refine bodyPost_ret (v := .tuple #[c.val, .int .i64 0]) (by simp [results, Tryz.results151, go_sem, hc00, hc01, hc02, hc03, hc04]) rfl ?_
          rw [HAA.out]
          exact ⟨rfl, HIN9.out.fin HSL.out (fr_sets _ _ (fun i => match i with | 0 => .int .i64 c.ad | 1 => .int .i64 c.sa | 2 => .int .i64 c.ot | 3 => .int .i64 c.cy | 4 => .int .i64 c.fu))⟩

theorem add_any {w : World} {p a d : Nat} {tr : Int} {L : List Sp} {S : Nat → Prop} (h : Fo w p a d tr L S) (A : Option Addr) (n cap B : Nat) (l : List Sp) (hB : B ≤ w.heap.size) (hbig : n ≤ 1000000) (hnm : ∀ s ∈ l, s.nm.size ≤ 140737488355328) (hr : RdS w B A n l) (hS : ∀ k, A.map (·.block) = some k → ¬ S k) :
    Calls Tryz.prog 151 #[.pointer (some ⟨p, 0, none⟩), .slice A n cap] w (ResAdd w p a d tr S (addA tr L l)) := add_all h A n cap B l hB hbig hnm hr (fun _ => hS)
end Go.Proofs.YtfjpenbahoeklaaGreatDoor
