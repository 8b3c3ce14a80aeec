/-
  The walk of a forest's Branches: from the top on, then those whose parent is missing. Conditions: the forest lies in memory as New and Add made it.
-/
import Derived.Test.YtempkjnaahgbhaaGreatDoorForest3
import Derived.Test.YtempkjnaahgbhaaGreatDoorForestT
import Derived.Test.YtempkjnaahgbhaaGreatDoorSched
namespace Go.Proofs.YtempkjnaahgbhaaGreatDoor
open Go Go.RowKit Go.Maps

/-- Those whose parent is missing. -/
def isLost (L : List Sp) (s : Sp) : Bool := decide (s.pa ≠ 0) && (atS L s.pa).isNone
def lost (L : List Sp) : List Int := (L.filter (isLost L)).map Sp.id
/-- The branches of a forest. -/
def branches (L : List Sp) : List Br := layL L (L.length + 1) 0 false (kidIds L 0) ++ layL L (L.length + 1) 0 true (lost L)
def ResBr (w : World) (l : List Br) (e : Ending) (w' : World) : Prop :=
  ∃ A c, e = .returned (.slice A l.length c) ∧ w'.ownsRow w.heap.size 100 8 (.slice A l.length c) l.length (l.flatMap Br.cells) ∧ Below w.heap.size w w'
theorem Fo.bag {w : World} {p a d : Nat} {tr : Int} {L : List Sp} {S : Nat → Prop} (h : Fo w p a d tr L S) : FoB w a d L S := ⟨h.all, h.down.mono (fun _ hk => hk.1), h.sa, h.sd, h.lt⟩
theorem invI : ∀ key kl, keyOf Tryz.prog 3 key = some kl → ∃ x, key = Value.int .i64 x := fun key kl h => by
  obtain ⟨x, rfl, _⟩ := keyOf_int_inv Tryz.underlying3 h; exact ⟨x, rfl⟩
theorem invS : ∀ (v : Value) (y : DataW Sp × List MemPlace), spElem v = some y → ∃ c : Sp, v = c.val := fun v y h => by
  obtain ⟨s, rfl, _⟩ := spElem_inv h; exact ⟨s, rfl⟩
/-- What has come of a map's entries. -/
def come (L : List Sp) (left : Lit → Bool) : List Sp := L.filter fun s => !left (.int .i64 s.id)
theorem come_start {L : List Sp} (hn : (L.map Sp.id).Nodup) {D : DataW Sp} (h : DOf D L) : come L (Maps.has D) = [] := by
  refine List.filter_eq_nil_iff.2 fun s hs => ?_
  rw [h.has, atS_mem hn hs]; simp
theorem come_end (L : List Sp) {left : Lit → Bool} (h : ∀ kl, left kl = false) : come L left = L := List.filter_eq_self.2 fun s _ => by rw [h]; rfl
theorem come_step {L : List Sp} (hn : (L.map Sp.id).Nodup) {left : Lit → Bool} {s : Sp} (hs : s ∈ L) (hl : left (.int .i64 s.id) = true) :
    (come L fun z => left z && !z.sameKey (.int .i64 s.id)).Perm (come L left ++ [s]) := by
  induction L with
  | nil => cases hs
  | cons a L ih =>
    rw [List.map_cons, List.nodup_cons] at hn
    unfold come
    rcases List.mem_cons.1 hs with rfl | hs
    · have e : (L.filter fun t => !(left (.int .i64 t.id) && !(Lit.int .i64 t.id).sameKey (.int .i64 s.id))) = L.filter fun t => !left (.int .i64 t.id) := by
        refine List.filter_congr fun t ht => ?_
        have hne : t.id ≠ s.id := fun e => hn.1 (List.mem_map.2 ⟨t, ht, e⟩)
        rw [sameKey_ne (ne_lit hne)]; simp
      have e2 : (Lit.int .i64 s.id).sameKey (.int .i64 s.id) = true := by simp [Lit.sameKey]
      rw [List.filter_cons_of_pos (by simp [e2]), List.filter_cons_of_neg (by simp [hl]), e]
      exact (List.perm_append_singleton s _).symm
    · have ih := ih hn.2 hs
      have hne : a.id ≠ s.id := fun e => hn.1 (List.mem_map.2 ⟨s, hs, e.symm⟩)
      have e2 : (Lit.int .i64 a.id).sameKey (.int .i64 s.id) = false := sameKey_ne (ne_lit hne)
      cases ha : left (.int .i64 a.id)
      · rw [List.filter_cons_of_pos (by simp [ha]), List.filter_cons_of_pos (by simp [ha])]
        exact ih.cons a
      · rw [List.filter_cons_of_neg (by simp [ha, e2]), List.filter_cons_of_neg (by simp [ha])]
        exact ih
/-- An entry that comes out is a span of the forest. -/
theorem come_mem {L : List Sp} {D : DataW Sp} (h : DOf D L) {x : Int} {c : Sp} {y : DataW Sp × List MemPlace} (hy : spElem c.val = some y) (hat : ∀ zd, D.atKey (.int .i64 x) zd = y.1) : atS L x = some c := by
  have h1 := has_true_of_atKey hat
  rw [h.has] at h1
  obtain ⟨s, hs⟩ := Option.isSome_iff_exists.1 h1
  rw [spElem_mk] at hy
  cases hy
  have := h.at_ x s hs (.held c)
  rw [hat] at this
  cases this
  exact hs

theorem layL_perm {L : List Sp} {n dp : Nat} {o : Bool} {l m : List Int} (h : l.Perm m) : layL L (n + 1) dp o l = layL L (n + 1) dp o m := by
  rw [layL, layL, sortS_congr (h.map _)]
theorem lost_anti {L : List Sp} (hn : (L.map Sp.id).Nodup) {l : List Int} (h : l.Perm (lost L)) : Anti L l := by
  refine ⟨h.nodup_iff.2 ((List.Sublist.map _ List.filter_sublist).nodup hn), fun i hi j hj m hm => ?_⟩
  cases m with
  | zero => rfl
  | succ m =>
    obtain ⟨s, hs, rfl⟩ := List.mem_map.1 (h.mem_iff.1 hi)
    obtain ⟨h1, h2⟩ := List.mem_filter.1 hs
    rw [it_one (atS_mem hn h1)] at hm
    have hno : atS L s.pa = none := by
      simp only [isLost, Bool.and_eq_true, Option.isNone_iff_eq_none] at h2; exact h2.2
    cases m with
    | zero =>
      obtain ⟨t, ht, rfl⟩ := List.mem_map.1 (h.mem_iff.1 hj)
      have := atS_mem hn (List.mem_filter.1 ht).1
      rw [← Option.some.inj hm, hno] at this
      cases this
    | succ m => obtain ⟨t, ht, _⟩ := it_here hm; rw [hno] at ht; cases ht
theorem Rd.oneI {w : World} {H : Nat} (hH : w.heap.size = H) (z : Int) (t : TypeId) (fr : Nat × Nat) : Rd (w.alloc (.cells #[.int .i64 z] t fr)) (H + 1) 1 (some ⟨H, 0, none⟩) 1 [Value.int .i64 z] := Rd.new hH rfl (fun j hj => by match j, hj with | 0, _ => rfl)
theorem br_ne {w : World} {base sz n c m k : Nat} {e : TypeId} {A : Option Addr} {xs : List Value} (h : w.ownsRow base e sz (.slice A n c) m xs) (hk : k < base) : some k ≠ A.map (·.block) := by
  intro he
  have := (h.lt k (by rw [he]; cases A <;> rfl)).1
  omega
theorem come_lt {L : List Sp} {left left' : Lit → Bool} {acc : List Int} {c : Sp} (h : acc.Perm (((come L left).filter (isLost L)).map Sp.id)) (h2 : (come L left').Perm (come L left ++ [c])) (h3 : isLost L c = true) : acc.length < L.length := by
  have e1 := h.length_eq
  rw [List.length_map] at e1
  have e2 := (h2.filter (isLost L)).length_eq
  rw [List.filter_append, List.filter_cons_of_pos h3, List.length_append] at e2
  have e3 : ((come L left').filter (isLost L)).length ≤ L.length := Nat.le_trans (List.length_filter_le _ _) (List.length_filter_le _ _)
  simp at e2
  omega
theorem br_facts {w w2 w3 : World} {a r : Nat} {D : DataW Sp} {left : Lit → Bool} {cnt n n2 c2 base : Nat} {A2 : Option Addr} {xs : List Value} {SF : Nat → Prop} (hbw : Below w.heap.size w w3) (hrg : w3.ranges Tryz.prog 3 spElem a r n D left cnt)
    (hown : w3.ownsRow base 3 1 (.slice A2 n2 c2) n2 xs) (hfr : Fr SF w2 w3) (c x : Sp) (W : World) (hW : W = ((w3.alloc (.cells #[.int .i64 c.tr, .int .i64 c.id, .int .i64 c.pa, .int .i64 c.st, .int .i64 c.en, .string c.nm] 30)).alloc (.cells #[.int .i64 x.tr, .int .i64 x.id, .int .i64 x.pa, .int .i64 x.st, .int .i64 x.en, .string x.nm] 30)).drew) :
    (∀ j, W.cell? ⟨w3.heap.size, j, none⟩ = (#[.int .i64 c.tr, .int .i64 c.id, .int .i64 c.pa, .int .i64 c.st, .int .i64 c.en, .string c.nm] : Array Value)[j]?) ∧ Below w.heap.size w W ∧ W.ranges Tryz.prog 3 spElem a r n D left cnt ∧ W.ownsRow base 3 1 (.slice A2 n2 c2) n2 xs ∧ Fr SF w2 W ∧ W.heap.size = w3.heap.size + 2 := by
  subst hW
  have hs := hbw.size
  refine ⟨blk_cell (blk_below (((Below.refl (w3.heap.size + 1) _).alloc (by simp) _).drew) (by omega) (heap_alloc_new w3 _)), ((hbw.alloc hs _).alloc (by simp <;> omega) _).drew, (hrg.alloc _).alloc _, (hown.alloc _).alloc _, ((hfr.alloc _).alloc _).drew, by simp [World.drew, -World.drew_eq]⟩

set_option maxRecDepth 100000 in
set_option maxHeartbeats 4000000 in
theorem branches_any {w : World} {p a d : Nat} {tr : Int} {L : List Sp} {S : Nat → Prop} (h : Fo w p a d tr L S) :
    Calls Tryz.prog 144 #[.pointer (some ⟨p, 0, none⟩)] w (ResBr w (branches L)) := by
  obtain ⟨i0, hi0, gz0, gz1, gz2⟩ := info_parts Tryz.infoInt
  have hnd := h.gr.nodup
  have hacy := h.gr.acy
  have hlen := h.gr.len
  have HF := Lib.hid h
  have HND := Lib.hid hnd
  have HACY := Lib.hid hacy
  have hpl := h.lt p h.sp
  have hwid : ∀ s ∈ L, wfI s.id := fun s hs => by have := ok_bounds (fits_ok (h.gr.fits s hs)).1; exact wfI_of (by omega) (by omega)
  have HWID := Lib.hid hwid
  obtain ⟨A0, c0, hlk, hown0, _⟩ := h.down.look (x := 0) (wfI_of (by omega) (by omega))
  have HLK0 : Hid (∀ W, Below w.heap.size w W → (Instr.lookup 217 (.map (some d)) (.int .i64 0) false).run Tryz.prog W = .ok (.slice A0 (kidIds L 0).length c0) W) := Lib.hid (fun W hW => hlk W (hW.block d (h.lt d h.sd)))
  have HRI : Hid (RdI w w.heap.size A0 (kidIds L 0).length (kidIds L 0)) := Lib.hid (Rd.of_own hown0)
  have HP : Hid (∀ W, Below w.heap.size w W → (∀ j, W.cell? ⟨p, j, none⟩ = (#[.map (some a), .map (some d), .int .i64 tr] : Array Value)[j]?)) := Lib.hid (fun W hW => blk_cell (h.below hW (Nat.le_refl _)).hp)
  have hkl : (kidIds L 0).length ≤ L.length := by rw [kidIds, List.length_map]; exact List.length_filter_le _ _
  have hfk : Fine L (L.length + 1) (kidIds L 0) := fine_ids hnd hacy (fun i hi => let ⟨s, hs, _⟩ := kid_mem hnd hi; ⟨s, hs⟩)
  have hle0 := laid_le hnd hacy (dp := 0) (o := false) hfk (kids_anti hnd hacy 0)
  have HFK := Lib.hid hfk
  have HLE0 := Lib.hid hle0
  clear h hnd hacy hlk hown0 hwid hfk hle0
  go_enter Tryz.func144, Tryz.ntmps144
  go_wp2_with fail
  refine (fmade_any HF.out).mono ?_
  rintro e w1 ⟨rfl, rfl⟩
  go_wp2_with fail
  have HB : Hid (w.heap.size ≤ w.heap.size) := Lib.hid (Nat.le_refl _)
  refine wp_region_sched [(0, true), (1, true), (2, true), (3, true), (4, true), (5, true), (6, true), (7, true), (8, true), (9, true), (10, true), (11, false), (12, true)] (fun W => Below w.heap.size w W) (by kernel_rfl) (by kernel_rfl) rfl (by kernel_rfl) ((Below.refl _ _).drew) ?_
  repeat (first | (apply sched_take rfl; (focus (first | rfl | (go_simp; done))); (focus (intro W hW; have g1 := HP.out W hW; have g2 := HLK0.out W hW; go_simp; rfl)); (focus (intro K hK; go_simp; refine hK _ ?_; clear hK K))) | (apply sched_skip rfl; (focus (first | rfl | (go_simp; done))); (focus (intro K hK; go_simp; refine hK _ ?_; clear hK K))))
  apply sched_op rfl
  intro K hK
  go_simp
  go_wp2_with (fail)
  refine (lay_any a d L S HWID.out hlen (L.length + 1) (kidIds L 0) 0 false [] w.heap.size w.heap.size none 0 A0 c0 w.drew (HF.out.bag.below (Below.refl _ _).drew) HFK.out (by omega) (by omega) (by have := HLE0.out; simp only [List.length_nil]; omega) (World.ownsRow_nil _ _ _ _) (Nat.le_refl _) (fun k _ hr => by cases hr) HRI.out (Nat.le_refl _)).mono ?_
  rintro e w1 ⟨A1, c1, rfl, hown1, hfr1, _⟩
  rw [List.nil_append] at hown1 ⊢
  have hb1 : Below w.heap.size w w1 := ⟨hfr1.os, hfr1.tape, hfr1.output, hfr1.size, fun k hk => hfr1.block k hk (fun hr => by cases hr)⟩
  go_wp2_with fail
  refine ⟨by exact hb1, ?_⟩
  repeat (first | (apply sched_take rfl; (focus (first | rfl | (go_simp; done))); (focus (intro W hW; have g1 := HP.out W hW; have g2 := HLK0.out W hW; go_simp; rfl)); (focus (intro K hK; go_simp; refine hK _ ?_; clear hK K))) | (apply sched_skip rfl; (focus (first | rfl | (go_simp; done))); (focus (intro K hK; go_simp; refine hK _ ?_; clear hK K))))
  refine sched_nil ?_
  have hz1 := hb1.size
  have HO1 := Lib.hid hown1
  have HB1 := Lib.hid hb1
  obtain ⟨D, hD, hDof⟩ := (HF.out.below hb1 (Nat.le_refl _)).all
  have HD := Lib.hid hD
  have HDOF := Lib.hid hDof
  have hpc := HP.out w1 hb1
  have hL0 : (layL L (L.length + 1) 0 false (kidIds L 0)).length ≤ 64 := by have := HLE0.out; omega
  have HBR : Hid (branches L = layL L (L.length + 1) 0 false (kidIds L 0) ++ layL L (L.length + 1) 0 true (lost L)) := Lib.hid rfl
  generalize layL L (L.length + 1) 0 false (kidIds L 0) = top at *
  clear hown1 hfr1 hb1 hD hDof
  go_wp2_with (at_range; refine wpList_range_own _ rfl _ 215 rfl 3 30 keyLaw Tryz.underlying215 spElem a L.length D rfl HD.out ?_; intro w2 hrg0 hg0 hs0)
  go_frame
  have HRG0 := Lib.hid hrg0
  have hal : a < w1.heap.size := HD.out.lt
  have HG0 := Lib.hid hg0
  clear hrg0 hg0
  go_loopw [4] (fun v wr => ∃ (left : Lit → Bool) (cnt : Nat) (acc : List Int) (A2 : Option Addr) (c2 : Nat), v = .slice A2 acc.length c2 ∧ acc.length ≤ 64 ∧ wr.ranges Tryz.prog 3 spElem a w1.heap.size L.length D left cnt ∧ wr.ownsRow (w1.heap.size + 1) 3 1 (.slice A2 acc.length c2) acc.length (acc.map (Value.int .i64)) ∧
      Fr (fun k => k = w1.heap.size) w2 wr ∧ acc.Perm (((come L left).filter (isLost L)).map Sp.id)) (fun _ wr => wr.rangeLeft a w1.heap.size)
  case atStart => exact ⟨_, _, [], none, 0, rfl, by simp, HRG0.out, World.ownsRow_nil _ _ _ _, Fr.refl _ _, by rw [come_start HND.out HDOF.out]; exact List.Perm.refl _⟩
  case round =>
    obtain ⟨left, cnt, acc, A2, c2, rfl, hacc, hrg, hown2, hfr, hperm⟩ := hrel
    have HRG := Lib.hid hrg
    have HO2 := Lib.hid hown2
    have HFR := Lib.hid hfr
    have HPM := Lib.hid hperm
    have hszr := hfr.size
    have hbw : Below w.heap.size w wr := HB1.out.trans ((below_none HG0.out (by omega)).trans (hfr.below (by omega) (fun k hk => by omega)))
    have HBW := Lib.hid hbw
    have hpcr := HP.out wr hbw
    clear hrg hown2 hfr hperm hbw hpc
    go_wp2_with (at_next; refine wpList_next_ranges _ rfl _ rfl 3 keyLaw spElem (Value.int .i64) Sp.val invI invS a w1.heap.size L.length D left cnt rfl HRG.out ?_ ?_)
    · intro _ hl0
      have hp2 := HPM.out
      rw [come_end L hl0] at hp2
      have HP2 : Hid (acc.Perm (lost L)) := Lib.hid hp2
      have HA1 : Hid (∀ k, rowIs A1 k → w.heap.size ≤ k ∧ k < w1.heap.size) := Lib.hid (fun k hk => HO1.out.lt k (by rw [← hk]; cases A1 <;> rfl))
      have hotop : wr.ownsRow w.heap.size 100 8 (.slice A1 top.length c1) top.length (top.flatMap Br.cells) := own_fr' (own_below HO1.out (below_none HG0.out (Nat.le_refl _))) HFR.out (fun k hk he => by
        have := (HO1.out.lt k hk).2
        omega)
      have hfac : Fine L (L.length + 1) acc := fine_ids HND.out HACY.out (fun i hi => by
        obtain ⟨s, hs, rfl⟩ := List.mem_map.1 (hp2.mem_iff.1 hi)
        exact ⟨s, atS_mem HND.out (List.mem_filter.1 hs).1⟩)
      have hlaid := laid_le HND.out HACY.out (n := L.length + 1) (dp := 0) (o := true) (ids := acc) hfac (lost_anti HND.out hp2)
      have hri : RdI wr wr.heap.size A2 acc.length acc := Rd.of_own HO2.out
      have hcall := lay_any a d L S HWID.out hlen (L.length + 1) acc 0 true top w.heap.size wr.heap.size A1 c1 A2 c2 wr (HF.out.bag.below HBW.out) hfac (by omega) (by omega) (by omega) hotop (by omega) (fun k hk hr => by
        have h1 := HF.out.lt k hk
        have h2 := (HA1.out k hr).1
        omega) hri (Nat.le_refl _)
      rw [layL_perm HP2.out, ← HBR.out] at hcall
      have HCALL := Lib.hid hcall
      clear hp2 hotop hfac hlaid hri hcall hl0
      go_wp2_with fail
      refine HCALL.out.mono ?_
      rintro e w3 ⟨A3, c3, rfl, hown3, hfr3, _⟩
      go_wp2_with fail
      go_ret
      exact ⟨A3, c3, rfl, hown3, HBW.out.trans (hfr3.below (by omega) (fun k hk => (HA1.out k hk).1))⟩
    · intro x c kl y ps w3 cnt3 hkey hleft hy hat hrg3 hlt3 hg3 hs3 hen
      obtain ⟨x', ex, rfl, _⟩ := keyOf_int_inv Tryz.underlying3 hkey
      cases ex
      have hat2 := come_mem HDOF.out (y := (y, ps)) hy hat
      have hcid := (atS_some hat2).2
      have hcm := (atS_some hat2).1
      subst hcid
      have HSTEP : Hid ((come L fun z => left z && !z.sameKey (.int .i64 c.id)).Perm (come L left ++ [c])) := Lib.hid (come_step HND.out hcm hleft)
      have hb3 : Below w1.heap.size wr w3 := (Below.refl _ _).grown hg3 (by omega) (fun k hk => by cases hk; exact Nat.le_refl _)
      have HBW3 : Hid (Below w.heap.size w w3) := Lib.hid (HBW.out.trans (hb3.mono (by omega)))
      have HFR3 : Hid (Fr (fun k => k = w1.heap.size) w2 w3) := Lib.hid (HFR.out.trans (Fr.of_grown hg3 (fun k hk => by cases hk; rfl)))
      have HO3 : Hid (w3.ownsRow (w1.heap.size + 1) 3 1 (.slice A2 acc.length c2) acc.length (acc.map (Value.int .i64))) := Lib.hid (own_fr' HO2.out (Fr.of_grown (S := fun k => k = w1.heap.size) hg3 (fun k hk => by cases hk; rfl)) (fun k hk he => by
        have := (HO2.out.lt k hk).1
        omega))
      have HRG3 := Lib.hid hrg3
      have HLT3 := Lib.hid hlt3
      have hz3 : wr.heap.size ≤ w3.heap.size := Nat.le_of_eq hs3.symm
      have hwpa : wfI c.pa := wf_pa HF.out.gr c hcm
      have HFB : Hid (FoB w3 a d L S) := Lib.hid (HF.out.bag.below HBW3.out)
      have hpc3 := HP.out w3 HBW3.out
      clear hkey hleft hy hat hrg3 hlt3 hg3 hs3 hat2 hb3 hpcr
      have hen2 : (Instr.entry (.pointer (some ⟨w1.heap.size, 0, none⟩))).run Tryz.prog w3 = .ok (.tuple #[.int .i64 c.id, .agg #[.int .i64 c.tr, .int .i64 c.id, .int .i64 c.pa, .int .i64 c.st, .int .i64 c.en, .string c.nm]]) w3 := hen
      clear hen
      go_wp2_with fail
      have HF9 : Hid (∀ W, Below (w3.heap.size + 1) (w3.alloc (.cells #[.int .i64 c.tr, .int .i64 c.id, .int .i64 c.pa, .int .i64 c.st, .int .i64 c.en, .string c.nm] 30)) W → (∀ j, W.cell? ⟨p, j, none⟩ = (#[.map (some a), .map (some d), .int .i64 tr] : Array Value)[j]?) ∧ (∀ j, W.cell? ⟨w3.heap.size, j, none⟩ = (#[.int .i64 c.tr, .int .i64 c.id, .int .i64 c.pa, .int .i64 c.st, .int .i64 c.en, .string c.nm] : Array Value)[j]?) ∧ FoB W a d L S) := Lib.hid (fun W hW => by
        have hb : Below w3.heap.size w3 W := ((Below.refl _ _).alloc (Nat.le_refl _) _).trans (hW.mono (by omega))
        exact ⟨HP.out W (HBW3.out.trans (hb.mono (by omega))), blk_cell (blk_below hW (by omega) (heap_alloc_new w3 _)), HFB.out.below hb⟩)
      cases hpz : (c.pa != 0)
      · cases hpt : atS L c.pa with
        | none =>
          have HLO : Hid (isLost L c = false) := Lib.hid (by have : c.pa = 0 := (by simpa using hpz); simp [isLost, this])
          have HLK : Hid (∀ W, Below (w3.heap.size + 1) (w3.alloc (.cells #[.int .i64 c.tr, .int .i64 c.id, .int .i64 c.pa, .int .i64 c.st, .int .i64 c.en, .string c.nm] 30)) W → (Instr.lookup 215 (.map (some a)) (.int .i64 c.pa) true).run Tryz.prog W = .ok (.tuple #[.agg #[.int .i64 0, .int .i64 0, .int .i64 0, .int .i64 0, .int .i64 0, .string ⟨#[]⟩], .bool false]) W) := Lib.hid (by
            intro W hW
            have := (HF9.out W hW).2.2.all.look hwpa true
            rw [getS, hpt] at this
            exact this)
          clear hpt
          have HB : Hid (w3.heap.size + 1 ≤ (w3.alloc (.cells #[.int .i64 c.tr, .int .i64 c.id, .int .i64 c.pa, .int .i64 c.st, .int .i64 c.en, .string c.nm] 30)).heap.size) := Lib.hid (by simp)
          refine wp_region_sched [(0, true), (1, true), (2, true), (3, true), (4, true), (5, true), (6, true), (7, true), (8, true), (9, true), (10, true), (11, false), (12, false), (13, true)] (fun W => Below (w3.heap.size + 1) (w3.alloc (.cells #[.int .i64 c.tr, .int .i64 c.id, .int .i64 c.pa, .int .i64 c.st, .int .i64 c.en, .string c.nm] 30)) W) (by kernel_rfl) (by kernel_rfl) rfl (by kernel_rfl) ((Below.refl _ _).drew) ?_
          repeat (first | (apply sched_take rfl; (focus (first | rfl | (go_simp; done))); (focus (intro W hW; obtain ⟨f1, f2, f3⟩ := HF9.out W hW; have f4 := HLK.out W hW; go_simp; rfl)); (focus (intro K hK; go_simp; refine hK _ ?_; clear hK K))) | (apply sched_skip rfl; (focus (first | rfl | (go_simp; done))); (focus (intro K hK; go_simp; refine hK _ ?_; clear hK K))))
          apply sched_op rfl
          intro K hK
          go_simp
          go_wp2_with (fail)
          refine ⟨by repeat (first | exact Below.refl _ _ | assumption | refine Below.drew ?_ | refine below_alloc HB.out ?_ _), ?_⟩
          apply sched_op rfl
          intro K hK
          go_simp
          go_wp2_with (fail)
          refine ⟨by repeat (first | exact Below.refl _ _ | assumption | refine Below.drew ?_ | refine below_alloc HB.out ?_ _ | refine Below.setCell ?_ (by simp) _), ?_⟩
          repeat (first | (apply sched_take rfl; (focus (first | rfl | (go_simp; done))); (focus (intro W hW; obtain ⟨f1, f2, f3⟩ := HF9.out W hW; have f4 := HLK.out W hW; go_simp; rfl)); (focus (intro K hK; go_simp; refine hK _ ?_; clear hK K))) | (apply sched_skip rfl; (focus (first | rfl | (go_simp; done))); (focus (intro K hK; go_simp; refine hK _ ?_; clear hK K))))
          refine sched_nil ?_
          have hfx := br_facts HBW3.out HRG3.out HO3.out HFR3.out c default (World.drew ((w3.alloc (.cells #[.int .i64 c.tr, .int .i64 c.id, .int .i64 c.pa, .int .i64 c.st, .int .i64 c.en, .string c.nm] 30)).alloc (.cells #[.int .i64 0, .int .i64 0, .int .i64 0, .int .i64 0, .int .i64 0, .string ⟨#[]⟩] 30))) rfl
          generalize (World.drew ((w3.alloc (.cells #[.int .i64 c.tr, .int .i64 c.id, .int .i64 c.pa, .int .i64 c.st, .int .i64 c.en, .string c.nm] 30)).alloc (.cells #[.int .i64 0, .int .i64 0, .int .i64 0, .int .i64 0, .int .i64 0, .string ⟨#[]⟩] 30))) = w4 at hfx ⊢
          obtain ⟨hc2, hbw4, hrg4, hown4, hfr4, hsz4⟩ := hfx
          have HBW4 := Lib.hid hbw4
          have HRG4 := Lib.hid hrg4
          have HO4 := Lib.hid hown4
          have HFR4 := Lib.hid hfr4
          have hsz5 := Nat.le_of_eq hsz4.symm
          clear hbw4 hrg4 hown4 hfr4 hpc3 hsz4
          go_wp2_with fail
          go_roundw
          case rel =>
            refine ⟨_, cnt3, acc, A2, c2, rfl, hacc, HRG4.out, HO4.out, HFR4.out, ?_⟩
            refine List.Perm.trans ?_ (((HSTEP.out.filter _).map _)).symm
            rw [List.filter_append, List.filter_cons_of_neg (by rw [HLO.out]; exact Bool.false_ne_true), List.filter_nil, List.append_nil]
            exact HPM.out
          case measure => rw [HRG4.out.left_eq, HRG.out.left_eq]; exact HLT3.out
        | some o =>
          have HLO : Hid (isLost L c = false) := Lib.hid (by have : c.pa = 0 := (by simpa using hpz); simp [isLost, this])
          have HLK : Hid (∀ W, Below (w3.heap.size + 1) (w3.alloc (.cells #[.int .i64 c.tr, .int .i64 c.id, .int .i64 c.pa, .int .i64 c.st, .int .i64 c.en, .string c.nm] 30)) W → (Instr.lookup 215 (.map (some a)) (.int .i64 c.pa) true).run Tryz.prog W = .ok (.tuple #[.agg #[.int .i64 o.tr, .int .i64 o.id, .int .i64 o.pa, .int .i64 o.st, .int .i64 o.en, .string o.nm], .bool true]) W) := Lib.hid (by
            intro W hW
            have := (HF9.out W hW).2.2.all.look hwpa true
            rw [getS, hpt] at this
            exact this)
          clear hpt
          have HB : Hid (w3.heap.size + 1 ≤ (w3.alloc (.cells #[.int .i64 c.tr, .int .i64 c.id, .int .i64 c.pa, .int .i64 c.st, .int .i64 c.en, .string c.nm] 30)).heap.size) := Lib.hid (by simp)
          refine wp_region_sched [(0, true), (1, true), (2, true), (3, true), (4, true), (5, true), (6, true), (7, true), (8, true), (9, true), (10, true), (11, false), (12, false), (13, true)] (fun W => Below (w3.heap.size + 1) (w3.alloc (.cells #[.int .i64 c.tr, .int .i64 c.id, .int .i64 c.pa, .int .i64 c.st, .int .i64 c.en, .string c.nm] 30)) W) (by kernel_rfl) (by kernel_rfl) rfl (by kernel_rfl) ((Below.refl _ _).drew) ?_
          repeat (first | (apply sched_take rfl; (focus (first | rfl | (go_simp; done))); (focus (intro W hW; obtain ⟨f1, f2, f3⟩ := HF9.out W hW; have f4 := HLK.out W hW; go_simp; rfl)); (focus (intro K hK; go_simp; refine hK _ ?_; clear hK K))) | (apply sched_skip rfl; (focus (first | rfl | (go_simp; done))); (focus (intro K hK; go_simp; refine hK _ ?_; clear hK K))))
          apply sched_op rfl
          intro K hK
          go_simp
          go_wp2_with (fail)
          refine ⟨by repeat (first | exact Below.refl _ _ | assumption | refine Below.drew ?_ | refine below_alloc HB.out ?_ _), ?_⟩
          apply sched_op rfl
          intro K hK
          go_simp
          go_wp2_with (fail)
          refine ⟨by repeat (first | exact Below.refl _ _ | assumption | refine Below.drew ?_ | refine below_alloc HB.out ?_ _ | refine Below.setCell ?_ (by simp) _), ?_⟩
          repeat (first | (apply sched_take rfl; (focus (first | rfl | (go_simp; done))); (focus (intro W hW; obtain ⟨f1, f2, f3⟩ := HF9.out W hW; have f4 := HLK.out W hW; go_simp; rfl)); (focus (intro K hK; go_simp; refine hK _ ?_; clear hK K))) | (apply sched_skip rfl; (focus (first | rfl | (go_simp; done))); (focus (intro K hK; go_simp; refine hK _ ?_; clear hK K))))
          refine sched_nil ?_
          have hfx := br_facts HBW3.out HRG3.out HO3.out HFR3.out c o (World.drew ((w3.alloc (.cells #[.int .i64 c.tr, .int .i64 c.id, .int .i64 c.pa, .int .i64 c.st, .int .i64 c.en, .string c.nm] 30)).alloc (.cells #[.int .i64 o.tr, .int .i64 o.id, .int .i64 o.pa, .int .i64 o.st, .int .i64 o.en, .string o.nm] 30))) rfl
          generalize (World.drew ((w3.alloc (.cells #[.int .i64 c.tr, .int .i64 c.id, .int .i64 c.pa, .int .i64 c.st, .int .i64 c.en, .string c.nm] 30)).alloc (.cells #[.int .i64 o.tr, .int .i64 o.id, .int .i64 o.pa, .int .i64 o.st, .int .i64 o.en, .string o.nm] 30))) = w4 at hfx ⊢
          obtain ⟨hc2, hbw4, hrg4, hown4, hfr4, hsz4⟩ := hfx
          have HBW4 := Lib.hid hbw4
          have HRG4 := Lib.hid hrg4
          have HO4 := Lib.hid hown4
          have HFR4 := Lib.hid hfr4
          have hsz5 := Nat.le_of_eq hsz4.symm
          clear hbw4 hrg4 hown4 hfr4 hpc3 hsz4
          go_wp2_with fail
          go_roundw
          case rel =>
            refine ⟨_, cnt3, acc, A2, c2, rfl, hacc, HRG4.out, HO4.out, HFR4.out, ?_⟩
            refine List.Perm.trans ?_ (((HSTEP.out.filter _).map _)).symm
            rw [List.filter_append, List.filter_cons_of_neg (by rw [HLO.out]; exact Bool.false_ne_true), List.filter_nil, List.append_nil]
            exact HPM.out
          case measure => rw [HRG4.out.left_eq, HRG.out.left_eq]; exact HLT3.out
      · cases hpt : atS L c.pa with
        | none =>
          have HLO : Hid (isLost L c = true) := Lib.hid (by have : c.pa ≠ 0 := (by simpa using hpz); simp [isLost, hpt, this])
          have HLK : Hid (∀ W, Below (w3.heap.size + 1) (w3.alloc (.cells #[.int .i64 c.tr, .int .i64 c.id, .int .i64 c.pa, .int .i64 c.st, .int .i64 c.en, .string c.nm] 30)) W → (Instr.lookup 215 (.map (some a)) (.int .i64 c.pa) true).run Tryz.prog W = .ok (.tuple #[.agg #[.int .i64 0, .int .i64 0, .int .i64 0, .int .i64 0, .int .i64 0, .string ⟨#[]⟩], .bool false]) W) := Lib.hid (by
            intro W hW
            have := (HF9.out W hW).2.2.all.look hwpa true
            rw [getS, hpt] at this
            exact this)
          clear hpt
          have HB : Hid (w3.heap.size + 1 ≤ (w3.alloc (.cells #[.int .i64 c.tr, .int .i64 c.id, .int .i64 c.pa, .int .i64 c.st, .int .i64 c.en, .string c.nm] 30)).heap.size) := Lib.hid (by simp)
          refine wp_region_sched [(0, true), (1, true), (2, true), (3, true), (4, true), (5, true), (6, true), (7, true), (8, true), (9, true), (10, true), (11, false), (12, false), (13, true)] (fun W => Below (w3.heap.size + 1) (w3.alloc (.cells #[.int .i64 c.tr, .int .i64 c.id, .int .i64 c.pa, .int .i64 c.st, .int .i64 c.en, .string c.nm] 30)) W) (by kernel_rfl) (by kernel_rfl) rfl (by kernel_rfl) ((Below.refl _ _).drew) ?_
          repeat (first | (apply sched_take rfl; (focus (first | rfl | (go_simp; done))); (focus (intro W hW; obtain ⟨f1, f2, f3⟩ := HF9.out W hW; have f4 := HLK.out W hW; go_simp; rfl)); (focus (intro K hK; go_simp; refine hK _ ?_; clear hK K))) | (apply sched_skip rfl; (focus (first | rfl | (go_simp; done))); (focus (intro K hK; go_simp; refine hK _ ?_; clear hK K))))
          apply sched_op rfl
          intro K hK
          go_simp
          go_wp2_with (fail)
          refine ⟨by repeat (first | exact Below.refl _ _ | assumption | refine Below.drew ?_ | refine below_alloc HB.out ?_ _), ?_⟩
          apply sched_op rfl
          intro K hK
          go_simp
          go_wp2_with (fail)
          refine ⟨by repeat (first | exact Below.refl _ _ | assumption | refine Below.drew ?_ | refine below_alloc HB.out ?_ _ | refine Below.setCell ?_ (by simp) _), ?_⟩
          repeat (first | (apply sched_take rfl; (focus (first | rfl | (go_simp; done))); (focus (intro W hW; obtain ⟨f1, f2, f3⟩ := HF9.out W hW; have f4 := HLK.out W hW; go_simp; rfl)); (focus (intro K hK; go_simp; refine hK _ ?_; clear hK K))) | (apply sched_skip rfl; (focus (first | rfl | (go_simp; done))); (focus (intro K hK; go_simp; refine hK _ ?_; clear hK K))))
          refine sched_nil ?_
          have hfx := br_facts HBW3.out HRG3.out HO3.out HFR3.out c default (World.drew ((w3.alloc (.cells #[.int .i64 c.tr, .int .i64 c.id, .int .i64 c.pa, .int .i64 c.st, .int .i64 c.en, .string c.nm] 30)).alloc (.cells #[.int .i64 0, .int .i64 0, .int .i64 0, .int .i64 0, .int .i64 0, .string ⟨#[]⟩] 30))) rfl
          generalize (World.drew ((w3.alloc (.cells #[.int .i64 c.tr, .int .i64 c.id, .int .i64 c.pa, .int .i64 c.st, .int .i64 c.en, .string c.nm] 30)).alloc (.cells #[.int .i64 0, .int .i64 0, .int .i64 0, .int .i64 0, .int .i64 0, .string ⟨#[]⟩] 30))) = w4 at hfx ⊢
          obtain ⟨hc2, hbw4, hrg4, hown4, hfr4, hsz4⟩ := hfx
          have HBW4 := Lib.hid hbw4
          have HRG4 := Lib.hid hrg4
          have HO4 := Lib.hid hown4
          have HFR4 := Lib.hid hfr4
          have hsz5 := Nat.le_of_eq hsz4.symm
          clear hbw4 hrg4 hown4 hfr4 hpc3 hsz4
          have hal2 : acc.length < 64 := by have h1 := come_lt HPM.out HSTEP.out HLO.out; omega
          go_wp2_with (at_builtin; refine wpList_app _ rfl (.tmp 53) (.tmp 55) _ rfl (w1.heap.size + 1) 3 i0 _ 1 8 Tryz.underlying23 hi0 gz0 gz1 gz2 rfl (by omega) _ _ _ _ rfl (HO4.out.alloc _) (w4.heap.size + 1) _ 1 _ _ rfl (Rd.oneI (by simp) c.id _ _) (by intro u hu; obtain rfl := List.mem_singleton.1 hu; rfl) (by unfold maxLen; omega) (by omega) (by simp <;> omega) ?_; intro A5 c5 w5 hown5 hg5 _)
          go_roundw
          case rel =>
            refine ⟨_, cnt3, acc ++ [c.id], A5, c5, by simp, by simp <;> omega, (HRG4.out.alloc _).kept hg5 (br_ne HO4.out (by omega)) (br_ne HO4.out (by omega)), by simpa using hown5, (HFR4.out.alloc _).step (Fr.of_grown (S := rowIs A2) hg5 (fun k hk => hk)) (fun j hj => .inr (by have := (HO4.out.lt j (by rw [← hj]; cases A2 <;> rfl)).1; omega)), ?_⟩
            refine List.Perm.trans ?_ (((HSTEP.out.filter _).map _)).symm
            rw [List.filter_append, List.filter_cons_of_pos HLO.out, List.filter_nil, List.map_append]
            exact HPM.out.append_right [c.id]
          case measure =>
            have e1 := ((HRG4.out.alloc _).kept hg5 (br_ne HO4.out (by omega)) (br_ne HO4.out (by omega))).left_eq
            rw [e1, HRG.out.left_eq]; exact HLT3.out
        | some o =>
          have HLO : Hid (isLost L c = false) := Lib.hid (by simp [isLost, hpt])
          have HLK : Hid (∀ W, Below (w3.heap.size + 1) (w3.alloc (.cells #[.int .i64 c.tr, .int .i64 c.id, .int .i64 c.pa, .int .i64 c.st, .int .i64 c.en, .string c.nm] 30)) W → (Instr.lookup 215 (.map (some a)) (.int .i64 c.pa) true).run Tryz.prog W = .ok (.tuple #[.agg #[.int .i64 o.tr, .int .i64 o.id, .int .i64 o.pa, .int .i64 o.st, .int .i64 o.en, .string o.nm], .bool true]) W) := Lib.hid (by
            intro W hW
            have := (HF9.out W hW).2.2.all.look hwpa true
            rw [getS, hpt] at this
            exact this)
          clear hpt
          have HB : Hid (w3.heap.size + 1 ≤ (w3.alloc (.cells #[.int .i64 c.tr, .int .i64 c.id, .int .i64 c.pa, .int .i64 c.st, .int .i64 c.en, .string c.nm] 30)).heap.size) := Lib.hid (by simp)
          refine wp_region_sched [(0, true), (1, true), (2, true), (3, true), (4, true), (5, true), (6, true), (7, true), (8, true), (9, true), (10, true), (11, false), (12, false), (13, true)] (fun W => Below (w3.heap.size + 1) (w3.alloc (.cells #[.int .i64 c.tr, .int .i64 c.id, .int .i64 c.pa, .int .i64 c.st, .int .i64 c.en, .string c.nm] 30)) W) (by kernel_rfl) (by kernel_rfl) rfl (by kernel_rfl) ((Below.refl _ _).drew) ?_
          repeat (first | (apply sched_take rfl; (focus (first | rfl | (go_simp; done))); (focus (intro W hW; obtain ⟨f1, f2, f3⟩ := HF9.out W hW; have f4 := HLK.out W hW; go_simp; rfl)); (focus (intro K hK; go_simp; refine hK _ ?_; clear hK K))) | (apply sched_skip rfl; (focus (first | rfl | (go_simp; done))); (focus (intro K hK; go_simp; refine hK _ ?_; clear hK K))))
          apply sched_op rfl
          intro K hK
          go_simp
          go_wp2_with (fail)
          refine ⟨by repeat (first | exact Below.refl _ _ | assumption | refine Below.drew ?_ | refine below_alloc HB.out ?_ _), ?_⟩
          apply sched_op rfl
          intro K hK
          go_simp
          go_wp2_with (fail)
          refine ⟨by repeat (first | exact Below.refl _ _ | assumption | refine Below.drew ?_ | refine below_alloc HB.out ?_ _ | refine Below.setCell ?_ (by simp) _), ?_⟩
          repeat (first | (apply sched_take rfl; (focus (first | rfl | (go_simp; done))); (focus (intro W hW; obtain ⟨f1, f2, f3⟩ := HF9.out W hW; have f4 := HLK.out W hW; go_simp; rfl)); (focus (intro K hK; go_simp; refine hK _ ?_; clear hK K))) | (apply sched_skip rfl; (focus (first | rfl | (go_simp; done))); (focus (intro K hK; go_simp; refine hK _ ?_; clear hK K))))
          refine sched_nil ?_
          have hfx := br_facts HBW3.out HRG3.out HO3.out HFR3.out c o (World.drew ((w3.alloc (.cells #[.int .i64 c.tr, .int .i64 c.id, .int .i64 c.pa, .int .i64 c.st, .int .i64 c.en, .string c.nm] 30)).alloc (.cells #[.int .i64 o.tr, .int .i64 o.id, .int .i64 o.pa, .int .i64 o.st, .int .i64 o.en, .string o.nm] 30))) rfl
          generalize (World.drew ((w3.alloc (.cells #[.int .i64 c.tr, .int .i64 c.id, .int .i64 c.pa, .int .i64 c.st, .int .i64 c.en, .string c.nm] 30)).alloc (.cells #[.int .i64 o.tr, .int .i64 o.id, .int .i64 o.pa, .int .i64 o.st, .int .i64 o.en, .string o.nm] 30))) = w4 at hfx ⊢
          obtain ⟨hc2, hbw4, hrg4, hown4, hfr4, hsz4⟩ := hfx
          have HBW4 := Lib.hid hbw4
          have HRG4 := Lib.hid hrg4
          have HO4 := Lib.hid hown4
          have HFR4 := Lib.hid hfr4
          have hsz5 := Nat.le_of_eq hsz4.symm
          clear hbw4 hrg4 hown4 hfr4 hpc3 hsz4
          go_wp2_with fail
          go_roundw
          case rel =>
            refine ⟨_, cnt3, acc, A2, c2, rfl, hacc, HRG4.out, HO4.out, HFR4.out, ?_⟩
            refine List.Perm.trans ?_ (((HSTEP.out.filter _).map _)).symm
            rw [List.filter_append, List.filter_cons_of_neg (by rw [HLO.out]; exact Bool.false_ne_true), List.filter_nil, List.append_nil]
            exact HPM.out
          case measure => rw [HRG4.out.left_eq, HRG.out.left_eq]; exact HLT3.out
end Go.Proofs.YtempkjnaahgbhaaGreatDoor
