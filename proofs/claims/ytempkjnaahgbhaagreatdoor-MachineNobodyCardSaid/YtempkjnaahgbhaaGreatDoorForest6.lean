/-
  A forest that is being cloned: the map of its spans in another order; the map of who names whom on its way; a row of numbers copied. Conditions: plain lemmas; the clone's row reads as a list.
  The walk of a forest's Clone: another forest with the same spans. Conditions: the forest lies in memory as New and Add made it.
-/
import Derived.Test.YtempkjnaahgbhaaGreatDoorForest4
import Derived.Test.YtempkjnaahgbhaaGreatDoorForestU
namespace Go.Proofs.YtempkjnaahgbhaaGreatDoor
open Go Go.RowKit Go.Maps

theorem DOf.perm {D : DataW Sp} {L L' : List Sp} (h : DOf D L) (hn : (L'.map Sp.id).Nodup) (hp : L.Perm L') : DOf D L' := by
  have e := fun x => atS_perm hn hp x
  exact ⟨fun x => by rw [h.has, e], fun x s hs => h.at_ x s (by rw [e]; exact hs), by rw [h.size, hp.length_eq]⟩
theorem AllAt.perm {w : World} {a : Nat} {L L' : List Sp} (h : AllAt w a L) (hn : (L'.map Sp.id).Nodup) (hp : L.Perm L') : AllAt w a L' := by
  obtain ⟨D, h1, h2⟩ := h
  exact ⟨D, by rw [← hp.length_eq]; exact h1, h2.perm hn hp⟩
theorem own_shrink {H : Type} {w : World} {P : Program} {k : TypeId} {R : Value → Option (DataW H × List MemPlace)} {b n m : Nat} {D : DataW H} (h : w.ownsMap P k R b n D) (hm : Maps.size D ≤ m) : w.ownsMap P k R b m D := by
  obtain ⟨es, clock, hb, F, hs, rfl⟩ := h
  refine ⟨es, clock, hb, F, ?_, rfl⟩
  rw [size_eq, length_read] at hm
  exact hm

/-- Block d is the map of who names whom, as far as P says; its rows lie in S, no two in one block; cnt are still to come. -/
def PartDown (w : World) (d : Nat) (L : List Sp) (S : Nat → Prop) (P : Int → Prop) (cnt : Nat) : Prop :=
  ∃ (D : DataW Value) (G C : Int → Nat), w.ownsMap Tryz.prog 3 slElem d (Maps.size D) D ∧ Maps.size D + cnt ≤ L.length ∧ (∀ x, ¬ (P x ∧ kids L x ≠ []) → Maps.has D (.int .i64 x) = false) ∧
    (∀ x, P x → kids L x ≠ [] → (∀ z, D.atKey (.int .i64 x) z = .held (.slice (some ⟨G x, 0, none⟩) (kidIds L x).length (C x))) ∧
      w.ownsRow 0 3 1 (.slice (some ⟨G x, 0, none⟩) (kidIds L x).length (C x)) (kidIds L x).length ((kidIds L x).map (Value.int .i64)) ∧ S (G x)) ∧
    (∀ x y, P x → P y → kids L x ≠ [] → kids L y ≠ [] → G x = G y → x = y)
theorem PartDown.start {w : World} {d : Nat} {L : List Sp} {S S0 : Nat → Prop} {P : Int → Prop} {cnt : Nat} (h : DownAt w d [] S0) (hP : ∀ x, P x → kids L x = []) (hc : cnt ≤ L.length) : PartDown w d L S P cnt := by
  obtain ⟨D, G, C, h1, h2, _, _⟩ := h
  have hz : Maps.size D = 0 := Nat.le_zero.1 h1.size_le
  exact ⟨D, G, C, own_shrink h1 (Nat.le_refl _), by omega, fun x _ => h2 x rfl, fun x hx hk => absurd (hP x hx) hk, fun x y hx _ hk => absurd (hP x hx) hk⟩
theorem PartDown.done {w : World} {d : Nat} {L : List Sp} {S : Nat → Prop} {P : Int → Prop} {cnt : Nat} (h : PartDown w d L S P cnt) (hP : ∀ x, P x) : DownAt w d L S := by
  obtain ⟨D, G, C, h1, h2, h3, h4, h5⟩ := h
  exact ⟨D, G, C, h1.mono (by omega), fun x hx => h3 x (fun h => h.2 hx), fun x hx => h4 x (hP x) hx, fun x y hx hy => h5 x y (hP x) (hP y) hx hy⟩
theorem PartDown.lt {w : World} {d : Nat} {L : List Sp} {S : Nat → Prop} {P : Int → Prop} {cnt : Nat} (h : PartDown w d L S P cnt) : d < w.heap.size := by obtain ⟨D, G, C, h1, _⟩ := h; exact h1.lt
theorem PartDown.fr {w w' : World} {d : Nat} {L : List Sp} {S S2 : Nat → Prop} {P : Int → Prop} {cnt : Nat} (h : PartDown w d L S P cnt) (hf : Fr S2 w w') (hd : ¬ S2 d) (hS : ∀ k, S k → ¬ S2 k) : PartDown w' d L S P cnt := by
  have hlt := h.lt
  obtain ⟨D, G, C, h1, h2, h3, h4, h5⟩ := h
  refine ⟨D, G, C, owns_eq h1 (hf.block d hlt hd), h2, h3, fun x hp hx => ?_, h5⟩
  obtain ⟨a1, a2, a3⟩ := h4 x hp hx
  exact ⟨a1, own_eq a2 (hf.block _ (own_mem a2) (hS _ a3)), a3⟩
theorem PartDown.mono {w : World} {d : Nat} {L : List Sp} {S S2 : Nat → Prop} {P : Int → Prop} {cnt : Nat} (h : PartDown w d L S P cnt) (hS : ∀ k, S k → S2 k) : PartDown w d L S2 P cnt := by
  obtain ⟨D, G, C, h1, h2, h3, h4, h5⟩ := h
  exact ⟨D, G, C, h1, h2, h3, fun x hp hx => ⟨(h4 x hp hx).1, (h4 x hp hx).2.1, hS _ (h4 x hp hx).2.2⟩, h5⟩
theorem PartDown.step {w w1 : World} {d : Nat} {L : List Sp} {S : Nat → Prop} {P P' : Int → Prop} {cnt cnt' : Nat} (h : PartDown w d L S P cnt) {x : Int} (hP' : ∀ z, P' z ↔ P z ∨ z = x) (hx : wfI x) (hnp : ¬ P x) (hkx : kids L x ≠ []) (hL : L.length ≤ 64) (hcnt : cnt' < cnt) (hSlt : ∀ k, S k → k < w.heap.size) (hSd : ¬ S d)
    (hb : Below w.heap.size w w1) {g c : Nat} (hown : w1.ownsRow 0 3 1 (.slice (some ⟨g, 0, none⟩) (kidIds L x).length c) (kidIds L x).length ((kidIds L x).map (Value.int .i64))) (hg : w.heap.size ≤ g) :
    ∃ w2, (Instr.mapUpdate 217 (.map (some d)) (.int .i64 x) (.slice (some ⟨g, 0, none⟩) (kidIds L x).length c)).run Tryz.prog w1 = .ok () w2 ∧ PartDown w2 d L (fun k => S k ∨ (w.heap.size ≤ k ∧ k < w2.heap.size)) P' cnt' ∧ w1.grownBy w2 (some d) := by
  have hdl := h.lt
  obtain ⟨D, G, C, h1, h2, h3, h4, h5⟩ := h
  have h1' : w1.ownsMap Tryz.prog 3 slElem d (Maps.size D) D := owns_eq h1 (hb.block d hdl)
  obtain ⟨w2, hrun2, hown2, hg2⟩ := h1'.update keyLaw Tryz.underlying217 (by unfold maxLen; omega) (keyI hx) (val := .slice (some ⟨g, 0, none⟩) (kidIds L x).length c) (d := .held (.slice (some ⟨g, 0, none⟩) (kidIds L x).length c)) (ps := []) rfl
  have hhas : Maps.has D (.int .i64 x) = false := h3 x (fun h => hnp h.1)
  have hsz : Maps.size (D.put (.int .i64 x) (.held (.slice (some ⟨g, 0, none⟩) (kidIds L x).length c))) = Maps.size D + 1 := by rw [size_put (h1.tidy keyLaw), hhas]; rfl
  have hgl := own_mem hown
  have hz2 := hg2.size
  refine ⟨w2, hrun2, ⟨_, fun y => if y = x then g else G y, fun y => if y = x then c else C y, own_shrink hown2 (Nat.le_refl _), by rw [hsz]; omega, ?_, ?_, ?_⟩, hg2⟩
  · intro y hy
    by_cases hyx : y = x
    · subst hyx; exact absurd ⟨(hP' y).2 (.inr rfl), hkx⟩ hy
    · rw [has_put_other (ne_lit hyx)]
      exact h3 y (fun hh => hy ⟨(hP' y).2 (.inl hh.1), hh.2⟩)
  · intro y hy hky
    by_cases hyx : y = x
    · subst hyx
      simp only [if_true]
      exact ⟨fun z => atKey_put_same h1'.isMap (litI hx) _ _, own_eq hown (hg2.block g hgl (by simp only [ne_eq, Option.some.injEq]; omega)), .inr ⟨hg, by omega⟩⟩
    · simp only [if_neg hyx]
      obtain ⟨a1, a2, a3⟩ := h4 y (((hP' y).1 hy).resolve_right hyx) hky
      have hlt := own_mem a2
      have hz1 := hb.size
      refine ⟨fun z => by rw [atKey_put_other (ne_lit hyx)]; exact a1 z, ?_, .inl a3⟩
      exact own_eq (own_eq a2 (hb.block _ hlt)) (hg2.block _ (by omega) (fun e => hSd (by injection e with e; rw [← e]; exact a3)))
  · intro y z hy hz hky hkz he
    by_cases hyx : y = x
    · by_cases hzx : z = x
      · rw [hyx, hzx]
      · simp only [if_pos hyx, if_neg hzx] at he
        have := hSlt _ (h4 z (((hP' z).1 hz).resolve_right hzx) hkz).2.2
        omega
    · by_cases hzx : z = x
      · simp only [if_neg hyx, if_pos hzx] at he
        have := hSlt _ (h4 y (((hP' y).1 hy).resolve_right hyx) hky).2.2
        omega
      · simp only [if_neg hyx, if_neg hzx] at he
        exact h5 y z (((hP' y).1 hy).resolve_right hyx) (((hP' z).1 hz).resolve_right hzx) hky hkz he

/-- What a call leaves that makes numbers. -/
def ResI (w : World) (l : List Int) (e : Ending) (w' : World) : Prop :=
  ∃ A c, e = .returned (.slice A l.length c) ∧ w'.ownsRow w.heap.size 3 1 (.slice A l.length c) l.length (l.map (Value.int .i64)) ∧ Below w.heap.size w w'

set_option maxRecDepth 100000 in
set_option maxHeartbeats 400000 in
theorem cloneInts_any (a : Addr) (n cap B : Nat) (l : List Int) (w : World) (hB : B ≤ w.heap.size) (hb : n ≤ 2513169434916) (hr : RdI w B (some a) n l) :
    Calls Tryz.prog 17 #[.slice (some a) n cap] w (ResI w l) := by
  obtain ⟨i0, hi0, hz0, hz1, hz2⟩ := info_parts Tryz.infoInt
  have hl := hr.len
  have HN := Lib.hid (own_new w #[] 3 0 1 rfl (by unfold maxLen; omega) w.heap.size (Nat.le_refl _))
  have HR : Hid (RdI (w.alloc (.cells #[] 3)) B (some a) n l) := Lib.hid (Rd.alloc hr _ hB (Nat.le_refl _))
  have HL := Lib.hid hl
  clear hl hr
  have hq := fun W : World => eql_nil (P := Tryz.prog) W 23 _ (some a) n cap Tryz.underlying23
  go_enter Tryz.func17, Tryz.ntmps17
  go_wp2_with (at_builtin; refine wpList_app _ rfl (.tmp 5) (.tmp 6) _ rfl w.heap.size 3 i0 _ 1 8 Tryz.underlying23 hi0 hz0 hz1 hz2 rfl (by omega) _ _ _ _ rfl HN.out B _ _ _ _ rfl HR.out (ints_one _) (by unfold maxLen; omega) (by omega) (by simp) ?_; intro A2 c2 w2 hown2 hg2 _)
  go_ret
  rw [List.nil_append, Nat.zero_add] at hown2
  exact ⟨A2, c2, by rw [HL.out]; rfl, by rw [HL.out]; exact hown2, below_app ((Below.refl _ _).alloc (Nat.le_refl _) _) HN.out hg2 (by simp)⟩
end Go.Proofs.YtempkjnaahgbhaaGreatDoor
namespace Go.Proofs.YtempkjnaahgbhaaGreatDoor
open Go Go.RowKit Go.Maps

theorem invL : ∀ (v : Value) (y : DataW Value × List MemPlace), slElem v = some y → ∃ c : Value, v = id c := fun v _ _ => ⟨v, rfl⟩
theorem not_come {L acc : List Sp} {left : Lit → Bool} (h : acc.Perm (come L left)) {s : Sp} (hl : left (.int .i64 s.id) = true) : atS acc s.id = none := by
  cases e : atS acc s.id with
  | none => rfl
  | some t =>
    obtain ⟨h1, h2⟩ := atS_some e
    have h3 := (List.mem_filter.1 (h.mem_iff.1 h1)).2
    rw [h2, hl] at h3
    cases h3
theorem left_step (left : Lit → Bool) (x z : Int) : (left (.int .i64 z) && !(Lit.int .i64 z).sameKey (.int .i64 x)) = false ↔ left (.int .i64 z) = false ∨ z = x := by
  by_cases h : z = x
  · subst h
    have e2 : (Lit.int .i64 z).sameKey (.int .i64 z) = true := by simp [Lit.sameKey]
    simp [e2]
  · rw [sameKey_ne (ne_lit h)]; simp [h]

theorem ranges_eq {H : Type} {P : Program} {k : TypeId} {R : Value → Option (DataW H × List MemPlace)} {w w' : World} {b r n : Nat} {D : DataW H} {left : Lit → Bool} {cnt : Nat} (h : w.ranges P k R b r n D left cnt) (hb : w'.heap[b]? = w.heap[b]?) (hr : w'.heap[r]? = w.heap[r]?) : w'.ranges P k R b r n D left cnt := by
  obtain ⟨es, clock, since, seen, c0, h1, h2, h3, h4, h5, h6⟩ := h
  exact ⟨es, clock, since, seen, c0, hb.trans h1, h2, h3, h4, hr.trans h5, h6⟩

set_option maxRecDepth 100000 in
set_option maxHeartbeats 4000000 in
theorem clone_any {w : World} {p a d : Nat} {tr : Int} {L : List Sp} {S : Nat → Prop} (h : Fo w p a d tr L S) :
    Calls Tryz.prog 117 #[.pointer (some ⟨p, 0, none⟩)] w (ResF w tr L) := by
  have HGR := Lib.hid h.gr
  have HND := Lib.hid h.gr.nodup
  have hlen := h.gr.len
  have HTR := Lib.hid h.htr
  have HF := Lib.hid h
  have HWID : Hid (∀ s ∈ L, wfI s.id) := Lib.hid (fun s hs => by have := ok_bounds (fits_ok (h.gr.fits s hs)).1; exact wfI_of (by omega) (by omega))
  have HWPA : Hid (∀ s ∈ L, wfI s.pa) := Lib.hid (wf_pa h.gr)
  have hal := h.lt a h.sa
  have hdl := h.lt d h.sd
  obtain ⟨D, hD, hDof⟩ := h.all
  obtain ⟨E, G, C, hE, hE0, hE1, _⟩ := h.down
  have HD := Lib.hid hD
  have HDOF := Lib.hid hDof
  have HE := Lib.hid hE
  have HE0 := Lib.hid hE0
  have HE1 : Hid (∀ x, kids L x ≠ [] → (∀ z, E.atKey (.int .i64 x) z = .held (.slice (some ⟨G x, 0, none⟩) (kidIds L x).length (C x))) ∧ RdI w w.heap.size (some ⟨G x, 0, none⟩) (kidIds L x).length (kidIds L x)) := Lib.hid (fun x hx => ⟨(hE1 x hx).1, Rd.of_own (hE1 x hx).2.1⟩)
  have hpc := blk_cell h.hp
  clear h hD hDof hE hE0 hE1
  go_enter Tryz.func117, Tryz.ntmps117
  go_wp2_with fail
  refine (fmade_any HF.out).mono ?_
  rintro e w1 ⟨rfl, rfl⟩
  go_wp2_with fail
  refine (new_any tr w HTR.out).mono ?_
  rintro e w1 ⟨p2, a2, d2, rfl, hg1, hb1⟩
  have hz1 := hb1.size
  have hpl2 := hg1.lt p2 hg1.sp
  have hal2 := hg1.lt a2 hg1.sa
  have hdl2 := hg1.lt d2 hg1.sd
  have had2 := hg1.ad
  have hpw2 : w.heap.size ≤ p2 := hg1.sp.1
  have haw2 : w.heap.size ≤ a2 := hg1.sa.1
  have hdw2 : w.heap.size ≤ d2 := hg1.sd.1
  have hpa2 : p2 ≠ a2 := by
    intro e; subst e
    obtain ⟨es, clock, hb, _⟩ := hg1.all.choose_spec.1
    rw [hg1.hp] at hb; cases hb
  have hpd2 : p2 ≠ d2 := by
    intro e; subst e
    obtain ⟨es, clock, hb, _⟩ := hg1.down.choose_spec.choose_spec.choose_spec.1
    rw [hg1.hp] at hb; cases hb
  have HG1 := Lib.hid hg1
  have HB1 := Lib.hid hb1
  have hpc1 := blk_cell ((HF.out.below hb1 (Nat.le_refl _)).hp)
  have HD1 : Hid (w1.ownsMap Tryz.prog 3 spElem a L.length D) := Lib.hid (owns_eq HD.out (hb1.block a hal))
  have HP2 : Hid (∀ W, Fr (fun k => k = a2 ∨ k = d2 ∨ w1.heap.size ≤ k) w1 W → ∀ j, W.cell? ⟨p2, j, none⟩ = (#[.map (some a2), .map (some d2), .int .i64 tr] : Array Value)[j]?) := Lib.hid (fun W hW => blk_cell ((hW.block p2 (by omega) (by omega)).trans HG1.out.hp))
  clear hg1 hb1 hpc
  go_wp2_with (at_range; refine wpList_range_own _ rfl _ 215 rfl 3 30 keyLaw Tryz.underlying215 spElem a L.length D rfl HD1.out ?_; intro w2 hrg0 hg0 hs0)
  go_frame
  have HRG0 := Lib.hid hrg0
  have HG0 := Lib.hid hg0
  have hs2 := Nat.le_of_eq hs0.symm
  have hs2b := Nat.le_of_eq hs0
  have HF02 : Hid (Fr (fun k => k = a2 ∨ k = w1.heap.size) w1 w2) := Lib.hid (Fr.of_grown hg0 (fun k hk => by cases hk))
  have HA02 := Lib.hid (HG1.out.all.eq (hg0.block a2 (by omega) (by simp)))
  clear hrg0 hg0 hs0
  go_loopw [] (fun wr => ∃ (left : Lit → Bool) (cnt : Nat) (acc : List Sp), wr.ranges Tryz.prog 3 spElem a w1.heap.size L.length D left cnt ∧ AllAt wr a2 acc ∧ acc.Perm (come L left) ∧ Fr (fun k => k = a2 ∨ k = w1.heap.size) w1 wr) (fun wr => wr.rangeLeft a w1.heap.size)
  case atStart => exact ⟨_, _, [], HRG0.out, HA02.out, by rw [come_start HND.out HDOF.out], HF02.out⟩
  case round =>
    obtain ⟨left, cnt, acc, hrg, hall, hperm, hfr⟩ := hrel
    have HRG := Lib.hid hrg
    have HALL := Lib.hid hall
    have HPM := Lib.hid hperm
    have HFR := Lib.hid hfr
    have hszr := hfr.size
    clear hrg hall hperm hfr hpc1
    go_wp2_with (at_next; refine wpList_next_ranges _ rfl _ rfl 3 keyLaw spElem (Value.int .i64) Sp.val invI invS a w1.heap.size L.length D left cnt rfl HRG.out ?_ ?_)
    · intro _ hl0
      obtain ⟨wA, rfl⟩ : ∃ wA, wA = wr := ⟨_, rfl⟩
      have HALLL : Hid (AllAt wA a2 L) := Lib.hid (HALL.out.perm HND.out (by have := HPM.out; rw [come_end L hl0] at this; exact this))
      have hbw : Below w.heap.size w wA := HB1.out.trans (HFR.out.below (by omega) (fun k hk => by omega))
      have HBW := Lib.hid hbw
      have hpcr := blk_cell (HF.out.below hbw (Nat.le_refl _)).hp
      have HER : Hid (wA.ownsMap Tryz.prog 3 slElem d L.length E) := Lib.hid (owns_eq HE.out (hbw.block d hdl))
      have HPD0 : Hid (DownAt wA d2 [] (rowsOf (fun k => w.heap.size ≤ k ∧ k < w1.heap.size) p2 a2 d2)) := Lib.hid (HG1.out.down.fr HFR.out (by omega) (fun k hk => by obtain ⟨⟨_, h1⟩, _, h2, _⟩ := hk; omega))
      clear hbw
      go_wp2_with (at_range; refine wpList_range_own _ rfl _ 217 rfl 3 23 keyLaw Tryz.underlying217 slElem d L.length E rfl HER.out ?_; intro w3 hrg0 hg0 hs0)
      go_frame
      have HRG1 := Lib.hid hrg0
      have hs3 := Nat.le_of_eq hs0.symm
      have hs3b := Nat.le_of_eq hs0
      have HF13 : Hid (Fr (fun k => k = d2 ∨ k = wA.heap.size) wA w3) := Lib.hid (Fr.of_grown hg0 (fun k hk => by cases hk))
      have HPD3 : Hid (PartDown w3 d2 L (fun k => wA.heap.size < k ∧ k < w3.heap.size) (fun x => Maps.has E (.int .i64 x) = false) (Maps.size E)) := Lib.hid (PartDown.start (HPD0.out.fr (S2 := fun k => False) (Fr.of_grown hg0 (fun k hk => by cases hk)) (fun h => h) (fun _ _ h => h)) (fun x hx => Classical.byContradiction fun hk => by
        have h1 := (HE1.out x hk).1
        rw [has_true_of_atKey h1] at hx
        cases hx) HER.out.size_le)
      clear hrg0 hg0 hs0 hpcr
      go_loopw [] (fun wr => ∃ (left : Lit → Bool) (cnt : Nat), wr.ranges Tryz.prog 3 slElem d wA.heap.size L.length E left cnt ∧ PartDown wr d2 L (fun k => wA.heap.size < k ∧ k < wr.heap.size) (fun x => left (.int .i64 x) = false) cnt ∧ Fr (fun k => k = d2 ∨ k = wA.heap.size) wA wr) (fun wr => wr.rangeLeft d wA.heap.size)
      case atStart => exact ⟨_, _, HRG1.out, HPD3.out, HF13.out⟩
      case round =>
        obtain ⟨left2, cnt2, hrg, hpd, hfr⟩ := hrel
        have HRG2 := Lib.hid hrg
        have HPD := Lib.hid hpd
        have HFR2 := Lib.hid hfr
        have hszq := hfr.size
        clear hrg hpd hfr
        go_wp2_with (at_next; refine wpList_next_ranges _ rfl _ rfl 3 keyLaw slElem (Value.int .i64) id invI invL d wA.heap.size L.length E left2 cnt2 rfl HRG2.out ?_ ?_)
        · intro _ hl2
          have HDONE : Hid (DownAt wr d2 L (fun k => wA.heap.size < k ∧ k < wr.heap.size)) := Lib.hid (HPD.out.done (fun x => hl2 _))
          have HPC : Hid (wr.heap[p2]? = some (.cells #[.map (some a2), .map (some d2), .int .i64 tr] 221 (0, 0))) := Lib.hid ((HFR2.out.block p2 (by omega) (by omega)).trans ((HFR.out.block p2 (by omega) (by omega)).trans HG1.out.hp))
          have HAQ := Lib.hid (HALLL.out.eq (HFR2.out.block a2 (by omega) (by omega)))
          have HBQ : Hid (Below w.heap.size w wr) := Lib.hid (HBW.out.trans (HFR2.out.below (by omega) (fun k hk => by omega)))
          go_wp2_with fail
          go_ret
          refine ⟨p2, a2, d2, rfl, ⟨HPC.out, HAQ.out, HDONE.out.mono (fun k hk => ⟨⟨by omega, hk.2⟩, by omega, by omega, by omega⟩), ⟨hpw2, by omega⟩, ⟨haw2, by omega⟩, ⟨hdw2, by omega⟩, had2, HTR.out, HGR.out, fun k hk => hk.2⟩, HBQ.out⟩
        · intro x c kl y ps w4 cnt4 hkey hleft hy hat hrg4 hlt4 hg4 hs4 hen
          obtain ⟨x', ex, rfl, hxw⟩ := keyOf_int_inv Tryz.underlying3 hkey
          cases ex
          have hkx : kids L x ≠ [] := fun hk => by
            have h1 := HE0.out x hk
            rw [has_true_of_atKey hat] at h1
            cases h1
          have hce : c = .slice (some ⟨G x, 0, none⟩) (kidIds L x).length (C x) := by
            obtain ⟨A, n, c', h1, h2⟩ := slElem_inv hy
            have h3 := (HE1.out x hkx).1 (.held c)
            rw [hat] at h3
            have h4 : y = .held (.slice A n c') := congrArg Prod.fst h2
            rw [h4] at h3
            exact h1.trans (DataW.held.inj h3)
          subst hce
          have hz4 : w4.heap.size = wr.heap.size := hs4
          have hrl := HRG2.out.lt
          have hB4 : Below w.heap.size w w4 := (HBW.out.trans (HFR2.out.below (by omega) (fun k hk => by omega))).grown hg4 (by omega) (fun k hk => by cases hk; omega)
          have HB4 := Lib.hid hB4
          have hkl : (kidIds L x).length ≤ L.length := by rw [kidIds, List.length_map]; exact List.length_filter_le _ _
          have hk0 : 0 < (kidIds L x).length := by rw [kidIds, List.length_map]; exact List.length_pos_iff.2 hkx
          have HCALL := Lib.hid (cloneInts_any ⟨G x, 0, none⟩ (kidIds L x).length (C x) w.heap.size (kidIds L x) w4.drew (by have := hB4.size; simpa [World.drew, -World.drew_eq] using this) (by omega) (Rd.below' (HE1.out x hkx).2 hB4.drew (Nat.le_refl _) (Nat.le_refl _)))
          have HPD4 : Hid (PartDown w4.drew d2 L (fun k => wA.heap.size < k ∧ k < wr.heap.size) (fun x => left2 (.int .i64 x) = false) cnt2) := Lib.hid (HPD.out.fr (S2 := fun k => k = wA.heap.size) ((Fr.of_grown hg4 (fun k hk => by cases hk; rfl)).drew) (by omega) (fun k hk => by omega))
          have HSTEP : Hid (∀ w1 g c, Below w4.drew.heap.size w4.drew w1 → w1.ownsRow 0 3 1 (.slice (some ⟨g, 0, none⟩) (kidIds L x).length c) (kidIds L x).length ((kidIds L x).map (Value.int .i64)) → w4.drew.heap.size ≤ g → _) := Lib.hid (fun w1 g c h1 h2 h3 => HPD4.out.step (P' := fun z => (left2 (.int .i64 z) && !(Lit.int .i64 z).sameKey (.int .i64 x)) = false) (fun z => left_step left2 x z) hxw (by show ¬ (left2 (.int .i64 x) = false); rw [hleft]; exact Bool.noConfusion) hkx hlen hlt4 (fun k hk => by show k < w4.heap.size; omega) (by omega) h1 (c := c) h2 h3)
          have HC : Hid (∀ W, Fr (fun k => k = d2) w4 W → (∀ j, W.cell? ⟨p2, j, none⟩ = (#[.map (some a2), .map (some d2), .int .i64 tr] : Array Value)[j]?)) := Lib.hid (fun W hW =>
            HP2.out W ((((HFR.out.mono (fun k hk => by omega)).trans (HFR2.out.mono (fun k hk => by omega))).trans ((Fr.of_grown hg4 (fun k hk => by cases hk; rfl) : Fr (fun k => k = wA.heap.size) wr w4).mono (fun k hk => by omega))).trans (hW.mono (fun k hk => by omega))))
          have HRG4 := Lib.hid hrg4
          have HLT4 := Lib.hid hlt4
          have HF4 : Hid (Fr (fun k => k = d2 ∨ k = wA.heap.size) wA w4) := Lib.hid (HFR2.out.trans (Fr.of_grown hg4 (fun k hk => by cases hk; exact .inr rfl)))
          have hd4 : d < w4.heap.size := by omega
          clear hkey hleft hy hat hrg4 hlt4 hg4 hs4 hkx hB4
          go_wp2_with fail
          refine wp_region_sched [(0, true), (1, true), (2, true), (3, true), (4, true), (5, true), (6, true), (7, false), (8, false)] (fun W => Fr (fun k => k = d2) w4 W) (by kernel_rfl) (by kernel_rfl) rfl (by kernel_rfl) ((Fr.refl _ _).drew) ?_
          repeat (first | (apply sched_take rfl; (focus (first | rfl | (go_simp; done))); (focus (intro W hW; have g1 := HC.out W hW; go_simp; rfl)); (focus (intro K hK; go_simp; refine hK _ ?_; clear hK K))) | (apply sched_skip rfl; (focus (first | rfl | (go_simp; done))); (focus (intro K hK; go_simp; refine hK _ ?_; clear hK K))))
          apply sched_op rfl
          intro K hK
          go_simp
          go_wp2_with (fail)
          refine HCALL.out.mono ?_
          rintro e w5 ⟨A5, c5, rfl, hown5, hb5⟩
          obtain ⟨g, rfl, hg1, hg2⟩ := own_form hown5 hk0
          obtain ⟨w6, hrun6, hpd6, hg6⟩ := HSTEP.out w5 g c5 hb5 (own_le hown5 (Nat.zero_le _)) hg1
          have hzd : w4.drew.heap.size = w4.heap.size := by simp [World.drew, -World.drew_eq]
          have hz5 := hb5.size
          have hz6 := hg6.size
          have HF5 : Hid (Fr (fun k => k = d2) w4 w5) := Lib.hid ((Fr.refl _ _).drew.trans (Fr.of_below hb5))
          have HF6 : Hid (Fr (fun k => k = d2) w4 w6) := Lib.hid (HF5.out.trans (Fr.of_grown hg6 (fun k hk => by cases hk; rfl)))
          have HRG6 := Lib.hid (ranges_eq HRG4.out (HF6.out.block d hd4 (by omega)) (HF6.out.block wA.heap.size (by omega) (by omega)))
          have HPD6 := Lib.hid (hpd6.mono (S2 := fun k => wA.heap.size < k ∧ k < w6.heap.size) (fun k hk => by
            rw [hzd] at hk
            omega))
          clear hown5 hb5 hpd6 hg6
          go_wp2_with fail
          refine ⟨by exact HF5.out, ?_⟩
          apply sched_op rfl
          intro K hK
          go_simp
          go_wp2_with (fail)
          refine ⟨by exact HF6.out, ?_⟩
          refine sched_nil ?_
          go_roundw
          case rel =>
            exact ⟨_, _, _, _, _, _, _, _, _, _, _, _, _, _, _, ⟨_, cnt4, HRG6.out, HPD6.out, HF4.out.trans (HF6.out.mono (fun k hk => .inl hk))⟩, rfl⟩
          case measure =>
            rw [HRG6.out.left_eq, HRG2.out.left_eq]; exact HLT4.out
    · intro x c kl y ps w3 cnt3 hkey hleft hy hat hrg3 hlt3 hg3 hs3 hen
      obtain ⟨x', ex, rfl, _⟩ := keyOf_int_inv Tryz.underlying3 hkey
      cases ex
      have hat2 := come_mem HDOF.out (y := (y, ps)) hy hat
      have hcid := (atS_some hat2).2
      have hcm := (atS_some hat2).1
      subst hcid
      have HSTEP : Hid ((come L fun z => left z && !z.sameKey (.int .i64 c.id)).Perm (come L left ++ [c])) := Lib.hid (come_step HND.out hcm hleft)
      have hno : atS acc c.id = none := not_come HPM.out hleft
      have hwid := HWID.out c hcm
      have hal3 : acc.length < 64 := by
        have e1 := HPM.out.length_eq
        have e2 := HSTEP.out.length_eq
        have e3 : (come L fun z => left z && !z.sameKey (.int .i64 c.id)).length ≤ L.length := List.length_filter_le _ _
        simp at e2
        omega
      have hne : some a2 ≠ some w1.heap.size := by simp <;> omega
      have HFR3 : Hid (Fr (fun k => k = a2 ∨ k = w1.heap.size) w1 w3) := Lib.hid (HFR.out.trans (Fr.of_grown hg3 (fun k hk => by cases hk; exact .inr rfl)))
      have HA3 : Hid (AllAt ((w3.alloc (.cells #[.int .i64 c.tr, .int .i64 c.id, .int .i64 c.pa, .int .i64 c.st, .int .i64 c.en, .string c.nm] 30)).drew) a2 acc) := Lib.hid (((HALL.out.eq (hg3.block a2 (by omega) hne)).eq (Below.heap_alloc _ _ _ (by have := hg3.size; omega))))
      have HFC : Hid (Fr (fun k => k = a2 ∨ k = d2 ∨ w1.heap.size ≤ k) w1 (w3.alloc (.cells #[.int .i64 c.tr, .int .i64 c.id, .int .i64 c.pa, .int .i64 c.st, .int .i64 c.en, .string c.nm] 30))) := Lib.hid ((HFR3.out.mono (fun k hk => by omega)).alloc _)
      have HC : Hid (∀ W, Fr (fun k => k = a2) (w3.alloc (.cells #[.int .i64 c.tr, .int .i64 c.id, .int .i64 c.pa, .int .i64 c.st, .int .i64 c.en, .string c.nm] 30)) W → (∀ j, W.cell? ⟨p2, j, none⟩ = (#[.map (some a2), .map (some d2), .int .i64 tr] : Array Value)[j]?) ∧ (∀ j, W.cell? ⟨w3.heap.size, j, none⟩ = (#[.int .i64 c.tr, .int .i64 c.id, .int .i64 c.pa, .int .i64 c.st, .int .i64 c.en, .string c.nm] : Array Value)[j]?)) := Lib.hid (fun W hW =>
        ⟨HP2.out W (HFC.out.trans (hW.mono (fun k hk => by omega))), blk_cell ((hW.block w3.heap.size (by simp) (by omega)).trans (heap_alloc_new w3 _))⟩)
      obtain ⟨w7, hrun7, hall7, hg7, hs7⟩ := HA3.out.store hno hwid hal3
      have hrun7' : (Instr.mapUpdate 215 (.map (some a2)) (.int .i64 c.id) (.agg #[.int .i64 c.tr, .int .i64 c.id, .int .i64 c.pa, .int .i64 c.st, .int .i64 c.en, .string c.nm])).run Tryz.prog ((w3.alloc (.cells #[.int .i64 c.tr, .int .i64 c.id, .int .i64 c.pa, .int .i64 c.st, .int .i64 c.en, .string c.nm] 30)).drew) = .ok () w7 := hrun7
      have HF7 : Hid (Fr (fun k => k = a2) (w3.alloc (.cells #[.int .i64 c.tr, .int .i64 c.id, .int .i64 c.pa, .int .i64 c.st, .int .i64 c.en, .string c.nm] 30)) w7) := Lib.hid ((Fr.refl _ _).drew.trans (Fr.of_grown hg7 (fun k hk => by cases hk; rfl)))
      have hne7 : some a ≠ some a2 ∧ some w1.heap.size ≠ some a2 := by constructor <;> simp <;> omega
      have HRG7 : Hid (w7.ranges Tryz.prog 3 spElem a w1.heap.size L.length D (fun z => left z && !z.sameKey (.int .i64 c.id)) cnt3) := Lib.hid (World.ranges.kept (w := (w3.alloc (.cells #[.int .i64 c.tr, .int .i64 c.id, .int .i64 c.pa, .int .i64 c.st, .int .i64 c.en, .string c.nm] 30)).drew) (hrg3.alloc (.cells #[.int .i64 c.tr, .int .i64 c.id, .int .i64 c.pa, .int .i64 c.st, .int .i64 c.en, .string c.nm] 30)) hg7 hne7.1 hne7.2)
      have HALL7 := Lib.hid hall7
      have HLT3 := Lib.hid hlt3
      have hz3 : wr.heap.size ≤ w3.heap.size := Nat.le_of_eq hs3.symm
      clear hkey hleft hy hat hrg3 hlt3 hg3 hs3 hat2 hno hwid hne hrun7 hall7 hg7 hs7 hne7
      have hen2 : (Instr.entry (.pointer (some ⟨w1.heap.size, 0, none⟩))).run Tryz.prog w3 = .ok (.tuple #[.int .i64 c.id, .agg #[.int .i64 c.tr, .int .i64 c.id, .int .i64 c.pa, .int .i64 c.st, .int .i64 c.en, .string c.nm]]) w3 := hen
      clear hen
      go_wp2_with fail
      refine wp_region_sched [(0, true), (1, true), (2, true), (3, true), (4, true), (5, true), (6, true), (7, false)] (fun W => Fr (fun k => k = a2) (w3.alloc (.cells #[.int .i64 c.tr, .int .i64 c.id, .int .i64 c.pa, .int .i64 c.st, .int .i64 c.en, .string c.nm] 30)) W) (by kernel_rfl) (by kernel_rfl) rfl (by kernel_rfl) ((Fr.refl _ _).drew) ?_
      repeat (first | (apply sched_take rfl; (focus (first | rfl | (go_simp; done))); (focus (intro W hW; obtain ⟨g1, g2⟩ := HC.out W hW; go_simp; rfl)); (focus (intro K hK; go_simp; refine hK _ ?_; clear hK K))) | (apply sched_skip rfl; (focus (first | rfl | (go_simp; done))); (focus (intro K hK; go_simp; refine hK _ ?_; clear hK K))))
      apply sched_op rfl
      intro K hK
      go_simp
      go_wp2_with (fail)
      refine ⟨by exact HF7.out, ?_⟩
      refine sched_nil ?_
      go_roundw
      case rel =>
        exact ⟨_, _, _, _, _, _, _, _, _, _, _, _, _, _, ⟨_, cnt3, acc ++ [c], HRG7.out, HALL7.out, (HPM.out.append_right [c]).trans HSTEP.out.symm, (HFR3.out.alloc _).trans (HF7.out.mono (fun k hk => .inl hk))⟩, rfl⟩
      case measure =>
        rw [HRG7.out.left_eq, HRG.out.left_eq]; exact HLT3.out
end Go.Proofs.YtempkjnaahgbhaaGreatDoor
