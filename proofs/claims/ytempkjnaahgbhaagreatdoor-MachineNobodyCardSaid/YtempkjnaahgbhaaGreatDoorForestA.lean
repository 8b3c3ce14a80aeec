/-
  The walks of a forest's first methods: New, made, above. Conditions: the forest lies in memory as New made it.
  One more span laid into a forest: the steps' runs, and the forest behind them. Conditions: the forest lies in memory as New made it; the span may be added.
-/
import Derived.Test.YtempkjnaahgbhaaGreatDoorForestP
import Derived.Test.YtempkjnaahgbhaaGreatDoorSched
namespace Go.Proofs.YtempkjnaahgbhaaGreatDoor
open Go Go.RowKit Go.Maps

def rowsOf (S : Nat → Prop) (p a d : Nat) (k : Nat) : Prop := S k ∧ k ≠ p ∧ k ≠ a ∧ k ≠ d
/-- A forest in block p, its maps in blocks a and d; all it has lies in S. -/
structure Fo (w : World) (p a d : Nat) (tr : Int) (L : List Sp) (S : Nat → Prop) : Prop where
  hp : w.heap[p]? = some (.cells #[.map (some a), .map (some d), .int .i64 tr] 221 (0, 0))
  all : AllAt w a L
  down : DownAt w d L (rowsOf S p a d)
  sp : S p
  sa : S a
  sd : S d
  ad : a ≠ d
  htr : 1 ≤ tr ∧ tr ≤ 1099511627776
  gr : Grown tr L
  lt : ∀ k, S k → k < w.heap.size
section
variable {w w' : World} {p a d : Nat} {tr : Int} {L : List Sp} {S S2 : Nat → Prop}
theorem Fo.fr (h : Fo w p a d tr L S) (hf : Fr S2 w w') (hS : ∀ k, S k → ¬ S2 k) : Fo w' p a d tr L S :=
  ⟨(hf.block p (h.lt p h.sp) (hS p h.sp)).trans h.hp, h.all.eq (hf.block a (h.lt a h.sa) (hS a h.sa)), h.down.fr hf (hS d h.sd) (fun k hk => hS k hk.1), h.sp, h.sa, h.sd, h.ad, h.htr, h.gr, fun k hk => Nat.lt_of_lt_of_le (h.lt k hk) hf.size⟩
theorem Fo.below {B : Nat} (h : Fo w p a d tr L S) (hb : Below B w w') (hB : w.heap.size ≤ B) : Fo w' p a d tr L S :=
  h.fr (S2 := fun k => False) ⟨hb.os, hb.tape, hb.output, hb.size, fun k hk _ => hb.block k (by omega)⟩ (fun _ _ h => h)
theorem Fo.mono (h : Fo w p a d tr L S) (hS : ∀ k, S k → S2 k) (hl : ∀ k, S2 k → k < w.heap.size) : Fo w p a d tr L S2 :=
  ⟨h.hp, h.all, h.down.mono (fun k hk => ⟨hS k hk.1, hk.2⟩), hS _ h.sp, hS _ h.sa, hS _ h.sd, h.ad, h.htr, h.gr, hl⟩
theorem Fo.drewN (h : Fo w p a d tr L S) (n : Nat) : Fo (w.drewN n) p a d tr L S := h.below (below_drew' w n) (Nat.le_refl _)
end
theorem wf_pa {tr : Int} {L : List Sp} (h : Grown tr L) : ∀ s ∈ L, wfI s.pa := fun s hs => by
  have := ok_bounds (fits_ok (h.fits s hs)).1
  exact wfI_of (by omega) (by omega)

/-- What a call leaves that makes a forest. -/
def ResF (w : World) (t : Int) (L : List Sp) (e : Ending) (w' : World) : Prop :=
  ∃ p a d, e = .returned (.pointer (some ⟨p, 0, none⟩)) ∧ Fo w' p a d t L (fun k => w.heap.size ≤ k ∧ k < w'.heap.size) ∧ Below w.heap.size w w'

set_option maxRecDepth 100000 in
set_option maxHeartbeats 400000 in
theorem new_any (t : Int) (w : World) (ht : 1 ≤ t ∧ t ≤ 1099511627776) :
    Calls Tryz.prog 148 #[.int .i64 t] w (ResF w t []) := by
  have h1 : ¬ t < 1 := by omega
  have h2 : ¬ (1099511627776 : Int) < t := by omega
  have hmm := @run_makeMap Tryz.prog
  go_enter Tryz.func148, Tryz.ntmps148
  go_wp2_with fail
  go_ret
  refine ⟨_, w.heap.size, w.heap.size + 1, rfl, ⟨?_, ?_, ?_, ?_, ?_, ?_, by omega, ht, .nil, fun k hk => hk.2⟩, ?_⟩
  · exact heap_at (by simp)
  · refine ⟨.map [], ?_, .nil⟩
    have h := World.ownsMap_made w Tryz.prog 3 spElem
    exact (h.alloc _).alloc _
  · have h := World.ownsMap_made (w.alloc (.map #[] 0)) Tryz.prog 3 slElem
    rw [World.size_alloc] at h
    exact ⟨.map [], fun _ => 0, fun _ => 0, h.alloc _, fun _ _ => rfl, fun x hx => absurd rfl hx, fun x y hx => absurd rfl hx⟩
  · exact ⟨by omega, by simp⟩
  · exact ⟨by omega, by simp <;> omega⟩
  · exact ⟨by omega, by simp⟩
  · exact ((((Below.refl _ _).alloc (Nat.le_refl _) _).alloc (by simp) _).alloc (by simp <;> omega) _)

set_option maxRecDepth 100000 in
theorem newNil_any (t : Int) (w : World) (ht : t < 1 ∨ 1099511627776 < t) :
    Calls Tryz.prog 148 #[.int .i64 t] w fun e w' => e = .returned (.pointer none) ∧ w' = w := by
  rcases ht with h1 | h1
  · go_enter Tryz.func148, Tryz.ntmps148
    go_wp2_with fail
    go_ret
    exact ⟨rfl, rfl⟩
  · have h2 : ¬ t < 1 := by omega
    go_enter Tryz.func148, Tryz.ntmps148
    go_wp2_with fail
    go_ret
    exact ⟨rfl, rfl⟩

set_option maxRecDepth 100000 in
theorem fmade_any {w : World} {p a d : Nat} {tr : Int} {L : List Sp} {S : Nat → Prop} (h : Fo w p a d tr L S) :
    Calls Tryz.prog 147 #[.pointer (some ⟨p, 0, none⟩)] w fun e w' => e = .returned (.bool true) ∧ w = w' := by
  have hc := blk_cell h.hp
  have h1 : (0 : Int) < tr := by have := h.htr; omega
  clear h
  go_enter Tryz.func147, Tryz.ntmps147
  go_wp2_with fail
  go_ret
  exact ⟨rfl, rfl⟩

set_option maxRecDepth 100000 in
set_option maxHeartbeats 400000 in
theorem above_any {w : World} {a d : Nat} {L : List Sp} (h : AllAt w a L) (hwf : ∀ s ∈ L, wfI s.pa) (hl : L.length ≤ 64) (id who : Int) (hid : wfI id) :
    Calls Tryz.prog 177 #[.agg #[.map (some a), .map (some d)], .int .i64 id, .int .i64 who] w fun e w' => e = .returned (.bool (aboveB L id who)) ∧ Below w.heap.size w w' := by
  have HA := Lib.hid h
  have HW := Lib.hid hwf
  have ha := h.lt
  have hlen := fun W (hW : AllAt W a L) => AllAt.len hW 3
  have HL := Lib.hid hlen
  clear h hwf hlen
  have hl0 := HL.out (w.alloc (.cells #[.map (some a), .map (some d)] 219)) (HA.out.eq (Below.heap_alloc _ _ _ ha))
  go_enter Tryz.func177, Tryz.ntmps177
  go_wp2_with fail
  go_loopw [1, 13] (fun x i wr => ∃ (k : Nat) (y : Int), k ≤ L.length + 1 ∧ i = .int .i64 k ∧ x = .int .i64 y ∧ wfI y ∧ aboveN L (L.length + 1 - k) y who = aboveB L id who ∧ Below (w.heap.size + 1) (w.alloc (.cells #[.map (some a), .map (some d)] 219)) wr) (fun _ i _ => L.length + 1 - (intOf i).toNat)
  case atStart => exact ⟨0, id, by omega, rfl, rfl, hid, rfl, Below.refl _ _⟩
  case round =>
    obtain ⟨k, y, hk, rfl, rfl, hy, hab, hb⟩ := hrel
    have hbc := blk_cell (blk_below hb (by omega) (heap_alloc_new w _))
    have hAr : AllAt wr a L := HA.out.eq ((hb.block a (by omega)).trans (Below.heap_alloc _ _ _ ha))
    have hlk := hAr.look hy true
    simp only [if_true] at hlk
    have hsz := hb.size
    simp at hsz
    have hbw : Below w.heap.size w wr := ((Below.refl _ _).alloc (Nat.le_refl _) _).trans (hb.mono (by omega))
    have HB := Lib.hid hb
    clear hb
    by_cases hlt : k < L.length + 1
    · obtain ⟨m, hm⟩ : ∃ m, L.length + 1 - k = m + 1 := ⟨L.length - k, by omega⟩
      rw [hm] at hab
      have HAB := Lib.hid hab
      have HM := Lib.hid hm
      clear hab hm
      have hk1 : (k : Int) < (L.length : Int) + 1 := by omega
      by_cases hyw : y = who
      · have HR : Hid (aboveB L id who = true) := Lib.hid (by rw [← HAB.out, aboveN, if_pos hyw])
        go_wp2_with fail
        go_ret
        exact ⟨by rw [HR.out]; rfl, hbw⟩
      · cases hat : atS L y with
        | none =>
          rw [hat] at hlk
          generalize getS L y = s at hlk
          have HR : Hid (aboveB L id who = false) := Lib.hid (by rw [← HAB.out, aboveN, if_neg hyw, hat])
          clear hat
          go_wp2_with fail
          go_ret
          exact ⟨by rw [HR.out]; rfl, hbw.alloc (by omega) _⟩
        | some s =>
          have hs : getS L y = s := by rw [getS, hat]; rfl
          rw [hat, hs] at hlk
          have hws := HW.out s (atS_some hat).1
          have HR : Hid (aboveN L m s.pa who = aboveB L id who) := Lib.hid (by rw [← HAB.out, aboveN, if_neg hyw, hat])
          clear hat hs
          go_wp2_with fail
          go_roundw
          case rel => exact ⟨k + 1, s.pa, by omega, by go_num, rfl, hws, by rw [show L.length + 1 - (k + 1) = m by have := HM.out; omega]; exact HR.out, HB.out.alloc (by omega) _⟩
          case measure => simp [intOf]; omega
    · have hk0 : L.length + 1 - k = 0 := by omega
      rw [hk0] at hab
      have HR : Hid (aboveB L id who = false) := Lib.hid hab.symm
      clear hab
      have hk1 : ¬ (k : Int) < (L.length : Int) + 1 := by omega
      go_wp2_with fail
      go_ret
      exact ⟨by rw [HR.out]; rfl, hbw⟩

end Go.Proofs.YtempkjnaahgbhaaGreatDoor
namespace Go.Proofs.YtempkjnaahgbhaaGreatDoor
open Go Go.RowKit Go.Maps

theorem Tryz.infoInt : (Tryz.prog.info? 3).map (fun i => (i.zero, i.size, i.bytes)) = some (some (.int .i64 0), 1, 8) := by kernel_rfl

theorem Fo.addSteps {v : World} {p a d : Nat} {tr : Int} {L : List Sp} {S : Nat → Prop} (h : Fo v p a d tr L S) (s : Sp) (hfit : fits tr s = true) (hn : atS L s.id = none) (hl : L.length < 64) (hab : aboveB L s.pa s.id = false) :
    ∃ w3, (Instr.mapUpdate 215 (.map (some a)) (.int .i64 s.id) s.val).run Tryz.prog v.drew = .ok () w3 ∧ Fr (fun k => k = a) v w3 ∧ w3.heap.size = v.heap.size ∧
      ∃ A0 c0, (∀ w' : World, w'.heap[d]? = w3.heap[d]? → (Instr.lookup 217 (.map (some d)) (.int .i64 s.pa) false).run Tryz.prog w' = .ok (.slice A0 (kidIds L s.pa).length c0) w') ∧
        ∃ A' c' w5, (Builtin.append_ #[23, 23] 23 #[.slice A0 (kidIds L s.pa).length c0, .slice (some ⟨w3.heap.size, 0, none⟩) 1 1]).run Tryz.prog (w3.alloc (.cells #[.int .i64 s.id] 3)).drew = .ok (.slice A' ((kidIds L s.pa).length + 1) c') w5 ∧
          Fr (fun k => S k ∧ k ≠ p ∧ k ≠ a) w3 w5 ∧
          ∃ w6, (Instr.mapUpdate 217 (.map (some d)) (.int .i64 s.pa) (.slice A' ((kidIds L s.pa).length + 1) c')).run Tryz.prog w5 = .ok () w6 ∧
            Fo w6 p a d tr (L ++ [s]) (fun k => S k ∨ (v.heap.size ≤ k ∧ k < w6.heap.size)) ∧ Fr S v w6 ∧ Fr (fun k => S k ∧ k ≠ p ∧ k ≠ a) w3 w6 := by
  obtain ⟨i0, hi0, hz0, hz1, hz2⟩ := info_parts Tryz.infoInt
  have hb := ok_bounds (fits_ok hfit).1
  have hAD : AllAt v.drew a L := h.all
  obtain ⟨w3, hrun3, hall3, hg3, hsz3'⟩ := hAD.store hn (wfI_of (by omega) (by omega)) hl
  have hf3 : Fr (fun k => k = a) v w3 := (Fr.refl _ _).drew.trans (Fr.of_grown hg3 (fun k hk => (Option.some.inj hk).symm))
  have hsz3 : w3.heap.size = v.heap.size := hsz3'
  have hd3 : DownAt w3 d L (rowsOf S p a d) := h.down.fr hf3 (fun e => h.ad e.symm) (fun k hk => hk.2.2.1)
  obtain ⟨A0, c0, hlk, hown0, hA0, hback⟩ := hd3.look (wfI_of (x := s.pa) (by omega) (by omega))
  have hkl : (kidIds L s.pa).length ≤ L.length := by rw [kidIds, List.length_map]; exact List.length_filter_le _ _
  have hown4 : (w3.alloc (.cells #[.int .i64 s.id] 3)).drew.ownsRow 0 3 1 (.slice A0 (kidIds L s.pa).length c0) (kidIds L s.pa).length ((kidIds L s.pa).map (Value.int .i64)) := hown0.alloc _
  have hrd : Rd (w3.alloc (.cells #[.int .i64 s.id] 3)).drew (w3.heap.size + 1) 1 (some ⟨w3.heap.size, 0, none⟩) 1 [Value.int .i64 s.id] := Rd.drew (Rd.new rfl rfl (fun j hj => by match j, hj with | 0, _ => rfl))
  obtain ⟨A', c', w5, hrun5, hown5, hg5, hloc5⟩ := run_app (P := Tryz.prog) (w3.alloc (.cells #[.int .i64 s.id] 3)).drew 0 23 23 3 i0 _ 1 8 Tryz.underlying23 hi0 hz0 hz1 hz2 rfl (by omega) A0 _ c0 _ hown4 _ _ 1 1 _ hrd (by intro u hu; obtain rfl := List.mem_singleton.1 hu; rfl) (by unfold maxLen; omega) (by omega) (Nat.zero_le _)
  have hf45 : Fr (fun k => A0.map (·.block) = some k) w3 w5 := ((Fr.refl (fun k => A0.map (·.block) = some k) w3).alloc _).drew.trans (Fr.of_grown hg5 (fun k hk => hk))
  have hf35 : Fr (fun k => S k ∧ k ≠ p ∧ k ≠ a) w3 w5 := hf45.mono (fun k hk => ⟨(hA0 k hk).1, (hA0 k hk).2.1, (hA0 k hk).2.2.1⟩)
  have hSlt3 : ∀ k, rowsOf S p a d k → k < w3.heap.size := fun k hk => by rw [hsz3]; exact h.lt k hk.1
  have hdn : ¬ rowsOf S p a d d := fun hk => hk.2.2.2 rfl
  have e1 : (kidIds L s.pa ++ [s.id]).length = (kidIds L s.pa).length + 1 := by simp
  have hb6 := hback s w5 A' c' rfl hl (by rw [e1]; simpa using hown5) hf45 hdn (hloc5.imp id fun h5 => ⟨_, h5, by simp [World.drew, -World.drew_eq]⟩) hSlt3
  rw [e1] at hb6
  obtain ⟨w6, hrun6, hdown6, hg6⟩ := hb6
  have hf36 : Fr (fun k => S k ∧ k ≠ p ∧ k ≠ a) w3 w6 := hf35.trans (Fr.of_grown hg6 (fun k hk => by
    obtain rfl := Option.some.inj hk
    refine ⟨h.sd, ?_, Ne.symm h.ad⟩
    intro e; subst e
    obtain ⟨es, clock, hb, _⟩ := h.down.choose_spec.choose_spec.choose_spec.1
    rw [h.hp] at hb; cases hb))
  have hsz6 := hf36.size
  have hpa : p ≠ a := by
    intro e; subst e
    obtain ⟨es, clock, hb, _⟩ := h.all.choose_spec.1
    rw [h.hp] at hb; cases hb
  have hpl := h.lt p h.sp
  have hal := h.lt a h.sa
  have hdl := h.lt d h.sd
  refine ⟨w3, hrun3, hf3, hsz3, A0, c0, hlk, A', c', w5, hrun5, hf35, w6, hrun6, ⟨?_, ?_, ?_, .inl h.sp, .inl h.sa, .inl h.sd, h.ad, h.htr, .snoc h.gr hfit hn hl hab, ?_⟩, ?_, hf36⟩
  · exact (hf36.block p (by omega) (fun hk => hk.2.1 rfl)).trans ((hf3.block p hpl hpa).trans h.hp)
  · exact hall3.eq (hf36.block a (by omega) (fun hk => hk.2.2 rfl))
  · refine hdown6.mono (fun k hk => ?_)
    rcases hk with hk | ⟨h1, h2⟩
    · exact ⟨.inl hk.1, hk.2⟩
    · rw [hsz3] at h1
      exact ⟨.inr ⟨h1, h2⟩, by omega, by omega, by omega⟩
  · intro k hk
    rcases hk with hk | ⟨_, hk⟩
    · have := h.lt k hk; omega
    · exact hk
  · exact (hf3.mono (fun k hk => by subst hk; exact h.sa)).trans (hf36.mono (fun k hk => hk.1))
end Go.Proofs.YtempkjnaahgbhaaGreatDoor
