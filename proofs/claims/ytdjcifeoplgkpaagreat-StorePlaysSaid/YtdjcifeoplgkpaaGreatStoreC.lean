/-
  The walk of a store's Clone: another store with the same traces. Conditions: the store lies in memory as New made it.
-/
import Derived.Test.YtdjcifeoplgkpaaGreatStoreA
import Derived.Test.YtdjcifeoplgkpaaGreatForest6
import Derived.Test.YtdjcifeoplgkpaaGreatSched
namespace Go.Proofs.YtdjcifeoplgkpaaGreat
open Go Go.RowKit Go.Maps

theorem invP : ∀ (v : Value) (y : DataW Value × List MemPlace), ptElem v = some y → ∃ c : Option Addr, v = Value.pointer c := fun v y h => by
  obtain ⟨a, rfl, _⟩ := ptElem_inv h; exact ⟨a, rfl⟩
/-- What has come of a store's traces. -/
def comeT (T : List Tr) (left : Lit → Bool) : List Tr := T.filter fun t => !left (.int .i64 t.tr)
theorem GrT.come {T : List Tr} (h : GrT T) (left : Lit → Bool) : GrT (comeT T left) :=
  ⟨List.Pairwise.filter _ h.srt, Nat.le_trans (List.length_filter_le _ _) h.len, fun t ht => h.ok t (List.mem_filter.1 ht).1⟩
theorem comeT_start (p : Int → Nat) {T : List Tr} (h : SrtT T) : comeT T (Maps.has (mapT p T)) = [] := by
  refine List.filter_eq_nil_iff.2 fun t ht => ?_
  rw [mapT_has, getT_mem h ht]; simp
theorem comeT_end (T : List Tr) {left : Lit → Bool} (h : ∀ kl, left kl = false) : comeT T left = T := List.filter_eq_self.2 fun t _ => by rw [h]; rfl
theorem insT_head {T : List Tr} {t : Tr} (h : ∀ u ∈ T, t.tr < u.tr) : insT T t = t :: T := by
  cases T with
  | nil => rfl
  | cons u T => rw [insT, if_pos (h u (by simp))]
theorem comeT_step {T : List Tr} (h : SrtT T) {left : Lit → Bool} {t : Tr} (ht : t ∈ T) (hl : left (.int .i64 t.tr) = true) : comeT T (fun z => left z && !z.sameKey (.int .i64 t.tr)) = insT (comeT T left) t := by
  induction T with
  | nil => cases ht
  | cons u T ih =>
    obtain ⟨h1, h2⟩ := List.pairwise_cons.1 h
    unfold comeT at ih ⊢
    rcases List.mem_cons.1 ht with rfl | ht
    · have e : (T.filter fun u => !(left (.int .i64 u.tr) && !(Lit.int .i64 u.tr).sameKey (.int .i64 t.tr))) = T.filter fun u => !left (.int .i64 u.tr) := by
        refine List.filter_congr fun u hu => ?_
        have := h1 u hu
        rw [same_int, decide_eq_false (by omega)]; simp
      rw [List.filter_cons_of_pos (by simp [same_int]), List.filter_cons_of_neg (by simp [hl]), e, insT_head]
      intro u hu
      exact h1 u (List.mem_filter.1 hu).1
    · have hlt := h1 t ht
      have ih := ih h2 ht
      have hne : ¬ u.tr = t.tr := by omega
      cases hu : left (.int .i64 u.tr)
      · rw [List.filter_cons_of_pos (by simp [hu]), List.filter_cons_of_pos (by simp [hu]), ih, insT, if_neg (by omega)]
      · rw [List.filter_cons_of_neg (by simp [same_int, hu, hne]), List.filter_cons_of_neg (by simp [hu]), ih]

set_option maxRecDepth 100000 in
set_option maxHeartbeats 4000000 in
theorem sclone_any {w : World} {s m : Nat} {T : List Tr} {S : Nat → Prop} (h : St w s m T S) :
    Calls Tryz.prog 10 #[.pointer (some ⟨s, 0, none⟩)] w (ResT w T) := by
  have HST := Lib.hid h
  have HM := Lib.hid (smade_any h)
  have HGR := Lib.hid h.gr
  have HSRT := Lib.hid h.gr.srt
  obtain ⟨p, a, d, SS, hown, hfo, hSS, _⟩ := h.ex
  have HOWN := Lib.hid hown
  have HFO := Lib.hid hfo
  have HKEY : Hid (∀ t ∈ T, wfI t.tr) := Lib.hid (fun t ht => h.key ht)
  have hml := h.lt m h.sm
  clear h hown hfo hSS
  go_enter Tryz.func10, Tryz.ntmps10
  go_wp2_with fail
  refine HM.out.mono ?_
  rintro e w1 ⟨rfl, rfl⟩
  go_wp2_with fail
  refine (snew_any w).mono ?_
  rintro e w1 ⟨s2, m2, rfl, hg1, hb1⟩
  have hz1 := hb1.size
  have hsl2 := hg1.lt s2 hg1.ss
  have hml2 := hg1.lt m2 hg1.sm
  have hsw2 : w.heap.size ≤ s2 := hg1.ss.1
  have hmw2 : w.heap.size ≤ m2 := hg1.sm.1
  have HG1 := Lib.hid hg1
  have HB1 := Lib.hid hb1
  have hpc1 := blk_cell ((HST.out.below hb1 (Nat.le_refl _)).hp)
  have HD1 : Hid (w1.ownsMap Tryz.prog 3 ptElem m T.length (mapT p T)) := Lib.hid (owns_eq HOWN.out (hb1.block m hml))
  clear hg1 hb1
  go_wp2_with (at_range; refine wpList_range_own _ rfl _ 65 rfl 3 69 keyLaw Tryz.underlying65 ptElem m T.length (mapT p T) rfl HD1.out ?_; intro w2 hrg0 hg0 hs0)
  go_frame
  have HRG0 := Lib.hid hrg0
  have HF02 : Hid (Fr (fun k => k = w1.heap.size) w1 w2) := Lib.hid (Fr.of_grown hg0 (fun k hk => by cases hk))
  have hs2 := Nat.le_of_eq hs0.symm
  have hs2b := Nat.le_of_eq hs0
  have HST2 : Hid (St w2 s2 m2 [] (fun k => (w.heap.size ≤ k ∧ k < w1.heap.size) ∨ (w1.heap.size < k ∧ k < w2.heap.size))) := Lib.hid ((HG1.out.fr (S2 := fun _ => False) (Fr.of_grown hg0 (fun k hk => by cases hk)) (fun _ _ h => h)).mono (fun k hk => .inl hk) (fun k hk => by omega))
  clear hrg0 hg0 hs0
  go_loopw [] (fun wr => ∃ (left : Lit → Bool) (cnt : Nat), wr.ranges Tryz.prog 3 ptElem m w1.heap.size T.length (mapT p T) left cnt ∧ St wr s2 m2 (comeT T left) (fun k => (w.heap.size ≤ k ∧ k < w1.heap.size) ∨ (w1.heap.size < k ∧ k < wr.heap.size)) ∧ Fr (fun k => (w.heap.size ≤ k ∧ k < w1.heap.size) ∨ k = w1.heap.size) w1 wr) (fun wr => wr.rangeLeft m w1.heap.size)
  case atStart => exact ⟨_, _, HRG0.out, by rw [comeT_start p HSRT.out]; exact HST2.out, HF02.out.mono (fun k hk => .inr hk)⟩
  case round =>
    obtain ⟨left, cnt, hrg, hst, hfr⟩ := hrel
    have HRG := Lib.hid hrg
    have HSTR := Lib.hid hst
    have hrl := hrg.lt
    have HFR := Lib.hid hfr
    have hszr := hfr.size
    have hbw : Below w.heap.size w wr := HB1.out.trans (hfr.below (by omega) (fun k hk => by omega))
    have HBW := Lib.hid hbw
    clear hrg hst hfr hbw hpc1
    go_wp2_with (at_next; refine wpList_next_ranges _ rfl _ rfl 3 keyLaw ptElem (Value.int .i64) Value.pointer invI invP m w1.heap.size T.length (mapT p T) left cnt rfl HRG.out ?_ ?_)
    · intro _ hl0
      have hst2 := HSTR.out
      rw [comeT_end T hl0] at hst2
      have HST9 := Lib.hid (hst2.mono (S2 := fun k => w.heap.size ≤ k ∧ k < wr.heap.size) (fun k hk => by omega) (fun k hk => hk.2))
      clear hst2 hl0
      go_wp2_with fail
      go_ret
      exact ⟨s2, m2, rfl, HST9.out, HBW.out⟩
    · intro x c kl y ps w3 cnt3 hkey hleft hy hat hrg3 hlt3 hg3 hs3 hen
      obtain ⟨x', ex, rfl, hxw⟩ := keyOf_int_inv Tryz.underlying3 hkey
      cases ex
      have hgx : ∃ L, getT T x = some L := by
        have h1 := has_true_of_atKey hat
        rw [mapT_has] at h1
        exact Option.isSome_iff_exists.1 h1
      obtain ⟨L, hgx⟩ := hgx
      have hmem := getT_some hgx
      have hce : c = some ⟨p x, 0, none⟩ := by
        have h1 := hat .nil
        rw [mapT_at, hgx] at h1
        obtain ⟨a1, h2, h3⟩ := ptElem_inv hy
        have h4 : y = .held (.pointer a1) := congrArg Prod.fst h3
        rw [h4] at h1
        have h5 := Value.pointer.inj h2
        rw [h5]
        exact (Value.pointer.inj (DataW.held.inj h1)).symm
      subst hce
      have HSTEP : Hid (comeT T (fun z => left z && !z.sameKey (.int .i64 x)) = insT (comeT T left) ⟨x, L⟩) := Lib.hid (comeT_step HSRT.out hmem hleft)
      have HNO : Hid (getT (comeT T left) x = none) := Lib.hid (by
        cases hh : getT (comeT T left) x with
        | none => rfl
        | some L2 =>
          have h1 := (List.mem_filter.1 (getT_some hh)).2
          simp only [hleft] at h1
          cases h1)
      have hz3a := Nat.le_of_eq hs3
      have hz3b := Nat.le_of_eq hs3.symm
      have hfr3 : Fr (fun k => k = w1.heap.size) wr w3 := Fr.of_grown hg3 (fun k hk => by cases hk; rfl)
      have HFR3 := Lib.hid hfr3
      have HST3 : Hid (St w3 s2 m2 (comeT T left) (fun k => (w.heap.size ≤ k ∧ k < w1.heap.size) ∨ (w1.heap.size < k ∧ k < wr.heap.size))) := Lib.hid (HSTR.out.fr hfr3 (fun k hk => by omega))
      have HBW3 : Hid (Below w.heap.size w w3) := Lib.hid (HBW.out.trans (hfr3.below (by omega) (fun k hk => by omega)))
      have HF3 := Lib.hid ((HFO.out _ hmem).below HBW3.out (Nat.le_refl _))
      have HX3 : Hid (∀ W, Below w3.heap.size w3 W → (∀ j, W.cell? ⟨s2, j, none⟩ = (#[.map (some m2)] : Array Value)[j]?)) := Lib.hid (fun W hW => blk_cell (HST3.out.below hW (Nat.le_refl _)).hp)
      have HRG3 := Lib.hid hrg3
      have HLT3 := Lib.hid hlt3
      have HXW : Hid (wfI x) := Lib.hid hxw
      have hGR : GrT (insT (comeT T left) ⟨x, L⟩) := by rw [← HSTEP.out]; exact HGR.out.come _
      have HGRN := Lib.hid hGR
      clear hkey hleft hy hat hrg3 hlt3 hg3 hs3 hgx hmem hxw hfr3 hGR
      go_wp2_with fail
      refine wp_region_plan 7 (.take 0 (.take 1 (.take 2 (.take 3 (.take 4 (.take 5 (.op 6 (.op 7 .done)))))))) (fun W => Below w3.heap.size w3 W) (by kernel_rfl) (by kernel_rfl) (by kernel_rfl) ((Below.refl _ _).drew) ?_
      repeat (first | (apply plan_take rfl; (focus (first | rfl | (go_simp; done))); (focus (intro W hW; have f1 := HX3.out W hW; go_simp; rfl)); (focus (intro K hK; go_simp; refine hK _ ?_; clear hK K))) | (apply plan_skip rfl; (focus (first | rfl | (go_simp; done))); (focus (intro K hK; go_simp; refine hK _ ?_; clear hK K))))
      apply plan_op rfl
      intro K hK
      go_simp
      go_wp2_with (fail)
      refine (clone_any (HF3.out.drewN 1)).mono ?_
      rintro e w5 ⟨p5, a5, d5, rfl, hf5, hb5⟩
      have hk5 : Below w3.heap.size w3 w5 := (Below.refl _ _).drew.trans (hb5.mono (Nat.le_refl _))
      have hz5 := hk5.size
      obtain ⟨w6, hrun6, hfr6, hz6, hfo6, hX6⟩ := HST3.out.addNew HXW.out HNO.out hk5 hf5 (fun k hk => hk.1)
      have hz6a := Nat.le_of_eq hz6
      have hz6b := Nat.le_of_eq hz6.symm
      have hcl := hX6.close (B := w3.heap.size) (S3 := fun k => (w.heap.size ≤ k ∧ k < w1.heap.size) ∨ (w1.heap.size < k ∧ k < w6.heap.size)) hfo6 (by rw [setT_ins HNO.out]; exact HGRN.out) (fun k hk => .inl hk) (fun k hk => by omega) (fun k hk => by omega) (fun k hk => by
        have h1 : w3.heap.size ≤ k := hk.1
        have h2 := hfo6.lt k hk
        omega) (fun k hk => by omega)
      rw [setT_ins HNO.out, ← HSTEP.out] at hcl
      have HCL := Lib.hid hcl
      have HFR6 : Hid (Fr (fun k => k = m2) w3 w6) := Lib.hid ((Fr.of_below hk5).step hfr6 (fun k hk => .inl hk))
      have HRG6 := Lib.hid (ranges_eq HRG3.out (HFR6.out.block m (by have := HBW3.out.size; omega) (by omega)) (HFR6.out.block w1.heap.size (by omega) (by omega)))
      have HK5 := Lib.hid hk5
      clear hf5 hb5 hk5 hfr6 hfo6 hX6 hcl hz6
      go_wp2_with fail
      refine ⟨by exact fun _ => HK5.out, ?_⟩
      apply plan_op rfl
      intro K hK
      go_simp
      go_wp2_with (fail)
      refine ⟨fun h => absurd rfl h, ?_⟩
      refine plan_nil ?_
      go_roundw
      case rel =>
        first
          | exact ⟨_, _, _, _, _, _, _, _, _, _, _, _, ⟨_, cnt3, HRG6.out, HCL.out, (HFR.out.trans (HFR3.out.mono (fun k hk => .inr hk))).trans (HFR6.out.mono (fun k hk => by omega))⟩, rfl⟩
          | exact ⟨_, _, _, _, _, _, _, _, _, _, _, _, _, ⟨_, cnt3, HRG6.out, HCL.out, (HFR.out.trans (HFR3.out.mono (fun k hk => .inr hk))).trans (HFR6.out.mono (fun k hk => by omega))⟩, rfl⟩
          | exact ⟨_, _, _, _, _, _, _, _, _, _, _, _, _, _, ⟨_, cnt3, HRG6.out, HCL.out, (HFR.out.trans (HFR3.out.mono (fun k hk => .inr hk))).trans (HFR6.out.mono (fun k hk => by omega))⟩, rfl⟩
          | exact ⟨_, _, _, _, _, _, _, _, _, _, _, _, _, _, _, ⟨_, cnt3, HRG6.out, HCL.out, (HFR.out.trans (HFR3.out.mono (fun k hk => .inr hk))).trans (HFR6.out.mono (fun k hk => by omega))⟩, rfl⟩
          | exact ⟨_, _, _, _, _, _, _, _, _, _, _, _, _, _, _, _, ⟨_, cnt3, HRG6.out, HCL.out, (HFR.out.trans (HFR3.out.mono (fun k hk => .inr hk))).trans (HFR6.out.mono (fun k hk => by omega))⟩, rfl⟩
          | exact ⟨_, _, _, _, _, _, _, _, _, _, _, _, _, _, _, _, _, ⟨_, cnt3, HRG6.out, HCL.out, (HFR.out.trans (HFR3.out.mono (fun k hk => .inr hk))).trans (HFR6.out.mono (fun k hk => by omega))⟩, rfl⟩
      case measure =>
        rw [HRG6.out.left_eq, HRG.out.left_eq]; exact HLT3.out
end Go.Proofs.YtdjcifeoplgkpaaGreat
