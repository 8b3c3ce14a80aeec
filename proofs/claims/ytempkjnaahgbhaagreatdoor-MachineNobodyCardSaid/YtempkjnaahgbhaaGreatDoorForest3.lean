/-
  The walk of a forest's lay: spans and what stands beneath them, laid behind branches. Conditions: the maps lie in memory as New and Add made them; nobody stands above itself.
-/
import Derived.Test.YtempkjnaahgbhaaGreatDoorForestA
import Derived.Test.YtempkjnaahgbhaaGreatDoorForestT
import Derived.Test.YtempkjnaahgbhaaGreatDoorSort
import Derived.Test.YtempkjnaahgbhaaGreatDoorRow6
namespace Go.Proofs.YtempkjnaahgbhaaGreatDoor
open Go Go.RowKit Go.Maps

/-- The two maps of a forest. -/
structure FoB (w : World) (a d : Nat) (L : List Sp) (S : Nat → Prop) : Prop where
  all : AllAt w a L
  down : DownAt w d L S
  sa : S a
  sd : S d
  lt : ∀ k, S k → k < w.heap.size
theorem FoB.fr {w w' : World} {a d : Nat} {L : List Sp} {S S2 : Nat → Prop} (h : FoB w a d L S) (hf : Fr S2 w w') (hS : ∀ k, S k → ¬ S2 k) : FoB w' a d L S :=
  ⟨h.all.eq (hf.block a (h.lt a h.sa) (hS a h.sa)), h.down.fr hf (hS d h.sd) hS, h.sa, h.sd, fun k hk => Nat.lt_of_lt_of_le (h.lt k hk) hf.size⟩
theorem FoB.below {w w' : World} {a d : Nat} {L : List Sp} {S : Nat → Prop} (h : FoB w a d L S) (hb : Below w.heap.size w w') : FoB w' a d L S :=
  h.fr (S2 := fun _ => False) (Fr.of_below hb) (fun _ _ h => h)
theorem Tryz.infoBranch : (Tryz.prog.info? 100).map (fun i => (i.zero, i.size, i.bytes)) = some (some (.agg #[.int .i64 0, .bool false, .int .i64 0, .int .i64 0, .int .i64 0, .int .i64 0, .int .i64 0, .string ⟨#[]⟩]), 8, 72) := by kernel_rfl
def rowIs (A : Option Addr) (k : Nat) : Prop := A.map (·.block) = some k
/-- What lay leaves: the row behind it, its own or a new one; nothing else that was there has turned. -/
def ResLay (w : World) (base : Nat) (A : Option Addr) (r : List Br) (e : Ending) (w' : World) : Prop :=
  ∃ A' c', e = .returned (.slice A' r.length c') ∧ w'.ownsRow base 100 8 (.slice A' r.length c') r.length (r.flatMap Br.cells) ∧ Fr (rowIs A) w w' ∧ (A'.map (·.block) = A.map (·.block) ∨ ∃ k, A'.map (·.block) = some k ∧ w.heap.size ≤ k)

theorem Rd.oneB {w : World} {H : Nat} (hH : w.heap.size = H) (dp : Nat) (o : Bool) (s : Sp) (t : TypeId) (fr : Nat × Nat) : Rd (w.alloc (.cells #[.int .i64 dp, .bool o, .int .i64 s.tr, .int .i64 s.id, .int .i64 s.pa, .int .i64 s.st, .int .i64 s.en, .string s.nm] t fr)) (H + 1) 8 (some ⟨H, 0, none⟩) 1 (Br.cells ⟨dp, o, s⟩) :=
  Rd.new hH rfl (by intro j hj; simp [Br.cells] at hj; match j, hj with | 0, _ => rfl | 1, _ => rfl | 2, _ => rfl | 3, _ => rfl | 4, _ => rfl | 5, _ => rfl | 6, _ => rfl | 7, _ => rfl)
theorem lay_facts {w w1 wr w6 : World} {a d : Nat} {L : List Sp} {S : Nat → Prop} {A A5 A6 : Option Addr} {base c5 n5 : Nat} {xs : List Value} {o1 o2 : Obj} (hfr : Fr (rowIs A) w1 wr) (hown : wr.ownsRow base 100 8 (.slice A5 n5 c5) n5 xs)
    (hloc : A5.map (·.block) = A.map (·.block) ∨ ∃ k, A5.map (·.block) = some k ∧ w1.heap.size ≤ k) (hAl : ∀ k, rowIs A k → k < w.heap.size) (hf1 : FoB w1 a d L S) (hSA : ∀ k, S k → ¬ rowIs A k)
    (hbx : ∀ j, w1.cell? ⟨w.heap.size, j, none⟩ = (#[.map (some a), .map (some d)] : Array Value)[j]?) (hw1 : w.heap.size < w1.heap.size) (hsz : w1.heap.size ≤ wr.heap.size)
    (hg : ((wr.alloc o1).alloc o2).grownBy w6 (A5.map (·.block))) (hl : A6.map (·.block) = A5.map (·.block) ∨ A6.map (·.block) = some ((wr.alloc o1).alloc o2).heap.size) :
    FoB w6 a d L S ∧ Fr (rowIs A) w1 w6 ∧ (A6.map (·.block) = A.map (·.block) ∨ ∃ k, A6.map (·.block) = some k ∧ w1.heap.size ≤ k) ∧ (∀ j, w6.cell? ⟨w.heap.size, j, none⟩ = (#[.map (some a), .map (some d)] : Array Value)[j]?) ∧ (∀ j, w6.cell? ⟨wr.heap.size, j, none⟩ = (wr.alloc o1).cell? ⟨wr.heap.size, j, none⟩) := by
  have h2 : Fr (rowIs A) w1 ((wr.alloc o1).alloc o2) := (hfr.alloc _).alloc _
  have h6 : Fr (rowIs A) w1 w6 := h2.step (Fr.of_grown (S := rowIs A5) hg (fun k hk => hk)) (fun j hj => by
    rcases hloc with h | ⟨k, h, hk⟩
    · left; unfold rowIs at hj ⊢; rw [← h]; exact hj
    · right; unfold rowIs at hj; rw [h] at hj; have := Option.some.inj hj; omega)
  refine ⟨hf1.fr h6 hSA, h6, ?_, fun j => ?_, fun j => ?_⟩
  · rcases hl with h | h
    · rw [h]; exact hloc
    · exact .inr ⟨_, h, by simp <;> omega⟩
  · rw [← hbx j]; simp only [World.cell?, h6.block w.heap.size hw1 (fun hk => by have := hAl _ hk; omega)]
  · have e1 : w6.cell? ⟨wr.heap.size, j, none⟩ = ((wr.alloc o1).alloc o2).cell? ⟨wr.heap.size, j, none⟩ := grown_cell hg (by simp <;> omega) (own_ne hown (Nat.le_refl _))
    rw [e1, World.cell?_alloc_lt _ _ _ (by simp)]

theorem lay_look {w : World} {a d : Nat} {L : List Sp} {S : Nat → Prop} (h : FoB w a d L S) {x : Int} (hx : wfI x) :
    ∃ A c, (Instr.lookup 217 (.map (some d)) (.int .i64 x) false).run Tryz.prog w = .ok (.slice A (kidIds L x).length c) w ∧ Hid (RdI w w.heap.size A (kidIds L x).length (kidIds L x)) := by
  obtain ⟨A, c, h1, h2, _⟩ := h.down.look hx
  exact ⟨A, c, h1 w rfl, Lib.hid (Rd.of_own h2)⟩

set_option maxRecDepth 100000 in
set_option maxHeartbeats 4000000 in
theorem lay_any (a d : Nat) (L : List Sp) (S : Nat → Prop) (hwf : ∀ s ∈ L, wfI s.id) (hL : L.length ≤ 64) : ∀ (n : Nat) (ids : List Int) (dp : Nat) (o : Bool) (out : List Br) (base B : Nat) (A : Option Addr) (c : Nat) (Ai : Option Addr) (ci : Nat) (w : World), FoB w a d L S → Fine L n ids → ids.length ≤ 100 →
    dp + n ≤ 1000 → out.length + (layL L n dp o ids).length ≤ 100000 → w.ownsRow base 100 8 (.slice A out.length c) out.length (out.flatMap Br.cells) → base ≤ w.heap.size → (∀ k, S k → ¬ rowIs A k) → RdI w B Ai ids.length ids → B ≤ w.heap.size →
    Calls Tryz.prog 169 #[.agg #[.map (some a), .map (some d)], .slice A out.length c, .int .i64 dp, .bool o, .slice Ai ids.length ci] w (ResLay w base A (out ++ layL L n dp o ids)) := by
  intro n
  induction n with
  | zero =>
    intro ids dp o out base B A c Ai ci w hf hfine hil hdp htot hown hbase hSA hids hB
    have hid0 : ids = [] := hfine
    subst hid0
    have HOW := Lib.hid hown
    clear hf hids hown htot
    rw [layL_nil, List.append_nil]
    simp only [List.length_nil]
    have h00 : ¬ (0 : Int) < 0 := by omega
    go_enter Tryz.func169, Tryz.ntmps169
    go_wp2_with fail
    refine wp_loop_rounds 1 ?_
    rw [rounds_succ]
    go_wp2_with fail
    refine (Sort_any none 0 0 0 [] _ (Nat.zero_le _) (by omega) Rd.nil).mono ?_
    rintro e w1 ⟨A4, c4, rfl, _, hb4⟩
    have e0 : (sortS []).length = 0 := sortS_len []
    rw [e0]
    go_wp2_with fail
    refine wp_loop_rounds 1 ?_
    rw [rounds_succ]
    go_wp2_with fail
    go_ret
    have hb : Below w.heap.size w w1 := below_via ((Below.refl _ _).alloc (Nat.le_refl _) _) hb4 (by simp)
    exact ⟨A, c, rfl, own_below HOW.out hb, Fr.of_below hb, .inl rfl⟩
  | succ n ih =>
    intro ids dp o out base B A c Ai ci w hf hfine hil hdp htot hown hbase hSA hids hB
    obtain ⟨i0, hi0, hz0, hz1, hz2⟩ := info_parts Tryz.infoSpan
    obtain ⟨j0, gi0, gz0, gz1, gz2⟩ := info_parts Tryz.infoBranch
    have HF := Lib.hid hf
    have HFI := Lib.hid hfine
    have HOW := Lib.hid hown
    have HID := Lib.hid hids
    have HSA := Lib.hid hSA
    have HTOT := Lib.hid htot
    have HIH := Lib.hid ih
    clear hf hfine hown hids hSA htot ih
    go_enter Tryz.func169, Tryz.ntmps169
    go_wp2_with fail
    go_loopw [11, 18] (fun v i wr => ∃ (k : Nat) (A2 : Option Addr) (c2 : Nat), k ≤ ids.length ∧ i = .int .i64 k ∧ v = .slice A2 k c2 ∧ wr.ownsRow (w.heap.size + 1) 30 6 (.slice A2 k c2) k (((ids.take k).map (getS L)).flatMap Sp.cells) ∧ Below (w.heap.size + 1) (w.alloc (.cells #[.map (some a), .map (some d)] 219)) wr) (fun _ i _ => ids.length - (intOf i).toNat)
    case atStart => exact ⟨0, none, 0, by omega, rfl, rfl, World.ownsRow_nil _ _ _ _, Below.refl _ _⟩
    case round =>
      obtain ⟨k, A2, c2, hk, rfl, rfl, hown2, hb⟩ := hrel
      have hbc := blk_cell (blk_below hb (by omega) (heap_alloc_new w _))
      have hbw : Below w.heap.size w wr := ((Below.refl _ _).alloc (Nat.le_refl _) _).trans (hb.mono (by omega))
      have hsz := hb.size
      simp at hsz
      have HO2 := Lib.hid hown2
      have HB := Lib.hid hb
      have HBW := Lib.hid hbw
      clear hown2 hb hbw
      by_cases hlt : k < ids.length
      · obtain ⟨b1, o1, rfl, hb1, x0⟩ := RdI.at_ (Rd.below' HID.out HBW.out hB (Nat.le_refl _)) hlt
        have hk1 : (k : Int) < (ids.length : Int) := by omega
        obtain ⟨⟨s, hat⟩, _⟩ := HFI.out _ (List.getElem_mem hlt)
        have hlk := (HF.out.below HBW.out).all.look (x := ids[k]) (by rw [← (atS_some hat).2]; exact hwf s (atS_some hat).1) false
        simp only [Bool.false_eq_true, if_false] at hlk
        have HTK : Hid (((ids.take (k + 1)).map (getS L)).flatMap Sp.cells = ((ids.take k).map (getS L)).flatMap Sp.cells ++ (getS L ids[k]).cells) := Lib.hid (by
          rw [List.take_succ_eq_append_getElem hlt, List.map_append, List.flatMap_append]; simp)
        generalize getS L ids[k] = t at *
        generalize ids[k] = x at *
        clear hat
        go_wp2_with (at_builtin; refine wpList_app _ rfl (.tmp 22) (.tmp 27) _ rfl (w.heap.size + 1) 30 i0 _ 6 56 Tryz.underlying22 hi0 hz0 hz1 hz2 rfl (by omega) _ _ _ _ rfl (HO2.out.alloc _) (wr.heap.size + 1) _ 1 _ _ rfl (Rd.one6 (by simp) _ _ _) (cells_one1 _) (by unfold maxLen; omega) (by omega) (by simp <;> omega) ?_; intro A3 c3 w3 hown3 hg3 _)
        go_roundw
        case rel =>
          refine ⟨k + 1, A3, c3, by omega, by go_num, rfl, ?_, below_app (HB.out.alloc (by omega) _) (HO2.out.alloc _) hg3 (by simp <;> omega)⟩
          rw [HTK.out]; exact hown3
        case measure => simp [intOf]; omega
      · have hkl : k = ids.length := by omega
        subst hkl
        have hk1 : ¬ (ids.length : Int) < (ids.length : Int) := by omega
        have hl0 := HO2.out
        rw [List.take_of_length_le (Nat.le_refl _)] at hl0
        have hml : (ids.map (getS L)).length = ids.length := by simp
        have HML := Lib.hid hml
        have HLO : Hid (RdS wr wr.heap.size A2 ids.length (ids.map (getS L))) := Lib.hid (Rd.of_own hl0)
        have HFW : Hid (FoB wr a d L S) := Lib.hid (HF.out.below HBW.out)
        have HOW2 := Lib.hid (own_below HOW.out HBW.out)
        clear hl0 hml HO2 HB
        go_wp2_with fail
        refine (Sort_any _ _ _ wr.heap.size (ids.map (getS L)) _ (Nat.le_refl _) (by omega) HLO.out).mono ?_
        rintro e w1 ⟨A4, c4, rfl, hown4, hb4⟩
        rw [sortS_len, HML.out] at hown4 ⊢
        have hz4 := hb4.size
        have hAlt : ∀ k, rowIs A k → k < w.heap.size := fun k hk => (HOW.out.lt k (by rw [← hk]; cases A <;> rfl)).2
        have hbx : ∀ j, w1.cell? ⟨w.heap.size, j, none⟩ = (#[.map (some a), .map (some d)] : Array Value)[j]? := fun j => (hb4.cell (by simp only; omega)).trans (hbc j)
        have HBX := Lib.hid hbx
        have HAL := Lib.hid hAlt
        have HO4 := Lib.hid hown4
        have HF1 : Hid (FoB w1 a d L S) := Lib.hid (HFW.out.below hb4)
        have HOW1 := Lib.hid (own_below HOW2.out hb4)
        have HBW1 : Hid (Below w.heap.size w w1) := Lib.hid (below_via HBW.out hb4 (by omega))
        have HSL : Hid ((sortS (ids.map (getS L))).length = ids.length) := Lib.hid (by rw [sortS_len, HML.out])
        have HKD : Hid (∀ s, s ∈ sortS (ids.map (getS L)) → atS L s.id = some s ∧ Fine L n (kidIds L s.id)) := Lib.hid (fun s hs => Fine.kid HFI.out hs)
        have HST : Hid (out ++ layL L (n + 1) dp o ids = out ++ layR L n dp o (sortS (ids.map (getS L))) 0) := Lib.hid rfl
        have HTT : Hid ((out ++ layL L (n + 1) dp o ids).length ≤ 100000) := Lib.hid (by rw [List.length_append]; exact HTOT.out)
        generalize sortS (ids.map (getS L)) = sl at *
        generalize out ++ layL L (n + 1) dp o ids = res at *
        clear hown4 hb4 hbx hAlt HLO HFW HOW2 hbc HFI
        go_wp2_with fail
        go_loopw [1, 33] (fun v i wr => ∃ (k : Nat) (acc : List Br) (A5 : Option Addr) (c5 : Nat), k ≤ ids.length ∧ i = .int .i64 k ∧ v = .slice A5 acc.length c5 ∧ wr.ownsRow base 100 8 (.slice A5 acc.length c5) acc.length (acc.flatMap Br.cells) ∧
            Fr (rowIs A) w1 wr ∧ (A5.map (·.block) = A.map (·.block) ∨ ∃ k, A5.map (·.block) = some k ∧ w1.heap.size ≤ k) ∧ acc ++ layR L n dp o sl k = res) (fun _ i _ => ids.length - (intOf i).toNat)
        case atStart => exact ⟨0, out, A, c, by omega, rfl, rfl, HOW1.out, Fr.refl _ _, .inl rfl, HST.out.symm⟩
        case round =>
          obtain ⟨k, acc, A5, c5, hk, rfl, rfl, hown5, hfr, hloc, hres⟩ := hrel
          have hszr := hfr.size
          have HO5 := Lib.hid hown5
          have HFR := Lib.hid hfr
          have HLOC := Lib.hid hloc
          have HRES := Lib.hid hres
          have hbxr : ∀ j, wr.cell? ⟨w.heap.size, j, none⟩ = (#[.map (some a), .map (some d)] : Array Value)[j]? := fun j => by
            rw [← HBX.out j]; simp only [World.cell?, hfr.block w.heap.size (by omega) (fun hk => by have := HAL.out _ hk; omega)]
          have HFWR : Hid (FoB wr a d L S) := Lib.hid (HF1.out.fr hfr HSA.out)
          clear hown5 hfr hloc hres
          by_cases hlt : k < ids.length
          · have hlt2 : k < sl.length := by rw [HSL.out]; exact hlt
            have hown4 : wr.ownsRow _ 30 6 (.slice A4 ids.length c4) ids.length (sl.flatMap Sp.cells) := own_fr' HO4.out HFR.out (fun k hk hr => by
              have h1 := HO4.out.lt k hk
              have h2 := HAL.out k hr
              omega)
            obtain ⟨b1, o1, rfl, hb1, x0, x1, x2, x3, x4, x5⟩ := RdS.at_ (Rd.of_own hown4) hlt2
            have hk1 : (k : Int) < (ids.length : Int) := by omega
            obtain ⟨hat, hfk⟩ := HKD.out _ (List.getElem_mem hlt2)
            have HSTEP := Lib.hid (layR_step L n dp o sl k hlt2)
            generalize sl[k] = s at *
            have hwid := hwf s (atS_some hat).1
            have hkl : (kidIds L s.id).length ≤ L.length := by rw [kidIds, List.length_map]; exact List.length_filter_le _ _
            have hlen : acc.length + 1 + (layL L n (dp + 1) false (kidIds L s.id)).length ≤ 100000 := by
              have h1 := HTT.out
              rw [← HRES.out, HSTEP.out] at h1
              simp only [List.length_append, List.length_cons] at h1
              omega
            have HFK := Lib.hid hfk
            have HLEN := Lib.hid hlen
            have hacc : acc.length ≤ 100000 := by omega
            clear hown4 hat hfk hlen
            have HBC : Hid (∀ j, (wr.alloc (.cells #[.int .i64 s.tr, .int .i64 s.id, .int .i64 s.pa, .int .i64 s.st, .int .i64 s.en, .string s.nm] 30)).cell? ⟨wr.heap.size, j, none⟩ = (#[.int .i64 s.tr, .int .i64 s.id, .int .i64 s.pa, .int .i64 s.st, .int .i64 s.en, .string s.nm] : Array Value)[j]?) := Lib.hid (blk_cell (heap_alloc_new _ _))
            go_wp2_with (at_builtin; refine wpList_app _ rfl (.tmp 37) (.tmp 42) _ rfl base 100 j0 _ 8 72 Tryz.underlying94 gi0 gz0 gz1 gz2 rfl (by omega) _ _ _ _ rfl ((HO5.out.alloc _).alloc _) (wr.heap.size + 2) _ 1 _ _ rfl (Rd.oneB (by simp) dp o s _ _) (br_one ⟨dp, o, s⟩) (by unfold maxLen; omega) (by omega) (by simp <;> omega) ?_; intro A6 c6 w6 hown6 hg6 hl6; have HF6 := Lib.hid (lay_facts HFR.out HO5.out HLOC.out HAL.out HF1.out HSA.out HBX.out (by omega) hszr hg6 hl6); have hs61 : w6.cell? ⟨wr.heap.size, 1, none⟩ = some (.int .i64 s.id) := (HF6.out.2.2.2.2 1).trans (HBC.out 1); have hbx60 : w6.cell? ⟨w.heap.size, 0, none⟩ = some (.map (some a)) := HF6.out.2.2.2.1 0; have hbx61 : w6.cell? ⟨w.heap.size, 1, none⟩ = some (.map (some d)) := HF6.out.2.2.2.1 1; obtain ⟨A0, c0, hlk1, HO0⟩ := lay_look HF6.out.1 hwid; have HO6 : Hid _ := Lib.hid hown6; have HL6 := Lib.hid hl6; have hz6 : wr.heap.size + 2 ≤ w6.heap.size := (by have := hg6.size; simpa using this); clear hown6 hg6 hl6)
            have hSA6 : ∀ k, S k → ¬ rowIs A6 k := fun k hk hr => by
              rcases HF6.out.2.2.1 with h | ⟨j, h, hj⟩
              · exact HSA.out k hk (by unfold rowIs at hr ⊢; rw [← h]; exact hr)
              · have h1 := HF1.out.lt k hk
                unfold rowIs at hr
                rw [h] at hr
                have := Option.some.inj hr
                omega
            have hln : (acc ++ [(⟨dp, o, s⟩ : Br)]).length = acc.length + 1 := by simp
            have hflat : (acc ++ [(⟨dp, o, s⟩ : Br)]).flatMap Br.cells = acc.flatMap Br.cells ++ (⟨dp, o, s⟩ : Br).cells := by simp
            have hown7 : w6.ownsRow base 100 8 (.slice A6 (acc ++ [(⟨dp, o, s⟩ : Br)]).length c6) (acc ++ [(⟨dp, o, s⟩ : Br)]).length ((acc ++ [(⟨dp, o, s⟩ : Br)]).flatMap Br.cells) := by
              rw [hln, hflat]; exact HO6.out
            have hih := HIH.out (kidIds L s.id) (dp + 1) false (acc ++ [(⟨dp, o, s⟩ : Br)]) base w6.heap.size A6 c6 A0 c0 w6 HF6.out.1 HFK.out (by omega) (by omega) (by rw [hln]; exact HLEN.out) hown7 (by omega) hSA6 HO0.out (Nat.le_refl _)
            rw [hln, show ((dp + 1 : Nat) : Int) = (dp : Int) + 1 from rfl] at hih
            refine hih.mono ?_
            rintro e w7 ⟨A7, c7, rfl, hown8, hfr8, hloc8⟩
            have HO8 := Lib.hid hown8
            have HFR8 : Hid (Fr (rowIs A) w1 w7) := Lib.hid (HF6.out.2.1.step hfr8 (fun j hj => by
              rcases HF6.out.2.2.1 with h | ⟨k, h, hk⟩
              · left; unfold rowIs at hj ⊢; rw [← h]; exact hj
              · right; unfold rowIs at hj; rw [h] at hj; have := Option.some.inj hj; omega))
            have HLOC8 : Hid (A7.map (·.block) = A.map (·.block) ∨ ∃ k, A7.map (·.block) = some k ∧ w1.heap.size ≤ k) := Lib.hid (by
              rcases hloc8 with h | ⟨k, h, hk⟩
              · rw [h]; exact HF6.out.2.2.1
              · exact .inr ⟨k, h, by omega⟩)
            have HRES8 : Hid ((acc ++ [(⟨dp, o, s⟩ : Br)] ++ layL L n (dp + 1) false (kidIds L s.id)) ++ layR L n dp o sl (k + 1) = res) := Lib.hid (by
              rw [← HRES.out, HSTEP.out]; simp)
            clear hown8 hfr8 hloc8 hih hSA6 hln hflat hown7
            generalize acc ++ [(⟨dp, o, s⟩ : Br)] ++ layL L n (dp + 1) false (kidIds L s.id) = acc2 at *
            go_wp2_with fail
            go_roundw
            case rel => exact ⟨k + 1, acc2, A7, c7, by omega, by go_num, rfl, HO8.out, HFR8.out, HLOC8.out, HRES8.out⟩
            case measure => simp [intOf]; omega
          · have hj1 : ¬ (k : Int) < (ids.length : Int) := by omega
            have hre : acc = res := by
              have := HRES.out
              rw [layR_end L n dp o sl k (by rw [HSL.out]; omega), List.append_nil] at this
              exact this
            subst hre
            go_wp2_with fail
            go_ret
            exact ⟨A5, c5, rfl, HO5.out, (Fr.of_below HBW1.out).trans (HFR.out), HLOC.out.imp id (fun ⟨k, h1, h2⟩ => ⟨k, h1, by omega⟩)⟩
end Go.Proofs.YtempkjnaahgbhaaGreatDoor
