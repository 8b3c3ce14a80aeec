/-
  The walk of the law ForestRings: the Go text answers true. Condition: the spans are not more than memory bears.
-/
import Derived.Test.YtnocknhfdegkgaaAwake04
import Derived.Test.YtnocknhfdegkgaaGrown04
import Derived.Test.YtnocknhfdegkgaaForest5
namespace Go.Proofs.Ytnocknhfdegkgaa
open Go Go.RowKit Go.Maps

/-- On the way up one meets no more spans than there are. -/
theorem up_lt {L : List Sp} (hA : Acy L) {n : Nat} {x y : Int} (h : it L n x = some y) {u : Sp} (hu : atS L y = some u) : n < L.length := by
  refine Classical.byContradiction fun hge => ?_
  have hpos : ∀ k, k < n + 1 → ∃ z, it L k x = some z ∧ z ∈ L.map Sp.id := fun k hk => by
    by_cases hkn : k = n
    · subst hkn
      exact ⟨y, h, List.mem_map.2 ⟨u, (atS_some hu).1, (atS_some hu).2⟩⟩
    · obtain ⟨z, h1, h2⟩ := it_pre h (show k ≤ n by omega)
      rw [show n - k = (n - k - 1) + 1 by omega] at h2
      obtain ⟨s, hs, _⟩ := it_here h2
      exact ⟨z, h1, List.mem_map.2 ⟨s, (atS_some hs).1, (atS_some hs).2⟩⟩
  have hnd : ¬ ((List.range (n + 1)).map fun k => (it L k x).getD 0).Nodup := fun hd => by
    have := nodup_le hd (M := L.map Sp.id) (fun z hz => by
      obtain ⟨k, hk, rfl⟩ := List.mem_map.1 hz
      obtain ⟨z, h1, h2⟩ := hpos k (List.mem_range.1 hk)
      rw [h1]; exact h2)
    simp at this; omega
  refine hnd ?_
  refine List.pairwise_iff_getElem.2 fun i j hi hj hij => ?_
  simp only [List.length_map, List.length_range] at hi hj
  simp only [List.getElem_map, List.getElem_range]
  intro e
  obtain ⟨z, h1, hz⟩ := hpos i hi
  obtain ⟨z', h2, _⟩ := hpos j hj
  rw [h1, h2] at e
  have e : z = z' := e
  subst e
  obtain ⟨z2, h3, h4⟩ := it_pre h2 (Nat.le_of_lt hij)
  rw [h1] at h3
  cases h3
  rw [show j - i = (j - i - 1) + 1 by omega] at h4
  obtain ⟨v, hv, h5⟩ := it_here h4
  have hid := (atS_some hv).2
  rw [← hid] at h5
  exact hA v (atS_some hv).1 _ h5

set_option maxRecDepth 100000 in
set_option maxHeartbeats 4000000 in
theorem forestRings_any (A : Option Addr) (n cap B : Nat) (l : List Sp) (w : World) (hB : B ≤ w.heap.size) (hbig : n ≤ 140737488355328) (hr : RdS w B A n l) :
    Calls Try.prog 6 #[.slice A n cap] w fun e w' => e = .returned (.bool true) ∧ Below w.heap.size w w' := by
  have hlen := hr.len
  subst hlen
  have HR := Lib.hid hr
  clear hr
  cases hl : lightB l
  · have HL := Lib.hid hl
    clear hl
    go_enter Try.func6, Try.ntmps6
    go_wp2_with fail
    refine (light_any _ _ _ _ l _ (by omega) HR.out).mono ?_
    rintro e w1 ⟨rfl, rfl⟩
    rw [HL.out]
    go_wp2_with fail
    refine (awake4_any _).mono ?_
    rintro e w2 ⟨rfl, hb2⟩
    go_wp2_with fail
    go_ret
    exact ⟨rfl, hb2⟩
  · have HL := Lib.hid hl
    have hlp := light_parts hl
    have hl200 := hlp.1
    have HNM : Hid (∀ s ∈ l, s.nm.size ≤ 140737488355328) := Lib.hid fun s hs => by have := hlp.2 s hs; omega
    clear hl hlp
    go_enter Try.func6, Try.ntmps6
    go_wp2_with fail
    refine (light_any _ _ _ _ l _ (by omega) HR.out).mono ?_
    rintro e w1 ⟨rfl, rfl⟩
    rw [HL.out]
    go_wp2_with fail
    refine (grown_any _ _ _ B l _ hB (by omega) HNM.out HR.out).mono ?_
    rintro e w1 ⟨p, a, d, rfl, hf1, hb1⟩
    have hz1 := hb1.size
    have hL64 := hf1.gr.len
    have HF1 := Lib.hid hf1
    have HB1 := Lib.hid hb1
    clear hf1 hb1
    generalize growL l = L at *
    go_wp2_with fail
    refine (fspans_any HF1.out).mono ?_
    rintro e w2 ⟨A2, c2, rfl, hown2, hb2⟩
    have hz2 := hb2.size
    rw [sortS_len] at hown2 ⊢
    have HO2 := Lib.hid hown2
    have HB2 := Lib.hid hb2
    have HSL : Hid ((sortS L).length = L.length) := Lib.hid (sortS_len L)
    have HSM : Hid (∀ s ∈ sortS L, s ∈ L) := Lib.hid (fun s hs => sortS_mem.1 hs)
    clear hown2 hb2
    generalize sortS L = sl at *
    go_wp2_with fail
    go_loopw [18] (fun i wr => ∃ k : Nat, k ≤ L.length ∧ i = .int .i64 k ∧ Below w2.heap.size w2 wr) (fun i _ => L.length - (intOf i).toNat)
    case atStart => exact ⟨0, by omega, rfl, Below.refl _ _⟩
    case round =>
      obtain ⟨k, hk, rfl, hb⟩ := hrel
      have hszr := hb.size
      have HBR := Lib.hid hb
      clear hb
      by_cases hlt : k < L.length
      · have hlt2 : k < sl.length := by rw [HSL.out]; exact hlt
        obtain ⟨b1, o1, rfl, hb1, x0, x1, x2, x3, x4, x5⟩ := RdS.at_ (Rd.of_own (own_below HO2.out HBR.out)) hlt2
        have hk1 : (k : Int) < (L.length : Int) := by omega
        have hsm := HSM.out _ (List.getElem_mem hlt2)
        generalize sl[k] = s at *
        have hwpa := wf_pa HF1.out.gr s hsm
        have HFS : Hid (∀ W, Below wr.heap.size wr W → Fo W p a d 1 L (fun j => w.heap.size ≤ j ∧ j < w1.heap.size)) := Lib.hid (fun W hW => (HF1.out.below HB2.out (Nat.le_refl _)).below (HBR.out.trans (hW.mono hszr)) (Nat.le_refl _))
        have HSM2 := Lib.hid hsm
        clear hsm
        go_wp2_with fail
        refine (find_any (HFS.out _ ((Below.refl _ _).alloc (Nat.le_refl _) (.cells #[.int .i64 s.tr, .int .i64 s.id, .int .i64 s.pa, .int .i64 s.st, .int .i64 s.en, .string s.nm] 30))) s.pa hwpa).mono ?_
        rintro e w3 ⟨rfl, hb3⟩
        have hz3 := hb3.size
        simp at hz3
        have HC3 : Hid (w3.heap[wr.heap.size]? = some (.cells #[.int .i64 s.tr, .int .i64 s.id, .int .i64 s.pa, .int .i64 s.st, .int .i64 s.en, .string s.nm] 30 (0, 0))) := Lib.hid (blk_below hb3 (by simp) (heap_alloc_new wr _))
        have HB3 : Hid (Below wr.heap.size wr w3) := Lib.hid (((Below.refl _ _).alloc (Nat.le_refl _) _).trans (hb3.mono (by simp)))
        clear hb3
        obtain ⟨u0, hu0⟩ : ∃ u0, u0 = getS L s.pa := ⟨_, rfl⟩
        obtain ⟨o0, ho0⟩ : ∃ o0, o0 = (atS L s.pa).isSome := ⟨_, rfl⟩
        rw [← hu0, ← ho0]
        have HU0 := Lib.hid hu0
        have HO0 := Lib.hid ho0
        clear hu0 ho0
        go_wp2_with fail
        obtain ⟨ws, rfl⟩ : ∃ ws, ws = w3 := ⟨w3, rfl⟩
        obtain ⟨wo, rfl⟩ : ∃ wo, wo = wr := ⟨wr, rfl⟩
        go_loopw [7, 8] (fun ov nv wr => ∃ (n : Nat) (x : Int) (u : Sp) (o : Bool), nv = .int .i64 n ∧ ov = .bool o ∧ it L n s.pa = some x ∧ u = getS L x ∧ o = (atS L x).isSome ∧ n ≤ L.length + 1 ∧ wr.heap[ws.heap.size]? = some (.cells #[.int .i64 u.tr, .int .i64 u.id, .int .i64 u.pa, .int .i64 u.st, .int .i64 u.en, .string u.nm] 30 (0, 0)) ∧
            Fr (fun j => j = ws.heap.size) (ws.alloc (.cells #[.int .i64 u0.tr, .int .i64 u0.id, .int .i64 u0.pa, .int .i64 u0.st, .int .i64 u0.en, .string u0.nm] 30)) wr) (fun _ nv _ => L.length + 1 - (intOf nv).toNat)
        case atStart => exact ⟨0, s.pa, u0, o0, rfl, rfl, rfl, HU0.out, HO0.out, by omega, heap_alloc_new _ _, Fr.refl _ _⟩
        case round =>
          obtain ⟨n, x, u, o, rfl, rfl, hit, hu, ho, hnl, hub, hfr⟩ := hrel
          have hszw := hfr.size
          simp at hszw
          have HIT := Lib.hid hit
          have HU := Lib.hid hu
          have HOX := Lib.hid ho
          have HFR := Lib.hid hfr
          have hu0 : wr.cell? ⟨ws.heap.size, 0, none⟩ = some (.int .i64 u.tr) := blk_cell hub 0
          have hu1 : wr.cell? ⟨ws.heap.size, 1, none⟩ = some (.int .i64 u.id) := blk_cell hub 1
          have hu2 : wr.cell? ⟨ws.heap.size, 2, none⟩ = some (.int .i64 u.pa) := blk_cell hub 2
          have hu3 : wr.cell? ⟨ws.heap.size, 3, none⟩ = some (.int .i64 u.st) := blk_cell hub 3
          have hu4 : wr.cell? ⟨ws.heap.size, 4, none⟩ = some (.int .i64 u.en) := blk_cell hub 4
          have hu5 : wr.cell? ⟨ws.heap.size, 5, none⟩ = some (.string u.nm) := blk_cell hub 5
          have HUB := Lib.hid hub
          have hsb : wr.heap[wo.heap.size]? = some (.cells #[.int .i64 s.tr, .int .i64 s.id, .int .i64 s.pa, .int .i64 s.st, .int .i64 s.en, .string s.nm] 30 (0, 0)) := (hfr.block _ (by simp <;> omega) (by omega)).trans ((Below.heap_alloc _ _ _ (by omega)).trans HC3.out)
          have hs1 : wr.cell? ⟨wo.heap.size, 1, none⟩ = some (.int .i64 s.id) := blk_cell hsb 1
          have HFW : Hid (Fo wr p a d 1 L (fun j => w.heap.size ≤ j ∧ j < w1.heap.size)) := Lib.hid ((HFS.out ws HB3.out).below ((Below.refl _ _).alloc (Nat.le_refl _) _) (Nat.le_refl _) |>.fr hfr (fun j hj he => by omega))
          clear hit hu ho hfr hub hsb
          cases o
          · go_wp2_with fail
            go_roundw
            case rel =>
              refine ⟨k + 1, by omega, by go_num, ?_⟩
              have h1 : Below wo.heap.size wo (ws.alloc (.cells #[.int .i64 u0.tr, .int .i64 u0.id, .int .i64 u0.pa, .int .i64 u0.st, .int .i64 u0.en, .string u0.nm] 30)) := HB3.out.alloc (by omega) _
              exact HBR.out.trans ((h1.mono hszr).trans (HFR.out.below (by simp <;> omega) (fun j hj => by omega)))
            case measure => simp [intOf]; omega
          · obtain ⟨u', hat⟩ := Option.isSome_iff_exists.1 HOX.out.symm
            have huu : u = u' := by rw [HU.out, getS, hat]; rfl
            rw [← huu] at hat
            have hxu := (atS_some hat).2
            have hum := (atS_some hat).1
            have hnlt := up_lt HF1.out.gr.acy HIT.out hat
            have hne : (u.id == s.id) = false := by
              rw [beq_eq_false_iff_ne]
              intro e
              have := HIT.out
              rw [← hxu, e] at this
              exact HF1.out.gr.acy s HSM2.out n this
            have hwu := wf_pa HF1.out.gr u hum
            have HSTEP : Hid (it L (n + 1) s.pa = some u.pa) := Lib.hid (by rw [it_add, HIT.out]; show it L 1 x = _; rw [it_one hat]; rfl)
            have hn1 : (n : Int) ≤ (L.length : Int) := by omega
            clear hat huu hxu hum
            go_wp2_with fail
            refine (flen_any HFW.out).mono ?_
            rintro e v1 ⟨rfl, rfl⟩
            go_wp2_with fail
            refine (find_any HFW.out u.pa hwu).mono ?_
            rintro e w5 ⟨rfl, hb5⟩
            have hz5 := hb5.size
            have HUB5 : Hid (w5.heap[ws.heap.size]? = some (.cells #[.int .i64 u.tr, .int .i64 u.id, .int .i64 u.pa, .int .i64 u.st, .int .i64 u.en, .string u.nm] 30 (0, 0))) := Lib.hid (blk_below hb5 (by omega) HUB.out)
            have HFR5 : Hid (Fr (fun j => j = ws.heap.size) (ws.alloc (.cells #[.int .i64 u0.tr, .int .i64 u0.id, .int .i64 u0.pa, .int .i64 u0.st, .int .i64 u0.en, .string u0.nm] 30)) w5) := Lib.hid (HFR.out.trans (Fr.of_below hb5))
            have hf5 := blk_frozen HUB5.out
            have g0 : w5.cell? ⟨ws.heap.size, 0, none⟩ = some (.int .i64 u.tr) := blk_cell HUB5.out 0
            have g1 : w5.cell? ⟨ws.heap.size, 1, none⟩ = some (.int .i64 u.id) := blk_cell HUB5.out 1
            have g2 : w5.cell? ⟨ws.heap.size, 2, none⟩ = some (.int .i64 u.pa) := blk_cell HUB5.out 2
            have g3 : w5.cell? ⟨ws.heap.size, 3, none⟩ = some (.int .i64 u.st) := blk_cell HUB5.out 3
            have g4 : w5.cell? ⟨ws.heap.size, 4, none⟩ = some (.int .i64 u.en) := blk_cell HUB5.out 4
            have g5 : w5.cell? ⟨ws.heap.size, 5, none⟩ = some (.string u.nm) := blk_cell HUB5.out 5
            obtain ⟨u2, hu2'⟩ : ∃ u2, u2 = getS L u.pa := ⟨_, rfl⟩
            obtain ⟨o2, ho2'⟩ : ∃ o2, o2 = (atS L u.pa).isSome := ⟨_, rfl⟩
            rw [← hu2', ← ho2']
            have HU2 := Lib.hid hu2'
            have HO2' := Lib.hid ho2'
            clear hb5 hu2' ho2'
            go_wp2_with fail
            go_roundw
            case rel =>
              refine ⟨n + 1, u.pa, u2, o2, by go_num, rfl, HSTEP.out, HU2.out, HO2'.out, by omega, ?_, ?_⟩
              · have h0 := blk_set (blk_set (blk_set (blk_set (blk_set (blk_set HUB5.out 0 (.int .i64 u2.tr)) 1 (.int .i64 u2.id)) 2 (.int .i64 u2.pa)) 3 (.int .i64 u2.st)) 4 (.int .i64 u2.en)) 5 (.string u2.nm)
                exact h0
              · exact HFR5.out.trans ((((((((Fr.refl (fun j => j = ws.heap.size) w5).setCell (p := ⟨ws.heap.size, 0, none⟩) rfl _).setCell (p := ⟨ws.heap.size, 1, none⟩) rfl _).setCell (p := ⟨ws.heap.size, 2, none⟩) rfl _).setCell (p := ⟨ws.heap.size, 3, none⟩) rfl _).setCell (p := ⟨ws.heap.size, 4, none⟩) rfl _).setCell (p := ⟨ws.heap.size, 5, none⟩) rfl _))
            case measure => simp [intOf]; omega
      · have hk1 : ¬ (k : Int) < (L.length : Int) := by omega
        go_wp2_with fail
        refine (awake4_any _).mono ?_
        rintro e w5 ⟨rfl, hb5⟩
        go_wp2_with fail
        go_ret
        exact ⟨rfl, HB1.out.trans ((HB2.out.mono hz1).trans ((HBR.out.mono (by omega)).trans (hb5.mono (by omega))))⟩
end Go.Proofs.Ytnocknhfdegkgaa
