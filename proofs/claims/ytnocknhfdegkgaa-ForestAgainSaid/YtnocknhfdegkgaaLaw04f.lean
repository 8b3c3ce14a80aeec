/-
  The walk of the law ForestAgain: the Go text answers true. Condition: the spans are not more than memory bears.
-/
import Derived.Test.YtnocknhfdegkgaaAwake04
import Derived.Test.YtnocknhfdegkgaaGrown04
import Derived.Test.YtnocknhfdegkgaaForest5
import Derived.Test.YtnocknhfdegkgaaForestO
import Derived.Test.YtnocknhfdegkgaaEqB04
import Derived.Test.YtnocknhfdegkgaaPutFld
namespace Go.Proofs.Ytnocknhfdegkgaa
open Go Go.RowKit Go.Maps

/-- A span with another name and another end. -/
def nmX (s : Sp) : ByteArray := ⟨#[120]⟩ ++ s.nm.extract 1 s.nm.size
def mutN (s : Sp) : Sp := { s with nm := nmX s }
def mutS (s : Sp) : Sp := { s with en := 1099511627776, nm := nmX s }
def mutK (m : List Sp) (k : Nat) : List Sp := (m.take k).map mutS ++ m.drop k
theorem mutK_len (m : List Sp) (k : Nat) : (mutK m k).length = m.length := by simp [mutK]; omega
theorem mutK_at (m : List Sp) (k : Nat) (hk : k < m.length) (h : k < (mutK m k).length) : (mutK m k)[k] = m[k] := by
  simp only [mutK]
  have e : ((m.take k).map mutS).length = k := by simp; omega
  rw [List.getElem_append_right (by omega)]
  simp only [e, Nat.sub_self, List.getElem_drop, Nat.add_zero]
theorem mutK_step (m : List Sp) (k : Nat) (hk : k < m.length) : (mutK m k).set k (mutS m[k]) = mutK m (k + 1) := by
  simp only [mutK]
  have e : ((m.take k).map mutS).length = k := by simp; omega
  rw [List.set_append_right _ _ (by omega), e, Nat.sub_self, List.drop_eq_getElem_cons hk, List.set_cons_zero, List.take_succ_eq_append_getElem hk, List.map_append, List.append_assoc]
  rfl
theorem mutK_end (m : List Sp) : mutK m m.length = m.map mutS := by simp [mutK]
theorem nmX_size {s : Sp} (h : 1 ≤ s.nm.size) : (nmX s).size = s.nm.size := by
  simp only [nmX, ByteArray.size_append, ByteArray.size_extract]
  have : (ByteArray.mk #[120]).size = 1 := rfl
  omega
theorem nmX_all {s : Sp} (h : allBytes 33 126 s.nm.data.toList = true) : allBytes 33 126 (nmX s).data.toList = true := by
  simp only [allBytes, List.all_eq_true] at h ⊢
  intro c hc
  simp only [nmX, ByteArray.data_append, ByteArray.data_extract, Array.toList_append, Array.toList_extract, List.mem_append] at hc
  rcases hc with hc | hc
  · obtain rfl := List.mem_singleton.1 hc; rfl
  · exact h c (List.mem_of_mem_drop (List.mem_of_mem_take hc))
theorem mut_fits {tr : Int} {s : Sp} (h : fits tr s = true) : fits tr (mutS s) = true := by
  obtain ⟨h1, h2⟩ := fits_ok h
  have hb := ok_bounds h1
  have hm := ok_more h1
  have hsz := nmX_size (s := s) (by omega)
  have ha : allBytes 33 126 s.nm.data.toList = true := by
    simp only [Sp.ok, Bool.and_eq_true] at h1
    simp only [h1]
  have ha2 := nmX_all ha
  have e : mutS s = ⟨s.tr, s.id, s.pa, s.st, 1099511627776, nmX s⟩ := rfl
  rw [e]
  generalize nmX s = nx at *
  simp only [fits, Sp.ok, Bool.and_eq_true, decide_eq_true_eq, allIn, List.all_cons, List.all_nil, inB_iff, ha2, and_true]
  omega
/-- Who is there comes again. -/
theorem add_same {L : List Sp} : ∀ (m : List Sp) (c : Cnt), (∀ s ∈ m, atS L s.id = some s) → addL (L, c) m = (L, { c with sa := c.sa + m.length }) := by
  intro m
  induction m with
  | nil => intro c _; rfl
  | cons s m ih =>
    intro c h
    show addL (addS (L, c) s) m = _
    rw [addS_same (h s (by simp)) rfl, ih _ (fun t ht => h t (by simp [ht]))]
    simp only [List.length_cons]
    congr 2
    omega
theorem add_known {L : List Sp} : ∀ (m : List Sp) (c : Cnt), (∀ s ∈ m, ∃ o, atS L s.id = some o) → ∃ c', addL (L, c) m = (L, c') ∧ c'.ad = c.ad ∧ c'.cy = c.cy ∧ c'.fu = c.fu ∧ c'.sa + c'.ot = c.sa + c.ot + m.length := by
  intro m
  induction m with
  | nil => intro c _; exact ⟨c, rfl, rfl, rfl, rfl, rfl⟩
  | cons s m ih =>
    intro c h
    obtain ⟨o, ho⟩ := h s (by simp)
    show ∃ c', addL (addS (L, c) s) m = _ ∧ _
    by_cases e : o = s
    · rw [addS_same ho e]
      obtain ⟨c', h1, h2, h3, h4, h5⟩ := ih { c with sa := c.sa + 1 } (fun t ht => h t (by simp [ht]))
      exact ⟨c', h1, h2, h3, h4, by rw [h5, List.length_cons]; simp only []; omega⟩
    · rw [addS_other ho e]
      obtain ⟨c', h1, h2, h3, h4, h5⟩ := ih { c with ot := c.ot + 1 } (fun t ht => h t (by simp [ht]))
      exact ⟨c', h1, h2, h3, h4, by rw [h5, List.length_cons]; simp only []; omega⟩
theorem again_same {tr : Int} {L : List Sp} (h : Grown tr L) : addA tr L (sortS L) = (L, ⟨0, L.length, 0, 0, 0⟩, 0) := by
  have hf : (sortS L).all (fits tr) = true := List.all_eq_true.2 fun s hs => h.fits s (sortS_mem.1 hs)
  rw [addA, if_pos hf, add_same _ _ (fun s hs => atS_mem h.nodup (sortS_mem.1 hs))]
  simp [Cnt.zero, sortS_len]
theorem again_other {tr : Int} {L : List Sp} (h : Grown tr L) : ∃ x y : Nat, addA tr L ((sortS L).map mutS) = (L, ⟨0, x, y, 0, 0⟩, 0) ∧ x + y = L.length := by
  have hf : ((sortS L).map mutS).all (fits tr) = true := List.all_eq_true.2 fun s hs => by
    obtain ⟨t, ht, rfl⟩ := List.mem_map.1 hs
    exact mut_fits (h.fits t (sortS_mem.1 ht))
  obtain ⟨c', h1, h2, h3, h4, h5⟩ := add_known (L := L) ((sortS L).map mutS) Cnt.zero (fun s hs => by
    obtain ⟨t, ht, rfl⟩ := List.mem_map.1 hs
    exact ⟨t, atS_mem h.nodup (sortS_mem.1 ht)⟩)
  obtain ⟨a, x, y, b, f⟩ := c'
  simp only [Cnt.zero, List.length_map, sortS_len] at h2 h3 h4 h5
  subst h2 h3 h4
  exact ⟨x, y, by rw [addA, if_pos hf, h1], by omega⟩

theorem neq_cntA (a : Int) (W : World) :
    (binOp .neq 33 (.agg #[.int .i64 0, .int .i64 a, .int .i64 0, .int .i64 0, .int .i64 0]) (.agg #[.int .i64 0, .int .i64 a, .int .i64 0, .int .i64 0, .int .i64 0])).run Try.prog W = .ok (.bool false) W := by
  go_simp
theorem run_from1 (W : World) (s : Sp) (h : 1 ≤ s.nm.size) : (Instr.slice 9 (.string s.nm) (some (.int .i64 1)) none none).run Try.prog W = .ok (.string (s.nm.extract 1 s.nm.size)) W := by
  rw [run_slice_string_from_if W _ _ _ _ Try.underlying9, if_pos (by omega)]; rfl
theorem run_nmX (W : World) (s : Sp) (h : s.nm.size ≤ 32) : (binOp .add 9 (.string ⟨#[120]⟩) (.string (s.nm.extract 1 s.nm.size))).run Try.prog W = .ok (.string (nmX s)) W := by
  rw [binOp_string_add, run_string_add]
  · rfl
  · show ((1 : Nat) : Int) ≤ 8388608
    omega
  · have h2 : (s.nm.extract 1 s.nm.size).size ≤ 32 := by rw [ByteArray.size_extract]; omega
    omega
theorem own_at {w : World} {base g n c k : Nat} {e : TypeId} {m : List Sp} (h : w.ownsRow base e 6 (.slice (some ⟨g, 0, none⟩) n c) n (m.flatMap Sp.cells)) (hk : k < m.length) :
    w.cell? ⟨g, k * 6, none⟩ = some (.int .i64 m[k].tr) ∧ w.cell? ⟨g, k * 6 + 1, none⟩ = some (.int .i64 m[k].id) ∧ w.cell? ⟨g, k * 6 + 2, none⟩ = some (.int .i64 m[k].pa) ∧
      w.cell? ⟨g, k * 6 + 3, none⟩ = some (.int .i64 m[k].st) ∧ w.cell? ⟨g, k * 6 + 4, none⟩ = some (.int .i64 m[k].en) ∧ w.cell? ⟨g, k * 6 + 5, none⟩ = some (.string m[k].nm) := by
  obtain ⟨b, off, e, _, x⟩ := RdS.at_ (Rd.of_own h) hk
  injection e with e
  injection e with e1 e2
  subst e1 e2
  simpa using x
/-- At a round. -/
theorem mut_round {wr : World} {base g c k : Nat} {e : TypeId} {m : List Sp} (hown : wr.ownsRow base e 6 (.slice (some ⟨g, 0, none⟩) m.length c) m.length ((mutK m k).flatMap Sp.cells)) (hk : k < m.length) :
    ∃ s l', s = m[k] ∧ l' = mutK m k ∧ l'.length = m.length ∧ k < l'.length ∧ (wr.cell? ⟨g, k * 6 + 5, none⟩ = some (.string s.nm) ∧ wr.cell? ⟨g, k * 6 + 4, none⟩ = some (.int .i64 s.en)) ∧ wr.ownsRow base e 6 (.slice (some ⟨g, 0, none⟩) m.length c) m.length (l'.flatMap Sp.cells) ∧
      (∀ h : k < l'.length, Sp.cells (mutN s) = (Sp.cells l'[k]).set 5 (.string (nmX s))) ∧ (∀ h : k < (l'.set k (mutN s)).length, Sp.cells (mutS s) = (Sp.cells ((l'.set k (mutN s))[k])).set 4 (.int .i64 1099511627776)) ∧ (l'.set k (mutN s)).set k (mutS s) = mutK m (k + 1) := by
  have hl := mutK_len m k
  have hk' : k < (mutK m k).length := by omega
  obtain ⟨_, _, _, _, x4, x5⟩ := own_at hown hk'
  have e := mutK_at m k hk hk'
  refine ⟨m[k], mutK m k, rfl, rfl, hl, hk', ⟨by rw [x5, e], by rw [x4, e]⟩, hown, fun h => ?_, fun h => ?_, ?_⟩
  · rw [e]; rfl
  · rw [List.getElem_set_self]; rfl
  · rw [List.set_set, mutK_step m k hk]

set_option maxRecDepth 100000 in
set_option maxHeartbeats 4000000 in
theorem forestAgain_any (A : Option Addr) (n cap B : Nat) (l : List Sp) (w : World) (hB : B ≤ w.heap.size) (hbig : n ≤ 140737488355328) (hr : RdS w B A n l) :
    Calls Try.prog 5 #[.slice A n cap] w fun e w' => e = .returned (.bool true) ∧ Below w.heap.size w w' := by
  have hlen := hr.len
  subst hlen
  have HR := Lib.hid hr
  clear hr
  cases hl : lightB l
  · have HL := Lib.hid hl
    clear hl
    go_enter Try.func5, Try.ntmps5
    go_wp2_with fail
    refine (light_any _ _ _ _ l _ (by omega) HR.out).mono ?_
    rintro e w1 ⟨rfl, rfl⟩
    rw [HL.out]
    go_wp2_with fail
    refine (awake4_any _).mono ?_
    rintro e w2 ⟨rfl, hb2⟩
    go_wp2_with fail
    go_ret
    exact ⟨rfl, hb2⟩
  · have HL := Lib.hid hl
    have hlp := light_parts hl
    have hl200 := hlp.1
    have HNM : Hid (∀ s ∈ l, s.nm.size ≤ 140737488355328) := Lib.hid fun s hs => by have := hlp.2 s hs; omega
    clear hl hlp
    go_enter Try.func5, Try.ntmps5
    go_wp2_with fail
    refine (light_any _ _ _ _ l _ (by omega) HR.out).mono ?_
    rintro e w1 ⟨rfl, rfl⟩
    rw [HL.out]
    go_wp2_with fail
    refine (grown_any _ _ _ B l _ hB (by omega) HNM.out HR.out).mono ?_
    rintro e w1 ⟨p, a, d, rfl, hf1, hb1⟩
    have hz1 := hb1.size
    have hL64 := hf1.gr.len
    have HF1 := Lib.hid hf1
    have HB1 := Lib.hid hb1
    have HFIT : Hid (∀ s ∈ growL l, 1 ≤ s.nm.size ∧ s.nm.size ≤ 32) := Lib.hid (fun s hs => by
      have h1 := ok_bounds (fits_ok (hf1.gr.fits s hs)).1
      have h2 := ok_more (fits_ok (hf1.gr.fits s hs)).1
      omega)
    clear hf1 hb1
    generalize growL l = L at *
    have HBL : Hid ((branches L).length ≤ 140737488355328) := Lib.hid (branches_len HF1.out.gr)
    go_wp2_with fail
    refine (fspans_any HF1.out).mono ?_
    rintro e w2 ⟨A2, c2, rfl, hown2, hb2⟩
    have hz2 := hb2.size
    have hml : (sortS L).length = L.length := sortS_len L
    have HM : Hid (∀ s ∈ sortS L, s ∈ L) := Lib.hid (fun s hs => sortS_mem.1 hs)
    have HG := Lib.hid HF1.out.gr
    have HSA := Lib.hid (again_same HF1.out.gr)
    have HOA := Lib.hid (again_other HF1.out.gr)
    rw [hml] at hown2 ⊢
    generalize sortS L = m at *
    have HO2 := Lib.hid hown2
    have HF2 := Lib.hid (HF1.out.below hb2 (Nat.le_refl _))
    have HB2 : Hid (Below w.heap.size w w2) := Lib.hid (HB1.out.trans (hb2.mono hz1))
    have HA2 : Hid (∀ k, A2.map (·.block) = some k → w1.heap.size ≤ k ∧ k < w2.heap.size) := Lib.hid (fun k hk => hown2.lt k (by rw [← hk]; cases A2 <;> rfl))
    clear hown2 hb2
    go_wp2_with fail
    refine (branches_any HF2.out).mono ?_
    rintro e w3 ⟨A3, c3, rfl, hown3, hb3⟩
    have hz3 := hb3.size
    have HO3 := Lib.hid hown3
    have HF3 := Lib.hid (HF2.out.below hb3 (Nat.le_refl _))
    have HB3 : Hid (Below w.heap.size w w3) := Lib.hid (HB2.out.trans (hb3.mono (by omega)))
    have HM3 := Lib.hid (own_fr' HO2.out (Fr.of_below hb3 : Fr (fun _ => False) w2 w3) (fun _ _ h => h))
    have HA3 : Hid (∀ k, A3.map (·.block) = some k → w2.heap.size ≤ k ∧ k < w3.heap.size) := Lib.hid (fun k hk => hown3.lt k (by rw [← hk]; cases A3 <;> rfl))
    clear hown3 hb3
    have hrd : RdS w3 w3.heap.size A2 L.length m := (Rd.of_own HM3.out)
    have hadd := add_any HF3.out A2 L.length c2 w3.heap.size m (Nat.le_refl _) (by omega) (fun s hs => by have := HFIT.out s (HM.out s hs); omega) hrd (fun j hj hs => by
      have := HA2.out j hj
      omega)
    rw [HSA.out] at hadd
    have HADD := Lib.hid hadd
    clear hadd hrd
    go_wp2_with fail
    refine HADD.out.mono ?_
    rintro e w4 ⟨rfl, hf4, hfr4⟩
    dsimp only at hf4 ⊢
    have hz4 := hfr4.size
    have hb5 : Below w4.heap.size w4 (w4.alloc (.cells #[.int .i64 0, .int .i64 L.length, .int .i64 0, .int .i64 0, .int .i64 0] 33)) := (Below.refl _ _).alloc (Nat.le_refl _) _
    have HF5 := Lib.hid (hf4.below hb5 (Nat.le_refl _))
    have HB5 : Hid (Below w.heap.size w (w4.alloc (.cells #[.int .i64 0, .int .i64 L.length, .int .i64 0, .int .i64 0, .int .i64 0] 33))) := Lib.hid ((HB3.out.trans (hfr4.below HB3.out.size (fun k hk => hk.1))).alloc (by have := HB3.out.size; omega) _)
    have HM5 := Lib.hid (own_fr' (own_fr' HM3.out hfr4 (fun k hk hs => by
      have := HA2.out k (by rw [← hk]; cases A2 <;> rfl)
      omega)) (Fr.of_below hb5 : Fr (fun _ => False) _ _) (fun _ _ h => h))
    have HO5 := Lib.hid (own_fr' (own_fr' HO3.out hfr4 (fun k hk hs => by
      have := HA3.out k (by rw [← hk]; cases A3 <;> rfl)
      omega)) (Fr.of_below hb5 : Fr (fun _ => False) _ _) (fun _ _ h => h))
    have hcb := heap_alloc_new w4 (.cells #[.int .i64 0, .int .i64 L.length, .int .i64 0, .int .i64 0, .int .i64 0] 33)
    have hneq := neq_cntA (L.length : Int)
    have hcbc := blk_cell hcb
    have HC5 := Lib.hid hcb
    clear hf4 hfr4 hb5 hcb hcbc
    go_wp2_with fail
    refine (branches_any HF5.out).mono ?_
    rintro e w5 ⟨A5, c5, rfl, hown5, hb5⟩
    have hz5 := hb5.size
    simp at hz5
    have HR5 : Hid (RdBr w5 w5.heap.size A5 (branches L).length (branches L)) := Lib.hid (Rd.of_own hown5)
    have HF6 := Lib.hid (HF5.out.below hb5 (Nat.le_refl _))
    have HB6 : Hid (Below w.heap.size w w5) := Lib.hid (HB5.out.trans (hb5.mono HB5.out.size))
    have HM6 := Lib.hid (own_fr' HM5.out (Fr.of_below hb5 : Fr (fun _ => False) _ _) (fun _ _ h => h))
    have HO6 := Lib.hid (own_fr' HO5.out (Fr.of_below hb5 : Fr (fun _ => False) _ _) (fun _ _ h => h))
    have HC6 : Hid (w5.heap[w4.heap.size]? = some (.cells #[.int .i64 0, .int .i64 L.length, .int .i64 0, .int .i64 0, .int .i64 0] 33 (0, 0))) := Lib.hid (blk_below hb5 (by simp) HC5.out)
    clear hown5 hb5
    generalize hbs : branches L = bs at *
    have HBS := Lib.hid hbs
    clear hbs
    go_wp2_with fail
    refine (eqB_any _ _ _ _ _ _ _ _ bs bs _ HR5.out (Rd.of_own HO6.out) HBL.out).mono ?_
    rintro e w6 ⟨q, rfl, hq, m1, hw6⟩
    obtain rfl : q = true := hq.2 rfl
    have hz6 : w6.heap.size = w5.heap.size := by rw [hw6]; rfl
    have HF7 : Hid (Fo w6 p a d 1 L _) := Lib.hid (by rw [hw6]; exact HF6.out.drewN m1)
    have HB7 : Hid (Below w.heap.size w w6) := Lib.hid (by rw [hw6]; exact below_dN HB6.out m1)
    have HM7 : Hid (w6.ownsRow w1.heap.size 30 6 (.slice A2 L.length c2) L.length (m.flatMap Sp.cells)) := Lib.hid (by rw [hw6]; exact HM6.out)
    have HO7 : Hid (w6.ownsRow w2.heap.size 44 8 (.slice A3 bs.length c3) bs.length (bs.flatMap Br.cells)) := Lib.hid (by rw [hw6]; exact HO6.out)
    have HC7 : Hid (w6.heap[w4.heap.size]? = some (.cells #[.int .i64 0, .int .i64 L.length, .int .i64 0, .int .i64 0, .int .i64 0] 33 (0, 0))) := Lib.hid (by rw [hw6]; exact HC6.out)
    clear hq hw6
    go_wp2_with fail
    go_loopw [43] (fun i wr => ∃ k : Nat, k ≤ L.length ∧ i = .int .i64 k ∧ wr.ownsRow w1.heap.size 30 6 (.slice A2 L.length c2) L.length ((mutK m k).flatMap Sp.cells) ∧ Fr (fun j => A2.map (·.block) = some j) w6 wr) (fun i _ => L.length - (intOf i).toNat)
    case atStart => exact ⟨0, by omega, rfl, HM7.out, Fr.refl _ _⟩
    case round =>
      obtain ⟨k, hk, rfl, hown, hfr⟩ := hrel
      have HFR := Lib.hid hfr
      have hzr := hfr.size
      by_cases hlt : k < L.length
      · obtain ⟨g, rfl, hg1, hg2⟩ := own_form hown (by omega)
        rw [← hml] at hown
        have hkm : k < m.length := by omega
        obtain ⟨s, l', hs, hl', hl'l, hkl, ⟨hc, hc4⟩, hown', hy1, hy2, hset⟩ := mut_round hown hkm
        have HS : Hid (1 ≤ s.nm.size ∧ s.nm.size ≤ 32) := Lib.hid (by rw [hs]; exact HFIT.out _ (HM.out _ (List.getElem_mem hkm)))
        have hs1 : (1 : Int) ≤ s.nm.size := by have := HS.out.1; omega
        have hs2 : (s.nm.extract 1 s.nm.size).size ≤ 32 := by have := HS.out.2; rw [ByteArray.size_extract]; omega
        rw [show nmX s = ⟨#[120]⟩ ++ s.nm.extract 1 s.nm.size from rfl] at hy1
        rw [hml] at hown'
        have HO := Lib.hid hown'
        have HY1 := Lib.hid hy1
        have HY2 := Lib.hid hy2
        have HSET := Lib.hid hset
        have HKL := Lib.hid hkl
        have hz5 := own_frozen hown' (k * 6 + 5)
        have hz4 := own_frozen hown' (k * 6 + 4)
        have hk1 : (k : Int) < (L.length : Int) := by omega
        clear hown hown' hy1 hy2 hset hs hl' hl'l hkl hfr hkm
        have hsl := fun W => run_from1 W s HS.out.1
        generalize s.nm.extract 1 s.nm.size = ext at *
        go_wp2_with fail
        go_roundw
        case rel =>
          have hown8 := own_setFld HO.out Sp.cells_len k 5 (mutN s) (.string (⟨#[120]⟩ ++ ext)) HKL.out (by omega) (HY1.out HKL.out)
          have hown9 := own_setFld hown8 Sp.cells_len k 4 (mutS s) (.int .i64 1099511627776) (by rw [List.length_set]; exact HKL.out) (by omega) (HY2.out (by rw [List.length_set]; exact HKL.out))
          rw [HSET.out] at hown9
          exact ⟨k + 1, by omega, by go_num, hown9, (HFR.out.setCell (p := ⟨g, k * 6 + 5, none⟩) rfl _).setCell (p := ⟨g, k * 6 + 4, none⟩) rfl _⟩
        case measure => simp [intOf]; omega
      · obtain rfl : k = L.length := by omega
        have hkn : ¬ (L.length : Int) < (L.length : Int) := by omega
        rw [← hml, mutK_end, hml] at hown
        have HO8 := Lib.hid hown
        have HF8 := Lib.hid (HF7.out.fr hfr (fun k hk hs => by have := HA2.out k hs; omega))
        have HB8 : Hid (Below w.heap.size w wr) := Lib.hid (HB7.out.trans (hfr.below (by have := HB7.out.size; omega) (fun k hk => by have := HA2.out k hk; have := HB1.out.size; omega)))
        have HBR8 := Lib.hid (own_fr' HO7.out hfr (fun k hk hs => by
          have h1 := HA3.out k (by rw [← hk]; cases A3 <;> rfl)
          have h2 := HA2.out k hs
          omega))
        have HC8 : Hid (wr.heap[w4.heap.size]? = some (.cells #[.int .i64 0, .int .i64 L.length, .int .i64 0, .int .i64 0, .int .i64 0] 33 (0, 0))) := Lib.hid ((hfr.block _ (by omega) (fun hs => by have := HA2.out _ hs; omega)).trans HC7.out)
        obtain ⟨x, y, hadd1, hxy⟩ := HOA.out
        have hadd := add_any HF8.out A2 L.length c2 wr.heap.size (m.map mutS) (Nat.le_refl _) (by omega) (fun s hs => by
          obtain ⟨t, ht, rfl⟩ := List.mem_map.1 hs
          have h1 := HFIT.out t (HM.out t ht)
          have h2 := nmX_size h1.1
          show (nmX t).size ≤ _
          omega) (Rd.of_own HO8.out) (fun j hj hs => by
          have := HA2.out j hj
          omega)
        rw [hadd1] at hadd
        have HADD2 := Lib.hid hadd
        have HX : Hid (x + y = L.length) := Lib.hid hxy
        clear hadd hadd1 hown hfr hxy
        go_upto_region 15 with fail
        go_cut [7] (fun v wx => v = .int .i64 0 ∧ Fo wx p a d 1 L (fun k => k < wx.heap.size) ∧ Below w.heap.size w wx ∧ wx.ownsRow w2.heap.size 44 8 (.slice A3 bs.length c3) bs.length (bs.flatMap Br.cells) ∧ wx.heap[w4.heap.size]? = some (.cells #[.int .i64 0, .int .i64 x, .int .i64 y, .int .i64 0, .int .i64 0] 33 (0, 0)))
        case first =>
          go_wp2_with fail
          refine HADD2.out.mono ?_
          rintro e w9 ⟨rfl, hf9, hfr9⟩
          dsimp only at hf9 ⊢
          have hz9 := hfr9.size
          have HF9 := Lib.hid hf9
          have HB9 : Hid (Below w.heap.size w w9) := Lib.hid (HB8.out.trans (hfr9.below HB8.out.size (fun k hk => by rcases hk with hk | hk <;> omega)))
          have HBR9 := Lib.hid (own_fr' HBR8.out hfr9 (fun k hk hs => by
            have h1 := HA3.out k (by rw [← hk]; cases A3 <;> rfl)
            omega))
          have hc9 : w9.heap[w4.heap.size]? = some (.cells #[.int .i64 0, .int .i64 L.length, .int .i64 0, .int .i64 0, .int .i64 0] 33 (0, 0)) := (hfr9.block _ (by omega) (fun hs => by omega)).trans HC8.out
          have HC9 := Lib.hid hc9
          have hcells9 := blk_cell hc9
          have hq0 : w9.cell? ⟨w4.heap.size, 0, none⟩ = some (.int .i64 0) := hcells9 0
          have hq1 : w9.cell? ⟨w4.heap.size, 1, none⟩ = some (.int .i64 L.length) := hcells9 1
          have hq2 : w9.cell? ⟨w4.heap.size, 2, none⟩ = some (.int .i64 0) := hcells9 2
          have hq3 : w9.cell? ⟨w4.heap.size, 3, none⟩ = some (.int .i64 0) := hcells9 3
          have hq4 : w9.cell? ⟨w4.heap.size, 4, none⟩ = some (.int .i64 0) := hcells9 4
          have hy0 := blk_frozen hc9 0
          have hy1 := blk_frozen hc9 1
          have hy2 := blk_frozen hc9 2
          have hy3 := blk_frozen hc9 3
          have hy4 := blk_frozen hc9 4
          have hval : (Cnt.mk 0 x y 0 0).val = .agg #[.int .i64 0, .int .i64 x, .int .i64 y, .int .i64 0, .int .i64 0] := rfl
          rw [hval]
          have hfr10 := fr_sets w9 w4.heap.size (fun i => match i with | 0 => .int .i64 0 | 1 => .int .i64 x | 2 => .int .i64 y | 3 => .int .i64 0 | 4 => .int .i64 0)
          dsimp only at hfr10
          have hz10 := hfr10.size
          have HF10 := Lib.hid ((HF9.out.fr hfr10 (fun k hk hs => by rcases hk with (hk | hk) | hk <;> omega)).mono (S2 := fun k => k < _) (fun k hk => by rcases hk with (hk | hk) | hk <;> omega) (fun k hk => hk))
          have HB10 := Lib.hid (HB9.out.trans (hfr10.below HB9.out.size (fun k hk => by omega)))
          have HBR10 := Lib.hid (own_fr' HBR9.out hfr10 (fun k hk hs => by
            have h1 := HA3.out k (by rw [← hk]; cases A3 <;> rfl)
            omega))
          have HC10 := Lib.hid (blk_set (blk_set (blk_set (blk_set (blk_set hc9 0 (.int .i64 0)) 1 (.int .i64 x)) 2 (.int .i64 y)) 3 (.int .i64 0)) 4 (.int .i64 0))
          clear hfr10 hval hf9 hfr9 hc9 hcells9
          go_wp2_with fail
          go_meet
          exact ⟨rfl, HF10.out, HB10.out, HBR10.out, HC10.out⟩
        case rest =>
        obtain ⟨rfl, hf10, hb10, hbr10, hc10⟩ := hcut
        have HF10 := Lib.hid hf10
        have HB10 := Lib.hid hb10
        have HBR10 := Lib.hid hbr10
        have hcells9 := blk_cell hc10
        have hq0 : wc.cell? ⟨w4.heap.size, 0, none⟩ = some (.int .i64 0) := hcells9 0
        have hq1 : wc.cell? ⟨w4.heap.size, 1, none⟩ = some (.int .i64 x) := hcells9 1
        have hq2 : wc.cell? ⟨w4.heap.size, 2, none⟩ = some (.int .i64 y) := hcells9 2
        have hq3 : wc.cell? ⟨w4.heap.size, 3, none⟩ = some (.int .i64 0) := hcells9 3
        have hq4 : wc.cell? ⟨w4.heap.size, 4, none⟩ = some (.int .i64 0) := hcells9 4
        clear hf10 hb10 hbr10 hc10 hcells9
        have hx64 : x ≤ 64 := by have := HX.out; omega
        have hy64 : y ≤ 64 := by have := HX.out; omega
        have hxyI : (x : Int) + (y : Int) = (L.length : Int) := by have := HX.out; omega
        go_wp2_with fail
        refine (branches_any HF10.out).mono ?_
        rintro e v5 ⟨A7, c7, rfl, hown7, hb7⟩
        rw [HBS.out] at hown7 ⊢
        have HR7 : Hid (RdBr v5 v5.heap.size A7 bs.length bs) := Lib.hid (Rd.of_own hown7)
        have HBR11 := Lib.hid (own_fr' HBR10.out (Fr.of_below hb7 : Fr (fun _ => False) _ _) (fun _ _ h => h))
        have HB11 : Hid (Below w.heap.size w v5) := Lib.hid (HB10.out.trans (hb7.mono HB10.out.size))
        clear hown7 hb7
        go_wp2_with fail
        refine (eqB_any _ _ _ _ _ _ _ _ bs bs _ HR7.out (Rd.of_own HBR11.out) HBL.out).mono ?_
        rintro e v7 ⟨q, rfl, hq, m2, rfl⟩
        obtain rfl : q = true := hq.2 rfl
        clear hq
        go_wp2_with fail
        refine (awake4_any _).mono ?_
        rintro e v8 ⟨rfl, hb8⟩
        go_wp2_with fail
        go_ret
        exact ⟨rfl, below_via (below_dN HB11.out m2) hb8 HB11.out.size⟩
end Go.Proofs.Ytnocknhfdegkgaa
