/-
  On the way through the reference's store's Ingest: what keeps what is there; two counts together. No condition.
  The walk of the reference's store's Ingest: what came of the spans, and the store behind it. Conditions: the reference's store lies in memory, the spans read as a list.
-/
import Derived.Test.YtdjcifeoplgkpaaGreatRef07b
import Derived.Test.YtdjcifeoplgkpaaGreatStoreB
import Derived.Test.YtdjcifeoplgkpaaGreatRefCheck
namespace Go.Proofs.YtdjcifeoplgkpaaGreat
open Go Go.RowKit Go.Maps

/-- What the reference's Ingest leaves. -/
def ResRIng (w : World) (x : Nat) (S : Nat → Prop) (r : List Tr × Cnt × Int) (e : Ending) (w' : World) : Prop :=
  e = .returned (.tuple #[r.2.1.val, .int .i64 r.2.2]) ∧ RS w' x r.1 (fun k => S k ∨ (w.heap.size ≤ k ∧ k < w'.heap.size)) ∧ Fr S w w'

set_option maxRecDepth 100000 in
set_option maxHeartbeats 1000000 in
theorem rsum_any (a b : Cnt) (w : World) (h : a.sum + b.sum ≤ 2000000) :
    Calls Tryz.prog 39 #[a.val, b.val] w fun e w' => e = .returned (a.plus b).val ∧ Below w.heap.size w w' := by
  simp only [Cnt.sum] at h
  have e1 : a.ad + b.ad ≤ 2000000 := by omega
  have e2 : a.sa + b.sa ≤ 2000000 := by omega
  have e3 : a.ot + b.ot ≤ 2000000 := by omega
  have e4 : a.cy + b.cy ≤ 2000000 := by omega
  have e5 : a.fu + b.fu ≤ 2000000 := by omega
  have h1 := wrap_sum _ _ _ e1 (by decide)
  have h2 := wrap_sum _ _ _ e2 (by decide)
  have h3 := wrap_sum _ _ _ e3 (by decide)
  have h4 := wrap_sum _ _ _ e4 (by decide)
  have h5 := wrap_sum _ _ _ e5 (by decide)
  clear h e1 e2 e3 e4 e5
  go_enter Tryz.func39, Tryz.ntmps39
  go_wp2_with fail
  refine bodyPost_ret (v := (a.plus b).val) (by simp [results, Tryz.results39, go_sem, Cnt.plus]) rfl ?_
  refine ⟨rfl, ?_⟩
  repeat (first | exact (((Below.refl _ _).alloc (Nat.le_refl _) _).alloc (by simp) _).alloc (by simp <;> omega) _ | refine Below.setCell ?_ (by first | exact Nat.le_refl _ | (simp <;> omega)) _)

/-- On the way through Ingest. -/
structure RSIn (w wr : World) (x : Nat) (S : Nat → Prop) (st : List Tr × Cnt) : Prop where
  sto : RS wr x st.1 (fun k => S k ∨ (w.heap.size + 2 ≤ k ∧ k < wr.heap.size))
  fr : Fr S w wr
  c0 : wr.heap[w.heap.size]? = some (.cells Cnt.zero.cells 40 (0, 0))
  c1 : wr.heap[w.heap.size + 1]? = some (.cells st.2.cells 40 (0, 0))
  sz : w.heap.size + 2 ≤ wr.heap.size
section
variable {w wr w1 : World} {x : Nat} {S : Nat → Prop} {st : List Tr × Cnt}
theorem RSIn.below (h : RSIn w wr x S st) (hb : Below wr.heap.size wr w1) : RSIn w w1 x S st :=
  have hs := h.sz
  have hz := hb.size
  ⟨(h.sto.below hb (Nat.le_refl _)).mono (fun k hk => hk.imp id fun ⟨h1, h2⟩ => ⟨h1, by omega⟩) (fun k hk => by
      rcases hk with hk | ⟨_, hk⟩
      · have := h.sto.lt k (.inl hk); omega
      · exact hk),
    h.fr.trans (Fr.of_below hb), (hb.block _ (by omega)).trans h.c0, (hb.block _ (by omega)).trans h.c1, by omega⟩
theorem RSIn.sets (h : RSIn w wr x S st) (hS : ∀ k, S k → k < w.heap.size) (hf : Fr (fun k => k = w.heap.size + 1) wr w1) (hz : w1.heap.size = wr.heap.size) (c' : Cnt) (hc : w1.heap[w.heap.size + 1]? = some (.cells c'.cells 40 (0, 0))) : RSIn w w1 x S (st.1, c') := by
  have hs := h.sz
  refine ⟨?_, h.fr.step hf (fun j hj => .inr (by omega)), (hf.block _ (by omega) (by omega)).trans h.c0, hc, by omega⟩
  have := h.sto.fr hf (fun k hk he => by
    rcases hk with hk | ⟨hk, _⟩
    · have := hS k hk; omega
    · omega)
  rw [hz]; exact this
theorem RSIn.bump (h : RSIn w wr x S st) (hS : ∀ k, S k → k < w.heap.size) (i : Nat) (v : Value) (c' : Cnt) (hc : st.2.cells.setIfInBounds i v = c'.cells) : RSIn w (wr.setCell ⟨w.heap.size + 1, i, none⟩ v) x S (st.1, c') :=
  h.sets hS (Fr.setCell (S := fun k => k = w.heap.size + 1) (Fr.refl _ _) rfl v) (by simp [World.setCell]) c' (by rw [← hc]; exact blk_set h.c1 i v)
theorem RSIn.put (h : RSIn w wr x S st) (hS : ∀ k, S k → k < w.heap.size) (c' : Cnt) : RSIn w (((((wr.setCell ⟨w.heap.size + 1, 0, none⟩ (.int .i64 c'.ad)).setCell ⟨w.heap.size + 1, 1, none⟩ (.int .i64 c'.sa)).setCell ⟨w.heap.size + 1, 2, none⟩ (.int .i64 c'.ot)).setCell ⟨w.heap.size + 1, 3, none⟩ (.int .i64 c'.cy)).setCell ⟨w.heap.size + 1, 4, none⟩ (.int .i64 c'.fu)) x S (st.1, c') :=
  h.sets hS (fr_sets _ _ (fun i => match i with | 0 => .int .i64 c'.ad | 1 => .int .i64 c'.sa | 2 => .int .i64 c'.ot | 3 => .int .i64 c'.cy | 4 => .int .i64 c'.fu)) (by simp [World.setCell]) c' (by
    have := blk_set (blk_set (blk_set (blk_set (blk_set h.c1 0 (.int .i64 c'.ad)) 1 (.int .i64 c'.sa)) 2 (.int .i64 c'.ot)) 3 (.int .i64 c'.cy)) 4 (.int .i64 c'.fu)
    simpa [Cnt.cells] using this)
theorem RSIn.fin (h : RSIn w wr x S st) (hS : ∀ k, S k → k < w.heap.size) {w1 : World} (hf : Fr (fun k => k = w.heap.size) wr w1) :
    RS w1 x st.1 (fun k => S k ∨ (w.heap.size ≤ k ∧ k < w1.heap.size)) ∧ Fr S w w1 := by
  have hs := h.sz
  have hz := hf.size
  refine ⟨(h.sto.fr hf (fun k hk he => ?_)).mono (fun k hk => ?_) (fun k hk => ?_), h.fr.step hf (fun j hj => .inr (by omega))⟩
  · rcases hk with hk | ⟨hk, _⟩
    · have := hS k hk; omega
    · omega
  · rcases hk with hk | ⟨h1, h2⟩
    · exact .inl hk
    · exact .inr ⟨by omega, by omega⟩
  · rcases hk with hk | ⟨_, hk⟩
    · have := hS k hk; omega
    · exact hk
/-- The forest of one trace has taken a span: the store behind it. -/
theorem RSIn.added (h : RSIn w wr x S st) (hS : ∀ k, S k → k < w.heap.size) {w5 : World} {T2 : List Tr} {y : Int} {p0 B0 : Nat} {L : List Sp} {SX S5 : Nat → Prop} {T5 : List Tr} (hX : RSX w5 x T2 S5 y p0 SX) (hB5 : B0 ≤ w5.heap.size) (hS5 : ∀ k, S5 k → S k ∨ (w.heap.size + 2 ≤ k ∧ k < B0))
    {SX2 : Nat → Prop} (hf : RF w5 p0 y L SX2) (hg : GrT (setT T2 y L)) (he : setT T2 y L = T5) (h2 : ∀ k, SX2 k → SX k ∨ B0 ≤ k) (hB0 : wr.heap.size ≤ B0) (hXS : ∀ k, SX k → S5 k ∨ wr.heap.size ≤ k) (hfr : Fr (fun k => S k ∨ (w.heap.size + 2 ≤ k ∧ k < wr.heap.size)) wr w5) : RSIn w w5 x S (T5, st.2) := by
  subst he
  have hs := h.sz
  have hz := hfr.size
  have hn : ∀ j, j < w.heap.size + 2 → w.heap.size ≤ j → ¬ (S j ∨ (w.heap.size + 2 ≤ j ∧ j < wr.heap.size)) := fun j h1 h2 hk => by
    rcases hk with hk | ⟨hk, _⟩
    · have := hS j hk; omega
    · omega
  refine ⟨hX.close hf hg h2 (fun k hk => ?_) (fun k hk => ?_) (fun k hk => ?_) (fun k hk => ?_), h.fr.step hfr (fun j hj => hj.imp id fun h3 => by omega), (hfr.block _ (by omega) (hn _ (by omega) (by omega))).trans h.c0, (hfr.block _ (by omega) (hn _ (by omega) (by omega))).trans h.c1, by omega⟩
  · rcases hS5 k hk with hk | hk
    · have := hS k hk; omega
    · omega
  · rcases hS5 k hk with hk | hk
    · exact .inl hk
    · exact .inr ⟨hk.1, by omega⟩
  · rcases h2 k hk with hk2 | hk2
    · rcases hXS k hk2 with h3 | h3
      · rcases hS5 k h3 with h3 | h3
        · exact .inl h3
        · exact .inr ⟨h3.1, by omega⟩
      · exact .inr ⟨by omega, hf.lt k hk⟩
    · exact .inr ⟨by omega, hf.lt k hk⟩
  · rcases hk with hk | ⟨_, hk⟩
    · have := hS k hk; omega
    · exact hk
end

set_option maxRecDepth 100000 in
set_option maxHeartbeats 4000000 in
theorem ringest_any {w : World} {x0 : Nat} {T : List Tr} {S : Nat → Prop} (h : RS w x0 T S) (A : Option Addr) (n cap B : Nat) (l : List Sp) (hB : B ≤ w.heap.size) (hbig : n ≤ 1000000) (hnm : ∀ s ∈ l, s.nm.size ≤ 140737488355328) (hr : RdS w B A n l) (hS : 0 < n → ∀ k, A.map (·.block) = some k → ¬ S k) :
    Calls Tryz.prog 13 #[.pointer (some ⟨x0, 0, none⟩), .slice A n cap] w (ResRIng w x0 S (ingA T l)) := by
  have hlen := hr.len
  subst hlen
  have HR := Lib.hid hr
  have HNM := Lib.hid hnm
  have hSlt := h.lt
  have HSL : Hid (∀ k, S k → k < w.heap.size) := Lib.hid hSlt
  have HNS := Lib.hid hS
  have hz2 : ((w.alloc (.cells Cnt.zero.cells 40)).alloc (.cells Cnt.zero.cells 40)).heap.size = w.heap.size + 2 := by simp
  have hI : RSIn w ((w.alloc (.cells Cnt.zero.cells 40)).alloc (.cells Cnt.zero.cells 40)) x0 S (T, Cnt.zero) := by
    have hb : Below w.heap.size w ((w.alloc (.cells Cnt.zero.cells 40)).alloc (.cells Cnt.zero.cells 40)) := ((Below.refl _ _).alloc (Nat.le_refl _) _).alloc (by simp) _
    refine ⟨(h.below hb (Nat.le_refl _)).mono (fun k hk => .inl hk) (fun k hk => ?_), Fr.of_below hb, ?_, ?_, by rw [hz2]; exact Nat.le_refl _⟩
    · rw [hz2] at hk ⊢
      rcases hk with hk | hk
      · have := hSlt k hk; omega
      · omega
    · exact blk_below ((Below.refl (w.heap.size + 1) _).alloc (by simp) _) (by omega) (heap_alloc_new w _)
    · have := heap_alloc_new (w.alloc (.cells Cnt.zero.cells 40)) (.cells Cnt.zero.cells 40)
      rw [World.size_alloc] at this
      exact this
  have HI := Lib.hid hI
  clear hr h hnm hSlt hS hz2 hI
  go_enter Tryz.func13, Tryz.ntmps13
  go_wp2_with fail
  go_loopw [17] (fun i wr => ∃ (k : Nat), k ≤ l.length ∧ i = .int .i64 k ∧ (l.take k).all Sp.ok = true ∧ RSIn w wr x0 S (T, Cnt.zero)) (fun i _ => l.length - (intOf i).toNat)
  case atStart => exact ⟨0, by omega, rfl, rfl, HI.out⟩
  case round =>
    obtain ⟨k, hk, rfl, hall, hin⟩ := hrel
    have HIN := Lib.hid hin
    have HALL := Lib.hid hall
    have hsz := hin.sz
    clear hin hall
    by_cases hlt : k < l.length
    · obtain ⟨b1, o1, rfl, hb1, x0, x1, x2, x3, x4, x5⟩ := RdS.at_ (Fr.rdN HR.out HIN.out.fr hB HNS.out) hlt
      have hk1 : (k : Int) < (l.length : Int) := by omega
      have hnm := HNM.out _ (List.getElem_mem hlt)
      have HTK := Lib.hid (all_take_succ l Sp.ok k hlt)
      have HBAD := Lib.hid (all_false_of l Sp.ok k hlt)
      generalize l[k] = x at *
      have HB0 : Hid (Below wr.heap.size wr (wr.alloc (.cells #[.int .i64 x.tr, .int .i64 x.id, .int .i64 x.pa, .int .i64 x.st, .int .i64 x.en, .string x.nm] 38))) := Lib.hid ((Below.refl _ _).alloc (Nat.le_refl _) _)
      go_wp2_with fail
      refine (refCheck_any x _ hnm).mono ?_
      rintro e v1 ⟨rfl, hbc⟩
      have hbw : Below wr.heap.size wr v1 := HB0.out.trans (hbc.mono (by simp))
      have HI2 := Lib.hid (HIN.out.below hbw)
      have hzv := hbw.size
      clear hbc hbw
      cases hok : x.ok
      · have HC : Hid (x.check = 30) := Lib.hid (Sp.check_f hok)
        have HA : Hid (l.all Sp.ok = false) := Lib.hid (HBAD.out hok)
        clear hok
        rw [HC.out]
        have hc00 : v1.cell? ⟨w.heap.size, 0, none⟩ = some (.int .i64 0) := blk_cell HI2.out.c0 0
        have hc01 : v1.cell? ⟨w.heap.size, 1, none⟩ = some (.int .i64 0) := blk_cell HI2.out.c0 1
        have hc02 : v1.cell? ⟨w.heap.size, 2, none⟩ = some (.int .i64 0) := blk_cell HI2.out.c0 2
        have hc03 : v1.cell? ⟨w.heap.size, 3, none⟩ = some (.int .i64 0) := blk_cell HI2.out.c0 3
        have hc04 : v1.cell? ⟨w.heap.size, 4, none⟩ = some (.int .i64 0) := blk_cell HI2.out.c0 4
        have hc10 : v1.cell? ⟨w.heap.size + 1, 0, none⟩ = some (.int .i64 0) := blk_cell HI2.out.c1 0
        have hc11 : v1.cell? ⟨w.heap.size + 1, 1, none⟩ = some (.int .i64 0) := blk_cell HI2.out.c1 1
        have hc12 : v1.cell? ⟨w.heap.size + 1, 2, none⟩ = some (.int .i64 0) := blk_cell HI2.out.c1 2
        have hc13 : v1.cell? ⟨w.heap.size + 1, 3, none⟩ = some (.int .i64 0) := blk_cell HI2.out.c1 3
        have hc14 : v1.cell? ⟨w.heap.size + 1, 4, none⟩ = some (.int .i64 0) := blk_cell HI2.out.c1 4
        have hf0 := blk_frozen HI2.out.c0
        go_wp2_with fail
        refine bodyPost_ret (v := .tuple #[Cnt.zero.val, .int .i64 30]) (by simp [results, Tryz.results13, go_sem, hc00, hc01, hc02, hc03, hc04, Cnt.zero]) rfl ?_
        have hA : ingA T l = (T, Cnt.zero, 30) := by rw [ingA, if_neg (by rw [HA.out]; exact Bool.false_ne_true)]
        rw [hA]
        exact ⟨rfl, HI2.out.fin HSL.out (fr_sets _ _ (fun _ => .int .i64 0))⟩
      · have HC : Hid (x.check = 0) := Lib.hid (Sp.check_t hok)
        have HOK := Lib.hid hok
        clear hok
        rw [HC.out]
        go_wp2_with fail
        go_roundw
        case rel => exact ⟨k + 1, by omega, by go_num, by rw [HTK.out, HALL.out, HOK.out]; rfl, HI2.out⟩
        case measure => simp [intOf]; omega
    · have hall2 := HALL.out
      rw [List.take_of_length_le (by omega)] at hall2
      have HA2 := Lib.hid hall2
      have hk1 : ¬ (k : Int) < (l.length : Int) := by omega
      clear hall2
      go_wp2_with fail
      go_loopw [28] (fun i wr => ∃ (k : Nat), k ≤ l.length ∧ i = .int .i64 k ∧ RSIn w wr x0 S (ingL (T, Cnt.zero) (l.take k))) (fun i _ => l.length - (intOf i).toNat)
      case atStart => exact ⟨0, by omega, rfl, HIN.out⟩
      case round =>
        obtain ⟨k, hk, rfl, hin⟩ := hrel
        have HIN := Lib.hid hin
        have hsz := hin.sz
        clear hin
        have hsum := ingL_sum (T, Cnt.zero) (l.take k)
        by_cases hlt : k < l.length
        · obtain ⟨b1, o1, rfl, hb1, y0, y1, y2, y3, y4, y5⟩ := RdS.at_ (Fr.rdN HR.out HIN.out.fr hB HNS.out) hlt
          have hk1 : (k : Int) < (l.length : Int) := by omega
          have hxok := List.all_eq_true.1 HA2.out _ (List.getElem_mem hlt)
          have hnm := HNM.out _ (List.getElem_mem hlt)
          have HST := Lib.hid (show ingL (T, Cnt.zero) (l.take (k + 1)) = ingS (ingL (T, Cnt.zero) (l.take k)) l[k] by rw [List.take_succ_eq_append_getElem hlt, ingL_snoc])
          rw [List.length_take, Nat.min_eq_left hk] at hsum
          generalize l[k] = x at *
          generalize ingL (T, Cnt.zero) (l.take k) = st at *
          obtain ⟨T2, c⟩ := st
          have hcs : c.sum = k := by simpa [Cnt.sum, Cnt.zero] using hsum
          have HCS := Lib.hid hcs
          have HXOK := Lib.hid hxok
          have hT32 := HIN.out.sto.gr.len
          dsimp only at hT32
          have HBW2 : Hid (Below wr.heap.size wr (wr.alloc (.cells #[.int .i64 x.tr, .int .i64 x.id, .int .i64 x.pa, .int .i64 x.st, .int .i64 x.en, .string x.nm] 38))) := Lib.hid ((Below.refl _ _).alloc (Nat.le_refl _) _)
          have HIN2 := Lib.hid (HIN.out.below HBW2.out)
          have HSP := Lib.hid (heap_alloc_new wr (.cells #[.int .i64 x.tr, .int .i64 x.id, .int .i64 x.pa, .int .i64 x.st, .int .i64 x.en, .string x.nm] 38))
          have hw2 : wr.heap.size + 1 ≤ (wr.alloc (.cells #[.int .i64 x.tr, .int .i64 x.id, .int .i64 x.pa, .int .i64 x.st, .int .i64 x.en, .string x.nm] 38)).heap.size := by simp
          have hw2' : (wr.alloc (.cells #[.int .i64 x.tr, .int .i64 x.id, .int .i64 x.pa, .int .i64 x.st, .int .i64 x.en, .string x.nm] 38)).heap.size ≤ wr.heap.size + 1 := by simp
          have HRF := Lib.hid (rforest_any ((HIN.out.sto.below HBW2.out (Nat.le_refl _))) x.tr)
          clear hsum hcs hxok
          go_wp2_with fail
          refine HRF.out.mono ?_
          generalize wr.alloc (.cells #[.int .i64 x.tr, .int .i64 x.id, .int .i64 x.pa, .int .i64 x.st, .int .i64 x.en, .string x.nm] 38) = w2 at *
          rintro e w2' ⟨rfl, hfor⟩
          have hxc := blk_cell HSP.out
          rcases hfor with ⟨hg, rfl⟩ | ⟨L, p0, SX, hg, rfl, hrf, hrx, hXS⟩
          · have HG := Lib.hid hg
            clear hg
            obtain ⟨Ax, cx, px, SSx, hx1, _⟩ := HIN2.out.sto.ex
            have hcx0 := blk_cell hx1
            clear hx1
            by_cases h32 : 32 ≤ T2.length
            · have h32i : ((T2.length : Int) == 32) = true := by rw [show T2.length = 32 by omega]; rfl
              have hc10 : w2.cell? ⟨w.heap.size + 1, 0, none⟩ = some (.int .i64 c.ad) := blk_cell HIN2.out.c1 0
              have hc11 : w2.cell? ⟨w.heap.size + 1, 1, none⟩ = some (.int .i64 c.sa) := blk_cell HIN2.out.c1 1
              have hc12 : w2.cell? ⟨w.heap.size + 1, 2, none⟩ = some (.int .i64 c.ot) := blk_cell HIN2.out.c1 2
              have hc13 : w2.cell? ⟨w.heap.size + 1, 3, none⟩ = some (.int .i64 c.cy) := blk_cell HIN2.out.c1 3
              have hc14 : w2.cell? ⟨w.heap.size + 1, 4, none⟩ = some (.int .i64 c.fu) := blk_cell HIN2.out.c1 4
              have hf1 := blk_frozen HIN2.out.c1
              have hwr : wrap64 ((c.fu : Int) + 1) = (c.fu : Int) + 1 := wrap_one c.fu 1000000 (by have := HCS.out; simp only [Cnt.sum] at this; omega) (by decide)
              go_wp2_with fail
              clear hwr
              go_roundw
              case rel =>
                refine ⟨k + 1, by omega, by go_num, ?_⟩
                rw [HST.out, ingS_full HG.out h32]
                have := HIN2.out.bump HSL.out 4 (.int .i64 ((c.fu : Int) + 1)) { c with fu := c.fu + 1 } (by simp [Cnt.cells])
                exact this
              case measure => simp [intOf]; omega
            · have HN32 := Lib.hid h32
              have h32i : ((T2.length : Int) == 32) = false := beq_eq_false_iff_ne.2 (by omega)
              have HOPEN := Lib.hid (ropen_any (HIN.out.sto.below HBW2.out (Nat.le_refl _)) x.tr HG.out)
              clear h32
              go_wp2_with fail
              refine HOPEN.out.mono ?_
              rintro e w4 ⟨p0, rfl, hp0, hrf, hrx, hfr4⟩
              have hz4 := hfr4.size
              have HFO := Lib.hid hrf
              have HX := Lib.hid hrx
              have HFR4 := Lib.hid hfr4
              have HSP : Hid (w4.heap[wr.heap.size]? = some (.cells #[.int .i64 x.tr, .int .i64 x.id, .int .i64 x.pa, .int .i64 x.st, .int .i64 x.en, .string x.nm] 38 (0, 0))) := Lib.hid ((hfr4.block _ (by omega) (fun hs => by
                rcases hs with hs | hs
                · have := HSL.out _ hs; omega
                · omega)).trans HSP.out)
              clear hrf hrx hfr4 hcx0
              have hsp := blk_cell HSP.out
              have hspl : wr.heap.size < w4.heap.size := by omega
              have hr3 : RdS (w4.alloc (.cells #[.int .i64 x.tr, .int .i64 x.id, .int .i64 x.pa, .int .i64 x.st, .int .i64 x.en, .string x.nm] 38)) (w4.heap.size + 1) (some ⟨w4.heap.size, 0, none⟩) 1 [x] := RdS.one rfl x 38 (0, 0)
              have HB3 : Hid (Below w4.heap.size w4 (w4.alloc (.cells #[.int .i64 x.tr, .int .i64 x.id, .int .i64 x.pa, .int .i64 x.st, .int .i64 x.en, .string x.nm] 38))) := Lib.hid ((Below.refl _ _).alloc (Nat.le_refl _) _)
              have HCALL := Lib.hid (radd_any (HFO.out.below HB3.out (Nat.le_refl _)) (some ⟨w4.heap.size, 0, none⟩) 1 1 (w4.heap.size + 1) [x] (by simp) (by omega) (by intro t ht; obtain rfl := List.mem_singleton.1 ht; exact hnm) hr3 (by
                intro _ j hj hs
                have := Option.some.inj hj
                have h2 := HFO.out.lt j hs
                simp only at this
                omega))
              clear hr3
              go_wp2_with fail
              refine HCALL.out.mono ?_
              rintro e w5 ⟨rfl, hf5, hfr5⟩
              have hz5 := hfr5.size
              simp at hz5
              have hmc : (addA x.tr [] [x]).2.1.sum ≤ 1 := by rw [addA_one (fits_own HXOK.out), addS_sum]; exact Nat.le_refl _
              have HSTEP := Lib.hid (ingS_new (c := c) HG.out HN32.out HXOK.out)
              have hX5 := (HX.out.below HB3.out (Nat.le_refl _)).fr hfr5 (fun k _ h2 => h2)
              have hg5 : GrT (ingS (T2, c) x).1 := HIN.out.sto.gr.ing c HXOK.out
              rw [HSTEP.out] at hg5
              dsimp only at hg5
              generalize addA x.tr [] [x] = aa at *
              have HI5 : Hid (RSIn w w5 x0 S (insT T2 ⟨x.tr, aa.1⟩, c)) := Lib.hid (HIN.out.added HSL.out hX5 (B0 := (w4.alloc (.cells #[.int .i64 x.tr, .int .i64 x.id, .int .i64 x.pa, .int .i64 x.st, .int .i64 x.en, .string x.nm] 38)).heap.size) (by have := hfr5.size; exact this) (fun k hk => by
                  rcases hk with hk | hk
                  · exact hk.imp id fun h => ⟨h.1, by simp; omega⟩
                  · have h1 := hk.1; have h2 := hk.2; exact .inr ⟨by omega, by simp; omega⟩) hf5 (by rw [setT_ins HG.out]; exact hg5) (setT_ins HG.out _ _) (fun k hk => hk.imp id fun h => h.1) (by simp; omega) (fun k hk => .inr (by have h1 : k = p0 := hk; omega)) ((((Fr.of_below HBW2.out).trans HFR4.out).trans (Fr.of_below HB3.out)).step hfr5 (fun k hk => .inr (by have h1 : k = p0 := hk; omega))))
              clear hX5 hg5 hf5
              obtain ⟨T5, m5, e5⟩ := aa
              dsimp only at *
              clear hfr5
              have hc10 : w5.cell? ⟨w.heap.size + 1, 0, none⟩ = some (.int .i64 c.ad) := blk_cell HI5.out.c1 0
              have hc11 : w5.cell? ⟨w.heap.size + 1, 1, none⟩ = some (.int .i64 c.sa) := blk_cell HI5.out.c1 1
              have hc12 : w5.cell? ⟨w.heap.size + 1, 2, none⟩ = some (.int .i64 c.ot) := blk_cell HI5.out.c1 2
              have hc13 : w5.cell? ⟨w.heap.size + 1, 3, none⟩ = some (.int .i64 c.cy) := blk_cell HI5.out.c1 3
              have hc14 : w5.cell? ⟨w.heap.size + 1, 4, none⟩ = some (.int .i64 c.fu) := blk_cell HI5.out.c1 4
              have hlt6 : w.heap.size + 1 < w5.heap.size := by have := HI5.out.sz; omega
              have HB6 : Hid (Below w5.heap.size w5 (w5.alloc (.cells #[.int .i64 m5.ad, .int .i64 m5.sa, .int .i64 m5.ot, .int .i64 m5.cy, .int .i64 m5.fu] 40))) := Lib.hid ((Below.refl _ _).alloc (Nat.le_refl _) _)
              have HCADD := Lib.hid (rsum_any c m5 (w5.alloc (.cells #[.int .i64 m5.ad, .int .i64 m5.sa, .int .i64 m5.ot, .int .i64 m5.cy, .int .i64 m5.fu] 40)) (by have := HCS.out; omega))
              go_wp2_with fail
              refine HCADD.out.mono ?_
              rintro e w7 ⟨rfl, hb7⟩
              have HI7 := Lib.hid (HI5.out.below (HB6.out.trans (hb7.mono (by simp))))
              clear hb7 hc10 hc11 hc12 hc13 hc14
              have hc10 : w7.cell? ⟨w.heap.size + 1, 0, none⟩ = some (.int .i64 c.ad) := blk_cell HI7.out.c1 0
              have hc11 : w7.cell? ⟨w.heap.size + 1, 1, none⟩ = some (.int .i64 c.sa) := blk_cell HI7.out.c1 1
              have hc12 : w7.cell? ⟨w.heap.size + 1, 2, none⟩ = some (.int .i64 c.ot) := blk_cell HI7.out.c1 2
              have hc13 : w7.cell? ⟨w.heap.size + 1, 3, none⟩ = some (.int .i64 c.cy) := blk_cell HI7.out.c1 3
              have hc14 : w7.cell? ⟨w.heap.size + 1, 4, none⟩ = some (.int .i64 c.fu) := blk_cell HI7.out.c1 4
              have hf1 := blk_frozen HI7.out.c1
              go_wp2_with fail
              go_roundw
              case rel =>
                refine ⟨k + 1, by omega, by go_num, ?_⟩
                rw [HST.out, HSTEP.out]
                have := HI7.out.put HSL.out (c.plus m5)
                exact this
              case measure => simp [intOf]; omega
          · have HG := Lib.hid hg
            have HFO := Lib.hid hrf
            have HX := Lib.hid hrx
            have HXS := Lib.hid hXS
            clear hg hrf hrx hXS
            have hsp := blk_cell HSP.out
            have hspl : wr.heap.size < w2.heap.size := by omega
            have hr3 : RdS (w2.alloc (.cells #[.int .i64 x.tr, .int .i64 x.id, .int .i64 x.pa, .int .i64 x.st, .int .i64 x.en, .string x.nm] 38)) (w2.heap.size + 1) (some ⟨w2.heap.size, 0, none⟩) 1 [x] := RdS.one rfl x 38 (0, 0)
            have HB3 : Hid (Below w2.heap.size w2 (w2.alloc (.cells #[.int .i64 x.tr, .int .i64 x.id, .int .i64 x.pa, .int .i64 x.st, .int .i64 x.en, .string x.nm] 38))) := Lib.hid ((Below.refl _ _).alloc (Nat.le_refl _) _)
            have HCALL := Lib.hid (radd_any (HFO.out.below HB3.out (Nat.le_refl _)) (some ⟨w2.heap.size, 0, none⟩) 1 1 (w2.heap.size + 1) [x] (by simp) (by omega) (by intro t ht; obtain rfl := List.mem_singleton.1 ht; exact hnm) hr3 (by
              intro _ j hj hs
              have := Option.some.inj hj
              have h2 := HFO.out.lt j hs
              simp only at this
              omega))
            clear hr3
            go_wp2_with fail
            refine HCALL.out.mono ?_
            rintro e w5 ⟨rfl, hf5, hfr5⟩
            have hz5 := hfr5.size
            simp at hz5
            have hmc : (addA x.tr L [x]).2.1.sum ≤ 1 := by rw [addA_one (fits_own HXOK.out), addS_sum]; exact Nat.le_refl _
            have HSTEP := Lib.hid (ingS_some (c := c) HG.out HXOK.out)
            have hX5 := (HX.out.below HB3.out (Nat.le_refl _)).fr hfr5 (fun k _ h2 => h2)
            have hg5 : GrT (ingS (T2, c) x).1 := HIN.out.sto.gr.ing c HXOK.out
            rw [HSTEP.out] at hg5
            dsimp only at hg5
            generalize addA x.tr L [x] = aa at *
            have HI5 : Hid (RSIn w w5 x0 S (setT T2 x.tr aa.1, c)) := Lib.hid (HIN.out.added HSL.out hX5 (B0 := (w2.alloc (.cells #[.int .i64 x.tr, .int .i64 x.id, .int .i64 x.pa, .int .i64 x.st, .int .i64 x.en, .string x.nm] 38)).heap.size) (by have := hfr5.size; exact this) (fun k hk => hk.imp id fun h => ⟨h.1, by simp; omega⟩) hf5 (hg5) (rfl) (fun k hk => hk.imp id fun h => h.1) (by simp; omega) (fun k hk => .inl (HXS.out k hk)) (((Fr.of_below HBW2.out).trans (Fr.of_below HB3.out)).trans (hfr5.mono (fun k hk => HXS.out k hk))))
            clear hX5 hg5 hf5
            obtain ⟨T5, m5, e5⟩ := aa
            dsimp only at *
            clear hfr5
            have hc10 : w5.cell? ⟨w.heap.size + 1, 0, none⟩ = some (.int .i64 c.ad) := blk_cell HI5.out.c1 0
            have hc11 : w5.cell? ⟨w.heap.size + 1, 1, none⟩ = some (.int .i64 c.sa) := blk_cell HI5.out.c1 1
            have hc12 : w5.cell? ⟨w.heap.size + 1, 2, none⟩ = some (.int .i64 c.ot) := blk_cell HI5.out.c1 2
            have hc13 : w5.cell? ⟨w.heap.size + 1, 3, none⟩ = some (.int .i64 c.cy) := blk_cell HI5.out.c1 3
            have hc14 : w5.cell? ⟨w.heap.size + 1, 4, none⟩ = some (.int .i64 c.fu) := blk_cell HI5.out.c1 4
            have hlt6 : w.heap.size + 1 < w5.heap.size := by have := HI5.out.sz; omega
            have HB6 : Hid (Below w5.heap.size w5 (w5.alloc (.cells #[.int .i64 m5.ad, .int .i64 m5.sa, .int .i64 m5.ot, .int .i64 m5.cy, .int .i64 m5.fu] 40))) := Lib.hid ((Below.refl _ _).alloc (Nat.le_refl _) _)
            have HCADD := Lib.hid (rsum_any c m5 (w5.alloc (.cells #[.int .i64 m5.ad, .int .i64 m5.sa, .int .i64 m5.ot, .int .i64 m5.cy, .int .i64 m5.fu] 40)) (by have := HCS.out; omega))
            go_wp2_with fail
            refine HCADD.out.mono ?_
            rintro e w7 ⟨rfl, hb7⟩
            have HI7 := Lib.hid (HI5.out.below (HB6.out.trans (hb7.mono (by simp))))
            clear hb7 hc10 hc11 hc12 hc13 hc14
            have hc10 : w7.cell? ⟨w.heap.size + 1, 0, none⟩ = some (.int .i64 c.ad) := blk_cell HI7.out.c1 0
            have hc11 : w7.cell? ⟨w.heap.size + 1, 1, none⟩ = some (.int .i64 c.sa) := blk_cell HI7.out.c1 1
            have hc12 : w7.cell? ⟨w.heap.size + 1, 2, none⟩ = some (.int .i64 c.ot) := blk_cell HI7.out.c1 2
            have hc13 : w7.cell? ⟨w.heap.size + 1, 3, none⟩ = some (.int .i64 c.cy) := blk_cell HI7.out.c1 3
            have hc14 : w7.cell? ⟨w.heap.size + 1, 4, none⟩ = some (.int .i64 c.fu) := blk_cell HI7.out.c1 4
            have hf1 := blk_frozen HI7.out.c1
            go_wp2_with fail
            go_roundw
            case rel =>
              refine ⟨k + 1, by omega, by go_num, ?_⟩
              rw [HST.out, HSTEP.out]
              have := HI7.out.put HSL.out (c.plus m5)
              exact this
            case measure => simp [intOf]; omega
        · have hkl : l.take k = l := List.take_of_length_le (by omega)
          have hk1 : ¬ (k : Int) < (l.length : Int) := by omega
          have hA : ingA T l = ((ingL (T, Cnt.zero) l).1, (ingL (T, Cnt.zero) l).2, 0) := by rw [ingA, if_pos HA2.out]
          rw [hkl] at HIN
          have HAA := Lib.hid hA
          clear hA hkl hsum
          generalize ingL (T, Cnt.zero) l = st at *
          obtain ⟨T2, c⟩ := st
          have hc10 : wr.cell? ⟨w.heap.size + 1, 0, none⟩ = some (.int .i64 c.ad) := blk_cell HIN.out.c1 0
          have hc11 : wr.cell? ⟨w.heap.size + 1, 1, none⟩ = some (.int .i64 c.sa) := blk_cell HIN.out.c1 1
          have hc12 : wr.cell? ⟨w.heap.size + 1, 2, none⟩ = some (.int .i64 c.ot) := blk_cell HIN.out.c1 2
          have hc13 : wr.cell? ⟨w.heap.size + 1, 3, none⟩ = some (.int .i64 c.cy) := blk_cell HIN.out.c1 3
          have hc14 : wr.cell? ⟨w.heap.size + 1, 4, none⟩ = some (.int .i64 c.fu) := blk_cell HIN.out.c1 4
          have hc00 : wr.cell? ⟨w.heap.size, 0, none⟩ = some (.int .i64 0) := blk_cell HIN.out.c0 0
          have hc01 : wr.cell? ⟨w.heap.size, 1, none⟩ = some (.int .i64 0) := blk_cell HIN.out.c0 1
          have hc02 : wr.cell? ⟨w.heap.size, 2, none⟩ = some (.int .i64 0) := blk_cell HIN.out.c0 2
          have hc03 : wr.cell? ⟨w.heap.size, 3, none⟩ = some (.int .i64 0) := blk_cell HIN.out.c0 3
          have hc04 : wr.cell? ⟨w.heap.size, 4, none⟩ = some (.int .i64 0) := blk_cell HIN.out.c0 4
          have hf0 := blk_frozen HIN.out.c0
          have hlt0 : w.heap.size < wr.heap.size := by omega
          go_wp2_with fail
          refine bodyPost_ret (v := .tuple #[c.val, .int .i64 0]) (by simp [results, Tryz.results13, go_sem, hc00, hc01, hc02, hc03, hc04]) rfl ?_
          rw [HAA.out]
          exact ⟨rfl, HIN.out.fin HSL.out (fr_sets _ _ (fun i => match i with | 0 => .int .i64 c.ad | 1 => .int .i64 c.sa | 2 => .int .i64 c.ot | 3 => .int .i64 c.cy | 4 => .int .i64 c.fu))⟩
end Go.Proofs.YtdjcifeoplgkpaaGreat
