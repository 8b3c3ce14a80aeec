/-
  On the way through a store's Ingest: what keeps what is there; two counts together. Conditions: the store lies in memory as New made it, the spans read as a list.
  The walk of a store's Ingest: what came of the spans, and the store behind it. Conditions: the store lies in memory as New made it, the spans read as a list.
-/
import Derived.Test.YtempkjnaahgbhaaGreatDoorStoreA
import Derived.Test.YtempkjnaahgbhaaGreatDoorSched
import Derived.Test.YtempkjnaahgbhaaGreatDoorForest2
namespace Go.Proofs.YtempkjnaahgbhaaGreatDoor
open Go Go.RowKit Go.Maps

/-- What Ingest leaves. -/
def ResIng (w : World) (s m : Nat) (S : Nat → Prop) (r : List Tr × Cnt × Int) (e : Ending) (w' : World) : Prop :=
  e = .returned (.tuple #[r.2.1.val, .int .i64 r.2.2]) ∧ St w' s m r.1 (fun k => S k ∨ (w.heap.size ≤ k ∧ k < w'.heap.size)) ∧ Fr S w w'

theorem wrap_sum (x y n : Nat) (h : x + y ≤ n) (hn : n ≤ 1000000000) : wrap64 ((x : Int) + y) = (x : Int) + y := IntWalk.wrap64_in _ (by omega)
theorem wrap_one (x n : Nat) (h : x ≤ n) (hn : n ≤ 1000000000) : wrap64 ((x : Int) + 1) = (x : Int) + 1 := IntWalk.wrap64_in _ (by omega)

set_option maxRecDepth 100000 in
set_option maxHeartbeats 1000000 in
theorem cadd_any (a b : Cnt) (w : World) (h : a.sum + b.sum ≤ 2000000) :
    Calls Tryz.prog 168 #[a.val, b.val] w fun e w' => e = .returned (a.plus b).val ∧ Below w.heap.size w w' := by
  simp only [Cnt.sum] at h
  have e1 : a.ad + b.ad ≤ 2000000 := by omega
  have e2 : a.sa + b.sa ≤ 2000000 := by omega
  have e3 : a.ot + b.ot ≤ 2000000 := by omega
  have e4 : a.cy + b.cy ≤ 2000000 := by omega
  have e5 : a.fu + b.fu ≤ 2000000 := by omega
  have h1 := wrap_sum _ _ _ e1 (by decide)
  have h2 := wrap_sum _ _ _ e2 (by decide)
  have h3 := wrap_sum _ _ _ e3 (by decide)
  have h4 := wrap_sum _ _ _ e4 (by decide)
  have h5 := wrap_sum _ _ _ e5 (by decide)
  clear h e1 e2 e3 e4 e5
  go_enter Tryz.func168, Tryz.ntmps168
  go_wp2_with fail
  refine bodyPost_ret (v := (a.plus b).val) (by simp [results, Tryz.results168, go_sem, Cnt.plus]) rfl ?_
  refine ⟨rfl, ?_⟩
  exact (((Below.refl _ _).alloc (Nat.le_refl _) _).alloc (by simp) _).alloc (by simp <;> omega) _

/-- On the way through Ingest. -/
structure SIn (w wr : World) (s m : Nat) (S : Nat → Prop) (st : List Tr × Cnt) : Prop where
  sto : St wr s m st.1 (fun k => S k ∨ (w.heap.size + 2 ≤ k ∧ k < wr.heap.size))
  fr : Fr S w wr
  c0 : wr.heap[w.heap.size]? = some (.cells Cnt.zero.cells 54 (0, 0))
  c1 : wr.heap[w.heap.size + 1]? = some (.cells st.2.cells 54 (0, 0))
  sz : w.heap.size + 2 ≤ wr.heap.size
section
variable {w wr w1 : World} {s m : Nat} {S : Nat → Prop} {st : List Tr × Cnt}
theorem SIn.below (h : SIn w wr s m S st) (hb : Below wr.heap.size wr w1) : SIn w w1 s m S st :=
  have hs := h.sz
  have hz := hb.size
  ⟨(h.sto.below hb (Nat.le_refl _)).mono (fun k hk => hk.imp id fun ⟨h1, h2⟩ => ⟨h1, by omega⟩) (fun k hk => by
      rcases hk with hk | ⟨_, hk⟩
      · have := h.sto.lt k (.inl hk); omega
      · exact hk),
    h.fr.trans (Fr.of_below hb), (hb.block _ (by omega)).trans h.c0, (hb.block _ (by omega)).trans h.c1, by omega⟩
theorem SIn.sets (h : SIn w wr s m S st) (hS : ∀ k, S k → k < w.heap.size) (hf : Fr (fun k => k = w.heap.size + 1) wr w1) (hz : w1.heap.size = wr.heap.size) (c' : Cnt) (hc : w1.heap[w.heap.size + 1]? = some (.cells c'.cells 54 (0, 0))) : SIn w w1 s m S (st.1, c') := by
  have hs := h.sz
  refine ⟨?_, h.fr.step hf (fun j hj => .inr (by omega)), (hf.block _ (by omega) (by omega)).trans h.c0, hc, by omega⟩
  have := h.sto.fr hf (fun k hk he => by
    rcases hk with hk | ⟨hk, _⟩
    · have := hS k hk; omega
    · omega)
  rw [hz]; exact this
theorem SIn.bump (h : SIn w wr s m S st) (hS : ∀ k, S k → k < w.heap.size) (i : Nat) (v : Value) (c' : Cnt) (hc : st.2.cells.setIfInBounds i v = c'.cells) : SIn w (wr.setCell ⟨w.heap.size + 1, i, none⟩ v) s m S (st.1, c') :=
  h.sets hS (Fr.setCell (S := fun k => k = w.heap.size + 1) (Fr.refl _ _) rfl v) (by simp [World.setCell]) c' (by rw [← hc]; exact blk_set h.c1 i v)
theorem SIn.put (h : SIn w wr s m S st) (hS : ∀ k, S k → k < w.heap.size) (c' : Cnt) : SIn w (((((wr.setCell ⟨w.heap.size + 1, 0, none⟩ (.int .i64 c'.ad)).setCell ⟨w.heap.size + 1, 1, none⟩ (.int .i64 c'.sa)).setCell ⟨w.heap.size + 1, 2, none⟩ (.int .i64 c'.ot)).setCell ⟨w.heap.size + 1, 3, none⟩ (.int .i64 c'.cy)).setCell ⟨w.heap.size + 1, 4, none⟩ (.int .i64 c'.fu)) s m S (st.1, c') :=
  h.sets hS (fr_sets _ _ (fun i => match i with | 0 => .int .i64 c'.ad | 1 => .int .i64 c'.sa | 2 => .int .i64 c'.ot | 3 => .int .i64 c'.cy | 4 => .int .i64 c'.fu)) (by simp [World.setCell]) c' (by
    have := blk_set (blk_set (blk_set (blk_set (blk_set h.c1 0 (.int .i64 c'.ad)) 1 (.int .i64 c'.sa)) 2 (.int .i64 c'.ot)) 3 (.int .i64 c'.cy)) 4 (.int .i64 c'.fu)
    simpa [Cnt.cells] using this)
theorem SIn.fin (h : SIn w wr s m S st) (hS : ∀ k, S k → k < w.heap.size) {w1 : World} (hf : Fr (fun k => k = w.heap.size) wr w1) :
    St w1 s m st.1 (fun k => S k ∨ (w.heap.size ≤ k ∧ k < w1.heap.size)) ∧ Fr S w w1 := by
  have hs := h.sz
  have hz := hf.size
  refine ⟨(h.sto.fr hf (fun k hk he => ?_)).mono (fun k hk => ?_) (fun k hk => ?_), h.fr.step hf (fun j hj => .inr (by omega))⟩
  · rcases hk with hk | ⟨hk, _⟩
    · have := hS k hk; omega
    · omega
  · rcases hk with hk | ⟨h1, h2⟩
    · exact .inl hk
    · exact .inr ⟨by omega, by omega⟩
  · rcases hk with hk | ⟨_, hk⟩
    · have := hS k hk; omega
    · exact hk
/-- The forest of one trace has taken a span: the store behind it. -/
theorem SIn.added (h : SIn w wr s m S st) (hS : ∀ k, S k → k < w.heap.size) {w5 : World} {T2 : List Tr} {x : Int} {p0 a0 d0 B0 : Nat} {L : List Sp} {SX S5 : Nat → Prop} {T5 : List Tr} (hX : StX w5 s m T2 S5 x p0 SX) (hS5 : ∀ k, S5 k → S k ∨ (w.heap.size + 2 ≤ k ∧ k < wr.heap.size))
    {SX2 : Nat → Prop} (hf : Fo w5 p0 a0 d0 x L SX2) (hg : GrT (setT T2 x L)) (he : setT T2 x L = T5) (h2 : ∀ k, SX2 k → SX k ∨ B0 ≤ k) (hB0 : wr.heap.size ≤ B0) (hXS : ∀ k, SX k → S5 k ∨ wr.heap.size ≤ k) (hfr : Fr (fun k => S k ∨ (w.heap.size + 2 ≤ k ∧ k < wr.heap.size)) wr w5) : SIn w w5 s m S (T5, st.2) := by
  subst he
  have hs := h.sz
  have hz := hfr.size
  have hn : ∀ j, j < w.heap.size + 2 → w.heap.size ≤ j → ¬ (S j ∨ (w.heap.size + 2 ≤ j ∧ j < wr.heap.size)) := fun j h1 h2 hk => by
    rcases hk with hk | ⟨hk, _⟩
    · have := hS j hk; omega
    · omega
  refine ⟨hX.close hf hg h2 (fun k hk => ?_) (fun k hk => ?_) (fun k hk => ?_) (fun k hk => ?_), h.fr.step hfr (fun j hj => hj.imp id fun h3 => by omega), (hfr.block _ (by omega) (hn _ (by omega) (by omega))).trans h.c0, (hfr.block _ (by omega) (hn _ (by omega) (by omega))).trans h.c1, by omega⟩
  · rcases hS5 k hk with hk | hk
    · have := hS k hk; omega
    · omega
  · rcases hS5 k hk with hk | hk
    · exact .inl hk
    · exact .inr ⟨hk.1, by omega⟩
  · rcases h2 k hk with hk2 | hk2
    · rcases hXS k hk2 with h3 | h3
      · rcases hS5 k h3 with h3 | h3
        · exact .inl h3
        · exact .inr ⟨h3.1, by omega⟩
      · exact .inr ⟨by omega, hf.lt k hk⟩
    · exact .inr ⟨by omega, hf.lt k hk⟩
  · rcases hk with hk | ⟨_, hk⟩
    · have := hS k hk; omega
    · exact hk
end
theorem ing_facts {wr : World} {s m : Nat} {T : List Tr} {S : Nat → Prop} (h : St wr s m T S) (x : Sp) (W : World) (hW : Below (wr.heap.size + 1) (wr.alloc (.cells #[.int .i64 x.tr, .int .i64 x.id, .int .i64 x.pa, .int .i64 x.st, .int .i64 x.en, .string x.nm] 30)) W) :
    (∀ j, W.cell? ⟨s, j, none⟩ = (#[.map (some m)] : Array Value)[j]?) ∧ (∀ j, W.cell? ⟨wr.heap.size, j, none⟩ = (#[.int .i64 x.tr, .int .i64 x.id, .int .i64 x.pa, .int .i64 x.st, .int .i64 x.en, .string x.nm] : Array Value)[j]?) ∧ W.heap[m]? = wr.heap[m]? := by
  have hb : Below wr.heap.size wr W := ((Below.refl _ _).alloc (Nat.le_refl _) _).trans (hW.mono (by omega))
  exact ⟨blk_cell (h.below hb (Nat.le_refl _)).hp, blk_cell (blk_below hW (by omega) (heap_alloc_new wr _)), hb.block m (h.lt m h.sm)⟩
theorem ingS_some {T : List Tr} {c : Cnt} {x : Sp} {L : List Sp} (h : getT T x.tr = some L) (hx : x.ok = true) : ingS (T, c) x = (setT T x.tr (addA x.tr L [x]).1, c.plus (addA x.tr L [x]).2.1) := by
  simp only [ingS, h, addA_one (fits_own hx)]
theorem ingS_full {T : List Tr} {c : Cnt} {x : Sp} (h : getT T x.tr = none) (h32 : 32 ≤ T.length) : ingS (T, c) x = (T, { c with fu := c.fu + 1 }) := by
  simp only [ingS, h, if_pos h32]
theorem ingS_new {T : List Tr} {c : Cnt} {x : Sp} (h : getT T x.tr = none) (h32 : ¬ 32 ≤ T.length) (hx : x.ok = true) : ingS (T, c) x = (insT T ⟨x.tr, (addA x.tr [] [x]).1⟩, c.plus (addA x.tr [] [x]).2.1) := by
  simp only [ingS, h, if_neg h32, addA_one (fits_own hx)]

end Go.Proofs.YtempkjnaahgbhaaGreatDoor
namespace Go.Proofs.YtempkjnaahgbhaaGreatDoor
open Go Go.RowKit Go.Maps

set_option maxRecDepth 100000 in
set_option maxHeartbeats 4000000 in
theorem ingest_any {w : World} {s m : Nat} {T : List Tr} {S : Nat → Prop} (h : St w s m T S) (A : Option Addr) (n cap B : Nat) (l : List Sp) (hB : B ≤ w.heap.size) (hbig : n ≤ 1000000) (hnm : ∀ s ∈ l, s.nm.size ≤ 140737488355328) (hr : RdS w B A n l) (hS : 0 < n → ∀ k, A.map (·.block) = some k → ¬ S k) :
    Calls Tryz.prog 140 #[.pointer (some ⟨s, 0, none⟩), .slice A n cap] w (ResIng w s m S (ingA T l)) := by
  have hlen := hr.len
  subst hlen
  have HR := Lib.hid hr
  have HNM := Lib.hid hnm
  have hSlt := h.lt
  have HSL : Hid (∀ k, S k → k < w.heap.size) := Lib.hid hSlt
  have HNS := Lib.hid hS
  have hz2 : ((w.alloc (.cells Cnt.zero.cells 54)).alloc (.cells Cnt.zero.cells 54)).heap.size = w.heap.size + 2 := by simp
  have hI : SIn w ((w.alloc (.cells Cnt.zero.cells 54)).alloc (.cells Cnt.zero.cells 54)) s m S (T, Cnt.zero) := by
    have hb : Below w.heap.size w ((w.alloc (.cells Cnt.zero.cells 54)).alloc (.cells Cnt.zero.cells 54)) := ((Below.refl _ _).alloc (Nat.le_refl _) _).alloc (by simp) _
    refine ⟨(h.below hb (Nat.le_refl _)).mono (fun k hk => .inl hk) (fun k hk => ?_), Fr.of_below hb, ?_, ?_, by rw [hz2]; exact Nat.le_refl _⟩
    · rw [hz2] at hk ⊢
      rcases hk with hk | hk
      · have := hSlt k hk; omega
      · omega
    · exact blk_below ((Below.refl (w.heap.size + 1) _).alloc (by simp) _) (by omega) (heap_alloc_new w _)
    · have := heap_alloc_new (w.alloc (.cells Cnt.zero.cells 54)) (.cells Cnt.zero.cells 54)
      rw [World.size_alloc] at this
      exact this
  have HI := Lib.hid hI
  clear hr h hnm hSlt hS hz2 hI
  go_enter Tryz.func140, Tryz.ntmps140
  go_wp2_with fail
  refine (smade_any HI.out.sto).mono ?_
  rintro e w1 ⟨rfl, rfl⟩
  go_wp2_with fail
  go_loopw [21] (fun i wr => ∃ (k : Nat), k ≤ l.length ∧ i = .int .i64 k ∧ (l.take k).all Sp.ok = true ∧ SIn w wr s m S (T, Cnt.zero)) (fun i _ => l.length - (intOf i).toNat)
  case atStart => exact ⟨0, by omega, rfl, rfl, HI.out⟩
  case round =>
    obtain ⟨k, hk, rfl, hall, hin⟩ := hrel
    have HIN := Lib.hid hin
    have HALL := Lib.hid hall
    have hsz := hin.sz
    clear hin hall
    by_cases hlt : k < l.length
    · obtain ⟨b1, o1, rfl, hb1, x0, x1, x2, x3, x4, x5⟩ := RdS.at_ (Fr.rdN HR.out HIN.out.fr hB HNS.out) hlt
      have hk1 : (k : Int) < (l.length : Int) := by omega
      have hnm := HNM.out _ (List.getElem_mem hlt)
      have HTK := Lib.hid (all_take_succ l Sp.ok k hlt)
      have HBAD := Lib.hid (all_false_of l Sp.ok k hlt)
      generalize l[k] = x at *
      have HB0 : Hid (Below wr.heap.size wr (wr.alloc (.cells #[.int .i64 x.tr, .int .i64 x.id, .int .i64 x.pa, .int .i64 x.st, .int .i64 x.en, .string x.nm] 30))) := Lib.hid ((Below.refl _ _).alloc (Nat.le_refl _) _)
      go_wp2_with fail
      refine (check_any x _ hnm).mono ?_
      rintro e v1 ⟨rfl, hbc⟩
      have hbw : Below wr.heap.size wr v1 := HB0.out.trans (hbc.mono (by simp))
      have HI2 := Lib.hid (HIN.out.below hbw)
      have hzv := hbw.size
      clear hbc hbw
      cases hok : x.ok
      · have HC : Hid (x.check = 30) := Lib.hid (Sp.check_f hok)
        have HA : Hid (l.all Sp.ok = false) := Lib.hid (HBAD.out hok)
        clear hok
        rw [HC.out]
        have hc00 : v1.cell? ⟨w.heap.size, 0, none⟩ = some (.int .i64 0) := blk_cell HI2.out.c0 0
        have hc01 : v1.cell? ⟨w.heap.size, 1, none⟩ = some (.int .i64 0) := blk_cell HI2.out.c0 1
        have hc02 : v1.cell? ⟨w.heap.size, 2, none⟩ = some (.int .i64 0) := blk_cell HI2.out.c0 2
        have hc03 : v1.cell? ⟨w.heap.size, 3, none⟩ = some (.int .i64 0) := blk_cell HI2.out.c0 3
        have hc04 : v1.cell? ⟨w.heap.size, 4, none⟩ = some (.int .i64 0) := blk_cell HI2.out.c0 4
        have hc10 : v1.cell? ⟨w.heap.size + 1, 0, none⟩ = some (.int .i64 0) := blk_cell HI2.out.c1 0
        have hc11 : v1.cell? ⟨w.heap.size + 1, 1, none⟩ = some (.int .i64 0) := blk_cell HI2.out.c1 1
        have hc12 : v1.cell? ⟨w.heap.size + 1, 2, none⟩ = some (.int .i64 0) := blk_cell HI2.out.c1 2
        have hc13 : v1.cell? ⟨w.heap.size + 1, 3, none⟩ = some (.int .i64 0) := blk_cell HI2.out.c1 3
        have hc14 : v1.cell? ⟨w.heap.size + 1, 4, none⟩ = some (.int .i64 0) := blk_cell HI2.out.c1 4
        have hf0 := blk_frozen HI2.out.c0
        go_wp2_with fail
        refine bodyPost_ret (v := .tuple #[Cnt.zero.val, .int .i64 30]) (by simp [results, Tryz.results140, go_sem, hc00, hc01, hc02, hc03, hc04, Cnt.zero]) rfl ?_
        have hA : ingA T l = (T, Cnt.zero, 30) := by rw [ingA, if_neg (by rw [HA.out]; exact Bool.false_ne_true)]
        rw [hA]
        exact ⟨rfl, HI2.out.fin HSL.out (fr_sets _ _ (fun _ => .int .i64 0))⟩
      · have HC : Hid (x.check = 0) := Lib.hid (Sp.check_t hok)
        have HOK := Lib.hid hok
        clear hok
        rw [HC.out]
        go_wp2_with fail
        go_roundw
        case rel => exact ⟨k + 1, by omega, by go_num, by rw [HTK.out, HALL.out, HOK.out]; rfl, HI2.out⟩
        case measure => simp [intOf]; omega
    · have hall2 := HALL.out
      rw [List.take_of_length_le (by omega)] at hall2
      have HA2 := Lib.hid hall2
      have hk1 : ¬ (k : Int) < (l.length : Int) := by omega
      clear hall2
      go_wp2_with fail
      go_loopw [34] (fun i wr => ∃ (k : Nat), k ≤ l.length ∧ i = .int .i64 k ∧ SIn w wr s m S (ingL (T, Cnt.zero) (l.take k))) (fun i _ => l.length - (intOf i).toNat)
      case atStart => exact ⟨0, by omega, rfl, HIN.out⟩
      case round =>
        obtain ⟨k, hk, rfl, hin⟩ := hrel
        have HIN := Lib.hid hin
        have hsz := hin.sz
        clear hin
        have hsum := ingL_sum (T, Cnt.zero) (l.take k)
        by_cases hlt : k < l.length
        · obtain ⟨b1, o1, rfl, hb1, x0, x1, x2, x3, x4, x5⟩ := RdS.at_ (Fr.rdN HR.out HIN.out.fr hB HNS.out) hlt
          have hk1 : (k : Int) < (l.length : Int) := by omega
          have hxok := List.all_eq_true.1 HA2.out _ (List.getElem_mem hlt)
          have hnm := HNM.out _ (List.getElem_mem hlt)
          have HST := Lib.hid (show ingL (T, Cnt.zero) (l.take (k + 1)) = ingS (ingL (T, Cnt.zero) (l.take k)) l[k] by rw [List.take_succ_eq_append_getElem hlt, ingL_snoc])
          rw [List.length_take, Nat.min_eq_left hk] at hsum
          generalize l[k] = x at *
          generalize ingL (T, Cnt.zero) (l.take k) = st at *
          obtain ⟨T2, c⟩ := st
          have hcs : c.sum = k := by simpa [Cnt.sum, Cnt.zero] using hsum
          have HCS := Lib.hid hcs
          have HXOK := Lib.hid hxok
          have htb := ok_more hxok
          have hwf : wfI x.tr := wfI_of (by omega) (by omega)
          have hT32 := HIN.out.sto.gr.len
          dsimp only at hT32
          have hsl := HIN.out.sto.lt s HIN.out.sto.ss
          have hml := HIN.out.sto.lt m HIN.out.sto.sm
          have HF := Lib.hid (ing_facts HIN.out.sto x)
          have HB0 : Hid (Below wr.heap.size wr (wr.alloc (.cells #[.int .i64 x.tr, .int .i64 x.id, .int .i64 x.pa, .int .i64 x.st, .int .i64 x.en, .string x.nm] 30))) := Lib.hid ((Below.refl _ _).alloc (Nat.le_refl _) _)
          clear hsum hcs hxok
          go_wp2_with fail
          cases hg : getT T2 x.tr with
          | some L =>
            obtain ⟨p0, a0, d0, SX, hlk, hfo, hX, hXS⟩ := HIN.out.sto.take hwf hg
            have HLK : Hid (∀ W, Below (wr.heap.size + 1) (wr.alloc (.cells #[.int .i64 x.tr, .int .i64 x.id, .int .i64 x.pa, .int .i64 x.st, .int .i64 x.en, .string x.nm] 30)) W → (Instr.lookup 176 (.map (some m)) (.int .i64 x.tr) false).run Tryz.prog W = .ok (.pointer (some ⟨p0, 0, none⟩)) W) := Lib.hid (fun W hW => hlk W (HF.out W hW).2.2)
            have HG := Lib.hid hg
            have HFO := Lib.hid hfo
            have HX := Lib.hid hX
            have HXS := Lib.hid hXS
            clear hg hlk hfo hX hXS
            refine wp_region_sched [(0, true), (1, true), (2, true), (3, true), (4, true), (5, true), (6, true), (7, true)] (fun W => Below (wr.heap.size + 1) (wr.alloc (.cells #[.int .i64 x.tr, .int .i64 x.id, .int .i64 x.pa, .int .i64 x.st, .int .i64 x.en, .string x.nm] 30)) W) (by kernel_rfl) (by kernel_rfl) rfl (by kernel_rfl) ((Below.refl _ _).drew) ?_
            repeat (first | (apply sched_take rfl; (focus (first | rfl | (go_simp; done))); (focus (intro W hW; obtain ⟨f1, f2, _⟩ := HF.out W hW; have f3 := HLK.out W hW; go_simp; rfl)); (focus (intro K hK; go_simp; refine hK _ ?_; clear hK K))) | (apply sched_skip rfl; (focus (first | rfl | (go_simp; done))); (focus (intro K hK; go_simp; refine hK _ ?_; clear hK K))))
            refine sched_nil ?_
            have hbq : Below (wr.heap.size + 1) (wr.alloc (.cells #[.int .i64 x.tr, .int .i64 x.id, .int .i64 x.pa, .int .i64 x.st, .int .i64 x.en, .string x.nm] 30)) (wr.alloc (.cells #[.int .i64 x.tr, .int .i64 x.id, .int .i64 x.pa, .int .i64 x.st, .int .i64 x.en, .string x.nm] 30)).drew := (Below.refl _ _).drew
            have HBQ := Lib.hid hbq
            have HBW2 : Hid (Below wr.heap.size wr (wr.alloc (.cells #[.int .i64 x.tr, .int .i64 x.id, .int .i64 x.pa, .int .i64 x.st, .int .i64 x.en, .string x.nm] 30)).drew) := Lib.hid (HB0.out.drew)
            have hzq : (wr.alloc (.cells #[.int .i64 x.tr, .int .i64 x.id, .int .i64 x.pa, .int .i64 x.st, .int .i64 x.en, .string x.nm] 30)).drew.heap.size = wr.heap.size + 1 := by simp [World.drew, -World.drew_eq]
            generalize (wr.alloc (.cells #[.int .i64 x.tr, .int .i64 x.id, .int .i64 x.pa, .int .i64 x.st, .int .i64 x.en, .string x.nm] 30)).drew = w2 at *
            have hzq1 := Nat.le_of_eq hzq
            have hw2 := Nat.le_of_eq hzq.symm
            clear hzq
            clear hbq
            have HFO2 := Lib.hid (HFO.out.below HBW2.out (Nat.le_refl _))
            have HX2 := Lib.hid (HX.out.below HBW2.out (Nat.le_refl _))
            have HFR2 : Hid (Fr (fun k => S k ∨ (w.heap.size + 2 ≤ k ∧ k < wr.heap.size)) wr w2) := Lib.hid (Fr.of_below HBW2.out)
            have HXC : Hid (w2.heap[wr.heap.size]? = some (.cells #[.int .i64 x.tr, .int .i64 x.id, .int .i64 x.pa, .int .i64 x.st, .int .i64 x.en, .string x.nm] 30 (0, 0))) := Lib.hid (blk_below HBQ.out (by omega) (heap_alloc_new wr _))
            have hin2 := HIN.out.below HBW2.out
            have HIN2 := Lib.hid hin2
            clear hin2
            have HSXn : Hid (∀ k, SX k → k < wr.heap.size) := Lib.hid (fun k hk => by
              have := HFO.out.lt k hk; omega)
            have hxc2 := blk_cell HXC.out
            have hlx2 : wr.heap.size < w2.heap.size := by omega
            have hr3 : RdS (w2.alloc (.cells #[.int .i64 x.tr, .int .i64 x.id, .int .i64 x.pa, .int .i64 x.st, .int .i64 x.en, .string x.nm] 30)) (w2.heap.size + 1) (some ⟨w2.heap.size, 0, none⟩) 1 [x] := RdS.one rfl x 30 (0, 0)
            have HB3 : Hid (Below w2.heap.size w2 (w2.alloc (.cells #[.int .i64 x.tr, .int .i64 x.id, .int .i64 x.pa, .int .i64 x.st, .int .i64 x.en, .string x.nm] 30))) := Lib.hid ((Below.refl _ _).alloc (Nat.le_refl _) _)
            have HCALL := Lib.hid (add_any (HFO2.out.below HB3.out (Nat.le_refl _)) (some ⟨w2.heap.size, 0, none⟩) 1 1 (w2.heap.size + 1) [x] (by simp) (by omega) (by intro t ht; obtain rfl := List.mem_singleton.1 ht; exact hnm) hr3 (by
              intro j hj hs
              have := Option.some.inj hj
              have h2 := HFO2.out.lt j hs
              simp only at this
              omega))
            clear hr3
            go_wp2_with fail
            refine HCALL.out.mono ?_
            rintro e w5 ⟨rfl, hf5, hfr5⟩
            have hz5 := hfr5.size
            simp at hz5
            have hmc : (addA x.tr L [x]).2.1.sum ≤ 1 := by rw [addA_one (fits_own HXOK.out), addS_sum]; exact Nat.le_refl _
            have HSTEP := Lib.hid (ingS_some (c := c) HG.out HXOK.out)
            have hX5 := (HX2.out.below HB3.out (Nat.le_refl _)).fr hfr5 (fun k _ h2 => h2)
            have hg5 : GrT (ingS (T2, c) x).1 := HIN.out.sto.gr.ing c HXOK.out
            rw [HSTEP.out] at hg5
            generalize addA x.tr L [x] = aa at *
            have HI5 : Hid (SIn w w5 s m S (setT T2 x.tr aa.1, c)) := Lib.hid (HIN.out.added HSL.out hX5 (fun k hk => hk) hf5 hg5 rfl (B0 := (w2.alloc (.cells #[.int .i64 x.tr, .int .i64 x.id, .int .i64 x.pa, .int .i64 x.st, .int .i64 x.en, .string x.nm] 30)).heap.size) (fun k hk => hk.imp id fun h => h.1) (by simp; omega) (fun k hk => .inl (HXS.out k hk)) ((HFR2.out.trans (Fr.of_below HB3.out)).trans (hfr5.mono (fun k hk => HXS.out k hk))))
            clear hX5 hg5 hf5
            obtain ⟨T5, m5, e5⟩ := aa
            dsimp only at *
            clear hfr5
            have hc10 : w5.cell? ⟨w.heap.size + 1, 0, none⟩ = some (.int .i64 c.ad) := blk_cell HI5.out.c1 0
            have hc11 : w5.cell? ⟨w.heap.size + 1, 1, none⟩ = some (.int .i64 c.sa) := blk_cell HI5.out.c1 1
            have hc12 : w5.cell? ⟨w.heap.size + 1, 2, none⟩ = some (.int .i64 c.ot) := blk_cell HI5.out.c1 2
            have hc13 : w5.cell? ⟨w.heap.size + 1, 3, none⟩ = some (.int .i64 c.cy) := blk_cell HI5.out.c1 3
            have hc14 : w5.cell? ⟨w.heap.size + 1, 4, none⟩ = some (.int .i64 c.fu) := blk_cell HI5.out.c1 4
            have hlt6 : w.heap.size + 1 < w5.heap.size := by have := HI5.out.sz; omega
            have HB6 : Hid (Below w5.heap.size w5 (w5.alloc (.cells #[.int .i64 m5.ad, .int .i64 m5.sa, .int .i64 m5.ot, .int .i64 m5.cy, .int .i64 m5.fu] 54))) := Lib.hid ((Below.refl _ _).alloc (Nat.le_refl _) _)
            have HCADD := Lib.hid (cadd_any c m5 (w5.alloc (.cells #[.int .i64 m5.ad, .int .i64 m5.sa, .int .i64 m5.ot, .int .i64 m5.cy, .int .i64 m5.fu] 54)) (by have := HCS.out; omega))
            go_wp2_with fail
            refine HCADD.out.mono ?_
            rintro e w7 ⟨rfl, hb7⟩
            have HI7 := Lib.hid (HI5.out.below (HB6.out.trans (hb7.mono (by simp))))
            clear hb7 hc10 hc11 hc12 hc13 hc14
            have hc10 : w7.cell? ⟨w.heap.size + 1, 0, none⟩ = some (.int .i64 c.ad) := blk_cell HI7.out.c1 0
            have hc11 : w7.cell? ⟨w.heap.size + 1, 1, none⟩ = some (.int .i64 c.sa) := blk_cell HI7.out.c1 1
            have hc12 : w7.cell? ⟨w.heap.size + 1, 2, none⟩ = some (.int .i64 c.ot) := blk_cell HI7.out.c1 2
            have hc13 : w7.cell? ⟨w.heap.size + 1, 3, none⟩ = some (.int .i64 c.cy) := blk_cell HI7.out.c1 3
            have hc14 : w7.cell? ⟨w.heap.size + 1, 4, none⟩ = some (.int .i64 c.fu) := blk_cell HI7.out.c1 4
            have hf1 := blk_frozen HI7.out.c1
            go_wp2_with fail
            go_roundw
            case rel =>
              refine ⟨k + 1, by omega, by go_num, ?_⟩
              rw [HST.out, HSTEP.out]
              have := HI7.out.put HSL.out (c.plus m5)
              exact this
            case measure => simp [intOf]; omega
          | none =>
            obtain ⟨v, hlk, hone⟩ := HIN.out.sto.look hwf
            have hv : v = .pointer none := by unfold OneOf at hone; rw [hg] at hone; exact hone
            subst hv
            have HLK : Hid (∀ W, Below (wr.heap.size + 1) (wr.alloc (.cells #[.int .i64 x.tr, .int .i64 x.id, .int .i64 x.pa, .int .i64 x.st, .int .i64 x.en, .string x.nm] 30)) W → (Instr.lookup 176 (.map (some m)) (.int .i64 x.tr) false).run Tryz.prog W = .ok (.pointer none) W) := Lib.hid (fun W hW => hlk W (HF.out W hW).2.2)
            have HG := Lib.hid hg
            clear hg hlk hone
            refine wp_region_sched [(0, true), (1, true), (2, true), (3, true), (4, true), (5, true), (6, true), (7, true)] (fun W => Below (wr.heap.size + 1) (wr.alloc (.cells #[.int .i64 x.tr, .int .i64 x.id, .int .i64 x.pa, .int .i64 x.st, .int .i64 x.en, .string x.nm] 30)) W) (by kernel_rfl) (by kernel_rfl) rfl (by kernel_rfl) ((Below.refl _ _).drew) ?_
            repeat (first | (apply sched_take rfl; (focus (first | rfl | (go_simp; done))); (focus (intro W hW; obtain ⟨f1, f2, _⟩ := HF.out W hW; have f3 := HLK.out W hW; go_simp; rfl)); (focus (intro K hK; go_simp; refine hK _ ?_; clear hK K))) | (apply sched_skip rfl; (focus (first | rfl | (go_simp; done))); (focus (intro K hK; go_simp; refine hK _ ?_; clear hK K))))
            refine sched_nil ?_
            have HBQ1 : Hid (Below (wr.heap.size + 1) (wr.alloc (.cells #[.int .i64 x.tr, .int .i64 x.id, .int .i64 x.pa, .int .i64 x.st, .int .i64 x.en, .string x.nm] 30)) (wr.alloc (.cells #[.int .i64 x.tr, .int .i64 x.id, .int .i64 x.pa, .int .i64 x.st, .int .i64 x.en, .string x.nm] 30)).drew) := Lib.hid ((Below.refl _ _).drew)
            have HBW1 : Hid (Below wr.heap.size wr (wr.alloc (.cells #[.int .i64 x.tr, .int .i64 x.id, .int .i64 x.pa, .int .i64 x.st, .int .i64 x.en, .string x.nm] 30)).drew) := Lib.hid (HB0.out.drew)
            have hzq : (wr.alloc (.cells #[.int .i64 x.tr, .int .i64 x.id, .int .i64 x.pa, .int .i64 x.st, .int .i64 x.en, .string x.nm] 30)).drew.heap.size = wr.heap.size + 1 := by simp [World.drew, -World.drew_eq]
            generalize (wr.alloc (.cells #[.int .i64 x.tr, .int .i64 x.id, .int .i64 x.pa, .int .i64 x.st, .int .i64 x.en, .string x.nm] 30)).drew = w1 at *
            have hzq1 := Nat.le_of_eq hzq
            have hzq2 := Nat.le_of_eq hzq.symm
            clear hzq
            obtain ⟨hsc, hxc, _⟩ := HF.out w1 HBQ1.out
            have HIN1 := Lib.hid (HIN.out.below HBW1.out)
            have hlen := HIN1.out.sto.len 3
            by_cases h32 : 32 ≤ T2.length
            · have h32i : (32 : Int) ≤ (T2.length : Int) := by omega
              have hc10 : w1.cell? ⟨w.heap.size + 1, 0, none⟩ = some (.int .i64 c.ad) := blk_cell HIN1.out.c1 0
              have hc11 : w1.cell? ⟨w.heap.size + 1, 1, none⟩ = some (.int .i64 c.sa) := blk_cell HIN1.out.c1 1
              have hc12 : w1.cell? ⟨w.heap.size + 1, 2, none⟩ = some (.int .i64 c.ot) := blk_cell HIN1.out.c1 2
              have hc13 : w1.cell? ⟨w.heap.size + 1, 3, none⟩ = some (.int .i64 c.cy) := blk_cell HIN1.out.c1 3
              have hc14 : w1.cell? ⟨w.heap.size + 1, 4, none⟩ = some (.int .i64 c.fu) := blk_cell HIN1.out.c1 4
              have hf1 := blk_frozen HIN1.out.c1
              have hwr : wrap64 ((c.fu : Int) + 1) = (c.fu : Int) + 1 := wrap_one c.fu 1000000 (by have := HCS.out; simp only [Cnt.sum] at this; omega) (by decide)
              go_wp2_with fail
              go_roundw
              case rel =>
                clear hwr
                refine ⟨k + 1, by omega, by go_num, ?_⟩
                rw [HST.out, ingS_full HG.out h32]
                exact HIN1.out.bump HSL.out 4 (.int .i64 ((c.fu : Int) + 1)) { c with fu := c.fu + 1 } (by simp [Cnt.cells])
              case measure => simp [intOf]; omega
            · have h32i : ¬ (32 : Int) ≤ (T2.length : Int) := by omega
              have HNEW := Lib.hid (new_any x.tr w1 ⟨by omega, by omega⟩)
              go_wp2_with fail
              refine HNEW.out.mono ?_
              rintro e w3 ⟨p0, a0, d0, rfl, hf3, hb3⟩
              have hz3 := hb3.size
              have HB3' := Lib.hid hb3
              have HBQ3 : Hid (Below (wr.heap.size + 1) (wr.alloc (.cells #[.int .i64 x.tr, .int .i64 x.id, .int .i64 x.pa, .int .i64 x.st, .int .i64 x.en, .string x.nm] 30)) w3) := Lib.hid (HBQ1.out.trans (hb3.mono (by omega)))
              obtain ⟨w2, hrun, hfr2, hz2, hfo2, hX2⟩ := (HIN.out.sto.below HBW1.out (Nat.le_refl _)).addNew hwf HG.out hb3.drew (hf3.drewN 1 : Fo w3.drew _ _ _ _ _ _) (fun k hk => hk.1)
              replace hz2 : w2.heap.size = w3.heap.size := hz2
              replace hfr2 : Fr (fun k => k = m) w3 w2 := (Fr.refl _ _).drew.trans hfr2
              have HC3 : Hid (∀ W, Below (wr.heap.size + 1) (wr.alloc (.cells #[.int .i64 x.tr, .int .i64 x.id, .int .i64 x.pa, .int .i64 x.st, .int .i64 x.en, .string x.nm] 30)) W → (∀ j, W.cell? ⟨s, j, none⟩ = (#[.map (some m)] : Array Value)[j]?) ∧ (∀ j, W.cell? ⟨wr.heap.size, j, none⟩ = (#[.int .i64 x.tr, .int .i64 x.id, .int .i64 x.pa, .int .i64 x.st, .int .i64 x.en, .string x.nm] : Array Value)[j]?)) := Lib.hid (fun W hW => ⟨(HF.out W hW).1, (HF.out W hW).2.1⟩)
              have hz2a := Nat.le_of_eq hz2
              have hz2b := Nat.le_of_eq hz2.symm
              clear hz2
              have HFO2 := Lib.hid hfo2
              have HX2 := Lib.hid hX2
              clear hb3 hf3 hfo2 hX2 hlen hsc hxc
              go_wp2_with fail
              refine wp_region_plan 7 (.take 0 (.take 1 (.take 2 (.take 3 (.take 4 (.take 5 (.take 6 (.op 7 .done)))))))) (fun W => Below (wr.heap.size + 1) (wr.alloc (.cells #[.int .i64 x.tr, .int .i64 x.id, .int .i64 x.pa, .int .i64 x.st, .int .i64 x.en, .string x.nm] 30)) W) (by kernel_rfl) (by kernel_rfl) (by kernel_rfl) (HBQ3.out.drew) ?_
              repeat (first | (apply plan_take rfl; (focus (first | rfl | (go_simp; done))); (focus (intro W hW; obtain ⟨f1, f2⟩ := HC3.out W hW; go_simp; rfl)); (focus (intro K hK; go_simp; refine hK _ ?_; clear hK K))) | (apply plan_skip rfl; (focus (first | rfl | (go_simp; done))); (focus (intro K hK; go_simp; refine hK _ ?_; clear hK K))))
              apply plan_op rfl
              intro K hK
              go_simp
              go_wp2_with (fail)
              refine ⟨fun h => absurd rfl h, ?_⟩
              refine plan_nil ?_
              have HFR2 : Hid (Fr (fun k => S k ∨ (w.heap.size + 2 ≤ k ∧ k < wr.heap.size)) wr w2) := Lib.hid (((Fr.of_below HBW1.out).trans (Fr.of_below HB3'.out)).trans (hfr2.mono (fun k hk => by rw [hk]; exact HIN.out.sto.sm)))
              have HXC : Hid (w2.heap[wr.heap.size]? = some (.cells #[.int .i64 x.tr, .int .i64 x.id, .int .i64 x.pa, .int .i64 x.st, .int .i64 x.en, .string x.nm] 30 (0, 0))) := Lib.hid ((hfr2.block wr.heap.size (by omega) (by omega)).trans (blk_below HBQ3.out (by omega) (heap_alloc_new wr _)))
              have HSXn : Hid (∀ k, (w1.heap.size ≤ k ∧ k < w3.heap.size) → wr.heap.size ≤ k) := Lib.hid (fun k hk => by omega)
              clear hfr2 hrun
              have hxc2 := blk_cell HXC.out
              have hlx2 : wr.heap.size < w2.heap.size := by omega
              have hr3 : RdS (w2.alloc (.cells #[.int .i64 x.tr, .int .i64 x.id, .int .i64 x.pa, .int .i64 x.st, .int .i64 x.en, .string x.nm] 30)) (w2.heap.size + 1) (some ⟨w2.heap.size, 0, none⟩) 1 [x] := RdS.one rfl x 30 (0, 0)
              have HB3 : Hid (Below w2.heap.size w2 (w2.alloc (.cells #[.int .i64 x.tr, .int .i64 x.id, .int .i64 x.pa, .int .i64 x.st, .int .i64 x.en, .string x.nm] 30))) := Lib.hid ((Below.refl _ _).alloc (Nat.le_refl _) _)
              have HCALL := Lib.hid (add_any (HFO2.out.below HB3.out (Nat.le_refl _)) (some ⟨w2.heap.size, 0, none⟩) 1 1 (w2.heap.size + 1) [x] (by simp) (by omega) (by intro t ht; obtain rfl := List.mem_singleton.1 ht; exact hnm) hr3 (by
                intro j hj hs
                have := Option.some.inj hj
                have h2 := HFO2.out.lt j hs
                simp only at this
                omega))
              clear hr3
              go_wp2_with fail
              refine HCALL.out.mono ?_
              rintro e w5 ⟨rfl, hf5, hfr5⟩
              have hz5 := hfr5.size
              simp at hz5
              have hmc : (addA x.tr [] [x]).2.1.sum ≤ 1 := by rw [addA_one (fits_own HXOK.out), addS_sum]; exact Nat.le_refl _
              have HSTEP := Lib.hid (ingS_new (c := c) HG.out h32 HXOK.out)
              have hX5 := (HX2.out.below HB3.out (Nat.le_refl _)).fr hfr5 (fun k _ h2 => h2)
              have hg5 : GrT (ingS (T2, c) x).1 := HIN.out.sto.gr.ing c HXOK.out
              rw [HSTEP.out] at hg5
              generalize addA x.tr [] [x] = aa at *
              have HI5 : Hid (SIn w w5 s m S (insT T2 ⟨x.tr, aa.1⟩, c)) := Lib.hid (HIN.out.added HSL.out hX5 (fun k hk => hk) hf5 (by rw [setT_ins HG.out]; exact hg5) (setT_ins HG.out _ _) (B0 := (w2.alloc (.cells #[.int .i64 x.tr, .int .i64 x.id, .int .i64 x.pa, .int .i64 x.st, .int .i64 x.en, .string x.nm] 30)).heap.size) (fun k hk => hk.imp id fun h => h.1) (by simp; omega) (fun k hk => .inr (HSXn.out k hk)) ((HFR2.out.trans (Fr.of_below HB3.out)).step hfr5 (fun k hk => .inr (HSXn.out k hk))))
              clear hX5 hg5 hf5
              obtain ⟨T5, m5, e5⟩ := aa
              dsimp only at *
              clear hfr5
              have hc10 : w5.cell? ⟨w.heap.size + 1, 0, none⟩ = some (.int .i64 c.ad) := blk_cell HI5.out.c1 0
              have hc11 : w5.cell? ⟨w.heap.size + 1, 1, none⟩ = some (.int .i64 c.sa) := blk_cell HI5.out.c1 1
              have hc12 : w5.cell? ⟨w.heap.size + 1, 2, none⟩ = some (.int .i64 c.ot) := blk_cell HI5.out.c1 2
              have hc13 : w5.cell? ⟨w.heap.size + 1, 3, none⟩ = some (.int .i64 c.cy) := blk_cell HI5.out.c1 3
              have hc14 : w5.cell? ⟨w.heap.size + 1, 4, none⟩ = some (.int .i64 c.fu) := blk_cell HI5.out.c1 4
              have hlt6 : w.heap.size + 1 < w5.heap.size := by have := HI5.out.sz; omega
              have HB6 : Hid (Below w5.heap.size w5 (w5.alloc (.cells #[.int .i64 m5.ad, .int .i64 m5.sa, .int .i64 m5.ot, .int .i64 m5.cy, .int .i64 m5.fu] 54))) := Lib.hid ((Below.refl _ _).alloc (Nat.le_refl _) _)
              have HCADD := Lib.hid (cadd_any c m5 (w5.alloc (.cells #[.int .i64 m5.ad, .int .i64 m5.sa, .int .i64 m5.ot, .int .i64 m5.cy, .int .i64 m5.fu] 54)) (by have := HCS.out; omega))
              go_wp2_with fail
              refine HCADD.out.mono ?_
              rintro e w7 ⟨rfl, hb7⟩
              have HI7 := Lib.hid (HI5.out.below (HB6.out.trans (hb7.mono (by simp))))
              clear hb7 hc10 hc11 hc12 hc13 hc14
              have hc10 : w7.cell? ⟨w.heap.size + 1, 0, none⟩ = some (.int .i64 c.ad) := blk_cell HI7.out.c1 0
              have hc11 : w7.cell? ⟨w.heap.size + 1, 1, none⟩ = some (.int .i64 c.sa) := blk_cell HI7.out.c1 1
              have hc12 : w7.cell? ⟨w.heap.size + 1, 2, none⟩ = some (.int .i64 c.ot) := blk_cell HI7.out.c1 2
              have hc13 : w7.cell? ⟨w.heap.size + 1, 3, none⟩ = some (.int .i64 c.cy) := blk_cell HI7.out.c1 3
              have hc14 : w7.cell? ⟨w.heap.size + 1, 4, none⟩ = some (.int .i64 c.fu) := blk_cell HI7.out.c1 4
              have hf1 := blk_frozen HI7.out.c1
              go_wp2_with fail
              go_roundw
              case rel =>
                refine ⟨k + 1, by omega, by go_num, ?_⟩
                rw [HST.out, HSTEP.out]
                have := HI7.out.put HSL.out (c.plus m5)
                exact this
              case measure => simp [intOf]; omega
        · have hAA : ingA T l = ((ingL (T, Cnt.zero) l).1, (ingL (T, Cnt.zero) l).2, 0) := by rw [ingA, if_pos HA2.out]
          have hin := HIN.out
          rw [List.take_of_length_le (by omega)] at hin
          have HIN9 := Lib.hid hin
          have HAA := Lib.hid hAA
          have hk1 : ¬ (k : Int) < (l.length : Int) := by omega
          clear HIN hin hAA hsum
          generalize ingL (T, Cnt.zero) l = st at *
          obtain ⟨T2, c⟩ := st
          have hc00 : wr.cell? ⟨w.heap.size, 0, none⟩ = some (.int .i64 0) := blk_cell HIN9.out.c0 0
          have hc01 : wr.cell? ⟨w.heap.size, 1, none⟩ = some (.int .i64 0) := blk_cell HIN9.out.c0 1
          have hc02 : wr.cell? ⟨w.heap.size, 2, none⟩ = some (.int .i64 0) := blk_cell HIN9.out.c0 2
          have hc03 : wr.cell? ⟨w.heap.size, 3, none⟩ = some (.int .i64 0) := blk_cell HIN9.out.c0 3
          have hc04 : wr.cell? ⟨w.heap.size, 4, none⟩ = some (.int .i64 0) := blk_cell HIN9.out.c0 4
          have hc10 : wr.cell? ⟨w.heap.size + 1, 0, none⟩ = some (.int .i64 c.ad) := blk_cell HIN9.out.c1 0
          have hc11 : wr.cell? ⟨w.heap.size + 1, 1, none⟩ = some (.int .i64 c.sa) := blk_cell HIN9.out.c1 1
          have hc12 : wr.cell? ⟨w.heap.size + 1, 2, none⟩ = some (.int .i64 c.ot) := blk_cell HIN9.out.c1 2
          have hc13 : wr.cell? ⟨w.heap.size + 1, 3, none⟩ = some (.int .i64 c.cy) := blk_cell HIN9.out.c1 3
          have hc14 : wr.cell? ⟨w.heap.size + 1, 4, none⟩ = some (.int .i64 c.fu) := blk_cell HIN9.out.c1 4
          have hf0 := blk_frozen HIN9.out.c0
          go_wp2_with fail
          refine bodyPost_ret (v := .tuple #[c.val, .int .i64 0]) (by simp [results, Tryz.results140, go_sem, hc00, hc01, hc02, hc03, hc04]) rfl ?_
          rw [HAA.out]
          exact ⟨rfl, HIN9.out.fin HSL.out (fr_sets _ _ (fun i => match i with | 0 => .int .i64 c.ad | 1 => .int .i64 c.sa | 2 => .int .i64 c.ot | 3 => .int .i64 c.cy | 4 => .int .i64 c.fu))⟩
end Go.Proofs.YtempkjnaahgbhaaGreatDoor
