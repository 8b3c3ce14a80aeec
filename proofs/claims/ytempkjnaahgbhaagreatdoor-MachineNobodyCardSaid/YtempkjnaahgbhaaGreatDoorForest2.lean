/-
  The walk of a forest's Add: what came of each span, and the forest behind it. Conditions: the forest lies in memory as New made it, the spans read as a list.
-/
import Derived.Test.YtempkjnaahgbhaaGreatDoorForestA
import Derived.Test.YtempkjnaahgbhaaGreatDoorSched
import Derived.Test.YtempkjnaahgbhaaGreatDoorCheck
import Derived.Test.YtempkjnaahgbhaaGreatDoorStd
namespace Go.Proofs.YtempkjnaahgbhaaGreatDoor
open Go Go.RowKit Go.Maps

/-- What Add leaves. -/
def ResAdd (w : World) (p a d : Nat) (tr : Int) (S : Nat → Prop) (r : List Sp × Cnt × Int) (e : Ending) (w' : World) : Prop :=
  e = .returned (.tuple #[r.2.1.val, .int .i64 r.2.2]) ∧ Fo w' p a d tr r.1 (fun k => S k ∨ (w.heap.size ≤ k ∧ k < w'.heap.size)) ∧ Fr S w w'

theorem fr_sets (w : World) (b : Nat) (v : Fin 5 → Value) : Fr (fun k => k = b) w (((((w.setCell ⟨b, 0, none⟩ (v 0)).setCell ⟨b, 1, none⟩ (v 1)).setCell ⟨b, 2, none⟩ (v 2)).setCell ⟨b, 3, none⟩ (v 3)).setCell ⟨b, 4, none⟩ (v 4)) :=
  (((((Fr.refl (fun k => k = b) w).setCell (p := ⟨b, 0, none⟩) rfl _).setCell (p := ⟨b, 1, none⟩) rfl _).setCell (p := ⟨b, 2, none⟩) rfl _).setCell (p := ⟨b, 3, none⟩) rfl _).setCell (p := ⟨b, 4, none⟩) rfl _
theorem eql_span {s t : Sp} {q : Bool} (hq : q = true ↔ s = t) (W : World) : (binOp .eql 30 s.val t.val).run Tryz.prog W = .ok (.bool q) W := by
  go_simp; exact (span_if hq _ _).trans (by cases q <;> rfl)
abbrev Cnt.cells (c : Cnt) : Array Value := #[.int .i64 c.ad, .int .i64 c.sa, .int .i64 c.ot, .int .i64 c.cy, .int .i64 c.fu]
/-- On the way through Add. -/
structure AddIn (w wr : World) (p a d : Nat) (tr : Int) (S : Nat → Prop) (st : List Sp × Cnt) : Prop where
  fo : Fo wr p a d tr st.1 (fun k => S k ∨ (w.heap.size + 2 ≤ k ∧ k < wr.heap.size))
  fr : Fr S w wr
  c0 : wr.heap[w.heap.size]? = some (.cells Cnt.zero.cells 54 (0, 0))
  c1 : wr.heap[w.heap.size + 1]? = some (.cells st.2.cells 54 (0, 0))
  sz : w.heap.size + 2 ≤ wr.heap.size
section
variable {w wr w1 : World} {p a d : Nat} {tr : Int} {S : Nat → Prop} {st : List Sp × Cnt}
theorem AddIn.below (h : AddIn w wr p a d tr S st) (hb : Below wr.heap.size wr w1) : AddIn w w1 p a d tr S st :=
  have hs := h.sz
  have hz := hb.size
  ⟨(h.fo.below hb (Nat.le_refl _)).mono (fun k hk => hk.imp id fun ⟨h1, h2⟩ => ⟨h1, by omega⟩) (fun k hk => by
      rcases hk with hk | ⟨_, hk⟩
      · have := h.fo.lt k (.inl hk); omega
      · exact hk),
    h.fr.trans (Fr.of_below hb), (hb.block _ (by omega)).trans h.c0, (hb.block _ (by omega)).trans h.c1, by omega⟩
theorem AddIn.bump (h : AddIn w wr p a d tr S st) (hS : ∀ k, S k → k < w.heap.size) (i : Nat) (v : Value) (c' : Cnt) (hc : st.2.cells.setIfInBounds i v = c'.cells) : AddIn w (wr.setCell ⟨w.heap.size + 1, i, none⟩ v) p a d tr S (st.1, c') := by
  have hs := h.sz
  have hf : Fr (fun k => k = w.heap.size + 1) wr (wr.setCell ⟨w.heap.size + 1, i, none⟩ v) := Fr.setCell (S := fun k => k = w.heap.size + 1) (Fr.refl _ _) rfl v
  have hz : (wr.setCell ⟨w.heap.size + 1, i, none⟩ v).heap.size = wr.heap.size := by simp [World.setCell]
  refine ⟨?_, h.fr.step hf (fun j hj => .inr (by omega)), (hf.block _ (by omega) (by omega)).trans h.c0, ?_, by omega⟩
  · have := h.fo.fr hf (fun k hk he => by
      rcases hk with hk | ⟨hk, _⟩
      · have := hS k hk; omega
      · omega)
    rw [hz]; exact this
  · rw [← hc]; exact blk_set h.c1 i v
theorem AddIn.added (h : AddIn w wr p a d tr S st) (hS : ∀ k, S k → k < w.heap.size) {v1 w6 : World} {L' : List Sp} (hb : Below wr.heap.size wr v1)
    (hfo : Fo w6 p a d tr L' (fun k => (S k ∨ (w.heap.size + 2 ≤ k ∧ k < wr.heap.size)) ∨ (v1.heap.size ≤ k ∧ k < w6.heap.size))) (hfr : Fr (fun k => S k ∨ (w.heap.size + 2 ≤ k ∧ k < wr.heap.size)) v1 w6) : AddIn w w6 p a d tr S (L', st.2) := by
  have h2 := h.below hb
  have hs := h.sz
  have hz := hb.size
  have hz6 := hfr.size
  have hn : ∀ j, j < w.heap.size + 2 → w.heap.size ≤ j → ¬ (S j ∨ (w.heap.size + 2 ≤ j ∧ j < wr.heap.size)) := fun j h1 h2 hk => by
    rcases hk with hk | ⟨hk, _⟩
    · have := hS j hk; omega
    · omega
  refine ⟨hfo.mono (fun k hk => ?_) (fun k hk => ?_), h2.fr.step hfr (fun j hj => hj.imp id fun h3 => by omega), (hfr.block _ (by omega) (hn _ (by omega) (by omega))).trans h2.c0, (hfr.block _ (by omega) (hn _ (by omega) (by omega))).trans h2.c1, by omega⟩
  · rcases hk with (hk | ⟨h3, h4⟩) | ⟨h3, h4⟩
    · exact .inl hk
    · exact .inr ⟨h3, by omega⟩
    · exact .inr ⟨by omega, h4⟩
  · rcases hk with hk | ⟨_, hk⟩
    · have := hS k hk; omega
    · exact hk
theorem AddIn.fin (h : AddIn w wr p a d tr S st) (hS : ∀ k, S k → k < w.heap.size) {w1 : World} (hf : Fr (fun k => k = w.heap.size) wr w1) :
    Fo w1 p a d tr st.1 (fun k => S k ∨ (w.heap.size ≤ k ∧ k < w1.heap.size)) ∧ Fr S w w1 := by
  have hs := h.sz
  have hz := hf.size
  refine ⟨(h.fo.fr hf (fun k hk he => ?_)).mono (fun k hk => ?_) (fun k hk => ?_), h.fr.step hf (fun j hj => .inr (by omega))⟩
  · rcases hk with hk | ⟨hk, _⟩
    · have := hS k hk; omega
    · omega
  · rcases hk with hk | ⟨h1, h2⟩
    · exact .inl hk
    · exact .inr ⟨by omega, by omega⟩
  · rcases hk with hk | ⟨_, hk⟩
    · have := hS k hk; omega
    · exact hk
end

theorem add_facts {w : World} {p a d : Nat} {tr : Int} {L : List Sp} {S : Nat → Prop} (h : Fo w p a d tr L S) (s : Sp) (W : World) (hW : Below (w.heap.size + 1) (w.alloc (.cells #[.int .i64 s.tr, .int .i64 s.id, .int .i64 s.pa, .int .i64 s.st, .int .i64 s.en, .string s.nm] 30)) W) :
    (∀ j, W.cell? ⟨p, j, none⟩ = (#[.map (some a), .map (some d), .int .i64 tr] : Array Value)[j]?) ∧ (∀ j, W.cell? ⟨w.heap.size, j, none⟩ = (#[.int .i64 s.tr, .int .i64 s.id, .int .i64 s.pa, .int .i64 s.st, .int .i64 s.en, .string s.nm] : Array Value)[j]?) ∧ Fo W p a d tr L S := by
  have hb : Below w.heap.size w W := ((Below.refl _ _).alloc (Nat.le_refl _) _).trans (hW.mono (by omega))
  have hF := h.below hb (Nat.le_refl _)
  exact ⟨blk_cell hF.hp, blk_cell (blk_below hW (by omega) (heap_alloc_new w _)), hF⟩

theorem blk_cells6 {w : World} (s : Sp) : ∀ j, (w.alloc (.cells #[.int .i64 s.tr, .int .i64 s.id, .int .i64 s.pa, .int .i64 s.st, .int .i64 s.en, .string s.nm] 30)).cell? ⟨w.heap.size, j, none⟩ = (#[.int .i64 s.tr, .int .i64 s.id, .int .i64 s.pa, .int .i64 s.st, .int .i64 s.en, .string s.nm] : Array Value)[j]? := blk_cell (heap_alloc_new w _)
theorem add_facts2 {w wr : World} {p a d : Nat} {tr : Int} {S : Nat → Prop} {L2 : List Sp} {c : Cnt} (h : AddIn w wr p a d tr S (L2, c)) (s x : Sp) (W : World) (hW : W = ((wr.alloc (.cells #[.int .i64 s.tr, .int .i64 s.id, .int .i64 s.pa, .int .i64 s.st, .int .i64 s.en, .string s.nm] 30)).alloc (.cells #[.int .i64 x.tr, .int .i64 x.id, .int .i64 x.pa, .int .i64 x.st, .int .i64 x.en, .string x.nm] 30)).drew) :
    AddIn w W p a d tr S (L2, c) ∧ Fo W p a d tr L2 (fun k => (S k ∨ (w.heap.size + 2 ≤ k ∧ k < wr.heap.size))) ∧ (∀ j, W.cell? ⟨wr.heap.size, j, none⟩ = (#[.int .i64 s.tr, .int .i64 s.id, .int .i64 s.pa, .int .i64 s.st, .int .i64 s.en, .string s.nm] : Array Value)[j]?) ∧ (∀ j, W.cell? ⟨wr.heap.size + 1, j, none⟩ = (#[.int .i64 x.tr, .int .i64 x.id, .int .i64 x.pa, .int .i64 x.st, .int .i64 x.en, .string x.nm] : Array Value)[j]?) ∧ (W.heap.size = wr.heap.size + 2 ∧ Below wr.heap.size wr W) := by
  subst hW
  have hb : Below wr.heap.size wr ((wr.alloc (.cells #[.int .i64 s.tr, .int .i64 s.id, .int .i64 s.pa, .int .i64 s.st, .int .i64 s.en, .string s.nm] 30)).alloc (.cells #[.int .i64 x.tr, .int .i64 x.id, .int .i64 x.pa, .int .i64 x.st, .int .i64 x.en, .string x.nm] 30)).drew := (((Below.refl _ _).alloc (Nat.le_refl _) _).alloc (by simp) _).drew
  refine ⟨h.below hb, h.fo.below hb (Nat.le_refl _), ?_, ?_, by simp [World.drew, -World.drew_eq], hb⟩
  · exact blk_cell (blk_below (((Below.refl (wr.heap.size + 1) _).alloc (by simp) _).drew) (by omega) (heap_alloc_new wr _))
  · have := heap_alloc_new (wr.alloc (.cells #[.int .i64 s.tr, .int .i64 s.id, .int .i64 s.pa, .int .i64 s.st, .int .i64 s.en, .string s.nm] 30)) (.cells #[.int .i64 x.tr, .int .i64 x.id, .int .i64 x.pa, .int .i64 x.st, .int .i64 x.en, .string x.nm] 30)
    rw [World.size_alloc] at this
    exact blk_cell this
theorem add_facts3 {v1 : World} {p a d : Nat} {tr : Int} {S : Nat → Prop} {L2 : List Sp} (h : Fo v1 p a d tr L2 S) {b : Nat} (hb : ¬ S b) (hbl : b < v1.heap.size) {cs : Array Value} (hc : ∀ j, v1.cell? ⟨b, j, none⟩ = cs[j]?) {W : World} (hW : Fr (fun k => k = a) v1 W) :
    (∀ j, W.cell? ⟨p, j, none⟩ = (#[.map (some a), .map (some d), .int .i64 tr] : Array Value)[j]?) ∧ (∀ j, W.cell? ⟨b, j, none⟩ = cs[j]?) := by
  have hpa : p ≠ a := by
    intro e; subst e
    obtain ⟨es, clock, hb, _⟩ := h.all.choose_spec.1
    rw [h.hp] at hb; cases hb
  refine ⟨blk_cell ((hW.block p (h.lt p h.sp) hpa).trans h.hp), fun j => ?_⟩
  rw [← hc j]
  simp only [World.cell?, hW.block b hbl (fun e => hb (by rw [e]; exact h.sa))]
theorem add_facts4 {v1 w3 : World} {p a d : Nat} {tr : Int} {S : Nat → Prop} {L2 : List Sp} (h : Fo v1 p a d tr L2 S) {b : Nat} (hb : ¬ S b) (hbl : b < v1.heap.size) (hsz : w3.heap.size = v1.heap.size) {cs : Array Value} (hc : ∀ j, v1.cell? ⟨b, j, none⟩ = cs[j]?) (h3 : Fr (fun k => k = a) v1 w3) {W : World} (hW : Fr (fun k => S k ∧ k ≠ p ∧ k ≠ a) w3 W) :
    (∀ j, W.cell? ⟨p, j, none⟩ = (#[.map (some a), .map (some d), .int .i64 tr] : Array Value)[j]?) ∧ (∀ j, W.cell? ⟨b, j, none⟩ = cs[j]?) := by
  obtain ⟨e1, e2⟩ := add_facts3 h hb hbl hc h3
  have hpl := h.lt p h.sp
  refine ⟨fun j => ?_, fun j => ?_⟩
  · rw [← e1 j]; simp only [World.cell?, hW.block p (by omega) (fun hk => hk.2.1 rfl)]
  · rw [← e2 j]; simp only [World.cell?, hW.block b (by omega) (fun hk => hb hk.1)]
theorem addS_same {L : List Sp} {c : Cnt} {s o : Sp} (h : atS L s.id = some o) (ho : o = s) : addS (L, c) s = (L, { c with sa := c.sa + 1 }) := by simp only [addS, h, if_pos ho]
theorem addS_other {L : List Sp} {c : Cnt} {s o : Sp} (h : atS L s.id = some o) (ho : ¬ o = s) : addS (L, c) s = (L, { c with ot := c.ot + 1 }) := by simp only [addS, h, if_neg ho]
theorem addS_full {L : List Sp} {c : Cnt} {s : Sp} (h : atS L s.id = none) (hl : 64 ≤ L.length) : addS (L, c) s = (L, { c with fu := c.fu + 1 }) := by simp only [addS, h, if_pos hl]
theorem addS_cycle {L : List Sp} {c : Cnt} {s : Sp} (h : atS L s.id = none) (hl : ¬ 64 ≤ L.length) (ha : aboveB L s.pa s.id = true) : addS (L, c) s = (L, { c with cy := c.cy + 1 }) := by simp only [addS, h, if_neg hl, ha, if_true]
theorem addS_add {L : List Sp} {c : Cnt} {s : Sp} (h : atS L s.id = none) (hl : ¬ 64 ≤ L.length) (ha : aboveB L s.pa s.id = false) : addS (L, c) s = (L ++ [s], { c with ad := c.ad + 1 }) := by simp only [addS, h, if_neg hl, ha, Bool.false_eq_true, if_false]

set_option maxRecDepth 100000 in
set_option maxHeartbeats 4000000 in
theorem add_all {w : World} {p a d : Nat} {tr : Int} {L : List Sp} {S : Nat → Prop} (h : Fo w p a d tr L S) (A : Option Addr) (n cap B : Nat) (l : List Sp) (hB : B ≤ w.heap.size) (hbig : n ≤ 1000000) (hnm : ∀ s ∈ l, s.nm.size ≤ 140737488355328) (hr : RdS w B A n l) (hS : 0 < n → ∀ k, A.map (·.block) = some k → ¬ S k) :
    Calls Tryz.prog 167 #[.pointer (some ⟨p, 0, none⟩), .slice A n cap] w (ResAdd w p a d tr S (addA tr L l)) := by
  have hlen := hr.len
  subst hlen
  have HR := Lib.hid hr
  have HNM := Lib.hid hnm
  have hSlt := h.lt
  have HSL : Hid (∀ k, S k → k < w.heap.size) := Lib.hid hSlt
  have HNS := Lib.hid hS
  have hz2 : ((w.alloc (.cells Cnt.zero.cells 54)).alloc (.cells Cnt.zero.cells 54)).heap.size = w.heap.size + 2 := by simp
  have hI : AddIn w ((w.alloc (.cells Cnt.zero.cells 54)).alloc (.cells Cnt.zero.cells 54)) p a d tr S (L, Cnt.zero) := by
    have hb : Below w.heap.size w ((w.alloc (.cells Cnt.zero.cells 54)).alloc (.cells Cnt.zero.cells 54)) := ((Below.refl _ _).alloc (Nat.le_refl _) _).alloc (by simp) _
    refine ⟨(h.below hb (Nat.le_refl _)).mono (fun k hk => .inl hk) (fun k hk => ?_), Fr.of_below hb, ?_, ?_, by rw [hz2]; exact Nat.le_refl _⟩
    · rw [hz2] at hk ⊢
      rcases hk with hk | hk
      · have := hSlt k hk; omega
      · omega
    · exact blk_below ((Below.refl (w.heap.size + 1) _).alloc (by simp) _) (by omega) (heap_alloc_new w _)
    · have := heap_alloc_new (w.alloc (.cells Cnt.zero.cells 54)) (.cells Cnt.zero.cells 54)
      rw [World.size_alloc] at this
      exact this
  have HI := Lib.hid hI
  clear hr h hnm hSlt hS hz2
  go_enter Tryz.func167, Tryz.ntmps167
  go_wp2_with fail
  refine (fmade_any HI.out.fo).mono ?_
  rintro e w1 ⟨rfl, rfl⟩
  clear hI
  go_wp2_with fail
  go_loopw [19] (fun i wr => ∃ (k : Nat), k ≤ l.length ∧ i = .int .i64 k ∧ (l.take k).all (fits tr) = true ∧ AddIn w wr p a d tr S (L, Cnt.zero)) (fun i _ => l.length - (intOf i).toNat)
  case atStart => exact ⟨0, by omega, rfl, rfl, HI.out⟩
  case round =>
    obtain ⟨k, hk, rfl, hall, hin⟩ := hrel
    have HIN := Lib.hid hin
    have HALL := Lib.hid hall
    have hsz := hin.sz
    clear hin hall
    by_cases hlt : k < l.length
    · obtain ⟨b1, o1, rfl, hb1, x0, x1, x2, x3, x4, x5⟩ := RdS.at_ (Fr.rdN HR.out HIN.out.fr hB HNS.out) hlt
      have hk1 : (k : Int) < (l.length : Int) := by omega
      have hnm := HNM.out _ (List.getElem_mem hlt)
      have HTK := Lib.hid (all_take_succ l (fits tr) k hlt)
      have HBAD := Lib.hid (all_false_of l (fits tr) k hlt)
      generalize l[k] = s at *
      have HF := Lib.hid (add_facts HIN.out.fo s)
      go_wp2_with fail
      cases hok : s.ok
      · have HC : Hid (s.check = 30) := Lib.hid (Sp.check_f hok)
        have HA : Hid (l.all (fits tr) = false) := Lib.hid (HBAD.out (by simp [fits, hok]))
        clear hok
        refine wp_region_sched [(0, true), (1, false), (2, true), (3, true), (4, true), (5, true), (6, true), (7, true), (8, true), (9, true), (10, true), (11, true)] (fun W => Below (wr.heap.size + 1) (wr.alloc (.cells #[.int .i64 s.tr, .int .i64 s.id, .int .i64 s.pa, .int .i64 s.st, .int .i64 s.en, .string s.nm] 30)) W) (by kernel_rfl) (by kernel_rfl) rfl (by kernel_rfl) ((Below.refl _ _).drew) ?_
        repeat (first | (apply sched_take rfl; (focus (first | rfl | (go_simp; done))); (focus (intro W hW; obtain ⟨f1, f2, _⟩ := HF.out W hW; go_simp; rfl)); (focus (intro K hK; go_simp; refine hK _ ?_; clear hK K))) | (apply sched_skip rfl; (focus (first | rfl | (go_simp; done))); (focus (intro K hK; go_simp; refine hK _ ?_; clear hK K))))
        apply sched_op rfl
        intro K hK
        go_simp
        go_wp2_with (fail)
        refine (check_any s _ hnm).mono ?_
        rintro e v1 ⟨rfl, hbc⟩
        have hk1 : Below (wr.heap.size + 1) (wr.alloc (.cells #[.int .i64 s.tr, .int .i64 s.id, .int .i64 s.pa, .int .i64 s.st, .int .i64 s.en, .string s.nm] 30)) v1 := below_step (by simp) (Below.refl _ _).drew hbc
        rw [HC.out]
        go_wp2_with fail
        refine ⟨by exact hk1, ?_⟩
        repeat (first | (apply sched_take rfl; (focus (first | rfl | (go_simp; done))); (focus (intro W hW; obtain ⟨f1, f2, _⟩ := HF.out W hW; go_simp; rfl)); (focus (intro K hK; go_simp; refine hK _ ?_; clear hK K))) | (apply sched_skip rfl; (focus (first | rfl | (go_simp; done))); (focus (intro K hK; go_simp; refine hK _ ?_; clear hK K))))
        refine sched_nil ?_
        have hbw : Below wr.heap.size wr v1 := ((Below.refl _ _).alloc (Nat.le_refl _) _).trans (hk1.mono (by omega))
        have HI2 := Lib.hid (HIN.out.below hbw)
        have hc00 : v1.cell? ⟨w.heap.size, 0, none⟩ = some (.int .i64 0) := blk_cell HI2.out.c0 0
        have hc01 : v1.cell? ⟨w.heap.size, 1, none⟩ = some (.int .i64 0) := blk_cell HI2.out.c0 1
        have hc02 : v1.cell? ⟨w.heap.size, 2, none⟩ = some (.int .i64 0) := blk_cell HI2.out.c0 2
        have hc03 : v1.cell? ⟨w.heap.size, 3, none⟩ = some (.int .i64 0) := blk_cell HI2.out.c0 3
        have hc04 : v1.cell? ⟨w.heap.size, 4, none⟩ = some (.int .i64 0) := blk_cell HI2.out.c0 4
        have hc10 : v1.cell? ⟨w.heap.size + 1, 0, none⟩ = some (.int .i64 0) := blk_cell HI2.out.c1 0
        have hc11 : v1.cell? ⟨w.heap.size + 1, 1, none⟩ = some (.int .i64 0) := blk_cell HI2.out.c1 1
        have hc12 : v1.cell? ⟨w.heap.size + 1, 2, none⟩ = some (.int .i64 0) := blk_cell HI2.out.c1 2
        have hc13 : v1.cell? ⟨w.heap.size + 1, 3, none⟩ = some (.int .i64 0) := blk_cell HI2.out.c1 3
        have hc14 : v1.cell? ⟨w.heap.size + 1, 4, none⟩ = some (.int .i64 0) := blk_cell HI2.out.c1 4
        have hf0 := blk_frozen HI2.out.c0
        clear hbc hk1 hbw
        go_wp2_with fail
        refine bodyPost_ret (v := .tuple #[Cnt.zero.val, .int .i64 30]) (by simp [results, Tryz.results167, go_sem, hc00, hc01, hc02, hc03, hc04, Cnt.zero]) rfl ?_
        have hA : addA tr L l = (L, Cnt.zero, 30) := by rw [addA, if_neg (by rw [HA.out]; exact Bool.false_ne_true)]
        rw [hA]
        exact ⟨rfl, HI2.out.fin HSL.out (fr_sets _ _ (fun _ => .int .i64 0))⟩
      · have HC : Hid (s.check = 0) := Lib.hid (Sp.check_t hok)
        cases htr : (s.tr != tr)
        · have HA : Hid (fits tr s = true) := Lib.hid (by have : s.tr = tr := (by simpa using htr); simp [fits, hok, this])
          clear hok
          refine wp_region_sched [(0, true), (1, false), (2, true), (3, true), (4, true), (5, true), (6, true), (7, true), (8, true), (9, true), (10, true), (11, true)] (fun W => Below (wr.heap.size + 1) (wr.alloc (.cells #[.int .i64 s.tr, .int .i64 s.id, .int .i64 s.pa, .int .i64 s.st, .int .i64 s.en, .string s.nm] 30)) W) (by kernel_rfl) (by kernel_rfl) rfl (by kernel_rfl) ((Below.refl _ _).drew) ?_
          repeat (first | (apply sched_take rfl; (focus (first | rfl | (go_simp; done))); (focus (intro W hW; obtain ⟨f1, f2, _⟩ := HF.out W hW; go_simp; rfl)); (focus (intro K hK; go_simp; refine hK _ ?_; clear hK K))) | (apply sched_skip rfl; (focus (first | rfl | (go_simp; done))); (focus (intro K hK; go_simp; refine hK _ ?_; clear hK K))))
          apply sched_op rfl
          intro K hK
          go_simp
          go_wp2_with (fail)
          refine (check_any s _ hnm).mono ?_
          rintro e v1 ⟨rfl, hbc⟩
          have hk1 : Below (wr.heap.size + 1) (wr.alloc (.cells #[.int .i64 s.tr, .int .i64 s.id, .int .i64 s.pa, .int .i64 s.st, .int .i64 s.en, .string s.nm] 30)) v1 := below_step (by simp) (Below.refl _ _).drew hbc
          rw [HC.out]
          go_wp2_with fail
          refine ⟨by exact hk1, ?_⟩
          repeat (first | (apply sched_take rfl; (focus (first | rfl | (go_simp; done))); (focus (intro W hW; obtain ⟨f1, f2, _⟩ := HF.out W hW; go_simp; rfl)); (focus (intro K hK; go_simp; refine hK _ ?_; clear hK K))) | (apply sched_skip rfl; (focus (first | rfl | (go_simp; done))); (focus (intro K hK; go_simp; refine hK _ ?_; clear hK K))))
          refine sched_nil ?_
          go_wp2_with fail
          have hbw : Below wr.heap.size wr v1 := ((Below.refl _ _).alloc (Nat.le_refl _) _).trans (hk1.mono (by omega))
          go_roundw
          case rel => exact ⟨k + 1, by omega, by go_num, by rw [HTK.out, HALL.out, HA.out]; rfl, HIN.out.below hbw⟩
          case measure => simp [intOf]; omega
        · have HA : Hid (l.all (fits tr) = false) := Lib.hid (HBAD.out (by have : ¬ s.tr = tr := (by simpa using htr); simp [fits, this]))
          clear hok
          refine wp_region_sched [(0, true), (1, false), (2, true), (3, true), (4, true), (5, true), (6, true), (7, true), (8, true), (9, true), (10, true), (11, true)] (fun W => Below (wr.heap.size + 1) (wr.alloc (.cells #[.int .i64 s.tr, .int .i64 s.id, .int .i64 s.pa, .int .i64 s.st, .int .i64 s.en, .string s.nm] 30)) W) (by kernel_rfl) (by kernel_rfl) rfl (by kernel_rfl) ((Below.refl _ _).drew) ?_
          repeat (first | (apply sched_take rfl; (focus (first | rfl | (go_simp; done))); (focus (intro W hW; obtain ⟨f1, f2, _⟩ := HF.out W hW; go_simp; rfl)); (focus (intro K hK; go_simp; refine hK _ ?_; clear hK K))) | (apply sched_skip rfl; (focus (first | rfl | (go_simp; done))); (focus (intro K hK; go_simp; refine hK _ ?_; clear hK K))))
          apply sched_op rfl
          intro K hK
          go_simp
          go_wp2_with (fail)
          refine (check_any s _ hnm).mono ?_
          rintro e v1 ⟨rfl, hbc⟩
          have hk1 : Below (wr.heap.size + 1) (wr.alloc (.cells #[.int .i64 s.tr, .int .i64 s.id, .int .i64 s.pa, .int .i64 s.st, .int .i64 s.en, .string s.nm] 30)) v1 := below_step (by simp) (Below.refl _ _).drew hbc
          rw [HC.out]
          go_wp2_with fail
          refine ⟨by exact hk1, ?_⟩
          repeat (first | (apply sched_take rfl; (focus (first | rfl | (go_simp; done))); (focus (intro W hW; obtain ⟨f1, f2, _⟩ := HF.out W hW; go_simp; rfl)); (focus (intro K hK; go_simp; refine hK _ ?_; clear hK K))) | (apply sched_skip rfl; (focus (first | rfl | (go_simp; done))); (focus (intro K hK; go_simp; refine hK _ ?_; clear hK K))))
          refine sched_nil ?_
          have hbw : Below wr.heap.size wr v1 := ((Below.refl _ _).alloc (Nat.le_refl _) _).trans (hk1.mono (by omega))
          have HI2 := Lib.hid (HIN.out.below hbw)
          have hc00 : v1.cell? ⟨w.heap.size, 0, none⟩ = some (.int .i64 0) := blk_cell HI2.out.c0 0
          have hc01 : v1.cell? ⟨w.heap.size, 1, none⟩ = some (.int .i64 0) := blk_cell HI2.out.c0 1
          have hc02 : v1.cell? ⟨w.heap.size, 2, none⟩ = some (.int .i64 0) := blk_cell HI2.out.c0 2
          have hc03 : v1.cell? ⟨w.heap.size, 3, none⟩ = some (.int .i64 0) := blk_cell HI2.out.c0 3
          have hc04 : v1.cell? ⟨w.heap.size, 4, none⟩ = some (.int .i64 0) := blk_cell HI2.out.c0 4
          have hc10 : v1.cell? ⟨w.heap.size + 1, 0, none⟩ = some (.int .i64 0) := blk_cell HI2.out.c1 0
          have hc11 : v1.cell? ⟨w.heap.size + 1, 1, none⟩ = some (.int .i64 0) := blk_cell HI2.out.c1 1
          have hc12 : v1.cell? ⟨w.heap.size + 1, 2, none⟩ = some (.int .i64 0) := blk_cell HI2.out.c1 2
          have hc13 : v1.cell? ⟨w.heap.size + 1, 3, none⟩ = some (.int .i64 0) := blk_cell HI2.out.c1 3
          have hc14 : v1.cell? ⟨w.heap.size + 1, 4, none⟩ = some (.int .i64 0) := blk_cell HI2.out.c1 4
          have hf0 := blk_frozen HI2.out.c0
          clear hbc hk1 hbw
          go_wp2_with fail
          refine bodyPost_ret (v := .tuple #[Cnt.zero.val, .int .i64 30]) (by simp [results, Tryz.results167, go_sem, hc00, hc01, hc02, hc03, hc04, Cnt.zero]) rfl ?_
          have hA : addA tr L l = (L, Cnt.zero, 30) := by rw [addA, if_neg (by rw [HA.out]; exact Bool.false_ne_true)]
          rw [hA]
          exact ⟨rfl, HI2.out.fin HSL.out (fr_sets _ _ (fun _ => .int .i64 0))⟩
    · have hall2 := HALL.out
      rw [List.take_of_length_le (by omega)] at hall2
      have HA2 := Lib.hid hall2
      have hk1 : ¬ (k : Int) < (l.length : Int) := by omega
      clear hall2
      go_wp2_with fail
      go_loopw [39] (fun i wr => ∃ (k : Nat), k ≤ l.length ∧ i = .int .i64 k ∧ AddIn w wr p a d tr S (addL (L, Cnt.zero) (l.take k))) (fun i _ => l.length - (intOf i).toNat)
      case atStart => exact ⟨0, by omega, rfl, HIN.out⟩
      case round =>
        obtain ⟨k, hk, rfl, hin⟩ := hrel
        have HIN := Lib.hid hin
        have hsz := hin.sz
        clear hin
        have hsum := addL_sum (L, Cnt.zero) (l.take k)
        have hgr := HIN.out.fo.gr
        by_cases hlt : k < l.length
        · obtain ⟨b1, o1, rfl, hb1, x0, x1, x2, x3, x4, x5⟩ := RdS.at_ (Fr.rdN HR.out HIN.out.fr hB HNS.out) hlt
          have hk1 : (k : Int) < (l.length : Int) := by omega
          have hfit := List.all_eq_true.1 HA2.out _ (List.getElem_mem hlt)
          have HST := Lib.hid (show addL (L, Cnt.zero) (l.take (k + 1)) = addS (addL (L, Cnt.zero) (l.take k)) l[k] by rw [List.take_succ_eq_append_getElem hlt, addL_snoc])
          rw [List.length_take, Nat.min_eq_left hk] at hsum
          generalize l[k] = s at *
          generalize addL (L, Cnt.zero) (l.take k) = st at *
          obtain ⟨L2, c⟩ := st
          have hcs : c.sum = k := by simpa [Cnt.sum, Cnt.zero] using hsum
          simp only [Cnt.sum] at hcs
          have hL64 := hgr.len
          dsimp only at hL64
          have hwid : wfI s.id := by have := ok_bounds (fits_ok hfit).1; exact wfI_of (by omega) (by omega)
          have hwpa : wfI s.pa := by have := ok_bounds (fits_ok hfit).1; exact wfI_of (by omega) (by omega)
          have HG := Lib.hid hgr
          have HFIT := Lib.hid hfit
          have HF := Lib.hid (add_facts HIN.out.fo s)
          have HCS := Lib.hid hcs
          clear hsum hfit hgr hcs
          go_wp2_with fail
          cases hat : atS L2 s.id with
          | none =>
            have hget : getS L2 s.id = default := by rw [getS, hat]; rfl
            have HLK : Hid (∀ W, Below (wr.heap.size + 1) (wr.alloc (.cells #[.int .i64 s.tr, .int .i64 s.id, .int .i64 s.pa, .int .i64 s.st, .int .i64 s.en, .string s.nm] 30)) W → (Instr.lookup 215 (.map (some a)) (.int .i64 s.id) true).run Tryz.prog W = .ok (.tuple #[.agg #[.int .i64 0, .int .i64 0, .int .i64 0, .int .i64 0, .int .i64 0, .string ⟨#[]⟩], .bool false]) W) := Lib.hid (by
              intro W hW
              have := (HF.out W hW).2.2.all.look hwid true
              rw [hget, hat] at this
              exact this)
            have HAT := Lib.hid hat
            clear hget hat
            have HB : Hid (wr.heap.size + 1 ≤ (wr.alloc (.cells #[.int .i64 s.tr, .int .i64 s.id, .int .i64 s.pa, .int .i64 s.st, .int .i64 s.en, .string s.nm] 30)).heap.size) := Lib.hid (by simp)
            refine wp_region_sched [(0, true), (1, true), (2, true), (3, true), (4, true), (5, true), (6, true), (7, true), (8, true), (9, true), (10, true), (11, false), (12, false), (13, true)] (fun W => Below (wr.heap.size + 1) (wr.alloc (.cells #[.int .i64 s.tr, .int .i64 s.id, .int .i64 s.pa, .int .i64 s.st, .int .i64 s.en, .string s.nm] 30)) W) (by kernel_rfl) (by kernel_rfl) rfl (by kernel_rfl) ((Below.refl _ _).drew) ?_
            repeat (first | (apply sched_take rfl; (focus (first | rfl | (go_simp; done))); (focus (intro W hW; obtain ⟨f1, f2, f3⟩ := HF.out W hW; have f4 := HLK.out W hW; go_simp; rfl)); (focus (intro K hK; go_simp; refine hK _ ?_; clear hK K))) | (apply sched_skip rfl; (focus (first | rfl | (go_simp; done))); (focus (intro K hK; go_simp; refine hK _ ?_; clear hK K))))
            apply sched_op rfl
            intro K hK
            go_simp
            go_wp2_with (fail)
            refine ⟨by repeat (first | exact Below.refl _ _ | assumption | refine Below.drew ?_ | refine below_alloc HB.out ?_ _), ?_⟩
            apply sched_op rfl
            intro K hK
            go_simp
            go_wp2_with (fail)
            refine ⟨by repeat (first | exact Below.refl _ _ | assumption | refine Below.drew ?_ | refine below_alloc HB.out ?_ _ | refine Below.setCell ?_ (by simp) _), ?_⟩
            repeat (first | (apply sched_take rfl; (focus (first | rfl | (go_simp; done))); (focus (intro W hW; obtain ⟨f1, f2, f3⟩ := HF.out W hW; have f4 := HLK.out W hW; go_simp; rfl)); (focus (intro K hK; go_simp; refine hK _ ?_; clear hK K))) | (apply sched_skip rfl; (focus (first | rfl | (go_simp; done))); (focus (intro K hK; go_simp; refine hK _ ?_; clear hK K))))
            refine sched_nil ?_
            have hfx := add_facts2 HIN.out s default (World.drew ((wr.alloc (.cells #[.int .i64 s.tr, .int .i64 s.id, .int .i64 s.pa, .int .i64 s.st, .int .i64 s.en, .string s.nm] 30)).alloc (.cells #[.int .i64 0, .int .i64 0, .int .i64 0, .int .i64 0, .int .i64 0, .string ⟨#[]⟩] 30))) rfl
            generalize (World.drew ((wr.alloc (.cells #[.int .i64 s.tr, .int .i64 s.id, .int .i64 s.pa, .int .i64 s.st, .int .i64 s.en, .string s.nm] 30)).alloc (.cells #[.int .i64 0, .int .i64 0, .int .i64 0, .int .i64 0, .int .i64 0, .string ⟨#[]⟩] 30))) = w2 at hfx ⊢
            obtain ⟨hin2, hfo2, hsb, hxb, hsz2⟩ := hfx
            have HIN2 := Lib.hid hin2
            have HFO2 := Lib.hid hfo2
            have HSZ2 := Lib.hid hsz2
            have hc10 : w2.cell? ⟨w.heap.size + 1, 0, none⟩ = some (.int .i64 c.ad) := blk_cell hin2.c1 0
            have hc11 : w2.cell? ⟨w.heap.size + 1, 1, none⟩ = some (.int .i64 c.sa) := blk_cell hin2.c1 1
            have hc12 : w2.cell? ⟨w.heap.size + 1, 2, none⟩ = some (.int .i64 c.ot) := blk_cell hin2.c1 2
            have hc13 : w2.cell? ⟨w.heap.size + 1, 3, none⟩ = some (.int .i64 c.cy) := blk_cell hin2.c1 3
            have hc14 : w2.cell? ⟨w.heap.size + 1, 4, none⟩ = some (.int .i64 c.fu) := blk_cell hin2.c1 4
            have hf1 := blk_frozen hin2.c1
            have hpc := blk_cell hfo2.hp
            have hpl := hfo2.lt p hfo2.sp
            clear hin2 hfo2 hsz2
            have hlen := HFO2.out.all.len 3
            by_cases h64 : 64 ≤ L2.length
            · have h64i : (64 : Int) ≤ (L2.length : Int) := by omega
              have hwr : wrap64 ((c.fu : Int) + 1) = (c.fu : Int) + 1 := IntWalk.wrap64_in _ (by have := HCS.out; omega)
              go_wp2_with fail
              go_roundw
              case rel =>
                refine ⟨k + 1, by omega, by go_num, ?_⟩
                rw [HST.out, addS_full HAT.out h64]
                exact HIN2.out.bump HSL.out 4 _ { c with fu := c.fu + 1 } (by simp [Cnt.cells])
              case measure => simp [intOf]; omega
            · have h64i : ¬ (64 : Int) ≤ (L2.length : Int) := by omega
              have HAL := Lib.hid HFO2.out.all
              have HP23 : Hid (∀ W, Below w2.heap.size w2 W → (∀ j, W.cell? ⟨p, j, none⟩ = (#[.map (some a), .map (some d), .int .i64 tr] : Array Value)[j]?) ∧ (∀ j, W.cell? ⟨wr.heap.size, j, none⟩ = (#[.int .i64 s.tr, .int .i64 s.id, .int .i64 s.pa, .int .i64 s.st, .int .i64 s.en, .string s.nm] : Array Value)[j]?)) := Lib.hid (fun W hW => ⟨blk_cell (HFO2.out.below hW (Nat.le_refl _)).hp, fun j => (hW.cell (by have := HSZ2.out; simp only; omega)).trans (hsb j)⟩)
              go_wp2_with fail
              clear hpc hlen
              have HB : Hid (w2.heap.size ≤ w2.heap.size) := Lib.hid (Nat.le_refl _)
              refine wp_region_sched [(0, true), (1, true), (2, true), (3, true), (4, true), (5, true), (6, true), (7, true), (8, false), (9, true)] (fun W => Below w2.heap.size w2 W) (by kernel_rfl) (by kernel_rfl) rfl (by kernel_rfl) ((Below.refl _ _).drew) ?_
              repeat (first | (apply sched_take rfl; (focus (first | rfl | (go_simp; done))); (focus (intro W hW; obtain ⟨g1, g2⟩ := HP23.out W hW; go_simp; rfl)); (focus (intro K hK; go_simp; refine hK _ ?_; clear hK K))) | (apply sched_skip rfl; (focus (first | rfl | (go_simp; done))); (focus (intro K hK; go_simp; refine hK _ ?_; clear hK K))))
              apply sched_op rfl
              intro K hK
              go_simp
              go_wp2_with (fail)
              refine (above_any (w := w2.drew) HAL.out (wf_pa HG.out) hL64 s.pa s.id hwpa).mono ?_
              rintro e v1 ⟨rfl, hba⟩
              have hk1 : Below w2.heap.size w2 v1 := below_step HB.out (Below.refl _ _).drew hba
              go_wp2_with fail
              refine ⟨by exact hk1, ?_⟩
              repeat (first | (apply sched_take rfl; (focus (first | rfl | (go_simp; done))); (focus (intro W hW; obtain ⟨g1, g2⟩ := HP23.out W hW; go_simp; rfl)); (focus (intro K hK; go_simp; refine hK _ ?_; clear hK K))) | (apply sched_skip rfl; (focus (first | rfl | (go_simp; done))); (focus (intro K hK; go_simp; refine hK _ ?_; clear hK K))))
              refine sched_nil ?_
              have hbw2 : Below wr.heap.size wr w2 := HSZ2.out.2
              have HBV : Hid (Below wr.heap.size wr v1) := Lib.hid (hbw2.trans (hk1.mono hbw2.size))
              have HIN3 : Hid (AddIn w v1 p a d tr S (L2, c)) := Lib.hid (HIN.out.below HBV.out)
              have HFO3 : Hid (Fo v1 p a d tr L2 (fun k => (S k ∨ (w.heap.size + 2 ≤ k ∧ k < wr.heap.size)))) := Lib.hid (HFO2.out.below hk1 (Nat.le_refl _))
              have hsb3 := (HP23.out v1 hk1).2
              have hszv : wr.heap.size + 2 ≤ v1.heap.size := by have h1 := HSZ2.out.1; have h2 := hk1.size; omega
              clear hba hk1 hbw2 hsb hxb hc10 hc11 hc12 hc13 hc14 hf1
              have hc10 : v1.cell? ⟨w.heap.size + 1, 0, none⟩ = some (.int .i64 c.ad) := blk_cell HIN3.out.c1 0
              have hc11 : v1.cell? ⟨w.heap.size + 1, 1, none⟩ = some (.int .i64 c.sa) := blk_cell HIN3.out.c1 1
              have hc12 : v1.cell? ⟨w.heap.size + 1, 2, none⟩ = some (.int .i64 c.ot) := blk_cell HIN3.out.c1 2
              have hc13 : v1.cell? ⟨w.heap.size + 1, 3, none⟩ = some (.int .i64 c.cy) := blk_cell HIN3.out.c1 3
              have hc14 : v1.cell? ⟨w.heap.size + 1, 4, none⟩ = some (.int .i64 c.fu) := blk_cell HIN3.out.c1 4
              have hf1 := blk_frozen HIN3.out.c1
              cases hab : aboveB L2 s.pa s.id
              · have HADD := Lib.hid hab
                obtain ⟨w3, hrun3, hf3, hsz3, A0, c0, hlk, A5, c5, w5, hrun5, hf5, w6, hrun6, hfo6, hfr6, hf36⟩ := HFO3.out.addSteps s HFIT.out HAT.out (by omega) hab
                have HP14 : Hid (∀ W, Fr (fun k => k = a) v1 W → (∀ j, W.cell? ⟨p, j, none⟩ = (#[.map (some a), .map (some d), .int .i64 tr] : Array Value)[j]?) ∧ (∀ j, W.cell? ⟨wr.heap.size, j, none⟩ = (#[.int .i64 s.tr, .int .i64 s.id, .int .i64 s.pa, .int .i64 s.st, .int .i64 s.en, .string s.nm] : Array Value)[j]?)) := Lib.hid (fun W hW => add_facts3 HFO3.out (fun hk => by rcases hk with hk | ⟨_, hk⟩; have := HSL.out _ hk; omega; omega) (by omega) hsb3 hW)
                have HP15 : Hid (∀ W, Fr (fun k => (S k ∨ (w.heap.size + 2 ≤ k ∧ k < wr.heap.size)) ∧ k ≠ p ∧ k ≠ a) w3 W → (∀ j, W.cell? ⟨p, j, none⟩ = (#[.map (some a), .map (some d), .int .i64 tr] : Array Value)[j]?) ∧ (∀ j, W.cell? ⟨wr.heap.size, j, none⟩ = (#[.int .i64 s.tr, .int .i64 s.id, .int .i64 s.pa, .int .i64 s.st, .int .i64 s.en, .string s.nm] : Array Value)[j]?)) := Lib.hid (fun W hW => add_facts4 HFO3.out (fun hk => by rcases hk with hk | ⟨_, hk⟩; have := HSL.out _ hk; omega; omega) (by omega) hsz3 hsb3 hf3 hW)
                have hrun3b : (Instr.mapUpdate 215 (.map (some a)) (.int .i64 s.id) (.agg #[.int .i64 s.tr, .int .i64 s.id, .int .i64 s.pa, .int .i64 s.st, .int .i64 s.en, .string s.nm])).run Tryz.prog v1.drew = .ok () w3 := hrun3
                have hlk0 := hlk w3.drew rfl
                have hlk1 := hlk (w3.alloc (.cells #[.int .i64 s.id] 3)).drew (Below.heap_alloc _ _ _ (by have := HFO3.out.lt d HFO3.out.sd; omega))
                have HIN6 : Hid (AddIn w w6 p a d tr S (L2 ++ [s], c)) := Lib.hid (HIN.out.added HSL.out HBV.out hfo6 hfr6)
                have HF3 := Lib.hid hf3
                have HF5 := Lib.hid hf5
                have HF36 := Lib.hid hf36
                have HNE := Lib.hid hfo6
                clear hrun3 hlk hf3 hf5 hf36 hfo6 hfr6 hsb3 hc10 hc11 hc12 hc13 hc14 hf1
                go_wp2_with fail
                refine wp_region_sched [(0, true), (1, true), (2, true), (3, true), (4, true), (5, true), (6, true), (7, true), (8, false)] (fun W => Fr (fun k => k = a) v1 W) (by kernel_rfl) (by kernel_rfl) rfl (by kernel_rfl) ((Fr.refl _ _).drew) ?_
                repeat (first | (apply sched_take rfl; (focus (first | rfl | (go_simp; done))); (focus (intro W hW; obtain ⟨g1, g2⟩ := HP14.out W hW; go_simp; rfl)); (focus (intro K hK; go_simp; refine hK _ ?_; clear hK K))) | (apply sched_skip rfl; (focus (first | rfl | (go_simp; done))); (focus (intro K hK; go_simp; refine hK _ ?_; clear hK K))))
                apply sched_op rfl
                intro K hK
                go_simp
                go_wp2_with (fail)
                refine ⟨by exact HF3.out, ?_⟩
                refine sched_nil ?_
                go_wp2_with fail
                refine wp_region_fork [0, 1, 2, 3, 4, 5, 6, 7, 8, 9, 10, 11, 12, 13, 15, 16] 14 17 [(17, false), (18, false), (19, false)] [(14, false), (18, false), (19, false)] (fun W => Fr (fun k => (S k ∨ (w.heap.size + 2 ≤ k ∧ k < wr.heap.size)) ∧ k ≠ p ∧ k ≠ a) w3 W) (by kernel_rfl) (by kernel_rfl) rfl rfl (by kernel_rfl) (by kernel_rfl) (by kernel_rfl) (by kernel_rfl) ((Fr.refl _ _).drew) ?_
                repeat (first | (apply take_one rfl; (focus (first | rfl | (go_simp; done))); (focus (intro W hW; obtain ⟨g1, g2⟩ := HP15.out W hW; go_simp; rfl)); (focus (intro K hK; go_simp; refine hK _ ?_; clear hK K))) | (apply take_skip rfl; (focus (first | rfl | (go_simp; done))); (focus (intro K hK; go_simp; refine hK _ ?_; clear hK K))))
                have hgoal : True := trivial
                refine take_nil ⟨?_, ?_⟩
                · apply sched_op rfl
                  intro K hK
                  go_simp
                  go_wp2_with (fail)
                  refine ⟨by exact (Fr.refl _ _).drew, ?_⟩
                  apply sched_op rfl
                  intro K hK
                  go_simp
                  go_wp2_with (fail)
                  refine ⟨by exact ((Fr.refl _ _).alloc _).drew, ?_⟩
                  apply sched_run (v := .slice A5 ((kidIds L2 s.pa).length + 1) c5) (w' := w5) rfl
                  · focus (first | rfl | (go_simp; done))
                  · focus (refine exec_app rfl ?_ ?_ hrun5 <;> go_simp)
                  · exact HF5.out
                  intro K hK; go_simp; refine hK _ ?_; clear hK K
                  apply sched_op rfl
                  intro K hK
                  go_simp
                  go_wp2_with (fail)
                  refine ⟨by exact HF36.out, ?_⟩
                  refine sched_nil ?_
                  have hc10 : w6.cell? ⟨w.heap.size + 1, 0, none⟩ = some (.int .i64 c.ad) := blk_cell HIN6.out.c1 0
                  have hc11 : w6.cell? ⟨w.heap.size + 1, 1, none⟩ = some (.int .i64 c.sa) := blk_cell HIN6.out.c1 1
                  have hc12 : w6.cell? ⟨w.heap.size + 1, 2, none⟩ = some (.int .i64 c.ot) := blk_cell HIN6.out.c1 2
                  have hc13 : w6.cell? ⟨w.heap.size + 1, 3, none⟩ = some (.int .i64 c.cy) := blk_cell HIN6.out.c1 3
                  have hc14 : w6.cell? ⟨w.heap.size + 1, 4, none⟩ = some (.int .i64 c.fu) := blk_cell HIN6.out.c1 4
                  have hf1 := blk_frozen HIN6.out.c1
                  have hwr : wrap64 ((c.ad : Int) + 1) = (c.ad : Int) + 1 := IntWalk.wrap64_in _ (by have := HCS.out; omega)
                  go_wp2_with fail
                  go_roundw
                  case rel =>
                    refine ⟨k + 1, by omega, by go_num, ?_⟩
                    rw [HST.out, addS_add HAT.out (by omega) HADD.out]
                    exact HIN6.out.bump HSL.out 0 _ { c with ad := c.ad + 1 } (by simp [Cnt.cells])
                  case measure => simp [intOf]; omega
                · apply sched_op rfl
                  intro K hK
                  go_simp
                  go_wp2_with (fail)
                  refine ⟨by exact ((Fr.refl _ _).alloc _).drew, ?_⟩
                  apply sched_op rfl
                  intro K hK
                  go_simp
                  go_wp2_with (fail)
                  refine ⟨by exact ((Fr.refl _ _).alloc _).drew, ?_⟩
                  apply sched_run (v := .slice A5 ((kidIds L2 s.pa).length + 1) c5) (w' := w5) rfl
                  · focus (first | rfl | (go_simp; done))
                  · focus (refine exec_app rfl ?_ ?_ hrun5 <;> go_simp)
                  · exact HF5.out
                  intro K hK; go_simp; refine hK _ ?_; clear hK K
                  apply sched_op rfl
                  intro K hK
                  go_simp
                  go_wp2_with (fail)
                  refine ⟨by exact HF36.out, ?_⟩
                  refine sched_nil ?_
                  have hc10 : w6.cell? ⟨w.heap.size + 1, 0, none⟩ = some (.int .i64 c.ad) := blk_cell HIN6.out.c1 0
                  have hc11 : w6.cell? ⟨w.heap.size + 1, 1, none⟩ = some (.int .i64 c.sa) := blk_cell HIN6.out.c1 1
                  have hc12 : w6.cell? ⟨w.heap.size + 1, 2, none⟩ = some (.int .i64 c.ot) := blk_cell HIN6.out.c1 2
                  have hc13 : w6.cell? ⟨w.heap.size + 1, 3, none⟩ = some (.int .i64 c.cy) := blk_cell HIN6.out.c1 3
                  have hc14 : w6.cell? ⟨w.heap.size + 1, 4, none⟩ = some (.int .i64 c.fu) := blk_cell HIN6.out.c1 4
                  have hf1 := blk_frozen HIN6.out.c1
                  have hwr : wrap64 ((c.ad : Int) + 1) = (c.ad : Int) + 1 := IntWalk.wrap64_in _ (by have := HCS.out; omega)
                  go_wp2_with fail
                  go_roundw
                  case rel =>
                    refine ⟨k + 1, by omega, by go_num, ?_⟩
                    rw [HST.out, addS_add HAT.out (by omega) HADD.out]
                    exact HIN6.out.bump HSL.out 0 _ { c with ad := c.ad + 1 } (by simp [Cnt.cells])
                  case measure => simp [intOf]; omega
              · have HCY := Lib.hid hab
                clear hab
                have hwr : wrap64 ((c.cy : Int) + 1) = (c.cy : Int) + 1 := IntWalk.wrap64_in _ (by have := HCS.out; omega)
                go_wp2_with fail
                go_roundw
                case rel =>
                  refine ⟨k + 1, by omega, by go_num, ?_⟩
                  rw [HST.out, addS_cycle HAT.out (by omega) HCY.out]
                  exact HIN3.out.bump HSL.out 3 _ { c with cy := c.cy + 1 } (by simp [Cnt.cells])
                case measure => simp [intOf]; omega
          | some o =>
            have hget : getS L2 s.id = o := by rw [getS, hat]; rfl
            have HLK : Hid (∀ W, Below (wr.heap.size + 1) (wr.alloc (.cells #[.int .i64 s.tr, .int .i64 s.id, .int .i64 s.pa, .int .i64 s.st, .int .i64 s.en, .string s.nm] 30)) W → (Instr.lookup 215 (.map (some a)) (.int .i64 s.id) true).run Tryz.prog W = .ok (.tuple #[.agg #[.int .i64 o.tr, .int .i64 o.id, .int .i64 o.pa, .int .i64 o.st, .int .i64 o.en, .string o.nm], .bool true]) W) := Lib.hid (by
              intro W hW
              have := (HF.out W hW).2.2.all.look hwid true
              rw [hget, hat] at this
              exact this)
            have HAT := Lib.hid hat
            clear hget hat
            have HB : Hid (wr.heap.size + 1 ≤ (wr.alloc (.cells #[.int .i64 s.tr, .int .i64 s.id, .int .i64 s.pa, .int .i64 s.st, .int .i64 s.en, .string s.nm] 30)).heap.size) := Lib.hid (by simp)
            refine wp_region_sched [(0, true), (1, true), (2, true), (3, true), (4, true), (5, true), (6, true), (7, true), (8, true), (9, true), (10, true), (11, false), (12, false), (13, true)] (fun W => Below (wr.heap.size + 1) (wr.alloc (.cells #[.int .i64 s.tr, .int .i64 s.id, .int .i64 s.pa, .int .i64 s.st, .int .i64 s.en, .string s.nm] 30)) W) (by kernel_rfl) (by kernel_rfl) rfl (by kernel_rfl) ((Below.refl _ _).drew) ?_
            repeat (first | (apply sched_take rfl; (focus (first | rfl | (go_simp; done))); (focus (intro W hW; obtain ⟨f1, f2, f3⟩ := HF.out W hW; have f4 := HLK.out W hW; go_simp; rfl)); (focus (intro K hK; go_simp; refine hK _ ?_; clear hK K))) | (apply sched_skip rfl; (focus (first | rfl | (go_simp; done))); (focus (intro K hK; go_simp; refine hK _ ?_; clear hK K))))
            apply sched_op rfl
            intro K hK
            go_simp
            go_wp2_with (fail)
            refine ⟨by repeat (first | exact Below.refl _ _ | assumption | refine Below.drew ?_ | refine below_alloc HB.out ?_ _), ?_⟩
            apply sched_op rfl
            intro K hK
            go_simp
            go_wp2_with (fail)
            refine ⟨by repeat (first | exact Below.refl _ _ | assumption | refine Below.drew ?_ | refine below_alloc HB.out ?_ _ | refine Below.setCell ?_ (by simp) _), ?_⟩
            repeat (first | (apply sched_take rfl; (focus (first | rfl | (go_simp; done))); (focus (intro W hW; obtain ⟨f1, f2, f3⟩ := HF.out W hW; have f4 := HLK.out W hW; go_simp; rfl)); (focus (intro K hK; go_simp; refine hK _ ?_; clear hK K))) | (apply sched_skip rfl; (focus (first | rfl | (go_simp; done))); (focus (intro K hK; go_simp; refine hK _ ?_; clear hK K))))
            refine sched_nil ?_
            have hfx := add_facts2 HIN.out s o (World.drew ((wr.alloc (.cells #[.int .i64 s.tr, .int .i64 s.id, .int .i64 s.pa, .int .i64 s.st, .int .i64 s.en, .string s.nm] 30)).alloc (.cells #[.int .i64 o.tr, .int .i64 o.id, .int .i64 o.pa, .int .i64 o.st, .int .i64 o.en, .string o.nm] 30))) rfl
            generalize (World.drew ((wr.alloc (.cells #[.int .i64 s.tr, .int .i64 s.id, .int .i64 s.pa, .int .i64 s.st, .int .i64 s.en, .string s.nm] 30)).alloc (.cells #[.int .i64 o.tr, .int .i64 o.id, .int .i64 o.pa, .int .i64 o.st, .int .i64 o.en, .string o.nm] 30))) = w2 at hfx ⊢
            obtain ⟨hin2, hfo2, hsb, hxb, hsz2⟩ := hfx
            have HIN2 := Lib.hid hin2
            have HFO2 := Lib.hid hfo2
            have HSZ2 := Lib.hid hsz2
            have hc10 : w2.cell? ⟨w.heap.size + 1, 0, none⟩ = some (.int .i64 c.ad) := blk_cell hin2.c1 0
            have hc11 : w2.cell? ⟨w.heap.size + 1, 1, none⟩ = some (.int .i64 c.sa) := blk_cell hin2.c1 1
            have hc12 : w2.cell? ⟨w.heap.size + 1, 2, none⟩ = some (.int .i64 c.ot) := blk_cell hin2.c1 2
            have hc13 : w2.cell? ⟨w.heap.size + 1, 3, none⟩ = some (.int .i64 c.cy) := blk_cell hin2.c1 3
            have hc14 : w2.cell? ⟨w.heap.size + 1, 4, none⟩ = some (.int .i64 c.fu) := blk_cell hin2.c1 4
            have hf1 := blk_frozen hin2.c1
            have hpc := blk_cell hfo2.hp
            have hpl := hfo2.lt p hfo2.sp
            clear hin2 hfo2 hsz2
            by_cases hos : o = s
            · have hcmp := eql_span (s := o) (t := s) (q := true) (by simp [hos])
              have HOS := Lib.hid hos
              clear hos
              have hwr : wrap64 ((c.sa : Int) + 1) = (c.sa : Int) + 1 := IntWalk.wrap64_in _ (by have := HCS.out; omega)
              go_wp2_with fail
              go_roundw
              case rel =>
                refine ⟨k + 1, by omega, by go_num, ?_⟩
                rw [HST.out, addS_same HAT.out HOS.out]
                exact HIN2.out.bump HSL.out 1 _ { c with sa := c.sa + 1 } (by simp [Cnt.cells])
              case measure => simp [intOf]; omega
            · have hcmp := eql_span (s := o) (t := s) (q := false) (by simp [hos])
              have HOS := Lib.hid hos
              clear hos
              have hwr : wrap64 ((c.ot : Int) + 1) = (c.ot : Int) + 1 := IntWalk.wrap64_in _ (by have := HCS.out; omega)
              go_wp2_with fail
              go_roundw
              case rel =>
                refine ⟨k + 1, by omega, by go_num, ?_⟩
                rw [HST.out, addS_other HAT.out HOS.out]
                exact HIN2.out.bump HSL.out 2 _ { c with ot := c.ot + 1 } (by simp [Cnt.cells])
              case measure => simp [intOf]; omega
        · have hAA : addA tr L l = ((addL (L, Cnt.zero) l).1, (addL (L, Cnt.zero) l).2, 0) := by rw [addA, if_pos HA2.out]
          rw [List.take_of_length_le (by omega)] at hsum
          have hin := HIN.out
          rw [List.take_of_length_le (by omega)] at hin
          have HIN9 := Lib.hid hin
          have HAA := Lib.hid hAA
          have hk1 : ¬ (k : Int) < (l.length : Int) := by omega
          clear HIN hin hAA hgr hsum
          generalize addL (L, Cnt.zero) l = st at *
          obtain ⟨L2, c⟩ := st
          have hc00 : wr.cell? ⟨w.heap.size, 0, none⟩ = some (.int .i64 0) := blk_cell HIN9.out.c0 0
          have hc01 : wr.cell? ⟨w.heap.size, 1, none⟩ = some (.int .i64 0) := blk_cell HIN9.out.c0 1
          have hc02 : wr.cell? ⟨w.heap.size, 2, none⟩ = some (.int .i64 0) := blk_cell HIN9.out.c0 2
          have hc03 : wr.cell? ⟨w.heap.size, 3, none⟩ = some (.int .i64 0) := blk_cell HIN9.out.c0 3
          have hc04 : wr.cell? ⟨w.heap.size, 4, none⟩ = some (.int .i64 0) := blk_cell HIN9.out.c0 4
          have hc10 : wr.cell? ⟨w.heap.size + 1, 0, none⟩ = some (.int .i64 c.ad) := blk_cell HIN9.out.c1 0
          have hc11 : wr.cell? ⟨w.heap.size + 1, 1, none⟩ = some (.int .i64 c.sa) := blk_cell HIN9.out.c1 1
          have hc12 : wr.cell? ⟨w.heap.size + 1, 2, none⟩ = some (.int .i64 c.ot) := blk_cell HIN9.out.c1 2
          have hc13 : wr.cell? ⟨w.heap.size + 1, 3, none⟩ = some (.int .i64 c.cy) := blk_cell HIN9.out.c1 3
          have hc14 : wr.cell? ⟨w.heap.size + 1, 4, none⟩ = some (.int .i64 c.fu) := blk_cell HIN9.out.c1 4
          have hf0 := blk_frozen HIN9.out.c0
          go_wp2_with fail
          refine bodyPost_ret (v := .tuple #[c.val, .int .i64 0]) (by simp [results, Tryz.results167, go_sem, hc00, hc01, hc02, hc03, hc04]) rfl ?_
          rw [HAA.out]
          exact ⟨rfl, HIN9.out.fin HSL.out (fr_sets _ _ (fun i => match i with | 0 => .int .i64 c.ad | 1 => .int .i64 c.sa | 2 => .int .i64 c.ot | 3 => .int .i64 c.cy | 4 => .int .i64 c.fu))⟩

theorem add_any {w : World} {p a d : Nat} {tr : Int} {L : List Sp} {S : Nat → Prop} (h : Fo w p a d tr L S) (A : Option Addr) (n cap B : Nat) (l : List Sp) (hB : B ≤ w.heap.size) (hbig : n ≤ 1000000) (hnm : ∀ s ∈ l, s.nm.size ≤ 140737488355328) (hr : RdS w B A n l) (hS : ∀ k, A.map (·.block) = some k → ¬ S k) :
    Calls Tryz.prog 167 #[.pointer (some ⟨p, 0, none⟩), .slice A n cap] w (ResAdd w p a d tr S (addA tr L l)) := add_all h A n cap B l hB hbig hnm hr (fun _ => hS)
end Go.Proofs.YtempkjnaahgbhaaGreatDoor
