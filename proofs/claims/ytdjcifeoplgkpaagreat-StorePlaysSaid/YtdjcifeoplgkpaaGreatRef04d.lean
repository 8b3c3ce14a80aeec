/-
  The walk of the reference's forest's Add: the counts that Add tells, and the forest behind it. Conditions: the reference's forest lies in memory, the spans read as a list.
-/
import Derived.Test.YtdjcifeoplgkpaaGreatRef04b
import Derived.Test.YtdjcifeoplgkpaaGreatSched
import Derived.Test.YtdjcifeoplgkpaaGreatForest2
import Derived.Test.YtdjcifeoplgkpaaGreatRefCheck
namespace Go.Proofs.YtdjcifeoplgkpaaGreat
open Go Go.RowKit Go.Maps

/-- The reference's forest in block x; all it has lies in S. -/
structure RF (w : World) (x : Nat) (tr : Int) (L : List Sp) (S : Nat → Prop) : Prop where
  ex : ∃ A c, Rf w x A c tr L ∧ ∀ k, A.map (·.block) = some k → S k ∧ k ≠ x
  sx : S x
  lt : ∀ k, S k → k < w.heap.size
section
variable {w w' : World} {x : Nat} {tr : Int} {L : List Sp} {S S2 : Nat → Prop}
theorem RF.fr (h : RF w x tr L S) (hf : Fr S2 w w') (hS : ∀ k, S k → ¬ S2 k) : RF w' x tr L S := by
  obtain ⟨A, c, h1, h2⟩ := h.ex
  exact ⟨⟨A, c, h1.fr hf (hS x h.sx) (fun k hk => hS k (h2 k hk).1), h2⟩, h.sx, fun k hk => Nat.lt_of_lt_of_le (h.lt k hk) hf.size⟩
theorem RF.below {B : Nat} (h : RF w x tr L S) (hb : Below B w w') (hB : w.heap.size ≤ B) : RF w' x tr L S :=
  h.fr (S2 := fun _ => False) ⟨hb.os, hb.tape, hb.output, hb.size, fun k hk _ => hb.block k (by omega)⟩ (fun _ _ h => h)
theorem RF.mono (h : RF w x tr L S) (hS : ∀ k, S k → S2 k) (hl : ∀ k, S2 k → k < w.heap.size) : RF w x tr L S2 := by
  obtain ⟨A, c, h1, h2⟩ := h.ex
  exact ⟨⟨A, c, h1, fun k hk => ⟨hS k (h2 k hk).1, (h2 k hk).2⟩⟩, hS _ h.sx, hl⟩
theorem RF.len (h : RF w x tr L S) : L.length ≤ 64 := by obtain ⟨A, c, h1, _⟩ := h.ex; exact h1.len
end
/-- What the reference's Add leaves. -/
def ResRAdd (w : World) (x : Nat) (tr : Int) (S : Nat → Prop) (r : List Sp × Cnt × Int) (e : Ending) (w' : World) : Prop :=
  e = .returned (.tuple #[r.2.1.val, .int .i64 r.2.2]) ∧ RF w' x tr r.1 (fun k => S k ∨ (w.heap.size ≤ k ∧ k < w'.heap.size)) ∧ Fr S w w'

/-- On the way through it. -/
structure RIn (w wr : World) (x : Nat) (tr : Int) (S : Nat → Prop) (st : List Sp × Cnt) : Prop where
  rf : RF wr x tr st.1 (fun k => S k ∨ (w.heap.size + 2 ≤ k ∧ k < wr.heap.size))
  fr : Fr S w wr
  c0 : wr.heap[w.heap.size]? = some (.cells Cnt.zero.cells 40 (0, 0))
  c1 : wr.heap[w.heap.size + 1]? = some (.cells st.2.cells 40 (0, 0))
  sz : w.heap.size + 2 ≤ wr.heap.size
section
variable {w wr w1 : World} {x : Nat} {tr : Int} {S : Nat → Prop} {st : List Sp × Cnt}
theorem RIn.below (h : RIn w wr x tr S st) (hb : Below wr.heap.size wr w1) : RIn w w1 x tr S st :=
  have hs := h.sz
  have hz := hb.size
  ⟨(h.rf.below hb (Nat.le_refl _)).mono (fun k hk => hk.imp id fun ⟨h1, h2⟩ => ⟨h1, by omega⟩) (fun k hk => by
      rcases hk with hk | ⟨_, hk⟩
      · have := h.rf.lt k (.inl hk); omega
      · exact hk),
    h.fr.trans (Fr.of_below hb), (hb.block _ (by omega)).trans h.c0, (hb.block _ (by omega)).trans h.c1, by omega⟩
theorem RIn.bump (h : RIn w wr x tr S st) (hS : ∀ k, S k → k < w.heap.size) (i : Nat) (v : Value) (c' : Cnt) (hc : st.2.cells.setIfInBounds i v = c'.cells) : RIn w (wr.setCell ⟨w.heap.size + 1, i, none⟩ v) x tr S (st.1, c') := by
  have hs := h.sz
  have hf : Fr (fun k => k = w.heap.size + 1) wr (wr.setCell ⟨w.heap.size + 1, i, none⟩ v) := Fr.setCell (S := fun k => k = w.heap.size + 1) (Fr.refl _ _) rfl v
  have hz : (wr.setCell ⟨w.heap.size + 1, i, none⟩ v).heap.size = wr.heap.size := by simp [World.setCell]
  refine ⟨?_, h.fr.step hf (fun j hj => .inr (by omega)), (hf.block _ (by omega) (by omega)).trans h.c0, ?_, by omega⟩
  · have := h.rf.fr hf (fun k hk he => by
      rcases hk with hk | ⟨hk, _⟩
      · have := hS k hk; omega
      · omega)
    rw [hz]; exact this
  · rw [← hc]; exact blk_set h.c1 i v
theorem RIn.fin (h : RIn w wr x tr S st) (hS : ∀ k, S k → k < w.heap.size) {w1 : World} (hf : Fr (fun k => k = w.heap.size) wr w1) :
    RF w1 x tr st.1 (fun k => S k ∨ (w.heap.size ≤ k ∧ k < w1.heap.size)) ∧ Fr S w w1 := by
  have hs := h.sz
  have hz := hf.size
  refine ⟨(h.rf.fr hf (fun k hk he => ?_)).mono (fun k hk => ?_) (fun k hk => ?_), h.fr.step hf (fun j hj => .inr (by omega))⟩
  · rcases hk with hk | ⟨hk, _⟩
    · have := hS k hk; omega
    · omega
  · rcases hk with hk | ⟨h1, h2⟩
    · exact .inl hk
    · exact .inr ⟨by omega, by omega⟩
  · rcases hk with hk | ⟨_, hk⟩
    · have := hS k hk; omega
    · exact hk
/-- The new list's slice is stored. -/
theorem RIn.stored (h : RIn w wr x tr S st) (hS : ∀ k, S k → k < w.heap.size) {w6 : World} {s : Sp} (hl : st.1.length < 64) {A : Option Addr} {c : Nat} (hb : Below wr.heap.size wr w6)
    (hown : w6.ownsRow wr.heap.size 38 6 (.slice A (st.1.length + 1) c) (st.1.length + 1) ((st.1 ++ [s]).flatMap Sp.cells)) (hx : x < w.heap.size) :
    RIn w (w6.setCell ⟨x, 1, none⟩ (.slice A (st.1.length + 1) c)) x tr S (st.1 ++ [s], st.2) := by
  have h6 := h.below hb
  have hs := h.sz
  have hz := hb.size
  have hf : Fr (fun k => k = x) w6 (w6.setCell ⟨x, 1, none⟩ (.slice A (st.1.length + 1) c)) := Fr.setCell (S := fun k => k = x) (Fr.refl _ _) rfl _
  have hz6 : (w6.setCell ⟨x, 1, none⟩ (.slice A (st.1.length + 1) c)).heap.size = w6.heap.size := by simp [World.setCell]
  have hA : ∀ k, A.map (·.block) = some k → wr.heap.size ≤ k ∧ k < w6.heap.size := fun k hk => hown.lt k (by rw [← hk]; cases A <;> rfl)
  obtain ⟨A0, c0, hr, _⟩ := h6.rf.ex
  refine ⟨⟨⟨A, c, ⟨?_, ?_, by simp; omega⟩, fun k hk => ?_⟩, .inl (by
      rcases h.rf.sx with h | h
      · exact h
      · omega), fun k hk => ?_⟩, h6.fr.trans (hf.mono (fun k hk => by
      subst hk
      rcases h.rf.sx with h | h
      · exact h
      · omega)), (hf.block _ (by omega) (by omega)).trans h6.c0, (hf.block _ (by omega) (by omega)).trans h6.c1, by omega⟩
  · have := blk_set hr.hp 1 (.slice A (st.1.length + 1) c)
    simpa using this
  · have := Fr.rdA (Rd.of_own hown) hf (Nat.le_refl _) (fun k hk e => by have := (hA k hk).1; omega)
    rw [hz6]
    simpa [RdS] using this
  · have := hA k hk
    exact ⟨.inr ⟨by omega, by omega⟩, by omega⟩
  · rw [hz6]
    rcases hk with hk | hk
    · have := hS k hk; omega
    · omega
end
theorem radd_facts {wr : World} {x : Nat} {tr : Int} {L : List Sp} {A : Option Addr} {c0 : Nat} (h : Rf wr x A c0 tr L) (s : Sp) (W : World) (hW : Below (wr.heap.size + 1) (wr.alloc (.cells #[.int .i64 s.tr, .int .i64 s.id, .int .i64 s.pa, .int .i64 s.st, .int .i64 s.en, .string s.nm] 38)) W) :
    (∀ j, W.cell? ⟨x, j, none⟩ = (#[.int .i64 tr, .slice A L.length c0] : Array Value)[j]?) ∧ (∀ j, W.cell? ⟨wr.heap.size, j, none⟩ = (#[.int .i64 s.tr, .int .i64 s.id, .int .i64 s.pa, .int .i64 s.st, .int .i64 s.en, .string s.nm] : Array Value)[j]?) := by
  have hb : Below wr.heap.size wr W := ((Below.refl _ _).alloc (Nat.le_refl _) _).trans (hW.mono (by omega))
  exact ⟨blk_cell (h.below hb (Nat.le_refl _)).hp, blk_cell (blk_below hW (by omega) (heap_alloc_new wr _))⟩
/-- Spans appended to spans of the call's own. -/
theorem app_spans {W : World} {base n c0 B m c : Nat} {A0 A : Option Addr} {xs l : List Sp} (hown : W.ownsRow base 38 6 (.slice A0 n c0) n (xs.flatMap Sp.cells)) (hr : RdS W B A m l) (hnm : n + m ≤ 1000000) (hbase : base ≤ W.heap.size) :
    ∃ A' c' w', (Builtin.append_ #[31, 31] 31 #[.slice A0 n c0, .slice A m c]).run Tryz.prog W = .ok (.slice A' (n + m) c') w' ∧ w'.ownsRow base 38 6 (.slice A' (n + m) c') (n + m) ((xs ++ l).flatMap Sp.cells) ∧ Below base W w' ∧ W.grownBy w' (A0.map (·.block)) := by
  obtain ⟨i0, hi0, hz0, hz1, hz2⟩ := info_parts Tryz.infoSpan
  obtain ⟨A', c', w', h1, h2, h3, h4⟩ := run_app (P := Tryz.prog) W base 31 31 38 i0 _ 6 56 Tryz.underlying31 hi0 hz0 hz1 hz2 rfl (by omega) A0 n c0 _ hown B A m c _ hr (cells_oneCell _) (by unfold maxLen; omega) (by omega) hbase
  exact ⟨A', c', w', h1, by rw [List.flatMap_append]; exact h2, below_app (Below.refl _ _) hown h3 hbase, h3⟩

set_option maxRecDepth 100000 in
set_option maxHeartbeats 4000000 in
theorem radd_any {w : World} {x : Nat} {tr : Int} {L : List Sp} {S : Nat → Prop} (h : RF w x tr L S) (A : Option Addr) (n cap B : Nat) (l : List Sp) (hB : B ≤ w.heap.size) (hbig : n ≤ 1000000) (hnm : ∀ s ∈ l, s.nm.size ≤ 140737488355328) (hr : RdS w B A n l) (hS : 0 < n → ∀ k, A.map (·.block) = some k → ¬ S k) :
    Calls Tryz.prog 38 #[.pointer (some ⟨x, 0, none⟩), .slice A n cap] w (ResRAdd w x tr S (addA tr L l)) := by
  have hlen := hr.len
  subst hlen
  have HR := Lib.hid hr
  have HNM := Lib.hid hnm
  have hSlt := h.lt
  have hxw := h.lt x h.sx
  have HSL : Hid (∀ k, S k → k < w.heap.size) := Lib.hid hSlt
  have HNS := Lib.hid hS
  have hz2 : ((w.alloc (.cells Cnt.zero.cells 40)).alloc (.cells Cnt.zero.cells 40)).heap.size = w.heap.size + 2 := by simp
  have hI : RIn w ((w.alloc (.cells Cnt.zero.cells 40)).alloc (.cells Cnt.zero.cells 40)) x tr S (L, Cnt.zero) := by
    have hb : Below w.heap.size w ((w.alloc (.cells Cnt.zero.cells 40)).alloc (.cells Cnt.zero.cells 40)) := ((Below.refl _ _).alloc (Nat.le_refl _) _).alloc (by simp) _
    refine ⟨(h.below hb (Nat.le_refl _)).mono (fun k hk => .inl hk) (fun k hk => ?_), Fr.of_below hb, ?_, ?_, by rw [hz2]; exact Nat.le_refl _⟩
    · rw [hz2] at hk ⊢
      rcases hk with hk | hk
      · have := hSlt k hk; omega
      · omega
    · exact blk_below ((Below.refl (w.heap.size + 1) _).alloc (by simp) _) (by omega) (heap_alloc_new w _)
    · have := heap_alloc_new (w.alloc (.cells Cnt.zero.cells 40)) (.cells Cnt.zero.cells 40)
      rw [World.size_alloc] at this
      exact this
  have HI := Lib.hid hI
  clear hr h hnm hSlt hS hz2 hI
  go_enter Tryz.func38, Tryz.ntmps38
  go_wp2_with fail
  go_loopw [16] (fun i wr => ∃ (k : Nat), k ≤ l.length ∧ i = .int .i64 k ∧ (l.take k).all (fits tr) = true ∧ RIn w wr x tr S (L, Cnt.zero)) (fun i _ => l.length - (intOf i).toNat)
  case atStart => exact ⟨0, by omega, rfl, rfl, HI.out⟩
  case round =>
    obtain ⟨k, hk, rfl, hall, hin⟩ := hrel
    have HIN := Lib.hid hin
    have HALL := Lib.hid hall
    have hsz := hin.sz
    clear hin hall
    by_cases hlt : k < l.length
    · obtain ⟨b1, o1, rfl, hb1, x0, x1, x2, x3, x4, x5⟩ := RdS.at_ (Fr.rdN HR.out HIN.out.fr hB HNS.out) hlt
      have hk1 : (k : Int) < (l.length : Int) := by omega
      have hnm := HNM.out _ (List.getElem_mem hlt)
      have HTK := Lib.hid (all_take_succ l (fits tr) k hlt)
      have HBAD := Lib.hid (all_false_of l (fits tr) k hlt)
      generalize l[k] = s at *
      obtain ⟨A0, c0, hrf0, _⟩ := HIN.out.rf.ex
      have HF := Lib.hid (radd_facts hrf0 s)
      clear hrf0
      go_wp2_with fail
      cases hok : s.ok
      · have HC : Hid (s.check = 30) := Lib.hid (Sp.check_f hok)
        have HA : Hid (l.all (fits tr) = false) := Lib.hid (HBAD.out (by simp [fits, hok]))
        clear hok
        refine wp_region_sched [(0, true), (1, false), (2, true), (3, true), (4, true), (5, true), (6, true), (7, true), (8, true), (9, true), (10, true), (11, true)] (fun W => Below (wr.heap.size + 1) (wr.alloc (.cells #[.int .i64 s.tr, .int .i64 s.id, .int .i64 s.pa, .int .i64 s.st, .int .i64 s.en, .string s.nm] 38)) W) (by kernel_rfl) (by kernel_rfl) rfl (by kernel_rfl) ((Below.refl _ _).drew) ?_
        repeat (first | (apply sched_take rfl; (focus (first | rfl | (go_simp; done))); (focus (intro W hW; obtain ⟨f1, f2⟩ := HF.out W hW; go_simp; rfl)); (focus (intro K hK; go_simp; refine hK _ ?_; clear hK K))) | (apply sched_skip rfl; (focus (first | rfl | (go_simp; done))); (focus (intro K hK; go_simp; refine hK _ ?_; clear hK K))))
        apply sched_op rfl
        intro K hK
        go_simp
        go_wp2_with (fail)
        refine (refCheck_any s _ hnm).mono ?_
        rintro e v1 ⟨rfl, hbc⟩
        have hk1 : Below (wr.heap.size + 1) (wr.alloc (.cells #[.int .i64 s.tr, .int .i64 s.id, .int .i64 s.pa, .int .i64 s.st, .int .i64 s.en, .string s.nm] 38)) v1 := below_step (by simp) (Below.refl _ _).drew hbc
        rw [HC.out]
        go_wp2_with fail
        refine ⟨by exact hk1, ?_⟩
        repeat (first | (apply sched_take rfl; (focus (first | rfl | (go_simp; done))); (focus (intro W hW; obtain ⟨f1, f2⟩ := HF.out W hW; go_simp; rfl)); (focus (intro K hK; go_simp; refine hK _ ?_; clear hK K))) | (apply sched_skip rfl; (focus (first | rfl | (go_simp; done))); (focus (intro K hK; go_simp; refine hK _ ?_; clear hK K))))
        refine sched_nil ?_
        have hbw : Below wr.heap.size wr v1 := ((Below.refl _ _).alloc (Nat.le_refl _) _).trans (hk1.mono (by omega))
        have HI2 := Lib.hid (HIN.out.below hbw)
        have hc00 : v1.cell? ⟨w.heap.size, 0, none⟩ = some (.int .i64 0) := blk_cell HI2.out.c0 0
        have hc01 : v1.cell? ⟨w.heap.size, 1, none⟩ = some (.int .i64 0) := blk_cell HI2.out.c0 1
        have hc02 : v1.cell? ⟨w.heap.size, 2, none⟩ = some (.int .i64 0) := blk_cell HI2.out.c0 2
        have hc03 : v1.cell? ⟨w.heap.size, 3, none⟩ = some (.int .i64 0) := blk_cell HI2.out.c0 3
        have hc04 : v1.cell? ⟨w.heap.size, 4, none⟩ = some (.int .i64 0) := blk_cell HI2.out.c0 4
        have hc10 : v1.cell? ⟨w.heap.size + 1, 0, none⟩ = some (.int .i64 0) := blk_cell HI2.out.c1 0
        have hc11 : v1.cell? ⟨w.heap.size + 1, 1, none⟩ = some (.int .i64 0) := blk_cell HI2.out.c1 1
        have hc12 : v1.cell? ⟨w.heap.size + 1, 2, none⟩ = some (.int .i64 0) := blk_cell HI2.out.c1 2
        have hc13 : v1.cell? ⟨w.heap.size + 1, 3, none⟩ = some (.int .i64 0) := blk_cell HI2.out.c1 3
        have hc14 : v1.cell? ⟨w.heap.size + 1, 4, none⟩ = some (.int .i64 0) := blk_cell HI2.out.c1 4
        have hf0 := blk_frozen HI2.out.c0
        clear hbc hk1 hbw
        go_wp2_with fail
        refine bodyPost_ret (v := .tuple #[Cnt.zero.val, .int .i64 30]) (by simp [results, Tryz.results38, go_sem, hc00, hc01, hc02, hc03, hc04, Cnt.zero]) rfl ?_
        have hA : addA tr L l = (L, Cnt.zero, 30) := by rw [addA, if_neg (by rw [HA.out]; exact Bool.false_ne_true)]
        rw [hA]
        exact ⟨rfl, HI2.out.fin HSL.out (fr_sets _ _ (fun _ => .int .i64 0))⟩
      · have HC : Hid (s.check = 0) := Lib.hid (Sp.check_t hok)
        cases htr : (s.tr != tr)
        · have HA : Hid (fits tr s = true) := Lib.hid (by have : s.tr = tr := (by simpa using htr); simp [fits, hok, this])
          clear hok
          refine wp_region_sched [(0, true), (1, false), (2, true), (3, true), (4, true), (5, true), (6, true), (7, true), (8, true), (9, true), (10, true), (11, true)] (fun W => Below (wr.heap.size + 1) (wr.alloc (.cells #[.int .i64 s.tr, .int .i64 s.id, .int .i64 s.pa, .int .i64 s.st, .int .i64 s.en, .string s.nm] 38)) W) (by kernel_rfl) (by kernel_rfl) rfl (by kernel_rfl) ((Below.refl _ _).drew) ?_
          repeat (first | (apply sched_take rfl; (focus (first | rfl | (go_simp; done))); (focus (intro W hW; obtain ⟨f1, f2⟩ := HF.out W hW; go_simp; rfl)); (focus (intro K hK; go_simp; refine hK _ ?_; clear hK K))) | (apply sched_skip rfl; (focus (first | rfl | (go_simp; done))); (focus (intro K hK; go_simp; refine hK _ ?_; clear hK K))))
          apply sched_op rfl
          intro K hK
          go_simp
          go_wp2_with (fail)
          refine (refCheck_any s _ hnm).mono ?_
          rintro e v1 ⟨rfl, hbc⟩
          have hk1 : Below (wr.heap.size + 1) (wr.alloc (.cells #[.int .i64 s.tr, .int .i64 s.id, .int .i64 s.pa, .int .i64 s.st, .int .i64 s.en, .string s.nm] 38)) v1 := below_step (by simp) (Below.refl _ _).drew hbc
          rw [HC.out]
          go_wp2_with fail
          refine ⟨by exact hk1, ?_⟩
          repeat (first | (apply sched_take rfl; (focus (first | rfl | (go_simp; done))); (focus (intro W hW; obtain ⟨f1, f2⟩ := HF.out W hW; go_simp; rfl)); (focus (intro K hK; go_simp; refine hK _ ?_; clear hK K))) | (apply sched_skip rfl; (focus (first | rfl | (go_simp; done))); (focus (intro K hK; go_simp; refine hK _ ?_; clear hK K))))
          refine sched_nil ?_
          go_wp2_with fail
          have hbw : Below wr.heap.size wr v1 := ((Below.refl _ _).alloc (Nat.le_refl _) _).trans (hk1.mono (by omega))
          go_roundw
          case rel => exact ⟨k + 1, by omega, by go_num, by rw [HTK.out, HALL.out, HA.out]; rfl, HIN.out.below hbw⟩
          case measure => simp [intOf]; omega
        · have HA : Hid (l.all (fits tr) = false) := Lib.hid (HBAD.out (by have : ¬ s.tr = tr := (by simpa using htr); simp [fits, this]))
          clear hok
          refine wp_region_sched [(0, true), (1, false), (2, true), (3, true), (4, true), (5, true), (6, true), (7, true), (8, true), (9, true), (10, true), (11, true)] (fun W => Below (wr.heap.size + 1) (wr.alloc (.cells #[.int .i64 s.tr, .int .i64 s.id, .int .i64 s.pa, .int .i64 s.st, .int .i64 s.en, .string s.nm] 38)) W) (by kernel_rfl) (by kernel_rfl) rfl (by kernel_rfl) ((Below.refl _ _).drew) ?_
          repeat (first | (apply sched_take rfl; (focus (first | rfl | (go_simp; done))); (focus (intro W hW; obtain ⟨f1, f2⟩ := HF.out W hW; go_simp; rfl)); (focus (intro K hK; go_simp; refine hK _ ?_; clear hK K))) | (apply sched_skip rfl; (focus (first | rfl | (go_simp; done))); (focus (intro K hK; go_simp; refine hK _ ?_; clear hK K))))
          apply sched_op rfl
          intro K hK
          go_simp
          go_wp2_with (fail)
          refine (refCheck_any s _ hnm).mono ?_
          rintro e v1 ⟨rfl, hbc⟩
          have hk1 : Below (wr.heap.size + 1) (wr.alloc (.cells #[.int .i64 s.tr, .int .i64 s.id, .int .i64 s.pa, .int .i64 s.st, .int .i64 s.en, .string s.nm] 38)) v1 := below_step (by simp) (Below.refl _ _).drew hbc
          rw [HC.out]
          go_wp2_with fail
          refine ⟨by exact hk1, ?_⟩
          repeat (first | (apply sched_take rfl; (focus (first | rfl | (go_simp; done))); (focus (intro W hW; obtain ⟨f1, f2⟩ := HF.out W hW; go_simp; rfl)); (focus (intro K hK; go_simp; refine hK _ ?_; clear hK K))) | (apply sched_skip rfl; (focus (first | rfl | (go_simp; done))); (focus (intro K hK; go_simp; refine hK _ ?_; clear hK K))))
          refine sched_nil ?_
          have hbw : Below wr.heap.size wr v1 := ((Below.refl _ _).alloc (Nat.le_refl _) _).trans (hk1.mono (by omega))
          have HI2 := Lib.hid (HIN.out.below hbw)
          have hc00 : v1.cell? ⟨w.heap.size, 0, none⟩ = some (.int .i64 0) := blk_cell HI2.out.c0 0
          have hc01 : v1.cell? ⟨w.heap.size, 1, none⟩ = some (.int .i64 0) := blk_cell HI2.out.c0 1
          have hc02 : v1.cell? ⟨w.heap.size, 2, none⟩ = some (.int .i64 0) := blk_cell HI2.out.c0 2
          have hc03 : v1.cell? ⟨w.heap.size, 3, none⟩ = some (.int .i64 0) := blk_cell HI2.out.c0 3
          have hc04 : v1.cell? ⟨w.heap.size, 4, none⟩ = some (.int .i64 0) := blk_cell HI2.out.c0 4
          have hc10 : v1.cell? ⟨w.heap.size + 1, 0, none⟩ = some (.int .i64 0) := blk_cell HI2.out.c1 0
          have hc11 : v1.cell? ⟨w.heap.size + 1, 1, none⟩ = some (.int .i64 0) := blk_cell HI2.out.c1 1
          have hc12 : v1.cell? ⟨w.heap.size + 1, 2, none⟩ = some (.int .i64 0) := blk_cell HI2.out.c1 2
          have hc13 : v1.cell? ⟨w.heap.size + 1, 3, none⟩ = some (.int .i64 0) := blk_cell HI2.out.c1 3
          have hc14 : v1.cell? ⟨w.heap.size + 1, 4, none⟩ = some (.int .i64 0) := blk_cell HI2.out.c1 4
          have hf0 := blk_frozen HI2.out.c0
          clear hbc hk1 hbw
          go_wp2_with fail
          refine bodyPost_ret (v := .tuple #[Cnt.zero.val, .int .i64 30]) (by simp [results, Tryz.results38, go_sem, hc00, hc01, hc02, hc03, hc04, Cnt.zero]) rfl ?_
          have hA : addA tr L l = (L, Cnt.zero, 30) := by rw [addA, if_neg (by rw [HA.out]; exact Bool.false_ne_true)]
          rw [hA]
          exact ⟨rfl, HI2.out.fin HSL.out (fr_sets _ _ (fun _ => .int .i64 0))⟩
    · have hall2 := HALL.out
      rw [List.take_of_length_le (by omega)] at hall2
      have HA2 := Lib.hid hall2
      have hk1 : ¬ (k : Int) < (l.length : Int) := by omega
      clear hall2
      go_wp2_with fail
      go_loopw [36] (fun i wr => ∃ (k : Nat), k ≤ l.length ∧ i = .int .i64 k ∧ RIn w wr x tr S (addL (L, Cnt.zero) (l.take k))) (fun i _ => l.length - (intOf i).toNat)
      case atStart => exact ⟨0, by omega, rfl, HIN.out⟩
      case round =>
        obtain ⟨k, hk, rfl, hin⟩ := hrel
        have HIN := Lib.hid hin
        have hsz := hin.sz
        clear hin
        have hsum := addL_sum (L, Cnt.zero) (l.take k)
        by_cases hlt : k < l.length
        · obtain ⟨b1, o1, rfl, hb1, x0, x1, x2, x3, x4, x5⟩ := RdS.at_ (Fr.rdN HR.out HIN.out.fr hB HNS.out) hlt
          have hk1 : (k : Int) < (l.length : Int) := by omega
          have HST := Lib.hid (show addL (L, Cnt.zero) (l.take (k + 1)) = addS (addL (L, Cnt.zero) (l.take k)) l[k] by rw [List.take_succ_eq_append_getElem hlt, addL_snoc])
          rw [List.length_take, Nat.min_eq_left hk] at hsum
          generalize l[k] = s at *
          generalize addL (L, Cnt.zero) (l.take k) = st at *
          obtain ⟨L2, c⟩ := st
          have hcs : c.sum = k := by simpa [Cnt.sum, Cnt.zero] using hsum
          simp only [Cnt.sum] at hcs
          have hL64 := HIN.out.rf.len
          dsimp only at hL64
          obtain ⟨A0, c0, hrf0, _⟩ := HIN.out.rf.ex
          have HRF := Lib.hid hrf0
          have HF := Lib.hid (radd_facts hrf0 s)
          have HCS := Lib.hid hcs
          have hxr := hrf0.lt
          clear hsum hcs hrf0
          have HB0 : Hid (Below wr.heap.size wr (wr.alloc (.cells #[.int .i64 s.tr, .int .i64 s.id, .int .i64 s.pa, .int .i64 s.st, .int .i64 s.en, .string s.nm] 38))) := Lib.hid ((Below.refl _ _).alloc (Nat.le_refl _) _)
          go_wp2_with fail
          refine (rfind_any (HRF.out.below HB0.out (Nat.le_refl _)) s.id).mono ?_
          rintro e w1 ⟨rfl, hb1'⟩
          have hz1 := hb1'.size
          simp at hz1
          have HB1 : Hid (Below (wr.heap.size + 1) (wr.alloc (.cells #[.int .i64 s.tr, .int .i64 s.id, .int .i64 s.pa, .int .i64 s.st, .int .i64 s.en, .string s.nm] 38)) w1) := Lib.hid (hb1'.mono (by simp))
          have HBW : Hid (Below wr.heap.size wr w1) := Lib.hid (HB0.out.trans (hb1'.mono (by simp)))
          clear hb1'
          have HIN1 := Lib.hid (HIN.out.below HBW.out)
          obtain ⟨hpc, hsc⟩ := HF.out w1 HB1.out
          have hc10 : w1.cell? ⟨w.heap.size + 1, 0, none⟩ = some (.int .i64 c.ad) := blk_cell HIN1.out.c1 0
          have hc11 : w1.cell? ⟨w.heap.size + 1, 1, none⟩ = some (.int .i64 c.sa) := blk_cell HIN1.out.c1 1
          have hc12 : w1.cell? ⟨w.heap.size + 1, 2, none⟩ = some (.int .i64 c.ot) := blk_cell HIN1.out.c1 2
          have hc13 : w1.cell? ⟨w.heap.size + 1, 3, none⟩ = some (.int .i64 c.cy) := blk_cell HIN1.out.c1 3
          have hc14 : w1.cell? ⟨w.heap.size + 1, 4, none⟩ = some (.int .i64 c.fu) := blk_cell HIN1.out.c1 4
          have hf1 := blk_frozen HIN1.out.c1
          have hlt1 : w.heap.size + 1 < w1.heap.size := by omega
          have hlt2 : x < w1.heap.size := by omega
          have hlt3 : wr.heap.size < w1.heap.size := by omega
          cases hat : atS L2 s.id with
          | some o =>
            have hget : getS L2 s.id = o := by rw [getS, hat]; rfl
            rw [hget]
            have HAT := Lib.hid hat
            clear hat hget
            by_cases hos : o = s
            · have hcmp := eql_span (s := o) (t := s) (q := true) (by simp [hos])
              have HOS := Lib.hid hos
              clear hos
              have hwr : wrap64 ((c.sa : Int) + 1) = (c.sa : Int) + 1 := IntWalk.wrap64_in _ (by have := HCS.out; omega)
              go_wp2_with fail
              go_roundw
              case rel =>
                refine ⟨k + 1, by omega, by go_num, ?_⟩
                rw [HST.out, addS_same HAT.out HOS.out]
                exact (HIN1.out.bump HSL.out 1 (.int .i64 ((c.sa : Int) + 1)) { c with sa := c.sa + 1 } (by simp [Cnt.cells])).below ((Below.refl _ _).alloc (Nat.le_refl _) _)
              case measure => simp [intOf]; omega
            · have hcmp := eql_span (s := o) (t := s) (q := false) (by simp [hos])
              have HOS := Lib.hid hos
              clear hos
              have hwr : wrap64 ((c.ot : Int) + 1) = (c.ot : Int) + 1 := IntWalk.wrap64_in _ (by have := HCS.out; omega)
              go_wp2_with fail
              go_roundw
              case rel =>
                refine ⟨k + 1, by omega, by go_num, ?_⟩
                rw [HST.out, addS_other HAT.out HOS.out]
                exact (HIN1.out.bump HSL.out 2 (.int .i64 ((c.ot : Int) + 1)) { c with ot := c.ot + 1 } (by simp [Cnt.cells])).below ((Below.refl _ _).alloc (Nat.le_refl _) _)
              case measure => simp [intOf]; omega
          | none =>
            have hget : getS L2 s.id = default := by rw [getS, hat]; rfl
            rw [hget]
            have HAT := Lib.hid hat
            clear hat hget
            by_cases h64 : L2.length = 64
            · have h64i : ((L2.length : Int) == 64) = true := by simp; omega
              have hwr : wrap64 ((c.fu : Int) + 1) = (c.fu : Int) + 1 := IntWalk.wrap64_in _ (by have := HCS.out; omega)
              go_wp2_with fail
              go_roundw
              case rel =>
                refine ⟨k + 1, by omega, by go_num, ?_⟩
                rw [HST.out, addS_full HAT.out (by omega)]
                exact (HIN1.out.bump HSL.out 4 (.int .i64 ((c.fu : Int) + 1)) { c with fu := c.fu + 1 } (by simp [Cnt.cells])).below ((Below.refl _ _).alloc (Nat.le_refl _) _)
              case measure => simp [intOf]; omega
            · have h64i : ((L2.length : Int) == 64) = false := by simp; omega
              have HB2 : Hid (Below wr.heap.size wr (w1.alloc (.cells #[.int .i64 0, .int .i64 0, .int .i64 0, .int .i64 0, .int .i64 0, .string ⟨#[]⟩] 38))) := Lib.hid (HBW.out.alloc (by omega) _)
              have HRING := Lib.hid (ring_above HAT.out)
              go_wp2_with fail
              refine (rring_any (HRF.out.below HB2.out (Nat.le_refl _)) s).mono ?_
              rintro e w2 ⟨rfl, hb2⟩
              have hz2 := hb2.size
              simp at hz2
              have HBW2 : Hid (Below wr.heap.size wr w2) := Lib.hid (HB2.out.trans (hb2.mono (by simp; omega)))
              have HB12 : Hid (Below (wr.heap.size + 1) (wr.alloc (.cells #[.int .i64 s.tr, .int .i64 s.id, .int .i64 s.pa, .int .i64 s.st, .int .i64 s.en, .string s.nm] 38)) w2) := Lib.hid ((HB1.out.alloc (by omega) _).trans (hb2.mono (by simp; omega)))
              have HIN3 := Lib.hid (HIN.out.below HBW2.out)
              clear hb2 hpc hsc hc10 hc11 hc12 hc13 hc14 hf1 HB2
              obtain ⟨hpc, hsc⟩ := HF.out w2 HB12.out
              have hc10 : w2.cell? ⟨w.heap.size + 1, 0, none⟩ = some (.int .i64 c.ad) := blk_cell HIN3.out.c1 0
              have hc11 : w2.cell? ⟨w.heap.size + 1, 1, none⟩ = some (.int .i64 c.sa) := blk_cell HIN3.out.c1 1
              have hc12 : w2.cell? ⟨w.heap.size + 1, 2, none⟩ = some (.int .i64 c.ot) := blk_cell HIN3.out.c1 2
              have hc13 : w2.cell? ⟨w.heap.size + 1, 3, none⟩ = some (.int .i64 c.cy) := blk_cell HIN3.out.c1 3
              have hc14 : w2.cell? ⟨w.heap.size + 1, 4, none⟩ = some (.int .i64 c.fu) := blk_cell HIN3.out.c1 4
              have hf1 := blk_frozen HIN3.out.c1
              rw [HRING.out]
              cases hab : aboveB L2 s.pa s.id with
              | true =>
                have HCY := Lib.hid hab
                clear hab
                have hwr : wrap64 ((c.cy : Int) + 1) = (c.cy : Int) + 1 := IntWalk.wrap64_in _ (by have := HCS.out; omega)
                go_wp2_with fail
                go_roundw
                case rel =>
                  refine ⟨k + 1, by omega, by go_num, ?_⟩
                  rw [HST.out, addS_cycle HAT.out (by omega) HCY.out]
                  exact (HIN3.out.bump HSL.out 3 (.int .i64 ((c.cy : Int) + 1)) { c with cy := c.cy + 1 } (by simp [Cnt.cells]))
                case measure => simp [intOf]; omega
              | false =>
                have HADD := Lib.hid hab
                clear hab
                have HP : Hid (∀ W, Below w2.heap.size w2 W → (∀ j, W.cell? ⟨x, j, none⟩ = (#[.int .i64 tr, .slice A0 L2.length c0] : Array Value)[j]?) ∧ (∀ j, W.cell? ⟨wr.heap.size, j, none⟩ = (#[.int .i64 s.tr, .int .i64 s.id, .int .i64 s.pa, .int .i64 s.st, .int .i64 s.en, .string s.nm] : Array Value)[j]?)) := Lib.hid (fun W hW => HF.out W (HB12.out.trans (hW.mono (by omega))))
                have HRD : Hid (∀ W, Below w2.heap.size w2 W → RdS W w2.heap.size A0 L2.length L2) := Lib.hid (fun W hW => Rd.below (HRF.out.below HBW2.out (Nat.le_refl _)).rd hW (Nat.le_refl _))
                have hfx : w2.frozen? ⟨x, 1, none⟩ = false := blk_frozen (HRF.out.below HBW2.out (Nat.le_refl _)).hp 1
                have HFX : Hid (∀ W, Below w2.heap.size w2 W → W.frozen? ⟨x, 1, none⟩ = false) := Lib.hid (fun W hW => blk_frozen ((HRF.out.below HBW2.out (Nat.le_refl _)).below hW (Nat.le_refl _)).hp 1)
                clear hpc hsc hc10 hc11 hc12 hc13 hc14 hf1 hfx
                go_wp2_with fail
                refine wp_region_plan 12 (.take 0 (.take 2 (.take 3 (.take 4 (.take 5 (.take 7 (.two 1 (.two 6 (.op 8 (.op 9 (.op 10 (.op 11 (.op 12 .done))))) 8 (.op 6 (.op 9 (.op 10 (.op 11 (.op 12 .done)))))) 8 (.op 1 (.op 6 (.op 9 (.op 10 (.op 11 (.op 12 .done))))))))))))) (fun W => Below w2.heap.size w2 W) (by kernel_rfl) (by kernel_rfl) (by kernel_rfl) ((Below.refl _ _).drew) ?_
                repeat (first | (apply plan_take rfl; (focus (first | rfl | (go_simp; done))); (focus (intro W hW; obtain ⟨g1, g2⟩ := HP.out W hW; go_simp; rfl)); (focus (intro K hK; go_simp; refine hK _ ?_; clear hK K))) | (apply plan_skip rfl; (focus (first | rfl | (go_simp; done))); (focus (intro K hK; go_simp; refine hK _ ?_; clear hK K))))
                have hgoal : True := trivial
                refine plan_two ?_ ?_
                · apply plan_op rfl
                  intro K hK
                  go_simp
                  go_wp2_with (fail)
                  refine ⟨fun _ => (Below.refl _ _).drew.alloc (Nat.le_refl _) _, ?_⟩
                  refine plan_two ?_ ?_
                  · obtain ⟨A6, c6, w6, hrun6, hown6, hb6, hg6⟩ := app_spans (own_new w2.drew #[] 38 0 6 rfl (by unfold maxLen; omega) w2.heap.size (Nat.le_refl _)) (c := c0) (xs := []) (HRD.out (w2.drew.alloc (.cells #[] 38)) ((Below.refl _ _).drew.alloc (Nat.le_refl _) _)) (by omega) (by simp [World.drew, -World.drew_eq])
                    rw [Nat.zero_add] at hrun6 hown6
                    have hb6' : Below w2.heap.size w2 w6 := ((Below.refl _ _).drew.alloc (Nat.le_refl _) _).trans hb6
                    have hz6 := hb6'.size
                    apply plan_run (v := .slice A6 L2.length c6) (w' := w6) rfl
                    · focus (first | rfl | (go_simp; done))
                    · focus (refine exec_app rfl ?_ ?_ hrun6 <;> go_simp)
                    · exact fun _ => hb6'
                    intro K hK; go_simp; refine hK _ ?_; clear hK K
                    apply plan_op rfl
                    intro K hK
                    go_simp
                    go_wp2_with (fail)
                    refine ⟨fun _ => hb6'.alloc hz6 _, ?_⟩
                    obtain ⟨A9, c9, w9, hrun9, hown9, hb9', _⟩ := app_spans (hown6.alloc (.cells #[.int .i64 s.tr, .int .i64 s.id, .int .i64 s.pa, .int .i64 s.st, .int .i64 s.en, .string s.nm] 38)) (c := 1) (RdS.one rfl s 38 (0, 0)) (by omega) (by simp <;> omega)
                    have hb9 : Below w2.heap.size w2 w9 := (hb6'.alloc hz6 _).trans hb9'
                    apply plan_run (v := .slice A9 (L2.length + 1) c9) (w' := w9) rfl
                    · focus (first | rfl | (go_simp; done))
                    · focus (refine exec_app rfl ?_ ?_ hrun9 <;> go_simp)
                    · exact fun _ => hb9
                    intro K hK; go_simp; refine hK _ ?_; clear hK K
                    have HB9 := Lib.hid hb9
                    obtain ⟨g1, g2⟩ := HP.out w9 hb9
                    have hfx := HFX.out w9 hb9
                    have HIN9 : Hid (RIn w (w9.setCell ⟨x, 1, none⟩ (.slice A9 (L2.length + 1) c9)) x tr S (L2 ++ [s], c)) := Lib.hid (HIN3.out.stored HSL.out (by show L2.length < 64; omega) hb9 hown9 hxw)
                    clear hown9 hb9
                    apply plan_op rfl
                    intro K hK
                    go_simp
                    go_wp2_with (fail)
                    refine ⟨fun _ => HB9.out, ?_⟩
                    apply plan_op rfl
                    intro K hK
                    go_simp
                    go_wp2_with (fail)
                    refine ⟨fun _ => HB9.out, ?_⟩
                    apply plan_op rfl
                    intro K hK
                    go_simp
                    go_wp2_with (fail)
                    refine ⟨fun h => absurd rfl h, ?_⟩
                    refine plan_nil ?_
                    generalize w9.setCell ⟨x, 1, none⟩ (.slice A9 (L2.length + 1) c9) = w10 at *
                    clear g1 g2 hfx
                    have hc10 : w10.cell? ⟨w.heap.size + 1, 0, none⟩ = some (.int .i64 c.ad) := blk_cell HIN9.out.c1 0
                    have hc11 : w10.cell? ⟨w.heap.size + 1, 1, none⟩ = some (.int .i64 c.sa) := blk_cell HIN9.out.c1 1
                    have hc12 : w10.cell? ⟨w.heap.size + 1, 2, none⟩ = some (.int .i64 c.ot) := blk_cell HIN9.out.c1 2
                    have hc13 : w10.cell? ⟨w.heap.size + 1, 3, none⟩ = some (.int .i64 c.cy) := blk_cell HIN9.out.c1 3
                    have hc14 : w10.cell? ⟨w.heap.size + 1, 4, none⟩ = some (.int .i64 c.fu) := blk_cell HIN9.out.c1 4
                    have hf1 := blk_frozen HIN9.out.c1
                    have hwr : wrap64 ((c.ad : Int) + 1) = (c.ad : Int) + 1 := IntWalk.wrap64_in _ (by have := HCS.out; omega)
                    go_wp2_with fail
                    go_roundw
                    case rel =>
                      refine ⟨k + 1, by omega, by go_num, ?_⟩
                      rw [HST.out, addS_add HAT.out (by omega) HADD.out]
                      exact (HIN9.out.bump HSL.out 0 (.int .i64 ((c.ad : Int) + 1)) { c with ad := c.ad + 1 } (by simp [Cnt.cells]))
                    case measure => simp [intOf]; omega
                  · apply plan_op rfl
                    intro K hK
                    go_simp
                    go_wp2_with (fail)
                    refine ⟨fun _ => ((Below.refl _ _).drew.alloc (Nat.le_refl _) _).alloc (by simp [World.drew, -World.drew_eq]) _, ?_⟩
                    obtain ⟨A6, c6, w6, hrun6, hown6, hb6, hg6⟩ := app_spans ((own_new w2.drew #[] 38 0 6 rfl (by unfold maxLen; omega) w2.heap.size (Nat.le_refl _)).alloc (.cells #[.int .i64 s.tr, .int .i64 s.id, .int .i64 s.pa, .int .i64 s.st, .int .i64 s.en, .string s.nm] 38)) (c := c0) (xs := []) (HRD.out ((w2.drew.alloc (.cells #[] 38)).alloc (.cells #[.int .i64 s.tr, .int .i64 s.id, .int .i64 s.pa, .int .i64 s.st, .int .i64 s.en, .string s.nm] 38)) (((Below.refl _ _).drew.alloc (Nat.le_refl _) _).alloc (by simp [World.drew, -World.drew_eq]) _)) (by omega) (by simp [World.drew, -World.drew_eq] <;> omega)
                    rw [Nat.zero_add] at hrun6 hown6
                    have hb6' : Below w2.heap.size w2 w6 := (((Below.refl _ _).drew.alloc (Nat.le_refl _) _).alloc (by simp [World.drew, -World.drew_eq]) _).trans hb6
                    have hz6 := hb6'.size
                    have hone : RdS w6 w6.heap.size (some ⟨w2.heap.size + 1, 0, none⟩) 1 [s] := (Fr.rdA ((RdS.one (w := w2.drew.alloc (.cells #[] 38)) (H := w2.heap.size + 1) (by simp [World.drew, -World.drew_eq]) s 38 (0, 0)).more (by simp [World.drew, -World.drew_eq])) (Fr.of_grown (S := fun k => k = w2.heap.size) hg6 (fun k hk => (Option.some.inj hk).symm)) (Nat.le_refl _) (fun k hk e => by have := Option.some.inj hk; simp only at this; omega)).more hg6.size
                    apply plan_run (v := .slice A6 L2.length c6) (w' := w6) rfl
                    · focus (first | rfl | (go_simp; done))
                    · focus (refine exec_app rfl ?_ ?_ hrun6 <;> go_simp)
                    · exact fun _ => hb6'
                    intro K hK; go_simp; refine hK _ ?_; clear hK K
                    obtain ⟨A9, c9, w9, hrun9, hown9, hb9', _⟩ := app_spans hown6 (c := 1) hone (by omega) hz6
                    have hb9 : Below w2.heap.size w2 w9 := hb6'.trans hb9'
                    apply plan_run (v := .slice A9 (L2.length + 1) c9) (w' := w9) rfl
                    · focus (first | rfl | (go_simp; done))
                    · focus (refine exec_app rfl ?_ ?_ hrun9 <;> go_simp)
                    · exact fun _ => hb9
                    intro K hK; go_simp; refine hK _ ?_; clear hK K
                    have HB9 := Lib.hid hb9
                    obtain ⟨g1, g2⟩ := HP.out w9 hb9
                    have hfx := HFX.out w9 hb9
                    have HIN9 : Hid (RIn w (w9.setCell ⟨x, 1, none⟩ (.slice A9 (L2.length + 1) c9)) x tr S (L2 ++ [s], c)) := Lib.hid (HIN3.out.stored HSL.out (by show L2.length < 64; omega) hb9 hown9 hxw)
                    clear hown9 hb9
                    apply plan_op rfl
                    intro K hK
                    go_simp
                    go_wp2_with (fail)
                    refine ⟨fun _ => HB9.out, ?_⟩
                    apply plan_op rfl
                    intro K hK
                    go_simp
                    go_wp2_with (fail)
                    refine ⟨fun _ => HB9.out, ?_⟩
                    apply plan_op rfl
                    intro K hK
                    go_simp
                    go_wp2_with (fail)
                    refine ⟨fun h => absurd rfl h, ?_⟩
                    refine plan_nil ?_
                    generalize w9.setCell ⟨x, 1, none⟩ (.slice A9 (L2.length + 1) c9) = w10 at *
                    clear g1 g2 hfx
                    have hc10 : w10.cell? ⟨w.heap.size + 1, 0, none⟩ = some (.int .i64 c.ad) := blk_cell HIN9.out.c1 0
                    have hc11 : w10.cell? ⟨w.heap.size + 1, 1, none⟩ = some (.int .i64 c.sa) := blk_cell HIN9.out.c1 1
                    have hc12 : w10.cell? ⟨w.heap.size + 1, 2, none⟩ = some (.int .i64 c.ot) := blk_cell HIN9.out.c1 2
                    have hc13 : w10.cell? ⟨w.heap.size + 1, 3, none⟩ = some (.int .i64 c.cy) := blk_cell HIN9.out.c1 3
                    have hc14 : w10.cell? ⟨w.heap.size + 1, 4, none⟩ = some (.int .i64 c.fu) := blk_cell HIN9.out.c1 4
                    have hf1 := blk_frozen HIN9.out.c1
                    have hwr : wrap64 ((c.ad : Int) + 1) = (c.ad : Int) + 1 := IntWalk.wrap64_in _ (by have := HCS.out; omega)
                    go_wp2_with fail
                    go_roundw
                    case rel =>
                      refine ⟨k + 1, by omega, by go_num, ?_⟩
                      rw [HST.out, addS_add HAT.out (by omega) HADD.out]
                      exact (HIN9.out.bump HSL.out 0 (.int .i64 ((c.ad : Int) + 1)) { c with ad := c.ad + 1 } (by simp [Cnt.cells]))
                    case measure => simp [intOf]; omega
                · apply plan_op rfl
                  intro K hK
                  go_simp
                  go_wp2_with (fail)
                  refine ⟨fun _ => (Below.refl _ _).drew.alloc (Nat.le_refl _) _, ?_⟩
                  apply plan_op rfl
                  intro K hK
                  go_simp
                  go_wp2_with (fail)
                  refine ⟨fun _ => ((Below.refl _ _).drew.alloc (Nat.le_refl _) _).alloc (by simp [World.drew, -World.drew_eq]) _, ?_⟩
                  obtain ⟨A6, c6, w6, hrun6, hown6, hb6, hg6⟩ := app_spans (own_new (w2.drew.alloc (.cells #[.int .i64 s.tr, .int .i64 s.id, .int .i64 s.pa, .int .i64 s.st, .int .i64 s.en, .string s.nm] 38)) #[] 38 0 6 rfl (by unfold maxLen; omega) w2.heap.size (by simp [World.drew, -World.drew_eq])) (c := c0) (xs := []) (HRD.out ((w2.drew.alloc (.cells #[.int .i64 s.tr, .int .i64 s.id, .int .i64 s.pa, .int .i64 s.st, .int .i64 s.en, .string s.nm] 38)).alloc (.cells #[] 38)) (((Below.refl _ _).drew.alloc (Nat.le_refl _) _).alloc (by simp [World.drew, -World.drew_eq]) _)) (by omega) (by simp [World.drew, -World.drew_eq] <;> omega)
                  rw [Nat.zero_add] at hrun6 hown6
                  have hb6' : Below w2.heap.size w2 w6 := (((Below.refl _ _).drew.alloc (Nat.le_refl _) _).alloc (by simp [World.drew, -World.drew_eq]) _).trans hb6
                  have hz6 := hb6'.size
                  have hone : RdS w6 w6.heap.size (some ⟨w2.heap.size, 0, none⟩) 1 [s] := (Fr.rdA (Rd.alloc (RdS.one (w := w2.drew) (H := w2.heap.size) rfl s 38 (0, 0)) (.cells #[] 38) (by simp [World.drew, -World.drew_eq]) (by simp [World.drew, -World.drew_eq] <;> omega)) (Fr.of_grown (S := fun k => k = w2.heap.size + 1) hg6 (fun k hk => by have := Option.some.inj hk; simp [World.drew, -World.drew_eq] at this; omega)) (Nat.le_refl _) (fun k hk e => by have := Option.some.inj hk; simp only at this; omega)).more hg6.size
                  apply plan_run (v := .slice A6 L2.length c6) (w' := w6) rfl
                  · focus (first | rfl | (go_simp; done))
                  · focus (refine exec_app rfl ?_ ?_ hrun6 <;> go_simp)
                  · exact fun _ => hb6'
                  intro K hK; go_simp; refine hK _ ?_; clear hK K
                  obtain ⟨A9, c9, w9, hrun9, hown9, hb9', _⟩ := app_spans hown6 (c := 1) hone (by omega) hz6
                  have hb9 : Below w2.heap.size w2 w9 := hb6'.trans hb9'
                  apply plan_run (v := .slice A9 (L2.length + 1) c9) (w' := w9) rfl
                  · focus (first | rfl | (go_simp; done))
                  · focus (refine exec_app rfl ?_ ?_ hrun9 <;> go_simp)
                  · exact fun _ => hb9
                  intro K hK; go_simp; refine hK _ ?_; clear hK K
                  have HB9 := Lib.hid hb9
                  obtain ⟨g1, g2⟩ := HP.out w9 hb9
                  have hfx := HFX.out w9 hb9
                  have HIN9 : Hid (RIn w (w9.setCell ⟨x, 1, none⟩ (.slice A9 (L2.length + 1) c9)) x tr S (L2 ++ [s], c)) := Lib.hid (HIN3.out.stored HSL.out (by show L2.length < 64; omega) hb9 hown9 hxw)
                  clear hown9 hb9
                  apply plan_op rfl
                  intro K hK
                  go_simp
                  go_wp2_with (fail)
                  refine ⟨fun _ => HB9.out, ?_⟩
                  apply plan_op rfl
                  intro K hK
                  go_simp
                  go_wp2_with (fail)
                  refine ⟨fun _ => HB9.out, ?_⟩
                  apply plan_op rfl
                  intro K hK
                  go_simp
                  go_wp2_with (fail)
                  refine ⟨fun h => absurd rfl h, ?_⟩
                  refine plan_nil ?_
                  generalize w9.setCell ⟨x, 1, none⟩ (.slice A9 (L2.length + 1) c9) = w10 at *
                  clear g1 g2 hfx
                  have hc10 : w10.cell? ⟨w.heap.size + 1, 0, none⟩ = some (.int .i64 c.ad) := blk_cell HIN9.out.c1 0
                  have hc11 : w10.cell? ⟨w.heap.size + 1, 1, none⟩ = some (.int .i64 c.sa) := blk_cell HIN9.out.c1 1
                  have hc12 : w10.cell? ⟨w.heap.size + 1, 2, none⟩ = some (.int .i64 c.ot) := blk_cell HIN9.out.c1 2
                  have hc13 : w10.cell? ⟨w.heap.size + 1, 3, none⟩ = some (.int .i64 c.cy) := blk_cell HIN9.out.c1 3
                  have hc14 : w10.cell? ⟨w.heap.size + 1, 4, none⟩ = some (.int .i64 c.fu) := blk_cell HIN9.out.c1 4
                  have hf1 := blk_frozen HIN9.out.c1
                  have hwr : wrap64 ((c.ad : Int) + 1) = (c.ad : Int) + 1 := IntWalk.wrap64_in _ (by have := HCS.out; omega)
                  go_wp2_with fail
                  go_roundw
                  case rel =>
                    refine ⟨k + 1, by omega, by go_num, ?_⟩
                    rw [HST.out, addS_add HAT.out (by omega) HADD.out]
                    exact (HIN9.out.bump HSL.out 0 (.int .i64 ((c.ad : Int) + 1)) { c with ad := c.ad + 1 } (by simp [Cnt.cells]))
                  case measure => simp [intOf]; omega
        · have hAA : addA tr L l = ((addL (L, Cnt.zero) l).1, (addL (L, Cnt.zero) l).2, 0) := by rw [addA, if_pos HA2.out]
          rw [List.take_of_length_le (by omega)] at hsum
          have hin := HIN.out
          rw [List.take_of_length_le (by omega)] at hin
          have HIN9 := Lib.hid hin
          have HAA := Lib.hid hAA
          have hk1 : ¬ (k : Int) < (l.length : Int) := by omega
          clear HIN hin hAA hsum
          generalize addL (L, Cnt.zero) l = st at *
          obtain ⟨L2, c⟩ := st
          have hc00 : wr.cell? ⟨w.heap.size, 0, none⟩ = some (.int .i64 0) := blk_cell HIN9.out.c0 0
          have hc01 : wr.cell? ⟨w.heap.size, 1, none⟩ = some (.int .i64 0) := blk_cell HIN9.out.c0 1
          have hc02 : wr.cell? ⟨w.heap.size, 2, none⟩ = some (.int .i64 0) := blk_cell HIN9.out.c0 2
          have hc03 : wr.cell? ⟨w.heap.size, 3, none⟩ = some (.int .i64 0) := blk_cell HIN9.out.c0 3
          have hc04 : wr.cell? ⟨w.heap.size, 4, none⟩ = some (.int .i64 0) := blk_cell HIN9.out.c0 4
          have hc10 : wr.cell? ⟨w.heap.size + 1, 0, none⟩ = some (.int .i64 c.ad) := blk_cell HIN9.out.c1 0
          have hc11 : wr.cell? ⟨w.heap.size + 1, 1, none⟩ = some (.int .i64 c.sa) := blk_cell HIN9.out.c1 1
          have hc12 : wr.cell? ⟨w.heap.size + 1, 2, none⟩ = some (.int .i64 c.ot) := blk_cell HIN9.out.c1 2
          have hc13 : wr.cell? ⟨w.heap.size + 1, 3, none⟩ = some (.int .i64 c.cy) := blk_cell HIN9.out.c1 3
          have hc14 : wr.cell? ⟨w.heap.size + 1, 4, none⟩ = some (.int .i64 c.fu) := blk_cell HIN9.out.c1 4
          have hf0 := blk_frozen HIN9.out.c0
          go_wp2_with fail
          refine bodyPost_ret (v := .tuple #[c.val, .int .i64 0]) (by simp [results, Tryz.results38, go_sem, hc00, hc01, hc02, hc03, hc04]) rfl ?_
          rw [HAA.out]
          exact ⟨rfl, HIN9.out.fin HSL.out (fr_sets _ _ (fun i => match i with | 0 => .int .i64 c.ad | 1 => .int .i64 c.sa | 2 => .int .i64 c.ot | 3 => .int .i64 c.cy | 4 => .int .i64 c.fu))⟩
end Go.Proofs.YtdjcifeoplgkpaaGreat
