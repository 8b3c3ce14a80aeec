/-
  A machine in memory: its store, its table, its voters; what keeps it. Condition: the machine lies in memory as New made it.
-/
import Derived.Test.YtempkjnaahgbhaaGreatDoorMachS
import Derived.Test.YtempkjnaahgbhaaGreatDoorStoreG
namespace Go.Proofs.YtempkjnaahgbhaaGreatDoor
open Go Go.RowKit Go.Maps

/-- A machine in block b: its store in block s (map sm, all of it in SS), its table in block t (map tm), its voters in block vb; all of it in S. -/
structure Mc (w : World) (b s sm t tm vb c : Nat) (SS S : Nat → Prop) (M : Ma) : Prop where
  hp : w.heap[b]? = some (.cells #[.pointer (some ⟨s, 0, none⟩), .pointer (some ⟨t, 0, none⟩), .int .i64 M.ix, .int .i64 M.te, .slice (some ⟨vb, 0, none⟩) M.vo.length c] 92 (0, 0))
  st : St w s sm M.T SS
  tb : Tb w t tm M.L
  vo : RdI w w.heap.size (some ⟨vb, 0, none⟩) M.vo.length M.vo
  gr : GrM M
  n1 : b ≠ t ∧ b ≠ tm ∧ b ≠ vb ∧ t ≠ vb ∧ tm ≠ vb
  n2 : ¬ SS b ∧ ¬ SS t ∧ ¬ SS tm ∧ ¬ SS vb
  sb : S b ∧ S t ∧ S tm ∧ S vb
  sS : ∀ k, SS k → S k
  lt : ∀ k, S k → k < w.heap.size
/-- A machine in block b, all of it in S. -/
def MaAt (w : World) (b : Nat) (S : Nat → Prop) (M : Ma) : Prop := ∃ s sm t tm vb c SS, Mc w b s sm t tm vb c SS S M
section
variable {w w' : World} {b s sm t tm vb c : Nat} {SS S S2 : Nat → Prop} {M : Ma}
theorem Mc.fr (h : Mc w b s sm t tm vb c SS S M) (hf : Fr S2 w w') (hS : ∀ k, S k → ¬ S2 k) : Mc w' b s sm t tm vb c SS S M :=
  ⟨(hf.block b (h.lt b h.sb.1) (hS b h.sb.1)).trans h.hp, h.st.fr hf (fun k hk => hS k (h.sS k hk)), h.tb.fr hf (hS t h.sb.2.1) (hS tm h.sb.2.2.1),
    Rd.more (Fr.rdA h.vo hf (Nat.le_refl _) (fun k hk => by cases hk; exact hS vb h.sb.2.2.2)) hf.size, h.gr, h.n1, h.n2, h.sb, h.sS, fun k hk => Nat.lt_of_lt_of_le (h.lt k hk) hf.size⟩
theorem Mc.below {B : Nat} (h : Mc w b s sm t tm vb c SS S M) (hb : Below B w w') (hB : w.heap.size ≤ B) : Mc w' b s sm t tm vb c SS S M :=
  h.fr (S2 := fun _ => False) (Fr.of_below (hb.mono hB)) (fun _ _ h => h)
theorem Mc.mono (h : Mc w b s sm t tm vb c SS S M) (hS : ∀ k, S k → S2 k) (hl : ∀ k, S2 k → k < w.heap.size) : Mc w b s sm t tm vb c SS S2 M :=
  ⟨h.hp, h.st, h.tb, h.vo, h.gr, h.n1, h.n2, ⟨hS _ h.sb.1, hS _ h.sb.2.1, hS _ h.sb.2.2.1, hS _ h.sb.2.2.2⟩, fun k hk => hS k (h.sS k hk), hl⟩
theorem Mc.sto (h : Mc w b s sm t tm vb c SS S M) {T' : List Tr} (hs : St w' s sm T' (fun k => SS k ∨ (w.heap.size ≤ k ∧ k < w'.heap.size))) (hf : Fr SS w w') :
    Mc w' b s sm t tm vb c (fun k => SS k ∨ (w.heap.size ≤ k ∧ k < w'.heap.size)) (fun k => S k ∨ (w.heap.size ≤ k ∧ k < w'.heap.size)) { M with T := T' } := by
  have hb := h.lt _ h.sb.1
  have ht := h.lt _ h.sb.2.1
  have htm := h.lt _ h.sb.2.2.1
  have hvb := h.lt _ h.sb.2.2.2
  have hz := hf.size
  refine ⟨(hf.block b hb h.n2.1).trans h.hp, hs, h.tb.fr hf h.n2.2.1 h.n2.2.2.1, Rd.more (Fr.rdA h.vo hf (Nat.le_refl _) (fun k hk => by cases hk; exact h.n2.2.2.2)) hz, ⟨hs.gr, h.gr.l, h.gr.i0, h.gr.i1, h.gr.t0, h.gr.t1, h.gr.v⟩, h.n1, ⟨?_, ?_, ?_, ?_⟩,
    ⟨.inl h.sb.1, .inl h.sb.2.1, .inl h.sb.2.2.1, .inl h.sb.2.2.2⟩, ?_, ?_⟩
  · rintro (k | k) <;> first | exact h.n2.1 k | omega
  · rintro (k | k) <;> first | exact h.n2.2.1 k | omega
  · rintro (k | k) <;> first | exact h.n2.2.2.1 k | omega
  · rintro (k | k) <;> first | exact h.n2.2.2.2 k | omega
  · rintro k (hk | hk) <;> first | exact .inl (h.sS k hk) | exact .inr hk
  · rintro k (hk | hk)
    · have := h.lt k hk; omega
    · omega
theorem Mc.tab (h : Mc w b s sm t tm vb c SS S M) {L' : List Se} (ht : Tb w' t tm L') (hf : Fr (fun k => k = tm) w w') : Mc w' b s sm t tm vb c SS S { M with L := L' } :=
  ⟨(hf.block b (h.lt _ h.sb.1) h.n1.2.1).trans h.hp, h.st.fr hf (fun k hk e => h.n2.2.2.1 (e ▸ hk)), ht, Rd.more (Fr.rdA h.vo hf (Nat.le_refl _) (fun k hk e => by cases hk; exact h.n1.2.2.2.2 e.symm)) hf.size,
    ⟨h.gr.t, ht.gr, h.gr.i0, h.gr.i1, h.gr.t0, h.gr.t1, h.gr.v⟩, h.n1, h.n2, h.sb, h.sS, fun k hk => Nat.lt_of_lt_of_le (h.lt k hk) hf.size⟩
theorem Mc.cell (h : Mc w b s sm t tm vb c SS S M) (j : Nat) (u : Value) {M' : Ma} {vb' c' : Nat} (hT : M'.T = M.T) (hL : M'.L = M.L) (hg : GrM M') (hv : RdI w w.heap.size (some ⟨vb', 0, none⟩) M'.vo.length M'.vo) (hn : b ≠ vb' ∧ t ≠ vb' ∧ tm ≠ vb' ∧ ¬ SS vb' ∧ S vb')
    (hc : (#[.pointer (some ⟨s, 0, none⟩), .pointer (some ⟨t, 0, none⟩), .int .i64 M.ix, .int .i64 M.te, .slice (some ⟨vb, 0, none⟩) M.vo.length c] : Array Value).setIfInBounds j u = #[.pointer (some ⟨s, 0, none⟩), .pointer (some ⟨t, 0, none⟩), .int .i64 M'.ix, .int .i64 M'.te, .slice (some ⟨vb', 0, none⟩) M'.vo.length c']) :
    Mc (w.setCell ⟨b, j, none⟩ u) b s sm t tm vb' c' SS S M' := by
  have hf : Fr (fun k => k = b) w (w.setCell ⟨b, j, none⟩ u) := (Fr.refl (fun k => k = b) w).setCell (p := ⟨b, j, none⟩) rfl u
  have hp := blk_set h.hp j u
  rw [hc] at hp
  refine ⟨hp, hT ▸ h.st.fr hf (fun k hk e => h.n2.1 (e ▸ hk)), hL ▸ h.tb.fr hf (fun e => h.n1.1 e.symm) (fun e => h.n1.2.1 e.symm), Rd.more (Fr.rdA hv hf (Nat.le_refl _) (fun k hk e => by cases hk; exact hn.1 e.symm)) hf.size, hg, ⟨h.n1.1, h.n1.2.1, hn.1, hn.2.1, hn.2.2.1⟩, ⟨h.n2.1, h.n2.2.1, h.n2.2.2.1, hn.2.2.2.1⟩,
    ⟨h.sb.1, h.sb.2.1, h.sb.2.2.1, hn.2.2.2.2⟩, h.sS, fun k hk => Nat.lt_of_lt_of_le (h.lt k hk) hf.size⟩
theorem Mc.num (h : Mc w b s sm t tm vb c SS S M) {i j : Int} (hi : 0 ≤ i ∧ i ≤ 1099511627776) (hj : 0 ≤ j ∧ j ≤ 1099511627776) :
    Mc ((w.setCell ⟨b, 2, none⟩ (.int .i64 i)).setCell ⟨b, 3, none⟩ (.int .i64 j)) b s sm t tm vb c SS S { M with ix := i, te := j } := by
  have h1 : Mc (w.setCell ⟨b, 2, none⟩ (.int .i64 i)) b s sm t tm vb c SS S { M with ix := i } := h.cell 2 (.int .i64 i) rfl rfl ⟨h.gr.t, h.gr.l, hi.1, hi.2, h.gr.t0, h.gr.t1, h.gr.v⟩ h.vo ⟨h.n1.2.2.1, h.n1.2.2.2.1, h.n1.2.2.2.2, h.n2.2.2.2, h.sb.2.2.2⟩ rfl
  exact h1.cell 3 (.int .i64 j) rfl rfl ⟨h.gr.t, h.gr.l, hi.1, hi.2, hj.1, hj.2, h.gr.v⟩ h1.vo ⟨h.n1.2.2.1, h.n1.2.2.2.1, h.n1.2.2.2.2, h.n2.2.2.2, h.sb.2.2.2⟩ rfl
/-- Other voters, in a new block. -/
theorem Mc.vot (h : Mc w b s sm t tm vb c SS S M) {w1 : World} (hb : Below w.heap.size w w1) {vo : List Int} {g c' : Nat} (hok : okV vo = true) (hr : RdI w1 w1.heap.size (some ⟨g, 0, none⟩) vo.length vo) (hg : w.heap.size ≤ g) (hg2 : g < w1.heap.size) :
    Mc (w1.setCell ⟨b, 4, none⟩ (.slice (some ⟨g, 0, none⟩) vo.length c')) b s sm t tm g c' SS (fun k => S k ∨ (w.heap.size ≤ k ∧ k < w1.heap.size)) { M with vo := vo } := by
  have hbl := h.lt _ h.sb.1
  have htl := h.lt _ h.sb.2.1
  have html := h.lt _ h.sb.2.2.1
  have hz := hb.size
  have h1 := (h.below hb (Nat.le_refl _)).mono (S2 := fun k => S k ∨ (w.heap.size ≤ k ∧ k < w1.heap.size)) (fun k hk => .inl hk) (fun k hk => by
    rcases hk with hk | hk
    · have := h.lt k hk; omega
    · omega)
  exact h1.cell 4 (.slice (some ⟨g, 0, none⟩) vo.length c') rfl rfl ⟨h.gr.t, h.gr.l, h.gr.i0, h.gr.i1, h.gr.t0, h.gr.t1, hok⟩ hr ⟨by omega, by omega, by omega, fun hk => by have := h.lt g (h.sS g hk); omega, .inr ⟨hg, hg2⟩⟩ rfl
theorem Mc.drewN (h : Mc w b s sm t tm vb c SS S M) (n : Nat) : Mc (w.drewN n) b s sm t tm vb c SS S M := h.fr (S2 := fun _ => False) ((Fr.refl _ w).drewN n) (fun _ _ h => h)
theorem Mc.at_ (h : Mc w b s sm t tm vb c SS S M) : MaAt w b S M := ⟨s, sm, t, tm, vb, c, SS, h⟩
theorem MaAt.fr (h : MaAt w b S M) (hf : Fr S2 w w') (hS : ∀ k, S k → ¬ S2 k) : MaAt w' b S M := by
  obtain ⟨s, sm, t, tm, vb, c, SS, h⟩ := h; exact (h.fr hf hS).at_
theorem MaAt.below {B : Nat} (h : MaAt w b S M) (hb : Below B w w') (hB : w.heap.size ≤ B) : MaAt w' b S M := by
  obtain ⟨s, sm, t, tm, vb, c, SS, h⟩ := h; exact (h.below hb hB).at_
theorem MaAt.mono (h : MaAt w b S M) (hS : ∀ k, S k → S2 k) (hl : ∀ k, S2 k → k < w.heap.size) : MaAt w b S2 M := by
  obtain ⟨s, sm, t, tm, vb, c, SS, h⟩ := h; exact (h.mono hS hl).at_
theorem MaAt.drewN (h : MaAt w b S M) (n : Nat) : MaAt (w.drewN n) b S M := h.fr (S2 := fun _ => False) ((Fr.refl _ w).drewN n) (fun _ _ h => h)
/-- A machine that nothing touched. -/
theorem MaAt.same (h : MaAt w b S M) (hb : Below w.heap.size w w') : MaAt w' b (fun k => S k ∨ (w.heap.size ≤ k ∧ k < w'.heap.size)) M ∧ Fr S w w' := by
  refine ⟨(h.below hb (Nat.le_refl _)).mono (fun k hk => .inl hk) ?_, Fr.of_below hb⟩
  rintro k (hk | hk)
  · obtain ⟨_, _, _, _, _, _, _, h⟩ := h
    have := h.lt k hk
    have := hb.size
    omega
  · exact hk.2
theorem MaAt.lt (h : MaAt w b S M) : ∀ k, S k → k < w.heap.size := by obtain ⟨_, _, _, _, _, _, _, h⟩ := h; exact h.lt
theorem MaAt.own (h : MaAt w b S M) : S b := by obtain ⟨_, _, _, _, _, _, _, h⟩ := h; exact h.sb.1
theorem MaAt.gr (h : MaAt w b S M) : GrM M := by obtain ⟨_, _, _, _, _, _, _, h⟩ := h; exact h.gr
end

set_option maxRecDepth 100000 in
theorem mmade_any {w : World} {b : Nat} {S : Nat → Prop} {M : Ma} (h : MaAt w b S M) :
    Calls Tryz.prog 76 #[.pointer (some ⟨b, 0, none⟩)] w fun e w' => e = .returned (.bool true) ∧ w = w' := by
  obtain ⟨s, sm, t, tm, vb, c, SS, h⟩ := h
  have hc := blk_cell h.hp
  clear h
  go_enter Tryz.func76, Tryz.ntmps76
  go_wp2_with fail
  go_ret
  exact ⟨rfl, rfl⟩
end Go.Proofs.YtempkjnaahgbhaaGreatDoor
