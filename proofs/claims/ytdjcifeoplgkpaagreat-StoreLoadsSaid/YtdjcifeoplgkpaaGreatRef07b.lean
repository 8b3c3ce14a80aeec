/-
  The walk of the reference's store's open: a forest without spans stands among the others, by its number. Conditions: the reference's store lies in memory, and has no forest of that number.
-/
import Derived.Test.YtdjcifeoplgkpaaGreatRef07a
namespace Go.Proofs.YtdjcifeoplgkpaaGreat
open Go Go.RowKit Go.Maps

theorem insT_app {D : List Tr} {u t : Tr} (h : ∃ v ∈ D, t.tr < v.tr) : insT (D ++ [u]) t = insT D t ++ [u] := by
  induction D with
  | nil => obtain ⟨v, hv, _⟩ := h; cases hv
  | cons a D ih =>
    rw [List.cons_append, insT, insT]
    by_cases ha : t.tr < a.tr
    · rw [if_pos ha, if_pos ha]; rfl
    · rw [if_neg ha, if_neg ha, ih, List.cons_append]
      obtain ⟨v, hv, hlt⟩ := h
      rcases List.mem_cons.1 hv with rfl | hv
      · exact absurd hlt ha
      · exact ⟨v, hv, hlt⟩
theorem insT_mid {D : List Tr} {u t : Tr} (h : ∀ v ∈ D, ¬ t.tr < v.tr) (hu : t.tr < u.tr) : insT (D ++ [u]) t = D ++ [t] ++ [u] := by
  induction D with
  | nil => rw [List.nil_append, insT, if_pos hu]; rfl
  | cons a D ih =>
    rw [List.cons_append, insT, if_neg (h a (by simp)), ih fun v hv => h v (by simp [hv])]; rfl
theorem insT_last {D : List Tr} {t : Tr} (h : ∀ v ∈ D, ¬ t.tr < v.tr) : insT D t = D ++ [t] := by
  induction D with
  | nil => rfl
  | cons a D ih => rw [insT, if_neg (h a (by simp)), ih fun v hv => h v (by simp [hv])]; rfl
theorem take_lt {T : List Tr} (hs : SrtT T) {k : Nat} (hk : k < T.length) : ∀ t ∈ T.take k, t.tr < T[k].tr := by
  intro t ht
  have h : T = T.take k ++ T[k] :: T.drop (k + 1) := by rw [← List.drop_eq_getElem_cons hk, List.take_append_drop]
  unfold SrtT at hs
  rw [h] at hs
  exact (List.pairwise_append.1 hs).2.2 t ht _ (by exact List.mem_cons_self)
theorem mem_take1 {T : List Tr} {k : Nat} (hk : k < T.length) : T[k] ∈ T.take (k + 1) := by
  rw [List.take_succ_eq_append_getElem hk]; exact List.mem_append_right _ (List.mem_singleton.2 rfl)
theorem last_at (X : List Tr) (u : Tr) (f : Tr → Value) (n : Nat) (hn : X.length = n) : ((X ++ [u]).map f)[n]? = some (f u) := by subst hn; simp
/-- What open has gathered behind k rounds. -/
def opL (T : List Tr) (y : Int) (k : Nat) : List Tr := if (T.take k).any (fun t => decide (y < t.tr)) then insT (T.take k) ⟨y, []⟩ else T.take k
theorem opL_no {T : List Tr} {y : Int} {k : Nat} (h : ∀ t ∈ T.take k, ¬ y < t.tr) : opL T y k = T.take k := by
  rw [opL, if_neg]
  intro ha
  obtain ⟨t, ht, hd⟩ := List.any_eq_true.1 ha
  exact h t ht (of_decide_eq_true hd)
theorem opL_yes {T : List Tr} {y : Int} {k : Nat} (h : ∃ t ∈ T.take k, y < t.tr) : opL T y k = insT (T.take k) ⟨y, []⟩ := by
  rw [opL, if_pos]
  obtain ⟨t, ht, hd⟩ := h
  exact List.any_eq_true.2 ⟨t, ht, decide_eq_true hd⟩
theorem opL_A {T : List Tr} (hs : SrtT T) {y : Int} {k : Nat} (hk : k < T.length) (h : ¬ y < T[k].tr) : opL T y (k + 1) = opL T y k ++ [T[k]] := by
  have h1 : ∀ t ∈ T.take k, ¬ y < t.tr := fun t ht hlt => by have := take_lt hs hk t ht; omega
  rw [opL_no h1, opL_no, List.take_succ_eq_append_getElem hk]
  intro t ht
  rw [List.take_succ_eq_append_getElem hk] at ht
  rcases List.mem_append.1 ht with ht | ht
  · exact h1 t ht
  · obtain rfl := List.mem_singleton.1 ht; exact h
theorem opL_B {T : List Tr} {y : Int} {k : Nat} (hk : k < T.length) (hy : y < T[k].tr) (h : ∀ t ∈ T.take k, ¬ y < t.tr) : opL T y k = T.take k ∧ opL T y (k + 1) = opL T y k ++ [⟨y, []⟩] ++ [T[k]] := by
  refine ⟨opL_no h, ?_⟩
  rw [opL_no h, opL_yes ⟨T[k], mem_take1 hk, hy⟩, List.take_succ_eq_append_getElem hk]
  exact insT_mid h hy
theorem opL_C {T : List Tr} (hs : SrtT T) {y : Int} {k : Nat} (hk : k < T.length) (h : ∃ t ∈ T.take k, y < t.tr) : opL T y (k + 1) = opL T y k ++ [T[k]] ∧ ∃ (j : Nat) (hj : j < T.length) (X : List Tr), k = j + 1 ∧ opL T y k = X ++ [T[j]] ∧ y < T[j].tr := by
  have h2 : ∃ t ∈ T.take (k + 1), y < t.tr := by
    obtain ⟨t, ht, hlt⟩ := h
    exact ⟨t, by rw [List.take_succ_eq_append_getElem hk]; exact List.mem_append_left _ ht, hlt⟩
  refine ⟨by rw [opL_yes h, opL_yes h2, List.take_succ_eq_append_getElem hk, insT_app h], ?_⟩
  cases k with
  | zero => obtain ⟨t, ht, _⟩ := h; simp at ht
  | succ j =>
    have hj : j < T.length := by omega
    have hyj : y < T[j].tr := by
      obtain ⟨t, ht, hlt⟩ := h
      rw [List.take_succ_eq_append_getElem hj] at ht
      rcases List.mem_append.1 ht with ht | ht
      · have := take_lt hs hj t ht; omega
      · obtain rfl := List.mem_singleton.1 ht; exact hlt
    rw [opL_yes h, List.take_succ_eq_append_getElem hj]
    by_cases ha : ∃ t ∈ T.take j, y < t.tr
    · exact ⟨j, hj, _, rfl, insT_app ha, hyj⟩
    · exact ⟨j, hj, _, rfl, insT_mid (fun v hv hlt => ha ⟨v, hv, hlt⟩) hyj, hyj⟩

/-- What open leaves. -/
def ROpen (w : World) (x : Nat) (T : List Tr) (S : Nat → Prop) (y : Int) (e : Ending) (w' : World) : Prop :=
  ∃ p0, e = .returned (.pointer (some ⟨p0, 0, none⟩)) ∧ w.heap.size ≤ p0 ∧ RF w' p0 y [] (fun k => k = p0) ∧ RSX w' x (insT T ⟨y, []⟩) (fun k => S k ∨ (w.heap.size ≤ k ∧ k < w'.heap.size)) y p0 (fun k => k = p0) ∧ Fr S w w'

set_option maxRecDepth 100000 in
set_option maxHeartbeats 4000000 in
theorem ropen_any {w : World} {x : Nat} {T : List Tr} {S : Nat → Prop} (h : RS w x T S) (y : Int) (hno : getT T y = none) :
    Calls Tryz.prog 37 #[.pointer (some ⟨x, 0, none⟩), .int .i64 y] w (ROpen w x T S y) := by
  obtain ⟨i0, hi0, gz0, gz1, gz2⟩ := info_parts Tryz.infoRf
  obtain ⟨A, c, p, SS, h1, h2, h3, h4, h5, h6⟩ := h.ex
  have hxl := h.lt x h.sx
  have hT32 := h.gr.len
  have HSRT := Lib.hid h.gr.srt
  have hny := getT_none hno
  have HNY := Lib.hid hny
  have HRD := Lib.hid h2
  have HF4 := Lib.hid h4
  have HHP := Lib.hid h1
  have HB0 : Hid (Below w.heap.size w (w.alloc (.cells #[.int .i64 y, .slice none 0 0] 96))) := Lib.hid ((Below.refl _ _).alloc (Nat.le_refl _) _)
  have HF0 := Lib.hid (heap_alloc_new w (.cells #[.int .i64 y, .slice none 0 0] 96))
  have HPV : Hid (∀ U : List Tr, (∀ t ∈ U, t.tr ≠ y) → U.map (ptV (fun z => if z = y then w.heap.size else p z)) = U.map (ptV p)) := Lib.hid (fun U hU => List.map_congr_left fun t ht => by simp [ptV, hU t ht])
  have hend : ∀ (A5 : Option Addr) (c5 : Nat) (wr : World), Below (w.heap.size + 1) (w.alloc (.cells #[.int .i64 y, .slice none 0 0] 96)) wr → wr.ownsRow (w.heap.size + 1) 72 1 (.slice A5 (T.length + 1) c5) (T.length + 1) ((insT T ⟨y, []⟩).map (ptV (fun z => if z = y then w.heap.size else p z))) →
      ROpen w x T S y (.returned (.pointer (some ⟨w.heap.size, 0, none⟩))) (wr.setCell ⟨x, 0, none⟩ (.slice A5 (T.length + 1) c5)) := fun A5 c5 wr hb hown => by
    have hf : Fr (fun k => k = x) wr (wr.setCell ⟨x, 0, none⟩ (.slice A5 (T.length + 1) c5)) := Fr.setCell (S := fun k => k = x) (Fr.refl _ _) rfl _
    have hz : (wr.setCell ⟨x, 0, none⟩ (.slice A5 (T.length + 1) c5)).heap.size = wr.heap.size := by simp [World.setCell]
    have hsz := hb.size
    simp only [World.size_alloc] at hsz
    have hbw : Below w.heap.size w wr := HB0.out.trans (hb.mono (by omega))
    have hblk : wr.heap[x]? = some (.cells #[.slice A T.length c] 30 (0, 0)) := (hbw.block x hxl).trans h1
    have hA5 : ∀ k, A5.map (·.block) = some k → w.heap.size + 1 ≤ k ∧ k < wr.heap.size := fun k hk => hown.lt k (by rw [← hk]; cases A5 <;> rfl)
    have hsub : ∀ t ∈ insT T ⟨y, []⟩, t.tr ≠ y → t ∈ T := fun t ht hy => by
      rcases insT_mem.1 ht with rfl | ht
      · exact absurd rfl hy
      · exact ht
    refine ⟨w.heap.size, rfl, Nat.le_refl _, ⟨⟨none, 0, ⟨?_, Rd.nil, by simp⟩, by simp⟩, rfl, fun k hk => by rw [hz, hk]; omega⟩, ⟨⟨A5, c5, fun z => if z = y then w.heap.size else p z, SS, by simp, ?_, ?_, fun k hk => ?_, fun t ht hy => ?_, fun t ht hy k hk => ?_, fun t ht u hu h7 h8 => h6 t (hsub t ht h7) u (hsub u hu h8)⟩, .inl h.sx, by omega, fun k hk => ?_⟩, ?_⟩
    · exact (hf.block _ (by omega) (by omega)).trans (blk_below hb (by omega) HF0.out)
    · rw [insT_len]; exact blk_set hblk 0 _
    · rw [insT_len, hz]
      exact Fr.rdA (Rd.of_own hown) hf (Nat.le_refl _) (fun k hk e => by have := (hA5 k hk).1; omega)
    · have h7 := hA5 k hk
      rw [hz]
      exact ⟨.inr ⟨by omega, h7.2⟩, by omega, by omega⟩
    · simp only [if_neg hy]
      exact ((h4 t (hsub t ht hy)).below hbw (Nat.le_refl _)).fr hf (fun k hk e => (h5 t (hsub t ht hy) k hk).2.1 e)
    · have h7 := h5 t (hsub t ht hy) k hk
      have h8 := h.lt k h7.1
      exact ⟨.inl h7.1, h7.2.1, fun e => by have := (hA5 k e).1; omega, by omega⟩
    · rw [hz] at hk ⊢
      rcases hk with hk | hk
      · have := h.lt k hk; omega
      · exact hk.2
    · exact (Fr.of_below hbw).trans (hf.mono (fun k hk => by rw [hk]; exact h.sx))
  have HEND := Lib.hid hend
  clear h h1 h2 h3 h4 h5 h6 hend hny hno
  go_enter Tryz.func37, Tryz.ntmps37
  have hcx0 : ∀ j, (w.alloc (.cells #[.int .i64 y, .slice none 0 0] 96)).cell? ⟨x, j, none⟩ = (#[.slice A T.length c] : Array Value)[j]? := blk_cell ((Below.heap_alloc _ _ _ hxl).trans HHP.out)
  go_wp2_with fail
  clear hcx0
  go_loopw [6, 17] (fun v i wr => ∃ (k m : Nat) (A5 : Option Addr) (c5 : Nat), k ≤ T.length ∧ i = .int .i64 k ∧ m ≤ k + 1 ∧ m = (opL T y k).length ∧ v = .slice A5 m c5 ∧ wr.ownsRow (w.heap.size + 1) 72 1 (.slice A5 m c5) m ((opL T y k).map (ptV (fun z => if z = y then w.heap.size else p z))) ∧ Below (w.heap.size + 1) (w.alloc (.cells #[.int .i64 y, .slice none 0 0] 96)) wr) (fun _ i _ => T.length - (intOf i).toNat)
  case atStart => exact ⟨0, 0, none, 0, by omega, rfl, by omega, rfl, rfl, World.ownsRow_nil _ _ _ _, Below.refl _ _⟩
  case round =>
    obtain ⟨k, m, A5, c5, hk, rfl, hmk, hm, rfl, hown, hb⟩ := hrel
    have HOWN := Lib.hid hown
    have HM := Lib.hid hm
    have HB := Lib.hid hb
    have hzr := hb.size
    simp only [World.size_alloc] at hzr
    have HBW : Hid (Below w.heap.size w wr) := Lib.hid (HB0.out.trans (hb.mono (by omega)))
    clear hown hb hm
    by_cases hlt : k < T.length
    · have hk1 : (k : Int) < (T.length : Int) := by omega
      obtain ⟨b1, o1, rfl, _, x0⟩ := RdPt.at_ (Rd.below' HRD.out HBW.out (Nat.le_refl _) (Nat.le_refl _)) hlt
      have hmem : T[k] ∈ T := List.getElem_mem hlt
      obtain ⟨Ar, cr, hrf, _⟩ := ((HF4.out _ hmem).below HBW.out (Nat.le_refl _)).ex
      have hcf := blk_cell hrf.hp
      have hc0 := blk_cell (blk_below HB.out (by omega) HF0.out)
      have hne := HNY.out _ hmem
      have HPT : Hid (ptV (fun z => if z = y then w.heap.size else p z) T[k] = .pointer (some ⟨p T[k].tr, 0, none⟩)) := Lib.hid (by simp [ptV, hne])
      have hzd : w.heap.size + 1 ≤ wr.heap.size := by omega
      have HBD : Hid (Below (w.heap.size + 1) (w.alloc (.cells #[.int .i64 y, .slice none 0 0] 96)) (wr.drewN 1)) := Lib.hid (below_dN HB.out 1)
      have HOWD : Hid ((wr.drewN 1).ownsRow (w.heap.size + 1) 72 1 (.slice A5 m c5) m ((opL T y k).map (ptV (fun z => if z = y then w.heap.size else p z)))) := Lib.hid (own_below HOWN.out (below_drew' _ 1))
      by_cases hy : y < T[k].tr
      · by_cases hex : ∃ t ∈ T.take k, y < t.tr
        · obtain ⟨e1, j, hj, X, rfl, e2, hyj⟩ := opL_C HSRT.out hlt hex
          have HL1 : Hid (m + 1 = (opL T y (j + 1 + 1)).length) := Lib.hid (by rw [e1, HM.out]; simp)
          have HD1 : Hid ((opL T y (j + 1 + 1)).map (ptV (fun z => if z = y then w.heap.size else p z)) = (opL T y (j + 1)).map (ptV (fun z => if z = y then w.heap.size else p z)) ++ [.pointer (some ⟨p T[j + 1].tr, 0, none⟩)]) := Lib.hid (by rw [e1, List.map_append, List.map_cons, List.map_nil, HPT.out])
          have hmx : m = X.length + 1 := by rw [HM.out, e2]; simp
          have hmemj : T[j] ∈ T := List.getElem_mem hj
          obtain ⟨Aj, cj, hrfj, _⟩ := ((HF4.out _ hmemj).below HBW.out (Nat.le_refl _)).ex
          have hcj := blk_cell hrfj.hp
          have hnej := HNY.out _ hmemj
          obtain ⟨g5, rfl, _, _⟩ := own_form HOWN.out (by omega)
          have hlast : wr.cell? ⟨g5, X.length, none⟩ = some (.pointer (some ⟨p T[j].tr, 0, none⟩)) := by
            have h7 := HOWN.out.cellAt X.length (by omega)
            rw [e2, last_at _ _ _ _ rfl] at h7
            rw [h7]
            simp [ptV, hnej]
          have hlt2 : ¬ T[j].tr < y := by omega
          clear hrf hrfj hmem hmemj hex e1 e2
          generalize T[j + 1] = t at *
          generalize T[j] = u at *
          have hl0 : ((m : Int) == 0) = false := beq_eq_false_iff_ne.2 (by omega)
          have HQ : Hid (IntKind.i64.wrap ((m : Int) - 1) = (X.length : Int)) := Lib.hid ((IntWalk.i64_left _).trans (by rw [IntWalk.wrap64_in _ (by omega)]; omega))
          have hxl1 : (0 : Int) ≤ (X.length : Int) := by omega
          have hxl2 : (X.length : Int) < (m : Int) := by omega
          clear hmx
          generalize hk2 : j + 1 = k at *
          clear hk2
          go_wp2_with fail
          refine wp_region_sched [(0, true), (1, true), (2, true), (3, true), (4, true), (5, true), (6, true), (7, true), (8, true), (9, true), (10, true), (11, true), (12, true), (13, true), (14, true), (15, true), (16, true), (17, true), (18, true), (19, true), (20, true), (21, true), (22, true), (23, true), (24, true), (25, true), (26, true), (27, true), (28, true), (29, true)] (fun W => ∃ q, W = wr.drewN q) (by kernel_rfl) (by kernel_rfl) rfl (by kernel_rfl) (⟨1, rfl⟩) ?_
          repeat (first | (apply sched_take rfl; (focus (first | rfl | (go_simp; done))); (focus (intro W hW; obtain ⟨q, rfl⟩ := hW; have q1 := HQ.out; go_simp; rfl)); (focus (intro K hK; go_simp; refine hK _ ?_; clear hK K))) | (apply sched_skip rfl; (focus (first | rfl | (go_simp; done))); (focus (intro K hK; go_simp; refine hK _ ?_; clear hK K))))
          refine sched_nil ?_
          go_wp2_with (at_builtin; refine wpList_app _ rfl (.tmp 55) (.tmp 57) _ rfl (w.heap.size + 1) 72 i0 _ 1 8 Tryz.underlying28 hi0 gz0 gz1 gz2 rfl (by omega) _ _ _ _ rfl (HOWD.out.alloc _) (wr.heap.size + 1) _ 1 _ [.pointer (some ⟨p t.tr, 0, none⟩)] rfl (Rd.one1 _ _ _) (pt_one _) (by unfold maxLen; omega) (by omega) (by simp <;> omega) ?_; intro A7 c7 w7 hown7 hg7 _)
          go_roundw
          case rel =>
            refine ⟨k + 1, m + 1, A7, c7, by omega, by go_num, by omega, HL1.out, rfl, ?_, below_app (HBD.out.alloc hzd _) (HOWD.out.alloc _) hg7 (by simp <;> omega)⟩
            rw [HD1.out]; exact hown7
          case measure => simp [intOf]; omega
        · obtain ⟨e0, e1⟩ := opL_B hlt hy (fun t ht hlt => hex ⟨t, ht, hlt⟩)
          have HL1 : Hid (m + 1 + 1 = (opL T y (k + 1)).length) := Lib.hid (by rw [e1, HM.out]; simp)
          have HD1 : Hid ((opL T y (k + 1)).map (ptV (fun z => if z = y then w.heap.size else p z)) = (opL T y k).map (ptV (fun z => if z = y then w.heap.size else p z)) ++ [.pointer (some ⟨w.heap.size, 0, none⟩)] ++ [.pointer (some ⟨p T[k].tr, 0, none⟩)]) := Lib.hid (by rw [e1, List.map_append, List.map_append, List.map_cons, List.map_nil, List.map_cons, List.map_nil, HPT.out]; simp [ptV])
          have hmk2 : m = k := by rw [HM.out, e0, List.length_take]; omega
          have hmk3 : m ≤ k := by omega
          by_cases hk0 : k = 0
          · have hm0 : ((m : Int) == 0) = true := by rw [hmk2, hk0]; rfl
            clear hrf hmem hex e0 e1 hk0 hmk2
            generalize T[k] = t at *
            go_wp2_with fail
            refine wp_region_sched [(0, true), (1, true), (2, true), (3, true), (4, true), (5, true), (6, true), (7, true), (8, true), (9, true), (10, true), (11, true), (12, true), (13, true), (14, true), (15, true), (16, true), (17, true), (18, true), (19, true), (20, true), (21, true), (22, true), (23, true), (24, true), (25, true), (26, true), (27, true), (28, true), (29, true)] (fun W => ∃ q, W = wr.drewN q) (by kernel_rfl) (by kernel_rfl) rfl (by kernel_rfl) (⟨1, rfl⟩) ?_
            repeat (first | (apply sched_take rfl; (focus (first | rfl | (go_simp; done))); (focus (intro W hW; obtain ⟨q, rfl⟩ := hW; go_simp; rfl)); (focus (intro K hK; go_simp; refine hK _ ?_; clear hK K))) | (apply sched_skip rfl; (focus (first | rfl | (go_simp; done))); (focus (intro K hK; go_simp; refine hK _ ?_; clear hK K))))
            refine sched_nil ?_
            go_wp2_with (first | (at_builtin; refine wpList_app _ rfl (.tmp 51) (.tmp 53) _ rfl (w.heap.size + 1) 72 i0 _ 1 8 Tryz.underlying28 hi0 gz0 gz1 gz2 rfl (by omega) _ _ _ _ rfl (HOWD.out.alloc _) (wr.heap.size + 1) _ 1 _ [.pointer (some ⟨w.heap.size, 0, none⟩)] rfl (Rd.one1 _ _ _) (pt_one _) (by unfold maxLen; omega) (by omega) (by simp <;> omega) ?_; intro A6 c6 w6 hown6 hg6 _; have HOW6 := Lib.hid hown6; have HB6 := Lib.hid (below_app (HBD.out.alloc hzd (.cells #[.pointer (some ⟨w.heap.size, 0, none⟩)] 72)) (HOWD.out.alloc _) hg6 (by simp <;> omega)); have hz6 := HB6.out.size; simp only [World.size_alloc] at hz6; clear hown6 hg6) | (at_builtin; refine wpList_app _ rfl (.tmp 55) (.tmp 57) _ rfl (w.heap.size + 1) 72 i0 _ 1 8 Tryz.underlying28 hi0 gz0 gz1 gz2 rfl (by omega) _ _ _ _ rfl (HOW6.out.alloc _) (w6.heap.size + 1) _ 1 _ [.pointer (some ⟨p t.tr, 0, none⟩)] rfl (Rd.one1 _ _ _) (pt_one _) (by unfold maxLen; omega) (by omega) (by simp <;> omega) ?_; intro A7 c7 w7 hown7 hg7 _))
            go_roundw
            case rel =>
              refine ⟨k + 1, m + 1 + 1, A7, c7, by omega, by go_num, by omega, HL1.out, rfl, ?_, below_app (HB6.out.alloc (by omega) _) (HOW6.out.alloc _) hg7 (by simp <;> omega)⟩
              rw [HD1.out]; exact hown7
            case measure => simp [intOf]; omega
          · obtain ⟨j, rfl⟩ : ∃ j, k = j + 1 := ⟨k - 1, by omega⟩
            have hj : j < T.length := by omega
            have hmemj : T[j] ∈ T := List.getElem_mem hj
            obtain ⟨Aj, cj, hrfj, _⟩ := ((HF4.out _ hmemj).below HBW.out (Nat.le_refl _)).ex
            have hcj := blk_cell hrfj.hp
            have hnej := HNY.out _ hmemj
            have e2 : opL T y (j + 1) = T.take j ++ [T[j]] := by rw [e0, List.take_succ_eq_append_getElem hj]
            have hltj : T[j].tr < y := by
              have h7 : ¬ y < T[j].tr := fun hlt => hex ⟨T[j], mem_take1 hj, hlt⟩
              omega
            obtain ⟨g5, rfl, _, _⟩ := own_form HOWN.out (by omega)
            have hlast : wr.cell? ⟨g5, j, none⟩ = some (.pointer (some ⟨p T[j].tr, 0, none⟩)) := by
              have h7 := HOWN.out.cellAt j (by omega)
              rw [e2, last_at _ _ _ _ (by simp; omega)] at h7
              rw [h7]
              simp [ptV, hnej]
            clear hrf hrfj hmem hmemj hex e0 e1 e2 hk0
            generalize T[j + 1] = t at *
            generalize T[j] = u at *
            have hl0 : ((m : Int) == 0) = false := beq_eq_false_iff_ne.2 (by omega)
            have HQ : Hid (IntKind.i64.wrap ((m : Int) - 1) = (j : Int)) := Lib.hid ((IntWalk.i64_left _).trans (by rw [IntWalk.wrap64_in _ (by omega)]; omega))
            have hxl1 : (0 : Int) ≤ (j : Int) := by omega
            have hxl2 : (j : Int) < (m : Int) := by omega
            clear hmk2
            generalize hk2 : j + 1 = k at *
            clear hk2
            go_wp2_with fail
            refine wp_region_sched [(0, true), (1, true), (2, true), (3, true), (4, true), (5, true), (6, true), (7, true), (8, true), (9, true), (10, true), (11, true), (12, true), (13, true), (14, true), (15, true), (16, true), (17, true), (18, true), (19, true), (20, true), (21, true), (22, true), (23, true), (24, true), (25, true), (26, true), (27, true), (28, true), (29, true)] (fun W => ∃ q, W = wr.drewN q) (by kernel_rfl) (by kernel_rfl) rfl (by kernel_rfl) (⟨1, rfl⟩) ?_
            repeat (first | (apply sched_take rfl; (focus (first | rfl | (go_simp; done))); (focus (intro W hW; obtain ⟨q, rfl⟩ := hW; have q1 := HQ.out; go_simp; rfl)); (focus (intro K hK; go_simp; refine hK _ ?_; clear hK K))) | (apply sched_skip rfl; (focus (first | rfl | (go_simp; done))); (focus (intro K hK; go_simp; refine hK _ ?_; clear hK K))))
            refine sched_nil ?_
            go_wp2_with (first | (at_builtin; refine wpList_app _ rfl (.tmp 51) (.tmp 53) _ rfl (w.heap.size + 1) 72 i0 _ 1 8 Tryz.underlying28 hi0 gz0 gz1 gz2 rfl (by omega) _ _ _ _ rfl (HOWD.out.alloc _) (wr.heap.size + 1) _ 1 _ [.pointer (some ⟨w.heap.size, 0, none⟩)] rfl (Rd.one1 _ _ _) (pt_one _) (by unfold maxLen; omega) (by omega) (by simp <;> omega) ?_; intro A6 c6 w6 hown6 hg6 _; have HOW6 := Lib.hid hown6; have HB6 := Lib.hid (below_app (HBD.out.alloc hzd (.cells #[.pointer (some ⟨w.heap.size, 0, none⟩)] 72)) (HOWD.out.alloc _) hg6 (by simp <;> omega)); have hz6 := HB6.out.size; simp only [World.size_alloc] at hz6; clear hown6 hg6) | (at_builtin; refine wpList_app _ rfl (.tmp 55) (.tmp 57) _ rfl (w.heap.size + 1) 72 i0 _ 1 8 Tryz.underlying28 hi0 gz0 gz1 gz2 rfl (by omega) _ _ _ _ rfl (HOW6.out.alloc _) (w6.heap.size + 1) _ 1 _ [.pointer (some ⟨p t.tr, 0, none⟩)] rfl (Rd.one1 _ _ _) (pt_one _) (by unfold maxLen; omega) (by omega) (by simp <;> omega) ?_; intro A7 c7 w7 hown7 hg7 _))
            go_roundw
            case rel =>
              refine ⟨k + 1, m + 1 + 1, A7, c7, by omega, by go_num, by omega, HL1.out, rfl, ?_, below_app (HB6.out.alloc (by omega) _) (HOW6.out.alloc _) hg7 (by simp <;> omega)⟩
              rw [HD1.out]; exact hown7
            case measure => simp [intOf]; omega
      · have e1 := opL_A HSRT.out hlt hy
        have HL1 : Hid (m + 1 = (opL T y (k + 1)).length) := Lib.hid (by rw [e1, HM.out]; simp)
        have HD1 : Hid ((opL T y (k + 1)).map (ptV (fun z => if z = y then w.heap.size else p z)) = (opL T y k).map (ptV (fun z => if z = y then w.heap.size else p z)) ++ [.pointer (some ⟨p T[k].tr, 0, none⟩)]) := Lib.hid (by rw [e1, List.map_append, List.map_cons, List.map_nil, HPT.out])
        have hyt : ¬ y < T[k].tr := hy
        clear hrf hmem e1
        generalize T[k] = t at *
        go_wp2_with fail
        refine wp_region_sched [(0, true), (1, true), (2, true), (3, true), (4, true), (5, true), (6, true), (7, true), (8, true), (9, true), (10, true), (11, true), (12, true), (13, true), (14, true), (15, true), (16, true), (17, true), (18, true), (19, true), (20, true), (21, true), (22, true), (23, true), (24, true), (25, true), (26, true), (27, true), (28, true), (29, true)] (fun W => ∃ q, W = wr.drewN q) (by kernel_rfl) (by kernel_rfl) rfl (by kernel_rfl) (⟨1, rfl⟩) ?_
        repeat (first | (apply sched_take rfl; (focus (first | rfl | (go_simp; done))); (focus (intro W hW; obtain ⟨q, rfl⟩ := hW; go_simp; rfl)); (focus (intro K hK; go_simp; refine hK _ ?_; clear hK K))) | (apply sched_skip rfl; (focus (first | rfl | (go_simp; done))); (focus (intro K hK; go_simp; refine hK _ ?_; clear hK K))))
        refine sched_nil ?_
        go_wp2_with (at_builtin; refine wpList_app _ rfl (.tmp 55) (.tmp 57) _ rfl (w.heap.size + 1) 72 i0 _ 1 8 Tryz.underlying28 hi0 gz0 gz1 gz2 rfl (by omega) _ _ _ _ rfl (HOWD.out.alloc _) (wr.heap.size + 1) _ 1 _ [.pointer (some ⟨p t.tr, 0, none⟩)] rfl (Rd.one1 _ _ _) (pt_one _) (by unfold maxLen; omega) (by omega) (by simp <;> omega) ?_; intro A7 c7 w7 hown7 hg7 _)
        go_roundw
        case rel =>
          refine ⟨k + 1, m + 1, A7, c7, by omega, by go_num, by omega, HL1.out, rfl, ?_, below_app (HBD.out.alloc hzd _) (HOWD.out.alloc _) hg7 (by simp <;> omega)⟩
          rw [HD1.out]; exact hown7
        case measure => simp [intOf]; omega
    · have hk1 : ¬ (k : Int) < (T.length : Int) := by omega
      have hkT : k = T.length := by omega
      have hcx : ∀ j, wr.cell? ⟨x, j, none⟩ = (#[.slice A T.length c] : Array Value)[j]? := blk_cell ((HBW.out.block x hxl).trans HHP.out)
      have hfx := blk_frozen ((HBW.out.block x hxl).trans HHP.out)
      by_cases hex : ∃ t ∈ T, y < t.tr
      · have e1 : opL T y k = insT T ⟨y, []⟩ := by
          rw [hkT, opL_yes (by rw [List.take_length]; exact hex), List.take_length]
        have hm1 : m = T.length + 1 := by rw [HM.out, e1, insT_len]
        subst hm1
        have hq : (((T.length + 1 : Nat) : Int) == (T.length : Int)) = false := beq_eq_false_iff_ne.2 (by omega)
        have hq2 : (((T.length : Int) + 1) == (T.length : Int)) = false := beq_eq_false_iff_ne.2 (by omega)
        have HE := Lib.hid (HEND.out A5 c5 wr HB.out (by rw [← e1]; exact HOWN.out))
        clear hex e1
        go_wp2_with fail
        go_ret
        exact HE.out
      · have e1 : opL T y k = T := by
          rw [hkT, opL_no (by rw [List.take_length]; exact fun t ht hlt => hex ⟨t, ht, hlt⟩), List.take_length]
        have e2 : insT T ⟨y, []⟩ = T ++ [⟨y, []⟩] := insT_last (fun t ht hlt => hex ⟨t, ht, hlt⟩)
        have HE2 : Hid ((insT T ⟨y, []⟩).map (ptV (fun z => if z = y then w.heap.size else p z)) = (opL T y k).map (ptV (fun z => if z = y then w.heap.size else p z)) ++ [.pointer (some ⟨w.heap.size, 0, none⟩)]) := Lib.hid (by rw [e1, e2, List.map_append]; simp [ptV])
        have hm1 : m = T.length := by rw [HM.out, e1]
        subst hm1
        have HB1 : Hid (Below (w.heap.size + 1) (w.alloc (.cells #[.int .i64 y, .slice none 0 0] 96)) (wr.alloc (.cells #[.pointer (some ⟨w.heap.size, 0, none⟩)] 72))) := Lib.hid (HB.out.alloc (by omega) _)
        clear hex e1 e2
        go_wp2_with (at_builtin; refine wpList_app _ rfl (.tmp 68) (.tmp 70) _ rfl (w.heap.size + 1) 72 i0 _ 1 8 Tryz.underlying28 hi0 gz0 gz1 gz2 rfl (by omega) _ _ _ _ rfl (HOWN.out.alloc _) (wr.heap.size + 1) _ 1 _ [.pointer (some ⟨w.heap.size, 0, none⟩)] rfl (Rd.one1 _ _ _) (pt_one _) (by unfold maxLen; omega) (by omega) (by simp <;> omega) ?_; intro A7 c7 w7 hown7 hg7 _; have hb7 := below_app HB1.out (HOWN.out.alloc _) hg7 (by simp <;> omega); have hbw7 : Below w.heap.size w w7 := HB0.out.trans (hb7.mono (by omega)); have hcx7 : ∀ j, w7.cell? ⟨x, j, none⟩ = (#[.slice A T.length c] : Array Value)[j]? := blk_cell ((hbw7.block x hxl).trans HHP.out); have hfx7 := blk_frozen ((hbw7.block x hxl).trans HHP.out); rw [← HE2.out] at hown7; have HE := Lib.hid (HEND.out A7 c7 w7 hb7 hown7); clear hb7 hbw7 hown7 hg7)
        go_ret
        exact HE.out
end Go.Proofs.YtdjcifeoplgkpaaGreat
