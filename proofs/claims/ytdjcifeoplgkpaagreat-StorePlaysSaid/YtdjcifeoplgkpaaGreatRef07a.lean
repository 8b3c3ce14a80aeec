/-
  The reference's store in memory: forests by rising numbers, and one of them taken out. No condition: plain lemmas.
  The walks of the reference's store's forest, Lookup, Traces and Retain. Conditions: the reference's store lies in memory.
-/
import Derived.Test.YtdjcifeoplgkpaaGreatRef04f
import Derived.Test.YtdjcifeoplgkpaaGreatRef04b
import Derived.Test.YtdjcifeoplgkpaaGreatStoreG
namespace Go.Proofs.YtdjcifeoplgkpaaGreat
open Go Go.RowKit Go.Maps

theorem Tryz.infoRf : (Tryz.prog.info? 72).map (fun i => (i.zero, i.size, i.bytes)) = some (some (.pointer none), 1, 8) := by kernel_rfl
/-- The pointer to a trace's forest. -/
def ptV (p : Int → Nat) (t : Tr) : Value := .pointer (some ⟨p t.tr, 0, none⟩)
theorem pts_one (p : Int → Nat) (T : List Tr) : ∀ u ∈ T.map (ptV p), u.oneCell' = true := by
  intro u hu
  obtain ⟨t, _, rfl⟩ := List.mem_map.1 hu
  rfl
theorem pt_one (b : Nat) : ∀ u ∈ [Value.pointer (some ⟨b, 0, none⟩)], u.oneCell' = true := by
  intro u hu
  obtain rfl := List.mem_singleton.1 hu
  rfl
theorem Rd.one1 {w : World} (v : Value) (t : TypeId) (fr : Nat × Nat) : Rd (w.alloc (.cells #[v] t fr)) (w.heap.size + 1) 1 (some ⟨w.heap.size, 0, none⟩) 1 [v] :=
  Rd.new rfl rfl (fun j hj => by
    have : j = 0 := by simpa using hj
    subst this; rfl)
theorem RdPt.at_ {w : World} {B n k : Nat} {A : Option Addr} {p : Int → Nat} {T : List Tr} (h : Rd w B 1 A n (T.map (ptV p))) (hk : k < T.length) : ∃ b off, A = some ⟨b, off, none⟩ ∧ b < B ∧ w.cell? ⟨b, off + k, none⟩ = some (.pointer (some ⟨p T[k].tr, 0, none⟩)) := by
  have hl : T.length = n := by have := h.1; rw [List.length_map] at this; omega
  obtain ⟨b, off, e, hb, hc⟩ := Rd.at_ h (k := k) (by omega) (by rw [List.length_map]; exact hk)
  rw [List.getElem_map] at hc
  exact ⟨b, off, e, hb, hc⟩
theorem ptV_set (p : Int → Nat) (T : List Tr) (x : Int) (L : List Sp) : (setT T x L).map (ptV p) = T.map (ptV p) := by
  have h := setT_keys T x L
  have e : ∀ U : List Tr, U.map (ptV p) = (U.map Tr.tr).map (fun z => Value.pointer (some ⟨p z, 0, none⟩)) := fun U => by rw [List.map_map]; rfl
  rw [e, e, h]

/-- The reference's store in block x; all it has lies in S. -/
structure RS (w : World) (x : Nat) (T : List Tr) (S : Nat → Prop) : Prop where
  ex : ∃ (A : Option Addr) (c : Nat) (p : Int → Nat) (SS : Int → Nat → Prop), w.heap[x]? = some (.cells #[.slice A T.length c] 30 (0, 0)) ∧ Rd w w.heap.size 1 A T.length (T.map (ptV p)) ∧ (∀ k, A.map (·.block) = some k → S k ∧ k ≠ x) ∧
    (∀ t ∈ T, RF w (p t.tr) t.tr t.L (SS t.tr)) ∧ (∀ t ∈ T, ∀ k, SS t.tr k → S k ∧ k ≠ x ∧ A.map (·.block) ≠ some k) ∧ (∀ t ∈ T, ∀ u ∈ T, t.tr ≠ u.tr → ∀ k, SS t.tr k → ¬ SS u.tr k)
  sx : S x
  gr : GrT T
  lt : ∀ k, S k → k < w.heap.size
/-- All of it but the forest of trace y, whose pointer leads to block p0. -/
structure RSX (w : World) (x : Nat) (T : List Tr) (S : Nat → Prop) (y : Int) (p0 : Nat) (SX : Nat → Prop) : Prop where
  ex : ∃ (A : Option Addr) (c : Nat) (p : Int → Nat) (SS : Int → Nat → Prop), p y = p0 ∧ w.heap[x]? = some (.cells #[.slice A T.length c] 30 (0, 0)) ∧ Rd w w.heap.size 1 A T.length (T.map (ptV p)) ∧ (∀ k, A.map (·.block) = some k → S k ∧ k ≠ x ∧ ¬ SX k) ∧
    (∀ t ∈ T, t.tr ≠ y → RF w (p t.tr) t.tr t.L (SS t.tr)) ∧ (∀ t ∈ T, t.tr ≠ y → ∀ k, SS t.tr k → S k ∧ k ≠ x ∧ A.map (·.block) ≠ some k ∧ ¬ SX k) ∧ (∀ t ∈ T, ∀ u ∈ T, t.tr ≠ y → u.tr ≠ y → t.tr ≠ u.tr → ∀ k, SS t.tr k → ¬ SS u.tr k)
  sx : S x
  nx : ¬ SX x
  lt : ∀ k, S k → k < w.heap.size
section
variable {w w' : World} {x p0 : Nat} {T : List Tr} {S S2 SX : Nat → Prop} {y : Int}
theorem RS.fr (h : RS w x T S) (hf : Fr S2 w w') (hS : ∀ k, S k → ¬ S2 k) : RS w' x T S := by
  obtain ⟨A, c, p, SS, h1, h2, h3, h4, h5, h6⟩ := h.ex
  exact ⟨⟨A, c, p, SS, (hf.block x (h.lt x h.sx) (hS x h.sx)).trans h1, (Fr.rdA h2 hf (Nat.le_refl _) (fun k hk => hS k (h3 k hk).1)).more hf.size, h3, fun t ht => (h4 t ht).fr hf (fun k hk => hS k (h5 t ht k hk).1), h5, h6⟩, h.sx, h.gr, fun k hk => Nat.lt_of_lt_of_le (h.lt k hk) hf.size⟩
theorem RS.below {B : Nat} (h : RS w x T S) (hb : Below B w w') (hB : w.heap.size ≤ B) : RS w' x T S :=
  h.fr (S2 := fun _ => False) ⟨hb.os, hb.tape, hb.output, hb.size, fun k hk _ => hb.block k (by omega)⟩ (fun _ _ h => h)
theorem RS.drewN (h : RS w x T S) (n : Nat) : RS (w.drewN n) x T S := h.below (below_drew' w n) (Nat.le_refl _)
theorem RS.mono (h : RS w x T S) (hS : ∀ k, S k → S2 k) (hl : ∀ k, S2 k → k < w.heap.size) : RS w x T S2 := by
  obtain ⟨A, c, p, SS, h1, h2, h3, h4, h5, h6⟩ := h.ex
  exact ⟨⟨A, c, p, SS, h1, h2, fun k hk => ⟨hS k (h3 k hk).1, (h3 k hk).2⟩, h4, fun t ht k hk => ⟨hS k (h5 t ht k hk).1, (h5 t ht k hk).2⟩, h6⟩, hS _ h.sx, h.gr, hl⟩
theorem RSX.fr (h : RSX w x T S y p0 SX) (hf : Fr S2 w w') (hS : ∀ k, S k → ¬ SX k → ¬ S2 k) : RSX w' x T S y p0 SX := by
  obtain ⟨A, c, p, SS, h0, h1, h2, h3, h4, h5, h6⟩ := h.ex
  exact ⟨⟨A, c, p, SS, h0, (hf.block x (h.lt x h.sx) (hS x h.sx h.nx)).trans h1, (Fr.rdA h2 hf (Nat.le_refl _) (fun k hk => hS k (h3 k hk).1 (h3 k hk).2.2)).more hf.size, h3, fun t ht hy => (h4 t ht hy).fr hf (fun k hk => hS k (h5 t ht hy k hk).1 (h5 t ht hy k hk).2.2.2), h5, h6⟩, h.sx, h.nx, fun k hk => Nat.lt_of_lt_of_le (h.lt k hk) hf.size⟩
theorem RSX.below {B : Nat} (h : RSX w x T S y p0 SX) (hb : Below B w w') (hB : w.heap.size ≤ B) : RSX w' x T S y p0 SX :=
  h.fr (S2 := fun _ => False) ⟨hb.os, hb.tape, hb.output, hb.size, fun k hk _ => hb.block k (by omega)⟩ (fun _ _ _ h => h)
/-- The forest is put back. -/
theorem RSX.close (h : RSX w x T S y p0 SX) {B : Nat} {L : List Sp} {SX2 S3 : Nat → Prop} (hf : RF w p0 y L SX2) (hg : GrT (setT T y L)) (h2 : ∀ k, SX2 k → SX k ∨ B ≤ k) (hB : ∀ k, S k → k < B) (h3 : ∀ k, S k → S3 k) (h4 : ∀ k, SX2 k → S3 k) (hl : ∀ k, S3 k → k < w.heap.size) : RS w x (setT T y L) S3 := by
  obtain ⟨A, c, p, SS, k0, k1, k2, k3, k4, k5, k6⟩ := h.ex
  have hx2 : ¬ SX2 x := fun hk => by
    rcases h2 x hk with h1 | h1
    · exact h.nx h1
    · have := hB x h.sx; omega
  have hA2 : ∀ k, A.map (·.block) = some k → ¬ SX2 k := fun k hk hs => by
    rcases h2 k hs with h1 | h1
    · exact (k3 k hk).2.2 h1
    · have := hB k (k3 k hk).1; omega
  have hno : ∀ t ∈ T, t.tr ≠ y → ∀ k, SS t.tr k → ¬ SX2 k := fun t ht hy k hk hs => by
    rcases h2 k hs with h1 | h1
    · exact (k5 t ht hy k hk).2.2.2 h1
    · have := hB k (k5 t ht hy k hk).1; omega
  refine ⟨⟨A, c, p, fun z => if z = y then SX2 else SS z, by rw [setT_len]; exact k1, by rw [setT_len, ptV_set]; exact k2, fun k hk => ⟨h3 k (k3 k hk).1, (k3 k hk).2.1⟩, ?_, ?_, ?_⟩, h3 _ h.sx, hg, hl⟩
  · intro t ht
    rcases setT_mem ht with ⟨hy, ht⟩ | ⟨rfl, _⟩
    · simp only [if_neg hy]; exact k4 t ht hy
    · simp only [if_true, k0]; exact hf
  · intro t ht k hk
    rcases setT_mem ht with ⟨hy, ht⟩ | ⟨rfl, _⟩
    · simp only [if_neg hy] at hk
      exact ⟨h3 k (k5 t ht hy k hk).1, (k5 t ht hy k hk).2.1, (k5 t ht hy k hk).2.2.1⟩
    · simp only [if_true] at hk
      exact ⟨h4 k hk, fun e => hx2 (e ▸ hk), fun e => hA2 k e hk⟩
  · intro t ht u hu htu k hk hk2
    rcases setT_mem ht with ⟨hy, ht⟩ | ⟨rfl, _⟩
    · simp only [if_neg hy] at hk
      rcases setT_mem hu with ⟨hy2, hu⟩ | ⟨rfl, _⟩
      · simp only [if_neg hy2] at hk2
        exact k6 t ht u hu hy hy2 htu k hk hk2
      · simp only [if_true] at hk2
        exact hno t ht hy k hk hk2
    · simp only [if_true] at hk
      rcases setT_mem hu with ⟨hy2, hu⟩ | ⟨rfl, _⟩
      · simp only [if_neg hy2] at hk2
        exact hno u hu hy2 k hk2 hk
      · exact htu rfl
end
/-- What the reference's forest answers. -/
def ResFor (w : World) (x : Nat) (T : List Tr) (S : Nat → Prop) (y : Int) (e : Ending) (w' : World) : Prop :=
  w = w' ∧ ((getT T y = none ∧ e = .returned (.pointer none)) ∨ ∃ L p0 SX, getT T y = some L ∧ e = .returned (.pointer (some ⟨p0, 0, none⟩)) ∧ RF w p0 y L SX ∧ RSX w x T S y p0 SX ∧ ∀ k, SX k → S k)

set_option maxRecDepth 100000 in
set_option maxHeartbeats 1000000 in
theorem rforest_any {w : World} {x : Nat} {T : List Tr} {S : Nat → Prop} (h : RS w x T S) (y : Int) :
    Calls Tryz.prog 36 #[.pointer (some ⟨x, 0, none⟩), .int .i64 y] w (ResFor w x T S y) := by
  obtain ⟨A, c, p, SS, h1, h2, h3, h4, h5, h6⟩ := h.ex
  have hc := blk_cell h1
  have hT32 := h.gr.len
  have HSRT := Lib.hid h.gr.srt
  have HRD := Lib.hid h2
  have HF4 := Lib.hid h4
  have HEX : Hid (∀ L, getT T y = some L → RF w (p y) y L (SS y) ∧ RSX w x T S y (p y) (SS y) ∧ ∀ k, SS y k → S k) := Lib.hid (fun L hg => by
    have hm := getT_some hg
    refine ⟨h4 _ hm, ⟨⟨A, c, p, SS, rfl, h1, h2, fun k hk => ⟨(h3 k hk).1, (h3 k hk).2, fun hs => (h5 _ hm k hs).2.2 hk⟩, fun t ht _ => h4 t ht, fun t ht hy k hk => ⟨(h5 t ht k hk).1, (h5 t ht k hk).2.1, (h5 t ht k hk).2.2, h6 t ht _ hm hy k hk⟩, fun t ht u hu _ _ => h6 t ht u hu⟩, h.sx, fun hs => (h5 _ hm x hs).2.1 rfl, h.lt⟩, fun k hk => (h5 _ hm k hk).1⟩)
  clear h h1 h2 h3 h4 h5 h6
  go_enter Tryz.func36, Tryz.ntmps36
  go_wp2_with fail
  go_loop [12] (fun i => ∃ k : Nat, k ≤ T.length ∧ i = .int .i64 k ∧ ∀ t ∈ T.take k, t.tr ≠ y) (fun i => T.length - (intOf i).toNat)
  case atStart => exact ⟨0, by omega, rfl, by simp⟩
  case round =>
    obtain ⟨k, hk, rfl, hno⟩ := hrel
    have HNO := Lib.hid hno
    clear hno
    by_cases hlt : k < T.length
    · have hk1 : (k : Int) < (T.length : Int) := by omega
      obtain ⟨b1, o1, rfl, _, x0⟩ := RdPt.at_ HRD.out hlt
      have hmem : T[k] ∈ T := List.getElem_mem hlt
      obtain ⟨Ar, cr, hrf, _⟩ := (HF4.out _ hmem).ex
      have hcf := blk_cell hrf.hp
      have HTK : Hid (T.take (k + 1) = T.take k ++ [T[k]]) := Lib.hid (List.take_succ_eq_append_getElem hlt)
      have HG := Lib.hid (getT_mem HSRT.out hmem)
      clear hrf hmem
      generalize T[k] = t at *
      by_cases he : t.tr = y
      · subst he
        go_wp2_with fail
        go_ret
        obtain ⟨g1, g2, g3⟩ := HEX.out _ HG.out
        exact ⟨rfl, .inr ⟨_, _, _, HG.out, rfl, g1, g2, g3⟩⟩
      · have heb : (t.tr == y) = false := by simpa using he
        have HNX : Hid (∀ u ∈ T.take (k + 1), u.tr ≠ y) := Lib.hid (by
          rw [HTK.out]
          intro u hu
          rcases List.mem_append.1 hu with h | h
          · exact HNO.out u h
          · obtain rfl := List.mem_singleton.1 h; exact he)
        clear he
        go_wp2_with fail
        go_round
        case rel => exact ⟨k + 1, by omega, by go_num, HNX.out⟩
        case measure => simp [intOf]; omega
    · have hk1 : ¬ (k : Int) < (T.length : Int) := by omega
      have HN : Hid (getT T y = none) := Lib.hid (by
        cases hg : getT T y with
        | none => rfl
        | some L =>
          have h := HNO.out
          rw [List.take_of_length_le (by omega)] at h
          exact absurd rfl (h _ (getT_some hg)))
      go_wp2_with fail
      go_ret
      exact ⟨rfl, .inl ⟨HN.out, rfl⟩⟩

set_option maxRecDepth 100000 in
set_option maxHeartbeats 1000000 in
theorem rlookup_any {w : World} {x : Nat} {T : List Tr} {S : Nat → Prop} (h : RS w x T S) (y : Int) :
    Calls Tryz.prog 44 #[.pointer (some ⟨x, 0, none⟩), .int .i64 y] w (ResBr w (lookT T y)) := by
  have HF := Lib.hid (rforest_any h y)
  have HG := Lib.hid h.gr
  have HL := Lib.hid h.lt
  clear h
  go_enter Tryz.func44, Tryz.ntmps44
  go_wp2_with fail
  refine HF.out.mono ?_
  rintro e w1 ⟨rfl, hr⟩
  rcases hr with ⟨hg, rfl⟩ | ⟨L, p0, SX, hg, rfl, hrf, _, hS⟩
  · have HN : Hid (lookT T y = []) := Lib.hid (by unfold lookT; rw [hg])
    clear hg
    go_wp2_with fail
    go_ret
    rw [HN.out]
    exact ⟨none, 0, rfl, World.ownsRow_nil _ _ _ _, Below.refl _ _⟩
  · have HN : Hid (lookT T y = branches L) := Lib.hid (by unfold lookT; rw [hg])
    have hgr := (HG.out.ok _ (getT_some hg)).1
    obtain ⟨A, c, h1, h2⟩ := hrf.ex
    have hbr := rbr_any h1 hgr (fun k hk => HL.out k (hS k (h2 k hk).1))
    rw [← HN.out] at hbr
    have HBR := Lib.hid hbr
    clear hg hgr hrf h1 h2 hbr hS
    generalize lookT T y = bs at *
    go_wp2_with fail
    refine HBR.out.mono ?_
    rintro e w1 ⟨A1, c1, rfl, hown, hb⟩
    go_wp2_with fail
    go_ret
    exact ⟨A1, c1, rfl, hown, hb⟩

set_option maxRecDepth 100000 in
set_option maxHeartbeats 1000000 in
theorem rtraces_any {w : World} {x : Nat} {T : List Tr} {S : Nat → Prop} (h : RS w x T S) :
    Calls Tryz.prog 41 #[.pointer (some ⟨x, 0, none⟩)] w (ResNs w (trcT T)) := by
  obtain ⟨i0, hi0, gz0, gz1, gz2⟩ := info_parts Tryz.infoInt
  obtain ⟨A, c, p, SS, h1, h2, h3, h4, h5, h6⟩ := h.ex
  have hc := blk_cell h1
  have hT32 := h.gr.len
  have HRD := Lib.hid h2
  have HF4 := Lib.hid h4
  have HTL : Hid ((trcT T).length = T.length) := Lib.hid (by simp [trcT])
  clear h h1 h2 h3 h4 h5 h6
  go_enter Tryz.func41, Tryz.ntmps41
  go_wp2_with fail
  go_loopw [3, 11] (fun v i wr => ∃ (k : Nat) (A5 : Option Addr) (c5 : Nat), k ≤ T.length ∧ i = .int .i64 k ∧ v = .slice A5 k c5 ∧ wr.ownsRow w.heap.size 3 1 (.slice A5 k c5) k (((trcT T).take k).map (Value.int .i64)) ∧ Below w.heap.size w wr) (fun _ i _ => T.length - (intOf i).toNat)
  case atStart => exact ⟨0, none, 0, by omega, rfl, rfl, World.ownsRow_nil _ _ _ _, Below.refl _ _⟩
  case round =>
    obtain ⟨k, A5, c5, hk, rfl, rfl, hown, hb⟩ := hrel
    have HOWN := Lib.hid hown
    have HB := Lib.hid hb
    have hzr := hb.size
    clear hown hb
    by_cases hlt : k < T.length
    · have hk1 : (k : Int) < (T.length : Int) := by omega
      obtain ⟨b1, o1, rfl, _, x0⟩ := RdPt.at_ (Rd.below' HRD.out HB.out (Nat.le_refl _) (Nat.le_refl _)) hlt
      have hmem : T[k] ∈ T := List.getElem_mem hlt
      obtain ⟨Ar, cr, hrf, _⟩ := ((HF4.out _ hmem).below HB.out (Nat.le_refl _)).ex
      have hcf := blk_cell hrf.hp
      have HTK : Hid (((trcT T).take (k + 1)).map (Value.int .i64) = ((trcT T).take k).map (Value.int .i64) ++ [.int .i64 T[k].tr]) := Lib.hid (by
        rw [List.take_succ_eq_append_getElem (by rw [HTL.out]; exact hlt), List.map_append]; simp [trcT])
      clear hrf hmem
      generalize T[k] = t at *
      go_wp2_with (at_builtin; refine wpList_app _ rfl (.tmp 15) (.tmp 20) _ rfl w.heap.size 3 i0 _ 1 8 Tryz.underlying62 hi0 gz0 gz1 gz2 rfl (by omega) _ _ _ _ rfl (HOWN.out.alloc _) (wr.heap.size + 1) _ 1 _ [.int .i64 t.tr] rfl (Rd.one1 _ _ _) (ints_one [t.tr]) (by unfold maxLen; omega) (by omega) (by simp <;> omega) ?_; intro A6 c6 w5 hown5 hg5 _)
      go_roundw
      case rel =>
        refine ⟨k + 1, A6, c6, by omega, by go_num, rfl, ?_, below_app (HB.out.alloc hzr _) (HOWN.out.alloc _) hg5 (by simp <;> omega)⟩
        rw [HTK.out]; exact hown5
      case measure => simp [intOf]; omega
    · obtain rfl : k = T.length := by omega
      have hk1 : ¬ (T.length : Int) < (T.length : Int) := by omega
      have hown := HOWN.out
      rw [List.take_of_length_le (by have := HTL.out; omega)] at hown
      have HO := Lib.hid hown
      clear hown
      go_wp2_with fail
      go_ret
      exact ⟨A5, c5, by rw [HTL.out]; rfl, by rw [HTL.out]; exact HO.out, HB.out⟩

/-- What the reference's Retain leaves. -/
def ResRRet (w : World) (x : Nat) (S : Nat → Prop) (T : List Tr) (z : Int) (e : Ending) (w' : World) : Prop :=
  e = .returned (.int .i64 ((T.length : Int) - ((retT T z).length : Int))) ∧ RS w' x (retT T z) (fun k => S k ∨ (w.heap.size ≤ k ∧ k < w'.heap.size)) ∧ Fr S w w'
theorem retT_take (T : List Tr) (z : Int) (k : Nat) (h : k < T.length) : retT (T.take (k + 1)) z = retT (T.take k) z ++ if z ≤ endL T[k].L then [T[k]] else [] := by
  unfold retT
  rw [List.take_succ_eq_append_getElem h, List.filter_append]
  by_cases hz : z ≤ endL T[k].L <;> simp [hz]

set_option maxRecDepth 100000 in
set_option maxHeartbeats 2000000 in
theorem rretain_any {w : World} {x : Nat} {T : List Tr} {S : Nat → Prop} (h : RS w x T S) (z : Int) :
    Calls Tryz.prog 9 #[.pointer (some ⟨x, 0, none⟩), .int .i64 z] w (ResRRet w x S T z) := by
  obtain ⟨i0, hi0, gz0, gz1, gz2⟩ := info_parts Tryz.infoRf
  obtain ⟨A, c, p, SS, h1, h2, h3, h4, h5, h6⟩ := h.ex
  have hc := blk_cell h1
  have hxl := h.lt x h.sx
  have hT32 := h.gr.len
  have HRD := Lib.hid h2
  have HF4 := Lib.hid h4
  have HHP := Lib.hid h1
  have hret : ∀ (A5 : Option Addr) (c5 : Nat) (wr : World), Below w.heap.size w wr → wr.ownsRow w.heap.size 72 1 (.slice A5 (retT T z).length c5) (retT T z).length ((retT T z).map (ptV p)) →
      RS (wr.setCell ⟨x, 0, none⟩ (.slice A5 (retT T z).length c5)) x (retT T z) (fun k => S k ∨ (w.heap.size ≤ k ∧ k < (wr.setCell ⟨x, 0, none⟩ (.slice A5 (retT T z).length c5)).heap.size)) ∧ Fr S w (wr.setCell ⟨x, 0, none⟩ (.slice A5 (retT T z).length c5)) := fun A5 c5 wr hb hown => by
    have hf : Fr (fun k => k = x) wr (wr.setCell ⟨x, 0, none⟩ (.slice A5 (retT T z).length c5)) := Fr.setCell (S := fun k => k = x) (Fr.refl _ _) rfl _
    have hz : (wr.setCell ⟨x, 0, none⟩ (.slice A5 (retT T z).length c5)).heap.size = wr.heap.size := by simp [World.setCell]
    have hsz := hb.size
    have hsub : ∀ t ∈ retT T z, t ∈ T := fun t ht => (List.mem_filter.1 ht).1
    have hblk : wr.heap[x]? = some (.cells #[.slice A T.length c] 30 (0, 0)) := (hb.block x hxl).trans h1
    have hA5 : ∀ k, A5.map (·.block) = some k → w.heap.size ≤ k ∧ k < wr.heap.size := fun k hk => hown.lt k (by rw [← hk]; cases A5 <;> rfl)
    rw [hz]
    refine ⟨⟨⟨A5, c5, p, SS, ?_, ?_, fun k hk => ⟨.inr (hA5 k hk), ?_⟩, fun t ht => ((h4 t (hsub t ht)).below hb (Nat.le_refl _)).fr hf (fun k hk e => (h5 t (hsub t ht) k hk).2.1 e), fun t ht k hk => ⟨.inl (h5 t (hsub t ht) k hk).1, (h5 t (hsub t ht) k hk).2.1, fun e => ?_⟩, fun t ht u hu => h6 t (hsub t ht) u (hsub u hu)⟩, .inl h.sx, h.gr.ret z, fun k hk => ?_⟩, (Fr.of_below hb).trans (hf.mono (fun k hk => by rw [hk]; exact h.sx))⟩
    · exact blk_set hblk 0 _
    · rw [hz]
      exact Fr.rdA (Rd.of_own hown) hf (Nat.le_refl _) (fun k hk e => by have := (hA5 k hk).1; omega)
    · have := (hA5 k hk).1; omega
    · have h7 := (hA5 k e).1
      have h8 := h.lt k (h5 t (hsub t ht) k hk).1
      omega
    · rcases hk with hk | hk
      · have := h.lt k hk; omega
      · omega
  have HRET := Lib.hid hret
  clear h h1 h2 h3 h4 h5 h6 hret
  go_enter Tryz.func9, Tryz.ntmps9
  go_wp2_with fail
  go_loopw [5, 14] (fun v i wr => ∃ (k n : Nat) (A5 : Option Addr) (c5 : Nat), k ≤ T.length ∧ i = .int .i64 k ∧ n ≤ k ∧ n = (retT (T.take k) z).length ∧ v = .slice A5 n c5 ∧ wr.ownsRow w.heap.size 72 1 (.slice A5 n c5) n ((retT (T.take k) z).map (ptV p)) ∧ Below w.heap.size w wr) (fun _ i _ => T.length - (intOf i).toNat)
  case atStart => exact ⟨0, 0, none, 0, by omega, rfl, by omega, rfl, rfl, World.ownsRow_nil _ _ _ _, Below.refl _ _⟩
  case round =>
    obtain ⟨k, n, A5, c5, hk, rfl, hnk, hn, rfl, hown, hb⟩ := hrel
    have HOWN := Lib.hid hown
    have HN := Lib.hid hn
    have HB := Lib.hid hb
    have hzr := hb.size
    have hn32 : (n : Int) ≤ 32 := by omega
    clear hown hb hn
    by_cases hlt : k < T.length
    · have hk1 : (k : Int) < (T.length : Int) := by omega
      obtain ⟨b1, o1, rfl, _, x0⟩ := RdPt.at_ (Rd.below' HRD.out HB.out (Nat.le_refl _) (Nat.le_refl _)) hlt
      have hmem : T[k] ∈ T := List.getElem_mem hlt
      obtain ⟨Ar, cr, hrf, _⟩ := ((HF4.out _ hmem).below HB.out (Nat.le_refl _)).ex
      have HRF := Lib.hid hrf
      have HTK := Lib.hid (retT_take T z k hlt)
      clear hrf hmem
      generalize T[k] = t at *
      go_wp2_with fail
      refine (rend_any HRF.out).mono ?_
      rintro e w4 ⟨rfl, hb4⟩
      have HB4 : Hid (Below w.heap.size w w4) := Lib.hid (HB.out.trans (hb4.mono hzr))
      have HO4 := Lib.hid (own_below HOWN.out hb4)
      have hz4 := HB4.out.size
      clear hb4
      by_cases hz : z ≤ endL t.L
      · have HTK2 : Hid ((retT (T.take (k + 1)) z).map (ptV p) = (retT (T.take k) z).map (ptV p) ++ [.pointer (some ⟨p t.tr, 0, none⟩)] ∧ (retT (T.take (k + 1)) z).length = n + 1) := Lib.hid (by
          rw [HTK.out, if_pos hz, HN.out]; simp [ptV])
        go_wp2_with (at_builtin; refine wpList_app _ rfl (.tmp 22) (.tmp 24) _ rfl w.heap.size 72 i0 _ 1 8 Tryz.underlying28 hi0 gz0 gz1 gz2 rfl (by omega) _ _ _ _ rfl (HO4.out.alloc _) (w4.heap.size + 1) _ 1 _ [.pointer (some ⟨p t.tr, 0, none⟩)] rfl (Rd.one1 _ _ _) (pt_one _) (by unfold maxLen; omega) (by omega) (by simp <;> omega) ?_; intro A6 c6 w5 hown5 hg5 _)
        go_roundw
        case rel =>
          refine ⟨k + 1, n + 1, A6, c6, by omega, by go_num, by omega, HTK2.out.2.symm, rfl, ?_, below_app (HB4.out.alloc hz4 _) (HO4.out.alloc _) hg5 (by simp <;> omega)⟩
          rw [HTK2.out.1]; exact hown5
        case measure => simp [intOf]; omega
      · have HTK2 : Hid (retT (T.take (k + 1)) z = retT (T.take k) z) := Lib.hid (by rw [HTK.out, if_neg hz, List.append_nil])
        go_wp2_with fail
        go_roundw
        case rel => exact ⟨k + 1, n, A5, c5, by omega, by go_num, by omega, by rw [HTK2.out]; exact HN.out, rfl, by rw [HTK2.out]; exact HO4.out, HB4.out⟩
        case measure => simp [intOf]; omega
    · have hk1 : ¬ (k : Int) < (T.length : Int) := by omega
      have hkT : T.take k = T := List.take_of_length_le (by omega)
      have hn := HN.out
      have hown := HOWN.out
      rw [hkT] at hn hown
      subst hn
      have hR := HRET.out A5 c5 wr HB.out hown
      have HR := Lib.hid hR
      have hblk : wr.heap[x]? = some (.cells #[.slice A T.length c] 30 (0, 0)) := (HB.out.block x hxl).trans HHP.out
      have hcx := blk_cell hblk
      have hfx := blk_frozen hblk
      clear hkT hown hR hblk hc HN
      generalize hRR : (retT T z).length = nr at *
      have HRR := Lib.hid hRR
      clear hRR
      go_wp2_with fail
      go_ret
      exact ⟨by rw [HRR.out]; rfl, HR.out⟩
end Go.Proofs.YtdjcifeoplgkpaaGreat
