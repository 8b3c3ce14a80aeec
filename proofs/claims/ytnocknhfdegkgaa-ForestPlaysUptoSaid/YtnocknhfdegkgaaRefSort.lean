/-
  The walk of the reference's Sort: each span at its place, one by one; it comes to the one sorted list. Conditions: the slice reads as a list, not longer than memory bears.
-/
import Derived.Test.YtnocknhfdegkgaaStd
import Derived.Test.YtnocknhfdegkgaaSorted
import Derived.Test.YtnocknhfdegkgaaRefLess
namespace Go.Proofs.Ytnocknhfdegkgaa
open Go.RowKit

/-- What is still to be put, when one has been put at its place or not. -/
def restS (s : Sp) (done : Bool) (l : List Sp) : List Sp := if done then l else insS s l
theorem rest_done {s : Sp} {nx l r : List Sp} {x : Sp} (h : nx ++ restS s true (x :: l) = r) : (nx ++ [x]) ++ restS s true l = r := by subst h; simp [restS]
theorem rest_now {s : Sp} {nx l r : List Sp} {x : Sp} (hc : decide (s.cmp x < 0) = true) (h : nx ++ restS s false (x :: l) = r) : (nx ++ [s] ++ [x]) ++ restS s true l = r := by
  subst h; simp [restS, insS, of_decide_eq_true hc]
theorem rest_later {s : Sp} {nx l r : List Sp} {x : Sp} (hc : decide (s.cmp x < 0) = false) (h : nx ++ restS s false (x :: l) = r) : (nx ++ [x]) ++ restS s false l = r := by
  subst h; simp [restS, insS, of_decide_eq_false hc]
theorem insAll_step {acc l : List Sp} {k : Nat} (h : k < l.length) : insAll acc (l.drop k) = insAll (insS l[k] acc) (l.drop (k + 1)) := by
  rw [List.drop_eq_getElem_cons h]; rfl
theorem Rd.one6 {w : World} {H : Nat} (hH : w.heap.size = H) (s : Sp) (t : TypeId) (fr : Nat × Nat) : Rd (w.alloc (.cells #[.int .i64 s.tr, .int .i64 s.id, .int .i64 s.pa, .int .i64 s.st, .int .i64 s.en, .string s.nm] t fr)) (H + 1) 6 (some ⟨H, 0, none⟩) 1 s.cells := by
  have := RdS.one hH s t fr; simpa [RdS] using this
theorem cells_one1 (s : Sp) : ∀ u ∈ s.cells, u.oneCell' = true := by have := cells_oneCell [s]; simpa using this
theorem own_ne {w : World} {base sz n c m k : Nat} {e : TypeId} {A : Option Addr} {xs : List Value} (h : w.ownsRow base e sz (.slice A n c) m xs) (hk : w.heap.size ≤ k) : some k ≠ A.map (·.block) := by
  intro he
  have := h.lt k (by rw [he]; cases A <;> rfl)
  omega
theorem grown_cell {w w' : World} {row : Option Nat} (hg : w.grownBy w' row) {p : Addr} (h1 : p.block < w.heap.size) (h2 : some p.block ≠ row) : w'.cell? p = w.cell? p := by
  simp only [World.cell?, hg.block p.block h1 h2]
theorem flat_snoc (l : List Sp) (s : Sp) : (l ++ [s]).flatMap Sp.cells = l.flatMap Sp.cells ++ s.cells := by simp

set_option maxRecDepth 100000 in
set_option maxHeartbeats 2000000 in
theorem refSort_any (A : Option Addr) (n cap B : Nat) (l : List Sp) (w : World) (hB : B ≤ w.heap.size) (hb : n ≤ 2513169434915) (hr : RdS w B A n l) :
    Calls Try.prog 43 #[.slice A n cap] w (ResS w (sortS l)) := by
  obtain ⟨i0, hi0, hz0, hz1, hz2⟩ := info_parts Try.infoSpan
  have hl := hr.len
  subst hl
  have HG : Hid (insAll [] l = sortS l) := Lib.hid (insAll_sortS l)
  go_enter Try.func43, Try.ntmps43
  go_wp2_with fail
  go_loopw [3, 12] (fun v i wr => ∃ (k : Nat) (acc : List Sp) (A' : Option Addr) (c : Nat), k ≤ l.length ∧ i = .int .i64 k ∧ v = .slice A' acc.length c ∧ acc.length = k ∧
      wr.ownsRow w.heap.size 30 6 (.slice A' acc.length c) acc.length (acc.flatMap Sp.cells) ∧ Below w.heap.size w wr ∧ insAll acc (l.drop k) = insAll [] l) (fun _ i _ => l.length - (intOf i).toNat)
  case atStart => exact ⟨0, [], none, 0, by omega, rfl, rfl, rfl, World.ownsRow_nil _ _ _ _, Below.refl _ _, by simp⟩
  case round =>
    obtain ⟨k, acc, A', c, hk, rfl, rfl, hak, hown, hbel, hins⟩ := hrel
    obtain ⟨we, rfl⟩ : ∃ we, we = wr := ⟨wr, rfl⟩
    by_cases hlt : k < l.length
    · have hstep := insAll_step (acc := acc) hlt
      obtain ⟨b1, o1, rfl, hbB, x0, x1, x2, x3, x4, x5⟩ := RdS.at_ (Rd.below hr (hbel.mono hB) (Nat.le_refl _)) hlt
      have HI := Lib.hid (hstep.symm.trans hins)
      have hal : acc.length < l.length := by omega
      have HK := Lib.hid hak
      have HO := Lib.hid hown
      have HB := Lib.hid hbel
      have HR := Lib.hid hr
      have hk1 : (k : Int) < (l.length : Int) := by omega
      have hsz := hbel.size
      generalize l[k] = s at *
      clear hstep hins hak hown hbel hr
      go_wp2_with fail
      have HS := Lib.hid (blk_cell (heap_alloc_new we (.cells #[.int .i64 s.tr, .int .i64 s.id, .int .i64 s.pa, .int .i64 s.st, .int .i64 s.en, .string s.nm] 30)))
      go_loopw [6, 7, 18] (fun v d i wr => ∃ (j : Nat) (nx : List Sp) (A2 : Option Addr) (c2 : Nat) (dn : Bool), j ≤ acc.length ∧ i = .int .i64 j ∧ d = .bool dn ∧ v = .slice A2 nx.length c2 ∧ nx.length ≤ j + 1 ∧ (dn = false → nx.length ≤ j) ∧
          wr.ownsRow (we.heap.size + 1) 30 6 (.slice A2 nx.length c2) nx.length (nx.flatMap Sp.cells) ∧ Below (we.heap.size + 1) (we.alloc (.cells #[.int .i64 s.tr, .int .i64 s.id, .int .i64 s.pa, .int .i64 s.st, .int .i64 s.en, .string s.nm] 30)) wr ∧ nx ++ restS s dn (acc.drop j) = insS s acc) (fun _ _ i _ => acc.length - (intOf i).toNat)
      case atStart => exact ⟨0, [], none, 0, false, by omega, rfl, rfl, rfl, by simp, fun _ => by simp, World.ownsRow_nil _ _ _ _, Below.refl _ _, by simp [restS]⟩
      case round =>
        obtain ⟨j, nx, A2, c2, dn, hj, rfl, rfl, rfl, hnl, hnf, hown2, hb2, hrest⟩ := hrel
        have HO2 := Lib.hid hown2
        have HN := Lib.hid hnf
        clear hnf
        have HB2 := Lib.hid hb2
        have hs2 := hb2.size
        simp at hs2
        have hs3 : we.heap.size < wr.heap.size := by omega
        have hSc : ∀ j, wr.cell? ⟨we.heap.size, j, none⟩ = (#[.int .i64 s.tr, .int .i64 s.id, .int .i64 s.pa, .int .i64 s.st, .int .i64 s.en, .string s.nm] : Array Value)[j]? := fun j => (hb2.cell (by simp)).trans (HS.out j)
        have hb3 : Below w.heap.size w wr := ((HB.out.alloc (by omega) _).trans (hb2.mono (by omega)))
        have HB3 := Lib.hid hb3
        clear hown2 hb2 hb3
        by_cases hjl : j < acc.length
        · have hra : RdS wr we.heap.size A' acc.length acc := Rd.below (Rd.of_own HO.out) ((((Below.refl _ _).alloc (Nat.le_refl _) _)).trans (HB2.out.mono (by omega))) (Nat.le_refl _)
          obtain ⟨b2, o2, rfl, hb2B, y0, y1, y2, y3, y4, y5⟩ := RdS.at_ hra hjl
          rw [List.drop_eq_getElem_cons hjl] at hrest
          have HX := Lib.hid hrest
          have hj1 : (j : Int) < (acc.length : Int) := by omega
          generalize acc[j] = x at *
          clear hra hrest
          cases dn
          · go_wp2_with fail
            refine (refLess_any s x _).mono ?_
            rintro e w3 ⟨rfl, hb4⟩
            have hb5 : Below wr.heap.size wr w3 := ((Below.refl _ _).alloc (Nat.le_refl _) _).trans (hb4.mono (by simp))
            have hS5 : ∀ j, w3.cell? ⟨we.heap.size, j, none⟩ = (#[.int .i64 s.tr, .int .i64 s.id, .int .i64 s.pa, .int .i64 s.st, .int .i64 s.en, .string s.nm] : Array Value)[j]? := fun j => (hb5.cell (by simp <;> omega)).trans (hSc j)
            have hX5 := blk_cell (blk_below hb4 (by simp) (heap_alloc_new wr (.cells #[.int .i64 x.tr, .int .i64 x.id, .int .i64 x.pa, .int .i64 x.st, .int .i64 x.en, .string x.nm] 30)))
            have hz5 : wr.heap.size < w3.heap.size := by have := hb4.size; simp at this; omega
            have HO5 := Lib.hid (own_below HO2.out hb5)
            have HB5 := Lib.hid (HB2.out.trans (hb5.mono (by omega)))
            clear hb4 hb5
            cases hc : decide (s.cmp x < 0)
            · have HL := Lib.hid (rest_later hc HX.out)
              clear hc
              go_wp2_with (at_builtin; refine wpList_app _ rfl (.tmp 33) (.tmp 35) _ rfl (we.heap.size + 1) 30 i0 _ 6 56 Try.underlying22 hi0 hz0 hz1 hz2 rfl (by omega) _ _ _ _ rfl (HO5.out.alloc _) (w3.heap.size + 1) _ 1 _ _ rfl (Rd.one6 (by simp) _ _ _) (cells_one1 _) (by unfold maxLen; omega) (by omega) (by simp <;> omega) ?_; intro A6 c6 w6 hown6 hg6 _)
              go_roundw
              case rel =>
                have hB6 := below_app (HB5.out.alloc (by omega) _) (HO5.out.alloc _) hg6 (by simp <;> omega)
                have hln : (nx ++ [x]).length = nx.length + 1 := by simp
                refine ⟨j + 1, nx ++ [x], A6, c6, false, by omega, by go_num, rfl, by rw [hln], by rw [hln]; have := HN.out (by trivial); omega, fun _ => by rw [hln]; have := HN.out (by trivial); omega, ?_, hB6, HL.out⟩
                rw [hln, flat_snoc]; exact hown6
              case measure => simp [intOf]; omega
            · have HL := Lib.hid (rest_now hc HX.out)
              clear hc
              go_wp2_with (first | (at_builtin; refine wpList_app _ rfl (.tmp 29) (.tmp 31) _ rfl (we.heap.size + 1) 30 i0 _ 6 56 Try.underlying22 hi0 hz0 hz1 hz2 rfl (by omega) _ _ _ _ rfl (HO5.out.alloc _) (w3.heap.size + 1) _ 1 _ _ rfl (Rd.one6 (by simp) _ _ _) (cells_one1 _) (by unfold maxLen; omega) (by omega) (by simp <;> omega) ?_; intro A6 c6 w6 hown6 hg6 _; have hX6 : ∀ j, w6.cell? ⟨wr.heap.size, j, none⟩ = (#[.int .i64 x.tr, .int .i64 x.id, .int .i64 x.pa, .int .i64 x.st, .int .i64 x.en, .string x.nm] : Array Value)[j]? := fun j => (grown_cell hg6 (by simp <;> omega) (own_ne HO2.out (Nat.le_refl _))).trans ((World.cell?_alloc_lt _ _ _ (by simpa using hz5)).trans (hX5 j)); have hs6 : w3.heap.size + 1 ≤ w6.heap.size := (by have := hg6.size; simpa using this); have hln6 : (nx ++ [s]).length = nx.length + 1 := (by simp); have HO6 : Hid (w6.ownsRow (we.heap.size + 1) 30 6 (.slice A6 (nx.length + 1) c6) (nx.length + 1) ((nx ++ [s]).flatMap Sp.cells)) := Lib.hid (by rw [flat_snoc]; exact hown6); have HB6 := Lib.hid (below_app (HB5.out.alloc (by omega) _) (HO5.out.alloc _) hg6 (by simp <;> omega)); clear hown6 hg6) | (at_builtin; refine wpList_app _ rfl (.tmp 33) (.tmp 35) _ rfl (we.heap.size + 1) 30 i0 _ 6 56 Try.underlying22 hi0 hz0 hz1 hz2 rfl (by omega) _ _ _ _ rfl (HO6.out.alloc _) (w6.heap.size + 1) _ 1 _ _ rfl (Rd.one6 (by simp) _ _ _) (cells_one1 _) (by unfold maxLen; omega) (by omega) (by simp <;> omega) ?_; intro A7 c7 w7 hown7 hg7 _))
              go_roundw
              case rel =>
                have hB7 := below_app (HB6.out.alloc (by omega) _) (HO6.out.alloc _) hg7 (by simp <;> omega)
                have hln : (nx ++ [s] ++ [x]).length = nx.length + 2 := by simp
                refine ⟨j + 1, nx ++ [s] ++ [x], A7, c7, true, by omega, by go_num, rfl, by rw [hln], by rw [hln]; have := HN.out (by trivial); omega, (fun h => by cases h), ?_, hB7, HL.out⟩
                rw [hln, flat_snoc]; exact hown7
              case measure => simp [intOf]; omega
          · go_wp2_with (at_builtin; refine wpList_app _ rfl (.tmp 33) (.tmp 35) _ rfl (we.heap.size + 1) 30 i0 _ 6 56 Try.underlying22 hi0 hz0 hz1 hz2 rfl (by omega) _ _ _ _ rfl ((HO2.out.alloc _).alloc _) ((wr.heap.size + 1) + 1) _ 1 _ _ rfl (Rd.one6 (by simp) _ _ _) (cells_one1 _) (by unfold maxLen; omega) (by omega) (by simp <;> omega) ?_; intro A6 c6 w6 hown6 hg6 _)
            have HL := Lib.hid (rest_done HX.out)
            go_roundw
            case rel =>
              have hB6 := below_app ((HB2.out.alloc (by omega) _).alloc (by simp <;> omega) _) ((HO2.out.alloc _).alloc _) hg6 (by simp <;> omega)
              have hln : (nx ++ [x]).length = nx.length + 1 := by simp
              refine ⟨j + 1, nx ++ [x], A6, c6, true, by omega, by go_num, rfl, by rw [hln], by rw [hln]; omega, (fun h => by cases h), ?_, hB6, HL.out⟩
              rw [hln, flat_snoc]; exact hown6
            case measure => simp [intOf]; omega
        · rw [List.drop_of_length_le (by omega)] at hrest
          have HX := Lib.hid hrest
          have hj1 : ¬ (j : Int) < (acc.length : Int) := by omega
          clear hrest
          cases dn
          · go_wp2_with (at_builtin; refine wpList_app _ rfl (.tmp 40) (.tmp 42) _ rfl (we.heap.size + 1) 30 i0 _ 6 56 Try.underlying22 hi0 hz0 hz1 hz2 rfl (by omega) _ _ _ _ rfl (HO2.out.alloc _) (wr.heap.size + 1) _ 1 _ _ rfl (Rd.one6 (by simp) _ _ _) (cells_one1 _) (by unfold maxLen; omega) (by omega) (by simp <;> omega) ?_; intro A6 c6 w6 hown6 hg6 _)
            go_roundw
            case rel =>
              have hB6 := below_app (HB3.out.alloc (by omega) _) (own_le (HO2.out.alloc _) (by omega)) hg6 (by simp <;> omega)
              have he : nx ++ [s] = insS s acc := by simpa [restS, insS] using HX.out
              have hln : (insS s acc).length = nx.length + 1 := by rw [← he]; simp
              have hla := insS_len s acc
              have hak := HK.out
              refine ⟨k + 1, insS s acc, A6, c6, by omega, by go_num, by rw [hln], by omega, ?_, hB6, HI.out⟩
              rw [hln, ← he, flat_snoc]; exact own_le hown6 (by omega)
            case measure => simp [intOf]; omega
          · go_wp2_with fail
            go_roundw
            case rel =>
              have he : nx = insS s acc := by simpa [restS] using HX.out
              have hla := insS_len s acc
              have hak := HK.out
              refine ⟨k + 1, insS s acc, A2, c2, by omega, by go_num, by rw [← he], by omega, ?_, HB3.out, HI.out⟩
              rw [← he]; exact own_le HO2.out (by omega)
            case measure => simp [intOf]; omega
    · have hkl : k = l.length := by omega
      go_wp2_with fail
      go_ret
      subst hkl
      rw [List.drop_length] at hins
      have he : acc = sortS l := hins.trans HG.out
      subst he
      exact ⟨A', c, rfl, hown, hbel⟩
end Go.Proofs.Ytnocknhfdegkgaa
