/-
  The walks of a store's methods at a store that no call made, nil or the zero struct, and of the law StoreNobody: the Go text answers true. Condition: the spans are not more than memory bears.
-/
import Derived.Test.YtdjcifeoplgkpaaActs07
namespace Go.Proofs.Ytdjcifeoplgkpaa
open Go Go.RowKit Go.Maps

/-- A store that no call made. -/
def NoS (w : World) (v : Value) : Prop := v = .pointer none ∨ ∃ z, v = .pointer (some ⟨z, 0, none⟩) ∧ w.heap[z]? = some (.cells #[.map none] 48 (0, 0))
theorem NoS.below {w w' : World} {v : Value} (h : NoS w v) (hb : Below w.heap.size w w') : NoS w' v := by
  rcases h with h | ⟨z, h, hz⟩
  · exact .inl h
  · exact .inr ⟨z, h, (hb.block z (Array.getElem?_eq_some_iff.1 hz).1).trans hz⟩
set_option maxRecDepth 100000 in
theorem smadeNo_any {w : World} {v : Value} (h : NoS w v) : Calls Try.prog 31 #[v] w fun e w' => e = .returned (.bool false) ∧ w = w' := by
  rcases h with rfl | ⟨z, rfl, hz⟩
  · go_enter Try.func31, Try.ntmps31
    go_wp2_with fail
    go_ret
    exact ⟨rfl, rfl⟩
  · have hc := blk_cell hz
    have hq := fun W : World => run_neq_map_nil (P := Try.prog) W 46 _ _ none Try.underlying46
    clear hz
    go_enter Try.func31, Try.ntmps31
    go_wp2_with fail
    go_ret
    exact ⟨rfl, rfl⟩
set_option maxRecDepth 100000 in
theorem slookupNo_any {w : World} {v : Value} (h : NoS w v) (x : Int) : Calls Try.prog 16 #[v, .int .i64 x] w fun e w' => e = .returned (.slice none 0 0) ∧ w = w' := by
  have HN := Lib.hid h
  clear h
  go_enter Try.func16, Try.ntmps16
  go_wp2_with fail
  refine (smadeNo_any HN.out).mono ?_
  rintro e w1 ⟨rfl, rfl⟩
  go_wp2_with fail
  go_ret
  exact ⟨rfl, rfl⟩
set_option maxRecDepth 100000 in
theorem stracesNo_any {w : World} {v : Value} (h : NoS w v) : Calls Try.prog 15 #[v] w fun e w' => e = .returned (.slice none 0 0) ∧ w = w' := by
  have HN := Lib.hid h
  clear h
  go_enter Try.func15, Try.ntmps15
  go_wp2_with fail
  refine (smadeNo_any HN.out).mono ?_
  rintro e w1 ⟨rfl, rfl⟩
  go_wp2_with fail
  go_ret
  exact ⟨rfl, rfl⟩
set_option maxRecDepth 100000 in
theorem simageNo_any {w : World} {v : Value} (h : NoS w v) : Calls Try.prog 14 #[v] w fun e w' => e = .returned (.slice none 0 0) ∧ w = w' := by
  have HN := Lib.hid h
  clear h
  go_enter Try.func14, Try.ntmps14
  go_wp2_with fail
  refine (smadeNo_any HN.out).mono ?_
  rintro e w1 ⟨rfl, rfl⟩
  go_wp2_with fail
  go_ret
  exact ⟨rfl, rfl⟩
set_option maxRecDepth 100000 in
theorem scloneNo_any {w : World} {v : Value} (h : NoS w v) : Calls Try.prog 21 #[v] w fun e w' => e = .returned (.pointer none) ∧ w = w' := by
  have HN := Lib.hid h
  clear h
  go_enter Try.func21, Try.ntmps21
  go_wp2_with fail
  refine (smadeNo_any HN.out).mono ?_
  rintro e w1 ⟨rfl, rfl⟩
  go_wp2_with fail
  go_ret
  exact ⟨rfl, rfl⟩
set_option maxRecDepth 100000 in
theorem sretainNo_any {w : World} {v : Value} (h : NoS w v) (x : Int) : Calls Try.prog 20 #[v, .int .i64 x] w fun e w' => e = .returned (.int .i64 0) ∧ Below w.heap.size w w' := by
  have HN : Hid (NoS (w.alloc (.cells #[.int .i64 x] 3)) v) := Lib.hid (h.below ((Below.refl _ _).alloc (Nat.le_refl _) _))
  clear h
  go_enter Try.func20, Try.ntmps20
  go_wp2_with fail
  refine (smadeNo_any HN.out).mono ?_
  rintro e w1 ⟨rfl, rfl⟩
  go_wp2_with fail
  go_ret
  exact ⟨rfl, (Below.refl _ _).alloc (Nat.le_refl _) _⟩
set_option maxRecDepth 100000 in
theorem singestNo_any {w : World} {v : Value} (h : NoS w v) (A : Option Addr) (n c : Nat) : Calls Try.prog 17 #[v, .slice A n c] w fun e w' => e = .returned (.tuple #[.agg #[.int .i64 0, .int .i64 0, .int .i64 0, .int .i64 0, .int .i64 0], .int .i64 6]) ∧ Below w.heap.size w w' := by
  have HN : Hid (NoS ((w.alloc (.cells #[.int .i64 0, .int .i64 0, .int .i64 0, .int .i64 0, .int .i64 0] 39)).alloc (.cells #[.int .i64 0, .int .i64 0, .int .i64 0, .int .i64 0, .int .i64 0] 39)) v) := Lib.hid (h.below (((Below.refl _ _).alloc (Nat.le_refl _) _).alloc (by simp) _))
  clear h
  go_enter Try.func17, Try.ntmps17
  go_wp2_with fail
  refine (smadeNo_any HN.out).mono ?_
  rintro e w1 ⟨rfl, rfl⟩
  go_wp2_with fail
  refine bodyPost_ret (v := .tuple #[.agg #[.int .i64 0, .int .i64 0, .int .i64 0, .int .i64 0, .int .i64 0], .int .i64 6]) (by simp [results, Try.results17, go_sem]) rfl ⟨rfl, ?_⟩
  repeat (first | exact (((Below.refl _ _).alloc (Nat.le_refl _) _).alloc (by simp) _) | refine Below.setCell ?_ (Nat.le_refl _) _)
set_option maxRecDepth 100000 in
set_option maxHeartbeats 4000000 in
theorem storeNobody_any (A : Option Addr) (n cap B : Nat) (l : List Sp) (z : Int) (w : World) (_hB : B ≤ w.heap.size) (hbig : n ≤ 140737488355328) (hr : RdS w B A n l) :
    Calls Try.prog 4 #[.slice A n cap, .int .i64 z] w fun e w' => e = .returned (.bool true) ∧ Below w.heap.size w w' := by
  have hlen := hr.len
  subst hlen
  have HR := Lib.hid hr
  clear hr
  cases hl : lightB l
  · have HL := Lib.hid hl
    clear hl
    go_enter Try.func4, Try.ntmps4
    go_wp2_with fail
    refine (light_any _ _ _ _ l _ (by omega) HR.out).mono ?_
    rintro e w1 ⟨rfl, rfl⟩
    rw [HL.out]
    go_wp2_with fail
    refine (awake7_any _).mono ?_
    rintro e w2 ⟨rfl, hb2⟩
    go_wp2_with fail
    go_ret
    exact ⟨rfl, hb2⟩
  · have HL := Lib.hid hl
    clear hl
    go_enter Try.func4, Try.ntmps4
    go_wp2_with fail
    refine (light_any _ _ _ _ l _ (by omega) HR.out).mono ?_
    rintro e w1 ⟨rfl, rfl⟩
    rw [HL.out]
    have HW0 : Hid (∀ W, Below (w.heap.size + 2) ((w.alloc (.cells #[.map none] 48)).alloc (.cells #[.pointer none, .pointer (some ⟨w.heap.size, 0, none⟩)] 25)) W →
        (W.cell? ⟨w.heap.size + 1, 0, none⟩ = some (.pointer none) ∧ W.cell? ⟨w.heap.size + 1, 1, none⟩ = some (.pointer (some ⟨w.heap.size, 0, none⟩))) ∧ NoS W (.pointer none) ∧ NoS W (.pointer (some ⟨w.heap.size, 0, none⟩))) := Lib.hid (fun W hW => by
      have h1 : ((w.alloc (.cells #[.map none] 48)).alloc (.cells #[.pointer none, .pointer (some ⟨w.heap.size, 0, none⟩)] 25)).heap[w.heap.size]? = some (.cells #[.map none] 48 (0, 0)) :=
        blk_below ((Below.refl (w.heap.size + 1) _).alloc (by simp) _) (by omega) (heap_alloc_new w _)
      have h2 := heap_alloc_new (w.alloc (.cells #[.map none] 48)) (.cells #[.pointer none, .pointer (some ⟨w.heap.size, 0, none⟩)] 25)
      rw [World.size_alloc] at h2
      have e2 := blk_cell (blk_below hW (by omega) h2)
      exact ⟨⟨e2 0, e2 1⟩, .inl rfl, .inr ⟨_, rfl, blk_below hW (by omega) h1⟩⟩)
    have HBW : Hid (Below w.heap.size w ((w.alloc (.cells #[.map none] 48)).alloc (.cells #[.pointer none, .pointer (some ⟨w.heap.size, 0, none⟩)] 25))) := Lib.hid (((Below.refl _ _).alloc (Nat.le_refl _) _).alloc (by simp) _)
    go_wp2_with fail
    go_loopw [17] (fun i wr => ∃ k : Nat, k ≤ 2 ∧ i = .int .i64 k ∧ Below (w.heap.size + 2) ((w.alloc (.cells #[.map none] 48)).alloc (.cells #[.pointer none, .pointer (some ⟨w.heap.size, 0, none⟩)] 25)) wr) (fun i _ => 2 - (intOf i).toNat)
    case atStart => exact ⟨0, by omega, rfl, Below.refl _ _⟩
    case round =>
      obtain ⟨k, hk, rfl, hb⟩ := hrel
      have HB := Lib.hid hb
      have hsz := hb.size
      simp at hsz
      obtain ⟨⟨c0, c1⟩, n0, n1⟩ := HW0.out wr hb
      clear hb
      by_cases hlt : k < 2
      · obtain ⟨fv, hfv, hno⟩ : ∃ fv, wr.cell? ⟨w.heap.size + 1, k, none⟩ = some fv ∧ NoS wr fv := by
          match k, hlt with
          | 0, _ => exact ⟨_, c0, n0⟩
          | 1, _ => exact ⟨_, c1, n1⟩
        have HNO := Lib.hid hno
        have hk1 : (k : Int) < 2 := by omega
        clear c0 c1 n0 n1 hno
        go_wp2_with fail
        refine (singestNo_any HNO.out _ _ _).mono ?_
        rintro e w2 ⟨rfl, hb2⟩
        have hz2 := hb2.size
        have HN2 := Lib.hid (HNO.out.below hb2)
        have HB2 : Hid (Below (w.heap.size + 2) _ w2) := Lib.hid (HB.out.trans (hb2.mono hsz))
        clear hb2
        go_wp2_with fail
        have HN3 := Lib.hid (HN2.out.below ((Below.refl _ _).alloc (Nat.le_refl _) (.cells #[.int .i64 0, .int .i64 0, .int .i64 0, .int .i64 0, .int .i64 0] 39)))
        have HC3 : Hid _ := Lib.hid (blk_cell (heap_alloc_new w2 (.cells #[.int .i64 0, .int .i64 0, .int .i64 0, .int .i64 0, .int .i64 0] 39)))
        have HB3 : Hid (Below (w.heap.size + 2) _ (w2.alloc (.cells #[.int .i64 0, .int .i64 0, .int .i64 0, .int .i64 0, .int .i64 0] 39))) := Lib.hid (HB2.out.alloc (by omega) _)
        refine (sretainNo_any HN3.out _).mono ?_
        rintro e w3 ⟨rfl, hb3⟩
        have hz3 := hb3.size
        simp at hz3
        have HN4 := Lib.hid (HN3.out.below hb3)
        have HB4 : Hid (Below (w.heap.size + 2) _ w3) := Lib.hid (HB3.out.trans (hb3.mono (by simp <;> omega)))
        clear hb3
        go_wp2_with fail
        refine (slookupNo_any HN4.out _).mono ?_
        rintro e v1 ⟨rfl, rfl⟩
        go_wp2_with fail
        refine (stracesNo_any HN4.out).mono ?_
        rintro e v1 ⟨rfl, rfl⟩
        go_wp2_with fail
        refine (simageNo_any HN4.out).mono ?_
        rintro e v1 ⟨rfl, rfl⟩
        go_wp2_with fail
        refine (scloneNo_any HN4.out).mono ?_
        rintro e v1 ⟨rfl, rfl⟩
        go_wp2_with fail
        go_roundw
        case rel => exact ⟨k + 1, by omega, by go_num, HB4.out⟩
        case measure => simp [intOf]; omega
      · have hk1 : ¬ (k : Int) < 2 := by omega
        go_wp2_with fail
        refine (awake7_any _).mono ?_
        rintro e w2 ⟨rfl, hb2⟩
        go_wp2_with fail
        go_ret
        exact ⟨rfl, HBW.out.trans ((HB.out.mono (by omega)).trans (hb2.mono (by omega)))⟩
end Go.Proofs.Ytdjcifeoplgkpaa
