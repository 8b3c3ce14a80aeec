/-
  The walk of the law ForestNobody: the Go text answers true. Condition: the spans are not more than memory bears.
-/
import Derived.Test.YtnocknhfdegkgaaAwake04
import Derived.Test.YtnocknhfdegkgaaNobody04
namespace Go.Proofs.Ytnocknhfdegkgaa
open Go Go.RowKit Go.Maps

set_option maxRecDepth 100000 in
set_option maxHeartbeats 4000000 in
theorem forestNobody_any (A : Option Addr) (n cap B : Nat) (l : List Sp) (z : Int) (w : World) (_hB : B ≤ w.heap.size) (hbig : n ≤ 140737488355328) (hr : RdS w B A n l) :
    Calls Try.prog 9 #[.slice A n cap, .int .i64 z] w fun e w' => e = .returned (.bool true) ∧ Below w.heap.size w w' := by
  have hlen := hr.len
  subst hlen
  have HR := Lib.hid hr
  clear hr
  cases hl : lightB l
  · have HL := Lib.hid hl
    clear hl
    go_enter Try.func9, Try.ntmps9
    go_wp2_with fail
    refine (light_any _ _ _ _ l _ (by omega) HR.out).mono ?_
    rintro e w1 ⟨rfl, rfl⟩
    rw [HL.out]
    go_wp2_with fail
    refine (awake4_any _).mono ?_
    rintro e w2 ⟨rfl, hb2⟩
    go_wp2_with fail
    go_ret
    exact ⟨rfl, hb2⟩
  · have HL := Lib.hid hl
    clear hl
    go_enter Try.func9, Try.ntmps9
    go_wp2_with fail
    refine (light_any _ _ _ _ l _ (by omega) HR.out).mono ?_
    rintro e w1 ⟨rfl, rfl⟩
    rw [HL.out]
    have HW0 : Hid (∀ W, Below (w.heap.size + 2) ((w.alloc (.cells #[.map none, .map none, .int .i64 0] 59)).alloc (.cells #[.pointer none, .pointer (some ⟨w.heap.size, 0, none⟩)] 25)) W →
        (W.cell? ⟨w.heap.size + 1, 0, none⟩ = some (.pointer none) ∧ W.cell? ⟨w.heap.size + 1, 1, none⟩ = some (.pointer (some ⟨w.heap.size, 0, none⟩))) ∧ NoF W (.pointer none) ∧ NoF W (.pointer (some ⟨w.heap.size, 0, none⟩))) := Lib.hid (fun W hW => by
      have h1 : ((w.alloc (.cells #[.map none, .map none, .int .i64 0] 59)).alloc (.cells #[.pointer none, .pointer (some ⟨w.heap.size, 0, none⟩)] 25)).heap[w.heap.size]? = some (.cells #[.map none, .map none, .int .i64 0] 59 (0, 0)) :=
        blk_below ((Below.refl (w.heap.size + 1) _).alloc (by simp) _) (by omega) (heap_alloc_new w _)
      have h2 := heap_alloc_new (w.alloc (.cells #[.map none, .map none, .int .i64 0] 59)) (.cells #[.pointer none, .pointer (some ⟨w.heap.size, 0, none⟩)] 25)
      rw [World.size_alloc] at h2
      have e2 := blk_cell (blk_below hW (by omega) h2)
      exact ⟨⟨e2 0, e2 1⟩, .inl rfl, .inr ⟨_, rfl, blk_below hW (by omega) h1⟩⟩)
    have HBW : Hid (Below w.heap.size w ((w.alloc (.cells #[.map none, .map none, .int .i64 0] 59)).alloc (.cells #[.pointer none, .pointer (some ⟨w.heap.size, 0, none⟩)] 25))) := Lib.hid (((Below.refl _ _).alloc (Nat.le_refl _) _).alloc (by simp) _)
    go_wp2_with fail
    go_loopw [19] (fun i wr => ∃ k : Nat, k ≤ 2 ∧ i = .int .i64 k ∧ Below (w.heap.size + 2) ((w.alloc (.cells #[.map none, .map none, .int .i64 0] 59)).alloc (.cells #[.pointer none, .pointer (some ⟨w.heap.size, 0, none⟩)] 25)) wr) (fun i _ => 2 - (intOf i).toNat)
    case atStart => exact ⟨0, by omega, rfl, Below.refl _ _⟩
    case round =>
      obtain ⟨k, hk, rfl, hb⟩ := hrel
      have HB := Lib.hid hb
      have hsz := hb.size
      simp at hsz
      obtain ⟨⟨c0, c1⟩, n0, n1⟩ := HW0.out wr hb
      clear hb
      by_cases hlt : k < 2
      · obtain ⟨fv, hfv, hno⟩ : ∃ fv, wr.cell? ⟨w.heap.size + 1, k, none⟩ = some fv ∧ NoF wr fv := by
          match k, hlt with
          | 0, _ => exact ⟨_, c0, n0⟩
          | 1, _ => exact ⟨_, c1, n1⟩
        have HNO := Lib.hid hno
        have hk1 : (k : Int) < 2 := by omega
        clear c0 c1 n0 n1 hno
        go_wp2_with fail
        refine (addNo_any HNO.out _ _ _).mono ?_
        rintro e w2 ⟨rfl, hb2⟩
        have hz2 := hb2.size
        have HN2 := Lib.hid (HNO.out.below hb2)
        have HB2 : Hid (Below (w.heap.size + 2) _ w2) := Lib.hid (HB.out.trans (hb2.mono hsz))
        clear hb2
        go_wp2_with fail
        have HN3 := Lib.hid (HN2.out.below ((Below.refl _ _).alloc (Nat.le_refl _) (.cells #[.int .i64 0, .int .i64 0, .int .i64 0, .int .i64 0, .int .i64 0] 33)))
        have HC3 : Hid _ := Lib.hid (heap_alloc_new w2 (.cells #[.int .i64 0, .int .i64 0, .int .i64 0, .int .i64 0, .int .i64 0] 33))
        refine (findNo_any HN3.out _).mono ?_
        rintro e w3 ⟨rfl, hb3⟩
        have hz3 := hb3.size
        simp at hz3
        have hcz : ∀ W, Below w3.heap.size w3 W → W.heap[w2.heap.size]? = some (.cells #[.int .i64 0, .int .i64 0, .int .i64 0, .int .i64 0, .int .i64 0] 33 (0, 0)) := fun W hW => blk_below hW (by omega) (blk_below hb3 (by simp) HC3.out)
        have HN4 := Lib.hid (HN3.out.below hb3)
        have HB3 : Hid (Below (w.heap.size + 2) _ w3) := Lib.hid ((HB2.out.alloc (by omega) (.cells #[.int .i64 0, .int .i64 0, .int .i64 0, .int .i64 0, .int .i64 0] 33)).trans (hb3.mono (by simp <;> omega)))
        have HCZ := Lib.hid hcz
        clear hb3 hcz
        have hcx := blk_cell (HCZ.out (w3.alloc (.cells #[.int .i64 0, .int .i64 0, .int .i64 0, .int .i64 0, .int .i64 0, .string ⟨#[]⟩] 30)) ((Below.refl _ _).alloc (Nat.le_refl _) _))
        have q0 : (w3.alloc (.cells #[.int .i64 0, .int .i64 0, .int .i64 0, .int .i64 0, .int .i64 0, .string ⟨#[]⟩] 30)).cell? ⟨w2.heap.size, 0, none⟩ = some (.int .i64 0) := hcx 0
        have q1 : (w3.alloc (.cells #[.int .i64 0, .int .i64 0, .int .i64 0, .int .i64 0, .int .i64 0, .string ⟨#[]⟩] 30)).cell? ⟨w2.heap.size, 1, none⟩ = some (.int .i64 0) := hcx 1
        have q2 : (w3.alloc (.cells #[.int .i64 0, .int .i64 0, .int .i64 0, .int .i64 0, .int .i64 0, .string ⟨#[]⟩] 30)).cell? ⟨w2.heap.size, 2, none⟩ = some (.int .i64 0) := hcx 2
        have q3 : (w3.alloc (.cells #[.int .i64 0, .int .i64 0, .int .i64 0, .int .i64 0, .int .i64 0, .string ⟨#[]⟩] 30)).cell? ⟨w2.heap.size, 3, none⟩ = some (.int .i64 0) := hcx 3
        have q4 : (w3.alloc (.cells #[.int .i64 0, .int .i64 0, .int .i64 0, .int .i64 0, .int .i64 0, .string ⟨#[]⟩] 30)).cell? ⟨w2.heap.size, 4, none⟩ = some (.int .i64 0) := hcx 4
        have HN5 := Lib.hid (HN4.out.below ((Below.refl _ _).alloc (Nat.le_refl _) (.cells #[.int .i64 0, .int .i64 0, .int .i64 0, .int .i64 0, .int .i64 0, .string ⟨#[]⟩] 30)))
        have HB5 : Hid (Below (w.heap.size + 2) _ (w3.alloc (.cells #[.int .i64 0, .int .i64 0, .int .i64 0, .int .i64 0, .int .i64 0, .string ⟨#[]⟩] 30))) := Lib.hid (HB3.out.alloc (by omega) _)
        clear hcx
        go_wp2_with fail
        refine (lenNo_any HN5.out).mono ?_
        rintro e v1 ⟨rfl, rfl⟩
        go_wp2_with fail
        refine (endNo_any HN5.out).mono ?_
        rintro e v1 ⟨rfl, rfl⟩
        go_wp2_with fail
        refine (spansNo_any HN5.out).mono ?_
        rintro e v1 ⟨rfl, rfl⟩
        go_wp2_with fail
        refine (branchesNo_any HN5.out).mono ?_
        rintro e v1 ⟨rfl, rfl⟩
        go_wp2_with fail
        refine (cloneNo_any HN5.out).mono ?_
        rintro e v1 ⟨rfl, rfl⟩
        go_wp2_with fail
        go_roundw
        case rel => exact ⟨k + 1, by omega, by go_num, HB5.out⟩
        case measure => simp [intOf]; omega
      · have hk1 : ¬ (k : Int) < 2 := by omega
        go_wp2_with fail
        refine (awake4_any _).mono ?_
        rintro e w2 ⟨rfl, hb2⟩
        go_wp2_with fail
        go_ret
        exact ⟨rfl, HBW.out.trans ((HB.out.mono (by omega)).trans (hb2.mono (by omega)))⟩
end Go.Proofs.Ytnocknhfdegkgaa
