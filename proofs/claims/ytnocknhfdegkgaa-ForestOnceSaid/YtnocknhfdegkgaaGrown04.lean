/-
  The walk of the forest laws' grown: a forest of trace 1 with those of some spans that can be added, one by one. Conditions: the spans read as a list, not longer than memory bears.
-/
import Derived.Test.YtnocknhfdegkgaaForest2
namespace Go.Proofs.Ytnocknhfdegkgaa
open Go Go.RowKit Go.Maps

/-- What grown has. -/
def growL (l : List Sp) : List Sp := l.foldl (fun L s => (addA 1 L [s]).1) []
theorem growL_snoc (l : List Sp) (s : Sp) : growL (l ++ [s]) = (addA 1 (growL l) [s]).1 := by simp [growL, List.foldl_append]

set_option maxRecDepth 100000 in
set_option maxHeartbeats 1000000 in
theorem grown_any (A : Option Addr) (n cap B : Nat) (l : List Sp) (w : World) (hB : B ≤ w.heap.size) (hbig : n ≤ 1000000) (hnm : ∀ s ∈ l, s.nm.size ≤ 140737488355328) (hr : RdS w B A n l) :
    Calls Try.prog 14 #[.slice A n cap] w (ResF w 1 (growL l)) := by
  have hlen := hr.len
  subst hlen
  have HR := Lib.hid hr
  have HNM := Lib.hid hnm
  clear hr hnm
  go_enter Try.func14, Try.ntmps14
  go_wp2_with fail
  refine (new_any 1 w ⟨by omega, by omega⟩).mono ?_
  rintro e w1 ⟨p, a, d, rfl, hf1, hb1⟩
  have HF1 := Lib.hid hf1
  have HB1 := Lib.hid hb1
  clear hf1 hb1
  go_wp2_with fail
  go_loopw [9] (fun i wr => ∃ k : Nat, k ≤ l.length ∧ i = .int .i64 k ∧ Fo wr p a d 1 (growL (l.take k)) (fun j => w.heap.size ≤ j ∧ j < wr.heap.size) ∧ Below w.heap.size w wr) (fun i _ => l.length - (intOf i).toNat)
  case atStart => exact ⟨0, by omega, rfl, HF1.out, HB1.out⟩
  case round =>
    obtain ⟨k, hk, rfl, hf, hb⟩ := hrel
    have HF := Lib.hid hf
    have HBW := Lib.hid hb
    have hsz := hb.size
    clear hf hb
    by_cases hlt : k < l.length
    · obtain ⟨b1, o1, rfl, hb1, x0, x1, x2, x3, x4, x5⟩ := RdS.at_ (Rd.below' HR.out HBW.out hB (Nat.le_refl _)) hlt
      have hk1 : (k : Int) < (l.length : Int) := by omega
      have hnm := HNM.out _ (List.getElem_mem hlt)
      have HST := Lib.hid (show growL (l.take (k + 1)) = (addA 1 (growL (l.take k)) [l[k]]).1 by rw [List.take_succ_eq_append_getElem hlt, growL_snoc])
      generalize l[k] = s at *
      generalize growL (l.take k) = L at *
      go_wp2_with fail
      have hr7 : RdS ((wr.alloc (.cells #[.int .i64 s.tr, .int .i64 s.id, .int .i64 s.pa, .int .i64 s.st, .int .i64 s.en, .string s.nm] 30)).alloc (.cells #[.int .i64 s.tr, .int .i64 s.id, .int .i64 s.pa, .int .i64 s.st, .int .i64 s.en, .string s.nm] 30)) (wr.heap.size + 2) (some ⟨wr.heap.size + 1, 0, none⟩) 1 [s] := by
        have := RdS.one (w := wr.alloc (.cells #[.int .i64 s.tr, .int .i64 s.id, .int .i64 s.pa, .int .i64 s.st, .int .i64 s.en, .string s.nm] 30)) (H := wr.heap.size + 1) (by simp) s 30 (0, 0)
        exact this
      have hb7 : Below wr.heap.size wr ((wr.alloc (.cells #[.int .i64 s.tr, .int .i64 s.id, .int .i64 s.pa, .int .i64 s.st, .int .i64 s.en, .string s.nm] 30)).alloc (.cells #[.int .i64 s.tr, .int .i64 s.id, .int .i64 s.pa, .int .i64 s.st, .int .i64 s.en, .string s.nm] 30)) := ((Below.refl _ _).alloc (Nat.le_refl _) _).alloc (by simp) _
      refine (add_any (HF.out.below hb7 (Nat.le_refl _)) (some ⟨wr.heap.size + 1, 0, none⟩) 1 1 (wr.heap.size + 2) [s] (by simp) (by omega) (by intro t ht; obtain rfl := List.mem_singleton.1 ht; exact hnm) hr7 (by
        intro j hj hs
        have := Option.some.inj hj
        simp only at this hs
        omega)).mono ?_
      rintro e w5 ⟨rfl, hf5, hfr5⟩
      have hz5 := hfr5.size
      simp at hz5
      have HF5 : Hid (Fo w5 p a d 1 (growL (l.take (k + 1))) (fun j => w.heap.size ≤ j ∧ j < w5.heap.size)) := Lib.hid (by
        rw [HST.out]
        exact hf5.mono (fun j hj => by
          rcases hj with ⟨h1, h2⟩ | ⟨h1, h2⟩
          · exact ⟨h1, by omega⟩
          · simp at h1; exact ⟨by omega, h2⟩) (fun j hj => hj.2))
      have HB5 : Hid (Below w.heap.size w w5) := Lib.hid (HBW.out.trans ((hb7.mono hsz).trans (hfr5.below (by simp <;> omega) (fun j hj => hj.1))))
      clear hf5 hfr5 hb7 hr7
      go_wp2_with fail
      go_roundw
      case rel => exact ⟨k + 1, by omega, by go_num, HF5.out, HB5.out⟩
      case measure => simp [intOf]; omega
    · have hk1 : ¬ (k : Int) < (l.length : Int) := by omega
      go_wp2_with fail
      go_ret
      have h := HF.out
      rw [List.take_of_length_le (by omega)] at h
      exact ⟨p, a, d, rfl, h, HBW.out⟩
end Go.Proofs.Ytnocknhfdegkgaa
