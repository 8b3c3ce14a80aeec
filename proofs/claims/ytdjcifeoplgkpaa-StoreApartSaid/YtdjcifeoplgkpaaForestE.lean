/-
  The walk of a forest's End. Conditions: the forest lies in memory.
-/
import Derived.Test.YtdjcifeoplgkpaaForest5
namespace Go.Proofs.Ytdjcifeoplgkpaa
open Go Go.RowKit Go.Maps

/-- When the last one ended. -/
def endL (L : List Sp) : Int := L.foldl (fun n s => max n s.en) 0
theorem endL_snoc (L : List Sp) (s : Sp) : endL (L ++ [s]) = max (endL L) s.en := by simp [endL, List.foldl_append]
theorem endL_perm {L m : List Sp} (h : m.Perm L) : endL m = endL L := by
  unfold endL
  exact h.foldl_eq' (fun x _ y _ z => by omega) 0

set_option maxRecDepth 100000 in
set_option maxHeartbeats 1000000 in
theorem fend_any {w : World} {p a d : Nat} {tr : Int} {L : List Sp} {S : Nat → Prop} (h : Fo w p a d tr L S) :
    Calls Try.prog 44 #[.pointer (some ⟨p, 0, none⟩)] w fun e w' => e = .returned (.int .i64 (endL L)) ∧ Below w.heap.size w w' := by
  have HF := Lib.hid h
  have hl64 := h.gr.len
  have HEQ : Hid (endL (sortS L) = endL L) := Lib.hid (endL_perm (sortS_perm L))
  have hsl : (sortS L).length ≤ 64 := by rw [sortS_len]; exact hl64
  clear h
  go_enter Try.func44, Try.ntmps44
  go_wp2_with fail
  refine (fspans_any HF.out).mono ?_
  rintro e w1 ⟨A1, c1, rfl, hown, hb1⟩
  generalize sortS L = l at *
  have HO := Lib.hid hown
  have HB1 := Lib.hid hb1
  clear hown hb1
  go_wp2_with fail
  go_loopw [3, 9] (fun v i wr => ∃ (k : Nat), k ≤ l.length ∧ i = .int .i64 k ∧ v = .int .i64 (endL (l.take k)) ∧ Below w1.heap.size w1 wr) (fun _ i _ => l.length - (intOf i).toNat)
  case atStart => exact ⟨0, by omega, rfl, rfl, Below.refl _ _⟩
  case round =>
    obtain ⟨k, hk, rfl, rfl, hb⟩ := hrel
    have hz := hb.size
    have HB := Lib.hid hb
    clear hb
    by_cases hlt : k < l.length
    · have hk1 : (k : Int) < (l.length : Int) := by omega
      obtain ⟨b1, o1, rfl, hb1, x0, x1, x2, x3, x4, x5⟩ := RdS.at_ (Rd.below' (Rd.of_own HO.out) HB.out (Nat.le_refl _) (Nat.le_refl _)) hlt
      have HST : Hid (endL (l.take (k + 1)) = max (endL (l.take k)) l[k].en) := Lib.hid (by rw [List.take_succ_eq_append_getElem hlt, endL_snoc])
      generalize l[k] = s at *
      obtain ⟨n, hn⟩ : ∃ n, n = endL (l.take k) := ⟨_, rfl⟩
      rw [← hn] at HST ⊢
      clear hn
      by_cases hgt : n ≤ s.en
      · have HN1 : Hid (endL (l.take (k + 1)) = s.en) := Lib.hid (by have := HST.out; omega)
        go_wp2_with fail
        go_roundw
        case rel => exact ⟨k + 1, by omega, by go_num, by rw [HN1.out]; first | rfl | (congr 1; omega) | (simp; omega), HB.out.alloc (by omega) _⟩
        case measure => simp [intOf]; omega
      · have HN1 : Hid (endL (l.take (k + 1)) = n) := Lib.hid (by have := HST.out; omega)
        go_wp2_with fail
        go_roundw
        case rel => exact ⟨k + 1, by omega, by go_num, by rw [HN1.out]; first | rfl | (congr 1; omega) | (simp; omega), HB.out.alloc (by omega) _⟩
        case measure => simp [intOf]; omega
    · have hk1 : ¬ (k : Int) < (l.length : Int) := by omega
      have hkl : k = l.length := by omega
      subst hkl
      go_wp2_with fail
      go_ret
      exact ⟨by rw [← HEQ.out]; rfl, HB1.out.trans (HB.out.mono HB1.out.size)⟩
end Go.Proofs.Ytdjcifeoplgkpaa
