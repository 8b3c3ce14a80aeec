/-
  The walks of wire.Over and of a Scan's methods: it reads bytes up to the first error. Conditions: the Scan lies in memory as Over made it.
-/
import Derived.Test.YtdjcifeoplgkpaaNumber
import Derived.Test.YtdjcifeoplgkpaaFr
namespace Go.Proofs.Ytdjcifeoplgkpaa
open Go.RowKit

/-- A Scan in block sb, its strip in block pb, over the bytes l, at_ of which were read. -/
structure ScanAt (w : World) (sb pb : Nat) (A : Option Addr) (c : Nat) (l : List UInt8) (at_ : Nat) (err : Int) : Prop where
  sc : w.heap[sb]? = some (.cells #[.pointer (some ⟨pb, 0, none⟩), .int .i64 err] 119 (0, 0))
  st : w.heap[pb]? = some (.cells #[.slice A l.length c, .int .i64 at_] 117 (0, 0))
  lt : pb < sb
  cap : l.length ≤ c
  rd : RdB w pb A l.length l
  le : at_ ≤ l.length
  err0 : 0 ≤ err
  len : l.length ≤ 70368744177664
def SP (sb pb : Nat) (k : Nat) : Prop := k = sb ∨ k = pb
section
variable {w w' : World} {sb pb c at_ : Nat} {A : Option Addr} {l : List UInt8} {err : Int}
theorem ScanAt.sb_lt (h : ScanAt w sb pb A c l at_ err) : sb < w.heap.size := (Array.getElem?_eq_some_iff.1 h.sc).1
theorem ScanAt.drewN (h : ScanAt w sb pb A c l at_ err) (n : Nat) : ScanAt (w.drewN n) sb pb A c l at_ err := ⟨h.sc, h.st, h.lt, h.cap, h.rd, h.le, h.err0, h.len⟩
theorem ScanAt.below {B : Nat} (h : ScanAt w sb pb A c l at_ err) (hb : Below B w w') (hB : sb < B) : ScanAt w' sb pb A c l at_ err :=
  ⟨blk_below hb hB h.sc, blk_below hb (by have := h.lt; omega) h.st, h.lt, h.cap, Rd.below' h.rd hb (by have := h.lt; omega) (Nat.le_refl _), h.le, h.err0, h.len⟩
theorem ScanAt.fr {S : Nat → Prop} (h : ScanAt w sb pb A c l at_ err) (hf : Fr S w w') (hS : ∀ k, S k → sb < k) : ScanAt w' sb pb A c l at_ err :=
  h.below (B := sb + 1) (hf.below h.sb_lt (fun k hk => hS k hk)) (by omega)
theorem ScanAt.setErr (h : ScanAt w sb pb A c l at_ err) (e : Int) (he : 0 ≤ e) : ScanAt (w.setCell ⟨sb, 1, none⟩ (.int .i64 e)) sb pb A c l at_ e :=
  ⟨blk_set h.sc 1 _, (Below.heap_setCell _ _ _ _ (by have := h.lt; simp; omega)).trans h.st, h.lt, h.cap, Fr.rd h.rd ((Fr.refl (fun k => k = sb) w).setCell rfl _) (by have := h.lt; have := h.sb_lt; omega) (fun k hk => by have := h.lt; omega), h.le, he, h.len⟩
theorem ScanAt.setAt (h : ScanAt w sb pb A c l at_ err) (a : Nat) (ha : a ≤ l.length) : ScanAt (w.setCell ⟨pb, 1, none⟩ (.int .i64 a)) sb pb A c l a err :=
  ⟨(Below.heap_setCell _ _ _ _ (by have := h.lt; simp; omega)).trans h.sc, blk_set h.st 1 _, h.lt, h.cap, Fr.rd h.rd ((Fr.refl (fun k => k = pb) w).setCell rfl _) (by have := h.lt; have := h.sb_lt; omega) (fun k hk => by omega), ha, h.err0, h.len⟩
end

set_option maxHeartbeats 400000 in
theorem made_any {w : World} {sb pb c at_ : Nat} {A : Option Addr} {l : List UInt8} {err : Int} (h : ScanAt w sb pb A c l at_ err) :
    Calls Try.prog 66 #[.pointer (some ⟨sb, 0, none⟩)] w fun e w' => e = .returned (.bool true) ∧ w = w' := by
  have hc := blk_cell h.sc
  have HH := Lib.hid h
  clear h
  go_enter Try.func66, Try.ntmps66
  go_wp2_with fail
  go_ret
  exact ⟨rfl, rfl⟩

set_option maxHeartbeats 400000 in
theorem err_any {w : World} {sb pb c at_ : Nat} {A : Option Addr} {l : List UInt8} {err : Int} (h : ScanAt w sb pb A c l at_ err) :
    Calls Try.prog 51 #[.pointer (some ⟨sb, 0, none⟩)] w fun e w' => e = .returned (.int .i64 err) ∧ w = w' := by
  have hc := blk_cell h.sc
  have HH := Lib.hid h
  clear h
  go_enter Try.func51, Try.ntmps51
  go_wp2_with (refine (made_any HH.out).mono ?_; rintro e w' ⟨rfl, rfl⟩)
  go_ret
  exact ⟨rfl, rfl⟩

set_option maxHeartbeats 400000 in
theorem fail_any {w : World} {sb pb c at_ : Nat} {A : Option Addr} {l : List UInt8} (ec : Int) (h : ScanAt w sb pb A c l at_ 0) :
    Calls Try.prog 68 #[.pointer (some ⟨sb, 0, none⟩), .int .i64 ec] w fun e w' => e = .returned (.int .i64 0) ∧ w.setCell ⟨sb, 1, none⟩ (.int .i64 ec) = w' := by
  have hc := blk_cell h.sc
  have hf := blk_frozen h.sc 1
  have HH := Lib.hid h
  clear h
  go_enter Try.func68, Try.ntmps68
  go_wp2_with (refine (made_any HH.out).mono ?_; rintro e w' ⟨rfl, rfl⟩)
  go_ret
  exact ⟨rfl, rfl⟩

/-- A slice cut at its head. -/
def cutA (A : Option Addr) (c k sz : Nat) : Option Addr := if c = k then A else A.map (·.add (k * sz))
set_option maxHeartbeats 400000 in
theorem rest_any {w : World} {sb pb c at_ : Nat} {A : Option Addr} {l : List UInt8} {err : Int} (h : ScanAt w sb pb A c l at_ err) :
    Calls Try.prog 67 #[.pointer (some ⟨pb, 0, none⟩)] w fun e w' => e = .returned (.slice (cutA A c at_ 1) (l.length - at_) (c - at_)) ∧ ∃ n, w' = w.drewN n := by
  have hc := blk_cell h.st
  have h1 : (0 : Int) ≤ (at_ : Int) := by omega
  have h2 : (at_ : Int) ≤ (l.length : Int) := by have := h.le; omega
  have h3 : (l.length : Int) ≤ (c : Int) := by have := h.cap; omega
  clear h
  by_cases hca : c = at_
  · subst hca
    go_enter Try.func67, Try.ntmps67
    go_wp2_with fail
    go_quiet (fail)
    go_wp2_with fail
    go_ret
    exact ⟨by simp [cutA], _, rfl⟩
  · go_enter Try.func67, Try.ntmps67
    go_wp2_with fail
    go_quiet (fail)
    go_wp2_with fail
    go_ret
    exact ⟨by simp [cutA, hca], _, rfl⟩

set_option maxHeartbeats 400000 in
theorem left_any {w : World} {sb pb c at_ : Nat} {A : Option Addr} {l : List UInt8} {err : Int} (h : ScanAt w sb pb A c l at_ err) :
    Calls Try.prog 70 #[.pointer (some ⟨sb, 0, none⟩)] w fun e w' => e = .returned (.int .i64 (l.length - at_ : Nat)) ∧ ∃ n, w' = w.drewN n := by
  have hc := blk_cell h.sc
  have HH := Lib.hid h
  clear h
  go_enter Try.func70, Try.ntmps70
  go_wp2_with (first | (go_at_call 66; refine (made_any HH.out).mono ?_; rintro e w' ⟨rfl, rfl⟩) | (go_at_call 67; refine (rest_any HH.out).mono ?_; rintro e w' ⟨rfl, n, rfl⟩))
  go_ret
  exact ⟨rfl, _, rfl⟩

/-- A number at the head of bytes: it, how many bytes it has, the error. -/
def rdNum : Nat → Nat → List UInt8 → Nat × Nat × Int
  | _, _, [] => (0, 0, 2)
  | i, n, x :: r => if i = 0 ∧ x.toNat = 128 then (0, 0, 10) else if i = 9 then (0, 0, 5) else if x.toNat < 128 then (n * 128 + x.toNat % 128, i + 1, 0) else rdNum (i + 1) (n * 128 + x.toNat % 128) r
theorem rdNum_bound : ∀ (l : List UInt8) (i n : Nat), n < 128 ^ i → i ≤ 9 → (rdNum i n l).1 < 128 ^ 9 ∧ (rdNum i n l).2.1 ≤ i + l.length ∧ 0 ≤ (rdNum i n l).2.2 ∧ ((rdNum i n l).2.2 ≠ 0 → (rdNum i n l).1 = 0 ∧ (rdNum i n l).2.1 = 0) := by
  intro l
  induction l with
  | nil => intro i n _ _; simp [rdNum]
  | cons x r ih =>
    intro i n hn hi
    rw [rdNum]
    by_cases h1 : i = 0 ∧ x.toNat = 128
    · rw [if_pos h1]; simp
    · rw [if_neg h1]
      by_cases h2 : i = 9
      · rw [if_pos h2]; simp
      · rw [if_neg h2]
        have hb : n * 128 + x.toNat % 128 < 128 ^ (i + 1) := by rw [Nat.pow_succ]; omega
        by_cases h3 : x.toNat < 128
        · rw [if_pos h3]
          refine ⟨Nat.lt_of_lt_of_le hb (Nat.pow_le_pow_right (by omega) (by omega)), ?_, by simp, by simp⟩
          simp only [List.length_cons]; omega
        · rw [if_neg h3]
          have := ih (i + 1) _ hb (by omega)
          simp only [List.length_cons]
          refine ⟨this.1, by omega, this.2.2⟩
/-- A Scan's state behind a call of Number. -/
def scNum (l : List UInt8) (at_ : Nat) (err : Int) : Nat × Nat × Int :=
  if err = 0 then ((rdNum 0 0 (l.drop at_)).1, at_ + (rdNum 0 0 (l.drop at_)).2.1, (rdNum 0 0 (l.drop at_)).2.2) else (0, at_, err)
end Go.Proofs.Ytdjcifeoplgkpaa
