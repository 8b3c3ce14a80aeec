/-
  The walk of the reference's forest's ring. Conditions: the reference's forest lies in memory, its spans read as a list.
-/
import Derived.Test.YtnocknhfdegkgaaRef04a
namespace Go.Proofs.Ytnocknhfdegkgaa
open Go Go.RowKit Go.Maps

/-- Would one stand above itself? -/
def ringN (L : List Sp) : Nat → Int → Int → Bool
  | 0, at_, id => decide (at_ = id)
  | n + 1, at_, id => match atS L at_ with
    | none => decide (at_ = id)
    | some s => if s.pa = id then true else ringN L n s.pa id
def ringB (L : List Sp) (s : Sp) : Bool := ringN L L.length s.pa s.id
theorem ringN_iff {L : List Sp} {id : Int} (hn : atS L id = none) : ∀ (n : Nat) (x : Int), ringN L n x id = true ↔ ∃ m, m ≤ n ∧ it L m x = some id := by
  intro n
  induction n with
  | zero =>
    intro x
    simp only [ringN, decide_eq_true_eq]
    constructor
    · intro h; exact ⟨0, by omega, congrArg some h⟩
    · rintro ⟨m, hm, h⟩
      obtain rfl : m = 0 := by omega
      exact Option.some.inj h
  | succ n ih =>
    intro x
    rw [ringN]
    cases hs : atS L x with
    | none =>
      simp only [decide_eq_true_eq]
      constructor
      · intro h; exact ⟨0, by omega, congrArg some h⟩
      · rintro ⟨m, hm, h⟩
        cases m with
        | zero => exact Option.some.inj h
        | succ m => obtain ⟨s, h3, _⟩ := it_here h; rw [hs] at h3; cases h3
    | some s =>
      have hx : ∀ m, it L m x = some id → ∃ k, m = k + 1 ∧ it L k s.pa = some id := fun m h => by
        cases m with
        | zero =>
          have : x = id := Option.some.inj h
          rw [this, hn] at hs; cases hs
        | succ m => exact ⟨m, rfl, by rw [← it_one hs]; exact h⟩
      show (if s.pa = id then true else ringN L n s.pa id) = true ↔ _
      by_cases hp : s.pa = id
      · rw [if_pos hp]
        exact ⟨fun _ => ⟨1, by omega, by rw [it_one hs]; exact congrArg some hp⟩, fun _ => rfl⟩
      · rw [if_neg hp, ih]
        constructor
        · rintro ⟨m, hm, h⟩; exact ⟨m + 1, by omega, by rw [it_one hs]; exact h⟩
        · rintro ⟨m, hm, h⟩
          obtain ⟨k, rfl, h2⟩ := hx m h
          exact ⟨k, by omega, h2⟩
/-- The two say the same of a number that is not there. -/
theorem ring_above {L : List Sp} {s : Sp} (hn : atS L s.id = none) : ringB L s = aboveB L s.pa s.id := by
  rw [Bool.eq_iff_iff, ringB, ringN_iff hn, aboveB_iff]
  constructor
  · rintro ⟨m, _, h⟩; exact ⟨m, h⟩
  · rintro ⟨m, h⟩
    obtain ⟨k, h1, _, h2⟩ := it_small m h
    exact ⟨k, h1, h2⟩

set_option maxRecDepth 100000 in
set_option maxHeartbeats 1000000 in
theorem rring_any {w : World} {x : Nat} {A : Option Addr} {c : Nat} {tr : Int} {L : List Sp} (h : Rf w x A c tr L) (s : Sp) :
    Calls Try.prog 41 #[.pointer (some ⟨x, 0, none⟩), s.val] w fun e w' => e = .returned (.bool (ringB L s)) ∧ Below w.heap.size w w' := by
  have HF := Lib.hid h
  have hxl := h.lt
  have hpc : ∀ j, (w.alloc (.cells #[.int .i64 s.tr, .int .i64 s.id, .int .i64 s.pa, .int .i64 s.st, .int .i64 s.en, .string s.nm] 30)).cell? ⟨x, j, none⟩ = (#[.int .i64 tr, .slice A L.length c] : Array Value)[j]? := blk_cell ((Below.heap_alloc _ _ _ hxl).trans h.hp)
  have hl64 := h.len
  have hsc := blk_cell (heap_alloc_new w (.cells #[.int .i64 s.tr, .int .i64 s.id, .int .i64 s.pa, .int .i64 s.st, .int .i64 s.en, .string s.nm] 30))
  have HSC := Lib.hid hsc
  clear h
  go_enter Try.func41, Try.ntmps41
  go_wp2_with fail
  go_loopw [5, 15] (fun v i wr => ∃ (k : Nat) (y : Int), k ≤ L.length ∧ i = .int .i64 k ∧ v = .int .i64 y ∧ ringN L (L.length - k) y s.id = ringB L s ∧ Below (w.heap.size + 1) (w.alloc (.cells #[.int .i64 s.tr, .int .i64 s.id, .int .i64 s.pa, .int .i64 s.st, .int .i64 s.en, .string s.nm] 30)) wr) (fun _ i _ => L.length - (intOf i).toNat)
  case atStart => exact ⟨0, s.pa, by omega, rfl, rfl, rfl, Below.refl _ _⟩
  case round =>
    obtain ⟨k, y, hk, rfl, rfl, hri, hb⟩ := hrel
    have hz := hb.size
    simp at hz
    have hsr : ∀ j, wr.cell? ⟨w.heap.size, j, none⟩ = (#[.int .i64 s.tr, .int .i64 s.id, .int .i64 s.pa, .int .i64 s.st, .int .i64 s.en, .string s.nm] : Array Value)[j]? := fun j => (hb.cell (by simp)).trans (HSC.out j)
    have HB := Lib.hid hb
    have HBW : Hid (Below w.heap.size w wr) := Lib.hid (((Below.refl _ _).alloc (Nat.le_refl _) _).trans (hb.mono (by omega)))
    have HRI := Lib.hid hri
    clear hb hri hsc
    by_cases hlt : k < L.length
    · have hk1 : (k : Int) < (L.length : Int) := by omega
      have HFR := Lib.hid (HF.out.below HBW.out (Nat.le_refl _))
      have hri := HRI.out
      rw [show L.length - k = (L.length - (k + 1)) + 1 by omega, ringN] at hri
      go_wp2_with fail
      refine (rfind_any HFR.out y).mono ?_
      rintro e w1 ⟨rfl, hb1⟩
      have hz1 := hb1.size
      have hz1' : w.heap.size < w1.heap.size := by omega
      have HB1 : Hid (Below (w.heap.size + 1) (w.alloc (.cells #[.int .i64 s.tr, .int .i64 s.id, .int .i64 s.pa, .int .i64 s.st, .int .i64 s.en, .string s.nm] 30)) w1) := Lib.hid (HB.out.trans (hb1.mono (by omega)))
      have HBW1 : Hid (Below w.heap.size w w1) := Lib.hid (HBW.out.trans (hb1.mono HBW.out.size))
      have hs1 : ∀ j, w1.cell? ⟨w.heap.size, j, none⟩ = (#[.int .i64 s.tr, .int .i64 s.id, .int .i64 s.pa, .int .i64 s.st, .int .i64 s.en, .string s.nm] : Array Value)[j]? := fun j => (hb1.cell (by simp only; omega)).trans (hsr j)
      clear hb1 hsr
      cases hat : atS L y with
      | none =>
        rw [hat] at hri
        have HR := Lib.hid hri
        generalize getS L y = t at *
        clear hat hri
        go_wp2_with fail
        go_ret
        exact ⟨by rw [← HR.out]; first | rfl | (simp; done), HBW1.out.alloc (by omega) _⟩
      | some t =>
        have hg : getS L y = t := by rw [getS, hat]; rfl
        rw [hat] at hri
        rw [hg]
        clear hat hg
        by_cases hp : t.pa = s.id
        · have HR : Hid (ringB L s = true) := Lib.hid (by rw [← hri]; simp [hp])
          have hpb : (t.pa == s.id) = true := by simpa using hp
          clear hri hp
          go_wp2_with fail
          go_ret
          exact ⟨by rw [HR.out]; rfl, HBW1.out.alloc (by omega) _⟩
        · have HR : Hid (ringN L (L.length - (k + 1)) t.pa s.id = ringB L s) := Lib.hid (by rw [← hri]; simp [hp])
          have hpb : (t.pa == s.id) = false := by simpa using hp
          clear hri hp
          go_wp2_with fail
          go_roundw
          case rel => exact ⟨k + 1, t.pa, by omega, by go_num, rfl, HR.out, HB1.out.alloc (by omega) _⟩
          case measure => simp [intOf]; omega
    · have hk1 : ¬ (k : Int) < (L.length : Int) := by omega
      have hri := HRI.out
      rw [show L.length - k = 0 by omega, ringN] at hri
      have HR := Lib.hid hri
      clear hri
      go_wp2_with fail
      go_ret
      exact ⟨by rw [← HR.out]; first | rfl | (simp; done), HBW.out⟩

end Go.Proofs.Ytnocknhfdegkgaa
