/-
  The walk of the reference's forest's Find. Conditions: the reference's forest lies in memory, its spans read as a list.
  The walk of the reference's forest's ring. Conditions: the reference's forest lies in memory, its spans read as a list.
  The walk of the reference's forest's End. Conditions: the forest lies in memory.
-/
import Derived.Test.YtdjcifeoplgkpaaGreatForestE
namespace Go.Proofs.YtdjcifeoplgkpaaGreat
open Go Go.RowKit Go.Maps

/-- The reference's forest in block x. -/
structure Rf (w : World) (x : Nat) (A : Option Addr) (c : Nat) (tr : Int) (L : List Sp) : Prop where
  hp : w.heap[x]? = some (.cells #[.int .i64 tr, .slice A L.length c] 96 (0, 0))
  rd : RdS w w.heap.size A L.length L
  len : L.length ≤ 64
section
variable {w w' : World} {x : Nat} {A : Option Addr} {c : Nat} {tr : Int} {L : List Sp}
theorem Rf.lt (h : Rf w x A c tr L) : x < w.heap.size := (Array.getElem?_eq_some_iff.1 h.hp).1
theorem Rf.fr {S : Nat → Prop} (h : Rf w x A c tr L) (hf : Fr S w w') (hx : ¬ S x) (hA : ∀ k, A.map (·.block) = some k → ¬ S k) : Rf w' x A c tr L :=
  ⟨(hf.block x h.lt hx).trans h.hp, (Fr.rdA h.rd hf (Nat.le_refl _) hA).more hf.size, h.len⟩
theorem Rf.below {B : Nat} (h : Rf w x A c tr L) (hb : Below B w w') (hB : w.heap.size ≤ B) : Rf w' x A c tr L :=
  h.fr (S := fun _ => False) ⟨hb.os, hb.tape, hb.output, hb.size, fun k hk _ => hb.block k (by omega)⟩ (fun h => h) (fun _ _ h => h)
end

theorem find_step {L : List Sp} {x : Int} {k : Nat} (hk : k < L.length) (hno : atS (L.take k) x = none) (hne : ¬ L[k].id = x) : atS (L.take (k + 1)) x = none := by
  rw [List.take_succ_eq_append_getElem hk, atS_snoc, hno, if_neg hne]; rfl
theorem find_hit {L : List Sp} {x : Int} {k : Nat} (hk : k < L.length) (hno : atS (L.take k) x = none) (he : L[k].id = x) : atS L x = some L[k] := by
  have h1 : atS (L.take (k + 1)) x = some L[k] := by rw [List.take_succ_eq_append_getElem hk, atS_snoc, hno, if_pos he]; rfl
  have h2 : atS L x = (atS (L.take (k + 1)) x).or (atS (L.drop (k + 1)) x) := by
    conv => lhs; rw [← List.take_append_drop (k + 1) L]
    unfold atS; rw [List.find?_append]
  rw [h2, h1]; rfl

/-- What a look-up leaves: a span, and whether it is there; new memory alone. -/
def ResFind (w : World) (L : List Sp) (y : Int) (e : Ending) (w' : World) : Prop :=
  e = .returned (.tuple #[(getS L y).val, .bool (atS L y).isSome]) ∧ Below w.heap.size w w'

set_option maxRecDepth 100000 in
set_option maxHeartbeats 1000000 in
theorem rfind_any {w : World} {x : Nat} {A : Option Addr} {c : Nat} {tr : Int} {L : List Sp} (h : Rf w x A c tr L) (y : Int) :
    Calls Tryz.prog 65 #[.pointer (some ⟨x, 0, none⟩), .int .i64 y] w (ResFind w L y) := by
  have HF := Lib.hid h
  have hxl := h.lt
  have hpc : ∀ j, (w.alloc (.cells #[.int .i64 0, .int .i64 0, .int .i64 0, .int .i64 0, .int .i64 0, .string ⟨#[]⟩] 38)).cell? ⟨x, j, none⟩ = (#[.int .i64 tr, .slice A L.length c] : Array Value)[j]? := blk_cell ((Below.heap_alloc _ _ _ hxl).trans h.hp)
  have hl64 := h.len
  clear h
  go_enter Tryz.func65, Tryz.ntmps65
  go_wp2_with fail
  go_loopw [13] (fun i wr => ∃ (k : Nat), k ≤ L.length ∧ i = .int .i64 k ∧ atS (L.take k) y = none ∧ Below (w.heap.size + 1) (w.alloc (.cells #[.int .i64 0, .int .i64 0, .int .i64 0, .int .i64 0, .int .i64 0, .string ⟨#[]⟩] 38)) wr) (fun i _ => L.length - (intOf i).toNat)
  case atStart => exact ⟨0, by omega, rfl, rfl, Below.refl _ _⟩
  case round =>
    obtain ⟨k, hk, rfl, hno, hb⟩ := hrel
    have hz := hb.size
    simp at hz
    have hz' : w.heap.size < wr.heap.size := by omega
    have hblk := blk_below hb (by omega) (heap_alloc_new w _)
    have hc0 : wr.cell? ⟨w.heap.size, 0, none⟩ = some (.int .i64 0) := blk_cell hblk 0
    have hc1 : wr.cell? ⟨w.heap.size, 1, none⟩ = some (.int .i64 0) := blk_cell hblk 1
    have hc2 : wr.cell? ⟨w.heap.size, 2, none⟩ = some (.int .i64 0) := blk_cell hblk 2
    have hc3 : wr.cell? ⟨w.heap.size, 3, none⟩ = some (.int .i64 0) := blk_cell hblk 3
    have hc4 : wr.cell? ⟨w.heap.size, 4, none⟩ = some (.int .i64 0) := blk_cell hblk 4
    have hc5 : wr.cell? ⟨w.heap.size, 5, none⟩ = some (.string ⟨#[]⟩) := blk_cell hblk 5
    have hfz := blk_frozen hblk
    have HB := Lib.hid hb
    have HBW : Hid (Below w.heap.size w wr) := Lib.hid (((Below.refl _ _).alloc (Nat.le_refl _) _).trans (hb.mono (by omega)))
    have HNO := Lib.hid hno
    clear hb hno hblk
    by_cases hlt : k < L.length
    · have hk1 : (k : Int) < (L.length : Int) := by omega
      obtain ⟨b1, o1, rfl, hb1, x0, x1, x2, x3, x4, x5⟩ := RdS.at_ (HF.out.below HBW.out (Nat.le_refl _)).rd hlt
      by_cases he : L[k].id = y
      · have HAT := Lib.hid (find_hit hlt HNO.out he)
        have HGET : Hid (getS L y = L[k]) := Lib.hid (by rw [getS, HAT.out]; rfl)
        generalize L[k] = s at *
        clear he
        have he := Lib.hid (show s.id = y by rw [← (atS_some HAT.out).2])
        have hyy := he.out
        subst hyy
        clear he
        go_wp2_with fail
        refine bodyPost_ret (v := .tuple #[s.val, .bool true]) (by simp [results, Tryz.results65, go_sem, hc0, hc1, hc2, hc3, hc4, hc5, hz']) rfl ?_
        refine ⟨by rw [HGET.out, HAT.out]; rfl, ?_⟩
        refine Below.alloc ?_ (by simp [World.setCell] <;> omega) _
        repeat (first | with_reducible exact HBW.out | refine Below.setCell ?_ (by exact Nat.le_refl _) _)
      · have HNX := Lib.hid (find_step hlt HNO.out he)
        generalize L[k] = s at *
        have heb : (s.id == y) = false := by simpa using he
        clear he
        go_wp2_with fail
        go_roundw
        case rel => exact ⟨k + 1, by omega, by go_num, HNX.out, HB.out.alloc (by omega) _⟩
        case measure => simp [intOf]; omega
    · have hk1 : ¬ (k : Int) < (L.length : Int) := by omega
      have HAT : Hid (atS L y = none) := Lib.hid (by have := HNO.out; rwa [List.take_of_length_le (by omega)] at this)
      have HGET : Hid (getS L y = default) := Lib.hid (by rw [getS, HAT.out]; rfl)
      go_wp2_with fail
      refine bodyPost_ret (v := .tuple #[.agg #[.int .i64 0, .int .i64 0, .int .i64 0, .int .i64 0, .int .i64 0, .string ⟨#[]⟩], .bool false]) (by simp [results, Tryz.results65, go_sem, hc0, hc1, hc2, hc3, hc4, hc5]) rfl ?_
      refine ⟨by rw [HGET.out, HAT.out]; rfl, ?_⟩
      repeat (first | with_reducible exact HBW.out | refine Below.setCell ?_ (by exact Nat.le_refl _) _)

end Go.Proofs.YtdjcifeoplgkpaaGreat
namespace Go.Proofs.YtdjcifeoplgkpaaGreat
open Go Go.RowKit Go.Maps

/-- Would one stand above itself? -/
def ringN (L : List Sp) : Nat → Int → Int → Bool
  | 0, at_, id => decide (at_ = id)
  | n + 1, at_, id => match atS L at_ with
    | none => decide (at_ = id)
    | some s => if s.pa = id then true else ringN L n s.pa id
def ringB (L : List Sp) (s : Sp) : Bool := ringN L L.length s.pa s.id
theorem ringN_iff {L : List Sp} {id : Int} (hn : atS L id = none) : ∀ (n : Nat) (x : Int), ringN L n x id = true ↔ ∃ m, m ≤ n ∧ it L m x = some id := by
  intro n
  induction n with
  | zero =>
    intro x
    simp only [ringN, decide_eq_true_eq]
    constructor
    · intro h; exact ⟨0, by omega, congrArg some h⟩
    · rintro ⟨m, hm, h⟩
      obtain rfl : m = 0 := by omega
      exact Option.some.inj h
  | succ n ih =>
    intro x
    rw [ringN]
    cases hs : atS L x with
    | none =>
      simp only [decide_eq_true_eq]
      constructor
      · intro h; exact ⟨0, by omega, congrArg some h⟩
      · rintro ⟨m, hm, h⟩
        cases m with
        | zero => exact Option.some.inj h
        | succ m => obtain ⟨s, h3, _⟩ := it_here h; rw [hs] at h3; cases h3
    | some s =>
      have hx : ∀ m, it L m x = some id → ∃ k, m = k + 1 ∧ it L k s.pa = some id := fun m h => by
        cases m with
        | zero =>
          have : x = id := Option.some.inj h
          rw [this, hn] at hs; cases hs
        | succ m => exact ⟨m, rfl, by rw [← it_one hs]; exact h⟩
      show (if s.pa = id then true else ringN L n s.pa id) = true ↔ _
      by_cases hp : s.pa = id
      · rw [if_pos hp]
        exact ⟨fun _ => ⟨1, by omega, by rw [it_one hs]; exact congrArg some hp⟩, fun _ => rfl⟩
      · rw [if_neg hp, ih]
        constructor
        · rintro ⟨m, hm, h⟩; exact ⟨m + 1, by omega, by rw [it_one hs]; exact h⟩
        · rintro ⟨m, hm, h⟩
          obtain ⟨k, rfl, h2⟩ := hx m h
          exact ⟨k, by omega, h2⟩
/-- The two say the same of a number that is not there. -/
theorem ring_above {L : List Sp} {s : Sp} (hn : atS L s.id = none) : ringB L s = aboveB L s.pa s.id := by
  rw [Bool.eq_iff_iff, ringB, ringN_iff hn, aboveB_iff]
  constructor
  · rintro ⟨m, _, h⟩; exact ⟨m, h⟩
  · rintro ⟨m, h⟩
    obtain ⟨k, h1, _, h2⟩ := it_small m h
    exact ⟨k, h1, h2⟩

set_option maxRecDepth 100000 in
set_option maxHeartbeats 1000000 in
theorem rring_any {w : World} {x : Nat} {A : Option Addr} {c : Nat} {tr : Int} {L : List Sp} (h : Rf w x A c tr L) (s : Sp) :
    Calls Tryz.prog 66 #[.pointer (some ⟨x, 0, none⟩), s.val] w fun e w' => e = .returned (.bool (ringB L s)) ∧ Below w.heap.size w w' := by
  have HF := Lib.hid h
  have hxl := h.lt
  have hpc : ∀ j, (w.alloc (.cells #[.int .i64 s.tr, .int .i64 s.id, .int .i64 s.pa, .int .i64 s.st, .int .i64 s.en, .string s.nm] 38)).cell? ⟨x, j, none⟩ = (#[.int .i64 tr, .slice A L.length c] : Array Value)[j]? := blk_cell ((Below.heap_alloc _ _ _ hxl).trans h.hp)
  have hl64 := h.len
  have hsc := blk_cell (heap_alloc_new w (.cells #[.int .i64 s.tr, .int .i64 s.id, .int .i64 s.pa, .int .i64 s.st, .int .i64 s.en, .string s.nm] 38))
  have HSC := Lib.hid hsc
  clear h
  go_enter Tryz.func66, Tryz.ntmps66
  go_wp2_with fail
  go_loopw [5, 15] (fun v i wr => ∃ (k : Nat) (y : Int), k ≤ L.length ∧ i = .int .i64 k ∧ v = .int .i64 y ∧ ringN L (L.length - k) y s.id = ringB L s ∧ Below (w.heap.size + 1) (w.alloc (.cells #[.int .i64 s.tr, .int .i64 s.id, .int .i64 s.pa, .int .i64 s.st, .int .i64 s.en, .string s.nm] 38)) wr) (fun _ i _ => L.length - (intOf i).toNat)
  case atStart => exact ⟨0, s.pa, by omega, rfl, rfl, rfl, Below.refl _ _⟩
  case round =>
    obtain ⟨k, y, hk, rfl, rfl, hri, hb⟩ := hrel
    have hz := hb.size
    simp at hz
    have hsr : ∀ j, wr.cell? ⟨w.heap.size, j, none⟩ = (#[.int .i64 s.tr, .int .i64 s.id, .int .i64 s.pa, .int .i64 s.st, .int .i64 s.en, .string s.nm] : Array Value)[j]? := fun j => (hb.cell (by simp)).trans (HSC.out j)
    have HB := Lib.hid hb
    have HBW : Hid (Below w.heap.size w wr) := Lib.hid (((Below.refl _ _).alloc (Nat.le_refl _) _).trans (hb.mono (by omega)))
    have HRI := Lib.hid hri
    clear hb hri hsc
    by_cases hlt : k < L.length
    · have hk1 : (k : Int) < (L.length : Int) := by omega
      have HFR := Lib.hid (HF.out.below HBW.out (Nat.le_refl _))
      have hri := HRI.out
      rw [show L.length - k = (L.length - (k + 1)) + 1 by omega, ringN] at hri
      go_wp2_with fail
      refine (rfind_any HFR.out y).mono ?_
      rintro e w1 ⟨rfl, hb1⟩
      have hz1 := hb1.size
      have hz1' : w.heap.size < w1.heap.size := by omega
      have HB1 : Hid (Below (w.heap.size + 1) (w.alloc (.cells #[.int .i64 s.tr, .int .i64 s.id, .int .i64 s.pa, .int .i64 s.st, .int .i64 s.en, .string s.nm] 38)) w1) := Lib.hid (HB.out.trans (hb1.mono (by omega)))
      have HBW1 : Hid (Below w.heap.size w w1) := Lib.hid (HBW.out.trans (hb1.mono HBW.out.size))
      have hs1 : ∀ j, w1.cell? ⟨w.heap.size, j, none⟩ = (#[.int .i64 s.tr, .int .i64 s.id, .int .i64 s.pa, .int .i64 s.st, .int .i64 s.en, .string s.nm] : Array Value)[j]? := fun j => (hb1.cell (by simp only; omega)).trans (hsr j)
      clear hb1 hsr
      cases hat : atS L y with
      | none =>
        rw [hat] at hri
        have HR := Lib.hid hri
        generalize getS L y = t at *
        clear hat hri
        go_wp2_with fail
        go_ret
        exact ⟨by rw [← HR.out]; first | rfl | (simp; done), HBW1.out.alloc (by omega) _⟩
      | some t =>
        have hg : getS L y = t := by rw [getS, hat]; rfl
        rw [hat] at hri
        rw [hg]
        clear hat hg
        by_cases hp : t.pa = s.id
        · have HR : Hid (ringB L s = true) := Lib.hid (by rw [← hri]; simp [hp])
          have hpb : (t.pa == s.id) = true := by simpa using hp
          clear hri hp
          go_wp2_with fail
          go_ret
          exact ⟨by rw [HR.out]; rfl, HBW1.out.alloc (by omega) _⟩
        · have HR : Hid (ringN L (L.length - (k + 1)) t.pa s.id = ringB L s) := Lib.hid (by rw [← hri]; simp [hp])
          have hpb : (t.pa == s.id) = false := by simpa using hp
          clear hri hp
          go_wp2_with fail
          go_roundw
          case rel => exact ⟨k + 1, t.pa, by omega, by go_num, rfl, HR.out, HB1.out.alloc (by omega) _⟩
          case measure => simp [intOf]; omega
    · have hk1 : ¬ (k : Int) < (L.length : Int) := by omega
      have hri := HRI.out
      rw [show L.length - k = 0 by omega, ringN] at hri
      have HR := Lib.hid hri
      clear hri
      go_wp2_with fail
      go_ret
      exact ⟨by rw [← HR.out]; first | rfl | (simp; done), HBW.out⟩

end Go.Proofs.YtdjcifeoplgkpaaGreat
namespace Go.Proofs.YtdjcifeoplgkpaaGreat
open Go Go.RowKit Go.Maps

set_option maxRecDepth 100000 in
set_option maxHeartbeats 1000000 in
theorem rend_any {w : World} {x : Nat} {A : Option Addr} {c : Nat} {tr : Int} {L : List Sp} (h : Rf w x A c tr L) :
    Calls Tryz.prog 29 #[.pointer (some ⟨x, 0, none⟩)] w fun e w' => e = .returned (.int .i64 (endL L)) ∧ Below w.heap.size w w' := by
  have HF := Lib.hid h
  have hxl := h.lt
  have hpc := blk_cell h.hp
  have hl64 := h.len
  clear h
  go_enter Tryz.func29, Tryz.ntmps29
  go_wp2_with fail
  go_loopw [3, 11] (fun v i wr => ∃ (k : Nat), k ≤ L.length ∧ i = .int .i64 k ∧ v = .int .i64 (endL (L.take k)) ∧ Below w.heap.size w wr) (fun _ i _ => L.length - (intOf i).toNat)
  case atStart => exact ⟨0, by omega, rfl, rfl, Below.refl _ _⟩
  case round =>
    obtain ⟨k, hk, rfl, rfl, hb⟩ := hrel
    have hz := hb.size
    have HB := Lib.hid hb
    clear hb
    by_cases hlt : k < L.length
    · have hk1 : (k : Int) < (L.length : Int) := by omega
      obtain ⟨b1, o1, rfl, hb1, x0, x1, x2, x3, x4, x5⟩ := RdS.at_ (HF.out.below HB.out (Nat.le_refl _)).rd hlt
      have HST : Hid (endL (L.take (k + 1)) = max (endL (L.take k)) L[k].en) := Lib.hid (by rw [List.take_succ_eq_append_getElem hlt, endL_snoc])
      generalize L[k] = s at *
      obtain ⟨n, hn⟩ : ∃ n, n = endL (L.take k) := ⟨_, rfl⟩
      rw [← hn] at HST ⊢
      clear hn
      by_cases hgt : n < s.en
      · have HN1 : Hid (endL (L.take (k + 1)) = s.en) := Lib.hid (by have := HST.out; omega)
        go_wp2_with fail
        go_roundw
        case rel => exact ⟨k + 1, by omega, by go_num, by rw [HN1.out], HB.out.alloc (by omega) _⟩
        case measure => simp [intOf]; omega
      · have HN1 : Hid (endL (L.take (k + 1)) = n) := Lib.hid (by have := HST.out; omega)
        go_wp2_with fail
        go_roundw
        case rel => exact ⟨k + 1, by omega, by go_num, by rw [HN1.out], HB.out.alloc (by omega) _⟩
        case measure => simp [intOf]; omega
    · have hk1 : ¬ (k : Int) < (L.length : Int) := by omega
      have hkl : k = L.length := by omega
      subst hkl
      go_wp2_with fail
      go_ret
      exact ⟨rfl, HB.out⟩

end Go.Proofs.YtdjcifeoplgkpaaGreat
