/-
  The walk of the reference's forest's Find. Conditions: the reference's forest lies in memory, its spans read as a list.
-/
import Derived.Test.YtnocknhfdegkgaaForest5
namespace Go.Proofs.Ytnocknhfdegkgaa
open Go Go.RowKit Go.Maps

/-- The reference's forest in block x. -/
structure Rf (w : World) (x : Nat) (A : Option Addr) (c : Nat) (tr : Int) (L : List Sp) : Prop where
  hp : w.heap[x]? = some (.cells #[.int .i64 tr, .slice A L.length c] 65 (0, 0))
  rd : RdS w w.heap.size A L.length L
  len : L.length ≤ 64
section
variable {w w' : World} {x : Nat} {A : Option Addr} {c : Nat} {tr : Int} {L : List Sp}
theorem Rf.lt (h : Rf w x A c tr L) : x < w.heap.size := (Array.getElem?_eq_some_iff.1 h.hp).1
theorem Rf.fr {S : Nat → Prop} (h : Rf w x A c tr L) (hf : Fr S w w') (hx : ¬ S x) (hA : ∀ k, A.map (·.block) = some k → ¬ S k) : Rf w' x A c tr L :=
  ⟨(hf.block x h.lt hx).trans h.hp, (Fr.rdA h.rd hf (Nat.le_refl _) hA).more hf.size, h.len⟩
theorem Rf.below {B : Nat} (h : Rf w x A c tr L) (hb : Below B w w') (hB : w.heap.size ≤ B) : Rf w' x A c tr L :=
  h.fr (S := fun _ => False) ⟨hb.os, hb.tape, hb.output, hb.size, fun k hk _ => hb.block k (by omega)⟩ (fun h => h) (fun _ _ h => h)
end

theorem find_step {L : List Sp} {x : Int} {k : Nat} (hk : k < L.length) (hno : atS (L.take k) x = none) (hne : ¬ L[k].id = x) : atS (L.take (k + 1)) x = none := by
  rw [List.take_succ_eq_append_getElem hk, atS_snoc, hno, if_neg hne]; rfl
theorem find_hit {L : List Sp} {x : Int} {k : Nat} (hk : k < L.length) (hno : atS (L.take k) x = none) (he : L[k].id = x) : atS L x = some L[k] := by
  have h1 : atS (L.take (k + 1)) x = some L[k] := by rw [List.take_succ_eq_append_getElem hk, atS_snoc, hno, if_pos he]; rfl
  have h2 : atS L x = (atS (L.take (k + 1)) x).or (atS (L.drop (k + 1)) x) := by
    conv => lhs; rw [← List.take_append_drop (k + 1) L]
    unfold atS; rw [List.find?_append]
  rw [h2, h1]; rfl

/-- What a look-up leaves: a span, and whether it is there; new memory alone. -/
def ResFind (w : World) (L : List Sp) (y : Int) (e : Ending) (w' : World) : Prop :=
  e = .returned (.tuple #[(getS L y).val, .bool (atS L y).isSome]) ∧ Below w.heap.size w w'

set_option maxRecDepth 100000 in
set_option maxHeartbeats 1000000 in
theorem rfind_any {w : World} {x : Nat} {A : Option Addr} {c : Nat} {tr : Int} {L : List Sp} (h : Rf w x A c tr L) (y : Int) :
    Calls Try.prog 40 #[.pointer (some ⟨x, 0, none⟩), .int .i64 y] w (ResFind w L y) := by
  have HF := Lib.hid h
  have hxl := h.lt
  have hpc : ∀ j, (w.alloc (.cells #[.int .i64 0, .int .i64 0, .int .i64 0, .int .i64 0, .int .i64 0, .string ⟨#[]⟩] 30)).cell? ⟨x, j, none⟩ = (#[.int .i64 tr, .slice A L.length c] : Array Value)[j]? := blk_cell ((Below.heap_alloc _ _ _ hxl).trans h.hp)
  have hl64 := h.len
  clear h
  go_enter Try.func40, Try.ntmps40
  go_wp2_with fail
  go_loopw [13] (fun i wr => ∃ (k : Nat), k ≤ L.length ∧ i = .int .i64 k ∧ atS (L.take k) y = none ∧ Below (w.heap.size + 1) (w.alloc (.cells #[.int .i64 0, .int .i64 0, .int .i64 0, .int .i64 0, .int .i64 0, .string ⟨#[]⟩] 30)) wr) (fun i _ => L.length - (intOf i).toNat)
  case atStart => exact ⟨0, by omega, rfl, rfl, Below.refl _ _⟩
  case round =>
    obtain ⟨k, hk, rfl, hno, hb⟩ := hrel
    have hz := hb.size
    simp at hz
    have hz' : w.heap.size < wr.heap.size := by omega
    have hblk := blk_below hb (by omega) (heap_alloc_new w _)
    have hc0 : wr.cell? ⟨w.heap.size, 0, none⟩ = some (.int .i64 0) := blk_cell hblk 0
    have hc1 : wr.cell? ⟨w.heap.size, 1, none⟩ = some (.int .i64 0) := blk_cell hblk 1
    have hc2 : wr.cell? ⟨w.heap.size, 2, none⟩ = some (.int .i64 0) := blk_cell hblk 2
    have hc3 : wr.cell? ⟨w.heap.size, 3, none⟩ = some (.int .i64 0) := blk_cell hblk 3
    have hc4 : wr.cell? ⟨w.heap.size, 4, none⟩ = some (.int .i64 0) := blk_cell hblk 4
    have hc5 : wr.cell? ⟨w.heap.size, 5, none⟩ = some (.string ⟨#[]⟩) := blk_cell hblk 5
    have hfz := blk_frozen hblk
    have HB := Lib.hid hb
    have HBW : Hid (Below w.heap.size w wr) := Lib.hid (((Below.refl _ _).alloc (Nat.le_refl _) _).trans (hb.mono (by omega)))
    have HNO := Lib.hid hno
    clear hb hno hblk
    by_cases hlt : k < L.length
    · have hk1 : (k : Int) < (L.length : Int) := by omega
      obtain ⟨b1, o1, rfl, hb1, x0, x1, x2, x3, x4, x5⟩ := RdS.at_ (HF.out.below HBW.out (Nat.le_refl _)).rd hlt
      by_cases he : L[k].id = y
      · have HAT := Lib.hid (find_hit hlt HNO.out he)
        have HGET : Hid (getS L y = L[k]) := Lib.hid (by rw [getS, HAT.out]; rfl)
        generalize L[k] = s at *
        clear he
        have he := Lib.hid (show s.id = y by rw [← (atS_some HAT.out).2])
        have hyy := he.out
        subst hyy
        clear he
        go_wp2_with fail
        refine bodyPost_ret (v := .tuple #[s.val, .bool true]) (by simp [results, Try.results40, go_sem, hc0, hc1, hc2, hc3, hc4, hc5, hz']) rfl ?_
        refine ⟨by rw [HGET.out, HAT.out]; rfl, ?_⟩
        refine Below.alloc ?_ (by simp [World.setCell] <;> omega) _
        repeat (first | with_reducible exact HBW.out | refine Below.setCell ?_ (by exact Nat.le_refl _) _)
      · have HNX := Lib.hid (find_step hlt HNO.out he)
        generalize L[k] = s at *
        have heb : (s.id == y) = false := by simpa using he
        clear he
        go_wp2_with fail
        go_roundw
        case rel => exact ⟨k + 1, by omega, by go_num, HNX.out, HB.out.alloc (by omega) _⟩
        case measure => simp [intOf]; omega
    · have hk1 : ¬ (k : Int) < (L.length : Int) := by omega
      have HAT : Hid (atS L y = none) := Lib.hid (by have := HNO.out; rwa [List.take_of_length_le (by omega)] at this)
      have HGET : Hid (getS L y = default) := Lib.hid (by rw [getS, HAT.out]; rfl)
      go_wp2_with fail
      refine bodyPost_ret (v := .tuple #[.agg #[.int .i64 0, .int .i64 0, .int .i64 0, .int .i64 0, .int .i64 0, .string ⟨#[]⟩], .bool false]) (by simp [results, Try.results40, go_sem, hc0, hc1, hc2, hc3, hc4, hc5]) rfl ?_
      refine ⟨by rw [HGET.out, HAT.out]; rfl, ?_⟩
      repeat (first | with_reducible exact HBW.out | refine Below.setCell ?_ (by exact Nat.le_refl _) _)

end Go.Proofs.Ytnocknhfdegkgaa
