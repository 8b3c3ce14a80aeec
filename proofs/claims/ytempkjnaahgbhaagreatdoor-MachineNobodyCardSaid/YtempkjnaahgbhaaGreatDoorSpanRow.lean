/-
  Slices of spans: what a span in memory reads as. No condition.
-/
import Derived.Test.YtempkjnaahgbhaaGreatDoorRows
import Derived.Test.YtempkjnaahgbhaaGreatDoorBase
namespace Go.Proofs.YtempkjnaahgbhaaGreatDoor
open Go.RowKit

def u8v (c : UInt8) : Value := .int .u8 c.toNat
/-- A slice of bytes that reads as l. -/
def RdB (w : World) (B : Nat) (A : Option Addr) (n : Nat) (l : List UInt8) : Prop := Rd w B 1 A n (l.map u8v)
theorem RdB.len {w : World} {B n : Nat} {A : Option Addr} {l : List UInt8} (h : RdB w B A n l) : l.length = n := by simpa using h.1
theorem u8v_oneCell (l : List UInt8) : ∀ u ∈ l.map u8v, u.oneCell' = true := by
  intro u hu; obtain ⟨_, _, rfl⟩ := List.mem_map.1 hu; rfl

/-- What a call leaves that makes bytes: a slice of its own that reads as l; what was there stands. -/
def ResB (w : World) (l : List UInt8) (e : Ending) (w' : World) : Prop :=
  ∃ A c, e = .returned (.slice A l.length c) ∧ w'.ownsRow w.heap.size 5 1 (.slice A l.length c) l.length (l.map u8v) ∧ Below w.heap.size w w'
theorem RdB.of_own {w : World} {base : Nat} {A : Option Addr} {c n : Nat} {l : List UInt8} (h : w.ownsRow base 5 1 (.slice A n c) n (l.map u8v)) : RdB w w.heap.size A n l := Rd.of_own h

/-- A slice of spans. -/
def RdS (w : World) (B : Nat) (A : Option Addr) (n : Nat) (l : List Sp) : Prop := Rd w B 6 A n (l.flatMap Sp.cells)
theorem Sp.cells_len (s : Sp) : s.cells.length = 6 := rfl
theorem RdS.len {w : World} {B n : Nat} {A : Option Addr} {l : List Sp} (h : RdS w B A n l) : l.length = n := by
  have h1 := h.1; rw [flat_len _ 6 Sp.cells_len] at h1; omega
theorem RdS.at_ {w : World} {B n k : Nat} {A : Option Addr} {l : List Sp} (h : RdS w B A n l) (hk : k < l.length) :
    ∃ b off, A = some ⟨b, off, none⟩ ∧ b < B ∧ w.cell? ⟨b, off + k * 6, none⟩ = some (.int .i64 l[k].tr) ∧ w.cell? ⟨b, off + k * 6 + 1, none⟩ = some (.int .i64 l[k].id) ∧ w.cell? ⟨b, off + k * 6 + 2, none⟩ = some (.int .i64 l[k].pa) ∧
      w.cell? ⟨b, off + k * 6 + 3, none⟩ = some (.int .i64 l[k].st) ∧ w.cell? ⟨b, off + k * 6 + 4, none⟩ = some (.int .i64 l[k].en) ∧ w.cell? ⟨b, off + k * 6 + 5, none⟩ = some (.string l[k].nm) := by
  have hl := h.len
  obtain ⟨b, off, e, hb, hc⟩ := Rd.elem Sp.cells_len h (k := k) (by omega) hk
  exact ⟨b, off, e, hb, hc 0 (by omega), hc 1 (by omega), hc 2 (by omega), hc 3 (by omega), hc 4 (by omega), hc 5 (by omega)⟩
/-- A block just laid of one span. -/
theorem RdS.one {w : World} {H : Nat} (hH : w.heap.size = H) (s : Sp) (t : TypeId) (fr : Nat × Nat) : RdS (w.alloc (.cells #[.int .i64 s.tr, .int .i64 s.id, .int .i64 s.pa, .int .i64 s.st, .int .i64 s.en, .string s.nm] t fr)) (H + 1) (some ⟨H, 0, none⟩) 1 [s] :=
  Rd.new hH rfl (by intro j hj; simp [Sp.cells] at hj; match j, hj with | 0, _ => rfl | 1, _ => rfl | 2, _ => rfl | 3, _ => rfl | 4, _ => rfl | 5, _ => rfl)
theorem Tryz.infoSpan : (Tryz.prog.info? 30).map (fun i => (i.zero, i.size, i.bytes)) = some (some (.agg #[.int .i64 0, .int .i64 0, .int .i64 0, .int .i64 0, .int .i64 0, .string ⟨#[]⟩]), 6, 56) := by kernel_rfl
theorem cells_oneCell (l : List Sp) : ∀ u ∈ l.flatMap Sp.cells, u.oneCell' = true := by
  intro u hu
  obtain ⟨s, _, hs⟩ := List.mem_flatMap.1 hu
  simp only [Sp.cells, List.mem_cons, List.not_mem_nil, or_false] at hs
  rcases hs with rfl | rfl | rfl | rfl | rfl | rfl <;> rfl

end Go.Proofs.YtempkjnaahgbhaaGreatDoor
