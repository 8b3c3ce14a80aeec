/-
  The plain side: spans, their bytes, which may be. No condition: definitions and lemmas on numbers and lists, no program in sight.
-/
import Derived.WalkKit
namespace Go.Proofs.Ytdjcifeoplgkpaa
open Go.RowKit

/-- A span's six fields. -/
structure Sp where
  tr : Int
  id : Int
  pa : Int
  st : Int
  en : Int
  nm : ByteArray

/-- Does a number lie between two bounds? -/
def inB (lo hi : Int) (x : Int) : Bool := decide (lo ≤ x) && decide (x ≤ hi)
theorem inB_t {lo hi x : Int} (h1 : lo ≤ x) (h2 : x ≤ hi) : inB lo hi x = true := by simp [inB, h1, h2]
theorem inB_f {lo hi x : Int} (h : x < lo ∨ hi < x) : inB lo hi x = false := by
  simp [inB]; rcases h with h | h
  · intro h'; omega
  · intro _; omega
theorem inB_iff {lo hi x : Int} : inB lo hi x = true ↔ lo ≤ x ∧ x ≤ hi := by simp [inB]
def allIn (lo hi : Int) (zs : List Int) : Bool := zs.all (inB lo hi)
def allBytes (lo hi : Int) (zs : List UInt8) : Bool := zs.all (fun c => inB lo hi c.toNat)

/-- May a span be? -/
def Sp.ok (s : Sp) : Bool :=
  decide (1 ≤ s.nm.size) && decide (s.nm.size ≤ 32) && allBytes 33 126 s.nm.data.toList && allIn 1 1099511627776 [s.tr, s.id] && allIn 0 1099511627776 [s.pa, s.st, s.en] && decide (s.pa ≠ s.id) && decide (s.st ≤ s.en)
/-- The answer of Check. -/
def Sp.check (s : Sp) : Int := if s.ok then 0 else 30
theorem Sp.check_f {s : Sp} (h : s.ok = false) : s.check = 30 := by simp [Sp.check, h]
theorem Sp.check_t {s : Sp} (h : s.ok = true) : s.check = 0 := by simp [Sp.check, h]

/-- Its six cells, and it as a value. -/
def Sp.cells (s : Sp) : List Value := [.int .i64 s.tr, .int .i64 s.id, .int .i64 s.pa, .int .i64 s.st, .int .i64 s.en, .string s.nm]
abbrev Sp.val (s : Sp) : Value := .agg #[.int .i64 s.tr, .int .i64 s.id, .int .i64 s.pa, .int .i64 s.st, .int .i64 s.en, .string s.nm]

theorem ret_bool {a b : Bool} (h : a = b) : Ending.returned (.bool a) = .returned (.bool b) := by rw [h]
theorem ret_int {k : IntKind} {a b : Int} (h : a = b) : Ending.returned (.int k a) = .returned (.int k b) := by rw [h]
theorem all_take_succ {α : Type} (zs : List α) (p : α → Bool) (k : Nat) (h : k < zs.length) : (zs.take (k+1)).all p = ((zs.take k).all p && p zs[k]) := by
  rw [List.take_succ_eq_append_getElem h]; simp only [List.all_append, List.all_cons, List.all_nil, Bool.and_true]
theorem all_false_of {α : Type} (zs : List α) (p : α → Bool) (k : Nat) (h : k < zs.length) (hp : p zs[k] = false) : zs.all p = false := by
  rw [List.all_eq_false]; exact ⟨zs[k], List.getElem_mem h, by simp [hp]⟩
end Go.Proofs.Ytdjcifeoplgkpaa
