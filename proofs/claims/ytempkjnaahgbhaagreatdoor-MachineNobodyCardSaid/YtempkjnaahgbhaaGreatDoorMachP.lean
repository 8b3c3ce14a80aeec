/-
  The plain side of a machine: commands, which may be, what comes of one, their bytes. No condition.
-/
import Derived.Test.YtempkjnaahgbhaaGreatDoorSessP
import Derived.Test.YtempkjnaahgbhaaGreatDoorStoreA
namespace Go.Proofs.YtempkjnaahgbhaaGreatDoor
open Go.RowKit

/-- Is a voter right at its place? -/
def vB (l : List Int) (k : Nat) : Bool := decide (0 ≤ l.getD k 0) && decide (l.getD k 0 < 7) && (decide (k = 0) || decide (l.getD (k - 1) 0 < l.getD k 0))
def goodV (l : List Int) : Bool := (List.range l.length).all (vB l)
def okV (l : List Int) : Bool := decide (0 < l.length) && goodV l
/-- A command. -/
structure Cm where
  ki : Int
  se : Int
  sq : Int
  at_ : Int
  sp : List Sp
  vo : List Int
def atM (k : Int) : Int := if k = 3 then 1099511627776 else if k = 4 then 1099511627777 else 0
def numB (c : Cm) : Bool := if c.ki = 2 then decide (1 ≤ c.se) && decide (c.se ≤ 1099511627776) && decide (1 ≤ c.sq) && decide (c.sq ≤ 1099511627776) else decide (c.se = 0) && decide (c.sq = 0)
def fieldsB (c : Cm) : Bool := decide (0 ≤ c.ki ∧ c.ki ≤ 5) && numB c && decide (0 ≤ c.at_) && decide (c.at_ ≤ atM c.ki) && (decide (c.ki = 2) == decide (0 < c.sp.length)) && (decide (c.ki = 5) == decide (0 < c.vo.length))
/-- May a command be? -/
def Cm.ok (c : Cm) : Bool := fieldsB c && decide (c.sp.length ≤ 8) && c.sp.all Sp.ok && (decide (c.ki ≠ 5) || okV c.vo)
def Cm.check (c : Cm) : Int := if c.ok then 0 else 90
def Cm.zero : Cm := ⟨0, 0, 0, 0, [], []⟩

theorem vB_all_succ (l : List Int) (k : Nat) : (List.range (k + 1)).all (vB l) = ((List.range k).all (vB l) && vB l k) := by
  rw [List.range_succ, List.all_append]; simp
theorem goodV_f {l : List Int} {k : Nat} (hk : k < l.length) (h : vB l k = false) : goodV l = false := by
  unfold goodV
  rw [List.all_eq_false]
  exact ⟨k, List.mem_range.2 hk, by rw [h]; simp⟩
theorem okV_f {l : List Int} {k : Nat} (hk : k < l.length) (h : vB l k = false) : okV l = false := by
  unfold okV; rw [goodV_f hk h, Bool.and_false]
theorem goodV_at {l : List Int} (h : goodV l = true) {k : Nat} (hk : k < l.length) : vB l k = true := List.all_eq_true.1 h k (List.mem_range.2 hk)
theorem goodV_low {l : List Int} (h : goodV l = true) : ∀ k, k < l.length → (k : Int) ≤ l.getD k 0 ∧ l.getD k 0 < 7 := by
  intro k
  induction k with
  | zero =>
    intro hk
    have h1 := goodV_at h hk
    unfold vB at h1
    simp only [Bool.and_eq_true, decide_eq_true_eq] at h1
    exact ⟨h1.1.1, h1.1.2⟩
  | succ k ih =>
    intro hk
    have h1 := goodV_at h hk
    unfold vB at h1
    simp only [Bool.and_eq_true, decide_eq_true_eq, Bool.or_eq_true, Nat.add_sub_cancel] at h1
    have h2 := ih (by omega)
    obtain ⟨⟨_, h3⟩, h4⟩ := h1
    rcases h4 with h4 | h4
    · omega
    · exact ⟨by omega, h3⟩
theorem goodV_len {l : List Int} (h : goodV l = true) : l.length ≤ 7 := by
  refine Classical.byContradiction fun hn => ?_
  have := goodV_low h 7 (by omega)
  omega
theorem okV_len {l : List Int} (h : okV l = true) : 1 ≤ l.length ∧ l.length ≤ 7 := by
  unfold okV at h
  simp only [Bool.and_eq_true, decide_eq_true_eq] at h
  exact ⟨h.1, goodV_len h.2⟩
theorem okV_mem {l : List Int} (h : okV l = true) {n : Int} (hn : n ∈ l) : 0 ≤ n ∧ n < 7 := by
  unfold okV at h
  simp only [Bool.and_eq_true, decide_eq_true_eq] at h
  obtain ⟨k, hk, rfl⟩ := List.getElem_of_mem hn
  have h1 := goodV_low h.2 k hk
  rw [List.getD_eq_getElem?_getD, List.getElem?_eq_getElem hk, Option.getD_some] at h1
  omega
end Go.Proofs.YtempkjnaahgbhaaGreatDoor
