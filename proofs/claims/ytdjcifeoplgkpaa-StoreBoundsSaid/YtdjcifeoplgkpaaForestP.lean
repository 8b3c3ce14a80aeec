/-
  The plain side of a forest: spans as they came, what comes of one more, who names whom as its parent. No condition.
-/
import Derived.Test.YtdjcifeoplgkpaaSorted
namespace Go.Proofs.Ytdjcifeoplgkpaa
open Go.RowKit

instance : DecidableEq Sp := fun a b => decidable_of_iff (a.cmp b = 0) cmp_zero
/-- The span with a number. -/
def atS (L : List Sp) (x : Int) : Option Sp := L.find? fun s => decide (s.id = x)
def getS (L : List Sp) (x : Int) : Sp := (atS L x).getD default
/-- The numbers of those that name x as their parent. -/
def kids (L : List Sp) (x : Int) : List Sp := L.filter fun s => decide (s.pa = x)
def kidIds (L : List Sp) (x : Int) : List Int := (kids L x).map Sp.id
/-- Does one stand above another one, or is it that? -/
def aboveN (L : List Sp) : Nat → Int → Int → Bool
  | 0, _, _ => false
  | n + 1, id, who => if id = who then true else match atS L id with
    | none => false
    | some s => aboveN L n s.pa who
def aboveB (L : List Sp) (id who : Int) : Bool := aboveN L (L.length + 1) id who

theorem atS_some {L : List Sp} {x : Int} {s : Sp} (h : atS L x = some s) : s ∈ L ∧ s.id = x := by
  have h1 := List.find?_some h
  exact ⟨List.mem_of_find?_eq_some h, by simpa using h1⟩
theorem atS_none {L : List Sp} {x : Int} (h : atS L x = none) : ∀ s ∈ L, s.id ≠ x := by
  intro s hs he
  have := List.find?_eq_none.1 h s hs
  simp [he] at this
theorem atS_mem {L : List Sp} (hn : (L.map Sp.id).Nodup) {s : Sp} (hs : s ∈ L) : atS L s.id = some s := by
  induction L with
  | nil => simp at hs
  | cons a L ih =>
    rw [List.map_cons, List.nodup_cons] at hn
    unfold atS
    rw [List.find?_cons]
    by_cases h : a.id = s.id
    · rw [decide_eq_true h]
      rcases List.mem_cons.1 hs with rfl | hs
      · rfl
      · exact absurd (List.mem_map.2 ⟨s, hs, h.symm⟩) hn.1
    · rw [decide_eq_false h]
      rcases List.mem_cons.1 hs with rfl | hs
      · exact absurd rfl h
      · exact ih hn.2 hs
theorem atS_snoc (L : List Sp) (s : Sp) (x : Int) : atS (L ++ [s]) x = (atS L x).or (if s.id = x then some s else none) := by
  unfold atS
  rw [List.find?_append]
  congr 1
  by_cases h : s.id = x <;> simp [h]
theorem kids_snoc (L : List Sp) (s : Sp) (x : Int) : kids (L ++ [s]) x = kids L x ++ (if s.pa = x then [s] else []) := by
  unfold kids
  rw [List.filter_append]
  congr 1
  by_cases h : s.pa = x <;> simp [h]

/-- How many came to what. -/
structure Cnt where
  ad : Nat
  sa : Nat
  ot : Nat
  cy : Nat
  fu : Nat
def Cnt.zero : Cnt := ⟨0, 0, 0, 0, 0⟩
abbrev Cnt.val (c : Cnt) : Value := .agg #[.int .i64 c.ad, .int .i64 c.sa, .int .i64 c.ot, .int .i64 c.cy, .int .i64 c.fu]
def Cnt.sum (c : Cnt) : Nat := c.ad + c.sa + c.ot + c.cy + c.fu
/-- What comes of one more. -/
def addS (st : List Sp × Cnt) (s : Sp) : List Sp × Cnt :=
  match atS st.1 s.id with
  | some o => if o = s then (st.1, { st.2 with sa := st.2.sa + 1 }) else (st.1, { st.2 with ot := st.2.ot + 1 })
  | none => if 64 ≤ st.1.length then (st.1, { st.2 with fu := st.2.fu + 1 }) else if aboveB st.1 s.pa s.id then (st.1, { st.2 with cy := st.2.cy + 1 }) else (st.1 ++ [s], { st.2 with ad := st.2.ad + 1 })
def addL (st : List Sp × Cnt) (l : List Sp) : List Sp × Cnt := l.foldl addS st
def fits (tr : Int) (s : Sp) : Bool := s.ok && decide (s.tr = tr)
theorem addS_sum (st : List Sp × Cnt) (s : Sp) : (addS st s).2.sum = st.2.sum + 1 := by
  unfold addS
  split
  · split <;> simp only [Cnt.sum] <;> omega
  · split
    · simp only [Cnt.sum]; omega
    · split <;> simp only [Cnt.sum] <;> omega
theorem addL_snoc (st : List Sp × Cnt) (l : List Sp) (s : Sp) : addL st (l ++ [s]) = addS (addL st l) s := by simp [addL, List.foldl_append]
theorem addL_sum (st : List Sp × Cnt) (l : List Sp) : (addL st l).2.sum = st.2.sum + l.length := by
  induction l generalizing st with
  | nil => rfl
  | cons s l ih => show (addL (addS st s) l).2.sum = _; rw [ih, addS_sum, List.length_cons]; omega
theorem addL_app (st : List Sp × Cnt) (l m : List Sp) : addL st (l ++ m) = addL (addL st l) m := by simp [addL, List.foldl_append]
/-- What Add answers, and what there is behind it. -/
def addA (tr : Int) (L l : List Sp) : List Sp × Cnt × Int := if l.all (fits tr) then ((addL (L, Cnt.zero) l).1, (addL (L, Cnt.zero) l).2, 0) else (L, Cnt.zero, 30)

/-- The spans of a forest, as they came. -/
inductive Grown (tr : Int) : List Sp → Prop
  | nil : Grown tr []
  | snoc {L : List Sp} {s : Sp} (h : Grown tr L) (hf : fits tr s = true) (hn : atS L s.id = none) (hl : L.length < 64) (ha : aboveB L s.pa s.id = false) : Grown tr (L ++ [s])
theorem Grown.addS {tr : Int} {L : List Sp} (h : Grown tr L) {s : Sp} (hf : fits tr s = true) (c : Cnt) : Grown tr (addS (L, c) s).1 := by
  unfold Go.Proofs.Ytdjcifeoplgkpaa.addS
  split
  · split <;> exact h
  · rename_i hn
    by_cases h1 : 64 ≤ L.length
    · simp only [h1, if_true]; exact h
    · simp only [h1, if_false]
      cases h2 : aboveB L s.pa s.id
      · simp only [Bool.false_eq_true, if_false]
        exact .snoc h hf hn (by omega) h2
      · simp only [if_true]; exact h
theorem Grown.len {tr : Int} {L : List Sp} (h : Grown tr L) : L.length ≤ 64 := by
  cases h with
  | nil => simp
  | snoc h _ _ hl _ => simp; omega
theorem Grown.nodup {tr : Int} {L : List Sp} (h : Grown tr L) : (L.map Sp.id).Nodup := by
  induction h with
  | nil => simp
  | snoc h hf hn hl ha ih =>
    rw [List.map_append, List.nodup_append]
    refine ⟨ih, by simp, ?_⟩
    intro a ha b hb
    obtain ⟨s, hs, rfl⟩ := List.mem_map.1 ha
    simp only [List.map_cons, List.map_nil, List.mem_singleton] at hb
    rw [hb]
    exact atS_none hn s hs
theorem Grown.fits {tr : Int} {L : List Sp} (h : Grown tr L) : ∀ s ∈ L, fits tr s = true := by
  induction h with
  | nil => simp
  | snoc h hf hn hl ha ih =>
    intro s hs
    rcases List.mem_append.1 hs with hs | hs
    · exact ih s hs
    · obtain rfl := List.mem_singleton.1 hs; exact hf
theorem fits_ok {tr : Int} {s : Sp} (h : fits tr s = true) : s.ok = true ∧ s.tr = tr := by simpa [fits] using h
theorem ok_bounds {s : Sp} (h : s.ok = true) : 1 ≤ s.id ∧ s.id ≤ 1099511627776 ∧ 0 ≤ s.pa ∧ s.pa ≤ 1099511627776 ∧ s.pa ≠ s.id ∧ s.nm.size ≤ 32 := by
  simp only [Sp.ok, Bool.and_eq_true, decide_eq_true_eq, allIn, List.all_cons, List.all_nil, inB_iff] at h
  omega
theorem ok_more {s : Sp} (h : s.ok = true) : 1 ≤ s.tr ∧ s.tr ≤ 1099511627776 ∧ 0 ≤ s.st ∧ s.st ≤ s.en ∧ s.en ≤ 1099511627776 ∧ 1 ≤ s.nm.size := by
  simp only [Sp.ok, Bool.and_eq_true, decide_eq_true_eq, allIn, List.all_cons, List.all_nil, inB_iff] at h
  omega
end Go.Proofs.Ytdjcifeoplgkpaa
