/-
  The plain side of audit: what a log's entries answer, what explains a call, where it took effect, the first call that no order explains; what is found of views. No condition.
-/
import Derived.Test.YtempkjnaahgbhaaGreatDoorMachS
import Derived.Test.YtempkjnaahgbhaaGreatDoorEqBZ
namespace Go.Proofs.YtempkjnaahgbhaaGreatDoor
open Go.RowKit

/-- A command's bytes. -/
def cmEnc (c : Cm) : List UInt8 :=
  digits c.ki.toNat ++ (if c.ki = 2 then digits c.se.toNat ++ (digits c.sq.toNat ++ (digits (putEnc c.sp).length ++ putEnc c.sp))
    else if c.ki = 3 ∨ c.ki = 4 then digits c.at_.toNat else if c.ki = 5 then digits c.vo.length ++ encN c.vo else [])
def mputAns (c : Cm) : List UInt8 × Int := if c.ok then (cmEnc c, 0) else ([], 90)
/-- Entries, one behind the other, up to the first that is none: the machine, the replies, whether there was one that is none. -/
def stepR (q : Ma × List Rp × Bool) (e : En) : Ma × List Rp × Bool :=
  if q.2.2 = true then q else if (applyM q.1 e).2.2 ≠ 0 then (q.1, q.2.1, true) else ((applyM q.1 e).1, q.2.1 ++ [(applyM q.1 e).2.1], false)
def runF (M : Ma) (l : List En) : Ma × List Rp × Bool := l.foldl stepR (M, [], false)
/-- What a log's entries answer. -/
def replP (vo : List Int) (log : List En) : List Rp := if okV vo then (runF (Ma.new vo) log).2.1 else []
/-- The forest of a trace behind a log. -/
def stateP (vo : List Int) (log : List En) (x : Int) : List Br := if okV vo then lookT (runF (Ma.new vo) log).1.T x else []
/-- A call. -/
structure Cl where
  cl : Int
  c : Cm
  tr : Int
  be : Int
  en : Int
  ix : Int
  r : Rp
  fo : List BrZ
/-- Is a call explained? -/
def ExplP (vo : List Int) (log : List En) (rs : List Rp) (c : Cl) : Prop :=
  if c.c.ki = 0 then 0 ≤ c.ix ∧ c.ix ≤ rs.length ∧ c.r = Rp.zero ∧ (stateP vo (log.take c.ix.toNat) c.tr).map Br.z = c.fo
  else 1 ≤ c.ix ∧ c.ix ≤ rs.length ∧ c.fo = [] ∧ c.c.ok = true ∧ ∃ e x, log[c.ix.toNat - 1]? = some e ∧ rs[c.ix.toNat - 1]? = some x ∧ cmEnc c.c = e.da ∧ c.r = x
/-- Is an entry the ingest of a call's session and number? -/
def hitP (c : Cl) (e : En) : Bool := match cmGet e.da with
  | some x => decide (x.ki = 2) && decide (x.se = c.c.se) && decide (x.sq = c.c.sq)
  | none => false
def firstL (c : Cl) : List En → Nat → Int
  | [], _ => c.ix
  | e :: l, i => if hitP c e then (i : Int) + 1 else firstL c l (i + 1)
/-- Where a call took effect first. -/
def firstP (log : List En) (c : Cl) : Int := if c.c.ki = 2 then firstL c log 0 else c.ix
/-- Did a call take effect behind all that ended ahead of its beginning? -/
def BehP (log : List En) (l : List Cl) (c : Cl) : Prop := ∀ b ∈ l, b.en ≠ 0 → b.en < c.be → ¬ (firstP log c < b.ix ∨ (firstP log c = b.ix ∧ c.c.ki ≠ 0))
/-- Can a call not be? -/
def WrongP (vo : List Int) (log : List En) (l : List Cl) (c : Cl) : Prop := c.en ≠ 0 ∧ (c.en < c.be ∨ ¬ ExplP vo log (replP vo log) c ∨ ¬ BehP log l c)
/-- z is the place of the first call that can't be; -1: there is none. -/
def LinP (vo : List Int) (log : List En) (l : List Cl) (z : Int) : Prop :=
  (z = -1 ∧ ∀ c ∈ l, ¬ WrongP vo log l c) ∨ ∃ (k : Nat) (h : k < l.length), z = k ∧ WrongP vo log l l[k] ∧ ∀ j, (hj : j < k) → ¬ WrongP vo log l (l[j]'(Nat.lt_trans hj h))

theorem runF_snoc (M : Ma) (l : List En) (e : En) : runF M (l ++ [e]) = stepR (runF M l) e := by simp [runF, List.foldl_append]
theorem runF_take (M : Ma) (l : List En) (k : Nat) (h : k < l.length) : runF M (l.take (k + 1)) = stepR (runF M (l.take k)) l[k] := by
  rw [List.take_succ_eq_append_getElem h, runF_snoc]
theorem stepR_done {q : Ma × List Rp × Bool} (h : q.2.2 = true) (e : En) : stepR q e = q := by unfold stepR; rw [if_pos h]
theorem fold_done (l : List En) : ∀ {q : Ma × List Rp × Bool}, q.2.2 = true → l.foldl stepR q = q := by
  induction l with
  | nil => intro q _; rfl
  | cons e l ih => intro q h; rw [List.foldl_cons, stepR_done h]; exact ih h
theorem runF_stop {M : Ma} {l : List En} {k : Nat} (h : (runF M (l.take k)).2.2 = true) : runF M l = runF M (l.take k) := by
  have e : runF M l = (l.drop k).foldl stepR (runF M (l.take k)) := by
    conv => lhs; rw [← List.take_append_drop k l]
    rw [runF, List.foldl_append]; rfl
  rw [e, fold_done _ h]
theorem stepR_go {q : Ma × List Rp × Bool} (h : q.2.2 = false) {e : En} (he : (applyM q.1 e).2.2 = 0) : stepR q e = ((applyM q.1 e).1, q.2.1 ++ [(applyM q.1 e).2.1], false) := by
  unfold stepR; rw [if_neg (by rw [h]; exact Bool.false_ne_true), if_neg (by simpa using he)]
theorem stepR_no {q : Ma × List Rp × Bool} (h : q.2.2 = false) {e : En} (he : (applyM q.1 e).2.2 ≠ 0) : stepR q e = (q.1, q.2.1, true) := by
  unfold stepR; rw [if_neg (by rw [h]; exact Bool.false_ne_true), if_pos he]
theorem GrM.step {q : Ma × List Rp × Bool} (h : GrM q.1) (e : En) : GrM (stepR q e).1 := by
  unfold stepR
  by_cases h1 : q.2.2 = true
  · rw [if_pos h1]; exact h
  · rw [if_neg h1]
    by_cases h2 : (applyM q.1 e).2.2 ≠ 0
    · rw [if_pos h2]; exact h
    · rw [if_neg h2]; exact h.apply e
theorem GrM.run {M : Ma} (h : GrM M) (l : List En) : GrM (runF M l).1 := by
  unfold runF
  have key : ∀ (l : List En) (q : Ma × List Rp × Bool), GrM q.1 → GrM (l.foldl stepR q).1 := by
    intro l
    induction l with
    | nil => intro q h; exact h
    | cons e l ih => intro q h; exact ih _ (h.step e)
  exact key l _ h
theorem runF_len (M : Ma) (l : List En) : (runF M l).2.1.length ≤ l.length ∧ ((runF M l).2.2 = false → (runF M l).2.1.length = l.length) := by
  have key : ∀ (l : List En) (q : Ma × List Rp × Bool), (l.foldl stepR q).2.1.length ≤ q.2.1.length + l.length ∧ ((l.foldl stepR q).2.2 = false → (l.foldl stepR q).2.1.length = q.2.1.length + l.length) := by
    intro l
    induction l with
    | nil => intro q; exact ⟨Nat.le_refl _, fun _ => rfl⟩
    | cons e l ih =>
      intro q
      rw [List.foldl_cons, List.length_cons]
      by_cases h1 : q.2.2 = true
      · rw [stepR_done h1, fold_done l h1]
        exact ⟨by omega, fun h => by rw [h1] at h; cases h⟩
      · have h1 : q.2.2 = false := by simpa using h1
        have := ih (stepR q e)
        by_cases h2 : (applyM q.1 e).2.2 = 0
        · rw [stepR_go h1 h2] at this ⊢
          simp only [List.length_append, List.length_cons, List.length_nil] at this
          exact ⟨by omega, fun h => by have := this.2 h; omega⟩
        · rw [stepR_no h1 h2] at this ⊢
          rw [fold_done l rfl] at this ⊢
          exact ⟨by simp only; omega, fun h => by cases h⟩
  have := key l (M, [], false)
  simpa [runF] using this
/-- The replies of a log's first entries are the first of its replies. -/
theorem runF_front (M : Ma) (l : List En) (k : Nat) : (runF M (l.take k)).2.1 = (runF M l).2.1.take k := by
  have key : ∀ (b : List En) (q : Ma × List Rp × Bool), ∃ rs, (b.foldl stepR q).2.1 = q.2.1 ++ rs := by
    intro b
    induction b with
    | nil => intro q; exact ⟨[], by simp⟩
    | cons e b ih =>
      intro q
      obtain ⟨rs, h⟩ := ih (stepR q e)
      rw [List.foldl_cons, h]
      by_cases h1 : q.2.2 = true
      · rw [stepR_done h1]; exact ⟨rs, rfl⟩
      · have h1 : q.2.2 = false := by simpa using h1
        by_cases h2 : (applyM q.1 e).2.2 = 0
        · rw [stepR_go h1 h2]; exact ⟨(applyM q.1 e).2.1 :: rs, by simp⟩
        · rw [stepR_no h1 h2]; exact ⟨rs, rfl⟩
  have e : runF M l = (l.drop k).foldl stepR (runF M (l.take k)) := by
    conv => lhs; rw [← List.take_append_drop k l]
    rw [runF, List.foldl_append]; rfl
  obtain ⟨hle, heq⟩ := runF_len M (l.take k)
  have hst := @runF_stop M l k
  rw [List.length_take] at hle heq
  generalize runF M (l.take k) = X at *
  cases hd : X.2.2 with
  | true =>
    rw [hst hd, List.take_of_length_le (by omega)]
  | false =>
    obtain ⟨rs, hr⟩ := key (l.drop k) X
    have hl := heq hd
    rw [e, hr]
    by_cases hk : k ≤ l.length
    · rw [List.take_append_of_le_length (by omega), List.take_of_length_le (by omega)]
    · have : l.drop k = [] := List.drop_eq_nil_of_le (by omega)
      rw [this] at hr
      have hrs : rs = [] := by
        have := congrArg List.length hr
        simp at this
        exact this
      rw [hrs, List.append_nil, List.take_of_length_le (by omega)]
theorem replP_len (vo : List Int) (log : List En) : (replP vo log).length ≤ log.length := by
  unfold replP
  by_cases h : okV vo
  · rw [if_pos h]; exact (runF_len _ _).1
  · rw [if_neg h]; exact Nat.zero_le _
theorem replP_front (vo : List Int) (log : List En) (k : Nat) : replP vo (log.take k) = (replP vo log).take k := by
  unfold replP
  by_cases h : okV vo
  · rw [if_pos h, if_pos h]; exact runF_front _ _ _
  · rw [if_neg h, if_neg h]; simp
theorem firstL_at {c : Cl} {log : List En} {e : En} (i : Nat) {k : Nat} (hk : k < log.length) (hh : ∀ j, (h : j < k) → hitP c (log[j]'(Nat.lt_trans h hk)) = false) (he : log[k] = e) (hx : hitP c e = true) : firstL c log i = (i : Int) + k + 1 := by
  induction log generalizing i k with
  | nil => simp at hk
  | cons a log ih =>
    cases k with
    | zero => simp only [List.getElem_cons_zero] at he; subst he; rw [firstL, if_pos hx]; simp
    | succ k =>
      have h0 := hh 0 (by omega)
      simp only [List.getElem_cons_zero] at h0
      rw [firstL, if_neg (by rw [h0]; exact Bool.false_ne_true), ih (i + 1) (k := k) (by simpa using hk) (fun j hj => by have := hh (j + 1) (by omega); simpa using this) (by simpa using he)]
      omega
theorem firstL_none {c : Cl} {log : List En} (i : Nat) (hh : ∀ e ∈ log, hitP c e = false) : firstL c log i = c.ix := by
  induction log generalizing i with
  | nil => rfl
  | cons a log ih => rw [firstL, if_neg (by rw [hh a (by simp)]; exact Bool.false_ne_true), ih (i + 1) (fun e he => hh e (by simp [he]))]
end Go.Proofs.YtempkjnaahgbhaaGreatDoor
