/-
  The plain side of a machine: what an entry does and answers. No condition.
-/
import Derived.Test.YtempkjnaahgbhaaGreatDoorMachG
import Derived.Test.YtempkjnaahgbhaaGreatDoorSessK
import Derived.Test.YtempkjnaahgbhaaGreatDoorEnD
namespace Go.Proofs.YtempkjnaahgbhaaGreatDoor
open Go.RowKit

/-- A machine. -/
structure Ma where
  T : List Tr
  L : List Se
  ix : Int
  te : Int
  vo : List Int
def Ma.new (vo : List Int) : Ma := ⟨[], [], 0, 0, vo⟩
def Rp.err (e : Int) : Rp := ⟨e, 0, 0, 0, 0, 0, 0, 0⟩
def Rp.cnt (r : Rp) (c : Cnt) : Rp := { r with ad := c.ad, sa := c.sa, ot := c.ot, cy := c.cy, fu := c.fu }
/-- What ingest does; an error, or none. -/
def ingM (M : Ma) (c : Cm) : Ma × Rp × Option Int :=
  let a := askS M.L c.se c.sq
  if a.2.2 ≠ 0 then (M, Rp.zero, some a.2.2)
  else if a.2.1 = true then (M, a.1, none)
  else
    let g := ingA M.T c.sp
    let r := a.1.cnt g.2.1
    ({ M with T := g.1, L := (keepS M.L c.se c.sq M.ix r).1 }, r, none)
/-- What a command does. -/
def doM (M : Ma) (c : Cm) : Ma × Rp × Option Int :=
  if c.ki = 1 then
    let o := opnS M.L M.ix
    if o.2 ≠ 0 then ({ M with L := o.1 }, Rp.zero, some o.2) else ({ M with L := o.1 }, { Rp.zero with ss := M.ix }, none)
  else if c.ki = 2 then ingM M c
  else if c.ki = 3 then ({ M with L := expS M.L c.at_ }, { Rp.zero with gn := (M.L.length : Int) - ((expS M.L c.at_).length : Int) }, none)
  else if c.ki = 4 then ({ M with T := retT M.T c.at_ }, { Rp.zero with gn := (M.T.length : Int) - ((retT M.T c.at_).length : Int) }, none)
  else if c.ki = 5 then ({ M with vo := c.vo }, Rp.zero, none)
  else (M, Rp.zero, none)
/-- What an entry does; 51: it is not the next one. -/
def applyM (M : Ma) (e : En) : Ma × Rp × Int :=
  if e.ix ≠ M.ix + 1 ∨ 1099511627776 < e.ix ∨ e.te < max M.te 1 ∨ 1099511627776 < e.te then (M, Rp.zero, 51)
  else match cmGet e.da with
    | none => ({ M with ix := e.ix, te := e.te }, Rp.err 90, 0)
    | some c =>
      let r := doM { M with ix := e.ix, te := e.te } c
      (r.1, (match r.2.2 with
        | none => r.2.1
        | some x => Rp.err x), 0)
structure GrM (M : Ma) : Prop where
  t : GrT M.T
  l : GrS M.L
  i0 : 0 ≤ M.ix
  i1 : M.ix ≤ 1099511627776
  t0 : 0 ≤ M.te
  t1 : M.te ≤ 1099511627776
  v : okV M.vo = true
theorem GrM.new {vo : List Int} (h : okV vo = true) : GrM (Ma.new vo) := ⟨GrT.nil, GrS.nil, by simp [Ma.new], by simp [Ma.new], by simp [Ma.new], by simp [Ma.new], h⟩
theorem Cm.ok_parts {c : Cm} (h : c.ok = true) : fieldsB c = true ∧ c.sp.length ≤ 8 ∧ c.sp.all Sp.ok = true ∧ (c.ki = 5 → okV c.vo = true) := by
  unfold Cm.ok at h
  simp only [Bool.and_eq_true, Bool.or_eq_true, decide_eq_true_eq] at h
  obtain ⟨⟨⟨h1, h2⟩, h3⟩, h4⟩ := h
  refine ⟨h1, h2, h3, fun h5 => ?_⟩
  rcases h4 with h4 | h4
  · exact absurd h5 h4
  · exact h4
theorem GrM.ing {M : Ma} (h : GrM M) (c : Cm) : GrM (ingM M c).1 := by
  unfold ingM
  dsimp only
  by_cases h1 : (askS M.L c.se c.sq).2.2 ≠ 0
  · rw [if_pos h1]; exact h
  · rw [if_neg h1]
    by_cases h2 : (askS M.L c.se c.sq).2.1 = true
    · rw [if_pos h2]; exact h
    · rw [if_neg h2]; exact ⟨h.t.ingA _, h.l.keep _ _ _ _, h.i0, h.i1, h.t0, h.t1, h.v⟩
theorem GrM.do_ {M : Ma} (h : GrM M) {c : Cm} (hc : c.ok = true) : GrM (doM M c).1 := by
  unfold doM
  dsimp only
  by_cases h1 : c.ki = 1
  · rw [if_pos h1]
    by_cases ho : (opnS M.L M.ix).2 ≠ 0
    · rw [if_pos ho]; exact ⟨h.t, h.l.opn _, h.i0, h.i1, h.t0, h.t1, h.v⟩
    · rw [if_neg ho]; exact ⟨h.t, h.l.opn _, h.i0, h.i1, h.t0, h.t1, h.v⟩
  rw [if_neg h1]
  by_cases h2 : c.ki = 2
  · rw [if_pos h2]; exact h.ing c
  rw [if_neg h2]
  by_cases h3 : c.ki = 3
  · rw [if_pos h3]; exact ⟨h.t, h.l.exp _, h.i0, h.i1, h.t0, h.t1, h.v⟩
  rw [if_neg h3]
  by_cases h4 : c.ki = 4
  · rw [if_pos h4]; exact ⟨h.t.ret _, h.l, h.i0, h.i1, h.t0, h.t1, h.v⟩
  rw [if_neg h4]
  by_cases h5 : c.ki = 5
  · rw [if_pos h5]; exact ⟨h.t, h.l, h.i0, h.i1, h.t0, h.t1, (Cm.ok_parts hc).2.2.2 h5⟩
  rw [if_neg h5]; exact h
theorem cmGet_ok {l : List UInt8} {c : Cm} (h : cmGet l = some c) : c.ok = true := by
  unfold cmGet cmFin at h
  by_cases h1 : scEnd l (cmRead l).2.1 (cmRead l).2.2 = 0 ∧ (cmRead l).1.ok = true
  · rw [if_pos h1] at h; cases h; exact h1.2
  · rw [if_neg h1] at h; cases h
/-- Is it no next entry? -/
def badE (M : Ma) (e : En) : Prop := e.ix ≠ M.ix + 1 ∨ 1099511627776 < e.ix ∨ e.te < max M.te 1 ∨ 1099511627776 < e.te
theorem applyM_bad {M : Ma} {e : En} (h : badE M e) : applyM M e = (M, Rp.zero, 51) := if_pos h
theorem applyM_none {M : Ma} {e : En} (h : ¬ badE M e) (hc : cmGet e.da = none) : applyM M e = ({ M with ix := e.ix, te := e.te }, Rp.err 90, 0) := by
  unfold applyM
  refine (if_neg h).trans ?_
  rw [hc]
theorem applyM_some {M : Ma} {e : En} (h : ¬ badE M e) {c : Cm} (hc : cmGet e.da = some c) : applyM M e = ((doM { M with ix := e.ix, te := e.te } c).1, (match (doM { M with ix := e.ix, te := e.te } c).2.2 with
        | none => (doM { M with ix := e.ix, te := e.te } c).2.1
        | some x => Rp.err x), 0) := by
  unfold applyM
  refine (if_neg h).trans ?_
  rw [hc]
theorem GrM.at_ {M : Ma} (h : GrM M) {e : En} (he : ¬ badE M e) : GrM { M with ix := e.ix, te := e.te } := by
  unfold badE at he
  have h0 := h.i0
  have h1 := h.t0
  refine ⟨h.t, h.l, ?_, ?_, ?_, ?_, h.v⟩ <;> simp only <;> omega
theorem GrM.apply {M : Ma} (h : GrM M) (e : En) : GrM (applyM M e).1 := by
  by_cases hb : badE M e
  · rw [applyM_bad hb]; exact h
  · cases hc : cmGet e.da with
    | none => rw [applyM_none hb hc]; exact h.at_ hb
    | some c => rw [applyM_some hb hc]; exact (h.at_ hb).do_ (cmGet_ok hc)
end Go.Proofs.YtempkjnaahgbhaaGreatDoor
