/-
  Regions that draw their order, walked once in an order of the prover's choice: operations that yield the same value in every world of a class may be taken first; another one where nothing else may come up. No condition: plain lemmas over the library's own.
  Regions that draw their order, where two operations may come up at one place: what yields one value in every world of a class is taken first; then either of the two, and the rest behind it. No condition: plain lemmas over the library's own.
  Regions that draw their order, where two operations may come up at several places, and whose last operation may leave the class of worlds: a plan that forks. No condition: plain lemmas over the library's own.
-/
import Derived.Test.YtempkjnaahgbhaaGreatDoorBase
import Derived.OrdersHeld
import Derived.Deep.RegionHeld3
namespace Go.Proofs.YtempkjnaahgbhaaGreatDoor
open Go Go.RowKit

section
variable {P : Program} {ops : Array Oper} {Q : Exit → Act → World → Prop} {C : World → Prop}

/-- The walk: each operation by its number; with 'true': it yields one value in every world of the class. -/
def wpSched (P : Program) (ops : Array Oper) (Q : Exit → Act → World → Prop) (C : World → Prop) : List (Nat × Bool) → Act → World → Prop
  | [], a, w => Q .normal a w
  | (i, p) :: rest, a, w =>
    match ops[i]? with
    | none => False
    | some o =>
      if Region.wanted o (yielded ops a.tmps) then
        (if p then ∃ v, (∀ W, C W → (execOp a.eval o).run P W = .ok (.value v) W) ∧ wpSched P ops Q C rest (a.put o.dst v) w
         else o.wp P a w (fun a' w' => C w' ∧ wpSched P ops Q C rest a' w') Q)
      else wpSched P ops Q C rest (a.put o.dst undef) w

/-- May they come up so? -/
def schedB (ops : Array Oper) : List (Nat × Bool) → Array Bool → Bool
  | [], listed => (Region.ready .any ops listed).isEmpty
  | (i, p) :: rest, listed => (if p then (Region.ready .any ops listed).contains i && Region.free .any ops listed i else Region.ready .any ops listed == [i]) && schedB ops rest (listed.setIfInBounds i true)

theorem wpAnyH_sched (hs : Region.noSelect ops = true) (hQ : ∀ (c : _) (d : Option Tmp) (v : Value) a w, Q (.panic c) (a.put d v) w → Q (.panic c) a w) :
    ∀ (l : List (Nat × Bool)) (listed : Array Bool) (a : Act) (w : World), schedB ops l listed = true → C w → wpSched P ops Q C l a w → wpAnyH P .any ops Q C l.length listed a w := by
  intro l
  induction l with
  | nil => intro listed a w hB _ h; exact ⟨by simpa [schedB] using hB, h⟩
  | cons x rest ih =>
    obtain ⟨i, p⟩ := x
    intro listed a w hB hC h
    simp only [schedB, Bool.and_eq_true] at hB
    obtain ⟨hB1, hB2⟩ := hB
    simp only [wpSched] at h
    cases ho : ops[i]? with
    | none => simp only [ho] at h
    | some o =>
      simp only [ho] at h
      cases p with
      | true =>
        simp only [if_true, Bool.and_eq_true] at hB1
        refine wpAnyH_take ho hs hB1.2 hB1.1 (v := ?v) (fun c a w h => hQ c _ _ a w h) ?y hC ?k
        case v => exact if hw : Region.wanted o (yielded ops a.tmps) = true then (by rw [if_pos hw] at h; simp only [if_true] at h; exact h.choose) else undef
        case y =>
          by_cases hw : Region.wanted o (yielded ops a.tmps) = true
          · rw [dif_pos hw]
            refine .inl ⟨hw, ?_⟩
            have h' := h
            rw [if_pos hw] at h'
            simp only [if_true] at h'
            exact h'.choose_spec.1
          · rw [dif_neg hw]
            exact .inr ⟨by simpa using hw, rfl⟩
        case k =>
          by_cases hw : Region.wanted o (yielded ops a.tmps) = true
          · rw [dif_pos hw]
            have h' := h
            rw [if_pos hw] at h'
            simp only [if_true] at h'
            exact ih _ _ _ hB2 hC h'.choose_spec.2
          · rw [dif_neg hw]
            rw [if_neg hw] at h
            exact ih _ _ _ hB2 hC h
      | false =>
        have hr : Region.ready .any ops listed = [i] := by simpa using hB1
        refine wpAnyH_all hr (by simp) fun j hj => ?_
        obtain rfl : j = i := by simpa using hj
        unfold wpOp
        simp only [ho]
        by_cases hw : Region.wanted o (yielded ops a.tmps) = true
        · rw [if_pos hw]
          rw [if_pos hw] at h
          simp only [Bool.false_eq_true, if_false] at h
          exact .inl (Oper.wp_mono (fun a' w' ⟨h1, h2⟩ => ⟨h1, ih _ _ _ hB2 h1 h2⟩) h)
        · rw [if_neg hw]
          rw [if_neg hw] at h
          exact ⟨hC, ih _ _ _ hB2 hC h⟩

/-- A region that draws its order. -/
theorem wp_region_sched {id : Nat} {a : Act} {w : World} (l : List (Nat × Bool)) (C : World → Prop) (hm : P.follows .mixedOrders = true) (hs : Region.noSelect ops = true) (hl : l.length = ops.size) (hB : schedB ops l (Array.replicate ops.size false) = true)
    (hC : C w.drew) (h : wpSched P ops (NoPanic Q) C l a w.drew) : (Code.region id ops true).wp P Q a w := by
  refine wp_region_noPanic (wp_region_held (S := C) hm ?_)
  have := wpAnyH_sched (P := P) (Q := NoPanic Q) hs (fun _ _ _ _ _ h => h) l (Array.replicate ops.size false) a w.drew hB hC h
  rw [hl] at this
  exact this

/-- Its steps. -/
theorem sched_nil {a : Act} {w : World} (h : Q .normal a w) : wpSched P ops (NoPanic Q) C [] a w := h
theorem sched_take {i : Nat} {rest : List (Nat × Bool)} {o : Oper} {a : Act} {w : World} (ho : ops[i]? = some o) (hw : Region.wanted o (yielded ops a.tmps) = true) {v : Value}
    (hv : ∀ W, C W → (execOp a.eval o).run P W = .ok (.value v) W) (h : ∀ K : Act → Prop, (∀ a, wpSched P ops Q C rest a w → K a) → K (a.put o.dst v)) :
    wpSched P ops Q C ((i, true) :: rest) a w := by
  have h := h (fun a => wpSched P ops Q C rest a w) (fun _ h => h)
  simp only [wpSched, ho, if_true]
  rw [if_pos hw]
  exact ⟨v, hv, h⟩
theorem sched_skip {i : Nat} {p : Bool} {rest : List (Nat × Bool)} {o : Oper} {a : Act} {w : World} (ho : ops[i]? = some o) (hw : Region.wanted o (yielded ops a.tmps) = false)
    (h : ∀ K : Act → Prop, (∀ a, wpSched P ops Q C rest a w → K a) → K (a.put o.dst undef)) : wpSched P ops Q C ((i, p) :: rest) a w := by
  have h := h (fun a => wpSched P ops Q C rest a w) (fun _ h => h)
  simp only [wpSched, ho]
  rw [if_neg (by rw [hw]; exact Bool.false_ne_true)]
  exact h
theorem sched_op {i : Nat} {rest : List (Nat × Bool)} {o : Oper} {a : Act} {w : World} (ho : ops[i]? = some o)
    (h : ∀ K : Act → World → Prop, (∀ a w, (C w ∧ wpSched P ops Q C rest a w) → K a w) → if Region.wanted o (yielded ops a.tmps) then o.wp P a w K Q else K (a.put o.dst undef) w) :
    wpSched P ops Q C ((i, false) :: rest) a w := by
  have h := h (fun a w => C w ∧ wpSched P ops Q C rest a w) (fun _ _ h => h)
  simp only [wpSched, ho, Bool.false_eq_true, if_false]
  by_cases hw : Region.wanted o (yielded ops a.tmps) = true
  · rw [if_pos hw] at h ⊢; exact h
  · rw [if_neg hw] at h ⊢; exact h.2
end
attribute [irreducible] wpSched
end Go.Proofs.YtempkjnaahgbhaaGreatDoor
namespace Go.Proofs.YtempkjnaahgbhaaGreatDoor
open Go Go.RowKit

section
variable {P : Program} {ops : Array Oper} {Q : Exit → Act → World → Prop} {C : World → Prop} {E : Act → World → Prop}

/-- Operations taken first, then E. -/
def wpTake (P : Program) (ops : Array Oper) (C : World → Prop) (E : Act → World → Prop) : List Nat → Act → World → Prop
  | [], a, w => E a w
  | i :: rest, a, w =>
    match ops[i]? with
    | none => False
    | some o =>
      if Region.wanted o (yielded ops a.tmps) then ∃ v, (∀ W, C W → (execOp a.eval o).run P W = .ok (.value v) W) ∧ wpTake P ops C E rest (a.put o.dst v) w
      else wpTake P ops C E rest (a.put o.dst undef) w
def takeB (ops : Array Oper) : List Nat → Array Bool → Bool
  | [], _ => true
  | i :: rest, listed => (Region.ready .any ops listed).contains i && Region.free .any ops listed i && takeB ops rest (listed.setIfInBounds i true)
def takenB : List Nat → Array Bool → Array Bool
  | [], listed => listed
  | i :: rest, listed => takenB rest (listed.setIfInBounds i true)

theorem wpAnyH_takeL (hs : Region.noSelect ops = true) (hQ : ∀ (c : _) (d : Option Tmp) (v : Value) a w, Q (.panic c) (a.put d v) w → Q (.panic c) a w) (m : Nat) :
    ∀ (l : List Nat) (listed : Array Bool) (a : Act) (w : World), takeB ops l listed = true → C w → (∀ a, E a w → wpAnyH P .any ops Q C m (takenB l listed) a w) → wpTake P ops C E l a w → wpAnyH P .any ops Q C (m + l.length) listed a w := by
  intro l
  induction l with
  | nil => intro listed a w _ _ hE h; exact hE a h
  | cons i rest ih =>
    intro listed a w hB hC hE h
    simp only [takeB, Bool.and_eq_true] at hB
    obtain ⟨⟨hB0, hB1⟩, hB2⟩ := hB
    simp only [wpTake] at h
    cases ho : ops[i]? with
    | none => simp only [ho] at h
    | some o =>
      simp only [ho] at h
      refine wpAnyH_take ho hs hB1 hB0 (v := ?v) (fun c a w h => hQ c _ _ a w h) ?y hC ?k
      case v => exact if hw : Region.wanted o (yielded ops a.tmps) = true then (by rw [if_pos hw] at h; exact h.choose) else undef
      case y =>
        by_cases hw : Region.wanted o (yielded ops a.tmps) = true
        · rw [dif_pos hw]
          refine .inl ⟨hw, ?_⟩
          have h' := h
          rw [if_pos hw] at h'
          exact h'.choose_spec.1
        · rw [dif_neg hw]
          exact .inr ⟨by simpa using hw, rfl⟩
      case k =>
        by_cases hw : Region.wanted o (yielded ops a.tmps) = true
        · rw [dif_pos hw]
          have h' := h
          rw [if_pos hw] at h'
          exact ih _ _ _ hB2 hC hE h'.choose_spec.2
        · rw [dif_neg hw]
          rw [if_neg hw] at h
          exact ih _ _ _ hB2 hC hE h

/-- One of those that may come up, and what is behind it. -/
theorem wpOp_sched (hs : Region.noSelect ops = true) (hQ : ∀ (c : _) (d : Option Tmp) (v : Value) a w, Q (.panic c) (a.put d v) w → Q (.panic c) a w) (i : Nat) (l : List (Nat × Bool)) (listed : Array Bool) (a : Act) (w : World) (hB : schedB ops l (listed.setIfInBounds i true) = true) (hC : C w)
    (h : wpSched P ops Q C ((i, false) :: l) a w) : wpOp P ops Q i (fun a' w' => C w' ∧ wpAnyH P .any ops Q C l.length (listed.setIfInBounds i true) a' w') a w := by
  unfold wpSched at h
  unfold wpOp
  cases ho : ops[i]? with
  | none => simp only [ho] at h
  | some o =>
    simp only [ho] at h ⊢
    by_cases hw : Region.wanted o (yielded ops a.tmps) = true
    · rw [if_pos hw]
      rw [if_pos hw] at h
      simp only [Bool.false_eq_true, if_false] at h
      exact .inl (Oper.wp_mono (fun a' w' ⟨h1, h2⟩ => ⟨h1, wpAnyH_sched hs hQ l _ _ _ hB h1 h2⟩) h)
    · rw [if_neg hw]
      rw [if_neg hw] at h
      exact ⟨hC, wpAnyH_sched hs hQ l _ _ _ hB hC h⟩

/-- A region that draws its order: some taken first, then either of two. -/
theorem wp_region_fork {id : Nat} {a : Act} {w : World} (l : List Nat) (i j : Nat) (l1 l2 : List (Nat × Bool)) (C : World → Prop) (hm : P.follows .mixedOrders = true) (hs : Region.noSelect ops = true) (hl : l1.length + 1 + l.length = ops.size) (hl2 : l2.length = l1.length)
    (hB : takeB ops l (Array.replicate ops.size false) = true) (hR : Region.ready .any ops (takenB l (Array.replicate ops.size false)) = [i, j])
    (hB1 : schedB ops l1 ((takenB l (Array.replicate ops.size false)).setIfInBounds i true) = true) (hB2 : schedB ops l2 ((takenB l (Array.replicate ops.size false)).setIfInBounds j true) = true)
    (hC : C w.drew) (h : wpTake P ops C (fun a w => wpSched P ops (NoPanic Q) C ((i, false) :: l1) a w ∧ wpSched P ops (NoPanic Q) C ((j, false) :: l2) a w) l a w.drew) : (Code.region id ops true).wp P Q a w := by
  refine wp_region_noPanic (wp_region_held (S := C) hm ?_)
  have hQ : ∀ (c : _) (d : Option Tmp) (v : Value) a w, NoPanic Q (.panic c) (a.put d v) w → NoPanic Q (.panic c) a w := fun _ _ _ _ _ h => h
  have := wpAnyH_takeL (P := P) (Q := NoPanic Q) (E := fun a w => wpSched P ops (NoPanic Q) C ((i, false) :: l1) a w ∧ wpSched P ops (NoPanic Q) C ((j, false) :: l2) a w) hs hQ (l1.length + 1) l (Array.replicate ops.size false) a w.drew hB hC (fun a ⟨h1, h2⟩ => by
    refine wpAnyH_all hR (by simp) fun x hx => ?_
    rcases List.mem_cons.1 hx with rfl | hx
    · exact wpOp_sched hs hQ _ _ _ _ _ hB1 hC h1
    · obtain rfl : x = j := by simpa using hx
      have := wpOp_sched hs hQ _ _ _ _ _ hB2 hC h2
      rwa [hl2] at this) h
  rw [hl] at this
  exact this

theorem take_nil {a : Act} {w : World} (h : E a w) : wpTake P ops C E [] a w := h
theorem take_one {i : Nat} {rest : List Nat} {o : Oper} {a : Act} {w : World} (ho : ops[i]? = some o) (hw : Region.wanted o (yielded ops a.tmps) = true) {v : Value}
    (hv : ∀ W, C W → (execOp a.eval o).run P W = .ok (.value v) W) (h : ∀ K : Act → Prop, (∀ a, wpTake P ops C E rest a w → K a) → K (a.put o.dst v)) :
    wpTake P ops C E (i :: rest) a w := by
  have h := h (fun a => wpTake P ops C E rest a w) (fun _ h => h)
  simp only [wpTake, ho]
  rw [if_pos hw]
  exact ⟨v, hv, h⟩
theorem take_skip {i : Nat} {rest : List Nat} {o : Oper} {a : Act} {w : World} (ho : ops[i]? = some o) (hw : Region.wanted o (yielded ops a.tmps) = false)
    (h : ∀ K : Act → Prop, (∀ a, wpTake P ops C E rest a w → K a) → K (a.put o.dst undef)) : wpTake P ops C E (i :: rest) a w := by
  have h := h (fun a => wpTake P ops C E rest a w) (fun _ h => h)
  simp only [wpTake, ho]
  rw [if_neg (by rw [hw]; exact Bool.false_ne_true)]
  exact h
/-- An operation whose run is known. -/
theorem sched_run {i : Nat} {rest : List (Nat × Bool)} {o : Oper} {a : Act} {w w' : World} {v : Value} (ho : ops[i]? = some o) (hw : Region.wanted o (yielded ops a.tmps) = true) (hrun : (execOp a.eval o).run P w = .ok (.value v) w') (hC : C w')
    (h : ∀ K : Act → Prop, (∀ a, wpSched P ops Q C rest a w' → K a) → K (a.put o.dst v)) : wpSched P ops Q C ((i, false) :: rest) a w := by
  have h := h (fun a => wpSched P ops Q C rest a w') (fun _ h => h)
  refine sched_op ho fun K hK => ?_
  rw [if_pos hw]
  unfold Oper.wp
  rw [hrun]
  exact hK _ _ ⟨hC, h⟩
theorem exec_app {o : Oper} {ρ : Operand → Value} {s x : Operand} {t : TypeId} {v1 v2 v : Value} {w w' : World} (ho : o.op = .call { callee := .builtin .append, args := #[s, x], argTypes := #[t, t] }) (hs : ρ s = v1) (hx : ρ x = v2)
    (hrun : (Builtin.append_ #[t, t] o.type #[v1, v2]).run P w = .ok v w') : (execOp ρ o).run P w = .ok (.value v) w' := by
  unfold execOp
  simp only [ho, resolve, invoke, builtin, Sem.run_bind, Sem.run_pure, Result.andThen_ok, List.map_toArray, List.map_cons, List.map_nil, hs, hx, hrun]
end
attribute [irreducible] wpTake
end Go.Proofs.YtempkjnaahgbhaaGreatDoor
namespace Go.Proofs.YtempkjnaahgbhaaGreatDoor
open Go Go.RowKit

section
variable {P : Program} {ops : Array Oper} {Q : Exit → Act → World → Prop} {C : World → Prop} {z : Nat}

/-- Whatever comes up: the class holds behind every operation but z. -/
def wpAnyE (P : Program) (ops : Array Oper) (Q : Exit → Act → World → Prop) (C : World → Prop) (z : Nat) : Nat → Array Bool → Act → World → Prop
  | 0, listed, a, w => Region.ready .any ops listed = [] ∧ Q .normal a w
  | n + 1, listed, a, w =>
    (Region.ready .any ops listed = [] → Q .normal a w) ∧
      ∀ i ∈ Region.ready .any ops listed, wpOp P ops Q i (fun a' w' => (i ≠ z → C w') ∧ wpAnyE P ops Q C z n (listed.setIfInBounds i true) a' w') a w
theorem wpAny_of_E : ∀ (n : Nat) (listed : Array Bool) (a : Act) (w : World), wpAnyE P ops Q C z n listed a w → wpAny P .any ops Q n listed a w
  | 0, _, _, _, h => h
  | n + 1, _, _, _, h => ⟨h.1, fun i hi => wpOp_mono (fun _ _ k => wpAny_of_E n _ _ _ k.2) (h.2 i hi)⟩
/-- Does z wait for i? -/
def waitsB (ops : Array Oper) (z i : Nat) : Bool := match ops[z]? with
  | none => true
  | some o => o.after.any fun e => Region.binds .any e && decide (e.on = i)
theorem not_last {i j : Nat} {listed : Array Bool} (hw : waitsB ops z i = true) (hi : i ∈ Region.ready .any ops listed) (hj : j ∈ Region.ready .any ops listed) : j ≠ z := by
  intro e
  subst e
  obtain ⟨_, oj, hoj, hall⟩ := mem_ready.1 hj
  unfold waitsB at hw
  rw [hoj] at hw
  obtain ⟨e, he, hb⟩ := Array.any_eq_true'.1 hw
  simp only [Bool.and_eq_true, decide_eq_true_eq] at hb
  have h1 := hall e he hb.1
  have h0 := (mem_ready.1 hi).1
  rw [hb.2] at h1
  rcases Nat.lt_or_ge i listed.size with h' | h'
  · simp [h'] at h0 h1; rw [h0] at h1; cases h1
  · simp [Array.getElem?_eq_none h'] at h1

theorem wpAnyE_first {i : Nat} {oi : Oper} {v : Value} (hi : ops[i]? = some oi) (hsel : ∀ (j : Nat) (o : Oper) cs b, ops[j]? = some o → o.op ≠ .select cs b)
    (hQ : ∀ c a w, Q (.panic c) (a.put oi.dst v) w → Q (.panic c) a w) (hz : waitsB ops z i = true) :
    ∀ (n : Nat) (listed : Array Bool) (a : Act) (w : World),
      (∀ j oj, ops[j]? = some oj → j ≠ i → listed.getD j true = false → (∀ e ∈ oj.after, Region.binds .any e = true → e.on ≠ i) → oi.apart ops oj = true) →
      i ∈ Region.ready .any ops listed → YieldsIf P ops C oi v a → C w →
      wpAnyE P ops Q C z n (listed.setIfInBounds i true) (a.put oi.dst v) w → wpAnyE P ops Q C z (n + 1) listed a w := by
  intro n
  induction n with
  | zero =>
    intro listed a w _ hr hy hC H
    refine ⟨fun h => absurd hr (by rw [h]; exact List.not_mem_nil), fun j hj => ?_⟩
    by_cases hji : j = i
    · rw [hji]; exact hy.wpOp hi hC ⟨fun _ => hC, H⟩
    · have h1 := ready_mono hj hji
      rw [H.1] at h1
      cases h1
  | succ n ih =>
    intro listed a w hfree hr hy hC H
    refine ⟨fun h => absurd hr (by rw [h]; exact List.not_mem_nil), fun j hj => ?_⟩
    by_cases hji : j = i
    · rw [hji]; exact hy.wpOp hi hC ⟨fun _ => hC, H⟩
    · have hjz := not_last hz hr hj
      obtain ⟨hjun, oj, hoj, hall⟩ := mem_ready.1 hj
      have hnot : ∀ e ∈ oj.after, Region.binds .any e = true → e.on ≠ i := fun e he hb heq => by
        have h1 := hall e he hb
        have h0 := (mem_ready.1 hr).1
        rw [heq] at h1
        rcases Nat.lt_or_ge i listed.size with h' | h'
        · simp [h'] at h0 h1; rw [h0] at h1; cases h1
        · simp [Array.getElem?_eq_none h'] at h1
      have h2 := wpOp_putIf hoj (hfree j oj hoj hji hjun hnot) (fun cs b => hsel i oi cs b hi) (fun cs b => hsel j oj cs b hoj) hQ hy (H.2 j (ready_mono hj hji))
      refine wpOp_mono (fun a' w' h3 => ?_) h2
      obtain ⟨g1, g2, g3⟩ := h3
      rw [Array.setIfInBounds_comm _ _ (Ne.symm hji)] at g3
      refine ⟨g2, ih (listed.setIfInBounds j true) a' w' (fun k ok hk hki hun hno => hfree k ok hk hki ?_ hno) (ready_mono hr (Ne.symm hji)) g1 (g2 hjz) g3⟩
      by_cases hjk : j = k
      · rw [← hjk]; exact hjun
      · rwa [getD_set_ne true hjk] at hun

/-- A plan: what is taken first (one value in every world of the class), what alone may come up, or either of two. -/
inductive Plan
  | done
  | take (i : Nat) (t : Plan)
  | op (i : Nat) (t : Plan)
  | two (i : Nat) (s : Plan) (j : Nat) (t : Plan)

/-- An operation, and what is behind it. -/
def wpStep (P : Program) (ops : Array Oper) (Q : Exit → Act → World → Prop) (C : World → Prop) (z i : Nat) (T : Act → World → Prop) (a : Act) (w : World) : Prop :=
  match ops[i]? with
  | none => False
  | some o => if Region.wanted o (yielded ops a.tmps) then o.wp P a w (fun a' w' => (i ≠ z → C w') ∧ T a' w') Q else T (a.put o.dst undef) w
def wpPlan (P : Program) (ops : Array Oper) (Q : Exit → Act → World → Prop) (C : World → Prop) (z : Nat) : Plan → Act → World → Prop
  | .done, a, w => Q .normal a w
  | .take i t, a, w =>
    match ops[i]? with
    | none => False
    | some o =>
      if Region.wanted o (yielded ops a.tmps) then ∃ v, (∀ W, C W → (execOp a.eval o).run P W = .ok (.value v) W) ∧ wpPlan P ops Q C z t (a.put o.dst v) w
      else wpPlan P ops Q C z t (a.put o.dst undef) w
  | .op i t, a, w => wpStep P ops Q C z i (wpPlan P ops Q C z t) a w
  | .two i s j t, a, w => wpStep P ops Q C z i (wpPlan P ops Q C z s) a w ∧ wpStep P ops Q C z j (wpPlan P ops Q C z t) a w

/-- May they come up so? -/
def planB (ops : Array Oper) (z : Nat) : Plan → Nat → Array Bool → Bool
  | .done, n, listed => n == 0 && (Region.ready .any ops listed).isEmpty
  | .take i t, n + 1, listed => (Region.ready .any ops listed).contains i && Region.free .any ops listed i && waitsB ops z i && planB ops z t n (listed.setIfInBounds i true)
  | .op i t, n + 1, listed => (Region.ready .any ops listed == [i]) && (i != z || n == 0) && planB ops z t n (listed.setIfInBounds i true)
  | .two i s j t, n + 1, listed => (Region.ready .any ops listed == [i, j]) && i != z && j != z && planB ops z s n (listed.setIfInBounds i true) && planB ops z t n (listed.setIfInBounds j true)
  | _, 0, _ => false

theorem wpOp_plan {i n : Nat} {T : Act → World → Prop} {listed : Array Bool} {a : Act} {w : World} (hiz : i ≠ z ∨ n = 0) (ih : ∀ (a : Act) (w : World), (n = 0 ∨ C w) → T a w → wpAnyE P ops Q C z n (listed.setIfInBounds i true) a w) (hC : C w)
    (h : wpStep P ops Q C z i T a w) : wpOp P ops Q i (fun a' w' => (i ≠ z → C w') ∧ wpAnyE P ops Q C z n (listed.setIfInBounds i true) a' w') a w := by
  unfold wpStep at h
  unfold wpOp
  cases ho : ops[i]? with
  | none => simp only [ho] at h
  | some o =>
    simp only [ho] at h ⊢
    by_cases hw : Region.wanted o (yielded ops a.tmps) = true
    · rw [if_pos hw]
      rw [if_pos hw] at h
      exact .inl (Oper.wp_mono (fun a' w' ⟨h1, h2⟩ => ⟨h1, ih _ _ (by rcases hiz with h | h; exact .inr (h1 h); exact .inl h) h2⟩) h)
    · rw [if_neg hw]
      rw [if_neg hw] at h
      exact ⟨fun _ => hC, ih _ _ (.inr hC) h⟩

theorem wpAnyE_plan (hs : Region.noSelect ops = true) (hQ : ∀ (c : _) (d : Option Tmp) (v : Value) a w, Q (.panic c) (a.put d v) w → Q (.panic c) a w) :
    ∀ (p : Plan) (n : Nat) (listed : Array Bool) (a : Act) (w : World), planB ops z p n listed = true → (n = 0 ∨ C w) → wpPlan P ops Q C z p a w → wpAnyE P ops Q C z n listed a w := by
  intro p
  induction p with
  | done =>
    intro n listed a w hB _ h
    simp only [planB, Bool.and_eq_true, beq_iff_eq] at hB
    obtain ⟨rfl, hB⟩ := hB
    exact ⟨by simpa using hB, h⟩
  | take i t ih =>
    intro n listed a w hB hC h
    cases n with
    | zero => simp [planB] at hB
    | succ n =>
      have hC : C w := by rcases hC with h | h; cases h; exact h
      simp only [planB, Bool.and_eq_true] at hB
      obtain ⟨⟨⟨hB0, hB1⟩, hB3⟩, hB2⟩ := hB
      simp only [wpPlan] at h
      cases ho : ops[i]? with
      | none => simp only [ho] at h
      | some o =>
        simp only [ho] at h
        by_cases hw : Region.wanted o (yielded ops a.tmps) = true
        · rw [if_pos hw] at h
          obtain ⟨v, hv, h⟩ := h
          exact wpAnyE_first ho (Region.noSelect_spec hs) (fun c a w h => hQ c _ _ a w h) hB3 n listed a w (Region.free_spec ho hB1) (by simpa using hB0) (.inl ⟨hw, hv⟩) hC (ih _ _ _ _ hB2 (.inr hC) h)
        · rw [if_neg hw] at h
          exact wpAnyE_first ho (Region.noSelect_spec hs) (fun c a w h => hQ c _ _ a w h) hB3 n listed a w (Region.free_spec ho hB1) (by simpa using hB0) (.inr ⟨by simpa using hw, rfl⟩) hC (ih _ _ _ _ hB2 (.inr hC) h)
  | op i t ih =>
    intro n listed a w hB hC h
    cases n with
    | zero => simp [planB] at hB
    | succ n =>
      have hC : C w := by rcases hC with h | h; cases h; exact h
      simp only [planB, Bool.and_eq_true, Bool.or_eq_true, bne_iff_ne, beq_iff_eq] at hB
      obtain ⟨⟨hr, hz⟩, hB2⟩ := hB
      refine ⟨fun h0 => (by rw [hr] at h0; cases h0), fun j hj => ?_⟩
      rw [hr] at hj
      obtain rfl : j = i := by simpa using hj
      simp only [wpPlan] at h
      exact wpOp_plan hz (fun a w hC h => ih _ _ _ _ hB2 hC h) hC h
  | two i s j t ih1 ih2 =>
    intro n listed a w hB hC h
    cases n with
    | zero => simp [planB] at hB
    | succ n =>
      have hC : C w := by rcases hC with h | h; cases h; exact h
      simp only [planB, Bool.and_eq_true, bne_iff_ne, beq_iff_eq] at hB
      obtain ⟨⟨⟨⟨hr, hz1⟩, hz2⟩, hB2⟩, hB3⟩ := hB
      simp only [wpPlan] at h
      refine ⟨fun h0 => (by rw [hr] at h0; cases h0), fun x hx => ?_⟩
      rw [hr] at hx
      rcases List.mem_cons.1 hx with rfl | hx
      · exact wpOp_plan (.inl hz1) (fun a w hC h => ih1 _ _ _ _ hB2 hC h) hC h.1
      · obtain rfl : x = j := by simpa using hx
        exact wpOp_plan (.inl hz2) (fun a w hC h => ih2 _ _ _ _ hB3 hC h) hC h.2

/-- A region that draws its order, walked by a plan; z: the operation that may leave the class (a number beyond all: none). -/
theorem wp_region_plan {id : Nat} {a : Act} {w : World} (z : Nat) (p : Plan) (C : World → Prop) (hm : P.follows .mixedOrders = true) (hs : Region.noSelect ops = true) (hB : planB ops z p ops.size (Array.replicate ops.size false) = true)
    (hC : C w.drew) (h : wpPlan P ops (NoPanic Q) C z p a w.drew) : (Code.region id ops true).wp P Q a w := by
  refine wp_region_noPanic (wp_region_any hm (wpAny_of_E (C := C) (z := z) _ _ _ _ ?_))
  exact wpAnyE_plan (P := P) (Q := NoPanic Q) hs (fun _ _ _ _ _ h => h) p ops.size (Array.replicate ops.size false) a w.drew hB (.inr hC) h

theorem plan_nil {a : Act} {w : World} (h : Q .normal a w) : wpPlan P ops (NoPanic Q) C z .done a w := h
theorem plan_take {i : Nat} {t : Plan} {o : Oper} {a : Act} {w : World} (ho : ops[i]? = some o) (hw : Region.wanted o (yielded ops a.tmps) = true) {v : Value}
    (hv : ∀ W, C W → (execOp a.eval o).run P W = .ok (.value v) W) (h : ∀ K : Act → Prop, (∀ a, wpPlan P ops Q C z t a w → K a) → K (a.put o.dst v)) :
    wpPlan P ops Q C z (.take i t) a w := by
  have h := h (fun a => wpPlan P ops Q C z t a w) (fun _ h => h)
  simp only [wpPlan, ho]
  rw [if_pos hw]
  exact ⟨v, hv, h⟩
theorem plan_skip {i : Nat} {t : Plan} {o : Oper} {a : Act} {w : World} (ho : ops[i]? = some o) (hw : Region.wanted o (yielded ops a.tmps) = false)
    (h : ∀ K : Act → Prop, (∀ a, wpPlan P ops Q C z t a w → K a) → K (a.put o.dst undef)) : wpPlan P ops Q C z (.take i t) a w := by
  have h := h (fun a => wpPlan P ops Q C z t a w) (fun _ h => h)
  simp only [wpPlan, ho]
  rw [if_neg (by rw [hw]; exact Bool.false_ne_true)]
  exact h
theorem plan_op {i : Nat} {t : Plan} {o : Oper} {a : Act} {w : World} (ho : ops[i]? = some o)
    (h : ∀ K : Act → World → Prop, (∀ a w, ((i ≠ z → C w) ∧ wpPlan P ops Q C z t a w) → K a w) → if Region.wanted o (yielded ops a.tmps) then o.wp P a w K Q else K (a.put o.dst undef) w) :
    wpPlan P ops Q C z (.op i t) a w := by
  have h := h (fun a w => (i ≠ z → C w) ∧ wpPlan P ops Q C z t a w) (fun _ _ h => h)
  simp only [wpPlan, wpStep, ho]
  by_cases hw : Region.wanted o (yielded ops a.tmps) = true
  · rw [if_pos hw] at h ⊢; exact h
  · rw [if_neg hw] at h ⊢; exact h.2
/-- An operation whose run is known. -/
theorem plan_run {i : Nat} {t : Plan} {o : Oper} {a : Act} {w w' : World} {v : Value} (ho : ops[i]? = some o) (hw : Region.wanted o (yielded ops a.tmps) = true) (hrun : (execOp a.eval o).run P w = .ok (.value v) w') (hC : i ≠ z → C w')
    (h : ∀ K : Act → Prop, (∀ a, wpPlan P ops Q C z t a w' → K a) → K (a.put o.dst v)) : wpPlan P ops Q C z (.op i t) a w := by
  have h := h (fun a => wpPlan P ops Q C z t a w') (fun _ h => h)
  refine plan_op ho fun K hK => ?_
  rw [if_pos hw]
  unfold Oper.wp
  rw [hrun]
  exact hK _ _ ⟨hC, h⟩
theorem plan_two {i j : Nat} {s t : Plan} {a : Act} {w : World} (h1 : wpPlan P ops Q C z (.op i s) a w) (h2 : wpPlan P ops Q C z (.op j t) a w) : wpPlan P ops Q C z (.two i s j t) a w := by
  unfold wpPlan at h1 h2 ⊢
  exact ⟨h1, h2⟩
end
attribute [irreducible] wpPlan
end Go.Proofs.YtempkjnaahgbhaaGreatDoor
