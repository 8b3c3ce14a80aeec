/-
  Regions that draw their order, where two operations may come up at one place: what yields one value in every world of a class is taken first; then either of the two, and the rest behind it. No condition: plain lemmas over the library's own.
-/
import Derived.Test.YtdjcifeoplgkpaaSched
namespace Go.Proofs.Ytdjcifeoplgkpaa
open Go Go.RowKit

section
variable {P : Program} {ops : Array Oper} {Q : Exit → Act → World → Prop} {C : World → Prop} {E : Act → World → Prop}

/-- Operations taken first, then E. -/
def wpTake (P : Program) (ops : Array Oper) (C : World → Prop) (E : Act → World → Prop) : List Nat → Act → World → Prop
  | [], a, w => E a w
  | i :: rest, a, w =>
    match ops[i]? with
    | none => False
    | some o =>
      if Region.wanted o (yielded ops a.tmps) then ∃ v, (∀ W, C W → (execOp a.eval o).run P W = .ok (.value v) W) ∧ wpTake P ops C E rest (a.put o.dst v) w
      else wpTake P ops C E rest (a.put o.dst undef) w
def takeB (ops : Array Oper) : List Nat → Array Bool → Bool
  | [], _ => true
  | i :: rest, listed => (Region.ready .any ops listed).contains i && Region.free .any ops listed i && takeB ops rest (listed.setIfInBounds i true)
def takenB : List Nat → Array Bool → Array Bool
  | [], listed => listed
  | i :: rest, listed => takenB rest (listed.setIfInBounds i true)

theorem wpAnyH_takeL (hs : Region.noSelect ops = true) (hQ : ∀ (c : _) (d : Option Tmp) (v : Value) a w, Q (.panic c) (a.put d v) w → Q (.panic c) a w) (m : Nat) :
    ∀ (l : List Nat) (listed : Array Bool) (a : Act) (w : World), takeB ops l listed = true → C w → (∀ a, E a w → wpAnyH P .any ops Q C m (takenB l listed) a w) → wpTake P ops C E l a w → wpAnyH P .any ops Q C (m + l.length) listed a w := by
  intro l
  induction l with
  | nil => intro listed a w _ _ hE h; exact hE a h
  | cons i rest ih =>
    intro listed a w hB hC hE h
    simp only [takeB, Bool.and_eq_true] at hB
    obtain ⟨⟨hB0, hB1⟩, hB2⟩ := hB
    simp only [wpTake] at h
    cases ho : ops[i]? with
    | none => simp only [ho] at h
    | some o =>
      simp only [ho] at h
      refine wpAnyH_take ho hs hB1 hB0 (v := ?v) (fun c a w h => hQ c _ _ a w h) ?y hC ?k
      case v => exact if hw : Region.wanted o (yielded ops a.tmps) = true then (by rw [if_pos hw] at h; exact h.choose) else undef
      case y =>
        by_cases hw : Region.wanted o (yielded ops a.tmps) = true
        · rw [dif_pos hw]
          refine .inl ⟨hw, ?_⟩
          have h' := h
          rw [if_pos hw] at h'
          exact h'.choose_spec.1
        · rw [dif_neg hw]
          exact .inr ⟨by simpa using hw, rfl⟩
      case k =>
        by_cases hw : Region.wanted o (yielded ops a.tmps) = true
        · rw [dif_pos hw]
          have h' := h
          rw [if_pos hw] at h'
          exact ih _ _ _ hB2 hC hE h'.choose_spec.2
        · rw [dif_neg hw]
          rw [if_neg hw] at h
          exact ih _ _ _ hB2 hC hE h

/-- One of those that may come up, and what is behind it. -/
theorem wpOp_sched (hs : Region.noSelect ops = true) (hQ : ∀ (c : _) (d : Option Tmp) (v : Value) a w, Q (.panic c) (a.put d v) w → Q (.panic c) a w) (i : Nat) (l : List (Nat × Bool)) (listed : Array Bool) (a : Act) (w : World) (hB : schedB ops l (listed.setIfInBounds i true) = true) (hC : C w)
    (h : wpSched P ops Q C ((i, false) :: l) a w) : wpOp P ops Q i (fun a' w' => C w' ∧ wpAnyH P .any ops Q C l.length (listed.setIfInBounds i true) a' w') a w := by
  unfold wpSched at h
  unfold wpOp
  cases ho : ops[i]? with
  | none => simp only [ho] at h
  | some o =>
    simp only [ho] at h ⊢
    by_cases hw : Region.wanted o (yielded ops a.tmps) = true
    · rw [if_pos hw]
      rw [if_pos hw] at h
      simp only [Bool.false_eq_true, if_false] at h
      exact .inl (Oper.wp_mono (fun a' w' ⟨h1, h2⟩ => ⟨h1, wpAnyH_sched hs hQ l _ _ _ hB h1 h2⟩) h)
    · rw [if_neg hw]
      rw [if_neg hw] at h
      exact ⟨hC, wpAnyH_sched hs hQ l _ _ _ hB hC h⟩

/-- A region that draws its order: some taken first, then either of two. -/
theorem wp_region_fork {id : Nat} {a : Act} {w : World} (l : List Nat) (i j : Nat) (l1 l2 : List (Nat × Bool)) (C : World → Prop) (hm : P.follows .mixedOrders = true) (hs : Region.noSelect ops = true) (hl : l1.length + 1 + l.length = ops.size) (hl2 : l2.length = l1.length)
    (hB : takeB ops l (Array.replicate ops.size false) = true) (hR : Region.ready .any ops (takenB l (Array.replicate ops.size false)) = [i, j])
    (hB1 : schedB ops l1 ((takenB l (Array.replicate ops.size false)).setIfInBounds i true) = true) (hB2 : schedB ops l2 ((takenB l (Array.replicate ops.size false)).setIfInBounds j true) = true)
    (hC : C w.drew) (h : wpTake P ops C (fun a w => wpSched P ops (NoPanic Q) C ((i, false) :: l1) a w ∧ wpSched P ops (NoPanic Q) C ((j, false) :: l2) a w) l a w.drew) : (Code.region id ops true).wp P Q a w := by
  refine wp_region_noPanic (wp_region_held (S := C) hm ?_)
  have hQ : ∀ (c : _) (d : Option Tmp) (v : Value) a w, NoPanic Q (.panic c) (a.put d v) w → NoPanic Q (.panic c) a w := fun _ _ _ _ _ h => h
  have := wpAnyH_takeL (P := P) (Q := NoPanic Q) (E := fun a w => wpSched P ops (NoPanic Q) C ((i, false) :: l1) a w ∧ wpSched P ops (NoPanic Q) C ((j, false) :: l2) a w) hs hQ (l1.length + 1) l (Array.replicate ops.size false) a w.drew hB hC (fun a ⟨h1, h2⟩ => by
    refine wpAnyH_all hR (by simp) fun x hx => ?_
    rcases List.mem_cons.1 hx with rfl | hx
    · exact wpOp_sched hs hQ _ _ _ _ _ hB1 hC h1
    · obtain rfl : x = j := by simpa using hx
      have := wpOp_sched hs hQ _ _ _ _ _ hB2 hC h2
      rwa [hl2] at this) h
  rw [hl] at this
  exact this

theorem take_nil {a : Act} {w : World} (h : E a w) : wpTake P ops C E [] a w := h
theorem take_one {i : Nat} {rest : List Nat} {o : Oper} {a : Act} {w : World} (ho : ops[i]? = some o) (hw : Region.wanted o (yielded ops a.tmps) = true) {v : Value}
    (hv : ∀ W, C W → (execOp a.eval o).run P W = .ok (.value v) W) (h : ∀ K : Act → Prop, (∀ a, wpTake P ops C E rest a w → K a) → K (a.put o.dst v)) :
    wpTake P ops C E (i :: rest) a w := by
  have h := h (fun a => wpTake P ops C E rest a w) (fun _ h => h)
  simp only [wpTake, ho]
  rw [if_pos hw]
  exact ⟨v, hv, h⟩
theorem take_skip {i : Nat} {rest : List Nat} {o : Oper} {a : Act} {w : World} (ho : ops[i]? = some o) (hw : Region.wanted o (yielded ops a.tmps) = false)
    (h : ∀ K : Act → Prop, (∀ a, wpTake P ops C E rest a w → K a) → K (a.put o.dst undef)) : wpTake P ops C E (i :: rest) a w := by
  have h := h (fun a => wpTake P ops C E rest a w) (fun _ h => h)
  simp only [wpTake, ho]
  rw [if_neg (by rw [hw]; exact Bool.false_ne_true)]
  exact h
/-- An operation whose run is known. -/
theorem sched_run {i : Nat} {rest : List (Nat × Bool)} {o : Oper} {a : Act} {w w' : World} {v : Value} (ho : ops[i]? = some o) (hw : Region.wanted o (yielded ops a.tmps) = true) (hrun : (execOp a.eval o).run P w = .ok (.value v) w') (hC : C w')
    (h : ∀ K : Act → Prop, (∀ a, wpSched P ops Q C rest a w' → K a) → K (a.put o.dst v)) : wpSched P ops Q C ((i, false) :: rest) a w := by
  have h := h (fun a => wpSched P ops Q C rest a w') (fun _ h => h)
  refine sched_op ho fun K hK => ?_
  rw [if_pos hw]
  unfold Oper.wp
  rw [hrun]
  exact hK _ _ ⟨hC, h⟩
theorem exec_app {o : Oper} {ρ : Operand → Value} {s x : Operand} {t : TypeId} {v1 v2 v : Value} {w w' : World} (ho : o.op = .call { callee := .builtin .append, args := #[s, x], argTypes := #[t, t] }) (hs : ρ s = v1) (hx : ρ x = v2)
    (hrun : (Builtin.append_ #[t, t] o.type #[v1, v2]).run P w = .ok v w') : (execOp ρ o).run P w = .ok (.value v) w' := by
  unfold execOp
  simp only [ho, resolve, invoke, builtin, Sem.run_bind, Sem.run_pure, Result.andThen_ok, List.map_toArray, List.map_cons, List.map_nil, hs, hx, hrun]
end
attribute [irreducible] wpTake
end Go.Proofs.Ytdjcifeoplgkpaa
