/-
  Regions that draw their order, walked once in an order of the prover's choice: operations that yield the same value in every world of a class may be taken first; another one where nothing else may come up. No condition: plain lemmas over the library's own.
-/
import Derived.Test.YtdjcifeoplgkpaaBase
import Derived.OrdersHeld
import Derived.Deep.RegionHeld3
namespace Go.Proofs.Ytdjcifeoplgkpaa
open Go Go.RowKit

section
variable {P : Program} {ops : Array Oper} {Q : Exit → Act → World → Prop} {C : World → Prop}

/-- The walk: each operation by its number; with 'true': it yields one value in every world of the class. -/
def wpSched (P : Program) (ops : Array Oper) (Q : Exit → Act → World → Prop) (C : World → Prop) : List (Nat × Bool) → Act → World → Prop
  | [], a, w => Q .normal a w
  | (i, p) :: rest, a, w =>
    match ops[i]? with
    | none => False
    | some o =>
      if Region.wanted o (yielded ops a.tmps) then
        (if p then ∃ v, (∀ W, C W → (execOp a.eval o).run P W = .ok (.value v) W) ∧ wpSched P ops Q C rest (a.put o.dst v) w
         else o.wp P a w (fun a' w' => C w' ∧ wpSched P ops Q C rest a' w') Q)
      else wpSched P ops Q C rest (a.put o.dst undef) w

/-- May they come up so? -/
def schedB (ops : Array Oper) : List (Nat × Bool) → Array Bool → Bool
  | [], listed => (Region.ready .any ops listed).isEmpty
  | (i, p) :: rest, listed => (if p then (Region.ready .any ops listed).contains i && Region.free .any ops listed i else Region.ready .any ops listed == [i]) && schedB ops rest (listed.setIfInBounds i true)

theorem wpAnyH_sched (hs : Region.noSelect ops = true) (hQ : ∀ (c : _) (d : Option Tmp) (v : Value) a w, Q (.panic c) (a.put d v) w → Q (.panic c) a w) :
    ∀ (l : List (Nat × Bool)) (listed : Array Bool) (a : Act) (w : World), schedB ops l listed = true → C w → wpSched P ops Q C l a w → wpAnyH P .any ops Q C l.length listed a w := by
  intro l
  induction l with
  | nil => intro listed a w hB _ h; exact ⟨by simpa [schedB] using hB, h⟩
  | cons x rest ih =>
    obtain ⟨i, p⟩ := x
    intro listed a w hB hC h
    simp only [schedB, Bool.and_eq_true] at hB
    obtain ⟨hB1, hB2⟩ := hB
    simp only [wpSched] at h
    cases ho : ops[i]? with
    | none => simp only [ho] at h
    | some o =>
      simp only [ho] at h
      cases p with
      | true =>
        simp only [if_true, Bool.and_eq_true] at hB1
        refine wpAnyH_take ho hs hB1.2 hB1.1 (v := ?v) (fun c a w h => hQ c _ _ a w h) ?y hC ?k
        case v => exact if hw : Region.wanted o (yielded ops a.tmps) = true then (by rw [if_pos hw] at h; simp only [if_true] at h; exact h.choose) else undef
        case y =>
          by_cases hw : Region.wanted o (yielded ops a.tmps) = true
          · rw [dif_pos hw]
            refine .inl ⟨hw, ?_⟩
            have h' := h
            rw [if_pos hw] at h'
            simp only [if_true] at h'
            exact h'.choose_spec.1
          · rw [dif_neg hw]
            exact .inr ⟨by simpa using hw, rfl⟩
        case k =>
          by_cases hw : Region.wanted o (yielded ops a.tmps) = true
          · rw [dif_pos hw]
            have h' := h
            rw [if_pos hw] at h'
            simp only [if_true] at h'
            exact ih _ _ _ hB2 hC h'.choose_spec.2
          · rw [dif_neg hw]
            rw [if_neg hw] at h
            exact ih _ _ _ hB2 hC h
      | false =>
        have hr : Region.ready .any ops listed = [i] := by simpa using hB1
        refine wpAnyH_all hr (by simp) fun j hj => ?_
        obtain rfl : j = i := by simpa using hj
        unfold wpOp
        simp only [ho]
        by_cases hw : Region.wanted o (yielded ops a.tmps) = true
        · rw [if_pos hw]
          rw [if_pos hw] at h
          simp only [Bool.false_eq_true, if_false] at h
          exact .inl (Oper.wp_mono (fun a' w' ⟨h1, h2⟩ => ⟨h1, ih _ _ _ hB2 h1 h2⟩) h)
        · rw [if_neg hw]
          rw [if_neg hw] at h
          exact ⟨hC, ih _ _ _ hB2 hC h⟩

/-- A region that draws its order. -/
theorem wp_region_sched {id : Nat} {a : Act} {w : World} (l : List (Nat × Bool)) (C : World → Prop) (hm : P.follows .mixedOrders = true) (hs : Region.noSelect ops = true) (hl : l.length = ops.size) (hB : schedB ops l (Array.replicate ops.size false) = true)
    (hC : C w.drew) (h : wpSched P ops (NoPanic Q) C l a w.drew) : (Code.region id ops true).wp P Q a w := by
  refine wp_region_noPanic (wp_region_held (S := C) hm ?_)
  have := wpAnyH_sched (P := P) (Q := NoPanic Q) hs (fun _ _ _ _ _ h => h) l (Array.replicate ops.size false) a w.drew hB hC h
  rw [hl] at this
  exact this

/-- Its steps. -/
theorem sched_nil {a : Act} {w : World} (h : Q .normal a w) : wpSched P ops (NoPanic Q) C [] a w := h
theorem sched_take {i : Nat} {rest : List (Nat × Bool)} {o : Oper} {a : Act} {w : World} (ho : ops[i]? = some o) (hw : Region.wanted o (yielded ops a.tmps) = true) {v : Value}
    (hv : ∀ W, C W → (execOp a.eval o).run P W = .ok (.value v) W) (h : ∀ K : Act → Prop, (∀ a, wpSched P ops Q C rest a w → K a) → K (a.put o.dst v)) :
    wpSched P ops Q C ((i, true) :: rest) a w := by
  have h := h (fun a => wpSched P ops Q C rest a w) (fun _ h => h)
  simp only [wpSched, ho, if_true]
  rw [if_pos hw]
  exact ⟨v, hv, h⟩
theorem sched_skip {i : Nat} {p : Bool} {rest : List (Nat × Bool)} {o : Oper} {a : Act} {w : World} (ho : ops[i]? = some o) (hw : Region.wanted o (yielded ops a.tmps) = false)
    (h : ∀ K : Act → Prop, (∀ a, wpSched P ops Q C rest a w → K a) → K (a.put o.dst undef)) : wpSched P ops Q C ((i, p) :: rest) a w := by
  have h := h (fun a => wpSched P ops Q C rest a w) (fun _ h => h)
  simp only [wpSched, ho]
  rw [if_neg (by rw [hw]; exact Bool.false_ne_true)]
  exact h
theorem sched_op {i : Nat} {rest : List (Nat × Bool)} {o : Oper} {a : Act} {w : World} (ho : ops[i]? = some o)
    (h : ∀ K : Act → World → Prop, (∀ a w, (C w ∧ wpSched P ops Q C rest a w) → K a w) → if Region.wanted o (yielded ops a.tmps) then o.wp P a w K Q else K (a.put o.dst undef) w) :
    wpSched P ops Q C ((i, false) :: rest) a w := by
  have h := h (fun a w => C w ∧ wpSched P ops Q C rest a w) (fun _ _ h => h)
  simp only [wpSched, ho, Bool.false_eq_true, if_false]
  by_cases hw : Region.wanted o (yielded ops a.tmps) = true
  · rw [if_pos hw] at h ⊢; exact h
  · rw [if_neg hw] at h ⊢; exact h.2
end
attribute [irreducible] wpSched
end Go.Proofs.Ytdjcifeoplgkpaa
