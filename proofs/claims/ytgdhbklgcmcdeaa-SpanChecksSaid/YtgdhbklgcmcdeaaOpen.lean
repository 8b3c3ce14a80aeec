/-
  Spans that came in as arguments, opened to their fields: one span, a list of spans, a list of bytes, a list of numbers. No condition: plain lemmas over the reading of data.
-/
import Derived.Test.YtgdhbklgcmcdeaaRows
import Derived.Test.YtgdhbklgcmcdeaaBase
import Derived.Test.YtgdhbklgcmcdeaaPure
import Derived.ProofKit
import Derived.SizedLaws
namespace Go.Proofs.Ytgdhbklgcmcdeaa
open Go.ChangeShapes Go.WideShapes Go.ChangeAt Go.RowKit

/-- A span as a datum. -/
def Sp.datum {H : Type} (s : Sp) : DataW H :=
  .agg [.lit (.int .i64 s.tr), .lit (.int .i64 s.id), .lit (.int .i64 s.pa), .lit (.int .i64 s.st), .lit (.int .i64 s.en), .lit (.string s.nm.data.toList)]
/-- Its numbers are words. -/
def Sp.wf (s : Sp) : Prop :=
  (Lit.int .i64 s.tr).wf = true ∧ (Lit.int .i64 s.id).wf = true ∧ (Lit.int .i64 s.pa).wf = true ∧ (Lit.int .i64 s.st).wf = true ∧ (Lit.int .i64 s.en).wf = true

theorem ownKnob_none : ownKnob Try.prog.godebug = none := by kernel_rfl
theorem laidOut_true : laidOutB Try.prog = true := by kernel_rfl
theorem cellsOf_span : Try.prog.cellsOf 23 = 6 := by kernel_rfl

section
variable {H : Type} {enc : TypeId × Value → H} {w : World} {base : Nat} {spare : Nat → Bool} {held : Bool}
set_option maxRecDepth 100000 in
theorem open_span_cells {fuel : Nat} {cs : List Value} {x : DataW H × List MemPlace}
    (h : DataW.trod enc Try.prog w base spare held fuel 23 cs = some x) : ∃ s : Sp, cs = s.cells ∧ x = (s.datum, []) ∧ s.wf := by
  obtain ⟨xs, n, _, hx, hlen, hxl, hg⟩ := DataW.trod_struct Try.underlying23 h
  have hC : Try.prog.cellsOf 23 = 6 := cellsOf_span
  have k3 : Try.prog.cellsOf 3 = 1 := by kernel_rfl
  have k9 : Try.prog.cellsOf 9 = 1 := by kernel_rfl
  match cs, hlen.trans hC with
  | [c0, c1, c2, c3, c4, c5], _ =>
    match xs, hxl with
    | [y0, y1, y2, y3, y4, y5], _ =>
      have g0 : DataW.trod enc Try.prog w base spare held n 3 [c0] = some y0 := by simpa [k3] using hg 0 _ rfl
      have g1 : DataW.trod enc Try.prog w base spare held n 3 [c1] = some y1 := by simpa [k3] using hg 1 _ rfl
      have g2 : DataW.trod enc Try.prog w base spare held n 3 [c2] = some y2 := by simpa [k3] using hg 2 _ rfl
      have g3 : DataW.trod enc Try.prog w base spare held n 3 [c3] = some y3 := by simpa [k3] using hg 3 _ rfl
      have g4 : DataW.trod enc Try.prog w base spare held n 3 [c4] = some y4 := by simpa [k3] using hg 4 _ rfl
      have g5 : DataW.trod enc Try.prog w base spare held n 9 [c5] = some y5 := by simpa [k9] using hg 5 _ rfl
      obtain ⟨a0, e0, rfl, f0⟩ := DataW.trod_int Try.underlying3 g0
      obtain ⟨a1, e1, rfl, f1⟩ := DataW.trod_int Try.underlying3 g1
      obtain ⟨a2, e2, rfl, f2⟩ := DataW.trod_int Try.underlying3 g2
      obtain ⟨a3, e3, rfl, f3⟩ := DataW.trod_int Try.underlying3 g3
      obtain ⟨a4, e4, rfl, f4⟩ := DataW.trod_int Try.underlying3 g4
      obtain ⟨a5, e5, rfl, f5⟩ := DataW.trod_string Try.underlying9 g5
      simp only [List.cons.injEq, and_true] at e0 e1 e2 e3 e4 e5
      subst e0 e1 e2 e3 e4 e5
      exact ⟨⟨a0, a1, a2, a3, a4, a5⟩, rfl, hx, f0, f1, f2, f3, f4⟩

set_option maxRecDepth 100000 in
theorem open_span {r : Reach} {b0 : Nat} {v : Value} {d : DataW H} {p : List MemPlace} (hv : Value.okWide Try.prog w r b0 23 v) (h : DataW.Trod enc Try.prog w base spare held 23 v d p) :
    ∃ s : Sp, v = s.val ∧ d = s.datum ∧ p = [] ∧ s.wf := by
  obtain ⟨cs, rfl, hsz⟩ := okWide_struct Try.underlying23 hv
  obtain ⟨fuel, hf⟩ := h
  obtain ⟨s, hc, hx, hw⟩ := open_span_cells hf
  simp only [Prod.mk.injEq] at hx
  refine ⟨s, ?_, hx.1, hx.2, hw⟩
  obtain ⟨l⟩ := cs
  simp only [Value.cells] at hc
  simp only [hc, Sp.cells, Sp.val]

/-- A span's name that came in is not longer than memory bears. -/
theorem span_reach {ts : List TypeId} {ds : List (DataW H)} {j : Nat} {s : Sp} (h : (DataW.weightsEach Try.prog ts ds).all (· ≤ reachBytes) = true) (ht : ts[j]? = some 23) (hd : ds[j]? = some s.datum) : s.nm.size ≤ 140737488351232 := by
  have := List.all_eq_true.1 h _ (DataW.weights_mem_each ht hd s.nm.size (by simp [DataW.weights, Sp.datum, DataW.weightsEach, Try.underlying23]))
  simpa only [reachBytes] using of_decide_eq_true this
end
end Go.Proofs.Ytgdhbklgcmcdeaa
