/-
  A slice of slices of spans that came in as an argument, opened to its parts. No condition: plain lemmas over the reading of data.
-/
import Derived.Test.YtnocknhfdegkgaaOpen
import Derived.Test.YtnocknhfdegkgaaBulk
import Derived.Test.YtnocknhfdegkgaaConcat
namespace Go.Proofs.Ytnocknhfdegkgaa
open Go.ChangeShapes Go.WideShapes Go.ChangeAt Go.RowKit Go.Deep

/-- The datum of a list of spans, of parts. -/
def SpD {H : Type} (l : List Sp) (d : DataW H) : Prop := (l = [] ∧ d = .nil) ∨ ∃ sp, d = .slice (l.map Sp.datum) sp
def PartsD {H : Type} (ps : List PartS) (d : DataW H) : Prop := (ps = [] ∧ d = .nil) ∨ ∃ ds sp, d = .slice ds sp ∧ ds.length = ps.length ∧ ∀ i (h : i < ps.length), ∃ x, ds[i]? = some x ∧ SpD ps[i].l x
section
variable {H : Type} {enc : TypeId × Value → H} {w : World} {base : Nat} {spare : Nat → Bool} {held : Bool}
theorem open_spans_cell {fuel : Nat} {v : Value} {x : DataW H × List MemPlace} (hf : DataW.trod enc Try.prog w base spare held fuel 22 [v] = some x) :
    ∃ p : PartS, v = p.val ∧ RdS w w.heap.size p.A p.n p.l ∧ SpD p.l x.1 := by
  have hc : ∀ v : Value, v.cells.toList = [v] → DataW.Trod enc Try.prog w base spare held 22 v x.1 x.2 → ∃ p : PartS, v = p.val ∧ RdS w w.heap.size p.A p.n p.l ∧ SpD p.l x.1 := fun v hv h => by
    obtain ⟨A, len, cap, l, h1, h2, _, h4⟩ := open_spans hv h
    exact ⟨⟨A, len, cap, l⟩, h1, h2, h4⟩
  rcases open_slice Try.underlying22 hf with ⟨hcs, _⟩ | ⟨a, len, cap, m, n, D, Pl, hcs, _⟩
  · obtain rfl : v = .slice none 0 0 := by simpa using hcs
    exact hc _ rfl ⟨fuel, hf⟩
  · obtain rfl : v = .slice (some a) len cap := by simpa using hcs
    exact hc _ rfl ⟨fuel, hf⟩
theorem open_parts {d : DataW H} {p : List MemPlace} {v : Value} (hv : v.cells.toList = [v]) (h : DataW.Trod enc Try.prog w base spare held 62 v d p) :
    ∃ (A : Option Addr) (len cap : Nat) (ps : List PartS), v = .slice A len cap ∧ RdPS w w.heap.size A len ps ∧ PartsD ps d := by
  obtain ⟨fuel, hf⟩ := h
  rw [hv] at hf
  rcases open_slice Try.underlying62 hf with ⟨hcs, hx⟩ | ⟨a, len, cap, m, n, D, Pl, hcs, _, hl, _, hm, hx, hi⟩
  · simp only [List.cons.injEq, and_true] at hcs
    simp only [Prod.mk.injEq] at hx
    exact ⟨none, 0, 0, [], hcs, ⟨Rd.nil, by simp⟩, .inl ⟨rfl, hx.1⟩⟩
  · simp only [List.cons.injEq, and_true] at hcs
    simp only [Prod.mk.injEq] at hx
    have k1 : Try.prog.cellsOf 22 = 1 := by kernel_rfl
    have hle : len ≤ m := by rw [hm]; split <;> omega
    obtain ⟨ps, hll, hp⟩ := list_of (p := fun i (q : PartS) => w.cell? (a.add (i * 1 + 0)) = some q.val ∧ RdS w w.heap.size q.A q.n q.l ∧ SpD q.l (D i)) len fun i hi1 => by
      obtain ⟨cs', hc, ht⟩ := hi i (by omega)
      rw [k1] at hc
      obtain ⟨hcl, hca⟩ := cells_at hc
      match cs', hcl with
      | [c0], _ =>
        obtain ⟨q, hq, hr, hd⟩ := open_spans_cell ht
        have h2 := hca 0 (by omega)
        rw [add_add] at h2
        exact ⟨q, by rw [h2, hq]; rfl, hr, hd⟩
    have hr := rd_of (f := fun q : PartS => [q.val]) (sz := 1) (fun _ => rfl) (by omega) hll (a := a) fun i hi1 j hj => by
      obtain rfl : j = 0 := by omega
      exact (hp i hi1).1
    have e : ∀ l : List PartS, l.flatMap (fun q => [q.val]) = l.map PartS.val := by
      intro l; induction l with
      | nil => rfl
      | cons x l ih => rw [List.flatMap_cons, ih]; rfl
    rw [e] at hr
    refine ⟨some a, len, cap, ps, hcs, ⟨hr, fun q hq => ?_⟩, .inr ⟨(List.range len).map D, _, hx.1, by simp [hll], fun i hi1 => ?_⟩⟩
    · obtain ⟨i, hi1, rfl⟩ := List.mem_iff_getElem.1 hq
      exact (hp i hi1).2.1
    · refine ⟨D i, ?_, (hp i hi1).2.2⟩
      rw [List.getElem?_map, List.getElem?_range (by omega)]; rfl
theorem spd_bulk {l : List Sp} {d : DataW H} (h : SpD l d) : l.length ≤ Rows.uptoBulk d := by
  rcases h with ⟨rfl, _⟩ | ⟨sp, rfl⟩
  · simp
  · have h1 := bulks.slice_le (l.map Sp.datum) sp (H := H)
    simp only [List.length_map] at h1
    omega
theorem parts_sum : ∀ (ps : List PartS) (ds : List (DataW H)), ds.length = ps.length → (∀ i (h : i < ps.length), ∃ x, ds[i]? = some x ∧ SpD ps[i].l x) → (∀ q ∈ ps, q.l.length = q.n) → totPS ps ≤ Rows.uptoBulkAll ds := by
  intro ps
  induction ps with
  | nil => intro ds _ _ _; simp [totPS]
  | cons q ps ih =>
    intro ds hl h hn
    cases ds with
    | nil => simp at hl
    | cons x ds =>
      have h1 := ih ds (by simpa using hl) (fun i hi => by
        obtain ⟨y, h2, h3⟩ := h (i + 1) (by simp; omega)
        exact ⟨y, by simpa using h2, by simpa using h3⟩) (fun p hp => hn p (by simp [hp]))
      obtain ⟨y, h2, h3⟩ := h 0 (by simp)
      simp at h2 h3
      subst h2
      have h4 := spd_bulk h3
      have h5 := hn q (by simp)
      simp only [Rows.uptoBulkAll]
      have e2 : totPS (q :: ps) = q.n + totPS ps := by simp [totPS]
      omega
theorem parts_bulk {B n : Nat} {A : Option Addr} {ps : List PartS} {d : DataW H} (hr : RdPS w B A n ps) (h : PartsD ps d) : totPS ps ≤ Rows.uptoBulk d ∧ n ≤ Rows.uptoBulk d := by
  have hl : ps.length = n := by simpa using hr.1.1
  rcases h with ⟨rfl, _⟩ | ⟨ds, sp, rfl, h1, h2⟩
  · simp at hl; subst hl; simp [totPS]
  · have h3 := parts_sum ps ds h1 h2 (fun q hq => RdS.len (hr.2 q hq))
    have h4 := bulks.slice_le ds sp
    have h5 := bulks.slice_elems ds sp
    omega
end
end Go.Proofs.Ytnocknhfdegkgaa
