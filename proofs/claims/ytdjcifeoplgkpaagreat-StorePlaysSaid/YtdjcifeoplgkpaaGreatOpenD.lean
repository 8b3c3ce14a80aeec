/-
  Calls of a store that came in as an argument, opened to their parts. No condition: plain lemmas over the reading of data.
-/
import Derived.Test.YtdjcifeoplgkpaaGreatOpen
import Derived.Test.YtdjcifeoplgkpaaGreatActs07
namespace Go.Proofs.YtdjcifeoplgkpaaGreat
open Go.ChangeShapes Go.WideShapes Go.ChangeAt Go.RowKit Go.Deep

/-- The datum of a list of calls, loosely: how long its lists are. -/
def DosD {H : Type} (ps : List DoV) (d : DataW H) : Prop := (ps = [] ∧ d = .nil) ∨ ∃ ds sp, d = .slice ds sp ∧ ds.length = ps.length ∧ ∀ i (h : i < ps.length), ∃ x o n, ds[i]? = some (.agg [o, x, n]) ∧ ((ps[i].l = [] ∧ x = .nil) ∨ ∃ sp, x = .slice (ps[i].l.map Sp.datum) sp)
section
variable {H : Type} {enc : TypeId × Value → H} {w : World} {base : Nat} {spare : Nat → Bool} {held : Bool}
set_option maxRecDepth 100000 in
theorem open_do_cells {fuel : Nat} {cs : List Value} {x : DataW H × List MemPlace} (hf : DataW.trod enc Tryz.prog w base spare held fuel 33 cs = some x) :
    ∃ p : DoV, cs = p.cells ∧ RdS w w.heap.size p.A p.n p.l ∧ ∃ y o n, x.1 = .agg [o, y, n] ∧ ((p.l = [] ∧ y = .nil) ∨ ∃ sp, y = .slice (p.l.map Sp.datum) sp) := by
  obtain ⟨xs, n, _, hx, hlen, hxl, hg⟩ := DataW.trod_struct Tryz.underlying33 hf
  have hC : Tryz.prog.cellsOf 33 = 3 := by kernel_rfl
  have k3 : Tryz.prog.cellsOf 3 = 1 := by kernel_rfl
  have k9 : Tryz.prog.cellsOf 31 = 1 := by kernel_rfl
  match cs, hlen.trans hC with
  | [c0, c1, c2], _ =>
    match xs, hxl with
    | [y0, y1, y2], _ =>
      have g0 : DataW.trod enc Tryz.prog w base spare held n 3 [c0] = some y0 := by simpa [k3] using hg 0 _ rfl
      have g1 : DataW.trod enc Tryz.prog w base spare held n 31 [c1] = some y1 := by simpa [k3, k9] using hg 1 _ rfl
      have g2 : DataW.trod enc Tryz.prog w base spare held n 3 [c2] = some y2 := by simpa [k3, k9] using hg 2 _ rfl
      obtain ⟨a0, e0, _, _⟩ := DataW.trod_int Tryz.underlying3 g0
      obtain ⟨a2, e2, _, _⟩ := DataW.trod_int Tryz.underlying3 g2
      simp only [List.cons.injEq, and_true] at e0 e2
      have hc : ∀ v : Value, v.cells.toList = [v] → v = c1 → ∃ p : DoV, [c0, c1, c2] = p.cells ∧ RdS w w.heap.size p.A p.n p.l ∧ ∃ y o n, x.1 = .agg [o, y, n] ∧ ((p.l = [] ∧ y = .nil) ∨ ∃ sp, y = .slice (p.l.map Sp.datum) sp) := fun v hv hvc => by
        subst hvc
        obtain ⟨A, len, cap, l, h1, h2, _, h4⟩ := open_spans (d := y1.1) (p := y1.2) hv ⟨n, by rw [hv]; exact g1⟩
        refine ⟨⟨a0, A, len, cap, l, a2⟩, by rw [e0, h1, e2]; rfl, h2, y1.1, y0.1, y2.1, ?_, h4⟩
        rw [hx]; rfl
      rcases open_slice Tryz.underlying31 g1 with ⟨hcs, _⟩ | ⟨a, len, cap, m, n, D, Pl, hcs, _⟩
      · exact hc (.slice none 0 0) rfl (by simpa using hcs.symm)
      · exact hc (.slice (some a) len cap) rfl (by simpa using hcs.symm)
theorem open_dos {d : DataW H} {p : List MemPlace} {v : Value} (hv : v.cells.toList = [v]) (h : DataW.Trod enc Tryz.prog w base spare held 22 v d p) :
    ∃ (A : Option Addr) (len cap : Nat) (ps : List DoV), v = .slice A len cap ∧ RdDo w w.heap.size A len ps ∧ DosD ps d := by
  obtain ⟨fuel, hf⟩ := h
  rw [hv] at hf
  rcases open_slice Tryz.underlying22 hf with ⟨hcs, hx⟩ | ⟨a, len, cap, m, n, D, Pl, hcs, _, hl, _, hm, hx, hi⟩
  · simp only [List.cons.injEq, and_true] at hcs
    simp only [Prod.mk.injEq] at hx
    exact ⟨none, 0, 0, [], hcs, ⟨Rd.nil, by simp⟩, .inl ⟨rfl, hx.1⟩⟩
  · simp only [List.cons.injEq, and_true] at hcs
    simp only [Prod.mk.injEq] at hx
    have k1 : Tryz.prog.cellsOf 33 = 3 := by kernel_rfl
    have hle : len ≤ m := by rw [hm]; split <;> omega
    obtain ⟨ps, hll, hp⟩ := list_of (p := fun i (q : DoV) => (∀ j, j < 3 → w.cell? (a.add (i * 3 + j)) = q.cells[j]?) ∧ RdS w w.heap.size q.A q.n q.l ∧ ∃ y o n, D i = .agg [o, y, n] ∧ ((q.l = [] ∧ y = .nil) ∨ ∃ sp, y = .slice (q.l.map Sp.datum) sp)) len fun i hi1 => by
      obtain ⟨cs', hc, ht⟩ := hi i (by omega)
      rw [k1] at hc
      obtain ⟨q, hq, hr, hd⟩ := open_do_cells ht
      subst hq
      refine ⟨q, fun j hj => ?_, hr, hd⟩
      have h2 := (cells_at hc).2 j hj
      rwa [add_add] at h2
    have hr := rd_of (f := DoV.cells) (sz := 3) DoV.cells_len (by omega) hll (a := a) fun i hi1 j hj => (hp i hi1).1 j hj
    refine ⟨some a, len, cap, ps, hcs, ⟨hr, fun q hq => ?_⟩, .inr ⟨(List.range len).map D, _, hx.1, by simp [hll], fun i hi1 => ?_⟩⟩
    · obtain ⟨i, hi1, rfl⟩ := List.mem_iff_getElem.1 hq
      exact (hp i hi1).2.1
    · obtain ⟨y, o, n, h1, h2⟩ := (hp i hi1).2.2
      refine ⟨y, o, n, ?_, h2⟩
      rw [List.getElem?_map, List.getElem?_range (by omega), Option.map_some, h1]
/-- What came in is not longer than memory bears: calls. -/
theorem dos_reach {ts : List TypeId} {ds : List (DataW H)} {j : Nat} {l : List DoV} {d : DataW H} (h : (DataW.weightsEach Tryz.prog ts ds).all (· ≤ reachBytes) = true) (ht : ts[j]? = some 22) (hd : ds[j]? = some d) (hdl : DosD l d) (hlen : ∀ q ∈ l, q.l.length = q.n) :
    l.length ≤ 140737488351232 ∧ ∀ q ∈ l, q.n ≤ 140737488351232 := by
  rcases hdl with ⟨rfl, _⟩ | ⟨es, sp, rfl, h1, h2⟩
  · simp
  · constructor
    · have h3 := sized_slice h ht hd Tryz.underlying22
      have hb : Tryz.prog.bytesOf 33 = 40 := by kernel_rfl
      rw [hb, h1] at h3
      simp only [reachBytes] at h3
      omega
    · intro q hq
      obtain ⟨i, hi, rfl⟩ := List.mem_iff_getElem.1 hq
      obtain ⟨x, o, n, h4, h5⟩ := h2 i hi
      have hl := hlen _ hq
      rcases h5 with ⟨h6, _⟩ | ⟨sp2, rfl⟩
      · rw [h6] at hl; simp at hl; omega
      · have hm : (DataW.agg [o, .slice (l[i].l.map Sp.datum) sp2, n]) ∈ es := List.mem_of_getElem? h4
        have hb : Tryz.prog.bytesOf 38 = 56 := by kernel_rfl
        have h7 := List.all_eq_true.1 h _ (DataW.weights_mem_each ht hd (((l[i].l.map (Sp.datum (H := H))).length + sp2.length) * Tryz.prog.bytesOf 38) (by
          simp only [DataW.weights, Tryz.underlying22, List.mem_cons, List.mem_append]
          right; left
          have h8 := mem_weightsAll (P := Tryz.prog) (e := 33) (g := id) hm (n := ((l[i].l.map (Sp.datum (H := H))).length + sp2.length) * Tryz.prog.bytesOf 38) (by
            simp [DataW.weights, DataW.weightsEach, Tryz.underlying33, Tryz.underlying31])
          simpa using h8))
        rw [hb, List.length_map] at h7
        have h9 := of_decide_eq_true h7
        simp only [reachBytes] at h9
        omega
end
end Go.Proofs.YtdjcifeoplgkpaaGreat
