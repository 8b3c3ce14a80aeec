/-
  Spans that came in as arguments, opened to their fields: one span, a list of spans, a list of bytes, a list of numbers. No condition: plain lemmas over the reading of data.
-/
import Derived.Test.YtempkjnaahgbhaaGreatDoorRows
import Derived.Test.YtempkjnaahgbhaaGreatDoorBase
import Derived.Test.YtempkjnaahgbhaaGreatDoorSpanRow
import Derived.Test.YtempkjnaahgbhaaGreatDoorFr
import Derived.Deep.Slices
import Derived.ProofKit
import Derived.SizedLaws
namespace Go.Proofs.YtempkjnaahgbhaaGreatDoor
open Go.ChangeShapes Go.WideShapes Go.ChangeAt Go.RowKit Go.Deep

/-- A span as a datum. -/
def Sp.datum {H : Type} (s : Sp) : DataW H :=
  .agg [.lit (.int .i64 s.tr), .lit (.int .i64 s.id), .lit (.int .i64 s.pa), .lit (.int .i64 s.st), .lit (.int .i64 s.en), .lit (.string s.nm.data.toList)]
/-- Its numbers are words. -/
def Sp.wf (s : Sp) : Prop :=
  (Lit.int .i64 s.tr).wf = true ∧ (Lit.int .i64 s.id).wf = true ∧ (Lit.int .i64 s.pa).wf = true ∧ (Lit.int .i64 s.st).wf = true ∧ (Lit.int .i64 s.en).wf = true

theorem ownKnob_none : ownKnob Tryz.prog.godebug = none := by kernel_rfl
theorem laidOut_true : laidOutB Tryz.prog = true := by kernel_rfl
theorem cellsOf_span : Tryz.prog.cellsOf 30 = 6 := by kernel_rfl

section
variable {H : Type} {enc : TypeId × Value → H} {w : World} {base : Nat} {spare : Nat → Bool} {held : Bool}
set_option maxRecDepth 100000 in
theorem open_span_cells {fuel : Nat} {cs : List Value} {x : DataW H × List MemPlace}
    (h : DataW.trod enc Tryz.prog w base spare held fuel 30 cs = some x) : ∃ s : Sp, cs = s.cells ∧ x = (s.datum, []) ∧ s.wf := by
  obtain ⟨xs, n, _, hx, hlen, hxl, hg⟩ := DataW.trod_struct Tryz.underlying30 h
  have hC : Tryz.prog.cellsOf 30 = 6 := cellsOf_span
  have k3 : Tryz.prog.cellsOf 3 = 1 := by kernel_rfl
  have k9 : Tryz.prog.cellsOf 9 = 1 := by kernel_rfl
  match cs, hlen.trans hC with
  | [c0, c1, c2, c3, c4, c5], _ =>
    match xs, hxl with
    | [y0, y1, y2, y3, y4, y5], _ =>
      have g0 : DataW.trod enc Tryz.prog w base spare held n 3 [c0] = some y0 := by simpa [k3] using hg 0 _ rfl
      have g1 : DataW.trod enc Tryz.prog w base spare held n 3 [c1] = some y1 := by simpa [k3] using hg 1 _ rfl
      have g2 : DataW.trod enc Tryz.prog w base spare held n 3 [c2] = some y2 := by simpa [k3] using hg 2 _ rfl
      have g3 : DataW.trod enc Tryz.prog w base spare held n 3 [c3] = some y3 := by simpa [k3] using hg 3 _ rfl
      have g4 : DataW.trod enc Tryz.prog w base spare held n 3 [c4] = some y4 := by simpa [k3] using hg 4 _ rfl
      have g5 : DataW.trod enc Tryz.prog w base spare held n 9 [c5] = some y5 := by simpa [k9] using hg 5 _ rfl
      obtain ⟨a0, e0, rfl, f0⟩ := DataW.trod_int Tryz.underlying3 g0
      obtain ⟨a1, e1, rfl, f1⟩ := DataW.trod_int Tryz.underlying3 g1
      obtain ⟨a2, e2, rfl, f2⟩ := DataW.trod_int Tryz.underlying3 g2
      obtain ⟨a3, e3, rfl, f3⟩ := DataW.trod_int Tryz.underlying3 g3
      obtain ⟨a4, e4, rfl, f4⟩ := DataW.trod_int Tryz.underlying3 g4
      obtain ⟨a5, e5, rfl, f5⟩ := DataW.trod_string Tryz.underlying9 g5
      simp only [List.cons.injEq, and_true] at e0 e1 e2 e3 e4 e5
      subst e0 e1 e2 e3 e4 e5
      exact ⟨⟨a0, a1, a2, a3, a4, a5⟩, rfl, hx, f0, f1, f2, f3, f4⟩

set_option maxRecDepth 100000 in
theorem open_span {r : Reach} {b0 : Nat} {v : Value} {d : DataW H} {p : List MemPlace} (hv : Value.okWide Tryz.prog w r b0 30 v) (h : DataW.Trod enc Tryz.prog w base spare held 30 v d p) :
    ∃ s : Sp, v = s.val ∧ d = s.datum ∧ p = [] ∧ s.wf := by
  obtain ⟨cs, rfl, hsz⟩ := okWide_struct Tryz.underlying30 hv
  obtain ⟨fuel, hf⟩ := h
  obtain ⟨s, hc, hx, hw⟩ := open_span_cells hf
  simp only [Prod.mk.injEq] at hx
  refine ⟨s, ?_, hx.1, hx.2, hw⟩
  obtain ⟨l⟩ := cs
  simp only [Value.cells] at hc
  simp only [hc, Sp.cells, Sp.val]

theorem mem_weightsAll {P : Program} {e : TypeId} {α : Type} {g : α → DataW H} {l : List α} {x : α} {n : Nat} (hx : x ∈ l) (hn : n ∈ (g x).weights P e) : n ∈ DataW.weightsAll P e (l.map g) := by
  induction l with
  | nil => simp at hx
  | cons y l ih =>
    simp only [List.map_cons, DataW.weightsAll, List.mem_append]
    rcases List.mem_cons.1 hx with rfl | hx
    · exact .inl hn
    · exact .inr (ih hx)
theorem cell_lt {b off : Nat} {v : Value} (h : w.cell? ⟨b, off, none⟩ = some v) : b < w.heap.size := by
  by_cases hb : b < w.heap.size
  · exact hb
  · simp [World.cell?, Array.getElem?_eq_none (Nat.le_of_not_lt hb)] at h
/-- A span's name that came in is not longer than memory bears. -/
theorem span_reach {ts : List TypeId} {ds : List (DataW H)} {j : Nat} {s : Sp} (h : (DataW.weightsEach Tryz.prog ts ds).all (· ≤ reachBytes) = true) (ht : ts[j]? = some 30) (hd : ds[j]? = some s.datum) : s.nm.size ≤ 140737488351232 := by
  have := List.all_eq_true.1 h _ (DataW.weights_mem_each ht hd s.nm.size (by simp [DataW.weights, Sp.datum, DataW.weightsEach, Tryz.underlying30]))
  simpa only [reachBytes] using of_decide_eq_true this

/-- A choice made for each number below n, as a list. -/
theorem list_of {α : Type} {p : Nat → α → Prop} : ∀ n, (∀ i, i < n → ∃ x, p i x) → ∃ l : List α, l.length = n ∧ ∀ i (h : i < l.length), p i l[i] := by
  intro n
  induction n with
  | zero => intro _; exact ⟨[], rfl, fun i h => absurd h (by simp)⟩
  | succ n ih =>
    intro h
    obtain ⟨l, hl, hp⟩ := ih fun i hi => h i (by omega)
    obtain ⟨x, hx⟩ := h n (by omega)
    refine ⟨l ++ [x], by simp [hl], fun i hi => ?_⟩
    by_cases h1 : i < l.length
    · rw [List.getElem_append_left h1]; exact hp i h1
    · obtain rfl : i = n := by simp at hi; omega
      simpa [List.getElem_append_right (Nat.le_of_eq hl), hl] using hx

/-- A slice that came in reads as a list, if each of its elements can be read. -/
theorem rd_of {α : Type} {f : α → List Value} {sz : Nat} (hf : ∀ x, (f x).length = sz) (hsz : 0 < sz) {a : Addr} {len : Nat} {l : List α} (hl : l.length = len)
    (h : ∀ i (hi : i < l.length), ∀ j, j < sz → w.cell? (a.add (i * sz + j)) = (f l[i])[j]?) : Rd w w.heap.size sz (some a) len (l.flatMap f) := by
  refine ⟨by rw [flat_len f sz hf, hl], fun hn => ?_⟩
  have h0 := h 0 (by omega) 0 hsz
  have h1 : (f l[0])[0]? = some ((f l[0])[0]'(by rw [hf]; exact hsz)) := List.getElem?_eq_getElem _
  rw [h1] at h0
  have hs : a.spot = none := by simpa [Addr.add] using World.cell?_spot h0
  obtain ⟨b, off, spot⟩ := a
  dsimp only at hs
  subst hs
  refine ⟨b, off, rfl, ?_, fun j hj => ?_⟩
  · rw [Addr.add_lit] at h0
    exact cell_lt h0
  · rw [flat_len f sz hf] at hj
    have hq : j / sz < l.length := (Nat.div_lt_iff_lt_mul hsz).2 hj
    have h2 := h (j / sz) hq (j % sz) (Nat.mod_lt _ hsz)
    rw [Addr.add_lit, show j / sz * sz + j % sz = j by rw [Nat.mul_comm]; exact Nat.div_add_mod j sz] at h2
    rw [h2, ← flat_at f sz hf l (j / sz) (j % sz) hq (Nat.mod_lt _ hsz), show j / sz * sz + j % sz = j by rw [Nat.mul_comm]; exact Nat.div_add_mod j sz]
    exact List.getElem?_eq_getElem _
theorem cells_at {a : Addr} {n : Nat} {cs : List Value} (h : w.cells? base a n = some cs) : cs.length = n ∧ ∀ i, i < n → w.cell? (a.add i) = cs[i]? := (World.cells?_some h).2

theorem open_bytes {d : DataW H} {p : List MemPlace} {v : Value} (hv : v.cells.toList = [v]) (h : DataW.Trod enc Tryz.prog w base spare held 32 v d p) :
    ∃ (A : Option Addr) (len cap : Nat) (l : List UInt8), v = .slice A len cap ∧ RdB w w.heap.size A len l ∧ len ≤ cap := by
  obtain ⟨fuel, hf⟩ := h
  rw [hv] at hf
  rcases open_slice Tryz.underlying32 hf with ⟨hcs, _⟩ | ⟨a, len, cap, m, n, D, Pl, hcs, _, hl, _, hm, _, hi⟩
  · simp only [List.cons.injEq, and_true] at hcs
    exact ⟨none, 0, 0, [], hcs, Rd.nil, Nat.le_refl _⟩
  · simp only [List.cons.injEq, and_true] at hcs
    have k1 : Tryz.prog.cellsOf 5 = 1 := by kernel_rfl
    have hle : len ≤ m := by rw [hm]; split <;> omega
    obtain ⟨l, hll, hp⟩ := list_of (p := fun i (x : UInt8) => w.cell? (a.add (i * 1 + 0)) = some (u8v x)) len fun i hi1 => by
      obtain ⟨cs', hc, ht⟩ := hi i (by omega)
      rw [k1] at hc
      obtain ⟨z, rfl, _, hw⟩ := DataW.trod_int Tryz.underlying5 ht
      have h2 := (cells_at hc).2 0 (by omega)
      rw [add_add] at h2
      have hb : 0 ≤ z ∧ z < 256 := by simp [Lit.wf, IntKind.min, IntKind.max, IntKind.signed, IntKind.bits] at hw; omega
      refine ⟨UInt8.ofNat z.toNat, h2.trans ?_⟩
      have e : (UInt8.ofNat z.toNat).toNat = z.toNat := by rw [UInt8.toNat_ofNat']; exact Nat.mod_eq_of_lt (by omega)
      simp only [List.getElem?_cons_zero, u8v, e]
      rw [show ((z.toNat : Nat) : Int) = z by omega]
    have hr := rd_of (f := fun x => [u8v x]) (sz := 1) (fun _ => rfl) (by omega) hll (a := a) fun i hi1 j hj => by
      obtain rfl : j = 0 := by omega
      exact hp i hi1
    have e : ∀ l : List UInt8, l.flatMap (fun x => [u8v x]) = l.map u8v := by
      intro l; induction l with
      | nil => rfl
      | cons x l ih => rw [List.flatMap_cons, ih]; rfl
    rw [e] at hr
    exact ⟨some a, len, cap, l, hcs, hr, hl⟩

theorem open_int {d : DataW H} {p : List MemPlace} {z : Int} (h : DataW.Trod enc Tryz.prog w base spare held 3 (.int .i64 z) d p) : -9223372036854775808 ≤ z ∧ z ≤ 9223372036854775807 := by
  obtain ⟨fuel, hf⟩ := h
  obtain ⟨n, hn, _, hw⟩ := DataW.trod_int Tryz.underlying3 hf
  simp [Value.cells] at hn
  subst hn
  simp [Lit.wf, IntKind.min, IntKind.max, IntKind.signed, IntKind.bits] at hw
  omega
theorem open_ints {d : DataW H} {p : List MemPlace} {v : Value} (hv : v.cells.toList = [v]) (h : DataW.Trod enc Tryz.prog w base spare held 23 v d p) :
    ∃ (A : Option Addr) (len cap : Nat) (l : List Int), v = .slice A len cap ∧ RdI w w.heap.size A len l ∧ len ≤ cap := by
  obtain ⟨fuel, hf⟩ := h
  rw [hv] at hf
  rcases open_slice Tryz.underlying23 hf with ⟨hcs, _⟩ | ⟨a, len, cap, m, n, D, Pl, hcs, _, hl, _, hm, _, hi⟩
  · simp only [List.cons.injEq, and_true] at hcs
    exact ⟨none, 0, 0, [], hcs, Rd.nil, Nat.le_refl _⟩
  · simp only [List.cons.injEq, and_true] at hcs
    have k1 : Tryz.prog.cellsOf 3 = 1 := by kernel_rfl
    have hle : len ≤ m := by rw [hm]; split <;> omega
    obtain ⟨l, hll, hp⟩ := list_of (p := fun i (x : Int) => w.cell? (a.add (i * 1 + 0)) = some (Value.int .i64 x)) len fun i hi1 => by
      obtain ⟨cs', hc, ht⟩ := hi i (by omega)
      rw [k1] at hc
      obtain ⟨z, rfl, _, hw⟩ := DataW.trod_int Tryz.underlying3 ht
      have h2 := (cells_at hc).2 0 (by omega)
      rw [add_add] at h2
      exact ⟨z, by rw [show i * 1 + 0 = i * 1 by omega] at h2 ⊢; exact h2⟩
    have hr := rd_of (f := fun x => [Value.int .i64 x]) (sz := 1) (fun _ => rfl) (by omega) hll (a := a) fun i hi1 j hj => by
      obtain rfl : j = 0 := by omega
      exact hp i hi1
    have e : ∀ l : List Int, l.flatMap (fun x => [Value.int .i64 x]) = l.map (Value.int .i64) := by
      intro l; induction l with
      | nil => rfl
      | cons x l ih => rw [List.flatMap_cons, ih]; rfl
    rw [e] at hr
    exact ⟨some a, len, cap, l, hcs, hr, hl⟩

theorem open_spans {d : DataW H} {p : List MemPlace} {v : Value} (hv : v.cells.toList = [v]) (h : DataW.Trod enc Tryz.prog w base spare held 22 v d p) :
    ∃ (A : Option Addr) (len cap : Nat) (l : List Sp), v = .slice A len cap ∧ RdS w w.heap.size A len l ∧ (∀ s ∈ l, s.wf) ∧ ((l = [] ∧ d = .nil) ∨ ∃ sp, d = .slice (l.map Sp.datum) sp) := by
  obtain ⟨fuel, hf⟩ := h
  rw [hv] at hf
  rcases open_slice Tryz.underlying22 hf with ⟨hcs, hx⟩ | ⟨a, len, cap, m, n, D, Pl, hcs, _, hl, _, hm, hx, hi⟩
  · simp only [List.cons.injEq, and_true] at hcs
    simp only [Prod.mk.injEq] at hx
    exact ⟨none, 0, 0, [], hcs, Rd.nil, by simp, .inl ⟨rfl, hx.1⟩⟩
  · simp only [List.cons.injEq, and_true] at hcs
    simp only [Prod.mk.injEq] at hx
    have hle : len ≤ m := by rw [hm]; split <;> omega
    obtain ⟨l, hll, hp⟩ := list_of (p := fun i (s : Sp) => (∀ j, j < 6 → w.cell? (a.add (i * 6 + j)) = s.cells[j]?) ∧ s.wf ∧ D i = s.datum) len fun i hi1 => by
      obtain ⟨cs', hc, ht⟩ := hi i (by omega)
      rw [cellsOf_span] at hc
      obtain ⟨s, rfl, hx2, hw⟩ := open_span_cells ht
      simp only [Prod.mk.injEq] at hx2
      refine ⟨s, fun j hj => ?_, hw, hx2.1⟩
      have h2 := (cells_at hc).2 j hj
      rwa [add_add] at h2
    have hr := rd_of (f := Sp.cells) (sz := 6) Sp.cells_len (by omega) hll (a := a) fun i hi1 j hj => (hp i hi1).1 j hj
    refine ⟨some a, len, cap, l, hcs, hr, fun s hs => ?_, .inr ⟨(List.range (m - len)).map fun j => D (len + j), ?_⟩⟩
    · obtain ⟨i, hi1, rfl⟩ := List.mem_iff_getElem.1 hs
      exact (hp i hi1).2.1
    · rw [hx.1]
      have e : (List.range len).map D = l.map Sp.datum := by
        apply List.ext_getElem
        · simp [hll]
        · intro i h1 h2
          simp only [List.length_map] at h2
          simp [(hp i h2).2.2]
      rw [e]

/-- What came in is not longer than memory bears: spans. -/
theorem spans_reach {ts : List TypeId} {ds : List (DataW H)} {j : Nat} {l : List Sp} {d : DataW H} (h : (DataW.weightsEach Tryz.prog ts ds).all (· ≤ reachBytes) = true) (ht : ts[j]? = some 22) (hd : ds[j]? = some d) (hdl : (l = [] ∧ d = .nil) ∨ ∃ sp, d = .slice (l.map Sp.datum) sp) :
    l.length * 56 ≤ 140737488351232 ∧ ∀ s ∈ l, s.nm.size ≤ 140737488351232 := by
  rcases hdl with ⟨rfl, _⟩ | ⟨sp, rfl⟩
  · simp
  · constructor
    · have h1 := sized_slice h ht hd Tryz.underlying22
      have hb : Tryz.prog.bytesOf 30 = 56 := by kernel_rfl
      rw [hb, List.length_map] at h1
      simp only [reachBytes] at h1
      omega
    · intro s hs
      have h2 := List.all_eq_true.1 h _ (DataW.weights_mem_each ht hd s.nm.size (by
        simp only [DataW.weights, Tryz.underlying22, List.mem_cons, List.mem_append]
        right; left
        exact mem_weightsAll hs (by simp [DataW.weights, Sp.datum, DataW.weightsEach, Tryz.underlying30])))
      simpa only [reachBytes] using of_decide_eq_true h2
end
end Go.Proofs.YtempkjnaahgbhaaGreatDoor
