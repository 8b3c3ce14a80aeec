/-
  Entries, commands, replies, calls and views that came in as arguments, opened to their parts. No condition: plain lemmas over the reading of data.
  The walk of slices.Equal at branches: whether two lists are the same. Conditions: the slices read as lists, not longer than memory bears.
  The walk of slices.Equal at branches whose depth is any number: whether two lists are the same. Conditions: the slices read as lists, not longer than memory bears.
  The plain side of audit: what a log's entries answer, what explains a call, where it took effect, the first call that no order explains; what is found of views. No condition.
  Calls in memory; the walks of audit.First and behind. Conditions: entries and calls whose slices read as lists, not more than memory bears.
  The walks of the audit laws' bounds: weight, calls, light, views: what they let by is little. Conditions: what came in reads as lists, not longer than memory bears.
  The walk of audit.behind. Conditions: entries and calls whose slices read as lists, not more than memory bears.
  Replies compared. No condition.
  The walks of a machine's New and Lookup. Conditions: voters that read as a list; the machine lies in memory as New made it.
-/
import Derived.Test.YtfjpenbahoeklaaGreatDoorHOpen
import Derived.Test.YtfjpenbahoeklaaGreatDoorHForest3
import Derived.Test.YtfjpenbahoeklaaGreatDoorHSorted
import Derived.Test.YtfjpenbahoeklaaGreatDoorHMachN
import Derived.Test.YtfjpenbahoeklaaGreatDoorHMachG
import Derived.Deep.MidRow
import Derived.Deep.DeepCutAuto
import Derived.Deep.CutBlock
namespace Go.Proofs.YtfjpenbahoeklaaGreatDoor
open Go.ChangeShapes Go.WideShapes Go.ChangeAt Go.RowKit Go.Deep

section
variable {H : Type} {enc : TypeId × Value → H} {w : World} {base : Nat} {spare : Nat → Bool} {held : Bool}
theorem slice_of_bytes {n : Nat} {c : Value} {y : DataW H × List MemPlace} (g : DataW.trod enc Tryz.prog w base spare held n 73 [c] = some y) : ∃ A len cap l, c = .slice A len cap ∧ RdB w w.heap.size A len l ∧ len ≤ cap := by
  have hc : ∀ v : Value, v.cells.toList = [v] → v = c → ∃ A len cap l, c = .slice A len cap ∧ RdB w w.heap.size A len l ∧ len ≤ cap := fun v hv hvc => by
    subst hvc
    exact open_bytes (d := y.1) (p := y.2) hv ⟨n, by rw [hv]; exact g⟩
  rcases open_slice Tryz.underlying73 g with ⟨hcs, _⟩ | ⟨a, len, cap, m, n, D, Pl, hcs, _⟩
  · exact hc (.slice none 0 0) rfl (by simpa using hcs.symm)
  · exact hc (.slice (some a) len cap) rfl (by simpa using hcs.symm)
theorem slice_of_ints {n : Nat} {c : Value} {y : DataW H × List MemPlace} (g : DataW.trod enc Tryz.prog w base spare held n 22 [c] = some y) : ∃ A len cap l, c = .slice A len cap ∧ RdI w w.heap.size A len l ∧ len ≤ cap := by
  have hc : ∀ v : Value, v.cells.toList = [v] → v = c → ∃ A len cap l, c = .slice A len cap ∧ RdI w w.heap.size A len l ∧ len ≤ cap := fun v hv hvc => by
    subst hvc
    exact open_ints (d := y.1) (p := y.2) hv ⟨n, by rw [hv]; exact g⟩
  rcases open_slice Tryz.underlying22 g with ⟨hcs, _⟩ | ⟨a, len, cap, m, n, D, Pl, hcs, _⟩
  · exact hc (.slice none 0 0) rfl (by simpa using hcs.symm)
  · exact hc (.slice (some a) len cap) rfl (by simpa using hcs.symm)
set_option maxRecDepth 100000 in
theorem open_entry_cells {fuel : Nat} {cs : List Value} {x : DataW H × List MemPlace} (hf : DataW.trod enc Tryz.prog w base spare held fuel 75 cs = some x) :
    ∃ p : EnV, cs = p.cells ∧ RdB w w.heap.size p.A p.n p.da := by
  obtain ⟨xs, n, _, hx, hlen, hxl, hg⟩ := DataW.trod_struct Tryz.underlying75 hf
  have hC : Tryz.prog.cellsOf 75 = 3 := by kernel_rfl
  have k3 : Tryz.prog.cellsOf 3 = 1 := by kernel_rfl
  have k9 : Tryz.prog.cellsOf 73 = 1 := by kernel_rfl
  match cs, hlen.trans hC with
  | [c0, c1, c2], _ =>
    match xs, hxl with
    | [y0, y1, y2], _ =>
      have g0 : DataW.trod enc Tryz.prog w base spare held n 3 [c0] = some y0 := by simpa [k3] using hg 0 _ rfl
      have g1 : DataW.trod enc Tryz.prog w base spare held n 3 [c1] = some y1 := by simpa [k3, k9] using hg 1 _ rfl
      have g2 : DataW.trod enc Tryz.prog w base spare held n 73 [c2] = some y2 := by simpa [k3, k9] using hg 2 _ rfl
      obtain ⟨a0, e0, _, _⟩ := DataW.trod_int Tryz.underlying3 g0
      obtain ⟨a1, e1, _, _⟩ := DataW.trod_int Tryz.underlying3 g1
      simp only [List.cons.injEq, and_true] at e0 e1
      obtain ⟨A, len, cap, l, h1, h2, _⟩ := slice_of_bytes g2
      exact ⟨⟨a0, a1, A, len, cap, l⟩, by rw [e0, e1, h1]; rfl, h2⟩
/-- A list of structs that came in, opened. -/
theorem open_rows {α : Type} {f : α → List Value} {sz : Nat} {T S : TypeId} {q : α → Prop} (hu : Tryz.prog.underlying T = some (.slice S)) (hS : Tryz.prog.cellsOf S = sz) (hsz : 0 < sz) (hf : ∀ x, (f x).length = sz)
    (ho : ∀ {fuel : Nat} {cs : List Value} {x : DataW H × List MemPlace}, DataW.trod enc Tryz.prog w base spare held fuel S cs = some x → ∃ p : α, cs = f p ∧ q p)
    {d : DataW H} {p : List MemPlace} {v : Value} (hv : v.cells.toList = [v]) (h : DataW.Trod enc Tryz.prog w base spare held T v d p) :
    ∃ (A : Option Addr) (len cap : Nat) (l : List α), v = .slice A len cap ∧ Rd w w.heap.size sz A len (l.flatMap f) ∧ (∀ x ∈ l, q x) ∧ len ≤ cap := by
  obtain ⟨fuel, hf2⟩ := h
  rw [hv] at hf2
  rcases open_slice hu hf2 with ⟨hcs, _⟩ | ⟨a, len, cap, m, n, D, Pl, hcs, _, hl, _, hm, _, hi⟩
  · simp only [List.cons.injEq, and_true] at hcs
    exact ⟨none, 0, 0, [], hcs, Rd.nil, by simp, Nat.le_refl _⟩
  · simp only [List.cons.injEq, and_true] at hcs
    have hle : len ≤ m := by rw [hm]; split <;> omega
    obtain ⟨l, hll, hp⟩ := list_of (p := fun i (x : α) => (∀ j, j < sz → w.cell? (a.add (i * sz + j)) = (f x)[j]?) ∧ q x) len fun i hi1 => by
      obtain ⟨cs', hc, ht⟩ := hi i (by omega)
      rw [hS] at hc
      obtain ⟨x, rfl, hq⟩ := ho ht
      refine ⟨x, fun j hj => ?_, hq⟩
      have h2 := (cells_at hc).2 j hj
      rwa [add_add] at h2
    have hr := rd_of (f := f) (sz := sz) hf hsz hll (a := a) fun i hi1 j hj => (hp i hi1).1 j hj
    refine ⟨some a, len, cap, l, hcs, hr, fun x hx => ?_, hl⟩
    obtain ⟨i, hi1, rfl⟩ := List.mem_iff_getElem.1 hx
    exact (hp i hi1).2
theorem open_entries {d : DataW H} {p : List MemPlace} {v : Value} (hv : v.cells.toList = [v]) (h : DataW.Trod enc Tryz.prog w base spare held 23 v d p) :
    ∃ (A : Option Addr) (len cap : Nat) (es : List EnV), v = .slice A len cap ∧ RdEn w w.heap.size A len es ∧ len ≤ cap := by
  obtain ⟨A, len, cap, l, h1, h2, h3, h4⟩ := open_rows (f := EnV.cells) (q := fun e : EnV => RdB w w.heap.size e.A e.n e.da) Tryz.underlying23 (by kernel_rfl) (by omega) EnV.cells_len open_entry_cells hv h
  exact ⟨A, len, cap, l, h1, ⟨h2, h3⟩, h4⟩
theorem slice_of_entries {n : Nat} {c : Value} {y : DataW H × List MemPlace} (g : DataW.trod enc Tryz.prog w base spare held n 23 [c] = some y) : ∃ A len cap l, c = .slice A len cap ∧ RdEn w w.heap.size A len l ∧ len ≤ cap := by
  have hc : ∀ v : Value, v.cells.toList = [v] → v = c → ∃ A len cap l, c = .slice A len cap ∧ RdEn w w.heap.size A len l ∧ len ≤ cap := fun v hv hvc => by
    subst hvc
    exact open_entries (d := y.1) (p := y.2) hv ⟨n, by rw [hv]; exact g⟩
  rcases open_slice Tryz.underlying23 g with ⟨hcs, _⟩ | ⟨a, len, cap, m, n, D, Pl, hcs, _⟩
  · exact hc (.slice none 0 0) rfl (by simpa using hcs.symm)
  · exact hc (.slice (some a) len cap) rfl (by simpa using hcs.symm)
set_option maxRecDepth 100000 in
theorem open_hard_cells {fuel : Nat} {cs : List Value} {x : DataW H × List MemPlace} (hf : DataW.trod enc Tryz.prog w base spare held fuel 57 cs = some x) : ∃ a b : Int, cs = [.int .i64 a, .int .i64 b] := by
  obtain ⟨xs, n, _, hx, hlen, hxl, hg⟩ := DataW.trod_struct Tryz.underlying57 hf
  have hC : Tryz.prog.cellsOf 57 = 2 := by kernel_rfl
  have k3 : Tryz.prog.cellsOf 3 = 1 := by kernel_rfl
  match cs, hlen.trans hC with
  | [c0, c1], _ =>
    match xs, hxl with
    | [y0, y1], _ =>
      have g0 : DataW.trod enc Tryz.prog w base spare held n 3 [c0] = some y0 := by simpa [k3] using hg 0 _ rfl
      have g1 : DataW.trod enc Tryz.prog w base spare held n 3 [c1] = some y1 := by simpa [k3] using hg 1 _ rfl
      obtain ⟨a0, e0, _, _⟩ := DataW.trod_int Tryz.underlying3 g0
      obtain ⟨a1, e1, _, _⟩ := DataW.trod_int Tryz.underlying3 g1
      simp only [List.cons.injEq, and_true] at e0 e1
      exact ⟨a0, a1, by rw [e0, e1]⟩
set_option maxRecDepth 100000 in
theorem open_view_cells {fuel : Nat} {cs : List Value} {x : DataW H × List MemPlace} (hf : DataW.trod enc Tryz.prog w base spare held fuel 59 cs = some x) :
    ∃ p : VwV, cs = p.cells ∧ RdEn w w.heap.size p.eA p.en p.es := by
  obtain ⟨xs, n, _, hx, hlen, hxl, hg⟩ := DataW.trod_struct Tryz.underlying59 hf
  have hC : Tryz.prog.cellsOf 59 = 10 := by kernel_rfl
  have k3 : Tryz.prog.cellsOf 3 = 1 := by kernel_rfl
  have k9 : Tryz.prog.cellsOf 22 = 1 := by kernel_rfl
  have k8 : Tryz.prog.cellsOf 23 = 1 := by kernel_rfl
  have k7 : Tryz.prog.cellsOf 57 = 2 := by kernel_rfl
  match cs, hlen.trans hC with
  | [c0, c1, c2, c3, c4, c5, c6, c7, c8, c9], _ =>
    match xs, hxl with
    | [y0, y1, y2, y3, y4, y5, y6, y7, y8], _ =>
      have g0 : DataW.trod enc Tryz.prog w base spare held n 3 [c0] = some y0 := by simpa [k3, k7, k8, k9] using hg 0 _ rfl
      have g1 : DataW.trod enc Tryz.prog w base spare held n 3 [c1] = some y1 := by simpa [k3, k7, k8, k9] using hg 1 _ rfl
      have g2 : DataW.trod enc Tryz.prog w base spare held n 3 [c2] = some y2 := by simpa [k3, k7, k8, k9] using hg 2 _ rfl
      have g3 : DataW.trod enc Tryz.prog w base spare held n 57 [c3, c4] = some y3 := by simpa [k3, k7, k8, k9] using hg 3 _ rfl
      have g4 : DataW.trod enc Tryz.prog w base spare held n 3 [c5] = some y4 := by simpa [k3, k7, k8, k9] using hg 4 _ rfl
      have g5 : DataW.trod enc Tryz.prog w base spare held n 3 [c6] = some y5 := by simpa [k3, k7, k8, k9] using hg 5 _ rfl
      have g6 : DataW.trod enc Tryz.prog w base spare held n 3 [c7] = some y6 := by simpa [k3, k7, k8, k9] using hg 6 _ rfl
      have g7 : DataW.trod enc Tryz.prog w base spare held n 22 [c8] = some y7 := by simpa [k3, k7, k8, k9] using hg 7 _ rfl
      have g8 : DataW.trod enc Tryz.prog w base spare held n 23 [c9] = some y8 := by simpa [k3, k7, k8, k9] using hg 8 _ rfl
      obtain ⟨a0, e0, _, _⟩ := DataW.trod_int Tryz.underlying3 g0
      obtain ⟨a1, e1, _, _⟩ := DataW.trod_int Tryz.underlying3 g1
      obtain ⟨a2, e2, _, _⟩ := DataW.trod_int Tryz.underlying3 g2
      obtain ⟨a3, a4, e3⟩ := open_hard_cells g3
      obtain ⟨a5, e5, _, _⟩ := DataW.trod_int Tryz.underlying3 g4
      obtain ⟨a6, e6, _, _⟩ := DataW.trod_int Tryz.underlying3 g5
      obtain ⟨a7, e7, _, _⟩ := DataW.trod_int Tryz.underlying3 g6
      simp only [List.cons.injEq, and_true] at e0 e1 e2 e3 e5 e6 e7
      obtain ⟨A8, n8, cap8, _, h8, _, _⟩ := slice_of_ints g7
      obtain ⟨A9, n9, cap9, l9, h9, r9, _⟩ := slice_of_entries g8
      exact ⟨⟨a0, a1, a2, a3, a4, a5, a6, a7, A8, n8, cap8, A9, n9, cap9, l9⟩, by rw [e0, e1, e2, e3.1, e3.2, e5, e6, e7, h8, h9]; rfl, r9⟩
theorem open_views {d : DataW H} {p : List MemPlace} {v : Value} (hv : v.cells.toList = [v]) (h : DataW.Trod enc Tryz.prog w base spare held 38 v d p) :
    ∃ (A : Option Addr) (len cap : Nat) (vs : List VwV), v = .slice A len cap ∧ RdVw w w.heap.size A len vs ∧ len ≤ cap := by
  obtain ⟨A, len, cap, l, h1, h2, h3, h4⟩ := open_rows (f := VwV.cells) (q := fun e : VwV => RdEn w w.heap.size e.eA e.en e.es) Tryz.underlying38 (by kernel_rfl) (by omega) VwV.cells_len open_view_cells hv h
  exact ⟨A, len, cap, l, h1, ⟨h2, h3⟩, h4⟩
end
end Go.Proofs.YtfjpenbahoeklaaGreatDoor
namespace Go.Proofs.YtfjpenbahoeklaaGreatDoor
open Go Go.RowKit

/-- A slice of branches. -/
def RdBr (w : World) (B : Nat) (A : Option Addr) (n : Nat) (l : List Br) : Prop := Rd w B 8 A n (l.flatMap Br.cells)
theorem RdBr.len {w : World} {B n : Nat} {A : Option Addr} {l : List Br} (h : RdBr w B A n l) : l.length = n := by
  have h1 := h.1; rw [flat_len _ 8 Br.cells_len] at h1; omega
theorem RdBr.at_ {w : World} {B n k : Nat} {A : Option Addr} {l : List Br} (h : RdBr w B A n l) (hk : k < l.length) :
    ∃ b off, A = some ⟨b, off, none⟩ ∧ b < B ∧ w.cell? ⟨b, off + k * 8, none⟩ = some (.int .i64 l[k].dp) ∧ w.cell? ⟨b, off + k * 8 + 1, none⟩ = some (.bool l[k].orp) ∧ w.cell? ⟨b, off + k * 8 + 2, none⟩ = some (.int .i64 l[k].sp.tr) ∧ w.cell? ⟨b, off + k * 8 + 3, none⟩ = some (.int .i64 l[k].sp.id) ∧ w.cell? ⟨b, off + k * 8 + 4, none⟩ = some (.int .i64 l[k].sp.pa) ∧
      w.cell? ⟨b, off + k * 8 + 5, none⟩ = some (.int .i64 l[k].sp.st) ∧ w.cell? ⟨b, off + k * 8 + 6, none⟩ = some (.int .i64 l[k].sp.en) ∧ w.cell? ⟨b, off + k * 8 + 7, none⟩ = some (.string l[k].sp.nm) := by
  have hl := h.len
  obtain ⟨b, off, e, hb, hc⟩ := Rd.elem Br.cells_len h (k := k) (by omega) hk
  exact ⟨b, off, e, hb, hc 0 (by omega), hc 1 (by omega), hc 2 (by omega), hc 3 (by omega), hc 4 (by omega), hc 5 (by omega), hc 6 (by omega), hc 7 (by omega)⟩
theorem br_dec (s t : Br) : ∃ q : Bool, q = true ↔ s = t := by
  by_cases h : s = t
  · exact ⟨true, by simp [h]⟩
  · exact ⟨false, by simp [h]⟩
theorem br_if {α : Type} {s t : Br} {q : Bool} (hq : q = true ↔ s = t) (a b : α) :
    (if (s.dp : Int) = (t.dp : Int) then if s.orp = t.orp then if s.sp.tr = t.sp.tr then if s.sp.id = t.sp.id then if s.sp.pa = t.sp.pa then if s.sp.st = t.sp.st then if s.sp.en = t.sp.en then if s.sp.nm.toList = t.sp.nm.toList then a else b else b else b else b else b else b else b else b) = if q = true then a else b := by
  obtain ⟨q', hq'⟩ := span_dec s.sp t.sp
  rw [span_if hq']
  by_cases h1 : (s.dp : Int) = (t.dp : Int)
  · rw [if_pos h1]
    by_cases h2 : s.orp = t.orp
    · rw [if_pos h2]
      have e : (q' = true) ↔ (q = true) := by
        rw [hq', hq]
        constructor
        · intro h; cases s; cases t; simp at h2 h; simp only [Br.mk.injEq]; exact ⟨Int.ofNat.inj h1, h2, h⟩
        · rintro rfl; rfl
      by_cases h3 : q' = true
      · rw [if_pos h3, if_pos (e.1 h3)]
      · rw [if_neg h3, if_neg (fun h => h3 (e.2 h))]
    · rw [if_neg h2, if_neg (fun h => h2 (by rw [hq.1 h]))]
  · rw [if_neg h1, if_neg (fun h => h1 (by rw [hq.1 h]))]

set_option maxRecDepth 100000 in
set_option maxHeartbeats 400000 in
theorem eqB_any (A1 A2 : Option Addr) (n1 n2 c1 c2 B1 B2 : Nat) (l1 l2 : List Br) (w : World) (h1 : RdBr w B1 A1 n1 l1) (h2 : RdBr w B2 A2 n2 l2) (hb : n1 ≤ 140737488355328) :
    Calls Tryz.prog 57 #[.slice A1 n1 c1, .slice A2 n2 c2] w (ResEq w (l1 = l2)) := by
  have hl1 := h1.len
  have hl2 := h2.len
  subst hl1 hl2
  by_cases hlen : l1.length = l2.length
  · go_enter Tryz.func57, Tryz.ntmps57
    go_wp2_with fail
    go_loopw [13] (fun i wr => ∃ k n : Nat, k ≤ l1.length ∧ i = .int .i64 k ∧ wr = w.drewN n ∧ l1.take k = l2.take k) (fun i _ => l1.length - (intOf i).toNat)
    case atStart => exact ⟨0, 0, by omega, rfl, rfl, by simp⟩
    case round =>
      obtain ⟨k, n, hk, rfl, rfl, ht⟩ := hrel
      by_cases hlt : k < l1.length
      · obtain ⟨b1, o1, rfl, _, x0, x1, x2, x3, x4, x5, x6, x7⟩ := h1.at_ hlt
        obtain ⟨b2, o2, rfl, _, y0, y1, y2, y3, y4, y5, y6, y7⟩ := h2.at_ (k := k) (by omega)
        have HT1 := Lib.hid (List.take_succ_eq_append_getElem hlt)
        have HT2 := Lib.hid (List.take_succ_eq_append_getElem (l := l2) (i := k) (by omega))
        have HT := Lib.hid ht
        generalize l1[k] = s at *
        generalize l2[k] = t at *
        clear h1 h2 ht
        have hk1 : (k : Int) < (l1.length : Int) := by omega
        have hk2 : (k : Int) < (l2.length : Int) := by omega
        go_wp2_with fail
        obtain ⟨q, hq⟩ := br_dec s t
        cases q
        · have HQ := Lib.hid hq
          clear hq
          refine wp_region_sched [(0, true), (1, true), (2, true), (3, true), (4, true), (5, true), (6, true), (7, true), (8, true)] (fun W => ∃ m, W = w.drewN m) (by kernel_rfl) (by kernel_rfl) rfl (by kernel_rfl) (⟨n + 1, rfl⟩) ?_
          repeat (first | (apply sched_take rfl; (focus (first | rfl | (go_simp; done))); (focus (intro W hW; obtain ⟨m, rfl⟩ := hW; go_simp; rfl)); (focus (intro K hK; go_simp; refine hK _ ?_; clear hK K))) | (apply sched_skip rfl; (focus (first | rfl | (go_simp; done))); (focus (intro K hK; go_simp; refine hK _ ?_; clear hK K))))
          apply sched_take rfl
          · rfl
          · intro W hW; obtain ⟨m, rfl⟩ := hW; go_simp; exact (br_if HQ.out _ _).trans rfl
          intro K hK; go_simp; refine hK _ ?_; clear hK K
          refine sched_nil ?_
          go_wp2_with fail
          go_ret
          refine ⟨false, rfl, ⟨(fun h => by cases h), fun h => ?_⟩, n + 1, rfl⟩
          have e := HT1.out
          rw [h, HT2.out] at e
          have e2 := List.append_cancel_left e
          simp only [List.cons.injEq, and_true] at e2
          exact absurd (HQ.out.2 e2.symm) (by simp)
        · have HQ := Lib.hid hq
          have HE := Lib.hid (hq.1 rfl)
          clear hq
          refine wp_region_sched [(0, true), (1, true), (2, true), (3, true), (4, true), (5, true), (6, true), (7, true), (8, true)] (fun W => ∃ m, W = w.drewN m) (by kernel_rfl) (by kernel_rfl) rfl (by kernel_rfl) (⟨n + 1, rfl⟩) ?_
          repeat (first | (apply sched_take rfl; (focus (first | rfl | (go_simp; done))); (focus (intro W hW; obtain ⟨m, rfl⟩ := hW; go_simp; rfl)); (focus (intro K hK; go_simp; refine hK _ ?_; clear hK K))) | (apply sched_skip rfl; (focus (first | rfl | (go_simp; done))); (focus (intro K hK; go_simp; refine hK _ ?_; clear hK K))))
          apply sched_take rfl
          · rfl
          · intro W hW; obtain ⟨m, rfl⟩ := hW; go_simp; exact (br_if HQ.out _ _).trans rfl
          intro K hK; go_simp; refine hK _ ?_; clear hK K
          refine sched_nil ?_
          go_wp2_with fail
          go_roundw
          case rel =>
            refine ⟨_, _, _, ⟨k + 1, by omega, ?_, ⟨n + 1, rfl⟩, ?_⟩, rfl, rfl, rfl⟩
            · go_num
            · rw [HT1.out, HT2.out, HT.out, HE.out]
          case measure => simp [intOf]; omega
      · go_wp2_with fail
        go_ret
        rw [List.take_of_length_le (by omega), List.take_of_length_le (by omega)] at ht
        exact ⟨_, rfl, by simp [ht], n, rfl⟩
  · have hne : ((l1.length : Int) == l2.length) = false := by simp; omega
    go_enter Tryz.func57, Tryz.ntmps57
    go_wp2_with fail
    go_ret
    exact ⟨_, rfl, ⟨(fun h => by cases h), fun h => absurd (congrArg List.length h) hlen⟩, 0, rfl⟩

end Go.Proofs.YtfjpenbahoeklaaGreatDoor
namespace Go.Proofs.YtfjpenbahoeklaaGreatDoor
open Go Go.RowKit

/-- A branch as it may come in: its depth is any number. -/
structure BrZ where
  dp : Int
  orp : Bool
  sp : Sp
def BrZ.cells (b : BrZ) : List Value := [.int .i64 b.dp, .bool b.orp, .int .i64 b.sp.tr, .int .i64 b.sp.id, .int .i64 b.sp.pa, .int .i64 b.sp.st, .int .i64 b.sp.en, .string b.sp.nm]
theorem BrZ.cells_len (b : BrZ) : b.cells.length = 8 := rfl
def Br.z (b : Br) : BrZ := ⟨b.dp, b.orp, b.sp⟩
/-- A slice of branches. -/
def RdBrZ (w : World) (B : Nat) (A : Option Addr) (n : Nat) (l : List BrZ) : Prop := Rd w B 8 A n (l.flatMap BrZ.cells)
theorem RdBrZ.len {w : World} {B n : Nat} {A : Option Addr} {l : List BrZ} (h : RdBrZ w B A n l) : l.length = n := by
  have h1 := h.1; rw [flat_len _ 8 BrZ.cells_len] at h1; omega
theorem RdBrZ.at_ {w : World} {B n k : Nat} {A : Option Addr} {l : List BrZ} (h : RdBrZ w B A n l) (hk : k < l.length) :
    ∃ b off, A = some ⟨b, off, none⟩ ∧ b < B ∧ w.cell? ⟨b, off + k * 8, none⟩ = some (.int .i64 l[k].dp) ∧ w.cell? ⟨b, off + k * 8 + 1, none⟩ = some (.bool l[k].orp) ∧ w.cell? ⟨b, off + k * 8 + 2, none⟩ = some (.int .i64 l[k].sp.tr) ∧ w.cell? ⟨b, off + k * 8 + 3, none⟩ = some (.int .i64 l[k].sp.id) ∧ w.cell? ⟨b, off + k * 8 + 4, none⟩ = some (.int .i64 l[k].sp.pa) ∧
      w.cell? ⟨b, off + k * 8 + 5, none⟩ = some (.int .i64 l[k].sp.st) ∧ w.cell? ⟨b, off + k * 8 + 6, none⟩ = some (.int .i64 l[k].sp.en) ∧ w.cell? ⟨b, off + k * 8 + 7, none⟩ = some (.string l[k].sp.nm) := by
  have hl := h.len
  obtain ⟨b, off, e, hb, hc⟩ := Rd.elem BrZ.cells_len h (k := k) (by omega) hk
  exact ⟨b, off, e, hb, hc 0 (by omega), hc 1 (by omega), hc 2 (by omega), hc 3 (by omega), hc 4 (by omega), hc 5 (by omega), hc 6 (by omega), hc 7 (by omega)⟩
theorem brz_dec (s t : BrZ) : ∃ q : Bool, q = true ↔ s = t := by
  by_cases h : s = t
  · exact ⟨true, by simp [h]⟩
  · exact ⟨false, by simp [h]⟩
theorem brz_if {α : Type} {s t : BrZ} {q : Bool} (hq : q = true ↔ s = t) (a b : α) :
    (if (s.dp : Int) = (t.dp : Int) then if s.orp = t.orp then if s.sp.tr = t.sp.tr then if s.sp.id = t.sp.id then if s.sp.pa = t.sp.pa then if s.sp.st = t.sp.st then if s.sp.en = t.sp.en then if s.sp.nm.toList = t.sp.nm.toList then a else b else b else b else b else b else b else b else b) = if q = true then a else b := by
  obtain ⟨q', hq'⟩ := span_dec s.sp t.sp
  rw [span_if hq']
  by_cases h1 : (s.dp : Int) = (t.dp : Int)
  · rw [if_pos h1]
    by_cases h2 : s.orp = t.orp
    · rw [if_pos h2]
      have e : (q' = true) ↔ (q = true) := by
        rw [hq', hq]
        constructor
        · intro h; cases s; cases t; simp at h2 h; simp only [BrZ.mk.injEq]; exact ⟨h1, h2, h⟩
        · rintro rfl; rfl
      by_cases h3 : q' = true
      · rw [if_pos h3, if_pos (e.1 h3)]
      · rw [if_neg h3, if_neg (fun h => h3 (e.2 h))]
    · rw [if_neg h2, if_neg (fun h => h2 (by rw [hq.1 h]))]
  · rw [if_neg h1, if_neg (fun h => h1 (by rw [hq.1 h]))]

set_option maxRecDepth 100000 in
set_option maxHeartbeats 400000 in
theorem eqBZ_any (A1 A2 : Option Addr) (n1 n2 c1 c2 B1 B2 : Nat) (l1 l2 : List BrZ) (w : World) (h1 : RdBrZ w B1 A1 n1 l1) (h2 : RdBrZ w B2 A2 n2 l2) (hb : n1 ≤ 140737488355328) :
    Calls Tryz.prog 57 #[.slice A1 n1 c1, .slice A2 n2 c2] w (ResEq w (l1 = l2)) := by
  have hl1 := h1.len
  have hl2 := h2.len
  subst hl1 hl2
  by_cases hlen : l1.length = l2.length
  · go_enter Tryz.func57, Tryz.ntmps57
    go_wp2_with fail
    go_loopw [13] (fun i wr => ∃ k n : Nat, k ≤ l1.length ∧ i = .int .i64 k ∧ wr = w.drewN n ∧ l1.take k = l2.take k) (fun i _ => l1.length - (intOf i).toNat)
    case atStart => exact ⟨0, 0, by omega, rfl, rfl, by simp⟩
    case round =>
      obtain ⟨k, n, hk, rfl, rfl, ht⟩ := hrel
      by_cases hlt : k < l1.length
      · obtain ⟨b1, o1, rfl, _, x0, x1, x2, x3, x4, x5, x6, x7⟩ := h1.at_ hlt
        obtain ⟨b2, o2, rfl, _, y0, y1, y2, y3, y4, y5, y6, y7⟩ := h2.at_ (k := k) (by omega)
        have HT1 := Lib.hid (List.take_succ_eq_append_getElem hlt)
        have HT2 := Lib.hid (List.take_succ_eq_append_getElem (l := l2) (i := k) (by omega))
        have HT := Lib.hid ht
        generalize l1[k] = s at *
        generalize l2[k] = t at *
        clear h1 h2 ht
        have hk1 : (k : Int) < (l1.length : Int) := by omega
        have hk2 : (k : Int) < (l2.length : Int) := by omega
        go_wp2_with fail
        obtain ⟨q, hq⟩ := brz_dec s t
        cases q
        · have HQ := Lib.hid hq
          clear hq
          refine wp_region_sched [(0, true), (1, true), (2, true), (3, true), (4, true), (5, true), (6, true), (7, true), (8, true)] (fun W => ∃ m, W = w.drewN m) (by kernel_rfl) (by kernel_rfl) rfl (by kernel_rfl) (⟨n + 1, rfl⟩) ?_
          repeat (first | (apply sched_take rfl; (focus (first | rfl | (go_simp; done))); (focus (intro W hW; obtain ⟨m, rfl⟩ := hW; go_simp; rfl)); (focus (intro K hK; go_simp; refine hK _ ?_; clear hK K))) | (apply sched_skip rfl; (focus (first | rfl | (go_simp; done))); (focus (intro K hK; go_simp; refine hK _ ?_; clear hK K))))
          apply sched_take rfl
          · rfl
          · intro W hW; obtain ⟨m, rfl⟩ := hW; go_simp; exact (brz_if HQ.out _ _).trans rfl
          intro K hK; go_simp; refine hK _ ?_; clear hK K
          refine sched_nil ?_
          go_wp2_with fail
          go_ret
          refine ⟨false, rfl, ⟨(fun h => by cases h), fun h => ?_⟩, n + 1, rfl⟩
          have e := HT1.out
          rw [h, HT2.out] at e
          have e2 := List.append_cancel_left e
          simp only [List.cons.injEq, and_true] at e2
          exact absurd (HQ.out.2 e2.symm) (by simp)
        · have HQ := Lib.hid hq
          have HE := Lib.hid (hq.1 rfl)
          clear hq
          refine wp_region_sched [(0, true), (1, true), (2, true), (3, true), (4, true), (5, true), (6, true), (7, true), (8, true)] (fun W => ∃ m, W = w.drewN m) (by kernel_rfl) (by kernel_rfl) rfl (by kernel_rfl) (⟨n + 1, rfl⟩) ?_
          repeat (first | (apply sched_take rfl; (focus (first | rfl | (go_simp; done))); (focus (intro W hW; obtain ⟨m, rfl⟩ := hW; go_simp; rfl)); (focus (intro K hK; go_simp; refine hK _ ?_; clear hK K))) | (apply sched_skip rfl; (focus (first | rfl | (go_simp; done))); (focus (intro K hK; go_simp; refine hK _ ?_; clear hK K))))
          apply sched_take rfl
          · rfl
          · intro W hW; obtain ⟨m, rfl⟩ := hW; go_simp; exact (brz_if HQ.out _ _).trans rfl
          intro K hK; go_simp; refine hK _ ?_; clear hK K
          refine sched_nil ?_
          go_wp2_with fail
          go_roundw
          case rel =>
            refine ⟨_, _, _, ⟨k + 1, by omega, ?_, ⟨n + 1, rfl⟩, ?_⟩, rfl, rfl, rfl⟩
            · go_num
            · rw [HT1.out, HT2.out, HT.out, HE.out]
          case measure => simp [intOf]; omega
      · go_wp2_with fail
        go_ret
        rw [List.take_of_length_le (by omega), List.take_of_length_le (by omega)] at ht
        exact ⟨_, rfl, by simp [ht], n, rfl⟩
  · have hne : ((l1.length : Int) == l2.length) = false := by simp; omega
    go_enter Tryz.func57, Tryz.ntmps57
    go_wp2_with fail
    go_ret
    exact ⟨_, rfl, ⟨(fun h => by cases h), fun h => absurd (congrArg List.length h) hlen⟩, 0, rfl⟩

theorem RdBr.z {w : World} {B n : Nat} {A : Option Addr} {l : List Br} (h : RdBr w B A n l) : RdBrZ w B A n (l.map Br.z) := by
  unfold RdBrZ
  rw [List.flatMap_map]
  exact h
end Go.Proofs.YtfjpenbahoeklaaGreatDoor
namespace Go.Proofs.YtfjpenbahoeklaaGreatDoor
open Go.RowKit

/-- A command's bytes. -/
def cmEnc (c : Cm) : List UInt8 :=
  digits c.ki.toNat ++ (if c.ki = 2 then digits c.se.toNat ++ (digits c.sq.toNat ++ (digits (putEnc c.sp).length ++ putEnc c.sp))
    else if c.ki = 3 ∨ c.ki = 4 then digits c.at_.toNat else if c.ki = 5 then digits c.vo.length ++ encN c.vo else [])
def mputAns (c : Cm) : List UInt8 × Int := if c.ok then (cmEnc c, 0) else ([], 90)
/-- Entries, one behind the other, up to the first that is none: the machine, the replies, whether there was one that is none. -/
def stepR (q : Ma × List Rp × Bool) (e : En) : Ma × List Rp × Bool :=
  if q.2.2 = true then q else if (applyM q.1 e).2.2 ≠ 0 then (q.1, q.2.1, true) else ((applyM q.1 e).1, q.2.1 ++ [(applyM q.1 e).2.1], false)
def runF (M : Ma) (l : List En) : Ma × List Rp × Bool := l.foldl stepR (M, [], false)
/-- What a log's entries answer. -/
def replP (vo : List Int) (log : List En) : List Rp := if okV vo then (runF (Ma.new vo) log).2.1 else []
/-- The forest of a trace behind a log. -/
def stateP (vo : List Int) (log : List En) (x : Int) : List Br := if okV vo then lookT (runF (Ma.new vo) log).1.T x else []
/-- A call. -/
structure Cl where
  cl : Int
  c : Cm
  tr : Int
  be : Int
  en : Int
  ix : Int
  r : Rp
  fo : List BrZ
/-- Is a call explained? -/
def ExplP (vo : List Int) (log : List En) (rs : List Rp) (c : Cl) : Prop :=
  if c.c.ki = 0 then 0 ≤ c.ix ∧ c.ix ≤ rs.length ∧ c.r = Rp.zero ∧ (stateP vo (log.take c.ix.toNat) c.tr).map Br.z = c.fo
  else 1 ≤ c.ix ∧ c.ix ≤ rs.length ∧ c.fo = [] ∧ c.c.ok = true ∧ ∃ e x, log[c.ix.toNat - 1]? = some e ∧ rs[c.ix.toNat - 1]? = some x ∧ cmEnc c.c = e.da ∧ c.r = x
/-- Is an entry the ingest of a call's session and number? -/
def hitP (c : Cl) (e : En) : Bool := match cmGet e.da with
  | some x => decide (x.ki = 2) && decide (x.se = c.c.se) && decide (x.sq = c.c.sq)
  | none => false
def firstL (c : Cl) : List En → Nat → Int
  | [], _ => c.ix
  | e :: l, i => if hitP c e then (i : Int) + 1 else firstL c l (i + 1)
/-- Where a call took effect first. -/
def firstP (log : List En) (c : Cl) : Int := if c.c.ki = 2 then firstL c log 0 else c.ix
/-- Did a call take effect behind all that ended ahead of its beginning? -/
def BehP (log : List En) (l : List Cl) (c : Cl) : Prop := ∀ b ∈ l, b.en ≠ 0 → b.en < c.be → ¬ (firstP log c < b.ix ∨ (firstP log c = b.ix ∧ c.c.ki ≠ 0))
/-- Can a call not be? -/
def WrongP (vo : List Int) (log : List En) (l : List Cl) (c : Cl) : Prop := c.en ≠ 0 ∧ (c.en < c.be ∨ ¬ ExplP vo log (replP vo log) c ∨ ¬ BehP log l c)
/-- z is the place of the first call that can't be; -1: there is none. -/
def LinP (vo : List Int) (log : List En) (l : List Cl) (z : Int) : Prop :=
  (z = -1 ∧ ∀ c ∈ l, ¬ WrongP vo log l c) ∨ ∃ (k : Nat) (h : k < l.length), z = k ∧ WrongP vo log l l[k] ∧ ∀ j, (hj : j < k) → ¬ WrongP vo log l (l[j]'(Nat.lt_trans hj h))

theorem runF_snoc (M : Ma) (l : List En) (e : En) : runF M (l ++ [e]) = stepR (runF M l) e := by simp [runF, List.foldl_append]
theorem runF_take (M : Ma) (l : List En) (k : Nat) (h : k < l.length) : runF M (l.take (k + 1)) = stepR (runF M (l.take k)) l[k] := by
  rw [List.take_succ_eq_append_getElem h, runF_snoc]
theorem stepR_done {q : Ma × List Rp × Bool} (h : q.2.2 = true) (e : En) : stepR q e = q := by unfold stepR; rw [if_pos h]
theorem fold_done (l : List En) : ∀ {q : Ma × List Rp × Bool}, q.2.2 = true → l.foldl stepR q = q := by
  induction l with
  | nil => intro q _; rfl
  | cons e l ih => intro q h; rw [List.foldl_cons, stepR_done h]; exact ih h
theorem runF_stop {M : Ma} {l : List En} {k : Nat} (h : (runF M (l.take k)).2.2 = true) : runF M l = runF M (l.take k) := by
  have e : runF M l = (l.drop k).foldl stepR (runF M (l.take k)) := by
    conv => lhs; rw [← List.take_append_drop k l]
    rw [runF, List.foldl_append]; rfl
  rw [e, fold_done _ h]
theorem stepR_go {q : Ma × List Rp × Bool} (h : q.2.2 = false) {e : En} (he : (applyM q.1 e).2.2 = 0) : stepR q e = ((applyM q.1 e).1, q.2.1 ++ [(applyM q.1 e).2.1], false) := by
  unfold stepR; rw [if_neg (by rw [h]; exact Bool.false_ne_true), if_neg (by simpa using he)]
theorem stepR_no {q : Ma × List Rp × Bool} (h : q.2.2 = false) {e : En} (he : (applyM q.1 e).2.2 ≠ 0) : stepR q e = (q.1, q.2.1, true) := by
  unfold stepR; rw [if_neg (by rw [h]; exact Bool.false_ne_true), if_pos he]
theorem GrM.step {q : Ma × List Rp × Bool} (h : GrM q.1) (e : En) : GrM (stepR q e).1 := by
  unfold stepR
  by_cases h1 : q.2.2 = true
  · rw [if_pos h1]; exact h
  · rw [if_neg h1]
    by_cases h2 : (applyM q.1 e).2.2 ≠ 0
    · rw [if_pos h2]; exact h
    · rw [if_neg h2]; exact h.apply e
theorem GrM.run {M : Ma} (h : GrM M) (l : List En) : GrM (runF M l).1 := by
  unfold runF
  have key : ∀ (l : List En) (q : Ma × List Rp × Bool), GrM q.1 → GrM (l.foldl stepR q).1 := by
    intro l
    induction l with
    | nil => intro q h; exact h
    | cons e l ih => intro q h; exact ih _ (h.step e)
  exact key l _ h
theorem runF_len (M : Ma) (l : List En) : (runF M l).2.1.length ≤ l.length ∧ ((runF M l).2.2 = false → (runF M l).2.1.length = l.length) := by
  have key : ∀ (l : List En) (q : Ma × List Rp × Bool), (l.foldl stepR q).2.1.length ≤ q.2.1.length + l.length ∧ ((l.foldl stepR q).2.2 = false → (l.foldl stepR q).2.1.length = q.2.1.length + l.length) := by
    intro l
    induction l with
    | nil => intro q; exact ⟨Nat.le_refl _, fun _ => rfl⟩
    | cons e l ih =>
      intro q
      rw [List.foldl_cons, List.length_cons]
      by_cases h1 : q.2.2 = true
      · rw [stepR_done h1, fold_done l h1]
        exact ⟨by omega, fun h => by rw [h1] at h; cases h⟩
      · have h1 : q.2.2 = false := by simpa using h1
        have := ih (stepR q e)
        by_cases h2 : (applyM q.1 e).2.2 = 0
        · rw [stepR_go h1 h2] at this ⊢
          simp only [List.length_append, List.length_cons, List.length_nil] at this
          exact ⟨by omega, fun h => by have := this.2 h; omega⟩
        · rw [stepR_no h1 h2] at this ⊢
          rw [fold_done l rfl] at this ⊢
          exact ⟨by simp only; omega, fun h => by cases h⟩
  have := key l (M, [], false)
  simpa [runF] using this
/-- The replies of a log's first entries are the first of its replies. -/
theorem runF_front (M : Ma) (l : List En) (k : Nat) : (runF M (l.take k)).2.1 = (runF M l).2.1.take k := by
  have key : ∀ (b : List En) (q : Ma × List Rp × Bool), ∃ rs, (b.foldl stepR q).2.1 = q.2.1 ++ rs := by
    intro b
    induction b with
    | nil => intro q; exact ⟨[], by simp⟩
    | cons e b ih =>
      intro q
      obtain ⟨rs, h⟩ := ih (stepR q e)
      rw [List.foldl_cons, h]
      by_cases h1 : q.2.2 = true
      · rw [stepR_done h1]; exact ⟨rs, rfl⟩
      · have h1 : q.2.2 = false := by simpa using h1
        by_cases h2 : (applyM q.1 e).2.2 = 0
        · rw [stepR_go h1 h2]; exact ⟨(applyM q.1 e).2.1 :: rs, by simp⟩
        · rw [stepR_no h1 h2]; exact ⟨rs, rfl⟩
  have e : runF M l = (l.drop k).foldl stepR (runF M (l.take k)) := by
    conv => lhs; rw [← List.take_append_drop k l]
    rw [runF, List.foldl_append]; rfl
  obtain ⟨hle, heq⟩ := runF_len M (l.take k)
  have hst := @runF_stop M l k
  rw [List.length_take] at hle heq
  generalize runF M (l.take k) = X at *
  cases hd : X.2.2 with
  | true =>
    rw [hst hd, List.take_of_length_le (by omega)]
  | false =>
    obtain ⟨rs, hr⟩ := key (l.drop k) X
    have hl := heq hd
    rw [e, hr]
    by_cases hk : k ≤ l.length
    · rw [List.take_append_of_le_length (by omega), List.take_of_length_le (by omega)]
    · have : l.drop k = [] := List.drop_eq_nil_of_le (by omega)
      rw [this] at hr
      have hrs : rs = [] := by
        have := congrArg List.length hr
        simp at this
        exact this
      rw [hrs, List.append_nil, List.take_of_length_le (by omega)]
theorem replP_len (vo : List Int) (log : List En) : (replP vo log).length ≤ log.length := by
  unfold replP
  by_cases h : okV vo
  · rw [if_pos h]; exact (runF_len _ _).1
  · rw [if_neg h]; exact Nat.zero_le _
theorem replP_front (vo : List Int) (log : List En) (k : Nat) : replP vo (log.take k) = (replP vo log).take k := by
  unfold replP
  by_cases h : okV vo
  · rw [if_pos h, if_pos h]; exact runF_front _ _ _
  · rw [if_neg h, if_neg h]; simp
theorem firstL_at {c : Cl} {log : List En} {e : En} (i : Nat) {k : Nat} (hk : k < log.length) (hh : ∀ j, (h : j < k) → hitP c (log[j]'(Nat.lt_trans h hk)) = false) (he : log[k] = e) (hx : hitP c e = true) : firstL c log i = (i : Int) + k + 1 := by
  induction log generalizing i k with
  | nil => simp at hk
  | cons a log ih =>
    cases k with
    | zero => simp only [List.getElem_cons_zero] at he; subst he; rw [firstL, if_pos hx]; simp
    | succ k =>
      have h0 := hh 0 (by omega)
      simp only [List.getElem_cons_zero] at h0
      rw [firstL, if_neg (by rw [h0]; exact Bool.false_ne_true), ih (i + 1) (k := k) (by simpa using hk) (fun j hj => by have := hh (j + 1) (by omega); simpa using this) (by simpa using he)]
      omega
theorem firstL_none {c : Cl} {log : List En} (i : Nat) (hh : ∀ e ∈ log, hitP c e = false) : firstL c log i = c.ix := by
  induction log generalizing i with
  | nil => rfl
  | cons a log ih => rw [firstL, if_neg (by rw [hh a (by simp)]; exact Bool.false_ne_true), ih (i + 1) (fun e he => hh e (by simp [he]))]
end Go.Proofs.YtfjpenbahoeklaaGreatDoor
namespace Go.Proofs.YtfjpenbahoeklaaGreatDoor
open Go Go.RowKit

/-- A call in memory. -/
structure ClV where
  cl : Int
  v : CmV
  tr : Int
  be : Int
  en : Int
  ix : Int
  r : Rp
  fA : Option Addr
  fn : Nat
  fc : Nat
  fo : List BrZ
def ClV.cells (c : ClV) : List Value := [.int .i64 c.cl, .int .i64 c.v.c.ki, .int .i64 c.v.c.se, .int .i64 c.v.c.sq, .int .i64 c.v.c.at_, .slice c.v.As c.v.ns c.v.cs, .slice c.v.Av c.v.nv c.v.cv, .int .i64 c.tr, .int .i64 c.be, .int .i64 c.en, .int .i64 c.ix, .int .i64 c.r.er, .int .i64 c.r.ss, .int .i64 c.r.gn, .int .i64 c.r.ad, .int .i64 c.r.sa, .int .i64 c.r.ot, .int .i64 c.r.cy, .int .i64 c.r.fu, .slice c.fA c.fn c.fc]
abbrev ClV.val (c : ClV) : Value := .agg #[.int .i64 c.cl, .int .i64 c.v.c.ki, .int .i64 c.v.c.se, .int .i64 c.v.c.sq, .int .i64 c.v.c.at_, .slice c.v.As c.v.ns c.v.cs, .slice c.v.Av c.v.nv c.v.cv, .int .i64 c.tr, .int .i64 c.be, .int .i64 c.en, .int .i64 c.ix, .int .i64 c.r.er, .int .i64 c.r.ss, .int .i64 c.r.gn, .int .i64 c.r.ad, .int .i64 c.r.sa, .int .i64 c.r.ot, .int .i64 c.r.cy, .int .i64 c.r.fu, .slice c.fA c.fn c.fc]
def ClV.pl (c : ClV) : Cl := ⟨c.cl, c.v.c, c.tr, c.be, c.en, c.ix, c.r, c.fo⟩
theorem ClV.cells_len (c : ClV) : c.cells.length = 20 := rfl
structure RdCl (w : World) (B : Nat) (c : ClV) : Prop where
  v : RdCm w B c.v
  fo : RdBrZ w B c.fA c.fn c.fo
theorem RdCl.below {w w' : World} {B C : Nat} {c : ClV} (h : RdCl w B c) (hb : Below C w w') (hC : B ≤ C) : RdCl w' B c := ⟨h.v.below hb hC, Rd.below' h.fo hb hC (Nat.le_refl _)⟩
/-- A row that reads as calls. -/
def RdCls (w : World) (B : Nat) (A : Option Addr) (n : Nat) (cs : List ClV) : Prop := Rd w B 20 A n (cs.flatMap ClV.cells) ∧ ∀ c ∈ cs, RdCl w B c
theorem RdCls.len {w : World} {B n : Nat} {A : Option Addr} {cs : List ClV} (h : RdCls w B A n cs) : cs.length = n := by
  have h1 := h.1.1
  rw [flat_len ClV.cells 20 ClV.cells_len] at h1
  omega
theorem RdCls.below {w w' : World} {B C : Nat} {A : Option Addr} {n : Nat} {cs : List ClV} (h : RdCls w B A n cs) (hb : Below C w w') (hB : B ≤ C) : RdCls w' B A n cs :=
  ⟨h.1.below' hb hB (Nat.le_refl _), fun c hc => (h.2 c hc).below hb hB⟩
theorem RdCls.at_ {w : World} {B n k : Nat} {A : Option Addr} {cs : List ClV} (h : RdCls w B A n cs) (hk : k < cs.length) :
    ∃ b off, A = some ⟨b, off, none⟩ ∧ b < B ∧ (w.cell? ⟨b, off + k * 20, none⟩ = some (.int .i64 cs[k].cl) ∧ w.cell? ⟨b, off + k * 20 + 1, none⟩ = some (.int .i64 cs[k].v.c.ki) ∧ w.cell? ⟨b, off + k * 20 + 2, none⟩ = some (.int .i64 cs[k].v.c.se) ∧ w.cell? ⟨b, off + k * 20 + 3, none⟩ = some (.int .i64 cs[k].v.c.sq) ∧ w.cell? ⟨b, off + k * 20 + 4, none⟩ = some (.int .i64 cs[k].v.c.at_) ∧ w.cell? ⟨b, off + k * 20 + 5, none⟩ = some (.slice cs[k].v.As cs[k].v.ns cs[k].v.cs) ∧ w.cell? ⟨b, off + k * 20 + 6, none⟩ = some (.slice cs[k].v.Av cs[k].v.nv cs[k].v.cv) ∧ w.cell? ⟨b, off + k * 20 + 7, none⟩ = some (.int .i64 cs[k].tr) ∧ w.cell? ⟨b, off + k * 20 + 8, none⟩ = some (.int .i64 cs[k].be) ∧ w.cell? ⟨b, off + k * 20 + 9, none⟩ = some (.int .i64 cs[k].en) ∧ w.cell? ⟨b, off + k * 20 + 10, none⟩ = some (.int .i64 cs[k].ix) ∧ w.cell? ⟨b, off + k * 20 + 11, none⟩ = some (.int .i64 cs[k].r.er) ∧ w.cell? ⟨b, off + k * 20 + 12, none⟩ = some (.int .i64 cs[k].r.ss) ∧ w.cell? ⟨b, off + k * 20 + 13, none⟩ = some (.int .i64 cs[k].r.gn) ∧ w.cell? ⟨b, off + k * 20 + 14, none⟩ = some (.int .i64 cs[k].r.ad) ∧ w.cell? ⟨b, off + k * 20 + 15, none⟩ = some (.int .i64 cs[k].r.sa) ∧ w.cell? ⟨b, off + k * 20 + 16, none⟩ = some (.int .i64 cs[k].r.ot) ∧ w.cell? ⟨b, off + k * 20 + 17, none⟩ = some (.int .i64 cs[k].r.cy) ∧ w.cell? ⟨b, off + k * 20 + 18, none⟩ = some (.int .i64 cs[k].r.fu) ∧ w.cell? ⟨b, off + k * 20 + 19, none⟩ = some (.slice cs[k].fA cs[k].fn cs[k].fc)) ∧ RdCl w B cs[k] := by
  obtain ⟨b, off, hA, hb, hc⟩ := Rd.elem ClV.cells_len h.1 (k := k) (by rw [← h.len]; exact hk) hk
  exact ⟨b, off, hA, hb, ⟨hc 0 (by omega), hc 1 (by omega), hc 2 (by omega), hc 3 (by omega), hc 4 (by omega), hc 5 (by omega), hc 6 (by omega), hc 7 (by omega), hc 8 (by omega), hc 9 (by omega), hc 10 (by omega), hc 11 (by omega), hc 12 (by omega), hc 13 (by omega), hc 14 (by omega), hc 15 (by omega), hc 16 (by omega), hc 17 (by omega), hc 18 (by omega), hc 19 (by omega)⟩, h.2 _ (List.getElem_mem hk)⟩

/-- What a call leaves that answers whether P. -/
def ResQ (w : World) (P : Prop) (e : Ending) (w' : World) : Prop := ∃ q : Bool, e = .returned (.bool q) ∧ (q = true ↔ P) ∧ Below w.heap.size w w'
theorem hitP_none {c : Cl} {e : En} (h : cmGet e.da = none) : hitP c e = false := by unfold hitP; rw [h]
theorem hitP_some {c : Cl} {e : En} {x : Cm} (h : cmGet e.da = some x) : hitP c e = true ↔ x.ki = 2 ∧ x.se = c.c.se ∧ x.sq = c.c.sq := by unfold hitP; rw [h]; simp [and_assoc]
set_option maxRecDepth 100000 in
set_option maxHeartbeats 4000000 in
theorem first_any (A : Option Addr) (n cap B : Nat) (es : List EnV) (c : ClV) (w : World) (hB : B ≤ w.heap.size) (hbig : n ≤ 140737488355328) (hen : ∀ e ∈ es, e.n ≤ 4294967296) (hr : RdEn w B A n es) :
    Calls Tryz.prog 23 #[.slice A n cap, c.val] w fun e w' => e = .returned (.int .i64 (firstP (es.map EnV.en) c.pl)) ∧ Below w.heap.size w w' := by
  have hl := hr.len
  subst hl
  have HB : Hid (∀ o, Below w.heap.size w (w.alloc o)) := Lib.hid (fun o => (Below.refl _ _).alloc (Nat.le_refl _) o)
  have H23 : Hid (c.v.c.ki ≠ 2 → firstP (es.map EnV.en) c.pl = c.ix) := Lib.hid (fun h => if_neg h)
  have HFY : Hid (c.v.c.ki = 2 → firstP (es.map EnV.en) c.pl = firstL c.pl (es.map EnV.en) 0) := Lib.hid (fun h => if_pos h)
  have HAT : Hid (∀ k, (hk : k < es.length) → (∀ j, (h : j < k) → hitP c.pl (es[j]'(Nat.lt_trans h hk)).en = false) → hitP c.pl (es[k]).en = true → firstL c.pl (es.map EnV.en) 0 = (k : Int) + 1) := Lib.hid (fun k hk hh hx => by
    rw [firstL_at 0 (k := k) (by simpa using hk) (fun j hj => by simpa using hh j hj) rfl (by simpa using hx)]
    omega)
  have HNO : Hid ((∀ j, (h : j < es.length) → hitP c.pl (es[j]).en = false) → firstL c.pl (es.map EnV.en) 0 = c.ix) := Lib.hid (fun hh => by
    refine firstL_none 0 (fun e he => ?_)
    obtain ⟨x, hx, rfl⟩ := List.mem_map.1 he
    obtain ⟨j, hj, rfl⟩ := List.getElem_of_mem hx
    exact hh j hj)
  have HHN : Hid (∀ e : EnV, cmGet e.da = none → hitP c.pl e.en = false) := Lib.hid (fun e h => hitP_none h)
  have HHS : Hid (∀ (e : EnV) (x : Cm), cmGet e.da = some x → (hitP c.pl e.en = true ↔ x.ki = 2 ∧ x.se = c.v.c.se ∧ x.sq = c.v.c.sq)) := Lib.hid (fun e x h => hitP_some (e := e.en) h)
  generalize firstP (es.map EnV.en) c.pl = z at *
  generalize firstL c.pl (es.map EnV.en) 0 = fl at *
  generalize hhit : (fun e : EnV => hitP c.pl e.en) = hit at *
  have HHIT : Hid (∀ e : EnV, hitP c.pl e.en = hit e) := Lib.hid (fun e => by rw [← hhit])
  have HR := Lib.hid hr
  have HB0 := Lib.hid hB
  have HEN := Lib.hid hen
  clear hr hB hen hhit
  generalize hW0 : w.alloc (.cells #[.int .i64 c.cl, .int .i64 c.v.c.ki, .int .i64 c.v.c.se, .int .i64 c.v.c.sq, .int .i64 c.v.c.at_, .slice c.v.As c.v.ns c.v.cs, .slice c.v.Av c.v.nv c.v.cv, .int .i64 c.tr, .int .i64 c.be, .int .i64 c.en, .int .i64 c.ix, .int .i64 c.r.er, .int .i64 c.r.ss, .int .i64 c.r.gn, .int .i64 c.r.ad, .int .i64 c.r.sa, .int .i64 c.r.ot, .int .i64 c.r.cy, .int .i64 c.r.fu, .slice c.fA c.fn c.fc] 53 (0, 0)) = W0
  have hb0 : Below w.heap.size w W0 := by rw [← hW0]; exact HB.out _
  have hc0 : W0.heap[w.heap.size]? = some (.cells #[.int .i64 c.cl, .int .i64 c.v.c.ki, .int .i64 c.v.c.se, .int .i64 c.v.c.sq, .int .i64 c.v.c.at_, .slice c.v.As c.v.ns c.v.cs, .slice c.v.Av c.v.nv c.v.cv, .int .i64 c.tr, .int .i64 c.be, .int .i64 c.en, .int .i64 c.ix, .int .i64 c.r.er, .int .i64 c.r.ss, .int .i64 c.r.gn, .int .i64 c.r.ad, .int .i64 c.r.sa, .int .i64 c.r.ot, .int .i64 c.r.cy, .int .i64 c.r.fu, .slice c.fA c.fn c.fc] 53 (0, 0)) := by rw [← hW0]; exact heap_alloc_new w _
  have hz0 : W0.heap.size = w.heap.size + 1 := by rw [← hW0]; simp
  have HX : Hid (∀ W, Below (w.heap.size + 1) W0 W → Below w.heap.size w W ∧ w.heap.size + 1 ≤ W.heap.size ∧ (∀ j, W.cell? ⟨w.heap.size, j, none⟩ = (#[.int .i64 c.cl, .int .i64 c.v.c.ki, .int .i64 c.v.c.se, .int .i64 c.v.c.sq, .int .i64 c.v.c.at_, .slice c.v.As c.v.ns c.v.cs, .slice c.v.Av c.v.nv c.v.cv, .int .i64 c.tr, .int .i64 c.be, .int .i64 c.en, .int .i64 c.ix, .int .i64 c.r.er, .int .i64 c.r.ss, .int .i64 c.r.gn, .int .i64 c.r.ad, .int .i64 c.r.sa, .int .i64 c.r.ot, .int .i64 c.r.cy, .int .i64 c.r.fu, .slice c.fA c.fn c.fc] : Array Value)[j]?)) := Lib.hid (fun W hW => by
    have hz := hW.size
    exact ⟨hb0.trans (hW.mono (by omega)), by omega, blk_cell ((hW.block _ (by omega)).trans hc0)⟩)
  have fc := (HX.out W0 (Below.refl _ _)).2.2
  obtain ⟨ccl, ⟨⟨ki, se, sq, at_, sp, vo⟩, As, ns, cs, Av, nv, cv⟩, tr, be, en, ix, r, fA, fn, fcc, fo⟩ := c
  dsimp only [ClV.val] at *
  have hz0x : w.heap.size + 1 ≤ W0.heap.size := by omega
  clear hb0 hc0 hz0
  by_cases h2 : ki = 2
  · have HZ : Hid (z = fl) := Lib.hid (HFY.out h2)
    subst h2
    go_enter Tryz.func23, Tryz.ntmps23
    go_wp2_with fail
    clear hW0 fc
    go_loopw [17] (fun i wr => ∃ k : Nat, k ≤ es.length ∧ i = .int .i64 k ∧ (∀ j, (h : j < k) → (hj : j < es.length) → hit (es[j]) = false) ∧ Below (w.heap.size + 1) W0 wr) (fun i _ => es.length - (intOf i).toNat)
    case atStart => exact ⟨0, by omega, rfl, fun j h => by omega, Below.refl _ _⟩
    case round =>
      obtain ⟨k, hk, rfl, hall, hwr⟩ := hrel
      have HALL := Lib.hid hall
      have HWR := Lib.hid hwr
      obtain ⟨hbw, hzr, fc⟩ := HX.out wr hwr
      have HBW := Lib.hid hbw
      clear hall hwr hbw
      by_cases hlt : k < es.length
      · obtain ⟨eb, off, hA, heb, x0, x1, x2, hxr⟩ := (HR.out.below HBW.out HB0.out).at_ hlt
        have hxn := HEN.out _ (List.getElem_mem hlt)
        have HAK := Lib.hid (HAT.out k hlt (fun j h => by rw [HHIT.out]; exact HALL.out j h (by omega)))
        have HHN1 := Lib.hid (HHN.out es[k])
        have HHS1 := Lib.hid (HHS.out es[k])
        rw [HHIT.out] at HAK HHN1 HHS1
        have HNXT : Hid (hit es[k] = false → ∀ j, (h : j < k + 1) → (hj : j < es.length) → hit (es[j]) = false) := Lib.hid (fun hf j h hj => by
          by_cases e : j = k
          · subst e; exact hf
          · exact HALL.out j (by omega) hj)
        have HXR := Lib.hid hxr
        have hk1 : (k : Int) < es.length := by omega
        subst hA
        clear hxr
        generalize hit es[k] = hx at *
        generalize es[k] = x at *
        obtain ⟨xi, xt, xA, xn, xc, xd⟩ := x
        dsimp only at *
        go_wp2_with fail
        refine (mget_any xA xn xc B xd _ (by simp; have := HB0.out; omega) hxn (Rd.alloc HXR.out _ (by have := HB0.out; omega) (Nat.le_refl _))).mono ?_
        rintro e w3 ⟨v, rfl, hv, _, _, hb3⟩
        have HB3 : Hid (Below (w.heap.size + 1) W0 w3) := Lib.hid (HWR.out.trans (((Below.refl wr.heap.size wr).alloc (Nat.le_refl _) _).trans (hb3.mono (by simp)) |>.mono hzr))
        have hz3 : w.heap.size + 1 ≤ w3.heap.size := (HX.out w3 HB3.out).2.1
        have hn3 : ¬ w.heap.size = w3.heap.size := by omega
        have hm3 : w.heap.size < w3.heap.size := by omega
        clear fc hb3
        have fc := (HX.out w3 HB3.out).2.2
        obtain ⟨⟨ki2, se2, sq2, at2, sp2, vo2⟩, As2, ns2, cs2, Av2, nv2, cv2⟩ := v
        dsimp only [CmV.val] at hv ⊢
        have HB4 : Hid (Below (w.heap.size + 1) W0 (w3.alloc (.cells #[.int .i64 ki2, .int .i64 se2, .int .i64 sq2, .int .i64 at2, .slice As2 ns2 cs2, .slice Av2 nv2 cv2] 50 (0, 0)))) := Lib.hid (below_alloc hz0x HB3.out _)
        cases hcg : cmGet xd with
        | none =>
          have hxf := HHN1.out hcg
          simp only [Option.isSome_none, Bool.false_eq_true, if_false]
          have HNX := Lib.hid (HNXT.out hxf)
          clear hv hcg hxf
          go_wp2_with fail
          go_roundw
          case rel => exact ⟨k + 1, by omega, by go_num, HNX.out, HB4.out⟩
          case measure => simp [intOf]; omega
        | some cm =>
          have hxs := HHS1.out cm hcg
          rw [hcg] at hv
          dsimp only [Option.getD] at hv
          subst hv
          dsimp only at hxs
          simp only [Option.isSome_some, if_true]
          have HXS := Lib.hid hxs
          clear hxs hcg
          by_cases g1 : ki2 = 2
          · by_cases g2 : se2 = se
            · by_cases g3 : sq2 = sq
              · have hx1 : hx = true := HXS.out.2 ⟨g1, g2, g3⟩
                have HZ2 : Hid (z = (k : Int) + 1) := Lib.hid (by rw [HZ.out]; exact HAK.out hx1)
                subst g1
                subst g2
                subst g3
                clear hx1
                go_wp2_with fail
                go_ret
                obtain rfl := HZ2.out
                exact ⟨rfl, (HX.out _ HB4.out).1⟩
              · have hxf : hx = false := by
                  cases hx
                  · rfl
                  · exact absurd (HXS.out.1 rfl).2.2 g3
                have HNX := Lib.hid (HNXT.out hxf)
                have g3b : (sq2 == sq) = false := by simpa using g3
                subst g1
                subst g2
                clear hxf
                go_wp2_with fail
                go_roundw
                case rel => exact ⟨k + 1, by omega, by go_num, HNX.out, HB4.out⟩
                case measure => simp [intOf]; omega
            · have hxf : hx = false := by
                cases hx
                · rfl
                · exact absurd (HXS.out.1 rfl).2.1 g2
              have HNX := Lib.hid (HNXT.out hxf)
              have g2b : (se2 == se) = false := by simpa using g2
              subst g1
              clear hxf
              go_wp2_with fail
              go_roundw
              case rel => exact ⟨k + 1, by omega, by go_num, HNX.out, HB4.out⟩
              case measure => simp [intOf]; omega
          · have hxf : hx = false := by
              cases hx
              · rfl
              · exact absurd (HXS.out.1 rfl).1 g1
            have HNX := Lib.hid (HNXT.out hxf)
            have g1b : (ki2 == 2) = false := by simpa using g1
            clear hxf
            go_wp2_with fail
            go_roundw
            case rel => exact ⟨k + 1, by omega, by go_num, HNX.out, HB4.out⟩
            case measure => simp [intOf]; omega
      · have hke : k = es.length := by omega
        have HZ2 : Hid (z = ix) := Lib.hid (by
          rw [HZ.out]
          refine HNO.out (fun j hj => ?_)
          rw [HHIT.out]
          exact HALL.out j (by omega) hj)
        clear hke
        go_wp2_with fail
        go_ret
        obtain rfl := HZ2.out
        exact ⟨rfl, HBW.out⟩
  · have HZ : Hid (z = ix) := Lib.hid (H23.out h2)
    have h2b : (ki != 2) = true := by simpa using h2
    have HB1 : Hid (Below w.heap.size w W0) := Lib.hid (HX.out W0 (Below.refl _ _)).1
    clear h2
    go_enter Tryz.func23, Tryz.ntmps23
    go_wp2_with fail
    go_ret
    obtain rfl := HZ.out
    exact ⟨rfl, HB1.out⟩
end Go.Proofs.YtfjpenbahoeklaaGreatDoor
namespace Go.Proofs.YtfjpenbahoeklaaGreatDoor
open Go Go.RowKit

theorem min_cut (n : Nat) : ∃ m : Nat, min (n : Int) 32768 = (m : Int) ∧ m ≤ 32768 ∧ (m ≤ 32748 → n ≤ 32748) := by
  by_cases h : n ≤ 32768
  · exact ⟨n, by omega, h, fun h => h⟩
  · exact ⟨32768, by omega, by omega, fun h => by omega⟩
set_option maxRecDepth 100000 in
set_option maxHeartbeats 1000000 in
theorem weight_any (A : Option Addr) (n cap B : Nat) (es : List EnV) (w : World) (hr : RdEn w B A n es) :
    Calls Tryz.prog 26 #[.slice A n cap] w fun e w' => (∃ z : Nat, e = .returned (.int .i64 z) ∧ z ≤ 65556 ∧ (z ≤ 32768 → n ≤ 1638 ∧ ∀ e ∈ es, e.n ≤ 32748)) ∧ w = w' := by
  have hl := hr.len
  subst hl
  go_enter Tryz.func26, Tryz.ntmps26
  go_wp2_with fail
  go_loop [3, 4] (fun s i => ∃ k N : Nat, k ≤ es.length ∧ i = .int .i64 k ∧ s = .int .i64 N ∧ N ≤ 65556 ∧ 20 * k ≤ N ∧ (N ≤ 32768 → ∀ j, j < k → (hj : j < es.length) → (es[j]).n ≤ 32748)) (fun _ i => es.length - (intOf i).toNat)
  case atStart => exact ⟨0, 0, by omega, rfl, rfl, by omega, by omega, fun _ j h => by omega⟩
  case round =>
    obtain ⟨k, N, hk, rfl, rfl, hN, hNk, hall⟩ := hrel
    have HALL := Lib.hid hall
    clear hall
    by_cases hlt : k < es.length
    · have hk1 : (k : Int) < es.length := by omega
      by_cases hgo : (N : Int) ≤ 32768
      · obtain ⟨b, off, rfl, _, _, _, x2, _⟩ := hr.at_ hlt
        obtain ⟨m, hm, hm1, hm2⟩ := min_cut (es[k]).n
        have HM2 := Lib.hid hm2
        have HNX : Hid (N + (20 + m) ≤ 32768 → ∀ j, j < k + 1 → (hj : j < es.length) → (es[j]).n ≤ 32748) := Lib.hid (fun h j hj hjl => by
          by_cases e : j = k
          · subst e; exact HM2.out (by omega)
          · exact HALL.out (by omega) j (by omega) hjl)
        clear hr hm2
        generalize es[k] = x at *
        go_wp2_with fail
        go_round
        case rel => exact ⟨k + 1, N + (20 + m), by omega, by go_num, by go_num, by omega, by omega, HNX.out⟩
        case measure => simp [intOf]; omega
      · clear hr
        go_wp2_with fail
        go_ret
        exact ⟨⟨N, rfl, hN, fun h => by omega⟩, rfl⟩
    · have hk1 : ¬ (k : Int) < es.length := by omega
      have HF : Hid (N ≤ 32768 → es.length ≤ 1638 ∧ ∀ e ∈ es, e.n ≤ 32748) := Lib.hid (fun h => ⟨by omega, fun e he => by
        obtain ⟨j, hj, rfl⟩ := List.getElem_of_mem he
        exact HALL.out h j (by omega) hj⟩)
      clear hr
      go_wp2_with fail
      go_ret
      exact ⟨⟨N, rfl, hN, HF.out⟩, rfl⟩
/-- Few views, with few entries. -/
def ViewsP (n : Nat) (vs : List VwV) : Prop := n ≤ 10 ∧ ∀ v ∈ vs, v.en ≤ 1638 ∧ ∀ e ∈ v.es, e.n ≤ 32748
def ResViews (w : World) (n : Nat) (vs : List VwV) (e : Ending) (w' : World) : Prop := ∃ q : Bool, e = .returned (.bool q) ∧ (q = true → ViewsP n vs) ∧ ∃ m, w' = w.drewN m
set_option maxRecDepth 100000 in
set_option maxHeartbeats 2000000 in
theorem views_any (A : Option Addr) (n cap B : Nat) (vs : List VwV) (w : World) (hr : RdVw w B A n vs) :
    Calls Tryz.prog 17 #[.slice A n cap] w (ResViews w n vs) := by
  have hl := hr.len
  subst hl
  have HR := Lib.hid hr
  clear hr
  go_enter Tryz.func17, Tryz.ntmps17
  go_wp2_with fail
  go_loopw [3, 4] (fun s i wr => ∃ k N r : Nat, k ≤ vs.length ∧ k ≤ 11 ∧ i = .int .i64 k ∧ s = .int .i64 N ∧ N ≤ 98324 * k ∧ (N ≤ 32768 → ∀ j, j < k → (hj : j < vs.length) → (vs[j]).en ≤ 1638 ∧ ∀ e ∈ (vs[j]).es, e.n ≤ 32748) ∧ wr = w.drewN r) (fun _ i _ => vs.length - (intOf i).toNat)
  case atStart => exact ⟨0, 0, 0, by omega, by omega, rfl, rfl, by omega, fun _ j h => by omega, rfl⟩
  case round =>
    obtain ⟨k, N, r, hk, hk11, rfl, rfl, hN, hall, rfl⟩ := hrel
    have HALL := Lib.hid hall
    clear hall
    have hNb : (N : Int) ≤ 1081564 := by omega
    by_cases hlt : k < vs.length
    · have hk1 : (k : Int) < vs.length := by omega
      by_cases h10 : k ≤ 10
      · have hk2 : (k : Int) ≤ 10 := by omega
        obtain ⟨b, off, hA, hb, hc, hre⟩ := HR.out.at_ hlt
        subst hA
        have HNX : Hid (∀ (z m : Nat), (z ≤ 32768 → (vs[k]).en ≤ 1638 ∧ ∀ e ∈ (vs[k]).es, e.n ≤ 32748) → N + (z + m) ≤ 32768 → ∀ j, j < k + 1 → (hj : j < vs.length) → (vs[j]).en ≤ 1638 ∧ ∀ e ∈ (vs[j]).es, e.n ≤ 32748) := Lib.hid (fun z m hz h j hj hjl => by
          by_cases e : j = k
          · subst e; exact hz (by omega)
          · exact HALL.out (by omega) j (by omega) hjl)
        have HRE := Lib.hid hre
        have HC : Hid (∀ m, (w.drewN m).cell? ⟨b, off + k * 10 + 8, none⟩ = some (.slice (vs[k]).vA (vs[k]).vn (vs[k]).vc) ∧ (w.drewN m).cell? ⟨b, off + k * 10 + 9, none⟩ = some (.slice (vs[k]).eA (vs[k]).en (vs[k]).ec)) := Lib.hid (fun m => ⟨hc 8 (by omega), hc 9 (by omega)⟩)
        clear hc hre
        generalize vs[k] = x at *
        obtain ⟨id, ro, le, ht, hv, co, ix, te, vA, vn, vc, eA, en, ec, es⟩ := x
        dsimp only at *
        obtain ⟨m, hm, hm1, _⟩ := min_cut vn
        go_wp2_with fail
        refine wp_region_sched [(0, true), (1, true), (2, true), (3, true), (4, true), (5, true), (7, true), (8, true), (9, true), (10, true), (11, true), (12, true), (13, true), (6, false), (14, true), (15, true), (16, true)] (fun W => ∃ m, W = w.drewN m) (by kernel_rfl) (by kernel_rfl) rfl (by kernel_rfl) (⟨r + 1, rfl⟩) ?_
        repeat (first | (apply sched_take rfl; (focus (first | rfl | (go_simp; done))); (focus (intro W hW; obtain ⟨m, rfl⟩ := hW; obtain ⟨f1, f2⟩ := HC.out m; go_simp; rfl)); (focus (intro K hK; go_simp; refine hK _ ?_; clear hK K))) | (apply sched_skip rfl; (focus (first | rfl | (go_simp; done))); (focus (intro K hK; go_simp; refine hK _ ?_; clear hK K))))
        apply sched_op rfl
        intro K hK
        go_simp
        go_wp2_with (fail)
        refine (weight_any eA en ec B es _ (show RdEn (w.drewN (r + 1)) B eA en es from HRE.out)).mono ?_
        rintro e w1 ⟨⟨z, rfl, hz1, hz2⟩, rfl⟩
        have HZ2 := Lib.hid hz2
        obtain ⟨a1, ha1⟩ : ∃ a1 : Int, (z : Int) + m = a1 := ⟨_, rfl⟩
        obtain ⟨a2, ha2⟩ : ∃ a2 : Int, (N : Int) + a1 = a2 := ⟨_, rfl⟩
        have HS1 : Hid (IntKind.i64.wrap ((z : Int) + m) = a1) := Lib.hid (((IntWalk.i64_left _).trans (IntWalk.wrap64_in _ (by omega))).trans ha1)
        have HS2 : Hid (IntKind.i64.wrap ((N : Int) + a1) = a2) := Lib.hid (((IntWalk.i64_left _).trans (IntWalk.wrap64_in _ (by omega))).trans ha2)
        have HA2 : Hid (a2 = ((N + (z + m) : Nat) : Int)) := Lib.hid (by omega)
        clear ha1 ha2
        clear hz2
        go_wp2_with fail
        refine ⟨⟨r + 1, rfl⟩, ?_⟩
        repeat (first | (apply sched_take rfl; (focus (first | rfl | (go_simp; done))); (focus (intro W hW; obtain ⟨m, rfl⟩ := hW; have s1 := HS1.out; have s2 := HS2.out; go_simp; rfl)); (focus (intro K hK; go_simp; refine hK _ ?_; clear hK K))) | (apply sched_skip rfl; (focus (first | rfl | (go_simp; done))); (focus (intro K hK; go_simp; refine hK _ ?_; clear hK K))))
        refine sched_nil ?_
        go_wp2_with fail
        go_roundw
        case rel => exact ⟨k + 1, N + (z + m), r + 1, by omega, by omega, by go_num, by rw [HA2.out], by omega, HNX.out z m HZ2.out, rfl⟩
        case measure => simp [intOf]; omega
      · have hk2 : ¬ (k : Int) ≤ 10 := by omega
        have hl10 : ¬ (vs.length : Int) ≤ 10 := by omega
        go_wp2_with fail
        go_ret
        exact ⟨false, rfl, (fun h => by cases h), r, rfl⟩
    · have hk1 : ¬ (k : Int) < vs.length := by omega
      by_cases hl10 : (vs.length : Int) ≤ 10
      · by_cases hz : (N : Int) ≤ 32768
        · have HF : Hid (ViewsP vs.length vs) := Lib.hid ⟨by omega, fun v hv => by
            obtain ⟨j, hj, rfl⟩ := List.getElem_of_mem hv
            exact HALL.out (by omega) j (by omega) hj⟩
          go_wp2_with fail
          go_ret
          exact ⟨true, rfl, fun _ => HF.out, r, rfl⟩
        · go_wp2_with fail
          go_ret
          exact ⟨false, rfl, (fun h => by cases h), r, rfl⟩
      · go_wp2_with fail
        go_ret
        exact ⟨false, rfl, (fun h => by cases h), r, rfl⟩
/-- Few spans in a call, with short names. -/
def CallsP (cs : List ClV) : Prop := ∀ c ∈ cs, c.v.ns ≤ 32748 ∧ c.v.nv ≤ 32748 ∧ c.fn ≤ 32748 ∧ ∀ s ∈ c.v.c.sp, s.nm.size ≤ 32748
def CallP (c : ClV) : Prop := c.v.ns ≤ 32748 ∧ c.v.nv ≤ 32748 ∧ c.fn ≤ 32748 ∧ ∀ s ∈ c.v.c.sp, s.nm.size ≤ 32748
set_option maxRecDepth 100000 in
set_option maxHeartbeats 4000000 in
theorem calls_any (A : Option Addr) (n cap B : Nat) (cs : List ClV) (w : World) (hr : RdCls w B A n cs) :
    Calls Tryz.prog 27 #[.slice A n cap] w fun e w' => (∃ z : Nat, e = .returned (.int .i64 z) ∧ z ≤ 200000 ∧ (z ≤ 32768 → n ≤ 1638 ∧ CallsP cs)) ∧ ∃ m, w' = w.drewN m := by
  have hl := hr.len
  subst hl
  have HR := Lib.hid hr
  clear hr
  go_enter Tryz.func27, Tryz.ntmps27
  go_wp2_with fail
  go_loopw [3, 4] (fun s i wr => ∃ k N r : Nat, k ≤ cs.length ∧ i = .int .i64 k ∧ s = .int .i64 N ∧ N ≤ 200000 ∧ 20 * k ≤ N ∧ (N ≤ 32768 → ∀ j, j < k → (hj : j < cs.length) → CallP cs[j]) ∧ wr = w.drewN r) (fun _ i _ => cs.length - (intOf i).toNat)
  case atStart => exact ⟨0, 0, 0, by omega, rfl, rfl, by omega, by omega, fun _ j h => by omega, rfl⟩
  case round =>
    obtain ⟨k, N, r, hk, rfl, rfl, hN, hNk, hall, rfl⟩ := hrel
    have HALL := Lib.hid hall
    clear hall
    by_cases hlt : k < cs.length
    · have hk1 : (k : Int) < cs.length := by omega
      by_cases hgo : (N : Int) ≤ 32768
      · obtain ⟨b, off, hA, hb, ⟨_, _, _, _, _, x5, x6, _, _, _, _, _, _, _, _, _, _, _, _, x19⟩, hrc⟩ := HR.out.at_ hlt
        subst hA
        have HX5 : Hid (∀ m, (w.drewN m).cell? ⟨b, off + k * 20 + 5, none⟩ = some (.slice (cs[k]).v.As (cs[k]).v.ns (cs[k]).v.cs) ∧ (w.drewN m).cell? ⟨b, off + k * 20 + 6, none⟩ = some (.slice (cs[k]).v.Av (cs[k]).v.nv (cs[k]).v.cv) ∧ (w.drewN m).cell? ⟨b, off + k * 20 + 19, none⟩ = some (.slice (cs[k]).fA (cs[k]).fn (cs[k]).fc)) := Lib.hid (fun m => ⟨x5, x6, x19⟩)
        have HNX : Hid (∀ M, N ≤ M → (M ≤ 32768 → CallP cs[k]) → M ≤ 32768 → ∀ j, j < k + 1 → (hj : j < cs.length) → CallP cs[j]) := Lib.hid (fun M hM hz h j hj hjl => by
          by_cases e : j = k
          · subst e; exact hz h
          · exact HALL.out (by omega) j (by omega) hjl)
        have HRS := Lib.hid hrc.v.sp
        have HSL := Lib.hid hrc.v.sp.len
        clear x5 x6 x19 hrc
        generalize cs[k] = c at *
        obtain ⟨ccl, ⟨⟨ki, se, sq, at_, sp, vo⟩, As, ns, ccs, Av, nv, cv⟩, tr, be, en, ix, rp, fA, fn, fcc, fo⟩ := c
        dsimp only at *
        obtain ⟨m1, hm1, hm1b, hm1c⟩ := min_cut ns
        obtain ⟨m2, hm2, hm2b, hm2c⟩ := min_cut nv
        obtain ⟨m3, hm3, hm3b, hm3c⟩ := min_cut fn
        have HM1 := Lib.hid hm1
        have HM2 := Lib.hid hm2
        have HM3 := Lib.hid hm3
        have HC1 := Lib.hid hm1c
        have HC2 := Lib.hid hm2c
        have HC3 := Lib.hid hm3c
        obtain ⟨a1, ha1⟩ : ∃ a1 : Int, 20 + (m1 : Int) = a1 := ⟨_, rfl⟩
        obtain ⟨a2, ha2⟩ : ∃ a2 : Int, a1 + (m2 : Int) = a2 := ⟨_, rfl⟩
        obtain ⟨a3, ha3⟩ : ∃ a3 : Int, a2 + (m3 : Int) = a3 := ⟨_, rfl⟩
        obtain ⟨a4, ha4⟩ : ∃ a4 : Int, (N : Int) + a3 = a4 := ⟨_, rfl⟩
        have HS1 : Hid (IntKind.i64.wrap (20 + (m1 : Int)) = a1) := Lib.hid (((IntWalk.i64_left _).trans (IntWalk.wrap64_in _ (by omega))).trans ha1)
        have HS2 : Hid (IntKind.i64.wrap (a1 + (m2 : Int)) = a2) := Lib.hid (((IntWalk.i64_left _).trans (IntWalk.wrap64_in _ (by omega))).trans ha2)
        have HS3 : Hid (IntKind.i64.wrap (a2 + (m3 : Int)) = a3) := Lib.hid (((IntWalk.i64_left _).trans (IntWalk.wrap64_in _ (by omega))).trans ha3)
        have HS4 : Hid (IntKind.i64.wrap ((N : Int) + a3) = a4) := Lib.hid (((IntWalk.i64_left _).trans (IntWalk.wrap64_in _ (by omega))).trans ha4)
        obtain ⟨M0, hMM⟩ : ∃ M0 : Nat, M0 = N + (20 + m1 + m2 + m3) := ⟨_, rfl⟩
        have HA4 : Hid (a4 = (M0 : Int)) := Lib.hid (by omega)
        have HMM := Lib.hid hMM
        have hM0 : M0 ≤ 131092 := by omega
        clear ha1 ha2 ha3 ha4 hMM
        clear hm1 hm2 hm3 hm1c hm2c hm3c
        have HP : Hid ((∀ s ∈ sp, s.nm.size ≤ 32748) → 20 + m1 + m2 + m3 ≤ 32768 → CallP ⟨ccl, ⟨⟨ki, se, sq, at_, sp, vo⟩, As, ns, ccs, Av, nv, cv⟩, tr, be, en, ix, rp, fA, fn, fcc, fo⟩) := Lib.hid (fun h1 h2 => ⟨HC1.out (by omega), HC2.out (by omega), HC3.out (by omega), h1⟩)
        go_wp2_with fail
        refine wp_region_sched [(0, true), (1, true), (2, true), (3, true), (4, true), (5, true), (6, true), (7, true), (8, true), (9, true), (10, true), (11, true), (12, true), (13, true), (14, true), (15, true), (16, true), (17, true), (18, true), (19, true), (20, true), (21, true), (22, true), (23, true), (24, true), (25, true), (26, true), (27, true), (28, true)] (fun W => ∃ m, W = w.drewN m) (by kernel_rfl) (by kernel_rfl) rfl (by kernel_rfl) (⟨r + 1, rfl⟩) ?_
        repeat (first | (apply sched_take rfl; (focus (first | rfl | (go_simp; done))); (focus (intro W hW; obtain ⟨m, rfl⟩ := hW; obtain ⟨f1, f2, f3⟩ := HX5.out m; have g1 := HM1.out; have g2 := HM2.out; have g3 := HM3.out; have s1 := HS1.out; have s2 := HS2.out; have s3 := HS3.out; have s4 := HS4.out; go_simp; rfl)); (focus (intro K hK; go_simp; refine hK _ ?_; clear hK K))) | (apply sched_skip rfl; (focus (first | rfl | (go_simp; done))); (focus (intro K hK; go_simp; refine hK _ ?_; clear hK K))))
        refine sched_nil ?_
        obtain rfl : a4 = (M0 : Int) := HA4.out
        have f5 := (HX5.out (r + 1)).1
        go_wp2_with fail
        go_loopw [3, 5] (fun s i wq => ∃ k2 M : Nat, k2 ≤ ns ∧ i = .int .i64 k2 ∧ s = .int .i64 M ∧ M ≤ 200000 ∧ M0 ≤ M ∧ (M ≤ 32768 → ∀ j, j < k2 → (hj : j < sp.length) → (sp[j]).nm.size ≤ 32748) ∧ wq = w.drewN (r + 1)) (fun _ i _ => ns - (intOf i).toNat)
        case atStart => exact ⟨0, M0, by omega, rfl, rfl, by omega, by omega, fun _ j h => by omega, rfl⟩
        case round =>
          obtain ⟨k2, M, hk2, rfl, rfl, hMb, hMM0, hall2, rfl⟩ := hrel
          have HALL2 := Lib.hid hall2
          clear hall2
          by_cases hlt2 : k2 < ns
          · have hk21 : (k2 : Int) < ns := by omega
            by_cases hgo2 : (M : Int) ≤ 32768
            · have hns : ns ≤ 32748 := HC1.out (by have := HMM.out; omega)
              obtain ⟨b2, o2, hA2, hb2, y0, y1, y2, y3, y4, y5⟩ := RdS.at_ (show RdS (w.drewN (r + 1)) B As ns sp from HRS.out) (k := k2) (by rw [HSL.out]; exact hlt2)
              subst hA2
              obtain ⟨m4, hm4, hm4b, hm4c⟩ := min_cut (sp[k2]'(by rw [HSL.out]; exact hlt2)).nm.size
              have HNX2 : Hid (M + m4 ≤ 32768 → ∀ j, j < k2 + 1 → (hj : j < sp.length) → (sp[j]).nm.size ≤ 32748) := Lib.hid (fun h j hj hjl => by
                by_cases e : j = k2
                · subst e; exact hm4c (by have := HMM.out; omega)
                · exact HALL2.out (by omega) j (by omega) hjl)
              clear hm4c
              generalize (sp[k2]'(by rw [HSL.out]; exact hlt2)) = s at *
              go_wp2_with fail
              go_roundw
              case rel => exact ⟨k2 + 1, M + m4, by omega, by go_num, by go_num, by omega, by omega, HNX2.out, by trivial⟩
              case measure => simp [intOf]; omega
            · go_wp2_with fail
              go_roundw
              case rel => exact ⟨k + 1, M, r + 1, by omega, by go_num, by go_num, by omega, by have := HMM.out; omega, fun h => by omega, rfl⟩
              case measure => simp [intOf]; omega
          · have hk21 : ¬ (k2 : Int) < ns := by omega
            have HFN : Hid (M ≤ 32768 → ∀ j, j < k + 1 → (hj : j < cs.length) → CallP cs[j]) := Lib.hid (HNX.out M (by have := HMM.out; omega) (fun h => HP.out (fun s hs => by
              obtain ⟨j, hj, rfl⟩ := List.getElem_of_mem hs
              exact HALL2.out h j (by have := HSL.out; omega) hj) (by have := HMM.out; omega)))
            go_wp2_with fail
            go_roundw
            case rel => exact ⟨k + 1, M, r + 1, by omega, by go_num, by go_num, by omega, by have := HMM.out; omega, HFN.out, rfl⟩
            case measure => simp [intOf]; omega
      · go_wp2_with fail
        go_ret
        exact ⟨⟨N, rfl, hN, fun h => by omega⟩, r, rfl⟩
    · have hk1 : ¬ (k : Int) < cs.length := by omega
      have HF : Hid (N ≤ 32768 → cs.length ≤ 1638 ∧ CallsP cs) := Lib.hid (fun h => ⟨by omega, fun c hc => by
        obtain ⟨j, hj, rfl⟩ := List.getElem_of_mem hc
        exact HALL.out h j (by omega) hj⟩)
      go_wp2_with fail
      go_ret
      exact ⟨⟨N, rfl, hN, HF.out⟩, r, rfl⟩
/-- Few voters, entries and calls. -/
def LightP (n1 n2 n3 : Nat) (es : List EnV) (cs : List ClV) : Prop := n1 ≤ 100 ∧ n2 ≤ 60 ∧ n3 ≤ 60 ∧ (∀ e ∈ es, e.n ≤ 32748) ∧ CallsP cs
def ResLight (w : World) (n1 n2 n3 : Nat) (es : List EnV) (cs : List ClV) (e : Ending) (w' : World) : Prop := ∃ q : Bool, e = .returned (.bool q) ∧ (q = true → LightP n1 n2 n3 es cs) ∧ ∃ m, w' = w.drewN m
set_option maxRecDepth 100000 in
set_option maxHeartbeats 2000000 in
theorem light16_any (A1 : Option Addr) (n1 c1 : Nat) (A2 : Option Addr) (n2 c2 : Nat) (A3 : Option Addr) (n3 c3 B : Nat) (es : List EnV) (cs : List ClV) (w : World) (hr2 : RdEn w B A2 n2 es) (hr3 : RdCls w B A3 n3 cs) :
    Calls Tryz.prog 10 #[.slice A1 n1 c1, .slice A2 n2 c2, .slice A3 n3 c3] w (ResLight w n1 n2 n3 es cs) := by
  have HR2 := Lib.hid hr2
  have HR3 := Lib.hid hr3
  clear hr2 hr3
  by_cases h1 : (n1 : Int) ≤ 100
  · by_cases h2 : (n2 : Int) ≤ 60
    · by_cases h3 : (n3 : Int) ≤ 60
      · go_enter Tryz.func10, Tryz.ntmps10
        go_wp2_with fail
        refine (weight_any A2 n2 c2 B es w HR2.out).mono ?_
        rintro e w1 ⟨⟨z, rfl, hz1, hz2⟩, rfl⟩
        have HZ := Lib.hid hz2
        clear hz2
        by_cases h4 : (z : Int) ≤ 32768
        · go_wp2_with fail
          refine (calls_any A3 n3 c3 B cs w HR3.out).mono ?_
          rintro e w1 ⟨⟨y, rfl, hy1, hy2⟩, m, rfl⟩
          have HY := Lib.hid hy2
          clear hy2
          by_cases h5 : (y : Int) ≤ 32768
          · have HF : Hid (LightP n1 n2 n3 es cs) := Lib.hid ⟨by omega, by omega, by omega, (HZ.out (by omega)).2, (HY.out (by omega)).2⟩
            go_wp2_with fail
            go_ret
            exact ⟨true, rfl, fun _ => HF.out, m, rfl⟩
          · have h5b : decide ((y : Int) ≤ 32768) = false := decide_eq_false h5
            go_wp2_with fail
            go_ret
            exact ⟨false, rfl, (fun h => by cases h), m, rfl⟩
        · go_wp2_with fail
          go_ret
          exact ⟨false, rfl, (fun h => by cases h), 0, rfl⟩
      · go_enter Tryz.func10, Tryz.ntmps10
        go_wp2_with fail
        go_ret
        exact ⟨false, rfl, (fun h => by cases h), 0, rfl⟩
    · go_enter Tryz.func10, Tryz.ntmps10
      go_wp2_with fail
      go_ret
      exact ⟨false, rfl, (fun h => by cases h), 0, rfl⟩
  · go_enter Tryz.func10, Tryz.ntmps10
    go_wp2_with fail
    go_ret
    exact ⟨false, rfl, (fun h => by cases h), 0, rfl⟩
end Go.Proofs.YtfjpenbahoeklaaGreatDoor
namespace Go.Proofs.YtfjpenbahoeklaaGreatDoor
open Go Go.RowKit

theorem call_one (c : ClV) : c.cells.toArray.all (·.oneCell') = true := all_oneCell_toArray (by
  intro v hv
  simp only [ClV.cells, List.mem_cons, List.not_mem_nil, or_false] at hv
  rcases hv with rfl | rfl | rfl | rfl | rfl | rfl | rfl | rfl | rfl | rfl | rfl | rfl | rfl | rfl | rfl | rfl | rfl | rfl | rfl | rfl <;> rfl)
theorem fr_setCells (b : Nat) : ∀ (vs : List Value) (o : Nat) (w : World), Fr (fun k => k = b) w (w.setCells b o vs)
  | [], _, w => Fr.refl _ w
  | v :: vs, o, w => ((Fr.refl (fun k => k = b) w).setCell (p := ⟨b, o, none⟩) rfl v).trans (fr_setCells b vs (o + 1) _)
set_option maxRecDepth 100000 in
set_option maxHeartbeats 8000000 in
theorem behind_any (A : Option Addr) (n cap B : Nat) (es : List EnV) (A2 : Option Addr) (n2 cap2 : Nat) (cs : List ClV) (c : ClV) (w : World) (hB : B ≤ w.heap.size) (hbig : n ≤ 140737488355328) (hbig2 : n2 ≤ 140737488355328) (hen : ∀ e ∈ es, e.n ≤ 4294967296) (hr : RdEn w B A n es) (hr2 : RdCls w B A2 n2 cs) :
    Calls Tryz.prog 36 #[.slice A n cap, .slice A2 n2 cap2, c.val] w (ResQ w (BehP (es.map EnV.en) (cs.map ClV.pl) c.pl)) := by
  have hl := hr2.len
  subst hl
  have HB : Hid (∀ o, Below w.heap.size w (w.alloc o)) := Lib.hid (fun o => (Below.refl _ _).alloc (Nat.le_refl _) o)
  have HFST : Hid (∀ W, Below w.heap.size w W → Calls Tryz.prog 23 #[.slice A n cap, .agg #[.int .i64 c.cl, .int .i64 c.v.c.ki, .int .i64 c.v.c.se, .int .i64 c.v.c.sq, .int .i64 c.v.c.at_, .slice c.v.As c.v.ns c.v.cs, .slice c.v.Av c.v.nv c.v.cv, .int .i64 c.tr, .int .i64 c.be, .int .i64 c.en, .int .i64 c.ix, .int .i64 c.r.er, .int .i64 c.r.ss, .int .i64 c.r.gn, .int .i64 c.r.ad, .int .i64 c.r.sa, .int .i64 c.r.ot, .int .i64 c.r.cy, .int .i64 c.r.fu, .slice c.fA c.fn c.fc]] W fun e w' => e = .returned (.int .i64 (firstP (es.map EnV.en) c.pl)) ∧ Below W.heap.size W w') := Lib.hid (fun W hW => first_any A n cap B es c W (Nat.le_trans hB hW.size) hbig hen (hr.below hW hB))
  have HBP : Hid (BehP (es.map EnV.en) (cs.map ClV.pl) c.pl ↔ ∀ k, (hk : k < cs.length) → (cs[k]).en ≠ 0 → (cs[k]).en < c.be → ¬ (firstP (es.map EnV.en) c.pl < (cs[k]).ix ∨ (firstP (es.map EnV.en) c.pl = (cs[k]).ix ∧ c.v.c.ki ≠ 0))) := Lib.hid (by
    unfold BehP
    constructor
    · intro h k hk
      exact h _ (List.mem_map.2 ⟨_, List.getElem_mem hk, rfl⟩)
    · intro h b hb
      obtain ⟨x, hx, rfl⟩ := List.mem_map.1 hb
      obtain ⟨k, hk, rfl⟩ := List.getElem_of_mem hx
      exact h k hk)
  generalize BehP (es.map EnV.en) (cs.map ClV.pl) c.pl = P at *
  generalize firstP (es.map EnV.en) c.pl = fp at *
  have HR2 := Lib.hid hr2
  have HB0 := Lib.hid hB
  clear hr hr2 hB hen
  generalize hW0 : w.alloc (.cells #[.int .i64 c.cl, .int .i64 c.v.c.ki, .int .i64 c.v.c.se, .int .i64 c.v.c.sq, .int .i64 c.v.c.at_, .slice c.v.As c.v.ns c.v.cs, .slice c.v.Av c.v.nv c.v.cv, .int .i64 c.tr, .int .i64 c.be, .int .i64 c.en, .int .i64 c.ix, .int .i64 c.r.er, .int .i64 c.r.ss, .int .i64 c.r.gn, .int .i64 c.r.ad, .int .i64 c.r.sa, .int .i64 c.r.ot, .int .i64 c.r.cy, .int .i64 c.r.fu, .slice c.fA c.fn c.fc] 53 (0, 0)) = W0
  have hb0 : Below w.heap.size w W0 := by rw [← hW0]; exact HB.out _
  have hc0 : W0.heap[w.heap.size]? = some (.cells #[.int .i64 c.cl, .int .i64 c.v.c.ki, .int .i64 c.v.c.se, .int .i64 c.v.c.sq, .int .i64 c.v.c.at_, .slice c.v.As c.v.ns c.v.cs, .slice c.v.Av c.v.nv c.v.cv, .int .i64 c.tr, .int .i64 c.be, .int .i64 c.en, .int .i64 c.ix, .int .i64 c.r.er, .int .i64 c.r.ss, .int .i64 c.r.gn, .int .i64 c.r.ad, .int .i64 c.r.sa, .int .i64 c.r.ot, .int .i64 c.r.cy, .int .i64 c.r.fu, .slice c.fA c.fn c.fc] 53 (0, 0)) := by rw [← hW0]; exact heap_alloc_new w _
  have hz0 : W0.heap.size = w.heap.size + 1 := by rw [← hW0]; simp
  have HX : Hid (∀ W, Below (w.heap.size + 1) W0 W → Below w.heap.size w W ∧ w.heap.size + 1 ≤ W.heap.size ∧ (∀ j, W.cell? ⟨w.heap.size, j, none⟩ = (#[.int .i64 c.cl, .int .i64 c.v.c.ki, .int .i64 c.v.c.se, .int .i64 c.v.c.sq, .int .i64 c.v.c.at_, .slice c.v.As c.v.ns c.v.cs, .slice c.v.Av c.v.nv c.v.cv, .int .i64 c.tr, .int .i64 c.be, .int .i64 c.en, .int .i64 c.ix, .int .i64 c.r.er, .int .i64 c.r.ss, .int .i64 c.r.gn, .int .i64 c.r.ad, .int .i64 c.r.sa, .int .i64 c.r.ot, .int .i64 c.r.cy, .int .i64 c.r.fu, .slice c.fA c.fn c.fc] : Array Value)[j]?)) := Lib.hid (fun W hW => by
    have hz := hW.size
    exact ⟨hb0.trans (hW.mono (by omega)), by omega, blk_cell ((hW.block _ (by omega)).trans hc0)⟩)
  have fc := (HX.out W0 (Below.refl _ _)).2.2
  obtain ⟨ccl, ⟨⟨ki, se, sq, at_, sp, vo⟩, As, ns, ccs, Av, nv, cv⟩, tr, be, en, ix, r, fA, fn, fcc, fo⟩ := c
  dsimp only [ClV.val] at *
  have hz0x : w.heap.size + 1 ≤ W0.heap.size := by omega
  have HB1 : Hid (Below w.heap.size w W0) := Lib.hid hb0
  have HLD : Hid (W0.rangeAt w.heap.size 0 [.int .i64 ccl, .int .i64 ki, .int .i64 se, .int .i64 sq, .int .i64 at_, .slice As ns ccs, .slice Av nv cv, .int .i64 tr, .int .i64 be, .int .i64 en, .int .i64 ix, .int .i64 r.er, .int .i64 r.ss, .int .i64 r.gn, .int .i64 r.ad, .int .i64 r.sa, .int .i64 r.ot, .int .i64 r.cy, .int .i64 r.fu, .slice fA fn fcc]) := Lib.hid (fun j v h => by rw [Nat.zero_add]; rw [fc j]; simpa using h)
  clear hb0 hc0 hz0 fc
  go_enter Tryz.func36, Tryz.ntmps36
  go_wp2_with (refine wpList_load_mid rfl 53 (.tmp 5) rfl w.heap.size 0 rfl _ _ HLD.out Tryz.underlying53 rfl (by kernel_rfl) ?_)
  clear hW0 
  refine (HFST.out _ HB1.out).mono ?_
  rintro e w1 ⟨rfl, hb1⟩
  have HW1 : Hid (Below (w.heap.size + 1) W0 w1) := Lib.hid (hb1.mono hz0x)
  clear hb1
  go_wp2_with fail
  go_loopw [15] (fun i wr => ∃ k : Nat, k ≤ cs.length ∧ i = .int .i64 k ∧ (∀ j, (h : j < k) → (hj : j < cs.length) → (cs[j]).en ≠ 0 → (cs[j]).en < be → ¬ (fp < (cs[j]).ix ∨ (fp = (cs[j]).ix ∧ ki ≠ 0))) ∧ Below (w.heap.size + 1) W0 wr) (fun i _ => cs.length - (intOf i).toNat)
  case atStart => exact ⟨0, by omega, rfl, fun j h => by omega, HW1.out⟩
  case round =>
    obtain ⟨k, hk, rfl, hall, hwr⟩ := hrel
    have HALL := Lib.hid hall
    have HWR := Lib.hid hwr
    obtain ⟨hbw, hzr, fc⟩ := HX.out wr hwr
    have HBW := Lib.hid hbw
    clear hall hwr hbw
    by_cases hlt : k < cs.length
    · obtain ⟨eb, off, hA, heb, hcell⟩ := Rd.elem ClV.cells_len (HR2.out.below HBW.out HB0.out).1 (k := k) hlt hlt
      have HLX : Hid (wr.rangeAt eb (off + k * 20) (cs[k]).cells) := Lib.hid (fun j v h => (hcell j (by have h1 := (List.getElem?_eq_some_iff.1 h).1; rw [ClV.cells_len] at h1; exact h1)).trans h)
      have HNXT : Hid (((cs[k]).en ≠ 0 → (cs[k]).en < be → ¬ (fp < (cs[k]).ix ∨ (fp = (cs[k]).ix ∧ ki ≠ 0))) → ∀ j, (h : j < k + 1) → (hj : j < cs.length) → (cs[j]).en ≠ 0 → (cs[j]).en < be → ¬ (fp < (cs[j]).ix ∨ (fp = (cs[j]).ix ∧ ki ≠ 0))) := Lib.hid (fun hf j h hj => by
        by_cases e : j = k
        · subst e; exact hf
        · exact HALL.out j (by omega) hj)
      have HBAD : Hid ((cs[k]).en ≠ 0 → (cs[k]).en < be → (fp < (cs[k]).ix ∨ (fp = (cs[k]).ix ∧ ki ≠ 0)) → ¬ P) := Lib.hid (fun h1 h2 h3 hp => (HBP.out.1 hp) k hlt h1 h2 h3)
      have hk1 : (k : Int) < cs.length := by omega
      subst hA
      clear hcell
      generalize cs[k] = x at *
      obtain ⟨xcl, ⟨⟨xki, xse, xsq, xat, xsp, xvo⟩, xAs, xns, xcs, xAv, xnv, xcv⟩, xtr, xbe, xen, xix, xr, xfA, xfn, xfc, xfo⟩ := x
      dsimp only [ClV.cells] at *
      have hn3 : ¬ w.heap.size = wr.heap.size := by omega
      have hm3 : w.heap.size < wr.heap.size := by omega
      have HTH : Hid ((wr.alloc (.cells #[.int .i64 0, .int .i64 0, .int .i64 0, .int .i64 0, .int .i64 0, .slice none 0 0, .slice none 0 0, .int .i64 0, .int .i64 0, .int .i64 0, .int .i64 0, .int .i64 0, .int .i64 0, .int .i64 0, .int .i64 0, .int .i64 0, .int .i64 0, .int .i64 0, .int .i64 0, .slice none 0 0] 53 (0, 0))).there wr.heap.size 0 20) := Lib.hid (fun j hj => by
        rw [Nat.zero_add]
        refine ⟨?_, blk_frozen (heap_at rfl) j⟩
        rw [blk_cell (heap_at rfl) j]
        simp only [Array.getElem?_eq_getElem (show j < (#[.int .i64 0, .int .i64 0, .int .i64 0, .int .i64 0, .int .i64 0, .slice none 0 0, .slice none 0 0, .int .i64 0, .int .i64 0, .int .i64 0, .int .i64 0, .int .i64 0, .int .i64 0, .int .i64 0, .int .i64 0, .int .i64 0, .int .i64 0, .int .i64 0, .int .i64 0, .slice none 0 0] : Array Value).size from hj), Option.isSome_some])
      go_upto_region 5 with (first | (refine wpList_store_mid rfl 53 (.tmp 9) (.tmp 18) rfl wr.heap.size 0 _ rfl rfl HTH.out (by kernel_rfl) (call_one ⟨xcl, ⟨⟨xki, xse, xsq, xat, xsp, xvo⟩, xAs, xns, xcs, xAv, xnv, xcv⟩, xtr, xbe, xen, xix, xr, xfA, xfn, xfc, xfo⟩) ?_) | refine wpList_load_mid rfl 53 (.tmp 17) rfl eb (off + k * 20) rfl _ _ HLX.out Tryz.underlying53 rfl (by kernel_rfl) ?_)
      have hfs := fr_setCells wr.heap.size [.int .i64 xcl, .int .i64 xki, .int .i64 xse, .int .i64 xsq, .int .i64 xat, .slice xAs xns xcs, .slice xAv xnv xcv, .int .i64 xtr, .int .i64 xbe, .int .i64 xen, .int .i64 xix, .int .i64 xr.er, .int .i64 xr.ss, .int .i64 xr.gn, .int .i64 xr.ad, .int .i64 xr.sa, .int .i64 xr.ot, .int .i64 xr.cy, .int .i64 xr.fu, .slice xfA xfn xfc] 0 (wr.alloc (.cells #[.int .i64 0, .int .i64 0, .int .i64 0, .int .i64 0, .int .i64 0, .slice none 0 0, .slice none 0 0, .int .i64 0, .int .i64 0, .int .i64 0, .int .i64 0, .int .i64 0, .int .i64 0, .int .i64 0, .int .i64 0, .int .i64 0, .int .i64 0, .int .i64 0, .int .i64 0, .slice none 0 0] 53 (0, 0)))
      have hrs := World.rangeAt_setCells_same (wr.alloc (.cells #[.int .i64 0, .int .i64 0, .int .i64 0, .int .i64 0, .int .i64 0, .slice none 0 0, .slice none 0 0, .int .i64 0, .int .i64 0, .int .i64 0, .int .i64 0, .int .i64 0, .int .i64 0, .int .i64 0, .int .i64 0, .int .i64 0, .int .i64 0, .int .i64 0, .int .i64 0, .slice none 0 0] 53 (0, 0))) wr.heap.size 0 [.int .i64 xcl, .int .i64 xki, .int .i64 xse, .int .i64 xsq, .int .i64 xat, .slice xAs xns xcs, .slice xAv xnv xcv, .int .i64 xtr, .int .i64 xbe, .int .i64 xen, .int .i64 xix, .int .i64 xr.er, .int .i64 xr.ss, .int .i64 xr.gn, .int .i64 xr.ad, .int .i64 xr.sa, .int .i64 xr.ot, .int .i64 xr.cy, .int .i64 xr.fu, .slice xfA xfn xfc] HTH.out
      have hb4 : Below (w.heap.size + 1) W0 ((wr.alloc (.cells #[.int .i64 0, .int .i64 0, .int .i64 0, .int .i64 0, .int .i64 0, .slice none 0 0, .slice none 0 0, .int .i64 0, .int .i64 0, .int .i64 0, .int .i64 0, .int .i64 0, .int .i64 0, .int .i64 0, .int .i64 0, .int .i64 0, .int .i64 0, .int .i64 0, .int .i64 0, .slice none 0 0] 53 (0, 0))).setCells wr.heap.size 0 [.int .i64 xcl, .int .i64 xki, .int .i64 xse, .int .i64 xsq, .int .i64 xat, .slice xAs xns xcs, .slice xAv xnv xcv, .int .i64 xtr, .int .i64 xbe, .int .i64 xen, .int .i64 xix, .int .i64 xr.er, .int .i64 xr.ss, .int .i64 xr.gn, .int .i64 xr.ad, .int .i64 xr.sa, .int .i64 xr.ot, .int .i64 xr.cy, .int .i64 xr.fu, .slice xfA xfn xfc]) := (below_alloc hz0x HWR.out _).trans (hfs.below (by simp; omega) (fun k hk => by omega))
      clear hfs
      generalize hwx : (wr.alloc (.cells #[.int .i64 0, .int .i64 0, .int .i64 0, .int .i64 0, .int .i64 0, .slice none 0 0, .slice none 0 0, .int .i64 0, .int .i64 0, .int .i64 0, .int .i64 0, .int .i64 0, .int .i64 0, .int .i64 0, .int .i64 0, .int .i64 0, .int .i64 0, .int .i64 0, .int .i64 0, .slice none 0 0] 53 (0, 0))).setCells wr.heap.size 0 [.int .i64 xcl, .int .i64 xki, .int .i64 xse, .int .i64 xsq, .int .i64 xat, .slice xAs xns xcs, .slice xAv xnv xcv, .int .i64 xtr, .int .i64 xbe, .int .i64 xen, .int .i64 xix, .int .i64 xr.er, .int .i64 xr.ss, .int .i64 xr.gn, .int .i64 xr.ad, .int .i64 xr.sa, .int .i64 xr.ot, .int .i64 xr.cy, .int .i64 xr.fu, .slice xfA xfn xfc] = wx at *
      have HB4 := Lib.hid hb4
      have hx9 : wx.cell? ⟨wr.heap.size, 9, none⟩ = some (.int .i64 xen) := by have h := hrs 9 _ rfl; rwa [Nat.zero_add] at h
      have hx10 : wx.cell? ⟨wr.heap.size, 10, none⟩ = some (.int .i64 xix) := by have h := hrs 10 _ rfl; rwa [Nat.zero_add] at h
      have hc8 : wx.cell? ⟨w.heap.size, 8, none⟩ = some (.int .i64 be) := (HX.out wx HB4.out).2.2 8
      have hc1 : wx.cell? ⟨w.heap.size, 1, none⟩ = some (.int .i64 ki) := (HX.out wx HB4.out).2.2 1
      clear hwx fc HLX hrs hb4 HTH
      generalize (Value.agg #[.int .i64 xcl, .int .i64 xki, .int .i64 xse, .int .i64 xsq, .int .i64 xat, .slice xAs xns xcs, .slice xAv xnv xcv, .int .i64 xtr, .int .i64 xbe, .int .i64 xen, .int .i64 xix, .int .i64 xr.er, .int .i64 xr.ss, .int .i64 xr.gn, .int .i64 xr.ad, .int .i64 xr.sa, .int .i64 xr.ot, .int .i64 xr.cy, .int .i64 xr.fu, .slice xfA xfn xfc]) = va
      by_cases g1 : xen = 0
      · have HNX := Lib.hid (HNXT.out (fun h => absurd g1 h))
        subst g1
        as_aux_lemma =>
          go_wp2_with fail
          go_roundw
          case rel => exact ⟨k + 1, by omega, by go_num, HNX.out, HB4.out⟩
          case measure => simp [intOf]; omega
      · have g1b : (xen == 0) = false := by simpa using g1
        by_cases g2 : xen < be
        · have g2b : decide (be ≤ xen) = false := decide_eq_false (by omega)
          by_cases g3 : fp < xix
          · have HNP : Hid (¬ P) := Lib.hid (HBAD.out g1 g2 (.inl g3))
            as_aux_lemma =>
              go_wp2_with fail
              go_ret
              exact ⟨false, rfl, ⟨(fun h => by cases h), fun h => absurd h HNP.out⟩, (HX.out _ HB4.out).1⟩
          · have g3b : decide (fp < xix) = false := decide_eq_false g3
            by_cases g4 : fp = xix
            · by_cases g5 : ki = 0
              · have HNX := Lib.hid (HNXT.out (fun _ _ h => by
                  rcases h with h | h
                  · exact g3 h
                  · exact h.2 g5))
                subst g5
                have g4b : (fp == xix) = true := by simpa using g4
                have G4 := Lib.hid g4
                clear g4
                as_aux_lemma =>
                  go_wp2_with fail
                  go_roundw
                  case rel => exact ⟨k + 1, by omega, by go_num, HNX.out, HB4.out⟩
                  case measure => simp [intOf]; omega
              · have HNP : Hid (¬ P) := Lib.hid (HBAD.out g1 g2 (.inr ⟨g4, g5⟩))
                have g4b : (fp == xix) = true := by simpa using g4
                have g5b : (ki != 0) = true := by simpa using g5
                have G4 := Lib.hid g4
                clear g4
                as_aux_lemma =>
                  go_wp2_with fail
                  go_ret
                  exact ⟨false, rfl, ⟨(fun h => by cases h), fun h => absurd h HNP.out⟩, (HX.out _ HB4.out).1⟩
            · have HNX := Lib.hid (HNXT.out (fun _ _ h => by
                rcases h with h | h
                · exact g3 h
                · exact g4 h.1))
              have g4b : (fp == xix) = false := by simpa using g4
              as_aux_lemma =>
                go_wp2_with fail
                go_roundw
                case rel => exact ⟨k + 1, by omega, by go_num, HNX.out, HB4.out⟩
                case measure => simp [intOf]; omega
        · have HNX := Lib.hid (HNXT.out (fun _ h => absurd h g2))
          have g2b : decide (be ≤ xen) = true := decide_eq_true (by omega)
          as_aux_lemma =>
            go_wp2_with fail
            go_roundw
            case rel => exact ⟨k + 1, by omega, by go_num, HNX.out, HB4.out⟩
            case measure => simp [intOf]; omega
    · have hke : k = cs.length := by omega
      have HP : Hid P := Lib.hid (HBP.out.2 (fun j hj => HALL.out j (by omega) hj))
      clear hke
      go_wp2_with fail
      go_ret
      exact ⟨true, rfl, ⟨fun _ => HP.out, fun _ => rfl⟩, HBW.out⟩
end Go.Proofs.YtfjpenbahoeklaaGreatDoor
namespace Go.Proofs.YtfjpenbahoeklaaGreatDoor
open Go Go.RowKit
theorem rp_dec (s t : Rp) : ∃ q : Bool, q = true ↔ s = t := by
  by_cases h : s = t
  · exact ⟨true, by simp [h]⟩
  · exact ⟨false, by simp [h]⟩
theorem rp_if {α : Type} {s t : Rp} {q : Bool} (hq : q = true ↔ s = t) (a b : α) :
    (if s.er = t.er then if s.ss = t.ss then if s.gn = t.gn then if s.ad = t.ad then if s.sa = t.sa then if s.ot = t.ot then if s.cy = t.cy then if s.fu = t.fu then a else b else b else b else b else b else b else b else b) = if q = true then a else b := by
  obtain ⟨s0, s1, s2, s3, s4, s5, s6, s7⟩ := s
  obtain ⟨t0, t1, t2, t3, t4, t5, t6, t7⟩ := t
  simp only [Rp.mk.injEq] at hq
  dsimp only
  by_cases h0 : s0 = t0
  · rw [if_pos h0]
    by_cases h1 : s1 = t1
    · rw [if_pos h1]
      by_cases h2 : s2 = t2
      · rw [if_pos h2]
        by_cases h3 : s3 = t3
        · rw [if_pos h3]
          by_cases h4 : s4 = t4
          · rw [if_pos h4]
            by_cases h5 : s5 = t5
            · rw [if_pos h5]
              by_cases h6 : s6 = t6
              · rw [if_pos h6]
                by_cases h7 : s7 = t7
                · rw [if_pos h7, if_pos (hq.2 ⟨h0, h1, h2, h3, h4, h5, h6, h7⟩)]
                · rw [if_neg h7, if_neg (fun h => h7 (hq.1 h).2.2.2.2.2.2.2)]
              · rw [if_neg h6, if_neg (fun h => h6 (hq.1 h).2.2.2.2.2.2.1)]
            · rw [if_neg h5, if_neg (fun h => h5 (hq.1 h).2.2.2.2.2.1)]
          · rw [if_neg h4, if_neg (fun h => h4 (hq.1 h).2.2.2.2.1)]
        · rw [if_neg h3, if_neg (fun h => h3 (hq.1 h).2.2.2.1)]
      · rw [if_neg h2, if_neg (fun h => h2 (hq.1 h).2.2.1)]
    · rw [if_neg h1, if_neg (fun h => h1 (hq.1 h).2.1)]
  · rw [if_neg h0, if_neg (fun h => h0 (hq.1 h).1)]
theorem rp_eql (s t : Rp) {q : Bool} (hq : q = true ↔ s = t) (W : World) : (binOp .eql 32 s.val t.val).run Tryz.prog W = .ok (.bool q) W := by
  go_simp
  exact (rp_if hq _ _).trans (by cases q <;> rfl)
theorem rp_neq (s t : Rp) {q : Bool} (hq : q = true ↔ s = t) (W : World) : (binOp .neq 32 s.val t.val).run Tryz.prog W = .ok (.bool !q) W := by
  go_simp
  exact (rp_if hq _ _).trans (by cases q <;> rfl)
end Go.Proofs.YtfjpenbahoeklaaGreatDoor
namespace Go.Proofs.YtfjpenbahoeklaaGreatDoor
open Go Go.RowKit Go.Maps

/-- What New leaves. -/
def ResNew (w : World) (vo : List Int) (e : Ending) (w' : World) : Prop :=
  (okV vo = true ∧ ∃ b, e = .returned (.tuple #[.pointer (some ⟨b, 0, none⟩), .int .i64 0]) ∧ MaAt w' b (fun k => w.heap.size ≤ k ∧ k < w'.heap.size) (Ma.new vo) ∧ Below w.heap.size w w') ∨
  (okV vo = false ∧ e = .returned (.tuple #[.pointer none, .int .i64 1]) ∧ Below w.heap.size w w')
set_option maxRecDepth 100000 in
set_option maxHeartbeats 2000000 in
theorem mnew_any (A : Option Addr) (n cap B : Nat) (vo : List Int) (w : World) (hB : B ≤ w.heap.size) (hbig : n ≤ 140737488355328) (hr : RdI w B A n vo) :
    Calls Tryz.prog 48 #[.slice A n cap] w (ResNew w vo) := by
  have hl := hr.len
  have HC : Hid (Calls Tryz.prog 78 #[.agg #[.int .i64 1, .int .i64 1, .slice A n cap, .slice none 0 0]] w fun e w' => e = .returned (.int .i64 (if okV vo then 0 else 60)) ∧ Below w.heap.size w w') := Lib.hid (vcheck1_any A n cap B vo w hB hbig hr)
  have HR := Lib.hid hr
  have HL := Lib.hid hl
  have HB0 := Lib.hid hB
  clear hr hl hB
  cases hok : okV vo with
  | false =>
    have HOK := Lib.hid hok
    have hc := HC.out
    rw [hok, if_neg Bool.false_ne_true] at hc
    have HC2 := Lib.hid hc
    clear hc hok
    go_enter Tryz.func48, Tryz.ntmps48
    go_wp2_with fail
    refine HC2.out.mono ?_
    rintro e w1 ⟨rfl, hb1⟩
    have HB1 := Lib.hid hb1
    clear hb1
    go_wp2_with fail
    go_ret2
    exact .inr ⟨HOK.out, rfl, HB1.out⟩
  | true =>
    have HOK := Lib.hid hok
    have hc := HC.out
    rw [hok, if_pos rfl] at hc
    have HC2 := Lib.hid hc
    have hvl := okV_len hok
    obtain ⟨b0, off, hA⟩ : ∃ b off, A = some ⟨b, off, none⟩ := by
      obtain ⟨x, y, h, _, _⟩ := HR.out.at_ (k := 0) (by omega)
      exact ⟨x, y, h⟩
    subst hA
    have hvp : 0 < vo.length := by omega
    have hvn : vo.length ≤ 7 := hvl.2
    obtain rfl : vo.length = n := HL.out
    clear hc hok hvl
    go_enter Tryz.func48, Tryz.ntmps48
    go_wp2_with fail
    refine HC2.out.mono ?_
    rintro e w1 ⟨rfl, hb1⟩
    have HB1 := Lib.hid hb1
    clear hb1
    go_wp2_with fail
    refine (snew_any w1).mono ?_
    rintro e w2 ⟨s, sm, rfl, hst2, hb2⟩
    have HST2 := Lib.hid hst2
    have HB2 := Lib.hid hb2
    clear hst2 hb2
    go_wp2_with fail
    refine (tnew_any w2).mono ?_
    rintro e w3 ⟨t, tm, rfl, htb3, ht3, htm3, hb3⟩
    have HTB3 := Lib.hid htb3
    have HB3 := Lib.hid hb3
    clear htb3 hb3
    have HB13 : Hid (Below w.heap.size w w3) := Lib.hid ((HB1.out.trans (HB2.out.mono HB1.out.size)).trans (HB3.out.mono (Nat.le_trans HB1.out.size HB2.out.size)))
    go_wp2_with fail
    refine (cloneInts_any ⟨b0, off, none⟩ vo.length cap B vo w3 (by have := HB13.out.size; have := HB0.out; omega) (by omega) (Rd.below' HR.out HB13.out HB0.out (Nat.le_refl _))).mono ?_
    rintro e w4 ⟨A2, c2, rfl, hown4, hb4⟩
    obtain ⟨g, rfl, hg1, hg2⟩ := own_form hown4 hvp
    have HO4 := Lib.hid hown4
    have HB4 := Lib.hid hb4
    clear hown4 hb4
    go_wp2_with fail
    go_ret2
    have h1 := HB1.out.size
    have h2 := HB2.out.size
    have h3 := HB3.out.size
    have h4 := HB4.out.size
    have hlt := HST2.out.lt
    have htl := HTB3.out.lt
    have html := HTB3.out.ltm
    have hb5 : Below w4.heap.size w4 (w4.alloc (.cells #[.pointer (some ⟨s, 0, none⟩), .pointer (some ⟨t, 0, none⟩), .int .i64 0, .int .i64 0, .slice (some ⟨g, 0, none⟩) vo.length c2] 144 (0, 0))) := (Below.refl _ _).alloc (Nat.le_refl _) _
    have hb35 : Below w3.heap.size w3 (w4.alloc (.cells #[.pointer (some ⟨s, 0, none⟩), .pointer (some ⟨t, 0, none⟩), .int .i64 0, .int .i64 0, .slice (some ⟨g, 0, none⟩) vo.length c2] 144 (0, 0))) := HB4.out.trans (hb5.mono h4)
    have hb25 : Below w2.heap.size w2 (w4.alloc (.cells #[.pointer (some ⟨s, 0, none⟩), .pointer (some ⟨t, 0, none⟩), .int .i64 0, .int .i64 0, .slice (some ⟨g, 0, none⟩) vo.length c2] 144 (0, 0))) := HB3.out.trans (hb35.mono h3)
    refine .inl ⟨HOK.out, w4.heap.size, rfl, ⟨s, sm, t, tm, g, c2, fun k => w1.heap.size ≤ k ∧ k < w2.heap.size, ⟨heap_at rfl, HST2.out.below hb25 (Nat.le_refl _), HTB3.out.below hb35 (Nat.le_refl _), Rd.below' (Rd.of_own HO4.out) hb5 (Nat.le_refl _) (by simp), GrM.new HOK.out, ⟨by omega, by omega, by omega, by omega, by omega⟩, ⟨by omega, by omega, by omega, by omega⟩, ?_, ?_, fun k hk => hk.2⟩⟩, HB13.out.trans ((HB4.out.trans (hb5.mono h4)).mono HB13.out.size)⟩
    · simp only [World.size_alloc]
      omega
    · intro k hk
      simp only [World.size_alloc]
      omega

set_option maxRecDepth 100000 in
theorem mlook_any {w : World} {b : Nat} {S : Nat → Prop} {M : Ma} (h : MaAt w b S M) (x : Int) (hx : wfI x) :
    Calls Tryz.prog 58 #[.pointer (some ⟨b, 0, none⟩), .int .i64 x] w (ResBr w (lookT M.T x)) := by
  have HM := Lib.hid h
  obtain ⟨s, sm, t, tm, vb, c, SS, h⟩ := h
  have hc := blk_cell h.hp
  have HL := Lib.hid (lookup_any h.st x hx)
  clear h
  go_enter Tryz.func58, Tryz.ntmps58
  go_wp2_with fail
  refine (mmade_any HM.out).mono ?_
  rintro e w1 ⟨rfl, rfl⟩
  go_wp2_with fail
  refine HL.out.mono ?_
  rintro e w1 ⟨A, c1, rfl, hown, hb⟩
  go_wp2_with fail
  go_ret
  exact ⟨A, c1, rfl, hown, hb⟩
set_option maxRecDepth 100000 in
theorem mmadeNil_any (w : World) : Calls Tryz.prog 82 #[.pointer none] w fun e w' => e = .returned (.bool false) ∧ w = w' := by
  go_enter Tryz.func82, Tryz.ntmps82
  go_wp2_with fail
  go_ret
  exact ⟨rfl, rfl⟩
set_option maxRecDepth 100000 in
theorem mlookNil_any (w : World) (x : Int) :
    Calls Tryz.prog 58 #[.pointer none, .int .i64 x] w (ResBr w []) := by
  go_enter Tryz.func58, Tryz.ntmps58
  go_wp2_with fail
  refine (mmadeNil_any w).mono ?_
  rintro e w1 ⟨rfl, rfl⟩
  go_wp2_with fail
  go_ret
  exact ⟨none, 0, rfl, World.ownsRow_nil _ _ _ _, Below.refl _ _⟩
end Go.Proofs.YtfjpenbahoeklaaGreatDoor
