/-
  The plain side of a forest: spans as they came, what comes of one more, who names whom as its parent. No condition.
  A forest in memory: its two maps and the struct that holds them; what keeps it; the look-ups and the stores. No condition: plain lemmas over the library's own on maps.
  The plain side of a table of sessions: what Open, Ask, Keep, Expire answer, and what there is behind them; its bytes. No condition.
  The walks of a forest's first methods: New, made, above. Conditions: the forest lies in memory as New made it.
  One more span laid into a forest: the steps' runs, and the forest behind them. Conditions: the forest lies in memory as New made it; the span may be added.
  The plain side of a forest's branches: what lay lays. No condition.
  The plain law of a forest's branches: nobody stands above itself; what is laid are spans of the forest, each once. No condition.
  The walks of slices.Clone and slices.Equal at spans: whether two lists are the same, a list copied. Conditions: the slices read as lists, not longer than memory bears.
  The given contracts of the library, laid at this program: the table of numbers, and each body compared. No condition.
  The walk of span.Sort: a new slice that reads as the sorted list. Conditions: the slice reads as a list, not longer than memory bears.
  Rows of spans: one span laid, a row that grows. No condition: plain lemmas.
  The walk of a forest's lay: spans and what stands beneath them, laid behind branches. Conditions: the maps lie in memory as New and Add made them; nobody stands above itself.
-/
import Derived.Test.YtfjpenbahoeklaaGreatDoorHSorted
import Derived.Test.YtfjpenbahoeklaaGreatDoorHPut
import Derived.Maps.RangeWalk
import Derived.Maps.Ext
import Derived.Laws.Cover3
import Derived.Shelf.SlLaysF0
import Derived.Test.YtfjpenbahoeklaaGreatDoorProg
import Derived.Shelf.SlSortCmp.NoneTotal
namespace Go.Proofs.YtfjpenbahoeklaaGreatDoor
open Go.RowKit

instance : DecidableEq Sp := fun a b => decidable_of_iff (a.cmp b = 0) cmp_zero
/-- The span with a number. -/
def atS (L : List Sp) (x : Int) : Option Sp := L.find? fun s => decide (s.id = x)
def getS (L : List Sp) (x : Int) : Sp := (atS L x).getD default
/-- The numbers of those that name x as their parent. -/
def kids (L : List Sp) (x : Int) : List Sp := L.filter fun s => decide (s.pa = x)
def kidIds (L : List Sp) (x : Int) : List Int := (kids L x).map Sp.id
/-- Does one stand above another one, or is it that? -/
def aboveN (L : List Sp) : Nat → Int → Int → Bool
  | 0, _, _ => false
  | n + 1, id, who => if id = who then true else match atS L id with
    | none => false
    | some s => aboveN L n s.pa who
def aboveB (L : List Sp) (id who : Int) : Bool := aboveN L (L.length + 1) id who

theorem atS_some {L : List Sp} {x : Int} {s : Sp} (h : atS L x = some s) : s ∈ L ∧ s.id = x := by
  have h1 := List.find?_some h
  exact ⟨List.mem_of_find?_eq_some h, by simpa using h1⟩
theorem atS_none {L : List Sp} {x : Int} (h : atS L x = none) : ∀ s ∈ L, s.id ≠ x := by
  intro s hs he
  have := List.find?_eq_none.1 h s hs
  simp [he] at this
theorem atS_mem {L : List Sp} (hn : (L.map Sp.id).Nodup) {s : Sp} (hs : s ∈ L) : atS L s.id = some s := by
  induction L with
  | nil => simp at hs
  | cons a L ih =>
    rw [List.map_cons, List.nodup_cons] at hn
    unfold atS
    rw [List.find?_cons]
    by_cases h : a.id = s.id
    · rw [decide_eq_true h]
      rcases List.mem_cons.1 hs with rfl | hs
      · rfl
      · exact absurd (List.mem_map.2 ⟨s, hs, h.symm⟩) hn.1
    · rw [decide_eq_false h]
      rcases List.mem_cons.1 hs with rfl | hs
      · exact absurd rfl h
      · exact ih hn.2 hs
theorem atS_snoc (L : List Sp) (s : Sp) (x : Int) : atS (L ++ [s]) x = (atS L x).or (if s.id = x then some s else none) := by
  unfold atS
  rw [List.find?_append]
  congr 1
  by_cases h : s.id = x <;> simp [h]
theorem kids_snoc (L : List Sp) (s : Sp) (x : Int) : kids (L ++ [s]) x = kids L x ++ (if s.pa = x then [s] else []) := by
  unfold kids
  rw [List.filter_append]
  congr 1
  by_cases h : s.pa = x <;> simp [h]

/-- How many came to what. -/
structure Cnt where
  ad : Nat
  sa : Nat
  ot : Nat
  cy : Nat
  fu : Nat
def Cnt.zero : Cnt := ⟨0, 0, 0, 0, 0⟩
abbrev Cnt.val (c : Cnt) : Value := .agg #[.int .i64 c.ad, .int .i64 c.sa, .int .i64 c.ot, .int .i64 c.cy, .int .i64 c.fu]
def Cnt.sum (c : Cnt) : Nat := c.ad + c.sa + c.ot + c.cy + c.fu
/-- What comes of one more. -/
def addS (st : List Sp × Cnt) (s : Sp) : List Sp × Cnt :=
  match atS st.1 s.id with
  | some o => if o = s then (st.1, { st.2 with sa := st.2.sa + 1 }) else (st.1, { st.2 with ot := st.2.ot + 1 })
  | none => if 64 ≤ st.1.length then (st.1, { st.2 with fu := st.2.fu + 1 }) else if aboveB st.1 s.pa s.id then (st.1, { st.2 with cy := st.2.cy + 1 }) else (st.1 ++ [s], { st.2 with ad := st.2.ad + 1 })
def addL (st : List Sp × Cnt) (l : List Sp) : List Sp × Cnt := l.foldl addS st
def fits (tr : Int) (s : Sp) : Bool := s.ok && decide (s.tr = tr)
theorem addS_sum (st : List Sp × Cnt) (s : Sp) : (addS st s).2.sum = st.2.sum + 1 := by
  unfold addS
  split
  · split <;> simp only [Cnt.sum] <;> omega
  · split
    · simp only [Cnt.sum]; omega
    · split <;> simp only [Cnt.sum] <;> omega
theorem addL_snoc (st : List Sp × Cnt) (l : List Sp) (s : Sp) : addL st (l ++ [s]) = addS (addL st l) s := by simp [addL, List.foldl_append]
theorem addL_sum (st : List Sp × Cnt) (l : List Sp) : (addL st l).2.sum = st.2.sum + l.length := by
  induction l generalizing st with
  | nil => rfl
  | cons s l ih => show (addL (addS st s) l).2.sum = _; rw [ih, addS_sum, List.length_cons]; omega
theorem addL_app (st : List Sp × Cnt) (l m : List Sp) : addL st (l ++ m) = addL (addL st l) m := by simp [addL, List.foldl_append]
/-- What Add answers, and what there is behind it. -/
def addA (tr : Int) (L l : List Sp) : List Sp × Cnt × Int := if l.all (fits tr) then ((addL (L, Cnt.zero) l).1, (addL (L, Cnt.zero) l).2, 0) else (L, Cnt.zero, 30)

/-- The spans of a forest, as they came. -/
inductive Grown (tr : Int) : List Sp → Prop
  | nil : Grown tr []
  | snoc {L : List Sp} {s : Sp} (h : Grown tr L) (hf : fits tr s = true) (hn : atS L s.id = none) (hl : L.length < 64) (ha : aboveB L s.pa s.id = false) : Grown tr (L ++ [s])
theorem Grown.addS {tr : Int} {L : List Sp} (h : Grown tr L) {s : Sp} (hf : fits tr s = true) (c : Cnt) : Grown tr (addS (L, c) s).1 := by
  unfold Go.Proofs.YtfjpenbahoeklaaGreatDoor.addS
  split
  · split <;> exact h
  · rename_i hn
    by_cases h1 : 64 ≤ L.length
    · simp only [h1, if_true]; exact h
    · simp only [h1, if_false]
      cases h2 : aboveB L s.pa s.id
      · simp only [Bool.false_eq_true, if_false]
        exact .snoc h hf hn (by omega) h2
      · simp only [if_true]; exact h
theorem Grown.len {tr : Int} {L : List Sp} (h : Grown tr L) : L.length ≤ 64 := by
  cases h with
  | nil => simp
  | snoc h _ _ hl _ => simp; omega
theorem Grown.nodup {tr : Int} {L : List Sp} (h : Grown tr L) : (L.map Sp.id).Nodup := by
  induction h with
  | nil => simp
  | snoc h hf hn hl ha ih =>
    rw [List.map_append, List.nodup_append]
    refine ⟨ih, by simp, ?_⟩
    intro a ha b hb
    obtain ⟨s, hs, rfl⟩ := List.mem_map.1 ha
    simp only [List.map_cons, List.map_nil, List.mem_singleton] at hb
    rw [hb]
    exact atS_none hn s hs
theorem Grown.fits {tr : Int} {L : List Sp} (h : Grown tr L) : ∀ s ∈ L, fits tr s = true := by
  induction h with
  | nil => simp
  | snoc h hf hn hl ha ih =>
    intro s hs
    rcases List.mem_append.1 hs with hs | hs
    · exact ih s hs
    · obtain rfl := List.mem_singleton.1 hs; exact hf
theorem fits_ok {tr : Int} {s : Sp} (h : fits tr s = true) : s.ok = true ∧ s.tr = tr := by simpa [fits] using h
theorem ok_bounds {s : Sp} (h : s.ok = true) : 1 ≤ s.id ∧ s.id ≤ 1099511627776 ∧ 0 ≤ s.pa ∧ s.pa ≤ 1099511627776 ∧ s.pa ≠ s.id ∧ s.nm.size ≤ 32 := by
  simp only [Sp.ok, Bool.and_eq_true, decide_eq_true_eq, allIn, List.all_cons, List.all_nil, inB_iff] at h
  omega
theorem ok_more {s : Sp} (h : s.ok = true) : 1 ≤ s.tr ∧ s.tr ≤ 1099511627776 ∧ 0 ≤ s.st ∧ s.st ≤ s.en ∧ s.en ≤ 1099511627776 ∧ 1 ≤ s.nm.size := by
  simp only [Sp.ok, Bool.and_eq_true, decide_eq_true_eq, allIn, List.all_cons, List.all_nil, inB_iff] at h
  omega
end Go.Proofs.YtfjpenbahoeklaaGreatDoor
namespace Go.Proofs.YtfjpenbahoeklaaGreatDoor
open Go Go.RowKit Go.Maps

def spElem : Value → Option (DataW Sp × List MemPlace)
  | .agg cs => match cs.toList with
    | [.int .i64 a, .int .i64 b, .int .i64 c, .int .i64 d, .int .i64 e, .string n] => some (.held ⟨a, b, c, d, e, n⟩, [])
    | _ => none
  | _ => none
theorem spElem_mk (s : Sp) : spElem s.val = some (.held s, []) := rfl
theorem spElem_inv {v : Value} {y : DataW Sp × List MemPlace} (h : spElem v = some y) : ∃ s : Sp, v = s.val ∧ y = (.held s, []) := by
  unfold spElem at h
  split at h
  · rename_i cs
    split at h
    · rename_i a b c d e n hc
      cases h
      refine ⟨⟨a, b, c, d, e, n⟩, ?_, rfl⟩
      cases cs
      simp at hc
      subst hc
      rfl
    · cases h
  · cases h
def slElem : Value → Option (DataW Value × List MemPlace)
  | .slice A n c => some (.held (.slice A n c), [])
  | _ => none
theorem slElem_inv {v : Value} {y : DataW Value × List MemPlace} (h : slElem v = some y) : ∃ A n c, v = .slice A n c ∧ y = (.held (.slice A n c), []) := by
  unfold slElem at h
  split at h
  · cases h; exact ⟨_, _, _, rfl, rfl⟩
  · cases h

def wfI (x : Int) : Prop := (Lit.int .i64 x).wf = true
theorem wfI_of {x : Int} (h1 : -9223372036854775808 ≤ x) (h2 : x ≤ 9223372036854775807) : wfI x := by
  simp [wfI, Lit.wf, IntKind.min, IntKind.max, IntKind.signed, IntKind.bits]; omega
theorem keyLaw : Keyed Tryz.prog 3 := int_keyed Tryz.underlying3
theorem keyI {x : Int} (h : wfI x) : keyOf Tryz.prog 3 (.int .i64 x) = some (.int .i64 x) := keyOf_int_mk Tryz.underlying3 h
theorem litI {x : Int} (h : wfI x) : WideAt.IsKeyLit (.int .i64 x) := keyLaw.key (keyI h)
theorem ne_lit {x y : Int} (h : x ≠ y) : (Lit.int .i64 x) ≠ (Lit.int .i64 y) := fun e => h (by injection e)

/-- A map reads as the spans by their numbers. -/
structure DOf (D : DataW Sp) (L : List Sp) : Prop where
  has : ∀ x, Maps.has D (.int .i64 x) = (atS L x).isSome
  at_ : ∀ x s, atS L x = some s → ∀ z, D.atKey (.int .i64 x) z = .held s
  size : Maps.size D = L.length
theorem DOf.nil : DOf (.map []) [] := ⟨fun _ => rfl, fun _ _ h => (by cases h), rfl⟩
theorem DOf.put {D : DataW Sp} {L : List Sp} {s : Sp} (h : DOf D L) (ht : Tidy D) (hn : atS L s.id = none) (hw : wfI s.id) : DOf (D.put (.int .i64 s.id) (.held s)) (L ++ [s]) := by
  constructor
  · intro x
    rw [atS_snoc]
    by_cases hx : s.id = x
    · subst hx
      rw [has_put_same ht.isMap (litI hw), if_pos rfl]; cases atS L s.id <;> rfl
    · rw [has_put_other (ne_lit (Ne.symm hx)), if_neg hx, h.has]; cases atS L x <;> rfl
  · intro x t hx z
    rw [atS_snoc] at hx
    by_cases hxs : s.id = x
    · subst hxs
      rw [hn, if_pos rfl] at hx
      cases hx
      exact atKey_put_same ht.isMap (litI hw) _ _
    · rw [if_neg hxs] at hx
      rw [atKey_put_other (ne_lit (Ne.symm hxs))]
      refine h.at_ x t ?_ z
      cases h1 : atS L x with
      | none => rw [h1] at hx; cases hx
      | some u => rw [h1] at hx; exact hx
  · rw [size_put ht, h.has, hn, h.size]; simp
/-- Block a is the map of the spans. -/
def AllAt (w : World) (a : Nat) (L : List Sp) : Prop := ∃ D : DataW Sp, w.ownsMap Tryz.prog 3 spElem a L.length D ∧ DOf D L
theorem owns_eq {H : Type} {w w' : World} {P : Program} {k : TypeId} {R : Value → Option (DataW H × List MemPlace)} {b n : Nat} {D : DataW H} (h : w.ownsMap P k R b n D) (he : w'.heap[b]? = w.heap[b]?) : w'.ownsMap P k R b n D := by
  obtain ⟨es, clock, hb, r⟩ := h
  exact ⟨es, clock, he.trans hb, r⟩
theorem AllAt.lt {w : World} {a : Nat} {L : List Sp} (h : AllAt w a L) : a < w.heap.size := by obtain ⟨D, h, _⟩ := h; exact h.lt
theorem AllAt.eq {w w' : World} {a : Nat} {L : List Sp} (h : AllAt w a L) (he : w'.heap[a]? = w.heap[a]?) : AllAt w' a L := by
  obtain ⟨D, h1, h2⟩ := h; exact ⟨D, owns_eq h1 he, h2⟩
theorem AllAt.look {w : World} {a : Nat} {L : List Sp} (h : AllAt w a L) {x : Int} (hx : wfI x) (c : Bool) :
    (Instr.lookup 233 (.map (some a)) (.int .i64 x) c).run Tryz.prog w = .ok (if c then .tuple #[(getS L x).val, .bool (atS L x).isSome] else (getS L x).val) w := by
  obtain ⟨D, h1, h2⟩ := h
  have hd : ∀ v ps, spElem v = some (D.atKey (.int .i64 x) (.held default), ps) → v = (getS L x).val := by
    intro v ps hv
    obtain ⟨s, rfl, hs⟩ := spElem_inv hv
    cases hat : atS L x with
    | none =>
      rw [atKey_of_not_has (by rw [h2.has, hat]; rfl)] at hs
      simp only [Prod.mk.injEq, DataW.held.injEq] at hs
      rw [getS, hat, ← hs.1]; rfl
    | some t =>
      rw [h2.at_ x t hat] at hs
      simp only [Prod.mk.injEq, DataW.held.injEq] at hs
      rw [getS, hat, ← hs.1]; rfl
  cases c
  · obtain ⟨v, ps, hrun, hv⟩ := h1.lookup keyLaw Tryz.underlying233 (Tryz.zeroValue93 w) (spElem_mk default) (keyI hx)
    rw [hrun, hd v ps hv]; rfl
  · obtain ⟨v, ps, hrun, hv⟩ := h1.look_ok keyLaw Tryz.underlying233 (Tryz.zeroValue93 w) (spElem_mk default) (keyI hx)
    rw [hrun, hd v ps hv, h2.has]; rfl
theorem AllAt.len {w : World} {a : Nat} {L : List Sp} (h : AllAt w a L) (ty : TypeId) : (Builtin.len_ #[233] ty #[.map (some a)]).run Tryz.prog w = .ok (.int .i64 L.length) w := by
  obtain ⟨D, h1, h2⟩ := h
  rw [h1.len Tryz.underlying233 ty, h2.size]
theorem AllAt.store {w : World} {a : Nat} {L : List Sp} (h : AllAt w a L) {s : Sp} (hn : atS L s.id = none) (hw : wfI s.id) (hl : L.length < 64) :
    ∃ w', (Instr.mapUpdate 233 (.map (some a)) (.int .i64 s.id) s.val).run Tryz.prog w = .ok () w' ∧ AllAt w' a (L ++ [s]) ∧ w.grownBy w' (some a) ∧ w'.heap.size = w.heap.size := by
  obtain ⟨D, h1, h2⟩ := h
  obtain ⟨w', hrun, hown, ht⟩ := h1.store keyLaw Tryz.underlying233 (by unfold maxLen; omega) (keyI hw) (spElem_mk s)
  have hsz : w'.heap.size = w.heap.size := by obtain ⟨es, clock, es', clock', hb, rfl⟩ := ht; simp [ChangeMaps.setBlock]
  exact ⟨w', hrun, ⟨_, by rw [List.length_append]; exact hown, h2.put (h1.tidy keyLaw) hn hw⟩, ht.grown, hsz⟩

/-- Block d is the map of who names whom; its rows lie in S, no two in one block. -/
def DownAt (w : World) (d : Nat) (L : List Sp) (S : Nat → Prop) : Prop :=
  ∃ (D : DataW Value) (G C : Int → Nat), w.ownsMap Tryz.prog 3 slElem d L.length D ∧ (∀ x, kids L x = [] → Maps.has D (.int .i64 x) = false) ∧
    (∀ x, kids L x ≠ [] → (∀ z, D.atKey (.int .i64 x) z = .held (.slice (some ⟨G x, 0, none⟩) (kidIds L x).length (C x))) ∧
      w.ownsRow 0 3 1 (.slice (some ⟨G x, 0, none⟩) (kidIds L x).length (C x)) (kidIds L x).length ((kidIds L x).map (Value.int .i64)) ∧ S (G x)) ∧
    (∀ x y, kids L x ≠ [] → kids L y ≠ [] → G x = G y → x = y)
theorem DownAt.lt {w : World} {d : Nat} {L : List Sp} {S : Nat → Prop} (h : DownAt w d L S) : d < w.heap.size := by obtain ⟨D, G, C, h, _⟩ := h; exact h.lt
theorem own_eq {w w' : World} {base g : Nat} {e : TypeId} {size n c : Nat} {xs : List Value} (h : w.ownsRow base e size (.slice (some ⟨g, 0, none⟩) n c) n xs) (he : w'.heap[g]? = w.heap[g]?) : w'.ownsRow base e size (.slice (some ⟨g, 0, none⟩) n c) n xs := by
  refine ⟨h.1, ?_⟩
  rcases h.2 with hn | ⟨g', cap, cur, hv, hb, hg, rest⟩
  · exact .inl hn
  · injection hv with ha hn hc
    injection ha with ha
    injection ha with ha
    subst ha
    exact .inr ⟨g, cap, cur, by rw [hc], hb, he.trans hg, rest⟩
theorem own_mem {w : World} {base g : Nat} {e : TypeId} {size n c : Nat} {xs : List Value} (h : w.ownsRow base e size (.slice (some ⟨g, 0, none⟩) n c) n xs) : g < w.heap.size := (h.lt g rfl).2
theorem DownAt.fr {w w' : World} {d : Nat} {L : List Sp} {S S2 : Nat → Prop} (h : DownAt w d L S) (hf : Fr S2 w w') (hd : ¬ S2 d) (hS : ∀ k, S k → ¬ S2 k) : DownAt w' d L S := by
  have hlt := h.lt
  obtain ⟨D, G, C, h1, h2, h3, h4⟩ := h
  refine ⟨D, G, C, owns_eq h1 (hf.block d hlt hd), h2, fun x hx => ?_, h4⟩
  obtain ⟨a1, a2, a3⟩ := h3 x hx
  exact ⟨a1, own_eq a2 (hf.block _ (own_mem a2) (hS _ a3)), a3⟩
theorem DownAt.mono {w : World} {d : Nat} {L : List Sp} {S S2 : Nat → Prop} (h : DownAt w d L S) (hS : ∀ k, S k → S2 k) : DownAt w d L S2 := by
  obtain ⟨D, G, C, h1, h2, h3, h4⟩ := h
  exact ⟨D, G, C, h1, h2, fun x hx => ⟨(h3 x hx).1, (h3 x hx).2.1, hS _ (h3 x hx).2.2⟩, h4⟩
/-- Whom one names: a slice that reads as the numbers; and the way back behind an append onto it. -/
theorem DownAt.look {w : World} {d : Nat} {L : List Sp} {S : Nat → Prop} (h : DownAt w d L S) {x : Int} (hx : wfI x) :
    ∃ A c, (∀ w' : World, w'.heap[d]? = w.heap[d]? → (Instr.lookup 235 (.map (some d)) (.int .i64 x) false).run Tryz.prog w' = .ok (.slice A (kidIds L x).length c) w') ∧ w.ownsRow 0 3 1 (.slice A (kidIds L x).length c) (kidIds L x).length ((kidIds L x).map (Value.int .i64)) ∧ (∀ k, A.map (·.block) = some k → S k) ∧
      (∀ (s : Sp) (w1 : World) (A' : Option Addr) (c' : Nat), s.pa = x → L.length < 64 → w1.ownsRow 0 3 1 (.slice A' (kidIds L x ++ [s.id]).length c') (kidIds L x ++ [s.id]).length ((kidIds L x ++ [s.id]).map (Value.int .i64)) → Fr (fun k => A.map (·.block) = some k) w w1 → ¬ S d →
        (A'.map (·.block) = A.map (·.block) ∨ ∃ k, A'.map (·.block) = some k ∧ w.heap.size ≤ k) → (∀ k, S k → k < w.heap.size) →
        ∃ w2, (Instr.mapUpdate 235 (.map (some d)) (.int .i64 x) (.slice A' (kidIds L x ++ [s.id]).length c')).run Tryz.prog w1 = .ok () w2 ∧ DownAt w2 d (L ++ [s]) (fun k => S k ∨ (w.heap.size ≤ k ∧ k < w2.heap.size)) ∧ w1.grownBy w2 (some d)) := by
  have hdlt := h.lt
  obtain ⟨D, G, C, h1, h2, h3, h4⟩ := h
  have hlk : ∀ w' : World, w'.heap[d]? = w.heap[d]? → ∃ v ps, (Instr.lookup 235 (.map (some d)) (.int .i64 x) false).run Tryz.prog w' = .ok v w' ∧ slElem v = some (D.atKey (.int .i64 x) (.held (.slice none 0 0)), ps) := fun w' he =>
    (owns_eq h1 he).lookup keyLaw Tryz.underlying235 (Tryz.zeroValue22 w') (zd := .held (.slice none 0 0)) (zp := []) rfl (keyI hx)
  have hback : ∀ (A : Option Addr) (c : Nat), (∀ k, A.map (·.block) = some k → ∀ y, kids L y ≠ [] → G y = k → y = x) → (∀ k, A.map (·.block) = some k → S k) → ∀ (s : Sp) (w1 : World) (A' : Option Addr) (c' : Nat), s.pa = x → L.length < 64 → w1.ownsRow 0 3 1 (.slice A' (kidIds L x ++ [s.id]).length c') (kidIds L x ++ [s.id]).length ((kidIds L x ++ [s.id]).map (Value.int .i64)) → Fr (fun k => A.map (·.block) = some k) w w1 → ¬ S d →
        (A'.map (·.block) = A.map (·.block) ∨ ∃ k, A'.map (·.block) = some k ∧ w.heap.size ≤ k) → (∀ k, S k → k < w.heap.size) →
        ∃ w2, (Instr.mapUpdate 235 (.map (some d)) (.int .i64 x) (.slice A' (kidIds L x ++ [s.id]).length c')).run Tryz.prog w1 = .ok () w2 ∧ DownAt w2 d (L ++ [s]) (fun k => S k ∨ (w.heap.size ≤ k ∧ k < w2.heap.size)) ∧ w1.grownBy w2 (some d) := by
    intro A c hinj hAS s w1 A' c' hsx hl hown hf hd hloc hSlt
    have h1' : w1.ownsMap Tryz.prog 3 slElem d L.length D := owns_eq h1 (hf.block d hdlt (fun e => hd (hAS d e)))
    obtain ⟨w2, hrun2, hown2, hg2⟩ := h1'.update keyLaw Tryz.underlying235 (by unfold maxLen; omega) (keyI hx) (val := .slice A' (kidIds L x ++ [s.id]).length c') (d := .held (.slice A' (kidIds L x ++ [s.id]).length c')) (ps := []) rfl
    have hkx : kids (L ++ [s]) x = kids L x ++ [s] := by rw [kids_snoc, if_pos hsx]
    have hko : ∀ y, y ≠ x → kids (L ++ [s]) y = kids L y := fun y hy => by rw [kids_snoc, if_neg (fun e => hy (e.symm.trans hsx)), List.append_nil]
    have hix : kidIds (L ++ [s]) x = kidIds L x ++ [s.id] := by simp [kidIds, hkx]
    have hio : ∀ y, y ≠ x → kidIds (L ++ [s]) y = kidIds L y := fun y hy => by simp [kidIds, hko y hy]
    obtain ⟨g', hg', _, hglt⟩ := own_form hown (by simp)
    subst hg'
    have hgd : g' ≠ d := by
      rcases hloc with h | ⟨k, h, hk⟩
      · intro e; subst e; exact hd (hAS g' h.symm)
      · simp only [Option.map_some, Option.some.injEq] at h; omega
    have hsz1 := hf.size
    have hsz2 := hg2.size
    refine ⟨w2, hrun2, ⟨_, fun y => if y = x then g' else G y, fun y => if y = x then c' else C y, by rw [List.length_append]; exact hown2, ?_, ?_, ?_⟩, hg2⟩
    · intro y hy
      by_cases hyx : y = x
      · subst hyx; rw [hkx] at hy; simp at hy
      · rw [has_put_other (ne_lit hyx)]
        exact h2 y (by rw [← hko y hyx]; exact hy)
    · intro y hy
      by_cases hyx : y = x
      · subst hyx
        simp only [if_true, hix]
        refine ⟨fun z => atKey_put_same h1'.isMap (litI hx) _ _, own_eq hown (hg2.block g' hglt (by simpa using hgd)), ?_⟩
        rcases hloc with h | ⟨k, h, hk⟩
        · exact .inl (hAS g' h.symm)
        · simp only [Option.map_some, Option.some.injEq] at h
          exact .inr ⟨by omega, by omega⟩
      · simp only [if_neg hyx, hio y hyx]
        have hky : kids L y ≠ [] := by rw [← hko y hyx]; exact hy
        obtain ⟨a1, a2, a3⟩ := h3 y hky
        have hlt := own_mem a2
        refine ⟨fun z => by rw [atKey_put_other (ne_lit hyx)]; exact a1 z, ?_, .inl a3⟩
        have e1 := hf.block (G y) hlt (fun e => hyx (hinj _ e y hky rfl))
        exact own_eq (own_eq a2 e1) (hg2.block _ (by omega) (fun e => hd (by injection e with e; rw [← e]; exact a3)))
    · intro y z hy hz he
      by_cases hyx : y = x
      · by_cases hzx : z = x
        · rw [hyx, hzx]
        · simp only [if_pos hyx, if_neg hzx] at he
          have hkz : kids L z ≠ [] := by rw [← hko z hzx]; exact hz
          rcases hloc with h | ⟨k, h, hk⟩
          · exact absurd (hinj g' h.symm z hkz he.symm) hzx
          · simp only [Option.map_some, Option.some.injEq] at h
            have := hSlt _ (h3 z hkz).2.2
            omega
      · by_cases hzx : z = x
        · simp only [if_neg hyx, if_pos hzx] at he
          have hky : kids L y ≠ [] := by rw [← hko y hyx]; exact hy
          rcases hloc with h | ⟨k, h, hk⟩
          · exact absurd (hinj g' h.symm y hky he) hyx
          · simp only [Option.map_some, Option.some.injEq] at h
            have := hSlt _ (h3 y hky).2.2
            omega
        · simp only [if_neg hyx, if_neg hzx] at he
          exact h4 y z (by rw [← hko y hyx]; exact hy) (by rw [← hko z hzx]; exact hz) he
  by_cases hk : kids L x = []
  · have hi : kidIds L x = [] := by simp [kidIds, hk]
    rw [hi] at hback ⊢
    refine ⟨none, 0, fun w' he' => ?_, World.ownsRow_nil _ _ _ _, (fun k hk => by cases hk), hback none 0 (fun k hk => by cases hk) (fun k hk => by cases hk)⟩
    obtain ⟨v, ps, hrun, hv⟩ := hlk w' he'
    rw [atKey_of_not_has (h2 x hk)] at hv
    obtain ⟨A, n, c, rfl, he⟩ := slElem_inv hv
    simp only [Prod.mk.injEq, DataW.held.injEq] at he
    obtain ⟨e1, e2, e3⟩ := Value.slice.inj he.1
    rw [hrun, ← e1, ← e2, ← e3]
    rfl
  · obtain ⟨a1, a2, a3⟩ := h3 x hk
    refine ⟨some ⟨G x, 0, none⟩, C x, fun w' he' => ?_, a2, fun k hk => ?_, hback (some ⟨G x, 0, none⟩) (C x) (fun k hk y hy hgy => ?_) (fun k hk => ?_)⟩
    · obtain ⟨v, ps, hrun, hv⟩ := hlk w' he'
      rw [a1] at hv
      obtain ⟨A, n, c, rfl, he⟩ := slElem_inv hv
      simp only [Prod.mk.injEq, DataW.held.injEq] at he
      obtain ⟨e1, e2, e3⟩ := Value.slice.inj he.1
      rw [hrun, ← e1, ← e2, ← e3]
    · simp only [Option.map_some, Option.some.injEq] at hk; rw [← hk]; exact a3
    · simp only [Option.map_some, Option.some.injEq] at hk
      exact h4 y x hy ‹_› (hgy.trans hk.symm)
    · simp only [Option.map_some, Option.some.injEq] at hk; rw [← hk]; exact a3
end Go.Proofs.YtfjpenbahoeklaaGreatDoor
namespace Go.Proofs.YtfjpenbahoeklaaGreatDoor
open Go.RowKit

/-- A reply. -/
structure Rp where
  er : Int
  ss : Int
  gn : Int
  ad : Int
  sa : Int
  ot : Int
  cy : Int
  fu : Int
def Rp.zero : Rp := ⟨0, 0, 0, 0, 0, 0, 0, 0⟩
def Rp.nums (r : Rp) : List Int := [r.er, r.ss, r.gn, r.ad, r.sa, r.ot, r.cy, r.fu]
def Rp.cells (r : Rp) : List Value := [.int .i64 r.er, .int .i64 r.ss, .int .i64 r.gn, .int .i64 r.ad, .int .i64 r.sa, .int .i64 r.ot, .int .i64 r.cy, .int .i64 r.fu]
abbrev Rp.val (r : Rp) : Value := .agg #[.int .i64 r.er, .int .i64 r.ss, .int .i64 r.gn, .int .i64 r.ad, .int .i64 r.sa, .int .i64 r.ot, .int .i64 r.cy, .int .i64 r.fu]
/-- May it be kept? -/
def Rp.ok (r : Rp) : Bool := r.nums.all fun n => decide (0 ≤ n) && decide (n ≤ 1099511627776)
/-- A seat. -/
structure Se where
  ss : Int
  sq : Int
  at_ : Int
  r : Rp
def Se.nums (s : Se) : List Int := s.ss :: s.sq :: s.at_ :: s.r.nums
def Se.cells (s : Se) : List Value := [.int .i64 s.ss, .int .i64 s.sq, .int .i64 s.at_, .int .i64 s.r.er, .int .i64 s.r.ss, .int .i64 s.r.gn, .int .i64 s.r.ad, .int .i64 s.r.sa, .int .i64 s.r.ot, .int .i64 s.r.cy, .int .i64 s.r.fu]
abbrev Se.val (s : Se) : Value := .agg #[.int .i64 s.ss, .int .i64 s.sq, .int .i64 s.at_, .int .i64 s.r.er, .int .i64 s.r.ss, .int .i64 s.r.gn, .int .i64 s.r.ad, .int .i64 s.r.sa, .int .i64 s.r.ot, .int .i64 s.r.cy, .int .i64 s.r.fu]
theorem Se.cells_len (s : Se) : s.cells.length = 11 := rfl
def Se.zero : Se := ⟨0, 0, 0, Rp.zero⟩
instance : Inhabited Rp := ⟨Rp.zero⟩
instance : Inhabited Se := ⟨Se.zero⟩
def seT (L : List Se) (x : Int) : Option Se := L.find? fun s => decide (s.ss = x)
def insQ : List Se → Se → List Se
  | [], s => [s]
  | u :: L, s => if s.ss < u.ss then s :: u :: L else u :: insQ L s
def setQ (L : List Se) (s : Se) : List Se := L.map fun u => if u.ss = s.ss then s else u
/-- By rising numbers. -/
def SrtS (L : List Se) : Prop := L.Pairwise fun s t => s.ss < t.ss
def Se.ok (s : Se) : Prop := 1 ≤ s.ss ∧ s.ss ≤ 1099511627776 ∧ 0 ≤ s.sq ∧ s.sq ≤ 1099511627776 ∧ 1 ≤ s.at_ ∧ s.at_ ≤ 1099511627776 ∧ s.r.ok = true
/-- A table's sessions. -/
structure GrS (L : List Se) : Prop where
  srt : SrtS L
  len : L.length ≤ 8
  ok : ∀ s ∈ L, s.ok
/-- What Open answers, and what there is behind it. -/
def opnS (L : List Se) (x : Int) : List Se × Int :=
  if x < 1 ∨ 1099511627776 < x ∨ (seT L x).isSome = true then (L, 1) else if 8 ≤ L.length then (L, 7) else (insQ L ⟨x, 0, x, Rp.zero⟩, 0)
/-- What Ask answers. -/
def askS (L : List Se) (x q : Int) : Rp × Bool × Int :=
  match seT L x with
  | none => (Rp.zero, false, 80)
  | some s => if q < s.sq ∨ q < 1 then (Rp.zero, false, 81) else if q = s.sq then (s.r, true, 0) else if s.sq < q - 1 then (Rp.zero, false, 82) else (Rp.zero, false, 0)
/-- What Keep answers, and what there is behind it. -/
def keepS (L : List Se) (x q a : Int) (r : Rp) : List Se × Int :=
  if (askS L x q).2.2 ≠ 0 then (L, (askS L x q).2.2) else if (askS L x q).2.1 = true then (L, 81)
  else if a < 1 ∨ 1099511627776 < a ∨ r.ok = false ∨ 1099511627776 < q then (L, 1) else (setQ L ⟨x, q, a, r⟩, 0)
def expS (L : List Se) (from_ : Int) : List Se := L.filter fun s => decide (from_ ≤ s.at_)
def encN (ns : List Int) : List UInt8 := ns.flatMap fun n => digits n.toNat
def imgS (L : List Se) : List UInt8 := digits L.length ++ L.flatMap fun s => encN s.nums

theorem Rp.ok_iff {r : Rp} : r.ok = true ↔ (0 ≤ r.er ∧ r.er ≤ 1099511627776) ∧ (0 ≤ r.ss ∧ r.ss ≤ 1099511627776) ∧ (0 ≤ r.gn ∧ r.gn ≤ 1099511627776) ∧ (0 ≤ r.ad ∧ r.ad ≤ 1099511627776) ∧ (0 ≤ r.sa ∧ r.sa ≤ 1099511627776) ∧ (0 ≤ r.ot ∧ r.ot ≤ 1099511627776) ∧ (0 ≤ r.cy ∧ r.cy ≤ 1099511627776) ∧ (0 ≤ r.fu ∧ r.fu ≤ 1099511627776) := by
  simp [Rp.ok, Rp.nums]
theorem Rp.zero_ok : Rp.zero.ok = true := by decide
theorem seT_some {L : List Se} {x : Int} {s : Se} (h : seT L x = some s) : s ∈ L ∧ s.ss = x := by
  have h1 := List.find?_some h
  exact ⟨List.mem_of_find?_eq_some h, by simpa using h1⟩
theorem seT_none {L : List Se} {x : Int} (h : seT L x = none) : ∀ s ∈ L, s.ss ≠ x := by
  intro s hs e
  have := List.find?_eq_none.1 h s hs
  simp [e] at this
theorem seT_mem {L : List Se} (h : SrtS L) {s : Se} (hs : s ∈ L) : seT L s.ss = some s := by
  induction L with
  | nil => cases hs
  | cons u L ih =>
    obtain ⟨h1, h2⟩ := List.pairwise_cons.1 h
    unfold seT
    rw [List.find?_cons]
    rcases List.mem_cons.1 hs with rfl | hs
    · simp
    · have := h1 s hs
      rw [decide_eq_false (by omega)]
      exact ih h2 hs
theorem insQ_mem {L : List Se} {s u : Se} : u ∈ insQ L s ↔ u = s ∨ u ∈ L := by
  induction L with
  | nil => simp [insQ]
  | cons v L ih =>
    rw [insQ]
    by_cases h : s.ss < v.ss
    · rw [if_pos h]; simp
    · rw [if_neg h, List.mem_cons, ih, List.mem_cons]
      constructor
      · rintro (h | h | h) <;> simp [h]
      · rintro (h | h | h) <;> simp [h]
theorem insQ_len (L : List Se) (s : Se) : (insQ L s).length = L.length + 1 := by
  induction L with
  | nil => rfl
  | cons v L ih =>
    rw [insQ]
    by_cases h : s.ss < v.ss
    · rw [if_pos h]; rfl
    · rw [if_neg h]; simp [ih]
theorem insQ_srt {L : List Se} (h : SrtS L) {s : Se} (hn : ∀ u ∈ L, u.ss ≠ s.ss) : SrtS (insQ L s) := by
  induction L with
  | nil => simp [insQ, SrtS]
  | cons v L ih =>
    obtain ⟨h1, h2⟩ := List.pairwise_cons.1 h
    rw [insQ]
    by_cases hlt : s.ss < v.ss
    · rw [if_pos hlt]
      refine List.pairwise_cons.2 ⟨fun u hu => ?_, h⟩
      rcases List.mem_cons.1 hu with rfl | hu
      · exact hlt
      · have := h1 u hu; omega
    · rw [if_neg hlt]
      have hv := hn v (by simp)
      refine List.pairwise_cons.2 ⟨fun u hu => ?_, ih h2 fun u hu => hn u (by simp [hu])⟩
      rcases insQ_mem.1 hu with rfl | hu
      · omega
      · exact h1 u hu
theorem setQ_len (L : List Se) (s : Se) : (setQ L s).length = L.length := by simp [setQ]
theorem setQ_keys (L : List Se) (s : Se) : (setQ L s).map Se.ss = L.map Se.ss := by
  unfold setQ
  rw [List.map_map]
  refine List.map_congr_left fun u _ => ?_
  by_cases h : u.ss = s.ss <;> simp [h]
theorem srtS_keys {L : List Se} : SrtS L ↔ (L.map Se.ss).Pairwise (· < ·) := by unfold SrtS; rw [List.pairwise_map]
theorem setQ_srt {L : List Se} (h : SrtS L) (s : Se) : SrtS (setQ L s) := by rw [srtS_keys, setQ_keys]; exact srtS_keys.1 h
theorem setQ_mem {L : List Se} {s u : Se} (h : u ∈ setQ L s) : (u.ss ≠ s.ss ∧ u ∈ L) ∨ u = s := by
  obtain ⟨v, hv, rfl⟩ := List.mem_map.1 h
  by_cases e : v.ss = s.ss
  · rw [if_pos e]; exact .inr rfl
  · rw [if_neg e]; exact .inl ⟨e, hv⟩
theorem GrS.nil : GrS [] := ⟨List.Pairwise.nil, by simp, by simp⟩
theorem GrS.opn {L : List Se} (h : GrS L) (x : Int) : GrS (opnS L x).1 := by
  unfold opnS
  by_cases h1 : x < 1 ∨ 1099511627776 < x ∨ (seT L x).isSome = true
  · rw [if_pos h1]; exact h
  · rw [if_neg h1]
    by_cases h8 : 8 ≤ L.length
    · rw [if_pos h8]; exact h
    · rw [if_neg h8]
      have hn : seT L x = none := by
        cases hs : seT L x with
        | none => rfl
        | some s => exact absurd (.inr (.inr (by rw [hs]; rfl))) h1
      refine ⟨insQ_srt h.srt fun u hu e => seT_none hn u hu e, by simp only [insQ_len]; omega, fun s hs => ?_⟩
      rcases insQ_mem.1 hs with rfl | hs
      · refine ⟨?_, ?_, ?_, ?_, ?_, ?_, Rp.zero_ok⟩ <;> simp only <;> omega
      · exact h.ok s hs
theorem askS_done {L : List Se} {x q : Int} (h : (askS L x q).2.2 = 0) : ∃ s, seT L x = some s ∧ 1 ≤ q ∧ s.sq ≤ q ∧ q ≤ s.sq + 1 ∧ ((askS L x q).2.1 = true ↔ q = s.sq) := by
  unfold askS at h ⊢
  cases hs : seT L x with
  | none => rw [hs] at h; simp at h
  | some s =>
    rw [hs] at h
    dsimp only at h ⊢
    by_cases h1 : q < s.sq ∨ q < 1
    · rw [if_pos h1] at h; simp at h
    · rw [if_neg h1] at h ⊢
      by_cases h2 : q = s.sq
      · rw [if_pos h2]; exact ⟨s, rfl, by omega, by omega, by omega, by simp [h2]⟩
      · rw [if_neg h2] at h ⊢
        by_cases h3 : s.sq < q - 1
        · rw [if_pos h3] at h; simp at h
        · rw [if_neg h3]; exact ⟨s, rfl, by omega, by omega, by omega, by simp [h2]⟩
theorem GrS.keep {L : List Se} (h : GrS L) (x q a : Int) (r : Rp) : GrS (keepS L x q a r).1 := by
  unfold keepS
  by_cases h1 : (askS L x q).2.2 ≠ 0
  · rw [if_pos h1]; exact h
  · rw [if_neg h1]
    by_cases h2 : (askS L x q).2.1 = true
    · rw [if_pos h2]; exact h
    · rw [if_neg h2]
      by_cases h3 : a < 1 ∨ 1099511627776 < a ∨ r.ok = false ∨ 1099511627776 < q
      · rw [if_pos h3]; exact h
      · rw [if_neg h3]
        obtain ⟨s, hs, hq, _⟩ := askS_done (by omega : (askS L x q).2.2 = 0)
        obtain ⟨hm, hx⟩ := seT_some hs
        have hso := h.ok s hm
        unfold Se.ok at hso
        refine ⟨setQ_srt h.srt _, by simp only [setQ_len]; exact h.len, fun u hu => ?_⟩
        rcases setQ_mem hu with ⟨_, hu⟩ | rfl
        · exact h.ok u hu
        · have hr : r.ok = true := by
            cases hro : r.ok
            · exact absurd (.inr (.inr (.inl hro))) h3
            · rfl
          refine ⟨?_, ?_, ?_, ?_, ?_, ?_, hr⟩ <;> simp only <;> omega
theorem GrS.exp {L : List Se} (h : GrS L) (z : Int) : GrS (expS L z) :=
  ⟨List.Pairwise.filter _ h.srt, Nat.le_trans (List.length_filter_le _ _) h.len, fun s hs => h.ok s (List.mem_filter.1 hs).1⟩
theorem encN_len (ns : List Int) (h : ∀ n ∈ ns, n.toNat < 9223372036854775808) : (encN ns).length ≤ 9 * ns.length := by
  induction ns with
  | nil => simp [encN]
  | cons n ns ih =>
    have h1 := ih fun m hm => h m (by simp [hm])
    have h2 := (digits_len (n := n.toNat) (by have := h n (by simp); omega)).2
    unfold encN at h1 ⊢
    rw [List.flatMap_cons, List.length_append, List.length_cons]; omega
theorem Se.nums_le {s : Se} (h : s.ok) : ∀ n ∈ s.nums, 0 ≤ n ∧ n ≤ 1099511627776 := by
  obtain ⟨h1, h2, h3, h4, h5, h6, h7⟩ := h
  have h7 := Rp.ok_iff.1 h7
  intro n hn
  simp only [Se.nums, Rp.nums, List.mem_cons, List.not_mem_nil, or_false] at hn
  omega
theorem imgS_len {L : List Se} (h : GrS L) : (imgS L).length ≤ 2000 := by
  have key : ∀ M : List Se, (∀ s ∈ M, s.ok) → (M.flatMap fun s => encN s.nums).length ≤ 99 * M.length := by
    intro M
    induction M with
    | nil => intro _; simp
    | cons s M ih =>
      intro hM
      have h1 := ih fun t ht => hM t (by simp [ht])
      have h2 := encN_len s.nums (fun n hn => by have := Se.nums_le (hM s (by simp)) n hn; omega)
      have h3 : s.nums.length = 11 := rfl
      rw [List.flatMap_cons, List.length_append, List.length_cons]; omega
  have h1 := key L h.ok
  have h2 := (digits_len (n := L.length) (by have := h.len; omega)).2
  have h3 := h.len
  unfold imgS
  rw [List.length_append]; omega
end Go.Proofs.YtfjpenbahoeklaaGreatDoor
namespace Go.Proofs.YtfjpenbahoeklaaGreatDoor
open Go Go.RowKit Go.Maps

def rowsOf (S : Nat → Prop) (p a d : Nat) (k : Nat) : Prop := S k ∧ k ≠ p ∧ k ≠ a ∧ k ≠ d
/-- A forest in block p, its maps in blocks a and d; all it has lies in S. -/
structure Fo (w : World) (p a d : Nat) (tr : Int) (L : List Sp) (S : Nat → Prop) : Prop where
  hp : w.heap[p]? = some (.cells #[.map (some a), .map (some d), .int .i64 tr] 239 (0, 0))
  all : AllAt w a L
  down : DownAt w d L (rowsOf S p a d)
  sp : S p
  sa : S a
  sd : S d
  ad : a ≠ d
  htr : 1 ≤ tr ∧ tr ≤ 1099511627776
  gr : Grown tr L
  lt : ∀ k, S k → k < w.heap.size
section
variable {w w' : World} {p a d : Nat} {tr : Int} {L : List Sp} {S S2 : Nat → Prop}
theorem Fo.fr (h : Fo w p a d tr L S) (hf : Fr S2 w w') (hS : ∀ k, S k → ¬ S2 k) : Fo w' p a d tr L S :=
  ⟨(hf.block p (h.lt p h.sp) (hS p h.sp)).trans h.hp, h.all.eq (hf.block a (h.lt a h.sa) (hS a h.sa)), h.down.fr hf (hS d h.sd) (fun k hk => hS k hk.1), h.sp, h.sa, h.sd, h.ad, h.htr, h.gr, fun k hk => Nat.lt_of_lt_of_le (h.lt k hk) hf.size⟩
theorem Fo.below {B : Nat} (h : Fo w p a d tr L S) (hb : Below B w w') (hB : w.heap.size ≤ B) : Fo w' p a d tr L S :=
  h.fr (S2 := fun k => False) ⟨hb.os, hb.tape, hb.output, hb.size, fun k hk _ => hb.block k (by omega)⟩ (fun _ _ h => h)
theorem Fo.mono (h : Fo w p a d tr L S) (hS : ∀ k, S k → S2 k) (hl : ∀ k, S2 k → k < w.heap.size) : Fo w p a d tr L S2 :=
  ⟨h.hp, h.all, h.down.mono (fun k hk => ⟨hS k hk.1, hk.2⟩), hS _ h.sp, hS _ h.sa, hS _ h.sd, h.ad, h.htr, h.gr, hl⟩
theorem Fo.drewN (h : Fo w p a d tr L S) (n : Nat) : Fo (w.drewN n) p a d tr L S := h.below (below_drew' w n) (Nat.le_refl _)
end
theorem wf_pa {tr : Int} {L : List Sp} (h : Grown tr L) : ∀ s ∈ L, wfI s.pa := fun s hs => by
  have := ok_bounds (fits_ok (h.fits s hs)).1
  exact wfI_of (by omega) (by omega)

/-- What a call leaves that makes a forest. -/
def ResF (w : World) (t : Int) (L : List Sp) (e : Ending) (w' : World) : Prop :=
  ∃ p a d, e = .returned (.pointer (some ⟨p, 0, none⟩)) ∧ Fo w' p a d t L (fun k => w.heap.size ≤ k ∧ k < w'.heap.size) ∧ Below w.heap.size w w'

set_option maxRecDepth 100000 in
set_option maxHeartbeats 400000 in
theorem new_any (t : Int) (w : World) (ht : 1 ≤ t ∧ t ≤ 1099511627776) :
    Calls Tryz.prog 150 #[.int .i64 t] w (ResF w t []) := by
  have h1 : ¬ t < 1 := by omega
  have h2 : ¬ (1099511627776 : Int) < t := by omega
  have hmm := @run_makeMap Tryz.prog
  go_enter Tryz.func150, Tryz.ntmps150
  go_wp2_with fail
  go_ret
  refine ⟨_, w.heap.size, w.heap.size + 1, rfl, ⟨?_, ?_, ?_, ?_, ?_, ?_, by omega, ht, .nil, fun k hk => hk.2⟩, ?_⟩
  · exact heap_at (by simp)
  · refine ⟨.map [], ?_, .nil⟩
    have h := World.ownsMap_made w Tryz.prog 3 spElem
    exact (h.alloc _).alloc _
  · have h := World.ownsMap_made (w.alloc (.map #[] 0)) Tryz.prog 3 slElem
    rw [World.size_alloc] at h
    exact ⟨.map [], fun _ => 0, fun _ => 0, h.alloc _, fun _ _ => rfl, fun x hx => absurd rfl hx, fun x y hx => absurd rfl hx⟩
  · exact ⟨by omega, by simp⟩
  · exact ⟨by omega, by simp <;> omega⟩
  · exact ⟨by omega, by simp⟩
  · exact ((((Below.refl _ _).alloc (Nat.le_refl _) _).alloc (by simp) _).alloc (by simp <;> omega) _)

set_option maxRecDepth 100000 in
theorem newNil_any (t : Int) (w : World) (ht : t < 1 ∨ 1099511627776 < t) :
    Calls Tryz.prog 150 #[.int .i64 t] w fun e w' => e = .returned (.pointer none) ∧ w' = w := by
  rcases ht with h1 | h1
  · go_enter Tryz.func150, Tryz.ntmps150
    go_wp2_with fail
    go_ret
    exact ⟨rfl, rfl⟩
  · have h2 : ¬ t < 1 := by omega
    go_enter Tryz.func150, Tryz.ntmps150
    go_wp2_with fail
    go_ret
    exact ⟨rfl, rfl⟩

set_option maxRecDepth 100000 in
theorem fmade_any {w : World} {p a d : Nat} {tr : Int} {L : List Sp} {S : Nat → Prop} (h : Fo w p a d tr L S) :
    Calls Tryz.prog 147 #[.pointer (some ⟨p, 0, none⟩)] w fun e w' => e = .returned (.bool true) ∧ w = w' := by
  have hc := blk_cell h.hp
  have h1 : (0 : Int) < tr := by have := h.htr; omega
  clear h
  go_enter Tryz.func147, Tryz.ntmps147
  go_wp2_with fail
  go_ret
  exact ⟨rfl, rfl⟩

set_option maxRecDepth 100000 in
set_option maxHeartbeats 400000 in
theorem above_any {w : World} {a d : Nat} {L : List Sp} (h : AllAt w a L) (hwf : ∀ s ∈ L, wfI s.pa) (hl : L.length ≤ 64) (id who : Int) (hid : wfI id) :
    Calls Tryz.prog 156 #[.agg #[.map (some a), .map (some d)], .int .i64 id, .int .i64 who] w fun e w' => e = .returned (.bool (aboveB L id who)) ∧ Below w.heap.size w w' := by
  have HA := Lib.hid h
  have HW := Lib.hid hwf
  have ha := h.lt
  have hlen := fun W (hW : AllAt W a L) => AllAt.len hW 3
  have HL := Lib.hid hlen
  clear h hwf hlen
  have hl0 := HL.out (w.alloc (.cells #[.map (some a), .map (some d)] 237)) (HA.out.eq (Below.heap_alloc _ _ _ ha))
  go_enter Tryz.func156, Tryz.ntmps156
  go_wp2_with fail
  go_loopw [1, 13] (fun x i wr => ∃ (k : Nat) (y : Int), k ≤ L.length + 1 ∧ i = .int .i64 k ∧ x = .int .i64 y ∧ wfI y ∧ aboveN L (L.length + 1 - k) y who = aboveB L id who ∧ Below (w.heap.size + 1) (w.alloc (.cells #[.map (some a), .map (some d)] 237)) wr) (fun _ i _ => L.length + 1 - (intOf i).toNat)
  case atStart => exact ⟨0, id, by omega, rfl, rfl, hid, rfl, Below.refl _ _⟩
  case round =>
    obtain ⟨k, y, hk, rfl, rfl, hy, hab, hb⟩ := hrel
    have hbc := blk_cell (blk_below hb (by omega) (heap_alloc_new w _))
    have hAr : AllAt wr a L := HA.out.eq ((hb.block a (by omega)).trans (Below.heap_alloc _ _ _ ha))
    have hlk := hAr.look hy true
    simp only [if_true] at hlk
    have hsz := hb.size
    simp at hsz
    have hbw : Below w.heap.size w wr := ((Below.refl _ _).alloc (Nat.le_refl _) _).trans (hb.mono (by omega))
    have HB := Lib.hid hb
    clear hb
    by_cases hlt : k < L.length + 1
    · obtain ⟨m, hm⟩ : ∃ m, L.length + 1 - k = m + 1 := ⟨L.length - k, by omega⟩
      rw [hm] at hab
      have HAB := Lib.hid hab
      have HM := Lib.hid hm
      clear hab hm
      have hk1 : (k : Int) < (L.length : Int) + 1 := by omega
      by_cases hyw : y = who
      · have HR : Hid (aboveB L id who = true) := Lib.hid (by rw [← HAB.out, aboveN, if_pos hyw])
        go_wp2_with fail
        go_ret
        exact ⟨by rw [HR.out]; rfl, hbw⟩
      · cases hat : atS L y with
        | none =>
          rw [hat] at hlk
          generalize getS L y = s at hlk
          have HR : Hid (aboveB L id who = false) := Lib.hid (by rw [← HAB.out, aboveN, if_neg hyw, hat])
          clear hat
          go_wp2_with fail
          go_ret
          exact ⟨by rw [HR.out]; rfl, hbw.alloc (by omega) _⟩
        | some s =>
          have hs : getS L y = s := by rw [getS, hat]; rfl
          rw [hat, hs] at hlk
          have hws := HW.out s (atS_some hat).1
          have HR : Hid (aboveN L m s.pa who = aboveB L id who) := Lib.hid (by rw [← HAB.out, aboveN, if_neg hyw, hat])
          clear hat hs
          go_wp2_with fail
          go_roundw
          case rel => exact ⟨k + 1, s.pa, by omega, by go_num, rfl, hws, by rw [show L.length + 1 - (k + 1) = m by have := HM.out; omega]; exact HR.out, HB.out.alloc (by omega) _⟩
          case measure => simp [intOf]; omega
    · have hk0 : L.length + 1 - k = 0 := by omega
      rw [hk0] at hab
      have HR : Hid (aboveB L id who = false) := Lib.hid hab.symm
      clear hab
      have hk1 : ¬ (k : Int) < (L.length : Int) + 1 := by omega
      go_wp2_with fail
      go_ret
      exact ⟨by rw [HR.out]; rfl, hbw⟩

end Go.Proofs.YtfjpenbahoeklaaGreatDoor
namespace Go.Proofs.YtfjpenbahoeklaaGreatDoor
open Go Go.RowKit Go.Maps

theorem Tryz.infoInt : (Tryz.prog.info? 3).map (fun i => (i.zero, i.size, i.bytes)) = some (some (.int .i64 0), 1, 8) := by kernel_rfl

theorem Fo.addSteps {v : World} {p a d : Nat} {tr : Int} {L : List Sp} {S : Nat → Prop} (h : Fo v p a d tr L S) (s : Sp) (hfit : fits tr s = true) (hn : atS L s.id = none) (hl : L.length < 64) (hab : aboveB L s.pa s.id = false) :
    ∃ w3, (Instr.mapUpdate 233 (.map (some a)) (.int .i64 s.id) s.val).run Tryz.prog v.drew = .ok () w3 ∧ Fr (fun k => k = a) v w3 ∧ w3.heap.size = v.heap.size ∧
      ∃ A0 c0, (∀ w' : World, w'.heap[d]? = w3.heap[d]? → (Instr.lookup 235 (.map (some d)) (.int .i64 s.pa) false).run Tryz.prog w' = .ok (.slice A0 (kidIds L s.pa).length c0) w') ∧
        ∃ A' c' w5, (Builtin.append_ #[22, 22] 22 #[.slice A0 (kidIds L s.pa).length c0, .slice (some ⟨w3.heap.size, 0, none⟩) 1 1]).run Tryz.prog (w3.alloc (.cells #[.int .i64 s.id] 3)).drew = .ok (.slice A' ((kidIds L s.pa).length + 1) c') w5 ∧
          Fr (fun k => S k ∧ k ≠ p ∧ k ≠ a) w3 w5 ∧
          ∃ w6, (Instr.mapUpdate 235 (.map (some d)) (.int .i64 s.pa) (.slice A' ((kidIds L s.pa).length + 1) c')).run Tryz.prog w5 = .ok () w6 ∧
            Fo w6 p a d tr (L ++ [s]) (fun k => S k ∨ (v.heap.size ≤ k ∧ k < w6.heap.size)) ∧ Fr S v w6 ∧ Fr (fun k => S k ∧ k ≠ p ∧ k ≠ a) w3 w6 := by
  obtain ⟨i0, hi0, hz0, hz1, hz2⟩ := info_parts Tryz.infoInt
  have hb := ok_bounds (fits_ok hfit).1
  have hAD : AllAt v.drew a L := h.all
  obtain ⟨w3, hrun3, hall3, hg3, hsz3'⟩ := hAD.store hn (wfI_of (by omega) (by omega)) hl
  have hf3 : Fr (fun k => k = a) v w3 := (Fr.refl _ _).drew.trans (Fr.of_grown hg3 (fun k hk => (Option.some.inj hk).symm))
  have hsz3 : w3.heap.size = v.heap.size := hsz3'
  have hd3 : DownAt w3 d L (rowsOf S p a d) := h.down.fr hf3 (fun e => h.ad e.symm) (fun k hk => hk.2.2.1)
  obtain ⟨A0, c0, hlk, hown0, hA0, hback⟩ := hd3.look (wfI_of (x := s.pa) (by omega) (by omega))
  have hkl : (kidIds L s.pa).length ≤ L.length := by rw [kidIds, List.length_map]; exact List.length_filter_le _ _
  have hown4 : (w3.alloc (.cells #[.int .i64 s.id] 3)).drew.ownsRow 0 3 1 (.slice A0 (kidIds L s.pa).length c0) (kidIds L s.pa).length ((kidIds L s.pa).map (Value.int .i64)) := hown0.alloc _
  have hrd : Rd (w3.alloc (.cells #[.int .i64 s.id] 3)).drew (w3.heap.size + 1) 1 (some ⟨w3.heap.size, 0, none⟩) 1 [Value.int .i64 s.id] := Rd.drew (Rd.new rfl rfl (fun j hj => by match j, hj with | 0, _ => rfl))
  obtain ⟨A', c', w5, hrun5, hown5, hg5, hloc5⟩ := run_app (P := Tryz.prog) (w3.alloc (.cells #[.int .i64 s.id] 3)).drew 0 22 22 3 i0 _ 1 8 Tryz.underlying22 hi0 hz0 hz1 hz2 rfl (by omega) A0 _ c0 _ hown4 _ _ 1 1 _ hrd (by intro u hu; obtain rfl := List.mem_singleton.1 hu; rfl) (by unfold maxLen; omega) (by omega) (Nat.zero_le _)
  have hf45 : Fr (fun k => A0.map (·.block) = some k) w3 w5 := ((Fr.refl (fun k => A0.map (·.block) = some k) w3).alloc _).drew.trans (Fr.of_grown hg5 (fun k hk => hk))
  have hf35 : Fr (fun k => S k ∧ k ≠ p ∧ k ≠ a) w3 w5 := hf45.mono (fun k hk => ⟨(hA0 k hk).1, (hA0 k hk).2.1, (hA0 k hk).2.2.1⟩)
  have hSlt3 : ∀ k, rowsOf S p a d k → k < w3.heap.size := fun k hk => by rw [hsz3]; exact h.lt k hk.1
  have hdn : ¬ rowsOf S p a d d := fun hk => hk.2.2.2 rfl
  have e1 : (kidIds L s.pa ++ [s.id]).length = (kidIds L s.pa).length + 1 := by simp
  have hb6 := hback s w5 A' c' rfl hl (by rw [e1]; simpa using hown5) hf45 hdn (hloc5.imp id fun h5 => ⟨_, h5, by simp [World.drew, -World.drew_eq]⟩) hSlt3
  rw [e1] at hb6
  obtain ⟨w6, hrun6, hdown6, hg6⟩ := hb6
  have hf36 : Fr (fun k => S k ∧ k ≠ p ∧ k ≠ a) w3 w6 := hf35.trans (Fr.of_grown hg6 (fun k hk => by
    obtain rfl := Option.some.inj hk
    refine ⟨h.sd, ?_, Ne.symm h.ad⟩
    intro e; subst e
    obtain ⟨es, clock, hb, _⟩ := h.down.choose_spec.choose_spec.choose_spec.1
    rw [h.hp] at hb; cases hb))
  have hsz6 := hf36.size
  have hpa : p ≠ a := by
    intro e; subst e
    obtain ⟨es, clock, hb, _⟩ := h.all.choose_spec.1
    rw [h.hp] at hb; cases hb
  have hpl := h.lt p h.sp
  have hal := h.lt a h.sa
  have hdl := h.lt d h.sd
  refine ⟨w3, hrun3, hf3, hsz3, A0, c0, hlk, A', c', w5, hrun5, hf35, w6, hrun6, ⟨?_, ?_, ?_, .inl h.sp, .inl h.sa, .inl h.sd, h.ad, h.htr, .snoc h.gr hfit hn hl hab, ?_⟩, ?_, hf36⟩
  · exact (hf36.block p (by omega) (fun hk => hk.2.1 rfl)).trans ((hf3.block p hpl hpa).trans h.hp)
  · exact hall3.eq (hf36.block a (by omega) (fun hk => hk.2.2 rfl))
  · refine hdown6.mono (fun k hk => ?_)
    rcases hk with hk | ⟨h1, h2⟩
    · exact ⟨.inl hk.1, hk.2⟩
    · rw [hsz3] at h1
      exact ⟨.inr ⟨h1, h2⟩, by omega, by omega, by omega⟩
  · intro k hk
    rcases hk with hk | ⟨_, hk⟩
    · have := h.lt k hk; omega
    · exact hk
  · exact (hf3.mono (fun k hk => by subst hk; exact h.sa)).trans (hf36.mono (fun k hk => hk.1))
end Go.Proofs.YtfjpenbahoeklaaGreatDoor
namespace Go.Proofs.YtfjpenbahoeklaaGreatDoor
open Go.RowKit

/-- A branch. -/
structure Br where
  dp : Nat
  orp : Bool
  sp : Sp
instance : Inhabited Br := ⟨⟨0, false, default⟩⟩
def Br.cells (b : Br) : List Value := [.int .i64 b.dp, .bool b.orp, .int .i64 b.sp.tr, .int .i64 b.sp.id, .int .i64 b.sp.pa, .int .i64 b.sp.st, .int .i64 b.sp.en, .string b.sp.nm]
theorem Br.cells_len (b : Br) : b.cells.length = 8 := rfl
theorem br_one (b : Br) : ∀ u ∈ b.cells, u.oneCell' = true := by
  intro u hu
  simp only [Br.cells, List.mem_cons, List.not_mem_nil, or_false] at hu
  rcases hu with rfl | rfl | rfl | rfl | rfl | rfl | rfl | rfl <;> rfl
/-- Spans and what stands beneath them. -/
def layL (L : List Sp) : Nat → Nat → Bool → List Int → List Br
  | 0, _, _, _ => []
  | n + 1, dp, o, ids => (sortS (ids.map (getS L))).flatMap fun s => ⟨dp, o, s⟩ :: layL L n (dp + 1) false (kidIds L s.id)
/-- Beneath these stands nobody more than n deep; they are all there. -/
def Fine (L : List Sp) : Nat → List Int → Prop
  | 0, ids => ids = []
  | n + 1, ids => ∀ i ∈ ids, (∃ s, atS L i = some s) ∧ Fine L n (kidIds L i)
theorem Fine.kid {L : List Sp} {n : Nat} {ids : List Int} (h : Fine L (n + 1) ids) {s : Sp} (hs : s ∈ sortS (ids.map (getS L))) : atS L s.id = some s ∧ Fine L n (kidIds L s.id) := by
  obtain ⟨i, hi, rfl⟩ := List.mem_map.1 (sortS_mem.1 hs)
  obtain ⟨⟨s, h1⟩, h2⟩ := h i hi
  have h3 := (atS_some h1).2
  have h4 : getS L i = s := by rw [getS, h1]; rfl
  rw [h4, h3]
  exact ⟨h1, h2⟩
theorem layL_nil (L : List Sp) (n dp : Nat) (o : Bool) : layL L n dp o [] = [] := by
  cases n with
  | zero => rfl
  | succ n =>
    have : sortS ([].map (getS L)) = [] := List.length_eq_zero_iff.1 (sortS_len _)
    rw [layL, this]; rfl
/-- What is still to be laid, when k of the spans are. -/
def layR (L : List Sp) (n dp : Nat) (o : Bool) (l : List Sp) (k : Nat) : List Br := (l.drop k).flatMap fun s => ⟨dp, o, s⟩ :: layL L n (dp + 1) false (kidIds L s.id)
theorem layR_step (L : List Sp) (n dp : Nat) (o : Bool) (l : List Sp) (k : Nat) (hk : k < l.length) : layR L n dp o l k = (⟨dp, o, l[k]⟩ :: layL L n (dp + 1) false (kidIds L l[k].id)) ++ layR L n dp o l (k + 1) := by
  unfold layR
  rw [List.drop_eq_getElem_cons hk, List.flatMap_cons]
theorem layR_end (L : List Sp) (n dp : Nat) (o : Bool) (l : List Sp) (k : Nat) (hk : l.length ≤ k) : layR L n dp o l k = [] := by
  unfold layR; rw [List.drop_of_length_le hk]; rfl
end Go.Proofs.YtfjpenbahoeklaaGreatDoor
namespace Go.Proofs.YtfjpenbahoeklaaGreatDoor
open Go.RowKit

/-- n steps up from a number. -/
def it (L : List Sp) : Nat → Int → Option Int
  | 0, x => some x
  | n + 1, x => (atS L x).bind fun s => it L n s.pa
theorem it_add (L : List Sp) (m n : Nat) (x : Int) : it L (m + n) x = (it L m x).bind (it L n) := by
  induction m generalizing x with
  | zero => rw [Nat.zero_add]; rfl
  | succ m ih =>
    rw [show m + 1 + n = (m + n) + 1 by omega]
    simp only [it]
    cases atS L x with
    | none => rfl
    | some s => exact ih s.pa
theorem it_one {L : List Sp} {x : Int} {s : Sp} (h : atS L x = some s) (n : Nat) : it L (n + 1) x = it L n s.pa := by simp only [it, h]; rfl
theorem it_pre {L : List Sp} {n : Nat} {x y : Int} (h : it L n x = some y) {k : Nat} (hk : k ≤ n) : ∃ z, it L k x = some z ∧ it L (n - k) z = some y := by
  rw [show n = k + (n - k) by omega, it_add] at h
  cases hz : it L k x with
  | none => rw [hz] at h; cases h
  | some z => rw [hz] at h; exact ⟨z, rfl, h⟩
theorem it_here {L : List Sp} {n : Nat} {x y : Int} (h : it L (n + 1) x = some y) : ∃ s, atS L x = some s ∧ it L n s.pa = some y := by
  simp only [it] at h
  cases hs : atS L x with
  | none => rw [hs] at h; cases h
  | some s => rw [hs] at h; exact ⟨s, rfl, h⟩
theorem nodup_le {U M : List Int} (hn : U.Nodup) (hs : ∀ x ∈ U, x ∈ M) : U.length ≤ M.length := by
  induction U generalizing M with
  | nil => simp
  | cons a U ih =>
    obtain ⟨h1, h2⟩ := List.nodup_cons.1 hn
    have ha := hs a (by simp)
    have h3 := ih h2 (M := M.erase a) (fun x hx => (List.mem_erase_of_ne (fun e => h1 (by rw [← e]; exact hx))).2 (hs x (by simp [hx])))
    rw [List.length_erase_of_mem ha] at h3
    have : 0 < M.length := List.length_pos_of_mem ha
    simp only [List.length_cons]; omega
/-- Who can be reached can be reached in no more steps than there are spans. -/
theorem it_small {L : List Sp} : ∀ (n : Nat) {x y : Int}, it L n x = some y → ∃ m, m ≤ L.length ∧ m ≤ n ∧ it L m x = some y := by
  intro n
  induction n using Nat.strongRecOn with
  | _ n ih =>
    intro x y h
    by_cases hn : n ≤ L.length
    · exact ⟨n, hn, Nat.le_refl _, h⟩
    · have hpos : ∀ k, k < n → ∃ z, it L k x = some z ∧ z ∈ L.map Sp.id := fun k hk => by
        obtain ⟨z, h1, h2⟩ := it_pre h (Nat.le_of_lt hk)
        rw [show n - k = (n - k - 1) + 1 by omega] at h2
        obtain ⟨s, hs, _⟩ := it_here h2
        exact ⟨z, h1, List.mem_map.2 ⟨s, (atS_some hs).1, (atS_some hs).2⟩⟩
      have hnd : ¬ ((List.range n).map fun k => (it L k x).getD 0).Nodup := fun hd => by
        have := nodup_le hd (M := L.map Sp.id) (fun z hz => by
          obtain ⟨k, hk, rfl⟩ := List.mem_map.1 hz
          obtain ⟨z, h1, h2⟩ := hpos k (List.mem_range.1 hk)
          rw [h1]; exact h2)
        simp at this; omega
      have : ∃ i j, i < j ∧ j < n ∧ it L i x = it L j x := by
        refine Classical.byContradiction fun hc => hnd ?_
        refine List.pairwise_iff_getElem.2 fun i j hi hj hij => ?_
        simp only [List.length_map, List.length_range] at hi hj
        simp only [List.getElem_map, List.getElem_range]
        intro e
        obtain ⟨z, h1, _⟩ := hpos i hi
        obtain ⟨z', h2, _⟩ := hpos j hj
        rw [h1, h2] at e
        exact hc ⟨i, j, hij, hj, by rw [h1, h2]; exact congrArg some e⟩
      obtain ⟨i, j, hij, hj, e⟩ := this
      obtain ⟨z, h1, h2⟩ := it_pre h (Nat.le_of_lt hj)
      have h3 : it L (i + (n - j)) x = some y := by rw [it_add, e, h1]; exact h2
      obtain ⟨m, a1, a2, a3⟩ := ih (i + (n - j)) (by omega) h3
      exact ⟨m, a1, by omega, a3⟩
theorem aboveN_iff (L : List Sp) (n : Nat) (x y : Int) : aboveN L n x y = true ↔ ∃ m, m < n ∧ it L m x = some y := by
  induction n generalizing x with
  | zero => simp [aboveN]
  | succ n ih =>
    rw [aboveN]
    by_cases h : x = y
    · rw [if_pos h]; exact ⟨fun _ => ⟨0, by omega, congrArg some h⟩, fun _ => rfl⟩
    · rw [if_neg h]
      cases hs : atS L x with
      | none =>
        constructor
        · intro h; cases h
        · rintro ⟨m, hm, h2⟩
          cases m with
          | zero => exact absurd (Option.some.inj h2) h
          | succ m => obtain ⟨s, h3, _⟩ := it_here h2; rw [hs] at h3; cases h3
      | some s =>
        show aboveN L n s.pa y = true ↔ _
        rw [ih]
        constructor
        · rintro ⟨m, hm, h2⟩; exact ⟨m + 1, by omega, by rw [it_one hs]; exact h2⟩
        · rintro ⟨m, hm, h2⟩
          cases m with
          | zero => exact absurd (Option.some.inj h2) h
          | succ m => rw [it_one hs] at h2; exact ⟨m, by omega, h2⟩
theorem aboveB_iff (L : List Sp) (x y : Int) : aboveB L x y = true ↔ ∃ m, it L m x = some y := by
  rw [aboveB, aboveN_iff]
  constructor
  · rintro ⟨m, _, h⟩; exact ⟨m, h⟩
  · rintro ⟨m, h⟩
    obtain ⟨k, h1, _, h2⟩ := it_small m h
    exact ⟨k, by omega, h2⟩
/-- Nobody stands above itself. -/
def Acy (L : List Sp) : Prop := ∀ s ∈ L, ∀ n, it L n s.pa ≠ some s.id
theorem atS_old {L : List Sp} {t : Sp} {x : Int} (h : x ≠ t.id) : atS (L ++ [t]) x = atS L x := by
  rw [atS_snoc, if_neg (Ne.symm h)]; cases atS L x <;> rfl
theorem it_new {L : List Sp} {t : Sp} (hn : atS L t.id = none) : ∀ (n : Nat) (x y : Int), it (L ++ [t]) n x = some y → it L n x = some y ∨ ∃ m k, it L m x = some t.id ∧ it (L ++ [t]) k t.pa = some y ∧ k < n := by
  intro n
  induction n with
  | zero => intro x y h; exact .inl h
  | succ n ih =>
    intro x y h
    obtain ⟨s, hs, h2⟩ := it_here h
    by_cases hx : x = t.id
    · subst hx
      rw [atS_snoc, hn, if_pos rfl] at hs
      cases hs
      exact .inr ⟨0, n, rfl, h2, by omega⟩
    · rw [atS_old hx] at hs
      rcases ih s.pa y h2 with h3 | ⟨m, k, h3, h4, h5⟩
      · exact .inl (by rw [it_one hs]; exact h3)
      · exact .inr ⟨m + 1, k, by rw [it_one hs]; exact h3, h4, by omega⟩
theorem it_keep {L : List Sp} {t : Sp} (hn : atS L t.id = none) (ha : aboveB L t.pa t.id = false) {n : Nat} {y : Int} (h : it (L ++ [t]) n t.pa = some y) : it L n t.pa = some y := by
  rcases it_new hn n _ _ h with h | ⟨m, k, h1, _, _⟩
  · exact h
  · have := (aboveB_iff L t.pa t.id).2 ⟨m, h1⟩
    rw [ha] at this; cases this
theorem Grown.acy {tr : Int} {L : List Sp} (h : Grown tr L) : Acy L := by
  induction h with
  | nil => intro s hs; cases hs
  | @snoc L t h hf hn hl ha ih =>
    have hno : ∀ m, it L m t.pa ≠ some t.id := fun m e => by
      have := (aboveB_iff L t.pa t.id).2 ⟨m, e⟩
      rw [ha] at this; cases this
    intro s hs n e
    rcases List.mem_append.1 hs with hs | hs
    · have hat := atS_mem h.nodup hs
      rcases it_new hn n _ _ e with h1 | ⟨m, k, h1, h2, _⟩
      · exact ih s hs n h1
      · have h3 := it_keep hn ha h2
        refine hno (k + (1 + m)) ?_
        rw [it_add, h3]
        show it L (1 + m) s.id = _
        rw [Nat.add_comm 1 m, it_one hat]; exact h1
    · obtain rfl := List.mem_singleton.1 hs
      exact hno n (it_keep hn ha e)

/-- No one of some numbers stands above another one, none is there twice. -/
def Anti (L : List Sp) (ids : List Int) : Prop := ids.Nodup ∧ ∀ i ∈ ids, ∀ j ∈ ids, ∀ m, it L m i = some j → m = 0
theorem kid_mem {L : List Sp} (hn : (L.map Sp.id).Nodup) {x i : Int} (h : i ∈ kidIds L x) : ∃ s, atS L i = some s ∧ s.pa = x ∧ s ∈ L := by
  obtain ⟨s, hs, rfl⟩ := List.mem_map.1 h
  obtain ⟨h1, h2⟩ := List.mem_filter.1 hs
  exact ⟨s, atS_mem hn h1, by simpa using h2, h1⟩
theorem kids_nodup {L : List Sp} (hn : (L.map Sp.id).Nodup) (x : Int) : (kidIds L x).Nodup := by
  have : (kidIds L x).Sublist (L.map Sp.id) := List.Sublist.map _ List.filter_sublist
  exact this.nodup hn
theorem kids_anti {L : List Sp} (hn : (L.map Sp.id).Nodup) (hA : Acy L) (x : Int) : Anti L (kidIds L x) := by
  refine ⟨kids_nodup hn x, fun i hi j hj m hm => ?_⟩
  cases m with
  | zero => rfl
  | succ m =>
    obtain ⟨s, hs, hp, _⟩ := kid_mem hn hi
    obtain ⟨t, ht, hp2, hm2⟩ := kid_mem hn hj
    rw [it_one hs, hp, ← hp2] at hm
    have := (atS_some ht).2
    rw [← this] at hm
    exact absurd hm (hA t hm2 m)
/-- Beneath those that are there nobody stands deeper than there are spans. -/
theorem fine_kids {L : List Sp} (hn : (L.map Sp.id).Nodup) (hA : Acy L) : ∀ (n : Nat) (x : Int) (k : Nat) (U : List Int), U.length = k → U.Nodup → (∀ z ∈ U, z ∈ L.map Sp.id) → (∀ z ∈ U, ∃ m, it L m x = some z) → L.length ≤ n + k → (x ∈ U ∨ (k = 0 ∧ atS L x = none)) → Fine L n (kidIds L x) := by
  intro n
  induction n with
  | zero =>
    intro x k U hk hnd hm hu hle hx
    show kidIds L x = []
    cases hc : kidIds L x with
    | nil => rfl
    | cons j r =>
      obtain ⟨s, hs, hp, hsm⟩ := kid_mem hn (x := x) (i := j) (by rw [hc]; simp)
      have hid := (atS_some hs).2
      have hjU : j ∉ U := fun hj => by
        obtain ⟨m, h1⟩ := hu j hj
        rw [← hp, ← hid] at h1
        exact hA s hsm m h1
      have := nodup_le (U := j :: U) (M := L.map Sp.id) (List.nodup_cons.2 ⟨hjU, hnd⟩) (fun z hz => by
        rcases List.mem_cons.1 hz with rfl | hz
        · exact List.mem_map.2 ⟨s, hsm, hid⟩
        · exact hm z hz)
      simp at this; omega
  | succ n ih =>
    intro x k U hk hnd hm hu hle hx j hj
    obtain ⟨s, hs, hp, hsm⟩ := kid_mem hn hj
    have hid := (atS_some hs).2
    refine ⟨⟨s, hs⟩, ih j (k + 1) (j :: U) (by simp [hk]) (List.nodup_cons.2 ⟨fun hjU => ?_, hnd⟩) (fun z hz => ?_) (fun z hz => ?_) (by omega) (.inl (by simp))⟩
    · obtain ⟨m, h1⟩ := hu j hjU
      rw [← hp, ← hid] at h1
      exact hA s hsm m h1
    · rcases List.mem_cons.1 hz with rfl | hz
      · exact List.mem_map.2 ⟨s, hsm, hid⟩
      · exact hm z hz
    · rcases List.mem_cons.1 hz with rfl | hz
      · exact ⟨0, rfl⟩
      · obtain ⟨m, h1⟩ := hu z hz
        exact ⟨m + 1, by rw [it_one hs, hp]; exact h1⟩
theorem fine_ids {L : List Sp} (hn : (L.map Sp.id).Nodup) (hA : Acy L) {ids : List Int} (h : ∀ i ∈ ids, ∃ s, atS L i = some s) : Fine L (L.length + 1) ids := by
  intro i hi
  obtain ⟨s, hs⟩ := h i hi
  have hid := (atS_some hs).2
  exact ⟨⟨s, hs⟩, fine_kids hn hA L.length i 1 [i] rfl (by simp) (fun z hz => by obtain rfl := List.mem_singleton.1 hz; exact List.mem_map.2 ⟨s, (atS_some hs).1, hid⟩) (fun z hz => by obtain rfl := List.mem_singleton.1 hz; exact ⟨0, rfl⟩) (by omega) (.inl (by simp))⟩
/-- The spans that are laid. -/
def laid (L : List Sp) (n dp : Nat) (o : Bool) (ids : List Int) : List Sp := (layL L n dp o ids).map Br.sp
theorem laid_succ (L : List Sp) (n dp : Nat) (o : Bool) (ids : List Int) : laid L (n + 1) dp o ids = (sortS (ids.map (getS L))).flatMap fun s => s :: laid L n (dp + 1) false (kidIds L s.id) := by
  unfold laid
  rw [layL, List.map_flatMap]
  rfl
theorem laid_under {L : List Sp} (hn : (L.map Sp.id).Nodup) : ∀ (n dp : Nat) (o : Bool) (ids : List Int), Fine L n ids → ∀ u ∈ laid L n dp o ids, u ∈ L ∧ ∃ i ∈ ids, ∃ m, it L m u.id = some i := by
  intro n
  induction n with
  | zero => intro dp o ids _ u hu; cases hu
  | succ n ih =>
    intro dp o ids hf u hu
    rw [laid_succ] at hu
    obtain ⟨s, hs, hu⟩ := List.mem_flatMap.1 hu
    obtain ⟨hat, hfk⟩ := hf.kid hs
    obtain ⟨i, hi, hgi⟩ := List.mem_map.1 (sortS_mem.1 hs)
    obtain ⟨⟨t, ht⟩, _⟩ := hf i hi
    have hti : getS L i = t := by rw [getS, ht]; rfl
    have hid : s.id = i := by rw [← hgi, hti]; exact (atS_some ht).2
    rcases List.mem_cons.1 hu with rfl | hu
    · exact ⟨(atS_some hat).1, i, hi, 0, congrArg some hid⟩
    · obtain ⟨h1, j, hj, m, hm⟩ := ih _ _ _ hfk u hu
      obtain ⟨v, hv, hp, _⟩ := kid_mem hn hj
      refine ⟨h1, i, hi, m + 1, ?_⟩
      rw [it_add, hm]
      show it L 1 j = _
      rw [it_one hv, hp, ← hid]; rfl
theorem laid_nodup {L : List Sp} (hn : (L.map Sp.id).Nodup) (hA : Acy L) : ∀ (n dp : Nat) (o : Bool) (ids : List Int), Fine L n ids → Anti L ids → ((laid L n dp o ids).map Sp.id).Nodup := by
  intro n
  induction n with
  | zero => intro dp o ids _ _; exact List.nodup_nil
  | succ n ih =>
    intro dp o ids hf ha
    rw [laid_succ, List.map_flatMap]
    refine List.pairwise_flatMap.2 ⟨fun s hs => ?_, ?_⟩
    · obtain ⟨hat, hfk⟩ := hf.kid hs
      rw [List.map_cons]
      refine List.nodup_cons.2 ⟨fun hm => ?_, ih _ _ _ hfk (kids_anti hn hA _)⟩
      obtain ⟨u, hu, hui⟩ := List.mem_map.1 hm
      obtain ⟨h1, j, hj, m, hm⟩ := laid_under hn _ _ _ _ hfk u hu
      obtain ⟨v, hv, hp, hvm⟩ := kid_mem hn hj
      have hvid := (atS_some hv).2
      rw [hui] at hm
      have : it L m v.pa = some v.id := by rw [hp, hvid]; exact hm
      exact hA v hvm m this
    · have hids : ((sortS (ids.map (getS L))).map Sp.id).Nodup := by
        have h1 : ((sortS (ids.map (getS L))).map Sp.id).Perm ids := by
          refine ((sortS_perm _).map Sp.id).trans (List.Perm.of_eq ?_)
          rw [List.map_map]
          conv => rhs; rw [← List.map_id ids]
          refine List.map_congr_left fun i hi => ?_
          obtain ⟨⟨t, ht⟩, _⟩ := hf i hi
          simp only [Function.comp, getS, ht, Option.getD_some, id]
          exact (atS_some ht).2
        exact h1.nodup_iff.2 ha.1
      have hpw : (sortS (ids.map (getS L))).Pairwise fun s t => s.id ≠ t.id := List.pairwise_map.1 hids
      refine (List.pairwise_iff_forall_sublist.2 fun {s t} hst => ?_)
      have hne : s.id ≠ t.id := List.pairwise_iff_forall_sublist.1 hpw hst
      have hs : s ∈ sortS (ids.map (getS L)) := hst.subset (by simp)
      have ht : t ∈ sortS (ids.map (getS L)) := hst.subset (by simp)
      have key : ∀ s, s ∈ sortS (ids.map (getS L)) → s.id ∈ ids ∧ ∀ z ∈ (s :: laid L n (dp + 1) false (kidIds L s.id)).map Sp.id, ∃ m, it L m z = some s.id := fun s hs => by
        obtain ⟨hat, hfk⟩ := hf.kid hs
        obtain ⟨i, hi, hgi⟩ := List.mem_map.1 (sortS_mem.1 hs)
        obtain ⟨⟨t, ht⟩, _⟩ := hf i hi
        have hti : getS L i = t := by rw [getS, ht]; rfl
        have hid : s.id = i := by rw [← hgi, hti]; exact (atS_some ht).2
        refine ⟨by rw [hid]; exact hi, fun z hz => ?_⟩
        obtain ⟨u, hu, rfl⟩ := List.mem_map.1 hz
        rcases List.mem_cons.1 hu with rfl | hu
        · exact ⟨0, rfl⟩
        · obtain ⟨h1, j, hj, m, hm⟩ := laid_under hn _ _ _ _ hfk u hu
          obtain ⟨v, hv, hp, _⟩ := kid_mem hn hj
          exact ⟨m + 1, by rw [it_add, hm]; show it L 1 j = _; rw [it_one hv, hp]; rfl⟩
      obtain ⟨hs1, hs2⟩ := key s hs
      obtain ⟨ht1, ht2⟩ := key t ht
      intro x hx y hy e
      subst e
      obtain ⟨m1, h1⟩ := hs2 x hx
      obtain ⟨m2, h2⟩ := ht2 x hy
      rcases Nat.le_total m1 m2 with hle | hle
      · obtain ⟨z, h3, h4⟩ := it_pre h2 hle
        rw [h1] at h3
        cases h3
        have := ha.2 _ hs1 _ ht1 _ h4
        rw [this] at h4
        exact hne (Option.some.inj h4)
      · obtain ⟨z, h3, h4⟩ := it_pre h1 hle
        rw [h2] at h3
        cases h3
        have := ha.2 _ ht1 _ hs1 _ h4
        rw [this] at h4
        exact hne (Option.some.inj h4).symm
theorem laid_le {L : List Sp} (hn : (L.map Sp.id).Nodup) (hA : Acy L) {n dp : Nat} {o : Bool} {ids : List Int} (hf : Fine L n ids) (ha : Anti L ids) : (layL L n dp o ids).length ≤ L.length := by
  have h := nodup_le (laid_nodup hn hA n dp o ids hf ha) (M := L.map Sp.id) (fun z hz => by
    obtain ⟨u, hu, rfl⟩ := List.mem_map.1 hz
    exact List.mem_map.2 ⟨u, (laid_under hn _ _ _ _ hf u hu).1, rfl⟩)
  simpa [laid] using h
end Go.Proofs.YtfjpenbahoeklaaGreatDoor
namespace Go.Proofs.YtfjpenbahoeklaaGreatDoor
open Go.RowKit

theorem span_if {α : Type} {s t : Sp} {q : Bool} (hq : q = true ↔ s = t) (a b : α) :
    (if s.tr = t.tr then if s.id = t.id then if s.pa = t.pa then if s.st = t.st then if s.en = t.en then if s.nm.toList = t.nm.toList then a else b else b else b else b else b else b) = if q = true then a else b := by
  by_cases h : s = t
  · subst h; simp [hq.2 rfl]
  · have hf : ¬ q = true := fun e => h (hq.1 e)
    rw [if_neg hf]
    by_cases h1 : s.tr = t.tr
    · rw [if_pos h1]
      by_cases h2 : s.id = t.id
      · rw [if_pos h2]
        by_cases h3 : s.pa = t.pa
        · rw [if_pos h3]
          by_cases h4 : s.st = t.st
          · rw [if_pos h4]
            by_cases h5 : s.en = t.en
            · rw [if_pos h5]
              by_cases h6 : s.nm.toList = t.nm.toList
              · refine absurd ?_ h
                rw [ByteArray.toList_eq, ByteArray.toList_eq] at h6
                have h7 : s.nm = t.nm := by
                  cases hs : s.nm; cases ht : t.nm
                  rw [hs, ht] at h6
                  simpa using h6
                cases s; cases t; simp_all
              · rw [if_neg h6]
            · rw [if_neg h5]
          · rw [if_neg h4]
        · rw [if_neg h3]
      · rw [if_neg h2]
    · rw [if_neg h1]
theorem span_dec (s t : Sp) : ∃ q : Bool, q = true ↔ s = t := by
  by_cases h : s = t
  · exact ⟨true, by simp [h]⟩
  · exact ⟨false, by simp [h]⟩

/-- What a call leaves that answers whether two are the same, and writes nothing. -/
def ResEq (w : World) (p : Prop) (e : Ending) (w' : World) : Prop := ∃ q : Bool, e = .returned (.bool q) ∧ (q = true ↔ p) ∧ ∃ n, w' = w.drewN n

theorem eql_nil {P : Program} (w : World) (t e : TypeId) (a : Option Addr) (l c : Nat) (h : P.underlying t = some (.slice e)) : (binOp .eql t (.slice a l c) (.slice none 0 0)).run P w = .ok (.bool a.isNone) w := by
  simp only [binOp, Sem.run_bind, run_equal_slice_nil w t e a l c h, Result.andThen_ok, Sem.run_pure]

/-- What a call leaves that makes spans: a slice of its own that reads as l; what was there stands. -/
def ResS (w : World) (l : List Sp) (e : Ending) (w' : World) : Prop :=
  ∃ A c, e = .returned (.slice A l.length c) ∧ w'.ownsRow w.heap.size 93 6 (.slice A l.length c) l.length (l.flatMap Sp.cells) ∧ Below w.heap.size w w'

set_option maxRecDepth 100000 in
set_option maxHeartbeats 400000 in
theorem cloneSpans_any (A : Option Addr) (n cap B : Nat) (l : List Sp) (w : World) (hB : B ≤ w.heap.size) (hb : n ≤ 2513169434916) (hr : RdS w B A n l) :
    Calls Tryz.prog 158 #[.slice A n cap] w (ResS w l) := by
  obtain ⟨i0, hi0, hz0, hz1, hz2⟩ := info_parts Tryz.infoSpan
  have hl := hr.len
  cases A with
  | none =>
    have hn : n = 0 := by
      by_cases h0 : n = 0
      · exact h0
      · obtain ⟨b, off, h, _⟩ := hr.2 (by omega)
        cases h
    subst hn
    obtain rfl : l = [] := List.length_eq_zero_iff.1 hl
    have hq := fun W : World => eql_nil (P := Tryz.prog) W 48 _ none 0 cap Tryz.underlying48
    go_enter Tryz.func158, Tryz.ntmps158
    go_wp2_with fail
    go_ret
    exact ⟨none, 0, rfl, World.ownsRow_nil _ _ _ _, Below.refl _ _⟩
  | some a =>
    have HN := Lib.hid (own_new w #[] 93 0 6 rfl (by unfold maxLen; omega) w.heap.size (Nat.le_refl _))
    have HR : Hid (RdS (w.alloc (.cells #[] 93)) B (some a) n l) := Lib.hid (Rd.alloc hr _ hB (Nat.le_refl _))
    have HL := Lib.hid hl
    clear hl hr
    have hq := fun W : World => eql_nil (P := Tryz.prog) W 48 _ (some a) n cap Tryz.underlying48
    go_enter Tryz.func158, Tryz.ntmps158
    go_wp2_with (at_builtin; refine wpList_app _ rfl (.tmp 5) (.tmp 6) _ rfl w.heap.size 93 i0 _ 6 56 Tryz.underlying48 hi0 hz0 hz1 hz2 rfl (by omega) _ _ _ _ rfl HN.out B _ _ _ _ rfl HR.out (cells_oneCell _) (by unfold maxLen; omega) (by omega) (by simp) ?_; intro A2 c2 w2 hown2 hg2 _)
    go_ret
    rw [List.nil_append, Nat.zero_add] at hown2
    exact ⟨A2, c2, by rw [HL.out]; rfl, by rw [HL.out]; exact hown2, below_app ((Below.refl _ _).alloc (Nat.le_refl _) _) HN.out hg2 (by simp)⟩

theorem below_dN {B : Nat} {a w : World} (h : Below B a w) (n : Nat) : Below B a (w.drewN n) := ⟨h.os, h.tape, h.output, h.size, h.block⟩
theorem below_via {B : Nat} {a b c : World} (h : Below B a b) (k : Below b.heap.size b c) (hB : B ≤ b.heap.size) : Below B a c := h.trans (k.mono hB)
end Go.Proofs.YtfjpenbahoeklaaGreatDoor
namespace Go.Proofs
open Go.Shelf
def Tryz.sortL_ren : Go.Shelf.Ren := ⟨fun | 6 => 159 | 15 => 162 | 14 => 161 | 28 => 174 | 29 => 175 | 20 => 166 | 21 => 167 | 22 => 168 | 23 => 169 | 24 => 170 | 25 => 171 | 26 => 172 | 27 => 173 | 46 => 178 | 47 => 179 | 48 => 180 | 49 => 181 | 50 => 182 | 57 => 183 | n => n, fun | 22 => 48 | 24 => 93 | 25 => 251 | 3 => 3 | 39 => 46 | 0 => 0 | 53 => 267 | 55 => 269 | 4 => 4 | 46 => 260 | 45 => 259 | 50 => 264 | 5 => 5 | 9 => 9 | 66 => 271 | 70 => 249 | 76 => 276 | 77 => 277 | n => n, fun | n => n⟩
theorem Tryz.sortL : Go.Proofs.SlLaysF0.n6 Tryz.prog Tryz.sortL_ren := {
  mixed := by kernel_rfl
  f6 := ⟨Tryz.f159.name, by decide, Tryz.func159.trans (congrArg some (by kernel_rfl))⟩
  f14 := ⟨Tryz.f161.name, by decide, Tryz.func161.trans (congrArg some (by kernel_rfl))⟩
  f15 := Tryz.func162.trans (congrArg some (by kernel_rfl))
  f20 := ⟨Tryz.f166.name, by decide, Tryz.func166.trans (congrArg some (by kernel_rfl))⟩
  f21 := ⟨Tryz.f167.name, by decide, Tryz.func167.trans (congrArg some (by kernel_rfl))⟩
  f22 := ⟨Tryz.f168.name, by decide, Tryz.func168.trans (congrArg some (by kernel_rfl))⟩
  f23 := ⟨Tryz.f169.name, by decide, Tryz.func169.trans (congrArg some (by kernel_rfl))⟩
  f24 := ⟨Tryz.f170.name, by decide, Tryz.func170.trans (congrArg some (by kernel_rfl))⟩
  f25 := ⟨Tryz.f171.name, by decide, Tryz.func171.trans (congrArg some (by kernel_rfl))⟩
  f26 := ⟨Tryz.f172.name, by decide, Tryz.func172.trans (congrArg some (by kernel_rfl))⟩
  f27 := ⟨Tryz.f173.name, by decide, Tryz.func173.trans (congrArg some (by kernel_rfl))⟩
  f28 := Tryz.func174.trans (congrArg some (by kernel_rfl))
  f29 := Tryz.func175.trans (congrArg some (by kernel_rfl))
  f46 := ⟨Tryz.f178.name, by decide, Tryz.func178.trans (congrArg some (by kernel_rfl))⟩
  f47 := Tryz.func179.trans (congrArg some (by kernel_rfl))
  f48 := Tryz.func180.trans (congrArg some (by kernel_rfl))
  f49 := ⟨Tryz.f181.name, by decide, Tryz.func181.trans (congrArg some (by kernel_rfl))⟩
  f50 := ⟨Tryz.f182.name, by decide, Tryz.func182.trans (congrArg some (by kernel_rfl))⟩
  f57 := ⟨Tryz.f183.name, by decide, Tryz.func183.trans (congrArg some (by kernel_rfl))⟩
  t0 := Tryz.underlying0
  a0 := Tryz.isAgg0
  z0 := Tryz.sizeOf0
  v0 := Tryz.zeroValue0
  t3 := Tryz.underlying3
  a3 := Tryz.isAgg3
  z3 := Tryz.sizeOf3
  v3 := Tryz.zeroValue3
  t4 := Tryz.underlying4
  a4 := Tryz.isAgg4
  z4 := Tryz.sizeOf4
  v4 := Tryz.zeroValue4
  t5 := Tryz.underlying5
  a5 := Tryz.isAgg5
  z5 := Tryz.sizeOf5
  v5 := Tryz.zeroValue5
  t9 := Tryz.underlying9
  a9 := Tryz.isAgg9
  z9 := Tryz.sizeOf9
  v9 := Tryz.zeroValue9
  t22 := Tryz.underlying48
  a22 := Tryz.isAgg48
  z22 := Tryz.sizeOf48
  v22 := Tryz.zeroValue48
  t25 := Tryz.underlying251
  a25 := Tryz.isAgg251
  z25 := Tryz.sizeOf251
  v25 := Tryz.zeroValue251
  t39 := Tryz.underlying46
  a39 := Tryz.isAgg46
  z39 := Tryz.sizeOf46
  v39 := Tryz.zeroValue46
  t45 := Tryz.underlying259
  a45 := Tryz.isAgg259
  z45 := Tryz.sizeOf259
  v45 := Tryz.zeroValue259
  t46 := Tryz.underlying260
  a46 := Tryz.isAgg260
  z46 := Tryz.sizeOf260
  v46 := Tryz.zeroValue260
  t50 := Tryz.underlying264
  a50 := Tryz.isAgg264
  z50 := Tryz.sizeOf264
  v50 := Tryz.zeroValue264
  t53 := Tryz.underlying267
  a53 := Tryz.isAgg267
  z53 := Tryz.sizeOf267
  v53 := Tryz.zeroValue267
  t55 := Tryz.underlying269
  a55 := Tryz.isAgg269
  z55 := Tryz.sizeOf269
  v55 := Tryz.zeroValue269
  t66 := Tryz.underlying271
  a66 := Tryz.isAgg271
  z66 := Tryz.sizeOf271
  v66 := Tryz.zeroValue271
  t70 := Tryz.underlying249
  a70 := Tryz.isAgg249
  z70 := Tryz.sizeOf249
  v70 := Tryz.zeroValue249
  t76 := Tryz.underlying276
  a76 := Tryz.isAgg276
  z76 := Tryz.sizeOf276
  v76 := Tryz.zeroValue276
  t77 := Tryz.underlying277
  a77 := Tryz.isAgg277
  z77 := Tryz.sizeOf277
  v77 := Tryz.zeroValue277 }
end Go.Proofs
namespace Go.Proofs.YtfjpenbahoeklaaGreatDoor
open Go.RowKit Go.Sort

theorem sortFunc_any (g n c : Nat) (base : Nat) (l : List Sp) (w : World) (hb : n < 4611686018427387904) (h : w.ownsRow base 93 6 (.slice (some ⟨g, 0, none⟩) n c) n (l.flatMap Sp.cells)) :
    Calls Tryz.prog 159 #[.slice (some ⟨g, 0, none⟩) n c, .func (.func 160) #[] #[]] w fun e w' =>
      e = .returned (.tuple #[]) ∧ w'.ownsRow base 93 6 (.slice (some ⟨g, 0, none⟩) n c) n ((sortS l).flatMap Sp.cells) ∧ Below base w w' := by
  have hl : l.length = n := by have := h.1; rw [flat_len Sp.cells 6 Sp.cells_len] at this; omega
  have hg : g < w.heap.size := (h.lt g rfl).2
  have eg : ∀ args w, (callFunc 160 args).run Tryz.prog w = .ok (.enter 160 args) w := enters_of Tryz.func160 (by kernel_rfl) rfl
  have hcmp : CmpLays Tryz.prog 160 #[] Sp.cells 6 Sp.cmp g 0 l.toArray.size w := by
    intro m os dk hs x y
    exact (compare_any x y _).mono fun e w' ⟨he, q, os', hw⟩ => ⟨he, q, os', hw⟩
  have hS := AnyQ.slices_SortFunc_total Tryz.sortL 6 (fun w => Tryz.isAgg93 w) (fun w => Tryz.sizeOf93 w) Sp.cells Sp.cells_len (fun x v hv => cells_oneCell [x] v (by simpa using hv)) Sp.cmp swoS 160 #[] g 0 c l.toArray w eg hcmp (holds_of_own h) hg (by simpa [hl] using hb) totS
  rw [show l.toArray.size = n by simpa using hl] at hS
  refine hS.mono ?_
  rintro e w' ⟨he, q, os, rfl⟩
  exact ⟨he, own_sorted h (sortS_len l) q os⟩

set_option maxRecDepth 100000 in
set_option maxHeartbeats 400000 in
theorem Sort_any (A : Option Addr) (n cap B : Nat) (l : List Sp) (w : World) (hB : B ≤ w.heap.size) (hb : n ≤ 2513169434916) (hr : RdS w B A n l) :
    Calls Tryz.prog 155 #[.slice A n cap] w (ResS w (sortS l)) := by
  have hl := hr.len
  subst hl
  go_enter Tryz.func155, Tryz.ntmps155
  go_wp2_with fail
  refine (cloneSpans_any A l.length cap B l w hB hb hr).mono ?_
  rintro e w2 ⟨A2, c2, rfl, hown, hbel⟩
  go_wp2_with fail
  by_cases h0 : l.length = 0
  · obtain rfl : l = [] := List.length_eq_zero_iff.1 h0
    have hS := AnyF.slices_SortFunc_none (P := Tryz.prog) (ρ := Tryz.sortL_ren) { Tryz.sortL with } A2 c2 (.func (.func 160) #[] #[]) w2
    refine hS.mono ?_
    rintro e w3 ⟨rfl, rfl⟩
    go_wp2_with fail
    go_ret
    have e0 : sortS [] = [] := List.length_eq_zero_iff.1 (sortS_len [])
    rw [e0]
    exact ⟨A2, c2, rfl, hown, hbel⟩
  · obtain ⟨g, rfl, hg1, hg2⟩ := own_form hown (by omega)
    refine (sortFunc_any g l.length c2 _ l w2 (by omega) hown).mono ?_
    rintro e w3 ⟨rfl, hown3, hb3⟩
    go_wp2_with fail
    go_ret
    rw [← sortS_len l] at hown3 ⊢
    exact ⟨some ⟨g, 0, none⟩, c2, rfl, hown3, hbel.trans hb3⟩
end Go.Proofs.YtfjpenbahoeklaaGreatDoor
namespace Go.Proofs.YtfjpenbahoeklaaGreatDoor
open Go.RowKit

theorem Rd.one6 {w : World} {H : Nat} (hH : w.heap.size = H) (s : Sp) (t : TypeId) (fr : Nat × Nat) : Rd (w.alloc (.cells #[.int .i64 s.tr, .int .i64 s.id, .int .i64 s.pa, .int .i64 s.st, .int .i64 s.en, .string s.nm] t fr)) (H + 1) 6 (some ⟨H, 0, none⟩) 1 s.cells := by
  have := RdS.one hH s t fr; simpa [RdS] using this
theorem cells_one1 (s : Sp) : ∀ u ∈ s.cells, u.oneCell' = true := by have := cells_oneCell [s]; simpa using this
theorem own_ne {w : World} {base sz n c m k : Nat} {e : TypeId} {A : Option Addr} {xs : List Value} (h : w.ownsRow base e sz (.slice A n c) m xs) (hk : w.heap.size ≤ k) : some k ≠ A.map (·.block) := by
  intro he
  have := h.lt k (by rw [he]; cases A <;> rfl)
  omega
theorem grown_cell {w w' : World} {row : Option Nat} (hg : w.grownBy w' row) {p : Addr} (h1 : p.block < w.heap.size) (h2 : some p.block ≠ row) : w'.cell? p = w.cell? p := by
  simp only [World.cell?, hg.block p.block h1 h2]
theorem flat_snoc (l : List Sp) (s : Sp) : (l ++ [s]).flatMap Sp.cells = l.flatMap Sp.cells ++ s.cells := by simp

end Go.Proofs.YtfjpenbahoeklaaGreatDoor
namespace Go.Proofs.YtfjpenbahoeklaaGreatDoor
open Go Go.RowKit Go.Maps

/-- The two maps of a forest. -/
structure FoB (w : World) (a d : Nat) (L : List Sp) (S : Nat → Prop) : Prop where
  all : AllAt w a L
  down : DownAt w d L S
  sa : S a
  sd : S d
  lt : ∀ k, S k → k < w.heap.size
theorem FoB.fr {w w' : World} {a d : Nat} {L : List Sp} {S S2 : Nat → Prop} (h : FoB w a d L S) (hf : Fr S2 w w') (hS : ∀ k, S k → ¬ S2 k) : FoB w' a d L S :=
  ⟨h.all.eq (hf.block a (h.lt a h.sa) (hS a h.sa)), h.down.fr hf (hS d h.sd) hS, h.sa, h.sd, fun k hk => Nat.lt_of_lt_of_le (h.lt k hk) hf.size⟩
theorem FoB.below {w w' : World} {a d : Nat} {L : List Sp} {S : Nat → Prop} (h : FoB w a d L S) (hb : Below w.heap.size w w') : FoB w' a d L S :=
  h.fr (S2 := fun _ => False) (Fr.of_below hb) (fun _ _ h => h)
theorem Tryz.infoBranch : (Tryz.prog.info? 115).map (fun i => (i.zero, i.size, i.bytes)) = some (some (.agg #[.int .i64 0, .bool false, .int .i64 0, .int .i64 0, .int .i64 0, .int .i64 0, .int .i64 0, .string ⟨#[]⟩]), 8, 72) := by kernel_rfl
def rowIs (A : Option Addr) (k : Nat) : Prop := A.map (·.block) = some k
/-- What lay leaves: the row behind it, its own or a new one; nothing else that was there has turned. -/
def ResLay (w : World) (base : Nat) (A : Option Addr) (r : List Br) (e : Ending) (w' : World) : Prop :=
  ∃ A' c', e = .returned (.slice A' r.length c') ∧ w'.ownsRow base 115 8 (.slice A' r.length c') r.length (r.flatMap Br.cells) ∧ Fr (rowIs A) w w' ∧ (A'.map (·.block) = A.map (·.block) ∨ ∃ k, A'.map (·.block) = some k ∧ w.heap.size ≤ k)

theorem Rd.oneB {w : World} {H : Nat} (hH : w.heap.size = H) (dp : Nat) (o : Bool) (s : Sp) (t : TypeId) (fr : Nat × Nat) : Rd (w.alloc (.cells #[.int .i64 dp, .bool o, .int .i64 s.tr, .int .i64 s.id, .int .i64 s.pa, .int .i64 s.st, .int .i64 s.en, .string s.nm] t fr)) (H + 1) 8 (some ⟨H, 0, none⟩) 1 (Br.cells ⟨dp, o, s⟩) :=
  Rd.new hH rfl (by intro j hj; simp [Br.cells] at hj; match j, hj with | 0, _ => rfl | 1, _ => rfl | 2, _ => rfl | 3, _ => rfl | 4, _ => rfl | 5, _ => rfl | 6, _ => rfl | 7, _ => rfl)
theorem lay_facts {w w1 wr w6 : World} {a d : Nat} {L : List Sp} {S : Nat → Prop} {A A5 A6 : Option Addr} {base c5 n5 : Nat} {xs : List Value} {o1 o2 : Obj} (hfr : Fr (rowIs A) w1 wr) (hown : wr.ownsRow base 115 8 (.slice A5 n5 c5) n5 xs)
    (hloc : A5.map (·.block) = A.map (·.block) ∨ ∃ k, A5.map (·.block) = some k ∧ w1.heap.size ≤ k) (hAl : ∀ k, rowIs A k → k < w.heap.size) (hf1 : FoB w1 a d L S) (hSA : ∀ k, S k → ¬ rowIs A k)
    (hbx : ∀ j, w1.cell? ⟨w.heap.size, j, none⟩ = (#[.map (some a), .map (some d)] : Array Value)[j]?) (hw1 : w.heap.size < w1.heap.size) (hsz : w1.heap.size ≤ wr.heap.size)
    (hg : ((wr.alloc o1).alloc o2).grownBy w6 (A5.map (·.block))) (hl : A6.map (·.block) = A5.map (·.block) ∨ A6.map (·.block) = some ((wr.alloc o1).alloc o2).heap.size) :
    FoB w6 a d L S ∧ Fr (rowIs A) w1 w6 ∧ (A6.map (·.block) = A.map (·.block) ∨ ∃ k, A6.map (·.block) = some k ∧ w1.heap.size ≤ k) ∧ (∀ j, w6.cell? ⟨w.heap.size, j, none⟩ = (#[.map (some a), .map (some d)] : Array Value)[j]?) ∧ (∀ j, w6.cell? ⟨wr.heap.size, j, none⟩ = (wr.alloc o1).cell? ⟨wr.heap.size, j, none⟩) := by
  have h2 : Fr (rowIs A) w1 ((wr.alloc o1).alloc o2) := (hfr.alloc _).alloc _
  have h6 : Fr (rowIs A) w1 w6 := h2.step (Fr.of_grown (S := rowIs A5) hg (fun k hk => hk)) (fun j hj => by
    rcases hloc with h | ⟨k, h, hk⟩
    · left; unfold rowIs at hj ⊢; rw [← h]; exact hj
    · right; unfold rowIs at hj; rw [h] at hj; have := Option.some.inj hj; omega)
  refine ⟨hf1.fr h6 hSA, h6, ?_, fun j => ?_, fun j => ?_⟩
  · rcases hl with h | h
    · rw [h]; exact hloc
    · exact .inr ⟨_, h, by simp <;> omega⟩
  · rw [← hbx j]; simp only [World.cell?, h6.block w.heap.size hw1 (fun hk => by have := hAl _ hk; omega)]
  · have e1 : w6.cell? ⟨wr.heap.size, j, none⟩ = ((wr.alloc o1).alloc o2).cell? ⟨wr.heap.size, j, none⟩ := grown_cell hg (by simp <;> omega) (own_ne hown (Nat.le_refl _))
    rw [e1, World.cell?_alloc_lt _ _ _ (by simp)]

theorem lay_look {w : World} {a d : Nat} {L : List Sp} {S : Nat → Prop} (h : FoB w a d L S) {x : Int} (hx : wfI x) :
    ∃ A c, (Instr.lookup 235 (.map (some d)) (.int .i64 x) false).run Tryz.prog w = .ok (.slice A (kidIds L x).length c) w ∧ Hid (RdI w w.heap.size A (kidIds L x).length (kidIds L x)) := by
  obtain ⟨A, c, h1, h2, _⟩ := h.down.look hx
  exact ⟨A, c, h1 w rfl, Lib.hid (Rd.of_own h2)⟩

set_option maxRecDepth 100000 in
set_option maxHeartbeats 4000000 in
theorem lay_any (a d : Nat) (L : List Sp) (S : Nat → Prop) (hwf : ∀ s ∈ L, wfI s.id) (hL : L.length ≤ 64) : ∀ (n : Nat) (ids : List Int) (dp : Nat) (o : Bool) (out : List Br) (base B : Nat) (A : Option Addr) (c : Nat) (Ai : Option Addr) (ci : Nat) (w : World), FoB w a d L S → Fine L n ids → ids.length ≤ 100 →
    dp + n ≤ 1000 → out.length + (layL L n dp o ids).length ≤ 100000 → w.ownsRow base 115 8 (.slice A out.length c) out.length (out.flatMap Br.cells) → base ≤ w.heap.size → (∀ k, S k → ¬ rowIs A k) → RdI w B Ai ids.length ids → B ≤ w.heap.size →
    Calls Tryz.prog 148 #[.agg #[.map (some a), .map (some d)], .slice A out.length c, .int .i64 dp, .bool o, .slice Ai ids.length ci] w (ResLay w base A (out ++ layL L n dp o ids)) := by
  intro n
  induction n with
  | zero =>
    intro ids dp o out base B A c Ai ci w hf hfine hil hdp htot hown hbase hSA hids hB
    have hid0 : ids = [] := hfine
    subst hid0
    have HOW := Lib.hid hown
    clear hf hids hown htot
    rw [layL_nil, List.append_nil]
    simp only [List.length_nil]
    have h00 : ¬ (0 : Int) < 0 := by omega
    go_enter Tryz.func148, Tryz.ntmps148
    go_wp2_with fail
    refine wp_loop_rounds 1 ?_
    rw [rounds_succ]
    go_wp2_with fail
    refine (Sort_any none 0 0 0 [] _ (Nat.zero_le _) (by omega) Rd.nil).mono ?_
    rintro e w1 ⟨A4, c4, rfl, _, hb4⟩
    have e0 : (sortS []).length = 0 := sortS_len []
    rw [e0]
    go_wp2_with fail
    refine wp_loop_rounds 1 ?_
    rw [rounds_succ]
    go_wp2_with fail
    go_ret
    have hb : Below w.heap.size w w1 := below_via ((Below.refl _ _).alloc (Nat.le_refl _) _) hb4 (by simp)
    exact ⟨A, c, rfl, own_below HOW.out hb, Fr.of_below hb, .inl rfl⟩
  | succ n ih =>
    intro ids dp o out base B A c Ai ci w hf hfine hil hdp htot hown hbase hSA hids hB
    obtain ⟨i0, hi0, hz0, hz1, hz2⟩ := info_parts Tryz.infoSpan
    obtain ⟨j0, gi0, gz0, gz1, gz2⟩ := info_parts Tryz.infoBranch
    have HF := Lib.hid hf
    have HFI := Lib.hid hfine
    have HOW := Lib.hid hown
    have HID := Lib.hid hids
    have HSA := Lib.hid hSA
    have HTOT := Lib.hid htot
    have HIH := Lib.hid ih
    clear hf hfine hown hids hSA htot ih
    go_enter Tryz.func148, Tryz.ntmps148
    go_wp2_with fail
    go_loopw [11, 18] (fun v i wr => ∃ (k : Nat) (A2 : Option Addr) (c2 : Nat), k ≤ ids.length ∧ i = .int .i64 k ∧ v = .slice A2 k c2 ∧ wr.ownsRow (w.heap.size + 1) 93 6 (.slice A2 k c2) k (((ids.take k).map (getS L)).flatMap Sp.cells) ∧ Below (w.heap.size + 1) (w.alloc (.cells #[.map (some a), .map (some d)] 237)) wr) (fun _ i _ => ids.length - (intOf i).toNat)
    case atStart => exact ⟨0, none, 0, by omega, rfl, rfl, World.ownsRow_nil _ _ _ _, Below.refl _ _⟩
    case round =>
      obtain ⟨k, A2, c2, hk, rfl, rfl, hown2, hb⟩ := hrel
      have hbc := blk_cell (blk_below hb (by omega) (heap_alloc_new w _))
      have hbw : Below w.heap.size w wr := ((Below.refl _ _).alloc (Nat.le_refl _) _).trans (hb.mono (by omega))
      have hsz := hb.size
      simp at hsz
      have HO2 := Lib.hid hown2
      have HB := Lib.hid hb
      have HBW := Lib.hid hbw
      clear hown2 hb hbw
      by_cases hlt : k < ids.length
      · obtain ⟨b1, o1, rfl, hb1, x0⟩ := RdI.at_ (Rd.below' HID.out HBW.out hB (Nat.le_refl _)) hlt
        have hk1 : (k : Int) < (ids.length : Int) := by omega
        obtain ⟨⟨s, hat⟩, _⟩ := HFI.out _ (List.getElem_mem hlt)
        have hlk := (HF.out.below HBW.out).all.look (x := ids[k]) (by rw [← (atS_some hat).2]; exact hwf s (atS_some hat).1) false
        simp only [Bool.false_eq_true, if_false] at hlk
        have HTK : Hid (((ids.take (k + 1)).map (getS L)).flatMap Sp.cells = ((ids.take k).map (getS L)).flatMap Sp.cells ++ (getS L ids[k]).cells) := Lib.hid (by
          rw [List.take_succ_eq_append_getElem hlt, List.map_append, List.flatMap_append]; simp)
        generalize getS L ids[k] = t at *
        generalize ids[k] = x at *
        clear hat
        go_wp2_with (at_builtin; refine wpList_app _ rfl (.tmp 22) (.tmp 27) _ rfl (w.heap.size + 1) 93 i0 _ 6 56 Tryz.underlying48 hi0 hz0 hz1 hz2 rfl (by omega) _ _ _ _ rfl (HO2.out.alloc _) (wr.heap.size + 1) _ 1 _ _ rfl (Rd.one6 (by simp) _ _ _) (cells_one1 _) (by unfold maxLen; omega) (by omega) (by simp <;> omega) ?_; intro A3 c3 w3 hown3 hg3 _)
        go_roundw
        case rel =>
          refine ⟨k + 1, A3, c3, by omega, by go_num, rfl, ?_, below_app (HB.out.alloc (by omega) _) (HO2.out.alloc _) hg3 (by simp <;> omega)⟩
          rw [HTK.out]; exact hown3
        case measure => simp [intOf]; omega
      · have hkl : k = ids.length := by omega
        subst hkl
        have hk1 : ¬ (ids.length : Int) < (ids.length : Int) := by omega
        have hl0 := HO2.out
        rw [List.take_of_length_le (Nat.le_refl _)] at hl0
        have hml : (ids.map (getS L)).length = ids.length := by simp
        have HML := Lib.hid hml
        have HLO : Hid (RdS wr wr.heap.size A2 ids.length (ids.map (getS L))) := Lib.hid (Rd.of_own hl0)
        have HFW : Hid (FoB wr a d L S) := Lib.hid (HF.out.below HBW.out)
        have HOW2 := Lib.hid (own_below HOW.out HBW.out)
        clear hl0 hml HO2 HB
        go_wp2_with fail
        refine (Sort_any _ _ _ wr.heap.size (ids.map (getS L)) _ (Nat.le_refl _) (by omega) HLO.out).mono ?_
        rintro e w1 ⟨A4, c4, rfl, hown4, hb4⟩
        rw [sortS_len, HML.out] at hown4 ⊢
        have hz4 := hb4.size
        have hAlt : ∀ k, rowIs A k → k < w.heap.size := fun k hk => (HOW.out.lt k (by rw [← hk]; cases A <;> rfl)).2
        have hbx : ∀ j, w1.cell? ⟨w.heap.size, j, none⟩ = (#[.map (some a), .map (some d)] : Array Value)[j]? := fun j => (hb4.cell (by simp only; omega)).trans (hbc j)
        have HBX := Lib.hid hbx
        have HAL := Lib.hid hAlt
        have HO4 := Lib.hid hown4
        have HF1 : Hid (FoB w1 a d L S) := Lib.hid (HFW.out.below hb4)
        have HOW1 := Lib.hid (own_below HOW2.out hb4)
        have HBW1 : Hid (Below w.heap.size w w1) := Lib.hid (below_via HBW.out hb4 (by omega))
        have HSL : Hid ((sortS (ids.map (getS L))).length = ids.length) := Lib.hid (by rw [sortS_len, HML.out])
        have HKD : Hid (∀ s, s ∈ sortS (ids.map (getS L)) → atS L s.id = some s ∧ Fine L n (kidIds L s.id)) := Lib.hid (fun s hs => Fine.kid HFI.out hs)
        have HST : Hid (out ++ layL L (n + 1) dp o ids = out ++ layR L n dp o (sortS (ids.map (getS L))) 0) := Lib.hid rfl
        have HTT : Hid ((out ++ layL L (n + 1) dp o ids).length ≤ 100000) := Lib.hid (by rw [List.length_append]; exact HTOT.out)
        generalize sortS (ids.map (getS L)) = sl at *
        generalize out ++ layL L (n + 1) dp o ids = res at *
        clear hown4 hb4 hbx hAlt HLO HFW HOW2 hbc HFI
        go_wp2_with fail
        go_loopw [1, 33] (fun v i wr => ∃ (k : Nat) (acc : List Br) (A5 : Option Addr) (c5 : Nat), k ≤ ids.length ∧ i = .int .i64 k ∧ v = .slice A5 acc.length c5 ∧ wr.ownsRow base 115 8 (.slice A5 acc.length c5) acc.length (acc.flatMap Br.cells) ∧
            Fr (rowIs A) w1 wr ∧ (A5.map (·.block) = A.map (·.block) ∨ ∃ k, A5.map (·.block) = some k ∧ w1.heap.size ≤ k) ∧ acc ++ layR L n dp o sl k = res) (fun _ i _ => ids.length - (intOf i).toNat)
        case atStart => exact ⟨0, out, A, c, by omega, rfl, rfl, HOW1.out, Fr.refl _ _, .inl rfl, HST.out.symm⟩
        case round =>
          obtain ⟨k, acc, A5, c5, hk, rfl, rfl, hown5, hfr, hloc, hres⟩ := hrel
          have hszr := hfr.size
          have HO5 := Lib.hid hown5
          have HFR := Lib.hid hfr
          have HLOC := Lib.hid hloc
          have HRES := Lib.hid hres
          have hbxr : ∀ j, wr.cell? ⟨w.heap.size, j, none⟩ = (#[.map (some a), .map (some d)] : Array Value)[j]? := fun j => by
            rw [← HBX.out j]; simp only [World.cell?, hfr.block w.heap.size (by omega) (fun hk => by have := HAL.out _ hk; omega)]
          have HFWR : Hid (FoB wr a d L S) := Lib.hid (HF1.out.fr hfr HSA.out)
          clear hown5 hfr hloc hres
          by_cases hlt : k < ids.length
          · have hlt2 : k < sl.length := by rw [HSL.out]; exact hlt
            have hown4 : wr.ownsRow _ 93 6 (.slice A4 ids.length c4) ids.length (sl.flatMap Sp.cells) := own_fr' HO4.out HFR.out (fun k hk hr => by
              have h1 := HO4.out.lt k hk
              have h2 := HAL.out k hr
              omega)
            obtain ⟨b1, o1, rfl, hb1, x0, x1, x2, x3, x4, x5⟩ := RdS.at_ (Rd.of_own hown4) hlt2
            have hk1 : (k : Int) < (ids.length : Int) := by omega
            obtain ⟨hat, hfk⟩ := HKD.out _ (List.getElem_mem hlt2)
            have HSTEP := Lib.hid (layR_step L n dp o sl k hlt2)
            generalize sl[k] = s at *
            have hwid := hwf s (atS_some hat).1
            have hkl : (kidIds L s.id).length ≤ L.length := by rw [kidIds, List.length_map]; exact List.length_filter_le _ _
            have hlen : acc.length + 1 + (layL L n (dp + 1) false (kidIds L s.id)).length ≤ 100000 := by
              have h1 := HTT.out
              rw [← HRES.out, HSTEP.out] at h1
              simp only [List.length_append, List.length_cons] at h1
              omega
            have HFK := Lib.hid hfk
            have HLEN := Lib.hid hlen
            have hacc : acc.length ≤ 100000 := by omega
            clear hown4 hat hfk hlen
            have HBC : Hid (∀ j, (wr.alloc (.cells #[.int .i64 s.tr, .int .i64 s.id, .int .i64 s.pa, .int .i64 s.st, .int .i64 s.en, .string s.nm] 93)).cell? ⟨wr.heap.size, j, none⟩ = (#[.int .i64 s.tr, .int .i64 s.id, .int .i64 s.pa, .int .i64 s.st, .int .i64 s.en, .string s.nm] : Array Value)[j]?) := Lib.hid (blk_cell (heap_alloc_new _ _))
            go_wp2_with (at_builtin; refine wpList_app _ rfl (.tmp 37) (.tmp 42) _ rfl base 115 j0 _ 8 72 Tryz.underlying51 gi0 gz0 gz1 gz2 rfl (by omega) _ _ _ _ rfl ((HO5.out.alloc _).alloc _) (wr.heap.size + 2) _ 1 _ _ rfl (Rd.oneB (by simp) dp o s _ _) (br_one ⟨dp, o, s⟩) (by unfold maxLen; omega) (by omega) (by simp <;> omega) ?_; intro A6 c6 w6 hown6 hg6 hl6; have HF6 := Lib.hid (lay_facts HFR.out HO5.out HLOC.out HAL.out HF1.out HSA.out HBX.out (by omega) hszr hg6 hl6); have hs61 : w6.cell? ⟨wr.heap.size, 1, none⟩ = some (.int .i64 s.id) := (HF6.out.2.2.2.2 1).trans (HBC.out 1); have hbx60 : w6.cell? ⟨w.heap.size, 0, none⟩ = some (.map (some a)) := HF6.out.2.2.2.1 0; have hbx61 : w6.cell? ⟨w.heap.size, 1, none⟩ = some (.map (some d)) := HF6.out.2.2.2.1 1; obtain ⟨A0, c0, hlk1, HO0⟩ := lay_look HF6.out.1 hwid; have HO6 : Hid _ := Lib.hid hown6; have HL6 := Lib.hid hl6; have hz6 : wr.heap.size + 2 ≤ w6.heap.size := (by have := hg6.size; simpa using this); clear hown6 hg6 hl6)
            have hSA6 : ∀ k, S k → ¬ rowIs A6 k := fun k hk hr => by
              rcases HF6.out.2.2.1 with h | ⟨j, h, hj⟩
              · exact HSA.out k hk (by unfold rowIs at hr ⊢; rw [← h]; exact hr)
              · have h1 := HF1.out.lt k hk
                unfold rowIs at hr
                rw [h] at hr
                have := Option.some.inj hr
                omega
            have hln : (acc ++ [(⟨dp, o, s⟩ : Br)]).length = acc.length + 1 := by simp
            have hflat : (acc ++ [(⟨dp, o, s⟩ : Br)]).flatMap Br.cells = acc.flatMap Br.cells ++ (⟨dp, o, s⟩ : Br).cells := by simp
            have hown7 : w6.ownsRow base 115 8 (.slice A6 (acc ++ [(⟨dp, o, s⟩ : Br)]).length c6) (acc ++ [(⟨dp, o, s⟩ : Br)]).length ((acc ++ [(⟨dp, o, s⟩ : Br)]).flatMap Br.cells) := by
              rw [hln, hflat]; exact HO6.out
            have hih := HIH.out (kidIds L s.id) (dp + 1) false (acc ++ [(⟨dp, o, s⟩ : Br)]) base w6.heap.size A6 c6 A0 c0 w6 HF6.out.1 HFK.out (by omega) (by omega) (by rw [hln]; exact HLEN.out) hown7 (by omega) hSA6 HO0.out (Nat.le_refl _)
            rw [hln, show ((dp + 1 : Nat) : Int) = (dp : Int) + 1 from rfl] at hih
            refine hih.mono ?_
            rintro e w7 ⟨A7, c7, rfl, hown8, hfr8, hloc8⟩
            have HO8 := Lib.hid hown8
            have HFR8 : Hid (Fr (rowIs A) w1 w7) := Lib.hid (HF6.out.2.1.step hfr8 (fun j hj => by
              rcases HF6.out.2.2.1 with h | ⟨k, h, hk⟩
              · left; unfold rowIs at hj ⊢; rw [← h]; exact hj
              · right; unfold rowIs at hj; rw [h] at hj; have := Option.some.inj hj; omega))
            have HLOC8 : Hid (A7.map (·.block) = A.map (·.block) ∨ ∃ k, A7.map (·.block) = some k ∧ w1.heap.size ≤ k) := Lib.hid (by
              rcases hloc8 with h | ⟨k, h, hk⟩
              · rw [h]; exact HF6.out.2.2.1
              · exact .inr ⟨k, h, by omega⟩)
            have HRES8 : Hid ((acc ++ [(⟨dp, o, s⟩ : Br)] ++ layL L n (dp + 1) false (kidIds L s.id)) ++ layR L n dp o sl (k + 1) = res) := Lib.hid (by
              rw [← HRES.out, HSTEP.out]; simp)
            clear hown8 hfr8 hloc8 hih hSA6 hln hflat hown7
            generalize acc ++ [(⟨dp, o, s⟩ : Br)] ++ layL L n (dp + 1) false (kidIds L s.id) = acc2 at *
            go_wp2_with fail
            go_roundw
            case rel => exact ⟨k + 1, acc2, A7, c7, by omega, by go_num, rfl, HO8.out, HFR8.out, HLOC8.out, HRES8.out⟩
            case measure => simp [intOf]; omega
          · have hj1 : ¬ (k : Int) < (ids.length : Int) := by omega
            have hre : acc = res := by
              have := HRES.out
              rw [layR_end L n dp o sl k (by rw [HSL.out]; omega), List.append_nil] at this
              exact this
            subst hre
            go_wp2_with fail
            go_ret
            exact ⟨A5, c5, rfl, HO5.out, (Fr.of_below HBW1.out).trans (HFR.out), HLOC.out.imp id (fun ⟨k, h1, h2⟩ => ⟨k, h1, by omega⟩)⟩
end Go.Proofs.YtfjpenbahoeklaaGreatDoor
