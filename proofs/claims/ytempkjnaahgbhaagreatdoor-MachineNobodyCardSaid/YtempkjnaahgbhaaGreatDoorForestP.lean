/-
  The plain side of a forest: spans as they came, what comes of one more, who names whom as its parent. No condition.
  A forest in memory: its two maps and the struct that holds them; what keeps it; the look-ups and the stores. No condition: plain lemmas over the library's own on maps.
-/
import Derived.Test.YtempkjnaahgbhaaGreatDoorSorted
import Derived.Test.YtempkjnaahgbhaaGreatDoorFr
import Derived.Maps.RangeWalk
import Derived.Maps.Ext
namespace Go.Proofs.YtempkjnaahgbhaaGreatDoor
open Go.RowKit

instance : DecidableEq Sp := fun a b => decidable_of_iff (a.cmp b = 0) cmp_zero
/-- The span with a number. -/
def atS (L : List Sp) (x : Int) : Option Sp := L.find? fun s => decide (s.id = x)
def getS (L : List Sp) (x : Int) : Sp := (atS L x).getD default
/-- The numbers of those that name x as their parent. -/
def kids (L : List Sp) (x : Int) : List Sp := L.filter fun s => decide (s.pa = x)
def kidIds (L : List Sp) (x : Int) : List Int := (kids L x).map Sp.id
/-- Does one stand above another one, or is it that? -/
def aboveN (L : List Sp) : Nat → Int → Int → Bool
  | 0, _, _ => false
  | n + 1, id, who => if id = who then true else match atS L id with
    | none => false
    | some s => aboveN L n s.pa who
def aboveB (L : List Sp) (id who : Int) : Bool := aboveN L (L.length + 1) id who

theorem atS_some {L : List Sp} {x : Int} {s : Sp} (h : atS L x = some s) : s ∈ L ∧ s.id = x := by
  have h1 := List.find?_some h
  exact ⟨List.mem_of_find?_eq_some h, by simpa using h1⟩
theorem atS_none {L : List Sp} {x : Int} (h : atS L x = none) : ∀ s ∈ L, s.id ≠ x := by
  intro s hs he
  have := List.find?_eq_none.1 h s hs
  simp [he] at this
theorem atS_mem {L : List Sp} (hn : (L.map Sp.id).Nodup) {s : Sp} (hs : s ∈ L) : atS L s.id = some s := by
  induction L with
  | nil => simp at hs
  | cons a L ih =>
    rw [List.map_cons, List.nodup_cons] at hn
    unfold atS
    rw [List.find?_cons]
    by_cases h : a.id = s.id
    · rw [decide_eq_true h]
      rcases List.mem_cons.1 hs with rfl | hs
      · rfl
      · exact absurd (List.mem_map.2 ⟨s, hs, h.symm⟩) hn.1
    · rw [decide_eq_false h]
      rcases List.mem_cons.1 hs with rfl | hs
      · exact absurd rfl h
      · exact ih hn.2 hs
theorem atS_snoc (L : List Sp) (s : Sp) (x : Int) : atS (L ++ [s]) x = (atS L x).or (if s.id = x then some s else none) := by
  unfold atS
  rw [List.find?_append]
  congr 1
  by_cases h : s.id = x <;> simp [h]
theorem kids_snoc (L : List Sp) (s : Sp) (x : Int) : kids (L ++ [s]) x = kids L x ++ (if s.pa = x then [s] else []) := by
  unfold kids
  rw [List.filter_append]
  congr 1
  by_cases h : s.pa = x <;> simp [h]

/-- How many came to what. -/
structure Cnt where
  ad : Nat
  sa : Nat
  ot : Nat
  cy : Nat
  fu : Nat
def Cnt.zero : Cnt := ⟨0, 0, 0, 0, 0⟩
abbrev Cnt.val (c : Cnt) : Value := .agg #[.int .i64 c.ad, .int .i64 c.sa, .int .i64 c.ot, .int .i64 c.cy, .int .i64 c.fu]
def Cnt.sum (c : Cnt) : Nat := c.ad + c.sa + c.ot + c.cy + c.fu
/-- What comes of one more. -/
def addS (st : List Sp × Cnt) (s : Sp) : List Sp × Cnt :=
  match atS st.1 s.id with
  | some o => if o = s then (st.1, { st.2 with sa := st.2.sa + 1 }) else (st.1, { st.2 with ot := st.2.ot + 1 })
  | none => if 64 ≤ st.1.length then (st.1, { st.2 with fu := st.2.fu + 1 }) else if aboveB st.1 s.pa s.id then (st.1, { st.2 with cy := st.2.cy + 1 }) else (st.1 ++ [s], { st.2 with ad := st.2.ad + 1 })
def addL (st : List Sp × Cnt) (l : List Sp) : List Sp × Cnt := l.foldl addS st
def fits (tr : Int) (s : Sp) : Bool := s.ok && decide (s.tr = tr)
theorem addS_sum (st : List Sp × Cnt) (s : Sp) : (addS st s).2.sum = st.2.sum + 1 := by
  unfold addS
  split
  · split <;> simp only [Cnt.sum] <;> omega
  · split
    · simp only [Cnt.sum]; omega
    · split <;> simp only [Cnt.sum] <;> omega
theorem addL_snoc (st : List Sp × Cnt) (l : List Sp) (s : Sp) : addL st (l ++ [s]) = addS (addL st l) s := by simp [addL, List.foldl_append]
theorem addL_sum (st : List Sp × Cnt) (l : List Sp) : (addL st l).2.sum = st.2.sum + l.length := by
  induction l generalizing st with
  | nil => rfl
  | cons s l ih => show (addL (addS st s) l).2.sum = _; rw [ih, addS_sum, List.length_cons]; omega
theorem addL_app (st : List Sp × Cnt) (l m : List Sp) : addL st (l ++ m) = addL (addL st l) m := by simp [addL, List.foldl_append]
/-- What Add answers, and what there is behind it. -/
def addA (tr : Int) (L l : List Sp) : List Sp × Cnt × Int := if l.all (fits tr) then ((addL (L, Cnt.zero) l).1, (addL (L, Cnt.zero) l).2, 0) else (L, Cnt.zero, 30)

/-- The spans of a forest, as they came. -/
inductive Grown (tr : Int) : List Sp → Prop
  | nil : Grown tr []
  | snoc {L : List Sp} {s : Sp} (h : Grown tr L) (hf : fits tr s = true) (hn : atS L s.id = none) (hl : L.length < 64) (ha : aboveB L s.pa s.id = false) : Grown tr (L ++ [s])
theorem Grown.addS {tr : Int} {L : List Sp} (h : Grown tr L) {s : Sp} (hf : fits tr s = true) (c : Cnt) : Grown tr (addS (L, c) s).1 := by
  unfold Go.Proofs.YtempkjnaahgbhaaGreatDoor.addS
  split
  · split <;> exact h
  · rename_i hn
    by_cases h1 : 64 ≤ L.length
    · simp only [h1, if_true]; exact h
    · simp only [h1, if_false]
      cases h2 : aboveB L s.pa s.id
      · simp only [Bool.false_eq_true, if_false]
        exact .snoc h hf hn (by omega) h2
      · simp only [if_true]; exact h
theorem Grown.len {tr : Int} {L : List Sp} (h : Grown tr L) : L.length ≤ 64 := by
  cases h with
  | nil => simp
  | snoc h _ _ hl _ => simp; omega
theorem Grown.nodup {tr : Int} {L : List Sp} (h : Grown tr L) : (L.map Sp.id).Nodup := by
  induction h with
  | nil => simp
  | snoc h hf hn hl ha ih =>
    rw [List.map_append, List.nodup_append]
    refine ⟨ih, by simp, ?_⟩
    intro a ha b hb
    obtain ⟨s, hs, rfl⟩ := List.mem_map.1 ha
    simp only [List.map_cons, List.map_nil, List.mem_singleton] at hb
    rw [hb]
    exact atS_none hn s hs
theorem Grown.fits {tr : Int} {L : List Sp} (h : Grown tr L) : ∀ s ∈ L, fits tr s = true := by
  induction h with
  | nil => simp
  | snoc h hf hn hl ha ih =>
    intro s hs
    rcases List.mem_append.1 hs with hs | hs
    · exact ih s hs
    · obtain rfl := List.mem_singleton.1 hs; exact hf
theorem fits_ok {tr : Int} {s : Sp} (h : fits tr s = true) : s.ok = true ∧ s.tr = tr := by simpa [fits] using h
theorem ok_bounds {s : Sp} (h : s.ok = true) : 1 ≤ s.id ∧ s.id ≤ 1099511627776 ∧ 0 ≤ s.pa ∧ s.pa ≤ 1099511627776 ∧ s.pa ≠ s.id ∧ s.nm.size ≤ 32 := by
  simp only [Sp.ok, Bool.and_eq_true, decide_eq_true_eq, allIn, List.all_cons, List.all_nil, inB_iff] at h
  omega
theorem ok_more {s : Sp} (h : s.ok = true) : 1 ≤ s.tr ∧ s.tr ≤ 1099511627776 ∧ 0 ≤ s.st ∧ s.st ≤ s.en ∧ s.en ≤ 1099511627776 ∧ 1 ≤ s.nm.size := by
  simp only [Sp.ok, Bool.and_eq_true, decide_eq_true_eq, allIn, List.all_cons, List.all_nil, inB_iff] at h
  omega
end Go.Proofs.YtempkjnaahgbhaaGreatDoor
namespace Go.Proofs.YtempkjnaahgbhaaGreatDoor
open Go Go.RowKit Go.Maps

def spElem : Value → Option (DataW Sp × List MemPlace)
  | .agg cs => match cs.toList with
    | [.int .i64 a, .int .i64 b, .int .i64 c, .int .i64 d, .int .i64 e, .string n] => some (.held ⟨a, b, c, d, e, n⟩, [])
    | _ => none
  | _ => none
theorem spElem_mk (s : Sp) : spElem s.val = some (.held s, []) := rfl
theorem spElem_inv {v : Value} {y : DataW Sp × List MemPlace} (h : spElem v = some y) : ∃ s : Sp, v = s.val ∧ y = (.held s, []) := by
  unfold spElem at h
  split at h
  · rename_i cs
    split at h
    · rename_i a b c d e n hc
      cases h
      refine ⟨⟨a, b, c, d, e, n⟩, ?_, rfl⟩
      cases cs
      simp at hc
      subst hc
      rfl
    · cases h
  · cases h
def slElem : Value → Option (DataW Value × List MemPlace)
  | .slice A n c => some (.held (.slice A n c), [])
  | _ => none
theorem slElem_inv {v : Value} {y : DataW Value × List MemPlace} (h : slElem v = some y) : ∃ A n c, v = .slice A n c ∧ y = (.held (.slice A n c), []) := by
  unfold slElem at h
  split at h
  · cases h; exact ⟨_, _, _, rfl, rfl⟩
  · cases h

def wfI (x : Int) : Prop := (Lit.int .i64 x).wf = true
theorem wfI_of {x : Int} (h1 : -9223372036854775808 ≤ x) (h2 : x ≤ 9223372036854775807) : wfI x := by
  simp [wfI, Lit.wf, IntKind.min, IntKind.max, IntKind.signed, IntKind.bits]; omega
theorem keyLaw : Keyed Tryz.prog 3 := int_keyed Tryz.underlying3
theorem keyI {x : Int} (h : wfI x) : keyOf Tryz.prog 3 (.int .i64 x) = some (.int .i64 x) := keyOf_int_mk Tryz.underlying3 h
theorem litI {x : Int} (h : wfI x) : WideAt.IsKeyLit (.int .i64 x) := keyLaw.key (keyI h)
theorem ne_lit {x y : Int} (h : x ≠ y) : (Lit.int .i64 x) ≠ (Lit.int .i64 y) := fun e => h (by injection e)

/-- A map reads as the spans by their numbers. -/
structure DOf (D : DataW Sp) (L : List Sp) : Prop where
  has : ∀ x, Maps.has D (.int .i64 x) = (atS L x).isSome
  at_ : ∀ x s, atS L x = some s → ∀ z, D.atKey (.int .i64 x) z = .held s
  size : Maps.size D = L.length
theorem DOf.nil : DOf (.map []) [] := ⟨fun _ => rfl, fun _ _ h => (by cases h), rfl⟩
theorem DOf.put {D : DataW Sp} {L : List Sp} {s : Sp} (h : DOf D L) (ht : Tidy D) (hn : atS L s.id = none) (hw : wfI s.id) : DOf (D.put (.int .i64 s.id) (.held s)) (L ++ [s]) := by
  constructor
  · intro x
    rw [atS_snoc]
    by_cases hx : s.id = x
    · subst hx
      rw [has_put_same ht.isMap (litI hw), if_pos rfl]; cases atS L s.id <;> rfl
    · rw [has_put_other (ne_lit (Ne.symm hx)), if_neg hx, h.has]; cases atS L x <;> rfl
  · intro x t hx z
    rw [atS_snoc] at hx
    by_cases hxs : s.id = x
    · subst hxs
      rw [hn, if_pos rfl] at hx
      cases hx
      exact atKey_put_same ht.isMap (litI hw) _ _
    · rw [if_neg hxs] at hx
      rw [atKey_put_other (ne_lit (Ne.symm hxs))]
      refine h.at_ x t ?_ z
      cases h1 : atS L x with
      | none => rw [h1] at hx; cases hx
      | some u => rw [h1] at hx; exact hx
  · rw [size_put ht, h.has, hn, h.size]; simp
/-- Block a is the map of the spans. -/
def AllAt (w : World) (a : Nat) (L : List Sp) : Prop := ∃ D : DataW Sp, w.ownsMap Tryz.prog 3 spElem a L.length D ∧ DOf D L
theorem owns_eq {H : Type} {w w' : World} {P : Program} {k : TypeId} {R : Value → Option (DataW H × List MemPlace)} {b n : Nat} {D : DataW H} (h : w.ownsMap P k R b n D) (he : w'.heap[b]? = w.heap[b]?) : w'.ownsMap P k R b n D := by
  obtain ⟨es, clock, hb, r⟩ := h
  exact ⟨es, clock, he.trans hb, r⟩
theorem AllAt.lt {w : World} {a : Nat} {L : List Sp} (h : AllAt w a L) : a < w.heap.size := by obtain ⟨D, h, _⟩ := h; exact h.lt
theorem AllAt.eq {w w' : World} {a : Nat} {L : List Sp} (h : AllAt w a L) (he : w'.heap[a]? = w.heap[a]?) : AllAt w' a L := by
  obtain ⟨D, h1, h2⟩ := h; exact ⟨D, owns_eq h1 he, h2⟩
theorem AllAt.look {w : World} {a : Nat} {L : List Sp} (h : AllAt w a L) {x : Int} (hx : wfI x) (c : Bool) :
    (Instr.lookup 215 (.map (some a)) (.int .i64 x) c).run Tryz.prog w = .ok (if c then .tuple #[(getS L x).val, .bool (atS L x).isSome] else (getS L x).val) w := by
  obtain ⟨D, h1, h2⟩ := h
  have hd : ∀ v ps, spElem v = some (D.atKey (.int .i64 x) (.held default), ps) → v = (getS L x).val := by
    intro v ps hv
    obtain ⟨s, rfl, hs⟩ := spElem_inv hv
    cases hat : atS L x with
    | none =>
      rw [atKey_of_not_has (by rw [h2.has, hat]; rfl)] at hs
      simp only [Prod.mk.injEq, DataW.held.injEq] at hs
      rw [getS, hat, ← hs.1]; rfl
    | some t =>
      rw [h2.at_ x t hat] at hs
      simp only [Prod.mk.injEq, DataW.held.injEq] at hs
      rw [getS, hat, ← hs.1]; rfl
  cases c
  · obtain ⟨v, ps, hrun, hv⟩ := h1.lookup keyLaw Tryz.underlying215 (Tryz.zeroValue30 w) (spElem_mk default) (keyI hx)
    rw [hrun, hd v ps hv]; rfl
  · obtain ⟨v, ps, hrun, hv⟩ := h1.look_ok keyLaw Tryz.underlying215 (Tryz.zeroValue30 w) (spElem_mk default) (keyI hx)
    rw [hrun, hd v ps hv, h2.has]; rfl
theorem AllAt.len {w : World} {a : Nat} {L : List Sp} (h : AllAt w a L) (ty : TypeId) : (Builtin.len_ #[215] ty #[.map (some a)]).run Tryz.prog w = .ok (.int .i64 L.length) w := by
  obtain ⟨D, h1, h2⟩ := h
  rw [h1.len Tryz.underlying215 ty, h2.size]
theorem AllAt.store {w : World} {a : Nat} {L : List Sp} (h : AllAt w a L) {s : Sp} (hn : atS L s.id = none) (hw : wfI s.id) (hl : L.length < 64) :
    ∃ w', (Instr.mapUpdate 215 (.map (some a)) (.int .i64 s.id) s.val).run Tryz.prog w = .ok () w' ∧ AllAt w' a (L ++ [s]) ∧ w.grownBy w' (some a) ∧ w'.heap.size = w.heap.size := by
  obtain ⟨D, h1, h2⟩ := h
  obtain ⟨w', hrun, hown, ht⟩ := h1.store keyLaw Tryz.underlying215 (by unfold maxLen; omega) (keyI hw) (spElem_mk s)
  have hsz : w'.heap.size = w.heap.size := by obtain ⟨es, clock, es', clock', hb, rfl⟩ := ht; simp [ChangeMaps.setBlock]
  exact ⟨w', hrun, ⟨_, by rw [List.length_append]; exact hown, h2.put (h1.tidy keyLaw) hn hw⟩, ht.grown, hsz⟩

/-- Block d is the map of who names whom; its rows lie in S, no two in one block. -/
def DownAt (w : World) (d : Nat) (L : List Sp) (S : Nat → Prop) : Prop :=
  ∃ (D : DataW Value) (G C : Int → Nat), w.ownsMap Tryz.prog 3 slElem d L.length D ∧ (∀ x, kids L x = [] → Maps.has D (.int .i64 x) = false) ∧
    (∀ x, kids L x ≠ [] → (∀ z, D.atKey (.int .i64 x) z = .held (.slice (some ⟨G x, 0, none⟩) (kidIds L x).length (C x))) ∧
      w.ownsRow 0 3 1 (.slice (some ⟨G x, 0, none⟩) (kidIds L x).length (C x)) (kidIds L x).length ((kidIds L x).map (Value.int .i64)) ∧ S (G x)) ∧
    (∀ x y, kids L x ≠ [] → kids L y ≠ [] → G x = G y → x = y)
theorem DownAt.lt {w : World} {d : Nat} {L : List Sp} {S : Nat → Prop} (h : DownAt w d L S) : d < w.heap.size := by obtain ⟨D, G, C, h, _⟩ := h; exact h.lt
theorem own_eq {w w' : World} {base g : Nat} {e : TypeId} {size n c : Nat} {xs : List Value} (h : w.ownsRow base e size (.slice (some ⟨g, 0, none⟩) n c) n xs) (he : w'.heap[g]? = w.heap[g]?) : w'.ownsRow base e size (.slice (some ⟨g, 0, none⟩) n c) n xs := by
  refine ⟨h.1, ?_⟩
  rcases h.2 with hn | ⟨g', cap, cur, hv, hb, hg, rest⟩
  · exact .inl hn
  · injection hv with ha hn hc
    injection ha with ha
    injection ha with ha
    subst ha
    exact .inr ⟨g, cap, cur, by rw [hc], hb, he.trans hg, rest⟩
theorem own_mem {w : World} {base g : Nat} {e : TypeId} {size n c : Nat} {xs : List Value} (h : w.ownsRow base e size (.slice (some ⟨g, 0, none⟩) n c) n xs) : g < w.heap.size := (h.lt g rfl).2
theorem DownAt.fr {w w' : World} {d : Nat} {L : List Sp} {S S2 : Nat → Prop} (h : DownAt w d L S) (hf : Fr S2 w w') (hd : ¬ S2 d) (hS : ∀ k, S k → ¬ S2 k) : DownAt w' d L S := by
  have hlt := h.lt
  obtain ⟨D, G, C, h1, h2, h3, h4⟩ := h
  refine ⟨D, G, C, owns_eq h1 (hf.block d hlt hd), h2, fun x hx => ?_, h4⟩
  obtain ⟨a1, a2, a3⟩ := h3 x hx
  exact ⟨a1, own_eq a2 (hf.block _ (own_mem a2) (hS _ a3)), a3⟩
theorem DownAt.mono {w : World} {d : Nat} {L : List Sp} {S S2 : Nat → Prop} (h : DownAt w d L S) (hS : ∀ k, S k → S2 k) : DownAt w d L S2 := by
  obtain ⟨D, G, C, h1, h2, h3, h4⟩ := h
  exact ⟨D, G, C, h1, h2, fun x hx => ⟨(h3 x hx).1, (h3 x hx).2.1, hS _ (h3 x hx).2.2⟩, h4⟩
/-- Whom one names: a slice that reads as the numbers; and the way back behind an append onto it. -/
theorem DownAt.look {w : World} {d : Nat} {L : List Sp} {S : Nat → Prop} (h : DownAt w d L S) {x : Int} (hx : wfI x) :
    ∃ A c, (∀ w' : World, w'.heap[d]? = w.heap[d]? → (Instr.lookup 217 (.map (some d)) (.int .i64 x) false).run Tryz.prog w' = .ok (.slice A (kidIds L x).length c) w') ∧ w.ownsRow 0 3 1 (.slice A (kidIds L x).length c) (kidIds L x).length ((kidIds L x).map (Value.int .i64)) ∧ (∀ k, A.map (·.block) = some k → S k) ∧
      (∀ (s : Sp) (w1 : World) (A' : Option Addr) (c' : Nat), s.pa = x → L.length < 64 → w1.ownsRow 0 3 1 (.slice A' (kidIds L x ++ [s.id]).length c') (kidIds L x ++ [s.id]).length ((kidIds L x ++ [s.id]).map (Value.int .i64)) → Fr (fun k => A.map (·.block) = some k) w w1 → ¬ S d →
        (A'.map (·.block) = A.map (·.block) ∨ ∃ k, A'.map (·.block) = some k ∧ w.heap.size ≤ k) → (∀ k, S k → k < w.heap.size) →
        ∃ w2, (Instr.mapUpdate 217 (.map (some d)) (.int .i64 x) (.slice A' (kidIds L x ++ [s.id]).length c')).run Tryz.prog w1 = .ok () w2 ∧ DownAt w2 d (L ++ [s]) (fun k => S k ∨ (w.heap.size ≤ k ∧ k < w2.heap.size)) ∧ w1.grownBy w2 (some d)) := by
  have hdlt := h.lt
  obtain ⟨D, G, C, h1, h2, h3, h4⟩ := h
  have hlk : ∀ w' : World, w'.heap[d]? = w.heap[d]? → ∃ v ps, (Instr.lookup 217 (.map (some d)) (.int .i64 x) false).run Tryz.prog w' = .ok v w' ∧ slElem v = some (D.atKey (.int .i64 x) (.held (.slice none 0 0)), ps) := fun w' he =>
    (owns_eq h1 he).lookup keyLaw Tryz.underlying217 (Tryz.zeroValue23 w') (zd := .held (.slice none 0 0)) (zp := []) rfl (keyI hx)
  have hback : ∀ (A : Option Addr) (c : Nat), (∀ k, A.map (·.block) = some k → ∀ y, kids L y ≠ [] → G y = k → y = x) → (∀ k, A.map (·.block) = some k → S k) → ∀ (s : Sp) (w1 : World) (A' : Option Addr) (c' : Nat), s.pa = x → L.length < 64 → w1.ownsRow 0 3 1 (.slice A' (kidIds L x ++ [s.id]).length c') (kidIds L x ++ [s.id]).length ((kidIds L x ++ [s.id]).map (Value.int .i64)) → Fr (fun k => A.map (·.block) = some k) w w1 → ¬ S d →
        (A'.map (·.block) = A.map (·.block) ∨ ∃ k, A'.map (·.block) = some k ∧ w.heap.size ≤ k) → (∀ k, S k → k < w.heap.size) →
        ∃ w2, (Instr.mapUpdate 217 (.map (some d)) (.int .i64 x) (.slice A' (kidIds L x ++ [s.id]).length c')).run Tryz.prog w1 = .ok () w2 ∧ DownAt w2 d (L ++ [s]) (fun k => S k ∨ (w.heap.size ≤ k ∧ k < w2.heap.size)) ∧ w1.grownBy w2 (some d) := by
    intro A c hinj hAS s w1 A' c' hsx hl hown hf hd hloc hSlt
    have h1' : w1.ownsMap Tryz.prog 3 slElem d L.length D := owns_eq h1 (hf.block d hdlt (fun e => hd (hAS d e)))
    obtain ⟨w2, hrun2, hown2, hg2⟩ := h1'.update keyLaw Tryz.underlying217 (by unfold maxLen; omega) (keyI hx) (val := .slice A' (kidIds L x ++ [s.id]).length c') (d := .held (.slice A' (kidIds L x ++ [s.id]).length c')) (ps := []) rfl
    have hkx : kids (L ++ [s]) x = kids L x ++ [s] := by rw [kids_snoc, if_pos hsx]
    have hko : ∀ y, y ≠ x → kids (L ++ [s]) y = kids L y := fun y hy => by rw [kids_snoc, if_neg (fun e => hy (e.symm.trans hsx)), List.append_nil]
    have hix : kidIds (L ++ [s]) x = kidIds L x ++ [s.id] := by simp [kidIds, hkx]
    have hio : ∀ y, y ≠ x → kidIds (L ++ [s]) y = kidIds L y := fun y hy => by simp [kidIds, hko y hy]
    obtain ⟨g', hg', _, hglt⟩ := own_form hown (by simp)
    subst hg'
    have hgd : g' ≠ d := by
      rcases hloc with h | ⟨k, h, hk⟩
      · intro e; subst e; exact hd (hAS g' h.symm)
      · simp only [Option.map_some, Option.some.injEq] at h; omega
    have hsz1 := hf.size
    have hsz2 := hg2.size
    refine ⟨w2, hrun2, ⟨_, fun y => if y = x then g' else G y, fun y => if y = x then c' else C y, by rw [List.length_append]; exact hown2, ?_, ?_, ?_⟩, hg2⟩
    · intro y hy
      by_cases hyx : y = x
      · subst hyx; rw [hkx] at hy; simp at hy
      · rw [has_put_other (ne_lit hyx)]
        exact h2 y (by rw [← hko y hyx]; exact hy)
    · intro y hy
      by_cases hyx : y = x
      · subst hyx
        simp only [if_true, hix]
        refine ⟨fun z => atKey_put_same h1'.isMap (litI hx) _ _, own_eq hown (hg2.block g' hglt (by simpa using hgd)), ?_⟩
        rcases hloc with h | ⟨k, h, hk⟩
        · exact .inl (hAS g' h.symm)
        · simp only [Option.map_some, Option.some.injEq] at h
          exact .inr ⟨by omega, by omega⟩
      · simp only [if_neg hyx, hio y hyx]
        have hky : kids L y ≠ [] := by rw [← hko y hyx]; exact hy
        obtain ⟨a1, a2, a3⟩ := h3 y hky
        have hlt := own_mem a2
        refine ⟨fun z => by rw [atKey_put_other (ne_lit hyx)]; exact a1 z, ?_, .inl a3⟩
        have e1 := hf.block (G y) hlt (fun e => hyx (hinj _ e y hky rfl))
        exact own_eq (own_eq a2 e1) (hg2.block _ (by omega) (fun e => hd (by injection e with e; rw [← e]; exact a3)))
    · intro y z hy hz he
      by_cases hyx : y = x
      · by_cases hzx : z = x
        · rw [hyx, hzx]
        · simp only [if_pos hyx, if_neg hzx] at he
          have hkz : kids L z ≠ [] := by rw [← hko z hzx]; exact hz
          rcases hloc with h | ⟨k, h, hk⟩
          · exact absurd (hinj g' h.symm z hkz he.symm) hzx
          · simp only [Option.map_some, Option.some.injEq] at h
            have := hSlt _ (h3 z hkz).2.2
            omega
      · by_cases hzx : z = x
        · simp only [if_neg hyx, if_pos hzx] at he
          have hky : kids L y ≠ [] := by rw [← hko y hyx]; exact hy
          rcases hloc with h | ⟨k, h, hk⟩
          · exact absurd (hinj g' h.symm y hky he) hyx
          · simp only [Option.map_some, Option.some.injEq] at h
            have := hSlt _ (h3 y hky).2.2
            omega
        · simp only [if_neg hyx, if_neg hzx] at he
          exact h4 y z (by rw [← hko y hyx]; exact hy) (by rw [← hko z hzx]; exact hz) he
  by_cases hk : kids L x = []
  · have hi : kidIds L x = [] := by simp [kidIds, hk]
    rw [hi] at hback ⊢
    refine ⟨none, 0, fun w' he' => ?_, World.ownsRow_nil _ _ _ _, (fun k hk => by cases hk), hback none 0 (fun k hk => by cases hk) (fun k hk => by cases hk)⟩
    obtain ⟨v, ps, hrun, hv⟩ := hlk w' he'
    rw [atKey_of_not_has (h2 x hk)] at hv
    obtain ⟨A, n, c, rfl, he⟩ := slElem_inv hv
    simp only [Prod.mk.injEq, DataW.held.injEq] at he
    obtain ⟨e1, e2, e3⟩ := Value.slice.inj he.1
    rw [hrun, ← e1, ← e2, ← e3]
    rfl
  · obtain ⟨a1, a2, a3⟩ := h3 x hk
    refine ⟨some ⟨G x, 0, none⟩, C x, fun w' he' => ?_, a2, fun k hk => ?_, hback (some ⟨G x, 0, none⟩) (C x) (fun k hk y hy hgy => ?_) (fun k hk => ?_)⟩
    · obtain ⟨v, ps, hrun, hv⟩ := hlk w' he'
      rw [a1] at hv
      obtain ⟨A, n, c, rfl, he⟩ := slElem_inv hv
      simp only [Prod.mk.injEq, DataW.held.injEq] at he
      obtain ⟨e1, e2, e3⟩ := Value.slice.inj he.1
      rw [hrun, ← e1, ← e2, ← e3]
    · simp only [Option.map_some, Option.some.injEq] at hk; rw [← hk]; exact a3
    · simp only [Option.map_some, Option.some.injEq] at hk
      exact h4 y x hy ‹_› (hgy.trans hk.symm)
    · simp only [Option.map_some, Option.some.injEq] at hk; rw [← hk]; exact a3
end Go.Proofs.YtempkjnaahgbhaaGreatDoor
