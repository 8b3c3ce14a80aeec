/-
  The plain side of a store: traces with their spans, by rising numbers; what comes of one more span; which go; the bytes. No condition.
  A store in memory: its map of forests; what keeps it; the look-ups. No condition: plain lemmas over the library's own on maps.
  The walks of a store's first methods: New, made, numbers, Traces, Lookup. Conditions: the store lies in memory as New made it.
  A store of which one forest is taken out: for an Add, and back. No condition: plain lemmas.
-/
import Derived.Test.YtempkjnaahgbhaaGreatDoorForestE
import Derived.Test.YtempkjnaahgbhaaGreatDoorForestU
import Derived.Test.YtempkjnaahgbhaaGreatDoorCodec
import Derived.Test.YtempkjnaahgbhaaGreatDoorLayKeys
import Derived.Test.YtempkjnaahgbhaaGreatDoorNobody04
import Derived.Shelf.SortM.SortNone
namespace Go.Proofs.YtempkjnaahgbhaaGreatDoor
open Go.RowKit

/-- A trace with its spans. -/
structure Tr where
  tr : Int
  L : List Sp
def getT (T : List Tr) (x : Int) : Option (List Sp) := (T.find? fun t => decide (t.tr = x)).map Tr.L
def setT (T : List Tr) (x : Int) (L : List Sp) : List Tr := T.map fun t => if t.tr = x then ⟨x, L⟩ else t
def insT : List Tr → Tr → List Tr
  | [], t => [t]
  | u :: T, t => if t.tr < u.tr then t :: u :: T else u :: insT T t
/-- By rising numbers. -/
def SrtT (T : List Tr) : Prop := T.Pairwise fun t u => t.tr < u.tr
def Cnt.plus (a b : Cnt) : Cnt := ⟨a.ad + b.ad, a.sa + b.sa, a.ot + b.ot, a.cy + b.cy, a.fu + b.fu⟩
theorem Cnt.plus_sum (a b : Cnt) : (a.plus b).sum = a.sum + b.sum := by simp only [Cnt.plus, Cnt.sum]; omega
/-- What comes of one more span. -/
def ingS (st : List Tr × Cnt) (s : Sp) : List Tr × Cnt :=
  match getT st.1 s.tr with
  | some L => (setT st.1 s.tr (addS (L, Cnt.zero) s).1, st.2.plus (addS (L, Cnt.zero) s).2)
  | none => if 32 ≤ st.1.length then (st.1, { st.2 with fu := st.2.fu + 1 }) else (insT st.1 ⟨s.tr, (addS ([], Cnt.zero) s).1⟩, st.2.plus (addS ([], Cnt.zero) s).2)
def ingL (st : List Tr × Cnt) (l : List Sp) : List Tr × Cnt := l.foldl ingS st
/-- What Ingest answers, and what there is behind it. -/
def ingA (T : List Tr) (l : List Sp) : List Tr × Cnt × Int := if l.all Sp.ok then ((ingL (T, Cnt.zero) l).1, (ingL (T, Cnt.zero) l).2, 0) else (T, Cnt.zero, 30)
def retT (T : List Tr) (from_ : Int) : List Tr := T.filter fun t => decide (from_ ≤ endL t.L)
def lookT (T : List Tr) (x : Int) : List Br := match getT T x with
  | none => []
  | some L => branches L
def trcT (T : List Tr) : List Int := T.map Tr.tr
def encT (t : Tr) : List UInt8 := digits (putEnc (sortS t.L)).length ++ putEnc (sortS t.L)
def imgT (T : List Tr) : List UInt8 := digits T.length ++ T.flatMap encT

theorem getT_some {T : List Tr} {x : Int} {L : List Sp} (h : getT T x = some L) : (⟨x, L⟩ : Tr) ∈ T := by
  unfold getT at h
  cases hf : T.find? (fun t => decide (t.tr = x)) with
  | none => rw [hf] at h; cases h
  | some t =>
    rw [hf] at h
    have h1 : t.tr = x := by simpa using List.find?_some hf
    have h2 : t.L = L := Option.some.inj h
    have h3 := List.mem_of_find?_eq_some hf
    obtain ⟨a, b⟩ := t
    simp only at h1 h2
    rw [← h1, ← h2]; exact h3
theorem getT_none {T : List Tr} {x : Int} (h : getT T x = none) : ∀ t ∈ T, t.tr ≠ x := by
  intro t ht e
  unfold getT at h
  rw [Option.map_eq_none_iff] at h
  have := List.find?_eq_none.1 h t ht
  simp [e] at this
theorem SrtT.nodup {T : List Tr} (h : SrtT T) : (T.map Tr.tr).Nodup := List.pairwise_map.2 (h.imp fun hlt e => by omega)
theorem getT_mem {T : List Tr} (h : SrtT T) {t : Tr} (ht : t ∈ T) : getT T t.tr = some t.L := by
  induction T with
  | nil => cases ht
  | cons u T ih =>
    obtain ⟨h1, h2⟩ := List.pairwise_cons.1 h
    unfold getT
    rw [List.find?_cons]
    rcases List.mem_cons.1 ht with rfl | ht
    · simp
    · have := h1 t ht
      rw [decide_eq_false (by omega)]
      exact ih h2 ht
theorem setT_keys (T : List Tr) (x : Int) (L : List Sp) : (setT T x L).map Tr.tr = T.map Tr.tr := by
  unfold setT
  rw [List.map_map]
  refine List.map_congr_left fun t _ => ?_
  by_cases h : t.tr = x <;> simp [h]
theorem setT_len (T : List Tr) (x : Int) (L : List Sp) : (setT T x L).length = T.length := by simp [setT]
theorem srt_keys {T : List Tr} : SrtT T ↔ (T.map Tr.tr).Pairwise (· < ·) := by unfold SrtT; rw [List.pairwise_map]
theorem setT_srt {T : List Tr} (h : SrtT T) (x : Int) (L : List Sp) : SrtT (setT T x L) := by rw [srt_keys, setT_keys]; exact srt_keys.1 h
theorem setT_mem {T : List Tr} {x : Int} {L : List Sp} {t : Tr} (h : t ∈ setT T x L) : (t.tr ≠ x ∧ t ∈ T) ∨ (t = ⟨x, L⟩ ∧ ∃ u ∈ T, u.tr = x) := by
  obtain ⟨u, hu, rfl⟩ := List.mem_map.1 h
  by_cases e : u.tr = x
  · rw [if_pos e]; exact .inr ⟨rfl, u, hu, e⟩
  · rw [if_neg e]; exact .inl ⟨e, hu⟩
theorem insT_mem {T : List Tr} {t u : Tr} : u ∈ insT T t ↔ u = t ∨ u ∈ T := by
  induction T with
  | nil => simp [insT]
  | cons v T ih =>
    rw [insT]
    by_cases h : t.tr < v.tr
    · rw [if_pos h]; simp
    · rw [if_neg h, List.mem_cons, ih, List.mem_cons]
      constructor
      · rintro (h | h | h) <;> simp [h]
      · rintro (h | h | h) <;> simp [h]
theorem insT_len (T : List Tr) (t : Tr) : (insT T t).length = T.length + 1 := by
  induction T with
  | nil => rfl
  | cons v T ih =>
    rw [insT]
    by_cases h : t.tr < v.tr
    · rw [if_pos h]; rfl
    · rw [if_neg h]; simp [ih]
theorem insT_srt {T : List Tr} (h : SrtT T) {t : Tr} (hn : ∀ u ∈ T, u.tr ≠ t.tr) : SrtT (insT T t) := by
  induction T with
  | nil => simp [insT, SrtT]
  | cons v T ih =>
    obtain ⟨h1, h2⟩ := List.pairwise_cons.1 h
    rw [insT]
    by_cases hlt : t.tr < v.tr
    · rw [if_pos hlt]
      refine List.pairwise_cons.2 ⟨fun u hu => ?_, h⟩
      rcases List.mem_cons.1 hu with rfl | hu
      · exact hlt
      · have := h1 u hu; omega
    · rw [if_neg hlt]
      have hv := hn v (by simp)
      refine List.pairwise_cons.2 ⟨fun u hu => ?_, ih h2 fun u hu => hn u (by simp [hu])⟩
      rcases insT_mem.1 hu with rfl | hu
      · omega
      · exact h1 u hu
theorem retT_srt {T : List Tr} (h : SrtT T) (z : Int) : SrtT (retT T z) := List.Pairwise.filter _ h
theorem ingL_snoc (st : List Tr × Cnt) (l : List Sp) (s : Sp) : ingL st (l ++ [s]) = ingS (ingL st l) s := by simp [ingL, List.foldl_append]
theorem ingL_app (st : List Tr × Cnt) (l m : List Sp) : ingL st (l ++ m) = ingL (ingL st l) m := by simp [ingL, List.foldl_append]
theorem ingS_sum (st : List Tr × Cnt) (s : Sp) : (ingS st s).2.sum = st.2.sum + 1 := by
  have h1 : ∀ L, (addS (L, Cnt.zero) s).2.sum = 1 := fun L => by rw [addS_sum]; rfl
  unfold ingS
  split
  · simp only [Cnt.plus_sum, h1]
  · split
    · simp only [Cnt.sum]; omega
    · simp only [Cnt.plus_sum, h1]
theorem ingL_sum (st : List Tr × Cnt) (l : List Sp) : (ingL st l).2.sum = st.2.sum + l.length := by
  induction l generalizing st with
  | nil => rfl
  | cons s l ih => show (ingL (ingS st s) l).2.sum = _; rw [ih, ingS_sum, List.length_cons]; omega

/-- A store's traces. -/
structure GrT (T : List Tr) : Prop where
  srt : SrtT T
  len : T.length ≤ 32
  ok : ∀ t ∈ T, Grown t.tr t.L ∧ t.L ≠ []
theorem GrT.nil : GrT [] := ⟨List.Pairwise.nil, by simp, by simp⟩
theorem Grown.key {tr : Int} {L : List Sp} (h : Grown tr L) (hn : L ≠ []) : 1 ≤ tr ∧ tr ≤ 1099511627776 := by
  obtain ⟨s, hs⟩ := List.exists_mem_of_ne_nil L hn
  obtain ⟨h1, h2⟩ := fits_ok (h.fits s hs)
  have := ok_more h1
  omega
theorem addS_first {s : Sp} (h : s.ok = true) : addS ([], Cnt.zero) s = ([s], { Cnt.zero with ad := 1 }) := by
  have hb := ok_bounds h
  have ha : aboveB [] s.pa s.id = false := by
    unfold aboveB aboveN
    rw [if_neg (by omega)]; rfl
  exact addS_add rfl (by simp) ha
theorem addS_ne {L : List Sp} (c : Cnt) (s : Sp) (h : L ≠ []) : (addS (L, c) s).1 ≠ [] := by
  unfold addS
  split
  · split <;> exact h
  · split
    · exact h
    · split
      · exact h
      · simp
theorem fits_own {s : Sp} (h : s.ok = true) : fits s.tr s = true := by simp [fits, h]
theorem GrT.ing {T : List Tr} (h : GrT T) (c : Cnt) {s : Sp} (hs : s.ok = true) : GrT (ingS (T, c) s).1 := by
  unfold ingS
  cases hg : getT T s.tr with
  | some L =>
    obtain ⟨h1, h2⟩ := h.ok _ (getT_some hg)
    refine ⟨setT_srt h.srt _ _, by simp only [setT_len]; exact h.len, fun t ht => ?_⟩
    rcases setT_mem ht with ⟨_, ht⟩ | ⟨rfl, _⟩
    · exact h.ok t ht
    · exact ⟨h1.addS (fits_own hs) _, addS_ne _ _ h2⟩
  | none =>
    simp only
    by_cases h32 : 32 ≤ T.length
    · rw [if_pos h32]; exact h
    · rw [if_neg h32]
      refine ⟨insT_srt h.srt (getT_none hg), by simp only [insT_len]; omega, fun t ht => ?_⟩
      rcases insT_mem.1 ht with rfl | ht
      · exact ⟨Grown.nil.addS (fits_own hs) _, by rw [addS_first hs]; simp⟩
      · exact h.ok t ht
theorem GrT.ings {T : List Tr} (h : GrT T) (c : Cnt) {l : List Sp} (hl : l.all Sp.ok = true) : GrT (ingL (T, c) l).1 := by
  induction l generalizing T c with
  | nil => exact h
  | cons s l ih =>
    simp only [List.all_cons, Bool.and_eq_true] at hl
    have := ih (h.ing c hl.1) (ingS (T, c) s).2 hl.2
    exact this
theorem GrT.ingA {T : List Tr} (h : GrT T) (l : List Sp) : GrT (ingA T l).1 := by
  unfold Go.Proofs.YtempkjnaahgbhaaGreatDoor.ingA
  cases hl : l.all Sp.ok
  · rw [if_neg Bool.false_ne_true]; exact h
  · rw [if_pos rfl]; exact h.ings _ hl
theorem GrT.ret {T : List Tr} (h : GrT T) (z : Int) : GrT (retT T z) :=
  ⟨retT_srt h.srt z, Nat.le_trans (List.length_filter_le _ _) h.len, fun t ht => h.ok t (List.mem_filter.1 ht).1⟩
theorem addA_one {tr : Int} {L : List Sp} {s : Sp} (h : fits tr s = true) : addA tr L [s] = ((addS (L, Cnt.zero) s).1, (addS (L, Cnt.zero) s).2, 0) := by
  rw [addA, if_pos (by simp [h])]; rfl
end Go.Proofs.YtempkjnaahgbhaaGreatDoor
namespace Go.Proofs.YtempkjnaahgbhaaGreatDoor
open Go Go.RowKit Go.Maps

def ptElem : Value → Option (DataW Value × List MemPlace)
  | .pointer a => some (.held (.pointer a), [])
  | _ => none
theorem ptElem_inv {v : Value} {y : DataW Value × List MemPlace} (h : ptElem v = some y) : ∃ a, v = .pointer a ∧ y = (.held (.pointer a), []) := by
  unfold ptElem at h
  split at h
  · cases h; exact ⟨_, rfl, rfl⟩
  · cases h
/-- An entry of the map; the map. -/
def entT (p : Int → Nat) (t : Tr) : Lit × DataW Value := (.int .i64 t.tr, .held (.pointer (some ⟨p t.tr, 0, none⟩)))
def mapT (p : Int → Nat) (T : List Tr) : DataW Value := .map (T.map (entT p))
theorem same_int (x y : Int) : (Lit.int .i64 x).sameKey (.int .i64 y) = decide (x = y) := by simp [Lit.sameKey]
theorem mapT_find (p : Int → Nat) (T : List Tr) (x : Int) : (T.map (entT p)).find? (fun q => q.1.sameKey (.int .i64 x)) = (T.find? fun t => decide (t.tr = x)).map (entT p) := by
  rw [List.find?_map]
  congr 2
  funext t
  simp [entT, same_int]
theorem mapT_at (p : Int → Nat) (T : List Tr) (x : Int) (z : DataW Value) : (mapT p T).atKey (.int .i64 x) z = match getT T x with
    | some _ => .held (.pointer (some ⟨p x, 0, none⟩))
    | none => z := by
  unfold mapT DataW.atKey
  simp only [mapT_find]
  unfold getT
  cases hf : T.find? (fun t => decide (t.tr = x)) with
  | none => rfl
  | some t =>
    have h1 : t.tr = x := by simpa using List.find?_some hf
    simp only [Option.map_some, entT, h1]
theorem mapT_has (p : Int → Nat) (T : List Tr) (x : Int) : Maps.has (mapT p T) (.int .i64 x) = (getT T x).isSome := by
  show (T.map (entT p)).any (fun q => q.1.sameKey (.int .i64 x)) = _
  have h := mapT_find p T x
  unfold getT
  rw [Option.isSome_map]
  cases hf : T.find? (fun t => decide (t.tr = x)) with
  | none =>
    rw [hf] at h
    have h2 := List.find?_eq_none.1 h
    rw [List.any_eq_false.2 h2]; rfl
  | some t =>
    rw [hf] at h
    rw [List.any_eq_true.2 ⟨_, List.mem_of_find?_eq_some h, List.find?_some h⟩]; rfl
theorem mapT_size (p : Int → Nat) (T : List Tr) : Maps.size (mapT p T) = T.length := by simp [mapT, Maps.size]
theorem mapT_congr {p q : Int → Nat} {T : List Tr} (h : ∀ t ∈ T, p t.tr = q t.tr) : mapT p T = mapT q T := by
  unfold mapT
  congr 1
  refine List.map_congr_left fun t ht => ?_
  simp [entT, h t ht]
theorem mapT_set (p : Int → Nat) (T : List Tr) (x : Int) (L : List Sp) : mapT p (setT T x L) = mapT p T := by
  unfold mapT setT
  rw [List.map_map]
  congr 1
  refine List.map_congr_left fun t _ => ?_
  by_cases h : t.tr = x <;> simp [entT, h]
theorem mapT_put {p : Int → Nat} {T : List Tr} {t : Tr} (hn : ∀ u ∈ T, u.tr ≠ t.tr) : (mapT p T).put (.int .i64 t.tr) (.held (.pointer (some ⟨p t.tr, 0, none⟩))) = mapT p (insT T t) := by
  have hf : (T.map (entT p)).filter (fun q => !q.1.sameKey (.int .i64 t.tr)) = T.map (entT p) := by
    refine List.filter_eq_self.2 fun q hq => ?_
    obtain ⟨u, hu, rfl⟩ := List.mem_map.1 hq
    simp [entT, same_int, hn u hu]
  unfold mapT DataW.put
  simp only [hf]
  congr 1
  clear hf hn
  induction T with
  | nil => rfl
  | cons u T ih =>
    rw [insT, List.map_cons, DataW.insert]
    by_cases h : t.tr < u.tr
    · rw [if_pos (by simpa [entT, Lit.before] using h), if_pos h]; rfl
    · rw [if_neg (by simpa [entT, Lit.before] using h), if_neg h, List.map_cons, ih]

/-- A store in block s, its map in block m; all it has lies in S. -/
structure St (w : World) (s m : Nat) (T : List Tr) (S : Nat → Prop) : Prop where
  hp : w.heap[s]? = some (.cells #[.map (some m)] 178 (0, 0))
  ex : ∃ (p a d : Int → Nat) (SS : Int → Nat → Prop), w.ownsMap Tryz.prog 3 ptElem m T.length (mapT p T) ∧ (∀ t ∈ T, Fo w (p t.tr) (a t.tr) (d t.tr) t.tr t.L (SS t.tr)) ∧
    (∀ t ∈ T, ∀ k, SS t.tr k → S k ∧ k ≠ s ∧ k ≠ m) ∧ (∀ t ∈ T, ∀ u ∈ T, t.tr ≠ u.tr → ∀ k, SS t.tr k → ¬ SS u.tr k)
  ss : S s
  sm : S m
  ne : s ≠ m
  gr : GrT T
  lt : ∀ k, S k → k < w.heap.size
section
variable {w w' : World} {s m : Nat} {T : List Tr} {S S2 : Nat → Prop}
theorem St.fr (h : St w s m T S) (hf : Fr S2 w w') (hS : ∀ k, S k → ¬ S2 k) : St w' s m T S := by
  obtain ⟨p, a, d, SS, h1, h2, h3, h4⟩ := h.ex
  exact ⟨(hf.block s (h.lt s h.ss) (hS s h.ss)).trans h.hp, ⟨p, a, d, SS, owns_eq h1 (hf.block m (h.lt m h.sm) (hS m h.sm)), fun t ht => (h2 t ht).fr hf (fun k hk => hS k (h3 t ht k hk).1), h3, h4⟩, h.ss, h.sm, h.ne, h.gr, fun k hk => Nat.lt_of_lt_of_le (h.lt k hk) hf.size⟩
theorem St.below {B : Nat} (h : St w s m T S) (hb : Below B w w') (hB : w.heap.size ≤ B) : St w' s m T S :=
  h.fr (S2 := fun _ => False) ⟨hb.os, hb.tape, hb.output, hb.size, fun k hk _ => hb.block k (by omega)⟩ (fun _ _ h => h)
theorem St.mono (h : St w s m T S) (hS : ∀ k, S k → S2 k) (hl : ∀ k, S2 k → k < w.heap.size) : St w s m T S2 := by
  obtain ⟨p, a, d, SS, h1, h2, h3, h4⟩ := h.ex
  exact ⟨h.hp, ⟨p, a, d, SS, h1, h2, fun t ht k hk => ⟨hS k (h3 t ht k hk).1, (h3 t ht k hk).2⟩, h4⟩, hS _ h.ss, hS _ h.sm, h.ne, h.gr, hl⟩
theorem St.drewN (h : St w s m T S) (n : Nat) : St (w.drewN n) s m T S := h.below (below_drew' w n) (Nat.le_refl _)
/-- A trace's number may be a key. -/
theorem St.key (h : St w s m T S) {t : Tr} (ht : t ∈ T) : wfI t.tr := by
  have := (h.gr.ok t ht).1.key (h.gr.ok t ht).2
  exact wfI_of (by omega) (by omega)
/-- A forest of the store, or nil. -/
def OneOf (w : World) (T : List Tr) (S : Nat → Prop) (x : Int) (v : Value) : Prop :=
  match getT T x with
  | none => v = .pointer none
  | some L => ∃ p a d SS, v = .pointer (some ⟨p, 0, none⟩) ∧ Fo w p a d x L SS ∧ ∀ k, SS k → S k
theorem St.look (h : St w s m T S) {x : Int} (hx : wfI x) : ∃ v, (∀ W : World, W.heap[m]? = w.heap[m]? → (Instr.lookup 176 (.map (some m)) (.int .i64 x) false).run Tryz.prog W = .ok v W) ∧ OneOf w T S x v := by
  obtain ⟨p, a, d, SS, h1, h2, h3, h4⟩ := h.ex
  have key : ∀ (W : World), W.heap[m]? = w.heap[m]? → ∃ v ps, (Instr.lookup 176 (.map (some m)) (.int .i64 x) false).run Tryz.prog W = .ok v W ∧ ptElem v = some ((mapT p T).atKey (.int .i64 x) (.held (.pointer none)), ps) := fun W he =>
    (owns_eq h1 he).lookup keyLaw Tryz.underlying176 (Tryz.zeroValue179 W) (zd := .held (.pointer none)) (zp := []) rfl (keyI hx)
  unfold OneOf
  cases hg : getT T x with
  | none =>
    refine ⟨.pointer none, fun W he => ?_, rfl⟩
    obtain ⟨v, ps, hrun, hv⟩ := key W he
    rw [mapT_at, hg] at hv
    obtain ⟨b, rfl, hy⟩ := ptElem_inv hv
    simp only [Prod.mk.injEq, DataW.held.injEq, Value.pointer.injEq] at hy
    rw [hrun, ← hy.1]
  | some L =>
    refine ⟨.pointer (some ⟨p x, 0, none⟩), fun W he => ?_, p x, a x, d x, SS x, rfl, ?_, fun k hk => (h3 _ (getT_some hg) k hk).1⟩
    · obtain ⟨v, ps, hrun, hv⟩ := key W he
      rw [mapT_at, hg] at hv
      obtain ⟨b, rfl, hy⟩ := ptElem_inv hv
      simp only [Prod.mk.injEq, DataW.held.injEq, Value.pointer.injEq] at hy
      rw [hrun, ← hy.1]
    · exact h2 _ (getT_some hg)
theorem St.len (h : St w s m T S) (ty : TypeId) : (Builtin.len_ #[176] ty #[.map (some m)]).run Tryz.prog w = .ok (.int .i64 T.length) w := by
  obtain ⟨p, a, d, SS, h1, _⟩ := h.ex
  rw [h1.len Tryz.underlying176 ty, mapT_size]
end
end Go.Proofs.YtempkjnaahgbhaaGreatDoor
namespace Go.Proofs.YtempkjnaahgbhaaGreatDoor
open Go Go.RowKit Go.Maps Go.Sort Go.Shelf

/-- What a call leaves that makes a store. -/
def ResT (w : World) (T : List Tr) (e : Ending) (w' : World) : Prop :=
  ∃ s m, e = .returned (.pointer (some ⟨s, 0, none⟩)) ∧ St w' s m T (fun k => w.heap.size ≤ k ∧ k < w'.heap.size) ∧ Below w.heap.size w w'

set_option maxRecDepth 100000 in
theorem snew_any (w : World) : Calls Tryz.prog 85 #[] w (ResT w []) := by
  have hmm := @run_makeMap Tryz.prog
  go_enter Tryz.func85, Tryz.ntmps85
  go_wp2_with fail
  go_ret
  refine ⟨w.heap.size + 1, w.heap.size, rfl, ⟨?_, ?_, ⟨by omega, by simp⟩, ⟨by omega, by simp <;> omega⟩, by omega, GrT.nil, fun k hk => hk.2⟩, ?_⟩
  · exact heap_at (by simp)
  · refine ⟨fun _ => 0, fun _ => 0, fun _ => 0, fun _ _ => False, ?_, by simp, by simp, by simp⟩
    have h := World.ownsMap_made w Tryz.prog 3 ptElem
    exact h.alloc _
  · exact ((Below.refl _ _).alloc (Nat.le_refl _) _).alloc (by simp) _

set_option maxRecDepth 100000 in
theorem smade_any {w : World} {s m : Nat} {T : List Tr} {S : Nat → Prop} (h : St w s m T S) :
    Calls Tryz.prog 116 #[.pointer (some ⟨s, 0, none⟩)] w fun e w' => e = .returned (.bool true) ∧ w = w' := by
  have hc := blk_cell h.hp
  have hq := fun W : World => run_neq_map_nil (P := Tryz.prog) W 176 _ _ (some m) Tryz.underlying176
  clear h
  go_enter Tryz.func116, Tryz.ntmps116
  go_wp2_with fail
  go_ret
  exact ⟨rfl, rfl⟩

/-- What a call leaves that makes numbers. -/
def ResNs (w : World) (l : List Int) (e : Ending) (w' : World) : Prop :=
  ∃ A c, e = .returned (.slice A l.length c) ∧ w'.ownsRow w.heap.size 3 1 (.slice A l.length c) l.length (l.map (Value.int .i64)) ∧ Below w.heap.size w w'

theorem sorts_any /- 145 -/ (n : Nat) : AnyZI.SortsIn Tryz.prog Tryz.sortedA_ren Fence.wide n :=
  ⟨fun blk off cap ss W hH hblk hsz => callsIn_wide.2 (AnyM.slices_Sort_int Tryz.sortA blk off cap ss W hH hblk hsz),
   fun p cap W => callsIn_wide.2 (AnyM.slices_Sort_int_none Tryz.sortA p cap W)⟩
theorem sorted_keys /- 145 -/ {p : Int → Nat} {T : List Tr} (h : SrtT T) {ss : List Int} (hp : ss.Perm (intKeys (mapT p T))) : ss.mergeSort (fun x y => decide (x ≤ y)) = trcT T := by
  have e : intKeys (mapT p T) = trcT T := by
    show (T.map (entT p)).map (fun q => Go.intOf q.1) = T.map Tr.tr
    rw [List.map_map]; rfl
  rw [e] at hp
  rw [mergeSort_of_perm_i hp]
  refine List.mergeSort_of_pairwise ?_
  exact (srt_keys.1 h).imp fun hlt => by simpa using Int.le_of_lt hlt

set_option maxRecDepth 100000 in
set_option maxHeartbeats 1000000 in
theorem numbers_any {w : World} {s m : Nat} {T : List Tr} {S : Nat → Prop} (h : St w s m T S) :
    Calls Tryz.prog 127 #[.map (some m)] w (ResNs w (trcT T)) := by
  obtain ⟨p, a, d, SS, hown, _⟩ := h.ex
  have hsrt := h.gr.srt
  have hlen := h.gr.len
  have hbl := hown.lt
  have hsz : Maps.size (mapT p T) ≤ 32 := by rw [mapT_size]; exact hlen
  refine (callsIn_wide (n := 6)).1 ?_
  have hseq : SeqGives Fence.wide 2 Tryz.prog 173 #[.pointer (some ⟨w.heap.size, 0, none⟩)] encZ (fun ss => ss.Perm (intKeys (mapT p T))) (Maps.size (mapT p T)) (w.alloc (.cells #[.map (some m)] 176)) :=
    AnyZI.keys_gives (ρ := Tryz.keysA_ren) { Tryz.keysA with } Fence.wide _ trivial rfl (by omega) w.heap.size m T.length (mapT p T) _ (by simp) (by simp) (hown.alloc _)
  have cK : ∀ mb W, CallsIn Fence.wide 5 Tryz.prog 160 #[.map mb] W fun e w' => e = .returned (.func (.func 173) #[] #[.pointer (some ⟨W.heap.size, 0, none⟩)]) ∧ w' = W.alloc (.cells #[.map mb] 176) := fun mb W => AnyZI.keys_in Tryz.keysA Fence.wide 5 trivial rfl mb W
  have cS := AnyZI.sorted_in Tryz.sortedA Fence.wide 5 trivial trivial trivial trivial rfl (by omega) (sorts_any _) (enters_of Tryz.func171 (by kernel_rfl) rfl) 173 #[.pointer (some ⟨w.heap.size, 0, none⟩)] trivial (enters_of Tryz.func173 (by kernel_rfl) rfl) _ _ (by unfold maxLen; omega) (by omega) _ hseq
  change CallsIn _ _ Tryz.prog 145 _ _ _ at cS
  have hfK : Fence.wide.fn 160 := trivial
  have hfS : Fence.wide.fn 145 := trivial
  refine callsIn_of_wp Tryz.func127 rfl trivial ?_ rfl
  simp only [Tryz.ntmps127, List.size_toArray, List.length_cons, List.length_nil, Nat.reduceAdd, Nat.reduceSub, Array.replicate_succ, Array.replicate_zero, List.push_toArray, List.append_toArray, List.nil_append, List.cons_append]
  clear hown h hseq
  gi_wp2_with (first
    | (gi_at_call 160; refine (cK _ _).mono ?_; rintro e w' ⟨rfl, rfl⟩)
    | (gi_at_call 145; refine cS.mono ?_; rintro e w' ⟨v, ss, rfl, hS, hrow, hnil, hb⟩))
  go_ret
  have hss := sorted_keys hsrt hS
  rw [hss] at hrow
  have hl : ss.length = (trcT T).length := by
    rw [← hss, List.length_mergeSort]
  rw [hl] at hrow
  have hrow2 := own_le (base' := w.heap.size) hrow (by simp)
  have hform : ∃ A c, v = .slice A (trcT T).length c := by
    rcases hrow.2 with ⟨hv, h0⟩ | ⟨g, cap, cur, hv, _⟩
    · exact ⟨none, 0, by rw [hv, h0]⟩
    · exact ⟨_, _, hv⟩
  obtain ⟨A, c, rfl⟩ := hform
  exact ⟨A, c, rfl, hrow2, ((Below.refl _ w).alloc (Nat.le_refl _) _).trans (hb.mono (by simp))⟩

set_option maxRecDepth 100000 in
theorem traces_any {w : World} {s m : Nat} {T : List Tr} {S : Nat → Prop} (h : St w s m T S) :
    Calls Tryz.prog 82 #[.pointer (some ⟨s, 0, none⟩)] w (ResNs w (trcT T)) := by
  have hc := blk_cell h.hp
  have HM := Lib.hid (smade_any h)
  have HN := Lib.hid (numbers_any h)
  clear h
  go_enter Tryz.func82, Tryz.ntmps82
  go_wp2_with fail
  refine HM.out.mono ?_
  rintro e w1 ⟨rfl, rfl⟩
  go_wp2_with fail
  refine HN.out.mono ?_
  rintro e w1 ⟨A, c, rfl, hown, hb⟩
  go_wp2_with fail
  go_ret
  exact ⟨A, c, rfl, hown, hb⟩

set_option maxRecDepth 100000 in
theorem lookup_any {w : World} {s m : Nat} {T : List Tr} {S : Nat → Prop} (h : St w s m T S) (x : Int) (hx : wfI x) :
    Calls Tryz.prog 98 #[.pointer (some ⟨s, 0, none⟩), .int .i64 x] w (ResBr w (lookT T x)) := by
  have hc := blk_cell h.hp
  have HM := Lib.hid (smade_any h)
  obtain ⟨v, hlk, hone⟩ := h.look hx
  have hl := hlk w rfl
  have HB : Hid (Calls Tryz.prog 144 #[v] w (ResBr w (lookT T x))) := Lib.hid (by
    unfold OneOf at hone
    unfold lookT
    cases hg : getT T x with
    | none =>
      rw [hg] at hone
      refine (branchesNo_any (w := w) (.inl hone)).mono ?_
      rintro e w' ⟨rfl, hw⟩
      subst hw
      exact ⟨none, 0, rfl, World.ownsRow_nil _ _ _ _, Below.refl _ _⟩
    | some L =>
      rw [hg] at hone
      obtain ⟨p, a, d, SS, rfl, hf, _⟩ := hone
      exact branches_any hf)
  clear h hlk hone
  generalize lookT T x = bs at *
  go_enter Tryz.func98, Tryz.ntmps98
  go_wp2_with fail
  refine HM.out.mono ?_
  rintro e w1 ⟨rfl, rfl⟩
  go_wp2_with fail
  refine HB.out.mono ?_
  rintro e w1 ⟨A, c, rfl, hown, hb⟩
  go_wp2_with fail
  go_ret
  exact ⟨A, c, rfl, hown, hb⟩
end Go.Proofs.YtempkjnaahgbhaaGreatDoor
namespace Go.Proofs.YtempkjnaahgbhaaGreatDoor
open Go Go.RowKit Go.Maps

/-- All of a store but the forest of trace x, whose pointer leads to block p0. -/
structure StX (w : World) (s m : Nat) (T : List Tr) (S : Nat → Prop) (x : Int) (p0 : Nat) (SX : Nat → Prop) : Prop where
  hp : w.heap[s]? = some (.cells #[.map (some m)] 178 (0, 0))
  ex : ∃ (p a d : Int → Nat) (SS : Int → Nat → Prop), p x = p0 ∧ w.ownsMap Tryz.prog 3 ptElem m T.length (mapT p T) ∧ (∀ t ∈ T, t.tr ≠ x → Fo w (p t.tr) (a t.tr) (d t.tr) t.tr t.L (SS t.tr)) ∧
    (∀ t ∈ T, t.tr ≠ x → ∀ k, SS t.tr k → S k ∧ k ≠ s ∧ k ≠ m ∧ ¬ SX k) ∧ (∀ t ∈ T, ∀ u ∈ T, t.tr ≠ x → u.tr ≠ x → t.tr ≠ u.tr → ∀ k, SS t.tr k → ¬ SS u.tr k)
  ss : S s
  sm : S m
  ne : s ≠ m
  sx : ¬ SX s ∧ ¬ SX m
  lt : ∀ k, S k → k < w.heap.size
section
variable {w w' : World} {s m p0 : Nat} {T : List Tr} {S S2 SX : Nat → Prop} {x : Int}
theorem StX.fr (h : StX w s m T S x p0 SX) (hf : Fr S2 w w') (hS : ∀ k, S k → ¬ SX k → ¬ S2 k) : StX w' s m T S x p0 SX := by
  obtain ⟨p, a, d, SS, h0, h1, h2, h3, h4⟩ := h.ex
  exact ⟨(hf.block s (h.lt s h.ss) (hS s h.ss h.sx.1)).trans h.hp, ⟨p, a, d, SS, h0, owns_eq h1 (hf.block m (h.lt m h.sm) (hS m h.sm h.sx.2)), fun t ht hx => (h2 t ht hx).fr hf (fun k hk => hS k (h3 t ht hx k hk).1 (h3 t ht hx k hk).2.2.2), h3, h4⟩, h.ss, h.sm, h.ne, h.sx, fun k hk => Nat.lt_of_lt_of_le (h.lt k hk) hf.size⟩
theorem StX.below {B : Nat} (h : StX w s m T S x p0 SX) (hb : Below B w w') (hB : w.heap.size ≤ B) : StX w' s m T S x p0 SX :=
  h.fr (S2 := fun _ => False) ⟨hb.os, hb.tape, hb.output, hb.size, fun k hk _ => hb.block k (by omega)⟩ (fun _ _ _ h => h)
/-- The forest is put back. -/
theorem StX.close (h : StX w s m T S x p0 SX) {a0 d0 B : Nat} {L : List Sp} {SX2 S3 : Nat → Prop} (hf : Fo w p0 a0 d0 x L SX2) (hg : GrT (setT T x L)) (h2 : ∀ k, SX2 k → SX k ∨ B ≤ k) (hB : ∀ k, S k → k < B) (h3 : ∀ k, S k → S3 k) (h4 : ∀ k, SX2 k → S3 k) (hl : ∀ k, S3 k → k < w.heap.size) : St w s m (setT T x L) S3 := by
  obtain ⟨p, a, d, SS, k0, k1, k2, k3, k4⟩ := h.ex
  have hno : ∀ t ∈ T, t.tr ≠ x → ∀ k, SS t.tr k → ¬ SX2 k := fun t ht hx k hk hs => by
    rcases h2 k hs with h | h
    · exact (k3 t ht hx k hk).2.2.2 h
    · have := hB k (k3 t ht hx k hk).1; omega
  have hsx : ∀ k, SX2 k → k ≠ s ∧ k ≠ m := fun k hk => by
    rcases h2 k hk with h1 | h1
    · exact ⟨fun e => h.sx.1 (e ▸ h1), fun e => h.sx.2 (e ▸ h1)⟩
    · have := hB s h.ss; have := hB m h.sm; omega
  refine ⟨h.hp, ⟨p, fun y => if y = x then a0 else a y, fun y => if y = x then d0 else d y, fun y => if y = x then SX2 else SS y, ?_, ?_, ?_, ?_⟩, h3 _ h.ss, h3 _ h.sm, h.ne, hg, hl⟩
  · rw [setT_len, mapT_set]; exact k1
  · intro t ht
    rcases setT_mem ht with ⟨hx, ht⟩ | ⟨rfl, _⟩
    · simp only [if_neg hx]; exact k2 t ht hx
    · simp only [if_true, k0]; exact hf
  · intro t ht k hk
    rcases setT_mem ht with ⟨hx, ht⟩ | ⟨rfl, _⟩
    · simp only [if_neg hx] at hk
      exact ⟨h3 _ (k3 t ht hx k hk).1, (k3 t ht hx k hk).2.1, (k3 t ht hx k hk).2.2.1⟩
    · simp only [if_true] at hk
      exact ⟨h4 k hk, hsx k hk⟩
  · intro t ht u hu htu k hk hk2
    rcases setT_mem ht with ⟨hx, ht⟩ | ⟨rfl, _⟩
    · simp only [if_neg hx] at hk
      rcases setT_mem hu with ⟨hx2, hu⟩ | ⟨rfl, _⟩
      · simp only [if_neg hx2] at hk2
        exact k4 t ht u hu hx hx2 htu k hk hk2
      · simp only [if_true] at hk2
        exact hno t ht hx k hk hk2
    · simp only [if_true] at hk
      rcases setT_mem hu with ⟨hx2, hu⟩ | ⟨rfl, _⟩
      · simp only [if_neg hx2] at hk2
        exact hno u hu hx2 k hk2 hk
      · exact htu rfl
/-- A forest that is there is taken out. -/
theorem St.take (h : St w s m T S) (hx : wfI x) {L : List Sp} (hg : getT T x = some L) : ∃ p0 a0 d0 SX, (∀ W : World, W.heap[m]? = w.heap[m]? → (Instr.lookup 176 (.map (some m)) (.int .i64 x) false).run Tryz.prog W = .ok (.pointer (some ⟨p0, 0, none⟩)) W) ∧
    Fo w p0 a0 d0 x L SX ∧ StX w s m T S x p0 SX ∧ ∀ k, SX k → S k := by
  obtain ⟨p, a, d, SS, h1, h2, h3, h4⟩ := h.ex
  have hm := getT_some hg
  have key : ∀ (W : World), W.heap[m]? = w.heap[m]? → ∃ v ps, (Instr.lookup 176 (.map (some m)) (.int .i64 x) false).run Tryz.prog W = .ok v W ∧ ptElem v = some ((mapT p T).atKey (.int .i64 x) (.held (.pointer none)), ps) := fun W he =>
    (owns_eq h1 he).lookup keyLaw Tryz.underlying176 (Tryz.zeroValue179 W) (zd := .held (.pointer none)) (zp := []) rfl (keyI hx)
  refine ⟨p x, a x, d x, SS x, fun W he => ?_, h2 _ hm, ⟨h.hp, ⟨p, a, d, SS, rfl, h1, fun t ht _ => h2 t ht, fun t ht hne k hk => ⟨(h3 t ht k hk).1, (h3 t ht k hk).2.1, (h3 t ht k hk).2.2, h4 t ht _ hm hne k hk⟩, fun t ht u hu _ _ => h4 t ht u hu⟩, h.ss, h.sm, h.ne, ⟨fun hk => (h3 _ hm s hk).2.1 rfl, fun hk => (h3 _ hm m hk).2.2 rfl⟩, h.lt⟩, fun k hk => (h3 _ hm k hk).1⟩
  obtain ⟨v, ps, hrun, hv⟩ := key W he
  rw [mapT_at, hg] at hv
  obtain ⟨b, rfl, hy⟩ := ptElem_inv hv
  simp only [Prod.mk.injEq, DataW.held.injEq, Value.pointer.injEq] at hy
  rw [hrun, ← hy.1]
/-- A new forest is laid into the map. -/
theorem St.addNew (h : St w s m T S) (hx : wfI x) (hg : getT T x = none) {w1 : World} (hb : Below w.heap.size w w1) {p0 a0 d0 : Nat} {L0 : List Sp} (hf : Fo w1 p0 a0 d0 x L0 SX) (hSX : ∀ k, SX k → w.heap.size ≤ k) :
    ∃ w2, (Instr.mapUpdate 176 (.map (some m)) (.int .i64 x) (.pointer (some ⟨p0, 0, none⟩))).run Tryz.prog w1 = .ok () w2 ∧ Fr (fun k => k = m) w1 w2 ∧ w2.heap.size = w1.heap.size ∧ Fo w2 p0 a0 d0 x L0 SX ∧ StX w2 s m (insT T ⟨x, []⟩) S x p0 SX := by
  obtain ⟨p, a, d, SS, h1, h2, h3, h4⟩ := h.ex
  have hno := getT_none hg
  have hml := h.lt m h.sm
  have hlen := h.gr.len
  have hcg : mapT p T = mapT (fun y => if y = x then p0 else p y) T := mapT_congr fun t ht => by rw [if_neg (hno t ht)]
  have h1b : w1.ownsMap Tryz.prog 3 ptElem m T.length (mapT (fun y => if y = x then p0 else p y) T) := by
    rw [← hcg]; exact owns_eq h1 (hb.block m hml)
  obtain ⟨w2, hrun, hown, ht⟩ := h1b.store keyLaw Tryz.underlying176 (by unfold maxLen; omega) (keyI hx) (val := .pointer (some ⟨p0, 0, none⟩)) (d := .held (.pointer (some ⟨p0, 0, none⟩))) (ps := []) rfl
  have hput : (mapT (fun y => if y = x then p0 else p y) T).put (.int .i64 x) (.held (.pointer (some ⟨p0, 0, none⟩))) = mapT (fun y => if y = x then p0 else p y) (insT T ⟨x, []⟩) := by
    have := mapT_put (p := fun y => if y = x then p0 else p y) (t := ⟨x, []⟩) hno
    simpa using this
  rw [hput] at hown
  have hf2 : Fr (fun k => k = m) w1 w2 := Fr.of_grown ht.grown (fun k hk => (Option.some.inj hk).symm)
  have hz : w2.heap.size = w1.heap.size := by
    obtain ⟨es, clock, es', clock', _, rfl⟩ := ht; simp [ChangeMaps.setBlock]
  have hmx : ¬ SX m := fun hk => by have := hSX m hk; omega
  have hsx : ¬ SX s := fun hk => by have := hSX s hk; have := h.lt s h.ss; omega
  refine ⟨w2, hrun, hf2, hz, hf.fr hf2 (fun k hk e => hmx (by rw [← e]; exact hk)), ⟨?_, ⟨fun y => if y = x then p0 else p y, a, d, SS, by simp, by rw [insT_len]; exact hown, ?_, ?_, ?_⟩, h.ss, h.sm, h.ne, ⟨hsx, hmx⟩, fun k hk => ?_⟩⟩
  · exact (hf2.block s (by have := h.lt s h.ss; have := hb.size; omega) h.ne).trans ((hb.block s (h.lt s h.ss)).trans h.hp)
  · intro t ht hne
    rcases insT_mem.1 ht with rfl | ht
    · exact absurd rfl hne
    · simp only [if_neg hne]
      exact ((h2 t ht).below hb (Nat.le_refl _)).fr hf2 (fun k hk e => (h3 t ht k hk).2.2 e)
  · intro t ht hne k hk
    rcases insT_mem.1 ht with rfl | ht
    · exact absurd rfl hne
    · exact ⟨(h3 t ht k hk).1, (h3 t ht k hk).2.1, (h3 t ht k hk).2.2, fun hs => by have := hSX k hs; have := h.lt k (h3 t ht k hk).1; omega⟩
  · intro t ht u hu h5 h6 h7
    rcases insT_mem.1 ht with rfl | ht
    · exact absurd rfl h5
    · rcases insT_mem.1 hu with rfl | hu
      · exact absurd rfl h6
      · exact h4 t ht u hu h7
  · have := h.lt k hk; have := hb.size; omega
end
theorem setT_ins {T : List Tr} {x : Int} (hn : getT T x = none) (L0 L : List Sp) : setT (insT T ⟨x, L0⟩) x L = insT T ⟨x, L⟩ := by
  have h := getT_none hn
  clear hn
  unfold setT
  induction T with
  | nil => simp [insT]
  | cons u T ih =>
    have hu := h u (by simp)
    have hT : T.map (fun t => if t.tr = x then (⟨x, L⟩ : Tr) else t) = T := by
      conv => rhs; rw [← List.map_id T]
      refine List.map_congr_left fun t ht => ?_
      rw [if_neg (h t (by simp [ht]))]; rfl
    rw [insT, insT]
    by_cases hlt : x < u.tr
    · rw [if_pos hlt, if_pos hlt, List.map_cons, List.map_cons, if_pos rfl, if_neg hu, hT]
    · rw [if_neg hlt, if_neg hlt, List.map_cons, if_neg hu, ih (fun t ht => h t (by simp [ht]))]
end Go.Proofs.YtempkjnaahgbhaaGreatDoor
