/-
  The plain side of what is found of views; entries and views in memory. No condition.
-/
import Derived.Test.YtempkjnaahgbhaaGreatDoorEnD
import Derived.Test.YtempkjnaahgbhaaGreatDoorScanText
namespace Go.Proofs.YtempkjnaahgbhaaGreatDoor
open Go Go.RowKit

def sameE (a b : En) : Bool := decide (a.ix = b.ix) && decide (a.te = b.te) && decide (a.da = b.da)
/-- A view, what is asked of it. -/
structure Vw where
  ro : Int
  ht : Int
  co : Int
  ix : Int
  es : List En
instance : Inhabited En := ⟨⟨0, 0, []⟩⟩
instance : Inhabited Vw := ⟨⟨0, 0, 0, 0, []⟩⟩
def rightB (v : Vw) : Bool := decide (0 ≤ v.ix) && decide (v.ix ≤ 1099511627776) && decide (v.ix ≤ v.co) && decide (v.co ≤ 1099511627776) && decide (v.co - v.ix ≤ v.es.length)
/-- Are the entries at a place of one view unlike, where it is asked? -/
def unB (a b : Vw) (q : Int → En → En → Bool) (k : Nat) : Bool :=
  decide (0 ≤ a.ix - b.ix + k) && decide (a.ix - b.ix + k < b.es.length) && q (a.ix + k + 1) (a.es.getD k default) (b.es.getD (a.ix - b.ix + k).toNat default) && !sameE (a.es.getD k default) (b.es.getD (a.ix - b.ix + k).toNat default)
def pairB (a b : Vw) (q : Int → En → En → Bool) : Bool := (List.range a.es.length).any (unB a b q)
def qTerm : Int → En → En → Bool := fun _ x y => decide (x.te = y.te)
def qBoth (a b : Vw) : Int → En → En → Bool := fun i _ _ => decide (i ≤ a.co) && decide (i ≤ b.co)
def leadB (a b : Vw) : Bool := decide (a.ro = 2) && decide (b.ro = 2) && decide (a.ht = b.ht)
def twoL (a b : Vw) : List Int := (if leadB a b then [2] else []) ++ (if pairB a b qTerm then [3] else []) ++ (if pairB a b (qBoth a b) then [4] else [])
/-- What is found of two views, the second one behind the first. -/
def findK (l : List Vw) (i k : Nat) : List (Int × Int × Int) := if rightB (l.getD k default) then (twoL (l.getD i default) (l.getD k default)).map fun z => (z, (k : Int), (i : Int)) else []
def findI (l : List Vw) (i : Nat) : List (Int × Int × Int) := if rightB (l.getD i default) then (List.range i).flatMap (findK l i) else [(1, (i : Int), (i : Int))]
/-- What is found of views. -/
def lookL (l : List Vw) : List (Int × Int × Int) := (List.range l.length).flatMap (findI l)

theorem sameE_iff {a b : En} : sameE a b = true ↔ a.ix = b.ix ∧ a.te = b.te ∧ a.da = b.da := by
  unfold sameE; simp [and_assoc]
theorem sameE_refl (a : En) : sameE a a = true := sameE_iff.2 ⟨rfl, rfl, rfl⟩
theorem pairB_self (a : Vw) (q : Int → En → En → Bool) : pairB a a q = false := by
  unfold pairB
  rw [List.any_eq_false]
  intro k _
  unfold unB
  have e : (a.ix - a.ix + (k : Int)).toNat = k := by omega
  rw [e, sameE_refl]
  simp
theorem two_kinds {a : Vw} {z : Int} (h : z ∈ twoL a a) : z = 2 := by
  unfold twoL at h
  rw [pairB_self, pairB_self] at h
  by_cases hl : leadB a a = true
  · rw [if_pos hl] at h; simpa using h
  · rw [if_neg hl] at h; simp at h
theorem look_self {v : Vw} {f : Int × Int × Int} (h : f ∈ lookL [v, v]) : f.1 = 1 ∨ f.1 = 2 := by
  unfold lookL at h
  obtain ⟨i, hi, h⟩ := List.mem_flatMap.1 h
  have hi : i < 2 := by simpa using hi
  have hgi : ∀ j, j < 2 → ([v, v] : List Vw).getD j default = v := by
    intro j hj
    match j, hj with
    | 0, _ => rfl
    | 1, _ => rfl
  unfold findI at h
  rw [hgi i hi] at h
  by_cases hr : rightB v = true
  · rw [if_pos hr] at h
    obtain ⟨k, hk, h⟩ := List.mem_flatMap.1 h
    have hk : k < i := by simpa using hk
    unfold findK at h
    rw [hgi i hi, hgi k (by omega), if_pos hr] at h
    obtain ⟨z, hz, rfl⟩ := List.mem_map.1 h
    exact .inr (two_kinds hz)
  · rw [if_neg hr] at h
    simp only [List.mem_singleton] at h
    rw [h]; exact .inl rfl
theorem getD_app {l m : List Vw} {k : Nat} (h : k < l.length) : (l ++ m).getD k default = l.getD k default := by
  rw [List.getD_eq_getElem?_getD, List.getD_eq_getElem?_getD, List.getElem?_append_left h]
theorem flatMap_congr' {α β : Type} {l : List α} {f g : α → List β} (h : ∀ x ∈ l, f x = g x) : l.flatMap f = l.flatMap g := by
  induction l with
  | nil => rfl
  | cons a l ih => rw [List.flatMap_cons, List.flatMap_cons, h a (by simp), ih (fun x hx => h x (by simp [hx]))]
theorem look_app (l m : List Vw) : ∃ rest, lookL (l ++ m) = lookL l ++ rest := by
  unfold lookL
  rw [List.length_append, List.range_add, List.flatMap_append]
  refine ⟨_, congrArg (· ++ _) (flatMap_congr' fun i hi => ?_)⟩
  have hi : i < l.length := by simpa using hi
  unfold findI
  rw [getD_app hi]
  by_cases hr : rightB (l.getD i default) = true
  · rw [if_pos hr, if_pos hr]
    refine flatMap_congr' fun k hk => ?_
    have hk : k < i := by simpa using hk
    unfold findK
    rw [getD_app hi, getD_app (by omega)]
  · rw [if_neg hr, if_neg hr]
/-- As far as a row of views has come. -/
def lookTo (l : List Vw) (i : Nat) : List (Int × Int × Int) := (List.range i).flatMap (findI l)
def findTo (l : List Vw) (i k : Nat) : List (Int × Int × Int) := (List.range k).flatMap (findK l i)
theorem lookTo_succ (l : List Vw) (i : Nat) : lookTo l (i + 1) = lookTo l i ++ findI l i := by unfold lookTo; rw [List.range_succ, List.flatMap_append]; simp
theorem findTo_succ (l : List Vw) (i k : Nat) : findTo l i (k + 1) = findTo l i k ++ findK l i k := by unfold findTo; rw [List.range_succ, List.flatMap_append]; simp
theorem findI_right {l : List Vw} {i : Nat} (h : rightB (l.getD i default) = true) : findI l i = findTo l i i := if_pos h
theorem findI_wrong {l : List Vw} {i : Nat} (h : rightB (l.getD i default) = false) : findI l i = [(1, (i : Int), (i : Int))] := if_neg (by rw [h]; exact Bool.false_ne_true)
theorem twoL_len (a b : Vw) : (twoL a b).length ≤ 3 := by
  unfold twoL
  simp only [List.length_append]
  have : ∀ (c : Bool) (z : Int), (if c = true then [z] else []).length ≤ 1 := by intro c z; cases c <;> simp
  have h1 := this (leadB a b) 2
  have h2 := this (pairB a b qTerm) 3
  have h3 := this (pairB a b (qBoth a b)) 4
  omega
theorem findK_len (l : List Vw) (i k : Nat) : (findK l i k).length ≤ 3 := by
  unfold findK
  by_cases h : rightB (l.getD k default) = true
  · rw [if_pos h, List.length_map]; exact twoL_len _ _
  · rw [if_neg h]; simp
theorem flat_le {α β : Type} (l : List α) (f : α → List β) (n : Nat) (h : ∀ x ∈ l, (f x).length ≤ n) : (l.flatMap f).length ≤ l.length * n := by
  induction l with
  | nil => simp
  | cons a l ih =>
    have h1 := h a (by simp)
    have h2 := ih (fun x hx => h x (by simp [hx]))
    rw [List.flatMap_cons, List.length_append, List.length_cons, Nat.succ_mul]; omega
theorem findTo_len (l : List Vw) (i k : Nat) : (findTo l i k).length ≤ 3 * k := by
  have := flat_le (List.range k) (findK l i) 3 (fun x _ => findK_len l i x)
  rw [List.length_range] at this
  unfold findTo; omega
theorem findI_len (l : List Vw) (i : Nat) : (findI l i).length ≤ 3 * i + 1 := by
  by_cases h : rightB (l.getD i default) = true
  · rw [findI_right h]; have := findTo_len l i i; omega
  · rw [findI_wrong (by simpa using h)]; simp
theorem lookTo_len (l : List Vw) (i : Nat) : (lookTo l i).length ≤ i * (3 * i + 1) := by
  have := flat_le (List.range i) (findI l) (3 * i + 1) (fun x hx => by
    have h1 := findI_len l x
    have h2 : x < i := by simpa using hx
    omega)
  rw [List.length_range] at this
  exact this
theorem unB_all_succ (a b : Vw) (q : Int → En → En → Bool) (k : Nat) : (List.range (k + 1)).any (unB a b q) = ((List.range k).any (unB a b q) || unB a b q k) := by
  rw [List.range_succ, List.any_append]; simp
theorem pairB_t {a b : Vw} {q : Int → En → En → Bool} {k : Nat} (hk : k < a.es.length) (h : unB a b q k = true) : pairB a b q = true := List.any_eq_true.2 ⟨k, List.mem_range.2 hk, h⟩

theorem flat_take {α β : Type} (f : α → List β) (n : Nat) (hf : ∀ a, (f a).length = n) : ∀ (l : List α) (j : Nat), (l.take j).flatMap f = (l.flatMap f).take (j * n) := by
  intro l
  induction l with
  | nil => intro j; simp
  | cons a l ih =>
    intro j
    cases j with
    | zero => simp
    | succ j => rw [List.take_succ_cons, List.flatMap_cons, List.flatMap_cons, ih j, List.take_append, List.take_of_length_le (l := f a) (by rw [hf, Nat.succ_mul]; omega), hf, Nat.succ_mul, Nat.add_sub_cancel]
/-- An entry in memory. -/
structure EnV where
  ix : Int
  te : Int
  A : Option Addr
  n : Nat
  c : Nat
  da : List UInt8
def EnV.cells (e : EnV) : List Value := [.int .i64 e.ix, .int .i64 e.te, .slice e.A e.n e.c]
abbrev EnV.val (e : EnV) : Value := .agg #[.int .i64 e.ix, .int .i64 e.te, .slice e.A e.n e.c]
def EnV.en (e : EnV) : En := ⟨e.ix, e.te, e.da⟩
theorem EnV.cells_len (e : EnV) : e.cells.length = 3 := rfl
/-- A row that reads as entries. -/
def RdEn (w : World) (B : Nat) (A : Option Addr) (n : Nat) (es : List EnV) : Prop := Rd w B 3 A n (es.flatMap EnV.cells) ∧ ∀ e ∈ es, RdB w B e.A e.n e.da
theorem RdEn.len {w : World} {B n : Nat} {A : Option Addr} {es : List EnV} (h : RdEn w B A n es) : es.length = n := by
  have h1 := h.1.1
  rw [flat_len EnV.cells 3 EnV.cells_len] at h1
  omega
theorem RdEn.below {w w' : World} {B C : Nat} {A : Option Addr} {n : Nat} {es : List EnV} (h : RdEn w B A n es) (hb : Below C w w') (hB : B ≤ C) : RdEn w' B A n es :=
  ⟨h.1.below' hb hB (Nat.le_refl _), fun e he => (h.2 e he).below' hb hB (Nat.le_refl _)⟩
theorem RdEn.more {w : World} {B C : Nat} {A : Option Addr} {n : Nat} {es : List EnV} (h : RdEn w B A n es) (hB : B ≤ C) : RdEn w C A n es := ⟨h.1.more hB, fun e he => (h.2 e he).more hB⟩
theorem RdEn.at_ {w : World} {B n k : Nat} {A : Option Addr} {es : List EnV} (h : RdEn w B A n es) (hk : k < es.length) :
    ∃ b off, A = some ⟨b, off, none⟩ ∧ b < B ∧ w.cell? ⟨b, off + k * 3, none⟩ = some (.int .i64 es[k].ix) ∧ w.cell? ⟨b, off + k * 3 + 1, none⟩ = some (.int .i64 es[k].te) ∧ w.cell? ⟨b, off + k * 3 + 2, none⟩ = some (.slice es[k].A es[k].n es[k].c) ∧ RdB w B es[k].A es[k].n es[k].da := by
  obtain ⟨b, off, hA, hb, hc⟩ := Rd.elem EnV.cells_len h.1 (k := k) (by rw [← h.len]; exact hk) hk
  exact ⟨b, off, hA, hb, hc 0 (by omega), hc 1 (by omega), hc 2 (by omega), h.2 _ (List.getElem_mem hk)⟩
theorem RdEn.take {w : World} {B n k : Nat} {A : Option Addr} {es : List EnV} (h : RdEn w B A n es) (hk : k ≤ n) : RdEn w B A k (es.take k) := by
  refine ⟨?_, fun e he => h.2 e (List.mem_of_mem_take he)⟩
  have h1 := h.1.take hk
  rw [flat_take EnV.cells 3 EnV.cells_len]; exact h1
/-- A view in memory. -/
structure VwV where
  id : Int
  ro : Int
  le : Int
  ht : Int
  hv : Int
  co : Int
  ix : Int
  te : Int
  vA : Option Addr
  vn : Nat
  vc : Nat
  eA : Option Addr
  en : Nat
  ec : Nat
  es : List EnV
def VwV.cells (v : VwV) : List Value := [.int .i64 v.id, .int .i64 v.ro, .int .i64 v.le, .int .i64 v.ht, .int .i64 v.hv, .int .i64 v.co, .int .i64 v.ix, .int .i64 v.te, .slice v.vA v.vn v.vc, .slice v.eA v.en v.ec]
abbrev VwV.val (v : VwV) : Value := .agg #[.int .i64 v.id, .int .i64 v.ro, .int .i64 v.le, .int .i64 v.ht, .int .i64 v.hv, .int .i64 v.co, .int .i64 v.ix, .int .i64 v.te, .slice v.vA v.vn v.vc, .slice v.eA v.en v.ec]
theorem VwV.cells_len (v : VwV) : v.cells.length = 10 := rfl
def VwV.vw (v : VwV) : Vw := ⟨v.ro, v.ht, v.co, v.ix, v.es.map EnV.en⟩
def RdVw (w : World) (B : Nat) (A : Option Addr) (n : Nat) (vs : List VwV) : Prop := Rd w B 10 A n (vs.flatMap VwV.cells) ∧ ∀ v ∈ vs, RdEn w B v.eA v.en v.es
theorem RdVw.len {w : World} {B n : Nat} {A : Option Addr} {vs : List VwV} (h : RdVw w B A n vs) : vs.length = n := by
  have h1 := h.1.1
  rw [flat_len VwV.cells 10 VwV.cells_len] at h1
  omega
theorem RdVw.below {w w' : World} {B C : Nat} {A : Option Addr} {n : Nat} {vs : List VwV} (h : RdVw w B A n vs) (hb : Below C w w') (hB : B ≤ C) : RdVw w' B A n vs :=
  ⟨h.1.below' hb hB (Nat.le_refl _), fun v hv => (h.2 v hv).below hb hB⟩
theorem RdVw.at_ {w : World} {B n k : Nat} {A : Option Addr} {vs : List VwV} (h : RdVw w B A n vs) (hk : k < vs.length) :
    ∃ b off, A = some ⟨b, off, none⟩ ∧ b < B ∧ (∀ j, j < 10 → w.cell? ⟨b, off + k * 10 + j, none⟩ = (vs[k]).cells[j]?) ∧ RdEn w B vs[k].eA vs[k].en vs[k].es := by
  obtain ⟨b, off, hA, hb, hc⟩ := Rd.elem VwV.cells_len h.1 (k := k) (by rw [← h.len]; exact hk) hk
  exact ⟨b, off, hA, hb, hc, h.2 _ (List.getElem_mem hk)⟩
end Go.Proofs.YtempkjnaahgbhaaGreatDoor
