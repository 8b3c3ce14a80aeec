/-
  Words for memory: a slice value that reads as a list of cells (nil let in), and what keeps it. No condition: plain lemmas.
  The plain side: spans, their bytes, which may be. No condition: definitions and lemmas on numbers and lists, no program in sight.
  A number's groups of seven bits, the highest one first: the plain side. No condition.
-/
import Derived.WalkKit
import Derived.WalkSpells
import Derived.WalkLawsBesides
import Derived.Lib.Hide
import Derived.Lib.AppendStr
import Derived.Lib.ConvBytes
import Derived.Maps.AppendAt
import Derived.Deep.Draws
import Derived.Deep.QuietTactic
import Derived.BigQuiet
namespace Go.Proofs.YtempkjnaahgbhaaGreatDoor
open Go.RowKit

/-- The slice with address A and n elements of sz cells each reads as the cells xs; it lies below block B. -/
def Rd (w : World) (B sz : Nat) (A : Option Addr) (n : Nat) (xs : List Value) : Prop :=
  xs.length = n * sz ∧ (0 < n → ∃ b off, A = some ⟨b, off, none⟩ ∧ b < B ∧ ∀ j (h : j < xs.length), w.cell? ⟨b, off + j, none⟩ = some xs[j])

section
variable {w w' : World} {B B' sz n : Nat} {A : Option Addr} {xs : List Value}
theorem Rd.nil : Rd w B sz A 0 [] := ⟨by simp, fun h => absurd h (by omega)⟩
theorem Rd.keep (h : Rd w B sz A n xs) (hk : ∀ p : Addr, p.block < B → w'.cell? p = w.cell? p) (hB : B ≤ B') : Rd w' B' sz A n xs :=
  ⟨h.1, fun hn => by
    obtain ⟨b, off, e, hb, hc⟩ := h.2 hn
    exact ⟨b, off, e, by omega, fun j hj => (hk _ hb).trans (hc j hj)⟩⟩
theorem Rd.more (h : Rd w B sz A n xs) (hB : B ≤ B') : Rd w B' sz A n xs := h.keep (fun _ _ => rfl) hB
theorem Rd.below (h : Rd w B sz A n xs) (hb : Below B w w') (hB : B ≤ B') : Rd w' B' sz A n xs := h.keep (fun _ hp => hb.cell hp) hB
theorem Rd.below' {C : Nat} (h : Rd w B sz A n xs) (hb : Below C w w') (hC : B ≤ C) (hB : B ≤ B') : Rd w' B' sz A n xs := h.below (hb.mono hC) hB
theorem Rd.drew (h : Rd w B sz A n xs) : Rd w.drew B sz A n xs := h
theorem Rd.drewN (h : Rd w B sz A n xs) (k : Nat) : Rd (w.drewN k) B sz A n xs := h
theorem Rd.alloc (h : Rd w B sz A n xs) (o : Obj) (hB : B ≤ w.heap.size) (hB' : B ≤ B') : Rd (w.alloc o) B' sz A n xs := h.below' ((Below.refl w.heap.size w).alloc (Nat.le_refl _) o) hB hB'
theorem Rd.at_ {k : Nat} (h : Rd w B 1 A n xs) (hk : k < n) (hl : k < xs.length) : ∃ b off, A = some ⟨b, off, none⟩ ∧ b < B ∧ w.cell? ⟨b, off + k, none⟩ = some xs[k] := by
  obtain ⟨b, off, e, hb, hc⟩ := h.2 (by omega)
  exact ⟨b, off, e, hb, hc k hl⟩
theorem Rd.of_own {base : Nat} {e : TypeId} {c : Nat} (h : w.ownsRow base e sz (.slice A n c) n xs) : Rd w w.heap.size sz A n xs := by
  refine ⟨h.1, fun hn => ?_⟩
  rcases h.2 with ⟨h1, h2⟩ | ⟨g, cap, cur, hv, _, hh, _, _, hcs, ht⟩
  · omega
  · injection hv with ha
    refine ⟨g, 0, ha, (Array.getElem?_eq_some_iff.1 hh).1, fun j hj => ?_⟩
    have hc := World.ownsRow.cells h (g := g) (by rw [ha]; rfl) j xs[j] (List.getElem?_eq_getElem hj)
    rw [Addr.add_lit] at hc
    exact hc
theorem Rd.of_block {g : Nat} {t : TypeId} {fr : Nat × Nat} {cs : Array Value} (h : w.heap[g]? = some (.cells cs t fr)) (hx : xs.length = n * sz) (hc : ∀ j (h : j < xs.length), cs[j]? = some xs[j]) :
    Rd w w.heap.size sz (some ⟨g, 0, none⟩) n xs := by
  refine ⟨hx, fun _ => ⟨g, 0, rfl, (Array.getElem?_eq_some_iff.1 h).1, fun j hj => ?_⟩⟩
  rw [Nat.zero_add, cell_of_row w g j cs t fr h]
  exact hc j hj
theorem Rd.of_off {g off : Nat} {t : TypeId} {fr : Nat × Nat} {cs : Array Value} (h : w.heap[g]? = some (.cells cs t fr)) (hB : g < B) (hx : xs.length = n * sz) (hd : cs.toList.drop off = xs) : Rd w B sz (some ⟨g, off, none⟩) n xs := by
  refine ⟨hx, fun _ => ⟨g, off, rfl, hB, fun j hj => ?_⟩⟩
  subst hd
  rw [cell_of_row w g (off + j) cs t fr h]
  simp at hj ⊢
theorem Rd.cut (h : Rd w B sz A n xs) {k cap : Nat} (hk : k ≤ n) (hc : n ≤ cap) :
    Rd w B sz (if cap = k then A else A.map (·.add (k * sz))) (n - k) (xs.drop (k * sz)) := by
  refine ⟨by rw [List.length_drop, h.1, Nat.sub_mul], fun hn => ?_⟩
  obtain ⟨b, off, rfl, hb, hcell⟩ := h.2 (by omega)
  rw [if_neg (by omega)]
  refine ⟨b, off + k * sz, by simp [Addr.add_lit], hb, fun j hj => ?_⟩
  have hl : k * sz + j < xs.length := by simp at hj; omega
  have := hcell (k * sz + j) hl
  rw [← Nat.add_assoc] at this
  rw [this]; simp
theorem Rd.take (h : Rd w B sz A n xs) {k : Nat} (hk : k ≤ n) : Rd w B sz A k (xs.take (k * sz)) := by
  have hle : k * sz ≤ n * sz := Nat.mul_le_mul_right _ hk
  refine ⟨by rw [List.length_take, h.1]; omega, fun hn => ?_⟩
  obtain ⟨b, off, rfl, hb, hcell⟩ := h.2 (by omega)
  refine ⟨b, off, rfl, hb, fun j hj => ?_⟩
  have hl : j < xs.length := by simp at hj; omega
  rw [hcell j hl]; simp
end

section
variable {P : Program} (w : World)

theorem run_append_of_nil (base : Nat) (t ty e : TypeId) (i : TypeInfo) (size : Nat) (ht : P.underlying t = some (.slice e)) (hi : P.info? e = some i)
    (v : Value) (n : Nat) (xs : List Value) (hown : w.ownsRow base e size v n xs) (c : Nat) : (Builtin.append_ #[t, t] ty #[v, .slice none 0 c]).run P w = .ok v w := by
  rcases hown.2 with ⟨rfl, rfl⟩ | ⟨g, cap, cur, rfl, _, _, hnc, _⟩
  · simp [Builtin.append_, run_underlying ht, sizeOf, typeInfo, hi, Builtin.lenOf, Builtin.firstCells]
  · simp [Builtin.append_, run_underlying ht, sizeOf, typeInfo, hi, Builtin.lenOf, Builtin.firstCells, hnc, storeCells]

/-- append onto a slice of the call's own, the source any slice that reads as a list. -/
theorem run_append_any (base : Nat) (t ty e : TypeId) (i : TypeInfo) (z : Value) (size bytes : Nat) (ht : P.underlying t = some (.slice e)) (hi : P.info? e = some i) (hz : i.zero = some z)
    (hsize : i.size = size) (hby : i.bytes = bytes) (hzs : z.cells.size = size) (hsz : 0 < size)
    (v : Value) (n : Nat) (xs : List Value) (hown : w.ownsRow base e size v n xs)
    (B : Nat) (A : Option Addr) (m c : Nat) (news : List Value) (hr : Rd w B size A m news) (h1 : ∀ u ∈ news, u.oneCell' = true)
    (h63 : n + m ≤ maxLen) (hbytes : (n + m) * bytes ≤ 140737488355328) (hbase : base ≤ w.heap.size) :
    ∃ v' w', (Builtin.append_ #[t, t] ty #[v, .slice A m c]).run P w = .ok v' w' ∧ w'.ownsRow base e size v' (n + m) (xs ++ news) ∧ w.grownBy w' v.ownBlock ∧
      (v'.ownBlock = v.ownBlock ∨ v'.ownBlock = some w.heap.size) := by
  rcases A with _ | ad
  · have hm : m = 0 := by
      rcases Nat.eq_zero_or_pos m with h0 | h0
      · exact h0
      · obtain ⟨b, off, h, _⟩ := hr.2 h0
        cases h
    subst hm
    have hn : news = [] := List.eq_nil_of_length_eq_zero (by simpa using hr.1)
    subst hn
    exact ⟨v, w, run_append_of_nil w base t ty e i size ht hi v n xs hown c, by simpa using hown, World.grownBy.refl w _, .inl rfl⟩
  · have hcells : ∀ j u, news[j]? = some u → w.cell? (ad.add j) = some u := by
      intro j u hu
      rcases Nat.eq_zero_or_pos m with h0 | h0
      · subst h0
        have hn : news = [] := List.eq_nil_of_length_eq_zero (by simpa using hr.1)
        subst hn
        simp at hu
      · obtain ⟨b, off, h, _, hc⟩ := hr.2 h0
        injection h with h
        subst h
        obtain ⟨hj, rfl⟩ := List.getElem?_eq_some_iff.1 hu
        rw [Addr.add_lit]
        exact hc j hj
    obtain ⟨v', w', hrun, h2, h3, _, h5⟩ := run_append_own_at (P := P) w base t ty e i z size bytes ht hi hz hsize hby hzs hsz v n xs hown ad m c news hr.1 hcells h1 h63 hbytes hbase
    exact ⟨v', w', hrun, h2, h3, h5⟩

/-- The new value written out. -/
theorem run_app (base : Nat) (t ty e : TypeId) (i : TypeInfo) (z : Value) (size bytes : Nat) (ht : P.underlying t = some (.slice e)) (hi : P.info? e = some i) (hz : i.zero = some z)
    (hsize : i.size = size) (hby : i.bytes = bytes) (hzs : z.cells.size = size) (hsz : 0 < size)
    (A0 : Option Addr) (n c0 : Nat) (xs : List Value) (hown : w.ownsRow base e size (.slice A0 n c0) n xs)
    (B : Nat) (A : Option Addr) (m c : Nat) (news : List Value) (hr : Rd w B size A m news) (h1 : ∀ u ∈ news, u.oneCell' = true)
    (h63 : n + m ≤ maxLen) (hbytes : (n + m) * bytes ≤ 140737488355328) (hbase : base ≤ w.heap.size) :
    ∃ A' c' w', (Builtin.append_ #[t, t] ty #[.slice A0 n c0, .slice A m c]).run P w = .ok (.slice A' (n + m) c') w' ∧ w'.ownsRow base e size (.slice A' (n + m) c') (n + m) (xs ++ news) ∧
      w.grownBy w' (A0.map (·.block)) ∧ (A'.map (·.block) = A0.map (·.block) ∨ A'.map (·.block) = some w.heap.size) := by
  obtain ⟨v', w', hrun, h2, h3, h4⟩ := run_append_any (P := P) w base t ty e i z size bytes ht hi hz hsize hby hzs hsz _ n xs hown B A m c news hr h1 h63 hbytes hbase
  have ob : ∀ (A : Option Addr) (k c : Nat), Value.ownBlock (.slice A k c) = A.map (·.block) := by intro A k c; cases A <;> rfl
  rcases h2.2 with ⟨rfl, hnm⟩ | ⟨g, cap, cur, rfl, _⟩
  · refine ⟨none, 0, w', by rw [hrun, hnm], by rw [hnm] at h2 ⊢; exact h2, by rw [← ob A0 n c0]; exact h3, by rw [← ob A0 n c0]; exact h4⟩
  · exact ⟨_, _, w', hrun, h2, by rw [← ob A0 n c0]; exact h3, by rw [← ob A0 n c0]; exact h4⟩

/-- The same at the operation, for the walk. -/
theorem wpList_app {ops : Array Oper} {rest : List Oper} {o : Oper} {a : Act} {Q : Exit → Act → World → Prop} (hgd : o.guard = none) (s x : Operand) (t : TypeId)
    (ho : o.op = .call { callee := .builtin .append, args := #[s, x], argTypes := #[t, t] })
    (base : Nat) (e : TypeId) (i : TypeInfo) (z : Value) (size bytes : Nat) (ht : P.underlying t = some (.slice e)) (hi : P.info? e = some i) (hz : i.zero = some z)
    (hsize : i.size = size) (hby : i.bytes = bytes) (hzs : z.cells.size = size) (hsz : 0 < size)
    (A0 : Option Addr) (n c0 : Nat) (xs : List Value) (hs : a.eval s = .slice A0 n c0) (hown : w.ownsRow base e size (.slice A0 n c0) n xs)
    (B : Nat) (A : Option Addr) (m c : Nat) (news : List Value) (hx : a.eval x = .slice A m c) (hr : Rd w B size A m news) (h1 : ∀ u ∈ news, u.oneCell' = true)
    (h63 : n + m ≤ maxLen) (hbytes : (n + m) * bytes ≤ 140737488355328) (hbase : base ≤ w.heap.size)
    (h : ∀ A' c' w', w'.ownsRow base e size (.slice A' (n + m) c') (n + m) (xs ++ news) → w.grownBy w' (A0.map (·.block)) → (A'.map (·.block) = A0.map (·.block) ∨ A'.map (·.block) = some w.heap.size) →
      wpList P ops Q rest (a.put o.dst (.slice A' (n + m) c')) w') : wpList P ops Q (o :: rest) a w := by
  refine wpList_plain hgd fun K hK => ?_
  obtain ⟨A', c', w', hrun, h2, h3, h4⟩ := run_app (P := P) w base t o.type e i z size bytes ht hi hz hsize hby hzs hsz A0 n c0 xs hown B A m c news hr h1 h63 hbytes hbase
  unfold Oper.wp execOp
  simp only [ho, resolve, invoke, builtin, Sem.run_bind, Sem.run_pure, Result.andThen_ok, List.map_toArray, List.map_cons, List.map_nil, hs, hx, hrun]
  exact hK _ _ (h A' c' w' h2 h3 h4)
end

theorem own_le {w : World} {base base' : Nat} {e : TypeId} {size : Nat} {v : Value} {n : Nat} {xs : List Value} (h : w.ownsRow base e size v n xs) (hb : base' ≤ base) : w.ownsRow base' e size v n xs := by
  refine ⟨h.1, ?_⟩
  rcases h.2 with hn | ⟨g, cap, cur, hv, hg, rest⟩
  · exact .inl hn
  · exact .inr ⟨g, cap, cur, hv, by omega, rest⟩

theorem own_new (w : World) (cs : Array Value) (e : TypeId) (n size : Nat) (hs : cs.size = n * size) (hn : n ≤ maxLen) (base : Nat) (hb : base ≤ w.heap.size) :
    (w.alloc (.cells cs e)).ownsRow base e size (.slice (some ⟨w.heap.size, 0, none⟩) n n) n cs.toList :=
  ⟨by simpa using hs, .inr ⟨w.heap.size, n, cs, rfl, hb, heap_alloc_new w _, Nat.le_refl _, hn, hs, by rw [List.take_of_length_le (by simp; omega)]⟩⟩
theorem own_form {w : World} {base : Nat} {e : TypeId} {size n c : Nat} {A : Option Addr} {xs : List Value} (h : w.ownsRow base e size (.slice A n c) n xs) (hn : 0 < n) : ∃ g, A = some ⟨g, 0, none⟩ ∧ base ≤ g ∧ g < w.heap.size := by
  rcases h.2 with ⟨_, h0⟩ | ⟨g, cap, cur, hv, hb, hg, _⟩
  · omega
  · injection hv with ha
    exact ⟨g, ha, hb, (Array.getElem?_eq_some_iff.1 hg).1⟩

theorem own_below {w w' : World} {base : Nat} {e : TypeId} {size : Nat} {v : Value} {n : Nat} {xs : List Value} (h : w.ownsRow base e size v n xs) (hb : Below w.heap.size w w') : w'.ownsRow base e size v n xs :=
  h.kept (row := none) ⟨hb.os, hb.tape, hb.output, hb.size, fun k hk _ => hb.block k hk⟩ (by cases v.ownBlock <;> simp)

/-- An owned row behind an append onto it: below the call's own blocks nothing has turned. -/
theorem below_app {b : Nat} {w0 w w' : World} {A0 : Option Addr} {e : TypeId} {size n c0 : Nat} {xs : List Value} (h : Below b w0 w) (hown : w.ownsRow b e size (.slice A0 n c0) n xs) (hg : w.grownBy w' (A0.map (·.block))) (hB : b ≤ w.heap.size) :
    Below b w0 w' := by
  refine h.grown hg hB fun k hk => ?_
  have := hown.lt k (by rw [← hk]; cases A0 <;> rfl)
  omega

/-! ### An operation whose run is known, taken at the place where the walk stands -/
section
variable {P : Program} {o : Oper} {a : Act} {K : Act → World → Prop} {Q : Exit → Act → World → Prop}
theorem upon_run {α : Type} {m : Sem α} {W w1 : World} {v : α} {f : α → World → Result Next} (h : Sem.run P m W = .ok v w1) (k : Oper.upon P o a K Q (f v w1)) :
    Oper.upon P o a K Q ((Sem.run P m W).andThen f) := by rw [h]; exact k

/-- make([]T, 0, c): nothing is owned yet. -/
theorem upon_make0 {W : World} (base : Nat) (t e : TypeId) (i : TypeInfo) (z : Value) (size : Nat) (ht : P.underlying t = some (.slice e)) (hi : P.info? e = some i) (hz : i.zero = some z) (hsize : i.size = size)
    {kl kc : IntKind} {c : Nat} (hbytes : i.bytes * c ≤ 281474976710656) (h63 : c ≤ maxLen) (hbase : base ≤ W.heap.size) {f : Value → World → Result Next}
    (k : ∀ w1, w1.ownsRow base e size (.slice (some ⟨W.heap.size, 0, none⟩) 0 c) 0 [] → W.grownBy w1 none → Oper.upon P o a K Q (f (.slice (some ⟨W.heap.size, 0, none⟩) 0 c) w1)) :
    Oper.upon P o a K Q ((Sem.run P (Instr.makeSlice t (.int kl 0) (.int kc (c : Int))) W).andThen f) := by
  obtain ⟨w', hr, h1, h2⟩ := run_make_own (P := P) W base t e i z size ht hi hz hsize kl kc c hbytes h63 hbase
  exact upon_run hr (k w' h1 h2)
theorem below_none {B : Nat} {w w' : World} (h : w.grownBy w' none) (hB : B ≤ w.heap.size) : Below B w w' := (Below.refl _ _).grown h hB (fun _ hk => by cases hk)

theorem below_bytesWorld (w : World) (e : TypeId) (s : ByteArray) : Below w.heap.size w (Lib.bytesWorld w e s) := by
  refine ⟨?_, ?_, ?_, ?_, fun k hk => Lib.bytesWorld_at_old w e s k hk⟩
  · simp [Lib.bytesWorld, World.freeze, World.alloc, World.drew, -World.alloc_eq, -World.drew_eq]
  · simp [Lib.bytesWorld, World.freeze, World.alloc, World.drew, -World.alloc_eq, -World.drew_eq]
  · simp [Lib.bytesWorld, World.freeze, World.alloc, World.drew, -World.alloc_eq, -World.drew_eq]
  · rw [Lib.bytesWorld_size]; omega

/-- []byte(s): a new slice that reads as the string's bytes. -/
theorem upon_conv_sb {W : World} {src dst e : TypeId} {s : ByteArray} {u : TypeDesc} (hs : P.underlying src = some u) (hd : P.underlying dst = some (.slice e)) (he : P.underlying e = some (.int .u8))
    {f : Value → World → Result Next}
    (k : ∀ cap w1, s.size ≤ cap → Below W.heap.size W w1 → W.heap.size < w1.heap.size → Rd w1 (W.heap.size + 1) 1 (some ⟨W.heap.size, 0, none⟩) s.size (Lib.strCells s) → Oper.upon P o a K Q (f (.slice (some ⟨W.heap.size, 0, none⟩) s.size cap) w1)) :
    Oper.upon P o a K Q ((Sem.run P (convert src dst (.string s)) W).andThen f) := by
  refine upon_run (Lib.run_convert_string_bytes W src dst e s hs hd he) (k _ _ (grownCap_ge _ _ _ _) (below_bytesWorld W e s) (by rw [Lib.bytesWorld_size]; omega) ?_)
  refine ⟨by rw [Lib.strCells_length]; omega, fun _ => ⟨W.heap.size, 0, rfl, by omega, fun j hj => ?_⟩⟩
  have hj' : j < s.size := by rw [Lib.strCells_length] at hj; exact hj
  have hj2 : j < s.data.toList.length := by simpa using hj'
  rw [Nat.zero_add, Lib.bytesWorld_cell W e s j hj']
  simp only [Lib.strCells, List.getElem_map, List.getD, List.getElem?_eq_getElem hj2, Option.getD_some]
end

theorem flat_len {α β : Type} (f : α → List β) (n : Nat) (hf : ∀ a, (f a).length = n) (l : List α) : (l.flatMap f).length = l.length * n := by
  induction l with
  | nil => simp
  | cons a l ih => rw [List.flatMap_cons, List.length_append, hf, ih, List.length_cons, Nat.succ_mul]; omega
theorem flat_at {α β : Type} (f : α → List β) (n : Nat) (hf : ∀ a, (f a).length = n) (l : List α) (k j : Nat) (hk : k < l.length) (hj : j < n) : (l.flatMap f)[k * n + j]? = (f l[k])[j]? := by
  induction l generalizing k with
  | nil => simp at hk
  | cons a l ih =>
    rw [List.flatMap_cons]
    cases k with
    | zero => rw [Nat.zero_mul, Nat.zero_add, List.getElem?_append_left (by rw [hf]; exact hj)]; rfl
    | succ k =>
      rw [List.getElem?_append_right (by rw [hf, Nat.succ_mul]; omega), hf, show (k + 1) * n + j - n = k * n + j by rw [Nat.succ_mul]; omega]
      exact ih k (by simpa using hk)
/-- The cells of element k of a slice of structs of sz cells. -/
theorem Rd.elem {α : Type} {f : α → List Value} {w : World} {B sz n : Nat} {A : Option Addr} {l : List α} (hf : ∀ a, (f a).length = sz) (h : Rd w B sz A n (l.flatMap f)) {k : Nat} (hk : k < n) (hl : k < l.length) :
    ∃ b off, A = some ⟨b, off, none⟩ ∧ b < B ∧ ∀ j, j < sz → w.cell? ⟨b, off + k * sz + j, none⟩ = (f l[k])[j]? := by
  obtain ⟨b, off, e, hb, hc⟩ := h.2 (by omega)
  refine ⟨b, off, e, hb, fun j hj => ?_⟩
  have hlen := flat_len f sz hf l
  have hle : k * sz + j < l.length * sz := Nat.lt_of_lt_of_le (by rw [Nat.succ_mul]; omega) (Nat.mul_le_mul_right sz (show k + 1 ≤ l.length by omega))
  rw [Nat.add_assoc, hc (k * sz + j) (by rw [hlen]; exact hle), ← List.getElem?_eq_getElem, flat_at f sz hf l k j hl hj]

/-- Steps of a chain of what stands below B. -/
theorem below_alloc {B : Nat} {a w : World} (hB : B ≤ a.heap.size) (h : Below B a w) (o : Obj) : Below B a (w.alloc o) := h.alloc (by have := h.size; omega) o
theorem below_step {B : Nat} {a w w' : World} (hB : B ≤ a.heap.size) (h : Below B a w) (hb : Below w.heap.size w w') : Below B a w' := h.trans (hb.mono (by have := h.size; omega))

/-- A block just laid, as a slice. -/
theorem Rd.new {w : World} {H : Nat} (hH : w.heap.size = H) {cs : Array Value} {t : TypeId} {fr : Nat × Nat} {xs : List Value} {n sz : Nat} (hx : xs.length = n * sz) (hc : ∀ j (h : j < xs.length), cs[j]? = some xs[j]) :
    Rd (w.alloc (.cells cs t fr)) (H + 1) sz (some ⟨H, 0, none⟩) n xs := by
  subst hH
  exact (Rd.of_block (heap_alloc_new w _) hx hc).more (by simp)
/-- A block that stands whole in the world before stands in the world behind. -/
theorem blk_below {w w1 : World} {B g : Nat} {cs : Array Value} {t : TypeId} {fr : Nat × Nat} (hb : Below B w w1) (hg : g < B) (h : w.heap[g]? = some (.cells cs t fr)) :
    w1.heap[g]? = some (.cells cs t fr) := (hb.block g hg).trans h
theorem heap_at {w : World} {o : Obj} {H : Nat} (hH : w.heap.size = H) : (w.alloc o).heap[H]? = some o := by subst hH; exact heap_alloc_new w o
theorem blk_set {w : World} {g : Nat} {cs : Array Value} {t : TypeId} {fr : Nat × Nat} (h : w.heap[g]? = some (.cells cs t fr)) (i : Nat) (u : Value) : (w.setCell ⟨g, i, none⟩ u).heap[g]? = some (.cells (cs.setIfInBounds i u) t fr) := by
  simp [World.setCell, Array.getElem?_modify, h]
theorem blk_frozen {w : World} {g : Nat} {cs : Array Value} {t : TypeId} (h : w.heap[g]? = some (.cells cs t (0, 0))) (i : Nat) : w.frozen? ⟨g, i, none⟩ = false := by simp [World.frozen?, h]
theorem drop_set {cs : Array Value} {q : Nat} {v : Value} {l : List Value} (hq : q < cs.size) (h : cs.toList.drop (q + 1) = l) : (cs.setIfInBounds q v).toList.drop q = v :: l := by
  rw [Array.toList_setIfInBounds, List.drop_eq_getElem_cons (by simpa using hq), List.getElem_set_self, List.drop_set_of_lt (by omega), h]
theorem blk_cell {w : World} {g : Nat} {cs : Array Value} {t : TypeId} {fr : Nat × Nat} (h : w.heap[g]? = some (.cells cs t fr)) : ∀ j, w.cell? ⟨g, j, none⟩ = cs[j]? := fun j => cell_of_row w g j cs t fr h
end Go.Proofs.YtempkjnaahgbhaaGreatDoor
namespace Go.Proofs.YtempkjnaahgbhaaGreatDoor
open Go.RowKit

/-- A span's six fields. -/
structure Sp where
  tr : Int
  id : Int
  pa : Int
  st : Int
  en : Int
  nm : ByteArray

/-- Does a number lie between two bounds? -/
def inB (lo hi : Int) (x : Int) : Bool := decide (lo ≤ x) && decide (x ≤ hi)
theorem inB_t {lo hi x : Int} (h1 : lo ≤ x) (h2 : x ≤ hi) : inB lo hi x = true := by simp [inB, h1, h2]
theorem inB_f {lo hi x : Int} (h : x < lo ∨ hi < x) : inB lo hi x = false := by
  simp [inB]; rcases h with h | h
  · intro h'; omega
  · intro _; omega
theorem inB_iff {lo hi x : Int} : inB lo hi x = true ↔ lo ≤ x ∧ x ≤ hi := by simp [inB]
def allIn (lo hi : Int) (zs : List Int) : Bool := zs.all (inB lo hi)
def allBytes (lo hi : Int) (zs : List UInt8) : Bool := zs.all (fun c => inB lo hi c.toNat)

/-- May a span be? -/
def Sp.ok (s : Sp) : Bool :=
  decide (1 ≤ s.nm.size) && decide (s.nm.size ≤ 32) && allBytes 33 126 s.nm.data.toList && allIn 1 1099511627776 [s.tr, s.id] && allIn 0 1099511627776 [s.pa, s.st, s.en] && decide (s.pa ≠ s.id) && decide (s.st ≤ s.en)
/-- The answer of Check. -/
def Sp.check (s : Sp) : Int := if s.ok then 0 else 30
theorem Sp.check_f {s : Sp} (h : s.ok = false) : s.check = 30 := by simp [Sp.check, h]
theorem Sp.check_t {s : Sp} (h : s.ok = true) : s.check = 0 := by simp [Sp.check, h]

/-- Its six cells, and it as a value. -/
def Sp.cells (s : Sp) : List Value := [.int .i64 s.tr, .int .i64 s.id, .int .i64 s.pa, .int .i64 s.st, .int .i64 s.en, .string s.nm]
abbrev Sp.val (s : Sp) : Value := .agg #[.int .i64 s.tr, .int .i64 s.id, .int .i64 s.pa, .int .i64 s.st, .int .i64 s.en, .string s.nm]

theorem ret_bool {a b : Bool} (h : a = b) : Ending.returned (.bool a) = .returned (.bool b) := by rw [h]
theorem ret_int {k : IntKind} {a b : Int} (h : a = b) : Ending.returned (.int k a) = .returned (.int k b) := by rw [h]
theorem all_take_succ {α : Type} (zs : List α) (p : α → Bool) (k : Nat) (h : k < zs.length) : (zs.take (k+1)).all p = ((zs.take k).all p && p zs[k]) := by
  rw [List.take_succ_eq_append_getElem h]; simp only [List.all_append, List.all_cons, List.all_nil, Bool.and_true]
theorem all_false_of {α : Type} (zs : List α) (p : α → Bool) (k : Nat) (h : k < zs.length) (hp : p zs[k] = false) : zs.all p = false := by
  rw [List.all_eq_false]; exact ⟨zs[k], List.getElem_mem h, by simp [hp]⟩
end Go.Proofs.YtempkjnaahgbhaaGreatDoor
namespace Go.Proofs.YtempkjnaahgbhaaGreatDoor

/-- The groups ahead of the last one, each with its mark. -/
def dhi (n : Nat) : List UInt8 := if n = 0 then [] else dhi (n / 128) ++ [UInt8.ofNat (n % 128 + 128)]
termination_by n
decreasing_by omega
/-- A number as bytes. -/
def digits (n : Nat) : List UInt8 := dhi (n / 128) ++ [UInt8.ofNat (n % 128)]
theorem dhi_zero : dhi 0 = [] := by rw [dhi]; simp
theorem dhi_pos {n : Nat} (h : 0 < n) : dhi n = dhi (n / 128) ++ [UInt8.ofNat (n % 128 + 128)] := by
  rw [dhi, if_neg (by omega)]
theorem dhi_len (k : Nat) : ∀ n, n < 128 ^ k → (dhi n).length ≤ k := by
  induction k with
  | zero => intro n h; obtain rfl : n = 0 := by simpa using h
            rw [dhi_zero]; simp
  | succ k ih =>
    intro n h
    by_cases h0 : n = 0
    · subst h0; rw [dhi_zero]; simp
    · rw [dhi_pos (by omega)]
      have := ih (n / 128) (by rw [Nat.div_lt_iff_lt_mul (by omega)]; rw [Nat.pow_succ] at h; exact h)
      simp; omega
theorem digits_len {n : Nat} (h : n < 9223372036854775808) : 1 ≤ (digits n).length ∧ (digits n).length ≤ 9 := by
  have := dhi_len 8 (n / 128) (by omega)
  simp [digits]; omega
end Go.Proofs.YtempkjnaahgbhaaGreatDoor
