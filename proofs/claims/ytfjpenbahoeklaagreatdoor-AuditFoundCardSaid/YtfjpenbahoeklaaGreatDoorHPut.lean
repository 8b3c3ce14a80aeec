/-
  Words for memory: a slice value that reads as a list of cells (nil let in), and what keeps it. No condition: plain lemmas.
  The plain side: spans, their bytes, which may be. No condition: definitions and lemmas on numbers and lists, no program in sight.
  A number's groups of seven bits, the highest one first: the plain side. No condition.
  Slices of spans: what a span in memory reads as. No condition.
  The walk of wire.Join: all parts, one behind the other, in new memory. Conditions: the parts read as lists, together not longer than memory bears.
  The walk of wire.Number: it puts a number's groups behind bytes. Conditions: the bytes read as a list, not longer than memory bears; the number is an int.
  The walks of wire.Text and of the references' Digits, Number, Text: bytes behind bytes. Conditions: what comes in reads as a list, not longer than memory bears.
  Slices of numbers: what one in memory reads as. No condition.
  Words for memory: what stands but for some blocks. No condition: plain lemmas.
  The walks of wire.Over and of a Scan's methods: it reads bytes up to the first error. Conditions: the Scan lies in memory as Over made it.
  The walks of a Scan's Number, Text and End, and of Over. Conditions: the Scan lies in memory as Over made it.
  The walks of a Scan's Text and End, and of Over. Conditions: the Scan lies in memory as Over made it.
  The walks of span.within at int and at byte: whether all lie between two bounds. Conditions: the slice reads as a list, not longer than memory bears.
  The walk of span.Check: it answers OK just if the span may be; new memory alone is laid. Condition: the name is not longer than memory bears.
  The walks of span.put and span.Put: a span's bytes behind bytes. Conditions: what comes in reads as a list, not longer than memory bears; the span may be.
-/
import Derived.WalkKit
import Derived.WalkSpells
import Derived.WalkLawsBesides
import Derived.Lib.Hide
import Derived.Lib.AppendStr
import Derived.Lib.ConvBytes
import Derived.Maps.AppendAt
import Derived.Deep.Draws
import Derived.Deep.QuietTactic
import Derived.BigQuiet
import Derived.Test.YtfjpenbahoeklaaGreatDoorRows
import Derived.Laws.BitsAllLaws
namespace Go.Proofs.YtfjpenbahoeklaaGreatDoor
open Go.RowKit

/-- The slice with address A and n elements of sz cells each reads as the cells xs; it lies below block B. -/
def Rd (w : World) (B sz : Nat) (A : Option Addr) (n : Nat) (xs : List Value) : Prop :=
  xs.length = n * sz ∧ (0 < n → ∃ b off, A = some ⟨b, off, none⟩ ∧ b < B ∧ ∀ j (h : j < xs.length), w.cell? ⟨b, off + j, none⟩ = some xs[j])

section
variable {w w' : World} {B B' sz n : Nat} {A : Option Addr} {xs : List Value}
theorem Rd.nil : Rd w B sz A 0 [] := ⟨by simp, fun h => absurd h (by omega)⟩
theorem Rd.keep (h : Rd w B sz A n xs) (hk : ∀ p : Addr, p.block < B → w'.cell? p = w.cell? p) (hB : B ≤ B') : Rd w' B' sz A n xs :=
  ⟨h.1, fun hn => by
    obtain ⟨b, off, e, hb, hc⟩ := h.2 hn
    exact ⟨b, off, e, by omega, fun j hj => (hk _ hb).trans (hc j hj)⟩⟩
theorem Rd.more (h : Rd w B sz A n xs) (hB : B ≤ B') : Rd w B' sz A n xs := h.keep (fun _ _ => rfl) hB
theorem Rd.below (h : Rd w B sz A n xs) (hb : Below B w w') (hB : B ≤ B') : Rd w' B' sz A n xs := h.keep (fun _ hp => hb.cell hp) hB
theorem Rd.below' {C : Nat} (h : Rd w B sz A n xs) (hb : Below C w w') (hC : B ≤ C) (hB : B ≤ B') : Rd w' B' sz A n xs := h.below (hb.mono hC) hB
theorem Rd.drew (h : Rd w B sz A n xs) : Rd w.drew B sz A n xs := h
theorem Rd.drewN (h : Rd w B sz A n xs) (k : Nat) : Rd (w.drewN k) B sz A n xs := h
theorem Rd.alloc (h : Rd w B sz A n xs) (o : Obj) (hB : B ≤ w.heap.size) (hB' : B ≤ B') : Rd (w.alloc o) B' sz A n xs := h.below' ((Below.refl w.heap.size w).alloc (Nat.le_refl _) o) hB hB'
theorem Rd.at_ {k : Nat} (h : Rd w B 1 A n xs) (hk : k < n) (hl : k < xs.length) : ∃ b off, A = some ⟨b, off, none⟩ ∧ b < B ∧ w.cell? ⟨b, off + k, none⟩ = some xs[k] := by
  obtain ⟨b, off, e, hb, hc⟩ := h.2 (by omega)
  exact ⟨b, off, e, hb, hc k hl⟩
theorem Rd.of_own {base : Nat} {e : TypeId} {c : Nat} (h : w.ownsRow base e sz (.slice A n c) n xs) : Rd w w.heap.size sz A n xs := by
  refine ⟨h.1, fun hn => ?_⟩
  rcases h.2 with ⟨h1, h2⟩ | ⟨g, cap, cur, hv, _, hh, _, _, hcs, ht⟩
  · omega
  · injection hv with ha
    refine ⟨g, 0, ha, (Array.getElem?_eq_some_iff.1 hh).1, fun j hj => ?_⟩
    have hc := World.ownsRow.cells h (g := g) (by rw [ha]; rfl) j xs[j] (List.getElem?_eq_getElem hj)
    rw [Addr.add_lit] at hc
    exact hc
theorem Rd.of_block {g : Nat} {t : TypeId} {fr : Nat × Nat} {cs : Array Value} (h : w.heap[g]? = some (.cells cs t fr)) (hx : xs.length = n * sz) (hc : ∀ j (h : j < xs.length), cs[j]? = some xs[j]) :
    Rd w w.heap.size sz (some ⟨g, 0, none⟩) n xs := by
  refine ⟨hx, fun _ => ⟨g, 0, rfl, (Array.getElem?_eq_some_iff.1 h).1, fun j hj => ?_⟩⟩
  rw [Nat.zero_add, cell_of_row w g j cs t fr h]
  exact hc j hj
theorem Rd.of_off {g off : Nat} {t : TypeId} {fr : Nat × Nat} {cs : Array Value} (h : w.heap[g]? = some (.cells cs t fr)) (hB : g < B) (hx : xs.length = n * sz) (hd : cs.toList.drop off = xs) : Rd w B sz (some ⟨g, off, none⟩) n xs := by
  refine ⟨hx, fun _ => ⟨g, off, rfl, hB, fun j hj => ?_⟩⟩
  subst hd
  rw [cell_of_row w g (off + j) cs t fr h]
  simp at hj ⊢
theorem Rd.cut (h : Rd w B sz A n xs) {k cap : Nat} (hk : k ≤ n) (hc : n ≤ cap) :
    Rd w B sz (if cap = k then A else A.map (·.add (k * sz))) (n - k) (xs.drop (k * sz)) := by
  refine ⟨by rw [List.length_drop, h.1, Nat.sub_mul], fun hn => ?_⟩
  obtain ⟨b, off, rfl, hb, hcell⟩ := h.2 (by omega)
  rw [if_neg (by omega)]
  refine ⟨b, off + k * sz, by simp [Addr.add_lit], hb, fun j hj => ?_⟩
  have hl : k * sz + j < xs.length := by simp at hj; omega
  have := hcell (k * sz + j) hl
  rw [← Nat.add_assoc] at this
  rw [this]; simp
theorem Rd.take (h : Rd w B sz A n xs) {k : Nat} (hk : k ≤ n) : Rd w B sz A k (xs.take (k * sz)) := by
  have hle : k * sz ≤ n * sz := Nat.mul_le_mul_right _ hk
  refine ⟨by rw [List.length_take, h.1]; omega, fun hn => ?_⟩
  obtain ⟨b, off, rfl, hb, hcell⟩ := h.2 (by omega)
  refine ⟨b, off, rfl, hb, fun j hj => ?_⟩
  have hl : j < xs.length := by simp at hj; omega
  rw [hcell j hl]; simp
end

section
variable {P : Program} (w : World)

theorem run_append_of_nil (base : Nat) (t ty e : TypeId) (i : TypeInfo) (size : Nat) (ht : P.underlying t = some (.slice e)) (hi : P.info? e = some i)
    (v : Value) (n : Nat) (xs : List Value) (hown : w.ownsRow base e size v n xs) (c : Nat) : (Builtin.append_ #[t, t] ty #[v, .slice none 0 c]).run P w = .ok v w := by
  rcases hown.2 with ⟨rfl, rfl⟩ | ⟨g, cap, cur, rfl, _, _, hnc, _⟩
  · simp [Builtin.append_, run_underlying ht, sizeOf, typeInfo, hi, Builtin.lenOf, Builtin.firstCells]
  · simp [Builtin.append_, run_underlying ht, sizeOf, typeInfo, hi, Builtin.lenOf, Builtin.firstCells, hnc, storeCells]

/-- append onto a slice of the call's own, the source any slice that reads as a list. -/
theorem run_append_any (base : Nat) (t ty e : TypeId) (i : TypeInfo) (z : Value) (size bytes : Nat) (ht : P.underlying t = some (.slice e)) (hi : P.info? e = some i) (hz : i.zero = some z)
    (hsize : i.size = size) (hby : i.bytes = bytes) (hzs : z.cells.size = size) (hsz : 0 < size)
    (v : Value) (n : Nat) (xs : List Value) (hown : w.ownsRow base e size v n xs)
    (B : Nat) (A : Option Addr) (m c : Nat) (news : List Value) (hr : Rd w B size A m news) (h1 : ∀ u ∈ news, u.oneCell' = true)
    (h63 : n + m ≤ maxLen) (hbytes : (n + m) * bytes ≤ 140737488355328) (hbase : base ≤ w.heap.size) :
    ∃ v' w', (Builtin.append_ #[t, t] ty #[v, .slice A m c]).run P w = .ok v' w' ∧ w'.ownsRow base e size v' (n + m) (xs ++ news) ∧ w.grownBy w' v.ownBlock ∧
      (v'.ownBlock = v.ownBlock ∨ v'.ownBlock = some w.heap.size) := by
  rcases A with _ | ad
  · have hm : m = 0 := by
      rcases Nat.eq_zero_or_pos m with h0 | h0
      · exact h0
      · obtain ⟨b, off, h, _⟩ := hr.2 h0
        cases h
    subst hm
    have hn : news = [] := List.eq_nil_of_length_eq_zero (by simpa using hr.1)
    subst hn
    exact ⟨v, w, run_append_of_nil w base t ty e i size ht hi v n xs hown c, by simpa using hown, World.grownBy.refl w _, .inl rfl⟩
  · have hcells : ∀ j u, news[j]? = some u → w.cell? (ad.add j) = some u := by
      intro j u hu
      rcases Nat.eq_zero_or_pos m with h0 | h0
      · subst h0
        have hn : news = [] := List.eq_nil_of_length_eq_zero (by simpa using hr.1)
        subst hn
        simp at hu
      · obtain ⟨b, off, h, _, hc⟩ := hr.2 h0
        injection h with h
        subst h
        obtain ⟨hj, rfl⟩ := List.getElem?_eq_some_iff.1 hu
        rw [Addr.add_lit]
        exact hc j hj
    obtain ⟨v', w', hrun, h2, h3, _, h5⟩ := run_append_own_at (P := P) w base t ty e i z size bytes ht hi hz hsize hby hzs hsz v n xs hown ad m c news hr.1 hcells h1 h63 hbytes hbase
    exact ⟨v', w', hrun, h2, h3, h5⟩

/-- The new value written out. -/
theorem run_app (base : Nat) (t ty e : TypeId) (i : TypeInfo) (z : Value) (size bytes : Nat) (ht : P.underlying t = some (.slice e)) (hi : P.info? e = some i) (hz : i.zero = some z)
    (hsize : i.size = size) (hby : i.bytes = bytes) (hzs : z.cells.size = size) (hsz : 0 < size)
    (A0 : Option Addr) (n c0 : Nat) (xs : List Value) (hown : w.ownsRow base e size (.slice A0 n c0) n xs)
    (B : Nat) (A : Option Addr) (m c : Nat) (news : List Value) (hr : Rd w B size A m news) (h1 : ∀ u ∈ news, u.oneCell' = true)
    (h63 : n + m ≤ maxLen) (hbytes : (n + m) * bytes ≤ 140737488355328) (hbase : base ≤ w.heap.size) :
    ∃ A' c' w', (Builtin.append_ #[t, t] ty #[.slice A0 n c0, .slice A m c]).run P w = .ok (.slice A' (n + m) c') w' ∧ w'.ownsRow base e size (.slice A' (n + m) c') (n + m) (xs ++ news) ∧
      w.grownBy w' (A0.map (·.block)) ∧ (A'.map (·.block) = A0.map (·.block) ∨ A'.map (·.block) = some w.heap.size) := by
  obtain ⟨v', w', hrun, h2, h3, h4⟩ := run_append_any (P := P) w base t ty e i z size bytes ht hi hz hsize hby hzs hsz _ n xs hown B A m c news hr h1 h63 hbytes hbase
  have ob : ∀ (A : Option Addr) (k c : Nat), Value.ownBlock (.slice A k c) = A.map (·.block) := by intro A k c; cases A <;> rfl
  rcases h2.2 with ⟨rfl, hnm⟩ | ⟨g, cap, cur, rfl, _⟩
  · refine ⟨none, 0, w', by rw [hrun, hnm], by rw [hnm] at h2 ⊢; exact h2, by rw [← ob A0 n c0]; exact h3, by rw [← ob A0 n c0]; exact h4⟩
  · exact ⟨_, _, w', hrun, h2, by rw [← ob A0 n c0]; exact h3, by rw [← ob A0 n c0]; exact h4⟩

/-- The same at the operation, for the walk. -/
theorem wpList_app {ops : Array Oper} {rest : List Oper} {o : Oper} {a : Act} {Q : Exit → Act → World → Prop} (hgd : o.guard = none) (s x : Operand) (t : TypeId)
    (ho : o.op = .call { callee := .builtin .append, args := #[s, x], argTypes := #[t, t] })
    (base : Nat) (e : TypeId) (i : TypeInfo) (z : Value) (size bytes : Nat) (ht : P.underlying t = some (.slice e)) (hi : P.info? e = some i) (hz : i.zero = some z)
    (hsize : i.size = size) (hby : i.bytes = bytes) (hzs : z.cells.size = size) (hsz : 0 < size)
    (A0 : Option Addr) (n c0 : Nat) (xs : List Value) (hs : a.eval s = .slice A0 n c0) (hown : w.ownsRow base e size (.slice A0 n c0) n xs)
    (B : Nat) (A : Option Addr) (m c : Nat) (news : List Value) (hx : a.eval x = .slice A m c) (hr : Rd w B size A m news) (h1 : ∀ u ∈ news, u.oneCell' = true)
    (h63 : n + m ≤ maxLen) (hbytes : (n + m) * bytes ≤ 140737488355328) (hbase : base ≤ w.heap.size)
    (h : ∀ A' c' w', w'.ownsRow base e size (.slice A' (n + m) c') (n + m) (xs ++ news) → w.grownBy w' (A0.map (·.block)) → (A'.map (·.block) = A0.map (·.block) ∨ A'.map (·.block) = some w.heap.size) →
      wpList P ops Q rest (a.put o.dst (.slice A' (n + m) c')) w') : wpList P ops Q (o :: rest) a w := by
  refine wpList_plain hgd fun K hK => ?_
  obtain ⟨A', c', w', hrun, h2, h3, h4⟩ := run_app (P := P) w base t o.type e i z size bytes ht hi hz hsize hby hzs hsz A0 n c0 xs hown B A m c news hr h1 h63 hbytes hbase
  unfold Oper.wp execOp
  simp only [ho, resolve, invoke, builtin, Sem.run_bind, Sem.run_pure, Result.andThen_ok, List.map_toArray, List.map_cons, List.map_nil, hs, hx, hrun]
  exact hK _ _ (h A' c' w' h2 h3 h4)
end

theorem own_le {w : World} {base base' : Nat} {e : TypeId} {size : Nat} {v : Value} {n : Nat} {xs : List Value} (h : w.ownsRow base e size v n xs) (hb : base' ≤ base) : w.ownsRow base' e size v n xs := by
  refine ⟨h.1, ?_⟩
  rcases h.2 with hn | ⟨g, cap, cur, hv, hg, rest⟩
  · exact .inl hn
  · exact .inr ⟨g, cap, cur, hv, by omega, rest⟩

theorem own_new (w : World) (cs : Array Value) (e : TypeId) (n size : Nat) (hs : cs.size = n * size) (hn : n ≤ maxLen) (base : Nat) (hb : base ≤ w.heap.size) :
    (w.alloc (.cells cs e)).ownsRow base e size (.slice (some ⟨w.heap.size, 0, none⟩) n n) n cs.toList :=
  ⟨by simpa using hs, .inr ⟨w.heap.size, n, cs, rfl, hb, heap_alloc_new w _, Nat.le_refl _, hn, hs, by rw [List.take_of_length_le (by simp; omega)]⟩⟩
theorem own_form {w : World} {base : Nat} {e : TypeId} {size n c : Nat} {A : Option Addr} {xs : List Value} (h : w.ownsRow base e size (.slice A n c) n xs) (hn : 0 < n) : ∃ g, A = some ⟨g, 0, none⟩ ∧ base ≤ g ∧ g < w.heap.size := by
  rcases h.2 with ⟨_, h0⟩ | ⟨g, cap, cur, hv, hb, hg, _⟩
  · omega
  · injection hv with ha
    exact ⟨g, ha, hb, (Array.getElem?_eq_some_iff.1 hg).1⟩

theorem own_below {w w' : World} {base : Nat} {e : TypeId} {size : Nat} {v : Value} {n : Nat} {xs : List Value} (h : w.ownsRow base e size v n xs) (hb : Below w.heap.size w w') : w'.ownsRow base e size v n xs :=
  h.kept (row := none) ⟨hb.os, hb.tape, hb.output, hb.size, fun k hk _ => hb.block k hk⟩ (by cases v.ownBlock <;> simp)

/-- An owned row behind an append onto it: below the call's own blocks nothing has turned. -/
theorem below_app {b : Nat} {w0 w w' : World} {A0 : Option Addr} {e : TypeId} {size n c0 : Nat} {xs : List Value} (h : Below b w0 w) (hown : w.ownsRow b e size (.slice A0 n c0) n xs) (hg : w.grownBy w' (A0.map (·.block))) (hB : b ≤ w.heap.size) :
    Below b w0 w' := by
  refine h.grown hg hB fun k hk => ?_
  have := hown.lt k (by rw [← hk]; cases A0 <;> rfl)
  omega

/-! ### An operation whose run is known, taken at the place where the walk stands -/
section
variable {P : Program} {o : Oper} {a : Act} {K : Act → World → Prop} {Q : Exit → Act → World → Prop}
theorem upon_run {α : Type} {m : Sem α} {W w1 : World} {v : α} {f : α → World → Result Next} (h : Sem.run P m W = .ok v w1) (k : Oper.upon P o a K Q (f v w1)) :
    Oper.upon P o a K Q ((Sem.run P m W).andThen f) := by rw [h]; exact k

/-- make([]T, 0, c): nothing is owned yet. -/
theorem upon_make0 {W : World} (base : Nat) (t e : TypeId) (i : TypeInfo) (z : Value) (size : Nat) (ht : P.underlying t = some (.slice e)) (hi : P.info? e = some i) (hz : i.zero = some z) (hsize : i.size = size)
    {kl kc : IntKind} {c : Nat} (hbytes : i.bytes * c ≤ 281474976710656) (h63 : c ≤ maxLen) (hbase : base ≤ W.heap.size) {f : Value → World → Result Next}
    (k : ∀ w1, w1.ownsRow base e size (.slice (some ⟨W.heap.size, 0, none⟩) 0 c) 0 [] → W.grownBy w1 none → Oper.upon P o a K Q (f (.slice (some ⟨W.heap.size, 0, none⟩) 0 c) w1)) :
    Oper.upon P o a K Q ((Sem.run P (Instr.makeSlice t (.int kl 0) (.int kc (c : Int))) W).andThen f) := by
  obtain ⟨w', hr, h1, h2⟩ := run_make_own (P := P) W base t e i z size ht hi hz hsize kl kc c hbytes h63 hbase
  exact upon_run hr (k w' h1 h2)
theorem below_none {B : Nat} {w w' : World} (h : w.grownBy w' none) (hB : B ≤ w.heap.size) : Below B w w' := (Below.refl _ _).grown h hB (fun _ hk => by cases hk)

theorem below_bytesWorld (w : World) (e : TypeId) (s : ByteArray) : Below w.heap.size w (Lib.bytesWorld w e s) := by
  refine ⟨?_, ?_, ?_, ?_, fun k hk => Lib.bytesWorld_at_old w e s k hk⟩
  · simp [Lib.bytesWorld, World.freeze, World.alloc, World.drew, -World.alloc_eq, -World.drew_eq]
  · simp [Lib.bytesWorld, World.freeze, World.alloc, World.drew, -World.alloc_eq, -World.drew_eq]
  · simp [Lib.bytesWorld, World.freeze, World.alloc, World.drew, -World.alloc_eq, -World.drew_eq]
  · rw [Lib.bytesWorld_size]; omega

/-- []byte(s): a new slice that reads as the string's bytes. -/
theorem upon_conv_sb {W : World} {src dst e : TypeId} {s : ByteArray} {u : TypeDesc} (hs : P.underlying src = some u) (hd : P.underlying dst = some (.slice e)) (he : P.underlying e = some (.int .u8))
    {f : Value → World → Result Next}
    (k : ∀ cap w1, s.size ≤ cap → Below W.heap.size W w1 → W.heap.size < w1.heap.size → Rd w1 (W.heap.size + 1) 1 (some ⟨W.heap.size, 0, none⟩) s.size (Lib.strCells s) → Oper.upon P o a K Q (f (.slice (some ⟨W.heap.size, 0, none⟩) s.size cap) w1)) :
    Oper.upon P o a K Q ((Sem.run P (convert src dst (.string s)) W).andThen f) := by
  refine upon_run (Lib.run_convert_string_bytes W src dst e s hs hd he) (k _ _ (grownCap_ge _ _ _ _) (below_bytesWorld W e s) (by rw [Lib.bytesWorld_size]; omega) ?_)
  refine ⟨by rw [Lib.strCells_length]; omega, fun _ => ⟨W.heap.size, 0, rfl, by omega, fun j hj => ?_⟩⟩
  have hj' : j < s.size := by rw [Lib.strCells_length] at hj; exact hj
  have hj2 : j < s.data.toList.length := by simpa using hj'
  rw [Nat.zero_add, Lib.bytesWorld_cell W e s j hj']
  simp only [Lib.strCells, List.getElem_map, List.getD, List.getElem?_eq_getElem hj2, Option.getD_some]
end

theorem flat_len {α β : Type} (f : α → List β) (n : Nat) (hf : ∀ a, (f a).length = n) (l : List α) : (l.flatMap f).length = l.length * n := by
  induction l with
  | nil => simp
  | cons a l ih => rw [List.flatMap_cons, List.length_append, hf, ih, List.length_cons, Nat.succ_mul]; omega
theorem flat_at {α β : Type} (f : α → List β) (n : Nat) (hf : ∀ a, (f a).length = n) (l : List α) (k j : Nat) (hk : k < l.length) (hj : j < n) : (l.flatMap f)[k * n + j]? = (f l[k])[j]? := by
  induction l generalizing k with
  | nil => simp at hk
  | cons a l ih =>
    rw [List.flatMap_cons]
    cases k with
    | zero => rw [Nat.zero_mul, Nat.zero_add, List.getElem?_append_left (by rw [hf]; exact hj)]; rfl
    | succ k =>
      rw [List.getElem?_append_right (by rw [hf, Nat.succ_mul]; omega), hf, show (k + 1) * n + j - n = k * n + j by rw [Nat.succ_mul]; omega]
      exact ih k (by simpa using hk)
/-- The cells of element k of a slice of structs of sz cells. -/
theorem Rd.elem {α : Type} {f : α → List Value} {w : World} {B sz n : Nat} {A : Option Addr} {l : List α} (hf : ∀ a, (f a).length = sz) (h : Rd w B sz A n (l.flatMap f)) {k : Nat} (hk : k < n) (hl : k < l.length) :
    ∃ b off, A = some ⟨b, off, none⟩ ∧ b < B ∧ ∀ j, j < sz → w.cell? ⟨b, off + k * sz + j, none⟩ = (f l[k])[j]? := by
  obtain ⟨b, off, e, hb, hc⟩ := h.2 (by omega)
  refine ⟨b, off, e, hb, fun j hj => ?_⟩
  have hlen := flat_len f sz hf l
  have hle : k * sz + j < l.length * sz := Nat.lt_of_lt_of_le (by rw [Nat.succ_mul]; omega) (Nat.mul_le_mul_right sz (show k + 1 ≤ l.length by omega))
  rw [Nat.add_assoc, hc (k * sz + j) (by rw [hlen]; exact hle), ← List.getElem?_eq_getElem, flat_at f sz hf l k j hl hj]

/-- Steps of a chain of what stands below B. -/
theorem below_alloc {B : Nat} {a w : World} (hB : B ≤ a.heap.size) (h : Below B a w) (o : Obj) : Below B a (w.alloc o) := h.alloc (by have := h.size; omega) o
theorem below_step {B : Nat} {a w w' : World} (hB : B ≤ a.heap.size) (h : Below B a w) (hb : Below w.heap.size w w') : Below B a w' := h.trans (hb.mono (by have := h.size; omega))

/-- A block just laid, as a slice. -/
theorem Rd.new {w : World} {H : Nat} (hH : w.heap.size = H) {cs : Array Value} {t : TypeId} {fr : Nat × Nat} {xs : List Value} {n sz : Nat} (hx : xs.length = n * sz) (hc : ∀ j (h : j < xs.length), cs[j]? = some xs[j]) :
    Rd (w.alloc (.cells cs t fr)) (H + 1) sz (some ⟨H, 0, none⟩) n xs := by
  subst hH
  exact (Rd.of_block (heap_alloc_new w _) hx hc).more (by simp)
/-- A block that stands whole in the world before stands in the world behind. -/
theorem blk_below {w w1 : World} {B g : Nat} {cs : Array Value} {t : TypeId} {fr : Nat × Nat} (hb : Below B w w1) (hg : g < B) (h : w.heap[g]? = some (.cells cs t fr)) :
    w1.heap[g]? = some (.cells cs t fr) := (hb.block g hg).trans h
theorem heap_at {w : World} {o : Obj} {H : Nat} (hH : w.heap.size = H) : (w.alloc o).heap[H]? = some o := by subst hH; exact heap_alloc_new w o
theorem blk_set {w : World} {g : Nat} {cs : Array Value} {t : TypeId} {fr : Nat × Nat} (h : w.heap[g]? = some (.cells cs t fr)) (i : Nat) (u : Value) : (w.setCell ⟨g, i, none⟩ u).heap[g]? = some (.cells (cs.setIfInBounds i u) t fr) := by
  simp [World.setCell, Array.getElem?_modify, h]
theorem blk_frozen {w : World} {g : Nat} {cs : Array Value} {t : TypeId} (h : w.heap[g]? = some (.cells cs t (0, 0))) (i : Nat) : w.frozen? ⟨g, i, none⟩ = false := by simp [World.frozen?, h]
theorem drop_set {cs : Array Value} {q : Nat} {v : Value} {l : List Value} (hq : q < cs.size) (h : cs.toList.drop (q + 1) = l) : (cs.setIfInBounds q v).toList.drop q = v :: l := by
  rw [Array.toList_setIfInBounds, List.drop_eq_getElem_cons (by simpa using hq), List.getElem_set_self, List.drop_set_of_lt (by omega), h]
theorem blk_cell {w : World} {g : Nat} {cs : Array Value} {t : TypeId} {fr : Nat × Nat} (h : w.heap[g]? = some (.cells cs t fr)) : ∀ j, w.cell? ⟨g, j, none⟩ = cs[j]? := fun j => cell_of_row w g j cs t fr h
end Go.Proofs.YtfjpenbahoeklaaGreatDoor
namespace Go.Proofs.YtfjpenbahoeklaaGreatDoor
open Go.RowKit

/-- A span's six fields. -/
structure Sp where
  tr : Int
  id : Int
  pa : Int
  st : Int
  en : Int
  nm : ByteArray

/-- Does a number lie between two bounds? -/
def inB (lo hi : Int) (x : Int) : Bool := decide (lo ≤ x) && decide (x ≤ hi)
theorem inB_t {lo hi x : Int} (h1 : lo ≤ x) (h2 : x ≤ hi) : inB lo hi x = true := by simp [inB, h1, h2]
theorem inB_f {lo hi x : Int} (h : x < lo ∨ hi < x) : inB lo hi x = false := by
  simp [inB]; rcases h with h | h
  · intro h'; omega
  · intro _; omega
theorem inB_iff {lo hi x : Int} : inB lo hi x = true ↔ lo ≤ x ∧ x ≤ hi := by simp [inB]
def allIn (lo hi : Int) (zs : List Int) : Bool := zs.all (inB lo hi)
def allBytes (lo hi : Int) (zs : List UInt8) : Bool := zs.all (fun c => inB lo hi c.toNat)

/-- May a span be? -/
def Sp.ok (s : Sp) : Bool :=
  decide (1 ≤ s.nm.size) && decide (s.nm.size ≤ 32) && allBytes 33 126 s.nm.data.toList && allIn 1 1099511627776 [s.tr, s.id] && allIn 0 1099511627776 [s.pa, s.st, s.en] && decide (s.pa ≠ s.id) && decide (s.st ≤ s.en)
/-- The answer of Check. -/
def Sp.check (s : Sp) : Int := if s.ok then 0 else 30
theorem Sp.check_f {s : Sp} (h : s.ok = false) : s.check = 30 := by simp [Sp.check, h]
theorem Sp.check_t {s : Sp} (h : s.ok = true) : s.check = 0 := by simp [Sp.check, h]

/-- Its six cells, and it as a value. -/
def Sp.cells (s : Sp) : List Value := [.int .i64 s.tr, .int .i64 s.id, .int .i64 s.pa, .int .i64 s.st, .int .i64 s.en, .string s.nm]
abbrev Sp.val (s : Sp) : Value := .agg #[.int .i64 s.tr, .int .i64 s.id, .int .i64 s.pa, .int .i64 s.st, .int .i64 s.en, .string s.nm]

theorem ret_bool {a b : Bool} (h : a = b) : Ending.returned (.bool a) = .returned (.bool b) := by rw [h]
theorem ret_int {k : IntKind} {a b : Int} (h : a = b) : Ending.returned (.int k a) = .returned (.int k b) := by rw [h]
theorem all_take_succ {α : Type} (zs : List α) (p : α → Bool) (k : Nat) (h : k < zs.length) : (zs.take (k+1)).all p = ((zs.take k).all p && p zs[k]) := by
  rw [List.take_succ_eq_append_getElem h]; simp only [List.all_append, List.all_cons, List.all_nil, Bool.and_true]
theorem all_false_of {α : Type} (zs : List α) (p : α → Bool) (k : Nat) (h : k < zs.length) (hp : p zs[k] = false) : zs.all p = false := by
  rw [List.all_eq_false]; exact ⟨zs[k], List.getElem_mem h, by simp [hp]⟩
end Go.Proofs.YtfjpenbahoeklaaGreatDoor
namespace Go.Proofs.YtfjpenbahoeklaaGreatDoor

/-- The groups ahead of the last one, each with its mark. -/
def dhi (n : Nat) : List UInt8 := if n = 0 then [] else dhi (n / 128) ++ [UInt8.ofNat (n % 128 + 128)]
termination_by n
decreasing_by omega
/-- A number as bytes. -/
def digits (n : Nat) : List UInt8 := dhi (n / 128) ++ [UInt8.ofNat (n % 128)]
theorem dhi_zero : dhi 0 = [] := by rw [dhi]; simp
theorem dhi_pos {n : Nat} (h : 0 < n) : dhi n = dhi (n / 128) ++ [UInt8.ofNat (n % 128 + 128)] := by
  rw [dhi, if_neg (by omega)]
theorem dhi_len (k : Nat) : ∀ n, n < 128 ^ k → (dhi n).length ≤ k := by
  induction k with
  | zero => intro n h; obtain rfl : n = 0 := by simpa using h
            rw [dhi_zero]; simp
  | succ k ih =>
    intro n h
    by_cases h0 : n = 0
    · subst h0; rw [dhi_zero]; simp
    · rw [dhi_pos (by omega)]
      have := ih (n / 128) (by rw [Nat.div_lt_iff_lt_mul (by omega)]; rw [Nat.pow_succ] at h; exact h)
      simp; omega
theorem digits_len {n : Nat} (h : n < 9223372036854775808) : 1 ≤ (digits n).length ∧ (digits n).length ≤ 9 := by
  have := dhi_len 8 (n / 128) (by omega)
  simp [digits]; omega
end Go.Proofs.YtfjpenbahoeklaaGreatDoor
namespace Go.Proofs.YtfjpenbahoeklaaGreatDoor
open Go.RowKit

def u8v (c : UInt8) : Value := .int .u8 c.toNat
/-- A slice of bytes that reads as l. -/
def RdB (w : World) (B : Nat) (A : Option Addr) (n : Nat) (l : List UInt8) : Prop := Rd w B 1 A n (l.map u8v)
theorem RdB.len {w : World} {B n : Nat} {A : Option Addr} {l : List UInt8} (h : RdB w B A n l) : l.length = n := by simpa using h.1
theorem u8v_oneCell (l : List UInt8) : ∀ u ∈ l.map u8v, u.oneCell' = true := by
  intro u hu; obtain ⟨_, _, rfl⟩ := List.mem_map.1 hu; rfl

/-- What a call leaves that makes bytes: a slice of its own that reads as l; what was there stands. -/
def ResB (w : World) (l : List UInt8) (e : Ending) (w' : World) : Prop :=
  ∃ A c, e = .returned (.slice A l.length c) ∧ w'.ownsRow w.heap.size 5 1 (.slice A l.length c) l.length (l.map u8v) ∧ Below w.heap.size w w'
theorem RdB.of_own {w : World} {base : Nat} {A : Option Addr} {c n : Nat} {l : List UInt8} (h : w.ownsRow base 5 1 (.slice A n c) n (l.map u8v)) : RdB w w.heap.size A n l := Rd.of_own h

/-- A slice of spans. -/
def RdS (w : World) (B : Nat) (A : Option Addr) (n : Nat) (l : List Sp) : Prop := Rd w B 6 A n (l.flatMap Sp.cells)
theorem Sp.cells_len (s : Sp) : s.cells.length = 6 := rfl
theorem RdS.len {w : World} {B n : Nat} {A : Option Addr} {l : List Sp} (h : RdS w B A n l) : l.length = n := by
  have h1 := h.1; rw [flat_len _ 6 Sp.cells_len] at h1; omega
theorem RdS.at_ {w : World} {B n k : Nat} {A : Option Addr} {l : List Sp} (h : RdS w B A n l) (hk : k < l.length) :
    ∃ b off, A = some ⟨b, off, none⟩ ∧ b < B ∧ w.cell? ⟨b, off + k * 6, none⟩ = some (.int .i64 l[k].tr) ∧ w.cell? ⟨b, off + k * 6 + 1, none⟩ = some (.int .i64 l[k].id) ∧ w.cell? ⟨b, off + k * 6 + 2, none⟩ = some (.int .i64 l[k].pa) ∧
      w.cell? ⟨b, off + k * 6 + 3, none⟩ = some (.int .i64 l[k].st) ∧ w.cell? ⟨b, off + k * 6 + 4, none⟩ = some (.int .i64 l[k].en) ∧ w.cell? ⟨b, off + k * 6 + 5, none⟩ = some (.string l[k].nm) := by
  have hl := h.len
  obtain ⟨b, off, e, hb, hc⟩ := Rd.elem Sp.cells_len h (k := k) (by omega) hk
  exact ⟨b, off, e, hb, hc 0 (by omega), hc 1 (by omega), hc 2 (by omega), hc 3 (by omega), hc 4 (by omega), hc 5 (by omega)⟩
/-- A block just laid of one span. -/
theorem RdS.one {w : World} {H : Nat} (hH : w.heap.size = H) (s : Sp) (t : TypeId) (fr : Nat × Nat) : RdS (w.alloc (.cells #[.int .i64 s.tr, .int .i64 s.id, .int .i64 s.pa, .int .i64 s.st, .int .i64 s.en, .string s.nm] t fr)) (H + 1) (some ⟨H, 0, none⟩) 1 [s] :=
  Rd.new hH rfl (by intro j hj; simp [Sp.cells] at hj; match j, hj with | 0, _ => rfl | 1, _ => rfl | 2, _ => rfl | 3, _ => rfl | 4, _ => rfl | 5, _ => rfl)
theorem Tryz.infoSpan : (Tryz.prog.info? 93).map (fun i => (i.zero, i.size, i.bytes)) = some (some (.agg #[.int .i64 0, .int .i64 0, .int .i64 0, .int .i64 0, .int .i64 0, .string ⟨#[]⟩]), 6, 56) := by kernel_rfl
theorem cells_oneCell (l : List Sp) : ∀ u ∈ l.flatMap Sp.cells, u.oneCell' = true := by
  intro u hu
  obtain ⟨s, _, hs⟩ := List.mem_flatMap.1 hu
  simp only [Sp.cells, List.mem_cons, List.not_mem_nil, or_false] at hs
  rcases hs with rfl | rfl | rfl | rfl | rfl | rfl <;> rfl

end Go.Proofs.YtfjpenbahoeklaaGreatDoor
namespace Go.Proofs.YtfjpenbahoeklaaGreatDoor
open Go.RowKit

/-- A slice of slices of bytes: its cells, and what each leads to. -/
structure Part where
  A : Option Addr
  n : Nat
  c : Nat
  l : List UInt8
def Part.val (p : Part) : Value := .slice p.A p.n p.c
def RdP (w : World) (B : Nat) (A : Option Addr) (n : Nat) (ps : List Part) : Prop := Rd w B 1 A n (ps.map Part.val) ∧ ∀ p ∈ ps, RdB w B p.A p.n p.l
def total (ps : List Part) : Nat := (ps.map fun p => p.l.length).sum
def joined (ps : List Part) : List UInt8 := ps.flatMap (·.l)
theorem total_take_succ (ps : List Part) (k : Nat) (h : k < ps.length) : total (ps.take (k + 1)) = total (ps.take k) + ps[k].l.length := by
  rw [List.take_succ_eq_append_getElem h]; simp only [total, List.map_append, List.sum_append, List.map_cons, List.map_nil, List.sum_cons, List.sum_nil, Nat.add_zero]
theorem joined_take_succ (ps : List Part) (k : Nat) (h : k < ps.length) : joined (ps.take (k + 1)) = joined (ps.take k) ++ ps[k].l := by
  rw [List.take_succ_eq_append_getElem h]; simp only [joined, List.flatMap_append, List.flatMap_cons, List.flatMap_nil, List.append_nil]
theorem total_take_le (ps : List Part) (k : Nat) : total (ps.take k) ≤ total ps := by
  have h : total ps = total (ps.take k) + total (ps.drop k) := by
    conv => lhs; rw [← List.take_append_drop k ps]
    simp only [total, List.map_append, List.sum_append]
  omega
theorem joined_length (ps : List Part) : (joined ps).length = total ps := by
  simp [joined, total, List.length_flatMap]

theorem Tryz.infoByte : (Tryz.prog.info? 5).map (fun i => (i.zero, i.size, i.bytes)) = some (some (.int .u8 0), 1, 1) := by kernel_rfl

set_option maxRecDepth 100000 in
set_option maxHeartbeats 1000000 in
theorem join_any (A : Option Addr) (n cap B : Nat) (ps : List Part) (w : World) (hB : B ≤ w.heap.size) (hbig : total ps ≤ 70368744177664) (hnb : n ≤ 140737488355328) (hr : RdP w B A n ps) :
    Calls Tryz.prog 103 #[.slice A n cap] w (ResB w (joined ps)) := by
  obtain ⟨i0, hi0, hz0, hz1, hz2⟩ := info_parts Tryz.infoByte
  have hl : ps.length = n := by simpa using hr.1.1
  subst hl
  go_enter Tryz.func103, Tryz.ntmps103
  go_wp2_with fail
  go_loop [3, 11] (fun s i => ∃ k : Nat, k ≤ ps.length ∧ i = .int .i64 k ∧ s = .int .i64 (total (ps.take k) : Nat)) (fun _ i => ps.length - (intOf i).toNat)
  case atStart => exact ⟨0, by omega, rfl, by simp [total]⟩
  case round =>
    obtain ⟨k, hk, rfl, rfl⟩ := hrel
    by_cases hlt : k < ps.length
    · obtain ⟨b, off, rfl, _, hcell⟩ := hr.1.at_ (k := k) hlt (by simpa using hlt)
      rw [List.getElem_map] at hcell
      have hlen := (hr.2 _ (List.getElem_mem hlt)).len
      have hstep := total_take_succ ps k hlt
      have hle := total_take_le ps (k + 1)
      rw [hlen] at hstep
      have HS := Lib.hid hstep
      have hle2 : (total (ps.take k) : Int) + (ps[k].n : Int) ≤ 70368744177664 := by omega
      clear hstep hle hlen hr
      unfold Part.val at hcell
      go_wp2
      go_round
      case rel => exact ⟨k + 1, by omega, by go_num, by rw [HS.out]; go_num⟩
      case measure => simp [intOf]; omega
    · have hle := total_take_le ps k
      go_wp2
      refine upon_make0 w.heap.size 73 5 i0 _ 1 Tryz.underlying73 hi0 hz0 hz1 (by rw [hz2]; omega) (by unfold maxLen; omega) (Nat.le_refl _) ?_
      intro w1 hown1 hg1
      have hb1 := below_none hg1 (Nat.le_refl _)
      clear hg1 hle
      go_wp2_with fail
      go_loopw [6, 24] (fun v i wr => ∃ k : Nat, k ≤ ps.length ∧ i = .int .i64 k ∧ ∃ A' c, v = .slice A' (joined (ps.take k)).length c ∧
          wr.ownsRow w.heap.size 5 1 (.slice A' (joined (ps.take k)).length c) (joined (ps.take k)).length ((joined (ps.take k)).map u8v) ∧ Below w.heap.size w wr) (fun _ i _ => ps.length - (intOf i).toNat)
      case atStart => exact ⟨0, by omega, rfl, _, _, rfl, hown1, hb1⟩
      case round =>
        obtain ⟨k, hk, rfl, A', c, rfl, hown, hb⟩ := hrel
        by_cases hlt : k < ps.length
        · obtain ⟨b, off, rfl, hbB, hcell⟩ := hr.1.at_ (k := k) hlt (by simpa using hlt)
          rw [List.getElem_map, ← hb.cell (by show b < w.heap.size; omega)] at hcell
          have hrp := (hr.2 _ (List.getElem_mem hlt)).below' hb hB (Nat.le_refl _)
          have hlen := (hr.2 _ (List.getElem_mem hlt)).len
          have hstep := total_take_succ ps k hlt
          have hle := total_take_le ps (k + 1)
          have hj := joined_length (ps.take k)
          have hjs := joined_take_succ ps k hlt
          have hsum : (joined (ps.take k)).length + ps[k].n ≤ 70368744177664 := by omega
          have HJ := Lib.hid hjs
          have HL := Lib.hid hlen
          clear hstep hle hlen hr hj hjs
          unfold Part.val at hcell
          go_wp2_with (at_builtin; refine wpList_app _ rfl (.tmp 28) (.tmp 29) _ rfl w.heap.size 5 i0 _ 1 1 Tryz.underlying73 hi0 hz0 hz1 hz2 rfl (by omega) _ _ _ _ rfl hown B _ _ _ _ rfl hrp (u8v_oneCell _) (by unfold maxLen; omega) (by omega) hb.size ?_; intro A2 c2 w2 hown2 hg2 _)
          have hb2 := below_app hb hown hg2 hb.size
          go_roundw
          case rel => exact ⟨k + 1, by omega, by go_num, A2, c2, by rw [HJ.out, List.length_append, HL.out], by rw [HJ.out, List.length_append, HL.out, List.map_append]; exact hown2, hb2⟩
          case measure => simp [intOf]; omega
        · have e : ps.take k = ps := List.take_of_length_le (by omega)
          rw [e] at hown
          have HE := Lib.hid e; clear e
          go_wp2_with fail
          go_ret
          exact ⟨A', c, by rw [HE.out]; rfl, hown, hb⟩
end Go.Proofs.YtfjpenbahoeklaaGreatDoor
namespace Go.Proofs.YtfjpenbahoeklaaGreatDoor
open Go.RowKit

theorem ofInt_i64 (a : Nat) (ha : a < 9223372036854775808) : (BitVec.ofInt 64 (a : Int)).toNat = a := by
  rw [BitVec.ofInt_natCast, BitVec.toNat_ofNat]; exact Nat.mod_eq_of_lt (by omega)
theorem and127 (a : Nat) (ha : a < 9223372036854775808) : bits .and .i64 (a : Int) 127 = ((a % 128 : Nat) : Int) := by
  have h2 : (BitVec.ofInt 64 (127 : Int)).toNat = 127 := by decide
  have e : a &&& 127 = a % 128 := Nat.and_two_pow_sub_one_eq_mod a 7
  show IntKind.i64.wrap ((BitVec.ofInt 64 (a : Int) &&& BitVec.ofInt 64 (127 : Int)).toNat : Int) = _
  rw [BitVec.toNat_and, ofInt_i64 a ha, h2, e, IntKind.wrap_i64]
  omega
theorem or128 (a : Nat) (ha : a < 128) : bits .or .u8 (a : Int) 128 = (a : Int) + 128 := by
  have e : a ||| 128 = a + 128 := by
    have h : 128 + a = 128 ||| a := Nat.two_pow_add_eq_or_of_lt (i := 7) (b := a) (by omega) 1
    rw [Nat.or_comm]; omega
  rw [show (128 : Int) = ((128 : Nat) : Int) from rfl, u8_or_nat a 128 (by omega) (by omega), e]; omega
theorem or128' (a : Nat) : bits .or .u8 ((a : Int) % 128) 128 = (a : Int) % 128 + 128 := by
  have := or128 (a % 128) (by omega)
  rwa [Int.natCast_emod] at this

set_option maxRecDepth 100000 in
set_option maxHeartbeats 1000000 in
theorem number_nat (A : Option Addr) (m cap B : Nat) (l : List UInt8) (N : Nat) (w : World) (hB : B ≤ w.heap.size) (hbig : m ≤ 35184372088832) (hn2 : N ≤ 9223372036854775807) (hr : RdB w B A m l) :
    Calls Tryz.prog 94 #[.slice A m cap, .int .i64 N] w (ResB w (l ++ digits N)) := by
  have h7 := and127 N (by omega)
  have HN : Hid (digits N = dhi (N / 128) ++ [UInt8.ofNat (N % 128)]) := Lib.hid rfl
  go_enter Tryz.func94, Tryz.ntmps94
  go_wp2_with fail
  go_loopw [1, 6] (fun c i wr => ∃ (cur at_ : Nat) (L : List UInt8) (cs : Array Value), c = .int .i64 cur ∧ i = .int .i64 at_ ∧ at_ ≤ 8 ∧ cur ≤ N ∧ cur < 128 ^ at_ ∧ digits N = dhi cur ++ L ∧ L.length = 9 - at_ ∧
      wr.heap[w.heap.size]? = some (.cells cs 202 (0, 0)) ∧ cs.size = 9 ∧ cs.toList.drop at_ = L.map u8v ∧ Below w.heap.size w wr) (fun c _ _ => (intOf c).toNat)
  case atStart =>
    refine ⟨N / 128, 8, [UInt8.ofNat (N % 128)], _, by go_num, rfl, by omega, by omega, by omega, HN.out, rfl, heap_alloc_new w _, rfl, ?_, (Below.refl _ _).alloc (Nat.le_refl _) _⟩
    simp [u8v, Nat.mod_eq_of_lt (show N % 128 < 256 by omega)]
  case round =>
    obtain ⟨cur, at_, L, cs, rfl, rfl, hat, hcn, hlt, hd, hL, hblk, hcs, hdrop, hb⟩ := hrel
    by_cases h0 : 0 < cur
    · obtain ⟨q, rfl⟩ : ∃ q, at_ = q + 1 := by
        refine ⟨at_ - 1, ?_⟩
        rcases Nat.eq_zero_or_pos at_ with h | h
        · subst h; simp at hlt; omega
        · omega
      have hcell : ∃ v0, wr.cell? ⟨w.heap.size, q, none⟩ = some v0 := ⟨_, by rw [cell_of_row wr _ _ _ _ _ hblk]; exact Array.getElem?_eq_getElem (by omega)⟩
      obtain ⟨v0, hcell⟩ := hcell
      have hfr : wr.frozen? ⟨w.heap.size, q, none⟩ = false := by simp [World.frozen?, hblk]
      have h7 := and127 cur (by omega)
      have h8 := or128' cur
      have hset := drop_set (v := Value.int .u8 ((cur : Int) % 128 + 128)) (by omega) hdrop
      have hd' : digits N = dhi (cur / 128) ++ (UInt8.ofNat (cur % 128 + 128) :: L) := by rw [hd, dhi_pos h0]; simp
      have HD := Lib.hid hd'
      have HS := Lib.hid hset
      have HL := Lib.hid hL
      have HC := Lib.hid hcs
      have HB := Lib.hid (blk_set hblk q (Value.int .u8 ((cur : Int) % 128 + 128)))
      clear hd hd' hset hL hdrop hcs hblk hr HN
      go_wp2_with fail
      have hp : cur / 128 < 128 ^ q := by rw [Nat.div_lt_iff_lt_mul (by omega)]; rw [Nat.pow_succ] at hlt; exact hlt
      refine ⟨⟨cur / 128, q, UInt8.ofNat (cur % 128 + 128) :: L, _, by go_num, rfl, by omega, by omega, hp, HD.out, by rw [List.length_cons, HL.out]; omega, HB.out, by rw [Array.size_setIfInBounds]; exact HC.out, ?_, hb.setCell (Nat.le_refl _) _⟩, ?_⟩
      · rw [HS.out, List.map_cons]
        congr 1
        simp [u8v, Nat.mod_eq_of_lt (show cur % 128 + 128 < 256 by omega)]
      · simp [intOf]; omega
    · obtain rfl : cur = 0 := by omega
      rw [dhi_zero, List.nil_append] at hd
      subst hd
      have hi1 : (0 : Int) ≤ (at_ : Int) := by omega
      have hi2 : (at_ : Int) ≤ 9 := by omega
      have HL := Lib.hid hL
      have HD := Lib.hid hdrop
      have HC := Lib.hid hcs
      have HB := Lib.hid hblk
      clear hL hdrop hcs hblk
      go_wp2_with fail
      have hp : RdP (wr.alloc (.cells #[.slice A m cap, .slice (some ⟨w.heap.size, at_, none⟩) (9 - at_) (9 - at_)] 73)) (wr.heap.size + 1) (some ⟨wr.heap.size, 0, none⟩) 2
          [⟨A, m, cap, l⟩, ⟨some ⟨w.heap.size, at_, none⟩, 9 - at_, 9 - at_, digits N⟩] := by
        refine ⟨Rd.new rfl (by simp) (by simp [Part.val]), fun p hp => ?_⟩
        simp only [List.mem_cons, List.not_mem_nil, or_false] at hp
        have hs := hb.size
        rcases hp with rfl | rfl
        · exact Rd.alloc (Rd.below' hr hb hB (Nat.le_refl _)) _ (by omega) (by omega)
        · refine Rd.alloc (B := w.heap.size + 1) (Rd.of_off HB.out (by omega) (by rw [List.length_map, HL.out]; simp) HD.out) _ ?_ ?_
          · have := (Array.getElem?_eq_some_iff.1 HB.out).1; omega
          · have := (Array.getElem?_eq_some_iff.1 HB.out).1; omega
      have hlen : l.length = m := RdB.len hr
      refine (join_any _ _ _ _ _ _ (by simp) (by simp [total, HL.out]; omega) (by omega) hp).mono ?_
      rintro e w2 ⟨A2, c2, rfl, hown, hb2⟩
      have hj : (joined [⟨A, m, cap, l⟩, ⟨some ⟨w.heap.size, at_, none⟩, 9 - at_, 9 - at_, digits N⟩]) = l ++ digits N := by simp [joined]
      rw [hj] at hown ⊢
      generalize hL2 : l ++ digits N = L2 at hown ⊢
      have HL2 := Lib.hid hL2
      have HO := Lib.hid hown
      have HB2 : Below w.heap.size w w2 := (hb.alloc hb.size _).trans (hb2.mono (by simp; have := hb.size; omega))
      clear hown hp hj hb2 hL2
      go_wp2_with fail
      go_ret
      rw [HL2.out]
      exact ⟨A2, c2, rfl, own_le HO.out (by simp; have := hb.size; omega), HB2⟩
end Go.Proofs.YtfjpenbahoeklaaGreatDoor
namespace Go.Proofs.YtfjpenbahoeklaaGreatDoor
open Go.RowKit

theorem strCells_map (s : ByteArray) : Lib.strCells s = s.data.toList.map u8v := rfl
section
variable {P : Program} (w : World)
/-- append(b, s...) at the operation. -/
theorem wpList_app_str {ops : Array Oper} {rest : List Oper} {o : Oper} {a : Act} {Q : Exit → Act → World → Prop} (hgd : o.guard = none) (sl x : Operand) (t u : TypeId)
    (ho : o.op = .call { callee := .builtin .append, args := #[sl, x], argTypes := #[t, u] })
    (base : Nat) (e : TypeId) (i : TypeInfo) (ht : P.underlying t = some (.slice e)) (hu : P.underlying u = some .string) (hi : P.info? e = some i) (hz : i.zero = some (.int .u8 0))
    (hsize : i.size = 1) (hby : i.bytes = 1)
    (A0 : Option Addr) (c0 : Nat) (l : List UInt8) (hs : a.eval sl = .slice A0 l.length c0) (hown : w.ownsRow base e 1 (.slice A0 l.length c0) l.length (l.map u8v)) (s : ByteArray) (hx : a.eval x = .string s)
    (h63 : l.length + s.size ≤ maxLen) (hbytes : l.length + s.size ≤ 140737488355328) (hbase : base ≤ w.heap.size)
    (h : ∀ A' c' w', w'.ownsRow base e 1 (.slice A' (l ++ s.data.toList).length c') (l ++ s.data.toList).length ((l ++ s.data.toList).map u8v) → w.grownBy w' (A0.map (·.block)) →
      wpList P ops Q rest (a.put o.dst (.slice A' (l ++ s.data.toList).length c')) w') : wpList P ops Q (o :: rest) a w := by
  refine Lib.wpList_append_own_string w hgd sl x t u ho base e i ht hu hi hz hsize hby _ l.length _ hs hown s hx h63 hbytes hbase ?_
  intro v' w' h2 h3 _
  have hlen : l.length + s.size = (l ++ s.data.toList).length := by simp
  rw [hlen, strCells_map, ← List.map_append] at h2
  have ob : ∀ (A : Option Addr) (k c : Nat), Value.ownBlock (.slice A k c) = A.map (·.block) := by intro A k c; cases A <;> rfl
  rw [ob] at h3
  rcases h2.2 with ⟨rfl, hnm⟩ | ⟨g, cap, cur, rfl, _⟩
  · have := h none 0 w'
    rw [hnm] at this h2
    exact this h2 h3
  · exact h _ _ w' h2 h3
end

set_option maxRecDepth 100000 in
set_option maxHeartbeats 400000 in
theorem text_any (A : Option Addr) (m cap B : Nat) (l : List UInt8) (s : ByteArray) (w : World) (hB : B ≤ w.heap.size) (hbig : m ≤ 35184372088832) (hs : s.size ≤ 35184372088832) (hr : RdB w B A m l) :
    Calls Tryz.prog 96 #[.slice A m cap, .string s] w (ResB w (l ++ digits s.size ++ s.data.toList)) := by
  obtain ⟨i0, hi0, hz0, hz1, hz2⟩ := info_parts Tryz.infoByte
  have hl := hr.len
  have hd := digits_len (n := s.size) (by omega)
  have hl2 : (l ++ digits s.size).length ≤ 35184372088900 := by rw [List.length_append]; omega
  have HL := Lib.hid hl
  clear hl hd
  go_enter Tryz.func96, Tryz.ntmps96
  go_wp2_with fail
  refine (number_nat _ _ _ _ _ _ _ hB hbig (by omega) hr).mono ?_
  rintro e w1 ⟨A1, c1, rfl, hown, hb⟩
  generalize hL1 : l ++ digits s.size = L1 at *
  have HL1 := Lib.hid hL1
  have HO := Lib.hid hown
  clear hown hL1
  go_wp2_with (at_builtin; refine wpList_app_str _ rfl (.tmp 8) (.tmp 9) _ _ rfl w.heap.size 5 i0 Tryz.underlying73 Tryz.underlying9 hi0 hz0 hz1 hz2 _ _ _ rfl HO.out _ rfl (by unfold maxLen; omega) (by omega) hb.size ?_; intro A2 c2 w2 hown2 hg2; generalize L1 ++ s.data.toList = L2 at *)
  go_ret
  exact ⟨A2, c2, rfl, hown2, below_app hb HO.out hg2 hb.size⟩

end Go.Proofs.YtfjpenbahoeklaaGreatDoor
namespace Go.Proofs.YtfjpenbahoeklaaGreatDoor
open Go.RowKit

/-- A slice of numbers that reads as zs. -/
def RdI (w : World) (B : Nat) (A : Option Addr) (n : Nat) (zs : List Int) : Prop := Rd w B 1 A n (zs.map (Value.int .i64))
theorem RdI.len {w : World} {B n : Nat} {A : Option Addr} {zs : List Int} (h : RdI w B A n zs) : zs.length = n := by simpa using h.1
theorem RdI.at_ {w : World} {B n k : Nat} {A : Option Addr} {zs : List Int} (h : RdI w B A n zs) (hk : k < zs.length) :
    ∃ b off, A = some ⟨b, off, none⟩ ∧ b < B ∧ w.cell? ⟨b, off + k, none⟩ = some (.int .i64 zs[k]) := by
  have hl := h.len
  obtain ⟨b, off, e, hb, hc⟩ := Rd.at_ h (k := k) (by omega) (by simpa using hk)
  exact ⟨b, off, e, hb, by rw [hc]; simp⟩
theorem ints_one (zs : List Int) : ∀ u ∈ zs.map (Value.int .i64), u.oneCell' = true := by
  intro u hu; obtain ⟨_, _, rfl⟩ := List.mem_map.1 hu; rfl
end Go.Proofs.YtfjpenbahoeklaaGreatDoor
namespace Go.Proofs.YtfjpenbahoeklaaGreatDoor
open Go.RowKit

/-- What was there stands but for the blocks in S. -/
structure Fr (S : Nat → Prop) (w w' : World) : Prop where
  os : w'.os = w.os
  tape : w'.tape = w.tape
  output : w'.output = w.output
  size : w.heap.size ≤ w'.heap.size
  block : ∀ k, k < w.heap.size → ¬ S k → w'.heap[k]? = w.heap[k]?
section
variable {S : Nat → Prop} {a b c w w' : World}
theorem Fr.refl (S : Nat → Prop) (w : World) : Fr S w w := ⟨rfl, rfl, rfl, Nat.le_refl _, fun _ _ _ => rfl⟩
theorem Fr.trans (h : Fr S a b) (k : Fr S b c) : Fr S a c :=
  ⟨k.os.trans h.os, k.tape.trans h.tape, k.output.trans h.output, Nat.le_trans h.size k.size, fun i hi hn => (k.block i (Nat.lt_of_lt_of_le hi h.size) hn).trans (h.block i hi hn)⟩
theorem Fr.of_below (h : Below a.heap.size a b) : Fr S a b := ⟨h.os, h.tape, h.output, h.size, fun k hk _ => h.block k hk⟩
theorem Fr.drewN (h : Fr S a w) (n : Nat) : Fr S a (w.drewN n) := ⟨h.os, h.tape, h.output, h.size, h.block⟩
theorem Fr.below {B : Nat} (h : Fr S a b) (hB : B ≤ a.heap.size) (hS : ∀ k, S k → B ≤ k) : Below B a b :=
  ⟨h.os, h.tape, h.output, h.size, fun k hk => h.block k (by omega) (fun hs => by have := hS k hs; omega)⟩
theorem Fr.setCell (h : Fr S a w) {p : Addr} (hp : S p.block) (u : Value) : Fr S a (w.setCell p u) :=
  h.trans ⟨rfl, rfl, rfl, by simp [World.setCell], fun k _ hn => Below.heap_setCell _ _ _ _ (fun e => hn (e ▸ hp))⟩
theorem Fr.setNew (h : Fr S a w) {p : Addr} (hp : a.heap.size ≤ p.block) (u : Value) : Fr S a (w.setCell p u) :=
  ⟨h.os, h.tape, h.output, by simp [World.setCell]; exact h.size, fun k hk hn => (Below.heap_setCell _ _ _ _ (by omega)).trans (h.block k hk hn)⟩
theorem Fr.alloc (h : Fr S a w) (o : Obj) : Fr S a (w.alloc o) := h.trans (Fr.of_below ((Below.refl _ _).alloc (Nat.le_refl _) _))
theorem Fr.rd {B sz n : Nat} {A : Option Addr} {xs : List Value} (h : Rd w B sz A n xs) (hf : Fr S w w') (hB : B ≤ w.heap.size) (hS : ∀ k, S k → B ≤ k) : Rd w' B sz A n xs :=
  h.below (hf.below hB hS) (Nat.le_refl _)
end
theorem below_drewN {B : Nat} {a w : World} (h : Below B a w) (n : Nat) : Below B a (w.drewN n) := ⟨h.os, h.tape, h.output, h.size, h.block⟩
theorem Fr.mono {S S' : Nat → Prop} {a b : World} (h : Fr S a b) (hS : ∀ k, S k → S' k) : Fr S' a b := ⟨h.os, h.tape, h.output, h.size, fun k hk hn => h.block k hk fun hs => hn (hS k hs)⟩
theorem Fr.drew {S : Nat → Prop} {a w : World} (h : Fr S a w) : Fr S a w.drew := ⟨h.os, h.tape, h.output, h.size, h.block⟩
theorem Fr.of_grown {S : Nat → Prop} {a b : World} {row : Option Nat} (h : a.grownBy b row) (hS : ∀ k, row = some k → S k) : Fr S a b :=
  ⟨h.os, h.tape, h.output, h.size, fun k hk hn => h.block k hk fun e => hn (hS k e.symm)⟩
/-- Behind a world on the way: what a step writes is new, or among the blocks. -/
theorem Fr.step {S S' : Nat → Prop} {a b c : World} (h : Fr S a b) (k : Fr S' b c) (hS : ∀ j, S' j → S j ∨ a.heap.size ≤ j) : Fr S a c :=
  ⟨k.os.trans h.os, k.tape.trans h.tape, k.output.trans h.output, Nat.le_trans h.size k.size, fun i hi hn => (k.block i (Nat.lt_of_lt_of_le hi h.size) (fun hs => by
    rcases hS i hs with h1 | h1
    · exact hn h1
    · omega)).trans (h.block i hi hn)⟩
theorem below_drew' (w : World) (n : Nat) : Below w.heap.size w (w.drewN n) := ⟨rfl, rfl, rfl, Nat.le_refl _, fun _ _ => rfl⟩
theorem Fr.rd' {S : Nat → Prop} {w w' : World} {B sz n : Nat} {A : Option Addr} {xs : List Value} (h : Rd w B sz A n xs) (hf : Fr S w w') (hB : B ≤ w.heap.size) (hS : ∀ k, k < B → ¬ S k) : Rd w' B sz A n xs :=
  h.keep (fun p hp => by simp only [World.cell?, hf.block p.block (by omega) (hS _ hp)]) (Nat.le_refl _)
theorem Fr.rdA {S : Nat → Prop} {w w' : World} {B sz n : Nat} {A : Option Addr} {xs : List Value} (h : Rd w B sz A n xs) (hf : Fr S w w') (hB : B ≤ w.heap.size) (hS : ∀ k, A.map (·.block) = some k → ¬ S k) : Rd w' B sz A n xs :=
  ⟨h.1, fun hn => by
    obtain ⟨b, off, e, hb, hc⟩ := h.2 hn
    refine ⟨b, off, e, hb, fun j hj => ?_⟩
    rw [← hc j hj]
    simp only [World.cell?, hf.block b (by omega) (hS b (by rw [e]; rfl))]⟩
theorem Fr.rdN {S : Nat → Prop} {w w' : World} {B sz n : Nat} {A : Option Addr} {xs : List Value} (h : Rd w B sz A n xs) (hf : Fr S w w') (hB : B ≤ w.heap.size) (hS : 0 < n → ∀ k, A.map (·.block) = some k → ¬ S k) : Rd w' B sz A n xs :=
  ⟨h.1, fun hn => by
    obtain ⟨b, off, e, hb, hc⟩ := h.2 hn
    refine ⟨b, off, e, hb, fun j hj => ?_⟩
    rw [← hc j hj]
    simp only [World.cell?, hf.block b (by omega) (hS hn b (by rw [e]; rfl))]⟩
theorem rd_block {w : World} {B sz n : Nat} {A : Option Addr} {xs : List Value} (h : Rd w B sz A n xs) (hn : 0 < n) : ∀ k, A.map (·.block) = some k → k < B := fun k hk => by
  obtain ⟨b, off, e, hb, _⟩ := h.2 hn
  rw [e] at hk
  have := Option.some.inj hk
  simp only at this
  omega
theorem own_fr' {S : Nat → Prop} {w w' : World} {base : Nat} {e : TypeId} {size : Nat} {v : Value} {n : Nat} {xs : List Value} (h : w.ownsRow base e size v n xs) (hf : Fr S w w') (hS : ∀ k, v.ownBlock = some k → ¬ S k) : w'.ownsRow base e size v n xs := by
  refine ⟨h.1, ?_⟩
  rcases h.2 with hn | ⟨g, cap, cur, hv, hb, hg, rest⟩
  · exact .inl hn
  · exact .inr ⟨g, cap, cur, hv, hb, (hf.block g (Array.getElem?_eq_some_iff.1 hg).1 (hS g (by rw [hv]; rfl))).trans hg, rest⟩
end Go.Proofs.YtfjpenbahoeklaaGreatDoor
namespace Go.Proofs.YtfjpenbahoeklaaGreatDoor
open Go.RowKit

/-- A Scan in block sb, its strip in block pb, over the bytes l, at_ of which were read. -/
structure ScanAt (w : World) (sb pb : Nat) (A : Option Addr) (c : Nat) (l : List UInt8) (at_ : Nat) (err : Int) : Prop where
  sc : w.heap[sb]? = some (.cells #[.pointer (some ⟨pb, 0, none⟩), .int .i64 err] 168 (0, 0))
  st : w.heap[pb]? = some (.cells #[.slice A l.length c, .int .i64 at_] 166 (0, 0))
  lt : pb < sb
  cap : l.length ≤ c
  rd : RdB w pb A l.length l
  le : at_ ≤ l.length
  err0 : 0 ≤ err
  len : l.length ≤ 70368744177664
def SP (sb pb : Nat) (k : Nat) : Prop := k = sb ∨ k = pb
section
variable {w w' : World} {sb pb c at_ : Nat} {A : Option Addr} {l : List UInt8} {err : Int}
theorem ScanAt.sb_lt (h : ScanAt w sb pb A c l at_ err) : sb < w.heap.size := (Array.getElem?_eq_some_iff.1 h.sc).1
theorem ScanAt.drewN (h : ScanAt w sb pb A c l at_ err) (n : Nat) : ScanAt (w.drewN n) sb pb A c l at_ err := ⟨h.sc, h.st, h.lt, h.cap, h.rd, h.le, h.err0, h.len⟩
theorem ScanAt.below {B : Nat} (h : ScanAt w sb pb A c l at_ err) (hb : Below B w w') (hB : sb < B) : ScanAt w' sb pb A c l at_ err :=
  ⟨blk_below hb hB h.sc, blk_below hb (by have := h.lt; omega) h.st, h.lt, h.cap, Rd.below' h.rd hb (by have := h.lt; omega) (Nat.le_refl _), h.le, h.err0, h.len⟩
theorem ScanAt.fr {S : Nat → Prop} (h : ScanAt w sb pb A c l at_ err) (hf : Fr S w w') (hS : ∀ k, S k → sb < k) : ScanAt w' sb pb A c l at_ err :=
  h.below (B := sb + 1) (hf.below h.sb_lt (fun k hk => hS k hk)) (by omega)
theorem ScanAt.setErr (h : ScanAt w sb pb A c l at_ err) (e : Int) (he : 0 ≤ e) : ScanAt (w.setCell ⟨sb, 1, none⟩ (.int .i64 e)) sb pb A c l at_ e :=
  ⟨blk_set h.sc 1 _, (Below.heap_setCell _ _ _ _ (by have := h.lt; simp; omega)).trans h.st, h.lt, h.cap, Fr.rd h.rd ((Fr.refl (fun k => k = sb) w).setCell rfl _) (by have := h.lt; have := h.sb_lt; omega) (fun k hk => by have := h.lt; omega), h.le, he, h.len⟩
theorem ScanAt.setAt (h : ScanAt w sb pb A c l at_ err) (a : Nat) (ha : a ≤ l.length) : ScanAt (w.setCell ⟨pb, 1, none⟩ (.int .i64 a)) sb pb A c l a err :=
  ⟨(Below.heap_setCell _ _ _ _ (by have := h.lt; simp; omega)).trans h.sc, blk_set h.st 1 _, h.lt, h.cap, Fr.rd h.rd ((Fr.refl (fun k => k = pb) w).setCell rfl _) (by have := h.lt; have := h.sb_lt; omega) (fun k hk => by omega), ha, h.err0, h.len⟩
end

set_option maxHeartbeats 400000 in
theorem made_any {w : World} {sb pb c at_ : Nat} {A : Option Addr} {l : List UInt8} {err : Int} (h : ScanAt w sb pb A c l at_ err) :
    Calls Tryz.prog 104 #[.pointer (some ⟨sb, 0, none⟩)] w fun e w' => e = .returned (.bool true) ∧ w = w' := by
  have hc := blk_cell h.sc
  have HH := Lib.hid h
  clear h
  go_enter Tryz.func104, Tryz.ntmps104
  go_wp2_with fail
  go_ret
  exact ⟨rfl, rfl⟩

set_option maxHeartbeats 400000 in
theorem err_any {w : World} {sb pb c at_ : Nat} {A : Option Addr} {l : List UInt8} {err : Int} (h : ScanAt w sb pb A c l at_ err) :
    Calls Tryz.prog 71 #[.pointer (some ⟨sb, 0, none⟩)] w fun e w' => e = .returned (.int .i64 err) ∧ w = w' := by
  have hc := blk_cell h.sc
  have HH := Lib.hid h
  clear h
  go_enter Tryz.func71, Tryz.ntmps71
  go_wp2_with (refine (made_any HH.out).mono ?_; rintro e w' ⟨rfl, rfl⟩)
  go_ret
  exact ⟨rfl, rfl⟩

set_option maxHeartbeats 400000 in
theorem fail_any {w : World} {sb pb c at_ : Nat} {A : Option Addr} {l : List UInt8} (ec : Int) (h : ScanAt w sb pb A c l at_ 0) :
    Calls Tryz.prog 106 #[.pointer (some ⟨sb, 0, none⟩), .int .i64 ec] w fun e w' => e = .returned (.int .i64 0) ∧ w.setCell ⟨sb, 1, none⟩ (.int .i64 ec) = w' := by
  have hc := blk_cell h.sc
  have hf := blk_frozen h.sc 1
  have HH := Lib.hid h
  clear h
  go_enter Tryz.func106, Tryz.ntmps106
  go_wp2_with (refine (made_any HH.out).mono ?_; rintro e w' ⟨rfl, rfl⟩)
  go_ret
  exact ⟨rfl, rfl⟩

/-- A slice cut at its head. -/
def cutA (A : Option Addr) (c k sz : Nat) : Option Addr := if c = k then A else A.map (·.add (k * sz))
set_option maxHeartbeats 400000 in
theorem rest_any {w : World} {sb pb c at_ : Nat} {A : Option Addr} {l : List UInt8} {err : Int} (h : ScanAt w sb pb A c l at_ err) :
    Calls Tryz.prog 105 #[.pointer (some ⟨pb, 0, none⟩)] w fun e w' => e = .returned (.slice (cutA A c at_ 1) (l.length - at_) (c - at_)) ∧ ∃ n, w' = w.drewN n := by
  have hc := blk_cell h.st
  have h1 : (0 : Int) ≤ (at_ : Int) := by omega
  have h2 : (at_ : Int) ≤ (l.length : Int) := by have := h.le; omega
  have h3 : (l.length : Int) ≤ (c : Int) := by have := h.cap; omega
  clear h
  by_cases hca : c = at_
  · subst hca
    go_enter Tryz.func105, Tryz.ntmps105
    go_wp2_with fail
    go_quiet (fail)
    go_wp2_with fail
    go_ret
    exact ⟨by simp [cutA], _, rfl⟩
  · go_enter Tryz.func105, Tryz.ntmps105
    go_wp2_with fail
    go_quiet (fail)
    go_wp2_with fail
    go_ret
    exact ⟨by simp [cutA, hca], _, rfl⟩

set_option maxHeartbeats 400000 in
theorem left_any {w : World} {sb pb c at_ : Nat} {A : Option Addr} {l : List UInt8} {err : Int} (h : ScanAt w sb pb A c l at_ err) :
    Calls Tryz.prog 109 #[.pointer (some ⟨sb, 0, none⟩)] w fun e w' => e = .returned (.int .i64 (l.length - at_ : Nat)) ∧ ∃ n, w' = w.drewN n := by
  have hc := blk_cell h.sc
  have HH := Lib.hid h
  clear h
  go_enter Tryz.func109, Tryz.ntmps109
  go_wp2_with (first | (go_at_call 104; refine (made_any HH.out).mono ?_; rintro e w' ⟨rfl, rfl⟩) | (go_at_call 105; refine (rest_any HH.out).mono ?_; rintro e w' ⟨rfl, n, rfl⟩))
  go_ret
  exact ⟨rfl, _, rfl⟩

/-- A number at the head of bytes: it, how many bytes it has, the error. -/
def rdNum : Nat → Nat → List UInt8 → Nat × Nat × Int
  | _, _, [] => (0, 0, 2)
  | i, n, x :: r => if i = 0 ∧ x.toNat = 128 then (0, 0, 10) else if i = 9 then (0, 0, 5) else if x.toNat < 128 then (n * 128 + x.toNat % 128, i + 1, 0) else rdNum (i + 1) (n * 128 + x.toNat % 128) r
theorem rdNum_bound : ∀ (l : List UInt8) (i n : Nat), n < 128 ^ i → i ≤ 9 → (rdNum i n l).1 < 128 ^ 9 ∧ (rdNum i n l).2.1 ≤ i + l.length ∧ 0 ≤ (rdNum i n l).2.2 ∧ ((rdNum i n l).2.2 ≠ 0 → (rdNum i n l).1 = 0 ∧ (rdNum i n l).2.1 = 0) := by
  intro l
  induction l with
  | nil => intro i n _ _; simp [rdNum]
  | cons x r ih =>
    intro i n hn hi
    rw [rdNum]
    by_cases h1 : i = 0 ∧ x.toNat = 128
    · rw [if_pos h1]; simp
    · rw [if_neg h1]
      by_cases h2 : i = 9
      · rw [if_pos h2]; simp
      · rw [if_neg h2]
        have hb : n * 128 + x.toNat % 128 < 128 ^ (i + 1) := by rw [Nat.pow_succ]; omega
        by_cases h3 : x.toNat < 128
        · rw [if_pos h3]
          refine ⟨Nat.lt_of_lt_of_le hb (Nat.pow_le_pow_right (by omega) (by omega)), ?_, by simp, by simp⟩
          simp only [List.length_cons]; omega
        · rw [if_neg h3]
          have := ih (i + 1) _ hb (by omega)
          simp only [List.length_cons]
          refine ⟨this.1, by omega, this.2.2⟩
/-- A Scan's state behind a call of Number. -/
def scNum (l : List UInt8) (at_ : Nat) (err : Int) : Nat × Nat × Int :=
  if err = 0 then ((rdNum 0 0 (l.drop at_)).1, at_ + (rdNum 0 0 (l.drop at_)).2.1, (rdNum 0 0 (l.drop at_)).2.2) else (0, at_, err)
end Go.Proofs.YtfjpenbahoeklaaGreatDoor
namespace Go.Proofs.YtfjpenbahoeklaaGreatDoor
open Go.RowKit

theorem and127u8 (x : Nat) (hx : x < 256) : bits .and .u8 (x : Int) 127 = (x : Int) % 128 := by
  rw [show (127 : Int) = ((127 : Nat) : Int) from rfl, u8_and_nat x 127 hx (by omega)]
  have e : x &&& 127 = x % 128 := Nat.and_two_pow_sub_one_eq_mod x 7
  rw [e]; omega
theorem or_low (n x : Nat) (hn : n * 128 < 9223372036854775808) : bits .or .i64 ((n : Int) * 128) ((x : Int) % 128) = (n : Int) * 128 + (x : Int) % 128 := by
  have h1 : ((n : Int) * 128) = ((n * 128 : Nat) : Int) := by omega
  have h2 : ((x : Int) % 128) = ((x % 128 : Nat) : Int) := by omega
  have e : n * 128 ||| x % 128 = n * 128 + x % 128 := by
    have h : 2 ^ 7 * n + x % 128 = 2 ^ 7 * n ||| x % 128 := Nat.two_pow_add_eq_or_of_lt (i := 7) (b := x % 128) (by omega) n
    rw [Nat.mul_comm n 128]; exact h.symm
  rw [h1, h2]
  show IntKind.i64.wrap ((BitVec.ofInt 64 ((n * 128 : Nat) : Int) ||| BitVec.ofInt 64 ((x % 128 : Nat) : Int)).toNat : Int) = _
  rw [BitVec.toNat_or, ofInt_i64 _ (by omega), ofInt_i64 _ (by omega), e, IntKind.wrap_i64]
  omega
theorem rdNum_step {l : List UInt8} {k N : Nat} (hk : k < l.length) (h1 : ¬ (k = 0 ∧ (l[k]).toNat = 128)) (h2 : k ≠ 9) (h3 : 128 ≤ (l[k]).toNat) :
    rdNum k N (l.drop k) = rdNum (k + 1) (N * 128 + (l[k]).toNat % 128) (l.drop (k + 1)) := by
  rw [List.drop_eq_getElem_cons hk, rdNum, if_neg h1, if_neg h2, if_neg (by omega)]
theorem rdNum_last {l : List UInt8} {k N : Nat} (hk : k < l.length) (h1 : ¬ (k = 0 ∧ (l[k]).toNat = 128)) (h2 : k ≠ 9) (h3 : (l[k]).toNat < 128) :
    rdNum k N (l.drop k) = (N * 128 + (l[k]).toNat % 128, k + 1, 0) := by
  rw [List.drop_eq_getElem_cons hk, rdNum, if_neg h1, if_neg h2, if_pos h3]
theorem rdNum_form {l : List UInt8} {N : Nat} (hk : 0 < l.length) (h1 : (l[0]).toNat = 128) : rdNum 0 N (l.drop 0) = (0, 0, 10) := by
  rw [List.drop_eq_getElem_cons hk, rdNum, if_pos ⟨rfl, h1⟩]
theorem rdNum_range {l : List UInt8} {N : Nat} (hk : 9 < l.length) : rdNum 9 N (l.drop 9) = (0, 0, 5) := by
  rw [List.drop_eq_getElem_cons hk, rdNum, if_neg (by omega), if_pos rfl]
theorem rdNum_short {l : List UInt8} {k N : Nat} (hk : l.length ≤ k) : rdNum k N (l.drop k) = (0, 0, 2) := by
  rw [List.drop_of_length_le hk]; rfl

/-- What a method of a Scan leaves: an answer, the Scan at another place; but for it all stands. -/
def ResSc (w : World) (sb pb : Nat) (A : Option Addr) (c : Nat) (l : List UInt8) (v : Value) (at_ : Nat) (err : Int) (e : Ending) (w' : World) : Prop :=
  e = .returned v ∧ ScanAt w' sb pb A c l at_ err ∧ Fr (SP sb pb) w w'

set_option maxRecDepth 100000 in
set_option maxHeartbeats 1000000 in
theorem scanNumber_any {w : World} {sb pb c at_ : Nat} {A : Option Addr} {l : List UInt8} {err : Int} (h : ScanAt w sb pb A c l at_ err) :
    Calls Tryz.prog 68 #[.pointer (some ⟨sb, 0, none⟩)] w (ResSc w sb pb A c l (.int .i64 ((scNum l at_ err).1 : Nat)) (scNum l at_ err).2.1 (scNum l at_ err).2.2) := by
  have hc := blk_cell h.sc
  have hct := blk_cell h.st
  have HH := Lib.hid h
  have he0 := h.err0
  by_cases her : err = 0
  · subst her
    have hlen := h.len
    have hle := h.le
    clear h he0
    obtain ⟨L, hL⟩ : ∃ L, L = l.drop at_ := ⟨_, rfl⟩
    have hLl : L.length = l.length - at_ := by rw [hL]; simp
    have hrd : RdB w pb (cutA A c at_ 1) L.length L := by
      have := Rd.cut HH.out.rd HH.out.le HH.out.cap
      rw [hLl]
      rw [hL, RdB, List.map_drop]
      simpa [cutA] using this
    have HS : Hid (scNum l at_ 0 = ((rdNum 0 0 L).1, at_ + (rdNum 0 0 L).2.1, (rdNum 0 0 L).2.2)) := Lib.hid (by simp [scNum, hL])
    have HL := Lib.hid hLl
    clear hLl hL
    go_enter Tryz.func68, Tryz.ntmps68
    go_wp2_with (first | (go_at_call 104; refine (made_any HH.out).mono ?_; rintro e w' ⟨rfl, rfl⟩) | (go_at_call 105; refine (rest_any HH.out).mono ?_; rintro e w' ⟨rfl, n, rfl⟩; rw [← HL.out]))
    have HW := Lib.hid (HH.out.drewN n)
    have hf1 : Fr (SP sb pb) w (w.drewN n) := (Fr.refl _ _).drewN n
    have hrd1 : RdB (w.drewN n) pb (cutA A c at_ 1) L.length L := hrd
    have hc1 : ∀ j, (w.drewN n).cell? ⟨sb, j, none⟩ = _ := blk_cell HW.out.sc
    have hct1 : ∀ j, (w.drewN n).cell? ⟨pb, j, none⟩ = _ := blk_cell HW.out.st
    have hfz : (w.drewN n).frozen? ⟨pb, 1, none⟩ = false := blk_frozen HW.out.st 1
    clear hc hct hrd
    generalize w.drewN n = w1 at *
    go_loop [3, 22] (fun nn i => ∃ k N : Nat, k ≤ L.length ∧ i = .int .i64 k ∧ nn = .int .i64 N ∧ N < 128 ^ k ∧ k ≤ 9 ∧ rdNum 0 0 L = rdNum k N (L.drop k)) (fun _ i => L.length - (intOf i).toNat)
    case atStart => exact ⟨0, 0, by omega, rfl, rfl, by simp, by omega, rfl⟩
    case round =>
      obtain ⟨k, N, hk, rfl, rfl, hN, hk9, hR⟩ := hrel
      have HR := Lib.hid hR
      clear hR
      by_cases hlt : k < L.length
      · obtain ⟨b, off, hA, _, hcell⟩ := hrd1.at_ (k := k) hlt (by simpa using hlt)
        rw [List.getElem_map] at hcell
        unfold u8v at hcell
        rw [hA]
        have hx := (L[k]).toNat_lt
        have HLast := Lib.hid (@rdNum_last L k N hlt)
        have HStep := Lib.hid (@rdNum_step L k N hlt)
        have HForm : Hid (k = 0 → (L[k]).toNat = 128 → rdNum k N (L.drop k) = (0, 0, 10)) := Lib.hid (fun h0 h1 => by subst h0; exact rdNum_form hlt h1)
        have HRange : Hid (k = 9 → rdNum k N (L.drop k) = (0, 0, 5)) := Lib.hid (fun h0 => by subst h0; exact rdNum_range hlt)
        generalize (L[k]).toNat = x at *
        have HA := Lib.hid hA
        clear hA hrd1
        by_cases h1 : k = 0 ∧ x = 128
        · obtain ⟨rfl, rfl⟩ := h1
          simp only [Nat.add_zero] at hcell
          go_wp2_with (go_at_call 106; refine (fail_any _ HW.out).mono ?_; rintro e w' ⟨rfl, rfl⟩)
          go_ret
          have e := HR.out.trans (HForm.out (by trivial) (by trivial))
          rw [ResSc, HS.out, e]
          exact ⟨rfl, HW.out.setErr 10 (by omega), hf1.setCell (.inl rfl) _⟩
        · by_cases h2 : k = 9
          · have HH1 := Lib.hid h1
            clear h1
            subst h2
            go_wp2_with (go_at_call 106; refine (fail_any _ HW.out).mono ?_; rintro e w' ⟨rfl, rfl⟩)
            go_ret
            have e := HR.out.trans (HRange.out (by trivial))
            rw [ResSc, HS.out, e]
            exact ⟨rfl, HW.out.setErr 5 (by omega), hf1.setCell (.inl rfl) _⟩
          · have hp : N * 128 + x % 128 < 128 ^ (k + 1) := by rw [Nat.pow_succ]; omega
            have hp2 : 128 ^ (k + 1) ≤ 128 ^ 9 := Nat.pow_le_pow_right (by omega) (by omega)
            have hN128 : (N : Int) * 128 + (x : Int) % 128 ≤ 9223372036854775807 := by omega
            have hN0 : (0 : Int) ≤ (N : Int) * 128 := by omega
            have ha := and127u8 x (by omega)
            have hor := or_low N x (by omega)
            have h2b : ((k : Int) == 9) = false := by simp; omega
            have hkl : k + 1 ≤ l.length - at_ := by rw [← HL.out]; omega
            have h1b : ((k : Int) == 0) = false ∨ (((k : Int) == 0) = true ∧ ((x : Int) == 128) = false) := by
              by_cases h0 : k = 0
              · subst h0; right; simp; intro hx; exact h1 ⟨rfl, by omega⟩
              · left; simp; omega
            have HH1 := Lib.hid h1
            have HN := Lib.hid hN
            have h2' : Hid (k ≠ 9) := Lib.hid h2
            clear h1 h2 hN hp2
            by_cases h3 : x < 128
            · have h3i : (x : Int) < 128 := by omega
              have h3' : Hid (x < 128) := Lib.hid h3
              have HP := Lib.hid hp
              clear hp h3
              rcases h1b with h1b | ⟨h1b, h1c⟩
              all_goals
                go_wp2_with fail
                go_ret
                rw [ResSc, HS.out, HR.out, HLast.out HH1.out h2'.out h3'.out]
                refine ⟨ret_int (by omega), ?_, hf1.setCell (.inr rfl) _⟩
                have := HW.out.setAt (at_ + (k + 1)) (by omega)
                rwa [show (((at_ + (k + 1) : Nat)) : Int) = (at_ : Int) + ((k : Int) + 1) by omega] at this
            · have h3i : (128 : Int) ≤ (x : Int) := by omega
              have h3' : Hid (128 ≤ x) := Lib.hid (by omega)
              have HP := Lib.hid hp
              clear hp h3
              rcases h1b with h1b | ⟨h1b, h1c⟩
              all_goals
                go_wp2_with fail
                go_round
                case rel => exact ⟨k + 1, N * 128 + x % 128, by omega, by go_num, by go_num, HP.out, by have := h2'.out; omega, HR.out.trans (HStep.out HH1.out h2'.out h3'.out)⟩
                case measure => simp [intOf]; omega
      · go_wp2_with (go_at_call 106; refine (fail_any _ HW.out).mono ?_; rintro e w' ⟨rfl, rfl⟩)
        go_ret
        rw [ResSc, HS.out, HR.out, rdNum_short (by omega)]
        exact ⟨rfl, HW.out.setErr 2 (by omega), hf1.setCell (.inl rfl) _⟩
  · have HS : Hid (scNum l at_ err = (0, at_, err)) := Lib.hid (by simp [scNum, her])
    have hb : (err == 0) = false := by simpa using her
    have hb' : (err != 0) = true := by simpa using her
    clear h
    go_enter Tryz.func68, Tryz.ntmps68
    go_wp2_with (go_at_call 104; refine (made_any HH.out).mono ?_; rintro e w' ⟨rfl, rfl⟩)
    go_ret
    rw [ResSc, HS.out]
    exact ⟨rfl, HH.out, Fr.refl _ _⟩
end Go.Proofs.YtfjpenbahoeklaaGreatDoor
namespace Go.Proofs.YtfjpenbahoeklaaGreatDoor
open Go.RowKit

/-- string(b) of a slice that reads as l. -/
theorem run_conv_bs {P : Program} {w : World} {src dst e : TypeId} (hs : P.underlying src = some (.slice e)) (he : P.underlying e = some (.int .u8)) (hd : P.underlying dst = some .string) {B n : Nat} {A : Option Addr} {l : List UInt8} (h : RdB w B A n l) (c : Nat) :
    (convert src dst (.slice A n c)).run P w = .ok (.string ⟨l.toArray⟩) w := by
  have hl := h.len
  subst hl
  rcases A with _ | a
  · have h0 : l.length = 0 := by
      rcases Nat.eq_zero_or_pos l.length with h0 | h0
      · exact h0
      · obtain ⟨b, off, e, _⟩ := h.2 h0; cases e
    obtain rfl : l = [] := List.eq_nil_of_length_eq_zero h0
    rw [run_convert_bytes_string w src dst e _ _ _ hs he hd]
    simp [Conv.bytesToString, Sem.run_pure]
    rfl
  · refine run_convert_bytes_back w src dst e a c l hs he hd fun j hj => ?_
    obtain ⟨b, off, e, _, hc⟩ := h.2 (by omega)
    injection e with e
    subst e
    rw [Addr.add_lit, hc j (by simpa using hj), List.getElem_map]
    rfl

/-- A Scan's state behind a call of Text. -/
def scText (most : Nat) (l : List UInt8) (at_ : Nat) (err : Int) : List UInt8 × Nat × Int :=
  if (scNum l at_ err).2.2 ≠ 0 then ([], at_, (scNum l at_ err).2.2)
  else if most < (scNum l at_ err).1 then ([], at_, 4)
  else if l.length - (scNum l at_ err).2.1 < (scNum l at_ err).1 then ([], at_, 2)
  else ((l.drop (scNum l at_ err).2.1).take (scNum l at_ err).1, (scNum l at_ err).2.1 + (scNum l at_ err).1, 0)
theorem scText_eq (most : Nat) (l : List UInt8) (at_ : Nat) (err : Int) : scText most l at_ err = if (scNum l at_ err).2.2 ≠ 0 then ([], at_, (scNum l at_ err).2.2)
  else if most < (scNum l at_ err).1 then ([], at_, 4)
  else if l.length - (scNum l at_ err).2.1 < (scNum l at_ err).1 then ([], at_, 2)
  else ((l.drop (scNum l at_ err).2.1).take (scNum l at_ err).1, (scNum l at_ err).2.1 + (scNum l at_ err).1, 0) := rfl
theorem scNum_stay {l : List UInt8} {at_ : Nat} {err : Int} (h : (scNum l at_ err).2.2 ≠ 0) : (scNum l at_ err).1 = 0 ∧ (scNum l at_ err).2.1 = at_ := by
  unfold scNum at h ⊢
  by_cases he : err = 0
  · rw [if_pos he] at h ⊢
    have := (rdNum_bound (l.drop at_) 0 0 (by simp) (by omega)).2.2.2 h
    exact ⟨this.1, by simp [this.2]⟩
  · rw [if_neg he]; exact ⟨rfl, rfl⟩
theorem scNum_bound (l : List UInt8) (at_ : Nat) (err : Int) : (scNum l at_ err).1 < 9223372036854775808 := by
  unfold scNum
  by_cases he : err = 0
  · rw [if_pos he]; exact (rdNum_bound (l.drop at_) 0 0 (by simp) (by omega)).1
  · rw [if_neg he]; simp

set_option maxRecDepth 100000 in
set_option maxHeartbeats 1000000 in
theorem scanText_any {w : World} {sb pb c at_ : Nat} {A : Option Addr} {l : List UInt8} {err : Int} (most : Nat) (hmost : most ≤ 1000000000000) (h : ScanAt w sb pb A c l at_ err) :
    Calls Tryz.prog 70 #[.pointer (some ⟨sb, 0, none⟩), .int .i64 most] w (ResSc w sb pb A c l (.string ⟨(scText most l at_ err).1.toArray⟩) (scText most l at_ err).2.1 (scText most l at_ err).2.2) := by
  have hc := blk_cell h.sc
  have hct := blk_cell h.st
  have hst := @scNum_stay l at_ err
  have hbd := scNum_bound l at_ err
  have HT := Lib.hid (scText_eq most l at_ err)
  have hle0 := h.le
  have HH := Lib.hid h
  clear h
  go_enter Tryz.func70, Tryz.ntmps70
  go_wp2_with (go_at_call 104; refine (made_any HH.out).mono ?_; rintro e w' ⟨rfl, rfl⟩)
  refine (scanNumber_any HH.out).mono ?_
  rintro e w1 ⟨rfl, hs1, hf1⟩
  clear hc hct
  generalize scNum l at_ err = q at *
  obtain ⟨n, at1, e1⟩ := q
  simp only at hst hbd HT hs1 ⊢
  have HS1 := Lib.hid hs1
  have hc1 := blk_cell hs1.sc
  have hct1 := blk_cell hs1.st
  have hfz := blk_frozen hs1.st 1
  have hle1 := hs1.le
  clear hs1
  by_cases he : e1 = 0
  · subst he
    by_cases h1 : most < n
    · have h1i : (most : Int) < (n : Int) := by omega
      have HH1 := Lib.hid h1
      clear h1 hst
      go_wp2_with fail
      refine (err_any HS1.out).mono ?_
      rintro e w' ⟨rfl, rfl⟩
      go_wp2_with fail
      refine (fail_any _ (HS1.out.setAt at_ hle0)).mono ?_
      rintro e w' ⟨rfl, rfl⟩
      go_wp2_with fail
      go_ret
      rw [HT.out, if_neg (by simp), if_pos HH1.out]
      exact ⟨rfl, (HS1.out.setAt at_ hle0).setErr 4 (by omega), (hf1.setCell (.inr rfl) _).setCell (.inl rfl) _⟩
    · have h1i : ¬ (most : Int) < (n : Int) := by omega
      have HH1 := Lib.hid h1
      clear h1 hst
      by_cases h2 : l.length - at1 < n
      · have HH2 := Lib.hid h2
        go_wp2_with fail
        refine (err_any HS1.out).mono ?_
        rintro e w' ⟨rfl, rfl⟩
        go_wp2_with fail
        refine (left_any HS1.out).mono ?_
        rintro e w' ⟨rfl, nq, rfl⟩
        have h2i : ((l.length - at1 : Nat) : Int) < (n : Int) := by omega
        have HD := Lib.hid (HS1.out.drewN nq)
        have hc2 : ∀ j, (w1.drewN nq).cell? ⟨sb, j, none⟩ = _ := blk_cell HD.out.sc
        have hct2 : ∀ j, (w1.drewN nq).cell? ⟨pb, j, none⟩ = _ := blk_cell HD.out.st
        have hfz2 := blk_frozen HD.out.st 1
        have hf2 := hf1.drewN nq
        clear h2 hc1 hct1 hfz
        generalize w1.drewN nq = w2 at *
        go_wp2_with fail
        refine (fail_any _ (HD.out.setAt at_ hle0)).mono ?_
        rintro e w' ⟨rfl, rfl⟩
        go_wp2_with fail
        go_ret
        rw [HT.out, if_neg (by simp), if_neg HH1.out, if_pos HH2.out]
        exact ⟨rfl, (HD.out.setAt at_ hle0).setErr 2 (by omega), (hf2.setCell (.inr rfl) _).setCell (.inl rfl) _⟩
      · have HH2 := Lib.hid h2
        go_wp2_with fail
        refine (err_any HS1.out).mono ?_
        rintro e w' ⟨rfl, rfl⟩
        go_wp2_with fail
        refine (left_any HS1.out).mono ?_
        rintro e w' ⟨rfl, nq, rfl⟩
        have h2i : ¬ ((l.length - at1 : Nat) : Int) < (n : Int) := by omega
        have HD := Lib.hid (HS1.out.drewN nq)
        have hc2 : ∀ j, (w1.drewN nq).cell? ⟨sb, j, none⟩ = _ := blk_cell HD.out.sc
        have hct2 : ∀ j, (w1.drewN nq).cell? ⟨pb, j, none⟩ = _ := blk_cell HD.out.st
        have hfz2 := blk_frozen HD.out.st 1
        have hf2 := hf1.drewN nq
        have hsum : (at1 : Int) + (n : Int) ≤ 70368744177664 := by have := HS1.out.len; omega
        clear h2 hc1 hct1 hfz
        generalize w1.drewN nq = w2 at *
        go_wp2_with fail
        have HD3 := HD.out.setAt (at1 + n) (by omega)
        rw [show (((at1 + n : Nat)) : Int) = (at1 : Int) + (n : Int) by omega] at HD3
        have hf3 := hf2.setCell (p := ⟨pb, 1, none⟩) (.inr rfl) (.int .i64 ((at1 : Int) + (n : Int)))
        clear hc2 hct2 hfz2 hf2
        generalize w2.setCell ⟨pb, 1, none⟩ (.int .i64 ((at1 : Int) + (n : Int))) = w3 at *
        have hc3 : ∀ j, w3.cell? ⟨sb, j, none⟩ = _ := blk_cell HD3.sc
        have hct3 : ∀ j, w3.cell? ⟨pb, j, none⟩ = _ := blk_cell HD3.st
        have hrd : RdB w3 pb (cutA A c at1 1) n ((l.drop at1).take n) := by
          have h1 := (Rd.cut HD3.rd hle1 HD3.cap).take (k := n) (by omega)
          rw [RdB, List.map_take, List.map_drop]
          simpa [cutA] using h1
        have hcv := fun (k : Nat) => run_conv_bs (P := Tryz.prog) (w := w3.drewN k) Tryz.underlying73 Tryz.underlying5 Tryz.underlying9 (show RdB (w3.drewN k) pb _ n _ from hrd) (c - at1)
        have hb1 : (0 : Int) ≤ (at1 : Int) := by omega
        have hb2 : (at1 : Int) ≤ (at1 : Int) + (n : Int) := by omega
        have hb3 : (at1 : Int) + (n : Int) ≤ (c : Int) := by have := HD3.cap; omega
        have HD4 := Lib.hid HD3
        clear HD3 hrd
        by_cases hca : c = at1
        · have hcu : cutA A c at1 1 = A := by simp [cutA, hca]
          rw [hcu] at hcv
          subst hca
          obtain rfl : n = 0 := by omega
          simp only [Nat.sub_self] at hcv
          go_quiet (fail)
          go_wp2_with fail
          go_ret
          rw [HT.out, if_neg (by simp), if_neg HH1.out, if_neg HH2.out]
          exact ⟨rfl, HD4.out.drewN _, hf3.drewN _⟩
        · have hcu : cutA A c at1 1 = A.map (·.add at1) := by simp [cutA, hca]
          rw [hcu] at hcv
          go_quiet (fail)
          go_wp2_with fail
          go_ret
          rw [HT.out, if_neg (by simp), if_neg HH1.out, if_neg HH2.out]
          exact ⟨rfl, HD4.out.drewN _, hf3.drewN _⟩
  · have hb : (e1 != 0) = true := by simpa using he
    obtain ⟨rfl, rfl⟩ := hst he
    have HE := Lib.hid he
    clear he hst
    go_wp2_with (go_at_call 71; refine (err_any HS1.out).mono ?_; rintro e w' ⟨rfl, rfl⟩)
    go_ret
    rw [HT.out, if_pos HE.out]
    exact ⟨rfl, HS1.out, hf1⟩

/-- A Scan's error behind a call of End. -/
def scEnd (l : List UInt8) (at_ : Nat) (err : Int) : Int := if err = 0 ∧ at_ < l.length then 3 else err
set_option maxRecDepth 100000 in
set_option maxHeartbeats 1000000 in
theorem scanEnd_any {w : World} {sb pb c at_ : Nat} {A : Option Addr} {l : List UInt8} {err : Int} (h : ScanAt w sb pb A c l at_ err) :
    Calls Tryz.prog 72 #[.pointer (some ⟨sb, 0, none⟩)] w (ResSc w sb pb A c l (.int .i64 (scEnd l at_ err)) at_ (scEnd l at_ err)) := by
  have HH := Lib.hid h
  have hlen := h.len
  clear h
  by_cases he : err = 0
  · subst he
    by_cases hlt : at_ < l.length
    · have HS : Hid (scEnd l at_ 0 = 3) := Lib.hid (by simp [scEnd, hlt])
      have hi : (0 : Int) < ((l.length - at_ : Nat) : Int) := by omega
      go_enter Tryz.func72, Tryz.ntmps72
      go_wp2_with fail
      refine (err_any HH.out).mono ?_
      rintro e w' ⟨rfl, rfl⟩
      go_wp2_with fail
      refine (left_any HH.out).mono ?_
      rintro e w' ⟨rfl, nq, rfl⟩
      have HD := Lib.hid (HH.out.drewN nq)
      have hf2 := (Fr.refl (SP sb pb) w).drewN nq
      generalize w.drewN nq = w2 at *
      go_wp2_with fail
      refine (fail_any _ HD.out).mono ?_
      rintro e w' ⟨rfl, rfl⟩
      go_wp2_with fail
      refine (err_any (HD.out.setErr 3 (by omega))).mono ?_
      rintro e w' ⟨rfl, rfl⟩
      go_wp2_with fail
      go_ret
      rw [ResSc, HS.out]
      exact ⟨rfl, HD.out.setErr 3 (by omega), hf2.setCell (.inl rfl) _⟩
    · have HS : Hid (scEnd l at_ 0 = 0) := Lib.hid (by simp [scEnd, hlt])
      have hi : ((l.length - at_ : Nat) : Int) = 0 := by omega
      go_enter Tryz.func72, Tryz.ntmps72
      go_wp2_with fail
      refine (err_any HH.out).mono ?_
      rintro e w' ⟨rfl, rfl⟩
      go_wp2_with fail
      refine (left_any HH.out).mono ?_
      rw [hi]
      clear hi
      rintro e w' ⟨rfl, nq, rfl⟩
      have HD := Lib.hid (HH.out.drewN nq)
      have hf2 := (Fr.refl (SP sb pb) w).drewN nq
      generalize w.drewN nq = w2 at *
      go_wp2_with fail
      refine (err_any HD.out).mono ?_
      rintro e w' ⟨rfl, rfl⟩
      go_wp2_with fail
      go_ret
      rw [ResSc, HS.out]
      exact ⟨rfl, HD.out, hf2⟩
  · have HS : Hid (scEnd l at_ err = err) := Lib.hid (by simp [scEnd, he])
    have hb : (err == 0) = false := by simpa using he
    clear he
    go_enter Tryz.func72, Tryz.ntmps72
    go_wp2_with fail
    refine (err_any HH.out).mono ?_
    rintro e w' ⟨rfl, rfl⟩
    go_wp2_with fail
    refine (err_any HH.out).mono ?_
    rintro e w' ⟨rfl, rfl⟩
    go_wp2_with fail
    go_ret
    rw [ResSc, HS.out]
    exact ⟨rfl, HH.out, Fr.refl _ _⟩

/-- What Over leaves. -/
def ResOver (w : World) (l : List UInt8) (e : Ending) (w' : World) : Prop :=
  ∃ sb pb A c, e = .returned (.pointer (some ⟨sb, 0, none⟩)) ∧ w.heap.size ≤ pb ∧ ScanAt w' sb pb A c l 0 0 ∧ Below w.heap.size w w'
theorem own_cap {w : World} {base : Nat} {e : TypeId} {size n c : Nat} {A : Option Addr} {xs : List Value} (h : w.ownsRow base e size (.slice A n c) n xs) : n ≤ c := by
  rcases h.2 with ⟨h0, h1⟩ | ⟨g, cap, cur, hv, _, _, hc, _⟩
  · omega
  · injection hv; omega
set_option maxRecDepth 100000 in
set_option maxHeartbeats 1000000 in
theorem over_any (A : Option Addr) (n cap B : Nat) (l : List UInt8) (w : World) (hB : B ≤ w.heap.size) (hbig : n ≤ 70368744177664) (hr : RdB w B A n l) :
    Calls Tryz.prog 67 #[.slice A n cap] w (ResOver w l) := by
  have hlen := hr.len
  subst hlen
  go_enter Tryz.func67, Tryz.ntmps67
  go_wp2_with fail
  have hp : RdP (w.alloc (.cells #[.slice A l.length cap] 73)) (w.heap.size + 1) (some ⟨w.heap.size, 0, none⟩) 1 [⟨A, l.length, cap, l⟩] := by
    refine ⟨Rd.new rfl (by simp) (by simp [Part.val]), fun p hp => ?_⟩
    simp only [List.mem_cons, List.not_mem_nil, or_false] at hp
    subst hp
    exact Rd.alloc hr _ hB (by omega)
  refine (join_any _ _ _ _ _ _ (by simp) (by simp [total]; omega) (by omega) hp).mono ?_
  rintro e w2 ⟨A2, c2, rfl, hown, hb2⟩
  rw [show joined [⟨A, l.length, cap, l⟩] = l from by simp [joined]] at hown ⊢
  have hb1 : Below w.heap.size w w2 := ((Below.refl _ _).alloc (Nat.le_refl _) _).trans (hb2.mono (by simp))
  have HO := Lib.hid hown
  have HP := Lib.hid (RdB.of_own hown)
  have hsz := hb1.size
  clear hown hp hb2 hr
  go_wp2_with fail
  go_ret
  refine ⟨w2.heap.size + 1, w2.heap.size, A2, c2, rfl, hsz, ⟨heap_at (by simp), ?_, by omega, own_cap HO.out, ?_, by omega, by omega, by omega⟩, (hb1.alloc hsz _).alloc (by simp; omega) _⟩
  · exact blk_below ((Below.refl _ _).alloc (Nat.le_refl _) _) (by simp) (heap_alloc_new w2 _)
  · exact (Rd.alloc HP.out _ (Nat.le_refl _) (Nat.le_refl _)).alloc _ (by simp) (Nat.le_refl _)
end Go.Proofs.YtfjpenbahoeklaaGreatDoor
namespace Go.Proofs.YtfjpenbahoeklaaGreatDoor
open Go.RowKit

set_option maxHeartbeats 400000 in
theorem within_int (lo hi : Int) (A : Option Addr) (n cap B : Nat) (zs : List Int) (w : World) (hbig : zs.length ≤ 140737488355328)
    (hn : zs.length = n) (hr : Rd w B 1 A n (zs.map (Value.int .i64))) :
    Calls Tryz.prog 133 #[.int .i64 lo, .int .i64 hi, .slice A n cap] w fun e w' => e = .returned (.bool (allIn lo hi zs)) ∧ w = w' := by
  subst hn
  go_enter Tryz.func133, Tryz.ntmps133
  go_wp2
  go_loop [11] (fun i => ∃ k : Nat, k ≤ zs.length ∧ i = .int .i64 k ∧ (zs.take k).all (inB lo hi) = true) (fun i => zs.length - (intOf i).toNat)
  case atStart => exact ⟨0, by omega, rfl, by simp⟩
  case round =>
    obtain ⟨k, hk, rfl, ha⟩ := hrel
    have HA := Lib.hid ha; clear ha
    by_cases hlt : k < zs.length
    · obtain ⟨b, off, rfl, _, hcell⟩ := hr.at_ (k := k) hlt (by simpa using hlt)
      rw [List.getElem_map] at hcell
      clear hr
      go_wp2
      · go_ret
        exact ⟨ret_bool (all_false_of _ _ k hlt (inB_f (by assumption))).symm, rfl⟩
      · go_round
        case rel => exact ⟨k + 1, by omega, by go_num, by rw [all_take_succ _ _ k hlt, HA.out, inB_t (by omega) (by omega)]; rfl⟩
        case measure => simp [intOf]; omega
      · go_ret
        exact ⟨ret_bool (all_false_of _ _ k hlt (inB_f (.inl (by assumption)))).symm, rfl⟩
    · clear hr
      go_wp2
      go_ret
      have e : zs.take k = zs := List.take_of_length_le (by omega)
      exact ⟨ret_bool (by unfold allIn; rw [← HA.out, e]), rfl⟩

set_option maxHeartbeats 400000 in
theorem within_byte (lo hi : Int) (A : Option Addr) (n cap B : Nat) (zs : List UInt8) (w : World) (hbig : zs.length ≤ 140737488355328)
    (hn : zs.length = n) (hr : Rd w B 1 A n (zs.map fun c => Value.int .u8 c.toNat)) :
    Calls Tryz.prog 132 #[.int .u8 lo, .int .u8 hi, .slice A n cap] w fun e w' => e = .returned (.bool (allBytes lo hi zs)) ∧ w = w' := by
  subst hn
  go_enter Tryz.func132, Tryz.ntmps132
  go_wp2
  go_loop [11] (fun i => ∃ k : Nat, k ≤ zs.length ∧ i = .int .i64 k ∧ (zs.take k).all (fun c => inB lo hi c.toNat) = true) (fun i => zs.length - (intOf i).toNat)
  case atStart => exact ⟨0, by omega, rfl, by simp⟩
  case round =>
    obtain ⟨k, hk, rfl, ha⟩ := hrel
    have HA := Lib.hid ha; clear ha
    by_cases hlt : k < zs.length
    · obtain ⟨b, off, rfl, _, hcell⟩ := hr.at_ (k := k) hlt (by simpa using hlt)
      rw [List.getElem_map] at hcell
      clear hr
      go_wp2
      · go_ret
        exact ⟨ret_bool (all_false_of _ _ k hlt (inB_f (by assumption))).symm, rfl⟩
      · go_round
        case rel => exact ⟨k + 1, by omega, by go_num, by rw [all_take_succ _ _ k hlt, HA.out]; rw [inB_t (by omega) (by omega)]; rfl⟩
        case measure => simp [intOf]; omega
      · go_ret
        exact ⟨ret_bool (all_false_of _ _ k hlt (inB_f (.inl (by assumption)))).symm, rfl⟩
    · clear hr
      go_wp2
      go_ret
      have e : zs.take k = zs := List.take_of_length_le (by omega)
      exact ⟨ret_bool (by unfold allBytes; rw [← HA.out, e]), rfl⟩
end Go.Proofs.YtfjpenbahoeklaaGreatDoor
namespace Go.Proofs.YtfjpenbahoeklaaGreatDoor
open Go.RowKit

set_option maxRecDepth 100000 in
set_option maxHeartbeats 400000 in
theorem check_any (s : Sp) (w : World) (hs : s.nm.size ≤ 140737488355328) :
    Calls Tryz.prog 108 #[s.val] w fun e w' => e = .returned (.int .i64 s.check) ∧ Below w.heap.size w w' := by
  go_enter Tryz.func108, Tryz.ntmps108
  go_wp2_with fail
  · have h1 : (1 : Int) ≤ s.nm.size := by assumption
    have h2 : (s.nm.size : Int) ≤ 32 := by assumption
    refine upon_conv_sb Tryz.underlying9 Tryz.underlying73 Tryz.underlying5 ?_
    intro cap w1 _ hb hz hr
    have hB := blk_cell (blk_below hb (by simp) (heap_alloc_new w _))
    have hb1 : Below w.heap.size w w1 := ((Below.refl _ _).alloc (Nat.le_refl _) _).trans (hb.mono (by simp))
    simp only [World.size_alloc] at hz hr
    clear hb
    have hz1 : w.heap.size < w1.heap.size := by omega
    go_wp2_with fail
    refine (within_byte _ _ _ _ _ _ s.nm.data.toList _ (by simpa using hs) rfl hr).mono ?_
    rintro e w2 ⟨rfl, rfl⟩
    clear hr
    cases hq1 : allBytes 33 126 s.nm.data.toList
    · go_wp2_with fail
      go_ret
      exact ⟨ret_int (Sp.check_f (by simp [Sp.ok, hq1])).symm, hb1⟩
    · go_wp2_with fail
      refine (within_int _ _ _ _ _ _ [s.tr, s.id] _ (by simp) rfl (Rd.new (by simp) (by simp) (by simp))).mono ?_
      rintro e w3 ⟨rfl, rfl⟩
      have hb2 := hb1.alloc (by omega) (.cells #[.int .i64 s.tr, .int .i64 s.id] 3)
      cases hq2 : allIn 1 1099511627776 [s.tr, s.id]
      · go_wp2_with fail
        go_ret
        exact ⟨ret_int (Sp.check_f (by simp [Sp.ok, hq2])).symm, hb2⟩
      · go_wp2_with fail
        refine (within_int _ _ _ _ _ _ [s.pa, s.st, s.en] _ (by simp) rfl (Rd.new (by simp) (by simp) (by simp))).mono ?_
        rintro e w3 ⟨rfl, rfl⟩
        have hb3 := hb2.alloc (by simp; omega) (.cells #[.int .i64 s.pa, .int .i64 s.st, .int .i64 s.en] 3)
        cases hq3 : allIn 0 1099511627776 [s.pa, s.st, s.en]
        · go_wp2_with fail
          go_ret
          exact ⟨ret_int (Sp.check_f (by simp [Sp.ok, hq3])).symm, hb3⟩
        · cases h4 : s.pa == s.id
          · have n4 : s.pa ≠ s.id := by simpa using h4
            by_cases h5 : s.st ≤ s.en
            · have h5' : ¬ s.en < s.st := by omega
              have HN := Lib.hid n4; clear n4
              go_wp2_with fail
              go_ret
              exact ⟨ret_int (Sp.check_t (by have n4 := HN.out; simp [Sp.ok, hq1, hq2, hq3, n4, h5]; omega)).symm, hb3⟩
            · have h5' : s.en < s.st := by omega
              have HN := Lib.hid n4; clear n4
              go_wp2_with fail
              go_ret
              exact ⟨ret_int (Sp.check_f (by simp [Sp.ok, h5])).symm, hb3⟩
          · have n4 : s.pa = s.id := by simpa using h4
            have HN := Lib.hid n4; clear n4
            go_wp2_with fail
            go_ret
            exact ⟨ret_int (Sp.check_f (by simp [Sp.ok, HN.out])).symm, hb3⟩
  · have h2 : (32 : Int) < s.nm.size := by assumption
    go_ret
    exact ⟨ret_int (Sp.check_f (by simp [Sp.ok]; intros; omega)).symm, (Below.refl _ _).alloc (Nat.le_refl _) _⟩
  · have h2 : (s.nm.size : Int) < 1 := by assumption
    go_ret
    exact ⟨ret_int (Sp.check_f (by simp [Sp.ok]; intros; omega)).symm, (Below.refl _ _).alloc (Nat.le_refl _) _⟩
end Go.Proofs.YtfjpenbahoeklaaGreatDoor
namespace Go.Proofs.YtfjpenbahoeklaaGreatDoor
open Go.RowKit

def numsEnc (zs : List Int) : List UInt8 := zs.flatMap fun z => digits z.toNat
def Sp.nums (s : Sp) : List Int := [s.tr, s.id, s.pa, s.st, s.en - s.st]
/-- A span's bytes. -/
def Sp.enc (s : Sp) : List UInt8 := numsEnc s.nums ++ digits s.nm.size ++ s.nm.data.toList
theorem numsEnc_take (zs : List Int) (k : Nat) (h : k < zs.length) : numsEnc (zs.take (k + 1)) = numsEnc (zs.take k) ++ digits (zs[k]).toNat := by
  rw [List.take_succ_eq_append_getElem h]; simp only [numsEnc, List.flatMap_append, List.flatMap_cons, List.flatMap_nil, List.append_nil]
theorem numsEnc_len (zs : List Int) (hz : ∀ z ∈ zs, z ≤ 9223372036854775807) : (numsEnc zs).length ≤ 9 * zs.length := by
  induction zs with
  | nil => simp [numsEnc]
  | cons z zs ih =>
    have h1 := digits_len (n := z.toNat) (by have := hz z (by simp); omega)
    have h2 := ih fun z h => hz z (by simp [h])
    simp only [numsEnc, List.flatMap_cons, List.length_append, List.length_cons] at h2 ⊢
    omega
theorem Sp.ok_parts {s : Sp} (h : s.ok = true) : 1 ≤ s.nm.size ∧ s.nm.size ≤ 32 ∧ 1 ≤ s.tr ∧ s.tr ≤ 1099511627776 ∧ 1 ≤ s.id ∧ s.id ≤ 1099511627776 ∧ 0 ≤ s.pa ∧ s.pa ≤ 1099511627776 ∧ 0 ≤ s.st ∧ s.st ≤ 1099511627776 ∧ 0 ≤ s.en ∧ s.en ≤ 1099511627776 ∧ s.pa ≠ s.id ∧ s.st ≤ s.en := by
  simp only [Sp.ok, Bool.and_eq_true, decide_eq_true_eq, allIn, List.all_cons, List.all_nil, inB_iff, Bool.and_true] at h
  obtain ⟨⟨⟨⟨⟨⟨h1, h2⟩, h3⟩, h4, h5⟩, h6, h7, h8⟩, h9⟩, h10⟩ := h
  omega
theorem Sp.nums_ok {s : Sp} (h : s.ok = true) : ∀ z ∈ s.nums, 0 ≤ z ∧ z ≤ 1099511627776 := by
  have := Sp.ok_parts h
  intro z hz
  simp only [Sp.nums, List.mem_cons, List.not_mem_nil, or_false] at hz
  rcases hz with rfl | rfl | rfl | rfl | rfl <;> omega
theorem Sp.enc_len {s : Sp} (h : s.ok = true) : s.enc.length ≤ 86 := by
  have h1 := numsEnc_len s.nums fun z hz => by have := Sp.nums_ok h z hz; omega
  have h2 := Sp.ok_parts h
  have h3 := digits_len (n := s.nm.size) (by omega)
  have h4 : s.nums.length = 5 := rfl
  simp only [Sp.enc, List.length_append, Array.length_toList, ByteArray.size_data]
  omega

set_option maxRecDepth 100000 in
set_option maxHeartbeats 1000000 in
theorem put_any (A : Option Addr) (m cap B : Nat) (l : List UInt8) (s : Sp) (w : World) (hB : B ≤ w.heap.size) (hbig : m ≤ 17592186044416) (hs : s.ok = true) (hr : RdB w B A m l) :
    Calls Tryz.prog 126 #[.slice A m cap, s.val] w (ResB w (l ++ s.enc)) := by
  have hp := Sp.ok_parts hs
  have hnk := Sp.nums_ok hs
  have hlen := hr.len
  have HL := Lib.hid hlen
  clear hlen
  have hen : (0 : Int) ≤ s.en - s.st ∧ s.en - s.st ≤ 1099511627776 := by omega
  go_enter Tryz.func126, Tryz.ntmps126
  go_wp2_with fail
  go_loopw [0, 22] (fun v i wr => ∃ k : Nat, k ≤ 5 ∧ i = .int .i64 k ∧ ∃ A' c B', v = .slice A' (l ++ numsEnc (s.nums.take k)).length c ∧ B' ≤ wr.heap.size ∧ RdB wr B' A' (l ++ numsEnc (s.nums.take k)).length (l ++ numsEnc (s.nums.take k)) ∧
      wr.heap[w.heap.size]? = some (.cells #[.int .i64 s.tr, .int .i64 s.id, .int .i64 s.pa, .int .i64 s.st, .int .i64 s.en, .string s.nm] 93 (0, 0)) ∧
      wr.heap[w.heap.size + 1]? = some (.cells (s.nums.map (Value.int .i64)).toArray 3 (0, 0)) ∧ Below w.heap.size w wr) (fun _ i _ => 5 - (intOf i).toNat)
  case atStart => 
    refine ⟨0, by omega, rfl, A, cap, B, by simp [numsEnc, HL.out], by simp; omega, ?_, ?_, ?_, ?_⟩
    · have e : l ++ numsEnc (s.nums.take 0) = l := by simp [numsEnc]
      rw [e, HL.out]
      exact (Rd.alloc hr _ hB (Nat.le_refl _)).alloc _ (by simp; omega) (Nat.le_refl _)
    · exact blk_below ((Below.refl _ _).alloc (Nat.le_refl _) _) (by simp) (heap_alloc_new w _)
    · exact heap_at (by simp)
    · exact ((Below.refl _ _).alloc (Nat.le_refl _) _).alloc (by simp) _
  case round =>
    obtain ⟨k, hk, rfl, A', c, B', rfl, hB', hrd, h1, h2, hb⟩ := hrel
    have hk1 := numsEnc_len (s.nums.take k) fun z hz => by have := hnk z (List.mem_of_mem_take hz); omega
    have hk2 : (s.nums.take k).length ≤ 5 := by simp [Sp.nums]; omega
    have hm : (l ++ numsEnc (s.nums.take k)).length ≤ 17592186044416 + 45 := by rw [List.length_append, HL.out]; omega
    have hsz := hb.size
    by_cases hlt : k < 5
    · have hkl : k < s.nums.length := hlt
      have hst : l ++ numsEnc (s.nums.take (k + 1)) = (l ++ numsEnc (s.nums.take k)) ++ digits (s.nums[k]).toNat := by rw [numsEnc_take _ _ hkl, List.append_assoc]
      obtain ⟨N, hN⟩ := Int.eq_ofNat_of_zero_le (hnk _ (List.getElem_mem hkl)).1
      have hN2 := (hnk _ (List.getElem_mem hkl)).2
      have hcell : wr.cell? ⟨w.heap.size + 1, k, none⟩ = some (.int .i64 N) := by
        rw [cell_of_row wr _ _ _ _ _ h2]; simp [hkl, hN]
      rw [hN] at hst hN2
      rw [Int.toNat_natCast] at hst
      generalize l ++ numsEnc (s.nums.take k) = Lk at *
      have HS := Lib.hid hst
      have H1 := Lib.hid h1
      have H2 := Lib.hid h2
      clear hst h1 h2 hN hr
      go_wp2_with fail
      refine (number_nat _ _ _ _ _ _ _ hB' (by omega) (by omega) hrd).mono ?_
      rintro e w1 ⟨A1, c1, rfl, hown, hb1⟩
      rw [← HS.out] at hown ⊢
      generalize hL1 : l ++ numsEnc (s.nums.take (k + 1)) = L1 at hown ⊢
      have HL1 := Lib.hid hL1
      have HO := Lib.hid hown
      clear hown hL1 hrd
      go_wp2_with fail
      go_roundw
      case rel =>
        refine ⟨k + 1, by omega, by go_num, A1, c1, w1.heap.size, by rw [HL1.out], Nat.le_refl _, by rw [HL1.out]; exact RdB.of_own HO.out, blk_below hb1 ?_ H1.out, blk_below hb1 ?_ H2.out, hb.trans (hb1.mono hsz)⟩
        · exact (Array.getElem?_eq_some_iff.1 H1.out).1
        · exact (Array.getElem?_eq_some_iff.1 H2.out).1
      case measure => simp [intOf]; omega

    · obtain rfl : k = 5 := by omega
      have hcell : ∀ j, wr.cell? ⟨w.heap.size, j, none⟩ = _ := blk_cell h1
      have he : l ++ numsEnc (s.nums.take 5) ++ digits s.nm.size ++ s.nm.data.toList = l ++ s.enc := by
        rw [List.take_of_length_le (by simp [Sp.nums])]; simp [Sp.enc]
      generalize l ++ numsEnc (s.nums.take 5) = Lk at *
      have HE := Lib.hid he
      clear he h1 h2 hr
      go_wp2_with fail
      refine (text_any _ _ _ _ _ _ _ hB' (by omega) (by omega) hrd).mono ?_
      rintro e w1 ⟨A1, c1, rfl, hown, hb1⟩
      rw [HE.out] at hown ⊢
      generalize l ++ s.enc = L1 at *
      have HO := Lib.hid hown
      clear hown hrd
      go_wp2_with fail
      go_ret
      exact ⟨A1, c1, rfl, own_le HO.out hsz, hb.trans (hb1.mono hsz)⟩

/-- All spans' bytes, behind how many there are. -/
def encL (l : List Sp) : List UInt8 := l.flatMap Sp.enc
def putEnc (l : List Sp) : List UInt8 := digits l.length ++ encL l
theorem encL_take (l : List Sp) (k : Nat) (h : k < l.length) : encL (l.take (k + 1)) = encL (l.take k) ++ l[k].enc := by
  rw [List.take_succ_eq_append_getElem h]; simp only [encL, List.flatMap_append, List.flatMap_cons, List.flatMap_nil, List.append_nil]
theorem encL_len (l : List Sp) (h : ∀ s ∈ l, s.ok = true) : (encL l).length ≤ 86 * l.length := by
  induction l with
  | nil => simp [encL]
  | cons s l ih =>
    have h1 := Sp.enc_len (h s (by simp))
    have h2 := ih fun s hs => h s (by simp [hs])
    simp only [encL, List.flatMap_cons, List.length_append, List.length_cons] at h2 ⊢
    omega
/-- The answer of Put. -/
def putAns (l : List Sp) : List UInt8 × Int := if l.all Sp.ok then (putEnc l, 0) else ([], 30)
/-- What a call leaves that answers bytes and an error. -/
def ResBE (w : World) (r : List UInt8 × Int) (e : Ending) (w' : World) : Prop :=
  ∃ A c, e = .returned (.tuple #[.slice A r.1.length c, .int .i64 r.2]) ∧ w'.ownsRow w.heap.size 5 1 (.slice A r.1.length c) r.1.length (r.1.map u8v) ∧ Below w.heap.size w w'

set_option maxRecDepth 100000 in
set_option maxHeartbeats 1000000 in
theorem Put_any (A : Option Addr) (n cap B : Nat) (l : List Sp) (w : World) (hB : B ≤ w.heap.size) (hbig : n ≤ 4294967296) (hnm : ∀ s ∈ l, s.nm.size ≤ 140737488355328) (hr : RdS w B A n l) :
    Calls Tryz.prog 95 #[.slice A n cap] w (ResBE w (putAns l)) := by
  have hlen := hr.len
  subst hlen
  go_enter Tryz.func95, Tryz.ntmps95
  go_wp2_with fail
  refine (number_nat _ _ _ 0 [] _ _ (by omega) (by omega) (by omega) Rd.nil).mono ?_
  rintro e w1 ⟨A1, c1, rfl, hown, hb1⟩
  rw [List.nil_append] at hown ⊢
  have HO := Lib.hid (RdB.of_own hown)
  have hown' := hown
  clear hown
  have HOW := Lib.hid hown'
  clear hown'
  have hsz1 := hb1.size
  go_wp2_with fail
  go_loopw [4, 13] (fun v i wr => ∃ k : Nat, k ≤ l.length ∧ i = .int .i64 k ∧ (l.take k).all Sp.ok = true ∧ ∃ A' c, v = .slice A' (digits l.length ++ encL (l.take k)).length c ∧
      wr.ownsRow w.heap.size 5 1 (.slice A' (digits l.length ++ encL (l.take k)).length c) (digits l.length ++ encL (l.take k)).length ((digits l.length ++ encL (l.take k)).map u8v) ∧ Below w.heap.size w wr) (fun _ i _ => l.length - (intOf i).toNat)
  case atStart =>
    refine ⟨0, by omega, rfl, rfl, A1, c1, by simp [encL], ?_, hb1⟩
    have e : digits l.length ++ encL (l.take 0) = digits l.length := by simp [encL]
    rw [e]; exact HOW.out
  case round =>
    obtain ⟨k, hk, rfl, hall, A', c, rfl, hown, hb⟩ := hrel
    have HA := Lib.hid hall
    clear hall
    by_cases hlt : k < l.length
    · obtain ⟨b, off, rfl, hbB, q0, q1, q2, q3, q4, q5⟩ := hr.at_ hlt
      have hbw : b < w.heap.size := by omega
      rw [← hb.cell hbw] at q0 q1 q2 q3 q4 q5
      have hsz := hb.size
      have hst : digits l.length ++ encL (l.take (k + 1)) = (digits l.length ++ encL (l.take k)) ++ l[k].enc := by rw [encL_take _ _ hlt, List.append_assoc]
      have hlk : (digits l.length ++ encL (l.take k)).length ≤ 1000000000000 := by
        have h1 := encL_len (l.take k) (fun s hs => List.all_eq_true.1 HA.out s hs)
        have h2 := digits_len (n := l.length) (by omega)
        rw [List.length_take] at h1
        rw [List.length_append]; omega
      generalize digits l.length ++ encL (l.take k) = Lk at *
      have HS := Lib.hid hst
      have HO2 := Lib.hid hown
      have hnk := hnm _ (List.getElem_mem hlt)
      have HTK := Lib.hid (all_take_succ l Sp.ok k hlt)
      have HALL : Hid (l[k].ok = false → l.all Sp.ok = false) := Lib.hid (all_false_of l Sp.ok k hlt)
      generalize l[k] = s at *
      clear hst hown hr hnm
      go_wp2_with fail
      refine (check_any s _ hnk).mono ?_
      rintro e w2 ⟨rfl, hb2⟩
      have hB2 := blk_cell (blk_below hb2 (by simp) (heap_alloc_new wr _))
      have hbw2 : Below wr.heap.size wr w2 := ((Below.refl _ _).alloc (Nat.le_refl _) _).trans (hb2.mono (by simp))
      have hzz : wr.heap.size < w2.heap.size := by have := hb2.size; simp at this; omega
      clear hb2
      cases hok : s.ok
      · have hc : s.check = 30 := Sp.check_f hok
        rw [hc]
        have HF := Lib.hid (HALL.out hok)
        clear hok hc
        go_wp2_with fail
        go_ret2
        refine ⟨none, 0, ?_, ?_, hb.trans (hbw2.mono hsz)⟩
        · simp [putAns, HF.out]
        · have e : (putAns l).1 = [] := by simp [putAns, HF.out]
          rw [e]
          exact World.ownsRow_nil _ _ _ _
      · have hc : s.check = 0 := Sp.check_t hok
        rw [hc]
        have HK := Lib.hid hok
        have hrd := RdB.of_own (own_below HO2.out hbw2)
        clear hok hc
        go_wp2_with fail
        refine (put_any _ _ _ _ _ s _ (Nat.le_refl _) (by omega) HK.out hrd).mono ?_
        rintro e w3 ⟨A3, c3, rfl, hown3, hb3⟩
        rw [← HS.out] at hown3 ⊢
        generalize hL3 : digits l.length ++ encL (l.take (k + 1)) = L3 at hown3 ⊢
        have HL3 := Lib.hid hL3
        have HO3 := Lib.hid hown3
        clear hL3 hown3 hrd
        go_wp2_with fail
        go_roundw
        case rel => exact ⟨k + 1, by omega, by go_num, by rw [HTK.out, HA.out, HK.out]; rfl, A3, c3, by rw [HL3.out], by rw [HL3.out]; exact own_le HO3.out (by omega), (hb.trans (hbw2.mono hsz)).trans (hb3.mono (by omega))⟩
        case measure => simp [intOf]; omega
    · have e : l.take k = l := List.take_of_length_le (by omega)
      rw [e] at HA hown ⊢
      have HP : Hid (putAns l = (digits l.length ++ encL l, 0)) := Lib.hid (by simp [putAns, HA.out, putEnc])
      generalize digits l.length ++ encL l = Lk at *
      have HO2 := Lib.hid hown
      clear hown e
      go_wp2_with fail
      go_ret2
      refine ⟨A', c, by rw [HP.out]; rfl, by rw [HP.out]; exact HO2.out, hb⟩
end Go.Proofs.YtfjpenbahoeklaaGreatDoor
