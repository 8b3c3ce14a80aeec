/-
  A forest that is being cloned: the map of its spans in another order; the map of who names whom on its way; a row of numbers copied. Conditions: plain lemmas; the clone's row reads as a list.
  The walk of a forest's Clone: another forest with the same spans. Conditions: the forest lies in memory as New and Add made it.
  A table of sessions in memory: its map of seats; what keeps it; the look-ups. No condition: plain lemmas over the library's own on maps.
  The walks of a table's methods: New, made, index, Open, Ask, Expire. Conditions: the table lies in memory as New made it.
  The walks of a table's further methods: a seat's numbers, Check, Keep, Expire. Conditions: the table lies in memory as New made it.
  An entry: its index, its term, its bytes. No condition.
  The plain side of a machine: what an entry does and answers. No condition.
  A machine in memory: its store, its table, its voters; what keeps it. Condition: the machine lies in memory as New made it.
  The walks of a machine's ingest. Conditions: the machine lies in memory as New made it; a command that may be, whose spans lie outside of the machine.
-/
import Derived.Test.YtfjpenbahoeklaaGreatDoorHForest2
import Derived.Test.YtfjpenbahoeklaaGreatDoorHStoreG
import Derived.Test.YtfjpenbahoeklaaGreatDoorHForest3
import Derived.Test.YtfjpenbahoeklaaGreatDoorHPut
import Derived.Lib.SlMapFilter
import Derived.Maps.RangeWalk
import Derived.Test.YtfjpenbahoeklaaGreatDoorHMachG
import Derived.Test.YtfjpenbahoeklaaGreatDoorHSorted
import Derived.Deep.DeepCutAuto
import Derived.Deep.CutBlock
namespace Go.Proofs.YtfjpenbahoeklaaGreatDoor
open Go Go.RowKit Go.Maps

theorem DOf.perm {D : DataW Sp} {L L' : List Sp} (h : DOf D L) (hn : (L'.map Sp.id).Nodup) (hp : L.Perm L') : DOf D L' := by
  have e := fun x => atS_perm hn hp x
  exact ⟨fun x => by rw [h.has, e], fun x s hs => h.at_ x s (by rw [e]; exact hs), by rw [h.size, hp.length_eq]⟩
theorem AllAt.perm {w : World} {a : Nat} {L L' : List Sp} (h : AllAt w a L) (hn : (L'.map Sp.id).Nodup) (hp : L.Perm L') : AllAt w a L' := by
  obtain ⟨D, h1, h2⟩ := h
  exact ⟨D, by rw [← hp.length_eq]; exact h1, h2.perm hn hp⟩
theorem own_shrink {H : Type} {w : World} {P : Program} {k : TypeId} {R : Value → Option (DataW H × List MemPlace)} {b n m : Nat} {D : DataW H} (h : w.ownsMap P k R b n D) (hm : Maps.size D ≤ m) : w.ownsMap P k R b m D := by
  obtain ⟨es, clock, hb, F, hs, rfl⟩ := h
  refine ⟨es, clock, hb, F, ?_, rfl⟩
  rw [size_eq, length_read] at hm
  exact hm

/-- Block d is the map of who names whom, as far as P says; its rows lie in S, no two in one block; cnt are still to come. -/
def PartDown (w : World) (d : Nat) (L : List Sp) (S : Nat → Prop) (P : Int → Prop) (cnt : Nat) : Prop :=
  ∃ (D : DataW Value) (G C : Int → Nat), w.ownsMap Tryz.prog 3 slElem d (Maps.size D) D ∧ Maps.size D + cnt ≤ L.length ∧ (∀ x, ¬ (P x ∧ kids L x ≠ []) → Maps.has D (.int .i64 x) = false) ∧
    (∀ x, P x → kids L x ≠ [] → (∀ z, D.atKey (.int .i64 x) z = .held (.slice (some ⟨G x, 0, none⟩) (kidIds L x).length (C x))) ∧
      w.ownsRow 0 3 1 (.slice (some ⟨G x, 0, none⟩) (kidIds L x).length (C x)) (kidIds L x).length ((kidIds L x).map (Value.int .i64)) ∧ S (G x)) ∧
    (∀ x y, P x → P y → kids L x ≠ [] → kids L y ≠ [] → G x = G y → x = y)
theorem PartDown.start {w : World} {d : Nat} {L : List Sp} {S S0 : Nat → Prop} {P : Int → Prop} {cnt : Nat} (h : DownAt w d [] S0) (hP : ∀ x, P x → kids L x = []) (hc : cnt ≤ L.length) : PartDown w d L S P cnt := by
  obtain ⟨D, G, C, h1, h2, _, _⟩ := h
  have hz : Maps.size D = 0 := Nat.le_zero.1 h1.size_le
  exact ⟨D, G, C, own_shrink h1 (Nat.le_refl _), by omega, fun x _ => h2 x rfl, fun x hx hk => absurd (hP x hx) hk, fun x y hx _ hk => absurd (hP x hx) hk⟩
theorem PartDown.done {w : World} {d : Nat} {L : List Sp} {S : Nat → Prop} {P : Int → Prop} {cnt : Nat} (h : PartDown w d L S P cnt) (hP : ∀ x, P x) : DownAt w d L S := by
  obtain ⟨D, G, C, h1, h2, h3, h4, h5⟩ := h
  exact ⟨D, G, C, h1.mono (by omega), fun x hx => h3 x (fun h => h.2 hx), fun x hx => h4 x (hP x) hx, fun x y hx hy => h5 x y (hP x) (hP y) hx hy⟩
theorem PartDown.lt {w : World} {d : Nat} {L : List Sp} {S : Nat → Prop} {P : Int → Prop} {cnt : Nat} (h : PartDown w d L S P cnt) : d < w.heap.size := by obtain ⟨D, G, C, h1, _⟩ := h; exact h1.lt
theorem PartDown.fr {w w' : World} {d : Nat} {L : List Sp} {S S2 : Nat → Prop} {P : Int → Prop} {cnt : Nat} (h : PartDown w d L S P cnt) (hf : Fr S2 w w') (hd : ¬ S2 d) (hS : ∀ k, S k → ¬ S2 k) : PartDown w' d L S P cnt := by
  have hlt := h.lt
  obtain ⟨D, G, C, h1, h2, h3, h4, h5⟩ := h
  refine ⟨D, G, C, owns_eq h1 (hf.block d hlt hd), h2, h3, fun x hp hx => ?_, h5⟩
  obtain ⟨a1, a2, a3⟩ := h4 x hp hx
  exact ⟨a1, own_eq a2 (hf.block _ (own_mem a2) (hS _ a3)), a3⟩
theorem PartDown.mono {w : World} {d : Nat} {L : List Sp} {S S2 : Nat → Prop} {P : Int → Prop} {cnt : Nat} (h : PartDown w d L S P cnt) (hS : ∀ k, S k → S2 k) : PartDown w d L S2 P cnt := by
  obtain ⟨D, G, C, h1, h2, h3, h4, h5⟩ := h
  exact ⟨D, G, C, h1, h2, h3, fun x hp hx => ⟨(h4 x hp hx).1, (h4 x hp hx).2.1, hS _ (h4 x hp hx).2.2⟩, h5⟩
theorem PartDown.step {w w1 : World} {d : Nat} {L : List Sp} {S : Nat → Prop} {P P' : Int → Prop} {cnt cnt' : Nat} (h : PartDown w d L S P cnt) {x : Int} (hP' : ∀ z, P' z ↔ P z ∨ z = x) (hx : wfI x) (hnp : ¬ P x) (hkx : kids L x ≠ []) (hL : L.length ≤ 64) (hcnt : cnt' < cnt) (hSlt : ∀ k, S k → k < w.heap.size) (hSd : ¬ S d)
    (hb : Below w.heap.size w w1) {g c : Nat} (hown : w1.ownsRow 0 3 1 (.slice (some ⟨g, 0, none⟩) (kidIds L x).length c) (kidIds L x).length ((kidIds L x).map (Value.int .i64))) (hg : w.heap.size ≤ g) :
    ∃ w2, (Instr.mapUpdate 235 (.map (some d)) (.int .i64 x) (.slice (some ⟨g, 0, none⟩) (kidIds L x).length c)).run Tryz.prog w1 = .ok () w2 ∧ PartDown w2 d L (fun k => S k ∨ (w.heap.size ≤ k ∧ k < w2.heap.size)) P' cnt' ∧ w1.grownBy w2 (some d) := by
  have hdl := h.lt
  obtain ⟨D, G, C, h1, h2, h3, h4, h5⟩ := h
  have h1' : w1.ownsMap Tryz.prog 3 slElem d (Maps.size D) D := owns_eq h1 (hb.block d hdl)
  obtain ⟨w2, hrun2, hown2, hg2⟩ := h1'.update keyLaw Tryz.underlying235 (by unfold maxLen; omega) (keyI hx) (val := .slice (some ⟨g, 0, none⟩) (kidIds L x).length c) (d := .held (.slice (some ⟨g, 0, none⟩) (kidIds L x).length c)) (ps := []) rfl
  have hhas : Maps.has D (.int .i64 x) = false := h3 x (fun h => hnp h.1)
  have hsz : Maps.size (D.put (.int .i64 x) (.held (.slice (some ⟨g, 0, none⟩) (kidIds L x).length c))) = Maps.size D + 1 := by rw [size_put (h1.tidy keyLaw), hhas]; rfl
  have hgl := own_mem hown
  have hz2 := hg2.size
  refine ⟨w2, hrun2, ⟨_, fun y => if y = x then g else G y, fun y => if y = x then c else C y, own_shrink hown2 (Nat.le_refl _), by rw [hsz]; omega, ?_, ?_, ?_⟩, hg2⟩
  · intro y hy
    by_cases hyx : y = x
    · subst hyx; exact absurd ⟨(hP' y).2 (.inr rfl), hkx⟩ hy
    · rw [has_put_other (ne_lit hyx)]
      exact h3 y (fun hh => hy ⟨(hP' y).2 (.inl hh.1), hh.2⟩)
  · intro y hy hky
    by_cases hyx : y = x
    · subst hyx
      simp only [if_true]
      exact ⟨fun z => atKey_put_same h1'.isMap (litI hx) _ _, own_eq hown (hg2.block g hgl (by simp only [ne_eq, Option.some.injEq]; omega)), .inr ⟨hg, by omega⟩⟩
    · simp only [if_neg hyx]
      obtain ⟨a1, a2, a3⟩ := h4 y (((hP' y).1 hy).resolve_right hyx) hky
      have hlt := own_mem a2
      have hz1 := hb.size
      refine ⟨fun z => by rw [atKey_put_other (ne_lit hyx)]; exact a1 z, ?_, .inl a3⟩
      exact own_eq (own_eq a2 (hb.block _ hlt)) (hg2.block _ (by omega) (fun e => hSd (by injection e with e; rw [← e]; exact a3)))
  · intro y z hy hz hky hkz he
    by_cases hyx : y = x
    · by_cases hzx : z = x
      · rw [hyx, hzx]
      · simp only [if_pos hyx, if_neg hzx] at he
        have := hSlt _ (h4 z (((hP' z).1 hz).resolve_right hzx) hkz).2.2
        omega
    · by_cases hzx : z = x
      · simp only [if_neg hyx, if_pos hzx] at he
        have := hSlt _ (h4 y (((hP' y).1 hy).resolve_right hyx) hky).2.2
        omega
      · simp only [if_neg hyx, if_neg hzx] at he
        exact h5 y z (((hP' y).1 hy).resolve_right hyx) (((hP' z).1 hz).resolve_right hzx) hky hkz he

/-- What a call leaves that makes numbers. -/
def ResI (w : World) (l : List Int) (e : Ending) (w' : World) : Prop :=
  ∃ A c, e = .returned (.slice A l.length c) ∧ w'.ownsRow w.heap.size 3 1 (.slice A l.length c) l.length (l.map (Value.int .i64)) ∧ Below w.heap.size w w'

set_option maxRecDepth 100000 in
set_option maxHeartbeats 400000 in
theorem cloneInts_any (a : Addr) (n cap B : Nat) (l : List Int) (w : World) (hB : B ≤ w.heap.size) (hb : n ≤ 2513169434916) (hr : RdI w B (some a) n l) :
    Calls Tryz.prog 81 #[.slice (some a) n cap] w (ResI w l) := by
  obtain ⟨i0, hi0, hz0, hz1, hz2⟩ := info_parts Tryz.infoInt
  have hl := hr.len
  have HN := Lib.hid (own_new w #[] 3 0 1 rfl (by unfold maxLen; omega) w.heap.size (Nat.le_refl _))
  have HR : Hid (RdI (w.alloc (.cells #[] 3)) B (some a) n l) := Lib.hid (Rd.alloc hr _ hB (Nat.le_refl _))
  have HL := Lib.hid hl
  clear hl hr
  have hq := fun W : World => eql_nil (P := Tryz.prog) W 22 _ (some a) n cap Tryz.underlying22
  go_enter Tryz.func81, Tryz.ntmps81
  go_wp2_with (at_builtin; refine wpList_app _ rfl (.tmp 5) (.tmp 6) _ rfl w.heap.size 3 i0 _ 1 8 Tryz.underlying22 hi0 hz0 hz1 hz2 rfl (by omega) _ _ _ _ rfl HN.out B _ _ _ _ rfl HR.out (ints_one _) (by unfold maxLen; omega) (by omega) (by simp) ?_; intro A2 c2 w2 hown2 hg2 _)
  go_ret
  rw [List.nil_append, Nat.zero_add] at hown2
  exact ⟨A2, c2, by rw [HL.out]; rfl, by rw [HL.out]; exact hown2, below_app ((Below.refl _ _).alloc (Nat.le_refl _) _) HN.out hg2 (by simp)⟩
end Go.Proofs.YtfjpenbahoeklaaGreatDoor
namespace Go.Proofs.YtfjpenbahoeklaaGreatDoor
open Go Go.RowKit Go.Maps

theorem invL : ∀ (v : Value) (y : DataW Value × List MemPlace), slElem v = some y → ∃ c : Value, v = id c := fun v _ _ => ⟨v, rfl⟩
theorem not_come {L acc : List Sp} {left : Lit → Bool} (h : acc.Perm (come L left)) {s : Sp} (hl : left (.int .i64 s.id) = true) : atS acc s.id = none := by
  cases e : atS acc s.id with
  | none => rfl
  | some t =>
    obtain ⟨h1, h2⟩ := atS_some e
    have h3 := (List.mem_filter.1 (h.mem_iff.1 h1)).2
    rw [h2, hl] at h3
    cases h3
theorem left_step (left : Lit → Bool) (x z : Int) : (left (.int .i64 z) && !(Lit.int .i64 z).sameKey (.int .i64 x)) = false ↔ left (.int .i64 z) = false ∨ z = x := by
  by_cases h : z = x
  · subst h
    have e2 : (Lit.int .i64 z).sameKey (.int .i64 z) = true := by simp [Lit.sameKey]
    simp [e2]
  · rw [sameKey_ne (ne_lit h)]; simp [h]

theorem ranges_eq {H : Type} {P : Program} {k : TypeId} {R : Value → Option (DataW H × List MemPlace)} {w w' : World} {b r n : Nat} {D : DataW H} {left : Lit → Bool} {cnt : Nat} (h : w.ranges P k R b r n D left cnt) (hb : w'.heap[b]? = w.heap[b]?) (hr : w'.heap[r]? = w.heap[r]?) : w'.ranges P k R b r n D left cnt := by
  obtain ⟨es, clock, since, seen, c0, h1, h2, h3, h4, h5, h6⟩ := h
  exact ⟨es, clock, since, seen, c0, hb.trans h1, h2, h3, h4, hr.trans h5, h6⟩

end Go.Proofs.YtfjpenbahoeklaaGreatDoor
namespace Go.Proofs.YtfjpenbahoeklaaGreatDoor
open Go Go.RowKit Go.Maps

open Classical in
/-- A seat reads as itself. -/
noncomputable def seElem : Value → Option (DataW Value × List MemPlace) := fun v => if ∃ s : Se, v = s.val then some (.held v, []) else none
theorem seElem_val (s : Se) : seElem s.val = some (.held s.val, []) := if_pos ⟨s, rfl⟩
theorem seElem_inv {v : Value} {y : DataW Value × List MemPlace} (h : seElem v = some y) : ∃ s : Se, v = s.val ∧ y = (.held s.val, []) := by
  unfold seElem at h
  split at h
  · rename_i hs
    obtain ⟨s, rfl⟩ := hs
    exact ⟨s, rfl, (Option.some.inj h).symm⟩
  · cases h
/-- An entry of the map; the map. -/
def entS (s : Se) : Lit × DataW Value := (.int .i64 s.ss, .held s.val)
def mapS (L : List Se) : DataW Value := .map (L.map entS)
theorem same_key (x y : Int) : (Lit.int .i64 x).sameKey (.int .i64 y) = decide (x = y) := by simp [Lit.sameKey]
theorem mapS_find (L : List Se) (x : Int) : (L.map entS).find? (fun q => q.1.sameKey (.int .i64 x)) = (seT L x).map entS := by
  rw [List.find?_map]
  unfold seT
  congr 2
  funext t
  simp [entS, same_key]
theorem mapS_at (L : List Se) (x : Int) (z : DataW Value) : (mapS L).atKey (.int .i64 x) z = match seT L x with
    | some s => .held s.val
    | none => z := by
  unfold mapS DataW.atKey
  simp only [mapS_find]
  cases seT L x with
  | none => rfl
  | some t => rfl
theorem mapS_has (L : List Se) (x : Int) : Maps.has (mapS L) (.int .i64 x) = (seT L x).isSome := by
  show (L.map entS).any (fun q => q.1.sameKey (.int .i64 x)) = _
  have h := mapS_find L x
  cases hf : seT L x with
  | none =>
    rw [hf] at h
    have h2 := List.find?_eq_none.1 h
    rw [List.any_eq_false.2 h2]; rfl
  | some t =>
    rw [hf] at h
    rw [List.any_eq_true.2 ⟨_, List.mem_of_find?_eq_some h, List.find?_some h⟩]; rfl
theorem mapS_size (L : List Se) : Maps.size (mapS L) = L.length := by simp [mapS, Maps.size]
/-- Put in, what stands at the key taken out before, is either a new one or one for an old one. -/
theorem insS_map (L : List Se) (s : Se) : DataW.insert (entS s) (L.map entS) = (insQ L s).map entS := by
  induction L with
  | nil => rfl
  | cons u L ih =>
    rw [insQ, List.map_cons, DataW.insert]
    by_cases h : s.ss < u.ss
    · rw [if_pos (by simpa [entS, Lit.before] using h), if_pos h]; rfl
    · rw [if_neg (by simpa [entS, Lit.before] using h), if_neg h, List.map_cons, ih]
theorem offS_map (L : List Se) (x : Int) : (L.map entS).filter (fun q => !q.1.sameKey (.int .i64 x)) = (L.filter fun u => decide (u.ss ≠ x)).map entS := by
  rw [List.filter_map]
  congr 2
  funext u
  simp [entS, same_key]
theorem mapS_put (L : List Se) (s : Se) : (mapS L).put (.int .i64 s.ss) (.held s.val) = mapS (insQ (L.filter fun u => decide (u.ss ≠ s.ss)) s) := by
  unfold mapS DataW.put
  simp only [offS_map]
  rw [← insS_map]; rfl
theorem offS_new {L : List Se} {x : Int} (h : seT L x = none) : L.filter (fun u => decide (u.ss ≠ x)) = L :=
  List.filter_eq_self.2 fun u hu => by simpa using seT_none h u hu
theorem insQ_low {L : List Se} {s : Se} (h : ∀ u ∈ L, s.ss < u.ss) : insQ L s = s :: L := by
  cases L with
  | nil => rfl
  | cons u L => rw [insQ, if_pos (h u (by simp))]
theorem insQ_old {L : List Se} (h : SrtS L) {s : Se} (hs : (seT L s.ss).isSome = true) : insQ (L.filter fun u => decide (u.ss ≠ s.ss)) s = setQ L s := by
  induction L with
  | nil => cases hs
  | cons u L ih =>
    obtain ⟨h1, h2⟩ := List.pairwise_cons.1 h
    by_cases he : u.ss = s.ss
    · have hL : ∀ v ∈ L, v.ss ≠ s.ss := fun v hv => by have := h1 v hv; omega
      have e1 : (u :: L).filter (fun v => decide (v.ss ≠ s.ss)) = L := by
        rw [List.filter_cons, if_neg (by simpa using he)]
        exact List.filter_eq_self.2 fun v hv => by simpa using hL v hv
      have e2 : setQ (u :: L) s = s :: L := by
        unfold setQ
        rw [List.map_cons, if_pos he]
        congr 1
        conv => rhs; rw [← List.map_id L]
        exact List.map_congr_left fun v hv => by rw [if_neg (hL v hv)]; rfl
      rw [e1, e2]
      exact insQ_low fun v hv => by have := h1 v hv; omega
    · have hs2 : (seT L s.ss).isSome = true := by
        unfold seT at hs ⊢
        rw [List.find?_cons, decide_eq_false he] at hs
        exact hs
      obtain ⟨v, hv⟩ := Option.isSome_iff_exists.1 hs2
      obtain ⟨hv1, hv2⟩ := seT_some hv
      have h3 := h1 v hv1
      rw [List.filter_cons, if_pos (by simpa using he), insQ, if_neg (by omega), ih h2 hs2]
      unfold setQ
      rw [List.map_cons, if_neg he]

/-- A table in block t, its map in block m. -/
structure Tb (w : World) (t m : Nat) (L : List Se) : Prop where
  hp : w.heap[t]? = some (.cells #[.map (some m)] 182 (0, 0))
  own : w.ownsMap Tryz.prog 3 seElem m L.length (mapS L)
  ne : t ≠ m
  gr : GrS L
section
variable {w w' : World} {t m : Nat} {L : List Se} {S2 : Nat → Prop}
theorem Tb.lt (h : Tb w t m L) : t < w.heap.size := (Array.getElem?_eq_some_iff.1 h.hp).1
theorem Tb.ltm (h : Tb w t m L) : m < w.heap.size := h.own.lt
theorem Tb.fr (h : Tb w t m L) (hf : Fr S2 w w') (h1 : ¬ S2 t) (h2 : ¬ S2 m) : Tb w' t m L :=
  ⟨(hf.block t h.lt h1).trans h.hp, owns_eq h.own (hf.block m h.ltm h2), h.ne, h.gr⟩
theorem Tb.below {B : Nat} (h : Tb w t m L) (hb : Below B w w') (hB : w.heap.size ≤ B) : Tb w' t m L :=
  h.fr (S2 := fun _ => False) ⟨hb.os, hb.tape, hb.output, hb.size, fun k hk _ => hb.block k (by omega)⟩ (fun h => h) (fun h => h)
theorem Tb.drewN (h : Tb w t m L) (n : Nat) : Tb (w.drewN n) t m L := h.below (below_drew' w n) (Nat.le_refl _)
/-- A seat of the table, or the seat of nobody. -/
def seatAt (L : List Se) (x : Int) : Se := (seT L x).getD Se.zero
theorem Tb.look (h : Tb w t m L) {x : Int} (hx : wfI x) (W : World) (he : W.heap[m]? = w.heap[m]?) :
    (Instr.lookup 180 (.map (some m)) (.int .i64 x) false).run Tryz.prog W = .ok (seatAt L x).val W ∧
    (Instr.lookup 180 (.map (some m)) (.int .i64 x) true).run Tryz.prog W = .ok (.tuple #[(seatAt L x).val, .bool (seT L x).isSome]) W := by
  have hz : (zeroValue 152).run Tryz.prog W = .ok Se.zero.val W := Tryz.zeroValue152 W
  obtain ⟨v, ps, hrun, hv⟩ := (owns_eq h.own he).lookup keyLaw Tryz.underlying180 hz (zd := .held Se.zero.val) (zp := []) (seElem_val _) (keyI hx)
  obtain ⟨v2, ps2, hrun2, hv2⟩ := (owns_eq h.own he).look_ok keyLaw Tryz.underlying180 hz (zd := .held Se.zero.val) (zp := []) (seElem_val _) (keyI hx)
  have key : (mapS L).atKey (.int .i64 x) (.held Se.zero.val) = .held (seatAt L x).val := by
    rw [mapS_at]
    unfold seatAt
    cases seT L x <;> rfl
  rw [key] at hv hv2
  have e1 : v = (seatAt L x).val := by
    obtain ⟨s, rfl, hy⟩ := seElem_inv hv
    exact (DataW.held.inj (congrArg Prod.fst hy)).symm
  have e2 : v2 = (seatAt L x).val := by
    obtain ⟨s, rfl, hy⟩ := seElem_inv hv2
    exact (DataW.held.inj (congrArg Prod.fst hy)).symm
  rw [e1] at hrun
  rw [e2, mapS_has] at hrun2
  exact ⟨hrun, hrun2⟩
theorem Tb.len (h : Tb w t m L) (ty : TypeId) : (Builtin.len_ #[180] ty #[.map (some m)]).run Tryz.prog w = .ok (.int .i64 L.length) w := by
  rw [h.own.len Tryz.underlying180 ty, mapS_size]
/-- A seat is laid into the map. -/
theorem Tb.put (h : Tb w t m L) (s : Se) (hx : wfI s.ss) {L2 : List Se} (he : insQ (L.filter fun u => decide (u.ss ≠ s.ss)) s = L2) (hg : GrS L2) (W : World) (hW : W.heap[t]? = w.heap[t]? ∧ W.heap[m]? = w.heap[m]?) :
    ∃ w2, (Instr.mapUpdate 180 (.map (some m)) (.int .i64 s.ss) s.val).run Tryz.prog W = .ok () w2 ∧ Fr (fun k => k = m) W w2 ∧ w2.heap.size = W.heap.size ∧ Tb w2 t m L2 := by
  have hlen := h.gr.len
  obtain ⟨w2, hrun, hown, ht⟩ := (owns_eq h.own hW.2).store keyLaw Tryz.underlying180 (by unfold maxLen; omega) (keyI hx) (val := s.val) (d := .held s.val) (ps := []) (seElem_val _)
  rw [mapS_put, he] at hown
  have hf2 : Fr (fun k => k = m) W w2 := Fr.of_grown ht.grown (fun k hk => (Option.some.inj hk).symm)
  have hz : w2.heap.size = W.heap.size := by
    obtain ⟨es, clock, es', clock', _, rfl⟩ := ht; simp [ChangeMaps.setBlock]
  have htl : t < W.heap.size := (Array.getElem?_eq_some_iff.1 (hW.1.trans h.hp)).1
  exact ⟨w2, hrun, hf2, hz, (hf2.block t htl h.ne).trans (hW.1.trans h.hp), own_shrink hown (by rw [mapS_size]; exact Nat.le_refl _), h.ne, hg⟩
end

/-- What a call leaves that makes a table. -/
def ResTb (w : World) (L : List Se) (e : Ending) (w' : World) : Prop :=
  ∃ t m, e = .returned (.pointer (some ⟨t, 0, none⟩)) ∧ Tb w' t m L ∧ w.heap.size ≤ t ∧ w.heap.size ≤ m ∧ Below w.heap.size w w'

set_option maxRecDepth 100000 in
theorem tnew_any (w : World) : Calls Tryz.prog 80 #[] w (ResTb w []) := by
  have hmm := @run_makeMap Tryz.prog
  go_enter Tryz.func80, Tryz.ntmps80
  go_wp2_with fail
  go_ret
  refine ⟨w.heap.size + 1, w.heap.size, rfl, ⟨?_, ?_, by omega, GrS.nil⟩, by omega, by omega, ?_⟩
  · exact heap_at (by simp)
  · have h := World.ownsMap_made w Tryz.prog 3 seElem
    exact h.alloc _
  · exact ((Below.refl _ _).alloc (Nat.le_refl _) _).alloc (by simp) _

set_option maxRecDepth 100000 in
theorem tmade_any {w : World} {t m : Nat} {L : List Se} (h : Tb w t m L) :
    Calls Tryz.prog 134 #[.pointer (some ⟨t, 0, none⟩)] w fun e w' => e = .returned (.bool true) ∧ w = w' := by
  have hc := blk_cell h.hp
  have hq := fun W : World => run_neq_map_nil (P := Tryz.prog) W 180 _ _ (some m) Tryz.underlying180
  clear h
  go_enter Tryz.func134, Tryz.ntmps134
  go_wp2_with fail
  go_ret
  exact ⟨rfl, rfl⟩

/-- May it be a session's number? -/
def idxB (x : Int) : Bool := decide (1 ≤ x) && decide (x ≤ 1099511627776)
set_option maxRecDepth 100000 in
theorem index_any (w : World) (x : Int) :
    Calls Tryz.prog 135 #[.int .i64 x] w fun e w' => e = .returned (.bool (idxB x)) ∧ w = w' := by
  unfold idxB
  go_enter Tryz.func135, Tryz.ntmps135
  by_cases h1 : 1 ≤ x
  · by_cases h2 : x ≤ 1099511627776
    · go_wp2_with fail
      go_ret
      exact ⟨by rw [decide_eq_true h1, decide_eq_true h2]; rfl, rfl⟩
    · go_wp2_with fail
      go_ret
      exact ⟨by rw [decide_eq_false (by omega)]; rfl, rfl⟩
  · go_wp2_with fail
    go_ret
    exact ⟨by rw [decide_eq_false (by omega)]; rfl, rfl⟩

theorem seat_fld (a0 a1 a2 a3 a4 a5 a6 a7 a8 a9 a10 : Value) (w : World) : (Instr.field 152 (.agg #[a0, a1, a2, a3, a4, a5, a6, a7, a8, a9, a10]) 0).run Tryz.prog w = .ok a0 w := by kernel_rfl
/-- What Open leaves. -/
def ResOpn (w : World) (t m : Nat) (L : List Se) (x : Int) (e : Ending) (w' : World) : Prop :=
  e = .returned (.int .i64 (opnS L x).2) ∧ Tb w' t m (opnS L x).1 ∧ Fr (fun k => k = m) w w'
set_option maxRecDepth 100000 in
set_option maxHeartbeats 1000000 in
theorem topen_any {w : World} {t m : Nat} {L : List Se} (h : Tb w t m L) (x : Int) (hx : wfI x) :
    Calls Tryz.prog 113 #[.pointer (some ⟨t, 0, none⟩), .int .i64 x] w (ResOpn w t m L x) := by
  have hc := blk_cell h.hp
  have HM := Lib.hid (tmade_any h)
  have HT := Lib.hid h
  have hl := (h.look hx w rfl).1
  have hlen := h.len 3
  have HI := Lib.hid (index_any w x)
  have h8 := h.gr.len
  have HGO := Lib.hid (h.gr.opn x)
  by_cases h1 : idxB x = true
  · cases hs : seT L x with
    | some s =>
      have he : opnS L x = (L, 1) := by unfold opnS; rw [if_pos (.inr (.inr (by rw [hs]; rfl)))]
      obtain ⟨hm, hsx⟩ := seT_some hs
      have hge : 1 ≤ s.ss := (h.gr.ok s hm).1
      have ea : seatAt L x = s := by unfold seatAt; rw [hs]; rfl
      rw [ea] at hl
      dsimp only [Se.val, Se.zero, Rp.zero] at hl
      have hfd := seat_fld
      unfold ResOpn
      rw [he]
      rw [h1] at HI
      clear h HGO he hm
      go_enter Tryz.func113, Tryz.ntmps113
      go_wp2_with fail
      refine HM.out.mono ?_
      rintro e w1 ⟨rfl, rfl⟩
      go_wp2_with fail
      refine HI.out.mono ?_
      rintro e w1 ⟨rfl, rfl⟩
      go_wp2_with fail
      go_ret
      exact ⟨rfl, HT.out, Fr.refl _ _⟩
    | none =>
      have h1b := h1
      unfold idxB at h1b
      simp only [Bool.and_eq_true, decide_eq_true_eq] at h1b
      have he : opnS L x = if 8 ≤ L.length then (L, 7) else (insQ L ⟨x, 0, x, Rp.zero⟩, 0) := by unfold opnS; rw [if_neg (by rw [hs]; simp only [Option.isSome_none]; rintro (h | h | h) <;> first | omega | cases h)]
      have ea : seatAt L x = Se.zero := by unfold seatAt; rw [hs]; rfl
      rw [ea] at hl
      dsimp only [Se.val, Se.zero, Rp.zero] at hl
      have hfd := seat_fld
      unfold ResOpn
      rw [h1] at HI
      rw [he] at HGO ⊢
      by_cases h8L : 8 ≤ L.length
      · rw [if_pos h8L]
        clear h HGO he hs
        generalize hn : L.length = n at *
        clear hn
        go_enter Tryz.func113, Tryz.ntmps113
        go_wp2_with fail
        refine HM.out.mono ?_
        rintro e w1 ⟨rfl, rfl⟩
        go_wp2_with fail
        refine HI.out.mono ?_
        rintro e w1 ⟨rfl, rfl⟩
        go_wp2_with fail
        go_ret
        exact ⟨rfl, HT.out, Fr.refl _ _⟩
      · rw [if_neg h8L] at HGO ⊢
        obtain ⟨w2, hrun, hfr, hz, htb⟩ := h.put ⟨x, 0, x, Rp.zero⟩ hx (by rw [offS_new hs]) HGO.out w ⟨rfl, rfl⟩
        dsimp only [Rp.zero] at hrun
        have HTB := Lib.hid htb
        have HFR := Lib.hid hfr
        clear h HGO he hs hfr htb hz
        generalize hn : L.length = n at *
        clear hn
        go_enter Tryz.func113, Tryz.ntmps113
        go_wp2_with fail
        refine HM.out.mono ?_
        rintro e w1 ⟨rfl, rfl⟩
        go_wp2_with fail
        refine HI.out.mono ?_
        rintro e w1 ⟨rfl, rfl⟩
        go_wp2_with fail
        go_ret
        exact ⟨rfl, HTB.out, HFR.out⟩
  · have h1f : idxB x = false := by simpa using h1
    have he : opnS L x = (L, 1) := by
      unfold opnS
      rw [if_pos]
      unfold idxB at h1f
      by_cases h2 : 1 ≤ x
      · rw [decide_eq_true h2, Bool.true_and, decide_eq_false_iff_not] at h1f
        exact .inr (.inl (by omega))
      · exact .inl (by omega)
    unfold ResOpn
    rw [he]
    rw [h1f] at HI
    clear h HGO he h1f h1 hl
    go_enter Tryz.func113, Tryz.ntmps113
    go_wp2_with fail
    refine HM.out.mono ?_
    rintro e w1 ⟨rfl, rfl⟩
    go_wp2_with fail
    refine HI.out.mono ?_
    rintro e w1 ⟨rfl, rfl⟩
    go_wp2_with fail
    go_ret
    exact ⟨rfl, HT.out, Fr.refl _ _⟩

/-- What Ask leaves. -/
def ResAsk (w : World) (L : List Se) (x q : Int) (e : Ending) (w' : World) : Prop :=
  e = .returned (.tuple #[(askS L x q).1.val, .bool (askS L x q).2.1, .int .i64 (askS L x q).2.2]) ∧ Below w.heap.size w w'
set_option maxRecDepth 100000 in
set_option maxHeartbeats 2000000 in
theorem task_any {w : World} {t m : Nat} {L : List Se} (h : Tb w t m L) (x q : Int) (hx : wfI x) (hq : q ≤ 9223372036854775807) :
    Calls Tryz.prog 136 #[.pointer (some ⟨t, 0, none⟩), .int .i64 x, .int .i64 q] w (ResAsk w L x q) := by
  have hc := blk_cell h.hp
  have hml := h.ltm
  have htl := h.lt
  have HB : Hid (∀ W, Below w.heap.size w W → Calls Tryz.prog 134 #[.pointer (some ⟨t, 0, none⟩)] W fun e w' => e = .returned (.bool true) ∧ W = w') := Lib.hid fun W hW => tmade_any (h.below hW (Nat.le_refl _))
  have HL : Hid (∀ W, Below w.heap.size w W → (Instr.lookup 180 (.map (some m)) (.int .i64 x) true).run Tryz.prog W = .ok (.tuple #[(seatAt L x).val, .bool (seT L x).isSome]) W) := Lib.hid fun W hW => (h.look hx W (hW.block m hml)).2
  unfold ResAsk
  clear h hml
  have hB2 : ∀ o1 o2, Below w.heap.size w ((w.alloc o1).alloc o2) := fun o1 o2 => ((Below.refl _ _).alloc (Nat.le_refl _) _).alloc (by simp) _
  have HB2 := Lib.hid hB2
  clear hB2
  unfold askS
  unfold seatAt at HL
  cases hs : seT L x with
  | none =>
    rw [hs] at HL
    dsimp only [Option.getD, Option.isSome, Se.zero, Rp.zero, Se.val, Rp.val] at HL ⊢
    go_enter Tryz.func136, Tryz.ntmps136
    go_wp2_with fail
    have hk := HB2.out (.cells #[.int .i64 0, .int .i64 0, .int .i64 0, .int .i64 0, .int .i64 0, .int .i64 0, .int .i64 0, .int .i64 0] 32 (0, 0)) (.cells #[.int .i64 0, .int .i64 0, .int .i64 0, .int .i64 0, .int .i64 0, .int .i64 0, .int .i64 0, .int .i64 0] 32 (0, 0))
    refine (HB.out _ hk).mono ?_
    rintro e w1 ⟨rfl, rfl⟩
    have hl := HL.out _ hk
    go_wp2_with fail
    refine bodyPost_ret (v := .tuple #[.agg #[.int .i64 0, .int .i64 0, .int .i64 0, .int .i64 0, .int .i64 0, .int .i64 0, .int .i64 0, .int .i64 0], .bool false, .int .i64 80]) (by simp [results, Tryz.results136, go_sem]) rfl ?_
    refine ⟨rfl, ?_⟩
    repeat (first | with_reducible exact hk | exact Below.refl _ _ | refine Below.setCell ?_ (by simp only <;> omega) _ | refine Below.alloc ?_ (by simp <;> omega) _)
  | some s =>
    rw [hs] at HL
    dsimp only [Option.getD, Option.isSome, Se.val, Rp.val, Rp.zero] at HL ⊢
    clear hs
    by_cases h1 : q < s.sq
    · rw [if_pos (.inl h1)]
      go_enter Tryz.func136, Tryz.ntmps136
      go_wp2_with fail
      have hk := HB2.out (.cells #[.int .i64 0, .int .i64 0, .int .i64 0, .int .i64 0, .int .i64 0, .int .i64 0, .int .i64 0, .int .i64 0] 32 (0, 0)) (.cells #[.int .i64 0, .int .i64 0, .int .i64 0, .int .i64 0, .int .i64 0, .int .i64 0, .int .i64 0, .int .i64 0] 32 (0, 0))
      refine (HB.out _ hk).mono ?_
      rintro e w1 ⟨rfl, rfl⟩
      have hl := HL.out _ hk
      go_wp2_with fail
      refine bodyPost_ret (v := .tuple #[.agg #[.int .i64 0, .int .i64 0, .int .i64 0, .int .i64 0, .int .i64 0, .int .i64 0, .int .i64 0, .int .i64 0], .bool false, .int .i64 81]) (by simp [results, Tryz.results136, go_sem]) rfl ?_
      refine ⟨rfl, ?_⟩
      repeat (first | with_reducible exact hk | exact Below.refl _ _ | refine Below.setCell ?_ (by simp only <;> omega) _ | refine Below.alloc ?_ (by simp <;> omega) _)
    · by_cases h2 : q < 1
      · rw [if_pos (.inr h2)]
        go_enter Tryz.func136, Tryz.ntmps136
        go_wp2_with fail
        have hk := HB2.out (.cells #[.int .i64 0, .int .i64 0, .int .i64 0, .int .i64 0, .int .i64 0, .int .i64 0, .int .i64 0, .int .i64 0] 32 (0, 0)) (.cells #[.int .i64 0, .int .i64 0, .int .i64 0, .int .i64 0, .int .i64 0, .int .i64 0, .int .i64 0, .int .i64 0] 32 (0, 0))
        refine (HB.out _ hk).mono ?_
        rintro e w1 ⟨rfl, rfl⟩
        have hl := HL.out _ hk
        go_wp2_with fail
        refine bodyPost_ret (v := .tuple #[.agg #[.int .i64 0, .int .i64 0, .int .i64 0, .int .i64 0, .int .i64 0, .int .i64 0, .int .i64 0, .int .i64 0], .bool false, .int .i64 81]) (by simp [results, Tryz.results136, go_sem]) rfl ?_
        refine ⟨rfl, ?_⟩
        repeat (first | with_reducible exact hk | exact Below.refl _ _ | refine Below.setCell ?_ (by simp only <;> omega) _ | refine Below.alloc ?_ (by simp <;> omega) _)
      · rw [if_neg (by omega)]
        by_cases h3 : q = s.sq
        · rw [if_pos h3]
          subst h3
          go_enter Tryz.func136, Tryz.ntmps136
          go_wp2_with fail
          have hk := HB2.out (.cells #[.int .i64 0, .int .i64 0, .int .i64 0, .int .i64 0, .int .i64 0, .int .i64 0, .int .i64 0, .int .i64 0] 32 (0, 0)) (.cells #[.int .i64 0, .int .i64 0, .int .i64 0, .int .i64 0, .int .i64 0, .int .i64 0, .int .i64 0, .int .i64 0] 32 (0, 0))
          refine (HB.out _ hk).mono ?_
          rintro e w1 ⟨rfl, rfl⟩
          have hl := HL.out _ hk
          go_wp2_with fail
          refine bodyPost_ret (v := .tuple #[.agg #[.int .i64 s.r.er, .int .i64 s.r.ss, .int .i64 s.r.gn, .int .i64 s.r.ad, .int .i64 s.r.sa, .int .i64 s.r.ot, .int .i64 s.r.cy, .int .i64 s.r.fu], .bool true, .int .i64 0]) (by simp [results, Tryz.results136, go_sem]) rfl ?_
          refine ⟨rfl, ?_⟩
          repeat (first | with_reducible exact hk | exact Below.refl _ _ | refine Below.setCell ?_ (by simp only <;> omega) _ | refine Below.alloc ?_ (by simp <;> omega) _)
        · rw [if_neg h3]
          have hw1 : IntKind.i64.wrap (q - 1) = q - 1 := (IntWalk.i64_left _).trans (IntWalk.wrap64_in _ (by omega))
          by_cases h4 : s.sq < q - 1
          · rw [if_pos h4]
            go_enter Tryz.func136, Tryz.ntmps136
            go_wp2_with fail
            have hk := HB2.out (.cells #[.int .i64 0, .int .i64 0, .int .i64 0, .int .i64 0, .int .i64 0, .int .i64 0, .int .i64 0, .int .i64 0] 32 (0, 0)) (.cells #[.int .i64 0, .int .i64 0, .int .i64 0, .int .i64 0, .int .i64 0, .int .i64 0, .int .i64 0, .int .i64 0] 32 (0, 0))
            refine (HB.out _ hk).mono ?_
            rintro e w1 ⟨rfl, rfl⟩
            have hl := HL.out _ hk
            go_wp2_with fail
            refine bodyPost_ret (v := .tuple #[.agg #[.int .i64 0, .int .i64 0, .int .i64 0, .int .i64 0, .int .i64 0, .int .i64 0, .int .i64 0, .int .i64 0], .bool false, .int .i64 82]) (by simp [results, Tryz.results136, go_sem]) rfl ?_
            refine ⟨rfl, ?_⟩
            repeat (first | with_reducible exact hk | exact Below.refl _ _ | refine Below.setCell ?_ (by simp only <;> omega) _ | refine Below.alloc ?_ (by simp <;> omega) _)
          · rw [if_neg h4]
            go_enter Tryz.func136, Tryz.ntmps136
            go_wp2_with fail
            have hk := HB2.out (.cells #[.int .i64 0, .int .i64 0, .int .i64 0, .int .i64 0, .int .i64 0, .int .i64 0, .int .i64 0, .int .i64 0] 32 (0, 0)) (.cells #[.int .i64 0, .int .i64 0, .int .i64 0, .int .i64 0, .int .i64 0, .int .i64 0, .int .i64 0, .int .i64 0] 32 (0, 0))
            refine (HB.out _ hk).mono ?_
            rintro e w1 ⟨rfl, rfl⟩
            have hl := HL.out _ hk
            go_wp2_with fail
            refine bodyPost_ret (v := .tuple #[.agg #[.int .i64 0, .int .i64 0, .int .i64 0, .int .i64 0, .int .i64 0, .int .i64 0, .int .i64 0, .int .i64 0], .bool false, .int .i64 0]) (by simp [results, Tryz.results136, go_sem]) rfl ?_
            refine ⟨rfl, ?_⟩
            repeat (first | with_reducible exact hk | exact Below.refl _ _ | refine Below.setCell ?_ (by simp only <;> omega) _ | refine Below.alloc ?_ (by simp <;> omega) _)
end Go.Proofs.YtfjpenbahoeklaaGreatDoor
namespace Go.Proofs.YtfjpenbahoeklaaGreatDoor
open Go Go.RowKit Go.Maps

/-- Where a seat's numbers stand: in block b, the fourth in block c. -/
def nptr (b c : Nat) : Array Value := #[.pointer (some ⟨b, 0, none⟩), .pointer (some ⟨b, 1, none⟩), .pointer (some ⟨b, 2, none⟩), .pointer (some ⟨c, 0, none⟩), .pointer (some ⟨b, 4, none⟩), .pointer (some ⟨b, 5, none⟩), .pointer (some ⟨b, 6, none⟩), .pointer (some ⟨b, 7, none⟩), .pointer (some ⟨b, 8, none⟩), .pointer (some ⟨b, 9, none⟩), .pointer (some ⟨b, 10, none⟩)]
/-- What numbers leaves. -/
def ResNum (w : World) (b : Nat) (er : Int) (e : Ending) (w' : World) : Prop :=
  ∃ c d, e = .returned (.slice (some ⟨d, 0, none⟩) 11 11) ∧ w'.heap[c]? = some (.cells #[.int .i64 er] 3 (0, 0)) ∧ w'.heap[d]? = some (.cells (nptr b c) 249 (0, 0)) ∧ c ≠ d ∧ w.heap.size ≤ c ∧ w.heap.size ≤ d ∧ Below w.heap.size w w'
set_option maxRecDepth 100000 in
set_option maxHeartbeats 1000000 in
theorem snum_any (w : World) (b : Nat) (er : Int) (h3 : w.cell? ⟨b, 3, none⟩ = some (.int .i64 er)) :
    Calls Tryz.prog 157 #[.pointer (some ⟨b, 0, none⟩)] w (ResNum w b er) := by
  go_enter Tryz.func157, Tryz.ntmps157
  go_wp2_with fail
  refine wp_region_sched [(0, true), (1, true), (2, true), (3, true), (4, true), (5, true), (6, true), (7, true), (8, true), (9, true), (10, true), (11, true), (12, true), (13, true), (14, true), (15, true), (16, true), (17, true), (18, true), (19, true), (20, true), (21, true), (22, true), (23, true), (24, true), (25, true), (26, true), (27, true), (28, true), (29, true), (30, true), (31, true), (32, false), (33, true)] (fun W => Below w.heap.size w W) (by kernel_rfl) (by kernel_rfl) rfl (by kernel_rfl) (((Below.refl _ _).alloc (Nat.le_refl _) _).drew) ?_
  repeat (first | (apply sched_take rfl; (focus (first | rfl | (go_simp; done))); (focus (intro W hW; go_simp; rfl)); (focus (intro K hK; go_simp; refine hK _ ?_; clear hK K))) | (apply sched_skip rfl; (focus (first | rfl | (go_simp; done))); (focus (intro K hK; go_simp; refine hK _ ?_; clear hK K))))
  apply sched_op rfl
  intro K hK
  go_simp
  go_wp2_with (fail)
  refine ⟨by exact (((Below.refl _ _).alloc (Nat.le_refl _) _).alloc (by simp) _).drew, ?_⟩
  repeat (first | (apply sched_take rfl; (focus (first | rfl | (go_simp; done))); (focus (intro W hW; go_simp; rfl)); (focus (intro K hK; go_simp; refine hK _ ?_; clear hK K))) | (apply sched_skip rfl; (focus (first | rfl | (go_simp; done))); (focus (intro K hK; go_simp; refine hK _ ?_; clear hK K))))
  refine sched_nil ?_
  go_wp2_with fail
  go_ret
  refine ⟨w.heap.size, w.heap.size + 1, rfl, ?_, ?_, by omega, by omega, by omega, (((Below.refl _ _).alloc (Nat.le_refl _) _).alloc (by simp) _).drew⟩
  · have h := ((Below.refl (w.heap.size + 1) (w.alloc (.cells #[.int .i64 er] 3 (0, 0)))).alloc (by simp) (.cells (nptr b w.heap.size) 249 (0, 0))).block w.heap.size (by omega)
    exact h.trans (heap_alloc_new w _)
  · exact heap_at (by simp)
/-- Which number stands at a place. -/
theorem num_at {w w' : World} {b c d : Nat} {s : Se} {e : TypeId} (h : Below w.heap.size w w') (hb : b < w.heap.size) (hc : w'.heap[c]? = some (.cells #[.int .i64 s.r.er] 3 (0, 0))) (hd : w'.heap[d]? = some (.cells (nptr b c) 249 (0, 0)))
    (hs : w.heap[b]? = some (.cells s.cells.toArray e (0, 0))) (k : Nat) (hk : k < 11) :
    ∃ B O, w'.cell? ⟨d, k, none⟩ = some (.pointer (some ⟨B, O, none⟩)) ∧ w'.cell? ⟨B, O, none⟩ = some (.int .i64 (s.nums[k]'hk)) := by
  have h1 := blk_cell hd
  have h2 := blk_cell hc
  have h3 := blk_cell ((h.block b hb).trans hs)
  have hk2 : k = 0 ∨ k = 1 ∨ k = 2 ∨ k = 3 ∨ k = 4 ∨ k = 5 ∨ k = 6 ∨ k = 7 ∨ k = 8 ∨ k = 9 ∨ k = 10 := by omega
  rcases hk2 with rfl | rfl | rfl | rfl | rfl | rfl | rfl | rfl | rfl | rfl | rfl
  · exact ⟨_, _, h1 0, h3 0⟩
  · exact ⟨_, _, h1 1, h3 1⟩
  · exact ⟨_, _, h1 2, h3 2⟩
  · exact ⟨_, _, h1 3, h2 0⟩
  · exact ⟨_, _, h1 4, h3 4⟩
  · exact ⟨_, _, h1 5, h3 5⟩
  · exact ⟨_, _, h1 6, h3 6⟩
  · exact ⟨_, _, h1 7, h3 7⟩
  · exact ⟨_, _, h1 8, h3 8⟩
  · exact ⟨_, _, h1 9, h3 9⟩
  · exact ⟨_, _, h1 10, h3 10⟩

/-- What Check leaves. -/
def ResChk (w : World) (n : Int) (e : Ending) (w' : World) : Prop := e = .returned (.int .i64 n) ∧ Below w.heap.size w w'
def okN (n : Int) : Bool := decide (0 ≤ n) && decide (n ≤ 1099511627776)
theorem okN_f {n : Int} (h : n < 0 ∨ 1099511627776 < n) : okN n = false := by
  unfold okN
  rcases h with h | h
  · rw [decide_eq_false (by omega)]; rfl
  · rw [decide_eq_false (p := n ≤ 1099511627776) (by omega), Bool.and_false]
theorem okN_t {n : Int} (h1 : ¬ n < 0) (h2 : ¬ 1099511627776 < n) : okN n = true := by
  unfold okN
  rw [decide_eq_true (by omega), decide_eq_true (by omega)]; rfl
theorem Rp.ok_nums (r : Rp) : (⟨0, 0, 0, r⟩ : Se).nums.all okN = r.ok := by
  show (okN 0 && (okN 0 && (okN 0 && r.nums.all okN))) = r.ok
  rfl
set_option maxRecDepth 100000 in
set_option maxHeartbeats 2000000 in
theorem scheck_any (w : World) (r : Rp) :
    Calls Tryz.prog 153 #[r.val] w (ResChk w (if r.ok then 0 else 1)) := by
  have HA : Hid ((⟨0, 0, 0, r⟩ : Se).nums.all okN = r.ok) := Lib.hid r.ok_nums
  generalize hn : (if r.ok then (0 : Int) else 1) = n
  have HN := Lib.hid hn
  clear hn
  go_enter Tryz.func153, Tryz.ntmps153
  go_wp2_with fail
  refine (snum_any _ (w.heap.size + 1) r.er (blk_cell (heap_at (by simp)) 3)).mono ?_
  rintro e w1 ⟨c, d, rfl, hc, hd, hcd, hc1, hd1, hb⟩
  have HP : Hid (∀ k (hk : k < (⟨0, 0, 0, r⟩ : Se).nums.length), ∃ B O, w1.cell? ⟨d, k, none⟩ = some (.pointer (some ⟨B, O, none⟩)) ∧ w1.cell? ⟨B, O, none⟩ = some (.int .i64 ((⟨0, 0, 0, r⟩ : Se).nums[k]'hk))) := Lib.hid (fun k hk => num_at (s := ⟨0, 0, 0, r⟩) hb (by simp) hc hd (heap_at (by simp)) k hk)
  have HB : Hid (Below w.heap.size w w1) := Lib.hid ((((Below.refl _ _).alloc (Nat.le_refl _) _).alloc (by simp) _).trans (hb.mono (by simp <;> omega)))
  have hl : (⟨0, 0, 0, r⟩ : Se).nums.length = 11 := rfl
  clear hc hd hcd hc1 hd1 hb
  generalize (⟨0, 0, 0, r⟩ : Se).nums = ns at *
  go_wp2_with fail
  go_loopw [10] (fun i wr => ∃ k : Nat, k ≤ 11 ∧ i = .int .i64 k ∧ wr = w1 ∧ (ns.take k).all okN = true) (fun i _ => 11 - (intOf i).toNat)
  case atStart => exact ⟨0, by omega, rfl, rfl, rfl⟩
  case round =>
    obtain ⟨k, hk, rfl, rfl, hall⟩ := hrel
    have HALL := Lib.hid hall
    clear hall
    by_cases hlt : k < 11
    · obtain ⟨B, O, x0, x1⟩ := HP.out k (by omega)
      have HTK := Lib.hid (all_take_succ ns okN k (by omega))
      have HBAD := Lib.hid (all_false_of ns okN k (by omega))
      generalize ns[k] = x at *
      have hk1 : (k : Int) < 11 := by omega
      by_cases h1 : x < 0
      · have hr : r.ok = false := by rw [← HA.out]; exact HBAD.out (okN_f (.inl h1))
        have hn1 := HN.out
        rw [hr] at hn1
        subst hn1
        go_wp2_with fail
        go_ret
        exact ⟨rfl, HB.out⟩
      · by_cases h2 : 1099511627776 < x
        · have hr : r.ok = false := by rw [← HA.out]; exact HBAD.out (okN_f (.inr h2))
          have hn1 := HN.out
          rw [hr] at hn1
          subst hn1
          go_wp2_with fail
          go_ret
          exact ⟨rfl, HB.out⟩
        · go_wp2_with fail
          go_roundw
          case rel => exact ⟨k + 1, by omega, by go_num, by trivial, by rw [HTK.out, HALL.out, okN_t h1 h2]; rfl⟩
          case measure => simp [intOf]; omega
    · have hke : k = 11 := by omega
      have hr : r.ok = true := by
        rw [← HA.out, ← HALL.out, List.take_of_length_le (by omega)]
      have hn1 := HN.out
      rw [hr] at hn1
      subst hn1 hke
      go_wp2_with fail
      go_ret
      exact ⟨rfl, HB.out⟩

/-- What Keep leaves. -/
def ResKep (w : World) (t m : Nat) (L : List Se) (x q a : Int) (r : Rp) (e : Ending) (w' : World) : Prop :=
  e = .returned (.int .i64 (keepS L x q a r).2) ∧ Tb w' t m (keepS L x q a r).1 ∧ Fr (fun k => k = m) w w'
set_option maxRecDepth 100000 in
set_option maxHeartbeats 2000000 in
theorem tkeep_any {w : World} {t m : Nat} {L : List Se} (h : Tb w t m L) (x q a : Int) (r : Rp) (hx : wfI x) (hq : q ≤ 9223372036854775807) :
    Calls Tryz.prog 138 #[.pointer (some ⟨t, 0, none⟩), .int .i64 x, .int .i64 q, .int .i64 a, r.val] w (ResKep w t m L x q a r) := by
  have hc := blk_cell h.hp
  have htl := h.lt
  have HT := Lib.hid h
  have HX := Lib.hid hx
  have HGK := Lib.hid (h.gr.keep x q a r)
  have hB0 : Below w.heap.size w (w.alloc (.cells #[.int .i64 r.er, .int .i64 r.ss, .int .i64 r.gn, .int .i64 r.ad, .int .i64 r.sa, .int .i64 r.ot, .int .i64 r.cy, .int .i64 r.fu] 32 (0, 0))) := (Below.refl _ _).alloc (Nat.le_refl _) _
  have HB0 := Lib.hid hB0
  have HAS := Lib.hid (task_any (h.below hB0 (Nat.le_refl _)) x q hx hq)
  have hK : keepS L x q a r = if (askS L x q).2.2 ≠ 0 then (L, (askS L x q).2.2) else if (askS L x q).2.1 = true then (L, 81) else if a < 1 ∨ 1099511627776 < a ∨ r.ok = false ∨ 1099511627776 < q then (L, 1) else (setQ L ⟨x, q, a, r⟩, 0) := rfl
  have HD : Hid ((askS L x q).2.2 = 0 → (seT L x).isSome = true) := Lib.hid (fun h => by obtain ⟨s, hs, _⟩ := askS_done h; rw [hs]; rfl)
  clear h hB0 hx
  rw [hK] at HGK
  unfold ResKep
  rw [hK]
  clear hK
  unfold ResAsk at HAS
  generalize askS L x q = A at *
  obtain ⟨r1, b1, e1⟩ := A
  dsimp only [Rp.val] at *
  generalize hKS : (if e1 ≠ 0 then (L, e1) else if b1 = true then (L, 81) else if a < 1 ∨ 1099511627776 < a ∨ r.ok = false ∨ 1099511627776 < q then (L, 1) else (setQ L ⟨x, q, a, r⟩, 0)) = KS at *
  have HKS := Lib.hid hKS
  clear hKS
  obtain ⟨L2, n2⟩ := KS
  dsimp only at *
  have HB2 : Hid (∀ w1, Below (w.alloc (.cells #[.int .i64 r.er, .int .i64 r.ss, .int .i64 r.gn, .int .i64 r.ad, .int .i64 r.sa, .int .i64 r.ot, .int .i64 r.cy, .int .i64 r.fu] 32 (0, 0))).heap.size (w.alloc (.cells #[.int .i64 r.er, .int .i64 r.ss, .int .i64 r.gn, .int .i64 r.ad, .int .i64 r.sa, .int .i64 r.ot, .int .i64 r.cy, .int .i64 r.fu] 32 (0, 0))) w1 → Below w.heap.size w (w1.alloc (.cells #[.int .i64 r1.er, .int .i64 r1.ss, .int .i64 r1.gn, .int .i64 r1.ad, .int .i64 r1.sa, .int .i64 r1.ot, .int .i64 r1.cy, .int .i64 r1.fu] 32 (0, 0)))) := Lib.hid (fun w1 h1 => (HB0.out.trans (h1.mono (by simp))).alloc (by have := h1.size; simp at this; omega) _)
  have HSZ : Hid (∀ w1, Below (w.alloc (.cells #[.int .i64 r.er, .int .i64 r.ss, .int .i64 r.gn, .int .i64 r.ad, .int .i64 r.sa, .int .i64 r.ot, .int .i64 r.cy, .int .i64 r.fu] 32 (0, 0))).heap.size (w.alloc (.cells #[.int .i64 r.er, .int .i64 r.ss, .int .i64 r.gn, .int .i64 r.ad, .int .i64 r.sa, .int .i64 r.ot, .int .i64 r.cy, .int .i64 r.fu] 32 (0, 0))) w1 → w.heap.size < w1.heap.size ∧ ∀ j, w1.cell? ⟨w.heap.size, j, none⟩ = (#[.int .i64 r.er, .int .i64 r.ss, .int .i64 r.gn, .int .i64 r.ad, .int .i64 r.sa, .int .i64 r.ot, .int .i64 r.cy, .int .i64 r.fu] : Array Value)[j]?) := Lib.hid (fun w1 h1 => ⟨by have := h1.size; simp at this; omega, blk_cell ((h1.block w.heap.size (by simp)).trans (heap_alloc_new w _))⟩)
  go_enter Tryz.func138, Tryz.ntmps138
  go_wp2_with fail
  refine HAS.out.mono ?_
  rintro e w1 ⟨rfl, hb1⟩
  have HB1 := Lib.hid (HB2.out w1 hb1)
  obtain ⟨hz1, hc9⟩ := HSZ.out w1 hb1
  clear hb1
  have hT1 := HT.out.below HB1.out (Nat.le_refl _)
  have hct := blk_cell hT1.hp
  have HT1 := Lib.hid hT1
  clear hT1
  by_cases h1 : e1 = 0
  · subst h1
    cases b1
    · by_cases h2 : a < 1
      · have hia : idxB a = false := by unfold idxB; rw [decide_eq_false (by omega)]; rfl
        have hks := HKS.out
        rw [if_neg (by simp), if_neg (by simp), if_pos (.inl h2)] at hks
        cases hks
        go_wp2_with fail
        refine (index_any _ a).mono ?_
        rintro e w2 ⟨rfl, rfl⟩
        rw [hia]
        go_wp2_with fail
        go_ret
        exact ⟨rfl, HT1.out, Fr.of_below HB1.out⟩
      · by_cases h3 : 1099511627776 < a
        · have hia : idxB a = false := by unfold idxB; rw [decide_eq_false (p := a ≤ 1099511627776) (by omega), Bool.and_false]
          have hks := HKS.out
          rw [if_neg (by simp), if_neg (by simp), if_pos (.inr (.inl h3))] at hks
          cases hks
          go_wp2_with fail
          refine (index_any _ a).mono ?_
          rintro e w2 ⟨rfl, rfl⟩
          rw [hia]
          go_wp2_with fail
          go_ret
          exact ⟨rfl, HT1.out, Fr.of_below HB1.out⟩
        · have hia : idxB a = true := by unfold idxB; rw [decide_eq_true (by omega), decide_eq_true (by omega)]; rfl
          have HIA := Lib.hid hia
          clear hia
          go_wp2_with fail
          refine (index_any _ a).mono ?_
          rintro e w2 ⟨rfl, rfl⟩
          rw [HIA.out]
          go_wp2_with fail
          refine (scheck_any _ r).mono ?_
          rintro e w2 ⟨rfl, hb2⟩
          have HB3 : Hid (Below w.heap.size w w2) := Lib.hid (HB1.out.trans (hb2.mono HB1.out.size))
          have hT2 := HT.out.below HB3.out (Nat.le_refl _)
          have hct2 := blk_cell hT2.hp
          have HT2 := Lib.hid hT2
          have hc92 : ∀ j, w2.cell? ⟨w.heap.size, j, none⟩ = (#[.int .i64 r.er, .int .i64 r.ss, .int .i64 r.gn, .int .i64 r.ad, .int .i64 r.sa, .int .i64 r.ot, .int .i64 r.cy, .int .i64 r.fu] : Array Value)[j]? := fun j => by
            rw [← hc9 j]
            refine (hb2.cell (p := ⟨w.heap.size, j, none⟩) (by simp <;> omega)).trans ?_
            exact (((Below.refl w1.heap.size w1).alloc (Nat.le_refl _) _).cell (p := ⟨w.heap.size, j, none⟩) hz1)
          have HZ2 : Hid (w.heap.size < w2.heap.size) := Lib.hid (by have := hb2.size; simp at this; omega)
          clear hb2 hT2
          cases hr : r.ok
          · have hks := HKS.out
            rw [if_neg (by simp), if_neg (by simp), if_pos (.inr (.inr (.inl hr)))] at hks
            cases hks
            go_wp2_with fail
            go_ret
            exact ⟨rfl, HT2.out, Fr.of_below HB3.out⟩
          · by_cases h4 : 1099511627776 < q
            · have hks := HKS.out
              rw [if_neg (by simp), if_neg (by simp), if_pos (.inr (.inr (.inr h4)))] at hks
              cases hks
              go_wp2_with fail
              go_ret
              exact ⟨rfl, HT2.out, Fr.of_below HB3.out⟩
            · have hks := HKS.out
              rw [if_neg (by simp), if_neg (by simp), if_neg (by rw [hr]; rintro (h | h | h | h) <;> first | omega | cases h)] at hks
              cases hks
              have HPUT : Hid (∀ W, Below w2.heap.size w2 W → ∃ w3, (Instr.mapUpdate 180 (.map (some m)) (.int .i64 x) (⟨x, q, a, r⟩ : Se).val).run Tryz.prog W = .ok () w3 ∧ Fr (fun k => k = m) W w3 ∧ w3.heap.size = W.heap.size ∧ Tb w3 t m (setQ L ⟨x, q, a, r⟩)) := Lib.hid (fun W hW => HT2.out.put ⟨x, q, a, r⟩ HX.out (insQ_old HT.out.gr.srt (s := ⟨x, q, a, r⟩) (by first | exact HD.out rfl | exact HD.out trivial | exact HD.out)) HGK.out W ⟨hW.block t HT2.out.lt, hW.block m HT2.out.ltm⟩)
              go_wp2_with fail
              have HX3 : Hid (∀ W, Below w2.heap.size w2 W → (∀ j, W.cell? ⟨t, j, none⟩ = (#[.map (some m)] : Array Value)[j]?) ∧ (∀ j, W.cell? ⟨w.heap.size, j, none⟩ = (#[.int .i64 r.er, .int .i64 r.ss, .int .i64 r.gn, .int .i64 r.ad, .int .i64 r.sa, .int .i64 r.ot, .int .i64 r.cy, .int .i64 r.fu] : Array Value)[j]?)) := Lib.hid (fun W hW => ⟨blk_cell (HT2.out.below hW (Nat.le_refl _)).hp, fun j => by
                rw [← hc92 j]
                exact hW.cell (p := ⟨w.heap.size, j, none⟩) (by have := HB3.out.size; have := HZ2.out; simp only; omega)⟩)
              refine wp_region_plan 10 (.take 0 (.take 1 (.take 2 (.take 3 (.take 4 (.take 5 (.take 6 (.take 7 (.take 8 (.take 9 (.op 10 .done))))))))))) (fun W => Below w2.heap.size w2 W) (by kernel_rfl) (by kernel_rfl) (by kernel_rfl) ((Below.refl _ _).drew) ?_
              repeat (first | (apply plan_take rfl; (focus (first | rfl | (go_simp; done))); (focus (intro W hW; obtain ⟨f1, f2⟩ := HX3.out W hW; go_simp; rfl)); (focus (intro K hK; go_simp; refine hK _ ?_; clear hK K))) | (apply plan_skip rfl; (focus (first | rfl | (go_simp; done))); (focus (intro K hK; go_simp; refine hK _ ?_; clear hK K))))
              apply plan_op rfl
              intro K hK
              obtain ⟨w3, hrun, hfr, hz, htb⟩ := HPUT.out w2.drew ((Below.refl _ _).drew)
              dsimp only [Se.val] at hrun
              have HFR := Lib.hid hfr
              have HTB := Lib.hid htb
              clear hfr hz htb
              go_simp
              go_wp2_with (fail)
              refine ⟨fun h => absurd rfl h, ?_⟩
              refine plan_nil ?_
              go_wp2_with (fail)
              go_ret
              exact ⟨rfl, HTB.out, (Fr.of_below (HB3.out.drew)).step HFR.out (fun k hk => .inl hk)⟩
    · have hks := HKS.out
      rw [if_neg (by simp), if_pos rfl] at hks
      cases hks
      go_wp2_with fail
      go_ret
      exact ⟨rfl, HT1.out, Fr.of_below HB1.out⟩
  · have hks := HKS.out
    rw [if_pos h1] at hks
    cases hks
    go_wp2_with fail
    go_ret
    exact ⟨rfl, HT1.out, Fr.of_below HB1.out⟩

open Classical in
/-- Has a seat's time gone by? -/
noncomputable def goneS (z : Int) : Lit → DataW Value → Bool := fun _ d => decide (∃ s : Se, d = .held s.val ∧ s.at_ < z)
theorem val_at {s t : Se} (h : s.val = t.val) : s.at_ = t.at_ := by
  have h1 := congrArg (fun v => match v with | Value.agg a => a[2]? | _ => none) h
  have h2 : some (Value.int .i64 s.at_) = some (Value.int .i64 t.at_) := h1
  simpa using h2
theorem goneS_val (z : Int) (kl : Lit) (s : Se) : goneS z kl (.held s.val) = decide (s.at_ < z) := by
  unfold goneS
  refine decide_eq_decide.2 ⟨?_, fun h => ⟨s, rfl, h⟩⟩
  rintro ⟨t, h1, h2⟩
  rw [val_at (DataW.held.inj h1)]; exact h2
theorem goneS_exp (L : List Se) (z : Int) : Lib.deleteFuncD (goneS z) (mapS L) = mapS (expS L z) := by
  unfold mapS Lib.deleteFuncD expS
  simp only
  rw [List.filter_map]
  congr 2
  refine List.filter_congr fun s _ => ?_
  show (!goneS z _ (.held s.val)) = _
  rw [goneS_val, ← decide_not]
  exact decide_eq_decide.2 (by omega)
theorem mapS_mem {es : List (Lit × DataW Value)} {L : List Se} (h : ∀ q ∈ es, q ∈ L.map entS) {kl : Lit} {y : DataW Value} (hat : ∀ zd, (DataW.map es).atKey kl zd = y) : ∃ s ∈ L, y = .held s.val := by
  have h1 := hat .nil
  have h2 := hat (.held undef)
  cases hf : es.find? (fun q => q.1.sameKey kl) with
  | none => simp only [DataW.atKey, hf] at h1 h2; rw [← h1] at h2; cases h2
  | some q =>
    simp only [DataW.atKey, hf] at h1
    obtain ⟨s, hs, e⟩ := List.mem_map.1 (h q (List.mem_of_find?_eq_some hf))
    refine ⟨s, hs, ?_⟩
    rw [← h1, ← e]; rfl
theorem lt_cell {w : World} {b off : Nat} {v : Value} (h : w.cell? ⟨b, off, none⟩ = some v) : b < w.heap.size := by
  by_cases hb : b < w.heap.size
  · exact hb
  · simp [World.cell?, Array.getElem?_eq_none (Nat.le_of_not_lt hb)] at h
set_option maxRecDepth 100000 in
theorem expd_any (W : World) (x z : Int) (s : Se) (g : Nat) (hg : W.cell? ⟨g, 0, none⟩ = some (.int .i64 z)) :
    Calls Tryz.prog 140 #[.int .i64 x, s.val, .pointer (some ⟨g, 0, none⟩)] W fun e w' => e = .returned (.bool (decide (s.at_ < z))) ∧ Below W.heap.size W w' := by
  have hgl := lt_cell hg
  have HB : Hid (∀ o, Below W.heap.size W (W.alloc o)) := Lib.hid (fun o => (Below.refl _ _).alloc (Nat.le_refl _) o)
  go_enter Tryz.func140, Tryz.ntmps140
  by_cases h : s.at_ < z
  · rw [decide_eq_true h]
    go_wp2_with fail
    go_ret
    exact ⟨rfl, HB.out _⟩
  · rw [decide_eq_false h]
    go_wp2_with fail
    go_ret
    exact ⟨rfl, HB.out _⟩

theorem grownB {w w' : World} (h : Below w.heap.size w w') : w.grownBy w' none := ⟨h.os, h.tape, h.output, h.size, fun k hk _ => h.block k hk⟩
set_option maxRecDepth 100000 in
set_option maxHeartbeats 4000000 in
theorem tdel_any {w : World} {t m : Nat} {L : List Se} (h : Tb w t m L) (z : Int) (g : Nat) (hg : w.cell? ⟨g, 0, none⟩ = some (.int .i64 z)) (hgm : g ≠ m) :
    Calls Tryz.prog 139 #[.map (some m), .func (.func 140) #[] #[.pointer (some ⟨g, 0, none⟩)]] w fun e w' => e = .returned (.tuple #[]) ∧ Tb w' t m (expS L z) ∧ Fr (fun k => k = m) w w' := by
  have HT := Lib.hid h
  have hown := h.own
  obtain ⟨es0, hes, hap, hkeys⟩ := hown.entries keyLaw
  have hes2 : es0 = L.map entS := by unfold mapS at hes; exact (DataW.map.inj hes).symm
  have HSUB : Hid (∀ q ∈ es0, q ∈ L.map entS) := Lib.hid (fun q hq => hes2 ▸ hq)
  have HES := Lib.hid hes
  have HG : Hid (∀ W, w.grownBy W (some m) → W.cell? ⟨g, 0, none⟩ = some (.int .i64 z)) := Lib.hid (fun W hW => by
    rw [← hg]
    have hbl := lt_cell hg
    simp only [World.cell?, hW.block g hbl (by simp [hgm])])
  rw [hes] at hown
  have HOWN := Lib.hid hown
  have HAP := Lib.hid hap
  have HK := Lib.hid hkeys
  have hen : ∀ args w, (callFunc 140 args).run Tryz.prog w = .ok (.enter 140 args) w := enters_of Tryz.func140 (by kernel_rfl) rfl
  clear h hes hes2 hown hap hkeys hg
  go_enter Tryz.func139, Tryz.ntmps139
  go_wp2_with (at_range; refine wpList_range_own _ rfl _ 180 rfl 3 152 keyLaw Tryz.underlying180 seElem m L.length (DataW.map es0) rfl HOWN.out ?_; intro w0 hrg0 hg0 hs0)
  go_frame
  have HRG0 := Lib.hid hrg0
  have HG0 := Lib.hid hg0
  clear hrg0 hg0 hs0
  go_loopw [] (fun wr => ∃ (left : Lit → Bool) (cnt : Nat), wr.ranges Tryz.prog 3 seElem m w.heap.size L.length (Fk (goneS z) es0 left) left cnt ∧ w.grownBy wr (some m)) (fun wr => wr.rangeLeft m w.heap.size)
  case atStart => exact ⟨_, _, by rw [Fk_start HK.out]; exact HRG0.out, HG0.out.but _⟩
  case round =>
    obtain ⟨left, cnt, hrg, hgw⟩ := hrel
    have HRG := Lib.hid hrg
    have HGW := Lib.hid hgw
    have HMEA := Lib.hid hrg.left_eq
    have hrl := hrg.lt
    have hml := hrg.owns.lt
    clear hrg hgw
    go_wp2_with (at_next; refine wpList_next_ranges _ rfl _ rfl 3 keyLaw seElem (Value.int .i64) Se.val invI (fun v y hv => by obtain ⟨s, h1, _⟩ := seElem_inv hv; exact ⟨s, h1⟩) m w.heap.size L.length (Fk (goneS z) es0 left) left cnt rfl HRG.out ?_ ?_)
    · intro _ hl0
      have hown9 := HRG.out.owns
      rw [Fk_end hl0, ← HES.out, goneS_exp] at hown9
      have HOWN9 := Lib.hid hown9
      clear hl0 hown9
      go_wp2_with fail
      go_end0
      have hf : Fr (fun k => k = m) w wr := Fr.of_grown HGW.out (fun k hk => (Option.some.inj hk).symm)
      exact ⟨rfl, ⟨(hf.block t HT.out.lt HT.out.ne).trans HT.out.hp, own_shrink HOWN9.out (by rw [mapS_size]; exact Nat.le_refl _), HT.out.ne, HT.out.gr.exp z⟩, hf⟩
    · intro x c kl y ps w3 cnt3 hkey hleft hy hat hrg3 hlt3 hg3 hs3 hen3
      have hy3 : y = .held c.val := by rw [seElem_val] at hy; exact (congrArg Prod.fst (Option.some.inj hy)).symm
      have hpd : goneS z kl y = decide (c.at_ < z) := by rw [hy3, goneS_val]
      have hgw3 := HGW.out.andThen hg3 (fun j hj => by cases hj; exact Or.inl (Nat.le_refl _))
      have hgx := HG.out w3 hgw3
      have HE : Hid (∀ W, Below w3.heap.size w3 W → Calls Tryz.prog 140 #[.int .i64 x, c.val, .pointer (some ⟨g, 0, none⟩)] W fun e w' => e = .returned (.bool (decide (c.at_ < z))) ∧ Below W.heap.size W w') := Lib.hid (fun W hW => expd_any W x z c g ((hW.cell (lt_cell hgx)).trans hgx))
      have HB3 : Hid (Below w3.heap.size w3 (w3.alloc (.cells #[.int .i64 c.ss, .int .i64 c.sq, .int .i64 c.at_, .int .i64 c.r.er, .int .i64 c.r.ss, .int .i64 c.r.gn, .int .i64 c.r.ad, .int .i64 c.r.sa, .int .i64 c.r.ot, .int .i64 c.r.cy, .int .i64 c.r.fu] 152 (0, 0)))) := Lib.hid ((Below.refl _ _).alloc (Nat.le_refl _) _)
      have HGW3 := Lib.hid hgw3
      have HRG3 := Lib.hid hrg3
      have HKEY := Lib.hid hkey
      have HLEFT := Lib.hid hleft
      have HAT := Lib.hid hat
      have HPD := Lib.hid hpd
      have HLT3 := Lib.hid hlt3
      clear hkey hleft hy hat hrg3 hlt3 hg3 hs3 hy3 hpd hgw3 hgx
      dsimp only [Se.val] at hen3 HE ⊢
      by_cases hgo : c.at_ < z
      · go_wp2_with fail
        refine (HE.out _ HB3.out).mono ?_
        rintro e w4 ⟨rfl, hb4⟩
        rw [decide_eq_true hgo]
        have HB4 : Hid (w3.grownBy w4 none) := Lib.hid (grownB (HB3.out.trans (hb4.mono HB3.out.size)))
        clear hb4
        have HRG4 := Lib.hid (HRG3.out.kept HB4.out (by simp) (by simp))
        go_wp2_with (at_delete; refine wpList_delete_ranges _ rfl _ _ 180 3 rfl 152 keyLaw Tryz.underlying180 seElem m w.heap.size L.length _ _ _ rfl HRG4.out _ _ rfl HKEY.out ?_; intro w5 cnt5 hrg5 hle5 hturn5; go_frame)
        rw [strike_twice] at hrg5
        have HRG5 := Lib.hid hrg5
        have HT5 := Lib.hid hturn5
        have HLE5 := Lib.hid hle5
        clear hrg5 hturn5 hle5
        go_roundw
        case rel =>
          have hp1 : goneS z kl y = true := by rw [HPD.out, decide_eq_true hgo]
          have hr5 := HRG5.out
          rw [Fk_struck HAP.out (keyLaw.key HKEY.out) HLEFT.out hp1 HAT.out] at hr5
          have hg5 : w.grownBy w5 (some m) := (HGW3.out.andThen HB4.out (fun j hj => by cases hj)).andThen HT5.out.grown (fun j hj => by cases hj; exact Or.inr rfl)
          first
          | exact ⟨_, _, _, _, _, _, ⟨_, cnt5, hr5, hg5⟩, rfl⟩
          | exact ⟨_, _, _, _, _, _, _, ⟨_, cnt5, hr5, hg5⟩, rfl⟩
          | exact ⟨_, _, _, _, _, _, _, _, ⟨_, cnt5, hr5, hg5⟩, rfl⟩
          | exact ⟨_, _, _, _, _, _, _, _, _, ⟨_, cnt5, hr5, hg5⟩, rfl⟩
          | exact ⟨_, _, _, _, _, _, _, _, _, _, ⟨_, cnt5, hr5, hg5⟩, rfl⟩
          | exact ⟨_, _, _, _, _, _, _, _, _, _, _, ⟨_, cnt5, hr5, hg5⟩, rfl⟩
          | exact ⟨_, _, _, _, _, _, _, _, _, _, _, _, ⟨_, cnt5, hr5, hg5⟩, rfl⟩
          | exact ⟨_, _, _, _, _, _, _, _, _, _, _, _, _, ⟨_, cnt5, hr5, hg5⟩, rfl⟩
          | exact ⟨_, _, _, _, _, _, _, _, _, _, _, _, _, _, ⟨_, cnt5, hr5, hg5⟩, rfl⟩
          | exact ⟨_, _, _, _, _, _, _, _, _, _, _, _, _, _, _, ⟨_, cnt5, hr5, hg5⟩, rfl⟩
          | exact ⟨_, _, _, _, _, _, _, _, _, _, _, _, _, _, _, _, ⟨_, cnt5, hr5, hg5⟩, rfl⟩
          | exact ⟨_, _, _, _, _, _, _, _, _, _, _, _, _, _, _, _, _, ⟨_, cnt5, hr5, hg5⟩, rfl⟩
          | exact ⟨_, cnt5, hr5, hg5⟩
        case measure =>
          rw [HRG5.out.left_eq, HMEA.out]
          have := HLT3.out
          have := HLE5.out
          omega
      · go_wp2_with fail
        refine (HE.out _ HB3.out).mono ?_
        rintro e w4 ⟨rfl, hb4⟩
        rw [decide_eq_false (by omega)]
        have HB4 : Hid (w3.grownBy w4 none) := Lib.hid (grownB (HB3.out.trans (hb4.mono HB3.out.size)))
        clear hb4
        have HRG4 := Lib.hid (HRG3.out.kept HB4.out (by simp) (by simp))
        go_wp2_with fail
        go_roundw
        case rel =>
          have hp1 : goneS z kl y = false := by rw [HPD.out, decide_eq_false (by omega)]
          have hr5 := HRG4.out
          rw [Fk_stays HAP.out (keyLaw.key HKEY.out) HLEFT.out hp1 HAT.out] at hr5
          have hg5 : w.grownBy w4 (some m) := HGW3.out.andThen HB4.out (fun j hj => by cases hj)
          first
          | exact ⟨_, _, _, _, _, _, ⟨_, cnt3, hr5, hg5⟩, rfl⟩
          | exact ⟨_, _, _, _, _, _, _, ⟨_, cnt3, hr5, hg5⟩, rfl⟩
          | exact ⟨_, _, _, _, _, _, _, _, ⟨_, cnt3, hr5, hg5⟩, rfl⟩
          | exact ⟨_, _, _, _, _, _, _, _, _, ⟨_, cnt3, hr5, hg5⟩, rfl⟩
          | exact ⟨_, _, _, _, _, _, _, _, _, _, ⟨_, cnt3, hr5, hg5⟩, rfl⟩
          | exact ⟨_, _, _, _, _, _, _, _, _, _, _, ⟨_, cnt3, hr5, hg5⟩, rfl⟩
          | exact ⟨_, _, _, _, _, _, _, _, _, _, _, _, ⟨_, cnt3, hr5, hg5⟩, rfl⟩
          | exact ⟨_, _, _, _, _, _, _, _, _, _, _, _, _, ⟨_, cnt3, hr5, hg5⟩, rfl⟩
          | exact ⟨_, _, _, _, _, _, _, _, _, _, _, _, _, _, ⟨_, cnt3, hr5, hg5⟩, rfl⟩
          | exact ⟨_, _, _, _, _, _, _, _, _, _, _, _, _, _, _, ⟨_, cnt3, hr5, hg5⟩, rfl⟩
          | exact ⟨_, _, _, _, _, _, _, _, _, _, _, _, _, _, _, _, ⟨_, cnt3, hr5, hg5⟩, rfl⟩
          | exact ⟨_, _, _, _, _, _, _, _, _, _, _, _, _, _, _, _, _, ⟨_, cnt3, hr5, hg5⟩, rfl⟩
          | exact ⟨_, cnt3, hr5, hg5⟩
        case measure =>
          rw [HRG4.out.left_eq, HMEA.out]
          exact HLT3.out

/-- What Expire leaves. -/
def ResExp (w : World) (t m : Nat) (L : List Se) (z : Int) (e : Ending) (w' : World) : Prop :=
  e = .returned (.int .i64 ((L.length : Int) - ((expS L z).length : Int))) ∧ Tb w' t m (expS L z) ∧ Fr (fun k => k = m) w w'
set_option maxRecDepth 100000 in
set_option maxHeartbeats 2000000 in
theorem texp_any {w : World} {t m : Nat} {L : List Se} (h : Tb w t m L) (z : Int) :
    Calls Tryz.prog 115 #[.pointer (some ⟨t, 0, none⟩), .int .i64 z] w (ResExp w t m L z) := by
  have hB : Below w.heap.size w (w.alloc (.cells #[.int .i64 z] 3)) := (Below.refl _ _).alloc (Nat.le_refl _) _
  have hst := h.below hB (Nat.le_refl _)
  have hsl := h.lt
  have hml := h.ltm
  have hcs := blk_cell hst.hp
  have hlen := hst.len 3
  have hT32 := h.gr.len
  have hR32 := (h.gr.exp z).len
  have HM := Lib.hid (tmade_any hst)
  have HD := Lib.hid (tdel_any hst z w.heap.size (blk_cell (heap_alloc_new w _) 0) (by omega))
  have HB := Lib.hid hB
  clear h hst hB
  go_enter Tryz.func115, Tryz.ntmps115
  go_wp2_with fail
  refine HM.out.mono ?_
  rintro e w1 ⟨rfl, rfl⟩
  go_wp2_with fail
  refine HD.out.mono ?_
  rintro e w1 ⟨rfl, hst1, hfr1⟩
  have hc1 := blk_cell hst1.hp
  have hlen1 := hst1.len 3
  have HST := Lib.hid hst1
  have HFR := Lib.hid hfr1
  clear hcs hlen hst1 hfr1
  generalize hn : (expS L z).length = n at *
  have HN := Lib.hid hn
  clear hn
  go_wp2_with fail
  go_ret
  refine ⟨by rw [HN.out]; rfl, HST.out, (Fr.of_below HB.out).trans HFR.out⟩
end Go.Proofs.YtfjpenbahoeklaaGreatDoor
namespace Go.Proofs.YtfjpenbahoeklaaGreatDoor
/-- An entry. -/
structure En where
  ix : Int
  te : Int
  da : List UInt8
end Go.Proofs.YtfjpenbahoeklaaGreatDoor
namespace Go.Proofs.YtfjpenbahoeklaaGreatDoor
open Go.RowKit

/-- A machine. -/
structure Ma where
  T : List Tr
  L : List Se
  ix : Int
  te : Int
  vo : List Int
def Ma.new (vo : List Int) : Ma := ⟨[], [], 0, 0, vo⟩
def Rp.err (e : Int) : Rp := ⟨e, 0, 0, 0, 0, 0, 0, 0⟩
def Rp.cnt (r : Rp) (c : Cnt) : Rp := { r with ad := c.ad, sa := c.sa, ot := c.ot, cy := c.cy, fu := c.fu }
/-- What ingest does; an error, or none. -/
def ingM (M : Ma) (c : Cm) : Ma × Rp × Option Int :=
  let a := askS M.L c.se c.sq
  if a.2.2 ≠ 0 then (M, Rp.zero, some a.2.2)
  else if a.2.1 = true then (M, a.1, none)
  else
    let g := ingA M.T c.sp
    let r := a.1.cnt g.2.1
    ({ M with T := g.1, L := (keepS M.L c.se c.sq M.ix r).1 }, r, none)
/-- What a command does. -/
def doM (M : Ma) (c : Cm) : Ma × Rp × Option Int :=
  if c.ki = 1 then
    let o := opnS M.L M.ix
    if o.2 ≠ 0 then ({ M with L := o.1 }, Rp.zero, some o.2) else ({ M with L := o.1 }, { Rp.zero with ss := M.ix }, none)
  else if c.ki = 2 then ingM M c
  else if c.ki = 3 then ({ M with L := expS M.L c.at_ }, { Rp.zero with gn := (M.L.length : Int) - ((expS M.L c.at_).length : Int) }, none)
  else if c.ki = 4 then ({ M with T := retT M.T c.at_ }, { Rp.zero with gn := (M.T.length : Int) - ((retT M.T c.at_).length : Int) }, none)
  else if c.ki = 5 then ({ M with vo := c.vo }, Rp.zero, none)
  else (M, Rp.zero, none)
/-- What an entry does; 51: it is not the next one. -/
def applyM (M : Ma) (e : En) : Ma × Rp × Int :=
  if e.ix ≠ M.ix + 1 ∨ 1099511627776 < e.ix ∨ e.te < max M.te 1 ∨ 1099511627776 < e.te then (M, Rp.zero, 51)
  else match cmGet e.da with
    | none => ({ M with ix := e.ix, te := e.te }, Rp.err 90, 0)
    | some c =>
      let r := doM { M with ix := e.ix, te := e.te } c
      (r.1, (match r.2.2 with
        | none => r.2.1
        | some x => Rp.err x), 0)
structure GrM (M : Ma) : Prop where
  t : GrT M.T
  l : GrS M.L
  i0 : 0 ≤ M.ix
  i1 : M.ix ≤ 1099511627776
  t0 : 0 ≤ M.te
  t1 : M.te ≤ 1099511627776
  v : okV M.vo = true
theorem GrM.new {vo : List Int} (h : okV vo = true) : GrM (Ma.new vo) := ⟨GrT.nil, GrS.nil, by simp [Ma.new], by simp [Ma.new], by simp [Ma.new], by simp [Ma.new], h⟩
theorem Cm.ok_parts {c : Cm} (h : c.ok = true) : fieldsB c = true ∧ c.sp.length ≤ 8 ∧ c.sp.all Sp.ok = true ∧ (c.ki = 5 → okV c.vo = true) := by
  unfold Cm.ok at h
  simp only [Bool.and_eq_true, Bool.or_eq_true, decide_eq_true_eq] at h
  obtain ⟨⟨⟨h1, h2⟩, h3⟩, h4⟩ := h
  refine ⟨h1, h2, h3, fun h5 => ?_⟩
  rcases h4 with h4 | h4
  · exact absurd h5 h4
  · exact h4
theorem GrM.ing {M : Ma} (h : GrM M) (c : Cm) : GrM (ingM M c).1 := by
  unfold ingM
  dsimp only
  by_cases h1 : (askS M.L c.se c.sq).2.2 ≠ 0
  · rw [if_pos h1]; exact h
  · rw [if_neg h1]
    by_cases h2 : (askS M.L c.se c.sq).2.1 = true
    · rw [if_pos h2]; exact h
    · rw [if_neg h2]; exact ⟨h.t.ingA _, h.l.keep _ _ _ _, h.i0, h.i1, h.t0, h.t1, h.v⟩
theorem GrM.do_ {M : Ma} (h : GrM M) {c : Cm} (hc : c.ok = true) : GrM (doM M c).1 := by
  unfold doM
  dsimp only
  by_cases h1 : c.ki = 1
  · rw [if_pos h1]
    by_cases ho : (opnS M.L M.ix).2 ≠ 0
    · rw [if_pos ho]; exact ⟨h.t, h.l.opn _, h.i0, h.i1, h.t0, h.t1, h.v⟩
    · rw [if_neg ho]; exact ⟨h.t, h.l.opn _, h.i0, h.i1, h.t0, h.t1, h.v⟩
  rw [if_neg h1]
  by_cases h2 : c.ki = 2
  · rw [if_pos h2]; exact h.ing c
  rw [if_neg h2]
  by_cases h3 : c.ki = 3
  · rw [if_pos h3]; exact ⟨h.t, h.l.exp _, h.i0, h.i1, h.t0, h.t1, h.v⟩
  rw [if_neg h3]
  by_cases h4 : c.ki = 4
  · rw [if_pos h4]; exact ⟨h.t.ret _, h.l, h.i0, h.i1, h.t0, h.t1, h.v⟩
  rw [if_neg h4]
  by_cases h5 : c.ki = 5
  · rw [if_pos h5]; exact ⟨h.t, h.l, h.i0, h.i1, h.t0, h.t1, (Cm.ok_parts hc).2.2.2 h5⟩
  rw [if_neg h5]; exact h
theorem cmGet_ok {l : List UInt8} {c : Cm} (h : cmGet l = some c) : c.ok = true := by
  unfold cmGet cmFin at h
  by_cases h1 : scEnd l (cmRead l).2.1 (cmRead l).2.2 = 0 ∧ (cmRead l).1.ok = true
  · rw [if_pos h1] at h; cases h; exact h1.2
  · rw [if_neg h1] at h; cases h
/-- Is it no next entry? -/
def badE (M : Ma) (e : En) : Prop := e.ix ≠ M.ix + 1 ∨ 1099511627776 < e.ix ∨ e.te < max M.te 1 ∨ 1099511627776 < e.te
theorem applyM_bad {M : Ma} {e : En} (h : badE M e) : applyM M e = (M, Rp.zero, 51) := if_pos h
theorem applyM_none {M : Ma} {e : En} (h : ¬ badE M e) (hc : cmGet e.da = none) : applyM M e = ({ M with ix := e.ix, te := e.te }, Rp.err 90, 0) := by
  unfold applyM
  refine (if_neg h).trans ?_
  rw [hc]
theorem applyM_some {M : Ma} {e : En} (h : ¬ badE M e) {c : Cm} (hc : cmGet e.da = some c) : applyM M e = ((doM { M with ix := e.ix, te := e.te } c).1, (match (doM { M with ix := e.ix, te := e.te } c).2.2 with
        | none => (doM { M with ix := e.ix, te := e.te } c).2.1
        | some x => Rp.err x), 0) := by
  unfold applyM
  refine (if_neg h).trans ?_
  rw [hc]
theorem GrM.at_ {M : Ma} (h : GrM M) {e : En} (he : ¬ badE M e) : GrM { M with ix := e.ix, te := e.te } := by
  unfold badE at he
  have h0 := h.i0
  have h1 := h.t0
  refine ⟨h.t, h.l, ?_, ?_, ?_, ?_, h.v⟩ <;> simp only <;> omega
theorem GrM.apply {M : Ma} (h : GrM M) (e : En) : GrM (applyM M e).1 := by
  by_cases hb : badE M e
  · rw [applyM_bad hb]; exact h
  · cases hc : cmGet e.da with
    | none => rw [applyM_none hb hc]; exact h.at_ hb
    | some c => rw [applyM_some hb hc]; exact (h.at_ hb).do_ (cmGet_ok hc)
end Go.Proofs.YtfjpenbahoeklaaGreatDoor
namespace Go.Proofs.YtfjpenbahoeklaaGreatDoor
open Go Go.RowKit Go.Maps

/-- A machine in block b: its store in block s (map sm, all of it in SS), its table in block t (map tm), its voters in block vb; all of it in S. -/
structure Mc (w : World) (b s sm t tm vb c : Nat) (SS S : Nat → Prop) (M : Ma) : Prop where
  hp : w.heap[b]? = some (.cells #[.pointer (some ⟨s, 0, none⟩), .pointer (some ⟨t, 0, none⟩), .int .i64 M.ix, .int .i64 M.te, .slice (some ⟨vb, 0, none⟩) M.vo.length c] 144 (0, 0))
  st : St w s sm M.T SS
  tb : Tb w t tm M.L
  vo : RdI w w.heap.size (some ⟨vb, 0, none⟩) M.vo.length M.vo
  gr : GrM M
  n1 : b ≠ t ∧ b ≠ tm ∧ b ≠ vb ∧ t ≠ vb ∧ tm ≠ vb
  n2 : ¬ SS b ∧ ¬ SS t ∧ ¬ SS tm ∧ ¬ SS vb
  sb : S b ∧ S t ∧ S tm ∧ S vb
  sS : ∀ k, SS k → S k
  lt : ∀ k, S k → k < w.heap.size
/-- A machine in block b, all of it in S. -/
def MaAt (w : World) (b : Nat) (S : Nat → Prop) (M : Ma) : Prop := ∃ s sm t tm vb c SS, Mc w b s sm t tm vb c SS S M
section
variable {w w' : World} {b s sm t tm vb c : Nat} {SS S S2 : Nat → Prop} {M : Ma}
theorem Mc.fr (h : Mc w b s sm t tm vb c SS S M) (hf : Fr S2 w w') (hS : ∀ k, S k → ¬ S2 k) : Mc w' b s sm t tm vb c SS S M :=
  ⟨(hf.block b (h.lt b h.sb.1) (hS b h.sb.1)).trans h.hp, h.st.fr hf (fun k hk => hS k (h.sS k hk)), h.tb.fr hf (hS t h.sb.2.1) (hS tm h.sb.2.2.1),
    Rd.more (Fr.rdA h.vo hf (Nat.le_refl _) (fun k hk => by cases hk; exact hS vb h.sb.2.2.2)) hf.size, h.gr, h.n1, h.n2, h.sb, h.sS, fun k hk => Nat.lt_of_lt_of_le (h.lt k hk) hf.size⟩
theorem Mc.below {B : Nat} (h : Mc w b s sm t tm vb c SS S M) (hb : Below B w w') (hB : w.heap.size ≤ B) : Mc w' b s sm t tm vb c SS S M :=
  h.fr (S2 := fun _ => False) (Fr.of_below (hb.mono hB)) (fun _ _ h => h)
theorem Mc.mono (h : Mc w b s sm t tm vb c SS S M) (hS : ∀ k, S k → S2 k) (hl : ∀ k, S2 k → k < w.heap.size) : Mc w b s sm t tm vb c SS S2 M :=
  ⟨h.hp, h.st, h.tb, h.vo, h.gr, h.n1, h.n2, ⟨hS _ h.sb.1, hS _ h.sb.2.1, hS _ h.sb.2.2.1, hS _ h.sb.2.2.2⟩, fun k hk => hS k (h.sS k hk), hl⟩
theorem Mc.sto (h : Mc w b s sm t tm vb c SS S M) {T' : List Tr} (hs : St w' s sm T' (fun k => SS k ∨ (w.heap.size ≤ k ∧ k < w'.heap.size))) (hf : Fr SS w w') :
    Mc w' b s sm t tm vb c (fun k => SS k ∨ (w.heap.size ≤ k ∧ k < w'.heap.size)) (fun k => S k ∨ (w.heap.size ≤ k ∧ k < w'.heap.size)) { M with T := T' } := by
  have hb := h.lt _ h.sb.1
  have ht := h.lt _ h.sb.2.1
  have htm := h.lt _ h.sb.2.2.1
  have hvb := h.lt _ h.sb.2.2.2
  have hz := hf.size
  refine ⟨(hf.block b hb h.n2.1).trans h.hp, hs, h.tb.fr hf h.n2.2.1 h.n2.2.2.1, Rd.more (Fr.rdA h.vo hf (Nat.le_refl _) (fun k hk => by cases hk; exact h.n2.2.2.2)) hz, ⟨hs.gr, h.gr.l, h.gr.i0, h.gr.i1, h.gr.t0, h.gr.t1, h.gr.v⟩, h.n1, ⟨?_, ?_, ?_, ?_⟩,
    ⟨.inl h.sb.1, .inl h.sb.2.1, .inl h.sb.2.2.1, .inl h.sb.2.2.2⟩, ?_, ?_⟩
  · rintro (k | k) <;> first | exact h.n2.1 k | omega
  · rintro (k | k) <;> first | exact h.n2.2.1 k | omega
  · rintro (k | k) <;> first | exact h.n2.2.2.1 k | omega
  · rintro (k | k) <;> first | exact h.n2.2.2.2 k | omega
  · rintro k (hk | hk) <;> first | exact .inl (h.sS k hk) | exact .inr hk
  · rintro k (hk | hk)
    · have := h.lt k hk; omega
    · omega
theorem Mc.tab (h : Mc w b s sm t tm vb c SS S M) {L' : List Se} (ht : Tb w' t tm L') (hf : Fr (fun k => k = tm) w w') : Mc w' b s sm t tm vb c SS S { M with L := L' } :=
  ⟨(hf.block b (h.lt _ h.sb.1) h.n1.2.1).trans h.hp, h.st.fr hf (fun k hk e => h.n2.2.2.1 (e ▸ hk)), ht, Rd.more (Fr.rdA h.vo hf (Nat.le_refl _) (fun k hk e => by cases hk; exact h.n1.2.2.2.2 e.symm)) hf.size,
    ⟨h.gr.t, ht.gr, h.gr.i0, h.gr.i1, h.gr.t0, h.gr.t1, h.gr.v⟩, h.n1, h.n2, h.sb, h.sS, fun k hk => Nat.lt_of_lt_of_le (h.lt k hk) hf.size⟩
theorem Mc.cell (h : Mc w b s sm t tm vb c SS S M) (j : Nat) (u : Value) {M' : Ma} {vb' c' : Nat} (hT : M'.T = M.T) (hL : M'.L = M.L) (hg : GrM M') (hv : RdI w w.heap.size (some ⟨vb', 0, none⟩) M'.vo.length M'.vo) (hn : b ≠ vb' ∧ t ≠ vb' ∧ tm ≠ vb' ∧ ¬ SS vb' ∧ S vb')
    (hc : (#[.pointer (some ⟨s, 0, none⟩), .pointer (some ⟨t, 0, none⟩), .int .i64 M.ix, .int .i64 M.te, .slice (some ⟨vb, 0, none⟩) M.vo.length c] : Array Value).setIfInBounds j u = #[.pointer (some ⟨s, 0, none⟩), .pointer (some ⟨t, 0, none⟩), .int .i64 M'.ix, .int .i64 M'.te, .slice (some ⟨vb', 0, none⟩) M'.vo.length c']) :
    Mc (w.setCell ⟨b, j, none⟩ u) b s sm t tm vb' c' SS S M' := by
  have hf : Fr (fun k => k = b) w (w.setCell ⟨b, j, none⟩ u) := (Fr.refl (fun k => k = b) w).setCell (p := ⟨b, j, none⟩) rfl u
  have hp := blk_set h.hp j u
  rw [hc] at hp
  refine ⟨hp, hT ▸ h.st.fr hf (fun k hk e => h.n2.1 (e ▸ hk)), hL ▸ h.tb.fr hf (fun e => h.n1.1 e.symm) (fun e => h.n1.2.1 e.symm), Rd.more (Fr.rdA hv hf (Nat.le_refl _) (fun k hk e => by cases hk; exact hn.1 e.symm)) hf.size, hg, ⟨h.n1.1, h.n1.2.1, hn.1, hn.2.1, hn.2.2.1⟩, ⟨h.n2.1, h.n2.2.1, h.n2.2.2.1, hn.2.2.2.1⟩,
    ⟨h.sb.1, h.sb.2.1, h.sb.2.2.1, hn.2.2.2.2⟩, h.sS, fun k hk => Nat.lt_of_lt_of_le (h.lt k hk) hf.size⟩
theorem Mc.num (h : Mc w b s sm t tm vb c SS S M) {i j : Int} (hi : 0 ≤ i ∧ i ≤ 1099511627776) (hj : 0 ≤ j ∧ j ≤ 1099511627776) :
    Mc ((w.setCell ⟨b, 2, none⟩ (.int .i64 i)).setCell ⟨b, 3, none⟩ (.int .i64 j)) b s sm t tm vb c SS S { M with ix := i, te := j } := by
  have h1 : Mc (w.setCell ⟨b, 2, none⟩ (.int .i64 i)) b s sm t tm vb c SS S { M with ix := i } := h.cell 2 (.int .i64 i) rfl rfl ⟨h.gr.t, h.gr.l, hi.1, hi.2, h.gr.t0, h.gr.t1, h.gr.v⟩ h.vo ⟨h.n1.2.2.1, h.n1.2.2.2.1, h.n1.2.2.2.2, h.n2.2.2.2, h.sb.2.2.2⟩ rfl
  exact h1.cell 3 (.int .i64 j) rfl rfl ⟨h.gr.t, h.gr.l, hi.1, hi.2, hj.1, hj.2, h.gr.v⟩ h1.vo ⟨h.n1.2.2.1, h.n1.2.2.2.1, h.n1.2.2.2.2, h.n2.2.2.2, h.sb.2.2.2⟩ rfl
/-- Other voters, in a new block. -/
theorem Mc.vot (h : Mc w b s sm t tm vb c SS S M) {w1 : World} (hb : Below w.heap.size w w1) {vo : List Int} {g c' : Nat} (hok : okV vo = true) (hr : RdI w1 w1.heap.size (some ⟨g, 0, none⟩) vo.length vo) (hg : w.heap.size ≤ g) (hg2 : g < w1.heap.size) :
    Mc (w1.setCell ⟨b, 4, none⟩ (.slice (some ⟨g, 0, none⟩) vo.length c')) b s sm t tm g c' SS (fun k => S k ∨ (w.heap.size ≤ k ∧ k < w1.heap.size)) { M with vo := vo } := by
  have hbl := h.lt _ h.sb.1
  have htl := h.lt _ h.sb.2.1
  have html := h.lt _ h.sb.2.2.1
  have hz := hb.size
  have h1 := (h.below hb (Nat.le_refl _)).mono (S2 := fun k => S k ∨ (w.heap.size ≤ k ∧ k < w1.heap.size)) (fun k hk => .inl hk) (fun k hk => by
    rcases hk with hk | hk
    · have := h.lt k hk; omega
    · omega)
  exact h1.cell 4 (.slice (some ⟨g, 0, none⟩) vo.length c') rfl rfl ⟨h.gr.t, h.gr.l, h.gr.i0, h.gr.i1, h.gr.t0, h.gr.t1, hok⟩ hr ⟨by omega, by omega, by omega, fun hk => by have := h.lt g (h.sS g hk); omega, .inr ⟨hg, hg2⟩⟩ rfl
theorem Mc.drewN (h : Mc w b s sm t tm vb c SS S M) (n : Nat) : Mc (w.drewN n) b s sm t tm vb c SS S M := h.fr (S2 := fun _ => False) ((Fr.refl _ w).drewN n) (fun _ _ h => h)
theorem Mc.at_ (h : Mc w b s sm t tm vb c SS S M) : MaAt w b S M := ⟨s, sm, t, tm, vb, c, SS, h⟩
theorem MaAt.fr (h : MaAt w b S M) (hf : Fr S2 w w') (hS : ∀ k, S k → ¬ S2 k) : MaAt w' b S M := by
  obtain ⟨s, sm, t, tm, vb, c, SS, h⟩ := h; exact (h.fr hf hS).at_
theorem MaAt.below {B : Nat} (h : MaAt w b S M) (hb : Below B w w') (hB : w.heap.size ≤ B) : MaAt w' b S M := by
  obtain ⟨s, sm, t, tm, vb, c, SS, h⟩ := h; exact (h.below hb hB).at_
theorem MaAt.mono (h : MaAt w b S M) (hS : ∀ k, S k → S2 k) (hl : ∀ k, S2 k → k < w.heap.size) : MaAt w b S2 M := by
  obtain ⟨s, sm, t, tm, vb, c, SS, h⟩ := h; exact (h.mono hS hl).at_
theorem MaAt.drewN (h : MaAt w b S M) (n : Nat) : MaAt (w.drewN n) b S M := h.fr (S2 := fun _ => False) ((Fr.refl _ w).drewN n) (fun _ _ h => h)
/-- A machine that nothing touched. -/
theorem MaAt.same (h : MaAt w b S M) (hb : Below w.heap.size w w') : MaAt w' b (fun k => S k ∨ (w.heap.size ≤ k ∧ k < w'.heap.size)) M ∧ Fr S w w' := by
  refine ⟨(h.below hb (Nat.le_refl _)).mono (fun k hk => .inl hk) ?_, Fr.of_below hb⟩
  rintro k (hk | hk)
  · obtain ⟨_, _, _, _, _, _, _, h⟩ := h
    have := h.lt k hk
    have := hb.size
    omega
  · exact hk.2
theorem MaAt.lt (h : MaAt w b S M) : ∀ k, S k → k < w.heap.size := by obtain ⟨_, _, _, _, _, _, _, h⟩ := h; exact h.lt
theorem MaAt.own (h : MaAt w b S M) : S b := by obtain ⟨_, _, _, _, _, _, _, h⟩ := h; exact h.sb.1
theorem MaAt.gr (h : MaAt w b S M) : GrM M := by obtain ⟨_, _, _, _, _, _, _, h⟩ := h; exact h.gr
end

set_option maxRecDepth 100000 in
theorem mmade_any {w : World} {b : Nat} {S : Nat → Prop} {M : Ma} (h : MaAt w b S M) :
    Calls Tryz.prog 82 #[.pointer (some ⟨b, 0, none⟩)] w fun e w' => e = .returned (.bool true) ∧ w = w' := by
  obtain ⟨s, sm, t, tm, vb, c, SS, h⟩ := h
  have hc := blk_cell h.hp
  clear h
  go_enter Tryz.func82, Tryz.ntmps82
  go_wp2_with fail
  go_ret
  exact ⟨rfl, rfl⟩
end Go.Proofs.YtfjpenbahoeklaaGreatDoor
namespace Go.Proofs.YtfjpenbahoeklaaGreatDoor
open Go Go.RowKit Go.Maps

/-- An error as a value. -/
def errV : Option Int → Value
  | none => .nilIface
  | some n => .iface 28 (.int .i64 n)
/-- What doing a command leaves. -/
def ResDo (w : World) (b : Nat) (S : Nat → Prop) (r : Ma × Rp × Option Int) (e : Ending) (w' : World) : Prop :=
  e = .returned (.tuple #[r.2.1.val, errV r.2.2]) ∧ MaAt w' b (fun k => S k ∨ (w.heap.size ≤ k ∧ k < w'.heap.size)) r.1 ∧ Fr S w w'
theorem blk_set8 {w : World} {g : Nat} {t : TypeId} {z0 z1 z2 z3 z4 z5 z6 z7 : Value} (h : w.heap[g]? = some (.cells #[z0, z1, z2, z3, z4, z5, z6, z7] t (0, 0))) (u0 u1 u2 u3 u4 u5 u6 u7 : Value) :
    ((((((((w.setCell ⟨g, 0, none⟩ u0).setCell ⟨g, 1, none⟩ u1).setCell ⟨g, 2, none⟩ u2).setCell ⟨g, 3, none⟩ u3).setCell ⟨g, 4, none⟩ u4).setCell ⟨g, 5, none⟩ u5).setCell ⟨g, 6, none⟩ u6).setCell ⟨g, 7, none⟩ u7).heap[g]? = some (.cells #[u0, u1, u2, u3, u4, u5, u6, u7] t (0, 0)) := by
  have h8 := blk_set (blk_set (blk_set (blk_set (blk_set (blk_set (blk_set (blk_set h 0 u0) 1 u1) 2 u2) 3 u3) 4 u4) 5 u5) 6 u6) 7 u7
  simpa using h8
theorem fr_eight (w : World) (g : Nat) (u0 u1 u2 u3 u4 u5 u6 u7 : Value) : Fr (fun k => k = g) w
    ((((((((w.setCell ⟨g, 0, none⟩ u0).setCell ⟨g, 1, none⟩ u1).setCell ⟨g, 2, none⟩ u2).setCell ⟨g, 3, none⟩ u3).setCell ⟨g, 4, none⟩ u4).setCell ⟨g, 5, none⟩ u5).setCell ⟨g, 6, none⟩ u6).setCell ⟨g, 7, none⟩ u7) :=
  (((((((((Fr.refl (fun k => k = g) w).setCell (p := ⟨g, 0, none⟩) rfl u0).setCell (p := ⟨g, 1, none⟩) rfl u1).setCell (p := ⟨g, 2, none⟩) rfl u2).setCell (p := ⟨g, 3, none⟩) rfl u3).setCell (p := ⟨g, 4, none⟩) rfl u4).setCell (p := ⟨g, 5, none⟩) rfl u5).setCell (p := ⟨g, 6, none⟩) rfl u6).setCell (p := ⟨g, 7, none⟩) rfl u7)

set_option maxRecDepth 100000 in
set_option maxHeartbeats 4000000 in
theorem mingest_any {w : World} {b : Nat} {S : Nat → Prop} {M : Ma} (h : MaAt w b S M) (v : CmV) (B : Nat) (hB : B ≤ w.heap.size) (hok : v.c.ok = true) (hki : v.c.ki = 2) (hr : RdCm w B v) (hS : 0 < v.ns → ∀ k, v.As.map (·.block) = some k → ¬ S k) :
    Calls Tryz.prog 114 #[.pointer (some ⟨b, 0, none⟩), v.val] w (ResDo w b S (ingM M v.c)) := by
  obtain ⟨s, sm, t, tm, vb, c, SS, h⟩ := h
  obtain ⟨⟨ki, se, sq, at_, sp, vo⟩, As, ns, cs, Av, nv, cv⟩ := v
  dsimp only [CmV.val] at *
  subst hki
  obtain ⟨hfb, h8, hsp, hvx⟩ := Cm.ok_parts hok
  clear hvx
  have hfb := (fieldsB_iff _).1 hfb
  dsimp only at hfb h8 hsp
  have hnum := hfb.2.1
  clear hfb
  have hse : 1 ≤ se ∧ se ≤ 1099511627776 ∧ 1 ≤ sq ∧ sq ≤ 1099511627776 := by rcases hnum with h | h <;> omega
  have hlen : sp.length = ns := hr.sp.len
  have HNM : Hid (∀ s ∈ sp, s.nm.size ≤ 140737488355328) := Lib.hid (fun s hs => by
    have := (Sp.ok_parts (List.all_eq_true.1 hsp s hs)).2.1
    omega)
  have HS := Lib.hid hS
  have HR := Lib.hid hr.sp
  have HB0 := Lib.hid hB
  have H := Lib.hid h
  have hns8 : ns ≤ 8 := by omega
  have hix := h.gr.i0
  have hix1 := h.gr.i1
  have HLEN := Lib.hid hlen
  have HSP := Lib.hid hsp
  generalize hW0 : (w.alloc (.cells #[.int .i64 2, .int .i64 se, .int .i64 sq, .int .i64 at_, .slice As ns cs, .slice Av nv cv] 50 (0, 0))).alloc (.cells #[.int .i64 0, .int .i64 0, .int .i64 0, .int .i64 0, .int .i64 0, .int .i64 0, .int .i64 0, .int .i64 0] 32 (0, 0)) = W0
  have hz0 : W0.heap.size = w.heap.size + 2 := by rw [← hW0]; simp
  have hb0 : Below w.heap.size w W0 := by rw [← hW0]; exact ((Below.refl _ _).alloc (Nat.le_refl _) _).alloc (by simp) _
  have hc0 : W0.heap[w.heap.size]? = some (.cells #[.int .i64 2, .int .i64 se, .int .i64 sq, .int .i64 at_, .slice As ns cs, .slice Av nv cv] 50 (0, 0)) := by
    rw [← hW0]
    exact (Below.heap_alloc _ _ _ (by simp)).trans (heap_alloc_new w _)
  have hc1 : W0.heap[w.heap.size + 1]? = some (.cells #[.int .i64 0, .int .i64 0, .int .i64 0, .int .i64 0, .int .i64 0, .int .i64 0, .int .i64 0, .int .i64 0] 32 (0, 0)) := by
    rw [← hW0]
    exact heap_at (by simp)
  have HX : Hid (∀ W, Below (w.heap.size + 2) W0 W → Below w.heap.size w W ∧ w.heap.size + 2 ≤ W.heap.size ∧ Mc W b s sm t tm vb c SS S M ∧ (∀ j, W.cell? ⟨w.heap.size, j, none⟩ = (#[.int .i64 2, .int .i64 se, .int .i64 sq, .int .i64 at_, .slice As ns cs, .slice Av nv cv] : Array Value)[j]?) ∧
      W.heap[w.heap.size + 1]? = some (.cells #[.int .i64 0, .int .i64 0, .int .i64 0, .int .i64 0, .int .i64 0, .int .i64 0, .int .i64 0, .int .i64 0] 32 (0, 0))) := Lib.hid (fun W hW => by
    have hz := hW.size
    have hb1 : Below w.heap.size w W := hb0.trans (hW.mono (by omega))
    exact ⟨hb1, by omega, h.below hb1 (Nat.le_refl _), blk_cell ((hW.block _ (by omega)).trans hc0), (hW.block _ (by omega)).trans hc1⟩)
  have HASK : Hid (∀ W, Below (w.heap.size + 2) W0 W → Calls Tryz.prog 136 #[.pointer (some ⟨t, 0, none⟩), .int .i64 se, .int .i64 sq] W (ResAsk W M.L se sq)) := Lib.hid (fun W hW => task_any (HX.out W hW).2.2.1.tb se sq (wfI_of (by omega) (by omega)) (by omega))
  have HW0 := Lib.hid hW0
  clear h hr hS hB hlen hsp hok hb0 hc0 hc1 hnum
  generalize hA : askS M.L se sq = a at *
  obtain ⟨r, dn, ec⟩ := a
  have HA := Lib.hid hA
  clear hA
  go_enter Tryz.func114, Tryz.ntmps114
  go_upto_region 1 with fail
  have HZ0 := Lib.hid hz0
  have hz0x : w.heap.size + 2 ≤ W0.heap.size := by omega
  clear hz0
  go_cut [6, 7, 8] (fun v6 v7 v8 wx => ∃ rb, v6 = .pointer (some ⟨rb, 0, none⟩) ∧ v7 = .bool dn ∧ v8 = .int .i64 ec ∧ Below (w.heap.size + 2) W0 wx ∧ wx.heap[rb]? = some (.cells #[.int .i64 r.er, .int .i64 r.ss, .int .i64 r.gn, .int .i64 r.ad, .int .i64 r.sa, .int .i64 r.ot, .int .i64 r.cy, .int .i64 r.fu] 32 (0, 0)) ∧ w.heap.size + 2 ≤ rb)
  case first =>
    have HF1 : Hid (∀ W, Below (w.heap.size + 2) W0 W → (∀ j, W.cell? ⟨b, j, none⟩ = (#[.pointer (some ⟨s, 0, none⟩), .pointer (some ⟨t, 0, none⟩), .int .i64 M.ix, .int .i64 M.te, .slice (some ⟨vb, 0, none⟩) M.vo.length c] : Array Value)[j]?)) := Lib.hid (fun W hW => blk_cell (HX.out W hW).2.2.1.hp)
    have HF2 : Hid (∀ W, Below (w.heap.size + 2) W0 W → (∀ j, W.cell? ⟨w.heap.size, j, none⟩ = (#[.int .i64 2, .int .i64 se, .int .i64 sq, .int .i64 at_, .slice As ns cs, .slice Av nv cv] : Array Value)[j]?)) := Lib.hid (fun W hW => (HX.out W hW).2.2.2.1)
    clear hW0
    refine wp_region_plan 99 (.take 0 (.take 1 (.take 2 (.take 3 (.take 4 (.take 5 (.take 6 (.take 7 (.two 8 (.take 9 (.take 10 (.take 11 (.take 12 (.op 13 (.op 14 (.take 15 (.take 16 .done)))))))) 13 (.op 8 (.take 9 (.take 10 (.take 11 (.take 12 (.op 14 (.take 15 (.take 16 .done))))))))))))))))) (fun W => Below (w.heap.size + 2) W0 W) (by kernel_rfl) (by kernel_rfl) (by kernel_rfl) ((Below.refl _ _).drew) ?_
    repeat (first | (apply plan_take rfl; (focus (first | rfl | (go_simp; done))); (focus (intro W hW; have f1 := HF1.out W hW; have f2 := HF2.out W hW; go_simp; rfl)); (focus (intro K hK; go_simp; refine hK _ ?_; clear hK K))) | (apply plan_skip rfl; (focus (first | rfl | (go_simp; done))); (focus (intro K hK; go_simp; refine hK _ ?_; clear hK K))))
    refine plan_two ?_ ?_
    · apply plan_op rfl
      intro K hK
      go_simp
      go_wp2_with (fail)
      refine (HASK.out _ ((Below.refl _ _).drew)).mono ?_
      rintro e w1 ⟨rfl, hb1⟩
      have HB1 : Hid (Below (w.heap.size + 2) W0 w1) := Lib.hid ((Below.refl _ _).drew.trans (hb1.mono (show w.heap.size + 2 ≤ W0.heap.size by omega)))
      rw [HA.out]
      clear hb1
      go_wp2_with fail
      refine ⟨by first | exact HB1.out | (intro _; exact HB1.out), ?_⟩
      repeat (first | (apply plan_take rfl; (focus (first | rfl | (go_simp; done))); (focus (intro W hW; have f1 := HF1.out W hW; have f2 := HF2.out W hW; go_simp; rfl)); (focus (intro K hK; go_simp; refine hK _ ?_; clear hK K))) | (apply plan_skip rfl; (focus (first | rfl | (go_simp; done))); (focus (intro K hK; go_simp; refine hK _ ?_; clear hK K))))
      apply plan_op rfl
      intro K hK
      go_simp
      go_wp2_with (fail)
      have HB2 : Hid (Below (w.heap.size + 2) W0 (w1.alloc (.cells #[.int .i64 0, .int .i64 0, .int .i64 0, .int .i64 0, .int .i64 0, .int .i64 0, .int .i64 0, .int .i64 0] 32 (0, 0)))) := Lib.hid (below_alloc (by omega) HB1.out _)
      refine ⟨by first | exact HB2.out | (intro _; exact HB2.out), ?_⟩
      apply plan_op rfl
      intro K hK
      go_simp
      go_wp2_with (fail)
      have HW2 : Hid (Below (w.heap.size + 2) W0 (w1.alloc (.cells #[.int .i64 r.er, .int .i64 r.ss, .int .i64 r.gn, .int .i64 r.ad, .int .i64 r.sa, .int .i64 r.ot, .int .i64 r.cy, .int .i64 r.fu] 32 (0, 0)))) := Lib.hid (below_alloc (by omega) HB1.out _)
      refine ⟨by first | exact HW2.out | (intro _; exact HW2.out), ?_⟩
      repeat (first | (apply plan_take rfl; (focus (first | rfl | (go_simp; done))); (focus (intro W hW; have f1 := HF1.out W hW; have f2 := HF2.out W hW; go_simp; rfl)); (focus (intro K hK; go_simp; refine hK _ ?_; clear hK K))) | (apply plan_skip rfl; (focus (first | rfl | (go_simp; done))); (focus (intro K hK; go_simp; refine hK _ ?_; clear hK K))))
      refine plan_nil ?_
      go_wp2_with fail
      go_meet
      exact ⟨w1.heap.size, rfl, rfl, rfl, HW2.out, heap_at rfl, by have := HB1.out.size; omega⟩
    · apply plan_op rfl
      intro K hK
      go_simp
      go_wp2_with (fail)
      have HB2 : Hid (Below (w.heap.size + 2) W0 ((W0.alloc (.cells #[.int .i64 0, .int .i64 0, .int .i64 0, .int .i64 0, .int .i64 0, .int .i64 0, .int .i64 0, .int .i64 0] 32 (0, 0))).drew)) := Lib.hid (below_alloc (by omega) (Below.refl _ _) _).drew
      refine ⟨by first | exact HB2.out | (intro _; exact HB2.out), ?_⟩
      apply plan_op rfl
      intro K hK
      go_simp
      go_wp2_with (fail)
      refine (HASK.out _ HB2.out).mono ?_
      rintro e w1 ⟨rfl, hb1⟩
      have HB1 : Hid (Below (w.heap.size + 2) W0 w1) := Lib.hid (HB2.out.trans (hb1.mono (by have := HB2.out.size; omega)))
      have HC1 : Hid (w1.heap[W0.heap.size]? = some (.cells #[.int .i64 0, .int .i64 0, .int .i64 0, .int .i64 0, .int .i64 0, .int .i64 0, .int .i64 0, .int .i64 0] 32 (0, 0))) := Lib.hid ((hb1.block W0.heap.size (by show W0.heap.size < (W0.alloc _).heap.size; simp)).trans (heap_at (w := W0) rfl))
      rw [HA.out]
      clear hb1
      go_wp2_with fail
      refine ⟨by first | exact HB1.out | (intro _; exact HB1.out), ?_⟩
      repeat (first | (apply plan_take rfl; (focus (first | rfl | (go_simp; done))); (focus (intro W hW; have f1 := HF1.out W hW; have f2 := HF2.out W hW; go_simp; rfl)); (focus (intro K hK; go_simp; refine hK _ ?_; clear hK K))) | (apply plan_skip rfl; (focus (first | rfl | (go_simp; done))); (focus (intro K hK; go_simp; refine hK _ ?_; clear hK K))))
      have fc1 := blk_cell HC1.out
      have ff1 := blk_frozen HC1.out
      apply plan_op rfl
      intro K hK
      go_simp
      go_wp2_with (fail)
      have hfr := fr_eight w1 W0.heap.size (.int .i64 r.er) (.int .i64 r.ss) (.int .i64 r.gn) (.int .i64 r.ad) (.int .i64 r.sa) (.int .i64 r.ot) (.int .i64 r.cy) (.int .i64 r.fu)
      have hst := blk_set8 HC1.out (.int .i64 r.er) (.int .i64 r.ss) (.int .i64 r.gn) (.int .i64 r.ad) (.int .i64 r.sa) (.int .i64 r.ot) (.int .i64 r.cy) (.int .i64 r.fu)
      have HST := Lib.hid hst
      have HW2 := Lib.hid (HB1.out.trans (hfr.below (B := w.heap.size + 2) (by have := HB1.out.size; omega) (fun k hk => by omega)))
      clear hfr hst
      refine ⟨by first | exact HW2.out | (intro _; exact HW2.out), ?_⟩
      repeat (first | (apply plan_take rfl; (focus (first | rfl | (go_simp; done))); (focus (intro W hW; have f1 := HF1.out W hW; have f2 := HF2.out W hW; go_simp; rfl)); (focus (intro K hK; go_simp; refine hK _ ?_; clear hK K))) | (apply plan_skip rfl; (focus (first | rfl | (go_simp; done))); (focus (intro K hK; go_simp; refine hK _ ?_; clear hK K))))
      refine plan_nil ?_
      go_wp2_with fail
      go_meet
      exact ⟨W0.heap.size, rfl, rfl, rfl, HW2.out, HST.out, hz0x⟩
  case rest =>
  obtain ⟨rb, rfl, rfl, rfl, hbc, hrb, hrb2⟩ := hcut
  obtain ⟨hb1, hz1, hmc, hcmd, hres⟩ := HX.out wc hbc
  have HB1 := Lib.hid hb1
  have HMC := Lib.hid hmc
  have HRB := Lib.hid hrb
  have HRES := Lib.hid hres
  have HCC := Lib.hid hcmd
  have fres := blk_cell hres
  have gres := blk_frozen hres
  have frb := blk_cell hrb
  have hrbl : rb < wc.heap.size := (Array.getElem?_eq_some_iff.1 hrb).1
  clear hb1 hmc hrb hres hcmd hbc hW0
  have HIM : Hid (ingM M ⟨2, se, sq, at_, sp, vo⟩ = if ec ≠ 0 then (M, Rp.zero, some ec) else if dn = true then (M, r, none) else ({ M with T := (ingA M.T sp).1, L := (keepS M.L se sq M.ix (r.cnt (ingA M.T sp).2.1)).1 }, r.cnt (ingA M.T sp).2.1, none)) := Lib.hid (by unfold ingM; rw [HA.out])
  by_cases he : ec = 0
  · subst he
    cases dn
    · have him := HIM.out
      rw [if_neg (by simp), if_neg Bool.false_ne_true] at him
      have HIM2 := Lib.hid him
      clear him HIM
      have HING : Hid (Calls Tryz.prog 137 #[.pointer (some ⟨s, 0, none⟩), .slice As ns cs] wc.drew (ResIng wc.drew s sm SS (ingA M.T sp))) := Lib.hid (ingest_any (HMC.out.st.drewN 1) As ns cs B sp (by have := HB0.out; show B ≤ wc.heap.size; omega) (by omega) HNM.out (Rd.drew (Rd.below' HR.out HB1.out HB0.out (Nat.le_refl _))) (fun h0 k hk hs => HS.out h0 k hk (H.out.sS k hs)))
      have hing0 : (ingA M.T sp).2.2 = 0 := by unfold ingA; rw [if_pos HSP.out]
      generalize hg : ingA M.T sp = g at *
      obtain ⟨T2, cn, e2⟩ := g
      dsimp only at hing0
      subst hing0
      have HGI := Lib.hid hg
      clear hg
      have HC : Hid (∀ W, Fr (fun k => SS k ∨ k = rb) wc W → (∀ j, W.cell? ⟨b, j, none⟩ = (#[.pointer (some ⟨s, 0, none⟩), .pointer (some ⟨t, 0, none⟩), .int .i64 M.ix, .int .i64 M.te, .slice (some ⟨vb, 0, none⟩) M.vo.length c] : Array Value)[j]?) ∧ (∀ j, W.cell? ⟨w.heap.size, j, none⟩ = (#[.int .i64 2, .int .i64 se, .int .i64 sq, .int .i64 at_, .slice As ns cs, .slice Av nv cv] : Array Value)[j]?)) := Lib.hid (fun W hW => ⟨blk_cell ((hW.block b (by have := H.out.lt b H.out.sb.1; omega) (fun hk => by
          rcases hk with hk | hk
          · exact H.out.n2.1 hk
          · have := H.out.lt b H.out.sb.1; omega)).trans HMC.out.hp), fun j => by
          rw [← HCC.out j]
          have hbk := hW.block w.heap.size (by omega) (fun hk => by
            rcases hk with hk | hk
            · have := H.out.lt _ (H.out.sS _ hk); omega
            · omega)
          simp only [World.cell?, hbk]⟩)
      go_wp2_with fail
      refine wp_region_sched [(0, true), (1, true), (2, true), (3, true), (4, true), (5, true), (6, false), (7, true), (8, true), (9, true), (10, true), (11, false)] (fun W => Fr (fun k => SS k ∨ k = rb) wc W) (by kernel_rfl) (by kernel_rfl) rfl (by kernel_rfl) ((Fr.refl _ _).drew) ?_
      repeat (first | (apply sched_take rfl; (focus (first | rfl | (go_simp; done))); (focus (intro W hW; have f12 := HC.out W hW; have f1 := f12.1; have f2 := f12.2; clear f12; go_simp; rfl)); (focus (intro K hK; go_simp; refine hK _ ?_; clear hK K))) | (apply sched_skip rfl; (focus (first | rfl | (go_simp; done))); (focus (intro K hK; go_simp; refine hK _ ?_; clear hK K))))
      apply sched_op rfl
      intro K hK
      go_simp
      go_wp2_with (fail)
      refine HING.out.mono ?_
      rintro e w5 ⟨rfl, hst5, hfr5⟩
      have hfr5w : Fr SS wc w5 := (Fr.refl SS wc).drew.trans hfr5
      have hz5 : wc.heap.size ≤ w5.heap.size := hfr5w.size
      have hrb5 : w5.heap[rb]? = some (.cells #[.int .i64 r.er, .int .i64 r.ss, .int .i64 r.gn, .int .i64 r.ad, .int .i64 r.sa, .int .i64 r.ot, .int .i64 r.cy, .int .i64 r.fu] 32 (0, 0)) := (hfr5w.block rb hrbl (fun hk => by have := H.out.lt _ (H.out.sS _ hk); omega)).trans HRB.out
      have HM5 := Lib.hid ((HMC.out.drewN 1).sto hst5 hfr5)
      have HF5 := Lib.hid hfr5w
      have HRB5 := Lib.hid hrb5
      clear hst5 hfr5 hfr5w hrb5
      dsimp only [Cnt.val] at *
      go_wp2_with fail
      refine ⟨by exact HF5.out.mono (fun k hk => .inl hk), ?_⟩
      repeat (first | (apply sched_take rfl; (focus (first | rfl | (go_simp; done))); (focus (intro W hW; have f12 := HC.out W hW; have f1 := f12.1; have f2 := f12.2; clear f12; go_simp; rfl)); (focus (intro K hK; go_simp; refine hK _ ?_; clear hK K))) | (apply sched_skip rfl; (focus (first | rfl | (go_simp; done))); (focus (intro K hK; go_simp; refine hK _ ?_; clear hK K))))
      have frb5 := blk_cell HRB5.out
      have grb5 := blk_frozen HRB5.out
      apply sched_op rfl
      intro K hK
      go_simp
      go_wp2_with (fail)
      have hfr6 : Fr (fun k => k = rb) w5 (((((w5.setCell ⟨rb, 3, none⟩ (.int .i64 cn.ad)).setCell ⟨rb, 4, none⟩ (.int .i64 cn.sa)).setCell ⟨rb, 5, none⟩ (.int .i64 cn.ot)).setCell ⟨rb, 6, none⟩ (.int .i64 cn.cy)).setCell ⟨rb, 7, none⟩ (.int .i64 cn.fu)) :=
        ((((((Fr.refl (fun k => k = rb) w5).setCell (p := ⟨rb, 3, none⟩) rfl _).setCell (p := ⟨rb, 4, none⟩) rfl _).setCell (p := ⟨rb, 5, none⟩) rfl _).setCell (p := ⟨rb, 6, none⟩) rfl _).setCell (p := ⟨rb, 7, none⟩) rfl _)
      have hrb6 := blk_set (blk_set (blk_set (blk_set (blk_set HRB5.out 3 (.int .i64 cn.ad)) 4 (.int .i64 cn.sa)) 5 (.int .i64 cn.ot)) 6 (.int .i64 cn.cy)) 7 (.int .i64 cn.fu)
      generalize hw6 : (((((w5.setCell ⟨rb, 3, none⟩ (.int .i64 cn.ad)).setCell ⟨rb, 4, none⟩ (.int .i64 cn.sa)).setCell ⟨rb, 5, none⟩ (.int .i64 cn.ot)).setCell ⟨rb, 6, none⟩ (.int .i64 cn.cy)).setCell ⟨rb, 7, none⟩ (.int .i64 cn.fu)) = w6 at *
      have hrb6' : w6.heap[rb]? = some (.cells #[.int .i64 r.er, .int .i64 r.ss, .int .i64 r.gn, .int .i64 cn.ad, .int .i64 cn.sa, .int .i64 cn.ot, .int .i64 cn.cy, .int .i64 cn.fu] 32 (0, 0)) := by simpa using hrb6
      have HRB6 := Lib.hid hrb6'
      have HF6 := Lib.hid hfr6
      have HM6 := Lib.hid (HM5.out.fr hfr6 (fun k hk e => by
        rcases hk with hk | hk
        · have := H.out.lt k hk; omega
        · have hkz : wc.heap.size ≤ k := hk.1
          omega))
      have hz6 : wc.heap.size ≤ w6.heap.size := Nat.le_trans hz5 hfr6.size
      have HF56 : Hid (Fr (fun k => SS k ∨ k = rb) wc w6) := Lib.hid ((HF5.out.mono (fun k hk => .inl hk)).trans (hfr6.mono (fun k hk => .inr hk)))
      clear hw6 hrb6 hrb6' hfr6 frb5 grb5 frb
      refine ⟨by exact HF56.out, ?_⟩
      refine sched_nil ?_
      go_wp2_with fail
      have HRES6 : Hid (w6.heap[w.heap.size + 1]? = some (.cells #[.int .i64 0, .int .i64 0, .int .i64 0, .int .i64 0, .int .i64 0, .int .i64 0, .int .i64 0, .int .i64 0] 32 (0, 0))) := Lib.hid ((HF56.out.block _ (by omega) (fun hk => by
        rcases hk with hk | hk
        · have := H.out.lt _ (H.out.sS _ hk); omega
        · omega)).trans HRES.out)
      have html : tm < w.heap.size := H.out.lt _ H.out.sb.2.2.1
      have HC7 : Hid (∀ W, Fr (fun k => k = tm) w6 W → (∀ j, W.cell? ⟨b, j, none⟩ = (#[.pointer (some ⟨s, 0, none⟩), .pointer (some ⟨t, 0, none⟩), .int .i64 M.ix, .int .i64 M.te, .slice (some ⟨vb, 0, none⟩) M.vo.length c] : Array Value)[j]?) ∧ (∀ j, W.cell? ⟨w.heap.size, j, none⟩ = (#[.int .i64 2, .int .i64 se, .int .i64 sq, .int .i64 at_, .slice As ns cs, .slice Av nv cv] : Array Value)[j]?) ∧ (∀ j, W.cell? ⟨rb, j, none⟩ = (#[.int .i64 r.er, .int .i64 r.ss, .int .i64 r.gn, .int .i64 cn.ad, .int .i64 cn.sa, .int .i64 cn.ot, .int .i64 cn.cy, .int .i64 cn.fu] : Array Value)[j]?)) := Lib.hid (fun W hW => ⟨blk_cell ((hW.block b (HM6.out.lt b HM6.out.sb.1) H.out.n1.2.1).trans HM6.out.hp), fun j => by
          rw [← (HC.out w6 HF56.out).2 j]
          have hbk := hW.block w.heap.size (by omega) (by omega)
          simp only [World.cell?, hbk], blk_cell ((hW.block rb (by omega) (by omega)).trans HRB6.out)⟩)
      have HKEEP : Hid (Calls Tryz.prog 138 #[.pointer (some ⟨t, 0, none⟩), .int .i64 se, .int .i64 sq, .int .i64 M.ix, .agg #[.int .i64 r.er, .int .i64 r.ss, .int .i64 r.gn, .int .i64 cn.ad, .int .i64 cn.sa, .int .i64 cn.ot, .int .i64 cn.cy, .int .i64 cn.fu]] w6.drew (ResKep w6.drew t tm M.L se sq M.ix (r.cnt cn))) := Lib.hid (tkeep_any (HM6.out.tb.drewN 1) se sq M.ix (r.cnt cn) (wfI_of (by omega) (by omega)) (by omega))
      refine wp_region_sched [(0, true), (1, true), (2, true), (3, true), (4, true), (5, true), (6, true), (7, true), (8, true), (9, true), (10, true), (11, true), (12, true), (13, false)] (fun W => Fr (fun k => k = tm) w6 W) (by kernel_rfl) (by kernel_rfl) rfl (by kernel_rfl) ((Fr.refl _ _).drew) ?_
      repeat (first | (apply sched_take rfl; (focus (first | rfl | (go_simp; done))); (focus (intro W hW; have f12 := HC7.out W hW; have f1 := f12.1; have f2 := f12.2.1; have f3 := f12.2.2; clear f12; go_simp; rfl)); (focus (intro K hK; go_simp; refine hK _ ?_; clear hK K))) | (apply sched_skip rfl; (focus (first | rfl | (go_simp; done))); (focus (intro K hK; go_simp; refine hK _ ?_; clear hK K))))
      apply sched_op rfl
      intro K hK
      go_simp
      go_wp2_with (fail)
      refine HKEEP.out.mono ?_
      rintro e w7 ⟨rfl, htb7, hfr7⟩
      have hfr7w : Fr (fun k => k = tm) w6 w7 := (Fr.refl (fun k => k = tm) w6).drew.trans hfr7
      have HM7 := Lib.hid ((HM6.out.drewN 1).tab htb7 hfr7)
      have HF7 := Lib.hid hfr7w
      have hres7 : w7.heap[w.heap.size + 1]? = some (.cells #[.int .i64 0, .int .i64 0, .int .i64 0, .int .i64 0, .int .i64 0, .int .i64 0, .int .i64 0, .int .i64 0] 32 (0, 0)) := (hfr7w.block _ (by omega) (by omega)).trans HRES6.out
      have HRES7 := Lib.hid hres7
      have fres7 := blk_cell hres7
      have gres7 := blk_frozen hres7
      have frb7 := (HC7.out w7 hfr7w).2.2
      have hz7 : wc.heap.size ≤ w7.heap.size := Nat.le_trans hz6 hfr7w.size
      clear htb7 hfr7 hfr7w hres7 fres gres
      go_wp2_with fail
      refine ⟨by exact HF7.out, ?_⟩
      refine sched_nil ?_
      go_wp2_with fail
      refine bodyPost_ret (v := .tuple #[.agg #[.int .i64 r.er, .int .i64 r.ss, .int .i64 r.gn, .int .i64 cn.ad, .int .i64 cn.sa, .int .i64 cn.ot, .int .i64 cn.cy, .int .i64 cn.fu], .nilIface]) (by simp [results, Tryz.results114, go_sem, fres7]) rfl ?_
      rw [HIM2.out]
      have hfr8 := fr_eight w7 (w.heap.size + 1) (.int .i64 r.er) (.int .i64 r.ss) (.int .i64 r.gn) (.int .i64 cn.ad) (.int .i64 cn.sa) (.int .i64 cn.ot) (.int .i64 cn.cy) (.int .i64 cn.fu)
      have hM8 := HM7.out.fr hfr8 (fun k hk e => by
        rcases hk with hk | hk
        · have := H.out.lt k hk; omega
        · have hkz : wc.heap.size ≤ k := hk.1
          omega)
      refine ⟨rfl, ?_, ?_⟩
      · refine (hM8.at_).mono ?_ ?_
        · rintro k (hk | hk)
          · exact .inl hk
          · have hkz : wc.heap.size ≤ k := hk.1
            have hkl : k < w5.heap.size := hk.2
            have h56 := HF6.out.size
            have h67 := HF7.out.size
            have h78 := hfr8.size
            exact .inr ⟨by omega, by omega⟩
        · rintro k (hk | hk)
          · have := H.out.lt k hk
            have h78 := hfr8.size
            omega
          · exact hk.2
      · exact ((((Fr.of_below HB1.out).step HF56.out (fun j hj => by
          rcases hj with hj | hj
          · exact .inl (H.out.sS j hj)
          · exact .inr (by omega))).step HF7.out (fun j hj => .inl (hj ▸ H.out.sb.2.2.1))).step hfr8 (fun j hj => .inr (by omega)))
    · have him := HIM.out
      rw [if_neg (by simp), if_pos rfl] at him
      have HIM2 := Lib.hid him
      clear him HIM
      go_wp2_with fail
      refine bodyPost_ret (v := .tuple #[.agg #[.int .i64 r.er, .int .i64 r.ss, .int .i64 r.gn, .int .i64 r.ad, .int .i64 r.sa, .int .i64 r.ot, .int .i64 r.cy, .int .i64 r.fu], .nilIface]) (by simp [results, Tryz.results114, go_sem, fres]) rfl ?_
      rw [HIM2.out]
      have hfr8 := fr_eight wc (w.heap.size + 1) (.int .i64 r.er) (.int .i64 r.ss) (.int .i64 r.gn) (.int .i64 r.ad) (.int .i64 r.sa) (.int .i64 r.ot) (.int .i64 r.cy) (.int .i64 r.fu)
      exact ⟨rfl, H.out.at_.same (HB1.out.trans (hfr8.below HB1.out.size (fun k hk => by omega)))⟩
  · have hbe : (ec != 0) = true := by simpa using he
    have him := HIM.out
    rw [if_pos he] at him
    have HIM2 := Lib.hid him
    clear him HIM he
    go_wp2_with fail
    refine bodyPost_ret (v := .tuple #[.agg #[.int .i64 0, .int .i64 0, .int .i64 0, .int .i64 0, .int .i64 0, .int .i64 0, .int .i64 0, .int .i64 0], .iface 28 (.int .i64 ec)]) (by simp [results, Tryz.results114, go_sem, fres]) rfl ?_
    rw [HIM2.out]
    have hfr8 := fr_eight wc (w.heap.size + 1) (.int .i64 0) (.int .i64 0) (.int .i64 0) (.int .i64 0) (.int .i64 0) (.int .i64 0) (.int .i64 0) (.int .i64 0)
    exact ⟨rfl, H.out.at_.same (HB1.out.trans (hfr8.below HB1.out.size (fun k hk => by omega)))⟩
end Go.Proofs.YtfjpenbahoeklaaGreatDoor
