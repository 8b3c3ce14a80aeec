/-
  The plain law of a forest's spans in another order: each is added, and the branches are the same. No condition.
  The plain law of a forest's branches: each span is laid once, beneath its parent. No condition.
  The given contracts of the library, laid at this program: the table of numbers, and each body compared. No condition.
  The walks of a forest's methods at a forest that no call made: nil, or the zero struct. Condition: it is one of the two.
  The plain side of a store: traces with their spans, by rising numbers; what comes of one more span; which go; the bytes. No condition.
  A store in memory: its map of forests; what keeps it; the look-ups. No condition: plain lemmas over the library's own on maps.
  The walks of a store's first methods: New, made, numbers, Traces, Lookup. Conditions: the store lies in memory as New made it.
  A store of which one forest is taken out: for an Add, and back. No condition: plain lemmas.
  The plain side of a machine: commands, which may be, what comes of one, their bytes. No condition.
  The walks of what tells whether a command may be: vault's voters and Check, machine's fields and Check. Conditions: slices that read as lists.
  The walk of machine's Check. Conditions: a command whose slices read as lists, its names not longer than memory bears.
  The walk of a store's Retain: the traces that ended before a time go. Conditions: the store lies in memory as New made it.
  The walk of a store's Image: all that there is, as bytes. Conditions: the store lies in memory as New made it.
-/
import Derived.Test.YtfjpenbahoeklaaGreatDoorHForest2
import Derived.Shelf.SlMaps.DeleteFunc
import Derived.Test.YtfjpenbahoeklaaGreatDoorProg
import Derived.Test.YtfjpenbahoeklaaGreatDoorHSorted
import Derived.Shelf.SortM.SortNone
import Derived.Test.YtfjpenbahoeklaaGreatDoorHForest3
import Derived.Test.YtfjpenbahoeklaaGreatDoorHPut
namespace Go.Proofs.YtfjpenbahoeklaaGreatDoor
open Go Go.RowKit

theorem atS_perm {L m : List Sp} (hn : (L.map Sp.id).Nodup) (hp : m.Perm L) (x : Int) : atS m x = atS L x := by
  have hnm : (m.map Sp.id).Nodup := ((hp.map Sp.id).nodup_iff).2 hn
  cases h : atS L x with
  | some s =>
    obtain ⟨h1, h2⟩ := atS_some h
    rw [← h2]; exact atS_mem hnm (hp.mem_iff.2 h1)
  | none =>
    cases h2 : atS m x with
    | none => rfl
    | some s =>
      obtain ⟨h3, h4⟩ := atS_some h2
      exact absurd h4 (atS_none h s (hp.mem_iff.1 h3))
theorem it_sub {L m : List Sp} (hn : (L.map Sp.id).Nodup) (hs : ∀ s ∈ m, s ∈ L) : ∀ (n : Nat) (x y : Int), it m n x = some y → it L n x = some y := by
  intro n
  induction n with
  | zero => intro x y h; exact h
  | succ n ih =>
    intro x y h
    obtain ⟨s, h1, h2⟩ := it_here h
    obtain ⟨h3, h4⟩ := atS_some h1
    have h5 := atS_mem hn (hs s h3)
    rw [h4] at h5
    rw [it_one h5]
    exact ih _ _ h2
/-- Each is added, one behind the other. -/
theorem add_each {L : List Sp} (hn : (L.map Sp.id).Nodup) (hA : Acy L) (hl : L.length ≤ 64) : ∀ (m2 m1 : List Sp) (c : Cnt), (m1 ++ m2).Perm L → addL (m1, c) m2 = (m1 ++ m2, { c with ad := c.ad + m2.length }) := by
  intro m2
  induction m2 with
  | nil => intro m1 c _; simp [addL]
  | cons s m2 ih =>
    intro m1 c hp
    have hlen := hp.length_eq
    simp only [List.length_append, List.length_cons] at hlen
    have hnm : ((m1 ++ s :: m2).map Sp.id).Nodup := ((hp.map Sp.id).nodup_iff).2 hn
    have hno : atS m1 s.id = none := by
      cases h : atS m1 s.id with
      | none => rfl
      | some t =>
        obtain ⟨h1, h2⟩ := atS_some h
        rw [List.map_append, List.nodup_append] at hnm
        exact absurd h2 (hnm.2.2 t.id (List.mem_map.2 ⟨t, h1, rfl⟩) s.id (by simp))
    have hab : aboveB m1 s.pa s.id = false := by
      cases h : aboveB m1 s.pa s.id with
      | false => rfl
      | true =>
        obtain ⟨k, hk⟩ := (aboveB_iff m1 s.pa s.id).1 h
        have hsL : s ∈ L := hp.mem_iff.1 (by simp)
        exact absurd (it_sub hn (fun t ht => hp.mem_iff.1 (by simp [ht])) k _ _ hk) (hA s hsL k)
    have h1 : addS (m1, c) s = (m1 ++ [s], { c with ad := c.ad + 1 }) := addS_add hno (by omega) hab
    show addL (addS (m1, c) s) m2 = _
    rw [h1, ih (m1 ++ [s]) _ (by simpa using hp)]
    simp only [List.append_assoc, List.cons_append, List.nil_append, List.length_cons]
    congr 2
    omega
theorem add_order {tr : Int} {L m : List Sp} (h : Grown tr L) (hp : m.Perm L) : addA tr [] m = (m, ⟨m.length, 0, 0, 0, 0⟩, 0) := by
  have hf : m.all (fits tr) = true := List.all_eq_true.2 fun s hs => h.fits s (hp.mem_iff.1 hs)
  rw [addA, if_pos hf, add_each h.nodup h.acy h.len m [] Cnt.zero (by simpa using hp)]
  simp [Cnt.zero]
theorem layL_order {L m : List Sp} (hn : (L.map Sp.id).Nodup) (hp : m.Perm L) : ∀ (n dp : Nat) (o : Bool) (ids ids' : List Int), ids.Perm ids' → layL m n dp o ids = layL L n dp o ids' := by
  intro n
  induction n with
  | zero => intro dp o ids ids' _; rfl
  | succ n ih =>
    intro dp o ids ids' hi
    have hg : getS m = getS L := funext fun x => by rw [getS, getS, atS_perm hn hp]
    rw [layL, layL, hg, sortS_congr (hi.map _)]
    congr 1
    funext s
    rw [ih (dp + 1) false (kidIds m s.id) (kidIds L s.id) ((hp.filter _).map _)]
theorem branches_order {L m : List Sp} (hn : (L.map Sp.id).Nodup) (hp : m.Perm L) : branches m = branches L := by
  rw [branches, branches, hp.length_eq]
  have hlo : isLost m = isLost L := funext fun s => by rw [isLost, isLost, atS_perm hn hp]
  rw [layL_order hn hp _ _ _ (kidIds m 0) (kidIds L 0) ((hp.filter _).map _), layL_order hn hp _ _ _ (lost m) (lost L) (by rw [lost, lost, hlo]; exact (hp.filter _).map _)]
theorem lost_mem {L : List Sp} (hn : (L.map Sp.id).Nodup) : ∀ i ∈ lost L, ∃ s, atS L i = some s := fun i hi => by
  obtain ⟨s, hs, rfl⟩ := List.mem_map.1 hi
  exact ⟨s, atS_mem hn (List.mem_filter.1 hs).1⟩
theorem branches_len {tr : Int} {L : List Sp} (h : Grown tr L) : (branches L).length ≤ 140737488355328 := by
  have h1 := laid_le h.nodup h.acy (n := L.length + 1) (dp := 0) (o := false) (fine_ids h.nodup h.acy (fun i hi => let ⟨s, hs, _⟩ := kid_mem h.nodup hi; ⟨s, hs⟩)) (kids_anti h.nodup h.acy 0)
  have h2 := laid_le h.nodup h.acy (n := L.length + 1) (dp := 0) (o := true) (fine_ids h.nodup h.acy (lost_mem h.nodup)) (lost_anti h.nodup (List.Perm.refl _))
  have h3 := h.len
  rw [branches, List.length_append]
  omega
end Go.Proofs.YtfjpenbahoeklaaGreatDoor
namespace Go.Proofs.YtfjpenbahoeklaaGreatDoor
open Go Go.RowKit

/-- On the way up one meets no more spans than there are. -/
theorem up_lt {L : List Sp} (hA : Acy L) {n : Nat} {x y : Int} (h : it L n x = some y) {u : Sp} (hu : atS L y = some u) : n < L.length := by
  refine Classical.byContradiction fun hge => ?_
  have hpos : ∀ k, k < n + 1 → ∃ z, it L k x = some z ∧ z ∈ L.map Sp.id := fun k hk => by
    by_cases hkn : k = n
    · subst hkn
      exact ⟨y, h, List.mem_map.2 ⟨u, (atS_some hu).1, (atS_some hu).2⟩⟩
    · obtain ⟨z, h1, h2⟩ := it_pre h (show k ≤ n by omega)
      rw [show n - k = (n - k - 1) + 1 by omega] at h2
      obtain ⟨s, hs, _⟩ := it_here h2
      exact ⟨z, h1, List.mem_map.2 ⟨s, (atS_some hs).1, (atS_some hs).2⟩⟩
  have hnd : ¬ ((List.range (n + 1)).map fun k => (it L k x).getD 0).Nodup := fun hd => by
    have := nodup_le hd (M := L.map Sp.id) (fun z hz => by
      obtain ⟨k, hk, rfl⟩ := List.mem_map.1 hz
      obtain ⟨z, h1, h2⟩ := hpos k (List.mem_range.1 hk)
      rw [h1]; exact h2)
    simp at this; omega
  refine hnd ?_
  refine List.pairwise_iff_getElem.2 fun i j hi hj hij => ?_
  simp only [List.length_map, List.length_range] at hi hj
  simp only [List.getElem_map, List.getElem_range]
  intro e
  obtain ⟨z, h1, hz⟩ := hpos i hi
  obtain ⟨z', h2, _⟩ := hpos j hj
  rw [h1, h2] at e
  have e : z = z' := e
  subst e
  obtain ⟨z2, h3, h4⟩ := it_pre h2 (Nat.le_of_lt hij)
  rw [h1] at h3
  cases h3
  rw [show j - i = (j - i - 1) + 1 by omega] at h4
  obtain ⟨v, hv, h5⟩ := it_here h4
  have hid := (atS_some hv).2
  rw [← hid] at h5
  exact hA v (atS_some hv).1 _ h5

theorem flat_split {α β : Type} (f : α → List β) : ∀ (l : List α) (pre : List β) (x : β) (post : List β), l.flatMap f = pre ++ x :: post → ∃ l1 s l2 p q, l = l1 ++ s :: l2 ∧ f s = p ++ x :: q ∧ pre = l1.flatMap f ++ p := by
  intro l
  induction l with
  | nil => intro pre x post h; simp at h
  | cons a l ih =>
    intro pre x post h
    rw [List.flatMap_cons] at h
    rcases List.append_eq_append_iff.1 h with ⟨t, h1, h2⟩ | ⟨t, h1, h2⟩
    · obtain ⟨l1, s, l2, p, q, e1, e2, e3⟩ := ih t x post h2
      exact ⟨a :: l1, s, l2, p, q, by rw [e1]; rfl, e2, by rw [h1, e3, List.flatMap_cons, List.append_assoc]⟩
    · cases t with
      | nil =>
        simp only [List.append_nil] at h1
        simp only [List.nil_append] at h2
        obtain ⟨l1, s, l2, p, q, e1, e2, e3⟩ := ih [] x post (by rw [← h2]; rfl)
        exact ⟨a :: l1, s, l2, p, q, by rw [e1]; rfl, e2, by rw [List.flatMap_cons, List.append_assoc, ← e3, h1, List.append_nil]⟩
      | cons b t =>
        injection h2 with h3 h4
        subst h3
        exact ⟨[], a, l, pre, t, rfl, h1, rfl⟩
/-- The nearest one ahead that stands less deep is the parent. -/
def Up (pre : List Br) (x : Br) : Prop := ∃ p1 y p2, pre = p1 ++ y :: p2 ∧ y.dp + 1 = x.dp ∧ y.sp.id = x.sp.pa ∧ ∀ z ∈ p2, x.dp ≤ z.dp
theorem Up.ext {pre : List Br} {x : Br} (h : Up pre x) (q : List Br) : Up (q ++ pre) x := by
  obtain ⟨p1, y, p2, rfl, h1, h2, h3⟩ := h
  exact ⟨q ++ p1, y, p2, by rw [List.append_assoc], h1, h2, h3⟩
theorem layL_deep {L : List Sp} : ∀ (n dp : Nat) (o : Bool) (ids : List Int), ∀ z ∈ layL L n dp o ids, dp ≤ z.dp := by
  intro n
  induction n with
  | zero => intro dp o ids z hz; cases hz
  | succ n ih =>
    intro dp o ids z hz
    rw [layL] at hz
    obtain ⟨s, _, hz⟩ := List.mem_flatMap.1 hz
    rcases List.mem_cons.1 hz with rfl | hz
    · exact Nat.le_refl _
    · have := ih (dp + 1) false _ z hz; omega
theorem layL_nest {L : List Sp} (hn : (L.map Sp.id).Nodup) : ∀ (n dp : Nat) (o : Bool) (ids : List Int), Fine L n ids → ∀ pre x post, layL L n dp o ids = pre ++ x :: post → (x.dp = dp ∧ x.orp = o ∧ x.sp.id ∈ ids ∧ atS L x.sp.id = some x.sp) ∨ (dp < x.dp ∧ x.orp = false ∧ Up pre x) := by
  intro n
  induction n with
  | zero => intro dp o ids _ pre x post h; simp [layL] at h
  | succ n ih =>
    intro dp o ids hf pre x post h
    rw [layL] at h
    obtain ⟨l1, s, l2, p, q, e1, e2, e3⟩ := flat_split _ _ _ _ _ h
    have hs : s ∈ sortS (ids.map (getS L)) := by rw [e1]; simp
    obtain ⟨hat, hfk⟩ := hf.kid hs
    obtain ⟨i, hi, hgi⟩ := List.mem_map.1 (sortS_mem.1 hs)
    obtain ⟨⟨t, ht⟩, _⟩ := hf i hi
    have hti : getS L i = t := by rw [getS, ht]; rfl
    have hid : s.id = i := by rw [← hgi, hti]; exact (atS_some ht).2
    cases p with
    | nil =>
      injection e2 with e4 _
      subst e4
      exact .inl ⟨rfl, rfl, by show s.id ∈ ids; rw [hid]; exact hi, hat⟩
    | cons b p =>
      injection e2 with e4 e5
      subst e4
      have hdeep : ∀ z ∈ p, dp + 1 ≤ z.dp := fun z hz => layL_deep n (dp + 1) false (kidIds L s.id) z (by rw [e5]; simp [hz])
      rcases ih (dp + 1) false (kidIds L s.id) hfk p x q e5 with ⟨h1, h2, h3, h4⟩ | ⟨h1, h2, h3⟩
      · refine .inr ⟨by omega, h2, ?_⟩
        rw [e3]
        obtain ⟨v, hv, hvp, _⟩ := kid_mem hn h3
        rw [h4] at hv
        cases hv
        exact Up.ext ⟨[], _, p, rfl, by simp only []; omega, by simp only []; exact hvp.symm, fun z hz => by have := hdeep z hz; omega⟩ _
      · refine .inr ⟨by omega, h2, ?_⟩
        rw [e3, show (⟨dp, o, s⟩ : Br) :: p = [⟨dp, o, s⟩] ++ p from rfl, ← List.append_assoc]
        exact h3.ext _
theorem nodup_of_map {L : List Sp} (h : (L.map Sp.id).Nodup) : L.Nodup := (List.pairwise_map.1 h).imp fun hne e => hne (congrArg _ e)
theorem laid_all {L : List Sp} : ∀ (n dp : Nat) (o : Bool) (ids : List Int), Fine L n ids → ∀ (m : Nat) (u : Sp) (i : Int), atS L u.id = some u → i ∈ ids → it L m u.id = some i → u ∈ laid L n dp o ids := by
  intro n
  induction n with
  | zero => intro dp o ids hf m u i _ hi _; have : ids = [] := hf; rw [this] at hi; cases hi
  | succ n ih =>
    intro dp o ids hf m u i hu hi hm
    obtain ⟨⟨s, hs⟩, hfk⟩ := hf i hi
    have hsi : getS L i = s := by rw [getS, hs]; rfl
    have hsid := (atS_some hs).2
    have hss : s ∈ sortS (ids.map (getS L)) := sortS_mem.2 (List.mem_map.2 ⟨i, hi, hsi⟩)
    rw [laid_succ]
    refine List.mem_flatMap.2 ⟨s, hss, ?_⟩
    cases m with
    | zero =>
      have h1 : u.id = i := Option.some.inj hm
      rw [h1, hs] at hu
      cases hu
      exact List.mem_cons_self
    | succ m =>
      refine List.mem_cons_of_mem _ ?_
      obtain ⟨j, h1, h2⟩ := it_pre hm (show m ≤ m + 1 by omega)
      rw [show m + 1 - m = 0 + 1 by omega] at h2
      obtain ⟨v, hv, h3⟩ := it_here h2
      have hvp : v.pa = i := Option.some.inj h3
      have hvid := (atS_some hv).2
      rw [hsid]
      exact ih (dp + 1) false (kidIds L i) hfk m u j hu (List.mem_map.2 ⟨v, List.mem_filter.2 ⟨(atS_some hv).1, by simp [hvp]⟩, hvid⟩) h1
theorem root_of {L : List Sp} (hA : Acy L) {x : Int} : ∀ (f n : Nat) (y : Int) (v : Sp), L.length ≤ f + n → it L n x = some y → atS L y = some v → ∃ m r, it L m x = some r ∧ (r ∈ kidIds L 0 ∨ r ∈ lost L) := by
  intro f
  induction f with
  | zero => intro n y v hf hit hv; have := up_lt hA hit hv; omega
  | succ f ih =>
    intro n y v hf hit hv
    obtain ⟨hvm, hvid⟩ := atS_some hv
    by_cases h0 : v.pa = 0
    · exact ⟨n, y, hit, .inl (List.mem_map.2 ⟨v, List.mem_filter.2 ⟨hvm, by simp [h0]⟩, hvid⟩)⟩
    · cases hp : atS L v.pa with
      | none => exact ⟨n, y, hit, .inr (List.mem_map.2 ⟨v, List.mem_filter.2 ⟨hvm, by simp [isLost, h0, hp]⟩, hvid⟩)⟩
      | some u =>
        refine ih (n + 1) v.pa u (by omega) ?_ hp
        rw [it_add, hit]
        show it L 1 y = _
        rw [it_one hv]; rfl
theorem top_fine {tr : Int} {L : List Sp} (h : Grown tr L) : Fine L (L.length + 1) (kidIds L 0) := fine_ids h.nodup h.acy (fun _ hi => let ⟨s, hs, _⟩ := kid_mem h.nodup hi; ⟨s, hs⟩)
theorem lost_fine {tr : Int} {L : List Sp} (h : Grown tr L) : Fine L (L.length + 1) (lost L) := fine_ids h.nodup h.acy (lost_mem h.nodup)
theorem no_zero {tr : Int} {L : List Sp} (h : Grown tr L) : atS L 0 = none := by
  cases e : atS L 0 with
  | none => rfl
  | some s =>
    obtain ⟨h1, h2⟩ := atS_some e
    have := ok_bounds (fits_ok (h.fits s h1)).1
    omega
theorem top_lost {tr : Int} {L : List Sp} (h : Grown tr L) {x i j : Int} {m n : Nat} (hi : i ∈ kidIds L 0) (hj : j ∈ lost L) (h1 : it L m x = some i) (h2 : it L n x = some j) : False := by
  obtain ⟨s, hs, hsp, _⟩ := kid_mem h.nodup hi
  obtain ⟨t, ht, rfl⟩ := List.mem_map.1 hj
  obtain ⟨htm, htl⟩ := List.mem_filter.1 ht
  have hta := atS_mem h.nodup htm
  simp only [isLost, Bool.and_eq_true, Option.isNone_iff_eq_none, decide_eq_true_eq, ne_eq] at htl
  rcases Nat.le_total m n with hle | hle
  · obtain ⟨z, h3, h4⟩ := it_pre h2 hle
    rw [h1] at h3
    cases h3
    cases hk : n - m with
    | zero =>
      rw [hk] at h4
      have e : i = t.id := Option.some.inj h4
      rw [e, hta] at hs
      cases hs
      exact htl.1 hsp
    | succ k =>
      rw [hk, it_one hs, hsp] at h4
      cases k with
      | zero =>
        have e : 0 = t.id := Option.some.inj h4
        rw [← e, no_zero h] at hta
        cases hta
      | succ k =>
        obtain ⟨u, hu, _⟩ := it_here h4
        rw [no_zero h] at hu
        cases hu
  · obtain ⟨z, h3, h4⟩ := it_pre h1 hle
    rw [h2] at h3
    cases h3
    cases hk : m - n with
    | zero =>
      rw [hk] at h4
      have e : t.id = i := Option.some.inj h4
      rw [← e, hta] at hs
      cases hs
      exact htl.1 hsp
    | succ k =>
      rw [hk, it_one hta] at h4
      cases k with
      | zero =>
        have e : t.pa = i := Option.some.inj h4
        rw [← e, htl.2] at hs
        cases hs
      | succ k =>
        obtain ⟨u, hu, _⟩ := it_here h4
        rw [htl.2] at hu
        cases hu
/-- The branches have each span once. -/
theorem branches_perm {tr : Int} {L : List Sp} (h : Grown tr L) : ((branches L).map Br.sp).Perm L := by
  have hn := h.nodup
  have e : (branches L).map Br.sp = laid L (L.length + 1) 0 false (kidIds L 0) ++ laid L (L.length + 1) 0 true (lost L) := by rw [branches, List.map_append]; rfl
  have hnd : (((branches L).map Br.sp).map Sp.id).Nodup := by
    rw [e, List.map_append, List.nodup_append]
    refine ⟨laid_nodup hn h.acy _ _ _ _ (top_fine h) (kids_anti hn h.acy 0), laid_nodup hn h.acy _ _ _ _ (lost_fine h) (lost_anti hn (List.Perm.refl _)), ?_⟩
    intro x hx y hy hxy
    subst hxy
    obtain ⟨u, hu, rfl⟩ := List.mem_map.1 hx
    obtain ⟨v, hv, hvu⟩ := List.mem_map.1 hy
    obtain ⟨_, _, hi, m, hm⟩ := laid_under hn _ _ _ _ (top_fine h) u hu
    obtain ⟨_, _, hj, k, hk⟩ := laid_under hn _ _ _ _ (lost_fine h) v hv
    rw [hvu] at hk
    exact top_lost h hi hj hm hk
  refine (List.perm_ext_iff_of_nodup (nodup_of_map hnd) (nodup_of_map hn)).2 fun u => ⟨fun hu => ?_, fun hu => ?_⟩
  · rw [e] at hu
    rcases List.mem_append.1 hu with hu | hu
    · exact (laid_under hn _ _ _ _ (top_fine h) u hu).1
    · exact (laid_under hn _ _ _ _ (lost_fine h) u hu).1
  · have hat := atS_mem hn hu
    obtain ⟨m, r, hm, hr⟩ := root_of h.acy L.length 0 u.id u (by omega) rfl hat
    rw [e]
    rcases hr with hr | hr
    · exact List.mem_append.2 (.inl (laid_all _ _ _ _ (top_fine h) m u r hat hr hm))
    · exact List.mem_append.2 (.inr (laid_all _ _ _ _ (lost_fine h) m u r hat hr hm))
/-- Each stands where it should. -/
theorem branches_place {tr : Int} {L : List Sp} (h : Grown tr L) {pre : List Br} {x : Br} {post : List Br} (e : branches L = pre ++ x :: post) :
    x.sp ∈ L ∧ x.orp = (decide (x.sp.pa ≠ 0) && !(atS L x.sp.pa).isSome) ∧ ((x.dp = 0 ∧ (atS L x.sp.pa).isSome = false) ∨ (0 < x.dp ∧ (atS L x.sp.pa).isSome = true ∧ Up pre x)) := by
  have hn := h.nodup
  have hmem : ∀ y ∈ branches L, y.sp ∈ L := fun y hy => (branches_perm h).mem_iff.1 (List.mem_map.2 ⟨y, hy, rfl⟩)
  have hx : x.sp ∈ L := hmem x (by rw [e]; simp)
  have hup : x.orp = false → Up pre x → x.orp = (decide (x.sp.pa ≠ 0) && !(atS L x.sp.pa).isSome) ∧ (atS L x.sp.pa).isSome = true := by
    rintro ho ⟨p1, y, p2, rfl, h1, h2, _⟩
    have hy : y.sp ∈ L := hmem y (by rw [e]; simp)
    rw [← h2, atS_mem hn hy, ho]
    simp
  refine ⟨hx, ?_⟩
  rw [branches] at e
  rcases List.append_eq_append_iff.1 e with ⟨t, h1, h2⟩ | ⟨t, h1, h2⟩
  · rcases layL_nest hn _ _ _ _ (lost_fine h) t x post h2 with ⟨g1, g2, g3, g4⟩ | ⟨g1, g2, g3⟩
    · obtain ⟨s, hs, hsi⟩ := List.mem_map.1 g3
      obtain ⟨hsm, hsl⟩ := List.mem_filter.1 hs
      have := atS_mem hn hsm
      rw [hsi, g4] at this
      cases this
      simp only [isLost, Bool.and_eq_true, Option.isNone_iff_eq_none, decide_eq_true_eq, ne_eq] at hsl
      rw [g2, hsl.2]
      exact ⟨by simp [hsl.1], .inl ⟨g1, rfl⟩⟩
    · have g4 := g3.ext (layL L (L.length + 1) 0 false (kidIds L 0))
      rw [← h1] at g4
      obtain ⟨g5, g6⟩ := hup g2 g4
      exact ⟨g5, .inr ⟨g1, g6, g4⟩⟩
  · cases t with
    | nil =>
      simp only [List.append_nil] at h1
      simp only [List.nil_append] at h2
      rcases layL_nest hn _ _ _ _ (lost_fine h) [] x post h2.symm with ⟨g1, g2, g3, g4⟩ | ⟨g1, g2, g3⟩
      · obtain ⟨s, hs, hsi⟩ := List.mem_map.1 g3
        obtain ⟨hsm, hsl⟩ := List.mem_filter.1 hs
        have := atS_mem hn hsm
        rw [hsi, g4] at this
        cases this
        simp only [isLost, Bool.and_eq_true, Option.isNone_iff_eq_none, decide_eq_true_eq, ne_eq] at hsl
        rw [g2, hsl.2]
        exact ⟨by simp [hsl.1], .inl ⟨g1, rfl⟩⟩
      · have g4 := g3.ext pre
        rw [List.append_nil] at g4
        obtain ⟨g5, g6⟩ := hup g2 g4
        exact ⟨g5, .inr ⟨g1, g6, g4⟩⟩
    | cons b t =>
      injection h2 with h3 h4
      subst h3
      rcases layL_nest hn _ _ _ _ (top_fine h) pre x t h1 with ⟨g1, g2, g3, g4⟩ | ⟨g1, g2, g3⟩
      · obtain ⟨s, hs, hsp, _⟩ := kid_mem hn g3
        rw [g4] at hs
        cases hs
        rw [hsp, no_zero h, g2]
        exact ⟨rfl, .inl ⟨g1, rfl⟩⟩
      · obtain ⟨g5, g6⟩ := hup g2 g3
        exact ⟨g5, .inr ⟨g1, g6, g3⟩⟩
theorem layL_below {L : List Sp} : ∀ (n dp : Nat) (o : Bool) (ids : List Int), ∀ z ∈ layL L n dp o ids, z.dp < dp + n := by
  intro n
  induction n with
  | zero => intro dp o ids z hz; cases hz
  | succ n ih =>
    intro dp o ids z hz
    rw [layL] at hz
    obtain ⟨s, _, hz⟩ := List.mem_flatMap.1 hz
    rcases List.mem_cons.1 hz with rfl | hz
    · show dp < dp + (n + 1); omega
    · have := ih (dp + 1) false _ z hz; omega
theorem branches_dp (L : List Sp) : ∀ z ∈ branches L, z.dp ≤ L.length := by
  intro z hz
  rw [branches] at hz
  rcases List.mem_append.1 hz with hz | hz
  · have := layL_below _ _ _ _ z hz; omega
  · have := layL_below _ _ _ _ z hz; omega
/-- The same at an index. -/
def Placed (L : List Sp) (bs : List Br) : Prop := ∀ (i : Nat) (hi : i < bs.length),
    bs[i].sp ∈ L ∧ bs[i].orp = (decide (bs[i].sp.pa ≠ 0) && !(atS L bs[i].sp.pa).isSome) ∧
      ((bs[i].dp = 0 ∧ (atS L bs[i].sp.pa).isSome = false) ∨ (0 < bs[i].dp ∧ (atS L bs[i].sp.pa).isSome = true ∧
        ∃ (k : Nat) (hk : k < i), bs[k].dp + 1 = bs[i].dp ∧ bs[k].sp.id = bs[i].sp.pa ∧ ∀ (j : Nat) (hj : j < i), k < j → bs[i].dp ≤ bs[j].dp))
theorem branches_at {tr : Int} {L : List Sp} (h : Grown tr L) : Placed L (branches L) := by
  intro i hi
  have e : branches L = (branches L).take i ++ (branches L)[i] :: (branches L).drop (i + 1) := by rw [← List.drop_eq_getElem_cons hi, List.take_append_drop]
  obtain ⟨h1, h2, h3⟩ := branches_place h e
  refine ⟨h1, h2, h3.imp id ?_⟩
  rintro ⟨g1, g2, p1, y, p2, g3, g4, g5, g6⟩
  have hl : ((branches L).take i).length = i := by simp; omega
  have hk : p1.length < i := by rw [← hl, g3]; simp
  have hget : ∀ (j : Nat) (hj : j < i), (branches L)[j] = (p1 ++ y :: p2)[j]'(by rw [← g3]; simp; omega) := fun j hj => by
    rw [← List.getElem_take (h := by simp; omega) (j := i)]
    simp only [g3]
  refine ⟨g1, g2, p1.length, hk, ?_, ?_, ?_⟩
  · rw [hget _ hk]; simp; exact g4
  · rw [hget _ hk]; simp; exact g5
  · intro j hj hkj
    rw [hget _ hj]
    refine g6 _ ?_
    rw [List.getElem_append_right (by omega)]
    obtain ⟨q, hq⟩ : ∃ q, j - p1.length = q + 1 := ⟨j - p1.length - 1, by omega⟩
    simp only [hq, List.getElem_cons_succ]
    exact List.getElem_mem _
end Go.Proofs.YtfjpenbahoeklaaGreatDoor
namespace Go.Proofs
open Go.Shelf
def Tryz.delA_ren : Go.Shelf.Ren := ⟨fun | 5 => 141 | n => n, fun | 23 => 176 | 26 => 3 | 24 => 201 | 27 => 217 | 0 => 0 | 4 => 4 | n => n, fun | n => n⟩
theorem Tryz.delA : Go.Proofs.SlLaysDf.n5 Tryz.prog Tryz.delA_ren := {
  mixed := by kernel_rfl
  f5 := ⟨Tryz.f141.name, by decide, Tryz.func141.trans (congrArg some (by kernel_rfl))⟩
  t0 := Tryz.underlying0
  a0 := Tryz.isAgg0
  z0 := Tryz.sizeOf0
  v0 := Tryz.zeroValue0
  t4 := Tryz.underlying4
  a4 := Tryz.isAgg4
  z4 := Tryz.sizeOf4
  v4 := Tryz.zeroValue4
  t23 := Tryz.underlying176
  a23 := Tryz.isAgg176
  z23 := Tryz.sizeOf176
  v23 := Tryz.zeroValue176
  a24 := Tryz.isAgg201
  z24 := Tryz.sizeOf201
  a26 := Tryz.isAgg3
  z26 := Tryz.sizeOf3
  t27 := Tryz.underlying217
  a27 := Tryz.isAgg217
  z27 := Tryz.sizeOf217
  v27 := Tryz.zeroValue217 }
end Go.Proofs
namespace Go.Proofs.YtfjpenbahoeklaaGreatDoor
open Go Go.RowKit Go.Maps

/-- A forest that no call made. -/
def NoF (w : World) (v : Value) : Prop := v = .pointer none ∨ ∃ z, v = .pointer (some ⟨z, 0, none⟩) ∧ w.heap[z]? = some (.cells #[.map none, .map none, .int .i64 0] 239 (0, 0))
theorem NoF.below {w w' : World} {v : Value} (h : NoF w v) (hb : Below w.heap.size w w') : NoF w' v := by
  rcases h with h | ⟨z, h, hz⟩
  · exact .inl h
  · exact .inr ⟨z, h, (hb.block z (Array.getElem?_eq_some_iff.1 hz).1).trans hz⟩
set_option maxRecDepth 100000 in
theorem madeNo_any {w : World} {v : Value} (h : NoF w v) : Calls Tryz.prog 147 #[v] w fun e w' => e = .returned (.bool false) ∧ w = w' := by
  rcases h with rfl | ⟨z, rfl, hz⟩
  · go_enter Tryz.func147, Tryz.ntmps147
    go_wp2_with fail
    go_ret
    exact ⟨rfl, rfl⟩
  · have hc := blk_cell hz
    clear hz
    go_enter Tryz.func147, Tryz.ntmps147
    go_wp2_with fail
    go_ret
    exact ⟨rfl, rfl⟩
set_option maxRecDepth 100000 in
theorem spansNo_any {w : World} {v : Value} (h : NoF w v) : Calls Tryz.prog 154 #[v] w fun e w' => e = .returned (.slice none 0 0) ∧ w = w' := by
  have HN := Lib.hid h
  clear h
  go_enter Tryz.func154, Tryz.ntmps154
  go_wp2_with fail
  refine (madeNo_any HN.out).mono ?_
  rintro e w1 ⟨rfl, rfl⟩
  go_wp2_with fail
  go_ret
  exact ⟨rfl, rfl⟩
set_option maxRecDepth 100000 in
theorem branchesNo_any {w : World} {v : Value} (h : NoF w v) : Calls Tryz.prog 125 #[v] w fun e w' => e = .returned (.slice none 0 0) ∧ w = w' := by
  have HN := Lib.hid h
  clear h
  go_enter Tryz.func125, Tryz.ntmps125
  go_wp2_with fail
  refine (madeNo_any HN.out).mono ?_
  rintro e w1 ⟨rfl, rfl⟩
  go_wp2_with fail
  go_ret
  exact ⟨rfl, rfl⟩
set_option maxRecDepth 100000 in
theorem endNo_any {w : World} {v : Value} (h : NoF w v) : Calls Tryz.prog 143 #[v] w fun e w' => e = .returned (.int .i64 0) ∧ w = w' := by
  have HN := Lib.hid h
  clear h
  go_enter Tryz.func143, Tryz.ntmps143
  go_wp2_with fail
  refine (spansNo_any HN.out).mono ?_
  rintro e w1 ⟨rfl, rfl⟩
  go_wp2_with fail
  refine wp_loop_rounds 1 ?_
  rw [rounds_succ]
  go_wp2_with fail
  go_ret
  exact ⟨rfl, rfl⟩
set_option maxRecDepth 100000 in
theorem addNo_any {w : World} {v : Value} (h : NoF w v) (A : Option Addr) (n c : Nat) : Calls Tryz.prog 151 #[v, .slice A n c] w fun e w' => e = .returned (.tuple #[.agg #[.int .i64 0, .int .i64 0, .int .i64 0, .int .i64 0, .int .i64 0], .int .i64 6]) ∧ Below w.heap.size w w' := by
  have HN : Hid (NoF ((w.alloc (.cells #[.int .i64 0, .int .i64 0, .int .i64 0, .int .i64 0, .int .i64 0] 30)).alloc (.cells #[.int .i64 0, .int .i64 0, .int .i64 0, .int .i64 0, .int .i64 0] 30)) v) := Lib.hid (h.below (((Below.refl _ _).alloc (Nat.le_refl _) _).alloc (by simp) _))
  clear h
  go_enter Tryz.func151, Tryz.ntmps151
  go_wp2_with fail
  refine (madeNo_any HN.out).mono ?_
  rintro e w1 ⟨rfl, rfl⟩
  go_wp2_with fail
  refine bodyPost_ret (v := .tuple #[.agg #[.int .i64 0, .int .i64 0, .int .i64 0, .int .i64 0, .int .i64 0], .int .i64 6]) (by simp [results, Tryz.results151, go_sem]) rfl ⟨rfl, ?_⟩
  repeat (first | exact (((Below.refl _ _).alloc (Nat.le_refl _) _).alloc (by simp) _) | refine Below.setCell ?_ (Nat.le_refl _) _)
end Go.Proofs.YtfjpenbahoeklaaGreatDoor
namespace Go.Proofs.YtfjpenbahoeklaaGreatDoor
open Go.RowKit

/-- A trace with its spans. -/
structure Tr where
  tr : Int
  L : List Sp
def getT (T : List Tr) (x : Int) : Option (List Sp) := (T.find? fun t => decide (t.tr = x)).map Tr.L
def setT (T : List Tr) (x : Int) (L : List Sp) : List Tr := T.map fun t => if t.tr = x then ⟨x, L⟩ else t
def insT : List Tr → Tr → List Tr
  | [], t => [t]
  | u :: T, t => if t.tr < u.tr then t :: u :: T else u :: insT T t
/-- By rising numbers. -/
def SrtT (T : List Tr) : Prop := T.Pairwise fun t u => t.tr < u.tr
def Cnt.plus (a b : Cnt) : Cnt := ⟨a.ad + b.ad, a.sa + b.sa, a.ot + b.ot, a.cy + b.cy, a.fu + b.fu⟩
theorem Cnt.plus_sum (a b : Cnt) : (a.plus b).sum = a.sum + b.sum := by simp only [Cnt.plus, Cnt.sum]; omega
/-- What comes of one more span. -/
def ingS (st : List Tr × Cnt) (s : Sp) : List Tr × Cnt :=
  match getT st.1 s.tr with
  | some L => (setT st.1 s.tr (addS (L, Cnt.zero) s).1, st.2.plus (addS (L, Cnt.zero) s).2)
  | none => if 32 ≤ st.1.length then (st.1, { st.2 with fu := st.2.fu + 1 }) else (insT st.1 ⟨s.tr, (addS ([], Cnt.zero) s).1⟩, st.2.plus (addS ([], Cnt.zero) s).2)
def ingL (st : List Tr × Cnt) (l : List Sp) : List Tr × Cnt := l.foldl ingS st
/-- What Ingest answers, and what there is behind it. -/
def ingA (T : List Tr) (l : List Sp) : List Tr × Cnt × Int := if l.all Sp.ok then ((ingL (T, Cnt.zero) l).1, (ingL (T, Cnt.zero) l).2, 0) else (T, Cnt.zero, 30)
def retT (T : List Tr) (from_ : Int) : List Tr := T.filter fun t => decide (from_ ≤ endL t.L)
def lookT (T : List Tr) (x : Int) : List Br := match getT T x with
  | none => []
  | some L => branches L
def trcT (T : List Tr) : List Int := T.map Tr.tr
def encT (t : Tr) : List UInt8 := digits (putEnc (sortS t.L)).length ++ putEnc (sortS t.L)
def imgT (T : List Tr) : List UInt8 := digits T.length ++ T.flatMap encT

theorem getT_some {T : List Tr} {x : Int} {L : List Sp} (h : getT T x = some L) : (⟨x, L⟩ : Tr) ∈ T := by
  unfold getT at h
  cases hf : T.find? (fun t => decide (t.tr = x)) with
  | none => rw [hf] at h; cases h
  | some t =>
    rw [hf] at h
    have h1 : t.tr = x := by simpa using List.find?_some hf
    have h2 : t.L = L := Option.some.inj h
    have h3 := List.mem_of_find?_eq_some hf
    obtain ⟨a, b⟩ := t
    simp only at h1 h2
    rw [← h1, ← h2]; exact h3
theorem getT_none {T : List Tr} {x : Int} (h : getT T x = none) : ∀ t ∈ T, t.tr ≠ x := by
  intro t ht e
  unfold getT at h
  rw [Option.map_eq_none_iff] at h
  have := List.find?_eq_none.1 h t ht
  simp [e] at this
theorem SrtT.nodup {T : List Tr} (h : SrtT T) : (T.map Tr.tr).Nodup := List.pairwise_map.2 (h.imp fun hlt e => by omega)
theorem getT_mem {T : List Tr} (h : SrtT T) {t : Tr} (ht : t ∈ T) : getT T t.tr = some t.L := by
  induction T with
  | nil => cases ht
  | cons u T ih =>
    obtain ⟨h1, h2⟩ := List.pairwise_cons.1 h
    unfold getT
    rw [List.find?_cons]
    rcases List.mem_cons.1 ht with rfl | ht
    · simp
    · have := h1 t ht
      rw [decide_eq_false (by omega)]
      exact ih h2 ht
theorem setT_keys (T : List Tr) (x : Int) (L : List Sp) : (setT T x L).map Tr.tr = T.map Tr.tr := by
  unfold setT
  rw [List.map_map]
  refine List.map_congr_left fun t _ => ?_
  by_cases h : t.tr = x <;> simp [h]
theorem setT_len (T : List Tr) (x : Int) (L : List Sp) : (setT T x L).length = T.length := by simp [setT]
theorem srt_keys {T : List Tr} : SrtT T ↔ (T.map Tr.tr).Pairwise (· < ·) := by unfold SrtT; rw [List.pairwise_map]
theorem setT_srt {T : List Tr} (h : SrtT T) (x : Int) (L : List Sp) : SrtT (setT T x L) := by rw [srt_keys, setT_keys]; exact srt_keys.1 h
theorem setT_mem {T : List Tr} {x : Int} {L : List Sp} {t : Tr} (h : t ∈ setT T x L) : (t.tr ≠ x ∧ t ∈ T) ∨ (t = ⟨x, L⟩ ∧ ∃ u ∈ T, u.tr = x) := by
  obtain ⟨u, hu, rfl⟩ := List.mem_map.1 h
  by_cases e : u.tr = x
  · rw [if_pos e]; exact .inr ⟨rfl, u, hu, e⟩
  · rw [if_neg e]; exact .inl ⟨e, hu⟩
theorem insT_mem {T : List Tr} {t u : Tr} : u ∈ insT T t ↔ u = t ∨ u ∈ T := by
  induction T with
  | nil => simp [insT]
  | cons v T ih =>
    rw [insT]
    by_cases h : t.tr < v.tr
    · rw [if_pos h]; simp
    · rw [if_neg h, List.mem_cons, ih, List.mem_cons]
      constructor
      · rintro (h | h | h) <;> simp [h]
      · rintro (h | h | h) <;> simp [h]
theorem insT_len (T : List Tr) (t : Tr) : (insT T t).length = T.length + 1 := by
  induction T with
  | nil => rfl
  | cons v T ih =>
    rw [insT]
    by_cases h : t.tr < v.tr
    · rw [if_pos h]; rfl
    · rw [if_neg h]; simp [ih]
theorem insT_srt {T : List Tr} (h : SrtT T) {t : Tr} (hn : ∀ u ∈ T, u.tr ≠ t.tr) : SrtT (insT T t) := by
  induction T with
  | nil => simp [insT, SrtT]
  | cons v T ih =>
    obtain ⟨h1, h2⟩ := List.pairwise_cons.1 h
    rw [insT]
    by_cases hlt : t.tr < v.tr
    · rw [if_pos hlt]
      refine List.pairwise_cons.2 ⟨fun u hu => ?_, h⟩
      rcases List.mem_cons.1 hu with rfl | hu
      · exact hlt
      · have := h1 u hu; omega
    · rw [if_neg hlt]
      have hv := hn v (by simp)
      refine List.pairwise_cons.2 ⟨fun u hu => ?_, ih h2 fun u hu => hn u (by simp [hu])⟩
      rcases insT_mem.1 hu with rfl | hu
      · omega
      · exact h1 u hu
theorem retT_srt {T : List Tr} (h : SrtT T) (z : Int) : SrtT (retT T z) := List.Pairwise.filter _ h
theorem ingL_snoc (st : List Tr × Cnt) (l : List Sp) (s : Sp) : ingL st (l ++ [s]) = ingS (ingL st l) s := by simp [ingL, List.foldl_append]
theorem ingL_app (st : List Tr × Cnt) (l m : List Sp) : ingL st (l ++ m) = ingL (ingL st l) m := by simp [ingL, List.foldl_append]
theorem ingS_sum (st : List Tr × Cnt) (s : Sp) : (ingS st s).2.sum = st.2.sum + 1 := by
  have h1 : ∀ L, (addS (L, Cnt.zero) s).2.sum = 1 := fun L => by rw [addS_sum]; rfl
  unfold ingS
  split
  · simp only [Cnt.plus_sum, h1]
  · split
    · simp only [Cnt.sum]; omega
    · simp only [Cnt.plus_sum, h1]
theorem ingL_sum (st : List Tr × Cnt) (l : List Sp) : (ingL st l).2.sum = st.2.sum + l.length := by
  induction l generalizing st with
  | nil => rfl
  | cons s l ih => show (ingL (ingS st s) l).2.sum = _; rw [ih, ingS_sum, List.length_cons]; omega

/-- A store's traces. -/
structure GrT (T : List Tr) : Prop where
  srt : SrtT T
  len : T.length ≤ 32
  ok : ∀ t ∈ T, Grown t.tr t.L ∧ t.L ≠ []
theorem GrT.nil : GrT [] := ⟨List.Pairwise.nil, by simp, by simp⟩
theorem Grown.key {tr : Int} {L : List Sp} (h : Grown tr L) (hn : L ≠ []) : 1 ≤ tr ∧ tr ≤ 1099511627776 := by
  obtain ⟨s, hs⟩ := List.exists_mem_of_ne_nil L hn
  obtain ⟨h1, h2⟩ := fits_ok (h.fits s hs)
  have := ok_more h1
  omega
theorem addS_first {s : Sp} (h : s.ok = true) : addS ([], Cnt.zero) s = ([s], { Cnt.zero with ad := 1 }) := by
  have hb := ok_bounds h
  have ha : aboveB [] s.pa s.id = false := by
    unfold aboveB aboveN
    rw [if_neg (by omega)]; rfl
  exact addS_add rfl (by simp) ha
theorem addS_ne {L : List Sp} (c : Cnt) (s : Sp) (h : L ≠ []) : (addS (L, c) s).1 ≠ [] := by
  unfold addS
  split
  · split <;> exact h
  · split
    · exact h
    · split
      · exact h
      · simp
theorem fits_own {s : Sp} (h : s.ok = true) : fits s.tr s = true := by simp [fits, h]
theorem GrT.ing {T : List Tr} (h : GrT T) (c : Cnt) {s : Sp} (hs : s.ok = true) : GrT (ingS (T, c) s).1 := by
  unfold ingS
  cases hg : getT T s.tr with
  | some L =>
    obtain ⟨h1, h2⟩ := h.ok _ (getT_some hg)
    refine ⟨setT_srt h.srt _ _, by simp only [setT_len]; exact h.len, fun t ht => ?_⟩
    rcases setT_mem ht with ⟨_, ht⟩ | ⟨rfl, _⟩
    · exact h.ok t ht
    · exact ⟨h1.addS (fits_own hs) _, addS_ne _ _ h2⟩
  | none =>
    simp only
    by_cases h32 : 32 ≤ T.length
    · rw [if_pos h32]; exact h
    · rw [if_neg h32]
      refine ⟨insT_srt h.srt (getT_none hg), by simp only [insT_len]; omega, fun t ht => ?_⟩
      rcases insT_mem.1 ht with rfl | ht
      · exact ⟨Grown.nil.addS (fits_own hs) _, by rw [addS_first hs]; simp⟩
      · exact h.ok t ht
theorem GrT.ings {T : List Tr} (h : GrT T) (c : Cnt) {l : List Sp} (hl : l.all Sp.ok = true) : GrT (ingL (T, c) l).1 := by
  induction l generalizing T c with
  | nil => exact h
  | cons s l ih =>
    simp only [List.all_cons, Bool.and_eq_true] at hl
    have := ih (h.ing c hl.1) (ingS (T, c) s).2 hl.2
    exact this
theorem GrT.ingA {T : List Tr} (h : GrT T) (l : List Sp) : GrT (ingA T l).1 := by
  unfold Go.Proofs.YtfjpenbahoeklaaGreatDoor.ingA
  cases hl : l.all Sp.ok
  · rw [if_neg Bool.false_ne_true]; exact h
  · rw [if_pos rfl]; exact h.ings _ hl
theorem GrT.ret {T : List Tr} (h : GrT T) (z : Int) : GrT (retT T z) :=
  ⟨retT_srt h.srt z, Nat.le_trans (List.length_filter_le _ _) h.len, fun t ht => h.ok t (List.mem_filter.1 ht).1⟩
theorem addA_one {tr : Int} {L : List Sp} {s : Sp} (h : fits tr s = true) : addA tr L [s] = ((addS (L, Cnt.zero) s).1, (addS (L, Cnt.zero) s).2, 0) := by
  rw [addA, if_pos (by simp [h])]; rfl
end Go.Proofs.YtfjpenbahoeklaaGreatDoor
namespace Go.Proofs.YtfjpenbahoeklaaGreatDoor
open Go Go.RowKit Go.Maps

def ptElem : Value → Option (DataW Value × List MemPlace)
  | .pointer a => some (.held (.pointer a), [])
  | _ => none
theorem ptElem_inv {v : Value} {y : DataW Value × List MemPlace} (h : ptElem v = some y) : ∃ a, v = .pointer a ∧ y = (.held (.pointer a), []) := by
  unfold ptElem at h
  split at h
  · cases h; exact ⟨_, rfl, rfl⟩
  · cases h
/-- An entry of the map; the map. -/
def entT (p : Int → Nat) (t : Tr) : Lit × DataW Value := (.int .i64 t.tr, .held (.pointer (some ⟨p t.tr, 0, none⟩)))
def mapT (p : Int → Nat) (T : List Tr) : DataW Value := .map (T.map (entT p))
theorem same_int (x y : Int) : (Lit.int .i64 x).sameKey (.int .i64 y) = decide (x = y) := by simp [Lit.sameKey]
theorem mapT_find (p : Int → Nat) (T : List Tr) (x : Int) : (T.map (entT p)).find? (fun q => q.1.sameKey (.int .i64 x)) = (T.find? fun t => decide (t.tr = x)).map (entT p) := by
  rw [List.find?_map]
  congr 2
  funext t
  simp [entT, same_int]
theorem mapT_at (p : Int → Nat) (T : List Tr) (x : Int) (z : DataW Value) : (mapT p T).atKey (.int .i64 x) z = match getT T x with
    | some _ => .held (.pointer (some ⟨p x, 0, none⟩))
    | none => z := by
  unfold mapT DataW.atKey
  simp only [mapT_find]
  unfold getT
  cases hf : T.find? (fun t => decide (t.tr = x)) with
  | none => rfl
  | some t =>
    have h1 : t.tr = x := by simpa using List.find?_some hf
    simp only [Option.map_some, entT, h1]
theorem mapT_has (p : Int → Nat) (T : List Tr) (x : Int) : Maps.has (mapT p T) (.int .i64 x) = (getT T x).isSome := by
  show (T.map (entT p)).any (fun q => q.1.sameKey (.int .i64 x)) = _
  have h := mapT_find p T x
  unfold getT
  rw [Option.isSome_map]
  cases hf : T.find? (fun t => decide (t.tr = x)) with
  | none =>
    rw [hf] at h
    have h2 := List.find?_eq_none.1 h
    rw [List.any_eq_false.2 h2]; rfl
  | some t =>
    rw [hf] at h
    rw [List.any_eq_true.2 ⟨_, List.mem_of_find?_eq_some h, List.find?_some h⟩]; rfl
theorem mapT_size (p : Int → Nat) (T : List Tr) : Maps.size (mapT p T) = T.length := by simp [mapT, Maps.size]
theorem mapT_congr {p q : Int → Nat} {T : List Tr} (h : ∀ t ∈ T, p t.tr = q t.tr) : mapT p T = mapT q T := by
  unfold mapT
  congr 1
  refine List.map_congr_left fun t ht => ?_
  simp [entT, h t ht]
theorem mapT_set (p : Int → Nat) (T : List Tr) (x : Int) (L : List Sp) : mapT p (setT T x L) = mapT p T := by
  unfold mapT setT
  rw [List.map_map]
  congr 1
  refine List.map_congr_left fun t _ => ?_
  by_cases h : t.tr = x <;> simp [entT, h]
theorem mapT_put {p : Int → Nat} {T : List Tr} {t : Tr} (hn : ∀ u ∈ T, u.tr ≠ t.tr) : (mapT p T).put (.int .i64 t.tr) (.held (.pointer (some ⟨p t.tr, 0, none⟩))) = mapT p (insT T t) := by
  have hf : (T.map (entT p)).filter (fun q => !q.1.sameKey (.int .i64 t.tr)) = T.map (entT p) := by
    refine List.filter_eq_self.2 fun q hq => ?_
    obtain ⟨u, hu, rfl⟩ := List.mem_map.1 hq
    simp [entT, same_int, hn u hu]
  unfold mapT DataW.put
  simp only [hf]
  congr 1
  clear hf hn
  induction T with
  | nil => rfl
  | cons u T ih =>
    rw [insT, List.map_cons, DataW.insert]
    by_cases h : t.tr < u.tr
    · rw [if_pos (by simpa [entT, Lit.before] using h), if_pos h]; rfl
    · rw [if_neg (by simpa [entT, Lit.before] using h), if_neg h, List.map_cons, ih]

/-- A store in block s, its map in block m; all it has lies in S. -/
structure St (w : World) (s m : Nat) (T : List Tr) (S : Nat → Prop) : Prop where
  hp : w.heap[s]? = some (.cells #[.map (some m)] 178 (0, 0))
  ex : ∃ (p a d : Int → Nat) (SS : Int → Nat → Prop), w.ownsMap Tryz.prog 3 ptElem m T.length (mapT p T) ∧ (∀ t ∈ T, Fo w (p t.tr) (a t.tr) (d t.tr) t.tr t.L (SS t.tr)) ∧
    (∀ t ∈ T, ∀ k, SS t.tr k → S k ∧ k ≠ s ∧ k ≠ m) ∧ (∀ t ∈ T, ∀ u ∈ T, t.tr ≠ u.tr → ∀ k, SS t.tr k → ¬ SS u.tr k)
  ss : S s
  sm : S m
  ne : s ≠ m
  gr : GrT T
  lt : ∀ k, S k → k < w.heap.size
section
variable {w w' : World} {s m : Nat} {T : List Tr} {S S2 : Nat → Prop}
theorem St.fr (h : St w s m T S) (hf : Fr S2 w w') (hS : ∀ k, S k → ¬ S2 k) : St w' s m T S := by
  obtain ⟨p, a, d, SS, h1, h2, h3, h4⟩ := h.ex
  exact ⟨(hf.block s (h.lt s h.ss) (hS s h.ss)).trans h.hp, ⟨p, a, d, SS, owns_eq h1 (hf.block m (h.lt m h.sm) (hS m h.sm)), fun t ht => (h2 t ht).fr hf (fun k hk => hS k (h3 t ht k hk).1), h3, h4⟩, h.ss, h.sm, h.ne, h.gr, fun k hk => Nat.lt_of_lt_of_le (h.lt k hk) hf.size⟩
theorem St.below {B : Nat} (h : St w s m T S) (hb : Below B w w') (hB : w.heap.size ≤ B) : St w' s m T S :=
  h.fr (S2 := fun _ => False) ⟨hb.os, hb.tape, hb.output, hb.size, fun k hk _ => hb.block k (by omega)⟩ (fun _ _ h => h)
theorem St.mono (h : St w s m T S) (hS : ∀ k, S k → S2 k) (hl : ∀ k, S2 k → k < w.heap.size) : St w s m T S2 := by
  obtain ⟨p, a, d, SS, h1, h2, h3, h4⟩ := h.ex
  exact ⟨h.hp, ⟨p, a, d, SS, h1, h2, fun t ht k hk => ⟨hS k (h3 t ht k hk).1, (h3 t ht k hk).2⟩, h4⟩, hS _ h.ss, hS _ h.sm, h.ne, h.gr, hl⟩
theorem St.drewN (h : St w s m T S) (n : Nat) : St (w.drewN n) s m T S := h.below (below_drew' w n) (Nat.le_refl _)
/-- A trace's number may be a key. -/
theorem St.key (h : St w s m T S) {t : Tr} (ht : t ∈ T) : wfI t.tr := by
  have := (h.gr.ok t ht).1.key (h.gr.ok t ht).2
  exact wfI_of (by omega) (by omega)
/-- A forest of the store, or nil. -/
def OneOf (w : World) (T : List Tr) (S : Nat → Prop) (x : Int) (v : Value) : Prop :=
  match getT T x with
  | none => v = .pointer none
  | some L => ∃ p a d SS, v = .pointer (some ⟨p, 0, none⟩) ∧ Fo w p a d x L SS ∧ ∀ k, SS k → S k
theorem St.look (h : St w s m T S) {x : Int} (hx : wfI x) : ∃ v, (∀ W : World, W.heap[m]? = w.heap[m]? → (Instr.lookup 176 (.map (some m)) (.int .i64 x) false).run Tryz.prog W = .ok v W) ∧ OneOf w T S x v := by
  obtain ⟨p, a, d, SS, h1, h2, h3, h4⟩ := h.ex
  have key : ∀ (W : World), W.heap[m]? = w.heap[m]? → ∃ v ps, (Instr.lookup 176 (.map (some m)) (.int .i64 x) false).run Tryz.prog W = .ok v W ∧ ptElem v = some ((mapT p T).atKey (.int .i64 x) (.held (.pointer none)), ps) := fun W he =>
    (owns_eq h1 he).lookup keyLaw Tryz.underlying176 (Tryz.zeroValue201 W) (zd := .held (.pointer none)) (zp := []) rfl (keyI hx)
  unfold OneOf
  cases hg : getT T x with
  | none =>
    refine ⟨.pointer none, fun W he => ?_, rfl⟩
    obtain ⟨v, ps, hrun, hv⟩ := key W he
    rw [mapT_at, hg] at hv
    obtain ⟨b, rfl, hy⟩ := ptElem_inv hv
    simp only [Prod.mk.injEq, DataW.held.injEq, Value.pointer.injEq] at hy
    rw [hrun, ← hy.1]
  | some L =>
    refine ⟨.pointer (some ⟨p x, 0, none⟩), fun W he => ?_, p x, a x, d x, SS x, rfl, ?_, fun k hk => (h3 _ (getT_some hg) k hk).1⟩
    · obtain ⟨v, ps, hrun, hv⟩ := key W he
      rw [mapT_at, hg] at hv
      obtain ⟨b, rfl, hy⟩ := ptElem_inv hv
      simp only [Prod.mk.injEq, DataW.held.injEq, Value.pointer.injEq] at hy
      rw [hrun, ← hy.1]
    · exact h2 _ (getT_some hg)
theorem St.len (h : St w s m T S) (ty : TypeId) : (Builtin.len_ #[176] ty #[.map (some m)]).run Tryz.prog w = .ok (.int .i64 T.length) w := by
  obtain ⟨p, a, d, SS, h1, _⟩ := h.ex
  rw [h1.len Tryz.underlying176 ty, mapT_size]
end
end Go.Proofs.YtfjpenbahoeklaaGreatDoor
namespace Go.Proofs.YtfjpenbahoeklaaGreatDoor
open Go Go.RowKit Go.Maps Go.Sort Go.Shelf

/-- What a call leaves that makes a store. -/
def ResT (w : World) (T : List Tr) (e : Ending) (w' : World) : Prop :=
  ∃ s m, e = .returned (.pointer (some ⟨s, 0, none⟩)) ∧ St w' s m T (fun k => w.heap.size ≤ k ∧ k < w'.heap.size) ∧ Below w.heap.size w w'

set_option maxRecDepth 100000 in
theorem snew_any (w : World) : Calls Tryz.prog 79 #[] w (ResT w []) := by
  have hmm := @run_makeMap Tryz.prog
  go_enter Tryz.func79, Tryz.ntmps79
  go_wp2_with fail
  go_ret
  refine ⟨w.heap.size + 1, w.heap.size, rfl, ⟨?_, ?_, ⟨by omega, by simp⟩, ⟨by omega, by simp <;> omega⟩, by omega, GrT.nil, fun k hk => hk.2⟩, ?_⟩
  · exact heap_at (by simp)
  · refine ⟨fun _ => 0, fun _ => 0, fun _ => 0, fun _ _ => False, ?_, by simp, by simp, by simp⟩
    have h := World.ownsMap_made w Tryz.prog 3 ptElem
    exact h.alloc _
  · exact ((Below.refl _ _).alloc (Nat.le_refl _) _).alloc (by simp) _

set_option maxRecDepth 100000 in
theorem smade_any {w : World} {s m : Nat} {T : List Tr} {S : Nat → Prop} (h : St w s m T S) :
    Calls Tryz.prog 124 #[.pointer (some ⟨s, 0, none⟩)] w fun e w' => e = .returned (.bool true) ∧ w = w' := by
  have hc := blk_cell h.hp
  have hq := fun W : World => run_neq_map_nil (P := Tryz.prog) W 176 _ _ (some m) Tryz.underlying176
  clear h
  go_enter Tryz.func124, Tryz.ntmps124
  go_wp2_with fail
  go_ret
  exact ⟨rfl, rfl⟩

/-- What a call leaves that makes numbers. -/
def ResNs (w : World) (l : List Int) (e : Ending) (w' : World) : Prop :=
  ∃ A c, e = .returned (.slice A l.length c) ∧ w'.ownsRow w.heap.size 3 1 (.slice A l.length c) l.length (l.map (Value.int .i64)) ∧ Below w.heap.size w w'

set_option maxRecDepth 100000 in
theorem lookup_any {w : World} {s m : Nat} {T : List Tr} {S : Nat → Prop} (h : St w s m T S) (x : Int) (hx : wfI x) :
    Calls Tryz.prog 93 #[.pointer (some ⟨s, 0, none⟩), .int .i64 x] w (ResBr w (lookT T x)) := by
  have hc := blk_cell h.hp
  have HM := Lib.hid (smade_any h)
  obtain ⟨v, hlk, hone⟩ := h.look hx
  have hl := hlk w rfl
  have HB : Hid (Calls Tryz.prog 125 #[v] w (ResBr w (lookT T x))) := Lib.hid (by
    unfold OneOf at hone
    unfold lookT
    cases hg : getT T x with
    | none =>
      rw [hg] at hone
      refine (branchesNo_any (w := w) (.inl hone)).mono ?_
      rintro e w' ⟨rfl, hw⟩
      subst hw
      exact ⟨none, 0, rfl, World.ownsRow_nil _ _ _ _, Below.refl _ _⟩
    | some L =>
      rw [hg] at hone
      obtain ⟨p, a, d, SS, rfl, hf, _⟩ := hone
      exact branches_any hf)
  clear h hlk hone
  generalize lookT T x = bs at *
  go_enter Tryz.func93, Tryz.ntmps93
  go_wp2_with fail
  refine HM.out.mono ?_
  rintro e w1 ⟨rfl, rfl⟩
  go_wp2_with fail
  refine HB.out.mono ?_
  rintro e w1 ⟨A, c, rfl, hown, hb⟩
  go_wp2_with fail
  go_ret
  exact ⟨A, c, rfl, hown, hb⟩
end Go.Proofs.YtfjpenbahoeklaaGreatDoor
namespace Go.Proofs.YtfjpenbahoeklaaGreatDoor
open Go Go.RowKit Go.Maps

/-- All of a store but the forest of trace x, whose pointer leads to block p0. -/
structure StX (w : World) (s m : Nat) (T : List Tr) (S : Nat → Prop) (x : Int) (p0 : Nat) (SX : Nat → Prop) : Prop where
  hp : w.heap[s]? = some (.cells #[.map (some m)] 178 (0, 0))
  ex : ∃ (p a d : Int → Nat) (SS : Int → Nat → Prop), p x = p0 ∧ w.ownsMap Tryz.prog 3 ptElem m T.length (mapT p T) ∧ (∀ t ∈ T, t.tr ≠ x → Fo w (p t.tr) (a t.tr) (d t.tr) t.tr t.L (SS t.tr)) ∧
    (∀ t ∈ T, t.tr ≠ x → ∀ k, SS t.tr k → S k ∧ k ≠ s ∧ k ≠ m ∧ ¬ SX k) ∧ (∀ t ∈ T, ∀ u ∈ T, t.tr ≠ x → u.tr ≠ x → t.tr ≠ u.tr → ∀ k, SS t.tr k → ¬ SS u.tr k)
  ss : S s
  sm : S m
  ne : s ≠ m
  sx : ¬ SX s ∧ ¬ SX m
  lt : ∀ k, S k → k < w.heap.size
section
variable {w w' : World} {s m p0 : Nat} {T : List Tr} {S S2 SX : Nat → Prop} {x : Int}
theorem StX.fr (h : StX w s m T S x p0 SX) (hf : Fr S2 w w') (hS : ∀ k, S k → ¬ SX k → ¬ S2 k) : StX w' s m T S x p0 SX := by
  obtain ⟨p, a, d, SS, h0, h1, h2, h3, h4⟩ := h.ex
  exact ⟨(hf.block s (h.lt s h.ss) (hS s h.ss h.sx.1)).trans h.hp, ⟨p, a, d, SS, h0, owns_eq h1 (hf.block m (h.lt m h.sm) (hS m h.sm h.sx.2)), fun t ht hx => (h2 t ht hx).fr hf (fun k hk => hS k (h3 t ht hx k hk).1 (h3 t ht hx k hk).2.2.2), h3, h4⟩, h.ss, h.sm, h.ne, h.sx, fun k hk => Nat.lt_of_lt_of_le (h.lt k hk) hf.size⟩
theorem StX.below {B : Nat} (h : StX w s m T S x p0 SX) (hb : Below B w w') (hB : w.heap.size ≤ B) : StX w' s m T S x p0 SX :=
  h.fr (S2 := fun _ => False) ⟨hb.os, hb.tape, hb.output, hb.size, fun k hk _ => hb.block k (by omega)⟩ (fun _ _ _ h => h)
/-- The forest is put back. -/
theorem StX.close (h : StX w s m T S x p0 SX) {a0 d0 B : Nat} {L : List Sp} {SX2 S3 : Nat → Prop} (hf : Fo w p0 a0 d0 x L SX2) (hg : GrT (setT T x L)) (h2 : ∀ k, SX2 k → SX k ∨ B ≤ k) (hB : ∀ k, S k → k < B) (h3 : ∀ k, S k → S3 k) (h4 : ∀ k, SX2 k → S3 k) (hl : ∀ k, S3 k → k < w.heap.size) : St w s m (setT T x L) S3 := by
  obtain ⟨p, a, d, SS, k0, k1, k2, k3, k4⟩ := h.ex
  have hno : ∀ t ∈ T, t.tr ≠ x → ∀ k, SS t.tr k → ¬ SX2 k := fun t ht hx k hk hs => by
    rcases h2 k hs with h | h
    · exact (k3 t ht hx k hk).2.2.2 h
    · have := hB k (k3 t ht hx k hk).1; omega
  have hsx : ∀ k, SX2 k → k ≠ s ∧ k ≠ m := fun k hk => by
    rcases h2 k hk with h1 | h1
    · exact ⟨fun e => h.sx.1 (e ▸ h1), fun e => h.sx.2 (e ▸ h1)⟩
    · have := hB s h.ss; have := hB m h.sm; omega
  refine ⟨h.hp, ⟨p, fun y => if y = x then a0 else a y, fun y => if y = x then d0 else d y, fun y => if y = x then SX2 else SS y, ?_, ?_, ?_, ?_⟩, h3 _ h.ss, h3 _ h.sm, h.ne, hg, hl⟩
  · rw [setT_len, mapT_set]; exact k1
  · intro t ht
    rcases setT_mem ht with ⟨hx, ht⟩ | ⟨rfl, _⟩
    · simp only [if_neg hx]; exact k2 t ht hx
    · simp only [if_true, k0]; exact hf
  · intro t ht k hk
    rcases setT_mem ht with ⟨hx, ht⟩ | ⟨rfl, _⟩
    · simp only [if_neg hx] at hk
      exact ⟨h3 _ (k3 t ht hx k hk).1, (k3 t ht hx k hk).2.1, (k3 t ht hx k hk).2.2.1⟩
    · simp only [if_true] at hk
      exact ⟨h4 k hk, hsx k hk⟩
  · intro t ht u hu htu k hk hk2
    rcases setT_mem ht with ⟨hx, ht⟩ | ⟨rfl, _⟩
    · simp only [if_neg hx] at hk
      rcases setT_mem hu with ⟨hx2, hu⟩ | ⟨rfl, _⟩
      · simp only [if_neg hx2] at hk2
        exact k4 t ht u hu hx hx2 htu k hk hk2
      · simp only [if_true] at hk2
        exact hno t ht hx k hk hk2
    · simp only [if_true] at hk
      rcases setT_mem hu with ⟨hx2, hu⟩ | ⟨rfl, _⟩
      · simp only [if_neg hx2] at hk2
        exact hno u hu hx2 k hk2 hk
      · exact htu rfl
/-- A forest that is there is taken out. -/
theorem St.take (h : St w s m T S) (hx : wfI x) {L : List Sp} (hg : getT T x = some L) : ∃ p0 a0 d0 SX, (∀ W : World, W.heap[m]? = w.heap[m]? → (Instr.lookup 176 (.map (some m)) (.int .i64 x) false).run Tryz.prog W = .ok (.pointer (some ⟨p0, 0, none⟩)) W) ∧
    Fo w p0 a0 d0 x L SX ∧ StX w s m T S x p0 SX ∧ ∀ k, SX k → S k := by
  obtain ⟨p, a, d, SS, h1, h2, h3, h4⟩ := h.ex
  have hm := getT_some hg
  have key : ∀ (W : World), W.heap[m]? = w.heap[m]? → ∃ v ps, (Instr.lookup 176 (.map (some m)) (.int .i64 x) false).run Tryz.prog W = .ok v W ∧ ptElem v = some ((mapT p T).atKey (.int .i64 x) (.held (.pointer none)), ps) := fun W he =>
    (owns_eq h1 he).lookup keyLaw Tryz.underlying176 (Tryz.zeroValue201 W) (zd := .held (.pointer none)) (zp := []) rfl (keyI hx)
  refine ⟨p x, a x, d x, SS x, fun W he => ?_, h2 _ hm, ⟨h.hp, ⟨p, a, d, SS, rfl, h1, fun t ht _ => h2 t ht, fun t ht hne k hk => ⟨(h3 t ht k hk).1, (h3 t ht k hk).2.1, (h3 t ht k hk).2.2, h4 t ht _ hm hne k hk⟩, fun t ht u hu _ _ => h4 t ht u hu⟩, h.ss, h.sm, h.ne, ⟨fun hk => (h3 _ hm s hk).2.1 rfl, fun hk => (h3 _ hm m hk).2.2 rfl⟩, h.lt⟩, fun k hk => (h3 _ hm k hk).1⟩
  obtain ⟨v, ps, hrun, hv⟩ := key W he
  rw [mapT_at, hg] at hv
  obtain ⟨b, rfl, hy⟩ := ptElem_inv hv
  simp only [Prod.mk.injEq, DataW.held.injEq, Value.pointer.injEq] at hy
  rw [hrun, ← hy.1]
/-- A new forest is laid into the map. -/
theorem St.addNew (h : St w s m T S) (hx : wfI x) (hg : getT T x = none) {w1 : World} (hb : Below w.heap.size w w1) {p0 a0 d0 : Nat} {L0 : List Sp} (hf : Fo w1 p0 a0 d0 x L0 SX) (hSX : ∀ k, SX k → w.heap.size ≤ k) :
    ∃ w2, (Instr.mapUpdate 176 (.map (some m)) (.int .i64 x) (.pointer (some ⟨p0, 0, none⟩))).run Tryz.prog w1 = .ok () w2 ∧ Fr (fun k => k = m) w1 w2 ∧ w2.heap.size = w1.heap.size ∧ Fo w2 p0 a0 d0 x L0 SX ∧ StX w2 s m (insT T ⟨x, []⟩) S x p0 SX := by
  obtain ⟨p, a, d, SS, h1, h2, h3, h4⟩ := h.ex
  have hno := getT_none hg
  have hml := h.lt m h.sm
  have hlen := h.gr.len
  have hcg : mapT p T = mapT (fun y => if y = x then p0 else p y) T := mapT_congr fun t ht => by rw [if_neg (hno t ht)]
  have h1b : w1.ownsMap Tryz.prog 3 ptElem m T.length (mapT (fun y => if y = x then p0 else p y) T) := by
    rw [← hcg]; exact owns_eq h1 (hb.block m hml)
  obtain ⟨w2, hrun, hown, ht⟩ := h1b.store keyLaw Tryz.underlying176 (by unfold maxLen; omega) (keyI hx) (val := .pointer (some ⟨p0, 0, none⟩)) (d := .held (.pointer (some ⟨p0, 0, none⟩))) (ps := []) rfl
  have hput : (mapT (fun y => if y = x then p0 else p y) T).put (.int .i64 x) (.held (.pointer (some ⟨p0, 0, none⟩))) = mapT (fun y => if y = x then p0 else p y) (insT T ⟨x, []⟩) := by
    have := mapT_put (p := fun y => if y = x then p0 else p y) (t := ⟨x, []⟩) hno
    simpa using this
  rw [hput] at hown
  have hf2 : Fr (fun k => k = m) w1 w2 := Fr.of_grown ht.grown (fun k hk => (Option.some.inj hk).symm)
  have hz : w2.heap.size = w1.heap.size := by
    obtain ⟨es, clock, es', clock', _, rfl⟩ := ht; simp [ChangeMaps.setBlock]
  have hmx : ¬ SX m := fun hk => by have := hSX m hk; omega
  have hsx : ¬ SX s := fun hk => by have := hSX s hk; have := h.lt s h.ss; omega
  refine ⟨w2, hrun, hf2, hz, hf.fr hf2 (fun k hk e => hmx (by rw [← e]; exact hk)), ⟨?_, ⟨fun y => if y = x then p0 else p y, a, d, SS, by simp, by rw [insT_len]; exact hown, ?_, ?_, ?_⟩, h.ss, h.sm, h.ne, ⟨hsx, hmx⟩, fun k hk => ?_⟩⟩
  · exact (hf2.block s (by have := h.lt s h.ss; have := hb.size; omega) h.ne).trans ((hb.block s (h.lt s h.ss)).trans h.hp)
  · intro t ht hne
    rcases insT_mem.1 ht with rfl | ht
    · exact absurd rfl hne
    · simp only [if_neg hne]
      exact ((h2 t ht).below hb (Nat.le_refl _)).fr hf2 (fun k hk e => (h3 t ht k hk).2.2 e)
  · intro t ht hne k hk
    rcases insT_mem.1 ht with rfl | ht
    · exact absurd rfl hne
    · exact ⟨(h3 t ht k hk).1, (h3 t ht k hk).2.1, (h3 t ht k hk).2.2, fun hs => by have := hSX k hs; have := h.lt k (h3 t ht k hk).1; omega⟩
  · intro t ht u hu h5 h6 h7
    rcases insT_mem.1 ht with rfl | ht
    · exact absurd rfl h5
    · rcases insT_mem.1 hu with rfl | hu
      · exact absurd rfl h6
      · exact h4 t ht u hu h7
  · have := h.lt k hk; have := hb.size; omega
end
theorem setT_ins {T : List Tr} {x : Int} (hn : getT T x = none) (L0 L : List Sp) : setT (insT T ⟨x, L0⟩) x L = insT T ⟨x, L⟩ := by
  have h := getT_none hn
  clear hn
  unfold setT
  induction T with
  | nil => simp [insT]
  | cons u T ih =>
    have hu := h u (by simp)
    have hT : T.map (fun t => if t.tr = x then (⟨x, L⟩ : Tr) else t) = T := by
      conv => rhs; rw [← List.map_id T]
      refine List.map_congr_left fun t ht => ?_
      rw [if_neg (h t (by simp [ht]))]; rfl
    rw [insT, insT]
    by_cases hlt : x < u.tr
    · rw [if_pos hlt, if_pos hlt, List.map_cons, List.map_cons, if_pos rfl, if_neg hu, hT]
    · rw [if_neg hlt, if_neg hlt, List.map_cons, if_neg hu, ih (fun t ht => h t (by simp [ht]))]
end Go.Proofs.YtfjpenbahoeklaaGreatDoor
namespace Go.Proofs.YtfjpenbahoeklaaGreatDoor
open Go.RowKit

/-- Is a voter right at its place? -/
def vB (l : List Int) (k : Nat) : Bool := decide (0 ≤ l.getD k 0) && decide (l.getD k 0 < 7) && (decide (k = 0) || decide (l.getD (k - 1) 0 < l.getD k 0))
def goodV (l : List Int) : Bool := (List.range l.length).all (vB l)
def okV (l : List Int) : Bool := decide (0 < l.length) && goodV l
/-- A command. -/
structure Cm where
  ki : Int
  se : Int
  sq : Int
  at_ : Int
  sp : List Sp
  vo : List Int
def atM (k : Int) : Int := if k = 3 then 1099511627776 else if k = 4 then 1099511627777 else 0
def numB (c : Cm) : Bool := if c.ki = 2 then decide (1 ≤ c.se) && decide (c.se ≤ 1099511627776) && decide (1 ≤ c.sq) && decide (c.sq ≤ 1099511627776) else decide (c.se = 0) && decide (c.sq = 0)
def fieldsB (c : Cm) : Bool := decide (0 ≤ c.ki ∧ c.ki ≤ 5) && numB c && decide (0 ≤ c.at_) && decide (c.at_ ≤ atM c.ki) && (decide (c.ki = 2) == decide (0 < c.sp.length)) && (decide (c.ki = 5) == decide (0 < c.vo.length))
/-- May a command be? -/
def Cm.ok (c : Cm) : Bool := fieldsB c && decide (c.sp.length ≤ 8) && c.sp.all Sp.ok && (decide (c.ki ≠ 5) || okV c.vo)
def Cm.check (c : Cm) : Int := if c.ok then 0 else 90
def Cm.zero : Cm := ⟨0, 0, 0, 0, [], []⟩

theorem vB_all_succ (l : List Int) (k : Nat) : (List.range (k + 1)).all (vB l) = ((List.range k).all (vB l) && vB l k) := by
  rw [List.range_succ, List.all_append]; simp
theorem goodV_f {l : List Int} {k : Nat} (hk : k < l.length) (h : vB l k = false) : goodV l = false := by
  unfold goodV
  rw [List.all_eq_false]
  exact ⟨k, List.mem_range.2 hk, by rw [h]; simp⟩
theorem okV_f {l : List Int} {k : Nat} (hk : k < l.length) (h : vB l k = false) : okV l = false := by
  unfold okV; rw [goodV_f hk h, Bool.and_false]
theorem goodV_at {l : List Int} (h : goodV l = true) {k : Nat} (hk : k < l.length) : vB l k = true := List.all_eq_true.1 h k (List.mem_range.2 hk)
theorem goodV_low {l : List Int} (h : goodV l = true) : ∀ k, k < l.length → (k : Int) ≤ l.getD k 0 ∧ l.getD k 0 < 7 := by
  intro k
  induction k with
  | zero =>
    intro hk
    have h1 := goodV_at h hk
    unfold vB at h1
    simp only [Bool.and_eq_true, decide_eq_true_eq] at h1
    exact ⟨h1.1.1, h1.1.2⟩
  | succ k ih =>
    intro hk
    have h1 := goodV_at h hk
    unfold vB at h1
    simp only [Bool.and_eq_true, decide_eq_true_eq, Bool.or_eq_true, Nat.add_sub_cancel] at h1
    have h2 := ih (by omega)
    obtain ⟨⟨_, h3⟩, h4⟩ := h1
    rcases h4 with h4 | h4
    · omega
    · exact ⟨by omega, h3⟩
theorem goodV_len {l : List Int} (h : goodV l = true) : l.length ≤ 7 := by
  refine Classical.byContradiction fun hn => ?_
  have := goodV_low h 7 (by omega)
  omega
theorem okV_len {l : List Int} (h : okV l = true) : 1 ≤ l.length ∧ l.length ≤ 7 := by
  unfold okV at h
  simp only [Bool.and_eq_true, decide_eq_true_eq] at h
  exact ⟨h.1, goodV_len h.2⟩
theorem okV_mem {l : List Int} (h : okV l = true) {n : Int} (hn : n ∈ l) : 0 ≤ n ∧ n < 7 := by
  unfold okV at h
  simp only [Bool.and_eq_true, decide_eq_true_eq] at h
  obtain ⟨k, hk, rfl⟩ := List.getElem_of_mem hn
  have h1 := goodV_low h.2 k hk
  rw [List.getD_eq_getElem?_getD, List.getElem?_eq_getElem hk, Option.getD_some] at h1
  omega
end Go.Proofs.YtfjpenbahoeklaaGreatDoor
namespace Go.Proofs.YtfjpenbahoeklaaGreatDoor
open Go Go.RowKit

theorem getD_at {l : List Int} {k : Nat} (hk : k < l.length) : l.getD k 0 = l[k] := by
  rw [List.getD_eq_getElem?_getD, List.getElem?_eq_getElem hk, Option.getD_some]
set_option maxRecDepth 100000 in
set_option maxHeartbeats 1000000 in
theorem voters_any (A : Option Addr) (n cap B : Nat) (l : List Int) (w : World) (hbig : n ≤ 140737488355328) (hr : RdI w B A n l) :
    Calls Tryz.prog 112 #[.slice A n cap] w fun e w' => e = .returned (.bool (okV l)) ∧ w = w' := by
  have hlen := hr.len
  subst hlen
  have HR := Lib.hid hr
  clear hr
  generalize hq : okV l = q
  have HQ := Lib.hid hq
  clear hq
  go_enter Tryz.func112, Tryz.ntmps112
  go_wp2_with fail
  go_loop [7] (fun i => ∃ k : Nat, k ≤ l.length ∧ i = .int .i64 k ∧ (List.range k).all (vB l) = true) (fun i => l.length - (intOf i).toNat)
  case atStart => exact ⟨0, by omega, rfl, rfl⟩
  case round =>
    obtain ⟨k, hk, rfl, ha⟩ := hrel
    have HA := Lib.hid ha
    clear ha
    by_cases hlt : k < l.length
    · obtain ⟨b, off, rfl, _, hcell⟩ := HR.out.at_ hlt
      have HX : Hid (l.getD k 0 = l[k]) := Lib.hid (getD_at hlt)
      have HP : Hid (0 < k → ∃ y, l.getD (k - 1) 0 = y ∧ w.cell? ⟨b, off + (k - 1), none⟩ = some (.int .i64 y)) := Lib.hid (fun h0 => by
        obtain ⟨b2, off2, e2, _, hc2⟩ := HR.out.at_ (k := k - 1) (by omega)
        cases e2
        exact ⟨_, getD_at (by omega), hc2⟩)
      generalize l[k] = x at *
      have hk1 : (k : Int) < l.length := by omega
      by_cases h1 : x < 0
      · have hq1 : q = false := by rw [← HQ.out]; exact okV_f hlt (by unfold vB; rw [HX.out, decide_eq_false (by omega)]; rfl)
        subst hq1
        go_wp2_with fail
        go_ret
        exact ⟨rfl, rfl⟩
      · by_cases h2 : 7 ≤ x
        · have hq1 : q = false := by rw [← HQ.out]; exact okV_f hlt (by unfold vB; rw [HX.out, decide_eq_false (p := x < 7) (by omega), Bool.and_false]; rfl)
          subst hq1
          go_wp2_with fail
          go_ret
          exact ⟨rfl, rfl⟩
        · by_cases h3 : k = 0
          · have HV : Hid (vB l k = true) := Lib.hid (by unfold vB; rw [HX.out, decide_eq_true (by omega), decide_eq_true (by omega), decide_eq_true h3]; rfl)
            subst h3
            rw [Nat.add_zero] at hcell
            go_wp2_with fail
            go_round
            case rel => exact ⟨1, by omega, by go_num, by rw [vB_all_succ, HA.out, HV.out]; rfl⟩
            case measure => simp [intOf]; omega
          · obtain ⟨y, hy, hcy⟩ := HP.out (by omega)
            have HY := Lib.hid hy
            clear hy
            have hk0 : (0 : Int) < k := by omega
            have hwk : IntKind.i64.wrap ((k : Int) - 1) = ((k - 1 : Nat) : Int) := ((IntWalk.i64_left _).trans (IntWalk.wrap64_in _ (by omega))).trans (by omega)
            have hk9 : ((k - 1 : Nat) : Int) < l.length := by omega
            have hk8 : (0 : Int) ≤ ((k - 1 : Nat) : Int) := by omega
            by_cases h4 : x ≤ y
            · have hq1 : q = false := by rw [← HQ.out]; exact okV_f hlt (by unfold vB; rw [HX.out, HY.out, decide_eq_false (p := k = 0) h3, decide_eq_false (p := y < x) (by omega)]; simp)
              subst hq1
              generalize k - 1 = k2 at *
              go_wp2_with fail
              go_ret
              exact ⟨rfl, rfl⟩
            · have HV : Hid (vB l k = true) := Lib.hid (by unfold vB; rw [HX.out, HY.out, decide_eq_true (by omega), decide_eq_true (by omega), decide_eq_true (p := y < x) (by omega)]; simp)
              generalize k - 1 = k2 at *
              go_wp2_with fail
              go_round
              case rel => exact ⟨k + 1, by omega, by go_num, by rw [vB_all_succ, HA.out, HV.out]; rfl⟩
              case measure => simp [intOf]; omega
    · have hke : k = l.length := by omega
      have hq1 : q = decide (0 < l.length) := by
        rw [← HQ.out]
        unfold okV goodV
        rw [← hke, HA.out, Bool.and_true]
      by_cases h0 : 0 < l.length
      · rw [decide_eq_true h0] at hq1
        subst hq1
        have h0i : (0 : Int) < l.length := by omega
        go_wp2_with fail
        go_ret
        exact ⟨rfl, rfl⟩
      · rw [decide_eq_false h0] at hq1
        subst hq1
        have h0i : ¬ (0 : Int) < l.length := by omega
        go_wp2_with fail
        go_ret
        exact ⟨rfl, rfl⟩

set_option maxRecDepth 100000 in
theorem vcheck1_any (A : Option Addr) (n cap B : Nat) (l : List Int) (w : World) (hB : B ≤ w.heap.size) (hbig : n ≤ 140737488355328) (hr : RdI w B A n l) :
    Calls Tryz.prog 78 #[.agg #[.int .i64 1, .int .i64 1, .slice A n cap, .slice none 0 0]] w fun e w' => e = .returned (.int .i64 (if okV l then 0 else 60)) ∧ Below w.heap.size w w' := by
  have HB : Hid (∀ o, Below w.heap.size w (w.alloc o)) := Lib.hid (fun o => (Below.refl _ _).alloc (Nat.le_refl _) o)
  have HV : Hid (∀ W, Below w.heap.size w W → Calls Tryz.prog 112 #[.slice A n cap] W fun e w' => e = .returned (.bool (okV l)) ∧ W = w') := Lib.hid (fun W hW => voters_any A n cap B l W hbig (hr.below' hW hB (Nat.le_refl _)))
  clear hr
  generalize okV l = q at *
  cases q
  · rw [if_neg Bool.false_ne_true]
    go_enter Tryz.func78, Tryz.ntmps78
    go_wp2_with fail
    refine (HV.out _ (HB.out _)).mono ?_
    rintro e w1 ⟨rfl, rfl⟩
    go_wp2_with fail
    go_ret
    exact ⟨rfl, HB.out _⟩
  · rw [if_pos rfl]
    go_enter Tryz.func78, Tryz.ntmps78
    go_wp2_with fail
    refine (HV.out _ (HB.out _)).mono ?_
    rintro e w1 ⟨rfl, rfl⟩
    go_wp2_with fail
    go_ret
    exact ⟨rfl, HB.out _⟩

/-- A command as a value. -/
structure CmV where
  c : Cm
  As : Option Addr
  ns : Nat
  cs : Nat
  Av : Option Addr
  nv : Nat
  cv : Nat
abbrev CmV.val (v : CmV) : Value := .agg #[.int .i64 v.c.ki, .int .i64 v.c.se, .int .i64 v.c.sq, .int .i64 v.c.at_, .slice v.As v.ns v.cs, .slice v.Av v.nv v.cv]
structure RdCm (w : World) (B : Nat) (v : CmV) : Prop where
  sp : RdS w B v.As v.ns v.c.sp
  vo : RdI w B v.Av v.nv v.c.vo
theorem RdCm.below {w w' : World} {B C : Nat} {v : CmV} (h : RdCm w B v) (hb : Below C w w') (hC : B ≤ C) : RdCm w' B v := ⟨h.sp.below' hb hC (Nat.le_refl _), h.vo.below' hb hC (Nat.le_refl _)⟩

theorem fieldsB_iff (c : Cm) : fieldsB c = true ↔ (0 ≤ c.ki ∧ c.ki ≤ 5) ∧ ((c.ki = 2 ∧ 1 ≤ c.se ∧ c.se ≤ 1099511627776 ∧ 1 ≤ c.sq ∧ c.sq ≤ 1099511627776) ∨ (c.ki ≠ 2 ∧ c.se = 0 ∧ c.sq = 0)) ∧ 0 ≤ c.at_ ∧ c.at_ ≤ atM c.ki ∧ (c.ki = 2 ↔ 0 < c.sp.length) ∧ (c.ki = 5 ↔ 0 < c.vo.length) := by
  unfold fieldsB numB
  by_cases h : c.ki = 2
  · simp only [h, if_true, Bool.and_eq_true, decide_eq_true_eq, beq_iff_eq, true_and, ne_eq, not_true_eq_false, false_and, or_false, decide_eq_decide]
    simp only [and_assoc, true_iff]
  · simp only [h, if_false, Bool.and_eq_true, decide_eq_true_eq, beq_iff_eq, false_and, ne_eq, not_false_eq_true, true_and, false_or, decide_eq_decide]
    simp only [and_assoc, false_iff]
/-- What fields answers of a kind. -/
def FieldsK (ki : Int) : Prop := ∀ (se sq at_ : Int) (sp : List Sp) (vo : List Int) (As : Option Addr) (ns cs : Nat) (Av : Option Addr) (nv cv : Nat) (w : World), sp.length = ns → vo.length = nv →
  Calls Tryz.prog 110 #[.agg #[.int .i64 ki, .int .i64 se, .int .i64 sq, .int .i64 at_, .slice As ns cs, .slice Av nv cv]] w fun e w' => e = .returned (.bool (fieldsB ⟨ki, se, sq, at_, sp, vo⟩)) ∧ Below w.heap.size w w'
set_option maxRecDepth 100000 in
set_option maxHeartbeats 4000000 in
theorem fields_0 : FieldsK 0 := by
  intro se sq at_ sp vo As ns cs Av nv cv w hS hV
  have HB : Hid (∀ o, Below w.heap.size w (w.alloc o)) := Lib.hid (fun o => (Below.refl _ _).alloc (Nat.le_refl _) o)
  generalize hq : fieldsB ⟨0, se, sq, at_, sp, vo⟩ = q
  have HQ := Lib.hid hq
  have HNS := Lib.hid hS
  have HNV := Lib.hid hV
  clear hq hS hV
  go_enter Tryz.func110, Tryz.ntmps110
  go_wp2_with fail
  all_goals
    go_ret
    refine ⟨congrArg (fun b => Ending.returned (Value.bool b)) ?_, HB.out _⟩
    rw [← HQ.out, Bool.eq_iff_iff, fieldsB_iff]
    simp only [HNS.out, HNV.out, show atM 0 = 0 from rfl]
    first | omega | (simp; done) | (simp; omega)
set_option maxRecDepth 100000 in
set_option maxHeartbeats 4000000 in
theorem fields_1 : FieldsK 1 := by
  intro se sq at_ sp vo As ns cs Av nv cv w hS hV
  have HB : Hid (∀ o, Below w.heap.size w (w.alloc o)) := Lib.hid (fun o => (Below.refl _ _).alloc (Nat.le_refl _) o)
  generalize hq : fieldsB ⟨1, se, sq, at_, sp, vo⟩ = q
  have HQ := Lib.hid hq
  have HNS := Lib.hid hS
  have HNV := Lib.hid hV
  clear hq hS hV
  go_enter Tryz.func110, Tryz.ntmps110
  go_wp2_with fail
  all_goals
    go_ret
    refine ⟨congrArg (fun b => Ending.returned (Value.bool b)) ?_, HB.out _⟩
    rw [← HQ.out, Bool.eq_iff_iff, fieldsB_iff]
    simp only [HNS.out, HNV.out, show atM 1 = 0 from rfl]
    first | omega | (simp; done) | (simp; omega)
set_option maxRecDepth 100000 in
set_option maxHeartbeats 4000000 in
theorem fields_2 : FieldsK 2 := by
  intro se sq at_ sp vo As ns cs Av nv cv w hS hV
  have HB : Hid (∀ o, Below w.heap.size w (w.alloc o)) := Lib.hid (fun o => (Below.refl _ _).alloc (Nat.le_refl _) o)
  generalize hq : fieldsB ⟨2, se, sq, at_, sp, vo⟩ = q
  have HQ := Lib.hid hq
  have HNS := Lib.hid hS
  have HNV := Lib.hid hV
  clear hq hS hV
  go_enter Tryz.func110, Tryz.ntmps110
  go_wp2_with fail
  all_goals
    go_ret
    refine ⟨congrArg (fun b => Ending.returned (Value.bool b)) ?_, HB.out _⟩
    rw [← HQ.out, Bool.eq_iff_iff, fieldsB_iff]
    simp only [HNS.out, HNV.out, show atM 2 = 0 from rfl]
    first | omega | (simp; done) | (simp; omega)
set_option maxRecDepth 100000 in
set_option maxHeartbeats 4000000 in
theorem fields_3 : FieldsK 3 := by
  intro se sq at_ sp vo As ns cs Av nv cv w hS hV
  have HB : Hid (∀ o, Below w.heap.size w (w.alloc o)) := Lib.hid (fun o => (Below.refl _ _).alloc (Nat.le_refl _) o)
  generalize hq : fieldsB ⟨3, se, sq, at_, sp, vo⟩ = q
  have HQ := Lib.hid hq
  have HNS := Lib.hid hS
  have HNV := Lib.hid hV
  clear hq hS hV
  go_enter Tryz.func110, Tryz.ntmps110
  go_wp2_with fail
  all_goals
    go_ret
    refine ⟨congrArg (fun b => Ending.returned (Value.bool b)) ?_, HB.out _⟩
    rw [← HQ.out, Bool.eq_iff_iff, fieldsB_iff]
    simp only [HNS.out, HNV.out, show atM 3 = 1099511627776 from rfl]
    first | omega | (simp; done) | (simp; omega)
set_option maxRecDepth 100000 in
set_option maxHeartbeats 4000000 in
theorem fields_4 : FieldsK 4 := by
  intro se sq at_ sp vo As ns cs Av nv cv w hS hV
  have HB : Hid (∀ o, Below w.heap.size w (w.alloc o)) := Lib.hid (fun o => (Below.refl _ _).alloc (Nat.le_refl _) o)
  generalize hq : fieldsB ⟨4, se, sq, at_, sp, vo⟩ = q
  have HQ := Lib.hid hq
  have HNS := Lib.hid hS
  have HNV := Lib.hid hV
  clear hq hS hV
  go_enter Tryz.func110, Tryz.ntmps110
  go_wp2_with fail
  all_goals
    go_ret
    refine ⟨congrArg (fun b => Ending.returned (Value.bool b)) ?_, HB.out _⟩
    rw [← HQ.out, Bool.eq_iff_iff, fieldsB_iff]
    simp only [HNS.out, HNV.out, show atM 4 = 1099511627777 from rfl]
    first | omega | (simp; done) | (simp; omega)
set_option maxRecDepth 100000 in
set_option maxHeartbeats 4000000 in
theorem fields_5 : FieldsK 5 := by
  intro se sq at_ sp vo As ns cs Av nv cv w hS hV
  have HB : Hid (∀ o, Below w.heap.size w (w.alloc o)) := Lib.hid (fun o => (Below.refl _ _).alloc (Nat.le_refl _) o)
  generalize hq : fieldsB ⟨5, se, sq, at_, sp, vo⟩ = q
  have HQ := Lib.hid hq
  have HNS := Lib.hid hS
  have HNV := Lib.hid hV
  clear hq hS hV
  go_enter Tryz.func110, Tryz.ntmps110
  go_wp2_with fail
  all_goals
    go_ret
    refine ⟨congrArg (fun b => Ending.returned (Value.bool b)) ?_, HB.out _⟩
    rw [← HQ.out, Bool.eq_iff_iff, fieldsB_iff]
    simp only [HNS.out, HNV.out, show atM 5 = 0 from rfl]
    first | omega | (simp; done) | (simp; omega)
set_option maxRecDepth 100000 in
set_option maxHeartbeats 4000000 in
theorem fields_else (ki : Int) (h0 : ¬ ki = 0) (h1 : ¬ ki = 1) (h2 : ¬ ki = 2) (h3 : ¬ ki = 3) (h4 : ¬ ki = 4) (h5 : ¬ ki = 5) : FieldsK ki := by
  intro se sq at_ sp vo As ns cs Av nv cv w _ _
  have HB : Hid (∀ o, Below w.heap.size w (w.alloc o)) := Lib.hid (fun o => (Below.refl _ _).alloc (Nat.le_refl _) o)
  have hq : fieldsB ⟨ki, se, sq, at_, sp, vo⟩ = false := by
    rw [Bool.eq_false_iff]
    intro h
    have := ((fieldsB_iff _).1 h).1
    simp only at this
    omega
  rw [hq]
  clear hq
  go_enter Tryz.func110, Tryz.ntmps110
  go_wp2_with fail
  go_ret
  exact ⟨rfl, HB.out _⟩
theorem fields_any (v : CmV) (w : World) (hs : v.c.sp.length = v.ns) (hv : v.c.vo.length = v.nv) :
    Calls Tryz.prog 110 #[v.val] w fun e w' => e = .returned (.bool (fieldsB v.c)) ∧ Below w.heap.size w w' := by
  obtain ⟨⟨ki, se, sq, at_, sp, vo⟩, As, ns, cs, Av, nv, cv⟩ := v
  have key : FieldsK ki := by
    by_cases h0 : ki = 0
    · exact h0 ▸ fields_0
    by_cases h1 : ki = 1
    · exact h1 ▸ fields_1
    by_cases h2 : ki = 2
    · exact h2 ▸ fields_2
    by_cases h3 : ki = 3
    · exact h3 ▸ fields_3
    by_cases h4 : ki = 4
    · exact h4 ▸ fields_4
    by_cases h5 : ki = 5
    · exact h5 ▸ fields_5
    exact fields_else ki h0 h1 h2 h3 h4 h5
  exact key se sq at_ sp vo As ns cs Av nv cv w hs hv
end Go.Proofs.YtfjpenbahoeklaaGreatDoor
namespace Go.Proofs.YtfjpenbahoeklaaGreatDoor
open Go Go.RowKit

/-- What of a command's Check is known ahead of its spans. -/
def Cm.pre (c : Cm) : Bool := fieldsB c && decide (c.sp.length ≤ 8)
theorem Cm.ok_eq (c : Cm) : c.ok = (c.pre && c.sp.all Sp.ok && (decide (c.ki ≠ 5) || okV c.vo)) := rfl
set_option maxRecDepth 100000 in
set_option maxHeartbeats 4000000 in
theorem mcheck_any (v : CmV) (B : Nat) (w : World) (hB : B ≤ w.heap.size) (hns : v.ns ≤ 140737488355328) (hnv : v.nv ≤ 140737488355328) (hnm : ∀ s ∈ v.c.sp, s.nm.size ≤ 140737488355328) (hr : RdCm w B v) :
    Calls Tryz.prog 73 #[v.val] w fun e w' => e = .returned (.int .i64 v.c.check) ∧ Below w.heap.size w w' := by
  have hls := hr.sp.len
  have hlv := hr.vo.len
  have HB : Hid (∀ o, Below w.heap.size w (w.alloc o)) := Lib.hid (fun o => (Below.refl _ _).alloc (Nat.le_refl _) o)
  have HF : Hid (∀ W, Calls Tryz.prog 110 #[v.val] W fun e w' => e = .returned (.bool (fieldsB v.c)) ∧ Below W.heap.size W w') := Lib.hid (fun W => fields_any v W hls hlv)
  have HR : Hid (∀ W, Below w.heap.size w W → RdS W W.heap.size v.As v.ns v.c.sp) := Lib.hid (fun W hW => hr.sp.below' hW hB (Nat.le_trans hB hW.size))
  have HV : Hid (∀ W, Below w.heap.size w W → Calls Tryz.prog 78 #[.agg #[.int .i64 1, .int .i64 1, .slice v.Av v.nv v.cv, .slice none 0 0]] W fun e w' => e = .returned (.int .i64 (if okV v.c.vo then 0 else 60)) ∧ Below W.heap.size W w') := Lib.hid (fun W hW => vcheck1_any v.Av v.nv v.cv B v.c.vo W (Nat.le_trans hB hW.size) hnv (hr.vo.below' hW hB (Nat.le_refl _)))
  have HNM := Lib.hid hnm
  have HOK : Hid (v.c.ok = (v.c.pre && v.c.sp.all Sp.ok && (decide (v.c.ki ≠ 5) || okV v.c.vo))) := Lib.hid v.c.ok_eq
  have HPRE : Hid (v.c.pre = (fieldsB v.c && decide (v.c.sp.length ≤ 8))) := Lib.hid rfl
  generalize hz : v.c.check = z
  have HZ : Hid ((if v.c.ok then 0 else 90) = z) := Lib.hid hz
  clear hz hr hnm hB hlv
  obtain ⟨c, As, ns, cs, Av, nv, cv⟩ := v
  dsimp only [CmV.val] at *
  subst hls
  generalize fieldsB c = f at *
  generalize c.pre = pre at *
  have HX : Hid (∀ W, Below (w.heap.size + 1) (w.alloc (.cells #[.int .i64 c.ki, .int .i64 c.se, .int .i64 c.sq, .int .i64 c.at_, .slice As c.sp.length cs, .slice Av nv cv] 50 (0, 0))) W → Below w.heap.size w W ∧ (∀ j, W.cell? ⟨w.heap.size, j, none⟩ = (#[.int .i64 c.ki, .int .i64 c.se, .int .i64 c.sq, .int .i64 c.at_, .slice As c.sp.length cs, .slice Av nv cv] : Array Value)[j]?) ∧ w.heap.size < W.heap.size) := Lib.hid (fun W hW => ⟨((Below.refl _ _).alloc (Nat.le_refl _) _).trans (hW.mono (by omega)), blk_cell ((hW.block w.heap.size (by omega)).trans (heap_alloc_new w _)), by have := hW.size; simp at this; omega⟩)
  cases f
  · have HPF : Hid (pre = false) := Lib.hid (by rw [HPRE.out]; rfl)
    go_enter Tryz.func73, Tryz.ntmps73
    go_wp2_with fail
    refine (HF.out _).mono ?_
    rintro e w1 ⟨rfl, hb1⟩
    have hb2 : Below (w.heap.size + 1) (w.alloc (.cells #[.int .i64 c.ki, .int .i64 c.se, .int .i64 c.sq, .int .i64 c.at_, .slice As c.sp.length cs, .slice Av nv cv] 50 (0, 0))) w1 := hb1.mono (by simp)
    obtain ⟨g1, g2, g3⟩ := HX.out w1 hb2
    have HB2 := Lib.hid hb2
    clear hb1 hb2
    go_wp2_with fail
    go_loopw [3, 17] (fun v i wr => ∃ (k : Nat) (g : Bool), k ≤ c.sp.length ∧ i = .int .i64 k ∧ v = .bool g ∧ g = false ∧ Below (w.heap.size + 1) (w.alloc (.cells #[.int .i64 c.ki, .int .i64 c.se, .int .i64 c.sq, .int .i64 c.at_, .slice As c.sp.length cs, .slice Av nv cv] 50 (0, 0))) wr) (fun _ i _ => c.sp.length - (intOf i).toNat)
    case atStart => exact ⟨0, false, by omega, rfl, rfl, rfl, HB2.out⟩
    case round =>
      obtain ⟨k, g, hk, rfl, rfl, hg, hbr⟩ := hrel
      have HG := Lib.hid hg
      have HBR := Lib.hid hbr
      obtain ⟨q1, q2, q3⟩ := HX.out wr hbr
      have hrd := HR.out wr q1
      have HQ1 := Lib.hid q1
      clear hg hbr q1 g1 g2
      by_cases hlt : k < c.sp.length
      · obtain ⟨b, off, rfl, hbb, x0, x1, x2, x3, x4, x5⟩ := hrd.at_ hlt
        have hk1 : (k : Int) < c.sp.length := by omega
        have HN1 := Lib.hid (HNM.out _ (List.getElem_mem hlt))
        have HTK := Lib.hid (all_take_succ c.sp Sp.ok k hlt)
        generalize c.sp[k] = s at *
        have HAL := Lib.hid (HBR.out.alloc (by omega) (.cells #[.int .i64 s.tr, .int .i64 s.id, .int .i64 s.pa, .int .i64 s.st, .int .i64 s.en, .string s.nm] 93 (0, 0)))
        clear hrd
        have hg0 := HG.out
        subst hg0
        go_wp2_with fail
        go_roundw
        case rel => exact ⟨k + 1, false, by omega, by go_num, rfl, rfl, HAL.out⟩
        case measure => simp [intOf]; omega
      · have hke : k = c.sp.length := by omega
        subst hke
        clear hrd
        have hg0 := HG.out
        subst hg0
        have hz : z = 90 := by rw [← HZ.out, HOK.out, HPF.out, Bool.false_and, Bool.false_and]; rfl
        subst hz
        by_cases h5 : c.ki = 5
        · go_wp2_with fail
          go_ret
          exact ⟨rfl, HQ1.out⟩
        · go_wp2_with fail
          go_ret
          exact ⟨rfl, HQ1.out⟩
  · by_cases h8 : c.sp.length ≤ 8
    · have HPT : Hid (pre = true) := Lib.hid (by rw [HPRE.out, decide_eq_true h8]; rfl)
      have h8i : (c.sp.length : Int) ≤ 8 := by omega
      go_enter Tryz.func73, Tryz.ntmps73
      go_wp2_with fail
      refine (HF.out _).mono ?_
      rintro e w1 ⟨rfl, hb1⟩
      have hb2 : Below (w.heap.size + 1) (w.alloc (.cells #[.int .i64 c.ki, .int .i64 c.se, .int .i64 c.sq, .int .i64 c.at_, .slice As c.sp.length cs, .slice Av nv cv] 50 (0, 0))) w1 := hb1.mono (by simp)
      obtain ⟨g1, g2, g3⟩ := HX.out w1 hb2
      have HB2 := Lib.hid hb2
      clear hb1 hb2
      go_wp2_with fail
      go_loopw [3, 17] (fun v i wr => ∃ (k : Nat) (g : Bool), k ≤ c.sp.length ∧ i = .int .i64 k ∧ v = .bool g ∧ g = (c.sp.take k).all Sp.ok ∧ Below (w.heap.size + 1) (w.alloc (.cells #[.int .i64 c.ki, .int .i64 c.se, .int .i64 c.sq, .int .i64 c.at_, .slice As c.sp.length cs, .slice Av nv cv] 50 (0, 0))) wr) (fun _ i _ => c.sp.length - (intOf i).toNat)
      case atStart => exact ⟨0, true, by omega, rfl, rfl, rfl, HB2.out⟩
      case round =>
        obtain ⟨k, g, hk, rfl, rfl, hg, hbr⟩ := hrel
        have HG := Lib.hid hg
        have HBR := Lib.hid hbr
        obtain ⟨q1, q2, q3⟩ := HX.out wr hbr
        have hrd := HR.out wr q1
        have HQ1 := Lib.hid q1
        clear hg hbr q1 g1 g2
        by_cases hlt : k < c.sp.length
        · obtain ⟨b, off, rfl, hbb, x0, x1, x2, x3, x4, x5⟩ := hrd.at_ hlt
          have hk1 : (k : Int) < c.sp.length := by omega
          have HN1 := Lib.hid (HNM.out _ (List.getElem_mem hlt))
          have HTK := Lib.hid (all_take_succ c.sp Sp.ok k hlt)
          generalize c.sp[k] = s at *
          have HAL := Lib.hid (HBR.out.alloc (by omega) (.cells #[.int .i64 s.tr, .int .i64 s.id, .int .i64 s.pa, .int .i64 s.st, .int .i64 s.en, .string s.nm] 93 (0, 0)))
          clear hrd
          cases g
          · go_wp2_with fail
            go_roundw
            case rel => exact ⟨k + 1, false, by omega, by go_num, rfl, by rw [HTK.out, ← HG.out]; rfl, HAL.out⟩
            case measure => simp [intOf]; omega
          · go_wp2_with fail
            refine (check_any s _ HN1.out).mono ?_
            rintro e w3 ⟨rfl, hb3⟩
            have HB3 := Lib.hid (HAL.out.trans (hb3.mono (by simp <;> omega)))
            clear hb3
            cases hso : s.ok
            · have hc := Sp.check_f hso
              rw [hc]
              go_wp2_with fail
              go_roundw
              case rel => exact ⟨k + 1, false, by omega, by go_num, rfl, by rw [HTK.out, ← HG.out, hso]; rfl, HB3.out⟩
              case measure => simp [intOf]; omega
            · have hc := Sp.check_t hso
              rw [hc]
              go_wp2_with fail
              go_roundw
              case rel => exact ⟨k + 1, true, by omega, by go_num, rfl, by rw [HTK.out, ← HG.out, hso]; rfl, HB3.out⟩
              case measure => simp [intOf]; omega
        · have hke : k = c.sp.length := by omega
          subst hke
          clear hrd
          have HGE : Hid (c.sp.all Sp.ok = g) := Lib.hid (by rw [HG.out, List.take_of_length_le (Nat.le_refl _)])
          have HV2 := Lib.hid (HV.out wr HQ1.out)
          cases g
          · have hz : z = 90 := by rw [← HZ.out, HOK.out, HGE.out, Bool.and_false, Bool.false_and]; rfl
            subst hz
            by_cases h5 : c.ki = 5
            · go_wp2_with fail
              go_ret
              exact ⟨rfl, HQ1.out⟩
            · go_wp2_with fail
              go_ret
              exact ⟨rfl, HQ1.out⟩
          · by_cases h5 : c.ki = 5
            · have hz : (if okV c.vo then (0 : Int) else 90) = z := by rw [← HZ.out, HOK.out, HGE.out, HPT.out, decide_eq_false (p := c.ki ≠ 5) (fun h => h h5)]; rfl
              have HZ5 := Lib.hid hz
              clear hz
              go_wp2_with fail
              refine HV2.out.mono ?_
              rintro e w4 ⟨rfl, hb4⟩
              have HB4 : Hid (Below w.heap.size w w4) := Lib.hid (HQ1.out.trans (hb4.mono HQ1.out.size))
              clear hb4
              cases hv : okV c.vo
              · have hz := HZ5.out
                rw [hv] at hz
                subst hz
                rw [if_neg Bool.false_ne_true]
                go_wp2_with fail
                go_ret
                exact ⟨rfl, HB4.out⟩
              · have hz := HZ5.out
                rw [hv] at hz
                subst hz
                rw [if_pos rfl]
                go_wp2_with fail
                go_ret
                exact ⟨rfl, HB4.out⟩
            · have hz : z = 0 := by rw [← HZ.out, HOK.out, HGE.out, HPT.out, decide_eq_true (p := c.ki ≠ 5) h5]; rfl
              subst hz
              go_wp2_with fail
              go_ret
              exact ⟨rfl, HQ1.out⟩
    · have HPF : Hid (pre = false) := Lib.hid (by rw [HPRE.out, decide_eq_false h8]; rfl)
      have h8i : ¬ (c.sp.length : Int) ≤ 8 := by omega
      go_enter Tryz.func73, Tryz.ntmps73
      go_wp2_with fail
      refine (HF.out _).mono ?_
      rintro e w1 ⟨rfl, hb1⟩
      have hb2 : Below (w.heap.size + 1) (w.alloc (.cells #[.int .i64 c.ki, .int .i64 c.se, .int .i64 c.sq, .int .i64 c.at_, .slice As c.sp.length cs, .slice Av nv cv] 50 (0, 0))) w1 := hb1.mono (by simp)
      obtain ⟨g1, g2, g3⟩ := HX.out w1 hb2
      have HB2 := Lib.hid hb2
      clear hb1 hb2
      go_wp2_with fail
      go_loopw [3, 17] (fun v i wr => ∃ (k : Nat) (g : Bool), k ≤ c.sp.length ∧ i = .int .i64 k ∧ v = .bool g ∧ g = false ∧ Below (w.heap.size + 1) (w.alloc (.cells #[.int .i64 c.ki, .int .i64 c.se, .int .i64 c.sq, .int .i64 c.at_, .slice As c.sp.length cs, .slice Av nv cv] 50 (0, 0))) wr) (fun _ i _ => c.sp.length - (intOf i).toNat)
      case atStart => exact ⟨0, false, by omega, rfl, by rw [decide_eq_false (by omega)], rfl, HB2.out⟩
      case round =>
        obtain ⟨k, g, hk, rfl, rfl, hg, hbr⟩ := hrel
        have HG := Lib.hid hg
        have HBR := Lib.hid hbr
        obtain ⟨q1, q2, q3⟩ := HX.out wr hbr
        have hrd := HR.out wr q1
        have HQ1 := Lib.hid q1
        clear hg hbr q1 g1 g2
        by_cases hlt : k < c.sp.length
        · obtain ⟨b, off, rfl, hbb, x0, x1, x2, x3, x4, x5⟩ := hrd.at_ hlt
          have hk1 : (k : Int) < c.sp.length := by omega
          have HN1 := Lib.hid (HNM.out _ (List.getElem_mem hlt))
          have HTK := Lib.hid (all_take_succ c.sp Sp.ok k hlt)
          generalize c.sp[k] = s at *
          have HAL := Lib.hid (HBR.out.alloc (by omega) (.cells #[.int .i64 s.tr, .int .i64 s.id, .int .i64 s.pa, .int .i64 s.st, .int .i64 s.en, .string s.nm] 93 (0, 0)))
          clear hrd
          have hg0 := HG.out
          subst hg0
          go_wp2_with fail
          go_roundw
          case rel => exact ⟨k + 1, false, by omega, by go_num, rfl, rfl, HAL.out⟩
          case measure => simp [intOf]; omega
        · have hke : k = c.sp.length := by omega
          subst hke
          clear hrd
          have hg0 := HG.out
          subst hg0
          have hz : z = 90 := by rw [← HZ.out, HOK.out, HPF.out, Bool.false_and, Bool.false_and]; rfl
          subst hz
          by_cases h5 : c.ki = 5
          · go_wp2_with fail
            go_ret
            exact ⟨rfl, HQ1.out⟩
          · go_wp2_with fail
            go_ret
            exact ⟨rfl, HQ1.out⟩
end Go.Proofs.YtfjpenbahoeklaaGreatDoor
namespace Go.Proofs.YtfjpenbahoeklaaGreatDoor
open Go Go.RowKit Go.Maps Go.WideElems

theorem lt_of_cell {w : World} {b off : Nat} {v : Value} (h : w.cell? ⟨b, off, none⟩ = some v) : b < w.heap.size := by
  by_cases hb : b < w.heap.size
  · exact hb
  · simp [World.cell?, Array.getElem?_eq_none (Nat.le_of_not_lt hb)] at h
/-- A map over another reading of its elements, which agrees on what is there. -/
theorem owns_turn {H : Type} {P : Program} {k : TypeId} {R R' : Value → Option (DataW H × List MemPlace)} {w : World} {b n : Nat} {D : DataW H} (h : w.ownsMap P k R b n D) (hR : ∀ es, D = .map es → ∀ v z, R v = some z → (∃ kl, (kl, z.1) ∈ es) → R' v = some z) : w.ownsMap P k R' b (Maps.size D) D := by
  obtain ⟨es, clock, hb, F, hs, rfl⟩ := h
  have e : Maps.size (DataW.map ((es.toList.map (rg P k R)).foldr DataW.insert [])) = es.size := length_read es
  rw [e]
  refine World.ownsMap_of_fit hb F fun x hx z hz => hR _ rfl _ _ hz ?_
  obtain ⟨y, hy⟩ := F.reads x hx
  obtain ⟨z', hz', hy2⟩ := rd_val hy
  rw [hz] at hz'
  cases hz'
  exact ⟨y.1, mem_sorted.2 (List.mem_map.2 ⟨x, hx, by rw [rg_of hy, ← hy2]⟩)⟩
/-- The trace whose forest lies in a block. -/
def atB (p : Int → Nat) (T : List Tr) (b : Nat) : Option Tr := T.find? fun t => decide (p t.tr = b)
def ptIn (p : Int → Nat) (T : List Tr) : Value → Option (DataW Value × List MemPlace)
  | .pointer (some ⟨b, 0, none⟩) => if (atB p T b).isSome then some (.held (.pointer (some ⟨b, 0, none⟩)), []) else none
  | _ => none
theorem ptIn_inv {p : Int → Nat} {T : List Tr} {v : Value} {y : DataW Value × List MemPlace} (h : ptIn p T v = some y) : ∃ b t, v = .pointer (some ⟨b, 0, none⟩) ∧ atB p T b = some t ∧ y = (.held (.pointer (some ⟨b, 0, none⟩)), []) := by
  unfold ptIn at h
  split at h
  · rename_i b
    by_cases hb : (atB p T b).isSome = true
    · rw [if_pos hb] at h
      obtain ⟨t, ht⟩ := Option.isSome_iff_exists.1 hb
      exact ⟨b, t, rfl, ht, (Option.some.inj h).symm⟩
    · rw [if_neg hb] at h; cases h
  · cases h
theorem atB_some {p : Int → Nat} {T : List Tr} {b : Nat} {t : Tr} (h : atB p T b = some t) : t ∈ T ∧ p t.tr = b := by
  have h1 := List.find?_some h
  exact ⟨List.mem_of_find?_eq_some h, by simpa using h1⟩
theorem atB_mem {p : Int → Nat} {T : List Tr} (hinj : ∀ t ∈ T, ∀ u ∈ T, p t.tr = p u.tr → t = u) {t : Tr} (ht : t ∈ T) : atB p T (p t.tr) = some t := by
  cases h : atB p T (p t.tr) with
  | none =>
    have := List.find?_eq_none.1 h t ht
    simp at this
  | some u =>
    obtain ⟨h1, h2⟩ := atB_some h
    rw [hinj u h1 t ht h2]
/-- Did it end before? -/
def goneD (p : Int → Nat) (T : List Tr) (z : Int) (_ : Lit) : DataW Value → Bool
  | .held (.pointer (some ⟨b, _, _⟩)) => match atB p T b with
    | some t => decide (endL t.L < z)
    | none => false
  | _ => false
theorem gone_ret {p : Int → Nat} {T : List Tr} (hinj : ∀ t ∈ T, ∀ u ∈ T, p t.tr = p u.tr → t = u) (z : Int) : Lib.deleteFuncD (goneD p T z) (mapT p T) = mapT p (retT T z) := by
  have key : ∀ T2 : List Tr, (∀ t ∈ T2, t ∈ T) → (T2.map (entT p)).filter (fun q => !goneD p T z q.1 q.2) = (retT T2 z).map (entT p) := by
    intro T2
    induction T2 with
    | nil => intro _; rfl
    | cons t T2 ih =>
      intro h
      have ih := ih fun t ht => h t (by simp [ht])
      have e : goneD p T z (entT p t).1 (entT p t).2 = decide (endL t.L < z) := by
        simp only [goneD, entT, atB_mem hinj (h t (by simp))]
      unfold retT at ih ⊢
      rw [List.map_cons]
      by_cases hlt : endL t.L < z
      · rw [List.filter_cons_of_neg (by rw [e]; simp [hlt]), List.filter_cons_of_neg (by simp <;> omega), ih]
      · rw [List.filter_cons_of_pos (by rw [e]; simp <;> omega), List.filter_cons_of_pos (by simp <;> omega), List.map_cons, ih]
  unfold mapT Lib.deleteFuncD
  simp only [key T (fun _ h => h)]
theorem grown_of_below {w w' : World} (h : Below w.heap.size w w') : w.grownBy w' none := ⟨h.os, h.tape, h.output, h.size, fun k hk _ => h.block k hk⟩

set_option maxRecDepth 100000 in
set_option maxHeartbeats 1000000 in
theorem gone_any {W : World} {p0 a0 d0 : Nat} {tr : Int} {L : List Sp} {SS : Nat → Prop} (h : Fo W p0 a0 d0 tr L SS) (k z : Int) (bx : Nat) (hx : W.cell? ⟨bx, 0, none⟩ = some (.int .i64 z)) :
    Calls Tryz.prog 142 (#[.int .i64 k, .pointer (some ⟨p0, 0, none⟩)] ++ #[.pointer (some ⟨bx, 0, none⟩)]) W fun e w' => e = .returned (.bool (decide (endL L < z))) ∧ W.grownBy w' none := by
  have HF := Lib.hid h
  have hbx := lt_of_cell hx
  have HX : Hid (∀ W', Below W.heap.size W W' → W'.cell? ⟨bx, 0, none⟩ = some (.int .i64 z)) := Lib.hid (fun W' hW => (hW.cell hbx).trans hx)
  clear h
  go_enter Tryz.func142, Tryz.ntmps142
  go_wp2_with fail
  refine wp_region_sched [(0, true), (2, true), (1, false), (3, true), (4, true)] (fun W' => Below W.heap.size W W') (by kernel_rfl) (by kernel_rfl) rfl (by kernel_rfl) ((Below.refl _ _).drew) ?_
  repeat (first | (apply sched_take rfl; (focus (first | rfl | (go_simp; done))); (focus (intro W' hW; have f1 := HX.out W' hW; go_simp; rfl)); (focus (intro K hK; go_simp; refine hK _ ?_; clear hK K))) | (apply sched_skip rfl; (focus (first | rfl | (go_simp; done))); (focus (intro K hK; go_simp; refine hK _ ?_; clear hK K))))
  apply sched_op rfl
  intro K hK
  go_simp
  go_wp2_with (fail)
  refine (fend_any (HF.out.drewN 1)).mono ?_
  rintro e v1 ⟨rfl, hb⟩
  have hk1 : Below W.heap.size W v1 := (Below.refl _ _).drew.trans (hb.mono (Nat.le_refl _))
  go_wp2_with fail
  refine ⟨by exact hk1, ?_⟩
  repeat (first | (apply sched_take rfl; (focus (first | rfl | (go_simp; done))); (focus (intro W' hW; have f1 := HX.out W' hW; go_simp; rfl)); (focus (intro K hK; go_simp; refine hK _ ?_; clear hK K))) | (apply sched_skip rfl; (focus (first | rfl | (go_simp; done))); (focus (intro K hK; go_simp; refine hK _ ?_; clear hK K))))
  refine sched_nil ?_
  go_wp2_with fail
  go_ret
  exact ⟨rfl, grown_of_below hk1⟩

set_option maxRecDepth 100000 in
set_option maxHeartbeats 2000000 in
theorem delete_any {w : World} {s m : Nat} {T : List Tr} {S : Nat → Prop} (h : St w s m T S) (z : Int) (bx : Nat) (hx : w.cell? ⟨bx, 0, none⟩ = some (.int .i64 z)) (hbm : bx ≠ m) :
    Calls Tryz.prog 141 #[.map (some m), .func (.func 142) #[] #[.pointer (some ⟨bx, 0, none⟩)]] w fun e w' => e = .returned (.tuple #[]) ∧ St w' s m (retT T z) S ∧ Fr S w w' := by
  obtain ⟨p, a, d, SS, h1, h2, h3, h4⟩ := h.ex
  have hinj : ∀ t ∈ T, ∀ u ∈ T, p t.tr = p u.tr → t = u := fun t ht u hu e => by
    refine Classical.byContradiction fun hne => ?_
    have hk : t.tr ≠ u.tr := fun e2 => hne (by
      have g1 := getT_mem h.gr.srt ht
      have g2 := getT_mem h.gr.srt hu
      rw [e2, g2] at g1
      have := Option.some.inj g1
      obtain ⟨a1, b1⟩ := t
      obtain ⟨a2, b2⟩ := u
      simp only at e2 this
      rw [e2, this])
    exact h4 t ht u hu hk (p t.tr) (h2 t ht).sp (by rw [e]; exact (h2 u hu).sp)
  have hown := owns_turn (R' := ptIn p T) h1 (fun es he v y hv hm => by
    obtain ⟨a1, rfl, hy⟩ := ptElem_inv hv
    obtain ⟨kl, hm⟩ := hm
    have he2 : es = T.map (entT p) := by unfold mapT at he; exact (DataW.map.inj he).symm
    rw [he2] at hm
    obtain ⟨t, ht, e⟩ := List.mem_map.1 hm
    have e2 := (Prod.mk.inj e).2
    rw [hy] at e2
    simp only [DataW.held.injEq, Value.pointer.injEq] at e2
    subst e2
    rw [hy]
    simp only [ptIn, atB_mem hinj ht, Option.isSome_some, if_true])
  have eg : ∀ args w, (callFunc 142 args).run Tryz.prog w = .ok (.enter 142 args) w := enters_of Tryz.func142 (by kernel_rfl) rfl
  have hcon := AnyDf.maps_DeleteFunc Tryz.delA keyLaw (ptIn p T) (goneD p T z) 142 #[.pointer (some ⟨bx, 0, none⟩)] m _ (mapT p T) w eg hown (fun W key val kl yd yp hW hkey hv => by
    obtain ⟨x, rfl, rfl, _⟩ := keyOf_int_inv Tryz.underlying3 hkey
    obtain ⟨b, t, rfl, hb, hy⟩ := ptIn_inv hv
    obtain ⟨ht, hpt⟩ := atB_some hb
    have hyd : yd = .held (.pointer (some ⟨b, 0, none⟩)) := congrArg Prod.fst hy
    subst hyd
    have hfW : Fo W (p t.tr) (a t.tr) (d t.tr) t.tr t.L (SS t.tr) := (h2 t ht).fr (Fr.of_grown (S := fun k => k = m) hW (fun k hk => (Option.some.inj hk).symm)) (fun k hk e => (h3 t ht k hk).2.2 e)
    have hxW : W.cell? ⟨bx, 0, none⟩ = some (.int .i64 z) := by
      rw [← hx]
      have hbl := lt_of_cell hx
      simp only [World.cell?, hW.block bx hbl (by simp [hbm])]
    rw [hpt] at hfW
    have := gone_any hfW x z bx hxW
    have e : goneD p T z (.int .i64 x) (.held (.pointer (some ⟨b, 0, none⟩))) = decide (endL t.L < z) := by simp only [goneD, hb]
    rw [e]
    exact this)
  rw [gone_ret hinj] at hcon
  refine hcon.mono ?_
  rintro e w' ⟨rfl, hown2, hg⟩
  have hf : Fr (fun k => k = m) w w' := Fr.of_grown hg (fun k hk => (Option.some.inj hk).symm)
  have hown3 := owns_turn (R' := ptElem) hown2 (fun es _ v y hv _ => by
    obtain ⟨b, t, rfl, _, hy⟩ := ptIn_inv hv
    rw [hy]; rfl)
  rw [mapT_size] at hown3
  have hsub : ∀ t ∈ retT T z, t ∈ T := fun t ht => (List.mem_filter.1 ht).1
  refine ⟨rfl, ⟨(hf.block s (h.lt s h.ss) h.ne).trans h.hp, ⟨p, a, d, SS, hown3, fun t ht => (h2 t (hsub t ht)).fr hf (fun k hk e => (h3 t (hsub t ht) k hk).2.2 e), fun t ht => h3 t (hsub t ht), fun t ht u hu => h4 t (hsub t ht) u (hsub u hu)⟩, h.ss, h.sm, h.ne, h.gr.ret z, fun k hk => Nat.lt_of_lt_of_le (h.lt k hk) hf.size⟩, hf.mono (fun k hk => by rw [hk]; exact h.sm)⟩

/-- What Retain leaves. -/
def ResRet (w : World) (s m : Nat) (S : Nat → Prop) (T : List Tr) (z : Int) (e : Ending) (w' : World) : Prop :=
  e = .returned (.int .i64 ((T.length : Int) - ((retT T z).length : Int))) ∧ St w' s m (retT T z) S ∧ Fr S w w'
set_option maxRecDepth 100000 in
set_option maxHeartbeats 2000000 in
theorem retain_any {w : World} {s m : Nat} {T : List Tr} {S : Nat → Prop} (h : St w s m T S) (z : Int) :
    Calls Tryz.prog 116 #[.pointer (some ⟨s, 0, none⟩), .int .i64 z] w (ResRet w s m S T z) := by
  have hB : Below w.heap.size w (w.alloc (.cells #[.int .i64 z] 3)) := (Below.refl _ _).alloc (Nat.le_refl _) _
  have hst := h.below hB (Nat.le_refl _)
  have hsl := h.lt s h.ss
  have hml := h.lt m h.sm
  have hcs := blk_cell hst.hp
  have hlen := hst.len 3
  have hT32 := h.gr.len
  have hR32 := (h.gr.ret z).len
  have HM := Lib.hid (smade_any hst)
  have HD := Lib.hid (delete_any hst z w.heap.size (blk_cell (heap_alloc_new w _) 0) (by omega))
  have HB := Lib.hid hB
  clear h hst hB
  go_enter Tryz.func116, Tryz.ntmps116
  go_wp2_with fail
  refine HM.out.mono ?_
  rintro e w1 ⟨rfl, rfl⟩
  go_wp2_with fail
  refine HD.out.mono ?_
  rintro e w1 ⟨rfl, hst1, hfr1⟩
  have hc1 := blk_cell hst1.hp
  have hlen1 := hst1.len 3
  have HST := Lib.hid hst1
  have HFR := Lib.hid hfr1
  clear hcs hlen hst1 hfr1
  generalize hn : (retT T z).length = n at *
  have HN := Lib.hid hn
  clear hn
  go_wp2_with fail
  go_ret
  refine ⟨by rw [HN.out]; rfl, HST.out, (Fr.of_below HB.out).trans HFR.out⟩
end Go.Proofs.YtfjpenbahoeklaaGreatDoor
namespace Go.Proofs.YtfjpenbahoeklaaGreatDoor
open Go Go.RowKit Go.Maps

theorem fits_all {tr : Int} {L : List Sp} (h : Grown tr L) : (sortS L).all Sp.ok = true := List.all_eq_true.2 fun s hs => (fits_ok (h.fits s (sortS_mem.1 hs))).1
theorem putEnc_len {l : List Sp} (h : l.all Sp.ok = true) (hl : l.length ≤ 64) : (putEnc l).length ≤ 5600 := by
  have h1 := encL_len l (fun s hs => List.all_eq_true.1 h s hs)
  have h2 := (digits_len (n := l.length) (by omega)).2
  unfold putEnc
  rw [List.length_append]
  omega
theorem encT_len {t : Tr} (h : Grown t.tr t.L) : (encT t).length ≤ 5700 := by
  have h1 := putEnc_len (fits_all h) (by rw [sortS_len]; exact h.len)
  have h2 := (digits_len (n := (putEnc (sortS t.L)).length) (by omega)).2
  unfold encT
  rw [List.length_append]
  omega
theorem encTs_len {T : List Tr} (h : ∀ t ∈ T, Grown t.tr t.L) : (T.flatMap encT).length ≤ 5700 * T.length := by
  induction T with
  | nil => simp
  | cons t T ih =>
    have h1 := ih fun u hu => h u (by simp [hu])
    have h2 := encT_len (h t (by simp))
    rw [List.flatMap_cons, List.length_append, List.length_cons]; omega
theorem imgT_len {T : List Tr} (h : GrT T) : (imgT T).length ≤ 200000 := by
  have h1 := encTs_len fun t ht => (h.ok t ht).1
  have h2 := h.len
  have h3 := (digits_len (n := T.length) (by omega)).2
  unfold imgT
  rw [List.length_append]
  omega

end Go.Proofs.YtfjpenbahoeklaaGreatDoor
