/-
  The plain law of a forest's spans in another order: each is added, and the branches are the same. No condition.
  The plain law of a forest's branches: each span is laid once, beneath its parent. No condition.
-/
import Derived.Test.YtempkjnaahgbhaaGreatDoorForest4
import Derived.Test.YtempkjnaahgbhaaGreatDoorForest2
namespace Go.Proofs.YtempkjnaahgbhaaGreatDoor
open Go Go.RowKit

theorem atS_perm {L m : List Sp} (hn : (L.map Sp.id).Nodup) (hp : m.Perm L) (x : Int) : atS m x = atS L x := by
  have hnm : (m.map Sp.id).Nodup := ((hp.map Sp.id).nodup_iff).2 hn
  cases h : atS L x with
  | some s =>
    obtain ⟨h1, h2⟩ := atS_some h
    rw [← h2]; exact atS_mem hnm (hp.mem_iff.2 h1)
  | none =>
    cases h2 : atS m x with
    | none => rfl
    | some s =>
      obtain ⟨h3, h4⟩ := atS_some h2
      exact absurd h4 (atS_none h s (hp.mem_iff.1 h3))
theorem it_sub {L m : List Sp} (hn : (L.map Sp.id).Nodup) (hs : ∀ s ∈ m, s ∈ L) : ∀ (n : Nat) (x y : Int), it m n x = some y → it L n x = some y := by
  intro n
  induction n with
  | zero => intro x y h; exact h
  | succ n ih =>
    intro x y h
    obtain ⟨s, h1, h2⟩ := it_here h
    obtain ⟨h3, h4⟩ := atS_some h1
    have h5 := atS_mem hn (hs s h3)
    rw [h4] at h5
    rw [it_one h5]
    exact ih _ _ h2
/-- Each is added, one behind the other. -/
theorem add_each {L : List Sp} (hn : (L.map Sp.id).Nodup) (hA : Acy L) (hl : L.length ≤ 64) : ∀ (m2 m1 : List Sp) (c : Cnt), (m1 ++ m2).Perm L → addL (m1, c) m2 = (m1 ++ m2, { c with ad := c.ad + m2.length }) := by
  intro m2
  induction m2 with
  | nil => intro m1 c _; simp [addL]
  | cons s m2 ih =>
    intro m1 c hp
    have hlen := hp.length_eq
    simp only [List.length_append, List.length_cons] at hlen
    have hnm : ((m1 ++ s :: m2).map Sp.id).Nodup := ((hp.map Sp.id).nodup_iff).2 hn
    have hno : atS m1 s.id = none := by
      cases h : atS m1 s.id with
      | none => rfl
      | some t =>
        obtain ⟨h1, h2⟩ := atS_some h
        rw [List.map_append, List.nodup_append] at hnm
        exact absurd h2 (hnm.2.2 t.id (List.mem_map.2 ⟨t, h1, rfl⟩) s.id (by simp))
    have hab : aboveB m1 s.pa s.id = false := by
      cases h : aboveB m1 s.pa s.id with
      | false => rfl
      | true =>
        obtain ⟨k, hk⟩ := (aboveB_iff m1 s.pa s.id).1 h
        have hsL : s ∈ L := hp.mem_iff.1 (by simp)
        exact absurd (it_sub hn (fun t ht => hp.mem_iff.1 (by simp [ht])) k _ _ hk) (hA s hsL k)
    have h1 : addS (m1, c) s = (m1 ++ [s], { c with ad := c.ad + 1 }) := addS_add hno (by omega) hab
    show addL (addS (m1, c) s) m2 = _
    rw [h1, ih (m1 ++ [s]) _ (by simpa using hp)]
    simp only [List.append_assoc, List.cons_append, List.nil_append, List.length_cons]
    congr 2
    omega
theorem add_order {tr : Int} {L m : List Sp} (h : Grown tr L) (hp : m.Perm L) : addA tr [] m = (m, ⟨m.length, 0, 0, 0, 0⟩, 0) := by
  have hf : m.all (fits tr) = true := List.all_eq_true.2 fun s hs => h.fits s (hp.mem_iff.1 hs)
  rw [addA, if_pos hf, add_each h.nodup h.acy h.len m [] Cnt.zero (by simpa using hp)]
  simp [Cnt.zero]
theorem layL_order {L m : List Sp} (hn : (L.map Sp.id).Nodup) (hp : m.Perm L) : ∀ (n dp : Nat) (o : Bool) (ids ids' : List Int), ids.Perm ids' → layL m n dp o ids = layL L n dp o ids' := by
  intro n
  induction n with
  | zero => intro dp o ids ids' _; rfl
  | succ n ih =>
    intro dp o ids ids' hi
    have hg : getS m = getS L := funext fun x => by rw [getS, getS, atS_perm hn hp]
    rw [layL, layL, hg, sortS_congr (hi.map _)]
    congr 1
    funext s
    rw [ih (dp + 1) false (kidIds m s.id) (kidIds L s.id) ((hp.filter _).map _)]
theorem branches_order {L m : List Sp} (hn : (L.map Sp.id).Nodup) (hp : m.Perm L) : branches m = branches L := by
  rw [branches, branches, hp.length_eq]
  have hlo : isLost m = isLost L := funext fun s => by rw [isLost, isLost, atS_perm hn hp]
  rw [layL_order hn hp _ _ _ (kidIds m 0) (kidIds L 0) ((hp.filter _).map _), layL_order hn hp _ _ _ (lost m) (lost L) (by rw [lost, lost, hlo]; exact (hp.filter _).map _)]
theorem lost_mem {L : List Sp} (hn : (L.map Sp.id).Nodup) : ∀ i ∈ lost L, ∃ s, atS L i = some s := fun i hi => by
  obtain ⟨s, hs, rfl⟩ := List.mem_map.1 hi
  exact ⟨s, atS_mem hn (List.mem_filter.1 hs).1⟩
theorem branches_len {tr : Int} {L : List Sp} (h : Grown tr L) : (branches L).length ≤ 140737488355328 := by
  have h1 := laid_le h.nodup h.acy (n := L.length + 1) (dp := 0) (o := false) (fine_ids h.nodup h.acy (fun i hi => let ⟨s, hs, _⟩ := kid_mem h.nodup hi; ⟨s, hs⟩)) (kids_anti h.nodup h.acy 0)
  have h2 := laid_le h.nodup h.acy (n := L.length + 1) (dp := 0) (o := true) (fine_ids h.nodup h.acy (lost_mem h.nodup)) (lost_anti h.nodup (List.Perm.refl _))
  have h3 := h.len
  rw [branches, List.length_append]
  omega
end Go.Proofs.YtempkjnaahgbhaaGreatDoor
namespace Go.Proofs.YtempkjnaahgbhaaGreatDoor
open Go Go.RowKit

/-- On the way up one meets no more spans than there are. -/
theorem up_lt {L : List Sp} (hA : Acy L) {n : Nat} {x y : Int} (h : it L n x = some y) {u : Sp} (hu : atS L y = some u) : n < L.length := by
  refine Classical.byContradiction fun hge => ?_
  have hpos : ∀ k, k < n + 1 → ∃ z, it L k x = some z ∧ z ∈ L.map Sp.id := fun k hk => by
    by_cases hkn : k = n
    · subst hkn
      exact ⟨y, h, List.mem_map.2 ⟨u, (atS_some hu).1, (atS_some hu).2⟩⟩
    · obtain ⟨z, h1, h2⟩ := it_pre h (show k ≤ n by omega)
      rw [show n - k = (n - k - 1) + 1 by omega] at h2
      obtain ⟨s, hs, _⟩ := it_here h2
      exact ⟨z, h1, List.mem_map.2 ⟨s, (atS_some hs).1, (atS_some hs).2⟩⟩
  have hnd : ¬ ((List.range (n + 1)).map fun k => (it L k x).getD 0).Nodup := fun hd => by
    have := nodup_le hd (M := L.map Sp.id) (fun z hz => by
      obtain ⟨k, hk, rfl⟩ := List.mem_map.1 hz
      obtain ⟨z, h1, h2⟩ := hpos k (List.mem_range.1 hk)
      rw [h1]; exact h2)
    simp at this; omega
  refine hnd ?_
  refine List.pairwise_iff_getElem.2 fun i j hi hj hij => ?_
  simp only [List.length_map, List.length_range] at hi hj
  simp only [List.getElem_map, List.getElem_range]
  intro e
  obtain ⟨z, h1, hz⟩ := hpos i hi
  obtain ⟨z', h2, _⟩ := hpos j hj
  rw [h1, h2] at e
  have e : z = z' := e
  subst e
  obtain ⟨z2, h3, h4⟩ := it_pre h2 (Nat.le_of_lt hij)
  rw [h1] at h3
  cases h3
  rw [show j - i = (j - i - 1) + 1 by omega] at h4
  obtain ⟨v, hv, h5⟩ := it_here h4
  have hid := (atS_some hv).2
  rw [← hid] at h5
  exact hA v (atS_some hv).1 _ h5

theorem flat_split {α β : Type} (f : α → List β) : ∀ (l : List α) (pre : List β) (x : β) (post : List β), l.flatMap f = pre ++ x :: post → ∃ l1 s l2 p q, l = l1 ++ s :: l2 ∧ f s = p ++ x :: q ∧ pre = l1.flatMap f ++ p := by
  intro l
  induction l with
  | nil => intro pre x post h; simp at h
  | cons a l ih =>
    intro pre x post h
    rw [List.flatMap_cons] at h
    rcases List.append_eq_append_iff.1 h with ⟨t, h1, h2⟩ | ⟨t, h1, h2⟩
    · obtain ⟨l1, s, l2, p, q, e1, e2, e3⟩ := ih t x post h2
      exact ⟨a :: l1, s, l2, p, q, by rw [e1]; rfl, e2, by rw [h1, e3, List.flatMap_cons, List.append_assoc]⟩
    · cases t with
      | nil =>
        simp only [List.append_nil] at h1
        simp only [List.nil_append] at h2
        obtain ⟨l1, s, l2, p, q, e1, e2, e3⟩ := ih [] x post (by rw [← h2]; rfl)
        exact ⟨a :: l1, s, l2, p, q, by rw [e1]; rfl, e2, by rw [List.flatMap_cons, List.append_assoc, ← e3, h1, List.append_nil]⟩
      | cons b t =>
        injection h2 with h3 h4
        subst h3
        exact ⟨[], a, l, pre, t, rfl, h1, rfl⟩
/-- The nearest one ahead that stands less deep is the parent. -/
def Up (pre : List Br) (x : Br) : Prop := ∃ p1 y p2, pre = p1 ++ y :: p2 ∧ y.dp + 1 = x.dp ∧ y.sp.id = x.sp.pa ∧ ∀ z ∈ p2, x.dp ≤ z.dp
theorem Up.ext {pre : List Br} {x : Br} (h : Up pre x) (q : List Br) : Up (q ++ pre) x := by
  obtain ⟨p1, y, p2, rfl, h1, h2, h3⟩ := h
  exact ⟨q ++ p1, y, p2, by rw [List.append_assoc], h1, h2, h3⟩
theorem layL_deep {L : List Sp} : ∀ (n dp : Nat) (o : Bool) (ids : List Int), ∀ z ∈ layL L n dp o ids, dp ≤ z.dp := by
  intro n
  induction n with
  | zero => intro dp o ids z hz; cases hz
  | succ n ih =>
    intro dp o ids z hz
    rw [layL] at hz
    obtain ⟨s, _, hz⟩ := List.mem_flatMap.1 hz
    rcases List.mem_cons.1 hz with rfl | hz
    · exact Nat.le_refl _
    · have := ih (dp + 1) false _ z hz; omega
theorem layL_nest {L : List Sp} (hn : (L.map Sp.id).Nodup) : ∀ (n dp : Nat) (o : Bool) (ids : List Int), Fine L n ids → ∀ pre x post, layL L n dp o ids = pre ++ x :: post → (x.dp = dp ∧ x.orp = o ∧ x.sp.id ∈ ids ∧ atS L x.sp.id = some x.sp) ∨ (dp < x.dp ∧ x.orp = false ∧ Up pre x) := by
  intro n
  induction n with
  | zero => intro dp o ids _ pre x post h; simp [layL] at h
  | succ n ih =>
    intro dp o ids hf pre x post h
    rw [layL] at h
    obtain ⟨l1, s, l2, p, q, e1, e2, e3⟩ := flat_split _ _ _ _ _ h
    have hs : s ∈ sortS (ids.map (getS L)) := by rw [e1]; simp
    obtain ⟨hat, hfk⟩ := hf.kid hs
    obtain ⟨i, hi, hgi⟩ := List.mem_map.1 (sortS_mem.1 hs)
    obtain ⟨⟨t, ht⟩, _⟩ := hf i hi
    have hti : getS L i = t := by rw [getS, ht]; rfl
    have hid : s.id = i := by rw [← hgi, hti]; exact (atS_some ht).2
    cases p with
    | nil =>
      injection e2 with e4 _
      subst e4
      exact .inl ⟨rfl, rfl, by show s.id ∈ ids; rw [hid]; exact hi, hat⟩
    | cons b p =>
      injection e2 with e4 e5
      subst e4
      have hdeep : ∀ z ∈ p, dp + 1 ≤ z.dp := fun z hz => layL_deep n (dp + 1) false (kidIds L s.id) z (by rw [e5]; simp [hz])
      rcases ih (dp + 1) false (kidIds L s.id) hfk p x q e5 with ⟨h1, h2, h3, h4⟩ | ⟨h1, h2, h3⟩
      · refine .inr ⟨by omega, h2, ?_⟩
        rw [e3]
        obtain ⟨v, hv, hvp, _⟩ := kid_mem hn h3
        rw [h4] at hv
        cases hv
        exact Up.ext ⟨[], _, p, rfl, by simp only []; omega, by simp only []; exact hvp.symm, fun z hz => by have := hdeep z hz; omega⟩ _
      · refine .inr ⟨by omega, h2, ?_⟩
        rw [e3, show (⟨dp, o, s⟩ : Br) :: p = [⟨dp, o, s⟩] ++ p from rfl, ← List.append_assoc]
        exact h3.ext _
theorem nodup_of_map {L : List Sp} (h : (L.map Sp.id).Nodup) : L.Nodup := (List.pairwise_map.1 h).imp fun hne e => hne (congrArg _ e)
theorem laid_all {L : List Sp} : ∀ (n dp : Nat) (o : Bool) (ids : List Int), Fine L n ids → ∀ (m : Nat) (u : Sp) (i : Int), atS L u.id = some u → i ∈ ids → it L m u.id = some i → u ∈ laid L n dp o ids := by
  intro n
  induction n with
  | zero => intro dp o ids hf m u i _ hi _; have : ids = [] := hf; rw [this] at hi; cases hi
  | succ n ih =>
    intro dp o ids hf m u i hu hi hm
    obtain ⟨⟨s, hs⟩, hfk⟩ := hf i hi
    have hsi : getS L i = s := by rw [getS, hs]; rfl
    have hsid := (atS_some hs).2
    have hss : s ∈ sortS (ids.map (getS L)) := sortS_mem.2 (List.mem_map.2 ⟨i, hi, hsi⟩)
    rw [laid_succ]
    refine List.mem_flatMap.2 ⟨s, hss, ?_⟩
    cases m with
    | zero =>
      have h1 : u.id = i := Option.some.inj hm
      rw [h1, hs] at hu
      cases hu
      exact List.mem_cons_self
    | succ m =>
      refine List.mem_cons_of_mem _ ?_
      obtain ⟨j, h1, h2⟩ := it_pre hm (show m ≤ m + 1 by omega)
      rw [show m + 1 - m = 0 + 1 by omega] at h2
      obtain ⟨v, hv, h3⟩ := it_here h2
      have hvp : v.pa = i := Option.some.inj h3
      have hvid := (atS_some hv).2
      rw [hsid]
      exact ih (dp + 1) false (kidIds L i) hfk m u j hu (List.mem_map.2 ⟨v, List.mem_filter.2 ⟨(atS_some hv).1, by simp [hvp]⟩, hvid⟩) h1
theorem root_of {L : List Sp} (hA : Acy L) {x : Int} : ∀ (f n : Nat) (y : Int) (v : Sp), L.length ≤ f + n → it L n x = some y → atS L y = some v → ∃ m r, it L m x = some r ∧ (r ∈ kidIds L 0 ∨ r ∈ lost L) := by
  intro f
  induction f with
  | zero => intro n y v hf hit hv; have := up_lt hA hit hv; omega
  | succ f ih =>
    intro n y v hf hit hv
    obtain ⟨hvm, hvid⟩ := atS_some hv
    by_cases h0 : v.pa = 0
    · exact ⟨n, y, hit, .inl (List.mem_map.2 ⟨v, List.mem_filter.2 ⟨hvm, by simp [h0]⟩, hvid⟩)⟩
    · cases hp : atS L v.pa with
      | none => exact ⟨n, y, hit, .inr (List.mem_map.2 ⟨v, List.mem_filter.2 ⟨hvm, by simp [isLost, h0, hp]⟩, hvid⟩)⟩
      | some u =>
        refine ih (n + 1) v.pa u (by omega) ?_ hp
        rw [it_add, hit]
        show it L 1 y = _
        rw [it_one hv]; rfl
theorem top_fine {tr : Int} {L : List Sp} (h : Grown tr L) : Fine L (L.length + 1) (kidIds L 0) := fine_ids h.nodup h.acy (fun _ hi => let ⟨s, hs, _⟩ := kid_mem h.nodup hi; ⟨s, hs⟩)
theorem lost_fine {tr : Int} {L : List Sp} (h : Grown tr L) : Fine L (L.length + 1) (lost L) := fine_ids h.nodup h.acy (lost_mem h.nodup)
theorem no_zero {tr : Int} {L : List Sp} (h : Grown tr L) : atS L 0 = none := by
  cases e : atS L 0 with
  | none => rfl
  | some s =>
    obtain ⟨h1, h2⟩ := atS_some e
    have := ok_bounds (fits_ok (h.fits s h1)).1
    omega
theorem top_lost {tr : Int} {L : List Sp} (h : Grown tr L) {x i j : Int} {m n : Nat} (hi : i ∈ kidIds L 0) (hj : j ∈ lost L) (h1 : it L m x = some i) (h2 : it L n x = some j) : False := by
  obtain ⟨s, hs, hsp, _⟩ := kid_mem h.nodup hi
  obtain ⟨t, ht, rfl⟩ := List.mem_map.1 hj
  obtain ⟨htm, htl⟩ := List.mem_filter.1 ht
  have hta := atS_mem h.nodup htm
  simp only [isLost, Bool.and_eq_true, Option.isNone_iff_eq_none, decide_eq_true_eq, ne_eq] at htl
  rcases Nat.le_total m n with hle | hle
  · obtain ⟨z, h3, h4⟩ := it_pre h2 hle
    rw [h1] at h3
    cases h3
    cases hk : n - m with
    | zero =>
      rw [hk] at h4
      have e : i = t.id := Option.some.inj h4
      rw [e, hta] at hs
      cases hs
      exact htl.1 hsp
    | succ k =>
      rw [hk, it_one hs, hsp] at h4
      cases k with
      | zero =>
        have e : 0 = t.id := Option.some.inj h4
        rw [← e, no_zero h] at hta
        cases hta
      | succ k =>
        obtain ⟨u, hu, _⟩ := it_here h4
        rw [no_zero h] at hu
        cases hu
  · obtain ⟨z, h3, h4⟩ := it_pre h1 hle
    rw [h2] at h3
    cases h3
    cases hk : m - n with
    | zero =>
      rw [hk] at h4
      have e : t.id = i := Option.some.inj h4
      rw [← e, hta] at hs
      cases hs
      exact htl.1 hsp
    | succ k =>
      rw [hk, it_one hta] at h4
      cases k with
      | zero =>
        have e : t.pa = i := Option.some.inj h4
        rw [← e, htl.2] at hs
        cases hs
      | succ k =>
        obtain ⟨u, hu, _⟩ := it_here h4
        rw [htl.2] at hu
        cases hu
/-- The branches have each span once. -/
theorem branches_perm {tr : Int} {L : List Sp} (h : Grown tr L) : ((branches L).map Br.sp).Perm L := by
  have hn := h.nodup
  have e : (branches L).map Br.sp = laid L (L.length + 1) 0 false (kidIds L 0) ++ laid L (L.length + 1) 0 true (lost L) := by rw [branches, List.map_append]; rfl
  have hnd : (((branches L).map Br.sp).map Sp.id).Nodup := by
    rw [e, List.map_append, List.nodup_append]
    refine ⟨laid_nodup hn h.acy _ _ _ _ (top_fine h) (kids_anti hn h.acy 0), laid_nodup hn h.acy _ _ _ _ (lost_fine h) (lost_anti hn (List.Perm.refl _)), ?_⟩
    intro x hx y hy hxy
    subst hxy
    obtain ⟨u, hu, rfl⟩ := List.mem_map.1 hx
    obtain ⟨v, hv, hvu⟩ := List.mem_map.1 hy
    obtain ⟨_, _, hi, m, hm⟩ := laid_under hn _ _ _ _ (top_fine h) u hu
    obtain ⟨_, _, hj, k, hk⟩ := laid_under hn _ _ _ _ (lost_fine h) v hv
    rw [hvu] at hk
    exact top_lost h hi hj hm hk
  refine (List.perm_ext_iff_of_nodup (nodup_of_map hnd) (nodup_of_map hn)).2 fun u => ⟨fun hu => ?_, fun hu => ?_⟩
  · rw [e] at hu
    rcases List.mem_append.1 hu with hu | hu
    · exact (laid_under hn _ _ _ _ (top_fine h) u hu).1
    · exact (laid_under hn _ _ _ _ (lost_fine h) u hu).1
  · have hat := atS_mem hn hu
    obtain ⟨m, r, hm, hr⟩ := root_of h.acy L.length 0 u.id u (by omega) rfl hat
    rw [e]
    rcases hr with hr | hr
    · exact List.mem_append.2 (.inl (laid_all _ _ _ _ (top_fine h) m u r hat hr hm))
    · exact List.mem_append.2 (.inr (laid_all _ _ _ _ (lost_fine h) m u r hat hr hm))
/-- Each stands where it should. -/
theorem branches_place {tr : Int} {L : List Sp} (h : Grown tr L) {pre : List Br} {x : Br} {post : List Br} (e : branches L = pre ++ x :: post) :
    x.sp ∈ L ∧ x.orp = (decide (x.sp.pa ≠ 0) && !(atS L x.sp.pa).isSome) ∧ ((x.dp = 0 ∧ (atS L x.sp.pa).isSome = false) ∨ (0 < x.dp ∧ (atS L x.sp.pa).isSome = true ∧ Up pre x)) := by
  have hn := h.nodup
  have hmem : ∀ y ∈ branches L, y.sp ∈ L := fun y hy => (branches_perm h).mem_iff.1 (List.mem_map.2 ⟨y, hy, rfl⟩)
  have hx : x.sp ∈ L := hmem x (by rw [e]; simp)
  have hup : x.orp = false → Up pre x → x.orp = (decide (x.sp.pa ≠ 0) && !(atS L x.sp.pa).isSome) ∧ (atS L x.sp.pa).isSome = true := by
    rintro ho ⟨p1, y, p2, rfl, h1, h2, _⟩
    have hy : y.sp ∈ L := hmem y (by rw [e]; simp)
    rw [← h2, atS_mem hn hy, ho]
    simp
  refine ⟨hx, ?_⟩
  rw [branches] at e
  rcases List.append_eq_append_iff.1 e with ⟨t, h1, h2⟩ | ⟨t, h1, h2⟩
  · rcases layL_nest hn _ _ _ _ (lost_fine h) t x post h2 with ⟨g1, g2, g3, g4⟩ | ⟨g1, g2, g3⟩
    · obtain ⟨s, hs, hsi⟩ := List.mem_map.1 g3
      obtain ⟨hsm, hsl⟩ := List.mem_filter.1 hs
      have := atS_mem hn hsm
      rw [hsi, g4] at this
      cases this
      simp only [isLost, Bool.and_eq_true, Option.isNone_iff_eq_none, decide_eq_true_eq, ne_eq] at hsl
      rw [g2, hsl.2]
      exact ⟨by simp [hsl.1], .inl ⟨g1, rfl⟩⟩
    · have g4 := g3.ext (layL L (L.length + 1) 0 false (kidIds L 0))
      rw [← h1] at g4
      obtain ⟨g5, g6⟩ := hup g2 g4
      exact ⟨g5, .inr ⟨g1, g6, g4⟩⟩
  · cases t with
    | nil =>
      simp only [List.append_nil] at h1
      simp only [List.nil_append] at h2
      rcases layL_nest hn _ _ _ _ (lost_fine h) [] x post h2.symm with ⟨g1, g2, g3, g4⟩ | ⟨g1, g2, g3⟩
      · obtain ⟨s, hs, hsi⟩ := List.mem_map.1 g3
        obtain ⟨hsm, hsl⟩ := List.mem_filter.1 hs
        have := atS_mem hn hsm
        rw [hsi, g4] at this
        cases this
        simp only [isLost, Bool.and_eq_true, Option.isNone_iff_eq_none, decide_eq_true_eq, ne_eq] at hsl
        rw [g2, hsl.2]
        exact ⟨by simp [hsl.1], .inl ⟨g1, rfl⟩⟩
      · have g4 := g3.ext pre
        rw [List.append_nil] at g4
        obtain ⟨g5, g6⟩ := hup g2 g4
        exact ⟨g5, .inr ⟨g1, g6, g4⟩⟩
    | cons b t =>
      injection h2 with h3 h4
      subst h3
      rcases layL_nest hn _ _ _ _ (top_fine h) pre x t h1 with ⟨g1, g2, g3, g4⟩ | ⟨g1, g2, g3⟩
      · obtain ⟨s, hs, hsp, _⟩ := kid_mem hn g3
        rw [g4] at hs
        cases hs
        rw [hsp, no_zero h, g2]
        exact ⟨rfl, .inl ⟨g1, rfl⟩⟩
      · obtain ⟨g5, g6⟩ := hup g2 g3
        exact ⟨g5, .inr ⟨g1, g6, g3⟩⟩
theorem layL_below {L : List Sp} : ∀ (n dp : Nat) (o : Bool) (ids : List Int), ∀ z ∈ layL L n dp o ids, z.dp < dp + n := by
  intro n
  induction n with
  | zero => intro dp o ids z hz; cases hz
  | succ n ih =>
    intro dp o ids z hz
    rw [layL] at hz
    obtain ⟨s, _, hz⟩ := List.mem_flatMap.1 hz
    rcases List.mem_cons.1 hz with rfl | hz
    · show dp < dp + (n + 1); omega
    · have := ih (dp + 1) false _ z hz; omega
theorem branches_dp (L : List Sp) : ∀ z ∈ branches L, z.dp ≤ L.length := by
  intro z hz
  rw [branches] at hz
  rcases List.mem_append.1 hz with hz | hz
  · have := layL_below _ _ _ _ z hz; omega
  · have := layL_below _ _ _ _ z hz; omega
/-- The same at an index. -/
def Placed (L : List Sp) (bs : List Br) : Prop := ∀ (i : Nat) (hi : i < bs.length),
    bs[i].sp ∈ L ∧ bs[i].orp = (decide (bs[i].sp.pa ≠ 0) && !(atS L bs[i].sp.pa).isSome) ∧
      ((bs[i].dp = 0 ∧ (atS L bs[i].sp.pa).isSome = false) ∨ (0 < bs[i].dp ∧ (atS L bs[i].sp.pa).isSome = true ∧
        ∃ (k : Nat) (hk : k < i), bs[k].dp + 1 = bs[i].dp ∧ bs[k].sp.id = bs[i].sp.pa ∧ ∀ (j : Nat) (hj : j < i), k < j → bs[i].dp ≤ bs[j].dp))
theorem branches_at {tr : Int} {L : List Sp} (h : Grown tr L) : Placed L (branches L) := by
  intro i hi
  have e : branches L = (branches L).take i ++ (branches L)[i] :: (branches L).drop (i + 1) := by rw [← List.drop_eq_getElem_cons hi, List.take_append_drop]
  obtain ⟨h1, h2, h3⟩ := branches_place h e
  refine ⟨h1, h2, h3.imp id ?_⟩
  rintro ⟨g1, g2, p1, y, p2, g3, g4, g5, g6⟩
  have hl : ((branches L).take i).length = i := by simp; omega
  have hk : p1.length < i := by rw [← hl, g3]; simp
  have hget : ∀ (j : Nat) (hj : j < i), (branches L)[j] = (p1 ++ y :: p2)[j]'(by rw [← g3]; simp; omega) := fun j hj => by
    rw [← List.getElem_take (h := by simp; omega) (j := i)]
    simp only [g3]
  refine ⟨g1, g2, p1.length, hk, ?_, ?_, ?_⟩
  · rw [hget _ hk]; simp; exact g4
  · rw [hget _ hk]; simp; exact g5
  · intro j hj hkj
    rw [hget _ hj]
    refine g6 _ ?_
    rw [List.getElem_append_right (by omega)]
    obtain ⟨q, hq⟩ : ∃ q, j - p1.length = q + 1 := ⟨j - p1.length - 1, by omega⟩
    simp only [hq, List.getElem_cons_succ]
    exact List.getElem_mem _
end Go.Proofs.YtempkjnaahgbhaaGreatDoor
