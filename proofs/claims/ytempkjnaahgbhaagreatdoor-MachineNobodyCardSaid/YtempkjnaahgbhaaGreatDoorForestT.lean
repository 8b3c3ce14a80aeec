/-
  The plain side of a forest's branches: what lay lays. No condition.
  The plain law of a forest's branches: nobody stands above itself; what is laid are spans of the forest, each once. No condition.
-/
import Derived.Test.YtempkjnaahgbhaaGreatDoorForestP
namespace Go.Proofs.YtempkjnaahgbhaaGreatDoor
open Go.RowKit

/-- A branch. -/
structure Br where
  dp : Nat
  orp : Bool
  sp : Sp
instance : Inhabited Br := ⟨⟨0, false, default⟩⟩
def Br.cells (b : Br) : List Value := [.int .i64 b.dp, .bool b.orp, .int .i64 b.sp.tr, .int .i64 b.sp.id, .int .i64 b.sp.pa, .int .i64 b.sp.st, .int .i64 b.sp.en, .string b.sp.nm]
theorem Br.cells_len (b : Br) : b.cells.length = 8 := rfl
theorem br_one (b : Br) : ∀ u ∈ b.cells, u.oneCell' = true := by
  intro u hu
  simp only [Br.cells, List.mem_cons, List.not_mem_nil, or_false] at hu
  rcases hu with rfl | rfl | rfl | rfl | rfl | rfl | rfl | rfl <;> rfl
/-- Spans and what stands beneath them. -/
def layL (L : List Sp) : Nat → Nat → Bool → List Int → List Br
  | 0, _, _, _ => []
  | n + 1, dp, o, ids => (sortS (ids.map (getS L))).flatMap fun s => ⟨dp, o, s⟩ :: layL L n (dp + 1) false (kidIds L s.id)
/-- Beneath these stands nobody more than n deep; they are all there. -/
def Fine (L : List Sp) : Nat → List Int → Prop
  | 0, ids => ids = []
  | n + 1, ids => ∀ i ∈ ids, (∃ s, atS L i = some s) ∧ Fine L n (kidIds L i)
theorem Fine.kid {L : List Sp} {n : Nat} {ids : List Int} (h : Fine L (n + 1) ids) {s : Sp} (hs : s ∈ sortS (ids.map (getS L))) : atS L s.id = some s ∧ Fine L n (kidIds L s.id) := by
  obtain ⟨i, hi, rfl⟩ := List.mem_map.1 (sortS_mem.1 hs)
  obtain ⟨⟨s, h1⟩, h2⟩ := h i hi
  have h3 := (atS_some h1).2
  have h4 : getS L i = s := by rw [getS, h1]; rfl
  rw [h4, h3]
  exact ⟨h1, h2⟩
theorem layL_nil (L : List Sp) (n dp : Nat) (o : Bool) : layL L n dp o [] = [] := by
  cases n with
  | zero => rfl
  | succ n =>
    have : sortS ([].map (getS L)) = [] := List.length_eq_zero_iff.1 (sortS_len _)
    rw [layL, this]; rfl
/-- What is still to be laid, when k of the spans are. -/
def layR (L : List Sp) (n dp : Nat) (o : Bool) (l : List Sp) (k : Nat) : List Br := (l.drop k).flatMap fun s => ⟨dp, o, s⟩ :: layL L n (dp + 1) false (kidIds L s.id)
theorem layR_step (L : List Sp) (n dp : Nat) (o : Bool) (l : List Sp) (k : Nat) (hk : k < l.length) : layR L n dp o l k = (⟨dp, o, l[k]⟩ :: layL L n (dp + 1) false (kidIds L l[k].id)) ++ layR L n dp o l (k + 1) := by
  unfold layR
  rw [List.drop_eq_getElem_cons hk, List.flatMap_cons]
theorem layR_end (L : List Sp) (n dp : Nat) (o : Bool) (l : List Sp) (k : Nat) (hk : l.length ≤ k) : layR L n dp o l k = [] := by
  unfold layR; rw [List.drop_of_length_le hk]; rfl
end Go.Proofs.YtempkjnaahgbhaaGreatDoor
namespace Go.Proofs.YtempkjnaahgbhaaGreatDoor
open Go.RowKit

/-- n steps up from a number. -/
def it (L : List Sp) : Nat → Int → Option Int
  | 0, x => some x
  | n + 1, x => (atS L x).bind fun s => it L n s.pa
theorem it_add (L : List Sp) (m n : Nat) (x : Int) : it L (m + n) x = (it L m x).bind (it L n) := by
  induction m generalizing x with
  | zero => rw [Nat.zero_add]; rfl
  | succ m ih =>
    rw [show m + 1 + n = (m + n) + 1 by omega]
    simp only [it]
    cases atS L x with
    | none => rfl
    | some s => exact ih s.pa
theorem it_one {L : List Sp} {x : Int} {s : Sp} (h : atS L x = some s) (n : Nat) : it L (n + 1) x = it L n s.pa := by simp only [it, h]; rfl
theorem it_pre {L : List Sp} {n : Nat} {x y : Int} (h : it L n x = some y) {k : Nat} (hk : k ≤ n) : ∃ z, it L k x = some z ∧ it L (n - k) z = some y := by
  rw [show n = k + (n - k) by omega, it_add] at h
  cases hz : it L k x with
  | none => rw [hz] at h; cases h
  | some z => rw [hz] at h; exact ⟨z, rfl, h⟩
theorem it_here {L : List Sp} {n : Nat} {x y : Int} (h : it L (n + 1) x = some y) : ∃ s, atS L x = some s ∧ it L n s.pa = some y := by
  simp only [it] at h
  cases hs : atS L x with
  | none => rw [hs] at h; cases h
  | some s => rw [hs] at h; exact ⟨s, rfl, h⟩
theorem nodup_le {U M : List Int} (hn : U.Nodup) (hs : ∀ x ∈ U, x ∈ M) : U.length ≤ M.length := by
  induction U generalizing M with
  | nil => simp
  | cons a U ih =>
    obtain ⟨h1, h2⟩ := List.nodup_cons.1 hn
    have ha := hs a (by simp)
    have h3 := ih h2 (M := M.erase a) (fun x hx => (List.mem_erase_of_ne (fun e => h1 (by rw [← e]; exact hx))).2 (hs x (by simp [hx])))
    rw [List.length_erase_of_mem ha] at h3
    have : 0 < M.length := List.length_pos_of_mem ha
    simp only [List.length_cons]; omega
/-- Who can be reached can be reached in no more steps than there are spans. -/
theorem it_small {L : List Sp} : ∀ (n : Nat) {x y : Int}, it L n x = some y → ∃ m, m ≤ L.length ∧ m ≤ n ∧ it L m x = some y := by
  intro n
  induction n using Nat.strongRecOn with
  | _ n ih =>
    intro x y h
    by_cases hn : n ≤ L.length
    · exact ⟨n, hn, Nat.le_refl _, h⟩
    · have hpos : ∀ k, k < n → ∃ z, it L k x = some z ∧ z ∈ L.map Sp.id := fun k hk => by
        obtain ⟨z, h1, h2⟩ := it_pre h (Nat.le_of_lt hk)
        rw [show n - k = (n - k - 1) + 1 by omega] at h2
        obtain ⟨s, hs, _⟩ := it_here h2
        exact ⟨z, h1, List.mem_map.2 ⟨s, (atS_some hs).1, (atS_some hs).2⟩⟩
      have hnd : ¬ ((List.range n).map fun k => (it L k x).getD 0).Nodup := fun hd => by
        have := nodup_le hd (M := L.map Sp.id) (fun z hz => by
          obtain ⟨k, hk, rfl⟩ := List.mem_map.1 hz
          obtain ⟨z, h1, h2⟩ := hpos k (List.mem_range.1 hk)
          rw [h1]; exact h2)
        simp at this; omega
      have : ∃ i j, i < j ∧ j < n ∧ it L i x = it L j x := by
        refine Classical.byContradiction fun hc => hnd ?_
        refine List.pairwise_iff_getElem.2 fun i j hi hj hij => ?_
        simp only [List.length_map, List.length_range] at hi hj
        simp only [List.getElem_map, List.getElem_range]
        intro e
        obtain ⟨z, h1, _⟩ := hpos i hi
        obtain ⟨z', h2, _⟩ := hpos j hj
        rw [h1, h2] at e
        exact hc ⟨i, j, hij, hj, by rw [h1, h2]; exact congrArg some e⟩
      obtain ⟨i, j, hij, hj, e⟩ := this
      obtain ⟨z, h1, h2⟩ := it_pre h (Nat.le_of_lt hj)
      have h3 : it L (i + (n - j)) x = some y := by rw [it_add, e, h1]; exact h2
      obtain ⟨m, a1, a2, a3⟩ := ih (i + (n - j)) (by omega) h3
      exact ⟨m, a1, by omega, a3⟩
theorem aboveN_iff (L : List Sp) (n : Nat) (x y : Int) : aboveN L n x y = true ↔ ∃ m, m < n ∧ it L m x = some y := by
  induction n generalizing x with
  | zero => simp [aboveN]
  | succ n ih =>
    rw [aboveN]
    by_cases h : x = y
    · rw [if_pos h]; exact ⟨fun _ => ⟨0, by omega, congrArg some h⟩, fun _ => rfl⟩
    · rw [if_neg h]
      cases hs : atS L x with
      | none =>
        constructor
        · intro h; cases h
        · rintro ⟨m, hm, h2⟩
          cases m with
          | zero => exact absurd (Option.some.inj h2) h
          | succ m => obtain ⟨s, h3, _⟩ := it_here h2; rw [hs] at h3; cases h3
      | some s =>
        show aboveN L n s.pa y = true ↔ _
        rw [ih]
        constructor
        · rintro ⟨m, hm, h2⟩; exact ⟨m + 1, by omega, by rw [it_one hs]; exact h2⟩
        · rintro ⟨m, hm, h2⟩
          cases m with
          | zero => exact absurd (Option.some.inj h2) h
          | succ m => rw [it_one hs] at h2; exact ⟨m, by omega, h2⟩
theorem aboveB_iff (L : List Sp) (x y : Int) : aboveB L x y = true ↔ ∃ m, it L m x = some y := by
  rw [aboveB, aboveN_iff]
  constructor
  · rintro ⟨m, _, h⟩; exact ⟨m, h⟩
  · rintro ⟨m, h⟩
    obtain ⟨k, h1, _, h2⟩ := it_small m h
    exact ⟨k, by omega, h2⟩
/-- Nobody stands above itself. -/
def Acy (L : List Sp) : Prop := ∀ s ∈ L, ∀ n, it L n s.pa ≠ some s.id
theorem atS_old {L : List Sp} {t : Sp} {x : Int} (h : x ≠ t.id) : atS (L ++ [t]) x = atS L x := by
  rw [atS_snoc, if_neg (Ne.symm h)]; cases atS L x <;> rfl
theorem it_new {L : List Sp} {t : Sp} (hn : atS L t.id = none) : ∀ (n : Nat) (x y : Int), it (L ++ [t]) n x = some y → it L n x = some y ∨ ∃ m k, it L m x = some t.id ∧ it (L ++ [t]) k t.pa = some y ∧ k < n := by
  intro n
  induction n with
  | zero => intro x y h; exact .inl h
  | succ n ih =>
    intro x y h
    obtain ⟨s, hs, h2⟩ := it_here h
    by_cases hx : x = t.id
    · subst hx
      rw [atS_snoc, hn, if_pos rfl] at hs
      cases hs
      exact .inr ⟨0, n, rfl, h2, by omega⟩
    · rw [atS_old hx] at hs
      rcases ih s.pa y h2 with h3 | ⟨m, k, h3, h4, h5⟩
      · exact .inl (by rw [it_one hs]; exact h3)
      · exact .inr ⟨m + 1, k, by rw [it_one hs]; exact h3, h4, by omega⟩
theorem it_keep {L : List Sp} {t : Sp} (hn : atS L t.id = none) (ha : aboveB L t.pa t.id = false) {n : Nat} {y : Int} (h : it (L ++ [t]) n t.pa = some y) : it L n t.pa = some y := by
  rcases it_new hn n _ _ h with h | ⟨m, k, h1, _, _⟩
  · exact h
  · have := (aboveB_iff L t.pa t.id).2 ⟨m, h1⟩
    rw [ha] at this; cases this
theorem Grown.acy {tr : Int} {L : List Sp} (h : Grown tr L) : Acy L := by
  induction h with
  | nil => intro s hs; cases hs
  | @snoc L t h hf hn hl ha ih =>
    have hno : ∀ m, it L m t.pa ≠ some t.id := fun m e => by
      have := (aboveB_iff L t.pa t.id).2 ⟨m, e⟩
      rw [ha] at this; cases this
    intro s hs n e
    rcases List.mem_append.1 hs with hs | hs
    · have hat := atS_mem h.nodup hs
      rcases it_new hn n _ _ e with h1 | ⟨m, k, h1, h2, _⟩
      · exact ih s hs n h1
      · have h3 := it_keep hn ha h2
        refine hno (k + (1 + m)) ?_
        rw [it_add, h3]
        show it L (1 + m) s.id = _
        rw [Nat.add_comm 1 m, it_one hat]; exact h1
    · obtain rfl := List.mem_singleton.1 hs
      exact hno n (it_keep hn ha e)

/-- No one of some numbers stands above another one, none is there twice. -/
def Anti (L : List Sp) (ids : List Int) : Prop := ids.Nodup ∧ ∀ i ∈ ids, ∀ j ∈ ids, ∀ m, it L m i = some j → m = 0
theorem kid_mem {L : List Sp} (hn : (L.map Sp.id).Nodup) {x i : Int} (h : i ∈ kidIds L x) : ∃ s, atS L i = some s ∧ s.pa = x ∧ s ∈ L := by
  obtain ⟨s, hs, rfl⟩ := List.mem_map.1 h
  obtain ⟨h1, h2⟩ := List.mem_filter.1 hs
  exact ⟨s, atS_mem hn h1, by simpa using h2, h1⟩
theorem kids_nodup {L : List Sp} (hn : (L.map Sp.id).Nodup) (x : Int) : (kidIds L x).Nodup := by
  have : (kidIds L x).Sublist (L.map Sp.id) := List.Sublist.map _ List.filter_sublist
  exact this.nodup hn
theorem kids_anti {L : List Sp} (hn : (L.map Sp.id).Nodup) (hA : Acy L) (x : Int) : Anti L (kidIds L x) := by
  refine ⟨kids_nodup hn x, fun i hi j hj m hm => ?_⟩
  cases m with
  | zero => rfl
  | succ m =>
    obtain ⟨s, hs, hp, _⟩ := kid_mem hn hi
    obtain ⟨t, ht, hp2, hm2⟩ := kid_mem hn hj
    rw [it_one hs, hp, ← hp2] at hm
    have := (atS_some ht).2
    rw [← this] at hm
    exact absurd hm (hA t hm2 m)
/-- Beneath those that are there nobody stands deeper than there are spans. -/
theorem fine_kids {L : List Sp} (hn : (L.map Sp.id).Nodup) (hA : Acy L) : ∀ (n : Nat) (x : Int) (k : Nat) (U : List Int), U.length = k → U.Nodup → (∀ z ∈ U, z ∈ L.map Sp.id) → (∀ z ∈ U, ∃ m, it L m x = some z) → L.length ≤ n + k → (x ∈ U ∨ (k = 0 ∧ atS L x = none)) → Fine L n (kidIds L x) := by
  intro n
  induction n with
  | zero =>
    intro x k U hk hnd hm hu hle hx
    show kidIds L x = []
    cases hc : kidIds L x with
    | nil => rfl
    | cons j r =>
      obtain ⟨s, hs, hp, hsm⟩ := kid_mem hn (x := x) (i := j) (by rw [hc]; simp)
      have hid := (atS_some hs).2
      have hjU : j ∉ U := fun hj => by
        obtain ⟨m, h1⟩ := hu j hj
        rw [← hp, ← hid] at h1
        exact hA s hsm m h1
      have := nodup_le (U := j :: U) (M := L.map Sp.id) (List.nodup_cons.2 ⟨hjU, hnd⟩) (fun z hz => by
        rcases List.mem_cons.1 hz with rfl | hz
        · exact List.mem_map.2 ⟨s, hsm, hid⟩
        · exact hm z hz)
      simp at this; omega
  | succ n ih =>
    intro x k U hk hnd hm hu hle hx j hj
    obtain ⟨s, hs, hp, hsm⟩ := kid_mem hn hj
    have hid := (atS_some hs).2
    refine ⟨⟨s, hs⟩, ih j (k + 1) (j :: U) (by simp [hk]) (List.nodup_cons.2 ⟨fun hjU => ?_, hnd⟩) (fun z hz => ?_) (fun z hz => ?_) (by omega) (.inl (by simp))⟩
    · obtain ⟨m, h1⟩ := hu j hjU
      rw [← hp, ← hid] at h1
      exact hA s hsm m h1
    · rcases List.mem_cons.1 hz with rfl | hz
      · exact List.mem_map.2 ⟨s, hsm, hid⟩
      · exact hm z hz
    · rcases List.mem_cons.1 hz with rfl | hz
      · exact ⟨0, rfl⟩
      · obtain ⟨m, h1⟩ := hu z hz
        exact ⟨m + 1, by rw [it_one hs, hp]; exact h1⟩
theorem fine_ids {L : List Sp} (hn : (L.map Sp.id).Nodup) (hA : Acy L) {ids : List Int} (h : ∀ i ∈ ids, ∃ s, atS L i = some s) : Fine L (L.length + 1) ids := by
  intro i hi
  obtain ⟨s, hs⟩ := h i hi
  have hid := (atS_some hs).2
  exact ⟨⟨s, hs⟩, fine_kids hn hA L.length i 1 [i] rfl (by simp) (fun z hz => by obtain rfl := List.mem_singleton.1 hz; exact List.mem_map.2 ⟨s, (atS_some hs).1, hid⟩) (fun z hz => by obtain rfl := List.mem_singleton.1 hz; exact ⟨0, rfl⟩) (by omega) (.inl (by simp))⟩
/-- The spans that are laid. -/
def laid (L : List Sp) (n dp : Nat) (o : Bool) (ids : List Int) : List Sp := (layL L n dp o ids).map Br.sp
theorem laid_succ (L : List Sp) (n dp : Nat) (o : Bool) (ids : List Int) : laid L (n + 1) dp o ids = (sortS (ids.map (getS L))).flatMap fun s => s :: laid L n (dp + 1) false (kidIds L s.id) := by
  unfold laid
  rw [layL, List.map_flatMap]
  rfl
theorem laid_under {L : List Sp} (hn : (L.map Sp.id).Nodup) : ∀ (n dp : Nat) (o : Bool) (ids : List Int), Fine L n ids → ∀ u ∈ laid L n dp o ids, u ∈ L ∧ ∃ i ∈ ids, ∃ m, it L m u.id = some i := by
  intro n
  induction n with
  | zero => intro dp o ids _ u hu; cases hu
  | succ n ih =>
    intro dp o ids hf u hu
    rw [laid_succ] at hu
    obtain ⟨s, hs, hu⟩ := List.mem_flatMap.1 hu
    obtain ⟨hat, hfk⟩ := hf.kid hs
    obtain ⟨i, hi, hgi⟩ := List.mem_map.1 (sortS_mem.1 hs)
    obtain ⟨⟨t, ht⟩, _⟩ := hf i hi
    have hti : getS L i = t := by rw [getS, ht]; rfl
    have hid : s.id = i := by rw [← hgi, hti]; exact (atS_some ht).2
    rcases List.mem_cons.1 hu with rfl | hu
    · exact ⟨(atS_some hat).1, i, hi, 0, congrArg some hid⟩
    · obtain ⟨h1, j, hj, m, hm⟩ := ih _ _ _ hfk u hu
      obtain ⟨v, hv, hp, _⟩ := kid_mem hn hj
      refine ⟨h1, i, hi, m + 1, ?_⟩
      rw [it_add, hm]
      show it L 1 j = _
      rw [it_one hv, hp, ← hid]; rfl
theorem laid_nodup {L : List Sp} (hn : (L.map Sp.id).Nodup) (hA : Acy L) : ∀ (n dp : Nat) (o : Bool) (ids : List Int), Fine L n ids → Anti L ids → ((laid L n dp o ids).map Sp.id).Nodup := by
  intro n
  induction n with
  | zero => intro dp o ids _ _; exact List.nodup_nil
  | succ n ih =>
    intro dp o ids hf ha
    rw [laid_succ, List.map_flatMap]
    refine List.pairwise_flatMap.2 ⟨fun s hs => ?_, ?_⟩
    · obtain ⟨hat, hfk⟩ := hf.kid hs
      rw [List.map_cons]
      refine List.nodup_cons.2 ⟨fun hm => ?_, ih _ _ _ hfk (kids_anti hn hA _)⟩
      obtain ⟨u, hu, hui⟩ := List.mem_map.1 hm
      obtain ⟨h1, j, hj, m, hm⟩ := laid_under hn _ _ _ _ hfk u hu
      obtain ⟨v, hv, hp, hvm⟩ := kid_mem hn hj
      have hvid := (atS_some hv).2
      rw [hui] at hm
      have : it L m v.pa = some v.id := by rw [hp, hvid]; exact hm
      exact hA v hvm m this
    · have hids : ((sortS (ids.map (getS L))).map Sp.id).Nodup := by
        have h1 : ((sortS (ids.map (getS L))).map Sp.id).Perm ids := by
          refine ((sortS_perm _).map Sp.id).trans (List.Perm.of_eq ?_)
          rw [List.map_map]
          conv => rhs; rw [← List.map_id ids]
          refine List.map_congr_left fun i hi => ?_
          obtain ⟨⟨t, ht⟩, _⟩ := hf i hi
          simp only [Function.comp, getS, ht, Option.getD_some, id]
          exact (atS_some ht).2
        exact h1.nodup_iff.2 ha.1
      have hpw : (sortS (ids.map (getS L))).Pairwise fun s t => s.id ≠ t.id := List.pairwise_map.1 hids
      refine (List.pairwise_iff_forall_sublist.2 fun {s t} hst => ?_)
      have hne : s.id ≠ t.id := List.pairwise_iff_forall_sublist.1 hpw hst
      have hs : s ∈ sortS (ids.map (getS L)) := hst.subset (by simp)
      have ht : t ∈ sortS (ids.map (getS L)) := hst.subset (by simp)
      have key : ∀ s, s ∈ sortS (ids.map (getS L)) → s.id ∈ ids ∧ ∀ z ∈ (s :: laid L n (dp + 1) false (kidIds L s.id)).map Sp.id, ∃ m, it L m z = some s.id := fun s hs => by
        obtain ⟨hat, hfk⟩ := hf.kid hs
        obtain ⟨i, hi, hgi⟩ := List.mem_map.1 (sortS_mem.1 hs)
        obtain ⟨⟨t, ht⟩, _⟩ := hf i hi
        have hti : getS L i = t := by rw [getS, ht]; rfl
        have hid : s.id = i := by rw [← hgi, hti]; exact (atS_some ht).2
        refine ⟨by rw [hid]; exact hi, fun z hz => ?_⟩
        obtain ⟨u, hu, rfl⟩ := List.mem_map.1 hz
        rcases List.mem_cons.1 hu with rfl | hu
        · exact ⟨0, rfl⟩
        · obtain ⟨h1, j, hj, m, hm⟩ := laid_under hn _ _ _ _ hfk u hu
          obtain ⟨v, hv, hp, _⟩ := kid_mem hn hj
          exact ⟨m + 1, by rw [it_add, hm]; show it L 1 j = _; rw [it_one hv, hp]; rfl⟩
      obtain ⟨hs1, hs2⟩ := key s hs
      obtain ⟨ht1, ht2⟩ := key t ht
      intro x hx y hy e
      subst e
      obtain ⟨m1, h1⟩ := hs2 x hx
      obtain ⟨m2, h2⟩ := ht2 x hy
      rcases Nat.le_total m1 m2 with hle | hle
      · obtain ⟨z, h3, h4⟩ := it_pre h2 hle
        rw [h1] at h3
        cases h3
        have := ha.2 _ hs1 _ ht1 _ h4
        rw [this] at h4
        exact hne (Option.some.inj h4)
      · obtain ⟨z, h3, h4⟩ := it_pre h1 hle
        rw [h2] at h3
        cases h3
        have := ha.2 _ ht1 _ hs1 _ h4
        rw [this] at h4
        exact hne (Option.some.inj h4).symm
theorem laid_le {L : List Sp} (hn : (L.map Sp.id).Nodup) (hA : Acy L) {n dp : Nat} {o : Bool} {ids : List Int} (hf : Fine L n ids) (ha : Anti L ids) : (layL L n dp o ids).length ≤ L.length := by
  have h := nodup_le (laid_nodup hn hA n dp o ids hf ha) (M := L.map Sp.id) (fun z hz => by
    obtain ⟨u, hu, rfl⟩ := List.mem_map.1 hz
    exact List.mem_map.2 ⟨u, (laid_under hn _ _ _ _ hf u hu).1, rfl⟩)
  simpa [laid] using h
end Go.Proofs.YtempkjnaahgbhaaGreatDoor
