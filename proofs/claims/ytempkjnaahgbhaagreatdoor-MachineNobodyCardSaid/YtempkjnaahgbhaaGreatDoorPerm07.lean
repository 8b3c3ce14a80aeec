/-
  The plain law of a store's bytes: what its image reads back as; stores that have the same spans in another order tell the same, and go on alike. No condition.
-/
import Derived.Test.YtempkjnaahgbhaaGreatDoorStoreG
namespace Go.Proofs.YtempkjnaahgbhaaGreatDoor
open Go Go.RowKit

theorem addS_plus7 (L : List Sp) (c : Cnt) (s : Sp) : (addS (L, c) s).1 = (addS (L, Cnt.zero) s).1 := by
  unfold addS
  dsimp only
  split
  · split <;> rfl
  · split
    · rfl
    · split <;> rfl
theorem addL_fst (l : List Sp) : ∀ (L : List Sp) (c d : Cnt), (addL (L, c) l).1 = (addL (L, d) l).1 := by
  induction l with
  | nil => intro L c d; rfl
  | cons s l ih =>
    intro L c d
    show (addL (addS (L, c) s) l).1 = (addL (addS (L, d) s) l).1
    have e : (addS (L, c) s).1 = (addS (L, d) s).1 := by rw [addS_plus7 L c, addS_plus7 L d]
    rw [show addS (L, c) s = ((addS (L, c) s).1, (addS (L, c) s).2) from rfl, show addS (L, d) s = ((addS (L, d) s).1, (addS (L, d) s).2) from rfl, e]
    exact ih _ _ _

/-- The same spans, in another order. -/
inductive PermT : List Tr → List Tr → Prop
  | nil : PermT [] []
  | cons {x : Int} {L M : List Sp} {T U : List Tr} (h : M.Perm L) (hT : PermT T U) : PermT (⟨x, L⟩ :: T) (⟨x, M⟩ :: U)
theorem PermT.refl : ∀ T : List Tr, PermT T T
  | [] => .nil
  | ⟨_, _⟩ :: T => .cons (List.Perm.refl _) (PermT.refl T)
theorem PermT.keys {T U : List Tr} (h : PermT T U) : U.map Tr.tr = T.map Tr.tr := by
  induction h with
  | nil => rfl
  | cons h hT ih => simp only [List.map_cons, ih]
theorem PermT.len {T U : List Tr} (h : PermT T U) : U.length = T.length := by
  have := congrArg List.length h.keys
  simpa using this
theorem getT_cons (t : Tr) (T : List Tr) (x : Int) : getT (t :: T) x = if t.tr = x then some t.L else getT T x := by
  unfold getT
  rw [List.find?_cons]
  by_cases h : t.tr = x
  · rw [decide_eq_true h, if_pos h]; rfl
  · rw [decide_eq_false h, if_neg h]
theorem PermT.get {T U : List Tr} (h : PermT T U) (x : Int) : (getT T x = none ∧ getT U x = none) ∨ ∃ L M, getT T x = some L ∧ getT U x = some M ∧ M.Perm L := by
  induction h with
  | nil => exact .inl ⟨rfl, rfl⟩
  | @cons y L M T U h hT ih =>
    rw [getT_cons, getT_cons]
    by_cases e : y = x
    · rw [if_pos e, if_pos e]; exact .inr ⟨_, _, rfl, rfl, h⟩
    · rw [if_neg e, if_neg e]; exact ih
theorem PermT.set {T U : List Tr} (h : PermT T U) (x : Int) {L M : List Sp} (hp : M.Perm L) : PermT (setT T x L) (setT U x M) := by
  induction h with
  | nil => exact .nil
  | @cons y L1 M1 T U h hT ih =>
    unfold setT at ih ⊢
    rw [List.map_cons, List.map_cons]
    dsimp only
    by_cases e : y = x
    · rw [if_pos e, if_pos e]; exact .cons hp ih
    · rw [if_neg e, if_neg e]; exact .cons h ih
theorem PermT.ins {T U : List Tr} (h : PermT T U) (x : Int) {L M : List Sp} (hp : M.Perm L) : PermT (insT T ⟨x, L⟩) (insT U ⟨x, M⟩) := by
  induction h with
  | nil => exact .cons hp .nil
  | @cons y L1 M1 T U h hT ih =>
    rw [insT, insT]
    dsimp only
    by_cases e : x < y
    · rw [if_pos e, if_pos e]; exact .cons hp (.cons h hT)
    · rw [if_neg e, if_neg e]; exact .cons h ih
theorem aboveB_perm {L M : List Sp} (hn : (L.map Sp.id).Nodup) (hp : M.Perm L) (x y : Int) : aboveB M x y = aboveB L x y := by
  have key : ∀ n x, aboveN M n x y = aboveN L n x y := by
    intro n
    induction n with
    | zero => intro x; rfl
    | succ n ih =>
      intro x
      rw [aboveN, aboveN, atS_perm hn hp]
      by_cases e : x = y
      · rw [if_pos e, if_pos e]
      · rw [if_neg e, if_neg e]
        cases atS L x with
        | none => rfl
        | some s => exact ih _
  rw [aboveB, aboveB, hp.length_eq, key]
theorem addS_perm {L M : List Sp} (hn : (L.map Sp.id).Nodup) (hp : M.Perm L) (c : Cnt) (s : Sp) : ((addS (M, c) s).1.Perm (addS (L, c) s).1) ∧ (addS (M, c) s).2 = (addS (L, c) s).2 := by
  have hl := hp.length_eq
  cases h : atS L s.id with
  | some o =>
    have h2 : atS M s.id = some o := (atS_perm hn hp _).trans h
    by_cases ho : o = s
    · rw [addS_same h ho, addS_same h2 ho]; exact ⟨hp, rfl⟩
    · rw [addS_other h ho, addS_other h2 ho]; exact ⟨hp, rfl⟩
  | none =>
    have h2 : atS M s.id = none := (atS_perm hn hp _).trans h
    by_cases h64 : 64 ≤ L.length
    · rw [addS_full h h64, addS_full h2 (by omega)]; exact ⟨hp, rfl⟩
    · cases ha : aboveB L s.pa s.id with
      | true => rw [addS_cycle h h64 ha, addS_cycle h2 (by omega) ((aboveB_perm hn hp _ _).trans ha)]; exact ⟨hp, rfl⟩
      | false => rw [addS_add h h64 ha, addS_add h2 (by omega) ((aboveB_perm hn hp _ _).trans ha)]; exact ⟨hp.append_right _, rfl⟩
theorem PermT.ingS {T U : List Tr} (h : PermT T U) (hg : GrT T) (c : Cnt) (s : Sp) : PermT (ingS (T, c) s).1 (ingS (U, c) s).1 ∧ (ingS (U, c) s).2 = (ingS (T, c) s).2 := by
  unfold Go.Proofs.YtempkjnaahgbhaaGreatDoor.ingS
  dsimp only
  rcases h.get s.tr with ⟨h1, h2⟩ | ⟨L, M, h1, h2, hp⟩
  · rw [h1, h2]
    dsimp only
    rw [h.len]
    by_cases h32 : 32 ≤ T.length
    · rw [if_pos h32, if_pos h32]; exact ⟨h, rfl⟩
    · rw [if_neg h32, if_neg h32]; exact ⟨h.ins _ (List.Perm.refl _), rfl⟩
  · rw [h1, h2]
    dsimp only
    have ha := addS_perm (hg.ok _ (getT_some h1)).1.nodup hp Cnt.zero s
    exact ⟨h.set _ ha.1, by rw [ha.2]⟩
theorem PermT.ingL {T U : List Tr} (h : PermT T U) (hg : GrT T) (c : Cnt) (l : List Sp) (hl : l.all Sp.ok = true) : PermT (ingL (T, c) l).1 (ingL (U, c) l).1 ∧ (ingL (U, c) l).2 = (ingL (T, c) l).2 := by
  induction l generalizing T U c with
  | nil => exact ⟨h, rfl⟩
  | cons s l ih =>
    simp only [List.all_cons, Bool.and_eq_true] at hl
    obtain ⟨h1, h2⟩ := h.ingS hg c s
    have := ih h1 (hg.ing c hl.1) (Go.Proofs.YtempkjnaahgbhaaGreatDoor.ingS (T, c) s).2 hl.2
    show PermT (Go.Proofs.YtempkjnaahgbhaaGreatDoor.ingL (Go.Proofs.YtempkjnaahgbhaaGreatDoor.ingS (T, c) s) l).1 (Go.Proofs.YtempkjnaahgbhaaGreatDoor.ingL (Go.Proofs.YtempkjnaahgbhaaGreatDoor.ingS (U, c) s) l).1 ∧ (Go.Proofs.YtempkjnaahgbhaaGreatDoor.ingL (Go.Proofs.YtempkjnaahgbhaaGreatDoor.ingS (U, c) s) l).2 = (Go.Proofs.YtempkjnaahgbhaaGreatDoor.ingL (Go.Proofs.YtempkjnaahgbhaaGreatDoor.ingS (T, c) s) l).2
    rw [show Go.Proofs.YtempkjnaahgbhaaGreatDoor.ingS (U, c) s = ((Go.Proofs.YtempkjnaahgbhaaGreatDoor.ingS (U, c) s).1, (Go.Proofs.YtempkjnaahgbhaaGreatDoor.ingS (U, c) s).2) from rfl, h2]
    exact this
theorem PermT.ingA {T U : List Tr} (h : PermT T U) (hg : GrT T) (l : List Sp) : PermT (ingA T l).1 (ingA U l).1 ∧ (ingA U l).2 = (ingA T l).2 := by
  unfold Go.Proofs.YtempkjnaahgbhaaGreatDoor.ingA
  cases hl : l.all Sp.ok
  · rw [if_neg Bool.false_ne_true, if_neg Bool.false_ne_true]; exact ⟨h, rfl⟩
  · rw [if_pos rfl, if_pos rfl]
    obtain ⟨h1, h2⟩ := h.ingL hg Cnt.zero l hl
    exact ⟨h1, by rw [h2]⟩
theorem PermT.ret {T U : List Tr} (h : PermT T U) (z : Int) : PermT (retT T z) (retT U z) := by
  induction h with
  | nil => exact .nil
  | @cons x L M T U hp hT ih =>
    unfold retT at ih ⊢
    by_cases e : z ≤ endL L
    · rw [List.filter_cons_of_pos (by simpa using e), List.filter_cons_of_pos (by rw [endL_perm hp]; simpa using e)]
      exact .cons hp ih
    · rw [List.filter_cons_of_neg (by simpa using e), List.filter_cons_of_neg (by rw [endL_perm hp]; simpa using e)]
      exact ih
theorem PermT.look {T U : List Tr} (h : PermT T U) (hg : GrT T) (x : Int) : lookT U x = lookT T x := by
  unfold lookT
  rcases h.get x with ⟨h1, h2⟩ | ⟨L, M, h1, h2, hp⟩
  · rw [h1, h2]
  · rw [h1, h2]; exact branches_order (hg.ok _ (getT_some h1)).1.nodup hp
theorem PermT.enc {T U : List Tr} (h : PermT T U) : U.flatMap encT = T.flatMap encT := by
  induction h with
  | nil => rfl
  | cons hp hT ih => rw [List.flatMap_cons, List.flatMap_cons, ih, encT, encT, sortS_congr hp]
theorem PermT.img {T U : List Tr} (h : PermT T U) : imgT U = imgT T := by
  rw [imgT, imgT, h.len, h.enc]
theorem PermT.trc {T U : List Tr} (h : PermT T U) : trcT U = trcT T := h.keys

/-- The bytes, read. -/
def loadL (l : List UInt8) : Nat → List Tr → Nat → Int → Option (List Tr × Nat × Int)
  | 0, T, a, err => some (T, a, err)
  | n + 1, T, a, err => if err = 0 then
      if (getAns (scText 262144 l a err).1).2 = 0 ∧ (getAns (scText 262144 l a err).1).1 ≠ [] then loadL l n (ingA T (getAns (scText 262144 l a err).1).1).1 (scText 262144 l a err).2.1 (scText 262144 l a err).2.2 else none
    else some (T, a, err)
def loadFin (l : List UInt8) : Option (List Tr × Nat × Int) → Option (List Tr)
  | none => none
  | some (T, a, err) => if scEnd l a err = 0 ∧ imgT T = l then some T else none
def loadA (l : List UInt8) : Option (List Tr) := loadFin l (loadL l (scNum l 0 0).1 [] (scNum l 0 0).2.1 (scNum l 0 0).2.2)
def normT (T : List Tr) : List Tr := T.map fun t => ⟨t.tr, sortS t.L⟩
theorem normT_perm : ∀ T : List Tr, PermT T (normT T)
  | [] => .nil
  | ⟨_, _⟩ :: T => .cons (sortS_perm _) (normT_perm T)
theorem scText_encM {most : Nat} {l tx r : List UInt8} {at_ : Nat} (h : l.drop at_ = digits tx.length ++ tx ++ r) (ht : tx.length ≤ most) (hm : most < 9223372036854775808) : scText most l at_ 0 = (tx, at_ + (digits tx.length).length + tx.length, 0) := by
  rw [List.append_assoc] at h
  have h1 := scNum_enc h (by omega)
  have h2 := drop_on h
  have h3 : tx.length ≤ l.length - (at_ + (digits tx.length).length) := by
    have := congrArg List.length h2
    simp only [List.length_drop, List.length_append] at this; omega
  rw [scText_eq, h1]
  dsimp only
  rw [if_neg (by simp), if_neg (by omega), if_neg (by omega), h2, List.take_left]
theorem insT_end {D : List Tr} {t : Tr} (h : ∀ u ∈ D, u.tr < t.tr) : insT D t = D ++ [t] := by
  induction D with
  | nil => rfl
  | cons u D ih =>
    have hu := h u (by simp)
    rw [insT, if_neg (by omega), ih fun v hv => h v (by simp [hv])]; rfl
theorem getT_end {D : List Tr} {x : Int} {L : List Sp} (h : ∀ u ∈ D, u.tr < x) : getT (D ++ [⟨x, L⟩]) x = some L := by
  induction D with
  | nil => rw [List.nil_append, getT_cons, if_pos rfl]
  | cons u D ih =>
    have hu := h u (by simp)
    rw [List.cons_append, getT_cons, if_neg (by omega), ih fun v hv => h v (by simp [hv])]
theorem getT_below {D : List Tr} {x : Int} (h : ∀ u ∈ D, u.tr < x) : getT D x = none := by
  induction D with
  | nil => rfl
  | cons u D ih =>
    have hu := h u (by simp)
    rw [getT_cons, if_neg (by omega), ih fun v hv => h v (by simp [hv])]
theorem setT_end {D : List Tr} {x : Int} {L M : List Sp} (h : ∀ u ∈ D, u.tr < x) : setT (D ++ [⟨x, L⟩]) x M = D ++ [⟨x, M⟩] := by
  unfold setT
  rw [List.map_append, List.map_cons, List.map_nil, if_pos rfl]
  congr 1
  conv => rhs; rw [← List.map_id D]
  refine List.map_congr_left fun u hu => ?_
  have := h u hu
  rw [if_neg (by omega)]; rfl
theorem ingL_own {D : List Tr} {x : Int} (h : ∀ u ∈ D, u.tr < x) (m : List Sp) : ∀ (L : List Sp) (c : Cnt), (∀ s ∈ m, s.tr = x) → (ingL (D ++ [⟨x, L⟩], c) m).1 = D ++ [⟨x, (addL (L, Cnt.zero) m).1⟩] := by
  induction m with
  | nil => intro L c _; rfl
  | cons s m ih =>
    intro L c hm
    have hs := hm s (by simp)
    have e : ingS (D ++ [⟨x, L⟩], c) s = (D ++ [⟨x, (addS (L, Cnt.zero) s).1⟩], c.plus (addS (L, Cnt.zero) s).2) := by
      unfold ingS
      dsimp only
      rw [hs, getT_end h]
      dsimp only
      rw [setT_end h]
    show (ingL (ingS (D ++ [⟨x, L⟩], c) s) m).1 = _
    rw [e, ih _ _ fun s hs => hm s (by simp [hs])]
    show _ = D ++ [⟨x, (addL (addS (L, Cnt.zero) s) m).1⟩]
    rw [addL_fst m (addS (L, Cnt.zero) s).1 Cnt.zero (addS (L, Cnt.zero) s).2]
/-- A trace that is read lies behind those ahead of it. -/
theorem ing_new {D : List Tr} {x : Int} (h : ∀ u ∈ D, u.tr < x) (hl : D.length < 32) {L m : List Sp} (hg : Grown x L) (hne : L ≠ []) (hp : m.Perm L) : (ingA D m).1 = D ++ [⟨x, m⟩] := by
  have hok : m.all Sp.ok = true := List.all_eq_true.2 fun s hs => (fits_ok (hg.fits s (hp.mem_iff.1 hs))).1
  have htr : ∀ s ∈ m, s.tr = x := fun s hs => (fits_ok (hg.fits s (hp.mem_iff.1 hs))).2
  have hadd := congrArg Prod.fst (add_order hg hp)
  rw [addA, if_pos (List.all_eq_true.2 fun s hs => hg.fits s (hp.mem_iff.1 hs))] at hadd
  dsimp only at hadd
  rw [ingA, if_pos hok]
  dsimp only
  cases m with
  | nil => exact absurd (List.nil_perm.1 hp).symm (fun e => hne e.symm)
  | cons s m =>
    have hs := htr s (by simp)
    have hsok : s.ok = true := List.all_eq_true.1 hok s (by simp)
    have e : ingS (D, Cnt.zero) s = (D ++ [⟨x, (addS ([], Cnt.zero) s).1⟩], Cnt.zero.plus (addS ([], Cnt.zero) s).2) := by
      unfold ingS
      dsimp only
      rw [hs, getT_below h]
      dsimp only
      rw [if_neg (by omega), insT_end h]
    show (ingL (ingS (D, Cnt.zero) s) m).1 = _
    rw [e, ingL_own h m _ _ fun s hs => htr s (by simp [hs])]
    have h2 : (addL (addS ([], Cnt.zero) s) m).1 = s :: m := hadd
    rw [addL_fst m (addS ([], Cnt.zero) s).1 Cnt.zero (addS ([], Cnt.zero) s).2]
    rw [← h2]
theorem loadL_enc (l : List UInt8) : ∀ (R D : List Tr) (a : Nat), GrT (D ++ R) → l.drop a = R.flatMap encT → ∃ b, loadL l R.length (normT D) a 0 = some (normT (D ++ R), b, 0) ∧ l.drop b = [] := by
  intro R
  induction R with
  | nil => intro D a _ h; exact ⟨a, by rw [List.append_nil]; rfl, h⟩
  | cons t R ih =>
    intro D a hg h
    obtain ⟨htg, htn⟩ := hg.ok t (by simp)
    have hok := fits_all htg
    have hlen := putEnc_len hok (by rw [sortS_len]; exact htg.len)
    rw [List.flatMap_cons, encT] at h
    have h1 := scText_encM (most := 262144) h (by omega) (by omega)
    have h2 := get_put (sortS t.L) hok (by rw [sortS_len]; have := htg.len; omega)
    have hlt : ∀ u ∈ normT D, u.tr < t.tr := by
      intro u hu
      obtain ⟨v, hv, rfl⟩ := List.mem_map.1 hu
      have := List.pairwise_append.1 hg.srt
      exact this.2.2 v hv t (by simp)
    have hD : (normT D).length < 32 := by
      have := hg.len
      simp only [normT, List.length_map, List.length_append, List.length_cons] at this ⊢
      omega
    have h3 := ing_new hlt hD htg htn (sortS_perm t.L)
    have hne : sortS t.L ≠ [] := fun e => htn (List.length_eq_zero_iff.1 (by rw [← sortS_len, e]; rfl))
    rw [List.length_cons, loadL, if_pos rfl, h1]
    dsimp only
    rw [h2, if_pos ⟨rfl, hne⟩]
    dsimp only
    rw [h3]
    have hn : normT D ++ [⟨t.tr, sortS t.L⟩] = normT (D ++ [t]) := by simp [normT]
    rw [hn]
    have h4 := ih (D ++ [t]) (a + (digits (putEnc (sortS t.L)).length).length + (putEnc (sortS t.L)).length) (by rw [List.append_assoc]; exact hg) (by
      rw [List.append_assoc] at h
      have := drop_on (drop_on h)
      exact this)
    rw [List.append_assoc] at h4
    exact h4
/-- An image is read. -/
theorem load_img {T : List Tr} (h : GrT T) : loadA (imgT T) = some (normT T) := by
  have h0 : (imgT T).drop 0 = digits T.length ++ T.flatMap encT := rfl
  have h1 := scNum_enc h0 (by have := h.len; omega)
  obtain ⟨b, h2, h3⟩ := loadL_enc (imgT T) T [] (0 + (digits T.length).length) h (drop_on h0)
  rw [loadA, h1]
  dsimp only
  have h4 : loadL (imgT T) T.length [] (0 + (digits T.length).length) 0 = some (normT T, b, 0) := h2
  rw [h4]
  have h5 := (normT_perm T).img
  have h6 : (imgT T).length ≤ b := by
    have := congrArg List.length h3
    simp only [List.length_drop, List.length_nil] at this; omega
  simp only [loadFin]
  rw [if_pos ⟨by rw [scEnd, if_neg (by omega)], h5⟩]
end Go.Proofs.YtempkjnaahgbhaaGreatDoor
