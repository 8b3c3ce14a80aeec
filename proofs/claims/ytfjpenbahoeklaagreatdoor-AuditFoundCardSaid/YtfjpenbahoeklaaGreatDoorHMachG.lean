/-
  The plain law of a store's bytes: what its image reads back as; stores that have the same spans in another order tell the same, and go on alike. No condition.
  On the way through a store's Ingest: what keeps what is there; two counts together. Conditions: the store lies in memory as New made it, the spans read as a list.
  The walk of a store's Ingest: what came of the spans, and the store behind it. Conditions: the store lies in memory as New made it, the spans read as a list.
  The walk of store.Load: the store of which bytes are the image, or that they are none's. Condition: the bytes are not more than memory bears.
  The walk of machine.Get: the command that bytes are. Condition: the bytes are not more than memory bears.
-/
import Derived.Test.YtfjpenbahoeklaaGreatDoorHStoreG
import Derived.Test.YtfjpenbahoeklaaGreatDoorHSorted
import Derived.Test.YtfjpenbahoeklaaGreatDoorHForest2
namespace Go.Proofs.YtfjpenbahoeklaaGreatDoor
open Go Go.RowKit

theorem addS_plus7 (L : List Sp) (c : Cnt) (s : Sp) : (addS (L, c) s).1 = (addS (L, Cnt.zero) s).1 := by
  unfold addS
  dsimp only
  split
  · split <;> rfl
  · split
    · rfl
    · split <;> rfl
theorem addL_fst (l : List Sp) : ∀ (L : List Sp) (c d : Cnt), (addL (L, c) l).1 = (addL (L, d) l).1 := by
  induction l with
  | nil => intro L c d; rfl
  | cons s l ih =>
    intro L c d
    show (addL (addS (L, c) s) l).1 = (addL (addS (L, d) s) l).1
    have e : (addS (L, c) s).1 = (addS (L, d) s).1 := by rw [addS_plus7 L c, addS_plus7 L d]
    rw [show addS (L, c) s = ((addS (L, c) s).1, (addS (L, c) s).2) from rfl, show addS (L, d) s = ((addS (L, d) s).1, (addS (L, d) s).2) from rfl, e]
    exact ih _ _ _

/-- The same spans, in another order. -/
inductive PermT : List Tr → List Tr → Prop
  | nil : PermT [] []
  | cons {x : Int} {L M : List Sp} {T U : List Tr} (h : M.Perm L) (hT : PermT T U) : PermT (⟨x, L⟩ :: T) (⟨x, M⟩ :: U)
theorem PermT.refl : ∀ T : List Tr, PermT T T
  | [] => .nil
  | ⟨_, _⟩ :: T => .cons (List.Perm.refl _) (PermT.refl T)
theorem PermT.keys {T U : List Tr} (h : PermT T U) : U.map Tr.tr = T.map Tr.tr := by
  induction h with
  | nil => rfl
  | cons h hT ih => simp only [List.map_cons, ih]
theorem PermT.len {T U : List Tr} (h : PermT T U) : U.length = T.length := by
  have := congrArg List.length h.keys
  simpa using this
theorem getT_cons (t : Tr) (T : List Tr) (x : Int) : getT (t :: T) x = if t.tr = x then some t.L else getT T x := by
  unfold getT
  rw [List.find?_cons]
  by_cases h : t.tr = x
  · rw [decide_eq_true h, if_pos h]; rfl
  · rw [decide_eq_false h, if_neg h]
theorem PermT.get {T U : List Tr} (h : PermT T U) (x : Int) : (getT T x = none ∧ getT U x = none) ∨ ∃ L M, getT T x = some L ∧ getT U x = some M ∧ M.Perm L := by
  induction h with
  | nil => exact .inl ⟨rfl, rfl⟩
  | @cons y L M T U h hT ih =>
    rw [getT_cons, getT_cons]
    by_cases e : y = x
    · rw [if_pos e, if_pos e]; exact .inr ⟨_, _, rfl, rfl, h⟩
    · rw [if_neg e, if_neg e]; exact ih
theorem PermT.set {T U : List Tr} (h : PermT T U) (x : Int) {L M : List Sp} (hp : M.Perm L) : PermT (setT T x L) (setT U x M) := by
  induction h with
  | nil => exact .nil
  | @cons y L1 M1 T U h hT ih =>
    unfold setT at ih ⊢
    rw [List.map_cons, List.map_cons]
    dsimp only
    by_cases e : y = x
    · rw [if_pos e, if_pos e]; exact .cons hp ih
    · rw [if_neg e, if_neg e]; exact .cons h ih
theorem PermT.ins {T U : List Tr} (h : PermT T U) (x : Int) {L M : List Sp} (hp : M.Perm L) : PermT (insT T ⟨x, L⟩) (insT U ⟨x, M⟩) := by
  induction h with
  | nil => exact .cons hp .nil
  | @cons y L1 M1 T U h hT ih =>
    rw [insT, insT]
    dsimp only
    by_cases e : x < y
    · rw [if_pos e, if_pos e]; exact .cons hp (.cons h hT)
    · rw [if_neg e, if_neg e]; exact .cons h ih
theorem aboveB_perm {L M : List Sp} (hn : (L.map Sp.id).Nodup) (hp : M.Perm L) (x y : Int) : aboveB M x y = aboveB L x y := by
  have key : ∀ n x, aboveN M n x y = aboveN L n x y := by
    intro n
    induction n with
    | zero => intro x; rfl
    | succ n ih =>
      intro x
      rw [aboveN, aboveN, atS_perm hn hp]
      by_cases e : x = y
      · rw [if_pos e, if_pos e]
      · rw [if_neg e, if_neg e]
        cases atS L x with
        | none => rfl
        | some s => exact ih _
  rw [aboveB, aboveB, hp.length_eq, key]
theorem addS_perm {L M : List Sp} (hn : (L.map Sp.id).Nodup) (hp : M.Perm L) (c : Cnt) (s : Sp) : ((addS (M, c) s).1.Perm (addS (L, c) s).1) ∧ (addS (M, c) s).2 = (addS (L, c) s).2 := by
  have hl := hp.length_eq
  cases h : atS L s.id with
  | some o =>
    have h2 : atS M s.id = some o := (atS_perm hn hp _).trans h
    by_cases ho : o = s
    · rw [addS_same h ho, addS_same h2 ho]; exact ⟨hp, rfl⟩
    · rw [addS_other h ho, addS_other h2 ho]; exact ⟨hp, rfl⟩
  | none =>
    have h2 : atS M s.id = none := (atS_perm hn hp _).trans h
    by_cases h64 : 64 ≤ L.length
    · rw [addS_full h h64, addS_full h2 (by omega)]; exact ⟨hp, rfl⟩
    · cases ha : aboveB L s.pa s.id with
      | true => rw [addS_cycle h h64 ha, addS_cycle h2 (by omega) ((aboveB_perm hn hp _ _).trans ha)]; exact ⟨hp, rfl⟩
      | false => rw [addS_add h h64 ha, addS_add h2 (by omega) ((aboveB_perm hn hp _ _).trans ha)]; exact ⟨hp.append_right _, rfl⟩
theorem PermT.ingS {T U : List Tr} (h : PermT T U) (hg : GrT T) (c : Cnt) (s : Sp) : PermT (ingS (T, c) s).1 (ingS (U, c) s).1 ∧ (ingS (U, c) s).2 = (ingS (T, c) s).2 := by
  unfold Go.Proofs.YtfjpenbahoeklaaGreatDoor.ingS
  dsimp only
  rcases h.get s.tr with ⟨h1, h2⟩ | ⟨L, M, h1, h2, hp⟩
  · rw [h1, h2]
    dsimp only
    rw [h.len]
    by_cases h32 : 32 ≤ T.length
    · rw [if_pos h32, if_pos h32]; exact ⟨h, rfl⟩
    · rw [if_neg h32, if_neg h32]; exact ⟨h.ins _ (List.Perm.refl _), rfl⟩
  · rw [h1, h2]
    dsimp only
    have ha := addS_perm (hg.ok _ (getT_some h1)).1.nodup hp Cnt.zero s
    exact ⟨h.set _ ha.1, by rw [ha.2]⟩
theorem PermT.ingL {T U : List Tr} (h : PermT T U) (hg : GrT T) (c : Cnt) (l : List Sp) (hl : l.all Sp.ok = true) : PermT (ingL (T, c) l).1 (ingL (U, c) l).1 ∧ (ingL (U, c) l).2 = (ingL (T, c) l).2 := by
  induction l generalizing T U c with
  | nil => exact ⟨h, rfl⟩
  | cons s l ih =>
    simp only [List.all_cons, Bool.and_eq_true] at hl
    obtain ⟨h1, h2⟩ := h.ingS hg c s
    have := ih h1 (hg.ing c hl.1) (Go.Proofs.YtfjpenbahoeklaaGreatDoor.ingS (T, c) s).2 hl.2
    show PermT (Go.Proofs.YtfjpenbahoeklaaGreatDoor.ingL (Go.Proofs.YtfjpenbahoeklaaGreatDoor.ingS (T, c) s) l).1 (Go.Proofs.YtfjpenbahoeklaaGreatDoor.ingL (Go.Proofs.YtfjpenbahoeklaaGreatDoor.ingS (U, c) s) l).1 ∧ (Go.Proofs.YtfjpenbahoeklaaGreatDoor.ingL (Go.Proofs.YtfjpenbahoeklaaGreatDoor.ingS (U, c) s) l).2 = (Go.Proofs.YtfjpenbahoeklaaGreatDoor.ingL (Go.Proofs.YtfjpenbahoeklaaGreatDoor.ingS (T, c) s) l).2
    rw [show Go.Proofs.YtfjpenbahoeklaaGreatDoor.ingS (U, c) s = ((Go.Proofs.YtfjpenbahoeklaaGreatDoor.ingS (U, c) s).1, (Go.Proofs.YtfjpenbahoeklaaGreatDoor.ingS (U, c) s).2) from rfl, h2]
    exact this
theorem PermT.ingA {T U : List Tr} (h : PermT T U) (hg : GrT T) (l : List Sp) : PermT (ingA T l).1 (ingA U l).1 ∧ (ingA U l).2 = (ingA T l).2 := by
  unfold Go.Proofs.YtfjpenbahoeklaaGreatDoor.ingA
  cases hl : l.all Sp.ok
  · rw [if_neg Bool.false_ne_true, if_neg Bool.false_ne_true]; exact ⟨h, rfl⟩
  · rw [if_pos rfl, if_pos rfl]
    obtain ⟨h1, h2⟩ := h.ingL hg Cnt.zero l hl
    exact ⟨h1, by rw [h2]⟩
theorem PermT.ret {T U : List Tr} (h : PermT T U) (z : Int) : PermT (retT T z) (retT U z) := by
  induction h with
  | nil => exact .nil
  | @cons x L M T U hp hT ih =>
    unfold retT at ih ⊢
    by_cases e : z ≤ endL L
    · rw [List.filter_cons_of_pos (by simpa using e), List.filter_cons_of_pos (by rw [endL_perm hp]; simpa using e)]
      exact .cons hp ih
    · rw [List.filter_cons_of_neg (by simpa using e), List.filter_cons_of_neg (by rw [endL_perm hp]; simpa using e)]
      exact ih
theorem PermT.look {T U : List Tr} (h : PermT T U) (hg : GrT T) (x : Int) : lookT U x = lookT T x := by
  unfold lookT
  rcases h.get x with ⟨h1, h2⟩ | ⟨L, M, h1, h2, hp⟩
  · rw [h1, h2]
  · rw [h1, h2]; exact branches_order (hg.ok _ (getT_some h1)).1.nodup hp
theorem PermT.enc {T U : List Tr} (h : PermT T U) : U.flatMap encT = T.flatMap encT := by
  induction h with
  | nil => rfl
  | cons hp hT ih => rw [List.flatMap_cons, List.flatMap_cons, ih, encT, encT, sortS_congr hp]
theorem PermT.img {T U : List Tr} (h : PermT T U) : imgT U = imgT T := by
  rw [imgT, imgT, h.len, h.enc]
theorem PermT.trc {T U : List Tr} (h : PermT T U) : trcT U = trcT T := h.keys

/-- The bytes, read. -/
def loadL (l : List UInt8) : Nat → List Tr → Nat → Int → Option (List Tr × Nat × Int)
  | 0, T, a, err => some (T, a, err)
  | n + 1, T, a, err => if err = 0 then
      if (getAns (scText 262144 l a err).1).2 = 0 ∧ (getAns (scText 262144 l a err).1).1 ≠ [] then loadL l n (ingA T (getAns (scText 262144 l a err).1).1).1 (scText 262144 l a err).2.1 (scText 262144 l a err).2.2 else none
    else some (T, a, err)
def loadFin (l : List UInt8) : Option (List Tr × Nat × Int) → Option (List Tr)
  | none => none
  | some (T, a, err) => if scEnd l a err = 0 ∧ imgT T = l then some T else none
def loadA (l : List UInt8) : Option (List Tr) := loadFin l (loadL l (scNum l 0 0).1 [] (scNum l 0 0).2.1 (scNum l 0 0).2.2)
def normT (T : List Tr) : List Tr := T.map fun t => ⟨t.tr, sortS t.L⟩
theorem normT_perm : ∀ T : List Tr, PermT T (normT T)
  | [] => .nil
  | ⟨_, _⟩ :: T => .cons (sortS_perm _) (normT_perm T)
theorem scText_encM {most : Nat} {l tx r : List UInt8} {at_ : Nat} (h : l.drop at_ = digits tx.length ++ tx ++ r) (ht : tx.length ≤ most) (hm : most < 9223372036854775808) : scText most l at_ 0 = (tx, at_ + (digits tx.length).length + tx.length, 0) := by
  rw [List.append_assoc] at h
  have h1 := scNum_enc h (by omega)
  have h2 := drop_on h
  have h3 : tx.length ≤ l.length - (at_ + (digits tx.length).length) := by
    have := congrArg List.length h2
    simp only [List.length_drop, List.length_append] at this; omega
  rw [scText_eq, h1]
  dsimp only
  rw [if_neg (by simp), if_neg (by omega), if_neg (by omega), h2, List.take_left]
theorem insT_end {D : List Tr} {t : Tr} (h : ∀ u ∈ D, u.tr < t.tr) : insT D t = D ++ [t] := by
  induction D with
  | nil => rfl
  | cons u D ih =>
    have hu := h u (by simp)
    rw [insT, if_neg (by omega), ih fun v hv => h v (by simp [hv])]; rfl
theorem getT_end {D : List Tr} {x : Int} {L : List Sp} (h : ∀ u ∈ D, u.tr < x) : getT (D ++ [⟨x, L⟩]) x = some L := by
  induction D with
  | nil => rw [List.nil_append, getT_cons, if_pos rfl]
  | cons u D ih =>
    have hu := h u (by simp)
    rw [List.cons_append, getT_cons, if_neg (by omega), ih fun v hv => h v (by simp [hv])]
theorem getT_below {D : List Tr} {x : Int} (h : ∀ u ∈ D, u.tr < x) : getT D x = none := by
  induction D with
  | nil => rfl
  | cons u D ih =>
    have hu := h u (by simp)
    rw [getT_cons, if_neg (by omega), ih fun v hv => h v (by simp [hv])]
theorem setT_end {D : List Tr} {x : Int} {L M : List Sp} (h : ∀ u ∈ D, u.tr < x) : setT (D ++ [⟨x, L⟩]) x M = D ++ [⟨x, M⟩] := by
  unfold setT
  rw [List.map_append, List.map_cons, List.map_nil, if_pos rfl]
  congr 1
  conv => rhs; rw [← List.map_id D]
  refine List.map_congr_left fun u hu => ?_
  have := h u hu
  rw [if_neg (by omega)]; rfl
theorem ingL_own {D : List Tr} {x : Int} (h : ∀ u ∈ D, u.tr < x) (m : List Sp) : ∀ (L : List Sp) (c : Cnt), (∀ s ∈ m, s.tr = x) → (ingL (D ++ [⟨x, L⟩], c) m).1 = D ++ [⟨x, (addL (L, Cnt.zero) m).1⟩] := by
  induction m with
  | nil => intro L c _; rfl
  | cons s m ih =>
    intro L c hm
    have hs := hm s (by simp)
    have e : ingS (D ++ [⟨x, L⟩], c) s = (D ++ [⟨x, (addS (L, Cnt.zero) s).1⟩], c.plus (addS (L, Cnt.zero) s).2) := by
      unfold ingS
      dsimp only
      rw [hs, getT_end h]
      dsimp only
      rw [setT_end h]
    show (ingL (ingS (D ++ [⟨x, L⟩], c) s) m).1 = _
    rw [e, ih _ _ fun s hs => hm s (by simp [hs])]
    show _ = D ++ [⟨x, (addL (addS (L, Cnt.zero) s) m).1⟩]
    rw [addL_fst m (addS (L, Cnt.zero) s).1 Cnt.zero (addS (L, Cnt.zero) s).2]
/-- A trace that is read lies behind those ahead of it. -/
theorem ing_new {D : List Tr} {x : Int} (h : ∀ u ∈ D, u.tr < x) (hl : D.length < 32) {L m : List Sp} (hg : Grown x L) (hne : L ≠ []) (hp : m.Perm L) : (ingA D m).1 = D ++ [⟨x, m⟩] := by
  have hok : m.all Sp.ok = true := List.all_eq_true.2 fun s hs => (fits_ok (hg.fits s (hp.mem_iff.1 hs))).1
  have htr : ∀ s ∈ m, s.tr = x := fun s hs => (fits_ok (hg.fits s (hp.mem_iff.1 hs))).2
  have hadd := congrArg Prod.fst (add_order hg hp)
  rw [addA, if_pos (List.all_eq_true.2 fun s hs => hg.fits s (hp.mem_iff.1 hs))] at hadd
  dsimp only at hadd
  rw [ingA, if_pos hok]
  dsimp only
  cases m with
  | nil => exact absurd (List.nil_perm.1 hp).symm (fun e => hne e.symm)
  | cons s m =>
    have hs := htr s (by simp)
    have hsok : s.ok = true := List.all_eq_true.1 hok s (by simp)
    have e : ingS (D, Cnt.zero) s = (D ++ [⟨x, (addS ([], Cnt.zero) s).1⟩], Cnt.zero.plus (addS ([], Cnt.zero) s).2) := by
      unfold ingS
      dsimp only
      rw [hs, getT_below h]
      dsimp only
      rw [if_neg (by omega), insT_end h]
    show (ingL (ingS (D, Cnt.zero) s) m).1 = _
    rw [e, ingL_own h m _ _ fun s hs => htr s (by simp [hs])]
    have h2 : (addL (addS ([], Cnt.zero) s) m).1 = s :: m := hadd
    rw [addL_fst m (addS ([], Cnt.zero) s).1 Cnt.zero (addS ([], Cnt.zero) s).2]
    rw [← h2]
theorem loadL_enc (l : List UInt8) : ∀ (R D : List Tr) (a : Nat), GrT (D ++ R) → l.drop a = R.flatMap encT → ∃ b, loadL l R.length (normT D) a 0 = some (normT (D ++ R), b, 0) ∧ l.drop b = [] := by
  intro R
  induction R with
  | nil => intro D a _ h; exact ⟨a, by rw [List.append_nil]; rfl, h⟩
  | cons t R ih =>
    intro D a hg h
    obtain ⟨htg, htn⟩ := hg.ok t (by simp)
    have hok := fits_all htg
    have hlen := putEnc_len hok (by rw [sortS_len]; exact htg.len)
    rw [List.flatMap_cons, encT] at h
    have h1 := scText_encM (most := 262144) h (by omega) (by omega)
    have h2 := get_put (sortS t.L) hok (by rw [sortS_len]; have := htg.len; omega)
    have hlt : ∀ u ∈ normT D, u.tr < t.tr := by
      intro u hu
      obtain ⟨v, hv, rfl⟩ := List.mem_map.1 hu
      have := List.pairwise_append.1 hg.srt
      exact this.2.2 v hv t (by simp)
    have hD : (normT D).length < 32 := by
      have := hg.len
      simp only [normT, List.length_map, List.length_append, List.length_cons] at this ⊢
      omega
    have h3 := ing_new hlt hD htg htn (sortS_perm t.L)
    have hne : sortS t.L ≠ [] := fun e => htn (List.length_eq_zero_iff.1 (by rw [← sortS_len, e]; rfl))
    rw [List.length_cons, loadL, if_pos rfl, h1]
    dsimp only
    rw [h2, if_pos ⟨rfl, hne⟩]
    dsimp only
    rw [h3]
    have hn : normT D ++ [⟨t.tr, sortS t.L⟩] = normT (D ++ [t]) := by simp [normT]
    rw [hn]
    have h4 := ih (D ++ [t]) (a + (digits (putEnc (sortS t.L)).length).length + (putEnc (sortS t.L)).length) (by rw [List.append_assoc]; exact hg) (by
      rw [List.append_assoc] at h
      have := drop_on (drop_on h)
      exact this)
    rw [List.append_assoc] at h4
    exact h4
/-- An image is read. -/
theorem load_img {T : List Tr} (h : GrT T) : loadA (imgT T) = some (normT T) := by
  have h0 : (imgT T).drop 0 = digits T.length ++ T.flatMap encT := rfl
  have h1 := scNum_enc h0 (by have := h.len; omega)
  obtain ⟨b, h2, h3⟩ := loadL_enc (imgT T) T [] (0 + (digits T.length).length) h (drop_on h0)
  rw [loadA, h1]
  dsimp only
  have h4 : loadL (imgT T) T.length [] (0 + (digits T.length).length) 0 = some (normT T, b, 0) := h2
  rw [h4]
  have h5 := (normT_perm T).img
  have h6 : (imgT T).length ≤ b := by
    have := congrArg List.length h3
    simp only [List.length_drop, List.length_nil] at this; omega
  simp only [loadFin]
  rw [if_pos ⟨by rw [scEnd, if_neg (by omega)], h5⟩]
end Go.Proofs.YtfjpenbahoeklaaGreatDoor
namespace Go.Proofs.YtfjpenbahoeklaaGreatDoor
open Go Go.RowKit Go.Maps

/-- What Ingest leaves. -/
def ResIng (w : World) (s m : Nat) (S : Nat → Prop) (r : List Tr × Cnt × Int) (e : Ending) (w' : World) : Prop :=
  e = .returned (.tuple #[r.2.1.val, .int .i64 r.2.2]) ∧ St w' s m r.1 (fun k => S k ∨ (w.heap.size ≤ k ∧ k < w'.heap.size)) ∧ Fr S w w'

theorem wrap_sum (x y n : Nat) (h : x + y ≤ n) (hn : n ≤ 1000000000) : wrap64 ((x : Int) + y) = (x : Int) + y := IntWalk.wrap64_in _ (by omega)
theorem wrap_one (x n : Nat) (h : x ≤ n) (hn : n ≤ 1000000000) : wrap64 ((x : Int) + 1) = (x : Int) + 1 := IntWalk.wrap64_in _ (by omega)

set_option maxRecDepth 100000 in
set_option maxHeartbeats 1000000 in
theorem cadd_any (a b : Cnt) (w : World) (h : a.sum + b.sum ≤ 2000000) :
    Calls Tryz.prog 152 #[a.val, b.val] w fun e w' => e = .returned (a.plus b).val ∧ Below w.heap.size w w' := by
  simp only [Cnt.sum] at h
  have e1 : a.ad + b.ad ≤ 2000000 := by omega
  have e2 : a.sa + b.sa ≤ 2000000 := by omega
  have e3 : a.ot + b.ot ≤ 2000000 := by omega
  have e4 : a.cy + b.cy ≤ 2000000 := by omega
  have e5 : a.fu + b.fu ≤ 2000000 := by omega
  have h1 := wrap_sum _ _ _ e1 (by decide)
  have h2 := wrap_sum _ _ _ e2 (by decide)
  have h3 := wrap_sum _ _ _ e3 (by decide)
  have h4 := wrap_sum _ _ _ e4 (by decide)
  have h5 := wrap_sum _ _ _ e5 (by decide)
  clear h e1 e2 e3 e4 e5
  go_enter Tryz.func152, Tryz.ntmps152
  go_wp2_with fail
  refine bodyPost_ret (v := (a.plus b).val) (by simp [results, Tryz.results152, go_sem, Cnt.plus]) rfl ?_
  refine ⟨rfl, ?_⟩
  exact (((Below.refl _ _).alloc (Nat.le_refl _) _).alloc (by simp) _).alloc (by simp <;> omega) _

/-- On the way through Ingest. -/
structure SIn (w wr : World) (s m : Nat) (S : Nat → Prop) (st : List Tr × Cnt) : Prop where
  sto : St wr s m st.1 (fun k => S k ∨ (w.heap.size + 2 ≤ k ∧ k < wr.heap.size))
  fr : Fr S w wr
  c0 : wr.heap[w.heap.size]? = some (.cells Cnt.zero.cells 30 (0, 0))
  c1 : wr.heap[w.heap.size + 1]? = some (.cells st.2.cells 30 (0, 0))
  sz : w.heap.size + 2 ≤ wr.heap.size
section
variable {w wr w1 : World} {s m : Nat} {S : Nat → Prop} {st : List Tr × Cnt}
theorem SIn.below (h : SIn w wr s m S st) (hb : Below wr.heap.size wr w1) : SIn w w1 s m S st :=
  have hs := h.sz
  have hz := hb.size
  ⟨(h.sto.below hb (Nat.le_refl _)).mono (fun k hk => hk.imp id fun ⟨h1, h2⟩ => ⟨h1, by omega⟩) (fun k hk => by
      rcases hk with hk | ⟨_, hk⟩
      · have := h.sto.lt k (.inl hk); omega
      · exact hk),
    h.fr.trans (Fr.of_below hb), (hb.block _ (by omega)).trans h.c0, (hb.block _ (by omega)).trans h.c1, by omega⟩
theorem SIn.sets (h : SIn w wr s m S st) (hS : ∀ k, S k → k < w.heap.size) (hf : Fr (fun k => k = w.heap.size + 1) wr w1) (hz : w1.heap.size = wr.heap.size) (c' : Cnt) (hc : w1.heap[w.heap.size + 1]? = some (.cells c'.cells 30 (0, 0))) : SIn w w1 s m S (st.1, c') := by
  have hs := h.sz
  refine ⟨?_, h.fr.step hf (fun j hj => .inr (by omega)), (hf.block _ (by omega) (by omega)).trans h.c0, hc, by omega⟩
  have := h.sto.fr hf (fun k hk he => by
    rcases hk with hk | ⟨hk, _⟩
    · have := hS k hk; omega
    · omega)
  rw [hz]; exact this
theorem SIn.bump (h : SIn w wr s m S st) (hS : ∀ k, S k → k < w.heap.size) (i : Nat) (v : Value) (c' : Cnt) (hc : st.2.cells.setIfInBounds i v = c'.cells) : SIn w (wr.setCell ⟨w.heap.size + 1, i, none⟩ v) s m S (st.1, c') :=
  h.sets hS (Fr.setCell (S := fun k => k = w.heap.size + 1) (Fr.refl _ _) rfl v) (by simp [World.setCell]) c' (by rw [← hc]; exact blk_set h.c1 i v)
theorem SIn.put (h : SIn w wr s m S st) (hS : ∀ k, S k → k < w.heap.size) (c' : Cnt) : SIn w (((((wr.setCell ⟨w.heap.size + 1, 0, none⟩ (.int .i64 c'.ad)).setCell ⟨w.heap.size + 1, 1, none⟩ (.int .i64 c'.sa)).setCell ⟨w.heap.size + 1, 2, none⟩ (.int .i64 c'.ot)).setCell ⟨w.heap.size + 1, 3, none⟩ (.int .i64 c'.cy)).setCell ⟨w.heap.size + 1, 4, none⟩ (.int .i64 c'.fu)) s m S (st.1, c') :=
  h.sets hS (fr_sets _ _ (fun i => match i with | 0 => .int .i64 c'.ad | 1 => .int .i64 c'.sa | 2 => .int .i64 c'.ot | 3 => .int .i64 c'.cy | 4 => .int .i64 c'.fu)) (by simp [World.setCell]) c' (by
    have := blk_set (blk_set (blk_set (blk_set (blk_set h.c1 0 (.int .i64 c'.ad)) 1 (.int .i64 c'.sa)) 2 (.int .i64 c'.ot)) 3 (.int .i64 c'.cy)) 4 (.int .i64 c'.fu)
    simpa [Cnt.cells] using this)
theorem SIn.fin (h : SIn w wr s m S st) (hS : ∀ k, S k → k < w.heap.size) {w1 : World} (hf : Fr (fun k => k = w.heap.size) wr w1) :
    St w1 s m st.1 (fun k => S k ∨ (w.heap.size ≤ k ∧ k < w1.heap.size)) ∧ Fr S w w1 := by
  have hs := h.sz
  have hz := hf.size
  refine ⟨(h.sto.fr hf (fun k hk he => ?_)).mono (fun k hk => ?_) (fun k hk => ?_), h.fr.step hf (fun j hj => .inr (by omega))⟩
  · rcases hk with hk | ⟨hk, _⟩
    · have := hS k hk; omega
    · omega
  · rcases hk with hk | ⟨h1, h2⟩
    · exact .inl hk
    · exact .inr ⟨by omega, by omega⟩
  · rcases hk with hk | ⟨_, hk⟩
    · have := hS k hk; omega
    · exact hk
/-- The forest of one trace has taken a span: the store behind it. -/
theorem SIn.added (h : SIn w wr s m S st) (hS : ∀ k, S k → k < w.heap.size) {w5 : World} {T2 : List Tr} {x : Int} {p0 a0 d0 B0 : Nat} {L : List Sp} {SX S5 : Nat → Prop} {T5 : List Tr} (hX : StX w5 s m T2 S5 x p0 SX) (hS5 : ∀ k, S5 k → S k ∨ (w.heap.size + 2 ≤ k ∧ k < wr.heap.size))
    {SX2 : Nat → Prop} (hf : Fo w5 p0 a0 d0 x L SX2) (hg : GrT (setT T2 x L)) (he : setT T2 x L = T5) (h2 : ∀ k, SX2 k → SX k ∨ B0 ≤ k) (hB0 : wr.heap.size ≤ B0) (hXS : ∀ k, SX k → S5 k ∨ wr.heap.size ≤ k) (hfr : Fr (fun k => S k ∨ (w.heap.size + 2 ≤ k ∧ k < wr.heap.size)) wr w5) : SIn w w5 s m S (T5, st.2) := by
  subst he
  have hs := h.sz
  have hz := hfr.size
  have hn : ∀ j, j < w.heap.size + 2 → w.heap.size ≤ j → ¬ (S j ∨ (w.heap.size + 2 ≤ j ∧ j < wr.heap.size)) := fun j h1 h2 hk => by
    rcases hk with hk | ⟨hk, _⟩
    · have := hS j hk; omega
    · omega
  refine ⟨hX.close hf hg h2 (fun k hk => ?_) (fun k hk => ?_) (fun k hk => ?_) (fun k hk => ?_), h.fr.step hfr (fun j hj => hj.imp id fun h3 => by omega), (hfr.block _ (by omega) (hn _ (by omega) (by omega))).trans h.c0, (hfr.block _ (by omega) (hn _ (by omega) (by omega))).trans h.c1, by omega⟩
  · rcases hS5 k hk with hk | hk
    · have := hS k hk; omega
    · omega
  · rcases hS5 k hk with hk | hk
    · exact .inl hk
    · exact .inr ⟨hk.1, by omega⟩
  · rcases h2 k hk with hk2 | hk2
    · rcases hXS k hk2 with h3 | h3
      · rcases hS5 k h3 with h3 | h3
        · exact .inl h3
        · exact .inr ⟨h3.1, by omega⟩
      · exact .inr ⟨by omega, hf.lt k hk⟩
    · exact .inr ⟨by omega, hf.lt k hk⟩
  · rcases hk with hk | ⟨_, hk⟩
    · have := hS k hk; omega
    · exact hk
end
theorem ing_facts {wr : World} {s m : Nat} {T : List Tr} {S : Nat → Prop} (h : St wr s m T S) (x : Sp) (W : World) (hW : Below (wr.heap.size + 1) (wr.alloc (.cells #[.int .i64 x.tr, .int .i64 x.id, .int .i64 x.pa, .int .i64 x.st, .int .i64 x.en, .string x.nm] 93)) W) :
    (∀ j, W.cell? ⟨s, j, none⟩ = (#[.map (some m)] : Array Value)[j]?) ∧ (∀ j, W.cell? ⟨wr.heap.size, j, none⟩ = (#[.int .i64 x.tr, .int .i64 x.id, .int .i64 x.pa, .int .i64 x.st, .int .i64 x.en, .string x.nm] : Array Value)[j]?) ∧ W.heap[m]? = wr.heap[m]? := by
  have hb : Below wr.heap.size wr W := ((Below.refl _ _).alloc (Nat.le_refl _) _).trans (hW.mono (by omega))
  exact ⟨blk_cell (h.below hb (Nat.le_refl _)).hp, blk_cell (blk_below hW (by omega) (heap_alloc_new wr _)), hb.block m (h.lt m h.sm)⟩
theorem ingS_some {T : List Tr} {c : Cnt} {x : Sp} {L : List Sp} (h : getT T x.tr = some L) (hx : x.ok = true) : ingS (T, c) x = (setT T x.tr (addA x.tr L [x]).1, c.plus (addA x.tr L [x]).2.1) := by
  simp only [ingS, h, addA_one (fits_own hx)]
theorem ingS_full {T : List Tr} {c : Cnt} {x : Sp} (h : getT T x.tr = none) (h32 : 32 ≤ T.length) : ingS (T, c) x = (T, { c with fu := c.fu + 1 }) := by
  simp only [ingS, h, if_pos h32]
theorem ingS_new {T : List Tr} {c : Cnt} {x : Sp} (h : getT T x.tr = none) (h32 : ¬ 32 ≤ T.length) (hx : x.ok = true) : ingS (T, c) x = (insT T ⟨x.tr, (addA x.tr [] [x]).1⟩, c.plus (addA x.tr [] [x]).2.1) := by
  simp only [ingS, h, if_neg h32, addA_one (fits_own hx)]

end Go.Proofs.YtfjpenbahoeklaaGreatDoor
namespace Go.Proofs.YtfjpenbahoeklaaGreatDoor
open Go Go.RowKit Go.Maps

set_option maxRecDepth 100000 in
set_option maxHeartbeats 4000000 in
theorem ingest_any {w : World} {s m : Nat} {T : List Tr} {S : Nat → Prop} (h : St w s m T S) (A : Option Addr) (n cap B : Nat) (l : List Sp) (hB : B ≤ w.heap.size) (hbig : n ≤ 1000000) (hnm : ∀ s ∈ l, s.nm.size ≤ 140737488355328) (hr : RdS w B A n l) (hS : 0 < n → ∀ k, A.map (·.block) = some k → ¬ S k) :
    Calls Tryz.prog 137 #[.pointer (some ⟨s, 0, none⟩), .slice A n cap] w (ResIng w s m S (ingA T l)) := by
  have hlen := hr.len
  subst hlen
  have HR := Lib.hid hr
  have HNM := Lib.hid hnm
  have hSlt := h.lt
  have HSL : Hid (∀ k, S k → k < w.heap.size) := Lib.hid hSlt
  have HNS := Lib.hid hS
  have hz2 : ((w.alloc (.cells Cnt.zero.cells 30)).alloc (.cells Cnt.zero.cells 30)).heap.size = w.heap.size + 2 := by simp
  have hI : SIn w ((w.alloc (.cells Cnt.zero.cells 30)).alloc (.cells Cnt.zero.cells 30)) s m S (T, Cnt.zero) := by
    have hb : Below w.heap.size w ((w.alloc (.cells Cnt.zero.cells 30)).alloc (.cells Cnt.zero.cells 30)) := ((Below.refl _ _).alloc (Nat.le_refl _) _).alloc (by simp) _
    refine ⟨(h.below hb (Nat.le_refl _)).mono (fun k hk => .inl hk) (fun k hk => ?_), Fr.of_below hb, ?_, ?_, by rw [hz2]; exact Nat.le_refl _⟩
    · rw [hz2] at hk ⊢
      rcases hk with hk | hk
      · have := hSlt k hk; omega
      · omega
    · exact blk_below ((Below.refl (w.heap.size + 1) _).alloc (by simp) _) (by omega) (heap_alloc_new w _)
    · have := heap_alloc_new (w.alloc (.cells Cnt.zero.cells 30)) (.cells Cnt.zero.cells 30)
      rw [World.size_alloc] at this
      exact this
  have HI := Lib.hid hI
  clear hr h hnm hSlt hS hz2 hI
  go_enter Tryz.func137, Tryz.ntmps137
  go_wp2_with fail
  refine (smade_any HI.out.sto).mono ?_
  rintro e w1 ⟨rfl, rfl⟩
  go_wp2_with fail
  go_loopw [21] (fun i wr => ∃ (k : Nat), k ≤ l.length ∧ i = .int .i64 k ∧ (l.take k).all Sp.ok = true ∧ SIn w wr s m S (T, Cnt.zero)) (fun i _ => l.length - (intOf i).toNat)
  case atStart => exact ⟨0, by omega, rfl, rfl, HI.out⟩
  case round =>
    obtain ⟨k, hk, rfl, hall, hin⟩ := hrel
    have HIN := Lib.hid hin
    have HALL := Lib.hid hall
    have hsz := hin.sz
    clear hin hall
    by_cases hlt : k < l.length
    · obtain ⟨b1, o1, rfl, hb1, x0, x1, x2, x3, x4, x5⟩ := RdS.at_ (Fr.rdN HR.out HIN.out.fr hB HNS.out) hlt
      have hk1 : (k : Int) < (l.length : Int) := by omega
      have hnm := HNM.out _ (List.getElem_mem hlt)
      have HTK := Lib.hid (all_take_succ l Sp.ok k hlt)
      have HBAD := Lib.hid (all_false_of l Sp.ok k hlt)
      generalize l[k] = x at *
      have HB0 : Hid (Below wr.heap.size wr (wr.alloc (.cells #[.int .i64 x.tr, .int .i64 x.id, .int .i64 x.pa, .int .i64 x.st, .int .i64 x.en, .string x.nm] 93))) := Lib.hid ((Below.refl _ _).alloc (Nat.le_refl _) _)
      go_wp2_with fail
      refine (check_any x _ hnm).mono ?_
      rintro e v1 ⟨rfl, hbc⟩
      have hbw : Below wr.heap.size wr v1 := HB0.out.trans (hbc.mono (by simp))
      have HI2 := Lib.hid (HIN.out.below hbw)
      have hzv := hbw.size
      clear hbc hbw
      cases hok : x.ok
      · have HC : Hid (x.check = 30) := Lib.hid (Sp.check_f hok)
        have HA : Hid (l.all Sp.ok = false) := Lib.hid (HBAD.out hok)
        clear hok
        rw [HC.out]
        have hc00 : v1.cell? ⟨w.heap.size, 0, none⟩ = some (.int .i64 0) := blk_cell HI2.out.c0 0
        have hc01 : v1.cell? ⟨w.heap.size, 1, none⟩ = some (.int .i64 0) := blk_cell HI2.out.c0 1
        have hc02 : v1.cell? ⟨w.heap.size, 2, none⟩ = some (.int .i64 0) := blk_cell HI2.out.c0 2
        have hc03 : v1.cell? ⟨w.heap.size, 3, none⟩ = some (.int .i64 0) := blk_cell HI2.out.c0 3
        have hc04 : v1.cell? ⟨w.heap.size, 4, none⟩ = some (.int .i64 0) := blk_cell HI2.out.c0 4
        have hc10 : v1.cell? ⟨w.heap.size + 1, 0, none⟩ = some (.int .i64 0) := blk_cell HI2.out.c1 0
        have hc11 : v1.cell? ⟨w.heap.size + 1, 1, none⟩ = some (.int .i64 0) := blk_cell HI2.out.c1 1
        have hc12 : v1.cell? ⟨w.heap.size + 1, 2, none⟩ = some (.int .i64 0) := blk_cell HI2.out.c1 2
        have hc13 : v1.cell? ⟨w.heap.size + 1, 3, none⟩ = some (.int .i64 0) := blk_cell HI2.out.c1 3
        have hc14 : v1.cell? ⟨w.heap.size + 1, 4, none⟩ = some (.int .i64 0) := blk_cell HI2.out.c1 4
        have hf0 := blk_frozen HI2.out.c0
        go_wp2_with fail
        refine bodyPost_ret (v := .tuple #[Cnt.zero.val, .int .i64 30]) (by simp [results, Tryz.results137, go_sem, hc00, hc01, hc02, hc03, hc04, Cnt.zero]) rfl ?_
        have hA : ingA T l = (T, Cnt.zero, 30) := by rw [ingA, if_neg (by rw [HA.out]; exact Bool.false_ne_true)]
        rw [hA]
        exact ⟨rfl, HI2.out.fin HSL.out (fr_sets _ _ (fun _ => .int .i64 0))⟩
      · have HC : Hid (x.check = 0) := Lib.hid (Sp.check_t hok)
        have HOK := Lib.hid hok
        clear hok
        rw [HC.out]
        go_wp2_with fail
        go_roundw
        case rel => exact ⟨k + 1, by omega, by go_num, by rw [HTK.out, HALL.out, HOK.out]; rfl, HI2.out⟩
        case measure => simp [intOf]; omega
    · have hall2 := HALL.out
      rw [List.take_of_length_le (by omega)] at hall2
      have HA2 := Lib.hid hall2
      have hk1 : ¬ (k : Int) < (l.length : Int) := by omega
      clear hall2
      go_wp2_with fail
      go_loopw [34] (fun i wr => ∃ (k : Nat), k ≤ l.length ∧ i = .int .i64 k ∧ SIn w wr s m S (ingL (T, Cnt.zero) (l.take k))) (fun i _ => l.length - (intOf i).toNat)
      case atStart => exact ⟨0, by omega, rfl, HIN.out⟩
      case round =>
        obtain ⟨k, hk, rfl, hin⟩ := hrel
        have HIN := Lib.hid hin
        have hsz := hin.sz
        clear hin
        have hsum := ingL_sum (T, Cnt.zero) (l.take k)
        by_cases hlt : k < l.length
        · obtain ⟨b1, o1, rfl, hb1, x0, x1, x2, x3, x4, x5⟩ := RdS.at_ (Fr.rdN HR.out HIN.out.fr hB HNS.out) hlt
          have hk1 : (k : Int) < (l.length : Int) := by omega
          have hxok := List.all_eq_true.1 HA2.out _ (List.getElem_mem hlt)
          have hnm := HNM.out _ (List.getElem_mem hlt)
          have HST := Lib.hid (show ingL (T, Cnt.zero) (l.take (k + 1)) = ingS (ingL (T, Cnt.zero) (l.take k)) l[k] by rw [List.take_succ_eq_append_getElem hlt, ingL_snoc])
          rw [List.length_take, Nat.min_eq_left hk] at hsum
          generalize l[k] = x at *
          generalize ingL (T, Cnt.zero) (l.take k) = st at *
          obtain ⟨T2, c⟩ := st
          have hcs : c.sum = k := by simpa [Cnt.sum, Cnt.zero] using hsum
          have HCS := Lib.hid hcs
          have HXOK := Lib.hid hxok
          have htb := ok_more hxok
          have hwf : wfI x.tr := wfI_of (by omega) (by omega)
          have hT32 := HIN.out.sto.gr.len
          dsimp only at hT32
          have hsl := HIN.out.sto.lt s HIN.out.sto.ss
          have hml := HIN.out.sto.lt m HIN.out.sto.sm
          have HF := Lib.hid (ing_facts HIN.out.sto x)
          have HB0 : Hid (Below wr.heap.size wr (wr.alloc (.cells #[.int .i64 x.tr, .int .i64 x.id, .int .i64 x.pa, .int .i64 x.st, .int .i64 x.en, .string x.nm] 93))) := Lib.hid ((Below.refl _ _).alloc (Nat.le_refl _) _)
          clear hsum hcs hxok
          go_wp2_with fail
          cases hg : getT T2 x.tr with
          | some L =>
            obtain ⟨p0, a0, d0, SX, hlk, hfo, hX, hXS⟩ := HIN.out.sto.take hwf hg
            have HLK : Hid (∀ W, Below (wr.heap.size + 1) (wr.alloc (.cells #[.int .i64 x.tr, .int .i64 x.id, .int .i64 x.pa, .int .i64 x.st, .int .i64 x.en, .string x.nm] 93)) W → (Instr.lookup 176 (.map (some m)) (.int .i64 x.tr) false).run Tryz.prog W = .ok (.pointer (some ⟨p0, 0, none⟩)) W) := Lib.hid (fun W hW => hlk W (HF.out W hW).2.2)
            have HG := Lib.hid hg
            have HFO := Lib.hid hfo
            have HX := Lib.hid hX
            have HXS := Lib.hid hXS
            clear hg hlk hfo hX hXS
            refine wp_region_sched [(0, true), (1, true), (2, true), (3, true), (4, true), (5, true), (6, true), (7, true)] (fun W => Below (wr.heap.size + 1) (wr.alloc (.cells #[.int .i64 x.tr, .int .i64 x.id, .int .i64 x.pa, .int .i64 x.st, .int .i64 x.en, .string x.nm] 93)) W) (by kernel_rfl) (by kernel_rfl) rfl (by kernel_rfl) ((Below.refl _ _).drew) ?_
            repeat (first | (apply sched_take rfl; (focus (first | rfl | (go_simp; done))); (focus (intro W hW; obtain ⟨f1, f2, _⟩ := HF.out W hW; have f3 := HLK.out W hW; go_simp; rfl)); (focus (intro K hK; go_simp; refine hK _ ?_; clear hK K))) | (apply sched_skip rfl; (focus (first | rfl | (go_simp; done))); (focus (intro K hK; go_simp; refine hK _ ?_; clear hK K))))
            refine sched_nil ?_
            have hbq : Below (wr.heap.size + 1) (wr.alloc (.cells #[.int .i64 x.tr, .int .i64 x.id, .int .i64 x.pa, .int .i64 x.st, .int .i64 x.en, .string x.nm] 93)) (wr.alloc (.cells #[.int .i64 x.tr, .int .i64 x.id, .int .i64 x.pa, .int .i64 x.st, .int .i64 x.en, .string x.nm] 93)).drew := (Below.refl _ _).drew
            have HBQ := Lib.hid hbq
            have HBW2 : Hid (Below wr.heap.size wr (wr.alloc (.cells #[.int .i64 x.tr, .int .i64 x.id, .int .i64 x.pa, .int .i64 x.st, .int .i64 x.en, .string x.nm] 93)).drew) := Lib.hid (HB0.out.drew)
            have hzq : (wr.alloc (.cells #[.int .i64 x.tr, .int .i64 x.id, .int .i64 x.pa, .int .i64 x.st, .int .i64 x.en, .string x.nm] 93)).drew.heap.size = wr.heap.size + 1 := by simp [World.drew, -World.drew_eq]
            generalize (wr.alloc (.cells #[.int .i64 x.tr, .int .i64 x.id, .int .i64 x.pa, .int .i64 x.st, .int .i64 x.en, .string x.nm] 93)).drew = w2 at *
            have hzq1 := Nat.le_of_eq hzq
            have hw2 := Nat.le_of_eq hzq.symm
            clear hzq
            clear hbq
            have HFO2 := Lib.hid (HFO.out.below HBW2.out (Nat.le_refl _))
            have HX2 := Lib.hid (HX.out.below HBW2.out (Nat.le_refl _))
            have HFR2 : Hid (Fr (fun k => S k ∨ (w.heap.size + 2 ≤ k ∧ k < wr.heap.size)) wr w2) := Lib.hid (Fr.of_below HBW2.out)
            have HXC : Hid (w2.heap[wr.heap.size]? = some (.cells #[.int .i64 x.tr, .int .i64 x.id, .int .i64 x.pa, .int .i64 x.st, .int .i64 x.en, .string x.nm] 93 (0, 0))) := Lib.hid (blk_below HBQ.out (by omega) (heap_alloc_new wr _))
            have hin2 := HIN.out.below HBW2.out
            have HIN2 := Lib.hid hin2
            clear hin2
            have HSXn : Hid (∀ k, SX k → k < wr.heap.size) := Lib.hid (fun k hk => by
              have := HFO.out.lt k hk; omega)
            have hxc2 := blk_cell HXC.out
            have hlx2 : wr.heap.size < w2.heap.size := by omega
            have hr3 : RdS (w2.alloc (.cells #[.int .i64 x.tr, .int .i64 x.id, .int .i64 x.pa, .int .i64 x.st, .int .i64 x.en, .string x.nm] 93)) (w2.heap.size + 1) (some ⟨w2.heap.size, 0, none⟩) 1 [x] := RdS.one rfl x 93 (0, 0)
            have HB3 : Hid (Below w2.heap.size w2 (w2.alloc (.cells #[.int .i64 x.tr, .int .i64 x.id, .int .i64 x.pa, .int .i64 x.st, .int .i64 x.en, .string x.nm] 93))) := Lib.hid ((Below.refl _ _).alloc (Nat.le_refl _) _)
            have HCALL := Lib.hid (add_any (HFO2.out.below HB3.out (Nat.le_refl _)) (some ⟨w2.heap.size, 0, none⟩) 1 1 (w2.heap.size + 1) [x] (by simp) (by omega) (by intro t ht; obtain rfl := List.mem_singleton.1 ht; exact hnm) hr3 (by
              intro j hj hs
              have := Option.some.inj hj
              have h2 := HFO2.out.lt j hs
              simp only at this
              omega))
            clear hr3
            go_wp2_with fail
            refine HCALL.out.mono ?_
            rintro e w5 ⟨rfl, hf5, hfr5⟩
            have hz5 := hfr5.size
            simp at hz5
            have hmc : (addA x.tr L [x]).2.1.sum ≤ 1 := by rw [addA_one (fits_own HXOK.out), addS_sum]; exact Nat.le_refl _
            have HSTEP := Lib.hid (ingS_some (c := c) HG.out HXOK.out)
            have hX5 := (HX2.out.below HB3.out (Nat.le_refl _)).fr hfr5 (fun k _ h2 => h2)
            have hg5 : GrT (ingS (T2, c) x).1 := HIN.out.sto.gr.ing c HXOK.out
            rw [HSTEP.out] at hg5
            generalize addA x.tr L [x] = aa at *
            have HI5 : Hid (SIn w w5 s m S (setT T2 x.tr aa.1, c)) := Lib.hid (HIN.out.added HSL.out hX5 (fun k hk => hk) hf5 hg5 rfl (B0 := (w2.alloc (.cells #[.int .i64 x.tr, .int .i64 x.id, .int .i64 x.pa, .int .i64 x.st, .int .i64 x.en, .string x.nm] 93)).heap.size) (fun k hk => hk.imp id fun h => h.1) (by simp; omega) (fun k hk => .inl (HXS.out k hk)) ((HFR2.out.trans (Fr.of_below HB3.out)).trans (hfr5.mono (fun k hk => HXS.out k hk))))
            clear hX5 hg5 hf5
            obtain ⟨T5, m5, e5⟩ := aa
            dsimp only at *
            clear hfr5
            have hc10 : w5.cell? ⟨w.heap.size + 1, 0, none⟩ = some (.int .i64 c.ad) := blk_cell HI5.out.c1 0
            have hc11 : w5.cell? ⟨w.heap.size + 1, 1, none⟩ = some (.int .i64 c.sa) := blk_cell HI5.out.c1 1
            have hc12 : w5.cell? ⟨w.heap.size + 1, 2, none⟩ = some (.int .i64 c.ot) := blk_cell HI5.out.c1 2
            have hc13 : w5.cell? ⟨w.heap.size + 1, 3, none⟩ = some (.int .i64 c.cy) := blk_cell HI5.out.c1 3
            have hc14 : w5.cell? ⟨w.heap.size + 1, 4, none⟩ = some (.int .i64 c.fu) := blk_cell HI5.out.c1 4
            have hlt6 : w.heap.size + 1 < w5.heap.size := by have := HI5.out.sz; omega
            have HB6 : Hid (Below w5.heap.size w5 (w5.alloc (.cells #[.int .i64 m5.ad, .int .i64 m5.sa, .int .i64 m5.ot, .int .i64 m5.cy, .int .i64 m5.fu] 30))) := Lib.hid ((Below.refl _ _).alloc (Nat.le_refl _) _)
            have HCADD := Lib.hid (cadd_any c m5 (w5.alloc (.cells #[.int .i64 m5.ad, .int .i64 m5.sa, .int .i64 m5.ot, .int .i64 m5.cy, .int .i64 m5.fu] 30)) (by have := HCS.out; omega))
            go_wp2_with fail
            refine HCADD.out.mono ?_
            rintro e w7 ⟨rfl, hb7⟩
            have HI7 := Lib.hid (HI5.out.below (HB6.out.trans (hb7.mono (by simp))))
            clear hb7 hc10 hc11 hc12 hc13 hc14
            have hc10 : w7.cell? ⟨w.heap.size + 1, 0, none⟩ = some (.int .i64 c.ad) := blk_cell HI7.out.c1 0
            have hc11 : w7.cell? ⟨w.heap.size + 1, 1, none⟩ = some (.int .i64 c.sa) := blk_cell HI7.out.c1 1
            have hc12 : w7.cell? ⟨w.heap.size + 1, 2, none⟩ = some (.int .i64 c.ot) := blk_cell HI7.out.c1 2
            have hc13 : w7.cell? ⟨w.heap.size + 1, 3, none⟩ = some (.int .i64 c.cy) := blk_cell HI7.out.c1 3
            have hc14 : w7.cell? ⟨w.heap.size + 1, 4, none⟩ = some (.int .i64 c.fu) := blk_cell HI7.out.c1 4
            have hf1 := blk_frozen HI7.out.c1
            go_wp2_with fail
            go_roundw
            case rel =>
              refine ⟨k + 1, by omega, by go_num, ?_⟩
              rw [HST.out, HSTEP.out]
              have := HI7.out.put HSL.out (c.plus m5)
              exact this
            case measure => simp [intOf]; omega
          | none =>
            obtain ⟨v, hlk, hone⟩ := HIN.out.sto.look hwf
            have hv : v = .pointer none := by unfold OneOf at hone; rw [hg] at hone; exact hone
            subst hv
            have HLK : Hid (∀ W, Below (wr.heap.size + 1) (wr.alloc (.cells #[.int .i64 x.tr, .int .i64 x.id, .int .i64 x.pa, .int .i64 x.st, .int .i64 x.en, .string x.nm] 93)) W → (Instr.lookup 176 (.map (some m)) (.int .i64 x.tr) false).run Tryz.prog W = .ok (.pointer none) W) := Lib.hid (fun W hW => hlk W (HF.out W hW).2.2)
            have HG := Lib.hid hg
            clear hg hlk hone
            refine wp_region_sched [(0, true), (1, true), (2, true), (3, true), (4, true), (5, true), (6, true), (7, true)] (fun W => Below (wr.heap.size + 1) (wr.alloc (.cells #[.int .i64 x.tr, .int .i64 x.id, .int .i64 x.pa, .int .i64 x.st, .int .i64 x.en, .string x.nm] 93)) W) (by kernel_rfl) (by kernel_rfl) rfl (by kernel_rfl) ((Below.refl _ _).drew) ?_
            repeat (first | (apply sched_take rfl; (focus (first | rfl | (go_simp; done))); (focus (intro W hW; obtain ⟨f1, f2, _⟩ := HF.out W hW; have f3 := HLK.out W hW; go_simp; rfl)); (focus (intro K hK; go_simp; refine hK _ ?_; clear hK K))) | (apply sched_skip rfl; (focus (first | rfl | (go_simp; done))); (focus (intro K hK; go_simp; refine hK _ ?_; clear hK K))))
            refine sched_nil ?_
            have HBQ1 : Hid (Below (wr.heap.size + 1) (wr.alloc (.cells #[.int .i64 x.tr, .int .i64 x.id, .int .i64 x.pa, .int .i64 x.st, .int .i64 x.en, .string x.nm] 93)) (wr.alloc (.cells #[.int .i64 x.tr, .int .i64 x.id, .int .i64 x.pa, .int .i64 x.st, .int .i64 x.en, .string x.nm] 93)).drew) := Lib.hid ((Below.refl _ _).drew)
            have HBW1 : Hid (Below wr.heap.size wr (wr.alloc (.cells #[.int .i64 x.tr, .int .i64 x.id, .int .i64 x.pa, .int .i64 x.st, .int .i64 x.en, .string x.nm] 93)).drew) := Lib.hid (HB0.out.drew)
            have hzq : (wr.alloc (.cells #[.int .i64 x.tr, .int .i64 x.id, .int .i64 x.pa, .int .i64 x.st, .int .i64 x.en, .string x.nm] 93)).drew.heap.size = wr.heap.size + 1 := by simp [World.drew, -World.drew_eq]
            generalize (wr.alloc (.cells #[.int .i64 x.tr, .int .i64 x.id, .int .i64 x.pa, .int .i64 x.st, .int .i64 x.en, .string x.nm] 93)).drew = w1 at *
            have hzq1 := Nat.le_of_eq hzq
            have hzq2 := Nat.le_of_eq hzq.symm
            clear hzq
            obtain ⟨hsc, hxc, _⟩ := HF.out w1 HBQ1.out
            have HIN1 := Lib.hid (HIN.out.below HBW1.out)
            have hlen := HIN1.out.sto.len 3
            by_cases h32 : 32 ≤ T2.length
            · have h32i : (32 : Int) ≤ (T2.length : Int) := by omega
              have hc10 : w1.cell? ⟨w.heap.size + 1, 0, none⟩ = some (.int .i64 c.ad) := blk_cell HIN1.out.c1 0
              have hc11 : w1.cell? ⟨w.heap.size + 1, 1, none⟩ = some (.int .i64 c.sa) := blk_cell HIN1.out.c1 1
              have hc12 : w1.cell? ⟨w.heap.size + 1, 2, none⟩ = some (.int .i64 c.ot) := blk_cell HIN1.out.c1 2
              have hc13 : w1.cell? ⟨w.heap.size + 1, 3, none⟩ = some (.int .i64 c.cy) := blk_cell HIN1.out.c1 3
              have hc14 : w1.cell? ⟨w.heap.size + 1, 4, none⟩ = some (.int .i64 c.fu) := blk_cell HIN1.out.c1 4
              have hf1 := blk_frozen HIN1.out.c1
              have hwr : wrap64 ((c.fu : Int) + 1) = (c.fu : Int) + 1 := wrap_one c.fu 1000000 (by have := HCS.out; simp only [Cnt.sum] at this; omega) (by decide)
              go_wp2_with fail
              go_roundw
              case rel =>
                clear hwr
                refine ⟨k + 1, by omega, by go_num, ?_⟩
                rw [HST.out, ingS_full HG.out h32]
                exact HIN1.out.bump HSL.out 4 (.int .i64 ((c.fu : Int) + 1)) { c with fu := c.fu + 1 } (by simp [Cnt.cells])
              case measure => simp [intOf]; omega
            · have h32i : ¬ (32 : Int) ≤ (T2.length : Int) := by omega
              have HNEW := Lib.hid (new_any x.tr w1 ⟨by omega, by omega⟩)
              go_wp2_with fail
              refine HNEW.out.mono ?_
              rintro e w3 ⟨p0, a0, d0, rfl, hf3, hb3⟩
              have hz3 := hb3.size
              have HB3' := Lib.hid hb3
              have HBQ3 : Hid (Below (wr.heap.size + 1) (wr.alloc (.cells #[.int .i64 x.tr, .int .i64 x.id, .int .i64 x.pa, .int .i64 x.st, .int .i64 x.en, .string x.nm] 93)) w3) := Lib.hid (HBQ1.out.trans (hb3.mono (by omega)))
              obtain ⟨w2, hrun, hfr2, hz2, hfo2, hX2⟩ := (HIN.out.sto.below HBW1.out (Nat.le_refl _)).addNew hwf HG.out hb3.drew (hf3.drewN 1 : Fo w3.drew _ _ _ _ _ _) (fun k hk => hk.1)
              replace hz2 : w2.heap.size = w3.heap.size := hz2
              replace hfr2 : Fr (fun k => k = m) w3 w2 := (Fr.refl _ _).drew.trans hfr2
              have HC3 : Hid (∀ W, Below (wr.heap.size + 1) (wr.alloc (.cells #[.int .i64 x.tr, .int .i64 x.id, .int .i64 x.pa, .int .i64 x.st, .int .i64 x.en, .string x.nm] 93)) W → (∀ j, W.cell? ⟨s, j, none⟩ = (#[.map (some m)] : Array Value)[j]?) ∧ (∀ j, W.cell? ⟨wr.heap.size, j, none⟩ = (#[.int .i64 x.tr, .int .i64 x.id, .int .i64 x.pa, .int .i64 x.st, .int .i64 x.en, .string x.nm] : Array Value)[j]?)) := Lib.hid (fun W hW => ⟨(HF.out W hW).1, (HF.out W hW).2.1⟩)
              have hz2a := Nat.le_of_eq hz2
              have hz2b := Nat.le_of_eq hz2.symm
              clear hz2
              have HFO2 := Lib.hid hfo2
              have HX2 := Lib.hid hX2
              clear hb3 hf3 hfo2 hX2 hlen hsc hxc
              go_wp2_with fail
              refine wp_region_plan 7 (.take 0 (.take 1 (.take 2 (.take 3 (.take 4 (.take 5 (.take 6 (.op 7 .done)))))))) (fun W => Below (wr.heap.size + 1) (wr.alloc (.cells #[.int .i64 x.tr, .int .i64 x.id, .int .i64 x.pa, .int .i64 x.st, .int .i64 x.en, .string x.nm] 93)) W) (by kernel_rfl) (by kernel_rfl) (by kernel_rfl) (HBQ3.out.drew) ?_
              repeat (first | (apply plan_take rfl; (focus (first | rfl | (go_simp; done))); (focus (intro W hW; obtain ⟨f1, f2⟩ := HC3.out W hW; go_simp; rfl)); (focus (intro K hK; go_simp; refine hK _ ?_; clear hK K))) | (apply plan_skip rfl; (focus (first | rfl | (go_simp; done))); (focus (intro K hK; go_simp; refine hK _ ?_; clear hK K))))
              apply plan_op rfl
              intro K hK
              go_simp
              go_wp2_with (fail)
              refine ⟨fun h => absurd rfl h, ?_⟩
              refine plan_nil ?_
              have HFR2 : Hid (Fr (fun k => S k ∨ (w.heap.size + 2 ≤ k ∧ k < wr.heap.size)) wr w2) := Lib.hid (((Fr.of_below HBW1.out).trans (Fr.of_below HB3'.out)).trans (hfr2.mono (fun k hk => by rw [hk]; exact HIN.out.sto.sm)))
              have HXC : Hid (w2.heap[wr.heap.size]? = some (.cells #[.int .i64 x.tr, .int .i64 x.id, .int .i64 x.pa, .int .i64 x.st, .int .i64 x.en, .string x.nm] 93 (0, 0))) := Lib.hid ((hfr2.block wr.heap.size (by omega) (by omega)).trans (blk_below HBQ3.out (by omega) (heap_alloc_new wr _)))
              have HSXn : Hid (∀ k, (w1.heap.size ≤ k ∧ k < w3.heap.size) → wr.heap.size ≤ k) := Lib.hid (fun k hk => by omega)
              clear hfr2 hrun
              have hxc2 := blk_cell HXC.out
              have hlx2 : wr.heap.size < w2.heap.size := by omega
              have hr3 : RdS (w2.alloc (.cells #[.int .i64 x.tr, .int .i64 x.id, .int .i64 x.pa, .int .i64 x.st, .int .i64 x.en, .string x.nm] 93)) (w2.heap.size + 1) (some ⟨w2.heap.size, 0, none⟩) 1 [x] := RdS.one rfl x 93 (0, 0)
              have HB3 : Hid (Below w2.heap.size w2 (w2.alloc (.cells #[.int .i64 x.tr, .int .i64 x.id, .int .i64 x.pa, .int .i64 x.st, .int .i64 x.en, .string x.nm] 93))) := Lib.hid ((Below.refl _ _).alloc (Nat.le_refl _) _)
              have HCALL := Lib.hid (add_any (HFO2.out.below HB3.out (Nat.le_refl _)) (some ⟨w2.heap.size, 0, none⟩) 1 1 (w2.heap.size + 1) [x] (by simp) (by omega) (by intro t ht; obtain rfl := List.mem_singleton.1 ht; exact hnm) hr3 (by
                intro j hj hs
                have := Option.some.inj hj
                have h2 := HFO2.out.lt j hs
                simp only at this
                omega))
              clear hr3
              go_wp2_with fail
              refine HCALL.out.mono ?_
              rintro e w5 ⟨rfl, hf5, hfr5⟩
              have hz5 := hfr5.size
              simp at hz5
              have hmc : (addA x.tr [] [x]).2.1.sum ≤ 1 := by rw [addA_one (fits_own HXOK.out), addS_sum]; exact Nat.le_refl _
              have HSTEP := Lib.hid (ingS_new (c := c) HG.out h32 HXOK.out)
              have hX5 := (HX2.out.below HB3.out (Nat.le_refl _)).fr hfr5 (fun k _ h2 => h2)
              have hg5 : GrT (ingS (T2, c) x).1 := HIN.out.sto.gr.ing c HXOK.out
              rw [HSTEP.out] at hg5
              generalize addA x.tr [] [x] = aa at *
              have HI5 : Hid (SIn w w5 s m S (insT T2 ⟨x.tr, aa.1⟩, c)) := Lib.hid (HIN.out.added HSL.out hX5 (fun k hk => hk) hf5 (by rw [setT_ins HG.out]; exact hg5) (setT_ins HG.out _ _) (B0 := (w2.alloc (.cells #[.int .i64 x.tr, .int .i64 x.id, .int .i64 x.pa, .int .i64 x.st, .int .i64 x.en, .string x.nm] 93)).heap.size) (fun k hk => hk.imp id fun h => h.1) (by simp; omega) (fun k hk => .inr (HSXn.out k hk)) ((HFR2.out.trans (Fr.of_below HB3.out)).step hfr5 (fun k hk => .inr (HSXn.out k hk))))
              clear hX5 hg5 hf5
              obtain ⟨T5, m5, e5⟩ := aa
              dsimp only at *
              clear hfr5
              have hc10 : w5.cell? ⟨w.heap.size + 1, 0, none⟩ = some (.int .i64 c.ad) := blk_cell HI5.out.c1 0
              have hc11 : w5.cell? ⟨w.heap.size + 1, 1, none⟩ = some (.int .i64 c.sa) := blk_cell HI5.out.c1 1
              have hc12 : w5.cell? ⟨w.heap.size + 1, 2, none⟩ = some (.int .i64 c.ot) := blk_cell HI5.out.c1 2
              have hc13 : w5.cell? ⟨w.heap.size + 1, 3, none⟩ = some (.int .i64 c.cy) := blk_cell HI5.out.c1 3
              have hc14 : w5.cell? ⟨w.heap.size + 1, 4, none⟩ = some (.int .i64 c.fu) := blk_cell HI5.out.c1 4
              have hlt6 : w.heap.size + 1 < w5.heap.size := by have := HI5.out.sz; omega
              have HB6 : Hid (Below w5.heap.size w5 (w5.alloc (.cells #[.int .i64 m5.ad, .int .i64 m5.sa, .int .i64 m5.ot, .int .i64 m5.cy, .int .i64 m5.fu] 30))) := Lib.hid ((Below.refl _ _).alloc (Nat.le_refl _) _)
              have HCADD := Lib.hid (cadd_any c m5 (w5.alloc (.cells #[.int .i64 m5.ad, .int .i64 m5.sa, .int .i64 m5.ot, .int .i64 m5.cy, .int .i64 m5.fu] 30)) (by have := HCS.out; omega))
              go_wp2_with fail
              refine HCADD.out.mono ?_
              rintro e w7 ⟨rfl, hb7⟩
              have HI7 := Lib.hid (HI5.out.below (HB6.out.trans (hb7.mono (by simp))))
              clear hb7 hc10 hc11 hc12 hc13 hc14
              have hc10 : w7.cell? ⟨w.heap.size + 1, 0, none⟩ = some (.int .i64 c.ad) := blk_cell HI7.out.c1 0
              have hc11 : w7.cell? ⟨w.heap.size + 1, 1, none⟩ = some (.int .i64 c.sa) := blk_cell HI7.out.c1 1
              have hc12 : w7.cell? ⟨w.heap.size + 1, 2, none⟩ = some (.int .i64 c.ot) := blk_cell HI7.out.c1 2
              have hc13 : w7.cell? ⟨w.heap.size + 1, 3, none⟩ = some (.int .i64 c.cy) := blk_cell HI7.out.c1 3
              have hc14 : w7.cell? ⟨w.heap.size + 1, 4, none⟩ = some (.int .i64 c.fu) := blk_cell HI7.out.c1 4
              have hf1 := blk_frozen HI7.out.c1
              go_wp2_with fail
              go_roundw
              case rel =>
                refine ⟨k + 1, by omega, by go_num, ?_⟩
                rw [HST.out, HSTEP.out]
                have := HI7.out.put HSL.out (c.plus m5)
                exact this
              case measure => simp [intOf]; omega
        · have hAA : ingA T l = ((ingL (T, Cnt.zero) l).1, (ingL (T, Cnt.zero) l).2, 0) := by rw [ingA, if_pos HA2.out]
          have hin := HIN.out
          rw [List.take_of_length_le (by omega)] at hin
          have HIN9 := Lib.hid hin
          have HAA := Lib.hid hAA
          have hk1 : ¬ (k : Int) < (l.length : Int) := by omega
          clear HIN hin hAA hsum
          generalize ingL (T, Cnt.zero) l = st at *
          obtain ⟨T2, c⟩ := st
          have hc00 : wr.cell? ⟨w.heap.size, 0, none⟩ = some (.int .i64 0) := blk_cell HIN9.out.c0 0
          have hc01 : wr.cell? ⟨w.heap.size, 1, none⟩ = some (.int .i64 0) := blk_cell HIN9.out.c0 1
          have hc02 : wr.cell? ⟨w.heap.size, 2, none⟩ = some (.int .i64 0) := blk_cell HIN9.out.c0 2
          have hc03 : wr.cell? ⟨w.heap.size, 3, none⟩ = some (.int .i64 0) := blk_cell HIN9.out.c0 3
          have hc04 : wr.cell? ⟨w.heap.size, 4, none⟩ = some (.int .i64 0) := blk_cell HIN9.out.c0 4
          have hc10 : wr.cell? ⟨w.heap.size + 1, 0, none⟩ = some (.int .i64 c.ad) := blk_cell HIN9.out.c1 0
          have hc11 : wr.cell? ⟨w.heap.size + 1, 1, none⟩ = some (.int .i64 c.sa) := blk_cell HIN9.out.c1 1
          have hc12 : wr.cell? ⟨w.heap.size + 1, 2, none⟩ = some (.int .i64 c.ot) := blk_cell HIN9.out.c1 2
          have hc13 : wr.cell? ⟨w.heap.size + 1, 3, none⟩ = some (.int .i64 c.cy) := blk_cell HIN9.out.c1 3
          have hc14 : wr.cell? ⟨w.heap.size + 1, 4, none⟩ = some (.int .i64 c.fu) := blk_cell HIN9.out.c1 4
          have hf0 := blk_frozen HIN9.out.c0
          go_wp2_with fail
          refine bodyPost_ret (v := .tuple #[c.val, .int .i64 0]) (by simp [results, Tryz.results137, go_sem, hc00, hc01, hc02, hc03, hc04]) rfl ?_
          rw [HAA.out]
          exact ⟨rfl, HIN9.out.fin HSL.out (fr_sets _ _ (fun i => match i with | 0 => .int .i64 c.ad | 1 => .int .i64 c.sa | 2 => .int .i64 c.ot | 3 => .int .i64 c.cy | 4 => .int .i64 c.fu))⟩
end Go.Proofs.YtfjpenbahoeklaaGreatDoor
namespace Go.Proofs.YtfjpenbahoeklaaGreatDoor
open Go Go.RowKit Go.Maps

/-- What Load leaves. -/
def ResLoad (w : World) (r : Option (List Tr)) (e : Ending) (w' : World) : Prop :=
  Below w.heap.size w w' ∧ match r with
  | none => e = .returned (.tuple #[.pointer none, .int .i64 70])
  | some T => ∃ s m, e = .returned (.tuple #[.pointer (some ⟨s, 0, none⟩), .int .i64 0]) ∧ St w' s m T (fun k => w.heap.size ≤ k ∧ k < w'.heap.size)
theorem getAns_ok (l : List UInt8) : ∀ s ∈ (getAns l).1, s.ok = true := by
  rcases put_get l with ⟨sps, h1, h2, _⟩ | h
  · rw [h1]; exact List.all_eq_true.1 h2
  · rw [h]; simp
theorem getAns_len (l : List UInt8) : (getAns l).1.length ≤ l.length := by
  rcases put_get l with ⟨sps, h1, h2, h3⟩ | h
  · rw [h1, ← h3]; exact putEnc_ge sps
  · rw [h]; simp

end Go.Proofs.YtfjpenbahoeklaaGreatDoor
namespace Go.Proofs.YtfjpenbahoeklaaGreatDoor
open Go Go.RowKit

/-- Numbers read one by one, up to the first error. -/
def votL (l : List UInt8) : Nat → List Int → Nat → Int → List Int × Nat × Int
  | 0, acc, at_, err => (acc, at_, err)
  | n + 1, acc, at_, err => if err = 0 then votL l n (acc ++ [((scNum l at_ err).1 : Int)]) (scNum l at_ err).2.1 (scNum l at_ err).2.2 else (acc, at_, err)
/-- A command read off bytes, whether it may be or not. -/
def cmRd2 (l : List UInt8) (at_ : Nat) (err : Int) : Cm × Nat × Int :=
  let a := scNum l at_ err
  let b := scNum l a.2.1 a.2.2
  let t := scText 4096 l b.2.1 b.2.2
  (⟨2, a.1, b.1, 0, (getAns t.1).1, []⟩, t.2.1, t.2.2)
def cmRead (l : List UInt8) : Cm × Nat × Int :=
  let q := scNum l 0 0
  if q.1 = 2 then cmRd2 l q.2.1 q.2.2
  else if q.1 = 3 then (⟨3, 0, 0, (scNum l q.2.1 q.2.2).1, [], []⟩, (scNum l q.2.1 q.2.2).2.1, (scNum l q.2.1 q.2.2).2.2)
  else if q.1 = 4 then (⟨4, 0, 0, (scNum l q.2.1 q.2.2).1, [], []⟩, (scNum l q.2.1 q.2.2).2.1, (scNum l q.2.1 q.2.2).2.2)
  else if q.1 = 5 then (⟨5, 0, 0, 0, [], (votL l (scNum l q.2.1 q.2.2).1 [] (scNum l q.2.1 q.2.2).2.1 (scNum l q.2.1 q.2.2).2.2).1⟩, (votL l (scNum l q.2.1 q.2.2).1 [] (scNum l q.2.1 q.2.2).2.1 (scNum l q.2.1 q.2.2).2.2).2)
  else (⟨q.1, 0, 0, 0, [], []⟩, q.2.1, q.2.2)
def cmFin (l : List UInt8) (r : Cm × Nat × Int) : Option Cm := if scEnd l r.2.1 r.2.2 = 0 ∧ r.1.ok = true then some r.1 else none
/-- The command that bytes are. -/
def cmGet (l : List UInt8) : Option Cm := cmFin l (cmRead l)

/-- What Get leaves. -/
def ResCm (w : World) (r : Option Cm) (e : Ending) (w' : World) : Prop :=
  ∃ v : CmV, e = .returned (.tuple #[v.val, .int .i64 (if r.isSome = true then 0 else 90)]) ∧ v.c = r.getD Cm.zero ∧ w'.ownsRow w.heap.size 93 6 (.slice v.As v.ns v.cs) v.ns (v.c.sp.flatMap Sp.cells) ∧
    w'.ownsRow w.heap.size 3 1 (.slice v.Av v.nv v.cv) v.nv (v.c.vo.map (Value.int .i64)) ∧ Below w.heap.size w w'

/-- Get under way: what it hands back in block rb, the command in block cb. -/
structure GIn (w wr : World) (rb cb sb pb : Nat) (A1 : Option Addr) (c1 : Nat) (l : List UInt8) (cells : Array Value) (at_ : Nat) (err : Int) : Prop where
  hr : wr.heap[rb]? = some (.cells #[.int .i64 0, .int .i64 0, .int .i64 0, .int .i64 0, .slice none 0 0, .slice none 0 0] 50 (0, 0))
  hc : wr.heap[cb]? = some (.cells cells 50 (0, 0))
  sc : ScanAt wr sb pb A1 c1 l at_ err
  b : Below w.heap.size w wr
  o1 : w.heap.size ≤ rb
  o2 : rb < pb
  o3 : sb < cb
section
variable {w wr w2 : World} {rb cb sb pb c1 at_ at2 : Nat} {A1 : Option Addr} {l : List UInt8} {cells : Array Value} {err err2 : Int}
theorem GIn.cbl (h : GIn w wr rb cb sb pb A1 c1 l cells at_ err) : cb < wr.heap.size := (Array.getElem?_eq_some_iff.1 h.hc).1
theorem GIn.scan (h : GIn w wr rb cb sb pb A1 c1 l cells at_ err) (hf : Fr (SP sb pb) wr w2) (hs : ScanAt w2 sb pb A1 c1 l at2 err2) : GIn w w2 rb cb sb pb A1 c1 l cells at2 err2 := by
  have h1 := h.cbl
  have h2 := h.o1
  have h3 := h.o2
  have h4 := h.o3
  have h5 := h.sc.lt
  have h6 := h.b.size
  exact ⟨(hf.block rb (by omega) (fun hk => by rcases hk with rfl | rfl <;> omega)).trans h.hr, (hf.block cb h1 (fun hk => by rcases hk with rfl | rfl <;> omega)).trans h.hc, hs, h.b.trans (hf.below h6 (fun k hk => by rcases hk with rfl | rfl <;> omega)), h.o1, h.o2, h.o3⟩
theorem GIn.below {B : Nat} (h : GIn w wr rb cb sb pb A1 c1 l cells at_ err) (hb : Below B wr w2) (hB : cb < B) : GIn w w2 rb cb sb pb A1 c1 l cells at_ err := by
  have h2 := h.o1
  have h3 := h.o2
  have h4 := h.o3
  have h5 := h.sc.lt
  exact ⟨(hb.block rb (by omega)).trans h.hr, (hb.block cb hB).trans h.hc, h.sc.below hb (by omega), h.b.trans (hb.mono (by omega)), h.o1, h.o2, h.o3⟩
theorem GIn.set (h : GIn w wr rb cb sb pb A1 c1 l cells at_ err) (j : Nat) (u : Value) : GIn w (wr.setCell ⟨cb, j, none⟩ u) rb cb sb pb A1 c1 l (cells.setIfInBounds j u) at_ err := by
  have h1 := h.cbl
  have h2 := h.o1
  have h3 := h.o2
  have h4 := h.o3
  have h5 := h.sc.lt
  exact ⟨(Below.heap_setCell _ _ _ _ (by simp only; omega)).trans h.hr, blk_set h.hc j u, h.sc.fr ((Fr.refl (fun k => k = cb) wr).setCell rfl u) (fun k hk => by rw [hk]; exact h4), h.b.setCell (by simp only; omega) u, h.o1, h.o2, h.o3⟩
end
theorem fr_six (w : World) (b : Nat) (u0 u1 u2 u3 u4 u5 : Value) : Fr (fun k => k = b) w ((((((w.setCell ⟨b, 0, none⟩ u0).setCell ⟨b, 1, none⟩ u1).setCell ⟨b, 2, none⟩ u2).setCell ⟨b, 3, none⟩ u3).setCell ⟨b, 4, none⟩ u4).setCell ⟨b, 5, none⟩ u5) :=
  (((((((Fr.refl (fun k => k = b) w).setCell (p := ⟨b, 0, none⟩) rfl u0).setCell (p := ⟨b, 1, none⟩) rfl u1).setCell (p := ⟨b, 2, none⟩) rfl u2).setCell (p := ⟨b, 3, none⟩) rfl u3).setCell (p := ⟨b, 4, none⟩) rfl u4).setCell (p := ⟨b, 5, none⟩) rfl u5)
set_option maxRecDepth 100000 in
set_option maxHeartbeats 8000000 in
theorem mget_any (A : Option Addr) (n cap B : Nat) (l : List UInt8) (w : World) (hB : B ≤ w.heap.size) (hbig : n ≤ 4294967296) (hr : RdB w B A n l) :
    Calls Tryz.prog 45 #[.slice A n cap] w (ResCm w (cmGet l)) := by
  have hlen := hr.len
  subst hlen
  have HCM : Hid (cmGet l = cmFin l (cmRead l)) := Lib.hid rfl
  have HCR : Hid (cmRead l = if (scNum l 0 0).1 = 2 then cmRd2 l (scNum l 0 0).2.1 (scNum l 0 0).2.2
  else if (scNum l 0 0).1 = 3 then (⟨3, 0, 0, (scNum l (scNum l 0 0).2.1 (scNum l 0 0).2.2).1, [], []⟩, (scNum l (scNum l 0 0).2.1 (scNum l 0 0).2.2).2.1, (scNum l (scNum l 0 0).2.1 (scNum l 0 0).2.2).2.2)
  else if (scNum l 0 0).1 = 4 then (⟨4, 0, 0, (scNum l (scNum l 0 0).2.1 (scNum l 0 0).2.2).1, [], []⟩, (scNum l (scNum l 0 0).2.1 (scNum l 0 0).2.2).2.1, (scNum l (scNum l 0 0).2.1 (scNum l 0 0).2.2).2.2)
  else if (scNum l 0 0).1 = 5 then (⟨5, 0, 0, 0, [], (votL l (scNum l (scNum l 0 0).2.1 (scNum l 0 0).2.2).1 [] (scNum l (scNum l 0 0).2.1 (scNum l 0 0).2.2).2.1 (scNum l (scNum l 0 0).2.1 (scNum l 0 0).2.2).2.2).1⟩, (votL l (scNum l (scNum l 0 0).2.1 (scNum l 0 0).2.2).1 [] (scNum l (scNum l 0 0).2.1 (scNum l 0 0).2.2).2.1 (scNum l (scNum l 0 0).2.1 (scNum l 0 0).2.2).2.2).2)
  else (⟨(scNum l 0 0).1, 0, 0, 0, [], []⟩, (scNum l 0 0).2.1, (scNum l 0 0).2.2)) := Lib.hid rfl
  have hR1 : RdB (w.alloc (.cells #[.int .i64 0, .int .i64 0, .int .i64 0, .int .i64 0, .slice none 0 0, .slice none 0 0] 50 (0, 0))) B A l.length l := hr.alloc _ hB (Nat.le_refl _)
  have HR1 := Lib.hid hR1
  clear hr hR1
  go_enter Tryz.func45, Tryz.ntmps45
  go_wp2_with fail
  refine (over_any _ _ _ _ _ _ (by simp; omega) (by omega) HR1.out).mono ?_
  rintro e w1 ⟨sb, pb, A1, c1, rfl, hpb, hs1, hb1⟩
  have hr1 : w1.heap[w.heap.size]? = some (.cells #[.int .i64 0, .int .i64 0, .int .i64 0, .int .i64 0, .slice none 0 0, .slice none 0 0] 50 (0, 0)) := (hb1.block _ (by simp)).trans (heap_alloc_new w _)
  have hB1 : Below w.heap.size w w1 := ((Below.refl _ _).alloc (Nat.le_refl _) _).trans (hb1.mono (by simp))
  simp only [World.size_alloc] at hpb
  go_wp2_with fail
  refine (scanNumber_any hs1).mono ?_
  rintro e w2 ⟨rfl, hs2, hf2⟩
  have hsbl := hs1.sb_lt
  have hps := hs1.lt
  have hz2 := hf2.size
  have hR2 : w2.heap[w.heap.size]? = some (.cells #[.int .i64 0, .int .i64 0, .int .i64 0, .int .i64 0, .slice none 0 0, .slice none 0 0] 50 (0, 0)) := (hf2.block _ (by omega) (fun hk => by rcases hk with h | h <;> omega)).trans hr1
  have hB2 : Below w.heap.size w w2 := hB1.trans (hf2.below hB1.size (fun k hk => by rcases hk with h | h <;> omega))
  have hNb := scNum_bound l 0 0
  generalize scNum l 0 0 = q at *
  obtain ⟨K, a2, e2⟩ := q
  dsimp only at hs2 HCR hNb ⊢
  have hG : ∀ u : Value, GIn w (w2.alloc (.cells #[u, .int .i64 0, .int .i64 0, .int .i64 0, .slice none 0 0, .slice none 0 0] 50 (0, 0))) w.heap.size w2.heap.size sb pb A1 c1 l #[u, .int .i64 0, .int .i64 0, .int .i64 0, .slice none 0 0, .slice none 0 0] a2 e2 := fun u =>
    ⟨(Below.heap_alloc _ _ _ (by omega)).trans hR2, heap_alloc_new w2 _, hs2.below ((Below.refl w2.heap.size w2).alloc (Nat.le_refl _) _) (by omega), hB2.alloc hB2.size _, Nat.le_refl _, by omega, by omega⟩
  have HGU := Lib.hid hG
  have HB2 := Lib.hid hB2
  clear hs1 hb1 hr1 hB1 hs2 hf2 hR2 hB2 hG
  by_cases hk2 : K = 2
  · subst hk2
    have hG := HGU.out (.int .i64 2)
    have HG0 := Lib.hid hG
    have hcb := hG.cbl
    clear hG HGU
    go_wp2_with fail
    refine (scanNumber_any HG0.out.sc).mono ?_
    rintro e w3 ⟨rfl, hs3, hf3⟩
    have hR0 : cmRead l = (⟨2, (scNum l a2 e2).1, (scNum l (scNum l a2 e2).2.1 (scNum l a2 e2).2.2).1, 0, (getAns (scText 4096 l (scNum l (scNum l a2 e2).2.1 (scNum l a2 e2).2.2).2.1 (scNum l (scNum l a2 e2).2.1 (scNum l a2 e2).2.2).2.2).1).1, []⟩, (scText 4096 l (scNum l (scNum l a2 e2).2.1 (scNum l a2 e2).2.2).2.1 (scNum l (scNum l a2 e2).2.1 (scNum l a2 e2).2.2).2.2).2.1, (scText 4096 l (scNum l (scNum l a2 e2).2.1 (scNum l a2 e2).2.2).2.1 (scNum l (scNum l a2 e2).2.1 (scNum l a2 e2).2.2).2.2).2.2) := by rw [HCR.out, if_pos (by trivial)]; rfl
    generalize scNum l a2 e2 = q at *
    obtain ⟨a, a3, e3⟩ := q
    dsimp only at hs3 hR0 ⊢
    have HR0 := Lib.hid hR0
    have HG3 := Lib.hid (HG0.out.scan hf3 hs3)
    clear hs3 hf3 hR0
    go_wp2_with fail
    refine (scanNumber_any HG3.out.sc).mono ?_
    rintro e w4 ⟨rfl, hs4, hf4⟩
    have hR0 := HR0.out
    generalize scNum l a3 e3 = q at *
    obtain ⟨b, a4, e4⟩ := q
    dsimp only at hs4 hR0 ⊢
    have hG4 := HG3.out.scan hf4 hs4
    have HG5 := Lib.hid ((hG4.set 1 (.int .i64 a)).set 2 (.int .i64 b))
    have fc0 := blk_cell hG4.hc
    have ff0 := blk_frozen hG4.hc
    have hcb3 := hG4.cbl
    have hsz5 : ((w4.setCell ⟨w2.heap.size, 1, none⟩ (.int .i64 a)).setCell ⟨w2.heap.size, 2, none⟩ (.int .i64 b)).heap.size = w4.heap.size := by simp
    clear hs4 hf4 hG4 HR0
    go_wp2_with fail
    clear fc0 ff0
    refine (scanText_any 4096 (by omega) HG5.out.sc).mono ?_
    rintro e w5 ⟨rfl, hs5, hf5⟩
    have htl := scText_len 4096 l a4 e4
    generalize scText 4096 l a4 e4 = tq at *
    obtain ⟨tx, a5, e5⟩ := tq
    dsimp only at hs5 hR0 htl ⊢
    have HR1 := Lib.hid hR0
    have HG6 := Lib.hid (HG5.out.scan hf5 hs5)
    clear hs5 hf5 hR0
    go_wp2_with fail
    refine upon_conv_sb Tryz.underlying9 Tryz.underlying73 Tryz.underlying5 ?_
    intro cap2 w6 _ hb6 hzw6 hr6
    have htsz : (⟨tx.toArray⟩ : ByteArray).size = tx.length := by show tx.toArray.size = _; simp
    have HR6 : Hid (RdB w6 (w5.heap.size + 1) (some ⟨w5.heap.size, 0, none⟩) tx.length tx) := Lib.hid (by
      have h := hr6
      rw [htsz] at h
      have e : Lib.strCells ⟨tx.toArray⟩ = tx.map u8v := by simp [Lib.strCells, u8v]
      rw [e] at h
      exact h)
    rw [htsz]
    have HG7 := Lib.hid (HG6.out.below hb6 HG6.out.cbl)
    clear hb6 hr6 htsz
    go_wp2_with fail
    refine (Get_any _ _ _ _ tx _ (by omega) (by omega) HR6.out).mono ?_
    rintro e w7 ⟨A3, c3, rfl, hown7, hb7⟩
    have hgl := getAns_len tx
    have hgo := getAns_ok tx
    have hR0 := HR1.out
    generalize getAns tx = ga at *
    obtain ⟨sp, e7⟩ := ga
    dsimp only at hown7 hgl hgo hR0 ⊢
    have hG8 := HG7.out.below hb7 HG7.out.cbl
    have hcb8 := hG8.cbl
    have hcb7 := HG7.out.cbl
    have HRD := Lib.hid hR0
    have HG := Lib.hid (hG8.set 4 (.slice A3 sp.length c3))
    have fc0 := blk_cell hG8.hc
    have ff0 := blk_frozen hG8.hc
    have HSP : Hid ((w7.setCell ⟨w2.heap.size, 4, none⟩ (.slice A3 sp.length c3)).ownsRow (w2.heap.size + 1) 93 6 (.slice A3 sp.length c3) sp.length (sp.flatMap Sp.cells)) := Lib.hid (own_le (own_fr (S := fun k => k = w2.heap.size) hown7 ((Fr.refl (fun k => k = w2.heap.size) w7).setCell (p := ⟨w2.heap.size, 4, none⟩) rfl _) (fun k hk => by rw [hk]; exact hcb7)) (by omega))
    have HVO : Hid ((w7.setCell ⟨w2.heap.size, 4, none⟩ (.slice A3 sp.length c3)).ownsRow (w2.heap.size + 1) 3 1 (.slice none 0 0) 0 (([] : List Int).map (Value.int .i64))) := Lib.hid (World.ownsRow_nil _ _ _ _)
    have HNM : Hid (∀ s ∈ sp, s.nm.size ≤ 140737488355328) := Lib.hid (fun s hs => by have := (ok_bounds (hgo s hs)).2.2.2.2.2; omega)
    clear hown7 hb7 hR0 hG8 hgo
    go_wp2_with fail
    clear fc0 ff0
    go_wp2_with fail
    refine (scanEnd_any HG.out.sc).mono ?_
    rintro e z1 ⟨rfl, hsz1, hfz1⟩
    have HZ1 := Lib.hid (HG.out.scan hfz1 hsz1)
    have HSP1 := Lib.hid (own_fr HSP.out hfz1 (fun k hk => by have := HG.out.o3; have := HG.out.sc.lt; rcases hk with rfl | rfl <;> omega))
    have HVO1 := Lib.hid (own_fr HVO.out hfz1 (fun k hk => by have := HG.out.o3; have := HG.out.sc.lt; rcases hk with rfl | rfl <;> omega))
    have fr1 := blk_cell HZ1.out.hr
    have fr2 := blk_frozen HZ1.out.hr
    have fc1 := blk_cell HZ1.out.hc
    have hor := HZ1.out.o1
    have hor2 : w.heap.size < w2.heap.size := by have := HZ1.out.o2; have := HZ1.out.o3; have := HZ1.out.sc.lt; omega
    clear hsz1 hfz1
    have HRR : Hid (cmGet l = cmFin l ((⟨2, a, b, 0, sp, []⟩ : Cm), a5, e5)) := Lib.hid (by rw [HCM.out, HRD.out])
    generalize hee : scEnd l a5 e5 = ee at *
    have HEE := Lib.hid hee
    clear hee
    by_cases he : ee = 0
    · subst he
      have hmc := mcheck_any (⟨(⟨2, a, b, 0, sp, []⟩ : Cm), A3, sp.length, c3, none, 0, 0⟩ : CmV) (z1.heap.size) z1 (Nat.le_refl _) (by simp only; omega) (by simp only; omega) HNM.out ⟨Rd.of_own HSP1.out, Rd.of_own HVO1.out⟩
      dsimp only [CmV.val] at hmc
      have HMC := Lib.hid hmc
      clear hmc
      go_wp2_with fail
      refine HMC.out.mono ?_
      rintro e z2 ⟨rfl, hbz2⟩
      have HZ2 := Lib.hid (HZ1.out.below hbz2 HZ1.out.cbl)
      have HSP2 := Lib.hid (own_below HSP1.out hbz2)
      have HVO2 := Lib.hid (own_below HVO1.out hbz2)
      clear hbz2 fr1 fr2 fc1
      have fr1 := blk_cell HZ2.out.hr
      have fr2 := blk_frozen HZ2.out.hr
      have fc1 := blk_cell HZ2.out.hc
      cases hok : Cm.ok (⟨2, a, b, 0, sp, []⟩ : Cm)
      · have hch : Cm.check (⟨2, a, b, 0, sp, []⟩ : Cm) = 90 := by unfold Cm.check; rw [hok]; rfl
        rw [hch]
        have HNO : Hid (cmGet l = none) := Lib.hid (by rw [HRR.out, cmFin, if_neg (fun h => by have := h.2; rw [hok] at this; cases this)])
        clear hok
        go_wp2_with fail
        refine bodyPost_ret (v := .tuple #[.agg #[.int .i64 0, .int .i64 0, .int .i64 0, .int .i64 0, .slice none 0 0, .slice none 0 0], .int .i64 90]) (by simp [results, Tryz.results45, go_sem, fr1]) rfl ?_
        rw [HNO.out]
        exact ⟨⟨Cm.zero, none, 0, 0, none, 0, 0⟩, rfl, rfl, World.ownsRow_nil _ _ _ _, World.ownsRow_nil _ _ _ _, HZ2.out.b.trans (Fr.below (S := fun k => k = w.heap.size) (fr_six _ _ _ _ _ _ _ _) HZ2.out.b.size (fun k hk => by omega))⟩
      · have hch : Cm.check (⟨2, a, b, 0, sp, []⟩ : Cm) = 0 := by unfold Cm.check; rw [hok]; rfl
        rw [hch]
        have HYES : Hid (cmGet l = some (⟨2, a, b, 0, sp, []⟩ : Cm)) := Lib.hid (by rw [HRR.out, cmFin, if_pos ⟨HEE.out, hok⟩])
        clear hok
        go_wp2_with fail
        refine bodyPost_ret (v := .tuple #[.agg #[.int .i64 2, .int .i64 (a : Int), .int .i64 (b : Int), .int .i64 0, .slice A3 sp.length c3, .slice none 0 0], .int .i64 0]) (by simp [results, Tryz.results45, go_sem, fr1]) rfl ?_
        rw [HYES.out]
        exact ⟨(⟨(⟨2, a, b, 0, sp, []⟩ : Cm), A3, sp.length, c3, none, 0, 0⟩ : CmV), rfl, rfl, own_le (own_fr (S := fun k => k = w.heap.size) HSP2.out (fr_six _ _ _ _ _ _ _ _) (fun k hk => by omega)) (by omega), own_le (own_fr (S := fun k => k = w.heap.size) HVO2.out (fr_six _ _ _ _ _ _ _ _) (fun k hk => by omega)) (by omega), HZ2.out.b.trans (Fr.below (S := fun k => k = w.heap.size) (fr_six _ _ _ _ _ _ _ _) HZ2.out.b.size (fun k hk => by omega))⟩
    · have hbe : (ee != 0) = true := by simpa using he
      have HNO : Hid (cmGet l = none) := Lib.hid (by rw [HRR.out, cmFin, if_neg (fun h => he (HEE.out.symm.trans h.1))])
      clear he
      go_wp2_with fail
      refine bodyPost_ret (v := .tuple #[.agg #[.int .i64 0, .int .i64 0, .int .i64 0, .int .i64 0, .slice none 0 0, .slice none 0 0], .int .i64 90]) (by simp [results, Tryz.results45, go_sem, fr1]) rfl ?_
      rw [HNO.out]
      exact ⟨⟨Cm.zero, none, 0, 0, none, 0, 0⟩, rfl, rfl, World.ownsRow_nil _ _ _ _, World.ownsRow_nil _ _ _ _, HZ1.out.b.trans (Fr.below (S := fun k => k = w.heap.size) (fr_six _ _ _ _ _ _ _ _) HZ1.out.b.size (fun k hk => by omega))⟩
  by_cases hk3 : K = 3
  · subst hk3
    have hG := HGU.out (.int .i64 3)
    have HG0 := Lib.hid hG
    have hcb := hG.cbl
    clear hG HGU
    go_wp2_with fail
    refine (scanNumber_any HG0.out.sc).mono ?_
    rintro e w3 ⟨rfl, hs3, hf3⟩
    have hR0 : cmRead l = (⟨3, 0, 0, (scNum l a2 e2).1, [], []⟩, (scNum l a2 e2).2.1, (scNum l a2 e2).2.2) := by rw [HCR.out]; simp
    have hNb2 := scNum_bound l a2 e2
    generalize scNum l a2 e2 = q at *
    obtain ⟨a, a3, e3⟩ := q
    dsimp only at hs3 hR0 hNb2 ⊢
    have hG3 := HG0.out.scan hf3 hs3
    have HRD := Lib.hid hR0
    have HG := Lib.hid (hG3.set 3 (.int .i64 a))
    have fc0 := blk_cell hG3.hc
    have ff0 := blk_frozen hG3.hc
    have hcb3 := hG3.cbl
    have HSP : Hid ((w3.setCell ⟨w2.heap.size, 3, none⟩ (.int .i64 a)).ownsRow (w2.heap.size + 1) 93 6 (.slice none 0 0) 0 (([] : List Sp).flatMap Sp.cells)) := Lib.hid (World.ownsRow_nil _ _ _ _)
    have HVO : Hid ((w3.setCell ⟨w2.heap.size, 3, none⟩ (.int .i64 a)).ownsRow (w2.heap.size + 1) 3 1 (.slice none 0 0) 0 (([] : List Int).map (Value.int .i64))) := Lib.hid (World.ownsRow_nil _ _ _ _)
    have HNM : Hid (∀ s ∈ ([] : List Sp), s.nm.size ≤ 140737488355328) := Lib.hid (by simp)
    clear hs3 hf3 hR0 hG3
    go_wp2_with fail
    clear fc0 ff0
    go_wp2_with fail
    refine (scanEnd_any HG.out.sc).mono ?_
    rintro e z1 ⟨rfl, hsz1, hfz1⟩
    have HZ1 := Lib.hid (HG.out.scan hfz1 hsz1)
    have HSP1 := Lib.hid (own_fr HSP.out hfz1 (fun k hk => by have := HG.out.o3; have := HG.out.sc.lt; rcases hk with rfl | rfl <;> omega))
    have HVO1 := Lib.hid (own_fr HVO.out hfz1 (fun k hk => by have := HG.out.o3; have := HG.out.sc.lt; rcases hk with rfl | rfl <;> omega))
    have fr1 := blk_cell HZ1.out.hr
    have fr2 := blk_frozen HZ1.out.hr
    have fc1 := blk_cell HZ1.out.hc
    have hor := HZ1.out.o1
    have hor2 : w.heap.size < w2.heap.size := by have := HZ1.out.o2; have := HZ1.out.o3; have := HZ1.out.sc.lt; omega
    clear hsz1 hfz1
    have HRR : Hid (cmGet l = cmFin l ((⟨3, 0, 0, a, [], []⟩ : Cm), a3, e3)) := Lib.hid (by rw [HCM.out, HRD.out])
    generalize hee : scEnd l a3 e3 = ee at *
    have HEE := Lib.hid hee
    clear hee
    by_cases he : ee = 0
    · subst he
      have hmc := mcheck_any (⟨(⟨3, 0, 0, a, [], []⟩ : Cm), none, 0, 0, none, 0, 0⟩ : CmV) (z1.heap.size) z1 (Nat.le_refl _) (by simp only; omega) (by simp only; omega) HNM.out ⟨Rd.of_own HSP1.out, Rd.of_own HVO1.out⟩
      dsimp only [CmV.val] at hmc
      have HMC := Lib.hid hmc
      clear hmc
      go_wp2_with fail
      refine HMC.out.mono ?_
      rintro e z2 ⟨rfl, hbz2⟩
      have HZ2 := Lib.hid (HZ1.out.below hbz2 HZ1.out.cbl)
      have HSP2 := Lib.hid (own_below HSP1.out hbz2)
      have HVO2 := Lib.hid (own_below HVO1.out hbz2)
      clear hbz2 fr1 fr2 fc1
      have fr1 := blk_cell HZ2.out.hr
      have fr2 := blk_frozen HZ2.out.hr
      have fc1 := blk_cell HZ2.out.hc
      cases hok : Cm.ok (⟨3, 0, 0, a, [], []⟩ : Cm)
      · have hch : Cm.check (⟨3, 0, 0, a, [], []⟩ : Cm) = 90 := by unfold Cm.check; rw [hok]; rfl
        rw [hch]
        have HNO : Hid (cmGet l = none) := Lib.hid (by rw [HRR.out, cmFin, if_neg (fun h => by have := h.2; rw [hok] at this; cases this)])
        clear hok
        go_wp2_with fail
        refine bodyPost_ret (v := .tuple #[.agg #[.int .i64 0, .int .i64 0, .int .i64 0, .int .i64 0, .slice none 0 0, .slice none 0 0], .int .i64 90]) (by simp [results, Tryz.results45, go_sem, fr1]) rfl ?_
        rw [HNO.out]
        exact ⟨⟨Cm.zero, none, 0, 0, none, 0, 0⟩, rfl, rfl, World.ownsRow_nil _ _ _ _, World.ownsRow_nil _ _ _ _, HZ2.out.b.trans (Fr.below (S := fun k => k = w.heap.size) (fr_six _ _ _ _ _ _ _ _) HZ2.out.b.size (fun k hk => by omega))⟩
      · have hch : Cm.check (⟨3, 0, 0, a, [], []⟩ : Cm) = 0 := by unfold Cm.check; rw [hok]; rfl
        rw [hch]
        have HYES : Hid (cmGet l = some (⟨3, 0, 0, a, [], []⟩ : Cm)) := Lib.hid (by rw [HRR.out, cmFin, if_pos ⟨HEE.out, hok⟩])
        clear hok
        go_wp2_with fail
        refine bodyPost_ret (v := .tuple #[.agg #[.int .i64 3, .int .i64 0, .int .i64 0, .int .i64 (a : Int), .slice none 0 0, .slice none 0 0], .int .i64 0]) (by simp [results, Tryz.results45, go_sem, fr1]) rfl ?_
        rw [HYES.out]
        exact ⟨(⟨(⟨3, 0, 0, a, [], []⟩ : Cm), none, 0, 0, none, 0, 0⟩ : CmV), rfl, rfl, own_le (own_fr (S := fun k => k = w.heap.size) HSP2.out (fr_six _ _ _ _ _ _ _ _) (fun k hk => by omega)) (by omega), own_le (own_fr (S := fun k => k = w.heap.size) HVO2.out (fr_six _ _ _ _ _ _ _ _) (fun k hk => by omega)) (by omega), HZ2.out.b.trans (Fr.below (S := fun k => k = w.heap.size) (fr_six _ _ _ _ _ _ _ _) HZ2.out.b.size (fun k hk => by omega))⟩
    · have hbe : (ee != 0) = true := by simpa using he
      have HNO : Hid (cmGet l = none) := Lib.hid (by rw [HRR.out, cmFin, if_neg (fun h => he (HEE.out.symm.trans h.1))])
      clear he
      go_wp2_with fail
      refine bodyPost_ret (v := .tuple #[.agg #[.int .i64 0, .int .i64 0, .int .i64 0, .int .i64 0, .slice none 0 0, .slice none 0 0], .int .i64 90]) (by simp [results, Tryz.results45, go_sem, fr1]) rfl ?_
      rw [HNO.out]
      exact ⟨⟨Cm.zero, none, 0, 0, none, 0, 0⟩, rfl, rfl, World.ownsRow_nil _ _ _ _, World.ownsRow_nil _ _ _ _, HZ1.out.b.trans (Fr.below (S := fun k => k = w.heap.size) (fr_six _ _ _ _ _ _ _ _) HZ1.out.b.size (fun k hk => by omega))⟩
  by_cases hk4 : K = 4
  · subst hk4
    have hG := HGU.out (.int .i64 4)
    have HG0 := Lib.hid hG
    have hcb := hG.cbl
    clear hG HGU
    go_wp2_with fail
    refine (scanNumber_any HG0.out.sc).mono ?_
    rintro e w3 ⟨rfl, hs3, hf3⟩
    have hR0 : cmRead l = (⟨4, 0, 0, (scNum l a2 e2).1, [], []⟩, (scNum l a2 e2).2.1, (scNum l a2 e2).2.2) := by rw [HCR.out]; simp
    have hNb2 := scNum_bound l a2 e2
    generalize scNum l a2 e2 = q at *
    obtain ⟨a, a3, e3⟩ := q
    dsimp only at hs3 hR0 hNb2 ⊢
    have hG3 := HG0.out.scan hf3 hs3
    have HRD := Lib.hid hR0
    have HG := Lib.hid (hG3.set 3 (.int .i64 a))
    have fc0 := blk_cell hG3.hc
    have ff0 := blk_frozen hG3.hc
    have hcb3 := hG3.cbl
    have HSP : Hid ((w3.setCell ⟨w2.heap.size, 3, none⟩ (.int .i64 a)).ownsRow (w2.heap.size + 1) 93 6 (.slice none 0 0) 0 (([] : List Sp).flatMap Sp.cells)) := Lib.hid (World.ownsRow_nil _ _ _ _)
    have HVO : Hid ((w3.setCell ⟨w2.heap.size, 3, none⟩ (.int .i64 a)).ownsRow (w2.heap.size + 1) 3 1 (.slice none 0 0) 0 (([] : List Int).map (Value.int .i64))) := Lib.hid (World.ownsRow_nil _ _ _ _)
    have HNM : Hid (∀ s ∈ ([] : List Sp), s.nm.size ≤ 140737488355328) := Lib.hid (by simp)
    clear hs3 hf3 hR0 hG3
    go_wp2_with fail
    clear fc0 ff0
    go_wp2_with fail
    refine (scanEnd_any HG.out.sc).mono ?_
    rintro e z1 ⟨rfl, hsz1, hfz1⟩
    have HZ1 := Lib.hid (HG.out.scan hfz1 hsz1)
    have HSP1 := Lib.hid (own_fr HSP.out hfz1 (fun k hk => by have := HG.out.o3; have := HG.out.sc.lt; rcases hk with rfl | rfl <;> omega))
    have HVO1 := Lib.hid (own_fr HVO.out hfz1 (fun k hk => by have := HG.out.o3; have := HG.out.sc.lt; rcases hk with rfl | rfl <;> omega))
    have fr1 := blk_cell HZ1.out.hr
    have fr2 := blk_frozen HZ1.out.hr
    have fc1 := blk_cell HZ1.out.hc
    have hor := HZ1.out.o1
    have hor2 : w.heap.size < w2.heap.size := by have := HZ1.out.o2; have := HZ1.out.o3; have := HZ1.out.sc.lt; omega
    clear hsz1 hfz1
    have HRR : Hid (cmGet l = cmFin l ((⟨4, 0, 0, a, [], []⟩ : Cm), a3, e3)) := Lib.hid (by rw [HCM.out, HRD.out])
    generalize hee : scEnd l a3 e3 = ee at *
    have HEE := Lib.hid hee
    clear hee
    by_cases he : ee = 0
    · subst he
      have hmc := mcheck_any (⟨(⟨4, 0, 0, a, [], []⟩ : Cm), none, 0, 0, none, 0, 0⟩ : CmV) (z1.heap.size) z1 (Nat.le_refl _) (by simp only; omega) (by simp only; omega) HNM.out ⟨Rd.of_own HSP1.out, Rd.of_own HVO1.out⟩
      dsimp only [CmV.val] at hmc
      have HMC := Lib.hid hmc
      clear hmc
      go_wp2_with fail
      refine HMC.out.mono ?_
      rintro e z2 ⟨rfl, hbz2⟩
      have HZ2 := Lib.hid (HZ1.out.below hbz2 HZ1.out.cbl)
      have HSP2 := Lib.hid (own_below HSP1.out hbz2)
      have HVO2 := Lib.hid (own_below HVO1.out hbz2)
      clear hbz2 fr1 fr2 fc1
      have fr1 := blk_cell HZ2.out.hr
      have fr2 := blk_frozen HZ2.out.hr
      have fc1 := blk_cell HZ2.out.hc
      cases hok : Cm.ok (⟨4, 0, 0, a, [], []⟩ : Cm)
      · have hch : Cm.check (⟨4, 0, 0, a, [], []⟩ : Cm) = 90 := by unfold Cm.check; rw [hok]; rfl
        rw [hch]
        have HNO : Hid (cmGet l = none) := Lib.hid (by rw [HRR.out, cmFin, if_neg (fun h => by have := h.2; rw [hok] at this; cases this)])
        clear hok
        go_wp2_with fail
        refine bodyPost_ret (v := .tuple #[.agg #[.int .i64 0, .int .i64 0, .int .i64 0, .int .i64 0, .slice none 0 0, .slice none 0 0], .int .i64 90]) (by simp [results, Tryz.results45, go_sem, fr1]) rfl ?_
        rw [HNO.out]
        exact ⟨⟨Cm.zero, none, 0, 0, none, 0, 0⟩, rfl, rfl, World.ownsRow_nil _ _ _ _, World.ownsRow_nil _ _ _ _, HZ2.out.b.trans (Fr.below (S := fun k => k = w.heap.size) (fr_six _ _ _ _ _ _ _ _) HZ2.out.b.size (fun k hk => by omega))⟩
      · have hch : Cm.check (⟨4, 0, 0, a, [], []⟩ : Cm) = 0 := by unfold Cm.check; rw [hok]; rfl
        rw [hch]
        have HYES : Hid (cmGet l = some (⟨4, 0, 0, a, [], []⟩ : Cm)) := Lib.hid (by rw [HRR.out, cmFin, if_pos ⟨HEE.out, hok⟩])
        clear hok
        go_wp2_with fail
        refine bodyPost_ret (v := .tuple #[.agg #[.int .i64 4, .int .i64 0, .int .i64 0, .int .i64 (a : Int), .slice none 0 0, .slice none 0 0], .int .i64 0]) (by simp [results, Tryz.results45, go_sem, fr1]) rfl ?_
        rw [HYES.out]
        exact ⟨(⟨(⟨4, 0, 0, a, [], []⟩ : Cm), none, 0, 0, none, 0, 0⟩ : CmV), rfl, rfl, own_le (own_fr (S := fun k => k = w.heap.size) HSP2.out (fr_six _ _ _ _ _ _ _ _) (fun k hk => by omega)) (by omega), own_le (own_fr (S := fun k => k = w.heap.size) HVO2.out (fr_six _ _ _ _ _ _ _ _) (fun k hk => by omega)) (by omega), HZ2.out.b.trans (Fr.below (S := fun k => k = w.heap.size) (fr_six _ _ _ _ _ _ _ _) HZ2.out.b.size (fun k hk => by omega))⟩
    · have hbe : (ee != 0) = true := by simpa using he
      have HNO : Hid (cmGet l = none) := Lib.hid (by rw [HRR.out, cmFin, if_neg (fun h => he (HEE.out.symm.trans h.1))])
      clear he
      go_wp2_with fail
      refine bodyPost_ret (v := .tuple #[.agg #[.int .i64 0, .int .i64 0, .int .i64 0, .int .i64 0, .slice none 0 0, .slice none 0 0], .int .i64 90]) (by simp [results, Tryz.results45, go_sem, fr1]) rfl ?_
      rw [HNO.out]
      exact ⟨⟨Cm.zero, none, 0, 0, none, 0, 0⟩, rfl, rfl, World.ownsRow_nil _ _ _ _, World.ownsRow_nil _ _ _ _, HZ1.out.b.trans (Fr.below (S := fun k => k = w.heap.size) (fr_six _ _ _ _ _ _ _ _) HZ1.out.b.size (fun k hk => by omega))⟩
  by_cases hk5 : K = 5
  · subst hk5
    have hG := HGU.out (.int .i64 5)
    have HG0 := Lib.hid hG
    have hcb := hG.cbl
    clear hG HGU
    obtain ⟨i0, hi0, hz0, hz1, hz2⟩ := info_parts Tryz.infoInt
    go_wp2_with fail
    refine (scanNumber_any HG0.out.sc).mono ?_
    rintro e w3 ⟨rfl, hs3, hf3⟩
    have hR0 : cmRead l = (⟨5, 0, 0, 0, [], (votL l (scNum l a2 e2).1 [] (scNum l a2 e2).2.1 (scNum l a2 e2).2.2).1⟩, (votL l (scNum l a2 e2).1 [] (scNum l a2 e2).2.1 (scNum l a2 e2).2.2).2) := by rw [HCR.out]; simp
    have hNb2 := scNum_bound l a2 e2
    generalize scNum l a2 e2 = q at *
    obtain ⟨N, a3, e3⟩ := q
    dsimp only at hs3 hR0 hNb2 ⊢
    have HRD := Lib.hid hR0
    have HG3 := Lib.hid (HG0.out.scan hf3 hs3)
    clear hs3 hf3 hR0 HG0
    go_wp2_with fail
    go_loopw [6] (fun i wr => ∃ (r : Nat) (acc : List Int) (at_ : Nat) (err : Int) (A' : Option Addr) (c' : Nat), r ≤ N ∧ i = .int .i64 r ∧ GIn w wr w.heap.size w2.heap.size sb pb A1 c1 l #[.int .i64 5, .int .i64 0, .int .i64 0, .int .i64 0, .slice none 0 0, .slice A' acc.length c'] at_ err ∧ wr.ownsRow (w2.heap.size + 1) 3 1 (.slice A' acc.length c') acc.length (acc.map (Value.int .i64)) ∧ votL l N [] a3 e3 = votL l r acc at_ err ∧ acc.length ≤ l.length + 1 ∧ (err = 0 → acc.length ≤ at_)) (fun i _ => (intOf i).toNat)
    case atStart => exact ⟨N, [], a3, e3, none, 0, Nat.le_refl _, rfl, HG3.out, World.ownsRow_nil _ _ _ _, rfl, by simp, by simp⟩
    case round =>
      obtain ⟨r, acc, at_, err, A', c', hrN, rfl, hs, hown, hg, hal, hac⟩ := hrel
      have HS := Lib.hid hs
      have HO := Lib.hid hown
      have HG2 := Lib.hid hg
      have HAC := Lib.hid hac
      have hcbr := hs.cbl
      clear hs hown hg hac HG3
      cases r with
      | zero =>
        have HF : Hid (votL l 0 acc at_ err = (acc, at_, err)) := Lib.hid rfl
        have HG := HS
        have HSP : Hid (wr.ownsRow (w2.heap.size + 1) 93 6 (.slice none 0 0) 0 (([] : List Sp).flatMap Sp.cells)) := Lib.hid (World.ownsRow_nil _ _ _ _)
        have HVO := HO
        have HNM : Hid (∀ s ∈ ([] : List Sp), s.nm.size ≤ 140737488355328) := Lib.hid (by simp)
        go_wp2_with fail
        refine (scanEnd_any HG.out.sc).mono ?_
        rintro e z1 ⟨rfl, hsz1, hfz1⟩
        have HZ1 := Lib.hid (HG.out.scan hfz1 hsz1)
        have HSP1 := Lib.hid (own_fr HSP.out hfz1 (fun k hk => by have := HG.out.o3; have := HG.out.sc.lt; rcases hk with rfl | rfl <;> omega))
        have HVO1 := Lib.hid (own_fr HVO.out hfz1 (fun k hk => by have := HG.out.o3; have := HG.out.sc.lt; rcases hk with rfl | rfl <;> omega))
        have fr1 := blk_cell HZ1.out.hr
        have fr2 := blk_frozen HZ1.out.hr
        have fc1 := blk_cell HZ1.out.hc
        have hor := HZ1.out.o1
        have hor2 : w.heap.size < w2.heap.size := by have := HZ1.out.o2; have := HZ1.out.o3; have := HZ1.out.sc.lt; omega
        clear hsz1 hfz1
        have HRR : Hid (cmGet l = cmFin l ((⟨5, 0, 0, 0, [], acc⟩ : Cm), at_, err)) := Lib.hid (by rw [HCM.out, HRD.out, HG2.out, HF.out])
        generalize hee : scEnd l at_ err = ee at *
        have HEE := Lib.hid hee
        clear hee
        by_cases he : ee = 0
        · subst he
          have hmc := mcheck_any (⟨(⟨5, 0, 0, 0, [], acc⟩ : Cm), none, 0, 0, A', acc.length, c'⟩ : CmV) (z1.heap.size) z1 (Nat.le_refl _) (by simp only; omega) (by simp only; omega) HNM.out ⟨Rd.of_own HSP1.out, Rd.of_own HVO1.out⟩
          dsimp only [CmV.val] at hmc
          have HMC := Lib.hid hmc
          clear hmc
          go_wp2_with fail
          refine HMC.out.mono ?_
          rintro e z2 ⟨rfl, hbz2⟩
          have HZ2 := Lib.hid (HZ1.out.below hbz2 HZ1.out.cbl)
          have HSP2 := Lib.hid (own_below HSP1.out hbz2)
          have HVO2 := Lib.hid (own_below HVO1.out hbz2)
          clear hbz2 fr1 fr2 fc1
          have fr1 := blk_cell HZ2.out.hr
          have fr2 := blk_frozen HZ2.out.hr
          have fc1 := blk_cell HZ2.out.hc
          cases hok : Cm.ok (⟨5, 0, 0, 0, [], acc⟩ : Cm)
          · have hch : Cm.check (⟨5, 0, 0, 0, [], acc⟩ : Cm) = 90 := by unfold Cm.check; rw [hok]; rfl
            rw [hch]
            have HNO : Hid (cmGet l = none) := Lib.hid (by rw [HRR.out, cmFin, if_neg (fun h => by have := h.2; rw [hok] at this; cases this)])
            clear hok
            go_wp2_with fail
            refine bodyPost_ret (v := .tuple #[.agg #[.int .i64 0, .int .i64 0, .int .i64 0, .int .i64 0, .slice none 0 0, .slice none 0 0], .int .i64 90]) (by simp [results, Tryz.results45, go_sem, fr1]) rfl ?_
            rw [HNO.out]
            exact ⟨⟨Cm.zero, none, 0, 0, none, 0, 0⟩, rfl, rfl, World.ownsRow_nil _ _ _ _, World.ownsRow_nil _ _ _ _, HZ2.out.b.trans (Fr.below (S := fun k => k = w.heap.size) (fr_six _ _ _ _ _ _ _ _) HZ2.out.b.size (fun k hk => by omega))⟩
          · have hch : Cm.check (⟨5, 0, 0, 0, [], acc⟩ : Cm) = 0 := by unfold Cm.check; rw [hok]; rfl
            rw [hch]
            have HYES : Hid (cmGet l = some (⟨5, 0, 0, 0, [], acc⟩ : Cm)) := Lib.hid (by rw [HRR.out, cmFin, if_pos ⟨HEE.out, hok⟩])
            clear hok
            go_wp2_with fail
            refine bodyPost_ret (v := .tuple #[.agg #[.int .i64 5, .int .i64 0, .int .i64 0, .int .i64 0, .slice none 0 0, .slice A' acc.length c'], .int .i64 0]) (by simp [results, Tryz.results45, go_sem, fr1]) rfl ?_
            rw [HYES.out]
            exact ⟨(⟨(⟨5, 0, 0, 0, [], acc⟩ : Cm), none, 0, 0, A', acc.length, c'⟩ : CmV), rfl, rfl, own_le (own_fr (S := fun k => k = w.heap.size) HSP2.out (fr_six _ _ _ _ _ _ _ _) (fun k hk => by omega)) (by omega), own_le (own_fr (S := fun k => k = w.heap.size) HVO2.out (fr_six _ _ _ _ _ _ _ _) (fun k hk => by omega)) (by omega), HZ2.out.b.trans (Fr.below (S := fun k => k = w.heap.size) (fr_six _ _ _ _ _ _ _ _) HZ2.out.b.size (fun k hk => by omega))⟩
        · have hbe : (ee != 0) = true := by simpa using he
          have HNO : Hid (cmGet l = none) := Lib.hid (by rw [HRR.out, cmFin, if_neg (fun h => he (HEE.out.symm.trans h.1))])
          clear he
          go_wp2_with fail
          refine bodyPost_ret (v := .tuple #[.agg #[.int .i64 0, .int .i64 0, .int .i64 0, .int .i64 0, .slice none 0 0, .slice none 0 0], .int .i64 90]) (by simp [results, Tryz.results45, go_sem, fr1]) rfl ?_
          rw [HNO.out]
          exact ⟨⟨Cm.zero, none, 0, 0, none, 0, 0⟩, rfl, rfl, World.ownsRow_nil _ _ _ _, World.ownsRow_nil _ _ _ _, HZ1.out.b.trans (Fr.below (S := fun k => k = w.heap.size) (fr_six _ _ _ _ _ _ _ _) HZ1.out.b.size (fun k hk => by omega))⟩
      | succ r =>
        by_cases herr : err = 0
        · subst herr
          have HF0 : Hid (votL l (r + 1) acc at_ 0 = votL l r (acc ++ [((scNum l at_ 0).1 : Int)]) (scNum l at_ 0).2.1 (scNum l at_ 0).2.2) := Lib.hid (by rw [votL, if_pos rfl])
          have hrp : (0 : Int) < ((r + 1 : Nat) : Int) := by omega
          have hrw : IntKind.i64.wrap (((r + 1 : Nat) : Int) - 1) = (r : Int) := ((IntWalk.i64_left _).trans (IntWalk.wrap64_in _ (by omega))).trans (by omega)
          have hcs := blk_cell HS.out.hc
          have HC5 : Hid (wr.cell? ⟨w2.heap.size, 5, none⟩ = some (.slice A' acc.length c')) := Lib.hid (hcs 5)
          clear hcs
          go_wp2_with fail
          refine (err_any HS.out.sc).mono ?_
          rintro e z ⟨rfl, rfl⟩
          go_wp2_with fail
          refine wp_region_plan 7 (.take 0 (.take 1 (.take 2 (.op 3 (.op 4 (.op 5 (.take 6 (.op 7 .done)))))))) (fun W => W.cell? ⟨w2.heap.size, 5, none⟩ = some (.slice A' acc.length c')) (by kernel_rfl) (by kernel_rfl) (by kernel_rfl) (by exact HC5.out) ?_
          repeat (first | (apply plan_take rfl; (focus (first | rfl | (go_simp; done))); (focus (intro W hW; go_simp; rfl)); (focus (intro K hK; go_simp; refine hK _ ?_; clear hK K))) | (apply plan_skip rfl; (focus (first | rfl | (go_simp; done))); (focus (intro K hK; go_simp; refine hK _ ?_; clear hK K))))
          apply plan_op rfl
          intro K hK
          go_simp
          go_wp2_with (fail)
          refine (scanNumber_any (HS.out.sc.drewN 1)).mono ?_
          rintro e v1 ⟨rfl, hs1, hf1⟩
          have hne := @scNum_err l at_ 0
          have hf0 := HF0.out
          generalize scNum l at_ 0 = q at *
          obtain ⟨x, a4, e4⟩ := q
          dsimp only at hs1 hne hf0 ⊢
          have HF1 := Lib.hid hf0
          have HNE := Lib.hid hne
          have HV1 := Lib.hid ((HS.out.below (below_drew' wr 1) HS.out.cbl).scan hf1 hs1)
          have HO1 := Lib.hid (own_fr (own_below HO.out (below_drew' wr 1)) hf1 (fun k hk => by have := HS.out.o3; have := HS.out.sc.lt; rcases hk with rfl | rfl <;> omega))
          have hv1 := HV1.out.cbl
          have hla4 := HV1.out.sc.le
          clear hs1 hf1 hf0 hne HF0
          go_wp2_with fail
          refine ⟨by first | exact blk_cell HV1.out.hc 5 | (intro _; exact blk_cell HV1.out.hc 5), ?_⟩
          apply plan_op rfl
          intro K hK
          go_simp
          go_wp2_with (fail)
          have hW2 : Below v1.heap.size v1 (v1.alloc (.cells #[.int .i64 x] 3 (0, 0))) := (Below.refl _ _).alloc (Nat.le_refl _) _
          have hV2 := HV1.out.below hW2 hv1
          refine ⟨by first | exact blk_cell hV2.hc 5 | (intro _; exact blk_cell hV2.hc 5), ?_⟩
          obtain ⟨A5, c5, w5, hrun5, hown5, hg5, _⟩ := run_app (P := Tryz.prog) (v1.alloc (.cells #[.int .i64 x] 3 (0, 0))) (w2.heap.size + 1) 22 22 3 i0 _ 1 8 Tryz.underlying22 hi0 hz0 hz1 hz2 rfl (by omega) A' acc.length c' (acc.map (Value.int .i64)) (HO1.out.alloc _) (v1.heap.size + 1) (some ⟨v1.heap.size, 0, none⟩) 1 1 [.int .i64 x] (Rd.new rfl rfl (by intro j hj; simp at hj; subst hj; rfl)) (by intro u hu; simp at hu; subst hu; rfl) (by unfold maxLen; omega) (by omega) (by simp; omega)
          have hB5 : Below (w2.heap.size + 1) (v1.alloc (.cells #[.int .i64 x] 3 (0, 0))) w5 := below_app (Below.refl (w2.heap.size + 1) _) (HO1.out.alloc _) hg5 (by simp; omega)
          have hV5 := hV2.below hB5 (by omega)
          have HV6 := Lib.hid (hV5.set 5 (.slice A5 (acc.length + 1) c5))
          have HO6 : Hid ((w5.setCell ⟨w2.heap.size, 5, none⟩ (.slice A5 (acc.length + 1) c5)).ownsRow (w2.heap.size + 1) 3 1 (.slice A5 (acc.length + 1) c5) (acc.length + 1) (acc.map (Value.int .i64) ++ [.int .i64 x])) := Lib.hid (own_fr (S := fun k => k = w2.heap.size) hown5 ((Fr.refl (fun k => k = w2.heap.size) w5).setCell (p := ⟨w2.heap.size, 5, none⟩) rfl _) (fun k hk => by omega))
          have fc5 := blk_cell hV5.hc
          have ff5 := blk_frozen hV5.hc
          have hcb5 := hV5.cbl
          have HC55 := Lib.hid (fc5 5)
          apply plan_run (v := .slice A5 (acc.length + 1) c5) (w' := w5) rfl
          · focus (first | rfl | (go_simp; done))
          · focus (refine exec_app rfl ?_ ?_ hrun5 <;> go_simp)
          · intro _; exact HC55.out
          intro K hK; go_simp; refine hK _ ?_; clear hK K
          clear hrun5 hown5 hg5 hB5 hV5 hV2 hW2
          repeat (first | (apply plan_take rfl; (focus (first | rfl | (go_simp; done))); (focus (intro W hW; go_simp; rfl)); (focus (intro K hK; go_simp; refine hK _ ?_; clear hK K))) | (apply plan_skip rfl; (focus (first | rfl | (go_simp; done))); (focus (intro K hK; go_simp; refine hK _ ?_; clear hK K))))
          apply plan_op rfl
          intro K hK
          go_simp
          go_wp2_with (fail)
          try refine ⟨fun h => absurd rfl h, ?_⟩
          refine plan_nil ?_
          clear fc5 ff5
          go_wp2_with fail
          go_roundw
          case rel =>
            exact ⟨r, acc ++ [(x : Int)], a4, e4, A5, c5, by omega, by go_num, by simpa using HV6.out, by simpa using HO6.out, by rw [HG2.out, HF1.out], by have h2 : acc.length ≤ at_ := HAC.out (by trivial); have := HS.out.sc.le; simp; omega, fun h => by have h1 : at_ + 1 ≤ a4 := (HNE.out h).2; have h2 : acc.length ≤ at_ := HAC.out (by trivial); simp; omega⟩
          case measure => first | (simp [intOf]; done) | (simp [intOf]; omega)
        · have HF : Hid (votL l (r + 1) acc at_ err = (acc, at_, err)) := Lib.hid (by rw [votL, if_neg herr])
          have hrp : (0 : Int) < ((r + 1 : Nat) : Int) := by omega
          have hbe : (err == 0) = false := by simpa using herr
          go_wp2_with fail
          refine (err_any HS.out.sc).mono ?_
          rintro e z ⟨rfl, rfl⟩
          have HG := HS
          have HSP : Hid (wr.ownsRow (w2.heap.size + 1) 93 6 (.slice none 0 0) 0 (([] : List Sp).flatMap Sp.cells)) := Lib.hid (World.ownsRow_nil _ _ _ _)
          have HVO := HO
          have HNM : Hid (∀ s ∈ ([] : List Sp), s.nm.size ≤ 140737488355328) := Lib.hid (by simp)
          go_wp2_with fail
          refine (scanEnd_any HG.out.sc).mono ?_
          rintro e z1 ⟨rfl, hsz1, hfz1⟩
          have HZ1 := Lib.hid (HG.out.scan hfz1 hsz1)
          have HSP1 := Lib.hid (own_fr HSP.out hfz1 (fun k hk => by have := HG.out.o3; have := HG.out.sc.lt; rcases hk with rfl | rfl <;> omega))
          have HVO1 := Lib.hid (own_fr HVO.out hfz1 (fun k hk => by have := HG.out.o3; have := HG.out.sc.lt; rcases hk with rfl | rfl <;> omega))
          have fr1 := blk_cell HZ1.out.hr
          have fr2 := blk_frozen HZ1.out.hr
          have fc1 := blk_cell HZ1.out.hc
          have hor := HZ1.out.o1
          have hor2 : w.heap.size < w2.heap.size := by have := HZ1.out.o2; have := HZ1.out.o3; have := HZ1.out.sc.lt; omega
          clear hsz1 hfz1
          have HRR : Hid (cmGet l = cmFin l ((⟨5, 0, 0, 0, [], acc⟩ : Cm), at_, err)) := Lib.hid (by rw [HCM.out, HRD.out, HG2.out, HF.out])
          generalize hee : scEnd l at_ err = ee at *
          have HEE := Lib.hid hee
          clear hee
          by_cases he : ee = 0
          · subst he
            have hmc := mcheck_any (⟨(⟨5, 0, 0, 0, [], acc⟩ : Cm), none, 0, 0, A', acc.length, c'⟩ : CmV) (z1.heap.size) z1 (Nat.le_refl _) (by simp only; omega) (by simp only; omega) HNM.out ⟨Rd.of_own HSP1.out, Rd.of_own HVO1.out⟩
            dsimp only [CmV.val] at hmc
            have HMC := Lib.hid hmc
            clear hmc
            go_wp2_with fail
            refine HMC.out.mono ?_
            rintro e z2 ⟨rfl, hbz2⟩
            have HZ2 := Lib.hid (HZ1.out.below hbz2 HZ1.out.cbl)
            have HSP2 := Lib.hid (own_below HSP1.out hbz2)
            have HVO2 := Lib.hid (own_below HVO1.out hbz2)
            clear hbz2 fr1 fr2 fc1
            have fr1 := blk_cell HZ2.out.hr
            have fr2 := blk_frozen HZ2.out.hr
            have fc1 := blk_cell HZ2.out.hc
            cases hok : Cm.ok (⟨5, 0, 0, 0, [], acc⟩ : Cm)
            · have hch : Cm.check (⟨5, 0, 0, 0, [], acc⟩ : Cm) = 90 := by unfold Cm.check; rw [hok]; rfl
              rw [hch]
              have HNO : Hid (cmGet l = none) := Lib.hid (by rw [HRR.out, cmFin, if_neg (fun h => by have := h.2; rw [hok] at this; cases this)])
              clear hok
              go_wp2_with fail
              refine bodyPost_ret (v := .tuple #[.agg #[.int .i64 0, .int .i64 0, .int .i64 0, .int .i64 0, .slice none 0 0, .slice none 0 0], .int .i64 90]) (by simp [results, Tryz.results45, go_sem, fr1]) rfl ?_
              rw [HNO.out]
              exact ⟨⟨Cm.zero, none, 0, 0, none, 0, 0⟩, rfl, rfl, World.ownsRow_nil _ _ _ _, World.ownsRow_nil _ _ _ _, HZ2.out.b.trans (Fr.below (S := fun k => k = w.heap.size) (fr_six _ _ _ _ _ _ _ _) HZ2.out.b.size (fun k hk => by omega))⟩
            · have hch : Cm.check (⟨5, 0, 0, 0, [], acc⟩ : Cm) = 0 := by unfold Cm.check; rw [hok]; rfl
              rw [hch]
              have HYES : Hid (cmGet l = some (⟨5, 0, 0, 0, [], acc⟩ : Cm)) := Lib.hid (by rw [HRR.out, cmFin, if_pos ⟨HEE.out, hok⟩])
              clear hok
              go_wp2_with fail
              refine bodyPost_ret (v := .tuple #[.agg #[.int .i64 5, .int .i64 0, .int .i64 0, .int .i64 0, .slice none 0 0, .slice A' acc.length c'], .int .i64 0]) (by simp [results, Tryz.results45, go_sem, fr1]) rfl ?_
              rw [HYES.out]
              exact ⟨(⟨(⟨5, 0, 0, 0, [], acc⟩ : Cm), none, 0, 0, A', acc.length, c'⟩ : CmV), rfl, rfl, own_le (own_fr (S := fun k => k = w.heap.size) HSP2.out (fr_six _ _ _ _ _ _ _ _) (fun k hk => by omega)) (by omega), own_le (own_fr (S := fun k => k = w.heap.size) HVO2.out (fr_six _ _ _ _ _ _ _ _) (fun k hk => by omega)) (by omega), HZ2.out.b.trans (Fr.below (S := fun k => k = w.heap.size) (fr_six _ _ _ _ _ _ _ _) HZ2.out.b.size (fun k hk => by omega))⟩
          · have hbe : (ee != 0) = true := by simpa using he
            have HNO : Hid (cmGet l = none) := Lib.hid (by rw [HRR.out, cmFin, if_neg (fun h => he (HEE.out.symm.trans h.1))])
            clear he
            go_wp2_with fail
            refine bodyPost_ret (v := .tuple #[.agg #[.int .i64 0, .int .i64 0, .int .i64 0, .int .i64 0, .slice none 0 0, .slice none 0 0], .int .i64 90]) (by simp [results, Tryz.results45, go_sem, fr1]) rfl ?_
            rw [HNO.out]
            exact ⟨⟨Cm.zero, none, 0, 0, none, 0, 0⟩, rfl, rfl, World.ownsRow_nil _ _ _ _, World.ownsRow_nil _ _ _ _, HZ1.out.b.trans (Fr.below (S := fun k => k = w.heap.size) (fr_six _ _ _ _ _ _ _ _) HZ1.out.b.size (fun k hk => by omega))⟩
  have hG := HGU.out (.int .i64 K)
  have HG := Lib.hid hG
  have hcb := hG.cbl
  have hki2 : ¬ (K : Int) = 2 := by omega
  have hki3 : ¬ (K : Int) = 3 := by omega
  have hki4 : ¬ (K : Int) = 4 := by omega
  have hki5 : ¬ (K : Int) = 5 := by omega
  have hR0 : cmRead l = (⟨K, 0, 0, 0, [], []⟩, a2, e2) := by rw [HCR.out, if_neg hk2, if_neg hk3, if_neg hk4, if_neg hk5]
  have HRD := Lib.hid hR0
  have HSP : Hid ((w2.alloc (.cells #[.int .i64 K, .int .i64 0, .int .i64 0, .int .i64 0, .slice none 0 0, .slice none 0 0] 50 (0, 0))).ownsRow (w2.heap.size + 1) 93 6 (.slice none 0 0) 0 (([] : List Sp).flatMap Sp.cells)) := Lib.hid (World.ownsRow_nil _ _ _ _)
  have HVO : Hid ((w2.alloc (.cells #[.int .i64 K, .int .i64 0, .int .i64 0, .int .i64 0, .slice none 0 0, .slice none 0 0] 50 (0, 0))).ownsRow (w2.heap.size + 1) 3 1 (.slice none 0 0) 0 (([] : List Int).map (Value.int .i64))) := Lib.hid (World.ownsRow_nil _ _ _ _)
  have HNM : Hid (∀ s ∈ ([] : List Sp), s.nm.size ≤ 140737488355328) := Lib.hid (by simp)
  clear hG HGU hR0 hk2 hk3 hk4 hk5
  go_wp2_with fail
  refine (scanEnd_any HG.out.sc).mono ?_
  rintro e z1 ⟨rfl, hsz1, hfz1⟩
  have HZ1 := Lib.hid (HG.out.scan hfz1 hsz1)
  have HSP1 := Lib.hid (own_fr HSP.out hfz1 (fun k hk => by have := HG.out.o3; have := HG.out.sc.lt; rcases hk with rfl | rfl <;> omega))
  have HVO1 := Lib.hid (own_fr HVO.out hfz1 (fun k hk => by have := HG.out.o3; have := HG.out.sc.lt; rcases hk with rfl | rfl <;> omega))
  have fr1 := blk_cell HZ1.out.hr
  have fr2 := blk_frozen HZ1.out.hr
  have fc1 := blk_cell HZ1.out.hc
  have hor := HZ1.out.o1
  have hor2 : w.heap.size < w2.heap.size := by have := HZ1.out.o2; have := HZ1.out.o3; have := HZ1.out.sc.lt; omega
  clear hsz1 hfz1
  have HRR : Hid (cmGet l = cmFin l ((⟨K, 0, 0, 0, [], []⟩ : Cm), a2, e2)) := Lib.hid (by rw [HCM.out, HRD.out])
  generalize hee : scEnd l a2 e2 = ee at *
  have HEE := Lib.hid hee
  clear hee
  by_cases he : ee = 0
  · subst he
    have hmc := mcheck_any (⟨(⟨K, 0, 0, 0, [], []⟩ : Cm), none, 0, 0, none, 0, 0⟩ : CmV) (z1.heap.size) z1 (Nat.le_refl _) (by simp only; omega) (by simp only; omega) HNM.out ⟨Rd.of_own HSP1.out, Rd.of_own HVO1.out⟩
    dsimp only [CmV.val] at hmc
    have HMC := Lib.hid hmc
    clear hmc
    go_wp2_with fail
    refine HMC.out.mono ?_
    rintro e z2 ⟨rfl, hbz2⟩
    have HZ2 := Lib.hid (HZ1.out.below hbz2 HZ1.out.cbl)
    have HSP2 := Lib.hid (own_below HSP1.out hbz2)
    have HVO2 := Lib.hid (own_below HVO1.out hbz2)
    clear hbz2 fr1 fr2 fc1
    have fr1 := blk_cell HZ2.out.hr
    have fr2 := blk_frozen HZ2.out.hr
    have fc1 := blk_cell HZ2.out.hc
    cases hok : Cm.ok (⟨K, 0, 0, 0, [], []⟩ : Cm)
    · have hch : Cm.check (⟨K, 0, 0, 0, [], []⟩ : Cm) = 90 := by unfold Cm.check; rw [hok]; rfl
      rw [hch]
      have HNO : Hid (cmGet l = none) := Lib.hid (by rw [HRR.out, cmFin, if_neg (fun h => by have := h.2; rw [hok] at this; cases this)])
      clear hok
      go_wp2_with fail
      refine bodyPost_ret (v := .tuple #[.agg #[.int .i64 0, .int .i64 0, .int .i64 0, .int .i64 0, .slice none 0 0, .slice none 0 0], .int .i64 90]) (by simp [results, Tryz.results45, go_sem, fr1]) rfl ?_
      rw [HNO.out]
      exact ⟨⟨Cm.zero, none, 0, 0, none, 0, 0⟩, rfl, rfl, World.ownsRow_nil _ _ _ _, World.ownsRow_nil _ _ _ _, HZ2.out.b.trans (Fr.below (S := fun k => k = w.heap.size) (fr_six _ _ _ _ _ _ _ _) HZ2.out.b.size (fun k hk => by omega))⟩
    · have hch : Cm.check (⟨K, 0, 0, 0, [], []⟩ : Cm) = 0 := by unfold Cm.check; rw [hok]; rfl
      rw [hch]
      have HYES : Hid (cmGet l = some (⟨K, 0, 0, 0, [], []⟩ : Cm)) := Lib.hid (by rw [HRR.out, cmFin, if_pos ⟨HEE.out, hok⟩])
      clear hok
      go_wp2_with fail
      refine bodyPost_ret (v := .tuple #[.agg #[.int .i64 K, .int .i64 0, .int .i64 0, .int .i64 0, .slice none 0 0, .slice none 0 0], .int .i64 0]) (by simp [results, Tryz.results45, go_sem, fr1]) rfl ?_
      rw [HYES.out]
      exact ⟨(⟨(⟨K, 0, 0, 0, [], []⟩ : Cm), none, 0, 0, none, 0, 0⟩ : CmV), rfl, rfl, own_le (own_fr (S := fun k => k = w.heap.size) HSP2.out (fr_six _ _ _ _ _ _ _ _) (fun k hk => by omega)) (by omega), own_le (own_fr (S := fun k => k = w.heap.size) HVO2.out (fr_six _ _ _ _ _ _ _ _) (fun k hk => by omega)) (by omega), HZ2.out.b.trans (Fr.below (S := fun k => k = w.heap.size) (fr_six _ _ _ _ _ _ _ _) HZ2.out.b.size (fun k hk => by omega))⟩
  · have hbe : (ee != 0) = true := by simpa using he
    have HNO : Hid (cmGet l = none) := Lib.hid (by rw [HRR.out, cmFin, if_neg (fun h => he (HEE.out.symm.trans h.1))])
    clear he
    go_wp2_with fail
    refine bodyPost_ret (v := .tuple #[.agg #[.int .i64 0, .int .i64 0, .int .i64 0, .int .i64 0, .slice none 0 0, .slice none 0 0], .int .i64 90]) (by simp [results, Tryz.results45, go_sem, fr1]) rfl ?_
    rw [HNO.out]
    exact ⟨⟨Cm.zero, none, 0, 0, none, 0, 0⟩, rfl, rfl, World.ownsRow_nil _ _ _ _, World.ownsRow_nil _ _ _ _, HZ1.out.b.trans (Fr.below (S := fun k => k = w.heap.size) (fr_six _ _ _ _ _ _ _ _) HZ1.out.b.size (fun k hk => by omega))⟩
end Go.Proofs.YtfjpenbahoeklaaGreatDoor
