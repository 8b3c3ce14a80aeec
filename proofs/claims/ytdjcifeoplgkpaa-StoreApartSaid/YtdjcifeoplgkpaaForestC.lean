/-
  A forest that is being cloned: the map of its spans in another order; the map of who names whom on its way; a row of numbers copied. Conditions: plain lemmas; the clone's row reads as a list.
-/
import Derived.Test.YtdjcifeoplgkpaaForest4
import Derived.Test.YtdjcifeoplgkpaaForestO
namespace Go.Proofs.Ytdjcifeoplgkpaa
open Go Go.RowKit Go.Maps

theorem DOf.perm {D : DataW Sp} {L L' : List Sp} (h : DOf D L) (hn : (L'.map Sp.id).Nodup) (hp : L.Perm L') : DOf D L' := by
  have e := fun x => atS_perm hn hp x
  exact ⟨fun x => by rw [h.has, e], fun x s hs => h.at_ x s (by rw [e]; exact hs), by rw [h.size, hp.length_eq]⟩
theorem AllAt.perm {w : World} {a : Nat} {L L' : List Sp} (h : AllAt w a L) (hn : (L'.map Sp.id).Nodup) (hp : L.Perm L') : AllAt w a L' := by
  obtain ⟨D, h1, h2⟩ := h
  exact ⟨D, by rw [← hp.length_eq]; exact h1, h2.perm hn hp⟩
theorem own_shrink {H : Type} {w : World} {P : Program} {k : TypeId} {R : Value → Option (DataW H × List MemPlace)} {b n m : Nat} {D : DataW H} (h : w.ownsMap P k R b n D) (hm : Maps.size D ≤ m) : w.ownsMap P k R b m D := by
  obtain ⟨es, clock, hb, F, hs, rfl⟩ := h
  refine ⟨es, clock, hb, F, ?_, rfl⟩
  rw [size_eq, length_read] at hm
  exact hm

/-- Block d is the map of who names whom, as far as P says; its rows lie in S, no two in one block; cnt are still to come. -/
def PartDown (w : World) (d : Nat) (L : List Sp) (S : Nat → Prop) (P : Int → Prop) (cnt : Nat) : Prop :=
  ∃ (D : DataW Value) (G C : Int → Nat), w.ownsMap Try.prog 3 slElem d (Maps.size D) D ∧ Maps.size D + cnt ≤ L.length ∧ (∀ x, ¬ (P x ∧ kids L x ≠ []) → Maps.has D (.int .i64 x) = false) ∧
    (∀ x, P x → kids L x ≠ [] → (∀ z, D.atKey (.int .i64 x) z = .held (.slice (some ⟨G x, 0, none⟩) (kidIds L x).length (C x))) ∧
      w.ownsRow 0 3 1 (.slice (some ⟨G x, 0, none⟩) (kidIds L x).length (C x)) (kidIds L x).length ((kidIds L x).map (Value.int .i64)) ∧ S (G x)) ∧
    (∀ x y, P x → P y → kids L x ≠ [] → kids L y ≠ [] → G x = G y → x = y)
theorem PartDown.start {w : World} {d : Nat} {L : List Sp} {S S0 : Nat → Prop} {P : Int → Prop} {cnt : Nat} (h : DownAt w d [] S0) (hP : ∀ x, P x → kids L x = []) (hc : cnt ≤ L.length) : PartDown w d L S P cnt := by
  obtain ⟨D, G, C, h1, h2, _, _⟩ := h
  have hz : Maps.size D = 0 := Nat.le_zero.1 h1.size_le
  exact ⟨D, G, C, own_shrink h1 (Nat.le_refl _), by omega, fun x _ => h2 x rfl, fun x hx hk => absurd (hP x hx) hk, fun x y hx _ hk => absurd (hP x hx) hk⟩
theorem PartDown.done {w : World} {d : Nat} {L : List Sp} {S : Nat → Prop} {P : Int → Prop} {cnt : Nat} (h : PartDown w d L S P cnt) (hP : ∀ x, P x) : DownAt w d L S := by
  obtain ⟨D, G, C, h1, h2, h3, h4, h5⟩ := h
  exact ⟨D, G, C, h1.mono (by omega), fun x hx => h3 x (fun h => h.2 hx), fun x hx => h4 x (hP x) hx, fun x y hx hy => h5 x y (hP x) (hP y) hx hy⟩
theorem PartDown.lt {w : World} {d : Nat} {L : List Sp} {S : Nat → Prop} {P : Int → Prop} {cnt : Nat} (h : PartDown w d L S P cnt) : d < w.heap.size := by obtain ⟨D, G, C, h1, _⟩ := h; exact h1.lt
theorem PartDown.fr {w w' : World} {d : Nat} {L : List Sp} {S S2 : Nat → Prop} {P : Int → Prop} {cnt : Nat} (h : PartDown w d L S P cnt) (hf : Fr S2 w w') (hd : ¬ S2 d) (hS : ∀ k, S k → ¬ S2 k) : PartDown w' d L S P cnt := by
  have hlt := h.lt
  obtain ⟨D, G, C, h1, h2, h3, h4, h5⟩ := h
  refine ⟨D, G, C, owns_eq h1 (hf.block d hlt hd), h2, h3, fun x hp hx => ?_, h5⟩
  obtain ⟨a1, a2, a3⟩ := h4 x hp hx
  exact ⟨a1, own_eq a2 (hf.block _ (own_mem a2) (hS _ a3)), a3⟩
theorem PartDown.mono {w : World} {d : Nat} {L : List Sp} {S S2 : Nat → Prop} {P : Int → Prop} {cnt : Nat} (h : PartDown w d L S P cnt) (hS : ∀ k, S k → S2 k) : PartDown w d L S2 P cnt := by
  obtain ⟨D, G, C, h1, h2, h3, h4, h5⟩ := h
  exact ⟨D, G, C, h1, h2, h3, fun x hp hx => ⟨(h4 x hp hx).1, (h4 x hp hx).2.1, hS _ (h4 x hp hx).2.2⟩, h5⟩
theorem PartDown.step {w w1 : World} {d : Nat} {L : List Sp} {S : Nat → Prop} {P P' : Int → Prop} {cnt cnt' : Nat} (h : PartDown w d L S P cnt) {x : Int} (hP' : ∀ z, P' z ↔ P z ∨ z = x) (hx : wfI x) (hnp : ¬ P x) (hkx : kids L x ≠ []) (hL : L.length ≤ 64) (hcnt : cnt' < cnt) (hSlt : ∀ k, S k → k < w.heap.size) (hSd : ¬ S d)
    (hb : Below w.heap.size w w1) {g c : Nat} (hown : w1.ownsRow 0 3 1 (.slice (some ⟨g, 0, none⟩) (kidIds L x).length c) (kidIds L x).length ((kidIds L x).map (Value.int .i64))) (hg : w.heap.size ≤ g) :
    ∃ w2, (Instr.mapUpdate 103 (.map (some d)) (.int .i64 x) (.slice (some ⟨g, 0, none⟩) (kidIds L x).length c)).run Try.prog w1 = .ok () w2 ∧ PartDown w2 d L (fun k => S k ∨ (w.heap.size ≤ k ∧ k < w2.heap.size)) P' cnt' ∧ w1.grownBy w2 (some d) := by
  have hdl := h.lt
  obtain ⟨D, G, C, h1, h2, h3, h4, h5⟩ := h
  have h1' : w1.ownsMap Try.prog 3 slElem d (Maps.size D) D := owns_eq h1 (hb.block d hdl)
  obtain ⟨w2, hrun2, hown2, hg2⟩ := h1'.update keyLaw Try.underlying103 (by unfold maxLen; omega) (keyI hx) (val := .slice (some ⟨g, 0, none⟩) (kidIds L x).length c) (d := .held (.slice (some ⟨g, 0, none⟩) (kidIds L x).length c)) (ps := []) rfl
  have hhas : Maps.has D (.int .i64 x) = false := h3 x (fun h => hnp h.1)
  have hsz : Maps.size (D.put (.int .i64 x) (.held (.slice (some ⟨g, 0, none⟩) (kidIds L x).length c))) = Maps.size D + 1 := by rw [size_put (h1.tidy keyLaw), hhas]; rfl
  have hgl := own_mem hown
  have hz2 := hg2.size
  refine ⟨w2, hrun2, ⟨_, fun y => if y = x then g else G y, fun y => if y = x then c else C y, own_shrink hown2 (Nat.le_refl _), by rw [hsz]; omega, ?_, ?_, ?_⟩, hg2⟩
  · intro y hy
    by_cases hyx : y = x
    · subst hyx; exact absurd ⟨(hP' y).2 (.inr rfl), hkx⟩ hy
    · rw [has_put_other (ne_lit hyx)]
      exact h3 y (fun hh => hy ⟨(hP' y).2 (.inl hh.1), hh.2⟩)
  · intro y hy hky
    by_cases hyx : y = x
    · subst hyx
      simp only [if_true]
      exact ⟨fun z => atKey_put_same h1'.isMap (litI hx) _ _, own_eq hown (hg2.block g hgl (by simp only [ne_eq, Option.some.injEq]; omega)), .inr ⟨hg, by omega⟩⟩
    · simp only [if_neg hyx]
      obtain ⟨a1, a2, a3⟩ := h4 y (((hP' y).1 hy).resolve_right hyx) hky
      have hlt := own_mem a2
      have hz1 := hb.size
      refine ⟨fun z => by rw [atKey_put_other (ne_lit hyx)]; exact a1 z, ?_, .inl a3⟩
      exact own_eq (own_eq a2 (hb.block _ hlt)) (hg2.block _ (by omega) (fun e => hSd (by injection e with e; rw [← e]; exact a3)))
  · intro y z hy hz hky hkz he
    by_cases hyx : y = x
    · by_cases hzx : z = x
      · rw [hyx, hzx]
      · simp only [if_pos hyx, if_neg hzx] at he
        have := hSlt _ (h4 z (((hP' z).1 hz).resolve_right hzx) hkz).2.2
        omega
    · by_cases hzx : z = x
      · simp only [if_neg hyx, if_pos hzx] at he
        have := hSlt _ (h4 y (((hP' y).1 hy).resolve_right hyx) hky).2.2
        omega
      · simp only [if_neg hyx, if_neg hzx] at he
        exact h5 y z (((hP' y).1 hy).resolve_right hyx) (((hP' z).1 hz).resolve_right hzx) hky hkz he

/-- What a call leaves that makes numbers. -/
def ResI (w : World) (l : List Int) (e : Ending) (w' : World) : Prop :=
  ∃ A c, e = .returned (.slice A l.length c) ∧ w'.ownsRow w.heap.size 3 1 (.slice A l.length c) l.length (l.map (Value.int .i64)) ∧ Below w.heap.size w w'

set_option maxRecDepth 100000 in
set_option maxHeartbeats 400000 in
theorem cloneInts_any (a : Addr) (n cap B : Nat) (l : List Int) (w : World) (hB : B ≤ w.heap.size) (hb : n ≤ 2513169434916) (hr : RdI w B (some a) n l) :
    Calls Try.prog 65 #[.slice (some a) n cap] w (ResI w l) := by
  obtain ⟨i0, hi0, hz0, hz1, hz2⟩ := info_parts Try.infoInt
  have hl := hr.len
  have HN := Lib.hid (own_new w #[] 3 0 1 rfl (by unfold maxLen; omega) w.heap.size (Nat.le_refl _))
  have HR : Hid (RdI (w.alloc (.cells #[] 3)) B (some a) n l) := Lib.hid (Rd.alloc hr _ hB (Nat.le_refl _))
  have HL := Lib.hid hl
  clear hl hr
  have hq := fun W : World => eql_nil (P := Try.prog) W 29 _ (some a) n cap Try.underlying29
  go_enter Try.func65, Try.ntmps65
  go_wp2_with (at_builtin; refine wpList_app _ rfl (.tmp 5) (.tmp 6) _ rfl w.heap.size 3 i0 _ 1 8 Try.underlying29 hi0 hz0 hz1 hz2 rfl (by omega) _ _ _ _ rfl HN.out B _ _ _ _ rfl HR.out (ints_one _) (by unfold maxLen; omega) (by omega) (by simp) ?_; intro A2 c2 w2 hown2 hg2 _)
  go_ret
  rw [List.nil_append, Nat.zero_add] at hown2
  exact ⟨A2, c2, by rw [HL.out]; rfl, by rw [HL.out]; exact hown2, below_app ((Below.refl _ _).alloc (Nat.le_refl _) _) HN.out hg2 (by simp)⟩
end Go.Proofs.Ytdjcifeoplgkpaa
