/-
  The plain law of the spans' order: it is an order of all spans, and 0 is said of equals alone. No condition.
-/
import Derived.Test.YtdjcifeoplgkpaaCompare
namespace Go.Proofs.Ytdjcifeoplgkpaa
open Go.RowKit

theorem rd_newL {w : World} {H : Nat} (hH : w.heap.size = H) {cs : Array Value} {t : TypeId} {fr : Nat × Nat} {xs : List Value} {n sz : Nat} (hx : xs.length = n * sz) (h : cs.toList = xs) :
    Rd (w.alloc (.cells cs t fr)) (H + 1) sz (some ⟨H, 0, none⟩) n xs := Rd.new hH hx (by subst h; intro j hj; simp)

theorem bl_cons (x y : UInt8) (a b : List UInt8) : Op.bytesLess (x :: a) (y :: b) = true ↔ x.toNat < y.toNat ∨ (x = y ∧ Op.bytesLess a b = true) := by
  simp only [Op.bytesLess, Bool.or_eq_true, Bool.and_eq_true, decide_eq_true_eq, beq_iff_eq, UInt8.lt_iff_toNat_lt]
theorem bl_irrefl : ∀ l : List UInt8, ¬ Op.bytesLess l l = true := by
  intro l
  induction l with
  | nil => simp [Op.bytesLess]
  | cons x l ih => rw [bl_cons]; rintro (h | ⟨_, h⟩); omega; exact ih h
theorem bl_tri : ∀ a b : List UInt8, ¬ Op.bytesLess a b = true → ¬ Op.bytesLess b a = true → a = b := by
  intro a
  induction a with
  | nil => intro b h1 h2; cases b with
    | nil => rfl
    | cons y b => simp [Op.bytesLess] at h1
  | cons x a ih =>
    intro b h1 h2
    cases b with
    | nil => simp [Op.bytesLess] at h2
    | cons y b =>
      rw [bl_cons] at h1 h2
      have hxy : x = y := UInt8.toNat_inj.1 (by omega)
      subst hxy
      rw [ih b (fun h => h1 (.inr ⟨rfl, h⟩)) (fun h => h2 (.inr ⟨rfl, h⟩))]
theorem bl_trans : ∀ a b c : List UInt8, Op.bytesLess a b = true → Op.bytesLess b c = true → Op.bytesLess a c = true := by
  intro a
  induction a with
  | nil =>
    intro b c h1 h2
    cases c with
    | nil => cases b <;> simp [Op.bytesLess] at h2
    | cons z c => simp [Op.bytesLess]
  | cons x a ih =>
    intro b c h1 h2
    cases b with
    | nil => simp [Op.bytesLess] at h1
    | cons y b =>
      cases c with
      | nil => simp [Op.bytesLess] at h2
      | cons z c =>
        rw [bl_cons] at h1 h2 ⊢
        rcases h1 with h1 | ⟨rfl, h1⟩
        · rcases h2 with h2 | ⟨rfl, h2⟩
          · left; omega
          · left; exact h1
        · rcases h2 with h2 | ⟨rfl, h2⟩
          · left; exact h2
          · right; exact ⟨rfl, ih _ _ h1 h2⟩
theorem bl_asymm {a b : List UInt8} (h : Op.bytesLess a b = true) : ¬ Op.bytesLess b a = true := fun k => bl_irrefl a (bl_trans _ _ _ h k)

/-- What makes an order by numbers. -/
structure IsCmp {α : Type} (c : α → α → Int) : Prop where
  swap : ∀ x y, c y x = - c x y
  trans : ∀ x y z, c x y ≤ 0 → c y z ≤ 0 → c x z ≤ 0
theorem IsCmp.zero {α : Type} {c : α → α → Int} (h : IsCmp c) (x y z : α) (h1 : c x y ≤ 0) (h2 : c y z ≤ 0) (h3 : c x z = 0) : c x y = 0 ∧ c y z = 0 := by
  have s1 := h.swap x z
  have s2 := h.swap y z
  have s3 := h.swap x y
  have t1 := h.trans z x y (by omega) h1
  have t2 := h.trans y z x h2 (by omega)
  omega
theorem IsCmp.lex {α : Type} {c d : α → α → Int} (hc : IsCmp c) (hd : IsCmp d) : IsCmp (fun x y => if c x y = 0 then d x y else c x y) := by
  constructor
  · intro x y
    have s1 := hc.swap x y
    have s2 := hd.swap x y
    by_cases h : c x y = 0
    · simp only [h, if_true, show c y x = 0 by omega]; exact s2
    · simp only [if_neg h, if_neg (show ¬ c y x = 0 by omega)]; exact s1
  · intro x y z h1 h2
    have a1 : c x y ≤ 0 := by by_cases h : c x y = 0; omega; simpa [h] using h1
    have a2 : c y z ≤ 0 := by by_cases h : c y z = 0; omega; simpa [h] using h2
    have a3 := hc.trans x y z a1 a2
    by_cases h : c x z = 0
    · obtain ⟨z1, z2⟩ := hc.zero x y z a1 a2 h
      simp only [z1, if_true] at h1
      simp only [z2, if_true] at h2
      simp only [h, if_true]
      exact hd.trans x y z h1 h2
    · simp only [if_neg h]; exact a3
theorem isCmp_int {α : Type} (f : α → Int) : IsCmp (fun x y => cmpI (f x) (f y)) := by
  constructor
  · intro x y; simp only [cmpI]; split <;> split <;> (try split) <;> omega
  · intro x y z h1 h2; simp only [cmpI] at *
    by_cases q1 : f y < f x
    · rw [if_neg (by omega), if_pos q1] at h1; omega
    · by_cases q2 : f z < f y
      · rw [if_neg (by omega), if_pos q2] at h2; omega
      · by_cases q3 : f x < f z
        · rw [if_pos q3]; omega
        · rw [if_neg q3, if_neg (by omega)]; omega
theorem toList_inj {a b : ByteArray} (h : a.toList = b.toList) : a = b := by
  rw [ByteArray.toList_eq, ByteArray.toList_eq] at h
  cases a; cases b
  simpa using h
theorem cmpS_lt {a b : ByteArray} (h : Op.bytesLess a.toList b.toList = true) : cmpS a b = -1 ∧ cmpS b a = 1 := by
  refine ⟨if_pos h, ?_⟩
  rw [cmpS, if_neg (bl_asymm h), if_neg]
  intro e; rw [e] at h; exact bl_irrefl _ h
theorem cmpS_self (a : ByteArray) : cmpS a a = 0 := by rw [cmpS, if_neg (bl_irrefl _), if_pos rfl]
theorem cmpS_cases (a b : ByteArray) : Op.bytesLess a.toList b.toList = true ∨ Op.bytesLess b.toList a.toList = true ∨ a = b := by
  by_cases h1 : Op.bytesLess a.toList b.toList = true
  · exact .inl h1
  · by_cases h2 : Op.bytesLess b.toList a.toList = true
    · exact .inr (.inl h2)
    · exact .inr (.inr (toList_inj (bl_tri _ _ h1 h2)))
theorem isCmp_str {α : Type} (f : α → ByteArray) : IsCmp (fun x y => cmpS (f x) (f y)) := by
  constructor
  · intro x y
    rcases cmpS_cases (f x) (f y) with h | h | h
    · have := cmpS_lt h; omega
    · have := cmpS_lt h; omega
    · simp only [h, cmpS_self]; rfl
  · intro x y z h1 h2
    rcases cmpS_cases (f x) (f y) with h | h | h
    · rcases cmpS_cases (f y) (f z) with k | k | k
      · have := cmpS_lt (bl_trans _ _ _ h k); omega
      · have := cmpS_lt k; omega
      · rw [← k]; exact h1
    · have := cmpS_lt h; omega
    · rw [h]; exact h2

theorem cmp_eq (s t : Sp) : s.cmp t = if cmpI s.tr t.tr = 0 then (if cmpI s.st t.st = 0 then (if cmpI s.id t.id = 0 then (if cmpI s.pa t.pa = 0 then (if cmpI s.en t.en = 0 then cmpS s.nm t.nm else cmpI s.en t.en) else cmpI s.pa t.pa) else cmpI s.id t.id) else cmpI s.st t.st) else cmpI s.tr t.tr := by
  simp only [Sp.cmp, Sp.cmpL, orL]
  have h : (if cmpS s.nm t.nm = 0 then (0 : Int) else cmpS s.nm t.nm) = cmpS s.nm t.nm := by
    by_cases h : cmpS s.nm t.nm = 0
    · rw [if_pos h, h]
    · rw [if_neg h]
  rw [h]
theorem isCmp_span : IsCmp Sp.cmp := by
  have h := (isCmp_int Sp.tr).lex ((isCmp_int Sp.st).lex ((isCmp_int Sp.id).lex ((isCmp_int Sp.pa).lex ((isCmp_int Sp.en).lex (isCmp_str Sp.nm)))))
  exact ⟨fun x y => by rw [cmp_eq, cmp_eq]; exact h.swap x y, fun x y z h1 h2 => by rw [cmp_eq] at *; exact h.trans x y z h1 h2⟩
theorem cmpI_zero {a b : Int} (h : cmpI a b = 0) : a = b := by
  simp only [cmpI] at h
  by_cases h1 : a < b
  · rw [if_pos h1] at h; omega
  · by_cases h2 : b < a
    · rw [if_neg h1, if_pos h2] at h; omega
    · omega
theorem cmp_zero {s t : Sp} : s.cmp t = 0 ↔ s = t := by
  constructor
  · intro h
    rw [cmp_eq] at h
    by_cases h1 : cmpI s.tr t.tr = 0
    · rw [if_pos h1] at h
      by_cases h2 : cmpI s.st t.st = 0
      · rw [if_pos h2] at h
        by_cases h3 : cmpI s.id t.id = 0
        · rw [if_pos h3] at h
          by_cases h4 : cmpI s.pa t.pa = 0
          · rw [if_pos h4] at h
            by_cases h5 : cmpI s.en t.en = 0
            · rw [if_pos h5] at h
              have h6 : s.nm = t.nm := by
                rcases cmpS_cases s.nm t.nm with k | k | k
                · have := cmpS_lt k; omega
                · have := cmpS_lt k; omega
                · exact k
              have e1 := cmpI_zero h1
              have e2 := cmpI_zero h2
              have e3 := cmpI_zero h3
              have e4 := cmpI_zero h4
              have e5 := cmpI_zero h5
              cases s; cases t; simp_all
            · rw [if_neg h5] at h; exact absurd h h5
          · rw [if_neg h4] at h; exact absurd h h4
        · rw [if_neg h3] at h; exact absurd h h3
      · rw [if_neg h2] at h; exact absurd h h2
    · rw [if_neg h1] at h; exact absurd h h1
  · rintro rfl
    have := isCmp_span.swap s s
    omega

end Go.Proofs.Ytdjcifeoplgkpaa
