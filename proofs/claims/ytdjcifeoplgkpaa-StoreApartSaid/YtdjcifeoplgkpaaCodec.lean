/-
  The plain law of the spans' bytes: what is put reads back, and what reads is what was put. Condition: numbers below 2^63.
-/
import Derived.Test.YtdjcifeoplgkpaaGet
import Derived.IntWalk
namespace Go.Proofs.Ytdjcifeoplgkpaa
open Go.RowKit

theorem dhi_ne {n : Nat} (h : 0 < n) : 0 < (dhi n).length := by rw [dhi_pos h]; simp
theorem u8_of (n : Nat) (h : n < 256) : (UInt8.ofNat n).toNat = n := by
  rw [UInt8.toNat_ofNat']; exact Nat.mod_eq_of_lt h
theorem u8_back {x : UInt8} {n : Nat} (h : x.toNat = n) : UInt8.ofNat n = x := by rw [← h]; simp
theorem rdNum_dhi (k : Nat) : ∀ n r, (dhi n).length = k → k ≤ 9 → rdNum 0 0 (dhi n ++ r) = rdNum k n r := by
  induction k with
  | zero =>
    intro n r h _
    by_cases h0 : n = 0
    · subst h0; rw [dhi_zero]; rfl
    · have := dhi_ne (n := n) (by omega); omega
  | succ k ih =>
    intro n r h hk
    by_cases h0 : n = 0
    · subst h0; rw [dhi_zero] at h; simp at h
    · rw [dhi_pos (by omega)] at h ⊢
      simp only [List.length_append, List.length_cons, List.length_nil, Nat.zero_add, Nat.add_right_cancel_iff] at h
      rw [List.append_assoc, ih _ _ h (by omega)]
      have hb := u8_of (n % 128 + 128) (by omega)
      rw [List.singleton_append, rdNum, hb, if_neg, if_neg (by omega), if_neg (by omega), show (n / 128 * 128 + (n % 128 + 128) % 128) = n by omega]
      rintro ⟨h1, h2⟩
      by_cases h3 : n / 128 = 0
      · omega
      · have := dhi_ne (n := n / 128) (by omega); omega
theorem rdNum_digits (n : Nat) (r : List UInt8) (h : n < 9223372036854775808) : rdNum 0 0 (digits n ++ r) = (n, (digits n).length, 0) := by
  have hl := dhi_len 8 (n / 128) (by omega)
  have hb := u8_of (n % 128) (by omega)
  rw [digits, List.append_assoc, rdNum_dhi _ _ _ rfl (by omega), List.singleton_append, rdNum, hb, if_neg (by omega), if_neg (by omega), if_pos (by omega)]
  simp only [List.length_append, List.length_cons, List.length_nil, Nat.zero_add, Prod.mk.injEq, and_true]
  omega
theorem rdNum_back : ∀ (l : List UInt8) (n m k : Nat), rdNum (dhi n).length n l = (m, k, 0) → dhi n ++ l = digits m ++ l.drop (k - (dhi n).length) ∧ k = (digits m).length := by
  intro l
  induction l with
  | nil => intro n m k h; simp [rdNum] at h
  | cons x r ih =>
    intro n m k h
    have hx : x.toNat < 256 := x.toNat_lt
    rw [rdNum] at h
    by_cases h1 : (dhi n).length = 0 ∧ x.toNat = 128
    · rw [if_pos h1] at h; simp at h
    · rw [if_neg h1] at h
      by_cases h2 : (dhi n).length = 9
      · rw [if_pos h2] at h; simp at h
      · rw [if_neg h2] at h
        by_cases h3 : x.toNat < 128
        · rw [if_pos h3] at h
          simp only [Prod.mk.injEq, and_true] at h
          obtain ⟨rfl, rfl⟩ := h
          have e1 : (n * 128 + x.toNat % 128) / 128 = n := by omega
          have e2 : (n * 128 + x.toNat % 128) % 128 = x.toNat := by omega
          have e3 : digits (n * 128 + x.toNat % 128) = dhi n ++ [x] := by rw [digits, e1, e2, u8_back rfl]
          rw [e3, Nat.add_sub_cancel_left]
          simp
        · rw [if_neg h3] at h
          have e1 : (n * 128 + x.toNat % 128) / 128 = n := by omega
          have e2 : (n * 128 + x.toNat % 128) % 128 + 128 = x.toNat := by omega
          have hp : 0 < n * 128 + x.toNat % 128 := by
            by_cases h0 : n = 0
            · subst h0; rw [dhi_zero] at h1; simp at h1; omega
            · omega
          have e3 : dhi (n * 128 + x.toNat % 128) = dhi n ++ [x] := by rw [dhi_pos hp, e1, e2, u8_back rfl]
          have e4 : (dhi (n * 128 + x.toNat % 128)).length = (dhi n).length + 1 := by rw [e3]; simp
          have := ih (n * 128 + x.toNat % 128) m k (by rw [e4]; exact h)
          refine ⟨?_, this.2⟩
          have h5 := this.1
          rw [e4, e3, List.append_assoc, List.singleton_append] at h5
          have hk : (dhi n).length + 1 ≤ k := by
            have hlen := congrArg List.length h5
            simp only [List.length_append, List.length_cons, List.length_drop] at hlen
            have h7 := this.2
            by_cases hh : (dhi n).length + 1 ≤ k
            · exact hh
            · rw [show k - ((dhi n).length + 1) = 0 by omega] at hlen; omega
          rw [h5, show k - (dhi n).length = (k - ((dhi n).length + 1)) + 1 by omega, List.drop_succ_cons]

theorem scNum_enc {l r : List UInt8} {at_ n : Nat} (h : l.drop at_ = digits n ++ r) (hn : n < 9223372036854775808) : scNum l at_ 0 = (n, at_ + (digits n).length, 0) := by
  rw [scNum, if_pos rfl, h, rdNum_digits n r hn]
theorem drop_on {l a r : List UInt8} {at_ : Nat} (h : l.drop at_ = a ++ r) : l.drop (at_ + a.length) = r := by
  rw [← List.drop_drop, h, List.drop_left]
theorem scNum_dec {l : List UInt8} {at_ m k : Nat} {err : Int} (h : scNum l at_ err = (m, k, 0)) : l.drop at_ = digits m ++ l.drop k ∧ k = at_ + (digits m).length := by
  have he : err = 0 := by
    rw [scNum] at h
    by_cases he : err = 0
    · exact he
    · rw [if_neg he] at h; simp at h; exact absurd h.2.2 he
  subst he
  rw [scNum, if_pos rfl] at h
  simp only [Prod.mk.injEq] at h
  obtain ⟨h1, h2, h3⟩ := h
  have hb := rdNum_back (l.drop at_) 0 m (rdNum 0 0 (l.drop at_)).2.1 (by rw [dhi_zero, List.length_nil]; rw [← h1, ← h3])
  rw [dhi_zero, List.nil_append, List.length_nil, Nat.sub_zero, List.drop_drop, h2] at hb
  exact ⟨hb.1, by omega⟩
theorem scText_enc {l tx r : List UInt8} {at_ : Nat} (h : l.drop at_ = digits tx.length ++ tx ++ r) (ht : tx.length ≤ 32) : scText 32 l at_ 0 = (tx, at_ + (digits tx.length).length + tx.length, 0) := by
  rw [List.append_assoc] at h
  have h1 := scNum_enc h (by omega)
  have h2 := drop_on h
  have h3 : tx.length ≤ l.length - (at_ + (digits tx.length).length) := by
    have := congrArg List.length h2
    simp only [List.length_drop, List.length_append] at this; omega
  rw [scText_eq, h1]
  dsimp only
  rw [if_neg (by simp), if_neg (by omega), if_neg (by omega), h2, List.take_left]
theorem scText_dec {l tx : List UInt8} {at_ k : Nat} {err : Int} (h : scText 32 l at_ err = (tx, k, 0)) : l.drop at_ = digits tx.length ++ tx ++ l.drop k ∧ k = at_ + (digits tx.length).length + tx.length := by
  rw [scText_eq] at h
  generalize hq : scNum l at_ err = q at h
  obtain ⟨m, k1, e1⟩ := q
  simp only at h
  by_cases h1 : e1 ≠ 0
  · rw [if_pos h1] at h; simp at h; exact absurd h.2.2 h1
  · rw [if_neg h1] at h
    obtain rfl : e1 = 0 := by omega
    by_cases h2 : 32 < m
    · rw [if_pos h2] at h; simp at h
    · rw [if_neg h2] at h
      by_cases h3 : l.length - k1 < m
      · rw [if_pos h3] at h; simp at h
      · rw [if_neg h3] at h
        simp only [Prod.mk.injEq, and_true] at h
        obtain ⟨rfl, rfl⟩ := h
        have hd := scNum_dec hq
        have hl : ((l.drop k1).take m).length = m := by rw [List.length_take, List.length_drop]; omega
        rw [hl, List.append_assoc, ← List.drop_drop, List.take_append_drop]
        exact ⟨hd.1, by omega⟩

theorem Sp.enc_eq (s : Sp) : s.enc = digits s.tr.toNat ++ (digits s.id.toNat ++ (digits s.pa.toNat ++ (digits s.st.toNat ++ (digits (s.en - s.st).toNat ++ (digits s.nm.data.toList.length ++ s.nm.data.toList))))) := by
  have : s.nm.data.toList.length = s.nm.size := rfl
  rw [this]
  simp only [Sp.enc, numsEnc, Sp.nums, List.flatMap_cons, List.flatMap_nil, List.append_nil, List.append_assoc]
theorem scTake_enc {l r : List UInt8} {at_ : Nat} {s : Sp} (h : l.drop at_ = s.enc ++ r) (hs : s.ok = true) : scTake l at_ 0 = (s, at_ + s.enc.length, 0) := by
  have hp := Sp.ok_parts hs
  have hsz : s.nm.data.toList.length = s.nm.size := rfl
  have hE := s.enc_eq
  rw [hE] at h
  simp only [List.append_assoc] at h
  have h1 := scNum_enc h (by omega)
  have d1 := drop_on h
  have h2 := scNum_enc d1 (by omega)
  have d2 := drop_on d1
  have h3 := scNum_enc d2 (by omega)
  have d3 := drop_on d2
  have h4 := scNum_enc d3 (by omega)
  have d4 := drop_on d3
  have h5 := scNum_enc d4 (by omega)
  have d5 := drop_on d4
  rw [← List.append_assoc] at d5
  have h6 := scText_enc d5 (by omega)
  rw [scTake_of h1 h2 h3 h4 h5 h6]
  have e1 : ((s.tr.toNat : Nat) : Int) = s.tr := by omega
  have e2 : ((s.id.toNat : Nat) : Int) = s.id := by omega
  have e3 : ((s.pa.toNat : Nat) : Int) = s.pa := by omega
  have e4 : ((s.st.toNat : Nat) : Int) = s.st := by omega
  have e5 : (((s.en - s.st).toNat : Nat) : Int) = s.en - s.st := by omega
  have e6 : wrap64 (s.st + (s.en - s.st)) = s.en := by rw [IntWalk.wrap64_in _ ⟨by omega, by omega⟩]; omega
  rw [e1, e2, e3, e4, e5, if_neg (by omega), e6, hE]
  simp only [List.length_append, Prod.mk.injEq, and_true]
  refine ⟨?_, by omega⟩
  cases s; simp
theorem scTake_dec {l : List UInt8} {at_ k : Nat} {err : Int} {s : Sp} (h : scTake l at_ err = (s, k, 0)) (hs : s.ok = true) : l.drop at_ = s.enc ++ l.drop k ∧ k = at_ + s.enc.length := by
  have hp := Sp.ok_parts hs
  generalize q1 : scNum l at_ err = p1 at *
  obtain ⟨n1, a1, e1⟩ := p1
  generalize q2 : scNum l a1 e1 = p2 at *
  obtain ⟨n2, a2, e2⟩ := p2
  generalize q3 : scNum l a2 e2 = p3 at *
  obtain ⟨n3, a3, e3⟩ := p3
  generalize q4 : scNum l a3 e3 = p4 at *
  obtain ⟨n4, a4, e4⟩ := p4
  generalize q5 : scNum l a4 e4 = p5 at *
  obtain ⟨n5, a5, e5⟩ := p5
  generalize q6 : scText 32 l a5 e5 = p6 at *
  obtain ⟨tx, a6, e6⟩ := p6
  rw [scTake_of q1 q2 q3 q4 q5 q6] at h
  simp only [Prod.mk.injEq] at h
  obtain ⟨hS, rfl, rfl⟩ := h
  have z5 : e5 = 0 := (scNum_err (l := l) (at_ := a5) (err := e5) (scText_err (most := 32) (by rw [q6])).1).1
  subst z5
  have z4 : e4 = 0 := (scNum_err (l := l) (at_ := a4) (err := e4) (by rw [q5])).1
  subst z4
  have z3 : e3 = 0 := (scNum_err (l := l) (at_ := a3) (err := e3) (by rw [q4])).1
  subst z3
  have z2 : e2 = 0 := (scNum_err (l := l) (at_ := a2) (err := e2) (by rw [q3])).1
  subst z2
  have z1 : e1 = 0 := (scNum_err (l := l) (at_ := a1) (err := e1) (by rw [q2])).1
  subst z1
  have d1 := scNum_dec q1
  have d2 := scNum_dec q2
  have d3 := scNum_dec q3
  have d4 := scNum_dec q4
  have d5 := scNum_dec q5
  have d6 := scText_dec q6
  subst hS
  simp only at hp
  by_cases hb : (1099511627776 : Int) < n5
  · rw [if_pos hb] at hp; omega
  · have hw : wrap64 ((n4 : Int) + n5) = n4 + n5 := IntWalk.wrap64_in _ ⟨by omega, by omega⟩
    rw [Sp.enc_eq]
    simp only [if_neg hb, hw]
    have e5 : ((n4 : Int) + n5 - n4).toNat = n5 := by omega
    rw [e5]
    simp only [Int.toNat_natCast]
    rw [d1.1, d2.1, d3.1, d4.1, d5.1, d6.1]
    simp only [List.append_assoc, List.length_append]
    exact ⟨trivial, by omega⟩

theorem getLoop_enc (l r : List UInt8) : ∀ (sps : List Sp) (acc : List Sp) (at_ : Nat), (∀ s ∈ sps, s.ok = true) → l.drop at_ = encL sps ++ r →
    getLoop l sps.length acc at_ 0 = some (acc ++ sps, at_ + (encL sps).length, 0) := by
  intro sps
  induction sps with
  | nil => intro acc at_ _ _; simp [getLoop, encL]
  | cons s sps ih =>
    intro acc at_ hs h
    have hE : encL (s :: sps) = s.enc ++ encL sps := rfl
    rw [hE, List.append_assoc] at h
    have h1 := scTake_enc h (hs s (by simp))
    rw [List.length_cons, getLoop, h1, if_pos ⟨rfl, hs s (by simp)⟩]
    simp only
    rw [ih (acc ++ [s]) _ (fun x hx => hs x (by simp [hx])) (drop_on h), hE]
    simp [Nat.add_assoc]
theorem getLoop_dec (l : List UInt8) : ∀ (k : Nat) (acc res : List Sp) (at_ a : Nat) (err : Int), getLoop l k acc at_ err = some (res, a, 0) →
    ∃ sps, res = acc ++ sps ∧ sps.length = k ∧ (∀ s ∈ sps, s.ok = true) ∧ l.drop at_ = encL sps ++ l.drop a := by
  intro k
  induction k with
  | zero =>
    intro acc res at_ a err h
    simp only [getLoop, Option.some.injEq, Prod.mk.injEq] at h
    obtain ⟨rfl, rfl, _⟩ := h
    exact ⟨[], by simp, rfl, by simp, by simp [encL]⟩
  | succ k ih =>
    intro acc res at_ a err h
    rw [getLoop] at h
    generalize hq : scTake l at_ err = q at h
    obtain ⟨s, a1, e1⟩ := q
    simp only at h
    by_cases hc : e1 = 0 ∧ s.ok = true
    · rw [if_pos hc] at h
      obtain ⟨sps, rfl, hl, ho, hd⟩ := ih _ _ _ _ _ h
      obtain ⟨rfl, hs⟩ := hc
      have hd1 := scTake_dec hq hs
      refine ⟨s :: sps, by simp, by simp [hl], ?_, ?_⟩
      · intro x hx
        rcases List.mem_cons.1 hx with rfl | hx
        · exact hs
        · exact ho x hx
      · rw [hd1.1, hd, show encL (s :: sps) = s.enc ++ encL sps from rfl, List.append_assoc]
    · rw [if_neg hc] at h; simp at h

/-- What is put reads back. -/
theorem get_put (l : List Sp) (h : l.all Sp.ok = true) (hl : l.length < 9223372036854775808) : getAns (putEnc l) = (l, 0) := by
  have ho : ∀ s ∈ l, s.ok = true := List.all_eq_true.1 h
  have h0 : (putEnc l).drop 0 = digits l.length ++ encL l := rfl
  have h1 := scNum_enc h0 hl
  have h2 : (putEnc l).drop (0 + (digits l.length).length) = encL l ++ [] := by rw [drop_on h0]; simp
  rw [getAns, h1]
  simp only
  rw [getLoop_enc _ _ l [] _ ho h2]
  have hz : scEnd (putEnc l) (0 + (digits l.length).length + (encL l).length) 0 = 0 := by
    rw [scEnd, if_neg]
    simp [putEnc]
  simp only [getFin, List.nil_append]
  rw [if_pos hz]
/-- What reads is what was put. -/
theorem put_get (l : List UInt8) : (∃ sps, getAns l = (sps, 0) ∧ sps.all Sp.ok = true ∧ putEnc sps = l) ∨ getAns l = ([], 30) := by
  rw [getAns]
  generalize hn : scNum l 0 0 = q
  obtain ⟨n, a, e⟩ := q
  simp only
  cases hg : getLoop l n [] a e with
  | none => exact .inr rfl
  | some t =>
    obtain ⟨sps, a1, e1⟩ := t
    simp only [getFin]
    by_cases hz : scEnd l a1 e1 = 0
    · rw [if_pos hz]
      left
      rw [scEnd] at hz
      by_cases h3 : e1 = 0 ∧ a1 < l.length
      · rw [if_pos h3] at hz; simp at hz
      · rw [if_neg h3] at hz
        subst hz
        obtain ⟨s2, h4, h5, h6, h7⟩ := getLoop_dec l n [] sps a a1 e hg
        rw [List.nil_append] at h4
        subst h4
        have he : e = 0 := by
          cases n with
          | zero => simp [getLoop] at hg; exact hg.2.2
          | succ n =>
            rw [getLoop] at hg
            by_cases hc : (scTake l a e).2.2 = 0 ∧ (scTake l a e).1.ok = true
            · exact (scTake_err hc.1).1
            · rw [if_neg hc] at hg; simp at hg
        subst he
        have hd := scNum_dec hn
        refine ⟨sps, rfl, List.all_eq_true.2 h6, ?_⟩
        have h8 : l.drop a1 = [] := List.drop_eq_nil_of_le (by omega)
        rw [h8, List.append_nil] at h7
        rw [List.drop_zero, h7] at hd
        rw [putEnc, h5]; exact hd.1.symm
    · rw [if_neg hz]; exact .inr rfl
theorem putAns_ok {l : List Sp} (h : l.all Sp.ok = true) : putAns l = (putEnc l, 0) := by rw [putAns, if_pos h]
theorem putAns_no {l : List Sp} (h : l.all Sp.ok = false) : putAns l = ([], 30) := by rw [putAns, if_neg (by simp [h])]
theorem encL_ge (l : List Sp) : l.length ≤ (encL l).length := by
  induction l with
  | nil => simp
  | cons s l ih =>
    have h : 1 ≤ s.enc.length := by
      rw [Sp.enc_eq]; simp only [List.length_append, digits, List.length_cons, List.length_nil]; omega
    simp only [encL, List.flatMap_cons, List.length_append, List.length_cons] at ih ⊢; omega
theorem putEnc_ge (l : List Sp) : l.length ≤ (putEnc l).length := by
  have := encL_ge l; simp only [putEnc, List.length_append]; omega
end Go.Proofs.Ytdjcifeoplgkpaa
